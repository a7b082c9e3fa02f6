/-
  Loops over maps: the iterator, its entry; the step, whichever entry it hands out.
-/
import Derived.Test.YtgielkefgliiiaaEngLE
import Derived.Maps.RangeRun
namespace Go.Eng

section
variable (P : Program) (F : Facts)

/-- The iterator, its map's entries, which of them have been handed out, and the last one. -/
def iterD (h : T Blk) (t : T DV) (it : Operand) : Option (Nat × Nat × List E × Option Nat × List (DV × DV)) :=
  match opd t it with
  | some (.ptr id ⟨0, []⟩) => match h.get id with
    | some (.itb mp seen last) => match h.get mp with
      | some (.mpb es) => if es.length = seen.length then some (id, mp, seen, last, es) else none
      | _ => none
    | _ => none
  | _ => none

def valF (h : T Blk) (t : T DV) : Op → Option DV
  | .entry it => match iterD h t it with
    | some (_, _, _, some i, es) => match es[i]? with
      | some (k, v) => some (.tup [k, v])
      | none => none
    | _ => none
  | _ => none

def memF (h : T Blk) (n : Nat) (t : T DV) : Op → Option Out
  | .range ty x => match P.underlying ty, opd t x with
    | some (.map _ _), some (.mp id) => match h.get id with
      | some (.mpb es) => some ⟨.ptr n ⟨0, []⟩, h.set n (.itb id (List.replicate es.length (.lb false)) none), n + 1⟩
      | _ => none
    | _, _ => none
  | _ => none

def valD (h : T Blk) (t : T DV) (op : Op) : Option DV := match valDE P F h t op with
  | some d => some d
  | none => valF h t op

def memD (h : T Blk) (n : Nat) (t : T DV) (op : Op) : Option Out := match memDE P F h n t op with
  | some r => some r
  | none => memF P h n t op

variable {P} {F}

theorem born_nodup {en : Array MapEntry} (h : en.toList.map (·.born) = List.range en.size) : (en.toList.map (·.born)).Nodup := by
  rw [h]; exact List.nodup_range

theorem born_at {en : Array MapEntry} (h : en.toList.map (·.born) = List.range en.size) {i : Nat} {e : MapEntry} (he : en.toList[i]? = some e) : e.born = i := by
  have h1 : (en.toList.map (·.born))[i]? = some e.born := by rw [List.getElem?_map, he]; rfl
  rw [h] at h1
  have hlt := (List.getElem?_eq_some_iff.1 h1).1
  have h2 := (List.getElem?_eq_some_iff.1 h1).2
  simp at h2
  exact h2.symm

/-- What an iterator that is known is. -/
theorem iterD_spec {m : Emb} {ρ : Env} {h : T Blk} {t : T DV} {a : Act} {w : World} (hH : HeapR m ρ h w) (ht : TmpR m ρ t a) {it : Operand} {id mp : Nat} {seen : List E} {last : Option Nat} {es : List (DV × DV)} (hd : iterD h t it = some (id, mp, seen, last, es)) :
    ∃ (r bm : Nat) (sn : Array Nat) (en : Array MapEntry), a.eval it = .pointer (some ⟨r, 0, none⟩) ∧ m.ι id = some r ∧ m.ι mp = some bm ∧ w.heap[r]? = some (.mapIter (some bm) seen.length sn seen.length) ∧ w.heap[bm]? = some (.map en seen.length) ∧
      h.get id = some (.itb mp seen last) ∧ h.get mp = some (.mpb es) ∧ es.length = seen.length ∧ en.size = seen.length ∧ en.toList.map (·.born) = List.range en.size ∧
      DV.RL m ρ (es.map (·.1)) (en.toList.map (·.key)) ∧ DV.RL m ρ (es.map (·.2)) (en.toList.map (·.val)) ∧
      (∀ (i : Nat) (e : E), seen[i]? = some e → (sn.contains i = (e.ev ρ).bool)) ∧ ∀ i, last = some i → ∃ s0 : Array Nat, sn = s0.push i := by
  unfold iterD at hd
  split at hd
  · rename_i id' hp
    split at hd
    · rename_i mp' seen' last' hb
      split at hd
      · rename_i es' hm
        split at hd
        · rename_i hlen
          cases hd
          have h1 := opd_R ht hp
          simp only [DV.R] at h1
          obtain ⟨r, hr, hv⟩ := h1
          obtain ⟨r', o, g1, g2, g3⟩ := hH.blk _ _ hb rfl
          rw [hr] at g1; cases g1
          obtain ⟨bm, sn, rfl, k1, k2, k3⟩ := g3
          obtain ⟨bm', o', q1, q2, q3⟩ := hH.blk _ _ hm rfl
          rw [k1] at q1; cases q1
          obtain ⟨en, clk, rfl, e1, e2, e3, e4⟩ := q3
          have hsz : en.size = es.length := by have := e1.length; simpa using this
          refine ⟨r, bm, sn, en, ?_, hr, k1, g2, ?_, hb, hm, hlen, by omega, e4, e1, e2, k2, k3⟩
          · simpa [Off.den, sumT] using hv
          · rw [q2, e3, hsz, hlen]
        · cases hd
      · cases hd
    · cases hd
  · cases hd

theorem memF_sound {m : Emb} {ρ : Env} {h : T Blk} {n : Nat} {t : T DV} {a : Act} {w : World} (hH : HeapR m ρ h w) (ht : TmpR m ρ t a) (hf : ∀ id, n ≤ id → m.ι id = none) {o : Oper} {r : Out}
    (hd : memF P h n t o.op = some r) : OpOk m ρ h w ((execOp a.eval o).run P w) r := by
  obtain ⟨dst, op, type, pos, after, guard⟩ := o
  simp only at hd
  cases op <;> simp only [memF, reduceCtorEq] at hd
  case range ty x =>
    split at hd
    · rename_i kt et id hty hx
      split at hd
      · rename_i es hm
        cases hd
        have h1 := opd_R ht hx
        simp only [DV.R] at h1
        obtain ⟨bm, hb, hv⟩ := h1
        obtain ⟨bm', o', q1, q2, q3⟩ := hH.blk _ _ hm rfl
        rw [hb] at q1; cases q1
        obtain ⟨en, clk, rfl, e1, e2, e3, e4⟩ := q3
        have hsz : en.size = es.length := by have := e1.length; simpa using this
        have hrun := run_range_map (P := P) w ty kt et bm en clk hty q2
        have hid : id < n := by
          rcases Nat.lt_or_ge id n with hlt | hge
          · exact hlt
          · rw [hf id hge] at hb; cases hb
        refine new_ok (k := 0) (o := .mapIter (some bm) clk #[] clk) (v := .pointer (some ⟨w.heap.size, 0, none⟩)) hH hf ?_ ?_ ?_
        · refine ⟨bm, #[], by simp [e3, hsz], hb, fun i e he => ?_, fun i hi => by cases hi⟩
          rw [List.getElem?_replicate] at he
          split at he
          · cases he; simp [E.ev]
          · cases he
        · simp only [DV.R]
          exact ⟨w.heap.size, by simp [Emb.put], by simp [Off.den, sumT]⟩
        · simp only [execOp, Sem.run_bind, hv, hrun, Result.andThen_ok, Sem.run_pure]
      · cases hd
    · cases hd

theorem valF_sound {m : Emb} {ρ : Env} {h : T Blk} {t : T DV} {a : Act} {w : World} (hH : HeapR m ρ h w) (ht : TmpR m ρ t a) {o : Oper} {d : DV} (hd : valF h t o.op = some d) :
    ∃ v, (execOp a.eval o).run P w = .ok (.value v) w ∧ d.R m ρ v := by
  obtain ⟨dst, op, type, pos, after, guard⟩ := o
  simp only at hd
  cases op <;> simp only [valF, reduceCtorEq] at hd
  case entry it =>
    split at hd
    · rename_i id mp seen i es hit
      split at hd
      · rename_i k v hkv
        cases hd
        obtain ⟨r, bm, sn, en, h1, h2, h3, h4, h5, h6, h7, h8, h9, h10, h11, h12, h13, h14⟩ := iterD_spec hH ht hit
        obtain ⟨s0, rfl⟩ := h14 i rfl
        have hi : i < en.toList.length := by
          have := (List.getElem?_eq_some_iff.1 hkv).1
          simp; omega
        have he : en.toList[i]? = some en.toList[i] := List.getElem?_eq_getElem hi
        have hborn := born_at h10 he
        have hrun := run_entry_at (P := P) w r bm seen.length s0 en seen.length en.toList[i] (by rw [hborn]; exact h4) h5 (List.getElem_mem hi) (born_nodup h10)
        refine ⟨.tuple #[en.toList[i].key, en.toList[i].val], by simp only [execOp, Sem.run_bind, h1, hrun, Result.andThen_ok, Sem.run_pure], ?_⟩
        obtain ⟨vk, g1, g2⟩ := h11.get (i := i) (d := k) (by rw [List.getElem?_map, hkv]; rfl)
        obtain ⟨vv, g3, g4⟩ := h12.get (i := i) (d := v) (by rw [List.getElem?_map, hkv]; rfl)
        rw [List.getElem?_map, he] at g1 g3
        simp only [Option.map_some, Option.some.injEq] at g1 g3
        simp only [DV.R, DV.RL]
        exact ⟨_, rfl, _, _, rfl, by rw [g1]; exact g2, _, _, rfl, by rw [g3]; exact g4, rfl⟩
      · cases hd
    · cases hd

theorem valD_sound {m : Emb} {ρ : Env} (hF : F.ok ρ) {h : T Blk} {t : T DV} {a : Act} {w : World} (hH : HeapR m ρ h w) (ht : TmpR m ρ t a) {o : Oper} {d : DV} (hd : valD P F h t o.op = some d) :
    ∃ v, (execOp a.eval o).run P w = .ok (.value v) w ∧ d.R m ρ v := by
  unfold valD at hd
  split at hd
  · rename_i d' h'; cases hd; exact valDE_sound hF hH ht h'
  · exact valF_sound hH ht hd

theorem memD_sound {m : Emb} {ρ : Env} (hF : F.ok ρ) {h : T Blk} {n : Nat} {t : T DV} {a : Act} {w : World} (hH : HeapR m ρ h w) (ht : TmpR m ρ t a) (hf : ∀ id, n ≤ id → m.ι id = none) {o : Oper} {r : Out}
    (hd : memD P F h n t o.op = some r) : OpOk m ρ h w ((execOp a.eval o).run P w) r := by
  unfold memD at hd
  split at hd
  · rename_i r' h'; cases hd; exact memDE_sound hF hH ht hf h'
  · exact memF_sound hH ht hf hd

/-- The step of a loop over a map: all have been handed out, or one is that has not been. -/
theorem next_run {m : Emb} {ρ : Env} {h : T Blk} {t : T DV} {a : Act} {w : World} (hH : HeapR m ρ h w) (ht : TmpR m ρ t a) {it : Operand} {id mp : Nat} {seen : List E} {last : Option Nat} {es : List (DV × DV)} (hd : iterD h t it = some (id, mp, seen, last, es)) (ty : TypeId) :
    ((∀ e ∈ seen, (e.ev ρ).bool = true) ∧ (Instr.next (a.eval it) false ty).run P w = .ok (.tuple #[.bool false]) w) ∨
    ∃ (i : Nat) (e : E) (k v : DV) (vk vv : Value) (w' : World), seen[i]? = some e ∧ (e.ev ρ).bool = false ∧ es[i]? = some (k, v) ∧ k.R m ρ vk ∧ v.R m ρ vv ∧
      (Instr.next (a.eval it) false ty).run P w = .ok (.tuple #[.bool true, vk, vv]) w' ∧
      HeapR m ρ (h.set id (.itb mp (seen.set i (.lb true)) (some i))) w' ∧ Trans m h w m (h.set id (.itb mp (seen.set i (.lb true)) (some i))) w' := by
  obtain ⟨r, bm, sn, en, h1, h2, h3, h4, h5, h6, h7, h8, h9, h10, h11, h12, h13, h14⟩ := iterD_spec hH ht hd
  have hold : ∀ x ∈ en.toList, x.born < seen.length := fun x hx => by
    obtain ⟨i, hi⟩ := List.mem_iff_getElem?.1 hx
    rw [born_at h10 hi]
    have := (List.getElem?_eq_some_iff.1 hi).1
    simp at this; omega
  rcases run_next_at (P := P) w ty r bm seen.length seen.length sn en seen.length h4 h5 hold (Nat.le_refl _) with ⟨h0, hrun⟩ | ⟨e, he, w1, hw1, hrun⟩
  · left
    refine ⟨fun x hx => ?_, by rw [h1]; exact hrun⟩
    obtain ⟨i, hi⟩ := List.mem_iff_getElem?.1 hx
    have hlt := (List.getElem?_eq_some_iff.1 hi).1
    have hi' : i < en.toList.length := by simp; omega
    have hei : en.toList[i]? = some en.toList[i] := List.getElem?_eq_getElem hi'
    have hb := born_at h10 hei
    rw [← h13 i x hi]
    cases hc : sn.contains i with
    | true => rfl
    | false =>
      have : en.toList[i] ∈ (leftOf en sn).toList := by
        unfold leftOf
        simp only [Array.toList_filter, List.mem_filter]
        exact ⟨List.getElem_mem hi', by rw [hb, hc]; rfl⟩
      have h00 : (leftOf en sn).toList = [] := List.eq_nil_of_length_eq_zero (by simpa using h0)
      rw [h00] at this; cases this
  · right
    unfold leftOf at he
    simp only [Array.toList_filter, List.mem_filter] at he
    obtain ⟨i, hi⟩ := List.mem_iff_getElem?.1 he.1
    have hb := born_at h10 hi
    have hlt := (List.getElem?_eq_some_iff.1 hi).1
    have hlt' : i < seen.length := by simp at hlt; omega
    have hse : seen[i]? = some seen[i] := List.getElem?_eq_getElem hlt'
    have hle : i < es.length := by omega
    have hes : es[i]? = some (es[i].1, es[i].2) := List.getElem?_eq_getElem hle
    have hnot : sn.contains i = false := by have := he.2; rw [hb] at this; simpa using this
    obtain ⟨vk, g1, g2⟩ := h11.get (i := i) (d := es[i].1) (by rw [List.getElem?_map, hes]; rfl)
    obtain ⟨vv, g3, g4⟩ := h12.get (i := i) (d := es[i].2) (by rw [List.getElem?_map, hes]; rfl)
    rw [List.getElem?_map, hi] at g1 g3
    simp only [Option.map_some, Option.some.injEq] at g1 g3
    have hrlt := (Array.getElem?_eq_some_iff.1 h4).1
    have hheap : w1.heap = w.heap ∧ w1.tape = w.tape ∧ w1.os = w.os ∧ w1.output = w.output := by rcases hw1 with rfl | rfl <;> exact ⟨rfl, rfl, rfl, rfl⟩
    have hat : (ChangeMaps.setBlock w1 r (.mapIter (some bm) seen.length (sn.push e.born) seen.length)).heap[r]? = some (.mapIter (some bm) seen.length (sn.push e.born) seen.length) := by
      simp [ChangeMaps.setBlock, hheap.1, hrlt]
    have hother : ∀ c, c ≠ r → (ChangeMaps.setBlock w1 r (.mapIter (some bm) seen.length (sn.push e.born) seen.length)).heap[c]? = w.heap[c]? := fun c hc => by
      simp only [ChangeMaps.setBlock, hheap.1]
      exact Array.getElem?_setIfInBounds_ne (fun e => hc e.symm)
    have hblk : (Blk.itb mp (seen.set i (.lb true)) (some i)).R m ρ (m.κ id) (.mapIter (some bm) seen.length (sn.push e.born) seen.length) := by
      refine ⟨bm, sn.push e.born, by simp, h3, fun j x hj => ?_, fun j hj => ⟨sn, by cases hj; rw [hb]⟩⟩
      rw [List.getElem?_set] at hj
      rw [Array.contains_push, hb]
      split at hj
      · rename_i eij
        subst eij
        cases hj
        simp [E.ev]
      · rename_i eij
        rw [h13 j x hj]
        have : (j == i) = false := by simp; omega
        simp [this]
    refine ⟨i, seen[i], es[i].1, es[i].2, vk, vv, _, hse, by rw [← h13 i _ hse]; exact hnot, hes, g2, g4, by rw [h1, hrun, g1, g3], ?_, ?_⟩
    · exact hH.write h6 rfl h2 hat hblk rfl hother
    · exact Trans.write h6 rfl h2 hother (by simp [ChangeMaps.setBlock, hheap.1]) (by simp [ChangeMaps.setBlock, hheap.2.1]) (by simp [ChangeMaps.setBlock, hheap.2.2.1]) (by simp [ChangeMaps.setBlock, hheap.2.2.2])
end
end Go.Eng
