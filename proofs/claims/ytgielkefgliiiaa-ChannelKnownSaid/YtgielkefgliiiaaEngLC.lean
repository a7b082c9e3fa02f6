/-
  Bytes of strings.
-/
import Derived.Test.YtgielkefgliiiaaEngLB
import Derived.Lib.ConvBytes
namespace Go.Eng

/-- What is known stays known where a block is laid. -/
theorem HeapR.grow {m : Emb} {ρ : Env} {h : T Blk} {w w' : World} (hr : HeapR m ρ h w) {id n : Nat} (hid : m.ι id = none) {B : Blk} {o : Obj}
    (hold : ∀ j, j < w.heap.size → w'.heap[j]? = w.heap[j]?) (hnew : w'.heap[w.heap.size]? = some o)
    (hB : B.R (m.put id w.heap.size n) ρ n o) : HeapR (m.put id w.heap.size n) ρ (h.set id B) w' where
  blk := fun i C hC hl => by
    rw [T.get_set] at hC
    split at hC
    · rename_i e; cases hC; subst e
      exact ⟨w.heap.size, o, by simp [Emb.put], hnew, by simpa [Emb.put] using hB⟩
    · rename_i e
      obtain ⟨b, p, h1, h2, h3⟩ := hr.blk i C hC hl
      refine ⟨b, p, by simp [Emb.put, e, h1], ?_, by simpa [Emb.put, e] using h3.mono (Emb.le_put hid)⟩
      rw [hold b (Array.getElem?_eq_some_iff.1 h2).1]
      exact h2
  inj := fun i j C D b hC hD hrw hl hi hj => by
    rw [T.get_set] at hC hD
    split at hC
    · rename_i e; subst e
      split at hD
      · rename_i e'; exact e'.symm
      · rename_i e'
        simp [Emb.put] at hi
        simp [Emb.put, e'] at hj
        have := hr.lt hD hl hj
        omega
    · rename_i e
      split at hD
      · rename_i e'; subst e'
        simp [Emb.put] at hj
        simp [Emb.put, e] at hi
        have := hr.lt hC (Blk.live_of_rw hrw) hi
        omega
      · rename_i e'
        simp [Emb.put, e, e'] at hi hj
        exact hr.inj i j C D b hC hD hrw hl hi hj

theorem Trans.grow {m : Emb} {h : T Blk} {w w' : World} {id n : Nat} (hid : m.ι id = none) (B : Blk) (hold : ∀ j, j < w.heap.size → w'.heap[j]? = w.heap[j]?) (hsz : w'.heap.size = w.heap.size + 1)
    (ht : w'.tape = w.tape) (ho : w'.os = w.os) (hout : w'.output = w.output) : Trans m h w (m.put id w.heap.size n) (h.set id B) w' where
  ext := Emb.le_put hid
  size := by omega
  frame := fun b hb _ => hold b hb
  fp := fun b ⟨i, C, hC, hrw, hi⟩ => by
    rw [T.get_set] at hC
    split at hC
    · rename_i e; subst e; simp [Emb.put] at hi; exact .inr (by omega)
    · rename_i e; simp [Emb.put, e] at hi; exact .inl ⟨i, C, hC, hrw, hi⟩
  tape := ht
  os := ho
  output := hout

section
variable (P : Program) (F : Facts)

def memC (h : T Blk) (n : Nat) (t : T DV) : Op → Option Out
  | .convert src dst x => match P.underlying src, P.underlying dst, opd t x with
    | some _, some (.slice e), some (.str s) => match P.underlying e, lenS s with
      | some (.int .u8), .li k => if 0 ≤ k then
          some ⟨.slc n ⟨0, []⟩ (.li k) (.own (.li 0)), h.set n (.cells ((List.range k.toNat).map fun (i : Nat) => .int .u8 (atS s (.li (i : Int)))) e .ro), n + 1⟩ else none
      | _, _ => none
    | _, _, _ => none
  | _ => none

def memABC (h : T Blk) (n : Nat) (t : T DV) (op : Op) : Option Out := match memAB P F h n t op with
  | some r => some r
  | none => memC P h n t op

variable {P} {F}

theorem memC_sound {m : Emb} {ρ : Env} {h : T Blk} {n : Nat} {t : T DV} {a : Act} {w : World} (hH : HeapR m ρ h w) (ht : TmpR m ρ t a) (hf : ∀ id, n ≤ id → m.ι id = none) {o : Oper} {r : Out}
    (hd : memC P h n t o.op = some r) : OpOk m ρ h w ((execOp a.eval o).run P w) r := by
  obtain ⟨dst, op, type, pos, after, guard⟩ := o
  simp only at hd
  cases op <;> simp only [memC, reduceCtorEq] at hd
  case convert src dst' x =>
    split at hd
    · rename_i u e s hs hu hx
      split at hd
      · rename_i k he hk
        split at hd
        · rename_i h0
          cases hd
          have hR := opd_R ht hx
          simp only [DV.R] at hR
          have hsz : ((s.ev ρ).str.size : Int) = k := by
            have := lenS_int ρ s
            rw [hk] at this
            simpa [E.ev] using this.symm
          have hsz' : k.toNat = (s.ev ρ).str.size := by omega
          have hn := hf n (Nat.le_refl _)
          have hrun := Lib.run_convert_string_bytes (P := P) w src dst' e (s.ev ρ).str hs hu he
          have hge := grownCap_ge w (s.ev ρ).str.size 0 e
          have hr0 : (execOp a.eval ⟨dst, .convert src dst' x, type, pos, after, guard⟩).run P w = .ok (.value (.slice (some ⟨w.heap.size, 0, none⟩) (s.ev ρ).str.size (grownCap w (s.ev ρ).str.size 0 e))) (Lib.bytesWorld w e (s.ev ρ).str) := by
            simp only [execOp]
            rw [hR]
            exact run_v hrun
          refine ⟨_, _, Lib.bytesWorld w e (s.ev ρ).str, m.put n w.heap.size (grownCap w (s.ev ρ).str.size 0 e), hr0, .inl rfl, ?_,
            hH.grow hn (fun j hj => Lib.bytesWorld_at_old w e _ j hj) (Lib.bytesWorld_at_new w e _) ⟨_, _, ⟨_, rfl⟩, ?_, fun j d hd => ?_, trivial⟩,
            Trans.grow hn _ (fun j hj => Lib.bytesWorld_at_old w e _ j hj) (Lib.bytesWorld_size w e _) rfl rfl rfl, put_fresh hf⟩
          · simp only [DV.R, E.ev, Sc.int_I, Cap.den]
            refine ⟨w.heap.size, by simp [Emb.put], ?_, h0, by simp [Emb.put]; omega⟩
            simp [Off.den, sumT, Emb.put, hsz']
          · simp only [List.length_map, List.length_range, Lib.bytesCells, Array.size_append, Array.size_map, Array.size_replicate]
            have : (s.ev ρ).str.data.size = (s.ev ρ).str.size := rfl
            omega
          · simp only [List.getElem?_map, Option.map_eq_some_iff] at hd
            obtain ⟨i, hi, rfl⟩ := hd
            obtain ⟨hlt, rfl⟩ := range_get hi
            have hlt' : j < (s.ev ρ).str.data.size := by
              have : (s.ev ρ).str.data.size = (s.ev ρ).str.size := rfl
              omega
            refine ⟨.int .u8 (byteAt (s.ev ρ).str j), ?_, by simp only [DV.R]; rw [atS_int]; rfl⟩
            simp only [Lib.bytesCells]
            rw [Array.getElem?_append_left (by simpa using hlt')]
            rw [Array.getElem?_map, Array.getElem?_eq_getElem hlt']
            simp only [Option.map_some, byteAt, Int.toNat_natCast, List.getD_eq_getElem?_getD, Array.getElem?_toList, Array.getElem?_eq_getElem hlt', Option.getD_some]
        · cases hd
      · cases hd
    · cases hd
  all_goals simp at hd

theorem memABC_sound {m : Emb} {ρ : Env} (hF : F.ok ρ) {h : T Blk} {n : Nat} {t : T DV} {a : Act} {w : World} (hH : HeapR m ρ h w) (ht : TmpR m ρ t a) (hf : ∀ id, n ≤ id → m.ι id = none) {o : Oper} {r : Out}
    (hd : memABC P F h n t o.op = some r) : OpOk m ρ h w ((execOp a.eval o).run P w) r := by
  unfold memABC at hd
  split at hd
  · rename_i r' h'; cases hd; exact memAB_sound hF hH ht hf h'
  · exact memC_sound hH ht hf hd
end
end Go.Eng
