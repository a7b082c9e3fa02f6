/-
  Operations that lay or write blocks.
-/
import Derived.Test.YtgielkefgliiiaaEngK
namespace Go.Eng

section
variable (P : Program) (F : Facts)

/-- A cell of a fixed size: of so many bytes that no make and no append of what is told here runs out. -/
def memA (h : T Blk) (n : Nat) (t : T DV) : Op → Option Out
  | .alloc ty => match zeroD P ty with
    | some z => some ⟨.ptr n ⟨0, []⟩, h.set n (.cells z.cells ty .rw), n + 1⟩
    | none => none
  | .box ty x => match opd t x with
    | some d => some ⟨.ptr n ⟨0, []⟩, h.set n (.cells d.cells ty .rw), n + 1⟩
    | none => none
  | .store ty a x => match opd t a, opd t x with
    | some p, some d => match storeD P F h ty p d with
      | some h' => some ⟨.tup [], h', n⟩
      | none => none
    | _, _ => none
  | .buildSlice ty len parts => match P.underlying ty, parts.toList.mapM (fun p => (opd t p.2).map fun d => (p.1, d)) with
    | some (.slice e), some ds => match P.info? e, zeroD P e with
      | some ie, some z => if 0 < len * ie.size ∧ len * ie.size ≤ 1000000 ∧ z.cells ≠ [] then
          match fillD (fun i => some (i * ie.size, ie.size)) (rowD (len * ie.size) z.cells) ds with
          | some l => some ⟨.slc n ⟨0, []⟩ (.li len) (.own (.li 0)), h.set n (.cells l e (.own ie.size)), n + 1⟩
          | none => none
        else none
      | _, _ => none
    | _, _ => none
  | .makeSlice ty l c => match P.underlying ty, opd t l, opd t c with
    | some (.slice e), some (.int _ (.li a)), some (.int _ (.li b)) => match P.info? e, zeroD P e with
      | some ie, some z => if 0 ≤ a ∧ a ≤ b ∧ b ≤ 1000000 ∧ ie.bytes ≤ 1000000 ∧ z.cells ≠ [] then
          some ⟨.slc n ⟨0, []⟩ (.li a) (.own (.li 0)), h.set n (.cells (rowD (b.toNat * ie.size) z.cells) e (.own ie.size)), n + 1⟩
        else none
      | _, _ => none
    | _, _, _ => none
  | _ => none

variable {P} {F}

/-- What an operation's run is to be. -/
def OpOk (m : Emb) (ρ : Env) (h : T Blk) (w : World) (run : Result Next) (r : Out) : Prop :=
  ∃ nx v w' m', run = .ok nx w' ∧ (nx = .value v ∨ (nx = .skip ∧ v = undef)) ∧ r.d.R m' ρ v ∧ HeapR m' ρ r.h w' ∧ Trans m h w m' r.h w' ∧ (∀ id, r.n ≤ id → m'.ι id = none)

theorem put_fresh {m : Emb} {n b k : Nat} (hf : ∀ id, n ≤ id → m.ι id = none) : ∀ id, n + 1 ≤ id → (m.put n b k).ι id = none := fun id hid => by
  have : id ≠ n := by omega
  simp [Emb.put, this, hf id (by omega)]

theorem new_ok {m : Emb} {ρ : Env} {h : T Blk} {w : World} {n k : Nat} (hH : HeapR m ρ h w) (hf : ∀ id, n ≤ id → m.ι id = none) {B : Blk} {o : Obj} (hB : B.R m ρ k o) {d : DV} {v : Value}
    (hd : d.R (m.put n w.heap.size k) ρ v) {run : Result Next} (hrun : run = .ok (.value v) (w.alloc o)) : OpOk m ρ h w run ⟨d, h.set n B, n + 1⟩ :=
  ⟨.value v, v, w.alloc o, m.put n w.heap.size k, hrun, .inl rfl, hd, hH.push (hf n (Nat.le_refl _)) (hB.mono (Emb.le_put (hf n (Nat.le_refl _)))), Trans.push (hf n (Nat.le_refl _)) B o, put_fresh hf⟩

theorem cells_blk {m : Emb} {ρ : Env} {l : List DV} {vs : Array Value} (hl : DV.RL m ρ l vs.toList) (ty : TypeId) (k : Nat) : (Blk.cells l ty .rw).R m ρ k (.cells vs ty) := by
  refine ⟨vs, (0, 0), ⟨_, rfl⟩, ?_, fun i d hd => ?_, rfl⟩
  · have := hl.length; simp at this; omega
  · obtain ⟨v, hv, hr⟩ := hl.get hd; exact ⟨v, by simpa using hv, hr⟩

theorem own_blk {m : Emb} {ρ : Env} {l : List DV} {vs : Array Value} (hl : DV.RL m ρ l vs.toList) (ty : TypeId) (k s : Nat) (hk : k * s ≤ l.length) : (Blk.cells l ty (.own s)).R m ρ k (.cells vs ty) := by
  have hlen := hl.length
  simp at hlen
  refine ⟨vs, (0, 0), ⟨_, rfl⟩, by omega, fun i d hd => ?_, rfl, by omega⟩
  obtain ⟨v, hv, hr⟩ := hl.get hd; exact ⟨v, by simpa using hv, hr⟩

theorem fillD_len {place : Nat → Option (Nat × Nat)} : ∀ {parts : List (Nat × DV)} {cells ds : List DV}, fillD place cells parts = some ds → ds.length = cells.length
  | [], cells, ds, h => by simp [fillD] at h; rw [h]
  | (i, d) :: rest, cells, ds, h => by
    simp only [fillD] at h
    split at h
    · cases h
    · split at h
      · cases h
      · rename_i hc
        simp only [not_or, ne_eq, Classical.not_not, Nat.not_lt, gt_iff_lt] at hc
        rw [fillD_len h]
        unfold setL; simp; omega

theorem memA_sound {m : Emb} {ρ : Env} (hF : F.ok ρ) {h : T Blk} {n : Nat} {t : T DV} {a : Act} {w : World} (hH : HeapR m ρ h w) (ht : TmpR m ρ t a) (hf : ∀ id, n ≤ id → m.ι id = none) {o : Oper} {r : Out}
    (hd : memA P F h n t o.op = some r) : OpOk m ρ h w ((execOp a.eval o).run P w) r := by
  obtain ⟨dst, op, type, pos, after, guard⟩ := o
  simp only at hd
  have hid := hf n (Nat.le_refl _)
  cases op <;> simp only [memA, reduceCtorEq] at hd
  case alloc ty =>
    split at hd
    · rename_i z hz
      cases hd
      obtain ⟨i, zv, hi, hzv, hr⟩ := zeroD_R hz m ρ
      refine new_ok (k := 0) hH hf (cells_blk hr.cells ty 0) (v := .pointer (some ⟨w.heap.size, 0, none⟩)) (by simp only [DV.R]; exact ⟨w.heap.size, by simp [Emb.put], rfl⟩) ?_
      have : (zeroValue ty).run P w = .ok zv w := by simp [zeroValue, typeInfo, hi, hzv]
      simp only [execOp, Sem.run_bind, Instr.alloc, this, Result.andThen_ok, newVar_run, Sem.run_pure]
    · cases hd
  case box ty x =>
    split at hd
    · rename_i dx hx
      cases hd
      refine new_ok (k := 0) hH hf (cells_blk (opd_R ht hx).cells ty 0) (v := .pointer (some ⟨w.heap.size, 0, none⟩)) (by simp only [DV.R]; exact ⟨w.heap.size, by simp [Emb.put], rfl⟩) ?_
      simp only [execOp, Sem.run_bind, Instr.box, Result.andThen_ok, newVar_run, Sem.run_pure]
    · cases hd
  case store ty x y =>
    split at hd
    · rename_i p dx hp hx
      split at hd
      · rename_i h' hs
        cases hd
        obtain ⟨w', hrun, hH', hT⟩ := storeD_sound hF hH hs (opd_R ht hp) (opd_R ht hx)
        refine ⟨.skip, undef, w', m, ?_, .inr ⟨rfl, rfl⟩, ?_, hH', hT, hf⟩
        · simp only [execOp, Sem.run_bind, hrun, Result.andThen_ok, Sem.run_pure]
        · simp [DV.R, DV.RL, undef]
      · cases hd
    · cases hd
  case buildSlice ty len parts =>
    split at hd
    · rename_i e ds hu hds
      split at hd
      · rename_i ie z hie hz
        split at hd
        · rename_i hc
          obtain ⟨hpos, hsmall, hzne⟩ := hc
          split at hd
          · rename_i l hl
            cases hd
            obtain ⟨i, zv, hi, hzv, hr⟩ := zeroD_R hz m ρ
            rw [hie] at hi; cases hi
            obtain ⟨hpl, hpg⟩ := list_mapM_some hds
            have hrow := rowD_R hr.cells hzne (len * ie.size)
            obtain ⟨us, hus, hru⟩ := fillD_R (m := m) (ρ := ρ) hl hrow (vparts := (parts.map fun (i, x) => (i, a.eval x)).toList) (by simpa using hpl.symm) (fun k i d hk => by
              obtain ⟨p, hp, hq⟩ := hpg k (i, d) hk
              simp only [Option.map_eq_some_iff, Prod.mk.injEq] at hq
              obtain ⟨d', hd', rfl, rfl⟩ := hq
              refine ⟨a.eval p.2, ?_, opd_R ht hd'⟩
              have hp' : parts[k]? = some p := by simpa using hp
              simp [hp'])
            have hllen : l.length = len * ie.size := by rw [fillD_len hl]; simp [rowD]
            have hrun := run_buildSlice (P := P) w ty e len (parts.map fun (i, x) => (i, a.eval x)) us ie zv hu hie hzv (by omega) (by omega) hus
            refine new_ok (k := len) hH hf (own_blk hru e len ie.size (by omega)) (v := .slice (some ⟨w.heap.size, 0, none⟩) len len) ?_ ?_
            · simp only [DV.R]
              refine ⟨w.heap.size, by simp [Emb.put], ?_, by simp [E.ev], ?_⟩
              · simp [Off.den, sumT, E.ev, Cap.den, Emb.put]
              · simp [E.ev, Cap.den, Emb.put]
            · exact run_v hrun
          · cases hd
        · cases hd
      · cases hd
    · cases hd
  case makeSlice ty l c =>
    split at hd
    · rename_i e k1 x k2 y hu hl hc
      split at hd
      · rename_i ie z hie hz
        split at hd
        · rename_i hcond
          obtain ⟨h0, hxy, hy, hby, hzne⟩ := hcond
          cases hd
          obtain ⟨i, zv, hi, hzv, hr⟩ := zeroD_R hz m ρ
          rw [hie] at hi; cases hi
          have hRl := opd_R ht hl
          have hRc := opd_R ht hc
          simp only [DV.R, E.ev, Sc.int_I] at hRl hRc
          have hbytes : (ie.bytes : Int) * y ≤ 281474976710656 := by
            have h1 : (ie.bytes : Int) * y ≤ 1000000 * 1000000 := Int.mul_le_mul (by omega) hy (by omega) (by omega)
            omega
          have hrun := run_make (P := P) w ty e ie zv hu hie hzv k1 k2 x y h0 hxy hbytes (by omega)
          have hrow := rowD_R hr.cells hzne (y.toNat * ie.size)
          have hmade : madeCells zv.cells (y.toNat * ie.size) = (Array.range (y.toNat * ie.size)).map (zv.cells[· % zv.cells.size]!) := rfl
          refine new_ok (k := y.toNat) hH hf (own_blk hrow e y.toNat ie.size (by simp [rowD])) (v := .slice (some ⟨w.heap.size, 0, none⟩) x.toNat y.toNat) ?_ ?_
          · simp only [DV.R]
            refine ⟨w.heap.size, by simp [Emb.put], ?_, by simpa [E.ev] using h0, ?_⟩
            · simp [Off.den, sumT, E.ev, Cap.den, Emb.put]
            · simp [E.ev, Cap.den, Emb.put]; omega
          · simp only [execOp]
            rw [hRl, hRc]
            exact run_v hrun
        · cases hd
      · cases hd
    · cases hd
  all_goals simp at hd

end

end Go.Eng
