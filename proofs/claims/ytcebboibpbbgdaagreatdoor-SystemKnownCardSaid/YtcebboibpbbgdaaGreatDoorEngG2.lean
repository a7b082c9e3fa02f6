/-
  Stores; new blocks; what a value is built of.
-/
import Derived.Test.YtcebboibpbbgdaaGreatDoorEngG1
import Derived.Great.BuildSlice
namespace Go.Eng

section
variable {P : Program} {F : Facts}

theorem one_R {m : Emb} {ρ : Env} {d : DV} {v : Value} (h : d.R m ρ v) (h1 : d.one = true) : v.oneCell' = true := by
  cases d <;> simp [DV.one] at h1 <;> simp only [DV.R] at h <;>
    first
      | (rcases h with rfl | ⟨_, _, rfl⟩ <;> rfl)
      | (obtain ⟨x, y, rfl, _⟩ := h; rfl)
      | (obtain ⟨x, rfl, _⟩ := h; rfl)
      | (obtain ⟨x, _, rfl⟩ := h; rfl)
      | (obtain ⟨x, _, rfl, _⟩ := h; rfl)
      | (subst h; rfl)

theorem RL_one {m : Emb} {ρ : Env} : ∀ {l : List DV} {vs : List Value}, DV.RL m ρ l vs → l.all DV.one = true → ∀ v ∈ vs, v.oneCell' = true
  | [], vs, h, _, v, hv => by simp only [DV.RL] at h; subst h; cases hv
  | d :: r, vs, h, h1, v, hv => by
    simp only [DV.RL] at h
    obtain ⟨u, us, rfl, hu, hr⟩ := h
    simp at h1
    rcases List.mem_cons.1 hv with rfl | hv
    · exact one_R hu h1.1
    · exact RL_one hr (by simpa using h1.2) v hv

theorem storeVar_row {w : World} {g off : Nat} {ty t0 : TypeId} {cur : Array Value} (hg : w.heap[g]? = some (.cells cur t0 (0, 0))) {v : Value} {i : TypeInfo} (hi : P.info? ty = some i) (hs : v.cells.size = i.size)
    (hfit : off + v.cells.size ≤ cur.size) (h1 : ∀ u ∈ v.cells.toList, u.oneCell' = true) :
    (storeVar ty ⟨g, off, none⟩ v).run P w = .ok () (w.setRow g (cur.toList.take off ++ v.cells.toList ++ cur.toList.drop (off + v.cells.toList.length)).toArray) := by
  have := run_storeCells_at (P := P) g off t0 v.cells.toList 0 cur w hg (by simpa using hfit) h1
  simp only [Nat.add_zero] at this
  have hs' : (sizeOf ty).run P w = .ok i.size w := by simp [sizeOf, typeInfo, hi]
  simp only [storeVar, Sem.run_bind, hs', Result.andThen_ok, hs, ne_eq, not_true_eq_false, if_false]
  exact this

theorem setL_get {l cs : List DV} {b : Nat} (hfit : b + cs.length ≤ l.length) (i : Nat) : (setL l b cs)[i]? = if i < b then l[i]? else if i < b + cs.length then cs[i - b]? else l[i]? := by
  unfold setL
  rw [List.append_assoc, List.getElem?_append]
  simp only [List.length_take, Nat.min_eq_left (show b ≤ l.length by omega)]
  split
  · rename_i h; rw [List.getElem?_take, if_pos h]
  · rename_i h
    rw [List.getElem?_append]
    split
    · rename_i h'; rw [if_pos (by omega)]
    · rename_i h'; rw [if_neg (by omega), List.getElem?_drop]; congr 1; omega

theorem splice_get {cur : Array Value} {vs : List Value} {b : Nat} (hfit : b + vs.length ≤ cur.size) (i : Nat) :
    ((cur.toList.take b ++ vs ++ cur.toList.drop (b + vs.length)).toArray)[i]? = if i < b then cur[i]? else if i < b + vs.length then vs[i - b]? else cur[i]? := by
  simp only [List.getElem?_toArray]
  rw [List.append_assoc, List.getElem?_append]
  have : b ≤ cur.toList.length := by simp; omega
  simp only [List.length_take, Nat.min_eq_left this]
  split
  · rename_i h; rw [List.getElem?_take, if_pos h]; simp
  · rename_i h
    rw [List.getElem?_append]
    split
    · rename_i h'; rw [if_pos (by omega)]
    · rename_i h'; rw [if_neg (by omega), List.getElem?_drop]
      have : b + vs.length + (i - b - vs.length) = i := by omega
      rw [this]; simp

def cur_size (c : Array Value) (vx : Value) (b : Nat) : Nat := ((c.toList.take b ++ vx.cells.toList ++ c.toList.drop (b + vx.cells.toList.length)).toArray).size

theorem cur_size_eq {c : Array Value} {vx : Value} {b : Nat} (h : b + vx.cells.size ≤ c.size) : cur_size c vx b = c.size := by
  unfold cur_size
  simp only [List.size_toArray, List.length_append, List.length_take, List.length_drop, Array.length_toList]; omega

theorem storeD_sound {ρ : Env} (hF : F.ok ρ) {m : Emb} {h h' : T Blk} {w : World} (hH : HeapR m ρ h w) {t : TypeId} {p x : DV} (hd : storeD P F h t p x = some h') {vp vx : Value} (hp : p.R m ρ vp) (hx : x.R m ρ vx) :
    ∃ w', (Instr.storeAt t vp vx).run P w = .ok () w' ∧ HeapR m ρ h' w' ∧ Trans m h w m h' w' := by
  unfold storeD at hd
  split at hd
  · rename_i id o
    simp only [DV.R] at hp
    obtain ⟨b, hb, rfl⟩ := hp
    split at hd
    · rename_i l t0 md hg
      obtain ⟨b', ob, hb', ho, c, fr, ⟨t', rfl⟩, hle, hc, hmd⟩ := hH.blk id _ hg rfl
      rw [hb] at hb'; cases hb'
      split at hd
      · rename_i i hi
        split at hd
        · rename_i hcond
          obtain ⟨hsz, hone, hro⟩ := hcond
          have hfr : fr = (0, 0) := Md.fr_of hmd hro
          subst hfr
          have hrw : (Blk.cells l t0 md).rw = true := hro
          have hcs := hx.cells
          have hlen := hcs.length
          have hvsz : vx.cells.size = i.size := by simpa [hsz] using hlen
          have h1 := RL_one hcs hone
          have go : ∀ (h1' : o.den ρ + vx.cells.size ≤ c.size) (l' : List DV), l'.length = l.length →
              (∀ (j : Nat) (d : DV), l'[j]? = some d → (j < o.den ρ ∨ o.den ρ + vx.cells.size ≤ j → ∃ v, c[j]? = some v ∧ d.R m ρ v) ∧ (o.den ρ ≤ j → j < o.den ρ + vx.cells.size → ∃ v, vx.cells[j - o.den ρ]? = some v ∧ d.R m ρ v)) →
              ∃ w', (Instr.storeAt t (.pointer (some ⟨b, o.den ρ, none⟩)) vx).run P w = .ok () w' ∧ HeapR m ρ (h.set id (.cells l' t0 md)) w' ∧ Trans m h w m (h.set id (.cells l' t0 md)) w' := by
            intro hfit l' hl' hcells
            have hrun := storeVar_row (P := P) (ty := t) ho hi hvsz hfit h1
            refine ⟨_, by simp only [Instr.storeAt, Instr.sureAddr, Sem.run_bind, Sem.run_pure, Result.andThen_ok]; exact hrun, ?_, ?_⟩
            · refine hH.write hg hrw hb (setRow_heap w b c _ t' (0, 0) ho) ?_ hro (fun k hk => setRow_other w b k _ hk)
              have hsz2 : (cur_size c vx (o.den ρ)) = c.size := cur_size_eq (by simpa using hfit)
              refine ⟨_, _, ⟨_, rfl⟩, ?_, ?_, ?_⟩
              · have hvl : vx.cells.toList.length = vx.cells.size := by simp
                simp only [List.size_toArray, List.length_append, List.length_take, List.length_drop, Array.length_toList]; omega
              · intro j d hd'
                rw [splice_get (by simpa using hfit)]
                simp only [Array.length_toList]
                obtain ⟨ha, hb2⟩ := hcells j d hd'
                split
                · rename_i hj; exact ha (.inl hj)
                · rename_i hj
                  split
                  · rename_i hj'; obtain ⟨v, hv, hr⟩ := hb2 (by omega) hj'; exact ⟨v, by simpa using hv, hr⟩
                  · rename_i hj'; exact ha (.inr (by omega))
              · cases md with
                | ro => cases hro
                | gl g => cases hro
                | reg l => cases hro
                | rw => rfl
                | own s => exact ⟨rfl, by have := hmd.2; unfold cur_size at hsz2; rw [hsz2]; exact this⟩
            · exact Trans.write hg hrw hb (fun k hk => setRow_other w b k _ hk) (by simp) rfl rfl rfl
          split at hd
          · rename_i hterms
            have hden : o.den ρ = o.base := by simp [Off.den, hterms, sumT]
            split at hd
            · rename_i hfit
              cases hd
              have hxl : vx.cells.size = x.cells.length := by simpa using hlen
              refine go (by omega) _ ?_ ?_
              · unfold setL; simp; omega
              · intro j d hd'
                rw [setL_get hfit] at hd'
                rw [hden, hxl]
                split at hd'
                · rename_i hj; exact ⟨fun _ => hc j d hd', fun h1 => by omega⟩
                · split at hd'
                  · rename_i hj hj'
                    refine ⟨fun h1 => by omega, fun _ _ => ?_⟩
                    obtain ⟨v, hv, hr⟩ := hcs.get hd'
                    exact ⟨v, by simpa using hv, hr⟩
                  · exact ⟨fun _ => hc j d hd', fun h1 h2 => by omega⟩
            · cases hd
          · rename_i e s hterms
            have hden : o.den ρ = o.base + (e.ev ρ).int.toNat * s := by simp [Off.den, hterms, sumT]
            split at hd
            · rename_i cx lo hi' hcx hr
              split at hd
              · rename_i hlo
                simp only [Option.map_eq_some_iff] at hd
                obtain ⟨l', hl', rfl⟩ := hd
                have hrng := E.rng_has hF e
                rw [hr] at hrng
                have hlo1 := hrng.1 lo rfl
                have hhi1 := hrng.2 hi' rfl
                rw [hcx] at hcs
                simp only [DV.RL] at hcs
                obtain ⟨v1, vr, hvc, hv1, rfl⟩ := hcs
                have hsize1 : vx.cells.size = 1 := by
                  have := congrArg List.length hvc; simpa using this
                have hupd := updD_R hF e o.base s hlo.2.2 hv1 (o.den ρ) hden _ _ l l' c hl' hc
                have hlen' := updD_len e o.base s cx _ _ l l' hl'
                have hsel : o.den ρ < l.length := by
                  -- the place lies in the row
                  have : ∀ (n j : Nat) (l r : List DV), updD F e o.base s cx n j l = some r → (j : Int) ≤ (e.ev ρ).int → (e.ev ρ).int ≤ ((j + n : Nat) : Int) → o.den ρ < l.length := by
                    intro n
                    induction n with
                    | zero =>
                      intro j l r hu hj1 hj2
                      simp only [updD] at hu
                      split at hu
                      · rename_i old hold
                        have := (List.getElem?_eq_some_iff.1 hold).1
                        have hj : (e.ev ρ).int.toNat = j := by omega
                        rw [hden, hj]; exact this
                      · cases hu
                    | succ n ih =>
                      intro j l r hu hj1 hj2
                      simp only [updD] at hu
                      split at hu
                      · rename_i old hold
                        split at hu
                        · by_cases he : (e.ev ρ).int = (j : Int)
                          · have := (List.getElem?_eq_some_iff.1 hold).1
                            have hj : (e.ev ρ).int.toNat = j := by omega
                            rw [hden, hj]; exact this
                          · have := ih (j + 1) _ r hu (by omega) (by omega)
                            simpa using this
                        · cases hu
                      · cases hu
                  exact this _ _ l l' hl' (by omega) (by omega)
                refine go (by omega) l' hlen' ?_
                intro j d hd'
                obtain ⟨ha, hb2⟩ := hupd j d hd'
                refine ⟨fun hj => hb2 (by omega), fun hj1 hj2 => ?_⟩
                have hj : j = o.den ρ := by omega
                refine ⟨v1, ?_, ha hj (by omega) (by omega)⟩
                rw [hj, Nat.sub_self]
                have : vx.cells.toList[0]? = some v1 := by rw [hvc]; rfl
                simpa using this
              · cases hd
            · cases hd
          · cases hd
        · cases hd
      · cases hd
    · cases hd
  · cases hd

/-- A new variable. -/
theorem newVar_run (t : TypeId) (v : Value) (w : World) : (newVar t v).run P w = .ok ⟨w.heap.size, 0, none⟩ (w.alloc (.cells v.cells t)) := by
  rfl

end

end Go.Eng

/-
  What is built; one operation.
-/
namespace Go.Eng

section
variable (P : Program) (F : Facts)

def fillD (place : Nat → Option (Nat × Nat)) : List DV → List (Nat × DV) → Option (List DV)
  | cells, [] => some cells
  | cells, (i, v) :: rest => match place i with
    | none => none
    | some (off, size) => if v.cells.length ≠ size ∨ off + v.cells.length > cells.length then none else fillD place (setL cells off v.cells) rest

def zeroD (t : TypeId) : Option DV :=
  match P.info? t with
  | some i => match i.zero with
    | some z => DV.ofV 8 z
    | none => none
  | none => none

def buildD (t : TypeId) (parts : List (Nat × DV)) : Option DV :=
  match zeroD P t, P.underlying t with
  | some z, some (.array _ e) => match P.info? e with
    | some ie => (fillD (fun i => some (i * ie.size, ie.size)) z.cells parts).map .agg
    | none => none
  | some z, some (.struct fields) => match fields.toList.mapM (fun f => (P.info? f.type).map fun i => (f.offset, i.size)) with
    | some places => (fillD (places.toArray[·]?) z.cells parts).map .agg
    | none => none
  | _, _ => none

def rowD (n : Nat) (z : List DV) : List DV := (List.range n).map fun i => z.getD (i % z.length) .nilp

variable {P} {F}

theorem sets_get (off : Nat) : ∀ (vs : List Value) (k : Nat) (arr : Array Value) (i : Nat), off + k + vs.length ≤ arr.size →
    ((vs.zipIdx k).foldl (fun cs (c, j) => cs.setIfInBounds (off + j) c) arr)[i]? = if i < off + k then arr[i]? else if i < off + k + vs.length then vs[i - (off + k)]? else arr[i]?
  | [], k, arr, i, _ => by simp; omega
  | v :: r, k, arr, i, h => by
    simp only [List.zipIdx_cons, List.foldl_cons, List.length_cons] at h ⊢
    rw [sets_get off r (k + 1) _ i (by simp; omega)]
    by_cases h1 : i < off + k
    · rw [if_pos (by omega), if_pos h1, Array.getElem?_setIfInBounds_ne (by omega)]
    · rw [if_neg h1]
      by_cases h2 : i = off + k
      · subst h2
        rw [if_pos (by omega), if_pos (by omega)]
        simp [Array.getElem?_setIfInBounds]; omega
      · rw [if_neg (by omega)]
        by_cases h3 : i < off + k + (r.length + 1)
        · rw [if_pos (by omega), if_pos h3]
          rw [show i - (off + k) = (i - (off + (k + 1))) + 1 by omega, List.getElem?_cons_succ]
        · rw [if_neg (by omega), if_neg h3, Array.getElem?_setIfInBounds_ne (by omega)]

theorem sets_size (off : Nat) : ∀ (vs : List Value) (k : Nat) (arr : Array Value), ((vs.zipIdx k).foldl (fun cs (c, j) => cs.setIfInBounds (off + j) c) arr).size = arr.size
  | [], k, arr => rfl
  | v :: r, k, arr => by
    simp only [List.zipIdx_cons, List.foldl_cons]
    rw [sets_size off r (k + 1)]; simp

theorem fillD_R {m : Emb} {ρ : Env} {place : Nat → Option (Nat × Nat)} : ∀ {parts : List (Nat × DV)} {cells : List DV} {ds : List DV} {vs : Array Value} {vparts : List (Nat × Value)},
    fillD place cells parts = some ds → DV.RL m ρ cells vs.toList → vparts.length = parts.length → (∀ (k i : Nat) (d : DV), parts[k]? = some (i, d) → ∃ v, vparts[k]? = some (i, v) ∧ d.R m ρ v) →
    ∃ us, Instr.fill place vs vparts = some us ∧ DV.RL m ρ ds us.toList
  | [], cells, ds, vs, vparts, h, hc, hl, _ => by
    simp [fillD] at h; subst h
    have : vparts = [] := by simpa using hl
    subst this
    exact ⟨vs, by simp [Instr.fill], hc⟩
  | (i, d) :: rest, cells, ds, vs, vparts, h, hc, hl, hp => by
    simp only [fillD] at h
    obtain ⟨v, hv, hr⟩ := hp 0 i d rfl
    match vparts, hl with
    | (i', v') :: vrest, hl =>
      simp at hv
      obtain ⟨rfl, rfl⟩ := hv
      split at h
      · cases h
      · rename_i off size hpl
        split at h
        · cases h
        · rename_i hcond
          simp only [not_or, ne_eq, Classical.not_not, Nat.not_lt, gt_iff_lt] at hcond
          obtain ⟨h1, h2⟩ := hcond
          have hcs := hr.cells
          have hlen := hcs.length
          simp at hlen
          have hcl := hc.length
          simp at hcl
          have hc' : DV.RL m ρ (setL cells off d.cells) (v'.cells.zipIdx.foldl (fun cs (c, j) => cs.setIfInBounds (off + j) c) vs).toList := by
            rw [← Array.foldl_toList, Array.toList_zipIdx]
            refine DV.RL.of_get ?_ ?_
            · have := sets_size off v'.cells.toList 0 vs
              simp only [Array.length_toList, this]
              unfold setL; simp; omega
            · intro j d' hd'
              rw [setL_get h2] at hd'
              have hg := sets_get off v'.cells.toList 0 vs j (by simp; omega)
              simp only [Nat.add_zero, Array.length_toList, hlen] at hg
              simp only [Array.getElem?_toList, hg]
              split at hd'
              · rename_i hj; rw [if_pos hj]
                obtain ⟨u, hu, hur⟩ := hc.get hd'
                exact ⟨u, by simpa using hu, hur⟩
              · rename_i hj; rw [if_neg hj]
                split at hd'
                · rename_i hj'; rw [if_pos hj']
                  obtain ⟨u, hu, hur⟩ := hcs.get hd'
                  exact ⟨u, by simpa using hu, hur⟩
                · rename_i hj'; rw [if_neg hj']
                  obtain ⟨u, hu, hur⟩ := hc.get hd'
                  exact ⟨u, by simpa using hu, hur⟩
          obtain ⟨us, hus, hru⟩ := fillD_R h hc' (by simpa using hl) (fun k i d hk => by simpa using hp (k + 1) i d (by simpa using hk))
          refine ⟨us, ?_, hru⟩
          simp only [Instr.fill, hpl]
          rw [if_neg]
          · exact hus
          · simp; omega

theorem zeroD_R {t : TypeId} {d : DV} (h : zeroD P t = some d) (m : Emb) (ρ : Env) : ∃ i z, P.info? t = some i ∧ i.zero = some z ∧ d.R m ρ z := by
  unfold zeroD at h
  split at h
  · rename_i i hi
    split at h
    · rename_i z hz; exact ⟨i, z, hi, hz, DV.ofV_R m ρ _ h⟩
    · cases h
  · cases h

theorem buildD_sound {m : Emb} {ρ : Env} {t : TypeId} {parts : List (Nat × DV)} {d : DV} (h : buildD P t parts = some d) {vparts : Array (Nat × Value)} (hl : vparts.size = parts.length)
    (hp : ∀ (k i : Nat) (d : DV), parts[k]? = some (i, d) → ∃ v, vparts[k]? = some (i, v) ∧ d.R m ρ v) (w : World) : ∃ v, (Instr.build t vparts).run P w = .ok v w ∧ d.R m ρ v := by
  unfold buildD at h
  split at h
  · rename_i z e hz hu
    obtain ⟨i, zv, hi, hzv, hr⟩ := zeroD_R hz m ρ
    rename_i n
    split at h
    · rename_i ie hie
      simp only [Option.map_eq_some_iff] at h
      obtain ⟨ds, hds, rfl⟩ := h
      obtain ⟨us, hus, hru⟩ := fillD_R hds hr.cells (vparts := vparts.toList) (by simpa using hl) (fun k i d hk => by simpa using hp k i d hk)
      refine ⟨.agg us, run_build w t vparts us ?_, ?_⟩
      · unfold Program.built; simp only [hi, hu, hzv, hie]; exact hus
      · simp only [DV.R]; exact ⟨us, rfl, hru⟩
    · cases h
  · rename_i z fields hz hu
    obtain ⟨i, zv, hi, hzv, hr⟩ := zeroD_R hz m ρ
    split at h
    · rename_i places hpl
      simp only [Option.map_eq_some_iff] at h
      obtain ⟨ds, hds, rfl⟩ := h
      obtain ⟨us, hus, hru⟩ := fillD_R hds hr.cells (vparts := vparts.toList) (by simpa using hl) (fun k i d hk => by simpa using hp k i d hk)
      refine ⟨.agg us, run_build w t vparts us ?_, ?_⟩
      · unfold Program.built; simp only [hi, hu, hzv, hpl]; exact hus
      · simp only [DV.R]; exact ⟨us, rfl, hru⟩
    · cases h
  · cases h

theorem rowD_R {m : Emb} {ρ : Env} {z : List DV} {zv : Array Value} (h : DV.RL m ρ z zv.toList) (hz : z ≠ []) (n : Nat) : DV.RL m ρ (rowD n z) ((Array.range n).map (zv[· % zv.size]!)).toList := by
  have hlen := h.length
  simp at hlen
  have hpos : 0 < z.length := List.length_pos_iff.2 hz
  refine DV.RL.of_get (by simp [rowD]) (fun j d hd => ?_)
  simp only [rowD, List.getElem?_map, Option.map_eq_some_iff] at hd
  obtain ⟨j', hj', rfl⟩ := hd
  obtain ⟨hlt, rfl⟩ := range_get hj'
  have hm : j % z.length < z.length := Nat.mod_lt _ hpos
  obtain ⟨v, hv, hr⟩ := h.get (i := j % z.length) (d := z[j % z.length]) (by simp [hm])
  refine ⟨v, ?_, by simpa [List.getD_eq_getElem?_getD, hm] using hr⟩
  have hv' : zv[j % zv.size]? = some v := by rw [hlen]; simpa using hv
  simp [hlt, getElem!_def, hv']
end

section
variable (P : Program) (F : Facts)

structure Out where
  d : DV
  h : T Blk
  n : Nat

def opd (t : T DV) : Operand → Option DV
  | .tmp i => t.get i
  | .const v => DV.ofV 8 v
  | .global g => some (.gptr g 0)
  | .func f => some (.fn (.func f) [] [])

def isC : Operand → Bool
  | .const _ => true
  | _ => false

/-- Is the one not below the other? -/
def notLt (h l : E) : Bool := (E.bi .lt h l).dec F == some false || (match h with
  | .bi .add x (.li c) => (decide (0 ≤ c) && x.same l) || (match l with
    | .bi .add y (.li d) => decide (d ≤ c) && x.same y
    | _ => false)
  | _ => false)

/-- The bounds of a slice expression: low, high; 'none' where they are not decided. -/
def bndsD (lo hi : Option DV) (len cap : E) : Option (E × E) :=
  match (match hi with | none => some len | some (.int _ h) => if (E.bi .lt h (.li 0)).dec F = some false ∧ (E.bi .lt cap h).dec F = some false then some h else none | _ => none) with
  | none => none
  | some h => match lo with
    | none => some (.li 0, h)
    | some (.int _ l) => if (E.bi .lt l (.li 0)).dec F = some false ∧ notLt F h l = true then some (l, h) else none
    | _ => none

def idxOk (e n : E) : Bool := (E.bi .lt e (.li 0)).dec F == some false && (E.bi .lt e n).dec F == some true

/-- An operation that makes one value, and changes no block. -/
def valA (h : T Blk) (t : T DV) : Op → Option DV
  | .move x | .assign x => opd t x
  | .pick c a b => match opd t c with
    | some (.bool e) => match e.dec F with
      | some true => opd t a
      | some false => opd t b
      | none => match opd t a, opd t b with
        | some x, some y => iteDV F e x y
        | _, _ => none
    | _ => none
  | .build ty parts => match parts.toList.mapM (fun p => (opd t p.2).map fun d => (p.1, d)) with
    | some ds => buildD P ty ds
    | none => none
  | .load ty a => match opd t a with
    | some d => loadD P F h ty d
    | none => none
  | .nilCheck x => match opd t x with
    | some (.ptr id o) => some (.ptr id o)
    | some (.gptr g o) => some (.gptr g o)
    | some (.fn (.func f) a b) => some (.fn (.func f) a b)
    | _ => none
  | .binOp op ty x y _ => match opd t x, opd t y with
    | some a, some b => binD P F op ty (isC x || isC y) a b
    | _, _ => none
  | .unOp op _ x => match opd t x with
    | some a => unD F op a
    | none => none
  | .convert src dst x => match P.underlying src, P.underlying dst, opd t x with
    | some _, some (.int k), some (.int _ e) => some (.int k (rwE F (wrapI F k e)))
    | some .string, some .string, some (.str e) => some (.str e)
    | _, _, _ => none
  | .fieldAddr s x f => match P.underlying s, opd t x with
    | some (.struct fs), some (.ptr id o) => match fs[f]? with
      | some fd => match P.info? fd.type with
        | some i => if i.size = 0 then none else some (.ptr id (o.add fd.offset))
        | none => none
      | none => none
    | _, _ => none
  | .field s x f => match P.underlying s, opd t x with
    | some (.struct fs), some (.agg l) => match fs[f]? with
      | some fd => partD P fd.type l fd.offset
      | none => none
    | _, _ => none
  | .indexAddr ty x ix => match P.underlying ty, opd t x, opd t ix with
    | some (.array len el), some (.ptr id o), some (.int _ e) => match P.info? el with
      | some i => if idxOk F e (.li len) then some (.ptr id (o.addE e i.size)) else none
      | none => none
    | some (.slice el), some (.slc id o len _), some (.int _ e) => match P.info? el with
      | some i => if idxOk F e len then some (.ptr id (o.addE e i.size)) else none
      | none => none
    | _, _, _ => none
  | .index ty x ix => match P.underlying ty, opd t x, opd t ix with
    | some (.array len el), some (.agg l), some (.int _ (.li n)) => match P.info? el with
      | some i => if 0 ≤ n ∧ n < len then partD P el l (n.toNat * i.size) else none
      | none => none
    | some .string, some (.str s), some (.int _ e) => if idxOk F e (lenS s) then some (.int .u8 (rwE F (atS s e))) else none
    | _, _, _ => none
  | .extract x i => match opd t x with
    | some (.tup l) => l[i]?
    | _ => none
  | .makeInterface ty x => match P.underlying ty, opd t x with
    | some (.interface _), _ => none
    | some _, some d => some (.ifc ty d)
    | _, _ => none
  | .makeFunc fn first cap => match first.toList.mapM (opd t), cap.toList.mapM (opd t) with
    | some a, some b => some (.fn fn a b)
    | _, _ => none
  | .slice ty x lo hi none => match P.underlying ty, opd t x with
    | some .string, some (.str s) =>
      match (match lo with | none => some none | some a => (opd t a).map some), (match hi with | none => some none | some a => (opd t a).map some) with
      | some l, some h => match bndsD F l h (lenS s) (lenS s) with
        | some (a, b) => some (.str (rwE F (subS s a b)))
        | none => none
      | _, _ => none
    | _, _ => none
  | .call c => match c.callee, c.args.toList.mapM (opd t) with
    | .builtin .len, some [d] => match c.argTypes[0]? with
      | some ty => match P.underlying ty, d with
        | some .string, .str s => some (.int .i64 (lenS s))
        | some (.slice _), .slc _ _ n _ => some (.int .i64 n)
        | some (.slice _), .nils => some (.int .i64 (.li 0))
        | some (.slice _), .mt => some (.int .i64 (.li 0))
        | some (.array n _), _ => some (.int .i64 (.li n))
        | some (.map _ _), .nilm => some (.int .i64 (.li 0))
        | _, _ => none
      | none => none
    | .builtin .max, some [.int k a, .int _ b] => some (.int k (rwE F (iteE F (boolE F (.bi .lt a b)) b a)))
    | .builtin .min, some [.int k a, .int _ b] => some (.int k (rwE F (iteE F (boolE F (.bi .lt b a)) b a)))
    | _, _ => none
  | _ => none

end

end Go.Eng

/-
  One operation that makes a value: what the machine makes of it.
-/
namespace Go.Eng

section
variable {P : Program} {F : Facts}

theorem opd_R {m : Emb} {ρ : Env} {t : T DV} {a : Act} (ht : TmpR m ρ t a) {x : Operand} {d : DV} (h : opd t x = some d) : d.R m ρ (a.eval x) := by
  cases x with
  | tmp i =>
    obtain ⟨v, hv, hr⟩ := ht.get i d h
    simp only [Act.eval, Array.getD_eq_getD_getElem?, hv, Option.getD_some]; exact hr
  | const v => exact DV.ofV_R m ρ _ h
  | global g => simp [opd] at h; subst h; simp [Act.eval, DV.R]
  | func f => simp [opd] at h; subst h; simp [Act.eval, DV.R, DV.RL]

theorem opds_R {m : Emb} {ρ : Env} {t : T DV} {a : Act} (ht : TmpR m ρ t a) : ∀ {l : List Operand} {ds : List DV}, l.mapM (opd t) = some ds → DV.RL m ρ ds (l.map a.eval)
  | [], ds, h => by simp at h; subst h; simp [DV.RL]
  | x :: l, ds, h => by
    simp only [List.mapM_cons, Option.bind_eq_bind, Option.pure_def, Option.bind_eq_some_iff] at h
    obtain ⟨d, hd, rs, hr, he⟩ := h
    simp at he; subst he
    simp only [List.map_cons, DV.RL]
    exact ⟨_, _, rfl, opd_R ht hd, opds_R ht hr⟩

theorem beq_some_true {o : Option Bool} {b : Bool} (h : (o == some b) = true) : o = some b := by
  cases o with
  | none => cases h
  | some x => cases x <;> cases b <;> first | rfl | cases h

theorem idxOk_spec {ρ : Env} (hF : F.ok ρ) {e n : E} (h : idxOk F e n = true) : 0 ≤ (e.ev ρ).int ∧ (e.ev ρ).int < (n.ev ρ).int := by
  simp only [idxOk, Bool.and_eq_true] at h
  exact ⟨nonneg_of hF (beq_some_true h.1), of_decide_eq_true (E.dec_sound hF (beq_some_true h.2))⟩

set_option maxHeartbeats 800000 in
theorem binD_sound {m : Emb} {ρ : Env} (hF : F.ok ρ) {op : BinOp} {ty : TypeId} {cx : Bool} {x y d : DV} (h : binD P F op ty cx x y = some d) {ox oy : Operand} {vx vy : Value}
    (hc : cx = true → (ox matches .const _) = true ∨ (oy matches .const _) = true) (hx : x.R m ρ vx) (hy : y.R m ρ vy) (w : World) :
    ∃ v, (do eqGuard op ty ox oy vx vy; binOp op ty vx vy : Sem Value).run P w = .ok v w ∧ d.R m ρ v := by
  have guardless : ∀ {k k' : IntKind} {n n' : Int}, (eqGuard op ty ox oy (.int k n) (.int k' n')).run P w = .ok () w := by
    intro k k' n n'; cases op <;> rfl
  have guardlessS : ∀ {n n' : ByteArray}, (eqGuard op ty ox oy (.string n) (.string n')).run P w = .ok () w := by
    intro n n'; cases op <;> rfl
  unfold binD at h
  split at h
  · rename_i k a k' b
    simp only [DV.R] at hx hy
    subst hx; subst hy
    split at h
    · obtain ⟨v, hv, hr⟩ := shiftD_sound (P := P) (m := m) (k' := k') hF h w
      exact ⟨v, by simp only [Sem.run_bind, guardless, Result.andThen_ok]; exact hv, hr⟩
    · obtain ⟨v, hv, hr⟩ := shiftD_sound (P := P) (m := m) (k' := k') hF h w
      exact ⟨v, by simp only [Sem.run_bind, guardless, Result.andThen_ok]; exact hv, hr⟩
    · rename_i h1 h2
      split at h
      · rename_i hk
        subst hk
        obtain ⟨v, hv, hr⟩ := intBinD_sound (P := P) (m := m) hF h ty w h1 h2
        exact ⟨v, by simp only [Sem.run_bind, guardless, Result.andThen_ok]; exact hv, hr⟩
      · cases h
  · simp only [DV.R] at hx hy
    subst hx; subst hy
    obtain ⟨v, hv, hr⟩ := strBinD_sound (P := P) (m := m) hF h ty w
    exact ⟨v, by simp only [Sem.run_bind, guardlessS, Result.andThen_ok]; exact hv, hr⟩
  · rename_i hni hns
    -- the values are neither two integers nor two strings
    have eqlRun : ∀ {b : Bool} (vx vy : Value), x.R m ρ vx → y.R m ρ vy → (Op.equal ty vx vy).run P w = .ok b w → (binOp .eql ty vx vy).run P w = .ok (.bool b) w ∧ (binOp .neq ty vx vy).run P w = .ok (.bool (!b)) w := by
      intro b vx vy hx hy he
      by_cases hxi : ∃ k e, x = .int k e
      · obtain ⟨k, e, rfl⟩ := hxi
        simp only [DV.R] at hx; subst hx
        cases y <;> simp only [DV.R] at hy
        case int => exact (hni _ _ _ _ rfl rfl).elim
        case anyi => rcases hy with rfl | ⟨z1, z2, rfl⟩ <;> (refine ⟨?_, ?_⟩ <;> simp [binOp, he])
        all_goals first
          | (subst hy; refine ⟨?_, ?_⟩ <;> simp [binOp, he]; done)
          | (obtain ⟨z1, z2, rfl, z3⟩ := hy; refine ⟨?_, ?_⟩ <;> simp [binOp, he]; done)
          | (obtain ⟨z1, z2, rfl⟩ := hy; refine ⟨?_, ?_⟩ <;> simp [binOp, he]; done)
          | (obtain ⟨z1, rfl, z3⟩ := hy; refine ⟨?_, ?_⟩ <;> simp [binOp, he]; done)
      · by_cases hxs : ∃ e, x = .str e
        · obtain ⟨e, rfl⟩ := hxs
          simp only [DV.R] at hx; subst hx
          cases y <;> simp only [DV.R] at hy
          case str => exact (hns _ _ rfl rfl).elim
          case anyi => rcases hy with rfl | ⟨z1, z2, rfl⟩ <;> (refine ⟨?_, ?_⟩ <;> simp [binOp, he])
          all_goals first
            | (subst hy; refine ⟨?_, ?_⟩ <;> simp [binOp, he]; done)
            | (obtain ⟨z1, z2, rfl, z3⟩ := hy; refine ⟨?_, ?_⟩ <;> simp [binOp, he]; done)
            | (obtain ⟨z1, z2, rfl⟩ := hy; refine ⟨?_, ?_⟩ <;> simp [binOp, he]; done)
            | (obtain ⟨z1, rfl, z3⟩ := hy; refine ⟨?_, ?_⟩ <;> simp [binOp, he]; done)
        · cases x <;> simp only [DV.R] at hx
          case int => exact absurd ⟨_, _, rfl⟩ hxi
          case str => exact absurd ⟨_, rfl⟩ hxs
          case anyi => rcases hx with rfl | ⟨z1, z2, rfl⟩ <;> (refine ⟨?_, ?_⟩ <;> simp [binOp, he])
          all_goals first
            | (subst hx; refine ⟨?_, ?_⟩ <;> simp [binOp, he]; done)
            | (obtain ⟨z1, z2, rfl, z3⟩ := hx; refine ⟨?_, ?_⟩ <;> simp [binOp, he]; done)
            | (obtain ⟨z1, z2, rfl⟩ := hx; refine ⟨?_, ?_⟩ <;> simp [binOp, he]; done)
            | (obtain ⟨z1, rfl, z3⟩ := hx; refine ⟨?_, ?_⟩ <;> simp [binOp, he]; done)
    split at h
    · split at h
      · rename_i hg
        simp only [Option.map_eq_some_iff] at h
        obtain ⟨e, he, rfl⟩ := h
        have hg' := eqG_run (P := P) (op := .eql) (.inl rfl) hc hg hx hy w
        have hr := (eqlRun vx vy hx hy (eqOp_run hF he hx hy w)).1
        exact ⟨_, by simp only [Sem.run_bind, hg', Result.andThen_ok]; exact hr, rfl⟩
      · cases h
    · split at h
      · rename_i hg
        simp only [Option.map_eq_some_iff] at h
        obtain ⟨e, he, rfl⟩ := h
        have hg' := eqG_run (P := P) (op := .neq) (.inr rfl) hc hg hx hy w
        have hr := (eqlRun vx vy hx hy (eqOp_run hF he hx hy w)).2
        exact ⟨_, by simp only [Sem.run_bind, hg', Result.andThen_ok]; exact hr, by simp only [DV.R]; rw [notB_bool]⟩
      · cases h
    · cases h

theorem unD_sound {m : Emb} {ρ : Env} (hF : F.ok ρ) {op : UnOp} {x d : DV} (h : unD F op x = some d) {vx : Value} (hx : x.R m ρ vx) (w : World) :
    ∃ v, (Op.unary op vx).run P w = .ok v w ∧ d.R m ρ v := by
  unfold unD at h
  split at h
  · cases h; simp only [DV.R] at hx; subst hx
    exact ⟨_, rfl, by simp only [DV.R]; rw [rwE_ev hF, wrapI_int hF, subI_int]; rfl⟩
  · cases h; simp only [DV.R] at hx; subst hx
    exact ⟨_, rfl, by simp only [DV.R]; rw [rwE_ev hF, lit2_ev]; rfl⟩
  · cases h; simp only [DV.R] at hx; subst hx
    exact ⟨_, rfl, by simp only [DV.R]; rw [notB_bool]⟩
  · cases h

theorem notLt_spec {ρ : Env} (hF : F.ok ρ) {h l : E} (hh : notLt F h l = true) : ¬ (h.ev ρ).int < (l.ev ρ).int := by
  simp only [notLt, Bool.or_eq_true, beq_iff_eq] at hh
  rcases hh with h1 | h1
  · exact of_decide_eq_false (E.dec_sound hF h1)
  · split at h1
    · rename_i x c
      simp only [Bool.or_eq_true, Bool.and_eq_true, decide_eq_true_eq] at h1
      rcases h1 with ⟨h0, hs⟩ | h1
      · rw [E.same_eq hs]
        simp only [E.ev, B2.ev, Sc.int_I]
        omega
      · split at h1
        · simp only [Bool.and_eq_true, decide_eq_true_eq] at h1
          obtain ⟨h0, hs⟩ := h1
          rw [E.same_eq hs]
          simp only [E.ev, B2.ev, Sc.int_I]
          omega
        · cases h1
    · cases h1

theorem bndsD_spec {m : Emb} {ρ : Env} (hF : F.ok ρ) {lo hi : Option DV} {len cap a b : E} (h : bndsD F lo hi len cap = some (a, b)) {vlo vhi : Option Value} (hlo : ∀ d, lo = some d → ∃ v, vlo = some v ∧ d.R m ρ v) (hlon : lo = none → vlo = none)
    (hhi : ∀ d, hi = some d → ∃ v, vhi = some v ∧ d.R m ρ v) (hhin : hi = none → vhi = none) (nl nc : Nat) (hl : (len.ev ρ).int = nl) (hcp : (cap.ev ρ).int ≤ nc) (sl : Bool) (w : World) :
    (Instr.sliceBounds sl nl nc vlo vhi none).run P w = .ok ((a.ev ρ).int.toNat, (b.ev ρ).int.toNat, nc) w ∧ 0 ≤ (a.ev ρ).int ∧ 0 ≤ (b.ev ρ).int ∧ (lo ≠ none → (a.ev ρ).int ≤ (b.ev ρ).int) ∧ (lo = none → (a.ev ρ).int = 0) ∧ (hi = none → (b.ev ρ).int = nl) ∧ (hi ≠ none → (b.ev ρ).int ≤ nc) := by
  unfold bndsD at h
  split at h
  · cases h
  · rename_i hb hh
    have hB : ∃ bb : Nat, (match vhi with | some v => Instr.sliceBound v nc (if sl then .sliceAcap else .sliceAlen) | none => (pure nl : Sem Nat)).run P w = .ok bb w ∧ (hb.ev ρ).int = bb ∧ (hi = none → (hb.ev ρ).int = nl) ∧ (hi ≠ none → (hb.ev ρ).int ≤ nc) := by
      cases hi with
      | none =>
        simp at hh; subst hh
        rw [hhin rfl]
        exact ⟨nl, rfl, hl, fun _ => hl, fun hc => absurd rfl hc⟩
      | some d =>
        obtain ⟨v, rfl, hr⟩ := hhi d rfl
        skip
        split at hh
        · rename_i heq; cases heq
        · rename_i k e heq
          cases heq
          split at hh
          · rename_i hc
            cases hh
            simp only [DV.R] at hr; subst hr
            have h0 := nonneg_of hF hc.1
            have h1 : ¬ (cap.ev ρ).int < (hb.ev ρ).int := of_decide_eq_false (E.dec_sound hF hc.2)
            refine ⟨(hb.ev ρ).int.toNat, ?_, by omega, (fun hcn => by cases hcn), fun _ => by omega⟩
            simp only [Instr.sliceBound, asIntOf, Sem.run_bind, Sem.run_pure, Result.andThen_ok]
            rw [if_pos ⟨h0, by omega⟩]; rfl
          · cases hh
        · cases hh
    obtain ⟨bb, hbrun, hbb, hbn, hbc⟩ := hB
    have common : ∀ (vlo' : Option Value) (aa : Nat), (match vlo' with | some v => Instr.sliceBound v bb .sliceB | none => (pure 0 : Sem Nat)).run P w = .ok aa w → (Instr.sliceBounds sl nl nc vlo' vhi none).run P w = .ok (aa, bb, nc) w := by
      intro vlo' aa ha
      cases vhi with
      | none =>
        simp only [Sem.run_pure] at hbrun; cases hbrun
        cases vlo' with
        | none => simp only [Sem.run_pure] at ha; cases ha; rfl
        | some v => simp only [Instr.sliceBounds, Sem.run_bind, Sem.run_pure, Result.andThen_ok, Option.isSome_none, Bool.false_eq_true, if_false]; simp only at ha; rw [ha]; rfl
      | some u =>
        simp only at hbrun
        cases vlo' with
        | none => simp only [Sem.run_pure] at ha; cases ha; simp only [Instr.sliceBounds, Sem.run_bind, Sem.run_pure, Result.andThen_ok]; rw [hbrun]; rfl
        | some v => simp only [Instr.sliceBounds, Sem.run_bind, Sem.run_pure, Result.andThen_ok, Option.isSome_none, Bool.false_eq_true, if_false]; rw [hbrun]; simp only [Result.andThen_ok]; simp only at ha; rw [ha]; rfl
    cases lo with
    | none =>
      simp at h
      obtain ⟨rfl, rfl⟩ := h
      rw [hlon rfl]
      refine ⟨?_, by simp [E.ev], by omega, fun hc => absurd rfl hc, fun _ => rfl, hbn, hbc⟩
      rw [common none 0 rfl]
      simp [E.ev, hbb]
    | some d =>
      obtain ⟨v, rfl, hr⟩ := hlo d rfl
      skip
      split at h
      · rename_i heq; cases heq
      · rename_i k l heq
        cases heq
        split at h
        · rename_i hc
          simp at h
          obtain ⟨rfl, rfl⟩ := h
          simp only [DV.R] at hr; subst hr
          have h0 := nonneg_of hF hc.1
          have h1 : ¬ (hb.ev ρ).int < (l.ev ρ).int := notLt_spec hF hc.2
          refine ⟨?_, h0, by omega, fun _ => by omega, (fun hcn => by cases hcn), hbn, hbc⟩
          rw [common (some (.int k (l.ev ρ).int)) (l.ev ρ).int.toNat ?_]
          · simp [hbb]
          · simp only [Instr.sliceBound, asIntOf, Sem.run_bind, Sem.run_pure, Result.andThen_ok]
            rw [if_pos ⟨h0, by omega⟩]; rfl
        · cases h
      · cases h

end

end Go.Eng

/-
  One operation that makes a value: it is made.
-/
namespace Go.Eng

section
variable {P : Program} {F : Facts}

theorem run_v {s : Sem Value} {w w' : World} {v : Value} (h : s.run P w = .ok v w') : (do pure (Next.value (← s)) : Sem Next).run P w = .ok (.value v) w' := by
  simp only [Sem.run_bind, h, Result.andThen_ok, Sem.run_pure]

theorem isC_or (x y : Operand) : (isC x || isC y) = true → (x matches .const _) = true ∨ (y matches .const _) = true := by
  intro hh
  rcases Bool.or_eq_true _ _ ▸ hh with h1 | h1
  · left; cases x <;> simp_all [isC]
  · right; cases y <;> simp_all [isC]

theorem R_ptr_inv {m : Emb} {ρ : Env} {id : Nat} {o : Off} {v : Value} (h : (DV.ptr id o).R m ρ v) : ∃ b, m.ι id = some b ∧ v = .pointer (some ⟨b, o.den ρ, none⟩) := by
  simpa only [DV.R] using h

theorem maxFold {m : Emb} {ρ : Env} (hF : F.ok ρ) (k : IntKind) (a b : E) : (DV.int k (rwE F (iteE F (boolE F (.bi .lt a b)) b a))).R m ρ (.int k (if (b.ev ρ).int > (a.ev ρ).int then (b.ev ρ).int else (a.ev ρ).int)) := by
  simp only [DV.R]
  rw [rwE_ev hF, iteE_ev hF, boolE_bool hF]
  simp only [E.ev, B2.ev, Sc.bool_B]
  by_cases h : (a.ev ρ).int < (b.ev ρ).int
  · simp [h]
  · simp [h]

theorem valA_sound {m : Emb} {ρ : Env} (hF : F.ok ρ) {h : T Blk} {t : T DV} {a : Act} {w : World} (hH : HeapR m ρ h w) (ht : TmpR m ρ t a) {o : Oper} {d : DV} (hd : valA P F h t o.op = some d) :
    ∃ v, (execOp a.eval o).run P w = .ok (.value v) w ∧ d.R m ρ v := by
  obtain ⟨dst, op, type, pos, after, guard⟩ := o
  simp only at hd
  cases op <;> simp only [valA, reduceCtorEq] at hd
  case move x => exact ⟨_, rfl, opd_R ht hd⟩
  case assign x => exact ⟨_, rfl, opd_R ht hd⟩
  case pick c x y =>
    split at hd
    · rename_i e hc
      have hcR := opd_R ht hc
      simp only [DV.R] at hcR
      have hrun : (execOp a.eval ⟨dst, .pick c x y, type, pos, after, guard⟩).run P w = .ok (.value (if (e.ev ρ).bool then a.eval x else a.eval y)) w := by
        simp [execOp, hcR, asBool]
      split at hd
      · rename_i he
        have := E.dec_sound hF he
        exact ⟨_, hrun, by simp only [this, if_true]; exact opd_R ht hd⟩
      · rename_i he
        have := E.dec_sound hF he
        exact ⟨_, hrun, by simp only [this, Bool.false_eq_true, if_false]; exact opd_R ht hd⟩
      · split at hd
        · rename_i dx dy hx hy
          exact ⟨_, hrun, iteDV_R hF hd (fun _ => opd_R ht hx) (fun _ => opd_R ht hy)⟩
        · cases hd
    · cases hd
  case build ty parts =>
    split at hd
    · rename_i ds hds
      obtain ⟨hl, hg⟩ := list_mapM_some hds
      have := buildD_sound (m := m) (ρ := ρ) hd (vparts := parts.map fun (i, x) => (i, a.eval x)) (by simpa using hl.symm) (fun k i d hk => by
        obtain ⟨p, hp, hq⟩ := hg k (i, d) hk
        simp only [Option.map_eq_some_iff, Prod.mk.injEq] at hq
        obtain ⟨d', hd', rfl, rfl⟩ := hq
        refine ⟨a.eval p.2, ?_, opd_R ht hd'⟩
        have hp' : parts[k]? = some p := by simpa using hp
        simp [hp']) w
      obtain ⟨v, hv, hr⟩ := this
      exact ⟨v, run_v hv, hr⟩
    · cases hd
  case load ty x =>
    split at hd
    · rename_i dp hp
      obtain ⟨v, hv, hr⟩ := loadD_sound hF hH hd (opd_R ht hp)
      exact ⟨v, run_v hv, hr⟩
    · cases hd
  case nilCheck x =>
    split at hd
    · rename_i id of hx
      cases hd
      have hR := opd_R ht hx
      obtain ⟨b, hb, hv⟩ := R_ptr_inv hR
      exact ⟨a.eval x, by simp [execOp, hv], hR⟩
    · rename_i g of hx
      cases hd
      have hR := opd_R ht hx
      have hv := hR
      simp only [DV.R] at hv
      exact ⟨a.eval x, by simp [execOp, hv], hR⟩
    · rename_i f x1 x2 hx
      cases hd
      have hR := opd_R ht hx
      have hv := hR
      simp only [DV.R] at hv
      obtain ⟨y1, y2, hv, _⟩ := hv
      exact ⟨a.eval x, by simp [execOp, hv], hR⟩
    · cases hd
  case binOp op ty x y yt =>
    split at hd
    · rename_i dx dy hx hy
      obtain ⟨v, hv, hr⟩ := binD_sound (P := P) hF hd (isC_or x y) (opd_R ht hx) (opd_R ht hy) w
      exact ⟨v, run_v hv, hr⟩
    · cases hd
  case unOp op ty x =>
    split at hd
    · rename_i dx hx
      obtain ⟨v, hv, hr⟩ := unD_sound (P := P) hF hd (opd_R ht hx) w
      exact ⟨v, run_v hv, hr⟩
    · cases hd
  case convert src dst' x =>
    split at hd
    · rename_i ds k k' e hs hu hx
      cases hd
      have hR := opd_R ht hx
      simp only [DV.R] at hR
      refine ⟨.int k (k.wrap (e.ev ρ).int), run_v ?_, ?_⟩
      · rw [hR]
        simp [convert, run_underlying hs, run_underlying hu, Conv.intToInt]
      · simp only [DV.R]; rw [rwE_ev hF, wrapI_int hF]
    · rename_i e hs hu hx
      cases hd
      have hR := opd_R ht hx
      simp only [DV.R] at hR
      refine ⟨.string (e.ev ρ).str, run_v ?_, rfl⟩
      rw [hR]
      simp [convert, run_underlying hs, run_underlying hu]
    · cases hd
  case fieldAddr s x f =>
    split at hd
    · rename_i fs id of hs hx
      split at hd
      · rename_i fd hfd
        split at hd
        · rename_i i hi
          split at hd
          · cases hd
          · rename_i hsz
            cases hd
            obtain ⟨b, hb, hv⟩ := R_ptr_inv (opd_R ht hx)
            refine ⟨.pointer (some ⟨b, of.den ρ + fd.offset, none⟩), run_v ?_, ?_⟩
            · rw [hv]
              simp [Instr.fieldAt, run_underlying hs, hfd, Instr.sureAddr, fieldPlace, sizeOf, typeInfo, hi, hsz, add_none]
            · simp only [DV.R]; exact ⟨b, hb, by rw [Off.den_add]⟩
        · cases hd
      · cases hd
    · cases hd
  case field s x f =>
    split at hd
    · rename_i fs l hs hx
      split at hd
      · rename_i fd hfd
        have hR := opd_R ht hx
        simp only [DV.R] at hR
        obtain ⟨vs, hv, hl⟩ := hR
        obtain ⟨v, hv', hr⟩ := partD_sound (P := P) (w := w) hd hl
        refine ⟨v, run_v ?_, hr⟩
        rw [hv]
        simp [Instr.field, run_underlying hs, hfd, asAgg, hv']
      · cases hd
    · cases hd
  case indexAddr ty x ix =>
    split at hd
    · rename_i len el id of k e hu hx hix
      split at hd
      · rename_i i hi
        split at hd
        · rename_i hok
          cases hd
          obtain ⟨h0, h1⟩ := idxOk_spec hF hok
          simp only [E.ev, Sc.int_I] at h1
          obtain ⟨b, hb, hv⟩ := R_ptr_inv (opd_R ht hx)
          have hRi := opd_R ht hix
          simp only [DV.R] at hRi
          refine ⟨.pointer (some ⟨b, of.den ρ + (e.ev ρ).int.toNat * i.size, none⟩), run_v ?_, ?_⟩
          · rw [hv, hRi]
            simp [Instr.indexAt, run_underlying hu, asIntOf, Instr.sureAddr, sizeOf, typeInfo, hi, add_none, h0, h1]
          · simp only [DV.R]; exact ⟨b, hb, by rw [Off.den_addE]⟩
        · cases hd
      · cases hd
    · rename_i el id of len cap k e hu hx hix
      split at hd
      · rename_i i hi
        split at hd
        · rename_i hok
          cases hd
          obtain ⟨h0, h1⟩ := idxOk_spec hF hok
          have hR := opd_R ht hx
          simp only [DV.R] at hR
          obtain ⟨b, hb, hv, hl0, hlc⟩ := hR
          have hRi := opd_R ht hix
          simp only [DV.R] at hRi
          have h1' : (e.ev ρ).int < (((len.ev ρ).int.toNat : Nat) : Int) := by omega
          refine ⟨.pointer (some ⟨b, of.den ρ + (e.ev ρ).int.toNat * i.size, none⟩), run_v ?_, ?_⟩
          · rw [hv, hRi]
            simp only [Instr.indexAt, Sem.run_bind, asIntOf, Sem.run_pure, Result.andThen_ok, run_underlying hu]
            rw [if_pos ⟨h0, h1'⟩]
            simp [sizeOf, typeInfo, hi, add_none]
          · simp only [DV.R]; exact ⟨b, hb, by rw [Off.den_addE]⟩
        · cases hd
      · cases hd
    · cases hd
  case index ty x ix =>
    split at hd
    · rename_i len el l k n hu hx hix
      split at hd
      · rename_i i hi
        split at hd
        · rename_i hn
          have hR := opd_R ht hx
          simp only [DV.R] at hR
          obtain ⟨vs, hv, hl⟩ := hR
          have hRi := opd_R ht hix
          simp only [DV.R, E.ev, Sc.int_I] at hRi
          obtain ⟨v, hv', hr⟩ := partD_sound (P := P) (w := w) hd hl
          refine ⟨v, run_v ?_, hr⟩
          rw [hv, hRi]
          simp only [Instr.index, Sem.run_bind, asIntOf, Sem.run_pure, Result.andThen_ok, run_underlying hu]
          rw [if_pos hn]
          simp [sizeOf, typeInfo, hi, hv']
        · cases hd
      · cases hd
    · rename_i s k e hu hx hix
      split at hd
      · rename_i hok
        cases hd
        obtain ⟨h0, h1⟩ := idxOk_spec hF hok
        rw [lenS_int] at h1
        have hR := opd_R ht hx
        simp only [DV.R] at hR
        have hRi := opd_R ht hix
        simp only [DV.R] at hRi
        have hlt : (e.ev ρ).int.toNat < (s.ev ρ).str.size := by omega
        refine ⟨.int .u8 (byteAt (s.ev ρ).str (e.ev ρ).int), run_v ?_, ?_⟩
        · rw [hR, hRi]
          simp only [Instr.index, Sem.run_bind, asIntOf, Sem.run_pure, Result.andThen_ok, run_underlying hu]
          rw [if_pos h0]
          have hget : (s.ev ρ).str[(e.ev ρ).int.toNat]? = some ((s.ev ρ).str.data.toList.getD (e.ev ρ).int.toNat 0) := by
            rw [getElem?_pos (s.ev ρ).str _ hlt]
            congr 1
            have hlt' : (e.ev ρ).int.toNat < (s.ev ρ).str.data.toList.length := by simpa using hlt
            rw [List.getD_eq_getElem?_getD, List.getElem?_eq_getElem hlt']
            rfl
          simp only [hget]
          rfl
        · simp only [DV.R]; rw [rwE_ev hF, atS_int]
      · cases hd
    · cases hd
  case extract x i =>
    split at hd
    · rename_i l hx
      have hR := opd_R ht hx
      simp only [DV.R] at hR
      obtain ⟨vs, hv, hl⟩ := hR
      obtain ⟨v, hv', hr⟩ := hl.get hd
      refine ⟨v, run_v ?_, hr⟩
      rw [hv]
      have : vs[i]? = some v := by simpa using hv'
      simp [Instr.extract, this]
    · cases hd
  case makeInterface ty x =>
    split at hd
    · cases hd
    · rename_i du dx hni hu hx
      cases hd
      refine ⟨.iface ty (a.eval x), run_v ?_, ?_⟩
      · simp only [Instr.makeInterface, Sem.run_bind, run_underlying hu, Result.andThen_ok]
        cases du <;> first | rfl | (rename_i ms; exact (hni ms _ hu).elim) | (exact absurd hu (fun hc => hni _ hc))
      · simp only [DV.R]; exact ⟨_, rfl, opd_R ht hx⟩
    · cases hd
  case makeFunc fn first cap =>
    split at hd
    · rename_i x y hx hy
      cases hd
      refine ⟨.func fn (first.map a.eval) (cap.map a.eval), run_v rfl, ?_⟩
      simp only [DV.R]
      exact ⟨_, _, rfl, by simpa using opds_R ht hx, by simpa using opds_R ht hy⟩
    · cases hd
  case slice ty x lo hi mx =>
    cases mx with
    | some mx => simp at hd
    | none =>
      simp only at hd
      split at hd
      · rename_i s hu hx
        split at hd
        · rename_i dl dh hl hh
          split at hd
          · rename_i e1 e2 hb
            cases hd
            have hR := opd_R ht hx
            simp only [DV.R] at hR
            have hlo : (∀ d, dl = some d → ∃ v, lo.map a.eval = some v ∧ d.R m ρ v) ∧ (dl = none → lo.map a.eval = none) := by
              cases lo with
              | none => simp at hl; subst hl; exact ⟨(fun d h => by cases h), fun _ => rfl⟩
              | some x =>
                simp only [Option.map_eq_some_iff] at hl
                obtain ⟨d', hd', rfl⟩ := hl
                exact ⟨(fun d h => by cases h; exact ⟨_, rfl, opd_R ht hd'⟩), (fun h => by cases h)⟩
            have hhi : (∀ d, dh = some d → ∃ v, hi.map a.eval = some v ∧ d.R m ρ v) ∧ (dh = none → hi.map a.eval = none) := by
              cases hi with
              | none => simp at hh; subst hh; exact ⟨(fun d h => by cases h), fun _ => rfl⟩
              | some x =>
                simp only [Option.map_eq_some_iff] at hh
                obtain ⟨d', hd', rfl⟩ := hh
                exact ⟨(fun d h => by cases h; exact ⟨_, rfl, opd_R ht hd'⟩), (fun h => by cases h)⟩
            obtain ⟨hrun, _⟩ := bndsD_spec (P := P) hF hb hlo.1 hlo.2 hhi.1 hhi.2 (s.ev ρ).str.size (s.ev ρ).str.size (lenS_int ρ s) (Int.le_of_eq (lenS_int ρ s)) false w
            refine ⟨.string ((s.ev ρ).str.extract (e1.ev ρ).int.toNat (e2.ev ρ).int.toNat), run_v ?_, ?_⟩
            · rw [hR]
              simp only [Instr.sliceAt, Instr.slice, Sem.run_bind, run_underlying hu, Result.andThen_ok, Option.map_none, Option.isSome_none, Bool.false_eq_true, if_false, hrun, Sem.run_pure]
            · simp only [DV.R]; rw [rwE_ev hF, subS_ev]
          · cases hd
        · cases hd
      · cases hd
  case call c =>
    obtain ⟨callee, args, argTypes⟩ := c
    simp only at hd
    split at hd
    · rename_i d0 hargs
      have hA := opds_R ht hargs
      simp only [DV.RL] at hA
      obtain ⟨v0, vr, he, hR, rfl⟩ := hA
      have hmap : args.map a.eval = #[v0] := Array.toList_inj.1 (by rw [Array.toList_map]; exact he)
      split at hd
      · rename_i ty hty
        have red : ∀ {v}, (Builtin.len_ argTypes type #[v0]).run P w = .ok v w → (execOp a.eval ⟨dst, .call ⟨.builtin .len, args, argTypes⟩, type, pos, after, guard⟩).run P w = .ok (.value v) w := by
          intro v hv
          simp [execOp, resolve, hmap, invoke, builtin, hv]
        split at hd
        · rename_i s hu
          cases hd
          simp only [DV.R] at hR; subst hR
          exact ⟨.int .i64 (s.ev ρ).str.size, red (by simp [Builtin.len_, hty, run_underlying hu, goInt]), by simp only [DV.R]; rw [lenS_int]⟩
        · rename_i e1 id of n cap hu
          cases hd
          simp only [DV.R] at hR
          obtain ⟨b, hb, rfl, h0, _⟩ := hR
          exact ⟨.int .i64 ((n.ev ρ).int.toNat : Nat), red (by simp [Builtin.len_, hty, run_underlying hu, goInt]), by simp only [DV.R]; rw [Int.toNat_of_nonneg h0]⟩
        · rename_i e1 hu
          cases hd
          simp only [DV.R] at hR; subst hR
          exact ⟨.int .i64 0, red (by simp [Builtin.len_, hty, run_underlying hu, goInt]), rfl⟩
        · rename_i e1 hu
          cases hd
          simp only [DV.R] at hR
          obtain ⟨z1, z2, rfl⟩ := hR
          exact ⟨.int .i64 0, red (by simp [Builtin.len_, hty, run_underlying hu, goInt]), rfl⟩
        · rename_i n e1 hu
          cases hd
          exact ⟨.int .i64 n, red (by simp [Builtin.len_, hty, run_underlying hu, goInt]), rfl⟩
        · rename_i e1 e2 hu
          cases hd
          simp only [DV.R] at hR; subst hR
          exact ⟨.int .i64 0, red (by simp [Builtin.len_, hty, run_underlying hu, goInt]), rfl⟩
        · cases hd
      · cases hd
    · rename_i k e1 k' e2 hargs
      cases hd
      have hA := opds_R ht hargs
      simp only [DV.RL, DV.R] at hA
      obtain ⟨v0, vr, he, rfl, v1, vr', rfl, rfl, rfl⟩ := hA
      have hmap : args.map a.eval = #[.int k (e1.ev ρ).int, .int k' (e2.ev ρ).int] := Array.toList_inj.1 (by rw [Array.toList_map]; exact he)
      refine ⟨_, ?_, maxFold hF k e1 e2⟩
      simp [execOp, resolve, hmap, invoke, builtin, Builtin.max_, Builtin.max2]
    · rename_i k e1 k' e2 hargs
      cases hd
      have hA := opds_R ht hargs
      simp only [DV.RL, DV.R] at hA
      obtain ⟨v0, vr, he, rfl, v1, vr', rfl, rfl, rfl⟩ := hA
      have hmap : args.map a.eval = #[.int k (e1.ev ρ).int, .int k' (e2.ev ρ).int] := Array.toList_inj.1 (by rw [Array.toList_map]; exact he)
      refine ⟨.int k (if (e2.ev ρ).int < (e1.ev ρ).int then (e2.ev ρ).int else (e1.ev ρ).int), ?_, ?_⟩
      · simp [execOp, resolve, hmap, invoke, builtin, Builtin.min_, Builtin.min2]
      · simp only [DV.R]
        rw [rwE_ev hF, iteE_ev hF, boolE_bool hF]
        simp only [E.ev, B2.ev, Sc.bool_B]
        by_cases h : (e2.ev ρ).int < (e1.ev ρ).int
        · simp [h]
        · simp [h]
    · cases hd

end

end Go.Eng

/-
  Operations that lay or write blocks.
-/
namespace Go.Eng

section
variable (P : Program) (F : Facts)

/-- Is what is made a great row of numbers? -/
def bigB (b : Int) : DV → Bool
  | .int _ (.li 0) => decide (1024 ≤ b)
  | _ => false

/-- A cell of a fixed size: of so many bytes that no make and no append of what is told here runs out. -/
def memA (h : T Blk) (n : Nat) (t : T DV) : Op → Option Out
  | .alloc ty => match zeroD P ty with
    | some z => some ⟨.ptr n ⟨0, []⟩, h.set n (.cells z.cells ty .rw), n + 1⟩
    | none => none
  | .box ty x => match opd t x with
    | some d => some ⟨.ptr n ⟨0, []⟩, h.set n (.cells d.cells ty .rw), n + 1⟩
    | none => none
  | .store ty a x => match opd t a, opd t x with
    | some p, some d => match storeD P F h ty p d with
      | some h' => some ⟨.tup [], h', n⟩
      | none => none
    | _, _ => none
  | .buildSlice ty len parts => match P.underlying ty, parts.toList.mapM (fun p => (opd t p.2).map fun d => (p.1, d)) with
    | some (.slice e), some ds => match P.info? e, zeroD P e with
      | some ie, some z => if 0 < len * ie.size ∧ len * ie.size ≤ 1000000 ∧ z.cells ≠ [] then
          match fillD (fun i => some (i * ie.size, ie.size)) (rowD (len * ie.size) z.cells) ds with
          | some l => some ⟨.slc n ⟨0, []⟩ (.li len) (.own (.li 0)), h.set n (.cells l e (.own ie.size)), n + 1⟩
          | none => none
        else if len = 0 ∧ ds = [] then some ⟨.slc n ⟨0, []⟩ (.li 0) (.own (.li 0)), h.set n (.cells [] e (.own ie.size)), n + 1⟩
        else none
      | _, _ => none
    | _, _ => none
  | .makeSlice ty l c => match P.underlying ty, opd t l, opd t c with
    | some (.slice e), some (.int _ (.li a)), some (.int _ (.li b)) => match P.info? e, zeroD P e with
      | some ie, some z => if 0 ≤ a ∧ a ≤ b ∧ b ≤ 1000000 ∧ ie.bytes ≤ 1000000 ∧ z.cells ≠ [] ∧ bigB b z = false then
          some ⟨.slc n ⟨0, []⟩ (.li a) (.own (.li 0)), h.set n (.cells (rowD (b.toNat * ie.size) z.cells) e (.own ie.size)), n + 1⟩
        else none
      | _, _ => none
    | _, _, _ => none
  | _ => none

variable {P} {F}

/-- What an operation's run is to be. -/
def OpOk (m : Emb) (ρ : Env) (h : T Blk) (w : World) (run : Result Next) (r : Out) : Prop :=
  ∃ nx v w' m', run = .ok nx w' ∧ (nx = .value v ∨ (nx = .skip ∧ v = undef)) ∧ r.d.R m' ρ v ∧ HeapR m' ρ r.h w' ∧ Trans m h w m' r.h w' ∧ (∀ id, r.n ≤ id → m'.ι id = none)

theorem put_fresh {m : Emb} {n b k : Nat} (hf : ∀ id, n ≤ id → m.ι id = none) : ∀ id, n + 1 ≤ id → (m.put n b k).ι id = none := fun id hid => by
  have : id ≠ n := by omega
  simp [Emb.put, this, hf id (by omega)]

theorem new_ok {m : Emb} {ρ : Env} {h : T Blk} {w : World} {n k : Nat} (hH : HeapR m ρ h w) (hf : ∀ id, n ≤ id → m.ι id = none) {B : Blk} {o : Obj} (hB : B.R m ρ k o) {d : DV} {v : Value}
    (hd : d.R (m.put n w.heap.size k) ρ v) {run : Result Next} (hrun : run = .ok (.value v) (w.alloc o)) : OpOk m ρ h w run ⟨d, h.set n B, n + 1⟩ :=
  ⟨.value v, v, w.alloc o, m.put n w.heap.size k, hrun, .inl rfl, hd, hH.push (hf n (Nat.le_refl _)) (hB.mono (Emb.le_put (hf n (Nat.le_refl _)))), Trans.push (hf n (Nat.le_refl _)) B o, put_fresh hf⟩

theorem cells_blk {m : Emb} {ρ : Env} {l : List DV} {vs : Array Value} (hl : DV.RL m ρ l vs.toList) (ty : TypeId) (k : Nat) : (Blk.cells l ty .rw).R m ρ k (.cells vs ty) := by
  refine ⟨vs, (0, 0), ⟨_, rfl⟩, ?_, fun i d hd => ?_, rfl⟩
  · have := hl.length; simp at this; omega
  · obtain ⟨v, hv, hr⟩ := hl.get hd; exact ⟨v, by simpa using hv, hr⟩

theorem own_blk {m : Emb} {ρ : Env} {l : List DV} {vs : Array Value} (hl : DV.RL m ρ l vs.toList) (ty : TypeId) (k s : Nat) (hk : k * s ≤ l.length) : (Blk.cells l ty (.own s)).R m ρ k (.cells vs ty) := by
  have hlen := hl.length
  simp at hlen
  refine ⟨vs, (0, 0), ⟨_, rfl⟩, by omega, fun i d hd => ?_, rfl, by omega⟩
  obtain ⟨v, hv, hr⟩ := hl.get hd; exact ⟨v, by simpa using hv, hr⟩

theorem fillD_len {place : Nat → Option (Nat × Nat)} : ∀ {parts : List (Nat × DV)} {cells ds : List DV}, fillD place cells parts = some ds → ds.length = cells.length
  | [], cells, ds, h => by simp [fillD] at h; rw [h]
  | (i, d) :: rest, cells, ds, h => by
    simp only [fillD] at h
    split at h
    · cases h
    · split at h
      · cases h
      · rename_i hc
        simp only [not_or, ne_eq, Classical.not_not, Nat.not_lt, gt_iff_lt] at hc
        rw [fillD_len h]
        unfold setL; simp; omega

theorem memA_sound {m : Emb} {ρ : Env} (hF : F.ok ρ) {h : T Blk} {n : Nat} {t : T DV} {a : Act} {w : World} (hH : HeapR m ρ h w) (ht : TmpR m ρ t a) (hf : ∀ id, n ≤ id → m.ι id = none) {o : Oper} {r : Out}
    (hd : memA P F h n t o.op = some r) : OpOk m ρ h w ((execOp a.eval o).run P w) r := by
  obtain ⟨dst, op, type, pos, after, guard⟩ := o
  simp only at hd
  have hid := hf n (Nat.le_refl _)
  cases op <;> simp only [memA, reduceCtorEq] at hd
  case alloc ty =>
    split at hd
    · rename_i z hz
      cases hd
      obtain ⟨i, zv, hi, hzv, hr⟩ := zeroD_R hz m ρ
      refine new_ok (k := 0) hH hf (cells_blk hr.cells ty 0) (v := .pointer (some ⟨w.heap.size, 0, none⟩)) (by simp only [DV.R]; exact ⟨w.heap.size, by simp [Emb.put], rfl⟩) ?_
      have : (zeroValue ty).run P w = .ok zv w := by simp [zeroValue, typeInfo, hi, hzv]
      simp only [execOp, Sem.run_bind, Instr.alloc, this, Result.andThen_ok, newVar_run, Sem.run_pure]
    · cases hd
  case box ty x =>
    split at hd
    · rename_i dx hx
      cases hd
      refine new_ok (k := 0) hH hf (cells_blk (opd_R ht hx).cells ty 0) (v := .pointer (some ⟨w.heap.size, 0, none⟩)) (by simp only [DV.R]; exact ⟨w.heap.size, by simp [Emb.put], rfl⟩) ?_
      simp only [execOp, Sem.run_bind, Instr.box, Result.andThen_ok, newVar_run, Sem.run_pure]
    · cases hd
  case store ty x y =>
    split at hd
    · rename_i p dx hp hx
      split at hd
      · rename_i h' hs
        cases hd
        obtain ⟨w', hrun, hH', hT⟩ := storeD_sound hF hH hs (opd_R ht hp) (opd_R ht hx)
        refine ⟨.skip, undef, w', m, ?_, .inr ⟨rfl, rfl⟩, ?_, hH', hT, hf⟩
        · simp only [execOp, Sem.run_bind, hrun, Result.andThen_ok, Sem.run_pure]
        · simp [DV.R, DV.RL, undef]
      · cases hd
    · cases hd
  case buildSlice ty len parts =>
    split at hd
    · rename_i e ds hu hds
      split at hd
      · rename_i ie z hie hz
        split at hd
        · rename_i hc
          obtain ⟨hpos, hsmall, hzne⟩ := hc
          split at hd
          · rename_i l hl
            cases hd
            obtain ⟨i, zv, hi, hzv, hr⟩ := zeroD_R hz m ρ
            rw [hie] at hi; cases hi
            obtain ⟨hpl, hpg⟩ := list_mapM_some hds
            have hrow := rowD_R hr.cells hzne (len * ie.size)
            obtain ⟨us, hus, hru⟩ := fillD_R (m := m) (ρ := ρ) hl hrow (vparts := (parts.map fun (i, x) => (i, a.eval x)).toList) (by simpa using hpl.symm) (fun k i d hk => by
              obtain ⟨p, hp, hq⟩ := hpg k (i, d) hk
              simp only [Option.map_eq_some_iff, Prod.mk.injEq] at hq
              obtain ⟨d', hd', rfl, rfl⟩ := hq
              refine ⟨a.eval p.2, ?_, opd_R ht hd'⟩
              have hp' : parts[k]? = some p := by simpa using hp
              simp [hp'])
            have hllen : l.length = len * ie.size := by rw [fillD_len hl]; simp [rowD]
            have hrun := run_buildSlice (P := P) w ty e len (parts.map fun (i, x) => (i, a.eval x)) us ie zv hu hie hzv (by omega) (by omega) hus
            refine new_ok (k := len) hH hf (own_blk hru e len ie.size (by omega)) (v := .slice (some ⟨w.heap.size, 0, none⟩) len len) ?_ ?_
            · simp only [DV.R]
              refine ⟨w.heap.size, by simp [Emb.put], ?_, by simp [E.ev], ?_⟩
              · simp [Off.den, sumT, E.ev, Cap.den, Emb.put]
              · simp [E.ev, Cap.den, Emb.put]
            · exact run_v hrun
          · cases hd
        · split at hd
          · rename_i hc
            obtain ⟨rfl, rfl⟩ := hc
            cases hd
            obtain ⟨hpl, _⟩ := list_mapM_some hds
            have hpe : parts = #[] := Array.size_eq_zero_iff.1 (by simpa using hpl.symm)
            subst hpe
            have hrun : (Instr.buildSlice ty 0 #[]).run P w = .ok (.slice (some ⟨w.heap.size, 0, none⟩) 0 0) (w.alloc (.cells #[] e)) := by
              simp [Instr.buildSlice, run_underlying hu, sizeOf, typeInfo, hie, Instr.fill, newRow]
              rw [show Array.range 0 = #[] from Array.size_eq_zero_iff.1 (by simp), Array.map_empty]
            refine new_ok (k := 0) hH hf (own_blk (l := []) (vs := #[]) (by simp [DV.RL]) e 0 ie.size (by simp)) (v := .slice (some ⟨w.heap.size, 0, none⟩) 0 0) ?_ ?_
            · simp only [DV.R]
              refine ⟨w.heap.size, by simp [Emb.put], ?_, by simp [E.ev], ?_⟩
              · simp [Off.den, sumT, E.ev, Cap.den, Emb.put]
              · simp [E.ev, Cap.den, Emb.put]
            · exact run_v (by simpa using hrun)
          · cases hd
      · cases hd
    · cases hd
  case makeSlice ty l c =>
    split at hd
    · rename_i e k1 x k2 y hu hl hc
      split at hd
      · rename_i ie z hie hz
        split at hd
        · rename_i hcond
          obtain ⟨h0, hxy, hy, hby, hzne, _⟩ := hcond
          cases hd
          obtain ⟨i, zv, hi, hzv, hr⟩ := zeroD_R hz m ρ
          rw [hie] at hi; cases hi
          have hRl := opd_R ht hl
          have hRc := opd_R ht hc
          simp only [DV.R, E.ev, Sc.int_I] at hRl hRc
          have hbytes : (ie.bytes : Int) * y ≤ 281474976710656 := by
            have h1 : (ie.bytes : Int) * y ≤ 1000000 * 1000000 := Int.mul_le_mul (by omega) hy (by omega) (by omega)
            omega
          have hrun := run_make (P := P) w ty e ie zv hu hie hzv k1 k2 x y h0 hxy hbytes (by omega)
          have hrow := rowD_R hr.cells hzne (y.toNat * ie.size)
          have hmade : madeCells zv.cells (y.toNat * ie.size) = (Array.range (y.toNat * ie.size)).map (zv.cells[· % zv.cells.size]!) := rfl
          refine new_ok (k := y.toNat) hH hf (own_blk hrow e y.toNat ie.size (by simp [rowD])) (v := .slice (some ⟨w.heap.size, 0, none⟩) x.toNat y.toNat) ?_ ?_
          · simp only [DV.R]
            refine ⟨w.heap.size, by simp [Emb.put], ?_, by simpa [E.ev] using h0, ?_⟩
            · simp [Off.den, sumT, E.ev, Cap.den, Emb.put]
            · simp [E.ev, Cap.den, Emb.put]; omega
          · simp only [execOp]
            rw [hRl, hRc]
            exact run_v hrun
        · cases hd
      · cases hd
    · cases hd
  all_goals simp at hd

end

end Go.Eng
