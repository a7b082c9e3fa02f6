/-
  Stores; new blocks; what a value is built of.
-/
import Derived.Test.YtgielkefgliiiaaEngG
namespace Go.Eng

section
variable {P : Program} {F : Facts}

theorem one_R {m : Emb} {ρ : Env} {d : DV} {v : Value} (h : d.R m ρ v) (h1 : d.one = true) : v.oneCell' = true := by
  cases d <;> simp [DV.one] at h1 <;> simp only [DV.R] at h <;>
    first
      | (obtain ⟨x, y, rfl, _⟩ := h; rfl)
      | (obtain ⟨x, rfl, _⟩ := h; rfl)
      | (obtain ⟨x, _, rfl⟩ := h; rfl)
      | (obtain ⟨x, _, rfl, _⟩ := h; rfl)
      | (subst h; rfl)

theorem RL_one {m : Emb} {ρ : Env} : ∀ {l : List DV} {vs : List Value}, DV.RL m ρ l vs → l.all DV.one = true → ∀ v ∈ vs, v.oneCell' = true
  | [], vs, h, _, v, hv => by simp only [DV.RL] at h; subst h; cases hv
  | d :: r, vs, h, h1, v, hv => by
    simp only [DV.RL] at h
    obtain ⟨u, us, rfl, hu, hr⟩ := h
    simp at h1
    rcases List.mem_cons.1 hv with rfl | hv
    · exact one_R hu h1.1
    · exact RL_one hr (by simpa using h1.2) v hv

theorem storeVar_row {w : World} {g off : Nat} {ty t0 : TypeId} {cur : Array Value} (hg : w.heap[g]? = some (.cells cur t0 (0, 0))) {v : Value} {i : TypeInfo} (hi : P.info? ty = some i) (hs : v.cells.size = i.size)
    (hfit : off + v.cells.size ≤ cur.size) (h1 : ∀ u ∈ v.cells.toList, u.oneCell' = true) :
    (storeVar ty ⟨g, off, none⟩ v).run P w = .ok () (w.setRow g (cur.toList.take off ++ v.cells.toList ++ cur.toList.drop (off + v.cells.toList.length)).toArray) := by
  have := run_storeCells_at (P := P) g off t0 v.cells.toList 0 cur w hg (by simpa using hfit) h1
  simp only [Nat.add_zero] at this
  have hs' : (sizeOf ty).run P w = .ok i.size w := by simp [sizeOf, typeInfo, hi]
  simp only [storeVar, Sem.run_bind, hs', Result.andThen_ok, hs, ne_eq, not_true_eq_false, if_false]
  exact this

theorem setL_get {l cs : List DV} {b : Nat} (hfit : b + cs.length ≤ l.length) (i : Nat) : (setL l b cs)[i]? = if i < b then l[i]? else if i < b + cs.length then cs[i - b]? else l[i]? := by
  unfold setL
  rw [List.append_assoc, List.getElem?_append]
  simp only [List.length_take, Nat.min_eq_left (show b ≤ l.length by omega)]
  split
  · rename_i h; rw [List.getElem?_take, if_pos h]
  · rename_i h
    rw [List.getElem?_append]
    split
    · rename_i h'; rw [if_pos (by omega)]
    · rename_i h'; rw [if_neg (by omega), List.getElem?_drop]; congr 1; omega

theorem splice_get {cur : Array Value} {vs : List Value} {b : Nat} (hfit : b + vs.length ≤ cur.size) (i : Nat) :
    ((cur.toList.take b ++ vs ++ cur.toList.drop (b + vs.length)).toArray)[i]? = if i < b then cur[i]? else if i < b + vs.length then vs[i - b]? else cur[i]? := by
  simp only [List.getElem?_toArray]
  rw [List.append_assoc, List.getElem?_append]
  have : b ≤ cur.toList.length := by simp; omega
  simp only [List.length_take, Nat.min_eq_left this]
  split
  · rename_i h; rw [List.getElem?_take, if_pos h]; simp
  · rename_i h
    rw [List.getElem?_append]
    split
    · rename_i h'; rw [if_pos (by omega)]
    · rename_i h'; rw [if_neg (by omega), List.getElem?_drop]
      have : b + vs.length + (i - b - vs.length) = i := by omega
      rw [this]; simp

def cur_size (c : Array Value) (vx : Value) (b : Nat) : Nat := ((c.toList.take b ++ vx.cells.toList ++ c.toList.drop (b + vx.cells.toList.length)).toArray).size

theorem cur_size_eq {c : Array Value} {vx : Value} {b : Nat} (h : b + vx.cells.size ≤ c.size) : cur_size c vx b = c.size := by
  unfold cur_size
  simp only [List.size_toArray, List.length_append, List.length_take, List.length_drop, Array.length_toList]; omega

theorem storeD_sound {ρ : Env} (hF : F.ok ρ) {m : Emb} {h h' : T Blk} {w : World} (hH : HeapR m ρ h w) {t : TypeId} {p x : DV} (hd : storeD P F h t p x = some h') {vp vx : Value} (hp : p.R m ρ vp) (hx : x.R m ρ vx) :
    ∃ w', (Instr.storeAt t vp vx).run P w = .ok () w' ∧ HeapR m ρ h' w' ∧ Trans m h w m h' w' := by
  unfold storeD at hd
  split at hd
  · rename_i id o
    simp only [DV.R] at hp
    obtain ⟨b, hb, rfl⟩ := hp
    split at hd
    · rename_i l t0 md hg
      obtain ⟨b', ob, hb', ho, c, fr, ⟨t', rfl⟩, hle, hc, hmd⟩ := hH.blk id _ hg rfl
      rw [hb] at hb'; cases hb'
      split at hd
      · rename_i i hi
        split at hd
        · rename_i hcond
          obtain ⟨hsz, hone, hro⟩ := hcond
          have hfr : fr = (0, 0) := Md.fr_of hmd hro
          subst hfr
          have hrw : (Blk.cells l t0 md).rw = true := hro
          have hcs := hx.cells
          have hlen := hcs.length
          have hvsz : vx.cells.size = i.size := by simpa [hsz] using hlen
          have h1 := RL_one hcs hone
          have go : ∀ (h1' : o.den ρ + vx.cells.size ≤ c.size) (l' : List DV), l'.length = l.length →
              (∀ (j : Nat) (d : DV), l'[j]? = some d → (j < o.den ρ ∨ o.den ρ + vx.cells.size ≤ j → ∃ v, c[j]? = some v ∧ d.R m ρ v) ∧ (o.den ρ ≤ j → j < o.den ρ + vx.cells.size → ∃ v, vx.cells[j - o.den ρ]? = some v ∧ d.R m ρ v)) →
              ∃ w', (Instr.storeAt t (.pointer (some ⟨b, o.den ρ, none⟩)) vx).run P w = .ok () w' ∧ HeapR m ρ (h.set id (.cells l' t0 md)) w' ∧ Trans m h w m (h.set id (.cells l' t0 md)) w' := by
            intro hfit l' hl' hcells
            have hrun := storeVar_row (P := P) (ty := t) ho hi hvsz hfit h1
            refine ⟨_, by simp only [Instr.storeAt, Instr.sureAddr, Sem.run_bind, Sem.run_pure, Result.andThen_ok]; exact hrun, ?_, ?_⟩
            · refine hH.write hg hrw hb (setRow_heap w b c _ t' (0, 0) ho) ?_ hro (fun k hk => setRow_other w b k _ hk)
              have hsz2 : (cur_size c vx (o.den ρ)) = c.size := cur_size_eq (by simpa using hfit)
              refine ⟨_, _, ⟨_, rfl⟩, ?_, ?_, ?_⟩
              · have hvl : vx.cells.toList.length = vx.cells.size := by simp
                simp only [List.size_toArray, List.length_append, List.length_take, List.length_drop, Array.length_toList]; omega
              · intro j d hd'
                rw [splice_get (by simpa using hfit)]
                simp only [Array.length_toList]
                obtain ⟨ha, hb2⟩ := hcells j d hd'
                split
                · rename_i hj; exact ha (.inl hj)
                · rename_i hj
                  split
                  · rename_i hj'; obtain ⟨v, hv, hr⟩ := hb2 (by omega) hj'; exact ⟨v, by simpa using hv, hr⟩
                  · rename_i hj'; exact ha (.inr (by omega))
              · cases md with
                | ro => cases hro
                | gl g => cases hro
                | reg l => cases hro
                | rw => rfl
                | own s => exact ⟨rfl, by have := hmd.2; unfold cur_size at hsz2; rw [hsz2]; exact this⟩
            · exact Trans.write hg hrw hb (fun k hk => setRow_other w b k _ hk) (by simp) rfl rfl rfl
          split at hd
          · rename_i hterms
            have hden : o.den ρ = o.base := by simp [Off.den, hterms, sumT]
            split at hd
            · rename_i hfit
              cases hd
              have hxl : vx.cells.size = x.cells.length := by simpa using hlen
              refine go (by omega) _ ?_ ?_
              · unfold setL; simp; omega
              · intro j d hd'
                rw [setL_get hfit] at hd'
                rw [hden, hxl]
                split at hd'
                · rename_i hj; exact ⟨fun _ => hc j d hd', fun h1 => by omega⟩
                · split at hd'
                  · rename_i hj hj'
                    refine ⟨fun h1 => by omega, fun _ _ => ?_⟩
                    obtain ⟨v, hv, hr⟩ := hcs.get hd'
                    exact ⟨v, by simpa using hv, hr⟩
                  · exact ⟨fun _ => hc j d hd', fun h1 h2 => by omega⟩
            · cases hd
          · rename_i e s hterms
            have hden : o.den ρ = o.base + (e.ev ρ).int.toNat * s := by simp [Off.den, hterms, sumT]
            split at hd
            · rename_i cx lo hi' hcx hr
              split at hd
              · rename_i hlo
                simp only [Option.map_eq_some_iff] at hd
                obtain ⟨l', hl', rfl⟩ := hd
                have hrng := E.rng_has hF e
                rw [hr] at hrng
                have hlo1 := hrng.1 lo rfl
                have hhi1 := hrng.2 hi' rfl
                rw [hcx] at hcs
                simp only [DV.RL] at hcs
                obtain ⟨v1, vr, hvc, hv1, rfl⟩ := hcs
                have hsize1 : vx.cells.size = 1 := by
                  have := congrArg List.length hvc; simpa using this
                have hupd := updD_R hF e o.base s hlo.2.2 hv1 (o.den ρ) hden _ _ l l' c hl' hc
                have hlen' := updD_len e o.base s cx _ _ l l' hl'
                have hsel : o.den ρ < l.length := by
                  -- the place lies in the row
                  have : ∀ (n j : Nat) (l r : List DV), updD F e o.base s cx n j l = some r → (j : Int) ≤ (e.ev ρ).int → (e.ev ρ).int ≤ ((j + n : Nat) : Int) → o.den ρ < l.length := by
                    intro n
                    induction n with
                    | zero =>
                      intro j l r hu hj1 hj2
                      simp only [updD] at hu
                      split at hu
                      · rename_i old hold
                        have := (List.getElem?_eq_some_iff.1 hold).1
                        have hj : (e.ev ρ).int.toNat = j := by omega
                        rw [hden, hj]; exact this
                      · cases hu
                    | succ n ih =>
                      intro j l r hu hj1 hj2
                      simp only [updD] at hu
                      split at hu
                      · rename_i old hold
                        split at hu
                        · by_cases he : (e.ev ρ).int = (j : Int)
                          · have := (List.getElem?_eq_some_iff.1 hold).1
                            have hj : (e.ev ρ).int.toNat = j := by omega
                            rw [hden, hj]; exact this
                          · have := ih (j + 1) _ r hu (by omega) (by omega)
                            simpa using this
                        · cases hu
                      · cases hu
                  exact this _ _ l l' hl' (by omega) (by omega)
                refine go (by omega) l' hlen' ?_
                intro j d hd'
                obtain ⟨ha, hb2⟩ := hupd j d hd'
                refine ⟨fun hj => hb2 (by omega), fun hj1 hj2 => ?_⟩
                have hj : j = o.den ρ := by omega
                refine ⟨v1, ?_, ha hj (by omega) (by omega)⟩
                rw [hj, Nat.sub_self]
                have : vx.cells.toList[0]? = some v1 := by rw [hvc]; rfl
                simpa using this
              · cases hd
            · cases hd
          · cases hd
        · cases hd
      · cases hd
    · cases hd
  · cases hd

/-- A new variable. -/
theorem newVar_run (t : TypeId) (v : Value) (w : World) : (newVar t v).run P w = .ok ⟨w.heap.size, 0, none⟩ (w.alloc (.cells v.cells t)) := by
  rfl

end

end Go.Eng
