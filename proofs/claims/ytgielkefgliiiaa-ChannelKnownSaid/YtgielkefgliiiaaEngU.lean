/-
  Every order of a region; the symbolic machine whole.
-/
import Derived.Test.YtgielkefgliiiaaEngT
namespace Go.Eng

section
variable {P : Program} {F : Facts} {call : CallD} {ops : Array Oper}

def doneL (listed : Array Bool) (i : Nat) : Prop := listed.getD i false = true

theorem getD_true {listed : Array Bool} {j : Nat} : listed.getD j true = false ↔ j < listed.size ∧ ¬ doneL listed j := by
  unfold doneL
  rw [Array.getD_eq_getD_getElem?, Array.getD_eq_getD_getElem?]
  by_cases h : j < listed.size
  · simp [h]
  · simp [h]

theorem binds_any {md : Region.Mode} {e : Edge} (h : Region.binds .any e = true) : Region.binds md e = true := by
  unfold Region.binds at *
  split at h <;> simp_all

/-- Where nothing is ready, all is done. -/
theorem all_done {md : Region.Mode} {l : List Nat} (hl : orderOk md ops l = true) {listed : Array Bool} (hs : listed.size = ops.size) (hr : Region.ready md ops listed = []) : ∀ i, i < ops.size → doneL listed i := by
  simp only [orderOk, Bool.and_eq_true] at hl
  obtain ⟨⟨h0, h1⟩, h2⟩ := hl
  have key : ∀ (k : Nat) (i : Nat), l[k]? = some i → i < ops.size → doneL listed i := by
    intro k
    induction k using Nat.strongRecOn with
    | _ k ih =>
      intro i hi hlt
      apply Classical.byContradiction
      intro hn
      obtain ⟨o, ho⟩ := getlt hlt
      have h3 := (List.all_eq_true.1 h2) (i, k) (mem_zipIdx' hi)
      simp only [ho] at h3
      have : i ∈ Region.ready md ops listed := mem_ready.2 ⟨getD_true.2 ⟨by omega, hn⟩, o, ho, fun e hem hb => by
        have h4 := (List.all_eq_true.1 h3) e (by simpa using hem)
        simp only [hb, Bool.not_true, Bool.false_or] at h4
        have h5 := contains_iff.1 h4
        obtain ⟨p, hp⟩ := List.mem_iff_getElem?.1 h5
        rw [List.getElem?_take] at hp
        split at hp
        · rename_i hpk
          by_cases hsz : e.on < ops.size
          · exact ih p hpk e.on hp hsz
          · exfalso
            -- an edge to no operation: it is never done
            exact absurd ((List.all_eq_true.1 h0) e.on (List.mem_iff_getElem?.2 ⟨p, hp⟩)) (by simpa using hsz)
        · cases hp⟩
      rw [hr] at this; cases this
  intro i hi
  have := (List.all_eq_true.1 h1) i (by simp [hi])
  obtain ⟨k, hk⟩ := List.mem_iff_getElem?.1 (contains_iff.1 this)
  exact key k i hk hi

theorem doneL_set {listed : Array Bool} {j : Nat} (hj : j < listed.size) (i : Nat) : doneL (listed.setIfInBounds j true) i ↔ doneL listed i ∨ i = j := by
  unfold doneL
  rw [Array.getD_eq_getD_getElem?, Array.getD_eq_getD_getElem?]
  by_cases h : i = j
  · subst h; simp [hj]
  · rw [Array.getElem?_setIfInBounds_ne (fun e => h e.symm)]; simp [h]

theorem dinv_congr {D : DR} {ρ : Env} {m0 m : Emb} {w0 w : World} {a : Act} {L L' : Nat → Prop} (h : ∀ i, L i ↔ L' i) (I : DInv D ops ρ m0 w0 L m a w) : DInv D ops ρ m0 w0 L' m a w := by
  have : L = L' := funext fun i => propext (h i)
  rw [← this]; exact I

theorem anyOrder (hcall : CallOk P F call) {ρ : Env} (hF : F.ok ρ) {D : DR} (hD : D.Ok P F call ops) {md : Region.Mode} {l : List Nat} (he : orderOk md ops l = true) {m0 : Emb} {w0 : World} {Q : Exit → Act → World → Prop}
    (hQ : ∀ m a w, DInv D ops ρ m0 w0 (fun i => i < ops.size) m a w → Q .normal a w) :
    ∀ (fuel : Nat) (listed : Array Bool) (m : Emb) (a : Act) (w : World), listed.size = ops.size → ops.size ≤ fuel + (List.range ops.size).countP (fun i => listed.getD i false) → DInv D ops ρ m0 w0 (doneL listed) m a w → wpAny P md ops Q fuel listed a w := by
  have fin : ∀ (listed : Array Bool) (m : Emb) (a : Act) (w : World), listed.size = ops.size → Region.ready md ops listed = [] → DInv D ops ρ m0 w0 (doneL listed) m a w → Q .normal a w := by
    intro listed m a w hs hr I
    have hall := all_done he hs hr
    exact hQ m a w (dinv_congr (fun i => ⟨I.lt i, hall i⟩) I)
  intro fuel
  induction fuel with
  | zero =>
    intro listed m a w hs hc I
    have hr : Region.ready md ops listed = [] := by
      have hle := List.countP_le_length (p := fun i => listed.getD i false) (l := List.range ops.size)
      simp only [List.length_range] at hle
      have hcnt : (List.range ops.size).countP (fun i => listed.getD i false) = (List.range ops.size).length := by rw [List.length_range]; omega
      have hall := List.countP_eq_length.1 hcnt
      cases hrd : Region.ready md ops listed with
      | nil => rfl
      | cons x xs =>
        have hx : x ∈ Region.ready md ops listed := by rw [hrd]; simp
        obtain ⟨h1, o, ho, _⟩ := mem_ready.1 hx
        have hxs : x < ops.size := (Array.getElem?_eq_some_iff.1 ho).1
        exact absurd (hall x (by simp [hxs])) (getD_true.1 h1).2
    exact ⟨hr, fin listed m a w hs hr I⟩
  | succ fuel ih =>
    intro listed m a w hs hc I
    refine ⟨fun hr => fin listed m a w hs hr I, fun j hj => ?_⟩
    obtain ⟨h1, o, ho, hall⟩ := mem_ready.1 hj
    obtain ⟨hjs, hjn⟩ := getD_true.1 h1
    have hjo : j < ops.size := by omega
    have hset := doneL_set (listed := listed) hjs
    have := dstep hcall hF hD I ho hjn (fun e hem hb => hall e hem (binds_any hb)) (Q := Q) (K := wpAny P md ops Q fuel (listed.setIfInBounds j true)) (fun m' a' w' I' => by
      refine ih _ m' a' w' (by simpa using hs) ?_ (dinv_congr (fun i => (hset i).symm) I')
      have hcnt : (List.range ops.size).countP (fun i => (listed.setIfInBounds j true).getD i false) = (List.range ops.size).countP (fun i => listed.getD i false) + 1 := by
        have gen : ∀ n, n ≤ ops.size → (List.range n).countP (fun i => (listed.setIfInBounds j true).getD i false) = (List.range n).countP (fun i => listed.getD i false) + (if j < n then 1 else 0) := by
          intro n
          induction n with
          | zero => intro _; simp
          | succ n ihn =>
            intro hn
            rw [List.range_succ, List.countP_append, List.countP_append, ihn (by omega)]
            by_cases hjn' : n = j
            · subst hjn'
              have e1 : (listed.setIfInBounds n true).getD n false = true := (hset n).2 (.inr rfl)
              have e2 : listed.getD n false = false := by
                cases hh : listed.getD n false with
                | false => rfl
                | true => exact absurd hh hjn
              have c1 : [n].countP (fun i => (listed.setIfInBounds n true).getD i false) = 1 := by rw [List.countP_cons, List.countP_nil]; simp only [e1, if_true]
              have c2 : [n].countP (fun i => listed.getD i false) = 0 := by rw [List.countP_cons, List.countP_nil]; simp only [e2, Bool.false_eq_true, if_false]
              rw [c1, c2, if_neg (Nat.lt_irrefl n), if_pos (Nat.lt_succ_self n)]
            · have e1 : (listed.setIfInBounds j true).getD n false = listed.getD n false := getD_set_ne (d := false) (fun e => hjn' e.symm)
              have c1 : [n].countP (fun i => (listed.setIfInBounds j true).getD i false) = [n].countP (fun i => listed.getD i false) := by
                rw [List.countP_cons, List.countP_cons, List.countP_nil, List.countP_nil]; simp only [e1]
              rw [c1]
              generalize [n].countP (fun i => listed.getD i false) = c
              by_cases hlt : j < n
              · rw [if_pos hlt, if_pos (by omega)]; omega
              · rw [if_neg hlt, if_neg (by omega)]; omega
        rw [gen ops.size (Nat.le_refl _), if_pos hjo]
      omega)
    unfold wpOp
    simp only [ho]
    exact this

theorem drawX_ok (hcall : CallOk P F call) : DrawOk P F (drawX P F call) := by
  intro ops st st' h ρ hF m a w hR id Q hK
  unfold drawX at h
  split at h
  · rename_i hc
    split at h
    · rename_i es z hrun
      split at h
      · rename_i hp
        cases h
        have hD := drOf_ok hrun hp
        obtain ⟨hlen, h0, hn, hall⟩ := runD_spec hrun
        have hS0 : (drOf es st').S 0 = st := h0
        have hSn : (drOf es st').S ops.size = st' := by
          have h2 := hn
          rw [Array.length_toList] at h2; exact h2
        refine wp_region_draw fun t => ?_
        have key : ∀ (md : Region.Mode) (l : List Nat), orderOk md ops l = true → wpAny P md ops Q ops.size (Array.replicate ops.size false) a { w with drawn := w.drawn + 1 } := fun md l hord => by
         have key := anyOrder (P := P) (F := F) (ops := ops) hcall hF hD hord (m0 := m) (w0 := { w with drawn := w.drawn + 1 }) (Q := Q) (fun m' a' w' I => by
          have cons : ∀ x, (drOf es st').Cons ops.size (fun i => i < ops.size) ops.size x := fun x i hi _ => ⟨fun _ => hi, fun _ => hi⟩
          have consT : ∀ t, DR.ConsT ops (fun i => i < ops.size) ops.size t := fun t i o ho _ => ⟨fun h => h, fun h => h⟩
          refine hK a' w' m' ⟨⟨fun t d hd => I.tm ops.size (Nat.le_refl _) t d (by rw [hSn]; exact hd) (consT t), I.defers⟩, ?_, ⟨fun x B hB hl => I.bl ops.size (Nat.le_refl _) x B (by rw [hSn]; exact hB) hl (cons x), fun x x' B B' b hB hB' hrw hl hi hi' => I.inj ops.size ops.size (Nat.le_refl _) (Nat.le_refl _) x x' B B' b (by rw [hSn]; exact hB) (by rw [hSn]; exact hB') (cons x) (cons x') hrw hl hi hi'⟩, fun x hx => I.un' x (by rw [hSn]; exact hx)⟩ ?_
          · have h3 := sz_all hD (Nat.le_refl ops.size)
            rw [hSn] at h3; rw [I.size]; exact h3.symm
          · exact ⟨I.ext, I.grow, fun b hb hnf => I.frame b hb (by rw [hS0]; exact hnf), fun b ⟨x, B, hB, hrw, hx⟩ => by
              have := I.fp ops.size (Nat.le_refl _) x B b (by rw [hSn]; exact hB) hrw (cons x) hx
              rw [hS0] at this; exact this, I.tape, I.os, I.output⟩)
         refine key ops.size (Array.replicate ops.size false) m a { w with drawn := w.drawn + 1 } (by simp) (by omega) ?_
         have hno : ∀ i, ¬ doneL (Array.replicate ops.size false) i := by
           intro i; unfold doneL
           rw [Array.getD_eq_getD_getElem?]
           by_cases h : i < ops.size <;> simp [h]
         have back : ∀ k x, k ≤ ops.size → (drOf es st').Cons ops.size (doneL (Array.replicate ops.size false)) k x → ((drOf es st').S k).heap.get x = st.heap.get x := by
           intro k x hk hc'
           rw [← hS0]
           refine heap_stay hD (Nat.zero_le _) hk fun i _ hik ht => hno i ((hc' i (by omega) ht).1 hik)
         have backT : ∀ k t, k ≤ ops.size → DR.ConsT ops (doneL (Array.replicate ops.size false)) k t → ((drOf es st').S k).tmps.get t = st.tmps.get t := by
           intro k t hk hc'
           rw [← hS0]
           refine tmps_stay hD (Nat.zero_le _) hk fun i o _ hik ho hd => hno i ((hc' i o ho hd).1 hik)
         exact {
           lt := fun i h => absurd h (hno i)
           closed := fun i o h => absurd h (hno i)
           size := by rw [hS0]; exact hR.size
           defers := hR.tmps.defers
           tm := fun k hk t d hd hc' => by rw [backT k t hk hc'] at hd; exact hR.tmps.get t d hd
           bl := fun k hk x B hB hl hc' => by rw [back k x hk hc'] at hB; exact hR.heap.blk x B hB hl
           inj := fun k k' hk hk' x x' B B' b hB hB' hc1 hc2 hrw hl hi hi' => by
             rw [back k x hk hc1] at hB; rw [back k' x' hk' hc2] at hB'
             exact hR.heap.inj x x' B B' b hB hB' hrw hl hi hi'
           un := fun i hi _ x hx => hR.fresh x (by
             have h1 := next_mono hD (i := 0) (k := i) (Nat.zero_le _) (by omega)
             rw [hS0] at h1
             exact Nat.le_trans h1 hx.1)
           un' := fun x hx => hR.fresh x (by
             have h1 := next_mono hD (i := 0) (k := ops.size) (Nat.zero_le _) (Nat.le_refl _)
             rw [hS0] at h1
             exact Nat.le_trans h1 hx)
           ext := Emb.le_refl m
           grow := Nat.le_refl _
           frame := fun b _ _ => rfl
           fp := fun k hk x B b hB hrw hc' hi => by
             rw [back k x hk hc'] at hB
             rw [hS0]; exact .inl ⟨x, B, hB, hrw, hi⟩
           tape := rfl
           os := rfl
           output := rfl }
        have hord := hc
        unfold ordersOk at hord
        unfold Region.schedule Region.linearise
        split at hord
        · rename_i hdep
          rw [if_pos hdep]
          exact wpAny_sound ops.size _ _ a _ (key .any _ hord)
        · rename_i hdep
          rw [if_neg hdep]
          simp only [Bool.and_eq_true] at hord
          split
          · exact wpAny_sound ops.size _ _ a _ (key .text _ hord.1)
          · exact wpAny_sound ops.size _ _ a _ (key .gc _ hord.2)
      · cases h
    · cases h
  · cases h

end

end Go.Eng
