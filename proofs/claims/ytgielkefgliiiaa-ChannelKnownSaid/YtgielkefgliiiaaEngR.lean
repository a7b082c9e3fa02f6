/-
  A region that draws its order: one operation more.
-/
import Derived.Test.YtgielkefgliiiaaEngQ
namespace Go.Eng

section
variable {P : Program} {F : Facts} {call : CallD} {ops : Array Oper} {D : DR}

theorem below_le (m : Emb) (n : Nat) : (m.below n).le m := fun id b h => by
  simp only [Emb.below] at h ⊢
  split at h
  · exact ⟨h, trivial⟩
  · cases h

theorem rep_at (hD : D.Ok P F call ops) {ρ : Env} {m0 m : Emb} {w0 w : World} {a : Act} {L : Nat → Prop} (I : DInv D ops ρ m0 w0 L m a w) {j : Nat} {o : Oper} (ho : ops[j]? = some o) (hj : ¬ L j)
    (hall : ∀ e ∈ o.after, Region.binds .any e = true → L e.on) : Rep (m.below (D.S j).next) ρ (D.R j) a w := by
  have hjs : j < ops.size := (Array.getElem?_eq_some_iff.1 ho).1
  have hget : ∀ id B, (D.R j).heap.get id = some B → id ∈ D.ids j ∧ (D.S j).heap.get id = some B := fun id B h => by
    rw [hD.rh j o ho id] at h
    split at h
    · rename_i hm; exact ⟨hm, h⟩
    · cases h
  refine ⟨⟨fun t d hd => ?_, I.defers⟩, ?_, ⟨fun id B hB hl => ?_, fun id id' B B' b hB hB' hrw hl hi hi' => ?_⟩, fun id hid => ?_⟩
  · have hsc := hD.scT j o ho t d hd
    rw [hD.rt j o ho t] at hd
    split at hd
    · rename_i hm
      obtain ⟨v, hv, hr⟩ := I.tm j (by omega) t d hd (consT_at hD I.lt I.closed ho hj hall (.inl hm))
      exact ⟨v, hv, DV.R_congr (fun id hid => Emb.below_same (hsc id hid)) hr⟩
    · cases hd
  · rw [I.size, (hD.rn j o ho).2.1]; exact (sz_all hD (by omega)).symm
  · obtain ⟨hm, hS⟩ := hget id B hB
    obtain ⟨b, ob, h1, h2, h3⟩ := I.bl j (by omega) id B hS hl (cons_at hD I.lt I.closed ho hj hall (.inl hm))
    obtain ⟨hs1, hs2⟩ := hD.scB j o ho id B hB
    exact ⟨b, ob, by simp [Emb.below, hs1, h1], h2, Blk.R_congr (fun x hx => Emb.below_same (hs2 x hx)) h3⟩
  · obtain ⟨hm, hS⟩ := hget id B hB
    obtain ⟨hm', hS'⟩ := hget id' B' hB'
    exact I.inj j j (by omega) (by omega) id id' B B' b hS hS' (cons_at hD I.lt I.closed ho hj hall (.inl hm)) (cons_at hD I.lt I.closed ho hj hall (.inl hm')) hrw hl (below_le m _ id b hi).1 (below_le m _ id' b hi').1
  · rw [(hD.rn j o ho).1] at hid
    simp [Emb.below]; omega

theorem dstep (hcall : CallOk P F call) {ρ : Env} (hF : F.ok ρ) (hD : D.Ok P F call ops) {m0 m : Emb} {w0 w : World} {a : Act} {L : Nat → Prop} (I : DInv D ops ρ m0 w0 L m a w) {j : Nat} {o : Oper} (ho : ops[j]? = some o) (hj : ¬ L j)
    (hall : ∀ e ∈ o.after, Region.binds .any e = true → L e.on) {K : Act → World → Prop} {Q : Exit → Act → World → Prop}
    (hK : ∀ m' a' w', DInv D ops ρ m0 w0 (fun i => L i ∨ i = j) m' a' w' → K a' w') :
    if Region.wanted o (yielded ops a.tmps) then o.wp P a w K Q ∨ (o.asks P a w ∧ LetsOut Q) else K (a.put o.dst undef) w := by
  have hjs : j < ops.size := (Array.getElem?_eq_some_iff.1 ho).1
  have hR := rep_at hD I ho hj hall
  have hlt' : ∀ i, (L i ∨ i = j) → i < ops.size := fun i h => h.elim (I.lt i) (fun e => e ▸ hjs)
  have hcl' := closed_add I.closed ho hall
  cases hval : D.val j with
  | true =>
    obtain ⟨hnx, hv⟩ := hD.vals j o ho hval
    refine stepV_sound hF (hD.step j o ho) hv hR fun v hR' => hK m _ w ?_
    have hnt : ∀ id, ¬ D.touched j id := fun id h => by rw [h.1] at hval; cases hval
    exact {
      lt := hlt'
      closed := hcl'
      size := by rw [put_size]; exact I.size
      defers := by rw [put_defers']; exact I.defers
      tm := fun k hk t d hd hc => by
        by_cases ht : o.dst = some t
        · rw [after_tm hD I.lt I.closed ho hj hall hk ht hc] at hd
          obtain ⟨u, hu, hr⟩ := hR'.tmps.get t d hd
          exact ⟨u, hu, hr.mono (below_le m _)⟩
        · obtain ⟨u, hu, hr⟩ := I.tm k hk t d hd (consT_back ho ht hc)
          exact ⟨u, by rw [put_get _ _ _ _ ht]; exact hu, hr⟩
      bl := fun k hk id B hB hl hc => I.bl k hk id B hB hl (cons_back (hnt id) hc)
      inj := fun k k' hk hk' id id' B B' b hB hB' hc hc' => I.inj k k' hk hk' id id' B B' b hB hB' (cons_back (hnt id) hc) (cons_back (hnt id') hc')
      un := fun i hi hn id hf => I.un i hi (fun h => hn (.inl h)) id hf
      un' := I.un'
      ext := I.ext
      grow := I.grow
      frame := I.frame
      fp := fun k hk id B b hB hrw hc hi => I.fp k hk id B b hB hrw (cons_back (hnt id) hc) hi
      tape := I.tape
      os := I.os
      output := I.output }
  | false =>
    refine stepX_sound hcall hF (hD.step j o ho) hR fun v w' m1 hR' hT => ?_
    let n := (D.S j).next
    let n' := (D.S (j + 1)).next
    let m' : Emb := ⟨fun id => if n ≤ id ∧ id < n' then m1.ι id else m.ι id, fun id => if n ≤ id ∧ id < n' then m1.κ id else m.κ id⟩
    have hin : ∀ id, D.fresh j id → m'.ι id = m1.ι id ∧ m'.κ id = m1.κ id := fun id h => by
      have h' : n ≤ id ∧ id < n' := h
      simp [m', h']
    have hout : ∀ id, ¬ D.fresh j id → m'.ι id = m.ι id ∧ m'.κ id = m.κ id := fun id h => by
      have h' : ¬ (n ≤ id ∧ id < n') := h
      simp [m', h']
    have hle : m.le m' := fun id b hb => by
      have hn : ¬ D.fresh j id := fun h => by rw [I.un j hjs hj id h] at hb; cases hb
      rw [(hout id hn).1, (hout id hn).2]; exact ⟨hb, rfl⟩
    have hget : ∀ id B, (D.R j).heap.get id = some B → id ∈ D.ids j ∧ (D.S j).heap.get id = some B := fun id B h => by
      rw [hD.rh j o ho id] at h
      split at h
      · rename_i hm; exact ⟨hm, h⟩
      · cases h
    have hold : ∀ id b, (m.below n).ι id = some b → m1.same m' id := fun id b hb => by
      obtain ⟨h1, h2⟩ := hT.ext id b hb
      have hlt : id < n := by simp only [Emb.below] at hb; split at hb <;> simp_all
      have hn : ¬ D.fresh j id := fun h => by have h' : n ≤ id := h.1; omega
      refine ⟨?_, ?_⟩
      · rw [h1, (hout id hn).1]; exact ((below_le m _ id b hb).1).symm
      · rw [h2, (hout id hn).2]; rfl
    have hknown : ∀ id, D.known j id → m1.same m' id := fun id hk => by
      rcases hk with hk | ⟨t, d, hd, hid⟩ | ⟨x, B, hB, hl, hid⟩
      · exact ⟨(hin id hk).1.symm, (hin id hk).2.symm⟩
      · obtain ⟨u, _, hr⟩ := hR.tmps.get t d hd
        obtain ⟨b, hb⟩ := DV.R_mapped hr id hid
        exact hold id b hb
      · obtain ⟨b, ob, h1, h2, h3⟩ := hR.heap.blk x B hB hl
        rcases hid with rfl | hid
        · exact hold id b h1
        · obtain ⟨b', hb'⟩ := Blk.R_mapped h3 id hid
          exact hold id b' hb'
    have hfoot : ∀ id, D.foot j id → m1.same m' id := fun id hf => by
      rcases hf with hf | hf
      · obtain ⟨B, hB, hl⟩ := hD.live j o ho id hf
        exact hknown id (.inr (.inr ⟨id, B, by rw [hD.rh j o ho id, if_pos hf]; exact hB, hl, .inl rfl⟩))
      · exact hknown id (.inl hf)
    have htouch : ∀ id, D.touched j id ↔ D.foot j id := fun id => ⟨fun h => h.2, fun h => ⟨hval, h⟩⟩
    have hnf : ∀ id, ¬ D.touched j id → ¬ D.fresh j id := fun id h hf => h ⟨hval, .inr hf⟩
    -- a block that what is known elsewhere lies in is not among those that may be written here
    have hapart : ∀ k id B b, k ≤ ops.size → (D.S k).heap.get id = some B → B.live = true → D.Cons ops.size L k id → m.ι id = some b → ¬ D.touched j id → ¬ Fp (m.below n) (D.R j).heap b := by
      intro k id B b hk hB hl hc hb hnt ⟨x, C, hC, hrw, hx⟩
      obtain ⟨hm, hS⟩ := hget x C hC
      have := I.inj j k (by omega) hk x id C B b hS hB (cons_at hD I.lt I.closed ho hj hall (.inl hm)) hc hrw hl (below_le m _ x b hx).1 hb
      subst this
      exact hnt ⟨hval, .inl hm⟩
    refine hK m' _ w' ?_
    exact {
      lt := hlt'
      closed := hcl'
      size := by rw [put_size]; exact I.size
      defers := by rw [put_defers']; exact I.defers
      tm := fun k hk t d hd hc => by
        by_cases ht : o.dst = some t
        · rw [after_tm hD I.lt I.closed ho hj hall hk ht hc] at hd
          obtain ⟨u, hu, hr⟩ := hR'.tmps.get t d hd
          exact ⟨u, hu, DV.R_congr (fun id hid => hknown id (hD.outT j o ho t d ht hd id hid)) hr⟩
        · obtain ⟨u, hu, hr⟩ := I.tm k hk t d hd (consT_back ho ht hc)
          exact ⟨u, by rw [put_get _ _ _ _ ht]; exact hu, hr.mono hle⟩
      bl := fun k hk id B hB hl hc => by
        by_cases ht : D.touched j id
        · rw [after_bl hD I.lt I.closed ho hj hall hk ht hc] at hB
          obtain ⟨b, ob, h1, h2, h3⟩ := hR'.heap.blk id B hB hl
          have hs := hfoot id ht.2
          refine ⟨b, ob, hs.1 ▸ h1, h2, ?_⟩
          rw [← hs.2]
          exact Blk.R_congr (fun x hx => hknown x (hD.outB j o ho id B ht hB x hx)) h3
        · have hc' := cons_back ht hc
          obtain ⟨b, ob, h1, h2, h3⟩ := I.bl k hk id B hB hl hc'
          refine ⟨b, ob, (hle id b h1).1, ?_, ?_⟩
          · rw [hT.frame b (Array.getElem?_eq_some_iff.1 h2).1 (hapart k id B b hk hB hl hc' h1 ht)]; exact h2
          · rw [(hle id b h1).2]; exact h3.mono hle
      inj := fun k k' hk hk' id id' B B' b hB hB' hc hc' hrw hl hi hi' => by
        by_cases ht : D.touched j id
        · rw [after_bl hD I.lt I.closed ho hj hall hk ht hc] at hB
          have hs := hfoot id ht.2
          by_cases ht' : D.touched j id'
          · rw [after_bl hD I.lt I.closed ho hj hall hk' ht' hc'] at hB'
            have hs' := hfoot id' ht'.2
            exact hR'.heap.inj id id' B B' b hB hB' hrw hl (hs.1.trans hi) (hs'.1.trans hi')
          · have hcb := cons_back ht' hc'
            obtain ⟨b', ob, h1, h2, h3⟩ := I.bl k' hk' id' B' hB' hl hcb
            have := (hle id' b' h1).1
            rw [hi'] at this; cases this
            have hblt := (Array.getElem?_eq_some_iff.1 h2).1
            rcases hT.fp b ⟨id, B, hB, hrw, hs.1.trans hi⟩ with hf | hf
            · exact absurd hf (hapart k' id' B' b hk' hB' hl hcb h1 ht')
            · omega
        · have hcb := cons_back ht hc
          obtain ⟨b', ob, h1, h2, h3⟩ := I.bl k hk id B hB (Blk.live_of_rw hrw) hcb
          have := (hle id b' h1).1
          rw [hi] at this; cases this
          have hblt := (Array.getElem?_eq_some_iff.1 h2).1
          by_cases ht' : D.touched j id'
          · rw [after_bl hD I.lt I.closed ho hj hall hk' ht' hc'] at hB'
            have hs' := hfoot id' ht'.2
            rcases ht'.2 with hm | hfr
            · obtain ⟨C, hC, hCl⟩ := hD.live j o ho id' hm
              obtain ⟨bc, oc, hc1, _, _⟩ := I.bl j (by omega) id' C hC hCl (cons_at hD I.lt I.closed ho hj hall (.inl hm))
              have := (hle id' bc hc1).1
              rw [hi'] at this; cases this
              exact I.inj k j hk (by omega) id id' B C b hB hC hcb (cons_at hD I.lt I.closed ho hj hall (.inl hm)) hrw hCl h1 hc1
            · have hrw' := hD.newrw j o ho id' B' hfr hB' hl
              rcases hT.fp b ⟨id', B', hB', hrw', hs'.1.trans hi'⟩ with hf | hf
              · exact absurd hf (hapart k id B b hk hB (Blk.live_of_rw hrw) hcb h1 ht)
              · omega
          · refine I.inj k k' hk hk' id id' B B' b hB hB' hcb (cons_back ht' hc') hrw hl h1 ?_
            rw [← (hout id' (hnf id' ht')).1]; exact hi'
      un := fun i hi hn id hf => by
        have hne : ¬ D.fresh j id := fun h => hn (.inr (fresh_apart hD hi hjs hf h))
        rw [(hout id hne).1]; exact I.un i hi (fun h => hn (.inl h)) id hf
      un' := fun id hid => by
        have hne : ¬ D.fresh j id := fun h => by
          have h1 : id < (D.S (j + 1)).next := h.2
          have := next_mono hD (i := j + 1) (k := ops.size) (by omega) (Nat.le_refl _)
          omega
        rw [(hout id hne).1]; exact I.un' id hid
      ext := Emb.le_trans I.ext hle
      grow := Nat.le_trans I.grow hT.size
      frame := fun b hb hn => by
        rw [hT.frame b (Nat.lt_of_lt_of_le hb I.grow) (fun ⟨x, C, hC, hrw, hx⟩ => by
          obtain ⟨hm, hS⟩ := hget x C hC
          rcases I.fp j (by omega) x C b hS hrw (cons_at hD I.lt I.closed ho hj hall (.inl hm)) (below_le m _ x b hx).1 with h | h
          · exact hn h
          · omega)]
        exact I.frame b hb hn
      fp := fun k hk id B b hB hrw hc hi => by
        by_cases ht : D.touched j id
        · rw [after_bl hD I.lt I.closed ho hj hall hk ht hc] at hB
          have hs := hfoot id ht.2
          rcases hT.fp b ⟨id, B, hB, hrw, hs.1.trans hi⟩ with ⟨x, C, hC, hrwx, hx⟩ | hf
          · obtain ⟨hm, hS⟩ := hget x C hC
            exact I.fp j (by omega) x C b hS hrwx (cons_at hD I.lt I.closed ho hj hall (.inl hm)) (below_le m _ x b hx).1
          · exact .inr (Nat.le_trans I.grow hf)
        · refine I.fp k hk id B b hB hrw (cons_back ht hc) ?_
          rw [← (hout id (hnf id ht)).1]; exact hi
      tape := hT.tape.trans I.tape
      os := hT.os.trans I.os
      output := hT.output.trans I.output }

end

end Go.Eng
