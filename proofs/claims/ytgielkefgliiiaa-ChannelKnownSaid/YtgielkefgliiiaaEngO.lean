/-
  Calls: what the symbolic machine tells of a call, the machine does.
-/
import Derived.Test.YtgielkefgliiiaaEngN
namespace Go.Eng

section
variable {P : Program} {F : Facts}

theorem argsT_get : ∀ (args : List DV) (i k : Nat), (argsT i args).get k = if i ≤ k then args[k - i]? else none
  | [], i, k => by simp [argsT]
  | d :: r, i, k => by
    simp only [argsT, T.get_set, argsT_get r (i + 1) k]
    by_cases h : k = i
    · subst h; simp
    · rw [if_neg h]
      by_cases h1 : i + 1 ≤ k
      · rw [if_pos h1, if_pos (by omega)]
        rw [show k - i = (k - (i + 1)) + 1 by omega, List.getElem?_cons_succ]
      · rw [if_neg h1, if_neg (by omega)]

theorem rep_args {m : Emb} {ρ : Env} {args : List DV} {vs : Array Value} (hvs : DV.RL m ρ args vs.toList) {h : T Blk} {n k : Nat} {w : World} (hH : HeapR m ρ h w) (hf : ∀ id, n ≤ id → m.ι id = none) (hk : args.length ≤ k) :
    Rep m ρ ⟨argsT 0 args, h, n, k⟩ { tmps := vs ++ Array.replicate (k - vs.size) undef, defers := [] } w := by
  have hl := hvs.length
  simp at hl
  refine ⟨⟨fun i d hd => ?_, rfl⟩, by simp; omega, hH, hf⟩
  rw [argsT_get] at hd
  simp at hd
  obtain ⟨v, hv, hr⟩ := hvs.get hd
  refine ⟨v, ?_, hr⟩
  have hv' : vs[i]? = some v := by simpa using hv
  have hlt := (Array.getElem?_eq_some_iff.1 hv').1
  rw [Array.getElem?_append_left hlt]; exact hv'

def resSem (tmps : Array Value) : ResultVar → Sem Value
  | .tmp t => pure (tmps.getD t undef)
  | .cell a t => do loadVar t (← asAddr (tmps.getD a undef))

theorem results_eq (fn : Func) (tmps : Array Value) : results fn tmps = (do let vs ← fn.results.mapM (resSem tmps); pure (if h : vs.size = 1 then vs[0] else .tuple vs)) := rfl

theorem resD_run {m : Emb} {ρ : Env} (hF : F.ok ρ) {st : St} {a : Act} {w : World} (hR : Rep m ρ st a w) : ∀ {l : List ResultVar} {ds : List DV}, l.mapM (resD P F st) = some ds →
    ∃ vs : List Value, (l.mapM (resSem a.tmps)).run P w = .ok vs w ∧ DV.RL m ρ ds vs
  | [], ds, h => by simp at h; subst h; exact ⟨[], by simp, by simp [DV.RL]⟩
  | x :: l, ds, h => by
    simp only [List.mapM_cons, Option.bind_eq_bind, Option.pure_def, Option.bind_eq_some_iff] at h
    obtain ⟨d, hd, rs, hr, he⟩ := h
    simp at he; subst he
    obtain ⟨vs, hvs, hrl⟩ := resD_run hF hR hr
    cases x with
    | tmp t =>
      simp only [resD] at hd
      obtain ⟨v, hv, hrv⟩ := hR.tmps.get t d hd
      refine ⟨v :: vs, ?_, by simp only [DV.RL]; exact ⟨v, vs, rfl, hrv, hrl⟩⟩
      have hone : (resSem a.tmps (.tmp t)).run P w = .ok v w := by simp [resSem, Array.getD_eq_getD_getElem?, hv]
      simp only [List.mapM_cons, Sem.run_bind, hone, Sem.run_pure, Result.andThen_ok, hvs]
    | cell b t =>
      simp only [resD] at hd
      split at hd
      · rename_i p hp
        obtain ⟨pv, hpv, hpr⟩ := hR.tmps.get b p hp
        obtain ⟨v, hv, hrv⟩ := loadD_sound (P := P) hF hR.heap hd hpr
        refine ⟨v :: vs, ?_, by simp only [DV.RL]; exact ⟨v, vs, rfl, hrv, hrl⟩⟩
        have hload : (resSem a.tmps (.cell b t)).run P w = .ok v w := by
          simp only [resSem, Array.getD_eq_getD_getElem?, hpv, Option.getD_some]
          -- the address is one
          have hp' : ∃ aa, pv = .pointer (some aa) := by
            unfold loadD at hd
            split at hd
            · simp only [DV.R] at hpr; obtain ⟨b', _, rfl⟩ := hpr; exact ⟨_, rfl⟩
            · cases hd
          obtain ⟨aa, rfl⟩ := hp'
          simpa [Instr.loadAt, Instr.sureAddr, asAddr] using hv
        simp only [List.mapM_cons, Sem.run_bind, hload, Result.andThen_ok, hvs, Sem.run_pure]
      · cases hd

theorem resultsD_run {m : Emb} {ρ : Env} (hF : F.ok ρ) {fn : Func} {st : St} {d : DV} (h : resultsD P F fn st = some d) {a : Act} {w : World} (hR : Rep m ρ st a w) : ∃ v, (results fn a.tmps).run P w = .ok v w ∧ d.R m ρ v := by
  unfold resultsD at h
  have key : ∀ {ds : List DV}, fn.results.toList.mapM (resD P F st) = some ds → ∃ vs : Array Value, (results fn a.tmps).run P w = .ok (if h : vs.size = 1 then vs[0] else .tuple vs) w ∧ DV.RL m ρ ds vs.toList := by
    intro ds hds
    obtain ⟨vs, hvs, hrl⟩ := resD_run hF hR hds
    refine ⟨vs.toArray, ?_, by simpa using hrl⟩
    rw [results_eq, Array.mapM_eq_mapM_toList]
    simp [hvs]
  split at h
  · rename_i d' hds
    cases h
    obtain ⟨vs, hrun, hrl⟩ := key hds
    simp only [DV.RL] at hrl
    obtain ⟨v, vr, he, hr, rfl⟩ := hrl
    have hvs : vs = #[v] := Array.toList_inj.1 (by simpa using he)
    subst hvs
    exact ⟨v, by simpa using hrun, hr⟩
  · rename_i ds hne hds
    cases h
    obtain ⟨vs, hrun, hrl⟩ := key hds
    have hl := hrl.length
    have hn : vs.size ≠ 1 := by
      intro hc
      have : ds.length = 1 := by simpa [hc] using hl.symm
      match ds, this with
      | [x], _ => exact hne x rfl
    refine ⟨.tuple vs, by rw [hrun]; simp [hn], ?_⟩
    simp only [DV.R]; exact ⟨vs, rfl, hrl⟩
  · cases h

theorem mergeOut_ok {ρ : Env} (hF : F.ok ρ) {e : E} {n0 : Nat} {x y o : Out} (h : mergeOut F e n0 x y = some o) {m m' : Emb} {h0 : T Blk} {w w' : World} {v : Value} :
    ((e.ev ρ).bool = true → x.d.R m' ρ v → HeapR m' ρ x.h w' → Trans m h0 w m' x.h w' → (∀ id, x.n ≤ id → m'.ι id = none) → o.d.R m' ρ v ∧ HeapR m' ρ o.h w' ∧ Trans m h0 w m' o.h w' ∧ ∀ id, o.n ≤ id → m'.ι id = none) ∧
    ((e.ev ρ).bool = false → y.d.R m' ρ v → HeapR m' ρ y.h w' → Trans m h0 w m' y.h w' → (∀ id, y.n ≤ id → m'.ι id = none) → o.d.R m' ρ v ∧ HeapR m' ρ o.h w' ∧ Trans m h0 w m' o.h w' ∧ ∀ id, o.n ≤ id → m'.ι id = none) := by
  unfold mergeOut at h
  split at h
  · rename_i d hh hd hhh
    cases h
    have h1 := mergeD_ok (m := m') (v := v) hF hd
    have h2 := mergeH_ok (m := m') hF hhh
    refine ⟨fun hc g1 g2 g3 g4 => ⟨h1.1 hc g1, (h2.1 hc).1 g2, ⟨g3.ext, g3.size, g3.frame, fun b hb => g3.fp b ((h2.1 hc).2 b hb), g3.tape, g3.os, g3.output⟩, fun id hid => g4 id (by simp only at hid; omega)⟩,
      fun hc g1 g2 g3 g4 => ⟨h1.2 hc g1, (h2.2 hc).1 g2, ⟨g3.ext, g3.size, g3.frame, fun b hb => g3.fp b ((h2.2 hc).2 b hb), g3.tape, g3.os, g3.output⟩, fun id hid => g4 id (by simp only at hid; omega)⟩⟩
  · cases h

theorem CR.fin_post {fn : Func} {n0 : Nat} {ρ : Env} {m : Emb} {st0 : St} {w : World} {R : Ending → World → Prop} : ∀ {r : CR} {F : Facts} {o : Out}, F.ok ρ → r.fin P fn n0 F = some o →
    (∀ v m' w', o.d.R m' ρ v → HeapR m' ρ o.h w' → Trans m st0.heap w m' o.h w' → (∀ id, o.n ≤ id → m'.ι id = none) → R (.returned v) w') → r.Post m ρ st0 w (bodyPost P fn R)
  | .leaf x st, F, o, hF, h, hR => by
    have key : (resultsD P F fn st).map (fun d => (⟨d, st.heap, st.next⟩ : Out)) = some o → ∀ a' w' m', Rep m' ρ st a' w' → Trans m st0.heap w m' st.heap w' → a'.defers = [] ∧ ∃ v, (results fn a'.tmps).run P w' = .ok v w' ∧ R (.returned v) w' := by
      intro h a' w' m' hR' hT'
      simp only [Option.map_eq_some_iff] at h
      obtain ⟨d, hd, rfl⟩ := h
      obtain ⟨v, hv, hrv⟩ := resultsD_run (P := P) hF hd hR'
      exact ⟨hR'.tmps.defers, v, hv, hR v m' w' hrv hR'.heap hT' hR'.fresh⟩
    cases x with
    | norm => simp only [CR.fin] at h; exact key h
    | ret => simp only [CR.fin] at h; exact key h
    | exit id => simp [CR.fin] at h
  | .node e a b, F, o, hF, h, hR => by
    simp only [CR.fin] at h
    split at h
    · rename_i x y hx hy
      refine ⟨fun hc => CR.fin_post (facts_cons hF hc) hx fun v m' w' g1 g2 g3 g4 => ?_, fun hc => CR.fin_post (facts_cons hF hc) hy fun v m' w' g1 g2 g3 g4 => ?_⟩
      · obtain ⟨q1, q2, q3, q4⟩ := (mergeOut_ok hF h).1 hc g1 g2 g3 g4
        exact hR v m' w' q1 q2 q3 q4
      · obtain ⟨q1, q2, q3, q4⟩ := (mergeOut_ok hF h).2 hc g1 g2 g3 g4
        exact hR v m' w' q1 q2 q3 q4
    · cases h

theorem callX_sound {S : Env → Prop} {Γ : Facts → FuncId → Option CallD} (hΓ : ∀ F : Facts, F.sem = S → ∀ f c, Γ F f = some c → ∀ args h n r, c f args h n = some r → ∀ ρ, F.ok ρ → ∀ m w (vs : Array Value), DV.RL m ρ args vs.toList → HeapR m ρ h w → (∀ id, n ≤ id → m.ι id = none) →
      Calls P f vs w fun e w' => ∃ v m', e = .returned v ∧ r.d.R m' ρ v ∧ HeapR m' ρ r.h w' ∧ Trans m h w m' r.h w' ∧ (∀ id, r.n ≤ id → m'.ι id = none))
    {draw : Facts → CallD → Array Oper → St → Option St} (hdraw : ∀ F, F.sem = S → ∀ call, CallOk P F call → DrawOk P F (draw F call)) (fuel lim : Nat) : ∀ k F, F.sem = S → CallOk P F (callX P Γ draw fuel lim k F) := by
  intro k
  induction k with
  | zero => intro F hS f args h n r hr; simp [callX] at hr
  | succ k ih =>
    intro F hS f args h n r hr ρ hF m w vs hvs hH hf
    simp only [callX] at hr
    split at hr
    · rename_i c hc
      exact hΓ F hS f c hc args h n r hr ρ hF m w vs hvs hH hf
    · split at hr
      · rename_i fn hfn
        split at hr
        · rename_i body hbody
          split at hr
          · rename_i hlen
            have hl := hvs.length
            simp at hl
            split at hr
            · rename_i cr hcode
              refine calls_of_wp hfn hbody (codeX_sound (S := S) ih (fun F' hS' => hdraw F' hS' _ (ih F' hS')) fuel hS hF hcode (rep_args hvs hH hf hlen) (CR.fin_post hF hr fun v m' w' g1 g2 g3 g4 => ?_))
              exact ⟨v, m', rfl, g1, g2, g3, g4⟩
            · cases hr
          · cases hr
        · cases hr
      · cases hr

end

end Go.Eng
