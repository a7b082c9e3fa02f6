/- The contracts that the proof of the law HealthPlays asks. -/
import Derived.Test.YtlefdfcknddaaaaDoorPendC
import Derived.Test.YtlefdfcknddaaaaDoorEngG12
namespace Go.Proofs.YtlefdfcknddaaaaDoor.HealthPlaysDone
open Go.Eng Go.RowKit

/-- The number 900 of a row is the greatest byte above 1. -/
def S (ρ : Env) : Prop := ∀ a x y : Sc, ρ.f 900 a x y = .I (Pend.pendS a.arr)

def sig (l : List DV) : List (Nat × E) := l.zipIdx.filterMap fun p => match p.1 with
  | .int _ e => some (p.2, e)
  | .bool e => some (p.2, e)
  | _ => none

/-- What is pending, out of whether it is halted. -/
def haltE (F : Facts) (b x : E) : E := match b.dec F with
  | some true => .li 0
  | some false => x
  | none => .tr .ite b (.li 0) x

theorem haltE_ev {F : Facts} {ρ : Env} (hF : F.ok ρ) (b x : E) : ((haltE F b x).ev ρ).int = if (b.ev ρ).bool = true then 0 else (x.ev ρ).int := by
  unfold haltE
  split
  · rename_i h; rw [E.dec_sound hF h]; rfl
  · rename_i h; rw [E.dec_sound hF h]; rfl
  · by_cases h : (b.ev ρ).bool = true
    · simp [E.ev, B3.ev, h]
    · simp [E.ev, B3.ev, h]

/-- The monitor with one that was raised. -/
def heap1 : List (Nat × Blk) := [(0, .cells (Pend.gs ++ [.slc 1 ⟨0, []⟩ (.li 1) (.own (.li 0)), .int .i64 (.vr 21), .bool (.vr 22)]) 72 .ro), (1, .cells [.int .u8 (.vr 23)] 5 .ro)]
def one (x : E) : E := .tr .ite (.bi .lt (.li 1) x) x (.li 0)
theorem oneRun (b : Bool) : (match runX Tryd.prog (Facts.cons { bnds := [((.vr 23), 0, 255)] } (.vr 22) b) (fun _ => Γ0) 6001000 50 35 Pend.args (T.ofList heap1) 2 with | some r => DV.eqv r.d (.int .u8 (if b then .li 0 else one (.vr 23))) | none => false) = true := by
  cases b <;> kernel_rfl

def pendC (F : Facts) : CallD := fun g (xs : List DV) (h : T Blk) n => match xs with
  | [.ptr id _] => match h.get id with
    | some (.cells l _ _) => match (l[20]? : Option DV), (l[22]? : Option DV) with
      | some .nils, _ => readC (T.ofList (sig l)) (fun _ => id) 1 Pend.args Pend.heapN (.int .u8 (.li 0)) g xs h n
      | some (.slc rid _ len _), some (.bool b) => match h.get rid, len.rng F with
        | some (.cells [.int .u8 x] _ _), _ => (match x.rng F with
          | (some lo, some hi) => if 0 ≤ lo ∧ hi ≤ 255 then
              readC (T.ofList ((22, b) :: (23, x) :: sig l)) (fun k => if k = 0 then id else rid) 2 Pend.args heap1 (.int .u8 (haltE F b (one x))) g xs h n
            else none
          | _ => none)
        | some (.arr _ a _ _ _ _), (some lo, some hi) => if 1 ≤ lo ∧ hi ≤ 1000 then
            readC (T.ofList ((22, b) :: (23, a) :: (24, len) :: sig l)) (fun k => if k = 0 then id else rid) 2 Pend.args Pend.heapR (.int .u8 (haltE F b (.tr (.app 900) a (.li 0) (.li 0)))) g xs h n
          else none
        | _, _ => none
      | _, _ => none
    | _ => none
  | _ => none

theorem awakeRun : DT.run Tryd.prog (fun _ => Γ0) 5000 60 26 (shDV Tryd.prog [] 0 0) (T.ofList (shH Tryd.prog [] 0 0)) (shN []) goodTrue { bnds := shB Tryd.prog [] 0 } .leaf = true := by kernel_rfl
def Γh (F : Facts) : FuncId → Option CallD := fun g => if g = 35 then some (pendC F) else Γ1 26 (readC (T.ofList []) id 0 [] [] (.bool (.lb true))) g

theorem pendC_ok {F : Facts} (hF : F.sem = S) : ∀ g args h n r, pendC F g args h n = some r → ∀ ρ, F.ok ρ → ∀ m w (vs : Array Value), DV.RL m ρ args vs.toList → HeapR m ρ h w → (∀ id, n ≤ id → m.ι id = none) →
    Calls Tryd.prog 35 vs w fun e w' => ∃ v m', e = .returned v ∧ r.d.R m' ρ v ∧ HeapR m' ρ r.h w' ∧ Trans m h w m' r.h w' ∧ (∀ id, r.n ≤ id → m'.ι id = none) := by
  intro g args h n r hr
  unfold pendC at hr
  split at hr
  · split at hr
    · split at hr
      · refine readC_ok (fun ρ hok m w vs hvs hH hf => ?_) g _ h n r hr
        have hrun := Pend.runN
        split at hrun
        · rename_i x hx
          refine (runX_ok (F := {}) (fun F' _ => Γ0_ok) 1000 50 35 Pend.args (T.ofList Pend.heapN) 1 x hx _ ⟨by simp, by simp, by simp, trivial⟩ _ w vs hvs hH hf).mono fun e w' ⟨v, m', he, hd, hH', hT, _⟩ => ?_
          have e1 := DV.eqv_eq hrun
          rw [e1] at hd
          simp only [DV.R] at hd
          refine ⟨v, he, by simp only [DV.R]; exact hd, below_of hT fun id B hB => ?_⟩
          have := ofList_mem hB
          simp only [Pend.heapN, List.mem_singleton, Prod.mk.injEq] at this
          rw [this.2]; rfl
        · cases hrun
      · rename_i rid off len cap b h20 h22
        split at hr
        · rename_i x ty mdx _
          split at hr
          · rename_i lo hi hrng
            split at hr
            · rename_i hc
              refine readC_ok (fun ρ hok m w vs hvs hH hf => ?_) g _ h n r hr
              have hr2 := E.rng_has hok x
              rw [hrng] at hr2
              have h1 := hr2.1 _ rfl
              have h2 := hr2.2 _ rfl
              have e23 : ∀ σ, (ρ.upd (T.ofList ((22, b) :: (23, x) :: σ))).v 23 = x.ev ρ := fun σ => by simp only [upd_cons, Nat.reduceEqDiff, if_false, if_true]
              have e22 : ∀ σ, (ρ.upd (T.ofList ((22, b) :: (23, x) :: σ))).v 22 = b.ev ρ := fun σ => by simp only [upd_cons, if_true]
              have hrun := oneRun (b.ev ρ).bool
              split at hrun
              · rename_i y hy
                refine (runX_ok (fun F' _ => Γ0_ok) 6001000 50 35 Pend.args (T.ofList heap1) 2 y hy _ (facts_cons ⟨by simp, fun p hp => ?_, by simp, trivial⟩ (by rw [ev_vr, e22])) _ w vs hvs hH hf).mono fun e w' ⟨v, m', he, hd, hH', hT, _⟩ => ?_
                · obtain rfl := List.mem_singleton.1 hp
                  rw [ev_vr, e23]
                  refine ⟨?_, ?_⟩
                  · show (0 : Int) ≤ (x.ev ρ).int
                    omega
                  · show (x.ev ρ).int ≤ (255 : Int)
                    omega
                have e1 := DV.eqv_eq hrun
                rw [e1] at hd
                simp only [DV.R] at hd
                refine ⟨v, he, ?_, below_of hT fun id B hB => ?_⟩
                · simp only [DV.R]
                  rw [haltE_ev hok, hd]
                  by_cases hb' : (b.ev ρ).bool = true
                  · simp [hb', E.ev]
                  · simp only [hb', Bool.false_eq_true, if_false, one, E.ev, B3.ev, B2.ev, e23]
                    rfl
                · have := ofList_mem hB
                  simp only [heap1, List.mem_cons, List.not_mem_nil, or_false, Prod.mk.injEq] at this
                  rcases this with ⟨_, rfl⟩ | ⟨_, rfl⟩ <;> rfl
              · cases hrun
            · cases hr
          · cases hr
        · rename_i q a n0 sh0 t0 md0 lo hi hget hrng
          split at hr
          · rename_i hc
            refine readC_ok (fun ρ hok m w vs hvs hH hf => ?_) g _ h n r hr
            have hr2 := E.rng_has hok len
            rw [hrng] at hr2
            have h1 := hr2.1 _ rfl
            have h2 := hr2.2 _ rfl
            have hs : S ρ := by have := hok.sem; rw [hF] at this; exact this
            have e24 : ∀ σ, (ρ.upd (T.ofList ((22, b) :: (23, a) :: (24, len) :: σ))).v 24 = len.ev ρ := fun σ => by simp only [upd_cons, Nat.reduceEqDiff, if_false, if_true]
            have e23 : ∀ σ, (ρ.upd (T.ofList ((22, b) :: (23, a) :: (24, len) :: σ))).v 23 = a.ev ρ := fun σ => by simp only [upd_cons, Nat.reduceEqDiff, if_false, if_true]
            have e22 : ∀ σ, (ρ.upd (T.ofList ((22, b) :: (23, a) :: (24, len) :: σ))).v 22 = b.ev ρ := fun σ => by simp only [upd_cons, if_true]
            refine (Pend.pend_calls _ _ w vs (by rw [e24]; omega) (by rw [e24]; omega) hvs hH hf).mono fun e w' ⟨he, hb⟩ => ⟨_, he, ?_, hb⟩
            simp only [DV.R]
            rw [haltE_ev hok, e22, e23]
            simp only [E.ev, B3.ev]
            rw [hs]
            by_cases hb' : (b.ev ρ).bool = true
            · simp [hb']
            · simp [hb']
          · cases hr
        · cases hr
      · cases hr
    · cases hr
  · cases hr

theorem Γh_ok (F : Facts) (hF : F.sem = S) : ΓOk Tryd.prog F (Γh F) := by
  intro f c hc
  unfold Γh at hc
  split at hc
  · rename_i e
    cases hc
    subst e
    exact fun args h n r hr => pendC_ok hF 35 args h n r hr
  · unfold Γ1 at hc
    split at hc
    · rename_i e
      cases hc
      subst e
      refine fun args h n r hr => readC_ok (fun ρ _ m w vs hvs hH hf => ?_) 26 args h n r hr
      refine (law_cases awakeRun (fun _ _ => trivial) (ρ.upd (T.ofList [])) (m.pull id 0) w vs (by intro p hp; simp [shB] at hp) (by simpa [shDV] using hvs) (by simpa [shH] using hH) (fun id hid => hf id (Nat.zero_le _))).mono fun e w' ⟨he, hb⟩ => ⟨_, he, ?_, hb⟩
      simp only [DV.R, E.ev, Sc.bool_B]
    · cases hc
end Go.Proofs.YtlefdfcknddaaaaDoor.HealthPlaysDone
