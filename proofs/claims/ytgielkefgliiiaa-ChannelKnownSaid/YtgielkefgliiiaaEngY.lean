/-
  A law whose arguments are plain: what it takes is known cell by cell, and the arguments read behind the call as they did.
-/
import Derived.Test.YtgielkefgliiiaaEngX
import Derived.WalkKit
import Derived.ProofKit
import Derived.OpenShut
import Derived.ShutString
import Derived.ChangeOld
import Derived.Below
import Derived.Carry
namespace Go.Eng
open Go.RowKit Go.ChangeShapes Go.WideShapes Go.ChangeAt

/-- How many cells a type takes. -/
def width (P : Program) (t : TypeId) : Nat := ((kds P 8 t).getD []).length

def argsDV (P : Program) : List TypeId → Nat → List DV
  | [], _ => []
  | t :: ts, i => argDV P t i :: argsDV P ts (i + width P t)

def argsB (P : Program) : List TypeId → Nat → List (E × Int × Int)
  | [], _ => []
  | t :: ts, i => argB P t i ++ argsB P ts (i + width P t)

/-- All types plain, and readable. -/
def plainB (P : Program) (ts : List TypeId) : Bool := ts.all fun t => P.readableRec t && decide (t < P.types.size) && (kds P 8 t).isSome

def cellsAll (vs : List Value) : List Value := vs.flatMap fun v => v.cells.toList

/-- The numbers of the cells. -/
def rhoOf (vs : List Value) : Env := { v := fun i => Sc.ofValue ((cellsAll vs).getD i undef) }

section
variable {P : Program} {H : Type} {enc : TypeId × Value → H} {w : World} {base : Nat} {spare : Nat → Bool} {held : Bool}

theorem args_plain (m : Emb) {ρ : Env} {r : Reach} {b0 : Nat} : ∀ {ts : List TypeId} {vs : List Value} {ds : List (DataW H)} {ps : List MemPlace} {i : Nat}, (∀ t ∈ ts, (kds P 8 t).isSome = true) →
    (∀ (j : Nat) t v, ts[j]? = some t → vs[j]? = some v → Value.okWide P w r b0 t v) → DataW.TrodAll enc P w base spare held ts vs ds ps →
    (∀ (j : Nat) (u : Value), (cellsAll vs)[j]? = some u → ρ.v (i + j) = Sc.ofValue u) →
    DV.RL m ρ (argsDV P ts i) vs ∧ ∀ p ∈ argsB P ts i, p.2.1 ≤ (p.1.ev ρ).int ∧ (p.1.ev ρ).int ≤ p.2.2
  | [], vs, ds, ps, i, hk, hok, ht, hρ => by
      obtain ⟨rfl, _, _⟩ := trodAll_nil ht
      exact ⟨by simp [argsDV, DV.RL], by simp [argsB]⟩
  | t :: ts, vs, ds, ps, i, hk, hok, ht, hρ => by
      obtain ⟨v, vs', d, ds', p, q, rfl, rfl, rfl, h1, h2⟩ := trodAll_cons ht
      have ho : Value.okWide P w r b0 t v := hok 0 t v rfl rfl
      have hw : v.cells.toList.length = width P t := by
        obtain ⟨ks, hks⟩ := Option.isSome_iff_exists.1 (hk t (by simp))
        obtain ⟨fuel, hf⟩ := h1
        have := kds_trod 8 t ks hks fuel _ _ hf
        unfold width; rw [hks]; exact this.1
      obtain ⟨hR, hB⟩ := arg_plain (m := m) (ρ := ρ) (i := i) (hk t (by simp)) ho h1 (fun j u hu => hρ j u (by
        unfold cellsAll; rw [List.flatMap_cons, List.getElem?_append_left (by have := List.getElem?_eq_some_iff.1 hu; exact this.1)]; exact hu))
      obtain ⟨hRs, hBs⟩ := args_plain (i := i + width P t) m (fun t' h' => hk t' (by simp [h'])) (fun j t' v' h1 h2 => hok (j + 1) t' v' (by simpa using h1) (by simpa using h2)) h2 (fun j u hu => by
        have := hρ (width P t + j) u (by
          unfold cellsAll; rw [List.flatMap_cons, List.getElem?_append_right (by omega), hw]; simpa [cellsAll] using hu)
        rw [← this]; congr 1; omega)
      refine ⟨⟨v, vs', rfl, hR, hRs⟩, fun p hp => ?_⟩
      simp only [argsB, List.mem_append] at hp
      rcases hp with hp | hp
      · exact hB p hp
      · exact hBs p hp

theorem args_stay {W W' : World} (hl : laidOutB P = true) (hb : Below W.heap.size W W') : ∀ {ts : List TypeId} {vs : List Value} {ds : List (DataW H)} {ps : List MemPlace}, (ts.all fun t => P.readableRec t && decide (t < P.types.size)) = true →
    DataW.TrodAll enc P W 0 (fun _ => true) true ts vs ds ps → DataW.TrodAll enc P W' 0 (fun b => decide (b < W.heap.size)) true ts vs ds ps
  | [], vs, ds, ps, hk, h => by
      obtain ⟨rfl, rfl, rfl⟩ := trodAll_nil h
      exact trodAll_mk0
  | t :: ts, vs, ds, ps, hk, h => by
      obtain ⟨v, vs', d, ds', p, q, rfl, rfl, rfl, h1, h2⟩ := trodAll_cons h
      simp only [List.all_cons, Bool.and_eq_true, decide_eq_true_eq] at hk
      have lt : ∀ x ∈ p, x.block < W.heap.size := by obtain ⟨n, hn⟩ := h1; exact DataW.trod_lt n _ _ _ hn
      exact trodAll_cons_mk (Below.trod hl hk.1.1 hk.1.2 h1 hb lt) (args_stay hl hb (by simpa using hk.2) h2)

/-- A law that returned true and wrote nothing that was there: what the row asks. -/
theorem post_true {f : Func} {s : ChangeSpec} {apart : Bool} {W W' : World} {args : Array Value} {ds gs : List (DataW H)} {before : List MemPlace} {tb : TypeId}
    (hl : laidOutB P = true) (hts : (f.params.toList.all fun t => P.readableRec t && decide (t < P.types.size)) = true) (hres : f.resultTypes = #[tb]) (htb : P.underlying tb = some .bool) (hvs : s.vars = [])
    (hfn : s.fn H (ds ++ gs) = { results := [.lit (.bool true)], args := ds })
    (hW : DataW.Whole enc P f.params.toList s.vars apart W args.toList ds gs before) (hb : Below W.heap.size W W') :
    s.post enc P f apart true false false W args (.bool true) W' := by
  have hW' := hW
  obtain ⟨p, q, hA, hV, rfl, hfz, hnd⟩ := hW
  refine ⟨ds, gs, _, [], p, [], hW', ?_, ?_, ?_, hb.frame _, fun h => by cases h⟩
  · rw [hfn, hres]; exact trodAll_mk1 (shut_bool htb _)
  · rw [hfn]; exact args_stay hl hb hts hA
  · rw [hfn, hvs]; rfl

/-- The whole step of the row, for plain arguments, by cases. -/
theorem lifted_plain {C : Checked} (own : ownKnob C.prog.godebug = none) (laidOut : laidOutB C.prog = true) {os : Os} (started : os.Started) {f : FuncId} {fn : Func} {s : ChangeSpec} {conds : List PathCond} {apart : Bool} {tb : TypeId}
    (noInit : C.prog.inits.idxOf? f = none) (hf : C.prog.funcs[f]? = some fn)
    (witness : ∃ (w : World) (tape : Tape) (i : Input), w.os = os ∧ (w.forCall tape i).Shaped C.prog ∧ i.vars = [] ∧ Input.okWide C.prog (w.forCall tape i) .any w.heap.size f i ∧
      s.pre6 enc C.prog fn conds apart (w.forCall tape i).memory i.args ∧ Assume.holds {} C.prog (lone (Frame.enter C.prog f i.args .normal) [] (w.forCall tape i)))
    (hts : plainB C.prog fn.params.toList = true) (hres : fn.resultTypes = #[tb]) (htb : C.prog.underlying tb = some .bool) (hvs : s.vars = [])
    (hsf : ∀ ds : List (DataW H), ds.length = fn.params.toList.length → s.fn H ds = { results := [.lit (.bool true)], args := ds })
    {loops depth : Nat} {dt : DT} (hr : DT.run C.prog (fun _ => Γ0) loops depth f (argsDV C.prog fn.params.toList 0) .nil 0 goodTrue { bnds := argsB C.prog fn.params.toList 0 } dt = true)
    (fit : ∀ ρ : Env, (∀ p ∈ argsB C.prog fn.params.toList 0, p.2.1 ≤ (p.1.ev ρ).int ∧ (p.1.ev ρ).int ≤ p.2.2) → dt.Fit ρ) :
    ReturnsInHanded {} C os f .any (s.pre6 enc C.prog fn conds apart) (s.post enc C.prog fn apart true false false) := by
  refine returnsInHanded_of_change own started noInit hf witness ?_
  intro W base args ds gs before hval hW _ _
  have hW' := hW
  obtain ⟨p, q, hA, hV, rfl, hfz, hnd⟩ := hW
  unfold plainB at hts
  simp only [List.all_eq_true, Bool.and_eq_true, decide_eq_true_eq] at hts
  have hlen : ∀ {ts : List TypeId} {vs : List Value} {ds : List (DataW H)} {ps : List MemPlace}, DataW.TrodAll enc C.prog W 0 (fun _ => true) true ts vs ds ps → ds.length = ts.length := by
    intro ts
    induction ts with
    | nil => intro vs ds ps h; obtain ⟨_, rfl, _⟩ := trodAll_nil h; rfl
    | cons t ts ih =>
      intro vs ds ps h
      obtain ⟨v, vs', d, ds', p, q, rfl, rfl, rfl, h1, h2⟩ := trodAll_cons h
      simp [ih h2]
  have hg : gs = [] := by
    rw [hvs] at hV
    exact (trodVars_none hV).1
  obtain ⟨hR, hB⟩ := args_plain (r := .any) (b0 := base) m0 (ρ := rhoOf args.toList) (i := 0) (fun t ht => (hts t ht).2) (fun j t v h1 h2 => hval j t v (by simpa using h1) (by simpa using h2)) hA
    (fun j u hu => by
      show Sc.ofValue _ = _
      simp only [Nat.zero_add, List.getD_eq_getElem?_getD, hu, Option.getD_some])
  refine (law_by_cases (fun _ => Γ0_ok) hr (ρ := rhoOf args.toList) ⟨by simp, hB, by simp, trivial⟩ (fit _ hB) hR (heap_nil _ W) (fun _ _ => rfl) (by intro id B h; simp at h)).mono fun e W' ⟨he, bel⟩ => ?_
  subst he
  refine ⟨_, rfl, post_true laidOut ?_ hres htb hvs ?_ hW' bel⟩
  · simp only [List.all_eq_true, Bool.and_eq_true, decide_eq_true_eq]; exact fun t ht => (hts t ht).1
  · rw [hg, List.append_nil]; exact hsf ds (hlen hA)
end
end Go.Eng
