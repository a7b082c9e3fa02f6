/-
  The step of a law's row, its arguments plain or slices of plain elements: what is to be shown, shape by shape.
-/
import Derived.Test.YtgielkefgliiiaaEngAE
namespace Go.Eng
open Go.RowKit Go.ChangeShapes Go.WideShapes Go.ChangeAt

section
variable (P : Program)

def allSh : List TypeId → List Sh
  | [] => [[]]
  | t :: ts => if okPlain P t then (allSh ts).map ((t, 0) :: ·) else (allSh ts).flatMap fun r => [(t, 1) :: r, (t, 2) :: r]

def argsOkB (ts : List TypeId) : Bool := ts.all fun t => P.readableRec t && decide (t < P.types.size) && (okPlain P t || okSlice P t)

/-- What a law says where its arguments are of a shape. -/
def Law (f : FuncId) (sh : Sh) : Prop := ∀ (ρ : Env) (m : Emb) (w : World) (vs : Array Value), (∀ p ∈ shB P sh 0, p.2.1 ≤ (p.1.ev ρ).int ∧ (p.1.ev ρ).int ≤ p.2.2) → DV.RL m ρ (shDV P sh 0 0) vs.toList →
  HeapR m ρ (T.ofList (shH P sh 0 0)) w → (∀ id, shN sh ≤ id → m.ι id = none) → Calls P f vs w fun e w' => e = .returned (.bool true) ∧ Below w.heap.size w w'

/-- The same, with more numbers, from 900 on, of which something is known. -/
def LawS (f : FuncId) (sh : Sh) : Prop := ∃ S : Env → Prop, (∀ ρ : Env, ∃ x : Nat → Sc, S { v := fun i => if i < 900 then ρ.v i else x i }) ∧ ∀ (ρ : Env) (m : Emb) (w : World) (vs : Array Value), S ρ →
  (∀ p ∈ shB P sh 0, p.2.1 ≤ (p.1.ev ρ).int ∧ (p.1.ev ρ).int ≤ p.2.2) → DV.RL m ρ (shDV P sh 0 0) vs.toList →
  HeapR m ρ (T.ofList (shH P sh 0 0)) w → (∀ id, shN sh ≤ id → m.ι id = none) → Calls P f vs w fun e w' => e = .returned (.bool true) ∧ Below w.heap.size w w'

theorem Law.toS {f : FuncId} {sh : Sh} (h : Law P f sh) : LawS P f sh := ⟨fun _ => True, fun _ => ⟨fun _ => .I 0, trivial⟩, fun ρ m w vs _ => h ρ m w vs⟩

def shLen : Sh → Nat
  | [] => 0
  | (t, k) :: r => (match k with | 0 => width P t | 1 => 0 | _ => 4) + shLen r

variable {P}

theorem shH_ro : ∀ {sh : Sh} {i id : Nat}, ∀ p ∈ shH P sh i id, p.2.rw = false
  | [], i, id, p, hp => by simp [shH] at hp
  | (t, k) :: r, i, id, p, hp => by
    match k, hp with
    | 0, hp => exact shH_ro p (by simpa [shH] using hp)
    | 1, hp => exact shH_ro p (by simpa [shH] using hp)
    | k + 2, hp =>
      simp only [shH, List.mem_cons] at hp
      rcases hp with rfl | hp
      · rfl
      · exact shH_ro p hp

theorem shBl_length (w : World) : ∀ {sh : Sh} {vs : List Value}, shAll P w sh vs → (shBl sh vs).length = shN sh
  | [], [], _ => rfl
  | (t, k) :: r, v :: vs, h => by
    match k, h with
    | 0, h => simp [shBl, shN, shBl_length w h.2]
    | 1, h => simp [shBl, shN, shBl_length w h.2]
    | k + 2, h => simp [shBl, shN, shBl_length w h.2]; omega
  | [], _ :: _, h => h.elim
  | _ :: _, [], h => h.elim

theorem shSc_length {H : Type} {enc : TypeId × Value → H} {w : World} {base : Nat} {spare : Nat → Bool} {held : Bool} : ∀ {sh : Sh} {vs : List Value} {ds : List (DataW H)} {ps : List MemPlace}, DataW.TrodAll enc P w base spare held (sh.map (·.1)) vs ds ps → shAll P w sh vs → (shSc P w sh vs).length = shLen P sh
  | [], vs, ds, ps, ht, _ => by
    obtain ⟨rfl, _, _⟩ := trodAll_nil ht
    rfl
  | (t, k) :: r, vs, ds, ps, ht, h => by
    simp only [List.map_cons] at ht
    obtain ⟨v, vs', d, ds', p, q, rfl, rfl, rfl, h1, h2⟩ := trodAll_cons ht
    match k, h with
    | 0, h => simp only [shSc, shLen, List.length_append, List.length_map, shSc_length h2 h.2, width_cells h.1 h1]
    | 1, h => simp only [shSc, shLen, shSc_length h2 h.2, Nat.zero_add]
    | k + 2, h =>
      obtain ⟨⟨b, q', len, cap, c, t', fr, rfl, _⟩, hr'⟩ := h
      simp only [shSc, shLen, List.length_append, shSc_length h2 hr', List.length_cons, List.length_nil]

theorem allSh_map : ∀ {ts : List TypeId} {sh : Sh}, sh ∈ allSh P ts → sh.map (·.1) = ts
  | [], sh, h => by simp [allSh] at h; simp [h]
  | t :: ts, sh, h => by
    simp only [allSh] at h
    split at h
    · simp only [List.mem_map] at h
      obtain ⟨r, hr, rfl⟩ := h
      simp [allSh_map hr]
    · simp only [List.mem_flatMap, List.mem_cons, List.not_mem_nil, or_false] at h
      obtain ⟨r, hr, rfl | rfl⟩ := h <;> simp [allSh_map hr]

variable {H : Type} {enc : TypeId × Value → H} {w : World} {base : Nat} {spare : Nat → Bool} {held : Bool}

theorem sh_of {r : Reach} {b0 : Nat} : ∀ {ts : List TypeId} {vs : List Value} {ds : List (DataW H)} {ps : List MemPlace}, argsOkB P ts = true →
    (∀ (j : Nat) t v, ts[j]? = some t → vs[j]? = some v → Value.okWide P w r b0 t v) → DataW.TrodAll enc P w base spare held ts vs ds ps → ∃ sh ∈ allSh P ts, shAll P w sh vs
  | [], vs, ds, ps, hk, hok, ht => by
    obtain ⟨rfl, _, _⟩ := trodAll_nil ht
    exact ⟨[], by simp [allSh], trivial⟩
  | t :: ts, vs, ds, ps, hk, hok, ht => by
    obtain ⟨v, vs', d, ds', p, q, rfl, rfl, rfl, h1, h2⟩ := trodAll_cons ht
    simp only [argsOkB, List.all_cons, Bool.and_eq_true, decide_eq_true_eq, Bool.or_eq_true] at hk
    obtain ⟨⟨_, hk1⟩, hk2⟩ := hk
    obtain ⟨sh, hsh, ha⟩ := sh_of (by simpa only [argsOkB, List.all_eq_true, Bool.and_eq_true, decide_eq_true_eq, Bool.or_eq_true] using hk2) (fun j t' v' h1 h2 => hok (j + 1) t' v' (by simpa using h1) (by simpa using h2)) h2
    have ho : Value.okWide P w r b0 t v := hok 0 t v rfl rfl
    simp only [allSh]
    by_cases hp : okPlain P t = true
    · rw [if_pos hp]
      exact ⟨(t, 0) :: sh, List.mem_map.2 ⟨sh, hsh, rfl⟩, hp, ha⟩
    · rw [if_neg hp]
      have hs : okSlice P t = true := hk1.resolve_left hp
      unfold okSlice at hs
      split at hs
      · rename_i e he
        split at hs
        · rename_i ks hks
          simp only [Bool.and_eq_true, beq_iff_eq, decide_eq_true_eq] at hs
          have hu : P.underlying t = some (.slice e) := by
            unfold elemT at he
            split at he
            · rename_i e' hu; cases he; exact hu
            · cases he
          have hek : elemK P t = ks := by simp only [elemK, he, hks, Option.getD_some]
          obtain ⟨a, len, cap, rfl⟩ := okWide_slice hu ho
          rcases slice_plain hu hks hs.1 hs.2 h1 with rfl | ⟨b, q', c, t', fr, rfl, g1, g2, g3, g4, g5, g6⟩
          · exact ⟨(t, 1) :: sh, List.mem_flatMap.2 ⟨sh, hsh, by simp⟩, ⟨_, _, rfl⟩, ha⟩
          · refine ⟨(t, 2) :: sh, List.mem_flatMap.2 ⟨sh, hsh, by simp⟩, ⟨b, q', len, cap, c, t', fr, rfl, g1, g2, g3, g4, ?_, ?_⟩, ha⟩
            · rw [hek]; exact g5
            · rw [hek]; exact g6
        · cases hs
      · cases hs

/-- The contract that the row asks, out of the law, shape by shape. -/
theorem shapes_contract {C : Checked} (laidOut : laidOutB C.prog = true) {f : FuncId} {fn : Func} {s : ChangeSpec} {apart : Bool} {tb : TypeId}
    (hts : argsOkB C.prog fn.params.toList = true) (hres : fn.resultTypes = #[tb]) (htb : C.prog.underlying tb = some .bool) (hvs : s.vars = [])
    (hsf : ∀ ds : List (DataW H), ds.length = fn.params.toList.length → s.fn H ds = { results := [.lit (.bool true)], args := ds })
    (hshort : ((allSh C.prog fn.params.toList).all fun sh => decide (shLen C.prog sh ≤ 900)) = true) (law : ∀ sh ∈ allSh C.prog fn.params.toList, LawS C.prog f sh)
    (W : World) (base : Nat) (args : Array Value) (ds gs : List (DataW H)) (before : List MemPlace)
    (hval : ∀ (j : Nat) t v, fn.params[j]? = some t → args[j]? = some v → Value.okWide C.prog W .any base t v)
    (hW : DataW.Whole enc C.prog fn.params.toList s.vars apart W args.toList ds gs before) :
    Calls C.prog f args W fun e W' => ∃ v, e = .returned v ∧ s.post enc C.prog fn apart true false false W args v W' := by
  have hW' := hW
  obtain ⟨p, q, hA, hV, rfl, hfz, hnd⟩ := hW
  have hlen : ∀ {ts : List TypeId} {vs : List Value} {ds : List (DataW H)} {ps : List MemPlace}, DataW.TrodAll enc C.prog W 0 (fun _ => true) true ts vs ds ps → ds.length = ts.length := by
    intro ts
    induction ts with
    | nil => intro vs ds ps h; obtain ⟨_, rfl, _⟩ := trodAll_nil h; rfl
    | cons t ts ih =>
      intro vs ds ps h
      obtain ⟨v, vs', d, ds', p, q, rfl, rfl, rfl, h1, h2⟩ := trodAll_cons h
      simp [ih h2]
  have hg : gs = [] := by
    rw [hvs] at hV
    exact (trodVars_none hV).1
  have hok : ∀ (j : Nat) t v, fn.params.toList[j]? = some t → args.toList[j]? = some v → Value.okWide C.prog W .any base t v := fun j t v h1 h2 => hval j t v (by simpa using h1) (by simpa using h2)
  obtain ⟨sh, hsh, ha⟩ := sh_of hts hok hA
  have hmap := allSh_map hsh
  have hbl := shBl_length W ha
  have hsl := shSc_length (by rw [hmap]; exact hA) ha
  have hshort' : shLen C.prog sh ≤ 900 := by
    simp only [List.all_eq_true, decide_eq_true_eq] at hshort
    exact hshort sh hsh
  obtain ⟨S, hSx, hlaw⟩ := law sh hsh
  obtain ⟨x, hx⟩ := hSx { v := fun i => (shSc C.prog W sh args.toList).getD i (.I 0) }
  obtain ⟨hR, hB, hH⟩ := sh_ok (m := ⟨fun id => (shBl sh args.toList)[id]?, fun _ => 0⟩) (ρ := { v := fun i => if i < 900 then (shSc C.prog W sh args.toList).getD i (.I 0) else x i }) (i := 0) (id := 0) (by rw [hmap]; exact hok) (by rw [hmap]; exact hA) ha
    (fun j u hu => by
      have := (List.getElem?_eq_some_iff.1 hu).1
      simp only [Nat.zero_add, List.getD_eq_getElem?_getD, hu, Option.getD_some]
      rw [if_pos (by omega)]) (fun j b hb => by simpa using hb)
  refine (hlaw _ _ W args hx hB hR ⟨fun id B hB' _ => ?_, fun id id' B B' b hB' _ hrw => ?_⟩ (fun id hid => ?_)).mono fun e W' ⟨he, bel⟩ => ?_
  · obtain ⟨_, _, b, o, h1, h2, h3⟩ := hH _ (ofList_mem hB')
    exact ⟨b, o, h1, h2, h3⟩
  · rw [shH_ro _ (ofList_mem hB')] at hrw; cases hrw
  · simp; omega
  · subst he
    refine ⟨_, rfl, post_true laidOut ?_ hres htb hvs ?_ hW' bel⟩
    · simp only [argsOkB, List.all_eq_true, Bool.and_eq_true, decide_eq_true_eq] at hts
      simp only [List.all_eq_true, Bool.and_eq_true, decide_eq_true_eq]; exact fun t ht => (hts t ht).1
    · rw [hg, List.append_nil]; exact hsf ds (hlen hA)

/-- The whole step of the row: what is to be shown is the law, shape by shape. -/
theorem lifted_shapes {C : Checked} (own : ownKnob C.prog.godebug = none) (laidOut : laidOutB C.prog = true) {os : Os} (started : os.Started) {f : FuncId} {fn : Func} {s : ChangeSpec} {conds : List PathCond} {apart : Bool} {tb : TypeId}
    (noInit : C.prog.inits.idxOf? f = none) (hf : C.prog.funcs[f]? = some fn)
    (witness : ∃ (w : World) (tape : Tape) (i : Input), w.os = os ∧ (w.forCall tape i).Shaped C.prog ∧ i.vars = [] ∧ Input.okWide C.prog (w.forCall tape i) .any w.heap.size f i ∧
      s.pre6 enc C.prog fn conds apart (w.forCall tape i).memory i.args ∧ Assume.holds {} C.prog (lone (Frame.enter C.prog f i.args .normal) [] (w.forCall tape i)))
    (hts : argsOkB C.prog fn.params.toList = true) (hres : fn.resultTypes = #[tb]) (htb : C.prog.underlying tb = some .bool) (hvs : s.vars = [])
    (hsf : ∀ ds : List (DataW H), ds.length = fn.params.toList.length → s.fn H ds = { results := [.lit (.bool true)], args := ds })
    (hshort : ((allSh C.prog fn.params.toList).all fun sh => decide (shLen C.prog sh ≤ 900)) = true) (law : ∀ sh ∈ allSh C.prog fn.params.toList, LawS C.prog f sh) :
    ReturnsInHanded {} C os f .any (s.pre6 enc C.prog fn conds apart) (s.post enc C.prog fn apart true false false) :=
  returnsInHanded_of_change own started noInit hf witness fun W base args ds gs before hval hW _ _ => shapes_contract laidOut hts hres htb hvs hsf hshort law W base args ds gs before hval hW

/-- A law by cases, of a shape. -/
theorem law_cases {P : Program} {f : FuncId} {sh : Sh} {loops depth : Nat} {dt : DT} (hr : DT.run P (fun _ => Γ0) loops depth f (shDV P sh 0 0) (T.ofList (shH P sh 0 0)) (shN sh) goodTrue { bnds := shB P sh 0 } dt = true)
    (fit : ∀ ρ : Env, (∀ p ∈ shB P sh 0, p.2.1 ≤ (p.1.ev ρ).int ∧ (p.1.ev ρ).int ≤ p.2.2) → dt.Fit ρ) : Law P f sh := fun ρ m w vs hb hvs hH hf =>
  law_by_cases (fun _ => Γ0_ok) hr (ρ := ρ) ⟨by simp, hb, by simp, trivial⟩ (fit ρ hb) hvs hH hf (fun id B h => shH_ro _ (ofList_mem h))

/-- A law by its loops, of a shape. -/
theorem law_points {P : Program} {f : FuncId} {sh : Sh} {loops depth : Nat} {root : Code} {fn : Func} (hfn : P.funcs[f]? = some fn) (hbody : fn.body = some root) (hlen : (shDV P sh 0 0).length ≤ fn.ntmps)
    {Γ : Facts → FuncId → Option CallD} {S : Env → Prop} (hΓ : ∀ F : Facts, F.sem = S → ΓOk P F (Γ F)) (hS : ∀ ρ : Env, ∃ x : Nat → Sc, S { v := fun i => if i < 900 then ρ.v i else x i })
    {pts : List Pt} (hsem : ∀ p ∈ pts, p.facts.sem = S) (hpts : ∀ p ∈ pts, ptOk P Γ loops depth root fn pts p = true) {plan : PL}
    (hrun : PL.run (seg P Γ loops depth (pts.map (·.rp)) (.code root []) [] ⟨argsT 0 (shDV P sh 0 0), T.ofList (shH P sh 0 0), shN sh, fn.ntmps⟩) (finTrue P fn) pts { bnds := shB P sh 0, sem := S } plan = true)
    (Inv : Nat → Env → Prop) (μ : Nat → Env → Nat)
    (hI : ∀ j p ρ, pts[j]? = some p → Inv j ρ → p.facts.ok ρ ∧ p.Fit oblT (fun j' ρ' => Inv j' ρ' ∧ μ j' ρ' < μ j ρ) ρ)
    (fit : ∀ ρ : Env, S ρ → (∀ p ∈ shB P sh 0, p.2.1 ≤ (p.1.ev ρ).int ∧ (p.1.ev ρ).int ≤ p.2.2) → plan.Fit oblT Inv ρ) : LawS P f sh := ⟨S, hS, fun ρ m w vs hs hb hvs hH hf =>
  law_by_points hΓ hfn hbody hlen hsem hpts rfl hrun Inv μ hI (ρ := ρ) ⟨by simp, hb, by simp, hs⟩ (fit ρ hs hb) hvs hH hf (fun id B h => shH_ro _ (ofList_mem h))⟩

theorem Facts.ok_iff {F : Facts} {ρ : Env} : F.ok ρ ↔ (∀ p ∈ F.conds, (p.1.ev ρ).bool = p.2) ∧ (∀ p ∈ F.bnds, p.2.1 ≤ (p.1.ev ρ).int ∧ (p.1.ev ρ).int ≤ p.2.2) ∧ (∀ p ∈ F.eqs, p.1.ev ρ = p.2.ev ρ) ∧ F.sem ρ :=
  ⟨fun h => ⟨h.conds, h.bnds, h.eqs, h.sem⟩, fun h => ⟨h.1, h.2.1, h.2.2.1, h.2.2.2⟩⟩

theorem upd_cons (ρ : Env) (k : Nat) (e : E) (r : List (Nat × E)) (n : Nat) : (ρ.upd (T.ofList ((k, e) :: r))).v n = if n = k then e.ev ρ else (ρ.upd (T.ofList r)).v n := by
  simp only [Env.upd, T.ofList, T.get_set]
  by_cases h : n = k <;> simp [h]
theorem upd_nil (ρ : Env) (n : Nat) : (ρ.upd (T.ofList [])).v n = ρ.v n := rfl

theorem rng_of {F : Facts} {ρ : Env} (hF : F.ok ρ) {e : E} {x y : Int} (h : e.rng F = (some x, some y)) : x ≤ (e.ev ρ).int ∧ (e.ev ρ).int ≤ y := by
  have := E.rng_has hF e
  rw [h] at this
  exact ⟨this.1 _ rfl, this.2 _ rfl⟩
end
end Go.Eng
