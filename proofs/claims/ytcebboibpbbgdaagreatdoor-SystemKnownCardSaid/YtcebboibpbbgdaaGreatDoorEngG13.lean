/-
  Rows whose package-level variables are listed with what they hold.
-/
import Derived.Test.YtcebboibpbbgdaaGreatDoorEngG12
import Derived.Lib.LaidU8
namespace Go.Eng
open Go.RowKit Go.ChangeShapes Go.WideShapes Go.ChangeAt

/-- The cells of plain data. -/
def litCell : Lit → Value
  | .int k n => .int k n
  | .bool b => .bool b
  | .string s => .string ⟨s.toArray⟩
  | _ => .nilIface
def dataC {H : Type} : Nat → DataW H → List Value
  | _, .lit l => [litCell l]
  | n + 1, .agg l => l.flatMap (dataC n)
  | _, _ => []

/-- The settled world, the listed variables holding what their initialisers lay. -/
noncomputable def laidW (P : Program) (os : Os) (l : List (Nat × DataW Unit)) : World :=
  let w0 := World.holding P os ⟨#[], #[], []⟩
  { w0 with heap := l.foldl (fun h p => h.modify p.1 fun
      | .cells _ t fr => .cells (dataC 8 p.2).toArray t fr
      | o => o) w0.heap }

section
variable {H : Type} {enc : TypeId × Value → H}
/-- The whole step of such a row. -/
theorem lifted_laid {C : Checked} (own : ownKnob C.prog.godebug = none) (laidOut : laidOutB C.prog = true) {os : Os} (started : os.Started) {f : FuncId} {fn : Func} {s : ChangeSpec} {conds : List PathCond} {apart : Bool} {tb : TypeId} {laid : List (String × DataW Unit)}
    (noInit : C.prog.inits.idxOf? f = none) (hf : C.prog.funcs[f]? = some fn)
    (witness : ∃ (w : World) (tape : Tape) (i : Input), w.os = os ∧ (w.forCall tape i).Shaped C.prog ∧ i.vars = [] ∧ Input.okWide C.prog (w.forCall tape i) .any w.heap.size f i ∧
      ((s.pre enc C.prog fn conds apart (w.forCall tape i).memory i.args ∧ laidMet C.prog laid (w.forCall tape i).memory) ∧ sizedMet enc C.prog fn (OpenSpec.ofChange s) apart (w.forCall tape i).memory i.args) ∧ Assume.holds {} C.prog (lone (Frame.enter C.prog f i.args .normal) [] (w.forCall tape i)))
    (hts : argsOkB C.prog fn.params.toList = true) (hres : fn.resultTypes = #[tb]) (htb : C.prog.underlying tb = some .bool) (hvs : s.vars = [])
    (hsf : ∀ ds : List (DataW H), ds.length = fn.params.toList.length → s.fn H ds = { results := [.lit (.bool true)], args := ds })
    (hshort : ((allSh C.prog fn.params.toList).all fun sh => decide (shLen C.prog sh ≤ 900)) = true) (law : ∀ sh ∈ allSh C.prog fn.params.toList, LawS C.prog f sh) :
    ReturnsInHanded {} C os f .any (fun w args => (s.pre enc C.prog fn conds apart w args ∧ laidMet C.prog laid w) ∧ sizedMet enc C.prog fn (OpenSpec.ofChange s) apart w args) (s.post enc C.prog fn apart true false false) :=
  returnsInHanded_of_change_and (X := fun w _ => laidMet C.prog laid w) (fun _ _ _ hh h => h.of_heap hh) own started noInit hf witness fun W base args ds gs before hval hW _ _ _ _ => shapes_contract laidOut hts hres htb hvs hsf hshort law W base args ds gs before hval hW
end

section
variable {H : Type} {enc : TypeId × Value → H} {P : Program} {w : World} {base : Nat} {spare : Nat → Bool} {held : Bool}

theorem dataC_lit (n : Nat) (l : Lit) : dataC n (.lit l : DataW H) = [litCell l] := by cases n <;> rfl

/-- Cells of a plain type are those of what they read as. -/
theorem kds_cells : ∀ (n : Nat) (t : TypeId) (ks : List Kd), kds P n t = some ks → ∀ (fuel : Nat) (cs : List Value) (x : DataW H × List MemPlace), DataW.trod enc P w base spare held fuel t cs = some x → cs = dataC n x.1 := by
  intro n
  induction n with
  | zero => intro t ks h; simp [kds] at h
  | succ n ih =>
    intro t ks h fuel cs x hx
    have hlen := (kds_trod (n + 1) t ks h fuel cs x hx).1
    cases fuel with
    | zero => simp [DataW.trod] at hx
    | succ fuel =>
      simp only [kds] at h
      simp only [DataW.trod] at hx
      split at h
      · rename_i hu
        cases h
        simp only [hu] at hx
        split at hx
        all_goals first
          | (cases hx; rw [dataC_lit]; rfl)
          | (exfalso; simp_all; done)
      · rename_i k hu
        cases h
        simp only [hu] at hx
        split at hx
        all_goals try (exfalso; simp_all; done)
        rename_i kk k' m hkk
        cases hkk
        split at hx
        · rename_i hc
          obtain ⟨rfl, hwf⟩ := hc
          cases hx
          rw [dataC_lit]; rfl
        · cases hx
      · rename_i hu
        cases h
        simp only [hu] at hx
        split at hx
        all_goals try (exfalso; simp_all; done)
        split at hx
        · cases hx
          rw [dataC_lit]
          simp [litCell]
        · cases hx
      · rename_i fs hu
        split at h
        · rename_i ks' hks
          split at h
          · rename_i hl
            cases h
            simp only [hu] at hx
            split at hx
            · rename_i hcl
              simp only [Option.map_eq_some_iff] at hx
              obtain ⟨xs, hxs, hxe⟩ := hx
              have key : ∀ (fl : List Field) (off : Nat) (l : List Kd) (ys : List (DataW H × List MemPlace)), kdsF (fun t => match kds P n t with | some ks => if P.cellsOf t = ks.length then some ks else none | none => none) off fl = some l →
                  fl.mapM (fun f => DataW.trod enc P w base spare held fuel f.type ((cs.drop f.offset).take (P.cellsOf f.type))) = some ys → off + l.length ≤ cs.length → (cs.drop off).take l.length = (ys.map (·.1)).flatMap (dataC n) := by
                intro fl
                induction fl with
                | nil => intro off l ys h1 h2 _; simp [kdsF] at h1; subst h1; simp at h2; subst h2; simp
                | cons f fl ihf =>
                  intro off l ys h1 h2 h3
                  simp only [kdsF] at h1
                  split at h1
                  · rename_i hoff
                    split at h1
                    · rename_i kf hkf
                      simp only [Option.map_eq_some_iff] at h1
                      obtain ⟨l', hl', rfl⟩ := h1
                      split at hkf
                      · rename_i kf' hkf'
                        split at hkf
                        · rename_i hsz
                          cases hkf
                          simp only [List.mapM_cons, Option.bind_eq_bind, Option.pure_def, Option.bind_eq_some_iff, Option.some.injEq] at h2
                          obtain ⟨y, hy, rs, hr, rfl⟩ := h2
                          have t1 := ih f.type kf hkf' fuel _ _ hy
                          rw [hoff, hsz] at t1
                          have t2 := ihf (off + kf.length) l' rs hl' hr (by simp at h3; omega)
                          rw [List.length_append, List.take_add, List.drop_drop, t1, t2]
                          simp
                        · cases hkf
                      · cases hkf
                    · cases h1
                  · cases h1
              have := key fs.toList 0 ks xs hks hxs (by omega)
              simp only [List.drop_zero] at this
              rw [List.take_of_length_le (by omega)] at this
              rw [← hxe]
              exact this
            · cases hx
          · cases h
        · cases h
      · rename_i len e hu
        split at h
        · rename_i ks' hks
          split at h
          · rename_i hsz
            cases h
            obtain ⟨hse, hst⟩ := hsz
            simp only [hu] at hx
            split at hx
            · rename_i hcl
              simp only [Option.map_eq_some_iff] at hx
              obtain ⟨xs, hxs, hxe⟩ := hx
              have key : ∀ (m i0 : Nat) (ys : List (DataW H × List MemPlace)), ((List.range' i0 m).mapM fun i => DataW.trod enc P w base spare held fuel e ((cs.drop (i * P.cellsOf e)).take (P.cellsOf e))) = some ys → (i0 + m) * ks'.length ≤ cs.length →
                  (cs.drop (i0 * ks'.length)).take (m * ks'.length) = (ys.map (·.1)).flatMap (dataC n) := by
                intro m
                induction m with
                | zero => intro i0 ys h2 _; simp at h2; subst h2; simp
                | succ m ihm =>
                  intro i0 ys h2 h3
                  simp only [List.range'_succ, List.mapM_cons, Option.bind_eq_bind, Option.pure_def, Option.bind_eq_some_iff, Option.some.injEq] at h2
                  obtain ⟨y, hy, rs, hr, rfl⟩ := h2
                  have t1 := ih e ks' hks fuel _ _ hy
                  rw [hse] at t1
                  have t2 := ihm (i0 + 1) rs hr (by rw [show i0 + 1 + m = i0 + (m + 1) by omega]; exact h3)
                  rw [Nat.add_mul, Nat.one_mul] at t2
                  rw [Nat.add_mul, Nat.one_mul, Nat.add_comm (m * ks'.length), List.take_add, List.drop_drop, t1, t2]
                  simp
              rw [List.range_eq_range'] at hxs
              have := key len 0 xs hxs (by rw [Nat.zero_add]; omega)
              simp only [Nat.zero_mul, List.drop_zero] at this
              rw [List.take_of_length_le (by omega)] at this
              rw [← hxe]
              exact this
            · cases hx
          · cases h
        · cases h
      · cases h
end

section
variable (P : Program)

def ifaceB (t : TypeId) : Bool := match P.underlying t with
  | some (.interface _) => true
  | _ => false

/-- The listed variables of plain data, and those of an interface type: their numbers, their cells. -/
def glOf (laid : List (String × DataW Unit)) : List (Nat × List DV) := laid.filterMap fun p => match P.globalNamed p.1 with
  | some g => match P.globals[g]? with
    | some gl => if (kds P 8 gl.type).isSome ∧ g < 500 then ((dataC 8 p.2).mapM (DV.ofV 8)).map fun l => (g, l) else if ifaceB P gl.type = true ∧ g < 500 then some (g, [.anyi]) else none
    | none => none
  | none => none

def glH (G : List (Nat × List DV)) : List (Nat × Blk) := (500, .cells [] 0 (.reg (G.map (·.1)))) :: G.map fun p => (p.1, .cells p.2 0 (.gl p.1))

/-- What a law says where its arguments are of a shape, and listed variables hold what they hold. -/
def LawG (G : List (Nat × List DV)) (f : FuncId) (sh : Sh) : Prop := ∃ S : Env → Prop, (∀ ρ : Env, ∃ (x : Nat → Sc) (f : Nat → Sc → Sc → Sc → Sc), S { v := fun i => if i < 900 then ρ.v i else x i, f := f }) ∧ ∀ (ρ : Env) (m : Emb) (w : World) (vs : Array Value), S ρ →
  (∀ p ∈ shB P sh 0, p.2.1 ≤ (p.1.ev ρ).int ∧ (p.1.ev ρ).int ≤ p.2.2) → DV.RL m ρ (shDV P sh 0 501) vs.toList →
  HeapR m ρ (T.ofList (glH G ++ shH P sh 0 501)) w → (∀ id, 501 + shN sh ≤ id → m.ι id = none) → Calls P f vs w fun e w' => e = .returned (.bool true) ∧ Below w.heap.size w w'

variable {P}

theorem glOf_ok {laid : List (String × DataW Unit)} {w : World} (h : laidMet P laid w) (m : Emb) (ρ : Env) {g : Nat} {l : List DV} (hg : (g, l) ∈ glOf P laid) :
    g < 500 ∧ ∃ c t fr, w.heap[g]? = some (.cells c t fr) ∧ DV.RL m ρ l c.toList := by
  simp only [glOf, List.mem_filterMap] at hg
  obtain ⟨⟨n, d⟩, hm, hg⟩ := hg
  split at hg
  · rename_i g' hg'
    split at hg
    · rename_i gl hgl
      split at hg
      · rename_i hc
        simp only [Option.map_eq_some_iff, Prod.mk.injEq] at hg
        obtain ⟨l', hl', rfl, rfl⟩ := hg
        obtain ⟨g2, t, cs, fuel, p, h1, h2, h3, h4⟩ := Lib.laidMet.reads h hm
        obtain rfl := Option.some.inj (hg'.symm.trans h1)
        rw [hgl] at h2
        simp only [Option.map_some, Option.some.injEq] at h2
        subst h2
        obtain ⟨ks, hks⟩ := Option.isSome_iff_exists.1 hc.1
        have hcs := kds_cells 8 _ ks hks fuel _ _ h4
        refine ⟨hc.2, ?_⟩
        unfold World.var? at h3
        rw [hg'] at h3
        simp only [Option.bind_some] at h3
        split at h3
        · rename_i c t0 fr ho
          cases h3
          refine ⟨_, _, _, ho, ?_⟩
          rw [hcs]
          exact RL_of_mapM (fun v d h => DV.ofV_R m ρ 8 h) hl'
        · cases h3
      · rename_i hnot
        split at hg
        · rename_i hc
          simp only [Option.some.injEq, Prod.mk.injEq] at hg
          obtain ⟨rfl, rfl⟩ := hg
          obtain ⟨g2, t, cs, fuel, p, h1, h2, h3, h4⟩ := Lib.laidMet.reads h hm
          obtain rfl := Option.some.inj (hg'.symm.trans h1)
          rw [hgl] at h2
          simp only [Option.map_some, Option.some.injEq] at h2
          subst h2
          have hcs : ∃ v : Value, cs = #[v] ∧ (v = .nilIface ∨ ∃ t x, v = .iface t x) := by
            cases fuel with
            | zero => simp [DataW.trod] at h4
            | succ fuel =>
              have hu := hc.1
              unfold ifaceB at hu
              split at hu
              · rename_i ms hms
                simp only [DataW.trod, hms] at h4
                split at h4
                all_goals first
                  | exact ⟨_, Array.toList_inj.1 (by assumption), .inl rfl⟩
                  | exact ⟨_, Array.toList_inj.1 (by assumption), .inr ⟨_, _, rfl⟩⟩
                  | (exfalso; simp_all; done)
              · cases hu
          refine ⟨hc.2, ?_⟩
          unfold World.var? at h3
          rw [hg'] at h3
          simp only [Option.bind_some] at h3
          split at h3
          · rename_i c t0 fr ho
            cases h3
            refine ⟨_, _, _, ho, ?_⟩
            obtain ⟨v, hv, hvi⟩ := hcs
            rw [hv]
            simp only [DV.RL]
            exact ⟨v, [], rfl, hvi, rfl⟩
          · cases h3
        · cases hg
    · cases hg
  · cases hg

theorem shH_lt : ∀ {sh : Sh} {i id : Nat}, ∀ p ∈ shH P sh i id, id ≤ p.1
  | [], i, id, p, hp => by simp [shH] at hp
  | (t, k) :: r, i, id, p, hp => by
    simp only [shH] at hp
    split at hp
    · exact shH_lt p hp
    · exact shH_lt p hp
    · rcases List.mem_cons.1 hp with rfl | hp
      · exact Nat.le_refl _
      · have := shH_lt p hp; omega

theorem glH_ro {G : List (Nat × List DV)} {sh : Sh} {p : Nat × Blk} (hp : p ∈ glH G ++ shH P sh 0 501) : p.2.rw = false := by
  rcases List.mem_append.1 hp with hp | hp
  · unfold glH at hp
    rcases List.mem_cons.1 hp with rfl | hp
    · rfl
    · obtain ⟨q, _, rfl⟩ := List.mem_map.1 hp; rfl
  · exact shH_ro p hp
end

section
variable {H : Type} {enc : TypeId × Value → H}

theorem shapes_contractG {C : Checked} (laidOut : laidOutB C.prog = true) {f : FuncId} {fn : Func} {s : ChangeSpec} {apart : Bool} {tb : TypeId} {laid : List (String × DataW Unit)} {G : List (Nat × List DV)} {ks : List Nat} (hG : ((glOf C.prog laid).filter fun p => ks.contains p.1) = G) (hGne : G ≠ [])
    (hts : argsOkB C.prog fn.params.toList = true) (hres : fn.resultTypes = #[tb]) (htb : C.prog.underlying tb = some .bool) (hvs : s.vars = [])
    (hsf : ∀ ds : List (DataW H), ds.length = fn.params.toList.length → s.fn H ds = { results := [.lit (.bool true)], args := ds })
    (hshort : ((allSh C.prog fn.params.toList).all fun sh => decide (shLen C.prog sh ≤ 900)) = true) (law : ∀ sh ∈ allSh C.prog fn.params.toList, LawG C.prog G f sh)
    (W : World) (base : Nat) (args : Array Value) (ds gs : List (DataW H)) (before : List MemPlace)
    (hval : ∀ (j : Nat) t v, fn.params[j]? = some t → args[j]? = some v → Value.okWide C.prog W .any base t v)
    (hW : DataW.Whole enc C.prog fn.params.toList s.vars apart W args.toList ds gs before) (hL : laidMet C.prog laid W) :
    Calls C.prog f args W fun e W' => ∃ v, e = .returned v ∧ s.post enc C.prog fn apart true false false W args v W' := by
  have hW' := hW
  obtain ⟨p, q, hA, hV, rfl, hfz, hnd⟩ := hW
  have hlen : ∀ {ts : List TypeId} {vs : List Value} {ds : List (DataW H)} {ps : List MemPlace}, DataW.TrodAll enc C.prog W 0 (fun _ => true) true ts vs ds ps → ds.length = ts.length := by
    intro ts
    induction ts with
    | nil => intro vs ds ps h; obtain ⟨_, rfl, _⟩ := trodAll_nil h; rfl
    | cons t ts ih =>
      intro vs ds ps h
      obtain ⟨v, vs', d, ds', p, q, rfl, rfl, rfl, h1, h2⟩ := trodAll_cons h
      simp [ih h2]
  have hg : gs = [] := by
    rw [hvs] at hV
    exact (trodVars_none hV).1
  have hok : ∀ (j : Nat) t v, fn.params.toList[j]? = some t → args.toList[j]? = some v → Value.okWide C.prog W .any base t v := fun j t v h1 h2 => hval j t v (by simpa using h1) (by simpa using h2)
  obtain ⟨sh, hsh, ha⟩ := sh_of hts hok hA
  have hmap := allSh_map hsh
  have hbl := shBl_length W ha
  have hsl := shSc_length (by rw [hmap]; exact hA) ha
  have hshort' : shLen C.prog sh ≤ 900 := by
    simp only [List.all_eq_true, decide_eq_true_eq] at hshort
    exact hshort sh hsh
  obtain ⟨S, hSx, hlaw⟩ := law sh hsh
  obtain ⟨x, xf, hx⟩ := hSx { v := fun i => (shSc C.prog W sh args.toList).getD i (.I 0) }
  obtain ⟨p0, hp0⟩ := List.exists_mem_of_ne_nil G hGne
  let m : Emb := ⟨fun id => if id < 500 then some id else if id = 500 then some p0.1 else (shBl sh args.toList)[id - 501]?, fun _ => 0⟩
  let ρ : Env := { v := fun i => if i < 900 then (shSc C.prog W sh args.toList).getD i (.I 0) else x i, f := xf }
  have hgl : ∀ {g : Nat} {l : List DV}, (g, l) ∈ G → g < 500 ∧ ∃ c t fr, W.heap[g]? = some (.cells c t fr) ∧ DV.RL m ρ l c.toList := fun hm => glOf_ok hL m ρ (by rw [← hG] at hm; exact (List.mem_filter.1 hm).1)
  obtain ⟨hR, hB, hH⟩ := sh_ok (m := m) (ρ := ρ) (i := 0) (id := 501) (by rw [hmap]; exact hok) (by rw [hmap]; exact hA) ha
    (fun j u hu => by
      have := (List.getElem?_eq_some_iff.1 hu).1
      simp only [ρ, Nat.zero_add, List.getD_eq_getElem?_getD, hu, Option.getD_some]
      rw [if_pos (by omega)]) (fun j b hb => by
      simp only [m]
      rw [if_neg (by omega), if_neg (by omega)]
      simpa using hb)
  refine (hlaw ρ m W args hx hB hR ⟨fun id B hB' _ => ?_, fun id id' B B' b hB' _ hrw => ?_⟩ (fun id hid => ?_)).mono fun e W' ⟨he, bel⟩ => ?_
  · have hm := ofList_mem hB'
    rcases List.mem_append.1 hm with hm | hm
    · unfold glH at hm
      rcases List.mem_cons.1 hm with e | hm
      · cases e
        obtain ⟨h500, c, t, fr, ho, _⟩ := hgl hp0
        exact ⟨p0.1, _, by simp [m], ho, c, fr, ⟨_, rfl⟩, Nat.zero_le _, fun i d hd => by simp at hd, trivial⟩
      · obtain ⟨⟨g, l⟩, hq, e⟩ := List.mem_map.1 hm
        cases e
        obtain ⟨h500, c, t, fr, ho, hr⟩ := hgl hq
        have hι : m.ι g = some g := by simp [m, h500]
        exact ⟨g, _, hι, ho, c, fr, ⟨_, rfl⟩, by have := hr.length; simp at this; exact Nat.le_of_eq this.symm, fun i d hd => by
          obtain ⟨v, hv, hrv⟩ := hr.get hd
          exact ⟨v, by simpa using hv, hrv⟩, hι⟩
    · obtain ⟨_, _, b, o, h1, h2, h3⟩ := hH _ hm
      exact ⟨b, o, h1, h2, h3⟩
  · rw [glH_ro (ofList_mem hB')] at hrw; cases hrw
  · simp only [m]
    rw [if_neg (by omega), if_neg (by omega)]
    simp; omega
  · subst he
    refine ⟨_, rfl, post_true laidOut ?_ hres htb hvs ?_ hW' bel⟩
    · simp only [argsOkB, List.all_eq_true, Bool.and_eq_true, decide_eq_true_eq] at hts
      simp only [List.all_eq_true, Bool.and_eq_true, decide_eq_true_eq]; exact fun t ht => (hts t ht).1
    · rw [hg, List.append_nil]; exact hsf ds (hlen hA)

/-- The whole step of such a row, the variables' content in use. -/
theorem lifted_laidG {C : Checked} (own : ownKnob C.prog.godebug = none) (laidOut : laidOutB C.prog = true) {os : Os} (started : os.Started) {f : FuncId} {fn : Func} {s : ChangeSpec} {conds : List PathCond} {apart : Bool} {tb : TypeId} {laid : List (String × DataW Unit)}
    {G : List (Nat × List DV)} {ks : List Nat} (hG : ((glOf C.prog laid).filter fun p => ks.contains p.1) = G) (hGne : G ≠ []) (noInit : C.prog.inits.idxOf? f = none) (hf : C.prog.funcs[f]? = some fn)
    (witness : ∃ (w : World) (tape : Tape) (i : Input), w.os = os ∧ (w.forCall tape i).Shaped C.prog ∧ i.vars = [] ∧ Input.okWide C.prog (w.forCall tape i) .any w.heap.size f i ∧
      ((s.pre enc C.prog fn conds apart (w.forCall tape i).memory i.args ∧ laidMet C.prog laid (w.forCall tape i).memory) ∧ sizedMet enc C.prog fn (OpenSpec.ofChange s) apart (w.forCall tape i).memory i.args) ∧ Assume.holds {} C.prog (lone (Frame.enter C.prog f i.args .normal) [] (w.forCall tape i)))
    (hts : argsOkB C.prog fn.params.toList = true) (hres : fn.resultTypes = #[tb]) (htb : C.prog.underlying tb = some .bool) (hvs : s.vars = [])
    (hsf : ∀ ds : List (DataW H), ds.length = fn.params.toList.length → s.fn H ds = { results := [.lit (.bool true)], args := ds })
    (hshort : ((allSh C.prog fn.params.toList).all fun sh => decide (shLen C.prog sh ≤ 900)) = true) (law : ∀ sh ∈ allSh C.prog fn.params.toList, LawG C.prog G f sh) :
    ReturnsInHanded {} C os f .any (fun w args => (s.pre enc C.prog fn conds apart w args ∧ laidMet C.prog laid w) ∧ sizedMet enc C.prog fn (OpenSpec.ofChange s) apart w args) (s.post enc C.prog fn apart true false false) :=
  returnsInHanded_of_change_and (X := fun w _ => laidMet C.prog laid w) (fun _ _ _ hh h => h.of_heap hh) own started noInit hf witness fun W base args ds gs before hval hW _ _ hL _ => shapes_contractG laidOut hG hGne hts hres htb hvs hsf hshort law W base args ds gs before hval hW hL

/-- A law by cases, of a shape. -/
theorem lawG_cases {P : Program} {G : List (Nat × List DV)} {f : FuncId} {sh : Sh} {loops depth : Nat} {dt : DT} (hr : DT.run P (fun _ => Γ0) loops depth f (shDV P sh 0 501) (T.ofList (glH G ++ shH P sh 0 501)) (501 + shN sh) goodTrue { bnds := shB P sh 0 } dt = true)
    (fit : ∀ ρ : Env, (∀ p ∈ shB P sh 0, p.2.1 ≤ (p.1.ev ρ).int ∧ (p.1.ev ρ).int ≤ p.2.2) → dt.Fit ρ) : LawG P G f sh := ⟨fun _ => True, fun _ => ⟨fun _ => .I 0, fun _ _ _ _ => .I 0, trivial⟩, fun ρ m w vs _ hb hvs hH hf =>
  law_by_cases (fun _ => Γ0_ok) hr (ρ := ρ) ⟨by simp, hb, by simp, trivial⟩ (fit ρ hb) hvs hH hf (fun id B h => glH_ro (ofList_mem h))⟩

/-- A law by its loops, of a shape. -/
theorem lawG_points {P : Program} {G : List (Nat × List DV)} {f : FuncId} {sh : Sh} {loops depth : Nat} {root : Code} {fn : Func} (hfn : P.funcs[f]? = some fn) (hbody : fn.body = some root) (hlen : (shDV P sh 0 501).length ≤ fn.ntmps)
    {Γ : Facts → FuncId → Option CallD} {S : Env → Prop} (hΓ : ∀ F : Facts, F.sem = S → ΓOk P F (Γ F)) (hS : ∀ ρ : Env, ∃ (x : Nat → Sc) (f : Nat → Sc → Sc → Sc → Sc), S { v := fun i => if i < 900 then ρ.v i else x i, f := f })
    {pts : List Pt} (hsem : ∀ p ∈ pts, p.facts.sem = S) (hpts : ∀ p ∈ pts, ptOk P Γ loops depth root fn pts p = true) {plan : PL}
    (hrun : PL.run (seg P Γ loops depth (pts.map (·.rp)) (.code root []) [] ⟨argsT 0 (shDV P sh 0 501), T.ofList (glH G ++ shH P sh 0 501), 501 + shN sh, fn.ntmps, []⟩) (finTrue P fn) pts { bnds := shB P sh 0, sem := S } plan = true)
    (Inv : Nat → Env → Prop) (μ : Nat → Env → Nat)
    (hI : ∀ j p ρ, pts[j]? = some p → Inv j ρ → p.facts.ok ρ ∧ p.Fit oblT (fun j' ρ' => Inv j' ρ' ∧ μ j' ρ' < μ j ρ) ρ)
    (fit : ∀ ρ : Env, S ρ → (∀ p ∈ shB P sh 0, p.2.1 ≤ (p.1.ev ρ).int ∧ (p.1.ev ρ).int ≤ p.2.2) → plan.Fit oblT Inv ρ) : LawG P G f sh := ⟨S, hS, fun ρ m w vs hs hb hvs hH hf =>
  law_by_points hΓ hfn hbody hlen hsem hpts rfl hrun Inv μ hI (ρ := ρ) ⟨by simp, hb, by simp, hs⟩ (fit ρ hs hb) hvs hH hf (fun id B h => glH_ro (ofList_mem h))⟩
end
end Go.Eng
