/-
  Regions in the order of the text, code, calls.
-/
import Derived.Test.YtdffbokmgdcjaaaDoorEngG4
import Derived.Deep.Draws
import Derived.LoopN
namespace Go.Eng

abbrev CallD := FuncId → List DV → T Blk → Nat → Option Out

section
variable (P : Program) (F : Facts)

def wantD (ops : Array Oper) (st : St) (o : Oper) : Option Bool :=
  match o.guard with
  | none => some true
  | some (j, want) => match (ops[j]?).bind (·.dst) with
    | some t => match st.tmps.get t with
      | some (.bool e) => (e.dec F).map (· == want)
      | some (.tup []) => some false
      | _ => none
    | none => none

def putT (st : St) (dst : Option Tmp) (d : DV) : Option St :=
  match dst with
  | none => some st
  | some t => if t < st.sz then some { st with tmps := st.tmps.set t d } else none

def bodyOk (g : FuncId) : Bool := match P.funcs[g]? with
  | some fn => fn.body.isSome && !(fn.name == "runtime.NumGoroutine")
  | none => false

/-- Which function is called with what. -/
def calleeD (t : T DV) : Op → Option (FuncId × List DV)
  | .call c => match c.callee, c.args.toList.mapM (opd t) with
    | .value f, some as => match opd t f with
      | some (.fn (.func g) first cap) => if bodyOk P g then some (g, first ++ as ++ cap) else none
      | some (.fn (.method name) (.ifc ty d :: r) _) => match methodD P ty name with
        | some g => if bodyOk P g then some (g, d :: (r ++ as)) else none
        | none => none
      | _ => none
    | .invoke recv name, some as => match opd t recv with
      | some (.ifc ty d) => match methodD P ty name with
        | some g => if bodyOk P g then some (g, d :: as) else none
        | none => none
      | _ => none
    | _, _ => none
  | _ => none

def stepX (call : CallD) (ops : Array Oper) (o : Oper) (st : St) : Option St :=
  match wantD F ops st o with
  | some false => putT st o.dst (.tup [])
  | some true => match valD P F st.heap st.tmps o.op with
    | some d => putT st o.dst d
    | none => match memD P F st.heap st.next st.tmps o.op with
      | some r => putT { st with heap := r.h, next := r.n } o.dst r.d
      | none => match calleeD P st.tmps o.op with
        | some (g, args) => match call g args st.heap st.next with
          | some r => putT { st with heap := r.h, next := r.n } o.dst r.d
          | none => none
        | none => none
  | none => none

def opsX (call : CallD) (ops : Array Oper) : List Nat → St → Option St
  | [], st => some st
  | i :: r, st => match ops[i]? with
    | none => opsX call ops r st
    | some o => match stepX P F call ops o st with
      | some st' => opsX call ops r st'
      | none => none

inductive Ex where
  | norm | exit (id : Nat) | ret
  deriving DecidableEq

def Ex.to : Ex → Exit
  | .norm => .normal
  | .exit id => .exit id
  | .ret => .ret

def argsT : Nat → List DV → T DV
  | _, [] => .nil
  | i, d :: r => (argsT (i + 1) r).set i d

def resD (st : St) : ResultVar → Option DV
  | .tmp t => st.tmps.get t
  | .cell a ty => match st.tmps.get a with
    | some p => loadD P F st.heap ty p
    | none => none

def resultsD (fn : Func) (st : St) : Option DV :=
  match fn.results.toList.mapM (resD P F st) with
  | some [d] => some d
  | some ds => some (.tup ds)
  | none => none

end

/-- How a code ends: by tests that are not decided. -/
inductive CR where
  | leaf (x : Ex) (st : St)
  | node (e : E) (a b : CR)

/-- Two ends that a test tells apart: made one, where they may be. -/
def mkCR (F : Facts) (e : E) (n0 : Nat) (a b : CR) : CR := match a, b with
  | .leaf x s, .leaf y t => if x = y then (match mergeSt F e n0 s t with | some z => .leaf x z | none => .node e (.leaf x s) (.leaf y t)) else .node e (.leaf x s) (.leaf y t)
  | a, b => .node e a b

def CR.bind (n0 : Nat) (k : Facts → St → Option CR) : Facts → CR → Option CR
  | F, .leaf .norm st => k F st
  | _, .leaf x st => some (.leaf x st)
  | F, .node e a b => match CR.bind n0 k (F.cons e true) a, CR.bind n0 k (F.cons e false) b with
    | some x, some y => some (mkCR F e n0 x y)
    | _, _ => none

/-- At the end of a block. -/
def CR.out (n0 : Nat) (id : Nat) : Facts → CR → CR
  | _, .leaf (.exit id') st => if id' = id then .leaf .norm st else .leaf (.exit id') st
  | _, .leaf x st => .leaf x st
  | F, .node e a b => mkCR F e n0 (CR.out n0 id (F.cons e true) a) (CR.out n0 id (F.cons e false) b)

/-- A test in an expression that is not decided. -/
def atomE (F : Facts) : E → E
  | .un .not a => atomE F a
  | .bi .and a b => if (a.dec F).isNone then atomE F a else atomE F b
  | .bi .or a b => if (a.dec F).isNone then atomE F a else atomE F b
  | e => e

/-- What an operation that is not done wants to know. -/
def needOp (F : Facts) (ops : Array Oper) (st : St) (o : Oper) : Option E := match wantD F ops st o with
  | none => (match o.guard with
    | some (j, _) => (match (ops[j]?).bind (·.dst) with
      | some t => (match st.tmps.get t with | some (.bool e) => some (atomE F e) | _ => none)
      | none => none)
    | none => none)
  | some _ => match o.op with
    | .lookup _ x ix _ => (match (opd st.tmps x).bind (entriesD st.heap), opd st.tmps ix with
      | some es, some (.int _ e) => es.findSome? fun p => (match p.1 with | .int _ k => if ((E.bi .eqi e k).dec F).isNone then some (E.bi .eqi e k) else none | _ => none)
      | _, _ => none)
    | .indexAddr _ x ix => (match opd st.tmps x, opd st.tmps ix with
      | some (.slc _ _ l _), some (.int _ e) => if ((E.bi .lt e (.li 0)).dec F).isNone then some (.bi .lt e (.li 0)) else some (.bi .lt e l)
      | _, _ => none)
    | .index _ x ix => (match opd st.tmps x, opd st.tmps ix with
      | some (.str s), some (.int _ e) => if ((E.bi .lt e (.li 0)).dec F).isNone then some (.bi .lt e (.li 0)) else some (.bi .lt e (lenS s))
      | _, _ => none)
    | _ => none

section
variable (P : Program) (callF : Facts → CallD) (drawF : Facts → Array Oper → St → Option St) (lim : Nat)

def needOps (F : Facts) (ops : Array Oper) : List Nat → St → Option E
  | [], _ => none
  | i :: r, st => match ops[i]? with
    | none => needOps F ops r st
    | some o => match stepX P F (callF F) ops o st with
      | some st' => needOps F ops r st'
      | none => needOp F ops st o

def codeX : Nat → Facts → Code → St → Option CR
  | 0, _, _, _ => none
  | n + 1, F, c, st => match c with
    | .skip => some (.leaf .norm st)
    | .label _ => some (.leaf .norm st)
    | .region id ops dr => match (match dr with | false => opsX P F (callF F) ops (List.range ops.size) st | true => drawF F ops st) with
      | some st' => some (.leaf .norm st')
      | none => if F.conds.length < lim then (match needOps P callF F ops (List.range ops.size) st with
        | some e => (match codeX n (F.cons e true) (.region id ops dr) st, codeX n (F.cons e false) (.region id ops dr) st with
          | some x, some y => some (mkCR F e st.next x y)
          | _, _ => none)
        | none => none) else none
    | .seq a b => match codeX n F a st with
      | some r => CR.bind st.next (fun F' st' => codeX n F' b st') F r
      | none => none
    | .cond c a b => match opd st.tmps c with
      | some (.bool e) => match e.dec F with
        | some true => codeX n F a st
        | some false => codeX n F b st
        | none => if F.conds.length < lim then (match codeX n (F.cons e true) a st, codeX n (F.cons e false) b st with
          | some x, some y => some (mkCR F e st.next x y)
          | _, _ => none) else none
      | _ => none
    | .block id b => (codeX n F b st).map fun r => CR.out st.next id F r
    | .loop b => match codeX n F b st with
      | some r => CR.bind st.next (fun F' st' => codeX n F' (.loop b) st') F r
      | none => none
    | .exit id => some (.leaf (.exit id) st)
    | .ret => some (.leaf .ret st)
    | _ => none

def mergeOut (F : Facts) (e : E) (n0 : Nat) (x y : Out) : Option Out := match mergeD F e x.d y.d, mergeH F e n0 x.h y.h with
  | some d, some h => some ⟨d, h, max x.n y.n⟩
  | _, _ => none

/-- What a call answers. -/
def CR.fin (fn : Func) (n0 : Nat) : Facts → CR → Option Out
  | _, .leaf (.exit _) _ => none
  | F, .leaf _ st => (resultsD P F fn st).map fun d => ⟨d, st.heap, st.next⟩
  | F, .node e a b => match CR.fin fn n0 (F.cons e true) a, CR.fin fn n0 (F.cons e false) b with
    | some x, some y => mergeOut F e n0 x y
    | _, _ => none

def callX (Γ : Facts → FuncId → Option CallD) (draw : Facts → CallD → Array Oper → St → Option St) (fuel lim : Nat) : Nat → Facts → CallD
  | 0 => fun _ _ _ _ _ => none
  | k + 1 => fun F f args h n => match Γ F f with
    | some c => c f args h n
    | none => match P.funcs[f]? with
      | some fn => match fn.body with
        | some body =>
          if args.length ≤ fn.ntmps then
            match codeX P (callX Γ draw fuel lim k) (fun F' => draw F' (callX Γ draw fuel lim k F')) lim fuel F body ⟨argsT 0 args, h, n, fn.ntmps⟩ with
            | some r => r.fin P fn n F
            | none => none
          else none
        | none => none
      | none => none
end

section
variable {P : Program} {F : Facts}

/-- What a call of the symbolic machine says of the machine's. -/
def CallOk (P : Program) (F : Facts) (call : CallD) : Prop :=
  ∀ f args h n r, call f args h n = some r → ∀ ρ, F.ok ρ → ∀ m w (vs : Array Value), DV.RL m ρ args vs.toList → HeapR m ρ h w → (∀ id, n ≤ id → m.ι id = none) →
    Calls P f vs w fun e w' => ∃ v m', e = .returned v ∧ r.d.R m' ρ v ∧ HeapR m' ρ r.h w' ∧ Trans m h w m' r.h w' ∧ (∀ id, r.n ≤ id → m'.ι id = none)

theorem rep_put {m : Emb} {ρ : Env} {st st' : St} {a : Act} {w : World} (hR : Rep m ρ st a w) {dst : Option Tmp} {d : DV} {v : Value} (hd : d.R m ρ v) (h : putT st dst d = some st') :
    Rep m ρ st' (a.put dst v) w ∧ st'.heap = st.heap ∧ st'.next = st.next := by
  unfold putT at h
  cases dst with
  | none => cases h; exact ⟨hR, rfl, rfl⟩
  | some t =>
    simp only at h
    split at h
    · rename_i hlt
      cases h
      refine ⟨⟨⟨fun i e he => ?_, hR.tmps.defers⟩, by simpa [Act.put] using hR.size, hR.heap, hR.fresh⟩, rfl, rfl⟩
      rw [T.get_set] at he
      split at he
      · rename_i e1; cases he; subst e1
        exact ⟨v, by simp [Act.put, hR.size, hlt], hd⟩
      · rename_i e1
        obtain ⟨u, hu, hr⟩ := hR.tmps.get i e he
        exact ⟨u, by simp only [Act.put]; rw [Array.getElem?_setIfInBounds_ne (fun h => e1 h.symm)]; exact hu, hr⟩
    · cases h

theorem rep_mem {m m' : Emb} {ρ : Env} {st : St} {a : Act} {w w' : World} (hR : Rep m ρ st a w) {h' : T Blk} {n' : Nat} (hH : HeapR m' ρ h' w') (hm : m.le m') (hf : ∀ id, n' ≤ id → m'.ι id = none) :
    Rep m' ρ { st with heap := h', next := n' } a w' := ⟨hR.tmps.mono hm, hR.size, hH, hf⟩

theorem wantD_spec {m : Emb} {ρ : Env} (hF : F.ok ρ) {ops : Array Oper} {st : St} {a : Act} {w : World} (hR : Rep m ρ st a w) {o : Oper} {b : Bool} (h : wantD F ops st o = some b) : Region.wanted o (yielded ops a.tmps) = b := by
  unfold wantD at h
  unfold Region.wanted
  split at h
  · rename_i hg; cases h; simp [hg]
  · rename_i j want hg
    simp only [hg]
    split at h
    · rename_i t ht
      split at h
      · rename_i e he
        simp only [Option.map_eq_some_iff] at h
        obtain ⟨c, hc, rfl⟩ := h
        obtain ⟨v, hv, hr⟩ := hR.tmps.get t _ he
        simp only [DV.R] at hr
        subst hr
        have := E.dec_sound hF hc
        simp [yielded, ht, hv, this]
      · rename_i he
        cases h
        obtain ⟨v, hv, hr⟩ := hR.tmps.get t _ he
        simp only [DV.R, DV.RL] at hr
        obtain ⟨vs, rfl, _⟩ := hr
        simp [yielded, ht, hv]
      · cases h
    · cases h

theorem run_callFunc_body (w : World) (f : FuncId) (args : Array Value) (fn : Func) (hf : P.funcs[f]? = some fn) (hn : (fn.name == "runtime.NumGoroutine") = false) {c : Code} (hb : fn.body = some c) :
    (callFunc f args).run P w = .ok (.enter f args) w := by
  have h1 : fn.name ≠ "runtime.NumGoroutine" := by simpa using hn
  simp [callFunc, hf, h1, hb]

theorem ext1 (x : Value) (xs : List Value) : ((x :: xs).toArray).extract 1 ((x :: xs).toArray).size = xs.toArray := by
  apply Array.ext'
  simp

theorem ext1' {A : Array Value} {x : Value} {B : Array Value} (h : A = (x :: B.toList).toArray) : A.extract 1 A.size = B := by
  rw [h, ext1]

theorem bodyOk_run {g : FuncId} (h : bodyOk P g = true) (w : World) (args : Array Value) : (callFunc g args).run P w = .ok (.enter g args) w := by
  unfold bodyOk at h
  split at h
  · rename_i fn hfn
    simp only [Bool.and_eq_true, Bool.not_eq_true'] at h
    obtain ⟨body, hbody⟩ := Option.isSome_iff_exists.1 h.1
    exact run_callFunc_body w g args fn hfn h.2 hbody
  · cases h

theorem methodD_run {t : TypeId} {name : String} {f : FuncId} (h : methodD P t name = some f) (v : Value) (w : World) : (method (P.types.size + Made.depth) t v name).run P w = .ok (f, v) w := by
  have hn : P.types.size + Made.depth = (P.types.size + 99) + 1 := rfl
  rw [hn]
  generalize P.types.size + 99 = n
  unfold methodD at h
  split at h
  · rename_i i hi
    split at h
    · rename_i m hm
      split at h
      · rename_i hp
        have hp' : m.path.toList = [] := List.isEmpty_iff.1 hp
        split at h
        · rename_i f' e hf hu
          cases h
          simp only [method, typeInfo, Sem.run_bind, run_program, hi, hm, hp', follow, hf, receiverAt, run_underlying hu, Place.get, Sem.run_pure, Result.andThen_ok]
        · cases h
        · rename_i f' d hne hf hu
          cases h
          simp only [method, typeInfo, Sem.run_bind, run_program, hi, hm, hp', follow, hf, receiverAt, run_underlying hu, Sem.run_pure, Result.andThen_ok]
          cases d <;> simp_all [Place.get]
        · cases h
      · cases h
    · cases h
  · cases h

theorem calleeD_run {m : Emb} {ρ : Env} {t : T DV} {a : Act} (ht : TmpR m ρ t a) {o : Oper} {g : FuncId} {args : List DV} (h : calleeD P t o.op = some (g, args)) (w : World) :
    ∃ vs : Array Value, (execOp a.eval o).run P w = .ok (.enter g vs) w ∧ DV.RL m ρ args vs.toList := by
  obtain ⟨dst, op, type, pos, after, guard⟩ := o
  simp only at h
  cases op <;> simp only [calleeD, reduceCtorEq] at h
  case call c =>
    obtain ⟨callee, cargs, argTypes⟩ := c
    simp only at h
    split at h
    · rename_i f as hargs
      have hA := opds_R ht hargs
      split at h
      · rename_i g' first cap hf
        split at h
        · rename_i hb
          simp at h
          obtain ⟨rfl, rfl⟩ := h
          have hfR := opd_R ht hf
          simp only [DV.R] at hfR
          obtain ⟨x, y, hv, hx, hy⟩ := hfR
          refine ⟨x ++ cargs.map a.eval ++ y, ?_, ?_⟩
          · have hcall := bodyOk_run hb w (x ++ cargs.map a.eval ++ y)
            simp [execOp, resolve, hv, Deferred.ofValue, invoke]; simpa [Array.append_assoc] using hcall
          · simpa using (hx.append hA).append hy
        · cases h
      · rename_i name ty d r cap hf
        split at h
        · rename_i g' hg'
          split at h
          · rename_i hb
            simp at h
            obtain ⟨rfl, rfl⟩ := h
            have hfR := opd_R ht hf
            simp only [DV.R, DV.RL] at hfR
            obtain ⟨x, y, hv, ⟨u, ur, hxl, ⟨u', rfl, hd⟩, hr⟩, hy⟩ := hfR
            have hx : x = (Value.iface ty u' :: ur).toArray := by rw [← hxl]
            subst hx
            refine ⟨#[u'] ++ (ur.toArray ++ cargs.map a.eval), ?_, ?_⟩
            · have hcall := bodyOk_run hb w (#[u'] ++ (ur.toArray ++ cargs.map a.eval))
              have hm := methodD_run hg' u' w
              have he : ((Value.iface ty u' :: ur).toArray ++ cargs.map a.eval).extract 1 ((Value.iface ty u' :: ur).toArray ++ cargs.map a.eval).size = ur.toArray ++ cargs.map a.eval := ext1' (x := Value.iface ty u') (by apply Array.ext'; simp)
              have h0 : ((Value.iface ty u' :: ur).toArray ++ cargs.map a.eval)[0]? = some (Value.iface ty u') := by
                rw [Array.getElem?_append_left (by simp)]; simp
              simp only [execOp, resolve, hv, Deferred.ofValue, Sem.run_bind, Sem.run_pure, Result.andThen_ok, invoke, h0, he, callMethod, run_program, hm]
              exact hcall
            · simp only [Array.toList_append, List.cons_append, List.nil_append]
              simp only [DV.RL]
              exact ⟨u', _, rfl, hd, by simpa using hr.append hA⟩
          · cases h
        · cases h
      · cases h
    · rename_i recv name as hargs
      have hA := opds_R ht hargs
      split at h
      · rename_i ty d hf
        split at h
        · rename_i g' hg'
          split at h
          · rename_i hb
            simp at h
            obtain ⟨rfl, rfl⟩ := h
            have hfR := opd_R ht hf
            simp only [DV.R] at hfR
            obtain ⟨u', hv, hd⟩ := hfR
            refine ⟨#[u'] ++ cargs.map a.eval, ?_, ?_⟩
            · have hcall := bodyOk_run hb w (#[u'] ++ cargs.map a.eval)
              have hm := methodD_run hg' u' w
              have he : (#[Value.iface ty u'] ++ cargs.map a.eval).extract 1 (#[Value.iface ty u'] ++ cargs.map a.eval).size = cargs.map a.eval := ext1' (x := Value.iface ty u') (by apply Array.ext'; simp)
              have h0 : (#[Value.iface ty u'] ++ cargs.map a.eval)[0]? = some (Value.iface ty u') := by
                rw [Array.getElem?_append_left (by simp)]; simp
              simp only [execOp, resolve, hv, Sem.run_bind, Sem.run_pure, Result.andThen_ok, invoke, h0, he, callMethod, run_program, hm]
              exact hcall
            · simp only [Array.toList_append, List.cons_append, List.nil_append]
              simp only [DV.RL]
              exact ⟨u', _, rfl, hd, by simpa using hA⟩
          · cases h
        · cases h
      · cases h
    · cases h

end

end Go.Eng

/-
  Regions in the order of the text, code, calls: what the symbolic machine tells of them, the machine does.
-/
namespace Go.Eng

section
variable {P : Program} {F : Facts}

/-- One operation of a region, by the machine. -/
def StepPost (m : Emb) (ρ : Env) (st st' : St) (w : World) (K : Act → World → Prop) : Prop :=
  ∀ a' w' m', Rep m' ρ st' a' w' → Trans m st.heap w m' st'.heap w' → K a' w'

theorem stepX_sound {call : CallD} (hcall : CallOk P F call) {ρ : Env} (hF : F.ok ρ) {ops : Array Oper} {o : Oper} {st st' : St} (h : stepX P F call ops o st = some st') {m : Emb} {a : Act} {w : World} (hR : Rep m ρ st a w)
    {K : Act → World → Prop} {Q : Exit → Act → World → Prop} (hK : ∀ v w' m', Rep m' ρ st' (a.put o.dst v) w' → Trans m st.heap w m' st'.heap w' → K (a.put o.dst v) w') :
    if Region.wanted o (yielded ops a.tmps) then o.wp P a w K Q ∨ (o.asks P a w ∧ LetsOut Q) else K (a.put o.dst undef) w := by
  unfold stepX at h
  split at h
  · rename_i hw
    rw [wantD_spec hF hR hw]
    simp only [Bool.false_eq_true, if_false]
    obtain ⟨h1, h2, h3⟩ := rep_put hR (d := .tup []) (v := undef) (by simp [DV.R, DV.RL, undef]) h
    exact hK _ _ _ h1 (by rw [h2]; exact Trans.refl _ _ _)
  · rename_i hw
    rw [wantD_spec hF hR hw]
    simp only [if_true]
    left
    unfold Oper.wp
    split at h
    · rename_i d hd
      obtain ⟨v, hrun, hr⟩ := valD_sound hF hR.heap hR.tmps hd
      rw [hrun]
      simp only [Oper.upon]
      obtain ⟨h1, h2, h3⟩ := rep_put hR hr h
      exact hK _ _ _ h1 (by rw [h2]; exact Trans.refl _ _ _)
    · split at h
      · rename_i r hr
        obtain ⟨nx, v, w', m', hrun, hnx, hd, hH, hT, hf⟩ := memD_sound hF hR.heap hR.tmps hR.fresh hr
        rw [hrun]
        obtain ⟨h1, h2, h3⟩ := rep_put (rep_mem hR hH hT.ext hf) hd h
        rcases hnx with rfl | ⟨rfl, rfl⟩
        · simp only [Oper.upon]; exact hK _ _ _ h1 (by rw [h2]; exact hT)
        · simp only [Oper.upon]; exact hK _ _ _ h1 (by rw [h2]; exact hT)
      · split at h
        · rename_i g args hg
          split at h
          · rename_i r hr
            obtain ⟨vs, hrun, hvs⟩ := calleeD_run hR.tmps hg w
            rw [hrun]
            simp only [Oper.upon]
            refine (hcall g args st.heap st.next r hr ρ hF m w vs hvs hR.heap hR.fresh).mono fun e w' ⟨v, m', he, hd, hH, hT, hf⟩ => ?_
            subst he
            obtain ⟨h1, h2, h3⟩ := rep_put (rep_mem hR hH hT.ext hf) hd h
            exact hK _ _ _ h1 (by rw [h2]; exact hT)
          · cases h
        · cases h
  · cases h

theorem opsX_sound {call : CallD} (hcall : CallOk P F call) {ρ : Env} (hF : F.ok ρ) {ops : Array Oper} {Q : Exit → Act → World → Prop} :
    ∀ (l : List Nat) {st st' : St}, opsX P F call ops l st = some st' → ∀ {m : Emb} {a : Act} {w : World}, Rep m ρ st a w → StepPost m ρ st st' w (Q .normal) → wpOps P ops Q l a w
  | [], st, st', h, m, a, w, hR, hK => by
    simp [opsX] at h; subst h
    simp only [wpOps]
    exact hK _ _ _ hR (Trans.refl _ _ _)
  | i :: r, st, st', h, m, a, w, hR, hK => by
    simp only [opsX] at h
    simp only [wpOps]
    split at h
    · rename_i ho; simp only [ho]; exact opsX_sound hcall hF r h hR hK
    · rename_i o ho
      simp only [ho]
      split at h
      · rename_i st1 h1
        exact stepX_sound hcall hF h1 hR fun v w' m' hR' hT => opsX_sound hcall hF r h hR' fun a2 w2 m2 hR2 hT2 => hK _ _ _ hR2 (hT.trans hT2)
      · cases h

/-- What a region that draws its order is told to do. -/
def DrawOk (P : Program) (F : Facts) (draw : Array Oper → St → Option St) : Prop :=
  ∀ ops st st', draw ops st = some st' → ∀ ρ, F.ok ρ → ∀ m a w, Rep m ρ st a w → ∀ (id : Nat) (Q : Exit → Act → World → Prop), StepPost m ρ st st' w (Q .normal) → (Code.region id ops true).wp P Q a w

/-- What is asked of each end. -/
def CR.Post (m : Emb) (ρ : Env) (st : St) (w : World) (Q : Exit → Act → World → Prop) : CR → Prop
  | .leaf x st' => StepPost m ρ st st' w (Q x.to)
  | .node e a b => ((e.ev ρ).bool = true → CR.Post m ρ st w Q a) ∧ ((e.ev ρ).bool = false → CR.Post m ρ st w Q b)

theorem CR.Post.shift {m m1 : Emb} {ρ : Env} {st st1 : St} {w w1 : World} {Q : Exit → Act → World → Prop} (hT : Trans m st.heap w m1 st1.heap w1) : ∀ {r : CR}, r.Post m ρ st w Q → r.Post m1 ρ st1 w1 Q
  | .leaf _ _, h => fun a' w' m' hR hT' => h a' w' m' hR (hT.trans hT')
  | .node _ _ _, h => ⟨fun hc => CR.Post.shift hT (h.1 hc), fun hc => CR.Post.shift hT (h.2 hc)⟩

theorem mkCR_post {F : Facts} {ρ : Env} (hF : F.ok ρ) {e : E} {n0 : Nat} {a b : CR} {m : Emb} {st : St} {w : World} {Q : Exit → Act → World → Prop} (h : (mkCR F e n0 a b).Post m ρ st w Q) :
    ((e.ev ρ).bool = true → a.Post m ρ st w Q) ∧ ((e.ev ρ).bool = false → b.Post m ρ st w Q) := by
  unfold mkCR at h
  split at h
  · rename_i x s y t
    split at h
    · rename_i e1
      subst e1
      split at h
      · rename_i z hz
        refine ⟨fun hc a' w' m' hR hT => ?_, fun hc a' w' m' hR hT => ?_⟩
        · obtain ⟨g1, g2⟩ := (mergeSt_ok (m := m') hF hz).1 hc
          exact h a' w' m' (g1 hR) ⟨hT.ext, hT.size, hT.frame, fun b hb => hT.fp b (g2 b hb), hT.tape, hT.os, hT.output⟩
        · obtain ⟨g1, g2⟩ := (mergeSt_ok (m := m') hF hz).2 hc
          exact h a' w' m' (g1 hR) ⟨hT.ext, hT.size, hT.frame, fun b hb => hT.fp b (g2 b hb), hT.tape, hT.os, hT.output⟩
      · exact h
    · exact h
  · exact h

theorem CR.bind_post {S : Env → Prop} {ρ : Env} {n0 : Nat} {k : Facts → St → Option CR} {m : Emb} {st : St} {w : World} {Q : Exit → Act → World → Prop} {K : Act → World → Prop}
    (hk : ∀ F' st1 r1, F'.sem = S → F'.ok ρ → k F' st1 = some r1 → ∀ m1 a1 w1, Rep m1 ρ st1 a1 w1 → r1.Post m1 ρ st1 w1 Q → K a1 w1) :
    ∀ {r r' : CR} {F : Facts}, F.sem = S → F.ok ρ → CR.bind n0 k F r = some r' → r'.Post m ρ st w Q → r.Post m ρ st w (Exit.then K Q)
  | .leaf x st1, r', F, hS, hF, h, hp => by
    cases x with
    | norm =>
      simp only [CR.bind] at h
      exact fun a1 w1 m1 hR hT => hk F st1 r' hS hF h m1 a1 w1 hR (hp.shift hT)
    | exit id => simp only [CR.bind] at h; cases h; exact hp
    | ret => simp only [CR.bind] at h; cases h; exact hp
  | .node e a b, r', F, hS, hF, h, hp => by
    simp only [CR.bind] at h
    split at h
    · rename_i x y hx hy
      cases h
      obtain ⟨h1, h2⟩ := mkCR_post hF hp
      exact ⟨fun hc => CR.bind_post hk ((Facts.cons_sem F e true).trans hS) (facts_cons hF hc) hx (h1 hc), fun hc => CR.bind_post hk ((Facts.cons_sem F e false).trans hS) (facts_cons hF hc) hy (h2 hc)⟩
    · cases h

theorem CR.out_post {ρ : Env} {n0 id : Nat} {m : Emb} {st : St} {w : World} {Q : Exit → Act → World → Prop} : ∀ {r : CR} {F : Facts}, F.ok ρ → (CR.out n0 id F r).Post m ρ st w Q → r.Post m ρ st w (Exit.inBlock id Q)
  | .leaf x st1, F, hF, h => by
    cases x with
    | norm => exact h
    | ret => exact h
    | exit id' =>
      simp only [CR.out] at h
      intro a1 w1 m1 hR hT
      simp only [Ex.to, Exit.inBlock]
      split at h
      · rename_i e; simp only [e, if_true]; exact h a1 w1 m1 hR hT
      · rename_i e; simp only [e, if_false]; exact h a1 w1 m1 hR hT
  | .node e a b, F, hF, h => by
    simp only [CR.out] at h
    obtain ⟨h1, h2⟩ := mkCR_post hF h
    exact ⟨fun hc => CR.out_post (facts_cons hF hc) (h1 hc), fun hc => CR.out_post (facts_cons hF hc) (h2 hc)⟩

theorem codeX_both {S : Env → Prop} {callF : Facts → CallD} (hcall : ∀ F, F.sem = S → CallOk P F (callF F)) {drawF : Facts → Array Oper → St → Option St} (hdraw : ∀ F, F.sem = S → DrawOk P F (drawF F)) (lim : Nat) {ρ : Env} :
    ∀ (n : Nat),
      (∀ {F : Facts} {c : Code} {st : St} {r : CR}, F.sem = S → F.ok ρ → codeX P callF drawF lim n F c st = some r → ∀ {m : Emb} {a : Act} {w : World}, Rep m ρ st a w → ∀ {Q : Exit → Act → World → Prop}, r.Post m ρ st w Q → c.wp P Q a w) ∧
      (∀ {F : Facts} {b : Code} {st : St} {r : CR}, F.sem = S → F.ok ρ → codeX P callF drawF lim n F (.loop b) st = some r → ∀ {m : Emb} {a : Act} {w : World}, Rep m ρ st a w → ∀ {Q : Exit → Act → World → Prop}, r.Post m ρ st w Q → Code.rounds P b Q n a w) := by
  intro n
  induction n with
  | zero => exact ⟨fun _ _ h => by simp [codeX] at h, fun _ _ h => by simp [codeX] at h⟩
  | succ n ihn =>
    obtain ⟨ih, ihl⟩ := ihn
    have B : ∀ {F : Facts} {b : Code} {st : St} {r : CR}, F.sem = S → F.ok ρ → codeX P callF drawF lim (n + 1) F (.loop b) st = some r → ∀ {m : Emb} {a : Act} {w : World}, Rep m ρ st a w → ∀ {Q : Exit → Act → World → Prop}, r.Post m ρ st w Q → Code.rounds P b Q (n + 1) a w := by
      intro F b st r hS hF h m a w hR Q hK
      simp only [codeX] at h
      rw [rounds_succ]
      split at h
      · rename_i r1 h1
        exact ih hS hF h1 hR (CR.bind_post (S := S) (fun F' st1 r2 hS' hF' h2 m1 a1 w1 hR1 hp => ihl hS' hF' h2 hR1 hp) hS hF h hK)
      · cases h
    refine ⟨?_, B⟩
    intro F c st r hS hF h m a w hR Q hK
    by_cases hl : ∃ b, c = .loop b
    · obtain ⟨b, rfl⟩ := hl
      exact wp_loop_rounds (n + 1) (B hS hF h hR hK)
    cases c <;> simp only [codeX, reduceCtorEq] at h
    case loop b => exact absurd ⟨b, rfl⟩ hl
    case skip => cases h; exact wp_skip (hK _ _ _ hR (Trans.refl _ _ _))
    case label l => cases h; exact wp_label (hK _ _ _ hR (Trans.refl _ _ _))
    case exit id => cases h; exact wp_exit (hK _ _ _ hR (Trans.refl _ _ _))
    case ret => cases h; exact wp_ret (hK _ _ _ hR (Trans.refl _ _ _))
    case region id ops dr =>
      split at h
      · rename_i st1 h1
        cases h
        cases dr with
        | false => exact wp_region (opsX_sound (hcall F hS) hF _ h1 hR hK)
        | true => exact hdraw F hS ops st st1 h1 ρ hF m a w hR id Q hK
      · split at h
        · split at h
          · rename_i e he
            split at h
            · rename_i x y hx hy
              cases h
              obtain ⟨h1, h2⟩ := mkCR_post hF hK
              cases hv : (e.ev ρ).bool with
              | true => exact ih ((Facts.cons_sem F e true).trans hS) (facts_cons hF hv) hx hR (h1 hv)
              | false => exact ih ((Facts.cons_sem F e false).trans hS) (facts_cons hF hv) hy hR (h2 hv)
            · cases h
          · cases h
        · cases h
    case seq c1 c2 =>
      split at h
      · rename_i r1 h1
        exact wp_seq (ih hS hF h1 hR (CR.bind_post (S := S) (fun F' st1 r2 hS' hF' h2 m1 a1 w1 hR1 hp => ih hS' hF' h2 hR1 hp) hS hF h hK))
      · cases h
    case cond e0 c1 c2 =>
      split at h
      · rename_i e he
        have hc := opd_R hR.tmps he
        simp only [DV.R] at hc
        split at h
        · rename_i hd
          have := E.dec_sound hF hd
          rw [this] at hc
          exact wp_cond_true hc (ih hS hF h hR hK)
        · rename_i hd
          have := E.dec_sound hF hd
          rw [this] at hc
          exact wp_cond_false hc (ih hS hF h hR hK)
        · split at h
          · split at h
            · rename_i x y hx hy
              cases h
              obtain ⟨h1, h2⟩ := mkCR_post hF hK
              cases hv : (e.ev ρ).bool with
              | true => rw [hv] at hc; exact wp_cond_true hc (ih ((Facts.cons_sem F e true).trans hS) (facts_cons hF hv) hx hR (h1 hv))
              | false => rw [hv] at hc; exact wp_cond_false hc (ih ((Facts.cons_sem F e false).trans hS) (facts_cons hF hv) hy hR (h2 hv))
            · cases h
          · cases h
      · cases h
    case block id b =>
      simp only [Option.map_eq_some_iff] at h
      obtain ⟨r1, h1, rfl⟩ := h
      exact wp_block (ih hS hF h1 hR (CR.out_post hF hK))

theorem codeX_sound {S : Env → Prop} {callF : Facts → CallD} (hcall : ∀ F, F.sem = S → CallOk P F (callF F)) {drawF : Facts → Array Oper → St → Option St} (hdraw : ∀ F, F.sem = S → DrawOk P F (drawF F)) {lim : Nat} {ρ : Env}
    (n : Nat) {F : Facts} (hS : F.sem = S) (hF : F.ok ρ) {c : Code} {st : St} {r : CR} (h : codeX P callF drawF lim n F c st = some r) {m : Emb} {a : Act} {w : World} (hR : Rep m ρ st a w) {Q : Exit → Act → World → Prop} (hK : r.Post m ρ st w Q) : c.wp P Q a w :=
  (codeX_both hcall hdraw lim n).1 hS hF h hR hK

end

end Go.Eng

/-
  Calls: what the symbolic machine tells of a call, the machine does.
-/
namespace Go.Eng

section
variable {P : Program} {F : Facts}

theorem argsT_get : ∀ (args : List DV) (i k : Nat), (argsT i args).get k = if i ≤ k then args[k - i]? else none
  | [], i, k => by simp [argsT]
  | d :: r, i, k => by
    simp only [argsT, T.get_set, argsT_get r (i + 1) k]
    by_cases h : k = i
    · subst h; simp
    · rw [if_neg h]
      by_cases h1 : i + 1 ≤ k
      · rw [if_pos h1, if_pos (by omega)]
        rw [show k - i = (k - (i + 1)) + 1 by omega, List.getElem?_cons_succ]
      · rw [if_neg h1, if_neg (by omega)]

theorem rep_args {m : Emb} {ρ : Env} {args : List DV} {vs : Array Value} (hvs : DV.RL m ρ args vs.toList) {h : T Blk} {n k : Nat} {w : World} (hH : HeapR m ρ h w) (hf : ∀ id, n ≤ id → m.ι id = none) (hk : args.length ≤ k) :
    Rep m ρ ⟨argsT 0 args, h, n, k⟩ { tmps := vs ++ Array.replicate (k - vs.size) undef, defers := [] } w := by
  have hl := hvs.length
  simp at hl
  refine ⟨⟨fun i d hd => ?_, rfl⟩, by simp; omega, hH, hf⟩
  rw [argsT_get] at hd
  simp at hd
  obtain ⟨v, hv, hr⟩ := hvs.get hd
  refine ⟨v, ?_, hr⟩
  have hv' : vs[i]? = some v := by simpa using hv
  have hlt := (Array.getElem?_eq_some_iff.1 hv').1
  rw [Array.getElem?_append_left hlt]; exact hv'

def resSem (tmps : Array Value) : ResultVar → Sem Value
  | .tmp t => pure (tmps.getD t undef)
  | .cell a t => do loadVar t (← asAddr (tmps.getD a undef))

theorem results_eq (fn : Func) (tmps : Array Value) : results fn tmps = (do let vs ← fn.results.mapM (resSem tmps); pure (if h : vs.size = 1 then vs[0] else .tuple vs)) := rfl

theorem resD_run {m : Emb} {ρ : Env} (hF : F.ok ρ) {st : St} {a : Act} {w : World} (hR : Rep m ρ st a w) : ∀ {l : List ResultVar} {ds : List DV}, l.mapM (resD P F st) = some ds →
    ∃ vs : List Value, (l.mapM (resSem a.tmps)).run P w = .ok vs w ∧ DV.RL m ρ ds vs
  | [], ds, h => by simp at h; subst h; exact ⟨[], by simp, by simp [DV.RL]⟩
  | x :: l, ds, h => by
    simp only [List.mapM_cons, Option.bind_eq_bind, Option.pure_def, Option.bind_eq_some_iff] at h
    obtain ⟨d, hd, rs, hr, he⟩ := h
    simp at he; subst he
    obtain ⟨vs, hvs, hrl⟩ := resD_run hF hR hr
    cases x with
    | tmp t =>
      simp only [resD] at hd
      obtain ⟨v, hv, hrv⟩ := hR.tmps.get t d hd
      refine ⟨v :: vs, ?_, by simp only [DV.RL]; exact ⟨v, vs, rfl, hrv, hrl⟩⟩
      have hone : (resSem a.tmps (.tmp t)).run P w = .ok v w := by simp [resSem, Array.getD_eq_getD_getElem?, hv]
      simp only [List.mapM_cons, Sem.run_bind, hone, Sem.run_pure, Result.andThen_ok, hvs]
    | cell b t =>
      simp only [resD] at hd
      split at hd
      · rename_i p hp
        obtain ⟨pv, hpv, hpr⟩ := hR.tmps.get b p hp
        obtain ⟨v, hv, hrv⟩ := loadD_sound (P := P) hF hR.heap hd hpr
        refine ⟨v :: vs, ?_, by simp only [DV.RL]; exact ⟨v, vs, rfl, hrv, hrl⟩⟩
        have hload : (resSem a.tmps (.cell b t)).run P w = .ok v w := by
          simp only [resSem, Array.getD_eq_getD_getElem?, hpv, Option.getD_some]
          -- the address is one
          have hp' : ∃ aa, pv = .pointer (some aa) := by
            unfold loadD at hd
            split at hd
            · simp only [DV.R] at hpr; obtain ⟨b', _, rfl⟩ := hpr; exact ⟨_, rfl⟩
            · cases hd
          obtain ⟨aa, rfl⟩ := hp'
          simpa [Instr.loadAt, Instr.sureAddr, asAddr] using hv
        simp only [List.mapM_cons, Sem.run_bind, hload, Result.andThen_ok, hvs, Sem.run_pure]
      · cases hd

theorem resultsD_run {m : Emb} {ρ : Env} (hF : F.ok ρ) {fn : Func} {st : St} {d : DV} (h : resultsD P F fn st = some d) {a : Act} {w : World} (hR : Rep m ρ st a w) : ∃ v, (results fn a.tmps).run P w = .ok v w ∧ d.R m ρ v := by
  unfold resultsD at h
  have key : ∀ {ds : List DV}, fn.results.toList.mapM (resD P F st) = some ds → ∃ vs : Array Value, (results fn a.tmps).run P w = .ok (if h : vs.size = 1 then vs[0] else .tuple vs) w ∧ DV.RL m ρ ds vs.toList := by
    intro ds hds
    obtain ⟨vs, hvs, hrl⟩ := resD_run hF hR hds
    refine ⟨vs.toArray, ?_, by simpa using hrl⟩
    rw [results_eq, Array.mapM_eq_mapM_toList]
    simp [hvs]
  split at h
  · rename_i d' hds
    cases h
    obtain ⟨vs, hrun, hrl⟩ := key hds
    simp only [DV.RL] at hrl
    obtain ⟨v, vr, he, hr, rfl⟩ := hrl
    have hvs : vs = #[v] := Array.toList_inj.1 (by simpa using he)
    subst hvs
    exact ⟨v, by simpa using hrun, hr⟩
  · rename_i ds hne hds
    cases h
    obtain ⟨vs, hrun, hrl⟩ := key hds
    have hl := hrl.length
    have hn : vs.size ≠ 1 := by
      intro hc
      have : ds.length = 1 := by simpa [hc] using hl.symm
      match ds, this with
      | [x], _ => exact hne x rfl
    refine ⟨.tuple vs, by rw [hrun]; simp [hn], ?_⟩
    simp only [DV.R]; exact ⟨vs, rfl, hrl⟩
  · cases h

theorem mergeOut_ok {ρ : Env} (hF : F.ok ρ) {e : E} {n0 : Nat} {x y o : Out} (h : mergeOut F e n0 x y = some o) {m m' : Emb} {h0 : T Blk} {w w' : World} {v : Value} :
    ((e.ev ρ).bool = true → x.d.R m' ρ v → HeapR m' ρ x.h w' → Trans m h0 w m' x.h w' → (∀ id, x.n ≤ id → m'.ι id = none) → o.d.R m' ρ v ∧ HeapR m' ρ o.h w' ∧ Trans m h0 w m' o.h w' ∧ ∀ id, o.n ≤ id → m'.ι id = none) ∧
    ((e.ev ρ).bool = false → y.d.R m' ρ v → HeapR m' ρ y.h w' → Trans m h0 w m' y.h w' → (∀ id, y.n ≤ id → m'.ι id = none) → o.d.R m' ρ v ∧ HeapR m' ρ o.h w' ∧ Trans m h0 w m' o.h w' ∧ ∀ id, o.n ≤ id → m'.ι id = none) := by
  unfold mergeOut at h
  split at h
  · rename_i d hh hd hhh
    cases h
    have h1 := mergeD_ok (m := m') (v := v) hF hd
    have h2 := mergeH_ok (m := m') hF hhh
    refine ⟨fun hc g1 g2 g3 g4 => ⟨h1.1 hc g1, (h2.1 hc).1 g2, ⟨g3.ext, g3.size, g3.frame, fun b hb => g3.fp b ((h2.1 hc).2 b hb), g3.tape, g3.os, g3.output⟩, fun id hid => g4 id (by simp only at hid; omega)⟩,
      fun hc g1 g2 g3 g4 => ⟨h1.2 hc g1, (h2.2 hc).1 g2, ⟨g3.ext, g3.size, g3.frame, fun b hb => g3.fp b ((h2.2 hc).2 b hb), g3.tape, g3.os, g3.output⟩, fun id hid => g4 id (by simp only at hid; omega)⟩⟩
  · cases h

theorem CR.fin_post {fn : Func} {n0 : Nat} {ρ : Env} {m : Emb} {st0 : St} {w : World} {R : Ending → World → Prop} : ∀ {r : CR} {F : Facts} {o : Out}, F.ok ρ → r.fin P fn n0 F = some o →
    (∀ v m' w', o.d.R m' ρ v → HeapR m' ρ o.h w' → Trans m st0.heap w m' o.h w' → (∀ id, o.n ≤ id → m'.ι id = none) → R (.returned v) w') → r.Post m ρ st0 w (bodyPost P fn R)
  | .leaf x st, F, o, hF, h, hR => by
    have key : (resultsD P F fn st).map (fun d => (⟨d, st.heap, st.next⟩ : Out)) = some o → ∀ a' w' m', Rep m' ρ st a' w' → Trans m st0.heap w m' st.heap w' → a'.defers = [] ∧ ∃ v, (results fn a'.tmps).run P w' = .ok v w' ∧ R (.returned v) w' := by
      intro h a' w' m' hR' hT'
      simp only [Option.map_eq_some_iff] at h
      obtain ⟨d, hd, rfl⟩ := h
      obtain ⟨v, hv, hrv⟩ := resultsD_run (P := P) hF hd hR'
      exact ⟨hR'.tmps.defers, v, hv, hR v m' w' hrv hR'.heap hT' hR'.fresh⟩
    cases x with
    | norm => simp only [CR.fin] at h; exact key h
    | ret => simp only [CR.fin] at h; exact key h
    | exit id => simp [CR.fin] at h
  | .node e a b, F, o, hF, h, hR => by
    simp only [CR.fin] at h
    split at h
    · rename_i x y hx hy
      refine ⟨fun hc => CR.fin_post (facts_cons hF hc) hx fun v m' w' g1 g2 g3 g4 => ?_, fun hc => CR.fin_post (facts_cons hF hc) hy fun v m' w' g1 g2 g3 g4 => ?_⟩
      · obtain ⟨q1, q2, q3, q4⟩ := (mergeOut_ok hF h).1 hc g1 g2 g3 g4
        exact hR v m' w' q1 q2 q3 q4
      · obtain ⟨q1, q2, q3, q4⟩ := (mergeOut_ok hF h).2 hc g1 g2 g3 g4
        exact hR v m' w' q1 q2 q3 q4
    · cases h

theorem callX_sound {S : Env → Prop} {Γ : Facts → FuncId → Option CallD} (hΓ : ∀ F : Facts, F.sem = S → ∀ f c, Γ F f = some c → ∀ args h n r, c f args h n = some r → ∀ ρ, F.ok ρ → ∀ m w (vs : Array Value), DV.RL m ρ args vs.toList → HeapR m ρ h w → (∀ id, n ≤ id → m.ι id = none) →
      Calls P f vs w fun e w' => ∃ v m', e = .returned v ∧ r.d.R m' ρ v ∧ HeapR m' ρ r.h w' ∧ Trans m h w m' r.h w' ∧ (∀ id, r.n ≤ id → m'.ι id = none))
    {draw : Facts → CallD → Array Oper → St → Option St} (hdraw : ∀ F, F.sem = S → ∀ call, CallOk P F call → DrawOk P F (draw F call)) (fuel lim : Nat) : ∀ k F, F.sem = S → CallOk P F (callX P Γ draw fuel lim k F) := by
  intro k
  induction k with
  | zero => intro F hS f args h n r hr; simp [callX] at hr
  | succ k ih =>
    intro F hS f args h n r hr ρ hF m w vs hvs hH hf
    simp only [callX] at hr
    split at hr
    · rename_i c hc
      exact hΓ F hS f c hc args h n r hr ρ hF m w vs hvs hH hf
    · split at hr
      · rename_i fn hfn
        split at hr
        · rename_i body hbody
          split at hr
          · rename_i hlen
            have hl := hvs.length
            simp at hl
            split at hr
            · rename_i cr hcode
              refine calls_of_wp hfn hbody (codeX_sound (S := S) ih (fun F' hS' => hdraw F' hS' _ (ih F' hS')) fuel hS hF hcode (rep_args hvs hH hf hlen) (CR.fin_post hF hr fun v m' w' g1 g2 g3 g4 => ?_))
              exact ⟨v, m', rfl, g1, g2, g3, g4⟩
            · cases hr
          · cases hr
        · cases hr
      · cases hr

end

end Go.Eng
