/-
  Regions in the order of the text, code, calls.
-/
import Derived.Test.YtgielkefgliiiaaEngLF
import Derived.Test.YtgielkefgliiiaaEngMG
import Derived.Deep.Draws
namespace Go.Eng

abbrev CallD := FuncId → List DV → T Blk → Nat → Option Out

section
variable (P : Program) (F : Facts)

def wantD (ops : Array Oper) (st : St) (o : Oper) : Option Bool :=
  match o.guard with
  | none => some true
  | some (j, want) => match (ops[j]?).bind (·.dst) with
    | some t => match st.tmps.get t with
      | some (.bool e) => (e.dec F).map (· == want)
      | some (.tup []) => some false
      | _ => none
    | none => none

def putT (st : St) (dst : Option Tmp) (d : DV) : Option St :=
  match dst with
  | none => some st
  | some t => if t < st.sz then some { st with tmps := st.tmps.set t d } else none

def bodyOk (g : FuncId) : Bool := match P.funcs[g]? with
  | some fn => fn.body.isSome && !(fn.name == "runtime.NumGoroutine")
  | none => false

/-- Which function is called with what. -/
def calleeD (t : T DV) : Op → Option (FuncId × List DV)
  | .call c => match c.callee, c.args.toList.mapM (opd t) with
    | .value f, some as => match opd t f with
      | some (.fn (.func g) first cap) => if bodyOk P g then some (g, first ++ as ++ cap) else none
      | some (.fn (.method name) (.ifc ty d :: r) _) => match methodD P ty name with
        | some g => if bodyOk P g then some (g, d :: (r ++ as)) else none
        | none => none
      | _ => none
    | .invoke recv name, some as => match opd t recv with
      | some (.ifc ty d) => match methodD P ty name with
        | some g => if bodyOk P g then some (g, d :: as) else none
        | none => none
      | _ => none
    | _, _ => none
  | _ => none

def stepX (call : CallD) (ops : Array Oper) (o : Oper) (st : St) : Option St :=
  match wantD F ops st o with
  | some false => putT st o.dst (.tup [])
  | some true => match valD P F st.heap st.tmps o.op with
    | some d => putT st o.dst d
    | none => match memD P F st.heap st.next st.tmps o.op with
      | some r => putT { st with heap := r.h, next := r.n } o.dst r.d
      | none => match calleeD P st.tmps o.op with
        | some (g, args) => match call g args st.heap st.next with
          | some r => putT { st with heap := r.h, next := r.n } o.dst r.d
          | none => none
        | none => none
  | none => none

def opsX (call : CallD) (ops : Array Oper) : List Nat → St → Option St
  | [], st => some st
  | i :: r, st => match ops[i]? with
    | none => opsX call ops r st
    | some o => match stepX P F call ops o st with
      | some st' => opsX call ops r st'
      | none => none

inductive Ex where
  | norm | exit (id : Nat) | ret
  deriving DecidableEq

def Ex.to : Ex → Exit
  | .norm => .normal
  | .exit id => .exit id
  | .ret => .ret

def argsT : Nat → List DV → T DV
  | _, [] => .nil
  | i, d :: r => (argsT (i + 1) r).set i d

def resD (st : St) : ResultVar → Option DV
  | .tmp t => st.tmps.get t
  | .cell a ty => match st.tmps.get a with
    | some p => loadD P F st.heap ty p
    | none => none

def resultsD (fn : Func) (st : St) : Option DV :=
  match fn.results.toList.mapM (resD P F st) with
  | some [d] => some d
  | some ds => some (.tup ds)
  | none => none

end

/-- How a code ends: by tests that are not decided. -/
inductive CR where
  | leaf (x : Ex) (st : St)
  | node (e : E) (a b : CR)

/-- Two ends that a test tells apart: made one, where they may be. -/
def mkCR (F : Facts) (e : E) (n0 : Nat) (a b : CR) : CR := match a, b with
  | .leaf x s, .leaf y t => if x = y then (match mergeSt F e n0 s t with | some z => .leaf x z | none => .node e (.leaf x s) (.leaf y t)) else .node e (.leaf x s) (.leaf y t)
  | a, b => .node e a b

def CR.bind (n0 : Nat) (k : Facts → St → Option CR) : Facts → CR → Option CR
  | F, .leaf .norm st => k F st
  | _, .leaf x st => some (.leaf x st)
  | F, .node e a b => match CR.bind n0 k (F.cons e true) a, CR.bind n0 k (F.cons e false) b with
    | some x, some y => some (mkCR F e n0 x y)
    | _, _ => none

/-- At the end of a block. -/
def CR.out (n0 : Nat) (id : Nat) : Facts → CR → CR
  | _, .leaf (.exit id') st => if id' = id then .leaf .norm st else .leaf (.exit id') st
  | _, .leaf x st => .leaf x st
  | F, .node e a b => mkCR F e n0 (CR.out n0 id (F.cons e true) a) (CR.out n0 id (F.cons e false) b)

section
variable (P : Program) (callF : Facts → CallD) (drawF : Facts → Array Oper → St → Option St) (lim : Nat)

def codeX : Nat → Facts → Code → St → Option CR
  | 0, _, _, _ => none
  | n + 1, F, c, st => match c with
    | .skip => some (.leaf .norm st)
    | .label _ => some (.leaf .norm st)
    | .region _ ops false => (opsX P F (callF F) ops (List.range ops.size) st).map fun st' => .leaf .norm st'
    | .region _ ops true => (drawF F ops st).map fun st' => .leaf .norm st'
    | .seq a b => match codeX n F a st with
      | some r => CR.bind st.next (fun F' st' => codeX n F' b st') F r
      | none => none
    | .cond c a b => match opd st.tmps c with
      | some (.bool e) => match e.dec F with
        | some true => codeX n F a st
        | some false => codeX n F b st
        | none => if F.conds.length < lim then (match codeX n (F.cons e true) a st, codeX n (F.cons e false) b st with
          | some x, some y => some (mkCR F e st.next x y)
          | _, _ => none) else none
      | _ => none
    | .block id b => (codeX n F b st).map fun r => CR.out st.next id F r
    | .loop b => match codeX n F b st with
      | some r => CR.bind st.next (fun F' st' => codeX n F' (.loop b) st') F r
      | none => none
    | .exit id => some (.leaf (.exit id) st)
    | .ret => some (.leaf .ret st)
    | _ => none

def mergeOut (F : Facts) (e : E) (n0 : Nat) (x y : Out) : Option Out := match mergeD F e x.d y.d, mergeH F e n0 x.h y.h with
  | some d, some h => some ⟨d, h, max x.n y.n⟩
  | _, _ => none

/-- What a call answers. -/
def CR.fin (fn : Func) (n0 : Nat) : Facts → CR → Option Out
  | _, .leaf (.exit _) _ => none
  | F, .leaf _ st => (resultsD P F fn st).map fun d => ⟨d, st.heap, st.next⟩
  | F, .node e a b => match CR.fin fn n0 (F.cons e true) a, CR.fin fn n0 (F.cons e false) b with
    | some x, some y => mergeOut F e n0 x y
    | _, _ => none

def callX (Γ : Facts → FuncId → Option CallD) (draw : Facts → CallD → Array Oper → St → Option St) (fuel lim : Nat) : Nat → Facts → CallD
  | 0 => fun _ _ _ _ _ => none
  | k + 1 => fun F f args h n => match Γ F f with
    | some c => c f args h n
    | none => match P.funcs[f]? with
      | some fn => match fn.body with
        | some body =>
          if args.length ≤ fn.ntmps then
            match codeX P (callX Γ draw fuel lim k) (fun F' => draw F' (callX Γ draw fuel lim k F')) lim fuel F body ⟨argsT 0 args, h, n, fn.ntmps⟩ with
            | some r => r.fin P fn n F
            | none => none
          else none
        | none => none
      | none => none
end

section
variable {P : Program} {F : Facts}

/-- What a call of the symbolic machine says of the machine's. -/
def CallOk (P : Program) (F : Facts) (call : CallD) : Prop :=
  ∀ f args h n r, call f args h n = some r → ∀ ρ, F.ok ρ → ∀ m w (vs : Array Value), DV.RL m ρ args vs.toList → HeapR m ρ h w → (∀ id, n ≤ id → m.ι id = none) →
    Calls P f vs w fun e w' => ∃ v m', e = .returned v ∧ r.d.R m' ρ v ∧ HeapR m' ρ r.h w' ∧ Trans m h w m' r.h w' ∧ (∀ id, r.n ≤ id → m'.ι id = none)

theorem rep_put {m : Emb} {ρ : Env} {st st' : St} {a : Act} {w : World} (hR : Rep m ρ st a w) {dst : Option Tmp} {d : DV} {v : Value} (hd : d.R m ρ v) (h : putT st dst d = some st') :
    Rep m ρ st' (a.put dst v) w ∧ st'.heap = st.heap ∧ st'.next = st.next := by
  unfold putT at h
  cases dst with
  | none => cases h; exact ⟨hR, rfl, rfl⟩
  | some t =>
    simp only at h
    split at h
    · rename_i hlt
      cases h
      refine ⟨⟨⟨fun i e he => ?_, hR.tmps.defers⟩, by simpa [Act.put] using hR.size, hR.heap, hR.fresh⟩, rfl, rfl⟩
      rw [T.get_set] at he
      split at he
      · rename_i e1; cases he; subst e1
        exact ⟨v, by simp [Act.put, Array.getElem?_setIfInBounds, hR.size, hlt], hd⟩
      · rename_i e1
        obtain ⟨u, hu, hr⟩ := hR.tmps.get i e he
        exact ⟨u, by simp only [Act.put]; rw [Array.getElem?_setIfInBounds_ne (fun h => e1 h.symm)]; exact hu, hr⟩
    · cases h

theorem rep_mem {m m' : Emb} {ρ : Env} {st : St} {a : Act} {w w' : World} (hR : Rep m ρ st a w) {h' : T Blk} {n' : Nat} (hH : HeapR m' ρ h' w') (hm : m.le m') (hf : ∀ id, n' ≤ id → m'.ι id = none) :
    Rep m' ρ { st with heap := h', next := n' } a w' := ⟨hR.tmps.mono hm, hR.size, hH, hf⟩

theorem wantD_spec {m : Emb} {ρ : Env} (hF : F.ok ρ) {ops : Array Oper} {st : St} {a : Act} {w : World} (hR : Rep m ρ st a w) {o : Oper} {b : Bool} (h : wantD F ops st o = some b) : Region.wanted o (yielded ops a.tmps) = b := by
  unfold wantD at h
  unfold Region.wanted
  split at h
  · rename_i hg; cases h; simp [hg]
  · rename_i j want hg
    simp only [hg]
    split at h
    · rename_i t ht
      split at h
      · rename_i e he
        simp only [Option.map_eq_some_iff] at h
        obtain ⟨c, hc, rfl⟩ := h
        obtain ⟨v, hv, hr⟩ := hR.tmps.get t _ he
        simp only [DV.R] at hr
        subst hr
        have := E.dec_sound hF hc
        simp [yielded, ht, hv, this]
      · rename_i he
        cases h
        obtain ⟨v, hv, hr⟩ := hR.tmps.get t _ he
        simp only [DV.R, DV.RL] at hr
        obtain ⟨vs, rfl, _⟩ := hr
        simp [yielded, ht, hv]
      · cases h
    · cases h

theorem run_callFunc_body (w : World) (f : FuncId) (args : Array Value) (fn : Func) (hf : P.funcs[f]? = some fn) (hn : (fn.name == "runtime.NumGoroutine") = false) {c : Code} (hb : fn.body = some c) :
    (callFunc f args).run P w = .ok (.enter f args) w := by
  have h1 : fn.name ≠ "runtime.NumGoroutine" := by simpa using hn
  simp [callFunc, hf, h1, hb]

theorem ext1 (x : Value) (xs : List Value) : ((x :: xs).toArray).extract 1 ((x :: xs).toArray).size = xs.toArray := by
  apply Array.ext'
  simp

theorem ext1' {A : Array Value} {x : Value} {B : Array Value} (h : A = (x :: B.toList).toArray) : A.extract 1 A.size = B := by
  rw [h, ext1]

theorem bodyOk_run {g : FuncId} (h : bodyOk P g = true) (w : World) (args : Array Value) : (callFunc g args).run P w = .ok (.enter g args) w := by
  unfold bodyOk at h
  split at h
  · rename_i fn hfn
    simp only [Bool.and_eq_true, Bool.not_eq_true'] at h
    obtain ⟨body, hbody⟩ := Option.isSome_iff_exists.1 h.1
    exact run_callFunc_body w g args fn hfn h.2 hbody
  · cases h

theorem methodD_run {t : TypeId} {name : String} {f : FuncId} (h : methodD P t name = some f) (v : Value) (w : World) : (method (P.types.size + Made.depth) t v name).run P w = .ok (f, v) w := by
  have hn : P.types.size + Made.depth = (P.types.size + 99) + 1 := rfl
  rw [hn]
  generalize P.types.size + 99 = n
  unfold methodD at h
  split at h
  · rename_i i hi
    split at h
    · rename_i m hm
      split at h
      · rename_i hp
        have hp' : m.path.toList = [] := List.isEmpty_iff.1 hp
        split at h
        · rename_i f' e hf hu
          cases h
          simp only [method, typeInfo, Sem.run_bind, run_program, hi, hm, hp', follow, hf, receiverAt, run_underlying hu, Place.get, Sem.run_pure, Result.andThen_ok]
        · cases h
        · rename_i f' d hne hf hu
          cases h
          simp only [method, typeInfo, Sem.run_bind, run_program, hi, hm, hp', follow, hf, receiverAt, run_underlying hu, Sem.run_pure, Result.andThen_ok]
          cases d <;> simp_all [Place.get]
        · cases h
      · cases h
    · cases h
  · cases h

theorem calleeD_run {m : Emb} {ρ : Env} {t : T DV} {a : Act} (ht : TmpR m ρ t a) {o : Oper} {g : FuncId} {args : List DV} (h : calleeD P t o.op = some (g, args)) (w : World) :
    ∃ vs : Array Value, (execOp a.eval o).run P w = .ok (.enter g vs) w ∧ DV.RL m ρ args vs.toList := by
  obtain ⟨dst, op, type, pos, after, guard⟩ := o
  simp only at h
  cases op <;> simp only [calleeD, reduceCtorEq] at h
  case call c =>
    obtain ⟨callee, cargs, argTypes⟩ := c
    simp only at h
    split at h
    · rename_i f as hargs
      have hA := opds_R ht hargs
      split at h
      · rename_i g' first cap hf
        split at h
        · rename_i hb
          simp at h
          obtain ⟨rfl, rfl⟩ := h
          have hfR := opd_R ht hf
          simp only [DV.R] at hfR
          obtain ⟨x, y, hv, hx, hy⟩ := hfR
          refine ⟨x ++ cargs.map a.eval ++ y, ?_, ?_⟩
          · have hcall := bodyOk_run hb w (x ++ cargs.map a.eval ++ y)
            simp [execOp, resolve, hv, Deferred.ofValue, invoke]; simpa [Array.append_assoc] using hcall
          · simpa using (hx.append hA).append hy
        · cases h
      · rename_i name ty d r cap hf
        split at h
        · rename_i g' hg'
          split at h
          · rename_i hb
            simp at h
            obtain ⟨rfl, rfl⟩ := h
            have hfR := opd_R ht hf
            simp only [DV.R, DV.RL] at hfR
            obtain ⟨x, y, hv, ⟨u, ur, hxl, ⟨u', rfl, hd⟩, hr⟩, hy⟩ := hfR
            have hx : x = (Value.iface ty u' :: ur).toArray := by rw [← hxl]
            subst hx
            refine ⟨#[u'] ++ (ur.toArray ++ cargs.map a.eval), ?_, ?_⟩
            · have hcall := bodyOk_run hb w (#[u'] ++ (ur.toArray ++ cargs.map a.eval))
              have hm := methodD_run hg' u' w
              have he : ((Value.iface ty u' :: ur).toArray ++ cargs.map a.eval).extract 1 ((Value.iface ty u' :: ur).toArray ++ cargs.map a.eval).size = ur.toArray ++ cargs.map a.eval := ext1' (x := Value.iface ty u') (by apply Array.ext'; simp)
              have h0 : ((Value.iface ty u' :: ur).toArray ++ cargs.map a.eval)[0]? = some (Value.iface ty u') := by
                rw [Array.getElem?_append_left (by simp)]; simp
              simp only [execOp, resolve, hv, Deferred.ofValue, Sem.run_bind, Sem.run_pure, Result.andThen_ok, invoke, h0, he, callMethod, run_program, hm]
              exact hcall
            · simp only [Array.toList_append, List.cons_append, List.nil_append]
              simp only [DV.RL]
              exact ⟨u', _, rfl, hd, by simpa using hr.append hA⟩
          · cases h
        · cases h
      · cases h
    · rename_i recv name as hargs
      have hA := opds_R ht hargs
      split at h
      · rename_i ty d hf
        split at h
        · rename_i g' hg'
          split at h
          · rename_i hb
            simp at h
            obtain ⟨rfl, rfl⟩ := h
            have hfR := opd_R ht hf
            simp only [DV.R] at hfR
            obtain ⟨u', hv, hd⟩ := hfR
            refine ⟨#[u'] ++ cargs.map a.eval, ?_, ?_⟩
            · have hcall := bodyOk_run hb w (#[u'] ++ cargs.map a.eval)
              have hm := methodD_run hg' u' w
              have he : (#[Value.iface ty u'] ++ cargs.map a.eval).extract 1 (#[Value.iface ty u'] ++ cargs.map a.eval).size = cargs.map a.eval := ext1' (x := Value.iface ty u') (by apply Array.ext'; simp)
              have h0 : (#[Value.iface ty u'] ++ cargs.map a.eval)[0]? = some (Value.iface ty u') := by
                rw [Array.getElem?_append_left (by simp)]; simp
              simp only [execOp, resolve, hv, Sem.run_bind, Sem.run_pure, Result.andThen_ok, invoke, h0, he, callMethod, run_program, hm]
              exact hcall
            · simp only [Array.toList_append, List.cons_append, List.nil_append]
              simp only [DV.RL]
              exact ⟨u', _, rfl, hd, by simpa using hA⟩
          · cases h
        · cases h
      · cases h
    · cases h

end

end Go.Eng
