/-
  Rows whose package-level variables are listed with what they hold.
-/
import Derived.Test.YtlefdfcknddaaaaDoorEngAH
namespace Go.Eng
open Go.RowKit Go.ChangeShapes Go.WideShapes Go.ChangeAt

/-- The cells of plain data. -/
def litCell : Lit → Value
  | .int k n => .int k n
  | .bool b => .bool b
  | .string s => .string ⟨s.toArray⟩
  | _ => .nilIface
def dataCells : Nat → DataW Unit → List Value
  | _, .lit l => [litCell l]
  | n + 1, .agg l => l.flatMap (dataCells n)
  | _, _ => []

/-- The settled world, the listed variables holding what their initialisers lay. -/
noncomputable def laidW (P : Program) (os : Os) (l : List (Nat × DataW Unit)) : World :=
  let w0 := World.holding P os ⟨#[], #[], []⟩
  { w0 with heap := l.foldl (fun h p => h.modify p.1 fun
      | .cells _ t fr => .cells (dataCells 8 p.2).toArray t fr
      | o => o) w0.heap }

section
variable {H : Type} {enc : TypeId × Value → H}
/-- The whole step of such a row. -/
theorem lifted_laid {C : Checked} (own : ownKnob C.prog.godebug = none) (laidOut : laidOutB C.prog = true) {os : Os} (started : os.Started) {f : FuncId} {fn : Func} {s : ChangeSpec} {conds : List PathCond} {apart : Bool} {tb : TypeId} {laid : List (String × DataW Unit)}
    (noInit : C.prog.inits.idxOf? f = none) (hf : C.prog.funcs[f]? = some fn)
    (witness : ∃ (w : World) (tape : Tape) (i : Input), w.os = os ∧ (w.forCall tape i).Shaped C.prog ∧ i.vars = [] ∧ Input.okWide C.prog (w.forCall tape i) .any w.heap.size f i ∧
      ((s.pre enc C.prog fn conds apart (w.forCall tape i).memory i.args ∧ laidMet C.prog laid (w.forCall tape i).memory) ∧ sizedMet enc C.prog fn (OpenSpec.ofChange s) apart (w.forCall tape i).memory i.args) ∧ Assume.holds {} C.prog (lone (Frame.enter C.prog f i.args .normal) [] (w.forCall tape i)))
    (hts : argsOkB C.prog fn.params.toList = true) (hres : fn.resultTypes = #[tb]) (htb : C.prog.underlying tb = some .bool) (hvs : s.vars = [])
    (hsf : ∀ ds : List (DataW H), ds.length = fn.params.toList.length → s.fn H ds = { results := [.lit (.bool true)], args := ds })
    (hshort : ((allSh C.prog fn.params.toList).all fun sh => decide (shLen C.prog sh ≤ 900)) = true) (law : ∀ sh ∈ allSh C.prog fn.params.toList, LawS C.prog f sh) :
    ReturnsInHanded {} C os f .any (fun w args => (s.pre enc C.prog fn conds apart w args ∧ laidMet C.prog laid w) ∧ sizedMet enc C.prog fn (OpenSpec.ofChange s) apart w args) (s.post enc C.prog fn apart true false false) :=
  returnsInHanded_of_change_and (X := fun w _ => laidMet C.prog laid w) (fun _ _ _ hh h => h.of_heap hh) own started noInit hf witness fun W base args ds gs before hval hW _ _ _ _ => shapes_contract laidOut hts hres htb hvs hsf hshort law W base args ds gs before hval hW
end
end Go.Eng
