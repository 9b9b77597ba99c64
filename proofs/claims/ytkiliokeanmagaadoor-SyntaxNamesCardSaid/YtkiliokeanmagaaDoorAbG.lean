/- The seat's package-level variables, and the bodies of its loops over functions. Each seat has its own text of this. -/
import Derived.Test.YtkiliokeanmagaaDoorAbV
import Derived.Test.YtkiliokeanmagaaDoorProg
namespace Go.Proofs.YtkiliokeanmagaaDoor.Ab
open Go
/-- What the package-level variables hold. -/
def gvs : Nat → Option V
  | 0 => some (.ptr [.fmp [.string ⟨#[102, 110]⟩, .string ⟨#[105, 102]⟩, .string ⟨#[108, 101, 116]⟩, .string ⟨#[113, 117, 111, 116, 101]⟩, .string ⟨#[114, 101, 99]⟩, .string ⟨#[115, 101, 113]⟩, .string ⟨#[117, 112]⟩]
    [.c (.int .i64 5), .c (.int .i64 4), .c (.int .i64 6), .c (.int .i64 3), .c (.int .i64 7), .c (.int .i64 8), .c (.int .i64 9)]] 0)
  | _ => none
/-- The loops over functions in code, in the order of the text. -/
def rangesOf : Code → List (Array Tmp × Code × Code)
  | .seq a b => rangesOf a ++ rangesOf b
  | .cond _ a b => rangesOf a ++ rangesOf b
  | .block _ c => rangesOf c
  | .loop c => rangesOf c
  | .rangeFunc _ ps a b => (ps, a, b) :: (rangesOf a ++ rangesOf b)
  | _ => []
/-- Loop j of function f. -/
noncomputable def ycAt (f j : Nat) : Option (Array Tmp × Code × Code) :=
  match Tryd.prog.funcs[f]? with
  | some fn => match fn.body with
    | some c => (rangesOf c)[j]?
    | none => none
  | none => none
/-- The round number 1000000 + 100 f + j is loop j of function f. -/
noncomputable def yc (y : Nat) : Option (Array Tmp × Code × Code) := ycAt ((y - 1000000) / 100) ((y - 1000000) % 100)
end Go.Proofs.YtkiliokeanmagaaDoor.Ab
