/- Part 11 of 14: what the functions do. -/
import Derived.Test.YtkiliokeanmagaaDoorME9
import Derived.KernelRfl
namespace Go.Proofs.YtkiliokeanmagaaDoor.Ab
open Go
theorem alive_run0 : call X E 60 14 [] [] = some (.c (.bool true), []) := call_of_K ktab_all (by kernel_rfl)
end Go.Proofs.YtkiliokeanmagaaDoor.Ab

