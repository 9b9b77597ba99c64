/- Part 18 of 19: what the functions do. -/
import Derived.Test.YtjhffhmokcogkaaGreatDoorCa16
import Derived.KernelRfl
set_option linter.unusedVariables false
set_option linter.unusedSimpArgs false
set_option linter.defProp false
namespace Go.Proofs.YtjhffhmokcogkaaGreatDoor.Ab
open Go
theorem alive_ti:call X E 59 9 [aliveP,.sl [.c (.bool false),.c (.bool true)] .any] []=some (.tup [.sl [.sl [.c (.int .i64 (-2)),.c (.int .i64 (-1))] .any] .any,.c (.int .i64 0)],[]):=call_of_K ktab_all (by kernel_rfl)
theorem alive_ne:call X E 59 14 [aliveT] []=some (.tup [.c (.int .i64 1),.c (.int .i64 0)],[]):=call_of_K ktab_all (by kernel_rfl)
end Go.Proofs.YtjhffhmokcogkaaGreatDoor.Ab

