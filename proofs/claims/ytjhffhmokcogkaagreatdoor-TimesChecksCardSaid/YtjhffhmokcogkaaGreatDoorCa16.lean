/- Part 17 of 19: what the functions do. -/
import Derived.Test.YtjhffhmokcogkaaGreatDoorCa15
import Derived.KernelRfl
set_option linter.unusedVariables false
set_option linter.unusedSimpArgs false
set_option linter.defProp false
namespace Go.Proofs.YtjhffhmokcogkaaGreatDoor.Ab
open Go
theorem alive_an:call X E 59 26 [aliveP,.sl [.c (.bool false),.c (.bool true)] .any] []=some (.tup [aliveT,.c (.int .i64 0)],[]):=call_of_K ktab_all (by kernel_rfl)
end Go.Proofs.YtjhffhmokcogkaaGreatDoor.Ab

