/- A part. -/
import Derived.Test.YtjhffhmokcogkaaGreatDoorCc14
import Derived.KernelRfl
set_option linter.unusedVariables false
set_option linter.unusedSimpArgs false
set_option linter.defProp false
set_option maxRecDepth 20000
set_option maxHeartbeats 8000000
namespace Go.Proofs.YtjhffhmokcogkaaGreatDoor.Ab
open Go
theorem yR:call X E 59 26 [aliveP,.sl [.c (.bool false),.c (.bool true)] .any] []=some (.tup [aliveT,.c (.int .i64 0)],[]):=dM eE (by kernel_rfl)
end Go.Proofs.YtjhffhmokcogkaaGreatDoor.Ab
