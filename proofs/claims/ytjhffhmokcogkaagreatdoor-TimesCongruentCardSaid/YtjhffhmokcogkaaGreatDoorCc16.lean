/- A part. -/
import Derived.Test.YtjhffhmokcogkaaGreatDoorCc15
import Derived.KernelRfl
set_option linter.unusedVariables false
set_option linter.unusedSimpArgs false
set_option linter.defProp false
set_option maxRecDepth 20000
set_option maxHeartbeats 8000000
namespace Go.Proofs.YtjhffhmokcogkaaGreatDoor.Ab
open Go
theorem yt:call X E 59 9 [aliveP,.sl [.c (.bool false),.c (.bool true)] .any] []=some (.tup [.sl [.sl [.c (.int .i64 (-2)),.c (.int .i64 (-1))] .any] .any,.c (.int .i64 0)],[]):=dM eE (by kernel_rfl)
theorem zp:call X E 59 14 [aliveT] []=some (.tup [.c (.int .i64 1),.c (.int .i64 0)],[]):=dM eE (by kernel_rfl)
end Go.Proofs.YtjhffhmokcogkaaGreatDoor.Ab
