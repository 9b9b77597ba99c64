/- A part. -/
import Derived.Test.YtjhffhmokcogkaaGreatDoorCc13
import Derived.KernelRfl
set_option linter.unusedVariables false
set_option linter.unusedSimpArgs false
set_option linter.defProp false
set_option maxRecDepth 20000
set_option maxHeartbeats 8000000
namespace Go.Proofs.YtjhffhmokcogkaaGreatDoor.Ab
open Go
theorem B1:call X E 59 35 [wh] []=some (aliveT,[]):=dM eE (by kernel_rfl)
end Go.Proofs.YtjhffhmokcogkaaGreatDoor.Ab
