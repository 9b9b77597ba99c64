/- Part 16 of 19: what the functions do. -/
import Derived.Test.YtjhffhmokcogkaaGreatDoorCa14
import Derived.KernelRfl
set_option linter.unusedVariables false
set_option linter.unusedSimpArgs false
set_option linter.defProp false
namespace Go.Proofs.YtjhffhmokcogkaaGreatDoor.Ab
open Go
theorem alive_t:call X E 59 35 [aliveR] []=some (aliveT,[]):=call_of_K ktab_all (by kernel_rfl)
end Go.Proofs.YtjhffhmokcogkaaGreatDoor.Ab

