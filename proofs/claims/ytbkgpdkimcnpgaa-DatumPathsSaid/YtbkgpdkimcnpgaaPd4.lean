/- The chapter's example. -/
import Derived.Test.YtbkgpdkimcnpgaaPd3
namespace Go.Proofs.Ytbkgpdkimcnpgaa.Ab
open Go
theorem alive_run : call X E 60 22 [] [] = some (.c (.bool true), []) := by kernel_rfl
end Go.Proofs.Ytbkgpdkimcnpgaa.Ab
