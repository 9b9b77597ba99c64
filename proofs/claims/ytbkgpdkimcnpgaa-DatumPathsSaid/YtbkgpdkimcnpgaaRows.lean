/-
  NARROWER THAN 'FOR EVERY INPUT', by the rows' own cells (each row's printed sentence says how): DatumChecks: loops · DatumFinds: loops · DatumPaths: loops · DatumAts: loops · DatumBack: loops · DatumTwice: loops · DatumAdds: loops · DatumCompares: loops · DatumOrder: loops.
  DERIVED. THE GIVEN ROWS OF THIS SEAT. 11 by the template 'for every input the law returns true; each argument reads behind the call as it read before'; 0 by the template 'total and deterministic' (their statements: YtbkgpdkimcnpgaaTotals.lean).
  GIVEN WITH THE SEED: the statements are not yours to turn. If you find one false, say at which input.
  Laid BY PROGRAM, IN A SANDBOX (cutbox-rows.mjs): the forced cells as the released guide's own fill.sh prints them over the translation b08cebab3e6df967… (all of the seat's roots in one cut). By AI agents, Wed Nov 11 2026. No macro, syntax, notation, axiom, sorry.
-/
import Derived.Test.YtbkgpdkimcnpgaaChecked
import GoSem.Claim
import GoSem.ClaimJoined
import GoSem.ClaimMapViews
import Derived.JoinedTies
import Derived.KernelRfl
namespace Go.Proofs.Ytbkgpdkimcnpgaa
/- THE CELL 'sum', in the pinned program and in every row, IS THE sha256 OF THE DUMP (.gsa) THAT YtbkgpdkimcnpgaaProg.lean LOADS. Nothing in Lean hashes anything: it is a label: what it is worth is what the hold of that sum in a sandbox is worth. -/
noncomputable def Try.pinned : Pinned := { name := "ytbkgpdkimcnpgaa", sum := "b08cebab3e6df9678a7518c593342df7a40ab49b8d4bddf341fbaad827c47251", checked := Try.checked }
namespace Rows
def none {H : Type} : Left H := { results := [], args := [] }

/-- 'pagodalaw01.DatumChecks': WHATEVER THE INPUT: true; the input reads as it did. -/
def datumChecksSpec : ChangeSpec := { name := "datumChecks", fn := fun _ => fun
  | [d] => { results := [.lit (.bool true)], args := [d] }
  | _ => none }
def datumChecksRow : OpenClaim := { program := "ytbkgpdkimcnpgaa", sum := "b08cebab3e6df9678a7518c593342df7a40ab49b8d4bddf341fbaad827c47251", func := "pagoda/pagodalaw01.DatumChecks", spec := "datumChecks", inPlace := ["internal/bytealg.IndexByteString"], unfollowed := true, recurses := true, loops := true, apart := false }
def DatumChecksSaid : Prop := datumChecksRow.holds Try.pinned (OpenSpec.ofChange datumChecksSpec)

/-- ITS FALSE NEIGHBOUR: 'it returns false'. Refute it at one input. -/
def datumChecksWrong : ChangeSpec := { name := "datumChecks", fn := fun _ => fun
  | [d] => { results := [.lit (.bool false)], args := [d] }
  | _ => none }
def DatumChecksWrongFalsely : Prop := datumChecksRow.holds Try.pinned (OpenSpec.ofChange datumChecksWrong)

/-- 'pagodalaw01.DatumSymbols': WHATEVER THE INPUT: true; the input reads as it did. -/
def datumSymbolsSpec : ChangeSpec := { name := "datumSymbols", fn := fun _ => fun
  | [d] => { results := [.lit (.bool true)], args := [d] }
  | _ => none }
def datumSymbolsRow : OpenClaim := { program := "ytbkgpdkimcnpgaa", sum := "b08cebab3e6df9678a7518c593342df7a40ab49b8d4bddf341fbaad827c47251", func := "pagoda/pagodalaw01.DatumSymbols", spec := "datumSymbols", inPlace := ["internal/bytealg.IndexByteString"], unfollowed := true, recurses := true, apart := false }
def DatumSymbolsSaid : Prop := datumSymbolsRow.holds Try.pinned (OpenSpec.ofChange datumSymbolsSpec)

/-- ITS FALSE NEIGHBOUR: 'it returns false'. Refute it at one input. -/
def datumSymbolsWrong : ChangeSpec := { name := "datumSymbols", fn := fun _ => fun
  | [d] => { results := [.lit (.bool false)], args := [d] }
  | _ => none }
def DatumSymbolsWrongFalsely : Prop := datumSymbolsRow.holds Try.pinned (OpenSpec.ofChange datumSymbolsWrong)

/-- 'pagodalaw01.DatumLimits': WHATEVER THE INPUT: true; the input reads as it did. -/
def datumLimitsSpec : ChangeSpec := { name := "datumLimits", fn := fun _ => fun
  | [d1, d2, d3] => { results := [.lit (.bool true)], args := [d1, d2, d3] }
  | _ => none }
def datumLimitsRow : OpenClaim := { program := "ytbkgpdkimcnpgaa", sum := "b08cebab3e6df9678a7518c593342df7a40ab49b8d4bddf341fbaad827c47251", func := "pagoda/pagodalaw01.DatumLimits", spec := "datumLimits", inPlace := ["internal/bytealg.IndexByteString"], unfollowed := true, recurses := true, apart := false }
def DatumLimitsSaid : Prop := datumLimitsRow.holds Try.pinned (OpenSpec.ofChange datumLimitsSpec)

/-- ITS FALSE NEIGHBOUR: 'it returns false'. Refute it at one input. -/
def datumLimitsWrong : ChangeSpec := { name := "datumLimits", fn := fun _ => fun
  | [d1, d2, d3] => { results := [.lit (.bool false)], args := [d1, d2, d3] }
  | _ => none }
def DatumLimitsWrongFalsely : Prop := datumLimitsRow.holds Try.pinned (OpenSpec.ofChange datumLimitsWrong)

/-- 'pagodalaw01.DatumFinds': WHATEVER THE INPUT: true; the input reads as it did. -/
def datumFindsSpec : ChangeSpec := { name := "datumFinds", fn := fun _ => fun
  | [d1, d2] => { results := [.lit (.bool true)], args := [d1, d2] }
  | _ => none }
def datumFindsRow : OpenClaim := { program := "ytbkgpdkimcnpgaa", sum := "b08cebab3e6df9678a7518c593342df7a40ab49b8d4bddf341fbaad827c47251", func := "pagoda/pagodalaw01.DatumFinds", spec := "datumFinds", inPlace := ["internal/bytealg.IndexByteString"], unfollowed := true, recurses := true, loops := true, apart := false }
def DatumFindsSaid : Prop := datumFindsRow.holds Try.pinned (OpenSpec.ofChange datumFindsSpec)

/-- ITS FALSE NEIGHBOUR: 'it returns false'. Refute it at one input. -/
def datumFindsWrong : ChangeSpec := { name := "datumFinds", fn := fun _ => fun
  | [d1, d2] => { results := [.lit (.bool false)], args := [d1, d2] }
  | _ => none }
def DatumFindsWrongFalsely : Prop := datumFindsRow.holds Try.pinned (OpenSpec.ofChange datumFindsWrong)

/-- 'pagodalaw01.DatumPaths': WHATEVER THE INPUT: true; the input reads as it did. -/
def datumPathsSpec : ChangeSpec := { name := "datumPaths", fn := fun _ => fun
  | [d] => { results := [.lit (.bool true)], args := [d] }
  | _ => none }
def datumPathsRow : OpenClaim := { program := "ytbkgpdkimcnpgaa", sum := "b08cebab3e6df9678a7518c593342df7a40ab49b8d4bddf341fbaad827c47251", func := "pagoda/pagodalaw01.DatumPaths", spec := "datumPaths", inPlace := ["internal/bytealg.IndexByteString"], unfollowed := true, recurses := true, loops := true, apart := false }
def DatumPathsSaid : Prop := datumPathsRow.holds Try.pinned (OpenSpec.ofChange datumPathsSpec)

/-- ITS FALSE NEIGHBOUR: 'it returns false'. Refute it at one input. -/
def datumPathsWrong : ChangeSpec := { name := "datumPaths", fn := fun _ => fun
  | [d] => { results := [.lit (.bool false)], args := [d] }
  | _ => none }
def DatumPathsWrongFalsely : Prop := datumPathsRow.holds Try.pinned (OpenSpec.ofChange datumPathsWrong)

/-- 'pagodalaw01.DatumAts': WHATEVER THE INPUT: true; the input reads as it did. -/
def datumAtsSpec : ChangeSpec := { name := "datumAts", fn := fun _ => fun
  | [d1, d2, d3] => { results := [.lit (.bool true)], args := [d1, d2, d3] }
  | _ => none }
def datumAtsRow : OpenClaim := { program := "ytbkgpdkimcnpgaa", sum := "b08cebab3e6df9678a7518c593342df7a40ab49b8d4bddf341fbaad827c47251", func := "pagoda/pagodalaw01.DatumAts", spec := "datumAts", inPlace := ["internal/bytealg.IndexByteString"], unfollowed := true, recurses := true, loops := true, apart := false }
def DatumAtsSaid : Prop := datumAtsRow.holds Try.pinned (OpenSpec.ofChange datumAtsSpec)

/-- ITS FALSE NEIGHBOUR: 'it returns false'. Refute it at one input. -/
def datumAtsWrong : ChangeSpec := { name := "datumAts", fn := fun _ => fun
  | [d1, d2, d3] => { results := [.lit (.bool false)], args := [d1, d2, d3] }
  | _ => none }
def DatumAtsWrongFalsely : Prop := datumAtsRow.holds Try.pinned (OpenSpec.ofChange datumAtsWrong)

/-- 'pagodalaw01.DatumBack': WHATEVER THE INPUT: true; the input reads as it did. -/
def datumBackSpec : ChangeSpec := { name := "datumBack", fn := fun _ => fun
  | [d1, d2, d3] => { results := [.lit (.bool true)], args := [d1, d2, d3] }
  | _ => none }
def datumBackRow : OpenClaim := { program := "ytbkgpdkimcnpgaa", sum := "b08cebab3e6df9678a7518c593342df7a40ab49b8d4bddf341fbaad827c47251", func := "pagoda/pagodalaw01.DatumBack", spec := "datumBack", inPlace := ["internal/bytealg.IndexByteString"], unfollowed := true, recurses := true, loops := true, apart := false }
def DatumBackSaid : Prop := datumBackRow.holds Try.pinned (OpenSpec.ofChange datumBackSpec)

/-- ITS FALSE NEIGHBOUR: 'it returns false'. Refute it at one input. -/
def datumBackWrong : ChangeSpec := { name := "datumBack", fn := fun _ => fun
  | [d1, d2, d3] => { results := [.lit (.bool false)], args := [d1, d2, d3] }
  | _ => none }
def DatumBackWrongFalsely : Prop := datumBackRow.holds Try.pinned (OpenSpec.ofChange datumBackWrong)

/-- 'pagodalaw01.DatumTwice': WHATEVER THE INPUT: true; the input reads as it did. -/
def datumTwiceSpec : ChangeSpec := { name := "datumTwice", fn := fun _ => fun
  | [d] => { results := [.lit (.bool true)], args := [d] }
  | _ => none }
def datumTwiceRow : OpenClaim := { program := "ytbkgpdkimcnpgaa", sum := "b08cebab3e6df9678a7518c593342df7a40ab49b8d4bddf341fbaad827c47251", func := "pagoda/pagodalaw01.DatumTwice", spec := "datumTwice", inPlace := ["internal/bytealg.IndexByteString"], unfollowed := true, recurses := true, loops := true, apart := false }
def DatumTwiceSaid : Prop := datumTwiceRow.holds Try.pinned (OpenSpec.ofChange datumTwiceSpec)

/-- ITS FALSE NEIGHBOUR: 'it returns false'. Refute it at one input. -/
def datumTwiceWrong : ChangeSpec := { name := "datumTwice", fn := fun _ => fun
  | [d] => { results := [.lit (.bool false)], args := [d] }
  | _ => none }
def DatumTwiceWrongFalsely : Prop := datumTwiceRow.holds Try.pinned (OpenSpec.ofChange datumTwiceWrong)

/-- 'pagodalaw01.DatumAdds': WHATEVER THE INPUT: true; the input reads as it did. -/
def datumAddsSpec : ChangeSpec := { name := "datumAdds", fn := fun _ => fun
  | [d1, d2, d3] => { results := [.lit (.bool true)], args := [d1, d2, d3] }
  | _ => none }
def datumAddsRow : OpenClaim := { program := "ytbkgpdkimcnpgaa", sum := "b08cebab3e6df9678a7518c593342df7a40ab49b8d4bddf341fbaad827c47251", func := "pagoda/pagodalaw01.DatumAdds", spec := "datumAdds", inPlace := ["internal/bytealg.IndexByteString"], unfollowed := true, recurses := true, loops := true, apart := false }
def DatumAddsSaid : Prop := datumAddsRow.holds Try.pinned (OpenSpec.ofChange datumAddsSpec)

/-- ITS FALSE NEIGHBOUR: 'it returns false'. Refute it at one input. -/
def datumAddsWrong : ChangeSpec := { name := "datumAdds", fn := fun _ => fun
  | [d1, d2, d3] => { results := [.lit (.bool false)], args := [d1, d2, d3] }
  | _ => none }
def DatumAddsWrongFalsely : Prop := datumAddsRow.holds Try.pinned (OpenSpec.ofChange datumAddsWrong)

/-- 'pagodalaw01.DatumCompares': WHATEVER THE INPUT: true; the input reads as it did. -/
def datumComparesSpec : ChangeSpec := { name := "datumCompares", fn := fun _ => fun
  | [d1, d2] => { results := [.lit (.bool true)], args := [d1, d2] }
  | _ => none }
def datumComparesRow : OpenClaim := { program := "ytbkgpdkimcnpgaa", sum := "b08cebab3e6df9678a7518c593342df7a40ab49b8d4bddf341fbaad827c47251", func := "pagoda/pagodalaw01.DatumCompares", spec := "datumCompares", inPlace := ["internal/bytealg.IndexByteString"], unfollowed := true, recurses := true, loops := true, apart := false }
def DatumComparesSaid : Prop := datumComparesRow.holds Try.pinned (OpenSpec.ofChange datumComparesSpec)

/-- ITS FALSE NEIGHBOUR: 'it returns false'. Refute it at one input. -/
def datumComparesWrong : ChangeSpec := { name := "datumCompares", fn := fun _ => fun
  | [d1, d2] => { results := [.lit (.bool false)], args := [d1, d2] }
  | _ => none }
def DatumComparesWrongFalsely : Prop := datumComparesRow.holds Try.pinned (OpenSpec.ofChange datumComparesWrong)

/-- 'pagodalaw01.DatumOrder': WHATEVER THE INPUT: true; the input reads as it did. -/
def datumOrderSpec : ChangeSpec := { name := "datumOrder", fn := fun _ => fun
  | [d1, d2, d3] => { results := [.lit (.bool true)], args := [d1, d2, d3] }
  | _ => none }
def datumOrderRow : OpenClaim := { program := "ytbkgpdkimcnpgaa", sum := "b08cebab3e6df9678a7518c593342df7a40ab49b8d4bddf341fbaad827c47251", func := "pagoda/pagodalaw01.DatumOrder", spec := "datumOrder", inPlace := ["internal/bytealg.IndexByteString"], unfollowed := true, recurses := true, loops := true, apart := false }
def DatumOrderSaid : Prop := datumOrderRow.holds Try.pinned (OpenSpec.ofChange datumOrderSpec)

/-- ITS FALSE NEIGHBOUR: 'it returns false'. Refute it at one input. -/
def datumOrderWrong : ChangeSpec := { name := "datumOrder", fn := fun _ => fun
  | [d1, d2, d3] => { results := [.lit (.bool false)], args := [d1, d2, d3] }
  | _ => none }
def DatumOrderWrongFalsely : Prop := datumOrderRow.holds Try.pinned (OpenSpec.ofChange datumOrderWrong)

/- THE SECOND FORM. 'bulk': how many values and letters a reading holds, each counted each time it is reached (what is shared counts as often as it is met; a slice's spare places count too). A statement '..UptoSaid' is the law's where the arguments, and the package variables that the reading takes, are together of bulk at most 1048576: NARROWER than '..Said'. Prove '..Said' where nothing that the law and all that it calls make is longer than what came in: it says more and counts as full. Else prove '..UptoSaid'. A law counts once. -/
mutual
def uptoBulk {H : Type} : DataW H → Nat
  | .lit (.string bytes) => bytes.length + 1
  | .lit _ => 1
  | .nil => 1
  | .ptr d => uptoBulk d + 1
  | .slice elems spare => uptoBulkAll elems + uptoBulkAll spare + 1
  | .agg parts => uptoBulkAll parts + 1
  | .iface _ d => uptoBulk d + 1
  | .map entries => uptoBulkEntries entries + 1
  | .held _ => 1
def uptoBulkAll {H : Type} : List (DataW H) → Nat
  | [] => 0
  | d :: r => uptoBulk d + uptoBulkAll r
def uptoBulkEntries {H : Type} : List (Lit × DataW H) → Nat
  | [] => 0
  | x :: r => uptoBulkEntry x + uptoBulkEntries r
def uptoBulkEntry {H : Type} : Lit × DataW H → Nat
  | (.string bytes, d) => bytes.length + uptoBulk d + 1
  | (_, d) => uptoBulk d + 1
 end
def uptoSmall : (H : Type) → List (DataW H) → Bool := fun _ ds => decide (uptoBulkAll ds ≤ 1048576)
def OpenSpec.upto (s : _root_.Go.ChangeSpec) : _root_.Go.OpenSpec := { _root_.Go.OpenSpec.ofChange s with cond := some uptoSmall }

/-- 'pagodalaw01.DatumChecks', WHERE WHAT IT READS IS OF BULK AT MOST 1048576: true; the input reads as it did. -/
def datumChecksUptoRow : OpenClaim := { program := "ytbkgpdkimcnpgaa", sum := "b08cebab3e6df9678a7518c593342df7a40ab49b8d4bddf341fbaad827c47251", func := "pagoda/pagodalaw01.DatumChecks", spec := "datumChecks", inPlace := ["internal/bytealg.IndexByteString"], unfollowed := true, recurses := true, loops := true, apart := false, narrowed := true }
def DatumChecksUptoSaid : Prop := datumChecksUptoRow.holds Try.pinned (OpenSpec.upto datumChecksSpec)

/-- 'pagodalaw01.DatumSymbols', WHERE WHAT IT READS IS OF BULK AT MOST 1048576: true; the input reads as it did. -/
def datumSymbolsUptoRow : OpenClaim := { program := "ytbkgpdkimcnpgaa", sum := "b08cebab3e6df9678a7518c593342df7a40ab49b8d4bddf341fbaad827c47251", func := "pagoda/pagodalaw01.DatumSymbols", spec := "datumSymbols", inPlace := ["internal/bytealg.IndexByteString"], unfollowed := true, recurses := true, apart := false, narrowed := true }
def DatumSymbolsUptoSaid : Prop := datumSymbolsUptoRow.holds Try.pinned (OpenSpec.upto datumSymbolsSpec)

/-- 'pagodalaw01.DatumLimits', WHERE WHAT IT READS IS OF BULK AT MOST 1048576: true; the input reads as it did. -/
def datumLimitsUptoRow : OpenClaim := { program := "ytbkgpdkimcnpgaa", sum := "b08cebab3e6df9678a7518c593342df7a40ab49b8d4bddf341fbaad827c47251", func := "pagoda/pagodalaw01.DatumLimits", spec := "datumLimits", inPlace := ["internal/bytealg.IndexByteString"], unfollowed := true, recurses := true, apart := false, narrowed := true }
def DatumLimitsUptoSaid : Prop := datumLimitsUptoRow.holds Try.pinned (OpenSpec.upto datumLimitsSpec)

/-- 'pagodalaw01.DatumFinds', WHERE WHAT IT READS IS OF BULK AT MOST 1048576: true; the input reads as it did. -/
def datumFindsUptoRow : OpenClaim := { program := "ytbkgpdkimcnpgaa", sum := "b08cebab3e6df9678a7518c593342df7a40ab49b8d4bddf341fbaad827c47251", func := "pagoda/pagodalaw01.DatumFinds", spec := "datumFinds", inPlace := ["internal/bytealg.IndexByteString"], unfollowed := true, recurses := true, loops := true, apart := false, narrowed := true }
def DatumFindsUptoSaid : Prop := datumFindsUptoRow.holds Try.pinned (OpenSpec.upto datumFindsSpec)

/-- 'pagodalaw01.DatumPaths', WHERE WHAT IT READS IS OF BULK AT MOST 1048576: true; the input reads as it did. -/
def datumPathsUptoRow : OpenClaim := { program := "ytbkgpdkimcnpgaa", sum := "b08cebab3e6df9678a7518c593342df7a40ab49b8d4bddf341fbaad827c47251", func := "pagoda/pagodalaw01.DatumPaths", spec := "datumPaths", inPlace := ["internal/bytealg.IndexByteString"], unfollowed := true, recurses := true, loops := true, apart := false, narrowed := true }
def DatumPathsUptoSaid : Prop := datumPathsUptoRow.holds Try.pinned (OpenSpec.upto datumPathsSpec)

/-- 'pagodalaw01.DatumAts', WHERE WHAT IT READS IS OF BULK AT MOST 1048576: true; the input reads as it did. -/
def datumAtsUptoRow : OpenClaim := { program := "ytbkgpdkimcnpgaa", sum := "b08cebab3e6df9678a7518c593342df7a40ab49b8d4bddf341fbaad827c47251", func := "pagoda/pagodalaw01.DatumAts", spec := "datumAts", inPlace := ["internal/bytealg.IndexByteString"], unfollowed := true, recurses := true, loops := true, apart := false, narrowed := true }
def DatumAtsUptoSaid : Prop := datumAtsUptoRow.holds Try.pinned (OpenSpec.upto datumAtsSpec)

/-- 'pagodalaw01.DatumBack', WHERE WHAT IT READS IS OF BULK AT MOST 1048576: true; the input reads as it did. -/
def datumBackUptoRow : OpenClaim := { program := "ytbkgpdkimcnpgaa", sum := "b08cebab3e6df9678a7518c593342df7a40ab49b8d4bddf341fbaad827c47251", func := "pagoda/pagodalaw01.DatumBack", spec := "datumBack", inPlace := ["internal/bytealg.IndexByteString"], unfollowed := true, recurses := true, loops := true, apart := false, narrowed := true }
def DatumBackUptoSaid : Prop := datumBackUptoRow.holds Try.pinned (OpenSpec.upto datumBackSpec)

/-- 'pagodalaw01.DatumTwice', WHERE WHAT IT READS IS OF BULK AT MOST 1048576: true; the input reads as it did. -/
def datumTwiceUptoRow : OpenClaim := { program := "ytbkgpdkimcnpgaa", sum := "b08cebab3e6df9678a7518c593342df7a40ab49b8d4bddf341fbaad827c47251", func := "pagoda/pagodalaw01.DatumTwice", spec := "datumTwice", inPlace := ["internal/bytealg.IndexByteString"], unfollowed := true, recurses := true, loops := true, apart := false, narrowed := true }
def DatumTwiceUptoSaid : Prop := datumTwiceUptoRow.holds Try.pinned (OpenSpec.upto datumTwiceSpec)

/-- 'pagodalaw01.DatumAdds', WHERE WHAT IT READS IS OF BULK AT MOST 1048576: true; the input reads as it did. -/
def datumAddsUptoRow : OpenClaim := { program := "ytbkgpdkimcnpgaa", sum := "b08cebab3e6df9678a7518c593342df7a40ab49b8d4bddf341fbaad827c47251", func := "pagoda/pagodalaw01.DatumAdds", spec := "datumAdds", inPlace := ["internal/bytealg.IndexByteString"], unfollowed := true, recurses := true, loops := true, apart := false, narrowed := true }
def DatumAddsUptoSaid : Prop := datumAddsUptoRow.holds Try.pinned (OpenSpec.upto datumAddsSpec)

/-- 'pagodalaw01.DatumCompares', WHERE WHAT IT READS IS OF BULK AT MOST 1048576: true; the input reads as it did. -/
def datumComparesUptoRow : OpenClaim := { program := "ytbkgpdkimcnpgaa", sum := "b08cebab3e6df9678a7518c593342df7a40ab49b8d4bddf341fbaad827c47251", func := "pagoda/pagodalaw01.DatumCompares", spec := "datumCompares", inPlace := ["internal/bytealg.IndexByteString"], unfollowed := true, recurses := true, loops := true, apart := false, narrowed := true }
def DatumComparesUptoSaid : Prop := datumComparesUptoRow.holds Try.pinned (OpenSpec.upto datumComparesSpec)

/-- 'pagodalaw01.DatumOrder', WHERE WHAT IT READS IS OF BULK AT MOST 1048576: true; the input reads as it did. -/
def datumOrderUptoRow : OpenClaim := { program := "ytbkgpdkimcnpgaa", sum := "b08cebab3e6df9678a7518c593342df7a40ab49b8d4bddf341fbaad827c47251", func := "pagoda/pagodalaw01.DatumOrder", spec := "datumOrder", inPlace := ["internal/bytealg.IndexByteString"], unfollowed := true, recurses := true, loops := true, apart := false, narrowed := true }
def DatumOrderUptoSaid : Prop := datumOrderUptoRow.holds Try.pinned (OpenSpec.upto datumOrderSpec)

end Rows
end Go.Proofs.Ytbkgpdkimcnpgaa
