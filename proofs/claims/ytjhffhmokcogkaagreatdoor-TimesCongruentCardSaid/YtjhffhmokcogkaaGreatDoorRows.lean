/-
  NARROWER THAN 'FOR EVERY INPUT', by the rows' own cells (each row's printed sentence says how): TimesCongruent: loops, laid · TimesChecks: loops, laid · TimesPlains: loops, laid · TimesFinds: loops, laid · TimesGiven: loops, laid.
  DERIVED. THE GIVEN ROWS OF THIS SEAT. 5 by the template 'for every input the law returns true; each argument reads behind the call as it read before'; 0 by the template 'total and deterministic' (their statements: YtjhffhmokcogkaaGreatDoorTotals.lean).
  GIVEN WITH THE SEED: the statements are not yours to turn. If you find one false, say at which input.
  Laid BY PROGRAM, IN A SANDBOX (cutbox-rows.mjs): the forced cells as the released guide's own fill.sh prints them over the translation 07ff42001b410f73… (all of the seat's roots in one cut). By AI agents, Wed Nov 11 2026. No macro, syntax, notation, axiom, sorry.
-/
import Derived.Test.YtjhffhmokcogkaaGreatDoorChecked
import GoSem.Claim
import GoSem.ClaimJoined
import GoSem.ClaimMapViews
import Derived.JoinedTies
import Derived.KernelRfl
namespace Go.Proofs.YtjhffhmokcogkaaGreatDoor
/- THE CELL 'sum', in the pinned program and in every row, IS THE sha256 OF THE DUMP (.gsa) THAT YtjhffhmokcogkaaGreatDoorProg.lean LOADS. Nothing in Lean hashes anything: it is a label: what it is worth is what the hold of that sum in a sandbox is worth. -/
noncomputable def Tryz.pinned : Pinned := { name := "ytjhffhmokcogkaagreatdoor", sum := "07ff42001b410f73aac83d3124600e76d0172f895a47d783bf1409eb0c61ba4b", checked := Tryz.checked }
namespace Rows
def none {H : Type} : Left H := { results := [], args := [] }

/- WHAT THE LISTED PACKAGE-LEVEL VARIABLES READ AS WHEN THE CALL BEGINS. Each datum BY PROGRAM (the guide's laid-datum.mjs) off the statement by which the dump's own 'gosem.cut.vars' lays the variable. In a bare row this is a premise. The card (YtjhffhmokcogkaaGreatDoorCards.lean) ties it to the program's text. -/
def laid_pagoda_node_reserved {H : Type} : DataW H := .map [(.string [99, 97, 108, 108], .lit (.bool true)), (.string [102, 110], .lit (.bool true)), (.string [105, 102], .lit (.bool true)), (.string [108, 101, 116], .lit (.bool true)), (.string [113, 117, 111, 116, 101], .lit (.bool true)), (.string [114, 101, 99], .lit (.bool true)), (.string [115, 101, 113], .lit (.bool true)), (.string [117, 112], .lit (.bool true))]
def laid_pagoda_prim_names {H : Type} : DataW H := .slice [.agg [.lit (.string [43]), .lit (.int .i64 2)], .agg [.lit (.string [45]), .lit (.int .i64 2)], .agg [.lit (.string [42]), .lit (.int .i64 2)], .agg [.lit (.string [113, 117, 111, 116]), .lit (.int .i64 2)], .agg [.lit (.string [114, 101, 109]), .lit (.int .i64 2)], .agg [.lit (.string [60]), .lit (.int .i64 2)], .agg [.lit (.string [61]), .lit (.int .i64 2)], .agg [.lit (.string [99, 111, 110, 115]), .lit (.int .i64 2)], .agg [.lit (.string [102, 105, 114, 115, 116]), .lit (.int .i64 1)], .agg [.lit (.string [114, 101, 115, 116]), .lit (.int .i64 1)], .agg [.lit (.string [99, 111, 117, 110, 116]), .lit (.int .i64 1)], .agg [.lit (.string [108, 105, 115, 116, 63]), .lit (.int .i64 1)], .agg [.lit (.string [110, 117, 109, 63]), .lit (.int .i64 1)], .agg [.lit (.string [115, 121, 109, 63]), .lit (.int .i64 1)], .agg [.lit (.string [109, 97, 114, 107]), .lit (.int .i64 2)], .agg [.lit (.string [115, 116, 111, 112]), .lit (.int .i64 1)]] []
def laid_pagoda_times_slows {H : Type} : DataW H := .slice [.lit (.string [110, 97, 109, 101]), .lit (.string [108, 105, 102, 116]), .lit (.string [115, 105, 102]), .lit (.string [100, 105, 102]), .lit (.string [115, 108, 101, 116]), .lit (.string [100, 108, 101, 116]), .lit (.string [100, 112, 114, 105, 109]), .lit (.string [100, 99, 97, 108, 108])] []
def laid_math_bits_deBruijn32tab {H : Type} : DataW H := .agg [.lit (.int .u8 0), .lit (.int .u8 1), .lit (.int .u8 28), .lit (.int .u8 2), .lit (.int .u8 29), .lit (.int .u8 14), .lit (.int .u8 24), .lit (.int .u8 3), .lit (.int .u8 30), .lit (.int .u8 22), .lit (.int .u8 20), .lit (.int .u8 15), .lit (.int .u8 25), .lit (.int .u8 17), .lit (.int .u8 4), .lit (.int .u8 8), .lit (.int .u8 31), .lit (.int .u8 27), .lit (.int .u8 13), .lit (.int .u8 23), .lit (.int .u8 21), .lit (.int .u8 19), .lit (.int .u8 16), .lit (.int .u8 7), .lit (.int .u8 26), .lit (.int .u8 12), .lit (.int .u8 18), .lit (.int .u8 6), .lit (.int .u8 11), .lit (.int .u8 5), .lit (.int .u8 10), .lit (.int .u8 9)]
def laid_math_bits_deBruijn64tab {H : Type} : DataW H := .agg [.lit (.int .u8 0), .lit (.int .u8 1), .lit (.int .u8 56), .lit (.int .u8 2), .lit (.int .u8 57), .lit (.int .u8 49), .lit (.int .u8 28), .lit (.int .u8 3), .lit (.int .u8 61), .lit (.int .u8 58), .lit (.int .u8 42), .lit (.int .u8 50), .lit (.int .u8 38), .lit (.int .u8 29), .lit (.int .u8 17), .lit (.int .u8 4), .lit (.int .u8 62), .lit (.int .u8 47), .lit (.int .u8 59), .lit (.int .u8 36), .lit (.int .u8 45), .lit (.int .u8 43), .lit (.int .u8 51), .lit (.int .u8 22), .lit (.int .u8 53), .lit (.int .u8 39), .lit (.int .u8 33), .lit (.int .u8 30), .lit (.int .u8 24), .lit (.int .u8 18), .lit (.int .u8 12), .lit (.int .u8 5), .lit (.int .u8 63), .lit (.int .u8 55), .lit (.int .u8 48), .lit (.int .u8 27), .lit (.int .u8 60), .lit (.int .u8 41), .lit (.int .u8 37), .lit (.int .u8 16), .lit (.int .u8 46), .lit (.int .u8 35), .lit (.int .u8 44), .lit (.int .u8 21), .lit (.int .u8 52), .lit (.int .u8 32), .lit (.int .u8 23), .lit (.int .u8 11), .lit (.int .u8 54), .lit (.int .u8 26), .lit (.int .u8 40), .lit (.int .u8 15), .lit (.int .u8 34), .lit (.int .u8 20), .lit (.int .u8 31), .lit (.int .u8 10), .lit (.int .u8 25), .lit (.int .u8 14), .lit (.int .u8 19), .lit (.int .u8 9), .lit (.int .u8 13), .lit (.int .u8 8), .lit (.int .u8 7), .lit (.int .u8 6)]
def laid_internal_strconv_uint64pow10 {H : Type} : DataW H := .agg [.lit (.int .u64 1), .lit (.int .u64 10), .lit (.int .u64 100), .lit (.int .u64 1000), .lit (.int .u64 10000), .lit (.int .u64 100000), .lit (.int .u64 1000000), .lit (.int .u64 10000000), .lit (.int .u64 100000000), .lit (.int .u64 1000000000), .lit (.int .u64 10000000000), .lit (.int .u64 100000000000), .lit (.int .u64 1000000000000), .lit (.int .u64 10000000000000), .lit (.int .u64 100000000000000), .lit (.int .u64 1000000000000000), .lit (.int .u64 10000000000000000), .lit (.int .u64 100000000000000000), .lit (.int .u64 1000000000000000000), .lit (.int .u64 10000000000000000000)]

/-- 'pagodalaw20.TimesCongruent': WHATEVER THE INPUT: true; the input reads as it did. -/
def timesCongruentSpec : ChangeSpec := { name := "timesCongruent", fn := fun _ => fun
  | [d1, d2, d3] => { results := [.lit (.bool true)], args := [d1, d2, d3] }
  | _ => none }
def timesCongruentRow : OpenClaim := { program := "ytjhffhmokcogkaagreatdoor", sum := "07ff42001b410f73aac83d3124600e76d0172f895a47d783bf1409eb0c61ba4b", func := "pagoda/pagodalaw20.TimesCongruent", spec := "timesCongruent", inPlace := ["internal/bytealg.IndexByteString"], unfollowed := true, recurses := true, named := ["pagoda/node.reserved", "pagoda/prim.names", "pagoda/times.slows"], loops := true, plainKeys := false, apart := false, laid := [("pagoda/node.reserved", laid_pagoda_node_reserved), ("pagoda/prim.names", laid_pagoda_prim_names), ("pagoda/times.slows", laid_pagoda_times_slows)] }
def TimesCongruentSaid : Prop := timesCongruentRow.holds Tryz.pinned (OpenSpec.ofChange timesCongruentSpec)

/-- ITS FALSE NEIGHBOUR: 'it returns false'. Refute it at one input. -/
def timesCongruentWrong : ChangeSpec := { name := "timesCongruent", fn := fun _ => fun
  | [d1, d2, d3] => { results := [.lit (.bool false)], args := [d1, d2, d3] }
  | _ => none }
def TimesCongruentWrongFalsely : Prop := timesCongruentRow.holds Tryz.pinned (OpenSpec.ofChange timesCongruentWrong)

/-- 'pagodalaw20.TimesChecks': WHATEVER THE INPUT: true; the input reads as it did. -/
def timesChecksSpec : ChangeSpec := { name := "timesChecks", fn := fun _ => fun
  | [d] => { results := [.lit (.bool true)], args := [d] }
  | _ => none }
def timesChecksRow : OpenClaim := { program := "ytjhffhmokcogkaagreatdoor", sum := "07ff42001b410f73aac83d3124600e76d0172f895a47d783bf1409eb0c61ba4b", func := "pagoda/pagodalaw20.TimesChecks", spec := "timesChecks", inPlace := ["internal/bytealg.IndexByteString"], unfollowed := true, recurses := true, named := ["pagoda/node.reserved", "pagoda/times.slows", "pagoda/prim.names"], loops := true, plainKeys := false, apart := false, laid := [("pagoda/node.reserved", laid_pagoda_node_reserved), ("pagoda/prim.names", laid_pagoda_prim_names), ("pagoda/times.slows", laid_pagoda_times_slows)] }
def TimesChecksSaid : Prop := timesChecksRow.holds Tryz.pinned (OpenSpec.ofChange timesChecksSpec)

/-- ITS FALSE NEIGHBOUR: 'it returns false'. Refute it at one input. -/
def timesChecksWrong : ChangeSpec := { name := "timesChecks", fn := fun _ => fun
  | [d] => { results := [.lit (.bool false)], args := [d] }
  | _ => none }
def TimesChecksWrongFalsely : Prop := timesChecksRow.holds Tryz.pinned (OpenSpec.ofChange timesChecksWrong)

/-- 'pagodalaw20.TimesPlains': WHATEVER THE INPUT: true; the input reads as it did. -/
def timesPlainsSpec : ChangeSpec := { name := "timesPlains", fn := fun _ => fun
  | [d1, d2] => { results := [.lit (.bool true)], args := [d1, d2] }
  | _ => none }
def timesPlainsRow : OpenClaim := { program := "ytjhffhmokcogkaagreatdoor", sum := "07ff42001b410f73aac83d3124600e76d0172f895a47d783bf1409eb0c61ba4b", func := "pagoda/pagodalaw20.TimesPlains", spec := "timesPlains", inPlace := ["internal/bytealg.IndexByteString"], unfollowed := true, recurses := true, named := ["pagoda/node.reserved", "pagoda/times.slows", "pagoda/prim.names"], loops := true, plainKeys := false, apart := false, laid := [("pagoda/node.reserved", laid_pagoda_node_reserved), ("pagoda/prim.names", laid_pagoda_prim_names), ("pagoda/times.slows", laid_pagoda_times_slows)] }
def TimesPlainsSaid : Prop := timesPlainsRow.holds Tryz.pinned (OpenSpec.ofChange timesPlainsSpec)

/-- ITS FALSE NEIGHBOUR: 'it returns false'. Refute it at one input. -/
def timesPlainsWrong : ChangeSpec := { name := "timesPlains", fn := fun _ => fun
  | [d1, d2] => { results := [.lit (.bool false)], args := [d1, d2] }
  | _ => none }
def TimesPlainsWrongFalsely : Prop := timesPlainsRow.holds Tryz.pinned (OpenSpec.ofChange timesPlainsWrong)

/-- 'pagodalaw20.TimesFinds': WHATEVER THE INPUT: true; the input reads as it did. -/
def timesFindsSpec : ChangeSpec := { name := "timesFinds", fn := fun _ => fun
  | [d1, d2] => { results := [.lit (.bool true)], args := [d1, d2] }
  | _ => none }
def timesFindsRow : OpenClaim := { program := "ytjhffhmokcogkaagreatdoor", sum := "07ff42001b410f73aac83d3124600e76d0172f895a47d783bf1409eb0c61ba4b", func := "pagoda/pagodalaw20.TimesFinds", spec := "timesFinds", inPlace := ["internal/bytealg.IndexByteString"], unfollowed := true, recurses := true, named := ["internal/strconv.uint64pow10", "math/bits.deBruijn32tab", "math/bits.deBruijn64tab", "pagoda/node.reserved", "pagoda/prim.names", "pagoda/times.slows"], loops := true, plainKeys := false, apart := false, laid := [("math/bits.deBruijn32tab", laid_math_bits_deBruijn32tab), ("math/bits.deBruijn64tab", laid_math_bits_deBruijn64tab), ("internal/strconv.uint64pow10", laid_internal_strconv_uint64pow10), ("pagoda/node.reserved", laid_pagoda_node_reserved), ("pagoda/prim.names", laid_pagoda_prim_names), ("pagoda/times.slows", laid_pagoda_times_slows)] }
def TimesFindsSaid : Prop := timesFindsRow.holds Tryz.pinned (OpenSpec.ofChange timesFindsSpec)

/-- ITS FALSE NEIGHBOUR: 'it returns false'. Refute it at one input. -/
def timesFindsWrong : ChangeSpec := { name := "timesFinds", fn := fun _ => fun
  | [d1, d2] => { results := [.lit (.bool false)], args := [d1, d2] }
  | _ => none }
def TimesFindsWrongFalsely : Prop := timesFindsRow.holds Tryz.pinned (OpenSpec.ofChange timesFindsWrong)

/-- 'pagodalaw20.TimesGiven': WHATEVER THE INPUT: true; the input reads as it did. -/
def timesGivenSpec : ChangeSpec := { name := "timesGiven", fn := fun _ => fun
  | [d] => { results := [.lit (.bool true)], args := [d] }
  | _ => none }
def timesGivenRow : OpenClaim := { program := "ytjhffhmokcogkaagreatdoor", sum := "07ff42001b410f73aac83d3124600e76d0172f895a47d783bf1409eb0c61ba4b", func := "pagoda/pagodalaw20.TimesGiven", spec := "timesGiven", inPlace := ["internal/bytealg.IndexByteString"], unfollowed := true, recurses := true, named := ["internal/strconv.uint64pow10", "math/bits.deBruijn32tab", "math/bits.deBruijn64tab", "pagoda/node.reserved", "pagoda/prim.names", "pagoda/times.slows"], loops := true, plainKeys := false, apart := false, laid := [("math/bits.deBruijn32tab", laid_math_bits_deBruijn32tab), ("math/bits.deBruijn64tab", laid_math_bits_deBruijn64tab), ("internal/strconv.uint64pow10", laid_internal_strconv_uint64pow10), ("pagoda/node.reserved", laid_pagoda_node_reserved), ("pagoda/prim.names", laid_pagoda_prim_names), ("pagoda/times.slows", laid_pagoda_times_slows)] }
def TimesGivenSaid : Prop := timesGivenRow.holds Tryz.pinned (OpenSpec.ofChange timesGivenSpec)

/-- ITS FALSE NEIGHBOUR: 'it returns false'. Refute it at one input. -/
def timesGivenWrong : ChangeSpec := { name := "timesGiven", fn := fun _ => fun
  | [d] => { results := [.lit (.bool false)], args := [d] }
  | _ => none }
def TimesGivenWrongFalsely : Prop := timesGivenRow.holds Tryz.pinned (OpenSpec.ofChange timesGivenWrong)

/- THE SECOND FORM. 'bulk': how many values and letters a reading holds, each counted each time it is reached (what is shared counts as often as it is met; a slice's spare places count too). A statement '..UptoSaid' is the law's where the arguments, and the package variables that the reading takes, are together of bulk at most 1048576: NARROWER than '..Said'. Prove '..Said' where nothing that the law and all that it calls make is longer than what came in: it says more and counts as full. Else prove '..UptoSaid'. A law counts once. -/
mutual
def uptoBulk {H : Type} : DataW H → Nat
  | .lit (.string bytes) => bytes.length + 1
  | .lit _ => 1
  | .nil => 1
  | .ptr d => uptoBulk d + 1
  | .slice elems spare => uptoBulkAll elems + uptoBulkAll spare + 1
  | .agg parts => uptoBulkAll parts + 1
  | .iface _ d => uptoBulk d + 1
  | .map entries => uptoBulkEntries entries + 1
  | .held _ => 1
def uptoBulkAll {H : Type} : List (DataW H) → Nat
  | [] => 0
  | d :: r => uptoBulk d + uptoBulkAll r
def uptoBulkEntries {H : Type} : List (Lit × DataW H) → Nat
  | [] => 0
  | x :: r => uptoBulkEntry x + uptoBulkEntries r
def uptoBulkEntry {H : Type} : Lit × DataW H → Nat
  | (.string bytes, d) => bytes.length + uptoBulk d + 1
  | (_, d) => uptoBulk d + 1
 end
def uptoSmall : (H : Type) → List (DataW H) → Bool := fun _ ds => decide (uptoBulkAll ds ≤ 1048576)
def OpenSpec.upto (s : _root_.Go.ChangeSpec) : _root_.Go.OpenSpec := { _root_.Go.OpenSpec.ofChange s with cond := some uptoSmall }

/-- 'pagodalaw20.TimesCongruent', WHERE WHAT IT READS IS OF BULK AT MOST 1048576: true; the input reads as it did. -/
def timesCongruentUptoRow : OpenClaim := { program := "ytjhffhmokcogkaagreatdoor", sum := "07ff42001b410f73aac83d3124600e76d0172f895a47d783bf1409eb0c61ba4b", func := "pagoda/pagodalaw20.TimesCongruent", spec := "timesCongruent", inPlace := ["internal/bytealg.IndexByteString"], unfollowed := true, recurses := true, named := ["pagoda/node.reserved", "pagoda/prim.names", "pagoda/times.slows"], loops := true, plainKeys := false, apart := false, laid := [("pagoda/node.reserved", laid_pagoda_node_reserved), ("pagoda/prim.names", laid_pagoda_prim_names), ("pagoda/times.slows", laid_pagoda_times_slows)], narrowed := true }
def TimesCongruentUptoSaid : Prop := timesCongruentUptoRow.holds Tryz.pinned (OpenSpec.upto timesCongruentSpec)

/-- 'pagodalaw20.TimesChecks', WHERE WHAT IT READS IS OF BULK AT MOST 1048576: true; the input reads as it did. -/
def timesChecksUptoRow : OpenClaim := { program := "ytjhffhmokcogkaagreatdoor", sum := "07ff42001b410f73aac83d3124600e76d0172f895a47d783bf1409eb0c61ba4b", func := "pagoda/pagodalaw20.TimesChecks", spec := "timesChecks", inPlace := ["internal/bytealg.IndexByteString"], unfollowed := true, recurses := true, named := ["pagoda/node.reserved", "pagoda/times.slows", "pagoda/prim.names"], loops := true, plainKeys := false, apart := false, laid := [("pagoda/node.reserved", laid_pagoda_node_reserved), ("pagoda/prim.names", laid_pagoda_prim_names), ("pagoda/times.slows", laid_pagoda_times_slows)], narrowed := true }
def TimesChecksUptoSaid : Prop := timesChecksUptoRow.holds Tryz.pinned (OpenSpec.upto timesChecksSpec)

/-- 'pagodalaw20.TimesPlains', WHERE WHAT IT READS IS OF BULK AT MOST 1048576: true; the input reads as it did. -/
def timesPlainsUptoRow : OpenClaim := { program := "ytjhffhmokcogkaagreatdoor", sum := "07ff42001b410f73aac83d3124600e76d0172f895a47d783bf1409eb0c61ba4b", func := "pagoda/pagodalaw20.TimesPlains", spec := "timesPlains", inPlace := ["internal/bytealg.IndexByteString"], unfollowed := true, recurses := true, named := ["pagoda/node.reserved", "pagoda/times.slows", "pagoda/prim.names"], loops := true, plainKeys := false, apart := false, laid := [("pagoda/node.reserved", laid_pagoda_node_reserved), ("pagoda/prim.names", laid_pagoda_prim_names), ("pagoda/times.slows", laid_pagoda_times_slows)], narrowed := true }
def TimesPlainsUptoSaid : Prop := timesPlainsUptoRow.holds Tryz.pinned (OpenSpec.upto timesPlainsSpec)

/-- 'pagodalaw20.TimesFinds', WHERE WHAT IT READS IS OF BULK AT MOST 1048576: true; the input reads as it did. -/
def timesFindsUptoRow : OpenClaim := { program := "ytjhffhmokcogkaagreatdoor", sum := "07ff42001b410f73aac83d3124600e76d0172f895a47d783bf1409eb0c61ba4b", func := "pagoda/pagodalaw20.TimesFinds", spec := "timesFinds", inPlace := ["internal/bytealg.IndexByteString"], unfollowed := true, recurses := true, named := ["internal/strconv.uint64pow10", "math/bits.deBruijn32tab", "math/bits.deBruijn64tab", "pagoda/node.reserved", "pagoda/prim.names", "pagoda/times.slows"], loops := true, plainKeys := false, apart := false, laid := [("math/bits.deBruijn32tab", laid_math_bits_deBruijn32tab), ("math/bits.deBruijn64tab", laid_math_bits_deBruijn64tab), ("internal/strconv.uint64pow10", laid_internal_strconv_uint64pow10), ("pagoda/node.reserved", laid_pagoda_node_reserved), ("pagoda/prim.names", laid_pagoda_prim_names), ("pagoda/times.slows", laid_pagoda_times_slows)], narrowed := true }
def TimesFindsUptoSaid : Prop := timesFindsUptoRow.holds Tryz.pinned (OpenSpec.upto timesFindsSpec)

/-- 'pagodalaw20.TimesGiven', WHERE WHAT IT READS IS OF BULK AT MOST 1048576: true; the input reads as it did. -/
def timesGivenUptoRow : OpenClaim := { program := "ytjhffhmokcogkaagreatdoor", sum := "07ff42001b410f73aac83d3124600e76d0172f895a47d783bf1409eb0c61ba4b", func := "pagoda/pagodalaw20.TimesGiven", spec := "timesGiven", inPlace := ["internal/bytealg.IndexByteString"], unfollowed := true, recurses := true, named := ["internal/strconv.uint64pow10", "math/bits.deBruijn32tab", "math/bits.deBruijn64tab", "pagoda/node.reserved", "pagoda/prim.names", "pagoda/times.slows"], loops := true, plainKeys := false, apart := false, laid := [("math/bits.deBruijn32tab", laid_math_bits_deBruijn32tab), ("math/bits.deBruijn64tab", laid_math_bits_deBruijn64tab), ("internal/strconv.uint64pow10", laid_internal_strconv_uint64pow10), ("pagoda/node.reserved", laid_pagoda_node_reserved), ("pagoda/prim.names", laid_pagoda_prim_names), ("pagoda/times.slows", laid_pagoda_times_slows)], narrowed := true }
def TimesGivenUptoSaid : Prop := timesGivenUptoRow.holds Tryz.pinned (OpenSpec.upto timesGivenSpec)

end Rows
end Go.Proofs.YtjhffhmokcogkaaGreatDoor
