/-
  NARROWER THAN 'FOR EVERY INPUT', by the rows' own cells (each row's printed sentence says how): SyntaxChecks: loops, laid · SyntaxNames: laid · SyntaxPut: loops, laid · SyntaxWeighs: loops, laid · SyntaxParts: loops, laid · SyntaxForms: loops, laid.
  DERIVED. THE GIVEN ROWS OF THIS SEAT. 6 by the template 'for every input the law returns true; each argument reads behind the call as it read before'; 0 by the template 'total and deterministic' (their statements: YtkiliokeanmagaaDoorTotals.lean).
  GIVEN WITH THE SEED: the statements are not yours to turn. If you find one false, say at which input.
  Laid BY PROGRAM, IN A SANDBOX (cutbox-rows.mjs): the forced cells as the released guide's own fill.sh prints them over the translation 9eedd1278d3f99aa… (all of the seat's roots in one cut). By AI agents, Wed Nov 11 2026. No macro, syntax, notation, axiom, sorry.
-/
import Derived.Test.YtkiliokeanmagaaDoorChecked
import GoSem.Claim
import GoSem.ClaimJoined
import GoSem.ClaimMapViews
import Derived.JoinedTies
import Derived.KernelRfl
namespace Go.Proofs.YtkiliokeanmagaaDoor
/- THE CELL 'sum', in the pinned program and in every row, IS THE sha256 OF THE DUMP (.gsa) THAT YtkiliokeanmagaaDoorProg.lean LOADS. Nothing in Lean hashes anything: it is a label: what it is worth is what the hold of that sum in a sandbox is worth. -/
noncomputable def Tryd.pinned : Pinned := { name := "ytkiliokeanmagaadoor", sum := "9eedd1278d3f99aa343510e35f634248cfc1bb308a6a3c552ebd8bf7961da5b9", checked := Tryd.checked }
namespace Rows
def none {H : Type} : Left H := { results := [], args := [] }

/- WHAT THE LISTED PACKAGE-LEVEL VARIABLES READ AS WHEN THE CALL BEGINS. Each datum BY PROGRAM (the guide's laid-datum.mjs) off the statement by which the dump's own 'gosem.cut.vars' lays the variable. In a bare row this is a premise. The card (YtkiliokeanmagaaDoorCards.lean) ties it to the program's text. -/
def laid_pagoda_syntax_words {H : Type} : DataW H := .map [(.string [102, 110], .lit (.int .i64 5)), (.string [105, 102], .lit (.int .i64 4)), (.string [108, 101, 116], .lit (.int .i64 6)), (.string [113, 117, 111, 116, 101], .lit (.int .i64 3)), (.string [114, 101, 99], .lit (.int .i64 7)), (.string [115, 101, 113], .lit (.int .i64 8)), (.string [117, 112], .lit (.int .i64 9))]

/-- 'pagodalaw04.SyntaxChecks': WHATEVER THE INPUT: true; the input reads as it did. -/
def syntaxChecksSpec : ChangeSpec := { name := "syntaxChecks", fn := fun _ => fun
  | [d] => { results := [.lit (.bool true)], args := [d] }
  | _ => none }
def syntaxChecksRow : OpenClaim := { program := "ytkiliokeanmagaadoor", sum := "9eedd1278d3f99aa343510e35f634248cfc1bb308a6a3c552ebd8bf7961da5b9", func := "pagoda/pagodalaw04.SyntaxChecks", spec := "syntaxChecks", inPlace := ["internal/bytealg.IndexByteString"], unfollowed := true, recurses := true, named := ["pagoda/syntax.words"], loops := true, apart := false, laid := [("pagoda/syntax.words", laid_pagoda_syntax_words)] }
def SyntaxChecksSaid : Prop := syntaxChecksRow.holds Tryd.pinned (OpenSpec.ofChange syntaxChecksSpec)

/-- ITS FALSE NEIGHBOUR: 'it returns false'. Refute it at one input. -/
def syntaxChecksWrong : ChangeSpec := { name := "syntaxChecks", fn := fun _ => fun
  | [d] => { results := [.lit (.bool false)], args := [d] }
  | _ => none }
def SyntaxChecksWrongFalsely : Prop := syntaxChecksRow.holds Tryd.pinned (OpenSpec.ofChange syntaxChecksWrong)

/-- 'pagodalaw04.SyntaxNames': WHATEVER THE INPUT: true; the input reads as it did. -/
def syntaxNamesSpec : ChangeSpec := { name := "syntaxNames", fn := fun _ => fun
  | [d] => { results := [.lit (.bool true)], args := [d] }
  | _ => none }
def syntaxNamesRow : OpenClaim := { program := "ytkiliokeanmagaadoor", sum := "9eedd1278d3f99aa343510e35f634248cfc1bb308a6a3c552ebd8bf7961da5b9", func := "pagoda/pagodalaw04.SyntaxNames", spec := "syntaxNames", inPlace := ["internal/bytealg.IndexByteString"], unfollowed := true, recurses := true, named := ["pagoda/syntax.words"], apart := false, laid := [("pagoda/syntax.words", laid_pagoda_syntax_words)] }
def SyntaxNamesSaid : Prop := syntaxNamesRow.holds Tryd.pinned (OpenSpec.ofChange syntaxNamesSpec)

/-- ITS FALSE NEIGHBOUR: 'it returns false'. Refute it at one input. -/
def syntaxNamesWrong : ChangeSpec := { name := "syntaxNames", fn := fun _ => fun
  | [d] => { results := [.lit (.bool false)], args := [d] }
  | _ => none }
def SyntaxNamesWrongFalsely : Prop := syntaxNamesRow.holds Tryd.pinned (OpenSpec.ofChange syntaxNamesWrong)

/-- 'pagodalaw04.SyntaxPut': WHATEVER THE INPUT: true; the input reads as it did. -/
def syntaxPutSpec : ChangeSpec := { name := "syntaxPut", fn := fun _ => fun
  | [d1, d2, d3] => { results := [.lit (.bool true)], args := [d1, d2, d3] }
  | _ => none }
def syntaxPutRow : OpenClaim := { program := "ytkiliokeanmagaadoor", sum := "9eedd1278d3f99aa343510e35f634248cfc1bb308a6a3c552ebd8bf7961da5b9", func := "pagoda/pagodalaw04.SyntaxPut", spec := "syntaxPut", inPlace := ["internal/bytealg.IndexByteString"], unfollowed := true, recurses := true, named := ["pagoda/syntax.words"], loops := true, apart := false, laid := [("pagoda/syntax.words", laid_pagoda_syntax_words)] }
def SyntaxPutSaid : Prop := syntaxPutRow.holds Tryd.pinned (OpenSpec.ofChange syntaxPutSpec)

/-- ITS FALSE NEIGHBOUR: 'it returns false'. Refute it at one input. -/
def syntaxPutWrong : ChangeSpec := { name := "syntaxPut", fn := fun _ => fun
  | [d1, d2, d3] => { results := [.lit (.bool false)], args := [d1, d2, d3] }
  | _ => none }
def SyntaxPutWrongFalsely : Prop := syntaxPutRow.holds Tryd.pinned (OpenSpec.ofChange syntaxPutWrong)

/-- 'pagodalaw04.SyntaxWeighs': WHATEVER THE INPUT: true; the input reads as it did. -/
def syntaxWeighsSpec : ChangeSpec := { name := "syntaxWeighs", fn := fun _ => fun
  | [d1, d2, d3] => { results := [.lit (.bool true)], args := [d1, d2, d3] }
  | _ => none }
def syntaxWeighsRow : OpenClaim := { program := "ytkiliokeanmagaadoor", sum := "9eedd1278d3f99aa343510e35f634248cfc1bb308a6a3c552ebd8bf7961da5b9", func := "pagoda/pagodalaw04.SyntaxWeighs", spec := "syntaxWeighs", inPlace := ["internal/bytealg.IndexByteString"], unfollowed := true, recurses := true, named := ["pagoda/syntax.words"], loops := true, apart := false, laid := [("pagoda/syntax.words", laid_pagoda_syntax_words)] }
def SyntaxWeighsSaid : Prop := syntaxWeighsRow.holds Tryd.pinned (OpenSpec.ofChange syntaxWeighsSpec)

/-- ITS FALSE NEIGHBOUR: 'it returns false'. Refute it at one input. -/
def syntaxWeighsWrong : ChangeSpec := { name := "syntaxWeighs", fn := fun _ => fun
  | [d1, d2, d3] => { results := [.lit (.bool false)], args := [d1, d2, d3] }
  | _ => none }
def SyntaxWeighsWrongFalsely : Prop := syntaxWeighsRow.holds Tryd.pinned (OpenSpec.ofChange syntaxWeighsWrong)

/-- 'pagodalaw04.SyntaxParts': WHATEVER THE INPUT: true; the input reads as it did. -/
def syntaxPartsSpec : ChangeSpec := { name := "syntaxParts", fn := fun _ => fun
  | [d] => { results := [.lit (.bool true)], args := [d] }
  | _ => none }
def syntaxPartsRow : OpenClaim := { program := "ytkiliokeanmagaadoor", sum := "9eedd1278d3f99aa343510e35f634248cfc1bb308a6a3c552ebd8bf7961da5b9", func := "pagoda/pagodalaw04.SyntaxParts", spec := "syntaxParts", inPlace := ["internal/bytealg.IndexByteString"], unfollowed := true, recurses := true, named := ["pagoda/syntax.words"], loops := true, apart := false, laid := [("pagoda/syntax.words", laid_pagoda_syntax_words)] }
def SyntaxPartsSaid : Prop := syntaxPartsRow.holds Tryd.pinned (OpenSpec.ofChange syntaxPartsSpec)

/-- ITS FALSE NEIGHBOUR: 'it returns false'. Refute it at one input. -/
def syntaxPartsWrong : ChangeSpec := { name := "syntaxParts", fn := fun _ => fun
  | [d] => { results := [.lit (.bool false)], args := [d] }
  | _ => none }
def SyntaxPartsWrongFalsely : Prop := syntaxPartsRow.holds Tryd.pinned (OpenSpec.ofChange syntaxPartsWrong)

/-- 'pagodalaw04.SyntaxForms': WHATEVER THE INPUT: true; the input reads as it did. -/
def syntaxFormsSpec : ChangeSpec := { name := "syntaxForms", fn := fun _ => fun
  | [d] => { results := [.lit (.bool true)], args := [d] }
  | _ => none }
def syntaxFormsRow : OpenClaim := { program := "ytkiliokeanmagaadoor", sum := "9eedd1278d3f99aa343510e35f634248cfc1bb308a6a3c552ebd8bf7961da5b9", func := "pagoda/pagodalaw04.SyntaxForms", spec := "syntaxForms", inPlace := ["internal/bytealg.IndexByteString"], unfollowed := true, recurses := true, named := ["pagoda/syntax.words"], loops := true, apart := false, laid := [("pagoda/syntax.words", laid_pagoda_syntax_words)] }
def SyntaxFormsSaid : Prop := syntaxFormsRow.holds Tryd.pinned (OpenSpec.ofChange syntaxFormsSpec)

/-- ITS FALSE NEIGHBOUR: 'it returns false'. Refute it at one input. -/
def syntaxFormsWrong : ChangeSpec := { name := "syntaxForms", fn := fun _ => fun
  | [d] => { results := [.lit (.bool false)], args := [d] }
  | _ => none }
def SyntaxFormsWrongFalsely : Prop := syntaxFormsRow.holds Tryd.pinned (OpenSpec.ofChange syntaxFormsWrong)

/- THE SECOND FORM. 'bulk': how many values and letters a reading holds, each counted each time it is reached (what is shared counts as often as it is met; a slice's spare places count too). A statement '..UptoSaid' is the law's where the arguments, and the package variables that the reading takes, are together of bulk at most 1048576: NARROWER than '..Said'. Prove '..Said' where nothing that the law and all that it calls make is longer than what came in: it says more and counts as full. Else prove '..UptoSaid'. A law counts once. -/
mutual
def uptoBulk {H : Type} : DataW H → Nat
  | .lit (.string bytes) => bytes.length + 1
  | .lit _ => 1
  | .nil => 1
  | .ptr d => uptoBulk d + 1
  | .slice elems spare => uptoBulkAll elems + uptoBulkAll spare + 1
  | .agg parts => uptoBulkAll parts + 1
  | .iface _ d => uptoBulk d + 1
  | .map entries => uptoBulkEntries entries + 1
  | .held _ => 1
def uptoBulkAll {H : Type} : List (DataW H) → Nat
  | [] => 0
  | d :: r => uptoBulk d + uptoBulkAll r
def uptoBulkEntries {H : Type} : List (Lit × DataW H) → Nat
  | [] => 0
  | x :: r => uptoBulkEntry x + uptoBulkEntries r
def uptoBulkEntry {H : Type} : Lit × DataW H → Nat
  | (.string bytes, d) => bytes.length + uptoBulk d + 1
  | (_, d) => uptoBulk d + 1
 end
def uptoSmall : (H : Type) → List (DataW H) → Bool := fun _ ds => decide (uptoBulkAll ds ≤ 1048576)
def OpenSpec.upto (s : _root_.Go.ChangeSpec) : _root_.Go.OpenSpec := { _root_.Go.OpenSpec.ofChange s with cond := some uptoSmall }

/-- 'pagodalaw04.SyntaxChecks', WHERE WHAT IT READS IS OF BULK AT MOST 1048576: true; the input reads as it did. -/
def syntaxChecksUptoRow : OpenClaim := { program := "ytkiliokeanmagaadoor", sum := "9eedd1278d3f99aa343510e35f634248cfc1bb308a6a3c552ebd8bf7961da5b9", func := "pagoda/pagodalaw04.SyntaxChecks", spec := "syntaxChecks", inPlace := ["internal/bytealg.IndexByteString"], unfollowed := true, recurses := true, named := ["pagoda/syntax.words"], loops := true, apart := false, laid := [("pagoda/syntax.words", laid_pagoda_syntax_words)], narrowed := true }
def SyntaxChecksUptoSaid : Prop := syntaxChecksUptoRow.holds Tryd.pinned (OpenSpec.upto syntaxChecksSpec)

/-- 'pagodalaw04.SyntaxNames', WHERE WHAT IT READS IS OF BULK AT MOST 1048576: true; the input reads as it did. -/
def syntaxNamesUptoRow : OpenClaim := { program := "ytkiliokeanmagaadoor", sum := "9eedd1278d3f99aa343510e35f634248cfc1bb308a6a3c552ebd8bf7961da5b9", func := "pagoda/pagodalaw04.SyntaxNames", spec := "syntaxNames", inPlace := ["internal/bytealg.IndexByteString"], unfollowed := true, recurses := true, named := ["pagoda/syntax.words"], apart := false, laid := [("pagoda/syntax.words", laid_pagoda_syntax_words)], narrowed := true }
def SyntaxNamesUptoSaid : Prop := syntaxNamesUptoRow.holds Tryd.pinned (OpenSpec.upto syntaxNamesSpec)

/-- 'pagodalaw04.SyntaxPut', WHERE WHAT IT READS IS OF BULK AT MOST 1048576: true; the input reads as it did. -/
def syntaxPutUptoRow : OpenClaim := { program := "ytkiliokeanmagaadoor", sum := "9eedd1278d3f99aa343510e35f634248cfc1bb308a6a3c552ebd8bf7961da5b9", func := "pagoda/pagodalaw04.SyntaxPut", spec := "syntaxPut", inPlace := ["internal/bytealg.IndexByteString"], unfollowed := true, recurses := true, named := ["pagoda/syntax.words"], loops := true, apart := false, laid := [("pagoda/syntax.words", laid_pagoda_syntax_words)], narrowed := true }
def SyntaxPutUptoSaid : Prop := syntaxPutUptoRow.holds Tryd.pinned (OpenSpec.upto syntaxPutSpec)

/-- 'pagodalaw04.SyntaxWeighs', WHERE WHAT IT READS IS OF BULK AT MOST 1048576: true; the input reads as it did. -/
def syntaxWeighsUptoRow : OpenClaim := { program := "ytkiliokeanmagaadoor", sum := "9eedd1278d3f99aa343510e35f634248cfc1bb308a6a3c552ebd8bf7961da5b9", func := "pagoda/pagodalaw04.SyntaxWeighs", spec := "syntaxWeighs", inPlace := ["internal/bytealg.IndexByteString"], unfollowed := true, recurses := true, named := ["pagoda/syntax.words"], loops := true, apart := false, laid := [("pagoda/syntax.words", laid_pagoda_syntax_words)], narrowed := true }
def SyntaxWeighsUptoSaid : Prop := syntaxWeighsUptoRow.holds Tryd.pinned (OpenSpec.upto syntaxWeighsSpec)

/-- 'pagodalaw04.SyntaxParts', WHERE WHAT IT READS IS OF BULK AT MOST 1048576: true; the input reads as it did. -/
def syntaxPartsUptoRow : OpenClaim := { program := "ytkiliokeanmagaadoor", sum := "9eedd1278d3f99aa343510e35f634248cfc1bb308a6a3c552ebd8bf7961da5b9", func := "pagoda/pagodalaw04.SyntaxParts", spec := "syntaxParts", inPlace := ["internal/bytealg.IndexByteString"], unfollowed := true, recurses := true, named := ["pagoda/syntax.words"], loops := true, apart := false, laid := [("pagoda/syntax.words", laid_pagoda_syntax_words)], narrowed := true }
def SyntaxPartsUptoSaid : Prop := syntaxPartsUptoRow.holds Tryd.pinned (OpenSpec.upto syntaxPartsSpec)

/-- 'pagodalaw04.SyntaxForms', WHERE WHAT IT READS IS OF BULK AT MOST 1048576: true; the input reads as it did. -/
def syntaxFormsUptoRow : OpenClaim := { program := "ytkiliokeanmagaadoor", sum := "9eedd1278d3f99aa343510e35f634248cfc1bb308a6a3c552ebd8bf7961da5b9", func := "pagoda/pagodalaw04.SyntaxForms", spec := "syntaxForms", inPlace := ["internal/bytealg.IndexByteString"], unfollowed := true, recurses := true, named := ["pagoda/syntax.words"], loops := true, apart := false, laid := [("pagoda/syntax.words", laid_pagoda_syntax_words)], narrowed := true }
def SyntaxFormsUptoSaid : Prop := syntaxFormsUptoRow.holds Tryd.pinned (OpenSpec.upto syntaxFormsSpec)

end Rows
end Go.Proofs.YtkiliokeanmagaaDoor
