/-
  DERIVED. GIVEN WITH THE SEED: THE PROGRAM's TIES (one call each: nine closed facts by the kernel) AND EACH ROW's TIE, after the 31st guide's Derived/Test/Toyas{Tie, Card}.lean. No idea stands in it: it is a product of the set-up. Laid BY PROGRAM, IN A SANDBOX (cutbox-door.mjs). By AI agents, Wed Nov 11 2026. No macro, syntax, notation, axiom, sorry.
-/
import Derived.Test.YtjhffhmokcogkaaGreatDoorRows
import Derived.LaidByTextLater
import Derived.SevenTiedAt
import Derived.LaidSub
import Derived.LaidOnce
namespace Go.Proofs.YtjhffhmokcogkaaGreatDoor
open Go
set_option maxRecDepth 100000
theorem seatTie1 : Tryz.prog.laidByTextLater [("math/bits.deBruijn32tab", Rows.laid_math_bits_deBruijn32tab), ("math/bits.deBruijn64tab", Rows.laid_math_bits_deBruijn64tab), ("internal/strconv.uint64pow10", Rows.laid_internal_strconv_uint64pow10), ("pagoda/node.reserved", Rows.laid_pagoda_node_reserved), ("pagoda/prim.names", Rows.laid_pagoda_prim_names), ("pagoda/times.slows", Rows.laid_pagoda_times_slows)] [.data, .data, .data, .mapped, .data, .widerDeep] true :=
  Program.laidByTextLater_by_one 95 8 65 (by kernel_rfl) (by kernel_rfl) (by kernel_rfl) (by kernel_rfl) (by kernel_rfl) (by kernel_rfl) (fun _ _ => by kernel_rfl)
theorem noOwnUnsafe : Tryz.pinned.checked.prog.headLifts.contains "ownunsafe" = false := by kernel_rfl
theorem tie : Tryz.prog.laidByTextLater [("pagoda/node.reserved", Rows.laid_pagoda_node_reserved), ("pagoda/prim.names", Rows.laid_pagoda_prim_names), ("pagoda/times.slows", Rows.laid_pagoda_times_slows)] [.mapped, .data, .widerDeep] true :=
  Program.laidByTextLater.sub seatTie1 ["pagoda/node.reserved", "pagoda/prim.names", "pagoda/times.slows"] (by kernel_rfl) (by kernel_rfl)
theorem timesCongruent_row_tie : Rows.timesCongruentRow.laidByTextAt .later Tryz.pinned [.mapped, .data, .widerDeep] true :=
  OpenClaim.laidByTextAt_later rfl rfl tie noOwnUnsafe
theorem timesChecks_row_tie : Rows.timesChecksRow.laidByTextAt .later Tryz.pinned [.mapped, .data, .widerDeep] true :=
  OpenClaim.laidByTextAt_later rfl rfl tie noOwnUnsafe
theorem timesPlains_row_tie : Rows.timesPlainsRow.laidByTextAt .later Tryz.pinned [.mapped, .data, .widerDeep] true :=
  OpenClaim.laidByTextAt_later rfl rfl tie noOwnUnsafe
theorem tie2 : Tryz.prog.laidByTextLater [("math/bits.deBruijn32tab", Rows.laid_math_bits_deBruijn32tab), ("math/bits.deBruijn64tab", Rows.laid_math_bits_deBruijn64tab), ("internal/strconv.uint64pow10", Rows.laid_internal_strconv_uint64pow10), ("pagoda/node.reserved", Rows.laid_pagoda_node_reserved), ("pagoda/prim.names", Rows.laid_pagoda_prim_names), ("pagoda/times.slows", Rows.laid_pagoda_times_slows)] [.data, .data, .data, .mapped, .data, .widerDeep] true :=
  Program.laidByTextLater.sub seatTie1 ["math/bits.deBruijn32tab", "math/bits.deBruijn64tab", "internal/strconv.uint64pow10", "pagoda/node.reserved", "pagoda/prim.names", "pagoda/times.slows"] (by kernel_rfl) (by kernel_rfl)
theorem timesFinds_row_tie : Rows.timesFindsRow.laidByTextAt .later Tryz.pinned [.data, .data, .data, .mapped, .data, .widerDeep] true :=
  OpenClaim.laidByTextAt_later rfl rfl tie2 noOwnUnsafe
theorem timesGiven_row_tie : Rows.timesGivenRow.laidByTextAt .later Tryz.pinned [.data, .data, .data, .mapped, .data, .widerDeep] true :=
  OpenClaim.laidByTextAt_later rfl rfl tie2 noOwnUnsafe
theorem timesCongruentUpto_row_tie : Rows.timesCongruentUptoRow.laidByTextAt .later Tryz.pinned [.mapped, .data, .widerDeep] true :=
  OpenClaim.laidByTextAt_later rfl rfl tie noOwnUnsafe
theorem timesChecksUpto_row_tie : Rows.timesChecksUptoRow.laidByTextAt .later Tryz.pinned [.mapped, .data, .widerDeep] true :=
  OpenClaim.laidByTextAt_later rfl rfl tie noOwnUnsafe
theorem timesPlainsUpto_row_tie : Rows.timesPlainsUptoRow.laidByTextAt .later Tryz.pinned [.mapped, .data, .widerDeep] true :=
  OpenClaim.laidByTextAt_later rfl rfl tie noOwnUnsafe
theorem timesFindsUpto_row_tie : Rows.timesFindsUptoRow.laidByTextAt .later Tryz.pinned [.data, .data, .data, .mapped, .data, .widerDeep] true :=
  OpenClaim.laidByTextAt_later rfl rfl tie2 noOwnUnsafe
theorem timesGivenUpto_row_tie : Rows.timesGivenUptoRow.laidByTextAt .later Tryz.pinned [.data, .data, .data, .mapped, .data, .widerDeep] true :=
  OpenClaim.laidByTextAt_later rfl rfl tie2 noOwnUnsafe
end Go.Proofs.YtjhffhmokcogkaaGreatDoor
