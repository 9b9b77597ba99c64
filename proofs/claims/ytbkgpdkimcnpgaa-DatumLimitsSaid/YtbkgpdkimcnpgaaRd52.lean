/- Reading arguments: bytes. -/
import Derived.Test.YtbkgpdkimcnpgaaRd25
namespace Go.Proofs.Ytbkgpdkimcnpgaa.Ab
open Go Go.ChangeMaps Go.ChangeShapes Go.WideShapes Go.ChangeAt Go.RowKit
set_option linter.unusedVariables false
set_option linter.unusedSimpArgs false

theorem open_byte {W : World} {g : Gh} {H : Type} {enc : TypeId × Value → H} {sp : Nat → Bool} {held : Bool} {r : Reach} {b0 : Nat} {v : Value} {dd : DataW H} {ps : List MemPlace} (hfz : ∀ b o, b < W.heap.size → g.fz b o) (hval : Value.okWide Try.prog W r b0 5 v) (hd : DataW.Trod enc Try.prog W 0 sp held 5 v dd ps) :
    ∃ b : Nat, b < 256 ∧ Rep g W v (.c (.int .u8 b)) := by
  obtain ⟨n, rfl, _, _, hw⟩ := open_int Try.underlying5 hval hd
  simp only [Lit.wf, Bool.and_eq_true, decide_eq_true_eq] at hw
  have h1 : IntKind.u8.min = 0 := by decide
  have h2 : IntKind.u8.max = 255 := by decide
  rw [h1, h2] at hw
  refine ⟨n.toNat, by omega, ?_⟩
  rw [Int.toNat_of_nonneg hw.1]
  exact .c _
end Go.Proofs.Ytbkgpdkimcnpgaa.Ab
