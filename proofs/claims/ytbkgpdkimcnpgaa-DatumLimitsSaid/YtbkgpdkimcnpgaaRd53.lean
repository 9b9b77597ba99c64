/- The row of DatumLimits. -/
import Derived.Test.YtbkgpdkimcnpgaaRd51
import Derived.Test.YtbkgpdkimcnpgaaRd52
namespace Go.Proofs.Ytbkgpdkimcnpgaa
open Go Go.ChangeMaps Go.ChangeShapes Go.WideShapes Go.ChangeAt Go.RowKit
set_option linter.unusedVariables false
set_option linter.unusedSimpArgs false
set_option maxRecDepth 100000 in
theorem datumLimits_lifted (os : Os) (started : os.Started) (H : Type) (enc : TypeId × Value → H) :
    ReturnsInHanded {} Try.checked os 5 .any (Rows.datumLimitsSpec.pre6 enc Try.prog Try.f5 Rows.datumLimitsRow.domain false) (Rows.datumLimitsSpec.post enc Try.prog Try.f5 false true false false) := by
  refine returnsInHanded_of_change (C := Try.checked) own started (by kernel_rfl) Try.func5
    (ChangeSpec.witness6 (enc := enc) (C := Try.checked) false ⟨#[], #[.int .u8 0, .int .u8 0, .int .u8 0], []⟩ 8 (by kernel_rfl) (by kernel_rfl) (by kernel_rfl) (by kernel_rfl)) ?_
  intro W base args ds gs before hval0 hW hcnd _
  have hval : ∀ (j : Nat) t v, Try.f5.params[j]? = some t → args[j]? = some v → Value.okWide Try.prog W .any base t v := hval0
  have hW' := hW
  obtain ⟨p, q, hA0, hV, rfl, hfz, hnd⟩ := hW
  have hA : DataW.TrodAll enc Try.prog W 0 (fun _ => true) true Try.f5.params.toList args.toList ds p := hA0
  rw [Try.params5] at hA hval
  obtain ⟨v0, v1, v2, d0, d1, d2, p0, p1, p2, rfl, rfl, rfl, h0, h1, h2⟩ := trodAll_three hA
  obtain ⟨rfl, rfl⟩ := trodVars_none hV
  obtain ⟨x0, y0, r0⟩ := Ab.open_byte (g := ⟨fun _ => none, fun _ => none, old W⟩) (fun _ _ h => h) (hval 0 5 v0 rfl rfl) h0
  obtain ⟨x1, y1, r1⟩ := Ab.open_byte (g := ⟨fun _ => none, fun _ => none, old W⟩) (fun _ _ h => h) (hval 1 5 v1 rfl rfl) h1
  obtain ⟨x2, y2, r2⟩ := Ab.open_byte (g := ⟨fun _ => none, fun _ => none, old W⟩) (fun _ _ h => h) (hval 2 5 v2 rfl rfl) h2
  simp only [List.append_nil] at hW'
  refine (Ab.law_calls (n := 500000) (args := [.c (.int .u8 x0), .c (.int .u8 x1), .c (.int .u8 x2)]) (Ab.law5 x0 x1 x2 y0 y1 y2) (fz := old W) (W := W) (cargs := #[v0, v1, v2]) (fun _ _ h => h) rfl (fun i hi hj => by
    match i, hj with
    | 0, _ => exact r0
    | 1, _ => exact r1
    | 2, _ => exact r2)).mono fun e W' ⟨he, hB⟩ => ?_
  subst he
  exact ⟨_, rfl, _, _, _, [], _, [], hW', trodAll_mk1 (shut_bool Try.underlying4 true), trodAll_mk3 (stays (by kernel_rfl) (by decide +kernel) h0 hB) (stays (by kernel_rfl) (by decide +kernel) h1 hB) (stays (by kernel_rfl) (by decide +kernel) h2 hB), rfl, hB.frame _, fun h => by cases h⟩

theorem datumLimits_holds : Rows.DatumLimitsSaid :=
  OpenClaim.holds_of_wide 5 Try.f5 rfl rfl rfl rfl rfl rfl rfl ⟨rfl, rfl, rfl, rfl, rfl⟩ rfl rfl rfl rfl rfl (by kernel_rfl) Try.func5 (by kernel_rfl)
    (of_decide_eq_true (by kernel_rfl)) (by unfold Func.isWrapper; first | (rw [if_pos (by decide +kernel)]; kernel_rfl) | (rw [if_neg (by decide +kernel)]; exact ⟨rfl, rfl⟩))
    (fun os started H enc _ => datumLimits_lifted os started H enc)
end Go.Proofs.Ytbkgpdkimcnpgaa
