/- The row of DatumPaths. -/
import Derived.Test.YtbkgpdkimcnpgaaPd66
import Derived.Test.YtbkgpdkimcnpgaaPd25
namespace Go.Proofs.Ytbkgpdkimcnpgaa
open Go Go.ChangeMaps Go.ChangeShapes Go.WideShapes Go.ChangeAt Go.RowKit
set_option linter.unusedVariables false
set_option linter.unusedSimpArgs false
set_option maxRecDepth 100000 in
theorem datumPaths_lifted (os : Os) (started : os.Started) (H : Type) (enc : TypeId × Value → H) :
    ReturnsInHanded {} Try.checked os 7 .any (Rows.datumPathsSpec.pre6 enc Try.prog Try.f7 Rows.datumPathsRow.domain false) (Rows.datumPathsSpec.post enc Try.prog Try.f7 false true false false) := by
  refine returnsInHanded_of_change (C := Try.checked) own started (by kernel_rfl) Try.func7
    (ChangeSpec.witness6 (enc := enc) (C := Try.checked) false ⟨#[], #[.agg #[.int .i64 0, .int .i64 0, .string ⟨#[]⟩, .slice none 0 0]], []⟩ 8 (by kernel_rfl) (by kernel_rfl) (by kernel_rfl) (by kernel_rfl)) ?_
  intro W base args ds gs before hval0 hW hcnd _
  have hval : ∀ (j : Nat) t v, Try.f7.params[j]? = some t → args[j]? = some v → Value.okWide Try.prog W .any base t v := hval0
  have hW' := hW
  obtain ⟨p, q, hA0, hV, rfl, hfz, hnd⟩ := hW
  have hA : DataW.TrodAll enc Try.prog W 0 (fun _ => true) true Try.f7.params.toList args.toList ds p := hA0
  rw [Try.params7] at hA hval
  obtain ⟨v0, d0, rfl, rfl, h0⟩ := trodAll_one hA
  obtain ⟨rfl, rfl⟩ := trodVars_none hV
  obtain ⟨x0, r0⟩ := Ab.open_datum (g := ⟨fun _ => none, fun _ => none, old W⟩) (fun _ _ h => h) (hval 0 24 v0 rfl rfl) h0
  simp only [List.append_nil] at hW'
  refine (Ab.law_calls (n := 20000) (args := [x0.v]) (Ab.law7 x0) (fz := old W) (W := W) (cargs := #[v0]) (fun _ _ h => h) rfl (fun i hi hj => by
    match i, hj with
    | 0, _ => exact r0)).mono fun e W' ⟨he, hB⟩ => ?_
  subst he
  exact ⟨_, rfl, _, _, _, [], _, [], hW', trodAll_mk1 (shut_bool Try.underlying4 true), trodAll_mk1 (stays (by kernel_rfl) (by decide +kernel) h0 hB), rfl, hB.frame _, fun h => by cases h⟩

theorem datumPaths_holds : Rows.DatumPathsSaid :=
  OpenClaim.holds_of_wide 7 Try.f7 rfl rfl rfl rfl rfl rfl rfl ⟨rfl, rfl, rfl, rfl, rfl⟩ rfl rfl rfl rfl rfl (by kernel_rfl) Try.func7 (by kernel_rfl)
    (of_decide_eq_true (by kernel_rfl)) (by unfold Func.isWrapper; first | (rw [if_pos (by decide +kernel)]; kernel_rfl) | (rw [if_neg (by decide +kernel)]; exact ⟨rfl, rfl⟩))
    (fun os started H enc _ => datumPaths_lifted os started H enc)
end Go.Proofs.Ytbkgpdkimcnpgaa
