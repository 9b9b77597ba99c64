/- The row of DatumChecks. -/
import Derived.Test.YtbkgpdkimcnpgaaRows
import Derived.Test.YtbkgpdkimcnpgaaRd18
import Derived.Test.YtbkgpdkimcnpgaaRd19
namespace Go.Proofs.Ytbkgpdkimcnpgaa
open Go Go.ChangeMaps Go.ChangeShapes Go.WideShapes Go.ChangeAt Go.RowKit
set_option linter.unusedVariables false
set_option linter.unusedSimpArgs false

theorem own : ownKnob Try.prog.godebug = none := by kernel_rfl

/-- A law whose call answers true on arguments that are represented. -/
theorem Ab.law_calls {f : Nat} {args : List Ab.V} {n : Nat} (h : Ab.call Ab.X Ab.E n f args [] = some (.c (.bool true), [])) {W : World} {cargs : Array Value} {fz : Nat → Nat → Prop} (hfz : ∀ b o, fz b o → b < W.heap.size) (hl : cargs.size = args.length)
    (hr : ∀ i (hi : i < cargs.size) (hj : i < args.length), Ab.Rep ⟨fun _ => none, fun _ => none, fz⟩ W cargs[i] args[i]) :
    Calls Try.prog f cargs W (fun e W' => e = .returned (.bool true) ∧ Below W.heap.size W W') := by
  have H : Ab.HOk ⟨fun _ => none, fun _ => none, fz⟩ W [] := ⟨(fun _ _ e => by simp at e), (fun _ _ _ _ e => by simp at e), (fun _ _ _ e => by simp at e), (fun _ _ _ _ _ _ _ e => by simp at e), (fun _ _ _ _ _ e => by simp at e), hfz⟩
  refine Calls.mono ((Ab.seat_ok n _ _ _ _ _ h).2 _ W cargs H hl hr) ?_
  rintro e W' ⟨v, g', rfl, hle, _, hrep, _⟩
  have hv : v = .bool true := hrep.of_c
  subst hv
  refine ⟨rfl, ⟨hle.os, hle.tape, hle.output, hle.size, fun b hb => hle.kept b hb ?_⟩⟩
  rintro (⟨id, e⟩ | ⟨k, l, c, e⟩) <;> simp at e

theorem laidOut : laidOutB Try.prog = true := by kernel_rfl
def old (W : World) : Nat → Nat → Prop := fun b _ => b < W.heap.size
theorem stays {H : Type} {enc : TypeId × Value → H} {t : TypeId} (hr : Try.prog.readableRec t = true) (hrow : t < Try.prog.types.size) {W W' : World} {v : Value} {d : DataW H} {ps : List MemPlace}
    (h : DataW.Trod enc Try.prog W 0 (fun _ => true) true t v d ps) (hb : Below W.heap.size W W') : DataW.Trod enc Try.prog W' 0 (fun b => decide (b < W.heap.size)) true t v d ps := by
  refine hb.trod laidOut hr hrow h fun x hx => ?_
  obtain ⟨fuel, hf⟩ := h
  exact DataW.trod_lt fuel _ _ _ hf x hx

set_option maxRecDepth 100000 in
theorem datumChecks_lifted (os : Os) (started : os.Started) (H : Type) (enc : TypeId × Value → H) :
    ReturnsInHanded {} Try.checked os 3 .any (Rows.datumChecksSpec.pre6 enc Try.prog Try.f3 Rows.datumChecksRow.domain false) (Rows.datumChecksSpec.post enc Try.prog Try.f3 false true false false) := by
  refine returnsInHanded_of_change (C := Try.checked) own started (by kernel_rfl) Try.func3
    (ChangeSpec.witness6 (enc := enc) (C := Try.checked) false ⟨#[], #[.agg #[.int .i64 0, .int .i64 0, .string ⟨#[]⟩, .slice none 0 0]], []⟩ 8 (by kernel_rfl) (by kernel_rfl) (by kernel_rfl) (by kernel_rfl)) ?_
  intro W base args ds gs before hval0 hW hcnd _
  have hval : ∀ (j : Nat) t v, Try.f3.params[j]? = some t → args[j]? = some v → Value.okWide Try.prog W .any base t v := hval0
  have hW' := hW
  obtain ⟨p, q, hA0, hV, rfl, hfz, hnd⟩ := hW
  have hA : DataW.TrodAll enc Try.prog W 0 (fun _ => true) true Try.f3.params.toList args.toList ds p := hA0
  rw [Try.params3] at hA hval
  obtain ⟨v0, d0, rfl, rfl, h0⟩ := trodAll_one hA
  obtain ⟨rfl, rfl⟩ := trodVars_none hV
  obtain ⟨d, hd⟩ := Ab.open_datum (g := ⟨fun _ => none, fun _ => none, old W⟩) (fun _ _ h => h) (hval 0 24 v0 rfl rfl) h0
  simp only [List.append_nil] at hW'
  refine (Ab.law_calls (n := 20000) (args := [d.v]) (Ab.law3 d) (fz := old W) (W := W) (cargs := #[v0]) (fun _ _ h => h) rfl (fun i hi hj => by
    have h0 : i = 0 := by simpa using hi
    subst h0
    exact hd)).mono fun e W' ⟨he, hB⟩ => ?_
  subst he
  exact ⟨_, rfl, _, _, _, [], _, [], hW', trodAll_mk1 (shut_bool Try.underlying4 true), trodAll_mk1 (stays (by kernel_rfl) (by decide +kernel) h0 hB), rfl, hB.frame _, fun h => by cases h⟩

theorem datumChecks_holds : Rows.DatumChecksSaid :=
  OpenClaim.holds_of_wide 3 Try.f3 rfl rfl rfl rfl rfl rfl rfl ⟨rfl, rfl, rfl, rfl, rfl⟩ rfl rfl rfl rfl rfl (by kernel_rfl) Try.func3 (by kernel_rfl)
    (of_decide_eq_true (by kernel_rfl)) (by unfold Func.isWrapper; first | (rw [if_pos (by decide +kernel)]; kernel_rfl) | (rw [if_neg (by decide +kernel)]; exact ⟨rfl, rfl⟩))
    (fun os started H enc _ => datumChecks_lifted os started H enc)
end Go.Proofs.Ytbkgpdkimcnpgaa
