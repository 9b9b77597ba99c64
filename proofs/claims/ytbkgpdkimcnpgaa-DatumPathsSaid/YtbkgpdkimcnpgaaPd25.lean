/- What the rows' proofs share. -/
import Derived.Test.YtbkgpdkimcnpgaaRows
import Derived.Test.YtbkgpdkimcnpgaaPd3
import Derived.Test.YtbkgpdkimcnpgaaPd19
namespace Go.Proofs.Ytbkgpdkimcnpgaa
open Go Go.ChangeMaps Go.ChangeShapes Go.WideShapes Go.ChangeAt Go.RowKit
set_option linter.unusedVariables false
set_option linter.unusedSimpArgs false

theorem own : ownKnob Try.prog.godebug = none := by kernel_rfl

/-- A law whose call answers true on arguments that are represented. -/
theorem Ab.law_calls {f : Nat} {args : List Ab.V} {n : Nat} (h : Ab.call Ab.X Ab.E n f args [] = some (.c (.bool true), [])) {W : World} {cargs : Array Value} {fz : Nat → Nat → Prop} (hfz : ∀ b o, fz b o → b < W.heap.size) (hl : cargs.size = args.length)
    (hr : ∀ i (hi : i < cargs.size) (hj : i < args.length), Ab.Rep ⟨fun _ => none, fun _ => none, fz⟩ W cargs[i] args[i]) :
    Calls Try.prog f cargs W (fun e W' => e = .returned (.bool true) ∧ Below W.heap.size W W') := by
  have H : Ab.HOk ⟨fun _ => none, fun _ => none, fz⟩ W [] := ⟨(fun _ _ e => by simp at e), (fun _ _ _ _ e => by simp at e), (fun _ _ _ e => by simp at e), (fun _ _ _ _ _ _ _ e => by simp at e), (fun _ _ _ _ _ e => by simp at e), hfz⟩
  refine Calls.mono ((Ab.seat_ok n _ _ _ _ _ h).2 _ W cargs H hl hr) ?_
  rintro e W' ⟨v, g', rfl, hle, _, hrep, _⟩
  have hv : v = .bool true := hrep.of_c
  subst hv
  refine ⟨rfl, ⟨hle.os, hle.tape, hle.output, hle.size, fun b hb => hle.kept b hb ?_⟩⟩
  rintro (⟨id, e⟩ | ⟨k, l, c, e⟩) <;> simp at e

theorem laidOut : laidOutB Try.prog = true := by kernel_rfl
def old (W : World) : Nat → Nat → Prop := fun b _ => b < W.heap.size
theorem stays {H : Type} {enc : TypeId × Value → H} {t : TypeId} (hr : Try.prog.readableRec t = true) (hrow : t < Try.prog.types.size) {W W' : World} {v : Value} {d : DataW H} {ps : List MemPlace}
    (h : DataW.Trod enc Try.prog W 0 (fun _ => true) true t v d ps) (hb : Below W.heap.size W W') : DataW.Trod enc Try.prog W' 0 (fun b => decide (b < W.heap.size)) true t v d ps := by
  refine hb.trod laidOut hr hrow h fun x hx => ?_
  obtain ⟨fuel, hf⟩ := h
  exact DataW.trod_lt fuel _ _ _ hf x hx
end Go.Proofs.Ytbkgpdkimcnpgaa
