/- What the rows' proofs share: what the listed variable gives; a law's call. -/
import Derived.Test.YtkiliokeanmagaaDoorRows
import Derived.Test.YtkiliokeanmagaaDoorSd3
import Derived.ProofKit
import Derived.LaidMore
import Derived.OpenShut
import Derived.Stop.Joined
import Derived.ChangeMaps5
namespace Go.Proofs.YtkiliokeanmagaaDoor
open Go Go.ChangeMaps Go.ChangeShapes Go.WideShapes Go.ChangeAt Go.RowKit
set_option linter.unusedVariables false
set_option linter.unusedSimpArgs false

theorem own : ownKnob Tryd.prog.godebug = none := by kernel_rfl
theorem laidOut : laidOutB Tryd.prog = true := by kernel_rfl
theorem gWords : Tryd.prog.globalNamed "pagoda/syntax.words" = some 0 := by kernel_rfl
theorem tWords : ∃ T k, (Tryd.prog.globals[0]?).map (·.type) = some T ∧ Tryd.prog.underlying T = some (.map 9 k) ∧ Tryd.prog.underlying k = some (.int .i64) :=
  ⟨((Tryd.prog.globals[0]?).map (·.type)).getD 0, 3, by kernel_rfl, by kernel_rfl, by kernel_rfl⟩
theorem lawW : WideMaps.KeyLaw Tryd.prog 9 := WideMaps.string_law Tryd.underlying9
def laidL : List (String × DataW Unit) := [("pagoda/syntax.words", Rows.laid_pagoda_syntax_words)]
/-- The door's own heap meets the condition: three closed facts. -/
theorem door_met (os : Os) (args : Array Value) : laidMetH Tryd.prog laidL ((World.doorLaid Tryd.prog 400 os).forCall (fun _ _ => 0) ⟨#[], args, []⟩).memory :=
  laidMetH_of_parts3 (fuel := 8) (laidMet_of_run' 8 (by kernel_rfl) (by kernel_rfl)) (by kernel_rfl) (by kernel_rfl)

def wl : List (List UInt8 × Int) := [([102, 110], 5), ([105, 102], 4), ([108, 101, 116], 6), ([113, 117, 111, 116, 101], 3), ([114, 101, 99], 7), ([115, 101, 113], 8), ([117, 112], 9)]
theorem laid_wl : Rows.laid_pagoda_syntax_words (H := Unit) = .map (wl.map fun p => (.string p.1, .lit (.int .i64 p.2))) := rfl
theorem mem_fold {H : Type} {y : Lit × DataW H} : ∀ l : List (Lit × DataW H), y ∈ l.foldr DataW.insert [] ↔ y ∈ l
  | [] => Iff.rfl
  | x :: l => by rw [List.foldr_cons, mem_insert_iff, mem_fold l, List.mem_cons]
theorem pw_inj : ∀ {l : List MapEntry}, l.Pairwise (fun a b => a.key ≠ b.key) → ∀ e ∈ l, ∀ e' ∈ l, e.key = e'.key → e = e'
  | [], _, e, h, _, _, _ => by simp at h
  | a :: l, hp, e, h, e', h', hk => by
    rw [List.pairwise_cons] at hp
    rcases List.mem_cons.1 h with h1 | h1 <;> rcases List.mem_cons.1 h' with h2 | h2
    · rw [h1, h2]
    · subst h1; exact absurd hk (hp.1 _ h2)
    · subst h2; exact absurd hk.symm (hp.1 _ h1)
    · exact pw_inj hp.2 _ h1 _ h2 hk
theorem choose_list {l : List MapEntry} : ∀ (wl : List (List UInt8 × Int)), (∀ p ∈ wl, ∃ e ∈ l, e.key = .string ⟨p.1.toArray⟩ ∧ e.val = .int .i64 p.2) →
    ∃ l' : List MapEntry, l'.map (·.key) = wl.map (fun p => .string ⟨p.1.toArray⟩) ∧ l'.map (·.val) = wl.map (fun p => .int .i64 p.2) ∧ ∀ e ∈ l', e ∈ l
  | [], _ => ⟨[], rfl, rfl, by simp⟩
  | p :: wl, h => by
    obtain ⟨e, h1, h2, h3⟩ := h p (by simp)
    obtain ⟨l', k1, k2, k3⟩ := choose_list wl fun p hp => h p (by simp [hp])
    refine ⟨e :: l', by simp [h2, k1], by simp [h3, k2], fun x hx => ?_⟩
    rcases List.mem_cons.1 hx with rfl | hx
    · exact h1
    · exact k3 x hx

/-- What the condition gives the walks: the variable's cell, and the map. -/
theorem of_laid {W : World} (h : laidMetH Tryd.prog laidL W) : ∃ bm es ck, W.cell? ⟨0, 0, none⟩ = some (.map (some bm)) ∧ Ab.MapAt W bm es ck ∧
    es.toList.map (·.key) = wl.map (fun p => .string ⟨p.1.toArray⟩) ∧ es.toList.map (·.val) = wl.map (fun p => .int .i64 p.2) := by
  rw [MakeChecks.laidMetH_plain _ _ _ (by kernel_rfl)] at h
  obtain ⟨ps, ⟨g0, t0, cs0, f0, p0, q0, hg0, ht0, hv0, hd0, _, _⟩, _, _⟩ := h
  obtain ⟨T, k, hT, hu, hk⟩ := tWords
  obtain rfl := Option.some.inj (gWords.symm.trans hg0)
  obtain rfl := Option.some.inj (hT.symm.trans ht0)
  rw [laid_wl] at hd0
  rcases WideMaps.open_map hu hk hd0 with ⟨_, hx⟩ | ⟨bm, es, clock, hcs, hb, _, F, hx⟩
  · simp at hx
  simp only [Prod.mk.injEq, DataW.map.injEq] at hx
  obtain ⟨hx, _⟩ := hx
  have hmem : ∀ y, y ∈ (wl.map fun p => ((.string p.1, .lit (.int .i64 p.2)) : Lit × DataW Unit)) ↔ y ∈ es.toList.map (WideMaps.rg Unit Tryd.prog 9 .i64) := fun y => by
    rw [hx, mem_fold]
  have hkv : ∀ (e : MapEntry) (p : List UInt8 × Int), p ∈ wl → e ∈ es.toList → WideMaps.rg Unit Tryd.prog 9 .i64 e = (.string p.1, .lit (.int .i64 p.2)) → e.key = .string ⟨p.1.toArray⟩ ∧ e.val = .int .i64 p.2 := by
    intro e p hp he hr
    obtain ⟨y, hy⟩ := F.reads e he
    rw [WideMaps.rg_of hy] at hr
    subst hr
    have h1 := WideMaps.rd_key hy
    obtain ⟨n, h2, h3, _⟩ := WideMaps.rd_val hy
    simp only [DataW.lit.injEq, Lit.int.injEq, true_and] at h3
    have h4 : keyOf Tryd.prog 9 (.string ⟨p.1.toArray⟩) = some (.string p.1) := by
      have hsz : (ByteArray.mk p.1.toArray).size ≤ maxLen := by
        have : ∀ p ∈ wl, (ByteArray.mk p.1.toArray).size ≤ maxLen := by decide
        exact this p hp
      have := WideMaps.keyOf_string_mk (s := ⟨p.1.toArray⟩) Tryd.underlying9 hsz
      simpa using this
    exact ⟨lawW.inj h1 h4, by rw [h2, h3]⟩
  have huniq := pw_inj ((MapKept.stamped_iff es clock).1 F.stamped).2.2
  obtain ⟨l', k1, k2, k3⟩ := choose_list (l := es.toList) wl fun p hp => by
    have := (hmem (.string p.1, .lit (.int .i64 p.2))).1 (List.mem_map.2 ⟨p, hp, rfl⟩)
    obtain ⟨e, he, hr⟩ := List.mem_map.1 this
    exact ⟨e, he, hkv e p hp he hr⟩
  have hkeys : ∀ e ∈ l', ∃ s, e.key = .string s := fun e he => by
    have : e.key ∈ l'.map (·.key) := List.mem_map.2 ⟨e, he, rfl⟩
    rw [k1] at this
    obtain ⟨p, _, hp⟩ := List.mem_map.1 this
    exact ⟨_, hp.symm⟩
  have hcell : W.cell? ⟨0, 0, none⟩ = some (.map (some bm)) := by
    have := World.var?_cell hg0 hv0 0
    rw [Array.eq_one_of_toList hcs] at this
    simpa using this
  refine ⟨bm, ⟨l'⟩, clock, hcell, ⟨es, hb, fun e => ⟨fun he => ?_, fun he => k3 e he⟩, hkeys, fun e he e' he' => huniq e (k3 e he) e' (k3 e' he')⟩, k1, k2⟩
  have h1 : WideMaps.rg Unit Tryd.prog 9 .i64 e ∈ (wl.map fun p => ((.string p.1, .lit (.int .i64 p.2)) : Lit × DataW Unit)) := (hmem _).2 (List.mem_map.2 ⟨e, he, rfl⟩)
  obtain ⟨p, hp, hr⟩ := List.mem_map.1 h1
  obtain ⟨h2, _⟩ := hkv e p hp he hr.symm
  have h3 : e.key ∈ l'.map (·.key) := by rw [k1, h2]; exact List.mem_map.2 ⟨p, hp, rfl⟩
  obtain ⟨e', he', hk'⟩ := List.mem_map.1 h3
  have := huniq e he e' (k3 e' he') hk'.symm
  subst this
  exact he'

def old (W : World) : Nat → Nat → Prop := fun b _ => b < W.heap.size
/-- The package's variable, as the walks know it. -/
theorem gl_of_laid {W : World} (h : laidMetH Tryd.prog laidL W) : Ab.GlOk ⟨fun _ => none, fun _ => none, old W⟩ W := by
  obtain ⟨bm, es, ck, hc, hm, hk, hv⟩ := of_laid h
  intro n v hn
  unfold Ab.gvs at hn
  split at hn
  rotate_left
  · cases hn
  simp only [Option.some.injEq] at hn
  subst hn
  have h0 : (0 : Nat) < W.heap.size := by
    unfold World.cell? at hc
    cases hh : W.heap[0]? with
    | none => simp [hh] at hc
    | some o => exact (Array.getElem?_eq_some_iff.1 hh).1
  have hbm : bm < W.heap.size := by
    obtain ⟨es0, h1, _⟩ := hm
    exact (Array.getElem?_eq_some_iff.1 h1).1
  have hlen : es.size = 7 := by
    have := congrArg List.length hk
    simpa [wl] using this
  have hv2 : ∀ (i : Nat) (hi : i < es.size) (hj : i < (wl.map fun p => (Ab.V.c (.int .i64 p.2))).length), Ab.Rep ⟨fun _ => none, fun _ => none, old W⟩ W (es[i]'hi).val ((wl.map fun p => (Ab.V.c (.int .i64 p.2)))[i]) := by
    intro i hi hj
    have hj' : i < wl.length := by simpa using hj
    have h1 : (es.toList.map (·.val))[i]'(by simpa using hi) = (wl.map fun p => Value.int .i64 p.2)[i]'(by simpa using hj') := by simp only [hv]
    simp only [List.getElem_map, Array.getElem_toList] at h1
    rw [List.getElem_map, h1]
    exact .c _
  refine .ptr 0 0 0 _ 0 (fun _ => .map (some bm)) rfl (fun j hj => ?_) fun j hj => ?_
  · have : j = 0 := by simp at hj; omega
    subst this
    exact ⟨h0, hc, rfl⟩
  · have : j = 0 := by simp at hj; omega
    subst this
    refine .fmp bm es ck _ _ hm hbm (by rw [hk]; rfl) (by rw [hlen]; rfl) fun i hi hj => hv2 i hi hj

/-- A law whose call answers true on arguments that are represented. -/
theorem Ab.law_calls {f : Nat} {args : List Ab.V} {n : Nat} (hfr : f < Ab.rid) (h : Ab.call Ab.X Ab.E n f args [] = some (.c (.bool true), [])) {W : World} {cargs : Array Value} (hgl : Ab.GlOk ⟨fun _ => none, fun _ => none, old W⟩ W) (hl : cargs.size = args.length)
    (hr : ∀ i (hi : i < cargs.size) (hj : i < args.length), Ab.Rep ⟨fun _ => none, fun _ => none, old W⟩ W cargs[i] args[i]) :
    Calls Tryd.prog f cargs W (fun e W' => e = .returned (.bool true) ∧ Below W.heap.size W W') := by
  have H : Ab.HOk ⟨fun _ => none, fun _ => none, old W⟩ W [] := ⟨(fun _ _ e => by simp at e), (fun _ _ _ _ e => by simp at e), (fun _ _ _ e => by simp at e), (fun _ _ _ _ _ _ _ e => by simp at e), (fun _ _ _ _ _ e => by simp at e), ⟨fun _ _ h => h, hgl⟩⟩
  refine Calls.mono (((Ab.seat_ok n _ _ _ _ _ h).1 hfr).2 _ W cargs H hl hr) ?_
  rintro e W' ⟨v, g', rfl, hle, _, hrep, _⟩
  have hv : v = .bool true := hrep.of_c
  subst hv
  refine ⟨rfl, ⟨hle.os, hle.tape, hle.output, hle.size, fun b hb => hle.kept b hb ?_⟩⟩
  rintro (⟨id, e⟩ | ⟨k, l, c, e⟩) <;> simp at e
theorem stays {H : Type} {enc : TypeId × Value → H} {t : TypeId} (hr : Tryd.prog.readableRec t = true) (hrow : t < Tryd.prog.types.size) {W W' : World} {v : Value} {d : DataW H} {ps : List MemPlace}
    (h : DataW.Trod enc Tryd.prog W 0 (fun _ => true) true t v d ps) (hb : Below W.heap.size W W') : DataW.Trod enc Tryd.prog W' 0 (fun b => decide (b < W.heap.size)) true t v d ps := by
  refine hb.trod laidOut hr hrow h fun x hx => ?_
  obtain ⟨fuel, hf⟩ := h
  exact DataW.trod_lt fuel _ _ _ hf x hx
end Go.Proofs.YtkiliokeanmagaaDoor
