/- A call does not look at objects it cannot know: they may lie behind the others. -/
import Derived.Test.YtbkgpdkimcnpgaaAb16
namespace Go.Proofs.Ytbkgpdkimcnpgaa.Ab
open Go
set_option linter.unusedVariables false
set_option linter.unusedSimpArgs false

/-- The objects below n as one knows them, the others as the other does. -/
def Gh.glue (g1 g : Gh) (n : Nat) : Gh := ⟨fun id => if id < n then g1.blk id else g.blk id, fun id => if id < n then g1.tok id else g.tok id, g1.fz⟩

theorem res_blk {g : Gh} {n id b : Nat} (e : (g.res n).blk id = some b) : id < n ∧ g.blk id = some b := by
  simp only [Gh.res] at e
  split at e
  · exact ⟨‹_›, e⟩
  · cases e
theorem res_tok {g : Gh} {n id : Nat} {p : Nat × Nat × Nat} (e : (g.res n).tok id = some p) : id < n ∧ g.tok id = some p := by
  simp only [Gh.res] at e
  split at e
  · exact ⟨‹_›, e⟩
  · cases e
theorem res_owns {g : Gh} {n b : Nat} (e : (g.res n).owns b) : g.owns b := by
  rcases e with ⟨id, e⟩ | ⟨k, l, c, e⟩
  · exact .inl ⟨id, (res_blk e).2⟩
  · exact .inr ⟨k, l, c, (res_tok e).2⟩
theorem glue_blk {g1 g : Gh} {n id b : Nat} (e : (g1.glue g n).blk id = some b) : (id < n ∧ g1.blk id = some b) ∨ (n ≤ id ∧ g.blk id = some b) := by
  simp only [Gh.glue] at e
  split at e
  · exact .inl ⟨‹_›, e⟩
  · exact .inr ⟨by omega, e⟩
theorem glue_tok {g1 g : Gh} {n id : Nat} {p : Nat × Nat × Nat} (e : (g1.glue g n).tok id = some p) : (id < n ∧ g1.tok id = some p) ∨ (n ≤ id ∧ g.tok id = some p) := by
  simp only [Gh.glue] at e
  split at e
  · exact .inl ⟨‹_›, e⟩
  · exact .inr ⟨by omega, e⟩

theorem HOk.cut {g : Gh} {w : World} {h e : List O} (H : HOk g w (h ++ e)) (hl : h.all (O.low h.length) = true) : HOk (g.res h.length) w h := by
  have := H.res h.length (by rw [List.take_left']; exact hl; rfl)
  rwa [List.take_left'] at this
  rfl

theorem glue_ok {g g1 : Gh} {w w1 : World} {h h1 e : List O} (H : HOk g w (h ++ e)) (hle : Le (g.res h.length) w g1 w1) (hs : HOk g1 w1 h1) (hq : Quiet (fun id => h.length ≤ id) (g.res h.length) h g1 h1) (hl : h1.length = h.length) :
    Le g w (g1.glue g h.length) w1 ∧ HOk (g1.glue g h.length) w1 (h1 ++ e) ∧ Quiet (fun id => (h ++ e).length ≤ id) g (h ++ e) (g1.glue g h.length) (h1 ++ e) ∧ ∀ {x : Value} {v : V}, Rep g1 w1 x v → Rep (g1.glue g h.length) w1 x v := by
  -- a block of an object behind is not one of those before
  have hfar : ∀ id b, h.length ≤ id → g.blk id = some b → ¬ (g.res h.length).owns b := by
    rintro id b hid e (⟨id', e'⟩ | ⟨k, l, c, e'⟩)
    · obtain ⟨a1, a2⟩ := res_blk e'
      have := H.inj _ _ _ e a2
      omega
    · exact (H.bt _ _ _ _ _ e (res_tok e').2).elim
  have hfart : ∀ id b l c, h.length ≤ id → g.tok id = some (b, l, c) → ¬ (g.res h.length).owns b := by
    rintro id b l c hid e (⟨id', e'⟩ | ⟨k, l', c', e'⟩)
    · exact (H.bt _ _ _ _ _ (res_blk e').2 e).elim
    · obtain ⟨a1, a2⟩ := res_tok e'
      have := H.tinj _ _ _ _ _ _ _ e a2
      omega
  have hrep : ∀ {x : Value} {v : V}, Rep g1 w1 x v → Rep (g1.glue g h.length) w1 x v := fun r =>
    r.of_frz (fun _ _ h => h) (fun id b e => by have := (hs.blk_lt e).1; simp [Gh.glue, show id < h.length by omega, e]) (fun id p e => by
      obtain ⟨b, l, c⟩ := p
      have := (hs.tok_lt e).1; simp [Gh.glue, show id < h.length by omega, e])
  have hle' : Le g w (g1.glue g h.length) w1 := {
    blk := fun id b e => by
      by_cases hid : id < h.length
      · simp only [Gh.glue, hid, if_true]; exact hle.blk id b (by simp [Gh.res, hid, e])
      · simp only [Gh.glue, hid, if_false]; exact e
    tok := fun k b l c e => by
      by_cases hid : k < h.length
      · simp only [Gh.glue, hid, if_true]; exact hle.tok k b l c (by simp [Gh.res, hid, e])
      · simp only [Gh.glue, hid, if_false]; exact ⟨b, l, c, e, Nat.le_refl _, fun _ => ⟨rfl, rfl⟩⟩
    fz := hle.fz
    own := fun b ho hlt => by
      rcases ho with ⟨id, e⟩ | ⟨k, l, c, e⟩
      · rcases glue_blk e with ⟨_, e⟩ | ⟨_, e⟩
        · exact res_owns (hle.own b (.inl ⟨id, e⟩) hlt)
        · exact .inl ⟨id, e⟩
      · rcases glue_tok e with ⟨_, e⟩ | ⟨_, e⟩
        · exact res_owns (hle.own b (.inr ⟨k, l, c, e⟩) hlt)
        · exact .inr ⟨k, l, c, e⟩
    fzn := fun b o e hlt => (hle.fzn b o e hlt).imp id res_owns
    kept := fun b hlt hn => hle.kept b hlt fun ho => hn (res_owns ho)
    size := hle.size
    tape := hle.tape
    os := hle.os
    output := hle.output
    sz := hle.sz }
  have hnf : ∀ b o, g1.fz b o → b < w.heap.size → ¬ (g.res h.length).owns b → g.fz b o := fun b o e hlt hn => (hle.fzn b o e hlt).resolve_right hn
  have hold : ∀ b, g1.owns b → b < w.heap.size → (g.res h.length).owns b := fun b e hlt => hle.own b e hlt
  refine ⟨hle', ⟨fun id b e => ?_, fun id b n c e => ?_, fun id id' b e e' => ?_, fun id id' b n c n' c' e e' => ?_, fun id id' b n c e e' => ?_, hs.al⟩, fun id hid => ?_, hrep⟩
  · rcases glue_blk e with ⟨hid, e⟩ | ⟨hid, e⟩
    · obtain ⟨cs, c, T, c1, c2, c3, c4, c5⟩ := hs.cells id b e
      exact ⟨cs, c, T, by rw [List.getElem?_append_left (by omega)]; exact c1, c2, c3, fun j hj hc => ⟨hrep (c4 j hj hc).1, (c4 j hj hc).2⟩, c5⟩
    · obtain ⟨cs, c, T, c1, c2, c3, c4, c5⟩ := H.cells id b e
      have hlt := (Array.getElem?_eq_some_iff.1 c2).1
      rw [List.getElem?_append_right hid] at c1
      exact ⟨cs, c, T, by rw [List.getElem?_append_right (by omega), hl]; exact c1, (hle.kept b hlt (hfar _ _ hid e)).trans c2, c3, fun j hj hc => ⟨(c4 j hj hc).1.mono hle', (c4 j hj hc).2⟩, fun o ho => c5 o (hnf b o ho hlt (hfar _ _ hid e))⟩
  · rcases glue_tok e with ⟨hid, e⟩ | ⟨hid, e⟩
    · obtain ⟨z, cc, T, c1, c2, c3⟩ := hs.tok id b n c e
      exact ⟨z, cc, T, by rw [List.getElem?_append_left (by omega)]; exact c1, c2, c3⟩
    · obtain ⟨z, cc, T, c1, c2, c3, c4, c5⟩ := H.tok id b n c e
      have hlt := (Array.getElem?_eq_some_iff.1 c2).1
      rw [List.getElem?_append_right hid] at c1
      exact ⟨z, cc, T, by rw [List.getElem?_append_right (by omega), hl]; exact c1, (hle.kept b hlt (hfart _ _ _ _ hid e)).trans c2, c3, c4, fun o ho => c5 o (hnf b o ho hlt (hfart _ _ _ _ hid e))⟩
  · rcases glue_blk e with ⟨hid, e⟩ | ⟨hid, e⟩ <;> rcases glue_blk e' with ⟨hid', e'⟩ | ⟨hid', e'⟩
    · exact hs.inj _ _ _ e e'
    · exact absurd (hold b (.inl ⟨_, e⟩) (H.blk_lt e').2) (hfar _ _ hid' e')
    · exact absurd (hold b (.inl ⟨_, e'⟩) (H.blk_lt e).2) (hfar _ _ hid e)
    · exact H.inj _ _ _ e e'
  · rcases glue_tok e with ⟨hid, e⟩ | ⟨hid, e⟩ <;> rcases glue_tok e' with ⟨hid', e'⟩ | ⟨hid', e'⟩
    · exact hs.tinj _ _ _ _ _ _ _ e e'
    · exact absurd (hold b (.inr ⟨_, _, _, e⟩) (H.tok_lt e').2) (hfart _ _ _ _ hid' e')
    · exact absurd (hold b (.inr ⟨_, _, _, e'⟩) (H.tok_lt e).2) (hfart _ _ _ _ hid e)
    · exact H.tinj _ _ _ _ _ _ _ e e'
  · rcases glue_blk e with ⟨hid, e⟩ | ⟨hid, e⟩ <;> rcases glue_tok e' with ⟨hid', e'⟩ | ⟨hid', e'⟩
    · exact hs.bt _ _ _ _ _ e e'
    · exact absurd (hold b (.inl ⟨_, e⟩) (H.tok_lt e').2) (hfart _ _ _ _ hid' e')
    · exact absurd (hold b (.inr ⟨_, _, _, e'⟩) (H.blk_lt e).2) (hfar _ _ hid e)
    · exact H.bt _ _ _ _ _ e e'
  · by_cases hlt : id < h.length
    · obtain ⟨q1, q2, q3⟩ := hq id (by omega)
      refine ⟨fun e => by simp only [Gh.glue, hlt, if_true]; exact q1 (by simp [Gh.res, hlt, e]), fun e => by simp only [Gh.glue, hlt, if_true]; exact q2 (by simp [Gh.res, hlt, e]), fun e e' => ?_⟩
      rw [List.getElem?_append_left (by omega), List.getElem?_append_left hlt]
      exact q3 (by simp [Gh.res, hlt, e]) (by simp [Gh.res, hlt, e'])
    · refine ⟨fun e => by simp only [Gh.glue, hlt, if_false]; exact e, fun e => by simp only [Gh.glue, hlt, if_false]; exact e, fun _ _ => ?_⟩
      rw [List.getElem?_append_right (by omega), List.getElem?_append_right (by omega), hl]

/-- Calls that know of the first m objects alone. -/
def frameCf (m : Nat) (cf : CallF) : CallF := fun f args H =>
  if m ≤ H.length ∧ V.lows m args = true ∧ (H.take m).all (O.low m) = true then
    match cf f args (H.take m) with
    | some (r, h1) => if h1.length = m then some (r, h1 ++ H.drop m) else none
    | none => none
  else none

theorem frame_ok {P : Program} {m : Nat} {cf : CallF} (hcf : CallOk P cf) : CallOk P (frameCf m cf) := by
  intro f args hh r hh' e
  unfold frameCf at e
  split at e
  · rename_i hc
    obtain ⟨hm, hlow, hall⟩ := hc
    split at e
    · rename_i r' h1 hcall
      split at e
      · rename_i hl
        simp only [Option.some.injEq, Prod.mk.injEq] at e
        obtain ⟨rfl, rfl⟩ := e
        obtain ⟨k1, k2⟩ := hcf _ _ _ _ _ hcall
        refine ⟨k1, fun g w cargs H hla hr => ?_⟩
        have hlen : (hh.take m).length = m := by simp; omega
        have H2 : HOk g w (hh.take m ++ hh.drop m) := by rw [List.take_append_drop]; exact H
        have H3 := H2.cut (by rw [hlen]; exact hall)
        rw [hlen] at H3
        refine Calls.mono (k2 (g.res m) w cargs H3 hla fun i hi hj => (hr i hi hj).res (lows_get hlow i hj)) ?_
        rintro e w' ⟨v, g1, rfl, q1, q2, q3, q4⟩
        have := glue_ok (g1 := g1) (h1 := h1) H2 (by rw [hlen]; exact q1) q2 (by rw [hlen]; rw [hlen] at q4; exact q4) (by rw [hlen]; exact hl)
        rw [hlen] at this
        obtain ⟨m1, m2, m3, m4⟩ := this
        rw [List.take_append_drop] at m3
        exact ⟨v, _, rfl, m1, m2, m4 q3, m3⟩
      · cases e
    · cases e
  · cases e
theorem pure0 (cf : CallF) : PureCf (fun _ => 0) cf := fun f args h r h' _ => ⟨fun h => by simp at h, fun h => by simp at h⟩
end Go.Proofs.Ytbkgpdkimcnpgaa.Ab
