/- A call does not look at objects it cannot know: they may lie behind the others. Drawn regions whose calls are kept from the frame's own objects. -/
import Derived.Test.YtkiliokeanmagaaDoorAb12
namespace Go.Proofs.YtkiliokeanmagaaDoor.Ab
open Go
set_option linter.unusedVariables false
set_option linter.unusedSimpArgs false

theorem Rep.of_frz {g g' : Gh} {w : World} {x : Value} {v : V} (h : Rep g w x v) (hf : ∀ b o, g.fz b o → g'.fz b o) (hb : ∀ id b, g.blk id = some b → g'.blk id = some b) (ht : ∀ id p, g.tok id = some p → g'.tok id = some p) : Rep g' w x v := by
  induction h with
  | c x => exact .c x
  | agg xs cs hn h1 _ ih => exact .agg xs cs hn h1 ih
  | tup xs cs hn _ ih => exact .tup xs cs hn ih
  | sl A n cap us i z cv hn hc hzz hA _ hi ih =>
    refine .sl A n cap us i z cv hn hc hzz (fun hne => ?_) ih ?_
    · obtain ⟨b, o, e, h2⟩ := hA hne
      exact ⟨b, o, e, fun j hj => ⟨hf _ _ (h2 j hj).1, (h2 j hj).2⟩⟩
    · cases i with
      | any => trivial
      | nil => exact hi
      | full => exact hi
      | isn => exact hi
      | nz => exact hi
      | tok k =>
        obtain ⟨b, l, c, h1, h2⟩ := hi
        exact ⟨b, l, c, ht _ _ h1, h2⟩
  | ptr b o o' cs off cv ho hA _ ih => exact .ptr b o o' cs off cv ho (fun j hj => ⟨hf _ _ (hA j hj).1, (hA j hj).2⟩) ih
  | ref id b o h => exact .ref id b o (hb _ _ h)
  | clo f xs cs hn _ ih => exact .clo f xs cs hn ih
  | row A n cap id off z hc h => exact .row A n cap id off z hc fun hn => (h hn).imp fun b e => ⟨e.1, hb _ _ e.2⟩
  | buf A n cap id hc h =>
    obtain ⟨b, cc, T, h1, h2, h3, h4⟩ := h
    exact .buf A n cap id hc ⟨b, cc, T, h1, hb _ _ h2, h3, h4⟩
  | tsl A n cap k z hc hA h =>
    obtain ⟨b, l, c, h1, h2⟩ := h
    exact .tsl A n cap k z hc hA ⟨b, l, c, ht _ _ h1, h2⟩
  | tref A k n o h =>
    obtain ⟨b, l, c, h1, h2⟩ := h
    exact .tref A k n o ⟨b, l, c, ht _ _ h1, h2⟩
  | top x => exact .top x
  | fmp b es ck ks vs h1 h2 hk hn _ ih => exact .fmp b es ck ks vs h1 (hf _ _ h2) hk hn ih
  | mref id b h => exact .mref id b (hb _ _ h)
  | yld l k y m tmps caps h1 hl hn _ ih => exact .yld l k y m tmps caps (hb _ _ h1) hl hn ih

/-- The objects below n as one knows them, the others as the other does. -/
def Gh.glue (g1 g : Gh) (n : Nat) : Gh := ⟨fun id => if id < n then g1.blk id else g.blk id, fun id => if id < n then g1.tok id else g.tok id, g1.fz⟩

theorem res_blk {g : Gh} {n id b : Nat} (e : (g.res n).blk id = some b) : id < n ∧ g.blk id = some b := by
  simp only [Gh.res] at e
  split at e
  · exact ⟨‹_›, e⟩
  · cases e
theorem res_tok {g : Gh} {n id : Nat} {p : Nat × Nat × Nat} (e : (g.res n).tok id = some p) : id < n ∧ g.tok id = some p := by
  simp only [Gh.res] at e
  split at e
  · exact ⟨‹_›, e⟩
  · cases e
theorem res_owns {g : Gh} {n b : Nat} (e : (g.res n).owns b) : g.owns b := by
  rcases e with ⟨id, e⟩ | ⟨k, l, c, e⟩
  · exact .inl ⟨id, (res_blk e).2⟩
  · exact .inr ⟨k, l, c, (res_tok e).2⟩
theorem glue_blk {g1 g : Gh} {n id b : Nat} (e : (g1.glue g n).blk id = some b) : (id < n ∧ g1.blk id = some b) ∨ (n ≤ id ∧ g.blk id = some b) := by
  simp only [Gh.glue] at e
  split at e
  · exact .inl ⟨‹_›, e⟩
  · exact .inr ⟨by omega, e⟩
theorem glue_tok {g1 g : Gh} {n id : Nat} {p : Nat × Nat × Nat} (e : (g1.glue g n).tok id = some p) : (id < n ∧ g1.tok id = some p) ∨ (n ≤ id ∧ g.tok id = some p) := by
  simp only [Gh.glue] at e
  split at e
  · exact .inl ⟨‹_›, e⟩
  · exact .inr ⟨by omega, e⟩

theorem HOk.cut {g : Gh} {w : World} {h e : List O} (H : HOk g w (h ++ e)) (hl : h.all (O.low h.length) = true) : HOk (g.res h.length) w h := by
  have := H.res h.length (by rw [List.take_left']; exact hl; rfl)
  rwa [List.take_left'] at this
  rfl

theorem glue_ok {g g1 : Gh} {w w1 : World} {h h1 e : List O} (H : HOk g w (h ++ e)) (hle : Le (g.res h.length) w g1 w1) (hs : HOk g1 w1 h1) (hq : Quiet (Frb h.length h) (g.res h.length) h g1 h1) (hl : h1.length = h.length) :
    Le g w (g1.glue g h.length) w1 ∧ HOk (g1.glue g h.length) w1 (h1 ++ e) ∧ Quiet (Frb (h ++ e).length (h ++ e)) g (h ++ e) (g1.glue g h.length) (h1 ++ e) ∧ ∀ {x : Value} {v : V}, Rep g1 w1 x v → Rep (g1.glue g h.length) w1 x v := by
  -- a block of an object behind is not one of those before
  have hfar : ∀ id b, h.length ≤ id → g.blk id = some b → ¬ (g.res h.length).owns b := by
    rintro id b hid e (⟨id', e'⟩ | ⟨k, l, c, e'⟩)
    · obtain ⟨a1, a2⟩ := res_blk e'
      have := H.inj _ _ _ e a2
      omega
    · exact (H.bt _ _ _ _ _ e (res_tok e').2).elim
  have hfart : ∀ id b l c, h.length ≤ id → g.tok id = some (b, l, c) → ¬ (g.res h.length).owns b := by
    rintro id b l c hid e (⟨id', e'⟩ | ⟨k, l', c', e'⟩)
    · exact (H.bt _ _ _ _ _ (res_blk e').2 e).elim
    · obtain ⟨a1, a2⟩ := res_tok e'
      have := H.tinj _ _ _ _ _ _ _ e a2
      omega
  have hrep : ∀ {x : Value} {v : V}, Rep g1 w1 x v → Rep (g1.glue g h.length) w1 x v := fun r =>
    r.of_frz (fun _ _ h => h) (fun id b e => by have := (hs.blk_lt e).1; simp [Gh.glue, show id < h.length by omega, e]) (fun id p e => by
      obtain ⟨b, l, c⟩ := p
      have := (hs.tok_lt e).1; simp [Gh.glue, show id < h.length by omega, e])
  have hle' : Le g w (g1.glue g h.length) w1 := {
    blk := fun id b e => by
      by_cases hid : id < h.length
      · simp only [Gh.glue, hid, if_true]; exact hle.blk id b (by simp [Gh.res, hid, e])
      · simp only [Gh.glue, hid, if_false]; exact e
    tok := fun k b l c e => by
      by_cases hid : k < h.length
      · simp only [Gh.glue, hid, if_true]; exact hle.tok k b l c (by simp [Gh.res, hid, e])
      · simp only [Gh.glue, hid, if_false]; exact ⟨b, l, c, e, Nat.le_refl _, fun _ => ⟨rfl, rfl⟩⟩
    fz := hle.fz
    own := fun b ho hlt => by
      rcases ho with ⟨id, e⟩ | ⟨k, l, c, e⟩
      · rcases glue_blk e with ⟨_, e⟩ | ⟨_, e⟩
        · exact res_owns (hle.own b (.inl ⟨id, e⟩) hlt)
        · exact .inl ⟨id, e⟩
      · rcases glue_tok e with ⟨_, e⟩ | ⟨_, e⟩
        · exact res_owns (hle.own b (.inr ⟨k, l, c, e⟩) hlt)
        · exact .inr ⟨k, l, c, e⟩
    fzn := fun b o e hlt => (hle.fzn b o e hlt).imp id res_owns
    kept := fun b hlt hn => hle.kept b hlt fun ho => hn (res_owns ho)
    size := hle.size
    tape := hle.tape
    os := hle.os
    output := hle.output
    sz := hle.sz
    oth := hle.oth }
  have hnf : ∀ b o, g1.fz b o → b < w.heap.size → ¬ (g.res h.length).owns b → g.fz b o := fun b o e hlt hn => (hle.fzn b o e hlt).resolve_right hn
  have hold : ∀ b, g1.owns b → b < w.heap.size → (g.res h.length).owns b := fun b e hlt => hle.own b e hlt
  refine ⟨hle', ⟨fun id b e => ?_, fun id b n c e => ?_, fun id id' b e e' => ?_, fun id id' b n c n' c' e e' => ?_, fun id id' b n c e e' => ?_, hs.ag.eqv rfl⟩, fun id hid => ?_, hrep⟩
  · rcases glue_blk e with ⟨hid, e⟩ | ⟨hid, e⟩
    · rcases hs.obj id b e with ⟨cs, c, T, c1, c2, c3, c4, c5⟩ | q
      · exact .inl ⟨cs, c, T, by rw [List.getElem?_append_left (by have := (hs.blk_lt e).1; omega)]; exact c1, c2, c3, fun j hj hc => ⟨hrep (c4 j hj hc).1, (c4 j hj hc).2⟩, c5⟩
      · exact .inr (q.map (List.getElem?_append_left (hs.blk_lt e).1) rfl hrep fun _ h => h)
    · rcases H.obj id b e with ⟨cs, c, T, c1, c2, c3, c4, c5⟩ | q
      · have hlt := (Array.getElem?_eq_some_iff.1 c2).1
        rw [List.getElem?_append_right hid] at c1
        exact .inl ⟨cs, c, T, by rw [List.getElem?_append_right (by omega), hl]; exact c1, (hle.kept b hlt (hfar _ _ hid e)).trans c2, c3, fun j hj hc => ⟨(c4 j hj hc).1.mono hle', (c4 j hj hc).2⟩, fun o ho => c5 o (hnf b o ho hlt (hfar _ _ hid e))⟩
      · have hlt := q.lt.2
        exact .inr (q.map (by rw [List.getElem?_append_right (by omega), List.getElem?_append_right hid, hl]) (hle.kept b hlt (hfar _ _ hid e)) (fun r => r.mono hle') fun o ho => hnf b o ho hlt (hfar _ _ hid e))
  · rcases glue_tok e with ⟨hid, e⟩ | ⟨hid, e⟩
    · obtain ⟨z, cc, T, c1, c2, c3⟩ := hs.tok id b n c e
      exact ⟨z, cc, T, c1.map (List.getElem?_append_left (by omega)) hrep (fun _ h => h), c2, c3⟩
    · obtain ⟨z, cc, T, c1, c2, c3, c4, c5⟩ := H.tok id b n c e
      have hlt := (Array.getElem?_eq_some_iff.1 c2).1
      exact ⟨z, cc, T, c1.map (by rw [List.getElem?_append_right (by omega), List.getElem?_append_right hid, hl]) (fun r => r.mono hle') (fun o ho => hnf b o ho hlt (hfart _ _ _ _ hid e)), (hle.kept b hlt (hfart _ _ _ _ hid e)).trans c2, c3, c4, fun o ho => c5 o (hnf b o ho hlt (hfart _ _ _ _ hid e))⟩
  · rcases glue_blk e with ⟨hid, e⟩ | ⟨hid, e⟩ <;> rcases glue_blk e' with ⟨hid', e'⟩ | ⟨hid', e'⟩
    · exact hs.inj _ _ _ e e'
    · exact absurd (hold b (.inl ⟨_, e⟩) (H.blk_lt e').2) (hfar _ _ hid' e')
    · exact absurd (hold b (.inl ⟨_, e'⟩) (H.blk_lt e).2) (hfar _ _ hid e)
    · exact H.inj _ _ _ e e'
  · rcases glue_tok e with ⟨hid, e⟩ | ⟨hid, e⟩ <;> rcases glue_tok e' with ⟨hid', e'⟩ | ⟨hid', e'⟩
    · exact hs.tinj _ _ _ _ _ _ _ e e'
    · exact absurd (hold b (.inr ⟨_, _, _, e⟩) (H.tok_lt e').2) (hfart _ _ _ _ hid' e')
    · exact absurd (hold b (.inr ⟨_, _, _, e'⟩) (H.tok_lt e).2) (hfart _ _ _ _ hid e)
    · exact H.tinj _ _ _ _ _ _ _ e e'
  · rcases glue_blk e with ⟨hid, e⟩ | ⟨hid, e⟩ <;> rcases glue_tok e' with ⟨hid', e'⟩ | ⟨hid', e'⟩
    · exact hs.bt _ _ _ _ _ e e'
    · exact absurd (hold b (.inl ⟨_, e⟩) (H.tok_lt e').2) (hfart _ _ _ _ hid' e')
    · exact absurd (hold b (.inr ⟨_, _, _, e'⟩) (H.blk_lt e).2) (hfar _ _ hid e)
    · exact H.bt _ _ _ _ _ e e'
  · by_cases hlt : id < h.length
    · obtain ⟨q1, q2, q3⟩ := hq id (by
        rintro (h1 | h1)
        · omega
        · exact hid (.inr (by rw [List.getElem?_append_left hlt]; exact h1)))
      refine ⟨fun e => by simp only [Gh.glue, hlt, if_true]; exact q1 (by simp [Gh.res, hlt, e]), fun e => by simp only [Gh.glue, hlt, if_true]; exact q2 (by simp [Gh.res, hlt, e]), fun e e' => ?_⟩
      rw [List.getElem?_append_left (by omega), List.getElem?_append_left hlt]
      exact q3 (by simp [Gh.res, hlt, e]) (by simp [Gh.res, hlt, e'])
    · refine ⟨fun e => by simp only [Gh.glue, hlt, if_false]; exact e, fun e => by simp only [Gh.glue, hlt, if_false]; exact e, fun _ _ => ?_⟩
      rw [List.getElem?_append_right (by omega), List.getElem?_append_right (by omega), hl]

theorem frame_ok {P : Program} {m : Nat} {cf : CallF} (hcf : CallOk P cf) : CallOk P (frameCf m cf) := by
  intro f args hh r hh' e
  unfold frameCf at e
  split at e
  · rename_i hc
    obtain ⟨hfr, hm, hlow, hall⟩ := hc
    refine ⟨fun _ => ?_, fun hy => absurd hfr (Nat.not_lt.2 hy)⟩
    split at e
    · rename_i r' h1 hcall
      split at e
      · rename_i hl
        simp only [Option.some.injEq, Prod.mk.injEq] at e
        obtain ⟨rfl, rfl⟩ := e
        obtain ⟨k1, k2⟩ := (hcf _ _ _ _ _ hcall).1 hfr
        refine ⟨k1, fun g w cargs H hla hr => ?_⟩
        have hlen : (hh.take m).length = m := by simp; omega
        have H2 : HOk g w (hh.take m ++ hh.drop m) := by rw [List.take_append_drop]; exact H
        have H3 := H2.cut (by rw [hlen]; exact hall)
        rw [hlen] at H3
        refine Calls.mono (k2 (g.res m) w cargs H3 hla fun i hi hj => (hr i hi hj).res (lows_get hlow i hj)) ?_
        rintro e w' ⟨v, g1, rfl, q1, q2, q3, q4⟩
        have := glue_ok (g1 := g1) (h1 := h1) H2 (by rw [hlen]; exact q1) q2 (by rw [hlen]; rw [hlen] at q4; exact q4) (by rw [hlen]; exact hl)
        rw [hlen] at this
        obtain ⟨m1, m2, m3, m4⟩ := this
        rw [List.take_append_drop] at m3
        exact ⟨v, _, rfl, m1, m2, m4 q3, m3⟩
      · cases e
    · cases e
  · cases e
theorem pure0 (cf : CallF) : PureCf (fun _ => 0) cf := fun f args h r h' _ => ⟨fun h => by simp at h, fun h => by simp at h⟩

/-- The class of an operation in a region that keeps its own objects apart: 5 a call, 6 a read of the frame's own. -/
def clsW (pf : Nat → Nat) : XOp → Nat
  | .load _ _ => 6
  | .call _ _ => 5
  | op => cls pf op
def clsWOk (i j : Nat) : Bool := i == 0 || j == 0 || (i == 6 && j == 6) || (i == 5 && j == 6) || (i == 6 && j == 5)
def commW (pf : Nat → Nat) (x y : XOper) : Bool := apartB x y && clsWOk (clsW pf x.op) (clsW pf y.op)
def pairW (pf : Nat → Nat) (xs : List XOper) (j i : Nat) : Bool :=
  match xs[j]?, xs[i]? with
  | some x, some y => commW pf x y
  | _, _ => false
def drawnW (pf : Nat → Nat) (ops : List Oper) (xs : List XOper) : Bool :=
  (List.range ops.length).all fun i => match ops[i]? with
    | some o => lowerB i o && (List.range i).all fun j => ((masks ops []).getD i 0).testBit j || pairW pf xs j i
    | none => false

theorem clsW0 {pf : Nat → Nat} {op : XOp} (h : clsW pf op = 0) : cls pf op = 0 := by
  cases op <;> first | exact h | (simp [clsW] at h)
theorem clsW5 {pf : Nat → Nat} {op : XOp} (h : clsW pf op = 5) : ∃ f args, op = .call f args := by
  cases op
  case call f args => exact ⟨f, args, rfl⟩
  case load n x => simp [clsW] at h
  case append al z b rw x y => simp only [clsW, cls] at h; split at h <;> cases h
  all_goals simp [clsW, cls] at h
theorem clsW6 {pf : Nat → Nat} {op : XOp} (h : clsW pf op = 6) : ∃ n x, op = .load n x := by
  cases op
  case call f args => simp [clsW] at h
  case load n x => exact ⟨n, x, rfl⟩
  case append al z b rw x y => simp only [clsW, cls] at h; split at h <;> cases h
  all_goals simp [clsW, cls] at h

theorem load_own {cf : CallF} {st : St} {n : Option Nat} {x : A} {v : V} {h' : List O} (ho : ownB st (.load n x) = true) (e : act cf st (.load n x) = some (v, h')) :
    h' = st.h ∧ ∀ h2 : List O, (∀ id, st.base ≤ id → h2[id]? = st.h[id]?) → act cf { st with h := h2 } (.load n x) = some (v, h2) := by
  simp only [act, ownB] at e ho ⊢
  cases hx : ev st.tm x with
  | ref id o =>
    rw [hx] at e ho
    simp only [decide_eq_true_eq] at ho
    simp only at e
    split at e
    · rename_i cs hcs
      simp only [Option.map_eq_some_iff, Prod.mk.injEq] at e
      obtain ⟨v', hv, rfl, rfl⟩ := e
      exact ⟨rfl, fun h2 hh => by simp only [hh _ ho, hcs, hv, Option.map_some]⟩
    · cases e
  | ptr cs o =>
    rw [hx] at e
    simp only [Option.map_eq_some_iff, Prod.mk.injEq] at e
    obtain ⟨v', hv, rfl, rfl⟩ := e
    exact ⟨rfl, fun h2 hh => by simp only [hv, Option.map_some]⟩
  | _ => rw [hx] at e; simp at e

theorem call_own {m : Nat} {cf : CallF} {st : St} {f : A} {args : List A} {v : V} {h' : List O} (e : act (frameCf m cf) st (.call f args) = some (v, h')) : ∀ id, m ≤ id → h'[id]? = st.h[id]? := by
  have main : ∀ {f : Nat} {vs : List V} {r : V} {h1 : List O}, frameCf m cf f vs st.h = some (r, h1) → ∀ id, m ≤ id → h1[id]? = st.h[id]? := by
    intro f vs r h1 hc
    unfold frameCf at hc
    split at hc
    · rename_i hcond
      split at hc
      · rename_i r' h2 hcall
        split at hc
        · rename_i hl
          simp only [Option.some.injEq, Prod.mk.injEq] at hc
          obtain ⟨rfl, rfl⟩ := hc
          intro id hid
          rw [List.getElem?_append_right (by omega), List.getElem?_drop, hl]
          congr 1
          omega
        · cases hc
      · cases hc
    · cases hc
  simp only [act, callV, callFn] at e
  repeat' split at e
  all_goals first | (cases e; done) | exact main (longer_some e).1

theorem own_swap {pf : Nat → Nat} {cf : CallF} {x y : XOper} {st : St} (ox : ownB st x.op = true) (oy : ownB st y.op = true) (hc : clsWOk (clsW pf x.op) (clsW pf y.op) = true) {vx vy : V} {hx hy : List O}
    (h1 : give (frameCf st.base cf) x st = some (vx, hx)) (h2 : give (frameCf st.base cf) y { st with h := hx } = some (vy, hy)) : ∃ hy', give (frameCf st.base cf) y st = some (vy, hy') ∧ give (frameCf st.base cf) x { st with h := hy' } = some (vx, hy) := by
  generalize hcf : frameCf st.base cf = cg at *
  unfold give at *
  by_cases kx : known st.tm x.g = true
  rotate_left
  · rw [if_neg kx] at h1; cases h1
  by_cases ky : known st.tm y.g = true
  rotate_left
  · rw [if_neg ky] at h2; cases h2
  rw [if_pos kx] at h1
  rw [if_pos ky] at h2
  simp only [if_pos kx, if_pos ky]
  by_cases wx : wants st.tm x.g = true
  · by_cases wy : wants st.tm y.g = true
    · simp only [wx, wy, if_true] at h1 h2 ⊢
      by_cases cx : clsW pf x.op = 0
      · have cx := clsW0 cx
        have e : hx = st.h := by
          have := act_cls0 (st := st) (cf := cg) cx st.h
          rw [show ({ st with h := st.h } : St) = st from rfl, h1] at this
          simp only [Option.map_some, Option.some.injEq, Prod.mk.injEq] at this
          exact this.2
        rw [e] at h2
        exact ⟨hy, h2, by rw [act_cls0 cx hy, h1]; rfl⟩
      · by_cases cy : clsW pf y.op = 0
        · have cy := clsW0 cy
          have h3 := act_cls0 (st := st) (cf := cg) cy hx
          rw [h2] at h3
          cases h4 : act cg st y.op with
          | none => rw [h4] at h3; simp at h3
          | some r =>
            obtain ⟨v, h'⟩ := r
            rw [h4] at h3
            simp only [Option.map_some, Option.some.injEq, Prod.mk.injEq] at h3
            obtain ⟨rfl, rfl⟩ := h3
            have h5 := act_cls0 (st := st) (cf := cg) cy st.h
            rw [show ({ st with h := st.h } : St) = st from rfl, h4] at h5
            simp only [Option.map_some, Option.some.injEq, Prod.mk.injEq] at h5
            obtain ⟨_, rfl⟩ := h5
            exact ⟨st.h, rfl, h1⟩
        · simp only [clsWOk, Bool.or_eq_true, Bool.and_eq_true, beq_iff_eq, cx, cy, false_or] at hc
          rcases hc with (⟨a1, a2⟩ | ⟨a1, a2⟩) | ⟨a1, a2⟩
          · obtain ⟨n, p, ex⟩ := clsW6 a1
            obtain ⟨n', p', ey⟩ := clsW6 a2
            rw [ex] at h1 ox ⊢
            rw [ey] at h2 oy ⊢
            obtain ⟨rfl, k1⟩ := load_own ox h1
            obtain ⟨k2, _⟩ := load_own (st := { st with h := st.h }) oy h2
            try simp only at k2
            subst k2
            exact ⟨_, h2, h1⟩
          · obtain ⟨f, args, ex⟩ := clsW5 a1
            obtain ⟨n', p', ey⟩ := clsW6 a2
            rw [ex] at h1 ⊢
            rw [ey] at h2 oy ⊢
            have hk := call_own (m := st.base) (cf := cf) (by rw [hcf]; exact h1)
            obtain ⟨k2, k3⟩ := load_own (st := { st with h := hx }) oy h2
            simp only at k2
            subst k2
            exact ⟨st.h, k3 st.h (fun id hid => (hk id hid).symm), h1⟩
          · obtain ⟨n, p, ex⟩ := clsW6 a1
            obtain ⟨f, args, ey⟩ := clsW5 a2
            rw [ex] at h1 ox ⊢
            rw [ey] at h2 ⊢
            obtain ⟨rfl, k1⟩ := load_own ox h1
            have hk := call_own (m := st.base) (cf := cf) (by rw [hcf]; exact h2)
            exact ⟨hy, h2, k1 _ hk⟩
    · simp only [wx, wy, if_true, Bool.false_eq_true, if_false, Option.some.injEq, Prod.mk.injEq] at h1 h2 ⊢
      exact ⟨st.h, ⟨h2.1, rfl⟩, by rw [← h2.2]; exact h1⟩
  · by_cases wy : wants st.tm y.g = true
    · simp only [wx, wy, if_true, Bool.false_eq_true, if_false, Option.some.injEq, Prod.mk.injEq] at h1 h2 ⊢
      obtain ⟨rfl, rfl⟩ := h1
      exact ⟨hy, h2, rfl, rfl⟩
    · simp only [wx, wy, Bool.false_eq_true, if_false, Option.some.injEq, Prod.mk.injEq] at h1 h2 ⊢
      exact ⟨st.h, ⟨h2.1, rfl⟩, h1.1, by rw [← h2.2]; exact h1.2⟩

theorem ownB_agr {st : St} {tm' : List V} {h' : List O} {op : XOp} (h : Agr op.rd st.tm tm') : ownB { st with tm := tm', h := h' } op = ownB st op := by
  cases op
  case load n x =>
    have : ev st.tm x = ev tm' x := ev_agr (by simpa [XOp.rd] using h)
    simp only [ownB, this]
  all_goals rfl

theorem stepW_plain {cf : CallF} {x : XOper} {st st1 : St} (h : stepW cf x st = some st1) : stepO (frameCf st.base cf) x st = some st1 := by
  unfold stepW at h
  split at h
  · exact h
  · cases h
theorem stepW_give (cf : CallF) (o : XOper) (st : St) : stepW cf o st = if ownB st o.op then (give (frameCf st.base cf) o st).map fun r => { st with tm := putV st.tm o.d r.1, h := r.2 } else none := by
  unfold stepW
  rw [step_give]

theorem step_swapW {pf : Nat → Nat} {cf : CallF} {x y : XOper} (hc : commW pf x y = true) {st s1 s2 : St} (h1 : stepW cf x st = some s1) (h2 : stepW cf y s1 = some s2) :
    ∃ s1', stepW cf y st = some s1' ∧ stepW cf x s1' = some s2 := by
  simp only [commW, apartB, Bool.and_eq_true] at hc
  obtain ⟨⟨hx, hy⟩, hcl⟩ := hc
  have x1 : ∀ d, x.d = some d → d ∉ y.rd ∧ y.d ≠ some d := by
    intro d hd
    rw [hd] at hx
    simpa using hx
  have y1 : ∀ d, y.d = some d → d ∉ x.rd := by
    intro d hd
    rw [hd] at hy
    simpa using hy
  rw [stepW_give] at h1 h2
  split at h1
  rotate_left
  · cases h1
  split at h2
  rotate_left
  · cases h2
  rename_i ox oy
  simp only [Option.map_eq_some_iff] at h1 h2
  obtain ⟨⟨vx, hx'⟩, g1, rfl⟩ := h1
  obtain ⟨⟨vy, hy'⟩, g2, rfl⟩ := h2
  simp only at g2 oy
  have agy : Agr y.rd st.tm (putV st.tm x.d vx) := Agr.put fun d hd => (x1 d hd).1
  have oy' : ownB st y.op = true := by
    rw [← oy]
    exact (ownB_agr (h' := hx') (Agr.left (by unfold XOper.rd at agy; exact agy))).symm
  have a1 : give (frameCf st.base cf) y { st with h := hx' } = some (vy, hy') := by
    rw [give_agr (st := { st with h := hx' }) (tm' := putV st.tm x.d vx) agy]
    exact g2
  obtain ⟨hm, b1, b2⟩ := own_swap ox oy' hcl g1 a1
  refine ⟨{ st with tm := putV st.tm y.d vy, h := hm }, by rw [stepW_give, if_pos oy', b1]; rfl, ?_⟩
  have agx : Agr x.rd st.tm (putV st.tm y.d vy) := Agr.put fun d hd => y1 d hd
  have b3 : give (frameCf st.base cf) x { st with tm := putV st.tm y.d vy, h := hm } = some (vx, hy') := by
    rw [← give_agr (st := { st with h := hm }) (tm' := putV st.tm y.d vy) agx]
    exact b2
  rw [stepW_give]
  have ox' : ownB { st with tm := putV st.tm y.d vy, h := hm } x.op = true := by
    rw [ownB_agr (h' := hm) (Agr.left (by unfold XOper.rd at agx; exact agx))]
    exact ox
  rw [if_pos ox']
  simp only at b3 ⊢
  rw [b3]
  simp only [Option.map_some, Option.some.injEq, St.mk.injEq, and_true]
  cases hxd : x.d with
  | none => rfl
  | some d =>
    cases hyd : y.d with
    | none => rfl
    | some e =>
      have hne : e ≠ d := by
        intro q
        exact (x1 d hxd).2 (by rw [hyd, q])
      simp only [putV]
      exact List.set_comm _ _ hne

theorem bubbleW {pf : Nat → Nat} {cf : CallF} {y : XOper} {r2 : List XOper} {s' : St} : ∀ (r1 : List XOper) (st : St), (∀ x ∈ r1, commW pf x y = true) → runW cf (r1 ++ y :: r2) st = some s' →
    runW cf (y :: (r1 ++ r2)) st = some s'
  | [], _, _, h => h
  | x :: r1, st, hc, h => by
    simp only [List.cons_append, runW] at h
    cases h1 : stepW cf x st with
    | none => rw [h1] at h; cases h
    | some s1 =>
      rw [h1] at h
      simp only at h
      have ih := bubbleW r1 s1 (fun z hz => hc z (by simp [hz])) h
      simp only [runW] at ih
      cases h2 : stepW cf y s1 with
      | none => rw [h2] at ih; cases ih
      | some s2 =>
        rw [h2] at ih
        simp only at ih
        obtain ⟨s1', k1, k2⟩ := step_swapW (hc x (by simp)) h1 h2
        simp only [runW, List.cons_append, k1, k2, ih]
theorem stepW_len {cf : CallF} {x : XOper} {st st1 : St} (h : stepW cf x st = some st1) : st.h.length ≤ st1.h.length := step_len (stepW_plain h)
theorem stepW_rb {cf : CallF} {x : XOper} {st st1 : St} (h : stepW cf x st = some st1) : st1.rb = st.rb ∧ st1.base = st.base := step_rb (stepW_plain h)
section
variable {P : Program} {ds : List Deferred} {ρ : Option Nat} {nn : Nat}

theorem any_okW {pf : Nat → Nat} {cf : CallF} (hcf : CallOk P cf) {ops : Array Oper} {xs : List XOper} {pres : List O} {tab : Nat → Nat × List O} {rw : Bool} (T : Tab P rw ops ops.toList 0 xs pres tab) (hd : drawnW pf ops.toList xs = true)
    {Q : Exit → Act → World → Prop} {st' : St} {rb : Nat} (d0 : XOper) : ∀ (fuel : Nat) (rem : List Nat) (listed : Array Bool) (g : Gh) (w : World) (a : Act) (st : St),
    rem.length = fuel → listed.size = ops.size → (∀ i, i ∈ rem ↔ i < ops.size ∧ listed.getD i true = false) → rem.Pairwise (· < ·) → Closed ops.toList (fun i => listed.getD i false) →
    runW cf (rem.map fun i => xs.getD i d0) st = some st' → Sim ds g w a st → st.rb = rb → rb ≤ st.h.length → (∀ i ∈ rem, Fresh g st.h (rb + (tab i).1) (tab i).2) →
    (∀ a' w' g', Le g w g' w' → Sim ds g' w' a' st' → Quiet (Frb rb st.h) g st.h g' st'.h → Q .normal a' w') → wpAnyIn (FR ρ) nn P .any ops Q fuel listed a w := by
  have hmask : MaskOk ops.toList (masks ops.toList []) := masks_ok ops.toList ops.toList [] [] (by simp) rfl (by intro i o j _ h; simp at h)
  have hdi : ∀ i o, ops.toList[i]? = some o → lowerB i o = true ∧ ∀ j, j < i → ((masks ops.toList []).getD i 0).testBit j = true ∨ pairW pf xs j i = true := by
    intro i o ho
    have hi : i < ops.toList.length := (List.getElem?_eq_some_iff.1 ho).1
    have := List.all_eq_true.1 hd i (by simpa using hi)
    rw [ho] at this
    simp only [Bool.and_eq_true, List.all_eq_true, List.mem_range, Bool.or_eq_true] at this
    exact this
  have hget : ∀ (listed : Array Bool) i, listed.size = ops.size → i < ops.size → listed.getD i true = listed.getD i false := by
    intro listed i hs hi
    simp [Array.getD, hs, hi]
  intro fuel
  induction fuel with
  | zero =>
    intro rem listed g w a st hlen hls hmem _ _ hrun S _ _ _ hQ
    have hnil : rem = [] := List.eq_nil_of_length_eq_zero hlen
    subst hnil
    simp only [List.map_nil, runW, Option.some.injEq] at hrun
    subst hrun
    refine ⟨?_, hQ _ _ _ (Le.refl _ _) S (Quiet.refl _ _ _)⟩
    rw [List.eq_nil_iff_forall_not_mem]
    intro i hi
    rw [mem_ready] at hi
    obtain ⟨h1, o, ho, _⟩ := hi
    have := (hmem i).2 ⟨(Array.getElem?_eq_some_iff.1 ho).1, h1⟩
    simp at this
  | succ fuel ih =>
    intro rem listed g w a st hlen hls hmem hsort hcl hrun S hrb hrl hfr hQ
    refine ⟨fun hnil => ?_, fun i hi => ?_⟩
    · exfalso
      cases rem with
      | nil => simp at hlen
      | cons i r =>
        have hi := (hmem i).1 (by simp)
        have : i ∈ Region.ready .any ops listed := by
          rw [mem_ready]
          refine ⟨hi.2, ops[i], Array.getElem?_eq_getElem hi.1, fun e he hb => ?_⟩
          have hl := (hdi i ops[i] (by simp [hi.1])).1
          simp only [lowerB, List.all_eq_true, Bool.or_eq_true, Bool.not_eq_true', decide_eq_true_eq] at hl
          have hlt : e.on < i := (hl e (by simpa using he)).resolve_left (by simp [hb])
          cases hc : listed.getD e.on false with
          | true => rfl
          | false =>
            have : e.on ∈ i :: r := (hmem e.on).2 ⟨by omega, by rw [hget listed e.on hls (by omega)]; exact hc⟩
            simp only [List.pairwise_cons] at hsort
            rcases List.mem_cons.1 this with h | h
            · omega
            · have := hsort.1 _ h; omega
        rw [hnil] at this
        simp at this
    · have hr := mem_ready.1 hi
      obtain ⟨hun, o, ho, hpre⟩ := hr
      have hilt : i < ops.size := (Array.getElem?_eq_some_iff.1 ho).1
      have hol : ops.toList[i]? = some o := by simpa using ho
      have hir := (hmem i).2 ⟨hilt, hun⟩
      obtain ⟨r1, r2, rfl⟩ := List.append_of_mem hir
      have hs2 := List.pairwise_append.1 hsort
      obtain ⟨s1, s2, s3⟩ := hs2
      simp only [List.pairwise_cons] at s2
      obtain ⟨x, hx, htr⟩ := T.op i o hol
      have hxi : xs.getD i d0 = x := by rw [List.getD_eq_getElem?_getD, hx]; rfl
      rw [List.map_append, List.map_cons, hxi] at hrun
      have hbub := bubbleW (r1.map fun i => xs.getD i d0) st (fun z hz => by
        obtain ⟨j, hj, rfl⟩ := List.mem_map.1 hz
        have hji : j < i := s3 j hj i (by simp)
        have hjm := (hmem j).1 (by simp [hj])
        rcases (hdi i o hol).2 j hji with h | h
        · exfalso
          have := hmask i o j hol h _ hcl hpre
          rw [← hget listed j hls hjm.1, hjm.2] at this
          cases this
        · unfold pairW at h
          split at h
          · rename_i x1 x2 e1 e2
            rw [hx] at e2
            simp only [Option.some.injEq] at e2
            subst e2
            rw [List.getD_eq_getElem?_getD, e1]
            exact h
          · cases h) hrun
      rw [← List.map_append] at hbub
      simp only [runW] at hbub
      split at hbub
      · rename_i st1 hst1
        have := step_op (ρ := ρ) (nn := nn) (K := wpAnyIn (FR ρ) nn P .any ops Q fuel (listed.setIfInBounds i true)) (Q := Q) htr (stepW_plain hst1) (frame_ok hcf) S (by rw [hrb]; exact hfr i (by simp)) fun a' w' g' k1 k2 k3 => by
          refine ih (r1 ++ r2) _ g' w' a' st1 (by simp at hlen ⊢; omega) (by simpa using hls) (fun j => ?_) ?_ ?_ hbub k2 ((stepW_rb hst1).1.trans hrb) (Nat.le_trans hrl (stepW_len hst1)) (fun j hj => ?_) fun a'' w'' g'' m1 m2 m3 => hQ _ _ _ (k1.trans m1) m2 ((k3.mono (E' := Frb rb st.h) fun id hid => hid.elim (fun h => .inl (by have := h.2; omega)) fun h => h.imp (fun h => Nat.le_trans hrl h) fun h => h).transL k2.hk k1 m3)
          · by_cases hji : i = j
            · subst hji
              constructor
              · intro hj
                exfalso
                rcases List.mem_append.1 hj with h | h
                · have := s3 i h i (by simp); omega
                · have := s2.1 i h; omega
              · rintro ⟨_, h⟩
                simp [Array.getD, hls, hilt] at h
            · rw [getD_set_ne _ hji, ← hmem j]
              simp only [List.mem_append, List.mem_cons]
              constructor
              · rintro (h | h)
                · exact .inl h
                · exact .inr (.inr h)
              · rintro (h | h | h)
                · exact .inl h
                · exact absurd h.symm hji
                · exact .inr h
          · exact List.pairwise_append.2 ⟨s1, s2.2, fun p hp' q hq => s3 p hp' q (by simp [hq])⟩
          · intro j o' ho' hj e he hb
            simp only at hj ⊢
            by_cases hji : i = j
            · subst hji
              have : o' = o := by rw [hol] at ho'; simpa using ho'.symm
              subst this
              exact getD_set_true (hpre e he hb)
            · rw [getD_set_ne _ hji] at hj
              exact getD_set_true (hcl j o' ho' hj e he hb)
          · intro hne
            have hjm : j ∈ r1 ++ i :: r2 := by
              rcases List.mem_append.1 hj with h | h
              · simp [h]
              · simp [h]
            have hjs := ((hmem j).1 hjm).1
            obtain ⟨q1, q2, q3⟩ := hfr j hjm hne
            have hin : rb + (tab j).1 < st.h.length := by
              obtain ⟨p, hp'⟩ := List.exists_mem_of_ne_nil _ hne
              exact (List.getElem?_eq_some_iff.1 (q3 p hp')).1
            have hslot : ¬ (((tab i).2 ≠ [] ∧ rb + (tab j).1 = st.rb + (tab i).1) ∨ Frb st.h.length st.h (rb + (tab j).1)) := by
              rintro (⟨n1, n2⟩ | n3 | n3)
              rotate_left
              · omega
              · obtain ⟨p, hp'⟩ := List.exists_mem_of_ne_nil _ hne
                have h1 := q3 p hp'
                rw [n3] at h1
                simp only [Option.some.injEq] at h1
                have h2 := List.all_eq_true.1 (T.own j (by simpa using hjs)) _ hp'
                rw [← h1] at h2
                cases h2
              rw [hrb] at n2
              rcases List.mem_append.1 hj with h | h
              · have := T.lt j i (s3 j h i (by simp)) (by simpa using hilt) hne
                omega
              · have := T.lt i j (s2.1 j h) (by simpa using hjs) n1
                omega
            have k := k3 _ hslot
            exact ⟨k.1 q1, k.2.1 q2, fun p hp' => (k.2.2 q1 q2).trans (q3 p hp')⟩
        unfold wpOpIn
        rw [ho]
        simp only
        split
        · rename_i hw; rw [if_pos hw] at this; exact this
        · rename_i hw; rw [if_neg hw] at this; exact ⟨fun _ _ => trivial, this⟩
      · cases hbub

/-- A drawn region whose calls are kept from the frame's own objects. -/
theorem region_okW {pf : Nat → Nat} {cf : CallF} (hcf : CallOk P cf) (hm : P.follows .mixedOrders = true) {id : Nat} {ops : Array Oper} {xs : List XOper} {pres : List O} {rw : Bool} (htr : trOps P rw ops ops.toList 0 = some (xs, pres))
    (hd : drawnW pf ops.toList xs = true) {g : Gh} {w : World} {a : Act} {st st' : St} (S : Sim ds g w a st) (hrun : runW cf xs { st with h := st.h ++ pres, rb := st.h.length } = some st')
    {Q : Exit → Act → World → Prop} (hQ : ∀ a' w' g', Le g w g' w' → Sim ds g' w' a' st' → Quiet (Frb st.h.length st.h) g st.h g' st'.h → Q .normal a' w') : (Code.region id ops true).wpIn (FR ρ) nn P Q a w := by
  have hfr : ∀ j (hj : j < pres.length), g.blk (st.h.length + j) = none ∧ g.tok (st.h.length + j) = none ∧ (st.h ++ pres)[st.h.length + j]? = some pres[j] := by
    intro j hj
    refine ⟨S.hk.blk_none (by omega), S.hk.tok_none (by omega), ?_⟩
    rw [List.getElem?_append_right (by omega)]
    simp [hj]
  have S' : Sim ds g w a { st with h := st.h ++ pres, rb := st.h.length } := ⟨S.tm, S.hk.append _, S.df⟩
  have hq : ∀ {g' : Gh} {h' : List O}, Quiet (Frb st.h.length (st.h ++ pres)) g (st.h ++ pres) g' h' → Quiet (Frb st.h.length st.h) g st.h g' h' := by
    intro g' h' k id hid
    have hlt : id < st.h.length := by
      by_cases h : id < st.h.length
      · exact h
      · exact absurd (.inl (by omega)) hid
    have := k id (by
      rintro (h | h)
      · exact hid (.inl h)
      · rw [List.getElem?_append_left hlt] at h; exact hid (.inr h))
    rw [List.getElem?_append_left hlt] at this
    exact this
  obtain ⟨tab, T⟩ := tab_of _ _ _ _ htr
  refine wpIn_region_any hm ?_
  obtain ⟨d1, d2⟩ := S'.hk.drew
  have S2 : Sim ds g w.drew a { st with h := st.h ++ pres, rb := st.h.length } := ⟨S'.tm.mono d1, d2, S.df⟩
  refine any_okW hcf T hd (rb := st.h.length) ⟨none, .mv (.k undefV), none⟩ ops.size (List.range ops.size) _ g w.drew a _ (by simp) (by simp) (fun i => ?_) List.pairwise_lt_range ?_ ?_ S2 rfl (by simp) (fun i hi => ?_) (fun a' w' g' k1 k2 k3 => hQ _ _ _ (d1.trans k1) k2 (hq k3))
  · simp only [List.mem_range, Array.getD, Array.size_replicate]
    constructor
    · intro h; exact ⟨h, by simp [h]⟩
    · exact fun h => h.1
  · intro i o ho h
    simp only [Array.getD, Array.size_replicate] at h
    split at h <;> simp at h
  · have e : (List.range ops.size).map (fun i => xs.getD i ⟨none, .mv (.k undefV), none⟩) = xs := by
      apply List.ext_getElem
      · simp [T.len]
      · intro i h1 h2
        simp [List.getD_eq_getElem?_getD, h2]
    rw [e]; exact hrun
  · intro hne
    have hi' : i < ops.toList.length := by simpa using hi
    cases hpre : (tab i).2 with
    | nil => exact absurd hpre hne
    | cons p r =>
      have h1 := T.at' i hi' p (by rw [hpre]; simp)
      obtain ⟨hlt, _⟩ := List.getElem?_eq_some_iff.1 h1
      rw [Nat.sub_zero] at hlt
      obtain ⟨f1, f2, f3⟩ := hfr _ hlt
      refine ⟨f1, f2, fun q hq => ?_⟩
      have h2 := T.at' i hi' q (by rw [hpre]; exact hq)
      rw [Nat.sub_zero] at h2
      rw [f3, ← h2, List.getElem?_eq_getElem hlt]
end
end Go.Proofs.YtkiliokeanmagaaDoor.Ab
