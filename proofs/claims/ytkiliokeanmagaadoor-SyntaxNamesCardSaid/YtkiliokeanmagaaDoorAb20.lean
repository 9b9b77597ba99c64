/- The step to a kid, and back. -/
import Derived.Test.YtkiliokeanmagaaDoorAb19
namespace Go.Proofs.YtkiliokeanmagaaDoor.Ab
open Go
set_option linter.unusedVariables false
set_option linter.unusedSimpArgs false

theorem Rep.mono_w {g g' : Gh} {w w' : World} (hblk : ∀ id b, g.blk id = some b → g'.blk id = some b)
    (htok : ∀ k b l c, g.tok k = some (b, l, c) → ∃ b' l' c', g'.tok k = some (b', l', c') ∧ l ≤ l' ∧ (l = l' → b = b' ∧ c = c'))
    (hfz : ∀ b o, g.fz b o → g'.fz b o ∧ w'.cell? ⟨b, o, none⟩ = w.cell? ⟨b, o, none⟩)
    (hsz : ∀ (b : Nat) (c : Array Value) (T : TypeId), w.heap[b]? = some (.cells c T (0, 0)) → ∃ c', w'.heap[b]? = some (.cells c' T (0, 0)) ∧ c'.size = c.size) (hoth : Oth g w w') {x : Value} {v : V} (h : Rep g w x v) : Rep g' w' x v :=
  h.monoV ⟨hblk, htok, hfz, hsz, hoth⟩

/-- A new block that nobody knows. -/
theorem HOk.grew {g : Gh} {w w' : World} {h : List O} {o : Obj} (H : HOk g w h) (hg : Grew w w' o) : Le g w g w' ∧ HOk g w' h := by
  have hle : Le g w g w' := Le.quiet (fun _ _ h => h) (fun _ _ h => h) (fun _ _ h => h) H.al (fun _ h _ => h) (fun _ _ h _ => .inl h) (fun b hb => hg.old hb) (by rw [hg.size]; omega) hg.tape hg.os hg.output
  refine ⟨hle, fun id b e => ?_, fun id b n c e => ?_, H.inj, H.tinj, H.bt, H.ag.go hle fun b o h => by have := H.al b o h; rw [hg.size]; omega⟩
  · rcases H.obj _ _ e with ⟨cs, c, T, h1, h2, h3, h4, h5⟩ | q
    · exact .inl ⟨cs, c, T, h1, by rw [hg.old (H.blk_lt e).2]; exact h2, h3, fun j hj hc => ⟨(h4 j hj hc).1.mono hle, (h4 j hj hc).2⟩, h5⟩
    · exact .inr (q.go hle rfl (hg.old (H.blk_lt e).2) fun _ h => h)
  · obtain ⟨z, cc, T, h1, h2, h3⟩ := H.tok _ _ _ _ e
    exact ⟨z, cc, T, h1.go hle rfl (fun _ h => h), by rw [hg.old (H.tok_lt e).2]; exact h2, h3⟩

/-- The ghost for the call: the first m objects and the path. -/
def Gh.kid (g : Gh) (m b : Nat) : Gh := ⟨fun id => if id < m then g.blk id else if id = m then some b else none, fun id => if id < m then g.tok id else none, g.fz⟩
theorem kid_blk {g : Gh} {m b id b2 : Nat} (e : (g.kid m b).blk id = some b2) : (id < m ∧ g.blk id = some b2) ∨ (id = m ∧ b = b2) := by
  simp only [Gh.kid] at e
  split at e
  · exact .inl ⟨‹_›, e⟩
  · split at e
    · simp only [Option.some.injEq] at e; exact .inr ⟨‹_›, e⟩
    · cases e
theorem kid_tok {g : Gh} {m b id : Nat} {p : Nat × Nat × Nat} (e : (g.kid m b).tok id = some p) : id < m ∧ g.tok id = some p := by
  simp only [Gh.kid] at e
  split at e
  · exact ⟨‹_›, e⟩
  · cases e
theorem kid_owns {g : Gh} {m b b2 : Nat} (e : (g.kid m b).owns b2) : g.owns b2 ∨ b2 = b := by
  rcases e with ⟨id, e⟩ | ⟨k, l, c, e⟩
  · rcases kid_blk e with ⟨_, e⟩ | ⟨_, e⟩
    · exact .inl (.inl ⟨id, e⟩)
    · exact .inr e.symm
  · exact .inl (.inr ⟨k, l, c, (kid_tok e).2⟩)

/-- Whose block it is: the path's, or a new one's. -/
def Whose (g : Gh) (w0 : World) (m b : Nat) : Prop := g.blk m = some b ∨ (w0.heap.size ≤ b ∧ ¬ g.owns b ∧ ∀ o, ¬ g.fz b o)

theorem rep_I64 {g : Gh} {w : World} {x : Value} {n : Int} (h : Rep g w x (I64 n)) : x = .int .i64 n := h.of_c

theorem low_kid {g : Gh} {w : World} {m b : Nat} {x : Value} {v : V} (h : Rep g w x v) (hl : V.low m v = true) : Rep (g.kid m b) w x v :=
  (h.res hl).of_frz (fun _ _ h => h) (fun id b2 e => by obtain ⟨a1, a2⟩ := res_blk e; simp [Gh.kid, a1, a2]) (fun id p e => by obtain ⟨a1, a2⟩ := res_tok e; simp [Gh.kid, a1, a2])

theorem kid_enter {g : Gh} {w w0 : World} {hm e : List O} (H : HOk g w (hm ++ e)) (hl : hm.all (O.low hm.length) = true) {b : Nat} (hw : Whose g w0 hm.length b) {c : Array Value} {T : TypeId} (hb : w.heap[b]? = some (.cells c T (0, 0))) {ps : List Int}
    (hn : ps.length ≤ c.size) (hc : ∀ j (hj : j < ps.length), c[j]? = some (.int .i64 ps[j])) : HOk (g.kid hm.length b) w (hm ++ [pcell ps]) := by
  have hfar : ∀ id, id < hm.length → g.blk id = some b → False := by
    intro id hid e
    rcases hw with hw | ⟨_, hw, _⟩
    · have := H.inj _ _ _ e hw; omega
    · exact hw (.inl ⟨id, e⟩)
  have hfart : ∀ id l c, g.tok id = some (b, l, c) → False := by
    intro id l c e
    rcases hw with hw | ⟨_, hw, _⟩
    · exact H.bt _ _ _ _ _ hw e
    · exact hw (.inr ⟨id, l, c, e⟩)
  refine ⟨fun id b2 e => ?_, fun id b2 n cap e => ?_, fun id id' b2 e e' => ?_, fun id id' b2 n c n' c' e e' => H.tinj _ _ _ _ _ _ _ (kid_tok e).2 (kid_tok e').2, fun id id' b2 n c e e' => ?_, H.ag.eqv rfl⟩
  · rcases kid_blk e with ⟨hid, e⟩ | ⟨rfl, rfl⟩
    · rcases H.obj _ _ e with ⟨cs, c, T, c1, c2, c3, c4, c5⟩ | q
      · rw [List.getElem?_append_left hid] at c1
        have h7 := List.all_eq_true.1 hl _ (List.mem_of_getElem? c1)
        exact .inl ⟨cs, c, T, by rw [List.getElem?_append_left hid]; exact c1, c2, c3, fun j hj hc => ⟨low_kid (c4 j hj hc).1 (lows_get h7 j hj), (c4 j hj hc).2⟩, c5⟩
      · refine .inr (q.mapL (m := hm.length) (by rw [List.getElem?_append_left hid, List.getElem?_append_left hid]) rfl (fun r hv => low_kid r hv) (fun o ho => ?_) fun _ h => h)
        rw [List.getElem?_append_left hid] at ho
        exact List.all_eq_true.1 hl _ (List.mem_of_getElem? ho)
    · refine .inl ⟨ps.map I64, c, T, by simp [pcell], hb, by simpa using hn, fun j hj hk => ?_, fun o ho => ?_⟩
      · have hj' : j < ps.length := by simpa using hj
        have := hc j hj'
        rw [Array.getElem?_eq_getElem hk] at this
        rw [Option.some.inj this, List.getElem_map]
        exact ⟨.c _, rfl⟩
      · rcases hw with hw | ⟨_, _, hw⟩
        · exact H.noFz hw o ho
        · exact hw o ho
  · obtain ⟨hid, e⟩ := kid_tok e
    obtain ⟨z, cc, T, c1, c2⟩ := H.tok _ _ _ _ e
    refine ⟨z, cc, T, c1.mapL (m := hm.length) (by rw [List.getElem?_append_left hid, List.getElem?_append_left hid]) (fun r hl => low_kid r hl) (fun o ho => ?_) (fun _ h => h), c2⟩
    rw [List.getElem?_append_left hid] at ho
    exact List.all_eq_true.1 hl _ (List.mem_of_getElem? ho)
  · rcases kid_blk e with ⟨hid, e⟩ | ⟨rfl, rfl⟩ <;> rcases kid_blk e' with ⟨hid', e'⟩ | ⟨hid', e'⟩
    · exact H.inj _ _ _ e e'
    · subst e'; exact (hfar _ hid e).elim
    · exact (hfar _ hid' e').elim
    · exact hid'.symm
  · obtain ⟨hid', e'⟩ := kid_tok e'
    rcases kid_blk e with ⟨hid, e⟩ | ⟨_, rfl⟩
    · exact H.bt _ _ _ _ _ e e'
    · exact hfart _ _ _ e'

theorem kid_leave {g g0 g1 : Gh} {w w0 w1 : World} {hm h1 e : List O} {ps : List Int} {i : Int} (H : HOk g w (hm ++ e)) (he : e[0]? = some (pcell ps)) (hle0 : Le g0 w0 g w) {b : Nat} (hw : Whose g w0 hm.length b)
    (hle : Le (g.kid hm.length b) w g1 w1) (hs : HOk g1 w1 (h1 ++ [pcell (ps ++ [i])])) (hl : h1.length = hm.length) (hlow : h1.all (O.low hm.length) = true) (hq : Quiet (Frb hm.length (hm ++ [pcell (ps ++ [i])])) (g.kid hm.length b) (hm ++ [pcell (ps ++ [i])]) g1 (h1 ++ [pcell (ps ++ [i])])) :
    Le g0 w0 (g1.glue g hm.length) w1 ∧ HOk (g1.glue g hm.length) w1 (h1 ++ e) ∧ Quiet (Frb hm.length (hm ++ e)) g (hm ++ e) (g1.glue g hm.length) (h1 ++ e) ∧ ∀ {x : Value} {v : V}, Rep g w x v → Rep (g1.glue g hm.length) w1 x v := by
  have hkown : ∀ b2, (g.kid hm.length b).owns b2 → b2 < w0.heap.size → g.owns b2 := by
    intro b2 ho hlt
    rcases kid_owns ho with h | rfl
    · exact h
    · rcases hw with hw | ⟨hw, _⟩
      · exact .inl ⟨_, hw⟩
      · omega
  have hblk : ∀ id b, g.blk id = some b → (g1.glue g hm.length).blk id = some b := fun id b2 e => by
    by_cases hid : id < hm.length
    · simp only [Gh.glue, hid, if_true]; exact hle.blk id b2 (by simp [Gh.kid, hid, e])
    · simp only [Gh.glue, hid, if_false]; exact e
  have htok : ∀ k b l c, g.tok k = some (b, l, c) → ∃ b' l' c', (g1.glue g hm.length).tok k = some (b', l', c') ∧ l ≤ l' ∧ (l = l' → b = b' ∧ c = c') := fun k b2 l c e => by
    by_cases hid : k < hm.length
    · simp only [Gh.glue, hid, if_true]; exact hle.tok k b2 l c (by simp [Gh.kid, hid, e])
    · simp only [Gh.glue, hid, if_false]; exact ⟨b2, l, c, e, Nat.le_refl _, fun _ => ⟨rfl, rfl⟩⟩
  have hrepg : ∀ {x : Value} {v : V}, Rep g w x v → Rep (g1.glue g hm.length) w1 x v := fun r => r.mono_w hblk htok hle.fz hle.sz hle.oth
  have hrep1 : ∀ {x : Value} {v : V}, Rep g1 w1 x v → V.low hm.length v = true → Rep (g1.glue g hm.length) w1 x v := fun r hlow =>
    (r.res hlow).of_frz (fun _ _ h => h) (fun id b2 e => by obtain ⟨a1, a2⟩ := res_blk e; simp [Gh.glue, a1, a2]) (fun id p e => by obtain ⟨a1, a2⟩ := res_tok e; simp [Gh.glue, a1, a2])
  have hks : ∀ b2, g1.owns b2 → b2 < w.heap.size → (g.kid hm.length b).owns b2 := fun b2 e hlt => hle.own b2 e hlt
  -- blocks of objects behind, but for the path's own
  have hfar : ∀ id b2, hm.length ≤ id → g.blk id = some b2 → b2 ≠ b → ¬ (g.kid hm.length b).owns b2 := by
    rintro id b2 hid e hne (⟨id', e'⟩ | ⟨k, l, c, e'⟩)
    · rcases kid_blk e' with ⟨a1, a2⟩ | ⟨_, a2⟩
      · have := H.inj _ _ _ e a2; omega
      · exact hne a2.symm
    · exact (H.bt _ _ _ _ _ e (kid_tok e').2).elim
  have hfart : ∀ id b2 l c, hm.length ≤ id → g.tok id = some (b2, l, c) → ¬ (g.kid hm.length b).owns b2 := by
    rintro id b2 l c hid e ho
    rcases ho with ⟨id', e'⟩ | ⟨k, l', c', e'⟩
    · rcases kid_blk e' with ⟨a1, a2⟩ | ⟨_, rfl⟩
      · exact (H.bt _ _ _ _ _ a2 e).elim
      · rcases hw with hw | ⟨_, hw, _⟩
        · exact H.bt _ _ _ _ _ hw e
        · exact hw (.inr ⟨_, _, _, e⟩)
    · obtain ⟨a1, a2⟩ := kid_tok e'
      have := H.tinj _ _ _ _ _ _ _ e a2; omega
  have hbne : ∀ id b2, hm.length < id → g.blk id = some b2 → b2 ≠ b := by
    rintro id b2 hid e rfl
    rcases hw with hw | ⟨_, hw, _⟩
    · have := H.inj _ _ _ e hw; omega
    · exact hw (.inl ⟨_, e⟩)
  have hnf : ∀ b2 o, g1.fz b2 o → b2 < w.heap.size → ¬ (g.kid hm.length b).owns b2 → g.fz b2 o := fun b2 o e hlt hn => (hle.fzn b2 o e hlt).resolve_right hn
  have hle' : Le g0 w0 (g1.glue g hm.length) w1 := {
    blk := fun id b2 e => hblk _ _ (hle0.blk _ _ e)
    tok := fun k b2 l c e => by
      obtain ⟨b3, l3, c3, k1, k2, k3⟩ := hle0.tok _ _ _ _ e
      obtain ⟨b4, l4, c4, m1, m2, m3⟩ := htok _ _ _ _ k1
      refine ⟨b4, l4, c4, m1, by omega, fun e2 => ?_⟩
      have e3 : l = l3 := by omega
      have e4 : l3 = l4 := by omega
      exact ⟨(k3 e3).1.trans (m3 e4).1, (k3 e3).2.trans (m3 e4).2⟩
    fz := fun b2 o e => ⟨(hle.fz b2 o (hle0.fz b2 o e).1).1, (hle.fz b2 o (hle0.fz b2 o e).1).2.trans (hle0.fz b2 o e).2⟩
    own := fun b2 ho hlt => by
      have hlt2 := Nat.lt_of_lt_of_le hlt hle0.size
      refine hle0.own b2 ?_ hlt
      rcases ho with ⟨id, e⟩ | ⟨k, l, c, e⟩
      · rcases glue_blk e with ⟨_, e⟩ | ⟨_, e⟩
        · exact hkown b2 (hks b2 (.inl ⟨id, e⟩) hlt2) hlt
        · exact .inl ⟨id, e⟩
      · rcases glue_tok e with ⟨_, e⟩ | ⟨_, e⟩
        · exact hkown b2 (hks b2 (.inr ⟨k, l, c, e⟩) hlt2) hlt
        · exact .inr ⟨k, l, c, e⟩
    fzn := fun b2 o e hlt => by
      have hlt2 := Nat.lt_of_lt_of_le hlt hle0.size
      rcases hle.fzn b2 o e hlt2 with h | h
      · exact hle0.fzn b2 o h hlt
      · exact .inr (hle0.own b2 (hkown b2 h hlt) hlt)
    kept := fun b2 hlt hn => by
      have hlt2 := Nat.lt_of_lt_of_le hlt hle0.size
      exact (hle.kept b2 hlt2 fun ho => hn (hle0.own b2 (hkown b2 ho hlt) hlt)).trans (hle0.kept b2 hlt hn)
    size := Nat.le_trans hle0.size hle.size
    tape := hle.tape.trans hle0.tape
    os := hle.os.trans hle0.os
    output := hle.output.trans hle0.output
    sz := fun b2 c T e => by
      obtain ⟨c1, k1, k2⟩ := hle0.sz _ _ _ e
      obtain ⟨c2, m1, m2⟩ := hle.sz _ _ _ k1
      exact ⟨c2, m1, m2.trans k2⟩
    oth := fun b2 o e hc => by
      obtain ⟨o1, a1, a2, a3, a4⟩ := hle0.oth b2 o e hc
      obtain ⟨o2, b1, b2', b3, b4⟩ := hle.oth b2 o1 a1 a2
      exact ⟨o2, b1, b2', a3.trans b3, fun es ck q f => by have h9 := a4 es ck q f; exact (b4 es ck (h9.trans q) (hle0.fz _ 0 f).1).trans h9⟩ }
  refine ⟨hle', ⟨fun id b2 e' => ?_, fun id b2 n c e' => ?_, fun id id' b2 e1 e2 => ?_, fun id id' b2 n c n' c' e1 e2 => ?_, fun id id' b2 n c e1 e2 => ?_, hs.ag.eqv rfl⟩, fun id hid => ?_, hrepg⟩
  · rcases glue_blk e' with ⟨hid, e'⟩ | ⟨hid, e'⟩
    · rcases hs.obj id b2 e' with ⟨cs, c, T, c1, c2, c3, c4, c5⟩ | q
      · rw [List.getElem?_append_left (by omega)] at c1
        have h7 := List.all_eq_true.1 hlow _ (List.mem_of_getElem? c1)
        exact .inl ⟨cs, c, T, by rw [List.getElem?_append_left (by omega)]; exact c1, c2, c3, fun j hj hc => ⟨hrep1 (c4 j hj hc).1 (lows_get h7 j hj), (c4 j hj hc).2⟩, c5⟩
      · refine .inr (q.mapL (m := hm.length) (by rw [List.getElem?_append_left (by omega), List.getElem?_append_left (by omega)]) rfl hrep1 (fun o ho => ?_) fun _ h => h)
        rw [List.getElem?_append_left (by omega)] at ho
        exact List.all_eq_true.1 hlow _ (List.mem_of_getElem? ho)
    · rcases H.obj id b2 e' with ⟨cs, c, T, c1, c2, c3, c4, c5⟩ | q
      rotate_left
      · have hlt := q.lt.2
        have hbb : b2 ≠ b := by
          rintro rfl
          rcases hw with hw | ⟨_, hw, _⟩
          · have := H.inj _ _ _ e' hw
            subst this
            exact q.not_cells (cs := ps.map I64) (by rw [List.getElem?_append_right (Nat.le_refl _), Nat.sub_self]; exact he)
          · exact hw (.inl ⟨_, e'⟩)
        exact .inr (q.map (by rw [List.getElem?_append_right (by omega), List.getElem?_append_right hid, hl]) (hle.kept b2 hlt (hfar _ _ hid e' hbb)) hrepg fun o ho => hnf b2 o ho hlt (hfar _ _ hid e' hbb))
      have hlt := (Array.getElem?_eq_some_iff.1 c2).1
      rw [List.getElem?_append_right hid] at c1
      have hget : (h1 ++ e)[id]? = some (.cells cs) := by rw [List.getElem?_append_right (by omega), hl]; exact c1
      by_cases hbb : b2 = b
      · -- the path, longer by one
        subst hbb
        have hidm : id = hm.length := by
          rcases Nat.lt_or_ge hm.length id with h | h
          · exact absurd rfl (hbne _ _ h e')
          · omega
        subst hidm
        have hblkm : g1.blk hm.length = some b2 := hle.blk _ _ (by simp [Gh.kid])
        obtain ⟨cs1, c1', T1, d1, d2, d3, d4, d5⟩ := hs.cellsOf hblkm (cs := (ps ++ [i]).map I64) (by rw [List.getElem?_append_right (by omega), hl]; simp [pcell])
        rw [List.getElem?_append_right (by omega), hl] at d1
        simp only [Nat.sub_self, List.getElem?_cons_zero, Option.some.injEq, pcell, O.cells.injEq] at d1
        subst d1
        rw [Nat.sub_self, he] at c1
        simp only [Option.some.injEq, pcell, O.cells.injEq] at c1
        subst c1
        simp only [List.length_map, List.length_append, List.length_cons, List.length_nil] at d3
        refine .inl ⟨_, c1', T1, hget, d2, by simp; omega, fun j hj hc => ?_, d5⟩
        have hj' : j < ps.length := by simpa using hj
        have := (d4 j (by simp; omega) hc).1
        rw [List.getElem_map, List.getElem_append_left hj'] at this
        rw [rep_I64 this, List.getElem_map]
        exact ⟨.c _, rfl⟩
      · exact .inl ⟨cs, c, T, hget, (hle.kept b2 hlt (hfar _ _ hid e' hbb)).trans c2, c3, fun j hj hc => ⟨hrepg (c4 j hj hc).1, (c4 j hj hc).2⟩, fun o ho => c5 o (hnf b2 o ho hlt (hfar _ _ hid e' hbb))⟩
  · rcases glue_tok e' with ⟨hid, e'⟩ | ⟨hid, e'⟩
    · obtain ⟨z, cc, T, c1, c2, c3⟩ := hs.tok id b2 n c e'
      refine ⟨z, cc, T, c1.mapL (m := hm.length) (by rw [List.getElem?_append_left (by omega), List.getElem?_append_left (by omega)]) hrep1 (fun o ho => ?_) (fun _ h => h), c2, c3⟩
      rw [List.getElem?_append_left (by omega)] at ho
      exact List.all_eq_true.1 hlow _ (List.mem_of_getElem? ho)
    · obtain ⟨z, cc, T, c1, c2, c3, c4, c5⟩ := H.tok id b2 n c e'
      have hlt := (Array.getElem?_eq_some_iff.1 c2).1
      exact ⟨z, cc, T, c1.map (by rw [List.getElem?_append_right (by omega), List.getElem?_append_right hid, hl]) hrepg (fun o ho => hnf b2 o ho hlt (hfart _ _ _ _ hid e')), (hle.kept b2 hlt (hfart _ _ _ _ hid e')).trans c2, c3, c4, fun o ho => c5 o (hnf b2 o ho hlt (hfart _ _ _ _ hid e'))⟩
  · rcases glue_blk e1 with ⟨hid, e1⟩ | ⟨hid, e1⟩ <;> rcases glue_blk e2 with ⟨hid', e2⟩ | ⟨hid', e2⟩
    · exact hs.inj _ _ _ e1 e2
    · by_cases hbb : b2 = b
      · subst hbb
        have := hs.inj _ _ _ e1 (hle.blk hm.length b2 (by simp [Gh.kid])); omega
      · exact absurd (hks b2 (.inl ⟨_, e1⟩) (H.blk_lt e2).2) (hfar _ _ hid' e2 hbb)
    · by_cases hbb : b2 = b
      · subst hbb
        have := hs.inj _ _ _ e2 (hle.blk hm.length b2 (by simp [Gh.kid])); omega
      · exact absurd (hks b2 (.inl ⟨_, e2⟩) (H.blk_lt e1).2) (hfar _ _ hid e1 hbb)
    · exact H.inj _ _ _ e1 e2
  · rcases glue_tok e1 with ⟨hid, e1⟩ | ⟨hid, e1⟩ <;> rcases glue_tok e2 with ⟨hid', e2⟩ | ⟨hid', e2⟩
    · exact hs.tinj _ _ _ _ _ _ _ e1 e2
    · exact absurd (hks b2 (.inr ⟨_, _, _, e1⟩) (H.tok_lt e2).2) (hfart _ _ _ _ hid' e2)
    · exact absurd (hks b2 (.inr ⟨_, _, _, e2⟩) (H.tok_lt e1).2) (hfart _ _ _ _ hid e1)
    · exact H.tinj _ _ _ _ _ _ _ e1 e2
  · rcases glue_blk e1 with ⟨hid, e1⟩ | ⟨hid, e1⟩ <;> rcases glue_tok e2 with ⟨hid', e2⟩ | ⟨hid', e2⟩
    · exact hs.bt _ _ _ _ _ e1 e2
    · exact absurd (hks b2 (.inl ⟨_, e1⟩) (H.tok_lt e2).2) (hfart _ _ _ _ hid' e2)
    · by_cases hbb : b2 = b
      · subst hbb
        exact hs.bt _ _ _ _ _ (hle.blk hm.length b2 (by simp [Gh.kid])) e2
      · exact absurd (hks b2 (.inr ⟨_, _, _, e2⟩) (H.blk_lt e1).2) (hfar _ _ hid e1 hbb)
    · exact H.bt _ _ _ _ _ e1 e2
  · have hlt : id < hm.length := Nat.lt_of_not_le fun h => hid (.inl h)
    obtain ⟨q1, q2, q3⟩ := hq id (fun h => h.elim (fun h => by omega) fun h => hid (.inr (by rw [List.getElem?_append_left hlt] at h ⊢; exact h)))
    refine ⟨fun e => by simp only [Gh.glue, hlt, if_true]; exact q1 (by simp [Gh.kid, hlt, e]), fun e => by simp only [Gh.glue, hlt, if_true]; exact q2 (by simp [Gh.kid, hlt, e]), fun e e' => ?_⟩
    rw [List.getElem?_append_left (by omega), List.getElem?_append_left hlt]
    have := q3 (by simp [Gh.kid, hlt, e]) (by simp [Gh.kid, hlt, e'])
    rw [List.getElem?_append_left (by omega), List.getElem?_append_left hlt] at this
    exact this
end Go.Proofs.YtkiliokeanmagaaDoor.Ab
