/- How memory may go on: a new object, a new row, a row that grows, a store. -/
import Derived.Test.YtkiliokeanmagaaDoorAb1
namespace Go.Proofs.YtkiliokeanmagaaDoor.Ab
open Go
set_option linter.unusedVariables false
set_option linter.unusedSimpArgs false

/-- One new block. -/
structure Grew (w w' : World) (o : Obj) : Prop where
  heap : w'.heap = w.heap.push o
  tape : w'.tape = w.tape
  os : w'.os = w.os
  output : w'.output = w.output
theorem Grew.alloc (w : World) (o : Obj) : Grew w (w.alloc o) o := ⟨rfl, rfl, rfl, rfl⟩
theorem Grew.drewAlloc (w : World) (o : Obj) : Grew w (w.drew.alloc o) o := ⟨rfl, rfl, rfl, rfl⟩
section
variable {w w' : World} {o : Obj}
theorem Grew.size (h : Grew w w' o) : w'.heap.size = w.heap.size + 1 := by rw [h.heap, Array.size_push]
theorem Grew.old (h : Grew w w' o) {b : Nat} (hb : b < w.heap.size) : w'.heap[b]? = w.heap[b]? := by
  rw [h.heap, Array.getElem?_push_lt hb, Array.getElem?_eq_getElem hb]
theorem Grew.new (h : Grew w w' o) : w'.heap[w.heap.size]? = some o := by rw [h.heap]; simp
theorem cell_same {b o : Nat} (h : w'.heap[b]? = w.heap[b]?) : w'.cell? ⟨b, o, none⟩ = w.cell? ⟨b, o, none⟩ := by simp [World.cell?, h]
end

theorem cell_of {w : World} {b j : Nat} {c : Array Value} {T : TypeId} {fr : Nat × Nat} (h : w.heap[b]? = some (.cells c T fr)) : w.cell? ⟨b, j, none⟩ = c[j]? := by simp [World.cell?, h]

theorem setRow_sz {w : World} {b : Nat} {c c' : Array Value} {T : TypeId} (hb : w.heap[b]? = some (.cells c T (0, 0))) (hs : c'.size = c.size) (b' : Nat) (c1 : Array Value) (T1 : TypeId) (e : w.heap[b']? = some (.cells c1 T1 (0, 0))) :
    ∃ c2, (w.setRow b c').heap[b']? = some (.cells c2 T1 (0, 0)) ∧ c2.size = c1.size := by
  by_cases hbb : b' = b
  · subst hbb
    rw [hb] at e
    simp only [Option.some.injEq, Obj.cells.injEq] at e
    obtain ⟨rfl, rfl, _⟩ := e
    exact ⟨c', setRow_heap w _ _ c' _ _ hb, hs⟩
  · exact ⟨c1, by rw [setRow_other w b b' c' hbb]; exact e, rfl⟩

/-- What goes on without objects and frozen cells being touched. -/
theorem Le.quiet {g g' : Gh} {w w' : World} (hb : ∀ id b, g.blk id = some b → g'.blk id = some b) (ht : ∀ k p, g.tok k = some p → g'.tok k = some p)
    (hf : ∀ b o, g.fz b o → g'.fz b o) (hal : ∀ b o, g.fz b o → b < w.heap.size)
    (hown : ∀ b, g'.owns b → b < w.heap.size → g.owns b) (hfn : ∀ b o, g'.fz b o → b < w.heap.size → g.fz b o ∨ g.owns b)
    (hk : ∀ b, b < w.heap.size → w'.heap[b]? = w.heap[b]?) (hs : w.heap.size ≤ w'.heap.size) (h1 : w'.tape = w.tape) (h2 : w'.os = w.os) (h3 : w'.output = w.output) : Le g w g' w' :=
  ⟨hb, fun k b l c h => ⟨b, l, c, ht _ _ h, Nat.le_refl _, fun _ => ⟨rfl, rfl⟩⟩, fun b o h => ⟨hf _ _ h, cell_same (hk b (hal _ _ h))⟩, hown, hfn, fun b hlt _ => hk b hlt, hs, h1, h2, h3, fun b c T e => ⟨c, (hk b (Array.getElem?_eq_some_iff.1 e).1).trans e, rfl⟩, Oth.of_same fun b o e _ => (hk b (Array.getElem?_eq_some_iff.1 e).1).trans e⟩
theorem Oth.grew {g : Gh} {w w' : World} {o : Obj} (hg : Grew w w' o) : Oth g w w' := Oth.of_same fun b o e _ => (hg.old (Array.getElem?_eq_some_iff.1 e).1).trans e
theorem Oth.row {g : Gh} {w : World} {b : Nat} {c c' : Array Value} {T : TypeId} (hb : w.heap[b]? = some (.cells c T (0, 0))) : Oth g w (w.setRow b c') :=
  Oth.of_same fun b' o e k => (setRow_other w b b' c' fun hbb => by subst hbb; rw [hb] at e; cases e; cases k).trans e

theorem HOk.drew {g : Gh} {w : World} {h : List O} (H : HOk g w h) : Le g w g w.drew ∧ HOk g w.drew h := by
  have hle : Le g w g w.drew := Le.quiet (fun _ _ h => h) (fun _ _ h => h) (fun _ _ h => h) H.al (fun _ h _ => h) (fun _ _ h _ => .inl h) (fun _ _ => rfl) (Nat.le_refl _) rfl rfl rfl
  refine ⟨hle, ?_, fun id b n cap e => by
    obtain ⟨z, c, T, h1, h2⟩ := H.tok _ _ _ _ e
    exact ⟨z, c, T, h1.go hle rfl (fun _ h => h), h2⟩, H.inj, H.tinj, H.bt, H.ag.go hle H.al⟩
  intro id b e
  rcases H.obj _ _ e with ⟨cs, c, T, h1, h2, h3, h4, h5⟩ | t
  · exact .inl ⟨cs, c, T, h1, h2, h3, fun j hj hc => ⟨(h4 j hj hc).1.mono hle, (h4 j hj hc).2⟩, h5⟩
  · exact .inr (t.go hle rfl rfl fun _ h => h)

def Gh.setBlk (g : Gh) (id b : Nat) : Gh := { g with blk := fun i => if i = id then some b else g.blk i }

/-- A new object. -/
theorem HOk.newCells {g : Gh} {w w' : World} {h : List O} (H : HOk g w h) {id : Nat} (hid : id < h.length) (hb : g.blk id = none) (ht : g.tok id = none) {c : Array Value} {T : TypeId} {cs : List V}
    (hg : Grew w w' (.cells c T)) (hl : cs.length ≤ c.size) (hc : ∀ j (hj : j < cs.length) (hk : j < c.size), Rep g w c[j] cs[j] ∧ (c[j]).oneCell' = true) :
    Le g w (g.setBlk id w.heap.size) w' ∧ HOk (g.setBlk id w.heap.size) w' (h.set id (.cells cs)) := by
  have hne : ∀ i b, g.blk i = some b → i ≠ id := fun i b e e' => by rw [e', hb] at e; cases e
  have hnt : ∀ i p, g.tok i = some p → i ≠ id := fun i b e e' => by rw [e', ht] at e; cases e
  have hblk : ∀ i b, (g.setBlk id w.heap.size).blk i = some b → (i = id ∧ b = w.heap.size) ∨ (i ≠ id ∧ g.blk i = some b) := by
    intro i b e
    by_cases hi : i = id
    · subst hi; simp [Gh.setBlk] at e; exact .inl ⟨rfl, e.symm⟩
    · simp [Gh.setBlk, hi] at e; exact .inr ⟨hi, e⟩
  have hle : Le g w (g.setBlk id w.heap.size) w' := by
    refine Le.quiet (fun i b e => by simp [Gh.setBlk, hne i b e, e]) (fun _ _ h => h) (fun _ _ h => h) H.al ?_ (fun _ _ h _ => .inl h) (fun b hb => hg.old hb) (by rw [hg.size]; omega) hg.tape hg.os hg.output
    rintro b (⟨i, e⟩ | e) hlt
    · rcases hblk i b e with ⟨_, rfl⟩ | ⟨_, e'⟩
      · omega
      · exact .inl ⟨i, e'⟩
    · exact .inr e
  refine ⟨hle, ?_, ?_, ?_, ?_, ?_, ?_⟩
  · intro i b e
    rcases hblk i b e with ⟨rfl, rfl⟩ | ⟨hi, e'⟩
    · refine .inl ⟨cs, c, T, by rw [List.getElem?_set_self (by exact hid)], hg.new, hl, fun j hj hk => ⟨(hc j hj hk).1.mono hle, (hc j hj hk).2⟩, fun o hf => ?_⟩
      have := H.al _ _ hf
      omega
    · rcases H.obj _ _ e' with ⟨cs', c', T', h1, h2, h3, h4, h5⟩ | t
      · exact .inl ⟨cs', c', T', by rw [List.getElem?_set_ne (Ne.symm hi)]; exact h1, by rw [hg.old (H.blk_lt e').2]; exact h2, h3, fun j hj hk => ⟨(h4 j hj hk).1.mono hle, (h4 j hj hk).2⟩, h5⟩
      · exact .inr (t.go hle (List.getElem?_set_ne (Ne.symm hi)) (hg.old (H.blk_lt e').2) fun _ h => h)
  · intro i b n cap e
    have hi := hnt i _ e
    obtain ⟨z, c', T', h1, h2, h3⟩ := H.tok _ _ _ _ e
    exact ⟨z, c', T', h1.go hle (List.getElem?_set_ne (Ne.symm hi)) (fun _ h => h), by rw [hg.old (H.tok_lt e).2]; exact h2, h3⟩
  · intro i i' b e e'
    rcases hblk i b e with ⟨rfl, rfl⟩ | ⟨hi, e1⟩ <;> rcases hblk i' _ e' with ⟨rfl, h2⟩ | ⟨hi', e2⟩
    · rfl
    · have := (H.blk_lt e2).2; omega
    · have := (H.blk_lt e1).2; omega
    · exact H.inj _ _ _ e1 e2
  · exact H.tinj
  · intro i i' b n c' e e'
    rcases hblk i b e with ⟨rfl, rfl⟩ | ⟨hi, e1⟩
    · have := (H.tok_lt (id := i') e').2; omega
    · exact H.bt _ _ _ _ _ e1 e'
  · refine H.ag.go hle fun b o hf => ?_
    have := H.al b o hf
    rw [hg.size]; omega

def Gh.setTok (g : Gh) (k b n cap m : Nat) : Gh := { g with tok := fun i => if i = k then some (b, n, cap) else g.tok i, fz := fun b' o => g.fz b' o ∨ (b' = b ∧ o < m) }

/-- A row in a new block: a new one, or one that has moved. -/
theorem HOk.newRow {g : Gh} {w w' : World} {h : List O} (H : HOk g w h) {k : Nat} (hk : k < h.length) (hb : g.blk k = none) {n cap z : Nat} {c : Array Value} {T : TypeId}
    (hold : ∀ b' n' c', g.tok k = some (b', n', c') → n' < n) (hg : Grew w w' (.cells c T)) (hn : n ≤ cap) (hc : cap * z ≤ c.size) :
    Le g w (g.setTok k w.heap.size n cap (n * z)) w' ∧ HOk (g.setTok k w.heap.size n cap (n * z)) w' (h.set k (.tok n z)) := by
  have hne : ∀ i b, g.blk i = some b → i ≠ k := fun i b e e' => by rw [e', hb] at e; cases e
  have htk : ∀ i p, (g.setTok k w.heap.size n cap (n * z)).tok i = some p → (i = k ∧ p = (w.heap.size, n, cap)) ∨ (i ≠ k ∧ g.tok i = some p) := by
    intro i p e
    by_cases hi : i = k
    · subst hi; simp [Gh.setTok] at e; exact .inl ⟨rfl, e.symm⟩
    · simp [Gh.setTok, hi] at e; exact .inr ⟨hi, e⟩
  have hle : Le g w (g.setTok k w.heap.size n cap (n * z)) w' := by
    refine ⟨fun i b e => e, ?_, fun b o hf => ⟨.inl hf, cell_same (hg.old (H.al _ _ hf))⟩, ?_, ?_, fun b hlt _ => hg.old hlt, by rw [hg.size]; omega, hg.tape, hg.os, hg.output, fun b c T e => ⟨c, (hg.old (Array.getElem?_eq_some_iff.1 e).1).trans e, rfl⟩, Oth.grew hg⟩
    · intro i b l c' e
      by_cases hi : i = k
      · subst hi
        have := hold _ _ _ e
        exact ⟨w.heap.size, n, cap, by simp [Gh.setTok], by omega, fun e' => by omega⟩
      · exact ⟨b, l, c', by simp [Gh.setTok, hi, e], Nat.le_refl _, fun _ => ⟨rfl, rfl⟩⟩
    · rintro b (e | ⟨i, l, c', e⟩) hlt
      · exact .inl e
      · rcases htk i _ e with ⟨_, e'⟩ | ⟨_, e'⟩
        · simp only [Prod.mk.injEq] at e'; omega
        · exact .inr ⟨i, l, c', e'⟩
    · rintro b o (hf | ⟨rfl, _⟩) hlt
      · exact .inl hf
      · omega
  refine ⟨hle, ?_, ?_, ?_, ?_, ?_, ?_⟩
  · intro i b e
    have hi := hne i b e
    have hlt := (H.blk_lt (id := i) e).2
    rcases H.obj _ _ e with ⟨cs', c', T', h1, h2, h3, h4, h5⟩ | t
    · refine .inl ⟨cs', c', T', by rw [List.getElem?_set_ne (Ne.symm hi)]; exact h1, by rw [hg.old hlt]; exact h2, h3, fun j hj hk => ⟨(h4 j hj hk).1.mono hle, (h4 j hj hk).2⟩, fun o hf => ?_⟩
      rcases hf with hf | ⟨e', _⟩
      · exact h5 o hf
      · omega
    · exact .inr (t.go hle (List.getElem?_set_ne (Ne.symm hi)) (hg.old hlt) fun o hf => hf.elim id fun ⟨e', _⟩ => by omega)
  · intro i b m cap' e
    rcases htk i _ e with ⟨rfl, e'⟩ | ⟨hi, e'⟩
    · simp only [Prod.mk.injEq] at e'
      obtain ⟨rfl, rfl, rfl⟩ := e'
      refine ⟨z, c, T, .inl (List.getElem?_set_self (by exact hk)), hg.new, hn, hc, fun o hf => ?_⟩
      rcases hf with hf | ⟨_, hf⟩
      · have := H.al _ _ hf; omega
      · exact hf
    · obtain ⟨z', c', T', h1, h2, h3, h4, h5⟩ := H.tok _ _ _ _ e'
      have hlt := (H.tok_lt e').2
      refine ⟨z', c', T', h1.go hle (List.getElem?_set_ne (Ne.symm hi)) (fun o hf => hf.elim id fun ⟨e'', _⟩ => by omega), by rw [hg.old hlt]; exact h2, h3, h4, fun o hf => ?_⟩
      rcases hf with hf | ⟨e'', _⟩
      · exact h5 o hf
      · omega
  · exact H.inj
  · intro i i' b m c1 m' c2 e e'
    rcases htk i _ e with ⟨rfl, h1⟩ | ⟨hi, h1⟩ <;> rcases htk i' _ e' with ⟨rfl, h2⟩ | ⟨hi', h2⟩
    · rfl
    · simp only [Prod.mk.injEq] at h1; have := (H.tok_lt h2).2; omega
    · simp only [Prod.mk.injEq] at h2; have := (H.tok_lt h1).2; omega
    · exact H.tinj _ _ _ _ _ _ _ h1 h2
  · intro i i' b m c1 e e'
    rcases htk i' _ e' with ⟨rfl, h2⟩ | ⟨hi', h2⟩
    · simp only [Prod.mk.injEq] at h2; have := (H.blk_lt (id := i) e).2; omega
    · exact H.bt _ _ _ _ _ e h2
  · refine H.ag.go hle ?_
    rintro b o (hf | ⟨rfl, _⟩)
    · have := H.al b o hf
      rw [hg.size]; omega
    · rw [hg.size]; omega

/-- A row that grows where it is. -/
theorem HOk.growRow {g : Gh} {w : World} {h : List O} (H : HOk g w h) {k b n cap n' z : Nat} (e : g.tok k = some (b, n, cap)) (hz : h[k]? = some (.tok n z)) (hn : n < n') (hn' : n' ≤ cap)
    {c : Array Value} {T : TypeId} (hb : w.heap[b]? = some (.cells c T (0, 0))) {c' : Array Value} (hs : c'.size = c.size) (hk : ∀ j, j < n * z → c'[j]? = c[j]?) :
    Le g w (g.setTok k b n' cap (n' * z)) (w.setRow b c') ∧ HOk (g.setTok k b n' cap (n' * z)) (w.setRow b c') (h.set k (.tok n' z)) := by
  have hkl := (H.tok_lt e).1
  obtain ⟨z0, c0, T0, a1, a2, a3, a4, a5⟩ := H.tok _ _ _ _ e
  have hz0 : z0 = z := (a1.tok hz).2.symm
  subst hz0
  have hcc : c0 = c := by rw [hb] at a2; simp at a2; exact a2.1.symm
  subst hcc
  have hne : ∀ i b', g.blk i = some b' → b' ≠ b := fun i b' e' e'' => H.bt _ _ _ _ _ (e'' ▸ e') e
  have hnk : ∀ i b', g.blk i = some b' → i ≠ k := fun i b' e' e'' => by
    first
      | exact H.not_tok e' (e'' ▸ hz)
      | exact H.not_tokc e' (e'' ▸ hz)
  have htk : ∀ i p, (g.setTok k b n' cap (n' * z0)).tok i = some p → (i = k ∧ p = (b, n', cap)) ∨ (i ≠ k ∧ g.tok i = some p) := by
    intro i p e
    by_cases hi : i = k
    · subst hi; simp [Gh.setTok] at e; exact .inl ⟨rfl, e.symm⟩
    · simp [Gh.setTok, hi] at e; exact .inr ⟨hi, e⟩
  have hcell : ∀ b' o, g.fz b' o → (w.setRow b c').cell? ⟨b', o, none⟩ = w.cell? ⟨b', o, none⟩ := by
    intro b' o hf
    by_cases hbb : b' = b
    · subst hbb
      rw [cell_of (setRow_heap w _ _ c' _ _ hb), cell_of hb]
      exact hk o (a5 o hf)
    · exact cell_same (setRow_other w b b' c' hbb)
  have hle : Le g w (g.setTok k b n' cap (n' * z0)) (w.setRow b c') := by
    refine ⟨fun i b e => e, ?_, fun b' o hf => ⟨.inl hf, hcell b' o hf⟩, ?_, ?_, ?_, by simp [World.setRow], rfl, rfl, rfl, fun b' c1 T1 e' => setRow_sz hb hs b' c1 T1 e', Oth.row hb⟩
    · intro i b' l c1 e'
      by_cases hi : i = k
      · subst hi
        rw [e] at e'; simp only [Option.some.injEq, Prod.mk.injEq] at e'
        exact ⟨b, n', cap, by simp [Gh.setTok], by omega, fun e'' => by omega⟩
      · exact ⟨b', l, c1, by simp [Gh.setTok, hi, e'], Nat.le_refl _, fun _ => ⟨rfl, rfl⟩⟩
    · rintro b' (e' | ⟨i, l, c1, e'⟩) _
      · exact .inl e'
      · rcases htk i _ e' with ⟨_, h2⟩ | ⟨_, h2⟩
        · simp only [Prod.mk.injEq] at h2; exact .inr ⟨k, n, cap, by rw [e, h2.1]⟩
        · exact .inr ⟨i, l, c1, h2⟩
    · rintro b' o (hf | ⟨rfl, _⟩) _
      · exact .inl hf
      · exact .inr (.inr ⟨k, n, cap, e⟩)
    · intro b' _ hno
      exact setRow_other w b b' c' (fun hbb => hno (.inr ⟨k, n, cap, by rw [hbb]; exact e⟩))
  refine ⟨hle, ?_, ?_, ?_, ?_, ?_, ?_⟩
  · intro i b' e'
    rcases H.obj _ _ e' with ⟨cs1, c1, T1, h1, h2, h3, h4, h5⟩ | t
    · refine .inl ⟨cs1, c1, T1, by rw [List.getElem?_set_ne (Ne.symm (hnk i b' e'))]; exact h1, by rw [setRow_other w b b' c' (hne i b' e')]; exact h2, h3, fun j hj hk => ⟨(h4 j hj hk).1.mono hle, (h4 j hj hk).2⟩, fun o hf => ?_⟩
      rcases hf with hf | ⟨e'', _⟩
      · exact h5 o hf
      · exact hne i b' e' e''
    · exact .inr (t.go hle (List.getElem?_set_ne (Ne.symm (hnk i b' e'))) (setRow_other w b b' c' (hne i b' e')) fun o hf => hf.elim id fun ⟨e'', _⟩ => absurd e'' (hne i b' e'))
  · intro i b' m cap' e'
    rcases htk i _ e' with ⟨rfl, h2⟩ | ⟨hi, h2⟩
    · simp only [Prod.mk.injEq] at h2
      obtain ⟨rfl, rfl, rfl⟩ := h2
      refine ⟨z0, c', T, .inl (List.getElem?_set_self (by exact hkl)), setRow_heap w _ _ c' _ _ hb, hn', by omega, fun o hf => ?_⟩
      rcases hf with hf | ⟨_, hf⟩
      · have := a5 o hf
        have : n * z0 ≤ m * z0 := Nat.mul_le_mul_right _ (by omega)
        omega
      · exact hf
    · obtain ⟨z', c1, T', h1, h3, h4, h5, h6⟩ := H.tok _ _ _ _ h2
      have hbb : b' ≠ b := fun hbb => hi (H.tinj _ _ _ _ _ _ _ (hbb ▸ h2) e)
      refine ⟨z', c1, T', h1.go hle (List.getElem?_set_ne (Ne.symm hi)) (fun o hf => hf.elim id fun ⟨e'', _⟩ => absurd e'' hbb), by rw [setRow_other w b b' c' hbb]; exact h3, h4, h5, fun o hf => ?_⟩
      rcases hf with hf | ⟨e'', _⟩
      · exact h6 o hf
      · exact absurd e'' hbb
  · exact H.inj
  · intro i i' b' m c1 m' c2 e1 e2
    rcases htk i _ e1 with ⟨rfl, h1⟩ | ⟨hi, h1⟩ <;> rcases htk i' _ e2 with ⟨rfl, h2⟩ | ⟨hi', h2⟩
    · rfl
    · simp only [Prod.mk.injEq] at h1; rw [h1.1] at h2; exact H.tinj _ _ _ _ _ _ _ e h2
    · simp only [Prod.mk.injEq] at h2; rw [h2.1] at h1; exact H.tinj _ _ _ _ _ _ _ h1 e
    · exact H.tinj _ _ _ _ _ _ _ h1 h2
  · intro i i' b' m c1 e1 e2
    rcases htk i' _ e2 with ⟨rfl, h2⟩ | ⟨hi', h2⟩
    · simp only [Prod.mk.injEq] at h2; exact hne i b' e1 h2.1
    · exact H.bt _ _ _ _ _ e1 h2
  · refine H.ag.go hle ?_
    rintro b' o (hf | ⟨rfl, _⟩)
    · have := H.al b' o hf
      simpa [World.setRow] using this
    · have := (H.tok_lt e).2
      simpa [World.setRow] using this

/-- A row that is written, in a new block: a new one, or one that has moved. -/
theorem HOk.newRowC {g : Gh} {w w' : World} {h : List O} (H : HOk g w h) {k : Nat} (hk : k < h.length) (hb : g.blk k = none) {n cap z : Nat} {c : Array Value} {T : TypeId}
    (hold : ∀ b' n' c', g.tok k = some (b', n', c') → n' < n) (hg : Grew w w' (.cells c T)) (hn : n ≤ cap) (hc : cap * z ≤ c.size) {cs : List V} (hcs : cs.length = n * z) (hrep : ∀ j (hj : j < cs.length) (hk : j < c.size), Rep g w c[j] cs[j] ∧ (c[j]).oneCell' = true) :
    Le g w (g.setTok k w.heap.size n cap 0) w' ∧ HOk (g.setTok k w.heap.size n cap 0) w' (h.set k (.tokc n z cs)) := by
  have hne : ∀ i b, g.blk i = some b → i ≠ k := fun i b e e' => by rw [e', hb] at e; cases e
  have htk : ∀ i p, (g.setTok k w.heap.size n cap 0).tok i = some p → (i = k ∧ p = (w.heap.size, n, cap)) ∨ (i ≠ k ∧ g.tok i = some p) := by
    intro i p e
    by_cases hi : i = k
    · subst hi; simp [Gh.setTok] at e; exact .inl ⟨rfl, e.symm⟩
    · simp [Gh.setTok, hi] at e; exact .inr ⟨hi, e⟩
  have hle : Le g w (g.setTok k w.heap.size n cap 0) w' := by
    refine ⟨fun i b e => e, ?_, fun b o hf => ⟨.inl hf, cell_same (hg.old (H.al _ _ hf))⟩, ?_, ?_, fun b hlt _ => hg.old hlt, by rw [hg.size]; omega, hg.tape, hg.os, hg.output, fun b c T e => ⟨c, (hg.old (Array.getElem?_eq_some_iff.1 e).1).trans e, rfl⟩, Oth.grew hg⟩
    · intro i b l c' e
      by_cases hi : i = k
      · subst hi
        have := hold _ _ _ e
        exact ⟨w.heap.size, n, cap, by simp [Gh.setTok], by omega, fun e' => by omega⟩
      · exact ⟨b, l, c', by simp [Gh.setTok, hi, e], Nat.le_refl _, fun _ => ⟨rfl, rfl⟩⟩
    · rintro b (e | ⟨i, l, c', e⟩) hlt
      · exact .inl e
      · rcases htk i _ e with ⟨_, e'⟩ | ⟨_, e'⟩
        · simp only [Prod.mk.injEq] at e'; omega
        · exact .inr ⟨i, l, c', e'⟩
    · rintro b o (hf | ⟨rfl, _⟩) hlt
      · exact .inl hf
      · omega
  refine ⟨hle, ?_, ?_, ?_, ?_, ?_, ?_⟩
  · intro i b e
    have hi := hne i b e
    have hlt := (H.blk_lt (id := i) e).2
    rcases H.obj _ _ e with ⟨cs', c', T', h1, h2, h3, h4, h5⟩ | t
    · refine .inl ⟨cs', c', T', by rw [List.getElem?_set_ne (Ne.symm hi)]; exact h1, by rw [hg.old hlt]; exact h2, h3, fun j hj hk => ⟨(h4 j hj hk).1.mono hle, (h4 j hj hk).2⟩, fun o hf => ?_⟩
      rcases hf with hf | ⟨e', _⟩
      · exact h5 o hf
      · omega
    · exact .inr (t.go hle (List.getElem?_set_ne (Ne.symm hi)) (hg.old hlt) fun o hf => hf.elim id fun ⟨e', _⟩ => by omega)
  · intro i b m cap' e
    rcases htk i _ e with ⟨rfl, e'⟩ | ⟨hi, e'⟩
    · simp only [Prod.mk.injEq] at e'
      obtain ⟨rfl, rfl, rfl⟩ := e'
      refine ⟨z, c, T, .inr ⟨cs, List.getElem?_set_self (by exact hk), hcs, fun j hj hk => ⟨(hrep j hj hk).1.mono hle, (hrep j hj hk).2⟩, fun o hf => ?_⟩, hg.new, hn, hc, fun o hf => ?_⟩
      · rcases hf with hf | ⟨_, hf⟩
        · have := H.al _ _ hf; omega
        · omega
      · rcases hf with hf | ⟨_, hf⟩
        · have := H.al _ _ hf; omega
        · omega
    · obtain ⟨z', c', T', h1, h2, h3, h4, h5⟩ := H.tok _ _ _ _ e'
      have hlt := (H.tok_lt e').2
      refine ⟨z', c', T', h1.go hle (List.getElem?_set_ne (Ne.symm hi)) (fun o hf => hf.elim id fun ⟨e'', _⟩ => by omega), by rw [hg.old hlt]; exact h2, h3, h4, fun o hf => ?_⟩
      rcases hf with hf | ⟨e'', _⟩
      · exact h5 o hf
      · omega
  · exact H.inj
  · intro i i' b m c1 m' c2 e e'
    rcases htk i _ e with ⟨rfl, h1⟩ | ⟨hi, h1⟩ <;> rcases htk i' _ e' with ⟨rfl, h2⟩ | ⟨hi', h2⟩
    · rfl
    · simp only [Prod.mk.injEq] at h1; have := (H.tok_lt h2).2; omega
    · simp only [Prod.mk.injEq] at h2; have := (H.tok_lt h1).2; omega
    · exact H.tinj _ _ _ _ _ _ _ h1 h2
  · intro i i' b m c1 e e'
    rcases htk i' _ e' with ⟨rfl, h2⟩ | ⟨hi', h2⟩
    · simp only [Prod.mk.injEq] at h2; have := (H.blk_lt (id := i) e).2; omega
    · exact H.bt _ _ _ _ _ e h2
  · refine H.ag.go hle ?_
    rintro b o (hf | ⟨rfl, _⟩)
    · have := H.al b o hf
      rw [hg.size]; omega
    · rw [hg.size]; omega

/-- A row that is written and grows where it is (or does not grow). -/
theorem HOk.growRowC {g : Gh} {w : World} {h : List O} (H : HOk g w h) {k b n cap n' z : Nat} (e : g.tok k = some (b, n, cap)) {cs cs' : List V} (hz : h[k]? = some (.tokc n z cs)) (hn : n ≤ n') (hn' : n' ≤ cap)
    {c : Array Value} {T : TypeId} (hb : w.heap[b]? = some (.cells c T (0, 0))) {c' : Array Value} (hs : c'.size = c.size) (hcs : cs'.length = n' * z) (hrep : ∀ j (hj : j < cs'.length) (hk : j < c'.size), Rep g w c'[j] cs'[j] ∧ (c'[j]).oneCell' = true) :
    Le g w (g.setTok k b n' cap 0) (w.setRow b c') ∧ HOk (g.setTok k b n' cap 0) (w.setRow b c') (h.set k (.tokc n' z cs')) := by
  have hkl := (H.tok_lt e).1
  obtain ⟨z0, c0, T0, a1, a2, a3, a4, a5⟩ := H.tok _ _ _ _ e
  obtain ⟨hz0, hnf⟩ : z0 = z ∧ ∀ o, ¬ g.fz b o := by
    rcases a1 with t | ⟨cs1, t, _, _, t4⟩ <;> rw [hz] at t
    · simp at t
    · simp only [Option.some.injEq, O.tokc.injEq] at t
      exact ⟨t.2.1.symm, t4⟩
  subst hz0
  have hcc : c0 = c := by rw [hb] at a2; simp at a2; exact a2.1.symm
  subst hcc
  have hne : ∀ i b', g.blk i = some b' → b' ≠ b := fun i b' e' e'' => H.bt _ _ _ _ _ (e'' ▸ e') e
  have hnk : ∀ i b', g.blk i = some b' → i ≠ k := fun i b' e' e'' => by
    first
      | exact H.not_tok e' (e'' ▸ hz)
      | exact H.not_tokc e' (e'' ▸ hz)
  have htk : ∀ i p, (g.setTok k b n' cap 0).tok i = some p → (i = k ∧ p = (b, n', cap)) ∨ (i ≠ k ∧ g.tok i = some p) := by
    intro i p e
    by_cases hi : i = k
    · subst hi; simp [Gh.setTok] at e; exact .inl ⟨rfl, e.symm⟩
    · simp [Gh.setTok, hi] at e; exact .inr ⟨hi, e⟩
  have hcell : ∀ b' o, g.fz b' o → (w.setRow b c').cell? ⟨b', o, none⟩ = w.cell? ⟨b', o, none⟩ := by
    intro b' o hf
    by_cases hbb : b' = b
    · subst hbb
      exact absurd hf (hnf o)
    · exact cell_same (setRow_other w b b' c' hbb)
  have hle : Le g w (g.setTok k b n' cap 0) (w.setRow b c') := by
    refine ⟨fun i b e => e, ?_, fun b' o hf => ⟨.inl hf, hcell b' o hf⟩, ?_, ?_, ?_, by simp [World.setRow], rfl, rfl, rfl, fun b' c1 T1 e' => setRow_sz hb hs b' c1 T1 e', Oth.row hb⟩
    · intro i b' l c1 e'
      by_cases hi : i = k
      · subst hi
        rw [e] at e'; simp only [Option.some.injEq, Prod.mk.injEq] at e'
        exact ⟨b, n', cap, by simp [Gh.setTok], by omega, fun e'' => ⟨by omega, by omega⟩⟩
      · exact ⟨b', l, c1, by simp [Gh.setTok, hi, e'], Nat.le_refl _, fun _ => ⟨rfl, rfl⟩⟩
    · rintro b' (e' | ⟨i, l, c1, e'⟩) _
      · exact .inl e'
      · rcases htk i _ e' with ⟨_, h2⟩ | ⟨_, h2⟩
        · simp only [Prod.mk.injEq] at h2; exact .inr ⟨k, n, cap, by rw [e, h2.1]⟩
        · exact .inr ⟨i, l, c1, h2⟩
    · rintro b' o (hf | ⟨rfl, _⟩) _
      · exact .inl hf
      · exact .inr (.inr ⟨k, n, cap, e⟩)
    · intro b' _ hno
      exact setRow_other w b b' c' (fun hbb => hno (.inr ⟨k, n, cap, by rw [hbb]; exact e⟩))
  refine ⟨hle, ?_, ?_, ?_, ?_, ?_, ?_⟩
  · intro i b' e'
    rcases H.obj _ _ e' with ⟨cs1, c1, T1, h1, h2, h3, h4, h5⟩ | t
    · refine .inl ⟨cs1, c1, T1, by rw [List.getElem?_set_ne (Ne.symm (hnk i b' e'))]; exact h1, by rw [setRow_other w b b' c' (hne i b' e')]; exact h2, h3, fun j hj hk => ⟨(h4 j hj hk).1.mono hle, (h4 j hj hk).2⟩, fun o hf => ?_⟩
      rcases hf with hf | ⟨e'', _⟩
      · exact h5 o hf
      · exact hne i b' e' e''
    · exact .inr (t.go hle (List.getElem?_set_ne (Ne.symm (hnk i b' e'))) (setRow_other w b b' c' (hne i b' e')) fun o hf => hf.elim id fun ⟨e'', _⟩ => absurd e'' (hne i b' e'))
  · intro i b' m cap' e'
    rcases htk i _ e' with ⟨rfl, h2⟩ | ⟨hi, h2⟩
    · simp only [Prod.mk.injEq] at h2
      obtain ⟨rfl, rfl, rfl⟩ := h2
      refine ⟨z0, c', T, .inr ⟨cs', List.getElem?_set_self (by exact hkl), hcs, fun j hj hk => ⟨(hrep j hj hk).1.mono hle, (hrep j hj hk).2⟩, fun o hf => ?_⟩, setRow_heap w _ _ c' _ _ hb, hn', by omega, fun o hf => ?_⟩
      · rcases hf with hf | ⟨_, hf⟩
        · exact hnf o hf
        · omega
      · rcases hf with hf | ⟨_, hf⟩
        · exact absurd hf (hnf o)
        · omega
    · obtain ⟨z', c1, T', h1, h3, h4, h5, h6⟩ := H.tok _ _ _ _ h2
      have hbb : b' ≠ b := fun hbb => hi (H.tinj _ _ _ _ _ _ _ (hbb ▸ h2) e)
      refine ⟨z', c1, T', h1.go hle (List.getElem?_set_ne (Ne.symm hi)) (fun o hf => hf.elim id fun ⟨e'', _⟩ => absurd e'' hbb), by rw [setRow_other w b b' c' hbb]; exact h3, h4, h5, fun o hf => ?_⟩
      rcases hf with hf | ⟨e'', _⟩
      · exact h6 o hf
      · exact absurd e'' hbb
  · exact H.inj
  · intro i i' b' m c1 m' c2 e1 e2
    rcases htk i _ e1 with ⟨rfl, h1⟩ | ⟨hi, h1⟩ <;> rcases htk i' _ e2 with ⟨rfl, h2⟩ | ⟨hi', h2⟩
    · rfl
    · simp only [Prod.mk.injEq] at h1; rw [h1.1] at h2; exact H.tinj _ _ _ _ _ _ _ e h2
    · simp only [Prod.mk.injEq] at h2; rw [h2.1] at h1; exact H.tinj _ _ _ _ _ _ _ h1 e
    · exact H.tinj _ _ _ _ _ _ _ h1 h2
  · intro i i' b' m c1 e1 e2
    rcases htk i' _ e2 with ⟨rfl, h2⟩ | ⟨hi', h2⟩
    · simp only [Prod.mk.injEq] at h2; exact hne i b' e1 h2.1
    · exact H.bt _ _ _ _ _ e1 h2
  · refine H.ag.go hle ?_
    rintro b' o (hf | ⟨rfl, _⟩)
    · have := H.al b' o hf
      simpa [World.setRow] using this
    · have := (H.tok_lt e).2
      simpa [World.setRow] using this

/-- A store into an object. -/
theorem HOk.storeCells {g : Gh} {w : World} {h : List O} (H : HOk g w h) {id b : Nat} (e : g.blk id = some b) {cs cs' : List V} (hid : h[id]? = some (.cells cs))
    {c : Array Value} {T : TypeId} (hb : w.heap[b]? = some (.cells c T (0, 0))) {c' : Array Value} (hs : c'.size = c.size) (hl : cs'.length = cs.length)
    (hc : ∀ j (hj : j < cs'.length) (hk : j < c'.size), Rep g w c'[j] cs'[j] ∧ (c'[j]).oneCell' = true) :
    Le g w g (w.setRow b c') ∧ HOk g (w.setRow b c') (h.set id (.cells cs')) := by
  obtain ⟨cs0, c0, T0, a1, a2, a3, a4, a5⟩ := H.cellsOf e hid
  have hcs : cs0 = cs := by rw [hid] at a1; simp at a1; exact a1.symm
  subst hcs
  have hcc : c0 = c := by rw [hb] at a2; simp at a2; exact a2.1.symm
  subst hcc
  have hidl := (H.blk_lt e).1
  have hle : Le g w g (w.setRow b c') := by
    refine ⟨fun _ _ h => h, fun k b l c h => ⟨b, l, c, h, Nat.le_refl _, fun _ => ⟨rfl, rfl⟩⟩, fun b' o hf => ⟨hf, ?_⟩, fun _ h _ => h, fun _ _ h _ => .inl h, ?_, by simp [World.setRow], rfl, rfl, rfl, fun b' c1 T1 e' => setRow_sz hb hs b' c1 T1 e', Oth.row hb⟩
    · exact cell_same (setRow_other w b b' c' (fun hbb => a5 o (hbb ▸ hf)))
    · intro b' _ hno
      exact setRow_other w b b' c' (fun hbb => hno (.inl ⟨id, by rw [hbb]; exact e⟩))
  refine ⟨hle, ?_, ?_, H.inj, H.tinj, H.bt, ?_⟩
  · intro i b' e'
    by_cases hi : i = id
    · subst hi
      rw [e] at e'
      have hbb : b = b' := by simpa using e'
      subst hbb
      exact .inl ⟨cs', c', T, by rw [List.getElem?_set_self hidl], setRow_heap w _ _ c' _ _ hb, by omega, fun j hj hk => ⟨(hc j hj hk).1.mono hle, (hc j hj hk).2⟩, a5⟩
    · have hbb : b' ≠ b := fun hbb => hi (H.inj _ _ _ (hbb ▸ e') e)
      rcases H.obj _ _ e' with ⟨cs1, c1, T1, h1, h2, h3, h4, h5⟩ | t
      · exact .inl ⟨cs1, c1, T1, by rw [List.getElem?_set_ne (Ne.symm hi)]; exact h1, by rw [setRow_other w b b' c' hbb]; exact h2, h3, fun j hj hk => ⟨(h4 j hj hk).1.mono hle, (h4 j hj hk).2⟩, h5⟩
      · exact .inr (t.go hle (List.getElem?_set_ne (Ne.symm hi)) (setRow_other w b b' c' hbb) fun _ h => h)
  · intro i b' m cap' e'
    obtain ⟨z', c1, T', h1, h3, h4⟩ := H.tok _ _ _ _ e'
    have hbb : b' ≠ b := fun hbb => H.bt _ _ _ _ _ e (hbb ▸ e')
    have hi : i ≠ id := fun hi => by rw [hi] at h1; exact h1.not_cells hid
    exact ⟨z', c1, T', h1.go hle (List.getElem?_set_ne (Ne.symm hi)) (fun _ h => h), by rw [setRow_other w b b' c' hbb]; exact h3, h4⟩
  · refine H.ag.go hle fun b' o hf => ?_
    have := H.al b' o hf
    simpa [World.setRow] using this

/-- A new map, a new loop. -/
theorem HOk.newOth {g : Gh} {w w' : World} {h : List O} (H : HOk g w h) {id : Nat} (hid : id < h.length) (hb : g.blk id = none) (ht : g.tok id = none) {ob : Obj} {x : O} (hg : Grew w w' ob)
    (hx : ∀ (g' : Gh) (h' : List O), (∀ o, ¬ g'.fz w.heap.size o) → h'[id]? = some x → OthAt g' w' h' id w.heap.size) :
    Le g w (g.setBlk id w.heap.size) w' ∧ HOk (g.setBlk id w.heap.size) w' (h.set id x) := by
  have hne : ∀ i b, g.blk i = some b → i ≠ id := fun i b e e' => by rw [e', hb] at e; cases e
  have hnt : ∀ i p, g.tok i = some p → i ≠ id := fun i b e e' => by rw [e', ht] at e; cases e
  have hblk : ∀ i b, (g.setBlk id w.heap.size).blk i = some b → (i = id ∧ b = w.heap.size) ∨ (i ≠ id ∧ g.blk i = some b) := by
    intro i b e
    by_cases hi : i = id
    · subst hi; simp [Gh.setBlk] at e; exact .inl ⟨rfl, e.symm⟩
    · simp [Gh.setBlk, hi] at e; exact .inr ⟨hi, e⟩
  have hown : ∀ b, (g.setBlk id w.heap.size).owns b → b < w.heap.size → g.owns b := by
    rintro b (⟨i, e⟩ | e) hlt
    · rcases hblk i b e with ⟨_, rfl⟩ | ⟨_, e'⟩
      · omega
      · exact .inl ⟨i, e'⟩
    · exact .inr e
  have hle : Le g w (g.setBlk id w.heap.size) w' :=
    Le.quiet (fun i b e => by simp [Gh.setBlk, hne i b e, e]) (fun _ _ h => h) (fun _ _ h => h) H.al hown (fun _ _ h _ => .inl h) (fun b hb => hg.old hb) (by rw [hg.size]; omega) hg.tape hg.os hg.output
  refine ⟨hle, ?_, ?_, ?_, ?_, ?_, ?_⟩
  · intro i b e
    rcases hblk i b e with ⟨rfl, rfl⟩ | ⟨hi, e'⟩
    · exact .inr (hx _ _ (fun o hf => by have := H.al _ _ hf; omega) (List.getElem?_set_self (by exact hid)))
    · rcases H.obj _ _ e' with ⟨cs', c', T', h1, h2, h3, h4, h5⟩ | t
      · exact .inl ⟨cs', c', T', by rw [List.getElem?_set_ne (Ne.symm hi)]; exact h1, by rw [hg.old (H.blk_lt e').2]; exact h2, h3, fun j hj hk => ⟨(h4 j hj hk).1.mono hle, (h4 j hj hk).2⟩, h5⟩
      · exact .inr (t.go hle (List.getElem?_set_ne (Ne.symm hi)) (hg.old (H.blk_lt e').2) fun _ h => h)
  · intro i b n cap e
    have hi := hnt i _ e
    obtain ⟨z, c', T', h1, h2, h3⟩ := H.tok _ _ _ _ e
    exact ⟨z, c', T', h1.go hle (List.getElem?_set_ne (Ne.symm hi)) (fun _ h => h), by rw [hg.old (H.tok_lt e).2]; exact h2, h3⟩
  · intro i i' b e e'
    rcases hblk i b e with ⟨rfl, rfl⟩ | ⟨hi, e1⟩ <;> rcases hblk i' _ e' with ⟨rfl, h2⟩ | ⟨hi', e2⟩
    · rfl
    · have := (H.blk_lt e2).2; omega
    · have := (H.blk_lt e1).2; omega
    · exact H.inj _ _ _ e1 e2
  · exact H.tinj
  · intro i i' b n c' e e'
    rcases hblk i b e with ⟨rfl, rfl⟩ | ⟨hi, e1⟩
    · have := (H.tok_lt (id := i') e').2; omega
    · exact H.bt _ _ _ _ _ e1 e'
  · refine H.ag.go hle fun b o hf => ?_
    have := H.al b o hf
    rw [hg.size]; omega

/-- A map is written, a loop goes on. -/
theorem HOk.setOth {g : Gh} {w w' : World} {h : List O} (H : HOk g w h) {id b : Nat} (e : g.blk id = some b) {ob ob' : Obj} (h0 : w.heap[b]? = some ob) (hc : cellsB ob = false) (hc' : cellsB ob' = false) (hgo : Goes ob ob')
    (hw : w'.heap = w.heap.setIfInBounds b ob') (h1 : w'.tape = w.tape) (h2 : w'.os = w.os) (h3 : w'.output = w.output) {x : O} (hx : ∀ h' : List O, h'[id]? = some x → w'.heap[b]? = some ob' → OthAt g w h id b → (∀ {y : Value} {v : V}, Rep g w y v → Rep g w' y v) → OthAt g w' h' id b) :
    Le g w g w' ∧ HOk g w' (h.set id x) := by
  have hlt := (H.blk_lt e).2
  have hidl := (H.blk_lt e).1
  have hT : OthAt g w h id b := (H.obj _ _ e).resolve_left fun ⟨_, c, T, _, k, _⟩ => by rw [h0] at k; cases k; cases hc
  have hself : w'.heap[b]? = some ob' := by rw [hw]; simp [hlt]
  have hoth : ∀ b', b' ≠ b → w'.heap[b']? = w.heap[b']? := fun b' hne => by rw [hw]; simp [Ne.symm hne]
  have hle : Le g w g w' := by
    refine ⟨fun _ _ h => h, fun k b l c h => ⟨b, l, c, h, Nat.le_refl _, fun _ => ⟨rfl, rfl⟩⟩, fun b' o hf => ⟨hf, ?_⟩, fun _ h _ => h, fun _ _ h _ => .inl h, ?_, by rw [hw]; simp, h1, h2, h3, fun b' c1 T1 e' => ?_, fun b' o e' k => ?_⟩
    · exact cell_same (hoth b' fun hbb => hT.noFz o (hbb ▸ hf))
    · intro b' _ hno
      exact hoth b' fun hbb => hno (.inl ⟨id, by rw [hbb]; exact e⟩)
    · refine ⟨c1, (hoth b' fun hbb => ?_).trans e', rfl⟩
      rw [hbb, h0] at e'; cases e'; cases hc
    · by_cases hbb : b' = b
      · subst hbb
        rw [h0] at e'; cases e'
        exact ⟨ob', hself, hc', hgo, fun _ _ _ hf => absurd hf (hT.noFz 0)⟩
      · exact ⟨o, (hoth b' hbb).trans e', k, Goes.refl o, fun _ _ _ _ => rfl⟩
  refine ⟨hle, ?_, ?_, H.inj, H.tinj, H.bt, H.ag.go hle fun b' o hf => by have := H.al b' o hf; rw [hw]; simpa using this⟩
  · intro i b' e'
    by_cases hi : i = id
    · subst hi
      rw [e] at e'; cases e'
      exact .inr (hx _ (List.getElem?_set_self hidl) hself hT fun r => r.mono hle)
    · have hbb : b' ≠ b := fun hbb => hi (H.inj _ _ _ (hbb ▸ e') e)
      rcases H.obj _ _ e' with ⟨cs1, c1, T1, h1, h2, h3, h4, h5⟩ | t
      · exact .inl ⟨cs1, c1, T1, by rw [List.getElem?_set_ne (Ne.symm hi)]; exact h1, (hoth b' hbb).trans h2, h3, fun j hj hk => ⟨(h4 j hj hk).1.mono hle, (h4 j hj hk).2⟩, h5⟩
      · exact .inr (t.go hle (List.getElem?_set_ne (Ne.symm hi)) (hoth b' hbb) fun _ h => h)
  · intro i b' m cap' e'
    obtain ⟨z', c1, T', h1, h3, h4⟩ := H.tok _ _ _ _ e'
    have hbb : b' ≠ b := fun hbb => H.bt _ _ _ _ _ e (hbb ▸ e')
    have hi : i ≠ id := fun hi => by
      subst hi
      rcases h1 with h1 | ⟨cs, h1, _⟩
      · exact hT.not_tok h1
      · exact hT.not_tokc h1
    exact ⟨z', c1, T', h1.go hle (List.getElem?_set_ne (Ne.symm hi)) (fun _ h => h), (hoth b' hbb).trans h3, h4⟩
end Go.Proofs.YtkiliokeanmagaaDoor.Ab
