/- What a tree says of a value in a world ('Rep'); how worlds go on ('Le'); objects and memory ('HOk'). -/
import Derived.Test.YtkiliokeanmagaaDoorAb0
namespace Go.Proofs.YtkiliokeanmagaaDoor.Ab
open Go
set_option linter.unusedVariables false
set_option linter.unusedSimpArgs false

structure Gh where
  blk : Nat → Option Nat
  tok : Nat → Option (Nat × Nat × Nat)
  fz : Nat → Nat → Prop

def Gh.owns (g : Gh) (b : Nat) : Prop := (∃ id, g.blk id = some b) ∨ ∃ k l c, g.tok k = some (b, l, c)

def SIok (g : Gh) (A : Option Addr) (n cap : Nat) : SI → Prop
  | .any => True
  | .nil => A = none ∧ cap = 0
  | .full => cap = n
  | .isn => A = none
  | .nz => A ≠ none
  | .tok k => ∃ b l c, g.tok k = some (b, l, c) ∧ n ≤ l ∧ (n = l → A = some ⟨b, 0, none⟩ ∧ cap = c)

/-- What a loop's record says for ever. -/
def LSame (L L' : Loop) : Prop := L'.fn = L.fn ∧ L'.tmps = L.tmps ∧ L'.params = L.params ∧ L'.assign = L.assign ∧ L'.body = L.body ∧ L'.defers = L.defers
theorem LSame.refl (L : Loop) : LSame L L := ⟨rfl, rfl, rfl, rfl, rfl, rfl⟩
theorem LSame.trans {L L' L'' : Loop} (h : LSame L L') (k : LSame L' L'') : LSame L L'' :=
  ⟨k.1.trans h.1, k.2.1.trans h.2.1, k.2.2.1.trans h.2.2.1, k.2.2.2.1.trans h.2.2.2.1, k.2.2.2.2.1.trans h.2.2.2.2.1, k.2.2.2.2.2.trans h.2.2.2.2.2⟩
def cellsB : Obj → Bool
  | .cells _ _ _ => true
  | _ => false
def Goes : Obj → Obj → Prop
  | .loop L, o' => ∃ L', o' = .loop L' ∧ LSame L L'
  | _, _ => True
theorem Goes.refl (o : Obj) : Goes o o := by
  cases o <;> first | exact trivial | exact ⟨_, rfl, LSame.refl _⟩
theorem Goes.trans {o o' o'' : Obj} (h : Goes o o') (k : Goes o' o'') : Goes o o'' := by
  cases o <;> first | exact trivial | (obtain ⟨L', rfl, h⟩ := h; obtain ⟨L'', rfl, k⟩ := k; exact ⟨_, rfl, h.trans k⟩)
/-- What is no cells goes on as what it is. -/
def Oth (g : Gh) (w w' : World) : Prop := ∀ (b : Nat) (o : Obj), w.heap[b]? = some o → cellsB o = false → ∃ o', w'.heap[b]? = some o' ∧ cellsB o' = false ∧ Goes o o' ∧ ∀ es ck, o = .map es ck → g.fz b 0 → o' = o
theorem Oth.of_same {g : Gh} {w w' : World} (h : ∀ (b : Nat) (o : Obj), w.heap[b]? = some o → cellsB o = false → w'.heap[b]? = some o) : Oth g w w' :=
  fun b o e c => ⟨o, h b o e c, c, Goes.refl o, fun _ _ _ _ => rfl⟩
theorem Oth.fzs {g g' : Gh} {w w' : World} (h : Oth g w w') (hf : ∀ b o, g'.fz b o → g.fz b o) : Oth g' w w' :=
  fun b o e c => let ⟨o', a1, a2, a3, a4⟩ := h b o e c; ⟨o', a1, a2, a3, fun es ck q k => a4 es ck q (hf _ _ k)⟩
/-- The record of a round. -/
def LoopAt (w : World) (l y m : Nat) (tmps : Array Value) : Prop := ∃ L, w.heap[l]? = some (.loop L) ∧ L.tmps = tmps ∧ yc y = some (L.params, L.assign, L.body) ∧ L.params.size = m

/-- A map in memory with these entries, in whatever order; the keys are strings, and differ. -/
def MapAt (w : World) (b : Nat) (es : Array MapEntry) (ck : Nat) : Prop :=
  ∃ es0 : Array MapEntry, w.heap[b]? = some (.map es0 ck) ∧ (∀ e, e ∈ es0.toList ↔ e ∈ es.toList) ∧ (∀ e ∈ es.toList, ∃ s, e.key = .string s) ∧ ∀ e ∈ es.toList, ∀ e' ∈ es.toList, e.key = e'.key → e = e'
inductive Rep (g : Gh) (w : World) : Value → V → Prop where
  | c (x : Value) : Rep g w x (.c x)
  | agg (xs : Array Value) (cs : List V) (hn : xs.size = cs.length) (h1 : ∀ i (hi : i < xs.size), (xs[i]).oneCell' = true)
      (h : ∀ i (hi : i < xs.size) (hj : i < cs.length), Rep g w xs[i] cs[i]) : Rep g w (.agg xs) (.agg cs)
  | tup (xs : Array Value) (cs : List V) (hn : xs.size = cs.length)
      (h : ∀ i (hi : i < xs.size) (hj : i < cs.length), Rep g w xs[i] cs[i]) : Rep g w (.tuple xs) (.tup cs)
  | sl (A : Option Addr) (n cap : Nat) (us : List V) (i : SI) (z : Nat) (cv : Nat → Value) (hn : n = us.length) (hc : n ≤ cap) (hzz : ∀ u ∈ us, u.cells.length = z)
      (hA : us ≠ [] → ∃ b o, A = some ⟨b, o, none⟩ ∧ ∀ j, j < us.length * z → g.fz b (o + j) ∧ w.cell? ⟨b, o + j, none⟩ = some (cv j) ∧ (cv j).oneCell' = true)
      (h : ∀ j (hj : j < (flats us).length), Rep g w (cv j) (flats us)[j])
      (hi : SIok g A n cap i) : Rep g w (.slice A n cap) (.sl us i)
  | ptr (b o o' : Nat) (cs : List V) (off : Nat) (cv : Nat → Value) (ho : o' = o + off)
      (hA : ∀ j, j < cs.length → g.fz b (o + j) ∧ w.cell? ⟨b, o + j, none⟩ = some (cv j) ∧ (cv j).oneCell' = true)
      (h : ∀ j (hj : j < cs.length), Rep g w (cv j) cs[j]) : Rep g w (.pointer (some ⟨b, o', none⟩)) (.ptr cs off)
  | ref (id b o : Nat) (h : g.blk id = some b) : Rep g w (.pointer (some ⟨b, o, none⟩)) (.ref id o)
  | clo (f : Nat) (xs : Array Value) (cs : List V) (hn : xs.size = cs.length)
      (h : ∀ i (hi : i < xs.size) (hj : i < cs.length), Rep g w xs[i] cs[i]) : Rep g w (.func (.func f) #[] xs) (.clo f cs)
  | row (A : Option Addr) (n cap id off : Nat) (z : Option Nat) (hc : n ≤ cap) (h : n ≠ 0 → ∃ b, A = some ⟨b, off, none⟩ ∧ g.blk id = some b) : Rep g w (.slice A n cap) (.row id off n z)
  | buf (A : Option Addr) (n cap id : Nat) (hc : n ≤ cap) (h : ∃ b cc T, A = some ⟨b, 0, none⟩ ∧ g.blk id = some b ∧ w.heap[b]? = some (.cells cc T (0, 0)) ∧ cap ≤ cc.size) : Rep g w (.slice A n cap) (.buf id n)
  | tsl (A : Option Addr) (n cap k : Nat) (z : Option Nat) (hc : n ≤ cap) (hA : n ≠ 0 → ∃ b, A = some ⟨b, 0, none⟩) (h : ∃ b l c, g.tok k = some (b, l, c) ∧ n ≤ l ∧ (n = l → A = some ⟨b, 0, none⟩ ∧ cap = c)) : Rep g w (.slice A n cap) (.tsl k n z)
  | tref (A : Addr) (k n o : Nat) (h : ∃ b l c, g.tok k = some (b, l, c) ∧ n ≤ l ∧ (n = l → A = ⟨b, o, none⟩)) : Rep g w (.pointer (some A)) (.tref k n o)
  | top (x : Value) : Rep g w x .top
  | fmp (b : Nat) (es : Array MapEntry) (ck : Nat) (ks : List Value) (vs : List V) (hb : MapAt w b es ck) (hf : g.fz b 0) (hk : es.toList.map (·.key) = ks) (hn : es.size = vs.length)
      (h : ∀ i (hi : i < es.size) (hj : i < vs.length), Rep g w (es[i]).val vs[i]) : Rep g w (.map (some b)) (.fmp ks vs)
  | mref (id b : Nat) (h : g.blk id = some b) : Rep g w (.map (some b)) (.mref id)
  | yld (l k y m : Nat) (tmps : Array Value) (caps : List V) (hb : g.blk k = some l) (hl : LoopAt w l y m tmps) (hn : tmps.size = caps.length)
      (h : ∀ i (hi : i < tmps.size) (hj : i < caps.length), Rep g w tmps[i] caps[i]) : Rep g w (.func (.yield l) #[] #[]) (.yld k y m caps)

/-- The world has gone on: what was known is known still. -/
structure Le (g : Gh) (w : World) (g' : Gh) (w' : World) : Prop where
  blk : ∀ id b, g.blk id = some b → g'.blk id = some b
  tok : ∀ k b l c, g.tok k = some (b, l, c) → ∃ b' l' c', g'.tok k = some (b', l', c') ∧ l ≤ l' ∧ (l = l' → b = b' ∧ c = c')
  fz : ∀ b o, g.fz b o → g'.fz b o ∧ w'.cell? ⟨b, o, none⟩ = w.cell? ⟨b, o, none⟩
  own : ∀ b, g'.owns b → b < w.heap.size → g.owns b
  fzn : ∀ b o, g'.fz b o → b < w.heap.size → g.fz b o ∨ g.owns b
  kept : ∀ b, b < w.heap.size → ¬ g.owns b → w'.heap[b]? = w.heap[b]?
  size : w.heap.size ≤ w'.heap.size
  tape : w'.tape = w.tape
  os : w'.os = w.os
  output : w'.output = w.output
  sz : ∀ (b : Nat) (c : Array Value) (T : TypeId), w.heap[b]? = some (.cells c T (0, 0)) → ∃ c', w'.heap[b]? = some (.cells c' T (0, 0)) ∧ c'.size = c.size
  oth : Oth g w w'

theorem Le.refl (g : Gh) (w : World) : Le g w g w :=
  ⟨fun _ _ h => h, fun _ _ _ _ h => ⟨_, _, _, h, Nat.le_refl _, fun _ => ⟨rfl, rfl⟩⟩, fun _ _ h => ⟨h, rfl⟩, fun _ h _ => h, fun _ _ h _ => .inl h, fun _ _ _ => rfl, Nat.le_refl _, rfl, rfl, rfl, fun _ c _ h => ⟨c, h, rfl⟩, Oth.of_same fun _ _ h _ => h⟩

theorem Le.trans {g g' g'' : Gh} {w w' w'' : World} (h : Le g w g' w') (k : Le g' w' g'' w'') : Le g w g'' w'' where
  blk id b hb := k.blk _ _ (h.blk _ _ hb)
  tok t b l c hb := by
    obtain ⟨b1, l1, c1, h1, h2, h3⟩ := h.tok _ _ _ _ hb
    obtain ⟨b2, l2, c2, k1, k2, k3⟩ := k.tok _ _ _ _ h1
    refine ⟨b2, l2, c2, k1, by omega, fun e => ?_⟩
    have e1 : l = l1 := by omega
    have e2 : l1 = l2 := by omega
    exact ⟨(h3 e1).1.trans (k3 e2).1, (h3 e1).2.trans (k3 e2).2⟩
  fz b o hb := ⟨(k.fz _ _ (h.fz _ _ hb).1).1, (k.fz _ _ (h.fz _ _ hb).1).2.trans (h.fz _ _ hb).2⟩
  own b hb hlt := h.own b (k.own b hb (Nat.lt_of_lt_of_le hlt h.size)) hlt
  fzn b o hb hlt := by
    rcases k.fzn b o hb (Nat.lt_of_lt_of_le hlt h.size) with h1 | h1
    · exact h.fzn b o h1 hlt
    · exact .inr (h.own b h1 hlt)
  kept b hlt hn := (k.kept b (Nat.lt_of_lt_of_le hlt h.size) (fun h1 => hn (h.own b h1 hlt))).trans (h.kept b hlt hn)
  size := Nat.le_trans h.size k.size
  tape := k.tape.trans h.tape
  os := k.os.trans h.os
  output := k.output.trans h.output
  sz b c T e := by
    obtain ⟨c1, h1, h2⟩ := h.sz b c T e
    obtain ⟨c2, k1, k2⟩ := k.sz b c1 T h1
    exact ⟨c2, k1, k2.trans h2⟩
  oth b o e c := by
    obtain ⟨o1, a1, a2, a3, a4⟩ := h.oth b o e c
    obtain ⟨o2, b1, b2, b3, b4⟩ := k.oth b o1 a1 a2
    exact ⟨o2, b1, b2, a3.trans b3, fun es ck q f => by have h9 := a4 es ck q f; exact (b4 es ck (h9.trans q) (h.fz b 0 f).1).trans h9⟩
theorem LoopAt.mono {g : Gh} {w w' : World} (h : Oth g w w') {l y m : Nat} {tmps : Array Value} (k : LoopAt w l y m tmps) : LoopAt w' l y m tmps := by
  obtain ⟨L, e, rfl, hy, hps⟩ := k
  obtain ⟨o', a1, _, ⟨L', rfl, s1, s2, s3, s4, s5, s6⟩, _⟩ := h l _ e rfl
  exact ⟨L', a1, s2, by rw [s3, s4, s5]; exact hy, by rw [s3]; exact hps⟩

/-- What trees say goes on. -/
structure LeV (g : Gh) (w : World) (g' : Gh) (w' : World) : Prop where
  blk : ∀ id b, g.blk id = some b → g'.blk id = some b
  tok : ∀ k b l c, g.tok k = some (b, l, c) → ∃ b' l' c', g'.tok k = some (b', l', c') ∧ l ≤ l' ∧ (l = l' → b = b' ∧ c = c')
  fz : ∀ b o, g.fz b o → g'.fz b o ∧ w'.cell? ⟨b, o, none⟩ = w.cell? ⟨b, o, none⟩
  sz : ∀ (b : Nat) (c : Array Value) (T : TypeId), w.heap[b]? = some (.cells c T (0, 0)) → ∃ c', w'.heap[b]? = some (.cells c' T (0, 0)) ∧ c'.size = c.size
  oth : Oth g w w'
theorem Le.v {g g' : Gh} {w w' : World} (h : Le g w g' w') : LeV g w g' w' := ⟨h.blk, h.tok, h.fz, h.sz, h.oth⟩
theorem SIok.mono {g g' : Gh} {w w' : World} (hle : LeV g w g' w') {A : Option Addr} {n cap : Nat} {i : SI} (h : SIok g A n cap i) : SIok g' A n cap i := by
  cases i with
  | any => trivial
  | nil => exact h
  | full => exact h
  | isn => exact h
  | nz => exact h
  | tok k =>
    obtain ⟨b, l, c, h1, h2, h3⟩ := h
    obtain ⟨b', l', c', k1, k2, k3⟩ := hle.tok _ _ _ _ h1
    refine ⟨b', l', c', k1, by omega, fun e => ?_⟩
    have e1 : l = l' := by omega
    have e2 := h3 (by omega)
    have e3 := k3 e1
    rw [e2.1, e2.2, e3.1, e3.2]
    exact ⟨rfl, rfl⟩

theorem tok_mono {g g' : Gh} {w w' : World} (hle : LeV g w g' w') {k n : Nat} {Q : Nat → Nat → Prop} (h : ∃ b l c, g.tok k = some (b, l, c) ∧ n ≤ l ∧ (n = l → Q b c)) : ∃ b l c, g'.tok k = some (b, l, c) ∧ n ≤ l ∧ (n = l → Q b c) := by
  obtain ⟨b, l, c, h1, h2, h3⟩ := h
  obtain ⟨b', l', c', k1, k2, k3⟩ := hle.tok _ _ _ _ h1
  refine ⟨b', l', c', k1, by omega, fun e => ?_⟩
  have e1 : l = l' := by omega
  have e2 := h3 (by omega)
  have e3 := k3 e1
  rw [← e3.1, ← e3.2]
  exact e2
theorem Rep.monoV {g g' : Gh} {w w' : World} (hle : LeV g w g' w') {x : Value} {v : V} (h : Rep g w x v) : Rep g' w' x v := by
  induction h with
  | c x => exact .c x
  | agg xs cs hn h1 _ ih => exact .agg xs cs hn h1 ih
  | tup xs cs hn _ ih => exact .tup xs cs hn ih
  | sl A n cap us i z cv hn hc hzz hA _ hi ih =>
    refine .sl A n cap us i z cv hn hc hzz (fun hne => ?_) ih (hi.mono hle)
    obtain ⟨b, o, e, hc⟩ := hA hne
    exact ⟨b, o, e, fun j hj => ⟨(hle.fz _ _ (hc j hj).1).1, (hle.fz _ _ (hc j hj).1).2.trans (hc j hj).2.1, (hc j hj).2.2⟩⟩
  | ptr b o o' cs off cv ho hA _ ih =>
    exact .ptr b o o' cs off cv ho (fun j hj => ⟨(hle.fz _ _ (hA j hj).1).1, (hle.fz _ _ (hA j hj).1).2.trans (hA j hj).2.1, (hA j hj).2.2⟩) ih
  | ref id b o h => exact .ref id b o (hle.blk _ _ h)
  | clo f xs cs hn _ ih => exact .clo f xs cs hn ih
  | row A n cap id off z hc h => exact .row A n cap id off z hc fun hn => (h hn).imp fun b hb => ⟨hb.1, hle.blk _ _ hb.2⟩
  | buf A n cap id hc h =>
    obtain ⟨b, cc, T, h1, h2, h3, h4⟩ := h
    obtain ⟨c', k1, k2⟩ := hle.sz b cc T h3
    exact .buf A n cap id hc ⟨b, c', T, h1, hle.blk _ _ h2, k1, by omega⟩
  | tsl A n cap k z hc hA h => exact .tsl A n cap k z hc hA (tok_mono hle (Q := fun b c => A = some ⟨b, 0, none⟩ ∧ cap = c) h)
  | tref A k n o h => exact .tref A k n o (tok_mono hle (Q := fun b c => A = ⟨b, o, none⟩) h)
  | top x => exact .top x
  | fmp b es ck ks vs hb hf hk hn _ ih =>
    obtain ⟨es0, hb, hp⟩ := hb
    obtain ⟨o', a1, _, _, a4⟩ := hle.oth b _ hb rfl
    rw [a4 es0 ck rfl hf] at a1
    exact .fmp b es ck ks vs ⟨es0, a1, hp⟩ (hle.fz _ _ hf).1 hk hn ih
  | mref id b h => exact .mref id b (hle.blk _ _ h)
  | yld l k y m tmps caps hb hl hn _ ih => exact .yld l k y m tmps caps (hle.blk _ _ hb) (hl.mono hle.oth) hn ih

theorem Rep.mono {g g' : Gh} {w w' : World} (hle : Le g w g' w') {x : Value} {v : V} (h : Rep g w x v) : Rep g' w' x v := h.monoV hle.v

/-- Ghosts whose objects beyond n are forgotten. -/
def Gh.res (g : Gh) (n : Nat) : Gh := { g with blk := fun id => if id < n then g.blk id else none, tok := fun id => if id < n then g.tok id else none }

theorem lows_get {n : Nat} : ∀ {cs : List V}, V.lows n cs = true → ∀ i (hi : i < cs.length), V.low n cs[i] = true
  | [], _, i, hi => absurd hi (Nat.not_lt_zero _)
  | c :: cs, h, i, hi => by
    simp only [V.lows, Bool.and_eq_true] at h
    cases i with
    | zero => exact h.1
    | succ i => exact lows_get h.2 i (by simpa using hi)
theorem lows_of {n : Nat} : ∀ {cs : List V}, (∀ v ∈ cs, V.low n v = true) → V.lows n cs = true
  | [], _ => by simp [V.lows]
  | c :: cs, h => by
    simp only [V.lows, Bool.and_eq_true]
    exact ⟨h c (by simp), lows_of fun v hv => h v (by simp [hv])⟩
theorem lows_mem {n : Nat} : ∀ {cs : List V}, V.lows n cs = true → ∀ v ∈ cs, V.low n v = true
  | [], _, v, hv => by simp at hv
  | c :: cs, h, v, hv => by
    simp only [V.lows, Bool.and_eq_true] at h
    rcases List.mem_cons.1 hv with rfl | hv
    · exact h.1
    · exact lows_mem h.2 v hv
theorem low_cells {n : Nat} {v : V} (h : V.low n v = true) : ∀ c ∈ v.cells, V.low n c = true := by
  cases v with
  | agg cs => simp only [V.low] at h; exact lows_mem h
  | _ => intro c hc; simp only [V.cells, List.mem_singleton] at hc; rw [hc]; exact h
theorem low_flats {n : Nat} {us : List V} (h : V.lows n us = true) : ∀ c ∈ flats us, V.low n c = true := by
  intro c hc
  obtain ⟨u, hu, hcu⟩ := List.mem_flatMap.1 hc
  exact low_cells (lows_mem h u hu) c hcu

theorem Rep.res {g : Gh} {w : World} {n : Nat} {x : Value} {v : V} (h : Rep g w x v) (hl : V.low n v = true) : Rep (g.res n) w x v := by
  induction h with
  | c x => exact .c x
  | agg xs cs hn h1 _ ih =>
    simp only [V.low] at hl
    exact .agg xs cs hn h1 fun i hi hj => ih i hi hj (lows_get hl i hj)
  | tup xs cs hn _ ih =>
    simp only [V.low] at hl
    exact .tup xs cs hn fun i hi hj => ih i hi hj (lows_get hl i hj)
  | sl A m cap us i z cv hn hc hzz hA _ hi ih =>
    simp only [V.low, Bool.and_eq_true] at hl
    refine .sl A m cap us i z cv hn hc hzz hA (fun j hj => ih j hj (low_flats hl.1 _ (List.getElem_mem _))) ?_
    cases i with
    | any => trivial
    | nil => exact hi
    | full => exact hi
    | isn => exact hi
    | nz => exact hi
    | tok k =>
      obtain ⟨b, l, c, h1, h2⟩ := hi
      have hk : k < n := by simpa [SI.low] using hl.2
      exact ⟨b, l, c, by simp [Gh.res, hk, h1], h2⟩
  | ptr b o o' cs off cv ho hA _ ih =>
    simp only [V.low] at hl
    exact .ptr b o o' cs off cv ho hA fun j hj => ih j hj (lows_get hl j hj)
  | ref id b o h =>
    have hk : id < n := by simpa [V.low] using hl
    exact .ref id b o (by simp [Gh.res, hk, h])
  | clo f xs cs hn _ ih =>
    simp only [V.low] at hl
    exact .clo f xs cs hn fun i hi hj => ih i hi hj (lows_get hl i hj)
  | row A m cap id off z hc h =>
    refine .row A m cap id off z hc fun hn => (h hn).imp fun b hb => ⟨hb.1, ?_⟩
    have hk : id < n := by simp [V.low] at hl; omega
    simp [Gh.res, hk, hb.2]
  | buf A m cap id hc h =>
    have hk : id < n := by simpa [V.low] using hl
    obtain ⟨b, cc, T, h1, h2, h3, h4⟩ := h
    exact .buf A m cap id hc ⟨b, cc, T, h1, by simp [Gh.res, hk, h2], h3, h4⟩
  | tsl A m cap k z hc hA h =>
    have hk : k < n := by simpa [V.low] using hl
    obtain ⟨b, l, c, h1, h2⟩ := h
    exact .tsl A m cap k z hc hA ⟨b, l, c, by simp [Gh.res, hk, h1], h2⟩
  | tref A k m o h =>
    have hk : k < n := by simpa [V.low] using hl
    obtain ⟨b, l, c, h1, h2⟩ := h
    exact .tref A k m o ⟨b, l, c, by simp [Gh.res, hk, h1], h2⟩
  | top x => exact .top x
  | fmp b es ck ks vs hb hf hk hn _ ih =>
    simp only [V.low] at hl
    exact .fmp b es ck ks vs hb hf hk hn fun i hi hj => ih i hi hj (lows_get hl i hj)
  | mref id b h =>
    have hk : id < n := by simpa [V.low] using hl
    exact .mref id b (by simp [Gh.res, hk, h])
  | yld l k y mm tmps caps hb hl' hn _ ih =>
    simp only [V.low, Bool.and_eq_true, decide_eq_true_eq] at hl
    exact .yld l k y mm tmps caps (by simp [Gh.res, hl.1, hb]) hl' hn fun i hi hj => ih i hi hj (lows_get hl.2 i hj)

/-- A tree without references says the same whatever the objects are. -/
theorem Rep.bare {g g' : Gh} {w : World} {x : Value} {v : V} (h : Rep g w x v) (hl : V.low 0 v = true) (hf : ∀ b o, g.fz b o → g'.fz b o) : Rep g' w x v := by
  induction h with
  | c x => exact .c x
  | agg xs cs hn h1 _ ih =>
    simp only [V.low] at hl
    exact .agg xs cs hn h1 fun i hi hj => ih i hi hj (lows_get hl i hj)
  | tup xs cs hn _ ih =>
    simp only [V.low] at hl
    exact .tup xs cs hn fun i hi hj => ih i hi hj (lows_get hl i hj)
  | sl A m cap us i z cv hn hc hzz hA _ hi ih =>
    simp only [V.low, Bool.and_eq_true] at hl
    refine .sl A m cap us i z cv hn hc hzz (fun hne => ?_) (fun j hj => ih j hj (low_flats hl.1 _ (List.getElem_mem _))) ?_
    · obtain ⟨b, o, e, h2⟩ := hA hne
      exact ⟨b, o, e, fun j hj => ⟨hf _ _ (h2 j hj).1, (h2 j hj).2⟩⟩
    · cases i with
      | any => trivial
      | nil => exact hi
      | full => exact hi
      | isn => exact hi
      | nz => exact hi
      | tok k => simp [SI.low] at hl
  | ptr b o o' cs off cv ho hA _ ih =>
    simp only [V.low] at hl
    exact .ptr b o o' cs off cv ho (fun j hj => ⟨hf _ _ (hA j hj).1, (hA j hj).2⟩) fun j hj => ih j hj (lows_get hl j hj)
  | ref id b o h => simp [V.low] at hl
  | clo f xs cs hn _ ih =>
    simp only [V.low] at hl
    exact .clo f xs cs hn fun i hi hj => ih i hi hj (lows_get hl i hj)
  | row A m cap id off z hc h =>
    have hm : m = 0 := by simpa [V.low] using hl
    exact .row A m cap id off z hc fun hn => absurd hm hn
  | buf A m cap id hc h => simp [V.low] at hl
  | tsl A m cap k z hc hA h => simp [V.low] at hl
  | tref A k m o h => simp [V.low] at hl
  | top x => exact .top x
  | fmp b es ck ks vs hb hfz hk hn _ ih =>
    simp only [V.low] at hl
    exact .fmp b es ck ks vs hb (hf _ _ hfz) hk hn fun i hi hj => ih i hi hj (lows_get hl i hj)
  | mref id b h => simp [V.low] at hl
  | yld l k y m tmps caps hb hl' hn _ ih => simp [V.low] at hl

/-- A row that grows, as an object. -/
def TokAt (g : Gh) (w : World) (h : List O) (id b n z : Nat) (c : Array Value) : Prop :=
  h[id]? = some (.tok n z) ∨ ∃ cs, h[id]? = some (.tokc n z cs) ∧ cs.length = n * z ∧ (∀ j (hj : j < cs.length) (hc : j < c.size), Rep g w c[j] cs[j] ∧ (c[j]).oneCell' = true) ∧ ∀ o, ¬ g.fz b o
theorem TokAt.lt {g : Gh} {w : World} {h : List O} {id b n z : Nat} {c : Array Value} (t : TokAt g w h id b n z c) : id < h.length := by
  rcases t with t | ⟨cs, t, _⟩
  · exact (List.getElem?_eq_some_iff.1 t).1
  · exact (List.getElem?_eq_some_iff.1 t).1
theorem TokAt.go {g g' : Gh} {w w' : World} {h h' : List O} {id b n z : Nat} {c : Array Value} (t : TokAt g w h id b n z c) (hle : Le g w g' w') (hh : h'[id]? = h[id]?) (hf : ∀ o, g'.fz b o → g.fz b o) : TokAt g' w' h' id b n z c := by
  rcases t with t | ⟨cs, t1, t2, t3, t4⟩
  · exact .inl (hh.trans t)
  · exact .inr ⟨cs, hh.trans t1, t2, fun j hj hc => ⟨(t3 j hj hc).1.mono hle, (t3 j hj hc).2⟩, fun o ho => t4 o (hf o ho)⟩
theorem TokAt.map {g g' : Gh} {w w' : World} {h h' : List O} {id id' b n z : Nat} {c : Array Value} (t : TokAt g w h id b n z c) (hh : h'[id']? = h[id]?) (hr : ∀ {x : Value} {v : V}, Rep g w x v → Rep g' w' x v) (hf : ∀ o, g'.fz b o → g.fz b o) : TokAt g' w' h' id' b n z c := by
  rcases t with t | ⟨cs, t1, t2, t3, t4⟩
  · exact .inl (hh.trans t)
  · exact .inr ⟨cs, hh.trans t1, t2, fun j hj hc => ⟨hr (t3 j hj hc).1, (t3 j hj hc).2⟩, fun o ho => t4 o (hf o ho)⟩
theorem TokAt.mapL {g g' : Gh} {w w' : World} {h h' : List O} {id id' b n z m : Nat} {c : Array Value} (t : TokAt g w h id b n z c) (hh : h'[id']? = h[id]?) (hr : ∀ {x : Value} {v : V}, Rep g w x v → V.low m v = true → Rep g' w' x v) (hl : ∀ o, h[id]? = some o → O.low m o = true) (hf : ∀ o, g'.fz b o → g.fz b o) : TokAt g' w' h' id' b n z c := by
  rcases t with t | ⟨cs, t1, t2, t3, t4⟩
  · exact .inl (hh.trans t)
  · have h7 := hl _ t1
    exact .inr ⟨cs, hh.trans t1, t2, fun j hj hc => ⟨hr (t3 j hj hc).1 (lows_get h7 j hj), (t3 j hj hc).2⟩, fun o ho => t4 o (hf o ho)⟩
theorem TokAt.not_cells {g : Gh} {w : World} {h : List O} {id b n z : Nat} {c : Array Value} (t : TokAt g w h id b n z c) {cs : List V} (e : h[id]? = some (.cells cs)) : False := by
  rcases t with t | ⟨cs', t, _⟩ <;> rw [e] at t <;> simp at t
theorem TokAt.tok {g : Gh} {w : World} {h : List O} {id b n z n' z' : Nat} {c : Array Value} (t : TokAt g w h id b n z c) (e : h[id]? = some (.tok n' z')) : n' = n ∧ z' = z := by
  rcases t with t | ⟨cs', t, _⟩ <;> rw [e] at t
  · simp only [Option.some.injEq, O.tok.injEq] at t; exact t
  · simp at t

/-- How a loop stands. -/
def LState : Nat → Loop → Prop
  | 0, L => L.state = .ready ∧ L.pending = none
  | 1, L => L.state = .busy
  | 2, _ => True
  | 3, L => L.state = .done ∧ L.pending = some .ret
  | n + 4, L => L.state = .done ∧ L.pending = some (.exit n)
def CellAt (g : Gh) (w : World) (h : List O) (id b : Nat) : Prop := ∃ cs c T, h[id]? = some (.cells cs) ∧ w.heap[b]? = some (.cells c T (0, 0)) ∧ cs.length ≤ c.size ∧
    (∀ j (hj : j < cs.length) (hc : j < c.size), Rep g w c[j] cs[j] ∧ (c[j]).oneCell' = true) ∧ ∀ o, ¬ g.fz b o
/-- A loop, a map. -/
def OthAt (g : Gh) (w : World) (h : List O) (id b : Nat) : Prop :=
  (∃ s L, h[id]? = some (.loop s) ∧ w.heap[b]? = some (.loop L) ∧ LState s L ∧ ∀ o, ¬ g.fz b o) ∨
  ∃ ks vs es ck, h[id]? = some (.mapo ks vs) ∧ w.heap[b]? = some (.map es ck) ∧ es.toList.map (·.key) = ks ∧ es.size = vs.length ∧
    (∀ i (hi : i < es.size) (hj : i < vs.length), Rep g w (es[i]).val vs[i]) ∧ ∀ o, ¬ g.fz b o
theorem OthAt.block {g : Gh} {w : World} {h : List O} {id b : Nat} (t : OthAt g w h id b) : ∃ o, w.heap[b]? = some o ∧ cellsB o = false := by
  rcases t with ⟨s, L, _, t, _⟩ | ⟨ks, vs, es, ck, _, t, _⟩
  · exact ⟨_, t, rfl⟩
  · exact ⟨_, t, rfl⟩
theorem OthAt.lt {g : Gh} {w : World} {h : List O} {id b : Nat} (t : OthAt g w h id b) : id < h.length ∧ b < w.heap.size := by
  rcases t with ⟨s, L, t1, t2, _⟩ | ⟨ks, vs, es, ck, t1, t2, _⟩
  · exact ⟨(List.getElem?_eq_some_iff.1 t1).1, (Array.getElem?_eq_some_iff.1 t2).1⟩
  · exact ⟨(List.getElem?_eq_some_iff.1 t1).1, (Array.getElem?_eq_some_iff.1 t2).1⟩
theorem OthAt.not_cells {g : Gh} {w : World} {h : List O} {id b : Nat} (t : OthAt g w h id b) {cs : List V} (e : h[id]? = some (.cells cs)) : False := by
  rcases t with ⟨s, L, t1, _⟩ | ⟨ks, vs, es, ck, t1, _⟩ <;> rw [e] at t1 <;> simp at t1
theorem OthAt.not_tok {g : Gh} {w : World} {h : List O} {id b : Nat} (t : OthAt g w h id b) {n z : Nat} (e : h[id]? = some (.tok n z)) : False := by
  rcases t with ⟨s, L, t1, _⟩ | ⟨ks, vs, es, ck, t1, _⟩ <;> rw [e] at t1 <;> simp at t1
theorem OthAt.not_tokc {g : Gh} {w : World} {h : List O} {id b : Nat} (t : OthAt g w h id b) {n z : Nat} {cs : List V} (e : h[id]? = some (.tokc n z cs)) : False := by
  rcases t with ⟨s, L, t1, _⟩ | ⟨ks, vs, es, ck, t1, _⟩ <;> rw [e] at t1 <;> simp at t1
theorem OthAt.not_cellsAt {g : Gh} {w : World} {h : List O} {id b : Nat} (t : OthAt g w h id b) {c : Array Value} {T : TypeId} {f : Nat × Nat} (e : w.heap[b]? = some (.cells c T f)) : False := by
  obtain ⟨o, h1, h2⟩ := t.block
  rw [e] at h1; cases h1; cases h2
theorem OthAt.noFz {g : Gh} {w : World} {h : List O} {id b : Nat} (t : OthAt g w h id b) : ∀ o, ¬ g.fz b o := by
  rcases t with ⟨s, L, _, _, _, t⟩ | ⟨ks, vs, es, ck, _, _, _, _, _, t⟩ <;> exact t
theorem OthAt.map {g g' : Gh} {w w' : World} {h h' : List O} {id id' b : Nat} (t : OthAt g w h id b) (hh : h'[id']? = h[id]?) (hb : w'.heap[b]? = w.heap[b]?) (hr : ∀ {x : Value} {v : V}, Rep g w x v → Rep g' w' x v)
    (hf : ∀ o, g'.fz b o → g.fz b o) : OthAt g' w' h' id' b := by
  rcases t with ⟨s, L, t1, t2, t3, t4⟩ | ⟨ks, vs, es, ck, t1, t2, t3, t4, t5, t6⟩
  · exact .inl ⟨s, L, hh.trans t1, hb.trans t2, t3, fun o k => t4 o (hf o k)⟩
  · exact .inr ⟨ks, vs, es, ck, hh.trans t1, hb.trans t2, t3, t4, fun i hi hj => hr (t5 i hi hj), fun o k => t6 o (hf o k)⟩
theorem OthAt.mapL {g g' : Gh} {w w' : World} {h h' : List O} {id id' b m : Nat} (t : OthAt g w h id b) (hh : h'[id']? = h[id]?) (hb : w'.heap[b]? = w.heap[b]?) (hr : ∀ {x : Value} {v : V}, Rep g w x v → V.low m v = true → Rep g' w' x v)
    (hl : ∀ o, h[id]? = some o → O.low m o = true) (hf : ∀ o, g'.fz b o → g.fz b o) : OthAt g' w' h' id' b := by
  rcases t with ⟨s, L, t1, t2, t3, t4⟩ | ⟨ks, vs, es, ck, t1, t2, t3, t4, t5, t6⟩
  · exact .inl ⟨s, L, hh.trans t1, hb.trans t2, t3, fun o k => t4 o (hf o k)⟩
  · exact .inr ⟨ks, vs, es, ck, hh.trans t1, hb.trans t2, t3, t4, fun i hi hj => hr (t5 i hi hj) (lows_get (hl _ t1) i hj), fun o k => t6 o (hf o k)⟩
theorem OthAt.go {g g' : Gh} {w w' : World} {h h' : List O} {id b : Nat} (t : OthAt g w h id b) (hle : Le g w g' w') (hh : h'[id]? = h[id]?) (hb : w'.heap[b]? = w.heap[b]?) (hf : ∀ o, g'.fz b o → g.fz b o) : OthAt g' w' h' id b :=
  t.map hh hb (fun r => r.mono hle) hf

/-- The package-level variables hold what they should. -/
def GlOk (g : Gh) (w : World) : Prop := ∀ n v, gvs n = some v → Rep g w (.pointer (some ⟨n, 0, none⟩)) v
theorem gvs_low {n : Nat} {v : V} (h : gvs n = some v) : V.low 0 v = true := by
  unfold gvs at h
  split at h <;> first | (cases h; done) | (simp only [Option.some.injEq] at h; subst h; simp [V.low, V.lows])
structure AgOk (g : Gh) (w : World) : Prop where
  al : ∀ b o, g.fz b o → b < w.heap.size
  gl : GlOk g w
theorem AgOk.fzs {g g' : Gh} {w : World} (h : AgOk g w) (h1 : ∀ b o, g.fz b o → g'.fz b o) (h2 : ∀ b o, g'.fz b o → b < w.heap.size) : AgOk g' w :=
  ⟨h2, fun n v e => (h.gl n v e).bare (gvs_low e) h1⟩
theorem AgOk.eqv {g g' : Gh} {w : World} (h : AgOk g w) (h1 : g'.fz = g.fz) : AgOk g' w := h.fzs (fun b o e => by rw [h1]; exact e) fun b o e => h.al b o (by rw [← h1]; exact e)
theorem AgOk.go {g g' : Gh} {w w' : World} (h : AgOk g w) (hle : Le g w g' w') (h2 : ∀ b o, g'.fz b o → b < w'.heap.size) : AgOk g' w' :=
  ⟨h2, fun n v e => (h.gl n v e).mono hle⟩

/-- The objects and memory. -/
structure HOk (g : Gh) (w : World) (h : List O) : Prop where
  obj : ∀ id b, g.blk id = some b → CellAt g w h id b ∨ OthAt g w h id b
  tok : ∀ id b n cap, g.tok id = some (b, n, cap) → ∃ z c T, TokAt g w h id b n z c ∧ w.heap[b]? = some (.cells c T (0, 0)) ∧ n ≤ cap ∧ cap * z ≤ c.size ∧ ∀ o, g.fz b o → o < n * z
  inj : ∀ id id' b, g.blk id = some b → g.blk id' = some b → id = id'
  tinj : ∀ id id' b n c n' c', g.tok id = some (b, n, c) → g.tok id' = some (b, n', c') → id = id'
  bt : ∀ id id' b n c, g.blk id = some b → g.tok id' = some (b, n, c) → False
  ag : AgOk g w

theorem HOk.al {g : Gh} {w : World} {h : List O} (H : HOk g w h) : ∀ b o, g.fz b o → b < w.heap.size := H.ag.al
theorem HOk.cellsOf {g : Gh} {w : World} {h : List O} (H : HOk g w h) {id b : Nat} (e : g.blk id = some b) {cs : List V} (hid : h[id]? = some (.cells cs)) : CellAt g w h id b :=
  (H.obj id b e).resolve_right fun t => t.not_cells hid
theorem HOk.cellsAt {g : Gh} {w : World} {h : List O} (H : HOk g w h) {id b : Nat} (e : g.blk id = some b) {c : Array Value} {T : TypeId} {f : Nat × Nat} (hb : w.heap[b]? = some (.cells c T f)) : CellAt g w h id b :=
  (H.obj id b e).resolve_right fun t => t.not_cellsAt hb
theorem HOk.noFz {g : Gh} {w : World} {h : List O} (H : HOk g w h) {id b : Nat} (e : g.blk id = some b) : ∀ o, ¬ g.fz b o := by
  rcases H.obj _ _ e with ⟨_, _, _, _, _, _, _, t⟩ | t
  · exact t
  · exact t.noFz
theorem HOk.not_tok {g : Gh} {w : World} {h : List O} (H : HOk g w h) {id b : Nat} (e : g.blk id = some b) {n z : Nat} : h[id]? ≠ some (.tok n z) := by
  intro k
  rcases H.obj _ _ e with ⟨_, _, _, t, _⟩ | t
  · rw [k] at t; simp at t
  · exact t.not_tok k
theorem HOk.not_tokc {g : Gh} {w : World} {h : List O} (H : HOk g w h) {id b : Nat} (e : g.blk id = some b) {n z : Nat} {cs : List V} : h[id]? ≠ some (.tokc n z cs) := by
  intro k
  rcases H.obj _ _ e with ⟨_, _, _, t, _⟩ | t
  · rw [k] at t; simp at t
  · exact t.not_tokc k

theorem HOk.blk_lt {g : Gh} {w : World} {h : List O} (H : HOk g w h) {id b : Nat} (e : g.blk id = some b) : id < h.length ∧ b < w.heap.size := by
  rcases H.obj _ _ e with ⟨cs, c, T, h1, h2, _⟩ | t
  · exact ⟨(List.getElem?_eq_some_iff.1 h1).1, (Array.getElem?_eq_some_iff.1 h2).1⟩
  · exact t.lt
theorem HOk.tok_lt {g : Gh} {w : World} {h : List O} (H : HOk g w h) {id b n c : Nat} (e : g.tok id = some (b, n, c)) : id < h.length ∧ b < w.heap.size := by
  obtain ⟨z, c, T, h1, h2, _⟩ := H.tok _ _ _ _ e
  exact ⟨h1.lt, (Array.getElem?_eq_some_iff.1 h2).1⟩
theorem HOk.owns_lt {g : Gh} {w : World} {h : List O} (H : HOk g w h) {b : Nat} (e : g.owns b) : b < w.heap.size := by
  rcases e with ⟨id, e⟩ | ⟨k, l, c, e⟩
  · exact (H.blk_lt e).2
  · exact (H.tok_lt e).2
theorem HOk.blk_none {g : Gh} {w : World} {h : List O} (H : HOk g w h) {id : Nat} (hi : h.length ≤ id) : g.blk id = none := by
  cases e : g.blk id with
  | none => rfl
  | some b => have := (H.blk_lt e).1; omega
theorem HOk.tok_none {g : Gh} {w : World} {h : List O} (H : HOk g w h) {id : Nat} (hi : h.length ≤ id) : g.tok id = none := by
  cases e : g.tok id with
  | none => rfl
  | some p => obtain ⟨b, n, c⟩ := p; have := (H.tok_lt e).1; omega

theorem HOk.append {g : Gh} {w : World} {h : List O} (H : HOk g w h) (pre : List O) : HOk g w (h ++ pre) where
  obj id b e := by
    rcases H.obj _ _ e with ⟨cs, c, T, h1, h2⟩ | t
    · exact .inl ⟨cs, c, T, by rw [List.getElem?_append_left (H.blk_lt e).1]; exact h1, h2⟩
    · exact .inr (t.go (Le.refl g w) (List.getElem?_append_left (H.blk_lt e).1) rfl fun _ h => h)
  tok id b n cap e := by
    obtain ⟨z, c, T, h1, h2⟩ := H.tok _ _ _ _ e
    exact ⟨z, c, T, h1.go (Le.refl g w) (List.getElem?_append_left (H.tok_lt e).1) (fun _ h => h), h2⟩
  inj := H.inj
  tinj := H.tinj
  bt := H.bt
  ag := H.ag

theorem HOk.res {g : Gh} {w : World} {h : List O} (H : HOk g w h) (n : Nat) (hl : (h.take n).all (O.low n) = true) : HOk (g.res n) w (h.take n) where
  obj id b e := by
    have hid : id < n := by
      rcases Nat.lt_or_ge id n with h1 | h1
      · exact h1
      · simp [Gh.res, Nat.not_lt.2 h1] at e
    have e' : g.blk id = some b := by simpa [Gh.res, hid] using e
    rcases H.obj _ _ e' with ⟨cs, c, T, h1, h2, h3, h4, h5⟩ | t
    · have h6 : (h.take n)[id]? = some (.cells cs) := by rw [List.getElem?_take, if_pos hid]; exact h1
      have h7 := List.all_eq_true.1 hl _ (List.mem_of_getElem? h6)
      exact .inl ⟨cs, c, T, h6, h2, h3, fun j hj hc => ⟨(h4 j hj hc).1.res (lows_get h7 j hj), (h4 j hj hc).2⟩, h5⟩
    · have h6 : (h.take n)[id]? = h[id]? := by rw [List.getElem?_take, if_pos hid]
      exact .inr (t.mapL h6 rfl (fun r hv => r.res hv) (fun o ho => List.all_eq_true.1 hl _ (List.mem_of_getElem? (h6.trans ho))) fun _ h => h)
  tok id b m cap e := by
    have hid : id < n := by
      rcases Nat.lt_or_ge id n with h1 | h1
      · exact h1
      · simp [Gh.res, Nat.not_lt.2 h1] at e
    have e' : g.tok id = some (b, m, cap) := by simpa [Gh.res, hid] using e
    obtain ⟨z, c, T, h1, h2⟩ := H.tok _ _ _ _ e'
    have hh : (h.take n)[id]? = h[id]? := by rw [List.getElem?_take, if_pos hid]
    refine ⟨z, c, T, ?_, h2⟩
    rcases h1 with h1 | ⟨cs, h1, h3, h4, h5⟩
    · exact .inl (hh.trans h1)
    · have h6 := hh.trans h1
      have h7 := List.all_eq_true.1 hl _ (List.mem_of_getElem? h6)
      exact .inr ⟨cs, h6, h3, fun j hj hc => ⟨(h4 j hj hc).1.res (lows_get h7 j hj), (h4 j hj hc).2⟩, h5⟩
  inj id id' b e e' := H.inj id id' b (by by_cases h1 : id < n <;> simp_all [Gh.res]) (by by_cases h1 : id' < n <;> simp_all [Gh.res])
  tinj id id' b m c m' c' e e' := H.tinj id id' b m c m' c' (by by_cases h1 : id < n <;> simp_all [Gh.res]) (by by_cases h1 : id' < n <;> simp_all [Gh.res])
  bt id id' b m c e e' := H.bt id id' b m c (by by_cases h1 : id < n <;> simp_all [Gh.res]) (by by_cases h1 : id' < n <;> simp_all [Gh.res])
  ag := H.ag.eqv rfl

theorem Rep.vw1 {g : Gh} {w : World} {x : Value} {v : V} (h : Rep g w x v) : Rep g w x v.vw1 := by
  cases h with
  | sl A n cap us i z cv hn hc hzz hA h hi => exact .sl A n cap us .any z cv hn hc hzz hA h trivial
  | c x => exact .c x
  | agg xs cs hn h1 h => exact .agg xs cs hn h1 h
  | tup xs cs hn h => exact .tup xs cs hn h
  | ptr b o o' cs off cv ho hA h => exact .ptr b o o' cs off cv ho hA h
  | ref id b o h => exact .ref id b o h
  | clo f xs cs hn h => exact .clo f xs cs hn h
  | row A m cap id off z hc h => exact .row A m cap id off z hc h
  | buf A m cap id hc h => exact .buf A m cap id hc h
  | tsl A n cap k z hc hA h => exact .tsl A n cap k z hc hA h
  | tref A k n o h => exact .tref A k n o h
  | top x => exact .top x
  | fmp b es ck ks vs hb hf hk hn h => exact .fmp b es ck ks vs hb hf hk hn h
  | mref id b h => exact .mref id b h
  | yld l k y m tmps caps hb hl hn h => exact .yld l k y m tmps caps hb hl hn h
theorem Rep.vw2 {g : Gh} {w : World} {x : Value} {v : V} (h : Rep g w x v) : Rep g w x v.vw2 := by
  cases v with
  | agg cs =>
    cases h with
    | agg xs cs hn h1 h => exact .agg xs _ (by simpa using hn) h1 fun i hi hj => by rw [List.getElem_map]; exact (h i hi (by simpa using hj)).vw1
  | _ => exact h.vw1
theorem Rep.vw {g : Gh} {w : World} {x : Value} {v : V} (h : Rep g w x v) : Rep g w x v.vw := by
  cases v with
  | tup cs =>
    cases h with
    | tup xs cs hn h => exact .tup xs _ (by simpa using hn) fun i hi hj => by rw [List.getElem_map]; exact (h i hi (by simpa using hj)).vw2
  | _ => exact h.vw2

theorem vw2_cells (v : V) : v.vw2.cells = v.cells.map V.vw1 := by
  cases v <;> simp [V.vw2, V.vw1, V.cells]
theorem vw2_cells_length (v : V) : v.vw2.cells.length = v.cells.length := by rw [vw2_cells, List.length_map]

/-- Cell by cell. -/
theorem Rep.cells {g : Gh} {w : World} {x : Value} {v : V} (h : Rep g w x v) (ho : okc v = true) :
    x.cells.size = v.cells.length ∧ ∀ j (hj : j < v.cells.length) (hc : j < x.cells.size), Rep g w (x.cells[j]) v.cells[j] ∧ (x.cells[j]).oneCell' = true := by
  cases h with
  | agg xs cs hn h1 h => exact ⟨hn, fun j hj hc => ⟨h j hc hj, h1 j hc⟩⟩
  | tup xs cs hn h => simp [okc] at ho
  | c x =>
    simp only [okc] at ho
    have : x.cells = #[x] := by cases x <;> first | rfl | simp [Value.oneCell'] at ho
    refine ⟨by rw [this]; rfl, fun j hj hc => ?_⟩
    have hj0 : j = 0 := by simp [V.cells] at hj; omega
    subst hj0
    simp only [this]
    exact ⟨.c x, ho⟩
  | sl A n cap us i z cv hn hc hzz hA h hi =>
    refine ⟨rfl, fun j hj hc' => ?_⟩
    have hj0 : j = 0 := by simp [V.cells] at hj; omega
    subst hj0
    exact ⟨.sl A n cap us i z cv hn hc hzz hA h hi, rfl⟩
  | ptr b o o' cs off cv he hA h =>
    refine ⟨rfl, fun j hj hc' => ?_⟩
    have hj0 : j = 0 := by simp [V.cells] at hj; omega
    subst hj0
    exact ⟨.ptr b o o' cs off cv he hA h, rfl⟩
  | ref id b o h =>
    refine ⟨rfl, fun j hj hc' => ?_⟩
    have hj0 : j = 0 := by simp [V.cells] at hj; omega
    subst hj0
    exact ⟨.ref id b o h, rfl⟩
  | clo f xs cs hn h =>
    refine ⟨rfl, fun j hj hc' => ?_⟩
    have hj0 : j = 0 := by simp [V.cells] at hj; omega
    subst hj0
    exact ⟨.clo f xs cs hn h, rfl⟩
  | row A m cap id off z hc h =>
    refine ⟨rfl, fun j hj hc' => ?_⟩
    have hj0 : j = 0 := by simp [V.cells] at hj; omega
    subst hj0
    exact ⟨.row A m cap id off z hc h, rfl⟩
  | buf A m cap id hc h =>
    refine ⟨rfl, fun j hj hc' => ?_⟩
    have hj0 : j = 0 := by simp [V.cells] at hj; omega
    subst hj0
    exact ⟨.buf A m cap id hc h, rfl⟩
  | tsl A n cap k z hc hA h =>
    refine ⟨rfl, fun j hj hc' => ?_⟩
    have hj0 : j = 0 := by simp [V.cells] at hj; omega
    subst hj0
    exact ⟨.tsl A n cap k z hc hA h, rfl⟩
  | tref A k n o h =>
    refine ⟨rfl, fun j hj hc' => ?_⟩
    have hj0 : j = 0 := by simp [V.cells] at hj; omega
    subst hj0
    exact ⟨.tref A k n o h, rfl⟩
  | fmp b es ck ks vs hb hf hk hn h =>
    refine ⟨rfl, fun j hj hc' => ?_⟩
    have hj0 : j = 0 := by simp [V.cells] at hj; omega
    subst hj0
    exact ⟨.fmp b es ck ks vs hb hf hk hn h, rfl⟩
  | mref id b h =>
    refine ⟨rfl, fun j hj hc' => ?_⟩
    have hj0 : j = 0 := by simp [V.cells] at hj; omega
    subst hj0
    exact ⟨.mref id b h, rfl⟩
  | yld l k y m tmps caps hb hl hn h =>
    refine ⟨rfl, fun j hj hc' => ?_⟩
    have hj0 : j = 0 := by simp [V.cells] at hj; omega
    subst hj0
    exact ⟨.yld l k y m tmps caps hb hl hn h, rfl⟩
  | top x => simp [okc] at ho
end Go.Proofs.YtkiliokeanmagaaDoor.Ab
