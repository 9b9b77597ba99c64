/- Operations that make memory or write it. -/
import Derived.Test.YtkiliokeanmagaaDoorAb7
namespace Go.Proofs.YtkiliokeanmagaaDoor.Ab
open Go
set_option linter.unusedVariables false
set_option linter.unusedSimpArgs false

/-- Objects of which nothing was known stay so, but for some. -/
def Quiet (E : Nat → Prop) (g : Gh) (h : List O) (g' : Gh) (h' : List O) : Prop :=
  ∀ id, ¬ E id → (g.blk id = none → g'.blk id = none) ∧ (g.tok id = none → g'.tok id = none) ∧ (g.blk id = none → g.tok id = none → h'[id]? = h[id]?)
theorem Quiet.refl (E : Nat → Prop) (g : Gh) (h : List O) : Quiet E g h g h := fun _ _ => ⟨fun h => h, fun h => h, fun _ _ => rfl⟩
theorem Quiet.trans {E : Nat → Prop} {g g' g'' : Gh} {h h' h'' : List O} (a : Quiet E g h g' h') (b : Quiet E g' h' g'' h'') : Quiet E g h g'' h'' :=
  fun id hid => ⟨fun e => (b id hid).1 ((a id hid).1 e), fun e => (b id hid).2.1 ((a id hid).2.1 e), fun e e' => ((b id hid).2.2 ((a id hid).1 e) ((a id hid).2.1 e')).trans ((a id hid).2.2 e e')⟩
theorem Quiet.mono {E E' : Nat → Prop} {g g' : Gh} {h h' : List O} (a : Quiet E g h g' h') (hE : ∀ id, E id → E' id) : Quiet E' g h g' h' := fun id hid => a id fun e => hid (hE id e)

/-- Objects from b on, and those that are for anybody. -/
def Frb (b : Nat) (h : List O) : Nat → Prop := fun id => b ≤ id ∨ h[id]? = some .free
theorem Quiet.transF {b : Nat} {g g' g'' : Gh} {w' : World} {h h' h'' : List O} (a : Quiet (Frb b h) g h g' h') (H : HOk g' w' h') (hb : ∀ id x, g.blk id = some x → ∃ y, g'.blk id = some y) (ht : ∀ id x, g.tok id = some x → ∃ y, g'.tok id = some y) (c : Quiet (Frb b h') g' h' g'' h'') : Quiet (Frb b h) g h g'' h'' := by
  refine Quiet.trans a fun id hid => c id ?_
  rintro (h1 | h1)
  · exact hid (.inl h1)
  · refine hid (.inr ?_)
    cases e : g.blk id with
    | some x =>
      obtain ⟨y, e1⟩ := hb _ _ e
      rcases H.obj _ _ e1 with ⟨cs, _, _, e2, _⟩ | ⟨s, L, e2, _⟩ | ⟨ks, vs, es, ck, e2, _⟩ <;> rw [h1] at e2 <;> simp at e2
    | none =>
      cases e' : g.tok id with
      | some x =>
        obtain ⟨⟨b', n', c'⟩, e1⟩ := ht _ _ e'
        obtain ⟨z, cc, T, e2, _⟩ := H.tok _ _ _ _ e1
        rcases e2 with e2 | ⟨cs, e2, _⟩ <;> rw [h1] at e2 <;> simp at e2
      | none => rw [← (a id hid).2.2 e e']; exact h1
theorem Quiet.transL {b : Nat} {g g' g'' : Gh} {w w' : World} {h h' h'' : List O} (a : Quiet (Frb b h) g h g' h') (H : HOk g' w' h') (hle : Le g w g' w') (c : Quiet (Frb b h') g' h' g'' h'') : Quiet (Frb b h) g h g'' h'' :=
  a.transF H (fun id x e => ⟨x, hle.blk _ _ e⟩) (fun id x e => by obtain ⟨b, l, c⟩ := x; obtain ⟨b', l', c', e', _⟩ := hle.tok _ _ _ _ e; exact ⟨_, e'⟩) c

/-- What lies at a source of cells. -/
def Src (w : World) (A : Option Addr) (cs : List Value) : Prop := cs = [] ∨ ∃ a, A = some a ∧ ∀ j v, cs[j]? = some v → w.cell? (a.add j) = some v

section
variable {P : Program} {w : World}
theorem src_run {A : Option Addr} {n c size : Nat} {cs : List Value} (hl : cs.length = n * size) (h : Src w A cs) : (Builtin.firstCells size n (.slice A n c)).run P w = .ok cs.toArray w := by
  rcases h with rfl | ⟨a, rfl, h⟩
  · cases A with
    | none => exact run_firstCells_none w size n n c
    | some a => exact run_firstCells_some w size n a n c [] hl (by simp)
  · exact run_firstCells_some w size n a n c cs hl h
theorem Src.drew {A : Option Addr} {cs : List Value} (h : Src w A cs) : Src w.drew A cs := by
  rcases h with h | ⟨a, e, h⟩
  · exact .inl h
  · exact .inr ⟨a, e, fun j v hj => by simpa using h j v hj⟩

theorem app_fit {t u e e2 T ty : TypeId} {i : TypeInfo} (ht : P.underlying t = some (.slice e)) (hu : P.underlying u = some (.slice e2)) (hi : P.info? e = some i)
    {b n cap m c2 : Nat} {cur : Array Value} (hb : w.heap[b]? = some (.cells cur T (0, 0))) {A : Option Addr} {news : List Value} (hl : news.length = m * i.size) (hs : Src w A news)
    (h1 : ∀ v ∈ news, v.oneCell' = true) (hroom : n + m ≤ cap) (hfit : n * i.size + news.length ≤ cur.size) :
    (Builtin.append_ #[t, u] ty #[.slice (some ⟨b, 0, none⟩) n cap, .slice A m c2]).run P w =
      .ok (.slice (some ⟨b, 0, none⟩) (n + m) cap) (w.setRow b (cur.toList.take (n * i.size) ++ news ++ cur.toList.drop (n * i.size + news.length)).toArray) := by
  have hf := src_run (P := P) (c := c2) hl hs
  have hst := run_storeCells_at P b (n * i.size) T news 0 cur w hb (by simpa using hfit) h1
  simp only [Nat.add_zero] at hst
  simp [Builtin.append_, run_underlying ht, run_underlying hu, sizeOf, typeInfo, hi, Builtin.lenOf, hroom, hf, Addr.add_lit, hst]

theorem app_grow {t u e e2 ty : TypeId} {i : TypeInfo} {z : Value} (ht : P.underlying t = some (.slice e)) (hu : P.underlying u = some (.slice e2)) (hi : P.info? e = some i) (hz : i.zero = some z)
    {n cap m c2 : Nat} {B A : Option Addr} {olds news : List Value} (hlo : olds.length = n * i.size) (hso : Src w B olds) (hl : news.length = m * i.size) (hs : Src w A news)
    (hg : cap < n + m) (hbytes : (n + m) * i.bytes ≤ 140737488355328) (h63 : n + m ≤ 9223372036854775807) :
    (Builtin.append_ #[t, u] ty #[.slice B n cap, .slice A m c2]).run P w =
      .ok (.slice (some ⟨w.heap.size, 0, none⟩) (n + m) (grownCap w (n + m) cap e))
        (w.drew.alloc (.cells (olds ++ news ++ (Builtin.zeroCells z.cells (grownCap w (n + m) cap e - (n + m))).toList).toArray e)) := by
  have hn : ¬ (n + m ≤ cap) := by omega
  have h63' : ¬ (9223372036854775807 < ((n : Int) + (m : Int))) := by omega
  have hfit := growslice_fits hg hbytes
  have h48' : ¬ (281474976710656 < Builtin.nextslicecap (n + m) cap * i.bytes) := by omega
  have hf := src_run (P := P) (w := w.drew) (c := c2) hl hs.drew
  have hfo := src_run (P := P) (w := w.drew) (c := cap) hlo hso.drew
  simp [Builtin.append_, run_underlying ht, run_underlying hu, sizeOf, typeInfo, zeroValue, hi, hz, Builtin.lenOf, hn, h63', h48', Question.forced, hf, hfo, newRow, grownCap]
  congr 2
  apply Array.ext'
  simp [List.append_assoc]

/-- Nothing is appended. -/
theorem app_none {t u e e2 ty : TypeId} {i : TypeInfo} (ht : P.underlying t = some (.slice e)) (hu : P.underlying u = some (.slice e2)) (hi : P.info? e = some i)
    {n cap c2 : Nat} {B A : Option Addr} (hc : n ≤ cap) :
    (Builtin.append_ #[t, u] ty #[.slice B n cap, .slice A 0 c2]).run P w = .ok (.slice B n cap) w := by
  have hf := src_run (P := P) (w := w) (A := A) (n := 0) (c := c2) (size := i.size) (cs := []) (by simp) (.inl rfl)
  cases B <;> simp [Builtin.append_, run_underlying ht, run_underlying hu, sizeOf, typeInfo, hi, Builtin.lenOf, hc, hf, storeCells]
end

section
variable {P : Program} {g : Gh} {w : World} {a : Act} {tm : List V}

/-- The cells of a slice, as a source. -/
theorem sl_src {A : Option Addr} {z : Nat} {cv : Nat → Value} {us : List V} (hzz : ∀ u ∈ us, u.cells.length = z)
    (hA : us ≠ [] → ∃ b o, A = some ⟨b, o, none⟩ ∧ ∀ j, j < us.length * z → g.fz b (o + j) ∧ w.cell? ⟨b, o + j, none⟩ = some (cv j) ∧ (cv j).oneCell' = true) :
    Src w A ((List.range (us.length * z)).map cv) ∧ ∀ v ∈ (List.range (us.length * z)).map cv, v.oneCell' = true := by
  by_cases hne : us = []
  · subst hne
    exact ⟨.inl (by simp), by simp⟩
  · obtain ⟨b, o, e, hc⟩ := hA hne
    refine ⟨.inr ⟨_, e, fun j v hj => ?_⟩, fun v hv => ?_⟩
    · rw [List.getElem?_map] at hj
      obtain ⟨k, hk, rfl⟩ := Option.map_eq_some_iff.1 hj
      obtain ⟨hlt, rfl⟩ := List.getElem?_eq_some_iff.1 hk
      simp only [List.getElem_range] at *
      simp only [List.length_range] at hlt
      rw [Addr.add_lit]
      exact (hc j hlt).2.1
    · obtain ⟨j, hj, rfl⟩ := List.mem_map.1 hv
      exact (hc j (List.mem_range.1 hj)).2.2

theorem rep_one {x : Value} {v : V} (h : Rep g w x v) (ho : x.oneCell' = true) : v.cells = [v] := by
  cases h with
  | agg xs cs hn h1 h => simp [Value.oneCell'] at ho
  | _ => rfl
theorem elems_ok {z : Option Nat} : ∀ {n : Nat} {cs us : List V}, (∀ c ∈ cs, c.cells = [c]) → elems z n cs = some us →
    us.length = n ∧ (∀ u ∈ us, u.cells.length = zc z) ∧ flats us = cs.take (n * zc z) ∧ n * zc z ≤ cs.length
  | 0, cs, us, hc, h => by
    simp only [elems, Option.some.injEq] at h
    subst h
    simp [flats]
  | n + 1, cs, us, hc, h => by
    simp only [elems] at h
    split at h
    · rename_i u us' h1 h2
      simp only [Option.some.injEq] at h
      subst h
      obtain ⟨k1, k2, k3, k4⟩ := elems_ok (fun c hm => hc c (List.mem_of_mem_drop hm)) h2
      have hu : u.cells.length = zc z ∧ zc z ≤ cs.length ∧ u.cells = cs.take (zc z) := by
        cases z with
        | none =>
          simp only [rdV] at h1
          cases cs with
          | nil => simp at h1
          | cons c r =>
            simp only [List.getElem?_cons_zero, Option.some.injEq] at h1
            subst h1
            have := hc c (by simp)
            rw [this]
            simp [zc]
        | some k =>
          simp only [rdV] at h1
          split at h1
          · rename_i hk
            simp only [Option.some.injEq] at h1
            subst h1
            refine ⟨?_, ?_, ?_⟩
            · simp only [V.cells, zc, List.drop_zero, List.length_take]; omega
            · simp only [zc]; omega
            · simp only [V.cells, zc, List.drop_zero]
          · cases h1
      obtain ⟨u1, u2, u3⟩ := hu
      simp only [List.length_drop] at k4
      refine ⟨by simp [k1], fun v hv => ?_, ?_, by rw [Nat.succ_mul]; omega⟩
      · rcases List.mem_cons.1 hv with rfl | hv
        · exact u1
        · exact k2 v hv
      · have e : flats (u :: us') = u.cells ++ flats us' := by simp [flats]
        rw [e, k3, u3, Nat.succ_mul, Nat.add_comm (n * zc z) (zc z), List.take_add]
    · cases h

/-- What is appended, as a source. -/
theorem src_ok {h : List O} (H : HOk g w h) {y : Value} {v : V} (hy : Rep g w y v) {ws : List V} (hs : srcV h v = some ws) : ∃ (A : Option Addr) (cap z : Nat) (cv : Nat → Value), y = .slice A ws.length cap ∧ (∀ u ∈ ws, u.cells.length = z) ∧
    Src w A ((List.range (ws.length * z)).map cv) ∧ (∀ v ∈ (List.range (ws.length * z)).map cv, v.oneCell' = true) ∧ ∀ j (hj : j < (flats ws).length), Rep g w (cv j) (flats ws)[j] := by
  unfold srcV at hs
  split at hs
  · simp only [Option.some.injEq] at hs
    subst hs
    obtain ⟨A2, cap2, z2, cw, hye, hcap2, hz2, hA2, hrw, hsj⟩ := hy.of_sl
    obtain ⟨sw, ow⟩ := sl_src hz2 hA2
    exact ⟨A2, cap2, z2, cw, hye, hz2, sw, ow, hrw⟩
  · rename_i id off n z
    split at hs
    · rename_i cs hcs
      cases hy with
      | row A _ cap _ _ _ hc hA =>
        by_cases hn : n = 0
        · subst hn
          simp only [elems, Option.some.injEq] at hs
          subst hs
          exact ⟨A, cap, 0, fun _ => undef, rfl, by simp, .inl (by simp), by simp, fun j hj => by simp [flats] at hj⟩
        · obtain ⟨b, rfl, hb⟩ := hA hn
          obtain ⟨cs0, c, T, h1, h2, h3, h4, h5⟩ := H.cellsOf hb hcs
          have hcs0 : cs0 = cs := by rw [hcs] at h1; simp at h1; exact h1.symm
          subst hcs0
          have hone : ∀ u ∈ cs0, u.cells = [u] := by
            intro u hu
            obtain ⟨j, hj, rfl⟩ := List.getElem_of_mem hu
            have := h4 j hj (by omega)
            exact rep_one this.1 this.2
          obtain ⟨k1, k2, k3, k4⟩ := elems_ok (fun u hu => hone u (List.mem_of_mem_drop hu)) hs
          simp only [List.length_drop] at k4
          subst k1
          have hj1 : ∀ j, j < ws.length * zc z → off + j < cs0.length := fun j hj => by omega
          refine ⟨_, cap, zc z, fun j => c.getD (off + j) undef, rfl, k2, .inr ⟨_, rfl, fun j v hj => ?_⟩, fun v hv => ?_, fun j hj => ?_⟩
          · rw [List.getElem?_map] at hj
            obtain ⟨k, hk, rfl⟩ := Option.map_eq_some_iff.1 hj
            obtain ⟨hlt, rfl⟩ := List.getElem?_eq_some_iff.1 hk
            simp only [List.getElem_range] at *
            simp only [List.length_range] at hlt
            have := hj1 j hlt
            have hlt2 : off + j < c.size := by omega
            rw [Addr.add_lit, cell_of h2]
            simp [Array.getD, hlt2]
          · obtain ⟨j, hj, rfl⟩ := List.mem_map.1 hv
            have := hj1 j (List.mem_range.1 hj)
            have hlt2 : off + j < c.size := by omega
            have h6 := (h4 (off + j) this hlt2).2
            simpa [Array.getD, hlt2] using h6
          · have hj' : j < ws.length * zc z := by rw [flats_length k2] at hj; exact hj
            have := hj1 j hj'
            have hlt2 : off + j < c.size := by omega
            have h6 := (h4 (off + j) this hlt2).1
            have e : (flats ws)[j] = cs0[off + j] := by
              have e1 : (flats ws)[j]? = (cs0.drop off)[j]? := by rw [k3, List.getElem?_take, if_pos hj']
              rw [List.getElem?_drop, List.getElem?_eq_getElem hj, List.getElem?_eq_getElem this] at e1
              exact Option.some.inj e1
            rw [e]
            simpa [Array.getD, hlt2] using h6
    · cases hs
  · cases hs

/-- Old cells and new ones, in one row at its head. -/
theorem joined {g' : Gh} {w' : World} (hle : Le g w g' w') {b z : Nat} {us ws : List V} {cu cw : Nat → Value} (hu : ∀ u ∈ us, u.cells.length = z) (hw : ∀ u ∈ ws, u.cells.length = z)
    (hru : ∀ j (hj : j < (flats us).length), Rep g w (cu j) (flats us)[j]) (hrw : ∀ j (hj : j < (flats ws).length), Rep g w (cw j) (flats ws)[j])
    (ou : ∀ v ∈ (List.range (us.length * z)).map cu, v.oneCell' = true) (ow : ∀ v ∈ (List.range (ws.length * z)).map cw, v.oneCell' = true)
    {cap : Nat} (hcap : us.length + ws.length ≤ cap)
    (hc : ∀ j v, (((List.range (us.length * z)).map cu) ++ ((List.range (ws.length * z)).map cw))[j]? = some v → w'.cell? ⟨b, j, none⟩ = some v)
    (hf : ∀ j, j < (us.length + ws.length) * z → g'.fz b j) {i : SI} (hi : SIok g' (some ⟨b, 0, none⟩) (us.length + ws.length) cap i) :
    Rep g' w' (.slice (some ⟨b, 0, none⟩) (us.length + ws.length) cap) (.sl (us ++ ws) i) := by
  have hall : ∀ u ∈ us ++ ws, u.cells.length = z := fun u h => (List.mem_append.1 h).elim (hu u) (hw u)
  let cs := ((List.range (us.length * z)).map cu) ++ ((List.range (ws.length * z)).map cw)
  have hcl : cs.length = (us.length + ws.length) * z := by simp [cs, Nat.add_mul]
  have hget : ∀ j, j < (us.length + ws.length) * z → cs[j]? = some (cs.getD j undef) := fun j hj => by
    rw [List.getD_eq_getElem?_getD, List.getElem?_eq_getElem (by rw [hcl]; exact hj)]; rfl
  have hone : ∀ j, j < (us.length + ws.length) * z → (cs.getD j undef).oneCell' = true := fun j hj => by
    have hm := List.mem_of_getElem? (hget j hj)
    rcases List.mem_append.1 hm with h1 | h1
    · exact ou _ h1
    · exact ow _ h1
  refine .sl _ _ _ _ _ z (fun j => cs.getD j undef) (by simp) hcap hall (fun _ => ⟨b, 0, rfl, fun j hj => ?_⟩) (fun j hj => ?_) hi
  · rw [List.length_append] at hj
    rw [Nat.zero_add]
    exact ⟨hf j hj, hc j _ (hget j hj), hone j hj⟩
  · have hj' := hj
    rw [flats_length hall, List.length_append] at hj'
    have hlu := flats_length hu
    have hlw := flats_length hw
    show Rep g' w' (cs.getD j undef) _
    obtain ⟨q, hq⟩ : ∃ q, q = (flats (us ++ ws))[j] := ⟨_, rfl⟩
    have e1 : (flats (us ++ ws))[j]? = some q := by rw [hq]; exact List.getElem?_eq_getElem hj
    rw [flats_append, List.getElem?_append, hlu] at e1
    rw [← hq]
    have e2 := hget j hj'
    simp only [cs] at e2
    rw [List.getElem?_append] at e2
    simp only [List.length_map, List.length_range] at e2
    by_cases c1 : j < us.length * z
    · simp only [c1, if_true] at e1 e2
      rw [List.getElem?_map, List.getElem?_range c1] at e2
      simp only [Option.map_some, Option.some.injEq] at e2
      obtain ⟨hlt, e3⟩ := List.getElem?_eq_some_iff.1 e1
      rw [← e2, ← e3]
      exact (hru j hlt).mono hle
    · simp only [c1, if_false] at e1 e2
      have c2 : j - us.length * z < ws.length * z := by rw [Nat.add_mul] at hj'; omega
      rw [List.getElem?_map, List.getElem?_range c2] at e2
      simp only [Option.map_some, Option.some.injEq] at e2
      obtain ⟨hlt, e3⟩ := List.getElem?_eq_some_iff.1 e1
      rw [← e2, ← e3]
      exact (hrw _ hlt).mono hle
end

/-- What an operation does. -/
def ActOk (P : Program) (g : Gh) (w : World) (a : Act) (o : Oper) (E : Nat → Prop) (h : List O) (v : V) (h' : List O) : Prop :=
  ∃ val w' g', ((execOp a.eval o).run P w = .ok (.value val) w' ∨ ((execOp a.eval o).run P w = .ok .skip w' ∧ val = undef)) ∧ Le g w g' w' ∧ HOk g' w' h' ∧ Rep g' w' val v ∧ Quiet E g h g' h'

theorem ActOk.mono {P : Program} {g : Gh} {w : World} {a : Act} {o : Oper} {E E' : Nat → Prop} {h h' : List O} {v : V} (k : ActOk P g w a o E h v h') (hE : ∀ id, E id → E' id) : ActOk P g w a o E' h v h' := by
  obtain ⟨val, w', g', h1, h2, h3, h4, h5⟩ := k
  exact ⟨val, w', g', h1, h2, h3, h4, h5.mono hE⟩
theorem freeSlot_spec (h : List O) (b d : Nat) : freeSlot h b d = d ∨ h[freeSlot h b d]? = some .free := by
  unfold freeSlot
  cases e : (List.range b).find? fun i => isFree h[i]? with
  | none => exact .inl rfl
  | some i =>
    have := List.find?_some e
    simp only [Option.getD_some]
    cases e2 : h[i]? with
    | none => rw [e2] at this; simp [isFree] at this
    | some o =>
      rw [e2] at this
      cases o <;> simp [isFree] at this
      exact .inr rfl
theorem HOk.free_none {g : Gh} {w : World} {h : List O} (H : HOk g w h) {s : Nat} (e : h[s]? = some .free) : g.blk s = none ∧ g.tok s = none := by
  refine ⟨?_, ?_⟩
  · cases e1 : g.blk s with
    | none => rfl
    | some b =>
      rcases H.obj _ _ e1 with ⟨cs, _, _, e2, _⟩ | ⟨s, L, e2, _⟩ | ⟨ks, vs, es, ck, e2, _⟩ <;> rw [e] at e2 <;> simp at e2
  · cases e1 : g.tok s with
    | none => rfl
    | some p =>
      obtain ⟨b, n, c⟩ := p
      obtain ⟨z, cc, T, e2, _⟩ := H.tok _ _ _ _ e1
      rcases e2 with e2 | ⟨cs, e2, _⟩ <;> rw [e] at e2 <;> simp at e2

section
variable {P : Program} {g : Gh} {w : World} {a : Act}

theorem PureOk.act {o : Oper} {v : V} (h : PureOk P g w a o v) {hs : List O} (H : HOk g w hs) (E : Nat → Prop) : ActOk P g w a o E hs v hs := by
  obtain ⟨r, h1, h2⟩ := h
  exact ⟨r, w, g, .inl h1, Le.refl _ _, H, h2, Quiet.refl _ _ _⟩

theorem append_tsl {o : Oper} {t u e e2 : TypeId} {X Y : Operand} (ho : o.op = .call ⟨.builtin .append, #[X, Y], #[t, u]⟩) (hu1 : P.underlying t = some (.slice e)) (hu2 : P.underlying u = some (.slice e2)) {i : TypeInfo} (hi : P.info? e = some i) {zv : Value} (hz0 : i.zero = some zv) (hzs : zv.cells.size = i.size) {zn : Option Nat} (hzi : zc zn = i.size)
    {x' y' : A} {al : Nat} {rw : Bool} {st : St} (hx : Rep g w (a.eval X) (ev st.tm x')) {k n : Nat} {zz : Option Nat} (hex : ev st.tm x' = .tsl k n zz) (hy : Rep g w (a.eval Y) (ev st.tm y')) (H : HOk g w st.h) {v : V} {h' : List O}
    {cf : CallF} (hact : act cf st (.append al zn i.bytes rw x' y') = some (v, h')) :
    ActOk P g w a o (fun id => id = st.rb + al) st.h v h' := by
  simp only [act] at hact
  rw [hex] at hx hact
  obtain ⟨ws, hey⟩ : ∃ ws, srcV st.h (ev st.tm y') = some ws := by
    cases hey : srcV st.h (ev st.tm y') with
    | some ws => exact ⟨ws, rfl⟩
    | none => rw [hey] at hact; simp at hact
  rw [hey, hzi] at hact
  simp only at hact
  split at hact
  rotate_left
  · cases hact
  rename_i hcond
  obtain ⟨_, rfl, hbytes, hmany, hzw⟩ := hcond
  obtain ⟨A2, cap2, z2, cw, hye, hz2, sw, ow, hrw⟩ := src_ok H hy hey
  have hx0 := hx
  generalize hX : a.eval X = xv at hx
  cases hx with
  | tsl A _ cap _ _ hcap hA hT =>
  rw [hX] at hx0
  have hrun : ∀ r w', (Builtin.append_ #[t, u] o.type #[.slice A n cap, .slice A2 ws.length cap2]).run P w = .ok r w' → (execOp a.eval o).run P w = .ok (.value r) w' := by
    intro r w' hr
    simp only [execOp, ho, resolve, invoke, builtin, Sem.run_bind, Sem.run_pure, Result.andThen_ok, List.map_toArray, List.map_cons, List.map_nil, hX, hye]
    rw [hr]
    rfl
  cases ws with
  | nil =>
    simp only [Option.some.injEq, Prod.mk.injEq] at hact
    obtain ⟨rfl, rfl⟩ := hact
    exact ⟨.slice A n cap, w, g, .inl (hrun _ _ (app_none hu1 hu2 hi hcap)), Le.refl _ _, H, hx0, Quiet.refl _ _ _⟩
  | cons w0 wr =>
    have hz2' : z2 = i.size := hz_all hzw hz2 (by simp)
    subst hz2'
    simp only at hact
    split at hact
    rotate_left
    · cases hact
    rename_i m z1 cs hk
    split at hact
    rotate_left
    · cases hact
    rename_i hmz
    obtain ⟨rfl, rfl⟩ := hmz
    simp only [Option.some.injEq, Prod.mk.injEq] at hact
    obtain ⟨rfl, rfl⟩ := hact
    obtain ⟨b, l, c, hkt, hnl, hlat⟩ := hT
    obtain ⟨z0, c0, T0, h1, h2, h3, h4, h5⟩ := H.tok _ _ _ _ hkt
    have hl0 : (l = m ∧ z0 = i.size) ∧ cs.length = m * i.size ∧ ∀ j (hj : j < cs.length) (hc : j < c0.size), Rep g w c0[j] cs[j] ∧ (c0[j]).oneCell' = true := by
      rcases h1 with h1 | ⟨cs1, h1, h6, h7, h8⟩ <;> rw [hk] at h1
      · simp at h1
      · simp only [Option.some.injEq, O.tokc.injEq] at h1
        obtain ⟨rfl, rfl, rfl⟩ := h1
        exact ⟨⟨rfl, rfl⟩, h6, h7⟩
    obtain ⟨⟨rfl, rfl⟩, hcs, hrep⟩ := hl0
    obtain ⟨rfl, rfl⟩ := hlat rfl
    have hbn : g.blk k = none := by
      cases hbk : g.blk k with
      | none => rfl
      | some b' =>
        exact absurd hk (H.not_tokc hbk)
    have hfw := flats_length hz2
    have hln : ((List.range ((w0 :: wr).length * i.size)).map cw).length = (w0 :: wr).length * i.size := by simp
    have hcl : cs.length ≤ c0.size := by rw [hcs]; exact Nat.le_trans (Nat.mul_le_mul_right _ h3) h4
    have hcsl : (cs ++ flats (w0 :: wr)).length = (l + (w0 :: wr).length) * i.size := by rw [List.length_append, hcs, hfw, Nat.add_mul]
    have hpos : 0 < (w0 :: wr).length := by simp
    -- what the new cells are
    have cells : ∀ (c' : List Value) (hpre : ∀ (j : Nat) (v : Value), (c0.toList.take (l * i.size) ++ (List.range ((w0 :: wr).length * i.size)).map cw)[j]? = some v → c'[j]? = some v),
        ∀ j (hj : j < (cs ++ flats (w0 :: wr)).length) (hk : j < c'.toArray.size), Rep g w c'.toArray[j] (cs ++ flats (w0 :: wr))[j] ∧ (c'.toArray[j]).oneCell' = true := by
      intro c' hpre j hj hk
      have htl : (c0.toList.take (l * i.size)).length = l * i.size := by simp; omega
      by_cases c1 : j < cs.length
      · have hj0 : j < c0.size := by omega
        have e1 : (c0.toList.take (l * i.size) ++ (List.range ((w0 :: wr).length * i.size)).map cw)[j]? = some c0[j] := by
          rw [List.getElem?_append_left (by omega), List.getElem?_take, if_pos (by omega)]
          simp [hj0]
        have e2 := hpre j _ e1
        have e3 : c'.toArray[j] = c0[j] := by
          have : c'[j]? = some (c'.toArray[j]) := by simp
          rw [this] at e2
          exact Option.some.inj e2
        rw [e3, List.getElem_append_left c1]
        exact hrep j c1 hj0
      · have hjw : j - cs.length < (w0 :: wr).length * i.size := by rw [List.length_append, hfw] at hj; omega
        have e1 : (c0.toList.take (l * i.size) ++ (List.range ((w0 :: wr).length * i.size)).map cw)[j]? = some (cw (j - cs.length)) := by
          rw [List.getElem?_append_right (by omega), htl, ← hcs, List.getElem?_map, List.getElem?_range hjw]
          rfl
        have e2 := hpre j _ e1
        have e3 : c'.toArray[j] = cw (j - cs.length) := by
          have : c'[j]? = some (c'.toArray[j]) := by simp
          rw [this] at e2
          exact Option.some.inj e2
        rw [e3, List.getElem_append_right (by omega)]
        exact ⟨hrw _ _, ow _ (List.mem_map.2 ⟨_, List.mem_range.2 hjw, rfl⟩)⟩
    by_cases hroom : l + (w0 :: wr).length ≤ cap
    · have hfit : l * i.size + ((List.range ((w0 :: wr).length * i.size)).map cw).length ≤ c0.size := by
        rw [hln, ← Nat.add_mul]
        exact Nat.le_trans (Nat.mul_le_mul_right _ hroom) h4
      have hr := app_fit (P := P) (w := w) (ty := o.type) (c2 := cap2) hu1 hu2 hi h2 hln sw ow hroom hfit
      have hsz : (c0.toList.take (l * i.size) ++ ((List.range ((w0 :: wr).length * i.size)).map cw) ++ c0.toList.drop (l * i.size + ((List.range ((w0 :: wr).length * i.size)).map cw).length)).length = c0.size := by
        simp only [List.length_append, List.length_take, List.length_drop, Array.length_toList]
        omega
      obtain ⟨hle, hok⟩ := H.growRowC hkt hk (n' := l + (w0 :: wr).length) (by omega) hroom h2 (c' := (c0.toList.take (l * i.size) ++ ((List.range ((w0 :: wr).length * i.size)).map cw) ++ c0.toList.drop (l * i.size + ((List.range ((w0 :: wr).length * i.size)).map cw).length)).toArray) (by simpa using hsz) hcsl
        (cells _ fun j v hj => by rw [List.getElem?_append_left (List.getElem?_eq_some_iff.1 hj).1]; exact hj)
      refine ⟨_, _, _, .inl (hrun _ _ hr), hle, hok, .tsl _ _ _ _ _ hroom (fun _ => ⟨_, rfl⟩) ⟨b, l + (w0 :: wr).length, _, by simp [Gh.setTok], Nat.le_refl _, fun _ => ⟨rfl, rfl⟩⟩, fun id _ => ?_⟩
      refine ⟨fun h => h, fun h => ?_, fun hb ht => ?_⟩
      · by_cases hid : id = k
        · rw [hid, hkt] at h; cases h
        · simp [Gh.setTok, hid, h]
      · by_cases hid : id = k
        · rw [hid, hkt] at ht; cases ht
        · rw [List.getElem?_set_ne (Ne.symm hid)]
    · have hgc : cap < l + (w0 :: wr).length := by omega
      have su : Src w (some ⟨b, 0, none⟩) (c0.toList.take (l * i.size)) := by
        refine .inr ⟨_, rfl, fun j v hj => ?_⟩
        rw [Addr.add_lit, Nat.zero_add, cell_of h2]
        rw [List.getElem?_take] at hj
        split at hj
        · simpa using hj
        · cases hj
      have hlo : (c0.toList.take (l * i.size)).length = l * i.size := by simp; omega
      have hr := app_grow (P := P) (w := w) (ty := o.type) (c2 := cap2) hu1 hu2 hi hz0 hlo su hln sw hgc hbytes (by omega)
      have hgcap := grownCap_ge w (l + (w0 :: wr).length) cap e
      obtain ⟨hle, hok⟩ := H.newRowC (z := i.size) (List.getElem?_eq_some_iff.1 hk).1 hbn (fun b' n' c' h => by rw [hkt] at h; simp at h; omega) (Grew.drewAlloc w (.cells ((c0.toList.take (l * i.size)) ++ ((List.range ((w0 :: wr).length * i.size)).map cw) ++ (Builtin.zeroCells zv.cells (grownCap w (l + (w0 :: wr).length) cap e - (l + (w0 :: wr).length))).toList).toArray e)) hgcap
        (by simp only [List.size_toArray, List.length_append, hlo, hln, Array.length_toList, size_zeroCells, hzs, ← Nat.add_mul]; exact Nat.mul_le_mul_right _ (by omega)) hcsl
        (cells _ fun j v hj => by rw [List.getElem?_append_left (List.getElem?_eq_some_iff.1 hj).1]; exact hj)
      refine ⟨_, _, _, .inl (hrun _ _ hr), hle, hok, .tsl _ _ _ _ _ hgcap (fun _ => ⟨_, rfl⟩) ⟨w.heap.size, l + (w0 :: wr).length, _, by simp [Gh.setTok], Nat.le_refl _, fun _ => ⟨rfl, rfl⟩⟩, fun id _ => ?_⟩
      refine ⟨fun h => h, fun h => ?_, fun hb ht => ?_⟩
      · by_cases hid : id = k
        · rw [hid, hkt] at h; cases h
        · simp [Gh.setTok, hid, h]
      · by_cases hid : id = k
        · rw [hid, hkt] at ht; cases ht
        · rw [List.getElem?_set_ne (Ne.symm hid)]

theorem append_ok {o : Oper} {args : Array Operand} {t u : TypeId} {X Y : Operand} (ho : o.op = .call ⟨.builtin .append, #[X, Y], #[t, u]⟩) {al : Nat} {x : XOp} {pre : List O} {rw : Bool} (htr : trApp P rw al t u X Y = some (x, pre))
    {st : St} (ht : Tm g w a st.tm) (H : HOk g w st.h) {cf : CallF} {v : V} {h' : List O} (hact : act cf st x = some (v, h')) (hsl : g.blk (st.rb + al) = none ∧ g.tok (st.rb + al) = none) :
    ActOk P g w a o (fun id => id = st.rb + al ∨ st.h[id]? = some .free) st.h v h' := by
  unfold trApp at htr
  split at htr
  · rename_i e e2 x' y' hu1 hu2 hx' hy'
    split at htr
    · rename_i i zz zn hi hzz hzn
      split at htr
      rotate_left
      · cases htr
      rename_i hzi
      simp only [Option.some.injEq, Prod.mk.injEq] at htr
      obtain ⟨rfl, rfl⟩ := htr
      obtain ⟨zv, i', hi', hz0, hzs, _, _⟩ := zero_ok (P := P) (g := g) (w := w) hzz
      have hii : i' = i := by rw [hi] at hi'; exact (Option.some.inj hi').symm
      subst hii
      have hx := ev_rep ht hx'
      have hy := ev_rep ht hy'
      have hact0 := hact
      simp only [act] at hact
      obtain ⟨us, si, hex⟩ | ⟨k, n, zz', hex⟩ : (∃ us si, ev st.tm x' = .sl us si) ∨ ∃ k n zz', ev st.tm x' = .tsl k n zz' := by
        cases hex : ev st.tm x' with
        | sl us si => exact .inl ⟨us, si, rfl⟩
        | tsl k n zz' => exact .inr ⟨k, n, zz', rfl⟩
        | _ => rw [hex] at hact; simp at hact
      rotate_left
      · exact (append_tsl ho hu1 hu2 hi hz0 hzs hzi hx hex hy H hact0).mono fun _ h => .inl h
      obtain ⟨ws, hey⟩ : ∃ ws, srcV st.h (ev st.tm y') = some ws := by
        cases hey : srcV st.h (ev st.tm y') with
        | some ws => exact ⟨ws, rfl⟩
        | none => rw [hex, hey] at hact; simp at hact
      · rw [hex] at hx hact
        rw [hey, hzi] at hact
        simp only at hact
        split at hact
        · rename_i hcond
          obtain ⟨hbytes, hmany, hzu, hzw⟩ := hcond
          obtain ⟨A, cap, z1, cu, hxe, hcap, hz1, hA, hru, hsi⟩ := hx.of_sl
          obtain ⟨A2, cap2, z2, cw, hye, hz2, sw, ow, hrw⟩ := src_ok H hy hey
          have hrun : ∀ r w', (Builtin.append_ #[t, u] o.type #[.slice A us.length cap, .slice A2 ws.length cap2]).run P w = .ok r w' → (execOp a.eval o).run P w = .ok (.value r) w' := by
            intro r w' hr
            simp only [execOp, ho, resolve, invoke, builtin, Sem.run_bind, Sem.run_pure, Result.andThen_ok, List.map_toArray, List.map_cons, List.map_nil, hxe, hye]
            rw [hr]
            rfl
          cases ws with
          | nil =>
            simp only [Option.some.injEq, Prod.mk.injEq] at hact
            obtain ⟨rfl, rfl⟩ := hact
            refine ⟨.slice A us.length cap, w, g, .inl (hrun _ _ (app_none hu1 hu2 hi hcap)), Le.refl _ _, H, ?_, Quiet.refl _ _ _⟩
            rw [← hxe]; exact hx
          | cons w0 wr =>
            have hz2' : z2 = i'.size := hz_all hzw hz2 (by simp)
            subst hz2'
            -- the old cells have this size, too
            obtain ⟨hz1', hA'⟩ : (∀ q ∈ us, q.cells.length = i'.size) ∧ (us ≠ [] → ∃ b o, A = some ⟨b, o, none⟩ ∧ ∀ j, j < us.length * i'.size → g.fz b (o + j) ∧ w.cell? ⟨b, o + j, none⟩ = some (cu j) ∧ (cu j).oneCell' = true) := by
              by_cases hne : us = []
              · subst hne; exact ⟨by simp, fun h => absurd rfl h⟩
              · have := hz_all hzu hz1 hne
                subst this
                exact ⟨hz1, hA⟩
            obtain ⟨su, ou⟩ := sl_src hz1' hA'
            have hlo : ((List.range (us.length * i'.size)).map cu).length = us.length * i'.size := by simp
            have hln : ((List.range ((w0 :: wr).length * i'.size)).map cw).length = (w0 :: wr).length * i'.size := by simp
            -- a new block
            have grows : cap < us.length + (w0 :: wr).length → ∀ (k : Nat) (hk : k < st.h.length) (hbk : g.blk k = none) (hold : ∀ b' n' c', g.tok k = some (b', n', c') → n' < us.length + (w0 :: wr).length),
                ∃ val w' g', (execOp a.eval o).run P w = .ok (.value val) w' ∧ Le g w g' w' ∧ HOk g' w' (st.h.set k (.tok (us.length + (w0 :: wr).length) i'.size)) ∧ Rep g' w' val (.sl (us ++ (w0 :: wr)) (.tok k)) ∧ Quiet (fun id => id = k) g st.h g' (st.h.set k (.tok (us.length + (w0 :: wr).length) i'.size)) := by
              intro hgc k hk hbk hold
              have hr := app_grow (P := P) (w := w) (ty := o.type) (c2 := cap2) hu1 hu2 hi hz0 hlo su hln sw hgc hbytes (by omega)
              have hgcap := grownCap_ge w (us.length + (w0 :: wr).length) cap e
              obtain ⟨hle, hok⟩ := H.newRow (z := i'.size) hk hbk hold (Grew.drewAlloc w (.cells (((List.range (us.length * i'.size)).map cu) ++ ((List.range ((w0 :: wr).length * i'.size)).map cw) ++ (Builtin.zeroCells zv.cells (grownCap w (us.length + (w0 :: wr).length) cap e - (us.length + (w0 :: wr).length))).toList).toArray e)) hgcap
                (by simp only [List.size_toArray, List.length_append, hlo, hln, Array.length_toList, size_zeroCells, hzs, ← Nat.add_mul]; exact Nat.mul_le_mul_right _ (by omega))
              refine ⟨_, _, _, hrun _ _ hr, hle, hok, ?_, ?_⟩
              · refine joined hle hz1' hz2 hru hrw ou ow hgcap (fun j v hj => ?_) (fun j hj => .inr ⟨rfl, hj⟩) ⟨w.heap.size, us.length + (w0 :: wr).length, _, by simp [Gh.setTok], Nat.le_refl _, fun _ => ⟨rfl, rfl⟩⟩
                rw [cell_of (Grew.new (Grew.drewAlloc w _))]
                rw [List.getElem?_toArray, List.getElem?_append_left]
                · exact hj
                · exact (List.getElem?_eq_some_iff.1 hj).1
              · intro id hid
                exact ⟨fun h => h, fun h => by simp [Gh.setTok, hid, h], fun _ _ => by rw [List.getElem?_set_ne (Ne.symm hid)]⟩
            have fresh : ∀ b, cap < us.length + (w0 :: wr).length → st.h[st.rb + al]? = some b → some (V.sl (us ++ (w0 :: wr)) (.tok (st.rb + al)), st.h.set (st.rb + al) (.tok (us.length + (w0 :: wr).length) i'.size)) = some (v, h') →
                ActOk P g w a o (fun id => id = st.rb + al ∨ st.h[id]? = some .free) st.h v h' := by
              intro b hgc hdead hact
              simp only [Option.some.injEq, Prod.mk.injEq] at hact
              obtain ⟨rfl, rfl⟩ := hact
              obtain ⟨val, w', g', q1, q2, q3, q4, q5⟩ := grows hgc (st.rb + al) (List.getElem?_eq_some_iff.1 hdead).1 hsl.1 (fun b' n' c' h => by rw [hsl.2] at h; cases h)
              exact ⟨val, w', g', .inl q1, q2, q3, q4, q5.mono fun _ h => .inl h⟩
            have freshW : cap < us.length + (w0 :: wr).length → st.h[st.rb + al]? = some .want → some (V.sl (us ++ (w0 :: wr)) (.tok (freeSlot st.h st.base (st.rb + al))), st.h.set (freeSlot st.h st.base (st.rb + al)) (.tok (us.length + (w0 :: wr).length) i'.size)) = some (v, h') →
                ActOk P g w a o (fun id => id = st.rb + al ∨ st.h[id]? = some .free) st.h v h' := by
              intro hgc hwant hact
              simp only [Option.some.injEq, Prod.mk.injEq] at hact
              obtain ⟨rfl, rfl⟩ := hact
              rcases freeSlot_spec st.h st.base (st.rb + al) with hs | hs
              · rw [hs]
                obtain ⟨val, w', g', q1, q2, q3, q4, q5⟩ := grows hgc (st.rb + al) (List.getElem?_eq_some_iff.1 hwant).1 hsl.1 (fun b' n' c' h => by rw [hsl.2] at h; cases h)
                exact ⟨val, w', g', .inl q1, q2, q3, q4, q5.mono fun _ h => .inl h⟩
              · obtain ⟨n1, n2⟩ := H.free_none hs
                obtain ⟨val, w', g', q1, q2, q3, q4, q5⟩ := grows hgc _ (List.getElem?_eq_some_iff.1 hs).1 n1 (fun b' n' c' h => by rw [n2] at h; cases h)
                exact ⟨val, w', g', .inl q1, q2, q3, q4, q5.mono fun id h => .inr (by rw [h]; exact hs)⟩
            have freshR : ∀ b, cap < us.length + (w0 :: wr).length → st.h[st.rb + al]? = some b → some (V.row (st.rb + al) 0 (us.length + (w0 :: wr).length) zn, st.h.set (st.rb + al) (.cells (flats (us ++ (w0 :: wr))))) = some (v, h') →
                ActOk P g w a o (fun id => id = st.rb + al ∨ st.h[id]? = some .free) st.h v h' := by
              intro b hgc hdead hact
              simp only [Option.some.injEq, Prod.mk.injEq] at hact
              obtain ⟨rfl, rfl⟩ := hact
              have hr := app_grow (P := P) (w := w) (ty := o.type) (c2 := cap2) hu1 hu2 hi hz0 hlo su hln sw hgc hbytes (by omega)
              have hgcap := grownCap_ge w (us.length + (w0 :: wr).length) cap e
              have hfl : (flats (us ++ (w0 :: wr))).length = (us.length + (w0 :: wr).length) * i'.size := by
                rw [flats_length (z := i'.size) fun q hq => (List.mem_append.1 hq).elim (hz1' q) (hz2 q), List.length_append]
              have hfu := flats_length hz1'
              have hfw := flats_length hz2
              obtain ⟨hle, hok⟩ := H.newCells (List.getElem?_eq_some_iff.1 hdead).1 hsl.1 hsl.2 (cs := flats (us ++ (w0 :: wr))) (Grew.drewAlloc w (.cells (((List.range (us.length * i'.size)).map cu) ++ ((List.range ((w0 :: wr).length * i'.size)).map cw) ++ (Builtin.zeroCells zv.cells (grownCap w (us.length + (w0 :: wr).length) cap e - (us.length + (w0 :: wr).length))).toList).toArray e))
                (by rw [hfl]; simp only [List.size_toArray, List.length_append, hlo, hln, Array.length_toList, size_zeroCells, hzs, ← Nat.add_mul]; exact Nat.mul_le_mul_right _ (by omega))
                (fun j hj hk => by
                  rw [hfl, Nat.add_mul] at hj
                  obtain ⟨q, hq⟩ : ∃ q, q = (flats (us ++ (w0 :: wr)))[j]'(by rw [hfl, Nat.add_mul]; exact hj) := ⟨_, rfl⟩
                  have e1 : (flats (us ++ (w0 :: wr)))[j]? = some q := by rw [hq]; exact List.getElem?_eq_getElem _
                  rw [← hq]
                  rw [List.getElem_toArray]
                  obtain ⟨p, hp⟩ : ∃ p, p = (((List.range (us.length * i'.size)).map cu) ++ ((List.range ((w0 :: wr).length * i'.size)).map cw) ++ (Builtin.zeroCells zv.cells (grownCap w (us.length + (w0 :: wr).length) cap e - (us.length + (w0 :: wr).length))).toList)[j]'(by simpa using hk) := ⟨_, rfl⟩
                  have e2 : (((List.range (us.length * i'.size)).map cu) ++ ((List.range ((w0 :: wr).length * i'.size)).map cw) ++ (Builtin.zeroCells zv.cells (grownCap w (us.length + (w0 :: wr).length) cap e - (us.length + (w0 :: wr).length))).toList)[j]? = some p := by rw [hp]; exact List.getElem?_eq_getElem _
                  rw [← hp]
                  rw [List.getElem?_append_left (by simp only [List.length_append, hlo, hln]; exact hj), List.getElem?_append, hlo] at e2
                  rw [flats_append, List.getElem?_append, hfu] at e1
                  by_cases c1 : j < us.length * i'.size
                  · simp only [c1, if_true] at e1 e2
                    have hm := ou _ (List.mem_of_getElem? e2)
                    rw [List.getElem?_map, List.getElem?_range c1] at e2
                    simp only [Option.map_some, Option.some.injEq] at e2
                    obtain ⟨hlt, e3⟩ := List.getElem?_eq_some_iff.1 e1
                    rw [← e3]
                    exact ⟨by rw [← e2]; exact hru j hlt, hm⟩
                  · simp only [c1, if_false] at e1 e2
                    have hm := ow _ (List.mem_of_getElem? e2)
                    rw [List.getElem?_map, List.getElem?_range (by omega)] at e2
                    simp only [Option.map_some, Option.some.injEq] at e2
                    obtain ⟨hlt, e3⟩ := List.getElem?_eq_some_iff.1 e1
                    rw [← e3]
                    exact ⟨by rw [← e2]; exact hrw _ hlt, hm⟩)
              refine ⟨_, _, _, .inl (hrun _ _ hr), hle, hok, .row _ _ _ _ _ _ hgcap fun _ => ⟨w.heap.size, rfl, by simp [Gh.setBlk]⟩, Quiet.mono (E := fun id => id = st.rb + al) (fun id hid => ?_) fun _ h => .inl h⟩
              exact ⟨fun h => by simp [Gh.setBlk, hid, h], fun h => h, fun _ _ => by rw [List.getElem?_set_ne (Ne.symm hid)]⟩
            have freshC : ∀ b, cap < us.length + (w0 :: wr).length → st.h[st.rb + al]? = some b → some (V.tsl (st.rb + al) (us.length + (w0 :: wr).length) zn, st.h.set (st.rb + al) (.tokc (us.length + (w0 :: wr).length) i'.size (flats (us ++ (w0 :: wr))))) = some (v, h') →
                ActOk P g w a o (fun id => id = st.rb + al ∨ st.h[id]? = some .free) st.h v h' := by
              intro b hgc hdead hact
              simp only [Option.some.injEq, Prod.mk.injEq] at hact
              obtain ⟨rfl, rfl⟩ := hact
              have hr := app_grow (P := P) (w := w) (ty := o.type) (c2 := cap2) hu1 hu2 hi hz0 hlo su hln sw hgc hbytes (by omega)
              have hgcap := grownCap_ge w (us.length + (w0 :: wr).length) cap e
              have hfl : (flats (us ++ (w0 :: wr))).length = (us.length + (w0 :: wr).length) * i'.size := by
                rw [flats_length (z := i'.size) fun q hq => (List.mem_append.1 hq).elim (hz1' q) (hz2 q), List.length_append]
              have hfu := flats_length hz1'
              have hfw := flats_length hz2
              obtain ⟨hle, hok⟩ := H.newRowC (z := i'.size) (List.getElem?_eq_some_iff.1 hdead).1 hsl.1 (fun b' n' c' h => by rw [hsl.2] at h; cases h) (Grew.drewAlloc w (.cells (((List.range (us.length * i'.size)).map cu) ++ ((List.range ((w0 :: wr).length * i'.size)).map cw) ++ (Builtin.zeroCells zv.cells (grownCap w (us.length + (w0 :: wr).length) cap e - (us.length + (w0 :: wr).length))).toList).toArray e))
                hgcap (by simp only [List.size_toArray, List.length_append, hlo, hln, Array.length_toList, size_zeroCells, hzs, ← Nat.add_mul]; exact Nat.mul_le_mul_right _ (by omega))
                hfl (fun j hj hk => by
                  rw [hfl, Nat.add_mul] at hj
                  obtain ⟨q, hq⟩ : ∃ q, q = (flats (us ++ (w0 :: wr)))[j]'(by rw [hfl, Nat.add_mul]; exact hj) := ⟨_, rfl⟩
                  have e1 : (flats (us ++ (w0 :: wr)))[j]? = some q := by rw [hq]; exact List.getElem?_eq_getElem _
                  rw [← hq]
                  rw [List.getElem_toArray]
                  obtain ⟨p, hp⟩ : ∃ p, p = (((List.range (us.length * i'.size)).map cu) ++ ((List.range ((w0 :: wr).length * i'.size)).map cw) ++ (Builtin.zeroCells zv.cells (grownCap w (us.length + (w0 :: wr).length) cap e - (us.length + (w0 :: wr).length))).toList)[j]'(by simpa using hk) := ⟨_, rfl⟩
                  have e2 : (((List.range (us.length * i'.size)).map cu) ++ ((List.range ((w0 :: wr).length * i'.size)).map cw) ++ (Builtin.zeroCells zv.cells (grownCap w (us.length + (w0 :: wr).length) cap e - (us.length + (w0 :: wr).length))).toList)[j]? = some p := by rw [hp]; exact List.getElem?_eq_getElem _
                  rw [← hp]
                  rw [List.getElem?_append_left (by simp only [List.length_append, hlo, hln]; exact hj), List.getElem?_append, hlo] at e2
                  rw [flats_append, List.getElem?_append, hfu] at e1
                  by_cases c1 : j < us.length * i'.size
                  · simp only [c1, if_true] at e1 e2
                    have hm := ou _ (List.mem_of_getElem? e2)
                    rw [List.getElem?_map, List.getElem?_range c1] at e2
                    simp only [Option.map_some, Option.some.injEq] at e2
                    obtain ⟨hlt, e3⟩ := List.getElem?_eq_some_iff.1 e1
                    rw [← e3]
                    exact ⟨by rw [← e2]; exact hru j hlt, hm⟩
                  · simp only [c1, if_false] at e1 e2
                    have hm := ow _ (List.mem_of_getElem? e2)
                    rw [List.getElem?_map, List.getElem?_range (by omega)] at e2
                    simp only [Option.map_some, Option.some.injEq] at e2
                    obtain ⟨hlt, e3⟩ := List.getElem?_eq_some_iff.1 e1
                    rw [← e3]
                    exact ⟨by rw [← e2]; exact hrw _ hlt, hm⟩)
              refine ⟨_, _, _, .inl (hrun _ _ hr), hle, hok, .tsl _ _ _ _ _ hgcap (fun _ => ⟨_, rfl⟩) ⟨w.heap.size, us.length + (w0 :: wr).length, _, by simp [Gh.setTok], Nat.le_refl _, fun _ => ⟨rfl, rfl⟩⟩, Quiet.mono (E := fun id => id = st.rb + al) (fun id hid => ?_) fun _ h => .inl h⟩
              exact ⟨fun h => h, fun h => by simp [Gh.setTok, hid, h], fun _ _ => by rw [List.getElem?_set_ne (Ne.symm hid)]⟩
            have hpos : 0 < (w0 :: wr).length := by simp
            cases si with
            | any => simp at hact
            | isn => simp at hact
            | nz => simp at hact
            | nil =>
              simp only at hact
              split at hact
              · rename_i hdead
                split at hact
                · split at hact
                  · exact freshR _ (by have h0 : cap = 0 := hsi.2; simp only [List.length_nil] at *; omega) hdead hact
                  · exact freshC _ (by have h0 : cap = 0 := hsi.2; omega) hdead hact
                · exact fresh _ (by have h0 : cap = 0 := hsi.2; omega) hdead hact
              · rename_i hwant
                split at hact
                · cases hact
                · exact freshW (by have h0 : cap = 0 := hsi.2; omega) hwant hact
              · cases hact
            | full =>
              simp only at hact
              split at hact
              · rename_i hdead
                split at hact
                · split at hact
                  · exact freshR _ (by have h0 : cap = ([] : List V).length := hsi; simp only [List.length_nil] at *; omega) hdead hact
                  · exact freshC _ (by have h0 : cap = _ := hsi; omega) hdead hact
                · exact fresh _ (by have h0 : cap = us.length := hsi; omega) hdead hact
              · rename_i hwant
                split at hact
                · cases hact
                · exact freshW (by have h0 : cap = us.length := hsi; omega) hwant hact
              · cases hact
            | tok k =>
              simp only at hact
              split at hact
              · rename_i n z' hk
                split at hact
                · rename_i hnz
                  obtain ⟨rfl, rfl⟩ := hnz
                  simp only [Option.some.injEq, Prod.mk.injEq] at hact
                  obtain ⟨rfl, rfl⟩ := hact
                  obtain ⟨b, l, c, hkt, hnl, hlat⟩ := hsi
                  obtain ⟨z0, c0, T0, h1, h2, h3, h4, h5⟩ := H.tok _ _ _ _ hkt
                  have hl0 : l = us.length ∧ z0 = i'.size := ⟨(h1.tok hk).1.symm, (h1.tok hk).2.symm⟩
                  obtain ⟨rfl, rfl⟩ := hl0
                  obtain ⟨rfl, rfl⟩ := hlat rfl
                  have hbn : g.blk k = none := by
                    cases hbk : g.blk k with
                    | none => rfl
                    | some b' =>
                      exact absurd hk (H.not_tok hbk)
                  by_cases hroom : us.length + (w0 :: wr).length ≤ cap
                  · have hfit : us.length * i'.size + ((List.range ((w0 :: wr).length * i'.size)).map cw).length ≤ c0.size := by
                      rw [hln, ← Nat.add_mul]
                      exact Nat.le_trans (Nat.mul_le_mul_right _ hroom) h4
                    have hr := app_fit (P := P) (w := w) (ty := o.type) (c2 := cap2) hu1 hu2 hi h2 hln sw ow hroom hfit
                    have hsz : (c0.toList.take (us.length * i'.size) ++ ((List.range ((w0 :: wr).length * i'.size)).map cw) ++ c0.toList.drop (us.length * i'.size + ((List.range ((w0 :: wr).length * i'.size)).map cw).length)).length = c0.size := by
                      simp only [List.length_append, List.length_take, List.length_drop, Array.length_toList]
                      omega
                    have hold : ∀ j, j < us.length * i'.size → (c0.toList.take (us.length * i'.size) ++ ((List.range ((w0 :: wr).length * i'.size)).map cw) ++ c0.toList.drop (us.length * i'.size + ((List.range ((w0 :: wr).length * i'.size)).map cw).length)).toArray[j]? = c0[j]? := by
                      intro j hj
                      rw [List.getElem?_toArray, List.append_assoc, List.getElem?_append_left (by simp; omega), List.getElem?_take, if_pos hj]
                      simp
                    obtain ⟨hle, hok⟩ := H.growRow hkt hk (n' := us.length + (w0 :: wr).length) (by omega) hroom h2 (c' := (c0.toList.take (us.length * i'.size) ++ ((List.range ((w0 :: wr).length * i'.size)).map cw) ++ c0.toList.drop (us.length * i'.size + ((List.range ((w0 :: wr).length * i'.size)).map cw).length)).toArray) (by simpa using hsz) hold
                    refine ⟨_, _, _, .inl (hrun _ _ hr), hle, hok, ?_, ?_⟩
                    · refine joined hle hz1' hz2 hru hrw ou ow hroom (fun j v hj => ?_) (fun j hj => .inr ⟨rfl, hj⟩) ⟨b, us.length + (w0 :: wr).length, _, by simp [Gh.setTok], Nat.le_refl _, fun _ => ⟨rfl, rfl⟩⟩
                      rw [cell_of (setRow_heap w b c0 _ _ _ h2), List.getElem?_toArray]
                      rw [List.getElem?_append] at hj
                      rw [hlo] at hj
                      by_cases c1 : j < us.length * i'.size
                      · simp only [c1, if_true] at hj
                        have := hold j c1
                        rw [List.getElem?_toArray] at this
                        rw [this]
                        rcases su with h0 | ⟨ad, he, hcell⟩
                        · rw [h0] at hj; simp at hj
                        · simp only [Option.some.injEq] at he
                          subst he
                          have := hcell j v hj
                          rw [Addr.add_lit, Nat.zero_add, cell_of h2] at this
                          exact this
                      · simp only [c1, if_false] at hj
                        have hlt := (List.getElem?_eq_some_iff.1 hj).1
                        have hle2 : us.length * i'.size ≤ c0.size := by omega
                        rw [List.append_assoc, List.getElem?_append_right (by simp; omega)]
                        have : (c0.toList.take (us.length * i'.size)).length = us.length * i'.size := by simp; omega
                        rw [this, List.getElem?_append_left hlt]
                        exact hj
                    · intro id _
                      refine ⟨fun h => h, fun h => ?_, fun hb ht => ?_⟩
                      · by_cases hid : id = k
                        · rw [hid, hkt] at h; cases h
                        · simp [Gh.setTok, hid, h]
                      · by_cases hid : id = k
                        · rw [hid, hkt] at ht; cases ht
                        · rw [List.getElem?_set_ne (Ne.symm hid)]
                  · obtain ⟨val, w', g', q1, q2, q3, q4, q5⟩ := grows (by omega) k (List.getElem?_eq_some_iff.1 hk).1 hbn (fun b' n' c' h => by rw [hkt] at h; simp at h; omega)
                    refine ⟨val, w', g', .inl q1, q2, q3, q4, fun id _ => ?_⟩
                    by_cases hid : id = k
                    · subst hid
                      refine ⟨fun h => ?_, (fun h => by rw [hkt] at h; cases h), (fun _ h => by rw [hkt] at h; cases h)⟩
                      cases hb' : g'.blk id with
                      | none => rfl
                      | some b' =>
                        exact absurd (List.getElem?_set_self (List.getElem?_eq_some_iff.1 hk).1) (q3.not_tok hb')
                    · exact q5 id hid
                · cases hact
              · cases hact
        · cases hact
    · cases htr
  · cases htr
end
end Go.Proofs.YtkiliokeanmagaaDoor.Ab
