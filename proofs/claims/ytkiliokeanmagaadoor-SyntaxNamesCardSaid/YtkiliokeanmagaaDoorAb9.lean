/- New objects, loads and stores; every operation but a call. -/
import Derived.Test.YtkiliokeanmagaaDoorAb8
import Derived.MapKept
import Derived.Carry
namespace Go.Proofs.YtkiliokeanmagaaDoor.Ab
open Go
set_option linter.unusedVariables false
set_option linter.unusedSimpArgs false

theorem set_same {h : List O} {i : Nat} {x : O} (e : h[i]? = some x) : h.set i x = h := by
  obtain ⟨hlt, rfl⟩ := List.getElem?_eq_some_iff.1 e
  exact List.set_getElem_self hlt

section
variable {P : Program} {g : Gh} {w : World} {a : Act}

theorem setBlk_quiet (g : Gh) (id b : Nat) (h h' : List O) (hh : ∀ i, i ≠ id → h'[i]? = h[i]?) : Quiet (fun i => i = id) g h (g.setBlk id b) h' :=
  fun i hi => ⟨fun e => by simp [Gh.setBlk, hi, e], fun e => e, fun _ _ => hh i hi⟩
theorem setTok_quiet (g : Gh) (k b n c m : Nat) (h h' : List O) (hh : ∀ i, i ≠ k → h'[i]? = h[i]?) : Quiet (fun i => i = k) g h (g.setTok k b n c m) h' :=
  fun i hi => ⟨fun e => e, fun e => by simp [Gh.setTok, hi, e], fun _ _ => hh i hi⟩

theorem alloc_ok {o : Oper} {e : TypeId} (ho : o.op = .alloc e) {z : List V} (hz : zeroT P e = some z) {id : Nat} {h : List O} (H : HOk g w h) (hp : h[id]? = some (.cells z)) (hsl : g.blk id = none ∧ g.tok id = none) :
    ActOk P g w a o (fun i => i = id) h (.ref id 0) h := by
  obtain ⟨v, i, hi, hv, hsz, hrun, hcr⟩ := zero_ok (P := P) (g := g) (w := w) hz
  obtain ⟨hle, hok⟩ := H.newCells (List.getElem?_eq_some_iff.1 hp).1 hsl.1 hsl.2 (c := v.cells) (T := e) (cs := z) (Grew.alloc w _) (by rw [hcr.1]; exact Nat.le_refl _) (fun j hj hk => hcr.2 j hk hj)
  rw [set_same hp] at hok
  refine ⟨.pointer (some ⟨w.heap.size, 0, none⟩), _, _, .inl ?_, hle, hok, .ref id _ 0 (by simp [Gh.setBlk]), setBlk_quiet _ _ _ _ _ fun _ _ => rfl⟩
  simp only [execOp, ho, Instr.alloc, Sem.run_bind, hrun, Result.andThen_ok, newVar, newRow, run_newObj, Sem.run_pure]
  rfl

theorem box_ok {o : Oper} {e : TypeId} {X : Operand} (ho : o.op = .box e X) {tm : List V} (ht : Tm g w a tm) {x : A} (hx : trA X = some x) {id : Nat} {h : List O} (H : HOk g w h) (hid : id < h.length)
    (hokc : okc (ev tm x) = true) (hsl : g.blk id = none ∧ g.tok id = none) :
    ActOk P g w a o (fun i => i = id) h (.ref id 0) (h.set id (.cells (ev tm x).cells)) := by
  have hcr := CR.cells (ev_rep ht hx) hokc
  obtain ⟨hle, hok⟩ := H.newCells hid hsl.1 hsl.2 (c := (a.eval X).cells) (T := e) (cs := (ev tm x).cells) (Grew.alloc w _) (by rw [hcr.1]; exact Nat.le_refl _) (fun j hj hk => hcr.2 j hk hj)
  refine ⟨.pointer (some ⟨w.heap.size, 0, none⟩), _, _, .inl ?_, hle, hok, .ref id _ 0 (by simp [Gh.setBlk]), setBlk_quiet _ _ _ _ _ fun i hi => by rw [List.getElem?_set_ne (Ne.symm hi)]⟩
  simp only [execOp, ho, Instr.box, Sem.run_bind, newVar, newRow, run_newObj, Sem.run_pure, Result.andThen_ok]
  rfl

theorem fill_seq (size : Nat) : ∀ (parts : List (Nat × Value)) (k : Nat) (cells : Array Value), parts.map (·.1) = List.range' k parts.length → (∀ p ∈ parts, p.2.cells.size = size) → (k + parts.length) * size ≤ cells.size →
    ∃ cells', Instr.fill (fun i => some (i * size, size)) cells parts = some cells' ∧ cells'.toList = cells.toList.take (k * size) ++ (parts.flatMap (fun p => p.2.cells.toList) ++ cells.toList.drop ((k + parts.length) * size))
  | [], k, cells, _, _, _ => ⟨cells, rfl, by simp⟩
  | (i, v) :: r, k, cells, hi, hs, hl => by
    simp only [List.map_cons, List.length_cons, List.range'_succ, List.cons.injEq] at hi
    obtain ⟨rfl, hi⟩ := hi
    have hv := hs (i, v) (by simp)
    simp only at hv
    simp only [List.length_cons] at hl
    have h1 : (i + 1) * size ≤ cells.size := Nat.le_trans (Nat.mul_le_mul_right _ (by omega)) hl
    have h1' : i * size + v.cells.size ≤ cells.size := by rw [hv]; rw [Nat.succ_mul] at h1; exact h1
    have hfo := foldl_fill (i * size) v.cells cells h1'
    obtain ⟨c1, hc1⟩ : ∃ c1, c1 = v.cells.zipIdx.foldl (fun cs (x : Value × Nat) => match x with | (c, j) => cs.setIfInBounds (i * size + j) c) cells := ⟨_, rfl⟩
    rw [← hc1] at hfo
    have hc1s : c1.size = cells.size := by
      have := congrArg List.length hfo
      simp only [Array.length_toList, List.length_append, List.length_take, List.length_drop] at this
      omega
    obtain ⟨c2, h2, h3⟩ := fill_seq size r (i + 1) c1 hi (fun p hp => hs p (by simp [hp])) (by rw [hc1s, show i + 1 + r.length = i + (r.length + 1) by omega]; exact hl)
    refine ⟨c2, ?_, ?_⟩
    · simp only [Instr.fill]
      rw [if_neg (by simp [hv]; omega), ← hc1]
      exact h2
    · rw [h3, hfo]
      have e1 : (i + 1) * size = i * size + v.cells.toList.length := by simp [Nat.succ_mul, hv]
      have e2 : (cells.toList.take (i * size)).length = i * size := by simp; omega
      have hK : i * size + v.cells.toList.length ≤ (i + (r.length + 1)) * size := by rw [← e1]; exact Nat.mul_le_mul_right _ (by omega)
      have e3 : v.cells.size = v.cells.toList.length := by simp
      rw [e1, show i + 1 + r.length = i + (r.length + 1) by omega]
      simp only [List.flatMap_cons, List.length_cons, List.append_assoc]
      generalize (i + (r.length + 1)) * size = K at hK
      rw [e3]
      generalize v.cells.toList = B at hK
      generalize hA : cells.toList.take (i * size) = A at e2
      generalize i * size = q at hK e2
      rw [List.take_append, e2, List.take_of_length_le (l := A) (by omega)]
      rw [show q + B.length - q = B.length by omega, List.take_append, List.take_of_length_le (Nat.le_refl _)]
      rw [Nat.sub_self, List.take_zero, List.append_nil, List.append_assoc]
      congr 2
      rw [List.drop_append, e2, List.drop_eq_nil_of_le («as» := A) (by omega), List.nil_append]
      rw [List.drop_append, List.drop_eq_nil_of_le («as» := B) (by omega), List.nil_append, List.drop_drop]
      congr 2
      omega

theorem cr_flat : ∀ (vs : List Value) (us : List V), vs.length = us.length → (∀ i (hi : i < vs.length) (hj : i < us.length), CR g w (vs[i]).cells (us[i]).cells) → CR g w (vs.flatMap (fun v => v.cells.toList)).toArray (flats us)
  | [], [], _, _ => ⟨by simp [flats], fun j hi hj => by simp [flats] at hj⟩
  | v :: vs, u :: us, hl, h => by
    have h0 := h 0 (by simp) (by simp)
    simp only [List.getElem_cons_zero] at h0
    have ih := cr_flat vs us (by simpa using hl) fun i hi hj => by have := h (i + 1) (by simpa using hi) (by simpa using hj); simpa only [List.getElem_cons_succ] using this
    have i1 := ih.1
    simp only [List.size_toArray] at i1
    have h01 := h0.1
    refine CR.of (by simp only [List.size_toArray, List.flatMap_cons, List.length_append, flats, Array.length_toList] at *; omega) fun j x y hx hy => ?_
    simp only [List.flatMap_cons] at hx
    simp only [flats, List.flatMap_cons] at hy
    rw [List.getElem?_append] at hx hy
    rw [Array.length_toList, h01] at hx
    by_cases c1 : j < u.cells.length
    · simp only [c1, if_true] at hx hy
      obtain ⟨y', hy', r⟩ := h0.get? hx
      rw [hy] at hy'
      simp only [Option.some.injEq] at hy'
      subst hy'
      exact r
    · simp only [c1, if_false] at hx hy
      obtain ⟨y', hy', r⟩ := ih.get? (by simpa using hx)
      simp only [flats] at hy'
      rw [hy] at hy'
      simp only [Option.some.injEq] at hy'
      subst hy'
      exact r
  | [], _ :: _, hl, _ => by simp at hl
  | _ :: _, [], hl, _ => by simp at hl

theorem bslice_ok {o : Oper} {t e : TypeId} {n : Nat} {parts : Array (Nat × Operand)} (ho : o.op = .buildSlice t n parts) (hu : P.underlying t = some (.slice e)) {z : Nat} (hz : szT P e = some z) {zz : List V} (hzz : zeroT P e = some zz)
    {xas : List A} (has : trAL (parts.toList.map (·.2)) = some xas) (hidx : parts.toList.map (·.1) = List.range n) (hn : n * z ≤ 16777216) {tm : List V} (ht : Tm g w a tm)
    (hall : ∀ u ∈ xas.map (fun x => (ev tm x).vw2), okc u = true ∧ u.cells.length = z) {id : Nat} {h : List O} (H : HOk g w h) (hp : h[id]? = some (.tok n z)) (hsl : g.blk id = none ∧ g.tok id = none) :
    ActOk P g w a o (fun i => i = id) h (.sl (xas.map fun x => (ev tm x).vw2) .full) h := by
  obtain ⟨hl, hr⟩ := trAL_rep ht has
  simp only [List.length_map] at hl
  have hlen : parts.toList.length = n := by have := congrArg List.length hidx; simpa using this
  obtain ⟨zv, i', hi', hz0, hzs, hzrun, _⟩ := zero_ok (P := P) (g := g) (w := w) hzz
  let us := xas.map fun x => (ev tm x).vw2
  let vs := parts.toList.map fun p => a.eval p.2
  have husl : us.length = n := by simp [us]; omega
  have hcrs : ∀ i (hi : i < vs.length) (hj : i < us.length), CR g w (vs[i]).cells (us[i]).cells := by
    intro i hi hj
    have h1 := hr i (by simpa [vs] using hi) (by simpa [us] using hj)
    have h2 := hall us[i] (List.getElem_mem hj)
    have e1 : us[i] = (ev tm xas[i]).vw2 := by simp [us]
    have e2 : vs[i] = a.eval ((parts.toList.map (·.2))[i]'(by simpa [vs] using hi)) := by simp [vs]
    rw [e1, e2]
    rw [e1] at h2
    exact CR.cells h1.vw2 h2.1
  have hcr := cr_flat vs us (by simp [vs, us]; omega) hcrs
  have hvsz : ∀ p ∈ (parts.map fun (x : Nat × Operand) => match x with | (i, x) => (i, a.eval x)).toList, p.2.cells.size = z := by
    intro p hp'
    rw [Array.toList_map] at hp'
    obtain ⟨q, hq, rfl⟩ := List.mem_map.1 hp'
    obtain ⟨i, hi, rfl⟩ := List.getElem_of_mem hq
    have h1 := hcrs i (by simpa [vs] using hi) (by omega)
    have h2 := (hall us[i] (List.getElem_mem _)).2
    have h3 := h1.1
    simp only [vs, List.getElem_map] at h3
    rw [h2] at h3
    exact h3
  let zero : Array Value := if n * z = 0 then #[] else zv.cells
  obtain ⟨cells', hf, hcl⟩ := fill_seq z (parts.map fun (x : Nat × Operand) => match x with | (i, x) => (i, a.eval x)).toList 0 ((Array.range (n * z)).map (zero[· % zero.size]!))
    (by rw [Array.toList_map, List.map_map]; simp only [List.length_map, hlen]; rw [← List.range_eq_range', ← hidx]; rfl) hvsz (by rw [Array.toList_map, List.length_map, hlen]; simp)
  have hplen : (parts.map fun (x : Nat × Operand) => match x with | (i, x) => (i, a.eval x)).toList.length = n := by simp; omega
  rw [hplen] at hcl
  simp only [Nat.zero_mul, List.take_zero, List.nil_append, Nat.zero_add] at hcl
  rw [List.drop_eq_nil_of_le (by simp), List.append_nil] at hcl
  have hcl2 : cells'.toList = vs.flatMap fun v => v.cells.toList := by
    rw [hcl, Array.toList_map]
    simp only [vs, List.flatMap_map]
  have hcr2 : CR g w cells' (flats us) := by
    have : cells' = (vs.flatMap fun v => v.cells.toList).toArray := by rw [← hcl2]
    rw [this]; exact hcr
  have hfl : (flats us).length = n * z := by rw [flats_length (z := z) fun u hu => (hall u hu).2, husl]
  obtain ⟨hle, hok⟩ := H.newRow (n := n) (cap := n) (z := z) (List.getElem?_eq_some_iff.1 hp).1 hsl.1 (fun b' n' c' h => by rw [hsl.2] at h; cases h) (Grew.alloc w (.cells cells' e)) (Nat.le_refl _) (by rw [hcr2.1, hfl]; exact Nat.le_refl _)
  rw [set_same hp] at hok
  refine ⟨.slice (some ⟨w.heap.size, 0, none⟩) n n, _, _, .inl ?_, hle, hok, ?_, setTok_quiet _ _ _ _ _ _ _ _ fun _ _ => rfl⟩
  · have hzrun2 : ((if n * z = 0 then pure #[] else do pure (← zeroValue e).cells : Sem (Array Value))).run P w = .ok zero w := by
      by_cases c0 : n * z = 0
      · simp [c0, zero]
      · simp [c0, zero, hzrun]
    simp only [execOp, ho, Instr.buildSlice, Sem.run_bind, hu_run hu, sz_run hz, Result.andThen_ok]
    rw [if_neg (by omega)]
    by_cases c0 : n * z = 0
    · simp only [c0, if_true, zero, ↓reduceIte] at hf ⊢
      simp only [c0, ↓reduceIte, Sem.run_bind, Sem.run_pure, Result.andThen_ok, hf, newRow, run_newObj]
      rfl
    · simp only [c0, ↓reduceIte, zero] at hf ⊢
      simp only [Sem.run_bind, Sem.run_pure, Result.andThen_ok, hzrun, hf, newRow, run_newObj]
      rfl
  · refine .sl _ _ _ _ _ z (fun j => cells'.getD j undef) husl.symm (Nat.le_refl _) (fun u hu => (hall u hu).2) (fun _ => ⟨w.heap.size, 0, rfl, fun j hj => ?_⟩) (fun j hj => ?_) rfl
    · rw [show (xas.map fun x => (ev tm x).vw2) = us from rfl, husl] at hj
      have hj2 : j < cells'.size := by rw [hcr2.1, hfl]; exact hj
      rw [Nat.zero_add]
      have e1 : cells'.getD j undef = cells'[j] := by simp [Array.getD, hj2]
      refine ⟨.inr ⟨rfl, hj⟩, ?_, ?_⟩
      · rw [cell_of (Grew.new (Grew.alloc w _)), e1]; simp [hj2]
      · rw [e1]; exact (hcr2.2 j hj2 (by rw [hfl]; exact hj)).2
    · have hj2 : j < cells'.size := by rw [hcr2.1]; exact hj
      have e1 : cells'.getD j undef = cells'[j] := by simp [Array.getD, hj2]
      show Rep _ _ (cells'.getD j undef) _
      rw [e1]
      exact ((hcr2.2 j hj2 hj).1).mono hle

/-- A load out of cells that are known. -/
theorem load_cells {t : TypeId} {n : Option Nat} (hn : nT P t = some n) {b o0 off : Nat} {cs : List V} {f : Nat → Value} (hc : ∀ j, j < cs.length → w.cell? ⟨b, o0 + j, none⟩ = some (f j) ∧ (f j).oneCell' = true)
    (hr : ∀ j (hj : j < cs.length), Rep g w (f j) cs[j]) {v : V} (hv : rdV cs off n = some v) : ∃ x, (loadVar t ⟨b, o0 + off, none⟩).run P w = .ok x w ∧ Rep g w x v := by
  cases n with
  | some n =>
    obtain ⟨k1, k2⟩ := nT_some hn
    simp only [rdV] at hv
    split at hv
    · rename_i hle
      simp only [Option.some.injEq] at hv
      subst hv
      have hl := run_loadCells (P := P) w ⟨b, o0 + off, none⟩ n (fun j => f (off + j)) (fun j hj => by rw [Addr.add_lit, Nat.add_assoc]; exact (hc _ (by omega)).1)
      refine ⟨.agg ((List.range n).map fun j => f (off + j)).toArray, by simp [loadVar, agg_run k1, sz_run k2, hl], ?_⟩
      refine .agg _ _ (by simp; omega) (fun i hi => ?_) (fun i hi hj => ?_)
      · simp only [List.getElem_toArray, List.getElem_map, List.getElem_range]
        simp at hi
        exact (hc _ (by omega)).2
      · simp only [List.getElem_toArray, List.getElem_map, List.getElem_range, List.getElem_take, List.getElem_drop]
        simp at hi
        exact hr _ (by omega)
    · cases hv
  | none =>
    have k1 := nT_none hn
    simp only [rdV] at hv
    obtain ⟨hlt, rfl⟩ := List.getElem?_eq_some_iff.1 hv
    exact ⟨f off, by simp [loadVar, agg_run k1, (hc off hlt).1], hr off hlt⟩

theorem load_ok {o : Oper} {t : TypeId} {X : Operand} (ho : o.op = .load t X) {n : Option Nat} (hn : nT P t = some n) {x : A} (hx : trA X = some x) {st : St} (ht : Tm g w a st.tm) (H : HOk g w st.h) {cf : CallF} {v : V} {h' : List O}
    (hact : act cf st (.load n x) = some (v, h')) (E : Nat → Prop) : ActOk P g w a o E st.h v h' := by
  simp only [act] at hact
  have hr := ev_rep ht hx
  cases he : ev st.tm x with
  | ref id off =>
    rw [he] at hr hact
    simp only at hact
    split at hact
    · rename_i cs hcs
      simp only [Option.map_eq_some_iff, Prod.mk.injEq] at hact
      obtain ⟨v', hv, rfl, rfl⟩ := hact
      obtain ⟨b, hX, hb⟩ := hr.of_ref
      obtain ⟨cs0, c, T, h1, h2, h3, h4, h5⟩ := H.cellsOf hb hcs
      have hcs0 : cs0 = cs := by rw [hcs] at h1; simp at h1; exact h1.symm
      subst hcs0
      obtain ⟨y, h6, h7⟩ := load_cells (P := P) (b := b) (o0 := 0) hn (f := fun j => c.getD j undef) (fun j hj => by
        have hj2 : j < c.size := by omega
        have e1 : c.getD j undef = c[j] := by simp [Array.getD, hj2]
        rw [Nat.zero_add, cell_of h2]
        simp only [e1]
        exact ⟨by simp [hj2], (h4 j hj hj2).2⟩) (fun j hj => by
        have hj2 : j < c.size := by omega
        have e1 : c.getD j undef = c[j] := by simp [Array.getD, hj2]
        simp only [e1]
        exact (h4 j hj hj2).1) hv
      rw [Nat.zero_add] at h6
      refine ⟨y, w, g, .inl ?_, Le.refl _ _, H, h7, Quiet.refl _ _ _⟩
      simp [execOp, ho, Instr.loadAt, Instr.sureAddr, hX, h6]
    · cases hact
  | ptr cs off =>
    rw [he] at hr hact
    simp only [Option.map_eq_some_iff, Prod.mk.injEq] at hact
    obtain ⟨v', hv, rfl, rfl⟩ := hact
    obtain ⟨b, o0, cv, hX, h1, h2⟩ := hr.of_ptr
    obtain ⟨y, h6, h7⟩ := load_cells (P := P) (b := b) (o0 := o0) hn (f := cv) (fun j hj => ⟨(h1 j hj).2.1, (h1 j hj).2.2⟩) h2 hv
    refine ⟨y, w, g, .inl ?_, Le.refl _ _, H, h7, Quiet.refl _ _ _⟩
    simp [execOp, ho, Instr.loadAt, Instr.sureAddr, hX, h6]
  | _ => rw [he] at hact; simp at hact

theorem store_ok {o : Oper} {t : TypeId} {X Y : Operand} (ho : o.op = .store t X Y) {n : Nat} (hn : szT P t = some n) {x y : A} (hx : trA X = some x) (hy : trA Y = some y) {st : St} (ht : Tm g w a st.tm) (H : HOk g w st.h) {cf : CallF} {v : V} {h' : List O}
    (hact : act cf st (.store n x y) = some (v, h')) (E : Nat → Prop) : ActOk P g w a o E st.h v h' := by
  simp only [act] at hact
  have hr := ev_rep ht hx
  cases he : ev st.tm x with
  | ref id off =>
    rw [he] at hr hact
    simp only at hact
    split at hact
    · rename_i cs hcs
      split at hact
      · rename_i hcond
        obtain ⟨hokc, hlen, hle0⟩ := hcond
        simp only [Option.some.injEq, Prod.mk.injEq] at hact
        obtain ⟨rfl, rfl⟩ := hact
        obtain ⟨b, hX, hb⟩ := hr.of_ref
        obtain ⟨cs0, c, T, h1, h2, h3, h4, h5⟩ := H.cellsOf hb hcs
        have hcs0 : cs0 = cs := by rw [hcs] at h1; simp at h1; exact h1.symm
        subst hcs0
        have hcr := CR.cells (ev_rep ht hy) hokc
        have hys : (a.eval Y).cells.size = n := by rw [hcr.1]; exact hlen
        have h6 := run_storeCells_at P b off T (a.eval Y).cells.toList 0 c w h2 (by simp; omega) (fun v hv => by
          obtain ⟨i, hi, rfl⟩ := List.getElem_of_mem hv
          have := (hcr.2 i (by simpa using hi) (by rw [← hcr.1]; simpa using hi)).2
          simpa using this)
        simp only [Nat.add_zero] at h6
        have hsz : (c.toList.take off ++ (a.eval Y).cells.toList ++ c.toList.drop (off + (a.eval Y).cells.toList.length)).length = c.size := by
          simp only [List.length_append, List.length_take, List.length_drop, Array.length_toList]; omega
        obtain ⟨hle, hok⟩ := H.storeCells hb hcs h2 (c' := (c.toList.take off ++ (a.eval Y).cells.toList ++ c.toList.drop (off + (a.eval Y).cells.toList.length)).toArray) (cs' := splice cs0 off (ev st.tm y).cells)
          (by simpa using hsz) (by simp only [splice, List.length_append, List.length_take, List.length_drop]; omega) (fun j hj hk => by
            have hj' : j < cs0.length := by simp only [splice, List.length_append, List.length_take, List.length_drop] at hj; omega
            have hjc : j < c.size := by omega
            have e1 : (c.toList.take off ++ (a.eval Y).cells.toList ++ c.toList.drop (off + (a.eval Y).cells.toList.length)).toArray[j]? = some ((c.toList.take off ++ (a.eval Y).cells.toList ++ c.toList.drop (off + (a.eval Y).cells.toList.length)).toArray[j]) := by simp
            have e2 : (splice cs0 off (ev st.tm y).cells)[j]? = some (splice cs0 off (ev st.tm y).cells)[j] := List.getElem?_eq_getElem hj
            generalize (c.toList.take off ++ (a.eval Y).cells.toList ++ c.toList.drop (off + (a.eval Y).cells.toList.length)).toArray[j] = q1 at e1
            generalize (splice cs0 off (ev st.tm y).cells)[j] = q2 at e2
            rw [List.getElem?_toArray, List.append_assoc, List.getElem?_append] at e1
            unfold splice at e2
            rw [List.getElem?_append] at e2
            have t1 : (c.toList.take off).length = off := by simp; omega
            have t2 : (cs0.take off).length = off := by simp; omega
            rw [t1] at e1
            rw [t2] at e2
            have old : ∀ i : Nat, c.toList[i]? = some q1 → cs0[i]? = some q2 → Rep g w q1 q2 ∧ q1.oneCell' = true := by
              intro i a1 a2
              obtain ⟨b1, rfl⟩ := List.getElem?_eq_some_iff.1 a1
              obtain ⟨b2, rfl⟩ := List.getElem?_eq_some_iff.1 a2
              have := h4 i b2 (by simpa using b1)
              simpa using this
            by_cases c1 : j < off
            · simp only [c1, if_true, List.getElem?_take] at e1 e2
              exact old j e1 e2
            · simp only [c1, if_false] at e1 e2
              rw [List.getElem?_append] at e1 e2
              rw [Array.length_toList, hcr.1] at e1
              by_cases c2 : j - off < (ev st.tm y).cells.length
              · simp only [c2, if_true] at e1 e2
                obtain ⟨v', hv', r⟩ := hcr.get? e1
                rw [e2] at hv'
                simp only [Option.some.injEq] at hv'
                subst hv'
                exact r
              · simp only [c2, if_false, List.getElem?_drop] at e1 e2
                exact old _ e1 e2)
        refine ⟨undef, _, g, .inr ⟨?_, rfl⟩, hle, hok, .c _, fun i _ => ⟨fun h => h, fun h => h, fun hbn _ => ?_⟩⟩
        · have e3 : (execOp a.eval o) = (do Instr.storeAt t (a.eval X) (a.eval Y); pure .skip) := by simp only [execOp, ho]
          rw [e3]
          simp only [Instr.storeAt, Instr.sureAddr, hX, storeVar, Sem.run_bind, Sem.run_pure, Result.andThen_ok, sz_run hn]
          rw [if_neg (by simp [hys]), h6]
          rfl
        · by_cases hid : i = id
          · rw [hid, hb] at hbn; cases hbn
          · rw [List.getElem?_set_ne (Ne.symm hid)]
      · cases hact
    · cases hact
  | tref k m off =>
    rw [he] at hr hact
    simp only at hact
    split at hact
    · rename_i m' z cs hcs
      split at hact
      · rename_i hcond
        obtain ⟨rfl, hokc, hlen, hle0⟩ := hcond
        simp only [Option.some.injEq, Prod.mk.injEq] at hact
        obtain ⟨rfl, rfl⟩ := hact
        obtain ⟨A, hX, b, l, cap, hkt, hnl, hlat⟩ : ∃ A, a.eval X = .pointer (some A) ∧ ∃ b l c, g.tok k = some (b, l, c) ∧ m' ≤ l ∧ (m' = l → A = ⟨b, off, none⟩) := by
          generalize hX : a.eval X = xv at hr
          cases hr with
          | tref A _ _ _ h => exact ⟨A, rfl, h⟩
        obtain ⟨z0, c, T, h1, h2, h3, h3', h5⟩ := H.tok _ _ _ _ hkt
        have hl0 : (l = m' ∧ z0 = z) ∧ cs.length = m' * z ∧ ∀ j (hj : j < cs.length) (hc : j < c.size), Rep g w c[j] cs[j] ∧ (c[j]).oneCell' = true := by
          rcases h1 with h1 | ⟨cs1, h1, h6, h7, h8⟩ <;> rw [hcs] at h1
          · simp at h1
          · simp only [Option.some.injEq, O.tokc.injEq] at h1
            obtain ⟨rfl, rfl, rfl⟩ := h1
            exact ⟨⟨rfl, rfl⟩, h6, h7⟩
        obtain ⟨⟨rfl, rfl⟩, hcsl, h4⟩ := hl0
        have hA := hlat rfl
        subst hA
        have hcl : cs.length ≤ c.size := by rw [hcsl]; exact Nat.le_trans (Nat.mul_le_mul_right _ h3) h3'
        obtain ⟨cs0, rfl⟩ : ∃ cs0, cs0 = cs := ⟨_, rfl⟩
        have hcr := CR.cells (ev_rep ht hy) hokc
        have hys : (a.eval Y).cells.size = n := by rw [hcr.1]; exact hlen
        have h6 := run_storeCells_at P b off T (a.eval Y).cells.toList 0 c w h2 (by simp; omega) (fun v hv => by
          obtain ⟨i, hi, rfl⟩ := List.getElem_of_mem hv
          have := (hcr.2 i (by simpa using hi) (by rw [← hcr.1]; simpa using hi)).2
          simpa using this)
        simp only [Nat.add_zero] at h6
        have hsz : (c.toList.take off ++ (a.eval Y).cells.toList ++ c.toList.drop (off + (a.eval Y).cells.toList.length)).length = c.size := by
          simp only [List.length_append, List.length_take, List.length_drop, Array.length_toList]; omega
        obtain ⟨hle, hok⟩ := H.growRowC hkt hcs (Nat.le_refl _) h3 h2 (c' := (c.toList.take off ++ (a.eval Y).cells.toList ++ c.toList.drop (off + (a.eval Y).cells.toList.length)).toArray) (cs' := splice cs0 off (ev st.tm y).cells)
          (by simpa using hsz) (by rw [← hcsl]; simp only [splice, List.length_append, List.length_take, List.length_drop]; omega) (fun j hj hk => by
            have hj' : j < cs0.length := by simp only [splice, List.length_append, List.length_take, List.length_drop] at hj; omega
            have hjc : j < c.size := by omega
            have e1 : (c.toList.take off ++ (a.eval Y).cells.toList ++ c.toList.drop (off + (a.eval Y).cells.toList.length)).toArray[j]? = some ((c.toList.take off ++ (a.eval Y).cells.toList ++ c.toList.drop (off + (a.eval Y).cells.toList.length)).toArray[j]) := by simp
            have e2 : (splice cs0 off (ev st.tm y).cells)[j]? = some (splice cs0 off (ev st.tm y).cells)[j] := List.getElem?_eq_getElem hj
            generalize (c.toList.take off ++ (a.eval Y).cells.toList ++ c.toList.drop (off + (a.eval Y).cells.toList.length)).toArray[j] = q1 at e1
            generalize (splice cs0 off (ev st.tm y).cells)[j] = q2 at e2
            rw [List.getElem?_toArray, List.append_assoc, List.getElem?_append] at e1
            unfold splice at e2
            rw [List.getElem?_append] at e2
            have t1 : (c.toList.take off).length = off := by simp; omega
            have t2 : (cs0.take off).length = off := by simp; omega
            rw [t1] at e1
            rw [t2] at e2
            have old : ∀ i : Nat, c.toList[i]? = some q1 → cs0[i]? = some q2 → Rep g w q1 q2 ∧ q1.oneCell' = true := by
              intro i a1 a2
              obtain ⟨b1, rfl⟩ := List.getElem?_eq_some_iff.1 a1
              obtain ⟨b2, rfl⟩ := List.getElem?_eq_some_iff.1 a2
              have := h4 i b2 (by simpa using b1)
              simpa using this
            by_cases c1 : j < off
            · simp only [c1, if_true, List.getElem?_take] at e1 e2
              exact old j e1 e2
            · simp only [c1, if_false] at e1 e2
              rw [List.getElem?_append] at e1 e2
              rw [Array.length_toList, hcr.1] at e1
              by_cases c2 : j - off < (ev st.tm y).cells.length
              · simp only [c2, if_true] at e1 e2
                obtain ⟨v', hv', r⟩ := hcr.get? e1
                rw [e2] at hv'
                simp only [Option.some.injEq] at hv'
                subst hv'
                exact r
              · simp only [c2, if_false, List.getElem?_drop] at e1 e2
                exact old _ e1 e2)
        refine ⟨undef, _, _, .inr ⟨?_, rfl⟩, hle, hok, .c _, fun i _ => ⟨fun h => h, fun h => ?_, fun _ hbn => ?_⟩⟩
        · have e3 : (execOp a.eval o) = (do Instr.storeAt t (a.eval X) (a.eval Y); pure .skip) := by simp only [execOp, ho]
          rw [e3]
          simp only [Instr.storeAt, Instr.sureAddr, hX, storeVar, Sem.run_bind, Sem.run_pure, Result.andThen_ok, sz_run hn]
          rw [if_neg (by simp [hys]), h6]
          rfl
        · by_cases hid : i = k
          · rw [hid, hkt] at h; cases h
          · simp [Gh.setTok, hid, h]
        · by_cases hid : i = k
          · rw [hid, hkt] at hbn; cases hbn
          · rw [List.getElem?_set_ne (Ne.symm hid)]
      · cases hact
    · cases hact
  | _ => rw [he] at hact; simp at hact

theorem bytes_if {α : Type} {s s' : ByteArray} {x y : α} : (if s = s' then x else y) = if (s == s') = true then x else y := by
  by_cases h : s = s'
  · rw [if_pos h, if_pos ((MapKept.bytes_beq _ _).2 h)]
  · rw [if_neg h, if_neg fun k => h ((MapKept.bytes_beq _ _).1 k)]
theorem mlook_ok {s : ByteArray} : ∀ {es : List MapEntry} {ks : List Value} {vs : List V} {r : Option V} (i : Nat), mlook ks vs s = some r → es.map (·.key) = ks → es.length = vs.length →
    match r with
    | none => Instr.findNow .string (.string s) es i = some none
    | some v => ∃ (j : Nat) (e : MapEntry), es[j]? = some e ∧ vs[j]? = some v ∧ e.key = .string s ∧ Instr.findNow .string (.string s) es i = some (some (i + j, e.val))
  | [], ks, vs, r, i, h, hk, hl => by
    obtain rfl : vs = [] := by cases vs with | nil => rfl | cons v vs => simp at hl
    simp only [List.map_nil] at hk
    subst hk
    simp only [mlook, Option.some.injEq] at h
    subst h
    rfl
  | e :: es, ks, vs, r, i, h, hk, hl => by
    cases vs with
    | nil => simp at hl
    | cons v vs =>
      simp only [List.map_cons] at hk
      subst hk
      cases hke : e.key with
      | string s' =>
        rw [hke] at h
        simp only [mlook] at h
        by_cases hs : s = s'
        · subst hs
          simp only [if_true, Option.some.injEq] at h
          subst h
          have : (s == s) = true := (MapKept.bytes_beq _ _).2 rfl
          exact ⟨0, e, rfl, rfl, hke, by simp [Instr.findNow, Instr.sameNow, hke, this]⟩
        · rw [if_neg hs] at h
          have hb : (s == s') = false := by
            cases hc : (s == s') with
            | false => rfl
            | true => exact absurd ((MapKept.bytes_beq _ _).1 hc) hs
          have ih := mlook_ok (i + 1) h rfl (by simpa using hl)
          cases r with
          | none => simpa [Instr.findNow, Instr.sameNow, hke, hb] using ih
          | some u =>
            obtain ⟨j, e', h1, h2, h3, h4⟩ := ih
            exact ⟨j + 1, e', by simpa using h1, by simpa using h2, h3, by simp [Instr.findNow, Instr.sameNow, hke, hb, h4]; omega⟩
      | _ => rw [hke] at h; simp [mlook] at h
theorem mput_ok {s : ByteArray} {u : V} : ∀ {es : List MapEntry} {ks ks' : List Value} {vs vs' : List V} (i : Nat), mput ks vs s u = some (ks', vs') → es.map (·.key) = ks → es.length = vs.length →
    (Instr.findNow .string (.string s) es i = some none ∧ ks' = ks ++ [.string s] ∧ vs' = vs ++ [u]) ∨
    ∃ (j : Nat) (e : MapEntry), es[j]? = some e ∧ e.key = .string s ∧ Instr.findNow .string (.string s) es i = some (some (i + j, e.val)) ∧ ks' = ks ∧ vs' = vs.set j u
  | [], ks, ks', vs, vs', i, h, hk, hl => by
    obtain rfl : vs = [] := by cases vs with | nil => rfl | cons v vs => simp at hl
    simp only [List.map_nil] at hk
    subst hk
    simp only [mput, Option.some.injEq, Prod.mk.injEq] at h
    obtain ⟨rfl, rfl⟩ := h
    exact .inl ⟨rfl, rfl, rfl⟩
  | e :: es, ks, ks', vs, vs', i, h, hk, hl => by
    cases vs with
    | nil => simp at hl
    | cons v vs =>
      simp only [List.map_cons] at hk
      subst hk
      cases hke : e.key with
      | string s' =>
        rw [hke] at h
        simp only [mput] at h
        by_cases hs : s = s'
        · subst hs
          simp only [if_true, Option.some.injEq, Prod.mk.injEq] at h
          obtain ⟨rfl, rfl⟩ := h
          have : (s == s) = true := (MapKept.bytes_beq _ _).2 rfl
          exact .inr ⟨0, e, rfl, hke, by simp [Instr.findNow, Instr.sameNow, hke, this], rfl, rfl⟩
        · rw [if_neg hs, Option.map_eq_some_iff] at h
          obtain ⟨⟨k2, v2⟩, h, h9⟩ := h
          simp only [Prod.mk.injEq] at h9
          obtain ⟨rfl, rfl⟩ := h9
          have hb : (s == s') = false := by
            cases hc : (s == s') with
            | false => rfl
            | true => exact absurd ((MapKept.bytes_beq _ _).1 hc) hs
          rcases mput_ok (i + 1) h rfl (by simpa using hl) with ⟨h1, h2, h3⟩ | ⟨j, e', h1, h2, h3, h4, h5⟩
          · exact .inl ⟨by simpa [Instr.findNow, Instr.sameNow, hke, hb] using h1, by rw [h2]; rfl, by rw [h3]; rfl⟩
          · exact .inr ⟨j + 1, e', by simpa using h1, h2, by simp [Instr.findNow, Instr.sameNow, hke, hb, h3]; omega, by rw [h4], by rw [h5]; rfl⟩
      | _ => rw [hke] at h; simp [mput] at h

theorem makeMap_ok {o : Oper} {t : TypeId} (ho : o.op = .makeMap t none) {id : Nat} {h : List O} (H : HOk g w h) (hid : id < h.length) (hsl : g.blk id = none ∧ g.tok id = none) :
    ActOk P g w a o (fun i => i = id) h (.mref id) (h.set id (.mapo [] [])) := by
  obtain ⟨hle, hok⟩ := H.newOth hid hsl.1 hsl.2 (ob := .map #[] 0) (x := .mapo [] []) (Grew.alloc w _) (fun g' h' hf hx => .inr ⟨[], [], #[], 0, hx, (Grew.alloc w _).new, rfl, rfl, fun i hi => by simp at hi, hf⟩)
  refine ⟨.map (some w.heap.size), _, _, .inl ?_, hle, hok, .mref id _ (by simp [Gh.setBlk]), setBlk_quiet _ _ _ _ _ fun i hi => by rw [List.getElem?_set_ne (Ne.symm hi)]⟩
  simp only [execOp, ho, Option.map_none, Sem.run_bind, RowKit.run_makeMap, Result.andThen_ok, Sem.run_pure]

def lookRes (z : Value) (ok : Bool) : Option (Nat × Value) → Value
  | some (_, v) => if ok then .tuple #[v, .bool true] else v
  | none => if ok then .tuple #[z, .bool false] else z
theorem run_look {t kt et : TypeId} (ht : P.underlying t = some (.map kt et)) (hk : P.underlying kt = some .string) {z : Value} {i : TypeInfo} (hi : P.info? et = some i) (hz : i.zero = some z) {b : Nat} {es : Array MapEntry} {ck : Nat}
    (hb : w.heap[b]? = some (.map es ck)) {s : ByteArray} {ok : Bool} {r : Option (Nat × Value)} (hf : Instr.findNow .string (.string s) es.toList 0 = some r) :
    (Instr.lookup t (.map (some b)) (.string s) ok).run P w = .ok (lookRes z ok r) w := by
  have hzr : (zeroValue et).run P w = .ok z w := by simp [zeroValue, typeInfo, hi, hz]
  have h1 := fun e => MapKept.run_checkKey (P := P) (w := w) (kt := kt) (d := .string) (k := .string s) hk trivial e 9999
  have h2 := MapKept.run_findKey (P := P) (w := w) hk hf
  simp only [Instr.lookup, Sem.run_bind, run_underlying ht, Result.andThen_ok, MapKept.run_getObj_map hb, Sem.run_pure, h1, h2]
  cases r with
  | none => cases ok <;> simp [hzr, Result.andThen, lookRes]
  | some p => cases ok <;> rfl

def OptRep (g : Gh) (w : World) : Option (Nat × Value) → Option V → Prop
  | some (_, x), some v => Rep g w x v
  | none, none => True
  | _, _ => False
theorem mres_rep {z : Value} (hc : constOk z = true) {ok : Bool} {r : Option (Nat × Value)} {q : Option V} (h : OptRep g w r q) :
    Rep g w (lookRes z ok r) (mres (toV z) ok q) := by
  have tup : ∀ {x : Value} {v : V} (b : Bool), Rep g w x v → Rep g w (.tuple #[x, .bool b]) (.tup [v, .c (.bool b)]) := fun b hr => .tup _ _ rfl fun i hi hj => by
    match i, hj with
    | 0, _ => exact hr
    | 1, _ => exact .c _
  cases r with
  | none =>
    cases q with
    | none =>
      cases ok
      · exact toV_rep g w z hc
      · exact tup false (toV_rep g w z hc)
    | some v => exact h.elim
  | some p =>
    obtain ⟨_, x⟩ := p
    cases q with
    | none => exact h.elim
    | some v =>
      cases ok
      · exact h
      · exact tup true h

theorem find_all {s : ByteArray} : ∀ (es : List MapEntry) (i : Nat), (∀ e ∈ es, ∃ s, e.key = .string s) →
    (∃ e ∈ es, e.key = .string s ∧ ∃ j, Instr.findNow .string (.string s) es i = some (some (j, e.val))) ∨ ((∀ e ∈ es, e.key ≠ .string s) ∧ Instr.findNow .string (.string s) es i = some none)
  | [], i, _ => .inr ⟨by simp, rfl⟩
  | e :: es, i, h => by
    obtain ⟨s', hk⟩ := h e (by simp)
    by_cases hs : s = s'
    · subst hs
      have : (s == s) = true := (MapKept.bytes_beq _ _).2 rfl
      exact .inl ⟨e, by simp, hk, i, by simp [Instr.findNow, Instr.sameNow, hk, this]⟩
    · have hb : (s == s') = false := by
        cases hc : (s == s') with
        | false => rfl
        | true => exact absurd ((MapKept.bytes_beq _ _).1 hc) hs
      have hstep : Instr.findNow .string (.string s) (e :: es) i = Instr.findNow .string (.string s) es (i + 1) := by simp [Instr.findNow, Instr.sameNow, hk, hb]
      rw [hstep]
      rcases find_all es (i + 1) (fun x hx => h x (by simp [hx])) with ⟨x, h1, h2, h3⟩ | ⟨h1, h2⟩
      · exact .inl ⟨x, by simp [h1], h2, h3⟩
      · refine .inr ⟨fun x hx => ?_, h2⟩
        simp only [List.mem_cons] at hx
        rcases hx with rfl | hx
        · rw [hk]; simp; exact fun e => hs e.symm
        · exact h1 x hx
theorem lookup_ok {o : Oper} {t kt et : TypeId} {X K : Operand} {ok : Bool} (ho : o.op = .lookup t X K ok) (hu : P.underlying t = some (.map kt et)) (hk : P.underlying kt = some .string) {z : Value} (hz : (P.info? et).bind (·.zero) = some z) (hc : constOk z = true)
    {x k : A} (hx : trA X = some x) (hkk : trA K = some k) {st : St} (ht : Tm g w a st.tm) (H : HOk g w st.h) {cf : CallF} {v : V} {h' : List O}
    (hact : act cf st (.lookup (toV z) ok x k) = some (v, h')) (E : Nat → Prop) : ActOk P g w a o E st.h v h' := by
  obtain ⟨i, hi, hz⟩ := Option.bind_eq_some_iff.1 hz
  have hr := ev_rep ht hx
  have hkr := ev_rep ht hkk
  have main0 : ∀ {b : Nat} {es : Array MapEntry} {ck : Nat} {s : ByteArray} {q : Option V} {r : Option (Nat × Value)}, a.eval X = .map (some b) → w.heap[b]? = some (.map es ck) → Instr.findNow .string (.string s) es.toList 0 = some r → OptRep g w r q →
      a.eval K = .string s → v = mres (toV z) ok q → h' = st.h → ActOk P g w a o E st.h v h' := by
    intro b es ck s q r hX hb hf1 hf2 hK hv hh
    subst hv hh
    have hrun := run_look (P := P) hu hk hi hz hb (ok := ok) hf1
    refine ⟨_, w, g, .inl ?_, Le.refl _ _, H, mres_rep hc hf2, Quiet.refl _ _ _⟩
    simp only [execOp, ho, hX, hK, Sem.run_bind, hrun, Result.andThen_ok, Sem.run_pure]
  have main : ∀ {b : Nat} {es : Array MapEntry} {ck : Nat} {ks : List Value} {vs : List V} {s : ByteArray} {q : Option V}, a.eval X = .map (some b) → w.heap[b]? = some (.map es ck) → es.toList.map (·.key) = ks → es.size = vs.length →
      (∀ i (hi : i < es.size) (hj : i < vs.length), Rep g w (es[i]).val vs[i]) → a.eval K = .string s → mlook ks vs s = some q → v = mres (toV z) ok q → h' = st.h → ActOk P g w a o E st.h v h' := by
    intro b es ck ks vs s q hX hb hks hn hrep hK hq hv hh
    subst hv hh
    have hf := mlook_ok (es := es.toList) 0 hq hks (by simpa using hn)
    obtain ⟨r, hf1, hf2⟩ : ∃ r, Instr.findNow .string (.string s) es.toList 0 = some r ∧ OptRep g w r q := by
      cases q with
      | none => exact ⟨none, hf, trivial⟩
      | some u =>
        obtain ⟨j, e, h1, h2, h3, h4⟩ := hf
        refine ⟨_, h4, ?_⟩
        obtain ⟨hj1, rfl⟩ := List.getElem?_eq_some_iff.1 h1
        obtain ⟨hj2, rfl⟩ := List.getElem?_eq_some_iff.1 h2
        have := hrep j (by simpa using hj1) hj2
        simpa [OptRep] using this
    have hrun := run_look (P := P) hu hk hi hz hb (ok := ok) hf1
    refine ⟨_, w, g, .inl ?_, Le.refl _ _, H, mres_rep hc hf2, Quiet.refl _ _ _⟩
    simp only [execOp, ho, hX, hK, Sem.run_bind, hrun, Result.andThen_ok, Sem.run_pure]
  simp only [act] at hact
  split at hact
  · rename_i ks vs s he hke
    rw [he] at hr
    rw [hke] at hkr
    simp only [Option.map_eq_some_iff, Prod.mk.injEq] at hact
    obtain ⟨q, hq, h1, h2⟩ := hact
    obtain ⟨x0, hx0⟩ : ∃ x0, a.eval X = x0 := ⟨_, rfl⟩
    rw [hx0] at hr
    cases hr with
    | fmp b es ck _ _ hb hf hks hn hrep =>
      obtain ⟨es0, hb, hp, hstr, huniq⟩ := hb
      have hf := mlook_ok (es := es.toList) 0 hq hks (by simpa using hn)
      rcases find_all (s := s) es0.toList 0 (fun e he => hstr e ((hp e).1 he)) with ⟨e, he, hke1, j, hj⟩ | ⟨hno, hj⟩
      · refine main0 hx0 hb hj (q := q) ?_ hkr.of_c h1.symm h2.symm
        cases q with
        | none =>
          rcases find_all (s := s) es.toList 0 hstr with ⟨e', _, _, j', hj'⟩ | ⟨hno, _⟩
          · simp only at hf; rw [hf] at hj'; simp at hj'
          · exact absurd hke1 (hno e ((hp e).1 he))
        | some u =>
          obtain ⟨j', e', k1, k2, k3, k4⟩ := hf
          have : e = e' := huniq e ((hp e).1 he) e' (List.mem_of_getElem? k1) (hke1.trans k3.symm)
          subst this
          obtain ⟨hj1, hj1'⟩ := List.getElem?_eq_some_iff.1 k1
          obtain ⟨hj2, hj2'⟩ := List.getElem?_eq_some_iff.1 k2
          have := hrep j' (by simpa using hj1) hj2
          rw [hj2'] at this
          have h3 : es[j']'(by simpa using hj1) = e := by simpa using hj1'
          rw [h3] at this
          exact this
      · refine main0 hx0 hb hj (q := q) ?_ hkr.of_c h1.symm h2.symm
        cases q with
        | none => trivial
        | some u =>
          obtain ⟨j', e', k1, k2, k3, k4⟩ := hf
          exact absurd k3 (hno e' ((hp e').2 (List.mem_of_getElem? k1)))
  · rename_i id s he hke
    rw [he] at hr
    rw [hke] at hkr
    split at hact
    · rename_i ks vs hid
      simp only [Option.map_eq_some_iff, Prod.mk.injEq] at hact
      obtain ⟨q, hq, h1, h2⟩ := hact
      obtain ⟨x0, hx0⟩ : ∃ x0, a.eval X = x0 := ⟨_, rfl⟩
      rw [hx0] at hr
      cases hr with
      | mref _ b hb =>
        rcases H.obj _ _ hb with ⟨_, _, _, e2, _⟩ | ⟨s, L, e2, _⟩ | ⟨ks', vs', es, ck, e2, hhb, hks, hn, hrep, _⟩
        · rw [hid] at e2; simp at e2
        · rw [hid] at e2; simp at e2
        · rw [hid] at e2; simp only [Option.some.injEq, O.mapo.injEq] at e2
          obtain ⟨rfl, rfl⟩ := e2
          exact main hx0 hhb hks hn hrep hkr.of_c hq h1.symm h2.symm
    · cases hact
  · cases hact

theorem mapUpd_ok {o : Oper} {t kt et : TypeId} {M K U : Operand} (ho : o.op = .mapUpdate t M K U) (hu : P.underlying t = some (.map kt et)) (hk : P.underlying kt = some .string)
    {m k u : A} (hm : trA M = some m) (hkk : trA K = some k) (huu : trA U = some u) {st : St} (ht : Tm g w a st.tm) (H : HOk g w st.h) {cf : CallF} {v : V} {h' : List O}
    (hact : act cf st (.mapUpd m k u) = some (v, h')) (E : Nat → Prop) : ActOk P g w a o E st.h v h' := by
  have hr := ev_rep ht hm
  have hkr := ev_rep ht hkk
  have hur := ev_rep ht huu
  simp only [act] at hact
  split at hact
  · rename_i id s he hke
    rw [he] at hr
    rw [hke] at hkr
    split at hact
    · rename_i ks vs hid
      simp only [Option.map_eq_some_iff, Prod.mk.injEq] at hact
      obtain ⟨⟨ks', vs'⟩, hq, rfl, rfl⟩ := hact
      obtain ⟨x0, hx0⟩ : ∃ x0, a.eval M = x0 := ⟨_, rfl⟩
      rw [hx0] at hr
      cases hr with
      | mref _ b hb =>
        rcases H.obj _ _ hb with ⟨_, _, _, e2, _⟩ | ⟨s, L, e2, _⟩ | ⟨ks0, vs0, es, ck, e2, hhb, hks, hn, hrep, hnf⟩
        · rw [hid] at e2; simp at e2
        · rw [hid] at e2; simp at e2
        · rw [hid] at e2; simp only [Option.some.injEq, O.mapo.injEq] at e2
          obtain ⟨rfl, rfl⟩ := e2
          have h1 := MapKept.run_checkKey (P := P) (w := w) (kt := kt) (d := .string) (k := .string s) hk trivial false 9999
          -- the run, and the entries behind it
          obtain ⟨es', ck', hrun, hks', hn', hrep'⟩ : ∃ es' ck', (Instr.mapUpdate t (.map (some b)) (.string s) (a.eval U)).run P w = .ok () { w with heap := w.heap.setIfInBounds b (.map es' ck') } ∧ es'.toList.map (·.key) = ks' ∧ es'.size = vs'.length ∧
              ∀ i (hi : i < es'.size) (hj : i < vs'.length), Rep g w (es'[i]).val vs'[i] := by
            rcases mput_ok (es := es.toList) 0 hq hks (by simpa using hn) with ⟨f1, rfl, rfl⟩ | ⟨j, e, f1, f2, f3, rfl, rfl⟩
            · refine ⟨es.push { key := .string s, val := a.eval U, born := ck }, ck + 1, ?_, by simp [hks], by simp [hn], fun i hi hj => ?_⟩
              · simp only [Instr.mapUpdate, Sem.run_bind, run_underlying hu, Result.andThen_ok, MapKept.run_getObj_map hhb, h1, MapKept.run_findKey hk f1, MapKept.run_setObj_map _ hhb]
              · rw [Array.getElem_push, List.getElem_append]
                by_cases hlt : i < es.size
                · have hlt' : i < vs.length := by omega
                  simp only [hlt, hlt', dif_pos]
                  exact hrep i hlt hlt'
                · have hlt' : ¬ i < vs.length := by omega
                  simp only [hlt, hlt', dif_neg, not_false_eq_true, List.getElem_singleton]
                  exact hur
            · have hj1 : es[j]? = some e := by simpa using f1
              have hjl : j < es.size := (Array.getElem?_eq_some_iff.1 hj1).1
              refine ⟨es.modify j fun e => { e with key := .string s, val := a.eval U }, ck, ?_, ?_, by simp [hn], fun i hi hj => ?_⟩
              · have hst := MapKept.run_keyThatStays (P := P) (w := w) (d := .string) (k := .string s) trivial
                simp only [Instr.mapUpdate, Sem.run_bind, run_underlying hu, Result.andThen_ok, MapKept.run_getObj_map hhb, h1, MapKept.run_findKey hk f3, Nat.zero_add, hj1, Option.map_some, Option.getD_some, f2, hst, MapKept.run_setObj_map _ hhb]
              · rw [MapKept.modify_keys j _ fun e' he' => by rw [hj1] at he'; cases he'; exact f2.symm]
                exact hks
              · rw [List.getElem_set]
                simp only [Array.size_modify] at hi
                rw [Array.getElem_modify]
                by_cases hij : j = i
                · subst hij
                  simp only [if_true]
                  exact hur
                · simp only [hij, if_false]
                  exact hrep i hi (by omega)
          obtain ⟨hle, hok⟩ := H.setOth hb hhb rfl (ob' := .map es' ck') rfl trivial (w' := { w with heap := w.heap.setIfInBounds b (.map es' ck') }) rfl rfl rfl rfl (x := .mapo ks' vs')
            (fun h2 hx2 hb2 _ hmono => .inr ⟨ks', vs', es', ck', hx2, hb2, hks', hn', fun i hi hj => hmono (hrep' i hi hj), hnf⟩)
          refine ⟨undef, _, g, .inr ⟨?_, rfl⟩, hle, hok, .c _, fun i hi => ⟨fun h => h, fun h => h, fun e1 _ => ?_⟩⟩
          · simp only [execOp, ho, hx0, hkr.of_c, Sem.run_bind, hrun, Result.andThen_ok, Sem.run_pure]
          · rw [List.getElem?_set_ne]
            rintro rfl
            rw [e1] at hb; cases hb
    · cases hact
  · cases hact

/-- Is it a call of a function? -/
def isCall : XOp → Bool
  | .call _ _ => true
  | _ => false

/-- What the new objects of an operation begin as. -/
def preOk (st : St) (al : Nat) (x : XOp) (pre : List O) : Prop := isAl x = true → ∀ p ∈ pre, st.h[st.rb + al]? = some p

theorem act_pure {cf : CallF} {st : St} {x : XOp} {v : V} {h' : List O} (hact : (pureV st.tm st.rb x).map (·, st.h) = some (v, h')) : pureV st.tm st.rb x = some v ∧ h' = st.h := by
  simp only [Option.map_eq_some_iff, Prod.mk.injEq] at hact
  obtain ⟨v', h1, rfl, rfl⟩ := hact
  exact ⟨h1, rfl⟩

theorem act_ok {o : Oper} {al : Nat} {x : XOp} {pre : List O} {rw : Bool} (htr : trOp P rw al o.op = some (x, pre)) {st : St} (ht : Tm g w a st.tm) (H : HOk g w st.h) {cf : CallF} {v : V} {h' : List O} (hact : act cf st x = some (v, h'))
    (hnc : isCall x = false) (hsl : pre ≠ [] → g.blk (st.rb + al) = none ∧ g.tok (st.rb + al) = none) (hpre : preOk st al x pre) :
    ActOk P g w a o (fun id => (pre ≠ [] ∧ id = st.rb + al) ∨ st.h[id]? = some .free) st.h v h' := by
  have htr' := htr
  have weak : ∀ {E : Nat → Prop} {h h' : List O} {v : V}, ActOk P g w a o E h v h' → (∀ id, E id → (pre ≠ [] ∧ id = st.rb + al) ∨ st.h[id]? = some .free) → ActOk P g w a o (fun id => (pre ≠ [] ∧ id = st.rb + al) ∨ st.h[id]? = some .free) h v h' := by
    rintro E h h' v ⟨val, w', g', h1, h2, h3, h4, h5⟩ hE
    exact ⟨val, w', g', h1, h2, h3, h4, h5.mono hE⟩
  have pureCase : act cf st x = (pureV st.tm st.rb x).map (·, st.h) → isAl x = false → ActOk P g w a o (fun id => (pre ≠ [] ∧ id = st.rb + al) ∨ st.h[id]? = some .free) st.h v h' := by
    intro he hna
    rw [he] at hact
    obtain ⟨h1, rfl⟩ := act_pure (cf := cf) hact
    exact (pure_ok htr' ht h1 hna).act H _
  cases hop : o.op with
  | alloc e =>
    rw [hop] at htr; simp only [trOp, Option.map_eq_some_iff, Prod.mk.injEq] at htr
    obtain ⟨z, hz, rfl, rfl⟩ := htr
    obtain ⟨h1, rfl⟩ := act_pure (cf := cf) (show (pureV st.tm st.rb (.alloc al z)).map (·, st.h) = some (v, h') from hact)
    simp only [pureV, Option.some.injEq] at h1
    subst h1
    exact weak (alloc_ok hop hz H (hpre rfl _ (by simp)) (hsl (by simp))) (fun id h => .inl ⟨by simp, h⟩)
  | box e X =>
    rw [hop] at htr; simp only [trOp, Option.map_eq_some_iff, Prod.mk.injEq] at htr
    obtain ⟨x', hx, rfl, rfl⟩ := htr
    simp only [act] at hact
    split at hact
    · rename_i hd
      split at hact
      · rename_i hokc
        simp only [Option.some.injEq, Prod.mk.injEq] at hact
        obtain ⟨rfl, rfl⟩ := hact
        exact weak (box_ok hop ht hx H (List.getElem?_eq_some_iff.1 hd).1 hokc (hsl (by simp))) (fun id h => .inl ⟨by simp, h⟩)
      · cases hact
    · cases hact
  | buildSlice t n parts =>
    rw [hop] at htr; simp only [trOp] at htr
    split at htr
    · rename_i e hu
      split at htr
      · rename_i z zz xas hz hzz has
        split at htr
        · rename_i hcond
          simp only [Option.some.injEq, Prod.mk.injEq] at htr
          obtain ⟨rfl, rfl⟩ := htr
          obtain ⟨h1, rfl⟩ := act_pure (cf := cf) (show (pureV st.tm st.rb (.bslice al z xas)).map (·, st.h) = some (v, h') from hact)
          simp only [pureV] at h1
          split at h1
          · rename_i hall
            simp only [Option.some.injEq] at h1
            subst h1
            refine weak (bslice_ok hop hu hz hzz has hcond.1 hcond.2 ht (fun u hu' => ?_) H (hpre rfl _ (by simp)) (hsl (by simp))) (fun id h => .inl ⟨by simp, h⟩)
            have := List.all_eq_true.1 hall u hu'
            simpa using this
          · cases h1
        · cases htr
      · cases htr
    · cases htr
  | load t X =>
    rw [hop] at htr; simp only [trOp] at htr
    split at htr
    · rename_i n' x' hn hx
      simp only [Option.some.injEq, Prod.mk.injEq] at htr
      obtain ⟨rfl, rfl⟩ := htr
      exact load_ok hop hn hx ht H hact _
    · cases htr
  | store t X Y =>
    rw [hop] at htr; simp only [trOp] at htr
    split at htr
    · rename_i n' x' y' hn hx hy
      simp only [Option.some.injEq, Prod.mk.injEq] at htr
      obtain ⟨rfl, rfl⟩ := htr
      exact store_ok hop hn hx hy ht H hact _
    · cases htr
  | call c =>
    rw [hop] at htr; simp only [trOp] at htr
    obtain ⟨cal, args, tys⟩ := c
    cases cal with
    | invoke r m => simp [trCall] at htr
    | value f =>
      simp only [trCall] at htr
      split at htr
      · simp only [Option.some.injEq, Prod.mk.injEq] at htr
        obtain ⟨rfl, rfl⟩ := htr
        simp [isCall] at hnc
      · cases htr
    | builtin b =>
      cases b
      case len =>
        simp only [trCall] at htr
        split at htr
        · simp only [trLen] at htr
          split at htr
          · simp only [Option.some.injEq, Prod.mk.injEq] at htr
            obtain ⟨rfl, rfl⟩ := htr
            exact pureCase rfl rfl
          · simp only [Option.some.injEq, Prod.mk.injEq] at htr
            obtain ⟨rfl, rfl⟩ := htr
            exact pureCase rfl rfl
          · cases htr
        · cases htr
      case append =>
        simp only [trCall] at htr
        split at htr
        · rename_i X Y t u h1 h2
          have hX : args = #[X, Y] := Array.ext' h1
          have hT : tys = #[t, u] := Array.ext' h2
          subst hX hT
          have hp : pre ≠ [] := by
            simp only [trApp] at htr
            split at htr
            · split at htr
              · split at htr
                · simp only [Option.some.injEq, Prod.mk.injEq] at htr
                  rw [← htr.2]; simp
                · cases htr
              · cases htr
            · cases htr
          exact weak (append_ok (args := #[X, Y]) hop htr ht H hact (hsl hp)) (fun id h => h.imp (fun h => ⟨hp, h⟩) fun h => h)
        · cases htr
      case min =>
        simp only [trCall, Option.map_eq_some_iff, Prod.mk.injEq] at htr
        obtain ⟨xas, has, rfl, rfl⟩ := htr
        exact pureCase rfl rfl
      case max =>
        simp only [trCall, Option.map_eq_some_iff, Prod.mk.injEq] at htr
        obtain ⟨xas, has, rfl, rfl⟩ := htr
        exact pureCase rfl rfl
      all_goals simp [trCall] at htr
  | move X =>
    rw [hop] at htr; simp only [trOp, Option.map_eq_some_iff, Prod.mk.injEq] at htr
    obtain ⟨x', hx', rfl, rfl⟩ := htr
    exact pureCase rfl rfl
  | assign X =>
    rw [hop] at htr; simp only [trOp, Option.map_eq_some_iff, Prod.mk.injEq] at htr
    obtain ⟨x', hx', rfl, rfl⟩ := htr
    exact pureCase rfl rfl
  | unOp op t X =>
    rw [hop] at htr; simp only [trOp, Option.map_eq_some_iff, Prod.mk.injEq] at htr
    obtain ⟨x', hx', rfl, rfl⟩ := htr
    exact pureCase rfl rfl
  | extract X i =>
    rw [hop] at htr; simp only [trOp, Option.map_eq_some_iff, Prod.mk.injEq] at htr
    obtain ⟨x', hx', rfl, rfl⟩ := htr
    exact pureCase rfl rfl
  | nilCheck X =>
    rw [hop] at htr; simp only [trOp, Option.map_eq_some_iff, Prod.mk.injEq] at htr
    obtain ⟨x', hx', rfl, rfl⟩ := htr
    exact pureCase rfl rfl
  | makeFunc fn first caps =>
    rw [hop] at htr
    cases fn with
    | func f =>
      simp only [trOp] at htr
      split at htr
      · simp only [Option.map_eq_some_iff, Prod.mk.injEq] at htr
        obtain ⟨cs, hcs, rfl, rfl⟩ := htr
        exact pureCase rfl rfl
      · cases htr
    | _ => simp [trOp] at htr
  | pick C X Y =>
    rw [hop] at htr; simp only [trOp] at htr
    split at htr
    · simp only [Option.some.injEq, Prod.mk.injEq] at htr
      obtain ⟨rfl, rfl⟩ := htr
      exact pureCase rfl rfl
    · cases htr
  | binOp op t X Y ty =>
    rw [hop] at htr; simp only [trOp] at htr
    split at htr
    · simp only [Option.some.injEq, Prod.mk.injEq] at htr
      obtain ⟨rfl, rfl⟩ := htr
      exact pureCase rfl rfl
    · cases htr
  | convert s d X =>
    rw [hop] at htr; simp only [trOp] at htr
    split at htr
    · simp only [Option.some.injEq, Prod.mk.injEq] at htr
      obtain ⟨rfl, rfl⟩ := htr
      exact pureCase rfl rfl
    · cases htr
  | build t parts =>
    rw [hop] at htr; simp only [trOp] at htr
    split at htr
    · split at htr
      · simp only [Option.map_eq_some_iff, Prod.mk.injEq] at htr
        obtain ⟨l, hl, rfl, rfl⟩ := htr
        exact pureCase rfl rfl
      · cases htr
    · cases htr
  | fieldAddr s X f =>
    rw [hop] at htr; simp only [trOp] at htr
    split at htr
    · split at htr
      · split at htr
        · simp only [Option.some.injEq, Prod.mk.injEq] at htr
          obtain ⟨rfl, rfl⟩ := htr
          exact pureCase rfl rfl
        · cases htr
      · cases htr
    · cases htr
  | field s X f =>
    rw [hop] at htr; simp only [trOp] at htr
    split at htr
    · split at htr
      · simp only [Option.map_eq_some_iff, Prod.mk.injEq] at htr
        obtain ⟨n, hn, rfl, rfl⟩ := htr
        exact pureCase rfl rfl
      · cases htr
    · cases htr
  | indexAddr t X I =>
    rw [hop] at htr; simp only [trOp] at htr
    split at htr
    · simp only [Option.map_eq_some_iff, Prod.mk.injEq] at htr
      obtain ⟨n, hn, rfl, rfl⟩ := htr
      exact pureCase rfl rfl
    · cases htr
  | index t X I =>
    rw [hop] at htr; simp only [trOp] at htr
    split at htr
    · simp only [Option.some.injEq, Prod.mk.injEq] at htr
      obtain ⟨rfl, rfl⟩ := htr
      exact pureCase rfl rfl
    · cases htr
  | slice t X lo hi mx =>
    rw [hop] at htr; simp only [trOp] at htr
    split at htr
    · simp only [Option.map_eq_some_iff, Prod.mk.injEq] at htr
      obtain ⟨n, hn, rfl, rfl⟩ := htr
      exact pureCase rfl rfl
    · simp only [Option.some.injEq, Prod.mk.injEq] at htr
      obtain ⟨rfl, rfl⟩ := htr
      exact pureCase rfl rfl
    · cases htr
  | makeMap t r =>
    rw [hop] at htr
    cases r with
    | some r => simp [trOp] at htr
    | none =>
      simp only [trOp, Option.some.injEq, Prod.mk.injEq] at htr
      obtain ⟨rfl, rfl⟩ := htr
      simp only [act] at hact
      split at hact
      · rename_i hd
        simp only [Option.some.injEq, Prod.mk.injEq] at hact
        obtain ⟨rfl, rfl⟩ := hact
        exact weak (makeMap_ok hop H (List.getElem?_eq_some_iff.1 hd).1 (hsl (by simp))) (fun id h => .inl ⟨by simp, h⟩)
      · cases hact
  | lookup t X K ok =>
    rw [hop] at htr; simp only [trOp] at htr
    split at htr
    · rename_i kt et hu
      split at htr
      · rename_i z x' k' h1 h2 h3 h4
        split at htr
        · rename_i hc
          simp only [Option.some.injEq, Prod.mk.injEq] at htr
          obtain ⟨rfl, rfl⟩ := htr
          exact lookup_ok hop hu h1 h2 hc h3 h4 ht H hact _
        · cases htr
      · cases htr
    · cases htr
  | mapUpdate t M K U =>
    rw [hop] at htr; simp only [trOp] at htr
    split at htr
    · rename_i kt et hu
      split at htr
      · rename_i m' k' u' h1 h2 h3 h4
        simp only [Option.some.injEq, Prod.mk.injEq] at htr
        obtain ⟨rfl, rfl⟩ := htr
        exact mapUpd_ok hop hu h1 h2 h3 h4 ht H hact _
      · cases htr
    · cases htr
  | _ => rw [hop] at htr; simp [trOp] at htr
end
end Go.Proofs.YtkiliokeanmagaaDoor.Ab
