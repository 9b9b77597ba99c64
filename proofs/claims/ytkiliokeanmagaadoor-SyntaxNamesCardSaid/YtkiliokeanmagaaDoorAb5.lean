/- Literals, slices, and all the operations that leave memory alone. -/
import Derived.Test.YtkiliokeanmagaaDoorAb4
namespace Go.Proofs.YtkiliokeanmagaaDoor.Ab
open Go
set_option linter.unusedVariables false
set_option linter.unusedSimpArgs false

/-- Cells, one by one. -/
def CR (g : Gh) (w : World) (xs : Array Value) (cs : List V) : Prop :=
  xs.size = cs.length ∧ ∀ j (hi : j < xs.size) (hj : j < cs.length), Rep g w xs[j] cs[j] ∧ (xs[j]).oneCell' = true

theorem foldl_set (off : Nat) : ∀ (l : List Value) (i : Nat) (cells : Array Value), off + i + l.length ≤ cells.size →
    ((l.zipIdx i).foldl (fun cs (x : Value × Nat) => match x with | (c, j) => cs.setIfInBounds (off + j) c) cells).toList = cells.toList.take (off + i) ++ (l ++ cells.toList.drop (off + i + l.length))
  | [], i, cells, h => by simp
  | v :: l, i, cells, h => by
    simp only [List.length_cons] at h
    have ih := foldl_set off l (i + 1) (cells.setIfInBounds (off + i) v) (by simp; omega)
    simp only [List.zipIdx_cons, List.foldl_cons]
    rw [ih]
    apply List.ext_getElem?
    intro k
    simp only [Array.toList_setIfInBounds, List.getElem?_append, List.length_take, List.length_set, Array.length_toList, List.length_cons, List.getElem?_take, List.getElem?_drop, List.getElem?_set, List.getElem?_cons]
    have h1 : min (off + (i + 1)) cells.size = off + (i + 1) := by omega
    have h2 : min (off + i) cells.size = off + i := by omega
    rw [h1, h2]
    by_cases c1 : k < off + i
    · have c2 : k < off + (i + 1) := by omega
      have c3 : ¬ off + i = k := by omega
      simp [c1, c2, c3]
    · by_cases c2 : k = off + i
      · subst c2
        have c3 : off + i < off + (i + 1) := by omega
        have c4 : off + i < cells.size := by omega
        simp [c3, c4]
      · have c3 : ¬ k < off + (i + 1) := by omega
        have c4 : k - (off + i) ≠ 0 := by omega
        simp only [c1, c3, if_false, c4]
        have c5 : k - (off + i) - 1 = k - (off + (i + 1)) := by omega
        rw [c5]
        by_cases c6 : k - (off + (i + 1)) < l.length
        · have c7 : k - (off + i) < l.length + 1 := by omega
          simp [c6, c7]
        · have c7 : ¬ k - (off + i) < l.length + 1 := by omega
          simp only [c6, c7, if_false]
          have c8 : off + (i + 1) + l.length + (k - (off + (i + 1)) - l.length) = off + i + (l.length + 1) + (k - (off + i) - (l.length + 1)) := by omega
          rw [c8]
          have c9 : ¬ off + i = off + i + (l.length + 1) + (k - (off + i) - (l.length + 1)) := by omega
          simp [c9]

theorem foldl_fill (off : Nat) (v cells : Array Value) (h : off + v.size ≤ cells.size) :
    (v.zipIdx.foldl (fun cs (x : Value × Nat) => match x with | (c, j) => cs.setIfInBounds (off + j) c) cells).toList = cells.toList.take off ++ (v.toList ++ cells.toList.drop (off + v.size)) := by
  rw [← Array.foldl_toList, Array.toList_zipIdx]
  have := foldl_set off v.toList 0 cells (by simpa using h)
  simpa using this

section
variable {P : Program} {g : Gh} {w : World} {a : Act} {tm : List V}

theorem CR.get? {xs : Array Value} {cs : List V} (h : CR g w xs cs) {j : Nat} {x : Value} (hx : xs.toList[j]? = some x) : ∃ v, cs[j]? = some v ∧ Rep g w x v ∧ x.oneCell' = true := by
  obtain ⟨hj, rfl⟩ := List.getElem?_eq_some_iff.1 hx
  have hj' : j < cs.length := by rw [← h.1]; simpa using hj
  have := h.2 j (by simpa using hj) hj'
  exact ⟨cs[j], List.getElem?_eq_getElem hj', by simpa using this.1, by simpa using this.2⟩
theorem CR.of {xs : Array Value} {cs : List V} (hl : xs.size = cs.length) (h : ∀ (j : Nat) (x : Value) (v : V), xs.toList[j]? = some x → cs[j]? = some v → Rep g w x v ∧ x.oneCell' = true) : CR g w xs cs :=
  ⟨hl, fun j hi hj => h j _ _ (by simp [List.getElem?_eq_getElem hi]) (List.getElem?_eq_getElem hj)⟩
theorem CR.cells {x : Value} {v : V} (h : Rep g w x v) (ho : okc v = true) : CR g w x.cells v.cells :=
  ⟨(h.cells ho).1, fun j hi hj => (h.cells ho).2 j hj hi⟩
theorem CR.agg {xs : Array Value} {cs : List V} (h : CR g w xs cs) : Rep g w (.agg xs) (.agg cs) :=
  .agg xs cs h.1 (fun i hi => (h.2 i hi (by rw [← h.1]; exact hi)).2) (fun i hi hj => (h.2 i hi hj).1)
theorem CR.mono {g' : Gh} {w' : World} (hle : Le g w g' w') {xs : Array Value} {cs : List V} (h : CR g w xs cs) : CR g' w' xs cs := ⟨h.1, fun j hi hj => ⟨(h.2 j hi hj).1.mono hle, (h.2 j hi hj).2⟩⟩

/-- Cells written over. -/
theorem CR.splice {xs : Array Value} {cs : List V} (h : CR g w xs cs) {ys : Array Value} {vs : List V} (k : CR g w ys vs) {off : Nat} (ho : off + vs.length ≤ cs.length) {zs : Array Value}
    (hz : zs.toList = xs.toList.take off ++ (ys.toList ++ xs.toList.drop (off + ys.size))) : CR g w zs (splice cs off vs) := by
  have hs := congrArg List.length hz
  simp only [Array.length_toList, List.length_append, List.length_take, List.length_drop] at hs
  have h1 := h.1
  have k1 := k.1
  refine CR.of (by simp only [Ab.splice, List.length_append, List.length_take, List.length_drop]; omega) fun j x v hx hv => ?_
  rw [hz] at hx
  simp only [Ab.splice] at hv
  rw [List.getElem?_append] at hx hv
  have e1 : (xs.toList.take off).length = off := by simp; omega
  have e2 : (cs.take off).length = off := by simp; omega
  rw [e1] at hx
  rw [e2] at hv
  by_cases c1 : j < off
  · simp only [c1, if_true, List.getElem?_take] at hx hv
    obtain ⟨v', hv', r⟩ := h.get? hx
    rw [hv] at hv'
    simp only [Option.some.injEq] at hv'
    subst hv'
    exact r
  · simp only [c1, if_false] at hx hv
    rw [List.getElem?_append] at hx hv
    rw [Array.length_toList, k1] at hx
    by_cases c2 : j - off < vs.length
    · simp only [c2, if_true] at hx hv
      obtain ⟨v', hv', r⟩ := k.get? hx
      rw [hv] at hv'
      simp only [Option.some.injEq] at hv'
      subst hv'
      exact r
    · simp only [c2, if_false, List.getElem?_drop] at hx hv
      rw [← List.getElem?_drop, List.getElem?_drop] at hx
      obtain ⟨v', hv', r⟩ := h.get? hx
      rw [hv] at hv'
      simp only [Option.some.injEq] at hv'
      subst hv'
      exact r

theorem okc_vw2 (v : V) : okc v.vw2 = okc v := by cases v <;> simp [V.vw2, V.vw1, okc]

theorem Rep.vwf {g : Gh} {w : World} {x : Value} {v : V} (h : Rep g w x v) : Rep g w x v.vwf := by
  cases v with
  | sl us i => cases i <;> first | exact h | exact h.vw2
  | _ => exact h.vw2
theorem fill_ok {fields : Array Go.Field} {places : Array (Nat × Nat)} (hp : ∀ (i : Nat) (f : Go.Field), fields[i]? = some f → ∀ n, szT P f.type = some n → places[i]? = some (f.offset, n)) (ht : Tm g w a tm) :
    ∀ {parts : List (Nat × Operand)} {l : List (Nat × Nat × A)}, trParts P fields parts = some l → ∀ {cells : Array Value} {zs cs : List V}, CR g w cells zs → fillV zs tm l = some cs →
      ∃ cells', Instr.fill (fun i => places[i]?) cells (parts.map fun (x : Nat × Operand) => match x with | (i, x) => (i, a.eval x)) = some cells' ∧ CR g w cells' cs
  | [], l, h, cells, zs, cs, hc, hf => by
    simp only [trParts, Option.some.injEq] at h
    subst h
    simp only [fillV, Option.some.injEq] at hf
    subst hf
    exact ⟨cells, rfl, hc⟩
  | (i, x) :: r, l, h, cells, zs, cs, hc, hf => by
    simp only [trParts] at h
    split at h
    · rename_i f ax l' h1 h2 h3
      split at h
      · rename_i n hn
        simp only [Option.some.injEq] at h
        subst h
        simp only [fillV] at hf
        split at hf
        · rename_i hok
          obtain ⟨ho, hsz, hle⟩ := hok
          have hr := (ev_rep ht h2).vwf
          have hcr := CR.cells hr ho
          have hplace := hp i f h1 n hn
          have hsize : (a.eval x).cells.size = n := by rw [hcr.1]; exact hsz
          have hcs := hc.1
          have hle' : f.offset + (a.eval x).cells.size ≤ cells.size := by omega
          have hfo := foldl_fill f.offset (a.eval x).cells cells hle'
          have hcr2 := hc.splice hcr (off := f.offset) (by rw [hsz]; exact hle) hfo
          obtain ⟨cells', h4, h5⟩ := fill_ok hp ht h3 hcr2 hf
          refine ⟨cells', ?_, h5⟩
          simp only [List.map_cons, Instr.fill, hplace]
          rw [if_neg (by simp [hsize]; omega)]
          exact h4
        · cases hf
      · cases h
    · cases h

theorem run_mapM_list {α β : Type} (f : α → Sem β) (G : α → β) : ∀ (l : List α), (∀ x ∈ l, ∀ w, (f x).run P w = .ok (G x) w) → (l.mapM f).run P w = .ok (l.map G) w
  | [], _ => by simp
  | x :: l, h => by
    have h1 := h x (by simp) w
    have h2 := run_mapM_list f G l fun y hy => h y (by simp [hy])
    simp [h1, h2]
theorem run_mapM_arr {α β : Type} (f : α → Sem β) (G : α → β) (xs : Array α) (h : ∀ x ∈ xs.toList, ∀ w, (f x).run P w = .ok (G x) w) : (xs.mapM f).run P w = .ok (xs.map G) w := by
  rw [Array.mapM_eq_mapM_toList]
  simp only [Sem.run_map, run_mapM_list f G xs.toList h, Result.andThen_ok]
  congr 1
  apply Array.ext'
  simp

theorem zero_ok {t : TypeId} {z : List V} (h : zeroT P t = some z) : ∃ v i, P.info? t = some i ∧ i.zero = some v ∧ v.cells.size = i.size ∧ (zeroValue t).run P w = .ok v w ∧ CR g w v.cells z := by
  unfold zeroT at h
  split at h
  · rename_i i hi
    split at h
    · rename_i v hv
      split at h
      · rename_i hok
        simp only [Bool.and_eq_true, List.all_eq_true, beq_iff_eq] at hok
        simp only [Option.some.injEq] at h
        subst h
        refine ⟨v, i, hi, hv, hok.2, by simp [zeroValue, typeInfo, hi, hv], CR.of (by simp) fun j x u hx hu => ?_⟩
        rw [List.getElem?_map, hx] at hu
        simp only [Option.map_some, Option.some.injEq] at hu
        subst hu
        exact ⟨toV1_rep g w x, hok.1 x (List.mem_of_getElem? hx)⟩
      · cases h
    · cases h
  · cases h

theorem build_ok {t : TypeId} {fields : Array Go.Field} (hu : P.underlying t = some (.struct fields)) {z : List V} (hz : zeroT P t = some z) (hs : fields.toList.all (fun f => (szT P f.type).isSome) = true)
    {parts : Array (Nat × Operand)} {l : List (Nat × Nat × A)} (hp : trParts P fields parts.toList = some l) (ht : Tm g w a tm) {cs : List V} (hf : fillV z tm l = some cs) :
    ∃ xs, (Instr.build t (parts.map fun (x : Nat × Operand) => match x with | (i, x) => (i, a.eval x))).run P w = .ok (.agg xs) w ∧ CR g w xs cs := by
  obtain ⟨v, i, hi, hv, hsz, hrun, hcr⟩ := zero_ok (P := P) (g := g) (w := w) hz
  let G : Go.Field → Nat × Nat := fun f => (f.offset, (szT P f.type).getD 0)
  have hm : (fields.mapM (fun f => (do pure (f.offset, ← Go.sizeOf f.type) : Sem (Nat × Nat)))).run P w = .ok (fields.map G) w := by
    refine run_mapM_arr _ G fields fun f hf w => ?_
    have := List.all_eq_true.1 hs f hf
    obtain ⟨n, hn⟩ := Option.isSome_iff_exists.1 this
    simp [sz_run hn, G, hn]
  obtain ⟨cells', h1, h2⟩ := fill_ok (P := P) (fields := fields) (places := fields.map G) (fun i f hif n hn => by simp [hif, G, hn]) ht hp hcr hf
  refine ⟨cells', ?_, h2⟩
  simp only [Instr.build, Sem.run_bind, hrun, Result.andThen_ok, hu_run hu, hm, Array.toList_map, h1]
  rfl

theorem len_sl {t e ty : TypeId} (hu : P.underlying t = some (.slice e)) {x : Value} {us : List V} {i : SI} (hx : Rep g w x (.sl us i)) :
    (Builtin.len_ #[t] ty #[x]).run P w = .ok (.int .i64 us.length) w := by
  cases hx with
  | sl A n cap us i z cv hn hc hzz hA hr hi => subst hn; simp [Builtin.len_, run_underlying hu, goInt]
theorem len_row {t e ty : TypeId} (hu : P.underlying t = some (.slice e)) {x : Value} {id off n : Nat} {z : Option Nat} (hx : Rep g w x (.row id off n z)) :
    (Builtin.len_ #[t] ty #[x]).run P w = .ok (.int .i64 n) w := by
  cases hx with
  | row A n cap id off z hc h => simp [Builtin.len_, run_underlying hu, goInt]
theorem len_tsl {t e ty : TypeId} (hu : P.underlying t = some (.slice e)) {x : Value} {k n : Nat} {z : Option Nat} (hx : Rep g w x (.tsl k n z)) :
    (Builtin.len_ #[t] ty #[x]).run P w = .ok (.int .i64 n) w := by
  cases hx with
  | tsl A n cap k z hc hA h => simp [Builtin.len_, run_underlying hu, goInt]
theorem len_str {t ty : TypeId} (hu : P.underlying t = some .string) {x : Value} {s : ByteArray} (hx : Rep g w x (.c (.string s))) :
    (Builtin.len_ #[t] ty #[x]).run P w = .ok (.int .i64 s.size) w := by
  rw [hx.of_c]; simp [Builtin.len_, run_underlying hu, goInt]
end
end Go.Proofs.YtkiliokeanmagaaDoor.Ab
