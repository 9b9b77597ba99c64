/- From operations to the interpreter's: the translation; operations that leave memory alone. -/
import Derived.Test.YtkiliokeanmagaaDoorAb2
namespace Go.Proofs.YtkiliokeanmagaaDoor.Ab
open Go
set_option linter.unusedVariables false
set_option linter.unusedSimpArgs false
section
variable (P : Program) (rw : Bool)
def isAggB (t : TypeId) : Option Bool :=
  match P.underlying t with
  | some (.struct _) => some true
  | some (.array _ _) => some true
  | some _ => some false
  | none => none
def szT (t : TypeId) : Option Nat := (P.info? t).map (·.size)
def nT (t : TypeId) : Option (Option Nat) :=
  match isAggB P t, szT P t with
  | some true, some n => some (some n)
  | some false, some _ => some none
  | _, _ => none
def constOk : Value → Bool
  | .agg cs => cs.toList.all Value.oneCell'
  | _ => true
def trA : Operand → Option A
  | .tmp t => some (.t t)
  | .const v => if constOk v then some (.k (toV v)) else none
  | .func f => some (.k (.c (.func (.func f) #[] #[])))
  | .global n => (gvs n).map .k
def trAL : List Operand → Option (List A)
  | [] => some []
  | x :: r => match trA x, trAL r with
    | some a, some l => some (a :: l)
    | _, _ => none
def trAO : Option Operand → Option (Option A)
  | none => some none
  | some x => (trA x).map some
def zeroT (t : TypeId) : Option (List V) :=
  match P.info? t with
  | some i => match i.zero with
    | some z => if z.cells.toList.all Value.oneCell' && z.cells.size == i.size then some (z.cells.toList.map toV1) else none
    | none => none
  | none => none
def trParts (fields : Array Go.Field) : List (Nat × Operand) → Option (List (Nat × Nat × A))
  | [] => some []
  | (i, x) :: r => match fields[i]?, trA x, trParts fields r with
    | some f, some a, some l => match szT P f.type with
      | some n => some ((f.offset, n, a) :: l)
      | none => none
    | _, _, _ => none
def qT (t : TypeId) : Option Nat :=
  match P.underlying t with
  | some (.int _) => some 0
  | some .string => some 0
  | some .bool => some 1
  | some (.slice _) => some 2
  | some (.pointer _) => some 3
  | _ => none
def trLen (t : TypeId) (x : Operand) : Option (XOp × List O) :=
  match P.underlying t, trA x with
  | some (.slice _), some x => some (.len false x, [])
  | some .string, some x => some (.len true x, [])
  | _, _ => none
def trApp (al : Nat) (t u : TypeId) (x y : Operand) : Option (XOp × List O) :=
  match P.underlying t, P.underlying u, trA x, trA y with
  | some (.slice e), some (.slice _), some x, some y => match P.info? e, zeroT P e, nT P e with
    | some i, some _, some z => if zc z = i.size then some (.append al z i.bytes rw x y, [if i.bytes = 24 then .want else .dead]) else none
    | _, _, _ => none
  | _, _, _, _ => none
def trCall (al : Nat) (c : Call) : Option (XOp × List O) :=
  match c.callee with
  | .value f => match trA f, trAL c.args.toList with
    | some f, some xas => some (.call f xas, [])
    | _, _ => none
  | .builtin .len => match c.args.toList, c.argTypes.toList with
    | [x], [t] => trLen P t x
    | _, _ => none
  | .builtin .append => match c.args.toList, c.argTypes.toList with
    | [x, y], [t, u] => trApp P rw al t u x y
    | _, _ => none
  | .builtin .min => (trAL c.args.toList).map fun xs => (.mm false xs, [])
  | .builtin .max => (trAL c.args.toList).map fun xs => (.mm true xs, [])
  | _ => none
def trOp (al : Nat) : Op → Option (XOp × List O)
  | .move x => (trA x).map fun x => (.mv x, [])
  | .assign x => (trA x).map fun x => (.mv x, [])
  | .pick c a b => match trA c, trA a, trA b with
    | some c, some a, some b => some (.pick c a b, [])
    | _, _, _ => none
  | .alloc e => (zeroT P e).map fun z => (.alloc al z, [.cells z])
  | .box _ x => (trA x).map fun x => (.box al x, [.dead])
  | .build t parts => match P.underlying t, zeroT P t with
    | some (.struct fields), some z => if fields.toList.all (fun f => (szT P f.type).isSome) then (trParts P fields parts.toList).map fun l => (.build z l, []) else none
    | _, _ => none
  | .buildSlice t len parts => match P.underlying t with
    | some (.slice e) => match szT P e, zeroT P e, trAL (parts.toList.map (·.2)) with
      | some z, some _, some xas => if parts.toList.map (·.1) = List.range len ∧ len * z ≤ 16777216 then some (.bslice al z xas, [.tok len z]) else none
      | _, _, _ => none
    | _ => none
  | .load t x => match nT P t, trA x with
    | some n, some x => some (.load n x, [])
    | _, _ => none
  | .store t a x => match szT P t, trA a, trA x with
    | some n, some a, some x => some (.store n a x, [])
    | _, _, _ => none
  | .binOp op t x y _ => match qT P t, trA x, trA y with
    | some q, some x, some y => some (.bin op q x y, [])
    | _, _, _ => none
  | .unOp op _ x => (trA x).map fun x => (.un op x, [])
  | .convert s d x => match P.underlying s, P.underlying d, trA x with
    | some (.int _), some (.int k), some x => some (.conv k x, [])
    | _, _, _ => none
  | .fieldAddr s x f => match P.underlying s, trA x with
    | some (.struct fields), some x => match fields[f]? with
      | some fd => match szT P fd.type with
        | some (_ + 1) => some (.fieldAddr fd.offset x, [])
        | _ => none
      | none => none
    | _, _ => none
  | .field s x f => match P.underlying s, trA x with
    | some (.struct fields), some x => match fields[f]? with
      | some fd => (nT P fd.type).map fun n => (.field fd.offset n x, [])
      | none => none
    | _, _ => none
  | .indexAddr t x i => match P.underlying t, trA x, trA i with
    | some (.slice e), some x, some i => (szT P e).map fun z => (.indexAddr z x i, [])
    | _, _, _ => none
  | .index t x i => match P.underlying t, trA x, trA i with
    | some .string, some x, some i => some (.index x i, [])
    | _, _, _ => none
  | .slice t x lo hi mx => match P.underlying t, trA x, trAO lo, trAO hi, trAO mx with
    | some (.slice e), some x, some lo, some hi, some mx => (szT P e).map fun z => (.slice false z x lo hi mx, [])
    | some .string, some x, some lo, some hi, some none => some (.slice true 0 x lo hi none, [])
    | _, _, _, _, _ => none
  | .extract x i => (trA x).map fun x => (.extract x i, [])
  | .call c => trCall P rw al c
  | .makeFunc (.func f) first caps => if first.size = 0 then (trAL caps.toList).map fun cs => (.clos f cs, []) else none
  | .nilCheck x => (trA x).map fun x => (.nilchk x, [])
  | .makeMap _ none => some (.makeMap al, [.dead])
  | .lookup t x k ok => match P.underlying t with
    | some (.map kt et) => match P.underlying kt, (P.info? et).bind (·.zero), trA x, trA k with
      | some .string, some z, some x, some k => if constOk z then some (.lookup (toV z) ok x k, []) else none
      | _, _, _, _ => none
    | _ => none
  | .mapUpdate t m k v => match P.underlying t with
    | some (.map kt et) => match P.underlying kt, trA m, trA k, trA v with
      | some .string, some m, some k, some v => some (.mapUpd m k v, [])
      | _, _, _, _ => none
    | _ => none
  | _ => none
end

/-- The temporaries. -/
structure Tm (g : Gh) (w : World) (a : Act) (tm : List V) : Prop where
  sz : a.tmps.size = tm.length
  rp : ∀ i (hi : i < a.tmps.size) (hj : i < tm.length), Rep g w a.tmps[i] tm[i]
  gl : GlOk g w

theorem toV1_rep (g : Gh) (w : World) (x : Value) : Rep g w x (toV1 x) := by
  unfold toV1
  split
  · exact .sl none 0 0 [] .nil 0 (fun _ => undef) rfl (Nat.le_refl _) (by simp) (by simp) (by simp [flats]) ⟨rfl, rfl⟩
  · exact .c _
theorem toV_rep (g : Gh) (w : World) (x : Value) (h : constOk x = true) : Rep g w x (toV x) := by
  unfold toV
  split
  · rename_i cs
    simp only [constOk, List.all_eq_true] at h
    refine .agg cs _ (by simp) (fun i hi => h _ (by simp)) (fun i hi hj => ?_)
    simp only [List.getElem_map, Array.getElem_toList]
    exact toV1_rep g w _
  · exact toV1_rep g w x

section
variable {P : Program} {g : Gh} {w : World} {a : Act} {tm : List V}
theorem ev_rep (ht : Tm g w a tm) {x : Operand} {ax : A} (h : trA x = some ax) : Rep g w (a.eval x) (ev tm ax) := by
  cases x with
  | tmp t =>
    simp only [trA, Option.some.injEq] at h
    subst h
    simp only [Act.eval, ev]
    by_cases hi : t < tm.length
    · have hi' : t < a.tmps.size := by rw [ht.1]; exact hi
      have := ht.2 t hi' hi
      simpa [List.getD, Array.getD, hi, hi'] using this
    · have hi' : ¬ t < a.tmps.size := by rw [ht.1]; exact hi
      simp [List.getD, Array.getD, hi, hi']
      exact .c _
  | const v =>
    simp only [trA] at h
    split at h
    · simp only [Option.some.injEq] at h; subst h; exact toV_rep g w v ‹_›
    · cases h
  | func f => simp only [trA, Option.some.injEq] at h; subst h; exact .c _
  | global n =>
    simp only [trA, Option.map_eq_some_iff] at h
    obtain ⟨v, hv, rfl⟩ := h
    exact ht.gl n v hv
theorem trAL_rep (ht : Tm g w a tm) : ∀ {xs : List Operand} {xas : List A}, trAL xs = some xas → xs.length = xas.length ∧ ∀ i (hi : i < xs.length) (hj : i < xas.length), Rep g w (a.eval xs[i]) (ev tm xas[i])
  | [], xas, h => by simp only [trAL, Option.some.injEq] at h; subst h; exact ⟨rfl, fun i hi => absurd hi (by simp)⟩
  | x :: r, xas, h => by
    simp only [trAL] at h
    split at h
    · rename_i ax l h1 h2
      simp only [Option.some.injEq] at h
      subst h
      obtain ⟨k1, k2⟩ := trAL_rep ht h2
      refine ⟨by simp [k1], fun i hi hj => ?_⟩
      cases i with
      | zero => exact ev_rep ht h1
      | succ i => exact k2 i (by simpa using hi) (by simpa using hj)
    · cases h

theorem Rep.of_c {x : Value} {y : Value} (h : Rep g w x (.c y)) : x = y := by cases h; rfl
theorem Rep.of_ref {x : Value} {id o : Nat} (h : Rep g w x (.ref id o)) : ∃ b, x = .pointer (some ⟨b, o, none⟩) ∧ g.blk id = some b := by
  cases h with
  | ref id b o h => exact ⟨b, rfl, h⟩
theorem Rep.of_ptr {x : Value} {cs : List V} {off : Nat} (h : Rep g w x (.ptr cs off)) : ∃ (b o : Nat) (cv : Nat → Value), x = .pointer (some ⟨b, o + off, none⟩) ∧
    (∀ j, j < cs.length → g.fz b (o + j) ∧ w.cell? ⟨b, o + j, none⟩ = some (cv j) ∧ (cv j).oneCell' = true) ∧ ∀ j (hj : j < cs.length), Rep g w (cv j) cs[j] := by
  cases h with
  | ptr b o o' cs off cv ho hA h => subst ho; exact ⟨b, o, cv, rfl, hA, h⟩
theorem Rep.of_agg {x : Value} {cs : List V} (h : Rep g w x (.agg cs)) : ∃ xs : Array Value, x = .agg xs ∧ xs.size = cs.length ∧ (∀ i (hi : i < xs.size), (xs[i]).oneCell' = true) ∧ ∀ i (hi : i < xs.size) (hj : i < cs.length), Rep g w xs[i] cs[i] := by
  cases h with
  | agg xs cs hn h1 h => exact ⟨xs, rfl, hn, h1, h⟩
theorem Rep.of_tup {x : Value} {cs : List V} (h : Rep g w x (.tup cs)) : ∃ xs : Array Value, x = .tuple xs ∧ xs.size = cs.length ∧ ∀ i (hi : i < xs.size) (hj : i < cs.length), Rep g w xs[i] cs[i] := by
  cases h with
  | tup xs cs hn h => exact ⟨xs, rfl, hn, h⟩
theorem Rep.of_clo {x : Value} {f : Nat} {cs : List V} (h : Rep g w x (.clo f cs)) : ∃ xs : Array Value, x = .func (.func f) #[] xs ∧ xs.size = cs.length ∧ ∀ i (hi : i < xs.size) (hj : i < cs.length), Rep g w xs[i] cs[i] := by
  cases h with
  | clo f xs cs hn h => exact ⟨xs, rfl, hn, h⟩
theorem Rep.of_sl {x : Value} {us : List V} {i : SI} (h : Rep g w x (.sl us i)) : ∃ (A : Option Addr) (cap z : Nat) (cv : Nat → Value), x = .slice A us.length cap ∧ us.length ≤ cap ∧ (∀ u ∈ us, u.cells.length = z) ∧
    (us ≠ [] → ∃ b o, A = some ⟨b, o, none⟩ ∧ ∀ j, j < us.length * z → g.fz b (o + j) ∧ w.cell? ⟨b, o + j, none⟩ = some (cv j) ∧ (cv j).oneCell' = true) ∧
    (∀ j (hj : j < (flats us).length), Rep g w (cv j) (flats us)[j]) ∧ SIok g A us.length cap i := by
  cases h with
  | sl A n cap us i z cv hn hc hzz hA h hi => subst hn; exact ⟨A, cap, z, cv, rfl, hc, hzz, hA, h, hi⟩
theorem rep_int {x : Value} {v : V} {n : Int} (h : Rep g w x v) (hi : idx v = some n) : ∃ k, x = .int k n := by
  cases v with
  | c y =>
    rw [h.of_c]
    cases y <;> simp [idx] at hi
    subst hi
    exact ⟨_, rfl⟩
  | _ => simp [idx] at hi

/-- The head has so many cells: all have. -/
theorem hz_all {z z' : Nat} {us : List V} (h : hz z us = true) (hu : ∀ u ∈ us, u.cells.length = z') (hne : us ≠ []) : z' = z := by
  cases us with
  | nil => exact absurd rfl hne
  | cons u r => simp only [hz, beq_iff_eq] at h; rw [← h]; exact (hu u (by simp)).symm

theorem flats_length {z : Nat} : ∀ {us : List V}, (∀ u ∈ us, u.cells.length = z) → (flats us).length = us.length * z
  | [], _ => by simp [flats]
  | u :: r, h => by
    have := flats_length (us := r) fun v hv => h v (by simp [hv])
    simp only [flats, List.flatMap_cons, List.length_append, List.length_cons] at *
    rw [this, h u (by simp), Nat.succ_mul, Nat.add_comm]
theorem flats_append (us ws : List V) : flats (us ++ ws) = flats us ++ flats ws := by simp [flats]
/-- The cells of one element. -/
theorem flats_at {z : Nat} : ∀ {us : List V}, (∀ u ∈ us, u.cells.length = z) → ∀ i (hi : i < us.length) j (hj : j < (us[i]).cells.length), (flats us)[i * z + j]? = some ((us[i]).cells[j])
  | [], _, i, hi, _, _ => absurd hi (by simp)
  | u :: r, h, i, hi, j, hj => by
    have hu := h u (by simp)
    cases i with
    | zero =>
      simp only [List.getElem_cons_zero] at hj ⊢
      simp only [flats, List.flatMap_cons, Nat.zero_mul, Nat.zero_add]
      rw [List.getElem?_append_left hj, List.getElem?_eq_getElem hj]
    | succ i =>
      have := flats_at (us := r) (fun v hv => h v (by simp [hv])) i (by simpa using hi) j (by simpa using hj)
      simp only [List.getElem_cons_succ] at hj ⊢
      simp only [flats, List.flatMap_cons] at this ⊢
      rw [List.getElem?_append_right (by rw [hu, Nat.succ_mul]; omega)]
      rw [show (i + 1) * z + j - u.cells.length = i * z + j by rw [hu, Nat.succ_mul]; omega]
      exact this
theorem flats_drop {z : Nat} : ∀ {us : List V} (k : Nat), (∀ u ∈ us, u.cells.length = z) → flats (us.drop k) = (flats us).drop (k * z)
  | us, 0, _ => by simp
  | [], k + 1, _ => by simp [flats]
  | u :: r, k + 1, h => by
    have hu := h u (by simp)
    have := flats_drop (us := r) k fun v hv => h v (by simp [hv])
    simp only [List.drop_succ_cons, this]
    simp only [flats, List.flatMap_cons]
    rw [Nat.succ_mul, Nat.add_comm, ← List.drop_drop, ← hu, List.drop_left]
theorem flats_take {z : Nat} : ∀ {us : List V} (k : Nat), (∀ u ∈ us, u.cells.length = z) → flats (us.take k) = (flats us).take (k * z)
  | us, 0, _ => by simp [flats]
  | [], k + 1, _ => by simp [flats]
  | u :: r, k + 1, h => by
    have hu := h u (by simp)
    have := flats_take (us := r) k fun v hv => h v (by simp [hv])
    simp only [List.take_succ_cons]
    simp only [flats, List.flatMap_cons] at this ⊢
    rw [this, Nat.succ_mul, Nat.add_comm, List.take_append, hu]
    rw [List.take_of_length_le (l := u.cells) (by omega), show z + k * z - z = k * z by omega]

theorem hu_run {t : TypeId} {d : TypeDesc} (h : P.underlying t = some d) (w : World) : (underlying t).run P w = .ok d w := run_underlying h w
theorem sz_run {t : TypeId} {n : Nat} (h : szT P t = some n) (w : World) : (sizeOf t).run P w = .ok n w := by
  simp only [szT, Option.map_eq_some_iff] at h
  obtain ⟨i, hi, rfl⟩ := h
  simp [sizeOf, typeInfo, hi]
theorem agg_run {t : TypeId} {b : Bool} (h : isAggB P t = some b) (w : World) : (isAgg t).run P w = .ok b w := by
  simp only [isAggB] at h
  split at h <;> simp_all [isAgg, underlying]
  all_goals (subst h; rename_i d h1 h2 h3; cases d <;> simp_all)

theorem nT_some {t : TypeId} {n : Nat} (h : nT P t = some (some n)) : isAggB P t = some true ∧ szT P t = some n := by
  unfold nT at h
  split at h <;> simp_all
theorem nT_none {t : TypeId} (h : nT P t = some none) : isAggB P t = some false := by
  unfold nT at h
  split at h <;> simp_all

/-- A part of an aggregate. -/
theorem part_rep {t : TypeId} {n : Option Nat} (h : nT P t = some n) {xs : Array Value} {cs : List V} (hn : xs.size = cs.length) (h1 : ∀ i (hi : i < xs.size), (xs[i]).oneCell' = true)
    (hr : ∀ i (hi : i < xs.size) (hj : i < cs.length), Rep g w xs[i] cs[i]) {off : Nat} {v : V} (hv : rdV cs off n = some v) : ∃ x, (part t xs off).run P w = .ok x w ∧ Rep g w x v := by
  cases n with
  | some n =>
    obtain ⟨k1, k2⟩ := nT_some h
    simp only [rdV] at hv
    split at hv
    · rename_i hle
      simp only [Option.some.injEq] at hv
      subst hv
      refine ⟨.agg (xs.extract off (off + n)), by simp [part, agg_run k1, sz_run k2], ?_⟩
      refine .agg _ _ (by simp; omega) (fun i hi => ?_) (fun i hi hj => ?_)
      · simp only [Array.getElem_extract]
        exact h1 _ _
      · simp only [Array.getElem_extract, List.getElem_take, List.getElem_drop]
        exact hr _ _ _
    · cases hv
  | none =>
    have k1 := nT_none h
    simp only [rdV] at hv
    obtain ⟨hlt, rfl⟩ := List.getElem?_eq_some_iff.1 hv
    have hlt' : off < xs.size := by omega
    exact ⟨xs[off], by simp [part, agg_run k1, hlt'], hr _ hlt' hlt⟩
end
end Go.Proofs.YtkiliokeanmagaaDoor.Ab
