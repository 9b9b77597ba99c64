/- All the operations that leave memory alone. -/
import Derived.Test.YtkiliokeanmagaaDoorAb5
namespace Go.Proofs.YtkiliokeanmagaaDoor.Ab
open Go
set_option linter.unusedVariables false
set_option linter.unusedSimpArgs false
section
variable {P : Program} {g : Gh} {w : World} {a : Act} {tm : List V}

def isAl : XOp → Bool
  | .alloc _ _ => true
  | .bslice _ _ _ => true
  | _ => false

theorem bound_ok {x : Value} {n : Int} {k : IntKind} (hx : x = .int k n) {y : Nat} (c : BoundsCode) (h : 0 ≤ n ∧ n ≤ y) : (Instr.sliceBound x y c).run P w = .ok n.toNat w := by
  subst hx
  simp [Instr.sliceBound, asIntOf, h]

theorem optIdx_some {d : Int} {x : Option Operand} {ax : Option A} (ht : Tm g w a tm) (h : trAO x = some ax) {n : Int} (hi : optIdx tm d ax = some n) :
    (x = none ∧ n = d ∧ ax = none) ∨ ∃ y k, x = some y ∧ a.eval y = .int k n ∧ ax.isSome := by
  cases x with
  | none =>
    simp only [trAO, Option.some.injEq] at h; subst h
    simp only [optIdx, Option.some.injEq] at hi
    exact .inl ⟨rfl, hi.symm, rfl⟩
  | some y =>
    simp only [trAO, Option.map_eq_some_iff] at h
    obtain ⟨ay, hy, rfl⟩ := h
    simp only [optIdx] at hi
    obtain ⟨k, hk⟩ := rep_int (ev_rep ht hy) hi
    exact .inr ⟨y, k, rfl, hk, rfl⟩

theorem mm_none {isMax : Bool} : ∀ l : List V, l.foldl (mmStep isMax) none = none
  | [] => rfl
  | z :: l => by simpa [mmStep] using mm_none l
theorem mm_ok {isMax : Bool} : ∀ {xs : List Value} {vs : List V} {acc : Value} {vacc : V}, Rep g w acc vacc → xs.length = vs.length → (∀ i (hi : i < xs.length) (hj : i < vs.length), Rep g w xs[i] vs[i]) →
    ∀ {v : V}, vs.foldl (mmStep isMax) (some vacc) = some v → ∃ r, ((xs.foldlM (if isMax then Builtin.max2 else Builtin.min2) acc : Sem Value)).run P w = .ok r w ∧ Rep g w r v
  | [], [], acc, vacc, ha, _, _, v, h => by
    simp only [List.foldl_nil, Option.some.injEq] at h
    subst h
    exact ⟨acc, by simp, ha⟩
  | x :: xs, y :: vs, acc, vacc, ha, hl, hr, v, h => by
    simp only [List.foldl_cons] at h
    have hx := hr 0 (by simp) (by simp)
    simp only [List.getElem_cons_zero] at hx
    have hrest : ∀ i (hi : i < xs.length) (hj : i < vs.length), Rep g w xs[i] vs[i] := fun i hi hj => hr (i + 1) (by simpa using hi) (by simpa using hj)
    cases hs : mmStep isMax (some vacc) y with
    | none => rw [hs, mm_none] at h; cases h
    | some u =>
      rw [hs] at h
      unfold mmStep at hs
      split at hs
      · rename_i k p k' q hacc
        simp only [Option.some.injEq] at hacc hs
        subst hacc
        subst hs
        rw [ha.of_c, hx.of_c]
        obtain ⟨r, h1, h2⟩ := mm_ok (isMax := isMax) (xs := xs) (acc := .int k (if isMax then (if q > p then q else p) else (if q < p then q else p))) (.c _) (by simpa using hl) hrest h
        refine ⟨r, ?_, h2⟩
        rw [List.foldlM_cons]
        cases isMax
        · simpa [Builtin.min2] using h1
        · simpa [Builtin.max2] using h1
      · cases hs
  | [], _ :: _, _, _, _, hl, _, _, _ => by simp at hl
  | _ :: _, [], _, _, _, hl, _, _, _ => by simp at hl

theorem arr_map_eval (xs : Array Operand) : (xs.map a.eval).toList = xs.toList.map a.eval := by simp

theorem slice_sl {t e : TypeId} {z : Nat} (hu : P.underlying t = some (.slice e)) (hsz : szT P e = some z) {x : Value} {us : List V} {si : SI} (hx : Rep g w x (.sl us si)) (ht : Tm g w a tm)
    {lo hi mx : Option Operand} {alo ahi amx : Option A} (h1 : trAO lo = some alo) (h2 : trAO hi = some ahi) (h3 : trAO mx = some amx) {v : V}
    (hv : slV tm us z alo ahi amx = some v) :
    ∃ r, (Instr.sliceAt t x (lo.map a.eval) (hi.map a.eval) (mx.map a.eval)).run P w = .ok r w ∧ Rep g w r v := by
  cases hx with
  | sl A n cap _ _ z' cv hn hc hzz hA hr hsi =>
  subst hn
  -- the result, whatever the bounds were
  have fin : ∀ (l h : Int) (m : Nat) (si' : SI), 0 ≤ l → l ≤ h → h ≤ us.length → h.toNat ≤ m → hz z us = true → (si' = .any ∨ (si' = .full ∧ m = h.toNat)) →
      Rep g w (.slice (if m = l.toNat then A else A.map (·.add (l.toNat * z))) (h.toNat - l.toNat) (m - l.toNat)) (.sl ((us.take h.toNat).drop l.toNat) si') := by
    intro l h m si' hl hlh hh hm hzu hsi'
    have hlen : ((us.take h.toNat).drop l.toNat).length = h.toNat - l.toNat := by simp; omega
    refine .sl _ _ _ _ _ z' (fun j => cv (l.toNat * z' + j)) hlen.symm (by omega) (fun u hu => hzz u (List.mem_of_mem_take (List.mem_of_mem_drop hu))) (fun hne => ?_) (fun j hj => ?_) ?_
    · have hne' : us ≠ [] := by intro e; subst e; simp at hne
      have hz' := hz_all hzu hzz hne'
      obtain ⟨b, o, e, hcell⟩ := hA hne'
      have hlt : l.toNat < h.toNat := by
        rcases Nat.lt_or_ge l.toNat h.toNat with c | c
        · exact c
        · exact absurd (List.eq_nil_of_length_eq_zero (by rw [hlen]; omega)) hne
      refine ⟨b, o + l.toNat * z', ?_, fun j hj => ?_⟩
      · rw [if_neg (by omega), e, ← hz']
        simp only [Option.map_some, Addr.add_lit]
      · rw [hlen] at hj
        have hb : l.toNat * z' + j < us.length * z' := by
          have : (h.toNat - l.toNat) * z' = h.toNat * z' - l.toNat * z' := Nat.sub_mul _ _ _
          have : h.toNat * z' ≤ us.length * z' := Nat.mul_le_mul_right _ (by omega)
          have : l.toNat * z' ≤ h.toNat * z' := Nat.mul_le_mul_right _ (by omega)
          omega
        have := hcell (l.toNat * z' + j) hb
        rw [show o + l.toNat * z' + j = o + (l.toNat * z' + j) by omega]
        exact this
    · have h5 : ((flats us).take (h.toNat * z')).drop (l.toNat * z') = flats ((us.take h.toNat).drop l.toNat) := by
        rw [flats_drop (z := z') _ fun u hu => hzz u (List.mem_of_mem_take hu), flats_take _ hzz]
      have hj2 : l.toNat * z' + j < (flats us).length := by
        rw [← h5] at hj
        simp only [List.length_drop, List.length_take] at hj
        omega
      have h6 : (flats ((us.take h.toNat).drop l.toNat))[j] = (flats us)[l.toNat * z' + j] := by
        have : (flats ((us.take h.toNat).drop l.toNat))[j]? = (flats us)[l.toNat * z' + j]? := by
          rw [← h5, List.getElem?_drop, List.getElem?_take, if_pos]
          rw [← h5] at hj
          simp only [List.length_drop, List.length_take] at hj
          omega
        rw [List.getElem?_eq_getElem hj, List.getElem?_eq_getElem hj2] at this
        exact Option.some.inj this
      rw [h6]
      exact hr _ hj2
    · rcases hsi' with rfl | ⟨rfl, e⟩
      · trivial
      · simp only [SIok]; omega
  unfold slV at hv
  cases hl : optIdx tm 0 alo with
  | none => rw [hl] at hv; cases hv
  | some l =>
  cases hh : optIdx tm us.length ahi with
  | none => rw [hl, hh] at hv; cases hv
  | some h =>
  rw [hl, hh] at hv
  cases amx with
  | none =>
    simp only at hv
    split at hv
    · rename_i hc'
      obtain ⟨c1, c2, c3, c4⟩ := hc'
      simp only [Option.some.injEq] at hv
      subst hv
      have hm0 : mx = none := by
        cases mx with
        | none => rfl
        | some y => simp only [trAO, Option.map_eq_some_iff] at h3; obtain ⟨_, _, h3⟩ := h3; cases h3
      subst hm0
      have key := fin l h cap .any c1 c2 c3 (by omega) c4 (.inl rfl)
      refine ⟨_, ?_, key⟩
      rcases optIdx_some ht h2 hh with ⟨rfl, hhe, _⟩ | ⟨y, k, rfl, hy, _⟩ <;> rcases optIdx_some ht h1 hl with ⟨rfl, hle, _⟩ | ⟨y', k', rfl, hy', _⟩
      · subst hhe; subst hle
        simp [Instr.sliceAt, hu_run hu, Instr.slice, Instr.sliceBounds, sz_run hsz]
      · subst hhe
        have b1 := bound_ok (P := P) (w := w) hy' (y := us.length) .sliceB (by omega)
        simp [Instr.sliceAt, hu_run hu, Instr.slice, Instr.sliceBounds, sz_run hsz, b1]
      · subst hle
        have b2 := bound_ok (P := P) (w := w) hy (y := cap) .sliceAcap (by omega)
        simp [Instr.sliceAt, hu_run hu, Instr.slice, Instr.sliceBounds, sz_run hsz, b2]
      · have b2 := bound_ok (P := P) (w := w) hy (y := cap) .sliceAcap (by omega)
        have b1 := bound_ok (P := P) (w := w) hy' (y := h.toNat) .sliceB (by omega)
        simp [Instr.sliceAt, hu_run hu, Instr.slice, Instr.sliceBounds, sz_run hsz, b2, b1]
    · cases hv
  | some am =>
    simp only at hv
    split at hv
    · rename_i m hm
      split at hv
      · rename_i hc'
        obtain ⟨c0, c1, c2, c3, c4, c5⟩ := hc'
        simp only [Option.some.injEq] at hv
        subst hv
        subst c3
        obtain ⟨ym, kk, rfl, hym⟩ : ∃ ym kk, mx = some ym ∧ a.eval ym = .int kk h := by
          cases mx with
          | none => simp [trAO] at h3
          | some y =>
            simp only [trAO, Option.map_eq_some_iff] at h3
            obtain ⟨ay, hay, h3⟩ := h3
            simp only [Option.some.injEq] at h3
            subst h3
            obtain ⟨kk, e⟩ := rep_int (ev_rep ht hay) hm
            exact ⟨y, kk, rfl, e⟩
        have key := fin l h h.toNat .full c1 c2 c4 (Nat.le_refl _) c5 (.inr ⟨rfl, rfl⟩)
        refine ⟨_, ?_, key⟩
        have b3 := bound_ok (P := P) (w := w) hym (y := cap) .slice3Acap (by omega)
        rcases optIdx_some ht h2 hh with ⟨rfl, hhe, e⟩ | ⟨y, k, rfl, hy, _⟩
        · simp [e] at c0
        · have b2 := bound_ok (P := P) (w := w) hy (y := h.toNat) .slice3B (by omega)
          rcases optIdx_some ht h1 hl with ⟨rfl, hle, _⟩ | ⟨y', k', rfl, hy', _⟩
          · subst hle
            simp [Instr.sliceAt, hu_run hu, Instr.slice, Instr.sliceBounds, sz_run hsz, b3, b2]
          · have b1 := bound_ok (P := P) (w := w) hy' (y := h.toNat) .slice3C (by omega)
            simp [Instr.sliceAt, hu_run hu, Instr.slice, Instr.sliceBounds, sz_run hsz, b3, b2, b1]
      · cases hv
    · cases hv

theorem slice_row {t e : TypeId} {z : Nat} (hu : P.underlying t = some (.slice e)) (hsz : szT P e = some z) {x : Value} {id off n : Nat} {zz : Option Nat} (hx : Rep g w x (.row id off n zz)) (ht : Tm g w a tm)
    {lo hi mx : Option Operand} {alo ahi amx : Option A} (h1 : trAO lo = some alo) (h2 : trAO hi = some ahi) (h3 : trAO mx = some amx) {v : V}
    (hv : rowV tm id off n zz z alo ahi amx = some v) :
    ∃ r, (Instr.sliceAt t x (lo.map a.eval) (hi.map a.eval) (mx.map a.eval)).run P w = .ok r w ∧ Rep g w r v := by
  cases hx with
  | row A n cap _ _ _ hc hA =>
  unfold rowV at hv
  split at hv
  · rename_i hzz
    cases hl : optIdx tm 0 alo with
    | none => rw [hl] at hv; cases hv
    | some l =>
    cases hh : optIdx tm n ahi with
    | none => rw [hl, hh] at hv; cases hv
    | some h =>
    rw [hl, hh] at hv
    cases amx with
    | none =>
      simp only at hv
      split at hv
      · rename_i hc'
        obtain ⟨c1, c2, c3⟩ := hc'
        simp only [Option.some.injEq] at hv
        subst hv
        have hm0 : mx = none := by
          cases mx with
          | none => rfl
          | some y => simp only [trAO, Option.map_eq_some_iff] at h3; obtain ⟨_, _, h3⟩ := h3; cases h3
        subst hm0
        have key : Rep g w (.slice (if cap = l.toNat then A else A.map (·.add (l.toNat * z))) (h.toNat - l.toNat) (cap - l.toNat)) (.row id (off + l.toNat * z) (h.toNat - l.toNat) zz) := by
          refine .row _ _ _ _ _ _ (by omega) fun hne => ?_
          obtain ⟨b, e, hb⟩ := hA (by omega)
          refine ⟨b, ?_, hb⟩
          rw [if_neg (by omega), e]
          simp only [Option.map_some, Addr.add_lit]
        refine ⟨_, ?_, key⟩
        rcases optIdx_some ht h2 hh with ⟨rfl, hhe, _⟩ | ⟨y, k, rfl, hy, _⟩ <;> rcases optIdx_some ht h1 hl with ⟨rfl, hle, _⟩ | ⟨y', k', rfl, hy', _⟩
        · subst hhe; subst hle
          simp [Instr.sliceAt, hu_run hu, Instr.slice, Instr.sliceBounds, sz_run hsz]
        · subst hhe
          have b1 := bound_ok (P := P) (w := w) hy' (y := n) .sliceB (by omega)
          simp [Instr.sliceAt, hu_run hu, Instr.slice, Instr.sliceBounds, sz_run hsz, b1]
        · subst hle
          have b2 := bound_ok (P := P) (w := w) hy (y := cap) .sliceAcap (by omega)
          simp [Instr.sliceAt, hu_run hu, Instr.slice, Instr.sliceBounds, sz_run hsz, b2]
        · have b2 := bound_ok (P := P) (w := w) hy (y := cap) .sliceAcap (by omega)
          have b1 := bound_ok (P := P) (w := w) hy' (y := h.toNat) .sliceB (by omega)
          simp [Instr.sliceAt, hu_run hu, Instr.slice, Instr.sliceBounds, sz_run hsz, b2, b1]
      · cases hv
    | some am =>
      simp only at hv
      split at hv
      · rename_i m hm
        split at hv
        · rename_i hc'
          obtain ⟨c0, c1, c2, c3, c4⟩ := hc'
          simp only [Option.some.injEq] at hv
          subst hv
          subst c2
          subst c3
          obtain ⟨ym, kk, rfl, hym⟩ : ∃ ym kk, mx = some ym ∧ a.eval ym = .int kk l := by
            cases mx with
            | none => simp [trAO] at h3
            | some y =>
              simp only [trAO, Option.map_eq_some_iff] at h3
              obtain ⟨ay, hay, h3⟩ := h3
              simp only [Option.some.injEq] at h3
              subst h3
              obtain ⟨kk, e⟩ := rep_int (ev_rep ht hay) hm
              exact ⟨y, kk, rfl, e⟩
          have key : Rep g w (.slice (if l.toNat = l.toNat then A else A.map (·.add (l.toNat * z))) (l.toNat - l.toNat) (l.toNat - l.toNat)) (.sl [] .full) := by
            refine .sl _ _ _ [] .full 0 (fun _ => undef) (by simp) (Nat.le_refl _) (by simp) (by simp) (by simp [flats]) ?_
            simp only [SIok]
          refine ⟨_, ?_, key⟩
          have b3 := bound_ok (P := P) (w := w) hym (y := cap) .slice3Acap (by omega)
          rcases optIdx_some ht h2 hh with ⟨rfl, hhe, e⟩ | ⟨y, k, rfl, hy, _⟩
          · simp [e] at c0
          · have b2 := bound_ok (P := P) (w := w) hy (y := l.toNat) .slice3B (by omega)
            rcases optIdx_some ht h1 hl with ⟨rfl, hle, _⟩ | ⟨y', k', rfl, hy', _⟩
            · subst hle
              simp only [Int.toNat_zero] at b2 b3
              simp [Instr.sliceAt, hu_run hu, Instr.slice, Instr.sliceBounds, sz_run hsz, b3, b2]
            · have b1 := bound_ok (P := P) (w := w) hy' (y := l.toNat) .slice3C (by omega)
              simp [Instr.sliceAt, hu_run hu, Instr.slice, Instr.sliceBounds, sz_run hsz, b3, b2, b1]
        · cases hv
      · cases hv
  · cases hv

theorem slice_str {t : TypeId} (hu : P.underlying t = some .string) {x : Value} {s : ByteArray} (hx : Rep g w x (.c (.string s))) (ht : Tm g w a tm)
    {lo hi : Option Operand} {alo ahi : Option A} (h1 : trAO lo = some alo) (h2 : trAO hi = some ahi) {l h : Int} (hl : optIdx tm 0 alo = some l) (hh : optIdx tm s.size ahi = some h) (hc : 0 ≤ l ∧ l ≤ h ∧ h ≤ s.size) :
    (Instr.sliceAt t x (lo.map a.eval) (hi.map a.eval) none).run P w = .ok (.string (s.extract l.toNat h.toNat)) w := by
  rw [hx.of_c]
  rcases optIdx_some ht h2 hh with ⟨rfl, hhe, _⟩ | ⟨y, k, rfl, hy, _⟩ <;> rcases optIdx_some ht h1 hl with ⟨rfl, hle, _⟩ | ⟨y', k', rfl, hy', _⟩
  · subst hhe; subst hle
    simp [Instr.sliceAt, hu_run hu, Instr.slice, Instr.sliceBounds]
  · subst hhe
    have b1 := bound_ok (P := P) (w := w) hy' (y := s.size) .sliceB (by omega)
    simp [Instr.sliceAt, hu_run hu, Instr.slice, Instr.sliceBounds, b1]
  · subst hle
    have b2 := bound_ok (P := P) (w := w) hy (y := s.size) .sliceAlen (by omega)
    simp [Instr.sliceAt, hu_run hu, Instr.slice, Instr.sliceBounds, b2]
  · have b2 := bound_ok (P := P) (w := w) hy (y := s.size) .sliceAlen (by omega)
    have b1 := bound_ok (P := P) (w := w) hy' (y := h.toNat) .sliceB (by omega)
    simp [Instr.sliceAt, hu_run hu, Instr.slice, Instr.sliceBounds, b2, b1]
end
end Go.Proofs.YtkiliokeanmagaaDoor.Ab
