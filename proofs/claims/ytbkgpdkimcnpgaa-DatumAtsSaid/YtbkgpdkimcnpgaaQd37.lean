/- What At and Put give: plain facts. And short. -/
import Derived.Test.YtbkgpdkimcnpgaaQd35
namespace Go.Proofs.Ytbkgpdkimcnpgaa.Ab
open Go
set_option linter.unusedVariables false
set_option linter.unusedSimpArgs false
set_option maxRecDepth 4000
set_option maxHeartbeats 1000000

theorem D.fm_kid {d : D} (h : d.fm = true) : ∀ x ∈ d.kids, x.fm = true := by
  obtain ⟨k, n, t, l⟩ := d
  intro x hx
  simp only [D.kids] at hx
  simp only [D.fm] at h
  split at h
  · simp only [Bool.and_eq_true] at h
    have := h.2
    cases l with
    | nil => simp at hx
    | cons y l => simp at this
  · split at h
    · simp only [Bool.and_eq_true] at h
      have := h.2
      cases l with
      | nil => simp at hx
      | cons y l => simp at this
    · split at h
      · simp only [Bool.and_eq_true, D.fms_all, List.all_eq_true] at h
        first
          | exact h.1.1 x hx
          | exact h.1.2 x hx
          | exact h.2 x hx
          | exact h.1 x hx
      · cases h

theorem D.at_mk {i : Int} {p : List Int} {k n : Int} {t : ByteArray} {l : List D} (h0 : 0 ≤ i) (hj : i.toNat < l.length) : D.at (i :: p) (.mk k n t l) = D.at p l[i.toNat] := by
  have hi : 0 ≤ i ∧ i < ((D.mk k n t l).kids.length : Int) := ⟨h0, by simp only [D.kids]; omega⟩
  rw [D.at, if_pos hi]
  simp only [D.kids, List.getElem?_eq_getElem hj]
theorem D.at_no {i : Int} {p : List Int} {k n : Int} {t : ByteArray} {l : List D} (h : ¬ (0 ≤ i ∧ i.toNat < l.length)) : D.at (i :: p) (.mk k n t l) = none := by
  have hi : ¬ (0 ≤ i ∧ i < ((D.mk k n t l).kids.length : Int)) := by simp only [D.kids]; omega
  rw [D.at, if_neg hi]
theorem D.at_ex {i : Int} {p : List Int} {k n : Int} {t : ByteArray} {l : List D} {u : D} (h : D.at (i :: p) (.mk k n t l) = some u) : ∃ hj : i.toNat < l.length, 0 ≤ i ∧ D.at p l[i.toNat] = some u := by
  by_cases hi : 0 ≤ i ∧ i.toNat < l.length
  · rw [D.at_mk hi.1 hi.2] at h
    exact ⟨hi.2, hi.1, h⟩
  · rw [D.at_no hi] at h
    cases h
theorem D.put_mk {i : Int} {p : List Int} {k n : Int} {t : ByteArray} {l : List D} (hj : i.toNat < l.length) (x : D) : D.put (i :: p) (.mk k n t l) x = .mk k n t (l.set i.toNat (D.put p l[i.toNat] x)) := by
  simp only [D.put, List.getElem?_eq_getElem hj]

theorem D.at_fm : ∀ (p : List Int) (d u : D), D.at p d = some u → d.fm = true → u.fm = true
  | [], d, u, h, hf => by simp only [D.at, Option.some.injEq] at h; rw [← h]; exact hf
  | i :: p, .mk k n t l, u, h, hf => by
    obtain ⟨hj, h0, h1⟩ := D.at_ex h
    exact D.at_fm p _ u h1 (D.fm_kid hf _ (List.getElem_mem hj))
theorem D.at_dp : ∀ (p : List Int) (d u : D), D.at p d = some u → u.dp ≤ d.dp
  | [], d, u, h => by simp only [D.at, Option.some.injEq] at h; rw [h]; exact Nat.le_refl _
  | i :: p, .mk k n t l, u, h => by
    obtain ⟨hj, h0, h1⟩ := D.at_ex h
    have h2 := D.at_dp p _ u h1
    have h3 := D.dps_mem (List.getElem_mem hj)
    simp only [D.dp]
    omega
theorem D.put_self : ∀ (p : List Int) (d u : D), D.at p d = some u → D.put p d u = d
  | [], d, u, h => by simp only [D.at, Option.some.injEq] at h; rw [D.put, h]
  | i :: p, .mk k n t l, u, h => by
    obtain ⟨hj, h0, h1⟩ := D.at_ex h
    rw [D.put_mk hj, D.put_self p _ u h1, List.set_getElem_self]
theorem D.at_put (x : D) : ∀ (p : List Int) (d u : D), D.at p d = some u → D.at p (D.put p d x) = some x
  | [], d, u, h => rfl
  | i :: p, .mk k n t l, u, h => by
    obtain ⟨hj, h0, h1⟩ := D.at_ex h
    rw [D.put_mk hj, D.at_mk h0 (by simpa using hj), List.getElem_set_self, D.at_put x p _ u h1]
theorem D.fm_set {k n : Int} {t : ByteArray} {l : List D} {j : Nat} (hj : j < l.length) {y : D} (hf : (D.mk k n t l).fm = true) (hy : y.fm = true) : (D.mk k n t (l.set j y)).fm = true := by
  simp only [D.fm] at hf ⊢
  split at hf
  · simp only [Bool.and_eq_true, beq_iff_eq] at hf
    omega
  · rename_i h1
    rw [if_neg h1]
    split at hf
    · simp only [Bool.and_eq_true, beq_iff_eq] at hf
      omega
    · rename_i h2
      rw [if_neg h2]
      split at hf
      · rename_i h3
        rw [if_pos h3]
        simp only [Bool.and_eq_true, D.fms_all, List.all_eq_true] at hf ⊢
        refine ⟨⟨fun z hz => ?_, hf.1.2⟩, hf.2⟩
        rcases List.mem_or_eq_of_mem_set hz with h | rfl
        · exact hf.1.1 z h
        · exact hy
      · cases hf
theorem D.put_fm {x : D} (hx : x.fm = true) : ∀ (p : List Int) (d u : D), D.at p d = some u → d.fm = true → (D.put p d x).fm = true
  | [], d, u, h, hf => hx
  | i :: p, .mk k n t l, u, h, hf => by
    obtain ⟨hj, h0, h1⟩ := D.at_ex h
    rw [D.put_mk hj]
    exact D.fm_set hj hf (D.put_fm hx p _ u h1 (D.fm_kid hf _ (List.getElem_mem hj)))
theorem D.dps_set : ∀ (l : List D) (j : Nat) (y : D) (m : Nat), D.dps l ≤ m → y.dp ≤ m → D.dps (l.set j y) ≤ m
  | [], j, y, m, h, hy => by simp [D.dps]
  | d :: l, 0, y, m, h, hy => by simp only [List.set_cons_zero, D.dps] at h ⊢; omega
  | d :: l, j + 1, y, m, h, hy => by
    simp only [List.set_cons_succ, D.dps] at h ⊢
    have := D.dps_set l j y m (by omega) hy
    omega
theorem D.put_dp (x : D) : ∀ (p : List Int) (d u : D), D.at p d = some u → (D.put p d x).dp ≤ d.dp + x.dp
  | [], d, u, h => by simp only [D.put]; omega
  | i :: p, .mk k n t l, u, h => by
    obtain ⟨hj, h0, h1⟩ := D.at_ex h
    have h2 := D.put_dp x p _ u h1
    have h3 := D.dps_mem (List.getElem_mem hj)
    have h4 := D.dps_set l i.toNat (D.put p l[i.toNat] x) (D.dps l + x.dp) (by omega) (by omega)
    rw [D.put_mk hj]
    simp only [D.dp]
    omega
theorem D.ck_zero (d : D) : d.ck = 0 ↔ d.fm = true ∧ d.sz ≤ 100000 ∧ d.dp ≤ 1000 := by
  unfold D.ck
  cases hf : d.fm with
  | false => simp
  | true =>
    by_cases h : d.sz > 100000 ∨ d.dp > 1000
    · simp [h]; omega
    · simp [h]; omega
theorem D.ck_cases (d : D) (hs : d.sz ≤ 100000) : d.ck = 0 ∨ d.ck = 3 ∨ d.ck = 4 := by
  unfold D.ck
  split
  · simp
  · split <;> simp
theorem D.at_put_other (x : D) : ∀ (s t : List Int) (d u : D), begs s t = false → begs t s = false → D.at s d = some u → D.at t (D.put s d x) = D.at t d
  | [], t, d, u, h1, h2, h => by cases t <;> simp [begs] at h2
  | i :: s, [], d, u, h1, h2, h => by simp [begs] at h1
  | i :: s, j :: t, .mk k n tt l, u, h1, h2, h => by
    obtain ⟨hj, h0, h3⟩ := D.at_ex h
    rw [D.put_mk hj]
    simp only [begs, Bool.and_eq_false_iff, beq_eq_false_iff_ne] at h1 h2
    by_cases hij : i = j
    · subst hij
      rw [D.at_mk h0 (by simpa using hj), D.at_mk h0 hj, List.getElem_set_self]
      exact D.at_put_other x s t _ u (h1.resolve_left fun h => h rfl) (h2.resolve_left fun h => h rfl) h3
    · by_cases hk : 0 ≤ j ∧ j.toNat < l.length
      · rw [D.at_mk hk.1 (by simpa using hk.2), D.at_mk hk.1 hk.2, List.getElem_set_ne (by omega)]
      · rw [D.at_no hk, D.at_no (by simpa using hk)]
theorem D.put_comm (x y : D) : ∀ (s t : List Int) (d u v : D), begs s t = false → begs t s = false → D.at s d = some u → D.at t d = some v → D.put t (D.put s d x) y = D.put s (D.put t d y) x
  | [], t, d, u, v, h1, h2, h, h' => by cases t <;> simp [begs] at h2
  | i :: s, [], d, u, v, h1, h2, h, h' => by simp [begs] at h1
  | i :: s, j :: t, .mk k n tt l, u, v, h1, h2, h, h' => by
    obtain ⟨hj, h0, h3⟩ := D.at_ex h
    obtain ⟨hj', h0', h3'⟩ := D.at_ex h'
    simp only [begs, Bool.and_eq_false_iff, beq_eq_false_iff_ne] at h1 h2
    rw [D.put_mk hj, D.put_mk hj', D.put_mk (by simpa using hj'), D.put_mk (by simpa using hj)]
    by_cases hij : i = j
    · subst hij
      rw [List.getElem_set_self, List.getElem_set_self, List.set_set, List.set_set]
      rw [D.put_comm x y s t _ u v (h1.resolve_left fun h => h rfl) (h2.resolve_left fun h => h rfl) h3 h3']
    · rw [List.getElem_set_ne (by omega), List.getElem_set_ne (by omega), List.set_comm _ _ (by omega)]

theorem D.cut_dp : ∀ (m : Nat) (d : D) (left deep : Nat), d.sz ≤ m → 0 < deep → (d.cut left deep).1.dp ≤ deep
  | 0, d, _, _, h, _ => by have := D.sz_pos d; omega
  | m + 1, .mk k n t l, left, deep, h, hd => by
    simp only [D.cut, D.dp]
    simp only [D.sz] at h
    have key : ∀ (l : List D) (left : Nat), D.szs l ≤ m → D.dps (D.cuts l left deep).1 ≤ deep - 1 := by
      intro l
      induction l with
      | nil => intro left _; simp [D.cuts, D.dps]
      | cons y l ih =>
        intro left hl
        simp only [D.szs] at hl
        simp only [D.cuts]
        split
        · rename_i hc
          have h1 := D.cut_dp m y left (deep - 1) (by omega) (by omega)
          have h2 := ih (y.cut left (deep - 1)).2 (by omega)
          simp only [D.dps]
          omega
        · simp [D.dps]
    have := key l (left - 1) (by omega)
    omega

theorem run32 {p : List Int} {n : Nat} : Gives (n + 1) 32 [pv p] (pv (p.take (min p.length 500))) := by
  refine gives_of rfl rfl rfl (by kernel_rfl) ⟨rfl, rfl⟩ (by simp [pv_vw2, V.lows, pv_low]) ?_
  generalize call X E n = cf at *
  have hmin : (if (500 : Int) < p.length then (500 : Int) else p.length) = (min p.length 500 : Nat) := by split <;> omega
  have hle : ((min p.length 500 : Nat) : Int) ≤ p.length := by omega
  have hz := hz_I64 p
  cases p with
  | nil => simp -implicitDefEqProofs [x32_w, x32_r, x32r1_w, x32r2_w, pv, V.vw2, V.vw1, hmin, V.low, V.lows, SI.low]
  | cons a p =>
    obtain ⟨q, hq⟩ : ∃ q, min (a :: p).length 500 = q + 1 := ⟨min (a :: p).length 500 - 1, by simp only [List.length_cons]; omega⟩
    rw [hq] at hmin hle ⊢
    have hq5 : q + 1 ≤ 500 := by omega
    simp only [List.length_cons, Int.natCast_add, Int.cast_ofNat_Int] at hmin hle
    have hmin' : (if (500 : Int) < (p.length : Int) + 1 then (500 : Int) else (p.length : Int) + 1) = (q : Int) + 1 := hmin
    have hle' : (q : Int) ≤ p.length := by omega
    have h0 : (0 : Int) ≤ (q : Int) + 1 := by omega
    have htn : ((q : Int) + 1).toNat = q + 1 := by omega
    have hcl : (I64 a).cells.length = 1 := rfl
    have hql : q ≤ p.length := by omega
    have hmn : min q p.length = q := by omega
    have hlow := lows_I64 0 (p.take q)
    rw [List.map_take] at hlow
    have hla : V.low 0 (I64 a) = true := rfl
    simp -implicitDefEqProofs [x32_w, x32_r, x32r1_w, x32r2_w, pv, V.vw2, V.vw1, hmin', hle', h0, htn, hcl, hmn, V.low, V.lows, SI.low, hlow, hla]
    omega
end Go.Proofs.Ytbkgpdkimcnpgaa.Ab
