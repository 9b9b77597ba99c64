/- The law of DatumTwice. -/
import Derived.Test.YtbkgpdkimcnpgaaRd38
import Derived.Test.YtbkgpdkimcnpgaaRd39
namespace Go.Proofs.Ytbkgpdkimcnpgaa.Ab
open Go
set_option linter.unusedVariables false
set_option linter.unusedSimpArgs false
set_option maxRecDepth 4000
set_option maxHeartbeats 1000000

theorem putD_ok {p : List Int} {a y : D} (h : (putD p a y).2 = 0) : ∃ u, D.at p a = some u ∧ a.ck = 0 ∧ y.ck = 0 ∧ (D.put p a y).ck = 0 ∧ putD p a y = (D.put p a y, 0) := by
  by_cases h0 : a.ck = 0
  rotate_left
  · rw [putD, if_pos h0] at h; exact absurd h h0
  by_cases h1 : y.ck = 0
  rotate_left
  · rw [putD, if_neg (by simpa using h0), if_pos h1] at h; exact absurd h h1
  cases hu : D.at p a with
  | none => rw [putD, if_neg (by simpa using h0), if_neg (by simpa using h1), hu] at h; simp at h
  | some u =>
    by_cases h2 : (D.put p a y).ck = 0
    · exact ⟨u, rfl, h0, h1, h2, by rw [putD, if_neg (by simpa using h0), if_neg (by simpa using h1), hu, if_neg (by simp), if_neg (by simpa using h2)]⟩
    · rw [putD, if_neg (by simpa using h0), if_neg (by simpa using h1), hu, if_neg (by simp), if_pos h2] at h; simp at h
theorem putD_of {p : List Int} {a y u : D} (h0 : a.ck = 0) (h1 : y.ck = 0) (hu : D.at p a = some u) (h2 : (D.put p a y).ck = 0) : putD p a y = (D.put p a y, 0) := by
  rw [putD, if_neg (by simpa using h0), if_neg (by simpa using h1), hu, if_neg (by simp), if_neg (by simpa using h2)]

theorem D.drop4 (d : D) : d.v.cells.drop 4 = [] := List.drop_of_length_le (by rw [D.cells_len]; omega)
theorem law10 (c : Two) : call X E 20000 10 [c.v] [] = some (.c (.bool true), []) := by
  have hs1 := D.cut_small c.d 1000 200 (by omega)
  have hs2 := D.cut_small c.x 1000 200 (by omega)
  have hs3 := D.cut_small c.y 1000 200 (by omega)
  have hd1 := D.cut_dp _ c.d 1000 200 (Nat.le_refl _) (by omega)
  have hd2 := D.cut_dp _ c.x 1000 200 (Nat.le_refl _) (by omega)
  have hd3 := D.cut_dp _ c.y 1000 200 (Nat.le_refl _) (by omega)
  have c1 : ∀ h, call X E 19999 38 [c.d.v, .c (.int .i64 1000), .c (.int .i64 200)] h = some ((c.d.cut 1000 200).1.v, h) := run38 c.d 1000 200 19998 (by omega) (by omega) (by omega) (by omega) (by omega)
  have c2 : ∀ h, call X E 19999 38 [c.x.v, .c (.int .i64 1000), .c (.int .i64 200)] h = some ((c.x.cut 1000 200).1.v, h) := run38 c.x 1000 200 19998 (by omega) (by omega) (by omega) (by omega) (by omega)
  have c3 : ∀ h, call X E 19999 38 [c.y.v, .c (.int .i64 1000), .c (.int .i64 200)] h = some ((c.y.cut 1000 200).1.v, h) := run38 c.y 1000 200 19998 (by omega) (by omega) (by omega) (by omega) (by omega)
  have c4 : ∀ h, call X E 19999 32 [pv c.p] h = some (pv (c.p.take (min c.p.length 500)), h) := run32 (n := 19998)
  have c5 : ∀ h, call X E 19999 32 [pv c.q] h = some (pv (c.q.take (min c.q.length 500)), h) := run32 (n := 19998)
  have hp : (c.p.take (min c.p.length 500)).length ≤ 500 := by simp; omega
  have hq : (c.q.take (min c.q.length 500)).length ≤ 500 := by simp; omega
  have r0 : rdV c.cs 0 (some 4) = some c.d.v := by obtain ⟨⟨_, _, _, _⟩, p, q, ⟨_, _, _, _⟩, ⟨_, _, _, _⟩⟩ := c; rfl
  have r4 : rdV c.cs 4 none = some (pv c.p) := by obtain ⟨⟨_, _, _, _⟩, p, q, ⟨_, _, _, _⟩, ⟨_, _, _, _⟩⟩ := c; rfl
  have r5 : rdV c.cs 5 none = some (pv c.q) := by obtain ⟨⟨_, _, _, _⟩, p, q, ⟨_, _, _, _⟩, ⟨_, _, _, _⟩⟩ := c; rfl
  have r6 : rdV c.cs 6 (some 4) = some c.x.v := by obtain ⟨⟨_, _, _, _⟩, p, q, ⟨_, _, _, _⟩, ⟨_, _, _, _⟩⟩ := c; rfl
  have r10 : rdV c.cs 10 (some 4) = some c.y.v := by obtain ⟨⟨_, _, _, _⟩, p, q, ⟨_, _, _, _⟩, ⟨_, _, _, _⟩⟩ := c; rfl
  have hcc : c.v.cells = c.cs := rfl
  have hcv : c.v.vw2 = c.v := by obtain ⟨⟨_, _, _, _⟩, p, q, ⟨_, _, _, _⟩, ⟨_, _, _, _⟩⟩ := c; rfl
  have hco : okc c.v = true := rfl
  have hcl : V.low 0 c.v = true := by
    simp only [Two.v, V.low, Two.cs]
    refine lows_append (D.low_cells 0 c.d) ?_
    simp only [V.lows, pv_low, Bool.true_and]
    exact lows_append (D.low_cells 0 c.x) (D.low_cells 0 c.y)
  generalize (c.d.cut 1000 200).1 = a at *
  generalize (c.x.cut 1000 200).1 = u at *
  generalize (c.y.cut 1000 200).1 = v at *
  generalize c.p.take (min c.p.length 500) = s at *
  generalize c.q.take (min c.q.length 500) = t at *
  have e8 : ∀ h, call X E 19999 22 [] h = some (.c (.bool true), h) := gives_nil (n := 19999) rfl (alive_up (by omega))
  have b1 : ∀ h, call X E 19999 40 [pv s, pv t] h = some (.c (.bool (begs s t)), h) := run40 (n := 19998) (by omega) (by omega)
  have b2 : ∀ h, call X E 19999 40 [pv t, pv s] h = some (.c (.bool (begs t s)), h) := run40 (n := 19998) (by omega) (by omega)
  have p1 : ∀ h, call X E 19999 34 [a.v, pv s, u.v] h = some (.tup [(putD s a u).1.v, .c (.int .i64 (putD s a u).2)], h) := run34 (n := 19998) (by omega) (by omega) (by omega) (by omega) (by omega)
  have p2 : ∀ h, call X E 19999 34 [a.v, pv t, v.v] h = some (.tup [(putD t a v).1.v, .c (.int .i64 (putD t a v).2)], h) := run34 (n := 19998) (by omega) (by omega) (by omega) (by omega) (by omega)
  have p3 : ∀ b : D, b.sz ≤ 2000 → ∀ h, call X E 19999 34 [b.v, pv t, v.v] h = some (.tup [(putD t b v).1.v, .c (.int .i64 (putD t b v).2)], h) := fun b hb => run34 (n := 19998) (by omega) (by omega) (by omega) (by omega) (by omega)
  have p4 : ∀ b : D, b.sz ≤ 2000 → ∀ h, call X E 19999 34 [b.v, pv s, u.v] h = some (.tup [(putD s b u).1.v, .c (.int .i64 (putD s b u).2)], h) := fun b hb => run34 (n := 19998) (by omega) (by omega) (by omega) (by omega) (by omega)
  have q4 : ∀ b : D, b.sz ≤ 3000 → ∀ h, call X E 19999 39 [b.v, b.v] h = some (.c (.bool true), h) := fun b hb h => by
    have := run39 b b (by omega) 19999 (by omega) h
    rwa [D.same_refl] at this
  refine gives_of (n := 19999) rfl rfl rfl (by kernel_rfl) ⟨rfl, rfl⟩ (by simp [hcv, V.lows, hcl]) ?_ []
  simp only [List.map_cons, List.map_nil, hcv]
  generalize c.cs = cs at *
  generalize c.v = cv at *
  cases hb1 : begs s t with
  | true =>
    rw [hb1] at b1
    generalize call X E 19999 = cf at *
    simp -implicitDefEqProofs [x10_w, x10_r, x10r1_w, x10r2_w, x10r3_w, x10r4_w, x10r5_w, hcc, hco, r0, r4, r5, r6, r10, D.vw2, pv_vw2, D.okc, D.rd, D.cells_len, D.spl, c1, c2, c3, c4, c5, e8, b1, guardF_u]
  | false =>
  cases hb2 : begs t s with
  | true =>
    rw [hb1] at b1
    rw [hb2] at b2
    generalize call X E 19999 = cf at *
    simp -implicitDefEqProofs [x10_w, x10_r, x10r1_w, x10r2_w, x10r3_w, x10r4_w, x10r5_w, hcc, hco, r0, r4, r5, r6, r10, D.vw2, pv_vw2, D.okc, D.rd, D.cells_len, D.spl, c1, c2, c3, c4, c5, e8, b1, b2, guardF_u]
  | false =>
  rw [hb1] at b1
  rw [hb2] at b2
  by_cases hok : (putD s a u).2 = 0 ∧ (putD t a v).2 = 0
  rotate_left
  · have hh : ((putD s a u).2 != 0) = true ∨ ((putD s a u).2 != 0) = false ∧ ((putD t a v).2 != 0) = true := by
      by_cases h1 : (putD s a u).2 = 0
      · refine .inr ⟨by simpa using h1, ?_⟩
        have := fun h => hok ⟨h1, h⟩
        simpa using this
      · exact .inl (by simpa using h1)
    clear hok
    generalize call X E 19999 = cf at *
    generalize (putD s a u).1 = z1 at *
    generalize (putD s a u).2 = w1 at *
    generalize (putD t a v).1 = z2 at *
    generalize (putD t a v).2 = w2 at *
    rcases hh with h1 | ⟨h1, h2⟩
    · simp -implicitDefEqProofs [x10_w, x10_r, x10r1_w, x10r2_w, x10r3_w, x10r4_w, x10r6_w, x10r7_w, x10r8_w, x10r9_w, hcc, hco, r0, r4, r5, r6, r10, D.vw2, pv_vw2, D.okc, D.rd, D.cells_len, D.spl, c1, c2, c3, c4, c5, e8, b1, b2, p1, p2, h1, guardF_u]
    · simp -implicitDefEqProofs [x10_w, x10_r, x10r1_w, x10r2_w, x10r3_w, x10r4_w, x10r6_w, x10r7_w, x10r8_w, x10r9_w, hcc, hco, r0, r4, r5, r6, r10, D.vw2, pv_vw2, D.okc, D.rd, D.cells_len, D.spl, c1, c2, c3, c4, c5, e8, b1, b2, p1, p2, h1, h2, guardF_u]
  · obtain ⟨u0, f1, f2, f3, f4, f5⟩ := putD_ok hok.1
    obtain ⟨v0, g1, g2, g3, g4, g5⟩ := putD_ok hok.2
    have z1 := D.put_sz u s a u0 f1
    have z2 := D.put_sz v t a v0 g1
    have y1 := D.put_dp u s a u0 f1
    have y2 := D.put_dp v t a v0 g1
    have k1 := D.at_put_other u s t a u0 hb1 hb2 f1
    have k2 := D.at_put_other v t s a v0 hb2 hb1 g1
    rw [g1] at k1
    rw [f1] at k2
    have z3 := D.put_sz v t _ v0 k1
    have z4 := D.put_sz u s _ u0 k2
    have y3 := D.put_dp v t _ v0 k1
    have y4 := D.put_dp u s _ u0 k2
    have fa := ((D.ck_zero a).1 f2).1
    have fu := ((D.ck_zero u).1 f3).1
    have fv := ((D.ck_zero v).1 g3).1
    have n1 : (D.put t (D.put s a u) v).ck = 0 := (D.ck_zero _).2 ⟨D.put_fm fv t _ v0 k1 (D.put_fm fu s a u0 f1 fa), by omega, by omega⟩
    have n2 : (D.put s (D.put t a v) u).ck = 0 := (D.ck_zero _).2 ⟨D.put_fm fu s _ u0 k2 (D.put_fm fv t a v0 g1 fa), by omega, by omega⟩
    have m1 := p3 (D.put s a u) (by omega)
    have m2 := p4 (D.put t a v) (by omega)
    rw [putD_of f4 g3 k1 n1] at m1
    rw [putD_of g4 f3 k2 n2] at m2
    rw [← D.put_comm u v s t a u0 v0 hb1 hb2 f1 g1] at m2
    have m3 := q4 (D.put t (D.put s a u) v) (by omega)
    rw [f5] at p1
    rw [g5] at p2
    generalize D.put t (D.put s a u) v = w at *
    generalize D.put s a u = w1 at *
    generalize D.put t a v = w2 at *
    generalize call X E 19999 = cf at *
    simp -implicitDefEqProofs [x10_w, x10_r, x10r1_w, x10r2_w, x10r3_w, x10r4_w, x10r6_w, x10r7_w, x10r8_w, x10r10_w, x10r11_w, x10r12_w, hcc, hco, r0, r4, r5, r6, r10, D.vw2, pv_vw2, D.okc, D.rd, D.cells_len, D.spl, D.drop4, c1, c2, c3, c4, c5, e8, b1, b2, p1, p2, m1, m2, m3, guardF_u]
end Go.Proofs.Ytbkgpdkimcnpgaa.Ab
