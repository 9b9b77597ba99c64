/- The laws of DatumBack and DatumAdds. -/
import Derived.Test.YtbkgpdkimcnpgaaRd37
namespace Go.Proofs.Ytbkgpdkimcnpgaa.Ab
open Go
set_option linter.unusedVariables false
set_option linter.unusedSimpArgs false
set_option maxRecDepth 4000
set_option maxHeartbeats 1000000

theorem guardF_u {cf : CallF} {s : SF} (b : Bool) (op : XOp) : guardF cf undefV b op s = some (undefV, s.h) := rfl
theorem law9 (d1 : D) (q : List Int) (d2 : D) : call X E 20000 9 [d1.v, pv q, d2.v] [] = some (.c (.bool true), []) := by
  have hs1 := D.cut_small d1 1000 1020 (by omega)
  have hs2 := D.cut_small d2 1000 1020 (by omega)
  have c1 : ∀ h, call X E 19999 38 [d1.v, .c (.int .i64 1000), .c (.int .i64 1020)] h = some ((d1.cut 1000 1020).1.v, h) := run38 d1 1000 1020 19998 (by omega) (by omega) (by omega) (by omega) (by omega)
  have c2 : ∀ h, call X E 19999 38 [d2.v, .c (.int .i64 1000), .c (.int .i64 1020)] h = some ((d2.cut 1000 1020).1.v, h) := run38 d2 1000 1020 19998 (by omega) (by omega) (by omega) (by omega) (by omega)
  have c3 : ∀ h, call X E 19999 32 [pv q] h = some (pv (q.take (min q.length 500)), h) := run32 (n := 19998)
  have hp : (q.take (min q.length 500)).length ≤ 500 := by simp; omega
  generalize (d1.cut 1000 1020).1 = a at *
  generalize (d2.cut 1000 1020).1 = y at *
  generalize q.take (min q.length 500) = p at *
  have e8 : ∀ h, call X E 19999 22 [] h = some (.c (.bool true), h) := gives_nil (n := 19999) rfl (alive_up (by omega))
  have e1 : ∀ h, call X E 19999 33 [a.v, pv p] h = some (.tup [(atD p a).1.v, .c (.int .i64 (atD p a).2)], h) := run33 (n := 19998) (by omega) (by omega) (by omega) (by omega)
  have e2 : ∀ h, call X E 19999 15 [y.v] h = some (.c (.int .i64 y.ck), h) := run15 y (by omega) 19999 (by omega)
  have e3 : ∀ u : D, u.sz ≤ 1000 → ∀ h, call X E 19999 34 [a.v, pv p, u.v] h = some (.tup [(putD p a u).1.v, .c (.int .i64 (putD p a u).2)], h) := fun u hu => run34 (n := 19998) (by omega) (by omega) (by omega) (by omega) (by omega)
  have e4 : ∀ u : D, u.sz ≤ 2000 → ∀ h, call X E 19999 39 [u.v, u.v] h = some (.c (.bool true), h) := fun u hu h => by
    have := run39 u u (by omega) 19999 (by omega) h
    rwa [D.same_refl] at this
  have e5 : ∀ u : D, u.sz ≤ 2000 → ∀ h, call X E 19999 33 [u.v, pv p] h = some (.tup [(atD p u).1.v, .c (.int .i64 (atD p u).2)], h) := fun u hu => run33 (n := 19998) (by omega) (by omega) (by omega) (by omega)
  refine gives_of (n := 19999) rfl rfl rfl (by kernel_rfl) ⟨rfl, rfl⟩ (by simp [D.vw2, V.lows, D.low, pv_vw2, pv_low]) ?_ []
  have hcks := D.ck_cases a (by omega)
  have bad : (atD p a).2 ≠ 0 → wpk (call X E 19999) 19999 x9.body [] (Fin (fun vs x => (resOf vs).vw = V.c (Value.bool true) ∧ (V.c (Value.bool true)).low 0 = true) x9) ⟨arg0 ([d1.v, pv q, d2.v].map V.vw2), [], 0, 0⟩ := fun h => by
    have h' : ((atD p a).2 != 0) = true := by simpa using h
    generalize call X E 19999 = cf at *
    generalize (atD p a).1 = z at *
    generalize (atD p a).2 = w at *
    simp -implicitDefEqProofs [x9_w, x9_r, x9r1_w, x9r2_w, x9r3_w, x9r4_w, x9r5_w, D.vw2, pv_vw2, D.okc, D.rd, D.cells_len, D.spl, c1, c2, c3, e1, e8, h']
  by_cases h0 : a.ck = 0
  rotate_left
  · exact bad (by rw [atD, if_pos h0]; exact h0)
  cases hu : D.at p a with
  | none => exact bad (by rw [atD, if_neg (by simpa using h0), hu]; simp)
  | some u =>
    have hat : atD p a = (u, 0) := by rw [atD, if_neg (by simpa using h0), hu]
    rw [hat] at e1
    clear bad
    obtain ⟨f1, f2, f3⟩ := (D.ck_zero a).1 h0
    have us := D.at_sz p a u hu
    have uck : u.ck = 0 := (D.ck_zero u).2 ⟨D.at_fm p a u hu f1, by omega, by have := D.at_dp p a u hu; omega⟩
    have hpu : putD p a u = (a, 0) := by
      rw [putD, if_neg (by simpa using h0), if_neg (by simpa using uck), hu, if_neg (by simp), D.put_self p a u hu, if_neg (by simpa using h0)]
    have g1 := e3 u (by omega)
    rw [hpu] at g1
    have g2 := e4 a (by omega)
    have g3 := e3 y (by omega)
    by_cases h1 : y.ck = 0
    · by_cases h2 : (D.put p a y).ck = 0
      · have hpy : putD p a y = (D.put p a y, 0) := by
          rw [putD, if_neg (by simpa using h0), if_neg (by simpa using h1), hu, if_neg (by simp), if_neg (by simpa using h2)]
        rw [hpy] at g3
        have hps := D.put_sz y p a u hu
        have g4 := e5 (D.put p a y) (by omega)
        have hat2 : atD p (D.put p a y) = (y, 0) := by rw [atD, if_neg (by simpa using h2), D.at_put y p a u hu]
        rw [hat2] at g4
        have g5 := e4 y (by omega)
        generalize D.put p a y = w at *
        generalize call X E 19999 = cf at *
        simp -implicitDefEqProofs [x9_w, x9_r, x9r1_w, x9r2_w, x9r3_w, x9r4_w, x9r6_w, x9r7_w, x9r9_w, x9r10_w, x9r12_w, x9r13_w, D.vw2, pv_vw2, D.okc, D.rd, D.cells_len, D.spl, c1, c2, c3, e1, e8, g1, g2, g3, g4, g5]
      · have hpy : putD p a y = (.zero, 3) := by
          rw [putD, if_neg (by simpa using h0), if_neg (by simpa using h1), hu, if_neg (by simp), if_pos h2]
        rw [hpy] at g3
        rw [h1] at e2
        generalize call X E 19999 = cf at *
        simp -implicitDefEqProofs [x9_w, x9_r, x9r1_w, x9r2_w, x9r3_w, x9r4_w, x9r6_w, x9r7_w, x9r9_w, x9r10_w, x9r11_w, D.vw2, pv_vw2, D.okc, D.rd, D.cells_len, D.spl, c1, c2, c3, e1, e2, e8, g1, g2, g3]
    · have hpy : putD p a y = (.zero, y.ck) := by
        rw [putD, if_neg (by simpa using h0), if_pos h1]
      rw [hpy] at g3
      have h1' : (y.ck != 0) = true := by simpa using h1
      generalize call X E 19999 = cf at *
      simp -implicitDefEqProofs [x9_w, x9_r, x9r1_w, x9r2_w, x9r3_w, x9r4_w, x9r6_w, x9r7_w, x9r9_w, x9r10_w, x9r11_w, D.vw2, pv_vw2, D.okc, D.rd, D.cells_len, D.spl, c1, c2, c3, e1, e2, e8, g1, g2, g3, h1', guardF_u]

structure I11 (a1 a2 a4 : O) (l : List D) (k n : Int) (t : ByteArray) (pw : V) (m : Nat) (s : SF) : Prop where
  j : ∃ j : Nat, j + m = l.length ∧ s.e 11 = .c (.int .i64 j) ∧ s.e 10 = .c (.int .i64 (1 + D.szs (l.take j) : Nat))
  e7 : s.e 7 = .ref 2 0
  e8 : s.e 8 = pw
  e9 : s.e 9 = .ref 3 0
  h : s.h = [a1, a2, .cells [.c (.int .i64 k), .c (.int .i64 n), .c (.string t), .sl (D.vs l) .any], a4]
  b : s.base = 0
theorem step11 {cf : CallF} {fu : Nat} {a1 a2 a4 : O} {l : List D} {k n : Int} {t : ByteArray} {pw : V} (hl : D.szs l < 1099511627776) (hc : ∀ x ∈ l, ∀ h, cf 17 [x.v] h = some (.c (.int .i64 x.sz), h)) {Q : Ex → SF → Prop}
    (hQ : ∀ s, s.e 10 = .c (.int .i64 (1 + D.szs l : Nat)) → s.e 7 = .ref 2 0 → s.e 8 = pw → s.e 9 = .ref 3 0 → s.h = [a1, a2, .cells [.c (.int .i64 k), .c (.int .i64 n), .c (.string t), .sl (D.vs l) .any], a4] → s.base = 0 → Q (.exit 0) s) (m : Nat) (s : SF) (I : I11 a1 a2 a4 l k n t pw m s) :
    wpk cf fu x11l8 [] (fun e s' => match e with | .normal => ∃ k1, k1 < m ∧ I11 a1 a2 a4 l k n t pw k1 s' | e => Q e s') s := by
  obtain ⟨⟨j, hj, e11, e10⟩, e7, e8, e9, hh, hb⟩ := I
  obtain ⟨e, h, base, rb⟩ := s
  simp only at e11 e10 e7 e8 e9 hh hb
  subst hh hb
  have hlen := D.len_szs l
  by_cases hm : j < l.length
  · have hlt : (j : Int) < l.length := by omega
    have hx := hc _ (List.getElem_mem hm)
    have htk := D.szs_take l j hm
    have htl := D.szs_take_le l (j + 1)
    have hsz := D.sz_pos l[j]
    have hw : IntKind.i64.wrap (((1 + D.szs (l.take j) : Nat) : Int) + (l[j].sz : Int)) = (1 + D.szs (l.take (j + 1)) : Nat) := by rw [wrap_in (by omega), htk]; omega
    generalize h10 : (1 + D.szs (l.take j) : Nat) = w10 at *
    simp -implicitDefEqProofs [x11l8_w, x11r5_w, x11r6_w, x11r7_w, e7, e10, e11, D.vs_len, hlt, hm, D.vs_getE, D.cells_len, D.rd, hx, hw]
    refine ⟨m - 1, by omega, ⟨⟨j + 1, by omega, ?_, ?_⟩, ?_, ?_, ?_, rfl, rfl⟩⟩
    · simp only [upd_at, e11]
      simp
      rw [wrap_in (by omega)]
    · simp [upd_at]
    · simp [upd_at, e7]
    · simp [upd_at, e8]
    · simp [upd_at, e9]
  · have hlt : ¬ (j : Int) < l.length := by omega
    rw [List.take_of_length_le (by omega)] at e10
    simp -implicitDefEqProofs [x11l8_w, x11r5_w, e7, e11, D.vs_len, hlt]
    exact hQ _ (by simp [upd_at, e10]) (by simp [upd_at, e7]) (by simp [upd_at, e8]) (by simp [upd_at, e9]) rfl rfl
theorem law11 (d1 : D) (q : List Int) (d2 : D) : call X E 20000 11 [d1.v, pv q, d2.v] [] = some (.c (.bool true), []) := by
  have hs1 := D.cut_small d1 1000 1020 (by omega)
  have hs2 := D.cut_small d2 1000 1020 (by omega)
  have c1 : ∀ h, call X E 19999 38 [d1.v, .c (.int .i64 1000), .c (.int .i64 1020)] h = some ((d1.cut 1000 1020).1.v, h) := run38 d1 1000 1020 19998 (by omega) (by omega) (by omega) (by omega) (by omega)
  have c2 : ∀ h, call X E 19999 38 [d2.v, .c (.int .i64 1000), .c (.int .i64 1020)] h = some ((d2.cut 1000 1020).1.v, h) := run38 d2 1000 1020 19998 (by omega) (by omega) (by omega) (by omega) (by omega)
  have c3 : ∀ h, call X E 19999 32 [pv q] h = some (pv (q.take (min q.length 500)), h) := run32 (n := 19998)
  have hp : (q.take (min q.length 500)).length ≤ 500 := by simp; omega
  generalize (d1.cut 1000 1020).1 = a at *
  generalize (d2.cut 1000 1020).1 = y at *
  generalize q.take (min q.length 500) = p at *
  have e8 : ∀ h, call X E 19999 22 [] h = some (.c (.bool true), h) := gives_nil (n := 19999) rfl (alive_up (by omega))
  have e1 : ∀ h, call X E 19999 33 [a.v, pv p] h = some (.tup [(atD p a).1.v, .c (.int .i64 (atD p a).2)], h) := run33 (n := 19998) (by omega) (by omega) (by omega) (by omega)
  have e3 : ∀ h, call X E 19999 34 [a.v, pv p, y.v] h = some (.tup [(putD p a y).1.v, .c (.int .i64 (putD p a y).2)], h) := run34 (n := 19998) (by omega) (by omega) (by omega) (by omega) (by omega)
  have e4 : ∀ u : D, u.sz ≤ 2000 → ∀ h, call X E 19999 17 [u.v] h = some (.c (.int .i64 u.sz), h) := fun u hu => run17 (n := 19998) (by omega) (by omega)
  refine gives_of (n := 19999) rfl rfl rfl (by kernel_rfl) ⟨rfl, rfl⟩ (by simp [D.vw2, V.lows, D.low, pv_vw2, pv_low]) ?_ []
  have ga := e4 a (by omega)
  have gy := e4 y (by omega)
  have hcell : O.cells a.v.cells = .cells a.v.cells := rfl
  have hasz : ∀ k n t l, a = .mk k n t l → a.sz = 1 + D.szs l := fun k n t l h => by rw [h, D.sz]
  obtain ⟨k, n, t, l, hal⟩ : ∃ k n t l, a = .mk k n t l := by cases a; exact ⟨_, _, _, _, rfl⟩
  have hcl : a.v.cells = [.c (.int .i64 k), .c (.int .i64 n), .c (.string t), .sl (D.vs l) .any] := by rw [hal]; rfl
  have hsz := hasz _ _ _ _ hal
  have hll := D.len_szs l
  have hkids : ∀ x ∈ l, ∀ h, call X E 19999 17 [x.v] h = some (.c (.int .i64 x.sz), h) := fun x hx => e4 x (by have := D.mem_sz hx; omega)
  have hrda : rdV [.c (.int .i64 k), .c (.int .i64 n), .c (.string t), .sl (D.vs l) .any] 0 (some 4) = some a.v := by rw [← hcl]; exact D.rd a
  have hne0 : ((a.sz : Int) != a.sz) = false := by simp
  by_cases hok : (atD p a).2 = 0 ∧ (putD p a y).2 = 0
  rotate_left
  · have hh : ((atD p a).2 != 0) = true ∨ ((atD p a).2 != 0) = false ∧ ((putD p a y).2 != 0) = true := by
      by_cases h1 : (atD p a).2 = 0
      · refine .inr ⟨by simpa using h1, ?_⟩
        have := fun h => hok ⟨h1, h⟩
        simpa using this
      · exact .inl (by simpa using h1)
    clear hok
    generalize call X E 19999 = cf at *
    generalize (atD p a).1 = z1 at *
    generalize (atD p a).2 = w1 at *
    generalize (putD p a y).1 = z2 at *
    generalize (putD p a y).2 = w2 at *
    simp -implicitDefEqProofs [x11_w, x11r1_w, x11r2_w, x11r3_w, x11r4_w, D.vw2, pv_vw2, D.okc, D.rd, D.cells_len, D.spl, c1, c2, c3]
    rw [hcl]
    refine lpk_of (I11 (.cells d1.v.cells) (.cells d2.v.cells) (.cells y.v.cells) l k n t (pv p)) l.length (by omega) ⟨⟨0, by simp, by simp [upd_at], by simp [upd_at, D.szs]⟩, by simp [upd_at], by simp [upd_at], by simp [upd_at], rfl, rfl⟩ ?_
    refine step11 (by omega) hkids fun s g10 g7 g8 g9 gh gb => ?_
    obtain ⟨e, h, base, rb⟩ := s
    simp only at g10 g7 g8 g9 gh gb
    subst gh gb
    rw [← hsz] at g10
    rcases hh with h1 | ⟨h1, h2⟩
    · simp -implicitDefEqProofs [x11_r, x11r9_w, x11r11_w, x11r12_w, x11r13_w, x11r14_w, D.rd, D.cells_len, D.okc, D.spl, hrda, g7, g8, g9, g10, ga, hne0, e1, e3, e8, h1]
    · simp -implicitDefEqProofs [x11_r, x11r9_w, x11r11_w, x11r12_w, x11r13_w, x11r14_w, D.rd, D.cells_len, D.okc, D.spl, hrda, g7, g8, g9, g10, ga, hne0, e1, e3, e8, h1, h2]
  · obtain ⟨k1, k2⟩ := hok
    have hk : ∃ u, D.at p a = some u ∧ atD p a = (u, 0) ∧ putD p a y = (D.put p a y, 0) := by
      by_cases h0 : a.ck = 0
      rotate_left
      · rw [atD, if_pos h0] at k1
        exact absurd k1 h0
      cases hu : D.at p a with
      | none =>
        rw [atD, if_neg (by simpa using h0), hu] at k1
        simp at k1
      | some u =>
        by_cases h1 : y.ck = 0
        rotate_left
        · rw [putD, if_neg (by simpa using h0), if_pos h1] at k2
          exact absurd k2 h1
        by_cases h2 : (D.put p a y).ck = 0
        · exact ⟨u, rfl, by rw [atD, if_neg (by simpa using h0), hu], by rw [putD, if_neg (by simpa using h0), if_neg (by simpa using h1), hu, if_neg (by simp), if_neg (by simpa using h2)]⟩
        · rw [putD, if_neg (by simpa using h0), if_neg (by simpa using h1), hu, if_neg (by simp), if_pos h2] at k2
          simp at k2
    obtain ⟨u, hu, hat, hpt⟩ := hk
    have hps := D.put_sz y p a u hu
    have us := D.at_sz p a u hu
    rw [hat] at e1
    rw [hpt] at e3
    have gu := e4 u (by omega)
    have gw := e4 (D.put p a y) (by omega)
    generalize D.put p a y = w at *
    have hw1 : IntKind.i64.wrap ((a.sz : Int) + y.sz) = a.sz + y.sz := wrap_in (by omega)
    have hw2 : IntKind.i64.wrap ((a.sz : Int) + y.sz - u.sz) = a.sz + y.sz - u.sz := wrap_in (by omega)
    have hfin : ((w.sz : Int) == (a.sz : Int) + y.sz - u.sz) = true := by simp; omega
    generalize call X E 19999 = cf at *
    simp -implicitDefEqProofs [x11_w, x11r1_w, x11r2_w, x11r3_w, x11r4_w, D.vw2, pv_vw2, D.okc, D.rd, D.cells_len, D.spl, c1, c2, c3]
    rw [hcl]
    refine lpk_of (I11 (.cells d1.v.cells) (.cells d2.v.cells) (.cells y.v.cells) l k n t (pv p)) l.length (by omega) ⟨⟨0, by simp, by simp [upd_at], by simp [upd_at, D.szs]⟩, by simp [upd_at], by simp [upd_at], by simp [upd_at], rfl, rfl⟩ ?_
    refine step11 (by omega) hkids fun s g10 g7 g8 g9 gh gb => ?_
    obtain ⟨e, h, base, rb⟩ := s
    simp only at g10 g7 g8 g9 gh gb
    subst gh gb
    rw [← hsz] at g10
    simp -implicitDefEqProofs [x11_r, x11r9_w, x11r11_w, x11r12_w, x11r13_w, x11r15_w, D.rd, D.cells_len, D.okc, D.spl, hrda, g7, g8, g9, g10, ga, gy, gu, gw, hne0, e1, e3, e8, hw1, hw2, hfin]
end Go.Proofs.Ytbkgpdkimcnpgaa.Ab
