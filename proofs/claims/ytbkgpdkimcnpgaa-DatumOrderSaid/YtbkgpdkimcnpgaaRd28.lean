/- The law of DatumOrder. -/
import Derived.Test.YtbkgpdkimcnpgaaRd27
namespace Go.Proofs.Ytbkgpdkimcnpgaa.Ab
open Go
set_option linter.unusedVariables false
set_option linter.unusedSimpArgs false
set_option maxRecDepth 4000
set_option maxHeartbeats 1000000

structure J13 (L : List D) (s : SF) : Prop where
  e7 : s.e 7 = .sl (D.vs L) .full
  b : s.base = 0
structure A13 (L : List D) (m : Nat) (s : SF) : Prop where
  j : ∃ i : Nat, i + m = 3 ∧ s.e 8 = .c (.int .i64 i)
  J : J13 L s
structure B13 (L : List D) (i : Nat) (m : Nat) (s : SF) : Prop where
  j : ∃ k : Nat, k + m = 3 ∧ s.e 9 = .c (.int .i64 k)
  e8 : s.e 8 = .c (.int .i64 i)
  J : J13 L s
structure C13 (L : List D) (i k : Nat) (x y : D) (m : Nat) (s : SF) : Prop where
  j : ∃ q : Nat, q + m = 3 ∧ s.e 11 = .c (.int .i64 q)
  e8 : s.e 8 = .c (.int .i64 i)
  e9 : s.e 9 = .c (.int .i64 k)
  e10 : s.e 10 = .c (.int .i64 (x.cmp y))
  J : J13 L s

theorem stepC13 {cf : CallF} {fu : Nat} {L : List D} {i k : Nat} (hL : L.length = 3) (hi : i < 3) (hk : k < 3) (hc : ∀ x ∈ L, ∀ y ∈ L, ∀ h, cf 41 [x.v, y.v] h = some (.c (.int .i64 (x.cmp y)), h)) {Q : Ex → SF → Prop}
    (hQ : ∀ s, s.e 8 = .c (.int .i64 i) → s.e 9 = .c (.int .i64 k) → J13 L s → Q (.exit 4) s) (m : Nat) (s : SF) (I : C13 L i k (L[i]'(by omega)) (L[k]'(by omega)) m s) :
    wpk cf fu x13l15 [] (fun e s' => match e with | .normal => ∃ k1, k1 < m ∧ C13 L i k (L[i]'(by omega)) (L[k]'(by omega)) k1 s' | e => Q e s') s := by
  obtain ⟨⟨q, hq, e11⟩, e8, e9, e10, e7, hb⟩ := I
  obtain ⟨e, h, base, rb⟩ := s
  simp only at e11 e8 e9 e10 e7 hb
  subst hb
  have hiL : i < L.length := by omega
  have hkL : k < L.length := by omega
  have hiI : (i : Int) < L.length := by omega
  have hkI : (k : Int) < L.length := by omega
  have hwrap : IntKind.i64.wrap ((q : Int) + 1) = q + 1 := wrap_in (by omega)
  have hend : ∀ (m' : Nat) (e' : Nat → V) (h' : List O) (rb' : Nat), q + 1 + m' = 3 → e' 11 = .c (.int .i64 (IntKind.i64.wrap ((q : Int) + 1))) → e' 8 = e 8 → e' 9 = e 9 → e' 10 = e 10 → e' 7 = e 7 → C13 L i k L[i] L[k] m' ⟨e', h', 0, rb'⟩ := by
    intro m' e' h' rb' h1 h2 h3 h4 h5 h6
    refine ⟨⟨q + 1, h1, ?_⟩, h3.trans e8, h4.trans e9, h5.trans e10, h6.trans e7, rfl⟩
    exact h2.trans (by rw [hwrap]; simp)
  by_cases hm : q < 3
  · have hqL : q < L.length := by omega
    have hqI : (q : Int) < L.length := by omega
    have hq3 : (q : Int) < 3 := by omega
    have c1 := hc _ (List.getElem_mem hkL) _ (List.getElem_mem hqL)
    have c2 := hc _ (List.getElem_mem hiL) _ (List.getElem_mem hqL)
    have htri := D.cmp_tri L[i] L[k] L[q]
    rcases D.cmp_one L[i] L[k] with s1 | s1 | s1 <;> rw [s1] at e10 htri
    rotate_left 2
    · simp -implicitDefEqProofs [x13l15_w, x13r11_w, x13r12_w, x13r13_w, x13r14_w, e7, e8, e9, e10, e11, D.vs_len, hq3, hiL, hkL, hqL, hiI, hkI, hqI, D.vs_getE, D.cells_len, D.rd]
      exact ⟨m - 1, by omega, hend _ _ _ _ (by omega) (by simp [upd_at]) (by simp [upd_at]) (by simp [upd_at]) (by simp [upd_at]) (by simp [upd_at])⟩
    all_goals
      rcases D.cmp_one L[k] L[q] with s2 | s2 | s2 <;> rw [s2] at c1 htri
      rotate_left 2
      · simp -implicitDefEqProofs [x13l15_w, x13r11_w, x13r12_w, x13r13_w, x13r14_w, e7, e8, e9, e10, e11, D.vs_len, hq3, hiL, hkL, hqL, hiI, hkI, hqI, D.vs_getE, D.cells_len, D.rd, c1]
        exact ⟨m - 1, by omega, hend _ _ _ _ (by omega) (by simp [upd_at]) (by simp [upd_at]) (by simp [upd_at]) (by simp [upd_at]) (by simp [upd_at])⟩
      all_goals
        rcases D.cmp_one L[i] L[q] with s3 | s3 | s3 <;> rw [s3] at c2 htri
        rotate_left 2
        · exfalso; unfold Tri at htri; omega
        all_goals
          simp -implicitDefEqProofs [x13l15_w, x13r11_w, x13r12_w, x13r13_w, x13r14_w, e7, e8, e9, e10, e11, D.vs_len, hq3, hiL, hkL, hqL, hiI, hkI, hqI, D.vs_getE, D.cells_len, D.rd, c1, c2]
          exact ⟨m - 1, by omega, hend _ _ _ _ (by omega) (by simp [upd_at]) (by simp [upd_at]) (by simp [upd_at]) (by simp [upd_at]) (by simp [upd_at])⟩
  · have hq3 : ¬ (q : Int) < 3 := by omega
    simp -implicitDefEqProofs [x13l15_w, x13r11_w, e11, hq3]
    exact hQ _ (by simp [upd_at, e8]) (by simp [upd_at, e9]) ⟨by simp [upd_at, e7], rfl⟩

theorem wr0 : IntKind.i64.wrap 0 = 0 := wrap_in (by omega)
theorem wr1 : IntKind.i64.wrap 1 = 1 := wrap_in (by omega)
theorem wrm : IntKind.i64.wrap (-1) = -1 := wrap_in (by omega)
theorem stepB13 {cf : CallF} {fu : Nat} (hfu : 4 ≤ fu) {L : List D} {i : Nat} (hL : L.length = 3) (hi : i < 3) (hc : ∀ x ∈ L, ∀ y ∈ L, ∀ h, cf 41 [x.v, y.v] h = some (.c (.int .i64 (x.cmp y)), h)) (hs : ∀ x ∈ L, ∀ y ∈ L, ∀ h, cf 39 [x.v, y.v] h = some (.c (.bool (x.same y)), h)) {Q : Ex → SF → Prop}
    (hQ : ∀ s, s.e 8 = .c (.int .i64 i) → J13 L s → Q (.exit 2) s) (m : Nat) (s : SF) (I : B13 L i m s) :
    wpk cf fu x13l17 [] (fun e s' => match e with | .normal => ∃ k1, k1 < m ∧ B13 L i k1 s' | e => Q e s') s := by
  obtain ⟨⟨k, hk, e9⟩, e8, e7, hb⟩ := I
  obtain ⟨e, h, base, rb⟩ := s
  simp only at e9 e8 e7 hb
  subst hb
  have hiL : i < L.length := by omega
  have hiI : (i : Int) < L.length := by omega
  by_cases hm : k < 3
  · have hkL : k < L.length := by omega
    have hkI : (k : Int) < L.length := by omega
    have hk3 : (k : Int) < 3 := by omega
    have c1 := hc _ (List.getElem_mem hiL) _ (List.getElem_mem hkL)
    have c2 := hc _ (List.getElem_mem hkL) _ (List.getElem_mem hiL)
    have c3 := hs _ (List.getElem_mem hiL) _ (List.getElem_mem hkL)
    have hneg := D.cmp_neg L[k] L[i]
    have hzero := D.cmp_zero L[i] L[k]
    have hrest : ∀ (e' : Nat → V) (h' : List O) (rb' : Nat), e' 8 = e 8 → e' 9 = e 9 → e' 7 = e 7 → e' 10 = .c (.int .i64 (L[i].cmp L[k])) → e' 11 = .c (.int .i64 0) →
        lpk cf fu x13l15 [Fr.blk 4, Fr.blk 3, Fr.seq x13r16] (fun e s' => match e with | .normal => ∃ k1, k1 < m ∧ B13 L i k1 s' | e => Q e s') ⟨e', h', 0, rb'⟩ := by
      intro e' h' rb' h8 h9 h7 h10 h11
      refine lpk_of (C13 L i k L[i] L[k]) 3 (by omega) ⟨⟨0, rfl, h11⟩, h8.trans e8, h9.trans e9, h10, h7.trans e7, rfl⟩ ?_
      refine stepC13 hL hi hm hc fun s g8 g9 gJ => ?_
      obtain ⟨e2, h2, b2, rb2⟩ := s
      obtain ⟨g7, gb⟩ := gJ
      simp only at g8 g9 g7 gb
      subst gb
      simp -implicitDefEqProofs [x13r16_w, g9]
      refine ⟨m - 1, by omega, ⟨k + 1, by omega, ?_⟩, ?_, ?_, rfl⟩
      · simp only [upd_at]
        simp
        rw [wrap_in (by omega)]
      · simp [upd_at, g8]
      · simp [upd_at, g7]
    rcases D.cmp_one L[i] L[k] with s1 | s1 | s1 <;> rw [s1] at c1 hneg hzero hrest <;> rw [hneg] at c2
    · have hsm : (L[i]).same L[k] = false := by
        cases hh : (L[i]).same L[k] with
        | false => rfl
        | true => have := hzero.2 hh; omega
      rw [hsm] at c3
      simp -implicitDefEqProofs [x13l17_w, x13r6_w, x13r7_w, x13r8_w, x13r10_w, e7, e8, e9, D.vs_len, hk3, hiL, hkL, hiI, hkI, D.vs_getE, D.cells_len, D.rd, c1, c2, c3, wr0, wr1, wrm]
      exact hrest _ _ _ (by simp [upd_at]) (by simp [upd_at]) (by simp [upd_at]) (by simp [upd_at]) (by simp [upd_at])
    · have hsm : (L[i]).same L[k] = true := hzero.1 rfl
      rw [hsm] at c3
      simp -implicitDefEqProofs [x13l17_w, x13r6_w, x13r7_w, x13r8_w, x13r10_w, e7, e8, e9, D.vs_len, hk3, hiL, hkL, hiI, hkI, D.vs_getE, D.cells_len, D.rd, c1, c2, c3, wr0, wr1, wrm]
      exact hrest _ _ _ (by simp [upd_at]) (by simp [upd_at]) (by simp [upd_at]) (by simp [upd_at]) (by simp [upd_at])
    · have hsm : (L[i]).same L[k] = false := by
        cases hh : (L[i]).same L[k] with
        | false => rfl
        | true => have := hzero.2 hh; omega
      rw [hsm] at c3
      simp -implicitDefEqProofs [x13l17_w, x13r6_w, x13r7_w, x13r8_w, x13r10_w, e7, e8, e9, D.vs_len, hk3, hiL, hkL, hiI, hkI, D.vs_getE, D.cells_len, D.rd, c1, c2, c3, wr0, wr1, wrm]
      exact hrest _ _ _ (by simp [upd_at]) (by simp [upd_at]) (by simp [upd_at]) (by simp [upd_at]) (by simp [upd_at])
  · have hk3 : ¬ (k : Int) < 3 := by omega
    simp -implicitDefEqProofs [x13l17_w, x13r6_w, e9, hk3]
    exact hQ _ (by simp [upd_at, e8]) ⟨by simp [upd_at, e7], rfl⟩

theorem stepA13 {cf : CallF} {fu : Nat} (hfu : 4 ≤ fu) {L : List D} (hL : L.length = 3) (hc : ∀ x ∈ L, ∀ y ∈ L, ∀ h, cf 41 [x.v, y.v] h = some (.c (.int .i64 (x.cmp y)), h)) (hs : ∀ x ∈ L, ∀ y ∈ L, ∀ h, cf 39 [x.v, y.v] h = some (.c (.bool (x.same y)), h)) {Q : Ex → SF → Prop}
    (hQ : ∀ s, J13 L s → Q (.exit 0) s) (m : Nat) (s : SF) (I : A13 L m s) :
    wpk cf fu x13l19 [] (fun e s' => match e with | .normal => ∃ k1, k1 < m ∧ A13 L k1 s' | e => Q e s') s := by
  obtain ⟨⟨i, hi, e8⟩, e7, hb⟩ := I
  obtain ⟨e, h, base, rb⟩ := s
  simp only at e8 e7 hb
  subst hb
  by_cases hm : i < 3
  · have hi3 : (i : Int) < 3 := by omega
    simp -implicitDefEqProofs [x13l19_w, x13r4_w, x13r5_w, e7, e8, hi3]
    refine lpk_of (B13 L i) 3 (by omega) ⟨⟨0, rfl, by simp [upd_at]⟩, by simp [upd_at, e8], by simp [upd_at, e7], rfl⟩ ?_
    refine stepB13 hfu hL hm hc hs fun s g8 gJ => ?_
    obtain ⟨e2, h2, b2, rb2⟩ := s
    obtain ⟨g7, gb⟩ := gJ
    simp only at g8 g7 gb
    subst gb
    simp -implicitDefEqProofs [x13r18_w, g8]
    refine ⟨m - 1, by omega, ⟨i + 1, by omega, ?_⟩, ?_, rfl⟩
    · simp only [upd_at]
      simp
      rw [wrap_in (by omega)]
    · simp [upd_at, g7]
  · have hi3 : ¬ (i : Int) < 3 := by omega
    simp -implicitDefEqProofs [x13l19_w, x13r4_w, e8, hi3]
    exact hQ _ ⟨by simp [upd_at, e7], rfl⟩

theorem law13 (d1 d2 d3 : D) : call X E 20000 13 [d1.v, d2.v, d3.v] [] = some (.c (.bool true), []) := by
  have hs1 := D.cut_small d1 1000 1020 (by omega)
  have hs2 := D.cut_small d2 1000 1020 (by omega)
  have hs3 := D.cut_small d3 1000 1020 (by omega)
  have c1 : ∀ (d : D) h, call X E 19999 38 [d.v, .c (.int .i64 1000), .c (.int .i64 1020)] h = some ((d.cut 1000 1020).1.v, h) := fun d => run38 d 1000 1020 19998 (by omega) (by omega) (by omega) (by omega) (by omega)
  have k1 := c1 d1
  have k2 := c1 d2
  have k3 := c1 d3
  generalize (d1.cut 1000 1020).1 = a at *
  generalize (d2.cut 1000 1020).1 = b at *
  generalize (d3.cut 1000 1020).1 = c at *
  have hsz : ∀ x ∈ [a, b, c], x.sz ≤ 1000 := by
    intro x hx
    simp only [List.mem_cons, List.not_mem_nil, or_false] at hx
    rcases hx with rfl | rfl | rfl <;> assumption
  have e1 : ∀ x ∈ [a, b, c], ∀ y ∈ [a, b, c], ∀ h, call X E 19999 41 [x.v, y.v] h = some (.c (.int .i64 (x.cmp y)), h) := fun x hx y _ => run41 x y (by have := hsz x hx; omega) 19999 (by have := hsz x hx; omega)
  have e2 : ∀ x ∈ [a, b, c], ∀ y ∈ [a, b, c], ∀ h, call X E 19999 39 [x.v, y.v] h = some (.c (.bool (x.same y)), h) := fun x hx y _ => run39 x y (by have := hsz x hx; omega) 19999 (by have := hsz x hx; omega)
  have e8 : ∀ h, call X E 19999 22 [] h = some (.c (.bool true), h) := gives_nil (n := 19999) rfl (alive_up (by omega))
  refine gives_of (n := 19999) rfl rfl rfl (by kernel_rfl) ⟨rfl, rfl⟩ (by simp [D.vw2, V.lows, D.low]) ?_ []
  simp -implicitDefEqProofs [x13_w, x13_r, x13r1_w, x13r2_w, x13r3_w, D.vw2, D.okc, D.rd, D.cells_len, k1, k2, k3]
  clear c1
  generalize call X E 19999 = cf at *
  refine lpk_of (A13 [a, b, c]) 3 (by omega) ⟨⟨0, rfl, by simp [upd_at]⟩, by simp [upd_at, D.vs], rfl⟩ ?_
  refine stepA13 (by omega) rfl e1 e2 fun s gJ => ?_
  obtain ⟨e3, h2, b2, rb2⟩ := s
  obtain ⟨g7, gb⟩ := gJ
  simp only at g7 gb
  subst gb
  simp -implicitDefEqProofs [x13_r, x13r20_w, e8]
end Go.Proofs.Ytbkgpdkimcnpgaa.Ab
