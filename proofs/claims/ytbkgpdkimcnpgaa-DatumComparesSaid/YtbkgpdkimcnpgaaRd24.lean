/- The reference's Compare; the law of DatumCompares. -/
import Derived.Test.YtbkgpdkimcnpgaaRd18
import Derived.Test.YtbkgpdkimcnpgaaRd23
namespace Go.Proofs.Ytbkgpdkimcnpgaa.Ab
open Go
set_option linter.unusedVariables false
set_option linter.unusedSimpArgs false
set_option maxRecDepth 4000
set_option maxHeartbeats 1000000

def sgn (a b : Bool) : Int := if a then -1 else if b then 1 else 0
theorem sgn_int (a b : Int) : sgn (decide (a < b)) (decide (b < a)) = cmpI a b := by simp [sgn, cmpI]
theorem sgn_str (a b : ByteArray) : sgn (ltS a b) (gtS a b) = cmpS a b := by simp [sgn, cmpS]
theorem sgn_len (a b : Nat) : sgn (decide (a < b)) (decide (b < a)) = cmpI a b := by simp [sgn, cmpI]

structure I42 (l l' : List D) (k n k' n' : Int) (t t' : ByteArray) (m : Nat) (s : SF) : Prop where
  j : ∃ j : Nat, j ≤ l'.length ∧ j + m = l.length ∧ s.e 8 = .c (.int .i64 j) ∧ D.cmps l l' = D.cmps (l.drop j) (l'.drop j)
  e2 : s.e 2 = .ref 0 0
  e3 : s.e 3 = .ref 1 0
  h : s.h = [.cells [.c (.int .i64 k), .c (.int .i64 n), .c (.string t), .sl (D.vs l) .any], .cells [.c (.int .i64 k'), .c (.int .i64 n'), .c (.string t'), .sl (D.vs l') .any]]
  b : s.base = 0

theorem step42 {cf : CallF} {fu : Nat} {l l' : List D} {k n k' n' : Int} {t t' : ByteArray} (hl : D.szs l < 4611686018427387904) (hc : ∀ x ∈ l, ∀ y ∈ l', ∀ h, cf 42 [x.v, y.v] h = some (.c (.int .i64 (x.cmp y)), h)) {Q : Ex → SF → Prop}
    (hQ : ∀ s, D.cmps l l' = cmpI l.length l'.length → s.e 2 = .ref 0 0 → s.e 3 = .ref 1 0 → s.h = [.cells [.c (.int .i64 k), .c (.int .i64 n), .c (.string t), .sl (D.vs l) .any], .cells [.c (.int .i64 k'), .c (.int .i64 n'), .c (.string t'), .sl (D.vs l') .any]] → s.base = 0 → Q (.exit 0) s)
    (hR : ∀ s, s.e 4 = .c (.int .i64 (D.cmps l l')) → s.base = 0 → Q .ret s) (m : Nat) (s : SF) (I : I42 l l' k n k' n' t t' m s) :
    wpk cf fu x42l17 [] (fun e s' => match e with | .normal => ∃ k1, k1 < m ∧ I42 l l' k n k' n' t t' k1 s' | e => Q e s') s := by
  obtain ⟨⟨j, hj', hj, e8, hf⟩, e2, e3, hh, hb⟩ := I
  obtain ⟨e, h, base, rb⟩ := s
  simp only at e8 e2 e3 hh hb
  subst hh hb
  have hlen := D.len_szs l
  by_cases hm : j < l.length
  · have hlt : (j : Int) < l.length := by omega
    have hd : l.drop j = l[j] :: l.drop (j + 1) := List.drop_eq_getElem_cons hm
    by_cases hm' : j < l'.length
    · have hlt' : (j : Int) < l'.length := by omega
      have hd' : l'.drop j = l'[j] :: l'.drop (j + 1) := List.drop_eq_getElem_cons hm'
      have hx := hc _ (List.getElem_mem hm) _ (List.getElem_mem hm')
      rw [hd, hd', D.cmps, fst0] at hf
      cases hz : ((l[j]).cmp l'[j] != 0) with
      | false =>
        have hz' : (l[j]).cmp l'[j] = 0 := by simpa using hz
        simp -implicitDefEqProofs [x42l17_w, x42r12_w, x42r13_w, x42r14_w, x42r15_w, x42r16_w, e2, e3, e8, D.vs_len, hlt, hlt', hm, hm', D.vs_getE, D.cells_len, D.rd, D.okc, hx, hz]
        refine ⟨m - 1, by omega, ⟨⟨j + 1, by omega, by omega, ?_, ?_⟩, ?_, ?_, rfl, rfl⟩⟩
        · simp only [upd_at, e8]
          simp
          rw [wrap_in (by omega)]
        · rw [hf, if_pos hz']
        · simp [upd_at, e2]
        · simp [upd_at, e3]
      | true =>
        have hz' : ¬ (l[j]).cmp l'[j] = 0 := by simpa using hz
        simp -implicitDefEqProofs [x42l17_w, x42r12_w, x42r13_w, x42r14_w, x42r15_w, x42r16_w, e2, e3, e8, D.vs_len, hlt, hlt', hm, hm', D.vs_getE, D.cells_len, D.rd, D.okc, hx, hz]
        refine hR _ ?_ rfl
        rw [hf, if_neg hz']
        simp [upd_at]
    · have hlt' : ¬ (j : Int) < l'.length := by omega
      simp -implicitDefEqProofs [x42l17_w, x42r12_w, e2, e3, e8, D.vs_len, hlt, hlt', hm, hm']
      refine hQ _ ?_ (by simp [upd_at, e2]) (by simp [upd_at, e3]) rfl rfl
      have hz : l'.drop j = [] := List.drop_of_length_le (by omega)
      rw [hf, hd, hz, D.cmps, cmpI, if_neg (by omega), if_pos (by omega)]
  · have hlt : ¬ (j : Int) < l.length := by omega
    simp -implicitDefEqProofs [x42l17_w, x42r12_w, e2, e3, e8, D.vs_len, hlt, hm]
    refine hQ _ ?_ (by simp [upd_at, e2]) (by simp [upd_at, e3]) rfl rfl
    rw [hf, List.drop_of_length_le (by omega)]
    by_cases h : j < l'.length
    · rw [List.drop_eq_getElem_cons h, D.cmps, cmpI, if_pos (by omega)]
    · rw [List.drop_of_length_le (by omega), D.cmps, cmpI, if_neg (by omega), if_neg (by omega)]

theorem run42 : ∀ d d' : D, d.sz < 4611686018427387904 → ∀ n, 2 * d.sz + 2 ≤ n → Gives n 42 [d.v, d'.v] (.c (.int .i64 (d.cmp d'))) := by
  refine D.ind fun k n t l ih d' hs m hm => ?_
  obtain ⟨k', n', t', l'⟩ := d'
  simp only [D.sz] at hs hm
  obtain ⟨m, rfl⟩ : ∃ m', m = m' + 1 := ⟨m - 1, by omega⟩
  have hlen := D.len_szs l
  have h69 : ∀ (a b : Bool) h, call X E m 69 [.c (.bool a), .c (.bool b)] h = some (.c (.int .i64 (sgn a b)), h) := fun a b => gives_up (by omega) (run69 (n := 0) a b)
  refine gives_of rfl rfl rfl (by kernel_rfl) ⟨rfl, rfl⟩ (by simp [D.vw2, V.lows, D.low]) ?_
  have hd : D.cmp (.mk k n t l) (.mk k' n' t' l') = fst0 (cmpI k k') (fst0 (cmpI n n') (fst0 (cmpS t t') (D.cmps l l'))) := by simp [D.cmp]
  cases z1 : (cmpI k k' != 0) with
  | true =>
    have z1' : ¬ cmpI k k' = 0 := by simpa using z1
    rw [fst0, if_neg z1'] at hd
    simp -implicitDefEqProofs [x42_w, x42_r, x42r1_w, x42r2_w, x42r3_w, x42r4_w, D.vw2, D.v, h69, sgn_int, z1, hd]
  | false =>
    have z1' : cmpI k k' = 0 := by simpa using z1
    rw [fst0, if_pos z1'] at hd
    cases z2 : (cmpI n n' != 0) with
    | true =>
      have z2' : ¬ cmpI n n' = 0 := by simpa using z2
      rw [fst0, if_neg z2'] at hd
      simp -implicitDefEqProofs [x42_w, x42_r, x42r1_w, x42r2_w, x42r3_w, x42r5_w, x42r6_w, x42r7_w, D.vw2, D.v, h69, sgn_int, z1, z2, hd]
    | false =>
      have z2' : cmpI n n' = 0 := by simpa using z2
      rw [fst0, if_pos z2'] at hd
      cases z3 : (cmpS t t' != 0) with
      | true =>
        have z3' : ¬ cmpS t t' = 0 := by simpa using z3
        rw [fst0, if_neg z3'] at hd
        simp -implicitDefEqProofs [x42_w, x42_r, x42r1_w, x42r2_w, x42r3_w, x42r5_w, x42r6_w, x42r8_w, x42r9_w, x42r10_w, D.vw2, D.v, h69, sgn_int, sgn_str, binS_lt, binS_gt, z1, z2, z3, hd]
      | false =>
        have z3' : cmpS t t' = 0 := by simpa using z3
        rw [fst0, if_pos z3'] at hd
        simp -implicitDefEqProofs [x42_w, x42_r, x42r1_w, x42r2_w, x42r3_w, x42r5_w, x42r6_w, x42r8_w, x42r9_w, x42r11_w, D.vw2, D.v, h69, sgn_int, sgn_str, binS_lt, binS_gt, z1, z2, z3]
        refine lpk_of (I42 l l' k n k' n' t t') l.length (by omega) ⟨⟨0, by omega, by omega, ?_, by simp⟩, ?_, ?_, rfl, rfl⟩ ?_
        · simp [upd_at]
        · simp [upd_at]
        · simp [upd_at]
        · refine step42 (by omega) (fun x hx y hy h => ih x hx y (by have := D.mem_sz hx; omega) m (by have := D.mem_sz hx; omega) h) (fun s h1 h2 h3 hh hb => ?_) fun s h4 hb => ?_
          · obtain ⟨e, h, base, rb⟩ := s
            simp only at h2 h3 hh hb
            subst hb hh
            simp -implicitDefEqProofs [x42_r, x42r18_w, h2, h3, D.vs_len, h69, sgn_len, hd, h1]
          · obtain ⟨e, h, base, rb⟩ := s
            simp only at h4 hb
            subst hb
            simp -implicitDefEqProofs [x42_r, h4, hd]

theorem law12 (d1 d2 : D) : call X E 20000 12 [d1.v, d2.v] [] = some (.c (.bool true), []) := by
  have hs1 := D.cut_small d1 3000 1020 (by omega)
  have hs2 := D.cut_small d2 3000 1020 (by omega)
  have c1 : ∀ h, call X E 19999 14 [d1.v] h = some ((d1.cut 3000 1020).1.v, h) := run14 d1 19998 (by omega)
  have c2 : ∀ h, call X E 19999 14 [d2.v] h = some ((d2.cut 3000 1020).1.v, h) := run14 d2 19998 (by omega)
  have c3 : ∀ h, call X E 19999 14 [(d1.cut 3000 1020).1.v] h = some ((d1.cut 3000 1020).1.v, h) := fun h => by
    have := run14 (d1.cut 3000 1020).1 19998 (by omega) h
    rwa [D.cut_idem] at this
  generalize (d1.cut 3000 1020).1 = a at *
  generalize (d2.cut 3000 1020).1 = b at *
  have e1 : ∀ h, call X E 19999 39 [a.v, b.v] h = some (.c (.bool (a.same b)), h) := run39 a b (by omega) 19999 (by omega)
  have e2 : ∀ h, call X E 19999 21 [a.v, b.v] h = some (.c (.bool (a.same b)), h) := run21 a b (by omega) 19999 (by omega)
  have e3 : ∀ h, call X E 19999 41 [a.v, b.v] h = some (.c (.int .i64 (a.cmp b)), h) := run41 a b (by omega) 19999 (by omega)
  have e4 : ∀ h, call X E 19999 42 [a.v, b.v] h = some (.c (.int .i64 (a.cmp b)), h) := run42 a b (by omega) 19999 (by omega)
  have e5 : ∀ h, call X E 19999 41 [b.v, a.v] h = some (.c (.int .i64 (b.cmp a)), h) := run41 b a (by omega) 19999 (by omega)
  have e6 : ∀ h, call X E 19999 42 [b.v, a.v] h = some (.c (.int .i64 (b.cmp a)), h) := run42 b a (by omega) 19999 (by omega)
  have e7 : ∀ h, call X E 19999 39 [a.v, a.v] h = some (.c (.bool true), h) := fun h => by
    have := run39 a a (by omega) 19999 (by omega) h
    rwa [D.same_refl] at this
  have e8 : ∀ h, call X E 19999 22 [] h = some (.c (.bool true), h) := gives_nil (n := 19999) rfl (alive_up (by omega))
  refine gives_of (n := 19999) rfl rfl rfl (by kernel_rfl) ⟨rfl, rfl⟩ (by simp [D.vw2, V.lows, D.low]) ?_ []
  simp -implicitDefEqProofs [x12_w, x12_r, x12r1_w, x12r2_w, x12r3_w, D.vw2, D.okc, D.rd, D.cells_len, D.spl, c1, c2, c3, e1, e2, e3, e4, e5, e6, e7, e8]
end Go.Proofs.Ytbkgpdkimcnpgaa.Ab
