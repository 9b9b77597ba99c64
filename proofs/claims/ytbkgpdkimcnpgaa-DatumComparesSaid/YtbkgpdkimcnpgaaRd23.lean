/- slices.CompareFunc, datum.Compare and the reference's Compare. -/
import Derived.Test.YtbkgpdkimcnpgaaRd22
namespace Go.Proofs.Ytbkgpdkimcnpgaa.Ab
open Go
set_option linter.unusedVariables false
set_option linter.unusedSimpArgs false
set_option maxRecDepth 4000
set_option maxHeartbeats 1000000

structure I68 (l l' : List D) (q : Nat) (m : Nat) (s : SF) : Prop where
  j : ∃ j : Nat, j + m = l.length ∧ s.e 13 = .c (.int .i64 j) ∧ D.cmps l l' = D.cmps (l.drop j) (l'.drop j)
  e0 : s.e 0 = .sl (D.vs l) .any
  e1 : s.e 1 = .sl (D.vs l') .any
  e2 : s.e 2 = .c (.func (.func q) #[] #[])
  e11 : s.e 11 = .sl (D.vs l) .any
  e12 : s.e 12 = .c (.int .i64 l.length)
  b : s.base = 0

theorem step68 {cf : CallF} {fu q : Nat} {l l' : List D} (hl : D.szs l < 4611686018427387904) (hc : ∀ x ∈ l, ∀ y ∈ l', ∀ h, cf q [x.v, y.v] h = some (.c (.int .i64 (x.cmp y)), h)) {Q : Ex → SF → Prop}
    (hQ : ∀ s, D.cmps l l' = (if l.length < l'.length then -1 else 0) → s.e 0 = .sl (D.vs l) .any → s.e 1 = .sl (D.vs l') .any → s.base = 0 → Q (.exit 0) s)
    (hR : ∀ s, s.e 6 = .c (.int .i64 (D.cmps l l')) → s.base = 0 → Q .ret s) (m : Nat) (s : SF) (I : I68 l l' q m s) :
    wpk cf fu x68l12 [] (fun e s' => match e with | .normal => ∃ k1, k1 < m ∧ I68 l l' q k1 s' | e => Q e s') s := by
  obtain ⟨⟨j, hj, e13, hf⟩, e0, e1, e2, e11, e12, hb⟩ := I
  obtain ⟨e, h, base, rb⟩ := s
  simp only at e13 e0 e1 e2 e11 e12 hb
  subst hb
  have hlen := D.len_szs l
  by_cases hm : j < l.length
  · have hlt : (j : Int) < l.length := by omega
    have hd : l.drop j = l[j] :: l.drop (j + 1) := List.drop_eq_getElem_cons hm
    by_cases hm' : j < l'.length
    · have hlt' : ¬ (l'.length : Int) ≤ j := by omega
      have hlt2 : ¬ l'.length ≤ j := by omega
      have hd' : l'.drop j = l'[j] :: l'.drop (j + 1) := List.drop_eq_getElem_cons hm'
      have hx := hc _ (List.getElem_mem hm) _ (List.getElem_mem hm')
      rw [hd, hd', D.cmps, fst0] at hf
      cases hz : ((l[j]).cmp l'[j] != 0) with
      | false =>
        have hz' : (l[j]).cmp l'[j] = 0 := by simpa using hz
        simp -implicitDefEqProofs [x68l12_w, x68r3_w, x68r4_w, x68r5_w, x68r6_w, x68r7_w, x68r8_w, x68r9_w, x68r10_w, x68r11_w, e0, e1, e2, e11, e12, e13, D.vs_len, hlt, hlt', hlt2, hm, hm', D.vs_getE, D.cells_len, D.rd, D.okc, D.spl, hx, hz]
        refine ⟨m - 1, by omega, ⟨⟨j + 1, by omega, ?_, ?_⟩, ?_, ?_, ?_, ?_, ?_, rfl⟩⟩
        · simp only [upd_at, e13]
          simp
          rw [wrap_in (by omega)]
        · rw [hf, if_pos hz']
        · simp [upd_at, e0]
        · simp [upd_at, e1]
        · simp [upd_at, e2]
        · simp [upd_at, e11]
        · simp [upd_at, e12]
      | true =>
        have hz' : ¬ (l[j]).cmp l'[j] = 0 := by simpa using hz
        simp -implicitDefEqProofs [x68l12_w, x68r3_w, x68r4_w, x68r5_w, x68r6_w, x68r7_w, x68r8_w, x68r9_w, x68r10_w, x68r11_w, e0, e1, e2, e11, e12, e13, D.vs_len, hlt, hlt', hlt2, hm, hm', D.vs_getE, D.cells_len, D.rd, D.okc, D.spl, hx, hz]
        refine hR _ ?_ rfl
        rw [hf, if_neg hz']
        simp [upd_at]
    · have hlt' : (l'.length : Int) ≤ j := by omega
      have hlt2 : l'.length ≤ j := by omega
      simp -implicitDefEqProofs [x68l12_w, x68r3_w, x68r4_w, x68r5_w, x68r6_w, e0, e1, e2, e11, e12, e13, D.vs_len, hlt, hlt', hlt2, hm, D.vs_getE, D.cells_len, D.rd, D.okc, D.spl]
      refine hR _ ?_ rfl
      rw [hf, hd, List.drop_of_length_le hlt2, D.cmps]
      simp [upd_at]
  · have hlt : ¬ (j : Int) < l.length := by omega
    simp -implicitDefEqProofs [x68l12_w, x68r3_w, e0, e1, e2, e11, e12, e13, D.vs_len, hlt]
    refine hQ _ ?_ (by simp [upd_at, e0]) (by simp [upd_at, e1]) rfl
    rw [hf, List.drop_of_length_le (by omega)]
    have hjl : j = l.length := by omega
    subst hjl
    split
    · rename_i h
      rw [List.drop_eq_getElem_cons h, D.cmps]
    · rename_i h
      rw [List.drop_of_length_le (by omega), D.cmps]

theorem run68 {n q : Nat} {l l' : List D} (hl : D.szs l < 4611686018427387904) (hn : l.length < n) (hc : ∀ x ∈ l, ∀ y ∈ l', Gives n q [x.v, y.v] (.c (.int .i64 (x.cmp y)))) :
    Gives (n + 1) 68 [.sl (D.vs l) .any, .sl (D.vs l') .any, .c (.func (.func q) #[] #[])] (.c (.int .i64 (D.cmps l l'))) := by
  refine gives_of rfl rfl rfl (by kernel_rfl) ⟨rfl, rfl⟩ (by simp [V.lows, V.low, D.lows, SI.low]) ?_
  have hlen := D.len_szs l
  simp -implicitDefEqProofs [x68_w, x68_r, x68r1_w, x68r2_w, D.vs_len]
  refine lpk_of (I68 l l' q) l.length (by omega) ⟨⟨0, by simp, ?_, by simp⟩, ?_, ?_, ?_, ?_, ?_, rfl⟩ ?_
  · simp [upd_at]
  · simp [upd_at, arg0]
  · simp [upd_at, arg0]
  · simp [upd_at, arg0]
  · simp [upd_at]
  · simp [upd_at]
  · refine step68 (by omega) (fun x hx y hy h => hc x hx y hy h) (fun s h1 h2 h3 hb => ?_) fun s h4 hb => ?_
    · obtain ⟨e, h, base, rb⟩ := s
      simp only at h2 h3 hb
      subst hb
      by_cases hll : l.length < l'.length
      · have hi : (l.length : Int) < l'.length := by omega
        simp -implicitDefEqProofs [x68_r, x68r13_w, x68r14_w, x68r15_w, h2, h3, D.vs_len, hi, hll, h1]
      · have hi : ¬ (l.length : Int) < l'.length := by omega
        simp -implicitDefEqProofs [x68_r, x68r13_w, x68r14_w, x68r15_w, h2, h3, D.vs_len, hi, hll, h1]
    · obtain ⟨e, h, base, rb⟩ := s
      simp only at h4 hb
      subst hb
      simp -implicitDefEqProofs [x68_r, h4]

theorem run41 : ∀ d d' : D, d.sz < 4611686018427387904 → ∀ n, 2 * d.sz + 6 ≤ n → Gives n 41 [d.v, d'.v] (.c (.int .i64 (d.cmp d'))) := by
  refine D.ind fun k n t l ih d' hs m hm => ?_
  obtain ⟨k', n', t', l'⟩ := d'
  simp only [D.sz] at hs hm
  obtain ⟨m, rfl⟩ : ∃ m', m = m' + 2 := ⟨m - 2, by omega⟩
  have hlen := D.len_szs l
  have h68 : ∀ h, call X E (m + 1) 68 [.sl (D.vs l) .any, .sl (D.vs l') .any, .c (.func (.func 41) #[] #[])] h = some (.c (.int .i64 (D.cmps l l')), h) :=
    run68 (n := m) (by omega) (by omega) fun x hx y hy => ih x hx y (by have := D.mem_sz hx; omega) m (by have := D.mem_sz hx; omega)
  have h65 : ∀ h, call X E (m + 1) 65 [.c (.int .i64 k), .c (.int .i64 k')] h = some (.c (.int .i64 (cmpI k k')), h) := gives_up (by omega) (run65 (n := 0) k k')
  have h66 : ∀ h, call X E (m + 1) 66 [.c (.int .i64 n), .c (.int .i64 n')] h = some (.c (.int .i64 (cmpI n n')), h) := gives_up (by omega) (run66 (n := 0) n n')
  have h67 : ∀ h, call X E (m + 1) 67 [.c (.string t), .c (.string t')] h = some (.c (.int .i64 (cmpS t t')), h) := gives_up (by omega) (run67 (n := 0) t t')
  have h64 : ∀ h, call X E (m + 1) 64 [.sl [.c (.int .i64 (cmpI k k')), .c (.int .i64 (cmpI n n')), .c (.int .i64 (cmpS t t')), .c (.int .i64 (D.cmps l l'))] .full] h = some (.c (.int .i64 (orI [cmpI k k', cmpI n n', cmpS t t', D.cmps l l'])), h) :=
    run64 (n := m) (l := [cmpI k k', cmpI n n', cmpS t t', D.cmps l l']) (by simp; omega) (by simp) rfl
  have hor : orI [cmpI k k', cmpI n n', cmpS t t', D.cmps l l'] = D.cmp (.mk k n t l) (.mk k' n' t' l') := by
    simp only [orI, D.cmp, fst0]
    split <;> try rfl
    split <;> try rfl
    split <;> try rfl
    split <;> simp_all
  rw [hor] at h64
  refine gives_of rfl rfl rfl (by kernel_rfl) ⟨rfl, rfl⟩ (by simp [D.vw2, V.lows, D.low]) ?_
  simp -implicitDefEqProofs [x41_w, x41_r, x41r1_w, x41r2_w, D.vw2, D.v, h64, h65, h66, h67, h68]
end Go.Proofs.Ytbkgpdkimcnpgaa.Ab
