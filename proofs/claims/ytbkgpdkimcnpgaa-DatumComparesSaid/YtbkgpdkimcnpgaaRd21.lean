/- datum.Equal. -/
import Derived.Test.YtbkgpdkimcnpgaaRd16
namespace Go.Proofs.Ytbkgpdkimcnpgaa.Ab
open Go
set_option linter.unusedVariables false
set_option linter.unusedSimpArgs false
set_option maxRecDepth 4000
set_option maxHeartbeats 1000000

theorem get_at0 (h r : List O) (x : O) : (h ++ x :: r)[h.length]? = some x := by simp
theorem get_at1 (h r : List O) (x y : O) : (h ++ x :: y :: r)[h.length + 1]? = some y := by
  rw [List.getElem?_append_right (by omega)]
  simp
theorem set_at0 (h r : List O) (x z : O) : (h ++ x :: r).set h.length z = h ++ z :: r := by
  rw [List.set_append_right _ _ (Nat.le_refl _)]
  simp
theorem set_at1 (h r : List O) (x y z : O) : (h ++ x :: y :: r).set (h.length + 1) z = h ++ x :: z :: r := by
  rw [List.set_append_right _ _ (by omega)]
  simp
attribute [simp] get_at0 get_at1 set_at0 set_at1

structure I63 (l l' : List D) (q : Nat) (m : Nat) (s : SF) : Prop where
  j : ∃ j : Nat, j + m = l.length ∧ s.e 17 = .c (.int .i64 j) ∧ D.sames l l' = D.sames (l.drop j) (l'.drop j)
  e1 : s.e 1 = .sl (D.vs l') .any
  e2 : s.e 2 = .c (.func (.func q) #[] #[])
  e15 : s.e 15 = .sl (D.vs l) .any
  e16 : s.e 16 = .c (.int .i64 l.length)
  b : s.base = 0

theorem step63 {cf : CallF} {fu q : Nat} {l l' : List D} (hll : l.length = l'.length) (hl : D.szs l < 4611686018427387904) (hc : ∀ x ∈ l, ∀ y ∈ l', ∀ h, cf q [x.v, y.v] h = some (.c (.bool (x.same y)), h)) {Q : Ex → SF → Prop}
    (hQ : ∀ s, D.sames l l' = true → s.base = 0 → Q (.exit 0) s)
    (hR : ∀ s, D.sames l l' = false → s.e 6 = .c (.bool false) → s.base = 0 → Q .ret s) (m : Nat) (s : SF) (I : I63 l l' q m s) :
    wpk cf fu x63l11 [] (fun e s' => match e with | .normal => ∃ k1, k1 < m ∧ I63 l l' q k1 s' | e => Q e s') s := by
  obtain ⟨⟨j, hj, e17, hf⟩, e1, e2, e15, e16, hb⟩ := I
  obtain ⟨e, h, base, rb⟩ := s
  simp only at e17 e1 e2 e15 e16 hb
  subst hb
  have hlen := D.len_szs l
  by_cases hm : j < l.length
  · have hm' : j < l'.length := by omega
    have hlt : (j : Int) < l.length := by omega
    have hx := hc _ (List.getElem_mem hm) _ (List.getElem_mem hm')
    have hd : l.drop j = l[j] :: l.drop (j + 1) := List.drop_eq_getElem_cons hm
    have hd' : l'.drop j = l'[j] :: l'.drop (j + 1) := List.drop_eq_getElem_cons hm'
    rw [hd, hd', D.sames] at hf
    cases hs : (l[j]).same l'[j] with
    | true =>
      rw [hs] at hx
      simp -implicitDefEqProofs [x63l11_w, x63r5_w, x63r6_w, x63r7_w, x63r8_w, x63r9_w, x63r10_w, e1, e2, e15, e16, e17, D.vs_len, hlt, hm, hm', D.vs_getE, D.cells_len, D.rd, D.okc, D.spl, hx]
      refine ⟨m - 1, by omega, ⟨⟨j + 1, by omega, ?_, ?_⟩, ?_, ?_, ?_, ?_, rfl⟩⟩
      · simp only [upd_at, e17]
        simp
        rw [wrap_in (by omega)]
      · rw [hf, hs]; rfl
      · simp [upd_at, e1]
      · simp [upd_at, e2]
      · simp [upd_at, e15]
      · simp [upd_at, e16]
    | false =>
      rw [hs] at hx
      simp -implicitDefEqProofs [x63l11_w, x63r5_w, x63r6_w, x63r7_w, x63r8_w, x63r9_w, x63r10_w, e1, e2, e15, e16, e17, D.vs_len, hlt, hm, hm', D.vs_getE, D.cells_len, D.rd, D.okc, D.spl, hx]
      refine hR _ (by rw [hf, hs]; rfl) ?_ rfl
      simp [upd_at]
  · have hlt : ¬ (j : Int) < l.length := by omega
    simp -implicitDefEqProofs [x63l11_w, x63r5_w, x63r6_w, e1, e2, e15, e16, e17, D.vs_len, hlt]
    refine hQ _ ?_ rfl
    rw [hf, List.drop_of_length_le (by omega), List.drop_of_length_le (by omega)]
    rfl

theorem run63 {n q : Nat} {l l' : List D} (hl : D.szs l < 4611686018427387904) (hn : l.length < n) (hc : ∀ x ∈ l, ∀ y ∈ l', Gives n q [x.v, y.v] (.c (.bool (x.same y)))) :
    Gives (n + 1) 63 [.sl (D.vs l) .any, .sl (D.vs l') .any, .c (.func (.func q) #[] #[])] (.c (.bool (D.sames l l'))) := by
  refine gives_of rfl rfl rfl (by kernel_rfl) ⟨rfl, rfl⟩ (by simp [V.lows, V.low, D.lows, SI.low]) ?_
  have hlen := D.len_szs l
  by_cases hll : l.length = l'.length
  · have hle : ((l.length : Int) != l'.length) = false := by simp [hll]
    simp -implicitDefEqProofs [x63_w, x63_r, x63r1_w, x63r2_w, x63r3_w, x63r4_w, D.vs_len, hle]
    refine lpk_of (I63 l l' q) l.length (by omega) ⟨⟨0, by simp, ?_, by simp⟩, ?_, ?_, ?_, ?_, rfl⟩ ?_
    · simp [upd_at]
    · simp [upd_at, arg0]
    · simp [upd_at, arg0]
    · simp [upd_at]
    · simp [upd_at]
    · refine step63 hll (by omega) (fun x hx y hy h => hc x hx y hy h) (fun s h1 hb => ?_) fun s h1 h4 hb => ?_
      · obtain ⟨e, h, base, rb⟩ := s
        simp only at hb
        subst hb
        simp -implicitDefEqProofs [x63_r, x63r12_w, h1]
      · obtain ⟨e, h, base, rb⟩ := s
        simp only at h4 hb
        subst hb
        simp -implicitDefEqProofs [x63_r, h4, h1]
  · have hle : ((l.length : Int) != l'.length) = true := by simp; omega
    have hsm : D.sames l l' = false := by
      cases h : D.sames l l' with
      | false => rfl
      | true => exact absurd (D.sames_len h) hll
    simp -implicitDefEqProofs [x63_w, x63_r, x63r1_w, x63r2_w, x63r3_w, x63r4_w, D.vs_len, hle, hsm]

theorem run39 : ∀ d d' : D, d.sz < 4611686018427387904 → ∀ n, 2 * d.sz + 2 ≤ n → Gives n 39 [d.v, d'.v] (.c (.bool (d.same d'))) := by
  refine D.ind fun k n t l ih d' hs m hm => ?_
  obtain ⟨k', n', t', l'⟩ := d'
  simp only [D.sz] at hs hm
  obtain ⟨m, rfl⟩ : ∃ m', m = m' + 2 := ⟨m - 2, by omega⟩
  have hlen := D.len_szs l
  have h63 : ∀ h, call X E (m + 1) 63 [.sl (D.vs l) .any, .sl (D.vs l') .any, .c (.func (.func 39) #[] #[])] h = some (.c (.bool (D.sames l l')), h) :=
    run63 (n := m) (by omega) (by omega) fun x hx y hy => ih x hx y (by have := D.mem_sz hx; omega) m (by have := D.mem_sz hx; omega)
  refine gives_of rfl rfl rfl (by kernel_rfl) ⟨rfl, rfl⟩ (by simp [D.vw2, V.lows, D.low]) ?_
  have hdiff : D.same (.mk k n t l) (.mk k' n' t' l') = (k == k' && n == n' && eqS t t' && D.sames l l') := by simp [D.same]
  cases hk : (k == k') with
  | false => simp -implicitDefEqProofs [x39_w, x39_r, x39r1_w, x39r2_w, D.vw2, D.v, hk, hdiff]
  | true =>
    cases hn : (n == n') with
    | false => simp -implicitDefEqProofs [x39_w, x39_r, x39r1_w, x39r2_w, D.vw2, D.v, hk, hn, hdiff]
    | true =>
      cases ht : eqS t t' with
      | false => simp -implicitDefEqProofs [x39_w, x39_r, x39r1_w, x39r2_w, binS_eq, D.vw2, D.v, hk, hn, ht, hdiff]
      | true => simp -implicitDefEqProofs [x39_w, x39_r, x39r1_w, x39r2_w, binS_eq, D.vw2, D.v, hk, hn, ht, h63, hdiff]
end Go.Proofs.Ytbkgpdkimcnpgaa.Ab
