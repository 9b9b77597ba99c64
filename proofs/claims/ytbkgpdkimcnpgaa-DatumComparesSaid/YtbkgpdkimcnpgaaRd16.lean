/- The reference's Same. -/
import Derived.Test.YtbkgpdkimcnpgaaRd15
namespace Go.Proofs.Ytbkgpdkimcnpgaa.Ab
open Go
set_option linter.unusedVariables false
set_option linter.unusedSimpArgs false
set_option maxRecDepth 4000
set_option maxHeartbeats 1000000

def eqS (a b : ByteArray) : Bool := a.toList == b.toList
theorem binS_eq (a b : ByteArray) : binS .eql a b = some (.c (.bool (eqS a b))) := rfl
theorem binS_ne (a b : ByteArray) : binS .neq a b = some (.c (.bool !(eqS a b))) := rfl
mutual
def D.same : D → D → Bool
  | .mk k n t l, .mk k' n' t' l' => k == k' && n == n' && eqS t t' && D.sames l l'
def D.sames : List D → List D → Bool
  | [], [] => true
  | a :: l, b :: l' => a.same b && D.sames l l'
  | [], _ :: _ => false
  | _ :: _, [] => false
end
theorem D.sames_len : ∀ {l l' : List D}, D.sames l l' = true → l.length = l'.length
  | [], [], _ => rfl
  | a :: l, b :: l', h => by
    simp only [D.sames, Bool.and_eq_true] at h
    simp [D.sames_len h.2]
  | [], _ :: _, h => by simp [D.sames] at h
  | _ :: _, [], h => by simp [D.sames] at h

structure I21 (l l' : List D) (k n k' n' : Int) (t t' : ByteArray) (m : Nat) (s : SF) : Prop where
  j : ∃ j : Nat, j + m = l.length ∧ s.e 5 = .c (.int .i64 j) ∧ D.sames l l' = D.sames (l.drop j) (l'.drop j)
  e2 : s.e 2 = .ref 0 0
  e3 : s.e 3 = .ref 1 0
  h : s.h = [.cells [.c (.int .i64 k), .c (.int .i64 n), .c (.string t), .sl (D.vs l) .any], .cells [.c (.int .i64 k'), .c (.int .i64 n'), .c (.string t'), .sl (D.vs l') .any]]
  b : s.base = 0

theorem step21 {cf : CallF} {fu : Nat} {l l' : List D} {k n k' n' : Int} {t t' : ByteArray} (hll : l.length = l'.length) (hl : D.szs l < 4611686018427387904) (hc : ∀ x ∈ l, ∀ y ∈ l', ∀ h, cf 21 [x.v, y.v] h = some (.c (.bool (x.same y)), h)) {Q : Ex → SF → Prop}
    (hQ : ∀ s, D.sames l l' = true → s.base = 0 → Q (.exit 0) s)
    (hR : ∀ s, D.sames l l' = false → s.e 4 = .c (.bool false) → s.base = 0 → Q .ret s) (m : Nat) (s : SF) (I : I21 l l' k n k' n' t t' m s) :
    wpk cf fu x21l9 [] (fun e s' => match e with | .normal => ∃ k1, k1 < m ∧ I21 l l' k n k' n' t t' k1 s' | e => Q e s') s := by
  obtain ⟨⟨j, hj, e5, hf⟩, e2, e3, hh, hb⟩ := I
  obtain ⟨e, h, base, rb⟩ := s
  simp only at e5 e2 e3 hh hb
  subst hh hb
  have hlen := D.len_szs l
  by_cases hm : j < l.length
  · have hm' : j < l'.length := by omega
    have hlt : (j : Int) < l.length := by omega
    have hx := hc _ (List.getElem_mem hm) _ (List.getElem_mem hm')
    have hd : l.drop j = l[j] :: l.drop (j + 1) := List.drop_eq_getElem_cons hm
    have hd' : l'.drop j = l'[j] :: l'.drop (j + 1) := List.drop_eq_getElem_cons hm'
    rw [hd, hd', D.sames] at hf
    cases hs : (l[j]).same l'[j] with
    | true =>
      rw [hs] at hx
      simp -implicitDefEqProofs [x21l9_w, x21r5_w, x21r6_w, x21r7_w, x21r8_w, e2, e3, e5, D.vs_len, hlt, hm, hm', D.vs_getE, D.cells_len, D.rd, hx]
      refine ⟨m - 1, by omega, ⟨⟨j + 1, by omega, ?_, ?_⟩, ?_, ?_, rfl, rfl⟩⟩
      · simp only [upd_at, e5]
        simp
        rw [wrap_in (by omega)]
      · rw [hf, hs]; rfl
      · simp [upd_at, e2]
      · simp [upd_at, e3]
    | false =>
      rw [hs] at hx
      simp -implicitDefEqProofs [x21l9_w, x21r5_w, x21r6_w, x21r7_w, x21r8_w, e2, e3, e5, D.vs_len, hlt, hm, hm', D.vs_getE, D.cells_len, D.rd, hx]
      refine hR _ (by rw [hf, hs]; rfl) ?_ rfl
      simp [upd_at]
  · have hlt : ¬ (j : Int) < l.length := by omega
    simp -implicitDefEqProofs [x21l9_w, x21r5_w, x21r6_w, x21r7_w, x21r8_w, e2, e3, e5, D.vs_len, hlt]
    refine hQ _ ?_ rfl
    rw [hf, List.drop_of_length_le (by omega), List.drop_of_length_le (by omega)]
    rfl

theorem run21 : ∀ d d' : D, d.sz < 4611686018427387904 → ∀ n, 2 * d.sz + 2 ≤ n → Gives n 21 [d.v, d'.v] (.c (.bool (d.same d'))) := by
  refine D.ind fun k n t l ih d' hs m hm => ?_
  obtain ⟨k', n', t', l'⟩ := d'
  simp only [D.sz] at hs hm
  obtain ⟨m, rfl⟩ : ∃ m', m = m' + 1 := ⟨m - 1, by omega⟩
  have hlen := D.len_szs l
  refine gives_of rfl rfl rfl (by kernel_rfl) ⟨rfl, rfl⟩ (by simp [D.vw2, V.lows, D.low]) ?_
  have hdiff : D.same (.mk k n t l) (.mk k' n' t' l') = (k == k' && n == n' && eqS t t' && D.sames l l') := by simp [D.same]
  cases hk : (k == k') with
  | false =>
    have hk1 : (k != k') = true := by simp only [bne, hk]; rfl
    simp -implicitDefEqProofs [hk1, x21_w, x21_r, x21r1_w, x21r2_w, x21r3_w, D.vw2, D.v, hk, hdiff]
  | true =>
    have hk1 : (k != k') = false := by simp only [bne, hk]; rfl
    cases hn : (n == n') with
    | false =>
      have hn1 : (n != n') = true := by simp only [bne, hn]; rfl
      simp -implicitDefEqProofs [hk1, hn1, x21_w, x21_r, x21r1_w, x21r2_w, x21r3_w, D.vw2, D.v, hk, hn, hdiff]
    | true =>
      have hn1 : (n != n') = false := by simp only [bne, hn]; rfl
      cases ht : eqS t t' with
      | false => simp -implicitDefEqProofs [hk1, hn1, x21_w, x21_r, x21r1_w, x21r2_w, x21r3_w, binS_ne, D.vw2, D.v, hk, hn, ht, hdiff]
      | true =>
        by_cases hll : l.length = l'.length
        · have hle : ((l.length : Int) != l'.length) = false := by simp [hll]
          simp -implicitDefEqProofs [hk1, hn1, x21_w, x21_r, x21r1_w, x21r2_w, x21r3_w, x21r4_w, binS_ne, D.vw2, D.v, hk, hn, ht, D.vs_len, hle]
          refine lpk_of (I21 l l' k n k' n' t t') l.length (by omega) ⟨⟨0, by simp, ?_, by simp⟩, ?_, ?_, rfl, rfl⟩ ?_
          · simp [upd_at]
          · simp [upd_at]
          · simp [upd_at]
          · refine step21 hll (by omega) (fun x hx y hy h => ih x hx y (by have := D.mem_sz hx; omega) m (by have := D.mem_sz hx; omega) h) (fun s h1 hb => ?_) fun s h1 h4 hb => ?_
            · obtain ⟨e, h, base, rb⟩ := s
              simp only at hb
              subst hb
              simp -implicitDefEqProofs [x21_r, x21r10_w, hdiff, hk, hn, ht, h1]
            · obtain ⟨e, h, base, rb⟩ := s
              simp only at h4 hb
              subst hb
              simp -implicitDefEqProofs [x21_r, h4, hdiff, hk, hn, ht, h1]
        · have hle : ((l.length : Int) != l'.length) = true := by simp; omega
          have hsm : D.sames l l' = false := by
            cases h : D.sames l l' with
            | false => rfl
            | true => exact absurd (D.sames_len h) hll
          simp -implicitDefEqProofs [hk1, hn1, x21_w, x21_r, x21r1_w, x21r2_w, x21r3_w, binS_ne, D.vw2, D.v, hk, hn, ht, D.vs_len, hle, hdiff, hsm]

mutual
theorem D.same_refl : ∀ d : D, d.same d = true
  | .mk k n t l => by simp [D.same, eqS, D.sames_refl l]
theorem D.sames_refl : ∀ l : List D, D.sames l l = true
  | [] => by simp [D.sames]
  | d :: l => by simp [D.sames, D.same_refl d, D.sames_refl l]
end
end Go.Proofs.Ytbkgpdkimcnpgaa.Ab
