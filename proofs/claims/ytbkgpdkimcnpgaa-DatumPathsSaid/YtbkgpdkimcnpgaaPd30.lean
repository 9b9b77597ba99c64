/- Path and Begins (the first part of Rd30). -/
import Derived.Test.YtbkgpdkimcnpgaaPdB
namespace Go.Proofs.Ytbkgpdkimcnpgaa.Ab
open Go
set_option linter.unusedVariables false
set_option linter.unusedSimpArgs false
set_option maxRecDepth 4000
set_option maxHeartbeats 1000000

/-- Paths. -/
def pv (p : List Int) : V := .sl (p.map I64) .any
theorem pv_vw2 (p : List Int) : (pv p).vw2 = pv p := rfl
theorem lows_I64 (m : Nat) (p : List Int) : V.lows m (p.map I64) = true := lows_of fun v hv => by
  obtain ⟨x, _, rfl⟩ := List.mem_map.1 hv
  rfl
theorem pv_low (m : Nat) (p : List Int) : (pv p).low m = true := by simp [pv, V.low, lows_I64, SI.low]
theorem pv_len (p : List Int) (h : List O) : lenF (pv p) h = some (.c (.int .i64 p.length), h) := by simp [pv, lenF]
theorem hz_I64 (p : List Int) : hz 1 (p.map I64) = true := by
  cases p with
  | nil => rfl
  | cons a p => rfl

theorem eqS_comm (a b : ByteArray) : eqS a b = eqS b a := by
  unfold eqS
  exact BEq.comm
mutual
theorem D.same_comm : ∀ d d' : D, d.same d' = d'.same d
  | .mk k n t l, .mk k' n' t' l' => by
    simp only [D.same, D.sames_comm l l', eqS_comm t t', BEq.comm (a := k) (b := k'), BEq.comm (a := n) (b := n')]
theorem D.sames_comm : ∀ l l' : List D, D.sames l l' = D.sames l' l
  | [], [] => rfl
  | [], _ :: _ => by simp [D.sames]
  | _ :: _, [] => by simp [D.sames]
  | d :: l, d' :: l' => by simp only [D.sames, D.same_comm d d', D.sames_comm l l']
end

/-- Does a path begin with another one? -/
def begs : List Int → List Int → Bool
  | _, [] => true
  | [], _ :: _ => false
  | a :: p, b :: q => a == b && begs p q
theorem begs_len : ∀ p q : List Int, begs p q = true → q.length ≤ p.length
  | _, [], _ => Nat.zero_le _
  | [], _ :: _, h => by simp [begs] at h
  | a :: p, b :: q, h => by
    simp only [begs, Bool.and_eq_true] at h
    have := begs_len p q h.2
    simp only [List.length_cons]
    omega
theorem begs_refl : ∀ p : List Int, begs p p = true
  | [] => rfl
  | a :: p => by simp [begs, begs_refl p]

structure I40 (p q : List Int) (m : Nat) (s : SF) : Prop where
  j : ∃ j : Nat, j + m = q.length ∧ s.e 5 = .c (.int .i64 j) ∧ begs p q = begs (p.drop j) (q.drop j)
  e0 : s.e 0 = pv p
  e1 : s.e 1 = pv q
  b : s.base = 0
theorem step40 {cf : CallF} {fu : Nat} {p q : List Int} (hpq : q.length ≤ p.length) (hl : p.length < 4611686018427387904) {Q : Ex → SF → Prop}
    (hQ : ∀ s, begs p q = true → s.base = 0 → Q (.exit 0) s)
    (hR : ∀ s, begs p q = false → s.e 4 = .c (.bool false) → s.base = 0 → Q .ret s) (m : Nat) (s : SF) (I : I40 p q m s) :
    wpk cf fu x40l9 [] (fun e s' => match e with | .normal => ∃ k1, k1 < m ∧ I40 p q k1 s' | e => Q e s') s := by
  obtain ⟨⟨j, hj, e5, hf⟩, e0, e1, hb⟩ := I
  obtain ⟨e, h, base, rb⟩ := s
  simp only at e5 e0 e1 hb
  subst hb
  by_cases hm : j < q.length
  · have hm' : j < p.length := by omega
    have hlt : (j : Int) < q.length := by omega
    have hlt' : (j : Int) < p.length := by omega
    have hd : p.drop j = p[j] :: p.drop (j + 1) := List.drop_eq_getElem_cons hm'
    have hd' : q.drop j = q[j] :: q.drop (j + 1) := List.drop_eq_getElem_cons hm
    rw [hd, hd', begs] at hf
    cases hz : (p[j] != q[j]) with
    | false =>
      have hz' : (p[j] == q[j]) = true := by simpa using hz
      simp -implicitDefEqProofs [x40l9_w, x40r5_w, x40r6_w, x40r7_w, x40r8_w, e0, e1, e5, pv, hlt, hlt', hm, hm', hz, I64]
      refine ⟨m - 1, by omega, ⟨⟨j + 1, by omega, ?_, ?_⟩, ?_, ?_, rfl⟩⟩
      · simp only [upd_at, e5]
        simp
        rw [wrap_in (by omega)]
      · rw [hf, hz']; rfl
      · simp [upd_at, e0]
      · simp [upd_at, e1]
    | true =>
      have hz' : (p[j] == q[j]) = false := by simpa using hz
      simp -implicitDefEqProofs [x40l9_w, x40r5_w, x40r6_w, x40r7_w, x40r8_w, e0, e1, e5, pv, hlt, hlt', hm, hm', hz, I64]
      refine hR _ (by rw [hf, hz']; rfl) ?_ rfl
      simp [upd_at]
  · have hlt : ¬ (j : Int) < q.length := by omega
    simp -implicitDefEqProofs [x40l9_w, x40r5_w, e0, e1, e5, pv, hlt]
    refine hQ _ ?_ rfl
    rw [hf, List.drop_of_length_le (by omega : q.length ≤ j)]
    cases p.drop j <;> rfl
theorem run40 {n : Nat} {p q : List Int} (hn : q.length < n) (hl : p.length < 4611686018427387904) : Gives (n + 1) 40 [pv p, pv q] (.c (.bool (begs p q))) := by
  refine gives_of rfl rfl rfl (by kernel_rfl) ⟨rfl, rfl⟩ (by simp [pv_vw2, V.lows, pv_low]) ?_
  by_cases hpq : q.length ≤ p.length
  · have hlt : ¬ (p.length : Int) < q.length := by omega
    simp -implicitDefEqProofs [x40_w, x40_r, x40r1_w, x40r2_w, x40r3_w, x40r4_w, pv, hlt, V.vw2, V.vw1]
    refine lpk_of (I40 p q) q.length (by omega) ⟨⟨0, by simp, ?_, by simp⟩, ?_, ?_, rfl⟩ ?_
    · simp [upd_at]
    · simp [upd_at, arg0, pv]
    · simp [upd_at, arg0, pv]
    · refine step40 hpq hl (fun s h1 hb => ?_) fun s h1 h4 hb => ?_
      · obtain ⟨e, h, base, rb⟩ := s
        simp only at hb
        subst hb
        simp -implicitDefEqProofs [x40_r, x40r10_w, h1]
      · obtain ⟨e, h, base, rb⟩ := s
        simp only at hb h4
        subst hb
        simp -implicitDefEqProofs [x40_r, h1, h4]
  · have hlt : (p.length : Int) < q.length := by omega
    have hf : begs p q = false := by
      cases hh : begs p q with
      | false => rfl
      | true => exact absurd (begs_len p q hh) hpq
    simp -implicitDefEqProofs [x40_w, x40_r, x40r1_w, x40r2_w, x40r3_w, x40r4_w, pv, hlt, V.vw2, V.vw1, hf]

/-- Are two paths the same? -/
def samep (p q : List Int) : Bool := decide (p.length = q.length) && begs p q
theorem samep_refl (p : List Int) : samep p p = true := by simp [samep, begs_refl]
theorem run28 {n : Nat} {p q : List Int} (hn : q.length + 1 < n) (hl : p.length < 4611686018427387904) : Gives (n + 1) 28 [pv p, pv q] (.c (.bool (samep p q))) := by
  obtain ⟨n, rfl⟩ : ∃ n', n = n' + 1 := ⟨n - 1, by omega⟩
  have c1 : ∀ h, call X E (n + 1) 40 [pv p, pv q] h = some (.c (.bool (begs p q)), h) := run40 (by omega) hl
  generalize n + 1 = m at *
  refine gives_of rfl rfl rfl (by kernel_rfl) ⟨rfl, rfl⟩ (by simp [pv_vw2, V.lows, pv_low]) ?_
  by_cases hpq : p.length = q.length
  · have hlt : ((p.length : Int) == q.length) = true := by simp; omega
    simp -implicitDefEqProofs [x28_w, x28_r, x28r1_w, x28r2_w, pv_vw2, pv_len, hlt, c1, samep, hpq]
  · have hlt : ((p.length : Int) == q.length) = false := by simp; omega
    simp -implicitDefEqProofs [x28_w, x28_r, x28r1_w, x28r2_w, pv_vw2, pv_len, hlt, samep, hpq]

end Go.Proofs.Ytbkgpdkimcnpgaa.Ab
