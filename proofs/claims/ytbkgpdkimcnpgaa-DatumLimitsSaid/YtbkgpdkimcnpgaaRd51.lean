/- The law of DatumLimits. -/
import Derived.Test.YtbkgpdkimcnpgaaRd50
import Derived.Test.YtbkgpdkimcnpgaaRd35
namespace Go.Proofs.Ytbkgpdkimcnpgaa.Ab
open Go
set_option linter.unusedVariables false
set_option linter.unusedSimpArgs false
set_option maxRecDepth 4000
set_option maxHeartbeats 1000000

theorem nums_szs (n : Nat) : ∀ j, D.szs (nums n j) = j
  | 0 => rfl
  | j + 1 => by
    have h := nums_szs n j
    have ha : ∀ a b : List D, D.szs (a ++ b) = D.szs a + D.szs b := by
      intro a b
      induction a with
      | nil => simp [D.szs]
      | cons x a ih => simp only [List.cons_append, D.szs, ih]; omega
    rw [nums, ha, h]
    rfl
theorem dps_one {l : List D} (h : ∀ x ∈ l, x.dp = 1) : D.dps l ≤ 1 := by
  induction l with
  | nil => simp [D.dps]
  | cons x l ih =>
    have h1 := h x (by simp)
    have h2 := ih fun y hy => h y (by simp [hy])
    simp only [D.dps]
    omega
/-- The kids behind the first one. -/
def tailK (n K c : Nat) : List D := if c % 2 = 1 then (nums n K).set (K - 1) (wrongD c) else nums n K
theorem big_kids {n many c : Nat} (h : n < many) : bigKids n many c = chain (n - 2) :: tailK n (many - n) c := by
  unfold bigKids tailK
  obtain ⟨K, hK⟩ : ∃ K, many - n = K + 1 := ⟨many - n - 1, by omega⟩
  rw [hK]
  split <;> simp
theorem tail_mem {n K c : Nat} {x : D} (h : x ∈ tailK n K c) : (∃ i, x = numD i) ∨ (c % 2 = 1 ∧ x = wrongD c) := by
  unfold tailK at h
  split at h
  · rcases List.mem_or_eq_of_mem_set h with h | h
    · exact .inl (nums_mem h)
    · exact .inr ⟨‹_›, h⟩
  · exact .inl (nums_mem h)
theorem tail_szs {n K c : Nat} (hK : 0 < K) : D.szs (tailK n K c) = K := by
  unfold tailK
  split
  · have hl : K - 1 < (nums n K).length := by rw [nums_len]; omega
    have h1 := D.szs_set (nums n K) (K - 1) hl (wrongD c)
    have h2 : (nums n K)[K - 1].sz = 1 := by
      obtain ⟨i, hi⟩ := nums_mem (List.getElem_mem hl)
      rw [hi]
      rfl
    have h3 : (wrongD c).sz = 1 := rfl
    rw [nums_szs] at h1
    omega
  · exact nums_szs n K
theorem tail_fm {n K c : Nat} (hK : 0 < K) : D.fms (tailK n K c) = if c % 2 = 1 then (wrongD c).fm else true := by
  rw [D.fms_all]
  by_cases hc : c % 2 = 1
  · rw [if_pos hc]
    have hm : wrongD c ∈ tailK n K c := by
      unfold tailK
      rw [if_pos hc]
      exact List.mem_iff_getElem.2 ⟨K - 1, by rw [List.length_set, nums_len]; omega, by rw [List.getElem_set_self]⟩
    cases hf : (wrongD c).fm with
    | false => rw [List.all_eq_false]; exact ⟨_, hm, by simp [hf]⟩
    | true =>
      rw [List.all_eq_true]
      intro x hx
      rcases tail_mem hx with ⟨i, rfl⟩ | ⟨_, rfl⟩
      · exact num_fm i
      · exact hf
  · rw [if_neg hc, List.all_eq_true]
    intro x hx
    rcases tail_mem hx with ⟨i, rfl⟩ | ⟨h, _⟩
    · exact num_fm i
    · exact absurd h hc
theorem wrong_fm {c : Nat} (hc : c % 2 = 1) : (wrongD c).fm = decide (c = 1 ∨ c = 3) := by
  have h2 : ¬ (c : Int) = 2 := by omega
  simp only [wrongD, D.fm, D.fms, empB_nil]
  by_cases h1 : c = 1
  · subst h1; rfl
  · by_cases h3 : c = 3
    · subst h3; rfl
    · have h1' : ¬ (c : Int) = 1 := by omega
      have h3' : ¬ (c : Int) = 3 := by omega
      simp [h1', h2, h3', h1, h3]
theorem big_sz {n many c : Nat} (h1 : 2 ≤ n) (h : n < many) : (bigD n many c).sz = many := by
  simp only [bigD, D.sz, big_kids h, D.szs, chain_sz, tail_szs (by omega : 0 < many - n)]
  omega
theorem big_dp {n many c : Nat} (h1 : 3 ≤ n) (h : n < many) : (bigD n many c).dp = n := by
  have ht : D.dps (tailK n (many - n) c) ≤ 1 := dps_one fun x hx => by
    rcases tail_mem hx with ⟨i, rfl⟩ | ⟨_, rfl⟩ <;> rfl
  simp only [bigD, D.dp, big_kids h, D.dps, chain_dp]
  omega
theorem big_fm {n many c : Nat} (h : n < many) : (bigD n many c).fm = if c % 2 = 1 then decide (c = 1 ∨ c = 3) else true := by
  have h3 : ¬ ((3 : Int) = 1) := by omega
  have hb : (bigD n many c).fm = D.fms (tailK n (many - n) c) := by
    simp [bigD, D.fm, big_kids h, D.fms, chain_fm, empB_nil]
  rw [hb, tail_fm (by omega)]
  split
  · exact wrong_fm ‹_›
  · rfl
theorem big_ck {n many c : Nat} (h1 : 3 ≤ n) (h : n < many) : (bigD n many c).ck = if (c % 2 = 1 ∧ ¬ (c = 1 ∨ c = 3)) then 4 else if many > 100000 ∨ n > 1000 then 3 else 0 := by
  unfold D.ck
  rw [big_sz (by omega) h, big_dp h1 h, big_fm h]
  by_cases hc : c % 2 = 1
  · by_cases hw : c = 1 ∨ c = 3
    · simp [hc, hw]
    · simp [hc, hw]
  · simp [hc]

theorem guardF_u5 {cf : CallF} {s : SF} (b : Bool) (op : XOp) : guardF cf undefV b op s = some (undefV, s.h) := rfl
theorem law5 (a b c : Nat) (ha : a < 256) (hb : b < 256) (hc : c < 256) : call X E 500000 5 [.c (.int .u8 a), .c (.int .u8 b), .c (.int .u8 c)] [] = some (.c (.bool true), []) := by
  have c1 := run25 hb ha hc (N := 499998) (by omega)
  have hn : 998 ≤ 998 + b % 5 ∧ 998 + b % 5 ≤ 1002 := by omega
  have hmn : 99998 ≤ 99998 + a % 5 ∧ 99998 + a % 5 ≤ 100002 := by omega
  generalize 998 + b % 5 = n at *
  generalize 99998 + a % 5 = many at *
  have hck := big_ck (n := n) (many := many) (c := c) (by omega) (by omega)
  have hsz := big_sz (n := n) (many := many) (c := c) (by omega) (by omega)
  have hdp := big_dp (n := n) (many := many) (c := c) (by omega) (by omega)
  generalize bigD n many c = d at *
  have e1 : ∀ h, call X E 499999 15 [d.v] h = some (.c (.int .i64 d.ck), h) := run15 d (by omega) 499999 (by omega)
  have e2 : ∀ h, call X E 499999 17 [d.v] h = some (.c (.int .i64 many), h) := by
    have := run17 (d := d) (n := 499998) (by omega) (by omega)
    rwa [hsz] at this
  have e3 : ∀ h, call X E 499999 19 [d.v] h = some (.c (.int .i64 n), h) := by
    have := run19 (d := d) (n := 499998) (by omega) (by omega)
    rwa [hdp] at this
  have e8 : ∀ h, call X E 499999 22 [] h = some (.c (.bool true), h) := gives_nil (n := 499999) rfl (alive_up (by omega))
  have c2 : ∀ h, call X E 499999 25 [.c (.int .u8 a), .c (.int .u8 b), .c (.int .u8 c)] h = some (.tup [d.v, .c (.int .i64 many), .c (.int .i64 n)], h) := c1
  clear c1
  refine gives_of (n := 499999) rfl rfl rfl (by kernel_rfl) ⟨rfl, rfl⟩ (by simp [V.lows, V.low, V.vw2, V.vw1]) ?_ []
  have t3 : Int.tmod (c : Int) 2 = ((c % 2 : Nat) : Int) := by rw [Int.natCast_emod]; exact Int.tmod_eq_emod_of_nonneg (by omega)
  have hwc : IntKind.i64.wrap (c : Int) = c := wrap_in (by omega)
  generalize call X E 499999 = cf at *
  have hself : ∀ x : Int, (x == x) = true := fun x => by simp
  by_cases hodd : c % 2 = 1
  · have hodd' : ((c : Int) % 2 == 1) = true := by simpa using (by omega : (c : Int) % 2 = 1)
    by_cases h1 : c = 1
    · rw [if_neg (by omega)] at hck
      have h1' : ((c : Int) == 1) = true := by simpa using (by omega : (c : Int) = 1)
      by_cases hm : many > 100000
      · rw [if_pos (.inl hm)] at hck
        rw [hck] at e1
        have hm' : (100000 : Int) < many := by omega
        simp -implicitDefEqProofs [x5_w, x5_r, x5r1_w, x5r2_w, x5r3_w, x5r4_w, x5r5_w, x5r6_w, x5r7_w, x5r8_w, x5r9_w, x5r10_w, x5r11_w, x5r12_w, c2, e1, e2, e3, e8, D.rd, D.okc, D.cells_len, D.spl, t3, hodd', hwc, hself, guardF_u5, h1', hm']
      · have hm' : ¬ (100000 : Int) < many := by omega
        by_cases hg : n > 1000
        · rw [if_pos (.inr hg)] at hck
          rw [hck] at e1
          have hg' : (1000 : Int) < n := by omega
          simp -implicitDefEqProofs [x5_w, x5_r, x5r1_w, x5r2_w, x5r3_w, x5r4_w, x5r5_w, x5r6_w, x5r7_w, x5r8_w, x5r9_w, x5r10_w, x5r11_w, x5r12_w, c2, e1, e2, e3, e8, D.rd, D.okc, D.cells_len, D.spl, t3, hodd', hwc, hself, guardF_u5, h1', hm', hg']
        · rw [if_neg (by omega)] at hck
          rw [hck] at e1
          have hg' : ¬ (1000 : Int) < n := by omega
          simp -implicitDefEqProofs [x5_w, x5_r, x5r1_w, x5r2_w, x5r3_w, x5r4_w, x5r5_w, x5r6_w, x5r7_w, x5r8_w, x5r9_w, x5r10_w, x5r11_w, x5r12_w, c2, e1, e2, e3, e8, D.rd, D.okc, D.cells_len, D.spl, t3, hodd', hwc, hself, guardF_u5, h1', hm', hg']
    · have h1' : ((c : Int) == 1) = false := by simpa using (by omega : ¬ (c : Int) = 1)
      by_cases h3 : c = 3
      · rw [if_neg (by omega)] at hck
        have h3' : ((c : Int) == 3) = true := by simpa using (by omega : (c : Int) = 3)
        by_cases hm : many > 100000
        · rw [if_pos (.inl hm)] at hck
          rw [hck] at e1
          have hm' : (100000 : Int) < many := by omega
          simp -implicitDefEqProofs [x5_w, x5_r, x5r1_w, x5r2_w, x5r3_w, x5r4_w, x5r5_w, x5r6_w, x5r7_w, x5r8_w, x5r9_w, x5r10_w, x5r11_w, x5r12_w, c2, e1, e2, e3, e8, D.rd, D.okc, D.cells_len, D.spl, t3, hodd', hwc, hself, guardF_u5, h1', h3', hm']
        · have hm' : ¬ (100000 : Int) < many := by omega
          by_cases hg : n > 1000
          · rw [if_pos (.inr hg)] at hck
            rw [hck] at e1
            have hg' : (1000 : Int) < n := by omega
            simp -implicitDefEqProofs [x5_w, x5_r, x5r1_w, x5r2_w, x5r3_w, x5r4_w, x5r5_w, x5r6_w, x5r7_w, x5r8_w, x5r9_w, x5r10_w, x5r11_w, x5r12_w, c2, e1, e2, e3, e8, D.rd, D.okc, D.cells_len, D.spl, t3, hodd', hwc, hself, guardF_u5, h1', h3', hm', hg']
          · rw [if_neg (by omega)] at hck
            rw [hck] at e1
            have hg' : ¬ (1000 : Int) < n := by omega
            simp -implicitDefEqProofs [x5_w, x5_r, x5r1_w, x5r2_w, x5r3_w, x5r4_w, x5r5_w, x5r6_w, x5r7_w, x5r8_w, x5r9_w, x5r10_w, x5r11_w, x5r12_w, c2, e1, e2, e3, e8, D.rd, D.okc, D.cells_len, D.spl, t3, hodd', hwc, hself, guardF_u5, h1', h3', hm', hg']
      · rw [if_pos ⟨hodd, by omega⟩] at hck
        rw [hck] at e1
        have h3' : ((c : Int) == 3) = false := by simpa using (by omega : ¬ (c : Int) = 3)
        simp -implicitDefEqProofs [x5_w, x5_r, x5r1_w, x5r2_w, x5r3_w, x5r4_w, x5r5_w, x5r6_w, x5r7_w, x5r8_w, x5r9_w, x5r10_w, x5r11_w, x5r12_w, c2, e1, e2, e3, e8, D.rd, D.okc, D.cells_len, D.spl, t3, hodd', hwc, hself, guardF_u5, h1', h3']
  · have hodd' : ((c : Int) % 2 == 1) = false := by simpa using (by omega : ¬ (c : Int) % 2 = 1)
    rw [if_neg (by omega)] at hck
    by_cases hm : many > 100000
    · rw [if_pos (.inl hm)] at hck
      rw [hck] at e1
      have hm' : (100000 : Int) < many := by omega
      simp -implicitDefEqProofs [x5_w, x5_r, x5r1_w, x5r2_w, x5r3_w, x5r4_w, x5r5_w, x5r6_w, x5r7_w, x5r8_w, x5r9_w, x5r10_w, x5r11_w, x5r12_w, c2, e1, e2, e3, e8, D.rd, D.okc, D.cells_len, D.spl, t3, hodd', hwc, hself, guardF_u5, hodd, hm']
    · have hm' : ¬ (100000 : Int) < many := by omega
      by_cases hg : n > 1000
      · rw [if_pos (.inr hg)] at hck
        rw [hck] at e1
        have hg' : (1000 : Int) < n := by omega
        simp -implicitDefEqProofs [x5_w, x5_r, x5r1_w, x5r2_w, x5r3_w, x5r4_w, x5r5_w, x5r6_w, x5r7_w, x5r8_w, x5r9_w, x5r10_w, x5r11_w, x5r12_w, c2, e1, e2, e3, e8, D.rd, D.okc, D.cells_len, D.spl, t3, hodd', hwc, hself, guardF_u5, hodd, hm', hg']
      · rw [if_neg (by omega)] at hck
        rw [hck] at e1
        have hg' : ¬ (1000 : Int) < n := by omega
        simp -implicitDefEqProofs [x5_w, x5_r, x5r1_w, x5r2_w, x5r3_w, x5r4_w, x5r5_w, x5r6_w, x5r7_w, x5r8_w, x5r9_w, x5r10_w, x5r11_w, x5r12_w, c2, e1, e2, e3, e8, D.rd, D.okc, D.cells_len, D.spl, t3, hodd', hwc, hself, guardF_u5, hodd, hm', hg']
end Go.Proofs.Ytbkgpdkimcnpgaa.Ab
