/- Symbols. -/
import Derived.Test.YtkiliokeanmagaaDoorSd5
import Derived.Test.YtkiliokeanmagaaDoorAb28
namespace Go.Proofs.YtkiliokeanmagaaDoor.Ab
open Go
set_option linter.unusedVariables false
set_option linter.unusedSimpArgs false

def lB (c : Nat) : Bool := (bB 68 c).getD false
def dB (c : Nat) : Bool := (bB 67 c).getD false
theorem run52 {n c : Nat} (hn : 16 ≤ n) (hc : c < 256) : call X E n 68 [.c (.int .u8 c)] [] = some (.c (.bool (lB c)), []) := by
  obtain ⟨b, h1, h2⟩ := letter_of hc
  rw [up hn (bB_run h1), lB, h1]; rfl
theorem run54 {n c : Nat} (hn : 16 ≤ n) (hc : c < 256) : call X E n 70 [.c (.int .u8 c)] [] = some (.c (.bool (lB c)), []) := by
  obtain ⟨b, h1, h2⟩ := letter_of hc
  rw [up hn (bB_run h2), lB, h1]; rfl
theorem run51 {n c : Nat} (hn : 16 ≤ n) (hc : c < 256) : call X E n 67 [.c (.int .u8 c)] [] = some (.c (.bool (dB c)), []) := by
  obtain ⟨b, h1, h2⟩ := digit_of hc
  rw [up hn (bB_run h1), dB, h1]; rfl
theorem run53 {n c : Nat} (hn : 16 ≤ n) (hc : c < 256) : call X E n 69 [.c (.int .u8 c)] [] = some (.c (.bool (dB c)), []) := by
  obtain ⟨b, h1, h2⟩ := digit_of hc
  rw [up hn (bB_run h2), dB, h1]; rfl


/-- Is the head of a symbol wrong? -/
def headB (s : ByteArray) : Bool :=
  s.size == 0 || decide (40 < s.size) || (match s[0]?, s[1]? with
    | some a, some b => dB a.toNat || (a.toNat == 45 && dB b.toNat)
    | some a, none => dB a.toNat
    | none, _ => false)

theorem head23 {n : Nat} (hn : 16 ≤ n) (s : ByteArray) : ∃ tm, exec (call X E n) n x40r2 ⟨[.c (.string s), undefV, .c (.bool false)] ++ List.replicate 40 undefV, [], 0, 0⟩ = some (.normal, ⟨tm, [], 0, 0⟩) ∧ tm.length = 43 ∧ tm[0]? = some (.c (.string s)) ∧ tm[31]? = some (.c (.bool (headB s))) := by
  rcases Nat.eq_zero_or_pos s.size with h0 | h0
  · refine ⟨_, by simp [x40r2, exec, runOps, stepO, known, wants, act, pureV, putV, ev, binV, binI, h0, List.replicate]; rfl, ?_⟩
    simp [headB, h0]
  · have hz : ¬ s.size = 0 := by omega
    by_cases h40 : 40 < s.size
    · have h40' : (40 : Int) < s.size := by omega
      refine ⟨_, by simp [x40r2, exec, runOps, stepO, known, wants, act, pureV, putV, ev, binV, binI, hz, h40', List.replicate]; rfl, ?_⟩
      simp [headB, h40]
    · have h40' : ¬ (40 : Int) < s.size := by omega
      have e0 : s[0]? = some s[0] := by simp [h0]
      have c0 := run51 (n := n) hn (UInt8.toNat_lt s[0])
      cases hd : dB s[0].toNat with
      | true =>
        rw [hd] at c0
        refine ⟨_, by simp [x40r2, exec, runOps, stepO, known, wants, act, pureV, putV, ev, binV, binI, hz, h40', h0, idx, callee_f, c0, List.replicate]; rfl, ?_⟩
        refine ⟨by simp, by simp, ?_⟩
        simp only [headB, e0]
        cases s[1]? <;> simp [hd]
      | false =>
        rw [hd] at c0
        by_cases h45 : s[0].toNat = 45
        · have h45' : ((s[0].toNat : Int) = 45) := by omega
          rw [h45'] at c0
          by_cases h1 : 1 < s.size
          · have h1' : (1 : Int) < s.size := by omega
            have e1 : s[1]? = some s[1] := by simp [h1]
            have c1 := run51 (n := n) hn (UInt8.toNat_lt s[1])
            cases hd1 : dB s[1].toNat with
            | true =>
              rw [hd1] at c1
              refine ⟨_, by simp [x40r2, exec, runOps, stepO, known, wants, act, pureV, putV, ev, binV, binI, hz, h40', h0, idx, callee_f, c0, c1, h45', h1, h1', List.replicate]; rfl, ?_⟩
              refine ⟨by simp, by simp, ?_⟩
              simp [headB, e0, e1, hd, hd1, h45]
            | false =>
              rw [hd1] at c1
              refine ⟨_, by simp [x40r2, exec, runOps, stepO, known, wants, act, pureV, putV, ev, binV, binI, hz, h40', h0, idx, callee_f, c0, c1, h45', h1, h1', List.replicate]; rfl, ?_⟩
              refine ⟨by simp, by simp, ?_⟩
              simp [headB, e0, e1, hd, hd1, hz, h40]
          · have h1' : ¬ (1 : Int) < s.size := by omega
            have e1 : s[1]? = none := by simp; omega
            refine ⟨_, by simp [x40r2, exec, runOps, stepO, known, wants, act, pureV, putV, ev, binV, binI, hz, h40', h0, idx, callee_f, c0, h45', h1', List.replicate]; rfl, ?_⟩
            refine ⟨by simp, by simp, ?_⟩
            simp [headB, e0, e1, hd, hz, h40]
        · have h45' : ¬ ((s[0].toNat : Int) = 45) := by omega
          refine ⟨_, by simp [x40r2, exec, runOps, stepO, known, wants, act, pureV, putV, ev, binV, binI, hz, h40', h0, idx, callee_f, c0, h45', List.replicate]; rfl, ?_⟩
          refine ⟨by simp, by simp, ?_⟩
          simp only [headB, e0]
          cases s[1]? <;> simp [hz, h40, h45, hd]
theorem head24 {n : Nat} (hn : 16 ≤ n) (s : ByteArray) : ∃ tm, exec (call X E n) n x41r2 ⟨[.c (.string s), undefV, .c (.bool false)] ++ List.replicate 40 undefV, [], 0, 0⟩ = some (.normal, ⟨tm, [], 0, 0⟩) ∧ tm.length = 43 ∧ tm[0]? = some (.c (.string s)) ∧ tm[31]? = some (.c (.bool (headB s))) := by
  rcases Nat.eq_zero_or_pos s.size with h0 | h0
  · refine ⟨_, by simp [x41r2, exec, runOps, stepO, known, wants, act, pureV, putV, ev, binV, binI, h0, List.replicate]; rfl, ?_⟩
    simp [headB, h0]
  · have hz : ¬ s.size = 0 := by omega
    have hz' : ¬ (s.size : Int) < 1 := by omega
    by_cases h40 : 40 < s.size
    · have h40' : (40 : Int) < s.size := by omega
      refine ⟨_, by simp [x41r2, exec, runOps, stepO, known, wants, act, pureV, putV, ev, binV, binI, hz, hz', h40', List.replicate]; rfl, ?_⟩
      simp [headB, h40]
    · have h40' : ¬ (40 : Int) < s.size := by omega
      have e0 : s[0]? = some s[0] := by simp [h0]
      have c0 := run53 (n := n) hn (UInt8.toNat_lt s[0])
      cases hd : dB s[0].toNat with
      | true =>
        rw [hd] at c0
        refine ⟨_, by simp [x41r2, exec, runOps, stepO, known, wants, act, pureV, putV, ev, binV, binI, hz, hz', h40', h0, idx, callee_f, c0, List.replicate]; rfl, ?_⟩
        refine ⟨by simp, by simp, ?_⟩
        simp only [headB, e0]
        cases s[1]? <;> simp [hd]
      | false =>
        rw [hd] at c0
        by_cases h45 : s[0].toNat = 45
        · have h45' : ((s[0].toNat : Int) = 45) := by omega
          rw [h45'] at c0
          by_cases h1 : 1 < s.size
          · have h1' : (1 : Int) < s.size := by omega
            have e1 : s[1]? = some s[1] := by simp [h1]
            have c1 := run53 (n := n) hn (UInt8.toNat_lt s[1])
            cases hd1 : dB s[1].toNat with
            | true =>
              rw [hd1] at c1
              refine ⟨_, by simp [x41r2, exec, runOps, stepO, known, wants, act, pureV, putV, ev, binV, binI, hz, hz', h40', h0, idx, callee_f, c0, c1, h45', h1, h1', List.replicate]; rfl, ?_⟩
              refine ⟨by simp, by simp, ?_⟩
              simp [headB, e0, e1, hd, hd1, h45]
            | false =>
              rw [hd1] at c1
              refine ⟨_, by simp [x41r2, exec, runOps, stepO, known, wants, act, pureV, putV, ev, binV, binI, hz, hz', h40', h0, idx, callee_f, c0, c1, h45', h1, h1', List.replicate]; rfl, ?_⟩
              refine ⟨by simp, by simp, ?_⟩
              simp [headB, e0, e1, hd, hd1, hz, h40]
          · have h1' : ¬ (1 : Int) < s.size := by omega
            have e1 : s[1]? = none := by simp; omega
            refine ⟨_, by simp [x41r2, exec, runOps, stepO, known, wants, act, pureV, putV, ev, binV, binI, hz, hz', h40', h0, idx, callee_f, c0, h45', h1', List.replicate]; rfl, ?_⟩
            refine ⟨by simp, by simp, ?_⟩
            simp [headB, e0, e1, hd, hz, h40]
        · have h45' : ¬ ((s[0].toNat : Int) = 45) := by omega
          refine ⟨_, by simp [x41r2, exec, runOps, stepO, known, wants, act, pureV, putV, ev, binV, binI, hz, hz', h40', h0, idx, callee_f, c0, h45', List.replicate]; rfl, ?_⟩
          refine ⟨by simp, by simp, ?_⟩
          simp only [headB, e0]
          cases s[1]? <;> simp [hz, h40, h45, hd]
end Go.Proofs.YtkiliokeanmagaaDoor.Ab
