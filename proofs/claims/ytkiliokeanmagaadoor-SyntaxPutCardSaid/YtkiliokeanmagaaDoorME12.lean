/- Part 13 of 14: what the functions do. -/
import Derived.Test.YtkiliokeanmagaaDoorME11
import Derived.IntWalk
import Derived.KernelRfl
namespace Go.Proofs.YtkiliokeanmagaaDoor.Ab
open Go
set_option linter.unusedVariables false
set_option linter.unusedSimpArgs false
def lB (c : Nat) : Bool := (bB 68 c).getD false
def dB (c : Nat) : Bool := (bB 67 c).getD false
theorem run52 {n c : Nat} (hn : 16 ≤ n) (hc : c < 256) : call X E n 68 [.c (.int .u8 c)] [] = some (.c (.bool (lB c)), []) := by
  obtain ⟨b, h1, h2⟩ := letter_of hc
  rw [up hn (bB_run h1), lB, h1]; rfl
theorem run54 {n c : Nat} (hn : 16 ≤ n) (hc : c < 256) : call X E n 70 [.c (.int .u8 c)] [] = some (.c (.bool (lB c)), []) := by
  obtain ⟨b, h1, h2⟩ := letter_of hc
  rw [up hn (bB_run h2), lB, h1]; rfl
theorem run51 {n c : Nat} (hn : 16 ≤ n) (hc : c < 256) : call X E n 67 [.c (.int .u8 c)] [] = some (.c (.bool (dB c)), []) := by
  obtain ⟨b, h1, h2⟩ := digit_of hc
  rw [up hn (bB_run h1), dB, h1]; rfl
theorem run53 {n c : Nat} (hn : 16 ≤ n) (hc : c < 256) : call X E n 69 [.c (.int .u8 c)] [] = some (.c (.bool (dB c)), []) := by
  obtain ⟨b, h1, h2⟩ := digit_of hc
  rw [up hn (bB_run h2), dB, h1]; rfl
def headB (s : ByteArray) : Bool :=
  s.size == 0 || decide (40 < s.size) || (match s[0]?, s[1]? with
    | some a, some b => dB a.toNat || (a.toNat == 45 && dB b.toNat)
    | some a, none => dB a.toNat
    | none, _ => false)
theorem head23 {n : Nat} (hn : 16 ≤ n) (s : ByteArray) : ∃ tm, exec (call X E n) n x40r2 ⟨[.c (.string s), undefV, .c (.bool false)] ++ List.replicate 40 undefV, [], 0, 0⟩ = some (.normal, ⟨tm, [], 0, 0⟩) ∧ tm.length = 43 ∧ tm[0]? = some (.c (.string s)) ∧ tm[31]? = some (.c (.bool (headB s))) := by
  rcases Nat.eq_zero_or_pos s.size with h0 | h0
  · refine ⟨_, by simp [x40r2, exec, runOps, stepO, known, wants, act, pureV, putV, ev, binV, binI, h0, List.replicate]; rfl, ?_⟩
    simp [headB, h0]
  · have hz : ¬ s.size = 0 := by omega
    by_cases h40 : 40 < s.size
    · have h40' : (40 : Int) < s.size := by omega
      refine ⟨_, by simp [x40r2, exec, runOps, stepO, known, wants, act, pureV, putV, ev, binV, binI, hz, h40', List.replicate]; rfl, ?_⟩
      simp [headB, h40]
    · have h40' : ¬ (40 : Int) < s.size := by omega
      have e0 : s[0]? = some s[0] := by simp [h0]
      have c0 := run51 (n := n) hn (UInt8.toNat_lt s[0])
      cases hd : dB s[0].toNat with
      | true =>
        rw [hd] at c0
        refine ⟨_, by simp [x40r2, exec, runOps, stepO, known, wants, act, pureV, putV, ev, binV, binI, hz, h40', h0, idx, callee_f, c0, List.replicate]; rfl, ?_⟩
        refine ⟨by simp, by simp, ?_⟩
        simp only [headB, e0]
        cases s[1]? <;> simp [hd]
      | false =>
        rw [hd] at c0
        by_cases h45 : s[0].toNat = 45
        · have h45' : ((s[0].toNat : Int) = 45) := by omega
          rw [h45'] at c0
          by_cases h1 : 1 < s.size
          · have h1' : (1 : Int) < s.size := by omega
            have e1 : s[1]? = some s[1] := by simp [h1]
            have c1 := run51 (n := n) hn (UInt8.toNat_lt s[1])
            cases hd1 : dB s[1].toNat with
            | true =>
              rw [hd1] at c1
              refine ⟨_, by simp [x40r2, exec, runOps, stepO, known, wants, act, pureV, putV, ev, binV, binI, hz, h40', h0, idx, callee_f, c0, c1, h45', h1, h1', List.replicate]; rfl, ?_⟩
              refine ⟨by simp, by simp, ?_⟩
              simp [headB, e0, e1, hd, hd1, h45]
            | false =>
              rw [hd1] at c1
              refine ⟨_, by simp [x40r2, exec, runOps, stepO, known, wants, act, pureV, putV, ev, binV, binI, hz, h40', h0, idx, callee_f, c0, c1, h45', h1, h1', List.replicate]; rfl, ?_⟩
              refine ⟨by simp, by simp, ?_⟩
              simp [headB, e0, e1, hd, hd1, hz, h40]
          · have h1' : ¬ (1 : Int) < s.size := by omega
            have e1 : s[1]? = none := by simp; omega
            refine ⟨_, by simp [x40r2, exec, runOps, stepO, known, wants, act, pureV, putV, ev, binV, binI, hz, h40', h0, idx, callee_f, c0, h45', h1', List.replicate]; rfl, ?_⟩
            refine ⟨by simp, by simp, ?_⟩
            simp [headB, e0, e1, hd, hz, h40]
        · have h45' : ¬ ((s[0].toNat : Int) = 45) := by omega
          refine ⟨_, by simp [x40r2, exec, runOps, stepO, known, wants, act, pureV, putV, ev, binV, binI, hz, h40', h0, idx, callee_f, c0, h45', List.replicate]; rfl, ?_⟩
          refine ⟨by simp, by simp, ?_⟩
          simp only [headB, e0]
          cases s[1]? <;> simp [hz, h40, h45, hd]
theorem head24 {n : Nat} (hn : 16 ≤ n) (s : ByteArray) : ∃ tm, exec (call X E n) n x41r2 ⟨[.c (.string s), undefV, .c (.bool false)] ++ List.replicate 40 undefV, [], 0, 0⟩ = some (.normal, ⟨tm, [], 0, 0⟩) ∧ tm.length = 43 ∧ tm[0]? = some (.c (.string s)) ∧ tm[31]? = some (.c (.bool (headB s))) := by
  rcases Nat.eq_zero_or_pos s.size with h0 | h0
  · refine ⟨_, by simp [x41r2, exec, runOps, stepO, known, wants, act, pureV, putV, ev, binV, binI, h0, List.replicate]; rfl, ?_⟩
    simp [headB, h0]
  · have hz : ¬ s.size = 0 := by omega
    have hz' : ¬ (s.size : Int) < 1 := by omega
    by_cases h40 : 40 < s.size
    · have h40' : (40 : Int) < s.size := by omega
      refine ⟨_, by simp [x41r2, exec, runOps, stepO, known, wants, act, pureV, putV, ev, binV, binI, hz, hz', h40', List.replicate]; rfl, ?_⟩
      simp [headB, h40]
    · have h40' : ¬ (40 : Int) < s.size := by omega
      have e0 : s[0]? = some s[0] := by simp [h0]
      have c0 := run53 (n := n) hn (UInt8.toNat_lt s[0])
      cases hd : dB s[0].toNat with
      | true =>
        rw [hd] at c0
        refine ⟨_, by simp [x41r2, exec, runOps, stepO, known, wants, act, pureV, putV, ev, binV, binI, hz, hz', h40', h0, idx, callee_f, c0, List.replicate]; rfl, ?_⟩
        refine ⟨by simp, by simp, ?_⟩
        simp only [headB, e0]
        cases s[1]? <;> simp [hd]
      | false =>
        rw [hd] at c0
        by_cases h45 : s[0].toNat = 45
        · have h45' : ((s[0].toNat : Int) = 45) := by omega
          rw [h45'] at c0
          by_cases h1 : 1 < s.size
          · have h1' : (1 : Int) < s.size := by omega
            have e1 : s[1]? = some s[1] := by simp [h1]
            have c1 := run53 (n := n) hn (UInt8.toNat_lt s[1])
            cases hd1 : dB s[1].toNat with
            | true =>
              rw [hd1] at c1
              refine ⟨_, by simp [x41r2, exec, runOps, stepO, known, wants, act, pureV, putV, ev, binV, binI, hz, hz', h40', h0, idx, callee_f, c0, c1, h45', h1, h1', List.replicate]; rfl, ?_⟩
              refine ⟨by simp, by simp, ?_⟩
              simp [headB, e0, e1, hd, hd1, h45]
            | false =>
              rw [hd1] at c1
              refine ⟨_, by simp [x41r2, exec, runOps, stepO, known, wants, act, pureV, putV, ev, binV, binI, hz, hz', h40', h0, idx, callee_f, c0, c1, h45', h1, h1', List.replicate]; rfl, ?_⟩
              refine ⟨by simp, by simp, ?_⟩
              simp [headB, e0, e1, hd, hd1, hz, h40]
          · have h1' : ¬ (1 : Int) < s.size := by omega
            have e1 : s[1]? = none := by simp; omega
            refine ⟨_, by simp [x41r2, exec, runOps, stepO, known, wants, act, pureV, putV, ev, binV, binI, hz, hz', h40', h0, idx, callee_f, c0, h45', h1', List.replicate]; rfl, ?_⟩
            refine ⟨by simp, by simp, ?_⟩
            simp [headB, e0, e1, hd, hz, h40]
        · have h45' : ¬ ((s[0].toNat : Int) = 45) := by omega
          refine ⟨_, by simp [x41r2, exec, runOps, stepO, known, wants, act, pureV, putV, ev, binV, binI, hz, hz', h40', h0, idx, callee_f, c0, h45', List.replicate]; rfl, ?_⟩
          refine ⟨by simp, by simp, ?_⟩
          simp only [headB, e0]
          cases s[1]? <;> simp [hz, h40, h45, hd]
end Go.Proofs.YtkiliokeanmagaaDoor.Ab

namespace Go.Proofs.YtkiliokeanmagaaDoor.Ab
open Go
set_option linter.unusedVariables false
set_option linter.unusedSimpArgs false
structure S23 (s : ByteArray) (i : Nat) (tm : List V) : Prop where
  len : tm.length = 43
  t0 : tm[0]? = some (.c (.string s))
  t33 : tm[33]? = some (.c (.int .i64 s.size))
  t34 : tm[34]? = some (.c (.int .i64 i))
theorem step23 {n : Nat} (hn : 16 ≤ n) {s : ByteArray} {i : Nat} {tm : List V} (T : S23 s i tm) (hs : s.size ≤ 40) :
    ∃ tm', exec (call X E n) n x40l10 ⟨tm, [], 0, 0⟩ = some (if h : i < s.size then (if lB s[i].toNat then .normal else .ret) else .exit 0, ⟨tm', [], 0, 0⟩) ∧ tm'.length = 43 ∧
      (∀ h : i < s.size, lB s[i].toNat = true → S23 s (i + 1) tm') ∧ (∀ h : i < s.size, lB s[i].toNat = false → tm'[2]? = some (.c (.bool false))) := by
  have l := T.len
  have g0 : tm[0]'(by omega) = .c (.string s) := (List.getElem?_eq_some_iff.1 T.t0).2
  have g33 : tm[33]'(by omega) = .c (.int .i64 s.size) := (List.getElem?_eq_some_iff.1 T.t33).2
  have g34 : tm[34]'(by omega) = .c (.int .i64 i) := (List.getElem?_eq_some_iff.1 T.t34).2
  by_cases h : i < s.size
  · have hi : (i : Int) < s.size := by omega
    have c0 := run52 (n := n) hn (UInt8.toNat_lt s[i])
    have hw : IntKind.i64.wrap ((i : Int) + 1) = (i : Int) + 1 := by
      simp only [IntKind.wrap, IntKind.signed, IntKind.bits]
      simp
      omega
    cases hl : lB s[i].toNat with
    | true =>
      rw [hl] at c0
      refine ⟨_, by simp [x40l10, x40r5, x40r6, x40r7, x40r8, x40r9, exec, runOps, stepO, known, wants, act, pureV, putV, ev, binV, binI, l, g0, g33, g34, hi, h, hl, idx, callee_f, c0, hw]; rfl, by simp [l], fun _ _ => ⟨by simp [l], by simp [l, g0], by simp [l, g33], by simp [l]⟩, fun h' e => by rw [hl] at e; cases e⟩
    | false =>
      rw [hl] at c0
      refine ⟨_, by simp [x40l10, x40r5, x40r6, x40r7, x40r8, x40r9, exec, runOps, stepO, known, wants, act, pureV, putV, ev, binV, binI, l, g0, g33, g34, hi, h, hl, idx, callee_f, c0, hw]; rfl, by simp [l], (fun h' e => by rw [hl] at e; cases e), fun _ _ => by simp [l]⟩
  · have hi : ¬ (i : Int) < s.size := by omega
    refine ⟨_, by simp [x40l10, x40r5, exec, runOps, stepO, known, wants, act, pureV, putV, ev, binV, binI, l, g33, g34, hi, h]; rfl, by simp [l], fun h' => absurd h' h, fun h' => absurd h' h⟩
def allL (s : ByteArray) : Nat → Nat → Bool
  | 0, _ => true
  | r + 1, i => (match s[i]? with
    | some c => lB c.toNat
    | none => true) && allL s r (i + 1)
theorem loop23 {n : Nat} (hn : 16 ≤ n) {s : ByteArray} (hs : s.size ≤ 40) : ∀ (r i m : Nat) (tm : List V), i + r = s.size → r < m → S23 s i tm →
    ∃ tm', iter (exec (call X E n) n x40l10) m ⟨tm, [], 0, 0⟩ = some (if allL s r i then .exit 0 else .ret, ⟨tm', [], 0, 0⟩) ∧ tm'.length = 43 ∧ (allL s r i = false → tm'[2]? = some (.c (.bool false)))
  | 0, i, m + 1, tm, hi, _, T => by
    obtain ⟨tm', h1, h2, _⟩ := step23 hn T hs
    have h : ¬ i < s.size := by omega
    rw [dif_neg h] at h1
    exact ⟨tm', by simp only [iter, h1, allL, if_true], h2, fun e => by simp [allL] at e⟩
  | r + 1, i, m + 1, tm, hi, hm, T => by
    obtain ⟨tm', h1, h2, h3, h4⟩ := step23 hn T hs
    have h : i < s.size := by omega
    have e0 : s[i]? = some s[i] := by simp [h]
    rw [dif_pos h] at h1
    cases hl : lB s[i].toNat with
    | true =>
      rw [hl, if_pos rfl] at h1
      obtain ⟨tm2, k1, k2, k3⟩ := loop23 hn hs r (i + 1) m tm' (by omega) (by omega) (h3 h hl)
      refine ⟨tm2, ?_, k2, fun e => k3 (by simpa [allL, e0, hl] using e)⟩
      simp only [iter, h1, k1, allL, e0, hl, Bool.true_and]
    | false =>
      rw [hl] at h1
      refine ⟨tm', ?_, h2, fun _ => h4 h hl⟩
      simp [iter, h1, allL, e0, hl]
structure S24 (s : ByteArray) (i : Nat) (tm : List V) : Prop where
  len : tm.length = 43
  t0 : tm[0]? = some (.c (.string s))
  t3 : tm[3]? = some (.c (.int .i64 i))
theorem step24 {n : Nat} (hn : 16 ≤ n) {s : ByteArray} {i : Nat} {tm : List V} (T : S24 s i tm) (hs : s.size ≤ 40) :
    ∃ tm', exec (call X E n) n x41l9 ⟨tm, [], 0, 0⟩ = some (if h : i < s.size then (if lB s[i].toNat then .normal else .ret) else .exit 0, ⟨tm', [], 0, 0⟩) ∧ tm'.length = 43 ∧
      (∀ h : i < s.size, lB s[i].toNat = true → S24 s (i + 1) tm') ∧ (∀ h : i < s.size, lB s[i].toNat = false → tm'[2]? = some (.c (.bool false))) := by
  have l := T.len
  have g0 : tm[0]'(by omega) = .c (.string s) := (List.getElem?_eq_some_iff.1 T.t0).2
  have g3 : tm[3]'(by omega) = .c (.int .i64 i) := (List.getElem?_eq_some_iff.1 T.t3).2
  by_cases h : i < s.size
  · have hi : (i : Int) < s.size := by omega
    have c0 := run54 (n := n) hn (UInt8.toNat_lt s[i])
    have hw : IntKind.i64.wrap ((i : Int) + 1) = (i : Int) + 1 := by
      simp only [IntKind.wrap, IntKind.signed, IntKind.bits]
      simp
      omega
    cases hl : lB s[i].toNat with
    | true =>
      rw [hl] at c0
      refine ⟨_, by simp [x41l9, x41r5, x41r6, x41r7, x41r8, exec, runOps, stepO, known, wants, act, pureV, putV, ev, binV, binI, l, g0, g3, hi, h, hl, idx, callee_f, c0, hw]; rfl, by simp [l], fun _ _ => ⟨by simp [l], by simp [l, g0], by simp [l]⟩, fun h' e => by rw [hl] at e; cases e⟩
    | false =>
      rw [hl] at c0
      refine ⟨_, by simp [x41l9, x41r5, x41r6, x41r7, x41r8, exec, runOps, stepO, known, wants, act, pureV, putV, ev, binV, binI, l, g0, g3, hi, h, hl, idx, callee_f, c0, hw]; rfl, by simp [l], (fun h' e => by rw [hl] at e; cases e), fun _ _ => by simp [l]⟩
  · have hi : ¬ (i : Int) < s.size := by omega
    refine ⟨_, by simp [x41l9, x41r5, exec, runOps, stepO, known, wants, act, pureV, putV, ev, binV, binI, l, g0, g3, hi, h]; rfl, by simp [l], fun h' => absurd h' h, fun h' => absurd h' h⟩
theorem loop24 {n : Nat} (hn : 16 ≤ n) {s : ByteArray} (hs : s.size ≤ 40) : ∀ (r i m : Nat) (tm : List V), i + r = s.size → r < m → S24 s i tm →
    ∃ tm', iter (exec (call X E n) n x41l9) m ⟨tm, [], 0, 0⟩ = some (if allL s r i then .exit 0 else .ret, ⟨tm', [], 0, 0⟩) ∧ tm'.length = 43 ∧ (allL s r i = false → tm'[2]? = some (.c (.bool false)))
  | 0, i, m + 1, tm, hi, _, T => by
    obtain ⟨tm', h1, h2, _⟩ := step24 hn T hs
    have h : ¬ i < s.size := by omega
    rw [dif_neg h] at h1
    exact ⟨tm', by simp only [iter, h1, allL, if_true], h2, fun e => by simp [allL] at e⟩
  | r + 1, i, m + 1, tm, hi, hm, T => by
    obtain ⟨tm', h1, h2, h3, h4⟩ := step24 hn T hs
    have h : i < s.size := by omega
    have e0 : s[i]? = some s[i] := by simp [h]
    rw [dif_pos h] at h1
    cases hl : lB s[i].toNat with
    | true =>
      rw [hl, if_pos rfl] at h1
      obtain ⟨tm2, k1, k2, k3⟩ := loop24 hn hs r (i + 1) m tm' (by omega) (by omega) (h3 h hl)
      refine ⟨tm2, ?_, k2, fun e => k3 (by simpa [allL, e0, hl] using e)⟩
      simp only [iter, h1, k1, allL, e0, hl, Bool.true_and]
    | false =>
      rw [hl] at h1
      refine ⟨tm', ?_, h2, fun _ => h4 h hl⟩
      simp [iter, h1, allL, e0, hl]
end Go.Proofs.YtkiliokeanmagaaDoor.Ab

namespace Go.Proofs.YtkiliokeanmagaaDoor.Ab
open Go
set_option linter.unusedVariables false
set_option linter.unusedSimpArgs false
def symB (s : ByteArray) : Bool := !headB s && allL s s.size 0
theorem head_size {s : ByteArray} (h : headB s = false) : s.size ≤ 40 := by
  unfold headB at h
  simp only [Bool.or_eq_false_iff, decide_eq_false_iff_not] at h
  omega
theorem sym23 {n : Nat} (hn : 60 ≤ n) (s : ByteArray) : call X E (n + 1) 40 [.c (.string s)] [] = some (.c (.bool (symB s)), []) := by
  have hE : E 40 = none := rfl
  have hX : X 40 = some x40 := rfl
  obtain ⟨tm, h1, h2, h3, h4⟩ := head23 (n := n) (by omega) s
  have g31 : tm[31]'(by omega) = .c (.bool (headB s)) := (List.getElem?_eq_some_iff.1 h4).2
  have g0 : tm[0]'(by omega) = .c (.string s) := (List.getElem?_eq_some_iff.1 h3).2
  have hr1 : exec (call X E n) n x40r1 (start x40 [.c (.string s)] []) = some (.normal, ⟨[.c (.string s), undefV, .c (.bool false)] ++ List.replicate 40 undefV, [], 0, 0⟩) := by
    simp [x40r1, x40, start, exec, runOps, stepO, known, wants, act, pureV, putV, ev, List.replicate]
  generalize (⟨[.c (.string s), undefV, .c (.bool false)] ++ List.replicate 40 undefV, [], 0, 0⟩ : St) = st0 at h1 hr1
  have hbody : ∃ st e, exec (call X E n) n x40.body (start x40 [.c (.string s)] []) = some (e, st) ∧ (e = .ret) ∧ st.tm[2]? = some (.c (.bool (symB s))) ∧ st.base = 0 ∧ st.h = [] := by
    cases hh : headB s with
    | true =>
      rw [hh] at g31
      refine ⟨⟨tm.set 2 (.c (.bool false)), [], 0, 0⟩, .ret, ?_, rfl, by simp [h2, symB, hh], rfl, rfl⟩
      show exec (call X E n) n (.seq x40r1 _) _ = _
      rw [exec, hr1]
      simp [exec, h1, ev, h2, g31, x40r3, runOps, stepO, known, wants, act, pureV, putV]
    | false =>
      rw [hh] at g31
      have hsz := head_size hh
      have hT : S23 s 0 (((tm.set 32 (.c (.string s))).set 33 (.c (.int .i64 s.size))).set 34 (.c (.int .i64 0))) := ⟨by simp [h2], by simp [h2, g0], by simp [h2], by simp [h2]⟩
      have hr4 : exec (call X E n) n x40r4 ⟨tm, [], 0, 0⟩ = some (.normal, ⟨((tm.set 32 (.c (.string s))).set 33 (.c (.int .i64 s.size))).set 34 (.c (.int .i64 0)), [], 0, 0⟩) := by
        simp [x40r4, exec, runOps, stepO, known, wants, act, pureV, putV, ev, h2, g0]
      obtain ⟨tm2, k1, k2, k3⟩ := loop23 (n := n) (by omega) hsz s.size 0 n _ (by omega) (by omega) hT
      cases ha : allL s s.size 0 with
      | true =>
        rw [ha] at k1
        refine ⟨⟨tm2.set 2 (.c (.bool true)), [], 0, 0⟩, .ret, ?_, rfl, by simp [k2, symB, hh, ha], rfl, rfl⟩
        show exec (call X E n) n (.seq x40r1 _) _ = _
        rw [exec, hr1]
        simp [exec, h1, ev, h2, g31, hr4, k1, x40r11, runOps, stepO, known, wants, act, pureV, putV]
      | false =>
        rw [ha] at k1
        refine ⟨⟨tm2, [], 0, 0⟩, .ret, ?_, rfl, by rw [k3 ha]; simp [symB, ha], rfl, rfl⟩
        show exec (call X E n) n (.seq x40r1 _) _ = _
        rw [exec, hr1]
        simp [exec, h1, ev, h2, g31, hr4, k1]
  obtain ⟨st, e, hb1, rfl, hb2, hb3, hb4⟩ := hbody
  have hres : x40.res = [.t 2] := rfl
  simp only [call, hE, hX, show x40.asg = none from rfl, runF, show x40.pure = true from rfl, show x40.esc = false from rfl, if_true, List.map_cons, List.map_nil, V.vw2, V.vw1, V.lows, V.low, Bool.and_self, Bool.false_eq_true, if_false, hb1, hres]
  simp [fin, resAll, resV, hb2, hb3, hb4, resOf, V.vw, V.vw2, V.vw1, V.low]
theorem sym24 {n : Nat} (hn : 60 ≤ n) (s : ByteArray) : call X E (n + 1) 41 [.c (.string s)] [] = some (.c (.bool (symB s)), []) := by
  have hE : E 41 = none := rfl
  have hX : X 41 = some x41 := rfl
  obtain ⟨tm, h1, h2, h3, h4⟩ := head24 (n := n) (by omega) s
  have g31 : tm[31]'(by omega) = .c (.bool (headB s)) := (List.getElem?_eq_some_iff.1 h4).2
  have g0 : tm[0]'(by omega) = .c (.string s) := (List.getElem?_eq_some_iff.1 h3).2
  have hr1 : exec (call X E n) n x41r1 (start x41 [.c (.string s)] []) = some (.normal, ⟨[.c (.string s), undefV, .c (.bool false)] ++ List.replicate 40 undefV, [], 0, 0⟩) := by
    simp [x41r1, x41, start, exec, runOps, stepO, known, wants, act, pureV, putV, ev, List.replicate]
  generalize (⟨[.c (.string s), undefV, .c (.bool false)] ++ List.replicate 40 undefV, [], 0, 0⟩ : St) = st0 at h1 hr1
  have hbody : ∃ st e, exec (call X E n) n x41.body (start x41 [.c (.string s)] []) = some (e, st) ∧ (e = .ret) ∧ st.tm[2]? = some (.c (.bool (symB s))) ∧ st.base = 0 ∧ st.h = [] := by
    cases hh : headB s with
    | true =>
      rw [hh] at g31
      refine ⟨⟨tm.set 2 (.c (.bool false)), [], 0, 0⟩, .ret, ?_, rfl, by simp [h2, symB, hh], rfl, rfl⟩
      show exec (call X E n) n (.seq x41r1 _) _ = _
      rw [exec, hr1]
      simp [exec, h1, ev, h2, g31, x41r3, runOps, stepO, known, wants, act, pureV, putV]
    | false =>
      rw [hh] at g31
      have hsz := head_size hh
      have hT : S24 s 0 (tm.set 3 (.c (.int .i64 0))) := ⟨by simp [h2], by simp [h2, g0], by simp [h2]⟩
      have hr4 : exec (call X E n) n x41r4 ⟨tm, [], 0, 0⟩ = some (.normal, ⟨tm.set 3 (.c (.int .i64 0)), [], 0, 0⟩) := by
        simp [x41r4, exec, runOps, stepO, known, wants, act, pureV, putV, ev, h2, g0]
      obtain ⟨tm2, k1, k2, k3⟩ := loop24 (n := n) (by omega) hsz s.size 0 n _ (by omega) (by omega) hT
      cases ha : allL s s.size 0 with
      | true =>
        rw [ha] at k1
        refine ⟨⟨tm2.set 2 (.c (.bool true)), [], 0, 0⟩, .ret, ?_, rfl, by simp [k2, symB, hh, ha], rfl, rfl⟩
        show exec (call X E n) n (.seq x41r1 _) _ = _
        rw [exec, hr1]
        simp [exec, h1, ev, h2, g31, hr4, k1, x41r10, runOps, stepO, known, wants, act, pureV, putV]
      | false =>
        rw [ha] at k1
        refine ⟨⟨tm2, [], 0, 0⟩, .ret, ?_, rfl, by rw [k3 ha]; simp [symB, ha], rfl, rfl⟩
        show exec (call X E n) n (.seq x41r1 _) _ = _
        rw [exec, hr1]
        simp [exec, h1, ev, h2, g31, hr4, k1]
  obtain ⟨st, e, hb1, rfl, hb2, hb3, hb4⟩ := hbody
  have hres : x41.res = [.t 2] := rfl
  simp only [call, hE, hX, show x41.asg = none from rfl, runF, show x41.pure = true from rfl, show x41.esc = false from rfl, if_true, List.map_cons, List.map_nil, V.vw2, V.vw1, V.lows, V.low, Bool.and_self, Bool.false_eq_true, if_false, hb1, hres]
  simp [fin, resAll, resV, hb2, hb3, hb4, resOf, V.vw, V.vw2, V.vw1, V.low]
end Go.Proofs.YtkiliokeanmagaaDoor.Ab

namespace Go.Proofs.YtkiliokeanmagaaDoor.Ab
open Go
set_option linter.unusedVariables false
set_option linter.unusedSimpArgs false
inductive D where
  | mk (k n : Int) (t : ByteArray) (l : List D)
mutual
def D.v : D → V
  | .mk k n t l => .agg [.c (.int .i64 k), .c (.int .i64 n), .c (.string t), .sl (D.vs l) .any]
def D.vs : List D → List V
  | [] => []
  | d :: l => d.v :: D.vs l
end
mutual
def D.sz : D → Nat
  | .mk _ _ _ l => 1 + D.szs l
def D.szs : List D → Nat
  | [] => 0
  | d :: l => d.sz + D.szs l
end
mutual
def D.dp : D → Nat
  | .mk _ _ _ l => D.dps l + 1
def D.dps : List D → Nat
  | [] => 0
  | d :: l => max d.dp (D.dps l)
end
def D.kids : D → List D
  | .mk _ _ _ l => l
theorem D.ind {P : D → Prop} (h : ∀ k n t l, (∀ x ∈ l, P x) → P (.mk k n t l)) : ∀ d, P d := by
  have key : ∀ m d, d.sz ≤ m → P d := by
    intro m
    induction m with
    | zero => intro d hd; cases d; simp only [D.sz] at hd; omega
    | succ m ih =>
      intro d hd
      obtain ⟨k, n, t, l⟩ := d
      refine h k n t l fun x hx => ih x ?_
      have : ∀ l : List D, x ∈ l → x.sz ≤ D.szs l := by
        intro l
        induction l with
        | nil => intro h; simp at h
        | cons y l ihl =>
          intro hx
          simp only [D.szs]
          rcases List.mem_cons.1 hx with rfl | hx
          · omega
          · have := ihl hx; omega
      have := this l hx
      simp only [D.sz] at hd
      omega
  exact fun d => key _ d (Nat.le_refl _)
theorem D.vs_map : ∀ l : List D, D.vs l = l.map D.v
  | [] => rfl
  | d :: l => by simp only [D.vs, List.map_cons, D.vs_map l]
theorem D.vs_len (l : List D) : (D.vs l).length = l.length := by simp [D.vs_map]
theorem D.vs_get {l : List D} {j : Nat} (h : j < l.length) : (D.vs l)[j]? = some (l[j]).v := by simp [D.vs_map, h]
theorem D.cells_len (d : D) : d.v.cells.length = 4 := by obtain ⟨k, n, t, l⟩ := d; rfl
theorem D.rd (d : D) : rdV d.v.cells 0 (some 4) = some d.v := by obtain ⟨k, n, t, l⟩ := d; rfl
theorem D.vw2 (d : D) : d.v.vw2 = d.v := by obtain ⟨k, n, t, l⟩ := d; rfl
theorem D.vw (d : D) : d.v.vw = d.v := by obtain ⟨k, n, t, l⟩ := d; rfl
theorem D.low (m : Nat) : ∀ d : D, d.v.low m = true := by
  refine D.ind fun k n t l ih => ?_
  have : V.lows m (D.vs l) = true := by
    rw [D.vs_map]
    refine lows_of fun v hv => ?_
    obtain ⟨d, hd, rfl⟩ := List.mem_map.1 hv
    exact ih d hd
  simp [D.v, V.low, V.lows, this, SI.low]
theorem D.lows (m : Nat) (l : List D) : V.lows m (D.vs l) = true := by
  rw [D.vs_map]
  refine lows_of fun v hv => ?_
  obtain ⟨d, hd, rfl⟩ := List.mem_map.1 hv
  exact D.low m d
theorem D.mem_sz {l : List D} {x : D} (h : x ∈ l) : x.sz ≤ D.szs l := by
  induction l with
  | nil => simp at h
  | cons y l ih =>
    simp only [D.szs]
    rcases List.mem_cons.1 h with rfl | h
    · omega
    · have := ih h; omega
theorem D.sz_pos (d : D) : 1 ≤ d.sz := by cases d; simp only [D.sz]; omega
theorem D.len_szs : ∀ l : List D, l.length ≤ D.szs l
  | [] => Nat.le_refl _
  | d :: l => by have := D.sz_pos d; have := D.len_szs l; simp only [D.szs, List.length_cons]; omega
theorem D.szs_take (l : List D) (j : Nat) (h : j < l.length) : D.szs (l.take (j + 1)) = D.szs (l.take j) + (l[j]).sz := by
  induction l generalizing j with
  | nil => simp at h
  | cons d l ih =>
    cases j with
    | zero => simp [D.szs]
    | succ j =>
      simp only [List.take_succ_cons, D.szs, List.getElem_cons_succ]
      rw [ih j (by simpa using h)]
      omega
theorem D.szs_take_le (l : List D) (j : Nat) : D.szs (l.take j) ≤ D.szs l := by
  induction l generalizing j with
  | nil => simp
  | cons d l ih =>
    cases j with
    | zero => simp [D.szs]
    | succ j => simp only [List.take_succ_cons, D.szs]; have := ih j; omega
theorem D.vs_getE {l : List D} {j : Nat} (h : j < (D.vs l).length) : (D.vs l)[j] = (l[j]'(by rwa [D.vs_len] at h)).v := by
  have := D.vs_get (l := l) (j := j) (by rwa [D.vs_len] at h)
  rw [List.getElem?_eq_getElem h] at this
  simpa using this
theorem D.okc (d : D) : Ab.okc d.v = true := by obtain ⟨k, n, t, l⟩ := d; rfl
theorem D.spl (a b c e : V) (d : D) : splice [a, b, c, e] 0 d.v.cells = d.v.cells := by obtain ⟨k, n, t, l⟩ := d; rfl
theorem D.spl2 (d' d : D) : splice d'.v.cells 0 d.v.cells = d.v.cells := by obtain ⟨k, n, t, l⟩ := d; obtain ⟨k', n', t', l'⟩ := d'; rfl
theorem wrap_in {a : Int} (h : -9223372036854775808 ≤ a ∧ a ≤ 9223372036854775807) : IntKind.i64.wrap a = a := by
  rw [IntWalk.i64_left]
  exact IntWalk.wrap64_in a h
def Gives (n f : Nat) (args : List V) (r : V) : Prop := ∀ h : List O, call X E n f args h = some (r, h)
theorem gives_of {n f k : Nat} {xf : XF} {args : List V} {r : V} (hE : E f = none) (hX : X f = some xf) (hk : args.length = k) (hx : xfOk xf k = true) (hp : xf.pure = true ∧ xf.esc = false) (hl : V.lows 0 (args.map V.vw2) = true)
    (hw : wpk (call X E n) n xf.body [] (Fin (fun vs _ => (resOf vs).vw = r ∧ r.low 0 = true) xf) ⟨arg0 (args.map V.vw2), [], 0, 0⟩) (ha : xf.asg = none := by rfl) : Gives (n + 1) f args r := by
  intro h
  simp only [call, hE, hX, ha]
  subst hk
  exact runF_pure hx hp.1 hp.2 hl hw
theorem gives_nil {n f : Nat} {args : List V} {r : V} {h0 : List O} (hf : pfl f = 1) (h : call X E n f args [] = some (r, h0)) : Gives n f args r := by
  intro hh
  have := ((call_ok ext_ok laid yc_all pures mixed n).2 f args [] r h0 h).1 hf
  exact this.2 hh (fun id o _ e => by simp at e)
end Go.Proofs.YtkiliokeanmagaaDoor.Ab

namespace Go.Proofs.YtkiliokeanmagaaDoor.Ab
open Go
set_option linter.unusedVariables false
set_option linter.unusedSimpArgs false
set_option maxRecDepth 4000
set_option maxHeartbeats 1000000
structure I18 (l : List D) (k n : Int) (t : ByteArray) (m : Nat) (s : SF) : Prop where
  j : ∃ j : Nat, j + m = l.length ∧ s.e 4 = .c (.int .i64 j) ∧ s.e 3 = .c (.int .i64 (1 + D.szs (l.take j) : Nat))
  e1 : s.e 1 = .ref 0 0
  h : s.h = [.cells [.c (.int .i64 k), .c (.int .i64 n), .c (.string t), .sl (D.vs l) .any]]
  b : s.base = 0
theorem step18 {cf : CallF} {fu : Nat} {l : List D} {k n : Int} {t : ByteArray} (hl : D.szs l < 4611686018427387904) (hc : ∀ x ∈ l, ∀ h, cf 49 [x.v] h = some (.c (.int .i64 x.sz), h)) {Q : Ex → SF → Prop}
    (hQ : ∀ s, s.e 3 = .c (.int .i64 (1 + D.szs l : Nat)) → s.base = 0 → s.h = [.cells [.c (.int .i64 k), .c (.int .i64 n), .c (.string t), .sl (D.vs l) .any]] → Q (.exit 0) s) (m : Nat) (s : SF) (I : I18 l k n t m s) :
    wpk cf fu x49l7 [] (fun e s' => match e with | .normal => ∃ k', k' < m ∧ I18 l k n t k' s' | e => Q e s') s := by
  obtain ⟨⟨j, hj, e4, e3⟩, e1, hh, hb⟩ := I
  obtain ⟨e, h, base, rb⟩ := s
  simp only at e4 e3 e1 hh hb
  subst hh hb
  have hlen := D.len_szs l
  by_cases hm : j < l.length
  · have hlt : (j : Int) < l.length := by omega
    have hg := D.vs_get hm
    have hx := hc _ (List.getElem_mem hm)
    have hs := D.szs_take l j hm
    have hs2 := D.szs_take_le l (j + 1)
    simp -implicitDefEqProofs [x49l7_w, x49r4_w, x49r5_w, x49r6_w, e1, e3, e4, D.vs_len, hlt, hm, D.vs_getE, D.cells_len, D.rd, hx]
    refine ⟨m - 1, by omega, ⟨⟨j + 1, by omega, ?_, ?_⟩, ?_, rfl, rfl⟩⟩
    · simp only [upd_at, e4]
      simp
      rw [wrap_in (by omega)]
    · simp only [upd_at, e3]
      simp
      rw [wrap_in (by omega), hs]
      omega
    · simp [upd_at, e1]
  · have hlt : ¬ (j : Int) < l.length := by omega
    have hj2 : j = l.length := by omega
    simp -implicitDefEqProofs [x49l7_w, x49r4_w, x49r5_w, x49r6_w, e1, e3, e4, D.vs_len, hlt]
    refine hQ _ ?_ rfl rfl
    simp only [upd_at, e3, hj2, List.take_length]
    simp
theorem run18 : ∀ d : D, d.sz < 4611686018427387904 → ∀ n, 2 * d.sz + 2 ≤ n → Gives n 49 [d.v] (.c (.int .i64 d.sz)) := by
  refine D.ind fun k n t l ih hs m hm => ?_
  simp only [D.sz] at hs hm
  obtain ⟨m, rfl⟩ : ∃ m', m = m' + 1 := ⟨m - 1, by omega⟩
  have hlen := D.len_szs l
  refine gives_of rfl rfl rfl (by kernel_rfl) ⟨rfl, rfl⟩ (by simp [D.vw2, V.lows, D.low]) ?_
  simp -implicitDefEqProofs [x49_w, x49_r, x49r1_w, x49r2_w, x49r3_w, D.vw2, D.v]
  refine lpk_of (I18 l k n t) l.length (by omega) ⟨⟨0, by simp, ?_, ?_⟩, ?_, rfl, rfl⟩ ?_
  · simp [upd_at]
  · simp [upd_at, D.szs]
  · simp [upd_at]
  · refine step18 (by omega) (fun x hx h => ih x hx (by have := D.mem_sz hx; omega) m (by have := D.mem_sz hx; omega) h) fun s h3 hb hh => ?_
    obtain ⟨e, h, base, rb⟩ := s
    simp only at h3 hb hh
    subst hb hh
    simp -implicitDefEqProofs [x49_r, x49r8_w, h3, D.sz]
theorem D.dps_take (l : List D) (j : Nat) (h : j < l.length) : D.dps (l.take (j + 1)) = max (D.dps (l.take j)) (l[j]).dp := by
  induction l generalizing j with
  | nil => simp at h
  | cons d l ih =>
    cases j with
    | zero => simp [D.dps]
    | succ j =>
      simp only [List.take_succ_cons, D.dps, List.getElem_cons_succ]
      rw [ih j (by simpa using h)]
      omega
theorem D.dps_le : ∀ l : List D, (∀ x ∈ l, x.dp ≤ x.sz) → D.dps l ≤ D.szs l
  | [], _ => Nat.le_refl _
  | d :: l, h => by
    have h1 := h d (by simp)
    have h2 := D.dps_le l (fun x hx => h x (by simp [hx]))
    simp only [D.dps, D.szs]
    omega
theorem D.dp_le : ∀ d : D, d.dp ≤ d.sz := by
  refine D.ind fun k n t l ih => ?_
  have := D.dps_le l ih
  simp only [D.dp, D.sz]
  omega
theorem D.dps_le' (l : List D) : D.dps l ≤ D.szs l := D.dps_le l fun x _ => D.dp_le x
structure I20 (l : List D) (k n : Int) (t : ByteArray) (m : Nat) (s : SF) : Prop where
  j : ∃ j : Nat, j + m = l.length ∧ s.e 4 = .c (.int .i64 j) ∧ s.e 3 = .c (.int .i64 (D.dps (l.take j)))
  e1 : s.e 1 = .ref 0 0
  h : s.h = [.cells [.c (.int .i64 k), .c (.int .i64 n), .c (.string t), .sl (D.vs l) .any]]
  b : s.base = 0
theorem step20 {cf : CallF} {fu : Nat} {l : List D} {k n : Int} {t : ByteArray} (hl : D.szs l < 4611686018427387904) (hc : ∀ x ∈ l, ∀ h, cf 50 [x.v] h = some (.c (.int .i64 x.dp), h)) {Q : Ex → SF → Prop}
    (hQ : ∀ s, s.e 3 = .c (.int .i64 (D.dps l)) → s.base = 0 → s.h = [.cells [.c (.int .i64 k), .c (.int .i64 n), .c (.string t), .sl (D.vs l) .any]] → Q (.exit 0) s) (m : Nat) (s : SF) (I : I20 l k n t m s) :
    wpk cf fu x50l7 [] (fun e s' => match e with | .normal => ∃ k', k' < m ∧ I20 l k n t k' s' | e => Q e s') s := by
  obtain ⟨⟨j, hj, e4, e3⟩, e1, hh, hb⟩ := I
  obtain ⟨e, h, base, rb⟩ := s
  simp only at e4 e3 e1 hh hb
  subst hh hb
  have hlen := D.len_szs l
  by_cases hm : j < l.length
  · have hlt : (j : Int) < l.length := by omega
    have hx := hc _ (List.getElem_mem hm)
    have hs := D.dps_take l j hm
    simp -implicitDefEqProofs [x50l7_w, x50r4_w, x50r5_w, x50r6_w, e1, e3, e4, D.vs_len, hlt, hm, D.vs_getE, D.cells_len, D.rd, hx]
    refine ⟨m - 1, by omega, ⟨⟨j + 1, by omega, ?_, ?_⟩, ?_, rfl, rfl⟩⟩
    · simp only [upd_at, e4]
      simp
      rw [wrap_in (by omega)]
    · simp only [upd_at, e3]
      simp
      rw [hs]
      split <;> omega
    · simp [upd_at, e1]
  · have hlt : ¬ (j : Int) < l.length := by omega
    have hj2 : j = l.length := by omega
    simp -implicitDefEqProofs [x50l7_w, x50r4_w, x50r5_w, x50r6_w, e1, e3, e4, D.vs_len, hlt]
    refine hQ _ ?_ rfl rfl
    simp only [upd_at, e3, hj2, List.take_length]
    simp
theorem run20 : ∀ d : D, d.sz < 4611686018427387904 → ∀ n, 2 * d.sz + 2 ≤ n → Gives n 50 [d.v] (.c (.int .i64 d.dp)) := by
  refine D.ind fun k n t l ih hs m hm => ?_
  simp only [D.sz] at hs hm
  obtain ⟨m, rfl⟩ : ∃ m', m = m' + 1 := ⟨m - 1, by omega⟩
  have hlen := D.len_szs l
  have hdl := D.dps_le' l
  refine gives_of rfl rfl rfl (by kernel_rfl) ⟨rfl, rfl⟩ (by simp [D.vw2, V.lows, D.low]) ?_
  simp -implicitDefEqProofs [x50_w, x50_r, x50r1_w, x50r2_w, x50r3_w, D.vw2, D.v]
  refine lpk_of (I20 l k n t) l.length (by omega) ⟨⟨0, by simp, ?_, ?_⟩, ?_, rfl, rfl⟩ ?_
  · simp [upd_at]
  · simp [upd_at, D.dps]
  · simp [upd_at]
  · refine step20 (by omega) (fun x hx h => ih x hx (by have := D.mem_sz hx; omega) m (by have := D.mem_sz hx; omega) h) fun s h3 hb hh => ?_
    obtain ⟨e, h, base, rb⟩ := s
    simp only at h3 hb hh
    subst hb hh
    simp -implicitDefEqProofs [x50_r, x50r8_w, h3, D.dp]
    rw [wrap_in (by omega)]
mutual
def D.fm : D → Bool
  | .mk k n t l => if k = 1 then empB t && l.length == 0 else if k = 2 then n == 0 && symB t && l.length == 0 else if k = 3 then D.fms l && n == 0 && empB t else false
def D.fms : List D → Bool
  | [] => true
  | d :: l => d.fm && D.fms l
end
theorem D.fms_all : ∀ l : List D, D.fms l = l.all D.fm
  | [] => rfl
  | d :: l => by simp only [D.fms, List.all_cons, D.fms_all l]
theorem D.fms_take (l : List D) (j : Nat) (h : j < l.length) : D.fms (l.take (j + 1)) = (D.fms (l.take j) && (l[j]).fm) := by
  induction l generalizing j with
  | nil => simp at h
  | cons d l ih =>
    cases j with
    | zero => simp [D.fms]
    | succ j =>
      simp only [List.take_succ_cons, D.fms, List.getElem_cons_succ]
      rw [ih j (by simpa using h), Bool.and_assoc]
theorem D.fms_false {l : List D} {j : Nat} (h : j < l.length) (hf : (l[j]).fm = false) : D.fms l = false := by
  rw [D.fms_all, List.all_eq_false]
  exact ⟨_, List.getElem_mem h, by simp [hf]⟩
structure I44 (l : List D) (k n : Int) (t : ByteArray) (m : Nat) (s : SF) : Prop where
  j : ∃ j : Nat, j + m = l.length ∧ s.e 3 = .c (.int .i64 j) ∧ D.fms (l.take j) = true
  e1 : s.e 1 = .ref 0 0
  h : s.h = [.cells [.c (.int .i64 k), .c (.int .i64 n), .c (.string t), .sl (D.vs l) .any]]
  b : s.base = 0
theorem step44 {cf : CallF} {fu : Nat} {l : List D} {k n : Int} {t : ByteArray} (hl : D.szs l < 4611686018427387904) (hc : ∀ x ∈ l, ∀ h, cf 48 [x.v] h = some (.c (.bool x.fm), h)) {Q : Ex → SF → Prop}
    (hQ : ∀ s, D.fms l = true → s.e 1 = .ref 0 0 → s.base = 0 → s.h = [.cells [.c (.int .i64 k), .c (.int .i64 n), .c (.string t), .sl (D.vs l) .any]] → Q (.exit 1) s)
    (hR : ∀ s, D.fms l = false → s.e 2 = .c (.bool false) → s.base = 0 → s.h = [.cells [.c (.int .i64 k), .c (.int .i64 n), .c (.string t), .sl (D.vs l) .any]] → Q .ret s) (m : Nat) (s : SF) (I : I44 l k n t m s) :
    wpk cf fu x48l13 [] (fun e s' => match e with | .normal => ∃ k', k' < m ∧ I44 l k n t k' s' | e => Q e s') s := by
  obtain ⟨⟨j, hj, e3, hf⟩, e1, hh, hb⟩ := I
  obtain ⟨e, h, base, rb⟩ := s
  simp only at e3 e1 hh hb
  subst hh hb
  have hlen := D.len_szs l
  by_cases hm : j < l.length
  · have hlt : (j : Int) < l.length := by omega
    have hx := hc _ (List.getElem_mem hm)
    have hs := D.fms_take l j hm
    cases hfm : (l[j]).fm with
    | true =>
      rw [hfm] at hx
      simp -implicitDefEqProofs [x48l13_w, x48r9_w, x48r10_w, x48r11_w, x48r12_w, e1, e3, D.vs_len, hlt, hm, D.vs_getE, D.cells_len, D.rd, hx]
      refine ⟨m - 1, by omega, ⟨⟨j + 1, by omega, ?_, ?_⟩, ?_, rfl, rfl⟩⟩
      · simp only [upd_at, e3]
        simp
        rw [wrap_in (by omega)]
      · rw [hs, hf, hfm]; rfl
      · simp [upd_at, e1]
    | false =>
      rw [hfm] at hx
      simp -implicitDefEqProofs [x48l13_w, x48r9_w, x48r10_w, x48r11_w, x48r12_w, e1, e3, D.vs_len, hlt, hm, D.vs_getE, D.cells_len, D.rd, hx]
      refine hR _ (D.fms_false hm hfm) ?_ rfl rfl
      simp [upd_at]
  · have hlt : ¬ (j : Int) < l.length := by omega
    have hj2 : j = l.length := by omega
    simp -implicitDefEqProofs [x48l13_w, x48r9_w, x48r10_w, x48r11_w, x48r12_w, e1, e3, D.vs_len, hlt]
    refine hQ _ ?_ ?_ rfl rfl
    · rw [hj2, List.take_length] at hf; exact hf
    · simp [upd_at, e1]
theorem run44 : ∀ d : D, d.sz < 4611686018427387904 → ∀ n, 2 * d.sz + 62 ≤ n → Gives n 48 [d.v] (.c (.bool d.fm)) := by
  refine D.ind fun k n t l ih hs m hm => ?_
  simp only [D.sz] at hs hm
  obtain ⟨m, rfl⟩ : ∃ m', m = m' + 1 := ⟨m - 1, by omega⟩
  have hlen := D.len_szs l
  have hsy : Gives m 41 [.c (.string t)] (.c (.bool (symB t))) := gives_nil rfl (up (by omega) (sym24 (n := 60) (by omega) t))
  refine gives_of rfl rfl rfl (by kernel_rfl) ⟨rfl, rfl⟩ (by simp [D.vw2, V.lows, D.low]) ?_
  have hsy' : ∀ h, call X E m 41 [.c (.string t)] h = some (.c (.bool (symB t)), h) := hsy
  by_cases h1 : k = 1
  · subst h1
    cases ht : empB t <;> cases h0 : (l.length == 0) <;>
      simp -implicitDefEqProofs [x48_w, x48_r, x48r1_w, x48r2_w, x48r3_w, x48r4_w, D.vw2, D.v, ht, D.vs_len, h0, D.fm]
  · by_cases h2 : k = 2
    · subst h2
      cases hn : (n == 0) <;> cases hy : symB t <;> cases h0 : (l.length == 0) <;> rw [hy] at hsy' <;>
        simp -implicitDefEqProofs [x48_w, x48_r, x48r1_w, x48r2_w, x48r3_w, x48r4_w, x48r5_w, x48r6_w, D.vw2, D.v, hn, hsy', D.vs_len, h0, D.fm, hy]
    · by_cases h3 : k = 3
      · subst h3
        simp -implicitDefEqProofs [x48_w, x48_r, x48r1_w, x48r2_w, x48r3_w, x48r4_w, x48r5_w, x48r6_w, x48r7_w, x48r8_w, D.vw2, D.v]
        refine lpk_of (I44 l 3 n t) l.length (by omega) ⟨⟨0, by simp, ?_, ?_⟩, ?_, rfl, rfl⟩ ?_
        · simp [upd_at]
        · simp [D.fms]
        · simp [upd_at]
        · refine step44 (by omega) (fun x hx h => ih x hx (by have := D.mem_sz hx; omega) m (by have := D.mem_sz hx; omega) h) (fun s hf h1 hb hh => ?_) fun s hf h2 hb hh => ?_
          · obtain ⟨e, h, base, rb⟩ := s
            simp only at h1 hb hh
            subst hb hh
            cases ht : empB t <;> cases hn : (n == 0) <;>
              simp -implicitDefEqProofs [x48_r, x48r14_w, h1, hn, ht, D.fm, hf]
          · obtain ⟨e, h, base, rb⟩ := s
            simp only at h2 hb hh
            subst hb hh
            simp -implicitDefEqProofs [x48_r, h2, D.fm, hf]
      · have b1 : (k == 1) = false := by simpa using h1
        have b2 : (k == 2) = false := by simpa using h2
        have b3 : (k == 3) = false := by simpa using h3
        simp -implicitDefEqProofs [b1, b2, b3, x48_w, x48_r, x48r1_w, x48r2_w, x48r3_w, x48r5_w, x48r7_w, x48r15_w, D.vw2, D.v, h1, h2, h3, D.fm]
def D.ck (d : D) : Int := if d.fm = false then 4 else if d.sz > 100000 ∨ d.dp > 1000 then 3 else 0
theorem run16 (d : D) (hs : d.sz < 4611686018427387904) (n : Nat) (hn : 2 * d.sz + 63 ≤ n) : Gives n 20 [d.v] (.c (.int .i64 d.ck)) := by
  obtain ⟨m, rfl⟩ : ∃ m', n = m' + 1 := ⟨n - 1, by omega⟩
  have c1 : ∀ h, call X E m 48 [d.v] h = some (.c (.bool d.fm), h) := run44 d hs m (by omega)
  have c2 : ∀ h, call X E m 49 [d.v] h = some (.c (.int .i64 d.sz), h) := run18 d hs m (by omega)
  have c3 : ∀ h, call X E m 50 [d.v] h = some (.c (.int .i64 d.dp), h) := run20 d hs m (by omega)
  refine gives_of rfl rfl rfl (by kernel_rfl) ⟨rfl, rfl⟩ (by simp [D.vw2, V.lows, D.low]) ?_
  cases hf : d.fm with
  | false =>
    rw [hf] at c1
    simp -implicitDefEqProofs [x20_w, x20_r, x20r1_w, x20r2_w, x20r3_w, D.vw2, D.okc, D.rd, c1, D.ck, hf]
  | true =>
    rw [hf] at c1
    by_cases h1 : d.sz > 100000
    · have h1' : (100000 : Int) < d.sz := by omega
      simp -implicitDefEqProofs [x20_w, x20_r, x20r1_w, x20r2_w, x20r3_w, x20r4_w, x20r5_w, D.vw2, D.okc, D.rd, c1, c2, h1', D.ck, hf, h1]
    · have h1' : ¬ (100000 : Int) < d.sz := by omega
      by_cases h2 : d.dp > 1000
      · have h2' : (1000 : Int) < d.dp := by omega
        simp -implicitDefEqProofs [x20_w, x20_r, x20r1_w, x20r2_w, x20r3_w, x20r4_w, x20r5_w, D.vw2, D.okc, D.rd, c1, c2, c3, h1', h2', D.ck, hf, h1, h2]
      · have h2' : ¬ (1000 : Int) < d.dp := by omega
        simp -implicitDefEqProofs [x20_w, x20_r, x20r1_w, x20r2_w, x20r3_w, x20r4_w, x20r5_w, x20r6_w, D.vw2, D.okc, D.rd, c1, c2, c3, h1', h2', D.ck, hf, h1, h2]
def lowH (h : List O) : Prop := h.all (O.low h.length) = true
def GivesL (n f : Nat) (args : List V) (r : V) : Prop := ∀ h : List O, lowH h → call X E n f args h = some (r, h)
theorem givesL_of {n f k : Nat} {xf : XF} {args : List V} {r : V} (hE : E f = none) (hX : X f = some xf) (hk : args.length = k) (hx : xfOk xf k = true) (hp : xf.pure = false ∧ xf.esc = false) (hr : r.low 0 = true)
    (hw : ∀ h, lowH h → wpk (call X E n) n xf.body [] (Fin (fun vs s => (resOf vs).vw = r ∧ s.take h.length = h) xf) ⟨arg0 (args.map V.vw2), h, h.length, 0⟩) (ha : xf.asg = none := by rfl) : GivesL (n + 1) f args r := by
  intro h hh
  simp only [call, hE, hX, ha]
  subst hk
  refine runF_at hx hp.1 hp.2 (wpx_imp _ (fun e s hq => ?_) (wpk_of (hw h hh)))
  have hrl : ∀ m, r.low m = true := fun m => by
    have := low_mono (Nat.zero_le m) r hr
    exact this
  cases e with
  | exit id => exact hq
  | normal => exact bindO_imp (fun vs hv => ⟨hv.1, hrl _, hv.2, hh⟩) hq
  | ret => exact bindO_imp (fun vs hv => ⟨hv.1, hrl _, hv.2, hh⟩) hq
def D.bad : List D → Nat → Int
  | [], _ => -1
  | d :: l, j => if d.fm then D.bad l (j + 1) else j
theorem D.bad_fms : ∀ (l : List D) (j : Nat), (decide (D.bad l j ≥ 0)) = !D.fms l
  | [], j => by simp [D.bad, D.fms]
  | d :: l, j => by
    have := D.bad_fms l (j + 1)
    simp only [D.bad, D.fms]
    by_cases hf : d.fm = true
    · simpa [hf] using this
    · simp [hf]
theorem run71 {m : Nat} {d : D} {b : Bool} (hc : Gives m 61 [d.v] (.c (.bool b))) : GivesL (m + 1) 79 [d.v] (.c (.bool !b)) := by
  have hc' : ∀ h, call X E m 61 [d.v] h = some (.c (.bool b), h) := hc
  refine givesL_of rfl rfl rfl (by kernel_rfl) ⟨rfl, rfl⟩ (by simp [V.low]) fun h hh => ?_
  simp -implicitDefEqProofs [x79_w, x79_r, x79r1_w, x79r2_w, D.vw2, D.okc, D.rd, set_last, get_last, hc']
structure I77 (l : List D) (g : List O) (m : Nat) (s : SF) : Prop where
  j : ∃ j : Nat, j + m = l.length ∧ s.e 8 = .c (.int .i64 j) ∧ D.bad l 0 = D.bad (l.drop j) j
  e0 : s.e 0 = .sl (D.vs l) .any
  e1 : s.e 1 = .c (.func (.func 79) #[] #[])
  e7 : s.e 7 = .c (.int .i64 l.length)
  h : s.h = g
  b : s.base = g.length
theorem step77 {n fu : Nat} {l : List D} {h : List O} (hh : lowH h) (hl : l.length < 4611686018427387904) (hc : ∀ x ∈ l, GivesL n 79 [x.v] (.c (.bool !x.fm))) {Q : Ex → SF → Prop}
    (hQ : ∀ s, D.bad l 0 = -1 → s.h = h → s.base = h.length → Q (.exit 0) s) (hR : ∀ s, s.e 4 = .c (.int .i64 (D.bad l 0)) → s.h = h → s.base = h.length → Q .ret s) (m : Nat) (s : SF) (I : I77 l h m s) :
    wpk (call X E n) fu x88l8 [] (fun e s' => match e with | .normal => ∃ k', k' < m ∧ I77 l h k' s' | e => Q e s') s := by
  obtain ⟨⟨j, hj, e8, hb⟩, e0, e1, e7, hh', hbs⟩ := I
  obtain ⟨e, h', base, rb⟩ := s
  simp only at e8 e0 e1 e7 hh' hbs
  subst hh' hbs
  by_cases hm : j < l.length
  · have hlt : (j : Int) < l.length := by omega
    have hx := hc _ (List.getElem_mem hm) h' hh
    have hd : l.drop j = l[j] :: l.drop (j + 1) := List.drop_eq_getElem_cons hm
    cases hf : (l[j]).fm with
    | true =>
      rw [hf] at hx
      simp -implicitDefEqProofs [x88l8_w, x88r3_w, x88r4_w, x88r5_w, x88r6_w, x88r7_w, e0, e1, e7, e8, D.vs_len, hlt, hm, D.vs_getE, D.cells_len, D.rd, hx]
      refine ⟨m - 1, by omega, ⟨⟨j + 1, by omega, ?_, ?_⟩, ?_, ?_, ?_, rfl, rfl⟩⟩
      · simp only [upd_at, e8]
        simp
        rw [wrap_in (by omega)]
      · rw [hb, hd, D.bad, hf]; rfl
      · simp [upd_at, e0]
      · simp [upd_at, e1]
      · simp [upd_at, e7]
    | false =>
      rw [hf] at hx
      simp -implicitDefEqProofs [x88l8_w, x88r3_w, x88r4_w, x88r5_w, x88r6_w, x88r7_w, e0, e1, e7, e8, D.vs_len, hlt, hm, D.vs_getE, D.cells_len, D.rd, hx]
      refine hR _ ?_ rfl rfl
      rw [hb, hd, D.bad, hf]
      simp [upd_at, e8]
  · have hlt : ¬ (j : Int) < l.length := by omega
    have hj2 : j = l.length := by omega
    simp -implicitDefEqProofs [x88l8_w, x88r3_w, x88r4_w, x88r5_w, x88r6_w, x88r7_w, e0, e1, e7, e8, D.vs_len, hlt]
    refine hQ _ ?_ rfl rfl
    rw [hb, hj2, List.drop_length, D.bad]
theorem run77 {n : Nat} {l : List D} (hl : l.length < 4611686018427387904) (hn : l.length < n) (hc : ∀ x ∈ l, GivesL n 79 [x.v] (.c (.bool !x.fm))) :
    GivesL (n + 1) 88 [.sl (D.vs l) .any, .c (.func (.func 79) #[] #[])] (.c (.int .i64 (D.bad l 0))) := by
  refine givesL_of rfl rfl rfl (by kernel_rfl) ⟨rfl, rfl⟩ (by simp [V.low]) fun h hh => ?_
  simp -implicitDefEqProofs [x88_w, x88_r, x88r1_w, x88r2_w, D.vs_len]
  refine lpk_of (I77 l h) l.length hn ⟨⟨0, by simp, ?_, ?_⟩, ?_, ?_, ?_, rfl, rfl⟩ ?_
  · simp [upd_at]
  · simp
  · simp [upd_at, arg0]
  · simp [upd_at, arg0]
  · simp [upd_at]
  · refine step77 hh hl hc (fun s h1 h2 h3 => ?_) fun s h1 h2 h3 => ?_
    · obtain ⟨e, h', base, rb⟩ := s
      simp only at h2 h3
      subst h2 h3
      simp -implicitDefEqProofs [x88_r, x88r9_w, h1]
    · obtain ⟨e, h', base, rb⟩ := s
      simp only at h1 h2 h3
      subst h2 h3
      simp -implicitDefEqProofs [x88_r, h1]
theorem run70 {n : Nat} {l : List D} (hc : GivesL n 88 [.sl (D.vs l) .any, .c (.func (.func 79) #[] #[])] (.c (.int .i64 (D.bad l 0)))) :
    GivesL (n + 1) 78 [.sl (D.vs l) .any, .c (.func (.func 79) #[] #[])] (.c (.bool !D.fms l)) := by
  refine givesL_of rfl rfl rfl (by kernel_rfl) ⟨rfl, rfl⟩ (by simp [V.low]) fun h hh => ?_
  have h1 := hc h hh
  have h2 := D.bad_fms l 0
  simp -implicitDefEqProofs [x78_w, x78_r, x78r1_w, x78r2_w, h1]
  simpa using h2
theorem run43 : ∀ d : D, d.sz < 4611686018427387904 → ∀ n, 4 * d.sz + 62 ≤ n → Gives n 61 [d.v] (.c (.bool d.fm)) := by
  refine D.ind fun k n t l ih hs m hm => ?_
  simp only [D.sz] at hs hm
  obtain ⟨m, rfl⟩ : ∃ m', m = m' + 4 := ⟨m - 4, by omega⟩
  have hlen := D.len_szs l
  have hsy : ∀ h, call X E (m + 3) 40 [.c (.string t)] h = some (.c (.bool (symB t)), h) := gives_nil (n := m + 3) rfl (up (by omega) (sym23 (n := 60) (by omega) t))
  have h71 : ∀ x ∈ l, GivesL (m + 1) 79 [x.v] (.c (.bool !x.fm)) := fun x hx => run71 (ih x hx (by have := D.mem_sz hx; omega) m (by have := D.mem_sz hx; omega))
  have h70 := run70 (run77 (n := m + 1) (l := l) (by omega) (by omega) h71)
  have h70' := h70 [.cells [.c (.int .i64 k), .c (.int .i64 n), .c (.string t), .sl (D.vs l) .any]] (by simp [lowH, O.low, V.lows, V.low, D.lows, SI.low])
  refine gives_of rfl rfl rfl (by kernel_rfl) ⟨rfl, rfl⟩ (by simp [D.vw2, V.lows, D.low]) ?_
  by_cases h1 : k = 1
  · subst h1
    cases ht : empB t <;> cases h0 : (l.length == 0) <;>
      simp -implicitDefEqProofs [x61_w, x61_r, x61r1_w, x61r2_w, x61r3_w, x61r4_w, D.vw2, D.v, ht, D.vs_len, h0, D.fm]
  · by_cases h2 : k = 2
    · subst h2
      cases hn : (n == 0) <;> cases hy : symB t <;> cases h0 : (l.length == 0) <;> rw [hy] at hsy <;>
        simp -implicitDefEqProofs [x61_w, x61_r, x61r1_w, x61r2_w, x61r3_w, x61r4_w, x61r5_w, x61r6_w, D.vw2, D.v, hn, hsy, D.vs_len, h0, D.fm, hy]
    · by_cases h3 : k = 3
      · subst h3
        cases hn : (n == 0) <;> cases ht : empB t <;> cases hf : D.fms l <;> rw [hf] at h70' <;>
          simp -implicitDefEqProofs [x61_w, x61_r, x61r1_w, x61r2_w, x61r3_w, x61r4_w, x61r5_w, x61r6_w, x61r7_w, x61r8_w, D.vw2, D.v, hn, ht, h70', D.fm, hf]
      · have b1 : (k == 1) = false := by simpa using h1
        have b2 : (k == 2) = false := by simpa using h2
        have b3 : (k == 3) = false := by simpa using h3
        simp -implicitDefEqProofs [b1, b2, b3, x61_w, x61_r, x61r1_w, x61r2_w, x61r3_w, x61r5_w, x61r7_w, x61r9_w, D.vw2, D.v, h1, h2, h3, D.fm]
mutual
def D.pre : D → List Int → List (D × List Int)
  | .mk k n t l, ps => (.mk k n t l, ps) :: D.pres l ps 0
def D.pres : List D → List Int → Nat → List (D × List Int)
  | [], _, _ => []
  | d :: l, ps, i => d.pre (ps ++ [(i : Int)]) ++ D.pres l ps (i + 1)
end
def walk (Y : D → List Int → List O → Option (Bool × List O)) : List (D × List Int) → List O → Option (Bool × List O)
  | [], h => some (true, h)
  | (x, q) :: r, h => match Y x q h with
    | some (true, h') => walk Y r h'
    | some (false, h') => some (false, h')
    | none => none
def andThen (r : Option (Bool × List O)) (f : List O → Option (Bool × List O)) : Option (Bool × List O) := match r with
  | some (true, h) => f h
  | some (false, h) => some (false, h)
  | none => none
theorem walk_app (Y : D → List Int → List O → Option (Bool × List O)) : ∀ (a b : List (D × List Int)) (h : List O), walk Y (a ++ b) h = andThen (walk Y a h) (walk Y b)
  | [], b, h => rfl
  | (x, q) :: a, b, h => by
    simp only [List.cons_append, walk]
    cases Y x q h with
    | none => rfl
    | some r =>
      obtain ⟨c, h'⟩ := r
      cases c with
      | true => exact walk_app Y a b h'
      | false => rfl
theorem walk_len {cf : CallF} {f : Nat} {caps : List V} : ∀ (a : List (D × List Int)) {h : List O} {b : Bool} {h' : List O}, walk (fun x q h => yieldV cf f caps x.v q h) a h = some (b, h') → h'.length = h.length
  | [], h, b, h', e => by simp only [walk, Option.some.injEq, Prod.mk.injEq] at e; rw [e.2]
  | (x, q) :: a, h, b, h', e => by
    simp only [walk] at e
    split at e
    · rename_i h1 e1
      rw [walk_len a e, (yieldV_spec e1).2.1]
    · rename_i h1 e1
      simp only [Option.some.injEq, Prod.mk.injEq] at e
      rw [← e.2, (yieldV_spec e1).2.1]
    · cases e
theorem each_walk {cf : CallF} {f : Nat} {caps : List V} : ∀ (d : D) (k : Nat) (ps : List Int) (h : List O), d.sz ≤ k → d.sz + ps.length ≤ 1099511627776 → V.lows h.length caps = true →
    eachV cf f caps k d.v ps h = walk (fun x q h => yieldV cf f caps x.v q h) (d.pre ps) h := by
  refine D.ind fun k n t l ih => ?_
  intro fu ps h hk hp hc
  simp only [D.sz] at hk hp
  obtain ⟨fu, rfl⟩ : ∃ m', fu = m' + 1 := ⟨fu - 1, by omega⟩
  have hlen := D.len_szs l
  have hall : (D.vs l).all (fun u => u.cells.length == 4 && V.low h.length u) = true := by
    rw [D.vs_map, List.all_eq_true]
    intro u hu
    obtain ⟨d, _, rfl⟩ := List.mem_map.1 hu
    simp [D.cells_len, D.low]
  have hL : ∀ (us : List D) (i : Nat) (h1 : List O), (∀ x ∈ us, x ∈ l) → h1.length = h.length → eachL (eachV cf f caps fu) ps i (D.vs us) h1 = walk (fun x q h => yieldV cf f caps x.v q h) (D.pres us ps i) h1 := by
    intro us
    induction us with
    | nil => intro i h1 _ _; rfl
    | cons u us ihu =>
      intro i h1 hm hl
      have hu := hm u (by simp)
      have hus := D.mem_sz hu
      have hsz := D.sz_pos u
      simp only [D.vs, eachL, D.pres, walk_app]
      rw [ih u hu fu (ps ++ [(i : Int)]) h1 (by omega) (by simp; omega) (by rw [hl]; exact hc)]
      cases hw : walk (fun x q h => yieldV cf f caps x.v q h) (u.pre (ps ++ [(i : Int)])) h1 with
      | none => rfl
      | some r =>
        obtain ⟨b, h2⟩ := r
        cases b with
        | true => exact ihu (i + 1) h2 (fun x hx => hm x (by simp [hx])) ((walk_len _ hw).trans hl)
        | false => rfl
  simp only [D.v, eachV, D.pre, walk]
  rw [if_pos ⟨hall, by rw [D.vs_len]; omega, by omega, hc, rfl, rfl, rfl⟩]
  cases hy : yieldV cf f caps (.agg [.c (.int .i64 k), .c (.int .i64 n), .c (.string t), .sl (D.vs l) .any]) ps h with
  | none => rfl
  | some r =>
    obtain ⟨b, h1⟩ := r
    cases b with
    | true => exact hL l 0 h1 (fun x hx => hx) (yieldV_spec hy).2.1
    | false => rfl
mutual
theorem D.pre_len : ∀ (d : D) (ps : List Int), (d.pre ps).length = d.sz
  | .mk k n t l, ps => by simp only [D.pre, List.length_cons, D.sz, D.pres_len l ps 0]; omega
theorem D.pres_len : ∀ (l : List D) (ps : List Int) (i : Nat), (D.pres l ps i).length = D.szs l
  | [], _, _ => rfl
  | d :: l, ps, i => by simp only [D.pres, List.length_append, D.szs, D.pre_len d, D.pres_len l]
end
theorem call45 {n : Nat} {d : D} {q : Nat} {caps : List V} {h : List O} (hs : d.sz ≤ n) (hp : d.sz ≤ 1099511627776) (hc : V.lows h.length caps = true) :
    call X E (n + 1) 80 [d.v, .sl [] .nil, .clo q caps] h = (walk (fun x p h => yieldV (call X E n) q caps x.v p h) (d.pre []) h).map fun r => (.c (.bool r.1), r.2) := by
  have hE : E 80 = some eachE := rfl
  simp only [call, hE, eachE, callee_clo]
  rw [each_walk d n [] h hs (by simpa using hp) hc]
theorem yield_of {cf : CallF} {q : Nat} {caps : List V} {x : D} {ps : List Int} {h h' : List O} {b : Bool} (hc : V.lows h.length caps = true) (hl : h.all (O.low (h.length + 1)) = true) (hl' : h'.all (O.low h.length) = true) (hn : h'.length = h.length)
    (e : cf q (x.v :: .row h.length 0 ps.length none :: caps) (h ++ [pcell ps]) = some (.c (.bool b), h' ++ [pcell ps])) (hq : q < 1000000 := by decide) : yieldV cf q caps x.v ps h = some (b, h') := by
  have hpl : O.low (h.length + 1) (pcell ps) = true := by
    simp only [O.low, pcell]
    refine lows_of fun v hv => ?_
    obtain ⟨i, _, rfl⟩ := List.mem_map.1 hv
    simp [I64, V.low]
  have hfr : frameCf (h.length + 1) cf q (x.v :: .row h.length 0 ps.length none :: caps) (h ++ [pcell ps]) = some (.c (.bool b), h' ++ [pcell ps]) := by
    unfold frameCf
    have ht : (h ++ [pcell ps]).take (h.length + 1) = h ++ [pcell ps] := by rw [List.take_of_length_le]; simp
    have hd : (h ++ [pcell ps]).drop (h.length + 1) = [] := by rw [List.drop_of_length_le]; simp
    rw [ht, hd, e]
    rw [if_pos ⟨hq, by simp, by simp [V.lows, D.low, V.low, lows_mono (Nat.le_succ _) _ hc], by simp only [List.all_append, hl, List.all_cons, hpl, List.all_nil, Bool.and_self]⟩]
    simp [hn]
  unfold yieldV
  rw [hfr]
  have h1 : (h' ++ [pcell ps])[h.length]? = some (pcell ps) := by rw [← hn]; simp
  have h2 : (h' ++ [pcell ps]).take h.length = h' := by rw [← hn]; simp
  simp only [h1, h2, samePath_self, hl', and_self, if_true]
theorem olow1 {n n' : Nat} (hn : n ≤ n') {o : O} (h : O.low n o = true) : O.low n' o = true := by
  have := olow_mono hn (h := [o]) (by simp [h])
  simpa using this
theorem olow_cells (n : Nat) (cs : List V) : O.low n (.cells cs) = V.lows n cs := rfl
theorem low_pcell (n : Nat) (ps : List Int) : O.low n (pcell ps) = true := by
  rw [pcell, olow_cells]
  refine lows_of fun v hv => ?_
  obtain ⟨i, _, rfl⟩ := List.mem_map.1 hv
  simp [I64, V.low]
theorem run46 {n : Nat} {x : D} {ps : List Int} {a : O} {c : Int} (hc : -1 ≤ c ∧ c < 4611686018427387904) (ha : O.low 2 a = true) : yieldV (call X E (n + 1)) 81 [.ref 1 0] x.v ps [a, .cells [.c (.int .i64 c)]] = some (true, [a, .cells [.c (.int .i64 (c + 1))]]) := by
  refine yield_of (by simp [V.lows, V.low]) ?_ ?_ rfl ?_
  · simp [olow_cells, V.lows, V.low, olow1 (Nat.le_succ 2) ha]
  · simp [olow_cells, V.lows, V.low, ha]
  · have hE : E 81 = none := rfl
    have hX : X 81 = some x81 := rfl
    simp only [call, hE, hX]
    refine runF_at (by kernel_rfl) rfl rfl (wpk_of ?_)
    have hw : IntKind.i64.wrap (c + 1) = c + 1 := wrap_in (by omega)
    simp -implicitDefEqProofs [x81_w, x81_r, x81r1_w, x81r2_w, x81r3_w, D.vw2, D.okc, D.rd, hw]
    simp [olow_cells, V.lows, V.low, olow1 (Nat.le_succ 2) ha, low_pcell]
theorem walk46 {n : Nat} {a : O} (ha : O.low 2 a = true) : ∀ (L : List (D × List Int)) (c : Int), -1 ≤ c → c + L.length < 4611686018427387904 →
    walk (fun x p h => yieldV (call X E (n + 1)) 81 [.ref 1 0] x.v p h) L [a, .cells [.c (.int .i64 c)]] = some (true, [a, .cells [.c (.int .i64 (c + L.length))]])
  | [], c, _, _ => by simp [walk]
  | (x, q) :: L, c, h1, h2 => by
    simp only [List.length_cons] at h2 ⊢
    simp only [walk]
    rw [run46 (by omega) ha]
    simp only
    rw [walk46 ha L (c + 1) (by omega) (by omega)]
    simp only [Option.some.injEq, Prod.mk.injEq, true_and, List.cons.injEq, O.cells.injEq, V.c.injEq, Value.int.injEq, and_true]
    omega
theorem D.lowBox (m : Nat) (d : D) : O.low m (.cells d.v.cells) = true := by
  rw [olow_cells]
  exact lows_of fun v hv => low_cells (D.low m d) v hv
theorem run17 {d : D} {n : Nat} (hs : d.sz ≤ 1099511627776) (hn : d.sz + 2 ≤ n) : Gives (n + 1) 62 [d.v] (.c (.int .i64 d.sz)) := by
  obtain ⟨m, rfl⟩ : ∃ m', n = m' + 2 := ⟨n - 2, by omega⟩
  refine gives_of rfl rfl rfl (by kernel_rfl) ⟨rfl, rfl⟩ (by simp [D.vw2, V.lows, D.low]) ?_
  have hc : call X E (m + 2) 80 [d.v, .sl [] .nil, .clo 81 [.ref 1 0]] [.cells d.v.cells, .cells [.c (.int .i64 0)]] = some (.c (.bool true), [.cells d.v.cells, .cells [.c (.int .i64 d.sz)]]) := by
    rw [call45 (n := m + 1) (by omega) hs (by simp [V.lows, V.low])]
    rw [walk46 (n := m) (D.lowBox 2 d) (d.pre []) 0 (by omega) (by rw [D.pre_len]; omega), D.pre_len]
    simp
  simp -implicitDefEqProofs [x62_w, x62_r, x62r1_w, x62r2_w, x62r3_w, x62r4_w, D.vw2, D.okc, D.rd, hc]
def top : List (D × List Int) → Int → Int
  | [], c => c
  | (_, q) :: L, c => top L (max c (q.length + 1))
theorem top_app : ∀ (a b : List (D × List Int)) (c : Int), top (a ++ b) c = top b (top a c)
  | [], b, c => rfl
  | (x, q) :: a, b, c => by simp only [List.cons_append, top, top_app a b]
mutual
theorem D.top_pre : ∀ (d : D) (ps : List Int) (c : Int), top (d.pre ps) c = max c (ps.length + d.dp)
  | .mk k n t l, ps, c => by
    simp only [D.pre, top, D.top_pres l ps 0, D.dp]
    cases l with
    | nil => simp [D.dps]
    | cons d l => rw [if_neg (by simp)]; omega
theorem D.top_pres : ∀ (l : List D) (ps : List Int) (i : Nat) (c : Int), top (D.pres l ps i) c = if l = [] then c else max c (ps.length + 1 + D.dps l)
  | [], _, _, _ => rfl
  | d :: l, ps, i, c => by
    have hp := D.dp_pos d
    simp only [D.pres, top_app, D.top_pre d, D.top_pres l, D.dps, List.length_append, List.length_cons, List.length_nil]
    cases l with
    | nil => simp [D.dps]
    | cons d' l => rw [if_neg (by simp), if_neg (by simp)]; omega
theorem D.dp_pos : ∀ d : D, 1 ≤ d.dp
  | .mk _ _ _ _ => by simp only [D.dp]; omega
end
theorem run47 {n : Nat} {x : D} {ps : List Int} {a : O} {c : Int} (hc : ps.length < 4611686018427387904) (ha : O.low 2 a = true) : yieldV (call X E (n + 1)) 82 [.ref 1 0] x.v ps [a, .cells [.c (.int .i64 c)]] = some (true, [a, .cells [.c (.int .i64 (max c (ps.length + 1)))]]) := by
  refine yield_of (by simp [V.lows, V.low]) ?_ ?_ rfl ?_
  · simp [olow_cells, V.lows, V.low, olow1 (Nat.le_succ 2) ha]
  · simp [olow_cells, V.lows, V.low, ha]
  · have hE : E 82 = none := rfl
    have hX : X 82 = some x82 := rfl
    simp only [call, hE, hX]
    refine runF_at (by kernel_rfl) rfl rfl (wpk_of ?_)
    have hw : IntKind.i64.wrap ((ps.length : Int) + 1) = ps.length + 1 := wrap_in (by omega)
    have hm : (if (ps.length : Int) + 1 > c then (ps.length : Int) + 1 else c) = max c (ps.length + 1) := by split <;> omega
    simp -implicitDefEqProofs [x82_w, x82_r, x82r1_w, x82r2_w, x82r3_w, D.vw2, D.okc, D.rd, hw]
    simp [olow_cells, V.lows, V.low, olow1 (Nat.le_succ 2) ha, low_pcell]
    split <;> omega
theorem walk47 {n : Nat} {a : O} (ha : O.low 2 a = true) : ∀ (L : List (D × List Int)) (c : Int), (∀ p ∈ L, p.2.length < 4611686018427387904) →
    walk (fun x p h => yieldV (call X E (n + 1)) 82 [.ref 1 0] x.v p h) L [a, .cells [.c (.int .i64 c)]] = some (true, [a, .cells [.c (.int .i64 (top L c))]])
  | [], c, _ => by simp [walk, top]
  | (x, q) :: L, c, h1 => by
    simp only [walk]
    rw [run47 (h1 (x, q) (by simp)) ha]
    simp only
    rw [walk47 ha L _ fun p hp => h1 p (by simp [hp])]
    simp only [top]
mutual
theorem D.pre_path : ∀ (d : D) (ps : List Int), ∀ p ∈ d.pre ps, p.2.length ≤ ps.length + d.sz
  | .mk k n t l, ps, p, hp => by
    simp only [D.pre, List.mem_cons] at hp
    simp only [D.sz]
    rcases hp with rfl | hp
    · simp only; omega
    · have := D.pres_path l ps 0 p hp; omega
theorem D.pres_path : ∀ (l : List D) (ps : List Int) (i : Nat), ∀ p ∈ D.pres l ps i, p.2.length ≤ ps.length + 1 + D.szs l
  | [], ps, i, p, hp => by simp [D.pres] at hp
  | d :: l, ps, i, p, hp => by
    simp only [D.pres, List.mem_append] at hp
    simp only [D.szs]
    rcases hp with hp | hp
    · have := D.pre_path d _ p hp; simp only [List.length_append, List.length_cons, List.length_nil] at this; omega
    · have := D.pres_path l ps (i + 1) p hp; omega
end
theorem run19 {d : D} {n : Nat} (hs : d.sz ≤ 1099511627776) (hn : d.sz + 2 ≤ n) : Gives (n + 1) 63 [d.v] (.c (.int .i64 d.dp)) := by
  obtain ⟨m, rfl⟩ : ∃ m', n = m' + 2 := ⟨n - 2, by omega⟩
  refine gives_of rfl rfl rfl (by kernel_rfl) ⟨rfl, rfl⟩ (by simp [D.vw2, V.lows, D.low]) ?_
  have hc : call X E (m + 2) 80 [d.v, .sl [] .nil, .clo 82 [.ref 1 0]] [.cells d.v.cells, .cells [.c (.int .i64 0)]] = some (.c (.bool true), [.cells d.v.cells, .cells [.c (.int .i64 d.dp)]]) := by
    rw [call45 (n := m + 1) (by omega) hs (by simp [V.lows, V.low])]
    rw [walk47 (n := m) (D.lowBox 2 d) (d.pre []) 0 (fun p hp => by have := D.pre_path d [] p hp; simp only [List.length_nil] at this; omega), D.top_pre]
    have : max (0 : Int) (([] : List Int).length + d.dp) = d.dp := by simp
    rw [this]
    rfl
  simp -implicitDefEqProofs [x63_w, x63_r, x63r1_w, x63r2_w, x63r3_w, x63r4_w, D.vw2, D.okc, D.rd, hc]
theorem run15 (d : D) (hs : d.sz ≤ 1099511627776) (n : Nat) (hn : 4 * d.sz + 64 ≤ n) : Gives n 35 [d.v] (.c (.int .i64 d.ck)) := by
  obtain ⟨m, rfl⟩ : ∃ m', n = m' + 2 := ⟨n - 2, by omega⟩
  have c1 : ∀ h, call X E (m + 1) 61 [d.v] h = some (.c (.bool d.fm), h) := run43 d (by omega) (m + 1) (by omega)
  have c2 : ∀ h, call X E (m + 1) 62 [d.v] h = some (.c (.int .i64 d.sz), h) := run17 (n := m) hs (by omega)
  have c3 : ∀ h, call X E (m + 1) 63 [d.v] h = some (.c (.int .i64 d.dp), h) := run19 (n := m) hs (by omega)
  refine gives_of rfl rfl rfl (by kernel_rfl) ⟨rfl, rfl⟩ (by simp [D.vw2, V.lows, D.low]) ?_
  cases hf : d.fm with
  | false =>
    rw [hf] at c1
    simp -implicitDefEqProofs [x35_w, x35_r, x35r1_w, x35r2_w, x35r3_w, D.vw2, D.okc, D.rd, c1, D.ck, hf]
  | true =>
    rw [hf] at c1
    by_cases h1 : d.sz > 100000
    · have h1' : (100000 : Int) < d.sz := by omega
      simp -implicitDefEqProofs [x35_w, x35_r, x35r1_w, x35r2_w, x35r3_w, x35r4_w, x35r5_w, D.vw2, D.okc, D.rd, c1, c2, h1', D.ck, hf, h1]
    · have h1' : ¬ (100000 : Int) < d.sz := by omega
      by_cases h2 : d.dp > 1000
      · have h2' : (1000 : Int) < d.dp := by omega
        simp -implicitDefEqProofs [x35_w, x35_r, x35r1_w, x35r2_w, x35r3_w, x35r4_w, x35r5_w, D.vw2, D.okc, D.rd, c1, c2, c3, h1', h2', D.ck, hf, h1, h2]
      · have h2' : ¬ (1000 : Int) < d.dp := by omega
        simp -implicitDefEqProofs [x35_w, x35_r, x35r1_w, x35r2_w, x35r3_w, x35r4_w, x35r5_w, x35r6_w, D.vw2, D.okc, D.rd, c1, c2, c3, h1', h2', D.ck, hf, h1, h2]
def eqS (a b : ByteArray) : Bool := a.toList == b.toList
mutual
def D.same : D → D → Bool
  | .mk k n t l, .mk k' n' t' l' => k == k' && n == n' && eqS t t' && D.sames l l'
def D.sames : List D → List D → Bool
  | [], [] => true
  | a :: l, b :: l' => a.same b && D.sames l l'
  | [], _ :: _ => false
  | _ :: _, [] => false
end
def cutT (t : ByteArray) : ByteArray := t.extract 0 (min t.size 42)
mutual
def D.cut : D → Nat → Nat → D × Nat
  | .mk k n t l, left, deep => (.mk k n (cutT t) (D.cuts l (left - 1) deep).1, (D.cuts l (left - 1) deep).2)
def D.cuts : List D → Nat → Nat → List D × Nat
  | [], left, _ => ([], left)
  | d :: l, left, deep => if 1 < deep ∧ 0 < left then ((d.cut left (deep - 1)).1 :: (D.cuts l (d.cut left (deep - 1)).2 deep).1, (D.cuts l (d.cut left (deep - 1)).2 deep).2) else ([], left)
end
mutual
theorem D.cut_le : ∀ (d : D) (left deep : Nat), (d.cut left deep).2 ≤ left - 1
  | .mk k n t l, left, deep => by simp only [D.cut]; exact D.cuts_le l _ _
theorem D.cuts_le : ∀ (l : List D) (left deep : Nat), (D.cuts l left deep).2 ≤ left
  | [], left, deep => by simp [D.cuts]
  | d :: l, left, deep => by
    simp only [D.cuts]
    split
    · have := D.cut_le d left (deep - 1)
      have := D.cuts_le l (d.cut left (deep - 1)).2 deep
      simp only; omega
    · simp
end
theorem D.vs_app (a b : List D) : D.vs (a ++ b) = D.vs a ++ D.vs b := by simp [D.vs_map]
theorem D.hz (l : List D) : Ab.hz 4 (D.vs l) = true := by
  cases l with
  | nil => rfl
  | cons d l => simp [D.vs, Ab.hz, D.cells_len]
theorem get_last2 (h : List O) (x y : O) : (h ++ [x, y])[h.length + 1]? = some y := by
  rw [List.getElem?_append_right (by omega)]
  simp
theorem set_last2 (h : List O) (x y z : O) : (h ++ [x, y]).set (h.length + 1) z = h ++ [x, z] := by
  rw [List.set_append_right _ _ (by omega)]
  simp
section
variable {s : SF}
theorem own_mv (x : A) : ownF s (.mv x) = true := rfl
theorem own_fa (o : Nat) (x : A) : ownF s (.fieldAddr o x) = true := rfl
theorem own_ia (z : Nat) (x i : A) : ownF s (.indexAddr z x i) = true := rfl
theorem own_bin (op : BinOp) (q : Nat) (x y : A) : ownF s (.bin op q x y) = true := rfl
theorem own_call (f : A) (l : List A) : ownF s (.call f l) = true := rfl
theorem own_bs (al z : Nat) (l : List A) : ownF s (.bslice al z l) = true := rfl
theorem own_app (al b : Nat) (z : Option Nat) (rw : Bool) (x y : A) : ownF s (.append al z b rw x y) = true := rfl
theorem own_store (n : Nat) (x y : A) : ownF s (.store n x y) = true := rfl
end
theorem frame3 {cf : CallF} {f : Nat} {args : List V} {a b c c' : O} {v : V} {rest : List O} (hl : V.lows 3 args = true) (hh : lowH [a, b, c]) (e : cf f args [a, b, c] = some (v, [a, b, c'])) (hf : f < 1000000 := by decide) :
    frameCf 3 cf f args (a :: b :: c :: rest) = some (v, a :: b :: c' :: rest) := by
  unfold frameCf
  have h1 : (a :: b :: c :: rest).take 3 = [a, b, c] := by simp
  have h2 : (a :: b :: c :: rest).drop 3 = rest := by simp
  rw [h1, h2, e, if_pos ⟨hf, by simp, hl, hh⟩]
  simp
def dcell (k n : Int) (t : ByteArray) (us : List V) (si : SI) : O := .cells [.c (.int .i64 k), .c (.int .i64 n), .c (.string t), .sl us si]
structure I62 (a b ret : O) (l : List D) (k n : Int) (t : ByteArray) (left0 deep : Nat) (m : Nat) (s : SF) : Prop where
  j : ∃ (out : List D) (rest : List O) (si : SI), out.length + m ≤ left0 ∧ s.e 8 = .c (.int .i64 out.length) ∧
    D.cuts l left0 deep = (out ++ (D.cuts (l.drop out.length) m deep).1, (D.cuts (l.drop out.length) m deep).2) ∧
    s.h = a :: b :: .cells [.c (.int .i64 m)] :: dcell k n t (D.vs l) .any :: ret :: dcell k n (cutT t) (D.vs out) si :: rest ∧
    ((out = [] ∧ si = .nil) ∨ ∃ q, si = .tok (q + 6) ∧ rest[q]? = some (.tok out.length 4))
  e0 : s.e 0 = .ref 2 0
  e2 : s.e 2 = .c (.int .i64 deep)
  e4 : s.e 4 = .ref 3 0
  e6 : s.e 6 = .ref 4 0
  e7 : s.e 7 = .ref 5 0
  b : s.base = 3
theorem step62 {cf : CallF} {fu : Nat} {a b ret : O} {l : List D} {k n : Int} {t : ByteArray} {left0 deep : Nat} (ha : O.low 3 a = true) (hb : O.low 3 b = true) (hleft : left0 < 1099511627776) (hdeep : deep < 1099511627776)
    (hc : ∀ x ∈ l, ∀ left, 0 < left → left ≤ left0 → 1 < deep → cf 43 [.ref 2 0, x.v, .c (.int .i64 (deep - 1 : Nat))] [a, b, .cells [.c (.int .i64 left)]] = some ((x.cut left (deep - 1)).1.v, [a, b, .cells [.c (.int .i64 (x.cut left (deep - 1)).2)]])) {Q : Ex → SF → Prop}
    (hQ : ∀ s si rest, s.h = a :: b :: .cells [.c (.int .i64 (D.cuts l left0 deep).2)] :: dcell k n t (D.vs l) .any :: ret :: dcell k n (cutT t) (D.vs (D.cuts l left0 deep).1) si :: rest → s.e 6 = .ref 4 0 → s.e 7 = .ref 5 0 → s.base = 3 → Q (.exit 0) s) (m : Nat) (s : SF) (I : I62 a b ret l k n t left0 deep m s) :
    wpk cf fu x43l8 [] (fun e s' => match e with | .normal => ∃ k', k' < m ∧ I62 a b ret l k n t left0 deep k' s' | e => Q e s') s := by
  obtain ⟨⟨out, rest, si, hom, e8, hcut, hh, hsi⟩, e0, e2, e4, e6, e7, hbs⟩ := I
  obtain ⟨e, h, base, rb⟩ := s
  simp only at e8 hh e0 e2 e4 e6 e7 hbs
  subst hh hbs
  have hstop : ¬ (out.length < l.length ∧ 1 < deep ∧ 0 < m) → (D.cuts (l.drop out.length) m deep) = ([], m) := by
    intro hn
    by_cases hm : out.length < l.length
    · rw [List.drop_eq_getElem_cons hm, D.cuts, if_neg (fun h => hn ⟨hm, h⟩)]
    · rw [List.drop_of_length_le (by omega), D.cuts]
  have hexit : ¬ (out.length < l.length ∧ 1 < deep ∧ 0 < m) → ∀ e' : Nat → V, e' 6 = .ref 4 0 → e' 7 = .ref 5 0 → ∀ rb', Q (.exit 0) ⟨e', a :: b :: .cells [.c (.int .i64 m)] :: dcell k n t (D.vs l) .any :: ret :: dcell k n (cutT t) (D.vs out) si :: rest, 3, rb'⟩ := by
    intro hn e' h6 h7 rb'
    have := hstop hn
    rw [this] at hcut
    refine hQ _ si rest ?_ h6 h7 rfl
    rw [hcut]
    simp
  by_cases hm : out.length < l.length
  · have hlt : (out.length : Int) < l.length := by omega
    by_cases hd : 1 < deep
    · have hdi : (1 : Int) < deep := by omega
      by_cases h0 : 0 < m
      · have h0i : (0 : Int) < m := by omega
        have hx := hc _ (List.getElem_mem hm) m h0 (by omega) hd
        have hfr := fun rest => frame3 (rest := rest) (by simp [V.lows, V.low, D.low]) (by simp [lowH, ha, hb, olow_cells, V.lows, V.low]) hx
        have hde : IntKind.i64.wrap ((deep : Int) - 1) = (deep - 1 : Nat) := by rw [wrap_in (by omega)]; omega
        have hle := D.cut_le l[out.length] m (deep - 1)
        have hstep : D.cuts (l.drop out.length) m deep = (((l[out.length]).cut m (deep - 1)).1 :: (D.cuts (l.drop (out.length + 1)) ((l[out.length]).cut m (deep - 1)).2 deep).1, (D.cuts (l.drop (out.length + 1)) ((l[out.length]).cut m (deep - 1)).2 deep).2) := by
          rw [List.drop_eq_getElem_cons hm, D.cuts, if_pos ⟨hd, h0⟩]
        have hlen1 : ((D.vs out).length + 1) * 56 ≤ 140737488355328 := by rw [D.vs_len]; omega
        have hlen2 : (D.vs out).length + 1 ≤ 140737488355328 := by rw [D.vs_len]; omega
        generalize hcx : (l[out.length]).cut m (deep - 1) = cx at *
        have hnew : D.cuts l left0 deep = ((out ++ [cx.1]) ++ (D.cuts (l.drop (out ++ [cx.1]).length) cx.2 deep).1, (D.cuts (l.drop (out ++ [cx.1]).length) cx.2 deep).2) := by
          rw [hcut, hstep]
          simp
        rcases hsi with ⟨hout, rfl⟩ | ⟨q, rfl, hq⟩
        · simp -implicitDefEqProofs [x43l8_w, x43r5_w, x43r6_w, x43r7_w, opsw_cons, opsw_nil, gvw_some, gvw_ite, ownF_load, ownV_ref, ownV_ptr, own_mv, own_fa, own_ia, own_bin, own_call, own_bs, own_app, own_store, dcell, e0, e2, e4, e7, e8, D.vs_len, hlt, hdi, h0, h0i, hm, D.vs_getE, D.cells_len, D.rd, D.vw2, D.okc, hde, hfr, hlen1, hlen2, D.hz, get_last2, set_last2]
          refine ⟨⟨by omega, by omega⟩, cx.2, by omega, ⟨⟨out ++ [cx.1], rest ++ [O.tok 1 4, O.tok (out.length + 1) 4], .tok (rest.length + 1 + 6), ?_, ?_, hnew, ?_, .inr ⟨rest.length + 1, rfl, ?_⟩⟩, ?_, ?_, ?_, ?_, ?_, rfl⟩⟩
          · simp only [List.length_append, List.length_cons, List.length_nil]; omega
          · simp only [upd_at]
            simp
            rw [wrap_in (by omega)]
          · simp [dcell, D.vs_app, D.vs]
          · rw [get_last2]; simp
          · simp [upd_at, e0]
          · simp [upd_at, e2]
          · simp [upd_at, e4]
          · simp [upd_at, e6]
          · simp [upd_at, e7]
        · obtain ⟨hql, hqv⟩ := List.getElem?_eq_some_iff.1 hq
          have hqa : ∀ pre : List O, (rest ++ pre)[q]? = some (.tok out.length 4) := fun pre => by rw [List.getElem?_append_left hql]; exact hq
          simp -implicitDefEqProofs [x43l8_w, x43r5_w, x43r6_w, x43r7_w, opsw_cons, opsw_nil, gvw_some, gvw_ite, ownF_load, ownV_ref, ownV_ptr, own_mv, own_fa, own_ia, own_bin, own_call, own_bs, own_app, own_store, dcell, e0, e2, e4, e7, e8, D.vs_len, hlt, hdi, h0, h0i, hm, D.vs_getE, D.cells_len, D.rd, D.vw2, D.okc, hde, hfr, hlen1, hlen2, D.hz, hqa]
          refine ⟨⟨by omega, by omega⟩, cx.2, by omega, ⟨⟨out ++ [cx.1], (rest ++ [O.tok 1 4, O.dead]).set q (.tok (out.length + 1) 4), .tok (q + 6), ?_, ?_, hnew, ?_, .inr ⟨q, rfl, ?_⟩⟩, ?_, ?_, ?_, ?_, ?_, rfl⟩⟩
          · simp only [List.length_append, List.length_cons, List.length_nil]; omega
          · simp only [upd_at]
            simp
            rw [wrap_in (by omega)]
          · simp [dcell, D.vs_app, D.vs]
          · rw [List.getElem?_set_self (by simp; omega)]; simp
          · simp [upd_at, e0]
          · simp [upd_at, e2]
          · simp [upd_at, e4]
          · simp [upd_at, e6]
          · simp [upd_at, e7]
      · have h0i : ¬ (0 : Int) < m := by omega
        simp -implicitDefEqProofs [x43l8_w, x43r5_w, dcell, e0, e2, e4, e7, e8, D.vs_len, hlt, hdi, h0, h0i]
        exact hexit (fun h => h0 h.2.2) _ (by simp [upd_at, e6]) (by simp [upd_at, e7]) _
    · have hdi : ¬ (1 : Int) < deep := by omega
      simp -implicitDefEqProofs [x43l8_w, x43r5_w, dcell, e0, e2, e4, e7, e8, D.vs_len, hlt, hdi]
      exact hexit (fun h => hd h.2.1) _ (by simp [upd_at, e6]) (by simp [upd_at, e7]) _
  · have hlt : ¬ (out.length : Int) < l.length := by omega
    simp -implicitDefEqProofs [x43l8_w, x43r5_w, dcell, e0, e2, e4, e7, e8, D.vs_len, hlt]
    exact hexit (fun h => hm h.1) _ (by simp [upd_at, e6]) (by simp [upd_at, e7]) _
theorem run62 : ∀ (d : D) (left deep n : Nat) (a b : O), O.low 3 a = true → O.low 3 b = true → 0 < left → left < 1099511627776 → 0 < deep → deep < 1099511627776 → left + deep + 1 ≤ n →
    call X E n 43 [.ref 2 0, d.v, .c (.int .i64 deep)] [a, b, .cells [.c (.int .i64 left)]] = some ((d.cut left deep).1.v, [a, b, .cells [.c (.int .i64 (d.cut left deep).2)]]) := by
  refine D.ind fun k n t l ih => ?_
  intro left deep nn a b ha hb h0 hleft hd0 hdeep hn
  obtain ⟨m, rfl⟩ : ∃ m', nn = m' + 1 := ⟨nn - 1, by omega⟩
  have hE : E 43 = none := rfl
  have hX : X 43 = some x43 := rfl
  simp only [call, hE, hX]
  refine runF_at (by kernel_rfl) rfl rfl (wpk_of ?_)
  have hw : IntKind.i64.wrap ((left : Int) - 1) = (left - 1 : Nat) := by rw [wrap_in (by omega)]; omega
  have hmin : (if (42 : Int) < t.size then (42 : Int) else t.size) = (min t.size 42 : Nat) := by split <;> omega
  simp -implicitDefEqProofs [x43_w, x43_r, x43r1_w, x43r2_w, x43r3_w, x43r4_w, D.vw2, D.v, hw, hmin]
  have hcut : (D.mk k n t l).cut left deep = (.mk k n (cutT t) (D.cuts l (left - 1) deep).1, (D.cuts l (left - 1) deep).2) := by simp only [D.cut]
  refine ⟨by omega, lpk_of (I62 a b (.cells [.c (.int .i64 0), .c (.int .i64 0), .c (.string ⟨#[]⟩), .sl [] .nil]) l k n t (left - 1) deep) (left - 1) (by omega)
    ⟨⟨[], [], .nil, by simp, ?_, by simp, rfl, .inl ⟨rfl, rfl⟩⟩, ?_, ?_, ?_, ?_, ?_, rfl⟩ ?_⟩
  · simp [upd_at]
  · simp [upd_at, arg0]
  · simp [upd_at, arg0]
  · simp [upd_at]
  · simp [upd_at]
  · simp [upd_at]
  · refine step62 ha hb (by omega) hdeep (fun x hx left' h1 h2 h3 => ih x hx left' (deep - 1) m a b ha hb h1 (by omega) (by omega) (by omega) (by omega)) fun s si rest hh h6 h7 hbs => ?_
    obtain ⟨e, h, base, rb⟩ := s
    simp only at hh h6 h7 hbs
    subst hh hbs
    have hlow := D.low 3 (.mk k n (cutT t) (D.cuts l (left - 1) deep).1)
    simp only [D.v] at hlow
    simp -implicitDefEqProofs [x43_r, x43r9_w, dcell, h6, h7, hcut, D.v, hlow, ha, hb, olow_cells, V.lows]
theorem run38 (d : D) (left deep n : Nat) (h0 : 0 < left) (hleft : left < 1099511627776) (hd0 : 0 < deep) (hdeep : deep < 1099511627776) (hn : left + deep + 1 ≤ n) : Gives (n + 1) 17 [d.v, .c (.int .i64 left), .c (.int .i64 deep)] (d.cut left deep).1.v := by
  refine gives_of rfl rfl rfl (by kernel_rfl) ⟨rfl, rfl⟩ (by simp [D.vw2, V.lows, D.low, vw2_c, V.low]) ?_
  have hc := run62 d left deep n (.cells d.v.cells) (.cells [.c (.int .i64 0), .c (.int .i64 0), .c (.string ⟨#[]⟩), .sl [] .nil]) (D.lowBox 3 d) (by simp [olow_cells, V.lows, V.low, SI.low]) h0 hleft hd0 hdeep hn
  simp -implicitDefEqProofs [x17_w, x17_r, x17r1_w, x17r2_w, x17r3_w, D.vw2, D.okc, D.rd, D.cells_len, D.spl, hc, D.vw, D.low]
mutual
theorem D.cut_sz : ∀ (d : D) (left deep : Nat), 0 < left → (d.cut left deep).1.sz + (d.cut left deep).2 = left
  | .mk k n t l, left, deep, h => by
    simp only [D.cut, D.sz]
    have := D.cuts_sz l (left - 1) deep
    omega
theorem D.cuts_sz : ∀ (l : List D) (left deep : Nat), D.szs (D.cuts l left deep).1 + (D.cuts l left deep).2 = left
  | [], left, deep => by simp [D.cuts, D.szs]
  | d :: l, left, deep => by
    simp only [D.cuts]
    split
    · rename_i h
      have h1 := D.cut_sz d left (deep - 1) h.2
      have h2 := D.cuts_sz l (d.cut left (deep - 1)).2 deep
      simp only [D.szs]
      omega
    · simp [D.szs]
end
theorem D.cut_small (d : D) (left deep : Nat) (h : 0 < left) : (d.cut left deep).1.sz ≤ left := by have := D.cut_sz d left deep h; omega
end Go.Proofs.YtkiliokeanmagaaDoor.Ab

namespace Go.Proofs.YtkiliokeanmagaaDoor.Ab
open Go
set_option linter.unusedVariables false
set_option linter.unusedSimpArgs false
set_option maxRecDepth 4000
set_option maxHeartbeats 1000000
def wf (s : ByteArray) : Int :=
  if s = ⟨#[102, 110]⟩ then 5 else if s = ⟨#[105, 102]⟩ then 4 else if s = ⟨#[108, 101, 116]⟩ then 6 else if s = ⟨#[113, 117, 111, 116, 101]⟩ then 3 else
  if s = ⟨#[114, 101, 99]⟩ then 7 else if s = ⟨#[115, 101, 113]⟩ then 8 else if s = ⟨#[117, 112]⟩ then 9 else 0
def wk : List Value := [.string ⟨#[102, 110]⟩, .string ⟨#[105, 102]⟩, .string ⟨#[108, 101, 116]⟩, .string ⟨#[113, 117, 111, 116, 101]⟩, .string ⟨#[114, 101, 99]⟩, .string ⟨#[115, 101, 113]⟩, .string ⟨#[117, 112]⟩]
def wv : List V := [I64 5, I64 4, I64 6, I64 3, I64 7, I64 8, I64 9]
theorem look_w (s : ByteArray) (h : List O) : lookF (.fmp wk wv) (.c (.string s)) (.c (.int .i64 0)) false h = some (.c (.int .i64 (wf s)), h) := by
  simp only [lookF_fmp, wk, wv, mlook, wf]
  repeat' split
  all_goals rfl
end Go.Proofs.YtkiliokeanmagaaDoor.Ab

namespace Go.Proofs.YtkiliokeanmagaaDoor.Ab
open Go
set_option linter.defProp false
section
variable (cf : CallF) (n : Nat) (s : SF) (K : List Fr) (Q : Ex → SF → Prop)
def x54r1_w := rK cf n s K Q x54r1 rfl
def x54r2_w := rK cf n s K Q x54r2 rfl
def x54r3_w := rK cf n s K Q x54r3 rfl
def x54r4_w := rK cf n s K Q x54r4 rfl
def x54r5_w := rK cf n s K Q x54r5 rfl
def x54r6_w := rK cf n s K Q x54r6 rfl
def x54r7_w := rK cf n s K Q x54r7 rfl
def x54r8_w := rK cf n s K Q x54r8 rfl
def x54r9_w := rK cf n s K Q x54r9 rfl
def x54r10_w := rK cf n s K Q x54r10 rfl
def x54r11_w := rK cf n s K Q x54r11 rfl
def x54r12_w := rK cf n s K Q x54r12 rfl
def x54r13_w := rK cf n s K Q x54r13 rfl
def x54r14_w := rK cf n s K Q x54r14 rfl
def x54r15_w := rK cf n s K Q x54r15 rfl
def x54r16_w := rK cf n s K Q x54r16 rfl
def x54r17_w := rK cf n s K Q x54r17 rfl
def x54r18_w := rK cf n s K Q x54r18 rfl
def x54r19_w := rK cf n s K Q x54r19 rfl
def x54r20_w := rK cf n s K Q x54r20 rfl
def x54r21_w := rK cf n s K Q x54r21 rfl
def x54r22_w := rK cf n s K Q x54r22 rfl
def x54r23_w := rK cf n s K Q x54r23 rfl
def x54r24_w := rK cf n s K Q x54r24 rfl
def x54r25_w := rK cf n s K Q x54r25 rfl
def x54r26_w := rK cf n s K Q x54r26 rfl
def x54r27_w := rK cf n s K Q x54r27 rfl
def x54r28_w := rK cf n s K Q x54r28 rfl
def x54r29_w := rK cf n s K Q x54r29 rfl
def x54r30_w := rK cf n s K Q x54r30 rfl
def x54r31_w := rK cf n s K Q x54r31 rfl
def x54r32_w := rK cf n s K Q x54r32 rfl
def x54r33_w := rK cf n s K Q x54r33 rfl
def x54r34_w := rK cf n s K Q x54r34 rfl
def x54r35_w := rK cf n s K Q x54r35 rfl
def x54_w := bK cf n s K Q x54 rfl
def x54_r := bR x54 rfl
def x73r1_w := rK cf n s K Q x73r1 rfl
def x73r2_w := rK cf n s K Q x73r2 rfl
def x73_w := bK cf n s K Q x73 rfl
def x73_r := bR x73 rfl
def x74r1_w := rK cf n s K Q x74r1 rfl
def x74r2_w := rK cf n s K Q x74r2 rfl
def x74_w := bK cf n s K Q x74 rfl
def x74_r := bR x74 rfl
def x75r1_w := rK cf n s K Q x75r1 rfl
def x75r2_w := rK cf n s K Q x75r2 rfl
def x75r3_w := rK cf n s K Q x75r3 rfl
def x75r4_w := rK cf n s K Q x75r4 rfl
def x75r5_w := rK cf n s K Q x75r5 rfl
def x75r6_w := rK cf n s K Q x75r6 rfl
def x75r7_w := rK cf n s K Q x75r7 rfl
def x75r8_w := rK cf n s K Q x75r8 rfl
def x75r9_w := rK cf n s K Q x75r9 rfl
def x75r10_w := rK cf n s K Q x75r10 rfl
def x75r11_w := rK cf n s K Q x75r11 rfl
def x75l12_w := lK cf n s K Q x75l12 rfl
def x75r13_w := rK cf n s K Q x75r13 rfl
def x75_w := bK cf n s K Q x75 rfl
def x75_r := bR x75 rfl
def x87r1_w := rK cf n s K Q x87r1 rfl
def x87r2_w := rK cf n s K Q x87r2 rfl
def x87r3_w := rK cf n s K Q x87r3 rfl
def x87r4_w := rK cf n s K Q x87r4 rfl
def x87r5_w := rK cf n s K Q x87r5 rfl
def x87r6_w := rK cf n s K Q x87r6 rfl
def x87r7_w := rK cf n s K Q x87r7 rfl
def x87r8_w := rK cf n s K Q x87r8 rfl
def x87r9_w := rK cf n s K Q x87r9 rfl
def x87r10_w := rK cf n s K Q x87r10 rfl
def x87r11_w := rK cf n s K Q x87r11 rfl
def x87l12_w := lK cf n s K Q x87l12 rfl
def x87r13_w := rK cf n s K Q x87r13 rfl
def x87_w := bK cf n s K Q x87 rfl
def x87_r := bR x87 rfl
end
end Go.Proofs.YtkiliokeanmagaaDoor.Ab

namespace Go.Proofs.YtkiliokeanmagaaDoor.Ab
open Go
set_option linter.unusedVariables false
set_option linter.unusedSimpArgs false
set_option maxRecDepth 4000
set_option maxHeartbeats 1000000
def D.tx : D → ByteArray | .mk _ _ t _ => t
def D.kd : D → Int | .mk k _ _ _ => k
def D.nm : D → Bool | .mk k _ t _ => k == 2 && decide (wf t = 0)
def inB : List ByteArray → ByteArray → Bool
  | [], _ => false
  | a :: l, t => decide (t = a) || inB l t
def diff : List ByteArray → List D → Bool
  | _, [] => true
  | seen, d :: l => d.nm && !inB seen d.tx && diff (seen ++ [d.tx]) l
theorem look_w2 (s : ByteArray) (h : List O) : lookF (.fmp [.string ⟨#[102, 110]⟩, .string ⟨#[105, 102]⟩, .string ⟨#[108, 101, 116]⟩, .string ⟨#[113, 117, 111, 116, 101]⟩, .string ⟨#[114, 101, 99]⟩, .string ⟨#[115, 101, 113]⟩, .string ⟨#[117, 112]⟩] [.c (.int .i64 5), .c (.int .i64 4), .c (.int .i64 6), .c (.int .i64 3), .c (.int .i64 7), .c (.int .i64 8), .c (.int .i64 9)]) (.c (.string s)) (.c (.int .i64 0)) false h = some (.c (.int .i64 (wf s)), h) := look_w s h
theorem go74 (d : D) {n : Nat} : Gives (n + 1) 74 [d.v] (.c (.bool d.nm)) := by
  obtain ⟨k, i, t, l⟩ := d
  refine gives_of rfl rfl rfl (by kernel_rfl) ⟨rfl, rfl⟩ (by simp [D.vw2, V.lows, D.low]) ?_
  by_cases hk : k = 2
  · subst hk
    by_cases hw : wf t = 0
    · have : (wf t == 0) = true := by simp [hw]
      simp -implicitDefEqProofs [-lookF_fmp, x74_w, x74_r, x74r1_w, x74r2_w, D.vw2, D.v, look_w2, this, D.nm, hw]
    · have : (wf t == 0) = false := by simp [hw]
      simp -implicitDefEqProofs [-lookF_fmp, x74_w, x74_r, x74r1_w, x74r2_w, D.vw2, D.v, look_w2, this, D.nm, hw]
  · have : (k == 2) = false := by simp [hk]
    simp -implicitDefEqProofs [-lookF_fmp, x74_w, x74_r, x74r1_w, x74r2_w, D.vw2, D.v, look_w2, this, D.nm, hk]
def sk (l : List ByteArray) : List Value := l.map .string
def st' (l : List ByteArray) : List V := l.map fun _ => .c (.bool true)
theorem look_seen : ∀ (seen : List ByteArray) (t : ByteArray), mlook (sk seen) (st' seen) t = some (if inB seen t = true then some (.c (.bool true)) else none)
  | [], t => by simp [sk, st', mlook, inB]
  | a :: seen, t => by
    have ih := look_seen seen t
    simp only [sk, st'] at ih
    simp only [sk, st', List.map_cons, mlook, ih]
    by_cases h : t = a
    · simp [h, inB]
    · cases h2 : inB seen t <;> simp [h, h2, inB]
theorem put_seen : ∀ (seen : List ByteArray) (t : ByteArray), inB seen t = false → mput (sk seen) (st' seen) t (.c (.bool true)) = some (sk (seen ++ [t]), st' (seen ++ [t]))
  | [], t, _ => by simp [sk, st', mput]
  | a :: seen, t, h => by
    simp only [inB, Bool.or_eq_false_iff, decide_eq_false_iff_not] at h
    have h1 := h.1
    have ih := put_seen seen t h.2
    simp only [sk, st'] at ih
    simp [sk, st', mput, h1, ih]
structure J87 (l : List D) (m : Nat) (s : SF) : Prop where
  j : ∃ (j : Nat) (seen : List ByteArray) (rest : List O), j + m = l.length ∧ s.e 15 = .c (.int .i64 j) ∧ diff [] l = diff seen (l.drop j) ∧ s.h = .mapo (sk seen) (st' seen) :: rest
  e13 : s.e 13 = .sl (D.vs l) .any
  e14 : s.e 14 = .c (.int .i64 l.length)
  e5 : s.e 5 = .mref 0
  b : s.base = 0
theorem jstep87 {cf : CallF} {fu : Nat} {l : List D} (hl : l.length < 1099511627776) (hc : ∀ (d : D) h, cf 74 [d.v] h = some (.c (.bool d.nm), h)) {Q : Ex → SF → Prop}
    (hQ : ∀ s, diff [] l = true → s.base = 0 → Q (.exit 0) s) (hR : ∀ s, diff [] l = false → s.e 4 = .c (.bool false) → s.base = 0 → Q .ret s) (m : Nat) (s : SF) (I : J87 l m s) :
    wpk cf fu x87l12 [] (fun e s' => match e with | .normal => ∃ k', k' < m ∧ J87 l k' s' | e => Q e s') s := by
  obtain ⟨⟨j, seen, rest, hj, e15, hd, hh⟩, e13, e14, e5, hb⟩ := I
  obtain ⟨e, h, base, rb⟩ := s
  simp only at e15 e13 e14 e5 hh hb
  subst hh hb
  by_cases hm : j < l.length
  · have hlt : (j : Int) < l.length := by omega
    have hdr : l.drop j = l[j] :: l.drop (j + 1) := List.drop_eq_getElem_cons hm
    obtain ⟨k', n', t', l', hx⟩ : ∃ k' n' t' l', l[j] = D.mk k' n' t' l' := by
      cases hq : l[j] with | mk a b c d => exact ⟨a, b, c, d, rfl⟩
    have hc1 := hc (.mk k' n' t' l')
    rw [hdr, hx] at hd
    simp only [diff, D.tx] at hd
    have hlk := look_seen seen t'
    have hvj : (D.vs l)[j]'(by rw [D.vs_len]; exact hm) = (D.mk k' n' t' l').v := by rw [D.vs_getE, hx]
    cases hnm : (D.mk k' n' t' l').nm with
    | false =>
      rw [hnm] at hc1 hd
      simp -implicitDefEqProofs [x87l12_w, x87r6_w, x87r7_w, x87r8_w, x87r9_w, x87r10_w, x87r11_w, e13, e14, e15, e5, D.vs_len, hlt, hm, hvj, D.cells_len, D.rd, D.okc, D.spl, hc1]
      exact hR _ (by simpa using hd) (by simp [upd_at]) rfl
    | true =>
      rw [hnm] at hc1 hd
      cases hin : inB seen t' with
      | true =>
        rw [if_pos hin] at hlk
        simp only [D.v] at hc1 hvj
        simp -implicitDefEqProofs [x87l12_w, x87r6_w, x87r7_w, x87r8_w, x87r9_w, x87r10_w, x87r11_w, e13, e14, e15, e5, D.vs_len, hlt, hm, hvj, hc1, hlk, mres]
        exact hR _ (by simpa [hin] using hd) (by simp [upd_at]) rfl
      | false =>
        rw [if_neg (by simp [hin])] at hlk
        have hpt := put_seen seen t' hin
        simp only [D.v] at hc1 hvj
        simp -implicitDefEqProofs [x87l12_w, x87r6_w, x87r7_w, x87r8_w, x87r9_w, x87r10_w, x87r11_w, e13, e14, e15, e5, D.vs_len, hlt, hm, hvj, hc1, hlk, hpt, mres]
        refine ⟨m - 1, by omega, ⟨⟨j + 1, seen ++ [t'], _, by omega, ?_, ?_, rfl⟩, ?_, ?_, ?_, rfl⟩⟩
        · simp only [upd_at, e15]
          simp
          rw [wrap_in (by omega)]
        · rw [hd]; simp [hin]
        · simp [upd_at, e13]
        · simp [upd_at, e14]
        · simp [upd_at, e5]
  · have hlt : ¬ (j : Int) < l.length := by omega
    simp -implicitDefEqProofs [x87l12_w, x87r6_w, e13, e14, e15, e5, D.vs_len, hlt]
    refine hQ _ ?_ rfl
    rw [hd, List.drop_of_length_le (by omega : l.length ≤ j)]
    rfl
theorem go87 (l : List D) (i : SI) (most : Nat) {n : Nat} (hn : l.length < n) (hl : l.length < 1099511627776) : Gives (n + 1) 87 [.sl (D.vs l) i, .c (.int .i64 most)] (.c (.bool (decide (l.length ≤ most) && diff [] l))) := by
  obtain ⟨n, rfl⟩ : ∃ n', n = n' + 1 := ⟨n - 1, by omega⟩
  have c1 : ∀ (d : D) h, call X E (n + 1) 74 [d.v] h = some (.c (.bool d.nm), h) := fun d => go74 d
  generalize n + 1 = m at *
  refine gives_of rfl rfl rfl (by kernel_rfl) ⟨rfl, rfl⟩ (by simp [V.vw2, V.vw1, V.lows, V.low, D.lows, SI.low]) ?_
  by_cases hm : l.length ≤ most
  · have hlt : ¬ (l.length : Int) > most := by omega
    simp -implicitDefEqProofs [x87_w, x87_r, x87r1_w, x87r2_w, x87r3_w, x87r4_w, x87r5_w, V.vw2, V.vw1, D.vs_len, hlt, hm]
    refine lpk_of (J87 l) l.length (by omega) ⟨⟨0, [], [], by simp, ?_, by simp, rfl⟩, ?_, ?_, ?_, rfl⟩ ?_
    · simp [upd_at]
    · simp [upd_at]
    · simp [upd_at]
    · simp [upd_at]
    · refine jstep87 hl c1 (fun s h1 hb => ?_) fun s h1 h4 hb => ?_
      · obtain ⟨e, h, base, rb⟩ := s
        simp only at hb
        subst hb
        simp -implicitDefEqProofs [x87_r, x87r13_w, h1]
      · obtain ⟨e, h, base, rb⟩ := s
        simp only at hb h4
        subst hb
        simp -implicitDefEqProofs [x87_r, h1, h4]
  · have hlt : (l.length : Int) > most := by omega
    simp -implicitDefEqProofs [x87_w, x87_r, x87r1_w, x87r2_w, x87r3_w, V.vw2, V.vw1, D.vs_len, hlt, hm]
end Go.Proofs.YtkiliokeanmagaaDoor.Ab

namespace Go.Proofs.YtkiliokeanmagaaDoor.Ab
open Go
set_option linter.unusedVariables false
set_option linter.unusedSimpArgs false
set_option maxRecDepth 4000
set_option maxHeartbeats 1000000
def nms (most : Nat) (d : D) : Bool := d.kd == 3 && (decide (d.kids.length ≤ most) && diff [] d.kids)
theorem go73 (d : D) (most : Nat) {n : Nat} (hn : d.kids.length + 1 < n) (hl : d.kids.length < 1099511627776) : Gives (n + 1) 73 [d.v, .c (.int .i64 most)] (.c (.bool (nms most d))) := by
  obtain ⟨n, rfl⟩ : ∃ n', n = n' + 1 := ⟨n - 1, by omega⟩
  have c1 : ∀ h, call X E (n + 1) 87 [.sl (D.vs d.kids) .any, .c (.int .i64 most)] h = some (.c (.bool (decide (d.kids.length ≤ most) && diff [] d.kids)), h) := go87 d.kids .any most (by omega) hl
  obtain ⟨k, i, t, l⟩ := d
  simp only [D.kids] at c1 hn hl
  generalize n + 1 = m at *
  refine gives_of rfl rfl rfl (by kernel_rfl) ⟨rfl, rfl⟩ (by simp [D.vw2, V.lows, D.low, vw2_c, V.low]) ?_
  by_cases hk : k = 3
  · subst hk
    simp -implicitDefEqProofs [x73_w, x73_r, x73r1_w, x73r2_w, D.vw2, D.v, c1, nms, D.kd, D.kids]
  · have : (k == 3) = false := by simp [hk]
    simp -implicitDefEqProofs [x73_w, x73_r, x73r1_w, x73r2_w, D.vw2, D.v, c1, this, nms, D.kd, D.kids, hk]
def D.z0 : D := .mk 0 0 ⟨#[]⟩ []
def D.kid (d : D) (j : Nat) : D := d.kids.getD j .z0
def defB (x : D) : Bool := x.kd == 3 && (x.kids.length == 3 && nms 8 (x.kid 1))
def grp (d : D) : Bool := d.kd == 3 && (!d.kids.isEmpty && (decide (d.kids.length ≤ 40) && (d.kids.all defB && (decide (d.kids.length ≤ 40) && diff [] (d.kids.map fun x => x.kid 0)))))
def TokAt1 (b : Nat) (out : List D) (si : SI) (rest : List O) : Prop := (out = [] ∧ si = .nil) ∨ ∃ q, si = .tok (q + b) ∧ rest[q]? = some (.tok out.length 4)
structure J75 (l : List D) (k n : Int) (t : ByteArray) (m : Nat) (s : SF) : Prop where
  j : ∃ (j : Nat) (rest : List O) (si : SI), j + m = l.length ∧ s.e 24 = .c (.int .i64 j) ∧ s.e 3 = .sl (D.vs ((l.take j).map fun x => x.kid 0)) si ∧ s.h = .cells [.c (.int .i64 k), .c (.int .i64 n), .c (.string t), .sl (D.vs l) .any] :: rest ∧ TokAt1 1 ((l.take j).map fun x => x.kid 0) si rest ∧ l.all defB = (l.drop j).all defB
  e22 : s.e 22 = .sl (D.vs l) .any
  e23 : s.e 23 = .c (.int .i64 l.length)
  b : s.base = 0
theorem list3 {l : List D} (h : l.length = 3) : ∃ a b c, l = [a, b, c] := by
  match l, h with
  | [a, b, c], _ => exact ⟨a, b, c, rfl⟩
theorem jstep75 {cf : CallF} {fu : Nat} {l : List D} {k n : Int} {t : ByteArray} (hl : l.length < 1099511627776) (hc : ∀ x ∈ l, ∀ y ∈ x.kids, ∀ h, cf 73 [y.v, .c (.int .i64 8)] h = some (.c (.bool (nms 8 y)), h)) {Q : Ex → SF → Prop}
    (hQ : ∀ s si, l.all defB = true → s.e 3 = .sl (D.vs (l.map fun x => x.kid 0)) si → s.base = 0 → Q (.exit 0) s) (hR : ∀ s, l.all defB = false → s.e 2 = .c (.bool false) → s.base = 0 → Q .ret s) (m : Nat) (s : SF) (I : J75 l k n t m s) :
    wpk cf fu x75l12 [] (fun e s' => match e with | .normal => ∃ k1, k1 < m ∧ J75 l k n t k1 s' | e => Q e s') s := by
  obtain ⟨⟨j, rest, si, hj, e24, e3, hh, hsi, hall⟩, e22, e23, hb⟩ := I
  obtain ⟨e, h, base, rb⟩ := s
  simp only at e24 e3 hh e22 e23 hb
  subst hh hb
  by_cases hm : j < l.length
  · have hlt : (j : Int) < l.length := by omega
    have hdr : l.drop j = l[j] :: l.drop (j + 1) := List.drop_eq_getElem_cons hm
    have ht : l.take (j + 1) = l.take j ++ [l[j]] := by rw [List.take_add_one, List.getElem?_eq_getElem hm]; rfl
    have hmem := hc _ (List.getElem_mem hm)
    obtain ⟨k', n', t', l', hx⟩ : ∃ k' n' t' l', l[j] = D.mk k' n' t' l' := by
      cases hq : l[j] with | mk a b c d => exact ⟨a, b, c, d, rfl⟩
    rw [hdr, hx] at hall
    rw [hx] at ht hmem
    have hvj : (D.vs l)[j]'(by rw [D.vs_len]; exact hm) = .agg [.c (.int .i64 k'), .c (.int .i64 n'), .c (.string t'), .sl (D.vs l') .any] := by rw [D.vs_getE, hx]; rfl
    have hlv : (D.vs l').length = l'.length := D.vs_len l'
    by_cases hk : k' = 3
    rotate_left
    · have h3 : (k' != 3) = true := by simp [hk]
      simp -implicitDefEqProofs [x75l12_w, x75r6_w, x75r7_w, x75r8_w, x75r9_w, e22, e23, e24, D.vs_len, hlt, hm, hvj, h3]
      exact hR _ (by rw [hall]; simp [defB, D.kd, hk]) (by simp [upd_at]) rfl
    subst hk
    by_cases hn3 : l'.length = 3
    rotate_left
    · have h3 : ((l'.length : Int) != 3) = true := by simp; omega
      simp -implicitDefEqProofs [x75l12_w, x75r6_w, x75r7_w, x75r8_w, x75r9_w, e22, e23, e24, D.vs_len, hlt, hm, hvj, h3]
      exact hR _ (by rw [hall]; simp [defB, D.kids, hn3]) (by simp [upd_at]) rfl
    obtain ⟨a, b, c, rfl⟩ := list3 hn3
    have hb1 := hmem b (by simp [D.kids])
    have hvs : D.vs [a, b, c] = [a.v, b.v, c.v] := rfl
    rw [hvs] at hvj
    cases hnb : nms 8 b with
    | false =>
      rw [hnb] at hb1
      simp -implicitDefEqProofs [x75l12_w, x75r6_w, x75r7_w, x75r8_w, x75r9_w, e22, e23, e24, D.vs_len, hlt, hm, hvj, D.cells_len, D.rd, hb1]
      exact hR _ (by rw [hall]; simp [defB, D.kids, D.kid, hnb]) (by simp [upd_at]) rfl
    | true =>
      rw [hnb] at hb1
      have hall' : l.all defB = (l.drop (j + 1)).all defB := by rw [hall]; simp [defB, D.kd, D.kids, D.kid, hnb]
      have hlen : (l.take j).length = j := by simp; omega
      have hvl : (D.vs ((l.take j).map fun x => x.kid 0)).length = j := by rw [D.vs_len, List.length_map, hlen]
      have hhz := D.hz ((l.take j).map fun x => x.kid 0)
      have hj1 : (j + 1) * 56 ≤ 140737488355328 := by omega
      have hj2 : j + 1 ≤ 140737488355328 := by omega
      have hkid : (D.mk 3 n' t' [a, b, c]).kid 0 = a := rfl
      have htm : (l.take (j + 1)).map (fun x => x.kid 0) = (l.take j).map (fun x => x.kid 0) ++ [a] := by rw [ht, List.map_append]; rfl
      have hnew : D.vs ((l.take (j + 1)).map fun x => x.kid 0) = D.vs ((l.take j).map fun x => x.kid 0) ++ [a.v] := by rw [htm, D.vs_app]; rfl
      have hnl : ((l.take (j + 1)).map fun x => x.kid 0).length = j + 1 := by simp; omega
      have hol : ((l.take j).map fun x => x.kid 0).length = j := by simp; omega
      generalize D.vs ((l.take j).map fun x => x.kid 0) = W at *
      rcases hsi with ⟨hout, rfl⟩ | ⟨q, rfl, hq⟩
      · simp -implicitDefEqProofs [x75l12_w, x75r6_w, x75r7_w, x75r8_w, x75r9_w, x75r10_w, x75r11_w, e22, e23, e24, e3, D.vs_len, hlt, hm, hvj, D.cells_len, D.rd, D.vw2, D.okc, hb1, hj1, hj2, hvl, hhz, get_last2, set_last2]
        refine ⟨m - 1, by omega, ⟨⟨j + 1, _, .tok (rest.length + 2 + 1), by omega, ?_, ?_, rfl, .inr ⟨rest.length + 2, rfl, ?_⟩, hall'⟩, ?_, ?_, rfl⟩⟩
        · simp only [upd_at]
          simp
          rw [wrap_in (by omega)]
        · rw [hnew]; simp [upd_at]
        · rw [hnl, List.getElem?_append_right (by omega)]; simp
        · simp [upd_at, e22]
        · simp [upd_at, e23]
      · rw [hol] at hq
        obtain ⟨hql, hqv⟩ := List.getElem?_eq_some_iff.1 hq
        have hqa : ∀ pre : List O, (rest ++ pre)[q]? = some (.tok j 4) := fun pre => by rw [List.getElem?_append_left hql]; exact hq
        simp -implicitDefEqProofs [x75l12_w, x75r6_w, x75r7_w, x75r8_w, x75r9_w, x75r10_w, x75r11_w, e22, e23, e24, e3, D.vs_len, hlt, hm, hvj, D.cells_len, D.rd, D.vw2, D.okc, hb1, hj1, hj2, hvl, hhz, hqa]
        refine ⟨m - 1, by omega, ⟨⟨j + 1, _, .tok (q + 1), by omega, ?_, ?_, rfl, .inr ⟨q, rfl, ?_⟩, hall'⟩, ?_, ?_, rfl⟩⟩
        · simp only [upd_at]
          simp
          rw [wrap_in (by omega)]
        · rw [hnew]; simp [upd_at]
        · rw [hnl, List.getElem?_set_self (by simp; omega)]
        · simp [upd_at, e22]
        · simp [upd_at, e23]
  · have hlt : ¬ (j : Int) < l.length := by omega
    rw [List.take_of_length_le (by omega)] at e3
    simp -implicitDefEqProofs [x75l12_w, x75r6_w, e22, e23, e24, hlt]
    refine hQ _ si ?_ (by simp [upd_at, e3]) rfl
    rw [hall, List.drop_of_length_le (by omega)]
    rfl
theorem go75 (d : D) {n : Nat} (hn : ∀ x ∈ d.kids, ∀ y ∈ x.kids, y.kids.length + 3 < n) (hn2 : d.kids.length + 3 < n) (hl : d.kids.length < 1099511627776) (hl2 : ∀ x ∈ d.kids, ∀ y ∈ x.kids, y.kids.length < 1099511627776) : Gives (n + 1) 75 [d.v] (.c (.bool (grp d))) := by
  obtain ⟨n, rfl⟩ : ∃ n', n = n' + 1 := ⟨n - 1, by omega⟩
  have c1 : ∀ x ∈ d.kids, ∀ y ∈ x.kids, ∀ h, call X E (n + 1) 73 [y.v, .c (.int .i64 8)] h = some (.c (.bool (nms 8 y)), h) := fun x hx y hy => go73 y 8 (by have := hn x hx y hy; omega) (hl2 x hx y hy)
  have c2 : ∀ si h, call X E (n + 1) 87 [.sl (D.vs (d.kids.map fun x => x.kid 0)) si, .c (.int .i64 40)] h = some (.c (.bool (decide (d.kids.length ≤ 40) && diff [] (d.kids.map fun x => x.kid 0))), h) := fun si => by
    have := go87 (d.kids.map fun x => x.kid 0) si 40 (n := n) (by simp; omega) (by simpa using hl)
    rw [List.length_map] at this
    exact this
  obtain ⟨k, i, t, l⟩ := d
  simp only [D.kids] at c1 c2 hn2 hl
  generalize n + 1 = m at *
  refine gives_of rfl rfl rfl (by kernel_rfl) ⟨rfl, rfl⟩ (by simp [D.vw2, V.lows, D.low]) ?_
  by_cases hk : k = 3
  rotate_left
  · have h3 : (k != 3) = true := by simp [hk]
    simp -implicitDefEqProofs [x75_w, x75_r, x75r1_w, x75r2_w, x75r3_w, D.vw2, D.v, h3, grp, D.kd, hk]
  subst hk
  by_cases h0 : l.length = 0
  · have h1 : ((l.length : Int) == 0) = true := by simp; exact List.eq_nil_of_length_eq_zero h0
    have : l = [] := List.eq_nil_of_length_eq_zero h0
    simp -implicitDefEqProofs [x75_w, x75_r, x75r1_w, x75r2_w, x75r3_w, D.vw2, D.v, D.vs_len, h1, grp, D.kd, D.kids, this]
  have h1 : ((l.length : Int) == 0) = false := by simp; intro e; simp [e] at h0
  have he : l.isEmpty = false := by cases l with | nil => simp at h0 | cons _ _ => rfl
  by_cases h40 : l.length ≤ 40
  rotate_left
  · have h2 : (l.length : Int) > 40 := by omega
    simp -implicitDefEqProofs [x75_w, x75_r, x75r1_w, x75r2_w, x75r3_w, D.vw2, D.v, D.vs_len, h1, h2, grp, D.kd, D.kids, h40]
  have h2 : ¬ (l.length : Int) > 40 := by omega
  simp -implicitDefEqProofs [x75_w, x75_r, x75r1_w, x75r2_w, x75r3_w, x75r4_w, x75r5_w, D.vw2, D.v, D.vs_len, h1, h2]
  refine lpk_of (J75 l 3 i t) l.length (by omega) ⟨⟨0, [], .nil, by simp, ?_, ?_, by simp, .inl ⟨rfl, rfl⟩, by simp⟩, ?_, ?_, rfl⟩ ?_
  · simp [upd_at]
  · simp [upd_at, D.vs]
  · simp [upd_at]
  · simp [upd_at]
  · refine jstep75 hl c1 (fun s si h3 h4 hb => ?_) fun s h3 h4 hb => ?_
    · obtain ⟨e, h, base, rb⟩ := s
      simp only at hb h4
      subst hb
      simp -implicitDefEqProofs [x75_r, x75r13_w, h4, c2, grp, D.kd, D.kids, he, h40, h3]
    · obtain ⟨e, h, base, rb⟩ := s
      simp only at hb h4
      subst hb
      simp -implicitDefEqProofs [x75_r, h4, grp, D.kd, D.kids, he, h40, h3]
end Go.Proofs.YtkiliokeanmagaaDoor.Ab

namespace Go.Proofs.YtkiliokeanmagaaDoor.Ab
open Go
set_option linter.unusedVariables false
set_option linter.unusedSimpArgs false
set_option maxRecDepth 8000
set_option maxHeartbeats 4000000
theorem wf_cases (s : ByteArray) : wf s = 0 ∨ wf s = 3 ∨ wf s = 4 ∨ wf s = 5 ∨ wf s = 6 ∨ wf s = 7 ∨ wf s = 8 ∨ wf s = 9 := by
  unfold wf
  repeat' split
  all_goals omega
def form0 : List D → Int
  | [] => 0
  | x :: _ => if x.kd = 2 then wf x.tx else 0
theorem form0_cases (l : List D) : form0 l = 0 ∨ form0 l = 3 ∨ form0 l = 4 ∨ form0 l = 5 ∨ form0 l = 6 ∨ form0 l = 7 ∨ form0 l = 8 ∨ form0 l = 9 := by
  cases l with
  | nil => exact .inl rfl
  | cons x l =>
    simp only [form0]
    split
    · exact wf_cases _
    · exact .inl rfl
def okF (f : Int) (l : List D) : Bool :=
  if f = 0 then decide (l.length ≤ 9) else if f = 3 then l.length == 2 else if f = 4 then l.length == 4 else if f = 5 then l.length == 3 && nms 8 (l.getD 1 .z0) else
  if f = 9 then l.length == 3 && (nms 3 (l.getD 1 .z0) && (l.getD 1 .z0).kids.length == 3) else if f = 6 then l.length == 4 && (l.getD 1 .z0).nm else
  if f = 8 then l.length == 3 else if f = 7 then l.length == 3 && grp (l.getD 1 .z0) else false
def D.form : D → Int
  | .mk k _ t l => if k = 1 then 1 else if k = 2 then (if wf t > 0 then 0 else 2) else if l.isEmpty then 0 else if okF (form0 l) l = true then (if form0 l = 0 then 10 else form0 l) else 0
theorem list4 {l : List D} (h : l.length = 4) : ∃ a b c d, l = [a, b, c, d] := by
  match l, h with
  | [a, b, c, d], _ => exact ⟨a, b, c, d, rfl⟩
theorem kids_lt (d : D) : d.kids.length < d.sz := by
  obtain ⟨k, i, t, l⟩ := d
  have := D.len_szs l
  simp only [D.kids, D.sz]
  omega
theorem kid_lt {d x : D} (h : x ∈ d.kids) : x.sz < d.sz := by
  obtain ⟨k, i, t, l⟩ := d
  have := D.mem_sz h
  simp only [D.kids, D.sz] at *
  omega
theorem go54 (d : D) {n : Nat} (hn : d.sz + 8 < n) (hl : d.sz < 1099511627776) : Gives (n + 1) 54 [d.v] (.c (.int .i64 d.form)) := by
  obtain ⟨n, rfl⟩ : ∃ n', n = n' + 1 := ⟨n - 1, by omega⟩
  have c73 : ∀ x ∈ d.kids, ∀ (most : Nat) h, call X E (n + 1) 73 [x.v, .c (.int .i64 most)] h = some (.c (.bool (nms most x)), h) := fun x hx most => go73 x most (by have := kid_lt hx; have := kids_lt x; omega) (by have := kid_lt hx; have := kids_lt x; omega)
  have c74 : ∀ (x : D) h, call X E (n + 1) 74 [x.v] h = some (.c (.bool x.nm), h) := fun x => go74 x
  have c75 : ∀ x ∈ d.kids, ∀ h, call X E (n + 1) 75 [x.v] h = some (.c (.bool (grp x)), h) := fun x hx => go75 x (fun y hy z hz => by have := kid_lt hx; have := kid_lt hy; have := kid_lt hz; have := kids_lt z; omega) (by have := kid_lt hx; have := kids_lt x; omega) (by have := kid_lt hx; have := kids_lt x; omega) (fun y hy z hz => by have := kid_lt hx; have := kid_lt hy; have := kid_lt hz; have := kids_lt z; omega)
  obtain ⟨k, i, t, l⟩ := d
  have hlen : l.length < 1099511627776 := by have := kids_lt (.mk k i t l); simp only [D.kids] at this; omega
  simp only [D.kids] at c73 c75
  generalize n + 1 = m at *
  clear hn hl
  refine gives_of rfl rfl rfl (by kernel_rfl) ⟨rfl, rfl⟩ (by simp [D.vw2, V.lows, D.low]) ?_
  by_cases hk1 : k = 1
  · subst hk1
    simp -implicitDefEqProofs [x54_w, x54_r, x54r1_w, x54r2_w, x54r3_w, x54r4_w, D.vw2, D.v, D.form]
  have k1 : (k == 1) = false := by simp [hk1]
  by_cases hk2 : k = 2
  · subst hk2
    by_cases hw : wf t > 0
    · simp -implicitDefEqProofs [-lookF_fmp, x54_w, x54_r, x54r1_w, x54r2_w, x54r3_w, x54r5_w, x54r6_w, x54r7_w, x54r8_w, D.vw2, D.v, D.form, look_w2, hw]
    · simp -implicitDefEqProofs [-lookF_fmp, x54_w, x54_r, x54r1_w, x54r2_w, x54r3_w, x54r5_w, x54r6_w, x54r7_w, x54r8_w, D.vw2, D.v, D.form, look_w2, hw]
  have k2 : (k == 2) = false := by simp [hk2]
  by_cases hl0 : l.length = 0
  · have : l = [] := List.eq_nil_of_length_eq_zero hl0
    subst this
    simp -implicitDefEqProofs [x54_w, x54_r, x54r1_w, x54r2_w, x54r3_w, x54r5_w, x54r9_w, x54r10_w, D.vw2, D.v, D.vs, D.form, k1, k2, hk1, hk2]
  have hz0 : ((l.length : Int) == 0) = false := by simp; intro e; simp [e] at hl0
  have hpos : 0 < l.length := by omega
  have hposI : (0 : Int) < l.length := by omega
  have hne : l.isEmpty = false := by cases l with | nil => simp at hl0 | cons _ _ => rfl
  have hform : (D.mk k i t l).form = if okF (form0 l) l = true then (if form0 l = 0 then 10 else form0 l) else 0 := by simp [D.form, hk1, hk2, hne]
  rw [hform]
  obtain ⟨ka, ia, ta, la, hx⟩ : ∃ ka ia ta la, l[0] = D.mk ka ia ta la := by
    cases hq : l[0] with | mk a b c d => exact ⟨a, b, c, d, rfl⟩
  have hf0 : form0 l = if ka = 2 then wf ta else 0 := by
    cases l with
    | nil => simp at hl0
    | cons a r => simp only [List.getElem_cons_zero] at hx; subst hx; rfl
  have hmem : 1 < l.length → l.getD 1 .z0 ∈ l := fun h => by rw [List.getD_eq_getElem?_getD, List.getElem?_eq_getElem h]; exact List.getElem_mem h
  have hk1v : 1 < l.length → (D.vs l)[1]? = some (l.getD 1 .z0).v := fun h => by rw [D.vs_get h, List.getD_eq_getElem?_getD, List.getElem?_eq_getElem h]; rfl
  have hv0q : (D.vs l)[0]? = some (.agg [.c (.int .i64 ka), .c (.int .i64 ia), .c (.string ta), .sl (D.vs la) .any]) := by rw [D.vs_get hpos, hx]; rfl
  generalize hb : l.getD 1 .z0 = b at *
  have hvl := D.vs_len l
  suffices key : ∀ W : List V, W.length = l.length → W[0]? = some (.agg [.c (.int .i64 ka), .c (.int .i64 ia), .c (.string ta), .sl (D.vs la) .any]) → (1 < l.length → W[1]? = some b.v) →
      wpk (call X E m) m x54.body [] (Fin (fun vs _ => (resOf vs).vw = V.c (.int .i64 (if okF (form0 l) l = true then (if form0 l = 0 then 10 else form0 l) else 0)) ∧ (V.c (.int .i64 (if okF (form0 l) l = true then (if form0 l = 0 then 10 else form0 l) else 0))).low 0 = true) x54) ⟨arg0 (([V.agg [.c (.int .i64 k), .c (.int .i64 i), .c (.string t), .sl W .any]]).map V.vw2), [], 0, 0⟩ from key _ hvl hv0q hk1v
  clear hk1v hv0q hvl
  intro W hvl hv0q hk1v
  have hv0 : W[0]'(by omega) = .agg [.c (.int .i64 ka), .c (.int .i64 ia), .c (.string ta), .sl (D.vs la) .any] := (List.getElem?_eq_some_iff.1 hv0q).2
  have hzero : ∀ hc : (ka == 2) = false ∨ ((ka == 2) = true ∧ wf ta = 0), wpk (call X E m) m x54.body [] (Fin (fun vs _ => (resOf vs).vw = V.c (.int .i64 (if okF 0 l = true then 10 else 0)) ∧ (V.c (.int .i64 (if okF 0 l = true then 10 else 0))).low 0 = true) x54) ⟨arg0 (([V.agg [.c (.int .i64 k), .c (.int .i64 i), .c (.string t), .sl W .any]]).map V.vw2), [], 0, 0⟩ := by
    intro hc
    have h9 : okF 0 l = decide (l.length ≤ 9) := by simp [okF]
    rw [h9]
    rcases hc with hka | ⟨hka, hw⟩
    · by_cases hn9 : l.length ≤ 9
      · have hI : (l.length : Int) ≤ 9 := by omega
        simp -implicitDefEqProofs [-lookF_fmp, x54_w, x54_r, x54r1_w, x54r2_w, x54r3_w, x54r5_w, x54r9_w, x54r10_w, x54r11_w, x54r12_w, x54r13_w, x54r14_w, x54r15_w, x54r16_w, x54r33_w, x54r34_w, x54r35_w, x54r17_w, x54r18_w, k1, k2, hvl, hz0, hpos, hposI, hv0, hka, hI, hn9]
      · have hI : ¬ (l.length : Int) ≤ 9 := by omega
        simp -implicitDefEqProofs [-lookF_fmp, x54_w, x54_r, x54r1_w, x54r2_w, x54r3_w, x54r5_w, x54r9_w, x54r10_w, x54r11_w, x54r12_w, x54r13_w, x54r14_w, x54r15_w, x54r16_w, x54r33_w, x54r34_w, x54r35_w, x54r17_w, x54r18_w, k1, k2, hvl, hz0, hpos, hposI, hv0, hka, hI, hn9]
    · by_cases hn9 : l.length ≤ 9
      · have hI : (l.length : Int) ≤ 9 := by omega
        simp -implicitDefEqProofs [-lookF_fmp, x54_w, x54_r, x54r1_w, x54r2_w, x54r3_w, x54r5_w, x54r9_w, x54r10_w, x54r11_w, x54r12_w, x54r13_w, x54r14_w, x54r15_w, x54r16_w, x54r33_w, x54r34_w, x54r35_w, x54r17_w, x54r18_w, k1, k2, hvl, hz0, hpos, hposI, hv0, hka, hI, hn9, look_w2, hw]
      · have hI : ¬ (l.length : Int) ≤ 9 := by omega
        simp -implicitDefEqProofs [-lookF_fmp, x54_w, x54_r, x54r1_w, x54r2_w, x54r3_w, x54r5_w, x54r9_w, x54r10_w, x54r11_w, x54r12_w, x54r13_w, x54r14_w, x54r15_w, x54r16_w, x54r33_w, x54r34_w, x54r35_w, x54r17_w, x54r18_w, k1, k2, hvl, hz0, hpos, hposI, hv0, hka, hI, hn9, look_w2, hw]
  by_cases hka2 : ka = 2
  rotate_left
  · have hka : (ka == 2) = false := by simp [hka2]
    rw [if_neg hka2] at hf0
    rw [hf0]
    exact hzero (.inl hka)
  have hka : (ka == 2) = true := by simp [hka2]
  rw [if_pos hka2] at hf0
  rcases wf_cases ta with hw | hw | hw | hw | hw | hw | hw | hw
  · rw [hf0, hw]
    exact hzero (.inr ⟨hka, hw⟩)
  · rw [hw] at hf0
    have form0f := hf0
    have hok : okF 3 l = (l.length == 2) := by subst hb; rfl
    clear hzero hf0
    by_cases hn : l.length = 2
    rotate_left
    · have hB : ((l.length : Int) == 2) = false := by simp; omega
      simp -implicitDefEqProofs [-lookF_fmp, x54_w, x54_r, x54r1_w, x54r2_w, x54r3_w, x54r5_w, x54r9_w, x54r10_w, x54r11_w, x54r12_w, x54r13_w, x54r14_w, x54r15_w, x54r16_w, x54r33_w, x54r34_w, x54r35_w, x54r17_w, x54r19_w, x54r20_w, k1, k2, hvl, hz0, hpos, hposI, hv0, hka, look_w2, hw, hok, form0f, hB, hn]
    have hB : ((l.length : Int) == 2) = true := by simp; omega
    simp -implicitDefEqProofs [-lookF_fmp, x54_w, x54_r, x54r1_w, x54r2_w, x54r3_w, x54r5_w, x54r9_w, x54r10_w, x54r11_w, x54r12_w, x54r13_w, x54r14_w, x54r15_w, x54r16_w, x54r33_w, x54r34_w, x54r35_w, x54r17_w, x54r19_w, x54r20_w, k1, k2, hvl, hz0, hpos, hposI, hv0, hka, look_w2, hw, hok, form0f, hB, hn]
  · rw [hw] at hf0
    have form0f := hf0
    have hok : okF 4 l = (l.length == 4) := by subst hb; rfl
    clear hzero hf0
    by_cases hn : l.length = 4
    rotate_left
    · have hB : ((l.length : Int) == 4) = false := by simp; omega
      simp -implicitDefEqProofs [-lookF_fmp, x54_w, x54_r, x54r1_w, x54r2_w, x54r3_w, x54r5_w, x54r9_w, x54r10_w, x54r11_w, x54r12_w, x54r13_w, x54r14_w, x54r15_w, x54r16_w, x54r33_w, x54r34_w, x54r35_w, x54r17_w, x54r19_w, x54r21_w, x54r22_w, k1, k2, hvl, hz0, hpos, hposI, hv0, hka, look_w2, hw, hok, form0f, hB, hn]
    have hB : ((l.length : Int) == 4) = true := by simp; omega
    simp -implicitDefEqProofs [-lookF_fmp, x54_w, x54_r, x54r1_w, x54r2_w, x54r3_w, x54r5_w, x54r9_w, x54r10_w, x54r11_w, x54r12_w, x54r13_w, x54r14_w, x54r15_w, x54r16_w, x54r33_w, x54r34_w, x54r35_w, x54r17_w, x54r19_w, x54r21_w, x54r22_w, k1, k2, hvl, hz0, hpos, hposI, hv0, hka, look_w2, hw, hok, form0f, hB, hn]
  · rw [hw] at hf0
    have form0f := hf0
    have hok : okF 5 l = ((l.length == 3 && nms 8 b)) := by subst hb; rfl
    clear hzero hf0
    by_cases hn : l.length = 3
    rotate_left
    · have hB : ((l.length : Int) == 3) = false := by simp; omega
      simp -implicitDefEqProofs [-lookF_fmp, x54_w, x54_r, x54r1_w, x54r2_w, x54r3_w, x54r5_w, x54r9_w, x54r10_w, x54r11_w, x54r12_w, x54r13_w, x54r14_w, x54r15_w, x54r16_w, x54r33_w, x54r34_w, x54r35_w, x54r17_w, x54r19_w, x54r21_w, x54r23_w, x54r24_w, k1, k2, hvl, hz0, hpos, hposI, hv0, hka, look_w2, hw, hok, form0f, hB, hn]
    have hB : ((l.length : Int) == 3) = true := by simp; omega
    have h1 : 1 < l.length := by omega
    have hI1 : (1 : Int) < l.length := by omega
    have hv1 : W[1]'(by omega) = b.v := (List.getElem?_eq_some_iff.1 (hk1v h1)).2
    have cc : ∀ h, call X E m 73 [b.v, .c (.int .i64 8)] h = some (.c (.bool (nms 8 b)), h) := c73 b (hmem h1) 8
    cases hq : nms 8 b with
    | true =>
      rw [hq] at cc
      simp -implicitDefEqProofs [-lookF_fmp, x54_w, x54_r, x54r1_w, x54r2_w, x54r3_w, x54r5_w, x54r9_w, x54r10_w, x54r11_w, x54r12_w, x54r13_w, x54r14_w, x54r15_w, x54r16_w, x54r33_w, x54r34_w, x54r35_w, x54r17_w, x54r19_w, x54r21_w, x54r23_w, x54r24_w, k1, k2, hvl, hz0, hpos, hposI, hv0, hka, look_w2, hw, hok, form0f, hB, hn, h1, hI1, hv1, cc, hq, D.cells_len, D.rd]
    | false =>
      rw [hq] at cc
      simp -implicitDefEqProofs [-lookF_fmp, x54_w, x54_r, x54r1_w, x54r2_w, x54r3_w, x54r5_w, x54r9_w, x54r10_w, x54r11_w, x54r12_w, x54r13_w, x54r14_w, x54r15_w, x54r16_w, x54r33_w, x54r34_w, x54r35_w, x54r17_w, x54r19_w, x54r21_w, x54r23_w, x54r24_w, k1, k2, hvl, hz0, hpos, hposI, hv0, hka, look_w2, hw, hok, form0f, hB, hn, h1, hI1, hv1, cc, hq, D.cells_len, D.rd]
  · rw [hw] at hf0
    have form0f := hf0
    have hok : okF 6 l = ((l.length == 4 && b.nm)) := by subst hb; rfl
    clear hzero hf0
    by_cases hn : l.length = 4
    rotate_left
    · have hB : ((l.length : Int) == 4) = false := by simp; omega
      simp -implicitDefEqProofs [-lookF_fmp, x54_w, x54_r, x54r1_w, x54r2_w, x54r3_w, x54r5_w, x54r9_w, x54r10_w, x54r11_w, x54r12_w, x54r13_w, x54r14_w, x54r15_w, x54r16_w, x54r33_w, x54r34_w, x54r35_w, x54r17_w, x54r19_w, x54r21_w, x54r23_w, x54r25_w, x54r27_w, x54r28_w, k1, k2, hvl, hz0, hpos, hposI, hv0, hka, look_w2, hw, hok, form0f, hB, hn]
    have hB : ((l.length : Int) == 4) = true := by simp; omega
    have h1 : 1 < l.length := by omega
    have hI1 : (1 : Int) < l.length := by omega
    have hv1 : W[1]'(by omega) = b.v := (List.getElem?_eq_some_iff.1 (hk1v h1)).2
    have cc := c74 b
    cases hq : b.nm with
    | true =>
      rw [hq] at cc
      simp -implicitDefEqProofs [-lookF_fmp, x54_w, x54_r, x54r1_w, x54r2_w, x54r3_w, x54r5_w, x54r9_w, x54r10_w, x54r11_w, x54r12_w, x54r13_w, x54r14_w, x54r15_w, x54r16_w, x54r33_w, x54r34_w, x54r35_w, x54r17_w, x54r19_w, x54r21_w, x54r23_w, x54r25_w, x54r27_w, x54r28_w, k1, k2, hvl, hz0, hpos, hposI, hv0, hka, look_w2, hw, hok, form0f, hB, hn, h1, hI1, hv1, cc, hq, D.cells_len, D.rd]
    | false =>
      rw [hq] at cc
      simp -implicitDefEqProofs [-lookF_fmp, x54_w, x54_r, x54r1_w, x54r2_w, x54r3_w, x54r5_w, x54r9_w, x54r10_w, x54r11_w, x54r12_w, x54r13_w, x54r14_w, x54r15_w, x54r16_w, x54r33_w, x54r34_w, x54r35_w, x54r17_w, x54r19_w, x54r21_w, x54r23_w, x54r25_w, x54r27_w, x54r28_w, k1, k2, hvl, hz0, hpos, hposI, hv0, hka, look_w2, hw, hok, form0f, hB, hn, h1, hI1, hv1, cc, hq, D.cells_len, D.rd]
  · rw [hw] at hf0
    have form0f := hf0
    have hok : okF 7 l = ((l.length == 3 && grp b)) := by subst hb; rfl
    clear hzero hf0
    by_cases hn : l.length = 3
    rotate_left
    · have hB : ((l.length : Int) == 3) = false := by simp; omega
      simp -implicitDefEqProofs [-lookF_fmp, x54_w, x54_r, x54r1_w, x54r2_w, x54r3_w, x54r5_w, x54r9_w, x54r10_w, x54r11_w, x54r12_w, x54r13_w, x54r14_w, x54r15_w, x54r16_w, x54r33_w, x54r34_w, x54r35_w, x54r17_w, x54r19_w, x54r21_w, x54r23_w, x54r25_w, x54r27_w, x54r29_w, x54r31_w, x54r32_w, k1, k2, hvl, hz0, hpos, hposI, hv0, hka, look_w2, hw, hok, form0f, hB, hn]
    have hB : ((l.length : Int) == 3) = true := by simp; omega
    have h1 : 1 < l.length := by omega
    have hI1 : (1 : Int) < l.length := by omega
    have hv1 : W[1]'(by omega) = b.v := (List.getElem?_eq_some_iff.1 (hk1v h1)).2
    have cc := c75 b (hmem h1)
    cases hq : grp b with
    | true =>
      rw [hq] at cc
      simp -implicitDefEqProofs [-lookF_fmp, x54_w, x54_r, x54r1_w, x54r2_w, x54r3_w, x54r5_w, x54r9_w, x54r10_w, x54r11_w, x54r12_w, x54r13_w, x54r14_w, x54r15_w, x54r16_w, x54r33_w, x54r34_w, x54r35_w, x54r17_w, x54r19_w, x54r21_w, x54r23_w, x54r25_w, x54r27_w, x54r29_w, x54r31_w, x54r32_w, k1, k2, hvl, hz0, hpos, hposI, hv0, hka, look_w2, hw, hok, form0f, hB, hn, h1, hI1, hv1, cc, hq, D.cells_len, D.rd]
    | false =>
      rw [hq] at cc
      simp -implicitDefEqProofs [-lookF_fmp, x54_w, x54_r, x54r1_w, x54r2_w, x54r3_w, x54r5_w, x54r9_w, x54r10_w, x54r11_w, x54r12_w, x54r13_w, x54r14_w, x54r15_w, x54r16_w, x54r33_w, x54r34_w, x54r35_w, x54r17_w, x54r19_w, x54r21_w, x54r23_w, x54r25_w, x54r27_w, x54r29_w, x54r31_w, x54r32_w, k1, k2, hvl, hz0, hpos, hposI, hv0, hka, look_w2, hw, hok, form0f, hB, hn, h1, hI1, hv1, cc, hq, D.cells_len, D.rd]
  · rw [hw] at hf0
    have form0f := hf0
    have hok : okF 8 l = (l.length == 3) := by subst hb; rfl
    clear hzero hf0
    by_cases hn : l.length = 3
    rotate_left
    · have hB : ((l.length : Int) == 3) = false := by simp; omega
      simp -implicitDefEqProofs [-lookF_fmp, x54_w, x54_r, x54r1_w, x54r2_w, x54r3_w, x54r5_w, x54r9_w, x54r10_w, x54r11_w, x54r12_w, x54r13_w, x54r14_w, x54r15_w, x54r16_w, x54r33_w, x54r34_w, x54r35_w, x54r17_w, x54r19_w, x54r21_w, x54r23_w, x54r25_w, x54r27_w, x54r29_w, x54r30_w, k1, k2, hvl, hz0, hpos, hposI, hv0, hka, look_w2, hw, hok, form0f, hB, hn]
    have hB : ((l.length : Int) == 3) = true := by simp; omega
    simp -implicitDefEqProofs [-lookF_fmp, x54_w, x54_r, x54r1_w, x54r2_w, x54r3_w, x54r5_w, x54r9_w, x54r10_w, x54r11_w, x54r12_w, x54r13_w, x54r14_w, x54r15_w, x54r16_w, x54r33_w, x54r34_w, x54r35_w, x54r17_w, x54r19_w, x54r21_w, x54r23_w, x54r25_w, x54r27_w, x54r29_w, x54r30_w, k1, k2, hvl, hz0, hpos, hposI, hv0, hka, look_w2, hw, hok, form0f, hB, hn]
  · rw [hw] at hf0
    have form0f := hf0
    have hok : okF 9 l = ((l.length == 3 && (nms 3 b && b.kids.length == 3))) := by subst hb; rfl
    clear hzero hf0
    by_cases hn : l.length = 3
    rotate_left
    · have hB : ((l.length : Int) == 3) = false := by simp; omega
      simp -implicitDefEqProofs [-lookF_fmp, x54_w, x54_r, x54r1_w, x54r2_w, x54r3_w, x54r5_w, x54r9_w, x54r10_w, x54r11_w, x54r12_w, x54r13_w, x54r14_w, x54r15_w, x54r16_w, x54r33_w, x54r34_w, x54r35_w, x54r17_w, x54r19_w, x54r21_w, x54r23_w, x54r25_w, x54r26_w, k1, k2, hvl, hz0, hpos, hposI, hv0, hka, look_w2, hw, hok, form0f, hB, hn]
    have hB : ((l.length : Int) == 3) = true := by simp; omega
    have h1 : 1 < l.length := by omega
    have hI1 : (1 : Int) < l.length := by omega
    have hv1 : W[1]'(by omega) = b.v := (List.getElem?_eq_some_iff.1 (hk1v h1)).2
    have cc : ∀ h, call X E m 73 [b.v, .c (.int .i64 3)] h = some (.c (.bool (nms 3 b)), h) := c73 b (hmem h1) 3
    cases hq : nms 3 b with
    | false =>
      rw [hq] at cc
      simp -implicitDefEqProofs [-lookF_fmp, x54_w, x54_r, x54r1_w, x54r2_w, x54r3_w, x54r5_w, x54r9_w, x54r10_w, x54r11_w, x54r12_w, x54r13_w, x54r14_w, x54r15_w, x54r16_w, x54r33_w, x54r34_w, x54r35_w, x54r17_w, x54r19_w, x54r21_w, x54r23_w, x54r25_w, x54r26_w, k1, k2, hvl, hz0, hpos, hposI, hv0, hka, look_w2, hw, hok, form0f, hB, hn, h1, hI1, hv1, cc, hq, D.cells_len, D.rd]
    | true =>
      rw [hq] at cc
      obtain ⟨kb, ib, tb, lb⟩ := b
      simp only [D.v] at hv1 cc
      have hlb := D.vs_len lb
      by_cases h3 : lb.length = 3
      · have hB3 : ((lb.length : Int) == 3) = true := by simp; omega
        simp -implicitDefEqProofs [-lookF_fmp, x54_w, x54_r, x54r1_w, x54r2_w, x54r3_w, x54r5_w, x54r9_w, x54r10_w, x54r11_w, x54r12_w, x54r13_w, x54r14_w, x54r15_w, x54r16_w, x54r33_w, x54r34_w, x54r35_w, x54r17_w, x54r19_w, x54r21_w, x54r23_w, x54r25_w, x54r26_w, k1, k2, hvl, hz0, hpos, hposI, hv0, hka, look_w2, hw, hok, form0f, hB, hn, h1, hI1, hv1, cc, hq, hlb, hB3, h3, D.kids]
      · have hB3 : ((lb.length : Int) == 3) = false := by simp; omega
        simp -implicitDefEqProofs [-lookF_fmp, x54_w, x54_r, x54r1_w, x54r2_w, x54r3_w, x54r5_w, x54r9_w, x54r10_w, x54r11_w, x54r12_w, x54r13_w, x54r14_w, x54r15_w, x54r16_w, x54r33_w, x54r34_w, x54r35_w, x54r17_w, x54r19_w, x54r21_w, x54r23_w, x54r25_w, x54r26_w, k1, k2, hvl, hz0, hpos, hposI, hv0, hka, look_w2, hw, hok, form0f, hB, hn, h1, hI1, hv1, cc, hq, hlb, hB3, h3, D.kids]
end Go.Proofs.YtkiliokeanmagaaDoor.Ab

namespace Go.Proofs.YtkiliokeanmagaaDoor.Ab
open Go
set_option linter.unusedVariables false
set_option linter.unusedSimpArgs false
set_option maxRecDepth 8000
set_option maxHeartbeats 1000000
def txs (l : List D) : List ByteArray := l.map D.tx
end Go.Proofs.YtkiliokeanmagaaDoor.Ab

namespace Go.Proofs.YtkiliokeanmagaaDoor.Ab
open Go
set_option linter.unusedVariables false
set_option linter.unusedSimpArgs false
set_option maxRecDepth 8000
set_option maxHeartbeats 1000000
end Go.Proofs.YtkiliokeanmagaaDoor.Ab

namespace Go.Proofs.YtkiliokeanmagaaDoor.Ab
open Go
set_option linter.unusedVariables false
set_option linter.unusedSimpArgs false
set_option maxRecDepth 8000
set_option maxHeartbeats 2000000
def dd : List ByteArray → List D → Bool
  | _, [] => true
  | seen, x :: l => (defB x && ((x.kid 0).nm && !inB seen (x.kid 0).tx)) && dd (seen ++ [(x.kid 0).tx]) l
end Go.Proofs.YtkiliokeanmagaaDoor.Ab

namespace Go.Proofs.YtkiliokeanmagaaDoor.Ab
open Go
set_option linter.unusedVariables false
set_option linter.unusedSimpArgs false
set_option maxRecDepth 8000
set_option maxHeartbeats 4000000
end Go.Proofs.YtkiliokeanmagaaDoor.Ab

namespace Go.Proofs.YtkiliokeanmagaaDoor.Ab
open Go
set_option linter.defProp false
section
variable (cf : CallF) (n : Nat) (s : SF) (K : List Fr) (Q : Ex → SF → Prop)
def x10r1_w := rK cf n s K Q x10r1 rfl
def x10r2_w := rK cf n s K Q x10r2 rfl
def x10r3_w := rK cf n s K Q x10r3 rfl
def x10r4_w := rK cf n s K Q x10r4 rfl
def x10r5_w := rK cf n s K Q x10r5 rfl
def x10r6_w := rK cf n s K Q x10r6 rfl
def x10r7_w := rK cf n s K Q x10r7 rfl
def x10r8_w := rK cf n s K Q x10r8 rfl
def x10_w := bK cf n s K Q x10 rfl
def x10_r := bR x10 rfl
def x36r1_w := rK cf n s K Q x36r1 rfl
def x36r2_w := rK cf n s K Q x36r2 rfl
def x36r3_w := rK cf n s K Q x36r3 rfl
def x36r4_w := rK cf n s K Q x36r4 rfl
def x36r5_w := rK cf n s K Q x36r5 rfl
def x36_w := bK cf n s K Q x36 rfl
def x36_r := bR x36 rfl
def x1003600r1_w := rK cf n s K Q x1003600r1 rfl
def x1003600r2_w := rK cf n s K Q x1003600r2 rfl
def x1003600r3_w := rK cf n s K Q x1003600r3 rfl
def x1003600r4_w := rK cf n s K Q x1003600r4 rfl
def x1003600r5_w := rK cf n s K Q x1003600r5 rfl
def x1003600_w := bK cf n s K Q x1003600 rfl
def x45r1_w := rK cf n s K Q x45r1 rfl
def x45r2_w := rK cf n s K Q x45r2 rfl
def x45_w := bK cf n s K Q x45 rfl
def x45_r := bR x45 rfl
def x64r1_w := rK cf n s K Q x64r1 rfl
def x64r2_w := rK cf n s K Q x64r2 rfl
def x64r3_w := rK cf n s K Q x64r3 rfl
def x64r4_w := rK cf n s K Q x64r4 rfl
def x64r5_w := rK cf n s K Q x64r5 rfl
def x64r6_w := rK cf n s K Q x64r6 rfl
def x64r7_w := rK cf n s K Q x64r7 rfl
def x64r8_w := rK cf n s K Q x64r8 rfl
def x64l9_w := lK cf n s K Q x64l9 rfl
def x64r10_w := rK cf n s K Q x64r10 rfl
def x64r11_w := rK cf n s K Q x64r11 rfl
def x64r12_w := rK cf n s K Q x64r12 rfl
def x64r13_w := rK cf n s K Q x64r13 rfl
def x64r14_w := rK cf n s K Q x64r14 rfl
def x64r15_w := rK cf n s K Q x64r15 rfl
def x64l16_w := lK cf n s K Q x64l16 rfl
def x64r17_w := rK cf n s K Q x64r17 rfl
def x64_w := bK cf n s K Q x64 rfl
def x64_r := bR x64 rfl
def x72r1_w := rK cf n s K Q x72r1 rfl
def x72r2_w := rK cf n s K Q x72r2 rfl
def x72r3_w := rK cf n s K Q x72r3 rfl
def x72r4_w := rK cf n s K Q x72r4 rfl
def x72r5_w := rK cf n s K Q x72r5 rfl
def x72r6_w := rK cf n s K Q x72r6 rfl
def x72r7_w := rK cf n s K Q x72r7 rfl
def x72r8_w := rK cf n s K Q x72r8 rfl
def x72r9_w := rK cf n s K Q x72r9 rfl
def x72r10_w := rK cf n s K Q x72r10 rfl
def x72r11_w := rK cf n s K Q x72r11 rfl
def x72r12_w := rK cf n s K Q x72r12 rfl
def x72r13_w := rK cf n s K Q x72r13 rfl
def x72r14_w := rK cf n s K Q x72r14 rfl
def x72r15_w := rK cf n s K Q x72r15 rfl
def x72l16_w := lK cf n s K Q x72l16 rfl
def x72r17_w := rK cf n s K Q x72r17 rfl
def x72r18_w := rK cf n s K Q x72r18 rfl
def x72r19_w := rK cf n s K Q x72r19 rfl
def x72r20_w := rK cf n s K Q x72r20 rfl
def x72r21_w := rK cf n s K Q x72r21 rfl
def x72r22_w := rK cf n s K Q x72r22 rfl
def x72r23_w := rK cf n s K Q x72r23 rfl
def x72l24_w := lK cf n s K Q x72l24 rfl
def x72_w := bK cf n s K Q x72 rfl
def x72_r := bR x72 rfl
end
end Go.Proofs.YtkiliokeanmagaaDoor.Ab

namespace Go.Proofs.YtkiliokeanmagaaDoor.Ab
open Go
set_option linter.unusedVariables false
set_option linter.unusedSimpArgs false
set_option maxRecDepth 8000
set_option maxHeartbeats 2000000
def pf (p : List Int) : V := .sl (p.map I64) .full
def sub1 (frm : Nat) : List D → Nat → List (List Int × D)
  | [], _ => []
  | x :: l, i => ([((frm + i : Nat) : Int)], x) :: sub1 frm l (i + 1)
def recs : List D → Nat → List (List Int × D)
  | [], _ => []
  | x :: l, i => ([1, (i : Int), 2], x.kid 2) :: recs l (i + 1)
def D.parts (d : D) : List (List Int × D) :=
  if d.form = 4 ∨ d.form = 8 then sub1 1 (d.kids.drop 1) 0 else if d.form = 6 ∨ d.form = 5 ∨ d.form = 9 then sub1 2 (d.kids.drop 2) 0 else
  if d.form = 7 then recs (d.kid 1).kids 0 ++ sub1 2 (d.kids.drop 2) 0 else if d.form = 10 then sub1 0 d.kids 0 else []
def walkY (Y : List Int → D → List O → Option (Bool × List O)) : List (List Int × D) → List O → Option (Bool × List O)
  | [], H => some (true, H)
  | (p, x) :: r, H => match Y p x H with
    | some (true, H') => walkY Y r H'
    | r => r
def YAt (cf : CallF) (k : Int) (y : Nat) (caps : List V) (N : Nat) (P : List O → Prop) (Y : List Int → D → List O → Option (Bool × List O)) (L : List (List Int × D)) : Prop :=
  ∀ p x, (p, x) ∈ L → ∀ H H' b, H.length = N → P H → Y p x H = some (b, H') → H'.length = N ∧ (b = true → P H') ∧ ∀ G, G.take N = H → lowH G → cf y (.c (.int .i64 k) :: pf p :: x.v :: caps) G = some (.c (.bool b), H' ++ G.drop N) ∧ lowH (H' ++ G.drop N)
theorem D.low_cells (m : Nat) (d : D) : V.lows m d.v.cells = true := by
  have := D.low m d
  obtain ⟨k, i, t, l⟩ := d
  simpa [D.v, V.low] using this
theorem low_ext {h : List O} (hl : lowH h) (d : D) (a b : Nat) : lowH (h ++ [.cells d.v.cells, .tok a b]) := by
  unfold lowH at *
  have h1 : h.all (O.low (h ++ [O.cells d.v.cells, O.tok a b]).length) = true := olow_mono (by simp) hl
  rw [List.all_append, h1, Bool.true_and]
  simp only [List.all_cons, olow_cells, D.low_cells, List.all_nil, Bool.and_true, Bool.true_and]
  rfl
theorem take_app {α : Type} {a b : List α} {N : Nat} (h : N ≤ a.length) : (a ++ b).take N = a.take N := List.take_append_of_le_length h
structure J72 (Y : List Int → D → List O → Option (Bool × List O)) (P : List O → Prop) (L : List D) (frm N : Nat) (W : Bool × List O) (k : Int) (y : Nat) (caps : List V) (m : Nat) (s : SF) : Prop where
  j : ∃ j : Nat, j + m = L.length ∧ s.e 47 = .c (.int .i64 j) ∧ N ≤ s.h.length ∧ P (s.h.take N) ∧ walkY Y (sub1 frm (L.drop j) j) (s.h.take N) = some W ∧ lowH s.h
  e45 : s.e 45 = .sl (D.vs L) .any
  e46 : s.e 46 = .c (.int .i64 L.length)
  e3 : s.e 3 = .c (.int .i64 frm)
  e0 : s.e 0 = .yld k.toNat y 2 caps
  b : s.base = N
theorem jstep72 {cf : CallF} {fu : Nat} {Y : List Int → D → List O → Option (Bool × List O)} {P : List O → Prop} {L : List D} {frm N : Nat} {W : Bool × List O} {k : Int} (hk : 0 ≤ k) {y : Nat} (hy : 1000000 ≤ y) {caps : List V} (hl : L.length < 1099511627776) (hfr : frm < 10)
    (hY : YAt cf k y caps N P Y (sub1 frm L 0)) {Q : Ex → SF → Prop}
    (hQ : ∀ s, N ≤ s.h.length → W = (true, s.h.take N) → P (s.h.take N) → s.base = N → Q (.exit 3) s) (hR : ∀ s, N ≤ s.h.length → W = (false, s.h.take N) → s.base = N → Q .ret s) (m : Nat) (s : SF) (I : J72 Y P L frm N W k y caps m s) :
    wpk cf fu x72l24 [] (fun e s' => match e with | .normal => ∃ k1, k1 < m ∧ J72 Y P L frm N W k y caps k1 s' | e => Q e s') s := by
  obtain ⟨⟨j, hj, e47, hN, hP, hw, hlw⟩, e45, e46, e3, e0, hb⟩ := I
  obtain ⟨e, h, base, rb⟩ := s
  simp only at e47 hN hP hw hlw e45 e46 e3 e0 hb
  subst hb
  by_cases hm : j < L.length
  · have hlt : (j : Int) < L.length := by omega
    have hdr : L.drop j = L[j] :: L.drop (j + 1) := List.drop_eq_getElem_cons hm
    rw [hdr] at hw
    simp only [sub1, walkY] at hw
    have hvj : (D.vs L)[j]'(by rw [D.vs_len]; exact hm) = (L[j]).v := D.vs_getE _
    have hin : ([((frm + j : Nat) : Int)], L[j]) ∈ sub1 frm L 0 := by
      have key : ∀ (L : List D) (i j : Nat) (h : j < L.length), ([((frm + (i + j) : Nat) : Int)], L[j]) ∈ sub1 frm L i := by
        intro L
        induction L with
        | nil => intro i j h; simp at h
        | cons a L ih =>
          intro i j h
          cases j with
          | zero => simp [sub1]
          | succ j =>
            have := ih (i + 1) j (by simpa using h)
            simp only [sub1, List.mem_cons, List.getElem_cons_succ]
            right
            rw [show i + (j + 1) = i + 1 + j by omega]
            exact this
      have := key L 0 j hm
      rwa [Nat.zero_add] at this
    cases hq : Y [((frm + j : Nat) : Int)] L[j] (h.take base) with
    | none => rw [hq] at hw; simp at hw
    | some p =>
      obtain ⟨b, H'⟩ := p
      obtain ⟨hl', hP', hcall⟩ := hY _ _ hin (h.take base) H' b (by simp; omega) hP hq
      generalize hx : L[j] = x at *
      have hkk : ((k.toNat : Nat) : Int) = k := by omega
      have hwr : IntKind.i64.wrap ((frm : Int) + j) = ((frm + j : Nat) : Int) := by rw [wrap_in (by omega)]; omega
      obtain ⟨R, hR1, hR2, hR3, hR4, hR5⟩ : ∃ R, cf y (.c (.int .i64 k) :: .sl [.c (.int .i64 ((frm : Int) + j))] .full :: x.v :: caps) (h ++ [O.cells x.v.cells, O.tok 1 1]) = some (.c (.bool b), R) ∧ h.length + 2 ≤ R.length ∧ R.take base = H' ∧ base ≤ R.length ∧ lowH R := by
        refine ⟨H' ++ (h ++ [O.cells x.v.cells, O.tok 1 1]).drop base, ?_, ?_, ?_, ?_, (hcall _ (take_app hN) (low_ext hlw x 1 1)).2⟩
        · have := (hcall _ (take_app hN) (low_ext hlw x 1 1)).1
          have e1 : pf [((frm + j : Nat) : Int)] = .sl [.c (.int .i64 ((frm : Int) + j))] .full := by simp [pf, I64]
          rwa [e1] at this
        · simp; omega
        · rw [List.take_append_of_le_length (by omega), List.take_of_length_le (by omega)]
        · simp; omega
      cases b with
      | true =>
        simp -implicitDefEqProofs [x72l24_w, x72r20_w, x72r21_w, x72r22_w, x72r23_w, e45, e46, e47, e3, e0, D.vs_len, hlt, hm, hvj, D.cells_len, D.rd, D.okc, D.spl, D.vw2, hwr, hkk, pf, hy, hR1, hR2]
        rw [hq] at hw
        refine ⟨m - 1, by omega, ⟨⟨j + 1, by omega, ?_, hR4, by rw [hR3]; exact hP' rfl, by rw [hR3]; exact hw, hR5⟩, ?_, ?_, ?_, ?_, rfl⟩⟩
        · simp only [upd_at, e47]
          simp
          rw [wrap_in (by omega)]
        · simp [upd_at, e45]
        · simp [upd_at, e46]
        · simp [upd_at, e3]
        · simp [upd_at, e0]
      | false =>
        simp -implicitDefEqProofs [x72l24_w, x72r20_w, x72r21_w, x72r22_w, x72r23_w, e45, e46, e47, e3, e0, D.vs_len, hlt, hm, hvj, D.cells_len, D.rd, D.okc, D.spl, D.vw2, hwr, hkk, pf, hy, hR1, hR2]
        rw [hq] at hw
        simp only [Option.some.injEq] at hw
        exact hR _ hR4 (by rw [← hw, hR3]) rfl
  · have hlt : ¬ (j : Int) < L.length := by omega
    rw [List.drop_of_length_le (by omega)] at hw
    simp only [sub1, walkY, Option.some.injEq] at hw
    simp -implicitDefEqProofs [x72l24_w, x72r20_w, e46, e47, hlt]
    exact hQ _ hN hw.symm hP rfl
structure K72 (Y : List Int → D → List O → Option (Bool × List O)) (P : List O → Prop) (L : List D) (Z : List (List Int × D)) (N : Nat) (W : Bool × List O) (k : Int) (y : Nat) (caps : List V) (t1 : V) (m : Nat) (s : SF) : Prop where
  j : ∃ j : Nat, j + m = L.length ∧ s.e 25 = .c (.int .i64 j) ∧ N ≤ s.h.length ∧ P (s.h.take N) ∧ walkY Y (recs (L.drop j) j ++ Z) (s.h.take N) = some W ∧ lowH s.h
  e23 : s.e 23 = .sl (D.vs L) .any
  e24 : s.e 24 = .c (.int .i64 L.length)
  e1 : s.e 1 = t1
  e0 : s.e 0 = .yld k.toNat y 2 caps
  b : s.base = N
theorem recs_mem : ∀ (L : List D) (i j : Nat) (h : j < L.length), ([1, ((i + j : Nat) : Int), 2], (L[j]).kid 2) ∈ recs L i
  | [], i, j, h => by simp at h
  | a :: L, i, 0, h => by simp [recs]
  | a :: L, i, j + 1, h => by
    have := recs_mem L (i + 1) j (by simpa using h)
    simp only [recs, List.mem_cons, List.getElem_cons_succ]
    right
    rw [show i + (j + 1) = i + 1 + j by omega]
    exact this
theorem kstep72 {cf : CallF} {fu : Nat} {Y : List Int → D → List O → Option (Bool × List O)} {P : List O → Prop} {L : List D} {Z : List (List Int × D)} {N : Nat} {W : Bool × List O} {k : Int} (hk : 0 ≤ k) {y : Nat} (hy : 1000000 ≤ y) {caps : List V} {t1 : V} (hl : L.length < 1099511627776) (h3 : ∀ x ∈ L, x.kids.length = 3)
    (hY : YAt cf k y caps N P Y (recs L 0)) {Q : Ex → SF → Prop}
    (hQ : ∀ s, N ≤ s.h.length → lowH s.h → walkY Y Z (s.h.take N) = some W → P (s.h.take N) → s.e 1 = t1 → s.e 0 = .yld k.toNat y 2 caps → s.base = N → Q (.exit 1) s) (hR : ∀ s, N ≤ s.h.length → W = (false, s.h.take N) → s.base = N → Q .ret s) (m : Nat) (s : SF) (I : K72 Y P L Z N W k y caps t1 m s) :
    wpk cf fu x72l16 [] (fun e s' => match e with | .normal => ∃ k1, k1 < m ∧ K72 Y P L Z N W k y caps t1 k1 s' | e => Q e s') s := by
  obtain ⟨⟨j, hj, e25, hN, hP, hw, hlw⟩, e23, e24, e1, e0, hb⟩ := I
  obtain ⟨e, h, base, rb⟩ := s
  simp only at e25 hN hP hw hlw e23 e24 e1 e0 hb
  subst hb
  by_cases hm : j < L.length
  · have hlt : (j : Int) < L.length := by omega
    have hdr : L.drop j = L[j] :: L.drop (j + 1) := List.drop_eq_getElem_cons hm
    rw [hdr] at hw
    simp only [recs, walkY, List.cons_append] at hw
    have hvj : (D.vs L)[j]'(by rw [D.vs_len]; exact hm) = (L[j]).v := D.vs_getE _
    have hin := recs_mem L 0 j hm
    rw [Nat.zero_add] at hin
    have hl3 := h3 _ (List.getElem_mem hm)
    generalize hx : L[j] = x at *
    obtain ⟨kx, ix, tx, lx⟩ := x
    simp only [D.kids] at hl3
    obtain ⟨a, b', c, rfl⟩ := list3 hl3
    have hkid : (D.mk kx ix tx [a, b', c]).kid 2 = c := rfl
    rw [hkid] at hw hin
    have hvx : (D.mk kx ix tx [a, b', c]).v = .agg [.c (.int .i64 kx), .c (.int .i64 ix), .c (.string tx), .sl [a.v, b'.v, c.v] .any] := rfl
    rw [hvx] at hvj
    cases hq : Y [1, (j : Int), 2] c (h.take base) with
    | none => rw [hq] at hw; simp at hw
    | some p =>
      obtain ⟨b, H'⟩ := p
      obtain ⟨hl', hP', hcall⟩ := hY _ _ hin (h.take base) H' b (by simp; omega) hP hq
      have hkk : ((k.toNat : Nat) : Int) = k := by omega
      obtain ⟨R, hR1, hR2, hR3, hR4, hR5⟩ : ∃ R, cf y (.c (.int .i64 k) :: .sl [.c (.int .i64 1), .c (.int .i64 j), .c (.int .i64 2)] .full :: c.v :: caps) (h ++ [O.cells [.c (.int .i64 kx), .c (.int .i64 ix), .c (.string tx), .sl [a.v, b'.v, c.v] .any], O.tok 3 1]) = some (.c (.bool b), R) ∧ h.length + 2 ≤ R.length ∧ R.take base = H' ∧ base ≤ R.length ∧ lowH R := by
        refine ⟨H' ++ (h ++ [O.cells [.c (.int .i64 kx), .c (.int .i64 ix), .c (.string tx), .sl [a.v, b'.v, c.v] .any], O.tok 3 1]).drop base, ?_, ?_, ?_, ?_, (hcall _ (take_app hN) (low_ext hlw (D.mk kx ix tx [a, b', c]) 3 1)).2⟩
        · exact (hcall _ (take_app hN) (low_ext hlw (D.mk kx ix tx [a, b', c]) 3 1)).1
        · simp; omega
        · rw [List.take_append_of_le_length (by omega), List.take_of_length_le (by omega)]
        · simp; omega
      cases b with
      | true =>
        simp -implicitDefEqProofs [x72l16_w, x72r12_w, x72r13_w, x72r14_w, x72r15_w, e23, e24, e25, e0, D.vs_len, hlt, hm, hvj, D.cells_len, D.rd, hkk, hy, hR1, hR2]
        rw [hq] at hw
        refine ⟨m - 1, by omega, ⟨⟨j + 1, by omega, ?_, hR4, by rw [hR3]; exact hP' rfl, by rw [hR3]; exact hw, hR5⟩, ?_, ?_, ?_, ?_, rfl⟩⟩
        · simp only [upd_at, e25]
          simp
          rw [wrap_in (by omega)]
        · simp [upd_at, e23]
        · simp [upd_at, e24]
        · simp [upd_at, e1]
        · simp [upd_at, e0]
      | false =>
        simp -implicitDefEqProofs [x72l16_w, x72r12_w, x72r13_w, x72r14_w, x72r15_w, e23, e24, e25, e0, D.vs_len, hlt, hm, hvj, D.cells_len, D.rd, hkk, hy, hR1, hR2]
        rw [hq] at hw
        simp only [Option.some.injEq] at hw
        exact hR _ hR4 (by rw [← hw, hR3]) rfl
  · have hlt : ¬ (j : Int) < L.length := by omega
    rw [List.drop_of_length_le (by omega)] at hw
    simp only [recs, List.nil_append] at hw
    simp -implicitDefEqProofs [x72l16_w, x72r12_w, e24, e25, hlt]
    exact hQ _ hN hlw hw hP (by simp [upd_at, e1]) (by simp [upd_at, e0]) rfl
end Go.Proofs.YtkiliokeanmagaaDoor.Ab

namespace Go.Proofs.YtkiliokeanmagaaDoor.Ab
open Go
set_option linter.unusedVariables false
set_option linter.unusedSimpArgs false
set_option maxRecDepth 8000
set_option maxHeartbeats 2000000
theorem form_cases (d : D) : d.form = 0 ∨ d.form = 1 ∨ d.form = 2 ∨ d.form = 3 ∨ d.form = 4 ∨ d.form = 5 ∨ d.form = 6 ∨ d.form = 7 ∨ d.form = 8 ∨ d.form = 9 ∨ d.form = 10 := by
  obtain ⟨k, i, t, l⟩ := d
  simp only [D.form]
  have := form0_cases l
  repeat' split
  all_goals omega
theorem form_len {d : D} : (d.form = 4 → d.kids.length = 4) ∧ (d.form = 8 → d.kids.length = 3) ∧ (d.form = 6 → d.kids.length = 4) ∧ (d.form = 5 → d.kids.length = 3) ∧ (d.form = 9 → d.kids.length = 3) ∧ (d.form = 7 → d.kids.length = 3 ∧ grp (d.kid 1) = true) := by
  obtain ⟨k, i, t, l⟩ := d
  have key : ∀ f : Int, 3 ≤ f → f ≤ 9 → (D.mk k i t l).form = f → okF f l = true := by
    intro f h1 h2 hf
    simp only [D.form] at hf
    split at hf
    · omega
    · split at hf
      · split at hf <;> omega
      · split at hf
        · omega
        · split at hf
          · rename_i hok
            split at hf
            · omega
            · rw [hf] at hok; exact hok
          · omega
  refine ⟨fun h => ?_, fun h => ?_, fun h => ?_, fun h => ?_, fun h => ?_, fun h => ?_⟩ <;>
  · have := key _ (by omega) (by omega) h
    simp [okF] at this
    simp only [D.kids, D.kid, List.getD_eq_getElem?_getD]
    first | exact this | exact this.1 | exact ⟨this.1, this.2⟩
theorem tail72 {cf : CallF} {n : Nat} {Y : List Int → D → List O → Option (Bool × List O)} {P : List O → Prop} {kd ni : Int} {t : ByteArray} {l : List D} {frm N c : Nat} {W : Bool × List O} {k : Int} (hk : 0 ≤ k) {y : Nat} (hy : 1000000 ≤ y) {caps : List V} (hl : l.length < 1099511627776) (hfr : frm < 10) (hfl : frm ≤ l.length) (hn : l.length < n)
    (hcell : ∀ G : List O, N ≤ G.length → P (G.take N) → G[c]? = some (.cells [.c (.int .i64 kd), .c (.int .i64 ni), .c (.string t), .sl (D.vs l) .any]))
    (hY : YAt cf k y caps N P Y (sub1 frm (l.drop frm) 0)) (hlow : W.2.all (O.low N) = true) (s : SF) (hN : N ≤ s.h.length) (hP : P (s.h.take N)) (hw : walkY Y (sub1 frm (l.drop frm) 0) (s.h.take N) = some W) (hlw : lowH s.h)
    (e1 : s.e 1 = .ref c 0) (e3 : s.e 3 = .c (.int .i64 frm)) (e0 : s.e 0 = .yld k.toNat y 2 caps) (hb : s.base = N) :
    wpk cf n (.seq x72r19 (.block 3 (.loop x72l24))) [] (Fin (fun vs s => (resOf vs).vw = .tup [] ∧ (V.tup []).low N = true ∧ s.take N = W.2 ∧ W.2.all (O.low N) = true) x72) s := by
  obtain ⟨e, h, base, rb⟩ := s
  simp only at hN hP hw hlw e1 e3 e0 hb
  subst hb
  have hc := hcell h hN hP
  have hvl := D.vs_len l
  have hdv : (D.vs l).drop frm = D.vs (l.drop frm) := by rw [D.vs_map, D.vs_map, List.map_drop]
  have htk : (D.vs l).take l.length = D.vs l := by rw [List.take_of_length_le (by omega)]
  have hI : (0 : Int) ≤ frm ∧ (frm : Int) ≤ l.length := ⟨by omega, by omega⟩
  have hhz := D.hz l
  have hdl : (D.vs (l.drop frm)).length = (l.drop frm).length := D.vs_len _
  generalize D.vs l = U at *
  simp -implicitDefEqProofs [x72r19_w, e1, e3, e0, hc, hvl, hdv, htk, hI.1, hI.2, hhz]
  have hlow' : ∀ x, x ∈ W.2 → O.low base x = true := fun x hx => List.all_eq_true.1 hlow x hx
  have hfin : ∀ s : SF, W.2 = s.h.take base → (resOf ([] : List V)).vw = V.tup [] ∧ V.low base (V.tup []) = true ∧ List.take base s.h = W.2 ∧ ∀ (x : O), x ∈ W.2 → O.low base x = true := fun s h1 => ⟨rfl, by simp [V.low, V.lows], h1.symm, hlow'⟩
  refine lpk_of (J72 Y P (l.drop frm) frm base W k y caps) (l.drop frm).length (by simp; omega) ⟨⟨0, by simp, by simp [upd_at], hN, hP, by simpa using hw, hlw⟩, by simp [upd_at], by simp [upd_at, hdl], by simp [upd_at, e3], by simp [upd_at, e0], rfl⟩ ?_
  refine jstep72 hk hy (by simp; omega) hfr hY (fun s h1 h2 h3 h4 => ?_) fun s h1 h2 h4 => ?_
  · have := hfin s (by rw [h2])
    simp -implicitDefEqProofs [x72_r]
    exact this
  · have := hfin s (by rw [h2])
    simp -implicitDefEqProofs [x72_r]
    exact this
theorem YAt.sub {cf : CallF} {k : Int} {y : Nat} {caps : List V} {N : Nat} {P : List O → Prop} {Y : List Int → D → List O → Option (Bool × List O)} {L L' : List (List Int × D)} (h : YAt cf k y caps N P Y L) (hs : ∀ z ∈ L', z ∈ L) : YAt cf k y caps N P Y L' :=
  fun p x hin => h p x (hs _ hin)
theorem go72 (d : D) {n : Nat} (hn : d.sz + 10 < n) (hl : d.sz < 1099511627776) {H : List O} {c : Nat} {k : Int} (hk : 0 ≤ k) {y : Nat} (hy : 1000000 ≤ y) {caps : List V} {Y : List Int → D → List O → Option (Bool × List O)} {P : List O → Prop} {W : Bool × List O}
    (hcell : ∀ G : List O, H.length ≤ G.length → P (G.take H.length) → G[c]? = some (.cells d.v.cells)) (hP : P H) (hY : YAt (call X E n) k y caps H.length P Y d.parts) (hw : walkY Y d.parts H = some W) (hlow : W.2.all (O.low H.length) = true) (hlH : lowH H) :
    call X E (n + 1) 72 [.yld k.toNat y 2 caps, .ref c 0] H = some (.tup [], W.2) := by
  have hE : E 72 = none := rfl
  have hX : X 72 = some x72 := rfl
  simp only [call, hE, hX, show x72.asg = none from rfl]
  obtain ⟨n, rfl⟩ : ∃ n', n = n' + 1 := ⟨n - 1, by omega⟩
  have c54 : ∀ h, call X E (n + 1) 54 [d.v] h = some (.c (.int .i64 d.form), h) := go54 d (by omega) hl
  have hkl := kids_lt d
  have hfl := form_len (d := d)
  have hfc := form_cases d
  have hHc := hcell H (Nat.le_refl _) (by rw [List.take_of_length_le (Nat.le_refl _)]; exact hP)
  have hvw : ([V.yld k.toNat y 2 caps, .ref c 0] : List V).map V.vw2 = [.yld k.toNat y 2 caps, .ref c 0] := rfl
  refine runF_at (by kernel_rfl) rfl rfl (wpk_of ?_)
  rw [hvw]
  have hl1 : d.kids.length < 1099511627776 := by omega
  have hl2 : d.kids.length < n + 1 := by omega
  generalize hm : n + 1 = m at *
  have tail : ∀ (frm : Nat) (s : SF), frm < 10 → frm ≤ d.kids.length → (∀ z ∈ sub1 frm (d.kids.drop frm) 0, z ∈ d.parts) → H.length ≤ s.h.length → P (s.h.take H.length) → walkY Y (sub1 frm (d.kids.drop frm) 0) (s.h.take H.length) = some W → lowH s.h → s.e 1 = .ref c 0 → s.e 3 = .c (.int .i64 frm) → s.e 0 = .yld k.toNat y 2 caps → s.base = H.length →
      wpk (call X E m) m (.seq x72r19 (.block 3 (.loop x72l24))) [] (Fin (fun vs s => (resOf vs).vw = .tup [] ∧ (V.tup []).low H.length = true ∧ s.take H.length = W.2 ∧ W.2.all (O.low H.length) = true) x72) s := by
    intro frm s h1 h2 h3 h4 h5 h6 h7 e1 e3 e0 hb
    obtain ⟨kd, ni, t, l⟩ := d
    exact tail72 hk hy (show l.length < _ from hl1) h1 h2 (show l.length < _ from hl2) hcell (hY.sub h3) hlow s h4 h5 h6 h7 e1 e3 e0 hb
  have hT : ∀ G : List O, G.length = H.length → G.take H.length = G := fun G hG => List.take_of_length_le (by omega)
  have htH : H.take H.length = H := List.take_of_length_le (Nat.le_refl _)
  rw [x72_w]
  obtain ⟨T, hTt⟩ : ∃ T, T = XC.seq x72r19 (.block 3 (.loop x72l24)) := ⟨_, rfl⟩
  rw [← hTt]
  rw [← hTt] at tail
  clear hTt
  obtain ⟨Q0, hQ0⟩ : ∃ Q0, Q0 = (Fin (fun vs s => (resOf vs).vw = .tup [] ∧ (V.tup []).low H.length = true ∧ s.take H.length = W.2 ∧ W.2.all (O.low H.length) = true) x72) := ⟨_, rfl⟩
  rw [← hQ0]
  rw [← hQ0] at tail
  rcases hfc with hf | hf | hf | hf | hf | hf | hf | hf | hf | hf | hf
  all_goals rw [hf] at c54
  · have hp : d.parts = [] := by simp [D.parts, hf]
    rw [hp] at hw
    simp only [walkY, Option.some.injEq] at hw
    have h1 : W.2 = H := by rw [← hw]
    have h2 : (resOf ([] : List V)).vw = V.tup [] ∧ V.low H.length (V.tup []) = true ∧ H.take H.length = W.2 ∧ W.2.all (O.low H.length) = true := ⟨rfl, by simp [V.low, V.lows], by rw [h1, htH], hlow⟩
    subst hQ0
    clear tail
    generalize W.2 = Z at *
    simp -implicitDefEqProofs [x72r1_w, x72r2_w, x72r3_w, x72r4_w, x72r5_w, x72r6_w, x72r7_w, x72r8_w, x72r9_w, x72r10_w, x72r18_w, hHc, D.rd, c54, x72_r]
    exact ⟨h2.1, h2.2.1, by rw [← htH]; exact h2.2.2.1, fun x hx => List.all_eq_true.1 h2.2.2.2 x hx⟩
  · have hp : d.parts = [] := by simp [D.parts, hf]
    rw [hp] at hw
    simp only [walkY, Option.some.injEq] at hw
    have h1 : W.2 = H := by rw [← hw]
    have h2 : (resOf ([] : List V)).vw = V.tup [] ∧ V.low H.length (V.tup []) = true ∧ H.take H.length = W.2 ∧ W.2.all (O.low H.length) = true := ⟨rfl, by simp [V.low, V.lows], by rw [h1, htH], hlow⟩
    subst hQ0
    clear tail
    generalize W.2 = Z at *
    simp -implicitDefEqProofs [x72r1_w, x72r2_w, x72r3_w, x72r4_w, x72r5_w, x72r6_w, x72r7_w, x72r8_w, x72r9_w, x72r10_w, x72r18_w, hHc, D.rd, c54, x72_r]
    exact ⟨h2.1, h2.2.1, by rw [← htH]; exact h2.2.2.1, fun x hx => List.all_eq_true.1 h2.2.2.2 x hx⟩
  · have hp : d.parts = [] := by simp [D.parts, hf]
    rw [hp] at hw
    simp only [walkY, Option.some.injEq] at hw
    have h1 : W.2 = H := by rw [← hw]
    have h2 : (resOf ([] : List V)).vw = V.tup [] ∧ V.low H.length (V.tup []) = true ∧ H.take H.length = W.2 ∧ W.2.all (O.low H.length) = true := ⟨rfl, by simp [V.low, V.lows], by rw [h1, htH], hlow⟩
    subst hQ0
    clear tail
    generalize W.2 = Z at *
    simp -implicitDefEqProofs [x72r1_w, x72r2_w, x72r3_w, x72r4_w, x72r5_w, x72r6_w, x72r7_w, x72r8_w, x72r9_w, x72r10_w, x72r18_w, hHc, D.rd, c54, x72_r]
    exact ⟨h2.1, h2.2.1, by rw [← htH]; exact h2.2.2.1, fun x hx => List.all_eq_true.1 h2.2.2.2 x hx⟩
  · have hp : d.parts = [] := by simp [D.parts, hf]
    rw [hp] at hw
    simp only [walkY, Option.some.injEq] at hw
    have h1 : W.2 = H := by rw [← hw]
    have h2 : (resOf ([] : List V)).vw = V.tup [] ∧ V.low H.length (V.tup []) = true ∧ H.take H.length = W.2 ∧ W.2.all (O.low H.length) = true := ⟨rfl, by simp [V.low, V.lows], by rw [h1, htH], hlow⟩
    subst hQ0
    clear tail
    generalize W.2 = Z at *
    simp -implicitDefEqProofs [x72r1_w, x72r2_w, x72r3_w, x72r4_w, x72r5_w, x72r6_w, x72r7_w, x72r8_w, x72r9_w, x72r10_w, x72r18_w, hHc, D.rd, c54, x72_r]
    exact ⟨h2.1, h2.2.1, by rw [← htH]; exact h2.2.2.1, fun x hx => List.all_eq_true.1 h2.2.2.2 x hx⟩
  · have hp : d.parts = sub1 1 (d.kids.drop 1) 0 := by simp [D.parts, hf]
    have htl := fun s => tail 1 s (by omega) (by omega) (by rw [hp]; exact fun z hz => hz)
    rw [← hp] at htl
    clear tail
    simp -implicitDefEqProofs [x72r1_w, x72r2_w, x72r3_w, x72r4_w, x72r5_w, x72r6_w, x72r7_w, x72r8_w, x72r9_w, x72r10_w, x72r18_w, hHc, D.rd, c54]
    refine htl _ (Nat.le_refl _) (by rw [htH]; exact hP) (by rw [htH]; exact hw) hlH ?_ ?_ ?_ rfl
    · simp [upd_at, arg0]
    · simp [upd_at]
    · simp [upd_at, arg0]
  · have hp : d.parts = sub1 2 (d.kids.drop 2) 0 := by simp [D.parts, hf]
    have htl := fun s => tail 2 s (by omega) (by omega) (by rw [hp]; exact fun z hz => hz)
    rw [← hp] at htl
    clear tail
    simp -implicitDefEqProofs [x72r1_w, x72r2_w, x72r3_w, x72r4_w, x72r5_w, x72r6_w, x72r7_w, x72r8_w, x72r9_w, x72r10_w, x72r18_w, hHc, D.rd, c54]
    refine htl _ (Nat.le_refl _) (by rw [htH]; exact hP) (by rw [htH]; exact hw) hlH ?_ ?_ ?_ rfl
    · simp [upd_at, arg0]
    · simp [upd_at]
    · simp [upd_at, arg0]
  · have hp : d.parts = sub1 2 (d.kids.drop 2) 0 := by simp [D.parts, hf]
    have htl := fun s => tail 2 s (by omega) (by omega) (by rw [hp]; exact fun z hz => hz)
    rw [← hp] at htl
    clear tail
    simp -implicitDefEqProofs [x72r1_w, x72r2_w, x72r3_w, x72r4_w, x72r5_w, x72r6_w, x72r7_w, x72r8_w, x72r9_w, x72r10_w, x72r18_w, hHc, D.rd, c54]
    refine htl _ (Nat.le_refl _) (by rw [htH]; exact hP) (by rw [htH]; exact hw) hlH ?_ ?_ ?_ rfl
    · simp [upd_at, arg0]
    · simp [upd_at]
    · simp [upd_at, arg0]
  · have hg := (hfl.2.2.2.2.2 hf).2
    have h3 := (hfl.2.2.2.2.2 hf).1
    have hp : d.parts = recs (d.kid 1).kids 0 ++ sub1 2 (d.kids.drop 2) 0 := by simp [D.parts, hf]
    have htl := fun s => tail 2 s (by omega) (by omega) (by rw [hp]; exact fun z hz => List.mem_append_right _ hz)
    clear tail
    obtain ⟨kd, ni, t, l⟩ := d
    obtain ⟨a, b, c', rfl⟩ := list3 h3
    have hk1 : (D.mk kd ni t [a, b, c']).kid 1 = b := rfl
    rw [hk1] at hg hp
    have hdef : ∀ x ∈ b.kids, x.kids.length = 3 := by
      simp only [grp, Bool.and_eq_true] at hg
      intro x hx
      have := List.all_eq_true.1 hg.2.2.2.1 x hx
      simp only [defB, Bool.and_eq_true, beq_iff_eq] at this
      exact this.2.1
    rw [hp] at hw hY
    have hYr := hY.sub (L' := recs b.kids 0) fun z hz => List.mem_append_left _ hz
    obtain ⟨kb, ib, tb, lb⟩ := b
    simp only [D.kids] at hdef hYr hw
    have hbl : lb.length < 1099511627776 ∧ lb.length < m := by
      have h1 := kids_lt (.mk kb ib tb lb)
      have h2 := kid_lt (d := .mk kd ni t [a, .mk kb ib tb lb, c']) (x := .mk kb ib tb lb) (by simp [D.kids])
      simp only [D.kids] at h1
      omega
    have hHc2 : H[c]? = some (.cells [.c (.int .i64 kd), .c (.int .i64 ni), .c (.string t), .sl [a.v, .agg [.c (.int .i64 kb), .c (.int .i64 ib), .c (.string tb), .sl (D.vs lb) .any], c'.v] .any]) := hHc
    have hdv : (D.mk kd ni t [a, .mk kb ib tb lb, c']).v = .agg [.c (.int .i64 kd), .c (.int .i64 ni), .c (.string t), .sl [a.v, .agg [.c (.int .i64 kb), .c (.int .i64 ib), .c (.string tb), .sl (D.vs lb) .any], c'.v] .any] := rfl
    rw [hdv] at c54
    have hvl := D.vs_len lb
    simp -implicitDefEqProofs [x72r1_w, x72r2_w, x72r3_w, x72r4_w, x72r5_w, x72r6_w, x72r7_w, x72r8_w, x72r9_w, x72r10_w, x72r11_w, hHc2, c54, hvl]
    refine lpk_of (K72 Y P lb (sub1 2 [c'] 0) H.length W k y caps (.ref c 0)) lb.length hbl.2 ⟨⟨0, by simp, by simp [upd_at], Nat.le_refl _, by rw [htH]; exact hP, by rw [htH]; exact hw, hlH⟩, by simp [upd_at], by simp [upd_at], by simp [upd_at, arg0], by simp [upd_at, arg0], rfl⟩ ?_
    refine kstep72 hk hy hbl.1 hdef hYr (fun s h1 h0 h2 h3 h4 h5 h6 => ?_) fun s h1 h2 h4 => ?_
    · obtain ⟨e, h, base, rb⟩ := s
      simp only at h1 h0 h2 h3 h4 h5 h6
      subst h6
      simp -implicitDefEqProofs [x72r17_w]
      exact htl _ h1 h3 h2 h0 (by simp [upd_at, h4]) (by simp [upd_at]) (by simp [upd_at, h5]) rfl
    · subst hQ0
      have := List.all_eq_true.1 hlow
      simp -implicitDefEqProofs [x72_r]
      exact ⟨rfl, by simp [V.low, V.lows], by rw [h2], this⟩
  · have hp : d.parts = sub1 1 (d.kids.drop 1) 0 := by simp [D.parts, hf]
    have htl := fun s => tail 1 s (by omega) (by omega) (by rw [hp]; exact fun z hz => hz)
    rw [← hp] at htl
    clear tail
    simp -implicitDefEqProofs [x72r1_w, x72r2_w, x72r3_w, x72r4_w, x72r5_w, x72r6_w, x72r7_w, x72r8_w, x72r9_w, x72r10_w, x72r18_w, hHc, D.rd, c54]
    refine htl _ (Nat.le_refl _) (by rw [htH]; exact hP) (by rw [htH]; exact hw) hlH ?_ ?_ ?_ rfl
    · simp [upd_at, arg0]
    · simp [upd_at]
    · simp [upd_at, arg0]
  · have hp : d.parts = sub1 2 (d.kids.drop 2) 0 := by simp [D.parts, hf]
    have htl := fun s => tail 2 s (by omega) (by omega) (by rw [hp]; exact fun z hz => hz)
    rw [← hp] at htl
    clear tail
    simp -implicitDefEqProofs [x72r1_w, x72r2_w, x72r3_w, x72r4_w, x72r5_w, x72r6_w, x72r7_w, x72r8_w, x72r9_w, x72r10_w, x72r18_w, hHc, D.rd, c54]
    refine htl _ (Nat.le_refl _) (by rw [htH]; exact hP) (by rw [htH]; exact hw) hlH ?_ ?_ ?_ rfl
    · simp [upd_at, arg0]
    · simp [upd_at]
    · simp [upd_at, arg0]
  · have hp : d.parts = sub1 0 (d.kids.drop 0) 0 := by simp [D.parts, hf]
    have htl := fun s => tail 0 s (by omega) (by omega) (by rw [hp]; exact fun z hz => hz)
    rw [← hp] at htl
    clear tail
    simp -implicitDefEqProofs [x72r1_w, x72r2_w, x72r3_w, x72r4_w, x72r5_w, x72r6_w, x72r7_w, x72r8_w, x72r9_w, x72r10_w, x72r18_w, hHc, D.rd, c54]
    refine htl _ (Nat.le_refl _) (by rw [htH]; exact hP) (by rw [htH]; exact hw) hlH ?_ ?_ ?_ rfl
    · simp [upd_at, arg0]
    · simp [upd_at]
    · simp [upd_at, arg0]
end Go.Proofs.YtkiliokeanmagaaDoor.Ab

namespace Go.Proofs.YtkiliokeanmagaaDoor.Ab
open Go
set_option linter.unusedVariables false
set_option linter.unusedSimpArgs false
set_option maxRecDepth 8000
set_option maxHeartbeats 2000000
theorem D.shift (m : Nat) : ∀ d : D, d.v.shift m = d.v := by
  refine D.ind fun k n t l ih => ?_
  have h : V.shifts m (D.vs l) = D.vs l := by
    rw [shifts_map, D.vs_map, List.map_map]
    exact List.map_congr_left fun x hx => ih x hx
  simp [D.v, V.shift, V.shifts, h, SI.shift]
theorem runF_esc {cf : CallF} {n : Nat} {xf : XF} {args : List V} {h : List O} {P : V → List O → Prop} (hx : xfOk xf args.length = true) (hp : xf.pure = true) (he : xf.esc = true) (hl : V.lows 0 (args.map V.vw2) = true)
    (hw : wpx cf n xf.body ⟨arg0 (args.map V.vw2), [], 0, 0⟩ (Fin (fun vs s => P (resOf vs).vw s) xf)) (hr : xf.rw = false := by rfl) : ∃ v H, P v H ∧ runF cf n xf args h = some (v.shift h.length, h ++ H.map (O.shift h.length)) := by
  have := exec_of (cf := cf) (n := n) (xf := xf) (args := args.map V.vw2) (h := []) (by simpa using hx) hw
  obtain ⟨e, s, vs, h1, h2, h3, h4, h5⟩ := this
  refine ⟨(resOf vs).vw, s.h, h5, ?_⟩
  unfold runF
  rw [if_pos hp, if_pos hl, if_pos he, show pre0 xf = [] by simp [pre0, hr], h1]
  cases e with
  | exit id => exact absurd rfl (h2 id)
  | normal => simp [fin, h3]
  | ret => simp [fin, h3]
theorem go45 (d : D) {n : Nat} (h : List O) : call X E (n + 1) 45 [d.v] h = some (.clo 72 [.ref h.length 0], h ++ [.cells d.v.cells]) := by
  have hE : E 45 = none := rfl
  have hX : X 45 = some x45 := rfl
  simp only [call, hE, hX, show x45.asg = none from rfl]
  obtain ⟨v, H, ⟨h1, h2⟩, h3⟩ := runF_esc (cf := call X E n) (n := n) (xf := x45) (args := [d.v]) (h := h) (P := fun v H => v = .clo 72 [.ref 0 0] ∧ H = [.cells d.v.cells]) (by kernel_rfl) rfl rfl (by simp [D.vw2, V.lows, D.low]) (by
    refine wpk_of ?_
    simp -implicitDefEqProofs [x45_w, x45_r, x45r1_w, x45r2_w, D.vw2, D.okc]
    simp [V.vw, V.vw2, V.vw1])
  rw [h3, h1, h2]
  have hs : V.shifts h.length d.v.cells = d.v.cells := by
    obtain ⟨k, i, t, l⟩ := d
    have := D.shift h.length (.mk k i t l)
    simp only [D.v, V.shift, V.agg.injEq] at this
    exact this
  simp [V.shift, V.shifts, O.shift, hs]
end Go.Proofs.YtkiliokeanmagaaDoor.Ab

namespace Go.Proofs.YtkiliokeanmagaaDoor.Ab
open Go
set_option linter.unusedVariables false
set_option linter.unusedSimpArgs false
set_option maxRecDepth 8000
set_option maxHeartbeats 2000000
def pv (p : List Int) : V := .sl (p.map I64) .any
def pvs (ps : List (List Int)) : List V := ps.map pv
theorem pvs_len (ps : List (List Int)) : (pvs ps).length = ps.length := by simp [pvs]
theorem lows_I64 (m : Nat) (p : List Int) : V.lows m (p.map I64) = true := lows_of fun v hv => by
  obtain ⟨i, _, rfl⟩ := List.mem_map.1 hv
  rfl
theorem pv_low (m : Nat) (p : List Int) : (pv p).low m = true := by simp [pv, V.low, lows_I64, SI.low]
theorem hz_I64 (p : List Int) : hz 1 (p.map I64) = true := by cases p <;> rfl
theorem fl_succ {ps : List (List Int)} {j : Nat} (h : j < ps.length) : (ps.take (j + 1)).flatten = (ps.take j).flatten ++ ps[j] := by
  rw [List.take_add_one, List.getElem?_eq_getElem h, List.flatten_append]
  simp only [Option.toList_some, List.flatten_cons, List.flatten_nil, List.append_nil]
theorem fl_le (ps : List (List Int)) (j : Nat) : (ps.take j).flatten.length ≤ ps.flatten.length := by
  have h : ps.flatten = (ps.take j).flatten ++ (ps.drop j).flatten := by rw [← List.flatten_append, List.take_append_drop]
  rw [h, List.length_append]
  omega
theorem call83 {n : Nat} (k : Nat) (hk : k * 8 ≤ 140737488355328) (h : List O) : call X E (n + 1) 83 [.sl [] .nil, .c (.int .i64 k)] h = if k = 0 then some (.sl [] .nil, h) else some (.sl [] (.tok h.length), h ++ [.tok 0 1]) := by
  have hE : E 83 = some (fun _ _ => growE) := rfl
  simp only [call, hE, growE]
  by_cases h0 : k = 0
  · simp [h0]
  · rw [if_neg (by omega), if_pos ⟨by omega, by omega⟩, if_neg h0]
structure J64 (ps : List (List Int)) (m : Nat) (s : SF) : Prop where
  j : ∃ j : Nat, j + m = ps.length ∧ s.e 11 = .c (.int .i64 j) ∧ s.e 3 = .c (.int .i64 (ps.take j).flatten.length)
  e9 : s.e 9 = .sl (pvs ps) .any
  e10 : s.e 10 = .c (.int .i64 ps.length)
  e0 : s.e 0 = .sl (pvs ps) .any
  b : s.base = 0
theorem jstep64 {cf : CallF} {fu : Nat} {ps : List (List Int)} (hl : ps.length < 1099511627776) (hfl : ps.flatten.length < 1099511627776) {Q : Ex → SF → Prop}
    (hQ : ∀ s, s.e 3 = .c (.int .i64 ps.flatten.length) → s.e 0 = .sl (pvs ps) .any → s.base = 0 → Q (.exit 0) s) (m : Nat) (s : SF) (I : J64 ps m s) :
    wpk cf fu x64l9 [] (fun e s' => match e with | .normal => ∃ k1, k1 < m ∧ J64 ps k1 s' | e => Q e s') s := by
  obtain ⟨⟨j, hj, e11, e3⟩, e9, e10, e0, hb⟩ := I
  obtain ⟨e, h, base, rb⟩ := s
  simp only at e11 e3 e9 e10 e0 hb
  subst hb
  have hpl := pvs_len ps
  by_cases hm : j < ps.length
  · have hlt : (j : Int) < ps.length := by omega
    have hq : (pvs ps)[j]'(by omega) = .sl (ps[j].map I64) .any := by simp [pvs, pv]
    have hs := fl_succ hm
    have hle := fl_le ps (j + 1)
    rw [hs, List.length_append] at hle
    have hw : IntKind.i64.wrap (((ps.take j).flatten.length : Int) + ps[j].length) = (((ps.take j).flatten.length + ps[j].length : Nat) : Int) := by rw [wrap_in (by omega)]; omega
    have hs2 : (ps.take (j + 1)).flatten.length = (ps.take j).flatten.length + ps[j].length := by rw [hs, List.length_append]
    generalize (ps.take j).flatten.length = T at *
    generalize hT2 : (ps.take (j + 1)).flatten.length = T2 at *
    have hml : (ps[j].map I64).length = ps[j].length := by simp
    generalize ps[j].map I64 = w at *
    generalize ps[j].length = wl at *
    subst hml
    have hnn : ¬ ((T : Int) + w.length < 0) := by omega
    rw [show ((T + w.length : Nat) : Int) = (T : Int) + w.length by omega] at hw
    simp -implicitDefEqProofs [x64l9_w, x64r4_w, x64r5_w, x64r6_w, x64r7_w, x64r8_w, e9, e10, e11, e3, hpl, hlt, hm, hq, hw, hnn]
    refine ⟨m - 1, by omega, ⟨⟨j + 1, by omega, ?_, ?_⟩, ?_, ?_, ?_, rfl⟩⟩
    · simp only [upd_at, e11]
      simp
      rw [wrap_in (by omega)]
    · rw [hT2, hs2]; simp [upd_at]
    · simp [upd_at, e9]
    · simp [upd_at, e10]
    · simp [upd_at, e0]
  · have hlt : ¬ (j : Int) < ps.length := by omega
    rw [List.take_of_length_le (by omega)] at e3
    simp -implicitDefEqProofs [x64l9_w, x64r4_w, e10, e11, hlt]
    exact hQ _ (by simp [upd_at, e3]) (by simp [upd_at, e0]) rfl
def TokC (n : Nat) (si : SI) (h : List O) : Prop := ∃ q, si = .tok q ∧ h[q]? = some (.tok n 1)
structure K64 (ps : List (List Int)) (m : Nat) (s : SF) : Prop where
  j : ∃ (j : Nat) (si : SI), j + m = ps.length ∧ s.e 27 = .c (.int .i64 j) ∧ s.e 6 = .sl ((ps.take j).flatten.map I64) si ∧ ((ps.flatten = [] ∧ si = .nil) ∨ TokC (ps.take j).flatten.length si s.h)
  e25 : s.e 25 = .sl (pvs ps) .any
  e26 : s.e 26 = .c (.int .i64 ps.length)
  b : s.base = 0
theorem kstep64 {cf : CallF} {fu : Nat} {ps : List (List Int)} (hl : ps.length < 1099511627776) (hfl : ps.flatten.length < 1099511627776) {Q : Ex → SF → Prop}
    (hQ : ∀ s si, s.e 6 = .sl (ps.flatten.map I64) si → s.base = 0 → Q (.exit 2) s) (m : Nat) (s : SF) (I : K64 ps m s) :
    wpk cf fu x64l16 [] (fun e s' => match e with | .normal => ∃ k1, k1 < m ∧ K64 ps k1 s' | e => Q e s') s := by
  obtain ⟨⟨j, si, hj, e27, e6, htk⟩, e25, e26, hb⟩ := I
  obtain ⟨e, h, base, rb⟩ := s
  simp only at e27 e6 htk e25 e26 hb
  subst hb
  have hpl := pvs_len ps
  by_cases hm : j < ps.length
  · have hlt : (j : Int) < ps.length := by omega
    have hq : (pvs ps)[j]'(by omega) = .sl (ps[j].map I64) .any := by simp [pvs, pv]
    have hs := fl_succ hm
    have hle := fl_le ps (j + 1)
    have hz1 := hz_I64 (ps.take j).flatten
    have hz2 := hz_I64 ps[j]
    have hmap : ((ps.take (j + 1)).flatten.map I64) = (ps.take j).flatten.map I64 ++ ps[j].map I64 := by rw [hs, List.map_append]
    have hs2 : (ps.take (j + 1)).flatten.length = (ps.take j).flatten.length + ps[j].length := by rw [hs, List.length_append]
    have hml : (ps[j].map I64).length = ps[j].length := by simp
    have hmT : ((ps.take j).flatten.map I64).length = (ps.take j).flatten.length := List.length_map _
    have hnil : ps.flatten = [] → ps[j].map I64 = [] := fun he => by
      have h0 : ps.flatten.length = 0 := by rw [he]; rfl
      have : ps[j].length = 0 := by omega
      rw [List.eq_nil_of_length_eq_zero this]; rfl
    rw [← hml] at hs2
    generalize ps[j].map I64 = w at *
    generalize hU : (ps.take j).flatten.map I64 = U at *
    generalize hU2 : (ps.take (j + 1)).flatten.map I64 = U2 at *
    rw [← hmT] at hs2 htk
    have hb1 : (U.length + w.length) * 8 ≤ 140737488355328 := by omega
    have hb2 : U.length + w.length ≤ 140737488355328 := by omega
    have fin : ∀ (si' : SI) (s' : SF), s'.e 27 = .c (.int .i64 ((j + 1 : Nat) : Int)) → s'.e 6 = .sl (U ++ w) si' → ((ps.flatten = [] ∧ si' = .nil) ∨ TokC (U.length + w.length) si' s'.h) → s'.e 25 = .sl (pvs ps) .any → s'.e 26 = .c (.int .i64 ps.length) → s'.base = 0 → ∃ k1, k1 < m ∧ K64 ps k1 s' :=
      fun si' s' a1 a2 a3 a4 a5 a6 => ⟨m - 1, by omega, ⟨⟨j + 1, si', by omega, a1, by rw [hU2, hmap]; exact a2, by rw [hs2]; exact a3⟩, a4, a5, a6⟩⟩
    have hwj : IntKind.i64.wrap ((j : Int) + 1) = ((j + 1 : Nat) : Int) := by rw [wrap_in (by omega)]; omega
    cases w with
    | nil =>
      simp -implicitDefEqProofs [x64l16_w, x64r12_w, x64r13_w, x64r14_w, x64r15_w, e25, e26, e27, e6, hpl, hlt, hm, hq, hz1, hb1, hb2]
      simp at hb1 hb2
      refine ⟨⟨by omega, by omega⟩, fin si _ (by simp [upd_at, hwj]) (by simp [upd_at]) ?_ (by simp [upd_at, e25]) (by simp [upd_at, e26]) rfl⟩
      rcases htk with ⟨h1, h2⟩ | ⟨q, h1, h2⟩
      · exact .inl ⟨h1, h2⟩
      · refine .inr ⟨q, h1, ?_⟩
        simp only [List.length_nil, Nat.add_zero]
        rw [List.getElem?_append_left (List.getElem?_eq_some_iff.1 h2).1]
        exact h2
    | cons a r =>
      rcases htk with ⟨h1, h2⟩ | ⟨q, rfl, h2⟩
      · exact absurd (hnil h1) (by simp)
      · have hql := (List.getElem?_eq_some_iff.1 h2).1
        have hqa : ∀ pre : List O, (h ++ pre)[q]? = some (.tok U.length 1) := fun pre => by rw [List.getElem?_append_left hql]; exact h2
        simp only [List.length_cons] at hb1 hb2
        simp -implicitDefEqProofs [x64l16_w, x64r12_w, x64r13_w, x64r14_w, x64r15_w, e25, e26, e27, e6, hpl, hlt, hm, hq, hz1, hz2, hb1, hb2, hqa]
        refine fin (.tok q) _ (by simp [upd_at, hwj]) (by simp [upd_at]) (.inr ⟨q, rfl, ?_⟩) (by simp [upd_at, e25]) (by simp [upd_at, e26]) rfl
        simp only [List.length_cons]
        rw [List.getElem?_set_self (by simp; omega)]
  · have hlt : ¬ (j : Int) < ps.length := by omega
    rw [List.take_of_length_le (by omega)] at e6
    simp -implicitDefEqProofs [x64l16_w, x64r12_w, e26, e27, hlt]
    exact hQ _ si (by simp [upd_at, e6]) rfl
theorem go64 (ps : List (List Int)) (si : SI) {n : Nat} (hn : ps.length + 2 < n) (hl : ps.length < 1099511627776) (hfl : ps.flatten.length < 1099511627776) : Gives (n + 1) 64 [.sl (pvs ps) si] (pv ps.flatten) := by
  obtain ⟨n, rfl⟩ : ∃ n', n = n' + 1 := ⟨n - 1, by omega⟩
  have c83 : ∀ h, call X E (n + 1) 83 [.sl [] .nil, .c (.int .i64 ps.flatten.length)] h = if ps.flatten.length = 0 then some (.sl [] .nil, h) else some (.sl [] (.tok h.length), h ++ [.tok 0 1]) := call83 _ (by omega)
  have hlow : V.lows 0 (pvs ps) = true := lows_of fun v hv => by
    obtain ⟨p, _, rfl⟩ := List.mem_map.1 hv
    exact pv_low 0 p
  have hpl := pvs_len ps
  have hres : (V.sl (ps.flatten.map I64) .any).low 0 = true := pv_low 0 ps.flatten
  generalize n + 1 = m at *
  refine gives_of rfl rfl rfl (by kernel_rfl) ⟨rfl, rfl⟩ (by simp [vw2_sl, V.lows, V.low, hlow, SI.low]) ?_
  have hpv : pv ps.flatten = .sl (ps.flatten.map I64) .any := rfl
  rw [hpv]
  obtain ⟨U, hU⟩ : ∃ U, U = ps.flatten.map I64 := ⟨_, rfl⟩
  rw [← hU] at hres ⊢
  simp -implicitDefEqProofs [x64_w, x64r1_w, x64r2_w, x64r3_w, hpl]
  refine lpk_of (J64 ps) ps.length (by omega) ⟨⟨0, by simp, by simp [upd_at], by simp [upd_at]⟩, by simp [upd_at], by simp [upd_at], by simp [upd_at, arg0], rfl⟩ ?_
  refine jstep64 hl hfl fun s h3 h0 hb => ?_
  obtain ⟨e, h, base, rb⟩ := s
  simp only at h3 h0 hb
  subst hb
  by_cases hz : ps.flatten.length = 0
  · have hnil : ps.flatten = [] := List.eq_nil_of_length_eq_zero hz
    have c83' : ∀ h, call X E m 83 [.sl [] .nil, .c (.int .i64 0)] h = some (.sl [] .nil, h) := fun h => by have := c83 h; rw [if_pos hz, hz] at this; exact this
    rw [hz] at h3
    simp -implicitDefEqProofs [x64r10_w, x64r11_w, h3, h0, c83', hpl]
    refine lpk_of (K64 ps) ps.length (by omega) ⟨⟨0, .nil, by simp, by simp [upd_at], by simp [upd_at], .inl ⟨hnil, rfl⟩⟩, by simp [upd_at, h0], by simp [upd_at], rfl⟩ ?_
    refine kstep64 hl hfl fun s si h6 hb => ?_
    obtain ⟨e, h, base, rb⟩ := s
    simp only at h6 hb
    subst hb
    rw [← hU] at h6
    simp -implicitDefEqProofs [x64_r, x64r17_w, h6]
    exact hres
  · have c83' : ∀ h, call X E m 83 [.sl [] .nil, .c (.int .i64 ps.flatten.length)] h = some (.sl [] (.tok h.length), h ++ [.tok 0 1]) := fun h => by rw [c83, if_neg hz]
    generalize hL : ps.flatten.length = L at *
    simp -implicitDefEqProofs [x64r10_w, x64r11_w, h3, h0, c83', hpl]
    refine lpk_of (K64 ps) ps.length (by omega) ⟨⟨0, .tok h.length, by simp, by simp [upd_at], by simp [upd_at], .inr ⟨h.length, rfl, by simp⟩⟩, by simp [upd_at, h0], by simp [upd_at], rfl⟩ ?_
    subst hL
    refine kstep64 hl hfl fun s si h6 hb => ?_
    obtain ⟨e, h, base, rb⟩ := s
    simp only at h6 hb
    subst hb
    rw [← hU] at h6
    simp -implicitDefEqProofs [x64_r, x64r17_w, h6]
    exact hres
end Go.Proofs.YtkiliokeanmagaaDoor.Ab

namespace Go.Proofs.YtkiliokeanmagaaDoor.Ab
open Go
set_option linter.unusedVariables false
set_option linter.unusedSimpArgs false
set_option maxRecDepth 8000
set_option maxHeartbeats 2000000
def wres : Option (List Int) → V
  | none => .tup [.sl [] .any, .c (.bool false)]
  | some p => .tup [pv p, .c (.bool true)]
def wcap : List V := keepE 25 [2, 3] fun i => if i = 2 then .ref 1 0 else .ref 2 0
def wH (d : D) (a b : V) (s : Nat) : List O := [.cells d.v.cells, .cells [a], .cells [b], .cells d.v.cells, .loop s]
theorem round36 {n : Nat} {d x : D} {p : List Int} {r : Option (List Int)} (h36 : ∀ h, call X E n 36 [x.v] h = some (wres r, h)) (hcat : ∀ q, r = some q → ∀ h, call X E n 64 [.sl (pvs [p, q]) .full] h = some (pv (p ++ q), h)) (rest : List O) (hrest : rest.all (O.low (5 + rest.length)) = true) :
    call X E (n + 1) 1003600 (.c (.int .i64 4) :: pf p :: x.v :: wcap) (wH d (.sl [] .nil) (.c (.bool false)) 0 ++ rest) = match r with
      | none => some (.c (.bool true), wH d (.sl [] .nil) (.c (.bool false)) 0 ++ rest)
      | some q => some (.c (.bool false), wH d (pv (p ++ q)) (.c (.bool true)) 3 ++ rest) := by
  have hE : E 1003600 = none := rfl
  have hX : X 1003600 = some x1003600 := rfl
  have hA : x1003600.asg = some ([13, 14], XC.seq x1003600r4 x1003600r5) := rfl
  simp only [call, hE, hX, hA]
  rw [if_pos (by simp [wH])]
  have t13 : toE ((wcap.set 13 (pf p)).set 14 x.v) 13 = pf p := rfl
  have t14 : toE ((wcap.set 13 (pf p)).set 14 x.v) 14 = x.v := rfl
  have t2 : toE ((wcap.set 13 (pf p)).set 14 x.v) 2 = .ref 1 0 := rfl
  have t3 : toE ((wcap.set 13 (pf p)).set 14 x.v) 3 = .ref 2 0 := rfl
  have hr : ∀ x ∈ rest, O.low (rest.length + 1 + 1 + 1 + 1 + 1) x = true := fun x hx => by
    have := List.all_eq_true.1 hrest x hx
    rwa [show 5 + rest.length = rest.length + 1 + 1 + 1 + 1 + 1 by omega] at this
  cases r with
  | none =>
    refine round_at (tm := ((wcap.set 13 (pf p)).set 14 x.v)) rfl (by kernel_rfl) (by kernel_rfl) ?_
    generalize toE ((wcap.set 13 (pf p)).set 14 x.v) = e0 at *
    refine wpk_of ?_
    simp only [wres] at h36
    simp -implicitDefEqProofs [x1003600_w, x1003600r1_w, x1003600r2_w, x1003600r4_w, x1003600r5_w, wH, t13, t14, t2, t3, D.okc, D.spl, D.cells_len]
    refine wpk_of ?_
    simp -implicitDefEqProofs [x1003600_w, x1003600r1_w, x1003600r2_w, t13, t14, t2, t3, D.rd, h36, Ex.num]
    exact ⟨by rw [olow_cells]; exact D.low_cells _ d, by simp [olow_cells, V.lows, V.low, SI.low], by simp [olow_cells, V.lows, V.low], by rw [olow_cells]; exact D.low_cells _ d, rfl, hr⟩
  | some q =>
    refine round_at (tm := ((wcap.set 13 (pf p)).set 14 x.v)) rfl (by kernel_rfl) (by kernel_rfl) ?_
    generalize toE ((wcap.set 13 (pf p)).set 14 x.v) = e0 at *
    refine wpk_of ?_
    have hc := hcat q rfl
    have hpq : pvs [p, q] = [.sl (p.map I64) .any, .sl (q.map I64) .any] := rfl
    rw [hpq] at hc
    have hpv : pv (p ++ q) = .sl ((p ++ q).map I64) .any := rfl
    rw [hpv] at hc ⊢
    have hlw : V.lows (rest.length + 1 + 1 + 1 + 1 + 1) ((p ++ q).map I64) = true := lows_I64 _ _
    simp only [wres, pv] at h36
    simp only [pf] at t13 ⊢
    generalize (p ++ q).map I64 = PQ at *
    generalize p.map I64 = PP at *
    generalize q.map I64 = QQ at *
    simp -implicitDefEqProofs [x1003600_w, x1003600r1_w, x1003600r2_w, x1003600r4_w, x1003600r5_w, wH, t13, t14, t2, t3, D.okc, D.spl, D.cells_len]
    refine wpk_of ?_
    simp -implicitDefEqProofs [x1003600_w, x1003600r1_w, x1003600r2_w, x1003600r3_w, t13, t14, t2, t3, D.rd, h36, hc, Ex.num]
    exact ⟨by rw [olow_cells]; exact D.low_cells _ d, by rw [olow_cells]; simp [V.lows, V.low, hlw, SI.low], by simp [olow_cells, V.lows, V.low], by rw [olow_cells]; exact D.low_cells _ d, rfl, hr⟩
def firstW (f : D → Option (List Int)) : List (List Int × D) → Option (List Int)
  | [] => none
  | (p, x) :: r => match f x with
    | some q => some (p ++ q)
    | none => firstW f r
def wrongN : Nat → D → Option (List Int)
  | 0, _ => none
  | n + 1, d => if d.form = 0 then some [] else firstW (wrongN n) d.parts
def wY (f : D → Option (List Int)) (d : D) : List Int → D → List O → Option (Bool × List O) := fun p x H => match f x with
  | none => some (true, wH d (.sl [] .nil) (.c (.bool false)) 0)
  | some q => some (false, wH d (pv (p ++ q)) (.c (.bool true)) 3)
theorem walk_w (f : D → Option (List Int)) (d : D) : ∀ L : List (List Int × D), walkY (wY f d) L (wH d (.sl [] .nil) (.c (.bool false)) 0) = match firstW f L with
    | none => some (true, wH d (.sl [] .nil) (.c (.bool false)) 0)
    | some q => some (false, wH d (pv q) (.c (.bool true)) 3)
  | [] => rfl
  | (p, x) :: r => by
    simp only [walkY, firstW, wY]
    cases h : f x with
    | none => simp only []; exact walk_w f d r
    | some q => rfl
end Go.Proofs.YtkiliokeanmagaaDoor.Ab

namespace Go.Proofs.YtkiliokeanmagaaDoor.Ab
open Go
set_option linter.unusedVariables false
set_option linter.unusedSimpArgs false
set_option maxRecDepth 8000
set_option maxHeartbeats 2000000
theorem wY_at {n : Nat} {d : D} {f : D → Option (List Int)} (h36 : ∀ p x, (p, x) ∈ d.parts → ∀ h, call X E n 36 [x.v] h = some (wres (f x), h)) (hcat : ∀ p x q, (p, x) ∈ d.parts → f x = some q → ∀ h, call X E n 64 [.sl (pvs [p, q]) .full] h = some (pv (p ++ q), h)) :
    YAt (call X E (n + 1)) 4 1003600 wcap 5 (fun H => H = wH d (.sl [] .nil) (.c (.bool false)) 0) (wY f d) d.parts := by
  intro p x hin H H' b hH hP hq
  subst hP
  have h36' := h36 p x hin
  have hG : ∀ G : List O, G.take 5 = wH d (.sl [] .nil) (.c (.bool false)) 0 → G = wH d (.sl [] .nil) (.c (.bool false)) 0 ++ G.drop 5 := fun G h => by rw [← h, List.take_append_drop]
  have hlen : ∀ a b s, (wH d a b s).length = 5 := fun a b s => rfl
  have hlw : ∀ (G : List O) (a b : V) (s : Nat), G.take 5 = wH d (.sl [] .nil) (.c (.bool false)) 0 → lowH G → a.low 0 = true → b.low 0 = true → lowH (wH d a b s ++ G.drop 5) ∧ (G.drop 5).all (O.low (5 + (G.drop 5).length)) = true := by
    intro G a b s hg hl ha hb
    have hGl : G.length = 5 + (G.drop 5).length := by
      have := congrArg List.length (hG G hg)
      rw [List.length_append, hlen] at this
      exact this
    unfold lowH at hl
    rw [hG G hg, List.all_append, Bool.and_eq_true] at hl
    rw [← hG G hg] at hl
    have h2 := hl.2
    rw [hGl] at h2
    refine ⟨?_, by simpa using h2⟩
    unfold lowH
    rw [List.all_append, Bool.and_eq_true, List.length_append, hlen]
    refine ⟨?_, by simpa using h2⟩
    have la := low_mono (Nat.zero_le (5 + (G.drop 5).length)) a ha
    have lb := low_mono (Nat.zero_le (5 + (G.drop 5).length)) b hb
    simp only [wH, List.all_cons, olow_cells, D.low_cells, V.lows, la, lb, List.all_nil, Bool.and_true, Bool.true_and]
    rfl
  unfold wY at hq
  cases hf : f x with
  | none =>
    rw [hf] at hq h36'
    simp only [Option.some.injEq, Prod.mk.injEq] at hq
    obtain ⟨rfl, rfl⟩ := hq
    refine ⟨rfl, fun _ => rfl, fun G hg hl => ?_⟩
    obtain ⟨h1, h2⟩ := hlw G (.sl [] .nil) (.c (.bool false)) 0 hg hl rfl rfl
    have := round36 (d := d) (p := p) (r := none) h36' (fun q hq => by cases hq) (G.drop 5) h2
    simp only at this
    rw [← hG G hg] at this
    exact ⟨by rw [this, ← hG G hg], h1⟩
  | some q =>
    rw [hf] at hq h36'
    simp only [Option.some.injEq, Prod.mk.injEq] at hq
    obtain ⟨rfl, rfl⟩ := hq
    refine ⟨rfl, fun h => (by cases h), fun G hg hl => ?_⟩
    obtain ⟨h1, h2⟩ := hlw G (pv (p ++ q)) (.c (.bool true)) 3 hg hl (pv_low 0 _) rfl
    have := round36 (d := d) (p := p) (r := some q) h36' (fun q' hq' h => by simp only [Option.some.injEq] at hq'; subst hq'; exact hcat p x q hin hf h) (G.drop 5) h2
    simp only at this
    rw [← hG G hg] at this
    exact ⟨this, h1⟩
theorem sub1_mem {frm : Nat} : ∀ (L : List D) (i : Nat) (p : List Int) (x : D), (p, x) ∈ sub1 frm L i → x ∈ L ∧ p.length ≤ 3
  | [], _, _, _, h => by simp [sub1] at h
  | a :: L, i, p, x, h => by
    simp only [sub1, List.mem_cons, Prod.mk.injEq] at h
    rcases h with ⟨rfl, rfl⟩ | h
    · exact ⟨by simp, by simp⟩
    · have := sub1_mem L (i + 1) p x h
      exact ⟨by simp [this.1], this.2⟩
theorem recs_mem2 : ∀ (L : List D) (i : Nat) (p : List Int) (x : D), (p, x) ∈ recs L i → (∃ y ∈ L, x = y.kid 2) ∧ p.length ≤ 3
  | [], _, _, _, h => by simp [recs] at h
  | a :: L, i, p, x, h => by
    simp only [recs, List.mem_cons, Prod.mk.injEq] at h
    rcases h with ⟨rfl, rfl⟩ | h
    · exact ⟨⟨a, by simp, rfl⟩, by simp⟩
    · have := recs_mem2 L (i + 1) p x h
      obtain ⟨y, h1, h2⟩ := this.1
      exact ⟨⟨y, by simp [h1], h2⟩, this.2⟩
theorem kid_le (d : D) (j : Nat) : (d.kid j).sz ≤ d.sz := by
  unfold D.kid
  rw [List.getD_eq_getElem?_getD]
  cases h : d.kids[j]? with
  | none =>
    have := D.sz_pos d
    simp only [Option.getD_none, D.z0, D.sz, D.szs]
    omega
  | some x =>
    have := kid_lt (List.mem_of_getElem? h)
    simp only [Option.getD_some]
    omega
theorem parts_mem {d : D} {p : List Int} {x : D} (h : (p, x) ∈ d.parts) : x.sz < d.sz ∧ p.length ≤ 3 := by
  have hs : ∀ frm k, (p, x) ∈ sub1 frm (d.kids.drop k) 0 → x.sz < d.sz ∧ p.length ≤ 3 := fun frm k h => by
    obtain ⟨h1, h2⟩ := sub1_mem _ _ _ _ h
    exact ⟨kid_lt (List.mem_of_mem_drop h1), h2⟩
  unfold D.parts at h
  split at h
  · exact hs _ _ h
  · split at h
    · exact hs _ _ h
    · split at h
      · rcases List.mem_append.1 h with h | h
        · obtain ⟨⟨y, h1, rfl⟩, h2⟩ := recs_mem2 _ _ _ _ h
          have a1 := kid_lt h1
          have a2 := kid_le d 1
          have a3 := kid_le y 2
          exact ⟨by omega, h2⟩
        · exact hs _ _ h
      · split at h
        · exact hs 0 0 (by simpa using h)
        · simp at h
theorem firstW_some {f : D → Option (List Int)} : ∀ {L : List (List Int × D)} {q : List Int}, firstW f L = some q → ∃ p x r, (p, x) ∈ L ∧ f x = some r ∧ q = p ++ r
  | [], _, h => by simp [firstW] at h
  | (p, x) :: L, q, h => by
    simp only [firstW] at h
    cases hf : f x with
    | none =>
      rw [hf] at h
      obtain ⟨p', x', r, h1, h2, h3⟩ := firstW_some h
      exact ⟨p', x', r, by simp [h1], h2, h3⟩
    | some r =>
      rw [hf] at h
      simp only [Option.some.injEq] at h
      exact ⟨p, x, r, by simp, hf, h.symm⟩
theorem wrong_len : ∀ (m : Nat) (d : D) (q : List Int), wrongN m d = some q → q.length ≤ 3 * d.sz
  | 0, _, _, h => by simp [wrongN] at h
  | m + 1, d, q, h => by
    simp only [wrongN] at h
    split at h
    · simp only [Option.some.injEq] at h
      subst h
      simp
    · obtain ⟨p, x, r, h1, h2, rfl⟩ := firstW_some h
      have a1 := parts_mem h1
      have a2 := wrong_len m x r h2
      simp only [List.length_append]
      omega
end Go.Proofs.YtkiliokeanmagaaDoor.Ab

namespace Go.Proofs.YtkiliokeanmagaaDoor.Ab
open Go
set_option linter.unusedVariables false
set_option linter.unusedSimpArgs false
set_option maxRecDepth 8000
set_option maxHeartbeats 2000000
theorem go36 : ∀ (f : Nat) (d : D), d.sz ≤ f → d.sz < 100000000000 → ∀ n, 4 * d.sz + 40 ≤ n → Gives n 36 [d.v] (wres (wrongN f d))
  | 0, d, h, _, _, _ => by have := D.sz_pos d; omega
  | f + 1, d, hf, hl, n, hn => by
    obtain ⟨n, rfl⟩ : ∃ n', n = n' + 3 := ⟨n - 3, by omega⟩
    have c54 : ∀ h, call X E (n + 2) 54 [d.v] h = some (.c (.int .i64 d.form), h) := go54 d (by omega) (by omega)
    have c45 : ∀ h, call X E (n + 2) 45 [d.v] h = some (.clo 72 [.ref h.length 0], h ++ [.cells d.v.cells]) := go45 d
    have IH : ∀ p x, (p, x) ∈ d.parts → ∀ h, call X E n 36 [x.v] h = some (wres (wrongN f x), h) := fun p x hin => go36 f x (by have := parts_mem hin; omega) (by have := parts_mem hin; omega) n (by have := parts_mem hin; omega)
    have hcat : ∀ p x q, (p, x) ∈ d.parts → wrongN f x = some q → ∀ h, call X E n 64 [.sl (pvs [p, q]) .full] h = some (pv (p ++ q), h) := fun p x q hin hq => by
      obtain ⟨n, rfl⟩ : ∃ n', n = n' + 1 := ⟨n - 1, by omega⟩
      have a1 := parts_mem hin
      have a2 := wrong_len f x q hq
      have := go64 [p, q] .full (n := n) (by simp; omega) (by simp) (by simp; omega)
      rw [show [p, q].flatten = p ++ q by simp] at this
      exact this
    have hY := wY_at IH hcat
    have hwalk := walk_w (wrongN f) d d.parts
    by_cases h0 : d.form = 0
    · have hw : wres (wrongN (f + 1) d) = wres (some []) := by simp only [wrongN, h0, if_true]
      rw [hw]
      rw [h0] at c54
      show Gives ((n + 2) + 1) 36 [d.v] _
      generalize n + 2 = m at *
      refine gives_of rfl rfl rfl (by kernel_rfl) ⟨rfl, rfl⟩ (by simp [D.vw2, V.lows, D.low]) ?_
      simp -implicitDefEqProofs [x36_w, x36_r, x36r1_w, x36r2_w, x36r3_w, D.vw2, D.okc, D.rd, D.cells_len, c54, wres, pv]
      try simp [V.low, V.lows, SI.low]
    · have hw : wres (wrongN (f + 1) d) = wres (firstW (wrongN f) d.parts) := by simp only [wrongN, h0, if_false]
      rw [hw]
      have hb : (d.form == 0) = false := by simp [h0]
      have c72 : ∀ W : Bool × List O, walkY (wY (wrongN f) d) d.parts (wH d (.sl [] .nil) (.c (.bool false)) 0) = some W → W.2.all (O.low 5) = true → call X E (n + 2) 72 [.yld 4 1003600 2 wcap, .ref 3 0] (wH d (.sl [] .nil) (.c (.bool false)) 0) = some (.tup [], W.2) := fun W h1 h2 => by
        refine go72 d (n := n + 1) (by omega) (by omega) (k := 4) (by omega) (by decide) (P := fun H => H = wH d (.sl [] .nil) (.c (.bool false)) 0) ?_ rfl hY h1 h2 ?_
        · intro G hG hP
          have : G[3]? = (G.take 5)[3]? := by rw [List.getElem?_take]; simp
          rw [this, show (5 : Nat) = (wH d (.sl [] .nil) (.c (.bool false)) 0).length from rfl, hP]
          rfl
        · unfold lowH
          simp only [wH, List.all_cons, olow_cells, D.low_cells, V.lows, List.all_nil, Bool.and_true, Bool.true_and]
          rfl
      show Gives ((n + 2) + 1) 36 [d.v] _
      generalize n + 2 = m at *
      refine gives_of rfl rfl rfl (by kernel_rfl) ⟨rfl, rfl⟩ (by simp [D.vw2, V.lows, D.low]) ?_
      simp -implicitDefEqProofs [x36_w, x36_r, x36r1_w, x36r2_w, x36r3_w, x36r4_w, D.vw2, D.okc, D.rd, D.cells_len, c54, hb, c45]
      cases hfw : firstW (wrongN f) d.parts with
      | none =>
        rw [hfw] at hwalk
        have h72 := c72 _ hwalk (by simp only [wH, List.all_cons, olow_cells, D.low_cells, V.lows, List.all_nil, Bool.and_true, Bool.true_and]; rfl)
        refine wpk_range _ _ _ _ _ (g := 72) (lb := [.ref 3 0]) rfl (by decide) (by decide) (h' := wH d (.sl [] .nil) (.c (.bool false)) 0) (e := .normal) (r := .tup []) h72 rfl ?_
        simp -implicitDefEqProofs [x36r5_w, x36_r, wH, wres]
        try simp [V.low, V.lows, SI.low]
      | some q =>
        rw [hfw] at hwalk
        have h72 := c72 _ hwalk (by have := pv_low 5 q; simp only [wH, List.all_cons, olow_cells, D.low_cells, V.lows, this, List.all_nil, Bool.and_true, Bool.true_and]; rfl)
        have hql := pv_low 0 q
        refine wpk_range _ _ _ _ _ (g := 72) (lb := [.ref 3 0]) rfl (by decide) (by decide) (h' := wH d (pv q) (.c (.bool true)) 3) (e := .ret) (r := .tup []) h72 rfl ?_
        simp -implicitDefEqProofs [x36_r, wH, wres, pv]
        simp [V.low, V.lows, lows_I64, SI.low]
end Go.Proofs.YtkiliokeanmagaaDoor.Ab

namespace Go.Proofs.YtkiliokeanmagaaDoor.Ab
open Go
set_option linter.unusedVariables false
set_option linter.unusedSimpArgs false
set_option maxRecDepth 8000
set_option maxHeartbeats 2000000
def D.chk (d : D) : V := if d.ck ≠ 0 then .tup [.sl [] .any, .c (.int .i64 d.ck)] else match wrongN d.sz d with
  | some p => .tup [pv p, .c (.int .i64 4)]
  | none => .tup [.sl [] .any, .c (.int .i64 0)]
theorem go10 (d : D) (hl : d.sz < 100000000000) {n : Nat} (hn : 4 * d.sz + 200 ≤ n) : Gives (n + 1) 10 [d.v] d.chk := by
  have c35 : ∀ h, call X E n 35 [d.v] h = some (.c (.int .i64 d.ck), h) := run15 d (by omega) n (by omega)
  have c36 : ∀ h, call X E n 36 [d.v] h = some (wres (wrongN d.sz d), h) := go36 d.sz d (Nat.le_refl _) hl n (by omega)
  refine gives_of rfl rfl rfl (by kernel_rfl) ⟨rfl, rfl⟩ (by simp [D.vw2, V.lows, D.low]) ?_
  by_cases hc : d.ck = 0
  · have hb : (d.ck != 0) = false := by simp [hc]
    cases hw : wrongN d.sz d with
    | none =>
      have hr : d.chk = .tup [.sl [] .any, .c (.int .i64 0)] := by simp [D.chk, hc, hw]
      rw [hw] at c36
      simp only [wres] at c36
      rw [hr]
      simp -implicitDefEqProofs [x10_w, x10_r, x10r1_w, x10r2_w, x10r3_w, x10r5_w, x10r6_w, x10r8_w, D.vw2, D.okc, D.rd, D.cells_len, c35, c36, hb]
      try simp [V.low, V.lows, SI.low]
    | some p =>
      have hr : d.chk = .tup [pv p, .c (.int .i64 4)] := by simp [D.chk, hc, hw]
      rw [hw] at c36
      simp only [wres, pv] at c36
      rw [hr, pv]
      simp -implicitDefEqProofs [x10_w, x10_r, x10r1_w, x10r2_w, x10r3_w, x10r5_w, x10r6_w, x10r7_w, D.vw2, D.okc, D.rd, D.cells_len, c35, c36, hb]
      try simp [V.low, V.lows, lows_I64, SI.low]
  · have hb : (d.ck != 0) = true := by simp [hc]
    have hr : d.chk = .tup [.sl [] .any, .c (.int .i64 d.ck)] := by simp [D.chk, hc]
    rw [hr]
    simp -implicitDefEqProofs [x10_w, x10_r, x10r1_w, x10r2_w, x10r3_w, x10r4_w, D.vw2, D.okc, D.rd, D.cells_len, c35, hb]
    try simp [V.low, V.lows, SI.low]
end Go.Proofs.YtkiliokeanmagaaDoor.Ab

namespace Go.Proofs.YtkiliokeanmagaaDoor.Ab
open Go
set_option linter.defProp false
section
variable (cf : CallF) (n : Nat) (s : SF) (K : List Fr) (Q : Ex → SF → Prop)
end
end Go.Proofs.YtkiliokeanmagaaDoor.Ab

namespace Go.Proofs.YtkiliokeanmagaaDoor.Ab
open Go
set_option linter.unusedVariables false
set_option linter.unusedSimpArgs false
set_option maxRecDepth 8000
set_option maxHeartbeats 2000000
end Go.Proofs.YtkiliokeanmagaaDoor.Ab

namespace Go.Proofs.YtkiliokeanmagaaDoor.Ab
open Go
set_option linter.defProp false
section
variable (cf : CallF) (n : Nat) (s : SF) (K : List Fr) (Q : Ex → SF → Prop)
def x5r1_w := rK cf n s K Q x5r1 rfl
def x5r2_w := rK cf n s K Q x5r2 rfl
def x5r3_w := rK cf n s K Q x5r3 rfl
def x5r4_w := rK cf n s K Q x5r4 rfl
def x5r5_w := rK cf n s K Q x5r5 rfl
def x5r6_w := rK cf n s K Q x5r6 rfl
def x5r7_w := rK cf n s K Q x5r7 rfl
def x5r8_w := rK cf n s K Q x5r8 rfl
def x5r10_w := rK cf n s K Q x5r10 rfl
def x5r11_w := rK cf n s K Q x5r11 rfl
def x5r12_w := rK cf n s K Q x5r12 rfl
def x5r13_w := rK cf n s K Q x5r13 rfl
def x5r14_w := rK cf n s K Q x5r14 rfl
def x5_w := bK cf n s K Q x5 rfl
def x5_r := bR x5 rfl
def x19r1_w := rK cf n s K Q x19r1 rfl
def x19r2_w := rK cf n s K Q x19r2 rfl
def x19r3_w := rK cf n s K Q x19r3 rfl
def x19r4_w := rK cf n s K Q x19r4 rfl
def x19r5_w := rK cf n s K Q x19r5 rfl
def x19r6_w := rK cf n s K Q x19r6 rfl
def x19r7_w := rK cf n s K Q x19r7 rfl
def x19r8_w := rK cf n s K Q x19r8 rfl
def x19r9_w := rK cf n s K Q x19r9 rfl
def x19r10_w := rK cf n s K Q x19r10 rfl
def x19l11_w := lK cf n s K Q x19l11 rfl
def x19r12_w := rK cf n s K Q x19r12 rfl
def x19_w := bK cf n s K Q x19 rfl
def x19_r := bR x19 rfl
def x44r1_w := rK cf n s K Q x44r1 rfl
def x44r2_w := rK cf n s K Q x44r2 rfl
def x44r3_w := rK cf n s K Q x44r3 rfl
def x44_w := bK cf n s K Q x44 rfl
def x44_r := bR x44 rfl
def x47r1_w := rK cf n s K Q x47r1 rfl
def x47r2_w := rK cf n s K Q x47r2 rfl
def x47r3_w := rK cf n s K Q x47r3 rfl
def x47r4_w := rK cf n s K Q x47r4 rfl
def x47r5_w := rK cf n s K Q x47r5 rfl
def x47r6_w := rK cf n s K Q x47r6 rfl
def x47l7_w := lK cf n s K Q x47l7 rfl
def x47r8_w := rK cf n s K Q x47r8 rfl
def x47_w := bK cf n s K Q x47 rfl
def x47_r := bR x47 rfl
end
end Go.Proofs.YtkiliokeanmagaaDoor.Ab

namespace Go.Proofs.YtkiliokeanmagaaDoor.Ab
open Go
set_option linter.unusedVariables false
set_option linter.unusedSimpArgs false
set_option maxRecDepth 8000
set_option maxHeartbeats 1000000
theorem pv_vw2 (p : List Int) : (pv p).vw2 = pv p := rfl
def begs : List Int → List Int → Bool
  | _, [] => true
  | [], _ :: _ => false
  | a :: p, b :: q => a == b && begs p q
def D.at : List Int → D → Option D
  | [], d => some d
  | i :: p, d => if 0 ≤ i ∧ i < d.kids.length then match d.kids[i.toNat]? with
    | some k => D.at p k
    | none => none
    else none
def D.put : List Int → D → D → D
  | [], _, x => x
  | i :: p, .mk k n t l, x => match l[i.toNat]? with
    | some y => .mk k n t (l.set i.toNat (D.put p y x))
    | none => .mk k n t l
def D.zero : D := .mk 0 0 ⟨#[]⟩ []
theorem D.szs_set : ∀ (l : List D) (j : Nat) (h : j < l.length) (y : D), D.szs (l.set j y) + (l[j]).sz = D.szs l + y.sz
  | d :: l, 0, h, y => by simp only [List.set_cons_zero, D.szs, List.getElem_cons_zero]; omega
  | d :: l, j + 1, h, y => by
    have := D.szs_set l j (by simpa using h) y
    simp only [List.set_cons_succ, D.szs, List.getElem_cons_succ]
    omega
theorem D.put_sz (x : D) : ∀ (p : List Int) (d u : D), D.at p d = some u → (D.put p d x).sz + u.sz = d.sz + x.sz
  | [], d, u, h => by simp only [D.at, Option.some.injEq] at h; subst h; simp only [D.put]; omega
  | i :: p, .mk k n t l, u, h => by
    rw [D.at] at h
    by_cases hi : 0 ≤ i ∧ i < ((D.mk k n t l).kids.length : Int)
    · rw [if_pos hi] at h
      simp only [D.kids] at h hi
      have hj : i.toNat < l.length := by omega
      rw [List.getElem?_eq_getElem hj] at h
      have h1 := D.put_sz x p _ u h
      have h2 := D.szs_set l i.toNat hj (D.put p l[i.toNat] x)
      simp only [D.put, List.getElem?_eq_getElem hj, D.sz]
      omega
    · rw [if_neg hi] at h
      cases h
theorem D.at_mk {i : Int} {p : List Int} {k n : Int} {t : ByteArray} {l : List D} (h0 : 0 ≤ i) (hj : i.toNat < l.length) : D.at (i :: p) (.mk k n t l) = D.at p l[i.toNat] := by
  have hi : 0 ≤ i ∧ i < ((D.mk k n t l).kids.length : Int) := ⟨h0, by simp only [D.kids]; omega⟩
  rw [D.at, if_pos hi]
  simp only [D.kids, List.getElem?_eq_getElem hj]
theorem D.at_no {i : Int} {p : List Int} {k n : Int} {t : ByteArray} {l : List D} (h : ¬ (0 ≤ i ∧ i.toNat < l.length)) : D.at (i :: p) (.mk k n t l) = none := by
  have hi : ¬ (0 ≤ i ∧ i < ((D.mk k n t l).kids.length : Int)) := by simp only [D.kids]; omega
  rw [D.at, if_neg hi]
theorem D.at_ex {i : Int} {p : List Int} {k n : Int} {t : ByteArray} {l : List D} {u : D} (h : D.at (i :: p) (.mk k n t l) = some u) : ∃ hj : i.toNat < l.length, 0 ≤ i ∧ D.at p l[i.toNat] = some u := by
  by_cases hi : 0 ≤ i ∧ i.toNat < l.length
  · rw [D.at_mk hi.1 hi.2] at h
    exact ⟨hi.2, hi.1, h⟩
  · rw [D.at_no hi] at h
    cases h
theorem D.put_mk {i : Int} {p : List Int} {k n : Int} {t : ByteArray} {l : List D} (hj : i.toNat < l.length) (x : D) : D.put (i :: p) (.mk k n t l) x = .mk k n t (l.set i.toNat (D.put p l[i.toNat] x)) := by
  simp only [D.put, List.getElem?_eq_getElem hj]
theorem D.at_put (x : D) : ∀ (p : List Int) (d u : D), D.at p d = some u → D.at p (D.put p d x) = some x
  | [], d, u, h => rfl
  | i :: p, .mk k n t l, u, h => by
    obtain ⟨hj, h0, h1⟩ := D.at_ex h
    rw [D.put_mk hj, D.at_mk h0 (by simpa using hj), List.getElem_set_self, D.at_put x p _ u h1]
theorem D.at_put_other (x : D) : ∀ (s t : List Int) (d u : D), begs s t = false → begs t s = false → D.at s d = some u → D.at t (D.put s d x) = D.at t d
  | [], t, d, u, h1, h2, h => by cases t <;> simp [begs] at h2
  | i :: s, [], d, u, h1, h2, h => by simp [begs] at h1
  | i :: s, j :: t, .mk k n tt l, u, h1, h2, h => by
    obtain ⟨hj, h0, h3⟩ := D.at_ex h
    rw [D.put_mk hj]
    simp only [begs, Bool.and_eq_false_iff, beq_eq_false_iff_ne] at h1 h2
    by_cases hij : i = j
    · subst hij
      rw [D.at_mk h0 (by simpa using hj), D.at_mk h0 hj, List.getElem_set_self]
      exact D.at_put_other x s t _ u (h1.resolve_left fun h => h rfl) (h2.resolve_left fun h => h rfl) h3
    · by_cases hk : 0 ≤ j ∧ j.toNat < l.length
      · rw [D.at_mk hk.1 (by simpa using hk.2), D.at_mk hk.1 hk.2, List.getElem_set_ne (by omega)]
      · rw [D.at_no hk, D.at_no (by simpa using hk)]
end Go.Proofs.YtkiliokeanmagaaDoor.Ab

