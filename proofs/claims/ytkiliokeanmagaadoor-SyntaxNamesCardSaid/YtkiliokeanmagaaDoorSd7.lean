/- Symbols: the loops. -/
import Derived.Test.YtkiliokeanmagaaDoorSd6
namespace Go.Proofs.YtkiliokeanmagaaDoor.Ab
open Go
set_option linter.unusedVariables false
set_option linter.unusedSimpArgs false

structure S23 (s : ByteArray) (i : Nat) (tm : List V) : Prop where
  len : tm.length = 43
  t0 : tm[0]? = some (.c (.string s))
  t33 : tm[33]? = some (.c (.int .i64 s.size))
  t34 : tm[34]? = some (.c (.int .i64 i))

theorem step23 {n : Nat} (hn : 16 ≤ n) {s : ByteArray} {i : Nat} {tm : List V} (T : S23 s i tm) (hs : s.size ≤ 40) :
    ∃ tm', exec (call X E n) n x40l10 ⟨tm, [], 0, 0⟩ = some (if h : i < s.size then (if lB s[i].toNat then .normal else .ret) else .exit 0, ⟨tm', [], 0, 0⟩) ∧ tm'.length = 43 ∧
      (∀ h : i < s.size, lB s[i].toNat = true → S23 s (i + 1) tm') ∧ (∀ h : i < s.size, lB s[i].toNat = false → tm'[2]? = some (.c (.bool false))) := by
  have l := T.len
  have g0 : tm[0]'(by omega) = .c (.string s) := (List.getElem?_eq_some_iff.1 T.t0).2
  have g33 : tm[33]'(by omega) = .c (.int .i64 s.size) := (List.getElem?_eq_some_iff.1 T.t33).2
  have g34 : tm[34]'(by omega) = .c (.int .i64 i) := (List.getElem?_eq_some_iff.1 T.t34).2
  by_cases h : i < s.size
  · have hi : (i : Int) < s.size := by omega
    have c0 := run52 (n := n) hn (UInt8.toNat_lt s[i])
    have hw : IntKind.i64.wrap ((i : Int) + 1) = (i : Int) + 1 := by
      simp only [IntKind.wrap, IntKind.signed, IntKind.bits]
      simp
      omega
    cases hl : lB s[i].toNat with
    | true =>
      rw [hl] at c0
      refine ⟨_, by simp [x40l10, x40r5, x40r6, x40r7, x40r8, x40r9, exec, runOps, stepO, known, wants, act, pureV, putV, ev, binV, binI, l, g0, g33, g34, hi, h, hl, idx, callee_f, c0, hw]; rfl, by simp [l], fun _ _ => ⟨by simp [l], by simp [l, g0], by simp [l, g33], by simp [l]⟩, fun h' e => by rw [hl] at e; cases e⟩
    | false =>
      rw [hl] at c0
      refine ⟨_, by simp [x40l10, x40r5, x40r6, x40r7, x40r8, x40r9, exec, runOps, stepO, known, wants, act, pureV, putV, ev, binV, binI, l, g0, g33, g34, hi, h, hl, idx, callee_f, c0, hw]; rfl, by simp [l], (fun h' e => by rw [hl] at e; cases e), fun _ _ => by simp [l]⟩
  · have hi : ¬ (i : Int) < s.size := by omega
    refine ⟨_, by simp [x40l10, x40r5, exec, runOps, stepO, known, wants, act, pureV, putV, ev, binV, binI, l, g33, g34, hi, h]; rfl, by simp [l], fun h' => absurd h' h, fun h' => absurd h' h⟩

/-- r letters from i on. -/
def allL (s : ByteArray) : Nat → Nat → Bool
  | 0, _ => true
  | r + 1, i => (match s[i]? with
    | some c => lB c.toNat
    | none => true) && allL s r (i + 1)

theorem loop23 {n : Nat} (hn : 16 ≤ n) {s : ByteArray} (hs : s.size ≤ 40) : ∀ (r i m : Nat) (tm : List V), i + r = s.size → r < m → S23 s i tm →
    ∃ tm', iter (exec (call X E n) n x40l10) m ⟨tm, [], 0, 0⟩ = some (if allL s r i then .exit 0 else .ret, ⟨tm', [], 0, 0⟩) ∧ tm'.length = 43 ∧ (allL s r i = false → tm'[2]? = some (.c (.bool false)))
  | 0, i, m + 1, tm, hi, _, T => by
    obtain ⟨tm', h1, h2, _⟩ := step23 hn T hs
    have h : ¬ i < s.size := by omega
    rw [dif_neg h] at h1
    exact ⟨tm', by simp only [iter, h1, allL, if_true], h2, fun e => by simp [allL] at e⟩
  | r + 1, i, m + 1, tm, hi, hm, T => by
    obtain ⟨tm', h1, h2, h3, h4⟩ := step23 hn T hs
    have h : i < s.size := by omega
    have e0 : s[i]? = some s[i] := by simp [h]
    rw [dif_pos h] at h1
    cases hl : lB s[i].toNat with
    | true =>
      rw [hl, if_pos rfl] at h1
      obtain ⟨tm2, k1, k2, k3⟩ := loop23 hn hs r (i + 1) m tm' (by omega) (by omega) (h3 h hl)
      refine ⟨tm2, ?_, k2, fun e => k3 (by simpa [allL, e0, hl] using e)⟩
      simp only [iter, h1, k1, allL, e0, hl, Bool.true_and]
    | false =>
      rw [hl] at h1
      refine ⟨tm', ?_, h2, fun _ => h4 h hl⟩
      simp [iter, h1, allL, e0, hl]
structure S24 (s : ByteArray) (i : Nat) (tm : List V) : Prop where
  len : tm.length = 43
  t0 : tm[0]? = some (.c (.string s))
  t3 : tm[3]? = some (.c (.int .i64 i))

theorem step24 {n : Nat} (hn : 16 ≤ n) {s : ByteArray} {i : Nat} {tm : List V} (T : S24 s i tm) (hs : s.size ≤ 40) :
    ∃ tm', exec (call X E n) n x41l9 ⟨tm, [], 0, 0⟩ = some (if h : i < s.size then (if lB s[i].toNat then .normal else .ret) else .exit 0, ⟨tm', [], 0, 0⟩) ∧ tm'.length = 43 ∧
      (∀ h : i < s.size, lB s[i].toNat = true → S24 s (i + 1) tm') ∧ (∀ h : i < s.size, lB s[i].toNat = false → tm'[2]? = some (.c (.bool false))) := by
  have l := T.len
  have g0 : tm[0]'(by omega) = .c (.string s) := (List.getElem?_eq_some_iff.1 T.t0).2
  have g3 : tm[3]'(by omega) = .c (.int .i64 i) := (List.getElem?_eq_some_iff.1 T.t3).2
  by_cases h : i < s.size
  · have hi : (i : Int) < s.size := by omega
    have c0 := run54 (n := n) hn (UInt8.toNat_lt s[i])
    have hw : IntKind.i64.wrap ((i : Int) + 1) = (i : Int) + 1 := by
      simp only [IntKind.wrap, IntKind.signed, IntKind.bits]
      simp
      omega
    cases hl : lB s[i].toNat with
    | true =>
      rw [hl] at c0
      refine ⟨_, by simp [x41l9, x41r5, x41r6, x41r7, x41r8, exec, runOps, stepO, known, wants, act, pureV, putV, ev, binV, binI, l, g0, g3, hi, h, hl, idx, callee_f, c0, hw]; rfl, by simp [l], fun _ _ => ⟨by simp [l], by simp [l, g0], by simp [l]⟩, fun h' e => by rw [hl] at e; cases e⟩
    | false =>
      rw [hl] at c0
      refine ⟨_, by simp [x41l9, x41r5, x41r6, x41r7, x41r8, exec, runOps, stepO, known, wants, act, pureV, putV, ev, binV, binI, l, g0, g3, hi, h, hl, idx, callee_f, c0, hw]; rfl, by simp [l], (fun h' e => by rw [hl] at e; cases e), fun _ _ => by simp [l]⟩
  · have hi : ¬ (i : Int) < s.size := by omega
    refine ⟨_, by simp [x41l9, x41r5, exec, runOps, stepO, known, wants, act, pureV, putV, ev, binV, binI, l, g0, g3, hi, h]; rfl, by simp [l], fun h' => absurd h' h, fun h' => absurd h' h⟩

theorem loop24 {n : Nat} (hn : 16 ≤ n) {s : ByteArray} (hs : s.size ≤ 40) : ∀ (r i m : Nat) (tm : List V), i + r = s.size → r < m → S24 s i tm →
    ∃ tm', iter (exec (call X E n) n x41l9) m ⟨tm, [], 0, 0⟩ = some (if allL s r i then .exit 0 else .ret, ⟨tm', [], 0, 0⟩) ∧ tm'.length = 43 ∧ (allL s r i = false → tm'[2]? = some (.c (.bool false)))
  | 0, i, m + 1, tm, hi, _, T => by
    obtain ⟨tm', h1, h2, _⟩ := step24 hn T hs
    have h : ¬ i < s.size := by omega
    rw [dif_neg h] at h1
    exact ⟨tm', by simp only [iter, h1, allL, if_true], h2, fun e => by simp [allL] at e⟩
  | r + 1, i, m + 1, tm, hi, hm, T => by
    obtain ⟨tm', h1, h2, h3, h4⟩ := step24 hn T hs
    have h : i < s.size := by omega
    have e0 : s[i]? = some s[i] := by simp [h]
    rw [dif_pos h] at h1
    cases hl : lB s[i].toNat with
    | true =>
      rw [hl, if_pos rfl] at h1
      obtain ⟨tm2, k1, k2, k3⟩ := loop24 hn hs r (i + 1) m tm' (by omega) (by omega) (h3 h hl)
      refine ⟨tm2, ?_, k2, fun e => k3 (by simpa [allL, e0, hl] using e)⟩
      simp only [iter, h1, k1, allL, e0, hl, Bool.true_and]
    | false =>
      rw [hl] at h1
      refine ⟨tm', ?_, h2, fun _ => h4 h hl⟩
      simp [iter, h1, allL, e0, hl]
end Go.Proofs.YtkiliokeanmagaaDoor.Ab
