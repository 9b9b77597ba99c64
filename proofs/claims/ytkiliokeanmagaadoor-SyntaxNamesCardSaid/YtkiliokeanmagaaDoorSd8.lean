/- Symbols: IsSymbol and the reference's Symbol. -/
import Derived.Test.YtkiliokeanmagaaDoorSd7
namespace Go.Proofs.YtkiliokeanmagaaDoor.Ab
open Go
set_option linter.unusedVariables false
set_option linter.unusedSimpArgs false

def symB (s : ByteArray) : Bool := !headB s && allL s s.size 0

theorem head_size {s : ByteArray} (h : headB s = false) : s.size ≤ 40 := by
  unfold headB at h
  simp only [Bool.or_eq_false_iff, decide_eq_false_iff_not] at h
  omega

theorem sym23 {n : Nat} (hn : 60 ≤ n) (s : ByteArray) : call X E (n + 1) 40 [.c (.string s)] [] = some (.c (.bool (symB s)), []) := by
  have hE : E 40 = none := rfl
  have hX : X 40 = some x40 := rfl
  obtain ⟨tm, h1, h2, h3, h4⟩ := head23 (n := n) (by omega) s
  have g31 : tm[31]'(by omega) = .c (.bool (headB s)) := (List.getElem?_eq_some_iff.1 h4).2
  have g0 : tm[0]'(by omega) = .c (.string s) := (List.getElem?_eq_some_iff.1 h3).2
  have hr1 : exec (call X E n) n x40r1 (start x40 [.c (.string s)] []) = some (.normal, ⟨[.c (.string s), undefV, .c (.bool false)] ++ List.replicate 40 undefV, [], 0, 0⟩) := by
    simp [x40r1, x40, start, exec, runOps, stepO, known, wants, act, pureV, putV, ev, List.replicate]
  generalize (⟨[.c (.string s), undefV, .c (.bool false)] ++ List.replicate 40 undefV, [], 0, 0⟩ : St) = st0 at h1 hr1
  have hbody : ∃ st e, exec (call X E n) n x40.body (start x40 [.c (.string s)] []) = some (e, st) ∧ (e = .ret) ∧ st.tm[2]? = some (.c (.bool (symB s))) ∧ st.base = 0 ∧ st.h = [] := by
    cases hh : headB s with
    | true =>
      rw [hh] at g31
      refine ⟨⟨tm.set 2 (.c (.bool false)), [], 0, 0⟩, .ret, ?_, rfl, by simp [h2, symB, hh], rfl, rfl⟩
      show exec (call X E n) n (.seq x40r1 _) _ = _
      rw [exec, hr1]
      simp [exec, h1, ev, h2, g31, x40r3, runOps, stepO, known, wants, act, pureV, putV]
    | false =>
      rw [hh] at g31
      have hsz := head_size hh
      have hT : S23 s 0 (((tm.set 32 (.c (.string s))).set 33 (.c (.int .i64 s.size))).set 34 (.c (.int .i64 0))) := ⟨by simp [h2], by simp [h2, g0], by simp [h2], by simp [h2]⟩
      have hr4 : exec (call X E n) n x40r4 ⟨tm, [], 0, 0⟩ = some (.normal, ⟨((tm.set 32 (.c (.string s))).set 33 (.c (.int .i64 s.size))).set 34 (.c (.int .i64 0)), [], 0, 0⟩) := by
        simp [x40r4, exec, runOps, stepO, known, wants, act, pureV, putV, ev, h2, g0]
      obtain ⟨tm2, k1, k2, k3⟩ := loop23 (n := n) (by omega) hsz s.size 0 n _ (by omega) (by omega) hT
      cases ha : allL s s.size 0 with
      | true =>
        rw [ha] at k1
        refine ⟨⟨tm2.set 2 (.c (.bool true)), [], 0, 0⟩, .ret, ?_, rfl, by simp [k2, symB, hh, ha], rfl, rfl⟩
        show exec (call X E n) n (.seq x40r1 _) _ = _
        rw [exec, hr1]
        simp [exec, h1, ev, h2, g31, hr4, k1, x40r11, runOps, stepO, known, wants, act, pureV, putV]
      | false =>
        rw [ha] at k1
        refine ⟨⟨tm2, [], 0, 0⟩, .ret, ?_, rfl, by rw [k3 ha]; simp [symB, ha], rfl, rfl⟩
        show exec (call X E n) n (.seq x40r1 _) _ = _
        rw [exec, hr1]
        simp [exec, h1, ev, h2, g31, hr4, k1]
  obtain ⟨st, e, hb1, rfl, hb2, hb3, hb4⟩ := hbody
  have hres : x40.res = [.t 2] := rfl
  simp only [call, hE, hX, show x40.asg = none from rfl, runF, show x40.pure = true from rfl, show x40.esc = false from rfl, if_true, List.map_cons, List.map_nil, V.vw2, V.vw1, V.lows, V.low, Bool.and_self, Bool.false_eq_true, if_false, hb1, hres]
  simp [fin, resAll, resV, hb2, hb3, hb4, resOf, V.vw, V.vw2, V.vw1, V.low]
theorem sym24 {n : Nat} (hn : 60 ≤ n) (s : ByteArray) : call X E (n + 1) 41 [.c (.string s)] [] = some (.c (.bool (symB s)), []) := by
  have hE : E 41 = none := rfl
  have hX : X 41 = some x41 := rfl
  obtain ⟨tm, h1, h2, h3, h4⟩ := head24 (n := n) (by omega) s
  have g31 : tm[31]'(by omega) = .c (.bool (headB s)) := (List.getElem?_eq_some_iff.1 h4).2
  have g0 : tm[0]'(by omega) = .c (.string s) := (List.getElem?_eq_some_iff.1 h3).2
  have hr1 : exec (call X E n) n x41r1 (start x41 [.c (.string s)] []) = some (.normal, ⟨[.c (.string s), undefV, .c (.bool false)] ++ List.replicate 40 undefV, [], 0, 0⟩) := by
    simp [x41r1, x41, start, exec, runOps, stepO, known, wants, act, pureV, putV, ev, List.replicate]
  generalize (⟨[.c (.string s), undefV, .c (.bool false)] ++ List.replicate 40 undefV, [], 0, 0⟩ : St) = st0 at h1 hr1
  have hbody : ∃ st e, exec (call X E n) n x41.body (start x41 [.c (.string s)] []) = some (e, st) ∧ (e = .ret) ∧ st.tm[2]? = some (.c (.bool (symB s))) ∧ st.base = 0 ∧ st.h = [] := by
    cases hh : headB s with
    | true =>
      rw [hh] at g31
      refine ⟨⟨tm.set 2 (.c (.bool false)), [], 0, 0⟩, .ret, ?_, rfl, by simp [h2, symB, hh], rfl, rfl⟩
      show exec (call X E n) n (.seq x41r1 _) _ = _
      rw [exec, hr1]
      simp [exec, h1, ev, h2, g31, x41r3, runOps, stepO, known, wants, act, pureV, putV]
    | false =>
      rw [hh] at g31
      have hsz := head_size hh
      have hT : S24 s 0 (tm.set 3 (.c (.int .i64 0))) := ⟨by simp [h2], by simp [h2, g0], by simp [h2]⟩
      have hr4 : exec (call X E n) n x41r4 ⟨tm, [], 0, 0⟩ = some (.normal, ⟨tm.set 3 (.c (.int .i64 0)), [], 0, 0⟩) := by
        simp [x41r4, exec, runOps, stepO, known, wants, act, pureV, putV, ev, h2, g0]
      obtain ⟨tm2, k1, k2, k3⟩ := loop24 (n := n) (by omega) hsz s.size 0 n _ (by omega) (by omega) hT
      cases ha : allL s s.size 0 with
      | true =>
        rw [ha] at k1
        refine ⟨⟨tm2.set 2 (.c (.bool true)), [], 0, 0⟩, .ret, ?_, rfl, by simp [k2, symB, hh, ha], rfl, rfl⟩
        show exec (call X E n) n (.seq x41r1 _) _ = _
        rw [exec, hr1]
        simp [exec, h1, ev, h2, g31, hr4, k1, x41r10, runOps, stepO, known, wants, act, pureV, putV]
      | false =>
        rw [ha] at k1
        refine ⟨⟨tm2, [], 0, 0⟩, .ret, ?_, rfl, by rw [k3 ha]; simp [symB, ha], rfl, rfl⟩
        show exec (call X E n) n (.seq x41r1 _) _ = _
        rw [exec, hr1]
        simp [exec, h1, ev, h2, g31, hr4, k1]
  obtain ⟨st, e, hb1, rfl, hb2, hb3, hb4⟩ := hbody
  have hres : x41.res = [.t 2] := rfl
  simp only [call, hE, hX, show x41.asg = none from rfl, runF, show x41.pure = true from rfl, show x41.esc = false from rfl, if_true, List.map_cons, List.map_nil, V.vw2, V.vw1, V.lows, V.low, Bool.and_self, Bool.false_eq_true, if_false, hb1, hres]
  simp [fin, resAll, resV, hb2, hb3, hb4, resOf, V.vw, V.vw2, V.vw1, V.low]

end Go.Proofs.YtkiliokeanmagaaDoor.Ab
