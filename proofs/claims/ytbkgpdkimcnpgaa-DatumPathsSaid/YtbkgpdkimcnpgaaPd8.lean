/- Symbols: IsSymbol and the reference's Symbol. -/
import Derived.Test.YtbkgpdkimcnpgaaPd7
namespace Go.Proofs.Ytbkgpdkimcnpgaa.Ab
open Go
set_option linter.unusedVariables false
set_option linter.unusedSimpArgs false

def symB (s : ByteArray) : Bool := !headB s && allL s s.size 0

theorem head_size {s : ByteArray} (h : headB s = false) : s.size ≤ 40 := by
  unfold headB at h
  simp only [Bool.or_eq_false_iff, decide_eq_false_iff_not] at h
  omega

theorem sym23 {n : Nat} (hn : 60 ≤ n) (s : ByteArray) : call X E (n + 1) 23 [.c (.string s)] [] = some (.c (.bool (symB s)), []) := by
  have hE : E 23 = none := rfl
  have hX : X 23 = some x23 := rfl
  obtain ⟨tm, h1, h2, h3, h4⟩ := head23 (n := n) (by omega) s
  have g31 : tm[31]'(by omega) = .c (.bool (headB s)) := (List.getElem?_eq_some_iff.1 h4).2
  have g0 : tm[0]'(by omega) = .c (.string s) := (List.getElem?_eq_some_iff.1 h3).2
  have hr1 : exec (call X E n) n x23r1 (start x23 [.c (.string s)] []) = some (.normal, ⟨[.c (.string s), undefV, .c (.bool false)] ++ List.replicate 40 undefV, [], 0, 0⟩) := by
    simp [x23r1, x23, start, exec, runOps, stepO, known, wants, act, pureV, putV, ev, List.replicate]
  generalize (⟨[.c (.string s), undefV, .c (.bool false)] ++ List.replicate 40 undefV, [], 0, 0⟩ : St) = st0 at h1 hr1
  have hbody : ∃ st e, exec (call X E n) n x23.body (start x23 [.c (.string s)] []) = some (e, st) ∧ (e = .ret) ∧ st.tm[2]? = some (.c (.bool (symB s))) ∧ st.base = 0 ∧ st.h = [] := by
    cases hh : headB s with
    | true =>
      rw [hh] at g31
      refine ⟨⟨tm.set 2 (.c (.bool false)), [], 0, 0⟩, .ret, ?_, rfl, by simp [h2, symB, hh], rfl, rfl⟩
      show exec (call X E n) n (.seq x23r1 _) _ = _
      rw [exec, hr1]
      simp [exec, h1, ev, h2, g31, x23r3, runOps, stepO, known, wants, act, pureV, putV]
    | false =>
      rw [hh] at g31
      have hsz := head_size hh
      have hT : S23 s 0 (((tm.set 32 (.c (.string s))).set 33 (.c (.int .i64 s.size))).set 34 (.c (.int .i64 0))) := ⟨by simp [h2], by simp [h2, g0], by simp [h2], by simp [h2]⟩
      have hr4 : exec (call X E n) n x23r4 ⟨tm, [], 0, 0⟩ = some (.normal, ⟨((tm.set 32 (.c (.string s))).set 33 (.c (.int .i64 s.size))).set 34 (.c (.int .i64 0)), [], 0, 0⟩) := by
        simp [x23r4, exec, runOps, stepO, known, wants, act, pureV, putV, ev, h2, g0]
      obtain ⟨tm2, k1, k2, k3⟩ := loop23 (n := n) (by omega) hsz s.size 0 n _ (by omega) (by omega) hT
      cases ha : allL s s.size 0 with
      | true =>
        rw [ha] at k1
        refine ⟨⟨tm2.set 2 (.c (.bool true)), [], 0, 0⟩, .ret, ?_, rfl, by simp [k2, symB, hh, ha], rfl, rfl⟩
        show exec (call X E n) n (.seq x23r1 _) _ = _
        rw [exec, hr1]
        simp [exec, h1, ev, h2, g31, hr4, k1, x23r11, runOps, stepO, known, wants, act, pureV, putV]
      | false =>
        rw [ha] at k1
        refine ⟨⟨tm2, [], 0, 0⟩, .ret, ?_, rfl, by rw [k3 ha]; simp [symB, ha], rfl, rfl⟩
        show exec (call X E n) n (.seq x23r1 _) _ = _
        rw [exec, hr1]
        simp [exec, h1, ev, h2, g31, hr4, k1]
  obtain ⟨st, e, hb1, rfl, hb2, hb3, hb4⟩ := hbody
  have hres : x23.res = [.t 2] := rfl
  simp only [call, hE, hX, runF, show x23.pure = true from rfl, show x23.esc = false from rfl, if_true, List.map_cons, List.map_nil, V.vw2, V.vw1, V.lows, V.low, Bool.and_self, Bool.false_eq_true, if_false, hb1, hres]
  simp [fin, resAll, resV, hb2, hb3, hb4, resOf, V.vw, V.vw2, V.vw1, V.low]
theorem sym24 {n : Nat} (hn : 60 ≤ n) (s : ByteArray) : call X E (n + 1) 24 [.c (.string s)] [] = some (.c (.bool (symB s)), []) := by
  have hE : E 24 = none := rfl
  have hX : X 24 = some x24 := rfl
  obtain ⟨tm, h1, h2, h3, h4⟩ := head24 (n := n) (by omega) s
  have g31 : tm[31]'(by omega) = .c (.bool (headB s)) := (List.getElem?_eq_some_iff.1 h4).2
  have g0 : tm[0]'(by omega) = .c (.string s) := (List.getElem?_eq_some_iff.1 h3).2
  have hr1 : exec (call X E n) n x24r1 (start x24 [.c (.string s)] []) = some (.normal, ⟨[.c (.string s), undefV, .c (.bool false)] ++ List.replicate 40 undefV, [], 0, 0⟩) := by
    simp [x24r1, x24, start, exec, runOps, stepO, known, wants, act, pureV, putV, ev, List.replicate]
  generalize (⟨[.c (.string s), undefV, .c (.bool false)] ++ List.replicate 40 undefV, [], 0, 0⟩ : St) = st0 at h1 hr1
  have hbody : ∃ st e, exec (call X E n) n x24.body (start x24 [.c (.string s)] []) = some (e, st) ∧ (e = .ret) ∧ st.tm[2]? = some (.c (.bool (symB s))) ∧ st.base = 0 ∧ st.h = [] := by
    cases hh : headB s with
    | true =>
      rw [hh] at g31
      refine ⟨⟨tm.set 2 (.c (.bool false)), [], 0, 0⟩, .ret, ?_, rfl, by simp [h2, symB, hh], rfl, rfl⟩
      show exec (call X E n) n (.seq x24r1 _) _ = _
      rw [exec, hr1]
      simp [exec, h1, ev, h2, g31, x24r3, runOps, stepO, known, wants, act, pureV, putV]
    | false =>
      rw [hh] at g31
      have hsz := head_size hh
      have hT : S24 s 0 (tm.set 3 (.c (.int .i64 0))) := ⟨by simp [h2], by simp [h2, g0], by simp [h2]⟩
      have hr4 : exec (call X E n) n x24r4 ⟨tm, [], 0, 0⟩ = some (.normal, ⟨tm.set 3 (.c (.int .i64 0)), [], 0, 0⟩) := by
        simp [x24r4, exec, runOps, stepO, known, wants, act, pureV, putV, ev, h2, g0]
      obtain ⟨tm2, k1, k2, k3⟩ := loop24 (n := n) (by omega) hsz s.size 0 n _ (by omega) (by omega) hT
      cases ha : allL s s.size 0 with
      | true =>
        rw [ha] at k1
        refine ⟨⟨tm2.set 2 (.c (.bool true)), [], 0, 0⟩, .ret, ?_, rfl, by simp [k2, symB, hh, ha], rfl, rfl⟩
        show exec (call X E n) n (.seq x24r1 _) _ = _
        rw [exec, hr1]
        simp [exec, h1, ev, h2, g31, hr4, k1, x24r10, runOps, stepO, known, wants, act, pureV, putV]
      | false =>
        rw [ha] at k1
        refine ⟨⟨tm2, [], 0, 0⟩, .ret, ?_, rfl, by rw [k3 ha]; simp [symB, ha], rfl, rfl⟩
        show exec (call X E n) n (.seq x24r1 _) _ = _
        rw [exec, hr1]
        simp [exec, h1, ev, h2, g31, hr4, k1]
  obtain ⟨st, e, hb1, rfl, hb2, hb3, hb4⟩ := hbody
  have hres : x24.res = [.t 2] := rfl
  simp only [call, hE, hX, runF, show x24.pure = true from rfl, show x24.esc = false from rfl, if_true, List.map_cons, List.map_nil, V.vw2, V.vw1, V.lows, V.low, Bool.and_self, Bool.false_eq_true, if_false, hb1, hres]
  simp [fin, resAll, resV, hb2, hb3, hb4, resOf, V.vw, V.vw2, V.vw1, V.low]

theorem law4 {n : Nat} (hn : 61 ≤ n) (s : ByteArray) : call X E (n + 1) 4 [.c (.string s)] [] = some (.c (.bool true), []) := by
  obtain ⟨m, rfl⟩ : ∃ m, n = m + 1 := ⟨n - 1, by omega⟩
  have hE : E 4 = none := rfl
  have hX : X 4 = some x4 := rfl
  have c1 := sym23 (n := m) (by omega) s
  have c2 := sym24 (n := m) (by omega) s
  have c3 := alive_up (n := m + 1) (by omega)
  have hb : ∃ st, exec (call X E (m + 1)) (m + 1) x4.body (start x4 [.c (.string s)] []) = some (.ret, st) ∧ st.tm[2]? = some (.c (.bool true)) ∧ st.base = 0 ∧ st.h = [] := by
    generalize call X E (m + 1) = cf at c1 c2 c3
    refine ⟨_, by simp [x4, x4r1, x4r2, start, exec, runOps, stepO, known, wants, act, pureV, putV, ev, callee_f, c1, c2, c3, binV, List.replicate]; rfl, ?_⟩
    simp
  obtain ⟨st, hb1, hb2, hb3, hb4⟩ := hb
  have hres : x4.res = [.t 2] := rfl
  rw [call]
  simp only [hE, hX, runF, show x4.pure = true from rfl, show x4.esc = false from rfl, if_true, List.map_cons, List.map_nil, V.vw2, V.vw1, V.lows, V.low, Bool.and_self, Bool.false_eq_true, if_false, hb1, hres]
  simp [fin, resAll, resV, hb2, hb3, hb4, resOf, V.vw, V.vw2, V.vw1, V.low]
end Go.Proofs.Ytbkgpdkimcnpgaa.Ab
