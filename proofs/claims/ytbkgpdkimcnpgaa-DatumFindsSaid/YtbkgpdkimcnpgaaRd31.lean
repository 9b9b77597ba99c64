/- The law of DatumFinds. -/
import Derived.Test.YtbkgpdkimcnpgaaRd30
namespace Go.Proofs.Ytbkgpdkimcnpgaa.Ab
open Go
set_option linter.unusedVariables false
set_option linter.unusedSimpArgs false
set_option maxRecDepth 4000
set_option maxHeartbeats 1000000

theorem walk55 {n : Nat} {x : D} {a : O} (hx : x.sz < 1099511627776) (hn : 2 * x.sz + 2 ≤ n) (ha : O.low 3 a = true) : ∀ (L : List (D × List Int)), (∀ p ∈ L, p.2.length < 1099511627776) →
    walk (fun y p h => yieldV (call X E (n + 1)) 55 [.ref 1 0, .ref 2 0] y.v p h) L [a, .cells x.v.cells, .cells [.sl [] .nil]] =
      some ((firstP x L).isNone, [a, .cells x.v.cells, .cells [match firstP x L with | some p => pv p | none => .sl [] .nil]])
  | [], _ => rfl
  | (y, q) :: L, h1 => by
    simp only [walk]
    rw [run55 hx hn (h1 (y, q) (by simp)) ha]
    simp only [firstP]
    cases hs : x.same y with
    | true => rfl
    | false =>
      simp only [Bool.not_false, Bool.false_eq_true, if_false]
      exact walk55 hx hn ha L fun p hp => h1 p (by simp [hp])

theorem run26a {a y : D} {n : Nat} (hs : a.sz ≤ 100000) (hn : 4 * a.sz + 64 ≤ n) (h0 : a.ck ≠ 0) : Gives (n + 1) 26 [a.v, y.v] (.tup [pv [], .c (.bool false), .c (.int .i64 a.ck)]) := by
  have c1 : ∀ h, call X E n 15 [a.v] h = some (.c (.int .i64 a.ck), h) := run15 a (by omega) n hn
  have h0' : (a.ck != 0) = true := by simpa using h0
  refine gives_of rfl rfl rfl (by kernel_rfl) ⟨rfl, rfl⟩ (by simp [D.vw2, V.lows, D.low]) ?_
  generalize call X E n = cf at *
  simp -implicitDefEqProofs [x26_w, x26_r, x26r1_w, x26r2_w, x26r3_w, x26r4_w, D.vw2, D.okc, D.rd, D.cells_len, c1, h0', pv, V.low, V.lows, SI.low]
theorem run26b {a y : D} {n : Nat} (hs : a.sz ≤ 100000) (hn : 4 * a.sz + 64 ≤ n) (hs' : y.sz ≤ 100000) (hn' : 4 * y.sz + 64 ≤ n) (h0 : a.ck = 0) (h1 : y.ck ≠ 0) : Gives (n + 1) 26 [a.v, y.v] (.tup [pv [], .c (.bool false), .c (.int .i64 y.ck)]) := by
  have c1 : ∀ h, call X E n 15 [a.v] h = some (.c (.int .i64 a.ck), h) := run15 a (by omega) n hn
  have c2 : ∀ h, call X E n 15 [y.v] h = some (.c (.int .i64 y.ck), h) := run15 y (by omega) n hn'
  have h0' : (a.ck != 0) = false := by simpa using h0
  have h1' : (y.ck != 0) = true := by simpa using h1
  refine gives_of rfl rfl rfl (by kernel_rfl) ⟨rfl, rfl⟩ (by simp [D.vw2, V.lows, D.low]) ?_
  generalize call X E n = cf at *
  simp -implicitDefEqProofs [x26_w, x26_r, x26r1_w, x26r2_w, x26r3_w, x26r4_w, x26r5_w, x26r6_w, x26r7_w, D.vw2, D.okc, D.rd, D.cells_len, c1, c2, h0', h1', pv, V.low, V.lows, SI.low]
def fres3 : Option (List Int) → V
  | some p => .tup [pv p, .c (.bool true), .c (.int .i64 0)]
  | none => .tup [pv [], .c (.bool false), .c (.int .i64 0)]
theorem run26c {a y : D} {n : Nat} (hs : a.sz ≤ 100000) (hn : 4 * a.sz + 64 ≤ n) (hs' : y.sz ≤ 100000) (hn' : 4 * y.sz + 64 ≤ n) (h0 : a.ck = 0) (h1 : y.ck = 0) : Gives (n + 1) 26 [a.v, y.v] (fres3 (D.fnd y a)) := by
  have c1 : ∀ h, call X E n 15 [a.v] h = some (.c (.int .i64 a.ck), h) := run15 a (by omega) n hn
  have c2 : ∀ h, call X E n 15 [y.v] h = some (.c (.int .i64 y.ck), h) := run15 y (by omega) n hn'
  have h0' : (a.ck != 0) = false := by simpa using h0
  have h1' : (y.ck != 0) = false := by simpa using h1
  have c3 : call X E n 45 [a.v, .sl [] .nil, .clo 55 [.ref 1 0, .ref 2 0]] [.cells a.v.cells, .cells y.v.cells, .cells [.sl [] .nil]] =
      some (.c (.bool (D.fnd y a).isNone), [.cells a.v.cells, .cells y.v.cells, .cells [match D.fnd y a with | some p => pv p | none => .sl [] .nil]]) := by
    have hpz := D.sz_pos a
    obtain ⟨n, rfl⟩ : ∃ n', n = n' + 1 + 1 := ⟨n - 2, by omega⟩
    have hp := D.firstP_pre y a []
    have hid : (D.fnd y a).map (([] : List Int) ++ ·) = D.fnd y a := by cases D.fnd y a <;> rfl
    rw [hid] at hp
    generalize hnn : n + 1 = N at *
    rw [call45 (n := N) (by omega) (by omega) (by simp [V.lows, V.low])]
    subst hnn
    rw [walk55 (n := n) (x := y) (by omega) (by omega) (D.lowBox 3 a) (a.pre []) fun p hp => by have := D.pre_path a [] p hp; simp only [List.length_nil] at this; omega]
    rw [hp]
    rfl
  refine gives_of rfl rfl rfl (by kernel_rfl) ⟨rfl, rfl⟩ (by simp [D.vw2, V.lows, D.low]) ?_
  generalize call X E n = cf at *
  cases hf : D.fnd y a with
  | none =>
    rw [hf] at c3
    simp -implicitDefEqProofs [x26_w, x26_r, x26r1_w, x26r2_w, x26r3_w, x26r4_w, x26r5_w, x26r6_w, x26r7_w, x26r8_w, x26r9_w, x26r10_w, D.vw2, D.okc, D.rd, D.cells_len, c1, c2, c3, h0', h1', pv, fres3, V.low, V.lows, SI.low]
  | some p =>
    rw [hf] at c3
    simp -implicitDefEqProofs [x26_w, x26_r, x26r1_w, x26r2_w, x26r3_w, x26r4_w, x26r5_w, x26r6_w, x26r7_w, x26r8_w, x26r9_w, x26r10_w, D.vw2, D.okc, D.rd, D.cells_len, c1, c2, c3, h0', h1', pv, fres3, V.low, V.lows, SI.low, lows_I64]

theorem law6 (d1 d2 : D) : call X E 20000 6 [d1.v, d2.v] [] = some (.c (.bool true), []) := by
  have hs1 := D.cut_small d1 3000 1020 (by omega)
  have hs2 := D.cut_small d2 3000 1020 (by omega)
  have c1 : ∀ h, call X E 19999 14 [d1.v] h = some ((d1.cut 3000 1020).1.v, h) := run14 d1 19998 (by omega)
  have c2 : ∀ h, call X E 19999 14 [d2.v] h = some ((d2.cut 3000 1020).1.v, h) := run14 d2 19998 (by omega)
  generalize (d1.cut 3000 1020).1 = a at *
  generalize (d2.cut 3000 1020).1 = y at *
  have e1 : ∀ h, call X E 19999 16 [a.v] h = some (.c (.int .i64 a.ck), h) := run16 a (by omega) 19999 (by omega)
  have e2 : ∀ h, call X E 19999 16 [y.v] h = some (.c (.int .i64 y.ck), h) := run16 y (by omega) 19999 (by omega)
  have e8 : ∀ h, call X E 19999 22 [] h = some (.c (.bool true), h) := gives_nil (n := 19999) rfl (alive_up (by omega))
  refine gives_of (n := 19999) rfl rfl rfl (by kernel_rfl) ⟨rfl, rfl⟩ (by simp [D.vw2, V.lows, D.low]) ?_ []
  by_cases h0 : a.ck = 0
  · have h0' : (a.ck == 0) = true := by simpa using h0
    by_cases h1 : y.ck = 0
    · have h1' : (y.ck != 0) = false := by simpa using h1
      have f1 : ∀ h, call X E 19999 26 [a.v, y.v] h = some (fres3 (D.fnd y a), h) := run26c (n := 19998) (by omega) (by omega) (by omega) (by omega) h0 h1
      have f2 : ∀ h, call X E 19999 27 [a.v, y.v] h = some (fres (D.fnd y a), h) := run27 y a (by omega) 19999 (by omega)
      have f3 : ∀ p, D.fnd y a = some p → ∀ h, call X E 19999 28 [pv p, pv p] h = some (.c (.bool true), h) := fun p hp h => by
        have hl := D.fnd_len y a p hp
        have := run28 (n := 19998) (p := p) (q := p) (by omega) (by omega) h
        rwa [samep_refl] at this
      have f4 : ∀ h, call X E 19999 28 [pv [], pv []] h = some (.c (.bool true), h) := run28 (n := 19998) (p := []) (q := []) (by simp) (by simp)
      generalize call X E 19999 = cf at *
      cases hf : D.fnd y a with
      | none =>
        rw [hf] at f1 f2
        simp -implicitDefEqProofs [x6_w, x6_r, x6r1_w, x6r2_w, x6r3_w, x6r4_w, x6r5_w, x6r6_w, x6r7_w, x6r9_w, x6r10_w, D.vw2, D.okc, D.rd, D.cells_len, D.spl, c1, c2, e1, e2, e8, h0', h1', f1, f2, f4, fres, fres3]
      | some p =>
        have f5 := f3 p hf
        rw [hf] at f1 f2
        simp -implicitDefEqProofs [x6_w, x6_r, x6r1_w, x6r2_w, x6r3_w, x6r4_w, x6r5_w, x6r6_w, x6r7_w, x6r9_w, x6r10_w, D.vw2, D.okc, D.rd, D.cells_len, D.spl, c1, c2, e1, e2, e8, h0', h1', f1, f2, f5, fres, fres3]
    · have h1' : (y.ck != 0) = true := by simpa using h1
      have f1 : ∀ h, call X E 19999 26 [a.v, y.v] h = some (.tup [pv [], .c (.bool false), .c (.int .i64 y.ck)], h) := run26b (n := 19998) (by omega) (by omega) (by omega) (by omega) h0 h1
      generalize call X E 19999 = cf at *
      simp -implicitDefEqProofs [x6_w, x6_r, x6r1_w, x6r2_w, x6r3_w, x6r4_w, x6r5_w, x6r6_w, x6r7_w, x6r8_w, D.vw2, D.okc, D.rd, D.cells_len, D.spl, c1, c2, e1, e2, e8, h0', h1', f1, pv_len]
  · have h0' : (a.ck == 0) = false := by simpa using h0
    have h1' : (a.ck != 0) = true := by simpa using h0
    have f1 : ∀ h, call X E 19999 26 [a.v, y.v] h = some (.tup [pv [], .c (.bool false), .c (.int .i64 a.ck)], h) := run26a (n := 19998) (by omega) (by omega) h0
    generalize call X E 19999 = cf at *
    simp -implicitDefEqProofs [x6_w, x6_r, x6r1_w, x6r2_w, x6r3_w, x6r4_w, x6r5_w, x6r6_w, x6r7_w, x6r8_w, D.vw2, D.okc, D.rd, D.cells_len, D.spl, c1, c2, e1, e2, e8, h0', h1', f1, pv_len]
end Go.Proofs.Ytbkgpdkimcnpgaa.Ab
