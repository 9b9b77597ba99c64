/- datum.Parts, Deep and Check. -/
import Derived.Test.YtbkgpdkimcnpgaaRd14
namespace Go.Proofs.Ytbkgpdkimcnpgaa.Ab
open Go
set_option linter.unusedVariables false
set_option linter.unusedSimpArgs false
set_option maxRecDepth 4000
set_option maxHeartbeats 1000000

theorem walk46 {n : Nat} {a : O} (ha : O.low 2 a = true) : ∀ (L : List (D × List Int)) (c : Int), -1 ≤ c → c + L.length < 4611686018427387904 →
    walk (fun x p h => yieldV (call X E (n + 1)) 46 [.ref 1 0] x.v p h) L [a, .cells [.c (.int .i64 c)]] = some (true, [a, .cells [.c (.int .i64 (c + L.length))]])
  | [], c, _, _ => by simp [walk]
  | (x, q) :: L, c, h1, h2 => by
    simp only [List.length_cons] at h2 ⊢
    simp only [walk]
    rw [run46 (by omega) ha]
    simp only
    rw [walk46 ha L (c + 1) (by omega) (by omega)]
    simp only [Option.some.injEq, Prod.mk.injEq, true_and, List.cons.injEq, O.cells.injEq, V.c.injEq, Value.int.injEq, and_true]
    omega
theorem D.lowBox (m : Nat) (d : D) : O.low m (.cells d.v.cells) = true := by
  rw [olow_cells]
  exact lows_of fun v hv => low_cells (D.low m d) v hv

theorem run17 {d : D} {n : Nat} (hs : d.sz ≤ 1099511627776) (hn : d.sz + 2 ≤ n) : Gives (n + 1) 17 [d.v] (.c (.int .i64 d.sz)) := by
  obtain ⟨m, rfl⟩ : ∃ m', n = m' + 2 := ⟨n - 2, by omega⟩
  refine gives_of rfl rfl rfl (by kernel_rfl) ⟨rfl, rfl⟩ (by simp [D.vw2, V.lows, D.low]) ?_
  have hc : call X E (m + 2) 45 [d.v, .sl [] .nil, .clo 46 [.ref 1 0]] [.cells d.v.cells, .cells [.c (.int .i64 0)]] = some (.c (.bool true), [.cells d.v.cells, .cells [.c (.int .i64 d.sz)]]) := by
    rw [call45 (n := m + 1) (by omega) hs (by simp [V.lows, V.low])]
    rw [walk46 (n := m) (D.lowBox 2 d) (d.pre []) 0 (by omega) (by rw [D.pre_len]; omega), D.pre_len]
    simp
  simp -implicitDefEqProofs [x17_w, x17_r, x17r1_w, x17r2_w, x17r3_w, x17r4_w, D.vw2, D.okc, D.rd, hc]

/-- The greatest of lengths, by one more. -/
def top : List (D × List Int) → Int → Int
  | [], c => c
  | (_, q) :: L, c => top L (max c (q.length + 1))
theorem top_app : ∀ (a b : List (D × List Int)) (c : Int), top (a ++ b) c = top b (top a c)
  | [], b, c => rfl
  | (x, q) :: a, b, c => by simp only [List.cons_append, top, top_app a b]
mutual
theorem D.top_pre : ∀ (d : D) (ps : List Int) (c : Int), top (d.pre ps) c = max c (ps.length + d.dp)
  | .mk k n t l, ps, c => by
    simp only [D.pre, top, D.top_pres l ps 0, D.dp]
    cases l with
    | nil => simp [D.dps]
    | cons d l => rw [if_neg (by simp)]; omega
theorem D.top_pres : ∀ (l : List D) (ps : List Int) (i : Nat) (c : Int), top (D.pres l ps i) c = if l = [] then c else max c (ps.length + 1 + D.dps l)
  | [], _, _, _ => rfl
  | d :: l, ps, i, c => by
    have hp := D.dp_pos d
    simp only [D.pres, top_app, D.top_pre d, D.top_pres l, D.dps, List.length_append, List.length_cons, List.length_nil]
    cases l with
    | nil => simp [D.dps]
    | cons d' l => rw [if_neg (by simp), if_neg (by simp)]; omega
theorem D.dp_pos : ∀ d : D, 1 ≤ d.dp
  | .mk _ _ _ _ => by simp only [D.dp]; omega
end

theorem run47 {n : Nat} {x : D} {ps : List Int} {a : O} {c : Int} (hc : ps.length < 4611686018427387904) (ha : O.low 2 a = true) : yieldV (call X E (n + 1)) 47 [.ref 1 0] x.v ps [a, .cells [.c (.int .i64 c)]] = some (true, [a, .cells [.c (.int .i64 (max c (ps.length + 1)))]]) := by
  refine yield_of (by simp [V.lows, V.low]) ?_ ?_ rfl ?_
  · simp [olow_cells, V.lows, V.low, olow1 (Nat.le_succ 2) ha]
  · simp [olow_cells, V.lows, V.low, ha]
  · have hE : E 47 = none := rfl
    have hX : X 47 = some x47 := rfl
    simp only [call, hE, hX]
    refine runF_at (by kernel_rfl) rfl rfl (wpk_of ?_)
    have hw : IntKind.i64.wrap ((ps.length : Int) + 1) = ps.length + 1 := wrap_in (by omega)
    have hm : (if (ps.length : Int) + 1 > c then (ps.length : Int) + 1 else c) = max c (ps.length + 1) := by split <;> omega
    simp -implicitDefEqProofs [x47_w, x47_r, x47r1_w, x47r2_w, x47r3_w, D.vw2, D.okc, D.rd, hw]
    simp [olow_cells, V.lows, V.low, olow1 (Nat.le_succ 2) ha, low_pcell]
    split <;> omega
theorem walk47 {n : Nat} {a : O} (ha : O.low 2 a = true) : ∀ (L : List (D × List Int)) (c : Int), (∀ p ∈ L, p.2.length < 4611686018427387904) →
    walk (fun x p h => yieldV (call X E (n + 1)) 47 [.ref 1 0] x.v p h) L [a, .cells [.c (.int .i64 c)]] = some (true, [a, .cells [.c (.int .i64 (top L c))]])
  | [], c, _ => by simp [walk, top]
  | (x, q) :: L, c, h1 => by
    simp only [walk]
    rw [run47 (h1 (x, q) (by simp)) ha]
    simp only
    rw [walk47 ha L _ fun p hp => h1 p (by simp [hp])]
    simp only [top]
mutual
theorem D.pre_path : ∀ (d : D) (ps : List Int), ∀ p ∈ d.pre ps, p.2.length ≤ ps.length + d.sz
  | .mk k n t l, ps, p, hp => by
    simp only [D.pre, List.mem_cons] at hp
    simp only [D.sz]
    rcases hp with rfl | hp
    · simp only; omega
    · have := D.pres_path l ps 0 p hp; omega
theorem D.pres_path : ∀ (l : List D) (ps : List Int) (i : Nat), ∀ p ∈ D.pres l ps i, p.2.length ≤ ps.length + 1 + D.szs l
  | [], ps, i, p, hp => by simp [D.pres] at hp
  | d :: l, ps, i, p, hp => by
    simp only [D.pres, List.mem_append] at hp
    simp only [D.szs]
    rcases hp with hp | hp
    · have := D.pre_path d _ p hp; simp only [List.length_append, List.length_cons, List.length_nil] at this; omega
    · have := D.pres_path l ps (i + 1) p hp; omega
end
theorem run19 {d : D} {n : Nat} (hs : d.sz ≤ 1099511627776) (hn : d.sz + 2 ≤ n) : Gives (n + 1) 19 [d.v] (.c (.int .i64 d.dp)) := by
  obtain ⟨m, rfl⟩ : ∃ m', n = m' + 2 := ⟨n - 2, by omega⟩
  refine gives_of rfl rfl rfl (by kernel_rfl) ⟨rfl, rfl⟩ (by simp [D.vw2, V.lows, D.low]) ?_
  have hc : call X E (m + 2) 45 [d.v, .sl [] .nil, .clo 47 [.ref 1 0]] [.cells d.v.cells, .cells [.c (.int .i64 0)]] = some (.c (.bool true), [.cells d.v.cells, .cells [.c (.int .i64 d.dp)]]) := by
    rw [call45 (n := m + 1) (by omega) hs (by simp [V.lows, V.low])]
    rw [walk47 (n := m) (D.lowBox 2 d) (d.pre []) 0 (fun p hp => by have := D.pre_path d [] p hp; simp only [List.length_nil] at this; omega), D.top_pre]
    have : max (0 : Int) (([] : List Int).length + d.dp) = d.dp := by simp
    rw [this]
    rfl
  simp -implicitDefEqProofs [x19_w, x19_r, x19r1_w, x19r2_w, x19r3_w, x19r4_w, D.vw2, D.okc, D.rd, hc]

theorem run15 (d : D) (hs : d.sz ≤ 1099511627776) (n : Nat) (hn : 4 * d.sz + 64 ≤ n) : Gives n 15 [d.v] (.c (.int .i64 d.ck)) := by
  obtain ⟨m, rfl⟩ : ∃ m', n = m' + 2 := ⟨n - 2, by omega⟩
  have c1 : ∀ h, call X E (m + 1) 43 [d.v] h = some (.c (.bool d.fm), h) := run43 d (by omega) (m + 1) (by omega)
  have c2 : ∀ h, call X E (m + 1) 17 [d.v] h = some (.c (.int .i64 d.sz), h) := run17 (n := m) hs (by omega)
  have c3 : ∀ h, call X E (m + 1) 19 [d.v] h = some (.c (.int .i64 d.dp), h) := run19 (n := m) hs (by omega)
  refine gives_of rfl rfl rfl (by kernel_rfl) ⟨rfl, rfl⟩ (by simp [D.vw2, V.lows, D.low]) ?_
  cases hf : d.fm with
  | false =>
    rw [hf] at c1
    simp -implicitDefEqProofs [x15_w, x15_r, x15r1_w, x15r2_w, x15r3_w, D.vw2, D.okc, D.rd, c1, D.ck, hf]
  | true =>
    rw [hf] at c1
    by_cases h1 : d.sz > 100000
    · have h1' : (100000 : Int) < d.sz := by omega
      simp -implicitDefEqProofs [x15_w, x15_r, x15r1_w, x15r2_w, x15r3_w, x15r4_w, x15r5_w, D.vw2, D.okc, D.rd, c1, c2, h1', D.ck, hf, h1]
    · have h1' : ¬ (100000 : Int) < d.sz := by omega
      by_cases h2 : d.dp > 1000
      · have h2' : (1000 : Int) < d.dp := by omega
        simp -implicitDefEqProofs [x15_w, x15_r, x15r1_w, x15r2_w, x15r3_w, x15r4_w, x15r5_w, D.vw2, D.okc, D.rd, c1, c2, c3, h1', h2', D.ck, hf, h1, h2]
      · have h2' : ¬ (1000 : Int) < d.dp := by omega
        simp -implicitDefEqProofs [x15_w, x15_r, x15r1_w, x15r2_w, x15r3_w, x15r4_w, x15r5_w, x15r6_w, D.vw2, D.okc, D.rd, c1, c2, c3, h1', h2', D.ck, hf, h1, h2]
end Go.Proofs.Ytbkgpdkimcnpgaa.Ab
