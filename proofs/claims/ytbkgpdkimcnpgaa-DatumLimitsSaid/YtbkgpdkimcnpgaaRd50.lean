/- The large datum of DatumLimits. -/
import Derived.Test.YtbkgpdkimcnpgaaRd34
namespace Go.Proofs.Ytbkgpdkimcnpgaa.Ab
open Go
set_option linter.unusedVariables false
set_option linter.unusedSimpArgs false
set_option maxRecDepth 4000
set_option maxHeartbeats 1000000

def chain : Nat → D
  | 0 => .mk 3 0 ⟨#[]⟩ []
  | i + 1 => .mk 3 0 ⟨#[]⟩ [chain i]
def numD (i : Nat) : D := .mk 1 i ⟨#[]⟩ []
def nums (n : Nat) : Nat → List D
  | 0 => []
  | j + 1 => nums n j ++ [numD (n + j)]
theorem nums_len (n : Nat) : ∀ j, (nums n j).length = j
  | 0 => rfl
  | j + 1 => by simp [nums, nums_len n j]
theorem chain_sz : ∀ i, (chain i).sz = i + 1
  | 0 => rfl
  | i + 1 => by simp only [chain, D.sz, D.szs, chain_sz i]; omega
theorem chain_dp : ∀ i, (chain i).dp = i + 1
  | 0 => rfl
  | i + 1 => by simp only [chain, D.dp, D.dps, chain_dp i]; omega
theorem empB_nil : empB ⟨#[]⟩ = true := by simp [empB]
theorem chain_fm : ∀ i, (chain i).fm = true
  | 0 => by simp [chain, D.fm, D.fms, empB_nil]
  | i + 1 => by simp [chain, D.fm, D.fms, empB_nil, chain_fm i]
theorem num_fm (i : Nat) : (numD i).fm = true := by simp [numD, D.fm, empB_nil]

theorem run48 {n : Nat} : Gives (n + 1) 48 [.sl [] .nil] (chain 0).v := by
  refine gives_of rfl rfl rfl (by kernel_rfl) ⟨rfl, rfl⟩ (by simp [V.lows, V.low, SI.low]) ?_
  generalize call X E n = cf at *
  simp -implicitDefEqProofs [x48_w, x48_r, x48r1_w, x48r2_w, chain, D.v, D.vs, V.low, V.lows, SI.low]
theorem run50 {n : Nat} (i : Nat) : Gives (n + 1) 50 [.c (.int .i64 i)] (numD i).v := by
  refine gives_of rfl rfl rfl (by kernel_rfl) ⟨rfl, rfl⟩ (by simp [V.lows, V.low, SI.low]) ?_
  generalize call X E n = cf at *
  simp -implicitDefEqProofs [x50_w, x50_r, x50r1_w, x50r2_w, numD, D.v, D.vs, V.low, V.lows, SI.low]

def rO' : O := .cells [.c (.int .i64 0), .c (.int .i64 0), .c (.string ⟨#[]⟩), .sl [] .nil]
def tO (kv : V) : O := .cells [.c (.int .i64 3), .c (.int .i64 0), .c (.string ⟨#[]⟩), kv]
structure J25 (n many : Nat) (c : Nat) (s : SF) : Prop where
  e2 : s.e 2 = .c (.int .u8 c)
  e6 : s.e 6 = .ref 0 0
  e9 : s.e 9 = .c (.int .i64 n)
  e10 : s.e 10 = .c (.int .i64 many)
  e11 : s.e 11 = .ref 1 0
  b : s.base = 0
structure A25 (n many c : Nat) (m : Nat) (s : SF) : Prop where
  j : ∃ (i : Nat) (kv : V) (rest : List O), 1 ≤ i ∧ i + m = n ∧ s.e 12 = .c (.int .i64 i) ∧ s.h = rO' :: tO kv :: rest ∧ kv.vw1 = .sl (D.vs (chain (i - 1)).kids) .any ∧ okc kv = true ∧ (2 ≤ i → kv = .sl [(chain (i - 2)).v] .full)
  J : J25 n many c s
theorem stepA25 {cf : CallF} {fu : Nat} {n many c : Nat} (hn : n < 2000) {Q : Ex → SF → Prop}
    (hQ : ∀ s kv rest, s.h = rO' :: tO kv :: rest → (2 ≤ n → kv = .sl [(chain (n - 2)).v] .full) → J25 n many c s → Q (.exit 0) s) (m : Nat) (s : SF) (I : A25 n many c m s) :
    wpk cf fu x25l8 [] (fun e s' => match e with | .normal => ∃ k1, k1 < m ∧ A25 n many c k1 s' | e => Q e s') s := by
  obtain ⟨⟨i, kv, rest, hi1, him, e12, hh, hkv, hko, hk2⟩, e2, e6, e9, e10, e11, hb⟩ := I
  obtain ⟨e, h, base, rb⟩ := s
  simp only at e12 hh e2 e6 e9 e10 e11 hb
  subst hh hb
  by_cases hm : i < n
  · have hlt : (i : Int) < n := by omega
    have hch : (V.agg [.c (.int .i64 3), .c (.int .i64 0), .c (.string ⟨#[]⟩), .sl (D.vs (chain (i - 1)).kids) .any]) = (chain (i - 1)).v := by
      cases i - 1 <;> simp [chain, D.v, D.kids]
    have hw : IntKind.i64.wrap ((i : Int) + 1) = (i : Int) + 1 := wrap_in (by omega)
    simp -implicitDefEqProofs [x25l8_w, x25r5_w, x25r6_w, x25r7_w, rO', tO, e6, e9, e10, e11, e12, hlt, hkv, hko, hch, hw, D.okc, D.cells_len]
    have hck : D.vs (chain (i + 1 - 1)).kids = [(chain (i - 1)).v] := by
      obtain ⟨i, rfl⟩ : ∃ i', i = i' + 1 := ⟨i - 1, by omega⟩
      simp [chain, D.kids, D.vs]
    refine ⟨m - 1, by omega, ⟨⟨i + 1, .sl [(chain (i - 1)).v] .full, rest ++ [O.tok 1 4], by omega, by omega, by simp [upd_at], by simp [rO', tO], by rw [hck]; rfl, rfl, fun _ => ?_⟩, by simp [upd_at, e2], by simp [upd_at, e6], by simp [upd_at, e9], by simp [upd_at, e10], by simp [upd_at, e11], rfl⟩⟩
    rw [show i + 1 - 2 = i - 1 by omega]
  · have hlt : ¬ (i : Int) < n := by omega
    have hin : i = n := by omega
    subst hin
    simp -implicitDefEqProofs [x25l8_w, x25r5_w, e9, e12, hlt]
    exact hQ _ kv rest rfl hk2 ⟨by simp [upd_at, e2], by simp [upd_at, e6], by simp [upd_at, e9], by simp [upd_at, e10], by simp [upd_at, e11], rfl⟩

structure B25 (n many c : Nat) (d : D) (m : Nat) (s : SF) : Prop where
  j : ∃ (i : Nat) (kv : V) (rest : List O), n ≤ i ∧ i + m = many ∧ s.e 13 = .c (.int .i64 i) ∧ s.h = rO' :: tO kv :: rest ∧
    ((i = n ∧ kv = .sl [d.v] .full) ∨ ∃ q, kv = .tsl (q + 2) (i - n + 1) (some 4) ∧ rest[q]? = some (.tokc (i - n + 1) 4 (flats (D.vs (d :: nums n (i - n))))))
  J : J25 n many c s
theorem stepB25 {cf : CallF} {fu : Nat} {n many c : Nat} {d : D} (hn : many < 200000) (hnm : n < many) (hc : ∀ i : Nat, ∀ h, cf 50 [.c (.int .i64 i)] h = some ((numD i).v, h)) {Q : Ex → SF → Prop}
    (hQ : ∀ s q rest, s.h = rO' :: tO (.tsl (q + 2) (many - n + 1) (some 4)) :: rest → rest[q]? = some (.tokc (many - n + 1) 4 (flats (D.vs (d :: nums n (many - n))))) → J25 n many c s → Q (.exit 2) s) (m : Nat) (s : SF) (I : B25 n many c d m s) :
    wpk cf fu x25l13 [] (fun e s' => match e with | .normal => ∃ k1, k1 < m ∧ B25 n many c d k1 s' | e => Q e s') s := by
  obtain ⟨⟨i, kv, rest, hi1, him, e13, hh, hkv⟩, e2, e6, e9, e10, e11, hb⟩ := I
  obtain ⟨e, h, base, rb⟩ := s
  simp only at e13 hh e2 e6 e9 e10 e11 hb
  subst hh hb
  by_cases hm : i < many
  · have hlt : (i : Int) < many := by omega
    have hx := hc i
    have hw : IntKind.i64.wrap ((i : Int) + 1) = (i : Int) + 1 := wrap_in (by omega)
    have hz1 : Ab.hz 4 [d.v] = true := by simp [Ab.hz, D.cells_len]
    have hz2 : Ab.hz 4 [(numD i).v] = true := by simp [Ab.hz, D.cells_len]
    rcases hkv with ⟨rfl, rfl⟩ | ⟨q, rfl, hq⟩
    · simp -implicitDefEqProofs [x25l13_w, x25r10_w, x25r11_w, x25r12_w, rO', tO, e6, e9, e10, e11, e13, hlt, hw, hx, D.vw2, D.okc, D.cells_len, hz1, hz2, get_last2, set_last2]
      refine ⟨m - 1, by omega, ⟨⟨i + 1, .tsl (rest.length + 1 + 2) 2 (some 4), rest ++ [O.tok 1 4, O.tokc 2 4 (flats [d.v, (numD i).v])], by omega, by omega, by simp [upd_at], by simp [rO', tO], .inr ⟨rest.length + 1, ?_, ?_⟩⟩, by simp [upd_at, e2], by simp [upd_at, e6], by simp [upd_at, e9], by simp [upd_at, e10], by simp [upd_at, e11], rfl⟩⟩
      · rw [show i + 1 - i + 1 = 2 by omega]
      · rw [get_last2, show i + 1 - i = 1 by omega]
        simp [nums, D.vs]
    · obtain ⟨hql, hqv⟩ := List.getElem?_eq_some_iff.1 hq
      have hqa : ∀ pre : List O, (rest ++ pre)[q]? = some (.tokc (i - n + 1) 4 (flats (D.vs (d :: nums n (i - n))))) := fun pre => by rw [List.getElem?_append_left hql]; exact hq
      have h1 : (i - n + 1 + 1) * 56 ≤ 140737488355328 := by omega
      have h2 : i - n + 1 + 1 ≤ 140737488355328 := by omega
      simp -implicitDefEqProofs [x25l13_w, x25r10_w, x25r11_w, x25r12_w, rO', tO, e6, e9, e10, e11, e13, hlt, hw, hx, D.vw2, D.okc, D.cells_len, hz1, hz2, hqa, h1, h2]
      refine ⟨m - 1, by omega, ⟨⟨i + 1, .tsl (q + 2) (i - n + 1 + 1) (some 4), _, by omega, by omega, by simp [upd_at], rfl, .inr ⟨q, ?_, ?_⟩⟩, by simp [upd_at, e2], by simp [upd_at, e6], by simp [upd_at, e9], by simp [upd_at, e10], by simp [upd_at, e11], rfl⟩⟩
      · rw [show i + 1 - n = i - n + 1 by omega]
      · rw [List.getElem?_set_self (by simp; omega), show i + 1 - n = i - n + 1 by omega, ← flats_append]
        simp only [nums, D.vs, List.cons_append, D.vs_app]
        rw [show n + (i - n) = i by omega]
  · have hlt : ¬ (i : Int) < many := by omega
    have hin : i = many := by omega
    subst hin
    rcases hkv with ⟨h0, _⟩ | ⟨q, rfl, hq⟩
    · omega
    simp -implicitDefEqProofs [x25l13_w, x25r10_w, e10, e13, hlt]
    exact hQ _ q rest rfl hq ⟨by simp [upd_at, e2], by simp [upd_at, e6], by simp [upd_at, e9], by simp [upd_at, e10], by simp [upd_at, e11], rfl⟩

def wrongD (c : Nat) : D := .mk c 0 ⟨#[]⟩ []
/-- The large datum. -/
def bigKids (n many c : Nat) : List D := if c % 2 = 1 then (chain (n - 2) :: nums n (many - n)).set (many - n) (wrongD c) else chain (n - 2) :: nums n (many - n)
def bigD (n many c : Nat) : D := .mk 3 0 ⟨#[]⟩ (bigKids n many c)
theorem mapO_all {f : V → Option V} : ∀ (us : List V) (l : List D), us.length = l.length → (∀ i (h1 : i < us.length) (h2 : i < l.length), f us[i] = some l[i].v) → mapO f us = some (D.vs l)
  | [], [], _, _ => rfl
  | u :: us, d :: l, hl, h => by
    have h0 := h 0 (by simp) (by simp)
    simp only [List.getElem_cons_zero] at h0
    have ih := mapO_all us l (by simpa using hl) fun i h1 h2 => h (i + 1) (by simpa using h1) (by simpa using h2)
    simp only [mapO, h0, ih, D.vs]
/-- A function whose result is read from its objects. -/
theorem gives_sn {n f k : Nat} {xf : XF} {args : List V} {r : V} (hE : E f = none) (hX : X f = some xf) (hk : args.length = k) (hx : xfOk xf k = true) (hp : xf.pure = true ∧ xf.esc = false) (hl : V.lows 0 (args.map V.vw2) = true)
    (hw : wpk (call X E n) n xf.body [] (Fin (fun vs s => (resOf vs).vw.low 0 = false ∧ snap 0 s n (resOf vs).vw = some r ∧ r.low 0 = true) xf) ⟨arg0 (args.map V.vw2), [], 0, 0⟩) : Gives (n + 1) f args r := by
  intro h
  simp only [call, hE, hX]
  subst hk
  have := exec_of (cf := call X E n) (n := n) (xf := xf) (args := args.map V.vw2) (h := []) (by simpa using hx) hw
  obtain ⟨e, s, vs, h1, h2, h3, h4, h5, h6, h7⟩ := this
  simp only [List.length_nil] at h4
  have h8 : fin false n xf.res (some (.normal, s)) = some (r, []) := by
    simp only [fin, h3, h4, h5, Bool.false_eq_true, if_false, h6, h7]
    simp
  unfold runF
  rw [if_pos hp.1, if_pos hl, if_neg (by simp [hp.2]), h1]
  cases e with
  | exit id => exact absurd rfl (h2 id)
  | normal => rw [h8]; rfl
  | ret =>
    have h9 : fin false n xf.res (some (.ret, s)) = some (r, []) := h8
    rw [h9]
    rfl

theorem snap_big {h : List O} {k m N : Nat} {us : List V} {l : List D} {x y : Value} (hk : h[k]? = some (.tokc m 4 (flats us))) (hm : us.length = m) (hu : ∀ u ∈ us, ∃ a b c e, u = .agg [a, b, c, e]) (hl : mapO (snap 0 h N) us = some (D.vs l)) :
    snap 0 h (N + 1) (.tup [.agg [.c (.int .i64 3), .c (.int .i64 0), .c (.string ⟨#[]⟩), .tsl k m (some 4)], .c x, .c y]) = some (.tup [(D.mk 3 0 ⟨#[]⟩ l).v, .c x, .c y]) := by
  have he := elems4 us hu
  rw [hm] at he
  simp only [snap, snapV, snapL, Nat.not_lt_zero, if_false, hk, zc, he, hl, and_self, if_true, Option.map_some, D.v]
theorem nums_mem {n : Nat} : ∀ {j : Nat} {x : D}, x ∈ nums n j → ∃ i, x = numD i
  | 0, x, h => by simp [nums] at h
  | j + 1, x, h => by
    rcases List.mem_append.1 h with h | h
    · exact nums_mem h
    · exact ⟨n + j, by simpa using h⟩
theorem vs_snap {H : List O} {N : Nat} {l : List D} (hl : ∀ x ∈ l, x.dp ≤ N) (i : Nat) (h1 : i < (D.vs l).length) (h2 : i < l.length) : snap 0 H N (D.vs l)[i] = some l[i].v := by
  rw [D.vs_getE]
  exact Rd.snap _ _ _ (hl _ (List.getElem_mem _)) (Rd.plain H _)
theorem kids_dp {n K : Nat} (hn : 2 ≤ n) : ∀ x ∈ chain (n - 2) :: nums n K, x.dp ≤ n := by
  intro x hx
  rcases List.mem_cons.1 hx with rfl | hx
  · rw [chain_dp]; omega
  · obtain ⟨i, rfl⟩ := nums_mem hx
    simp [numD, D.dp, D.dps]; omega
theorem run25 {a b c : Nat} (hb : b < 256) (ha : a < 256) (hcc : c < 256) {N : Nat} (hN : 200000 ≤ N) : Gives (N + 1) 25 [.c (.int .u8 a), .c (.int .u8 b), .c (.int .u8 c)]
    (.tup [(bigD (998 + b % 5) (99998 + a % 5) c).v, .c (.int .i64 (99998 + a % 5 : Nat)), .c (.int .i64 (998 + b % 5 : Nat))]) := by
  have c1 : ∀ h, call X E N 48 [.sl [] .nil] h = some ((chain 0).v, h) := by
    obtain ⟨N, rfl⟩ : ∃ N', N = N' + 1 := ⟨N - 1, by omega⟩
    exact run48 (n := N)
  have c2 : ∀ i : Nat, ∀ h, call X E N 50 [.c (.int .i64 i)] h = some ((numD i).v, h) := by
    obtain ⟨N, rfl⟩ : ∃ N', N = N' + 1 := ⟨N - 1, by omega⟩
    exact fun i => run50 (n := N) i
  have t1 : Int.tmod (b : Int) 5 = ((b % 5 : Nat) : Int) := by rw [Int.natCast_emod]; exact Int.tmod_eq_emod_of_nonneg (by omega)
  have t2 : Int.tmod (a : Int) 5 = ((a % 5 : Nat) : Int) := by rw [Int.natCast_emod]; exact Int.tmod_eq_emod_of_nonneg (by omega)
  have t3 : Int.tmod (c : Int) 2 = ((c % 2 : Nat) : Int) := by rw [Int.natCast_emod]; exact Int.tmod_eq_emod_of_nonneg (by omega)
  have w1 : IntKind.i64.wrap ((b % 5 : Nat) : Int) = ((b % 5 : Nat) : Int) := wrap_in (by omega)
  have w2 : IntKind.i64.wrap ((a % 5 : Nat) : Int) = ((a % 5 : Nat) : Int) := wrap_in (by omega)
  have w3 : IntKind.i64.wrap (998 + ((b % 5 : Nat) : Int)) = ((998 + b % 5 : Nat) : Int) := by rw [wrap_in (by omega)]; omega
  have w4 : IntKind.i64.wrap (99998 + ((a % 5 : Nat) : Int)) = ((99998 + a % 5 : Nat) : Int) := by rw [wrap_in (by omega)]; omega
  have hn : 998 ≤ 998 + b % 5 ∧ 998 + b % 5 ≤ 1002 := by omega
  have hmn : 99998 ≤ 99998 + a % 5 ∧ 99998 + a % 5 ≤ 100002 := by omega
  refine gives_sn rfl rfl rfl (by kernel_rfl) ⟨rfl, rfl⟩ (by simp [V.lows, V.low, V.vw2, V.vw1]) ?_
  generalize 998 + b % 5 = n at *
  generalize 99998 + a % 5 = many at *
  generalize (b % 5 : Nat) = b5 at *
  generalize (a % 5 : Nat) = a5 at *
  generalize call X E N = cf at *
  simp -implicitDefEqProofs [x25_w, x25r1_w, x25r2_w, x25r3_w, x25r4_w, t1, t2, w1, w2, w3, w4, c1, D.okc, D.cells_len, D.spl]
  refine lpk_of (A25 n many c) (n - 1) (by omega) ⟨⟨1, .sl [] .any, [], by omega, by omega, by simp [upd_at], ?_, by simp [chain, D.kids, D.vs, V.vw1], rfl, fun h => by omega⟩, by simp [upd_at, arg0], by simp [upd_at], by simp [upd_at], by simp [upd_at], by simp [upd_at], rfl⟩ ?_
  · simp [rO', tO, chain, D.v, D.vs]
  refine stepA25 (by omega) fun s kv rest hh hk J => ?_
  obtain ⟨e, h, base, rb⟩ := s
  obtain ⟨e2, e6, e9, e10, e11, hb0⟩ := J
  simp only at hh e2 e6 e9 e10 e11 hb0
  subst hh hb0
  have hkk := hk (by omega)
  subst hkk
  simp -implicitDefEqProofs [x25r9_w, e9]
  refine lpk_of (B25 n many c (chain (n - 2))) (many - n) (by omega) ⟨⟨n, _, rest, by omega, by omega, by simp [upd_at], rfl, .inl ⟨rfl, rfl⟩⟩, by simp [upd_at, e2], by simp [upd_at, e6], by simp [upd_at, e9], by simp [upd_at, e10], by simp [upd_at, e11], rfl⟩ ?_
  refine stepB25 (by omega) (by omega) c2 fun s q rest hh hq J => ?_
  obtain ⟨e, h, base, rb⟩ := s
  obtain ⟨e2, e6, e9, e10, e11, hb0⟩ := J
  simp only at hh e2 e6 e9 e10 e11 hb0
  subst hh hb0
  unfold bigD bigKids
  obtain ⟨K, hK⟩ : ∃ K, many - n = K := ⟨_, rfl⟩
  have hKb : 1 ≤ K ∧ K ≤ 100000 := by omega
  rw [hK] at hq ⊢
  have hwc : IntKind.i64.wrap (c : Int) = c := wrap_in (by omega)
  by_cases hodd : c % 2 = 1
  · have hodd' : ((c : Int) % 2 == 1) = true := by simpa using (by omega : (c : Int) % 2 = 1)
    have hw5 : IntKind.i64.wrap (K : Int) = K := wrap_in (by omega)
    simp -implicitDefEqProofs [x25_r, x25r14_w, x25r15_w, x25r16_w, e2, e6, e9, e10, e11, t3, hodd', rO', tO, hq, hwc, hw5]
    have hlen : (D.vs (chain (n - 2) :: nums n K)).length = K + 1 := by rw [D.vs_len, List.length_cons, nums_len]
    have hagg := Rds.aggs _ _ (Rds.plain [] (chain (n - 2) :: nums n K))
    have h4 : ∀ u ∈ D.vs (chain (n - 2) :: nums n K), u.cells.length = 4 := fun u hu => by obtain ⟨a, b, c, e, rfl⟩ := hagg u hu; rfl
    have hfl := flats_length h4
    have hsp := splice_flat h4 (by omega : K < (D.vs (chain (n - 2) :: nums n K)).length) (v := .agg [.c (.int .i64 c), .c (.int .i64 0), .c (.string ⟨#[]⟩), .sl [] .nil]) rfl
    unfold splice at hsp
    simp only [V.cells, List.length_cons, List.length_nil] at hsp
    have hql := (List.getElem?_eq_some_iff.1 hq).1
    obtain ⟨N', rfl⟩ : ∃ N', N = N' + 1 := ⟨N - 1, by omega⟩
    refine ⟨by omega, by omega, by simp [V.low, V.lows], ?_, by simp only [V.low, V.lows, D.low]; rfl⟩
    rw [if_pos hodd]
    simp only [List.cons_append, List.nil_append] at hsp
    rw [hsp]
    refine snap_big (us := (D.vs (chain (n - 2) :: nums n K)).set K (.agg [.c (.int .i64 c), .c (.int .i64 0), .c (.string ⟨#[]⟩), .sl [] .nil])) ?_ (by rw [List.length_set]; exact hlen) (fun u hu => ?_) (mapO_all _ _ (by rw [List.length_set, List.length_set, hlen, List.length_cons, nums_len]) fun i h1 h2 => ?_)
    · show (rest.set q _)[q]? = _
      rw [List.getElem?_set_self hql]
    · rcases List.mem_or_eq_of_mem_set hu with h | rfl
      · exact hagg u h
      · exact ⟨_, _, _, _, rfl⟩
    · rw [List.getElem_set, List.getElem_set]
      by_cases hi : K = i
      · rw [if_pos hi, if_pos hi]
        obtain ⟨N2, rfl⟩ : ∃ N2, N' = N2 + 1 := ⟨N' - 1, by omega⟩
        simp [snap, snapV, snapL, wrongD, D.v, D.vs]
      · rw [if_neg hi, if_neg hi]
        exact vs_snap (fun x hx => by have := kids_dp (by omega) x hx; omega) i _ _
  · have hodd' : ((c : Int) % 2 == 1) = false := by simpa using (by omega : ¬ (c : Int) % 2 = 1)
    simp -implicitDefEqProofs [x25_r, x25r14_w, x25r15_w, x25r16_w, e2, e6, e9, e10, e11, t3, hodd', rO', tO]
    have hlen : (D.vs (chain (n - 2) :: nums n K)).length = K + 1 := by rw [D.vs_len, List.length_cons, nums_len]
    have hagg := Rds.aggs _ _ (Rds.plain [] (chain (n - 2) :: nums n K))
    obtain ⟨N', rfl⟩ : ∃ N', N = N' + 1 := ⟨N - 1, by omega⟩
    refine ⟨by simp [V.low, V.lows], ?_, by simp only [V.low, V.lows, D.low]; rfl⟩
    rw [if_neg hodd]
    exact snap_big hq hlen hagg (mapO_all _ _ (by rw [hlen, List.length_cons, nums_len]) fun i h1 h2 => vs_snap (fun x hx => by have := kids_dp (by omega) x hx; omega) i h1 h2)
end Go.Proofs.Ytbkgpdkimcnpgaa.Ab
