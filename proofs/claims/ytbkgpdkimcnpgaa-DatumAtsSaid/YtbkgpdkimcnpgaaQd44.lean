/- The reference's Copy, At, Put. -/
import Derived.Test.YtbkgpdkimcnpgaaQd37
namespace Go.Proofs.Ytbkgpdkimcnpgaa.Ab
open Go
set_option linter.unusedVariables false
set_option linter.unusedSimpArgs false
set_option maxRecDepth 4000
set_option maxHeartbeats 1000000

def rO : O := .cells [.c (.int .i64 0), .c (.int .i64 0), .c (.string ⟨#[]⟩), .sl [] .nil]
/-- The token of what grows. -/
def TokAt (b : Nat) (out : List D) (si : SI) (rest : List O) : Prop := (out = [] ∧ si = .nil) ∨ ∃ q, si = .tok (q + b) ∧ rest[q]? = some (.tok out.length 4)
structure I61 (l : List D) (k n : Int) (t : ByteArray) (m : Nat) (s : SF) : Prop where
  j : ∃ (j : Nat) (rest : List O) (si : SI), j + m = l.length ∧ s.e 4 = .c (.int .i64 j) ∧ s.h = dcell k n t (D.vs l) .any :: rO :: dcell k n t (D.vs (l.take j)) si :: rest ∧ TokAt 3 (l.take j) si rest
  e1 : s.e 1 = .ref 0 0
  e2 : s.e 2 = .ref 1 0
  e3 : s.e 3 = .ref 2 0
  b : s.base = 0
theorem step61 {cf : CallF} {fu : Nat} {l : List D} {k n : Int} {t : ByteArray} (hl : l.length < 1099511627776) (hc : ∀ x ∈ l, ∀ h, cf 61 [x.v] h = some (x.v, h)) {Q : Ex → SF → Prop}
    (hQ : ∀ s si rest, s.h = dcell k n t (D.vs l) .any :: rO :: dcell k n t (D.vs l) si :: rest → s.e 2 = .ref 1 0 → s.e 3 = .ref 2 0 → s.base = 0 → Q (.exit 0) s) (m : Nat) (s : SF) (I : I61 l k n t m s) :
    wpk cf fu x61l7 [] (fun e s' => match e with | .normal => ∃ k1, k1 < m ∧ I61 l k n t k1 s' | e => Q e s') s := by
  obtain ⟨⟨j, rest, si, hj, e4, hh, hsi⟩, e1, e2, e3, hb⟩ := I
  obtain ⟨e, h, base, rb⟩ := s
  simp only at e4 hh e1 e2 e3 hb
  subst hh hb
  by_cases hm : j < l.length
  · have hlt : (j : Int) < l.length := by omega
    have hx := hc _ (List.getElem_mem hm)
    have ht : l.take (j + 1) = l.take j ++ [l[j]] := by rw [List.take_add_one, List.getElem?_eq_getElem hm]; rfl
    have hlen : (l.take j).length = j := by simp; omega
    have hlen1 : ((D.vs (l.take j)).length + 1) * 56 ≤ 140737488355328 := by rw [D.vs_len, hlen]; omega
    have hlen2 : (D.vs (l.take j)).length + 1 ≤ 140737488355328 := by rw [D.vs_len, hlen]; omega
    have hvl : (D.vs (l.take j)).length = j := by rw [D.vs_len, hlen]
    have hhz := D.hz (l.take j)
    have hj1 : (j + 1) * 56 ≤ 140737488355328 := by omega
    have hj2 : j + 1 ≤ 140737488355328 := by omega
    rcases hsi with ⟨hout, rfl⟩ | ⟨q, rfl, hq⟩
    · simp -implicitDefEqProofs [x61l7_w, x61r4_w, x61r5_w, x61r6_w, dcell, rO, e1, e2, e3, e4, D.vs_len, hlt, hm, D.vs_getE, D.cells_len, D.rd, D.vw2, D.okc, hx, hj1, hj2, hlen, hvl, hhz, get_last2, set_last2]
      refine ⟨m - 1, by omega, ⟨⟨j + 1, rest ++ [O.tok 1 4, O.tok (j + 1) 4], .tok (rest.length + 1 + 3), by omega, ?_, ?_, .inr ⟨rest.length + 1, rfl, ?_⟩⟩, ?_, ?_, ?_, rfl⟩⟩
      · simp only [upd_at]
        simp
        rw [wrap_in (by omega)]
      · rw [ht, D.vs_app]
        simp [dcell, rO, D.vs]
      · rw [get_last2, ht]; simp; omega
      · simp [upd_at, e1]
      · simp [upd_at, e2]
      · simp [upd_at, e3]
    · rw [hlen] at hq
      obtain ⟨hql, hqv⟩ := List.getElem?_eq_some_iff.1 hq
      have hqa : ∀ pre : List O, (rest ++ pre)[q]? = some (.tok j 4) := fun pre => by rw [List.getElem?_append_left hql]; exact hq
      simp -implicitDefEqProofs [x61l7_w, x61r4_w, x61r5_w, x61r6_w, dcell, rO, e1, e2, e3, e4, D.vs_len, hlt, hm, D.vs_getE, D.cells_len, D.rd, D.vw2, D.okc, hx, hj1, hj2, hlen, hvl, hhz, hqa]
      refine ⟨m - 1, by omega, ⟨⟨j + 1, (rest ++ [O.tok 1 4, O.dead]).set q (.tok (j + 1) 4), .tok (q + 3), by omega, ?_, ?_, .inr ⟨q, rfl, ?_⟩⟩, ?_, ?_, ?_, rfl⟩⟩
      · simp only [upd_at]
        simp
        rw [wrap_in (by omega)]
      · rw [ht, D.vs_app]
        simp [dcell, rO, D.vs]
      · rw [List.getElem?_set_self (by simp; omega), ht]; simp; omega
      · simp [upd_at, e1]
      · simp [upd_at, e2]
      · simp [upd_at, e3]
  · have hlt : ¬ (j : Int) < l.length := by omega
    rw [List.take_of_length_le (by omega)] at hsi
    simp -implicitDefEqProofs [x61l7_w, x61r4_w, dcell, rO, e1, e2, e3, e4, D.vs_len, hlt]
    refine hQ _ si rest ?_ (by simp [upd_at, e2]) (by simp [upd_at, e3]) rfl
    rw [List.take_of_length_le (by omega)]
    simp [dcell, rO]

theorem run61 : ∀ d : D, d.sz < 1099511627776 → ∀ n, 2 * d.sz + 2 ≤ n → Gives n 61 [d.v] d.v := by
  refine D.ind fun k n t l ih hs m hm => ?_
  simp only [D.sz] at hs hm
  have hlen := D.len_szs l
  obtain ⟨m, rfl⟩ : ∃ m', m = m' + 1 := ⟨m - 1, by omega⟩
  have c2 : ∀ y ∈ l, ∀ h, call X E m 61 [y.v] h = some (y.v, h) := fun y hy h => ih y hy (by have := D.mem_sz hy; omega) m (by have := D.mem_sz hy; omega) h
  have hlow := D.low 0 (.mk k n t l)
  simp only [D.v] at hlow
  refine gives_of rfl rfl rfl (by kernel_rfl) ⟨rfl, rfl⟩ (by simp [D.vw2, V.lows, D.low]) ?_
  generalize call X E m = cf at *
  simp -implicitDefEqProofs [x61_w, x61r1_w, x61r2_w, x61r3_w, D.vw2, D.v]
  refine lpk_of (I61 l k n t) l.length (by omega) ⟨⟨0, [], .nil, by simp, by simp [upd_at], by simp [dcell, rO, D.vs], .inl ⟨rfl, rfl⟩⟩, by simp [upd_at], by simp [upd_at], by simp [upd_at], rfl⟩ ?_
  refine step61 (by omega) c2 fun s si rest hh e2 e3 hb => ?_
  obtain ⟨e, h, base, rb⟩ := s
  simp only at hh e2 e3 hb
  subst hh hb
  simp -implicitDefEqProofs [x61_r, x61r8_w, dcell, rO, e2, e3, D.v]
  exact hlow

/-- What the reference's At gives. -/
def atRes (p : List Int) (d : D) : V := match D.at p d with
  | some u => .tup [u.v, .c (.bool true)]
  | none => .tup [D.zero.v, .c (.bool false)]
structure I35 (d : D) (p : List Int) (m : Nat) (s : SF) : Prop where
  j : ∃ (j : Nat) (d' : D), j + m = p.length ∧ s.e 6 = .c (.int .i64 j) ∧ s.h = [.cells d'.v.cells, rO] ∧ D.at p d = D.at (p.drop j) d'
  e1 : s.e 1 = pv p
  e2 : s.e 2 = .ref 0 0
  e4 : s.e 4 = .ref 1 0
  b : s.base = 0
theorem step35 {cf : CallF} {fu : Nat} {d : D} {p : List Int} (hl : p.length < 1099511627776) {Q : Ex → SF → Prop}
    (hQ : ∀ s u, D.at p d = some u → s.h = [.cells u.v.cells, rO] → s.e 2 = .ref 0 0 → s.e 4 = .ref 1 0 → s.base = 0 → Q (.exit 0) s)
    (hR : ∀ s, D.at p d = none → ∀ a, s.h = [a, rO] → s.e 4 = .ref 1 0 → s.e 5 = .c (.bool false) → s.base = 0 → Q .ret s) (m : Nat) (s : SF) (I : I35 d p m s) :
    wpk cf fu x35l8 [] (fun e s' => match e with | .normal => ∃ k1, k1 < m ∧ I35 d p k1 s' | e => Q e s') s := by
  obtain ⟨⟨j, d', hj, e6, hh, hat⟩, e1, e2, e4, hb⟩ := I
  obtain ⟨e, h, base, rb⟩ := s
  simp only at e6 hh e1 e2 e4 hb
  subst hh hb
  by_cases hm : j < p.length
  · have hlt : (j : Int) < p.length := by omega
    have hd : p.drop j = p[j] :: p.drop (j + 1) := List.drop_eq_getElem_cons hm
    obtain ⟨k, n, t, l⟩ := d'
    rw [hd] at hat
    generalize hi : p[j] = i at *
    by_cases h0 : i < 0
    · rw [D.at_no (by omega)] at hat
      simp -implicitDefEqProofs [x35l8_w, x35r3_w, x35r4_w, x35r5_w, rO, D.v, pv, e1, e2, e4, e6, hlt, hm, hi, I64, h0]
      exact hR _ hat _ rfl (by simp [upd_at, e4]) (by simp [upd_at]) rfl
    · by_cases hil : i < l.length
      · have hil' : ¬ i ≥ (l.length : Int) := by omega
        have hil2 : ¬ (l.length : Int) ≤ i := by omega
        have h0' : 0 ≤ i := by omega
        have hj' : i.toNat < l.length := by omega
        have hrd := D.rd l[i.toNat]
        rw [D.at_mk h0' hj'] at hat
        simp -implicitDefEqProofs [x35l8_w, x35r3_w, x35r4_w, x35r6_w, x35r7_w, rO, D.v, pv, e1, e2, e4, e6, hlt, hm, hi, I64, h0, h0', hil, hil', hil2, hj', D.vs_len, D.vs_getE, D.cells_len, hrd, D.okc]
        refine ⟨m - 1, by omega, ⟨⟨j + 1, l[i.toNat], by omega, ?_, by simp [rO], hat⟩, ?_, ?_, ?_, rfl⟩⟩
        · simp only [upd_at]
          simp
          rw [wrap_in (by omega)]
        · simp [upd_at, e1, pv]
        · simp [upd_at, e2]
        · simp [upd_at, e4]
      · have hil' : i ≥ (l.length : Int) := by omega
        rw [D.at_no (by omega)] at hat
        simp -implicitDefEqProofs [x35l8_w, x35r3_w, x35r4_w, x35r5_w, rO, D.v, pv, e1, e2, e4, e6, hlt, hm, hi, I64, h0, hil', D.vs_len]
        exact hR _ hat _ rfl (by simp [upd_at, e4]) (by simp [upd_at]) rfl
  · have hlt : ¬ (j : Int) < p.length := by omega
    rw [List.drop_of_length_le (by omega)] at hat
    simp -implicitDefEqProofs [x35l8_w, x35r3_w, pv, e1, e6, hlt]
    exact hQ _ d' hat rfl (by simp [upd_at, e2]) (by simp [upd_at, e4]) rfl
theorem run35 {d : D} {p : List Int} {n : Nat} (hp : p.length < n) (hp' : p.length < 1099511627776) : Gives (n + 1) 35 [d.v, pv p] (atRes p d) := by
  refine gives_of rfl rfl rfl (by kernel_rfl) ⟨rfl, rfl⟩ (by simp [D.vw2, V.lows, D.low, pv_vw2, pv_low]) ?_
  generalize call X E n = cf at *
  simp -implicitDefEqProofs [x35_w, x35r1_w, x35r2_w, D.vw2, D.okc, pv_vw2]
  refine lpk_of (I35 d p) p.length hp ⟨⟨0, d, by simp, by simp [upd_at], by simp [rO], by simp⟩, by simp [upd_at, arg0], by simp [upd_at], by simp [upd_at], rfl⟩ ?_
  refine step35 hp' (fun s u hu hh e2 e4 hb => ?_) fun s hu a hh e4 e5 hb => ?_
  · obtain ⟨e, h, base, rb⟩ := s
    simp only at hh e2 e4 hb
    subst hh hb
    simp -implicitDefEqProofs [x35_r, x35r9_w, rO, e2, e4, D.rd, D.okc, D.cells_len, D.spl, atRes, hu, D.vw2, V.low, V.lows, D.low]
  · obtain ⟨e, h, base, rb⟩ := s
    simp only at hh e4 e5 hb
    subst hh hb
    simp -implicitDefEqProofs [x35_r, rO, e4, e5, atRes, hu, D.zero, D.v, D.vs, V.low, V.lows, SI.low]

structure I36 (l l' : List D) (k n : Int) (t : ByteArray) (i : Int) (p : List Int) (x : D) (m : Nat) (s : SF) : Prop where
  j : ∃ (j : Nat) (rest : List O) (si : SI), j + m = l.length ∧ s.e 8 = .c (.int .i64 j) ∧ s.h = dcell k n t (D.vs l) .any :: .cells x.v.cells :: rO :: dcell k n t (D.vs (l'.take j)) si :: rest ∧ TokAt 4 (l'.take j) si rest
  e1 : s.e 1 = pv (i :: p)
  e3 : s.e 3 = .ref 0 0
  e5 : s.e 5 = .ref 1 0
  e6 : s.e 6 = .ref 2 0
  e7 : s.e 7 = .ref 3 0
  b : s.base = 0
theorem step36 {cf : CallF} {fu : Nat} {l : List D} {k n : Int} {t : ByteArray} {i : Int} {p : List Int} {x z : D} (hl : l.length < 1099511627776) (h0 : 0 ≤ i) (hi : i.toNat < l.length)
    (hc : ∀ y ∈ l, ∀ h, cf 61 [y.v] h = some (y.v, h)) (hp : ∀ h, cf 36 [l[i.toNat].v, pv p, x.v] h = some (z.v, h)) {Q : Ex → SF → Prop}
    (hQ : ∀ s si rest, s.h = dcell k n t (D.vs l) .any :: .cells x.v.cells :: rO :: dcell k n t (D.vs (l.set i.toNat z)) si :: rest → s.e 6 = .ref 2 0 → s.e 7 = .ref 3 0 → s.base = 0 → Q (.exit 0) s) (m : Nat) (s : SF) (I : I36 l (l.set i.toNat z) k n t i p x m s) :
    wpk cf fu x36l11 [] (fun e s' => match e with | .normal => ∃ k1, k1 < m ∧ I36 l (l.set i.toNat z) k n t i p x k1 s' | e => Q e s') s := by
  obtain ⟨⟨j, rest, si, hj, e8, hh, hsi⟩, e1, e3, e5, e6, e7, hb⟩ := I
  obtain ⟨e, h, base, rb⟩ := s
  simp only at e8 hh e1 e3 e5 e6 e7 hb
  subst hh hb
  have hl' : (l.set i.toNat z).length = l.length := by simp
  by_cases hm : j < l.length
  · have hlt : (j : Int) < l.length := by omega
    have hm' : j < (l.set i.toNat z).length := by omega
    have hx := hc _ (List.getElem_mem hm)
    have hget : (l.set i.toNat z)[j] = if i.toNat = j then z else l[j] := List.getElem_set ..
    generalize hL : l.set i.toNat z = L at *
    have ht : L.take (j + 1) = L.take j ++ [L[j]] := by rw [List.take_add_one, List.getElem?_eq_getElem hm']; rfl
    have hlen : (L.take j).length = j := by simp; omega
    have hvl : (D.vs (L.take j)).length = j := by rw [D.vs_len, hlen]
    have hhz := D.hz (L.take j)
    have hj1 : (j + 1) * 56 ≤ 140737488355328 := by omega
    have hj2 : j + 1 ≤ 140737488355328 := by omega
    have hhp := hz_I64 p
    have hz1 : Ab.hz 1 (List.map I64 (i :: p)) = true := hz_I64 _
    have hci : (I64 i).cells.length = 1 := rfl
    have hple : (1 : Int) ≤ (p.length : Int) + 1 := by omega
    have htk : List.take p.length (List.map I64 p) = List.map I64 p := List.take_of_length_le (by simp)
    have hnn : (0 : Int) ≤ (p.length : Int) + 1 := by omega
    unfold pv at hp
    by_cases hij : (j : Int) = i
    · have hij' : ((j : Int) == i) = true := by simpa using hij
      have hLj : L[j] = z := by rw [hget, if_pos (by omega)]
      have hlj : l[j] = l[i.toNat] := by congr 1; omega
      rw [hLj] at ht
      rw [← hlj] at hp
      rcases hsi with ⟨hout, rfl⟩ | ⟨q, rfl, hq⟩
      · simp -implicitDefEqProofs [x36l11_w, x36r6_w, x36r7_w, x36r8_w, x36r10_w, dcell, rO, pv, I64, e1, e3, e5, e6, e7, e8, D.vs_len, hlt, hm, D.vs_getE, D.cells_len, D.rd, D.vw2, D.okc, hp, hij', hple, hnn, htk, hj1, hj2, hlen, hvl, hhz, get_last2, set_last2]
        refine ⟨m - 1, by omega, ⟨⟨j + 1, rest ++ [O.tok 1 4, O.tok (j + 1) 4], .tok (rest.length + 1 + 4), by omega, ?_, ?_, .inr ⟨rest.length + 1, rfl, ?_⟩⟩, ?_, ?_, ?_, ?_, ?_, rfl⟩⟩
        · simp only [upd_at]
          simp
          rw [wrap_in (by omega)]
        · rw [ht, D.vs_app]
          simp [dcell, rO, D.vs]
        · rw [get_last2, ht]; simp; omega
        · simp [upd_at, e1, pv, I64]
        · simp [upd_at, e3]
        · simp [upd_at, e5]
        · simp [upd_at, e6]
        · simp [upd_at, e7]
      · rw [hlen] at hq
        obtain ⟨hql, hqv⟩ := List.getElem?_eq_some_iff.1 hq
        have hqa : ∀ pre : List O, (rest ++ pre)[q]? = some (.tok j 4) := fun pre => by rw [List.getElem?_append_left hql]; exact hq
        simp -implicitDefEqProofs [x36l11_w, x36r6_w, x36r7_w, x36r8_w, x36r10_w, dcell, rO, pv, I64, e1, e3, e5, e6, e7, e8, D.vs_len, hlt, hm, D.vs_getE, D.cells_len, D.rd, D.vw2, D.okc, hp, hij', hple, hnn, htk, hj1, hj2, hlen, hvl, hhz, hqa]
        refine ⟨m - 1, by omega, ⟨⟨j + 1, (rest ++ [O.tok 1 4, O.dead]).set q (.tok (j + 1) 4), .tok (q + 4), by omega, ?_, ?_, .inr ⟨q, rfl, ?_⟩⟩, ?_, ?_, ?_, ?_, ?_, rfl⟩⟩
        · simp only [upd_at]
          simp
          rw [wrap_in (by omega)]
        · rw [ht, D.vs_app]
          simp [dcell, rO, D.vs]
        · rw [List.getElem?_set_self (by simp; omega), ht]; simp; omega
        · simp [upd_at, e1, pv, I64]
        · simp [upd_at, e3]
        · simp [upd_at, e5]
        · simp [upd_at, e6]
        · simp [upd_at, e7]
    · have hij' : ((j : Int) == i) = false := by simpa using hij
      have hLj : L[j] = l[j] := by rw [hget, if_neg (by omega)]
      rw [hLj] at ht
      rcases hsi with ⟨hout, rfl⟩ | ⟨q, rfl, hq⟩
      · simp -implicitDefEqProofs [x36l11_w, x36r6_w, x36r7_w, x36r9_w, x36r10_w, dcell, rO, pv, I64, e1, e3, e5, e6, e7, e8, D.vs_len, hlt, hm, D.vs_getE, D.cells_len, D.rd, D.vw2, D.okc, hx, hij', hj1, hj2, hlen, hvl, hhz, get_last2, set_last2]
        refine ⟨m - 1, by omega, ⟨⟨j + 1, rest ++ [O.tok 1 4, O.tok (j + 1) 4], .tok (rest.length + 1 + 4), by omega, ?_, ?_, .inr ⟨rest.length + 1, rfl, ?_⟩⟩, ?_, ?_, ?_, ?_, ?_, rfl⟩⟩
        · simp only [upd_at]
          simp
          rw [wrap_in (by omega)]
        · rw [ht, D.vs_app]
          simp [dcell, rO, D.vs]
        · rw [get_last2, ht]; simp; omega
        · simp [upd_at, e1, pv, I64]
        · simp [upd_at, e3]
        · simp [upd_at, e5]
        · simp [upd_at, e6]
        · simp [upd_at, e7]
      · rw [hlen] at hq
        obtain ⟨hql, hqv⟩ := List.getElem?_eq_some_iff.1 hq
        have hqa : ∀ pre : List O, (rest ++ pre)[q]? = some (.tok j 4) := fun pre => by rw [List.getElem?_append_left hql]; exact hq
        simp -implicitDefEqProofs [x36l11_w, x36r6_w, x36r7_w, x36r9_w, x36r10_w, dcell, rO, pv, I64, e1, e3, e5, e6, e7, e8, D.vs_len, hlt, hm, D.vs_getE, D.cells_len, D.rd, D.vw2, D.okc, hx, hij', hj1, hj2, hlen, hvl, hhz, hqa]
        refine ⟨m - 1, by omega, ⟨⟨j + 1, (rest ++ [O.tok 1 4, O.dead]).set q (.tok (j + 1) 4), .tok (q + 4), by omega, ?_, ?_, .inr ⟨q, rfl, ?_⟩⟩, ?_, ?_, ?_, ?_, ?_, rfl⟩⟩
        · simp only [upd_at]
          simp
          rw [wrap_in (by omega)]
        · rw [ht, D.vs_app]
          simp [dcell, rO, D.vs]
        · rw [List.getElem?_set_self (by simp; omega), ht]; simp; omega
        · simp [upd_at, e1, pv, I64]
        · simp [upd_at, e3]
        · simp [upd_at, e5]
        · simp [upd_at, e6]
        · simp [upd_at, e7]
  · have hlt : ¬ (j : Int) < l.length := by omega
    rw [List.take_of_length_le (by omega)] at hsi
    simp -implicitDefEqProofs [x36l11_w, x36r6_w, dcell, rO, e3, e6, e7, e8, D.vs_len, hlt]
    refine hQ _ si rest ?_ (by simp [upd_at, e6]) (by simp [upd_at, e7]) rfl
    rw [List.take_of_length_le (by omega)]
    simp [dcell, rO]

theorem run36 (x : D) (hx : x.sz < 1099511627776) : ∀ (p : List Int) (d u : D), D.at p d = some u → d.sz < 1099511627776 → ∀ n, 2 * (d.sz + x.sz) + 4 ≤ n → Gives n 36 [d.v, pv p, x.v] (D.put p d x).v := by
  intro p
  induction p with
  | nil =>
    intro d u hu hs n hn
    obtain ⟨m, rfl⟩ : ∃ m', n = m' + 1 := ⟨n - 1, by omega⟩
    have c1 : ∀ h, call X E m 61 [x.v] h = some (x.v, h) := run61 x hx m (by omega)
    refine gives_of rfl rfl rfl (by kernel_rfl) ⟨rfl, rfl⟩ (by simp [D.vw2, V.lows, D.low, pv_vw2, pv_low]) ?_
    generalize call X E m = cf at *
    simp -implicitDefEqProofs [x36_w, x36_r, x36r1_w, x36r2_w, x36r3_w, D.vw2, D.okc, D.rd, D.cells_len, D.spl, pv, c1, D.put, D.vw, D.low]
  | cons i p ih =>
    intro d u hu hs n hn
    obtain ⟨k, k', t, l⟩ := d
    obtain ⟨hj, h0, h1⟩ := D.at_ex hu
    have hsz := D.sz_pos x
    simp only [D.sz] at hs hn
    have hlen := D.len_szs l
    have hm := D.mem_sz (List.getElem_mem hj)
    obtain ⟨m, rfl⟩ : ∃ m', n = m' + 1 := ⟨n - 1, by omega⟩
    have c1 : ∀ y ∈ l, ∀ h, call X E m 61 [y.v] h = some (y.v, h) := fun y hy h => run61 y (by have := D.mem_sz hy; omega) m (by have := D.mem_sz hy; omega) h
    have c2 : ∀ h, call X E m 36 [l[i.toNat].v, pv p, x.v] h = some ((D.put p l[i.toNat] x).v, h) := ih _ u h1 (by omega) m (by omega)
    rw [D.put_mk hj]
    refine gives_of rfl rfl rfl (by kernel_rfl) ⟨rfl, rfl⟩ (by simp [D.vw2, V.lows, D.low, pv_vw2, pv_low]) ?_
    have hlow := D.low 0 (.mk k k' t (l.set i.toNat (D.put p l[i.toNat] x)))
    simp only [D.v] at hlow
    have hpl : (((p.length : Int) + 1) == 0) = false := by simp; omega
    generalize call X E m = cf at *
    simp -implicitDefEqProofs [x36_w, x36r1_w, x36r2_w, x36r4_w, x36r5_w, D.vw2, D.okc, D.v, pv, hpl, D.cells_len]
    refine lpk_of (I36 l (l.set i.toNat (D.put p l[i.toNat] x)) k k' t i p x) l.length (by omega) ⟨⟨0, [], .nil, by simp, by simp [upd_at], ?_, .inl ⟨by simp, rfl⟩⟩, ?_, ?_, ?_, ?_, ?_, rfl⟩ ?_
    · simp [dcell, rO, D.vs]
    · simp [upd_at, arg0, pv]
    · simp [upd_at]
    · simp [upd_at]
    · simp [upd_at]
    · simp [upd_at]
    · refine step36 (by omega) h0 hj c1 c2 fun s si rest hh e6 e7 hb => ?_
      obtain ⟨e, h, base, rb⟩ := s
      simp only at hh e6 e7 hb
      subst hh hb
      simp -implicitDefEqProofs [x36_r, x36r12_w, dcell, rO, e6, e7, D.v]
      exact hlow
end Go.Proofs.Ytbkgpdkimcnpgaa.Ab
