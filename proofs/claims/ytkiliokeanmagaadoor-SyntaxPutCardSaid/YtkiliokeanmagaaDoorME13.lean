/- SyntaxPut returns true for every datum, path and datum, and changes none of its arguments; the package's variable lies as its row lists it. -/
import Derived.Test.YtkiliokeanmagaaDoorME12
import Derived.ProofKit
import Derived.ChangeMaps5
import Derived.Carry
import Derived.Test.YtkiliokeanmagaaDoorRows
import Derived.LaidMore
import Derived.OpenShut
import Derived.Stop.Joined
import Derived.Test.YtkiliokeanmagaaDoorCards
import Derived.Test.YtkiliokeanmagaaDoorTie
import Derived.SevenTiedAt
namespace Go.Proofs.YtkiliokeanmagaaDoor.Ab
open Go
set_option linter.unusedVariables false
set_option linter.unusedSimpArgs false
set_option maxRecDepth 4000
set_option maxHeartbeats 1000000
def rO : O := .cells [.c (.int .i64 0), .c (.int .i64 0), .c (.string ⟨#[]⟩), .sl [] .nil]
def TokD (b : Nat) (out : List D) (si : SI) (rest : List O) : Prop := (out = [] ∧ si = .nil) ∨ ∃ q, si = .tok (q + b) ∧ rest[q]? = some (.tok out.length 4)
structure I61 (l : List D) (k n : Int) (t : ByteArray) (m : Nat) (s : SF) : Prop where
  j : ∃ (j : Nat) (rest : List O) (si : SI), j + m = l.length ∧ s.e 4 = .c (.int .i64 j) ∧ s.h = dcell k n t (D.vs l) .any :: rO :: dcell k n t (D.vs (l.take j)) si :: rest ∧ TokD 3 (l.take j) si rest
  e1 : s.e 1 = .ref 0 0
  e2 : s.e 2 = .ref 1 0
  e3 : s.e 3 = .ref 2 0
  b : s.base = 0
theorem step61 {cf : CallF} {fu : Nat} {l : List D} {k n : Int} {t : ByteArray} (hl : l.length < 1099511627776) (hc : ∀ x ∈ l, ∀ h, cf 47 [x.v] h = some (x.v, h)) {Q : Ex → SF → Prop}
    (hQ : ∀ s si rest, s.h = dcell k n t (D.vs l) .any :: rO :: dcell k n t (D.vs l) si :: rest → s.e 2 = .ref 1 0 → s.e 3 = .ref 2 0 → s.base = 0 → Q (.exit 0) s) (m : Nat) (s : SF) (I : I61 l k n t m s) :
    wpk cf fu x47l7 [] (fun e s' => match e with | .normal => ∃ k1, k1 < m ∧ I61 l k n t k1 s' | e => Q e s') s := by
  obtain ⟨⟨j, rest, si, hj, e4, hh, hsi⟩, e1, e2, e3, hb⟩ := I
  obtain ⟨e, h, base, rb⟩ := s
  simp only at e4 hh e1 e2 e3 hb
  subst hh hb
  by_cases hm : j < l.length
  · have hlt : (j : Int) < l.length := by omega
    have hx := hc _ (List.getElem_mem hm)
    have ht : l.take (j + 1) = l.take j ++ [l[j]] := by rw [List.take_add_one, List.getElem?_eq_getElem hm]; rfl
    have hlen : (l.take j).length = j := by simp; omega
    have hlen1 : ((D.vs (l.take j)).length + 1) * 56 ≤ 140737488355328 := by rw [D.vs_len, hlen]; omega
    have hlen2 : (D.vs (l.take j)).length + 1 ≤ 140737488355328 := by rw [D.vs_len, hlen]; omega
    have hvl : (D.vs (l.take j)).length = j := by rw [D.vs_len, hlen]
    have hhz := D.hz (l.take j)
    have hj1 : (j + 1) * 56 ≤ 140737488355328 := by omega
    have hj2 : j + 1 ≤ 140737488355328 := by omega
    rcases hsi with ⟨hout, rfl⟩ | ⟨q, rfl, hq⟩
    · simp -implicitDefEqProofs [x47l7_w, x47r4_w, x47r5_w, x47r6_w, dcell, rO, e1, e2, e3, e4, D.vs_len, hlt, hm, D.vs_getE, D.cells_len, D.rd, D.vw2, D.okc, hx, hj1, hj2, hlen, hvl, hhz, get_last2, set_last2]
      refine ⟨m - 1, by omega, ⟨⟨j + 1, rest ++ [O.tok 1 4, O.tok (j + 1) 4], .tok (rest.length + 1 + 3), by omega, ?_, ?_, .inr ⟨rest.length + 1, rfl, ?_⟩⟩, ?_, ?_, ?_, rfl⟩⟩
      · simp only [upd_at]
        simp
        rw [wrap_in (by omega)]
      · rw [ht, D.vs_app]
        simp [dcell, rO, D.vs]
      · rw [get_last2, ht]; simp; omega
      · simp [upd_at, e1]
      · simp [upd_at, e2]
      · simp [upd_at, e3]
    · rw [hlen] at hq
      obtain ⟨hql, hqv⟩ := List.getElem?_eq_some_iff.1 hq
      have hqa : ∀ pre : List O, (rest ++ pre)[q]? = some (.tok j 4) := fun pre => by rw [List.getElem?_append_left hql]; exact hq
      simp -implicitDefEqProofs [x47l7_w, x47r4_w, x47r5_w, x47r6_w, dcell, rO, e1, e2, e3, e4, D.vs_len, hlt, hm, D.vs_getE, D.cells_len, D.rd, D.vw2, D.okc, hx, hj1, hj2, hlen, hvl, hhz, hqa]
      refine ⟨m - 1, by omega, ⟨⟨j + 1, (rest ++ [O.tok 1 4, O.dead]).set q (.tok (j + 1) 4), .tok (q + 3), by omega, ?_, ?_, .inr ⟨q, rfl, ?_⟩⟩, ?_, ?_, ?_, rfl⟩⟩
      · simp only [upd_at]
        simp
        rw [wrap_in (by omega)]
      · rw [ht, D.vs_app]
        simp [dcell, rO, D.vs]
      · rw [List.getElem?_set_self (by simp; omega), ht]; simp; omega
      · simp [upd_at, e1]
      · simp [upd_at, e2]
      · simp [upd_at, e3]
  · have hlt : ¬ (j : Int) < l.length := by omega
    rw [List.take_of_length_le (by omega)] at hsi
    simp -implicitDefEqProofs [x47l7_w, x47r4_w, dcell, rO, e1, e2, e3, e4, D.vs_len, hlt]
    refine hQ _ si rest ?_ (by simp [upd_at, e2]) (by simp [upd_at, e3]) rfl
    rw [List.take_of_length_le (by omega)]
    simp [dcell, rO]
theorem run61 : ∀ d : D, d.sz < 1099511627776 → ∀ n, 2 * d.sz + 2 ≤ n → Gives n 47 [d.v] d.v := by
  refine D.ind fun k n t l ih hs m hm => ?_
  simp only [D.sz] at hs hm
  have hlen := D.len_szs l
  obtain ⟨m, rfl⟩ : ∃ m', m = m' + 1 := ⟨m - 1, by omega⟩
  have c2 : ∀ y ∈ l, ∀ h, call X E m 47 [y.v] h = some (y.v, h) := fun y hy h => ih y hy (by have := D.mem_sz hy; omega) m (by have := D.mem_sz hy; omega) h
  have hlow := D.low 0 (.mk k n t l)
  simp only [D.v] at hlow
  refine gives_of rfl rfl rfl (by kernel_rfl) ⟨rfl, rfl⟩ (by simp [D.vw2, V.lows, D.low]) ?_
  generalize call X E m = cf at *
  simp -implicitDefEqProofs [x47_w, x47r1_w, x47r2_w, x47r3_w, D.vw2, D.v]
  refine lpk_of (I61 l k n t) l.length (by omega) ⟨⟨0, [], .nil, by simp, by simp [upd_at], by simp [dcell, rO, D.vs], .inl ⟨rfl, rfl⟩⟩, by simp [upd_at], by simp [upd_at], by simp [upd_at], rfl⟩ ?_
  refine step61 (by omega) c2 fun s si rest hh e2 e3 hb => ?_
  obtain ⟨e, h, base, rb⟩ := s
  simp only at hh e2 e3 hb
  subst hh hb
  simp -implicitDefEqProofs [x47_r, x47r8_w, dcell, rO, e2, e3, D.v]
  exact hlow
structure I36 (l l' : List D) (k n : Int) (t : ByteArray) (i : Int) (p : List Int) (x : D) (m : Nat) (s : SF) : Prop where
  j : ∃ (j : Nat) (rest : List O) (si : SI), j + m = l.length ∧ s.e 8 = .c (.int .i64 j) ∧ s.h = dcell k n t (D.vs l) .any :: .cells x.v.cells :: rO :: dcell k n t (D.vs (l'.take j)) si :: rest ∧ TokD 4 (l'.take j) si rest
  e1 : s.e 1 = pv (i :: p)
  e3 : s.e 3 = .ref 0 0
  e5 : s.e 5 = .ref 1 0
  e6 : s.e 6 = .ref 2 0
  e7 : s.e 7 = .ref 3 0
  b : s.base = 0
theorem step36 {cf : CallF} {fu : Nat} {l : List D} {k n : Int} {t : ByteArray} {i : Int} {p : List Int} {x z : D} (hl : l.length < 1099511627776) (h0 : 0 ≤ i) (hi : i.toNat < l.length)
    (hc : ∀ y ∈ l, ∀ h, cf 47 [y.v] h = some (y.v, h)) (hp : ∀ h, cf 19 [l[i.toNat].v, pv p, x.v] h = some (z.v, h)) {Q : Ex → SF → Prop}
    (hQ : ∀ s si rest, s.h = dcell k n t (D.vs l) .any :: .cells x.v.cells :: rO :: dcell k n t (D.vs (l.set i.toNat z)) si :: rest → s.e 6 = .ref 2 0 → s.e 7 = .ref 3 0 → s.base = 0 → Q (.exit 0) s) (m : Nat) (s : SF) (I : I36 l (l.set i.toNat z) k n t i p x m s) :
    wpk cf fu x19l11 [] (fun e s' => match e with | .normal => ∃ k1, k1 < m ∧ I36 l (l.set i.toNat z) k n t i p x k1 s' | e => Q e s') s := by
  obtain ⟨⟨j, rest, si, hj, e8, hh, hsi⟩, e1, e3, e5, e6, e7, hb⟩ := I
  obtain ⟨e, h, base, rb⟩ := s
  simp only at e8 hh e1 e3 e5 e6 e7 hb
  subst hh hb
  have hl' : (l.set i.toNat z).length = l.length := by simp
  by_cases hm : j < l.length
  · have hlt : (j : Int) < l.length := by omega
    have hm' : j < (l.set i.toNat z).length := by omega
    have hx := hc _ (List.getElem_mem hm)
    have hget : (l.set i.toNat z)[j] = if i.toNat = j then z else l[j] := List.getElem_set ..
    generalize hL : l.set i.toNat z = L at *
    have ht : L.take (j + 1) = L.take j ++ [L[j]] := by rw [List.take_add_one, List.getElem?_eq_getElem hm']; rfl
    have hlen : (L.take j).length = j := by simp; omega
    have hvl : (D.vs (L.take j)).length = j := by rw [D.vs_len, hlen]
    have hhz := D.hz (L.take j)
    have hj1 : (j + 1) * 56 ≤ 140737488355328 := by omega
    have hj2 : j + 1 ≤ 140737488355328 := by omega
    have hhp := hz_I64 p
    have hz1 : Ab.hz 1 (List.map I64 (i :: p)) = true := hz_I64 _
    have hci : (I64 i).cells.length = 1 := rfl
    have hple : (1 : Int) ≤ (p.length : Int) + 1 := by omega
    have htk : List.take p.length (List.map I64 p) = List.map I64 p := List.take_of_length_le (by simp)
    have hnn : (0 : Int) ≤ (p.length : Int) + 1 := by omega
    unfold pv at hp
    by_cases hij : (j : Int) = i
    · have hij' : ((j : Int) == i) = true := by simpa using hij
      have hLj : L[j] = z := by rw [hget, if_pos (by omega)]
      have hlj : l[j] = l[i.toNat] := by congr 1; omega
      rw [hLj] at ht
      rw [← hlj] at hp
      rcases hsi with ⟨hout, rfl⟩ | ⟨q, rfl, hq⟩
      · simp -implicitDefEqProofs [x19l11_w, x19r6_w, x19r7_w, x19r8_w, x19r10_w, dcell, rO, pv, I64, e1, e3, e5, e6, e7, e8, D.vs_len, hlt, hm, D.vs_getE, D.cells_len, D.rd, D.vw2, D.okc, hp, hij', hple, hnn, htk, hj1, hj2, hlen, hvl, hhz, get_last2, set_last2]
        refine ⟨m - 1, by omega, ⟨⟨j + 1, rest ++ [O.tok 1 4, O.tok (j + 1) 4], .tok (rest.length + 1 + 4), by omega, ?_, ?_, .inr ⟨rest.length + 1, rfl, ?_⟩⟩, ?_, ?_, ?_, ?_, ?_, rfl⟩⟩
        · simp only [upd_at]
          simp
          rw [wrap_in (by omega)]
        · rw [ht, D.vs_app]
          simp [dcell, rO, D.vs]
        · rw [get_last2, ht]; simp; omega
        · simp [upd_at, e1, pv, I64]
        · simp [upd_at, e3]
        · simp [upd_at, e5]
        · simp [upd_at, e6]
        · simp [upd_at, e7]
      · rw [hlen] at hq
        obtain ⟨hql, hqv⟩ := List.getElem?_eq_some_iff.1 hq
        have hqa : ∀ pre : List O, (rest ++ pre)[q]? = some (.tok j 4) := fun pre => by rw [List.getElem?_append_left hql]; exact hq
        simp -implicitDefEqProofs [x19l11_w, x19r6_w, x19r7_w, x19r8_w, x19r10_w, dcell, rO, pv, I64, e1, e3, e5, e6, e7, e8, D.vs_len, hlt, hm, D.vs_getE, D.cells_len, D.rd, D.vw2, D.okc, hp, hij', hple, hnn, htk, hj1, hj2, hlen, hvl, hhz, hqa]
        refine ⟨m - 1, by omega, ⟨⟨j + 1, (rest ++ [O.tok 1 4, O.dead]).set q (.tok (j + 1) 4), .tok (q + 4), by omega, ?_, ?_, .inr ⟨q, rfl, ?_⟩⟩, ?_, ?_, ?_, ?_, ?_, rfl⟩⟩
        · simp only [upd_at]
          simp
          rw [wrap_in (by omega)]
        · rw [ht, D.vs_app]
          simp [dcell, rO, D.vs]
        · rw [List.getElem?_set_self (by simp; omega), ht]; simp; omega
        · simp [upd_at, e1, pv, I64]
        · simp [upd_at, e3]
        · simp [upd_at, e5]
        · simp [upd_at, e6]
        · simp [upd_at, e7]
    · have hij' : ((j : Int) == i) = false := by simpa using hij
      have hLj : L[j] = l[j] := by rw [hget, if_neg (by omega)]
      rw [hLj] at ht
      rcases hsi with ⟨hout, rfl⟩ | ⟨q, rfl, hq⟩
      · simp -implicitDefEqProofs [x19l11_w, x19r6_w, x19r7_w, x19r9_w, x19r10_w, dcell, rO, pv, I64, e1, e3, e5, e6, e7, e8, D.vs_len, hlt, hm, D.vs_getE, D.cells_len, D.rd, D.vw2, D.okc, hx, hij', hj1, hj2, hlen, hvl, hhz, get_last2, set_last2]
        refine ⟨m - 1, by omega, ⟨⟨j + 1, rest ++ [O.tok 1 4, O.tok (j + 1) 4], .tok (rest.length + 1 + 4), by omega, ?_, ?_, .inr ⟨rest.length + 1, rfl, ?_⟩⟩, ?_, ?_, ?_, ?_, ?_, rfl⟩⟩
        · simp only [upd_at]
          simp
          rw [wrap_in (by omega)]
        · rw [ht, D.vs_app]
          simp [dcell, rO, D.vs]
        · rw [get_last2, ht]; simp; omega
        · simp [upd_at, e1, pv, I64]
        · simp [upd_at, e3]
        · simp [upd_at, e5]
        · simp [upd_at, e6]
        · simp [upd_at, e7]
      · rw [hlen] at hq
        obtain ⟨hql, hqv⟩ := List.getElem?_eq_some_iff.1 hq
        have hqa : ∀ pre : List O, (rest ++ pre)[q]? = some (.tok j 4) := fun pre => by rw [List.getElem?_append_left hql]; exact hq
        simp -implicitDefEqProofs [x19l11_w, x19r6_w, x19r7_w, x19r9_w, x19r10_w, dcell, rO, pv, I64, e1, e3, e5, e6, e7, e8, D.vs_len, hlt, hm, D.vs_getE, D.cells_len, D.rd, D.vw2, D.okc, hx, hij', hj1, hj2, hlen, hvl, hhz, hqa]
        refine ⟨m - 1, by omega, ⟨⟨j + 1, (rest ++ [O.tok 1 4, O.dead]).set q (.tok (j + 1) 4), .tok (q + 4), by omega, ?_, ?_, .inr ⟨q, rfl, ?_⟩⟩, ?_, ?_, ?_, ?_, ?_, rfl⟩⟩
        · simp only [upd_at]
          simp
          rw [wrap_in (by omega)]
        · rw [ht, D.vs_app]
          simp [dcell, rO, D.vs]
        · rw [List.getElem?_set_self (by simp; omega), ht]; simp; omega
        · simp [upd_at, e1, pv, I64]
        · simp [upd_at, e3]
        · simp [upd_at, e5]
        · simp [upd_at, e6]
        · simp [upd_at, e7]
  · have hlt : ¬ (j : Int) < l.length := by omega
    rw [List.take_of_length_le (by omega)] at hsi
    simp -implicitDefEqProofs [x19l11_w, x19r6_w, dcell, rO, e3, e6, e7, e8, D.vs_len, hlt]
    refine hQ _ si rest ?_ (by simp [upd_at, e6]) (by simp [upd_at, e7]) rfl
    rw [List.take_of_length_le (by omega)]
    simp [dcell, rO]
theorem run36 (x : D) (hx : x.sz < 1099511627776) : ∀ (p : List Int) (d u : D), D.at p d = some u → d.sz < 1099511627776 → ∀ n, 2 * (d.sz + x.sz) + 4 ≤ n → Gives n 19 [d.v, pv p, x.v] (D.put p d x).v := by
  intro p
  induction p with
  | nil =>
    intro d u hu hs n hn
    obtain ⟨m, rfl⟩ : ∃ m', n = m' + 1 := ⟨n - 1, by omega⟩
    have c1 : ∀ h, call X E m 47 [x.v] h = some (x.v, h) := run61 x hx m (by omega)
    refine gives_of rfl rfl rfl (by kernel_rfl) ⟨rfl, rfl⟩ (by simp [D.vw2, V.lows, D.low, pv_vw2, pv_low]) ?_
    generalize call X E m = cf at *
    simp -implicitDefEqProofs [x19_w, x19_r, x19r1_w, x19r2_w, x19r3_w, D.vw2, D.okc, D.rd, D.cells_len, D.spl, pv, c1, D.put, D.vw, D.low]
  | cons i p ih =>
    intro d u hu hs n hn
    obtain ⟨k, k', t, l⟩ := d
    obtain ⟨hj, h0, h1⟩ := D.at_ex hu
    have hsz := D.sz_pos x
    simp only [D.sz] at hs hn
    have hlen := D.len_szs l
    have hm := D.mem_sz (List.getElem_mem hj)
    obtain ⟨m, rfl⟩ : ∃ m', n = m' + 1 := ⟨n - 1, by omega⟩
    have c1 : ∀ y ∈ l, ∀ h, call X E m 47 [y.v] h = some (y.v, h) := fun y hy h => run61 y (by have := D.mem_sz hy; omega) m (by have := D.mem_sz hy; omega) h
    have c2 : ∀ h, call X E m 19 [l[i.toNat].v, pv p, x.v] h = some ((D.put p l[i.toNat] x).v, h) := ih _ u h1 (by omega) m (by omega)
    rw [D.put_mk hj]
    refine gives_of rfl rfl rfl (by kernel_rfl) ⟨rfl, rfl⟩ (by simp [D.vw2, V.lows, D.low, pv_vw2, pv_low]) ?_
    have hlow := D.low 0 (.mk k k' t (l.set i.toNat (D.put p l[i.toNat] x)))
    simp only [D.v] at hlow
    have hpl : (((p.length : Int) + 1) == 0) = false := by simp; omega
    generalize call X E m = cf at *
    simp -implicitDefEqProofs [x19_w, x19r1_w, x19r2_w, x19r4_w, x19r5_w, D.vw2, D.okc, D.v, pv, hpl, D.cells_len]
    refine lpk_of (I36 l (l.set i.toNat (D.put p l[i.toNat] x)) k k' t i p x) l.length (by omega) ⟨⟨0, [], .nil, by simp, by simp [upd_at], ?_, .inl ⟨by simp, rfl⟩⟩, ?_, ?_, ?_, ?_, ?_, rfl⟩ ?_
    · simp [dcell, rO, D.vs]
    · simp [upd_at, arg0, pv]
    · simp [upd_at]
    · simp [upd_at]
    · simp [upd_at]
    · simp [upd_at]
    · refine step36 (by omega) h0 hj c1 c2 fun s si rest hh e6 e7 hb => ?_
      obtain ⟨e, h, base, rb⟩ := s
      simp only at hh e6 e7 hb
      subst hh hb
      simp -implicitDefEqProofs [x19_r, x19r12_w, dcell, rO, e6, e7, D.v]
      exact hlow
end Go.Proofs.YtkiliokeanmagaaDoor.Ab

namespace Go.Proofs.YtkiliokeanmagaaDoor.Ab
open Go
set_option linter.unusedVariables false
set_option linter.unusedSimpArgs false
set_option maxRecDepth 8000
set_option maxHeartbeats 2000000
def Grows (z : Nat) (us : List V) (si : SI) (h : List O) : Prop := (us = [] ∧ si = .nil) ∨ ∃ q, si = .tok q ∧ h[q]? = some (.tok us.length z)
def Keeps (h h' : List O) : Prop := ∀ (id : Nat) (cs : List V), h[id]? = some (O.cells cs) → h'[id]? = some (O.cells cs)
theorem Keeps.rfl' (h : List O) : Keeps h h := fun _ _ e => e
theorem Keeps.app (h pre : List O) : Keeps h (h ++ pre) := fun id cs e => by
  rw [List.getElem?_append_left (List.getElem?_eq_some_iff.1 e).1]; exact e
theorem Keeps.set {h : List O} {i : Nat} (o : O) (hi : ∀ cs, h[i]? ≠ some (O.cells cs)) : Keeps h (h.set i o) := fun id cs e => by
  rw [List.getElem?_set_ne]
  · exact e
  · rintro rfl
    exact hi cs e
theorem Grows.app {z : Nat} {us : List V} {si : SI} {h : List O} (hG : Grows z us si h) (pre : List O) : Grows z us si (h ++ pre) := by
  rcases hG with h1 | ⟨q, h1, h2⟩
  · exact .inl h1
  · exact .inr ⟨q, h1, by rw [List.getElem?_append_left (List.getElem?_eq_some_iff.1 h2).1]; exact h2⟩
theorem Grows.nil (z : Nat) (h : List O) : Grows z [] .nil h := .inl ⟨rfl, rfl⟩
def rng1 (n : Nat) : List (List Int) := (List.range n).map fun (i : Nat) => [(i : Int)]
def rng3 (n : Nat) : List (List Int) := (List.range n).map fun (i : Nat) => [1, (i : Int), 2]
def D.rp (d : D) : List (List Int) :=
  if d.form = 4 then [[1], [2], [3]] else if d.form = 5 ∨ d.form = 9 then [[2]] else if d.form = 6 then [[2], [3]] else if d.form = 8 then [[1], [2]] else
  if d.form = 7 then rng3 (d.kid 1).kids.length ++ [[2]] else if d.form = 10 then rng1 d.kids.length else []
end Go.Proofs.YtkiliokeanmagaaDoor.Ab

namespace Go.Proofs.YtkiliokeanmagaaDoor.Ab
open Go
set_option linter.unusedVariables false
set_option linter.unusedSimpArgs false
set_option maxRecDepth 8000
set_option maxHeartbeats 2000000
theorem form_nz {d : D} {f : Int} (h : d.form = f) (hf : f ≠ 0 ∧ f ≠ 1 ∧ f ≠ 2) : d.kd ≠ 1 ∧ d.kd ≠ 2 ∧ okF (form0 d.kids) d.kids = true ∧ f = (if form0 d.kids = 0 then 10 else form0 d.kids) := by
  obtain ⟨k, i, t, l⟩ := d
  simp only [D.form] at h
  simp only [D.kd, D.kids]
  split at h
  · omega
  split at h
  · split at h <;> omega
  split at h
  · omega
  split at h
  · exact ⟨by assumption, by assumption, by assumption, h.symm⟩
  · omega
theorem form_7 {d : D} (h : d.form = 7) : d.kids.length = 3 := by
  obtain ⟨_, _, h3, h4⟩ := form_nz h (by omega)
  have : form0 d.kids = 7 := by split at h4 <;> omega
  rw [this] at h3
  simp [okF] at h3
  exact h3.1
end Go.Proofs.YtkiliokeanmagaaDoor.Ab

namespace Go.Proofs.YtkiliokeanmagaaDoor.Ab
open Go
set_option linter.unusedVariables false
set_option linter.unusedSimpArgs false
set_option maxRecDepth 8000
set_option maxHeartbeats 2000000
theorem sub1_fst (frm : Nat) : ∀ (l : List D) (i : Nat), (sub1 frm l i).map (·.1) = (List.range' (frm + i) l.length).map fun (j : Nat) => [(j : Int)]
  | [], i => rfl
  | x :: l, i => by
    simp only [sub1, List.map_cons, List.length_cons, List.range'_succ, sub1_fst frm l (i + 1)]
    rfl
theorem recs_fst : ∀ (l : List D) (i : Nat), (recs l i).map (·.1) = (List.range' i l.length).map fun (j : Nat) => [1, (j : Int), 2]
  | [], i => rfl
  | x :: l, i => by
    simp only [recs, List.map_cons, List.length_cons, List.range'_succ, recs_fst l (i + 1)]
theorem form_ok {d : D} {f : Int} (h : d.form = f) (hf : f ≠ 0 ∧ f ≠ 1 ∧ f ≠ 2 ∧ f ≠ 10) : okF f d.kids = true := by
  obtain ⟨_, _, h3, h4⟩ := form_nz h ⟨hf.1, hf.2.1, hf.2.2.1⟩
  split at h4
  · omega
  · rw [h4]; exact h3
theorem form_lenB {d : D} : (d.form = 4 → d.kids.length = 4) ∧ (d.form = 5 → d.kids.length = 3) ∧ (d.form = 9 → d.kids.length = 3) ∧ (d.form = 6 → d.kids.length = 4) ∧ (d.form = 8 → d.kids.length = 3) := by
  refine ⟨fun h => ?_, fun h => ?_, fun h => ?_, fun h => ?_, fun h => ?_⟩
  all_goals
    have := form_ok h (by omega)
    simp [okF] at this
    first | exact this | exact this.1
theorem form_grp {d : D} (h : d.form = 7) : grp (d.kid 1) = true := by
  have := form_ok h (by omega)
  simp [okF] at this
  exact this.2
theorem D.parts_rp (d : D) : d.parts.map (·.1) = d.rp := by
  obtain ⟨l4, l5, l9, l6, l8⟩ := form_lenB (d := d)
  unfold D.parts D.rp
  by_cases h4 : d.form = 4
  · obtain ⟨a, b, c, e, he⟩ := list4 (l4 h4)
    simp [h4, he, sub1]
  by_cases h5 : d.form = 5
  · obtain ⟨a, b, c, he⟩ := list3 (l5 h5)
    simp [h5, he, sub1]
  by_cases h9 : d.form = 9
  · obtain ⟨a, b, c, he⟩ := list3 (l9 h9)
    simp [h9, he, sub1]
  by_cases h6 : d.form = 6
  · obtain ⟨a, b, c, e, he⟩ := list4 (l6 h6)
    simp [h6, he, sub1]
  by_cases h8 : d.form = 8
  · obtain ⟨a, b, c, he⟩ := list3 (l8 h8)
    simp [h8, he, sub1]
  by_cases h7 : d.form = 7
  · obtain ⟨a, b, c, he⟩ := list3 (form_7 h7)
    simp [h7, he, sub1, rng3, List.range_eq_range']
    exact recs_fst _ 0
  by_cases h10 : d.form = 10
  · simp only [h10]
    simp [sub1_fst, rng1, List.range_eq_range']
  simp [h4, h5, h9, h6, h8, h7, h10]
theorem D.at_one {k i : Int} {t : ByteArray} {l : List D} {j : Nat} (h : j < l.length) : D.at [(j : Int)] (.mk k i t l) = some l[j] := by
  rw [D.at_mk (by omega) (by omega)]
  rfl
theorem sub1_at {k i : Int} {t : ByteArray} {l : List D} {frm : Nat} : ∀ (L : List D) (j : Nat), (∀ u (h : u < L.length), ∃ h' : frm + j + u < l.length, L[u] = l[frm + j + u]) → ∀ p x, (p, x) ∈ sub1 frm L j → D.at p (.mk k i t l) = some x
  | [], _, _, p, x, h => by simp [sub1] at h
  | y :: L, j, hL, p, x, h => by
    simp only [sub1, List.mem_cons, Prod.mk.injEq] at h
    rcases h with ⟨rfl, rfl⟩ | h
    · obtain ⟨h1, h2⟩ := hL 0 (by simp)
      simp only [List.getElem_cons_zero, Nat.add_zero] at h1 h2
      rw [h2]
      exact D.at_one h1
    · refine sub1_at L (j + 1) (fun u hu => ?_) p x h
      obtain ⟨h1, h2⟩ := hL (u + 1) (by simp; omega)
      refine ⟨by omega, ?_⟩
      simp only [List.getElem_cons_succ] at h2
      rw [h2]
      congr 1
      omega
theorem sub1_drop {k i : Int} {t : ByteArray} {l : List D} {frm : Nat} : ∀ p x, (p, x) ∈ sub1 frm (l.drop frm) 0 → D.at p (.mk k i t l) = some x :=
  sub1_at _ 0 fun u hu => by
    simp at hu
    exact ⟨by omega, by simp⟩
theorem recs_at {k i : Int} {t : ByteArray} {l L : List D} {k1 i1 : Int} {t1 : ByteArray} (h1 : l[1]? = some (.mk k1 i1 t1 L)) (hg : ∀ x ∈ L, x.kids.length = 3) : ∀ (M : List D) (j : Nat), (∀ u (h : u < M.length), ∃ h' : j + u < L.length, M[u] = L[j + u]) → ∀ p x, (p, x) ∈ recs M j → D.at p (.mk k i t l) = some x
  | [], _, _, p, x, h => by simp [recs] at h
  | y :: M, j, hM, p, x, h => by
    simp only [recs, List.mem_cons, Prod.mk.injEq] at h
    rcases h with ⟨rfl, rfl⟩ | h
    · obtain ⟨a1, a2⟩ := hM 0 (by simp)
      simp only [List.getElem_cons_zero, Nat.add_zero] at a1 a2
      obtain ⟨b1, b2⟩ := List.getElem?_eq_some_iff.1 h1
      rw [D.at_mk (by omega) (by simpa using b1)]
      have : l[(1 : Int).toNat]'(by simpa using b1) = .mk k1 i1 t1 L := b2
      rw [this, D.at_mk (by omega) (by simpa using a1)]
      have : L[((j : Nat) : Int).toNat]'(by simpa using a1) = y := by rw [a2]; rfl
      rw [this]
      have hy := hg y (a2 ▸ List.getElem_mem a1)
      obtain ⟨ky, iy, ty, ly⟩ := y
      simp only [D.kids] at hy
      have := D.at_one (k := ky) (i := iy) (t := ty) (l := ly) (j := 2) (by omega)
      have hk : (D.mk ky iy ty ly).kid 2 = ly[2] := by
        simp only [D.kid, D.kids]
        rw [List.getD_eq_getElem?_getD, List.getElem?_eq_getElem (by omega)]
        rfl
      rw [hk]
      exact this
    · refine recs_at h1 hg M (j + 1) (fun u hu => ?_) p x h
      obtain ⟨h1, h2⟩ := hM (u + 1) (by simp; omega)
      refine ⟨by omega, ?_⟩
      simp only [List.getElem_cons_succ] at h2
      rw [h2]
      congr 1
      omega
theorem D.parts_at (d : D) : ∀ p x, (p, x) ∈ d.parts → D.at p d = some x := by
  intro p x h
  unfold D.parts at h
  split at h
  · obtain ⟨k, i, t, l⟩ := d
    exact sub1_drop p x h
  split at h
  · obtain ⟨k, i, t, l⟩ := d
    exact sub1_drop p x h
  split at h
  · rename_i h7
    have hg := form_grp h7
    have hl := form_7 h7
    obtain ⟨k, i, t, l⟩ := d
    rcases List.mem_append.1 h with h | h
    · simp only [D.kids] at hl
      have hk : l[1]? = some ((D.mk k i t l).kid 1) := by
        simp only [D.kid, D.kids]
        rw [List.getD_eq_getElem?_getD, List.getElem?_eq_getElem (by omega)]
        rfl
      generalize (D.mk k i t l).kid 1 = c at *
      obtain ⟨k1, i1, t1, L⟩ := c
      refine recs_at hk (fun x hx => ?_) L 0 (fun u hu => ⟨by omega, by simp⟩) p x h
      simp only [grp, Bool.and_eq_true, List.all_eq_true, D.kids] at hg
      have := hg.2.2.2.1 x hx
      simp only [defB, Bool.and_eq_true] at this
      simpa using this.2.1
    · exact sub1_drop p x h
  split at h
  · obtain ⟨k, i, t, l⟩ := d
    have := sub1_drop (k := k) (i := i) (t := t) (l := l) (frm := 0) p x
    exact this h
  · simp at h
end Go.Proofs.YtkiliokeanmagaaDoor.Ab

namespace Go.Proofs.YtkiliokeanmagaaDoor.Ab
open Go
set_option linter.unusedVariables false
set_option linter.unusedSimpArgs false
set_option maxRecDepth 8000
set_option maxHeartbeats 2000000
theorem get_m (h : List O) (a : O) (t : List O) : (h ++ a :: t)[h.length]? = some a := by
  rw [List.getElem?_append_right (Nat.le_refl _)]; simp
theorem get_m1 (h : List O) (a b : O) (t : List O) : (h ++ a :: b :: t)[h.length + 1]? = some b := by
  rw [List.getElem?_append_right (by omega)]; simp
theorem get_m2 (h : List O) (a b c : O) (t : List O) : (h ++ a :: b :: c :: t)[h.length + 2]? = some c := by
  rw [List.getElem?_append_right (by omega)]; simp
theorem set_m (h : List O) (a x : O) (t : List O) : (h ++ a :: t).set h.length x = h ++ x :: t := by
  rw [List.set_append_right _ _ (Nat.le_refl _)]; simp
end Go.Proofs.YtkiliokeanmagaaDoor.Ab

namespace Go.Proofs.YtkiliokeanmagaaDoor.Ab
open Go
set_option linter.unusedVariables false
set_option linter.unusedSimpArgs false
set_option maxRecDepth 8000
set_option maxHeartbeats 2000000
def walkS {σ : Type} (Z : List Int → D → σ → σ × Nat) : List (List Int × D) → σ → σ × Nat
  | [], s => (s, 0)
  | (p, x) :: r, s => if (Z p x s).2 = 0 then walkS Z r (Z p x s).1 else Z p x s
structure PartRndA {σ : Type} (n y : Nat) (caps : List V) (N : Nat) (F : σ → List O) (P W : σ → Prop) (A : List Int → D → σ → Prop) (Z : List Int → D → σ → σ × Nat) (L : List (List Int × D)) : Prop where
  len : ∀ s, (F s).length = N
  low : ∀ s, W s → (F s).all (O.low N) = true
  imp : ∀ s, P s → W s
  pres : ∀ p x, (p, x) ∈ L → ∀ s, P s → A p x s → W (Z p x s).1 ∧ ((Z p x s).2 = 0 → P (Z p x s).1)
  rnd : ∀ p x, (p, x) ∈ L → ∀ s, P s → A p x s → ∀ R, lowH (F s ++ .loop 0 :: R) → call X E n y (.c (.int .i64 N) :: pf p :: x.v :: caps) (F s ++ .loop 0 :: R) = some (.c (.bool ((Z p x s).2 == 0)), F (Z p x s).1 ++ .loop (Z p x s).2 :: R)
def okS {σ : Type} (Z : List Int → D → σ → σ × Nat) (A : List Int → D → σ → Prop) : List (List Int × D) → σ → Prop
  | [], _ => True
  | (p, x) :: r, s => A p x s ∧ ((Z p x s).2 = 0 → okS Z A r (Z p x s).1)
theorem okS_true {σ : Type} (Z : List Int → D → σ → σ × Nat) : ∀ (L : List (List Int × D)) (s : σ), okS Z (fun _ _ _ => True) L s
  | [], _ => trivial
  | (p, x) :: r, s => ⟨trivial, fun _ => okS_true Z r _⟩
structure PartRnd {σ : Type} (n y : Nat) (caps : List V) (N : Nat) (F : σ → List O) (P W : σ → Prop) (Z : List Int → D → σ → σ × Nat) (L : List (List Int × D)) : Prop where
  len : ∀ s, (F s).length = N
  low : ∀ s, W s → (F s).all (O.low N) = true
  imp : ∀ s, P s → W s
  pres : ∀ p x, (p, x) ∈ L → ∀ s, P s → W (Z p x s).1 ∧ ((Z p x s).2 = 0 → P (Z p x s).1)
  rnd : ∀ p x, (p, x) ∈ L → ∀ s, P s → ∀ R, lowH (F s ++ .loop 0 :: R) → call X E n y (.c (.int .i64 N) :: pf p :: x.v :: caps) (F s ++ .loop 0 :: R) = some (.c (.bool ((Z p x s).2 == 0)), F (Z p x s).1 ++ .loop (Z p x s).2 :: R)
theorem PartRnd.toA {σ : Type} {n y : Nat} {caps : List V} {N : Nat} {F : σ → List O} {P W : σ → Prop} {Z : List Int → D → σ → σ × Nat} {L : List (List Int × D)} (R : PartRnd n y caps N F P W Z L) : PartRndA n y caps N F P W (fun _ _ _ => True) Z L :=
  ⟨R.len, R.low, R.imp, fun p x h s hs _ => R.pres p x h s hs, fun p x h s hs _ => R.rnd p x h s hs⟩
theorem low_st {σ : Type} {N : Nat} {F : σ → List O} (hlen : ∀ s, (F s).length = N) {s s' : σ} (h' : (F s').all (O.low N) = true) {o o' : O} (ho : ∀ m, O.low m o' = true) {R : List O} (hl : lowH (F s ++ o :: R)) : lowH (F s' ++ o' :: R) := by
  unfold lowH at *
  rw [List.all_append, Bool.and_eq_true, List.all_cons, Bool.and_eq_true] at *
  have e : (F s' ++ o' :: R).length = (F s ++ o :: R).length := by simp [hlen]
  rw [e]
  refine ⟨olow_mono (by simp [hlen]) h', ho _, hl.2.2⟩
theorem low_s0 {σ : Type} {N : Nat} {F : σ → List O} (hlen : ∀ s, (F s).length = N) {s : σ} (h' : (F s).all (O.low N) = true) (m : Nat) : lowH (F s ++ [.loop m]) := by
  unfold lowH
  rw [List.all_append, Bool.and_eq_true]
  exact ⟨olow_mono (by simp [hlen]) h', rfl⟩
theorem olow_loop (n m : Nat) : O.low n (.loop m) = true := rfl
open Classical in
noncomputable def Y72 {σ : Type} (F : σ → List O) (P : σ → Prop) (A : List Int → D → σ → Prop) (Z : List Int → D → σ → σ × Nat) : List Int → D → List O → Option (Bool × List O) := fun p x H =>
  if h : ∃ s, (P s ∧ A p x s) ∧ H = F s ++ [.loop 0] then some ((Z p x h.choose).2 == 0, F (Z p x h.choose).1 ++ [.loop (Z p x h.choose).2]) else none
theorem Y72_at {σ : Type} {n y : Nat} {caps : List V} {N : Nat} {F : σ → List O} {P W : σ → Prop} {A : List Int → D → σ → Prop} {Z : List Int → D → σ → σ × Nat} {L : List (List Int × D)} (R : PartRndA n y caps N F P W A Z L) {p : List Int} {x : D} (hin : (p, x) ∈ L) {s : σ} (hs : P s) (ha : A p x s) :
    Y72 F P A Z p x (F s ++ [.loop 0]) = some ((Z p x s).2 == 0, F (Z p x s).1 ++ [.loop (Z p x s).2]) := by
  have h : ∃ s', (P s' ∧ A p x s') ∧ F s ++ [.loop 0] = F s' ++ [.loop 0] := ⟨s, ⟨hs, ha⟩, rfl⟩
  unfold Y72
  rw [dif_pos h]
  obtain ⟨⟨h1, h1a⟩, h2⟩ := h.choose_spec
  generalize h.choose = s' at *
  have a1 := R.rnd p x hin s hs ha [] (low_s0 R.len (R.low s (R.imp s hs)) 0)
  have a2 := R.rnd p x hin s' h1 h1a [] (low_s0 R.len (R.low s' (R.imp s' h1)) 0)
  rw [← h2, a1] at a2
  simp only [Option.some.injEq, Prod.mk.injEq, V.c.injEq, Value.bool.injEq] at a2
  rw [← a2.1, ← a2.2]
theorem walk72 {σ : Type} {n y : Nat} {caps : List V} {N : Nat} {F : σ → List O} {P W : σ → Prop} {A : List Int → D → σ → Prop} {Z : List Int → D → σ → σ × Nat} {M : List (List Int × D)} (R : PartRndA n y caps N F P W A Z M) : ∀ L : List (List Int × D), (∀ q ∈ L, q ∈ M) → ∀ s, P s → okS Z A L s →
    walkY (Y72 F P A Z) L (F s ++ [.loop 0]) = some ((walkS Z L s).2 == 0, F (walkS Z L s).1 ++ [.loop (walkS Z L s).2])
  | [], _, s, hs, _ => rfl
  | (p, x) :: L, hL, s, hs, hk => by
    have hin := hL (p, x) (by simp)
    simp only [walkY, walkS]
    rw [Y72_at R hin hs hk.1]
    by_cases h0 : (Z p x s).2 = 0
    · rw [h0, if_pos rfl]
      exact walk72 R L (fun q hq => hL q (by simp [hq])) _ ((R.pres p x hin s hs hk.1).2 h0) (hk.2 h0)
    · rw [if_neg h0]
      have hb : ((Z p x s).2 == 0) = false := by simpa using h0
      rw [hb]
theorem walkS_P {σ : Type} {P W : σ → Prop} {A : List Int → D → σ → Prop} {Z : List Int → D → σ → σ × Nat} (hPW : ∀ s, P s → W s) : ∀ L : List (List Int × D), (∀ p x, (p, x) ∈ L → ∀ s, P s → A p x s → W (Z p x s).1 ∧ ((Z p x s).2 = 0 → P (Z p x s).1)) → ∀ s, P s → okS Z A L s → W (walkS Z L s).1
  | [], _, s, hs, _ => hPW s hs
  | (p, x) :: L, hp, s, hs, hk => by
    simp only [walkS]
    split
    · rename_i h0
      exact walkS_P hPW L (fun p x h => hp p x (by simp [h])) _ ((hp p x (by simp) s hs hk.1).2 h0) (hk.2 h0)
    · exact (hp p x (by simp) s hs hk.1).1
theorem go72S {σ : Type} {d : D} {n y : Nat} {caps : List V} {N c : Nat} {F : σ → List O} {P W : σ → Prop} {A : List Int → D → σ → Prop} {Z : List Int → D → σ → σ × Nat} (hn : d.sz + 10 < n) (hl : d.sz < 1099511627776) (hy : 1000000 ≤ y) (R : PartRndA n y caps N F P W A Z d.parts)
    (hc : ∀ s, P s → (F s)[c]? = some (.cells d.v.cells)) {s : σ} (hs : P s) (hk : okS Z A d.parts s) :
    call X E (n + 1) 72 [.yld N y 2 caps, .ref c 0] (F s ++ [.loop 0]) = some (.tup [], F (walkS Z d.parts s).1 ++ [.loop (walkS Z d.parts s).2]) := by
  have hN : (F s ++ [O.loop 0]).length = N + 1 := by simp [R.len]
  have hsplit : ∀ (G H : List O), G.take (N + 1) = H → H.length = N + 1 → G = H ++ G.drop (N + 1) := fun G H h1 h2 => by rw [← h1, List.take_append_drop]
  have hwk := walk72 R _ (fun _ h => h) s hs hk
  have hlw : (F (walkS Z d.parts s).1 ++ [O.loop (walkS Z d.parts s).2]).all (O.low (F s ++ [O.loop 0]).length) = true := by
    have := walkS_P (Z := Z) (P := P) (W := W) R.imp d.parts R.pres s hs hk
    rw [hN, List.all_append, Bool.and_eq_true]
    exact ⟨olow_mono (by omega) (R.low _ this), rfl⟩
  obtain ⟨V0, hW⟩ : ∃ V0 : Bool × List O, V0 = ((walkS Z d.parts s).2 == 0, F (walkS Z d.parts s).1 ++ [.loop (walkS Z d.parts s).2]) := ⟨_, rfl⟩
  rw [← hW] at hwk
  have hW2 : F (walkS Z d.parts s).1 ++ [O.loop (walkS Z d.parts s).2] = V0.2 := by rw [hW]
  rw [hW2] at hlw ⊢
  have hlH := low_s0 R.len (R.low s (R.imp s hs)) 0
  have hPH : ∃ s', P s' ∧ F s ++ [O.loop 0] = F s' ++ [O.loop 0] := ⟨s, hs, rfl⟩
  clear hW hW2
  generalize hH0 : F s ++ [O.loop 0] = H0 at *
  have key : ∀ (hcell : ∀ G : List O, H0.length ≤ G.length → (∃ s, P s ∧ G.take H0.length = F s ++ [O.loop 0]) → G[c]? = some (.cells d.v.cells)) (hY : YAt (call X E n) (N : Int) y caps H0.length (fun H => ∃ s, P s ∧ H = F s ++ [O.loop 0]) (Y72 F P A Z) d.parts),
      call X E (n + 1) 72 [.yld (N : Int).toNat y 2 caps, .ref c 0] H0 = some (.tup [], V0.2) := fun hcell hY =>
    go72 d hn hl (H := H0) (c := c) (k := (N : Int)) (Int.natCast_nonneg N) hy (Y := Y72 F P A Z) (P := fun H => ∃ s, P s ∧ H = F s ++ [O.loop 0]) (W := V0) hcell hPH hY hwk hlw hlH
  rw [Int.toNat_natCast] at key
  refine key ?_ ?_
  · rintro G hG ⟨s', h1, h2⟩
    rw [hN] at h2 hG
    have hcs := hc s' h1
    have hcl := (List.getElem?_eq_some_iff.1 hcs).1
    rw [R.len] at hcl
    have : G[c]? = (G.take (N + 1))[c]? := by rw [List.getElem?_take, if_pos (by omega)]
    rw [this, h2, List.getElem?_append_left (by rw [R.len]; exact hcl)]
    exact hcs
  · rintro p x hin H H' b hH ⟨s0, h0, rfl⟩ hq
    have hex : ∃ s', (P s' ∧ A p x s') ∧ F s0 ++ [.loop 0] = F s' ++ [.loop 0] := Classical.byContradiction fun hc => by
      unfold Y72 at hq
      rw [dif_neg hc] at hq
      cases hq
    obtain ⟨s', ⟨h1, hA⟩, heq⟩ := hex
    rw [heq] at hq hH ⊢
    rw [Y72_at R hin h1 hA] at hq
    simp only [Option.some.injEq, Prod.mk.injEq] at hq
    obtain ⟨rfl, rfl⟩ := hq
    have hl' : (F (Z p x s').1 ++ [O.loop (Z p x s').2]).length = N + 1 := by simp [R.len]
    rw [hN] at hH ⊢
    refine ⟨hl', fun h0 => ⟨_, (R.pres p x hin s' h1 hA).2 (by simpa using h0), by rw [show (Z p x s').2 = 0 by simpa using h0]⟩, fun G hg hlG => ?_⟩
    have hGs := hsplit G _ hg (by simp [R.len])
    rw [hGs] at hlG
    rw [List.append_assoc, List.singleton_append] at hlG
    have h3 := R.rnd p x hin s' h1 hA (G.drop (N + 1)) hlG
    have h4 := low_st R.len (R.low _ (R.pres p x hin s' h1 hA).1) (o' := .loop (Z p x s').2) (fun m => olow_loop m _) hlG
    rw [List.append_assoc, List.singleton_append]
    refine ⟨?_, h4⟩
    rw [← h3]
    congr 1
    rw [hGs, List.append_assoc, List.singleton_append]
    congr 2
    rw [← List.singleton_append, ← List.append_assoc, List.drop_left' (by simp [R.len])]
theorem wpk_partsA {σ : Type} {d : D} {n y nt : Nat} {us : List Nat} {N c : Nat} {F : σ → List O} {P W : σ → Prop} {A : List Int → D → σ → Prop} {Z : List Int → D → σ → σ × Nat} {f : Ab.A} {K : List Fr} {Q : Ex → SF → Prop} {s : SF} {s0 : σ} (hf : callee (f.val s.e) = some (72, [.ref c 0]))
    (hn : d.sz + 10 < n) (hl : d.sz < 1099511627776) (hy : 1000000 ≤ y) (R : PartRndA n y (keepE nt us s.e) N F P W A Z d.parts) (hh : s.h = F s0) (hc : ∀ s, P s → (F s)[c]? = some (.cells d.v.cells)) (hs : P s0) (hk : okS Z A d.parts s0)
    (hq : ∀ s1, W s1 → ∀ m, walkS Z d.parts s0 = (s1, m) → ∃ e, Ex.ofNum m = some e ∧ retk (call X E (n + 1)) (n + 1) K Q e ⟨s.e, F s1 ++ [.loop 2], s.base, s.rb⟩) : wpk (call X E (n + 1)) (n + 1) (.rangeF f y 2 nt us) K Q s := by
  have hlen : s.h.length = N := by rw [hh, R.len]
  have hp := walkS_P (Z := Z) (P := P) (W := W) R.imp d.parts R.pres s0 hs hk
  have h72 := go72S hn hl hy R hc hs hk
  obtain ⟨e, he, hr⟩ := hq _ hp _ rfl
  refine wpk_range f y 2 nt us hf (by decide) hy (h' := F (walkS Z d.parts s0).1 ++ [.loop (walkS Z d.parts s0).2]) (e := e) (r := .tup []) ?_ ?_ ?_
  · rw [hlen, hh]
    exact h72
  · rw [hlen, List.getElem?_append_right (by rw [R.len]; exact Nat.le_refl _), R.len, Nat.sub_self]
    exact he
  · rw [hlen, List.set_append_right _ _ (by rw [R.len]; exact Nat.le_refl _), R.len, Nat.sub_self]
    exact hr
theorem wpk_parts {σ : Type} {d : D} {n y nt : Nat} {us : List Nat} {N c : Nat} {F : σ → List O} {P W : σ → Prop} {Z : List Int → D → σ → σ × Nat} {f : A} {K : List Fr} {Q : Ex → SF → Prop} {s : SF} {s0 : σ} (hf : callee (f.val s.e) = some (72, [.ref c 0]))
    (hn : d.sz + 10 < n) (hl : d.sz < 1099511627776) (hy : 1000000 ≤ y) (R : PartRnd n y (keepE nt us s.e) N F P W Z d.parts) (hh : s.h = F s0) (hc : ∀ s, P s → (F s)[c]? = some (.cells d.v.cells)) (hs : P s0)
    (hq : ∀ s1, W s1 → ∀ m, walkS Z d.parts s0 = (s1, m) → ∃ e, Ex.ofNum m = some e ∧ retk (call X E (n + 1)) (n + 1) K Q e ⟨s.e, F s1 ++ [.loop 2], s.base, s.rb⟩) : wpk (call X E (n + 1)) (n + 1) (.rangeF f y 2 nt us) K Q s :=
  wpk_partsA hf hn hl hy R.toA hh hc hs (okS_true Z _ _) hq
end Go.Proofs.YtkiliokeanmagaaDoor.Ab

namespace Go.Proofs.YtkiliokeanmagaaDoor.Ab
open Go
set_option linter.defProp false
section
variable (cf : CallF) (n : Nat) (s : SF) (K : List Fr) (Q : Ex → SF → Prop)
def x18r1_w := rK cf n s K Q x18r1 rfl
def x18r2_w := rK cf n s K Q x18r2 rfl
def x18r3_w := rK cf n s K Q x18r3 rfl
def x18r4_w := rK cf n s K Q x18r4 rfl
def x18r5_w := rK cf n s K Q x18r5 rfl
def x18r6_w := rK cf n s K Q x18r6 rfl
def x18r7_w := rK cf n s K Q x18r7 rfl
def x18r8_w := rK cf n s K Q x18r8 rfl
def x18r9_w := rK cf n s K Q x18r9 rfl
def x18l10_w := lK cf n s K Q x18l10 rfl
def x18r11_w := rK cf n s K Q x18r11 rfl
def x18_w := bK cf n s K Q x18 rfl
def x18_r := bR x18 rfl
def x1001800r1_w := rK cf n s K Q x1001800r1 rfl
def x1001800r2_w := rK cf n s K Q x1001800r2 rfl
def x1001800r3_w := rK cf n s K Q x1001800r3 rfl
def x1001800r4_w := rK cf n s K Q x1001800r4 rfl
def x1001800_w := bK cf n s K Q x1001800 rfl
def x46r1_w := rK cf n s K Q x46r1 rfl
def x46r2_w := rK cf n s K Q x46r2 rfl
def x46r3_w := rK cf n s K Q x46r3 rfl
def x46r4_w := rK cf n s K Q x46r4 rfl
def x46r5_w := rK cf n s K Q x46r5 rfl
def x46r6_w := rK cf n s K Q x46r6 rfl
def x46r7_w := rK cf n s K Q x46r7 rfl
def x46r8_w := rK cf n s K Q x46r8 rfl
def x46r9_w := rK cf n s K Q x46r9 rfl
def x46l10_w := lK cf n s K Q x46l10 rfl
def x46r11_w := rK cf n s K Q x46r11 rfl
def x46_w := bK cf n s K Q x46 rfl
def x46_r := bR x46 rfl
end
end Go.Proofs.YtkiliokeanmagaaDoor.Ab

namespace Go.Proofs.YtkiliokeanmagaaDoor.Ab
open Go
set_option linter.unusedVariables false
set_option linter.unusedSimpArgs false
set_option maxRecDepth 8000
set_option maxHeartbeats 2000000
theorem set_m1 (h : List O) (a b x : O) (t : List O) : (h ++ a :: b :: t).set (h.length + 1) x = h ++ a :: x :: t := by
  rw [List.set_append_right _ _ (by omega)]; simp
theorem set_m2 (h : List O) (a b c x : O) (t : List O) : (h ++ a :: b :: c :: t).set (h.length + 2) x = h ++ a :: b :: x :: t := by
  rw [List.set_append_right _ _ (by omega)]; simp
end Go.Proofs.YtkiliokeanmagaaDoor.Ab

namespace Go.Proofs.YtkiliokeanmagaaDoor.Ab
open Go
set_option linter.unusedVariables false
set_option linter.unusedSimpArgs false
set_option maxRecDepth 8000
set_option maxHeartbeats 2000000
end Go.Proofs.YtkiliokeanmagaaDoor.Ab

namespace Go.Proofs.YtkiliokeanmagaaDoor.Ab
open Go
set_option linter.defProp false
section
variable (cf : CallF) (n : Nat) (s : SF) (K : List Fr) (Q : Ex → SF → Prop)
end
end Go.Proofs.YtkiliokeanmagaaDoor.Ab

namespace Go.Proofs.YtkiliokeanmagaaDoor.Ab
open Go
set_option linter.unusedVariables false
set_option linter.unusedSimpArgs false
set_option maxRecDepth 8000
set_option maxHeartbeats 2000000
def D.err (d : D) : Int := if d.ck ≠ 0 then d.ck else if (wrongN d.sz d).isSome = true then 4 else 0
theorem chk_err (d : D) : ∃ p : List Int, d.chk = .tup [pv p, .c (.int .i64 d.err)] := by
  unfold D.chk D.err
  split
  · exact ⟨[], rfl⟩
  · cases wrongN d.sz d with
    | none => exact ⟨[], rfl⟩
    | some p => exact ⟨p, rfl⟩
theorem go44 (d : D) (hl : d.sz < 100000000000) {n : Nat} (hn : 4 * d.sz + 201 ≤ n) : Gives (n + 1) 44 [d.v] (.c (.int .i64 d.err)) := by
  obtain ⟨n, rfl⟩ : ∃ n', n = n' + 1 := ⟨n - 1, by omega⟩
  have c10 : ∀ h, call X E (n + 1) 10 [d.v] h = some (d.chk, h) := go10 d hl (by omega)
  obtain ⟨p, hp⟩ := chk_err d
  rw [hp] at c10
  generalize pv p = P at *
  generalize n + 1 = m at *
  refine gives_of rfl rfl rfl (by kernel_rfl) ⟨rfl, rfl⟩ (by simp [D.vw2, V.lows, D.low]) ?_
  simp -implicitDefEqProofs [x44_w, x44_r, x44r1_w, x44r2_w, x44r3_w, D.vw2, D.okc, D.rd, D.cells_len, c10]
end Go.Proofs.YtkiliokeanmagaaDoor.Ab

namespace Go.Proofs.YtkiliokeanmagaaDoor.Ab
open Go
set_option linter.unusedVariables false
set_option linter.unusedSimpArgs false
set_option maxRecDepth 8000
set_option maxHeartbeats 2000000
def anyL (g : D → Bool) : List (List Int × D) → Bool
  | [] => false
  | (_, x) :: r => g x || anyL g r
def hasN (w : Int) : Nat → D → Bool
  | 0, _ => false
  | f + 1, d => d.form == w || anyL (hasN w f) d.parts
def D.has (d : D) (w : Int) : Bool := hasN w d.sz d
end Go.Proofs.YtkiliokeanmagaaDoor.Ab

namespace Go.Proofs.YtkiliokeanmagaaDoor.Ab
open Go
set_option linter.unusedVariables false
def l1O : Option O → List O → R2
  | some (.cells [c]), h => some (c, h)
  | _, _ => none
def l1F : V → List O → R2
  | .ref id 0, h => l1O h[id]? h
  | _, _ => none
theorem l1F_ref (id : Nat) (h : List O) : l1F (.ref id 0) h = l1O h[id]? h := rfl
theorem l1O_cells (c : V) (h : List O) : l1O (some (.cells [c])) h = some (c, h) := rfl
theorem actF_load1 (cf : CallF) (s : SF) (x : A) : actF cf s (.load1 x) = l1F (x.val s.e) s.h := by
  simp only [actF, XOp.sub, act, ev_val]
  cases x.val s.e with
  | ref id o =>
    cases o with
    | zero =>
      simp only [l1F_ref]
      cases s.h[id]? with
      | none => rfl
      | some o =>
        cases o with
        | cells cs =>
          cases cs with
          | nil => rfl
          | cons a r => cases r <;> rfl
        | _ => rfl
    | succ n => rfl
  | _ => rfl
attribute [simp] actF_load1 l1F_ref l1O_cells
end Go.Proofs.YtkiliokeanmagaaDoor.Ab

namespace Go.Proofs.YtkiliokeanmagaaDoor.Ab
open Go
set_option linter.unusedVariables false
set_option linter.unusedSimpArgs false
set_option maxRecDepth 8000
set_option maxHeartbeats 2000000
theorem go46 (a b : List Int) (i j : SI) {n : Nat} (hn : a.length < n) (hl : a.length < 1099511627776) : Gives (n + 1) 46 [.sl (a.map I64) i, .sl (b.map I64) j] (.c (.bool (decide (a = b)))) := by
  have h1 := lows_I64 0 a
  have h2 := lows_I64 0 b
  have hla : (a.map I64).length = a.length := List.length_map _
  have hlb : (b.map I64).length = b.length := List.length_map _
  refine gives_of rfl rfl rfl (by kernel_rfl) ⟨rfl, rfl⟩ (by simp [vw2_sl, V.lows, V.low, h1, h2, SI.low]) ?_
  generalize call X E n = cf at *
  by_cases hab : a.length = b.length
  · have hb : ((a.length : Int) != b.length) = false := by simp; omega
    have hA : ∀ t, t < a.length → (a.map I64)[t]? = some (I64 (a.getD t 0)) := fun t ht => by simp [ht]
    have hB : ∀ t, t < a.length → (b.map I64)[t]? = some (I64 (b.getD t 0)) := fun t ht => by simp [show t < b.length by omega]
    generalize hAA : a.map I64 = A at *
    generalize hBB : b.map I64 = B at *
    simp -implicitDefEqProofs [x46_w, x46r1_w, x46r2_w, x46r4_w, vw2_sl, hla, hlb, hb]
    obtain ⟨I, hI⟩ : ∃ I : Nat → SF → Prop, ∀ k s, I k s ↔ (∃ t : Nat, t + k = a.length ∧ s.e 13 = .c (.int .i64 t) ∧ s.e 12 = .c (.int .i64 a.length) ∧ (decide (a = b)) = (decide (a.drop t = b.drop t)) ∧ s.e 0 = .sl A .any ∧ s.e 1 = .sl B .any ∧ s.base = 0) := ⟨_, fun _ _ => Iff.rfl⟩
    refine lpk_of I a.length hn ((hI _ _).2 ⟨0, by simp, by simp [upd_at], by simp [upd_at], by simp, by simp [upd_at, arg0], by simp [upd_at, arg0], rfl⟩) ?_
    rintro k ⟨e, h, base, rb⟩ hi
    obtain ⟨t, ht, e13, e12, hdr, e0, e1, hb⟩ := (hI _ _).1 hi
    simp only at e13 e12 e0 e1 hb
    subst hb
    by_cases hm : t < a.length
    · have hlt : (t : Int) < a.length := by omega
      have hAt : A[t]'(by omega) = I64 (a.getD t 0) := by have := hA t hm; rw [List.getElem?_eq_getElem (by omega)] at this; simpa using this
      have hBt : B[t]'(by omega) = I64 (b.getD t 0) := by have := hB t hm; rw [List.getElem?_eq_getElem (by omega)] at this; simpa using this
      have d1 : a.drop t = a.getD t 0 :: a.drop (t + 1) := by rw [List.drop_eq_getElem_cons hm]; simp [hm]
      have d2 : b.drop t = b.getD t 0 :: b.drop (t + 1) := by rw [List.drop_eq_getElem_cons (by omega)]; simp [show t < b.length by omega]
      rw [d1, d2] at hdr
      have hltb : (t : Int) < b.length := by omega
      have hmb : t < b.length := by omega
      generalize a.getD t 0 = u at *
      generalize b.getD t 0 = v at *
      have hw : IntKind.i64.wrap ((t : Int) + 1) = (t : Int) + 1 := wrap_in (by omega)
      generalize hD : decide (a = b) = D0 at *
      by_cases huv : u = v
      · subst huv
        have hne : (u != u) = false := by simp
        simp -implicitDefEqProofs [x46l10_w, x46r5_w, x46r6_w, x46r7_w, x46r9_w, e0, e1, e12, e13, hla, hlb, hlt, hltb, hm, hmb, hAt, hBt, I64, hne]
        refine ⟨k - 1, by omega, (hI _ _).2 ⟨t + 1, by omega, by simp [upd_at, hw], by simp [upd_at, e12], by rw [hdr]; simp, by simp [upd_at, e0], by simp [upd_at, e1], rfl⟩⟩
      · have hne : (u != v) = true := by simp [huv]
        have : D0 = false := by rw [hdr]; simp [huv]
        subst this
        simp -implicitDefEqProofs [x46l10_w, x46_r, x46r5_w, x46r6_w, x46r7_w, x46r8_w, e0, e1, e12, e13, hla, hlb, hlt, hltb, hm, hmb, hAt, hBt, I64, hne]
    · have hlt : ¬ (t : Int) < a.length := by omega
      rw [List.drop_of_length_le (by omega), List.drop_of_length_le (by omega)] at hdr
      rw [hdr]
      simp -implicitDefEqProofs [x46l10_w, x46_r, x46r5_w, x46r11_w, e12, e13, hlt]
  · have hb : ((a.length : Int) != b.length) = true := by simp; omega
    have hne : decide (a = b) = false := by simp; intro h; exact hab (by rw [h])
    rw [hne]
    simp -implicitDefEqProofs [x46_w, x46_r, x46r1_w, x46r2_w, x46r3_w, vw2_sl, hla, hlb, hb]
theorem begs_take : ∀ p q : List Int, begs p q = (decide (q.length ≤ p.length) && decide (q = p.take q.length))
  | p, [] => by simp [begs]
  | [], b :: q => by simp [begs]
  | a :: p, b :: q => by
    rw [begs, begs_take p q]
    by_cases hab : a = b
    · subst hab; simp
    · have : ¬ b = a := fun h => hab h.symm
      simp [hab, this]
def fstP (p : List Int) : List (List Int × D) → Option (List Int × D)
  | [] => none
  | (q, x) :: r => if begs p q = true then some (q, x) else fstP p r
theorem fstP_mem {p : List Int} : ∀ {L : List (List Int × D)} {q : List Int} {x : D}, fstP p L = some (q, x) → (q, x) ∈ L ∧ begs p q = true
  | [], _, _, h => by simp [fstP] at h
  | (q', x') :: L, q, x, h => by
    simp only [fstP] at h
    split at h
    · simp only [Option.some.injEq, Prod.mk.injEq] at h
      obtain ⟨rfl, rfl⟩ := h
      exact ⟨by simp, by assumption⟩
    · have := fstP_mem h
      exact ⟨by simp [this.1], this.2⟩
def subN : Nat → D → List Int → Bool
  | _, _, [] => true
  | 0, _, _ :: _ => false
  | f + 1, d, i :: p => match fstP (i :: p) d.parts with
    | some (q, x) => subN f x ((i :: p).drop q.length)
    | none => false
def D.sub (d : D) (p : List Int) : Bool := subN d.sz d p
theorem subN_nil (f : Nat) (d : D) : subN f d [] = true := by cases f <;> rfl
theorem subN_eq : ∀ (f f' : Nat) (d : D) (p : List Int), d.sz ≤ f → d.sz ≤ f' → subN f d p = subN f' d p
  | f, f', d, [], _, _ => by rw [subN_nil, subN_nil]
  | 0, _, d, _ :: _, h, _ => by have := D.sz_pos d; omega
  | _, 0, d, _ :: _, _, h => by have := D.sz_pos d; omega
  | f + 1, f' + 1, d, i :: p, h, h' => by
    simp only [subN]
    cases hf : fstP (i :: p) d.parts with
    | none => rfl
    | some r =>
      obtain ⟨q, x⟩ := r
      have := parts_mem (fstP_mem hf).1
      exact subN_eq f f' x _ (by omega) (by omega)
theorem sub_eq (d : D) (i : Int) (p : List Int) : d.sub (i :: p) = match fstP (i :: p) d.parts with
    | some (q, x) => x.sub ((i :: p).drop q.length)
    | none => false := by
  unfold D.sub
  rw [subN_eq d.sz (d.sz + 1) d _ (Nat.le_refl _) (by omega)]
  simp only [subN]
  cases hf : fstP (i :: p) d.parts with
  | none => rfl
  | some r =>
    obtain ⟨q, x⟩ := r
    have := parts_mem (fstP_mem hf).1
    exact subN_eq _ _ x _ (by omega) (Nat.le_refl _)
theorem round18 {n : Nat} {L : Nat} {e : Nat → V} (e2 : e 2 = .ref 0 0) (e3 : e 3 = .ref 1 0) (e7 : e 7 = .ref (L + 1 + 1) 0) {q : List Int} {x d : D} {p : List Int} {rest R : List O} (hrest : rest.length = L)
    (hq : q.length < 1000000) (hn : q.length + 1 < n) (hlow : lowH (.cells d.v.cells :: .cells [pv p] :: (rest ++ .cells [.c (.bool false)] :: .cells d.v.cells :: .loop 0 :: R))) :
    call X E (n + 1) 1001800 (.c (.int .i64 ((L + 4 : Nat) : Int)) :: pf q :: x.v :: keepE 42 [3, 2, 7] e) (.cells d.v.cells :: .cells [pv p] :: (rest ++ .cells [.c (.bool false)] :: .cells d.v.cells :: .loop 0 :: R)) =
      if begs p q = true then some (.c (.bool false), .cells x.v.cells :: .cells [pv (p.drop q.length)] :: (rest ++ .cells [.c (.bool true)] :: .cells d.v.cells :: .loop 6 :: R))
      else some (.c (.bool true), .cells d.v.cells :: .cells [pv p] :: (rest ++ .cells [.c (.bool false)] :: .cells d.v.cells :: .loop 0 :: R)) := by
  have hE : E 1001800 = none := rfl
  have hX : X 1001800 = some x1001800 := rfl
  have hA : x1001800.asg = some ([20, 21], XC.seq x1001800r3 x1001800r4) := rfl
  have c46 : ∀ h, call X E n 46 [.sl (q.map I64) .full, .sl ((p.take q.length).map I64) .any] h = some (.c (.bool (decide (q = p.take q.length))), h) := by
    obtain ⟨n, rfl⟩ : ∃ n', n = n' + 1 := ⟨n - 1, by omega⟩
    exact go46 q (p.take q.length) .full .any (by omega) (by omega)
  have hbt := begs_take p q
  have hlq : (q.map I64).length = q.length := List.length_map _
  have hlp : (p.map I64).length = p.length := List.length_map _
  have hzp : hz 1 (p.map I64) = true := hz_I64 p
  have htm : (p.take q.length).map I64 = (p.map I64).take q.length := List.map_take ..
  have hdm : (p.drop q.length).map I64 = (p.map I64).drop q.length := List.map_drop ..
  rw [htm] at c46
  have hlowP : ∀ m, V.lows m ((p.map I64).drop q.length) = true := fun m => by rw [← hdm]; exact lows_I64 m _
  simp only [pf, pv, hdm] at hlow ⊢
  clear htm hdm
  simp only [call, hE, hX, hA]
  rw [if_pos (by simp [hrest]; omega)]
  have t20 : toE (((keepE 42 [3, 2, 7] e).set 20 (.sl (q.map I64) .full)).set 21 x.v) 20 = .sl (q.map I64) .full := rfl
  have t21 : toE (((keepE 42 [3, 2, 7] e).set 20 (.sl (q.map I64) .full)).set 21 x.v) 21 = x.v := rfl
  have t2 : toE (((keepE 42 [3, 2, 7] e).set 20 (.sl (q.map I64) .full)).set 21 x.v) 2 = .ref 0 0 := e2
  have t3 : toE (((keepE 42 [3, 2, 7] e).set 20 (.sl (q.map I64) .full)).set 21 x.v) 3 = .ref 1 0 := e3
  have t7 : toE (((keepE 42 [3, 2, 7] e).set 20 (.sl (q.map I64) .full)).set 21 x.v) 7 = .ref (L + 1 + 1) 0 := e7
  have hputs : putAll [20, 21] (List.take [20, 21].length (V.sl (List.map I64 q) .full :: x.v :: keepE 42 [3, 2, 7] e)) (List.drop [20, 21].length (V.sl (List.map I64 q) .full :: x.v :: keepE 42 [3, 2, 7] e)) = some (((keepE 42 [3, 2, 7] e).set 20 (.sl (q.map I64) .full)).set 21 x.v) := rfl
  subst hrest
  have hend : ∀ (a1 a2 a3 z : O), (rest ++ a1 :: a2 :: a3 :: (R ++ [z]))[rest.length + (R.length + 1 + 1 + 1)]? = some z := fun a1 a2 a3 z => by
    rw [show rest ++ a1 :: a2 :: a3 :: (R ++ [z]) = (rest ++ a1 :: a2 :: a3 :: R) ++ [z] by simp, List.getElem?_append_right (by simp)]
    simp
  have send : ∀ (a1 a2 a3 z w : O), (rest ++ a1 :: a2 :: a3 :: (R ++ [z])).set (rest.length + (R.length + 1 + 1 + 1)) w = rest ++ a1 :: a2 :: a3 :: (R ++ [w]) := fun a1 a2 a3 z w => by
    rw [show rest ++ a1 :: a2 :: a3 :: (R ++ [z]) = (rest ++ a1 :: a2 :: a3 :: R) ++ [z] by simp, List.set_append_right _ _ (by simp)]
    simp
  have htk : ∀ (a1 a2 a3 z : O), (rest ++ a1 :: a2 :: a3 :: (R ++ [z])).take (rest.length + (R.length + 1 + 1 + 1)) = rest ++ a1 :: a2 :: a3 :: R := fun a1 a2 a3 z => by
    rw [show rest ++ a1 :: a2 :: a3 :: (R ++ [z]) = (rest ++ a1 :: a2 :: a3 :: R) ++ [z] by simp, List.take_left' (by simp)]
  have hk4 : ((rest.length : Int) + 4).toNat = rest.length + 4 := by omega
  have hlow2 : ∀ (y : D) (V1 : List V) (v : Bool) (m : Nat), (∀ k, V.lows k V1 = true) → (O.cells y.v.cells :: O.cells [V.sl V1 .any] :: (rest ++ O.cells [V.c (.bool v)] :: O.cells d.v.cells :: O.loop m :: R)).all (O.low (rest.length + (R.length + 1 + 1 + 1) + 1 + 1)) = true := fun y V1 v m hV => by
    unfold lowH at hlow
    have hle : (O.cells d.v.cells :: O.cells [V.sl (List.map I64 p) .any] :: (rest ++ O.cells [V.c (.bool false)] :: O.cells d.v.cells :: O.loop 0 :: R)).length = rest.length + (R.length + 1 + 1 + 1) + 1 + 1 := by simp
    rw [hle] at hlow
    simp only [List.all_append, List.all_cons, Bool.and_eq_true, olow_cells, D.low_cells, true_and] at hlow ⊢
    obtain ⟨h1, h2, h3, h4, h5⟩ := hlow
    exact ⟨by simp [V.lows, V.low, hV, SI.low], h2, rfl, rfl, h5⟩
  have hlowp : ∀ m, V.lows m (p.map I64) = true := fun m => lows_I64 m p
  have hend2 : rest.length + (R.length + 1 + 1 + 1) + 1 + 1 = rest.length + (R.length + 1 + 1 + 1) + 2 := rfl
  by_cases hbg : begs p q = true
  · rw [hbg] at hbt
    simp only [Bool.true_eq, Bool.and_eq_true, decide_eq_true_eq] at hbt
    obtain ⟨hle, heq⟩ := hbt
    have heq' : decide (q = p.take q.length) = true := by simpa using heq
    rw [heq'] at c46
    have hleI : (q.length : Int) ≤ p.length := by omega
    have h0q : (0 : Int) ≤ q.length := by omega
    rw [if_pos hbg]
    have hl6 := hlow2 x ((p.map I64).drop q.length) true 6 hlowP
    refine round_at (tm := (((keepE 42 [3, 2, 7] e).set 20 (.sl (q.map I64) .full)).set 21 x.v)) hputs (by kernel_rfl) (by kernel_rfl) ?_
    generalize toE (((keepE 42 [3, 2, 7] e).set 20 (.sl (q.map I64) .full)).set 21 x.v) = e0 at *
    generalize q.map I64 = Qv at *
    generalize p.map I64 = Pv at *
    have htkl : Pv.take p.length = Pv := by rw [← hlp]; exact List.take_length
    refine wpk_of ?_
    simp -implicitDefEqProofs [x1001800_w, x1001800r3_w, x1001800r4_w, t20, t21, D.okc, D.spl, D.cells_len, hend, send, get_m2, set_m2, hk4]
    refine wpk_of ?_
    simp -implicitDefEqProofs [x1001800_w, x1001800r1_w, x1001800r2_w, t20, t21, t2, t3, t7, D.rd, D.okc, D.spl2, D.cells_len, hend, send, get_m, get_m2, set_m, set_m2, hk4, hlp, hlq, hleI, h0q, hzp, c46, htk, htkl, Ex.num]
    simpa using hl6
  · have hbg' : begs p q = false := by simpa using hbg
    rw [if_neg hbg]
    rw [hbg'] at hbt
    have hl0 := hlow2 d (p.map I64) false 0 hlowp
    by_cases hle : q.length ≤ p.length
    · have heq' : decide (q = p.take q.length) = false := by simpa [hle] using hbt
      rw [heq'] at c46
      have hleI : (q.length : Int) ≤ p.length := by omega
      have h0q : (0 : Int) ≤ q.length := by omega
      refine round_at (tm := (((keepE 42 [3, 2, 7] e).set 20 (.sl (q.map I64) .full)).set 21 x.v)) hputs (by kernel_rfl) (by kernel_rfl) ?_
      generalize toE (((keepE 42 [3, 2, 7] e).set 20 (.sl (q.map I64) .full)).set 21 x.v) = e0 at *
      generalize q.map I64 = Qv at *
      generalize p.map I64 = Pv at *
      refine wpk_of ?_
      simp -implicitDefEqProofs [x1001800_w, x1001800r3_w, x1001800r4_w, t20, t21, D.okc, D.spl, D.cells_len, hend, send, get_m2, set_m2, hk4]
      refine wpk_of ?_
      simp -implicitDefEqProofs [x1001800_w, x1001800r1_w, x1001800r2_w, t20, t21, t2, t3, t7, D.rd, D.okc, D.cells_len, hend, send, get_m, get_m2, set_m, set_m2, hk4, hlp, hlq, hleI, h0q, hzp, c46, htk, Ex.num]
      simpa using hl0
    · have hleI : ¬ (q.length : Int) ≤ p.length := by omega
      refine round_at (tm := (((keepE 42 [3, 2, 7] e).set 20 (.sl (q.map I64) .full)).set 21 x.v)) hputs (by kernel_rfl) (by kernel_rfl) ?_
      generalize toE (((keepE 42 [3, 2, 7] e).set 20 (.sl (q.map I64) .full)).set 21 x.v) = e0 at *
      generalize q.map I64 = Qv at *
      generalize p.map I64 = Pv at *
      refine wpk_of ?_
      simp -implicitDefEqProofs [x1001800_w, x1001800r3_w, x1001800r4_w, t20, t21, D.okc, D.spl, D.cells_len, hend, send, get_m2, set_m2, hk4]
      refine wpk_of ?_
      simp -implicitDefEqProofs [x1001800_w, x1001800r1_w, x1001800r2_w, t20, t21, t2, t3, t7, D.rd, D.okc, D.cells_len, hend, send, get_m, get_m2, set_m, set_m2, hk4, hlp, hlq, hleI, htk, Ex.num]
      simpa using hl0
end Go.Proofs.YtkiliokeanmagaaDoor.Ab

namespace Go.Proofs.YtkiliokeanmagaaDoor.Ab
open Go
set_option linter.unusedVariables false
set_option linter.unusedSimpArgs false
set_option maxRecDepth 8000
set_option maxHeartbeats 2000000
def F18 (d : D) (p : List Int) (rest : List O) : Option (D × List Int) → List O
  | none => .cells d.v.cells :: .cells [pv p] :: (rest ++ [.cells [.c (.bool false)], .cells d.v.cells])
  | some (x, q) => .cells x.v.cells :: .cells [pv q] :: (rest ++ [.cells [.c (.bool true)], .cells d.v.cells])
def Z18 (p : List Int) : List Int → D → Option (D × List Int) → Option (D × List Int) × Nat := fun q x s => if begs p q = true then (some (x, p.drop q.length), 6) else (s, 0)
theorem walk18 (p : List Int) : ∀ L : List (List Int × D), walkS (Z18 p) L none = match fstP p L with
    | some (q, x) => (some (x, p.drop q.length), 6)
    | none => (none, 0)
  | [] => rfl
  | (q, x) :: L => by
    simp only [walkS, fstP, Z18]
    by_cases h : begs p q = true
    · simp [h]
    · simp only [h, if_false]
      exact walk18 p L
theorem rnd18 {n : Nat} {d : D} {p : List Int} {rest : List O} {e : Nat → V} (hn : 5 < n) (e2 : e 2 = .ref 0 0) (e3 : e 3 = .ref 1 0) (e7 : e 7 = .ref (rest.length + 1 + 1) 0) (hrest : rest.all (O.low (rest.length + 4)) = true) :
    PartRnd (n + 1) 1001800 (keepE 42 [3, 2, 7] e) (rest.length + 4) (F18 d p rest) (fun s => s = none) (fun _ => True) (Z18 p) d.parts where
  len := fun s => by cases s <;> simp [F18]
  low := fun s _ => by
    have h1 : ∀ m (p : List Int), V.lows m [pv p] = true := fun m p => by simp [V.lows, pv_low]
    cases s with
    | none =>
      simp only [F18, List.all_cons, List.all_append, olow_cells, D.low_cells, h1, hrest, Bool.true_and, List.all_nil, Bool.and_true]
      rfl
    | some s =>
      simp only [F18, List.all_cons, List.all_append, olow_cells, D.low_cells, h1, hrest, Bool.true_and, List.all_nil, Bool.and_true]
      rfl
  imp := fun _ _ => trivial
  pres := fun q x hin s hs => ⟨trivial, fun h0 => by
    subst hs
    unfold Z18 at h0 ⊢
    split at h0
    · simp at h0
    · rename_i h; simp [h]⟩
  rnd := fun q x hin s hs R hl => by
    subst hs
    have h3 := (parts_mem hin).2
    simp only [F18, List.cons_append, List.append_assoc, List.nil_append] at hl ⊢
    rw [round18 e2 e3 e7 rfl (by omega) (by omega) hl]
    unfold Z18
    by_cases hb : begs p q = true
    · simp [hb, F18]
    · simp [hb, F18]
theorem go18 (d : D) (p : List Int) (si : SI) (hl : d.sz < 10000000000) (hp : p.length < 1099511627776) {n : Nat} (hn : 4 * d.sz + 210 ≤ n) : Gives (n + 1) 18 [d.v, .sl (p.map I64) si] (.tup [.c (.bool (decide (d.err = 0) && d.sub p)), .c (.int .i64 d.err)]) := by
  obtain ⟨n, rfl⟩ : ∃ n', n = n' + 2 := ⟨n - 2, by omega⟩
  have c44 : ∀ h, call X E (n + 1 + 1) 44 [d.v] h = some (.c (.int .i64 d.err), h) := go44 d (by omega) (by omega)
  have c45 : ∀ (d : D) h, call X E (n + 1 + 1) 45 [d.v] h = some (.clo 72 [.ref h.length 0], h ++ [.cells d.v.cells]) := fun d => go45 d
  have hpv : (V.sl (p.map I64) si).vw2 = pv p := rfl
  show Gives ((n + 1 + 1) + 1) 18 [d.v, .sl (p.map I64) si] _
  refine gives_of rfl rfl rfl (by kernel_rfl) ⟨rfl, rfl⟩ (by simp [D.vw2, hpv, V.lows, D.low, pv_low]) ?_
  have hoc : okc (pv p) = true := rfl
  have hcl : ∀ p, (pv p).cells = [pv p] := fun _ => rfl
  by_cases h0 : d.err = 0
  rotate_left
  · have hb : (d.err != 0) = true := by simp [h0]
    generalize call X E (n + 1 + 1) = cf at *
    simp -implicitDefEqProofs [x18_w, x18_r, x18r1_w, x18r2_w, x18r3_w, x18r4_w, D.vw2, hpv, hoc, hcl, D.okc, D.rd, D.cells_len, c44, hb, h0]
    try simp [V.low, V.lows]
  rw [h0] at c44 ⊢
  have hlt : ∀ i : Int, ((0 : Int) < i) = (0 < i) := fun _ => rfl
  simp -implicitDefEqProofs [x18_w, x18r1_w, x18r2_w, x18r3_w, D.vw2, hpv, hoc, hcl, D.okc, D.rd, D.cells_len, c44]
  obtain ⟨I, hI⟩ : ∃ I : Nat → SF → Prop, ∀ k s, I k s ↔ (∃ (d' : D) (p' : List Int) (rest : List O), d'.sz ≤ k ∧ d'.sz ≤ d.sz ∧ d.sub p = d'.sub p' ∧ s.h = .cells d'.v.cells :: .cells [pv p'] :: rest ∧ rest.all (O.low (rest.length + 2)) = true ∧ s.e 2 = .ref 0 0 ∧ s.e 3 = .ref 1 0 ∧ s.base = 0) := ⟨_, fun _ _ => Iff.rfl⟩
  refine lpk_of I d.sz (by omega) ((hI _ _).2 ⟨d, p, [], Nat.le_refl _, Nat.le_refl _, rfl, by simp, rfl, by simp [upd_at], by simp [upd_at], rfl⟩) ?_
  rintro k ⟨e, h, base, rb⟩ hi
  obtain ⟨d', p', rest, hk, hd, hs, hh, hlr, e2, e3, hb⟩ := (hI _ _).1 hi
  simp only at hh e2 e3 hb
  subst hh hb
  rw [hs]
  cases p' with
  | nil =>
    have : d'.sub [] = true := subN_nil _ _
    rw [this]
    have hpe : pv [] = .sl [] .any := rfl
    rw [hpe]
    simp -implicitDefEqProofs [x18l10_w, x18_r, x18r5_w, x18r11_w, e2, e3]
    try simp [V.low, V.lows]
  | cons i p' =>
    have hpe : pv (i :: p') = .sl (I64 i :: p'.map I64) .any := rfl
    have hse := sub_eq d' i p'
    have hpos : (0 : Int) < (p'.length : Int) + 1 := by omega
    have c45' := c45 d'
    have hw18 := walk18 (i :: p') d'.parts
    generalize hP : i :: p' = P at *
    generalize hbs : d'.sub P = bs at *
    have hlen : (V.sl (I64 i :: p'.map I64) SI.any) = pv P := hpe.symm
    have hll : lenF (pv P) = fun h => some (.c (.int .i64 ((p'.length : Int) + 1)), h) := by rw [hpe]; funext h; simp [lenF]
    have hcn : ∀ h, lenF (pv P) h = some (.c (.int .i64 ((p'.length : Int) + 1)), h) := fun h => by rw [hll]
    simp -implicitDefEqProofs [x18l10_w, x18r5_w, x18r6_w, x18r7_w, e2, e3, D.rd, D.okc, D.cells_len, hcn, hpos, set_m, set_m1, c45']
    refine wpk_parts (σ := Option (D × List Int)) (d := d') (n := n + 1) (c := rest.length + 3) (N := rest.length + 4) (F := F18 d' P rest) (P := fun s => s = none) (W := fun _ => True) (Z := Z18 P) (s0 := none) ?_ ?_ ?_ (by decide) (rnd18 ?_ ?_ ?_ ?_ ?_) ?_ ?_ rfl ?_
    · simp [upd_at]
    · omega
    · omega
    · omega
    · simp [upd_at, e2]
    · simp [upd_at, e3]
    · simp [upd_at]
    · exact olow_mono (by omega) hlr
    · simp [F18]
    · rintro s rfl
      simp [F18, get_m1]
    · rintro s1 - m1 hw
      rw [hw18] at hw
      cases hf : fstP P d'.parts with
      | none =>
        rw [hf] at hw hse
        simp only [Prod.mk.injEq] at hw
        obtain ⟨rfl, rfl⟩ := hw
        refine ⟨.normal, rfl, ?_⟩
        subst hse
        simp only [F18, List.cons_append, List.append_assoc, List.nil_append]
        simp -implicitDefEqProofs [x18_r, x18r8_w, x18r9_w, get_m]
        try simp [V.low, V.lows]
      | some r =>
        obtain ⟨q, x⟩ := r
        rw [hf] at hw hse
        simp only [Prod.mk.injEq] at hw hse
        obtain ⟨rfl, rfl⟩ := hw
        refine ⟨.exit 2, rfl, ?_⟩
        have hpm := parts_mem (fstP_mem hf).1
        simp only [F18, List.cons_append, List.append_assoc, List.nil_append]
        simp -implicitDefEqProofs [x18r8_w, x18r9_w, get_m]
        refine ⟨x.sz, by omega, (hI _ _).2 ⟨x, P.drop q.length, rest ++ [.cells [.c (.bool true)], .cells d'.v.cells, .loop 2], Nat.le_refl _, by omega, by rw [hs, hse], by simp, ?_, by simp [upd_at, e2], by simp [upd_at, e3], rfl⟩⟩
        simp only [List.all_append, Bool.and_eq_true, List.all_cons, olow_cells, D.low_cells, List.all_nil]
        exact ⟨olow_mono (by simp) hlr, rfl, trivial, rfl, trivial⟩
end Go.Proofs.YtkiliokeanmagaaDoor.Ab

namespace Go.Proofs.YtkiliokeanmagaaDoor.Ab
open Go
set_option linter.unusedVariables false
set_option linter.unusedSimpArgs false
set_option maxRecDepth 8000
set_option maxHeartbeats 2000000
def o0 (out : List (List Int)) : O := if out.isEmpty then .free else .tok out.length 1
end Go.Proofs.YtkiliokeanmagaaDoor.Ab

namespace Go.Proofs.YtkiliokeanmagaaDoor.Ab
open Go
set_option linter.unusedVariables false
set_option linter.unusedSimpArgs false
set_option maxRecDepth 8000
set_option maxHeartbeats 2000000
theorem alive_g {n : Nat} (hn : 60 ≤ n) : ∀ h, call X E n 14 [] h = some (.c (.bool true), h) := gives_nil rfl (alive_up hn)
end Go.Proofs.YtkiliokeanmagaaDoor.Ab

namespace Go.Proofs.YtkiliokeanmagaaDoor.Ab
open Go
set_option linter.unusedVariables false
set_option linter.unusedSimpArgs false
set_option maxRecDepth 8000
set_option maxHeartbeats 4000000
theorem gvk_full {cf : CallF} {n : Nat} {K : List Fr} {Q : Ex → SF → Prop} {s : SF} {ws : List V} {al b : Nat} {zz : Option Nat} {h : List O} {d : Option Nat} {r : List XOper} (hd : h[al]? = some .dead)
    (hq : ∀ si' h', h'.length = h.length → Keeps h h' → opsk cf n r K Q ⟨updO s.e d (.sl ws si'), h', s.base, s.rb⟩) : gvk cf n (grow 0 al b zz false h [] .full ws) d r K Q s := by
  cases ws with
  | nil => rw [grow_none, gvk_some]; exact hq _ _ rfl (.rfl' h)
  | cons w ws =>
    rw [grow_full 0 al b zz h [] ws w hd, gvk_some]
    exact hq _ _ (by simp) (.set _ fun cs e => by rw [hd] at e; cases e)
theorem short_ex (p : List Int) : ∃ (q : List Int) (M : Nat), q = p.take M ∧ q.length ≤ 500 ∧ M ≤ p.length ∧ (if (500 : Int) < p.length then (500 : Int) else p.length) = (M : Int) := by
  refine ⟨p.take (min p.length 500), min p.length 500, rfl, ?_, ?_, ?_⟩
  · simp; omega
  · omega
  · split <;> omega
end Go.Proofs.YtkiliokeanmagaaDoor.Ab

namespace Go.Proofs.YtkiliokeanmagaaDoor.Ab
open Go
set_option linter.unusedVariables false
set_option linter.unusedSimpArgs false
set_option maxRecDepth 8000
set_option maxHeartbeats 4000000
theorem firstW_congr {g g' : D → Option (List Int)} : ∀ L : List (List Int × D), (∀ p x, (p, x) ∈ L → g x = g' x) → firstW g L = firstW g' L
  | [], _ => rfl
  | (p, x) :: L, h => by simp only [firstW]; rw [h p x (by simp), firstW_congr L fun p x hx => h p x (by simp [hx])]
theorem wrongN_eq : ∀ (f f' : Nat) (d : D), d.sz ≤ f → d.sz ≤ f' → wrongN f d = wrongN f' d
  | 0, _, d, h, _ => by have := D.sz_pos d; omega
  | _, 0, d, _, h => by have := D.sz_pos d; omega
  | f + 1, f' + 1, d, h, h' => by
    simp only [wrongN]
    rw [firstW_congr d.parts fun p x hx => wrongN_eq f f' x (by have := parts_mem hx; omega) (by have := parts_mem hx; omega)]
theorem firstW_none {g : D → Option (List Int)} : ∀ L : List (List Int × D), firstW g L = none ↔ ∀ p x, (p, x) ∈ L → g x = none
  | [] => by simp [firstW]
  | (p, x) :: L => by
    simp only [firstW]
    cases h : g x with
    | none =>
      simp only
      rw [firstW_none L]
      constructor
      · intro hL q y hq
        rcases List.mem_cons.1 hq with e | e
        · simp only [Prod.mk.injEq] at e
          rw [e.2]; exact h
        · exact hL q y e
      · exact fun hL q y hq => hL q y (by simp [hq])
    | some r =>
      constructor
      · intro h2; cases h2
      · intro hL
        have := hL p x (by simp)
        rw [h] at this
        cases this
def D.good (d : D) : Prop := wrongN d.sz d = none
theorem good_eq (d : D) : d.good ↔ d.form ≠ 0 ∧ ∀ p x, (p, x) ∈ d.parts → x.good := by
  unfold D.good
  rw [wrongN_eq d.sz (d.sz + 1) d (Nat.le_refl _) (by omega)]
  simp only [wrongN]
  by_cases h0 : d.form = 0
  · simp [h0]
  · rw [if_neg h0, firstW_none]
    constructor
    · exact fun h => ⟨h0, fun p x hx => by rw [wrongN_eq x.sz d.sz x (Nat.le_refl _) (by have := parts_mem hx; omega)]; exact h p x hx⟩
    · exact fun h p x hx => by rw [wrongN_eq d.sz x.sz x (by have := parts_mem hx; omega) (Nat.le_refl _)]; exact h.2 p x hx
theorem err_zero (d : D) : d.err = 0 ↔ d.ck = 0 ∧ d.good := by
  unfold D.err D.good
  by_cases hc : d.ck = 0
  · rw [if_neg (by simp [hc])]
    cases wrongN d.sz d <;> simp [hc]
  · rw [if_pos hc]
    simp [hc]
theorem rp_beg {d : D} {p q : List Int} (hp : p ∈ d.rp) (hq : q ∈ d.rp) (hb : begs p q = true) : p.length = q.length := by
  have h1 : ∀ n, ∀ r ∈ rng1 n, r.length = 1 := fun n r hr => by
    obtain ⟨i, _, rfl⟩ := List.mem_map.1 hr
    rfl
  unfold D.rp at hp hq
  split at hp
  · rename_i h; rw [if_pos h] at hq; simp at hp hq; rcases hp with rfl | rfl | rfl <;> rcases hq with rfl | rfl | rfl <;> rfl
  rename_i h4; rw [if_neg h4] at hq
  split at hp
  · rename_i h; rw [if_pos h] at hq; simp at hp hq; rw [hp, hq]
  rename_i h5; rw [if_neg h5] at hq
  split at hp
  · rename_i h; rw [if_pos h] at hq; simp at hp hq; rcases hp with rfl | rfl <;> rcases hq with rfl | rfl <;> rfl
  rename_i h6; rw [if_neg h6] at hq
  split at hp
  · rename_i h; rw [if_pos h] at hq; simp at hp hq; rcases hp with rfl | rfl <;> rcases hq with rfl | rfl <;> rfl
  rename_i h8; rw [if_neg h8] at hq
  split at hp
  · rename_i h; rw [if_pos h] at hq
    rcases List.mem_append.1 hp with hp | hp <;> rcases List.mem_append.1 hq with hq | hq
    · obtain ⟨i, _, rfl⟩ := List.mem_map.1 hp
      obtain ⟨j, _, rfl⟩ := List.mem_map.1 hq
      rfl
    · obtain ⟨i, _, rfl⟩ := List.mem_map.1 hp
      simp at hq
      subst hq
      simp [begs] at hb
    · obtain ⟨i, _, rfl⟩ := List.mem_map.1 hq
      simp at hp
      subst hp
      simp [begs] at hb
    · simp at hp hq; rw [hp, hq]
  rename_i h7; rw [if_neg h7] at hq
  split at hp
  · rename_i h; rw [if_pos h] at hq; rw [h1 _ _ hp, h1 _ _ hq]
  · simp at hp
end Go.Proofs.YtkiliokeanmagaaDoor.Ab

namespace Go.Proofs.YtkiliokeanmagaaDoor.Ab
open Go
set_option linter.unusedVariables false
set_option linter.unusedSimpArgs false
set_option maxRecDepth 8000
set_option maxHeartbeats 4000000
def D.own (d : D) : List ByteArray := if d.form = 5 ∨ d.form = 9 then txs (d.kid 1).kids else if d.form = 6 then [(d.kid 1).tx] else if d.form = 7 then txs ((d.kid 1).kids.map fun y => y.kid 0) else []
theorem form_cases7 {d : D} (h : d.form = 7) : ∃ a b c, d.kids = [a, b, c] ∧ d.kid 1 = b ∧ ∀ y ∈ b.kids, ∃ p q r, y.kids = [p, q, r] ∧ y.kid 0 = p := by
  obtain ⟨a, b, c, habc⟩ := list3 (form_7 h)
  have hg := form_grp h
  have hb : d.kid 1 = b := by rw [D.kid, habc]; rfl
  rw [hb] at hg
  refine ⟨a, b, c, habc, hb, fun y hy => ?_⟩
  simp only [grp, Bool.and_eq_true, List.all_eq_true] at hg
  have := hg.2.2.2.1 y hy
  simp only [defB, Bool.and_eq_true] at this
  obtain ⟨p, q, r, hpqr⟩ := list3 (by simpa using this.2.1)
  exact ⟨p, q, r, hpqr, by rw [D.kid, hpqr]; rfl⟩
end Go.Proofs.YtkiliokeanmagaaDoor.Ab

namespace Go.Proofs.YtkiliokeanmagaaDoor.Ab
open Go
set_option linter.unusedVariables false
set_option linter.unusedSimpArgs false
set_option maxRecDepth 8000
set_option maxHeartbeats 2000000
theorem D.at_app : ∀ (q r : List Int) (a x : D), D.at q a = some x → D.at (q ++ r) a = D.at r x
  | [], r, a, x, h => by simp only [D.at, Option.some.injEq] at h; subst h; rfl
  | i :: q, r, .mk k n t l, x, h => by
    obtain ⟨hj, h0, h1⟩ := D.at_ex h
    rw [List.cons_append, D.at_mk h0 hj]
    exact D.at_app q r _ x h1
theorem D.put_app (y : D) : ∀ (q r : List Int) (a x : D), D.at q a = some x → D.put (q ++ r) a y = D.put q a (D.put r x y)
  | [], r, a, x, h => by simp only [D.at, Option.some.injEq] at h; subst h; rfl
  | i :: q, r, .mk k n t l, x, h => by
    obtain ⟨hj, h0, h1⟩ := D.at_ex h
    rw [List.cons_append, D.put_mk hj, D.put_mk hj, D.put_app y q r _ x h1]
theorem getD_set_ne {l : List D} {j : Nat} (x : D) (h : j ≠ 1) : (l.set j x).getD 1 .z0 = l.getD 1 .z0 := by
  rw [List.getD_eq_getElem?_getD, List.getD_eq_getElem?_getD, List.getElem?_set_ne h]
theorem okF_congr {f : Int} {l l' : List D} (hl : l'.length = l.length) (h1 : l'.getD 1 .z0 = l.getD 1 .z0 ∨ f = 0 ∨ f = 3 ∨ f = 4 ∨ f = 8) : okF f l' = okF f l := by
  rcases h1 with h | h | h | h | h
  · unfold okF; rw [hl, h]
  all_goals subst h; simp [okF, hl]
theorem form0_set {l : List D} {j : Nat} (x : D) (h : j ≠ 0) : form0 (l.set j x) = form0 l := by
  cases l with
  | nil => rfl
  | cons a r =>
    cases j with
    | zero => exact absurd rfl h
    | succ j => rfl
theorem form_of_list {k i : Int} {t : ByteArray} {l l' : List D} (hk1 : k ≠ 1) (hk2 : k ≠ 2) (hl : l'.length = l.length) (h0 : form0 l' = form0 l) (hok : okF (form0 l) l' = okF (form0 l) l) : (D.mk k i t l').form = (D.mk k i t l).form := by
  have he : l'.isEmpty = l.isEmpty := by
    cases l <;> cases l' <;> simp at hl ⊢
  simp only [D.form, hk1, hk2, if_false, h0, hok, he]
theorem good_kd {x : D} (h : x.good) (hk : x.kd = 2) : wf x.tx = 0 := by
  have h1 := ((good_eq x).1 h).1
  obtain ⟨k, i, t, l⟩ := x
  simp only [D.kd] at hk
  subst hk
  simp only [D.form] at h1
  simp only [D.tx]
  rcases wf_cases t with hw | hw | hw | hw | hw | hw | hw | hw <;> first | exact hw | (rw [hw] at h1; simp at h1)
theorem rp_cases {d : D} {q : List Int} (h : q ∈ d.rp) :
    ((d.form = 4 ∨ d.form = 5 ∨ d.form = 9 ∨ d.form = 6 ∨ d.form = 8 ∨ d.form = 7) ∧ ∃ j : Nat, q = [(j : Int)] ∧ (2 ≤ j ∨ (j = 1 ∧ (d.form = 4 ∨ d.form = 8)))) ∨ (d.form = 10 ∧ ∃ j : Nat, q = [(j : Int)]) ∨ (d.form = 7 ∧ ∃ j : Nat, q = [1, (j : Int), 2] ∧ j < (d.kid 1).kids.length) := by
  unfold D.rp at h
  split at h
  · rename_i hf
    simp at h
    refine .inl ⟨by simp [hf], ?_⟩
    rcases h with rfl | rfl | rfl
    · exact ⟨1, rfl, .inr ⟨rfl, .inl hf⟩⟩
    · exact ⟨2, rfl, .inl (by omega)⟩
    · exact ⟨3, rfl, .inl (by omega)⟩
  split at h
  · rename_i hf
    simp at h
    exact .inl ⟨by rcases hf with hf | hf <;> simp [hf], 2, by rw [h]; rfl, .inl (by omega)⟩
  split at h
  · rename_i hf
    simp at h
    refine .inl ⟨by simp [hf], ?_⟩
    rcases h with rfl | rfl
    · exact ⟨2, rfl, .inl (by omega)⟩
    · exact ⟨3, rfl, .inl (by omega)⟩
  split at h
  · rename_i hf
    simp at h
    refine .inl ⟨by simp [hf], ?_⟩
    rcases h with rfl | rfl
    · exact ⟨1, rfl, .inr ⟨rfl, .inr hf⟩⟩
    · exact ⟨2, rfl, .inl (by omega)⟩
  split at h
  · rename_i hf
    rcases List.mem_append.1 h with h | h
    · obtain ⟨j, hj, rfl⟩ := List.mem_map.1 h
      exact .inr (.inr ⟨hf, j, rfl, by simpa using hj⟩)
    · simp at h
      exact .inl ⟨by simp [hf], 2, by rw [h]; rfl, .inl (by omega)⟩
  split at h
  · rename_i hf
    obtain ⟨j, hj, rfl⟩ := List.mem_map.1 h
    exact .inr (.inl ⟨hf, j, rfl⟩)
  · simp at h
theorem rp_congr {d d' : D} (hf : d'.form = d.form) (h1 : d'.kids.length = d.kids.length) (h2 : (d'.kid 1).kids.length = (d.kid 1).kids.length) : d'.rp = d.rp := by
  unfold D.rp
  rw [hf, h1, h2]
theorem form_of0 {d : D} (h : d.form = 10) : form0 d.kids = 0 := by
  obtain ⟨_, _, _, h4⟩ := form_nz h (by omega)
  split at h4
  · assumption
  · rcases form0_cases d.kids with e | e | e | e | e | e | e | e <;> omega
theorem form0_of {d : D} {f : Int} (h : d.form = f) (hf : f ≠ 0 ∧ f ≠ 1 ∧ f ≠ 2 ∧ f ≠ 10) : form0 d.kids = f := by
  obtain ⟨_, _, _, h4⟩ := form_nz h ⟨hf.1, hf.2.1, hf.2.2.1⟩
  split at h4
  · omega
  · exact h4.symm
theorem defB_set {y x : D} : y.kids.length = 3 → defB (match y with | .mk k n t l => .mk k n t (l.set 2 x)) = defB y ∧ (match y with | .mk k n t l => D.mk k n t (l.set 2 x)).kid 0 = y.kid 0 := by
  obtain ⟨k, n, t, l⟩ := y
  intro h
  simp only [D.kids] at h
  obtain ⟨a, b, c, rfl⟩ := list3 h
  exact ⟨rfl, rfl⟩
theorem put_part {d : D} (hg : d.good) {q : List Int} {x x' : D} (hq : (q, x) ∈ d.parts) (hx : x'.good) : (D.put q d x').form = d.form ∧ (D.put q d x').rp = d.rp := by
  have hqr : q ∈ d.rp := by rw [← D.parts_rp]; exact List.mem_map.2 ⟨_, hq, rfl⟩
  have hat := d.parts_at q x hq
  have hf := ((good_eq d).1 hg).1
  rcases rp_cases hqr with ⟨hform, j, rfl, hj⟩ | ⟨hform, j, rfl⟩ | ⟨hform, j, rfl, hj⟩
  · obtain ⟨k, i, t, l⟩ := d
    obtain ⟨hjl, _, _⟩ := D.at_ex hat
    have hjl' : j < l.length := by simpa using hjl
    rw [D.put_mk hjl]
    simp only [D.put, Int.toNat_natCast]
    have hkd : k ≠ 1 ∧ k ≠ 2 := by
      rcases hform with h | h | h | h | h | h <;> (obtain ⟨h1, h2, _, _⟩ := form_nz h (by omega); exact ⟨h1, h2⟩)
    have h0 : form0 (l.set j x') = form0 l := form0_set x' (by omega)
    have hok : okF (form0 l) (l.set j x') = okF (form0 l) l := by
      refine okF_congr (by simp) ?_
      rcases hj with hj | ⟨_, hj⟩
      · exact .inl (getD_set_ne x' (by omega))
      · rcases hj with h | h
        · have := form0_of h (by omega); simp only [D.kids] at this; exact .inr (.inr (.inr (.inl this)))
        · have := form0_of h (by omega); simp only [D.kids] at this; exact .inr (.inr (.inr (.inr this)))
    have hfm := form_of_list (k := k) (i := i) (t := t) hkd.1 hkd.2 (l' := l.set j x') (by simp) h0 hok
    refine ⟨hfm, ?_⟩
    rcases hj with hj | ⟨_, hj⟩
    · exact rp_congr hfm (by simp [D.kids]) (by simp only [D.kid, D.kids]; rw [getD_set_ne x' (by omega)])
    · unfold D.rp
      rw [hfm]
      rcases hj with h | h
      · simp [h]
      · simp [h]
  · obtain ⟨k, i, t, l⟩ := d
    obtain ⟨hjl, _, _⟩ := D.at_ex hat
    have hjl' : j < l.length := by simpa using hjl
    rw [D.put_mk hjl]
    simp only [D.put, Int.toNat_natCast]
    obtain ⟨hk1, hk2, _, _⟩ := form_nz hform (by omega)
    have hl0 := form_of0 hform
    simp only [D.kids] at hl0
    have h0 : form0 (l.set j x') = form0 l := by
      by_cases hj0 : j = 0
      · subst hj0
        rw [hl0]
        cases l with
        | nil => rfl
        | cons a r =>
          simp only [List.set_cons_zero, form0]
          split
          · exact good_kd hx (by assumption)
          · rfl
      · exact form0_set x' hj0
    have hok : okF (form0 l) (l.set j x') = okF (form0 l) l := okF_congr (by simp) (.inr (.inl hl0))
    have hfm := form_of_list (k := k) (i := i) (t := t) hk1 hk2 (l' := l.set j x') (by simp) h0 hok
    refine ⟨hfm, ?_⟩
    unfold D.rp
    rw [hfm]
    simp [hform, D.kids]
  · obtain ⟨a, b, c, habc, hb1, hdefs⟩ := form_cases7 hform
    have hg7 := form_grp hform
    rw [hb1] at hg7 hj
    obtain ⟨k, i, t, l⟩ := d
    simp only [D.kids] at habc
    subst habc
    obtain ⟨kb, ib, tb, lb⟩ := b
    have hkb : (D.mk kb ib tb lb).kids = lb := rfl
    rw [hkb] at hj hdefs
    obtain ⟨p, q2, r, hpqr, hp0⟩ := hdefs lb[j] (List.getElem_mem hj)
    have hput : D.put [1, (j : Int), 2] (.mk k i t [a, .mk kb ib tb lb, c]) x' = .mk k i t [a, .mk kb ib tb (lb.set j (match lb[j] with | .mk k n t l => .mk k n t (l.set 2 x'))), c] := by
      rw [D.put_mk (by simp)]
      have e1 : ([a, D.mk kb ib tb lb, c] : List D)[(1 : Int).toNat]'(by simp) = .mk kb ib tb lb := rfl
      rw [e1, D.put_mk (by simpa using hj)]
      have e2 : lb[((j : Nat) : Int).toNat]'(by simpa using hj) = lb[j] := by simp
      rw [e2]
      generalize lb[j] = y at *
      obtain ⟨ky, iy, ty, ly⟩ := y
      simp only [D.kids] at hpqr
      subst hpqr
      rw [D.put_mk (by simp)]
      rfl
    rw [hput]
    have hd3 : (lb[j]).kids.length = 3 := by rw [hpqr]; rfl
    obtain ⟨hdB, hd0⟩ := defB_set (x := x') hd3
    generalize (match lb[j] with | .mk k n t l => D.mk k n t (l.set 2 x')) = y' at *
    obtain ⟨hk1, hk2, hok7, hff⟩ := form_nz hform (by omega)
    have h07 := form0_of hform (by omega)
    simp only [D.kids] at h07 hok7
    have hgrp : grp (.mk kb ib tb (lb.set j y')) = true := by
      simp only [grp, Bool.and_eq_true, List.all_eq_true, D.kids, D.kd] at hg7 ⊢
      obtain ⟨g1, g2, g3, g4, g5, g6⟩ := hg7
      refine ⟨g1, ?_, by simpa using of_decide_eq_true g3, fun z hz => ?_, by simpa using of_decide_eq_true g5, ?_⟩
      · cases lb with
        | nil => simp at hj
        | cons u v => cases j <;> rfl
      · rcases List.mem_or_eq_of_mem_set hz with hz | rfl
        · exact g4 z hz
        · rw [hdB]; exact g4 _ (List.getElem_mem hj)
      · have : (lb.set j y').map (fun x => x.kid 0) = lb.map fun x => x.kid 0 := by
          rw [List.map_set, hd0]
          apply List.ext_getElem (by simp)
          intro n h1 h2
          rw [List.getElem_set]
          split
          · rename_i e; subst e; simp
          · rfl
        rw [this]
        exact g6
    have h0 : form0 [a, D.mk kb ib tb (lb.set j y'), c] = form0 [a, D.mk kb ib tb lb, c] := rfl
    have hok : okF (form0 [a, D.mk kb ib tb lb, c]) [a, D.mk kb ib tb (lb.set j y'), c] = okF (form0 [a, D.mk kb ib tb lb, c]) [a, D.mk kb ib tb lb, c] := by
      rw [hok7, h07]
      simp [okF, hgrp]
    have hfm := form_of_list (k := k) (i := i) (t := t) hk1 hk2 (l := [a, D.mk kb ib tb lb, c]) (l' := [a, D.mk kb ib tb (lb.set j y'), c]) rfl h0 hok
    exact ⟨hfm, rp_congr hfm rfl (by simp [D.kid, D.kids])⟩
theorem begs_eq : ∀ {p q : List Int}, begs p q = true → p.length = q.length → p = q
  | [], [], _, _ => rfl
  | [], b :: q, h, _ => by simp [begs] at h
  | a :: p, [], _, h => by simp at h
  | a :: p, b :: q, h, hl => by
    simp only [begs, Bool.and_eq_true, beq_iff_eq] at h
    rw [h.1, begs_eq h.2 (by simpa using hl)]
theorem good_part {d : D} (hg : d.good) {q : List Int} {x x' : D} (hq : (q, x) ∈ d.parts) (hx : x'.good) : (D.put q d x').good := by
  obtain ⟨hf, hr⟩ := put_part hg hq hx
  have hat := d.parts_at q x hq
  have hqr : q ∈ d.rp := by rw [← D.parts_rp]; exact List.mem_map.2 ⟨_, hq, rfl⟩
  rw [good_eq] at hg ⊢
  refine ⟨by rw [hf]; exact hg.1, fun p y hp => ?_⟩
  have hpr : p ∈ d.rp := by rw [← hr, ← D.parts_rp]; exact List.mem_map.2 ⟨_, hp, rfl⟩
  have hy := D.parts_at _ p y hp
  by_cases hpq : p = q
  · subst hpq
    rw [D.at_put x' p d x hat] at hy
    simp only [Option.some.injEq] at hy
    rw [← hy]; exact hx
  · have h1 : begs p q = false := by
      cases h : begs p q with
      | false => rfl
      | true => exact absurd (begs_eq h (rp_beg hpr hqr h)) hpq
    have h2 : begs q p = false := by
      cases h : begs q p with
      | false => rfl
      | true => exact absurd (begs_eq h (rp_beg hqr hpr h)).symm hpq
    rw [D.at_put_other x' q p d x h2 h1 hat] at hy
    rw [← D.parts_rp] at hpr
    obtain ⟨⟨p2, y2⟩, h3, rfl⟩ := List.mem_map.1 hpr
    have h4 := d.parts_at _ _ h3
    rw [h4] at hy
    simp only [Option.some.injEq] at hy
    rw [← hy]
    exact hg.2 _ _ h3
theorem begs_split {p q : List Int} (h : begs p q = true) : p = q ++ p.drop q.length := by
  have := begs_take p q
  rw [h] at this
  simp only [Bool.true_eq, Bool.and_eq_true, decide_eq_true_eq] at this
  conv => lhs; rw [← List.take_append_drop q.length p, ← this.2]
theorem sub_put {y : D} (hy : y.good) : ∀ (f : Nat) (d : D) (p : List Int), d.sz ≤ f → d.good → d.sub p = true → (∃ u, D.at p d = some u) ∧ (D.put p d y).good
  | 0, d, _, h, _, _ => by have := D.sz_pos d; omega
  | f + 1, d, [], h, hg, hs => ⟨⟨d, rfl⟩, hy⟩
  | f + 1, d, i :: p, h, hg, hs => by
    rw [sub_eq] at hs
    cases hf : fstP (i :: p) d.parts with
    | none => rw [hf] at hs; simp at hs
    | some r =>
      obtain ⟨q, x⟩ := r
      rw [hf] at hs
      simp only at hs
      obtain ⟨h1, h2⟩ := fstP_mem hf
      have h3 := parts_mem h1
      have hat := d.parts_at q x h1
      have hxg := ((good_eq d).1 hg).2 q x h1
      obtain ⟨⟨u, hu⟩, hg2⟩ := sub_put hy f x _ (by omega) hxg hs
      rw [begs_split h2]
      exact ⟨⟨u, by rw [D.at_app q _ d x hat]; exact hu⟩, by rw [D.put_app y q _ d x hat]; exact good_part hg h1 hg2⟩
end Go.Proofs.YtkiliokeanmagaaDoor.Ab

namespace Go.Proofs.YtkiliokeanmagaaDoor.Ab
open Go
set_option linter.unusedVariables false
set_option linter.unusedSimpArgs false
set_option maxRecDepth 8000
set_option maxHeartbeats 4000000
theorem law5 (d : D) (p : List Int) (x : D) : call X E 40000 5 [d.v, pv p, x.v] [] = some (.c (.bool true), []) := by
  have hs := D.cut_small d 2000 1020 (by omega)
  have hsx := D.cut_small x 2000 1020 (by omega)
  have c1 : ∀ h, call X E 39999 17 [d.v, .c (.int .i64 2000), .c (.int .i64 1020)] h = some ((d.cut 2000 1020).1.v, h) := run38 d 2000 1020 39998 (by omega) (by omega) (by omega) (by omega) (by omega)
  have c2 : ∀ h, call X E 39999 17 [x.v, .c (.int .i64 2000), .c (.int .i64 1020)] h = some ((x.cut 2000 1020).1.v, h) := run38 x 2000 1020 39998 (by omega) (by omega) (by omega) (by omega) (by omega)
  generalize (d.cut 2000 1020).1 = a at *
  generalize (x.cut 2000 1020).1 = y at *
  obtain ⟨q, M, hq, hq5, hM, hmin⟩ := short_ex p
  have e10 : ∀ z : D, z.sz ≤ 4000 → ∃ P, okc P = true ∧ ∀ h, call X E 39999 10 [z.v] h = some (.tup [P, .c (.int .i64 z.err)], h) := fun z hz => by
    obtain ⟨cp, hcp⟩ := chk_err z
    refine ⟨pv cp, rfl, ?_⟩
    rw [← hcp]
    exact go10 z (by omega) (by omega)
  obtain ⟨Pa, hPa, e10a⟩ := e10 a (by omega)
  obtain ⟨Py, hPy, e10y⟩ := e10 y (by omega)
  have e18 : ∀ si h, call X E 39999 18 [a.v, .sl (q.map I64) si] h = some (.tup [.c (.bool (decide (a.err = 0) && a.sub q)), .c (.int .i64 a.err)], h) := fun si => go18 a q si (by omega) (by omega) (by omega)
  have e14 : ∀ h, call X E 39999 14 [] h = some (.c (.bool true), h) := alive_g (by omega)
  have hll : ∀ h, lenF (pv p) h = some (.c (.int .i64 p.length), h) := fun h => by simp [pv, lenF]
  have hsl : ∀ h, slF (pv p) 1 (fun _ => some (M : Int)) (some 0) h = some (pv q, h) := fun h => by
    rw [pv, slF_sl, cutL_s]
    have : (p.map I64).length = p.length := List.length_map _
    rw [this, if_pos ⟨by omega, by omega, by omega, hz_I64 p⟩]
    simp [pv, hq, List.map_take]
  have hsrc : ∀ h, srcV h (pv q) = some (q.map I64) := fun h => rfl
  have hQl : (q.map I64).length = q.length := List.length_map _
  have hb1 : q.length * 8 ≤ 140737488355328 := by omega
  have hb2 : q.length ≤ 140737488355328 := by omega
  have hzq := hz_I64 q
  have hpv : (pv p).vw2 = pv p := rfl
  have hput : a.err = 0 → y.err = 0 → a.sub q = true → ∃ z : D, z.err = z.ck ∧ (∀ h, call X E 39999 19 [a.v, pv q, y.v] h = some (z.v, h)) ∧ (∃ P, okc P = true ∧ ∀ h, call X E 39999 10 [z.v] h = some (.tup [P, .c (.int .i64 z.err)], h)) ∧ ∀ h, call X E 39999 20 [z.v] h = some (.c (.int .i64 z.ck), h) := by
    intro h1 h2 h3
    have hga := ((err_zero a).1 h1).2
    have hgy := ((err_zero y).1 h2).2
    obtain ⟨⟨u, hu⟩, hg⟩ := sub_put hgy a.sz a q (Nat.le_refl _) hga h3
    have hsz := D.put_sz y q a u hu
    have husz := D.sz_pos u
    refine ⟨D.put q a y, ?_, run36 y (by omega) q a u hu (by omega) 39999 (by omega), e10 _ (by omega), run16 _ (by omega) 39999 (by omega)⟩
    unfold D.err
    by_cases hc : (D.put q a y).ck = 0
    · have hw : wrongN (D.put q a y).sz (D.put q a y) = none := hg
      rw [if_neg (by simp [hc]), hw, hc]
      rfl
    · rw [if_pos hc]
  suffices hg : Gives 40000 5 [d.v, pv p, x.v] (.c (.bool true)) from hg []
  refine gives_of (n := 39999) rfl rfl rfl (by kernel_rfl) ⟨rfl, rfl⟩ (by simp [D.vw2, hpv, vw2_c, V.lows, D.low, pv_low, V.low]) ?_
  generalize hPQ : pv q = PQ at *
  generalize hQ : q.map I64 = QL at *
  generalize hPP : pv p = PP at *
  generalize call X E 39999 = cf at *
  by_cases h0 : a.err = 0
  rotate_left
  · have hne : (a.err != 0) = true := by simp [h0]
    generalize a.err = er at *
    simp -implicitDefEqProofs [x5_w, x5_r, x5r1_w, x5r2_w, x5r3_w, x5r4_w, x5r5_w, x5r6_w, D.vw2, hpv, D.okc, D.rd, D.cells_len, D.spl, c1, c2, hll, hmin, hsl, e10a, e10y, hne, e14]
  by_cases h1 : y.err = 0
  rotate_left
  · have hne : (y.err != 0) = true := by simp [h1]
    rw [h0] at e10a
    generalize y.err = er at *
    simp -implicitDefEqProofs [x5_w, x5_r, x5r1_w, x5r2_w, x5r3_w, x5r4_w, x5r5_w, x5r6_w, D.vw2, hpv, D.okc, D.rd, D.cells_len, D.spl, c1, c2, hll, hmin, hsl, e10a, e10y, hne, e14]
  have hput' := hput h0 h1
  rw [h0] at e10a e18
  rw [h1] at e10y
  simp only [decide_true, Bool.true_and] at e18
  simp -implicitDefEqProofs [x5_w, x5r1_w, x5r2_w, x5r3_w, x5r4_w, x5r5_w, x5r7_w, D.vw2, hpv, D.okc, D.rd, D.cells_len, D.spl, c1, c2, hll, hmin, hsl, e10a, e10y, hsrc, hQl, hb1, hb2, hzq]
  refine gvk_full (by simp) fun si' h' hl' hk => ?_
  have hk2 : h'[2]? = some (.cells a.v.cells) := hk 2 _ (by simp)
  have hk3 : h'[3]? = some (.cells y.v.cells) := hk 3 _ (by simp)
  clear hk
  have app2 : ∀ T, (h' ++ T)[2]? = some (.cells a.v.cells) := fun T => by rw [List.getElem?_append_left (List.getElem?_eq_some_iff.1 hk2).1]; exact hk2
  have app3 : ∀ T, (h' ++ T)[3]? = some (.cells y.v.cells) := fun T => by rw [List.getElem?_append_left (List.getElem?_eq_some_iff.1 hk3).1]; exact hk3
  cases hsb : a.sub q with
  | false =>
    rw [hsb] at e18
    simp -implicitDefEqProofs [x5_r, x5r7_w, x5r8_w, x5r10_w, x5r11_w, e18, e14]
  | true =>
    rw [hsb] at e18
    obtain ⟨z, hz, e19, ⟨Pz, hPz, e10z⟩, e20⟩ := hput' hsb
    rw [hz] at e10z
    generalize z.ck = zc at *
    obtain ⟨o1, o2, o3, o4, rest, rfl⟩ : ∃ o1 o2 o3 o4 rest, h' = o1 :: o2 :: o3 :: o4 :: rest := by
      have hlen : 4 ≤ h'.length := by have := (List.getElem?_eq_some_iff.1 hk3).1; omega
      match h', hlen with
      | o1 :: o2 :: o3 :: o4 :: rest, _ => exact ⟨_, _, _, _, _, rfl⟩
    simp only [List.getElem?_cons_succ, List.getElem?_cons_zero, Option.some.injEq] at hk2 hk3
    subst hk2 hk3
    simp -implicitDefEqProofs [x5_r, x5r7_w, x5r8_w, x5r10_w, x5r12_w, x5r13_w, x5r14_w, e18, e14, e19, e10z, e20, D.rd, D.cells_len, D.okc, D.spl, get_m, set_m]
end Go.Proofs.YtkiliokeanmagaaDoor.Ab

namespace Go.Proofs.YtkiliokeanmagaaDoor.Ab
open Go Go.ChangeMaps Go.ChangeShapes Go.WideShapes Go.ChangeAt Go.RowKit
set_option linter.unusedVariables false
set_option linter.unusedSimpArgs false
set_option maxRecDepth 100000
section
variable {W : World} {g : Gh}
theorem addr_at {a : Addr} {n : Nat} (h : a.spot = none) : a.add n = ⟨a.block, a.off + n, none⟩ := by
  unfold Addr.add
  split
  · rename_i h0
    subst h0
    obtain ⟨b, o, s⟩ := a
    simp only at h
    subst h
    rfl
  · rfl
theorem cell_spot {a : Addr} {v : Value} (h : W.cell? a = some v) : a.spot = none ∧ a.block < W.heap.size := by
  unfold World.cell? at h
  split at h
  · rename_i c t m hb
    split at h
    · cases h
    · rename_i hs
      refine ⟨by simpa using hs, (Array.getElem?_eq_some_iff.1 hb).1⟩
  · cases h
def CellsOk (g : Gh) (W : World) (cs : List Value) (vs : List V) : Prop := cs.length = vs.length ∧ ∀ r (h1 : r < cs.length) (h2 : r < vs.length), Rep g W cs[r] vs[r] ∧ (cs[r]).oneCell' = true
theorem rep_slice {a : Addr} {len cap z : Nat} {us : List V} (hfz : ∀ b o, b < W.heap.size → g.fz b o) (hz : ∀ u ∈ us, u.cells.length = z) (hz0 : 0 < z) (hl : us.length = len) (hlc : len ≤ cap)
    (hc : ∀ i (hi : i < us.length), ∃ cs : List Value, W.cells? 0 (a.add (i * z)) z = some cs ∧ CellsOk g W cs (us[i]).cells) : Rep g W (.slice (some a) len cap) (.sl us .any) := by
  have hget : ∀ i (hi : i < us.length), ∃ cs : List Value, CellsOk g W cs (us[i]).cells ∧ ∀ r (h : r < cs.length), W.cell? ((a.add (i * z)).add r) = some cs[r] := by
    intro i hi
    obtain ⟨cs, h1, h2⟩ := hc i hi
    refine ⟨cs, h2, fun r hr => ?_⟩
    unfold World.cells? at h1
    split at h1
    · have hzl : r < z := by rw [← hz _ (List.getElem_mem hi), ← h2.1]; exact hr
      have := mapM_some_get h1 r r (by simp [hzl])
      rw [this, List.getElem?_eq_getElem hr]
    · cases h1
  have hsp : us ≠ [] → a.spot = none ∧ a.block < W.heap.size := by
    intro hne
    have hp : 0 < us.length := List.length_pos_iff.2 hne
    obtain ⟨cs, h2, h3⟩ := hget 0 hp
    have h4 := h3 0 (by rw [h2.1, hz _ (List.getElem_mem hp)]; exact hz0)
    have := cell_spot h4
    simpa [Addr.add] using this
  have hcell : ∀ i (hi : i < us.length) r (hr : r < (us[i]).cells.length), ∃ v, W.cell? ⟨a.block, a.off + (i * z + r), none⟩ = some v ∧ Rep g W v (us[i]).cells[r] ∧ v.oneCell' = true := by
    intro i hi r hr
    obtain ⟨hs, hb⟩ := hsp (by intro e; rw [e] at hi; simp at hi)
    obtain ⟨cs, h2, h3⟩ := hget i hi
    have hr' : r < cs.length := by rw [h2.1]; exact hr
    have h4 := h3 r hr'
    have e : (a.add (i * z)).add r = ⟨a.block, a.off + (i * z + r), none⟩ := by
      rw [addr_at hs, addr_at rfl]
      simp only [Nat.add_assoc]
    rw [e] at h4
    exact ⟨_, h4, h2.2 r hr' hr⟩
  have hidx : ∀ j, j < us.length * z → ∃ i r, ∃ (hi : i < us.length) (hr : r < (us[i]).cells.length), j = i * z + r := by
    intro j hj
    refine ⟨j / z, j % z, ?_, ?_, ?_⟩
    · exact (Nat.div_lt_iff_lt_mul hz0).2 hj
    · rw [hz _ (List.getElem_mem _)]; exact Nat.mod_lt _ hz0
    · rw [Nat.mul_comm]; exact (Nat.div_add_mod j z).symm
  refine .sl (some a) len cap us .any z (fun j => (W.cell? ⟨a.block, a.off + j, none⟩).getD undef) hl.symm hlc hz (fun hne => ?_) (fun j hj => ?_) trivial
  · obtain ⟨hs, hb⟩ := hsp hne
    refine ⟨a.block, a.off, ?_, fun j hj => ?_⟩
    · obtain ⟨b, o, s⟩ := a
      simp only at hs
      subst hs
      rfl
    · obtain ⟨i, r, hi, hr, rfl⟩ := hidx j hj
      obtain ⟨v, h1, _, h3⟩ := hcell i hi r hr
      refine ⟨hfz _ _ hb, ?_⟩
      simp only [h1, Option.getD_some, h3, and_self]
  · have hj' := hj
    rw [flats_length hz] at hj'
    obtain ⟨i, r, hi, hr, rfl⟩ := hidx j hj'
    obtain ⟨v, h1, h2, _⟩ := hcell i hi r hr
    have h5 := flats_at hz i hi r hr
    rw [List.getElem?_eq_getElem hj] at h5
    simp only [Option.some.injEq] at h5
    rw [h5]
    simp only [h1, Option.getD_some]
    exact h2
variable {H : Type} {enc : TypeId × Value → H} {sp : Nat → Bool} {held : Bool}
theorem cells24 : Tryd.prog.cellsOf 24 = 4 := by kernel_rfl
theorem cells22 : Tryd.prog.cellsOf 22 = 1 := by kernel_rfl
theorem cells3 : Tryd.prog.cellsOf 3 = 1 := by kernel_rfl
theorem cells2 : Tryd.prog.cellsOf 2 = 1 := by kernel_rfl
theorem cells9 : Tryd.prog.cellsOf 9 = 1 := by kernel_rfl
theorem open_cells (hfz : ∀ b o, b < W.heap.size → g.fz b o) : ∀ (fuel : Nat) (cs : List Value) (x : DataW H × List MemPlace), DataW.trod enc Tryd.prog W 0 sp held fuel 24 cs = some x → ∃ d : D, CellsOk g W cs d.v.cells := by
  intro fuel
  induction fuel using Nat.strongRecOn with
  | _ fuel ih =>
    intro cs x h
    obtain ⟨xs, n, rfl, rfl, hlen, hxl, hf⟩ := DataW.trod_struct Tryd.underlying24 h
    rw [cells24] at hlen
    obtain ⟨a0, a1, a2, a3, rfl⟩ : ∃ a0 a1 a2 a3, cs = [a0, a1, a2, a3] := by
      match cs, hlen with
      | [a0, a1, a2, a3], _ => exact ⟨_, _, _, _, rfl⟩
    have h0 : DataW.trod enc Tryd.prog W 0 sp held n 3 (([a0, a1, a2, a3].drop 0).take (Tryd.prog.cellsOf 3)) = xs[0]? := hf 0 _ rfl
    have h1 : DataW.trod enc Tryd.prog W 0 sp held n 2 (([a0, a1, a2, a3].drop 1).take (Tryd.prog.cellsOf 2)) = xs[1]? := hf 1 _ rfl
    have h2 : DataW.trod enc Tryd.prog W 0 sp held n 9 (([a0, a1, a2, a3].drop 2).take (Tryd.prog.cellsOf 9)) = xs[2]? := hf 2 _ rfl
    have h3 : DataW.trod enc Tryd.prog W 0 sp held n 22 (([a0, a1, a2, a3].drop 3).take (Tryd.prog.cellsOf 22)) = xs[3]? := hf 3 _ rfl
    simp only [cells3, cells2, cells9, cells22, List.drop_zero, List.drop_succ_cons, List.take_succ_cons, List.take_zero] at h0 h1 h2 h3
    have hxl : xs.length = 4 := hxl
    rw [List.getElem?_eq_getElem (by omega)] at h0 h1 h2 h3
    obtain ⟨k, e0, _⟩ := DataW.trod_int Tryd.underlying3 h0
    obtain ⟨m, e1, _⟩ := DataW.trod_int Tryd.underlying2 h1
    obtain ⟨t, e2, _⟩ := DataW.trod_string Tryd.underlying9 h2
    simp only [List.cons.injEq, and_true] at e0 e1 e2
    subst e0 e1 e2
    have key : ∃ l : List D, Rep g W a3 (.sl (D.vs l) .any) ∧ a3.oneCell' = true := by
      rcases DataW.trod_slice Tryd.underlying22 h3 with ⟨e3, _⟩ | ⟨a, len, cap, elems, rest, n', e4, e3, _, _, hlc, _, hel, hget, _⟩
      · simp only [List.cons.injEq, and_true] at e3
        subst e3
        exact ⟨[], .sl none 0 0 [] .any 4 (fun _ => undef) rfl (Nat.le_refl _) (by simp) (fun h => absurd rfl h) (fun j hj => by simp [flats] at hj) trivial, rfl⟩
      · simp only [List.cons.injEq, and_true] at e3
        subst e3 e4
        rw [cells24] at hget
        have hex : ∀ i, i < len → ∃ d : D, ∃ cs, W.cells? 0 (a.add (i * 4)) 4 = some cs ∧ CellsOk g W cs d.v.cells := by
          intro i hi
          have := hget i hi
          rw [List.getElem?_eq_getElem (by omega)] at this
          simp only [Option.bind_eq_some_iff] at this
          obtain ⟨cs, hc, ht⟩ := this
          obtain ⟨d, hd⟩ := ih n' (by omega) cs _ ht
          exact ⟨d, cs, hc, hd⟩
        have hl : ∀ m, m ≤ len → ∃ l : List D, l.length = m ∧ ∀ i (hi : i < l.length), ∃ cs, W.cells? 0 (a.add (i * 4)) 4 = some cs ∧ CellsOk g W cs (l[i]).v.cells := by
          intro m
          induction m with
          | zero => exact fun _ => ⟨[], rfl, fun i hi => by simp at hi⟩
          | succ m ihm =>
            intro hm
            obtain ⟨l, h1, h2⟩ := ihm (by omega)
            obtain ⟨d, hd⟩ := hex m (by omega)
            refine ⟨l ++ [d], by simp [h1], fun i hi => ?_⟩
            rcases Nat.lt_or_ge i l.length with h3 | h3
            · rw [List.getElem_append_left h3]; exact h2 i h3
            · have hi' : i = l.length := by simp at hi; omega
              subst hi'
              rw [List.getElem_append_right (Nat.le_refl _)]
              simp only [Nat.sub_self, List.getElem_cons_zero]
              rw [h1]; exact hd
        obtain ⟨l, h1, h2⟩ := hl len (Nat.le_refl _)
        refine ⟨l, rep_slice (z := 4) hfz (fun u hu => ?_) (by omega) (by rw [D.vs_len, h1]) hlc (fun i hi => ?_), rfl⟩
        · rw [D.vs_map] at hu
          obtain ⟨d, _, rfl⟩ := List.mem_map.1 hu
          exact D.cells_len d
        · rw [D.vs_getE]
          exact h2 i _
    obtain ⟨l, hr, ho⟩ := key
    refine ⟨.mk k m t l, rfl, fun r h1 h2 => ?_⟩
    simp only [List.length_cons, List.length_nil] at h1
    match r, h1 with
    | 0, _ => exact ⟨.c _, rfl⟩
    | 1, _ => exact ⟨.c _, rfl⟩
    | 2, _ => exact ⟨.c _, rfl⟩
    | 3, _ => exact ⟨hr, ho⟩
theorem open_datum {r : Reach} {b0 : Nat} {v : Value} {dd : DataW H} {ps : List MemPlace} (hfz : ∀ b o, b < W.heap.size → g.fz b o) (hval : Value.okWide Tryd.prog W r b0 24 v) (hd : DataW.Trod enc Tryd.prog W 0 sp held 24 v dd ps) : ∃ d : D, Rep g W v d.v := by
  obtain ⟨cs, rfl, hn⟩ := okWide_struct Tryd.underlying24 hval
  obtain ⟨fuel, hf⟩ := hd
  obtain ⟨d, h1, h2⟩ := open_cells hfz fuel _ _ hf
  refine ⟨d, ?_⟩
  obtain ⟨k, n, t, l⟩ := d
  simp only [Value.cells] at h1 h2
  have h1' : cs.size = 4 := by simpa [D.v, V.cells] using h1
  refine .agg cs _ (by simp [h1']) (fun i hi => ?_) (fun i hi hj => ?_)
  · have := h2 i (by simpa using hi) (by simp [D.v, V.cells]; omega)
    simpa using this.2
  · have := h2 i (by simpa using hi) (by simpa [D.v, V.cells] using hj)
    simpa [D.v, V.cells] using this.1
theorem open_pcell (hfz : ∀ b o, b < W.heap.size → g.fz b o) {fuel : Nat} {v : Value} {x : DataW H × List MemPlace} (h : DataW.trod enc Tryd.prog W 0 sp held fuel 26 [v] = some x) : ∃ p : List Int, Rep g W v (pv p) ∧ v.oneCell' = true := by
  rcases DataW.trod_slice Tryd.underlying26 h with ⟨e3, _⟩ | ⟨a, len, cap, elems, rest, n', e4, e3, _, _, hlc, _, hel, hget, _⟩
  · simp only [List.cons.injEq, and_true] at e3
    subst e3
    exact ⟨[], .sl none 0 0 [] .any 1 (fun _ => undef) rfl (Nat.le_refl _) (by simp) (fun h => absurd rfl h) (fun j hj => by simp [flats] at hj) trivial, rfl⟩
  · simp only [List.cons.injEq, and_true] at e3
    subst e3 e4
    rw [cells3] at hget
    have hex : ∀ i, i < len → ∃ d : Int, ∃ cs, W.cells? 0 (a.add (i * 1)) 1 = some cs ∧ CellsOk g W cs [I64 d] := by
      intro i hi
      have := hget i hi
      rw [List.getElem?_eq_getElem (by omega)] at this
      simp only [Option.bind_eq_some_iff] at this
      obtain ⟨cs, hc, ht⟩ := this
      obtain ⟨d, hd, _⟩ := DataW.trod_int Tryd.underlying3 ht
      subst hd
      refine ⟨d, _, hc, rfl, fun r h1 h2 => ?_⟩
      simp only [List.length_cons, List.length_nil] at h1
      obtain rfl : r = 0 := by omega
      exact ⟨.c _, rfl⟩
    have hl : ∀ m, m ≤ len → ∃ l : List Int, l.length = m ∧ ∀ i (hi : i < l.length), ∃ cs, W.cells? 0 (a.add (i * 1)) 1 = some cs ∧ CellsOk g W cs [I64 l[i]] := by
      intro m
      induction m with
      | zero => exact fun _ => ⟨[], rfl, fun i hi => by simp at hi⟩
      | succ m ihm =>
        intro hm
        obtain ⟨l, h1, h2⟩ := ihm (by omega)
        obtain ⟨d, hd⟩ := hex m (by omega)
        refine ⟨l ++ [d], by simp [h1], fun i hi => ?_⟩
        rcases Nat.lt_or_ge i l.length with h3 | h3
        · rw [List.getElem_append_left h3]; exact h2 i h3
        · have hi' : i = l.length := by simp at hi; omega
          subst hi'
          rw [List.getElem_append_right (Nat.le_refl _)]
          simp only [Nat.sub_self, List.getElem_cons_zero]
          rw [h1]; exact hd
    obtain ⟨l, h1, h2⟩ := hl len (Nat.le_refl _)
    refine ⟨l, rep_slice (z := 1) hfz (fun u hu => ?_) (by omega) (by rw [List.length_map, h1]) hlc (fun i hi => ?_), rfl⟩
    · obtain ⟨d, _, rfl⟩ := List.mem_map.1 hu
      rfl
    · rw [List.getElem_map]
      exact h2 i (by simpa using hi)
theorem open_path {r : Reach} {b0 : Nat} {v : Value} {dd : DataW H} {ps : List MemPlace} (hfz : ∀ b o, b < W.heap.size → g.fz b o) (hval : Value.okWide Tryd.prog W r b0 26 v) (hd : DataW.Trod enc Tryd.prog W 0 sp held 26 v dd ps) : ∃ p : List Int, Rep g W v (pv p) := by
  obtain ⟨a, len, cap, rfl⟩ := okWide_slice Tryd.underlying26 hval
  obtain ⟨fuel, hf⟩ := hd
  obtain ⟨p, h1, _⟩ := open_pcell hfz hf
  exact ⟨p, h1⟩
end
end Go.Proofs.YtkiliokeanmagaaDoor.Ab

namespace Go.Proofs.YtkiliokeanmagaaDoor.Ab
open Go Go.ChangeMaps Go.ChangeShapes Go.WideShapes Go.ChangeAt Go.RowKit
set_option linter.unusedVariables false
set_option linter.unusedSimpArgs false
set_option maxRecDepth 100000
end Go.Proofs.YtkiliokeanmagaaDoor.Ab

namespace Go.Proofs.YtkiliokeanmagaaDoor
open Go Go.ChangeMaps Go.ChangeShapes Go.WideShapes Go.ChangeAt Go.RowKit
set_option linter.unusedVariables false
set_option linter.unusedSimpArgs false
theorem own : ownKnob Tryd.prog.godebug = none := by kernel_rfl
theorem laidOut : laidOutB Tryd.prog = true := by kernel_rfl
theorem gWords : Tryd.prog.globalNamed "pagoda/syntax.words" = some 0 := by kernel_rfl
theorem tWords : ∃ T k, (Tryd.prog.globals[0]?).map (·.type) = some T ∧ Tryd.prog.underlying T = some (.map 9 k) ∧ Tryd.prog.underlying k = some (.int .i64) :=
  ⟨((Tryd.prog.globals[0]?).map (·.type)).getD 0, 3, by kernel_rfl, by kernel_rfl, by kernel_rfl⟩
theorem lawW : WideMaps.KeyLaw Tryd.prog 9 := WideMaps.string_law Tryd.underlying9
def laidL : List (String × DataW Unit) := [("pagoda/syntax.words", Rows.laid_pagoda_syntax_words)]
theorem door_met (os : Os) (args : Array Value) : laidMetH Tryd.prog laidL ((World.doorLaid Tryd.prog 400 os).forCall (fun _ _ => 0) ⟨#[], args, []⟩).memory :=
  laidMetH_of_parts3 (fuel := 8) (laidMet_of_run' 8 (by kernel_rfl) (by kernel_rfl)) (by kernel_rfl) (by kernel_rfl)
def wl : List (List UInt8 × Int) := [([102, 110], 5), ([105, 102], 4), ([108, 101, 116], 6), ([113, 117, 111, 116, 101], 3), ([114, 101, 99], 7), ([115, 101, 113], 8), ([117, 112], 9)]
theorem laid_wl : Rows.laid_pagoda_syntax_words (H := Unit) = .map (wl.map fun p => (.string p.1, .lit (.int .i64 p.2))) := rfl
theorem mem_fold {H : Type} {y : Lit × DataW H} : ∀ l : List (Lit × DataW H), y ∈ l.foldr DataW.insert [] ↔ y ∈ l
  | [] => Iff.rfl
  | x :: l => by rw [List.foldr_cons, mem_insert_iff, mem_fold l, List.mem_cons]
theorem pw_inj : ∀ {l : List MapEntry}, l.Pairwise (fun a b => a.key ≠ b.key) → ∀ e ∈ l, ∀ e' ∈ l, e.key = e'.key → e = e'
  | [], _, e, h, _, _, _ => by simp at h
  | a :: l, hp, e, h, e', h', hk => by
    rw [List.pairwise_cons] at hp
    rcases List.mem_cons.1 h with h1 | h1 <;> rcases List.mem_cons.1 h' with h2 | h2
    · rw [h1, h2]
    · subst h1; exact absurd hk (hp.1 _ h2)
    · subst h2; exact absurd hk.symm (hp.1 _ h1)
    · exact pw_inj hp.2 _ h1 _ h2 hk
theorem choose_list {l : List MapEntry} : ∀ (wl : List (List UInt8 × Int)), (∀ p ∈ wl, ∃ e ∈ l, e.key = .string ⟨p.1.toArray⟩ ∧ e.val = .int .i64 p.2) →
    ∃ l' : List MapEntry, l'.map (·.key) = wl.map (fun p => .string ⟨p.1.toArray⟩) ∧ l'.map (·.val) = wl.map (fun p => .int .i64 p.2) ∧ ∀ e ∈ l', e ∈ l
  | [], _ => ⟨[], rfl, rfl, by simp⟩
  | p :: wl, h => by
    obtain ⟨e, h1, h2, h3⟩ := h p (by simp)
    obtain ⟨l', k1, k2, k3⟩ := choose_list wl fun p hp => h p (by simp [hp])
    refine ⟨e :: l', by simp [h2, k1], by simp [h3, k2], fun x hx => ?_⟩
    rcases List.mem_cons.1 hx with rfl | hx
    · exact h1
    · exact k3 x hx
theorem of_laid {W : World} (h : laidMetH Tryd.prog laidL W) : ∃ bm es ck, W.cell? ⟨0, 0, none⟩ = some (.map (some bm)) ∧ Ab.MapAt W bm es ck ∧
    es.toList.map (·.key) = wl.map (fun p => .string ⟨p.1.toArray⟩) ∧ es.toList.map (·.val) = wl.map (fun p => .int .i64 p.2) := by
  rw [MakeChecks.laidMetH_plain _ _ _ (by kernel_rfl)] at h
  obtain ⟨ps, ⟨g0, t0, cs0, f0, p0, q0, hg0, ht0, hv0, hd0, _, _⟩, _, _⟩ := h
  obtain ⟨T, k, hT, hu, hk⟩ := tWords
  obtain rfl := Option.some.inj (gWords.symm.trans hg0)
  obtain rfl := Option.some.inj (hT.symm.trans ht0)
  rw [laid_wl] at hd0
  rcases WideMaps.open_map hu hk hd0 with ⟨_, hx⟩ | ⟨bm, es, clock, hcs, hb, _, F, hx⟩
  · simp at hx
  simp only [Prod.mk.injEq, DataW.map.injEq] at hx
  obtain ⟨hx, _⟩ := hx
  have hmem : ∀ y, y ∈ (wl.map fun p => ((.string p.1, .lit (.int .i64 p.2)) : Lit × DataW Unit)) ↔ y ∈ es.toList.map (WideMaps.rg Unit Tryd.prog 9 .i64) := fun y => by
    rw [hx, mem_fold]
  have hkv : ∀ (e : MapEntry) (p : List UInt8 × Int), p ∈ wl → e ∈ es.toList → WideMaps.rg Unit Tryd.prog 9 .i64 e = (.string p.1, .lit (.int .i64 p.2)) → e.key = .string ⟨p.1.toArray⟩ ∧ e.val = .int .i64 p.2 := by
    intro e p hp he hr
    obtain ⟨y, hy⟩ := F.reads e he
    rw [WideMaps.rg_of hy] at hr
    subst hr
    have h1 := WideMaps.rd_key hy
    obtain ⟨n, h2, h3, _⟩ := WideMaps.rd_val hy
    simp only [DataW.lit.injEq, Lit.int.injEq, true_and] at h3
    have h4 : keyOf Tryd.prog 9 (.string ⟨p.1.toArray⟩) = some (.string p.1) := by
      have hsz : (ByteArray.mk p.1.toArray).size ≤ maxLen := by
        have : ∀ p ∈ wl, (ByteArray.mk p.1.toArray).size ≤ maxLen := by decide
        exact this p hp
      have := WideMaps.keyOf_string_mk (s := ⟨p.1.toArray⟩) Tryd.underlying9 hsz
      simpa using this
    exact ⟨lawW.inj h1 h4, by rw [h2, h3]⟩
  have huniq := pw_inj ((MapKept.stamped_iff es clock).1 F.stamped).2.2
  obtain ⟨l', k1, k2, k3⟩ := choose_list (l := es.toList) wl fun p hp => by
    have := (hmem (.string p.1, .lit (.int .i64 p.2))).1 (List.mem_map.2 ⟨p, hp, rfl⟩)
    obtain ⟨e, he, hr⟩ := List.mem_map.1 this
    exact ⟨e, he, hkv e p hp he hr⟩
  have hkeys : ∀ e ∈ l', ∃ s, e.key = .string s := fun e he => by
    have : e.key ∈ l'.map (·.key) := List.mem_map.2 ⟨e, he, rfl⟩
    rw [k1] at this
    obtain ⟨p, _, hp⟩ := List.mem_map.1 this
    exact ⟨_, hp.symm⟩
  have hcell : W.cell? ⟨0, 0, none⟩ = some (.map (some bm)) := by
    have := World.var?_cell hg0 hv0 0
    rw [Array.eq_one_of_toList hcs] at this
    simpa using this
  refine ⟨bm, ⟨l'⟩, clock, hcell, ⟨es, hb, fun e => ⟨fun he => ?_, fun he => k3 e he⟩, hkeys, fun e he e' he' => huniq e (k3 e he) e' (k3 e' he')⟩, k1, k2⟩
  have h1 : WideMaps.rg Unit Tryd.prog 9 .i64 e ∈ (wl.map fun p => ((.string p.1, .lit (.int .i64 p.2)) : Lit × DataW Unit)) := (hmem _).2 (List.mem_map.2 ⟨e, he, rfl⟩)
  obtain ⟨p, hp, hr⟩ := List.mem_map.1 h1
  obtain ⟨h2, _⟩ := hkv e p hp he hr.symm
  have h3 : e.key ∈ l'.map (·.key) := by rw [k1, h2]; exact List.mem_map.2 ⟨p, hp, rfl⟩
  obtain ⟨e', he', hk'⟩ := List.mem_map.1 h3
  have := huniq e he e' (k3 e' he') hk'.symm
  subst this
  exact he'
def old (W : World) : Nat → Nat → Prop := fun b _ => b < W.heap.size
theorem gl_of_laid {W : World} (h : laidMetH Tryd.prog laidL W) : Ab.GlOk ⟨fun _ => none, fun _ => none, old W⟩ W := by
  obtain ⟨bm, es, ck, hc, hm, hk, hv⟩ := of_laid h
  intro n v hn
  unfold Ab.gvs at hn
  split at hn
  rotate_left
  · cases hn
  simp only [Option.some.injEq] at hn
  subst hn
  have h0 : (0 : Nat) < W.heap.size := by
    unfold World.cell? at hc
    cases hh : W.heap[0]? with
    | none => simp [hh] at hc
    | some o => exact (Array.getElem?_eq_some_iff.1 hh).1
  have hbm : bm < W.heap.size := by
    obtain ⟨es0, h1, _⟩ := hm
    exact (Array.getElem?_eq_some_iff.1 h1).1
  have hlen : es.size = 7 := by
    have := congrArg List.length hk
    simpa [wl] using this
  have hv2 : ∀ (i : Nat) (hi : i < es.size) (hj : i < (wl.map fun p => (Ab.V.c (.int .i64 p.2))).length), Ab.Rep ⟨fun _ => none, fun _ => none, old W⟩ W (es[i]'hi).val ((wl.map fun p => (Ab.V.c (.int .i64 p.2)))[i]) := by
    intro i hi hj
    have hj' : i < wl.length := by simpa using hj
    have h1 : (es.toList.map (·.val))[i]'(by simpa using hi) = (wl.map fun p => Value.int .i64 p.2)[i]'(by simpa using hj') := by simp only [hv]
    simp only [List.getElem_map, Array.getElem_toList] at h1
    rw [List.getElem_map, h1]
    exact .c _
  refine .ptr 0 0 0 _ 0 (fun _ => .map (some bm)) rfl (fun j hj => ?_) fun j hj => ?_
  · have : j = 0 := by simp at hj; omega
    subst this
    exact ⟨h0, hc, rfl⟩
  · have : j = 0 := by simp at hj; omega
    subst this
    refine .fmp bm es ck _ _ hm hbm (by rw [hk]; rfl) (by rw [hlen]; rfl) fun i hi hj => hv2 i hi hj
theorem Ab.law_calls {f : Nat} {args : List Ab.V} {n : Nat} (hfr : f < Ab.rid) (h : Ab.call Ab.X Ab.E n f args [] = some (.c (.bool true), [])) {W : World} {cargs : Array Value} (hgl : Ab.GlOk ⟨fun _ => none, fun _ => none, old W⟩ W) (hl : cargs.size = args.length)
    (hr : ∀ i (hi : i < cargs.size) (hj : i < args.length), Ab.Rep ⟨fun _ => none, fun _ => none, old W⟩ W cargs[i] args[i]) :
    Calls Tryd.prog f cargs W (fun e W' => e = .returned (.bool true) ∧ Below W.heap.size W W') := by
  have H : Ab.HOk ⟨fun _ => none, fun _ => none, old W⟩ W [] := ⟨(fun _ _ e => by simp at e), (fun _ _ _ _ e => by simp at e), (fun _ _ _ e => by simp at e), (fun _ _ _ _ _ _ _ e => by simp at e), (fun _ _ _ _ _ e => by simp at e), ⟨fun _ _ h => h, hgl⟩⟩
  refine Calls.mono (((Ab.seat_ok n _ _ _ _ _ h).1 hfr).2 _ W cargs H hl hr) ?_
  rintro e W' ⟨v, g', rfl, hle, _, hrep, _⟩
  have hv : v = .bool true := hrep.of_c
  subst hv
  refine ⟨rfl, ⟨hle.os, hle.tape, hle.output, hle.size, fun b hb => hle.kept b hb ?_⟩⟩
  rintro (⟨id, e⟩ | ⟨k, l, c, e⟩) <;> simp at e
theorem stays {H : Type} {enc : TypeId × Value → H} {t : TypeId} (hr : Tryd.prog.readableRec t = true) (hrow : t < Tryd.prog.types.size) {W W' : World} {v : Value} {d : DataW H} {ps : List MemPlace}
    (h : DataW.Trod enc Tryd.prog W 0 (fun _ => true) true t v d ps) (hb : Below W.heap.size W W') : DataW.Trod enc Tryd.prog W' 0 (fun b => decide (b < W.heap.size)) true t v d ps := by
  refine hb.trod laidOut hr hrow h fun x hx => ?_
  obtain ⟨fuel, hf⟩ := h
  exact DataW.trod_lt fuel _ _ _ hf x hx
end Go.Proofs.YtkiliokeanmagaaDoor

namespace Go.Proofs.YtkiliokeanmagaaDoor
open Go Go.ChangeMaps Go.ChangeShapes Go.WideShapes Go.ChangeAt Go.RowKit
set_option linter.unusedVariables false
set_option linter.unusedSimpArgs false
set_option maxRecDepth 100000 in
theorem syntaxPut_lifted (os : Os) (started : os.Started) (H : Type) (enc : TypeId × Value → H) :
    ReturnsInHanded {} Tryd.checked os 5 .any (fun w args => (Rows.syntaxPutSpec.pre enc Tryd.prog Tryd.f5 [] false w args ∧ laidMetH Tryd.prog laidL w) ∧ sizedMet enc Tryd.prog Tryd.f5 (OpenSpec.ofChange Rows.syntaxPutSpec) false w args)
      (Rows.syntaxPutSpec.post enc Tryd.prog Tryd.f5 false true false false) := by
  refine returnsInHanded_of_change_and (C := Tryd.checked) (X := fun w _ => laidMetH Tryd.prog laidL w) (fun _ _ _ hh h => h.of_heap hh) own started (by kernel_rfl) Tryd.func5
    (ChangeSpec.witness_shaped (enc := enc) (C := Tryd.checked) (os := os) (X := fun w _ => laidMetH Tryd.prog laidL w) false (World.doorLaid Tryd.prog 400 os) #[.agg #[.int .i64 0, .int .i64 0, .string ⟨#[]⟩, .slice none 0 0], .slice none 0 0, .agg #[.int .i64 0, .int .i64 0, .string ⟨#[]⟩, .slice none 0 0]] 8 rfl (World.shaped_of_RefB (by kernel_rfl) (by kernel_rfl)) (by kernel_rfl) (by kernel_rfl) (by kernel_rfl) (door_met os _)) ?_
  intro W base args ds gs before hval0 hW _ _ hL _
  have hval : ∀ (j : Nat) t v, Tryd.f5.params[j]? = some t → args[j]? = some v → Value.okWide Tryd.prog W .any base t v := hval0
  have hW' := hW
  obtain ⟨p, q, hA0, hV, rfl, hfz, hnd⟩ := hW
  have hA : DataW.TrodAll enc Tryd.prog W 0 (fun _ => true) true Tryd.f5.params.toList args.toList ds p := hA0
  rw [Tryd.params5] at hA hval
  obtain ⟨v0, v1, v2, d0, d1, d2, p0, p1, p2, rfl, rfl, rfl, h0, h1, h2⟩ := trodAll_three hA
  obtain ⟨rfl, rfl⟩ := trodVars_none hV
  obtain ⟨x0, r0⟩ := Ab.open_datum (g := ⟨fun _ => none, fun _ => none, old W⟩) (fun _ _ h => h) (hval 0 24 v0 rfl rfl) h0
  obtain ⟨x1, r1⟩ := Ab.open_path (g := ⟨fun _ => none, fun _ => none, old W⟩) (fun _ _ h => h) (hval 1 26 v1 rfl rfl) h1
  obtain ⟨x2, r2⟩ := Ab.open_datum (g := ⟨fun _ => none, fun _ => none, old W⟩) (fun _ _ h => h) (hval 2 24 v2 rfl rfl) h2
  simp only [List.append_nil] at hW'
  refine (Ab.law_calls (n := 40000) (by decide) (args := [x0.v, Ab.pv x1, x2.v]) (Ab.law5 x0 x1 x2) (W := W) (cargs := #[v0, v1, v2]) (gl_of_laid hL) rfl (fun i hi hj => by
    match i, hj with
    | 0, _ => exact r0
    | 1, _ => exact r1
    | 2, _ => exact r2)).mono fun e W' ⟨he, hB⟩ => ?_
  subst he
  exact ⟨_, rfl, _, _, _, [], _, [], hW', trodAll_mk1 (shut_bool Tryd.underlying4 true), trodAll_mk3 (stays (by kernel_rfl) (by decide +kernel) h0 hB) (stays (by kernel_rfl) (by decide +kernel) h1 hB) (stays (by kernel_rfl) (by decide +kernel) h2 hB), rfl, hB.frame _, fun h => by cases h⟩
theorem syntaxPut_row : Rows.SyntaxPutSaid :=
  OpenClaim.holds_of_wide 5 Tryd.f5 rfl rfl rfl rfl rfl rfl rfl ⟨rfl, rfl, rfl, rfl, rfl⟩ rfl rfl rfl rfl rfl (by kernel_rfl) Tryd.func5 (by kernel_rfl)
    (of_decide_eq_true (by kernel_rfl)) (by unfold Func.isWrapper; first | (rw [if_pos (by decide +kernel)]; kernel_rfl) | (rw [if_neg (by decide +kernel)]; exact ⟨rfl, rfl⟩))
    (fun os started H enc _ => syntaxPut_lifted os started H enc)
theorem syntaxPut_holds : Rows.SyntaxPutCardSaid :=
  Claim7.holds_tied_plain_at .later [] [.mapped] true (true, "8ccad16c6e417e3cd4dc0213b5b27223fa57546759a13c087f9ad22ecc3916b7") false
    syntaxPut_row (fun _ h => by cases h) (by kernel_rfl) (fun _ h => by cases h) syntaxPut_row_tie rfl ⟨rfl, rfl⟩ (by kernel_rfl) rfl
    (fun f fn hf hfn => by
      obtain rfl : f = 5 := Option.some.inj ((show Tryd.prog.funcNamed "pagoda/pagodalaw04.SyntaxPut" = some 5 by kernel_rfl).symm.trans hf) |>.symm
      obtain rfl : fn = Tryd.f5 := (Option.some.inj (Tryd.func5.symm.trans hfn)).symm
      exact ⟨by kernel_rfl, fun j t ht => by
        rw [Tryd.params5] at ht
        have h3 : t = 24 ∨ t = 26 ∨ t = 24 := by
          match j, ht with
          | 0, ht => exact .inl (by simpa using ht.symm)
          | 1, ht => exact .inr (.inl (by simpa using ht.symm))
          | 2, ht => exact .inr (.inr (by simpa using ht.symm))
          | j + 3, ht => simp at ht
        rcases h3 with rfl | rfl | rfl
        · exact (show Tryd.prog.wantsStandIn 24 = false by kernel_rfl)
        · exact (show Tryd.prog.wantsStandIn 26 = false by kernel_rfl)
        · exact (show Tryd.prog.wantsStandIn 24 = false by kernel_rfl)⟩)
    (by kernel_rfl)
end Go.Proofs.YtkiliokeanmagaaDoor

