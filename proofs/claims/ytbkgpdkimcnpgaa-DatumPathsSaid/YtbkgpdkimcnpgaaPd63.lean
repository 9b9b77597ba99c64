/- The document's paths. -/
import Derived.Test.YtbkgpdkimcnpgaaPd62
namespace Go.Proofs.Ytbkgpdkimcnpgaa.Ab
open Go
set_option linter.unusedVariables false
set_option linter.unusedSimpArgs false
set_option maxRecDepth 4000
set_option maxHeartbeats 2000000

theorem D.pres_snoc : ∀ (l : List D) (d : D) (ps : List Int) (i : Nat), D.pres (l ++ [d]) ps i = D.pres l ps i ++ d.pre (ps ++ [((i + l.length : Nat) : Int)])
  | [], d, ps, i => by simp [D.pres]
  | x :: l, d, ps, i => by
    simp only [List.cons_append, D.pres, D.pres_snoc l d ps (i + 1), List.append_assoc, List.length_cons]
    rw [show i + 1 + l.length = i + (l.length + 1) by omega]
/-- Paths as values. -/
def pvs (L : List (D × List Int)) : List V := L.map fun p => pv p.2
theorem pvs_app (a b : List (D × List Int)) : pvs (a ++ b) = pvs a ++ pvs b := by simp [pvs]
theorem D.pre_cons (d : D) (ps : List Int) : ∃ r, d.pre ps = (d, ps) :: r := by obtain ⟨k, n, t, l⟩ := d; exact ⟨_, rfl⟩

def outs (at' : List Int) (l : List D) (j : Nat) : List V := pv at' :: pvs (D.pres (l.take j) at' 0)
theorem outs_next {at' : List Int} {l : List D} {j : Nat} (h : j < l.length) : outs at' l (j + 1) = outs at' l j ++ pvs ((l[j]).pre (at' ++ [(j : Int)])) := by
  have e : l.take (j + 1) = l.take j ++ [l[j]] := by rw [List.take_append_getElem]
  simp only [outs, e, D.pres_snoc, pvs_app, List.length_take, Nat.zero_add, List.cons_append]
  rw [Nat.min_eq_left (by omega)]
theorem pvs_len (L : List (D × List Int)) : (pvs L).length = L.length := by simp [pvs]
theorem outs_len {at' : List Int} {l : List D} {j : Nat} : (outs at' l j).length = 1 + D.szs (l.take j) := by simp [outs, pvs_len, D.pres_len]; omega

theorem g5_1 (H : List O) (a b c d e : O) : (H ++ [a, b, c, d, e])[H.length + 1]? = some b := get_at1 H [c, d, e] a b
theorem g5_3 (H : List O) (a b c d e : O) : (H ++ [a, b, c, d, e])[H.length + 3]? = some d := get_at3 H [e] a b c d
theorem g5_4 (H : List O) (a b c d e : O) : (H ++ [a, b, c, d, e])[H.length + 4]? = some e := by rw [List.getElem?_append_right (by omega)]; simp
theorem s5_1 (H : List O) (a b c d e x : O) : (H ++ [a, b, c, d, e]).set (H.length + 1) x = H ++ [a, x, c, d, e] := set_at1 H [c, d, e] a b x
theorem s5_3 (H : List O) (a b c d e x : O) : (H ++ [a, b, c, d, e]).set (H.length + 3) x = H ++ [a, b, c, x, e] := by rw [List.set_append_right _ _ (by omega)]; simp
theorem s5_4 (H : List O) (a b c d e x : O) : (H ++ [a, b, c, d, e]).set (H.length + 4) x = H ++ [a, b, c, d, x] := by rw [List.set_append_right _ _ (by omega)]; simp
theorem free0 (h : List O) (d : Nat) : freeSlot h 0 d = d := rfl

structure I58 (at' : List Int) (l : List D) (k n : Int) (t : ByteArray) (r0 m : Nat) (s : SF) : Prop where
  j : ∃ (j : Nat) (si : SI), j + m = l.length ∧ s.e 6 = .c (.int .i64 j) ∧ s.e 5 = .sl (outs at' l j) si ∧ (si = .full ∨ ∃ q, si = .tok q ∧ s.h[q]? = some (.tok (outs at' l j).length 1))
  h0 : s.h[r0]? = some (.cells [.c (.int .i64 k), .c (.int .i64 n), .c (.string t), .sl (D.vs l) .any])
  e1 : s.e 1 = .sl (at'.map I64) .any
  e2 : s.e 2 = .ref r0 0
  b : s.base = 0

theorem close58 {at' : List Int} {l : List D} {k n : Int} {t : ByteArray} {r0 m j : Nat} (hj : j + m = l.length) (hm : j < l.length) (hl : l.length < 1099511627776) {e' : Nat → V} {H' : List O} {rb' : Nat} (si' : SI)
    (e6 : e' 6 = .c (.int .i64 (IntKind.i64.wrap ((j : Int) + 1)))) (e5 : e' 5 = .sl (outs at' l (j + 1)) si') (hsi : si' = .full ∨ ∃ q, si' = .tok q ∧ H'[q]? = some (.tok (outs at' l (j + 1)).length 1))
    (h0 : H'[r0]? = some (.cells [.c (.int .i64 k), .c (.int .i64 n), .c (.string t), .sl (D.vs l) .any])) (e1 : e' 1 = .sl (at'.map I64) .any) (e2 : e' 2 = .ref r0 0) : ∃ k', k' < m ∧ I58 at' l k n t r0 k' ⟨e', H', 0, rb'⟩ := by
  refine ⟨m - 1, by omega, ⟨⟨j + 1, si', by omega, ?_, e5, hsi⟩, h0, e1, e2, rfl⟩⟩
  show e' 6 = _
  rw [e6, wrap_in (by omega)]
  rfl
theorem step58 {cf : CallF} {fu : Nat} {at' : List Int} {l : List D} {k n : Int} {t : ByteArray} {r0 : Nat} (hl : D.szs l < 1099511627776) (hat : at'.length < 1099511627776)
    (hc : ∀ x ∈ l, ∀ (j : Nat) si h, cf 58 [x.v, .sl ((at' ++ [(j : Int)]).map I64) si] h = some (.sl (pvs (x.pre (at' ++ [(j : Int)]))) .any, h)) {Q : Ex → SF → Prop}
    (hQ : ∀ s si, s.e 5 = .sl (outs at' l l.length) si → s.base = 0 → Q (.exit 0) s) (m : Nat) (s : SF) (I : I58 at' l k n t r0 m s) :
    wpk cf fu x58l7 [] (fun e s' => match e with | .normal => ∃ k', k' < m ∧ I58 at' l k n t r0 k' s' | e => Q e s') s := by
  obtain ⟨⟨j, si, hj, e6, e5, hsi⟩, h0, e1, e2, hb⟩ := I
  obtain ⟨e, H, base, rb⟩ := s
  simp only at e5 e6 h0 e1 e2 hsi hb
  subst hb
  have hlen := D.len_szs l
  have h0T : ∀ T : List O, (H ++ T)[r0]? = some (.cells [.c (.int .i64 k), .c (.int .i64 n), .c (.string t), .sl (D.vs l) .any]) := fun T => by
    rw [List.getElem?_append_left (List.getElem?_eq_some_iff.1 h0).1]; exact h0
  by_cases hm : j < l.length
  · have hlt : (j : Int) < l.length := by omega
    have hx := hc _ (List.getElem_mem hm) j
    have hnext := outs_next (at' := at') hm
    have hs := D.szs_take l j hm
    have hs2 := D.szs_take_le l (j + 1)
    have hol := outs_len (at' := at') (l := l) (j := j)
    have hzo : hz 1 (outs at' l j) = true := rfl
    obtain ⟨r, hr⟩ := D.pre_cons l[j] (at' ++ [(j : Int)])
    have hrl := D.pre_len l[j] (at' ++ [(j : Int)])
    rw [hr] at hx hnext hrl
    simp only [List.length_cons] at hrl
    have hp1 : pvs ((l[j], at' ++ [(j : Int)]) :: r) = .sl ((at' ++ [(j : Int)]).map I64) .any :: pvs r := rfl
    rw [hp1] at hx hnext
    have hpl := pvs_len r
    generalize outs at' l j = out at *
    generalize hw0 : (at' ++ [(j : Int)]).map I64 = w0 at *
    have z1 : ∀ ws : List V, hz 1 (V.sl w0 .any :: ws) = true := fun ws => rfl
    have b1 : (out.length + ((pvs r).length + 1)) * 24 ≤ 140737488355328 := by omega
    have b2 : out.length + ((pvs r).length + 1) ≤ 140737488355328 := by omega
    cases at' with
    | nil =>
      have hx' : ∀ si h, cf 58 [(l[j]).v, .sl [.c (.int .i64 j)] si] h = some (.sl (.sl w0 .any :: pvs r) .any, h) := fun si h => by rw [← hx si h, ← hw0]; rfl
      simp only [List.map_nil] at e1
      rcases hsi with rfl | ⟨q, rfl, hq⟩
      · simp -implicitDefEqProofs [x58l7_w, x58r4_w, x58r5_w, x58r6_w, e1, e2, e5, e6, h0, h0T, D.vs_len, hlt, hm, D.vs_getE, D.cells_len, D.rd, hx', hzo, z1, b1, b2, g5_1, g5_3, g5_4, s5_1, s5_3, s5_4, free0]
        refine close58 hj hm (by omega) (.tok (H.length + 4)) (by simp [upd_at]) (by simp [upd_at, hnext]) (.inr ⟨_, rfl, ?_⟩) (h0T _) (by simp [upd_at, e1]) (by simp [upd_at, e2])
        rw [g5_4, hnext]
        simp
      · have hqT : ∀ T : List O, (H ++ T)[q]? = some (.tok out.length 1) := fun T => by
          rw [List.getElem?_append_left (List.getElem?_eq_some_iff.1 hq).1]; exact hq
        have hqn : q ≠ r0 := by rintro rfl; rw [h0] at hq; cases hq
        simp -implicitDefEqProofs [x58l7_w, x58r4_w, x58r5_w, x58r6_w, e1, e2, e5, e6, h0, h0T, D.vs_len, hlt, hm, D.vs_getE, D.cells_len, D.rd, hx', hzo, z1, b1, b2, g5_1, g5_3, g5_4, s5_1, s5_3, s5_4, free0, hqT]
        refine close58 hj hm (by omega) (.tok q) (by simp [upd_at]) (by simp [upd_at, hnext]) (.inr ⟨_, rfl, ?_⟩) (by rw [List.getElem?_set_ne hqn]; exact h0T _) (by simp [upd_at, e1]) (by simp [upd_at, e2])
        rw [List.getElem?_set_self (by have := (List.getElem?_eq_some_iff.1 hq).1; simp; omega), hnext]
        simp
    | cons a0 at' =>
      have hx' : ∀ si h, cf 58 [(l[j]).v, .sl (I64 a0 :: (at'.map I64 ++ [.c (.int .i64 j)])) si] h = some (.sl (.sl w0 .any :: pvs r) .any, h) := fun si h => by rw [← hx si h, ← hw0]; simp [I64]
      simp only [List.map_cons] at e1
      simp only [List.length_cons] at hat
      have z3 : ∀ ws : List V, hz 1 (I64 a0 :: ws) = true := fun ws => rfl
      have b3 : (at'.length + 1) * 8 ≤ 140737488355328 := by omega
      have b4 : at'.length + 1 ≤ 140737488355328 := by omega
      have b5 : (at'.length + 1 + 1) * 8 ≤ 140737488355328 := by omega
      have b6 : at'.length + 1 + 1 ≤ 140737488355328 := by omega
      rcases hsi with rfl | ⟨q, rfl, hq⟩
      · simp -implicitDefEqProofs [x58l7_w, x58r4_w, x58r5_w, x58r6_w, e1, e2, e5, e6, h0, h0T, D.vs_len, hlt, hm, D.vs_getE, D.cells_len, D.rd, hx', hzo, z1, z3, b1, b2, b3, b4, b5, b6, g5_1, g5_3, g5_4, s5_1, s5_3, s5_4, free0]
        refine close58 hj hm (by omega) (.tok (H.length + 4)) (by simp [upd_at]) (by simp [upd_at, hnext]) (.inr ⟨_, rfl, ?_⟩) (h0T _) (by simp [upd_at, e1]) (by simp [upd_at, e2])
        rw [g5_4, hnext]
        simp
      · have hqT : ∀ T : List O, (H ++ T)[q]? = some (.tok out.length 1) := fun T => by
          rw [List.getElem?_append_left (List.getElem?_eq_some_iff.1 hq).1]; exact hq
        have hqn : q ≠ r0 := by rintro rfl; rw [h0] at hq; cases hq
        simp -implicitDefEqProofs [x58l7_w, x58r4_w, x58r5_w, x58r6_w, e1, e2, e5, e6, h0, h0T, D.vs_len, hlt, hm, D.vs_getE, D.cells_len, D.rd, hx', hzo, z1, z3, b1, b2, b3, b4, b5, b6, g5_1, g5_3, g5_4, s5_1, s5_3, s5_4, free0, hqT]
        refine close58 hj hm (by omega) (.tok q) (by simp [upd_at]) (by simp [upd_at, hnext]) (.inr ⟨_, rfl, ?_⟩) (by rw [List.getElem?_set_ne hqn]; exact h0T _) (by simp [upd_at, e1]) (by simp [upd_at, e2])
        rw [List.getElem?_set_self (by have := (List.getElem?_eq_some_iff.1 hq).1; simp; omega), hnext]
        simp
  · have hlt : ¬ (j : Int) < l.length := by omega
    have hj2 : j = l.length := by omega
    simp -implicitDefEqProofs [x58l7_w, x58r4_w, e1, e2, e5, e6, h0, D.vs_len, hlt]
    refine hQ _ si ?_ rfl
    simp only [upd_at, e5, hj2]
    simp
end Go.Proofs.Ytbkgpdkimcnpgaa.Ab
