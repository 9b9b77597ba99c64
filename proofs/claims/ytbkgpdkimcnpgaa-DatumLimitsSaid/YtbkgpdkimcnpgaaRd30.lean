/- Find, Path and Begins. -/
import Derived.Test.YtbkgpdkimcnpgaaRdB
namespace Go.Proofs.Ytbkgpdkimcnpgaa.Ab
open Go
set_option linter.unusedVariables false
set_option linter.unusedSimpArgs false
set_option maxRecDepth 4000
set_option maxHeartbeats 1000000

/-- Paths. -/
def pv (p : List Int) : V := .sl (p.map I64) .any
theorem pv_vw2 (p : List Int) : (pv p).vw2 = pv p := rfl
theorem lows_I64 (m : Nat) (p : List Int) : V.lows m (p.map I64) = true := lows_of fun v hv => by
  obtain ⟨x, _, rfl⟩ := List.mem_map.1 hv
  rfl
theorem pv_low (m : Nat) (p : List Int) : (pv p).low m = true := by simp [pv, V.low, lows_I64, SI.low]
theorem pv_len (p : List Int) (h : List O) : lenF (pv p) h = some (.c (.int .i64 p.length), h) := by simp [pv, lenF]
theorem hz_I64 (p : List Int) : hz 1 (p.map I64) = true := by
  cases p with
  | nil => rfl
  | cons a p => rfl

theorem eqS_comm (a b : ByteArray) : eqS a b = eqS b a := by
  unfold eqS
  exact BEq.comm
mutual
theorem D.same_comm : ∀ d d' : D, d.same d' = d'.same d
  | .mk k n t l, .mk k' n' t' l' => by
    simp only [D.same, D.sames_comm l l', eqS_comm t t', BEq.comm (a := k) (b := k'), BEq.comm (a := n) (b := n')]
theorem D.sames_comm : ∀ l l' : List D, D.sames l l' = D.sames l' l
  | [], [] => rfl
  | [], _ :: _ => by simp [D.sames]
  | _ :: _, [] => by simp [D.sames]
  | d :: l, d' :: l' => by simp only [D.sames, D.same_comm d d', D.sames_comm l l']
end

/-- Does a path begin with another one? -/
def begs : List Int → List Int → Bool
  | _, [] => true
  | [], _ :: _ => false
  | a :: p, b :: q => a == b && begs p q
theorem begs_len : ∀ p q : List Int, begs p q = true → q.length ≤ p.length
  | _, [], _ => Nat.zero_le _
  | [], _ :: _, h => by simp [begs] at h
  | a :: p, b :: q, h => by
    simp only [begs, Bool.and_eq_true] at h
    have := begs_len p q h.2
    simp only [List.length_cons]
    omega
theorem begs_refl : ∀ p : List Int, begs p p = true
  | [] => rfl
  | a :: p => by simp [begs, begs_refl p]

structure I40 (p q : List Int) (m : Nat) (s : SF) : Prop where
  j : ∃ j : Nat, j + m = q.length ∧ s.e 5 = .c (.int .i64 j) ∧ begs p q = begs (p.drop j) (q.drop j)
  e0 : s.e 0 = pv p
  e1 : s.e 1 = pv q
  b : s.base = 0
theorem step40 {cf : CallF} {fu : Nat} {p q : List Int} (hpq : q.length ≤ p.length) (hl : p.length < 4611686018427387904) {Q : Ex → SF → Prop}
    (hQ : ∀ s, begs p q = true → s.base = 0 → Q (.exit 0) s)
    (hR : ∀ s, begs p q = false → s.e 4 = .c (.bool false) → s.base = 0 → Q .ret s) (m : Nat) (s : SF) (I : I40 p q m s) :
    wpk cf fu x40l9 [] (fun e s' => match e with | .normal => ∃ k1, k1 < m ∧ I40 p q k1 s' | e => Q e s') s := by
  obtain ⟨⟨j, hj, e5, hf⟩, e0, e1, hb⟩ := I
  obtain ⟨e, h, base, rb⟩ := s
  simp only at e5 e0 e1 hb
  subst hb
  by_cases hm : j < q.length
  · have hm' : j < p.length := by omega
    have hlt : (j : Int) < q.length := by omega
    have hlt' : (j : Int) < p.length := by omega
    have hd : p.drop j = p[j] :: p.drop (j + 1) := List.drop_eq_getElem_cons hm'
    have hd' : q.drop j = q[j] :: q.drop (j + 1) := List.drop_eq_getElem_cons hm
    rw [hd, hd', begs] at hf
    cases hz : (p[j] != q[j]) with
    | false =>
      have hz' : (p[j] == q[j]) = true := by simpa using hz
      simp -implicitDefEqProofs [x40l9_w, x40r5_w, x40r6_w, x40r7_w, x40r8_w, e0, e1, e5, pv, hlt, hlt', hm, hm', hz, I64]
      refine ⟨m - 1, by omega, ⟨⟨j + 1, by omega, ?_, ?_⟩, ?_, ?_, rfl⟩⟩
      · simp only [upd_at, e5]
        simp
        rw [wrap_in (by omega)]
      · rw [hf, hz']; rfl
      · simp [upd_at, e0]
      · simp [upd_at, e1]
    | true =>
      have hz' : (p[j] == q[j]) = false := by simpa using hz
      simp -implicitDefEqProofs [x40l9_w, x40r5_w, x40r6_w, x40r7_w, x40r8_w, e0, e1, e5, pv, hlt, hlt', hm, hm', hz, I64]
      refine hR _ (by rw [hf, hz']; rfl) ?_ rfl
      simp [upd_at]
  · have hlt : ¬ (j : Int) < q.length := by omega
    simp -implicitDefEqProofs [x40l9_w, x40r5_w, e0, e1, e5, pv, hlt]
    refine hQ _ ?_ rfl
    rw [hf, List.drop_of_length_le (by omega : q.length ≤ j)]
    cases p.drop j <;> rfl
theorem run40 {n : Nat} {p q : List Int} (hn : q.length < n) (hl : p.length < 4611686018427387904) : Gives (n + 1) 40 [pv p, pv q] (.c (.bool (begs p q))) := by
  refine gives_of rfl rfl rfl (by kernel_rfl) ⟨rfl, rfl⟩ (by simp [pv_vw2, V.lows, pv_low]) ?_
  by_cases hpq : q.length ≤ p.length
  · have hlt : ¬ (p.length : Int) < q.length := by omega
    simp -implicitDefEqProofs [x40_w, x40_r, x40r1_w, x40r2_w, x40r3_w, x40r4_w, pv, hlt, V.vw2, V.vw1]
    refine lpk_of (I40 p q) q.length (by omega) ⟨⟨0, by simp, ?_, by simp⟩, ?_, ?_, rfl⟩ ?_
    · simp [upd_at]
    · simp [upd_at, arg0, pv]
    · simp [upd_at, arg0, pv]
    · refine step40 hpq hl (fun s h1 hb => ?_) fun s h1 h4 hb => ?_
      · obtain ⟨e, h, base, rb⟩ := s
        simp only at hb
        subst hb
        simp -implicitDefEqProofs [x40_r, x40r10_w, h1]
      · obtain ⟨e, h, base, rb⟩ := s
        simp only at hb h4
        subst hb
        simp -implicitDefEqProofs [x40_r, h1, h4]
  · have hlt : (p.length : Int) < q.length := by omega
    have hf : begs p q = false := by
      cases hh : begs p q with
      | false => rfl
      | true => exact absurd (begs_len p q hh) hpq
    simp -implicitDefEqProofs [x40_w, x40_r, x40r1_w, x40r2_w, x40r3_w, x40r4_w, pv, hlt, V.vw2, V.vw1, hf]

/-- Are two paths the same? -/
def samep (p q : List Int) : Bool := decide (p.length = q.length) && begs p q
theorem samep_refl (p : List Int) : samep p p = true := by simp [samep, begs_refl]
theorem run28 {n : Nat} {p q : List Int} (hn : q.length + 1 < n) (hl : p.length < 4611686018427387904) : Gives (n + 1) 28 [pv p, pv q] (.c (.bool (samep p q))) := by
  obtain ⟨n, rfl⟩ : ∃ n', n = n' + 1 := ⟨n - 1, by omega⟩
  have c1 : ∀ h, call X E (n + 1) 40 [pv p, pv q] h = some (.c (.bool (begs p q)), h) := run40 (by omega) hl
  generalize n + 1 = m at *
  refine gives_of rfl rfl rfl (by kernel_rfl) ⟨rfl, rfl⟩ (by simp [pv_vw2, V.lows, pv_low]) ?_
  by_cases hpq : p.length = q.length
  · have hlt : ((p.length : Int) == q.length) = true := by simp; omega
    simp -implicitDefEqProofs [x28_w, x28_r, x28r1_w, x28r2_w, pv_vw2, pv_len, hlt, c1, samep, hpq]
  · have hlt : ((p.length : Int) == q.length) = false := by simp; omega
    simp -implicitDefEqProofs [x28_w, x28_r, x28r1_w, x28r2_w, pv_vw2, pv_len, hlt, samep, hpq]

mutual
/-- The path of the first datum in preorder that is the same. -/
def D.fnd (x : D) : D → Option (List Int)
  | .mk k n t l => if D.same (.mk k n t l) x then some [] else D.fnds x l 0
def D.fnds (x : D) : List D → Nat → Option (List Int)
  | [], _ => none
  | d :: l, i => match D.fnd x d with
    | some p => some ((i : Int) :: p)
    | none => D.fnds x l (i + 1)
end
mutual
theorem D.fnd_len (x : D) : ∀ (d : D) (p : List Int), D.fnd x d = some p → p.length < d.sz
  | .mk k n t l, p, h => by
    rw [D.fnd] at h
    simp only [D.sz]
    split at h
    · cases h; simp only [List.length_nil]; omega
    · have := D.fnds_len x l 0 p h; omega
theorem D.fnds_len (x : D) : ∀ (l : List D) (i : Nat) (p : List Int), D.fnds x l i = some p → p.length ≤ D.szs l
  | [], i, p, h => by rw [D.fnds] at h; cases h
  | d :: l, i, p, h => by
    rw [D.fnds] at h
    simp only [D.szs]
    split at h
    · rename_i q hq
      have := D.fnd_len x d q hq
      cases h
      simp only [List.length_cons]
      omega
    · have := D.fnds_len x l (i + 1) p h; omega
end

/-- What it gives. -/
def fres : Option (List Int) → V
  | some p => .tup [pv p, .c (.bool true)]
  | none => .tup [pv [], .c (.bool false)]
structure I27 (l : List D) (k n : Int) (t : ByteArray) (x : D) (m : Nat) (s : SF) : Prop where
  j : ∃ j : Nat, j + m = l.length ∧ s.e 6 = .c (.int .i64 j) ∧ D.fnds x l 0 = D.fnds x (l.drop j) j
  e2 : s.e 2 = .ref 0 0
  e3 : s.e 3 = .ref 1 0
  h : s.h = [.cells [.c (.int .i64 k), .c (.int .i64 n), .c (.string t), .sl (D.vs l) .any], .cells x.v.cells]
  b : s.base = 0
theorem step27 {cf : CallF} {fu : Nat} {l : List D} {k n : Int} {t : ByteArray} {x : D} (hl : D.szs l < 1099511627776) (hc : ∀ y ∈ l, ∀ h, cf 27 [y.v, x.v] h = some (fres (D.fnd x y), h)) {Q : Ex → SF → Prop}
    (hQ : ∀ s, D.fnds x l 0 = none → s.base = 0 → Q (.exit 0) s)
    (hR : ∀ s p si, D.fnds x l 0 = some p → s.e 4 = .sl (p.map I64) si → s.e 5 = .c (.bool true) → s.base = 0 → Q .ret s) (m : Nat) (s : SF) (I : I27 l k n t x m s) :
    wpk cf fu x27l10 [] (fun e s' => match e with | .normal => ∃ k1, k1 < m ∧ I27 l k n t x k1 s' | e => Q e s') s := by
  obtain ⟨⟨j, hj, e6, hf⟩, e2, e3, hh, hb⟩ := I
  obtain ⟨e, h, base, rb⟩ := s
  simp only at e6 e2 e3 hh hb
  subst hh hb
  have hlen := D.len_szs l
  by_cases hm : j < l.length
  · have hlt : (j : Int) < l.length := by omega
    have hx := hc _ (List.getElem_mem hm)
    have hd : l.drop j = l[j] :: l.drop (j + 1) := List.drop_eq_getElem_cons hm
    rw [hd, D.fnds] at hf
    cases hs : D.fnd x l[j] with
    | none =>
      rw [hs] at hx hf
      simp -implicitDefEqProofs [x27l10_w, x27r5_w, x27r6_w, x27r7_w, x27r9_w, e2, e3, e6, D.vs_len, hlt, hm, D.vs_getE, D.cells_len, D.rd, hx, fres]
      refine ⟨m - 1, by omega, ⟨⟨j + 1, by omega, ?_, ?_⟩, ?_, ?_, rfl, rfl⟩⟩
      · simp only [upd_at, e6]
        simp
        rw [wrap_in (by omega)]
      · rw [hf]
      · simp [upd_at, e2]
      · simp [upd_at, e3]
    | some p =>
      have hpl := D.fnd_len x _ p hs
      have hsz := D.mem_sz (List.getElem_mem hm)
      rw [hs] at hx hf
      cases p with
      | nil =>
        simp -implicitDefEqProofs [x27l10_w, x27r5_w, x27r6_w, x27r7_w, x27r8_w, e2, e3, e6, D.vs_len, hlt, hm, D.vs_getE, D.cells_len, D.rd, hx, fres, pv]
        exact hR _ [(j : Int)] .full hf (by simp [upd_at, I64]) (by simp [upd_at]) rfl
      | cons q p =>
        simp -implicitDefEqProofs [x27l10_w, x27r5_w, x27r6_w, x27r7_w, x27r8_w, e2, e3, e6, D.vs_len, hlt, hm, D.vs_getE, D.cells_len, D.rd, hx, fres, pv]
        simp only [List.length_cons] at hpl
        exact ⟨⟨by omega, by omega, rfl⟩, hR _ (j :: q :: p) _ hf (by simp [upd_at, I64]; rfl) (by simp [upd_at]) rfl⟩
  · have hlt : ¬ (j : Int) < l.length := by omega
    simp -implicitDefEqProofs [x27l10_w, x27r5_w, e2, e3, e6, D.vs_len, hlt]
    refine hQ _ ?_ rfl
    rw [hf, List.drop_of_length_le (by omega)]
    rfl
theorem run27 (x : D) : ∀ d : D, d.sz < 1099511627776 → ∀ n, 4 * d.sz + 2 ≤ n → Gives n 27 [d.v, x.v] (fres (D.fnd x d)) := by
  refine D.ind fun k n t l ih hs m hm => ?_
  have h21 := run21 (.mk k n t l) x (by omega)
  simp only [D.sz] at hs hm h21
  have hlen := D.len_szs l
  obtain ⟨m, rfl⟩ : ∃ m', m = m' + 1 := ⟨m - 1, by omega⟩
  have c1 : ∀ h, call X E m 21 [(D.mk k n t l).v, x.v] h = some (.c (.bool (D.same (.mk k n t l) x)), h) := h21 m (by omega)
  have c2 : ∀ y ∈ l, ∀ h, call X E m 27 [y.v, x.v] h = some (fres (D.fnd x y), h) := fun y hy h => ih y hy (by have := D.mem_sz hy; omega) m (by have := D.mem_sz hy; omega) h
  have hrd := D.rd (.mk k n t l)
  rw [D.fnd]
  refine gives_of rfl rfl rfl (by kernel_rfl) ⟨rfl, rfl⟩ (by simp [D.vw2, V.lows, D.low]) ?_
  cases hsm : D.same (.mk k n t l) x with
  | true =>
    rw [hsm] at c1
    simp -implicitDefEqProofs [x27_w, x27_r, x27r1_w, x27r2_w, x27r3_w, D.vw2, D.okc, hrd, D.rd, c1, fres, pv, V.low, V.lows, SI.low]
  | false =>
    rw [hsm] at c1
    generalize call X E m = cf at *
    simp -implicitDefEqProofs [x27_w, x27r1_w, x27r2_w, x27r4_w, D.vw2, D.okc, hrd, D.rd, c1]
    refine lpk_of (I27 l k n t x) l.length (by omega) ⟨⟨0, by simp, by simp [upd_at], by simp⟩, by simp [upd_at], by simp [upd_at], rfl, rfl⟩ ?_
    refine step27 (by omega) c2 (fun s h1 hb => ?_) fun s p si h1 h4 h5 hb => ?_
    · obtain ⟨e, h, base, rb⟩ := s
      simp only at hb
      subst hb
      simp -implicitDefEqProofs [x27_r, x27r11_w, h1, fres, pv, V.low, V.lows, SI.low]
    · obtain ⟨e, h, base, rb⟩ := s
      simp only at h4 h5 hb
      subst hb
      simp -implicitDefEqProofs [x27_r, h1, h4, h5, fres, pv, lows_I64, V.low, V.lows, SI.low]

/-- The first of the visits at which a datum is the same. -/
def firstP (x : D) : List (D × List Int) → Option (List Int)
  | [] => none
  | (y, p) :: L => if D.same x y then some p else firstP x L
theorem firstP_app (x : D) : ∀ a b : List (D × List Int), firstP x (a ++ b) = match firstP x a with | some p => some p | none => firstP x b
  | [], b => rfl
  | (y, p) :: a, b => by
    simp only [List.cons_append, firstP]
    split
    · rfl
    · exact firstP_app x a b
mutual
theorem D.firstP_pre (x : D) : ∀ (d : D) (ps : List Int), firstP x (d.pre ps) = (D.fnd x d).map (ps ++ ·)
  | .mk k n t l, ps => by
    simp only [D.pre, firstP, D.fnd, D.same_comm x (.mk k n t l)]
    split
    · simp
    · rw [D.firstP_pres x l ps 0]
theorem D.firstP_pres (x : D) : ∀ (l : List D) (ps : List Int) (i : Nat), firstP x (D.pres l ps i) = (D.fnds x l i).map (ps ++ ·)
  | [], ps, i => rfl
  | d :: l, ps, i => by
    simp only [D.pres, firstP_app, D.firstP_pre x d, D.firstP_pres x l ps (i + 1), D.fnds]
    cases D.fnd x d with
    | none => rfl
    | some p => simp
end

theorem elems_none : ∀ cs : List V, elems none cs.length cs = some cs
  | [] => rfl
  | c :: cs => by
    have h := elems_none cs
    simp only [List.length_cons, elems, zc, List.drop_succ_cons, List.drop_zero, h]
    rfl
theorem call56 {n id : Nat} {ps : List Int} {h : List O} (hp : ps.length < 1099511627776) (hi : h[id]? = some (pcell ps)) : call X E (n + 1) 56 [.row id 0 ps.length none] h = some (pv ps, h) := by
  have hE : E 56 = some (fun _ => cloneE none 8 false) := rfl
  have hs : srcV h (.row id 0 ps.length none) = some (ps.map I64) := by
    have := elems_none (ps.map I64)
    rw [List.length_map] at this
    simp only [srcV, hi, pcell, List.drop_zero, this]
  simp only [call, hE, cloneE, hs]
  cases ps with
  | nil => rfl
  | cons a ps =>
    simp only [List.length_cons] at hp
    simp only [List.map_cons]
    rw [if_pos ⟨by simp; omega, by simp; omega, rfl, by decide⟩]
    rfl
theorem run55 {n : Nat} {x y : D} {ps : List Int} {a : O} (hx : x.sz < 1099511627776) (hn : 2 * x.sz + 2 ≤ n) (hp : ps.length < 1099511627776) (ha : O.low 3 a = true) :
    yieldV (call X E (n + 1)) 55 [.ref 1 0, .ref 2 0] y.v ps [a, .cells x.v.cells, .cells [.sl [] .nil]] = some (!(x.same y), [a, .cells x.v.cells, .cells [if x.same y then pv ps else .sl [] .nil]]) := by
  obtain ⟨m, rfl⟩ : ∃ m, n = m + 1 := ⟨n - 1, by omega⟩
  refine yield_of (by simp [V.lows, V.low]) ?_ ?_ rfl ?_
  · simp [olow_cells, V.lows, V.low, olow1 (Nat.le_succ 3) ha, SI.low]
    have := D.lowBox 4 x
    rwa [olow_cells] at this
  · have h3 := D.lowBox 3 x
    rw [olow_cells] at h3
    cases x.same y <;> simp [olow_cells, V.lows, V.low, ha, SI.low, h3, pv_low]
  · have hE : E 55 = none := rfl
    have hX : X 55 = some x55 := rfl
    have h4 := D.lowBox 4 x
    rw [olow_cells] at h4
    have c1 : ∀ h, call X E (m + 1) 39 [x.v, y.v] h = some (.c (.bool (x.same y)), h) := run39 x y (by omega) (m + 1) (by omega)
    have c2 : ∀ z : O, call X E (m + 1) 56 [.row 3 0 ps.length none] [a, .cells x.v.cells, .cells [.sl [] .nil], pcell ps, z] = some (pv ps, [a, .cells x.v.cells, .cells [.sl [] .nil], pcell ps, z]) := fun z => call56 hp rfl
    generalize m + 1 = N at *
    simp only [call, hE, hX]
    generalize call X E N = cf at *
    refine runF_at (by kernel_rfl) rfl rfl (wpk_of ?_)
    cases hs : x.same y with
    | true =>
      rw [hs] at c1
      simp -implicitDefEqProofs [x55_w, x55_r, x55r1_w, x55r2_w, x55r4_w, x55r5_w, D.vw2, D.okc, D.rd, D.cells_len, c1, c2, pv]
      simp [olow_cells, V.lows, V.low, olow1 (Nat.le_succ 3) ha, low_pcell, h4, lows_I64, SI.low]
    | false =>
      rw [hs] at c1
      simp -implicitDefEqProofs [x55_w, x55_r, x55r1_w, x55r2_w, x55r3_w, D.vw2, D.okc, D.rd, D.cells_len, c1]
      simp [olow_cells, V.lows, V.low, olow1 (Nat.le_succ 3) ha, low_pcell, h4, SI.low]
end Go.Proofs.Ytbkgpdkimcnpgaa.Ab
