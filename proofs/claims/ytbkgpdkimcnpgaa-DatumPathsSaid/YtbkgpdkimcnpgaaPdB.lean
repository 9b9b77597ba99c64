/- Equal and Compare. -/
import Derived.Test.YtbkgpdkimcnpgaaPdA
namespace Go.Proofs.Ytbkgpdkimcnpgaa.Ab
open Go
set_option linter.unusedVariables false
set_option linter.unusedSimpArgs false
set_option maxRecDepth 4000
set_option maxHeartbeats 1000000

/- Rd21 -/

theorem get_at0 (h r : List O) (x : O) : (h ++ x :: r)[h.length]? = some x := by simp
theorem get_at1 (h r : List O) (x y : O) : (h ++ x :: y :: r)[h.length + 1]? = some y := by
  rw [List.getElem?_append_right (by omega)]
  simp
theorem set_at0 (h r : List O) (x z : O) : (h ++ x :: r).set h.length z = h ++ z :: r := by
  rw [List.set_append_right _ _ (Nat.le_refl _)]
  simp
theorem set_at1 (h r : List O) (x y z : O) : (h ++ x :: y :: r).set (h.length + 1) z = h ++ x :: z :: r := by
  rw [List.set_append_right _ _ (by omega)]
  simp
attribute [simp] get_at0 get_at1 set_at0 set_at1

structure I63 (l l' : List D) (q : Nat) (m : Nat) (s : SF) : Prop where
  j : ∃ j : Nat, j + m = l.length ∧ s.e 17 = .c (.int .i64 j) ∧ D.sames l l' = D.sames (l.drop j) (l'.drop j)
  e1 : s.e 1 = .sl (D.vs l') .any
  e2 : s.e 2 = .c (.func (.func q) #[] #[])
  e15 : s.e 15 = .sl (D.vs l) .any
  e16 : s.e 16 = .c (.int .i64 l.length)
  b : s.base = 0

theorem step63 {cf : CallF} {fu q : Nat} {l l' : List D} (hll : l.length = l'.length) (hl : D.szs l < 4611686018427387904) (hc : ∀ x ∈ l, ∀ y ∈ l', ∀ h, cf q [x.v, y.v] h = some (.c (.bool (x.same y)), h)) {Q : Ex → SF → Prop}
    (hQ : ∀ s, D.sames l l' = true → s.base = 0 → Q (.exit 0) s)
    (hR : ∀ s, D.sames l l' = false → s.e 6 = .c (.bool false) → s.base = 0 → Q .ret s) (m : Nat) (s : SF) (I : I63 l l' q m s) :
    wpk cf fu x63l11 [] (fun e s' => match e with | .normal => ∃ k1, k1 < m ∧ I63 l l' q k1 s' | e => Q e s') s := by
  obtain ⟨⟨j, hj, e17, hf⟩, e1, e2, e15, e16, hb⟩ := I
  obtain ⟨e, h, base, rb⟩ := s
  simp only at e17 e1 e2 e15 e16 hb
  subst hb
  have hlen := D.len_szs l
  by_cases hm : j < l.length
  · have hm' : j < l'.length := by omega
    have hlt : (j : Int) < l.length := by omega
    have hx := hc _ (List.getElem_mem hm) _ (List.getElem_mem hm')
    have hd : l.drop j = l[j] :: l.drop (j + 1) := List.drop_eq_getElem_cons hm
    have hd' : l'.drop j = l'[j] :: l'.drop (j + 1) := List.drop_eq_getElem_cons hm'
    rw [hd, hd', D.sames] at hf
    cases hs : (l[j]).same l'[j] with
    | true =>
      rw [hs] at hx
      simp -implicitDefEqProofs [x63l11_w, x63r5_w, x63r6_w, x63r7_w, x63r8_w, x63r9_w, x63r10_w, e1, e2, e15, e16, e17, D.vs_len, hlt, hm, hm', D.vs_getE, D.cells_len, D.rd, D.okc, D.spl, hx]
      refine ⟨m - 1, by omega, ⟨⟨j + 1, by omega, ?_, ?_⟩, ?_, ?_, ?_, ?_, rfl⟩⟩
      · simp only [upd_at, e17]
        simp
        rw [wrap_in (by omega)]
      · rw [hf, hs]; rfl
      · simp [upd_at, e1]
      · simp [upd_at, e2]
      · simp [upd_at, e15]
      · simp [upd_at, e16]
    | false =>
      rw [hs] at hx
      simp -implicitDefEqProofs [x63l11_w, x63r5_w, x63r6_w, x63r7_w, x63r8_w, x63r9_w, x63r10_w, e1, e2, e15, e16, e17, D.vs_len, hlt, hm, hm', D.vs_getE, D.cells_len, D.rd, D.okc, D.spl, hx]
      refine hR _ (by rw [hf, hs]; rfl) ?_ rfl
      simp [upd_at]
  · have hlt : ¬ (j : Int) < l.length := by omega
    simp -implicitDefEqProofs [x63l11_w, x63r5_w, x63r6_w, e1, e2, e15, e16, e17, D.vs_len, hlt]
    refine hQ _ ?_ rfl
    rw [hf, List.drop_of_length_le (by omega), List.drop_of_length_le (by omega)]
    rfl

theorem run63 {n q : Nat} {l l' : List D} (hl : D.szs l < 4611686018427387904) (hn : l.length < n) (hc : ∀ x ∈ l, ∀ y ∈ l', Gives n q [x.v, y.v] (.c (.bool (x.same y)))) :
    Gives (n + 1) 63 [.sl (D.vs l) .any, .sl (D.vs l') .any, .c (.func (.func q) #[] #[])] (.c (.bool (D.sames l l'))) := by
  refine gives_of rfl rfl rfl (by kernel_rfl) ⟨rfl, rfl⟩ (by simp [V.lows, V.low, D.lows, SI.low]) ?_
  have hlen := D.len_szs l
  by_cases hll : l.length = l'.length
  · have hle : ((l.length : Int) != l'.length) = false := by simp [hll]
    simp -implicitDefEqProofs [x63_w, x63_r, x63r1_w, x63r2_w, x63r3_w, x63r4_w, D.vs_len, hle]
    refine lpk_of (I63 l l' q) l.length (by omega) ⟨⟨0, by simp, ?_, by simp⟩, ?_, ?_, ?_, ?_, rfl⟩ ?_
    · simp [upd_at]
    · simp [upd_at, arg0]
    · simp [upd_at, arg0]
    · simp [upd_at]
    · simp [upd_at]
    · refine step63 hll (by omega) (fun x hx y hy h => hc x hx y hy h) (fun s h1 hb => ?_) fun s h1 h4 hb => ?_
      · obtain ⟨e, h, base, rb⟩ := s
        simp only at hb
        subst hb
        simp -implicitDefEqProofs [x63_r, x63r12_w, h1]
      · obtain ⟨e, h, base, rb⟩ := s
        simp only at h4 hb
        subst hb
        simp -implicitDefEqProofs [x63_r, h4, h1]
  · have hle : ((l.length : Int) != l'.length) = true := by simp; omega
    have hsm : D.sames l l' = false := by
      cases h : D.sames l l' with
      | false => rfl
      | true => exact absurd (D.sames_len h) hll
    simp -implicitDefEqProofs [x63_w, x63_r, x63r1_w, x63r2_w, x63r3_w, x63r4_w, D.vs_len, hle, hsm]

theorem run39 : ∀ d d' : D, d.sz < 4611686018427387904 → ∀ n, 2 * d.sz + 2 ≤ n → Gives n 39 [d.v, d'.v] (.c (.bool (d.same d'))) := by
  refine D.ind fun k n t l ih d' hs m hm => ?_
  obtain ⟨k', n', t', l'⟩ := d'
  simp only [D.sz] at hs hm
  obtain ⟨m, rfl⟩ : ∃ m', m = m' + 2 := ⟨m - 2, by omega⟩
  have hlen := D.len_szs l
  have h63 : ∀ h, call X E (m + 1) 63 [.sl (D.vs l) .any, .sl (D.vs l') .any, .c (.func (.func 39) #[] #[])] h = some (.c (.bool (D.sames l l')), h) :=
    run63 (n := m) (by omega) (by omega) fun x hx y hy => ih x hx y (by have := D.mem_sz hx; omega) m (by have := D.mem_sz hx; omega)
  refine gives_of rfl rfl rfl (by kernel_rfl) ⟨rfl, rfl⟩ (by simp [D.vw2, V.lows, D.low]) ?_
  have hdiff : D.same (.mk k n t l) (.mk k' n' t' l') = (k == k' && n == n' && eqS t t' && D.sames l l') := by simp [D.same]
  cases hk : (k == k') with
  | false => simp -implicitDefEqProofs [x39_w, x39_r, x39r1_w, x39r2_w, D.vw2, D.v, hk, hdiff]
  | true =>
    cases hn : (n == n') with
    | false => simp -implicitDefEqProofs [x39_w, x39_r, x39r1_w, x39r2_w, D.vw2, D.v, hk, hn, hdiff]
    | true =>
      cases ht : eqS t t' with
      | false => simp -implicitDefEqProofs [x39_w, x39_r, x39r1_w, x39r2_w, binS_eq, D.vw2, D.v, hk, hn, ht, hdiff]
      | true => simp -implicitDefEqProofs [x39_w, x39_r, x39r1_w, x39r2_w, binS_eq, D.vw2, D.v, hk, hn, ht, h63, hdiff]

/- Rd22 -/

def cmpI (a b : Int) : Int := if a < b then -1 else if b < a then 1 else 0
def ltS (a b : ByteArray) : Bool := Op.bytesLess a.toList b.toList
def gtS (a b : ByteArray) : Bool := !(Op.bytesLess a.toList b.toList || a.toList == b.toList)
def cmpS (a b : ByteArray) : Int := if ltS a b then -1 else if gtS a b then 1 else 0
theorem binS_lt (a b : ByteArray) : binS .lss a b = some (.c (.bool (ltS a b))) := rfl
theorem binS_gt (a b : ByteArray) : binS .gtr a b = some (.c (.bool (gtS a b))) := rfl
theorem eqS_refl (a : ByteArray) : eqS a a = true := by simp [eqS]
/-- The first that is not 0. -/
def fst0 (a b : Int) : Int := if a = 0 then b else a
mutual
def D.cmp : D → D → Int
  | .mk k n t l, .mk k' n' t' l' => fst0 (cmpI k k') (fst0 (cmpI n n') (fst0 (cmpS t t') (D.cmps l l')))
def D.cmps : List D → List D → Int
  | [], [] => 0
  | a :: l, b :: l' => fst0 (a.cmp b) (D.cmps l l')
  | [], _ :: _ => -1
  | _ :: _, [] => 1
end

theorem run74 {n : Nat} (a : Int) : Gives (n + 1) 74 [.c (.int .i64 a)] (.c (.bool false)) := by
  refine gives_of rfl rfl rfl (by kernel_rfl) ⟨rfl, rfl⟩ (by simp [V.lows]) ?_
  simp -implicitDefEqProofs [x74_w, x74_r, x74r1_w, x74r2_w]
theorem run65 {n : Nat} (a b : Int) : Gives (n + 1 + 1) 65 [.c (.int .i64 a), .c (.int .i64 b)] (.c (.int .i64 (cmpI a b))) := by
  have c1 : ∀ (x : Int) h, call X E (n + 1) 74 [.c (.int .i64 x)] h = some (.c (.bool false), h) := fun x => run74 x
  generalize n + 1 = m at *
  refine gives_of rfl rfl rfl (by kernel_rfl) ⟨rfl, rfl⟩ (by simp [V.lows]) ?_
  by_cases h1 : a < b
  · simp -implicitDefEqProofs [x65_w, x65_r, x65r1_w, x65r2_w, x65r3_w, x65r4_w, x65r5_w, x65r6_w, x65r7_w, x65r8_w, x65r9_w, x65r10_w, x65r11_w, x65r12_w, x65r13_w, x65r14_w, c1, h1, cmpI]
  · by_cases h2 : b < a
    · simp -implicitDefEqProofs [x65_w, x65_r, x65r1_w, x65r2_w, x65r3_w, x65r4_w, x65r5_w, x65r6_w, x65r7_w, x65r8_w, x65r9_w, x65r10_w, x65r11_w, x65r12_w, x65r13_w, x65r14_w, c1, h1, h2, cmpI]
    · simp -implicitDefEqProofs [x65_w, x65_r, x65r1_w, x65r2_w, x65r3_w, x65r4_w, x65r5_w, x65r6_w, x65r7_w, x65r8_w, x65r9_w, x65r10_w, x65r11_w, x65r12_w, x65r13_w, x65r14_w, c1, h1, h2, cmpI]
theorem run75 {n : Nat} (a : Int) : Gives (n + 1) 75 [.c (.int .i64 a)] (.c (.bool false)) := by
  refine gives_of rfl rfl rfl (by kernel_rfl) ⟨rfl, rfl⟩ (by simp [V.lows]) ?_
  simp -implicitDefEqProofs [x75_w, x75_r, x75r1_w, x75r2_w]
theorem run66 {n : Nat} (a b : Int) : Gives (n + 1 + 1) 66 [.c (.int .i64 a), .c (.int .i64 b)] (.c (.int .i64 (cmpI a b))) := by
  have c1 : ∀ (x : Int) h, call X E (n + 1) 75 [.c (.int .i64 x)] h = some (.c (.bool false), h) := fun x => run75 x
  generalize n + 1 = m at *
  refine gives_of rfl rfl rfl (by kernel_rfl) ⟨rfl, rfl⟩ (by simp [V.lows]) ?_
  by_cases h1 : a < b
  · simp -implicitDefEqProofs [x66_w, x66_r, x66r1_w, x66r2_w, x66r3_w, x66r4_w, x66r5_w, x66r6_w, x66r7_w, x66r8_w, x66r9_w, x66r10_w, x66r11_w, x66r12_w, x66r13_w, x66r14_w, c1, h1, cmpI]
  · by_cases h2 : b < a
    · simp -implicitDefEqProofs [x66_w, x66_r, x66r1_w, x66r2_w, x66r3_w, x66r4_w, x66r5_w, x66r6_w, x66r7_w, x66r8_w, x66r9_w, x66r10_w, x66r11_w, x66r12_w, x66r13_w, x66r14_w, c1, h1, h2, cmpI]
    · simp -implicitDefEqProofs [x66_w, x66_r, x66r1_w, x66r2_w, x66r3_w, x66r4_w, x66r5_w, x66r6_w, x66r7_w, x66r8_w, x66r9_w, x66r10_w, x66r11_w, x66r12_w, x66r13_w, x66r14_w, c1, h1, h2, cmpI]
theorem run76 {n : Nat} (a : ByteArray) : Gives (n + 1) 76 [.c (.string a)] (.c (.bool false)) := by
  refine gives_of rfl rfl rfl (by kernel_rfl) ⟨rfl, rfl⟩ (by simp [V.lows]) ?_
  simp -implicitDefEqProofs [x76_w, x76_r, x76r1_w, x76r2_w, binS_ne, eqS_refl]
theorem run67 {n : Nat} (a b : ByteArray) : Gives (n + 1 + 1) 67 [.c (.string a), .c (.string b)] (.c (.int .i64 (cmpS a b))) := by
  have c1 : ∀ (x : ByteArray) h, call X E (n + 1) 76 [.c (.string x)] h = some (.c (.bool false), h) := fun x => run76 x
  generalize n + 1 = m at *
  refine gives_of rfl rfl rfl (by kernel_rfl) ⟨rfl, rfl⟩ (by simp [V.lows]) ?_
  cases h1 : ltS a b with
  | true => simp -implicitDefEqProofs [x67_w, x67_r, x67r1_w, x67r2_w, x67r3_w, x67r4_w, x67r5_w, x67r6_w, x67r7_w, x67r8_w, x67r9_w, x67r10_w, x67r11_w, x67r12_w, x67r13_w, x67r14_w, c1, binS_lt, binS_gt, h1, cmpS]
  | false =>
    cases h2 : gtS a b with
    | true => simp -implicitDefEqProofs [x67_w, x67_r, x67r1_w, x67r2_w, x67r3_w, x67r4_w, x67r5_w, x67r6_w, x67r7_w, x67r8_w, x67r9_w, x67r10_w, x67r11_w, x67r12_w, x67r13_w, x67r14_w, c1, binS_lt, binS_gt, h1, h2, cmpS]
    | false => simp -implicitDefEqProofs [x67_w, x67_r, x67r1_w, x67r2_w, x67r3_w, x67r4_w, x67r5_w, x67r6_w, x67r7_w, x67r8_w, x67r9_w, x67r10_w, x67r11_w, x67r12_w, x67r13_w, x67r14_w, c1, binS_lt, binS_gt, h1, h2, cmpS]


def orI : List Int → Int
  | [] => 0
  | a :: l => fst0 a (orI l)
structure I64l (l : List Int) (m : Nat) (s : SF) : Prop where
  j : ∃ j : Nat, j + m = l.length ∧ s.e 8 = .c (.int .i64 j) ∧ orI l = orI (l.drop j)
  e3 : s.e 3 = .c (.int .i64 0)
  e6 : s.e 6 = .sl (l.map I64) .any
  e7 : s.e 7 = .c (.int .i64 l.length)
  b : s.base = 0
theorem step64 {cf : CallF} {fu : Nat} {l : List Int} (hl : l.length < 4611686018427387904) {Q : Ex → SF → Prop}
    (hQ : ∀ s, orI l = 0 → s.e 3 = .c (.int .i64 0) → s.base = 0 → Q (.exit 0) s)
    (hR : ∀ s, s.e 2 = .c (.int .i64 (orI l)) → s.base = 0 → Q .ret s) (m : Nat) (s : SF) (I : I64l l m s) :
    wpk cf fu x64l9 [] (fun e s' => match e with | .normal => ∃ k1, k1 < m ∧ I64l l k1 s' | e => Q e s') s := by
  obtain ⟨⟨j, hj, e8, hf⟩, e3, e6, e7, hb⟩ := I
  obtain ⟨e, h, base, rb⟩ := s
  simp only at e8 e3 e6 e7 hb
  subst hb
  by_cases hm : j < l.length
  · have hlt : (j : Int) < l.length := by omega
    have hd : l.drop j = l[j] :: l.drop (j + 1) := List.drop_eq_getElem_cons hm
    rw [hd, orI, fst0] at hf
    cases hz : (l[j] != 0) with
    | false =>
      have hz' : l[j] = 0 := by simpa using hz
      simp -implicitDefEqProofs [x64l9_w, x64r4_w, x64r5_w, x64r6_w, x64r7_w, x64r8_w, e3, e6, e7, e8, hlt, hm, hz, I64]
      refine ⟨m - 1, by omega, ⟨⟨j + 1, by omega, ?_, ?_⟩, ?_, ?_, ?_, rfl⟩⟩
      · simp only [upd_at, e8]
        simp
        rw [wrap_in (by omega)]
      · rw [hf, if_pos hz']
      · simp [upd_at, e3]
      · simp [upd_at, e6]
      · simp [upd_at, e7]
    | true =>
      have hz' : ¬ l[j] = 0 := by simpa using hz
      simp -implicitDefEqProofs [x64l9_w, x64r4_w, x64r5_w, x64r6_w, x64r7_w, x64r8_w, e3, e6, e7, e8, hlt, hm, hz, I64]
      refine hR _ ?_ rfl
      rw [hf, if_neg hz']
      simp [upd_at]
  · have hlt : ¬ (j : Int) < l.length := by omega
    simp -implicitDefEqProofs [x64l9_w, x64r4_w, x64r5_w, x64r6_w, x64r7_w, x64r8_w, e3, e6, e7, e8, hlt]
    refine hQ _ ?_ (by simp [upd_at, e3]) rfl
    rw [hf, List.drop_of_length_le (by omega)]
    rfl
theorem run64 {n : Nat} {l : List Int} {i : SI} (hn : l.length < n) (hl : l.length < 4611686018427387904) (hi : i.low 0 = true) : Gives (n + 1) 64 [.sl (l.map I64) i] (.c (.int .i64 (orI l))) := by
  have hlow : V.lows 0 (l.map I64) = true := lows_of fun v hv => by
    obtain ⟨x, _, rfl⟩ := List.mem_map.1 hv
    rfl
  refine gives_of rfl rfl rfl (by kernel_rfl) ⟨rfl, rfl⟩ (by simp [V.lows, V.low, hlow, SI.low]) ?_
  simp -implicitDefEqProofs [x64_w, x64_r, x64r1_w, x64r2_w, x64r3_w]
  refine lpk_of (I64l l) l.length (by omega) ⟨⟨0, by simp, ?_, by simp⟩, ?_, ?_, ?_, rfl⟩ ?_
  · simp [upd_at]
  · simp [upd_at]
  · simp [upd_at, arg0]
  · simp [upd_at]
  · refine step64 hl (fun s h1 h3 hb => ?_) fun s h2 hb => ?_
    · obtain ⟨e, h, base, rb⟩ := s
      simp only at h3 hb
      subst hb
      simp -implicitDefEqProofs [x64_r, x64r10_w, h1, h3]
    · obtain ⟨e, h, base, rb⟩ := s
      simp only at h2 hb
      subst hb
      simp -implicitDefEqProofs [x64_r, h2]

theorem run69 {n : Nat} (a b : Bool) : Gives (n + 1) 69 [.c (.bool a), .c (.bool b)] (.c (.int .i64 (if a then -1 else if b then 1 else 0))) := by
  refine gives_of rfl rfl rfl (by kernel_rfl) ⟨rfl, rfl⟩ (by simp [V.lows]) ?_
  cases a <;> cases b <;> simp -implicitDefEqProofs [x69_w, x69_r, x69r1_w, x69r2_w, x69r3_w, x69r4_w, x69r5_w, x69r6_w]

/- Rd23 -/

structure I68 (l l' : List D) (q : Nat) (m : Nat) (s : SF) : Prop where
  j : ∃ j : Nat, j + m = l.length ∧ s.e 13 = .c (.int .i64 j) ∧ D.cmps l l' = D.cmps (l.drop j) (l'.drop j)
  e0 : s.e 0 = .sl (D.vs l) .any
  e1 : s.e 1 = .sl (D.vs l') .any
  e2 : s.e 2 = .c (.func (.func q) #[] #[])
  e11 : s.e 11 = .sl (D.vs l) .any
  e12 : s.e 12 = .c (.int .i64 l.length)
  b : s.base = 0

theorem step68 {cf : CallF} {fu q : Nat} {l l' : List D} (hl : D.szs l < 4611686018427387904) (hc : ∀ x ∈ l, ∀ y ∈ l', ∀ h, cf q [x.v, y.v] h = some (.c (.int .i64 (x.cmp y)), h)) {Q : Ex → SF → Prop}
    (hQ : ∀ s, D.cmps l l' = (if l.length < l'.length then -1 else 0) → s.e 0 = .sl (D.vs l) .any → s.e 1 = .sl (D.vs l') .any → s.base = 0 → Q (.exit 0) s)
    (hR : ∀ s, s.e 6 = .c (.int .i64 (D.cmps l l')) → s.base = 0 → Q .ret s) (m : Nat) (s : SF) (I : I68 l l' q m s) :
    wpk cf fu x68l12 [] (fun e s' => match e with | .normal => ∃ k1, k1 < m ∧ I68 l l' q k1 s' | e => Q e s') s := by
  obtain ⟨⟨j, hj, e13, hf⟩, e0, e1, e2, e11, e12, hb⟩ := I
  obtain ⟨e, h, base, rb⟩ := s
  simp only at e13 e0 e1 e2 e11 e12 hb
  subst hb
  have hlen := D.len_szs l
  by_cases hm : j < l.length
  · have hlt : (j : Int) < l.length := by omega
    have hd : l.drop j = l[j] :: l.drop (j + 1) := List.drop_eq_getElem_cons hm
    by_cases hm' : j < l'.length
    · have hlt' : ¬ (l'.length : Int) ≤ j := by omega
      have hlt2 : ¬ l'.length ≤ j := by omega
      have hd' : l'.drop j = l'[j] :: l'.drop (j + 1) := List.drop_eq_getElem_cons hm'
      have hx := hc _ (List.getElem_mem hm) _ (List.getElem_mem hm')
      rw [hd, hd', D.cmps, fst0] at hf
      cases hz : ((l[j]).cmp l'[j] != 0) with
      | false =>
        have hz' : (l[j]).cmp l'[j] = 0 := by simpa using hz
        simp -implicitDefEqProofs [x68l12_w, x68r3_w, x68r4_w, x68r5_w, x68r6_w, x68r7_w, x68r8_w, x68r9_w, x68r10_w, x68r11_w, e0, e1, e2, e11, e12, e13, D.vs_len, hlt, hlt', hlt2, hm, hm', D.vs_getE, D.cells_len, D.rd, D.okc, D.spl, hx, hz]
        refine ⟨m - 1, by omega, ⟨⟨j + 1, by omega, ?_, ?_⟩, ?_, ?_, ?_, ?_, ?_, rfl⟩⟩
        · simp only [upd_at, e13]
          simp
          rw [wrap_in (by omega)]
        · rw [hf, if_pos hz']
        · simp [upd_at, e0]
        · simp [upd_at, e1]
        · simp [upd_at, e2]
        · simp [upd_at, e11]
        · simp [upd_at, e12]
      | true =>
        have hz' : ¬ (l[j]).cmp l'[j] = 0 := by simpa using hz
        simp -implicitDefEqProofs [x68l12_w, x68r3_w, x68r4_w, x68r5_w, x68r6_w, x68r7_w, x68r8_w, x68r9_w, x68r10_w, x68r11_w, e0, e1, e2, e11, e12, e13, D.vs_len, hlt, hlt', hlt2, hm, hm', D.vs_getE, D.cells_len, D.rd, D.okc, D.spl, hx, hz]
        refine hR _ ?_ rfl
        rw [hf, if_neg hz']
        simp [upd_at]
    · have hlt' : (l'.length : Int) ≤ j := by omega
      have hlt2 : l'.length ≤ j := by omega
      simp -implicitDefEqProofs [x68l12_w, x68r3_w, x68r4_w, x68r5_w, x68r6_w, e0, e1, e2, e11, e12, e13, D.vs_len, hlt, hlt', hlt2, hm, D.vs_getE, D.cells_len, D.rd, D.okc, D.spl]
      refine hR _ ?_ rfl
      rw [hf, hd, List.drop_of_length_le hlt2, D.cmps]
      simp [upd_at]
  · have hlt : ¬ (j : Int) < l.length := by omega
    simp -implicitDefEqProofs [x68l12_w, x68r3_w, e0, e1, e2, e11, e12, e13, D.vs_len, hlt]
    refine hQ _ ?_ (by simp [upd_at, e0]) (by simp [upd_at, e1]) rfl
    rw [hf, List.drop_of_length_le (by omega)]
    have hjl : j = l.length := by omega
    subst hjl
    split
    · rename_i h
      rw [List.drop_eq_getElem_cons h, D.cmps]
    · rename_i h
      rw [List.drop_of_length_le (by omega), D.cmps]

theorem run68 {n q : Nat} {l l' : List D} (hl : D.szs l < 4611686018427387904) (hn : l.length < n) (hc : ∀ x ∈ l, ∀ y ∈ l', Gives n q [x.v, y.v] (.c (.int .i64 (x.cmp y)))) :
    Gives (n + 1) 68 [.sl (D.vs l) .any, .sl (D.vs l') .any, .c (.func (.func q) #[] #[])] (.c (.int .i64 (D.cmps l l'))) := by
  refine gives_of rfl rfl rfl (by kernel_rfl) ⟨rfl, rfl⟩ (by simp [V.lows, V.low, D.lows, SI.low]) ?_
  have hlen := D.len_szs l
  simp -implicitDefEqProofs [x68_w, x68_r, x68r1_w, x68r2_w, D.vs_len]
  refine lpk_of (I68 l l' q) l.length (by omega) ⟨⟨0, by simp, ?_, by simp⟩, ?_, ?_, ?_, ?_, ?_, rfl⟩ ?_
  · simp [upd_at]
  · simp [upd_at, arg0]
  · simp [upd_at, arg0]
  · simp [upd_at, arg0]
  · simp [upd_at]
  · simp [upd_at]
  · refine step68 (by omega) (fun x hx y hy h => hc x hx y hy h) (fun s h1 h2 h3 hb => ?_) fun s h4 hb => ?_
    · obtain ⟨e, h, base, rb⟩ := s
      simp only at h2 h3 hb
      subst hb
      by_cases hll : l.length < l'.length
      · have hi : (l.length : Int) < l'.length := by omega
        simp -implicitDefEqProofs [x68_r, x68r13_w, x68r14_w, x68r15_w, h2, h3, D.vs_len, hi, hll, h1]
      · have hi : ¬ (l.length : Int) < l'.length := by omega
        simp -implicitDefEqProofs [x68_r, x68r13_w, x68r14_w, x68r15_w, h2, h3, D.vs_len, hi, hll, h1]
    · obtain ⟨e, h, base, rb⟩ := s
      simp only at h4 hb
      subst hb
      simp -implicitDefEqProofs [x68_r, h4]

theorem run41 : ∀ d d' : D, d.sz < 4611686018427387904 → ∀ n, 2 * d.sz + 6 ≤ n → Gives n 41 [d.v, d'.v] (.c (.int .i64 (d.cmp d'))) := by
  refine D.ind fun k n t l ih d' hs m hm => ?_
  obtain ⟨k', n', t', l'⟩ := d'
  simp only [D.sz] at hs hm
  obtain ⟨m, rfl⟩ : ∃ m', m = m' + 2 := ⟨m - 2, by omega⟩
  have hlen := D.len_szs l
  have h68 : ∀ h, call X E (m + 1) 68 [.sl (D.vs l) .any, .sl (D.vs l') .any, .c (.func (.func 41) #[] #[])] h = some (.c (.int .i64 (D.cmps l l')), h) :=
    run68 (n := m) (by omega) (by omega) fun x hx y hy => ih x hx y (by have := D.mem_sz hx; omega) m (by have := D.mem_sz hx; omega)
  have h65 : ∀ h, call X E (m + 1) 65 [.c (.int .i64 k), .c (.int .i64 k')] h = some (.c (.int .i64 (cmpI k k')), h) := gives_up (by omega) (run65 (n := 0) k k')
  have h66 : ∀ h, call X E (m + 1) 66 [.c (.int .i64 n), .c (.int .i64 n')] h = some (.c (.int .i64 (cmpI n n')), h) := gives_up (by omega) (run66 (n := 0) n n')
  have h67 : ∀ h, call X E (m + 1) 67 [.c (.string t), .c (.string t')] h = some (.c (.int .i64 (cmpS t t')), h) := gives_up (by omega) (run67 (n := 0) t t')
  have h64 : ∀ h, call X E (m + 1) 64 [.sl [.c (.int .i64 (cmpI k k')), .c (.int .i64 (cmpI n n')), .c (.int .i64 (cmpS t t')), .c (.int .i64 (D.cmps l l'))] .full] h = some (.c (.int .i64 (orI [cmpI k k', cmpI n n', cmpS t t', D.cmps l l'])), h) :=
    run64 (n := m) (l := [cmpI k k', cmpI n n', cmpS t t', D.cmps l l']) (by simp; omega) (by simp) rfl
  have hor : orI [cmpI k k', cmpI n n', cmpS t t', D.cmps l l'] = D.cmp (.mk k n t l) (.mk k' n' t' l') := by
    simp only [orI, D.cmp, fst0]
    split <;> try rfl
    split <;> try rfl
    split <;> try rfl
    split <;> simp_all
  rw [hor] at h64
  refine gives_of rfl rfl rfl (by kernel_rfl) ⟨rfl, rfl⟩ (by simp [D.vw2, V.lows, D.low]) ?_
  simp -implicitDefEqProofs [x41_w, x41_r, x41r1_w, x41r2_w, D.vw2, D.v, h64, h65, h66, h67, h68]
end Go.Proofs.Ytbkgpdkimcnpgaa.Ab
