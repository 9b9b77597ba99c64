/- datum.Compare and the reference's Compare. -/
import Derived.Test.YtbkgpdkimcnpgaaRd21
namespace Go.Proofs.Ytbkgpdkimcnpgaa.Ab
open Go
set_option linter.unusedVariables false
set_option linter.unusedSimpArgs false
set_option maxRecDepth 4000
set_option maxHeartbeats 1000000

def cmpI (a b : Int) : Int := if a < b then -1 else if b < a then 1 else 0
def ltS (a b : ByteArray) : Bool := Op.bytesLess a.toList b.toList
def gtS (a b : ByteArray) : Bool := !(Op.bytesLess a.toList b.toList || a.toList == b.toList)
def cmpS (a b : ByteArray) : Int := if ltS a b then -1 else if gtS a b then 1 else 0
theorem binS_lt (a b : ByteArray) : binS .lss a b = some (.c (.bool (ltS a b))) := rfl
theorem binS_gt (a b : ByteArray) : binS .gtr a b = some (.c (.bool (gtS a b))) := rfl
theorem eqS_refl (a : ByteArray) : eqS a a = true := by simp [eqS]
/-- The first that is not 0. -/
def fst0 (a b : Int) : Int := if a = 0 then b else a
mutual
def D.cmp : D → D → Int
  | .mk k n t l, .mk k' n' t' l' => fst0 (cmpI k k') (fst0 (cmpI n n') (fst0 (cmpS t t') (D.cmps l l')))
def D.cmps : List D → List D → Int
  | [], [] => 0
  | a :: l, b :: l' => fst0 (a.cmp b) (D.cmps l l')
  | [], _ :: _ => -1
  | _ :: _, [] => 1
end

theorem run74 {n : Nat} (a : Int) : Gives (n + 1) 74 [.c (.int .i64 a)] (.c (.bool false)) := by
  refine gives_of rfl rfl rfl (by kernel_rfl) ⟨rfl, rfl⟩ (by simp [V.lows]) ?_
  simp -implicitDefEqProofs [x74_w, x74_r, x74r1_w, x74r2_w]
theorem run65 {n : Nat} (a b : Int) : Gives (n + 1 + 1) 65 [.c (.int .i64 a), .c (.int .i64 b)] (.c (.int .i64 (cmpI a b))) := by
  have c1 : ∀ (x : Int) h, call X E (n + 1) 74 [.c (.int .i64 x)] h = some (.c (.bool false), h) := fun x => run74 x
  generalize n + 1 = m at *
  refine gives_of rfl rfl rfl (by kernel_rfl) ⟨rfl, rfl⟩ (by simp [V.lows]) ?_
  by_cases h1 : a < b
  · simp -implicitDefEqProofs [x65_w, x65_r, x65r1_w, x65r2_w, x65r3_w, x65r4_w, x65r5_w, x65r6_w, x65r7_w, x65r8_w, x65r9_w, x65r10_w, x65r11_w, x65r12_w, x65r13_w, x65r14_w, c1, h1, cmpI]
  · by_cases h2 : b < a
    · simp -implicitDefEqProofs [x65_w, x65_r, x65r1_w, x65r2_w, x65r3_w, x65r4_w, x65r5_w, x65r6_w, x65r7_w, x65r8_w, x65r9_w, x65r10_w, x65r11_w, x65r12_w, x65r13_w, x65r14_w, c1, h1, h2, cmpI]
    · simp -implicitDefEqProofs [x65_w, x65_r, x65r1_w, x65r2_w, x65r3_w, x65r4_w, x65r5_w, x65r6_w, x65r7_w, x65r8_w, x65r9_w, x65r10_w, x65r11_w, x65r12_w, x65r13_w, x65r14_w, c1, h1, h2, cmpI]
theorem run75 {n : Nat} (a : Int) : Gives (n + 1) 75 [.c (.int .i64 a)] (.c (.bool false)) := by
  refine gives_of rfl rfl rfl (by kernel_rfl) ⟨rfl, rfl⟩ (by simp [V.lows]) ?_
  simp -implicitDefEqProofs [x75_w, x75_r, x75r1_w, x75r2_w]
theorem run66 {n : Nat} (a b : Int) : Gives (n + 1 + 1) 66 [.c (.int .i64 a), .c (.int .i64 b)] (.c (.int .i64 (cmpI a b))) := by
  have c1 : ∀ (x : Int) h, call X E (n + 1) 75 [.c (.int .i64 x)] h = some (.c (.bool false), h) := fun x => run75 x
  generalize n + 1 = m at *
  refine gives_of rfl rfl rfl (by kernel_rfl) ⟨rfl, rfl⟩ (by simp [V.lows]) ?_
  by_cases h1 : a < b
  · simp -implicitDefEqProofs [x66_w, x66_r, x66r1_w, x66r2_w, x66r3_w, x66r4_w, x66r5_w, x66r6_w, x66r7_w, x66r8_w, x66r9_w, x66r10_w, x66r11_w, x66r12_w, x66r13_w, x66r14_w, c1, h1, cmpI]
  · by_cases h2 : b < a
    · simp -implicitDefEqProofs [x66_w, x66_r, x66r1_w, x66r2_w, x66r3_w, x66r4_w, x66r5_w, x66r6_w, x66r7_w, x66r8_w, x66r9_w, x66r10_w, x66r11_w, x66r12_w, x66r13_w, x66r14_w, c1, h1, h2, cmpI]
    · simp -implicitDefEqProofs [x66_w, x66_r, x66r1_w, x66r2_w, x66r3_w, x66r4_w, x66r5_w, x66r6_w, x66r7_w, x66r8_w, x66r9_w, x66r10_w, x66r11_w, x66r12_w, x66r13_w, x66r14_w, c1, h1, h2, cmpI]
theorem run76 {n : Nat} (a : ByteArray) : Gives (n + 1) 76 [.c (.string a)] (.c (.bool false)) := by
  refine gives_of rfl rfl rfl (by kernel_rfl) ⟨rfl, rfl⟩ (by simp [V.lows]) ?_
  simp -implicitDefEqProofs [x76_w, x76_r, x76r1_w, x76r2_w, binS_ne, eqS_refl]
theorem run67 {n : Nat} (a b : ByteArray) : Gives (n + 1 + 1) 67 [.c (.string a), .c (.string b)] (.c (.int .i64 (cmpS a b))) := by
  have c1 : ∀ (x : ByteArray) h, call X E (n + 1) 76 [.c (.string x)] h = some (.c (.bool false), h) := fun x => run76 x
  generalize n + 1 = m at *
  refine gives_of rfl rfl rfl (by kernel_rfl) ⟨rfl, rfl⟩ (by simp [V.lows]) ?_
  cases h1 : ltS a b with
  | true => simp -implicitDefEqProofs [x67_w, x67_r, x67r1_w, x67r2_w, x67r3_w, x67r4_w, x67r5_w, x67r6_w, x67r7_w, x67r8_w, x67r9_w, x67r10_w, x67r11_w, x67r12_w, x67r13_w, x67r14_w, c1, binS_lt, binS_gt, h1, cmpS]
  | false =>
    cases h2 : gtS a b with
    | true => simp -implicitDefEqProofs [x67_w, x67_r, x67r1_w, x67r2_w, x67r3_w, x67r4_w, x67r5_w, x67r6_w, x67r7_w, x67r8_w, x67r9_w, x67r10_w, x67r11_w, x67r12_w, x67r13_w, x67r14_w, c1, binS_lt, binS_gt, h1, h2, cmpS]
    | false => simp -implicitDefEqProofs [x67_w, x67_r, x67r1_w, x67r2_w, x67r3_w, x67r4_w, x67r5_w, x67r6_w, x67r7_w, x67r8_w, x67r9_w, x67r10_w, x67r11_w, x67r12_w, x67r13_w, x67r14_w, c1, binS_lt, binS_gt, h1, h2, cmpS]


def orI : List Int → Int
  | [] => 0
  | a :: l => fst0 a (orI l)
structure I64l (l : List Int) (m : Nat) (s : SF) : Prop where
  j : ∃ j : Nat, j + m = l.length ∧ s.e 8 = .c (.int .i64 j) ∧ orI l = orI (l.drop j)
  e3 : s.e 3 = .c (.int .i64 0)
  e6 : s.e 6 = .sl (l.map I64) .any
  e7 : s.e 7 = .c (.int .i64 l.length)
  b : s.base = 0
theorem step64 {cf : CallF} {fu : Nat} {l : List Int} (hl : l.length < 4611686018427387904) {Q : Ex → SF → Prop}
    (hQ : ∀ s, orI l = 0 → s.e 3 = .c (.int .i64 0) → s.base = 0 → Q (.exit 0) s)
    (hR : ∀ s, s.e 2 = .c (.int .i64 (orI l)) → s.base = 0 → Q .ret s) (m : Nat) (s : SF) (I : I64l l m s) :
    wpk cf fu x64l9 [] (fun e s' => match e with | .normal => ∃ k1, k1 < m ∧ I64l l k1 s' | e => Q e s') s := by
  obtain ⟨⟨j, hj, e8, hf⟩, e3, e6, e7, hb⟩ := I
  obtain ⟨e, h, base, rb⟩ := s
  simp only at e8 e3 e6 e7 hb
  subst hb
  by_cases hm : j < l.length
  · have hlt : (j : Int) < l.length := by omega
    have hd : l.drop j = l[j] :: l.drop (j + 1) := List.drop_eq_getElem_cons hm
    rw [hd, orI, fst0] at hf
    cases hz : (l[j] != 0) with
    | false =>
      have hz' : l[j] = 0 := by simpa using hz
      simp -implicitDefEqProofs [x64l9_w, x64r4_w, x64r5_w, x64r6_w, x64r7_w, x64r8_w, e3, e6, e7, e8, hlt, hm, hz, I64]
      refine ⟨m - 1, by omega, ⟨⟨j + 1, by omega, ?_, ?_⟩, ?_, ?_, ?_, rfl⟩⟩
      · simp only [upd_at, e8]
        simp
        rw [wrap_in (by omega)]
      · rw [hf, if_pos hz']
      · simp [upd_at, e3]
      · simp [upd_at, e6]
      · simp [upd_at, e7]
    | true =>
      have hz' : ¬ l[j] = 0 := by simpa using hz
      simp -implicitDefEqProofs [x64l9_w, x64r4_w, x64r5_w, x64r6_w, x64r7_w, x64r8_w, e3, e6, e7, e8, hlt, hm, hz, I64]
      refine hR _ ?_ rfl
      rw [hf, if_neg hz']
      simp [upd_at]
  · have hlt : ¬ (j : Int) < l.length := by omega
    simp -implicitDefEqProofs [x64l9_w, x64r4_w, x64r5_w, x64r6_w, x64r7_w, x64r8_w, e3, e6, e7, e8, hlt]
    refine hQ _ ?_ (by simp [upd_at, e3]) rfl
    rw [hf, List.drop_of_length_le (by omega)]
    rfl
theorem run64 {n : Nat} {l : List Int} {i : SI} (hn : l.length < n) (hl : l.length < 4611686018427387904) (hi : i.low 0 = true) : Gives (n + 1) 64 [.sl (l.map I64) i] (.c (.int .i64 (orI l))) := by
  have hlow : V.lows 0 (l.map I64) = true := lows_of fun v hv => by
    obtain ⟨x, _, rfl⟩ := List.mem_map.1 hv
    rfl
  refine gives_of rfl rfl rfl (by kernel_rfl) ⟨rfl, rfl⟩ (by simp [V.lows, V.low, hlow, SI.low]) ?_
  simp -implicitDefEqProofs [x64_w, x64_r, x64r1_w, x64r2_w, x64r3_w]
  refine lpk_of (I64l l) l.length (by omega) ⟨⟨0, by simp, ?_, by simp⟩, ?_, ?_, ?_, rfl⟩ ?_
  · simp [upd_at]
  · simp [upd_at]
  · simp [upd_at, arg0]
  · simp [upd_at]
  · refine step64 hl (fun s h1 h3 hb => ?_) fun s h2 hb => ?_
    · obtain ⟨e, h, base, rb⟩ := s
      simp only at h3 hb
      subst hb
      simp -implicitDefEqProofs [x64_r, x64r10_w, h1, h3]
    · obtain ⟨e, h, base, rb⟩ := s
      simp only at h2 hb
      subst hb
      simp -implicitDefEqProofs [x64_r, h2]

theorem run69 {n : Nat} (a b : Bool) : Gives (n + 1) 69 [.c (.bool a), .c (.bool b)] (.c (.int .i64 (if a then -1 else if b then 1 else 0))) := by
  refine gives_of rfl rfl rfl (by kernel_rfl) ⟨rfl, rfl⟩ (by simp [V.lows]) ?_
  cases a <;> cases b <;> simp -implicitDefEqProofs [x69_w, x69_r, x69r1_w, x69r2_w, x69r3_w, x69r4_w, x69r5_w, x69r6_w]
end Go.Proofs.Ytbkgpdkimcnpgaa.Ab
