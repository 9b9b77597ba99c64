/- Compare is a total order of data. -/
import Derived.Test.YtbkgpdkimcnpgaaRdB
namespace Go.Proofs.Ytbkgpdkimcnpgaa.Ab
open Go
set_option linter.unusedVariables false
set_option linter.unusedSimpArgs false
set_option maxRecDepth 4000
set_option maxHeartbeats 1000000

/-- What three comparisons say of one another: of the first with the second, of the second with the third, of the first with the third. -/
def Tri (a b c : Int) : Prop := (a ≤ 0 → b ≤ 0 → c ≤ 0 ∧ (a < 0 ∨ b < 0 → c < 0)) ∧ (0 ≤ a → 0 ≤ b → 0 ≤ c ∧ (0 < a ∨ 0 < b → 0 < c))
def One (a : Int) : Prop := a = -1 ∨ a = 0 ∨ a = 1
theorem Tri.fst0 {a b c a' b' c' : Int} (h : Tri a b c) (h' : Tri a' b' c') : Tri (Ab.fst0 a a') (Ab.fst0 b b') (Ab.fst0 c c') := by
  unfold Tri Ab.fst0 at *
  split <;> split <;> split <;> omega
theorem One.fst0 {a b : Int} (h : One a) (h' : One b) : One (Ab.fst0 a b) := by
  unfold One Ab.fst0 at *
  split <;> omega
theorem fst0_neg {a b a' b' : Int} (h : a = -a') (h' : b = -b') : fst0 a b = -fst0 a' b' := by
  unfold fst0
  split <;> split <;> omega
theorem cmpI_tri (x y z : Int) : Tri (cmpI x y) (cmpI y z) (cmpI x z) := by
  unfold Tri cmpI
  split <;> split <;> split <;> (try split) <;> (try split) <;> (try split) <;> omega
theorem cmpI_one (x y : Int) : One (cmpI x y) := by
  unfold One cmpI
  split
  · exact .inl rfl
  · split
    · exact .inr (.inr rfl)
    · exact .inr (.inl rfl)
theorem cmpI_neg (x y : Int) : cmpI x y = -cmpI y x := by
  unfold cmpI
  split <;> split <;> (try split) <;> omega
theorem cmpI_zero (x y : Int) : cmpI x y = 0 ↔ x = y := by
  unfold cmpI
  split
  · constructor <;> intro h <;> omega
  · split <;> constructor <;> intro h <;> omega

def cmpB : List UInt8 → List UInt8 → Int
  | [], [] => 0
  | [], _ :: _ => -1
  | _ :: _, [] => 1
  | a :: x, b :: y => fst0 (cmpI a.toNat b.toNat) (cmpB x y)
theorem cmpB_tri : ∀ x y z : List UInt8, Tri (cmpB x y) (cmpB y z) (cmpB x z)
  | [], [], [] => by simp [cmpB, Tri]
  | [], [], c :: z => by simp [cmpB, Tri]
  | [], b :: y, [] => by simp [cmpB, Tri]
  | [], b :: y, c :: z => by
    have h : cmpB [] (b :: y) = -1 := by simp [cmpB]
    have h' : cmpB [] (c :: z) = -1 := by simp [cmpB]
    rw [h, h']; unfold Tri; omega
  | a :: x, [], [] => by simp [cmpB, Tri]
  | a :: x, [], c :: z => by
    have h : cmpB (a :: x) [] = 1 := by simp [cmpB]
    have h' : cmpB [] (c :: z) = -1 := by simp [cmpB]
    rw [h, h']; unfold Tri; omega
  | a :: x, b :: y, [] => by
    have h : cmpB (a :: x) [] = 1 := by simp [cmpB]
    have h' : cmpB (b :: y) [] = 1 := by simp [cmpB]
    rw [h, h']; unfold Tri; omega
  | a :: x, b :: y, c :: z => by
    simp only [cmpB]
    exact (cmpI_tri _ _ _).fst0 (cmpB_tri x y z)
theorem cmpB_one : ∀ x y : List UInt8, One (cmpB x y)
  | [], [] => .inr (.inl (by simp [cmpB]))
  | [], _ :: _ => .inl (by simp [cmpB])
  | _ :: _, [] => .inr (.inr (by simp [cmpB]))
  | a :: x, b :: y => by
    simp only [cmpB]
    exact (cmpI_one _ _).fst0 (cmpB_one x y)
theorem cmpB_neg : ∀ x y : List UInt8, cmpB x y = -cmpB y x
  | [], [] => by simp [cmpB]
  | [], _ :: _ => by simp [cmpB]
  | _ :: _, [] => by simp [cmpB]
  | a :: x, b :: y => by
    simp only [cmpB]
    exact fst0_neg (cmpI_neg _ _) (cmpB_neg x y)
theorem fst0_zero {a b : Int} : fst0 a b = 0 ↔ a = 0 ∧ b = 0 := by
  unfold fst0
  split <;> constructor <;> intro h <;> omega
theorem cmpB_zero : ∀ x y : List UInt8, cmpB x y = 0 ↔ x = y
  | [], [] => by simp [cmpB]
  | [], _ :: _ => by simp [cmpB]
  | _ :: _, [] => by simp [cmpB]
  | a :: x, b :: y => by
    simp only [cmpB, fst0_zero, cmpI_zero, cmpB_zero x y, List.cons.injEq]
    constructor
    · rintro ⟨h1, h2⟩
      exact ⟨UInt8.toNat.inj (by omega), h2⟩
    · rintro ⟨rfl, h2⟩
      exact ⟨rfl, h2⟩
theorem less_cmpB : ∀ x y : List UInt8, Op.bytesLess x y = decide (cmpB x y = -1)
  | [], [] => by simp [Op.bytesLess, cmpB]
  | [], _ :: _ => by simp [Op.bytesLess, cmpB]
  | _ :: _, [] => by simp [Op.bytesLess, cmpB]
  | a :: x, b :: y => by
    simp only [Op.bytesLess, cmpB, less_cmpB x y]
    by_cases h : a < b
    · have h' : (a.toNat : Int) < b.toNat := by have := UInt8.lt_iff_toNat_lt.1 h; omega
      simp [h, fst0, cmpI, h']
    · have h1 : ¬ (a.toNat : Int) < b.toNat := by
        intro h2
        exact h (UInt8.lt_iff_toNat_lt.2 (by omega))
      by_cases h3 : a = b
      · subst h3
        simp [h, fst0, cmpI]
      · have h4 : (b.toNat : Int) < a.toNat := by
          have : a.toNat ≠ b.toNat := fun e => h3 (UInt8.toNat.inj e)
          omega
        simp [h, h3, fst0, cmpI, h1, h4]
theorem cmpS_B (a b : ByteArray) : cmpS a b = cmpB a.toList b.toList := by
  unfold cmpS ltS gtS
  rw [less_cmpB]
  have h1 := cmpB_one a.toList b.toList
  have h2 := cmpB_zero a.toList b.toList
  rcases h1 with h | h | h
  · simp [h]
  · have := h2.1 h
    have hb : cmpB b.toList b.toList = 0 := (cmpB_zero _ _).2 rfl
    simp [h, this, hb]
  · have : ¬ a.toList = b.toList := fun e => by rw [h2.2 e] at h; cases h
    simp [h, this]

mutual
theorem D.cmp_tri : ∀ x y z : D, Tri (x.cmp y) (y.cmp z) (x.cmp z)
  | .mk k n t l, .mk k' n' t' l', .mk k2 n2 t2 l2 => by
    simp only [D.cmp, cmpS_B]
    exact (cmpI_tri _ _ _).fst0 ((cmpI_tri _ _ _).fst0 ((cmpB_tri _ _ _).fst0 (D.cmps_tri l l' l2)))
theorem D.cmps_tri : ∀ x y z : List D, Tri (D.cmps x y) (D.cmps y z) (D.cmps x z)
  | [], [], [] => by simp [D.cmps, Tri]
  | [], [], c :: z => by simp [D.cmps, Tri]
  | [], b :: y, [] => by simp [D.cmps, Tri]
  | [], b :: y, c :: z => by
    have h : D.cmps [] (b :: y) = -1 := by simp [D.cmps]
    have h' : D.cmps [] (c :: z) = -1 := by simp [D.cmps]
    rw [h, h']; unfold Tri; omega
  | a :: x, [], [] => by simp [D.cmps, Tri]
  | a :: x, [], c :: z => by
    have h : D.cmps (a :: x) [] = 1 := by simp [D.cmps]
    have h' : D.cmps [] (c :: z) = -1 := by simp [D.cmps]
    rw [h, h']; unfold Tri; omega
  | a :: x, b :: y, [] => by
    have h : D.cmps (a :: x) [] = 1 := by simp [D.cmps]
    have h' : D.cmps (b :: y) [] = 1 := by simp [D.cmps]
    rw [h, h']; unfold Tri; omega
  | a :: x, b :: y, c :: z => by
    simp only [D.cmps]
    exact (D.cmp_tri a b c).fst0 (D.cmps_tri x y z)
end
mutual
theorem D.cmp_one : ∀ x y : D, One (x.cmp y)
  | .mk k n t l, .mk k' n' t' l' => by
    simp only [D.cmp, cmpS_B]
    exact (cmpI_one _ _).fst0 ((cmpI_one _ _).fst0 ((cmpB_one _ _).fst0 (D.cmps_one l l')))
theorem D.cmps_one : ∀ x y : List D, One (D.cmps x y)
  | [], [] => .inr (.inl (by simp [D.cmps]))
  | [], _ :: _ => .inl (by simp [D.cmps])
  | _ :: _, [] => .inr (.inr (by simp [D.cmps]))
  | a :: x, b :: y => by
    simp only [D.cmps]
    exact (D.cmp_one _ _).fst0 (D.cmps_one x y)
end
mutual
theorem D.cmp_neg : ∀ x y : D, x.cmp y = -y.cmp x
  | .mk k n t l, .mk k' n' t' l' => by
    simp only [D.cmp, cmpS_B]
    exact fst0_neg (cmpI_neg _ _) (fst0_neg (cmpI_neg _ _) (fst0_neg (cmpB_neg _ _) (D.cmps_neg l l')))
theorem D.cmps_neg : ∀ x y : List D, D.cmps x y = -D.cmps y x
  | [], [] => by simp [D.cmps]
  | [], _ :: _ => by simp [D.cmps]
  | _ :: _, [] => by simp [D.cmps]
  | a :: x, b :: y => by
    simp only [D.cmps]
    exact fst0_neg (D.cmp_neg _ _) (D.cmps_neg x y)
end
mutual
theorem D.cmp_zero : ∀ x y : D, x.cmp y = 0 ↔ x.same y = true
  | .mk k n t l, .mk k' n' t' l' => by
    simp only [D.cmp, cmpS_B, fst0_zero, cmpI_zero, cmpB_zero, D.cmps_zero l l', D.same, eqS, Bool.and_eq_true, beq_iff_eq, and_assoc]
theorem D.cmps_zero : ∀ x y : List D, D.cmps x y = 0 ↔ D.sames x y = true
  | [], [] => by simp [D.cmps, D.sames]
  | [], _ :: _ => by simp [D.cmps, D.sames]
  | _ :: _, [] => by simp [D.cmps, D.sames]
  | a :: x, b :: y => by
    simp only [D.cmps, D.sames, fst0_zero, D.cmp_zero a b, D.cmps_zero x y, Bool.and_eq_true]
end
end Go.Proofs.Ytbkgpdkimcnpgaa.Ab
