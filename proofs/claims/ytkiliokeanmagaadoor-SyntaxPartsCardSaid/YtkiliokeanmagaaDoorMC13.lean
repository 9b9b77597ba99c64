/- SyntaxParts returns true for every datum, and does not change it; the package's variable lies as its row lists it. -/
import Derived.Test.YtkiliokeanmagaaDoorMC12
import Derived.ProofKit
import Derived.ChangeMaps5
import Derived.Carry
import Derived.Test.YtkiliokeanmagaaDoorRows
import Derived.LaidMore
import Derived.OpenShut
import Derived.Stop.Joined
import Derived.Test.YtkiliokeanmagaaDoorCards
import Derived.Test.YtkiliokeanmagaaDoorTie
import Derived.SevenTiedAt
namespace Go.Proofs.YtkiliokeanmagaaDoor.Ab
open Go
set_option linter.unusedVariables false
set_option linter.unusedSimpArgs false
set_option maxRecDepth 8000
set_option maxHeartbeats 2000000
def walkS {σ : Type} (Z : List Int → D → σ → σ × Nat) : List (List Int × D) → σ → σ × Nat
  | [], s => (s, 0)
  | (p, x) :: r, s => if (Z p x s).2 = 0 then walkS Z r (Z p x s).1 else Z p x s
structure PartRndA {σ : Type} (n y : Nat) (caps : List V) (N : Nat) (F : σ → List O) (P W : σ → Prop) (A : List Int → D → σ → Prop) (Z : List Int → D → σ → σ × Nat) (L : List (List Int × D)) : Prop where
  len : ∀ s, (F s).length = N
  low : ∀ s, W s → (F s).all (O.low N) = true
  imp : ∀ s, P s → W s
  pres : ∀ p x, (p, x) ∈ L → ∀ s, P s → A p x s → W (Z p x s).1 ∧ ((Z p x s).2 = 0 → P (Z p x s).1)
  rnd : ∀ p x, (p, x) ∈ L → ∀ s, P s → A p x s → ∀ R, lowH (F s ++ .loop 0 :: R) → call X E n y (.c (.int .i64 N) :: pf p :: x.v :: caps) (F s ++ .loop 0 :: R) = some (.c (.bool ((Z p x s).2 == 0)), F (Z p x s).1 ++ .loop (Z p x s).2 :: R)
def okS {σ : Type} (Z : List Int → D → σ → σ × Nat) (A : List Int → D → σ → Prop) : List (List Int × D) → σ → Prop
  | [], _ => True
  | (p, x) :: r, s => A p x s ∧ ((Z p x s).2 = 0 → okS Z A r (Z p x s).1)
theorem okS_true {σ : Type} (Z : List Int → D → σ → σ × Nat) : ∀ (L : List (List Int × D)) (s : σ), okS Z (fun _ _ _ => True) L s
  | [], _ => trivial
  | (p, x) :: r, s => ⟨trivial, fun _ => okS_true Z r _⟩
structure PartRnd {σ : Type} (n y : Nat) (caps : List V) (N : Nat) (F : σ → List O) (P W : σ → Prop) (Z : List Int → D → σ → σ × Nat) (L : List (List Int × D)) : Prop where
  len : ∀ s, (F s).length = N
  low : ∀ s, W s → (F s).all (O.low N) = true
  imp : ∀ s, P s → W s
  pres : ∀ p x, (p, x) ∈ L → ∀ s, P s → W (Z p x s).1 ∧ ((Z p x s).2 = 0 → P (Z p x s).1)
  rnd : ∀ p x, (p, x) ∈ L → ∀ s, P s → ∀ R, lowH (F s ++ .loop 0 :: R) → call X E n y (.c (.int .i64 N) :: pf p :: x.v :: caps) (F s ++ .loop 0 :: R) = some (.c (.bool ((Z p x s).2 == 0)), F (Z p x s).1 ++ .loop (Z p x s).2 :: R)
theorem PartRnd.toA {σ : Type} {n y : Nat} {caps : List V} {N : Nat} {F : σ → List O} {P W : σ → Prop} {Z : List Int → D → σ → σ × Nat} {L : List (List Int × D)} (R : PartRnd n y caps N F P W Z L) : PartRndA n y caps N F P W (fun _ _ _ => True) Z L :=
  ⟨R.len, R.low, R.imp, fun p x h s hs _ => R.pres p x h s hs, fun p x h s hs _ => R.rnd p x h s hs⟩
theorem low_st {σ : Type} {N : Nat} {F : σ → List O} (hlen : ∀ s, (F s).length = N) {s s' : σ} (h' : (F s').all (O.low N) = true) {o o' : O} (ho : ∀ m, O.low m o' = true) {R : List O} (hl : lowH (F s ++ o :: R)) : lowH (F s' ++ o' :: R) := by
  unfold lowH at *
  rw [List.all_append, Bool.and_eq_true, List.all_cons, Bool.and_eq_true] at *
  have e : (F s' ++ o' :: R).length = (F s ++ o :: R).length := by simp [hlen]
  rw [e]
  refine ⟨olow_mono (by simp [hlen]) h', ho _, hl.2.2⟩
theorem low_s0 {σ : Type} {N : Nat} {F : σ → List O} (hlen : ∀ s, (F s).length = N) {s : σ} (h' : (F s).all (O.low N) = true) (m : Nat) : lowH (F s ++ [.loop m]) := by
  unfold lowH
  rw [List.all_append, Bool.and_eq_true]
  exact ⟨olow_mono (by simp [hlen]) h', rfl⟩
theorem olow_loop (n m : Nat) : O.low n (.loop m) = true := rfl
open Classical in
noncomputable def Y72 {σ : Type} (F : σ → List O) (P : σ → Prop) (A : List Int → D → σ → Prop) (Z : List Int → D → σ → σ × Nat) : List Int → D → List O → Option (Bool × List O) := fun p x H =>
  if h : ∃ s, (P s ∧ A p x s) ∧ H = F s ++ [.loop 0] then some ((Z p x h.choose).2 == 0, F (Z p x h.choose).1 ++ [.loop (Z p x h.choose).2]) else none
theorem Y72_at {σ : Type} {n y : Nat} {caps : List V} {N : Nat} {F : σ → List O} {P W : σ → Prop} {A : List Int → D → σ → Prop} {Z : List Int → D → σ → σ × Nat} {L : List (List Int × D)} (R : PartRndA n y caps N F P W A Z L) {p : List Int} {x : D} (hin : (p, x) ∈ L) {s : σ} (hs : P s) (ha : A p x s) :
    Y72 F P A Z p x (F s ++ [.loop 0]) = some ((Z p x s).2 == 0, F (Z p x s).1 ++ [.loop (Z p x s).2]) := by
  have h : ∃ s', (P s' ∧ A p x s') ∧ F s ++ [.loop 0] = F s' ++ [.loop 0] := ⟨s, ⟨hs, ha⟩, rfl⟩
  unfold Y72
  rw [dif_pos h]
  obtain ⟨⟨h1, h1a⟩, h2⟩ := h.choose_spec
  generalize h.choose = s' at *
  have a1 := R.rnd p x hin s hs ha [] (low_s0 R.len (R.low s (R.imp s hs)) 0)
  have a2 := R.rnd p x hin s' h1 h1a [] (low_s0 R.len (R.low s' (R.imp s' h1)) 0)
  rw [← h2, a1] at a2
  simp only [Option.some.injEq, Prod.mk.injEq, V.c.injEq, Value.bool.injEq] at a2
  rw [← a2.1, ← a2.2]
theorem walk72 {σ : Type} {n y : Nat} {caps : List V} {N : Nat} {F : σ → List O} {P W : σ → Prop} {A : List Int → D → σ → Prop} {Z : List Int → D → σ → σ × Nat} {M : List (List Int × D)} (R : PartRndA n y caps N F P W A Z M) : ∀ L : List (List Int × D), (∀ q ∈ L, q ∈ M) → ∀ s, P s → okS Z A L s →
    walkY (Y72 F P A Z) L (F s ++ [.loop 0]) = some ((walkS Z L s).2 == 0, F (walkS Z L s).1 ++ [.loop (walkS Z L s).2])
  | [], _, s, hs, _ => rfl
  | (p, x) :: L, hL, s, hs, hk => by
    have hin := hL (p, x) (by simp)
    simp only [walkY, walkS]
    rw [Y72_at R hin hs hk.1]
    by_cases h0 : (Z p x s).2 = 0
    · rw [h0, if_pos rfl]
      exact walk72 R L (fun q hq => hL q (by simp [hq])) _ ((R.pres p x hin s hs hk.1).2 h0) (hk.2 h0)
    · rw [if_neg h0]
      have hb : ((Z p x s).2 == 0) = false := by simpa using h0
      rw [hb]
theorem walkS_P {σ : Type} {P W : σ → Prop} {A : List Int → D → σ → Prop} {Z : List Int → D → σ → σ × Nat} (hPW : ∀ s, P s → W s) : ∀ L : List (List Int × D), (∀ p x, (p, x) ∈ L → ∀ s, P s → A p x s → W (Z p x s).1 ∧ ((Z p x s).2 = 0 → P (Z p x s).1)) → ∀ s, P s → okS Z A L s → W (walkS Z L s).1
  | [], _, s, hs, _ => hPW s hs
  | (p, x) :: L, hp, s, hs, hk => by
    simp only [walkS]
    split
    · rename_i h0
      exact walkS_P hPW L (fun p x h => hp p x (by simp [h])) _ ((hp p x (by simp) s hs hk.1).2 h0) (hk.2 h0)
    · exact (hp p x (by simp) s hs hk.1).1
theorem go72S {σ : Type} {d : D} {n y : Nat} {caps : List V} {N c : Nat} {F : σ → List O} {P W : σ → Prop} {A : List Int → D → σ → Prop} {Z : List Int → D → σ → σ × Nat} (hn : d.sz + 10 < n) (hl : d.sz < 1099511627776) (hy : 1000000 ≤ y) (R : PartRndA n y caps N F P W A Z d.parts)
    (hc : ∀ s, P s → (F s)[c]? = some (.cells d.v.cells)) {s : σ} (hs : P s) (hk : okS Z A d.parts s) :
    call X E (n + 1) 72 [.yld N y 2 caps, .ref c 0] (F s ++ [.loop 0]) = some (.tup [], F (walkS Z d.parts s).1 ++ [.loop (walkS Z d.parts s).2]) := by
  have hN : (F s ++ [O.loop 0]).length = N + 1 := by simp [R.len]
  have hsplit : ∀ (G H : List O), G.take (N + 1) = H → H.length = N + 1 → G = H ++ G.drop (N + 1) := fun G H h1 h2 => by rw [← h1, List.take_append_drop]
  have hwk := walk72 R _ (fun _ h => h) s hs hk
  have hlw : (F (walkS Z d.parts s).1 ++ [O.loop (walkS Z d.parts s).2]).all (O.low (F s ++ [O.loop 0]).length) = true := by
    have := walkS_P (Z := Z) (P := P) (W := W) R.imp d.parts R.pres s hs hk
    rw [hN, List.all_append, Bool.and_eq_true]
    exact ⟨olow_mono (by omega) (R.low _ this), rfl⟩
  obtain ⟨V0, hW⟩ : ∃ V0 : Bool × List O, V0 = ((walkS Z d.parts s).2 == 0, F (walkS Z d.parts s).1 ++ [.loop (walkS Z d.parts s).2]) := ⟨_, rfl⟩
  rw [← hW] at hwk
  have hW2 : F (walkS Z d.parts s).1 ++ [O.loop (walkS Z d.parts s).2] = V0.2 := by rw [hW]
  rw [hW2] at hlw ⊢
  have hlH := low_s0 R.len (R.low s (R.imp s hs)) 0
  have hPH : ∃ s', P s' ∧ F s ++ [O.loop 0] = F s' ++ [O.loop 0] := ⟨s, hs, rfl⟩
  clear hW hW2
  generalize hH0 : F s ++ [O.loop 0] = H0 at *
  have key : ∀ (hcell : ∀ G : List O, H0.length ≤ G.length → (∃ s, P s ∧ G.take H0.length = F s ++ [O.loop 0]) → G[c]? = some (.cells d.v.cells)) (hY : YAt (call X E n) (N : Int) y caps H0.length (fun H => ∃ s, P s ∧ H = F s ++ [O.loop 0]) (Y72 F P A Z) d.parts),
      call X E (n + 1) 72 [.yld (N : Int).toNat y 2 caps, .ref c 0] H0 = some (.tup [], V0.2) := fun hcell hY =>
    go72 d hn hl (H := H0) (c := c) (k := (N : Int)) (Int.natCast_nonneg N) hy (Y := Y72 F P A Z) (P := fun H => ∃ s, P s ∧ H = F s ++ [O.loop 0]) (W := V0) hcell hPH hY hwk hlw hlH
  rw [Int.toNat_natCast] at key
  refine key ?_ ?_
  · rintro G hG ⟨s', h1, h2⟩
    rw [hN] at h2 hG
    have hcs := hc s' h1
    have hcl := (List.getElem?_eq_some_iff.1 hcs).1
    rw [R.len] at hcl
    have : G[c]? = (G.take (N + 1))[c]? := by rw [List.getElem?_take, if_pos (by omega)]
    rw [this, h2, List.getElem?_append_left (by rw [R.len]; exact hcl)]
    exact hcs
  · rintro p x hin H H' b hH ⟨s0, h0, rfl⟩ hq
    have hex : ∃ s', (P s' ∧ A p x s') ∧ F s0 ++ [.loop 0] = F s' ++ [.loop 0] := Classical.byContradiction fun hc => by
      unfold Y72 at hq
      rw [dif_neg hc] at hq
      cases hq
    obtain ⟨s', ⟨h1, hA⟩, heq⟩ := hex
    rw [heq] at hq hH ⊢
    rw [Y72_at R hin h1 hA] at hq
    simp only [Option.some.injEq, Prod.mk.injEq] at hq
    obtain ⟨rfl, rfl⟩ := hq
    have hl' : (F (Z p x s').1 ++ [O.loop (Z p x s').2]).length = N + 1 := by simp [R.len]
    rw [hN] at hH ⊢
    refine ⟨hl', fun h0 => ⟨_, (R.pres p x hin s' h1 hA).2 (by simpa using h0), by rw [show (Z p x s').2 = 0 by simpa using h0]⟩, fun G hg hlG => ?_⟩
    have hGs := hsplit G _ hg (by simp [R.len])
    rw [hGs] at hlG
    rw [List.append_assoc, List.singleton_append] at hlG
    have h3 := R.rnd p x hin s' h1 hA (G.drop (N + 1)) hlG
    have h4 := low_st R.len (R.low _ (R.pres p x hin s' h1 hA).1) (o' := .loop (Z p x s').2) (fun m => olow_loop m _) hlG
    rw [List.append_assoc, List.singleton_append]
    refine ⟨?_, h4⟩
    rw [← h3]
    congr 1
    rw [hGs, List.append_assoc, List.singleton_append]
    congr 2
    rw [← List.singleton_append, ← List.append_assoc, List.drop_left' (by simp [R.len])]
theorem wpk_partsA {σ : Type} {d : D} {n y nt : Nat} {us : List Nat} {N c : Nat} {F : σ → List O} {P W : σ → Prop} {A : List Int → D → σ → Prop} {Z : List Int → D → σ → σ × Nat} {f : Ab.A} {K : List Fr} {Q : Ex → SF → Prop} {s : SF} {s0 : σ} (hf : callee (f.val s.e) = some (72, [.ref c 0]))
    (hn : d.sz + 10 < n) (hl : d.sz < 1099511627776) (hy : 1000000 ≤ y) (R : PartRndA n y (keepE nt us s.e) N F P W A Z d.parts) (hh : s.h = F s0) (hc : ∀ s, P s → (F s)[c]? = some (.cells d.v.cells)) (hs : P s0) (hk : okS Z A d.parts s0)
    (hq : ∀ s1, W s1 → ∀ m, walkS Z d.parts s0 = (s1, m) → ∃ e, Ex.ofNum m = some e ∧ retk (call X E (n + 1)) (n + 1) K Q e ⟨s.e, F s1 ++ [.loop 2], s.base, s.rb⟩) : wpk (call X E (n + 1)) (n + 1) (.rangeF f y 2 nt us) K Q s := by
  have hlen : s.h.length = N := by rw [hh, R.len]
  have hp := walkS_P (Z := Z) (P := P) (W := W) R.imp d.parts R.pres s0 hs hk
  have h72 := go72S hn hl hy R hc hs hk
  obtain ⟨e, he, hr⟩ := hq _ hp _ rfl
  refine wpk_range f y 2 nt us hf (by decide) hy (h' := F (walkS Z d.parts s0).1 ++ [.loop (walkS Z d.parts s0).2]) (e := e) (r := .tup []) ?_ ?_ ?_
  · rw [hlen, hh]
    exact h72
  · rw [hlen, List.getElem?_append_right (by rw [R.len]; exact Nat.le_refl _), R.len, Nat.sub_self]
    exact he
  · rw [hlen, List.set_append_right _ _ (by rw [R.len]; exact Nat.le_refl _), R.len, Nat.sub_self]
    exact hr
theorem wpk_parts {σ : Type} {d : D} {n y nt : Nat} {us : List Nat} {N c : Nat} {F : σ → List O} {P W : σ → Prop} {Z : List Int → D → σ → σ × Nat} {f : A} {K : List Fr} {Q : Ex → SF → Prop} {s : SF} {s0 : σ} (hf : callee (f.val s.e) = some (72, [.ref c 0]))
    (hn : d.sz + 10 < n) (hl : d.sz < 1099511627776) (hy : 1000000 ≤ y) (R : PartRnd n y (keepE nt us s.e) N F P W Z d.parts) (hh : s.h = F s0) (hc : ∀ s, P s → (F s)[c]? = some (.cells d.v.cells)) (hs : P s0)
    (hq : ∀ s1, W s1 → ∀ m, walkS Z d.parts s0 = (s1, m) → ∃ e, Ex.ofNum m = some e ∧ retk (call X E (n + 1)) (n + 1) K Q e ⟨s.e, F s1 ++ [.loop 2], s.base, s.rb⟩) : wpk (call X E (n + 1)) (n + 1) (.rangeF f y 2 nt us) K Q s :=
  wpk_partsA hf hn hl hy R.toA hh hc hs (okS_true Z _ _) hq
end Go.Proofs.YtkiliokeanmagaaDoor.Ab

namespace Go.Proofs.YtkiliokeanmagaaDoor.Ab
open Go
set_option linter.defProp false
section
variable (cf : CallF) (n : Nat) (s : SF) (K : List Fr) (Q : Ex → SF → Prop)
def x18r1_w := rK cf n s K Q x18r1 rfl
def x18r2_w := rK cf n s K Q x18r2 rfl
def x18r3_w := rK cf n s K Q x18r3 rfl
def x18r4_w := rK cf n s K Q x18r4 rfl
def x18r5_w := rK cf n s K Q x18r5 rfl
def x18r6_w := rK cf n s K Q x18r6 rfl
def x18r7_w := rK cf n s K Q x18r7 rfl
def x18r8_w := rK cf n s K Q x18r8 rfl
def x18r9_w := rK cf n s K Q x18r9 rfl
def x18l10_w := lK cf n s K Q x18l10 rfl
def x18r11_w := rK cf n s K Q x18r11 rfl
def x18_w := bK cf n s K Q x18 rfl
def x18_r := bR x18 rfl
def x1001800r1_w := rK cf n s K Q x1001800r1 rfl
def x1001800r2_w := rK cf n s K Q x1001800r2 rfl
def x1001800r3_w := rK cf n s K Q x1001800r3 rfl
def x1001800r4_w := rK cf n s K Q x1001800r4 rfl
def x1001800_w := bK cf n s K Q x1001800 rfl
def x21r1_w := rK cf n s K Q x21r1 rfl
def x21r2_w := rK cf n s K Q x21r2 rfl
def x21r3_w := rK cf n s K Q x21r3 rfl
def x21r4_w := rK cf n s K Q x21r4 rfl
def x21r5_w := rK cf n s K Q x21r5 rfl
def x21r6_w := rK cf n s K Q x21r6 rfl
def x21r7_w := rK cf n s K Q x21r7 rfl
def x21_w := bK cf n s K Q x21 rfl
def x21_r := bR x21 rfl
def x26r1_w := rK cf n s K Q x26r1 rfl
def x26r2_w := rK cf n s K Q x26r2 rfl
def x26r3_w := rK cf n s K Q x26r3 rfl
def x26r4_w := rK cf n s K Q x26r4 rfl
def x26r5_w := rK cf n s K Q x26r5 rfl
def x26r6_w := rK cf n s K Q x26r6 rfl
def x26r7_w := rK cf n s K Q x26r7 rfl
def x26_w := bK cf n s K Q x26 rfl
def x26_r := bR x26 rfl
def x1002600r1_w := rK cf n s K Q x1002600r1 rfl
def x1002600r2_w := rK cf n s K Q x1002600r2 rfl
def x1002600_w := bK cf n s K Q x1002600 rfl
def x46r1_w := rK cf n s K Q x46r1 rfl
def x46r2_w := rK cf n s K Q x46r2 rfl
def x46r3_w := rK cf n s K Q x46r3 rfl
def x46r4_w := rK cf n s K Q x46r4 rfl
def x46r5_w := rK cf n s K Q x46r5 rfl
def x46r6_w := rK cf n s K Q x46r6 rfl
def x46r7_w := rK cf n s K Q x46r7 rfl
def x46r8_w := rK cf n s K Q x46r8 rfl
def x46r9_w := rK cf n s K Q x46r9 rfl
def x46l10_w := lK cf n s K Q x46l10 rfl
def x46r11_w := rK cf n s K Q x46r11 rfl
def x46_w := bK cf n s K Q x46 rfl
def x46_r := bR x46 rfl
def x51r1_w := rK cf n s K Q x51r1 rfl
def x51r2_w := rK cf n s K Q x51r2 rfl
def x51r3_w := rK cf n s K Q x51r3 rfl
def x51r4_w := rK cf n s K Q x51r4 rfl
def x51r5_w := rK cf n s K Q x51r5 rfl
def x51_w := bK cf n s K Q x51 rfl
def x51_r := bR x51 rfl
def x1005100r1_w := rK cf n s K Q x1005100r1 rfl
def x1005100r2_w := rK cf n s K Q x1005100r2 rfl
def x1005100r3_w := rK cf n s K Q x1005100r3 rfl
def x1005100_w := bK cf n s K Q x1005100 rfl
def x52r1_w := rK cf n s K Q x52r1 rfl
def x52r2_w := rK cf n s K Q x52r2 rfl
def x52r3_w := rK cf n s K Q x52r3 rfl
def x52_w := bK cf n s K Q x52 rfl
def x52_r := bR x52 rfl
end
end Go.Proofs.YtkiliokeanmagaaDoor.Ab

namespace Go.Proofs.YtkiliokeanmagaaDoor.Ab
open Go
set_option linter.unusedVariables false
set_option linter.unusedSimpArgs false
set_option maxRecDepth 8000
set_option maxHeartbeats 2000000
structure CloAt {τ : Type} (n q : Nat) (caps : List V) (M : Nat) (St : τ → List O) (P : τ → Prop) (Y : D → τ → Bool × τ) (m : Nat) : Prop where
  hq : q < 1000000
  len : ∀ t, (St t).length = M
  low : ∀ t, P t → (St t).all (O.low M) = true
  cap : V.lows M caps = true
  pres : ∀ x : D, x.sz ≤ m → ∀ t, P t → P (Y x t).2
  clo : ∀ x : D, x.sz ≤ m → ∀ t, P t → ∀ R, lowH (St t ++ R) → call X E n q (x.v :: caps) (St t ++ R) = some (.c (.bool (Y x t).1), St (Y x t).2 ++ R)
def eacL {τ : Type} (g : D → τ → Bool × τ) : List (List Int × D) → τ → Bool × τ
  | [], t => (true, t)
  | (_, x) :: r, t => if (g x t).1 = true then eacL g r (g x t).2 else (false, (g x t).2)
def eacN {τ : Type} (Y : D → τ → Bool × τ) : Nat → D → τ → Bool × τ
  | 0, _, t => (true, t)
  | f + 1, d, t => if (Y d t).1 = true then eacL (eacN Y f) d.parts (Y d t).2 else (false, (Y d t).2)
theorem eacL_P {τ : Type} {P : τ → Prop} {g : D → τ → Bool × τ} : ∀ L : List (List Int × D), (∀ p x, (p, x) ∈ L → ∀ t, P t → P (g x t).2) → ∀ t, P t → P (eacL g L t).2
  | [], _, t, h => h
  | (p, x) :: L, hg, t, h => by
    simp only [eacL]
    split
    · exact eacL_P L (fun p x h => hg p x (by simp [h])) _ (hg p x (by simp) t h)
    · exact hg p x (by simp) t h
theorem eacN_P {τ : Type} {P : τ → Prop} {Y : D → τ → Bool × τ} {m : Nat} (hY : ∀ x : D, x.sz ≤ m → ∀ t, P t → P (Y x t).2) : ∀ (f : Nat) (d : D), d.sz ≤ m → ∀ t, P t → P (eacN Y f d t).2
  | 0, _, _, t, h => h
  | f + 1, d, hd, t, h => by
    simp only [eacN]
    split
    · exact eacL_P _ (fun p x hx t ht => eacN_P hY f x (by have := parts_mem hx; omega) t ht) _ (hY d hd t h)
    · exact hY d hd t h
theorem low_ext3 {τ : Type} {M : Nat} {St : τ → List O} (hlen : ∀ t, (St t).length = M) {t t' : τ} (h' : (St t').all (O.low M) = true) {R : List O} (hl : lowH (St t ++ R)) : lowH (St t' ++ R) := by
  unfold lowH at *
  rw [List.all_append, Bool.and_eq_true] at *
  have e : (St t' ++ R).length = (St t ++ R).length := by simp [hlen]
  rw [e]
  exact ⟨olow_mono (by simp [hlen]) h', hl.2⟩
theorem low_app {h T : List O} (hl : lowH h) (hT : T.all (O.low (h ++ T).length) = true) : lowH (h ++ T) := by
  unfold lowH at *
  rw [List.all_append, Bool.and_eq_true]
  exact ⟨olow_mono (by simp) hl, hT⟩
theorem set_m1 (h : List O) (a b x : O) (t : List O) : (h ++ a :: b :: t).set (h.length + 1) x = h ++ a :: x :: t := by
  rw [List.set_append_right _ _ (by omega)]; simp
theorem set_m2 (h : List O) (a b c x : O) (t : List O) : (h ++ a :: b :: c :: t).set (h.length + 2) x = h ++ a :: b :: x :: t := by
  rw [List.set_append_right _ _ (by omega)]; simp
theorem get_m3 (h : List O) (a b c e : O) (t : List O) : (h ++ a :: b :: c :: e :: t)[h.length + 3]? = some e := by
  rw [List.getElem?_append_right (by omega)]; simp
theorem get_m4 (h : List O) (a b c e f : O) (t : List O) : (h ++ a :: b :: c :: e :: f :: t)[h.length + 4]? = some f := by
  rw [List.getElem?_append_right (by omega)]; simp
theorem set_m4 (h : List O) (a b c e f x : O) (t : List O) : (h ++ a :: b :: c :: e :: f :: t).set (h.length + 4) x = h ++ a :: b :: c :: e :: x :: t := by
  rw [List.set_append_right _ _ (by omega)]; simp
theorem round51 {n q : Nat} {caps : List V} {L : Nat} {e : Nat → V} (e3 : e 3 = .ref (L + 1) 0) (e4 : e 4 = .ref (L + 2) 0) {p : List Int} {x : D} {G G1 : List O} (hG : G.length = L) (hG1 : G1.length = L) {b0 b : Bool} {c0 c3 : O} {R : List O}
    (h51 : ∀ T, lowH (G ++ T) → call X E n 51 [x.v, .clo q caps] (G ++ T) = some (.c (.bool b), G1 ++ T)) (hlow : lowH (G ++ c0 :: .cells [.clo q caps] :: .cells [.c (.bool b0)] :: c3 :: .loop 0 :: R))
    (hlow1 : lowH (G1 ++ c0 :: .cells [.clo q caps] :: .cells [.c (.bool b0)] :: c3 :: .loop 0 :: R)) :
    call X E (n + 1) 1005100 (.c (.int .i64 ((L + 4 : Nat) : Int)) :: pf p :: x.v :: keepE 19 [3, 4] e) (G ++ c0 :: .cells [.clo q caps] :: .cells [.c (.bool b0)] :: c3 :: .loop 0 :: R) =
      some (.c (.bool b), G1 ++ c0 :: .cells [.clo q caps] :: .cells [.c (.bool (b && b0))] :: c3 :: .loop (if b then 0 else 3) :: R) := by
  have hE : E 1005100 = none := rfl
  have hX : X 1005100 = some x1005100 := rfl
  have hA : x1005100.asg = some ([13, 14], x1005100r3) := rfl
  simp only [call, hE, hX, hA]
  rw [if_pos (by simp [hG]; omega)]
  have t14 : toE (((keepE 19 [3, 4] e).set 13 (pf p)).set 14 x.v) 14 = x.v := rfl
  have t3 : toE (((keepE 19 [3, 4] e).set 13 (pf p)).set 14 x.v) 3 = .ref (L + 1) 0 := e3
  have t4 : toE (((keepE 19 [3, 4] e).set 13 (pf p)).set 14 x.v) 4 = .ref (L + 2) 0 := e4
  refine round_at (tm := (((keepE 19 [3, 4] e).set 13 (pf p)).set 14 x.v)) rfl (by kernel_rfl) (by kernel_rfl) ?_
  generalize toE (((keepE 19 [3, 4] e).set 13 (pf p)).set 14 x.v) = e0 at *
  subst hG
  have hend : ∀ (K : List O) (a1 a2 a3 a4 a5 z : O), K.length = G.length → (K ++ a1 :: a2 :: a3 :: a4 :: a5 :: (R ++ [z]))[G.length + (R.length + 1 + 1 + 1 + 1 + 1)]? = some z := fun K a1 a2 a3 a4 a5 z hK => by
    rw [← hK, show K ++ a1 :: a2 :: a3 :: a4 :: a5 :: (R ++ [z]) = (K ++ a1 :: a2 :: a3 :: a4 :: a5 :: R) ++ [z] by simp, List.getElem?_append_right (by simp)]
    simp [hK]
  have send : ∀ (a1 a2 a3 a4 a5 z w : O), (G ++ a1 :: a2 :: a3 :: a4 :: a5 :: (R ++ [z])).set (G.length + (R.length + 1 + 1 + 1 + 1 + 1)) w = G ++ a1 :: a2 :: a3 :: a4 :: a5 :: (R ++ [w]) := fun a1 a2 a3 a4 a5 z w => by
    rw [show G ++ a1 :: a2 :: a3 :: a4 :: a5 :: (R ++ [z]) = (G ++ a1 :: a2 :: a3 :: a4 :: a5 :: R) ++ [z] by simp, List.set_append_right _ _ (by simp)]
    simp
  have htk : ∀ (a1 a2 a3 a4 a5 z : O), (G1 ++ a1 :: a2 :: a3 :: a4 :: a5 :: (R ++ [z])).take (G.length + (R.length + 1 + 1 + 1 + 1 + 1)) = G1 ++ a1 :: a2 :: a3 :: a4 :: a5 :: R := fun a1 a2 a3 a4 a5 z => by
    rw [show G1 ++ a1 :: a2 :: a3 :: a4 :: a5 :: (R ++ [z]) = (G1 ++ a1 :: a2 :: a3 :: a4 :: a5 :: R) ++ [z] by simp, List.take_left' (by simp [hG1])]
  have g1 : ∀ (a b : O) t, (G1 ++ a :: b :: t)[G.length + 1]? = some b := fun a b t => by rw [← hG1]; exact get_m1 ..
  have g2 : ∀ (a b c : O) t, (G1 ++ a :: b :: c :: t)[G.length + 2]? = some c := fun a b c t => by rw [← hG1]; exact get_m2 ..
  have g4 : ∀ (a b c d f : O) t, (G1 ++ a :: b :: c :: d :: f :: t)[G.length + 4]? = some f := fun a b c d f t => by rw [← hG1]; exact get_m4 ..
  have s2 : ∀ (a b c x : O) t, (G1 ++ a :: b :: c :: t).set (G.length + 2) x = G1 ++ a :: b :: x :: t := fun a b c x t => by rw [← hG1]; exact set_m2 ..
  have s4 : ∀ (a b c d f x : O) t, (G1 ++ a :: b :: c :: d :: f :: t).set (G.length + 4) x = G1 ++ a :: b :: c :: d :: x :: t := fun a b c d f x t => by rw [← hG1]; exact set_m4 ..
  have hlT : lowH (G ++ c0 :: .cells [.clo q caps] :: .cells [.c (.bool b0)] :: c3 :: .loop 1 :: (R ++ [.cells x.v.cells])) := by
    unfold lowH at hlow ⊢
    simp only [List.all_append, List.all_cons, Bool.and_eq_true] at hlow ⊢
    obtain ⟨h1, h2, h3, h4, h5, h6, h7⟩ := hlow
    have hle : (G ++ c0 :: O.cells [.clo q caps] :: O.cells [.c (.bool b0)] :: c3 :: O.loop 0 :: R).length ≤ (G ++ c0 :: O.cells [.clo q caps] :: O.cells [.c (.bool b0)] :: c3 :: O.loop 1 :: (R ++ [O.cells x.v.cells])).length := by simp
    exact ⟨olow_mono hle h1, olow1 hle h2, olow1 hle h3, olow1 hle h4, olow1 hle h5, rfl, olow_mono hle h7, by rw [olow_cells]; exact D.low_cells _ x, rfl⟩
  have h51' := h51 _ hlT
  have hk4 : ((G.length : Int) + 4).toNat = G.length + 4 := by omega
  have hlow2 : ∀ m v, (G1 ++ c0 :: .cells [.clo q caps] :: .cells [.c (.bool v)] :: c3 :: .loop m :: R).all (O.low (G.length + (R.length + 1 + 1 + 1 + 1 + 1))) = true := fun m v => by
    unfold lowH at hlow1
    have hle : (G1 ++ c0 :: O.cells [.clo q caps] :: O.cells [.c (.bool b0)] :: c3 :: O.loop 0 :: R).length = (G.length + (R.length + 1 + 1 + 1 + 1 + 1)) := by simp [hG1]
    rw [hle] at hlow1
    simp only [List.all_append, List.all_cons, Bool.and_eq_true] at hlow1 ⊢
    obtain ⟨h1, h2, h3, h4, h5, h6, h7⟩ := hlow1
    exact ⟨h1, h2, h3, rfl, h5, rfl, h7⟩
  have hlen1 : G.length + (R.length + 1 + 1 + 1 + 1 + 1 + 1) ≤ G1.length + (R.length + 1 + 1 + 1 + 1 + 1 + 1) := by omega
  refine wpk_of ?_
  cases b with
  | true =>
    simp -implicitDefEqProofs [x1005100_w, x1005100r1_w, x1005100r2_w, x1005100r3_w, t14, e3, e4, D.okc, D.spl, D.cells_len, hend, send, get_m4, set_m4, hk4]
    refine wpk_of ?_
    simp -implicitDefEqProofs [x1005100_w, x1005100r1_w, x1005100r2_w, t14, t3, t4, D.rd, D.okc, D.cells_len, hend, get_m1, get_m2, get_m4, set_m4, h51', hlen1, g4, s4, htk, Ex.num, hG1, hk4]
    simpa using hlow2 0 b0
  | false =>
    simp -implicitDefEqProofs [x1005100_w, x1005100r1_w, x1005100r2_w, x1005100r3_w, t14, e3, e4, D.okc, D.spl, D.cells_len, hend, send, get_m4, set_m4, hk4]
    refine wpk_of ?_
    simp -implicitDefEqProofs [x1005100_w, x1005100r1_w, x1005100r2_w, t14, t3, t4, D.rd, D.okc, D.cells_len, hend, get_m1, get_m2, get_m4, set_m4, h51', hlen1, g2, s2, g4, s4, htk, Ex.num, hG1, hk4]
    simpa using hlow2 3 false
end Go.Proofs.YtkiliokeanmagaaDoor.Ab

namespace Go.Proofs.YtkiliokeanmagaaDoor.Ab
open Go
set_option linter.unusedVariables false
set_option linter.unusedSimpArgs false
set_option maxRecDepth 8000
set_option maxHeartbeats 2000000
def Z51 {τ : Type} (g : D → τ → Bool × τ) : List Int → D → τ × Bool → (τ × Bool) × Nat := fun _ x s => if (g x s.1).1 = true then (((g x s.1).2, s.2), 0) else (((g x s.1).2, false), 3)
theorem walk51 {τ : Type} (g : D → τ → Bool × τ) : ∀ (L : List (List Int × D)) (t : τ), walkS (Z51 g) L (t, false) = (((eacL g L t).2, false), if (eacL g L t).1 = true then 0 else 3)
  | [], t => rfl
  | (p, x) :: L, t => by
    simp only [walkS, eacL, Z51]
    by_cases h : (g x t).1 = true
    · simp only [h, if_true]
      exact walk51 g L _
    · simp [h]
theorem call_run {n f : Nat} {xf : XF} {args : List V} {h : List O} (hE : E f = none) (hX : X f = some xf) (ha : xf.asg = none) : call X E (n + 1) f args h = runF (call X E n) n xf args h := by
  simp only [call, hE, hX, ha]
theorem go51 {τ : Type} {n0 q : Nat} {caps : List V} {M : Nat} {St : τ → List O} {P : τ → Prop} {Y : D → τ → Bool × τ} {m : Nat} (C : CloAt n0 q caps M St P Y m) (hm : m < 100000000000) : ∀ (f : Nat) (d : D), d.sz ≤ f → d.sz ≤ m → ∀ n, n0 + 4 * d.sz + 60 ≤ n → ∀ t, P t → ∀ R, lowH (St t ++ R) →
    call X E n 51 [d.v, .clo q caps] (St t ++ R) = some (.c (.bool (eacN Y f d t).1), St (eacN Y f d t).2 ++ R)
  | 0, d, h, _, _, _, _, _, _, _ => by have := D.sz_pos d; omega
  | f + 1, d, hf, hd, n, hn, t, ht, R, hl => by
    obtain ⟨n, rfl⟩ : ∃ n', n = n' + 3 := ⟨n - 3, by omega⟩
    have hE : E 51 = none := rfl
    have hX : X 51 = some x51 := rfl
    have hclo : ∀ T, lowH ((St t ++ R) ++ T) → call X E (n + 2) q (d.v :: caps) ((St t ++ R) ++ T) = some (.c (.bool (Y d t).1), (St (Y d t).2 ++ R) ++ T) := fun T hT => by
      rw [List.append_assoc] at hT ⊢
      rw [List.append_assoc]
      exact up (by omega) (C.clo d hd t ht (R ++ T) hT)
    have c45 : ∀ h, call X E (n + 2) 45 [d.v] h = some (.clo 72 [.ref h.length 0], h ++ [.cells d.v.cells]) := go45 d
    have hP1 := C.pres d hd t ht
    have hlen1 : (St (Y d t).2 ++ R).length = (St t ++ R).length := by simp [C.len]
    have hlow1 : lowH (St (Y d t).2 ++ R) := low_ext3 C.len (C.low _ hP1) hl
    have hcapL : V.lows ((St t ++ R).length + 1 + 1 + 1) caps = true := lows_mono (by simp [C.len]; omega) _ C.cap
    have IH : ∀ p x, (p, x) ∈ d.parts → ∀ t, P t → ∀ R, lowH (St t ++ R) → call X E n 51 [x.v, .clo q caps] (St t ++ R) = some (.c (.bool (eacN Y f x t).1), St (eacN Y f x t).2 ++ R) := fun p x hin => by
      have h1 := parts_mem hin
      exact go51 C hm f x (by omega) (by omega) n (by omega)
    have hr51 : eacN Y (f + 1) d t = if (Y d t).1 = true then eacL (eacN Y f) d.parts (Y d t).2 else (false, (Y d t).2) := rfl
    have hP2 : P (eacN Y (f + 1) d t).2 := eacN_P C.pres (f + 1) d hd t ht
    have hlow2 : lowH (St (eacN Y (f + 1) d t).2 ++ R) := low_ext3 C.len (C.low _ hP2) hl
    have hlen2 : (St (eacN Y (f + 1) d t).2 ++ R).length = (St t ++ R).length := by simp [C.len]
    rw [show n + 3 = (n + 2) + 1 from rfl, call_run hE hX rfl]
    refine runF_at (by kernel_rfl) rfl rfl (wpk_of ?_)
    have hvw : ([d.v, .clo q caps] : List V).map V.vw2 = [d.v, .clo q caps] := by simp [D.vw2, vw2_clo]
    rw [hvw]
    show wpk (call X E (n + 1 + 1)) (n + 1 + 1) _ _ _ _
    have hlT : lowH ((St t ++ R) ++ [.cells d.v.cells, .cells [.clo q caps], .cells [.c (.bool false)]]) := by
      refine low_app hl ?_
      simp only [List.all_cons, List.all_nil, Bool.and_true, Bool.and_eq_true, olow_cells, List.length_append, List.length_cons, List.length_nil]
      refine ⟨D.low_cells _ d, ?_, rfl⟩
      simp only [V.lows, V.low, Bool.and_true]
      exact lows_mono (by simp [C.len]; omega) _ C.cap
    have hcl := hclo _ hlT
    have hq := C.hq
    obtain ⟨k, hk⟩ : ∃ k, k = n + 1 := ⟨_, rfl⟩
    rw [← hk]
    rw [show n + 2 = k + 1 by omega] at hcl c45
    generalize hG : St t ++ R = G at *
    generalize hG1 : St (Y d t).2 ++ R = G1 at *
    generalize hG2 : St (eacN Y (f + 1) d t).2 ++ R = G2 at *
    have hl2 : ∀ x ∈ G2, O.low G.length x = true := by
      have := hlow2
      unfold lowH at this
      rw [hlen2] at this
      simpa using this
    have g2 : ∀ (a b c : O) T, (G2 ++ a :: b :: c :: T)[G.length + 2]? = some c := fun a b c T => by rw [← hlen2]; exact get_m2 ..
    have s2 : ∀ (a b c x : O) T, (G2 ++ a :: b :: c :: T).set (G.length + 2) x = G2 ++ a :: b :: x :: T := fun a b c x T => by rw [← hlen2]; exact set_m2 ..
    have tk : ∀ T, (G2 ++ T).take G.length = G2 := fun T => List.take_left' hlen2
    by_cases hy : (Y d t).1 = true
    · rw [hy] at hcl
      rw [hy, if_pos rfl] at hr51
      have hle : G.length + 3 ≤ G1.length + 3 := by omega
      simp -implicitDefEqProofs [x51_w, x51r1_w, x51r2_w, x51r4_w, D.okc, D.cells_len, D.rd, get_m, get_m1, get_m2, set_m, set_m1, set_m2, hcl, hq, hle, hlen1, c45]
      refine wpk_parts (σ := τ × Bool) (d := d) (n := k) (c := G.length + 3) (N := G.length + 4) (F := fun s => St s.1 ++ (R ++ [.cells d.v.cells, .cells [.clo q caps], .cells [.c (.bool s.2)], .cells d.v.cells])) (P := fun s => P s.1) (W := fun s => P s.1) (Z := Z51 (eacN Y f)) (s0 := ((Y d t).2, false)) rfl (by omega) (by omega) (by decide) ⟨?_, ?_, fun _ h => h, ?_, ?_⟩ ?_ ?_ hP1 ?_
      · intro s
        rw [← hG]
        simp [C.len]
        omega
      · rintro ⟨t1, b⟩ h1
        simp only at h1 ⊢
        have hRl : R.all (O.low (G.length + 4)) = true := by
          have := hl
          unfold lowH at this
          rw [← hG, List.all_append, Bool.and_eq_true] at this
          rw [← hG]
          exact olow_mono (by omega) this.2
        simp only [List.all_append, List.all_cons, List.all_nil, Bool.and_true, Bool.and_eq_true, olow_cells, D.low_cells, true_and]
        have hMG : M ≤ G.length + 4 := by rw [← hG]; simp [C.len]; omega
        refine ⟨olow_mono hMG (C.low t1 h1), hRl, ?_⟩
        simp [V.lows, V.low]
        exact lows_mono hMG _ C.cap
      · intro p x hin s hs
        have h1 := parts_mem hin
        have := eacN_P C.pres f x (by omega) s.1 hs
        unfold Z51
        split <;> exact ⟨this, fun _ => this⟩
      · rintro p x hin ⟨t1, b⟩ hs T hT
        have h1 := parts_mem hin
        have hsz : (St t1 ++ R).length = G.length := by rw [← hG]; simp [C.len]
        have hsz1 : (St (eacN Y f x t1).2 ++ R).length = G.length := by rw [← hG]; simp [C.len]
        have hP3 := eacN_P C.pres f x (by omega) t1 hs
        have h51 : ∀ T, lowH ((St t1 ++ R) ++ T) → call X E n 51 [x.v, .clo q caps] ((St t1 ++ R) ++ T) = some (.c (.bool (eacN Y f x t1).1), (St (eacN Y f x t1).2 ++ R) ++ T) := fun T hT => by
          rw [List.append_assoc] at hT ⊢
          rw [List.append_assoc]
          exact IH p x hin t1 hs (R ++ T) hT
        have hre : ∀ (t2 : τ) (b2 : Bool) (o : O), (St t2 ++ (R ++ [O.cells d.v.cells, .cells [.clo q caps], .cells [.c (.bool b2)], .cells d.v.cells])) ++ o :: T = (St t2 ++ R) ++ .cells d.v.cells :: .cells [.clo q caps] :: .cells [.c (.bool b2)] :: .cells d.v.cells :: o :: T := fun t2 b2 o => by simp
        simp only [hre] at hT ⊢
        have hT1 : lowH ((St (eacN Y f x t1).2 ++ R) ++ .cells d.v.cells :: .cells [.clo q caps] :: .cells [.c (.bool b)] :: .cells d.v.cells :: .loop 0 :: T) := by
          rw [List.append_assoc] at hT ⊢
          exact low_ext3 C.len (C.low _ hP3) hT
        subst hk
        refine (round51 (q := q) (caps := caps) (L := G.length) ?_ ?_ hsz hsz1 h51 hT hT1).trans ?_
        · simp [upd_at]
        · simp [upd_at]
        · unfold Z51
          cases hb : (eacN Y f x t1).1 with
          | true => simp [hb]
          | false => simp [hb]
      · simp [← hG1]
      · rintro ⟨t1, b⟩ h1
        have hsz : (St t1 ++ R).length = G.length := by rw [← hG]; simp [C.len]
        simp only
        rw [← hsz, show St t1 ++ (R ++ [O.cells d.v.cells, .cells [.clo q caps], .cells [.c (.bool b)], .cells d.v.cells]) = (St t1 ++ R) ++ [O.cells d.v.cells, .cells [.clo q caps], .cells [.c (.bool b)], .cells d.v.cells] by simp]
        exact get_m3 ..
      · rintro ⟨t1, b⟩ h1 m1 hw
        rw [walk51] at hw
        have hsz : (St t1 ++ R).length = G.length := by rw [← hG]; simp [C.len]
        by_cases hb : (eacL (eacN Y f) d.parts (Y d t).2).1 = true
        · rw [if_pos hb] at hw
          simp only [Prod.mk.injEq] at hw
          obtain ⟨⟨h2, rfl⟩, rfl⟩ := hw
          refine ⟨.normal, rfl, ?_⟩
          have he : eacN Y (f + 1) d t = (true, t1) := by rw [hr51]; exact Prod.ext hb h2
          have hgt : St t1 ++ R = G2 := by rw [← hG2, he]
          have hheap : St t1 ++ (R ++ [O.cells d.v.cells, .cells [.clo q caps], .cells [.c (.bool false)], .cells d.v.cells]) ++ [O.loop 2] = G2 ++ [O.cells d.v.cells, .cells [.clo q caps], .cells [.c (.bool false)], .cells d.v.cells, .loop 2] := by rw [← hgt]; simp
          simp only [hheap, he]
          simp -implicitDefEqProofs [x51r5_w, x51_r, g2, s2, tk]
          exact hl2
        · rw [if_neg hb] at hw
          simp only [Prod.mk.injEq] at hw
          obtain ⟨⟨h2, rfl⟩, rfl⟩ := hw
          refine ⟨.ret, rfl, ?_⟩
          have hb' : (eacL (eacN Y f) d.parts (Y d t).2).1 = false := by simpa using hb
          have he : eacN Y (f + 1) d t = (false, t1) := by rw [hr51]; exact Prod.ext hb' h2
          have hgt : St t1 ++ R = G2 := by rw [← hG2, he]
          have hheap : St t1 ++ (R ++ [O.cells d.v.cells, .cells [.clo q caps], .cells [.c (.bool false)], .cells d.v.cells]) ++ [O.loop 2] = G2 ++ [O.cells d.v.cells, .cells [.clo q caps], .cells [.c (.bool false)], .cells d.v.cells, .loop 2] := by rw [← hgt]; simp
          simp only [hheap, he]
          simp -implicitDefEqProofs [x51_r, g2, s2, tk]
          exact hl2
    · have hy' : (Y d t).1 = false := by simpa using hy
      rw [hy'] at hcl
      rw [hy', if_neg (by simp)] at hr51
      have hgt : G1 = G2 := by rw [← hG2, hr51, ← hG1]
      have hle : G.length + 3 ≤ G1.length + 3 := by omega
      subst hgt
      simp -implicitDefEqProofs [x51_w, x51_r, x51r1_w, x51r2_w, x51r3_w, D.okc, D.cells_len, D.rd, get_m, get_m1, get_m2, set_m, set_m1, set_m2, hcl, hq, hle, hlen1, g2, s2, tk, hr51]
      exact hl2
end Go.Proofs.YtkiliokeanmagaaDoor.Ab

namespace Go.Proofs.YtkiliokeanmagaaDoor.Ab
open Go
set_option linter.defProp false
section
variable (cf : CallF) (n : Nat) (s : SF) (K : List Fr) (Q : Ex → SF → Prop)
def x7r1_w := rK cf n s K Q x7r1 rfl
def x7r2_w := rK cf n s K Q x7r2 rfl
def x7r3_w := rK cf n s K Q x7r3 rfl
def x7r4_w := rK cf n s K Q x7r4 rfl
def x7r5_w := rK cf n s K Q x7r5 rfl
def x7r6_w := rK cf n s K Q x7r6 rfl
def x7r7_w := rK cf n s K Q x7r7 rfl
def x7r8_w := rK cf n s K Q x7r8 rfl
def x7r9_w := rK cf n s K Q x7r9 rfl
def x7r10_w := rK cf n s K Q x7r10 rfl
def x7r11_w := rK cf n s K Q x7r11 rfl
def x7r12_w := rK cf n s K Q x7r12 rfl
def x7r13_w := rK cf n s K Q x7r13 rfl
def x7r15_w := rK cf n s K Q x7r15 rfl
def x7r16_w := rK cf n s K Q x7r16 rfl
def x7l17_w := lK cf n s K Q x7l17 rfl
def x7r18_w := rK cf n s K Q x7r18 rfl
def x7_w := bK cf n s K Q x7 rfl
def x7_r := bR x7 rfl
end
end Go.Proofs.YtkiliokeanmagaaDoor.Ab

namespace Go.Proofs.YtkiliokeanmagaaDoor.Ab
open Go
set_option linter.unusedVariables false
set_option linter.unusedSimpArgs false
set_option maxRecDepth 8000
set_option maxHeartbeats 2000000
def D.err (d : D) : Int := if d.ck ≠ 0 then d.ck else if (wrongN d.sz d).isSome = true then 4 else 0
theorem chk_err (d : D) : ∃ p : List Int, d.chk = .tup [pv p, .c (.int .i64 d.err)] := by
  unfold D.chk D.err
  split
  · exact ⟨[], rfl⟩
  · cases wrongN d.sz d with
    | none => exact ⟨[], rfl⟩
    | some p => exact ⟨p, rfl⟩
theorem go44 (d : D) (hl : d.sz < 100000000000) {n : Nat} (hn : 4 * d.sz + 201 ≤ n) : Gives (n + 1) 44 [d.v] (.c (.int .i64 d.err)) := by
  obtain ⟨n, rfl⟩ : ∃ n', n = n' + 1 := ⟨n - 1, by omega⟩
  have c10 : ∀ h, call X E (n + 1) 10 [d.v] h = some (d.chk, h) := go10 d hl (by omega)
  obtain ⟨p, hp⟩ := chk_err d
  rw [hp] at c10
  generalize pv p = P at *
  generalize n + 1 = m at *
  refine gives_of rfl rfl rfl (by kernel_rfl) ⟨rfl, rfl⟩ (by simp [D.vw2, V.lows, D.low]) ?_
  simp -implicitDefEqProofs [x44_w, x44_r, x44r1_w, x44r2_w, x44r3_w, D.vw2, D.okc, D.rd, D.cells_len, c10]
def wtL (g : D → Nat) : List (List Int × D) → Nat
  | [] => 0
  | (_, x) :: r => g x + wtL g r
def wtN : Nat → D → Nat
  | 0, _ => 0
  | f + 1, d => 1 + wtL (wtN f) d.parts
def D.wt (d : D) : Nat := wtN d.sz d
def szL : List (List Int × D) → Nat
  | [] => 0
  | (_, x) :: r => x.sz + szL r
theorem szL_app : ∀ a b, szL (a ++ b) = szL a + szL b
  | [], b => by simp [szL]
  | (p, x) :: a, b => by simp only [List.cons_append, szL, szL_app a b]; omega
theorem szL_sub1 (frm : Nat) : ∀ (l : List D) (i : Nat), szL (sub1 frm l i) = D.szs l
  | [], i => rfl
  | x :: l, i => by simp only [sub1, szL, D.szs, szL_sub1 frm l (i + 1)]
theorem szL_recs : ∀ (l : List D) (i : Nat), szL (recs l i) ≤ D.szs l
  | [], i => Nat.le_refl _
  | x :: l, i => by
    simp only [recs, szL, D.szs]
    have := szL_recs l (i + 1)
    have := kid_le x 2
    omega
theorem szs_drop : ∀ (l : List D) (k : Nat), D.szs (l.drop k) ≤ D.szs l
  | l, 0 => by simp
  | [], k + 1 => by simp
  | x :: l, k + 1 => by simp only [List.drop_succ_cons, D.szs]; have := szs_drop l k; omega
theorem szL_parts (d : D) : szL d.parts < d.sz := by
  have hk : D.szs d.kids < d.sz := by obtain ⟨k, i, t, l⟩ := d; simp only [D.kids, D.sz]; omega
  have hd := fun k => szs_drop d.kids k
  unfold D.parts
  split
  · rw [szL_sub1]; have := hd 1; omega
  split
  · rw [szL_sub1]; have := hd 2; omega
  split
  · rename_i h7
    obtain ⟨a, b, c, habc⟩ := list3 (form_7 h7)
    rw [szL_app, szL_sub1]
    have h1 := szL_recs (d.kid 1).kids 0
    have hkid : d.kid 1 = b := by rw [D.kid, habc]; rfl
    have hb : D.szs b.kids < b.sz := by obtain ⟨k, i, t, l⟩ := b; simp only [D.kids, D.sz]; omega
    rw [hkid] at h1 ⊢
    rw [habc] at hk ⊢
    simp only [List.drop_succ_cons, List.drop_zero, D.szs] at hk ⊢
    omega
  split
  · rw [szL_sub1]; exact hk
  · have := D.sz_pos d; simp [szL]; omega
theorem wtL_le {g : D → Nat} : ∀ L : List (List Int × D), (∀ p x, (p, x) ∈ L → g x ≤ x.sz) → wtL g L ≤ szL L
  | [], _ => Nat.le_refl _
  | (p, x) :: L, h => by
    simp only [wtL, szL]
    have := h p x (by simp)
    have := wtL_le L fun p x hx => h p x (by simp [hx])
    omega
theorem wtN_le : ∀ (f : Nat) (d : D), wtN f d ≤ d.sz
  | 0, d => by simp [wtN]
  | f + 1, d => by
    simp only [wtN]
    have := wtL_le d.parts fun p x _ => wtN_le f x
    have := szL_parts d
    omega
theorem wtL_congr {g g' : D → Nat} : ∀ L : List (List Int × D), (∀ p x, (p, x) ∈ L → g x = g' x) → wtL g L = wtL g' L
  | [], _ => rfl
  | (p, x) :: L, h => by simp only [wtL]; rw [h p x (by simp), wtL_congr L fun p x hx => h p x (by simp [hx])]
theorem wtN_eq : ∀ (f f' : Nat) (d : D), d.sz ≤ f → d.sz ≤ f' → wtN f d = wtN f' d
  | 0, _, d, h, _ => by have := D.sz_pos d; omega
  | _, 0, d, _, h => by have := D.sz_pos d; omega
  | f + 1, f' + 1, d, h, h' => by
    simp only [wtN]
    rw [wtL_congr d.parts fun p x hx => wtN_eq f f' x (by have := parts_mem hx; omega) (by have := parts_mem hx; omega)]
theorem wt_eq (d : D) : d.wt = 1 + wtL D.wt d.parts := by
  unfold D.wt
  rw [wtN_eq d.sz (d.sz + 1) d (Nat.le_refl _) (by omega)]
  simp only [wtN]
  rw [wtL_congr d.parts fun p x hx => wtN_eq d.sz x.sz x (by have := parts_mem hx; omega) (Nat.le_refl _)]
def Y52 : D → Int → Bool × Int := fun _ c => (true, IntKind.i64.wrap (c + 1))
def St2 (d : D) (c : Int) : List O := [.cells d.v.cells, .cells [.c (.int .i64 c)]]
theorem clo52 (d : D) (m : Nat) : CloAt 1 52 [.ref 1 0] 2 (St2 d) (fun _ => True) Y52 m where
  hq := by decide
  len := fun _ => rfl
  low := fun c _ => by simp [St2, olow_cells, D.low_cells, V.lows, V.low]
  cap := rfl
  pres := fun _ _ _ _ => trivial
  clo := fun x _ c _ R hl => by
    rw [call_run (xf := x52) rfl rfl rfl]
    refine runF_at (by kernel_rfl) rfl rfl (wpk_of ?_)
    have hvw : ([x.v, .ref 1 0] : List V).map V.vw2 = [x.v, .ref 1 0] := by simp [D.vw2, vw2_ref]
    rw [hvw]
    unfold lowH at hl
    simp only [St2, List.cons_append, List.nil_append] at hl ⊢
    have hlen : (O.cells d.v.cells :: O.cells [V.c (.int .i64 c)] :: R).length = R.length + 1 + 1 := rfl
    rw [hlen] at hl ⊢
    have hl2 : (O.cells d.v.cells :: O.cells [V.c (.int .i64 (IntKind.i64.wrap (c + 1)))] :: R).all (O.low (R.length + 1 + 1)) = true := by
      simp only [List.all_cons, Bool.and_eq_true] at hl ⊢
      exact ⟨hl.1, by simp [olow_cells, V.lows, V.low], hl.2.2⟩
    have htk : ∀ a b o, (a :: b :: (R ++ [o])).take (R.length + 1 + 1) = a :: b :: R := fun a b o => by simp
    simp -implicitDefEqProofs [x52_w, x52_r, x52r1_w, x52r2_w, x52r3_w, D.okc, D.cells_len, set_m, htk, Y52]
    simpa using hl2
theorem each52 : ∀ (f : Nat) (d : D) (c : Int), 0 ≤ c → c + d.sz < 4611686018427387904 → eacN Y52 f d c = (true, c + wtN f d)
  | 0, d, c, _, _ => by simp [eacN, wtN]
  | f + 1, d, c, h0, hc => by
    have hw : IntKind.i64.wrap (c + 1) = c + 1 := wrap_in (by have := D.sz_pos d; omega)
    have key : ∀ (L : List (List Int × D)) (c : Int), 0 ≤ c → c + szL L < 4611686018427387904 → eacL (eacN Y52 f) L c = (true, c + wtL (wtN f) L) := by
      intro L
      induction L with
      | nil => intro c _ _; simp [eacL, wtL]
      | cons a L ih =>
        obtain ⟨p, x⟩ := a
        intro c h0 hc
        simp only [szL] at hc
        have h1 := each52 f x c h0 (by omega)
        have h2 := wtN_le f x
        simp only [eacL, wtL]
        rw [h1]
        simp only [if_true]
        rw [ih _ (by omega) (by omega)]
        congr 1
        omega
    have hp := szL_parts d
    simp only [eacN, wtN, Y52, if_true, hw]
    rw [key d.parts (c + 1) (by omega) (by omega)]
    congr 1
    omega
theorem go21 (d : D) (hl : d.sz < 10000000000) {n : Nat} (hn : 4 * d.sz + 210 ≤ n) : Gives (n + 1) 21 [d.v] (.tup [.c (.int .i64 (if d.err = 0 then (d.wt : Int) else 0)), .c (.int .i64 d.err)]) := by
  obtain ⟨n, rfl⟩ : ∃ n', n = n' + 1 := ⟨n - 1, by omega⟩
  have c44 : ∀ h, call X E (n + 1) 44 [d.v] h = some (.c (.int .i64 d.err), h) := go44 d (by omega) (by omega)
  have c51 : call X E (n + 1) 51 [d.v, .clo 52 [.ref 1 0]] (St2 d 0) = some (.c (.bool true), St2 d (d.wt : Int)) := by
    have h := go51 (clo52 d d.sz) (by omega) d.sz d (Nat.le_refl _) (Nat.le_refl _) (n + 1) (by omega) (0 : Int) trivial [] (by
      unfold lowH
      simp [St2, olow_cells, D.low_cells, V.lows, V.low])
    rw [each52 d.sz d 0 (by omega) (by omega)] at h
    simpa [D.wt] using h
  generalize n + 1 = m at *
  refine gives_of rfl rfl rfl (by kernel_rfl) ⟨rfl, rfl⟩ (by simp [D.vw2, V.lows, D.low]) ?_
  by_cases h0 : d.err = 0
  · rw [h0] at c44 ⊢
    simp only [St2] at c51
    simp -implicitDefEqProofs [x21_w, x21_r, x21r1_w, x21r2_w, x21r3_w, x21r5_w, x21r6_w, x21r7_w, D.vw2, D.okc, D.rd, D.cells_len, c44, c51]
    try simp [V.low, V.lows]
  · have hb : (d.err != 0) = true := by simp [h0]
    rw [if_neg h0]
    simp -implicitDefEqProofs [x21_w, x21_r, x21r1_w, x21r2_w, x21r3_w, x21r4_w, D.vw2, D.okc, D.rd, D.cells_len, c44, hb]
    try simp [V.low, V.lows]
end Go.Proofs.YtkiliokeanmagaaDoor.Ab

namespace Go.Proofs.YtkiliokeanmagaaDoor.Ab
open Go
set_option linter.unusedVariables false
set_option linter.unusedSimpArgs false
set_option maxRecDepth 8000
set_option maxHeartbeats 2000000
def anyL (g : D → Bool) : List (List Int × D) → Bool
  | [] => false
  | (_, x) :: r => g x || anyL g r
def hasN (w : Int) : Nat → D → Bool
  | 0, _ => false
  | f + 1, d => d.form == w || anyL (hasN w f) d.parts
def D.has (d : D) (w : Int) : Bool := hasN w d.sz d
end Go.Proofs.YtkiliokeanmagaaDoor.Ab

namespace Go.Proofs.YtkiliokeanmagaaDoor.Ab
open Go
set_option linter.unusedVariables false
def l1O : Option O → List O → R2
  | some (.cells [c]), h => some (c, h)
  | _, _ => none
def l1F : V → List O → R2
  | .ref id 0, h => l1O h[id]? h
  | _, _ => none
theorem l1F_ref (id : Nat) (h : List O) : l1F (.ref id 0) h = l1O h[id]? h := rfl
theorem l1O_cells (c : V) (h : List O) : l1O (some (.cells [c])) h = some (c, h) := rfl
theorem actF_load1 (cf : CallF) (s : SF) (x : A) : actF cf s (.load1 x) = l1F (x.val s.e) s.h := by
  simp only [actF, XOp.sub, act, ev_val]
  cases x.val s.e with
  | ref id o =>
    cases o with
    | zero =>
      simp only [l1F_ref]
      cases s.h[id]? with
      | none => rfl
      | some o =>
        cases o with
        | cells cs =>
          cases cs with
          | nil => rfl
          | cons a r => cases r <;> rfl
        | _ => rfl
    | succ n => rfl
  | _ => rfl
attribute [simp] actF_load1 l1F_ref l1O_cells
end Go.Proofs.YtkiliokeanmagaaDoor.Ab

namespace Go.Proofs.YtkiliokeanmagaaDoor.Ab
open Go
set_option linter.unusedVariables false
set_option linter.unusedSimpArgs false
set_option maxRecDepth 8000
set_option maxHeartbeats 2000000
theorem go46 (a b : List Int) (i j : SI) {n : Nat} (hn : a.length < n) (hl : a.length < 1099511627776) : Gives (n + 1) 46 [.sl (a.map I64) i, .sl (b.map I64) j] (.c (.bool (decide (a = b)))) := by
  have h1 := lows_I64 0 a
  have h2 := lows_I64 0 b
  have hla : (a.map I64).length = a.length := List.length_map _
  have hlb : (b.map I64).length = b.length := List.length_map _
  refine gives_of rfl rfl rfl (by kernel_rfl) ⟨rfl, rfl⟩ (by simp [vw2_sl, V.lows, V.low, h1, h2, SI.low]) ?_
  generalize call X E n = cf at *
  by_cases hab : a.length = b.length
  · have hb : ((a.length : Int) != b.length) = false := by simp; omega
    have hA : ∀ t, t < a.length → (a.map I64)[t]? = some (I64 (a.getD t 0)) := fun t ht => by simp [ht]
    have hB : ∀ t, t < a.length → (b.map I64)[t]? = some (I64 (b.getD t 0)) := fun t ht => by simp [show t < b.length by omega]
    generalize hAA : a.map I64 = A at *
    generalize hBB : b.map I64 = B at *
    simp -implicitDefEqProofs [x46_w, x46r1_w, x46r2_w, x46r4_w, vw2_sl, hla, hlb, hb]
    obtain ⟨I, hI⟩ : ∃ I : Nat → SF → Prop, ∀ k s, I k s ↔ (∃ t : Nat, t + k = a.length ∧ s.e 13 = .c (.int .i64 t) ∧ s.e 12 = .c (.int .i64 a.length) ∧ (decide (a = b)) = (decide (a.drop t = b.drop t)) ∧ s.e 0 = .sl A .any ∧ s.e 1 = .sl B .any ∧ s.base = 0) := ⟨_, fun _ _ => Iff.rfl⟩
    refine lpk_of I a.length hn ((hI _ _).2 ⟨0, by simp, by simp [upd_at], by simp [upd_at], by simp, by simp [upd_at, arg0], by simp [upd_at, arg0], rfl⟩) ?_
    rintro k ⟨e, h, base, rb⟩ hi
    obtain ⟨t, ht, e13, e12, hdr, e0, e1, hb⟩ := (hI _ _).1 hi
    simp only at e13 e12 e0 e1 hb
    subst hb
    by_cases hm : t < a.length
    · have hlt : (t : Int) < a.length := by omega
      have hAt : A[t]'(by omega) = I64 (a.getD t 0) := by have := hA t hm; rw [List.getElem?_eq_getElem (by omega)] at this; simpa using this
      have hBt : B[t]'(by omega) = I64 (b.getD t 0) := by have := hB t hm; rw [List.getElem?_eq_getElem (by omega)] at this; simpa using this
      have d1 : a.drop t = a.getD t 0 :: a.drop (t + 1) := by rw [List.drop_eq_getElem_cons hm]; simp [hm]
      have d2 : b.drop t = b.getD t 0 :: b.drop (t + 1) := by rw [List.drop_eq_getElem_cons (by omega)]; simp [show t < b.length by omega]
      rw [d1, d2] at hdr
      have hltb : (t : Int) < b.length := by omega
      have hmb : t < b.length := by omega
      generalize a.getD t 0 = u at *
      generalize b.getD t 0 = v at *
      have hw : IntKind.i64.wrap ((t : Int) + 1) = (t : Int) + 1 := wrap_in (by omega)
      generalize hD : decide (a = b) = D0 at *
      by_cases huv : u = v
      · subst huv
        have hne : (u != u) = false := by simp
        simp -implicitDefEqProofs [x46l10_w, x46r5_w, x46r6_w, x46r7_w, x46r9_w, e0, e1, e12, e13, hla, hlb, hlt, hltb, hm, hmb, hAt, hBt, I64, hne]
        refine ⟨k - 1, by omega, (hI _ _).2 ⟨t + 1, by omega, by simp [upd_at, hw], by simp [upd_at, e12], by rw [hdr]; simp, by simp [upd_at, e0], by simp [upd_at, e1], rfl⟩⟩
      · have hne : (u != v) = true := by simp [huv]
        have : D0 = false := by rw [hdr]; simp [huv]
        subst this
        simp -implicitDefEqProofs [x46l10_w, x46_r, x46r5_w, x46r6_w, x46r7_w, x46r8_w, e0, e1, e12, e13, hla, hlb, hlt, hltb, hm, hmb, hAt, hBt, I64, hne]
    · have hlt : ¬ (t : Int) < a.length := by omega
      rw [List.drop_of_length_le (by omega), List.drop_of_length_le (by omega)] at hdr
      rw [hdr]
      simp -implicitDefEqProofs [x46l10_w, x46_r, x46r5_w, x46r11_w, e12, e13, hlt]
  · have hb : ((a.length : Int) != b.length) = true := by simp; omega
    have hne : decide (a = b) = false := by simp; intro h; exact hab (by rw [h])
    rw [hne]
    simp -implicitDefEqProofs [x46_w, x46_r, x46r1_w, x46r2_w, x46r3_w, vw2_sl, hla, hlb, hb]
theorem begs_take : ∀ p q : List Int, begs p q = (decide (q.length ≤ p.length) && decide (q = p.take q.length))
  | p, [] => by simp [begs]
  | [], b :: q => by simp [begs]
  | a :: p, b :: q => by
    rw [begs, begs_take p q]
    by_cases hab : a = b
    · subst hab; simp
    · have : ¬ b = a := fun h => hab h.symm
      simp [hab, this]
def fstP (p : List Int) : List (List Int × D) → Option (List Int × D)
  | [] => none
  | (q, x) :: r => if begs p q = true then some (q, x) else fstP p r
theorem fstP_mem {p : List Int} : ∀ {L : List (List Int × D)} {q : List Int} {x : D}, fstP p L = some (q, x) → (q, x) ∈ L ∧ begs p q = true
  | [], _, _, h => by simp [fstP] at h
  | (q', x') :: L, q, x, h => by
    simp only [fstP] at h
    split at h
    · simp only [Option.some.injEq, Prod.mk.injEq] at h
      obtain ⟨rfl, rfl⟩ := h
      exact ⟨by simp, by assumption⟩
    · have := fstP_mem h
      exact ⟨by simp [this.1], this.2⟩
def subN : Nat → D → List Int → Bool
  | _, _, [] => true
  | 0, _, _ :: _ => false
  | f + 1, d, i :: p => match fstP (i :: p) d.parts with
    | some (q, x) => subN f x ((i :: p).drop q.length)
    | none => false
def D.sub (d : D) (p : List Int) : Bool := subN d.sz d p
theorem subN_nil (f : Nat) (d : D) : subN f d [] = true := by cases f <;> rfl
theorem subN_eq : ∀ (f f' : Nat) (d : D) (p : List Int), d.sz ≤ f → d.sz ≤ f' → subN f d p = subN f' d p
  | f, f', d, [], _, _ => by rw [subN_nil, subN_nil]
  | 0, _, d, _ :: _, h, _ => by have := D.sz_pos d; omega
  | _, 0, d, _ :: _, _, h => by have := D.sz_pos d; omega
  | f + 1, f' + 1, d, i :: p, h, h' => by
    simp only [subN]
    cases hf : fstP (i :: p) d.parts with
    | none => rfl
    | some r =>
      obtain ⟨q, x⟩ := r
      have := parts_mem (fstP_mem hf).1
      exact subN_eq f f' x _ (by omega) (by omega)
theorem sub_eq (d : D) (i : Int) (p : List Int) : d.sub (i :: p) = match fstP (i :: p) d.parts with
    | some (q, x) => x.sub ((i :: p).drop q.length)
    | none => false := by
  unfold D.sub
  rw [subN_eq d.sz (d.sz + 1) d _ (Nat.le_refl _) (by omega)]
  simp only [subN]
  cases hf : fstP (i :: p) d.parts with
  | none => rfl
  | some r =>
    obtain ⟨q, x⟩ := r
    have := parts_mem (fstP_mem hf).1
    exact subN_eq _ _ x _ (by omega) (Nat.le_refl _)
theorem round18 {n : Nat} {L : Nat} {e : Nat → V} (e2 : e 2 = .ref 0 0) (e3 : e 3 = .ref 1 0) (e7 : e 7 = .ref (L + 1 + 1) 0) {q : List Int} {x d : D} {p : List Int} {rest R : List O} (hrest : rest.length = L)
    (hq : q.length < 1000000) (hn : q.length + 1 < n) (hlow : lowH (.cells d.v.cells :: .cells [pv p] :: (rest ++ .cells [.c (.bool false)] :: .cells d.v.cells :: .loop 0 :: R))) :
    call X E (n + 1) 1001800 (.c (.int .i64 ((L + 4 : Nat) : Int)) :: pf q :: x.v :: keepE 42 [3, 2, 7] e) (.cells d.v.cells :: .cells [pv p] :: (rest ++ .cells [.c (.bool false)] :: .cells d.v.cells :: .loop 0 :: R)) =
      if begs p q = true then some (.c (.bool false), .cells x.v.cells :: .cells [pv (p.drop q.length)] :: (rest ++ .cells [.c (.bool true)] :: .cells d.v.cells :: .loop 6 :: R))
      else some (.c (.bool true), .cells d.v.cells :: .cells [pv p] :: (rest ++ .cells [.c (.bool false)] :: .cells d.v.cells :: .loop 0 :: R)) := by
  have hE : E 1001800 = none := rfl
  have hX : X 1001800 = some x1001800 := rfl
  have hA : x1001800.asg = some ([20, 21], XC.seq x1001800r3 x1001800r4) := rfl
  have c46 : ∀ h, call X E n 46 [.sl (q.map I64) .full, .sl ((p.take q.length).map I64) .any] h = some (.c (.bool (decide (q = p.take q.length))), h) := by
    obtain ⟨n, rfl⟩ : ∃ n', n = n' + 1 := ⟨n - 1, by omega⟩
    exact go46 q (p.take q.length) .full .any (by omega) (by omega)
  have hbt := begs_take p q
  have hlq : (q.map I64).length = q.length := List.length_map _
  have hlp : (p.map I64).length = p.length := List.length_map _
  have hzp : hz 1 (p.map I64) = true := hz_I64 p
  have htm : (p.take q.length).map I64 = (p.map I64).take q.length := List.map_take ..
  have hdm : (p.drop q.length).map I64 = (p.map I64).drop q.length := List.map_drop ..
  rw [htm] at c46
  have hlowP : ∀ m, V.lows m ((p.map I64).drop q.length) = true := fun m => by rw [← hdm]; exact lows_I64 m _
  simp only [pf, pv, hdm] at hlow ⊢
  clear htm hdm
  simp only [call, hE, hX, hA]
  rw [if_pos (by simp [hrest]; omega)]
  have t20 : toE (((keepE 42 [3, 2, 7] e).set 20 (.sl (q.map I64) .full)).set 21 x.v) 20 = .sl (q.map I64) .full := rfl
  have t21 : toE (((keepE 42 [3, 2, 7] e).set 20 (.sl (q.map I64) .full)).set 21 x.v) 21 = x.v := rfl
  have t2 : toE (((keepE 42 [3, 2, 7] e).set 20 (.sl (q.map I64) .full)).set 21 x.v) 2 = .ref 0 0 := e2
  have t3 : toE (((keepE 42 [3, 2, 7] e).set 20 (.sl (q.map I64) .full)).set 21 x.v) 3 = .ref 1 0 := e3
  have t7 : toE (((keepE 42 [3, 2, 7] e).set 20 (.sl (q.map I64) .full)).set 21 x.v) 7 = .ref (L + 1 + 1) 0 := e7
  have hputs : putAll [20, 21] (List.take [20, 21].length (V.sl (List.map I64 q) .full :: x.v :: keepE 42 [3, 2, 7] e)) (List.drop [20, 21].length (V.sl (List.map I64 q) .full :: x.v :: keepE 42 [3, 2, 7] e)) = some (((keepE 42 [3, 2, 7] e).set 20 (.sl (q.map I64) .full)).set 21 x.v) := rfl
  subst hrest
  have hend : ∀ (a1 a2 a3 z : O), (rest ++ a1 :: a2 :: a3 :: (R ++ [z]))[rest.length + (R.length + 1 + 1 + 1)]? = some z := fun a1 a2 a3 z => by
    rw [show rest ++ a1 :: a2 :: a3 :: (R ++ [z]) = (rest ++ a1 :: a2 :: a3 :: R) ++ [z] by simp, List.getElem?_append_right (by simp)]
    simp
  have send : ∀ (a1 a2 a3 z w : O), (rest ++ a1 :: a2 :: a3 :: (R ++ [z])).set (rest.length + (R.length + 1 + 1 + 1)) w = rest ++ a1 :: a2 :: a3 :: (R ++ [w]) := fun a1 a2 a3 z w => by
    rw [show rest ++ a1 :: a2 :: a3 :: (R ++ [z]) = (rest ++ a1 :: a2 :: a3 :: R) ++ [z] by simp, List.set_append_right _ _ (by simp)]
    simp
  have htk : ∀ (a1 a2 a3 z : O), (rest ++ a1 :: a2 :: a3 :: (R ++ [z])).take (rest.length + (R.length + 1 + 1 + 1)) = rest ++ a1 :: a2 :: a3 :: R := fun a1 a2 a3 z => by
    rw [show rest ++ a1 :: a2 :: a3 :: (R ++ [z]) = (rest ++ a1 :: a2 :: a3 :: R) ++ [z] by simp, List.take_left' (by simp)]
  have hk4 : ((rest.length : Int) + 4).toNat = rest.length + 4 := by omega
  have hlow2 : ∀ (y : D) (V1 : List V) (v : Bool) (m : Nat), (∀ k, V.lows k V1 = true) → (O.cells y.v.cells :: O.cells [V.sl V1 .any] :: (rest ++ O.cells [V.c (.bool v)] :: O.cells d.v.cells :: O.loop m :: R)).all (O.low (rest.length + (R.length + 1 + 1 + 1) + 1 + 1)) = true := fun y V1 v m hV => by
    unfold lowH at hlow
    have hle : (O.cells d.v.cells :: O.cells [V.sl (List.map I64 p) .any] :: (rest ++ O.cells [V.c (.bool false)] :: O.cells d.v.cells :: O.loop 0 :: R)).length = rest.length + (R.length + 1 + 1 + 1) + 1 + 1 := by simp
    rw [hle] at hlow
    simp only [List.all_append, List.all_cons, Bool.and_eq_true, olow_cells, D.low_cells, true_and] at hlow ⊢
    obtain ⟨h1, h2, h3, h4, h5⟩ := hlow
    exact ⟨by simp [V.lows, V.low, hV, SI.low], h2, rfl, rfl, h5⟩
  have hlowp : ∀ m, V.lows m (p.map I64) = true := fun m => lows_I64 m p
  have hend2 : rest.length + (R.length + 1 + 1 + 1) + 1 + 1 = rest.length + (R.length + 1 + 1 + 1) + 2 := rfl
  by_cases hbg : begs p q = true
  · rw [hbg] at hbt
    simp only [Bool.true_eq, Bool.and_eq_true, decide_eq_true_eq] at hbt
    obtain ⟨hle, heq⟩ := hbt
    have heq' : decide (q = p.take q.length) = true := by simpa using heq
    rw [heq'] at c46
    have hleI : (q.length : Int) ≤ p.length := by omega
    have h0q : (0 : Int) ≤ q.length := by omega
    rw [if_pos hbg]
    have hl6 := hlow2 x ((p.map I64).drop q.length) true 6 hlowP
    refine round_at (tm := (((keepE 42 [3, 2, 7] e).set 20 (.sl (q.map I64) .full)).set 21 x.v)) hputs (by kernel_rfl) (by kernel_rfl) ?_
    generalize toE (((keepE 42 [3, 2, 7] e).set 20 (.sl (q.map I64) .full)).set 21 x.v) = e0 at *
    generalize q.map I64 = Qv at *
    generalize p.map I64 = Pv at *
    have htkl : Pv.take p.length = Pv := by rw [← hlp]; exact List.take_length
    refine wpk_of ?_
    simp -implicitDefEqProofs [x1001800_w, x1001800r3_w, x1001800r4_w, t20, t21, D.okc, D.spl, D.cells_len, hend, send, get_m2, set_m2, hk4]
    refine wpk_of ?_
    simp -implicitDefEqProofs [x1001800_w, x1001800r1_w, x1001800r2_w, t20, t21, t2, t3, t7, D.rd, D.okc, D.spl2, D.cells_len, hend, send, get_m, get_m2, set_m, set_m2, hk4, hlp, hlq, hleI, h0q, hzp, c46, htk, htkl, Ex.num]
    simpa using hl6
  · have hbg' : begs p q = false := by simpa using hbg
    rw [if_neg hbg]
    rw [hbg'] at hbt
    have hl0 := hlow2 d (p.map I64) false 0 hlowp
    by_cases hle : q.length ≤ p.length
    · have heq' : decide (q = p.take q.length) = false := by simpa [hle] using hbt
      rw [heq'] at c46
      have hleI : (q.length : Int) ≤ p.length := by omega
      have h0q : (0 : Int) ≤ q.length := by omega
      refine round_at (tm := (((keepE 42 [3, 2, 7] e).set 20 (.sl (q.map I64) .full)).set 21 x.v)) hputs (by kernel_rfl) (by kernel_rfl) ?_
      generalize toE (((keepE 42 [3, 2, 7] e).set 20 (.sl (q.map I64) .full)).set 21 x.v) = e0 at *
      generalize q.map I64 = Qv at *
      generalize p.map I64 = Pv at *
      refine wpk_of ?_
      simp -implicitDefEqProofs [x1001800_w, x1001800r3_w, x1001800r4_w, t20, t21, D.okc, D.spl, D.cells_len, hend, send, get_m2, set_m2, hk4]
      refine wpk_of ?_
      simp -implicitDefEqProofs [x1001800_w, x1001800r1_w, x1001800r2_w, t20, t21, t2, t3, t7, D.rd, D.okc, D.cells_len, hend, send, get_m, get_m2, set_m, set_m2, hk4, hlp, hlq, hleI, h0q, hzp, c46, htk, Ex.num]
      simpa using hl0
    · have hleI : ¬ (q.length : Int) ≤ p.length := by omega
      refine round_at (tm := (((keepE 42 [3, 2, 7] e).set 20 (.sl (q.map I64) .full)).set 21 x.v)) hputs (by kernel_rfl) (by kernel_rfl) ?_
      generalize toE (((keepE 42 [3, 2, 7] e).set 20 (.sl (q.map I64) .full)).set 21 x.v) = e0 at *
      generalize q.map I64 = Qv at *
      generalize p.map I64 = Pv at *
      refine wpk_of ?_
      simp -implicitDefEqProofs [x1001800_w, x1001800r3_w, x1001800r4_w, t20, t21, D.okc, D.spl, D.cells_len, hend, send, get_m2, set_m2, hk4]
      refine wpk_of ?_
      simp -implicitDefEqProofs [x1001800_w, x1001800r1_w, x1001800r2_w, t20, t21, t2, t3, t7, D.rd, D.okc, D.cells_len, hend, send, get_m, get_m2, set_m, set_m2, hk4, hlp, hlq, hleI, htk, Ex.num]
      simpa using hl0
end Go.Proofs.YtkiliokeanmagaaDoor.Ab

namespace Go.Proofs.YtkiliokeanmagaaDoor.Ab
open Go
set_option linter.unusedVariables false
set_option linter.unusedSimpArgs false
set_option maxRecDepth 8000
set_option maxHeartbeats 2000000
def F18 (d : D) (p : List Int) (rest : List O) : Option (D × List Int) → List O
  | none => .cells d.v.cells :: .cells [pv p] :: (rest ++ [.cells [.c (.bool false)], .cells d.v.cells])
  | some (x, q) => .cells x.v.cells :: .cells [pv q] :: (rest ++ [.cells [.c (.bool true)], .cells d.v.cells])
def Z18 (p : List Int) : List Int → D → Option (D × List Int) → Option (D × List Int) × Nat := fun q x s => if begs p q = true then (some (x, p.drop q.length), 6) else (s, 0)
theorem walk18 (p : List Int) : ∀ L : List (List Int × D), walkS (Z18 p) L none = match fstP p L with
    | some (q, x) => (some (x, p.drop q.length), 6)
    | none => (none, 0)
  | [] => rfl
  | (q, x) :: L => by
    simp only [walkS, fstP, Z18]
    by_cases h : begs p q = true
    · simp [h]
    · simp only [h, if_false]
      exact walk18 p L
theorem rnd18 {n : Nat} {d : D} {p : List Int} {rest : List O} {e : Nat → V} (hn : 5 < n) (e2 : e 2 = .ref 0 0) (e3 : e 3 = .ref 1 0) (e7 : e 7 = .ref (rest.length + 1 + 1) 0) (hrest : rest.all (O.low (rest.length + 4)) = true) :
    PartRnd (n + 1) 1001800 (keepE 42 [3, 2, 7] e) (rest.length + 4) (F18 d p rest) (fun s => s = none) (fun _ => True) (Z18 p) d.parts where
  len := fun s => by cases s <;> simp [F18]
  low := fun s _ => by
    have h1 : ∀ m (p : List Int), V.lows m [pv p] = true := fun m p => by simp [V.lows, pv_low]
    cases s with
    | none =>
      simp only [F18, List.all_cons, List.all_append, olow_cells, D.low_cells, h1, hrest, Bool.true_and, List.all_nil, Bool.and_true]
      rfl
    | some s =>
      simp only [F18, List.all_cons, List.all_append, olow_cells, D.low_cells, h1, hrest, Bool.true_and, List.all_nil, Bool.and_true]
      rfl
  imp := fun _ _ => trivial
  pres := fun q x hin s hs => ⟨trivial, fun h0 => by
    subst hs
    unfold Z18 at h0 ⊢
    split at h0
    · simp at h0
    · rename_i h; simp [h]⟩
  rnd := fun q x hin s hs R hl => by
    subst hs
    have h3 := (parts_mem hin).2
    simp only [F18, List.cons_append, List.append_assoc, List.nil_append] at hl ⊢
    rw [round18 e2 e3 e7 rfl (by omega) (by omega) hl]
    unfold Z18
    by_cases hb : begs p q = true
    · simp [hb, F18]
    · simp [hb, F18]
theorem go18 (d : D) (p : List Int) (si : SI) (hl : d.sz < 10000000000) (hp : p.length < 1099511627776) {n : Nat} (hn : 4 * d.sz + 210 ≤ n) : Gives (n + 1) 18 [d.v, .sl (p.map I64) si] (.tup [.c (.bool (decide (d.err = 0) && d.sub p)), .c (.int .i64 d.err)]) := by
  obtain ⟨n, rfl⟩ : ∃ n', n = n' + 2 := ⟨n - 2, by omega⟩
  have c44 : ∀ h, call X E (n + 1 + 1) 44 [d.v] h = some (.c (.int .i64 d.err), h) := go44 d (by omega) (by omega)
  have c45 : ∀ (d : D) h, call X E (n + 1 + 1) 45 [d.v] h = some (.clo 72 [.ref h.length 0], h ++ [.cells d.v.cells]) := fun d => go45 d
  have hpv : (V.sl (p.map I64) si).vw2 = pv p := rfl
  show Gives ((n + 1 + 1) + 1) 18 [d.v, .sl (p.map I64) si] _
  refine gives_of rfl rfl rfl (by kernel_rfl) ⟨rfl, rfl⟩ (by simp [D.vw2, hpv, V.lows, D.low, pv_low]) ?_
  have hoc : okc (pv p) = true := rfl
  have hcl : ∀ p, (pv p).cells = [pv p] := fun _ => rfl
  by_cases h0 : d.err = 0
  rotate_left
  · have hb : (d.err != 0) = true := by simp [h0]
    generalize call X E (n + 1 + 1) = cf at *
    simp -implicitDefEqProofs [x18_w, x18_r, x18r1_w, x18r2_w, x18r3_w, x18r4_w, D.vw2, hpv, hoc, hcl, D.okc, D.rd, D.cells_len, c44, hb, h0]
    try simp [V.low, V.lows]
  rw [h0] at c44 ⊢
  have hlt : ∀ i : Int, ((0 : Int) < i) = (0 < i) := fun _ => rfl
  simp -implicitDefEqProofs [x18_w, x18r1_w, x18r2_w, x18r3_w, D.vw2, hpv, hoc, hcl, D.okc, D.rd, D.cells_len, c44]
  obtain ⟨I, hI⟩ : ∃ I : Nat → SF → Prop, ∀ k s, I k s ↔ (∃ (d' : D) (p' : List Int) (rest : List O), d'.sz ≤ k ∧ d'.sz ≤ d.sz ∧ d.sub p = d'.sub p' ∧ s.h = .cells d'.v.cells :: .cells [pv p'] :: rest ∧ rest.all (O.low (rest.length + 2)) = true ∧ s.e 2 = .ref 0 0 ∧ s.e 3 = .ref 1 0 ∧ s.base = 0) := ⟨_, fun _ _ => Iff.rfl⟩
  refine lpk_of I d.sz (by omega) ((hI _ _).2 ⟨d, p, [], Nat.le_refl _, Nat.le_refl _, rfl, by simp, rfl, by simp [upd_at], by simp [upd_at], rfl⟩) ?_
  rintro k ⟨e, h, base, rb⟩ hi
  obtain ⟨d', p', rest, hk, hd, hs, hh, hlr, e2, e3, hb⟩ := (hI _ _).1 hi
  simp only at hh e2 e3 hb
  subst hh hb
  rw [hs]
  cases p' with
  | nil =>
    have : d'.sub [] = true := subN_nil _ _
    rw [this]
    have hpe : pv [] = .sl [] .any := rfl
    rw [hpe]
    simp -implicitDefEqProofs [x18l10_w, x18_r, x18r5_w, x18r11_w, e2, e3]
    try simp [V.low, V.lows]
  | cons i p' =>
    have hpe : pv (i :: p') = .sl (I64 i :: p'.map I64) .any := rfl
    have hse := sub_eq d' i p'
    have hpos : (0 : Int) < (p'.length : Int) + 1 := by omega
    have c45' := c45 d'
    have hw18 := walk18 (i :: p') d'.parts
    generalize hP : i :: p' = P at *
    generalize hbs : d'.sub P = bs at *
    have hlen : (V.sl (I64 i :: p'.map I64) SI.any) = pv P := hpe.symm
    have hll : lenF (pv P) = fun h => some (.c (.int .i64 ((p'.length : Int) + 1)), h) := by rw [hpe]; funext h; simp [lenF]
    have hcn : ∀ h, lenF (pv P) h = some (.c (.int .i64 ((p'.length : Int) + 1)), h) := fun h => by rw [hll]
    simp -implicitDefEqProofs [x18l10_w, x18r5_w, x18r6_w, x18r7_w, e2, e3, D.rd, D.okc, D.cells_len, hcn, hpos, set_m, set_m1, c45']
    refine wpk_parts (σ := Option (D × List Int)) (d := d') (n := n + 1) (c := rest.length + 3) (N := rest.length + 4) (F := F18 d' P rest) (P := fun s => s = none) (W := fun _ => True) (Z := Z18 P) (s0 := none) ?_ ?_ ?_ (by decide) (rnd18 ?_ ?_ ?_ ?_ ?_) ?_ ?_ rfl ?_
    · simp [upd_at]
    · omega
    · omega
    · omega
    · simp [upd_at, e2]
    · simp [upd_at, e3]
    · simp [upd_at]
    · exact olow_mono (by omega) hlr
    · simp [F18]
    · rintro s rfl
      simp [F18, get_m1]
    · rintro s1 - m1 hw
      rw [hw18] at hw
      cases hf : fstP P d'.parts with
      | none =>
        rw [hf] at hw hse
        simp only [Prod.mk.injEq] at hw
        obtain ⟨rfl, rfl⟩ := hw
        refine ⟨.normal, rfl, ?_⟩
        subst hse
        simp only [F18, List.cons_append, List.append_assoc, List.nil_append]
        simp -implicitDefEqProofs [x18_r, x18r8_w, x18r9_w, get_m]
        try simp [V.low, V.lows]
      | some r =>
        obtain ⟨q, x⟩ := r
        rw [hf] at hw hse
        simp only [Prod.mk.injEq] at hw hse
        obtain ⟨rfl, rfl⟩ := hw
        refine ⟨.exit 2, rfl, ?_⟩
        have hpm := parts_mem (fstP_mem hf).1
        simp only [F18, List.cons_append, List.append_assoc, List.nil_append]
        simp -implicitDefEqProofs [x18r8_w, x18r9_w, get_m]
        refine ⟨x.sz, by omega, (hI _ _).2 ⟨x, P.drop q.length, rest ++ [.cells [.c (.bool true)], .cells d'.v.cells, .loop 2], Nat.le_refl _, by omega, by rw [hs, hse], by simp, ?_, by simp [upd_at, e2], by simp [upd_at, e3], rfl⟩⟩
        simp only [List.all_append, Bool.and_eq_true, List.all_cons, olow_cells, D.low_cells, List.all_nil]
        exact ⟨olow_mono (by simp) hlr, rfl, trivial, rfl, trivial⟩
end Go.Proofs.YtkiliokeanmagaaDoor.Ab

namespace Go.Proofs.YtkiliokeanmagaaDoor.Ab
open Go
set_option linter.unusedVariables false
set_option linter.unusedSimpArgs false
set_option maxRecDepth 8000
set_option maxHeartbeats 2000000
theorem runF_escF {cf : CallF} {n : Nat} {xf : XF} {args : List V} {h : List O} {P : V → List O → Prop} (hx : xfOk xf args.length = true) (hp : xf.pure = true) (he : xf.esc = true) (hr : xf.rw = true) (hl : V.lows 0 (args.map V.vw2) = true)
    (hw : wpx cf n xf.body ⟨arg0 (args.map V.vw2), frees, frees.length, 0⟩ (Fin (fun vs s => P (resOf vs).vw s) xf)) : ∃ v H, P v H ∧ runF cf n xf args h = some (v.shift h.length, h ++ H.map (O.shift h.length)) := by
  have := exec_of (cf := cf) (n := n) (xf := xf) (args := args.map V.vw2) (h := frees) (by simpa using hx) hw
  obtain ⟨e, s, vs, h1, h2, h3, h4, h5⟩ := this
  refine ⟨(resOf vs).vw, s.h, h5, ?_⟩
  unfold runF
  rw [if_pos hp, if_pos hl, if_pos he, show pre0 xf = frees by simp [pre0, hr], h1]
  cases e with
  | exit id => exact absurd rfl (h2 id)
  | normal => simp [fin, h3]
  | ret => simp [fin, h3]
theorem frees_ex : ∃ Fr : List O, frees = .free :: Fr ∧ ∀ m, Fr.all (O.low m) = true := by
  refine ⟨List.replicate 4095 .free, by unfold frees; rfl, fun m => ?_⟩
  rw [List.all_eq_true]
  intro o ho
  rw [List.eq_of_mem_replicate ho]
  rfl
def osi (out : List (List Int)) : SI := if out.isEmpty then .nil else .tok 0
def o0 (out : List (List Int)) : O := if out.isEmpty then .free else .tok out.length 1
theorem grow26 {out : List (List Int)} {h : List O} {sb al b : Nat} {p : List Int} (h0 : h[0]? = some (o0 out)) (hsb : 0 < sb) (hal : h[al]? = some .want) :
    grow sb al b none false h (pvs out) (osi out) [pv p] = some (.sl (pvs (out ++ [p])) (osi (out ++ [p])), h.set 0 (o0 (out ++ [p]))) := by
  have e1 : pvs (out ++ [p]) = pvs out ++ [pv p] := by simp [pvs]
  have e2 : osi (out ++ [p]) = .tok 0 := by simp [osi]
  have e3 : o0 (out ++ [p]) = .tok (out.length + 1) 1 := by simp [o0]
  rw [e1, e2, e3]
  cases out with
  | nil =>
    have hf : freeSlot h sb al = 0 := by
      unfold freeSlot
      obtain ⟨m, rfl⟩ : ∃ m, sb = m + 1 := ⟨sb - 1, by omega⟩
      have : isFree h[0]? = true := by rw [h0]; rfl
      rw [List.range_succ_eq_map, List.find?_cons, this]
      rfl
    have := grow_nilW sb al b none h [] [] (pv p) hal
    rw [hf] at this
    exact this
  | cons a r =>
    have hk : h[0]? = some (.tok (pvs (a :: r)).length (zc none)) := by rw [h0]; simp [o0, pvs]
    have := grow_tok sb al b 0 none false h (pvs (a :: r)) [] (pv p) hk
    rw [show osi (a :: r) = .tok 0 from rfl, this]
    simp [pvs]
theorem gvk_26 {cf : CallF} {n : Nat} {K : List Fr} {Q : Ex → SF → Prop} {s : SF} {out : List (List Int)} {al b sb : Nat} {p : List Int} {h : List O} {d : Option Nat} {r : List XOper} (h0 : h[0]? = some (o0 out)) (hsb : 0 < sb) (hal : h[al]? = some .want)
    (hq : opsk cf n r K Q ⟨updO s.e d (.sl (pvs (out ++ [p])) (osi (out ++ [p]))), h.set 0 (o0 (out ++ [p])), s.base, s.rb⟩) : gvk cf n (grow sb al b none false h (pvs out) (osi out) [.sl (p.map I64) .any]) d r K Q s := by
  have := grow26 (b := b) (p := p) h0 hsb hal
  unfold pv at this
  rw [this, gvk_some]
  exact hq
theorem o0_low (m : Nat) (out : List (List Int)) : O.low m (o0 out) = true := by unfold o0; split <;> rfl
theorem osi_low {m : Nat} (hm : 0 < m) (out : List (List Int)) : (osi out).low m = true := by unfold osi; split <;> simp [SI.low, hm]
theorem round26 {n : Nat} {L : Nat} {e : Nat → V} (e5 : e 5 = .ref (L + 1 + 1) 0) {p : List Int} {x : D} {out : List (List Int)} {Fr R : List O} {c1 c3 : O} (hFr : Fr.length = L) (ho : out.length < 1000000000000)
    (hlow : lowH (o0 out :: (Fr ++ c1 :: .cells [.sl (pvs out) (osi out)] :: c3 :: .loop 0 :: R))) :
    call X E (n + 1) 1002600 (.c (.int .i64 ((L + 4 : Nat) : Int)) :: pf p :: x.v :: keepE 21 [5] e) (o0 out :: (Fr ++ c1 :: .cells [.sl (pvs out) (osi out)] :: c3 :: .loop 0 :: R)) =
      some (.c (.bool true), o0 (out ++ [p]) :: (Fr ++ c1 :: .cells [.sl (pvs (out ++ [p])) (osi (out ++ [p]))] :: c3 :: .loop 0 :: R)) := by
  have hE : E 1002600 = none := rfl
  have hX : X 1002600 = some x1002600 := rfl
  have hA : x1002600.asg = some ([14, 15], x1002600r2) := rfl
  simp only [call, hE, hX, hA]
  rw [if_pos (by simp [hFr]; omega)]
  have t14 : toE (((keepE 21 [5] e).set 14 (.sl (p.map I64) .full)).set 15 x.v) 14 = .sl (p.map I64) .full := rfl
  have t5 : toE (((keepE 21 [5] e).set 14 (.sl (p.map I64) .full)).set 15 x.v) 5 = .ref (L + 1 + 1) 0 := e5
  have hputs : putAll [14, 15] (List.take [14, 15].length (V.sl (List.map I64 p) .full :: x.v :: keepE 21 [5] e)) (List.drop [14, 15].length (V.sl (List.map I64 p) .full :: x.v :: keepE 21 [5] e)) = some (((keepE 21 [5] e).set 14 (.sl (p.map I64) .full)).set 15 x.v) := rfl
  subst hFr
  have hk4 : ((Fr.length : Int) + 4).toNat = Fr.length + 4 := by omega
  have hpl := pvs_len out
  have hz := pvs_hz out
  have hb1 : (out.length + 1) * 24 ≤ 140737488355328 := by omega
  have hb2 : out.length + 1 ≤ 140737488355328 := by omega
  have htk : ∀ (a1 a2 a3 a4 z w : O), (Fr ++ a1 :: a2 :: a3 :: a4 :: (R ++ [z, w])).take (Fr.length + (R.length + 1 + 1 + 1 + 1)) = Fr ++ a1 :: a2 :: a3 :: a4 :: R := fun a1 a2 a3 a4 z w => by
    rw [show Fr ++ a1 :: a2 :: a3 :: a4 :: (R ++ [z, w]) = (Fr ++ a1 :: a2 :: a3 :: a4 :: R) ++ [z, w] by simp, List.take_left' (by simp)]
  have hwt : ∀ (a0 a1 a2 a3 a4 z w : O), (a0 :: (Fr ++ a1 :: a2 :: a3 :: a4 :: (R ++ [z, w])))[Fr.length + (R.length + 1 + 1 + 1 + 1) + 1 + 1]? = some w := fun a0 a1 a2 a3 a4 z w => by
    rw [show a0 :: (Fr ++ a1 :: a2 :: a3 :: a4 :: (R ++ [z, w])) = (a0 :: (Fr ++ a1 :: a2 :: a3 :: a4 :: R)) ++ [z, w] by simp, List.getElem?_append_right (by simp)]
    simp
  have hl2 : (o0 (out ++ [p]) :: (Fr ++ c1 :: .cells [.sl (pvs (out ++ [p])) (osi (out ++ [p]))] :: c3 :: .loop 0 :: R)).all (O.low (Fr.length + (R.length + 1 + 1 + 1 + 1) + 1)) = true := by
    unfold lowH at hlow
    have hle : (o0 out :: (Fr ++ c1 :: O.cells [.sl (pvs out) (osi out)] :: c3 :: O.loop 0 :: R)).length = Fr.length + (R.length + 1 + 1 + 1 + 1) + 1 := by simp
    rw [hle] at hlow
    simp only [List.all_append, List.all_cons, Bool.and_eq_true, olow_cells] at hlow ⊢
    obtain ⟨h1, h2, h3, h4, h5, h6, h7⟩ := hlow
    exact ⟨o0_low _ _, h2, h3, by simp [V.lows, V.low, pvs_low, osi_low], h5, rfl, h7⟩
  refine round_at (tm := (((keepE 21 [5] e).set 14 (.sl (p.map I64) .full)).set 15 x.v)) hputs (by kernel_rfl) (by kernel_rfl) ?_
  generalize toE (((keepE 21 [5] e).set 14 (.sl (p.map I64) .full)).set 15 x.v) = e0 at *
  refine wpk_of ?_
  simp -implicitDefEqProofs [x1002600_w, x1002600r2_w, t14, get_m3, hk4]
  refine wpk_of ?_
  have gm3 : ∀ (h : List O) (a b c e : O) (t : List O), (h ++ a :: b :: c :: e :: t)[h.length + 3]? = some e := get_m3
  have sm3 : ∀ (h : List O) (a b c e x : O) (t : List O), (h ++ a :: b :: c :: e :: t).set (h.length + 3) x = h ++ a :: b :: c :: x :: t := fun h a b c e x t => by
    rw [List.set_append_right _ _ (by omega)]; simp
  simp -implicitDefEqProofs [x1002600_w, x1002600r1_w, t5, gm3, sm3, get_m1, set_m1, hpl, hz, hb1, hb2]
  refine gvk_26 (by simp) (by omega) ?_ ?_
  · first | exact hwt .. | (simp only [List.append_assoc, List.cons_append, List.nil_append]; exact hwt ..)
  simp -implicitDefEqProofs [t5, gm3, sm3, get_m1, set_m1, htk, Ex.num]
  simpa using hl2
def F26 (d : D) (Fr : List O) (out : List (List Int)) : List O := o0 out :: (Fr ++ [.cells d.v.cells, .cells [.sl (pvs out) (osi out)], .cells d.v.cells])
def Z26 : List Int → D → List (List Int) → List (List Int) × Nat := fun p _ out => (out ++ [p], 0)
theorem walk26 : ∀ (L : List (List Int × D)) (out : List (List Int)), walkS Z26 L out = (out ++ L.map (·.1), 0)
  | [], out => by simp [walkS]
  | (p, x) :: L, out => by
    simp only [walkS, Z26, if_true]
    rw [walk26 L]
    simp
theorem ok26 (m : Nat) : ∀ (L : List (List Int × D)) (out : List (List Int)), out.length + L.length ≤ m → okS Z26 (fun _ _ out => out.length < m) L out
  | [], _, _ => trivial
  | (p, x) :: L, out, h => by
    simp only [List.length_cons] at h
    refine ⟨by omega, fun _ => ok26 m L _ ?_⟩
    simp only [Z26, List.length_append, List.length_singleton]
    omega
theorem rnd26 {n : Nat} {d : D} {Fr : List O} (hFr : ∀ m, Fr.all (O.low m) = true) {e : Nat → V} (e5 : e 5 = .ref (Fr.length + 1 + 1) 0) (hl : d.sz < 10000000000) :
    PartRndA (n + 1) 1002600 (keepE 21 [5] e) (Fr.length + 4) (F26 d Fr) (fun out => out.length ≤ d.parts.length) (fun _ => True) (fun _ _ out => out.length < d.parts.length) Z26 d.parts where
  len := fun out => by simp [F26]
  low := fun out _ => by
    simp only [F26, List.all_cons, List.all_append, olow_cells, D.low_cells, hFr, o0_low, Bool.true_and, List.all_nil, Bool.and_true]
    simp [V.lows, V.low, pvs_low, osi_low]
  imp := fun _ _ => trivial
  pres := fun p x hin out h1 h2 => ⟨trivial, fun _ => by simp only [Z26, List.length_append, List.length_singleton]; omega⟩
  rnd := fun p x hin out h1 h2 R hlow => by
    have hnum := parts_num d
    simp only [F26, List.cons_append, List.append_assoc, List.nil_append] at hlow ⊢
    rw [round26 e5 rfl (by omega) hlow]
    simp [Z26, F26]
theorem shift_pvs (m : Nat) (ps : List (List Int)) : V.shifts m (pvs ps) = pvs ps := by
  have hI : ∀ p : List Int, V.shifts m (p.map I64) = p.map I64 := fun p => by
    induction p with
    | nil => rfl
    | cons a p ih => simp only [List.map_cons, V.shifts, ih]; rfl
  induction ps with
  | nil => rfl
  | cons a ps ih =>
    simp only [pvs, List.map_cons, V.shifts] at ih ⊢
    rw [ih]
    simp [pv, V.shift, hI, SI.shift]
theorem vw2_pvs (ps : List (List Int)) (si : SI) : (V.sl (pvs ps) si).vw2 = .sl (pvs ps) .any := rfl
theorem go26 (d : D) (hl : d.sz < 10000000000) {n : Nat} (hn : 4 * d.sz + 230 ≤ n) (h : List O) : ∃ T, call X E (n + 1) 26 [d.v] h = some (.tup [.sl (pvs (if d.err = 0 then d.rp else [])) .any, .c (.int .i64 d.err)], h ++ T) := by
  obtain ⟨n, rfl⟩ : ∃ n', n = n' + 2 := ⟨n - 2, by omega⟩
  have c44 : ∀ h, call X E (n + 1 + 1) 44 [d.v] h = some (.c (.int .i64 d.err), h) := go44 d (by omega) (by omega)
  have c45 : ∀ h, call X E (n + 1 + 1) 45 [d.v] h = some (.clo 72 [.ref h.length 0], h ++ [.cells d.v.cells]) := go45 d
  obtain ⟨Fr, hFr, hFl⟩ := frees_ex
  have hw26 := walk26 d.parts []
  have hrp := d.parts_rp
  rw [call_run (n := n + 1 + 1) (xf := x26) rfl rfl rfl]
  have key : ∃ (v : V) (H : List O), v = .tup [.sl (pvs (if d.err = 0 then d.rp else [])) .any, .c (.int .i64 d.err)] ∧ runF (call X E (n + 1 + 1)) (n + 1 + 1) x26 [d.v] h = some (v.shift h.length, h ++ H.map (O.shift h.length)) := by
    refine runF_escF (P := fun v _ => v = .tup [.sl (pvs (if d.err = 0 then d.rp else [])) .any, .c (.int .i64 d.err)]) (by kernel_rfl) rfl rfl rfl (by simp [D.vw2, V.lows, D.low]) (wpk_of ?_)
    rw [hFr]
    by_cases h0 : d.err = 0
    · rw [h0] at c44 ⊢
      simp -implicitDefEqProofs [x26_w, x26r1_w, x26r2_w, x26r3_w, x26r5_w, x26r6_w, D.vw2, D.okc, D.rd, D.cells_len, c44, c45, set_m, get_m]
      refine wpk_partsA (σ := List (List Int)) (d := d) (n := n + 1) (c := Fr.length + 3) (N := Fr.length + 4) (F := F26 d Fr) (Z := Z26) (s0 := []) ?_ ?_ ?_ (by decide) (rnd26 hFl ?_ hl) ?_ ?_ ?_ (ok26 _ _ _ (by simp)) ?_
      · simp [upd_at]
      · omega
      · omega
      · simp [upd_at]
      · simp [F26, pvs, osi, o0]
      · intro out _
        simp [F26, get_m2]
      · simp
      · rintro out - m hw
        rw [hw26, hrp] at hw
        simp only [List.nil_append, Prod.mk.injEq] at hw
        obtain ⟨rfl, rfl⟩ := hw
        refine ⟨.normal, rfl, ?_⟩
        simp only [F26, List.cons_append, List.append_assoc, List.nil_append]
        simp -implicitDefEqProofs [x26_r, x26r7_w, get_m1, vw2_pvs]
    · have hb : (d.err != 0) = true := by simp [h0]
      rw [if_neg h0]
      simp -implicitDefEqProofs [x26_w, x26_r, x26r1_w, x26r2_w, x26r3_w, x26r4_w, D.vw2, D.okc, D.rd, D.cells_len, c44, hb, set_m, get_m, pvs]
  obtain ⟨v, H, rfl, h2⟩ := key
  refine ⟨H.map (O.shift h.length), ?_⟩
  rw [h2]
  simp [V.shift, V.shifts, shift_pvs, SI.shift]
end Go.Proofs.YtkiliokeanmagaaDoor.Ab

namespace Go.Proofs.YtkiliokeanmagaaDoor.Ab
open Go
set_option linter.unusedVariables false
set_option linter.unusedSimpArgs false
set_option maxRecDepth 8000
set_option maxHeartbeats 2000000
theorem alive_g {n : Nat} (hn : 60 ≤ n) : ∀ h, call X E n 14 [] h = some (.c (.bool true), h) := gives_nil rfl (alive_up hn)
end Go.Proofs.YtkiliokeanmagaaDoor.Ab

namespace Go.Proofs.YtkiliokeanmagaaDoor.Ab
open Go
set_option linter.unusedVariables false
set_option linter.unusedSimpArgs false
set_option maxRecDepth 8000
set_option maxHeartbeats 4000000
end Go.Proofs.YtkiliokeanmagaaDoor.Ab

namespace Go.Proofs.YtkiliokeanmagaaDoor.Ab
open Go
set_option linter.unusedVariables false
set_option linter.unusedSimpArgs false
set_option maxRecDepth 8000
set_option maxHeartbeats 4000000
theorem firstW_congr {g g' : D → Option (List Int)} : ∀ L : List (List Int × D), (∀ p x, (p, x) ∈ L → g x = g' x) → firstW g L = firstW g' L
  | [], _ => rfl
  | (p, x) :: L, h => by simp only [firstW]; rw [h p x (by simp), firstW_congr L fun p x hx => h p x (by simp [hx])]
theorem wrongN_eq : ∀ (f f' : Nat) (d : D), d.sz ≤ f → d.sz ≤ f' → wrongN f d = wrongN f' d
  | 0, _, d, h, _ => by have := D.sz_pos d; omega
  | _, 0, d, _, h => by have := D.sz_pos d; omega
  | f + 1, f' + 1, d, h, h' => by
    simp only [wrongN]
    rw [firstW_congr d.parts fun p x hx => wrongN_eq f f' x (by have := parts_mem hx; omega) (by have := parts_mem hx; omega)]
theorem firstW_none {g : D → Option (List Int)} : ∀ L : List (List Int × D), firstW g L = none ↔ ∀ p x, (p, x) ∈ L → g x = none
  | [] => by simp [firstW]
  | (p, x) :: L => by
    simp only [firstW]
    cases h : g x with
    | none =>
      simp only
      rw [firstW_none L]
      constructor
      · intro hL q y hq
        rcases List.mem_cons.1 hq with e | e
        · simp only [Prod.mk.injEq] at e
          rw [e.2]; exact h
        · exact hL q y e
      · exact fun hL q y hq => hL q y (by simp [hq])
    | some r =>
      constructor
      · intro h2; cases h2
      · intro hL
        have := hL p x (by simp)
        rw [h] at this
        cases this
def D.good (d : D) : Prop := wrongN d.sz d = none
theorem good_eq (d : D) : d.good ↔ d.form ≠ 0 ∧ ∀ p x, (p, x) ∈ d.parts → x.good := by
  unfold D.good
  rw [wrongN_eq d.sz (d.sz + 1) d (Nat.le_refl _) (by omega)]
  simp only [wrongN]
  by_cases h0 : d.form = 0
  · simp [h0]
  · rw [if_neg h0, firstW_none]
    constructor
    · exact fun h => ⟨h0, fun p x hx => by rw [wrongN_eq x.sz d.sz x (Nat.le_refl _) (by have := parts_mem hx; omega)]; exact h p x hx⟩
    · exact fun h p x hx => by rw [wrongN_eq d.sz x.sz x (by have := parts_mem hx; omega) (Nat.le_refl _)]; exact h.2 p x hx
theorem err_zero (d : D) : d.err = 0 ↔ d.ck = 0 ∧ d.good := by
  unfold D.err D.good
  by_cases hc : d.ck = 0
  · rw [if_neg (by simp [hc])]
    cases wrongN d.sz d <;> simp [hc]
  · rw [if_pos hc]
    simp [hc]
theorem err_parts {d : D} (h : d.err = 0) {p : List Int} {x : D} (hx : (p, x) ∈ d.parts) : x.err = 0 := by
  rw [err_zero, D.ck_zero] at h ⊢
  have ha := d.parts_at p x hx
  have h1 := parts_mem hx
  have h2 := D.at_dp p d x ha
  exact ⟨⟨D.at_fm p d x ha h.1.1, by omega, by omega⟩, ((good_eq d).1 h.2).2 p x hx⟩
theorem fstP_some {p : List Int} : ∀ {L : List (List Int × D)} {q : List Int} {x : D}, (q, x) ∈ L → begs p q = true → ∃ q' x', fstP p L = some (q', x')
  | [], _, _, h, _ => by simp at h
  | (q', x') :: L, q, x, h, hb => by
    simp only [fstP]
    split
    · exact ⟨_, _, rfl⟩
    · rcases List.mem_cons.1 h with e | e
      · simp only [Prod.mk.injEq] at e
        rw [e.1] at hb
        contradiction
      · exact fstP_some e hb
theorem rp_beg {d : D} {p q : List Int} (hp : p ∈ d.rp) (hq : q ∈ d.rp) (hb : begs p q = true) : p.length = q.length := by
  have h1 : ∀ n, ∀ r ∈ rng1 n, r.length = 1 := fun n r hr => by
    obtain ⟨i, _, rfl⟩ := List.mem_map.1 hr
    rfl
  unfold D.rp at hp hq
  split at hp
  · rename_i h; rw [if_pos h] at hq; simp at hp hq; rcases hp with rfl | rfl | rfl <;> rcases hq with rfl | rfl | rfl <;> rfl
  rename_i h4; rw [if_neg h4] at hq
  split at hp
  · rename_i h; rw [if_pos h] at hq; simp at hp hq; rw [hp, hq]
  rename_i h5; rw [if_neg h5] at hq
  split at hp
  · rename_i h; rw [if_pos h] at hq; simp at hp hq; rcases hp with rfl | rfl <;> rcases hq with rfl | rfl <;> rfl
  rename_i h6; rw [if_neg h6] at hq
  split at hp
  · rename_i h; rw [if_pos h] at hq; simp at hp hq; rcases hp with rfl | rfl <;> rcases hq with rfl | rfl <;> rfl
  rename_i h8; rw [if_neg h8] at hq
  split at hp
  · rename_i h; rw [if_pos h] at hq
    rcases List.mem_append.1 hp with hp | hp <;> rcases List.mem_append.1 hq with hq | hq
    · obtain ⟨i, _, rfl⟩ := List.mem_map.1 hp
      obtain ⟨j, _, rfl⟩ := List.mem_map.1 hq
      rfl
    · obtain ⟨i, _, rfl⟩ := List.mem_map.1 hp
      simp at hq
      subst hq
      simp [begs] at hb
    · obtain ⟨i, _, rfl⟩ := List.mem_map.1 hq
      simp at hp
      subst hp
      simp [begs] at hb
    · simp at hp hq; rw [hp, hq]
  rename_i h7; rw [if_neg h7] at hq
  split at hp
  · rename_i h; rw [if_pos h] at hq; rw [h1 _ _ hp, h1 _ _ hq]
  · simp at hp
theorem sub_part {d : D} {p : List Int} {x : D} (hx : (p, x) ∈ d.parts) : d.sub p = true := by
  have hpr : p ∈ d.rp := by rw [← D.parts_rp]; exact List.mem_map.2 ⟨_, hx, rfl⟩
  cases p with
  | nil => exact subN_nil _ _
  | cons i p =>
    obtain ⟨q, y, hq⟩ := fstP_some hx (begs_refl (i :: p))
    obtain ⟨h1, h2⟩ := fstP_mem hq
    have hqr : q ∈ d.rp := by rw [← D.parts_rp]; exact List.mem_map.2 ⟨_, h1, rfl⟩
    have hl := rp_beg hpr hqr h2
    rw [sub_eq, hq]
    simp only
    rw [List.drop_of_length_le (by omega)]
    exact subN_nil _ _
theorem law7 (d : D) : call X E 20000 7 [d.v] [] = some (.c (.bool true), []) := by
  have hs := D.cut_small d 2000 1020 (by omega)
  have c1 : ∀ h, call X E 19999 17 [d.v, .c (.int .i64 2000), .c (.int .i64 1020)] h = some ((d.cut 2000 1020).1.v, h) := run38 d 2000 1020 19998 (by omega) (by omega) (by omega) (by omega) (by omega)
  generalize (d.cut 2000 1020).1 = a at *
  have e21 : ∀ x : D, x.sz ≤ 2000 → ∀ h, call X E 19999 21 [x.v] h = some (.tup [.c (.int .i64 (if x.err = 0 then (x.wt : Int) else 0)), .c (.int .i64 x.err)], h) := fun x hx => go21 x (by omega) (by omega)
  have e21a := e21 a (by omega)
  obtain ⟨T, e26⟩ := go26 a (by omega) (n := 19998) (by omega) [.cells d.v.cells, .cells a.v.cells]
  have e14 : ∀ h, call X E 19999 14 [] h = some (.c (.bool true), h) := alive_g (by omega)
  suffices hg : Gives 20000 7 [d.v] (.c (.bool true)) from hg []
  refine gives_of (n := 19999) rfl rfl rfl (by kernel_rfl) ⟨rfl, rfl⟩ (by simp [D.vw2, V.lows, D.low]) ?_
  have hle2 : 2 ≤ T.length + 1 + 1 := by omega
  by_cases h0 : a.err = 0
  · rw [h0] at e21a e26
    simp only [if_true] at e21a e26
    have hmem : ∀ j (h : j < a.rp.length), (a.rp[j], a.subs[j]'(by rw [subs_len]; exact h)) ∈ a.parts := fun j h => by rw [← parts_get h]; exact List.getElem_mem _
    have e27 : ∀ j (h : j < a.rp.length) (h' : j < a.subs.length) hh, call X E 19999 27 [a.v, pv a.rp[j]] hh = some (.tup [(a.subs[j]).v, .c (.bool true)], hh) := fun j h h' => by
      have h3 := rp_mem (List.getElem_mem h)
      have := run35 (d := a) (p := a.rp[j]) (n := 19998) (by omega) (by omega)
      simp only [atRes, rp_at h] at this
      exact this
    have e18 : ∀ j (h : j < a.rp.length) hh, call X E 19999 18 [a.v, pv a.rp[j]] hh = some (.tup [.c (.bool true), .c (.int .i64 0)], hh) := fun j h hh => by
      have h3 := rp_mem (List.getElem_mem h)
      have := go18 a a.rp[j] .any (by omega) (by omega) (n := 19998) (by omega) hh
      rw [h0, sub_part (hmem j h)] at this
      simp only [decide_true, Bool.true_and] at this
      exact this
    have e21s : ∀ j (h : j < a.rp.length) (h' : j < a.subs.length) hh, call X E 19999 21 [(a.subs[j]).v] hh = some (.tup [.c (.int .i64 (a.subs[j]).wt), .c (.int .i64 0)], hh) := fun j h h' hh => by
      have h1 := parts_mem (hmem j h)
      have h2 := err_parts h0 (hmem j h)
      have := e21 _ (show (a.subs[j]).sz ≤ 2000 by omega) hh
      rw [h2] at this
      simpa using this
    have hL : ∀ L : List (List Int × D), wtL D.wt L = (L.map fun q => q.2.wt).sum := fun L => by
      induction L with
      | nil => rfl
      | cons a L ih => obtain ⟨p, x⟩ := a; simp [wtL, ih]
    have hwt2 : a.wt = 1 + (a.subs.map D.wt).sum := by rw [wt_eq, hL, D.subs, List.map_map]; rfl
    have hwle : a.wt ≤ a.sz := wtN_le _ a
    have hsl := subs_len a
    have hnum := parts_num a
    have hpl := parts_len a
    clear hL hmem e21
    generalize hS : a.subs = S at *
    generalize hR : a.rp = RP at *
    have hpvl := pvs_len RP
    have hrl : RP.length < 19999 := by omega
    generalize call X E 19999 = cf at *
    simp -implicitDefEqProofs [x7_w, x7r1_w, x7r2_w, x7r3_w, x7r4_w, x7r5_w, x7r7_w, x7r8_w, D.vw2, D.okc, D.rd, D.cells_len, D.spl, c1, e26, hle2, e21a]
    obtain ⟨I, hI⟩ : ∃ I : Nat → SF → Prop, ∀ k s, I k s ↔ (∃ (j : Nat) (rest : List O), j + k = RP.length ∧ s.h = .cells d.v.cells :: .cells a.v.cells :: rest ∧ s.e 9 = .c (.int .i64 j) ∧ s.e 8 = .c (.int .i64 ((1 + ((S.take j).map D.wt).sum : Nat) : Int)) ∧ s.e 4 = .sl (pvs RP) .any ∧ s.e 6 = .c (.int .i64 a.wt) ∧ s.e 3 = .ref 1 0 ∧ s.base = 0) := ⟨_, fun _ _ => Iff.rfl⟩
    refine lpk_of I RP.length hrl ((hI _ _).2 ⟨0, T, by simp, by simp, by simp [upd_at], by simp [upd_at], by simp [upd_at], by simp [upd_at], by simp [upd_at], rfl⟩) ?_
    rintro k ⟨e, h, base, rb⟩ hi
    obtain ⟨j, rest, hj, hh, e9, e8, e4, e6, e3, hb⟩ := (hI _ _).1 hi
    simp only at hh e9 e8 e4 e6 e3 hb
    subst hh hb
    by_cases hm : j < RP.length
    · have hlt : (j : Int) < RP.length := by omega
      have hqg : (pvs RP)[j]'(by omega) = pv RP[j] := by simp [pvs]
      have hm2 : j < S.length := by omega
      have g27 := e27 j hm hm2
      have g18 := e18 j hm
      have g21 := e21s j hm hm2
      have hts : ((S.take (j + 1)).map D.wt).sum = ((S.take j).map D.wt).sum + (S[j]).wt := by
        rw [List.take_add_one, List.getElem?_eq_getElem hm2]
        simp only [Option.toList_some, List.map_append, List.sum_append, List.map_cons, List.map_nil, List.sum_cons, List.sum_nil]
        omega
      have hle : ((S.take (j + 1)).map D.wt).sum ≤ (S.map D.wt).sum := by
        conv => rhs; rw [← List.take_append_drop (j + 1) S]
        rw [List.map_append, List.sum_append]
        omega
      generalize hx : S[j] = x at *
      generalize hp : RP[j] = p at *
      have hcl : (pv p).cells = [pv p] := rfl
      have hw : IntKind.i64.wrap ((j : Int) + 1) = (j : Int) + 1 := wrap_in (by omega)
      generalize hA : ((S.take j).map D.wt).sum = A at *
      have hw2 : IntKind.i64.wrap (((1 + A : Nat) : Int) + (x.wt : Int)) = ((1 + (A + x.wt) : Nat) : Int) := by rw [wrap_in (by omega)]; omega
      generalize ((1 + A : Nat) : Int) = B at *
      generalize pv p = P at *
      simp -implicitDefEqProofs [x7l17_w, x7r9_w, x7r10_w, x7r11_w, x7r12_w, x7r13_w, x7r15_w, x7r16_w, e3, e4, e6, e8, e9, hpvl, hqg, hlt, hm, hcl, g27, g18, g21, D.cells_len, D.rd, D.okc, D.spl, get_m, set_m]
      refine ⟨k - 1, by omega, (hI _ _).2 ⟨j + 1, rest ++ [.cells x.v.cells], by omega, by simp, by simp [upd_at, hw], by rw [hts]; simp [upd_at]; rw [hw2]; simp, by simp [upd_at, e4], by simp [upd_at, e6], by simp [upd_at, e3], rfl⟩⟩
    · have hlt : ¬ (j : Int) < RP.length := by omega
      rw [List.take_of_length_le (by omega), ← hwt2] at e8
      simp -implicitDefEqProofs [x7l17_w, x7_r, x7r9_w, x7r18_w, e4, e6, e8, e9, hpvl, hlt, e14]
  · have hne : (a.err != 0) = true := by simp [h0]
    rw [if_neg h0] at e21a e26
    generalize a.err = er at *
    generalize call X E 19999 = cf at *
    simp -implicitDefEqProofs [x7_w, x7_r, x7r1_w, x7r2_w, x7r3_w, x7r4_w, x7r5_w, x7r6_w, D.vw2, D.okc, D.rd, D.cells_len, D.spl, c1, e26, hle2, e21a, hne, e14]
end Go.Proofs.YtkiliokeanmagaaDoor.Ab

namespace Go.Proofs.YtkiliokeanmagaaDoor.Ab
open Go Go.ChangeMaps Go.ChangeShapes Go.WideShapes Go.ChangeAt Go.RowKit
set_option linter.unusedVariables false
set_option linter.unusedSimpArgs false
set_option maxRecDepth 100000
section
variable {W : World} {g : Gh}
theorem addr_at {a : Addr} {n : Nat} (h : a.spot = none) : a.add n = ⟨a.block, a.off + n, none⟩ := by
  unfold Addr.add
  split
  · rename_i h0
    subst h0
    obtain ⟨b, o, s⟩ := a
    simp only at h
    subst h
    rfl
  · rfl
theorem cell_spot {a : Addr} {v : Value} (h : W.cell? a = some v) : a.spot = none ∧ a.block < W.heap.size := by
  unfold World.cell? at h
  split at h
  · rename_i c t m hb
    split at h
    · cases h
    · rename_i hs
      refine ⟨by simpa using hs, (Array.getElem?_eq_some_iff.1 hb).1⟩
  · cases h
def CellsOk (g : Gh) (W : World) (cs : List Value) (vs : List V) : Prop := cs.length = vs.length ∧ ∀ r (h1 : r < cs.length) (h2 : r < vs.length), Rep g W cs[r] vs[r] ∧ (cs[r]).oneCell' = true
theorem rep_slice {a : Addr} {len cap z : Nat} {us : List V} (hfz : ∀ b o, b < W.heap.size → g.fz b o) (hz : ∀ u ∈ us, u.cells.length = z) (hz0 : 0 < z) (hl : us.length = len) (hlc : len ≤ cap)
    (hc : ∀ i (hi : i < us.length), ∃ cs : List Value, W.cells? 0 (a.add (i * z)) z = some cs ∧ CellsOk g W cs (us[i]).cells) : Rep g W (.slice (some a) len cap) (.sl us .any) := by
  have hget : ∀ i (hi : i < us.length), ∃ cs : List Value, CellsOk g W cs (us[i]).cells ∧ ∀ r (h : r < cs.length), W.cell? ((a.add (i * z)).add r) = some cs[r] := by
    intro i hi
    obtain ⟨cs, h1, h2⟩ := hc i hi
    refine ⟨cs, h2, fun r hr => ?_⟩
    unfold World.cells? at h1
    split at h1
    · have hzl : r < z := by rw [← hz _ (List.getElem_mem hi), ← h2.1]; exact hr
      have := mapM_some_get h1 r r (by simp [hzl])
      rw [this, List.getElem?_eq_getElem hr]
    · cases h1
  have hsp : us ≠ [] → a.spot = none ∧ a.block < W.heap.size := by
    intro hne
    have hp : 0 < us.length := List.length_pos_iff.2 hne
    obtain ⟨cs, h2, h3⟩ := hget 0 hp
    have h4 := h3 0 (by rw [h2.1, hz _ (List.getElem_mem hp)]; exact hz0)
    have := cell_spot h4
    simpa [Addr.add] using this
  have hcell : ∀ i (hi : i < us.length) r (hr : r < (us[i]).cells.length), ∃ v, W.cell? ⟨a.block, a.off + (i * z + r), none⟩ = some v ∧ Rep g W v (us[i]).cells[r] ∧ v.oneCell' = true := by
    intro i hi r hr
    obtain ⟨hs, hb⟩ := hsp (by intro e; rw [e] at hi; simp at hi)
    obtain ⟨cs, h2, h3⟩ := hget i hi
    have hr' : r < cs.length := by rw [h2.1]; exact hr
    have h4 := h3 r hr'
    have e : (a.add (i * z)).add r = ⟨a.block, a.off + (i * z + r), none⟩ := by
      rw [addr_at hs, addr_at rfl]
      simp only [Nat.add_assoc]
    rw [e] at h4
    exact ⟨_, h4, h2.2 r hr' hr⟩
  have hidx : ∀ j, j < us.length * z → ∃ i r, ∃ (hi : i < us.length) (hr : r < (us[i]).cells.length), j = i * z + r := by
    intro j hj
    refine ⟨j / z, j % z, ?_, ?_, ?_⟩
    · exact (Nat.div_lt_iff_lt_mul hz0).2 hj
    · rw [hz _ (List.getElem_mem _)]; exact Nat.mod_lt _ hz0
    · rw [Nat.mul_comm]; exact (Nat.div_add_mod j z).symm
  refine .sl (some a) len cap us .any z (fun j => (W.cell? ⟨a.block, a.off + j, none⟩).getD undef) hl.symm hlc hz (fun hne => ?_) (fun j hj => ?_) trivial
  · obtain ⟨hs, hb⟩ := hsp hne
    refine ⟨a.block, a.off, ?_, fun j hj => ?_⟩
    · obtain ⟨b, o, s⟩ := a
      simp only at hs
      subst hs
      rfl
    · obtain ⟨i, r, hi, hr, rfl⟩ := hidx j hj
      obtain ⟨v, h1, _, h3⟩ := hcell i hi r hr
      refine ⟨hfz _ _ hb, ?_⟩
      simp only [h1, Option.getD_some, h3, and_self]
  · have hj' := hj
    rw [flats_length hz] at hj'
    obtain ⟨i, r, hi, hr, rfl⟩ := hidx j hj'
    obtain ⟨v, h1, h2, _⟩ := hcell i hi r hr
    have h5 := flats_at hz i hi r hr
    rw [List.getElem?_eq_getElem hj] at h5
    simp only [Option.some.injEq] at h5
    rw [h5]
    simp only [h1, Option.getD_some]
    exact h2
variable {H : Type} {enc : TypeId × Value → H} {sp : Nat → Bool} {held : Bool}
theorem cells24 : Tryd.prog.cellsOf 24 = 4 := by kernel_rfl
theorem cells22 : Tryd.prog.cellsOf 22 = 1 := by kernel_rfl
theorem cells3 : Tryd.prog.cellsOf 3 = 1 := by kernel_rfl
theorem cells2 : Tryd.prog.cellsOf 2 = 1 := by kernel_rfl
theorem cells9 : Tryd.prog.cellsOf 9 = 1 := by kernel_rfl
theorem open_cells (hfz : ∀ b o, b < W.heap.size → g.fz b o) : ∀ (fuel : Nat) (cs : List Value) (x : DataW H × List MemPlace), DataW.trod enc Tryd.prog W 0 sp held fuel 24 cs = some x → ∃ d : D, CellsOk g W cs d.v.cells := by
  intro fuel
  induction fuel using Nat.strongRecOn with
  | _ fuel ih =>
    intro cs x h
    obtain ⟨xs, n, rfl, rfl, hlen, hxl, hf⟩ := DataW.trod_struct Tryd.underlying24 h
    rw [cells24] at hlen
    obtain ⟨a0, a1, a2, a3, rfl⟩ : ∃ a0 a1 a2 a3, cs = [a0, a1, a2, a3] := by
      match cs, hlen with
      | [a0, a1, a2, a3], _ => exact ⟨_, _, _, _, rfl⟩
    have h0 : DataW.trod enc Tryd.prog W 0 sp held n 3 (([a0, a1, a2, a3].drop 0).take (Tryd.prog.cellsOf 3)) = xs[0]? := hf 0 _ rfl
    have h1 : DataW.trod enc Tryd.prog W 0 sp held n 2 (([a0, a1, a2, a3].drop 1).take (Tryd.prog.cellsOf 2)) = xs[1]? := hf 1 _ rfl
    have h2 : DataW.trod enc Tryd.prog W 0 sp held n 9 (([a0, a1, a2, a3].drop 2).take (Tryd.prog.cellsOf 9)) = xs[2]? := hf 2 _ rfl
    have h3 : DataW.trod enc Tryd.prog W 0 sp held n 22 (([a0, a1, a2, a3].drop 3).take (Tryd.prog.cellsOf 22)) = xs[3]? := hf 3 _ rfl
    simp only [cells3, cells2, cells9, cells22, List.drop_zero, List.drop_succ_cons, List.take_succ_cons, List.take_zero] at h0 h1 h2 h3
    have hxl : xs.length = 4 := hxl
    rw [List.getElem?_eq_getElem (by omega)] at h0 h1 h2 h3
    obtain ⟨k, e0, _⟩ := DataW.trod_int Tryd.underlying3 h0
    obtain ⟨m, e1, _⟩ := DataW.trod_int Tryd.underlying2 h1
    obtain ⟨t, e2, _⟩ := DataW.trod_string Tryd.underlying9 h2
    simp only [List.cons.injEq, and_true] at e0 e1 e2
    subst e0 e1 e2
    have key : ∃ l : List D, Rep g W a3 (.sl (D.vs l) .any) ∧ a3.oneCell' = true := by
      rcases DataW.trod_slice Tryd.underlying22 h3 with ⟨e3, _⟩ | ⟨a, len, cap, elems, rest, n', e4, e3, _, _, hlc, _, hel, hget, _⟩
      · simp only [List.cons.injEq, and_true] at e3
        subst e3
        exact ⟨[], .sl none 0 0 [] .any 4 (fun _ => undef) rfl (Nat.le_refl _) (by simp) (fun h => absurd rfl h) (fun j hj => by simp [flats] at hj) trivial, rfl⟩
      · simp only [List.cons.injEq, and_true] at e3
        subst e3 e4
        rw [cells24] at hget
        have hex : ∀ i, i < len → ∃ d : D, ∃ cs, W.cells? 0 (a.add (i * 4)) 4 = some cs ∧ CellsOk g W cs d.v.cells := by
          intro i hi
          have := hget i hi
          rw [List.getElem?_eq_getElem (by omega)] at this
          simp only [Option.bind_eq_some_iff] at this
          obtain ⟨cs, hc, ht⟩ := this
          obtain ⟨d, hd⟩ := ih n' (by omega) cs _ ht
          exact ⟨d, cs, hc, hd⟩
        have hl : ∀ m, m ≤ len → ∃ l : List D, l.length = m ∧ ∀ i (hi : i < l.length), ∃ cs, W.cells? 0 (a.add (i * 4)) 4 = some cs ∧ CellsOk g W cs (l[i]).v.cells := by
          intro m
          induction m with
          | zero => exact fun _ => ⟨[], rfl, fun i hi => by simp at hi⟩
          | succ m ihm =>
            intro hm
            obtain ⟨l, h1, h2⟩ := ihm (by omega)
            obtain ⟨d, hd⟩ := hex m (by omega)
            refine ⟨l ++ [d], by simp [h1], fun i hi => ?_⟩
            rcases Nat.lt_or_ge i l.length with h3 | h3
            · rw [List.getElem_append_left h3]; exact h2 i h3
            · have hi' : i = l.length := by simp at hi; omega
              subst hi'
              rw [List.getElem_append_right (Nat.le_refl _)]
              simp only [Nat.sub_self, List.getElem_cons_zero]
              rw [h1]; exact hd
        obtain ⟨l, h1, h2⟩ := hl len (Nat.le_refl _)
        refine ⟨l, rep_slice (z := 4) hfz (fun u hu => ?_) (by omega) (by rw [D.vs_len, h1]) hlc (fun i hi => ?_), rfl⟩
        · rw [D.vs_map] at hu
          obtain ⟨d, _, rfl⟩ := List.mem_map.1 hu
          exact D.cells_len d
        · rw [D.vs_getE]
          exact h2 i _
    obtain ⟨l, hr, ho⟩ := key
    refine ⟨.mk k m t l, rfl, fun r h1 h2 => ?_⟩
    simp only [List.length_cons, List.length_nil] at h1
    match r, h1 with
    | 0, _ => exact ⟨.c _, rfl⟩
    | 1, _ => exact ⟨.c _, rfl⟩
    | 2, _ => exact ⟨.c _, rfl⟩
    | 3, _ => exact ⟨hr, ho⟩
theorem open_datum {r : Reach} {b0 : Nat} {v : Value} {dd : DataW H} {ps : List MemPlace} (hfz : ∀ b o, b < W.heap.size → g.fz b o) (hval : Value.okWide Tryd.prog W r b0 24 v) (hd : DataW.Trod enc Tryd.prog W 0 sp held 24 v dd ps) : ∃ d : D, Rep g W v d.v := by
  obtain ⟨cs, rfl, hn⟩ := okWide_struct Tryd.underlying24 hval
  obtain ⟨fuel, hf⟩ := hd
  obtain ⟨d, h1, h2⟩ := open_cells hfz fuel _ _ hf
  refine ⟨d, ?_⟩
  obtain ⟨k, n, t, l⟩ := d
  simp only [Value.cells] at h1 h2
  have h1' : cs.size = 4 := by simpa [D.v, V.cells] using h1
  refine .agg cs _ (by simp [h1']) (fun i hi => ?_) (fun i hi hj => ?_)
  · have := h2 i (by simpa using hi) (by simp [D.v, V.cells]; omega)
    simpa using this.2
  · have := h2 i (by simpa using hi) (by simpa [D.v, V.cells] using hj)
    simpa [D.v, V.cells] using this.1
end
end Go.Proofs.YtkiliokeanmagaaDoor.Ab

namespace Go.Proofs.YtkiliokeanmagaaDoor.Ab
open Go Go.ChangeMaps Go.ChangeShapes Go.WideShapes Go.ChangeAt Go.RowKit
set_option linter.unusedVariables false
set_option linter.unusedSimpArgs false
set_option maxRecDepth 100000
end Go.Proofs.YtkiliokeanmagaaDoor.Ab

namespace Go.Proofs.YtkiliokeanmagaaDoor
open Go Go.ChangeMaps Go.ChangeShapes Go.WideShapes Go.ChangeAt Go.RowKit
set_option linter.unusedVariables false
set_option linter.unusedSimpArgs false
theorem own : ownKnob Tryd.prog.godebug = none := by kernel_rfl
theorem laidOut : laidOutB Tryd.prog = true := by kernel_rfl
theorem gWords : Tryd.prog.globalNamed "pagoda/syntax.words" = some 0 := by kernel_rfl
theorem tWords : ∃ T k, (Tryd.prog.globals[0]?).map (·.type) = some T ∧ Tryd.prog.underlying T = some (.map 9 k) ∧ Tryd.prog.underlying k = some (.int .i64) :=
  ⟨((Tryd.prog.globals[0]?).map (·.type)).getD 0, 3, by kernel_rfl, by kernel_rfl, by kernel_rfl⟩
theorem lawW : WideMaps.KeyLaw Tryd.prog 9 := WideMaps.string_law Tryd.underlying9
def laidL : List (String × DataW Unit) := [("pagoda/syntax.words", Rows.laid_pagoda_syntax_words)]
theorem door_met (os : Os) (args : Array Value) : laidMetH Tryd.prog laidL ((World.doorLaid Tryd.prog 400 os).forCall (fun _ _ => 0) ⟨#[], args, []⟩).memory :=
  laidMetH_of_parts3 (fuel := 8) (laidMet_of_run' 8 (by kernel_rfl) (by kernel_rfl)) (by kernel_rfl) (by kernel_rfl)
def wl : List (List UInt8 × Int) := [([102, 110], 5), ([105, 102], 4), ([108, 101, 116], 6), ([113, 117, 111, 116, 101], 3), ([114, 101, 99], 7), ([115, 101, 113], 8), ([117, 112], 9)]
theorem laid_wl : Rows.laid_pagoda_syntax_words (H := Unit) = .map (wl.map fun p => (.string p.1, .lit (.int .i64 p.2))) := rfl
theorem mem_fold {H : Type} {y : Lit × DataW H} : ∀ l : List (Lit × DataW H), y ∈ l.foldr DataW.insert [] ↔ y ∈ l
  | [] => Iff.rfl
  | x :: l => by rw [List.foldr_cons, mem_insert_iff, mem_fold l, List.mem_cons]
theorem pw_inj : ∀ {l : List MapEntry}, l.Pairwise (fun a b => a.key ≠ b.key) → ∀ e ∈ l, ∀ e' ∈ l, e.key = e'.key → e = e'
  | [], _, e, h, _, _, _ => by simp at h
  | a :: l, hp, e, h, e', h', hk => by
    rw [List.pairwise_cons] at hp
    rcases List.mem_cons.1 h with h1 | h1 <;> rcases List.mem_cons.1 h' with h2 | h2
    · rw [h1, h2]
    · subst h1; exact absurd hk (hp.1 _ h2)
    · subst h2; exact absurd hk.symm (hp.1 _ h1)
    · exact pw_inj hp.2 _ h1 _ h2 hk
theorem choose_list {l : List MapEntry} : ∀ (wl : List (List UInt8 × Int)), (∀ p ∈ wl, ∃ e ∈ l, e.key = .string ⟨p.1.toArray⟩ ∧ e.val = .int .i64 p.2) →
    ∃ l' : List MapEntry, l'.map (·.key) = wl.map (fun p => .string ⟨p.1.toArray⟩) ∧ l'.map (·.val) = wl.map (fun p => .int .i64 p.2) ∧ ∀ e ∈ l', e ∈ l
  | [], _ => ⟨[], rfl, rfl, by simp⟩
  | p :: wl, h => by
    obtain ⟨e, h1, h2, h3⟩ := h p (by simp)
    obtain ⟨l', k1, k2, k3⟩ := choose_list wl fun p hp => h p (by simp [hp])
    refine ⟨e :: l', by simp [h2, k1], by simp [h3, k2], fun x hx => ?_⟩
    rcases List.mem_cons.1 hx with rfl | hx
    · exact h1
    · exact k3 x hx
theorem of_laid {W : World} (h : laidMetH Tryd.prog laidL W) : ∃ bm es ck, W.cell? ⟨0, 0, none⟩ = some (.map (some bm)) ∧ Ab.MapAt W bm es ck ∧
    es.toList.map (·.key) = wl.map (fun p => .string ⟨p.1.toArray⟩) ∧ es.toList.map (·.val) = wl.map (fun p => .int .i64 p.2) := by
  rw [MakeChecks.laidMetH_plain _ _ _ (by kernel_rfl)] at h
  obtain ⟨ps, ⟨g0, t0, cs0, f0, p0, q0, hg0, ht0, hv0, hd0, _, _⟩, _, _⟩ := h
  obtain ⟨T, k, hT, hu, hk⟩ := tWords
  obtain rfl := Option.some.inj (gWords.symm.trans hg0)
  obtain rfl := Option.some.inj (hT.symm.trans ht0)
  rw [laid_wl] at hd0
  rcases WideMaps.open_map hu hk hd0 with ⟨_, hx⟩ | ⟨bm, es, clock, hcs, hb, _, F, hx⟩
  · simp at hx
  simp only [Prod.mk.injEq, DataW.map.injEq] at hx
  obtain ⟨hx, _⟩ := hx
  have hmem : ∀ y, y ∈ (wl.map fun p => ((.string p.1, .lit (.int .i64 p.2)) : Lit × DataW Unit)) ↔ y ∈ es.toList.map (WideMaps.rg Unit Tryd.prog 9 .i64) := fun y => by
    rw [hx, mem_fold]
  have hkv : ∀ (e : MapEntry) (p : List UInt8 × Int), p ∈ wl → e ∈ es.toList → WideMaps.rg Unit Tryd.prog 9 .i64 e = (.string p.1, .lit (.int .i64 p.2)) → e.key = .string ⟨p.1.toArray⟩ ∧ e.val = .int .i64 p.2 := by
    intro e p hp he hr
    obtain ⟨y, hy⟩ := F.reads e he
    rw [WideMaps.rg_of hy] at hr
    subst hr
    have h1 := WideMaps.rd_key hy
    obtain ⟨n, h2, h3, _⟩ := WideMaps.rd_val hy
    simp only [DataW.lit.injEq, Lit.int.injEq, true_and] at h3
    have h4 : keyOf Tryd.prog 9 (.string ⟨p.1.toArray⟩) = some (.string p.1) := by
      have hsz : (ByteArray.mk p.1.toArray).size ≤ maxLen := by
        have : ∀ p ∈ wl, (ByteArray.mk p.1.toArray).size ≤ maxLen := by decide
        exact this p hp
      have := WideMaps.keyOf_string_mk (s := ⟨p.1.toArray⟩) Tryd.underlying9 hsz
      simpa using this
    exact ⟨lawW.inj h1 h4, by rw [h2, h3]⟩
  have huniq := pw_inj ((MapKept.stamped_iff es clock).1 F.stamped).2.2
  obtain ⟨l', k1, k2, k3⟩ := choose_list (l := es.toList) wl fun p hp => by
    have := (hmem (.string p.1, .lit (.int .i64 p.2))).1 (List.mem_map.2 ⟨p, hp, rfl⟩)
    obtain ⟨e, he, hr⟩ := List.mem_map.1 this
    exact ⟨e, he, hkv e p hp he hr⟩
  have hkeys : ∀ e ∈ l', ∃ s, e.key = .string s := fun e he => by
    have : e.key ∈ l'.map (·.key) := List.mem_map.2 ⟨e, he, rfl⟩
    rw [k1] at this
    obtain ⟨p, _, hp⟩ := List.mem_map.1 this
    exact ⟨_, hp.symm⟩
  have hcell : W.cell? ⟨0, 0, none⟩ = some (.map (some bm)) := by
    have := World.var?_cell hg0 hv0 0
    rw [Array.eq_one_of_toList hcs] at this
    simpa using this
  refine ⟨bm, ⟨l'⟩, clock, hcell, ⟨es, hb, fun e => ⟨fun he => ?_, fun he => k3 e he⟩, hkeys, fun e he e' he' => huniq e (k3 e he) e' (k3 e' he')⟩, k1, k2⟩
  have h1 : WideMaps.rg Unit Tryd.prog 9 .i64 e ∈ (wl.map fun p => ((.string p.1, .lit (.int .i64 p.2)) : Lit × DataW Unit)) := (hmem _).2 (List.mem_map.2 ⟨e, he, rfl⟩)
  obtain ⟨p, hp, hr⟩ := List.mem_map.1 h1
  obtain ⟨h2, _⟩ := hkv e p hp he hr.symm
  have h3 : e.key ∈ l'.map (·.key) := by rw [k1, h2]; exact List.mem_map.2 ⟨p, hp, rfl⟩
  obtain ⟨e', he', hk'⟩ := List.mem_map.1 h3
  have := huniq e he e' (k3 e' he') hk'.symm
  subst this
  exact he'
def old (W : World) : Nat → Nat → Prop := fun b _ => b < W.heap.size
theorem gl_of_laid {W : World} (h : laidMetH Tryd.prog laidL W) : Ab.GlOk ⟨fun _ => none, fun _ => none, old W⟩ W := by
  obtain ⟨bm, es, ck, hc, hm, hk, hv⟩ := of_laid h
  intro n v hn
  unfold Ab.gvs at hn
  split at hn
  rotate_left
  · cases hn
  simp only [Option.some.injEq] at hn
  subst hn
  have h0 : (0 : Nat) < W.heap.size := by
    unfold World.cell? at hc
    cases hh : W.heap[0]? with
    | none => simp [hh] at hc
    | some o => exact (Array.getElem?_eq_some_iff.1 hh).1
  have hbm : bm < W.heap.size := by
    obtain ⟨es0, h1, _⟩ := hm
    exact (Array.getElem?_eq_some_iff.1 h1).1
  have hlen : es.size = 7 := by
    have := congrArg List.length hk
    simpa [wl] using this
  have hv2 : ∀ (i : Nat) (hi : i < es.size) (hj : i < (wl.map fun p => (Ab.V.c (.int .i64 p.2))).length), Ab.Rep ⟨fun _ => none, fun _ => none, old W⟩ W (es[i]'hi).val ((wl.map fun p => (Ab.V.c (.int .i64 p.2)))[i]) := by
    intro i hi hj
    have hj' : i < wl.length := by simpa using hj
    have h1 : (es.toList.map (·.val))[i]'(by simpa using hi) = (wl.map fun p => Value.int .i64 p.2)[i]'(by simpa using hj') := by simp only [hv]
    simp only [List.getElem_map, Array.getElem_toList] at h1
    rw [List.getElem_map, h1]
    exact .c _
  refine .ptr 0 0 0 _ 0 (fun _ => .map (some bm)) rfl (fun j hj => ?_) fun j hj => ?_
  · have : j = 0 := by simp at hj; omega
    subst this
    exact ⟨h0, hc, rfl⟩
  · have : j = 0 := by simp at hj; omega
    subst this
    refine .fmp bm es ck _ _ hm hbm (by rw [hk]; rfl) (by rw [hlen]; rfl) fun i hi hj => hv2 i hi hj
theorem Ab.law_calls {f : Nat} {args : List Ab.V} {n : Nat} (hfr : f < Ab.rid) (h : Ab.call Ab.X Ab.E n f args [] = some (.c (.bool true), [])) {W : World} {cargs : Array Value} (hgl : Ab.GlOk ⟨fun _ => none, fun _ => none, old W⟩ W) (hl : cargs.size = args.length)
    (hr : ∀ i (hi : i < cargs.size) (hj : i < args.length), Ab.Rep ⟨fun _ => none, fun _ => none, old W⟩ W cargs[i] args[i]) :
    Calls Tryd.prog f cargs W (fun e W' => e = .returned (.bool true) ∧ Below W.heap.size W W') := by
  have H : Ab.HOk ⟨fun _ => none, fun _ => none, old W⟩ W [] := ⟨(fun _ _ e => by simp at e), (fun _ _ _ _ e => by simp at e), (fun _ _ _ e => by simp at e), (fun _ _ _ _ _ _ _ e => by simp at e), (fun _ _ _ _ _ e => by simp at e), ⟨fun _ _ h => h, hgl⟩⟩
  refine Calls.mono (((Ab.seat_ok n _ _ _ _ _ h).1 hfr).2 _ W cargs H hl hr) ?_
  rintro e W' ⟨v, g', rfl, hle, _, hrep, _⟩
  have hv : v = .bool true := hrep.of_c
  subst hv
  refine ⟨rfl, ⟨hle.os, hle.tape, hle.output, hle.size, fun b hb => hle.kept b hb ?_⟩⟩
  rintro (⟨id, e⟩ | ⟨k, l, c, e⟩) <;> simp at e
theorem stays {H : Type} {enc : TypeId × Value → H} {t : TypeId} (hr : Tryd.prog.readableRec t = true) (hrow : t < Tryd.prog.types.size) {W W' : World} {v : Value} {d : DataW H} {ps : List MemPlace}
    (h : DataW.Trod enc Tryd.prog W 0 (fun _ => true) true t v d ps) (hb : Below W.heap.size W W') : DataW.Trod enc Tryd.prog W' 0 (fun b => decide (b < W.heap.size)) true t v d ps := by
  refine hb.trod laidOut hr hrow h fun x hx => ?_
  obtain ⟨fuel, hf⟩ := h
  exact DataW.trod_lt fuel _ _ _ hf x hx
end Go.Proofs.YtkiliokeanmagaaDoor

namespace Go.Proofs.YtkiliokeanmagaaDoor
open Go Go.ChangeMaps Go.ChangeShapes Go.WideShapes Go.ChangeAt Go.RowKit
set_option linter.unusedVariables false
set_option linter.unusedSimpArgs false
set_option maxRecDepth 100000 in
theorem syntaxParts_lifted (os : Os) (started : os.Started) (H : Type) (enc : TypeId × Value → H) :
    ReturnsInHanded {} Tryd.checked os 7 .any (fun w args => (Rows.syntaxPartsSpec.pre enc Tryd.prog Tryd.f7 [] false w args ∧ laidMetH Tryd.prog laidL w) ∧ sizedMet enc Tryd.prog Tryd.f7 (OpenSpec.ofChange Rows.syntaxPartsSpec) false w args)
      (Rows.syntaxPartsSpec.post enc Tryd.prog Tryd.f7 false true false false) := by
  refine returnsInHanded_of_change_and (C := Tryd.checked) (X := fun w _ => laidMetH Tryd.prog laidL w) (fun _ _ _ hh h => h.of_heap hh) own started (by kernel_rfl) Tryd.func7
    (ChangeSpec.witness_shaped (enc := enc) (C := Tryd.checked) (os := os) (X := fun w _ => laidMetH Tryd.prog laidL w) false (World.doorLaid Tryd.prog 400 os) #[.agg #[.int .i64 0, .int .i64 0, .string ⟨#[]⟩, .slice none 0 0]] 8 rfl (World.shaped_of_RefB (by kernel_rfl) (by kernel_rfl)) (by kernel_rfl) (by kernel_rfl) (by kernel_rfl) (door_met os _)) ?_
  intro W base args ds gs before hval0 hW _ _ hL _
  have hval : ∀ (j : Nat) t v, Tryd.f7.params[j]? = some t → args[j]? = some v → Value.okWide Tryd.prog W .any base t v := hval0
  have hW' := hW
  obtain ⟨p, q, hA0, hV, rfl, hfz, hnd⟩ := hW
  have hA : DataW.TrodAll enc Tryd.prog W 0 (fun _ => true) true Tryd.f7.params.toList args.toList ds p := hA0
  rw [Tryd.params7] at hA hval
  obtain ⟨v0, d0, rfl, rfl, h0⟩ := trodAll_one hA
  obtain ⟨rfl, rfl⟩ := trodVars_none hV
  obtain ⟨x0, r0⟩ := Ab.open_datum (g := ⟨fun _ => none, fun _ => none, old W⟩) (fun _ _ h => h) (hval 0 24 v0 rfl rfl) h0
  simp only [List.append_nil] at hW'
  refine (Ab.law_calls (n := 20000) (by decide) (args := [x0.v]) (Ab.law7 x0) (W := W) (cargs := #[v0]) (gl_of_laid hL) rfl (fun i hi hj => by
    match i, hj with
    | 0, _ => exact r0)).mono fun e W' ⟨he, hB⟩ => ?_
  subst he
  exact ⟨_, rfl, _, _, _, [], _, [], hW', trodAll_mk1 (shut_bool Tryd.underlying4 true), trodAll_mk1 (stays (by kernel_rfl) (by decide +kernel) h0 hB), rfl, hB.frame _, fun h => by cases h⟩
theorem syntaxParts_row : Rows.SyntaxPartsSaid :=
  OpenClaim.holds_of_wide 7 Tryd.f7 rfl rfl rfl rfl rfl rfl rfl ⟨rfl, rfl, rfl, rfl, rfl⟩ rfl rfl rfl rfl rfl (by kernel_rfl) Tryd.func7 (by kernel_rfl)
    (of_decide_eq_true (by kernel_rfl)) (by unfold Func.isWrapper; first | (rw [if_pos (by decide +kernel)]; kernel_rfl) | (rw [if_neg (by decide +kernel)]; exact ⟨rfl, rfl⟩))
    (fun os started H enc _ => syntaxParts_lifted os started H enc)
theorem syntaxParts_holds : Rows.SyntaxPartsCardSaid :=
  Claim7.holds_tied_plain_at .later [] [.mapped] true (true, "8ccad16c6e417e3cd4dc0213b5b27223fa57546759a13c087f9ad22ecc3916b7") false
    syntaxParts_row (fun _ h => by cases h) (by kernel_rfl) (fun _ h => by cases h) syntaxParts_row_tie rfl ⟨rfl, rfl⟩ (by kernel_rfl) rfl
    (fun f fn hf hfn => by
      obtain rfl : f = 7 := Option.some.inj ((show Tryd.prog.funcNamed "pagoda/pagodalaw04.SyntaxParts" = some 7 by kernel_rfl).symm.trans hf) |>.symm
      obtain rfl : fn = Tryd.f7 := (Option.some.inj (Tryd.func7.symm.trans hfn)).symm
      exact ⟨by kernel_rfl, fun j t ht => by
        rw [Tryd.params7] at ht
        have h3 : t = 24 := by
          match j, ht with
          | 0, ht => exact (by simpa using ht.symm)
          | j + 1, ht => simp at ht
        rcases h3 with rfl
        · exact (show Tryd.prog.wantsStandIn 24 = false by kernel_rfl)⟩)
    (by kernel_rfl)
end Go.Proofs.YtkiliokeanmagaaDoor

