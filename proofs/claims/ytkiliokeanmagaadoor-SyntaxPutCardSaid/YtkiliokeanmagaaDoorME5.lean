/- Part 6 of 14: the interpreter. -/
import Derived.Test.YtkiliokeanmagaaDoorME4
namespace Go.Proofs.YtkiliokeanmagaaDoor.Ab
open Go
set_option linter.unusedVariables false
section
variable (cf : CallF) (n : Nat) (s : SF) (K : List Fr) (Q : Ex → SF → Prop)
theorem rK (x : XC) {ops : List XOper} {pre : List O} {d : Bool} (h : x = .reg ops pre d) : wpk cf n x K Q s = opsk cf n ops K Q ⟨s.e, s.h ++ pre, s.base, s.h.length⟩ := by subst h; rfl
theorem wK (x : XC) {ops : List XOper} {pre : List O} (h : x = .regw ops pre) : wpk cf n x K Q s = opsw cf n ops K Q ⟨s.e, s.h ++ pre, s.base, s.h.length⟩ := by subst h; rfl
theorem lK (x : XC) {a b : XC} (h : x = .seq a b) : wpk cf n x K Q s = wpk cf n (.seq a b) K Q s := by subst h; rfl
theorem bK (x : XF) {m : Nat} {c : XC} {r : List XR} {p e w : Bool} {a : Option (List Nat × XC)} (h : x = ⟨m, c, r, p, e, w, a⟩) : wpk cf n x.body K Q s = wpk cf n c K Q s := by subst h; rfl
theorem bR (x : XF) {m : Nat} {c : XC} {r : List XR} {p e w : Bool} {a : Option (List Nat × XC)} (h : x = ⟨m, c, r, p, e, w, a⟩) : x.res = r := by subst h; rfl
end
end Go.Proofs.YtkiliokeanmagaaDoor.Ab

namespace Go.Proofs.YtkiliokeanmagaaDoor.Ab
open Go
set_option linter.defProp false
section
variable (cf : CallF) (n : Nat) (s : SF) (K : List Fr) (Q : Ex → SF → Prop)
def x17r1_w := rK cf n s K Q x17r1 rfl
def x17r2_w := rK cf n s K Q x17r2 rfl
def x17r3_w := rK cf n s K Q x17r3 rfl
def x17_w := bK cf n s K Q x17 rfl
def x17_r := bR x17 rfl
def x20r1_w := rK cf n s K Q x20r1 rfl
def x20r2_w := rK cf n s K Q x20r2 rfl
def x20r3_w := rK cf n s K Q x20r3 rfl
def x20r4_w := rK cf n s K Q x20r4 rfl
def x20r5_w := rK cf n s K Q x20r5 rfl
def x20r6_w := rK cf n s K Q x20r6 rfl
def x20_w := bK cf n s K Q x20 rfl
def x20_r := bR x20 rfl
def x35r1_w := rK cf n s K Q x35r1 rfl
def x35r2_w := rK cf n s K Q x35r2 rfl
def x35r3_w := rK cf n s K Q x35r3 rfl
def x35r4_w := rK cf n s K Q x35r4 rfl
def x35r5_w := rK cf n s K Q x35r5 rfl
def x35r6_w := rK cf n s K Q x35r6 rfl
def x35_w := bK cf n s K Q x35 rfl
def x35_r := bR x35 rfl
def x43r1_w := rK cf n s K Q x43r1 rfl
def x43r2_w := rK cf n s K Q x43r2 rfl
def x43r3_w := rK cf n s K Q x43r3 rfl
def x43r4_w := rK cf n s K Q x43r4 rfl
def x43r5_w := rK cf n s K Q x43r5 rfl
def x43r6_w := wK cf n s K Q x43r6 rfl
def x43r7_w := rK cf n s K Q x43r7 rfl
def x43l8_w := lK cf n s K Q x43l8 rfl
def x43r9_w := rK cf n s K Q x43r9 rfl
def x43_w := bK cf n s K Q x43 rfl
def x43_r := bR x43 rfl
def x48r1_w := rK cf n s K Q x48r1 rfl
def x48r2_w := rK cf n s K Q x48r2 rfl
def x48r3_w := rK cf n s K Q x48r3 rfl
def x48r4_w := rK cf n s K Q x48r4 rfl
def x48r5_w := rK cf n s K Q x48r5 rfl
def x48r6_w := rK cf n s K Q x48r6 rfl
def x48r7_w := rK cf n s K Q x48r7 rfl
def x48r8_w := rK cf n s K Q x48r8 rfl
def x48r9_w := rK cf n s K Q x48r9 rfl
def x48r10_w := rK cf n s K Q x48r10 rfl
def x48r11_w := rK cf n s K Q x48r11 rfl
def x48r12_w := rK cf n s K Q x48r12 rfl
def x48l13_w := lK cf n s K Q x48l13 rfl
def x48r14_w := rK cf n s K Q x48r14 rfl
def x48r15_w := rK cf n s K Q x48r15 rfl
def x48_w := bK cf n s K Q x48 rfl
def x48_r := bR x48 rfl
def x49r1_w := rK cf n s K Q x49r1 rfl
def x49r2_w := rK cf n s K Q x49r2 rfl
def x49r3_w := rK cf n s K Q x49r3 rfl
def x49r4_w := rK cf n s K Q x49r4 rfl
def x49r5_w := rK cf n s K Q x49r5 rfl
def x49r6_w := rK cf n s K Q x49r6 rfl
def x49l7_w := lK cf n s K Q x49l7 rfl
def x49r8_w := rK cf n s K Q x49r8 rfl
def x49_w := bK cf n s K Q x49 rfl
def x49_r := bR x49 rfl
def x50r1_w := rK cf n s K Q x50r1 rfl
def x50r2_w := rK cf n s K Q x50r2 rfl
def x50r3_w := rK cf n s K Q x50r3 rfl
def x50r4_w := rK cf n s K Q x50r4 rfl
def x50r5_w := rK cf n s K Q x50r5 rfl
def x50r6_w := rK cf n s K Q x50r6 rfl
def x50l7_w := lK cf n s K Q x50l7 rfl
def x50r8_w := rK cf n s K Q x50r8 rfl
def x50_w := bK cf n s K Q x50 rfl
def x50_r := bR x50 rfl
def x61r1_w := rK cf n s K Q x61r1 rfl
def x61r2_w := rK cf n s K Q x61r2 rfl
def x61r3_w := rK cf n s K Q x61r3 rfl
def x61r4_w := rK cf n s K Q x61r4 rfl
def x61r5_w := rK cf n s K Q x61r5 rfl
def x61r6_w := rK cf n s K Q x61r6 rfl
def x61r7_w := rK cf n s K Q x61r7 rfl
def x61r8_w := rK cf n s K Q x61r8 rfl
def x61r9_w := rK cf n s K Q x61r9 rfl
def x61_w := bK cf n s K Q x61 rfl
def x61_r := bR x61 rfl
def x62r1_w := rK cf n s K Q x62r1 rfl
def x62r2_w := rK cf n s K Q x62r2 rfl
def x62r3_w := rK cf n s K Q x62r3 rfl
def x62r4_w := rK cf n s K Q x62r4 rfl
def x62_w := bK cf n s K Q x62 rfl
def x62_r := bR x62 rfl
def x63r1_w := rK cf n s K Q x63r1 rfl
def x63r2_w := rK cf n s K Q x63r2 rfl
def x63r3_w := rK cf n s K Q x63r3 rfl
def x63r4_w := rK cf n s K Q x63r4 rfl
def x63_w := bK cf n s K Q x63 rfl
def x63_r := bR x63 rfl
def x78r1_w := rK cf n s K Q x78r1 rfl
def x78r2_w := rK cf n s K Q x78r2 rfl
def x78_w := bK cf n s K Q x78 rfl
def x78_r := bR x78 rfl
def x79r1_w := rK cf n s K Q x79r1 rfl
def x79r2_w := rK cf n s K Q x79r2 rfl
def x79_w := bK cf n s K Q x79 rfl
def x79_r := bR x79 rfl
def x81r1_w := rK cf n s K Q x81r1 rfl
def x81r2_w := rK cf n s K Q x81r2 rfl
def x81r3_w := rK cf n s K Q x81r3 rfl
def x81_w := bK cf n s K Q x81 rfl
def x81_r := bR x81 rfl
def x82r1_w := rK cf n s K Q x82r1 rfl
def x82r2_w := rK cf n s K Q x82r2 rfl
def x82r3_w := rK cf n s K Q x82r3 rfl
def x82_w := bK cf n s K Q x82 rfl
def x82_r := bR x82 rfl
def x88r1_w := rK cf n s K Q x88r1 rfl
def x88r2_w := rK cf n s K Q x88r2 rfl
def x88r3_w := rK cf n s K Q x88r3 rfl
def x88r4_w := rK cf n s K Q x88r4 rfl
def x88r5_w := rK cf n s K Q x88r5 rfl
def x88r6_w := rK cf n s K Q x88r6 rfl
def x88r7_w := rK cf n s K Q x88r7 rfl
def x88l8_w := lK cf n s K Q x88l8 rfl
def x88r9_w := rK cf n s K Q x88r9 rfl
def x88_w := bK cf n s K Q x88 rfl
def x88_r := bR x88 rfl
end
end Go.Proofs.YtkiliokeanmagaaDoor.Ab

