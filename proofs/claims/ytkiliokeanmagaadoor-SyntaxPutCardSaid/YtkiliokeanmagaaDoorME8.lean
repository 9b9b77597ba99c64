/- Part 9 of 14: what the functions do. -/
import Derived.Test.YtkiliokeanmagaaDoorME7
namespace Go.Proofs.YtkiliokeanmagaaDoor.Ab
open Go
set_option linter.unusedVariables false
set_option linter.unusedSimpArgs false
def indexE : Nat → CallF → List V → List O → Option (V × List O) := fun _ _ args h => match args with
  | [.c (.string s), .c (.int .u8 c)] => some (.c (.int .i64 (Lib.indexByte s.data.toList c.toNat.toUInt8)), h)
  | _ => none
def E : Ext := fun f =>
  if f = 80 then some eachE else if f = 83 then some (fun _ _ => growE) else if f = 86 then some indexE else none
theorem mixed : Tryd.prog.follows .mixedOrders = true := by kernel_rfl
theorem fn80 : Tryd.prog.funcs[80]? = some Tryd.f80 := by kernel_rfl
theorem fn83 : ∃ fn, Tryd.prog.funcs[83]? = some fn ∧ (fn.name == "runtime.NumGoroutine") = false ∧ fn.body.isNone = false := ⟨Tryd.f83, by kernel_rfl, by kernel_rfl, by kernel_rfl⟩
theorem fn86 : ∃ fn, Tryd.prog.funcs[86]? = some fn ∧ (fn.name == "runtime.NumGoroutine") = false ∧ fn.body.isNone = false := ⟨Tryd.f86, by kernel_rfl, by kernel_rfl, by kernel_rfl⟩
theorem tie80 : trF Tryd.prog pfl 1008000 false false false Tryd.f80 = some ⟨31, eachX 80, [.t 6], false, false, false, none⟩ := by kernel_rfl
theorem ext_ok : ExtOk Tryd.prog pfl E := by
  intro f e he
  unfold E at he
  split at he
  · rename_i hf
    subst hf
    simp only [Option.some.injEq] at he
    subst he
    exact ⟨by decide, fun n cf hcf hp => ⟨fun args h r h' e => each_ext hcf mixed (by decide) (by decide) fn80 tie80 e, fun args h r h' e => ⟨fun h => absurd h (by decide), fun h => absurd h (by decide)⟩⟩⟩
  · split at he
    · rename_i hf
      subst hf
      simp only [Option.some.injEq] at he
      subst he
      refine ⟨by decide, fun n cf hcf hp => ⟨fun args h r h' e => ⟨fn83, grow_at e⟩, fun args h r h' e => ⟨fun h => absurd h (by decide), fun _ => ?_⟩⟩⟩
      have e : growE args h = some (r, h') := e
      unfold growE at e
      split at e
      · split at e
        · simp only [Option.some.injEq, Prod.mk.injEq] at e; rw [← e.2]; exact fun _ _ _ h => h
        · split at e
          · simp only [Option.some.injEq, Prod.mk.injEq] at e; rw [← e.2]; exact CellsLe.app _ _
          · cases e
      · cases e
    · split at he
      · rename_i hf
        subst hf
        simp only [Option.some.injEq] at he
        subst he
        refine ⟨by decide, fun n cf hcf hp => ⟨fun args h r h' e => ⟨fn86, fun g w cargs H hl hr => ?_⟩, fun args h r h' e => ⟨fun h => absurd h (by decide), fun h => absurd h (by decide)⟩⟩⟩
        unfold indexE at e
        split at e
        · rename_i s c
          simp only [Option.some.injEq, Prod.mk.injEq] at e
          obtain ⟨rfl, rfl⟩ := e
          obtain ⟨l⟩ := cargs
          match l, hl with
          | [x, y], _ =>
            have h1 : x = .string s := (hr 0 (by simp) (by simp)).of_c
            have h2 : y = .int .u8 c := (hr 1 (by simp) (by simp)).of_c
            subst h1 h2
            refine Calls.mono (indexByte_at s c w) ?_
            rintro e w' ⟨rfl, rfl⟩
            exact ⟨_, g, rfl, Le.refl _ _, H, .c _, Quiet.refl _ _ _⟩
        · cases e
      · cases he
theorem yc_of {y q j : Nat} (hq : (y - 1000000) / 100 = q) (hj : (y - 1000000) % 100 = j) {fn : Func} {c : Code} (hf : Tryd.prog.funcs[q]? = some fn) (hb : fn.body = some c) : yc y = (rangesOf c)[j]? := by
  unfold yc
  rw [hq, hj]
  unfold ycAt
  rw [hf]
  simp only [hb]
theorem yc_num (r f j : Nat) (hj : j < 100) : (r + 100 * f + j - r) / 100 = f ∧ (r + 100 * f + j - r) % 100 = j := by
  rw [Nat.add_assoc, Nat.add_sub_cancel_left]
  omega
theorem yc_all : YcAll Tryd.prog := by
  intro f fn c hf hb hl j p hp
  have hj : j < 100 := Nat.lt_of_lt_of_le (List.getElem?_eq_some_iff.1 hp).1 hl
  have key : ∀ r, r = 1000000 → yc (r + 100 * f + j) = some p := fun r hr => by
    have h := yc_num r f j hj
    exact (yc_of (y := r + 100 * f + j) (by rw [← hr]; exact h.1) (by rw [← hr]; exact h.2) hf hb).trans hp
  exact key rid rfl
set_option maxRecDepth 20000
theorem lookup_key {Q : Nat → XF → Prop} (f : Nat) (xf : XF) : ∀ (l : List (Nat × XF)), (∀ p ∈ l, Q p.1 p.2) → l.lookup f = some xf → Q f xf := by
  intro l
  induction l with
  | nil => intro _ h; simp at h
  | cons p l ih =>
    intro hl h
    obtain ⟨q, x⟩ := p
    rw [List.lookup_cons] at h
    split at h
    · rename_i hq
      simp only [Option.some.injEq] at h
      subst h
      have : f = q := by simpa using hq
      subst this
      exact hl (f, x) (by simp)
    · exact ih (fun p hp => hl p (by simp [hp])) h
def LaidAt (f : Nat) (xf : XF) : Prop := (f < rid ∧ xf.asg = none ∧ ∃ fn, Tryd.prog.funcs[f]? = some fn ∧ trF Tryd.prog pfl (rid + 100 * f) xf.pure xf.esc xf.rw fn = some xf) ∨ (rid ≤ f ∧ RoundTr Tryd.prog pfl f xf)
theorem laid_f {f : Nat} {xf : XF} {fn : Func} (hf : f < rid) (ha : xf.asg = none) (h : Tryd.prog.funcs[f]? = some fn ∧ trF Tryd.prog pfl (rid + 100 * f) xf.pure xf.esc xf.rw fn = some xf) : LaidAt f xf := .inl ⟨hf, ha, fn, h⟩
theorem laid_r {y : Nat} {xf : XF} (hy : rid ≤ y) (hrw : xf.rw = false) {ps : List Nat} {xa : XC} (ha : xf.asg = some (ps, xa))
    (h : (match yc y with
  | some (ps, asg, body) => some (ps.toList, trC Tryd.prog false pfl xf.ntm (y + 1) asg, trC Tryd.prog false pfl xf.ntm (y + 1 + (rangesOf asg).length) body, (rangesOf asg).length, (rangesOf body).length)
  | none => none) = some (ps, some xa, some xf.body, 0, 0)) : LaidAt y xf := by
  split at h
  · rename_i tps asg body hyc
    simp only [Option.some.injEq, Prod.mk.injEq] at h
    obtain ⟨rfl, h1, h2, h3, h4⟩ := h
    refine .inr ⟨hy, tps, asg, body, xa, hyc, ha, by rw [hrw]; exact h1, by rw [hrw]; exact h2, fun j p hp => ?_, fun j p hp => ?_⟩
    · rw [List.eq_nil_of_length_eq_zero h3] at hp; simp at hp
    · rw [List.eq_nil_of_length_eq_zero h4] at hp; simp at hp
  · cases h
theorem laid : Laid Tryd.prog pfl X := by
  intro f xf h
  unfold X at h
  refine lookup_key (Q := LaidAt) f xf xtab ?_ h
  unfold xtab
  simp only [List.forall_mem_cons]
  exact ⟨laid_f (by decide) rfl tie3, laid_f (by decide) rfl tie4, laid_f (by decide) rfl tie5, laid_f (by decide) rfl tie6, laid_f (by decide) rfl tie7, laid_f (by decide) rfl tie8, laid_f (by decide) rfl tie9, laid_f (by decide) rfl tie10, laid_f (by decide) rfl tie11, laid_f (by decide) rfl tie12, laid_f (by decide) rfl tie13, laid_f (by decide) rfl tie14, laid_f (by decide) rfl tie15, laid_f (by decide) rfl tie16, laid_f (by decide) rfl tie17, laid_f (by decide) rfl tie18, laid_f (by decide) rfl tie19, laid_f (by decide) rfl tie20, laid_f (by decide) rfl tie21, laid_f (by decide) rfl tie22, laid_f (by decide) rfl tie23, laid_f (by decide) rfl tie24, laid_f (by decide) rfl tie25, laid_f (by decide) rfl tie26, laid_f (by decide) rfl tie27, laid_f (by decide) rfl tie28, laid_f (by decide) rfl tie29, laid_f (by decide) rfl tie30, laid_f (by decide) rfl tie31, laid_f (by decide) rfl tie32, laid_f (by decide) rfl tie33, laid_f (by decide) rfl tie34, laid_f (by decide) rfl tie35, laid_f (by decide) rfl tie36, laid_f (by decide) rfl tie37, laid_f (by decide) rfl tie38, laid_f (by decide) rfl tie39, laid_f (by decide) rfl tie40, laid_f (by decide) rfl tie41, laid_f (by decide) rfl tie42, laid_f (by decide) rfl tie43, laid_f (by decide) rfl tie44, laid_f (by decide) rfl tie45, laid_f (by decide) rfl tie46, laid_f (by decide) rfl tie47, laid_f (by decide) rfl tie48, laid_f (by decide) rfl tie49, laid_f (by decide) rfl tie50, laid_f (by decide) rfl tie51, laid_f (by decide) rfl tie52, laid_f (by decide) rfl tie53, laid_f (by decide) rfl tie54, laid_f (by decide) rfl tie55, laid_f (by decide) rfl tie56, laid_f (by decide) rfl tie57, laid_f (by decide) rfl tie58, laid_f (by decide) rfl tie59, laid_f (by decide) rfl tie60, laid_f (by decide) rfl tie61, laid_f (by decide) rfl tie62, laid_f (by decide) rfl tie63, laid_f (by decide) rfl tie64, laid_f (by decide) rfl tie65, laid_f (by decide) rfl tie66, laid_f (by decide) rfl tie67, laid_f (by decide) rfl tie68, laid_f (by decide) rfl tie69, laid_f (by decide) rfl tie70, laid_f (by decide) rfl tie71, laid_f (by decide) rfl tie72, laid_f (by decide) rfl tie73, laid_f (by decide) rfl tie74, laid_f (by decide) rfl tie75, laid_f (by decide) rfl tie76, laid_f (by decide) rfl tie77, laid_f (by decide) rfl tie78, laid_f (by decide) rfl tie79, laid_f (by decide) rfl tie81, laid_f (by decide) rfl tie82, laid_f (by decide) rfl tie84, laid_f (by decide) rfl tie85, laid_f (by decide) rfl tie87, laid_f (by decide) rfl tie88, laid_f (by decide) rfl tie89, laid_f (by decide) rfl tie90, laid_f (by decide) rfl tie91, laid_f (by decide) rfl tie93, laid_f (by decide) rfl tie95, laid_r (by decide) rfl rfl rtie1001800, laid_r (by decide) rfl rfl rtie1002600, laid_r (by decide) rfl rfl rtie1003600, laid_r (by decide) rfl rfl rtie1005100, fun _ h => absurd h (by simp)⟩
def PureAt (f : Nat) (xf : XF) : Prop := (pfl f = 1 → (xf.pure = true ∧ xf.esc = false) ∧ xf.asg = none) ∧ (pfl f = 2 → (xf.pure = true ∧ xf.esc = true) ∧ xf.asg = none)
theorem pure_of {f : Nat} {xf : XF} (h : (match pfl f, xf.pure, xf.esc, xf.asg.isNone with
  | 1, true, false, true => true
  | 2, true, true, true => true
  | 0, _, _, _ => true
  | _, _, _, _ => false) = true) : PureAt f xf := by
  constructor
  · intro h1
    rw [h1] at h
    split at h <;> first | (cases h; done) | simp_all
  · intro h1
    rw [h1] at h
    split at h <;> first | (cases h; done) | simp_all
theorem pures : Pures pfl X E := by
  intro f hE xf h
  unfold X at h
  refine lookup_key (Q := PureAt) f xf xtab ?_ h
  unfold xtab
  simp only [List.forall_mem_cons]
  exact ⟨pure_of rfl, pure_of rfl, pure_of rfl, pure_of rfl, pure_of rfl, pure_of rfl, pure_of rfl, pure_of rfl, pure_of rfl, pure_of rfl, pure_of rfl, pure_of rfl, pure_of rfl, pure_of rfl, pure_of rfl, pure_of rfl, pure_of rfl, pure_of rfl, pure_of rfl, pure_of rfl, pure_of rfl, pure_of rfl, pure_of rfl, pure_of rfl, pure_of rfl, pure_of rfl, pure_of rfl, pure_of rfl, pure_of rfl, pure_of rfl, pure_of rfl, pure_of rfl, pure_of rfl, pure_of rfl, pure_of rfl, pure_of rfl, pure_of rfl, pure_of rfl, pure_of rfl, pure_of rfl, pure_of rfl, pure_of rfl, pure_of rfl, pure_of rfl, pure_of rfl, pure_of rfl, pure_of rfl, pure_of rfl, pure_of rfl, pure_of rfl, pure_of rfl, pure_of rfl, pure_of rfl, pure_of rfl, pure_of rfl, pure_of rfl, pure_of rfl, pure_of rfl, pure_of rfl, pure_of rfl, pure_of rfl, pure_of rfl, pure_of rfl, pure_of rfl, pure_of rfl, pure_of rfl, pure_of rfl, pure_of rfl, pure_of rfl, pure_of rfl, pure_of rfl, pure_of rfl, pure_of rfl, pure_of rfl, pure_of rfl, pure_of rfl, pure_of rfl, pure_of rfl, pure_of rfl, pure_of rfl, pure_of rfl, pure_of rfl, pure_of rfl, pure_of rfl, pure_of rfl, pure_of rfl, pure_of rfl, pure_of rfl, pure_of rfl, pure_of rfl, pure_of rfl, pure_of rfl, fun _ h => absurd h (by simp)⟩
theorem seat_ok (n : Nat) : CallOk Tryd.prog (call X E n) := (call_ok ext_ok laid yc_all pures mixed n).1
end Go.Proofs.YtkiliokeanmagaaDoor.Ab

