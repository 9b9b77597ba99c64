/- Operations that leave memory alone, one by one. -/
import Derived.Test.YtkiliokeanmagaaDoorAb3
namespace Go.Proofs.YtkiliokeanmagaaDoor.Ab
open Go
set_option linter.unusedVariables false
set_option linter.unusedSimpArgs false
section
variable {P : Program} {g : Gh} {w : World} {a : Act} {tm : List V}

theorem eq_bool {t : TypeId} (hu : P.underlying t = some .bool) (d : Nat) (a b : Bool) (w : World) : (Op.equalIn (d + 1) t (.bool a) (.bool b)).run P w = .ok (a == b) w := by
  simp [Op.equalIn, run_underlying hu]
theorem eq_slice {t e : TypeId} (hu : P.underlying t = some (.slice e)) (d : Nat) (A : Option Addr) (n c n' c' : Nat) (w : World) : (Op.equalIn (d + 1) t (.slice A n c) (.slice none n' c')).run P w = .ok A.isNone w := by
  cases A <;> simp [Op.equalIn, run_underlying hu]
theorem eq_ptr {t e : TypeId} (hu : P.underlying t = some (.pointer e)) (d : Nat) (A : Option Addr) (w : World) : (Op.equalIn (d + 1) t (.pointer A) (.pointer none)).run P w = .ok A.isNone w := by
  cases A <;> simp [Op.equalIn, run_underlying hu]
theorem eql_of {t : TypeId} {x y : Value} {r : Bool} (h : ∀ d, (Op.equalIn (d + 1) t x y).run P w = .ok r w)
    (hb : binOp .eql t x y = do pure (.bool (← Op.equal t x y))) : (binOp .eql t x y).run P w = .ok (.bool r) w := by
  have := h 9999
  rw [hb]
  simp only [Sem.run_bind]
  rw [show Op.equal t x y = Op.equalIn (9999 + 1) t x y from rfl, this]
  rfl
theorem neq_of {t : TypeId} {x y : Value} {r : Bool} (h : ∀ d, (Op.equalIn (d + 1) t x y).run P w = .ok r w)
    (hb : binOp .neq t x y = do pure (.bool (!(← Op.equal t x y)))) : (binOp .neq t x y).run P w = .ok (.bool (!r)) w := by
  have := h 9999
  rw [hb]
  simp only [Sem.run_bind]
  rw [show Op.equal t x y = Op.equalIn (9999 + 1) t x y from rfl, this]
  rfl

theorem bin_ok {op : BinOp} {t : TypeId} {q : Nat} (hq : qT P t = some q) {x y : Value} {vx vy v : V} (hx : Rep g w x vx) (hy : Rep g w y vy) (h : binV op q vx vy = some v) (X Y : Operand) :
    ∃ r, (do eqGuard op t X Y x y; binOp op t x y : Sem Value).run P w = .ok r w ∧ Rep g w r v := by
  unfold binV at h
  split at h
  · -- integers
    rename_i k a k' b
    rw [hx.of_c, hy.of_c]
    split at h
    · rename_i hk
      subst hk
      cases op <;> simp only [binI, reduceCtorEq] at h
      case quo =>
        split at h
        · cases h
        · rename_i hb
          simp only [Option.some.injEq] at h; subst h
          exact ⟨_, by simp [go_sem, Op.intDiv, hb], .c _⟩
      case rem =>
        split at h
        · cases h
        · rename_i hb
          simp only [Option.some.injEq] at h; subst h
          exact ⟨_, by simp [go_sem, Op.intDiv, hb], .c _⟩
      all_goals (simp only [Option.some.injEq] at h; subst h; exact ⟨_, by simp [go_sem, Op.intArith], .c _⟩)
    · cases h
  · -- strings
    rename_i a b
    rw [hx.of_c, hy.of_c]
    cases op <;> simp only [binS, reduceCtorEq] at h
    case add =>
      split at h
      · rename_i hb
        simp only [Option.some.injEq] at h; subst h
        refine ⟨_, ?_, .c _⟩
        have hb' : ¬ (9223372036854775807 < ((a.size : Int) + (b.size : Int))) := by omega
        simp [eqGuard, binOp, Op.stringOp, hb']
      · cases h
    all_goals (simp only [Option.some.injEq] at h; subst h; exact ⟨_, by simp [eqGuard, binOp, Op.stringOp], .c _⟩)
  · -- bools
    rename_i a b
    rw [hx.of_c, hy.of_c]
    have hu : P.underlying t = some .bool := by
      unfold qT at hq
      split at hq <;> simp_all
    split at h
    · simp only [Option.some.injEq] at h; subst h
      exact ⟨_, by simp only [eqGuard_at_bool, Sem.run_bind, Sem.run_pure, Result.andThen_ok]; exact eql_of (fun d => eq_bool hu d a b w) rfl, .c _⟩
    · simp only [Option.some.injEq] at h; subst h
      exact ⟨_, by simp only [eqGuard_at_bool, Sem.run_bind, Sem.run_pure, Result.andThen_ok]; exact neq_of (fun d => eq_bool hu d a b w) rfl, .c _⟩
    · cases h
  · -- slices
    rename_i us i
    obtain ⟨e, hu⟩ : ∃ e, P.underlying t = some (.slice e) := by
      unfold qT at hq
      split at hq <;> simp_all
    cases hx with
    | sl A n cap _ _ z cv hn hc hzz hA hr hi =>
    cases hy with
    | sl A' n' cap' _ _ z' cv' hn' hc' hzz' hA' hr' hi' =>
    obtain ⟨rfl, rfl⟩ := hi'
    have hA2 : ∀ b : Bool, (binOp .eql t (.slice A n cap) (.slice none n' 0)).run P w = .ok (.bool A.isNone) w ∧ (binOp .neq t (.slice A n cap) (.slice none n' 0)).run P w = .ok (.bool (!A.isNone)) w :=
      fun _ => ⟨eql_of (fun d => eq_slice hu d A n cap n' 0 w) rfl, neq_of (fun d => eq_slice hu d A n cap n' 0 w) rfl⟩
    have key : ∀ r, nilB i us = some r → A.isNone = r := by
      intro r hr
      have cons : ∀ u l, us = u :: l → u.cells.length ≠ 0 → A.isNone = false := by
        intro u l hus hne
        obtain ⟨b, o, e, _⟩ := hA (by rw [hus]; simp)
        rw [e]; rfl
      cases i with
      | nil => simp only [nilB, Option.some.injEq] at hr; rw [← hr, hi.1]; rfl
      | isn => simp only [nilB, Option.some.injEq] at hr; rw [← hr, show A = none from hi]; rfl
      | nz =>
        simp only [nilB, Option.some.injEq] at hr
        rw [← hr]
        cases A with
        | none => exact absurd rfl hi
        | some x => rfl
      | any =>
        cases us with
        | nil => simp [nilB] at hr
        | cons u l =>
          simp only [nilB] at hr
          split at hr
          · cases hr
          · rename_i hne
            simp only [Option.some.injEq] at hr
            rw [← hr]; exact cons u l rfl hne
      | full =>
        cases us with
        | nil => simp [nilB] at hr
        | cons u l =>
          simp only [nilB] at hr
          split at hr
          · cases hr
          · rename_i hne
            simp only [Option.some.injEq] at hr
            rw [← hr]; exact cons u l rfl hne
      | tok k =>
        cases us with
        | nil => simp [nilB] at hr
        | cons u l =>
          simp only [nilB] at hr
          split at hr
          · cases hr
          · rename_i hne
            simp only [Option.some.injEq] at hr
            rw [← hr]; exact cons u l rfl hne
    split at h
    · simp only [Option.map_eq_some_iff] at h
      obtain ⟨r, hr, rfl⟩ := h
      refine ⟨_, by simp only [eqGuard_at_slice, Sem.run_bind, Sem.run_pure, Result.andThen_ok]; exact (hA2 true).1, ?_⟩
      rw [key r hr]; exact .c _
    · simp only [Option.map_eq_some_iff] at h
      obtain ⟨r, hr, rfl⟩ := h
      refine ⟨_, by simp only [eqGuard_at_slice, Sem.run_bind, Sem.run_pure, Result.andThen_ok]; exact (hA2 true).2, ?_⟩
      rw [key r hr]; exact .c _
    · cases h
  · -- a row
    obtain ⟨e, hu⟩ : ∃ e, P.underlying t = some (.slice e) := by
      unfold qT at hq
      split at hq <;> simp_all
    cases hx with
    | row A n cap id off z hc hA =>
    cases hy with
    | sl A' n' cap' _ _ z' cv' hn' hc' hzz' hA' hr' hi' =>
    obtain ⟨rfl, rfl⟩ := hi'
    obtain ⟨b, rfl, hb⟩ := hA (by omega)
    split at h
    · simp only [Option.some.injEq] at h; subst h
      exact ⟨_, by simp only [eqGuard_at_slice, Sem.run_bind, Sem.run_pure, Result.andThen_ok]; exact eql_of (fun d => eq_slice hu d _ _ cap n' 0 w) rfl, .c _⟩
    · simp only [Option.some.injEq] at h; subst h
      exact ⟨_, by simp only [eqGuard_at_slice, Sem.run_bind, Sem.run_pure, Result.andThen_ok]; exact neq_of (fun d => eq_slice hu d _ _ cap n' 0 w) rfl, .c _⟩
    · cases h
  · rw [hx.of_c, hy.of_c]
    obtain ⟨e, hu⟩ : ∃ e, P.underlying t = some (.pointer e) := by
      unfold qT at hq
      split at hq <;> simp_all
    split at h
    · simp only [Option.some.injEq] at h; subst h
      exact ⟨_, by simp only [eqGuard_at_pointer, Sem.run_bind, Sem.run_pure, Result.andThen_ok]; exact eql_of (fun d => eq_ptr hu d _ w) rfl, .c _⟩
    · simp only [Option.some.injEq] at h; subst h
      exact ⟨_, by simp only [eqGuard_at_pointer, Sem.run_bind, Sem.run_pure, Result.andThen_ok]; exact neq_of (fun d => eq_ptr hu d _ w) rfl, .c _⟩
    · cases h
  · rw [hy.of_c]
    obtain ⟨e, hu⟩ : ∃ e, P.underlying t = some (.pointer e) := by
      unfold qT at hq
      split at hq <;> simp_all
    cases hx with
    | ref id b o hb =>
    split at h
    · simp only [Option.some.injEq] at h; subst h
      exact ⟨_, by simp only [eqGuard_at_pointer, Sem.run_bind, Sem.run_pure, Result.andThen_ok]; exact eql_of (fun d => eq_ptr hu d _ w) rfl, .c _⟩
    · simp only [Option.some.injEq] at h; subst h
      exact ⟨_, by simp only [eqGuard_at_pointer, Sem.run_bind, Sem.run_pure, Result.andThen_ok]; exact neq_of (fun d => eq_ptr hu d _ w) rfl, .c _⟩
    · cases h
  · rw [hy.of_c]
    obtain ⟨e, hu⟩ : ∃ e, P.underlying t = some (.pointer e) := by
      unfold qT at hq
      split at hq <;> simp_all
    cases hx with
    | ptr b o o' cs off cv ho hA hr =>
    split at h
    · simp only [Option.some.injEq] at h; subst h
      exact ⟨_, by simp only [eqGuard_at_pointer, Sem.run_bind, Sem.run_pure, Result.andThen_ok]; exact eql_of (fun d => eq_ptr hu d _ w) rfl, .c _⟩
    · simp only [Option.some.injEq] at h; subst h
      exact ⟨_, by simp only [eqGuard_at_pointer, Sem.run_bind, Sem.run_pure, Result.andThen_ok]; exact neq_of (fun d => eq_ptr hu d _ w) rfl, .c _⟩
    · cases h
  · cases h
end
end Go.Proofs.YtkiliokeanmagaaDoor.Ab
