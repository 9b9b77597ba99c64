/- All calls of the seat are what the interpreter says. -/
import Derived.Test.YtbkgpdkimcnpgaaPd2
import Derived.Test.YtbkgpdkimcnpgaaAb29
namespace Go.Proofs.Ytbkgpdkimcnpgaa.Ab
open Go
set_option linter.unusedVariables false
set_option linter.unusedSimpArgs false

def indexE : Nat → CallF → List V → List O → Option (V × List O) := fun _ _ args h => match args with
  | [.c (.string s), .c (.int .u8 c)] => some (.c (.int .i64 (Lib.indexByte s.data.toList c.toNat.toUInt8)), h)
  | _ => none

def E : Ext := fun f =>
  if f = 45 then some eachE else if f = 56 then some (fun _ => cloneR 8) else if f = 73 then some (fun _ => cloneE (some 4) 56 true) else if f = 72 then some indexE else none

theorem mixed : Try.prog.follows .mixedOrders = true := by kernel_rfl
theorem fn45 : Try.prog.funcs[45]? = some Try.f45 := by kernel_rfl
theorem fn56 : Try.prog.funcs[56]? = some Try.f56 := by kernel_rfl
theorem fn73 : Try.prog.funcs[73]? = some Try.f73 := by kernel_rfl
theorem fn72 : ∃ fn, Try.prog.funcs[72]? = some fn ∧ (fn.name == "runtime.NumGoroutine") = false ∧ fn.body.isNone = false := ⟨Try.f72, by kernel_rfl, by kernel_rfl, by kernel_rfl⟩
theorem tie45 : trF Try.prog pfl false false false Try.f45 = some ⟨31, eachX 45, [.t 6], false, false, false⟩ := by kernel_rfl
theorem tie56 : trF Try.prog pfl false true false Try.f56 = some (xCloneF none 8 false) := by kernel_rfl
theorem tie56T : trF Try.prog pfl false true true Try.f56 = some (xCloneF none 8 true) := by kernel_rfl
theorem tie73 : trF Try.prog pfl false true true Try.f73 = some (xCloneF (some 4) 56 true) := by kernel_rfl

theorem ext_ok : ExtOk Try.prog pfl E := by
  intro f e he n cf hcf hp
  unfold E at he
  split at he
  · rename_i hf
    subst hf
    simp only [Option.some.injEq] at he
    subst he
    exact ⟨fun args h r h' e => each_ext hcf mixed (by decide) fn45 tie45 e, fun args h r h' e => ⟨fun h => absurd h (by decide), fun h => absurd h (by decide)⟩⟩
  · split at he
    · rename_i hf
      subst hf
      simp only [Option.some.injEq] at he
      subst he
      exact ⟨fun args h r h' e => cloneR_at hp hcf mixed fn56 tie56T tie56 e, fun args h r h' e => ⟨fun h => absurd h (by decide), fun _ => cloneR_cells e⟩⟩
    · split at he
      · rename_i hf
        subst hf
        simp only [Option.some.injEq] at he
        subst he
        exact ⟨fun args h r h' e => clone_at hp hcf mixed fn73 tie73 e, fun args h r h' e => ⟨fun h => absurd h (by decide), fun _ => (clone_pure e).2⟩⟩
      · split at he
        · rename_i hf
          subst hf
          simp only [Option.some.injEq] at he
          subst he
          refine ⟨fun args h r h' e => ⟨fn72, fun g w cargs H hl hr => ?_⟩, fun args h r h' e => ⟨fun h => absurd h (by decide), fun h => absurd h (by decide)⟩⟩
          unfold indexE at e
          split at e
          · rename_i s c
            simp only [Option.some.injEq, Prod.mk.injEq] at e
            obtain ⟨rfl, rfl⟩ := e
            obtain ⟨l⟩ := cargs
            match l, hl with
            | [x, y], _ =>
              have h1 : x = .string s := (hr 0 (by simp) (by simp)).of_c
              have h2 : y = .int .u8 c := (hr 1 (by simp) (by simp)).of_c
              subst h1 h2
              refine Calls.mono (indexByte_at s c w) ?_
              rintro e w' ⟨rfl, rfl⟩
              exact ⟨_, g, rfl, Le.refl _ _, H, .c _, Quiet.refl _ _ _⟩
          · cases e
        · cases he

theorem laid : Laid Try.prog pfl X := by
  intro f xf h
  unfold X at h
  have key : ∀ (l : List (Nat × XF)), (∀ p ∈ l, ∃ fn, Try.prog.funcs[p.1]? = some fn ∧ trF Try.prog pfl p.2.pure p.2.esc p.2.rw fn = some p.2) → l.lookup f = some xf → ∃ fn, Try.prog.funcs[f]? = some fn ∧ trF Try.prog pfl xf.pure xf.esc xf.rw fn = some xf := by
    intro l
    induction l with
    | nil => intro _ h; simp at h
    | cons p l ih =>
      intro hl h
      obtain ⟨q, x⟩ := p
      rw [List.lookup_cons] at h
      split at h
      · rename_i hq
        simp only [Option.some.injEq] at h
        subst h
        have : f = q := by simpa using hq
        subst this
        exact hl (f, x) (by simp)
      · exact ih (fun p hp => hl p (by simp [hp])) h
  refine key xtab ?_ h
  unfold xtab
  simp only [List.forall_mem_cons]
  exact ⟨⟨_, tie3⟩, ⟨_, tie4⟩, ⟨_, tie5⟩, ⟨_, tie6⟩, ⟨_, tie7⟩, ⟨_, tie8⟩, ⟨_, tie9⟩, ⟨_, tie10⟩, ⟨_, tie11⟩, ⟨_, tie12⟩, ⟨_, tie13⟩, ⟨_, tie14⟩, ⟨_, tie15⟩, ⟨_, tie16⟩, ⟨_, tie17⟩, ⟨_, tie18⟩, ⟨_, tie19⟩, ⟨_, tie20⟩, ⟨_, tie21⟩, ⟨_, tie22⟩, ⟨_, tie23⟩, ⟨_, tie24⟩, ⟨_, tie25⟩, ⟨_, tie26⟩, ⟨_, tie27⟩, ⟨_, tie28⟩, ⟨_, tie29⟩, ⟨_, tie30⟩, ⟨_, tie31⟩, ⟨_, tie32⟩, ⟨_, tie33⟩, ⟨_, tie34⟩, ⟨_, tie35⟩, ⟨_, tie36⟩, ⟨_, tie37⟩, ⟨_, tie38⟩, ⟨_, tie39⟩, ⟨_, tie40⟩, ⟨_, tie41⟩, ⟨_, tie42⟩, ⟨_, tie43⟩, ⟨_, tie44⟩, ⟨_, tie46⟩, ⟨_, tie47⟩, ⟨_, tie48⟩, ⟨_, tie49⟩, ⟨_, tie50⟩, ⟨_, tie51⟩, ⟨_, tie52⟩, ⟨_, tie53⟩, ⟨_, tie54⟩, ⟨_, tie55⟩, ⟨_, tie57⟩, ⟨_, tie58⟩, ⟨_, tie59⟩, ⟨_, tie60⟩, ⟨_, tie61⟩, ⟨_, tie62⟩, ⟨_, tie63⟩, ⟨_, tie64⟩, ⟨_, tie65⟩, ⟨_, tie66⟩, ⟨_, tie67⟩, ⟨_, tie68⟩, ⟨_, tie69⟩, ⟨_, tie70⟩, ⟨_, tie71⟩, ⟨_, tie74⟩, ⟨_, tie75⟩, ⟨_, tie76⟩, ⟨_, tie77⟩, fun _ h => absurd h (by simp)⟩

theorem pures : Pures pfl X E := by
  intro f hE xf h
  unfold X at h
  have key : ∀ (l : List (Nat × XF)), (∀ p ∈ l, (pfl p.1 = 1 → p.2.pure = true ∧ p.2.esc = false) ∧ (pfl p.1 = 2 → p.2.pure = true ∧ p.2.esc = true)) → l.lookup f = some xf → (pfl f = 1 → xf.pure = true ∧ xf.esc = false) ∧ (pfl f = 2 → xf.pure = true ∧ xf.esc = true) := by
    intro l
    induction l with
    | nil => intro _ h; simp at h
    | cons p l ih =>
      intro hl h
      obtain ⟨q, x⟩ := p
      rw [List.lookup_cons] at h
      split at h
      · rename_i hq
        simp only [Option.some.injEq] at h
        subst h
        have : f = q := by simpa using hq
        subst this
        exact hl (f, x) (by simp)
      · exact ih (fun p hp => hl p (by simp [hp])) h
  refine key xtab ?_ h
  unfold xtab
  simp only [List.forall_mem_cons]
  exact ⟨⟨by decide, by decide⟩, ⟨by decide, by decide⟩, ⟨by decide, by decide⟩, ⟨by decide, by decide⟩, ⟨by decide, by decide⟩, ⟨by decide, by decide⟩, ⟨by decide, by decide⟩, ⟨by decide, by decide⟩, ⟨by decide, by decide⟩, ⟨by decide, by decide⟩, ⟨by decide, by decide⟩, ⟨by decide, by decide⟩, ⟨by decide, by decide⟩, ⟨by decide, by decide⟩, ⟨by decide, by decide⟩, ⟨by decide, by decide⟩, ⟨by decide, by decide⟩, ⟨by decide, by decide⟩, ⟨by decide, by decide⟩, ⟨by decide, by decide⟩, ⟨by decide, by decide⟩, ⟨by decide, by decide⟩, ⟨by decide, by decide⟩, ⟨by decide, by decide⟩, ⟨by decide, by decide⟩, ⟨by decide, by decide⟩, ⟨by decide, by decide⟩, ⟨by decide, by decide⟩, ⟨by decide, by decide⟩, ⟨by decide, by decide⟩, ⟨by decide, by decide⟩, ⟨by decide, by decide⟩, ⟨by decide, by decide⟩, ⟨by decide, by decide⟩, ⟨by decide, by decide⟩, ⟨by decide, by decide⟩, ⟨by decide, by decide⟩, ⟨by decide, by decide⟩, ⟨by decide, by decide⟩, ⟨by decide, by decide⟩, ⟨by decide, by decide⟩, ⟨by decide, by decide⟩, ⟨by decide, by decide⟩, ⟨by decide, by decide⟩, ⟨by decide, by decide⟩, ⟨by decide, by decide⟩, ⟨by decide, by decide⟩, ⟨by decide, by decide⟩, ⟨by decide, by decide⟩, ⟨by decide, by decide⟩, ⟨by decide, by decide⟩, ⟨by decide, by decide⟩, ⟨by decide, by decide⟩, ⟨by decide, by decide⟩, ⟨by decide, by decide⟩, ⟨by decide, by decide⟩, ⟨by decide, by decide⟩, ⟨by decide, by decide⟩, ⟨by decide, by decide⟩, ⟨by decide, by decide⟩, ⟨by decide, by decide⟩, ⟨by decide, by decide⟩, ⟨by decide, by decide⟩, ⟨by decide, by decide⟩, ⟨by decide, by decide⟩, ⟨by decide, by decide⟩, ⟨by decide, by decide⟩, ⟨by decide, by decide⟩, ⟨by decide, by decide⟩, ⟨by decide, by decide⟩, ⟨by decide, by decide⟩, fun _ h => absurd h (by simp)⟩

theorem seat_ok (n : Nat) : CallOk Try.prog (call X E n) := (call_ok ext_ok laid pures mixed n).1
end Go.Proofs.Ytbkgpdkimcnpgaa.Ab
