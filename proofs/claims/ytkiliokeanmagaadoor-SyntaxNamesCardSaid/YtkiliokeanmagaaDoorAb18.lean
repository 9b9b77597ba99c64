/- Drawn regions, whatever is known of the world. -/
import Derived.Test.YtkiliokeanmagaaDoorAb16
namespace Go.Proofs.YtkiliokeanmagaaDoor.Ab
open Go
set_option linter.unusedVariables false
set_option linter.unusedSimpArgs false
section
variable {P : Program} {ρ : Option Nat} {nn : Nat}

theorem any_gen {pf : Nat → Nat} {cf : CallF} (hp : PureCf pf cf) {ops : Array Oper} {xs : List XOper} (hlen : xs.length = ops.size) (hd : drawnOk pf ops.toList xs = true)
    {Q : Exit → Act → World → Prop} {st' : St} (d0 : XOper) (R : Array Bool → St → Act → World → Prop)
    (hsound : ∀ (i : Nat) (o : Oper) (x : XOper), ops[i]? = some o → xs[i]? = some x → ∀ listed : Array Bool, listed.size = ops.size → listed.getD i true = false → Closed ops.toList (fun j => listed.getD j false) →
      (∀ j, j < i → ((masks ops.toList []).getD i 0).testBit j = true → listed.getD j false = true) →
      ∀ st st1 a w, stepO cf x st = some st1 → R listed st a w → ∀ K : Act → World → Prop, (∀ a' w', R (listed.setIfInBounds i true) st1 a' w' → K a' w') →
      if Region.wanted o (yielded ops a.tmps) then o.wpIn (FR ρ) nn P a w K Q else K (a.put o.dst undef) w)
    (hend : ∀ listed a w, listed.size = ops.size → (∀ i, i < ops.size → listed.getD i false = true) → R listed st' a w → Q .normal a w) : ∀ (fuel : Nat) (rem : List Nat) (listed : Array Bool) (w : World) (a : Act) (st : St),
    rem.length = fuel → listed.size = ops.size → (∀ i, i ∈ rem ↔ i < ops.size ∧ listed.getD i true = false) → rem.Pairwise (· < ·) → Closed ops.toList (fun i => listed.getD i false) →
    runOps cf (rem.map fun i => xs.getD i d0) st = some st' → R listed st a w → wpAnyIn (FR ρ) nn P .any ops Q fuel listed a w := by
  have hmask : MaskOk ops.toList (masks ops.toList []) := masks_ok ops.toList ops.toList [] [] (by simp) rfl (by intro i o j _ h; simp at h)
  have hdi : ∀ i o, ops.toList[i]? = some o → lowerB i o = true ∧ ∀ j, j < i → ((masks ops.toList []).getD i 0).testBit j = true ∨ pairB pf xs j i = true := by
    intro i o ho
    have hi : i < ops.toList.length := (List.getElem?_eq_some_iff.1 ho).1
    have := List.all_eq_true.1 hd i (by simpa using hi)
    rw [ho] at this
    simp only [Bool.and_eq_true, List.all_eq_true, List.mem_range, Bool.or_eq_true] at this
    exact this
  have hget : ∀ (listed : Array Bool) i, listed.size = ops.size → i < ops.size → listed.getD i true = listed.getD i false := by
    intro listed i hs hi
    simp [Array.getD, hs, hi]
  intro fuel
  induction fuel with
  | zero =>
    intro rem listed w a st hlen hls hmem _ _ hrun S
    have hnil : rem = [] := List.eq_nil_of_length_eq_zero hlen
    subst hnil
    simp only [List.map_nil, runOps, Option.some.injEq] at hrun
    subst hrun
    refine ⟨?_, hend _ _ _ hls (fun i hi => ?_) S⟩
    rotate_left
    · cases hc : listed.getD i false with
      | true => rfl
      | false =>
        have := (hmem i).2 ⟨hi, by rw [hget listed i hls hi]; exact hc⟩
        simp at this
    rw [List.eq_nil_iff_forall_not_mem]
    intro i hi
    rw [mem_ready] at hi
    obtain ⟨h1, o, ho, _⟩ := hi
    have := (hmem i).2 ⟨(Array.getElem?_eq_some_iff.1 ho).1, h1⟩
    simp at this
  | succ fuel ih =>
    intro rem listed w a st hlen hls hmem hsort hcl hrun S
    refine ⟨fun hnil => ?_, fun i hi => ?_⟩
    · exfalso
      cases rem with
      | nil => simp at hlen
      | cons i r =>
        have hi := (hmem i).1 (by simp)
        have : i ∈ Region.ready .any ops listed := by
          rw [mem_ready]
          refine ⟨hi.2, ops[i], Array.getElem?_eq_getElem hi.1, fun e he hb => ?_⟩
          have hl := (hdi i ops[i] (by simp [hi.1])).1
          simp only [lowerB, List.all_eq_true, Bool.or_eq_true, Bool.not_eq_true', decide_eq_true_eq] at hl
          have hlt : e.on < i := (hl e (by simpa using he)).resolve_left (by simp [hb])
          cases hc : listed.getD e.on false with
          | true => rfl
          | false =>
            have : e.on ∈ i :: r := (hmem e.on).2 ⟨by omega, by rw [hget listed e.on hls (by omega)]; exact hc⟩
            simp only [List.pairwise_cons] at hsort
            rcases List.mem_cons.1 this with h | h
            · omega
            · have := hsort.1 _ h; omega
        rw [hnil] at this
        simp at this
    · have hr := mem_ready.1 hi
      obtain ⟨hun, o, ho, hpre⟩ := hr
      have hilt : i < ops.size := (Array.getElem?_eq_some_iff.1 ho).1
      have hol : ops.toList[i]? = some o := by simpa using ho
      have hir := (hmem i).2 ⟨hilt, hun⟩
      obtain ⟨r1, r2, rfl⟩ := List.append_of_mem hir
      have hs2 := List.pairwise_append.1 hsort
      obtain ⟨s1, s2, s3⟩ := hs2
      simp only [List.pairwise_cons] at s2
      obtain ⟨x, hx⟩ : ∃ x, xs[i]? = some x := ⟨_, List.getElem?_eq_getElem (by omega)⟩
      have hxi : xs.getD i d0 = x := by rw [List.getD_eq_getElem?_getD, hx]; rfl
      rw [List.map_append, List.map_cons, hxi] at hrun
      have hbub := bubble hp (r1.map fun i => xs.getD i d0) st (fun z hz => by
        obtain ⟨j, hj, rfl⟩ := List.mem_map.1 hz
        have hji : j < i := s3 j hj i (by simp)
        have hjm := (hmem j).1 (by simp [hj])
        rcases (hdi i o hol).2 j hji with h | h
        · exfalso
          have := hmask i o j hol h _ hcl hpre
          rw [← hget listed j hls hjm.1, hjm.2] at this
          cases this
        · unfold pairB at h
          split at h
          · rename_i x1 x2 e1 e2
            rw [hx] at e2
            simp only [Option.some.injEq] at e2
            subst e2
            rw [List.getD_eq_getElem?_getD, e1]
            exact h
          · cases h) hrun
      rw [← List.map_append] at hbub
      simp only [runOps] at hbub
      split at hbub
      · rename_i st1 hst1
        have hbits : ∀ j, j < i → ((masks ops.toList []).getD i 0).testBit j = true → listed.getD j false = true := fun j _ h => hmask i o j hol h _ hcl hpre
        have := hsound i o x ho hx listed hls hun hcl hbits st st1 a w hst1 S (wpAnyIn (FR ρ) nn P .any ops Q fuel (listed.setIfInBounds i true)) fun a' w' k2 => by
          refine ih (r1 ++ r2) _ w' a' st1 (by simp at hlen ⊢; omega) (by simpa using hls) (fun j => ?_) ?_ ?_ hbub k2
          · by_cases hji : i = j
            · subst hji
              constructor
              · intro hj
                exfalso
                rcases List.mem_append.1 hj with h | h
                · have := s3 i h i (by simp); omega
                · have := s2.1 i h; omega
              · rintro ⟨_, h⟩
                simp [Array.getD, hls, hilt] at h
            · rw [getD_set_ne _ hji, ← hmem j]
              simp only [List.mem_append, List.mem_cons]
              constructor
              · rintro (h | h)
                · exact .inl h
                · exact .inr (.inr h)
              · rintro (h | h | h)
                · exact .inl h
                · exact absurd h.symm hji
                · exact .inr h
          · exact List.pairwise_append.2 ⟨s1, s2.2, fun p hp' q hq => s3 p hp' q (by simp [hq])⟩
          · intro j o' ho' hj e he hb
            simp only at hj ⊢
            by_cases hji : i = j
            · subst hji
              have : o' = o := by rw [hol] at ho'; simpa using ho'.symm
              subst this
              exact getD_set_true (hpre e he hb)
            · rw [getD_set_ne _ hji] at hj
              exact getD_set_true (hcl j o' ho' hj e he hb)
        unfold wpOpIn
        rw [ho]
        simp only
        split
        · rename_i hw; rw [if_pos hw] at this; exact this
        · rename_i hw; rw [if_neg hw] at this; exact ⟨fun _ _ => trivial, this⟩
      · cases hbub

end
end Go.Proofs.YtkiliokeanmagaaDoor.Ab
