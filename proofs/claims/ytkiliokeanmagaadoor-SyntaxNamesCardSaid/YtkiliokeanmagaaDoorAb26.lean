/- More fuel says the same. -/
import Derived.Test.YtkiliokeanmagaaDoorAb25
namespace Go.Proofs.YtkiliokeanmagaaDoor.Ab
open Go
set_option linter.unusedVariables false
set_option linter.unusedSimpArgs false

def CfLe (cf cf' : CallF) : Prop := ∀ f args h r, cf f args h = some r → cf' f args h = some r
theorem CfLe.refl (cf : CallF) : CfLe cf cf := fun _ _ _ _ h => h

theorem act_mono {cf cf' : CallF} (hc : CfLe cf cf') {st : St} {op : XOp} {r : V × List O} (h : act cf st op = some r) : act cf' st op = some r := by
  cases op
  case call f args =>
    have lo : ∀ {f : Nat} {vs : List V} {r : V × List O}, longer st.h (cf f vs st.h) = some r → longer st.h (cf' f vs st.h) = some r := by
      intro f vs r e
      obtain ⟨r1, r2⟩ := r
      obtain ⟨e1, e2⟩ := longer_some e
      rw [hc _ _ _ _ e1, longer_of e2]
    simp only [act, callV, callFn] at h ⊢
    split at h
    · split at h
      · rename_i hq; rw [if_pos hq]; exact lo h
      · cases h
    · split at h
      · split at h
        · rename_i hq; rw [if_pos hq]; exact lo h
        · cases h
      · cases h
  all_goals exact h

theorem step_mono {cf cf' : CallF} (hc : CfLe cf cf') {o : XOper} {st st1 : St} (h : stepO cf o st = some st1) : stepO cf' o st = some st1 := by
  unfold stepO at h ⊢
  split at h
  · rename_i hk
    rw [if_pos hk]
    split at h
    · rename_i hw
      rw [if_pos hw]
      split at h
      · rename_i v hh ha
        rw [act_mono hc ha]
        exact h
      · cases h
    · rename_i hw
      rw [if_neg hw]
      exact h
  · cases h

theorem ops_mono {cf cf' : CallF} (hc : CfLe cf cf') : ∀ {ops : List XOper} {st st1 : St}, runOps cf ops st = some st1 → runOps cf' ops st = some st1
  | [], st, st1, h => h
  | o :: r, st, st1, h => by
    simp only [runOps] at h ⊢
    split at h
    · rename_i s1 h1
      rw [step_mono hc h1]
      exact ops_mono hc h
    · cases h

theorem frame_mono {m : Nat} {cf cf' : CallF} (hc : CfLe cf cf') : CfLe (frameCf m cf) (frameCf m cf') := by
  intro f args h r e
  unfold frameCf at e ⊢
  split at e
  · rename_i hcond
    rw [if_pos hcond]
    split at e
    · rename_i r' h1 hcall
      rw [hc _ _ _ _ hcall]
      exact e
    · cases e
  · cases e
theorem opsW_mono {cf cf' : CallF} (hc : CfLe cf cf') : ∀ {ops : List XOper} {st st1 : St}, runW cf ops st = some st1 → runW cf' ops st = some st1
  | [], st, st1, h => h
  | o :: r, st, st1, h => by
    simp only [runW] at h ⊢
    split at h
    · rename_i s1 h1
      have : stepW cf' o st = some s1 := by
        unfold stepW at h1 ⊢
        split at h1
        · rename_i hb
          rw [if_pos hb]
          exact step_mono (frame_mono hc) h1
        · cases h1
      rw [this]
      exact opsW_mono hc h
    · cases h

theorem iter_mono {f f' : St → Option (Ex × St)} (hf : ∀ st r, f st = some r → f' st = some r) : ∀ {n n' : Nat} {st : St} {r : Ex × St}, n ≤ n' → iter f n st = some r → iter f' n' st = some r
  | 0, n', st, r, _, h => by simp [iter] at h
  | n + 1, 0, st, r, hn, h => by omega
  | n + 1, n' + 1, st, r, hn, h => by
    simp only [iter] at h ⊢
    split at h
    · rename_i s1 h1
      rw [hf _ _ h1]
      exact iter_mono hf (by omega) h
    · rename_i hne
      cases h1 : f st with
      | none => rw [h1] at h; cases h
      | some p =>
        rw [h1] at h
        simp only [Option.some.injEq] at h
        subst h
        rw [hf _ _ h1]
        obtain ⟨e, s⟩ := p
        cases e with
        | normal => exact absurd h1 (hne s)
        | exit id => rfl
        | ret => rfl

theorem exec_mono {cf cf' : CallF} (hc : CfLe cf cf') {n n' : Nat} (hn : n ≤ n') : ∀ (xc : XC) (st : St) (r : Ex × St), exec cf n xc st = some r → exec cf' n' xc st = some r := by
  intro xc
  induction xc with
  | skip => intro st r h; exact h
  | reg ops pre d =>
    intro st r h
    simp only [exec, Option.map_eq_some_iff] at h ⊢
    obtain ⟨s, h1, h2⟩ := h
    exact ⟨s, ops_mono hc h1, h2⟩
  | regw ops pre =>
    intro st r h
    simp only [exec, Option.map_eq_some_iff] at h ⊢
    obtain ⟨s, h1, h2⟩ := h
    exact ⟨s, opsW_mono hc h1, h2⟩
  | seq a b iha ihb =>
    intro st r h
    simp only [exec] at h ⊢
    split at h
    · rename_i s1 h1
      rw [iha _ _ h1]
      exact ihb _ _ h
    · rename_i hne
      obtain ⟨e, s⟩ := r
      rw [iha _ _ h]
      cases e with
      | normal => exact absurd h (hne s)
      | exit id => rfl
      | ret => rfl
  | cond c a b iha ihb =>
    intro st r h
    simp only [exec] at h ⊢
    split at h
    · rename_i t ht
      split at h
      · rename_i ht2; rw [if_pos ht2]; exact iha _ _ h
      · rename_i ht2; rw [if_neg ht2]; exact ihb _ _ h
    · cases h
  | block id c ih =>
    intro st r h
    simp only [exec] at h ⊢
    split at h
    · rename_i id' s1 h1
      rw [ih _ _ h1]
      exact h
    · rename_i hne
      obtain ⟨e, s⟩ := r
      rw [ih _ _ h]
      cases e with
      | exit id => exact absurd h (hne _ s)
      | normal => rfl
      | ret => rfl
  | loop c ih =>
    intro st r h
    simp only [exec] at h ⊢
    exact iter_mono (fun st r => ih st r) hn h
  | exit id => intro st r h; exact h
  | ret => intro st r h; exact h
  | rangeF f y m nt us =>
    intro st r h
    simp only [exec] at h ⊢
    split at h
    · split at h
      · rename_i hq
        rw [if_pos hq]
        split at h
        · rename_i h1
          rw [hc _ _ _ _ h1]
          exact h
        · cases h
      · cases h
    · cases h

theorem snap_mono {lo : Nat} {h : List O} : ∀ {k k' : Nat} {v v' : V}, k ≤ k' → snap lo h k v = some v' → snap lo h k' v = some v'
  | 0, _, v, v', _, e => by simp [snap] at e
  | k + 1, 0, v, v', hk, e => by omega
  | k + 1, k' + 1, v, v', hk, e => snapV_le (fun _ _ _ h => h) (fun v v' e => snap_mono (by omega) e) v v' e

theorem fin_mono {esc : Bool} {n n' : Nat} (hn : n ≤ n') {res : List XR} {o o' : Option (Ex × St)} (ho : ∀ r, o = some r → o' = some r) {r : V × List O} (h : fin esc n res o = some r) : fin esc n' res o' = some r := by
  cases o with
  | none => simp [fin] at h
  | some p =>
    rw [ho p rfl]
    obtain ⟨e, s⟩ := p
    have main : ∀ e, e ≠ .normal ∧ e ≠ .ret → fin esc n res (some (e, s)) = none := by
      intro e he
      cases e with
      | normal => exact absurd rfl he.1
      | ret => exact absurd rfl he.2
      | exit id => rfl
    have key : ∀ q, (match resAll s res with
        | some vs =>
          if esc then some ((resOf vs).vw, s.h) else
          if (resOf vs).vw.low s.base then if (s.h.take s.base).all (O.low s.base) then some ((resOf vs).vw, s.h.take s.base) else none
          else match snap s.base s.h n (resOf vs).vw with
            | some r => if r.low s.base && (s.h.take s.base).all (O.low s.base) then some (r, s.h.take s.base) else none
            | none => none
        | none => none) = some q → (match resAll s res with
        | some vs =>
          if esc then some ((resOf vs).vw, s.h) else
          if (resOf vs).vw.low s.base then if (s.h.take s.base).all (O.low s.base) then some ((resOf vs).vw, s.h.take s.base) else none
          else match snap s.base s.h n' (resOf vs).vw with
            | some r => if r.low s.base && (s.h.take s.base).all (O.low s.base) then some (r, s.h.take s.base) else none
            | none => none
        | none => none) = some q := by
      intro q hq
      split at hq
      · split at hq
        · rename_i he; simp only [he, if_true]; exact hq
        · rename_i he
          simp only [he, Bool.false_eq_true, if_false]
          split at hq
          · rename_i hl; simp only [hl, if_true]; exact hq
          · rename_i hl
            simp only [hl, Bool.false_eq_true, if_false]
            split at hq
            · rename_i r' hsn
              rw [snap_mono hn hsn]
              exact hq
            · cases hq
      · cases hq
    cases e with
    | exit id => simp [fin] at h
    | normal => exact key r h
    | ret => exact key r h

theorem mapO_mono {f f' : V → Option V} (hf : ∀ v v', f v = some v' → f' v = some v') {us us' : List V} (h : mapO f us = some us') : mapO f' us = some us' := mapO_le hf us us' h

theorem runF_mono {cf cf' : CallF} (hc : CfLe cf cf') {n n' : Nat} (hn : n ≤ n') {xf : XF} {args : List V} {h : List O} {r : V × List O} (e : runF cf n xf args h = some r) : runF cf' n' xf args h = some r := by
  have hex : ∀ st r, exec cf n xf.body st = some r → exec cf' n' xf.body st = some r := exec_mono hc hn xf.body
  unfold runF at e ⊢
  split at e
  · rename_i hp
    rw [if_pos hp]
    split at e
    · rename_i hl
      rw [if_pos hl]
      split at e
      · rename_i hes
        rw [if_pos hes]
        simp only [Option.map_eq_some_iff] at e ⊢
        obtain ⟨q, hq, rfl⟩ := e
        exact ⟨q, fin_mono hn (hex _) hq, rfl⟩
      · rename_i hes
        rw [if_neg hes]
        simp only [Option.map_eq_some_iff] at e ⊢
        obtain ⟨q, hq, rfl⟩ := e
        exact ⟨q, fin_mono hn (hex _) hq, rfl⟩
    · rename_i hl
      rw [if_neg hl]
      split at e
      · cases e
      · rename_i hes
        rw [if_neg hes]
        split at e
        · rename_i bs hbs
          rw [mapO_mono (fun v v' => snap_mono hn) hbs]
          simp only
          split at e
          · rename_i hl2
            rw [if_pos hl2]
            split at e
            · rename_i q hh hq
              rw [fin_mono hn (hex _) hq]
              exact e
            · cases e
          · cases e
        · cases e
  · rename_i hp
    rw [if_neg hp]
    exact fin_mono hn (hex _) e

/-- The functions that are known by what they do say the same with more. -/
def ExtMono (E : Ext) : Prop := ∀ f e, E f = some e → ∀ n n' cf cf', n ≤ n' → CfLe cf cf' → ∀ args h r, e n cf args h = some r → e n' cf' args h = some r

theorem round_mono {cf cf' : CallF} (hc : CfLe cf cf') {n n' : Nat} (hn : n ≤ n') {ps : List Nat} {asg body : XC} {k : Nat} {vs caps : List V} {h : List O} {r : V × List O} (e : runRound cf n ps asg body k vs caps h = some r) : runRound cf' n' ps asg body k vs caps h = some r := by
  unfold runRound at e ⊢
  split at e
  rotate_left
  · cases e
  rename_i tm hp
  split at e
  rotate_left
  · cases e
  rename_i st1 h1
  rw [exec_mono hc hn _ _ _ h1]
  simp only
  split at e
  rotate_left
  · cases e
  rename_i hk
  split at e
  rotate_left
  · cases e
  rename_i e2 st2 h2
  simp only [hk, exec_mono hc hn _ _ _ h2]
  exact e

theorem call_mono {X : Nat → Option XF} {E : Ext} (hE : ExtMono E) : ∀ {n n' : Nat}, n ≤ n' → CfLe (call X E n) (call X E n')
  | 0, _, _ => fun f args h r e => by simp [call] at e
  | n + 1, 0, hn => by omega
  | n + 1, n' + 1, hn => fun f args h r e => by
    have ih := call_mono (X := X) hE (n := n) (n' := n') (by omega)
    simp only [call] at e ⊢
    split at e
    · rename_i ex hex
      exact hE f ex hex n n' _ _ (by omega) ih args h r e
    · rename_i hex
      split at e
      · cases e
      · rename_i xf hxf
        split at e
        · split at e
          · split at e
            · rename_i hk
              rw [if_pos hk]
              exact round_mono ih (by omega) e
            · cases e
          · cases e
        · exact runF_mono ih (by omega) e

theorem yield_mono {cf cf' : CallF} (hc : CfLe cf cf') {f : Nat} {caps : List V} {d : V} {ps : List Int} {h : List O} {r : Bool × List O} (e : yieldV cf f caps d ps h = some r) : yieldV cf' f caps d ps h = some r := by
  unfold yieldV at e ⊢
  split at e
  · rename_i b h1 hf
    rw [frame_mono hc _ _ _ _ hf]
    exact e
  · cases e
theorem eachV_mono {cf cf' : CallF} (hc : CfLe cf cf') {f : Nat} {caps : List V} : ∀ {k k' : Nat}, k ≤ k' → ∀ {d : V} {ps : List Int} {h : List O} {r : Bool × List O}, eachV cf f caps k d ps h = some r → eachV cf' f caps k' d ps h = some r
  | 0, _, _, d, ps, h, r, e => by simp [eachV] at e
  | k + 1, 0, hk, _, _, _, _, _ => by omega
  | k + 1, k' + 1, hk, d, ps, h, r, e => by
    have hL : ∀ (us : List V) (i : Nat) (h1 : List O), eachL (eachV cf f caps k) ps i us h1 = some r → eachL (eachV cf' f caps k') ps i us h1 = some r := by
      intro us
      induction us with
      | nil => intro i h1 e; exact e
      | cons u us ih =>
        intro i h1 e
        simp only [eachL] at e ⊢
        split at e
        · rename_i h2 e1
          rw [eachV_mono hc (by omega) e1]
          exact ih _ _ e
        · rename_i h2 e1
          rw [eachV_mono hc (by omega) e1]
          exact e
        · cases e
    unfold eachV at e ⊢
    split at e
    · split at e
      · rename_i hcond
        simp only [if_pos hcond]
        split at e
        · rename_i h1 e1
          rw [yield_mono hc e1]
          exact hL _ _ _ e
        · rename_i h1 e1
          rw [yield_mono hc e1]
          exact e
        · cases e
      · cases e
    · cases e
theorem eachE_mono {n n' : Nat} {cf cf' : CallF} (hn : n ≤ n') (hc : CfLe cf cf') {args : List V} {h : List O} {r : V × List O} (e : eachE n cf args h = some r) : eachE n' cf' args h = some r := by
  unfold eachE at e ⊢
  split at e
  · split at e
    · rename_i f caps hfv
      simp only [Option.map_eq_some_iff] at e ⊢
      obtain ⟨q, hq, rfl⟩ := e
      exact ⟨q, eachV_mono hc hn hq, rfl⟩
    · cases e
  · cases e
end Go.Proofs.YtkiliokeanmagaaDoor.Ab
