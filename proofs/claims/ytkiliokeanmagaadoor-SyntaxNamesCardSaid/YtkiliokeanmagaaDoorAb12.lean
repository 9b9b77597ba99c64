/- Regions whose order is drawn; every region. -/
import Derived.Test.YtkiliokeanmagaaDoorAb11
namespace Go.Proofs.YtkiliokeanmagaaDoor.Ab
open Go
set_option linter.unusedVariables false
set_option linter.unusedSimpArgs false

def maskOf (ms : List Nat) (o : Oper) : Nat := o.after.toList.foldl (fun s e => if Region.binds .any e then s ||| (2 ^ e.on ||| ms.getD e.on 0) else s) 0
def masks : List Oper → List Nat → List Nat
  | [], ms => ms
  | o :: r, ms => masks r (ms ++ [maskOf ms o])
def lowerB (i : Nat) (o : Oper) : Bool := o.after.toList.all fun e => !Region.binds .any e || decide (e.on < i)
def pairB (pf : Nat → Nat) (xs : List XOper) (j i : Nat) : Bool :=
  match xs[j]?, xs[i]? with
  | some x, some y => commB pf x y
  | _, _ => false
def drawnOk (pf : Nat → Nat) (ops : List Oper) (xs : List XOper) : Bool :=
  (List.range ops.length).all fun i => match ops[i]? with
    | some o => lowerB i o && (List.range i).all fun j => ((masks ops []).getD i 0).testBit j || pairB pf xs j i
    | none => false

/-- Listed with all that must come before. -/
def Closed (ops : List Oper) (L : Nat → Bool) : Prop := ∀ i o, ops[i]? = some o → L i = true → ∀ e ∈ o.after, Region.binds .any e = true → L e.on = true

theorem mask_bit (ms : List Nat) (es : List Edge) (j : Nat) : ∀ s, (es.foldl (fun s e => if Region.binds .any e then s ||| (2 ^ e.on ||| ms.getD e.on 0) else s) s).testBit j = true →
    s.testBit j = true ∨ ∃ e ∈ es, Region.binds .any e = true ∧ (j = e.on ∨ (ms.getD e.on 0).testBit j = true) := by
  induction es with
  | nil => intro s h; exact .inl h
  | cons e es ih =>
    intro s h
    simp only [List.foldl_cons] at h
    rcases ih _ h with h1 | ⟨e', he, hb⟩
    · by_cases hb : Region.binds .any e = true
      · simp only [hb, if_true, Nat.testBit_or, Bool.or_eq_true] at h1
        rcases h1 with h1 | h1 | h1
        · exact .inl h1
        · refine .inr ⟨e, by simp, hb, .inl ?_⟩
          rw [Nat.testBit_two_pow] at h1
          exact (by simpa using h1 : e.on = j).symm
        · exact .inr ⟨e, by simp, hb, .inr h1⟩
      · simp only [hb, Bool.false_eq_true, if_false] at h1
        exact .inl h1
    · exact .inr ⟨e', by simp [he], hb⟩

def MaskOk (ops : List Oper) (ms : List Nat) : Prop := ∀ i o j, ops[i]? = some o → (ms.getD i 0).testBit j = true → ∀ L, Closed ops L → (∀ e ∈ o.after, Region.binds .any e = true → L e.on = true) → L j = true

theorem masks_ok (ops : List Oper) : ∀ (r : List Oper) (ms : List Nat) (pre : List Oper), ops = pre ++ r → ms.length = pre.length → MaskOk ops ms → MaskOk ops (masks r ms)
  | [], ms, pre, _, _, h => h
  | o :: r, ms, pre, e, hl, h => by
    refine masks_ok ops r _ (pre ++ [o]) (by simp [e]) (by simp [hl]) ?_
    intro i o' j ho hbit L hL hpre
    have hms : ∀ k, (ms.getD k 0).testBit j = true → L k = true → L j = true := by
      intro k hk hLk
      have hkl : k < ms.length := by
        rcases Nat.lt_or_ge k ms.length with h1 | h1
        · exact h1
        · rw [List.getD_eq_getElem?_getD, List.getElem?_eq_none h1] at hk; simp at hk
      have hko : k < ops.length := by rw [e]; simp; omega
      exact h k _ j (List.getElem?_eq_getElem hko) hk L hL (hL k _ (List.getElem?_eq_getElem hko) hLk)
    rcases Nat.lt_or_ge i ms.length with h1 | h1
    · rw [List.getD_eq_getElem?_getD, List.getElem?_append_left h1, ← List.getD_eq_getElem?_getD] at hbit
      exact h i o' j ho hbit L hL hpre
    · by_cases h2 : i = ms.length
      · subst h2
        have ho2 : o' = o := by
          rw [e, List.getElem?_append_right (by omega), hl] at ho
          simpa using ho.symm
        subst ho2
        rw [List.getD_eq_getElem?_getD, List.getElem?_append_right (Nat.le_refl _)] at hbit
        simp only [Nat.sub_self, List.getElem?_cons_zero, Option.getD_some] at hbit
        rcases mask_bit ms _ j 0 hbit with h3 | ⟨e', he, hb, h3 | h3⟩
        · simp at h3
        · rw [h3]; exact hpre e' (by simpa using he) hb
        · exact hms e'.on h3 (hpre e' (by simpa using he) hb)
      · rw [List.getD_eq_getElem?_getD, List.getElem?_eq_none (by simp; omega)] at hbit
        simp at hbit

theorem step_rb {cf : CallF} {x : XOper} {st st1 : St} (h : stepO cf x st = some st1) : st1.rb = st.rb ∧ st1.base = st.base := by
  unfold stepO at h
  split at h
  rotate_left
  · cases h
  split at h
  · split at h
    · simp only [Option.some.injEq] at h; rw [← h]; exact ⟨rfl, rfl⟩
    · cases h
  · simp only [Option.some.injEq] at h; rw [← h]; exact ⟨rfl, rfl⟩

section
variable {P : Program} {ds : List Deferred} {ρ : Option Nat} {nn : Nat}

/-- Where each operation's objects lie. -/
structure Tab (P : Program) (rw : Bool) (ops : Array Oper) (l : List Oper) (al : Nat) (xs : List XOper) (pres : List O) (tab : Nat → Nat × List O) : Prop where
  op : ∀ i o, l[i]? = some o → ∃ x, xs[i]? = some x ∧ trOper P rw ops (tab i).1 o = some (x, (tab i).2)
  at' : ∀ i, i < l.length → ∀ p ∈ (tab i).2, pres[(tab i).1 - al]? = some p
  ge : ∀ i, i < l.length → al ≤ (tab i).1
  lt : ∀ i j, i < j → j < l.length → (tab i).2 ≠ [] → (tab i).1 < (tab j).1
  len : xs.length = l.length
  own : ∀ i, i < l.length → (tab i).2.all O.owned = true

theorem tab_of {rw : Bool} {ops : Array Oper} : ∀ (l : List Oper) (al : Nat) (xs : List XOper) (pres : List O), trOps P rw ops l al = some (xs, pres) → ∃ tab, Tab P rw ops l al xs pres tab
  | [], al, xs, pres, h => by
    simp only [trOps, Option.some.injEq, Prod.mk.injEq] at h
    obtain ⟨rfl, rfl⟩ := h
    exact ⟨fun _ => (0, []), fun i o h => by simp at h, fun i h => by simp at h, fun i h => by simp at h, fun i j _ h => by simp at h, rfl, fun i h => by simp at h⟩
  | o :: l, al, xs, pres, h => by
    simp only [trOps] at h
    split at h
    · rename_i x pre h1
      split at h
      · rename_i hpl
        split at h
        · rename_i xs' pres' h2
          simp only [Option.some.injEq, Prod.mk.injEq] at h
          obtain ⟨rfl, rfl⟩ := h
          obtain ⟨tab, T⟩ := tab_of l _ _ _ h2
          refine ⟨fun i => match i with | 0 => (al, pre) | i + 1 => tab i, ?_, ?_, ?_, ?_, by simp [T.len], fun i hi => ?_⟩
          · intro i o' ho
            cases i with
            | zero =>
              simp only [List.getElem?_cons_zero, Option.some.injEq] at ho
              subst ho
              exact ⟨x, rfl, h1⟩
            | succ i =>
              simp only [List.getElem?_cons_succ] at ho ⊢
              exact T.op i o' ho
          · intro i hi p hp
            cases i with
            | zero =>
              simp only at hp ⊢
              cases pre with
              | nil => simp at hp
              | cons q r =>
                cases r with
                | nil => simp only [List.mem_singleton] at hp; subst hp; simp
                | cons q2 r => have := hpl.1; simp at this
            | succ i =>
              simp only at hp ⊢
              have := T.at' i (by simpa using hi) p hp
              have hg := T.ge i (by simpa using hi)
              rw [List.getElem?_append_right (by omega)]
              rw [show (tab i).1 - al - pre.length = (tab i).1 - (al + pre.length) by omega]
              exact this
          · intro i hi
            cases i with
            | zero => exact Nat.le_refl _
            | succ i => have := T.ge i (by simpa using hi); simp only; omega
          · intro i j hij hj hne
            cases j with
            | zero => omega
            | succ j =>
              cases i with
              | zero =>
                simp only at hne ⊢
                have := T.ge j (by simpa using hj)
                cases pre with
                | nil => exact absurd rfl hne
                | cons q r => simp only [List.length_cons] at this; omega
              | succ i => exact T.lt i j (by omega) (by simpa using hj) hne
          · cases i with
            | zero => exact hpl.2
            | succ i => exact T.own i (by simpa using hi)
        · cases h
      · cases h
    · cases h

theorem any_ok {pf : Nat → Nat} {cf : CallF} (hp : PureCf pf cf) (hcf : CallOk P cf) {ops : Array Oper} {xs : List XOper} {pres : List O} {tab : Nat → Nat × List O} {rw : Bool} (T : Tab P rw ops ops.toList 0 xs pres tab) (fx : XOper → XOper) (hfx : ∀ cf st st1 x, stepO cf (fx x) st = some st1 → stepO cf x st = some st1) (hd : drawnOk pf ops.toList (xs.map fx) = true)
    {Q : Exit → Act → World → Prop} {st' : St} {rb : Nat} (d0 : XOper) : ∀ (fuel : Nat) (rem : List Nat) (listed : Array Bool) (g : Gh) (w : World) (a : Act) (st : St),
    rem.length = fuel → listed.size = ops.size → (∀ i, i ∈ rem ↔ i < ops.size ∧ listed.getD i true = false) → rem.Pairwise (· < ·) → Closed ops.toList (fun i => listed.getD i false) →
    runOps cf (rem.map fun i => (xs.map fx).getD i d0) st = some st' → Sim ds g w a st → st.rb = rb → rb ≤ st.h.length → (∀ i ∈ rem, Fresh g st.h (rb + (tab i).1) (tab i).2) →
    (∀ a' w' g', Le g w g' w' → Sim ds g' w' a' st' → Quiet (Frb rb st.h) g st.h g' st'.h → Q .normal a' w') → wpAnyIn (FR ρ) nn P .any ops Q fuel listed a w := by
  have hmask : MaskOk ops.toList (masks ops.toList []) := masks_ok ops.toList ops.toList [] [] (by simp) rfl (by intro i o j _ h; simp at h)
  have hdi : ∀ i o, ops.toList[i]? = some o → lowerB i o = true ∧ ∀ j, j < i → ((masks ops.toList []).getD i 0).testBit j = true ∨ pairB pf (xs.map fx) j i = true := by
    intro i o ho
    have hi : i < ops.toList.length := (List.getElem?_eq_some_iff.1 ho).1
    have := List.all_eq_true.1 hd i (by simpa using hi)
    rw [ho] at this
    simp only [Bool.and_eq_true, List.all_eq_true, List.mem_range, Bool.or_eq_true] at this
    exact this
  have hget : ∀ (listed : Array Bool) i, listed.size = ops.size → i < ops.size → listed.getD i true = listed.getD i false := by
    intro listed i hs hi
    simp [Array.getD, hs, hi]
  intro fuel
  induction fuel with
  | zero =>
    intro rem listed g w a st hlen hls hmem _ _ hrun S _ _ _ hQ
    have hnil : rem = [] := List.eq_nil_of_length_eq_zero hlen
    subst hnil
    simp only [List.map_nil, runOps, Option.some.injEq] at hrun
    subst hrun
    refine ⟨?_, hQ _ _ _ (Le.refl _ _) S (Quiet.refl _ _ _)⟩
    rw [List.eq_nil_iff_forall_not_mem]
    intro i hi
    rw [mem_ready] at hi
    obtain ⟨h1, o, ho, _⟩ := hi
    have := (hmem i).2 ⟨(Array.getElem?_eq_some_iff.1 ho).1, h1⟩
    simp at this
  | succ fuel ih =>
    intro rem listed g w a st hlen hls hmem hsort hcl hrun S hrb hrl hfr hQ
    refine ⟨fun hnil => ?_, fun i hi => ?_⟩
    · exfalso
      cases rem with
      | nil => simp at hlen
      | cons i r =>
        have hi := (hmem i).1 (by simp)
        have : i ∈ Region.ready .any ops listed := by
          rw [mem_ready]
          refine ⟨hi.2, ops[i], Array.getElem?_eq_getElem hi.1, fun e he hb => ?_⟩
          have hl := (hdi i ops[i] (by simp [hi.1])).1
          simp only [lowerB, List.all_eq_true, Bool.or_eq_true, Bool.not_eq_true', decide_eq_true_eq] at hl
          have hlt : e.on < i := (hl e (by simpa using he)).resolve_left (by simp [hb])
          cases hc : listed.getD e.on false with
          | true => rfl
          | false =>
            have : e.on ∈ i :: r := (hmem e.on).2 ⟨by omega, by rw [hget listed e.on hls (by omega)]; exact hc⟩
            simp only [List.pairwise_cons] at hsort
            rcases List.mem_cons.1 this with h | h
            · omega
            · have := hsort.1 _ h; omega
        rw [hnil] at this
        simp at this
    · have hr := mem_ready.1 hi
      obtain ⟨hun, o, ho, hpre⟩ := hr
      have hilt : i < ops.size := (Array.getElem?_eq_some_iff.1 ho).1
      have hol : ops.toList[i]? = some o := by simpa using ho
      have hir := (hmem i).2 ⟨hilt, hun⟩
      obtain ⟨r1, r2, rfl⟩ := List.append_of_mem hir
      have hs2 := List.pairwise_append.1 hsort
      obtain ⟨s1, s2, s3⟩ := hs2
      simp only [List.pairwise_cons] at s2
      obtain ⟨x, hx0, htr⟩ := T.op i o hol
      have hx : (xs.map fx)[i]? = some (fx x) := by rw [List.getElem?_map, hx0]; rfl
      have hxi : (xs.map fx).getD i d0 = fx x := by rw [List.getD_eq_getElem?_getD, hx]; rfl
      rw [List.map_append, List.map_cons, hxi] at hrun
      have hbub := bubble hp (r1.map fun i => (xs.map fx).getD i d0) st (fun z hz => by
        obtain ⟨j, hj, rfl⟩ := List.mem_map.1 hz
        have hji : j < i := s3 j hj i (by simp)
        have hjm := (hmem j).1 (by simp [hj])
        rcases (hdi i o hol).2 j hji with h | h
        · exfalso
          have := hmask i o j hol h _ hcl hpre
          rw [← hget listed j hls hjm.1, hjm.2] at this
          cases this
        · unfold pairB at h
          split at h
          · rename_i x1 x2 e1 e2
            rw [hx] at e2
            simp only [Option.some.injEq] at e2
            subst e2
            rw [List.getD_eq_getElem?_getD, e1]
            exact h
          · cases h) hrun
      rw [← List.map_append] at hbub
      simp only [runOps] at hbub
      split at hbub
      · rename_i st1 hst1
        have := step_op (ρ := ρ) (nn := nn) (K := wpAnyIn (FR ρ) nn P .any ops Q fuel (listed.setIfInBounds i true)) (Q := Q) htr (hfx _ _ _ _ hst1) hcf S (by rw [hrb]; exact hfr i (by simp)) fun a' w' g' k1 k2 k3 => by
          refine ih (r1 ++ r2) _ g' w' a' st1 (by simp at hlen ⊢; omega) (by simpa using hls) (fun j => ?_) ?_ ?_ hbub k2 ((step_rb hst1).1.trans hrb) (Nat.le_trans hrl (step_len hst1)) (fun j hj => ?_) fun a'' w'' g'' m1 m2 m3 => hQ _ _ _ (k1.trans m1) m2 ((k3.mono (E' := Frb rb st.h) fun id hid => hid.elim (fun h => .inl (by have := h.2; omega)) fun h => h.imp (fun h => Nat.le_trans hrl h) fun h => h).transL k2.hk k1 m3)
          · by_cases hji : i = j
            · subst hji
              constructor
              · intro hj
                exfalso
                rcases List.mem_append.1 hj with h | h
                · have := s3 i h i (by simp); omega
                · have := s2.1 i h; omega
              · rintro ⟨_, h⟩
                simp [Array.getD, hls, hilt] at h
            · rw [getD_set_ne _ hji, ← hmem j]
              simp only [List.mem_append, List.mem_cons]
              constructor
              · rintro (h | h)
                · exact .inl h
                · exact .inr (.inr h)
              · rintro (h | h | h)
                · exact .inl h
                · exact absurd h.symm hji
                · exact .inr h
          · exact List.pairwise_append.2 ⟨s1, s2.2, fun p hp' q hq => s3 p hp' q (by simp [hq])⟩
          · intro j o' ho' hj e he hb
            simp only at hj ⊢
            by_cases hji : i = j
            · subst hji
              have : o' = o := by rw [hol] at ho'; simpa using ho'.symm
              subst this
              exact getD_set_true (hpre e he hb)
            · rw [getD_set_ne _ hji] at hj
              exact getD_set_true (hcl j o' ho' hj e he hb)
          · intro hne
            have hjm : j ∈ r1 ++ i :: r2 := by
              rcases List.mem_append.1 hj with h | h
              · simp [h]
              · simp [h]
            have hjs := ((hmem j).1 hjm).1
            obtain ⟨q1, q2, q3⟩ := hfr j hjm hne
            have hin : rb + (tab j).1 < st.h.length := by
              obtain ⟨p, hp'⟩ := List.exists_mem_of_ne_nil _ hne
              exact (List.getElem?_eq_some_iff.1 (q3 p hp')).1
            have hslot : ¬ (((tab i).2 ≠ [] ∧ rb + (tab j).1 = st.rb + (tab i).1) ∨ Frb st.h.length st.h (rb + (tab j).1)) := by
              rintro (⟨n1, n2⟩ | n3 | n3)
              rotate_left
              · omega
              · obtain ⟨p, hp'⟩ := List.exists_mem_of_ne_nil _ hne
                have h1 := q3 p hp'
                rw [n3] at h1
                simp only [Option.some.injEq] at h1
                have h2 := List.all_eq_true.1 (T.own j (by simpa using hjs)) _ hp'
                rw [← h1] at h2
                cases h2
              rw [hrb] at n2
              rcases List.mem_append.1 hj with h | h
              · have := T.lt j i (s3 j h i (by simp)) (by simpa using hilt) hne
                omega
              · have := T.lt i j (s2.1 j h) (by simpa using hjs) n1
                omega
            have k := k3 _ hslot
            exact ⟨k.1 q1, k.2.1 q2, fun p hp' => (k.2.2 q1 q2).trans (q3 p hp')⟩
        unfold wpOpIn
        rw [ho]
        simp only
        split
        · rename_i hw; rw [if_pos hw] at this; exact this
        · rename_i hw; rw [if_neg hw] at this; exact ⟨fun _ _ => trivial, this⟩
      · cases hbub

/-- A drawn region, with other operations that say more. -/
theorem region_okF {pf : Nat → Nat} {cf : CallF} (hp : PureCf pf cf) (hcf : CallOk P cf) (hm : P.follows .mixedOrders = true) {id : Nat} {ops : Array Oper} {xs : List XOper} {pres : List O} {rw : Bool} (htr : trOps P rw ops ops.toList 0 = some (xs, pres))
    (fx : XOper → XOper) (hfx : ∀ cf st st1 x, stepO cf (fx x) st = some st1 → stepO cf x st = some st1) (hd : drawnOk pf ops.toList (xs.map fx) = true) {g : Gh} {w : World} {a : Act} {st st' : St} (S : Sim ds g w a st) (hrun : runOps cf (xs.map fx) { st with h := st.h ++ pres, rb := st.h.length } = some st')
    {Q : Exit → Act → World → Prop} (hQ : ∀ a' w' g', Le g w g' w' → Sim ds g' w' a' st' → Quiet (Frb st.h.length st.h) g st.h g' st'.h → Q .normal a' w') : (Code.region id ops true).wpIn (FR ρ) nn P Q a w := by
  have hfr : ∀ j (hj : j < pres.length), g.blk (st.h.length + j) = none ∧ g.tok (st.h.length + j) = none ∧ (st.h ++ pres)[st.h.length + j]? = some pres[j] := by
    intro j hj
    refine ⟨S.hk.blk_none (by omega), S.hk.tok_none (by omega), ?_⟩
    rw [List.getElem?_append_right (by omega)]
    simp [hj]
  have S' : Sim ds g w a { st with h := st.h ++ pres, rb := st.h.length } := ⟨S.tm, S.hk.append _, S.df⟩
  have hq : ∀ {g' : Gh} {h' : List O}, Quiet (Frb st.h.length (st.h ++ pres)) g (st.h ++ pres) g' h' → Quiet (Frb st.h.length st.h) g st.h g' h' := by
    intro g' h' k id hid
    have hlt : id < st.h.length := by
      by_cases h : id < st.h.length
      · exact h
      · exact absurd (.inl (by omega)) hid
    have := k id (by
      rintro (h | h)
      · exact hid (.inl h)
      · rw [List.getElem?_append_left hlt] at h; exact hid (.inr h))
    rw [List.getElem?_append_left hlt] at this
    exact this
  obtain ⟨tab, T⟩ := tab_of _ _ _ _ htr
  refine wpIn_region_any hm ?_
  obtain ⟨d1, d2⟩ := S'.hk.drew
  have S2 : Sim ds g w.drew a { st with h := st.h ++ pres, rb := st.h.length } := ⟨S'.tm.mono d1, d2, S.df⟩
  refine any_ok hp hcf T fx hfx hd (rb := st.h.length) ⟨none, .mv (.k undefV), none⟩ ops.size (List.range ops.size) _ g w.drew a _ (by simp) (by simp) (fun i => ?_) List.pairwise_lt_range ?_ ?_ S2 rfl (by simp) (fun i hi => ?_) (fun a' w' g' k1 k2 k3 => hQ _ _ _ (d1.trans k1) k2 (hq k3))
  · simp only [List.mem_range, Array.getD, Array.size_replicate]
    constructor
    · intro h; exact ⟨h, by simp [h]⟩
    · exact fun h => h.1
  · intro i o ho h
    simp only [Array.getD, Array.size_replicate] at h
    split at h <;> simp at h
  · have e : (List.range ops.size).map (fun i => (xs.map fx).getD i ⟨none, .mv (.k undefV), none⟩) = xs.map fx := by
      apply List.ext_getElem
      · simp [T.len]
      · intro i h1 h2
        have h3 : i < xs.length := by simpa using h2
        simp [List.getD_eq_getElem?_getD, List.getElem?_eq_getElem h3]
    rw [e]; exact hrun
  · intro hne
    have hi' : i < ops.toList.length := by simpa using hi
    cases hpre : (tab i).2 with
    | nil => exact absurd hpre hne
    | cons p r =>
      have h1 := T.at' i hi' p (by rw [hpre]; simp)
      obtain ⟨hlt, _⟩ := List.getElem?_eq_some_iff.1 h1
      rw [Nat.sub_zero] at hlt
      obtain ⟨f1, f2, f3⟩ := hfr _ hlt
      refine ⟨f1, f2, fun q hq => ?_⟩
      have h2 := T.at' i hi' q (by rw [hpre]; exact hq)
      rw [Nat.sub_zero] at h2
      rw [f3, ← h2, List.getElem?_eq_getElem hlt]
/-- A region. -/
theorem region_ok {pf : Nat → Nat} {cf : CallF} (hp : PureCf pf cf) (hcf : CallOk P cf) (hm : P.follows .mixedOrders = true) {rid : Nat} {ops : Array Oper} {drawn : Bool} {xs : List XOper} {pres : List O} {rw : Bool} (htr : trOps P rw ops ops.toList 0 = some (xs, pres))
    (hd : drawn = true → drawnOk pf ops.toList xs = true) {g : Gh} {w : World} {a : Act} {st st' : St} (S : Sim ds g w a st) (hrun : runOps cf xs { st with h := st.h ++ pres, rb := st.h.length } = some st')
    {Q : Exit → Act → World → Prop} (hQ : ∀ a' w' g', Le g w g' w' → Sim ds g' w' a' st' → Quiet (Frb st.h.length st.h) g st.h g' st'.h → Q .normal a' w') : (Code.region rid ops drawn).wpIn (FR ρ) nn P Q a w := by
  have hfr : ∀ j (hj : j < pres.length), g.blk (st.h.length + j) = none ∧ g.tok (st.h.length + j) = none ∧ (st.h ++ pres)[st.h.length + j]? = some pres[j] := by
    intro j hj
    refine ⟨S.hk.blk_none (by omega), S.hk.tok_none (by omega), ?_⟩
    rw [List.getElem?_append_right (by omega)]
    simp [hj]
  have S' : Sim ds g w a { st with h := st.h ++ pres, rb := st.h.length } := ⟨S.tm, S.hk.append _, S.df⟩
  have hq : ∀ {g' : Gh} {h' : List O}, Quiet (Frb st.h.length (st.h ++ pres)) g (st.h ++ pres) g' h' → Quiet (Frb st.h.length st.h) g st.h g' h' := by
    intro g' h' k id hid
    have hlt : id < st.h.length := by
      by_cases h : id < st.h.length
      · exact h
      · exact absurd (.inl (by omega)) hid
    have := k id (by
      rintro (h | h)
      · exact hid (.inl h)
      · rw [List.getElem?_append_left hlt] at h; exact hid (.inr h))
    rw [List.getElem?_append_left hlt] at this
    exact this
  cases drawn with
  | false => exact wpIn_region_list (list_ok hcf ops.toList 0 xs pres g w a _ htr hrun S' (by simpa using hfr) (by simp) fun a' w' g' k1 k2 k3 => hQ _ _ _ k1 k2 (hq k3))
  | true => exact region_okF hp hcf hm htr id (fun _ _ _ _ h => h) (by rw [List.map_id]; exact hd rfl) S (by rw [List.map_id]; exact hrun) hQ
end
end Go.Proofs.YtkiliokeanmagaaDoor.Ab
