/- Code, functions, calls. -/
import Derived.Test.YtbkgpdkimcnpgaaAb17
import Derived.Deep.LoopGhost
namespace Go.Proofs.Ytbkgpdkimcnpgaa.Ab
open Go
set_option linter.unusedVariables false
set_option linter.unusedSimpArgs false

def trC (P : Program) (rw : Bool) (pf : Nat → Nat) : Code → Option XC
  | .skip => some .skip
  | .region _ ops drawn => match trOps P rw ops ops.toList 0 with
    | some (xs, pres) => if drawn = true → drawnOk pf ops.toList xs = true then some (.reg xs pres drawn) else if drawn = true ∧ drawnW pf ops.toList xs = true then some (.regw xs pres) else none
    | none => none
  | .seq a b => match trC P rw pf a, trC P rw pf b with
    | some x, some y => some (.seq x y)
    | _, _ => none
  | .cond c a b => match trA c, trC P rw pf a, trC P rw pf b with
    | some c, some x, some y => some (.cond c x y)
    | _, _, _ => none
  | .block id c => (trC P rw pf c).map (.block id)
  | .loop c => (trC P rw pf c).map .loop
  | .exit id => some (.exit id)
  | .ret => some .ret
  | _ => none
def trR (P : Program) : List ResultVar → Option (List XR)
  | [] => some []
  | .tmp t :: r => (trR P r).map (.t t :: ·)
  | .cell t ty :: r => match nT P ty, trR P r with
    | some n, some l => some (.cell t n :: l)
    | _, _ => none
def trF (P : Program) (pf : Nat → Nat) (pu es rw : Bool) (fn : Func) : Option XF :=
  if (fn.name == "runtime.NumGoroutine") = true then none else
  match fn.body with
  | some c => match trC P rw pf c, trR P fn.results.toList with
    | some xc, some rs => some ⟨fn.ntmps, xc, rs, pu, es, rw⟩
    | _, _ => none
  | none => none

def Ex.to : Ex → Exit
  | .normal => .normal
  | .exit id => .exit id
  | .ret => .ret

section
variable {P : Program}

theorem exec_ok {rw : Bool} {pf : Nat → Nat} {cf : CallF} (hp : PureCf pf cf) (hcf : CallOk P cf) (hm : P.follows .mixedOrders = true) {base : Nat} (n : Nat) : ∀ (c : Code) (xc : XC), trC P rw pf c = some xc → ∀ (g : Gh) (w : World) (a : Act) (st st' : St) (e : Ex),
    exec cf n xc st = some (e, st') → Sim g w a st → base ≤ st.h.length → ∀ Q : Exit → Act → World → Prop,
    (∀ a' w' g', Le g w g' w' → Sim g' w' a' st' → Quiet (Frb base st.h) g st.h g' st'.h → base ≤ st'.h.length → Q e.to a' w') → c.wp P Q a w := by
  have hgrow : ∀ xs st st', runOps cf xs st = some st' → st.h.length ≤ st'.h.length := by
    intro xs
    induction xs with
    | nil => intro st st' h; simp only [runOps, Option.some.injEq] at h; rw [h]; exact Nat.le_refl _
    | cons x xs ih =>
      intro st st' h
      simp only [runOps] at h
      split at h
      · rename_i s1 h1
        exact Nat.le_trans (step_len h1) (ih _ _ h)
      · cases h
  have hgrowW : ∀ xs st st', runW cf xs st = some st' → st.h.length ≤ st'.h.length := by
    intro xs
    induction xs with
    | nil => intro st st' h; simp only [runW, Option.some.injEq] at h; rw [h]; exact Nat.le_refl _
    | cons x xs ih =>
      intro st st' h
      simp only [runW] at h
      split at h
      · rename_i s1 h1
        exact Nat.le_trans (stepW_len h1) (ih _ _ h)
      · cases h
  intro c
  induction c with
  | skip =>
    intro xc htr g w a st st' e hex S hb Q hQ
    simp only [trC, Option.some.injEq] at htr
    subst htr
    simp only [exec, Option.some.injEq, Prod.mk.injEq] at hex
    obtain ⟨rfl, rfl⟩ := hex
    exact wp_skip (hQ _ _ _ (Le.refl _ _) S (Quiet.refl _ _ _) hb)
  | region id ops drawn =>
    intro xc htr g w a st st' e hex S hb Q hQ
    simp only [trC] at htr
    split at htr
    · rename_i xs pres h1
      split at htr
      · rename_i hd
        simp only [Option.some.injEq] at htr
        subst htr
        simp only [exec, Option.map_eq_some_iff, Prod.mk.injEq] at hex
        obtain ⟨s1, h2, rfl, rfl⟩ := hex
        refine region_ok hp hcf hm h1 hd S h2 fun a' w' g' k1 k2 k3 => hQ _ _ _ k1 k2 (k3.mono fun id hid => hid.imp (fun h => Nat.le_trans hb h) fun h => h) ?_
        have := hgrow _ _ _ h2
        simp only [List.length_append] at this
        omega
      · split at htr
        · rename_i hd
          obtain ⟨rfl, hd⟩ := hd
          simp only [Option.some.injEq] at htr
          subst htr
          simp only [exec, Option.map_eq_some_iff, Prod.mk.injEq] at hex
          obtain ⟨s1, h2, rfl, rfl⟩ := hex
          refine region_okW hcf hm h1 hd S h2 fun a' w' g' k1 k2 k3 => hQ _ _ _ k1 k2 (k3.mono fun id hid => hid.imp (fun h => Nat.le_trans hb h) fun h => h) ?_
          have := hgrowW _ _ _ h2
          simp only [List.length_append] at this
          omega
        · cases htr
    · cases htr
  | seq c1 c2 ih1 ih2 =>
    intro xc htr g w a st st' e hex S hb Q hQ
    simp only [trC] at htr
    split at htr
    · rename_i x y h1 h2
      simp only [Option.some.injEq] at htr
      subst htr
      simp only [exec] at hex
      split at hex
      · rename_i s1 h3
        refine wp_seq (ih1 _ h1 g w a st s1 _ h3 S hb _ fun a' w' g' k1 k2 k3 k4 => ?_)
        exact ih2 _ h2 g' w' a' s1 st' e hex k2 k4 _ fun a'' w'' g'' m1 m2 m3 m4 => hQ _ _ _ (k1.trans m1) m2 (k3.transL k2.hk k1 m3) m4
      · rename_i hne
        refine wp_seq (ih1 _ h1 g w a st st' e hex S hb _ fun a' w' g' k1 k2 k3 k4 => ?_)
        cases e with
        | normal => exact absurd hex (hne _)
        | exit id => exact hQ _ _ _ k1 k2 k3 k4
        | ret => exact hQ _ _ _ k1 k2 k3 k4
    · cases htr
  | cond cc c1 c2 ih1 ih2 =>
    intro xc htr g w a st st' e hex S hb Q hQ
    simp only [trC] at htr
    split at htr
    · rename_i xcc x y h0 h1 h2
      simp only [Option.some.injEq] at htr
      subst htr
      simp only [exec] at hex
      split at hex
      · rename_i t ht
        have hr := ev_rep S.tm h0
        rw [ht] at hr
        refine wp_cond hr.of_c ?_
        cases t with
        | true => exact ih1 _ h1 g w a st st' e (by simpa using hex) S hb Q hQ
        | false => exact ih2 _ h2 g w a st st' e (by simpa using hex) S hb Q hQ
      · cases hex
    · cases htr
  | block id c ih =>
    intro xc htr g w a st st' e hex S hb Q hQ
    simp only [trC, Option.map_eq_some_iff] at htr
    obtain ⟨x, h1, rfl⟩ := htr
    simp only [exec] at hex
    split at hex
    · rename_i id' s1 h2
      refine wp_block (ih _ h1 g w a st s1 _ h2 S hb _ fun a' w' g' k1 k2 k3 k4 => ?_)
      simp only [Ex.to, Exit.inBlock]
      split at hex
      · rename_i hid
        simp only [Option.some.injEq, Prod.mk.injEq] at hex
        obtain ⟨rfl, rfl⟩ := hex
        rw [if_pos hid]
        exact hQ _ _ _ k1 k2 k3 k4
      · rename_i hid
        simp only [Option.some.injEq, Prod.mk.injEq] at hex
        obtain ⟨rfl, rfl⟩ := hex
        rw [if_neg hid]
        exact hQ _ _ _ k1 k2 k3 k4
    · rename_i hne
      refine wp_block (ih _ h1 g w a st st' e hex S hb _ fun a' w' g' k1 k2 k3 k4 => ?_)
      cases e with
      | normal => exact hQ _ _ _ k1 k2 k3 k4
      | exit id => exact absurd hex (hne _ _)
      | ret => exact hQ _ _ _ k1 k2 k3 k4
  | loop c ih =>
    intro xc htr g w a st st' e hex S hb Q hQ
    simp only [trC, Option.map_eq_some_iff] at htr
    obtain ⟨x, h1, rfl⟩ := htr
    simp only [exec] at hex
    refine wp_loop_ghost (fun k a1 w1 => ∃ g1 s1, Le g w g1 w1 ∧ Sim g1 w1 a1 s1 ∧ Quiet (Frb base st.h) g st.h g1 s1.h ∧ base ≤ s1.h.length ∧ iter (exec cf n x) k s1 = some (e, st')) n ⟨g, st, Le.refl _ _, S, Quiet.refl _ _ _, hb, hex⟩ ?_
    rintro k a1 w1 ⟨g1, s1, l1, S1, q1, b1, hit⟩
    cases k with
    | zero => simp [iter] at hit
    | succ k =>
      simp only [iter] at hit
      split at hit
      · rename_i s2 h2
        exact ih _ h1 g1 w1 a1 s1 s2 _ h2 S1 b1 _ fun a' w' g' k1 k2 k3 k4 => ⟨k, Nat.lt_succ_self _, g', s2, l1.trans k1, k2, q1.transL S1.hk l1 k3, k4, hit⟩
      · rename_i hne
        refine ih _ h1 g1 w1 a1 s1 st' e hit S1 b1 _ fun a' w' g' k1 k2 k3 k4 => ?_
        cases e with
        | normal => exact absurd hit (hne _)
        | exit id => exact hQ _ _ _ (l1.trans k1) k2 (q1.transL S1.hk l1 k3) k4
        | ret => exact hQ _ _ _ (l1.trans k1) k2 (q1.transL S1.hk l1 k3) k4
  | exit id =>
    intro xc htr g w a st st' e hex S hb Q hQ
    simp only [trC, Option.some.injEq] at htr
    subst htr
    simp only [exec, Option.some.injEq, Prod.mk.injEq] at hex
    obtain ⟨rfl, rfl⟩ := hex
    exact wp_exit (hQ _ _ _ (Le.refl _ _) S (Quiet.refl _ _ _) hb)
  | ret =>
    intro xc htr g w a st st' e hex S hb Q hQ
    simp only [trC, Option.some.injEq] at htr
    subst htr
    simp only [exec, Option.some.injEq, Prod.mk.injEq] at hex
    obtain ⟨rfl, rfl⟩ := hex
    exact wp_ret (hQ _ _ _ (Le.refl _ _) S (Quiet.refl _ _ _) hb)
  | _ => intro xc htr; simp [trC] at htr

theorem res_ok {g : Gh} {w : World} {a : Act} {st : St} (S : Sim g w a st) : ∀ {l : List ResultVar} {rs : List XR} {vs : List V}, trR P l = some rs → resAll st rs = some vs →
    ∃ xs : List Value, (l.mapM fun | .tmp t => pure (a.tmps.getD t undef) | .cell b t => do loadVar t (← asAddr (a.tmps.getD b undef)) : Sem (List Value)).run P w = .ok xs w ∧ xs.length = vs.length ∧ ∀ i (hi : i < xs.length) (hj : i < vs.length), Rep g w xs[i] vs[i]
  | [], rs, vs, h1, h2 => by
    simp only [trR, Option.some.injEq] at h1
    subst h1
    simp only [resAll, Option.some.injEq] at h2
    subst h2
    exact ⟨[], by simp, rfl, fun i hi => absurd hi (by simp)⟩
  | .tmp t :: l, rs, vs, h1, h2 => by
    simp only [trR, Option.map_eq_some_iff] at h1
    obtain ⟨rs', h3, rfl⟩ := h1
    simp only [resAll, resV] at h2
    split at h2
    · rename_i v vs' k1 k2
      simp only [Option.some.injEq] at h2
      subst h2
      obtain ⟨xs, r1, r2, r3⟩ := res_ok S h3 k2
      obtain ⟨hlt, rfl⟩ := List.getElem?_eq_some_iff.1 k1
      have hlt' : t < a.tmps.size := by rw [S.tm.1]; exact hlt
      refine ⟨a.tmps[t] :: xs, ?_, by simp [r2], fun i hi hj => ?_⟩
      · simp only [List.mapM_cons, Sem.run_bind, Sem.run_pure, Result.andThen_ok, r1, Array.getD, hlt', dif_pos]
        rfl
      · cases i with
        | zero => exact S.tm.2 t hlt' hlt
        | succ i => exact r3 i (by simpa using hi) (by simpa using hj)
    · cases h2
  | .cell t ty :: l, rs, vs, h1, h2 => by
    simp only [trR] at h1
    split at h1
    · rename_i n rs' hn h3
      simp only [Option.some.injEq] at h1
      subst h1
      simp only [resAll, resV] at h2
      split at h2
      · rename_i v vs' k1 k2
        simp only [Option.some.injEq] at h2
        subst h2
        obtain ⟨xs, r1, r2, r3⟩ := res_ok S h3 k2
        split at k1
        · rename_i id o hid
          split at k1
          · rename_i cs hcs
            obtain ⟨hlt, he⟩ := List.getElem?_eq_some_iff.1 hid
            have hlt' : t < a.tmps.size := by rw [S.tm.1]; exact hlt
            have hr := S.tm.2 t hlt' hlt
            rw [he] at hr
            obtain ⟨b, hX, hb⟩ := hr.of_ref
            obtain ⟨cs0, c, T, c1, c2, c3, c4, c5⟩ := S.hk.cells _ _ hb
            have hcs0 : cs0 = cs := by rw [hcs] at c1; simp at c1; exact c1.symm
            subst hcs0
            obtain ⟨y, h6, h7⟩ := load_cells (P := P) (b := b) (o0 := 0) hn (f := fun j => c.getD j undef) (fun j hj => by
              have hj2 : j < c.size := by omega
              have e1 : c.getD j undef = c[j] := by simp [Array.getD, hj2]
              rw [Nat.zero_add, cell_of c2]
              simp only [e1]
              exact ⟨by simp [hj2], (c4 j hj hj2).2⟩) (fun j hj => by
              have hj2 : j < c.size := by omega
              have e1 : c.getD j undef = c[j] := by simp [Array.getD, hj2]
              simp only [e1]
              exact (c4 j hj hj2).1) k1
            rw [Nat.zero_add] at h6
            refine ⟨y :: xs, ?_, by simp [r2], fun i hi hj => ?_⟩
            · have e2 : a.tmps.getD t undef = .pointer (some ⟨b, o, none⟩) := by simp [Array.getD, hlt', hX]
              have e3 : (asAddr (a.tmps.getD t undef)).run P w = .ok ⟨b, o, none⟩ w := by rw [e2]; rfl
              simp only [List.mapM_cons, Sem.run_bind, e3, Sem.run_pure, Result.andThen_ok, h6, r1]
            · cases i with
              | zero => exact h7
              | succ i => exact r3 i (by simpa using hi) (by simpa using hj)
          · cases k1
        · cases k1
      · cases h2
    · cases h1

theorem results_ok {g : Gh} {w : World} {a : Act} {st : St} (S : Sim g w a st) {fn : Func} {rs : List XR} {vs : List V} (h1 : trR P fn.results.toList = some rs) (h2 : resAll st rs = some vs) :
    ∃ x, (results fn a.tmps).run P w = .ok x w ∧ Rep g w x (resOf vs) := by
  obtain ⟨xs, r1, r2, r3⟩ := res_ok S h1 h2
  have e : (results fn a.tmps).run P w = .ok (if h : xs.toArray.size = 1 then xs.toArray[0] else .tuple xs.toArray) w := by
    unfold results
    rw [Array.mapM_eq_mapM_toList]
    simp only [map_eq_pure_bind, bind_assoc, pure_bind, Sem.run_bind]
    erw [r1]
    rfl
  refine ⟨_, e, ?_⟩
  cases xs with
  | nil =>
    cases vs with
    | nil => exact .tup _ _ rfl (fun i hi => absurd hi (by simp))
    | cons v vs => simp at r2
  | cons x xs =>
    cases vs with
    | nil => simp at r2
    | cons v vs =>
      cases xs with
      | nil =>
        cases vs with
        | nil => exact r3 0 (by simp) (by simp)
        | cons v2 vs => simp at r2
      | cons x2 xs =>
        cases vs with
        | nil => simp at r2
        | cons v2 vs =>
          simp only [List.size_toArray, List.length_cons, resOf]
          rw [dif_neg (by omega)]
          exact .tup _ _ (by simpa using r2) (fun i hi hj => by simpa using r3 i (by simpa using hi) (by simpa using hj))
end
end Go.Proofs.Ytbkgpdkimcnpgaa.Ab
