/- One operation with its guard, calls too; regions in the order of the text. -/
import Derived.Test.YtkiliokeanmagaaDoorAb9
import Derived.RangeFuncLeaves
import Derived.RangeFuncRecord
import Derived.TacticsIn
import Derived.OrdersIn
import Derived.Sort.LoopGhostIn
namespace Go.Proofs.YtkiliokeanmagaaDoor.Ab
open Go
set_option linter.unusedVariables false
set_option linter.unusedSimpArgs false

/-- What calls do. -/
def CallAt (P : Program) (f : Nat) (args : List V) (h : List O) (r : V) (h' : List O) : Prop :=
  ∀ g w (cargs : Array Value), HOk g w h → cargs.size = args.length → (∀ i (hi : i < cargs.size) (hj : i < args.length), Rep g w cargs[i] args[i]) →
    Calls P f cargs w (fun e w' => ∃ v g', e = .returned v ∧ Le g w g' w' ∧ HOk g' w' h' ∧ Rep g' w' v r ∧ Quiet (Frb h.length h) g h g' h')
def Walked (P : Program) (f : Nat) : Prop := ∃ fn, P.funcs[f]? = some fn ∧ (fn.name == "runtime.NumGoroutine") = false ∧ fn.body.isNone = false
/-- What a round does: 'yield' is called. -/
def RoundAt (P : Program) (y : Nat) (args : List V) (h : List O) (r : V) (h' : List O) : Prop :=
  ∀ (k : Nat) (vs caps : List V), args = .c (.int .i64 k) :: (vs ++ caps) → ∀ g w l (tmps cvs : Array Value), HOk g w h → g.blk k = some l → LoopAt w l y vs.length tmps → tmps.size = caps.length →
    (∀ i (hi : i < tmps.size) (hj : i < caps.length), Rep g w tmps[i] caps[i]) → cvs.size = vs.length → (∀ i (hi : i < cvs.size) (hj : i < vs.length), Rep g w cvs[i] vs[i]) →
    ∃ fn tm' asg body, (Instr.yield l cvs).run P w = .ok (.round l fn tm' asg body) w ∧ RoundIn Fence.wide 0 P l fn tm' asg body w
      (fun e w' => ∃ v g', e = .returned v ∧ Le g w g' w' ∧ HOk g' w' h' ∧ Rep g' w' v r ∧ Quiet (Frb h.length h) g h g' h')
def CallOk (P : Program) (cf : CallF) : Prop := ∀ f args h r h', cf f args h = some (r, h') → (f < rid → Walked P f ∧ CallAt P f args h r h') ∧ (rid ≤ f → RoundAt P f args h r h')

/-- The fence that lets all by, in a round or in none. -/
def FR (ρ : Option Nat) : Fence := { Fence.wide with round := ρ }
theorem calls_FR {P : Program} {ρ : Option Nat} {n f : Nat} {args : Array Value} {w : World} {R : Ending → World → Prop} (h : Calls P f args w R) : CallsIn (FR ρ) n P f args w R :=
  (callsIn_wide (n := n)).2 h
theorem round_FR {P : Program} {ρ : Option Nat} {n m l f : Nat} {tmps : Array Value} {a b : Code} {w : World} {R : Ending → World → Prop} (h : RoundIn Fence.wide m P l f tmps a b w R) : RoundIn (FR ρ) n P l f tmps a b w R :=
  ⟨trivial, fun c cs _ => h.2 c cs (room_wide _)⟩

def trG (ops : Array Oper) : Option (Nat × Bool) → Option (Option (Nat × Bool))
  | none => some none
  | some (j, b) => match (ops[j]?).bind (·.dst) with
    | some t => some (some (t, b))
    | none => none
def trOper (P : Program) (rw : Bool) (ops : Array Oper) (al : Nat) (o : Oper) : Option (XOper × List O) :=
  match trOp P rw al o.op, trG ops o.guard with
  | some (x, pre), some g => some (⟨o.dst, x, g⟩, pre)
  | _, _ => none

structure Sim (ds : List Deferred) (g : Gh) (w : World) (a : Act) (st : St) : Prop where
  tm : Tm g w a st.tm
  hk : HOk g w st.h
  df : a.defers = ds

/-- The objects of an operation are new yet. -/
def Fresh (g : Gh) (h : List O) (s : Nat) (pre : List O) : Prop := pre ≠ [] → g.blk s = none ∧ g.tok s = none ∧ ∀ p ∈ pre, h[s]? = some p

section
variable {P : Program} {g g' : Gh} {w w' : World} {a : Act} {tm : List V} {ds : List Deferred} {ρ : Option Nat} {nn : Nat}

theorem Tm.mono (hle : Le g w g' w') (ht : Tm g w a tm) : Tm g' w' a tm := ⟨ht.1, fun i hi hj => (ht.2 i hi hj).mono hle, fun n v e => (ht.3 n v e).mono hle⟩
theorem Tm.put (ht : Tm g w a tm) {d : Option Nat} {x : Value} {v : V} (hr : Rep g w x v) : Tm g w (a.put d x) (putV tm d v) := by
  cases d with
  | none => exact ht
  | some d =>
    refine ⟨by simp [Act.put, putV, ht.1], fun i hi hj => ?_, ht.3⟩
    simp only [Act.put, putV] at hi hj ⊢
    rw [Array.getElem_setIfInBounds, List.getElem_set]
    split
    · exact hr
    · exact ht.2 i (by simpa using hi) (by simpa using hj)

theorem wants_ok (ht : Tm g w a tm) {ops : Array Oper} {o : Oper} {gd : Option (Nat × Bool)} (hg : trG ops o.guard = some gd) (hk : known tm gd = true) : Region.wanted o (yielded ops a.tmps) = wants tm gd := by
  unfold Region.wanted
  cases hgd : o.guard with
  | none => rw [hgd] at hg; simp only [trG, Option.some.injEq] at hg; subst hg; rfl
  | some p =>
    obtain ⟨j, b⟩ := p
    rw [hgd] at hg
    simp only [trG] at hg
    split at hg
    · rename_i t hdst
      simp only [Option.some.injEq] at hg
      subst hg
      simp only [wants, yielded, hdst, Option.bind_some]
      by_cases hi : t < tm.length
      · have hi' : t < a.tmps.size := by rw [ht.1]; exact hi
        have hr := ht.2 t hi' hi
        simp only [known] at hk
        rw [List.getElem?_eq_getElem hi] at hk ⊢
        rw [Array.getElem?_eq_getElem hi']
        generalize a.tmps[t] = x at hr
        generalize tm[t] = v at hr hk
        cases hr with
        | c x => cases x <;> simp
        | top x => simp at hk
        | _ => simp
      · have hi' : ¬ t < a.tmps.size := by rw [ht.1]; exact hi
        rw [List.getElem?_eq_none (Nat.le_of_not_lt hi), Array.getElem?_eq_none (Nat.le_of_not_lt hi')]
        simp
    · cases hg

/-- An operation of the interpreter, as the walk wants it. -/
theorem wp_of_act {o : Oper} {al : Nat} {x : XOp} {pre : List O} {rw : Bool} (htr : trOp P rw al o.op = some (x, pre)) {st : St} (ht : Tm g w a st.tm) (H : HOk g w st.h) {cf : CallF} {v : V} {h' : List O} (hact : act cf st x = some (v, h'))
    (hcf : CallOk P cf) (hfr : Fresh g st.h (st.rb + al) pre) {K : Act → World → Prop} {Q : Exit → Act → World → Prop}
    (hK : ∀ val w' g', Le g w g' w' → HOk g' w' h' → Rep g' w' val v → Quiet (fun id => (pre ≠ [] ∧ id = st.rb + al) ∨ Frb st.h.length st.h id) g st.h g' h' → K (a.put o.dst val) w') : o.wpIn (FR ρ) nn P a w K Q := by
  have hsem : Oper.semAt (FR ρ).round a.eval o = execOp a.eval o := Oper.semAt_eq _ _ _ fun c hc => by rw [hc] at htr; simp [trOp] at htr
  have hdep : ¬ (FR ρ).depth.isSome = true := by simp [FR, Fence.wide]
  cases hc : isCall x with
  | false =>
    obtain ⟨val, w', g', h1, h2, h3, h4, h5⟩ := act_ok htr ht H hact hc (fun hne => ⟨(hfr hne).1, (hfr hne).2.1⟩) (fun _ p hp => (hfr (List.ne_nil_of_mem hp)).2.2 p hp)
    unfold Oper.wpIn
    refine ⟨fun _ _ => trivial, ?_⟩
    rw [hsem]
    rcases h1 with h1 | ⟨h1, rfl⟩
    · rw [h1]; exact hK _ _ _ h2 h3 h4 (h5.mono fun _ h => h.imp (fun h => h) .inr)
    · rw [h1]; exact hK _ _ _ h2 h3 h4 (h5.mono fun _ h => h.imp (fun h => h) .inr)
  | true =>
    cases x with
    | call fa xas =>
      obtain ⟨c, hop, hval⟩ : ∃ c, o.op = .call c ∧ trCall P rw al c = some (.call fa xas, pre) := by
        cases hop : o.op <;> rw [hop] at htr <;> (try simp only [trOp] at htr)
        case call c => exact ⟨c, rfl, htr⟩
        case makeMap t r =>
          exfalso
          cases r <;> simp [trOp] at htr
        case makeFunc fn first caps =>
          exfalso
          cases fn <;> simp only [trOp] at htr
          all_goals (repeat' split at htr)
          all_goals simp [Option.map_eq_some_iff] at htr
        all_goals (first
          | (cases htr; done)
          | (simp only [Option.map_eq_some_iff, Prod.mk.injEq, reduceCtorEq, false_and, and_false, exists_false] at htr; done)
          | (exfalso; repeat' split at htr
             all_goals simp [Option.map_eq_some_iff] at htr))
      obtain ⟨cal, args, tys⟩ := c
      have hv : ∃ F, cal = .value F ∧ trA F = some fa ∧ trAL args.toList = some xas := by
        cases cal with
        | value F =>
          simp only [trCall] at hval
          split at hval
          · rename_i f' xas' h1 h2
            simp only [Option.some.injEq, Prod.mk.injEq, XOp.call.injEq] at hval
            obtain ⟨⟨rfl, rfl⟩, _⟩ := hval
            exact ⟨F, rfl, h1, h2⟩
          · cases hval
        | invoke r m => simp [trCall] at hval
        | builtin b =>
          exfalso
          cases b <;> simp only [trCall] at hval
          all_goals (first
            | (cases hval; done)
            | (simp only [Option.map_eq_some_iff, Prod.mk.injEq, reduceCtorEq, false_and, and_false, exists_false] at hval; done)
            | (simp only [trLen, trApp] at hval
               repeat' split at hval
               all_goals simp [Option.map_eq_some_iff] at hval))
      obtain ⟨F, rfl, hF, has⟩ := hv
      obtain ⟨hl, hr⟩ := trAL_rep ht has
      have hFr := ev_rep ht hF
      simp only [act] at hact
      have fnCase : ∀ (fv : V), ev st.tm fa = fv → callFn cf fv (xas.map (ev st.tm)) st.h = some (v, h') → o.wpIn (FR ρ) nn P a w K Q := by
        intro fv hfv hact
        rw [hfv] at hFr
        unfold callFn at hact
        split at hact
        · rename_i f caps hcal
          split at hact
          rotate_left
          · cases hact
          rename_i hfr0
          obtain ⟨hcall, hlen⟩ := longer_some hact
          obtain ⟨⟨fn, hfn, hnm, hbody⟩, hat⟩ := (hcf _ _ _ _ _ hcall).1 hfr0
          obtain ⟨cv, hFv, hcs, hcr⟩ : ∃ cv : Array Value, a.eval F = .func (.func f) #[] cv ∧ cv.size = caps.length ∧ ∀ i (hi : i < cv.size) (hj : i < caps.length), Rep g w cv[i] caps[i] := by
            unfold callee at hcal
            split at hcal
            · split at hcal
              · rename_i hpq
                simp only [Option.some.injEq, Prod.mk.injEq] at hcal
                obtain ⟨rfl, rfl⟩ := hcal
                obtain ⟨h1, h2⟩ := hpq
                rw [Array.eq_empty_of_size_eq_zero h1, Array.eq_empty_of_size_eq_zero h2] at hFr
                exact ⟨#[], hFr.of_c, rfl, fun i hi => absurd hi (by simp)⟩
              · cases hcal
            · simp only [Option.some.injEq, Prod.mk.injEq] at hcal
              obtain ⟨rfl, rfl⟩ := hcal
              exact hFr.of_clo
            · cases hcal
          have hrun : (execOp a.eval o).run P w = .ok (.enter f (args.map a.eval ++ cv)) w := by
            simp only [execOp, hop, resolve, Sem.run_bind, hFv, Deferred.ofValue, Sem.run_pure, Result.andThen_ok, invoke, callFunc]
            have n1 : ¬ fn.name = "runtime.NumGoroutine" := by simpa using hnm
            have n2 : ¬ fn.body = none := by intro h; rw [h] at hbody; simp at hbody
            simp [hfn, n1, n2]
          unfold Oper.wpIn
          refine ⟨fun _ _ => trivial, ?_⟩
          rw [hsem, hrun, Oper.uponIn_enter]
          refine ⟨fun h => absurd h hdep, calls_FR (Calls.mono (hat g w _ H (by simp [hcs]; simpa using hl) fun i hi hj => ?_) ?_)⟩
          · rw [Array.getElem_append, List.getElem_append]
            have e1 : (args.map a.eval).size = (xas.map (ev st.tm)).length := by simpa using hl
            simp only [e1]
            split
            · rename_i hlt
              have h1 : i < args.toList.length := by rw [hl]; simpa using hlt
              have := hr i h1 (by simpa using hlt)
              simpa using this
            · exact hcr _ _ _
          · rintro e w' ⟨v, g', rfl, h1, h2, h3, h4⟩
            exact hK _ _ _ h1 h2 h3 (h4.mono fun _ h => .inr h)
        · cases hact
      unfold callV at hact
      split at hact
      · rename_i k y m caps hfv
        split at hact
        rotate_left
        · cases hact
        rename_i hyr
        obtain ⟨hyr, hym⟩ := hyr
        obtain ⟨hcall, hlen⟩ := longer_some hact
        have hat := (hcf _ _ _ _ _ hcall).2 hyr
        rw [hfv] at hFr
        obtain ⟨x0, hx0⟩ : ∃ x0, a.eval F = x0 := ⟨_, rfl⟩
        rw [hx0] at hFr
        cases hFr with
        | yld l _ _ _ tmps _ hb hla hn hrep =>
          obtain ⟨fn, tm', asg, body, hy, hR⟩ := hat k (xas.map (ev st.tm)) caps rfl g w l tmps (args.map a.eval) H hb (by rw [hym]; exact hla) hn hrep (by simpa using hl) (fun i hi hj => by
            have h1 : i < args.toList.length := by simpa using hi
            have := hr i h1 (by simpa using hj)
            simpa using this)
          have hrun : (execOp a.eval o).run P w = .ok (.round l fn tm' asg body) w := by
            simp only [execOp, hop, resolve, Sem.run_bind, hx0, Deferred.ofValue, Sem.run_pure, Result.andThen_ok, invoke, Array.empty_append, hy]
          unfold Oper.wpIn
          refine ⟨fun _ _ => trivial, ?_⟩
          rw [hsem, hrun, Oper.uponIn_round]
          refine ⟨fun h => absurd h hdep, round_FR (RoundIn.mono hR ?_)⟩
          rintro e w' ⟨v, g', rfl, h1, h2, h3, h4⟩
          exact hK _ _ _ h1 h2 h3 (h4.mono fun _ h => .inr h)
      · exact fnCase _ rfl hact
    | _ => simp [isCall] at hc

theorem step_op {ops : Array Oper} {o : Oper} {al : Nat} {x : XOper} {pre : List O} {rw : Bool} (htr : trOper P rw ops al o = some (x, pre)) {st st' : St} {cf : CallF} (hs : stepO cf x st = some st') (hcf : CallOk P cf) (S : Sim ds g w a st) (hfr : Fresh g st.h (st.rb + al) pre)
    {K : Act → World → Prop} {Q : Exit → Act → World → Prop}
    (hK : ∀ a' w' g', Le g w g' w' → Sim ds g' w' a' st' → Quiet (fun id => (pre ≠ [] ∧ id = st.rb + al) ∨ Frb st.h.length st.h id) g st.h g' st'.h → K a' w') :
    if Region.wanted o (yielded ops a.tmps) then o.wpIn (FR ρ) nn P a w K Q else K (a.put o.dst undef) w := by
  unfold trOper at htr
  split at htr
  · rename_i x' pre' gd h1 h2
    simp only [Option.some.injEq, Prod.mk.injEq] at htr
    obtain ⟨rfl, rfl⟩ := htr
    unfold stepO at hs
    simp only at hs
    split at hs
    rotate_left
    · cases hs
    rename_i hkn
    rw [wants_ok S.tm h2 hkn]
    split at hs
    · rename_i hw
      rw [if_pos hw]
      split at hs
      · rename_i v h' hact
        simp only [Option.some.injEq] at hs
        subst hs
        refine wp_of_act h1 S.tm S.hk hact hcf hfr fun val w' g' k1 k2 k3 k4 => hK _ _ _ k1 ⟨(S.tm.mono k1).put k3, k2, ?_⟩ k4
        cases o.dst <;> exact S.df
      · cases hs
    · rename_i hw
      rw [if_neg hw]
      simp only [Option.some.injEq] at hs
      subst hs
      refine hK _ _ _ (Le.refl _ _) ⟨S.tm.put (.c _), S.hk, ?_⟩ (Quiet.refl _ _ _)
      cases o.dst <;> exact S.df
  · cases htr

theorem act_len {cf : CallF} {st : St} {x : XOp} {v : V} {h' : List O} (hact : act cf st x = some (v, h')) : st.h.length ≤ h'.length := by
  cases x
  case load n x =>
    simp only [act] at hact
    split at hact
    · split at hact
      · simp only [Option.map_eq_some_iff, Prod.mk.injEq] at hact
        obtain ⟨_, _, _, rfl⟩ := hact
        exact Nat.le_refl _
      · cases hact
    · simp only [Option.map_eq_some_iff, Prod.mk.injEq] at hact
      obtain ⟨_, _, _, rfl⟩ := hact
      exact Nat.le_refl _
    · cases hact
  case store n a x =>
    simp only [act] at hact
    split at hact
    · split at hact
      · split at hact
        · simp only [Option.some.injEq, Prod.mk.injEq] at hact; rw [← hact.2]; simp
        · cases hact
      · cases hact
    · split at hact
      · split at hact
        · simp only [Option.some.injEq, Prod.mk.injEq] at hact; rw [← hact.2]; simp
        · cases hact
      · cases hact
    · cases hact
  case box al x =>
    simp only [act] at hact
    split at hact
    · split at hact
      · simp only [Option.some.injEq, Prod.mk.injEq] at hact; rw [← hact.2]; simp
      · cases hact
    · cases hact
  case append al z b rw x y =>
    simp only [act] at hact
    split at hact
    · split at hact
      · split at hact
        · simp only [Option.some.injEq, Prod.mk.injEq] at hact; rw [← hact.2]; exact Nat.le_refl _
        · split at hact
          · split at hact
            · split at hact
              · split at hact <;> (simp only [Option.some.injEq, Prod.mk.injEq] at hact; rw [← hact.2]; simp)
              · simp only [Option.some.injEq, Prod.mk.injEq] at hact; rw [← hact.2]; simp
            · split at hact
              · cases hact
              · simp only [Option.some.injEq, Prod.mk.injEq] at hact; rw [← hact.2]; simp
            · cases hact
          · split at hact
            · split at hact
              · split at hact <;> (simp only [Option.some.injEq, Prod.mk.injEq] at hact; rw [← hact.2]; simp)
              · simp only [Option.some.injEq, Prod.mk.injEq] at hact; rw [← hact.2]; simp
            · split at hact
              · cases hact
              · simp only [Option.some.injEq, Prod.mk.injEq] at hact; rw [← hact.2]; simp
            · cases hact
          · split at hact
            · split at hact
              · simp only [Option.some.injEq, Prod.mk.injEq] at hact; rw [← hact.2]; simp
              · cases hact
            · cases hact
          all_goals cases hact
      · cases hact
    · split at hact
      · split at hact
        · simp only [Option.some.injEq, Prod.mk.injEq] at hact; rw [← hact.2]; exact Nat.le_refl _
        · split at hact
          · split at hact
            · simp only [Option.some.injEq, Prod.mk.injEq] at hact; rw [← hact.2]; simp
            · cases hact
          · cases hact
      · cases hact
    · cases hact
  case makeMap al =>
    simp only [act] at hact
    split at hact
    · simp only [Option.some.injEq, Prod.mk.injEq] at hact; rw [← hact.2]; simp
    · cases hact
  case lookup z ok x k =>
    simp only [act] at hact
    split at hact
    · simp only [Option.map_eq_some_iff, Prod.mk.injEq] at hact
      obtain ⟨_, _, _, rfl⟩ := hact
      exact Nat.le_refl _
    · split at hact
      · simp only [Option.map_eq_some_iff, Prod.mk.injEq] at hact
        obtain ⟨_, _, _, rfl⟩ := hact
        exact Nat.le_refl _
      · cases hact
    · cases hact
  case mapUpd m k u =>
    simp only [act] at hact
    split at hact
    · split at hact
      · simp only [Option.map_eq_some_iff, Prod.mk.injEq] at hact
        obtain ⟨_, _, _, rfl⟩ := hact
        simp
      · cases hact
    · cases hact
  case load1 x =>
    simp only [act] at hact
    repeat' split at hact
    all_goals first | (cases hact; done) | (simp only [Option.some.injEq, Prod.mk.injEq] at hact; rw [← hact.2]; exact Nat.le_refl _)
  case call f args =>
    simp only [act, callV, callFn] at hact
    repeat' split at hact
    all_goals first | (cases hact; done) | exact (longer_some hact).2
  all_goals
    simp only [act, Option.map_eq_some_iff, Prod.mk.injEq] at hact
    obtain ⟨_, _, _, rfl⟩ := hact
    exact Nat.le_refl _
theorem step_len {cf : CallF} {x : XOper} {st st1 : St} (h : stepO cf x st = some st1) : st.h.length ≤ st1.h.length := by
  unfold stepO at h
  split at h
  rotate_left
  · cases h
  split at h
  · split at h
    · rename_i hact
      simp only [Option.some.injEq] at h
      rw [← h]
      exact act_len hact
    · cases h
  · simp only [Option.some.injEq] at h; rw [← h]; exact Nat.le_refl _

/-- Not for anybody. -/
def O.owned : O → Bool
  | .free => false
  | _ => true
/-- A region's operations; the objects of each follow one another. -/
def trOps (P : Program) (rw : Bool) (ops : Array Oper) : List Oper → Nat → Option (List XOper × List O)
  | [], _ => some ([], [])
  | o :: r, al => match trOper P rw ops al o with
    | some (x, pre) => if pre.length ≤ 1 ∧ pre.all O.owned = true then match trOps P rw ops r (al + pre.length) with
        | some (xs, pres) => some (x :: xs, pre ++ pres)
        | none => none
      else none
    | none => none

theorem trOps_owned {rw : Bool} {ops : Array Oper} : ∀ (l : List Oper) (al : Nat) (xs : List XOper) (pres : List O), trOps P rw ops l al = some (xs, pres) → pres.all O.owned = true
  | [], al, xs, pres, h => by
    simp only [trOps, Option.some.injEq, Prod.mk.injEq] at h
    rw [← h.2]
    rfl
  | o :: l, al, xs, pres, h => by
    simp only [trOps] at h
    split at h
    · split at h
      · rename_i hpl
        split at h
        · rename_i xs' pres' h2
          simp only [Option.some.injEq, Prod.mk.injEq] at h
          rw [← h.2, List.all_append, hpl.2, trOps_owned l _ _ _ h2]
          rfl
        · cases h
      · cases h
    · cases h
theorem list_ok {rw : Bool} {ops : Array Oper} {cf : CallF} (hcf : CallOk P cf) {Q : Exit → Act → World → Prop} {st' : St} : ∀ (l : List Oper) (al : Nat) (xs : List XOper) (pres : List O) (g : Gh) (w : World) (a : Act) (st : St),
    trOps P rw ops l al = some (xs, pres) → runOps cf xs st = some st' → Sim ds g w a st → (∀ j (hj : j < pres.length), g.blk (st.rb + al + j) = none ∧ g.tok (st.rb + al + j) = none ∧ st.h[st.rb + al + j]? = some pres[j]) →
    st.rb ≤ st.h.length → (∀ a' w' g', Le g w g' w' → Sim ds g' w' a' st' → Quiet (Frb st.rb st.h) g st.h g' st'.h → Q .normal a' w') → wpListIn (FR ρ) nn P ops Q l a w
  | [], al, xs, pres, g, w, a, st, htr, hs, S, hfr, hrl, hQ => by
    simp only [trOps, Option.some.injEq, Prod.mk.injEq] at htr
    obtain ⟨rfl, rfl⟩ := htr
    simp only [runOps, Option.some.injEq] at hs
    subst hs
    exact hQ _ _ _ (Le.refl _ _) S (Quiet.refl _ _ _)
  | o :: l, al, xs, pres, g, w, a, st, htr, hs, S, hfr, hrl, hQ => by
    simp only [trOps] at htr
    split at htr
    · rename_i x pre h1
      split at htr
      · rename_i hpl
        split at htr
        · rename_i xs' pres' h2
          simp only [Option.some.injEq, Prod.mk.injEq] at htr
          obtain ⟨rfl, rfl⟩ := htr
          simp only [runOps] at hs
          split at hs
          · rename_i st1 hs1
            have hrb : st1.rb = st.rb := by
              unfold stepO at hs1
              split at hs1
              rotate_left
              · cases hs1
              split at hs1
              · split at hs1
                · simp only [Option.some.injEq] at hs1; rw [← hs1]
                · cases hs1
              · simp only [Option.some.injEq] at hs1; rw [← hs1]
            have hf0 : Fresh g st.h (st.rb + al) pre := by
              intro hne
              cases pre with
              | nil => exact absurd rfl hne
              | cons p r =>
                have hr : r = [] := by cases r with
                  | nil => rfl
                  | cons q r => simp at hpl
                subst hr
                have := hfr 0 (by simp)
                simpa using this
            have := step_op (ρ := ρ) (nn := nn) (K := wpListIn (FR ρ) nn P ops Q l) (Q := Q) h1 hs1 hcf S hf0 fun a' w' g' k1 k2 k3 => by
              refine list_ok hcf l _ _ _ g' w' a' st1 h2 hs k2 (fun j hj => ?_) (by rw [hrb]; exact Nat.le_trans hrl (step_len hs1)) fun a'' w'' g'' m1 m2 m3 => hQ _ _ _ (k1.trans m1) m2 ((k3.mono (E' := Frb st.rb st.h) fun id hid => hid.elim (fun h => .inl (by have := h.2; omega)) fun h => h.imp (fun h => Nat.le_trans hrl h) fun h => h).transL k2.hk k1 (by rw [← hrb]; exact m3))
              have q := hfr (pre.length + j) (by simp; omega)
              have e : st.rb + al + (pre.length + j) = st.rb + (al + pre.length) + j := by omega
              rw [e] at q
              have hin := (List.getElem?_eq_some_iff.1 q.2.2).1
              have hown : O.owned pres'[j] = true := List.all_eq_true.1 (trOps_owned l _ _ _ h2) _ (List.getElem_mem hj)
              have hne : ¬ ((pre ≠ [] ∧ st.rb + (al + pre.length) + j = st.rb + al) ∨ Frb st.h.length st.h (st.rb + (al + pre.length) + j)) := by
                rintro (⟨n1, n2⟩ | n | n)
                · cases pre with
                  | nil => exact n1 rfl
                  | cons p r => simp at n2; omega
                · omega
                · rw [q.2.2] at n
                  simp only [List.length_append, hj, List.getElem_append_right, Nat.le_add_right, Nat.add_sub_cancel_left, Option.some.injEq] at n
                  rw [n] at hown
                  cases hown
              have k := k3 _ hne
              rw [hrb]
              refine ⟨k.1 q.1, k.2.1 q.2.1, (k.2.2 q.1 q.2.1).trans ?_⟩
              rw [q.2.2]
              simp
            unfold wpListIn
            split
            · rename_i hw; rw [if_pos hw] at this; exact this
            · rename_i hw; rw [if_neg hw] at this; exact ⟨fun _ _ => trivial, this⟩
          · cases hs
        · cases htr
      · cases htr
    · cases htr
end
end Go.Proofs.YtkiliokeanmagaaDoor.Ab
