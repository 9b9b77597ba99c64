/- The region that steps to a kid. -/
import Derived.Test.YtkiliokeanmagaaDoorAb21
namespace Go.Proofs.YtkiliokeanmagaaDoor.Ab
open Go
set_option linter.unusedVariables false
set_option linter.unusedSimpArgs false
section
variable {P : Program} {ds : List Deferred}

theorem load_same {rw : Bool} {al : Nat} {o : Oper} {n : Option Nat} {x : A} {pre : List O} (htr : trOp P rw al o.op = some (.load n x, pre)) {g : Gh} {w : World} {a : Act} {st : St} (ht : Tm g w a st.tm) (H : HOk g w st.h) {cf : CallF} {v : V} {h' : List O}
    (hact : act cf st (.load n x) = some (v, h')) : h' = st.h ∧ PureOk P g w a o v := by
  obtain ⟨t, X, ho, hn, hx⟩ : ∃ t X, o.op = .load t X ∧ nT P t = some n ∧ trA X = some x := by
    cases hop : o.op <;> rw [hop] at htr <;> (try simp only [trOp] at htr)
    case load t X =>
      split at htr
      · rename_i n' x' hn hx
        simp only [Option.some.injEq, Prod.mk.injEq, XOp.load.injEq] at htr
        obtain ⟨⟨rfl, rfl⟩, _⟩ := htr
        exact ⟨t, X, rfl, hn, hx⟩
      · cases htr
    case call c =>
      exfalso
      obtain ⟨cal, args, tys⟩ := c
      cases cal with
      | invoke r m => simp [trCall] at htr
      | value F => simp only [trCall] at htr; split at htr <;> simp at htr
      | builtin b =>
        cases b <;> simp only [trCall, trLen, trApp] at htr
        all_goals (first
          | (cases htr; done)
          | (simp only [Option.map_eq_some_iff, Prod.mk.injEq, reduceCtorEq, false_and, and_false, exists_false] at htr; done)
          | (repeat' split at htr
             all_goals simp [Option.map_eq_some_iff] at htr))
    case makeMap t r => exfalso; cases r <;> simp [trOp] at htr
    case makeFunc fn first caps =>
      exfalso
      cases fn <;> simp only [trOp] at htr
      all_goals (repeat' split at htr)
      all_goals simp [Option.map_eq_some_iff] at htr
    all_goals (exfalso; first
      | (cases htr; done)
      | (simp only [Option.map_eq_some_iff, Prod.mk.injEq, reduceCtorEq, false_and, and_false, exists_false] at htr; done)
      | (repeat' split at htr
         all_goals simp [Option.map_eq_some_iff] at htr))
  simp only [act] at hact
  have hr := ev_rep ht hx
  cases he : ev st.tm x with
  | ref id off =>
    rw [he] at hr hact
    simp only at hact
    split at hact
    · rename_i cs hcs
      simp only [Option.map_eq_some_iff, Prod.mk.injEq] at hact
      obtain ⟨v', hv, rfl, rfl⟩ := hact
      obtain ⟨b, hX, hb⟩ := hr.of_ref
      obtain ⟨cs0, c, T, h1, h2, h3, h4, h5⟩ := H.cellsOf hb hcs
      have hcs0 : cs0 = cs := by rw [hcs] at h1; simp at h1; exact h1.symm
      subst hcs0
      obtain ⟨y, h6, h7⟩ := load_cells (P := P) (b := b) (o0 := 0) hn (f := fun j => c.getD j undef) (fun j hj => by
        have hj2 : j < c.size := by omega
        have e1 : c.getD j undef = c[j] := by simp [Array.getD, hj2]
        rw [Nat.zero_add, cell_of h2]
        simp only [e1]
        exact ⟨by simp [hj2], (h4 j hj hj2).2⟩) (fun j hj => by
        have hj2 : j < c.size := by omega
        have e1 : c.getD j undef = c[j] := by simp [Array.getD, hj2]
        simp only [e1]
        exact (h4 j hj hj2).1) hv
      rw [Nat.zero_add] at h6
      exact ⟨rfl, y, by simp [execOp, ho, Instr.loadAt, Instr.sureAddr, hX, h6], h7⟩
    · cases hact
  | ptr cs off =>
    rw [he] at hr hact
    simp only [Option.map_eq_some_iff, Prod.mk.injEq] at hact
    obtain ⟨v', hv, rfl, rfl⟩ := hact
    obtain ⟨b, o0, cv, hX, h1, h2⟩ := hr.of_ptr
    obtain ⟨y, h6, h7⟩ := load_cells (P := P) (b := b) (o0 := o0) hn (f := cv) (fun j hj => ⟨(h1 j hj).2.1, (h1 j hj).2.2⟩) h2 hv
    exact ⟨rfl, y, by simp [execOp, ho, Instr.loadAt, Instr.sureAddr, hX, h6], h7⟩
  | _ => rw [he] at hact; simp at hact

theorem call_inv {rw : Bool} {al : Nat} {op : Op} {fa : A} {xas : List A} {pre : List O} (h : trOp P rw al op = some (.call fa xas, pre)) : ∃ F args tys, op = .call ⟨.value F, args, tys⟩ ∧ trA F = some fa ∧ trAL args.toList = some xas := by
  have key : ∀ c, op = .call c → ∃ F args tys, op = .call ⟨.value F, args, tys⟩ ∧ trA F = some fa ∧ trAL args.toList = some xas := by
    rintro ⟨cal, args, tys⟩ rfl
    simp only [trOp] at h
    cases cal with
    | invoke r m => simp [trCall] at h
    | value F =>
      simp only [trCall] at h
      split at h
      · rename_i f' xas' h1 h2
        simp only [Option.some.injEq, Prod.mk.injEq, XOp.call.injEq] at h
        obtain ⟨⟨rfl, rfl⟩, _⟩ := h
        exact ⟨F, args, tys, rfl, h1, h2⟩
      · cases h
    | builtin b =>
      exfalso
      cases b <;> simp only [trCall, trLen, trApp] at h
      all_goals (first
        | (cases h; done)
        | (simp only [Option.map_eq_some_iff, Prod.mk.injEq, reduceCtorEq, false_and, and_false, exists_false] at h; done)
        | (repeat' split at h
           all_goals simp [Option.map_eq_some_iff] at h))
  cases op
  case call c => exact key c rfl
  case makeMap t r => exfalso; cases r <;> simp [trOp] at h
  case makeFunc fn first caps =>
    exfalso
    cases fn <;> simp only [trOp] at h
    all_goals (repeat' split at h)
    all_goals simp [Option.map_eq_some_iff] at h
  all_goals (exfalso; try simp only [trOp] at h)
  all_goals (first
    | (cases h; done)
    | (simp only [Option.map_eq_some_iff, Prod.mk.injEq, reduceCtorEq, false_and, and_false, exists_false] at h; done)
    | (repeat' split at h
       all_goals simp [Option.map_eq_some_iff] at h))
theorem trA_tmp {X : Operand} {t : Nat} (h : trA X = some (.t t)) : X = .tmp t := by
  cases X with
  | tmp u => simp only [trA, Option.some.injEq, A.t.injEq] at h; rw [h]
  | const v => simp only [trA] at h; split at h <;> simp at h
  | func f => simp [trA] at h
  | global n => simp [trA] at h
theorem trAL_cons {l : List Operand} {a : A} {xas : List A} (h : trAL l = some (a :: xas)) : ∃ x r, l = x :: r ∧ trA x = some a ∧ trAL r = some xas := by
  cases l with
  | nil => simp [trAL] at h
  | cons x r =>
    simp only [trAL] at h
    split at h
    · rename_i a' l' h1 h2
      simp only [Option.some.injEq, List.cons.injEq] at h
      obtain ⟨rfl, rfl⟩ := h
      exact ⟨x, r, rfl, h1, h2⟩
    · cases h
theorem trAL_nil {l : List Operand} (h : trAL l = some []) : l = [] := by
  cases l with
  | nil => rfl
  | cons x r =>
    simp only [trAL] at h
    split at h
    · simp at h
    · cases h
theorem step_tmlen {cf : CallF} {x : XOper} {st st1 : St} (h : stepO cf x st = some st1) : st1.tm.length = st.tm.length := by
  rw [step_give] at h
  simp only [Option.map_eq_some_iff] at h
  obtain ⟨r, _, rfl⟩ := h
  cases x.d <;> simp [putV]

theorem oper_inv {rw : Bool} {ops : Array Oper} {al : Nat} {o : Oper} {d : Option Nat} {x : XOp} {pre : List O} (h : trOper P rw ops al o = some (⟨d, x, none⟩, pre)) : o.dst = d ∧ o.guard = none ∧ trOp P rw al o.op = some (x, pre) := by
  unfold trOper at h
  split at h
  · rename_i x' pre' gd h1 h2
    simp only [Option.some.injEq, Prod.mk.injEq, XOper.mk.injEq] at h
    obtain ⟨⟨rfl, rfl, rfl⟩, rfl⟩ := h
    refine ⟨rfl, ?_, h1⟩
    cases hg : o.guard with
    | none => rfl
    | some p =>
      obtain ⟨j, b⟩ := p
      rw [hg] at h2
      simp only [trG] at h2
      split at h2 <;> simp at h2
  · cases h

theorem kid_drawn {pf : Nat → Nat} {F : Nat} (hF : pf F = 0) {l : List Oper} (hl : l.length = 8) (hd : drawnOk pf l (kidOps F) = true) : drawnOk (kidPf F) l (kidOps' F) = true := by
  unfold drawnOk at hd ⊢
  rw [List.all_eq_true] at hd ⊢
  intro i hi
  have := hd i hi
  rw [List.mem_range, hl] at hi
  split at this
  · rename_i o ho
    simp only [Bool.and_eq_true, List.all_eq_true, List.mem_range, Bool.or_eq_true] at this ⊢
    exact ⟨this.1, fun j hj => (this.2 j hj).imp id (kid_pairs pf F hF i j hj hi)⟩
  · cases this

theorem kid_bit {pf : Nat → Nat} {F : Nat} {l : List Oper} (hl : l.length = 8) (hd : drawnOk pf l (kidOps F) = true) {i j : Nat} (hi : i < 8) (hj : j < i) (hn : pairB pf (kidOps F) j i = false) : ((masks l []).getD i 0).testBit j = true := by
  unfold drawnOk at hd
  rw [List.all_eq_true] at hd
  have := hd i (by rw [List.mem_range, hl]; exact hi)
  split at this
  · simp only [Bool.and_eq_true, List.all_eq_true, List.mem_range, Bool.or_eq_true] at this
    rcases this.2 j hj with h | h
    · exact h
    · rw [hn] at h; cases h
  · cases this

theorem kid_region {rw : Bool} {pf : Nat → Nat} {cf : CallF} (hm : P.follows .mixedOrders = true) {F k : Nat} (hF : pf F = 0) (IH : ∀ f caps, EachAt P F cf f caps k) (hW : Walked P F) {rid : Nat} {ops : Array Oper} (htr : trOps P rw ops ops.toList 0 = some (kidOps F, [.tok 1 1, .dead]))
    (hd : drawnOk pf ops.toList (kidOps F) = true) {m : Nat} {ps : List Int} {i : Nat} {st st' : St} {g : Gh} {w : World} {a : Act} (S : Sim ds g w a st) (hml : m + 1 ≤ st.h.length) (htl : 26 < st.tm.length)
    (hrun : runOps (kidCf F m cf k ps i) (kidOps' F) { st with h := st.h ++ [.tok 1 1, .dead], rb := st.h.length } = some st') (hps : (ps.length + 1) * 8 ≤ 140737488355328)
    {Q : Exit → Act → World → Prop} (hQ : ∀ a' w' g', Le g w g' w' → Sim ds g' w' a' st' → Quiet (Frb m st.h) g st.h g' st'.h → st.h.length ≤ st'.h.length → Q .normal a' w') : (Code.region rid ops true).wp P Q a w := by
  obtain ⟨tab, T⟩ := tab_of _ _ _ _ htr
  have hol : ops.toList.length = 8 := by rw [← T.len]; rfl
  have hos : ops.size = 8 := by simpa using hol
  have hd' := kid_drawn hF hol hd
  refine (wpIn_wide (n := 0)).1 (wpIn_region_any (F := FR none) hm ?_)
  let h0 := st.h ++ [O.tok 1 1, O.dead]
  have hfr0 : ∀ j (hj : j < ([.tok 1 1, .dead] : List O).length), g.blk (st.h.length + j) = none ∧ g.tok (st.h.length + j) = none ∧ (st.h ++ [.tok 1 1, .dead])[st.h.length + j]? = some ([.tok 1 1, .dead] : List O)[j] := by
    intro j hj
    refine ⟨S.hk.blk_none (by omega), S.hk.tok_none (by omega), ?_⟩
    rw [List.getElem?_append_right (by omega)]
    simp [hj]
  obtain ⟨d1, d2⟩ := (S.hk.append [.tok 1 1, .dead]).drew
  have S0 : Sim ds g w.drew a { st with h := st.h ++ [.tok 1 1, .dead], rb := st.h.length } := ⟨S.tm.mono d1, d2, S.df⟩
  let R : Array Bool → St → Act → World → Prop := fun listed s a1 w1 => ∃ g1, Le g w g1 w1 ∧ Sim ds g1 w1 a1 s ∧ Quiet (Frb m st.h) g st.h g1 s.h ∧ s.rb = st.h.length ∧ st.h.length ≤ s.h.length ∧
    (∀ j, j < 8 → listed.getD j false = false → j ≠ 4 → Fresh g1 s.h (st.h.length + (tab j).1) (tab j).2) ∧
    (listed.getD 4 false = true → listed.getD 6 false = false → ∃ x, a1.tmps[26]? = some x ∧ Appd g1 w w1 m (ps ++ [(i : Int)]) x) ∧ 26 < s.tm.length
  have hmask : MaskOk ops.toList (masks ops.toList []) := masks_ok ops.toList ops.toList [] [] (by simp) rfl (by intro i o j _ h; simp at h)
  have hget : ∀ (listed : Array Bool) i, listed.size = ops.size → i < 8 → listed.getD i true = listed.getD i false := by
    intro listed i hs hi
    simp [Array.getD, hs, hos, hi]
  have hsetne : ∀ (listed : Array Bool) (i j : Nat), i ≠ j → (listed.setIfInBounds i true).getD j false = listed.getD j false := fun listed i j h => getD_set_ne _ h
  refine any_gen (kid_pure (F := F) (m := m) (cf := cf) (k := k) (ps := ps) (i := i)) (xs := kidOps' F) (by rw [hos]; rfl) hd' (st' := st') ⟨none, .mv (.k undefV), none⟩ R ?_ ?_ ops.size (List.range ops.size) _ w.drew a { st with h := st.h ++ [.tok 1 1, .dead], rb := st.h.length } (by simp) (by simp) (fun i => ?_) List.pairwise_lt_range ?_ ?_ ?_
  · -- one operation
    intro q o x ho hx listed hls hun hcl hbits s s1 a1 w1 hst hR K hK
    obtain ⟨g1, r1, r2, r3, r4, r5, r6, r7, r8⟩ := hR
    have hq : q < 8 := by rw [← hos]; exact (Array.getElem?_eq_some_iff.1 ho).1
    have hunf : listed.getD q false = false := by rw [← hget listed q hls hq]; exact hun
    have hol' : ops.toList[q]? = some o := by simpa using ho
    obtain ⟨x0, hx0, htro⟩ := T.op q o hol'
    -- what is listed of what must be
    have h41 : listed.getD 4 false = true → listed.getD 1 false = true ∧ listed.getD 3 false = true := by
      intro h4
      have ho4 : ops.toList[4]? = some (ops[4]'(by omega)) := by simp [hos]
      have hpre := hcl 4 _ ho4 h4
      exact ⟨hmask 4 _ 1 ho4 (kid_bit hol hd (by omega) (by omega) (by simp [pairB, kidOps, commB, apartB, XOper.rd, XOp.rd, A.rd])) _ hcl hpre,
        hmask 4 _ 3 ho4 (kid_bit hol hd (by omega) (by omega) (by simp [pairB, kidOps, commB, apartB, XOper.rd, XOp.rd, A.rd])) _ hcl hpre⟩
    have h32 : listed.getD 3 false = true → listed.getD 2 false = true := by
      intro h3
      have ho3 : ops.toList[3]? = some (ops[3]'(by omega)) := by simp [hos]
      exact hmask 3 _ 2 ho3 (kid_bit hol hd (by omega) (by omega) (by simp [pairB, kidOps, commB, apartB, XOper.rd, XOp.rd, A.rd])) _ hcl (hcl 3 _ ho3 h3)
    have same : ∀ {d : Option Nat} {xo : XOp}, x = ⟨d, xo, none⟩ → o.dst = d → o.guard = none → (∀ v h', act (kidCf F m cf k ps i) s xo = some (v, h') → h' = s.h ∧ PureOk P g1 w1 a1 o v) →
        (∀ r v, Rep g1 w1 r v → s1 = { s with tm := putV s.tm d v } → K (a1.put d r) w1) → if Region.wanted o (yielded ops a1.tmps) then o.wpIn (FR none) 0 P a1 w1 K Q else K (a1.put o.dst undef) w1 := by
      intro d xo hxe hdst hgd hact hk
      subst hxe
      rw [step_give] at hst
      simp only [give, known, wants, if_true, Option.map_eq_some_iff] at hst
      obtain ⟨⟨v, h'⟩, ha, rfl⟩ := hst
      obtain ⟨rfl, r, hrun', hrep⟩ := hact v h' ha
      rw [if_pos (by simp [Region.wanted, hgd])]
      unfold Oper.wpIn
      refine ⟨fun _ _ => trivial, ?_⟩
      rw [show Oper.semAt (FR none).round a1.eval o = execOp a1.eval o from rfl, hrun', Oper.uponIn_value, hdst]
      exact hk r v hrep rfl
    by_cases h4 : q = 4
    · -- the path is made longer
      subst h4
      simp only [kidOps, List.getElem?_cons_succ, List.getElem?_cons_zero, Option.some.injEq] at hx0
      simp only [kidOps', List.getElem?_cons_succ, List.getElem?_cons_zero, Option.some.injEq] at hx
      subst hx0
      subst hx
      obtain ⟨i1, i2, i3⟩ := oper_inv htro
      have hlen := step_tmlen hst
      rw [step_give] at hst
      simp only [give, known, wants, if_true, Option.map_eq_some_iff] at hst
      obtain ⟨⟨v, h'⟩, ha, rfl⟩ := hst
      obtain ⟨rfl, rfl, si, hx, hy, hm'⟩ : v = .top ∧ h' = s.h ∧ ∃ si, PV m ps (ev s.tm (.t 23)) ∧ ev s.tm (.t 25) = .sl [I64 i] si ∧ (ev s.tm (.t 23) = .buf m ps.length → s.h[m]? = some (pcell ps)) := by
        simp only [act] at ha
        rw [show ev s.tm (.k (.c (.func (.func (F + 1)) #[] #[]))) = .c (.func (.func (F + 1)) #[] #[]) from rfl, callV_fn (f := F + 1) (caps := []) (by simp [callee])] at ha
        simp only [List.append_nil, List.map_cons, List.map_nil] at ha
        split at ha
        rotate_left
        · cases ha
        obtain ⟨hk, _⟩ := longer_some ha
        unfold kidCf at hk
        rw [if_neg (by omega), if_pos rfl] at hk
        split at hk
        · rename_i m' n i' sj heq
          simp only [List.cons.injEq, and_true] at heq
          split at hk
          · rename_i hc
            simp only [Option.some.injEq, Prod.mk.injEq] at hk
            obtain ⟨⟨rfl, rfl, rfl⟩, hc2⟩ := hc
            exact ⟨hk.1.symm, hk.2.symm, sj, .inl heq.1, heq.2, fun _ => samePath_eq hc2⟩
          · cases hk
        · rename_i i' sj heq
          simp only [List.cons.injEq, and_true] at heq
          split at hk
          · rename_i hc
            simp only [Option.some.injEq, Prod.mk.injEq] at hk
            obtain ⟨hps0, rfl⟩ := hc
            exact ⟨hk.1.symm, hk.2.symm, sj, .inr ⟨heq.1, hps0⟩, heq.2, fun e => by rw [heq.1] at e; cases e⟩
          · cases hk
        · cases hk
      obtain ⟨val, w2, e1, e2, e3, e4⟩ := append_kid (w0 := w) i3 r2.tm r2.hk r1.size hx hy hm' hps (by omega)
      rw [if_pos (by simp [Region.wanted, i2])]
      unfold Oper.wpIn
      refine ⟨fun _ _ => trivial, ?_⟩
      rw [show Oper.semAt (FR none).round a1.eval o = execOp a1.eval o from rfl, e1, Oper.uponIn_value, i1]
      refine hK _ _ ⟨g1, r1.trans e2, ⟨(r2.tm.mono e2).put (.top val), e3, r2.df⟩, r3, r4, r5, fun j hj hjl hj4 => ?_, fun _ _ => ⟨val, ?_, e4⟩, by rw [hlen]; exact r8⟩
      · rw [hsetne _ _ _ (Ne.symm hj4)] at hjl
        exact r6 j hj hjl hj4
      · have : 26 < a1.tmps.size := by rw [r2.tm.1]; exact r8
        simp [Act.put, this]
    by_cases h6 : q = 6
    · -- the call
      subst h6
      simp only [kidOps, List.getElem?_cons_succ, List.getElem?_cons_zero, Option.some.injEq] at hx0
      simp only [kidOps', List.getElem?_cons_succ, List.getElem?_cons_zero, Option.some.injEq] at hx
      subst hx0
      subst hx
      obtain ⟨i1, i2, i3⟩ := oper_inv htro
      have hlen := step_tmlen hst
      have l4 := hbits 4 (by omega) (kid_bit hol hd (by omega) (by omega) (by simp [pairB, kidOps, commB, apartB, XOper.rd, XOp.rd, A.rd]))
      obtain ⟨xv, hxv, b', cap', c', T', hxe, hcap, hheap, hcs, hcells, hwh⟩ := r7 l4 hunf
      rw [step_give] at hst
      simp only [give, known, wants, if_true, Option.map_eq_some_iff] at hst
      obtain ⟨⟨v, h'⟩, ha, rfl⟩ := hst
      obtain ⟨f', caps', b, h1, hcal, hc, hev, rfl, rfl⟩ : ∃ f' caps' b h1, callee (ev s.tm (.t 27)) = some (f', caps') ∧ (m + 1 ≤ s.h.length ∧ samePath ps s.h[m]? = true ∧ (s.h.take m).all (O.low m) = true ∧ V.low m (ev s.tm (.t 22)) = true ∧ V.lows m caps' = true) ∧
          eachV cf f' caps' k (ev s.tm (.t 22)) (ps ++ [(i : Int)]) (s.h.take m) = some (b, h1) ∧ v = .c (.bool b) ∧ h' = h1 ++ s.h.drop m := by
        simp only [act] at ha
        rw [show ev s.tm (.k (.c (.func (.func F) #[] #[]))) = .c (.func (.func F) #[] #[]) from rfl, callV_fn (f := F) (caps := []) (by simp [callee])] at ha
        simp only [List.append_nil, List.map_cons, List.map_nil] at ha
        split at ha
        rotate_left
        · cases ha
        obtain ⟨hk, _⟩ := longer_some ha
        unfold kidCf at hk
        rw [if_pos rfl] at hk
        cases hcal : callee (ev s.tm (.t 27)) with
        | none => simp [hcal] at hk
        | some p =>
          obtain ⟨f', caps'⟩ := p
          simp only [hcal] at hk
          split at hk
          · rename_i hc
            split at hk
            · rename_i b h1 hev
              simp only [Option.some.injEq, Prod.mk.injEq] at hk
              exact ⟨f', caps', b, h1, rfl, hc, hev, hk.1.symm, hk.2.symm⟩
            · cases hk
          · cases hk
      obtain ⟨c1, c2, c3, c4, c5⟩ := hc
      obtain ⟨F', args, tys, hop, hF', has⟩ := call_inv i3
      have hargs : ∃ X Z, args = #[X, .tmp 26, Z] ∧ trA X = some (.t 22) ∧ trA Z = some (.t 27) := by
        obtain ⟨l⟩ := args
        obtain ⟨X, l1, rfl, hX, has⟩ := trAL_cons has
        obtain ⟨Y, l2, rfl, hY, has⟩ := trAL_cons has
        obtain ⟨Z, l3, rfl, hZ, has⟩ := trAL_cons has
        rw [trAL_nil has, trA_tmp hY]
        exact ⟨X, Z, rfl, hX, hZ⟩
      obtain ⟨X, Z, rfl, hX, hZ⟩ := hargs
      have hFv : a1.eval F' = .func (.func F) #[] #[] := (ev_rep r2.tm hF').of_c
      have hux := ev_rep r2.tm hX
      have hzx := ev_rep r2.tm hZ
      have hxv' : a1.eval (.tmp 26) = xv := by
        obtain ⟨hlt, he⟩ := Array.getElem?_eq_some_iff.1 hxv
        simp [Act.eval, Array.getD, hlt, ← he]
      obtain ⟨fn, hfn, hnm, hbody⟩ := hW
      have hrun' : (execOp a1.eval o).run P w1 = .ok (.enter F #[a1.eval X, xv, a1.eval Z]) w1 := by
        simp only [execOp, hop, resolve, Sem.run_bind, hFv, Deferred.ofValue, Sem.run_pure, Result.andThen_ok, invoke, callFunc]
        have n1 : ¬ fn.name = "runtime.NumGoroutine" := by simpa using hnm
        have n2 : ¬ fn.body = none := by intro h; rw [h] at hbody; simp at hbody
        simp [hfn, n1, n2, hxv']
      rw [if_pos (by simp [Region.wanted, i2])]
      unfold Oper.wpIn
      refine ⟨fun _ _ => trivial, ?_⟩
      rw [show Oper.semAt (FR none).round a1.eval o = execOp a1.eval o from rfl, hrun', Oper.uponIn_enter, i1]
      refine ⟨fun h => absurd h (by simp [FR, Fence.wide]), calls_FR ?_⟩
      -- the world of the call
      have hmlen : (s.h.take m).length = m := by simp; omega
      have H1 : HOk g1 w1 (s.h.take m ++ s.h.drop m) := by rw [List.take_append_drop]; exact r2.hk
      have hwh' : Whose g1 w (s.h.take m).length b' := by rw [hmlen]; exact hwh
      have hent := kid_enter H1 (by rw [hmlen]; exact c3) hwh' hheap (by omega) hcells
      rw [hmlen] at hent
      have hfvlow : V.low m (ev s.tm (.t 27)) = true := by
        unfold callee at hcal
        split at hcal
        · rename_i p q e; rw [e]; rfl
        · rename_i f2 caps2 e
          simp only [Option.some.injEq, Prod.mk.injEq] at hcal
          rw [e, hcal.2]; exact c5
        · cases hcal
      have hel := eachV_len hev
      rw [hmlen] at hel
      refine Calls.mono (IH f' caps' _ _ _ _ _ hev (g1.kid m b') w1 (a1.eval X) xv (a1.eval Z) (ev s.tm (.t 27)) (.buf m (ps ++ [(i : Int)]).length) hcal hent (low_kid hux c4) (.inl (by rw [hmlen])) ?_ (low_kid hzx hfvlow)) ?_
      · rw [hxe]
        exact .buf _ _ _ _ hcap ⟨b', c', T', rfl, by simp [Gh.kid], hheap, hcs⟩
      · rintro e w2 ⟨g2, rfl, k1, k2, k3⟩
        obtain ⟨m1, m2, m3, m4⟩ := kid_leave (g0 := g) (w0 := w) (g1 := g2) (w1 := w2) (h1 := h1) (ps := ps) (i := (i : Int)) H1 (by rw [List.getElem?_drop, Nat.add_zero]; exact samePath_eq c2) r1 hwh' (by rw [hmlen]; exact k1) k2 (by rw [hmlen]; exact hel.1) (by rw [hmlen]; exact hel.2) (by rw [hmlen]; rw [hmlen] at k3; exact k3)
        rw [hmlen] at m1 m2 m3 m4
        rw [List.take_append_drop] at m3
        have hl2 : (h1 ++ s.h.drop m).length = s.h.length := by simp only [List.length_append, List.length_drop, hel.1]; omega
        refine hK _ _ ⟨_, m1, ⟨Tm.put ⟨r2.tm.1, fun j hj hj2 => m4 (r2.tm.2 j hj hj2), m2.ag.gl⟩ (.c _), m2, r2.df⟩, r3.transL r2.hk r1 m3, r4, by simp only [hl2]; exact r5, fun j hj hjl hj4 => ?_, fun e1 e2 => ?_, by rw [hlen]; exact r8⟩
        · have hj6 : j ≠ 6 := by
            intro e
            subst e
            simp [Array.getD, hls, hos] at hjl
          rw [hsetne _ _ _ (Ne.symm hj6)] at hjl
          intro hne
          obtain ⟨q1, q2, q3⟩ := r6 j hj hjl hj4 hne
          have hge : ¬ st.h.length + (tab j).1 < m := by omega
          refine ⟨by simp only [Gh.glue, hge, if_false]; exact q1, by simp only [Gh.glue, hge, if_false]; exact q2, fun p hp' => ?_⟩
          have := q3 p hp'
          simp only
          rw [List.getElem?_append_right (by omega), hel.1, List.getElem?_drop, show m + (st.h.length + (tab j).1 - m) = st.h.length + (tab j).1 by omega]
          exact this
        · simp [Array.getD, hls, hos] at e2
    have hxx : x0 = x := by
      have e : (kidOps F)[q]? = (kidOps' F)[q]? := by
        match q, hq, h4, h6 with
        | 0, _, _, _ => rfl
        | 1, _, _, _ => rfl
        | 2, _, _, _ => rfl
        | 3, _, _, _ => rfl
        | 4, _, h, _ => exact absurd rfl h
        | 5, _, _, _ => rfl
        | 6, _, _, h => exact absurd rfl h
        | 7, _, _, _ => rfl
      rw [hx0, hx] at e
      exact Option.some.inj e
    subst hxx
    by_cases hph : listed.getD 4 false = true ∧ listed.getD 6 false = false
    · -- between the two: only what leaves the world alone
      obtain ⟨xv, hxv, hap⟩ := r7 hph.1 hph.2
      obtain ⟨l1, l3⟩ := h41 hph.1
      have l2 := h32 l3
      have hcase : q = 0 ∨ q = 5 := by
        match q, hq with
        | 0, _ => exact .inl rfl
        | 1, _ => rw [l1] at hunf; cases hunf
        | 2, _ => rw [l2] at hunf; cases hunf
        | 3, _ => rw [l3] at hunf; cases hunf
        | 4, _ => exact absurd rfl h4
        | 5, _ => exact .inr rfl
        | 6, _ => exact absurd rfl h6
        | 7, _ =>
          have := hbits 6 (by omega) (kid_bit hol hd (by omega) (by omega) (by simp [pairB, kidOps, commB, apartB, XOper.rd, XOp.rd, A.rd]))
          rw [hph.2] at this; cases this
      have fin : ∀ (d : Nat), d ≠ 26 → ∀ r v, Rep g1 w1 r v → s1 = { s with tm := putV s.tm (some d) v } → K (a1.put (some d) r) w1 := by
        intro d hd26 r v hrep hs1
        refine hK _ _ ⟨g1, r1, ?_, by rw [hs1]; exact r3, by rw [hs1]; exact r4, by rw [hs1]; exact r5, fun j hj hjl hj4 => ?_, fun _ _ => ⟨xv, ?_, hap⟩, by rw [step_tmlen hst]; exact r8⟩
        · rw [hs1]; exact ⟨r2.tm.put hrep, r2.hk, r2.df⟩
        · rw [hs1]
          by_cases hqj : q = j
          · subst hqj
            simp [Array.getD, hls, hos, hj] at hjl
          · rw [hsetne _ _ _ hqj] at hjl
            exact r6 j hj hjl hj4
        · simp only [Act.put]
          rw [Array.getElem?_setIfInBounds_ne hd26]
          exact hxv
      rcases hcase with rfl | rfl
      · simp only [kidOps, List.getElem?_cons_zero, Option.some.injEq] at hx0
        subst hx0
        obtain ⟨i1, i2, i3⟩ := oper_inv htro
        exact same rfl i1 i2 (fun v h' ha => load_same i3 r2.tm r2.hk ha) (fin 22 (by decide))
      · simp only [kidOps, List.getElem?_cons_succ, List.getElem?_cons_zero, Option.some.injEq] at hx0
        subst hx0
        obtain ⟨i1, i2, i3⟩ := oper_inv htro
        refine same rfl i1 i2 (fun v h' ha => ?_) (fin 27 (by decide))
        obtain ⟨e1, e2⟩ := act_pure (cf := kidCf F m cf k ps i) (show (pureV s.tm s.rb (.mv (.t 2))).map (·, s.h) = some (v, h') from ha)
        exact ⟨e2, pure_ok i3 r2.tm e1 rfl⟩
    · -- any other time
      have hnc : ∀ f args, x0.op ≠ .call f args := by
        intro f args
        match q, hq, h4, h6 with
        | 0, _, _, _ => simp only [kidOps, List.getElem?_cons_zero, Option.some.injEq] at hx0; subst hx0; simp
        | 1, _, _, _ => simp only [kidOps, List.getElem?_cons_succ, List.getElem?_cons_zero, Option.some.injEq] at hx0; subst hx0; simp
        | 2, _, _, _ => simp only [kidOps, List.getElem?_cons_succ, List.getElem?_cons_zero, Option.some.injEq] at hx0; subst hx0; simp
        | 3, _, _, _ => simp only [kidOps, List.getElem?_cons_succ, List.getElem?_cons_zero, Option.some.injEq] at hx0; subst hx0; simp
        | 4, _, h, _ => exact absurd rfl h
        | 5, _, _, _ => simp only [kidOps, List.getElem?_cons_succ, List.getElem?_cons_zero, Option.some.injEq] at hx0; subst hx0; simp
        | 6, _, _, h => exact absurd rfl h
        | 7, _, _, _ => simp only [kidOps, List.getElem?_cons_succ, List.getElem?_cons_zero, Option.some.injEq] at hx0; subst hx0; simp
      have hst2 : stepO (fun _ _ _ => none) x0 s = some s1 := by
        have : ∀ cf', act cf' s x0.op = act (kidCf F m cf k ps i) s x0.op := by
          intro cf'
          cases hop : x0.op <;> first | rfl | exact absurd hop (hnc _ _)
        unfold stepO at hst ⊢
        rw [this]
        exact hst
      refine step_op (ρ := none) (nn := 0) (cf := fun _ _ _ => none) htro hst2 (fun f args h r h' e => by cases e) r2 (by rw [r4]; exact r6 q hq hunf h4) fun a' w' g' k1 k2 k3 => hK a' w' ?_
      refine ⟨g', r1.trans k1, k2, r3.transL r2.hk r1 (k3.mono (E' := Frb m s.h) fun id hid => hid.elim (fun h => .inl (by have := h.2; omega)) fun h => h.imp (fun h => by omega) fun h => h), (step_rb hst2).1.trans r4, Nat.le_trans r5 (step_len hst2), fun j hj hjl hj4 => ?_, fun e1 e2 => ?_, by rw [step_tmlen hst]; exact r8⟩
      · by_cases hqj : q = j
        · subst hqj
          simp [Array.getD, hls, hos, hj] at hjl
        · rw [hsetne _ _ _ hqj] at hjl
          intro hne
          obtain ⟨q1, q2, q3⟩ := r6 j hj hjl hj4 hne
          have hin : st.h.length + (tab j).1 < s.h.length := by
            obtain ⟨p, hp'⟩ := List.exists_mem_of_ne_nil _ hne
            exact (List.getElem?_eq_some_iff.1 (q3 p hp')).1
          have hslot : ¬ (((tab q).2 ≠ [] ∧ st.h.length + (tab j).1 = s.rb + (tab q).1) ∨ Frb s.h.length s.h (st.h.length + (tab j).1)) := by
            rintro (⟨n1, n2⟩ | n3 | n3)
            · rw [r4] at n2
              rcases Nat.lt_or_ge j q with h | h
              · have := T.lt j q h (by rw [hol]; exact hq) hne
                omega
              · have := T.lt q j (by omega) (by rw [hol]; exact hj) n1
                omega
            · omega
            · obtain ⟨p, hp'⟩ := List.exists_mem_of_ne_nil _ hne
              have h1 := q3 p hp'
              rw [n3] at h1
              simp only [Option.some.injEq] at h1
              have h2 := List.all_eq_true.1 (T.own j (by rw [hol]; exact hj)) _ hp'
              rw [← h1] at h2
              cases h2
          have kk := k3 _ hslot
          exact ⟨kk.1 q1, kk.2.1 q2, fun p hp' => (kk.2.2 q1 q2).trans (q3 p hp')⟩
      · exfalso
        rw [hsetne _ _ _ h4] at e1
        rw [hsetne _ _ _ h6] at e2
        exact hph ⟨e1, e2⟩
  · intro listed a1 w1 hls hall hR
    obtain ⟨g1, r1, r2, r3, r4, r5, r6, r7, r8⟩ := hR
    exact hQ _ _ _ r1 r2 r3 r5
  · simp only [List.mem_range, Array.getD, Array.size_replicate]
    constructor
    · intro h; exact ⟨h, by simp [h]⟩
    · exact fun h => h.1
  · intro i o ho h
    simp only [Array.getD, Array.size_replicate] at h
    split at h <;> simp at h
  · have e : (List.range ops.size).map (fun i => (kidOps' F).getD i ⟨none, .mv (.k undefV), none⟩) = kidOps' F := by rw [hos]; rfl
    rw [e]; exact hrun
  · refine ⟨g, d1, S0, fun id hid => ⟨fun h => h, fun h => h, fun _ _ => ?_⟩, rfl, by simp, fun j hj _ _ hne => ?_, fun h => ?_, htl⟩
    · have : id < st.h.length := Nat.lt_of_not_le fun h => hid (.inl (by omega))
      simp only
      rw [List.getElem?_append_left this]
    · cases hpre : (tab j).2 with
      | nil => exact absurd hpre hne
      | cons p r =>
        have h1 := T.at' j (by rw [hol]; exact hj) p (by rw [hpre]; simp)
        obtain ⟨hlt, _⟩ := List.getElem?_eq_some_iff.1 h1
        rw [Nat.sub_zero] at hlt
        obtain ⟨f1, f2, f3⟩ := hfr0 _ hlt
        refine ⟨f1, f2, fun q hq => ?_⟩
        have h2 := T.at' j (by rw [hol]; exact hj) q (by rw [hpre]; exact hq)
        rw [Nat.sub_zero] at h2
        simp only
        rw [f3, ← h2, List.getElem?_eq_getElem hlt]
    · simp only [Array.getD, Array.size_replicate, hos] at h
      simp at h
end
end Go.Proofs.YtkiliokeanmagaaDoor.Ab
