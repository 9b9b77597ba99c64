/- Every operation that leaves memory alone. -/
import Derived.Test.YtkiliokeanmagaaDoorAb6
namespace Go.Proofs.YtkiliokeanmagaaDoor.Ab
open Go
set_option linter.unusedVariables false
set_option linter.unusedSimpArgs false
section
variable {P : Program} {g : Gh} {w : World} {a : Act} {tm : List V}

/-- What an operation of the interpreter is of. -/
def PureOk (P : Program) (g : Gh) (w : World) (a : Act) (o : Oper) (v : V) : Prop := ∃ r, (execOp a.eval o).run P w = .ok (.value r) w ∧ Rep g w r v

theorem mmCall_ok {isMax : Bool} {args : Array Operand} {xas : List A} (has : trAL args.toList = some xas) (ht : Tm g w a tm) {v : V} (hv : mmV isMax (xas.map (ev tm)) = some v) (ts : Array TypeId) (t : TypeId) :
    ∃ r, ((if isMax then Builtin.max_ ts t (args.map a.eval) else Builtin.min_ ts t (args.map a.eval)) : Sem Value).run P w = .ok r w ∧ Rep g w r v := by
  obtain ⟨hl, hr⟩ := trAL_rep ht has
  cases xas with
  | nil => simp [mmV] at hv
  | cons y xas =>
    obtain ⟨l⟩ := args
    cases l with
    | nil => simp at hl
    | cons X l =>
      simp only [List.map_cons, mmV] at hv
      have h0 := hr 0 (by simp) (by simp)
      obtain ⟨r, h1, h2⟩ := mm_ok (P := P) (isMax := isMax) (xs := l.map a.eval) (acc := a.eval X) h0 (by simpa using hl) (fun i hi hj => by have := hr (i + 1) (by simpa using hi) (by simpa using hj); simpa only [List.getElem_map, List.getElem_cons_succ] using this) hv
      refine ⟨r, ?_, h2⟩
      cases isMax
      · simp only [Bool.false_eq_true, if_false, List.map_toArray, List.map_cons, Builtin.min_] at h1 ⊢
        exact h1
      · simp only [if_true, List.map_toArray, List.map_cons, Builtin.max_] at h1 ⊢
        exact h1

theorem pureCall_ok {o : Oper} {c : Call} (ho : o.op = .call c) {al : Nat} {x : XOp} {pre : List O} {rw : Bool} (htr : trCall P rw al c = some (x, pre)) (ht : Tm g w a tm) {rb : Nat} {v : V} (hv : pureV tm rb x = some v) :
    PureOk P g w a o v := by
  obtain ⟨cal, args, tys⟩ := c
  unfold PureOk
  cases cal with
  | invoke r m => simp [trCall] at htr
  | value f =>
    simp only [trCall] at htr
    split at htr
    · simp only [Option.some.injEq, Prod.mk.injEq] at htr
      obtain ⟨rfl, rfl⟩ := htr
      simp [pureV] at hv
    · cases htr
  | builtin b =>
    cases b
    case len =>
      simp only [trCall] at htr
      split at htr
      · rename_i X t h1 h2
        have hX : args = #[X] := Array.ext' h1
        have hT : tys = #[t] := Array.ext' h2
        subst hX hT
        simp only [trLen] at htr
        split at htr
        · rename_i e x' hu hx'
          simp only [Option.some.injEq, Prod.mk.injEq] at htr
          obtain ⟨rfl, rfl⟩ := htr
          have hx := ev_rep ht hx'
          simp only [pureV] at hv
          cases he : ev tm x' with
          | sl us i =>
            rw [he] at hx hv
            simp only [Option.some.injEq] at hv
            subst hv
            refine ⟨_, ?_, .c _⟩
            simp only [execOp, ho, resolve, invoke, builtin, Sem.run_bind, Sem.run_pure, Result.andThen_ok, List.map_toArray, List.map_cons, List.map_nil]
            rw [len_sl hu hx]
            rfl
          | row id off n zz =>
            rw [he] at hx hv
            simp only [Option.some.injEq] at hv
            subst hv
            refine ⟨_, ?_, .c _⟩
            simp only [execOp, ho, resolve, invoke, builtin, Sem.run_bind, Sem.run_pure, Result.andThen_ok, List.map_toArray, List.map_cons, List.map_nil]
            rw [len_row hu hx]
            rfl
          | tsl k n zz =>
            rw [he] at hx hv
            simp only [Option.some.injEq] at hv
            subst hv
            refine ⟨_, ?_, .c _⟩
            simp only [execOp, ho, resolve, invoke, builtin, Sem.run_bind, Sem.run_pure, Result.andThen_ok, List.map_toArray, List.map_cons, List.map_nil]
            rw [len_tsl hu hx]
            rfl
          | _ => rw [he] at hv; simp at hv
        · rename_i x' hu hx'
          simp only [Option.some.injEq, Prod.mk.injEq] at htr
          obtain ⟨rfl, rfl⟩ := htr
          have hx := ev_rep ht hx'
          simp only [pureV] at hv
          cases he : ev tm x' with
          | c y =>
            rw [he] at hx hv
            cases y <;> simp only [reduceCtorEq, Option.some.injEq] at hv
            subst hv
            refine ⟨_, ?_, .c _⟩
            simp only [execOp, ho, resolve, invoke, builtin, Sem.run_bind, Sem.run_pure, Result.andThen_ok, List.map_toArray, List.map_cons, List.map_nil]
            rw [len_str hu hx]
            rfl
          | _ => rw [he] at hv; simp at hv
        · cases htr
      · cases htr
    case append =>
      simp only [trCall] at htr
      split at htr
      · simp only [trApp] at htr
        split at htr
        · split at htr
          · split at htr
            · simp only [Option.some.injEq, Prod.mk.injEq] at htr
              obtain ⟨rfl, rfl⟩ := htr
              simp [pureV] at hv
            · cases htr
          · cases htr
        · cases htr
      · cases htr
    case min =>
      simp only [trCall, Option.map_eq_some_iff, Prod.mk.injEq] at htr
      obtain ⟨xas, has, rfl, rfl⟩ := htr
      simp only [pureV] at hv
      obtain ⟨r, h1, h2⟩ := mmCall_ok (P := P) has ht hv tys o.type
      refine ⟨r, ?_, h2⟩
      simp only [execOp, ho, resolve, invoke, builtin, Sem.run_bind, Sem.run_pure, Result.andThen_ok]
      simp only [Bool.false_eq_true, if_false] at h1
      rw [h1]
      rfl
    case max =>
      simp only [trCall, Option.map_eq_some_iff, Prod.mk.injEq] at htr
      obtain ⟨xas, has, rfl, rfl⟩ := htr
      simp only [pureV] at hv
      obtain ⟨r, h1, h2⟩ := mmCall_ok (P := P) has ht hv tys o.type
      refine ⟨r, ?_, h2⟩
      simp only [execOp, ho, resolve, invoke, builtin, Sem.run_bind, Sem.run_pure, Result.andThen_ok]
      simp only [if_true] at h1
      rw [h1]
      rfl
    all_goals simp [trCall] at htr

theorem pure_ok {o : Oper} {al : Nat} {x : XOp} {pre : List O} {rw : Bool} (htr : trOp P rw al o.op = some (x, pre)) (ht : Tm g w a tm) {rb : Nat} {v : V} (hv : pureV tm rb x = some v) (hna : isAl x = false) : PureOk P g w a o v := by
  cases hop : o.op with
  | move X =>
    rw [hop] at htr; simp only [trOp, Option.map_eq_some_iff, Prod.mk.injEq] at htr
    obtain ⟨x', hx', rfl, rfl⟩ := htr
    simp only [pureV, Option.some.injEq] at hv; subst hv
    exact ⟨_, by simp only [execOp, hop]; rfl, ev_rep ht hx'⟩
  | assign X =>
    rw [hop] at htr; simp only [trOp, Option.map_eq_some_iff, Prod.mk.injEq] at htr
    obtain ⟨x', hx', rfl, rfl⟩ := htr
    simp only [pureV, Option.some.injEq] at hv; subst hv
    exact ⟨_, by simp only [execOp, hop]; rfl, ev_rep ht hx'⟩
  | pick C X Y =>
    rw [hop] at htr; simp only [trOp] at htr
    split at htr
    · rename_i c' x' y' h1 h2 h3
      simp only [Option.some.injEq, Prod.mk.injEq] at htr
      obtain ⟨rfl, rfl⟩ := htr
      simp only [pureV] at hv
      split at hv
      · rename_i t hc
        have hcr := ev_rep ht h1
        rw [hc] at hcr
        simp only [Option.some.injEq] at hv
        subst hv
        refine ⟨if t then a.eval X else a.eval Y, by simp only [execOp, hop, hcr.of_c, asBool, Sem.run_bind, Sem.run_pure, Result.andThen_ok], ?_⟩
        cases t
        · exact ev_rep ht h3
        · exact ev_rep ht h2
      · cases hv
    · cases htr
  | alloc e =>
    rw [hop] at htr; simp only [trOp, Option.map_eq_some_iff, Prod.mk.injEq] at htr
    obtain ⟨z, _, rfl, rfl⟩ := htr
    simp [isAl] at hna
  | box e X =>
    rw [hop] at htr; simp only [trOp, Option.map_eq_some_iff, Prod.mk.injEq] at htr
    obtain ⟨x', _, rfl, rfl⟩ := htr
    simp [pureV] at hv
  | build t parts =>
    rw [hop] at htr; simp only [trOp] at htr
    split at htr
    · rename_i fields z hu hz
      split at htr
      · rename_i hs
        simp only [Option.map_eq_some_iff, Prod.mk.injEq] at htr
        obtain ⟨l, hl, rfl, rfl⟩ := htr
        simp only [pureV, Option.map_eq_some_iff] at hv
        obtain ⟨cs, hcs, rfl⟩ := hv
        obtain ⟨xs, h1, h2⟩ := build_ok hu hz hs hl ht hcs
        refine ⟨.agg xs, ?_, h2.agg⟩
        simp only [execOp, hop, Sem.run_bind]
        rw [h1]
        rfl
      · cases htr
    · cases htr
  | buildSlice t n parts =>
    rw [hop] at htr; simp only [trOp] at htr
    split at htr
    · split at htr
      · split at htr
        · simp only [Option.some.injEq, Prod.mk.injEq] at htr
          obtain ⟨rfl, rfl⟩ := htr
          simp [isAl] at hna
        · cases htr
      · cases htr
    · cases htr
  | load t X =>
    rw [hop] at htr; simp only [trOp] at htr
    split at htr
    · simp only [Option.some.injEq, Prod.mk.injEq] at htr
      obtain ⟨rfl, rfl⟩ := htr
      simp [pureV] at hv
    · cases htr
  | store t X Y =>
    rw [hop] at htr; simp only [trOp] at htr
    split at htr
    · simp only [Option.some.injEq, Prod.mk.injEq] at htr
      obtain ⟨rfl, rfl⟩ := htr
      simp [pureV] at hv
    · cases htr
  | binOp op t X Y ty =>
    rw [hop] at htr; simp only [trOp] at htr
    split at htr
    · rename_i q x' y' hq h1 h2
      simp only [Option.some.injEq, Prod.mk.injEq] at htr
      obtain ⟨rfl, rfl⟩ := htr
      simp only [pureV] at hv
      obtain ⟨r, h3, h4⟩ := bin_ok hq (ev_rep ht h1) (ev_rep ht h2) hv X Y
      refine ⟨r, ?_, h4⟩
      simp only [execOp, hop]
      rw [Sem.run_bind, h3]
      rfl
    · cases htr
  | unOp op t X =>
    rw [hop] at htr; simp only [trOp, Option.map_eq_some_iff, Prod.mk.injEq] at htr
    obtain ⟨x', hx', rfl, rfl⟩ := htr
    simp only [pureV] at hv
    have hr := ev_rep ht hx'
    split at hv
    · rename_i b he
      rw [he] at hr
      simp only [Option.some.injEq] at hv; subst hv
      exact ⟨_, by simp [execOp, hop, hr.of_c, Op.unary], .c _⟩
    · rename_i k n he
      rw [he] at hr
      simp only [Option.some.injEq] at hv; subst hv
      refine ⟨.int k (k.wrap (0 - n)), ?_, .c _⟩
      simp only [execOp, hop, hr.of_c, Op.unary, Op.intArith, Sem.run_bind, Sem.run_pure, Result.andThen_ok]
    · cases hv
  | convert s d X =>
    rw [hop] at htr; simp only [trOp] at htr
    split at htr
    · rename_i k1 k x' h1 h2 h3
      simp only [Option.some.injEq, Prod.mk.injEq] at htr
      obtain ⟨rfl, rfl⟩ := htr
      simp only [pureV] at hv
      have hr := ev_rep ht h3
      split at hv
      · rename_i k0 n he
        rw [he] at hr
        simp only [Option.some.injEq] at hv; subst hv
        refine ⟨_, ?_, .c _⟩
        simp [execOp, hop, hr.of_c, convert, run_underlying h1, run_underlying h2, Conv.intToInt]
      · cases hv
    · cases htr
  | fieldAddr s X f =>
    rw [hop] at htr; simp only [trOp] at htr
    split at htr
    · rename_i fields x' hu hx'
      split at htr
      · rename_i fd hfd
        split at htr
        · rename_i n hn
          simp only [Option.some.injEq, Prod.mk.injEq] at htr
          obtain ⟨rfl, rfl⟩ := htr
          simp only [pureV] at hv
          have hr := ev_rep ht hx'
          cases he : ev tm x' with
          | ref id o' =>
            rw [he] at hr hv
            simp only [Option.some.injEq] at hv; subst hv
            obtain ⟨b, hx, hb⟩ := hr.of_ref
            refine ⟨.pointer (some ⟨b, o' + fd.offset, none⟩), ?_, .ref id b _ hb⟩
            simp [execOp, hop, Instr.fieldAt, fieldPlace, run_underlying hu, hfd, Instr.sureAddr, sz_run hn, Addr.add_lit, hx]
          | ptr cs o' =>
            rw [he] at hr hv
            simp only [Option.some.injEq] at hv; subst hv
            obtain ⟨b, o0, cv, hx, h1, h2⟩ := hr.of_ptr
            refine ⟨.pointer (some ⟨b, o0 + o' + fd.offset, none⟩), ?_, .ptr b o0 _ cs _ cv (by omega) h1 h2⟩
            simp [execOp, hop, Instr.fieldAt, fieldPlace, run_underlying hu, hfd, Instr.sureAddr, sz_run hn, Addr.add_lit, hx]
          | _ => rw [he] at hv; simp at hv
        · cases htr
      · cases htr
    · cases htr
  | field s X f =>
    rw [hop] at htr; simp only [trOp] at htr
    split at htr
    · rename_i fields x' hu hx'
      split at htr
      · rename_i fd hfd
        simp only [Option.map_eq_some_iff, Prod.mk.injEq] at htr
        obtain ⟨n, hn, rfl, rfl⟩ := htr
        simp only [pureV] at hv
        have hr := ev_rep ht hx'
        cases he : ev tm x' with
        | agg cs =>
          rw [he] at hr hv
          simp only at hv
          obtain ⟨xs, hx, h1, h2, h3⟩ := hr.of_agg
          obtain ⟨y, h4, h5⟩ := part_rep (P := P) hn h1 h2 h3 hv
          refine ⟨y, ?_, h5⟩
          simp [execOp, hop, Instr.field, run_underlying hu, hfd, asAgg, hx, h4]
        | _ => rw [he] at hv; simp at hv
      · cases htr
    · cases htr
  | indexAddr t X I =>
    rw [hop] at htr; simp only [trOp] at htr
    split at htr
    · rename_i e x' i' hu hx' hi'
      simp only [Option.map_eq_some_iff, Prod.mk.injEq] at htr
      obtain ⟨z, hz, rfl, rfl⟩ := htr
      simp only [pureV] at hv
      have hr := ev_rep ht hx'
      cases he : ev tm x' with
      | sl us i =>
        rw [he] at hr hv
        cases hn : idx (ev tm i') with
        | none => rw [hn] at hv; simp at hv
        | some n =>
          rw [hn] at hv
          simp only at hv
          obtain ⟨k, hk⟩ := rep_int (ev_rep ht hi') hn
          split at hv
          · rename_i hb
            cases hu2 : us[n.toNat]? with
            | none => rw [hu2] at hv; simp at hv
            | some u =>
              rw [hu2] at hv
              simp only at hv
              split at hv
              · rename_i hzu
                simp only [Option.some.injEq] at hv; subst hv
                obtain ⟨hlt, hue⟩ := List.getElem?_eq_some_iff.1 hu2
                obtain ⟨A, cap, z', cv, hx, hcap, hzz, hA, hrr, hsi⟩ := hr.of_sl
                have hne : us ≠ [] := by intro e'; subst e'; simp at hlt
                obtain ⟨b, o', hAe, hcell⟩ := hA hne
                have hz' : z' = z := by rw [← hzu, ← hue]; exact (hzz _ (List.getElem_mem hlt)).symm
                subst hz'
                refine ⟨.pointer (some ⟨b, o' + n.toNat * z', none⟩), ?_, ?_⟩
                · have hb1 : 0 ≤ n := hb.1
                  have hb2 : n < us.length := hb.2
                  simp [execOp, hop, Instr.indexAt, hk, asIntOf, run_underlying hu, hx, hAe, hb1, hb2, sz_run hz, Addr.add_lit]
                · have hul : ∀ j, j < u.cells.length → n.toNat * z' + j < us.length * z' := by
                    intro j hj
                    have : (n.toNat + 1) * z' ≤ us.length * z' := Nat.mul_le_mul_right _ hlt
                    rw [Nat.succ_mul] at this
                    omega
                  refine .ptr b (o' + n.toNat * z') _ _ 0 (fun j => cv (n.toNat * z' + j)) (by omega) (fun j hj => ?_) (fun j hj => ?_)
                  · have := hcell _ (hul j hj)
                    rw [show o' + n.toNat * z' + j = o' + (n.toNat * z' + j) by omega]
                    exact this
                  · subst hue
                    have h7 := flats_at hzz n.toNat hlt j hj
                    obtain ⟨h8, h9⟩ := List.getElem?_eq_some_iff.1 h7
                    rw [← h9]
                    exact hrr _ h8
              · cases hv
          · cases hv
      | row id off m zz =>
        rw [he] at hr hv
        cases hn : idx (ev tm i') with
        | none => rw [hn] at hv; simp at hv
        | some n =>
          rw [hn] at hv
          simp only at hv
          obtain ⟨k, hk⟩ := rep_int (ev_rep ht hi') hn
          split at hv
          · rename_i hb
            obtain ⟨hb1, hb2, hzz⟩ := hb
            simp only [Option.some.injEq] at hv; subst hv
            have hr' := hr
            generalize hX : a.eval X = xv at hr
            cases hr with
            | row A _ cap _ _ _ hc hA =>
            obtain ⟨b, rfl, hbk⟩ := hA (by omega)
            refine ⟨.pointer (some ⟨b, off + n.toNat * z, none⟩), ?_, .ref id b _ hbk⟩
            simp [execOp, hop, Instr.indexAt, hk, asIntOf, run_underlying hu, hX, hb1, hb2, sz_run hz, Addr.add_lit]
          · cases hv
      | tsl t m zz =>
        rw [he] at hr hv
        cases hn : idx (ev tm i') with
        | none => rw [hn] at hv; simp at hv
        | some n =>
          rw [hn] at hv
          simp only at hv
          obtain ⟨k, hk⟩ := rep_int (ev_rep ht hi') hn
          split at hv
          · rename_i hb
            obtain ⟨hb1, hb2, hzz⟩ := hb
            simp only [Option.some.injEq] at hv; subst hv
            generalize hX : a.eval X = xv at hr
            cases hr with
            | tsl A _ cap _ _ hc hA hT =>
            obtain ⟨b, rfl⟩ := hA (by omega)
            refine ⟨.pointer (some ⟨b, 0 + n.toNat * z, none⟩), ?_, .tref _ _ _ _ ?_⟩
            · simp [execOp, hop, Instr.indexAt, hk, asIntOf, run_underlying hu, hX, hb1, hb2, sz_run hz, Addr.add_lit]
            · obtain ⟨b', l, c, h1, h2, h3⟩ := hT
              refine ⟨b', l, c, h1, h2, fun e => ?_⟩
              have := (h3 e).1
              simp only [Option.some.injEq, Addr.mk.injEq, and_true] at this
              rw [this, Nat.zero_add]
          · cases hv
      | _ => rw [he] at hv; simp at hv
    · cases htr
  | index t X I =>
    rw [hop] at htr; simp only [trOp] at htr
    split at htr
    · rename_i x' i' hu hx' hi'
      simp only [Option.some.injEq, Prod.mk.injEq] at htr
      obtain ⟨rfl, rfl⟩ := htr
      simp only [pureV] at hv
      have hr := ev_rep ht hx'
      cases he : ev tm x' with
      | c y =>
        rw [he] at hr hv
        cases y <;> try (simp only [reduceCtorEq] at hv; done)
        rename_i s
        cases hn : idx (ev tm i') with
        | none => rw [hn] at hv; simp at hv
        | some n =>
          rw [hn] at hv
          simp only at hv
          obtain ⟨k, hk⟩ := rep_int (ev_rep ht hi') hn
          split at hv
          · rename_i hb
            simp only [Option.map_eq_some_iff] at hv
            obtain ⟨bt, hbt, rfl⟩ := hv
            refine ⟨_, ?_, .c _⟩
            simp [execOp, hop, Instr.index, hk, asIntOf, run_underlying hu, hr.of_c, hb, hbt]
          · cases hv
      | _ => rw [he] at hv; simp at hv
    · cases htr
  | slice t X lo hi mx =>
    rw [hop] at htr; simp only [trOp] at htr
    split at htr
    · rename_i e x' alo ahi amx hu hx' h1 h2 h3
      simp only [Option.map_eq_some_iff, Prod.mk.injEq] at htr
      obtain ⟨z, hz, rfl, rfl⟩ := htr
      simp only [pureV] at hv
      have hr := ev_rep ht hx'
      cases he : ev tm x' with
      | sl us i =>
        rw [he] at hr hv
        obtain ⟨r, h4, h5⟩ := slice_sl (P := P) hu hz hr ht h1 h2 h3 hv
        refine ⟨r, ?_, h5⟩
        simp only [execOp, hop]
        rw [Sem.run_bind, h4]
        rfl
      | row id off m zz =>
        rw [he] at hr hv
        obtain ⟨r, h4, h5⟩ := slice_row (P := P) hu hz hr ht h1 h2 h3 hv
        refine ⟨r, ?_, h5⟩
        simp only [execOp, hop]
        rw [Sem.run_bind, h4]
        rfl
      | _ => rw [he] at hv; simp at hv
    · rename_i x' alo ahi hu hx' h1 h2 h3
      simp only [Option.some.injEq, Prod.mk.injEq] at htr
      obtain ⟨rfl, rfl⟩ := htr
      simp only [pureV] at hv
      have hr := ev_rep ht hx'
      have hmx : mx = none := by
        cases mx with
        | none => rfl
        | some y => simp only [trAO, Option.map_eq_some_iff] at h3; obtain ⟨_, _, h3⟩ := h3; cases h3
      subst hmx
      cases he : ev tm x' with
      | c y =>
        rw [he] at hr hv
        cases y <;> simp only [reduceCtorEq] at hv
        rename_i s
        simp only [stV] at hv
        cases hl : optIdx tm 0 alo with
        | none => rw [hl] at hv; cases hv
        | some l =>
        cases hh : optIdx tm s.size ahi with
        | none => rw [hl, hh] at hv; cases hv
        | some h =>
        rw [hl, hh] at hv
        simp only at hv
        split at hv
        · rename_i hc
          simp only [Option.some.injEq] at hv; subst hv
          refine ⟨_, ?_, .c _⟩
          simp only [execOp, hop]
          rw [Sem.run_bind, Option.map_none, slice_str hu hr ht h1 h2 hl hh hc]
          rfl
        · cases hv
      | _ => rw [he] at hv; simp at hv
    · cases htr
  | extract X i =>
    rw [hop] at htr; simp only [trOp, Option.map_eq_some_iff, Prod.mk.injEq] at htr
    obtain ⟨x', hx', rfl, rfl⟩ := htr
    simp only [pureV] at hv
    have hr := ev_rep ht hx'
    cases he : ev tm x' with
    | tup vs =>
      rw [he] at hr hv
      simp only at hv
      obtain ⟨xs, hx, h1, h2⟩ := hr.of_tup
      obtain ⟨hlt, rfl⟩ := List.getElem?_eq_some_iff.1 hv
      have hlt' : i < xs.size := by omega
      refine ⟨xs[i], ?_, h2 i hlt' hlt⟩
      simp [execOp, hop, Instr.extract, hx, hlt']
    | _ => rw [he] at hv; simp at hv
  | call c =>
    rw [hop] at htr; simp only [trOp] at htr
    exact pureCall_ok hop htr ht hv
  | makeFunc fn first caps =>
    rw [hop] at htr
    cases fn with
    | func f =>
      simp only [trOp] at htr
      split at htr
      · rename_i hf
        simp only [Option.map_eq_some_iff, Prod.mk.injEq] at htr
        obtain ⟨cs, hcs, rfl, rfl⟩ := htr
        simp only [pureV, Option.some.injEq] at hv; subst hv
        obtain ⟨h1, h2⟩ := trAL_rep ht hcs
        have hfe : first = #[] := Array.eq_empty_of_size_eq_zero hf
        subst hfe
        refine ⟨.func (.func f) #[] (caps.map a.eval), by simp [execOp, hop, Instr.makeFunc], ?_⟩
        refine .clo f _ _ (by simpa using h1) (fun i hi hj => ?_)
        simp only [Array.getElem_map, List.getElem_map]
        have := h2 i (by simpa using hi) (by simpa using hj)
        simpa only [Array.getElem_toList] using this
      · cases htr
    | _ => simp [trOp] at htr
  | nilCheck X =>
    rw [hop] at htr; simp only [trOp, Option.map_eq_some_iff, Prod.mk.injEq] at htr
    obtain ⟨x', hx', rfl, rfl⟩ := htr
    simp only [pureV] at hv
    have hr := ev_rep ht hx'
    cases he : ev tm x' with
    | ref id o' =>
      rw [he] at hr hv
      simp only [Option.some.injEq] at hv; subst hv
      obtain ⟨b, hx, hb⟩ := hr.of_ref
      exact ⟨_, by simp [execOp, hop, hx], .ref id b _ hb⟩
    | ptr cs o' =>
      rw [he] at hr hv
      simp only [Option.some.injEq] at hv; subst hv
      obtain ⟨b, o0, cv, hx, h1, h2⟩ := hr.of_ptr
      exact ⟨.pointer (some ⟨b, o0 + o', none⟩), by simp [execOp, hop, hx], .ptr b o0 _ cs _ cv rfl h1 h2⟩
    | clo f cs =>
      rw [he] at hr hv
      simp only [Option.some.injEq] at hv; subst hv
      obtain ⟨xs, hx, h1, h2⟩ := hr.of_clo
      exact ⟨.func (.func f) #[] xs, by simp [execOp, hop, hx], .clo f xs cs h1 h2⟩
    | c y =>
      rw [he] at hr hv
      cases y <;> try (simp only [reduceCtorEq] at hv; done)
      rename_i fn p q
      cases fn <;> simp only [reduceCtorEq, Option.some.injEq] at hv
      subst hv
      exact ⟨_, by simp only [execOp, hop, hr.of_c]; rfl, .c _⟩
    | _ => rw [he] at hv; simp at hv
  | makeMap t r =>
    rw [hop] at htr
    cases r with
    | none =>
      simp only [trOp, Option.some.injEq, Prod.mk.injEq] at htr
      obtain ⟨rfl, rfl⟩ := htr
      simp [pureV] at hv
    | some r => simp [trOp] at htr
  | lookup t X k ok =>
    rw [hop] at htr; simp only [trOp] at htr
    split at htr
    · split at htr
      · split at htr
        · simp only [Option.some.injEq, Prod.mk.injEq] at htr
          obtain ⟨rfl, rfl⟩ := htr
          simp [pureV] at hv
        · cases htr
      · cases htr
    · cases htr
  | mapUpdate t m k u =>
    rw [hop] at htr; simp only [trOp] at htr
    split at htr
    · split at htr
      · simp only [Option.some.injEq, Prod.mk.injEq] at htr
        obtain ⟨rfl, rfl⟩ := htr
        simp [pureV] at hv
      · cases htr
    · cases htr
  | _ => rw [hop] at htr; simp [trOp] at htr
end
end Go.Proofs.YtkiliokeanmagaaDoor.Ab
