/- The walk over a tree, whole. -/
import Derived.Test.YtkiliokeanmagaaDoorAb22
namespace Go.Proofs.YtkiliokeanmagaaDoor.Ab
open Go
set_option linter.unusedVariables false
set_option linter.unusedSimpArgs false

mutual
theorem low_mono {n n' : Nat} (hn : n ≤ n') : ∀ v : V, V.low n v = true → V.low n' v = true
  | .c _, _ => rfl
  | .agg cs, h => lows_mono hn cs h
  | .tup cs, h => lows_mono hn cs h
  | .sl us i, h => by
    simp only [V.low, Bool.and_eq_true] at h ⊢
    refine ⟨lows_mono hn us h.1, ?_⟩
    cases i with
    | tok k => simp only [SI.low, decide_eq_true_eq] at h ⊢; omega
    | _ => rfl
  | .ptr cs _, h => lows_mono hn cs h
  | .ref id _, h => by simp only [V.low, decide_eq_true_eq] at h ⊢; omega
  | .clo _ cs, h => lows_mono hn cs h
  | .row i _ m _, h => by simp only [V.low, Bool.or_eq_true, decide_eq_true_eq] at h ⊢; exact h.imp (fun h => by omega) fun h => h
  | .buf id _, h => by simp only [V.low, decide_eq_true_eq] at h ⊢; omega
  | .tsl k _ _, h => by simp only [V.low, decide_eq_true_eq] at h ⊢; omega
  | .tref k _ _, h => by simp only [V.low, decide_eq_true_eq] at h ⊢; omega
  | .top, _ => rfl
  | .fmp _ vs, h => lows_mono hn vs h
  | .mref id, h => by simp only [V.low, decide_eq_true_eq] at h ⊢; omega
  | .yld k _ _ cs, h => by
    simp only [V.low, Bool.and_eq_true, decide_eq_true_eq] at h ⊢
    exact ⟨by omega, lows_mono hn cs h.2⟩
theorem lows_mono {n n' : Nat} (hn : n ≤ n') : ∀ vs : List V, V.lows n vs = true → V.lows n' vs = true
  | [], _ => rfl
  | v :: vs, h => by
    simp only [V.lows, Bool.and_eq_true] at h ⊢
    exact ⟨low_mono hn v h.1, lows_mono hn vs h.2⟩
end
theorem olow_mono {n n' : Nat} (hn : n ≤ n') {h : List O} (hl : h.all (O.low n) = true) : h.all (O.low n') = true := by
  rw [List.all_eq_true] at hl ⊢
  intro o ho
  have := hl o ho
  cases o with
  | cells cs => exact lows_mono hn cs this
  | tokc _ _ cs => exact lows_mono hn cs this
  | mapo _ vs => exact lows_mono hn vs this
  | _ => rfl

section
variable {P : Program} {rw : Bool} {pf : Nat → Nat} {nt q : Nat}
theorem trC_seq {c : Code} {x y : XC} (h : trC P rw pf nt q c = some (.seq x y)) : ∃ a b, c = .seq a b ∧ trC P rw pf nt q a = some x ∧ trC P rw pf nt (q + (rangesOf a).length) b = some y := by
  cases c <;> simp only [trC] at h
  case seq a b =>
    split at h
    · rename_i x' y' h1 h2
      simp only [Option.some.injEq, XC.seq.injEq] at h
      obtain ⟨rfl, rfl⟩ := h
      exact ⟨a, b, rfl, h1, h2⟩
    · cases h
  all_goals (first
    | (cases h; done)
    | (simp only [Option.map_eq_some_iff, reduceCtorEq, and_false, exists_false, Option.some.injEq] at h; done)
    | (repeat' split at h
       all_goals simp at h))
def noOne (xs : List XOper) : Bool := xs.all fun o => match o.op with
  | .load1 _ => false
  | _ => true
theorem noOne_map : ∀ {xs : List XOper}, noOne (xs.map one) = true → xs.map one = xs
  | [], _ => rfl
  | x :: xs, h => by
    simp only [noOne, List.map_cons, List.all_cons, Bool.and_eq_true] at h
    have ih := noOne_map (xs := xs) h.2
    rw [List.map_cons, ih]
    congr 1
    have h1 := h.1
    unfold one at h1 ⊢
    split
    · rename_i y hy
      rw [hy] at h1
      simp at h1
    · rfl
theorem trC_reg {c : Code} {xs : List XOper} {pre : List O} {d : Bool} (h : trC P rw pf nt q c = some (.reg xs pre d)) (hno : noOne xs = true := by rfl) : ∃ id ops, c = .region id ops d ∧ trOps P rw ops ops.toList 0 = some (xs, pre) ∧ (d = true → drawnOk pf ops.toList xs = true) := by
  cases c <;> simp only [trC] at h
  case region id ops d' =>
    split at h
    · cases h
    split at h
    · rename_i xs' pre' h1
      split at h
      · rename_i h2
        simp only [Option.some.injEq, XC.reg.injEq] at h
        obtain ⟨rfl, rfl, rfl⟩ := h
        exact ⟨id, ops, rfl, h1, h2⟩
      · split at h
        · simp at h
        · split at h
          · rename_i h2
            simp only [Option.some.injEq, XC.reg.injEq] at h
            obtain ⟨rfl, rfl, rfl⟩ := h
            rw [noOne_map hno] at h2 ⊢
            exact ⟨id, ops, rfl, h1, fun _ => h2.2⟩
          · simp at h
    · cases h
  all_goals (first
    | (cases h; done)
    | (simp only [Option.map_eq_some_iff, reduceCtorEq, and_false, exists_false, Option.some.injEq] at h; done)
    | (repeat' split at h
       all_goals simp at h))
theorem trC_block {c : Code} {id : Nat} {x : XC} (h : trC P rw pf nt q c = some (.block id x)) : ∃ a, c = .block id a ∧ trC P rw pf nt q a = some x := by
  cases c <;> simp only [trC] at h
  case block id' a =>
    simp only [Option.map_eq_some_iff, XC.block.injEq] at h
    obtain ⟨x', h1, rfl, rfl⟩ := h
    exact ⟨a, rfl, h1⟩
  all_goals (first
    | (cases h; done)
    | (simp only [Option.map_eq_some_iff, reduceCtorEq, and_false, exists_false, Option.some.injEq] at h; done)
    | (repeat' split at h
       all_goals simp at h))
theorem trC_loop {c : Code} {x : XC} (h : trC P rw pf nt q c = some (.loop x)) : ∃ a, c = .loop a ∧ trC P rw pf nt q a = some x := by
  cases c <;> simp only [trC] at h
  case loop a =>
    simp only [Option.map_eq_some_iff, XC.loop.injEq] at h
    obtain ⟨x', h1, rfl⟩ := h
    exact ⟨a, rfl, h1⟩
  all_goals (first
    | (cases h; done)
    | (simp only [Option.map_eq_some_iff, reduceCtorEq, and_false, exists_false, Option.some.injEq] at h; done)
    | (repeat' split at h
       all_goals simp at h))
/-- Code that translates to something without a loop over a function has none. -/
theorem noRF_ranges : ∀ (c : Code) (q : Nat) (x : XC), noRF x = true → trC P rw pf nt q c = some x → rangesOf c = [] := by
  intro c
  induction c with
  | seq a b iha ihb =>
    intro q x hx h
    simp only [trC] at h
    split at h
    · rename_i x1 x2 h1 h2
      simp only [Option.some.injEq] at h
      subst h
      simp only [noRF, Bool.and_eq_true] at hx
      simp only [rangesOf, iha _ _ hx.1 h1, ihb _ _ hx.2 h2, List.append_nil]
    · cases h
  | cond cc a b iha ihb =>
    intro q x hx h
    simp only [trC] at h
    split at h
    · rename_i x0 x1 x2 h0 h1 h2
      simp only [Option.some.injEq] at h
      subst h
      simp only [noRF, Bool.and_eq_true] at hx
      simp only [rangesOf, iha _ _ hx.1 h1, ihb _ _ hx.2 h2, List.append_nil]
    · cases h
  | block id c ih =>
    intro q x hx h
    simp only [trC, Option.map_eq_some_iff] at h
    obtain ⟨y, h1, rfl⟩ := h
    exact ih q y hx h1
  | loop c ih =>
    intro q x hx h
    simp only [trC, Option.map_eq_some_iff] at h
    obtain ⟨y, h1, rfl⟩ := h
    exact ih q y hx h1
  | rangeFunc f ps a b _ _ =>
    intro q x hx h
    simp only [trC, Option.map_eq_some_iff] at h
    obtain ⟨y, h1, rfl⟩ := h
    simp [noRF] at hx
  | _ => intro q x hx h; rfl
end

def eR1 : XC := .reg [⟨(some 3), (.box 0 (.t 0)), none⟩, ⟨(some 6), (.mv (.k (.c (.bool false)))), none⟩] [.dead] false
def eR2 : XC := .reg [⟨(some 9), (.mv (.t 2)), none⟩, ⟨(some 10), (.load (some 4) (.t 3)), none⟩, ⟨(some 11), (.mv (.t 1)), none⟩, ⟨(some 12), (.call (.t 9) [(.t 10), (.t 11)]), none⟩, ⟨(some 13), (.un .not (.t 12)), none⟩] [] false
def eR3 : XC := .reg [⟨(some 6), (.mv (.k (.c (.bool false)))), none⟩] [] false
def eR4 : XC := .reg [⟨(some 14), (.fieldAddr 3 (.t 3)), none⟩, ⟨(some 15), (.load none (.t 14)), none⟩, ⟨(some 16), (.len false (.t 15)), none⟩, ⟨(some 17), (.mv (.k (.c (.int .i64 0)))), none⟩] [] false
def eR5 : XC := .reg [⟨(some 18), (.bin .lss 0 (.t 17) (.t 16)), none⟩] [] false
def eR6 : XC := .reg [⟨(some 19), (.mv (.t 17)), none⟩, ⟨(some 20), (.indexAddr 4 (.t 15) (.t 17)), none⟩, ⟨(some 21), (.load (some 4) (.t 20)), none⟩, ⟨(some 8), (.alloc 0 [(.c (.int .i64 0)), (.c (.int .i64 0)), (.c (.string ⟨#[]⟩)), (.sl [] .nil)]), none⟩, ⟨(some 7), (.mv (.t 19)), none⟩, ⟨none, (.store 4 (.t 8) (.t 21)), none⟩] [(.cells [(.c (.int .i64 0)), (.c (.int .i64 0)), (.c (.string ⟨#[]⟩)), (.sl [] .nil)])] false
def eR7 (F : Nat) : XC := .reg (kidOps F) [(.tok 1 1), .dead] true
def eR9 : XC := .reg [⟨(some 30), (.bin .add 0 (.t 17) (.k (.c (.int .i64 1)))), none⟩, ⟨(some 17), (.mv (.t 30)), none⟩] [] false
def eR11 : XC := .reg [⟨(some 6), (.mv (.k (.c (.bool true)))), none⟩] [] false
def eL (F : Nat) : XC := (.seq eR5 (.seq (.cond (.t 18) .skip (.exit 0)) (.seq (.block 1 (.seq eR6 (.seq (eR7 F) (.cond (.t 29) (.seq eR3 .ret) .skip)))) eR9)))
def eachX (F : Nat) : XC := (.seq eR1 (.seq (.seq eR2 (.cond (.t 13) (.seq eR3 .ret) .skip)) (.seq (.seq eR4 (.block 0 (.loop (eL F)))) (.seq eR11 .ret))))
def eachF (F : Nat) : XF := ⟨31, eachX F, [(.t 6)], false, false, false, none⟩

/-- What holds of the temporaries within the loop. -/
structure InL (m : Nat) (ps : List Int) (pv fv : V) (us : List V) (si : SI) (i : Nat) (tm : List V) : Prop where
  len : tm.length = 31
  t1 : tm[1]? = some pv
  t2 : tm[2]? = some fv
  t15 : tm[15]? = some (.sl us si)
  t16 : tm[16]? = some (I64 us.length)
  t17 : tm[17]? = some (I64 i)

theorem ev_t {tm : List V} {i : Nat} {v : V} (h : tm[i]? = some v) : ev tm (.t i) = v := by simp [ev, h]

theorem run5 {cf : CallF} {n m : Nat} {ps : List Int} {pv fv : V} {us : List V} {si : SI} {i : Nat} {tm : List V} (I : InL m ps pv fv us si i tm) (h : List O) (base rb : Nat) :
    exec cf n eR5 ⟨tm, h, base, rb⟩ = some (.normal, ⟨tm.set 18 (.c (.bool (decide ((i : Int) < us.length)))), h, base, h.length⟩) := by
  simp [eR5, exec, runOps, stepO, known, wants, act, pureV, putV, ev, I.t17, I.t16, I64, binV, binI]
theorem InL.set {m : Nat} {ps : List Int} {pv fv : V} {us : List V} {si : SI} {i : Nat} {tm : List V} (I : InL m ps pv fv us si i tm) {d : Nat} (hd : d ∉ [1, 2, 15, 16, 17]) (v : V) : InL m ps pv fv us si i (tm.set d v) := by
  simp only [List.mem_cons, List.not_mem_nil, or_false, not_or] at hd
  obtain ⟨h1, h2, h3, h4, h5⟩ := hd
  exact ⟨by rw [List.length_set]; exact I.len, by rw [List.getElem?_set_ne h1]; exact I.t1, by rw [List.getElem?_set_ne h2]; exact I.t2, by rw [List.getElem?_set_ne h3]; exact I.t15, by rw [List.getElem?_set_ne h4]; exact I.t16, by rw [List.getElem?_set_ne h5]; exact I.t17⟩

/-- The kid, in a variable of its own. -/
theorem run6 {cf : CallF} {n m : Nat} {ps : List Int} {pv fv : V} {us : List V} {si : SI} {i : Nat} {tm : List V} (I : InL m ps pv fv us si i tm) {c1 c2 c3 c4 : V} (hu : us[i]? = some (.agg [c1, c2, c3, c4])) (h : List O) (base rb : Nat) :
    exec cf n eR6 ⟨tm, h, base, rb⟩ = some (.normal, ⟨(((((tm.set 19 (I64 i)).set 20 (.ptr [c1, c2, c3, c4] 0)).set 21 (.agg [c1, c2, c3, c4])).set 8 (.ref h.length 0)).set 7 (I64 i)), h ++ [.cells [c1, c2, c3, c4]], base, h.length⟩) := by
  have hi : i < us.length := (List.getElem?_eq_some_iff.1 hu).1
  have l := I.len
  have g15 : tm[15]'(by omega) = .sl us si := (List.getElem?_eq_some_iff.1 I.t15).2
  have g17 : tm[17]'(by omega) = .c (.int .i64 i) := (List.getElem?_eq_some_iff.1 I.t17).2
  have gu : us[i]'hi = .agg [c1, c2, c3, c4] := (List.getElem?_eq_some_iff.1 hu).2
  simp [eR6, exec, runOps, stepO, known, wants, act, pureV, putV, ev, g15, g17, I64, idx, hi, gu, V.cells, rdV, l, okc, splice]
end Go.Proofs.YtkiliokeanmagaaDoor.Ab
