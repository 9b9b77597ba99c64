/- Code, functions, calls. -/
import Derived.Test.YtkiliokeanmagaaDoorAb17
import Derived.Sort.LoopGhostIn
namespace Go.Proofs.YtkiliokeanmagaaDoor.Ab
open Go
set_option linter.unusedVariables false
set_option linter.unusedSimpArgs false

/-- The temporaries that code looks at, and those that it writes. -/
def tmpOf : Operand → List Nat
  | .tmp t => [t]
  | _ => []
def tmpsOf : Code → List Nat
  | .region _ ops _ => ops.toList.flatMap fun o => o.op.operands.toList.flatMap tmpOf
  | .seq a b => tmpsOf a ++ tmpsOf b
  | .cond c a b => tmpOf c ++ (tmpsOf a ++ tmpsOf b)
  | .block _ c => tmpsOf c
  | .loop c => tmpsOf c
  | .rangeFunc f _ a b => tmpOf f ++ (tmpsOf a ++ tmpsOf b)
  | _ => []
def dstsOf : Code → List Nat
  | .region _ ops _ => ops.toList.filterMap fun o => o.dst
  | .seq a b => dstsOf a ++ dstsOf b
  | .cond _ a b => dstsOf a ++ dstsOf b
  | .block _ c => dstsOf c
  | .loop c => dstsOf c
  | .rangeFunc _ ps a b => ps.toList ++ (dstsOf a ++ dstsOf b)
  | _ => []
/-- Does a region panic? Nothing is known of one that does. -/
def hasPanic (l : List Oper) : Bool := l.any fun o => match o.op with
  | .panic _ => true
  | _ => false
/-- Code of which nothing is known. -/
abbrev failX : XC := .cond (.k undefV) .skip .skip
/-- y: the number of the first loop over a function in this code. -/
def trC (P : Program) (rw : Bool) (pf : Nat → Nat) (nt : Nat) : Nat → Code → Option XC
  | _, .skip => some .skip
  | _, .region _ ops drawn => if hasPanic ops.toList = true then some failX else match trOps P rw ops ops.toList 0 with
    | some (xs, pres) => if drawn = true → drawnOk pf ops.toList xs = true then some (.reg xs pres drawn) else if drawn = true ∧ drawnW pf ops.toList xs = true then some (.regw xs pres) else
        if drawn = true ∧ drawnOk pf ops.toList (xs.map one) = true then some (.reg (xs.map one) pres drawn) else some failX
    | none => some failX
  | y, .seq a b => match trC P rw pf nt y a, trC P rw pf nt (y + (rangesOf a).length) b with
    | some x, some z => some (.seq x z)
    | _, _ => none
  | y, .cond c a b => match trA c, trC P rw pf nt y a, trC P rw pf nt (y + (rangesOf a).length) b with
    | some c, some x, some z => some (.cond c x z)
    | _, _, _ => none
  | y, .block id c => (trC P rw pf nt y c).map (.block id)
  | y, .loop c => (trC P rw pf nt y c).map .loop
  | _, .exit id => some (.exit id)
  | _, .ret => some .ret
  | y, .rangeFunc f ps a b => (trA f).map fun f => .rangeF f y ps.size nt ((tmpsOf a ++ tmpsOf b).filter fun i => !(dstsOf a ++ dstsOf b ++ ps.toList).contains i).eraseDups
  | _, _ => none
/-- Without a loop over a function. -/
def noRF : XC → Bool
  | .seq a b => noRF a && noRF b
  | .cond _ a b => noRF a && noRF b
  | .block _ c => noRF c
  | .loop c => noRF c
  | .rangeF _ _ _ _ _ => false
  | _ => true
def YcOk (y : Nat) (c : Code) : Prop := ∀ (j : Nat) (p : Array Tmp × Code × Code), (rangesOf c)[j]? = some p → yc (y + j) = some p
theorem YcOk.left {y : Nat} {l l' : List (Array Tmp × Code × Code)} (h : ∀ (j : Nat) p, (l ++ l')[j]? = some p → yc (y + j) = some p) : ∀ (j : Nat) p, l[j]? = some p → yc (y + j) = some p :=
  fun j p e => h j p (by rw [List.getElem?_append_left (List.getElem?_eq_some_iff.1 e).1]; exact e)
theorem YcOk.right {y : Nat} {l l' : List (Array Tmp × Code × Code)} (h : ∀ (j : Nat) p, (l ++ l')[j]? = some p → yc (y + j) = some p) : ∀ (j : Nat) p, l'[j]? = some p → yc (y + l.length + j) = some p :=
  fun j p e => by
    have := h (l.length + j) p (by rw [List.getElem?_append_right (by omega), Nat.add_sub_cancel_left]; exact e)
    rw [Nat.add_assoc]
    exact this
def trR (P : Program) : List ResultVar → Option (List XR)
  | [] => some []
  | .tmp t :: r => (trR P r).map (.t t :: ·)
  | .cell t ty :: r => match nT P ty, trR P r with
    | some n, some l => some (.cell t n :: l)
    | _, _ => none
def trF (P : Program) (pf : Nat → Nat) (y : Nat) (pu es rw : Bool) (fn : Func) : Option XF :=
  if (fn.name == "runtime.NumGoroutine") = true then none else
  match fn.body with
  | some c => if (rangesOf c).length ≤ 100 then match trC P rw pf fn.ntmps y c, trR P fn.results.toList with
    | some xc, some rs => some ⟨fn.ntmps, xc, rs, pu, es, rw, none⟩
    | _, _ => none
    else none
  | none => none

/-- The marks that loops over functions have left; what a round's frame leans on. -/
structure Env (m : Nat) (ρ : Option Nat) (w : World) (ds : List Deferred) : Prop where
  lo : m ≤ w.heap.size
  nd : ds.Nodup
  mks : ∀ d ∈ ds, ∃ D, d = { target := .collected D, args := #[] } ∧ m ≤ D ∧ w.heap[D]? = some (.deferred (some []))
  rho : ∀ l, ρ = some l → ∃ L, w.heap[l]? = some (.loop L)
theorem HOk.unowned {g : Gh} {w : World} {h : List O} (H : HOk g w h) {b : Nat} {o : Obj} (e : w.heap[b]? = some o) (h1 : cellsB o = false) (h2 : ∀ L, o ≠ .loop L) (h3 : ∀ es ck, o ≠ .map es ck) : ¬ g.owns b := by
  rintro (⟨id, k⟩ | ⟨k, l, c, q⟩)
  · rcases H.obj _ _ k with ⟨_, _, _, _, q, _⟩ | ⟨_, L, _, q, _⟩ | ⟨_, _, es, ck, _, q, _⟩
    · rw [e] at q; cases q; cases h1
    · rw [e] at q; cases q; exact h2 _ rfl
    · rw [e] at q; cases q; exact h3 _ _ rfl
  · obtain ⟨_, _, _, _, q, _⟩ := H.tok _ _ _ _ q
    rw [e] at q; cases q; cases h1
theorem Env.go {m : Nat} {ρ : Option Nat} {g g' : Gh} {w w' : World} {h : List O} {ds : List Deferred} (E : Env m ρ w ds) (H : HOk g w h) (hle : Le g w g' w') : Env m ρ w' ds where
  lo := Nat.le_trans E.lo hle.size
  nd := E.nd
  mks d hd := by
    obtain ⟨D, e, h1, h2⟩ := E.mks d hd
    exact ⟨D, e, h1, (hle.kept D (Array.getElem?_eq_some_iff.1 h2).1 (H.unowned h2 rfl (fun L => by simp) (fun es ck => by simp))).trans h2⟩
  rho l e := by
    obtain ⟨L, h1⟩ := E.rho l e
    obtain ⟨o', h2, _, ⟨L', rfl, _⟩, _⟩ := hle.oth l _ h1 rfl
    exact ⟨L', h2⟩
/-- A block that nobody knows of. -/
theorem HOk.more {g : Gh} {w w' : World} {h : List O} (H : HOk g w h) {o : Obj} (hg : Grew w w' o) : Le g w g w' ∧ HOk g w' h := by
  have hle : Le g w g w' := Le.quiet (fun _ _ h => h) (fun _ _ h => h) (fun _ _ h => h) H.al (fun _ h _ => h) (fun _ _ h _ => .inl h) (fun b hb => hg.old hb) (by rw [hg.size]; omega) hg.tape hg.os hg.output
  refine ⟨hle, fun id b e => ?_, fun id b n cap e => ?_, H.inj, H.tinj, H.bt, H.ag.go hle fun b o h => by have := H.al b o h; rw [hg.size]; omega⟩
  · have hlt := (H.blk_lt e).2
    rcases H.obj _ _ e with ⟨cs, c, T, h1, h2, h3, h4, h5⟩ | t
    · exact .inl ⟨cs, c, T, h1, (hg.old hlt).trans h2, h3, fun j hj hc => ⟨(h4 j hj hc).1.mono hle, (h4 j hj hc).2⟩, h5⟩
    · exact .inr (t.go hle rfl (hg.old hlt) fun _ h => h)
  · have hlt := (H.tok_lt e).2
    obtain ⟨z, c, T, h1, h2, h3⟩ := H.tok _ _ _ _ e
    exact ⟨z, c, T, h1.go hle rfl (fun _ h => h), (hg.old hlt).trans h2, h3⟩

def Ex.to : Ex → Exit
  | .normal => .normal
  | .exit id => .exit id
  | .ret => .ret

section
variable {P : Program}

/-- The statement is entered. -/
theorem enter_ok {m : Nat} {ρ : Option Nat} {g : Gh} {w : World} {a : Act} {st : St} {ds : List Deferred} (S : Sim ds g w a st) (E : Env m ρ w ds) (fn : FuncId) {y : Nat} {ps : Array Tmp} {asg body : Code} (hy : yc y = some (ps, asg, body)) :
    ∃ l mark w2 g2, (Instr.enterLoop fn a.tmps ps asg body ρ).run P w = .ok (l, mark) w2 ∧ Le g w g2 w2 ∧ HOk g2 w2 (st.h ++ [.loop 0]) ∧ g2.blk st.h.length = some l ∧ LoopAt w2 l y ps.size a.tmps ∧
      (∀ id, id < st.h.length → g2.blk id = g.blk id ∧ g2.tok id = g.tok id) ∧ Env m ρ w2 (mark ++ ds) := by
  have hset : (st.h ++ [O.loop 0]).set st.h.length (.loop 0) = st.h ++ [.loop 0] := by simp
  have fin : ∀ (w1 : World) (L : Loop) (ms : List Deferred), Le g w g w1 → HOk g w1 st.h → L.state = .ready → L.pending = none → L.tmps = a.tmps → L.params = ps → L.assign = asg → L.body = body → Env m ρ w1 (ms ++ ds) →
      ∃ g2, Le g w g2 (w1.alloc (.loop L)) ∧ HOk g2 (w1.alloc (.loop L)) (st.h ++ [.loop 0]) ∧ g2.blk st.h.length = some w1.heap.size ∧ LoopAt (w1.alloc (.loop L)) w1.heap.size y ps.size a.tmps ∧
        (∀ id, id < st.h.length → g2.blk id = g.blk id ∧ g2.tok id = g.tok id) ∧ Env m ρ (w1.alloc (.loop L)) (ms ++ ds) := by
    intro w1 L ms hle1 H1 e1 e2 e3 e4 e5 e6 E1
    have H2 := H1.append [.loop 0]
    have hb : g.blk st.h.length = none := H1.blk_none (Nat.le_refl _)
    have ht : g.tok st.h.length = none := H1.tok_none (Nat.le_refl _)
    obtain ⟨hle2, H3⟩ := H2.newOth (id := st.h.length) (by simp) hb ht (ob := .loop L) (x := .loop 0) (Grew.alloc w1 _) (fun g' h' hf hx => .inl ⟨0, L, hx, (Grew.alloc w1 _).new, ⟨e1, e2⟩, hf⟩)
    rw [hset] at H3
    refine ⟨_, hle1.trans hle2, H3, by simp [Gh.setBlk], ⟨L, (Grew.alloc w1 _).new, e3, by rw [e4, e5, e6]; exact hy, by rw [e4]⟩, fun id hid => ?_, E1.go H2 hle2⟩
    have : id ≠ st.h.length := by omega
    simp [Gh.setBlk, this]
  cases ρ with
  | none =>
    obtain ⟨hle1, H1⟩ := S.hk.more (Grew.alloc w (.deferred (some [])))
    have hD : (w.alloc (.deferred (some []))).heap[w.heap.size]? = some (.deferred (some [])) := (Grew.alloc w _).new
    have E1 : Env m none (w.alloc (.deferred (some []))) ([{ target := .collected w.heap.size, args := #[] }] ++ ds) := by
      have E0 := E.go S.hk hle1
      refine ⟨E0.lo, ?_, fun d hd => ?_, E0.rho⟩
      · simp only [List.cons_append, List.nil_append, List.nodup_cons]
        refine ⟨fun hin => ?_, E.nd⟩
        obtain ⟨D, e, _, h2⟩ := E.mks _ hin
        simp only [Deferred.mk.injEq, Target.collected.injEq, and_true] at e
        have := (Array.getElem?_eq_some_iff.1 h2).1
        omega
      · simp only [List.cons_append, List.nil_append, List.mem_cons] at hd
        rcases hd with rfl | hd
        · exact ⟨_, rfl, E.lo, hD⟩
        · exact E0.mks d hd
    obtain ⟨g2, k1, k2, k3, k4, k5, k6⟩ := fin (w.alloc (.deferred (some []))) { state := .ready, pending := none, fn, tmps := a.tmps, params := ps, assign := asg, body, defers := w.heap.size } _ hle1 H1 rfl rfl rfl rfl rfl rfl E1
    exact ⟨_, _, _, g2, run_enterLoop_outer fn a.tmps ps asg body, k1, k2, by rw [k3]; simp, by simpa using k4, k5, k6⟩
  | some l0 =>
    obtain ⟨L0, hL0⟩ := E.rho l0 rfl
    obtain ⟨g2, k1, k2, k3, k4, k5, k6⟩ := fin w { state := .ready, pending := none, fn, tmps := a.tmps, params := ps, assign := asg, body, defers := L0.defers } [] (Le.refl _ _) S.hk rfl rfl rfl rfl rfl rfl (by simpa using E)
    refine ⟨w.heap.size, [], _, g2, ?_, k1, k2, k3, k4, k5, k6⟩
    simp only [Instr.enterLoop, Sem.run_bind, run_getLoop hL0, Result.andThen_ok, Sem.run_pure, run_newObj_alloc]

theorem exec_ok {rw : Bool} {pf : Nat → Nat} {cf : CallF} (hp : PureCf pf cf) (hcf : CallOk P cf) (hm : P.follows .mixedOrders = true) {base m nn : Nat} {ρ : Option Nat} (n : Nat) {nt : Nat} : ∀ (c : Code) (y : Nat) (xc : XC), trC P rw pf nt y c = some xc → YcOk y c → ∀ (ds : List Deferred) (g : Gh) (w : World) (a : Act) (st st' : St) (e : Ex),
    exec cf n xc st = some (e, st') → Sim ds g w a st → base ≤ st.h.length → Env m ρ w ds → ∀ Q : Exit → Act → World → Prop,
    (∀ ds' a' w' g', Le g w g' w' → Sim ds' g' w' a' st' → Quiet (Frb base st.h) g st.h g' st'.h → base ≤ st'.h.length → Env m ρ w' ds' → (noRF xc = true → ds' = ds) → Q e.to a' w') → c.wpIn (FR ρ) nn P Q a w := by
  have hgrow : ∀ xs st st', runOps cf xs st = some st' → st.h.length ≤ st'.h.length := by
    intro xs
    induction xs with
    | nil => intro st st' h; simp only [runOps, Option.some.injEq] at h; rw [h]; exact Nat.le_refl _
    | cons x xs ih =>
      intro st st' h
      simp only [runOps] at h
      split at h
      · rename_i s1 h1
        exact Nat.le_trans (step_len h1) (ih _ _ h)
      · cases h
  have hgrowW : ∀ xs st st', runW cf xs st = some st' → st.h.length ≤ st'.h.length := by
    intro xs
    induction xs with
    | nil => intro st st' h; simp only [runW, Option.some.injEq] at h; rw [h]; exact Nat.le_refl _
    | cons x xs ih =>
      intro st st' h
      simp only [runW] at h
      split at h
      · rename_i s1 h1
        exact Nat.le_trans (stepW_len h1) (ih _ _ h)
      · cases h
  intro c
  induction c with
  | skip =>
    intro y xc htr hyc ds g w a st st' e hex S hb E Q hQ
    simp only [trC, Option.some.injEq] at htr
    subst htr
    simp only [exec, Option.some.injEq, Prod.mk.injEq] at hex
    obtain ⟨rfl, rfl⟩ := hex
    exact wpIn_skip (hQ _ _ _ _ (Le.refl _ _) S (Quiet.refl _ _ _) hb E fun _ => rfl)
  | region id ops drawn =>
    intro y xc htr hyc ds g w a st st' e hex S hb E Q hQ
    simp only [trC] at htr
    split at htr
    · simp only [Option.some.injEq] at htr
      subst htr
      simp [exec, ev, undefV] at hex
    split at htr
    · rename_i xs pres h1
      split at htr
      · rename_i hd
        simp only [Option.some.injEq] at htr
        subst htr
        simp only [exec, Option.map_eq_some_iff, Prod.mk.injEq] at hex
        obtain ⟨s1, h2, rfl, rfl⟩ := hex
        refine region_ok hp hcf hm h1 hd S h2 fun a' w' g' k1 k2 k3 => hQ _ _ _ _ k1 k2 (k3.mono fun id hid => hid.imp (fun h => Nat.le_trans hb h) fun h => h) ?_ (E.go S.hk k1) fun _ => rfl
        have := hgrow _ _ _ h2
        simp only [List.length_append] at this
        omega
      · split at htr
        · rename_i hd
          obtain ⟨rfl, hd⟩ := hd
          simp only [Option.some.injEq] at htr
          subst htr
          simp only [exec, Option.map_eq_some_iff, Prod.mk.injEq] at hex
          obtain ⟨s1, h2, rfl, rfl⟩ := hex
          refine region_okW hcf hm h1 hd S h2 fun a' w' g' k1 k2 k3 => hQ _ _ _ _ k1 k2 (k3.mono fun id hid => hid.imp (fun h => Nat.le_trans hb h) fun h => h) ?_ (E.go S.hk k1) fun _ => rfl
          have := hgrowW _ _ _ h2
          simp only [List.length_append] at this
          omega
        · split at htr
          · rename_i hd
            obtain ⟨rfl, hd⟩ := hd
            simp only [Option.some.injEq] at htr
            subst htr
            simp only [exec, Option.map_eq_some_iff, Prod.mk.injEq] at hex
            obtain ⟨s1, h2, rfl, rfl⟩ := hex
            refine region_okF hp hcf hm h1 one one_ok hd S h2 fun a' w' g' k1 k2 k3 => hQ _ _ _ _ k1 k2 (k3.mono fun id hid => hid.imp (fun h => Nat.le_trans hb h) fun h => h) ?_ (E.go S.hk k1) fun _ => rfl
            have := hgrow _ _ _ h2
            simp only [List.length_append] at this
            omega
          · simp only [Option.some.injEq] at htr
            subst htr
            simp [exec, ev, undefV] at hex
    · simp only [Option.some.injEq] at htr
      subst htr
      simp [exec, ev, undefV] at hex
  | seq c1 c2 ih1 ih2 =>
    intro y xc htr hyc ds g w a st st' e hex S hb E Q hQ
    simp only [trC] at htr
    split at htr
    · rename_i x z h1 h2
      simp only [Option.some.injEq] at htr
      subst htr
      have hy1 : YcOk y c1 := YcOk.left hyc
      have hy2 : YcOk (y + (rangesOf c1).length) c2 := YcOk.right hyc
      simp only [exec] at hex
      simp only [noRF, Bool.and_eq_true] at hQ
      split at hex
      · rename_i s1 h3
        refine wpIn_seq (ih1 _ _ h1 hy1 ds g w a st s1 _ h3 S hb E _ fun ds' a' w' g' k1 k2 k3 k4 k5 k6 => ?_)
        exact ih2 _ _ h2 hy2 ds' g' w' a' s1 st' e hex k2 k4 k5 _ fun ds'' a'' w'' g'' m1 m2 m3 m4 m5 m6 => hQ _ _ _ _ (k1.trans m1) m2 (k3.transL k2.hk k1 m3) m4 m5 fun h => (m6 h.2).trans (k6 h.1)
      · rename_i hne
        have hn : ∀ s, e ≠ .normal ∨ s ≠ st' := fun s => by
          cases e with
          | normal => exact .inr fun h => by subst h; exact hne _ hex
          | exit id => exact .inl (by simp)
          | ret => exact .inl (by simp)
        refine wpIn_seq (ih1 _ _ h1 hy1 ds g w a st st' e hex S hb E _ fun ds' a' w' g' k1 k2 k3 k4 k5 k6 => ?_)
        cases e with
        | normal => exact absurd hex (hne _)
        | exit id => exact hQ _ _ _ _ k1 k2 k3 k4 k5 fun h => k6 h.1
        | ret => exact hQ _ _ _ _ k1 k2 k3 k4 k5 fun h => k6 h.1
    · cases htr
  | cond cc c1 c2 ih1 ih2 =>
    intro y xc htr hyc ds g w a st st' e hex S hb E Q hQ
    simp only [trC] at htr
    split at htr
    · rename_i xcc x z h0 h1 h2
      simp only [Option.some.injEq] at htr
      subst htr
      have hy1 : YcOk y c1 := YcOk.left hyc
      have hy2 : YcOk (y + (rangesOf c1).length) c2 := YcOk.right hyc
      simp only [exec] at hex
      simp only [noRF, Bool.and_eq_true] at hQ
      split at hex
      · rename_i t ht
        have hr := ev_rep S.tm h0
        rw [ht] at hr
        refine wpIn_cond hr.of_c ?_
        cases t with
        | true => exact ih1 _ _ h1 hy1 ds g w a st st' e (by simpa using hex) S hb E Q fun ds' a' w' g' k1 k2 k3 k4 k5 k6 => hQ _ _ _ _ k1 k2 k3 k4 k5 fun h => k6 h.1
        | false => exact ih2 _ _ h2 hy2 ds g w a st st' e (by simpa using hex) S hb E Q fun ds' a' w' g' k1 k2 k3 k4 k5 k6 => hQ _ _ _ _ k1 k2 k3 k4 k5 fun h => k6 h.2
      · cases hex
    · cases htr
  | block id c ih =>
    intro y xc htr hyc ds g w a st st' e hex S hb E Q hQ
    simp only [trC, Option.map_eq_some_iff] at htr
    obtain ⟨x, h1, rfl⟩ := htr
    simp only [exec] at hex
    simp only [noRF] at hQ
    split at hex
    · rename_i id' s1 h2
      refine wpIn_block (ih _ _ h1 hyc ds g w a st s1 _ h2 S hb E _ fun ds' a' w' g' k1 k2 k3 k4 k5 k6 => ?_)
      simp only [Ex.to, Exit.inBlock]
      split at hex
      · rename_i hid
        simp only [Option.some.injEq, Prod.mk.injEq] at hex
        obtain ⟨rfl, rfl⟩ := hex
        rw [if_pos hid]
        exact hQ _ _ _ _ k1 k2 k3 k4 k5 k6
      · rename_i hid
        simp only [Option.some.injEq, Prod.mk.injEq] at hex
        obtain ⟨rfl, rfl⟩ := hex
        rw [if_neg hid]
        exact hQ _ _ _ _ k1 k2 k3 k4 k5 k6
    · rename_i hne
      refine wpIn_block (ih _ _ h1 hyc ds g w a st st' e hex S hb E _ fun ds' a' w' g' k1 k2 k3 k4 k5 k6 => ?_)
      cases e with
      | normal => exact hQ _ _ _ _ k1 k2 k3 k4 k5 k6
      | exit id => exact absurd hex (hne _ _)
      | ret => exact hQ _ _ _ _ k1 k2 k3 k4 k5 k6
  | loop c ih =>
    intro y xc htr hyc ds g w a st st' e hex S hb E Q hQ
    simp only [trC, Option.map_eq_some_iff] at htr
    obtain ⟨x, h1, rfl⟩ := htr
    simp only [exec] at hex
    simp only [noRF] at hQ
    refine wpIn_loop_ghost (fun k a1 w1 => ∃ ds1 g1 s1, Le g w g1 w1 ∧ Sim ds1 g1 w1 a1 s1 ∧ Quiet (Frb base st.h) g st.h g1 s1.h ∧ base ≤ s1.h.length ∧ Env m ρ w1 ds1 ∧ (noRF x = true → ds1 = ds) ∧ iter (exec cf n x) k s1 = some (e, st')) n ⟨ds, g, st, Le.refl _ _, S, Quiet.refl _ _ _, hb, E, fun _ => rfl, hex⟩ ?_
    rintro k a1 w1 ⟨ds1, g1, s1, l1, S1, q1, b1, E1, d1, hit⟩
    cases k with
    | zero => simp [iter] at hit
    | succ k =>
      simp only [iter] at hit
      split at hit
      · rename_i s2 h2
        exact ih _ _ h1 hyc ds1 g1 w1 a1 s1 s2 _ h2 S1 b1 E1 _ fun ds' a' w' g' k1 k2 k3 k4 k5 k6 => ⟨k, Nat.lt_succ_self _, ds', g', s2, l1.trans k1, k2, q1.transL S1.hk l1 k3, k4, k5, fun h => (k6 h).trans (d1 h), hit⟩
      · rename_i hne
        refine ih _ _ h1 hyc ds1 g1 w1 a1 s1 st' e hit S1 b1 E1 _ fun ds' a' w' g' k1 k2 k3 k4 k5 k6 => ?_
        cases e with
        | normal => exact absurd hit (hne _)
        | exit id => exact hQ _ _ _ _ (l1.trans k1) k2 (q1.transL S1.hk l1 k3) k4 k5 fun h => (k6 h).trans (d1 h)
        | ret => exact hQ _ _ _ _ (l1.trans k1) k2 (q1.transL S1.hk l1 k3) k4 k5 fun h => (k6 h).trans (d1 h)
  | exit id =>
    intro y xc htr hyc ds g w a st st' e hex S hb E Q hQ
    simp only [trC, Option.some.injEq] at htr
    subst htr
    simp only [exec, Option.some.injEq, Prod.mk.injEq] at hex
    obtain ⟨rfl, rfl⟩ := hex
    exact wpIn_exit (hQ _ _ _ _ (Le.refl _ _) S (Quiet.refl _ _ _) hb E fun _ => rfl)
  | ret =>
    intro y xc htr hyc ds g w a st st' e hex S hb E Q hQ
    simp only [trC, Option.some.injEq] at htr
    subst htr
    simp only [exec, Option.some.injEq, Prod.mk.injEq] at hex
    obtain ⟨rfl, rfl⟩ := hex
    exact wpIn_ret (hQ _ _ _ _ (Le.refl _ _) S (Quiet.refl _ _ _) hb E fun _ => rfl)
  | rangeFunc f ps asg body _ _ =>
    intro y xc htr hyc ds g w a st st' e hex S hb E Q hQ
    simp only [trC, Option.map_eq_some_iff] at htr
    obtain ⟨fa, hfa, rfl⟩ := htr
    have hy : yc y = some (ps, asg, body) := hyc 0 _ rfl
    simp only [exec] at hex
    split at hex
    rotate_left
    · cases hex
    rename_i gf lb hcal
    split at hex
    rotate_left
    · cases hex
    rename_i hlt
    split at hex
    rotate_left
    · cases hex
    rename_i r h1 hcall
    split at hex
    rotate_left
    · cases hex
    rename_i s hs
    simp only [Option.map_eq_some_iff, Prod.mk.injEq] at hex
    obtain ⟨e', he', rfl, rfl⟩ := hex
    obtain ⟨⟨fn0, hfn, hnm, hbody⟩, hat⟩ := (hcf _ _ _ _ _ hcall).1 hlt.1
    have hFr := ev_rep S.tm hfa
    obtain ⟨cv, hFv, hcs, hcr⟩ : ∃ cv : Array Value, a.eval f = .func (.func gf) #[] cv ∧ cv.size = lb.length ∧ ∀ i (hi : i < cv.size) (hj : i < lb.length), Rep g w cv[i] lb[i] := by
      unfold callee at hcal
      split at hcal
      · rename_i heq
        split at hcal
        · rename_i hpq
          simp only [Option.some.injEq, Prod.mk.injEq] at hcal
          obtain ⟨rfl, rfl⟩ := hcal
          obtain ⟨h1, h2⟩ := hpq
          rw [heq, Array.eq_empty_of_size_eq_zero h1, Array.eq_empty_of_size_eq_zero h2] at hFr
          exact ⟨#[], hFr.of_c, rfl, fun i hi => absurd hi (by simp)⟩
        · cases hcal
      · rename_i heq
        simp only [Option.some.injEq, Prod.mk.injEq] at hcal
        obtain ⟨rfl, rfl⟩ := hcal
        rw [heq] at hFr
        exact hFr.of_clo
      · cases hcal
    refine wpIn_rangeFunc fun fn _ => ?_
    obtain ⟨l, mark, w2, g2, hent, hle2, H2, hb2, hla, hsame, E2⟩ := enter_ok (P := P) S E fn hy
    have hlen : st.h.length < (st.h ++ [O.loop 0]).length := by simp
    refine ⟨l, mark, w2, { target := .fn (.func gf) cv, args := #[.func (.yield l) #[] #[]] }, w2, gf, #[.func (.yield l) #[] #[]] ++ cv, w2, hent, ?_, fun _ _ => trivial, ?_, fun h => by simp [FR, Fence.wide] at h, calls_FR (Calls.mono (hat g2 w2 _ H2 (by simp [hcs]; omega) fun i hi hj => ?_) ?_)⟩
    · simp only [resolve, hFv]
      simp [go_sem]
    · have n1 : ¬ fn0.name = "runtime.NumGoroutine" := by simpa using hnm
      have n2 : ¬ fn0.body = none := by intro h; rw [h] at hbody; simp at hbody
      simp [invoke, callFunc, hfn, n1, n2]
    · cases i with
      | zero =>
        have e0 : (#[Value.func (.yield l) #[] #[]] ++ cv)[0] = .func (.yield l) #[] #[] := by simp [Array.getElem_append]
        rw [e0]
        refine .yld l _ y _ a.tmps _ hb2 hla (by simp [keepV, S.tm.1, hlt.2.2]) fun i hi hj => ?_
        simp only [keepV, List.getElem_map, List.getElem_range]
        split
        · have hi2 : i < st.tm.length := by rw [← S.tm.1]; exact hi
          have := (S.tm.2 i hi hi2).mono hle2
          simpa [List.getD, hi2] using this
        · exact .top _
      | succ i =>
        have hi' : i < cv.size := by simp at hi; omega
        have hj' : i < lb.length := by simpa using hj
        have e1 : (#[Value.func (.yield l) #[] #[]] ++ cv)[i + 1] = cv[i] := by simp [Array.getElem_append]
        rw [e1]
        simp only [List.getElem_cons_succ]
        exact (hcr i hi' hj').mono hle2
    · rintro e w3 ⟨v, g3, rfl, hle3, H3, _, q3⟩
      have hb3 : g3.blk st.h.length = some l := hle3.blk _ _ hb2
      obtain ⟨L3, hL3, hst3, hnf3⟩ : ∃ L, w3.heap[l]? = some (.loop L) ∧ LState s L ∧ ∀ o, ¬ g3.fz l o := by
        rcases H3.obj _ _ hb3 with ⟨_, _, _, q, _⟩ | ⟨s', L, q, q2, q3, q4⟩ | ⟨_, _, _, _, q, _⟩ <;> rw [hs] at q <;> simp only [Option.some.injEq, O.loop.injEq, reduceCtorEq] at q
        subst q
        exact ⟨L, q2, q3, q4⟩
      have hnb : L3.state ≠ .busy := by
        match s, he', hst3 with
        | 0, _, h => rw [h.1]; simp
        | 1, h, _ => simp [Ex.ofNum] at h
        | 2, h, _ => simp [Ex.ofNum] at h
        | 3, _, h => rw [h.1]; simp
        | n + 4, _, h => rw [h.1]; simp
      have hrun := run_endLoop (P := P) hL3 hnb
      obtain ⟨hle4, H4⟩ := H3.setOth hb3 hL3 rfl (ob' := .loop { L3 with state := .exhausted }) rfl ⟨_, rfl, rfl, rfl, rfl, rfl, rfl, rfl⟩ (w' := w3.putObj l (.loop { L3 with state := .exhausted })) rfl rfl rfl rfl (x := .loop 2)
        (fun h' hx hb' t _ => .inl ⟨2, _, hx, hb', trivial, hnf3⟩)
      have hle := (hle2.trans hle3).trans hle4
      have S4 : Sim (mark ++ ds) g3 (w3.putObj l (.loop { L3 with state := .exhausted })) { a with defers := mark ++ a.defers } { st with h := h1.set st.h.length (.loop 2) } :=
        ⟨⟨S.tm.1, fun i hi hj => (S.tm.2 i hi hj).mono hle, fun n v e => (S.tm.3 n v e).mono hle⟩, H4, by simp [S.df]⟩
      have E4 := (E2.go H2 hle3).go H3 hle4
      have hqq : Quiet (Frb base st.h) g st.h g3 (h1.set st.h.length (.loop 2)) := by
        intro id hid
        have hidl : id < st.h.length := Nat.lt_of_lt_of_le (Nat.lt_of_not_le fun h => hid (.inl h)) hb
        obtain ⟨e1, e2⟩ := hsame id hidl
        have hq := q3 id (by
          rintro (h | h)
          · simp at h; omega
          · rw [List.getElem?_append_left hidl] at h; exact hid (.inr h))
        rw [List.getElem?_append_left hidl, e1, e2] at hq
        refine ⟨hq.1, hq.2.1, fun a1 a2 => ?_⟩
        rw [List.getElem?_set_ne (by omega)]
        exact hq.2.2 a1 a2
      have hbl : base ≤ (h1.set st.h.length (O.loop 2)).length := by
        have := (List.getElem?_eq_some_iff.1 hs).1
        rw [List.length_set]; omega
      have done := hQ _ _ _ _ hle S4 hqq hbl E4 (fun h => by simp [noRF] at h)
      refine ⟨L3.pending, _, hrun, ?_⟩
      match s, he', hst3 with
      | 0, he, h =>
        simp only [Ex.ofNum, Option.some.injEq] at he
        subst he
        rw [h.2] at done ⊢
        exact done
      | 1, h, _ => simp [Ex.ofNum] at h
      | 2, h, _ => simp [Ex.ofNum] at h
      | 3, he, h =>
        simp only [Ex.ofNum, Option.some.injEq] at he
        subst he
        rw [h.2] at done ⊢
        exact wpIn_ret done
      | n + 4, he, h =>
        simp only [Ex.ofNum, Option.some.injEq] at he
        subst he
        rw [h.2] at done ⊢
        exact wpIn_exit done
  | _ => intro y xc htr; simp [trC] at htr

/-- Code without a loop over a function, in no round. -/
theorem exec_ok0 {rw : Bool} {pf : Nat → Nat} {cf : CallF} (hp : PureCf pf cf) (hcf : CallOk P cf) (hm : P.follows .mixedOrders = true) {base : Nat} (n : Nat) (c : Code) (xc : XC) {nt : Nat} (y : Nat) (htr : trC P rw pf nt y c = some xc) (hy : rangesOf c = []) (hn : noRF xc = true) (g : Gh) (w : World) (a : Act) (st st' : St) (e : Ex)
    (hex : exec cf n xc st = some (e, st')) (S : Sim [] g w a st) (hb : base ≤ st.h.length) (Q : Exit → Act → World → Prop)
    (hQ : ∀ a' w' g', Le g w g' w' → Sim [] g' w' a' st' → Quiet (Frb base st.h) g st.h g' st'.h → base ≤ st'.h.length → Q e.to a' w') : c.wp P Q a w :=
  (wpIn_wide (n := 0)).1 (exec_ok (m := 0) (ρ := none) (nn := 0) hp hcf hm n c y xc htr (fun j p h => by rw [hy] at h; simp at h) [] g w a st st' e hex S hb ⟨Nat.zero_le _, List.nodup_nil, fun d hd => by simp at hd, fun l h => by cases h⟩ Q
    fun ds' a' w' g' k1 k2 k3 k4 k5 k6 => hQ a' w' g' k1 (by rw [← k6 hn]; exact k2) k3 k4)

theorem res_ok {g : Gh} {w : World} {a : Act} {st : St} {ds : List Deferred} (S : Sim ds g w a st) : ∀ {l : List ResultVar} {rs : List XR} {vs : List V}, trR P l = some rs → resAll st rs = some vs →
    ∃ xs : List Value, (l.mapM fun | .tmp t => pure (a.tmps.getD t undef) | .cell b t => do loadVar t (← asAddr (a.tmps.getD b undef)) : Sem (List Value)).run P w = .ok xs w ∧ xs.length = vs.length ∧ ∀ i (hi : i < xs.length) (hj : i < vs.length), Rep g w xs[i] vs[i]
  | [], rs, vs, h1, h2 => by
    simp only [trR, Option.some.injEq] at h1
    subst h1
    simp only [resAll, Option.some.injEq] at h2
    subst h2
    exact ⟨[], by simp, rfl, fun i hi => absurd hi (by simp)⟩
  | .tmp t :: l, rs, vs, h1, h2 => by
    simp only [trR, Option.map_eq_some_iff] at h1
    obtain ⟨rs', h3, rfl⟩ := h1
    simp only [resAll, resV] at h2
    split at h2
    · rename_i v vs' k1 k2
      simp only [Option.some.injEq] at h2
      subst h2
      obtain ⟨xs, r1, r2, r3⟩ := res_ok S h3 k2
      obtain ⟨hlt, rfl⟩ := List.getElem?_eq_some_iff.1 k1
      have hlt' : t < a.tmps.size := by rw [S.tm.1]; exact hlt
      refine ⟨a.tmps[t] :: xs, ?_, by simp [r2], fun i hi hj => ?_⟩
      · simp only [List.mapM_cons, Sem.run_bind, Sem.run_pure, Result.andThen_ok, r1, Array.getD, hlt', dif_pos]
        rfl
      · cases i with
        | zero => exact S.tm.2 t hlt' hlt
        | succ i => exact r3 i (by simpa using hi) (by simpa using hj)
    · cases h2
  | .cell t ty :: l, rs, vs, h1, h2 => by
    simp only [trR] at h1
    split at h1
    · rename_i n rs' hn h3
      simp only [Option.some.injEq] at h1
      subst h1
      simp only [resAll, resV] at h2
      split at h2
      · rename_i v vs' k1 k2
        simp only [Option.some.injEq] at h2
        subst h2
        obtain ⟨xs, r1, r2, r3⟩ := res_ok S h3 k2
        split at k1
        · rename_i id o hid
          split at k1
          · rename_i cs hcs
            obtain ⟨hlt, he⟩ := List.getElem?_eq_some_iff.1 hid
            have hlt' : t < a.tmps.size := by rw [S.tm.1]; exact hlt
            have hr := S.tm.2 t hlt' hlt
            rw [he] at hr
            obtain ⟨b, hX, hb⟩ := hr.of_ref
            obtain ⟨cs0, c, T, c1, c2, c3, c4, c5⟩ := S.hk.cellsOf hb hcs
            have hcs0 : cs0 = cs := by rw [hcs] at c1; simp at c1; exact c1.symm
            subst hcs0
            obtain ⟨y, h6, h7⟩ := load_cells (P := P) (b := b) (o0 := 0) hn (f := fun j => c.getD j undef) (fun j hj => by
              have hj2 : j < c.size := by omega
              have e1 : c.getD j undef = c[j] := by simp [Array.getD, hj2]
              rw [Nat.zero_add, cell_of c2]
              simp only [e1]
              exact ⟨by simp [hj2], (c4 j hj hj2).2⟩) (fun j hj => by
              have hj2 : j < c.size := by omega
              have e1 : c.getD j undef = c[j] := by simp [Array.getD, hj2]
              simp only [e1]
              exact (c4 j hj hj2).1) k1
            rw [Nat.zero_add] at h6
            refine ⟨y :: xs, ?_, by simp [r2], fun i hi hj => ?_⟩
            · have e2 : a.tmps.getD t undef = .pointer (some ⟨b, o, none⟩) := by simp [Array.getD, hlt', hX]
              have e3 : (asAddr (a.tmps.getD t undef)).run P w = .ok ⟨b, o, none⟩ w := by rw [e2]; rfl
              simp only [List.mapM_cons, Sem.run_bind, e3, Sem.run_pure, Result.andThen_ok, h6, r1]
            · cases i with
              | zero => exact h7
              | succ i => exact r3 i (by simpa using hi) (by simpa using hj)
          · cases k1
        · cases k1
      · cases h2
    · cases h1

theorem results_ok {g : Gh} {w : World} {a : Act} {st : St} {ds : List Deferred} (S : Sim ds g w a st) {fn : Func} {rs : List XR} {vs : List V} (h1 : trR P fn.results.toList = some rs) (h2 : resAll st rs = some vs) :
    ∃ x, (results fn a.tmps).run P w = .ok x w ∧ Rep g w x (resOf vs) := by
  obtain ⟨xs, r1, r2, r3⟩ := res_ok S h1 h2
  have e : (results fn a.tmps).run P w = .ok (if h : xs.toArray.size = 1 then xs.toArray[0] else .tuple xs.toArray) w := by
    unfold results
    rw [Array.mapM_eq_mapM_toList]
    simp only [map_eq_pure_bind, bind_assoc, pure_bind, Sem.run_bind]
    erw [r1]
    rfl
  refine ⟨_, e, ?_⟩
  cases xs with
  | nil =>
    cases vs with
    | nil => exact .tup _ _ rfl (fun i hi => absurd hi (by simp))
    | cons v vs => simp at r2
  | cons x xs =>
    cases vs with
    | nil => simp at r2
    | cons v vs =>
      cases xs with
      | nil =>
        cases vs with
        | nil => exact r3 0 (by simp) (by simp)
        | cons v2 vs => simp at r2
      | cons x2 xs =>
        cases vs with
        | nil => simp at r2
        | cons v2 vs =>
          simp only [List.size_toArray, List.length_cons, resOf]
          rw [dif_neg (by omega)]
          exact .tup _ _ (by simpa using r2) (fun i hi hj => by simpa using r3 i (by simpa using hi) (by simpa using hj))
end
end Go.Proofs.YtkiliokeanmagaaDoor.Ab
