/- Calls are what the interpreter says. -/
import Derived.Test.YtkiliokeanmagaaDoorAb14
namespace Go.Proofs.YtkiliokeanmagaaDoor.Ab
open Go
set_option linter.unusedVariables false
set_option linter.unusedSimpArgs false

def ExtOk (P : Program) (pf : Nat → Nat) (E : Ext) : Prop := ∀ f e, E f = some e → f < rid ∧ ∀ n cf, CallOk P cf → PureCf pf cf →
  (∀ args h r h', e n cf args h = some (r, h') → Walked P f ∧ CallAt P f args h r h') ∧ (∀ args h r h', e n cf args h = some (r, h') → (pf f = 1 → h' = h ∧ ∀ h2, CellsLe h h2 → e n cf args h2 = some (r, h2)) ∧ (pf f = 2 → CellsLe h h'))
/-- A round of the table is the program's. -/
def RoundTr (P : Program) (pf : Nat → Nat) (y : Nat) (xf : XF) : Prop := ∃ tps asg body xa, yc y = some (tps, asg, body) ∧ xf.asg = some (tps.toList, xa) ∧
  trC P xf.rw pf xf.ntm (y + 1) asg = some xa ∧ trC P xf.rw pf xf.ntm (y + 1 + (rangesOf asg).length) body = some xf.body ∧ YcOk (y + 1) asg ∧ YcOk (y + 1 + (rangesOf asg).length) body
def Laid (P : Program) (pf : Nat → Nat) (X : Nat → Option XF) : Prop := ∀ f xf, X f = some xf → (f < rid ∧ xf.asg = none ∧ ∃ fn, P.funcs[f]? = some fn ∧ trF P pf (rid + 100 * f) xf.pure xf.esc xf.rw fn = some xf) ∨ (rid ≤ f ∧ RoundTr P pf f xf)
def YcAll (P : Program) : Prop := ∀ f fn c, P.funcs[f]? = some fn → fn.body = some c → (rangesOf c).length ≤ 100 → YcOk (rid + 100 * f) c
def Pures (pf : Nat → Nat) (X : Nat → Option XF) (E : Ext) : Prop := ∀ f, E f = none → ∀ xf, X f = some xf → (pf f = 1 → (xf.pure = true ∧ xf.esc = false) ∧ xf.asg = none) ∧ (pf f = 2 → (xf.pure = true ∧ xf.esc = true) ∧ xf.asg = none)

section
variable {P : Program}

theorem trF_spec {pf : Nat → Nat} {y : Nat} {pu es rw : Bool} {fn : Func} {xf : XF} (h : trF P pf y pu es rw fn = some xf) :
    (fn.name == "runtime.NumGoroutine") = false ∧ ∃ c, fn.body = some c ∧ trC P rw pf fn.ntmps y c = some xf.body ∧ trR P fn.results.toList = some xf.res ∧ xf.ntm = fn.ntmps ∧ xf.pure = pu ∧ (rangesOf c).length ≤ 100 := by
  unfold trF at h
  split at h
  · cases h
  · rename_i hn
    split at h
    · rename_i c hc
      split at h
      · rename_i hlen
        split at h
        · rename_i xc rs h1 h2
          simp only [Option.some.injEq] at h
          subst h
          exact ⟨by simpa using hn, c, hc, h1, h2, rfl, rfl, hlen⟩
        · cases h
      · cases h
    · cases h

theorem start_tm {g : Gh} {w : World} (hgl : GlOk g w) {cargs : Array Value} {args : List V} (hl : cargs.size = args.length) (hr : ∀ i (hi : i < cargs.size) (hj : i < args.length), Rep g w cargs[i] args[i]) (n : Nat) (ds : List Deferred) :
    Tm g w { tmps := cargs ++ Array.replicate (n - cargs.size) undef, defers := ds } (args ++ List.replicate (n - args.length) undefV) := by
  refine ⟨by simp [hl], fun i hi hj => ?_, hgl⟩
  simp only
  rw [Array.getElem_append, List.getElem_append]
  simp only [hl]
  split
  · rename_i hlt
    exact hr i (by omega) hlt
  · simp only [Array.getElem_replicate, List.getElem_replicate]
    exact .c _

/-- What becomes of the result and of the objects. -/
def FinR (esc : Bool) (n base : Nat) (s : List O) (r0 r : V) (h' : List O) : Prop :=
  (esc = true ∧ r = r0 ∧ h' = s) ∨
  ((s.take base).all (O.low base) = true ∧ h' = s.take base ∧ r.low base = true ∧ (r = r0 ∨ snap base s n r0 = some r))

/-- A mark is taken up. -/
theorem HOk.shut {g : Gh} {w : World} {h : List O} (H : HOk g w h) {D : Nat} {q : Option (List Deferred)} (h0 : w.heap[D]? = some (.deferred q)) :
    HOk g (w.putObj D (.deferred none)) h ∧ LeV g w g (w.putObj D (.deferred none)) ∧ ∀ {g0 : Gh} {w0 : World}, Le g0 w0 g w → (∀ b o, g0.fz b o → b < w0.heap.size) → w0.heap.size ≤ D → Le g0 w0 g (w.putObj D (.deferred none)) := by
  have hoth : ∀ b, b ≠ D → (w.putObj D (.deferred none)).heap[b]? = w.heap[b]? := fun b hb => World.putObj_heap_other hb
  have hself : (w.putObj D (.deferred none)).heap[D]? = some (.deferred none) := World.putObj_heap_same (Array.getElem?_eq_some_iff.1 h0).1
  have hcell : ∀ b o, (w.putObj D (.deferred none)).cell? ⟨b, o, none⟩ = w.cell? ⟨b, o, none⟩ := by
    intro b o
    by_cases hb : b = D
    · subst hb
      simp [World.cell?, hself, h0]
    · exact cell_same (hoth b hb)
  have hv : LeV g w g (w.putObj D (.deferred none)) := by
    refine ⟨fun _ _ h => h, fun k b l c h => ⟨b, l, c, h, Nat.le_refl _, fun _ => ⟨rfl, rfl⟩⟩, fun b o hf => ⟨hf, hcell b o⟩, fun b c T e => ⟨c, (hoth b fun hb => ?_).trans e, rfl⟩, fun b o e hc => ?_⟩
    · rw [hb, h0] at e; cases e
    · by_cases hb : b = D
      · subst hb
        rw [h0] at e; cases e
        exact ⟨_, hself, rfl, trivial, fun es ck q => by cases q⟩
      · exact ⟨o, (hoth b hb).trans e, hc, Goes.refl o, fun _ _ _ _ => rfl⟩
  refine ⟨⟨fun id b e => ?_, fun id b n cap e => ?_, H.inj, H.tinj, H.bt, ⟨fun b o h => by have := H.al b o h; simpa using this, fun n v e => (H.ag.gl n v e).monoV hv⟩⟩, hv, fun {g0 w0} hle hal hD => ?_⟩
  · rcases H.obj _ _ e with ⟨cs, c, T, h1, h2, h3, h4, h5⟩ | t
    · exact .inl ⟨cs, c, T, h1, (hoth b fun hb => by rw [hb, h0] at h2; cases h2).trans h2, h3, fun j hj hc => ⟨(h4 j hj hc).1.monoV hv, (h4 j hj hc).2⟩, h5⟩
    · refine .inr (t.map rfl (hoth b fun hb => ?_) (fun r => r.monoV hv) fun _ h => h)
      rcases t with ⟨s, L, _, t, _⟩ | ⟨ks, vs, es, ck, _, t, _⟩ <;> rw [hb, h0] at t <;> cases t
  · obtain ⟨z, c, T, h1, h2, h3⟩ := H.tok _ _ _ _ e
    exact ⟨z, c, T, h1.map rfl (fun r => r.monoV hv) (fun _ h => h), (hoth b fun hb => by rw [hb, h0] at h2; cases h2).trans h2, h3⟩
  · exact {
      blk := hle.blk
      tok := hle.tok
      fz := fun b o h => ⟨(hle.fz b o h).1, (hcell b o).trans (hle.fz b o h).2⟩
      own := hle.own
      fzn := hle.fzn
      kept := fun b hlt hn => (hoth b (by omega)).trans (hle.kept b hlt hn)
      size := by simpa using hle.size
      tape := hle.tape
      os := hle.os
      output := hle.output
      sz := fun b c T e => by
        obtain ⟨c1, h1, h2⟩ := hle.sz b c T e
        exact ⟨c1, (hoth b (by have := (Array.getElem?_eq_some_iff.1 e).1; omega)).trans h1, h2⟩
      oth := fun b o e hc => by
        obtain ⟨o', h1, h2⟩ := hle.oth b o e hc
        exact ⟨o', (hoth b (by have := (Array.getElem?_eq_some_iff.1 e).1; omega)).trans h1, h2⟩ }

theorem leaves_ok {fn : Func} {tmps : Array Value} {R : Ending → World → Prop} {g g' : Gh} {w : World} {s : List O} {tm : List V} (hal : ∀ b o, g.fz b o → b < w.heap.size)
    (hfin : ∀ w1, Le g w g' w1 → HOk g' w1 s → Tm g' w1 { tmps := tmps, defers := [] } tm → ∃ v, (results fn tmps).run P w1 = .ok v w1 ∧ R (.returned v) w1) : ∀ (ds : List Deferred) (w' : World), Le g w g' w' → HOk g' w' s → Tm g' w' { tmps := tmps, defers := [] } tm →
    Env w.heap.size none w' ds → LeavesInM Fence.wide 0 P fn tmps R ds .returning w'
  | [], w', hle, H, ht, E => hfin w' hle H ht
  | d :: ds, w', hle, H, ht, E => by
    obtain ⟨D, rfl, hD, hk⟩ := E.mks d (by simp)
    obtain ⟨H2, hv, hle2⟩ := H.shut hk
    refine ⟨by simp, .inl ⟨D, _, rfl, run_takeDeferred hk, leaves_ok hal hfin ds _ (hle2 hle hal hD) H2 ⟨ht.1, fun i hi hj => (ht.2 i hi hj).monoV hv, H2.ag.gl⟩ ⟨by simpa using E.lo, (List.nodup_cons.1 E.nd).2, fun d' hd' => ?_, fun l h => by cases h⟩⟩⟩
    obtain ⟨D', rfl, hD', hk'⟩ := E.mks d' (by simp [hd'])
    refine ⟨D', rfl, hD', (World.putObj_heap_other fun e => ?_).trans hk'⟩
    subst e
    exact (List.nodup_cons.1 E.nd).1 hd'

theorem body_ok {rw : Bool} {pf : Nat → Nat} {cf : CallF} (hp : PureCf pf cf) (hcf : CallOk P cf) (hm : P.follows .mixedOrders = true) {f : Nat} {fn : Func} (hf : P.funcs[f]? = some fn) {c : Code} (hb : fn.body = some c) {y : Nat} (hyc : YcOk y c) {xc : XC} (hc : trC P rw pf fn.ntmps y c = some xc)
    {rs : List XR} (hrs : trR P fn.results.toList = some rs) {n : Nat} {st : St} {esc : Bool} {r : V} {h' : List O} (hrun : fin esc n rs (exec cf n xc st) = some (r, h')) (hbase : st.base = st.h.length) (hbk : ∀ e s, exec cf n xc st = some (e, s) → s.base = st.base)
    {g : Gh} {w : World} {cargs : Array Value} (S : Sim [] g w { tmps := cargs ++ Array.replicate (fn.ntmps - cargs.size) undef, defers := [] } st) :
    Calls P f cargs w (fun e w' => ∃ v g' s r0, e = .returned v ∧ Le g w g' w' ∧ HOk g' w' s ∧ Quiet (Frb st.base st.h) g st.h g' s ∧ st.base ≤ s.length ∧ Rep g' w' v r0 ∧ FinR esc n st.base s r0 r h') := by
  cases he : exec cf n xc st with
  | none => rw [he] at hrun; simp [fin] at hrun
  | some p =>
    obtain ⟨e, s⟩ := p
    rw [he] at hrun
    have hbs := hbk e s he
    have hfin : ∃ vs, resAll s rs = some vs ∧ FinR esc n st.base s.h (resOf vs).vw r h' ∧ (e = .normal ∨ e = .ret) := by
      have main : ∀ {o : Option (V × List O)}, o = some (r, h') → o = (match resAll s rs with
          | some vs =>
            if esc then some ((resOf vs).vw, s.h) else
            if (resOf vs).vw.low s.base then if (s.h.take s.base).all (O.low s.base) then some ((resOf vs).vw, s.h.take s.base) else none
            else match snap s.base s.h n (resOf vs).vw with
              | some r => if r.low s.base && (s.h.take s.base).all (O.low s.base) then some (r, s.h.take s.base) else none
              | none => none
          | none => none) → ∃ vs, resAll s rs = some vs ∧ FinR esc n st.base s.h (resOf vs).vw r h' := by
        intro o ho ho2
        rw [ho, hbs] at ho2
        split at ho2
        · rename_i vs hvs
          refine ⟨vs, hvs, ?_⟩
          split at ho2
          · rename_i hesc
            simp only [Option.some.injEq, Prod.mk.injEq] at ho2
            exact .inl ⟨hesc, ho2.1, ho2.2⟩
          · split at ho2
            · rename_i hlow
              split at ho2
              · rename_i hall
                simp only [Option.some.injEq, Prod.mk.injEq] at ho2
                exact .inr ⟨hall, ho2.2, by rw [ho2.1]; exact hlow, .inl ho2.1⟩
              · cases ho2
            · split at ho2
              · rename_i r' hsn
                split at ho2
                · rename_i hcond
                  simp only [Option.some.injEq, Prod.mk.injEq] at ho2
                  simp only [Bool.and_eq_true] at hcond
                  obtain ⟨rfl, rfl⟩ := ho2
                  exact .inr ⟨hcond.2, rfl, hcond.1, .inr hsn⟩
                · cases ho2
              · cases ho2
        · cases ho2
      cases e with
      | exit id => simp [fin] at hrun
      | normal =>
        obtain ⟨vs, a1, a2⟩ := main hrun rfl
        exact ⟨vs, a1, a2, .inl rfl⟩
      | ret =>
        obtain ⟨vs, a1, a2⟩ := main hrun rfl
        exact ⟨vs, a1, a2, .inr rfl⟩
    obtain ⟨vs, a1, a2, a6⟩ := hfin
    refine callsIn_wide.1 (callsIn_of_wp_marks (F := Fence.wide) (n := 0) hf hb trivial (exec_ok (ρ := none) (m := w.heap.size) (nn := 0) hp hcf hm n c y xc hc hyc [] g w _ st s e he S (Nat.le_of_eq hbase) ⟨Nat.le_refl _, List.nodup_nil, fun d hd => by simp at hd, fun l h => by cases h⟩ _ fun ds' a' w' g' k1 k2 k3 k4 k5 _ => ?_))
    have hpost : LeavesInM Fence.wide 0 P fn a'.tmps (fun e w' => ∃ v g' s r0, e = .returned v ∧ Le g w g' w' ∧ HOk g' w' s ∧ Quiet (Frb st.base st.h) g st.h g' s ∧ st.base ≤ s.length ∧ Rep g' w' v r0 ∧ FinR esc n st.base s r0 r h') a'.defers .returning w' := by
      rw [k2.df]
      refine leaves_ok (fun b o h => S.hk.al b o h) (fun w1 l1 l2 l3 => ?_) ds' w' k1 k2.hk ⟨k2.tm.1, k2.tm.2, k2.tm.3⟩ k5
      obtain ⟨x, r1, r2⟩ := results_ok (P := P) (ds := []) (a := { tmps := a'.tmps, defers := [] }) (st := s) ⟨l3, l2, rfl⟩ hrs a1
      exact ⟨x, r1, x, g', s.h, _, rfl, l1, l2, k3, k4, r2.vw, a2⟩
    rcases a6 with rfl | rfl
    · exact hpost
    · exact hpost

theorem Le.res {g g' : Gh} {w w' : World} (h : Le g w g' w') {n : Nat} (hb : ∀ id b, g.blk id = some b → id < n) (ht : ∀ id p, g.tok id = some p → id < n) : Le g w (g'.res n) w' where
  blk id b e := by simp only [Gh.res, hb id b e, if_true]; exact h.blk id b e
  tok k b l c e := by
    obtain ⟨b', l', c', e1, e2⟩ := h.tok k b l c e
    exact ⟨b', l', c', by simp only [Gh.res, ht k _ e, if_true]; exact e1, e2⟩
  fz := h.fz
  own b ho hlt := by
    refine h.own b ?_ hlt
    rcases ho with ⟨id, e⟩ | ⟨k, l, c, e⟩
    · refine .inl ⟨id, ?_⟩
      simp only [Gh.res] at e
      split at e
      · exact e
      · cases e
    · refine .inr ⟨k, l, c, ?_⟩
      simp only [Gh.res] at e
      split at e
      · exact e
      · cases e
  fzn := h.fzn
  kept := h.kept
  size := h.size
  tape := h.tape
  os := h.os
  output := h.output
  sz := h.sz
  oth := h.oth

theorem stepO_base {cf : CallF} {xs : List XOper} : ∀ {st s : St}, runOps cf xs st = some s → s.base = st.base := by
  induction xs with
  | nil => intro st s h; simp only [runOps, Option.some.injEq] at h; rw [h]
  | cons x xs ih =>
    intro st s h
    simp only [runOps] at h
    split at h
    · rename_i s1 h1
      rw [ih h, (step_rb h1).2]
    · cases h
theorem stepW_base {cf : CallF} {xs : List XOper} : ∀ {st s : St}, runW cf xs st = some s → s.base = st.base := by
  induction xs with
  | nil => intro st s h; simp only [runW, Option.some.injEq] at h; rw [h]
  | cons x xs ih =>
    intro st s h
    simp only [runW] at h
    split at h
    · rename_i s1 h1
      rw [ih h, (stepW_rb h1).2]
    · cases h
theorem exec_base {cf : CallF} {n : Nat} : ∀ (xc : XC) (st s : St) (e : Ex), exec cf n xc st = some (e, s) → s.base = st.base := by
  intro xc
  induction xc with
  | skip => intro st s e h; simp only [exec, Option.some.injEq, Prod.mk.injEq] at h; rw [← h.2]
  | reg ops pre d =>
    intro st s e h
    simp only [exec, Option.map_eq_some_iff, Prod.mk.injEq] at h
    obtain ⟨s1, h1, _, rfl⟩ := h
    rw [stepO_base h1]
  | regw ops pre =>
    intro st s e h
    simp only [exec, Option.map_eq_some_iff, Prod.mk.injEq] at h
    obtain ⟨s1, h1, _, rfl⟩ := h
    rw [stepW_base h1]
  | seq a b ih1 ih2 =>
    intro st s e h
    simp only [exec] at h
    split at h
    · rename_i s1 h1
      rw [ih2 _ _ _ h, ih1 _ _ _ h1]
    · exact ih1 _ _ _ h
  | cond c a b ih1 ih2 =>
    intro st s e h
    simp only [exec] at h
    split at h
    · split at h
      · exact ih1 _ _ _ h
      · exact ih2 _ _ _ h
    · cases h
  | block id c ih =>
    intro st s e h
    simp only [exec] at h
    split at h
    · rename_i h1
      split at h
      · simp only [Option.some.injEq, Prod.mk.injEq] at h
        rw [← h.2]
        exact ih _ _ _ h1
      · simp only [Option.some.injEq, Prod.mk.injEq] at h
        rw [← h.2]
        exact ih _ _ _ h1
    · exact ih _ _ _ h
  | loop c ih =>
    intro st s e h
    simp only [exec] at h
    have : ∀ k st, iter (exec cf n c) k st = some (e, s) → s.base = st.base := by
      intro k
      induction k with
      | zero => intro st h; simp [iter] at h
      | succ k ihk =>
        intro st h
        simp only [iter] at h
        split at h
        · rename_i s1 h1
          rw [ihk _ h, ih _ _ _ h1]
        · exact ih _ _ _ h
    exact this _ _ h
  | exit id => intro st s e h; simp only [exec, Option.some.injEq, Prod.mk.injEq] at h; rw [← h.2]
  | ret => intro st s e h; simp only [exec, Option.some.injEq, Prod.mk.injEq] at h; rw [← h.2]
  | rangeF f y m nt us =>
    intro st s e h
    simp only [exec] at h
    repeat' split at h
    all_goals first | (cases h; done) | skip
    simp only [Option.map_eq_some_iff, Prod.mk.injEq] at h
    obtain ⟨_, _, _, rfl⟩ := h
    rfl

theorem fin_ok {g g1 : Gh} {w w' : World} {h s : List O} {esc : Bool} {n : Nat} {v : Value} {r0 r : V} {h' : List O} (H : HOk g w h) (hle : Le g w g1 w') (hs : HOk g1 w' s) (hq : Quiet (Frb h.length h) g h g1 s) (hrep : Rep g1 w' v r0) (hf : FinR esc n h.length s r0 r h') :
    ∃ g2, Le g w g2 w' ∧ HOk g2 w' h' ∧ Rep g2 w' v r ∧ Quiet (Frb h.length h) g h g2 h' ∧ (esc = false → r.low h.length = true) := by
  have hb : ∀ id b, g.blk id = some b → id < h.length := fun id b e => (H.blk_lt e).1
  have ht : ∀ id p, g.tok id = some p → id < h.length := fun id p e => by obtain ⟨b, n, c⟩ := p; exact (H.tok_lt e).1
  rcases hf with ⟨hesc, rfl, rfl⟩ | ⟨hall, rfl, hlow, hr⟩
  · exact ⟨g1, hle, hs, hrep, hq, fun e => by rw [hesc] at e; cases e⟩
  · have hquiet : ∀ g2 : Gh, (∀ id, id < h.length → g2.blk id = g1.blk id ∧ g2.tok id = g1.tok id) → Quiet (Frb h.length h) g h g2 (s.take h.length) := by
      intro g2 hg2 id hid
      have hid' : id < h.length := Nat.lt_of_not_le fun h => hid (.inl h)
      obtain ⟨q1, q2, q3⟩ := hq id hid
      obtain ⟨e1, e2⟩ := hg2 id hid'
      refine ⟨fun e => by rw [e1]; exact q1 e, fun e => by rw [e2]; exact q2 e, fun e e' => ?_⟩
      rw [List.getElem?_take, if_pos hid']
      exact q3 e e'
    rcases hr with rfl | hsn
    · exact ⟨g1.res h.length, hle.res hb ht, hs.res _ hall, hrep.res hlow, hquiet _ fun id hid => by simp [Gh.res, hid], fun _ => hlow⟩
    · exact ⟨g1.frz h.length s, hle.frz hb ht, hs.frz hall, (snap_ok hs n _ _ hsn).1 _ hrep, hquiet _ fun id hid => by simp [Gh.frz, hid], fun _ => hlow⟩

/-- Objects behind other ones. -/
def Gh.comb (g g1 : Gh) (k : Nat) : Gh := ⟨fun id => if id < k then g.blk id else g1.blk (id - k), fun id => if id < k then g.tok id else g1.tok (id - k), g1.fz⟩

theorem shifts_map (k : Nat) : ∀ l : List V, V.shifts k l = l.map (V.shift k)
  | [] => rfl
  | v :: l => by simp [V.shifts, shifts_map k l]
theorem shift_cells (k : Nat) (v : V) : (v.shift k).cells = v.cells.map (V.shift k) := by
  cases v <;> simp [V.shift, V.cells, shifts_map]
theorem shift_flats (k : Nat) : ∀ l : List V, flats (V.shifts k l) = (flats l).map (V.shift k)
  | [] => rfl
  | v :: l => by
    have e : ∀ (a : V) (l : List V), flats (a :: l) = a.cells ++ flats l := fun a l => by simp [flats]
    rw [V.shifts, e, e, shift_cells, shift_flats k l, List.map_append]

theorem Rep.shift {g g1 : Gh} {w : World} {k : Nat} {x : Value} {v : V} (h : Rep g1 w x v) : Rep (g.comb g1 k) w x (v.shift k) := by
  induction h with
  | c x => exact .c x
  | agg xs cs hn h1 _ ih => rw [V.shift, shifts_map]; exact .agg xs _ (by simpa using hn) h1 fun i hi hj => by rw [List.getElem_map]; exact ih i hi (by simpa using hj)
  | tup xs cs hn _ ih => rw [V.shift, shifts_map]; exact .tup xs _ (by simpa using hn) fun i hi hj => by rw [List.getElem_map]; exact ih i hi (by simpa using hj)
  | sl A n cap us i z cv hn hc hzz hA _ hi ih =>
    have hl : (V.shifts k us).length = us.length := by rw [shifts_map, List.length_map]
    rw [V.shift]
    refine .sl A n cap _ _ z cv (by rw [hl]; exact hn) hc (fun u hu => ?_) (fun hne => ?_) (fun j hj => ?_) ?_
    · rw [shifts_map] at hu
      obtain ⟨u0, hu0, rfl⟩ := List.mem_map.1 hu
      rw [shift_cells, List.length_map]
      exact hzz u0 hu0
    · obtain ⟨b, o, e, h2⟩ := hA (by intro e; subst e; exact hne rfl)
      rw [hl]
      exact ⟨b, o, e, h2⟩
    · have hj' : j < (flats us).length := by rw [shift_flats, List.length_map] at hj; exact hj
      have : (flats (V.shifts k us))[j] = ((flats us)[j]).shift k := by
        have e : (flats (V.shifts k us))[j]? = ((flats us).map (V.shift k))[j]? := by rw [shift_flats]
        rw [List.getElem?_eq_getElem hj, List.getElem?_map, List.getElem?_eq_getElem hj'] at e
        exact Option.some.inj e
      rw [this]
      exact ih j hj'
    · cases i with
      | any => trivial
      | nil => exact hi
      | full => exact hi
      | isn => exact hi
      | nz => exact hi
      | tok t =>
        obtain ⟨b, l, c, h1, h2⟩ := hi
        exact ⟨b, l, c, by have : ¬ t + k < k := (by omega); simp [Gh.comb, SI.shift, h1, this], h2⟩
  | ptr b o o' cs off cv ho hA _ ih =>
    rw [V.shift, shifts_map]
    exact .ptr b o o' _ off cv ho (fun j hj => hA j (by simpa using hj)) fun j hj => by rw [List.getElem_map]; exact ih j (by simpa using hj)
  | ref id b o h => exact .ref (id + k) b o (by have : ¬ id + k < k := (by omega); simp [Gh.comb, h, this])
  | clo f xs cs hn _ ih => rw [V.shift, shifts_map]; exact .clo f xs _ (by simpa using hn) fun i hi hj => by rw [List.getElem_map]; exact ih i hi (by simpa using hj)
  | row A n cap id off z hc h => exact .row A n cap (id + k) off z hc fun hn => (h hn).imp fun b e => ⟨e.1, by have : ¬ id + k < k := (by omega); simp [Gh.comb, e.2, this]⟩
  | buf A n cap id hc h =>
    obtain ⟨b, cc, T, h1, h2, h3, h4⟩ := h
    have : ¬ id + k < k := by omega
    exact .buf A n cap (id + k) hc ⟨b, cc, T, h1, by simp [Gh.comb, h2, this], h3, h4⟩
  | tsl A n cap t z hc hA h =>
    obtain ⟨b, l, c, h1, h2⟩ := h
    have : ¬ t + k < k := by omega
    exact .tsl A n cap (t + k) z hc hA ⟨b, l, c, by simp [Gh.comb, h1, this], h2⟩
  | tref A t n o h =>
    obtain ⟨b, l, c, h1, h2⟩ := h
    have : ¬ t + k < k := by omega
    exact .tref A (t + k) n o ⟨b, l, c, by simp [Gh.comb, h1, this], h2⟩
  | top x => exact .top x
  | fmp b es ck ks vs h1 h2 hk hn _ ih =>
    rw [V.shift, shifts_map]
    exact .fmp b es ck ks _ h1 h2 hk (by simpa using hn) fun i hi hj => by rw [List.getElem_map]; exact ih i hi (by simpa using hj)
  | mref id b h => exact .mref (id + k) b (by have : ¬ id + k < k := (by omega); simp [Gh.comb, h, this])
  | yld l t y m tmps caps h1 hl hn _ ih =>
    rw [V.shift, shifts_map]
    exact .yld l (t + k) y m tmps _ (by have : ¬ t + k < k := (by omega); simp [Gh.comb, h1, this]) hl (by simpa using hn) fun i hi hj => by rw [List.getElem_map]; exact ih i hi (by simpa using hj)

theorem comb_ok {g g1 : Gh} {w w1 : World} {h s : List O} (H : HOk g w h) (hle : Le ⟨fun _ => none, fun _ => none, g.fz⟩ w g1 w1) (hs : HOk g1 w1 s) :
    Le g w (g.comb g1 h.length) w1 ∧ HOk (g.comb g1 h.length) w1 (h ++ s.map (O.shift h.length)) ∧ Quiet (Frb h.length h) g h (g.comb g1 h.length) (h ++ s.map (O.shift h.length)) := by
  have hno : ∀ b, ¬ (Gh.owns ⟨fun _ => none, fun _ => none, g.fz⟩ b) := by
    rintro b (⟨id, e⟩ | ⟨k, l, c, e⟩) <;> simp at e
  have hnew : ∀ b, g1.owns b → w.heap.size ≤ b := fun b hb => Nat.le_of_not_lt fun hlt => hno b (hle.own b hb hlt)
  have hblk : ∀ id b, (g.comb g1 h.length).blk id = some b → (id < h.length ∧ g.blk id = some b) ∨ (h.length ≤ id ∧ g1.blk (id - h.length) = some b) := by
    intro id b e
    simp only [Gh.comb] at e
    split at e
    · exact .inl ⟨‹_›, e⟩
    · exact .inr ⟨by omega, e⟩
  have htok : ∀ id p, (g.comb g1 h.length).tok id = some p → (id < h.length ∧ g.tok id = some p) ∨ (h.length ≤ id ∧ g1.tok (id - h.length) = some p) := by
    intro id b e
    simp only [Gh.comb] at e
    split at e
    · exact .inl ⟨‹_›, e⟩
    · exact .inr ⟨by omega, e⟩
  have hle' : Le g w (g.comb g1 h.length) w1 := {
    blk := fun id b e => by simp [Gh.comb, (H.blk_lt e).1, e]
    tok := fun k b l c e => ⟨b, l, c, by simp [Gh.comb, (H.tok_lt e).1, e], Nat.le_refl _, fun _ => ⟨rfl, rfl⟩⟩
    fz := hle.fz
    own := fun b ho hlt => by
      rcases ho with ⟨id, e⟩ | ⟨k, l, c, e⟩
      · rcases hblk _ _ e with e | e
        · exact .inl ⟨id, e.2⟩
        · exact absurd (hnew b (.inl ⟨_, e.2⟩)) (by omega)
      · rcases htok _ _ e with e | e
        · exact .inr ⟨k, l, c, e.2⟩
        · exact absurd (hnew b (.inr ⟨_, l, c, e.2⟩)) (by omega)
    fzn := fun b o e hlt => (hle.fzn b o e hlt).imp id fun e => absurd e (hno b)
    kept := fun b hlt _ => hle.kept b hlt (hno b)
    size := hle.size
    tape := hle.tape
    os := hle.os
    output := hle.output, sz := hle.sz, oth := hle.oth }
  have hnf : ∀ b o, g1.fz b o → b < w.heap.size → g.fz b o := fun b o h hlt => (hle.fzn b o h hlt).resolve_right (hno b)
  have hsget : ∀ id o, s[id - h.length]? = some o → h.length ≤ id → (h ++ s.map (O.shift h.length))[id]? = some (o.shift h.length) := by
    intro id o e hid
    rw [List.getElem?_append_right hid, List.getElem?_map, e]
    rfl
  refine ⟨hle', ⟨fun id b e => ?_, fun id b n c e => ?_, fun id id' b e e' => ?_, fun id id' b n c n' c' e e' => ?_, fun id id' b n c e e' => ?_, hs.ag.eqv rfl⟩, fun id hid => ?_⟩
  · rcases hblk _ _ e with ⟨hid, e⟩ | ⟨hid, e⟩
    · rcases H.obj id b e with ⟨cs, c, T, c1, c2, c3, c4, c5⟩ | q
      · have hlt := (Array.getElem?_eq_some_iff.1 c2).1
        exact .inl ⟨cs, c, T, by rw [List.getElem?_append_left hid]; exact c1, (hle.kept b hlt (hno b)).trans c2, c3, fun j hj hc => ⟨(c4 j hj hc).1.mono hle', (c4 j hj hc).2⟩, fun o ho => c5 o (hnf b o ho hlt)⟩
      · exact .inr (q.go hle' (List.getElem?_append_left hid) (hle.kept b q.lt.2 (hno b)) fun o ho => hnf b o ho q.lt.2)
    · rcases hs.obj _ _ e with ⟨cs, c, T, c1, c2, c3, c4, c5⟩ | q
      · refine .inl ⟨V.shifts h.length cs, c, T, hsget _ _ c1 hid, c2, by rw [shifts_map, List.length_map]; exact c3, fun j hj hc => ?_, c5⟩
        have hj' : j < cs.length := by rw [shifts_map, List.length_map] at hj; exact hj
        have e1 : (V.shifts h.length cs)[j] = (cs[j]).shift h.length := by simp [shifts_map]
        rw [e1]
        exact ⟨(c4 j hj' hc).1.shift, (c4 j hj' hc).2⟩
      · rcases q with ⟨s', L, q1, q2, q3, q4⟩ | ⟨ks, vs, es, ck, q1, q2, q3, q4, q5, q6⟩
        · exact .inr (.inl ⟨s', L, hsget _ _ q1 hid, q2, q3, q4⟩)
        · refine .inr (.inr ⟨ks, V.shifts h.length vs, es, ck, hsget _ _ q1 hid, q2, q3, by rw [shifts_map, List.length_map]; exact q4, fun i hi hj => ?_, q6⟩)
          have hj' : i < vs.length := by rw [shifts_map, List.length_map] at hj; exact hj
          have e1 : (V.shifts h.length vs)[i] = (vs[i]).shift h.length := by simp [shifts_map]
          rw [e1]
          exact (q5 i hi hj').shift
  · rcases htok _ _ e with ⟨hid, e⟩ | ⟨hid, e⟩
    · obtain ⟨z, cc, T, c1, c2, c3, c4, c5⟩ := H.tok id b n c e
      have hlt := (Array.getElem?_eq_some_iff.1 c2).1
      exact ⟨z, cc, T, c1.map (List.getElem?_append_left hid) (fun r => r.mono hle') (fun o ho => hnf b o ho hlt), (hle.kept b hlt (hno b)).trans c2, c3, c4, fun o ho => c5 o (hnf b o ho hlt)⟩
    · obtain ⟨z, cc, T, c1, c2, c3, c4, c5⟩ := hs.tok _ _ _ _ e
      refine ⟨z, cc, T, ?_, c2, c3, c4, c5⟩
      rcases c1 with c1 | ⟨cs, c1, c6, c7, c8⟩
      · exact .inl (hsget _ _ c1 hid)
      · refine .inr ⟨V.shifts h.length cs, hsget _ _ c1 hid, by rw [shifts_map, List.length_map]; exact c6, fun j hj hc => ?_, c8⟩
        have hj' : j < cs.length := by rw [shifts_map, List.length_map] at hj; exact hj
        have e1 : (V.shifts h.length cs)[j] = (cs[j]).shift h.length := by simp [shifts_map]
        rw [e1]
        exact ⟨(c7 j hj' hc).1.shift, (c7 j hj' hc).2⟩
  · rcases hblk _ _ e with ⟨hid, e⟩ | ⟨hid, e⟩ <;> rcases hblk _ _ e' with ⟨hid', e'⟩ | ⟨hid', e'⟩
    · exact H.inj _ _ _ e e'
    · have := (H.blk_lt e).2; have := hnew b (.inl ⟨_, e'⟩); omega
    · have := (H.blk_lt e').2; have := hnew b (.inl ⟨_, e⟩); omega
    · have := hs.inj _ _ _ e e'; omega
  · rcases htok _ _ e with ⟨hid, e⟩ | ⟨hid, e⟩ <;> rcases htok _ _ e' with ⟨hid', e'⟩ | ⟨hid', e'⟩
    · exact H.tinj _ _ _ _ _ _ _ e e'
    · have := (H.tok_lt e).2; have := hnew b (.inr ⟨_, _, _, e'⟩); omega
    · have := (H.tok_lt e').2; have := hnew b (.inr ⟨_, _, _, e⟩); omega
    · have := hs.tinj _ _ _ _ _ _ _ e e'; omega
  · rcases hblk _ _ e with ⟨hid, e⟩ | ⟨hid, e⟩ <;> rcases htok _ _ e' with ⟨hid', e'⟩ | ⟨hid', e'⟩
    · exact H.bt _ _ _ _ _ e e'
    · have := (H.blk_lt e).2; have := hnew b (.inr ⟨_, _, _, e'⟩); omega
    · have := (H.tok_lt e').2; have := hnew b (.inl ⟨_, e⟩); omega
    · exact hs.bt _ _ _ _ _ e e'
  · have hid' : id < h.length := Nat.lt_of_not_le fun h => hid (.inl h)
    refine ⟨fun e => by simp [Gh.comb, hid', e], fun e => by simp [Gh.comb, hid', e], fun _ _ => ?_⟩
    rw [List.getElem?_append_left hid']

theorem run_ok {rw : Bool} {pf : Nat → Nat} {cf : CallF} (hp : PureCf pf cf) (hcf : CallOk P cf) (hm : P.follows .mixedOrders = true) (hY : YcAll P) {f : Nat} {fn : Func} (hf : P.funcs[f]? = some fn) {pu es : Bool} {xf : XF} (htr : trF P pf (rid + 100 * f) pu es rw fn = some xf) {n : Nat} {args : List V} {h : List O} {r : V} {h' : List O}
    (hrun : runF cf n xf args h = some (r, h')) : Walked P f ∧ CallAt P f args h r h' := by
  obtain ⟨t1, c, t2, t3, t4, t5, t6, t7⟩ := trF_spec htr
  have hyc := hY f fn c hf t2 t7
  refine ⟨⟨fn, hf, t1, by rw [t2]; rfl⟩, fun g w cargs H hl hr => ?_⟩
  have hrv : ∀ i (hi : i < cargs.size) (hj : i < (args.map V.vw2).length), Rep g w cargs[i] (args.map V.vw2)[i] := fun i hi hj => by rw [List.getElem_map]; exact (hr i hi (by simpa using hj)).vw2
  have hlv : cargs.size = (args.map V.vw2).length := by simpa using hl
  unfold runF at hrun
  split at hrun
  · split at hrun
    · rename_i hlow
      let g0 : Gh := ⟨fun _ => none, fun _ => none, g.fz⟩
      have hno : ∀ b, ¬ g0.owns b := by
        rintro b (⟨id, e⟩ | ⟨k, l, c, e⟩) <;> simp [g0] at e
      have H0 : HOk g0 w [] := ⟨fun id b e => by simp [g0] at e, fun id b n c e => by simp [g0] at e, fun id id' b e => by simp [g0] at e, fun id id' b n c n' c' e => by simp [g0] at e, fun id id' b n c e => by simp [g0] at e, H.ag.eqv rfl⟩
      split at hrun
      · simp only [Option.map_eq_some_iff, Prod.mk.injEq] at hrun
        obtain ⟨⟨r0, h0⟩, hrun, rfl, rfl⟩ := hrun
        have H0' : HOk g0 w (pre0 xf) := ⟨fun id b e => by simp [g0] at e, fun id b n c e => by simp [g0] at e, fun id id' b e => by simp [g0] at e, fun id id' b n c n' c' e => by simp [g0] at e, fun id id' b n c e => by simp [g0] at e, H.ag.eqv rfl⟩
        have S0 : Sim [] g0 w { tmps := cargs ++ Array.replicate (fn.ntmps - cargs.size) undef, defers := [] } (start xf (args.map V.vw2) (pre0 xf)) :=
          ⟨by simp only [start]; rw [t5]; exact start_tm (g := g0) (AgOk.eqv (g' := g0) H.ag rfl).gl hlv (fun i hi hj => (hrv i hi hj).bare (lows_get hlow i hj) fun _ _ h => h) _ _, H0', rfl⟩
        refine Calls.mono (body_ok hp hcf hm hf t2 hyc t3 t4 hrun rfl (fun e s he => exec_base _ _ _ _ he) S0) ?_
        rintro e w' ⟨v, g3, s, r1, rfl, hle3, hs3, hq3, _, hrep3, hfin⟩
        obtain ⟨g1, hle, hs, hrep, _, _⟩ := fin_ok (h := pre0 xf) H0' hle3 hs3 hq3 hrep3 hfin
        obtain ⟨k1, k2, k3⟩ := comb_ok H hle hs
        exact ⟨v, _, rfl, k1, k2, hrep.shift, k3⟩
      simp only [Option.map_eq_some_iff, Prod.mk.injEq] at hrun
      obtain ⟨⟨r0, h0⟩, hrun, rfl, rfl⟩ := hrun
      have S0 : Sim [] g0 w { tmps := cargs ++ Array.replicate (fn.ntmps - cargs.size) undef, defers := [] } (start xf (args.map V.vw2) []) :=
        ⟨by simp only [start]; rw [t5]; exact start_tm (g := g0) (AgOk.eqv (g' := g0) H.ag rfl).gl hlv (fun i hi hj => (hrv i hi hj).bare (lows_get hlow i hj) fun _ _ h => h) _ _, H0, rfl⟩
      refine Calls.mono (body_ok hp hcf hm hf t2 hyc t3 t4 hrun rfl (fun e s he => exec_base _ _ _ _ he) S0) ?_
      rintro e w' ⟨v, g3, s, r1, rfl, hle3, hs3, hq3, _, hrep3, hfin⟩
      obtain ⟨g1, hle, hs, hrep, _, hlo⟩ := fin_ok (h := []) H0 hle3 hs3 hq3 hrep3 hfin
      have hlo := hlo rfl
      have hle' : Le g w ⟨g.blk, g.tok, g1.fz⟩ w' := {
        blk := fun _ _ h => h
        tok := fun k b l c h => ⟨b, l, c, h, Nat.le_refl _, fun _ => ⟨rfl, rfl⟩⟩
        fz := hle.fz
        own := fun _ h _ => h
        fzn := fun b o h hlt => (hle.fzn b o h hlt).imp id fun h => absurd h (hno b)
        kept := fun b hlt _ => hle.kept b hlt (hno b)
        size := hle.size
        tape := hle.tape
        os := hle.os
        output := hle.output, sz := hle.sz, oth := hle.oth }
      have hnf : ∀ b o, g1.fz b o → b < w.heap.size → g.fz b o := fun b o h hlt => (hle.fzn b o h hlt).resolve_right (hno b)
      refine ⟨v, ⟨g.blk, g.tok, g1.fz⟩, rfl, hle', ⟨fun id b e => ?_, fun id b n c e => ?_, H.inj, H.tinj, H.bt, hs.ag.eqv rfl⟩, hrep.bare hlo fun _ _ h => h, fun id hid => ⟨fun h => h, fun h => h, fun _ _ => rfl⟩⟩
      · rcases H.obj id b e with ⟨cs, c, T, c1, c2, c3, c4, c5⟩ | q
        · have hlt := (Array.getElem?_eq_some_iff.1 c2).1
          exact .inl ⟨cs, c, T, c1, (hle.kept b hlt (hno b)).trans c2, c3, fun j hj hc => ⟨(c4 j hj hc).1.mono hle', (c4 j hj hc).2⟩, fun o ho => c5 o (hnf b o ho hlt)⟩
        · exact .inr (q.go hle' rfl (hle.kept b q.lt.2 (hno b)) fun o ho => hnf b o ho q.lt.2)
      · obtain ⟨z, cc, T, c1, c2, c3, c4, c5⟩ := H.tok id b n c e
        have hlt := (Array.getElem?_eq_some_iff.1 c2).1
        exact ⟨z, cc, T, c1.map rfl (fun r => r.mono hle') (fun o ho => hnf b o ho hlt), (hle.kept b hlt (hno b)).trans c2, c3, c4, fun o ho => c5 o (hnf b o ho hlt)⟩
    · split at hrun
      · cases hrun
      split at hrun
      · rename_i bs hbs
        split at hrun
        · rename_i hlow
          split at hrun
          · rename_i r' hh hrun2
            split at hrun
            · rename_i hflat
              simp only [Option.some.injEq, Prod.mk.injEq] at hrun
              obtain ⟨rfl, rfl⟩ := hrun
              have H0 := H.frz (lo := 0) (by simp)
              simp only [List.take_zero] at H0
              have hno : ∀ b, ¬ (g.frz 0 h).owns b := by
                rintro b (⟨id, e⟩ | ⟨k, l, c, e⟩) <;> simp [Gh.frz] at e
              obtain ⟨m1, m2⟩ := mapO_ok (Q := SnapOk g w (g.frz 0 h)) (snap_ok H n) hbs
              have S0 : Sim [] (g.frz 0 h) w { tmps := cargs ++ Array.replicate (fn.ntmps - cargs.size) undef, defers := [] } (start xf bs []) :=
                ⟨by simp only [start]; rw [t5]; exact start_tm H0.ag.gl (by omega) (fun i hi hj => (m2 i (by omega) hj).1 _ (hrv i hi (by omega))) _ _, H0, rfl⟩
              refine Calls.mono (body_ok hp hcf hm hf t2 hyc t3 t4 hrun2 rfl (fun e s he => exec_base _ _ _ _ he) S0) ?_
              rintro e w' ⟨v, g3, s, r1, rfl, hle3, hs3, hq3, _, hrep3, hfin⟩
              obtain ⟨g1, hle, hs, hrep, _, hlo⟩ := fin_ok (h := []) H0 hle3 hs3 hq3 hrep3 hfin
              have hle' : Le g w g w' := {
                blk := fun _ _ h => h
                tok := fun k b l c h => ⟨b, l, c, h, Nat.le_refl _, fun _ => ⟨rfl, rfl⟩⟩
                fz := fun b o h => ⟨h, (hle.fz b o (.inl h)).2⟩
                own := fun _ h _ => h
                fzn := fun b o h hlt => .inl h
                kept := fun b hlt _ => hle.kept b hlt (hno b)
                size := hle.size
                tape := hle.tape
                os := hle.os
                output := hle.output, sz := hle.sz, oth := hle.oth.fzs fun b o h => .inl h }
              refine ⟨v, g, rfl, hle', ⟨fun id b e => ?_, fun id b n c e => ?_, H.inj, H.tinj, H.bt, H.ag.go hle' fun b o h => Nat.lt_of_lt_of_le (H.al b o h) hle.size⟩, flat_rep _ hflat _ hrep, fun id hid => ⟨fun h => h, fun h => h, fun _ _ => rfl⟩⟩
              · rcases H.obj id b e with ⟨cs, c, T, c1, c2, c3, c4, c5⟩ | q
                · have hlt := (Array.getElem?_eq_some_iff.1 c2).1
                  exact .inl ⟨cs, c, T, c1, (hle.kept b hlt (hno b)).trans c2, c3, fun j hj hc => ⟨(c4 j hj hc).1.mono hle', (c4 j hj hc).2⟩, c5⟩
                · exact .inr (q.go hle' rfl (hle.kept b q.lt.2 (hno b)) fun _ h => h)
              · obtain ⟨z, cc, T, c1, c2, c3, c4, c5⟩ := H.tok id b n c e
                have hlt := (Array.getElem?_eq_some_iff.1 c2).1
                exact ⟨z, cc, T, c1.go hle' rfl (fun _ h => h), (hle.kept b hlt (hno b)).trans c2, c3, c4, c5⟩
            · cases hrun
          · cases hrun
        · cases hrun
      · cases hrun
  · have S : Sim [] g w { tmps := cargs ++ Array.replicate (fn.ntmps - cargs.size) undef, defers := [] } (start xf (args.map V.vw2) h) := ⟨by simp only [start]; rw [t5]; exact start_tm H.ag.gl hlv hrv _ _, H, rfl⟩
    refine Calls.mono (body_ok hp hcf hm hf t2 hyc t3 t4 hrun rfl (fun e s he => exec_base _ _ _ _ he) S) ?_
    rintro e w' ⟨v, g3, s, r1, rfl, hle3, hs3, hq3, _, hrep3, hfin⟩
    obtain ⟨g2, k1, k2, k3, k4, _⟩ := fin_ok H hle3 hs3 hq3 hrep3 hfin
    exact ⟨v, g2, rfl, k1, k2, k3, k4⟩

theorem putAll_ok {g : Gh} {w : World} : ∀ (ps : List Nat) (vs tm tm' : List V) (xs : List Value) (cs : Array Value), putAll ps vs tm = some tm' → xs.length = vs.length → (∀ i (hi : i < xs.length) (hj : i < vs.length), Rep g w xs[i] vs[i]) →
    cs.size = tm.length → (∀ i (hi : i < cs.size) (hj : i < tm.length), Rep g w cs[i] tm[i]) →
    ((ps.zip xs).foldl (fun t (q : Nat × Value) => t.setIfInBounds q.1 q.2) cs).size = tm'.length ∧ ∀ i (hi : i < ((ps.zip xs).foldl (fun t (q : Nat × Value) => t.setIfInBounds q.1 q.2) cs).size) (hj : i < tm'.length), Rep g w ((ps.zip xs).foldl (fun t (q : Nat × Value) => t.setIfInBounds q.1 q.2) cs)[i] tm'[i]
  | [], [], tm, tm', xs, cs, h, _, _, hn, hr => by
    simp only [putAll, Option.some.injEq] at h
    subst h
    exact ⟨hn, hr⟩
  | p :: ps, v :: vs, tm, tm', xs, cs, h, hl, hx, hn, hr => by
    cases xs with
    | nil => simp at hl
    | cons x xs =>
      simp only [putAll] at h
      simp only [List.zip_cons_cons, List.foldl_cons]
      refine putAll_ok ps vs (tm.set p v) tm' xs (cs.setIfInBounds p x) h (by simpa using hl) (fun i hi hj => hx (i + 1) (by simpa using hi) (by simpa using hj)) (by simpa using hn) fun i hi hj => ?_
      rw [Array.getElem_setIfInBounds, List.getElem_set]
      split
      · exact hx 0 (by simp) (by simp)
      · exact hr i (by simpa using hi) (by simpa using hj)
  | [], _ :: _, _, _, _, _, h, _, _, _, _ => by simp [putAll] at h
  | _ :: _, [], _, _, _, _, h, _, _, _, _ => by simp [putAll] at h
theorem putAll_len : ∀ {ps : List Nat} {vs tm tm' : List V}, putAll ps vs tm = some tm' → vs.length = ps.length
  | [], [], _, _, _ => rfl
  | _ :: ps, _ :: vs, _, _, h => by simp only [putAll] at h; simp [putAll_len h]
  | [], _ :: _, _, _, h => by simp [putAll] at h
  | _ :: _, [], _, _, h => by simp [putAll] at h

/-- The objects that the frame began with, and no others. -/
theorem HOk.backTo {g g1 : Gh} {w w1 : World} {h s : List O} (H : HOk g w h) (hle : Le g w g1 w1) (hs : HOk g1 w1 s) (hq : Quiet (Frb h.length h) g h g1 s) (hall : (s.take h.length).all (O.low h.length) = true) :
    Le g w (g1.res h.length) w1 ∧ HOk (g1.res h.length) w1 (s.take h.length) ∧ Quiet (Frb h.length h) g h (g1.res h.length) (s.take h.length) := by
  have hb : ∀ id b, g.blk id = some b → id < h.length := fun id b e => (H.blk_lt e).1
  have ht : ∀ id p, g.tok id = some p → id < h.length := fun id p e => by obtain ⟨b, n, c⟩ := p; exact (H.tok_lt e).1
  refine ⟨hle.res hb ht, hs.res _ hall, fun id hid => ?_⟩
  have hid' : id < h.length := Nat.lt_of_not_le fun h => hid (.inl h)
  obtain ⟨q1, q2, q3⟩ := hq id hid
  refine ⟨fun e => by simp only [Gh.res, hid', if_true]; exact q1 e, fun e => by simp only [Gh.res, hid', if_true]; exact q2 e, fun e e' => ?_⟩
  rw [List.getElem?_take, if_pos hid']
  exact q3 e e'

theorem HOk.loopOf {g : Gh} {w : World} {h : List O} (H : HOk g w h) {k l s : Nat} (hb : g.blk k = some l) (hk : h[k]? = some (.loop s)) : ∃ L, w.heap[l]? = some (.loop L) ∧ LState s L ∧ ∀ o, ¬ g.fz l o := by
  rcases H.obj _ _ hb with ⟨_, _, _, q, _⟩ | ⟨s', L, q, q2, q3, q4⟩ | ⟨_, _, _, _, q, _⟩ <;> rw [hk] at q <;> simp only [Option.some.injEq, O.loop.injEq, reduceCtorEq] at q
  subst q
  exact ⟨L, q2, q3, q4⟩

theorem HOk.loopTo {g : Gh} {w : World} {h : List O} (H : HOk g w h) {k l s s' : Nat} (hb : g.blk k = some l) (hk : h[k]? = some (.loop s)) {L L' : Loop} (hL : w.heap[l]? = some (.loop L)) (hsame : LSame L L') (hst : LState s' L') :
    Le g w g (w.putObj l (.loop L')) ∧ HOk g (w.putObj l (.loop L')) (h.set k (.loop s')) := by
  obtain ⟨_, _, _, hnf⟩ := H.loopOf hb hk
  exact H.setOth hb hL rfl (ob' := .loop L') rfl ⟨_, rfl, hsame⟩ (w' := w.putObj l (.loop L')) rfl rfl rfl rfl (x := .loop s') fun h' hx hb' t _ => .inl ⟨s', _, hx, hb', hst, hnf⟩

theorem set_quiet {g : Gh} {h0 h : List O} {g0 : Gh} {B : Nat → Prop} {k l : Nat} {x : O} (hq : Quiet B g0 h0 g h) (hb : g0.blk k = some l) : Quiet B g0 h0 g (h.set k x) := by
  intro id hid
  obtain ⟨q1, q2, q3⟩ := hq id hid
  refine ⟨q1, q2, fun e e' => ?_⟩
  rw [List.getElem?_set_ne (fun h => by subst h; rw [hb] at e; cases e)]
  exact q3 e e'

/-- A round. -/
theorem round_ok {rw : Bool} {pf : Nat → Nat} {cf : CallF} (hp : PureCf pf cf) (hcf : CallOk P cf) (hm : P.follows .mixedOrders = true) {y : Nat} {tps : Array Tmp} {asg body : Code} {xa xb : XC} (hy : yc y = some (tps, asg, body))
    {y1 y2 nt : Nat} (ha : trC P rw pf nt y1 asg = some xa) (hya : YcOk y1 asg) (hb : trC P rw pf nt y2 body = some xb) (hyb : YcOk y2 body) {n : Nat} {as0 : List V} {h : List O} {r : V} {h' : List O} {k0 : Int}
    (hrun : (if k0.toNat < h.length then runRound cf n tps.toList xa xb k0.toNat (as0.take tps.toList.length) (as0.drop tps.toList.length) h else none) = some (r, h')) : RoundAt P y (.c (.int .i64 k0) :: as0) h r h' := by
  intro k vs caps hargs g w l tmps cvs H hblk hla hn htm hcn hcv
  simp only [List.cons.injEq, V.c.injEq, Value.int.injEq, true_and] at hargs
  obtain ⟨rfl, rfl⟩ := hargs
  simp only [Int.toNat_natCast] at hrun
  split at hrun
  rotate_left
  · cases hrun
  rename_i hkl
  obtain ⟨L, hL, hLt, hLy, hLn⟩ := hla
  rw [hy] at hLy
  simp only [Option.some.injEq, Prod.mk.injEq] at hLy
  obtain ⟨hLp, hLa, hLb⟩ := hLy
  have hps : vs.length = tps.toList.length := by rw [← hLn, hLp]; simp
  rw [hps.symm, List.take_left' rfl, List.drop_left' rfl] at hrun
  unfold runRound at hrun
  split at hrun
  rotate_left
  · cases hrun
  rename_i tm0 hput
  split at hrun
  rotate_left
  · cases hrun
  rename_i st1 hex1
  split at hrun
  rotate_left
  · cases hrun
  rename_i hk1
  split at hrun
  rotate_left
  · cases hrun
  rename_i e st2 hex2
  split at hrun
  rotate_left
  · cases hrun
  rename_i hk2
  simp only at hrun
  split at hrun
  rotate_left
  · cases hrun
  rename_i hall
  simp only [Option.some.injEq, Prod.mk.injEq] at hrun
  obtain ⟨rfl, rfl⟩ := hrun
  have hyl := run_yield (P := P) (args := cvs) hL (by rw [hcn, hLn])
  refine ⟨_, _, _, _, hyl, ?_⟩
  rw [← hLa, ← hLb]
  refine roundIn_of_wpIn (F := Fence.wide) trivial ?_
  have hzip : (L.params.zip cvs).foldl (fun tmps (q : Tmp × Value) => tmps.setIfInBounds q.1 q.2) L.tmps = (tps.toList.zip cvs.toList).foldl (fun t (q : Nat × Value) => t.setIfInBounds q.1 q.2) tmps := by
    rw [← hLp, hLt, ← Array.foldl_toList, Array.toList_zip]
  obtain ⟨z1, z2⟩ := putAll_ok (g := g) (w := w) tps.toList vs caps tm0 cvs.toList tmps hput (by simpa using hcn) (fun i hi hj => by simpa using hcv i (by simpa using hi) hj) hn htm
  have S0 : Sim [] g w { tmps := (L.params.zip cvs).foldl (fun tmps (q : Tmp × Value) => tmps.setIfInBounds q.1 q.2) L.tmps, defers := [] } { tm := tm0, h := h, base := h.length, rb := 0 } := by
    refine ⟨?_, H, rfl⟩
    rw [hzip]
    exact ⟨z1, z2, H.ag.gl⟩
  refine exec_ok (ρ := some l) (m := 0) (nn := 0) (base := h.length) hp hcf hm n asg y1 xa ha hya [] g w _ _ st1 .normal hex1 S0 (Nat.le_refl _) ⟨Nat.zero_le _, List.nodup_nil, fun d hd => by simp at hd, fun l' e => by cases e; exact ⟨L, hL⟩⟩ _ fun ds1 a1 w1 g1 k1 k2 k3 k4 k5 _ => ?_
  have hb1 := k1.blk _ _ hblk
  obtain ⟨L1, hL1, hs1, _⟩ := k2.hk.loopOf hb1 hk1
  obtain ⟨l1, l2⟩ := k2.hk.loopTo hb1 hk1 hL1 (L' := { L1 with state := .busy }) ⟨rfl, rfl, rfl, rfl, rfl, rfl⟩ (s' := 1) rfl
  refine ⟨_, run_beginRound hL1 hs1.1, ?_⟩
  have q1 : Quiet (Frb h.length h) g h g1 (st1.h.set k (.loop 1)) := set_quiet k3 hblk
  refine exec_ok (ρ := some l) (m := 0) (nn := 0) (base := h.length) hp hcf hm n body y2 xb hb hyb ds1 g1 _ a1 { st1 with h := st1.h.set k (.loop 1) } st2 e hex2 ⟨⟨k2.tm.1, fun i hi hj => (k2.tm.2 i hi hj).mono l1, l2.ag.gl⟩, l2, k2.df⟩ (by simpa using k4) (k5.go k2.hk l1) _ fun ds2 a2 w2 g2 m1 m2 m3 m4 m5 _ => ?_
  have hb2 := m1.blk _ _ hb1
  obtain ⟨L2, hL2, _, _⟩ := m2.hk.loopOf hb2 hk2
  have hq2 : Quiet (Frb h.length h) g h g2 st2.h := q1.transL l2 (k1.trans l1) m3
  have fin : ∀ (jump : Option Code) (s' : Nat), LState s' { L2 with state := if jump.isNone then .ready else .done, pending := jump } → e.num = s' → jump.isNone = (e.num == 0) → ∃ v w', (Instr.endRound l jump).run P w2 = .ok v w' ∧
      ∃ v' g', Ending.returned v = .returned v' ∧ Le g w g' w' ∧ HOk g' w' ((st2.h.set k (.loop e.num)).take h.length) ∧ Rep g' w' v' (.c (.bool (e.num == 0))) ∧ Quiet (Frb h.length h) g h g' ((st2.h.set k (.loop e.num)).take h.length) := by
    intro jump s' hst hes hjn
    obtain ⟨n1, n2⟩ := m2.hk.loopTo hb2 hk2 hL2 (L' := { L2 with state := if jump.isNone then .ready else .done, pending := jump }) ⟨rfl, rfl, rfl, rfl, rfl, rfl⟩ (s' := s') hst
    rw [← hes] at n2
    obtain ⟨o1, o2, o3⟩ := H.backTo (((k1.trans l1).trans m1).trans n1) n2 (set_quiet hq2 hblk) hall
    exact ⟨_, _, run_endRound jump hL2, _, _, rfl, o1, o2, by rw [hjn]; exact .c _, o3⟩
  cases e with
  | normal =>
    obtain ⟨v, w', f1, v', g', f0, f2⟩ := fin none 0 ⟨rfl, rfl⟩ rfl rfl
    exact ⟨v, w', f1, v', g', f0, f2⟩
  | ret =>
    obtain ⟨v, w', f1, v', g', f0, f2⟩ := fin (some .ret) 3 ⟨rfl, rfl⟩ rfl rfl
    exact ⟨v, w', f1, v', g', f0, f2⟩
  | exit id =>
    obtain ⟨v, w', f1, v', g', f0, f2⟩ := fin (some (.exit id)) (id + 4) ⟨rfl, rfl⟩ rfl (by simp [Ex.num])
    exact ⟨v, w', f1, v', g', f0, f2⟩

theorem run_esc {cf : CallF} {n : Nat} {xf : XF} (hpu : xf.pure = true ∧ xf.esc = true) {args : List V} {h : List O} {r : V} {h' : List O} (hrun : runF cf n xf args h = some (r, h')) : ∃ e, h' = h ++ e := by
  unfold runF at hrun
  simp only [hpu.1, hpu.2, if_true] at hrun
  split at hrun
  · simp only [Option.map_eq_some_iff, Prod.mk.injEq] at hrun
    obtain ⟨_, _, _, rfl⟩ := hrun
    exact ⟨_, rfl⟩
  · cases hrun

theorem run_pure {cf : CallF} {n : Nat} {xf : XF} (hpu : xf.pure = true ∧ xf.esc = false) {args : List V} {h : List O} {r : V} {h' : List O} (hrun : runF cf n xf args h = some (r, h')) : h' = h ∧ ∀ h2, CellsLe h h2 → runF cf n xf args h2 = some (r, h2) := by
  unfold runF at hrun ⊢
  simp only [hpu.1, hpu.2, if_true, Bool.false_eq_true, if_false] at hrun ⊢
  split at hrun
  · rename_i hlow
    simp only [Option.map_eq_some_iff, Prod.mk.injEq] at hrun
    obtain ⟨q, hq, rfl, rfl⟩ := hrun
    exact ⟨rfl, fun h2 hh => by simp [hlow, hq]⟩
  · rename_i hlow
    split at hrun
    · rename_i bs hbs
      split at hrun
      · rename_i hlow2
        split at hrun
        · rename_i r' hh hrun2
          split at hrun
          · rename_i hflat
            simp only [Option.some.injEq, Prod.mk.injEq] at hrun
            obtain ⟨rfl, rfl⟩ := hrun
            refine ⟨rfl, fun h2 hh2 => ?_⟩
            simp [hlow, mapO_le (snap_le hh2 n) _ _ hbs, hlow2, hrun2, hflat]
          · cases hrun
        · cases hrun
      · cases hrun
    · cases hrun

theorem call_ok {pf : Nat → Nat} {X : Nat → Option XF} {E : Ext} (hE : ExtOk P pf E) (hX : Laid P pf X) (hY : YcAll P) (hpu : Pures pf X E) (hm : P.follows .mixedOrders = true) : ∀ n, CallOk P (call X E n) ∧ PureCf pf (call X E n) := by
  intro n
  induction n with
  | zero => exact ⟨fun f args h r h' e => by simp [call] at e, fun f args h r h' e => by simp [call] at e⟩
  | succ n ih =>
    constructor
    · intro f args h r h' e
      simp only [call] at e
      split at e
      · rename_i ex hex
        obtain ⟨hf, hx⟩ := hE f ex hex
        exact ⟨fun _ => (hx n _ ih.1 ih.2).1 _ _ _ _ e, fun hy => absurd hf (Nat.not_lt.2 hy)⟩
      · split at e
        · cases e
        · rename_i xf hxf
          rcases hX f xf hxf with ⟨hf, ha, fn, hfn, htr⟩ | ⟨hf, tps, asg, body, xa, h1, h2, h3, h4, h5, h6⟩
          · rw [ha] at e
            exact ⟨fun _ => run_ok ih.2 ih.1 hm hY hfn htr e, fun hy => absurd hf (Nat.not_lt.2 hy)⟩
          · rw [h2] at e
            refine ⟨fun hy => absurd hy (Nat.not_lt.2 hf), fun _ => ?_⟩
            simp only at e
            split at e
            · exact fun k vs caps hargs => by
                simp only [List.cons.injEq, V.c.injEq, Value.int.injEq] at hargs
                obtain ⟨⟨rfl, rfl⟩, rfl⟩ := hargs
                exact round_ok ih.2 ih.1 hm h1 h3 h5 h4 h6 e k vs caps rfl
            · cases e
    · intro f args h r h' e
      simp only [call] at e ⊢
      cases hex : E f with
      | some ex =>
        rw [hex] at e
        exact ((hE f ex hex).2 n _ ih.1 ih.2).2 args h r h' e
      | none =>
        rw [hex] at e
        cases hxf : X f with
        | none => rw [hxf] at e; cases e
        | some xf =>
          rw [hxf] at e
          have hpf := hpu f hex xf hxf
          cases ha : xf.asg with
          | none =>
            simp only [ha] at e ⊢
            exact ⟨fun hf => run_pure (hpf.1 hf).1 e, fun hf => (by obtain ⟨e2, rfl⟩ := run_esc (hpf.2 hf).1 e; exact CellsLe.app _ _)⟩
          | some p =>
            exact ⟨fun hf => absurd ((hpf.1 hf).2.symm.trans ha) (by simp), fun hf => absurd ((hpf.2 hf).2.symm.trans ha) (by simp)⟩
end
end Go.Proofs.YtkiliokeanmagaaDoor.Ab
