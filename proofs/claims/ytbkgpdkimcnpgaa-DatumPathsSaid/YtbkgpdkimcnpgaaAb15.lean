/- Calls are what the interpreter says. -/
import Derived.Test.YtbkgpdkimcnpgaaAb14
namespace Go.Proofs.Ytbkgpdkimcnpgaa.Ab
open Go
set_option linter.unusedVariables false
set_option linter.unusedSimpArgs false

def ExtOk (P : Program) (pf : Nat → Nat) (E : Ext) : Prop := ∀ f e, E f = some e → ∀ n cf, CallOk P cf → PureCf pf cf →
  (∀ args h r h', e n cf args h = some (r, h') → Walked P f ∧ CallAt P f args h r h') ∧ (∀ args h r h', e n cf args h = some (r, h') → (pf f = 1 → h' = h ∧ ∀ h2, CellsLe h h2 → e n cf args h2 = some (r, h2)) ∧ (pf f = 2 → CellsLe h h'))
def Laid (P : Program) (pf : Nat → Nat) (X : Nat → Option XF) : Prop := ∀ f xf, X f = some xf → ∃ fn, P.funcs[f]? = some fn ∧ trF P pf xf.pure xf.esc xf.rw fn = some xf
def Pures (pf : Nat → Nat) (X : Nat → Option XF) (E : Ext) : Prop := ∀ f, E f = none → ∀ xf, X f = some xf → (pf f = 1 → xf.pure = true ∧ xf.esc = false) ∧ (pf f = 2 → xf.pure = true ∧ xf.esc = true)

section
variable {P : Program}

theorem trF_spec {pf : Nat → Nat} {pu es rw : Bool} {fn : Func} {xf : XF} (h : trF P pf pu es rw fn = some xf) :
    (fn.name == "runtime.NumGoroutine") = false ∧ ∃ c, fn.body = some c ∧ trC P rw pf c = some xf.body ∧ trR P fn.results.toList = some xf.res ∧ xf.ntm = fn.ntmps ∧ xf.pure = pu := by
  unfold trF at h
  split at h
  · cases h
  · rename_i hn
    split at h
    · rename_i c hc
      split at h
      · rename_i xc rs h1 h2
        simp only [Option.some.injEq] at h
        subst h
        exact ⟨by simpa using hn, c, hc, h1, h2, rfl, rfl⟩
      · cases h
    · cases h

theorem start_tm {g : Gh} {w : World} {cargs : Array Value} {args : List V} (hl : cargs.size = args.length) (hr : ∀ i (hi : i < cargs.size) (hj : i < args.length), Rep g w cargs[i] args[i]) (n : Nat) (ds : List Deferred) :
    Tm g w { tmps := cargs ++ Array.replicate (n - cargs.size) undef, defers := ds } (args ++ List.replicate (n - args.length) undefV) := by
  refine ⟨by simp [hl], fun i hi hj => ?_⟩
  simp only
  rw [Array.getElem_append, List.getElem_append]
  simp only [hl]
  split
  · rename_i hlt
    exact hr i (by omega) hlt
  · simp only [Array.getElem_replicate, List.getElem_replicate]
    exact .c _

/-- What becomes of the result and of the objects. -/
def FinR (esc : Bool) (n base : Nat) (s : List O) (r0 r : V) (h' : List O) : Prop :=
  (esc = true ∧ r = r0 ∧ h' = s) ∨
  ((s.take base).all (O.low base) = true ∧ h' = s.take base ∧ r.low base = true ∧ (r = r0 ∨ snap base s n r0 = some r))

theorem body_ok {rw : Bool} {pf : Nat → Nat} {cf : CallF} (hp : PureCf pf cf) (hcf : CallOk P cf) (hm : P.follows .mixedOrders = true) {f : Nat} {fn : Func} (hf : P.funcs[f]? = some fn) {c : Code} (hb : fn.body = some c) {xc : XC} (hc : trC P rw pf c = some xc)
    {rs : List XR} (hrs : trR P fn.results.toList = some rs) {n : Nat} {st : St} {esc : Bool} {r : V} {h' : List O} (hrun : fin esc n rs (exec cf n xc st) = some (r, h')) (hbase : st.base = st.h.length) (hbk : ∀ e s, exec cf n xc st = some (e, s) → s.base = st.base)
    {g : Gh} {w : World} {cargs : Array Value} (S : Sim g w { tmps := cargs ++ Array.replicate (fn.ntmps - cargs.size) undef, defers := [] } st) :
    Calls P f cargs w (fun e w' => ∃ v g' s r0, e = .returned v ∧ Le g w g' w' ∧ HOk g' w' s ∧ Quiet (Frb st.base st.h) g st.h g' s ∧ st.base ≤ s.length ∧ Rep g' w' v r0 ∧ FinR esc n st.base s r0 r h') := by
  cases he : exec cf n xc st with
  | none => rw [he] at hrun; simp [fin] at hrun
  | some p =>
    obtain ⟨e, s⟩ := p
    rw [he] at hrun
    have hbs := hbk e s he
    have hfin : ∃ vs, resAll s rs = some vs ∧ FinR esc n st.base s.h (resOf vs).vw r h' ∧ (e = .normal ∨ e = .ret) := by
      have main : ∀ {o : Option (V × List O)}, o = some (r, h') → o = (match resAll s rs with
          | some vs =>
            if esc then some ((resOf vs).vw, s.h) else
            if (resOf vs).vw.low s.base then if (s.h.take s.base).all (O.low s.base) then some ((resOf vs).vw, s.h.take s.base) else none
            else match snap s.base s.h n (resOf vs).vw with
              | some r => if r.low s.base && (s.h.take s.base).all (O.low s.base) then some (r, s.h.take s.base) else none
              | none => none
          | none => none) → ∃ vs, resAll s rs = some vs ∧ FinR esc n st.base s.h (resOf vs).vw r h' := by
        intro o ho ho2
        rw [ho, hbs] at ho2
        split at ho2
        · rename_i vs hvs
          refine ⟨vs, hvs, ?_⟩
          split at ho2
          · rename_i hesc
            simp only [Option.some.injEq, Prod.mk.injEq] at ho2
            exact .inl ⟨hesc, ho2.1, ho2.2⟩
          · split at ho2
            · rename_i hlow
              split at ho2
              · rename_i hall
                simp only [Option.some.injEq, Prod.mk.injEq] at ho2
                exact .inr ⟨hall, ho2.2, by rw [ho2.1]; exact hlow, .inl ho2.1⟩
              · cases ho2
            · split at ho2
              · rename_i r' hsn
                split at ho2
                · rename_i hcond
                  simp only [Option.some.injEq, Prod.mk.injEq] at ho2
                  simp only [Bool.and_eq_true] at hcond
                  obtain ⟨rfl, rfl⟩ := ho2
                  exact .inr ⟨hcond.2, rfl, hcond.1, .inr hsn⟩
                · cases ho2
              · cases ho2
        · cases ho2
      cases e with
      | exit id => simp [fin] at hrun
      | normal =>
        obtain ⟨vs, a1, a2⟩ := main hrun rfl
        exact ⟨vs, a1, a2, .inl rfl⟩
      | ret =>
        obtain ⟨vs, a1, a2⟩ := main hrun rfl
        exact ⟨vs, a1, a2, .inr rfl⟩
    obtain ⟨vs, a1, a2, a6⟩ := hfin
    refine calls_of_wp hf hb (exec_ok hp hcf hm n c xc hc g w _ st s e he S (Nat.le_of_eq hbase) _ fun a' w' g' k1 k2 k3 k4 => ?_)
    obtain ⟨x, r1, r2⟩ := results_ok k2 hrs a1
    have hpost : a'.defers = [] ∧ ∃ v, (results fn a'.tmps).run P w' = .ok v w' ∧ (∃ v₀ g₀ s r0, Ending.returned v = .returned v₀ ∧ Le g w g₀ w' ∧ HOk g₀ w' s ∧ Quiet (Frb st.base st.h) g st.h g₀ s ∧ st.base ≤ s.length ∧ Rep g₀ w' v₀ r0 ∧ FinR esc n st.base s r0 r h') :=
      ⟨k2.df, x, r1, x, g', s.h, _, rfl, k1, k2.hk, k3, k4, r2.vw, a2⟩
    rcases a6 with rfl | rfl
    · exact hpost
    · exact hpost

theorem Le.res {g g' : Gh} {w w' : World} (h : Le g w g' w') {n : Nat} (hb : ∀ id b, g.blk id = some b → id < n) (ht : ∀ id p, g.tok id = some p → id < n) : Le g w (g'.res n) w' where
  blk id b e := by simp only [Gh.res, hb id b e, if_true]; exact h.blk id b e
  tok k b l c e := by
    obtain ⟨b', l', c', e1, e2⟩ := h.tok k b l c e
    exact ⟨b', l', c', by simp only [Gh.res, ht k _ e, if_true]; exact e1, e2⟩
  fz := h.fz
  own b ho hlt := by
    refine h.own b ?_ hlt
    rcases ho with ⟨id, e⟩ | ⟨k, l, c, e⟩
    · refine .inl ⟨id, ?_⟩
      simp only [Gh.res] at e
      split at e
      · exact e
      · cases e
    · refine .inr ⟨k, l, c, ?_⟩
      simp only [Gh.res] at e
      split at e
      · exact e
      · cases e
  fzn := h.fzn
  kept := h.kept
  size := h.size
  tape := h.tape
  os := h.os
  output := h.output
  sz := h.sz

theorem stepO_base {cf : CallF} {xs : List XOper} : ∀ {st s : St}, runOps cf xs st = some s → s.base = st.base := by
  induction xs with
  | nil => intro st s h; simp only [runOps, Option.some.injEq] at h; rw [h]
  | cons x xs ih =>
    intro st s h
    simp only [runOps] at h
    split at h
    · rename_i s1 h1
      rw [ih h, (step_rb h1).2]
    · cases h
theorem stepW_base {cf : CallF} {xs : List XOper} : ∀ {st s : St}, runW cf xs st = some s → s.base = st.base := by
  induction xs with
  | nil => intro st s h; simp only [runW, Option.some.injEq] at h; rw [h]
  | cons x xs ih =>
    intro st s h
    simp only [runW] at h
    split at h
    · rename_i s1 h1
      rw [ih h, (stepW_rb h1).2]
    · cases h
theorem exec_base {cf : CallF} {n : Nat} : ∀ (xc : XC) (st s : St) (e : Ex), exec cf n xc st = some (e, s) → s.base = st.base := by
  intro xc
  induction xc with
  | skip => intro st s e h; simp only [exec, Option.some.injEq, Prod.mk.injEq] at h; rw [← h.2]
  | reg ops pre d =>
    intro st s e h
    simp only [exec, Option.map_eq_some_iff, Prod.mk.injEq] at h
    obtain ⟨s1, h1, _, rfl⟩ := h
    rw [stepO_base h1]
  | regw ops pre =>
    intro st s e h
    simp only [exec, Option.map_eq_some_iff, Prod.mk.injEq] at h
    obtain ⟨s1, h1, _, rfl⟩ := h
    rw [stepW_base h1]
  | seq a b ih1 ih2 =>
    intro st s e h
    simp only [exec] at h
    split at h
    · rename_i s1 h1
      rw [ih2 _ _ _ h, ih1 _ _ _ h1]
    · exact ih1 _ _ _ h
  | cond c a b ih1 ih2 =>
    intro st s e h
    simp only [exec] at h
    split at h
    · split at h
      · exact ih1 _ _ _ h
      · exact ih2 _ _ _ h
    · cases h
  | block id c ih =>
    intro st s e h
    simp only [exec] at h
    split at h
    · rename_i h1
      split at h
      · simp only [Option.some.injEq, Prod.mk.injEq] at h
        rw [← h.2]
        exact ih _ _ _ h1
      · simp only [Option.some.injEq, Prod.mk.injEq] at h
        rw [← h.2]
        exact ih _ _ _ h1
    · exact ih _ _ _ h
  | loop c ih =>
    intro st s e h
    simp only [exec] at h
    have : ∀ k st, iter (exec cf n c) k st = some (e, s) → s.base = st.base := by
      intro k
      induction k with
      | zero => intro st h; simp [iter] at h
      | succ k ihk =>
        intro st h
        simp only [iter] at h
        split at h
        · rename_i s1 h1
          rw [ihk _ h, ih _ _ _ h1]
        · exact ih _ _ _ h
    exact this _ _ h
  | exit id => intro st s e h; simp only [exec, Option.some.injEq, Prod.mk.injEq] at h; rw [← h.2]
  | ret => intro st s e h; simp only [exec, Option.some.injEq, Prod.mk.injEq] at h; rw [← h.2]

theorem fin_ok {g g1 : Gh} {w w' : World} {h s : List O} {esc : Bool} {n : Nat} {v : Value} {r0 r : V} {h' : List O} (H : HOk g w h) (hle : Le g w g1 w') (hs : HOk g1 w' s) (hq : Quiet (Frb h.length h) g h g1 s) (hrep : Rep g1 w' v r0) (hf : FinR esc n h.length s r0 r h') :
    ∃ g2, Le g w g2 w' ∧ HOk g2 w' h' ∧ Rep g2 w' v r ∧ Quiet (Frb h.length h) g h g2 h' ∧ (esc = false → r.low h.length = true) := by
  have hb : ∀ id b, g.blk id = some b → id < h.length := fun id b e => (H.blk_lt e).1
  have ht : ∀ id p, g.tok id = some p → id < h.length := fun id p e => by obtain ⟨b, n, c⟩ := p; exact (H.tok_lt e).1
  rcases hf with ⟨hesc, rfl, rfl⟩ | ⟨hall, rfl, hlow, hr⟩
  · exact ⟨g1, hle, hs, hrep, hq, fun e => by rw [hesc] at e; cases e⟩
  · have hquiet : ∀ g2 : Gh, (∀ id, id < h.length → g2.blk id = g1.blk id ∧ g2.tok id = g1.tok id) → Quiet (Frb h.length h) g h g2 (s.take h.length) := by
      intro g2 hg2 id hid
      have hid' : id < h.length := Nat.lt_of_not_le fun h => hid (.inl h)
      obtain ⟨q1, q2, q3⟩ := hq id hid
      obtain ⟨e1, e2⟩ := hg2 id hid'
      refine ⟨fun e => by rw [e1]; exact q1 e, fun e => by rw [e2]; exact q2 e, fun e e' => ?_⟩
      rw [List.getElem?_take, if_pos hid']
      exact q3 e e'
    rcases hr with rfl | hsn
    · exact ⟨g1.res h.length, hle.res hb ht, hs.res _ hall, hrep.res hlow, hquiet _ fun id hid => by simp [Gh.res, hid], fun _ => hlow⟩
    · exact ⟨g1.frz h.length s, hle.frz hb ht, hs.frz hall, (snap_ok hs n _ _ hsn).1 _ hrep, hquiet _ fun id hid => by simp [Gh.frz, hid], fun _ => hlow⟩

/-- Objects behind other ones. -/
def Gh.comb (g g1 : Gh) (k : Nat) : Gh := ⟨fun id => if id < k then g.blk id else g1.blk (id - k), fun id => if id < k then g.tok id else g1.tok (id - k), g1.fz⟩

theorem shifts_map (k : Nat) : ∀ l : List V, V.shifts k l = l.map (V.shift k)
  | [] => rfl
  | v :: l => by simp [V.shifts, shifts_map k l]
theorem shift_cells (k : Nat) (v : V) : (v.shift k).cells = v.cells.map (V.shift k) := by
  cases v <;> simp [V.shift, V.cells, shifts_map]
theorem shift_flats (k : Nat) : ∀ l : List V, flats (V.shifts k l) = (flats l).map (V.shift k)
  | [] => rfl
  | v :: l => by
    have e : ∀ (a : V) (l : List V), flats (a :: l) = a.cells ++ flats l := fun a l => by simp [flats]
    rw [V.shifts, e, e, shift_cells, shift_flats k l, List.map_append]

theorem Rep.shift {g g1 : Gh} {w : World} {k : Nat} {x : Value} {v : V} (h : Rep g1 w x v) : Rep (g.comb g1 k) w x (v.shift k) := by
  induction h with
  | c x => exact .c x
  | agg xs cs hn h1 _ ih => rw [V.shift, shifts_map]; exact .agg xs _ (by simpa using hn) h1 fun i hi hj => by rw [List.getElem_map]; exact ih i hi (by simpa using hj)
  | tup xs cs hn _ ih => rw [V.shift, shifts_map]; exact .tup xs _ (by simpa using hn) fun i hi hj => by rw [List.getElem_map]; exact ih i hi (by simpa using hj)
  | sl A n cap us i z cv hn hc hzz hA _ hi ih =>
    have hl : (V.shifts k us).length = us.length := by rw [shifts_map, List.length_map]
    rw [V.shift]
    refine .sl A n cap _ _ z cv (by rw [hl]; exact hn) hc (fun u hu => ?_) (fun hne => ?_) (fun j hj => ?_) ?_
    · rw [shifts_map] at hu
      obtain ⟨u0, hu0, rfl⟩ := List.mem_map.1 hu
      rw [shift_cells, List.length_map]
      exact hzz u0 hu0
    · obtain ⟨b, o, e, h2⟩ := hA (by intro e; subst e; exact hne rfl)
      rw [hl]
      exact ⟨b, o, e, h2⟩
    · have hj' : j < (flats us).length := by rw [shift_flats, List.length_map] at hj; exact hj
      have : (flats (V.shifts k us))[j] = ((flats us)[j]).shift k := by
        have e : (flats (V.shifts k us))[j]? = ((flats us).map (V.shift k))[j]? := by rw [shift_flats]
        rw [List.getElem?_eq_getElem hj, List.getElem?_map, List.getElem?_eq_getElem hj'] at e
        exact Option.some.inj e
      rw [this]
      exact ih j hj'
    · cases i with
      | any => trivial
      | nil => exact hi
      | full => exact hi
      | isn => exact hi
      | nz => exact hi
      | tok t =>
        obtain ⟨b, l, c, h1, h2⟩ := hi
        exact ⟨b, l, c, by have : ¬ t + k < k := (by omega); simp [Gh.comb, SI.shift, h1, this], h2⟩
  | ptr b o o' cs off cv ho hA _ ih =>
    rw [V.shift, shifts_map]
    exact .ptr b o o' _ off cv ho (fun j hj => hA j (by simpa using hj)) fun j hj => by rw [List.getElem_map]; exact ih j (by simpa using hj)
  | ref id b o h => exact .ref (id + k) b o (by have : ¬ id + k < k := (by omega); simp [Gh.comb, h, this])
  | clo f xs cs hn _ ih => rw [V.shift, shifts_map]; exact .clo f xs _ (by simpa using hn) fun i hi hj => by rw [List.getElem_map]; exact ih i hi (by simpa using hj)
  | row A n cap id off z hc h => exact .row A n cap (id + k) off z hc fun hn => (h hn).imp fun b e => ⟨e.1, by have : ¬ id + k < k := (by omega); simp [Gh.comb, e.2, this]⟩
  | buf A n cap id hc h =>
    obtain ⟨b, cc, T, h1, h2, h3, h4⟩ := h
    have : ¬ id + k < k := by omega
    exact .buf A n cap (id + k) hc ⟨b, cc, T, h1, by simp [Gh.comb, h2, this], h3, h4⟩
  | tsl A n cap t z hc hA h =>
    obtain ⟨b, l, c, h1, h2⟩ := h
    have : ¬ t + k < k := by omega
    exact .tsl A n cap (t + k) z hc hA ⟨b, l, c, by simp [Gh.comb, h1, this], h2⟩
  | tref A t n o h =>
    obtain ⟨b, l, c, h1, h2⟩ := h
    have : ¬ t + k < k := by omega
    exact .tref A (t + k) n o ⟨b, l, c, by simp [Gh.comb, h1, this], h2⟩
  | top x => exact .top x

theorem comb_ok {g g1 : Gh} {w w1 : World} {h s : List O} (H : HOk g w h) (hle : Le ⟨fun _ => none, fun _ => none, g.fz⟩ w g1 w1) (hs : HOk g1 w1 s) :
    Le g w (g.comb g1 h.length) w1 ∧ HOk (g.comb g1 h.length) w1 (h ++ s.map (O.shift h.length)) ∧ Quiet (Frb h.length h) g h (g.comb g1 h.length) (h ++ s.map (O.shift h.length)) := by
  have hno : ∀ b, ¬ (Gh.owns ⟨fun _ => none, fun _ => none, g.fz⟩ b) := by
    rintro b (⟨id, e⟩ | ⟨k, l, c, e⟩) <;> simp at e
  have hnew : ∀ b, g1.owns b → w.heap.size ≤ b := fun b hb => Nat.le_of_not_lt fun hlt => hno b (hle.own b hb hlt)
  have hblk : ∀ id b, (g.comb g1 h.length).blk id = some b → (id < h.length ∧ g.blk id = some b) ∨ (h.length ≤ id ∧ g1.blk (id - h.length) = some b) := by
    intro id b e
    simp only [Gh.comb] at e
    split at e
    · exact .inl ⟨‹_›, e⟩
    · exact .inr ⟨by omega, e⟩
  have htok : ∀ id p, (g.comb g1 h.length).tok id = some p → (id < h.length ∧ g.tok id = some p) ∨ (h.length ≤ id ∧ g1.tok (id - h.length) = some p) := by
    intro id b e
    simp only [Gh.comb] at e
    split at e
    · exact .inl ⟨‹_›, e⟩
    · exact .inr ⟨by omega, e⟩
  have hle' : Le g w (g.comb g1 h.length) w1 := {
    blk := fun id b e => by simp [Gh.comb, (H.blk_lt e).1, e]
    tok := fun k b l c e => ⟨b, l, c, by simp [Gh.comb, (H.tok_lt e).1, e], Nat.le_refl _, fun _ => ⟨rfl, rfl⟩⟩
    fz := hle.fz
    own := fun b ho hlt => by
      rcases ho with ⟨id, e⟩ | ⟨k, l, c, e⟩
      · rcases hblk _ _ e with e | e
        · exact .inl ⟨id, e.2⟩
        · exact absurd (hnew b (.inl ⟨_, e.2⟩)) (by omega)
      · rcases htok _ _ e with e | e
        · exact .inr ⟨k, l, c, e.2⟩
        · exact absurd (hnew b (.inr ⟨_, l, c, e.2⟩)) (by omega)
    fzn := fun b o e hlt => (hle.fzn b o e hlt).imp id fun e => absurd e (hno b)
    kept := fun b hlt _ => hle.kept b hlt (hno b)
    size := hle.size
    tape := hle.tape
    os := hle.os
    output := hle.output, sz := hle.sz }
  have hnf : ∀ b o, g1.fz b o → b < w.heap.size → g.fz b o := fun b o h hlt => (hle.fzn b o h hlt).resolve_right (hno b)
  have hsget : ∀ id o, s[id - h.length]? = some o → h.length ≤ id → (h ++ s.map (O.shift h.length))[id]? = some (o.shift h.length) := by
    intro id o e hid
    rw [List.getElem?_append_right hid, List.getElem?_map, e]
    rfl
  refine ⟨hle', ⟨fun id b e => ?_, fun id b n c e => ?_, fun id id' b e e' => ?_, fun id id' b n c n' c' e e' => ?_, fun id id' b n c e e' => ?_, hs.al⟩, fun id hid => ?_⟩
  · rcases hblk _ _ e with ⟨hid, e⟩ | ⟨hid, e⟩
    · obtain ⟨cs, c, T, c1, c2, c3, c4, c5⟩ := H.cells id b e
      have hlt := (Array.getElem?_eq_some_iff.1 c2).1
      exact ⟨cs, c, T, by rw [List.getElem?_append_left hid]; exact c1, (hle.kept b hlt (hno b)).trans c2, c3, fun j hj hc => ⟨(c4 j hj hc).1.mono hle', (c4 j hj hc).2⟩, fun o ho => c5 o (hnf b o ho hlt)⟩
    · obtain ⟨cs, c, T, c1, c2, c3, c4, c5⟩ := hs.cells _ _ e
      refine ⟨V.shifts h.length cs, c, T, hsget _ _ c1 hid, c2, by rw [shifts_map, List.length_map]; exact c3, fun j hj hc => ?_, c5⟩
      have hj' : j < cs.length := by rw [shifts_map, List.length_map] at hj; exact hj
      have e1 : (V.shifts h.length cs)[j] = (cs[j]).shift h.length := by simp [shifts_map]
      rw [e1]
      exact ⟨(c4 j hj' hc).1.shift, (c4 j hj' hc).2⟩
  · rcases htok _ _ e with ⟨hid, e⟩ | ⟨hid, e⟩
    · obtain ⟨z, cc, T, c1, c2, c3, c4, c5⟩ := H.tok id b n c e
      have hlt := (Array.getElem?_eq_some_iff.1 c2).1
      exact ⟨z, cc, T, c1.map (List.getElem?_append_left hid) (fun r => r.mono hle') (fun o ho => hnf b o ho hlt), (hle.kept b hlt (hno b)).trans c2, c3, c4, fun o ho => c5 o (hnf b o ho hlt)⟩
    · obtain ⟨z, cc, T, c1, c2, c3, c4, c5⟩ := hs.tok _ _ _ _ e
      refine ⟨z, cc, T, ?_, c2, c3, c4, c5⟩
      rcases c1 with c1 | ⟨cs, c1, c6, c7, c8⟩
      · exact .inl (hsget _ _ c1 hid)
      · refine .inr ⟨V.shifts h.length cs, hsget _ _ c1 hid, by rw [shifts_map, List.length_map]; exact c6, fun j hj hc => ?_, c8⟩
        have hj' : j < cs.length := by rw [shifts_map, List.length_map] at hj; exact hj
        have e1 : (V.shifts h.length cs)[j] = (cs[j]).shift h.length := by simp [shifts_map]
        rw [e1]
        exact ⟨(c7 j hj' hc).1.shift, (c7 j hj' hc).2⟩
  · rcases hblk _ _ e with ⟨hid, e⟩ | ⟨hid, e⟩ <;> rcases hblk _ _ e' with ⟨hid', e'⟩ | ⟨hid', e'⟩
    · exact H.inj _ _ _ e e'
    · have := (H.blk_lt e).2; have := hnew b (.inl ⟨_, e'⟩); omega
    · have := (H.blk_lt e').2; have := hnew b (.inl ⟨_, e⟩); omega
    · have := hs.inj _ _ _ e e'; omega
  · rcases htok _ _ e with ⟨hid, e⟩ | ⟨hid, e⟩ <;> rcases htok _ _ e' with ⟨hid', e'⟩ | ⟨hid', e'⟩
    · exact H.tinj _ _ _ _ _ _ _ e e'
    · have := (H.tok_lt e).2; have := hnew b (.inr ⟨_, _, _, e'⟩); omega
    · have := (H.tok_lt e').2; have := hnew b (.inr ⟨_, _, _, e⟩); omega
    · have := hs.tinj _ _ _ _ _ _ _ e e'; omega
  · rcases hblk _ _ e with ⟨hid, e⟩ | ⟨hid, e⟩ <;> rcases htok _ _ e' with ⟨hid', e'⟩ | ⟨hid', e'⟩
    · exact H.bt _ _ _ _ _ e e'
    · have := (H.blk_lt e).2; have := hnew b (.inr ⟨_, _, _, e'⟩); omega
    · have := (H.tok_lt e').2; have := hnew b (.inl ⟨_, e⟩); omega
    · exact hs.bt _ _ _ _ _ e e'
  · have hid' : id < h.length := Nat.lt_of_not_le fun h => hid (.inl h)
    refine ⟨fun e => by simp [Gh.comb, hid', e], fun e => by simp [Gh.comb, hid', e], fun _ _ => ?_⟩
    rw [List.getElem?_append_left hid']

theorem run_ok {rw : Bool} {pf : Nat → Nat} {cf : CallF} (hp : PureCf pf cf) (hcf : CallOk P cf) (hm : P.follows .mixedOrders = true) {f : Nat} {fn : Func} (hf : P.funcs[f]? = some fn) {pu es : Bool} {xf : XF} (htr : trF P pf pu es rw fn = some xf) {n : Nat} {args : List V} {h : List O} {r : V} {h' : List O}
    (hrun : runF cf n xf args h = some (r, h')) : Walked P f ∧ CallAt P f args h r h' := by
  obtain ⟨t1, c, t2, t3, t4, t5, t6⟩ := trF_spec htr
  refine ⟨⟨fn, hf, t1, by rw [t2]; rfl⟩, fun g w cargs H hl hr => ?_⟩
  have hrv : ∀ i (hi : i < cargs.size) (hj : i < (args.map V.vw2).length), Rep g w cargs[i] (args.map V.vw2)[i] := fun i hi hj => by rw [List.getElem_map]; exact (hr i hi (by simpa using hj)).vw2
  have hlv : cargs.size = (args.map V.vw2).length := by simpa using hl
  unfold runF at hrun
  split at hrun
  · split at hrun
    · rename_i hlow
      let g0 : Gh := ⟨fun _ => none, fun _ => none, g.fz⟩
      have hno : ∀ b, ¬ g0.owns b := by
        rintro b (⟨id, e⟩ | ⟨k, l, c, e⟩) <;> simp [g0] at e
      have H0 : HOk g0 w [] := ⟨fun id b e => by simp [g0] at e, fun id b n c e => by simp [g0] at e, fun id id' b e => by simp [g0] at e, fun id id' b n c n' c' e => by simp [g0] at e, fun id id' b n c e => by simp [g0] at e, H.al⟩
      split at hrun
      · simp only [Option.map_eq_some_iff, Prod.mk.injEq] at hrun
        obtain ⟨⟨r0, h0⟩, hrun, rfl, rfl⟩ := hrun
        have H0' : HOk g0 w (pre0 xf) := ⟨fun id b e => by simp [g0] at e, fun id b n c e => by simp [g0] at e, fun id id' b e => by simp [g0] at e, fun id id' b n c n' c' e => by simp [g0] at e, fun id id' b n c e => by simp [g0] at e, H.al⟩
        have S0 : Sim g0 w { tmps := cargs ++ Array.replicate (fn.ntmps - cargs.size) undef, defers := [] } (start xf (args.map V.vw2) (pre0 xf)) :=
          ⟨by simp only [start]; rw [t5]; exact start_tm (g := g0) hlv (fun i hi hj => (hrv i hi hj).bare (lows_get hlow i hj) fun _ _ h => h) _ _, H0', rfl⟩
        refine Calls.mono (body_ok hp hcf hm hf t2 t3 t4 hrun rfl (fun e s he => exec_base _ _ _ _ he) S0) ?_
        rintro e w' ⟨v, g3, s, r1, rfl, hle3, hs3, hq3, _, hrep3, hfin⟩
        obtain ⟨g1, hle, hs, hrep, _, _⟩ := fin_ok (h := pre0 xf) H0' hle3 hs3 hq3 hrep3 hfin
        obtain ⟨k1, k2, k3⟩ := comb_ok H hle hs
        exact ⟨v, _, rfl, k1, k2, hrep.shift, k3⟩
      simp only [Option.map_eq_some_iff, Prod.mk.injEq] at hrun
      obtain ⟨⟨r0, h0⟩, hrun, rfl, rfl⟩ := hrun
      have S0 : Sim g0 w { tmps := cargs ++ Array.replicate (fn.ntmps - cargs.size) undef, defers := [] } (start xf (args.map V.vw2) []) :=
        ⟨by simp only [start]; rw [t5]; exact start_tm (g := g0) hlv (fun i hi hj => (hrv i hi hj).bare (lows_get hlow i hj) fun _ _ h => h) _ _, H0, rfl⟩
      refine Calls.mono (body_ok hp hcf hm hf t2 t3 t4 hrun rfl (fun e s he => exec_base _ _ _ _ he) S0) ?_
      rintro e w' ⟨v, g3, s, r1, rfl, hle3, hs3, hq3, _, hrep3, hfin⟩
      obtain ⟨g1, hle, hs, hrep, _, hlo⟩ := fin_ok (h := []) H0 hle3 hs3 hq3 hrep3 hfin
      have hlo := hlo rfl
      have hle' : Le g w ⟨g.blk, g.tok, g1.fz⟩ w' := {
        blk := fun _ _ h => h
        tok := fun k b l c h => ⟨b, l, c, h, Nat.le_refl _, fun _ => ⟨rfl, rfl⟩⟩
        fz := hle.fz
        own := fun _ h _ => h
        fzn := fun b o h hlt => (hle.fzn b o h hlt).imp id fun h => absurd h (hno b)
        kept := fun b hlt _ => hle.kept b hlt (hno b)
        size := hle.size
        tape := hle.tape
        os := hle.os
        output := hle.output, sz := hle.sz }
      have hnf : ∀ b o, g1.fz b o → b < w.heap.size → g.fz b o := fun b o h hlt => (hle.fzn b o h hlt).resolve_right (hno b)
      refine ⟨v, ⟨g.blk, g.tok, g1.fz⟩, rfl, hle', ⟨fun id b e => ?_, fun id b n c e => ?_, H.inj, H.tinj, H.bt, hs.al⟩, hrep.bare hlo fun _ _ h => h, fun id hid => ⟨fun h => h, fun h => h, fun _ _ => rfl⟩⟩
      · obtain ⟨cs, c, T, c1, c2, c3, c4, c5⟩ := H.cells id b e
        have hlt := (Array.getElem?_eq_some_iff.1 c2).1
        exact ⟨cs, c, T, c1, (hle.kept b hlt (hno b)).trans c2, c3, fun j hj hc => ⟨(c4 j hj hc).1.mono hle', (c4 j hj hc).2⟩, fun o ho => c5 o (hnf b o ho hlt)⟩
      · obtain ⟨z, cc, T, c1, c2, c3, c4, c5⟩ := H.tok id b n c e
        have hlt := (Array.getElem?_eq_some_iff.1 c2).1
        exact ⟨z, cc, T, c1.map rfl (fun r => r.mono hle') (fun o ho => hnf b o ho hlt), (hle.kept b hlt (hno b)).trans c2, c3, c4, fun o ho => c5 o (hnf b o ho hlt)⟩
    · split at hrun
      · cases hrun
      split at hrun
      · rename_i bs hbs
        split at hrun
        · rename_i hlow
          split at hrun
          · rename_i r' hh hrun2
            split at hrun
            · rename_i hflat
              simp only [Option.some.injEq, Prod.mk.injEq] at hrun
              obtain ⟨rfl, rfl⟩ := hrun
              have H0 := H.frz (lo := 0) (by simp)
              simp only [List.take_zero] at H0
              have hno : ∀ b, ¬ (g.frz 0 h).owns b := by
                rintro b (⟨id, e⟩ | ⟨k, l, c, e⟩) <;> simp [Gh.frz] at e
              obtain ⟨m1, m2⟩ := mapO_ok (Q := SnapOk g w (g.frz 0 h)) (snap_ok H n) hbs
              have S0 : Sim (g.frz 0 h) w { tmps := cargs ++ Array.replicate (fn.ntmps - cargs.size) undef, defers := [] } (start xf bs []) :=
                ⟨by simp only [start]; rw [t5]; exact start_tm (by omega) (fun i hi hj => (m2 i (by omega) hj).1 _ (hrv i hi (by omega))) _ _, H0, rfl⟩
              refine Calls.mono (body_ok hp hcf hm hf t2 t3 t4 hrun2 rfl (fun e s he => exec_base _ _ _ _ he) S0) ?_
              rintro e w' ⟨v, g3, s, r1, rfl, hle3, hs3, hq3, _, hrep3, hfin⟩
              obtain ⟨g1, hle, hs, hrep, _, hlo⟩ := fin_ok (h := []) H0 hle3 hs3 hq3 hrep3 hfin
              have hle' : Le g w g w' := {
                blk := fun _ _ h => h
                tok := fun k b l c h => ⟨b, l, c, h, Nat.le_refl _, fun _ => ⟨rfl, rfl⟩⟩
                fz := fun b o h => ⟨h, (hle.fz b o (.inl h)).2⟩
                own := fun _ h _ => h
                fzn := fun b o h hlt => .inl h
                kept := fun b hlt _ => hle.kept b hlt (hno b)
                size := hle.size
                tape := hle.tape
                os := hle.os
                output := hle.output, sz := hle.sz }
              refine ⟨v, g, rfl, hle', ⟨fun id b e => ?_, fun id b n c e => ?_, H.inj, H.tinj, H.bt, fun b o h => Nat.lt_of_lt_of_le (H.al b o h) hle.size⟩, flat_rep _ hflat _ hrep, fun id hid => ⟨fun h => h, fun h => h, fun _ _ => rfl⟩⟩
              · obtain ⟨cs, c, T, c1, c2, c3, c4, c5⟩ := H.cells id b e
                have hlt := (Array.getElem?_eq_some_iff.1 c2).1
                exact ⟨cs, c, T, c1, (hle.kept b hlt (hno b)).trans c2, c3, fun j hj hc => ⟨(c4 j hj hc).1.mono hle', (c4 j hj hc).2⟩, c5⟩
              · obtain ⟨z, cc, T, c1, c2, c3, c4, c5⟩ := H.tok id b n c e
                have hlt := (Array.getElem?_eq_some_iff.1 c2).1
                exact ⟨z, cc, T, c1.go hle' rfl (fun _ h => h), (hle.kept b hlt (hno b)).trans c2, c3, c4, c5⟩
            · cases hrun
          · cases hrun
        · cases hrun
      · cases hrun
  · have S : Sim g w { tmps := cargs ++ Array.replicate (fn.ntmps - cargs.size) undef, defers := [] } (start xf (args.map V.vw2) h) := ⟨by simp only [start]; rw [t5]; exact start_tm hlv hrv _ _, H, rfl⟩
    refine Calls.mono (body_ok hp hcf hm hf t2 t3 t4 hrun rfl (fun e s he => exec_base _ _ _ _ he) S) ?_
    rintro e w' ⟨v, g3, s, r1, rfl, hle3, hs3, hq3, _, hrep3, hfin⟩
    obtain ⟨g2, k1, k2, k3, k4, _⟩ := fin_ok H hle3 hs3 hq3 hrep3 hfin
    exact ⟨v, g2, rfl, k1, k2, k3, k4⟩

theorem run_esc {cf : CallF} {n : Nat} {xf : XF} (hpu : xf.pure = true ∧ xf.esc = true) {args : List V} {h : List O} {r : V} {h' : List O} (hrun : runF cf n xf args h = some (r, h')) : ∃ e, h' = h ++ e := by
  unfold runF at hrun
  simp only [hpu.1, hpu.2, if_true] at hrun
  split at hrun
  · simp only [Option.map_eq_some_iff, Prod.mk.injEq] at hrun
    obtain ⟨_, _, _, rfl⟩ := hrun
    exact ⟨_, rfl⟩
  · cases hrun

theorem run_pure {cf : CallF} {n : Nat} {xf : XF} (hpu : xf.pure = true ∧ xf.esc = false) {args : List V} {h : List O} {r : V} {h' : List O} (hrun : runF cf n xf args h = some (r, h')) : h' = h ∧ ∀ h2, CellsLe h h2 → runF cf n xf args h2 = some (r, h2) := by
  unfold runF at hrun ⊢
  simp only [hpu.1, hpu.2, if_true, Bool.false_eq_true, if_false] at hrun ⊢
  split at hrun
  · rename_i hlow
    simp only [Option.map_eq_some_iff, Prod.mk.injEq] at hrun
    obtain ⟨q, hq, rfl, rfl⟩ := hrun
    exact ⟨rfl, fun h2 hh => by simp [hlow, hq]⟩
  · rename_i hlow
    split at hrun
    · rename_i bs hbs
      split at hrun
      · rename_i hlow2
        split at hrun
        · rename_i r' hh hrun2
          split at hrun
          · rename_i hflat
            simp only [Option.some.injEq, Prod.mk.injEq] at hrun
            obtain ⟨rfl, rfl⟩ := hrun
            refine ⟨rfl, fun h2 hh2 => ?_⟩
            simp [hlow, mapO_le (snap_le hh2 n) _ _ hbs, hlow2, hrun2, hflat]
          · cases hrun
        · cases hrun
      · cases hrun
    · cases hrun

theorem call_ok {pf : Nat → Nat} {X : Nat → Option XF} {E : Ext} (hE : ExtOk P pf E) (hX : Laid P pf X) (hpu : Pures pf X E) (hm : P.follows .mixedOrders = true) : ∀ n, CallOk P (call X E n) ∧ PureCf pf (call X E n) := by
  intro n
  induction n with
  | zero => exact ⟨fun f args h r h' e => by simp [call] at e, fun f args h r h' e => by simp [call] at e⟩
  | succ n ih =>
    constructor
    · intro f args h r h' e
      simp only [call] at e
      split at e
      · rename_i ex hex
        exact (hE f ex hex n _ ih.1 ih.2).1 _ _ _ _ e
      · split at e
        · cases e
        · rename_i xf hxf
          obtain ⟨fn, hfn, htr⟩ := hX f xf hxf
          exact run_ok ih.2 ih.1 hm hfn htr e
    · intro f args h r h' e
      simp only [call] at e ⊢
      cases hex : E f with
      | some ex =>
        rw [hex] at e
        exact (hE f ex hex n _ ih.1 ih.2).2 args h r h' e
      | none =>
        rw [hex] at e
        cases hxf : X f with
        | none => rw [hxf] at e; cases e
        | some xf =>
          rw [hxf] at e
          exact ⟨fun hf => run_pure ((hpu f hex xf hxf).1 hf) e, fun hf => (by obtain ⟨e2, rfl⟩ := run_esc ((hpu f hex xf hxf).2 hf) e; exact CellsLe.app _ _)⟩
end
end Go.Proofs.Ytbkgpdkimcnpgaa.Ab
