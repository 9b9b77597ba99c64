/- Copies of slices (slices.Clone), known by what they do. -/
import Derived.Test.YtkiliokeanmagaaDoorAb15
namespace Go.Proofs.YtkiliokeanmagaaDoor.Ab
open Go
set_option linter.unusedVariables false
set_option linter.unusedSimpArgs false

/-- The code of slices.Clone. -/
def xClone (z : Option Nat) (zn bytes : Nat) (rw : Bool) : XC :=
  (.seq (.reg [⟨(some 2), (.mv (.k (.sl [] .nil))), none⟩] [] false)
    (.seq (.seq (.reg [⟨(some 3), (.mv (.t 0)), none⟩, ⟨(some 4), (.bin .eql 2 (.t 3) (.k (.sl [] .nil))), none⟩] [] false)
        (.cond (.t 4) (.seq (.reg [⟨(some 2), (.mv (.k (.sl [] .nil))), none⟩] [] false) .ret) .skip))
      (.seq (.reg [⟨(some 5), (.bslice 0 zn []), none⟩, ⟨(some 6), (.mv (.t 0)), none⟩, ⟨(some 7), (.append 1 z bytes rw (.t 5) (.t 6)), none⟩, ⟨(some 2), (.mv (.t 7)), none⟩] [(.tok 0 zn), .dead] false) .ret)))
def xCloneF (z : Option Nat) (bytes : Nat) (rw : Bool) : XF := ⟨8, xClone z (zc z) bytes rw, [(.t 2)], false, true, rw, none⟩

/-- What it does. -/
def cloneE (z : Option Nat) (bytes : Nat) (rw : Bool) : CallF → List V → List O → Option (V × List O) := fun _ args h =>
  match args with
  | [a] => match srcV h a with
    | some [] => some (.sl [] .any, h)
    | some (u :: us) => if (us.length + 1) * bytes ≤ 140737488355328 ∧ us.length + 1 ≤ 140737488355328 ∧ hz (zc z) (u :: us) = true ∧ zc z ≠ 0 then
        if rw then some (.row (h.length + 1) 0 (us.length + 1) z, h ++ [.tok 0 (zc z), .cells (flats (u :: us))])
        else some (.sl (u :: us) .any, h)
      else none
    | none => none
  | _ => none

theorem run_nil {cf : CallF} {n : Nat} {z : Option Nat} {zn bytes : Nat} {rw : Bool} (h : List O) :
    exec cf n (xClone z zn bytes rw) (start (xCloneF z bytes rw) [.sl [] .isn] h) = some (.ret, ⟨[.sl [] .isn, undefV, .sl [] .nil, .sl [] .isn, .c (.bool true), undefV, undefV, undefV], h, h.length, h.length⟩) := by
  simp [xClone, xCloneF, start, exec, runOps, stepO, wants, known, act, pureV, putV, ev, binV, nilB, List.set, List.replicate]
theorem run_empty {cf : CallF} {n : Nat} {z : Option Nat} {zn bytes : Nat} {rw : Bool} (h : List O) :
    exec cf n (xClone z zn bytes rw) (start (xCloneF z bytes rw) [.sl [] .nz] h) = some (.ret, ⟨[.sl [] .nz, undefV, .sl [] .full, .sl [] .nz, .c (.bool false), .sl [] .full, .sl [] .nz, .sl [] .full], h ++ [.tok 0 zn, .dead], h.length, h.length⟩) := by
  simp [xClone, xCloneF, start, exec, runOps, stepO, wants, known, act, pureV, putV, ev, binV, nilB, List.set, List.replicate, srcV, hz]
theorem run_some {cf : CallF} {n : Nat} {z : Option Nat} {bytes : Nat} {rw : Bool} (h : List O) {a : V} {u : V} {us : List V} (hs : srcV h a = some (u :: us)) (ha : binV .eql 2 a (.sl [] .nil) = some (.c (.bool false)))
    (hc : (us.length + 1) * bytes ≤ 140737488355328 ∧ us.length + 1 ≤ 140737488355328 ∧ hz (zc z) (u :: us) = true) :
    exec cf n (xClone z (zc z) bytes rw) (start (xCloneF z bytes rw) [a] h) =
      if rw then some (.ret, ⟨[a, undefV, .row (h.length + 1) 0 (us.length + 1) z, a, .c (.bool false), .sl [] .full, a, .row (h.length + 1) 0 (us.length + 1) z], h ++ [.tok 0 (zc z), .cells (flats (u :: us))], h.length, h.length⟩)
      else some (.ret, ⟨[a, undefV, .sl (u :: us) (.tok (h.length + 1)), a, .c (.bool false), .sl [] .full, a, .sl (u :: us) (.tok (h.length + 1))], h ++ [.tok 0 (zc z), .tok (us.length + 1) (zc z)], h.length, h.length⟩) := by
  have hs2 : srcV (h ++ [.tok 0 (zc z), .dead]) a = some (u :: us) := srcV_le (CellsLe.app _ _) hs
  cases rw <;> simp [xClone, xCloneF, start, exec, runOps, stepO, wants, known, act, pureV, putV, ev, ha, List.set, List.replicate, hs2, hc, hz] <;> (simp [hz] at hc; simp [hc.2.2])

/-- What is represented has its objects among those there are. -/
theorem Rep.isLow {g : Gh} {w : World} {n : Nat} (hb : ∀ id b, g.blk id = some b → id < n) (ht : ∀ id p, g.tok id = some p → id < n) {x : Value} {v : V} (h : Rep g w x v) : V.low n v = true := by
  have lows_at : ∀ {cs : List V}, (∀ i (hi : i < cs.length), V.low n cs[i] = true) → V.lows n cs = true := fun h => lows_of fun v hv => by
    obtain ⟨i, hi, rfl⟩ := List.getElem_of_mem hv
    exact h i hi
  induction h with
  | c x => simp [V.low]
  | agg xs cs hn h1 _ ih => simp only [V.low]; exact lows_at fun i hi => ih i (by omega) hi
  | tup xs cs hn _ ih => simp only [V.low]; exact lows_at fun i hi => ih i (by omega) hi
  | sl A m cap us i z cv hn hc hzz hA _ hi ih =>
    simp only [V.low, Bool.and_eq_true]
    refine ⟨lows_of fun u hu => ?_, ?_⟩
    · have : ∀ c ∈ u.cells, V.low n c = true := by
        intro c hc'
        have : c ∈ flats us := List.mem_flatMap.2 ⟨u, hu, hc'⟩
        obtain ⟨j, hj, rfl⟩ := List.getElem_of_mem this
        exact ih j hj
      cases u with
      | agg cs => simp only [V.low]; exact lows_of this
      | _ => exact this _ (by simp [V.cells])
    · cases i with
      | tok k =>
        obtain ⟨b, l, c, h1, _⟩ := hi
        simpa [SI.low] using ht _ _ h1
      | _ => rfl
  | ptr b o o' cs off cv ho hA _ ih => simp only [V.low]; exact lows_at fun i hi => ih i hi
  | ref id b o h => simpa [V.low] using hb _ _ h
  | clo f xs cs hn _ ih => simp only [V.low]; exact lows_at fun i hi => ih i (by omega) hi
  | row A m cap id off z hc h =>
    simp only [V.low, Bool.or_eq_true, decide_eq_true_eq, beq_iff_eq]
    by_cases hm : m = 0
    · exact .inr hm
    · obtain ⟨b, _, hb'⟩ := h hm
      exact .inl (hb _ _ hb')
  | buf A m cap id hc h =>
    obtain ⟨b, cc, T, h1, h2, h3, h4⟩ := h
    simpa [V.low] using hb _ _ h2
  | tsl A m cap k z hc hA h =>
    obtain ⟨b, l, c, h1, _⟩ := h
    simpa [V.low] using ht _ _ h1
  | tref A k m o h =>
    obtain ⟨b, l, c, h1, _⟩ := h
    simpa [V.low] using ht _ _ h1
  | top x => rfl
  | fmp b es ck ks vs hb hf hk hn _ ih => simp only [V.low]; exact lows_at fun i hi => ih i (by omega) hi
  | mref id b h => simpa [V.low] using hb _ _ h
  | yld l k y m tmps caps h1 hl hn _ ih =>
    simp only [V.low, Bool.and_eq_true, decide_eq_true_eq]
    exact ⟨hb _ _ h1, lows_at fun i hi => ih i (by omega) hi⟩

/-- What an object holds is known of objects there are. -/
theorem HOk.olow {g : Gh} {w : World} {h : List O} (H : HOk g w h) {id b : Nat} (e : g.blk id = some b) {o : O} (ho : h[id]? = some o) : O.low h.length o = true := by
  have hb : ∀ id b, g.blk id = some b → id < h.length := fun id b e => (H.blk_lt e).1
  have ht : ∀ id p, g.tok id = some p → id < h.length := fun id p e => by obtain ⟨b, n, c⟩ := p; exact (H.tok_lt e).1
  have lows_at : ∀ {cs : List V}, (∀ i (hi : i < cs.length), V.low h.length cs[i] = true) → V.lows h.length cs = true := fun h => lows_of fun v hv => by
    obtain ⟨i, hi, rfl⟩ := List.getElem_of_mem hv
    exact h i hi
  rcases H.obj _ _ e with ⟨cs0, c0, T0, d1, d2, d3, d4, d5⟩ | ⟨s, L, d1, _⟩ | ⟨ks, vs, es, ck, d1, d2, d3, d4, d5, _⟩ <;> rw [ho] at d1 <;> cases d1
  · simp only [O.low]; exact lows_at fun i hi => (d4 i hi (by omega)).1.isLow hb ht
  · rfl
  · simp only [O.low]; exact lows_at fun i hi => (d5 i (by omega) hi).isLow hb ht

/-- The call's own objects are forgotten, where the old ones are as they were. -/
theorem HOk.back {g g1 : Gh} {w w1 : World} {h ex : List O} (H : HOk g w h) (hle : Le g w g1 w1) (hs : HOk g1 w1 (h ++ ex)) (hq : Quiet (Frb h.length h) g h g1 (h ++ ex)) :
    HOk (g1.res h.length) w1 h ∧ Le g w (g1.res h.length) w1 ∧ Quiet (Frb h.length h) g h (g1.res h.length) h := by
  have hb : ∀ id b, g.blk id = some b → id < h.length := fun id b e => (H.blk_lt e).1
  have ht : ∀ id p, g.tok id = some p → id < h.length := fun id p e => by obtain ⟨b, n, c⟩ := p; exact (H.tok_lt e).1
  have hrb : ∀ id b, (g1.res h.length).blk id = some b → id < h.length ∧ g1.blk id = some b := by
    intro id b e
    simp only [Gh.res] at e
    split at e
    · exact ⟨‹_›, e⟩
    · cases e
  have hrt : ∀ id p, (g1.res h.length).tok id = some p → id < h.length ∧ g1.tok id = some p := by
    intro id b e
    simp only [Gh.res] at e
    split at e
    · exact ⟨‹_›, e⟩
    · cases e
  refine ⟨⟨fun id b e => ?_, fun id b n c e => ?_, fun id id' b e e' => hs.inj _ _ _ (hrb _ _ e).2 (hrb _ _ e').2, fun id id' b n c n' c' e e' => hs.tinj _ _ _ _ _ _ _ (hrt _ _ e).2 (hrt _ _ e').2, fun id id' b n c e e' => hs.bt _ _ _ _ _ (hrb _ _ e).2 (hrt _ _ e').2, hs.ag.eqv rfl⟩, hle.res hb ht, fun id hid => ?_⟩
  · obtain ⟨hid, e⟩ := hrb _ _ e
    have hg : ∃ b', g.blk id = some b' := by
      cases hg : g.blk id with
      | some b' => exact ⟨b', rfl⟩
      | none =>
        exfalso
        have hnf : ¬ Frb h.length h id := by
          rintro (h1 | h1)
          · omega
          · rcases hs.obj _ _ e with ⟨cs, _, _, c1, _⟩ | ⟨s, L, c1, _⟩ | ⟨ks, vs, es, ck, c1, _⟩ <;> rw [List.getElem?_append_left hid, h1] at c1 <;> cases c1
        have := (hq id hnf).1 hg
        rw [this] at e; cases e
    obtain ⟨b', hg⟩ := hg
    have hh : h[id]? = (h ++ ex)[id]? := (List.getElem?_append_left hid).symm
    rcases hs.obj _ _ e with ⟨cs, c, T, c1, c2, c3, c4, c5⟩ | q
    · have c1' := hh.trans c1
      have hlow := H.olow hg c1'
      exact .inl ⟨cs, c, T, c1', c2, c3, fun j hj hc => ⟨(c4 j hj hc).1.res (lows_get hlow j hj), (c4 j hj hc).2⟩, c5⟩
    · exact .inr (q.mapL hh rfl (fun r hv => r.res hv) (fun o ho => H.olow hg (hh.trans ho)) fun _ h => h)
  · obtain ⟨hid, e⟩ := hrt _ _ e
    obtain ⟨z, cc, T, c1, c2, c3, c4, c5⟩ := hs.tok _ _ _ _ e
    refine ⟨z, cc, T, ?_, c2, c3, c4, c5⟩
    rcases c1 with c1 | ⟨cs, c1, c6, c7, c8⟩
    · rw [List.getElem?_append_left hid] at c1
      exact .inl c1
    · rw [List.getElem?_append_left hid] at c1
      cases hg : g.tok id with
      | none =>
        have := (hq id fun h1 => h1.elim (fun h1 => by omega) fun h1 => by rw [c1] at h1; simp at h1).2.1 hg
        rw [this] at e; cases e
      | some p =>
        obtain ⟨b', n', cap'⟩ := p
        obtain ⟨z0, c0, T0, d1, d2, d3, d4, d5⟩ := H.tok _ _ _ _ hg
        rcases d1 with d1 | ⟨cs0, d1, d6, d7, d8⟩ <;> rw [c1] at d1
        · simp at d1
        · simp only [Option.some.injEq, O.tokc.injEq] at d1
          obtain ⟨rfl, rfl, rfl⟩ := d1
          refine .inr ⟨cs, c1, c6, fun j hj hc => ⟨(c7 j hj hc).1.res ((d7 j hj ?_).1.isLow hb ht), (c7 j hj hc).2⟩, c8⟩
          rw [d6] at hj
          exact Nat.lt_of_lt_of_le hj (Nat.le_trans (Nat.mul_le_mul_right _ d3) d4)
  · have hid' : id < h.length := Nat.lt_of_not_le fun h => hid (.inl h)
    obtain ⟨q1, q2, _⟩ := hq id hid
    exact ⟨fun e => by simp only [Gh.res, hid', if_true]; exact q1 e, fun e => by simp only [Gh.res, hid', if_true]; exact q2 e, fun _ _ => rfl⟩

section
variable {P : Program}
theorem Rep.any {g : Gh} {w : World} {x : Value} {us : List V} {i : SI} (h : Rep g w x (.sl us i)) : Rep g w x (.sl us .any) := h.vw1

theorem clone_at {pf : Nat → Nat} {cf : CallF} (hp : PureCf pf cf) (hcf : CallOk P cf) (hm : P.follows .mixedOrders = true) {f : Nat} {fn : Func} (hf : P.funcs[f]? = some fn) {z : Option Nat} {bytes : Nat} {rw : Bool}
    (hY : YcAll P) (htr : trF P pf (rid + 100 * f) false true rw fn = some (xCloneF z bytes rw)) {args : List V} {h : List O} {r : V} {h' : List O} (hrun : cloneE z bytes rw cf args h = some (r, h')) : Walked P f ∧ CallAt P f args h r h' := by
  obtain ⟨t1, c, t2, t3, t4, t5, t6, t7⟩ := trF_spec htr
  refine ⟨⟨fn, hf, t1, by rw [t2]; rfl⟩, fun g w cargs H hl hr => ?_⟩
  have hb : ∀ id b, g.blk id = some b → id < h.length := fun id b e => (H.blk_lt e).1
  have ht : ∀ id p, g.tok id = some p → id < h.length := fun id p e => by obtain ⟨b, n, c⟩ := p; exact (H.tok_lt e).1
  -- a run from any view of the argument
  have go : ∀ (a' : V) (st : St) (v : V), exec cf 0 (xClone z (zc z) bytes rw) (start (xCloneF z bytes rw) [a'] h) = some (.ret, st) → st.tm[2]? = some v → ∀ x, cargs = #[x] → Rep g w x a' →
      Calls P f cargs w (fun e w' => ∃ y g1, e = .returned y ∧ Le g w g1 w' ∧ HOk g1 w' st.h ∧ Quiet (Frb h.length h) g h g1 st.h ∧ Rep g1 w' y v.vw) := by
    intro a' st v hex hv x hx hrep
    subst hx
    have S : Sim [] g w { tmps := #[x] ++ Array.replicate (fn.ntmps - 1) undef, defers := [] } (start (xCloneF z bytes rw) [a'] h) := by
      refine ⟨?_, H, rfl⟩
      have h1 : ∀ i (hi : i < #[x].size) (hj : i < [a'].length), Rep g w #[x][i] [a'][i] := by
        intro i hi hj
        have h0 : i = 0 := by simpa using hi
        subst h0
        exact hrep
      have := start_tm (g := g) (w := w) H.ag.gl (cargs := #[x]) (args := [a']) rfl h1 fn.ntmps []
      simp only [start, t5]
      exact this
    have hfin : fin true 0 (xCloneF z bytes rw).res (exec cf 0 (xCloneF z bytes rw).body (start (xCloneF z bytes rw) [a'] h)) = some (v.vw, st.h) := by
      show fin true 0 [.t 2] (exec cf 0 (xClone z (zc z) bytes rw) (start (xCloneF z bytes rw) [a'] h)) = _
      rw [hex]
      simp [fin, resAll, resV, hv, resOf]
    refine Calls.mono (body_ok hp hcf hm hf t2 (hY f fn c hf t2 t7) t3 t4 hfin rfl (fun e s he => exec_base _ _ _ _ he) S) ?_
    rintro e w' ⟨y, g1, s, r0, rfl, k1, k2, k3, k4, k5, k6⟩
    rcases k6 with ⟨_, rfl, rfl⟩ | ⟨q1, q2, q3, q4⟩
    · exact ⟨y, g1, rfl, k1, k2, k3, k5⟩
    · obtain ⟨g2, m1, m2, m3, m4, _⟩ := fin_ok H k1 k2 k3 k5 (esc := true) (.inr ⟨q1, q2, q3, q4⟩)
      exact ⟨y, g2, rfl, m1, m2, m4, m3⟩
  unfold cloneE at hrun
  split at hrun
  rotate_left
  · cases hrun
  rename_i a
  obtain ⟨x, rfl⟩ : ∃ x, cargs = #[x] := by
    obtain ⟨l⟩ := cargs
    cases l with
    | nil => simp at hl
    | cons x l =>
      cases l with
      | nil => exact ⟨x, rfl⟩
      | cons y l => simp at hl
  have hx := hr 0 (by simp) (by simp)
  simp only [List.getElem_cons_zero] at hx
  have hx : Rep g w x a := hx
  split at hrun
  · -- nothing
    rename_i hs
    simp only [Option.some.injEq, Prod.mk.injEq] at hrun
    obtain ⟨rfl, rfl⟩ := hrun
    obtain ⟨A, cap, hxe⟩ : ∃ A cap, x = .slice A 0 cap := by
      obtain ⟨A, cap, _, _, e, _⟩ := src_ok H hx hs
      exact ⟨A, cap, e⟩
    have hsl : ∀ i, SIok g A 0 cap i → Rep g w x (.sl [] i) := fun i hi => by rw [hxe]; exact .sl A 0 cap [] i 0 (fun _ => undef) rfl (Nat.zero_le _) (by simp) (by simp) (by simp [flats]) hi
    cases A with
    | none =>
      refine Calls.mono (go (.sl [] .isn) _ (.sl [] .nil) (run_nil h) rfl x rfl (hsl _ rfl)) ?_
      rintro e w' ⟨y, g1, rfl, k1, k2, k3, k4⟩
      exact ⟨y, g1, rfl, k1, k2, k4, k3⟩
    | some A =>
      refine Calls.mono (go (.sl [] .nz) _ (.sl [] .full) (run_empty h) rfl x rfl (hsl _ (by simp [SIok]))) ?_
      rintro e w' ⟨y, g1, rfl, k1, k2, k3, k4⟩
      obtain ⟨m1, m2, m3⟩ := H.back k1 k2 k3
      exact ⟨y, _, rfl, m2, m1, k4.res (by simp [V.vw, V.vw2, V.vw1, V.low, V.lows, SI.low]), m3⟩
  · rename_i u us hs
    split at hrun
    rotate_left
    · cases hrun
    rename_i hcond
    obtain ⟨c1, c2, c3, c4⟩ := hcond
    -- the argument xas one that is not nil
    obtain ⟨a', hs', ha', hx'⟩ : ∃ a', srcV h a' = some (u :: us) ∧ binV .eql 2 a' (.sl [] .nil) = some (.c (.bool false)) ∧ Rep g w x a' := by
      cases a with
      | sl ws i =>
        simp only [srcV, Option.some.injEq] at hs
        subst hs
        refine ⟨.sl (u :: us) .nz, rfl, by simp [binV, nilB], ?_⟩
        cases hx with
        | sl A n cap _ _ zz cv hn hc hzz hA hrr hsi =>
          refine .sl A n cap _ _ zz cv hn hc hzz hA hrr ?_
          obtain ⟨b, o, e, _⟩ := hA (by simp)
          rw [e]; simp [SIok]
      | row id off n zz =>
        cases n with
        | zero =>
          simp only [srcV] at hs
          split at hs
          · simp [elems] at hs
          · cases hs
        | succ n => exact ⟨.row id off (n + 1) zz, hs, by simp [binV], hx⟩
      | _ => simp [srcV] at hs
    have hex := run_some (cf := cf) (n := 0) (rw := rw) h hs' ha' ⟨c1, c2, c3⟩
    cases rw with
    | true =>
      simp only [if_true] at hex hrun
      simp only [Option.some.injEq, Prod.mk.injEq] at hrun
      obtain ⟨rfl, rfl⟩ := hrun
      refine Calls.mono (go a' _ _ hex rfl x rfl hx') ?_
      rintro e w' ⟨y, g1, rfl, k1, k2, k3, k4⟩
      exact ⟨y, g1, rfl, k1, k2, k4, k3⟩
    | false =>
      simp only [Bool.false_eq_true, if_false] at hex hrun
      simp only [Option.some.injEq, Prod.mk.injEq] at hrun
      obtain ⟨rfl, rfl⟩ := hrun
      have hlow : V.lows h.length (u :: us) = true := by
        have h1 := hx'.isLow hb ht
        cases a' with
        | sl ws i =>
          simp only [srcV, Option.some.injEq] at hs'
          subst hs'
          simp only [V.low, Bool.and_eq_true] at h1
          exact h1.1
        | row id off n zz =>
          simp only [srcV] at hs'
          split at hs'
          · rename_i cs hcs
            cases hx' with
            | row A _ cap _ _ _ hc hA =>
              cases n with
              | zero => simp [elems] at hs'
              | succ n =>
                obtain ⟨b, _, hbk⟩ := hA (by omega)
                obtain ⟨cs0, cc, T, d1, d2, d3, d4, d5⟩ := H.cellsOf hbk hcs
                have : cs0 = cs := by rw [hcs] at d1; simp at d1; exact d1.symm
                subst this
                have hone : ∀ u ∈ cs0, u.cells = [u] := by
                  intro u hu
                  obtain ⟨j, hj, rfl⟩ := List.getElem_of_mem hu
                  exact rep_one (d4 j hj (by omega)).1 (d4 j hj (by omega)).2
                have hlc : ∀ u ∈ cs0, V.low h.length u = true := by
                  intro u hu
                  obtain ⟨j, hj, rfl⟩ := List.getElem_of_mem hu
                  exact (d4 j hj (by omega)).1.isLow hb ht
                obtain ⟨q1, q2, q3, q4⟩ := elems_ok (fun u hu => hone u (List.mem_of_mem_drop hu)) hs'
                refine lows_of fun v hv => ?_
                have : ∀ c ∈ v.cells, V.low h.length c = true := by
                  intro c hc'
                  have : c ∈ flats (u :: us) := List.mem_flatMap.2 ⟨v, hv, hc'⟩
                  rw [q3] at this
                  exact hlc c (List.mem_of_mem_drop (List.mem_of_mem_take this))
                cases v with
                | agg cs => simp only [V.low]; exact lows_of this
                | _ => exact this _ (by simp [V.cells])
          · cases hs'
        | _ => simp [srcV] at hs'
      refine Calls.mono (go a' _ _ hex rfl x rfl hx') ?_
      rintro e w' ⟨y, g1, rfl, k1, k2, k3, k4⟩
      obtain ⟨m1, m2, m3⟩ := H.back k1 k2 k3
      exact ⟨y, _, rfl, m2, m1, k4.res (by simp only [V.vw, V.vw2, V.vw1, V.low, hlow, SI.low, Bool.and_true]), m3⟩
  · cases hrun

/-- It looks at cells alone. -/
theorem clone_pure {cf : CallF} {z : Option Nat} {bytes : Nat} {rw : Bool} {args : List V} {h : List O} {r : V} {h' : List O} (hrun : cloneE z bytes rw cf args h = some (r, h')) :
    (rw = false → h' = h ∧ ∀ h2, CellsLe h h2 → cloneE z bytes rw cf args h2 = some (r, h2)) ∧ CellsLe h h' := by
  unfold cloneE at hrun ⊢
  split at hrun
  rotate_left
  · cases hrun
  split at hrun
  · rename_i hs
    simp only [Option.some.injEq, Prod.mk.injEq] at hrun
    obtain ⟨rfl, rfl⟩ := hrun
    exact ⟨fun _ => ⟨rfl, fun h2 hh => by simp only [srcV_le hh hs]⟩, fun _ _ _ h => h⟩
  · rename_i u us hs
    split at hrun
    · rename_i hc
      cases rw with
      | true =>
        simp only [if_true, Option.some.injEq, Prod.mk.injEq] at hrun
        exact ⟨fun h => (by cases h), by rw [← hrun.2]; exact CellsLe.app _ _⟩
      | false =>
        simp only [Bool.false_eq_true, if_false, Option.some.injEq, Prod.mk.injEq] at hrun
        obtain ⟨rfl, rfl⟩ := hrun
        exact ⟨fun _ => ⟨rfl, fun h2 hh => (by simp only [srcV_le hh hs, if_pos hc]; rfl)⟩, fun _ _ _ h => h⟩
    · cases hrun
  · cases hrun
end
end Go.Proofs.YtkiliokeanmagaaDoor.Ab
