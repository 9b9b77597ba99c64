/- The walk over a tree, whole; as a function known by what it does. -/
import Derived.Test.YtkiliokeanmagaaDoorAb24
namespace Go.Proofs.YtkiliokeanmagaaDoor.Ab
open Go
set_option linter.unusedVariables false
set_option linter.unusedSimpArgs false

theorem runA {cf : CallF} {n : Nat} {a1 a2 a3 a4 pv fv : V} (H : List O) (base rb : Nat) :
    exec cf n eR1 ⟨[.agg [a1, a2, a3, a4], pv, fv] ++ List.replicate 28 undefV, H, base, rb⟩ =
      some (.normal, ⟨[.agg [a1, a2, a3, a4], pv, fv, .ref H.length 0, undefV, undefV, .c (.bool false)] ++ List.replicate 24 undefV, H ++ [.cells [a1, a2, a3, a4]], base, H.length⟩) := by
  simp [eR1, exec, runOps, stepO, known, wants, act, pureV, putV, ev, okc, V.cells, List.replicate]

theorem runB {cf : CallF} {n : Nat} {d a1 a2 a3 a4 pv fv : V} {f : Nat} {caps : List V} (hfv : callee fv = some (f, caps)) (hfr : f < rid) {H H2 : List O} {j base rb : Nat} (hj : H[j]? = some (.cells [a1, a2, a3, a4])) {b : Bool}
    (hy : cf f (.agg [a1, a2, a3, a4] :: pv :: caps) H = some (.c (.bool b), H2)) (hl : H.length ≤ H2.length) :
    exec cf n (.seq eR2 (.cond (.t 13) (.seq eR3 .ret) .skip)) ⟨[d, pv, fv, .ref j 0, undefV, undefV, .c (.bool false)] ++ List.replicate 24 undefV, H, base, rb⟩ =
      if b then some (.normal, ⟨[d, pv, fv, .ref j 0, undefV, undefV, .c (.bool false), undefV, undefV, fv, .agg [a1, a2, a3, a4], pv, .c (.bool true), .c (.bool false)] ++ List.replicate 17 undefV, H2, base, H.length⟩)
      else some (.ret, ⟨[d, pv, fv, .ref j 0, undefV, undefV, .c (.bool false), undefV, undefV, fv, .agg [a1, a2, a3, a4], pv, .c (.bool false), .c (.bool true)] ++ List.replicate 17 undefV, H2, base, H2.length⟩) := by
  cases b <;> simp [eR2, eR3, exec, runOps, stepO, known, wants, act, pureV, putV, ev, callV_f hfv hfr, longer_of hl, hj, rdV, hy, List.replicate]

theorem runC {cf : CallF} {n : Nat} {d x10 a1 a2 a3 pv fv : V} {us : List V} {si : SI} {H : List O} {j base rb : Nat} (hj : H[j]? = some (.cells [a1, a2, a3, .sl us si])) :
    ∃ tm, exec cf n eR4 ⟨[d, pv, fv, .ref j 0, undefV, undefV, .c (.bool false), undefV, undefV, fv, x10, pv, .c (.bool true), .c (.bool false)] ++ List.replicate 17 undefV, H, base, rb⟩ = some (.normal, ⟨tm, H, base, H.length⟩) ∧
      ∀ m ps, InL m ps pv fv us si 0 tm := by
  refine ⟨[d, pv, fv, .ref j 0, undefV, undefV, .c (.bool false), undefV, undefV, fv, x10, pv, .c (.bool true), .c (.bool false), .ref j 3, .sl us si, I64 us.length, I64 0] ++ List.replicate 13 undefV, ?_, fun m ps => ⟨rfl, rfl, rfl, rfl, rfl, rfl⟩⟩
  simp [eR4, exec, runOps, stepO, known, wants, act, pureV, putV, ev, hj, rdV, I64, List.replicate]

def noDraw : XC → Bool
  | .reg _ _ d => !d
  | .regw _ _ => false
  | .seq a b => noDraw a && noDraw b
  | .cond (.t _) a b => noDraw a && noDraw b
  | .cond (.k _) a b => false
  | .block _ c => noDraw c
  | .loop c => noDraw c
  | _ => true
theorem trC_pf {P : Program} {rw : Bool} {pf pf' : Nat → Nat} {nt : Nat} : ∀ (c : Code) (q : Nat) (x : XC), noDraw x = true → trC P rw pf nt q c = some x → trC P rw pf' nt q c = some x := by
  intro c
  induction c with
  | region id ops d =>
    intro q x hx h
    obtain ⟨id', ops', e, h1, h2⟩ : ∃ id' ops', Code.region id ops d = .region id' ops' d ∧ True ∧ True := ⟨id, ops, rfl, trivial, trivial⟩
    simp only [trC] at h ⊢
    by_cases hpn : hasPanic ops.toList = true
    · rw [if_pos hpn] at h ⊢
      exact h
    have hfl : some failX = some x → False := fun e => by
      simp only [Option.some.injEq] at e
      subst e
      simp [noDraw] at hx
    rw [if_neg hpn] at h ⊢
    split at h
    · rename_i xs pre h1
      split at h
      · simp only [Option.some.injEq] at h
        subst h
        simp only [noDraw, Bool.not_eq_true'] at hx
        subst hx
        simp [h1]
      · split at h
        · simp only [Option.some.injEq] at h
          subst h
          simp [noDraw] at hx
        · split at h
          · rename_i hd
            obtain ⟨rfl, hd⟩ := hd
            simp only [Option.some.injEq] at h
            subst h
            simp [noDraw] at hx
          · exact absurd h hfl
    · exact absurd h hfl
  | seq a b iha ihb =>
    intro q x hx h
    simp only [trC] at h ⊢
    split at h
    · rename_i x1 x2 h1 h2
      simp only [Option.some.injEq] at h
      subst h
      simp only [noDraw, Bool.and_eq_true] at hx
      rw [iha _ _ hx.1 h1, ihb _ _ hx.2 h2]
    · cases h
  | cond cc a b iha ihb =>
    intro q x hx h
    simp only [trC] at h ⊢
    split at h
    · rename_i x0 x1 x2 h0 h1 h2
      simp only [Option.some.injEq] at h
      subst h
      cases x0 with
      | k v => simp [noDraw] at hx
      | t i =>
      simp only [noDraw, Bool.and_eq_true] at hx
      simp only [h0, iha _ _ hx.1 h1, ihb _ _ hx.2 h2]
    · cases h
  | block id c ih =>
    intro q x hx h
    simp only [trC, Option.map_eq_some_iff] at h ⊢
    obtain ⟨y, h1, rfl⟩ := h
    exact ⟨y, ih _ _ hx h1, rfl⟩
  | loop c ih =>
    intro q x hx h
    simp only [trC, Option.map_eq_some_iff] at h ⊢
    obtain ⟨y, h1, rfl⟩ := h
    exact ⟨y, ih _ _ hx h1, rfl⟩
  | _ => intro q x hx h; exact h

theorem each_at {P : Program} {rw : Bool} {pf : Nat → Nat} {cf : CallF} (hcf : CallOk P cf) (hm : P.follows .mixedOrders = true) {F : Nat} {fn : Func} {c : Code} (hF : pf F = 0) (hFr : F + 1 < rid) (hf : P.funcs[F]? = some fn) (hnm : (fn.name == "runtime.NumGoroutine") = false) (hb : fn.body = some c)
    {nt q : Nat} (hc : trC P rw pf nt q c = some (eachX F)) (hrs : trR P fn.results.toList = some [.t 6]) (hn : fn.ntmps = 31) : ∀ k f caps, EachAt P F cf f caps k := by
  have hW : Walked P F := ⟨fn, hf, hnm, by rw [hb]; rfl⟩
  intro k
  induction k with
  | zero => intro f caps d ps h b h' e; simp [eachV] at e
  | succ k ih =>
    intro f caps d ps h b h' e g w xd xp xf fv pv hfv H hd hpv hp hfr
    obtain ⟨c1, cr1, rfl, h1c, hc⟩ := trC_seq hc
    obtain ⟨c2, cr2, rfl, h2c, hc⟩ := trC_seq hc
    obtain ⟨c34, c5, rfl, h34, h5c⟩ := trC_seq hc
    obtain ⟨c3, cbl, rfl, h3c, hbl⟩ := trC_seq h34
    obtain ⟨clp, rfl, hlp⟩ := trC_block hbl
    obtain ⟨cL, rfl, hL⟩ := trC_loop hlp
    simp only [eachV] at e
    split at e
    rotate_left
    · cases e
    rename_i a1 a2 a3 us si
    split at e
    rotate_left
    · cases e
    rename_i hcond
    obtain ⟨q1, q2, q3, q4, q5, q6, q7⟩ := hcond
    have hus : ∀ u ∈ us, u.cells.length = 4 ∧ V.low h.length u = true := by
      intro u hu
      have := List.all_eq_true.1 q1 u hu
      simpa using this
    -- the visit
    obtain ⟨b1, h1, hy, hrest⟩ : ∃ b1 h1, yieldV cf f caps (.agg [a1, a2, a3, .sl us si]) ps h = some (b1, h1) ∧ ((b1 = true ∧ eachL (eachV cf f caps k) ps 0 us h1 = some (b, h')) ∨ (b1 = false ∧ b = false ∧ h' = h1)) := by
      split at e
      · rename_i h1 hy; exact ⟨true, h1, hy, .inl ⟨rfl, e⟩⟩
      · rename_i h1 hy
        simp only [Option.some.injEq, Prod.mk.injEq] at e
        exact ⟨false, h1, hy, .inr ⟨rfl, e.1.symm, e.2.symm⟩⟩
      · cases e
    obtain ⟨y1, y2, y3⟩ := yieldV_spec hy
    have hin : inCf h.length cf f (.agg [a1, a2, a3, .sl us si] :: pv :: caps) (h ++ [pcell ps] ++ [.cells [a1, a2, a3, .sl us si]]) = some (.c (.bool b1), h1 ++ [pcell ps] ++ [.cells [a1, a2, a3, .sl us si]]) := by
      have : unbuf h.length pv = .row h.length 0 ps.length none := by
        rcases hpv with rfl | ⟨rfl, rfl⟩ <;> rfl
      simp only [inCf, this]
      exact frameCf_app y1 _
    have hS : Sim [] g w { tmps := #[xd, xp, xf] ++ Array.replicate (fn.ntmps - 3) undef, defers := [] } ⟨[.agg [a1, a2, a3, .sl us si], pv, fv] ++ List.replicate 28 undefV, h ++ [pcell ps], 0, 0⟩ := by
      refine ⟨?_, H, rfl⟩
      have h3 : ∀ i (hi : i < #[xd, xp, xf].size) (hj : i < [V.agg [a1, a2, a3, .sl us si], pv, fv].length), Rep g w #[xd, xp, xf][i] [V.agg [a1, a2, a3, .sl us si], pv, fv][i] := by
        intro i hi hj
        match i, hi with
        | 0, _ => exact hd
        | 1, _ => exact hp
        | 2, _ => exact hfr
      have := start_tm (g := g) (w := w) H.ag.gl (cargs := #[xd, xp, xf]) rfl h3 fn.ntmps []
      rw [hn] at this ⊢
      exact this
    -- the end, however it is come to
    have fin : ∀ a' w' st', AtL g w (h ++ [pcell ps]) h.length ps h' a' w' st' → h'.length = h.length → h'.all (O.low h.length) = true → st'.tm[6]? = some (.c (.bool b)) →
        a'.defers = [] ∧ ∃ v, (results fn a'.tmps).run P w' = .ok v w' ∧ (∃ g', Ending.returned v = .returned (.bool b) ∧ Le g w g' w' ∧ HOk g' w' (h' ++ [pcell ps]) ∧ Quiet (Frb h.length (h ++ [pcell ps])) g (h ++ [pcell ps]) g' (h' ++ [pcell ps])) := by
      rintro a' w' st' ⟨g', k1, k2, k3, ⟨e', he'⟩, k5⟩ hl hlow h6
      obtain ⟨x, r1, r2⟩ := results_ok k2 hrs (vs := [.c (.bool b)]) (by simp [resAll, resV, h6])
      have hx : x = .bool b := r2.of_c
      subst hx
      refine ⟨k2.df, _, r1, g'.res (h.length + 1), rfl, ?_, ?_, fun id hid => ?_⟩
      · exact k1.res (fun id b e => by have := (H.blk_lt e).1; simpa using this) (fun id p e => by obtain ⟨b, n, c⟩ := p; have := (H.tok_lt e).1; simpa using this)
      · have hH : HOk g' w' ((h' ++ [pcell ps]) ++ e') := by
          have := k2.hk
          rw [he'] at this
          simpa using this
        have := hH.cut (by
          rw [List.all_append]
          simp only [List.length_append, List.length_cons, List.length_nil, hl, Bool.and_eq_true]
          refine ⟨olow_mono (Nat.le_succ _) hlow, ?_⟩
          simp only [List.all_cons, List.all_nil, Bool.and_true, pcell, O.low]
          exact lows_of fun v hv => by
            obtain ⟨i, _, rfl⟩ := List.mem_map.1 hv
            rfl)
        simpa [hl] using this
      · have hid' : id < h.length := Nat.lt_of_not_le fun h => hid (.inl h)
        obtain ⟨z1, z2, z3⟩ := k3 id hid
        have hid2 : id < h.length + 1 := by omega
        refine ⟨fun e => by simp only [Gh.res, hid2, if_true]; exact z1 e, fun e => by simp only [Gh.res, hid2, if_true]; exact z2 e, fun e e2 => ?_⟩
        have := z3 e e2
        rw [he', List.getElem?_append_left (by omega)] at this
        rw [List.getElem?_append_left (by omega)]
        exact this
    have hbase : h.length ≤ (h ++ [pcell ps]).length := by simp
    refine calls_of_wp hf hb ?_
    refine wp_seq (exec_ok0 (cfN_pure pf) cfN_ok hm (base := h.length) 0 c1 _ _ h1c (noRF_ranges _ _ _ rfl h1c) rfl g w _ _ _ _ (runA _ _ _) hS hbase _ fun a1' w1' g1' k1 k2 k3 k4 => ?_)
    have hj : (h ++ [pcell ps] ++ [O.cells [a1, a2, a3, .sl us si]])[(h ++ [pcell ps]).length]? = some (.cells [a1, a2, a3, .sl us si]) := by simp
    have h2c' := trC_pf (pf' := fun _ => 0) c2 _ _ (by simp [noDraw, eR2, eR3]) h2c
    have hB := runB (n := 0) (d := .agg [a1, a2, a3, .sl us si]) (base := 0) (rb := (h ++ [pcell ps]).length) hfv (frameCf_rid y1) hj hin (by simp; omega)
    cases b1 with
    | false =>
      simp only [Bool.false_eq_true, if_false] at hB
      rcases hrest with ⟨hh, _⟩ | ⟨_, rfl, rfl⟩
      · cases hh
      refine wp_seq (exec_ok0 (pure0 _) (inCf_ok hcf) hm (base := h.length) 0 c2 _ _ h2c' (noRF_ranges _ _ _ rfl h2c') rfl g1' w1' a1' _ _ _ hB k2 k4 _ fun a2' w2' g2' l1 l2 l3 l4 => ?_)
      exact fin a2' w2' _ ⟨g2', k1.trans l1, l2, k3.transL k2.hk k1 l3, ⟨[O.cells [a1, a2, a3, .sl us si]], by simp⟩, by simp⟩ y2 y3 rfl
    | true =>
      simp only [if_true] at hB
      rcases hrest with ⟨_, hev⟩ | ⟨hh, _⟩
      rotate_left
      · cases hh
      refine wp_seq (exec_ok0 (pure0 _) (inCf_ok hcf) hm (base := h.length) 0 c2 _ _ h2c' (noRF_ranges _ _ _ rfl h2c') rfl g1' w1' a1' _ _ _ hB k2 k4 _ fun a2' w2' g2' l1 l2 l3 l4 => ?_)
      have hj2 : (h1 ++ [pcell ps] ++ [O.cells [a1, a2, a3, .sl us si]])[(h ++ [pcell ps]).length]? = some (.cells [a1, a2, a3, .sl us si]) := by
        have : (h ++ [pcell ps]).length = (h1 ++ [pcell ps]).length := by simp [y2]
        rw [this]; simp
      obtain ⟨tm, hC, hI⟩ := runC (cf := cfN) (n := 0) (d := .agg [a1, a2, a3, .sl us si]) (x10 := .agg [a1, a2, a3, .sl us si]) (pv := pv) (fv := fv) (base := 0) (rb := (h ++ [pcell ps] ++ [O.cells [a1, a2, a3, .sl us si]]).length) hj2
      refine wp_seq (wp_seq (exec_ok0 (cfN_pure pf) cfN_ok hm (base := h.length) 0 c3 _ _ h3c (noRF_ranges _ _ _ rfl h3c) rfl g2' w2' a2' _ _ _ hC l2 l4 _ fun a3' w3' g3' m1 m2 m3 m4 => ?_))
      have hHe : h1 ++ [pcell ps] ++ [O.cells [a1, a2, a3, .sl us si]] = h1 ++ (pcell ps :: [O.cells [a1, a2, a3, .sl us si]]) := by simp
      rw [hHe] at m2 m3
      have hel : h'.length = h.length ∧ h'.all (O.low h.length) = true := by
        have := eachV_len (cf := cf) (f := f) (caps := caps) (k := k + 1) (d := .agg [a1, a2, a3, .sl us si]) (ps := ps) (h := h) (b := b) (h' := h') (by
          simp only [eachV]
          rw [if_pos ⟨q1, q2, q3, q4, q5, q6, q7⟩, hy]
          exact hev)
        exact this
      have hq3 : Quiet (Frb h.length (h ++ [pcell ps])) g (h ++ [pcell ps]) g3' (h1 ++ (pcell ps :: [O.cells [a1, a2, a3, .sl us si]])) := by
        have := k3.transL k2.hk k1 l3
        rw [hHe] at this
        exact this.transL (by have := l2.hk; rw [hHe] at this; exact this) (k1.trans l1) m3
      refine wp_block (each_loop (m := h.length) (ps := ps) hm hF hFr ih hW hL hpv hfv hus q2 q3 q4 (b := b) (h' := h') (g := g) (w := w) (h0 := h ++ [pcell ps]) (fun a' w' st' hb' hat => ?_) (fun a' w' st' hb' hat h6 => ?_) hev y2 y3 (k1.trans (l1.trans m1)) m2 hq3 (hI _ _))
      · subst hb'
        simp only [Exit.inBlock, if_true, Exit.then]
        obtain ⟨g4, n1, n2, n3, ⟨e', he'⟩, n5⟩ := hat
        have hD : exec cfN 0 (.seq eR11 .ret) st' = some (.ret, { st' with tm := st'.tm.set 6 (.c (.bool true)), h := st'.h, rb := st'.h.length }) := by
          simp [eR11, exec, runOps, stepO, known, wants, act, pureV, putV, ev]
        refine exec_ok0 (cfN_pure pf) cfN_ok hm (base := h.length) 0 c5 _ _ h5c (noRF_ranges _ _ _ rfl h5c) rfl g4 w' a' _ _ _ hD n2 (by rw [he']; simp; omega) _ fun a5 w5 g5 o1 o2 o3 o4 => ?_
        exact fin a5 w5 _ ⟨g5, n1.trans o1, o2, n3.transL n2.hk n1 o3, ⟨e', he'⟩, by simp [n5]⟩ hel.1 hel.2 (by simp [n5])
      · subst hb'
        exact fin a' w' st' hat hel.1 hel.2 h6

/-- The walk as a function that is known by what it does: from the root. -/
def eachE : Nat → CallF → List V → List O → Option (V × List O) := fun n cf args h => match args with
  | [d, .sl [] .nil, fv] => match callee fv with
    | some (f, caps) => (eachV cf f caps n d [] h).map fun r => (.c (.bool r.1), r.2)
    | none => none
  | _ => none

theorem each_ext {P : Program} {rw : Bool} {pf : Nat → Nat} {cf : CallF} (hcf : CallOk P cf) (hm : P.follows .mixedOrders = true) {F : Nat} {fn : Func} (hF : pf F = 0) (hFr : F + 1 < rid) (hf : P.funcs[F]? = some fn) {q : Nat} (htr : trF P pf q false false rw fn = some ⟨31, eachX F, [.t 6], false, false, rw, none⟩)
    {n : Nat} {args : List V} {h : List O} {r : V} {h' : List O} (e : eachE n cf args h = some (r, h')) : Walked P F ∧ CallAt P F args h r h' := by
  obtain ⟨t1, c, t2, t3, t4, t5, t6, t7⟩ := trF_spec htr
  refine ⟨⟨fn, hf, t1, by rw [t2]; rfl⟩, fun g w cargs H hl hr => ?_⟩
  unfold eachE at e
  split at e
  rotate_left
  · cases e
  rename_i d fv
  split at e
  rotate_left
  · cases e
  rename_i f caps hfv
  simp only [Option.map_eq_some_iff, Prod.mk.injEq] at e
  obtain ⟨⟨b, h1⟩, hev, rfl, rfl⟩ := e
  obtain ⟨xd, xp, xf, rfl⟩ : ∃ a b c, cargs = #[a, b, c] := by
    obtain ⟨l⟩ := cargs
    match l, hl with
    | [a, b, c], _ => exact ⟨a, b, c, rfl⟩
  have hd : Rep g w xd d := hr 0 (by simp) (by simp)
  have hp : Rep g w xp (.sl [] .nil) := hr 1 (by simp) (by simp)
  have hx : Rep g w xf fv := hr 2 (by simp) (by simp)
  have hel := eachV_len hev
  refine Calls.mono (each_at (rw := rw) hcf hm hF hFr hf t1 t2 t3 t4 t5.symm n f caps d [] h b h1 hev g w xd xp xf fv (.sl [] .nil) hfv (H.append _) hd (.inr ⟨rfl, rfl⟩) hp hx) ?_
  rintro e w' ⟨g', rfl, k1, k2, k3⟩
  have hcut := k2.cut (h := h1) (by rw [hel.1]; exact hel.2)
  rw [hel.1] at hcut
  refine ⟨.bool b, g'.res h.length, rfl, k1.res (fun id b e => (H.blk_lt e).1) (fun id p e => by obtain ⟨b, n, c⟩ := p; exact (H.tok_lt e).1), hcut, .c _, fun id hid => ?_⟩
  have hid' : id < h.length := Nat.lt_of_not_le fun h => hid (.inl h)
  obtain ⟨z1, z2, z3⟩ := k3 id (fun h => h.elim (fun h => by omega) fun h => hid (.inr (by rw [List.getElem?_append_left hid'] at h; exact h)))
  refine ⟨fun e => by simp only [Gh.res, hid', if_true]; exact z1 e, fun e => by simp only [Gh.res, hid', if_true]; exact z2 e, fun e e2 => ?_⟩
  have := z3 e e2
  rw [List.getElem?_append_left (by omega), List.getElem?_append_left (by omega)] at this
  exact this
end Go.Proofs.YtkiliokeanmagaaDoor.Ab
