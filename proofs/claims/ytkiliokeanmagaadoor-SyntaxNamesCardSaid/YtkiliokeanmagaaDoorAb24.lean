/- The walk over a tree: its loop. -/
import Derived.Test.YtkiliokeanmagaaDoorAb23
namespace Go.Proofs.YtkiliokeanmagaaDoor.Ab
open Go
set_option linter.unusedVariables false
set_option linter.unusedSimpArgs false

theorem run7 {cf : CallF} {F m k i : Nat} {ps : List Int} {pv fv : V} {f : Nat} {caps : List V} {tm : List V} (hFr : F + 1 < rid) (hl : tm.length = 31) (h1 : tm[1]? = some pv) (h2 : tm[2]? = some fv) (h7 : tm[7]? = some (I64 i)) {j : Nat} (h8 : tm[8]? = some (.ref j 0))
    (hpv : PV m ps pv) (hfv : callee fv = some (f, caps)) {H : List O} {c1 c2 c3 c4 : V} (hj : H[j]? = some (.cells [c1, c2, c3, c4])) (hm : H[m]? = some (pcell ps)) (hlow : (H.take m).all (O.low m) = true) (hu : V.low m (.agg [c1, c2, c3, c4]) = true) (hcaps : V.lows m caps = true)
    {b : Bool} {h' : List O} (he : eachV cf f caps k (.agg [c1, c2, c3, c4]) (ps ++ [(i : Int)]) (H.take m) = some (b, h')) (hh : h'.length = m) (base : Nat) :
    runOps (kidCf F m cf k ps i) (kidOps' F) ⟨tm, H ++ [O.tok 1 1, O.dead], base, H.length⟩ =
      some ⟨(((((((tm.set 22 (.agg [c1, c2, c3, c4])).set 23 pv).set 24 (I64 i)).set 25 (.sl [I64 i] .full)).set 26 .top).set 27 fv).set 28 (.c (.bool b))).set 29 (.c (.bool !b)), h' ++ (H ++ [O.tok 1 1, O.dead]).drop m, base, H.length⟩ := by
  have hml : m < H.length := (List.getElem?_eq_some_iff.1 hm).1
  have g1 : tm[1]'(by omega) = pv := (List.getElem?_eq_some_iff.1 h1).2
  have g2 : tm[2]'(by omega) = fv := (List.getElem?_eq_some_iff.1 h2).2
  have g7 : tm[7]'(by omega) = I64 i := (List.getElem?_eq_some_iff.1 h7).2
  have g8 : tm[8]'(by omega) = .ref j 0 := (List.getElem?_eq_some_iff.1 h8).2
  have hj' : (H ++ [O.tok 1 1, O.dead])[j]? = some (.cells [c1, c2, c3, c4]) := by rw [List.getElem?_append_left (List.getElem?_eq_some_iff.1 hj).1]; exact hj
  have hm' : (H ++ [O.tok 1 1, O.dead])[m]? = some (pcell ps) := by rw [List.getElem?_append_left hml]; exact hm
  have ht' : (H ++ [O.tok 1 1, O.dead]).take m = H.take m := List.take_append_of_le_length (by omega)
  have hk1 : kidCf F m cf k ps i (F + 1) [pv, .sl [I64 i] .full] (H ++ [O.tok 1 1, O.dead]) = some (.top, H ++ [O.tok 1 1, O.dead]) := by
    unfold kidCf
    rw [if_neg (by omega), if_pos rfl]
    rcases hpv with rfl | ⟨rfl, rfl⟩
    · simp only [I64]
      rw [if_pos ⟨by simp, by rw [hm']; exact samePath_self ps⟩]
    · simp only [I64]
      rw [if_pos (by simp)]
  have hk2 : kidCf F m cf k ps i F [.agg [c1, c2, c3, c4], fv] (H ++ [O.tok 1 1, O.dead]) = some (.c (.bool b), h' ++ (H ++ [O.tok 1 1, O.dead]).drop m) := by
    unfold kidCf
    rw [if_pos rfl]
    simp only [hfv]
    rw [if_pos ⟨by simp; omega, by rw [hm']; exact samePath_self ps, by rw [ht']; exact hlow, hu, hcaps⟩, ht', he]
  have hcF : F < rid := by omega
  have hlen : H.length + 2 ≤ h'.length + (H.length + 2 - m) := by omega
  simp [kidOps', runOps, stepO, known, wants, act, pureV, putV, ev, hl, g1, g2, g7, g8, hj', rdV, V.vw2, V.vw1, I64, okc, Value.oneCell', V.cells, callV_c hFr, callV_c hcF]
  simp only [I64] at hk1
  rw [hk1, longer_of (Nat.le_refl _)]
  simp [hl, g1, g2, g7, g8]
  rw [hk2, longer_of (by simpa using hlen)]
  simp [hl, g1, g2, g7, g8]

theorem run9 {cf : CallF} {n i : Nat} {tm : List V} (hl : tm.length = 31) (h17 : tm[17]? = some (I64 i)) (hi : i ≤ 1099511627776) (H : List O) (base rb : Nat) :
    exec cf n eR9 ⟨tm, H, base, rb⟩ = some (.normal, ⟨(tm.set 30 (I64 (i + 1 : Nat))).set 17 (I64 (i + 1 : Nat)), H, base, H.length⟩) := by
  have g17 : tm[17]'(by omega) = .c (.int .i64 i) := (List.getElem?_eq_some_iff.1 h17).2
  have hw : IntKind.i64.wrap ((i : Int) + 1) = (i : Int) + 1 := by
    simp only [IntKind.wrap, IntKind.signed, IntKind.bits]
    simp
    omega
  simp [eR9, exec, runOps, stepO, known, wants, act, pureV, putV, ev, hl, g17, binV, binI, hw, I64]

def cfN : CallF := fun _ _ _ => none
theorem cfN_ok {P : Program} : CallOk P cfN := fun f args h r h' e => by cases e
theorem cfN_pure (pf : Nat → Nat) : PureCf pf cfN := fun f args h r h' e => by cases e

/-- Where the walk stands: these objects, the path, and some of its own. -/
def AtL (g : Gh) (w : World) (h0 : List O) (m : Nat) (ps : List Int) (h' : List O) (a' : Act) (w' : World) (st' : St) : Prop :=
  ∃ g', Le g w g' w' ∧ Sim [] g' w' a' st' ∧ Quiet (Frb m h0) g h0 g' st'.h ∧ (∃ e, st'.h = h' ++ (pcell ps :: e)) ∧ st'.tm.length = 31

theorem cells4 {u : V} (h : u.cells.length = 4) : ∃ c1 c2 c3 c4, u = .agg [c1, c2, c3, c4] := by
  cases u with
  | agg cs =>
    simp only [V.cells] at h
    match cs, h with
    | [c1, c2, c3, c4], _ => exact ⟨c1, c2, c3, c4, rfl⟩
  | _ => simp [V.cells] at h

theorem each_loop {P : Program} {rw : Bool} {pf : Nat → Nat} {cf : CallF} (hm : P.follows .mixedOrders = true) {F k : Nat} (hF : pf F = 0) (hFr : F + 1 < rid) (IH : ∀ f caps, EachAt P F cf f caps k) (hW : Walked P F) {cL : Code} {nt q : Nat} (hL : trC P rw pf nt q cL = some (eL F))
    {m : Nat} {ps : List Int} {pv fv : V} {f : Nat} {caps us : List V} {si : SI} (hpv : PV m ps pv) (hfv : callee fv = some (f, caps)) (hus : ∀ u ∈ us, u.cells.length = 4 ∧ V.low m u = true) (hul : us.length ≤ 1099511627776) (hpl : ps.length ≤ 1099511627776) (hcaps : V.lows m caps = true)
    {b : Bool} {h0 h' : List O} {g : Gh} {w : World} {Q : Exit → Act → World → Prop} (hex : ∀ a' w' st', b = true → AtL g w h0 m ps h' a' w' st' → Q (.exit 0) a' w') (hret : ∀ a' w' st', b = false → AtL g w h0 m ps h' a' w' st' → st'.tm[6]? = some (.c (.bool false)) → Q .ret a' w')
    {h1 e : List O} {tm : List V} {g1 : Gh} {w1 : World} {a1 : Act} {base rb : Nat} (hev : eachL (eachV cf f caps k) ps 0 us h1 = some (b, h')) (hh1 : h1.length = m) (hlow : h1.all (O.low m) = true) (hle : Le g w g1 w1) (S : Sim [] g1 w1 a1 ⟨tm, h1 ++ (pcell ps :: e), base, rb⟩)
    (hq : Quiet (Frb m h0) g h0 g1 (h1 ++ (pcell ps :: e))) (I : InL m ps pv fv us si 0 tm) : (Code.loop cL).wp P Q a1 w1 := by
  obtain ⟨c5, cr5, rfl, h5, hL⟩ := trC_seq hL
  obtain ⟨cc, cr6, rfl, hcc, hL⟩ := trC_seq hL
  obtain ⟨cb, c9, rfl, hcb, h9⟩ := trC_seq hL
  obtain ⟨cbb, rfl, hcb2⟩ := trC_block hcb
  obtain ⟨c6, cr7, rfl, h6, hcb3⟩ := trC_seq hcb2
  obtain ⟨c7, cr, rfl, h7, hcr⟩ := trC_seq hcb3
  obtain ⟨rid, ops, rfl, h7o, h7d⟩ := trC_reg h7
  refine wp_loop_ghost (fun n a2 w2 => ∃ i h2 e2 tm2 g2 base2 rb2, n = us.length - i ∧ i ≤ us.length ∧ eachL (eachV cf f caps k) ps i (us.drop i) h2 = some (b, h') ∧ h2.length = m ∧ h2.all (O.low m) = true ∧ Le g w g2 w2 ∧
    Sim [] g2 w2 a2 ⟨tm2, h2 ++ (pcell ps :: e2), base2, rb2⟩ ∧ Quiet (Frb m h0) g h0 g2 (h2 ++ (pcell ps :: e2)) ∧ InL m ps pv fv us si i tm2) us.length ⟨0, h1, e, tm, g1, base, rb, rfl, Nat.zero_le _, hev, hh1, hlow, hle, S, hq, I⟩ ?_
  rintro n a2 w2 ⟨i, h2, e2, tm2, g2, base2, rb2, rfl, hi, hev2, hh2, hlow2, hle2, S2, hq2, I2⟩
  have hbase : m ≤ (h2 ++ (pcell ps :: e2)).length := by simp; omega
  refine wp_seq (exec_ok0 (cfN_pure pf) cfN_ok hm (base := m) 0 c5 _ _ h5 (noRF_ranges _ _ _ rfl h5) rfl g2 w2 a2 _ _ _ (run5 I2 _ _ _) S2 hbase _ fun a3 w3 g3 k1 k2 k3 k4 => ?_)
  have I3 := I2.set (d := 18) (by simp) (.c (.bool (decide ((i : Int) < us.length))))
  rcases Nat.lt_or_ge i us.length with hlt | hge
  · -- one more kid
    have hdrop : us.drop i = us[i] :: us.drop (i + 1) := by rw [List.drop_eq_getElem_cons hlt]
    obtain ⟨hu4, hulow⟩ := hus us[i] (List.getElem_mem hlt)
    obtain ⟨u1, u2, u3, u4, hu⟩ := cells4 hu4
    rw [hdrop] at hev2
    have hcond : exec cfN 0 (.cond (.t 18) .skip (.exit 0)) ⟨tm2.set 18 (.c (.bool (decide ((i : Int) < us.length)))), h2 ++ (pcell ps :: e2), base2, (h2 ++ (pcell ps :: e2)).length⟩ = some (.normal, ⟨tm2.set 18 (.c (.bool (decide ((i : Int) < us.length)))), h2 ++ (pcell ps :: e2), base2, (h2 ++ (pcell ps :: e2)).length⟩) := by
      have : (i : Int) < us.length := by omega
      simp [exec, ev, I2.len, this]
    refine wp_seq (exec_ok0 (cfN_pure pf) cfN_ok hm (base := m) 0 cc _ _ hcc (noRF_ranges _ _ _ rfl hcc) rfl g3 w3 a3 _ _ _ hcond k2 k4 _ fun a4 w4 g4 l1 l2 l3 l4 => ?_)
    refine wp_seq (wp_block (wp_seq (exec_ok0 (cfN_pure pf) cfN_ok hm (base := m) 0 c6 _ _ h6 (noRF_ranges _ _ _ rfl h6) rfl g4 w4 a4 _ _ _ (run6 I3 (by rw [List.getElem?_eq_getElem hlt, hu]) _ _ _) l2 l4 _ fun a5 w5 g5 m1 m2 m3 m4 => ?_)))
    -- what is known ahead of the step
    generalize htm3 : tm2.set 18 (.c (.bool (decide ((i : Int) < us.length)))) = tm3 at *
    have I6 : InL m ps pv fv us si i (((((tm3.set 19 (I64 i)).set 20 (.ptr [u1, u2, u3, u4] 0)).set 21 (.agg [u1, u2, u3, u4])).set 8 (.ref (h2 ++ (pcell ps :: e2)).length 0)).set 7 (I64 i)) :=
      ((((I3.set (by simp) _).set (by simp) _).set (by simp) _).set (by simp) _).set (by simp) _
    have t7 : (((((tm3.set 19 (I64 i)).set 20 (.ptr [u1, u2, u3, u4] 0)).set 21 (.agg [u1, u2, u3, u4])).set 8 (.ref (h2 ++ (pcell ps :: e2)).length 0)).set 7 (I64 i))[7]? = some (I64 i) := by
      rw [List.getElem?_set_self]
      simp [I3.len]
    have t8 : (((((tm3.set 19 (I64 i)).set 20 (.ptr [u1, u2, u3, u4] 0)).set 21 (.agg [u1, u2, u3, u4])).set 8 (.ref (h2 ++ (pcell ps :: e2)).length 0)).set 7 (I64 i))[8]? = some (.ref (h2 ++ (pcell ps :: e2)).length 0) := by
      rw [List.getElem?_set_ne (by decide), List.getElem?_set_self]
      simp [I3.len]
    generalize (((((tm3.set 19 (I64 i)).set 20 (.ptr [u1, u2, u3, u4] 0)).set 21 (.agg [u1, u2, u3, u4])).set 8 (.ref (h2 ++ (pcell ps :: e2)).length 0)).set 7 (I64 i)) = tm6 at *
    have hH1 : (h2 ++ (pcell ps :: e2) ++ [O.cells [u1, u2, u3, u4]])[(h2 ++ (pcell ps :: e2)).length]? = some (.cells [u1, u2, u3, u4]) := by simp
    have hH2 : (h2 ++ (pcell ps :: e2) ++ [O.cells [u1, u2, u3, u4]])[m]? = some (pcell ps) := by rw [← hh2]; simp
    have hH3 : (h2 ++ (pcell ps :: e2) ++ [O.cells [u1, u2, u3, u4]]).take m = h2 := by rw [← hh2]; simp
    have hH4 : (h2 ++ (pcell ps :: e2) ++ [O.cells [u1, u2, u3, u4]] ++ [O.tok 1 1, O.dead]).drop m = pcell ps :: (e2 ++ [O.cells [u1, u2, u3, u4]] ++ [O.tok 1 1, O.dead]) := by rw [← hh2]; simp
    simp only [eachL] at hev2
    cases hkid : eachV cf f caps k us[i] (ps ++ [(i : Int)]) h2 with
    | none => rw [hkid] at hev2; cases hev2
    | some p =>
      obtain ⟨b1, h3⟩ := p
      have hkl := eachV_len hkid
      rw [hh2] at hkl
      have hr7 := run7 (cf := cf) (F := F) (i := i) hFr I6.len I6.t1 I6.t2 t7 t8 hpv hfv hH1 hH2 (by rw [hH3]; exact hlow2) (by rw [← hu]; exact hulow) hcaps (b := b1) (h' := h3) (by rw [hH3, ← hu]; exact hkid) hkl.1 base2
      rw [hH4] at hr7
      refine wp_seq (kid_region hm hF IH hW h7o (h7d rfl) m2 (by simp; omega) (by rw [I6.len]; omega) hr7 (by omega) fun a6 w6 g6 n1 n2 n3 n4 => ?_)
      have I7 : InL m ps pv fv us si i ((((((((tm6.set 22 (.agg [u1, u2, u3, u4])).set 23 pv).set 24 (I64 i)).set 25 (.sl [I64 i] .full)).set 26 .top).set 27 fv).set 28 (.c (.bool b1))).set 29 (.c (.bool !b1))) :=
        (((((((I6.set (by simp) _).set (by simp) _).set (by simp) _).set (by simp) _).set (by simp) _).set (by simp) _).set (by simp) _).set (by simp) _
      have t29 : ((((((((tm6.set 22 (.agg [u1, u2, u3, u4])).set 23 pv).set 24 (I64 i)).set 25 (.sl [I64 i] .full)).set 26 .top).set 27 fv).set 28 (.c (.bool b1))).set 29 (.c (.bool !b1)))[29]? = some (.c (.bool !b1)) := by
        rw [List.getElem?_set_self]
        simp [I6.len]
      generalize ((((((((tm6.set 22 (.agg [u1, u2, u3, u4])).set 23 pv).set 24 (I64 i)).set 25 (.sl [I64 i] .full)).set 26 .top).set 27 fv).set 28 (.c (.bool b1))).set 29 (.c (.bool !b1))) = tm7 at *
      have hle7 : Le g w g6 w6 := hle2.trans (k1.trans (l1.trans (m1.trans n1)))
      have hq7 : Quiet (Frb m h0) g h0 g6 (h3 ++ pcell ps :: (e2 ++ [O.cells [u1, u2, u3, u4]] ++ [O.tok 1 1, O.dead])) := hq2.transL S2.hk hle2 (k3.transL k2.hk k1 (l3.transL l2.hk l1 (m3.transL m2.hk m1 n3)))
      have hl7 : m ≤ (h3 ++ pcell ps :: (e2 ++ [O.cells [u1, u2, u3, u4]] ++ [O.tok 1 1, O.dead])).length := by simp; omega
      have hev29 := ev_t t29
      rw [hkid] at hev2
      cases b1 with
      | false =>
        simp only [Option.some.injEq, Prod.mk.injEq] at hev2
        obtain ⟨rfl, rfl⟩ := hev2
        have hcr2 : exec cfN 0 (.cond (.t 29) (.seq eR3 .ret) .skip) ⟨tm7, h3 ++ pcell ps :: (e2 ++ [O.cells [u1, u2, u3, u4]] ++ [O.tok 1 1, O.dead]), base2, (h2 ++ (pcell ps :: e2) ++ [O.cells [u1, u2, u3, u4]]).length⟩ =
            some (.ret, ⟨tm7.set 6 (.c (.bool false)), h3 ++ pcell ps :: (e2 ++ [O.cells [u1, u2, u3, u4]] ++ [O.tok 1 1, O.dead]), base2, (h3 ++ pcell ps :: (e2 ++ [O.cells [u1, u2, u3, u4]] ++ [O.tok 1 1, O.dead])).length⟩) := by
          simp only [exec, hev29, Bool.not_false, if_true]
          simp [eR3, exec, runOps, stepO, known, wants, act, pureV, putV, ev]
        refine exec_ok0 (cfN_pure pf) cfN_ok hm (base := m) 0 cr _ _ hcr (noRF_ranges _ _ _ rfl hcr) rfl g6 w6 a6 _ _ _ hcr2 n2 hl7 _ fun a7 w7 g7 o1 o2 o3 o4 => ?_
        refine hret a7 w7 _ rfl ⟨g7, hle7.trans o1, o2, hq7.transL n2.hk hle7 o3, ⟨_, rfl⟩, by simp [I7.len]⟩ ?_
        simp [I7.len]
      | true =>
        simp only at hev2
        have hcr2 : exec cfN 0 (.cond (.t 29) (.seq eR3 .ret) .skip) ⟨tm7, h3 ++ pcell ps :: (e2 ++ [O.cells [u1, u2, u3, u4]] ++ [O.tok 1 1, O.dead]), base2, (h2 ++ (pcell ps :: e2) ++ [O.cells [u1, u2, u3, u4]]).length⟩ =
            some (.normal, ⟨tm7, h3 ++ pcell ps :: (e2 ++ [O.cells [u1, u2, u3, u4]] ++ [O.tok 1 1, O.dead]), base2, (h2 ++ (pcell ps :: e2) ++ [O.cells [u1, u2, u3, u4]]).length⟩) := by
          simp [exec, hev29]
        refine exec_ok0 (cfN_pure pf) cfN_ok hm (base := m) 0 cr _ _ hcr (noRF_ranges _ _ _ rfl hcr) rfl g6 w6 a6 _ _ _ hcr2 n2 hl7 _ fun a7 w7 g7 o1 o2 o3 o4 => ?_
        refine exec_ok0 (cfN_pure pf) cfN_ok hm (base := m) 0 c9 _ _ h9 (noRF_ranges _ _ _ rfl h9) rfl g7 w7 a7 _ _ _ (run9 I7.len I7.t17 (by omega) _ _ _) o2 o4 _ fun a8 w8 g8 p1 p2 p3 p4 => ?_
        refine ⟨us.length - (i + 1), by omega, i + 1, h3, _, _, g8, _, _, rfl, by omega, hev2, hkl.1, hkl.2, hle7.trans (o1.trans p1), p2, hq7.transL n2.hk hle7 (o3.transL o2.hk o1 p3), ?_⟩
        have I8 := I7.set (d := 30) (by simp) (I64 (i + 1 : Nat))
        exact ⟨by simp [I7.len], by rw [List.getElem?_set_ne (by decide)]; exact I8.t1, by rw [List.getElem?_set_ne (by decide)]; exact I8.t2, by rw [List.getElem?_set_ne (by decide)]; exact I8.t15, by rw [List.getElem?_set_ne (by decide)]; exact I8.t16, by rw [List.getElem?_set_self]; simp [I7.len]⟩
  · -- no more
    have hie : i = us.length := by omega
    subst hie
    rw [List.drop_length] at hev2
    simp only [eachL, Option.some.injEq, Prod.mk.injEq] at hev2
    obtain ⟨rfl, rfl⟩ := hev2
    have hcond : exec cfN 0 (.cond (.t 18) .skip (.exit 0)) ⟨tm2.set 18 (.c (.bool (decide ((us.length : Int) < us.length)))), h2 ++ (pcell ps :: e2), base2, (h2 ++ (pcell ps :: e2)).length⟩ = some (.exit 0, ⟨tm2.set 18 (.c (.bool (decide ((us.length : Int) < us.length)))), h2 ++ (pcell ps :: e2), base2, (h2 ++ (pcell ps :: e2)).length⟩) := by
      simp [exec, ev, I2.len]
    refine wp_seq (exec_ok0 (cfN_pure pf) cfN_ok hm (base := m) 0 cc _ _ hcc (noRF_ranges _ _ _ rfl hcc) rfl g3 w3 a3 _ _ _ hcond k2 k4 _ fun a4 w4 g4 l1 l2 l3 l4 => ?_)
    exact hex a4 w4 _ rfl ⟨g4, hle2.trans (k1.trans l1), l2, hq2.transL S2.hk hle2 (k3.transL k2.hk k1 l3), ⟨e2, rfl⟩, by simp [I2.len]⟩
end Go.Proofs.YtkiliokeanmagaaDoor.Ab
