/- SyntaxWeighs returns true for every datum, path and form, and changes none of its arguments; the package's variable lies as its row lists it. -/
import Derived.Test.YtkiliokeanmagaaDoorMB13
import Derived.ProofKit
import Derived.ChangeMaps5
import Derived.Carry
import Derived.Test.YtkiliokeanmagaaDoorRows
import Derived.LaidMore
import Derived.OpenShut
import Derived.Stop.Joined
import Derived.Test.YtkiliokeanmagaaDoorCards
import Derived.Test.YtkiliokeanmagaaDoorTie
import Derived.SevenTiedAt
namespace Go.Proofs.YtkiliokeanmagaaDoor.Ab
open Go
set_option linter.unusedVariables false
set_option linter.unusedSimpArgs false
set_option maxRecDepth 8000
set_option maxHeartbeats 4000000
theorem gvk_full {cf : CallF} {n : Nat} {K : List Fr} {Q : Ex → SF → Prop} {s : SF} {ws : List V} {al b : Nat} {zz : Option Nat} {h : List O} {d : Option Nat} {r : List XOper} (hd : h[al]? = some .dead)
    (hq : ∀ si' h', h'.length = h.length → Keeps h h' → opsk cf n r K Q ⟨updO s.e d (.sl ws si'), h', s.base, s.rb⟩) : gvk cf n (grow 0 al b zz false h [] .full ws) d r K Q s := by
  cases ws with
  | nil => rw [grow_none, gvk_some]; exact hq _ _ rfl (.rfl' h)
  | cons w ws =>
    rw [grow_full 0 al b zz h [] ws w hd, gvk_some]
    exact hq _ _ (by simp) (.set _ fun cs e => by rw [hd] at e; cases e)
theorem err_fm {d : D} (h : d.err = 0) : d.fm = true := by
  unfold D.err at h
  split at h
  · omega
  · rename_i hc
    exact ((D.ck_zero d).1 (by omega)).1
theorem short_ex (p : List Int) : ∃ (q : List Int) (M : Nat), q = p.take M ∧ q.length ≤ 500 ∧ M ≤ p.length ∧ (if (500 : Int) < p.length then (500 : Int) else p.length) = (M : Int) := by
  refine ⟨p.take (min p.length 500), min p.length 500, rfl, ?_, ?_, ?_⟩
  · simp; omega
  · omega
  · split <;> omega
theorem law6 (d : D) (p : List Int) (w : Int) : call X E 20000 6 [d.v, pv p, .c (.int .i64 w)] [] = some (.c (.bool true), []) := by
  have hs := D.cut_small d 3000 1020 (by omega)
  have c1 : ∀ h, call X E 19999 9 [d.v] h = some ((d.cut 3000 1020).1.v, h) := run14 d 19998 (by omega)
  generalize (d.cut 3000 1020).1 = a at *
  obtain ⟨q, M, hq, hq5, hM, hmin⟩ := short_ex p
  have e21 : ∀ h, call X E 19999 21 [a.v] h = some (.tup [.c (.int .i64 (if a.err = 0 then (a.wt : Int) else 0)), .c (.int .i64 a.err)], h) := go21 a (by omega) (by omega)
  have e18 : ∀ si h, call X E 19999 18 [a.v, .sl (q.map I64) si] h = some (.tup [.c (.bool (decide (a.err = 0) && a.sub q)), .c (.int .i64 a.err)], h) := fun si => go18 a q si (by omega) (by omega) (by omega)
  have e22 : ∀ h, call X E 19999 22 [a.v, .c (.int .i64 w)] h = some (.tup [.c (.bool (decide (a.err = 0) && (decide (1 ≤ w ∧ w ≤ 10) && a.has w))), .c (.int .i64 (if a.err = 0 then if 1 ≤ w ∧ w ≤ 10 then 0 else 2 else a.err))], h) := go22 a w (by omega) (by omega)
  have e11 : ∀ h, call X E 19999 11 [a.v] h = some (a.chk, h) := go11 a (by omega) (by omega)
  obtain ⟨cp, hcp⟩ := chk_err a
  rw [hcp] at e11
  have e14 : ∀ h, call X E 19999 14 [] h = some (.c (.bool true), h) := alive_g (by omega)
  have hll : ∀ h, lenF (pv p) h = some (.c (.int .i64 p.length), h) := fun h => by simp [pv, lenF]
  have hsl : ∀ h, slF (pv p) 1 (fun _ => some (M : Int)) (some 0) h = some (pv q, h) := fun h => by
    rw [pv, slF_sl, cutL_s]
    have : (p.map I64).length = p.length := List.length_map _
    rw [this, if_pos ⟨by omega, by omega, by omega, hz_I64 p⟩]
    simp [pv, hq, List.map_take]
  have hsrc : ∀ h, srcV h (pv q) = some (q.map I64) := fun h => rfl
  have hQl : (q.map I64).length = q.length := List.length_map _
  have hb1 : q.length * 8 ≤ 140737488355328 := by omega
  have hb2 : q.length ≤ 140737488355328 := by omega
  have hzq := hz_I64 q
  have hpv : (pv p).vw2 = pv p := rfl
  have hgen : ∀ (h0 : a.err = 0), ∀ h, call X E 19999 23 [a.v] h = some (.c (.int .i64 a.wt), h) := fun h0 => go23 a.sz a (err_fm h0) (Nat.le_refl _) (by omega) 19999 (by omega)
  have hgen2 : ∀ (h0 : a.err = 0), ∀ h, call X E 19999 24 [a.v, pv q] h = some (.c (.bool (a.sub q)), h) := fun h0 => go24 a.sz a q (err_fm h0) (Nat.le_refl _) (by omega) (by omega) 19999 (by omega)
  have hgen3 : ∀ (h0 : a.err = 0), ∀ h, call X E 19999 25 [a.v, .c (.int .i64 w)] h = some (.c (.bool (a.has w)), h) := fun h0 => go25 w a.sz a (err_fm h0) (Nat.le_refl _) (by omega) 19999 (by omega)
  suffices hg : Gives 20000 6 [d.v, pv p, .c (.int .i64 w)] (.c (.bool true)) from hg []
  refine gives_of (n := 19999) rfl rfl rfl (by kernel_rfl) ⟨rfl, rfl⟩ (by simp [D.vw2, hpv, vw2_c, V.lows, D.low, pv_low, V.low]) ?_
  generalize hPQ : pv q = PQ at *
  generalize hQ : q.map I64 = QL at *
  generalize hPP : pv p = PP at *
  generalize call X E 19999 = cf at *
  by_cases h0 : a.err = 0
  · have g23 := hgen h0
    have g24 := hgen2 h0
    have g25 := hgen3 h0
    clear hgen hgen2 hgen3
    rw [h0] at e21 e18 e22 e11
    simp only [if_true, decide_true, Bool.true_and] at e21 e18 e22
    simp -implicitDefEqProofs [x6_w, x6r1_w, x6r2_w, x6r3_w, x6r4_w, x6r5_w, D.vw2, hpv, D.okc, D.rd, D.cells_len, D.spl, c1, hll, hmin, hsl, e21, hsrc, hQl, hb1, hb2, hzq]
    refine gvk_full (by simp) fun si' h' hl' hk => ?_
    have hk1 : h'[1]? = some (.cells a.v.cells) := hk 1 _ (by simp)
    clear hk
    by_cases hr : 1 ≤ w ∧ w ≤ 10
    · rw [if_pos hr] at e22
      have hr1 : ¬ w < 1 := by omega
      have hr2 : ¬ w > 10 := by omega
      have hr3 : ¬ 10 < w := by omega
      simp -implicitDefEqProofs [x6_r, x6r5_w, x6r6_w, x6r7_w, x6r8_w, x6r10_w, x6r12_w, x6r14_w, hk1, D.rd, D.cells_len, e18, e22, e11, e14, g23, g24, g25, hr, hr1, hr2, hr3]
    · rw [if_neg hr] at e22
      have hd : decide (1 ≤ w ∧ w ≤ 10) = false := by simpa using hr
      rw [hd] at e22
      by_cases hr1 : w < 1
      · simp -implicitDefEqProofs [x6_r, x6r5_w, x6r6_w, x6r7_w, x6r8_w, x6r10_w, x6r12_w, x6r13_w, hk1, D.rd, D.cells_len, e18, e22, e11, e14, g23, g24, g25, hr1]
      · have hr2 : w > 10 := by omega
        have hr3 : 10 < w := by omega
        simp -implicitDefEqProofs [x6_r, x6r5_w, x6r6_w, x6r7_w, x6r8_w, x6r10_w, x6r12_w, x6r13_w, hk1, D.rd, D.cells_len, e18, e22, e11, e14, g23, g24, g25, hr1, hr2, hr3]
  · have hne : (a.err != 0) = true := by simp [h0]
    have hdf : decide (a.err = 0) = false := by simp [h0]
    rw [if_neg h0] at e21 e22
    rw [hdf] at e18 e22
    simp only [Bool.false_and] at e18 e22
    generalize a.err = er at *
    simp -implicitDefEqProofs [x6_w, x6r1_w, x6r2_w, x6r3_w, x6r4_w, x6r5_w, D.vw2, hpv, D.okc, D.rd, D.cells_len, D.spl, c1, hll, hmin, hsl, e21, hsrc, hQl, hb1, hb2, hzq]
    refine gvk_full (by simp) fun si' h' hl' hk => ?_
    have hk1 : h'[1]? = some (.cells a.v.cells) := hk 1 _ (by simp)
    clear hk
    simp -implicitDefEqProofs [x6_r, x6r5_w, x6r6_w, x6r7_w, x6r8_w, x6r9_w, hk1, D.rd, D.cells_len, e18, e22, e11, e14, hne]
end Go.Proofs.YtkiliokeanmagaaDoor.Ab

namespace Go.Proofs.YtkiliokeanmagaaDoor.Ab
open Go Go.ChangeMaps Go.ChangeShapes Go.WideShapes Go.ChangeAt Go.RowKit
set_option linter.unusedVariables false
set_option linter.unusedSimpArgs false
set_option maxRecDepth 100000
section
variable {W : World} {g : Gh}
theorem addr_at {a : Addr} {n : Nat} (h : a.spot = none) : a.add n = ⟨a.block, a.off + n, none⟩ := by
  unfold Addr.add
  split
  · rename_i h0
    subst h0
    obtain ⟨b, o, s⟩ := a
    simp only at h
    subst h
    rfl
  · rfl
theorem cell_spot {a : Addr} {v : Value} (h : W.cell? a = some v) : a.spot = none ∧ a.block < W.heap.size := by
  unfold World.cell? at h
  split at h
  · rename_i c t m hb
    split at h
    · cases h
    · rename_i hs
      refine ⟨by simpa using hs, (Array.getElem?_eq_some_iff.1 hb).1⟩
  · cases h
def CellsOk (g : Gh) (W : World) (cs : List Value) (vs : List V) : Prop := cs.length = vs.length ∧ ∀ r (h1 : r < cs.length) (h2 : r < vs.length), Rep g W cs[r] vs[r] ∧ (cs[r]).oneCell' = true
theorem rep_slice {a : Addr} {len cap z : Nat} {us : List V} (hfz : ∀ b o, b < W.heap.size → g.fz b o) (hz : ∀ u ∈ us, u.cells.length = z) (hz0 : 0 < z) (hl : us.length = len) (hlc : len ≤ cap)
    (hc : ∀ i (hi : i < us.length), ∃ cs : List Value, W.cells? 0 (a.add (i * z)) z = some cs ∧ CellsOk g W cs (us[i]).cells) : Rep g W (.slice (some a) len cap) (.sl us .any) := by
  have hget : ∀ i (hi : i < us.length), ∃ cs : List Value, CellsOk g W cs (us[i]).cells ∧ ∀ r (h : r < cs.length), W.cell? ((a.add (i * z)).add r) = some cs[r] := by
    intro i hi
    obtain ⟨cs, h1, h2⟩ := hc i hi
    refine ⟨cs, h2, fun r hr => ?_⟩
    unfold World.cells? at h1
    split at h1
    · have hzl : r < z := by rw [← hz _ (List.getElem_mem hi), ← h2.1]; exact hr
      have := mapM_some_get h1 r r (by simp [hzl])
      rw [this, List.getElem?_eq_getElem hr]
    · cases h1
  have hsp : us ≠ [] → a.spot = none ∧ a.block < W.heap.size := by
    intro hne
    have hp : 0 < us.length := List.length_pos_iff.2 hne
    obtain ⟨cs, h2, h3⟩ := hget 0 hp
    have h4 := h3 0 (by rw [h2.1, hz _ (List.getElem_mem hp)]; exact hz0)
    have := cell_spot h4
    simpa [Addr.add] using this
  have hcell : ∀ i (hi : i < us.length) r (hr : r < (us[i]).cells.length), ∃ v, W.cell? ⟨a.block, a.off + (i * z + r), none⟩ = some v ∧ Rep g W v (us[i]).cells[r] ∧ v.oneCell' = true := by
    intro i hi r hr
    obtain ⟨hs, hb⟩ := hsp (by intro e; rw [e] at hi; simp at hi)
    obtain ⟨cs, h2, h3⟩ := hget i hi
    have hr' : r < cs.length := by rw [h2.1]; exact hr
    have h4 := h3 r hr'
    have e : (a.add (i * z)).add r = ⟨a.block, a.off + (i * z + r), none⟩ := by
      rw [addr_at hs, addr_at rfl]
      simp only [Nat.add_assoc]
    rw [e] at h4
    exact ⟨_, h4, h2.2 r hr' hr⟩
  have hidx : ∀ j, j < us.length * z → ∃ i r, ∃ (hi : i < us.length) (hr : r < (us[i]).cells.length), j = i * z + r := by
    intro j hj
    refine ⟨j / z, j % z, ?_, ?_, ?_⟩
    · exact (Nat.div_lt_iff_lt_mul hz0).2 hj
    · rw [hz _ (List.getElem_mem _)]; exact Nat.mod_lt _ hz0
    · rw [Nat.mul_comm]; exact (Nat.div_add_mod j z).symm
  refine .sl (some a) len cap us .any z (fun j => (W.cell? ⟨a.block, a.off + j, none⟩).getD undef) hl.symm hlc hz (fun hne => ?_) (fun j hj => ?_) trivial
  · obtain ⟨hs, hb⟩ := hsp hne
    refine ⟨a.block, a.off, ?_, fun j hj => ?_⟩
    · obtain ⟨b, o, s⟩ := a
      simp only at hs
      subst hs
      rfl
    · obtain ⟨i, r, hi, hr, rfl⟩ := hidx j hj
      obtain ⟨v, h1, _, h3⟩ := hcell i hi r hr
      refine ⟨hfz _ _ hb, ?_⟩
      simp only [h1, Option.getD_some, h3, and_self]
  · have hj' := hj
    rw [flats_length hz] at hj'
    obtain ⟨i, r, hi, hr, rfl⟩ := hidx j hj'
    obtain ⟨v, h1, h2, _⟩ := hcell i hi r hr
    have h5 := flats_at hz i hi r hr
    rw [List.getElem?_eq_getElem hj] at h5
    simp only [Option.some.injEq] at h5
    rw [h5]
    simp only [h1, Option.getD_some]
    exact h2
variable {H : Type} {enc : TypeId × Value → H} {sp : Nat → Bool} {held : Bool}
theorem cells24 : Tryd.prog.cellsOf 24 = 4 := by kernel_rfl
theorem cells22 : Tryd.prog.cellsOf 22 = 1 := by kernel_rfl
theorem cells3 : Tryd.prog.cellsOf 3 = 1 := by kernel_rfl
theorem cells2 : Tryd.prog.cellsOf 2 = 1 := by kernel_rfl
theorem cells9 : Tryd.prog.cellsOf 9 = 1 := by kernel_rfl
theorem open_cells (hfz : ∀ b o, b < W.heap.size → g.fz b o) : ∀ (fuel : Nat) (cs : List Value) (x : DataW H × List MemPlace), DataW.trod enc Tryd.prog W 0 sp held fuel 24 cs = some x → ∃ d : D, CellsOk g W cs d.v.cells := by
  intro fuel
  induction fuel using Nat.strongRecOn with
  | _ fuel ih =>
    intro cs x h
    obtain ⟨xs, n, rfl, rfl, hlen, hxl, hf⟩ := DataW.trod_struct Tryd.underlying24 h
    rw [cells24] at hlen
    obtain ⟨a0, a1, a2, a3, rfl⟩ : ∃ a0 a1 a2 a3, cs = [a0, a1, a2, a3] := by
      match cs, hlen with
      | [a0, a1, a2, a3], _ => exact ⟨_, _, _, _, rfl⟩
    have h0 : DataW.trod enc Tryd.prog W 0 sp held n 3 (([a0, a1, a2, a3].drop 0).take (Tryd.prog.cellsOf 3)) = xs[0]? := hf 0 _ rfl
    have h1 : DataW.trod enc Tryd.prog W 0 sp held n 2 (([a0, a1, a2, a3].drop 1).take (Tryd.prog.cellsOf 2)) = xs[1]? := hf 1 _ rfl
    have h2 : DataW.trod enc Tryd.prog W 0 sp held n 9 (([a0, a1, a2, a3].drop 2).take (Tryd.prog.cellsOf 9)) = xs[2]? := hf 2 _ rfl
    have h3 : DataW.trod enc Tryd.prog W 0 sp held n 22 (([a0, a1, a2, a3].drop 3).take (Tryd.prog.cellsOf 22)) = xs[3]? := hf 3 _ rfl
    simp only [cells3, cells2, cells9, cells22, List.drop_zero, List.drop_succ_cons, List.take_succ_cons, List.take_zero] at h0 h1 h2 h3
    have hxl : xs.length = 4 := hxl
    rw [List.getElem?_eq_getElem (by omega)] at h0 h1 h2 h3
    obtain ⟨k, e0, _⟩ := DataW.trod_int Tryd.underlying3 h0
    obtain ⟨m, e1, _⟩ := DataW.trod_int Tryd.underlying2 h1
    obtain ⟨t, e2, _⟩ := DataW.trod_string Tryd.underlying9 h2
    simp only [List.cons.injEq, and_true] at e0 e1 e2
    subst e0 e1 e2
    have key : ∃ l : List D, Rep g W a3 (.sl (D.vs l) .any) ∧ a3.oneCell' = true := by
      rcases DataW.trod_slice Tryd.underlying22 h3 with ⟨e3, _⟩ | ⟨a, len, cap, elems, rest, n', e4, e3, _, _, hlc, _, hel, hget, _⟩
      · simp only [List.cons.injEq, and_true] at e3
        subst e3
        exact ⟨[], .sl none 0 0 [] .any 4 (fun _ => undef) rfl (Nat.le_refl _) (by simp) (fun h => absurd rfl h) (fun j hj => by simp [flats] at hj) trivial, rfl⟩
      · simp only [List.cons.injEq, and_true] at e3
        subst e3 e4
        rw [cells24] at hget
        have hex : ∀ i, i < len → ∃ d : D, ∃ cs, W.cells? 0 (a.add (i * 4)) 4 = some cs ∧ CellsOk g W cs d.v.cells := by
          intro i hi
          have := hget i hi
          rw [List.getElem?_eq_getElem (by omega)] at this
          simp only [Option.bind_eq_some_iff] at this
          obtain ⟨cs, hc, ht⟩ := this
          obtain ⟨d, hd⟩ := ih n' (by omega) cs _ ht
          exact ⟨d, cs, hc, hd⟩
        have hl : ∀ m, m ≤ len → ∃ l : List D, l.length = m ∧ ∀ i (hi : i < l.length), ∃ cs, W.cells? 0 (a.add (i * 4)) 4 = some cs ∧ CellsOk g W cs (l[i]).v.cells := by
          intro m
          induction m with
          | zero => exact fun _ => ⟨[], rfl, fun i hi => by simp at hi⟩
          | succ m ihm =>
            intro hm
            obtain ⟨l, h1, h2⟩ := ihm (by omega)
            obtain ⟨d, hd⟩ := hex m (by omega)
            refine ⟨l ++ [d], by simp [h1], fun i hi => ?_⟩
            rcases Nat.lt_or_ge i l.length with h3 | h3
            · rw [List.getElem_append_left h3]; exact h2 i h3
            · have hi' : i = l.length := by simp at hi; omega
              subst hi'
              rw [List.getElem_append_right (Nat.le_refl _)]
              simp only [Nat.sub_self, List.getElem_cons_zero]
              rw [h1]; exact hd
        obtain ⟨l, h1, h2⟩ := hl len (Nat.le_refl _)
        refine ⟨l, rep_slice (z := 4) hfz (fun u hu => ?_) (by omega) (by rw [D.vs_len, h1]) hlc (fun i hi => ?_), rfl⟩
        · rw [D.vs_map] at hu
          obtain ⟨d, _, rfl⟩ := List.mem_map.1 hu
          exact D.cells_len d
        · rw [D.vs_getE]
          exact h2 i _
    obtain ⟨l, hr, ho⟩ := key
    refine ⟨.mk k m t l, rfl, fun r h1 h2 => ?_⟩
    simp only [List.length_cons, List.length_nil] at h1
    match r, h1 with
    | 0, _ => exact ⟨.c _, rfl⟩
    | 1, _ => exact ⟨.c _, rfl⟩
    | 2, _ => exact ⟨.c _, rfl⟩
    | 3, _ => exact ⟨hr, ho⟩
theorem open_datum {r : Reach} {b0 : Nat} {v : Value} {dd : DataW H} {ps : List MemPlace} (hfz : ∀ b o, b < W.heap.size → g.fz b o) (hval : Value.okWide Tryd.prog W r b0 24 v) (hd : DataW.Trod enc Tryd.prog W 0 sp held 24 v dd ps) : ∃ d : D, Rep g W v d.v := by
  obtain ⟨cs, rfl, hn⟩ := okWide_struct Tryd.underlying24 hval
  obtain ⟨fuel, hf⟩ := hd
  obtain ⟨d, h1, h2⟩ := open_cells hfz fuel _ _ hf
  refine ⟨d, ?_⟩
  obtain ⟨k, n, t, l⟩ := d
  simp only [Value.cells] at h1 h2
  have h1' : cs.size = 4 := by simpa [D.v, V.cells] using h1
  refine .agg cs _ (by simp [h1']) (fun i hi => ?_) (fun i hi hj => ?_)
  · have := h2 i (by simpa using hi) (by simp [D.v, V.cells]; omega)
    simpa using this.2
  · have := h2 i (by simpa using hi) (by simpa [D.v, V.cells] using hj)
    simpa [D.v, V.cells] using this.1
theorem open_pcell (hfz : ∀ b o, b < W.heap.size → g.fz b o) {fuel : Nat} {v : Value} {x : DataW H × List MemPlace} (h : DataW.trod enc Tryd.prog W 0 sp held fuel 26 [v] = some x) : ∃ p : List Int, Rep g W v (pv p) ∧ v.oneCell' = true := by
  rcases DataW.trod_slice Tryd.underlying26 h with ⟨e3, _⟩ | ⟨a, len, cap, elems, rest, n', e4, e3, _, _, hlc, _, hel, hget, _⟩
  · simp only [List.cons.injEq, and_true] at e3
    subst e3
    exact ⟨[], .sl none 0 0 [] .any 1 (fun _ => undef) rfl (Nat.le_refl _) (by simp) (fun h => absurd rfl h) (fun j hj => by simp [flats] at hj) trivial, rfl⟩
  · simp only [List.cons.injEq, and_true] at e3
    subst e3 e4
    rw [cells3] at hget
    have hex : ∀ i, i < len → ∃ d : Int, ∃ cs, W.cells? 0 (a.add (i * 1)) 1 = some cs ∧ CellsOk g W cs [I64 d] := by
      intro i hi
      have := hget i hi
      rw [List.getElem?_eq_getElem (by omega)] at this
      simp only [Option.bind_eq_some_iff] at this
      obtain ⟨cs, hc, ht⟩ := this
      obtain ⟨d, hd, _⟩ := DataW.trod_int Tryd.underlying3 ht
      subst hd
      refine ⟨d, _, hc, rfl, fun r h1 h2 => ?_⟩
      simp only [List.length_cons, List.length_nil] at h1
      obtain rfl : r = 0 := by omega
      exact ⟨.c _, rfl⟩
    have hl : ∀ m, m ≤ len → ∃ l : List Int, l.length = m ∧ ∀ i (hi : i < l.length), ∃ cs, W.cells? 0 (a.add (i * 1)) 1 = some cs ∧ CellsOk g W cs [I64 l[i]] := by
      intro m
      induction m with
      | zero => exact fun _ => ⟨[], rfl, fun i hi => by simp at hi⟩
      | succ m ihm =>
        intro hm
        obtain ⟨l, h1, h2⟩ := ihm (by omega)
        obtain ⟨d, hd⟩ := hex m (by omega)
        refine ⟨l ++ [d], by simp [h1], fun i hi => ?_⟩
        rcases Nat.lt_or_ge i l.length with h3 | h3
        · rw [List.getElem_append_left h3]; exact h2 i h3
        · have hi' : i = l.length := by simp at hi; omega
          subst hi'
          rw [List.getElem_append_right (Nat.le_refl _)]
          simp only [Nat.sub_self, List.getElem_cons_zero]
          rw [h1]; exact hd
    obtain ⟨l, h1, h2⟩ := hl len (Nat.le_refl _)
    refine ⟨l, rep_slice (z := 1) hfz (fun u hu => ?_) (by omega) (by rw [List.length_map, h1]) hlc (fun i hi => ?_), rfl⟩
    · obtain ⟨d, _, rfl⟩ := List.mem_map.1 hu
      rfl
    · rw [List.getElem_map]
      exact h2 i (by simpa using hi)
theorem open_path {r : Reach} {b0 : Nat} {v : Value} {dd : DataW H} {ps : List MemPlace} (hfz : ∀ b o, b < W.heap.size → g.fz b o) (hval : Value.okWide Tryd.prog W r b0 26 v) (hd : DataW.Trod enc Tryd.prog W 0 sp held 26 v dd ps) : ∃ p : List Int, Rep g W v (pv p) := by
  obtain ⟨a, len, cap, rfl⟩ := okWide_slice Tryd.underlying26 hval
  obtain ⟨fuel, hf⟩ := hd
  obtain ⟨p, h1, _⟩ := open_pcell hfz hf
  exact ⟨p, h1⟩
end
end Go.Proofs.YtkiliokeanmagaaDoor.Ab

namespace Go.Proofs.YtkiliokeanmagaaDoor.Ab
open Go Go.ChangeMaps Go.ChangeShapes Go.WideShapes Go.ChangeAt Go.RowKit
set_option linter.unusedVariables false
set_option linter.unusedSimpArgs false
set_option maxRecDepth 100000
theorem open_int {W : World} {g : Gh} {H : Type} {enc : TypeId × Value → H} {sp : Nat → Bool} {held : Bool} {r : Reach} {b0 : Nat} {v : Value} {dd : DataW H} {ps : List MemPlace} (hfz : ∀ b o, b < W.heap.size → g.fz b o) (hval : Value.okWide Tryd.prog W r b0 3 v) (hd : DataW.Trod enc Tryd.prog W 0 sp held 3 v dd ps) :
    ∃ n : Int, Rep g W v (.c (.int .i64 n)) := by
  obtain ⟨n, rfl, _, _, _⟩ := Go.ChangeShapes.open_int Tryd.underlying3 hval hd
  exact ⟨n, .c _⟩
end Go.Proofs.YtkiliokeanmagaaDoor.Ab

namespace Go.Proofs.YtkiliokeanmagaaDoor
open Go Go.ChangeMaps Go.ChangeShapes Go.WideShapes Go.ChangeAt Go.RowKit
set_option linter.unusedVariables false
set_option linter.unusedSimpArgs false
theorem own : ownKnob Tryd.prog.godebug = none := by kernel_rfl
theorem laidOut : laidOutB Tryd.prog = true := by kernel_rfl
theorem gWords : Tryd.prog.globalNamed "pagoda/syntax.words" = some 0 := by kernel_rfl
theorem tWords : ∃ T k, (Tryd.prog.globals[0]?).map (·.type) = some T ∧ Tryd.prog.underlying T = some (.map 9 k) ∧ Tryd.prog.underlying k = some (.int .i64) :=
  ⟨((Tryd.prog.globals[0]?).map (·.type)).getD 0, 3, by kernel_rfl, by kernel_rfl, by kernel_rfl⟩
theorem lawW : WideMaps.KeyLaw Tryd.prog 9 := WideMaps.string_law Tryd.underlying9
def laidL : List (String × DataW Unit) := [("pagoda/syntax.words", Rows.laid_pagoda_syntax_words)]
theorem door_met (os : Os) (args : Array Value) : laidMetH Tryd.prog laidL ((World.doorLaid Tryd.prog 400 os).forCall (fun _ _ => 0) ⟨#[], args, []⟩).memory :=
  laidMetH_of_parts3 (fuel := 8) (laidMet_of_run' 8 (by kernel_rfl) (by kernel_rfl)) (by kernel_rfl) (by kernel_rfl)
def wl : List (List UInt8 × Int) := [([102, 110], 5), ([105, 102], 4), ([108, 101, 116], 6), ([113, 117, 111, 116, 101], 3), ([114, 101, 99], 7), ([115, 101, 113], 8), ([117, 112], 9)]
theorem laid_wl : Rows.laid_pagoda_syntax_words (H := Unit) = .map (wl.map fun p => (.string p.1, .lit (.int .i64 p.2))) := rfl
theorem mem_fold {H : Type} {y : Lit × DataW H} : ∀ l : List (Lit × DataW H), y ∈ l.foldr DataW.insert [] ↔ y ∈ l
  | [] => Iff.rfl
  | x :: l => by rw [List.foldr_cons, mem_insert_iff, mem_fold l, List.mem_cons]
theorem pw_inj : ∀ {l : List MapEntry}, l.Pairwise (fun a b => a.key ≠ b.key) → ∀ e ∈ l, ∀ e' ∈ l, e.key = e'.key → e = e'
  | [], _, e, h, _, _, _ => by simp at h
  | a :: l, hp, e, h, e', h', hk => by
    rw [List.pairwise_cons] at hp
    rcases List.mem_cons.1 h with h1 | h1 <;> rcases List.mem_cons.1 h' with h2 | h2
    · rw [h1, h2]
    · subst h1; exact absurd hk (hp.1 _ h2)
    · subst h2; exact absurd hk.symm (hp.1 _ h1)
    · exact pw_inj hp.2 _ h1 _ h2 hk
theorem choose_list {l : List MapEntry} : ∀ (wl : List (List UInt8 × Int)), (∀ p ∈ wl, ∃ e ∈ l, e.key = .string ⟨p.1.toArray⟩ ∧ e.val = .int .i64 p.2) →
    ∃ l' : List MapEntry, l'.map (·.key) = wl.map (fun p => .string ⟨p.1.toArray⟩) ∧ l'.map (·.val) = wl.map (fun p => .int .i64 p.2) ∧ ∀ e ∈ l', e ∈ l
  | [], _ => ⟨[], rfl, rfl, by simp⟩
  | p :: wl, h => by
    obtain ⟨e, h1, h2, h3⟩ := h p (by simp)
    obtain ⟨l', k1, k2, k3⟩ := choose_list wl fun p hp => h p (by simp [hp])
    refine ⟨e :: l', by simp [h2, k1], by simp [h3, k2], fun x hx => ?_⟩
    rcases List.mem_cons.1 hx with rfl | hx
    · exact h1
    · exact k3 x hx
theorem of_laid {W : World} (h : laidMetH Tryd.prog laidL W) : ∃ bm es ck, W.cell? ⟨0, 0, none⟩ = some (.map (some bm)) ∧ Ab.MapAt W bm es ck ∧
    es.toList.map (·.key) = wl.map (fun p => .string ⟨p.1.toArray⟩) ∧ es.toList.map (·.val) = wl.map (fun p => .int .i64 p.2) := by
  rw [MakeChecks.laidMetH_plain _ _ _ (by kernel_rfl)] at h
  obtain ⟨ps, ⟨g0, t0, cs0, f0, p0, q0, hg0, ht0, hv0, hd0, _, _⟩, _, _⟩ := h
  obtain ⟨T, k, hT, hu, hk⟩ := tWords
  obtain rfl := Option.some.inj (gWords.symm.trans hg0)
  obtain rfl := Option.some.inj (hT.symm.trans ht0)
  rw [laid_wl] at hd0
  rcases WideMaps.open_map hu hk hd0 with ⟨_, hx⟩ | ⟨bm, es, clock, hcs, hb, _, F, hx⟩
  · simp at hx
  simp only [Prod.mk.injEq, DataW.map.injEq] at hx
  obtain ⟨hx, _⟩ := hx
  have hmem : ∀ y, y ∈ (wl.map fun p => ((.string p.1, .lit (.int .i64 p.2)) : Lit × DataW Unit)) ↔ y ∈ es.toList.map (WideMaps.rg Unit Tryd.prog 9 .i64) := fun y => by
    rw [hx, mem_fold]
  have hkv : ∀ (e : MapEntry) (p : List UInt8 × Int), p ∈ wl → e ∈ es.toList → WideMaps.rg Unit Tryd.prog 9 .i64 e = (.string p.1, .lit (.int .i64 p.2)) → e.key = .string ⟨p.1.toArray⟩ ∧ e.val = .int .i64 p.2 := by
    intro e p hp he hr
    obtain ⟨y, hy⟩ := F.reads e he
    rw [WideMaps.rg_of hy] at hr
    subst hr
    have h1 := WideMaps.rd_key hy
    obtain ⟨n, h2, h3, _⟩ := WideMaps.rd_val hy
    simp only [DataW.lit.injEq, Lit.int.injEq, true_and] at h3
    have h4 : keyOf Tryd.prog 9 (.string ⟨p.1.toArray⟩) = some (.string p.1) := by
      have hsz : (ByteArray.mk p.1.toArray).size ≤ maxLen := by
        have : ∀ p ∈ wl, (ByteArray.mk p.1.toArray).size ≤ maxLen := by decide
        exact this p hp
      have := WideMaps.keyOf_string_mk (s := ⟨p.1.toArray⟩) Tryd.underlying9 hsz
      simpa using this
    exact ⟨lawW.inj h1 h4, by rw [h2, h3]⟩
  have huniq := pw_inj ((MapKept.stamped_iff es clock).1 F.stamped).2.2
  obtain ⟨l', k1, k2, k3⟩ := choose_list (l := es.toList) wl fun p hp => by
    have := (hmem (.string p.1, .lit (.int .i64 p.2))).1 (List.mem_map.2 ⟨p, hp, rfl⟩)
    obtain ⟨e, he, hr⟩ := List.mem_map.1 this
    exact ⟨e, he, hkv e p hp he hr⟩
  have hkeys : ∀ e ∈ l', ∃ s, e.key = .string s := fun e he => by
    have : e.key ∈ l'.map (·.key) := List.mem_map.2 ⟨e, he, rfl⟩
    rw [k1] at this
    obtain ⟨p, _, hp⟩ := List.mem_map.1 this
    exact ⟨_, hp.symm⟩
  have hcell : W.cell? ⟨0, 0, none⟩ = some (.map (some bm)) := by
    have := World.var?_cell hg0 hv0 0
    rw [Array.eq_one_of_toList hcs] at this
    simpa using this
  refine ⟨bm, ⟨l'⟩, clock, hcell, ⟨es, hb, fun e => ⟨fun he => ?_, fun he => k3 e he⟩, hkeys, fun e he e' he' => huniq e (k3 e he) e' (k3 e' he')⟩, k1, k2⟩
  have h1 : WideMaps.rg Unit Tryd.prog 9 .i64 e ∈ (wl.map fun p => ((.string p.1, .lit (.int .i64 p.2)) : Lit × DataW Unit)) := (hmem _).2 (List.mem_map.2 ⟨e, he, rfl⟩)
  obtain ⟨p, hp, hr⟩ := List.mem_map.1 h1
  obtain ⟨h2, _⟩ := hkv e p hp he hr.symm
  have h3 : e.key ∈ l'.map (·.key) := by rw [k1, h2]; exact List.mem_map.2 ⟨p, hp, rfl⟩
  obtain ⟨e', he', hk'⟩ := List.mem_map.1 h3
  have := huniq e he e' (k3 e' he') hk'.symm
  subst this
  exact he'
def old (W : World) : Nat → Nat → Prop := fun b _ => b < W.heap.size
theorem gl_of_laid {W : World} (h : laidMetH Tryd.prog laidL W) : Ab.GlOk ⟨fun _ => none, fun _ => none, old W⟩ W := by
  obtain ⟨bm, es, ck, hc, hm, hk, hv⟩ := of_laid h
  intro n v hn
  unfold Ab.gvs at hn
  split at hn
  rotate_left
  · cases hn
  simp only [Option.some.injEq] at hn
  subst hn
  have h0 : (0 : Nat) < W.heap.size := by
    unfold World.cell? at hc
    cases hh : W.heap[0]? with
    | none => simp [hh] at hc
    | some o => exact (Array.getElem?_eq_some_iff.1 hh).1
  have hbm : bm < W.heap.size := by
    obtain ⟨es0, h1, _⟩ := hm
    exact (Array.getElem?_eq_some_iff.1 h1).1
  have hlen : es.size = 7 := by
    have := congrArg List.length hk
    simpa [wl] using this
  have hv2 : ∀ (i : Nat) (hi : i < es.size) (hj : i < (wl.map fun p => (Ab.V.c (.int .i64 p.2))).length), Ab.Rep ⟨fun _ => none, fun _ => none, old W⟩ W (es[i]'hi).val ((wl.map fun p => (Ab.V.c (.int .i64 p.2)))[i]) := by
    intro i hi hj
    have hj' : i < wl.length := by simpa using hj
    have h1 : (es.toList.map (·.val))[i]'(by simpa using hi) = (wl.map fun p => Value.int .i64 p.2)[i]'(by simpa using hj') := by simp only [hv]
    simp only [List.getElem_map, Array.getElem_toList] at h1
    rw [List.getElem_map, h1]
    exact .c _
  refine .ptr 0 0 0 _ 0 (fun _ => .map (some bm)) rfl (fun j hj => ?_) fun j hj => ?_
  · have : j = 0 := by simp at hj; omega
    subst this
    exact ⟨h0, hc, rfl⟩
  · have : j = 0 := by simp at hj; omega
    subst this
    refine .fmp bm es ck _ _ hm hbm (by rw [hk]; rfl) (by rw [hlen]; rfl) fun i hi hj => hv2 i hi hj
theorem Ab.law_calls {f : Nat} {args : List Ab.V} {n : Nat} (hfr : f < Ab.rid) (h : Ab.call Ab.X Ab.E n f args [] = some (.c (.bool true), [])) {W : World} {cargs : Array Value} (hgl : Ab.GlOk ⟨fun _ => none, fun _ => none, old W⟩ W) (hl : cargs.size = args.length)
    (hr : ∀ i (hi : i < cargs.size) (hj : i < args.length), Ab.Rep ⟨fun _ => none, fun _ => none, old W⟩ W cargs[i] args[i]) :
    Calls Tryd.prog f cargs W (fun e W' => e = .returned (.bool true) ∧ Below W.heap.size W W') := by
  have H : Ab.HOk ⟨fun _ => none, fun _ => none, old W⟩ W [] := ⟨(fun _ _ e => by simp at e), (fun _ _ _ _ e => by simp at e), (fun _ _ _ e => by simp at e), (fun _ _ _ _ _ _ _ e => by simp at e), (fun _ _ _ _ _ e => by simp at e), ⟨fun _ _ h => h, hgl⟩⟩
  refine Calls.mono (((Ab.seat_ok n _ _ _ _ _ h).1 hfr).2 _ W cargs H hl hr) ?_
  rintro e W' ⟨v, g', rfl, hle, _, hrep, _⟩
  have hv : v = .bool true := hrep.of_c
  subst hv
  refine ⟨rfl, ⟨hle.os, hle.tape, hle.output, hle.size, fun b hb => hle.kept b hb ?_⟩⟩
  rintro (⟨id, e⟩ | ⟨k, l, c, e⟩) <;> simp at e
theorem stays {H : Type} {enc : TypeId × Value → H} {t : TypeId} (hr : Tryd.prog.readableRec t = true) (hrow : t < Tryd.prog.types.size) {W W' : World} {v : Value} {d : DataW H} {ps : List MemPlace}
    (h : DataW.Trod enc Tryd.prog W 0 (fun _ => true) true t v d ps) (hb : Below W.heap.size W W') : DataW.Trod enc Tryd.prog W' 0 (fun b => decide (b < W.heap.size)) true t v d ps := by
  refine hb.trod laidOut hr hrow h fun x hx => ?_
  obtain ⟨fuel, hf⟩ := h
  exact DataW.trod_lt fuel _ _ _ hf x hx
end Go.Proofs.YtkiliokeanmagaaDoor

namespace Go.Proofs.YtkiliokeanmagaaDoor
open Go Go.ChangeMaps Go.ChangeShapes Go.WideShapes Go.ChangeAt Go.RowKit
set_option linter.unusedVariables false
set_option linter.unusedSimpArgs false
set_option maxRecDepth 100000 in
theorem syntaxWeighs_lifted (os : Os) (started : os.Started) (H : Type) (enc : TypeId × Value → H) :
    ReturnsInHanded {} Tryd.checked os 6 .any (fun w args => (Rows.syntaxWeighsSpec.pre enc Tryd.prog Tryd.f6 [] false w args ∧ laidMetH Tryd.prog laidL w) ∧ sizedMet enc Tryd.prog Tryd.f6 (OpenSpec.ofChange Rows.syntaxWeighsSpec) false w args)
      (Rows.syntaxWeighsSpec.post enc Tryd.prog Tryd.f6 false true false false) := by
  refine returnsInHanded_of_change_and (C := Tryd.checked) (X := fun w _ => laidMetH Tryd.prog laidL w) (fun _ _ _ hh h => h.of_heap hh) own started (by kernel_rfl) Tryd.func6
    (ChangeSpec.witness_shaped (enc := enc) (C := Tryd.checked) (os := os) (X := fun w _ => laidMetH Tryd.prog laidL w) false (World.doorLaid Tryd.prog 400 os) #[.agg #[.int .i64 0, .int .i64 0, .string ⟨#[]⟩, .slice none 0 0], .slice none 0 0, .int .i64 0] 8 rfl (World.shaped_of_RefB (by kernel_rfl) (by kernel_rfl)) (by kernel_rfl) (by kernel_rfl) (by kernel_rfl) (door_met os _)) ?_
  intro W base args ds gs before hval0 hW _ _ hL _
  have hval : ∀ (j : Nat) t v, Tryd.f6.params[j]? = some t → args[j]? = some v → Value.okWide Tryd.prog W .any base t v := hval0
  have hW' := hW
  obtain ⟨p, q, hA0, hV, rfl, hfz, hnd⟩ := hW
  have hA : DataW.TrodAll enc Tryd.prog W 0 (fun _ => true) true Tryd.f6.params.toList args.toList ds p := hA0
  rw [Tryd.params6] at hA hval
  obtain ⟨v0, v1, v2, d0, d1, d2, p0, p1, p2, rfl, rfl, rfl, h0, h1, h2⟩ := trodAll_three hA
  obtain ⟨rfl, rfl⟩ := trodVars_none hV
  obtain ⟨x0, r0⟩ := Ab.open_datum (g := ⟨fun _ => none, fun _ => none, old W⟩) (fun _ _ h => h) (hval 0 24 v0 rfl rfl) h0
  obtain ⟨x1, r1⟩ := Ab.open_path (g := ⟨fun _ => none, fun _ => none, old W⟩) (fun _ _ h => h) (hval 1 26 v1 rfl rfl) h1
  obtain ⟨x2, r2⟩ := Ab.open_int (g := ⟨fun _ => none, fun _ => none, old W⟩) (fun _ _ h => h) (hval 2 3 v2 rfl rfl) h2
  simp only [List.append_nil] at hW'
  refine (Ab.law_calls (n := 20000) (by decide) (args := [x0.v, Ab.pv x1, .c (.int .i64 x2)]) (Ab.law6 x0 x1 x2) (W := W) (cargs := #[v0, v1, v2]) (gl_of_laid hL) rfl (fun i hi hj => by
    match i, hj with
    | 0, _ => exact r0
    | 1, _ => exact r1
    | 2, _ => exact r2)).mono fun e W' ⟨he, hB⟩ => ?_
  subst he
  exact ⟨_, rfl, _, _, _, [], _, [], hW', trodAll_mk1 (shut_bool Tryd.underlying4 true), trodAll_mk3 (stays (by kernel_rfl) (by decide +kernel) h0 hB) (stays (by kernel_rfl) (by decide +kernel) h1 hB) (stays (by kernel_rfl) (by decide +kernel) h2 hB), rfl, hB.frame _, fun h => by cases h⟩
theorem syntaxWeighs_row : Rows.SyntaxWeighsSaid :=
  OpenClaim.holds_of_wide 6 Tryd.f6 rfl rfl rfl rfl rfl rfl rfl ⟨rfl, rfl, rfl, rfl, rfl⟩ rfl rfl rfl rfl rfl (by kernel_rfl) Tryd.func6 (by kernel_rfl)
    (of_decide_eq_true (by kernel_rfl)) (by unfold Func.isWrapper; first | (rw [if_pos (by decide +kernel)]; kernel_rfl) | (rw [if_neg (by decide +kernel)]; exact ⟨rfl, rfl⟩))
    (fun os started H enc _ => syntaxWeighs_lifted os started H enc)
theorem syntaxWeighs_holds : Rows.SyntaxWeighsCardSaid :=
  Claim7.holds_tied_plain_at .later [] [.mapped] true (true, "8ccad16c6e417e3cd4dc0213b5b27223fa57546759a13c087f9ad22ecc3916b7") false
    syntaxWeighs_row (fun _ h => by cases h) (by kernel_rfl) (fun _ h => by cases h) syntaxWeighs_row_tie rfl ⟨rfl, rfl⟩ (by kernel_rfl) rfl
    (fun f fn hf hfn => by
      obtain rfl : f = 6 := Option.some.inj ((show Tryd.prog.funcNamed "pagoda/pagodalaw04.SyntaxWeighs" = some 6 by kernel_rfl).symm.trans hf) |>.symm
      obtain rfl : fn = Tryd.f6 := (Option.some.inj (Tryd.func6.symm.trans hfn)).symm
      exact ⟨by kernel_rfl, fun j t ht => by
        rw [Tryd.params6] at ht
        have h3 : t = 24 ∨ t = 26 ∨ t = 3 := by
          match j, ht with
          | 0, ht => exact .inl (by simpa using ht.symm)
          | 1, ht => exact .inr (.inl (by simpa using ht.symm))
          | 2, ht => exact .inr (.inr (by simpa using ht.symm))
          | j + 3, ht => simp at ht
        rcases h3 with rfl | rfl | rfl
        · exact (show Tryd.prog.wantsStandIn 24 = false by kernel_rfl)
        · exact (show Tryd.prog.wantsStandIn 26 = false by kernel_rfl)
        · exact (show Tryd.prog.wantsStandIn 3 = false by kernel_rfl)⟩)
    (by kernel_rfl)
end Go.Proofs.YtkiliokeanmagaaDoor

