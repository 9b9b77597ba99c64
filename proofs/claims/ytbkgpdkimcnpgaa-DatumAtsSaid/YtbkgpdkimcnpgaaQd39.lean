/- Reading arguments: paths, and the struct of two. -/
import Derived.Test.YtbkgpdkimcnpgaaQd25
import Derived.Test.YtbkgpdkimcnpgaaQd30
namespace Go.Proofs.Ytbkgpdkimcnpgaa.Ab
open Go Go.ChangeMaps Go.ChangeShapes Go.WideShapes Go.ChangeAt Go.RowKit
set_option linter.unusedVariables false
set_option linter.unusedSimpArgs false

section
variable {W : World} {g : Gh} {H : Type} {enc : TypeId × Value → H} {sp : Nat → Bool} {held : Bool}

/-- A path in memory. -/
theorem open_pcell (hfz : ∀ b o, b < W.heap.size → g.fz b o) {fuel : Nat} {v : Value} {x : DataW H × List MemPlace} (h : DataW.trod enc Try.prog W 0 sp held fuel 36 [v] = some x) : ∃ p : List Int, Rep g W v (pv p) ∧ v.oneCell' = true := by
  rcases DataW.trod_slice Try.underlying36 h with ⟨e3, _⟩ | ⟨a, len, cap, elems, rest, n', e4, e3, _, _, hlc, _, hel, hget, _⟩
  · simp only [List.cons.injEq, and_true] at e3
    subst e3
    exact ⟨[], .sl none 0 0 [] .any 1 (fun _ => undef) rfl (Nat.le_refl _) (by simp) (fun h => absurd rfl h) (fun j hj => by simp [flats] at hj) trivial, rfl⟩
  · simp only [List.cons.injEq, and_true] at e3
    subst e3 e4
    rw [cells3] at hget
    have hex : ∀ i, i < len → ∃ d : Int, ∃ cs, W.cells? 0 (a.add (i * 1)) 1 = some cs ∧ CellsOk g W cs [I64 d] := by
      intro i hi
      have := hget i hi
      rw [List.getElem?_eq_getElem (by omega)] at this
      simp only [Option.bind_eq_some_iff] at this
      obtain ⟨cs, hc, ht⟩ := this
      obtain ⟨d, hd, _⟩ := DataW.trod_int Try.underlying3 ht
      subst hd
      refine ⟨d, _, hc, rfl, fun r h1 h2 => ?_⟩
      simp only [List.length_cons, List.length_nil] at h1
      obtain rfl : r = 0 := by omega
      exact ⟨.c _, rfl⟩
    have hl : ∀ m, m ≤ len → ∃ l : List Int, l.length = m ∧ ∀ i (hi : i < l.length), ∃ cs, W.cells? 0 (a.add (i * 1)) 1 = some cs ∧ CellsOk g W cs [I64 l[i]] := by
      intro m
      induction m with
      | zero => exact fun _ => ⟨[], rfl, fun i hi => by simp at hi⟩
      | succ m ihm =>
        intro hm
        obtain ⟨l, h1, h2⟩ := ihm (by omega)
        obtain ⟨d, hd⟩ := hex m (by omega)
        refine ⟨l ++ [d], by simp [h1], fun i hi => ?_⟩
        rcases Nat.lt_or_ge i l.length with h3 | h3
        · rw [List.getElem_append_left h3]; exact h2 i h3
        · have hi' : i = l.length := by simp at hi; omega
          subst hi'
          rw [List.getElem_append_right (Nat.le_refl _)]
          simp only [Nat.sub_self, List.getElem_cons_zero]
          rw [h1]; exact hd
    obtain ⟨l, h1, h2⟩ := hl len (Nat.le_refl _)
    refine ⟨l, rep_slice (z := 1) hfz (fun u hu => ?_) (by omega) (by rw [List.length_map, h1]) hlc (fun i hi => ?_), rfl⟩
    · obtain ⟨d, _, rfl⟩ := List.mem_map.1 hu
      rfl
    · rw [List.getElem_map]
      exact h2 i (by simpa using hi)
theorem open_path {r : Reach} {b0 : Nat} {v : Value} {dd : DataW H} {ps : List MemPlace} (hfz : ∀ b o, b < W.heap.size → g.fz b o) (hval : Value.okWide Try.prog W r b0 36 v) (hd : DataW.Trod enc Try.prog W 0 sp held 36 v dd ps) : ∃ p : List Int, Rep g W v (pv p) := by
  obtain ⟨a, len, cap, rfl⟩ := okWide_slice Try.underlying36 hval
  obtain ⟨fuel, hf⟩ := hd
  obtain ⟨p, h1, _⟩ := open_pcell hfz hf
  exact ⟨p, h1⟩

/-- A datum, two paths, two data. -/
structure Two where
  d : D
  p : List Int
  q : List Int
  x : D
  y : D
def Two.cs (c : Two) : List V := c.d.v.cells ++ (pv c.p :: pv c.q :: (c.x.v.cells ++ c.y.v.cells))
def Two.v (c : Two) : V := .agg c.cs
theorem CellsOk.app {a b : List Value} {us vs : List V} (h1 : CellsOk g W a us) (h2 : CellsOk g W b vs) : CellsOk g W (a ++ b) (us ++ vs) := by
  obtain ⟨l1, h1⟩ := h1
  obtain ⟨l2, h2⟩ := h2
  refine ⟨by simp [l1, l2], fun r j1 j2 => ?_⟩
  by_cases hr : r < a.length
  · rw [List.getElem_append_left hr, List.getElem_append_left (by omega)]
    exact h1 r hr (by omega)
  · rw [List.getElem_append_right (by omega), List.getElem_append_right (by omega)]
    simp only [l1]
    exact h2 (r - us.length) (by simp at j1; omega) (by simp at j2; omega)
theorem CellsOk.cons {a : Value} {b : List Value} {u : V} {vs : List V} (h0 : Rep g W a u ∧ a.oneCell' = true) (h2 : CellsOk g W b vs) : CellsOk g W (a :: b) (u :: vs) := by
  refine CellsOk.app (a := [a]) (us := [u]) ⟨rfl, fun r j1 j2 => ?_⟩ h2
  simp only [List.length_cons, List.length_nil] at j1
  obtain rfl : r = 0 := by omega
  exact h0
theorem cells36 : Try.prog.cellsOf 36 = 1 := by kernel_rfl
theorem cells58 : Try.prog.cellsOf 58 = 14 := by kernel_rfl
theorem open_two {r : Reach} {b0 : Nat} {v : Value} {dd : DataW H} {ps : List MemPlace} (hfz : ∀ b o, b < W.heap.size → g.fz b o) (hval : Value.okWide Try.prog W r b0 58 v) (hd : DataW.Trod enc Try.prog W 0 sp held 58 v dd ps) : ∃ c : Two, Rep g W v c.v := by
  obtain ⟨cs, rfl, hn⟩ := okWide_struct Try.underlying58 hval
  obtain ⟨fuel, h⟩ := hd
  rw [cells58] at hn
  obtain ⟨l⟩ := cs
  simp only [Value.cells] at h
  obtain ⟨xs, n, e1, e2, hlen, hxl, hf⟩ := DataW.trod_struct Try.underlying58 h
  have hl : l.length = 14 := by simpa using hn
  obtain ⟨a0, a1, a2, a3, a4, a5, a6, a7, a8, a9, a10, a11, a12, a13, rfl⟩ : ∃ a0 a1 a2 a3 a4 a5 a6 a7 a8 a9 a10 a11 a12 a13, l = [a0, a1, a2, a3, a4, a5, a6, a7, a8, a9, a10, a11, a12, a13] := by
    match l, hl with
    | [a0, a1, a2, a3, a4, a5, a6, a7, a8, a9, a10, a11, a12, a13], _ => exact ⟨_, _, _, _, _, _, _, _, _, _, _, _, _, _, rfl⟩
  have h0 : DataW.trod enc Try.prog W 0 sp held n 24 (([a0, a1, a2, a3, a4, a5, a6, a7, a8, a9, a10, a11, a12, a13].drop 0).take (Try.prog.cellsOf 24)) = xs[0]? := hf 0 _ rfl
  have h1 : DataW.trod enc Try.prog W 0 sp held n 36 (([a0, a1, a2, a3, a4, a5, a6, a7, a8, a9, a10, a11, a12, a13].drop 4).take (Try.prog.cellsOf 36)) = xs[1]? := hf 1 _ rfl
  have h2 : DataW.trod enc Try.prog W 0 sp held n 36 (([a0, a1, a2, a3, a4, a5, a6, a7, a8, a9, a10, a11, a12, a13].drop 5).take (Try.prog.cellsOf 36)) = xs[2]? := hf 2 _ rfl
  have h3 : DataW.trod enc Try.prog W 0 sp held n 24 (([a0, a1, a2, a3, a4, a5, a6, a7, a8, a9, a10, a11, a12, a13].drop 6).take (Try.prog.cellsOf 24)) = xs[3]? := hf 3 _ rfl
  have h4 : DataW.trod enc Try.prog W 0 sp held n 24 (([a0, a1, a2, a3, a4, a5, a6, a7, a8, a9, a10, a11, a12, a13].drop 10).take (Try.prog.cellsOf 24)) = xs[4]? := hf 4 _ rfl
  simp only [cells24, cells36, List.drop_zero, List.drop_succ_cons, List.take_succ_cons, List.take_zero] at h0 h1 h2 h3 h4
  have hxl : xs.length = 5 := hxl
  rw [List.getElem?_eq_getElem (by omega)] at h0 h1 h2 h3 h4
  obtain ⟨d, k0⟩ := open_cells hfz _ _ _ h0
  obtain ⟨p, k1⟩ := open_pcell hfz h1
  obtain ⟨q, k2⟩ := open_pcell hfz h2
  obtain ⟨x, k3⟩ := open_cells hfz _ _ _ h3
  obtain ⟨y, k4⟩ := open_cells hfz _ _ _ h4
  have hall : CellsOk g W [a0, a1, a2, a3, a4, a5, a6, a7, a8, a9, a10, a11, a12, a13] (Two.mk d p q x y).cs := k0.app (CellsOk.cons k1 (CellsOk.cons k2 (k3.app k4)))
  obtain ⟨hl1, hall⟩ := hall
  refine ⟨⟨d, p, q, x, y⟩, .agg _ _ (by simpa using hl1) (fun i hi => ?_) (fun i hi hj => ?_)⟩
  · have := hall i (by simpa using hi) (by rw [← hl1]; simpa using hi)
    simpa using this.2
  · have := hall i (by simpa using hi) hj
    simpa using this.1
end
end Go.Proofs.Ytbkgpdkimcnpgaa.Ab
