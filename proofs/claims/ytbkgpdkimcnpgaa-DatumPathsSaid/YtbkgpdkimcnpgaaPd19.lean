/- Reading arguments: data, paths. -/
import Derived.Test.YtbkgpdkimcnpgaaPd10
import Derived.ProofKit
import Derived.ChangeMaps5
import Derived.Carry
namespace Go.Proofs.Ytbkgpdkimcnpgaa.Ab
open Go Go.ChangeMaps Go.ChangeShapes Go.WideShapes Go.ChangeAt Go.RowKit
set_option linter.unusedVariables false
set_option linter.unusedSimpArgs false

section
variable {W : World} {g : Gh}

theorem addr_at {a : Addr} {n : Nat} (h : a.spot = none) : a.add n = ⟨a.block, a.off + n, none⟩ := by
  unfold Addr.add
  split
  · rename_i h0
    subst h0
    obtain ⟨b, o, s⟩ := a
    simp only at h
    subst h
    rfl
  · rfl
theorem cell_spot {a : Addr} {v : Value} (h : W.cell? a = some v) : a.spot = none ∧ a.block < W.heap.size := by
  unfold World.cell? at h
  split at h
  · rename_i c t m hb
    split at h
    · cases h
    · rename_i hs
      refine ⟨by simpa using hs, (Array.getElem?_eq_some_iff.1 hb).1⟩
  · cases h

/-- Cells and what they are as trees. -/
def CellsOk (g : Gh) (W : World) (cs : List Value) (vs : List V) : Prop := cs.length = vs.length ∧ ∀ r (h1 : r < cs.length) (h2 : r < vs.length), Rep g W cs[r] vs[r] ∧ (cs[r]).oneCell' = true

theorem rep_slice {a : Addr} {len cap z : Nat} {us : List V} (hfz : ∀ b o, b < W.heap.size → g.fz b o) (hz : ∀ u ∈ us, u.cells.length = z) (hz0 : 0 < z) (hl : us.length = len) (hlc : len ≤ cap)
    (hc : ∀ i (hi : i < us.length), ∃ cs : List Value, W.cells? 0 (a.add (i * z)) z = some cs ∧ CellsOk g W cs (us[i]).cells) : Rep g W (.slice (some a) len cap) (.sl us .any) := by
  have hget : ∀ i (hi : i < us.length), ∃ cs : List Value, CellsOk g W cs (us[i]).cells ∧ ∀ r (h : r < cs.length), W.cell? ((a.add (i * z)).add r) = some cs[r] := by
    intro i hi
    obtain ⟨cs, h1, h2⟩ := hc i hi
    refine ⟨cs, h2, fun r hr => ?_⟩
    unfold World.cells? at h1
    split at h1
    · have hzl : r < z := by rw [← hz _ (List.getElem_mem hi), ← h2.1]; exact hr
      have := mapM_some_get h1 r r (by simp [hzl])
      rw [this, List.getElem?_eq_getElem hr]
    · cases h1
  have hsp : us ≠ [] → a.spot = none ∧ a.block < W.heap.size := by
    intro hne
    have hp : 0 < us.length := List.length_pos_iff.2 hne
    obtain ⟨cs, h2, h3⟩ := hget 0 hp
    have h4 := h3 0 (by rw [h2.1, hz _ (List.getElem_mem hp)]; exact hz0)
    have := cell_spot h4
    simpa [Addr.add] using this
  have hcell : ∀ i (hi : i < us.length) r (hr : r < (us[i]).cells.length), ∃ v, W.cell? ⟨a.block, a.off + (i * z + r), none⟩ = some v ∧ Rep g W v (us[i]).cells[r] ∧ v.oneCell' = true := by
    intro i hi r hr
    obtain ⟨hs, hb⟩ := hsp (by intro e; rw [e] at hi; simp at hi)
    obtain ⟨cs, h2, h3⟩ := hget i hi
    have hr' : r < cs.length := by rw [h2.1]; exact hr
    have h4 := h3 r hr'
    have e : (a.add (i * z)).add r = ⟨a.block, a.off + (i * z + r), none⟩ := by
      rw [addr_at hs, addr_at rfl]
      simp only [Nat.add_assoc]
    rw [e] at h4
    exact ⟨_, h4, h2.2 r hr' hr⟩
  have hidx : ∀ j, j < us.length * z → ∃ i r, ∃ (hi : i < us.length) (hr : r < (us[i]).cells.length), j = i * z + r := by
    intro j hj
    refine ⟨j / z, j % z, ?_, ?_, ?_⟩
    · exact (Nat.div_lt_iff_lt_mul hz0).2 hj
    · rw [hz _ (List.getElem_mem _)]; exact Nat.mod_lt _ hz0
    · rw [Nat.mul_comm]; exact (Nat.div_add_mod j z).symm
  refine .sl (some a) len cap us .any z (fun j => (W.cell? ⟨a.block, a.off + j, none⟩).getD undef) hl.symm hlc hz (fun hne => ?_) (fun j hj => ?_) trivial
  · obtain ⟨hs, hb⟩ := hsp hne
    refine ⟨a.block, a.off, ?_, fun j hj => ?_⟩
    · obtain ⟨b, o, s⟩ := a
      simp only at hs
      subst hs
      rfl
    · obtain ⟨i, r, hi, hr, rfl⟩ := hidx j hj
      obtain ⟨v, h1, _, h3⟩ := hcell i hi r hr
      refine ⟨hfz _ _ hb, ?_⟩
      simp only [h1, Option.getD_some, h3, and_self]
  · have hj' := hj
    rw [flats_length hz] at hj'
    obtain ⟨i, r, hi, hr, rfl⟩ := hidx j hj'
    obtain ⟨v, h1, h2, _⟩ := hcell i hi r hr
    have h5 := flats_at hz i hi r hr
    rw [List.getElem?_eq_getElem hj] at h5
    simp only [Option.some.injEq] at h5
    rw [h5]
    simp only [h1, Option.getD_some]
    exact h2

variable {H : Type} {enc : TypeId × Value → H} {sp : Nat → Bool} {held : Bool}

theorem cells24 : Try.prog.cellsOf 24 = 4 := by kernel_rfl
theorem cells22 : Try.prog.cellsOf 22 = 1 := by kernel_rfl
theorem cells3 : Try.prog.cellsOf 3 = 1 := by kernel_rfl
theorem cells2 : Try.prog.cellsOf 2 = 1 := by kernel_rfl
theorem cells9 : Try.prog.cellsOf 9 = 1 := by kernel_rfl

/-- A datum in memory, as a tree. -/
theorem open_cells (hfz : ∀ b o, b < W.heap.size → g.fz b o) : ∀ (fuel : Nat) (cs : List Value) (x : DataW H × List MemPlace), DataW.trod enc Try.prog W 0 sp held fuel 24 cs = some x → ∃ d : D, CellsOk g W cs d.v.cells := by
  intro fuel
  induction fuel using Nat.strongRecOn with
  | _ fuel ih =>
    intro cs x h
    obtain ⟨xs, n, rfl, rfl, hlen, hxl, hf⟩ := DataW.trod_struct Try.underlying24 h
    rw [cells24] at hlen
    obtain ⟨a0, a1, a2, a3, rfl⟩ : ∃ a0 a1 a2 a3, cs = [a0, a1, a2, a3] := by
      match cs, hlen with
      | [a0, a1, a2, a3], _ => exact ⟨_, _, _, _, rfl⟩
    have h0 : DataW.trod enc Try.prog W 0 sp held n 3 (([a0, a1, a2, a3].drop 0).take (Try.prog.cellsOf 3)) = xs[0]? := hf 0 _ rfl
    have h1 : DataW.trod enc Try.prog W 0 sp held n 2 (([a0, a1, a2, a3].drop 1).take (Try.prog.cellsOf 2)) = xs[1]? := hf 1 _ rfl
    have h2 : DataW.trod enc Try.prog W 0 sp held n 9 (([a0, a1, a2, a3].drop 2).take (Try.prog.cellsOf 9)) = xs[2]? := hf 2 _ rfl
    have h3 : DataW.trod enc Try.prog W 0 sp held n 22 (([a0, a1, a2, a3].drop 3).take (Try.prog.cellsOf 22)) = xs[3]? := hf 3 _ rfl
    simp only [cells3, cells2, cells9, cells22, List.drop_zero, List.drop_succ_cons, List.take_succ_cons, List.take_zero] at h0 h1 h2 h3
    have hxl : xs.length = 4 := hxl
    rw [List.getElem?_eq_getElem (by omega)] at h0 h1 h2 h3
    obtain ⟨k, e0, _⟩ := DataW.trod_int Try.underlying3 h0
    obtain ⟨m, e1, _⟩ := DataW.trod_int Try.underlying2 h1
    obtain ⟨t, e2, _⟩ := DataW.trod_string Try.underlying9 h2
    simp only [List.cons.injEq, and_true] at e0 e1 e2
    subst e0 e1 e2
    have key : ∃ l : List D, Rep g W a3 (.sl (D.vs l) .any) ∧ a3.oneCell' = true := by
      rcases DataW.trod_slice Try.underlying22 h3 with ⟨e3, _⟩ | ⟨a, len, cap, elems, rest, n', e4, e3, _, _, hlc, _, hel, hget, _⟩
      · simp only [List.cons.injEq, and_true] at e3
        subst e3
        exact ⟨[], .sl none 0 0 [] .any 4 (fun _ => undef) rfl (Nat.le_refl _) (by simp) (fun h => absurd rfl h) (fun j hj => by simp [flats] at hj) trivial, rfl⟩
      · simp only [List.cons.injEq, and_true] at e3
        subst e3 e4
        rw [cells24] at hget
        have hex : ∀ i, i < len → ∃ d : D, ∃ cs, W.cells? 0 (a.add (i * 4)) 4 = some cs ∧ CellsOk g W cs d.v.cells := by
          intro i hi
          have := hget i hi
          rw [List.getElem?_eq_getElem (by omega)] at this
          simp only [Option.bind_eq_some_iff] at this
          obtain ⟨cs, hc, ht⟩ := this
          obtain ⟨d, hd⟩ := ih n' (by omega) cs _ ht
          exact ⟨d, cs, hc, hd⟩
        have hl : ∀ m, m ≤ len → ∃ l : List D, l.length = m ∧ ∀ i (hi : i < l.length), ∃ cs, W.cells? 0 (a.add (i * 4)) 4 = some cs ∧ CellsOk g W cs (l[i]).v.cells := by
          intro m
          induction m with
          | zero => exact fun _ => ⟨[], rfl, fun i hi => by simp at hi⟩
          | succ m ihm =>
            intro hm
            obtain ⟨l, h1, h2⟩ := ihm (by omega)
            obtain ⟨d, hd⟩ := hex m (by omega)
            refine ⟨l ++ [d], by simp [h1], fun i hi => ?_⟩
            rcases Nat.lt_or_ge i l.length with h3 | h3
            · rw [List.getElem_append_left h3]; exact h2 i h3
            · have hi' : i = l.length := by simp at hi; omega
              subst hi'
              rw [List.getElem_append_right (Nat.le_refl _)]
              simp only [Nat.sub_self, List.getElem_cons_zero]
              rw [h1]; exact hd
        obtain ⟨l, h1, h2⟩ := hl len (Nat.le_refl _)
        refine ⟨l, rep_slice (z := 4) hfz (fun u hu => ?_) (by omega) (by rw [D.vs_len, h1]) hlc (fun i hi => ?_), rfl⟩
        · rw [D.vs_map] at hu
          obtain ⟨d, _, rfl⟩ := List.mem_map.1 hu
          exact D.cells_len d
        · rw [D.vs_getE]
          exact h2 i _
    obtain ⟨l, hr, ho⟩ := key
    refine ⟨.mk k m t l, rfl, fun r h1 h2 => ?_⟩
    simp only [List.length_cons, List.length_nil] at h1
    match r, h1 with
    | 0, _ => exact ⟨.c _, rfl⟩
    | 1, _ => exact ⟨.c _, rfl⟩
    | 2, _ => exact ⟨.c _, rfl⟩
    | 3, _ => exact ⟨hr, ho⟩

theorem open_datum {r : Reach} {b0 : Nat} {v : Value} {dd : DataW H} {ps : List MemPlace} (hfz : ∀ b o, b < W.heap.size → g.fz b o) (hval : Value.okWide Try.prog W r b0 24 v) (hd : DataW.Trod enc Try.prog W 0 sp held 24 v dd ps) : ∃ d : D, Rep g W v d.v := by
  obtain ⟨cs, rfl, hn⟩ := okWide_struct Try.underlying24 hval
  obtain ⟨fuel, hf⟩ := hd
  obtain ⟨d, h1, h2⟩ := open_cells hfz fuel _ _ hf
  refine ⟨d, ?_⟩
  obtain ⟨k, n, t, l⟩ := d
  simp only [Value.cells] at h1 h2
  have h1' : cs.size = 4 := by simpa [D.v, V.cells] using h1
  refine .agg cs _ (by simp [h1']) (fun i hi => ?_) (fun i hi hj => ?_)
  · have := h2 i (by simpa using hi) (by simp [D.v, V.cells]; omega)
    simpa using this.2
  · have := h2 i (by simpa using hi) (by simpa [D.v, V.cells] using hj)
    simpa [D.v, V.cells] using this.1
end
end Go.Proofs.Ytbkgpdkimcnpgaa.Ab
