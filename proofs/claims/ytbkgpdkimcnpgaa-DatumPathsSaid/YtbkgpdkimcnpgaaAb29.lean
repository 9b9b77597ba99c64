/- Copies of rows of numbers (slices.Clone) into objects that are for anybody. -/
import Derived.Test.YtbkgpdkimcnpgaaAb28
namespace Go.Proofs.Ytbkgpdkimcnpgaa.Ab
open Go
set_option linter.unusedVariables false
set_option linter.unusedSimpArgs false

def cloneR (bytes : Nat) : CallF → List V → List O → Option (V × List O) := fun cf args h =>
  if isFree h[freeSlot h h.length h.length]? = true then
    match cloneE none bytes true cf args h with
    | some (.row i 0 n z, h2) => match h2[h.length + 1]? with
      | some (.cells cs) => if i = h.length + 1 ∧ V.lows 0 cs = true then some (.row (freeSlot h h.length h.length) 0 n z, h.set (freeSlot h h.length h.length) (.cells cs)) else none
      | _ => none
    | some (.sl [] .any, h2) => some (.sl [] .any, h2)
    | _ => none
  else cloneE none bytes false cf args h

theorem isFree_iff {o : Option O} : isFree o = true ↔ o = some .free := by
  cases o with
  | none => simp [isFree]
  | some x => cases x <;> simp [isFree]

section
variable {P : Program}

theorem cloneR_at {pf : Nat → Nat} {cf : CallF} (hp : PureCf pf cf) (hcf : CallOk P cf) (hm : P.follows .mixedOrders = true) {f : Nat} {fn : Func} (hf : P.funcs[f]? = some fn) {bytes : Nat}
    (htrT : trF P pf false true true fn = some (xCloneF none bytes true)) (htrF : trF P pf false true false fn = some (xCloneF none bytes false)) {args : List V} {h : List O} {r : V} {h' : List O} (hrun : cloneR bytes cf args h = some (r, h')) : Walked P f ∧ CallAt P f args h r h' := by
  unfold cloneR at hrun
  split at hrun
  rotate_left
  · exact clone_at hp hcf hm hf htrF hrun
  rename_i hfree
  rw [isFree_iff] at hfree
  generalize freeSlot h h.length h.length = k at *
  split at hrun
  · rename_i i n z h2 hcl
    split at hrun
    · rename_i cs hcs
      split at hrun
      rotate_left
      · cases hrun
      rename_i hi
      obtain ⟨rfl, hlow⟩ := hi
      simp only [Option.some.injEq, Prod.mk.injEq] at hrun
      obtain ⟨rfl, rfl⟩ := hrun
      obtain ⟨k1, k2⟩ := clone_at hp hcf hm hf htrT hcl
      refine ⟨k1, fun g w cargs H hl hr => Calls.mono (k2 g w cargs H hl hr) ?_⟩
      rintro e w' ⟨v, g1, rfl, hle, hs, hrep, hq⟩
      -- the heap of the copy
      have hh2 : ∃ e2, h2 = h ++ e2 := by
        unfold cloneE at hcl
        split at hcl
        rotate_left
        · cases hcl
        split at hcl
        · simp at hcl
        · split at hcl
          · simp only [if_true, Option.some.injEq, Prod.mk.injEq] at hcl
            exact ⟨_, hcl.2.symm⟩
          · cases hcl
        · cases hcl
      obtain ⟨e2, rfl⟩ := hh2
      obtain ⟨m1, m2, m3⟩ := H.back hle hs hq
      have hk : k < h.length := (List.getElem?_eq_some_iff.1 hfree).1
      obtain ⟨n1, n2⟩ := m1.free_none hfree
      by_cases hn : n = 0
      · -- nothing is there to be looked at
        subst hn
        refine ⟨v, _, rfl, m2, ⟨fun id b e => ?_, fun id b n c e => ?_, m1.inj, m1.tinj, m1.bt, m1.al⟩, ?_, fun id hid => ?_⟩
        · obtain ⟨cs', c, T, c1, c2⟩ := m1.cells _ _ e
          have hne : k ≠ id := by rintro rfl; rw [n1] at e; cases e
          exact ⟨cs', c, T, by rw [List.getElem?_set_ne hne]; exact c1, c2⟩
        · obtain ⟨z', c, T, c1, c2⟩ := m1.tok _ _ _ _ e
          have hne : k ≠ id := by rintro rfl; rw [n2] at e; cases e
          exact ⟨z', c, T, c1.map (List.getElem?_set_ne hne) (fun r => r) (fun _ h => h), c2⟩
        · cases hrep with
          | row A n cap id off z hc hA => exact .row A 0 cap k 0 z hc fun h => absurd rfl h
        · obtain ⟨q1, q2, q3⟩ := m3 id hid
          have hne : k ≠ id := by rintro rfl; exact hid (.inr hfree)
          exact ⟨q1, q2, fun e e' => by rw [List.getElem?_set_ne hne]⟩
      · cases hrep with
        | row A _ cap _ _ _ hc hA =>
          obtain ⟨b, hAb, hb⟩ := hA hn
          obtain ⟨cs', c, T, c1, c2, c3, c4, c5⟩ := hs.cells _ _ hb
          rw [hcs] at c1
          simp only [Option.some.injEq, O.cells.injEq] at c1
          subst c1
          -- the block is not one of the others
          have hnb : ∀ id, (g1.res h.length).blk id ≠ some b := by
            intro id e
            obtain ⟨a1, a2⟩ := res_blk e
            have := hs.inj _ _ _ a2 hb
            omega
          have hnt : ∀ id n c, (g1.res h.length).tok id ≠ some (b, n, c) := by
            intro id n c e
            obtain ⟨a1, a2⟩ := res_tok e
            exact hs.bt _ _ _ _ _ hb a2
          obtain ⟨n3, n4⟩ := H.free_none hfree
          let g2 : Gh := (g1.res h.length).setBlk k b
          have hblk : ∀ id b', g2.blk id = some b' → (id = k ∧ b' = b) ∨ (id ≠ k ∧ (g1.res h.length).blk id = some b') := by
            intro id b' e
            by_cases hi : id = k
            · subst hi; simp [g2, Gh.setBlk] at e; exact .inl ⟨rfl, e.symm⟩
            · simp [g2, Gh.setBlk, hi] at e; exact .inr ⟨hi, e⟩
          have up : ∀ {x : Value} {u : V}, Rep (g1.res h.length) w' x u → Rep g2 w' x u := fun r => r.of_frz (fun _ _ h => h) (fun id b' e => by
            have hne : id ≠ k := by rintro rfl; rw [n1] at e; cases e
            simp [g2, Gh.setBlk, hne, e]) (fun _ _ h => h)
          have hle2 : Le g w g2 w' := {
            blk := fun id b' e => by
              have hne : id ≠ k := by rintro rfl; rw [n3] at e; cases e
              simp [g2, Gh.setBlk, hne, m2.blk _ _ e]
            tok := m2.tok
            fz := m2.fz
            own := fun b' ho hlt => by
              rcases ho with ⟨id, e⟩ | ⟨t, l, c', e⟩
              · rcases hblk _ _ e with ⟨_, rfl⟩ | ⟨_, e⟩
                · exact hle.own _ (.inl ⟨_, hb⟩) hlt
                · exact m2.own _ (.inl ⟨_, e⟩) hlt
              · exact m2.own _ (.inr ⟨_, _, _, e⟩) hlt
            fzn := m2.fzn
            kept := m2.kept
            size := m2.size
            tape := m2.tape
            os := m2.os
            output := m2.output
            sz := m2.sz }
          refine ⟨_, g2, rfl, hle2, ⟨fun id b' e => ?_, fun id b' n' c' e => ?_, fun id id' b' e e' => ?_, m1.tinj, fun id id' b' n' c' e e' => ?_, m1.al⟩, ?_, fun id hid => ?_⟩
          · rcases hblk _ _ e with ⟨rfl, rfl⟩ | ⟨hne, e⟩
            · refine ⟨cs, c, T, by rw [List.getElem?_set_self hk], c2, c3, fun j hj hc' => ⟨(c4 j hj hc').1.bare (lows_get hlow j hj) fun _ _ h => h, (c4 j hj hc').2⟩, c5⟩
            · obtain ⟨cs', c', T', d1, d2, d3, d4, d5⟩ := m1.cells _ _ e
              exact ⟨cs', c', T', by rw [List.getElem?_set_ne (Ne.symm hne)]; exact d1, d2, d3, fun j hj hc' => ⟨up (d4 j hj hc').1, (d4 j hj hc').2⟩, d5⟩
          · obtain ⟨z', cc, T', d1, d2⟩ := m1.tok _ _ _ _ e
            have hne : k ≠ id := by rintro rfl; have e3 : (g1.res h.length).tok k = some (b', n', c') := e; rw [n2] at e3; cases e3
            exact ⟨z', cc, T', d1.map (List.getElem?_set_ne hne) up (fun _ h => h), d2⟩
          · rcases hblk _ _ e with ⟨rfl, h1⟩ | ⟨hne, e1⟩ <;> rcases hblk _ _ e' with ⟨rfl, h2⟩ | ⟨hne', e1'⟩
            · rfl
            · rw [h1] at e1'; exact absurd e1' (hnb _)
            · rw [h2] at e1; exact absurd e1 (hnb _)
            · exact m1.inj _ _ _ e1 e1'
          · rcases hblk _ _ e with ⟨rfl, rfl⟩ | ⟨hne, e⟩
            · exact hnt _ _ _ e'
            · exact m1.bt _ _ _ _ _ e e'
          · exact .row A n cap k 0 z hc fun _ => ⟨b, hAb, by simp [g2, Gh.setBlk]⟩
          · obtain ⟨q1, q2, q3⟩ := m3 id hid
            have hne : id ≠ k := by rintro rfl; exact hid (.inr hfree)
            exact ⟨fun e => by simp [g2, Gh.setBlk, hne, q1 e], q2, fun e e' => by rw [List.getElem?_set_ne (Ne.symm hne)]⟩
    · cases hrun
  · rename_i h2 hcl
    simp only [Option.some.injEq, Prod.mk.injEq] at hrun
    obtain ⟨rfl, rfl⟩ := hrun
    exact clone_at hp hcf hm hf htrT hcl
  · cases hrun

theorem cloneR_cells {cf : CallF} {bytes : Nat} {args : List V} {h : List O} {r : V} {h' : List O} (hrun : cloneR bytes cf args h = some (r, h')) : CellsLe h h' := by
  unfold cloneR at hrun
  split at hrun
  rotate_left
  · exact (clone_pure hrun).2
  rename_i hfree
  rw [isFree_iff] at hfree
  split at hrun
  · split at hrun
    · split at hrun
      · simp only [Option.some.injEq, Prod.mk.injEq] at hrun
        rw [← hrun.2]
        intro id o ho hid
        by_cases hsid : freeSlot h h.length h.length = id
        · rw [← hsid, hfree] at hid
          simp only [Option.some.injEq] at hid
          subst hid
          exact ho.elim
        · rw [List.getElem?_set_ne hsid]; exact hid
      · cases hrun
    · cases hrun
  · rename_i h2 hcl
    simp only [Option.some.injEq, Prod.mk.injEq] at hrun
    obtain ⟨_, rfl⟩ := hrun
    exact (clone_pure hcl).2
  · cases hrun
end
end Go.Proofs.Ytbkgpdkimcnpgaa.Ab
