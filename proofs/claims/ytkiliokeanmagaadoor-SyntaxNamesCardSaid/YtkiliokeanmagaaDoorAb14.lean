/- Rows that are read. -/
import Derived.Test.YtkiliokeanmagaaDoorAb13
namespace Go.Proofs.YtkiliokeanmagaaDoor.Ab
open Go
set_option linter.unusedVariables false
set_option linter.unusedSimpArgs false

/-- The objects from lo on are frozen. -/
def Gh.frz (g : Gh) (lo : Nat) (h : List O) : Gh :=
  ⟨fun id => if id < lo then g.blk id else none, fun id => if id < lo then g.tok id else none, fun b o => g.fz b o ∨ (∃ (id : Nat) (cs : List V), lo ≤ id ∧ g.blk id = some b ∧ h[id]? = some (O.cells cs) ∧ o < cs.length) ∨ ∃ (id n cap n' z : Nat) (cs : List V), lo ≤ id ∧ g.tok id = some (b, n, cap) ∧ h[id]? = some (O.tokc n' z cs) ∧ o < cs.length⟩

section
variable {g : Gh} {w : World} {h : List O} {lo : Nat}

def CL (g : Gh) (w : World) (G : Gh) (cs cs' : List V) : Prop := cs'.length = cs.length ∧ ∀ i (hi : i < cs.length) (hj : i < cs'.length) (x : Value), Rep g w x cs[i] → Rep G w x cs'[i]
def SnapOk (g : Gh) (w : World) (G : Gh) (v v' : V) : Prop := (∀ x, Rep g w x v → Rep G w x v') ∧ CL g w G v.cells v'.cells

theorem CL.append {G : Gh} {a b a' b' : List V} (h1 : CL g w G a a') (h2 : CL g w G b b') : CL g w G (a ++ b) (a' ++ b') := by
  refine ⟨by simp [h1.1, h2.1], fun i hi hj x hx => ?_⟩
  rw [List.getElem_append] at hx ⊢
  by_cases c : i < a.length
  · have c' : i < a'.length := by rw [h1.1]; exact c
    simp only [c, c', dif_pos] at hx ⊢
    exact h1.2 i c c' x hx
  · have c' : ¬ i < a'.length := by rw [h1.1]; exact c
    simp only [c, c', dif_neg, not_false_eq_true] at hx ⊢
    have e : i - a'.length = i - a.length := by rw [h1.1]
    simp only [List.length_append] at hi hj
    have := h2.2 (i - a.length) (by omega) (by rw [h2.1]; omega) x hx
    simp only [e]
    exact this
theorem CL.one {G : Gh} {v v' : V} (h1 : v.cells = [v]) (h2 : v'.cells = [v']) (h3 : ∀ x, Rep g w x v → Rep G w x v') : SnapOk g w G v v' := by
  refine ⟨h3, ?_⟩
  rw [h1, h2]
  refine ⟨rfl, fun i hi hj x hx => ?_⟩
  have : i = 0 := by simp at hi; omega
  subst this
  exact h3 x hx
theorem CL.flats {G : Gh} : ∀ {us us' : List V}, us'.length = us.length → (∀ i (hi : i < us.length) (hj : i < us'.length), SnapOk g w G us[i] us'[i]) → CL g w G (flats us) (flats us')
  | [], [], _, _ => ⟨rfl, fun i hi => by simp [Ab.flats] at hi⟩
  | u :: us, u' :: us', hl, hp => by
    have h0 := (hp 0 (by simp) (by simp)).2
    have ih := CL.flats (us := us) (us' := us') (by simpa using hl) fun i hi hj => hp (i + 1) (by simpa using hi) (by simpa using hj)
    have e : ∀ (a : V) (l : List V), Ab.flats (a :: l) = a.cells ++ Ab.flats l := fun a l => by simp [Ab.flats]
    rw [e, e]
    exact CL.append h0 ih
  | [], _ :: _, hl, _ => by simp at hl
  | _ :: _, [], hl, _ => by simp at hl

theorem CL.fz {G : Gh} {us us' : List V} (hl : us'.length = us.length) (hp : ∀ i (hi : i < us.length) (hj : i < us'.length), SnapOk g w G us[i] us'[i]) {z : Nat} (hz : ∀ u ∈ us, u.cells.length = z) : ∀ u ∈ us', u.cells.length = z := by
  intro u hu
  obtain ⟨i, hi, rfl⟩ := List.getElem_of_mem hu
  have hi' : i < us.length := by omega
  rw [(hp i hi' hi).2.1]
  exact hz _ (List.getElem_mem hi')

theorem mapO_ok {f : V → Option V} {Q : V → V → Prop} (hf : ∀ u u', f u = some u' → Q u u') : ∀ {us us' : List V}, mapO f us = some us' → us'.length = us.length ∧ ∀ i (hi : i < us.length) (hj : i < us'.length), Q us[i] us'[i]
  | [], us', h => by
    simp only [mapO, Option.some.injEq] at h
    subst h
    exact ⟨rfl, fun i hi => by simp at hi⟩
  | u :: us, us', h => by
    simp only [mapO] at h
    split at h
    · rename_i u1 us1 h1 h2
      simp only [Option.some.injEq] at h
      subst h
      obtain ⟨k1, k2⟩ := mapO_ok hf h2
      refine ⟨by simp [k1], fun i hi hj => ?_⟩
      cases i with
      | zero => exact hf _ _ h1
      | succ i => exact k2 i (by simpa using hi) (by simpa using hj)
    · cases h

mutual
theorem snapV_ok (H : HOk g w h) {f : V → Option V} (hf : ∀ u u', f u = some u' → SnapOk g w (g.frz lo h) u u') : ∀ (v v' : V), snapV lo f h v = some v' → SnapOk g w (g.frz lo h) v v'
  | .c x, v', e => by
    simp only [snapV, Option.some.injEq] at e
    subst e
    exact CL.one rfl rfl fun y hy => by rw [hy.of_c]; exact .c _
  | .agg cs, v', e => by
    simp only [snapV, Option.map_eq_some_iff] at e
    obtain ⟨cs', e, rfl⟩ := e
    obtain ⟨k1, k2⟩ := snapL_ok H hf cs cs' e
    refine ⟨fun x hx => ?_, k1, fun i hi hj x hx => (k2 i hi hj).1 x hx⟩
    obtain ⟨xs, rfl, hn, h1, h2⟩ := hx.of_agg
    exact .agg xs _ (by rw [hn, k1]) h1 fun i hi hj => (k2 i (by omega) hj).1 _ (h2 i hi (by omega))
  | .tup cs, v', e => by
    simp only [snapV, Option.map_eq_some_iff] at e
    obtain ⟨cs', e, rfl⟩ := e
    obtain ⟨k1, k2⟩ := snapL_ok H hf cs cs' e
    refine CL.one rfl rfl fun x hx => ?_
    obtain ⟨xs, rfl, hn, h2⟩ := hx.of_tup
    exact .tup xs _ (by rw [hn, k1]) fun i hi hj => (k2 i (by omega) hj).1 _ (h2 i hi (by omega))
  | .sl us i, v', e => by
    simp only [snapV, Option.map_eq_some_iff] at e
    obtain ⟨us', e, rfl⟩ := e
    obtain ⟨k1, k2⟩ := snapL_ok H hf us us' e
    refine CL.one rfl rfl fun x hx => ?_
    obtain ⟨A, cap, z, cv, rfl, hc, hzz, hA, hr, hi⟩ := hx.of_sl
    have hcl := CL.flats k1 k2
    refine .sl _ _ _ _ _ z cv k1.symm hc (CL.fz k1 k2 hzz) (fun hne => ?_) (fun j hj => ?_) trivial
    · obtain ⟨b, o, e1, h3⟩ := hA (by intro e; subst e; cases us' with | nil => exact hne rfl | cons q r => simp at k1)
      rw [k1]
      exact ⟨b, o, e1, fun j hj => ⟨.inl (h3 j hj).1, (h3 j hj).2⟩⟩
    · exact hcl.2 j (by rw [← hcl.1]; exact hj) hj _ (hr j (by rw [← hcl.1]; exact hj))
  | .ptr cs o, v', e => by
    simp only [snapV, Option.map_eq_some_iff] at e
    obtain ⟨cs', e, rfl⟩ := e
    obtain ⟨k1, k2⟩ := snapL_ok H hf cs cs' e
    refine CL.one rfl rfl fun x hx => ?_
    obtain ⟨b, o0, cv, rfl, h1, h2⟩ := hx.of_ptr
    exact .ptr b o0 _ _ _ cv rfl (fun j hj => ⟨.inl (h1 j (by omega)).1, (h1 j (by omega)).2⟩) fun j hj => (k2 j (by omega) hj).1 _ (h2 j (by omega))
  | .ref id o, v', e => by
    simp only [snapV] at e
    split at e
    · rename_i hid
      simp only [Option.some.injEq] at e
      subst e
      refine CL.one rfl rfl fun x hx => ?_
      obtain ⟨b, rfl, hb⟩ := hx.of_ref
      exact .ref id b o (by simp [Gh.frz, hid, hb])
    · cases e
  | .clo fn cs, v', e => by
    simp only [snapV, Option.map_eq_some_iff] at e
    obtain ⟨cs', e, rfl⟩ := e
    obtain ⟨k1, k2⟩ := snapL_ok H hf cs cs' e
    refine CL.one rfl rfl fun x hx => ?_
    obtain ⟨xs, rfl, hn, h2⟩ := hx.of_clo
    exact .clo _ xs _ (by rw [hn, k1]) fun i hi hj => (k2 i (by omega) hj).1 _ (h2 i hi (by omega))
  | .row id off n z, v', e => by
    simp only [snapV] at e
    split at e
    · rename_i hid
      simp only [Option.some.injEq] at e
      subst e
      refine CL.one rfl rfl fun x hx => ?_
      cases hx with
      | row A _ cap _ _ _ hc hA => exact .row A n cap id off z hc fun hn => (hA hn).imp fun b hb => ⟨hb.1, by simp [Gh.frz, hid, hb.2]⟩
    · rename_i hid
      split at e
      · rename_i cs hcs
        split at e
        · rename_i us hus
          simp only [Option.map_eq_some_iff] at e
          obtain ⟨us', e, rfl⟩ := e
          obtain ⟨k1, k2⟩ := mapO_ok (Q := SnapOk g w (g.frz lo h)) hf e
          refine CL.one rfl rfl fun x hx => ?_
          cases hx with
          | row A _ cap _ _ _ hc hA =>
            by_cases hn : n = 0
            · subst hn
              simp only [elems, Option.some.injEq] at hus
              subst hus
              have : us' = [] := List.eq_nil_of_length_eq_zero (by simpa using k1)
              subst this
              exact .sl A 0 cap [] .any 0 (fun _ => undef) rfl hc (by simp) (by simp) (by simp [Ab.flats]) trivial
            · obtain ⟨b, rfl, hb⟩ := hA hn
              obtain ⟨cs0, c, T, h1, h2, h3, h4, h5⟩ := H.cellsOf hb hcs
              have hcs0 : cs0 = cs := by rw [hcs] at h1; simp at h1; exact h1.symm
              subst hcs0
              have hone : ∀ u ∈ cs0, u.cells = [u] := by
                intro u hu
                obtain ⟨j, hj, rfl⟩ := List.getElem_of_mem hu
                have := h4 j hj (by omega)
                exact rep_one this.1 this.2
              obtain ⟨q1, q2, q3, q4⟩ := elems_ok (fun u hu => hone u (List.mem_of_mem_drop hu)) hus
              simp only [List.length_drop] at q4
              have hcl := CL.flats k1 k2
              have hfl := flats_length q2
              refine .sl _ n cap us' _ (zc z) (fun j => c.getD (off + j) undef) (by omega) hc (CL.fz k1 k2 q2) (fun _ => ⟨b, off, rfl, fun j hj => ?_⟩) (fun j hj => ?_) trivial
              · have hj2 : off + j < cs0.length := by rw [k1, q1] at hj; omega
                have hj3 : off + j < c.size := by omega
                refine ⟨.inr (.inl ⟨id, cs0, by omega, hb, hcs, hj2⟩), ?_, ?_⟩
                · rw [cell_of h2]; simp [Array.getD, hj3]
                · have := (h4 (off + j) hj2 hj3).2
                  simpa [Array.getD, hj3] using this
              · have hj1 : j < (Ab.flats us).length := by rw [← hcl.1]; exact hj
                have hj0 : j < n * zc z := by rw [hfl, q1] at hj1; exact hj1
                have hj2 : off + j < cs0.length := by omega
                have hj3 : off + j < c.size := by omega
                refine hcl.2 j hj1 hj _ ?_
                have e1 : (Ab.flats us)[j]? = (cs0.drop off)[j]? := by rw [q3, List.getElem?_take, if_pos hj0]
                rw [List.getElem?_drop, List.getElem?_eq_getElem hj1, List.getElem?_eq_getElem hj2] at e1
                rw [Option.some.inj e1]
                have := (h4 (off + j) hj2 hj3).1
                simpa [Array.getD, hj3] using this
        · cases e
      · cases e
  | .tref k n o, v', e => by
    simp only [snapV] at e
    split at e
    · rename_i hid
      simp only [Option.some.injEq] at e
      subst e
      refine CL.one rfl rfl fun x hx => ?_
      cases hx with
      | tref A _ _ _ h =>
        obtain ⟨b, l, c, h1, h2⟩ := h
        exact .tref A k n o ⟨b, l, c, by simp [Gh.frz, hid, h1], h2⟩
    · cases e
  | .tsl k n z, v', e => by
    simp only [snapV] at e
    split at e
    · rename_i hid
      simp only [Option.some.injEq] at e
      subst e
      refine CL.one rfl rfl fun x hx => ?_
      cases hx with
      | tsl A _ cap _ _ hc hA h =>
        obtain ⟨b, l, c, h1, h2⟩ := h
        exact .tsl A n cap k z hc hA ⟨b, l, c, by simp [Gh.frz, hid, h1], h2⟩
    · rename_i hid
      split at e
      · rename_i n' z' cs hcs
        split at e
        rotate_left
        · cases e
        rename_i hnz
        obtain ⟨rfl, rfl⟩ := hnz
        split at e
        · rename_i us hus
          simp only [Option.map_eq_some_iff] at e
          obtain ⟨us', e, rfl⟩ := e
          obtain ⟨k1, k2⟩ := mapO_ok (Q := SnapOk g w (g.frz lo h)) hf e
          refine CL.one rfl rfl fun x hx => ?_
          cases hx with
          | tsl A _ cap _ _ hc hA hT =>
            obtain ⟨b, l, c1, hkt, hnl, hlat⟩ := hT
            obtain ⟨z0, c, T, h1, h2, h3, h3', h5⟩ := H.tok _ _ _ _ hkt
            have hl0 : (l = n' ∧ z0 = zc z) ∧ cs.length = n' * zc z ∧ ∀ j (hj : j < cs.length) (hc : j < c.size), Rep g w c[j] cs[j] ∧ (c[j]).oneCell' = true := by
              rcases h1 with h1 | ⟨cs1, h1, h6, h7, h8⟩ <;> rw [hcs] at h1
              · simp at h1
              · simp only [Option.some.injEq, O.tokc.injEq] at h1
                obtain ⟨rfl, rfl, rfl⟩ := h1
                exact ⟨⟨rfl, rfl⟩, h6, h7⟩
            obtain ⟨⟨rfl, rfl⟩, hcsl, h4⟩ := hl0
            obtain ⟨rfl, _⟩ := hlat rfl
            have hcl0 : cs.length ≤ c.size := by rw [hcsl]; exact Nat.le_trans (Nat.mul_le_mul_right _ h3) h3'
            have hone : ∀ u ∈ cs, u.cells = [u] := by
              intro u hu
              obtain ⟨j, hj, rfl⟩ := List.getElem_of_mem hu
              have := h4 j hj (by omega)
              exact rep_one this.1 this.2
            obtain ⟨q1, q2, q3, q4⟩ := elems_ok hone hus
            have hcl := CL.flats k1 k2
            have hfl := flats_length q2
            refine .sl _ l cap us' _ (zc z) (fun j => c.getD j undef) (by omega) hc (CL.fz k1 k2 q2) (fun _ => ⟨b, 0, rfl, fun j hj => ?_⟩) (fun j hj => ?_) trivial
            · have hj2 : j < cs.length := by rw [k1, q1] at hj; omega
              have hj3 : j < c.size := by omega
              refine ⟨.inr (.inr ⟨k, l, c1, l, zc z, cs, by omega, hkt, hcs, by omega⟩), ?_, ?_⟩
              · rw [Nat.zero_add, cell_of h2]; simp [Array.getD, hj3]
              · have := (h4 j hj2 hj3).2
                simpa [Array.getD, hj3] using this
            · have hj1 : j < (Ab.flats us).length := by rw [← hcl.1]; exact hj
              have hj0 : j < l * zc z := by rw [hfl, q1] at hj1; exact hj1
              have hj2 : j < cs.length := by omega
              have hj3 : j < c.size := by omega
              refine hcl.2 j hj1 hj _ ?_
              have e1 : (Ab.flats us)[j]? = cs[j]? := by rw [q3, List.getElem?_take, if_pos hj0]
              rw [List.getElem?_eq_getElem hj1, List.getElem?_eq_getElem hj2] at e1
              rw [Option.some.inj e1]
              have := (h4 j hj2 hj3).1
              simpa [Array.getD, hj3] using this
        · cases e
      · cases e
  | .buf id n, v', e => by
    simp only [snapV] at e
    split at e
    · rename_i hid
      simp only [Option.some.injEq] at e
      subst e
      refine CL.one rfl rfl fun x hx => ?_
      cases hx with
      | buf A _ cap _ hc hA =>
        obtain ⟨b, cc, T, h1, h2, h3, h4⟩ := hA
        exact .buf A n cap id hc ⟨b, cc, T, h1, by simp [Gh.frz, hid, h2], h3, h4⟩
    · cases e
  | .top, v', e => by
    simp only [snapV, Option.some.injEq] at e
    subst e
    exact CL.one rfl rfl fun x _ => .top x
  | .fmp ks vs, v', e => by
    simp only [snapV, Option.map_eq_some_iff] at e
    obtain ⟨vs', e, rfl⟩ := e
    obtain ⟨k1, k2⟩ := snapL_ok H hf vs vs' e
    refine CL.one rfl rfl fun x hx => ?_
    cases hx with
    | fmp b es ck _ _ h1 h2 h3 h4 h5 => exact .fmp b es ck ks _ h1 (.inl h2) h3 (by omega) fun i hi hj => (k2 i (by omega) hj).1 _ (h5 i hi (by omega))
  | .mref id, v', e => by
    simp only [snapV] at e
    split at e
    · rename_i hid
      simp only [Option.some.injEq] at e
      subst e
      refine CL.one rfl rfl fun x hx => ?_
      cases hx with
      | mref _ b hb => exact .mref id b (by simp [Gh.frz, hid, hb])
    · cases e
  | .yld k y m caps, v', e => by
    simp only [snapV] at e
    split at e
    · rename_i hid
      simp only [Option.map_eq_some_iff] at e
      obtain ⟨caps', e, rfl⟩ := e
      obtain ⟨k1, k2⟩ := snapL_ok H hf caps caps' e
      refine CL.one rfl rfl fun x hx => ?_
      cases hx with
      | yld l _ _ _ tmps _ h1 h2 h3 h4 => exact .yld l k y m tmps _ (by simp [Gh.frz, hid, h1]) h2 (by omega) fun i hi hj => (k2 i (by omega) hj).1 _ (h4 i hi (by omega))
    · cases e
theorem snapL_ok (H : HOk g w h) {f : V → Option V} (hf : ∀ u u', f u = some u' → SnapOk g w (g.frz lo h) u u') : ∀ (vs vs' : List V), snapL lo f h vs = some vs' →
    vs'.length = vs.length ∧ ∀ i (hi : i < vs.length) (hj : i < vs'.length), SnapOk g w (g.frz lo h) vs[i] vs'[i]
  | [], vs', e => by
    simp only [snapL, Option.some.injEq] at e
    subst e
    exact ⟨rfl, fun i hi => by simp at hi⟩
  | v :: vs, vs', e => by
    simp only [snapL] at e
    split at e
    · rename_i u us h1 h2
      simp only [Option.some.injEq] at e
      subst e
      have k0 := snapV_ok H hf v u h1
      obtain ⟨k1, k2⟩ := snapL_ok H hf vs us h2
      refine ⟨by simp [k1], fun i hi hj => ?_⟩
      cases i with
      | zero => exact k0
      | succ i => exact k2 i (by simpa using hi) (by simpa using hj)
    · cases e
end

theorem snap_ok (H : HOk g w h) : ∀ (k : Nat) (v v' : V), snap lo h k v = some v' → SnapOk g w (g.frz lo h) v v'
  | 0, _, _, e => by simp [snap] at e
  | k + 1, v, v', e => snapV_ok H (snap_ok H k) v v' e

theorem HOk.frz (H : HOk g w h) (hl : (h.take lo).all (O.low lo) = true) : HOk (g.frz lo h) w (h.take lo) := by
  have hb : ∀ id b, (g.frz lo h).blk id = some b → id < lo ∧ g.blk id = some b := by
    intro id b e
    simp only [Gh.frz] at e
    split at e
    · exact ⟨‹_›, e⟩
    · cases e
  have ht : ∀ id b, (g.frz lo h).tok id = some b → id < lo ∧ g.tok id = some b := by
    intro id b e
    simp only [Gh.frz] at e
    split at e
    · exact ⟨‹_›, e⟩
    · cases e
  have hr : ∀ {x : Value} {v : V}, Rep g w x v → V.low lo v = true → Rep (g.frz lo h) w x v := by
    intro x v hx hv
    refine Rep.of_frz (hx.res hv) (fun b o h => .inl h) (fun id b e => ?_) (fun id p e => ?_)
    · simpa [Gh.frz, Gh.res] using e
    · simpa [Gh.frz, Gh.res] using e
  refine ⟨fun id b e => ?_, fun id b n cap e => ?_, fun id id' b e e' => H.inj id id' b (hb _ _ e).2 (hb _ _ e').2, fun id id' b n c n' c' e e' => H.tinj id id' b n c n' c' (ht _ _ e).2 (ht _ _ e').2,
    fun id id' b n c e e' => H.bt id id' b n c (hb _ _ e).2 (ht _ _ e').2, H.ag.fzs (fun b o e => .inl e) fun b o e => ?_⟩
  · obtain ⟨hid, e'⟩ := hb _ _ e
    have hfz : ∀ o, (g.frz lo h).fz b o → g.fz b o := by
      intro o ho
      rcases ho with ho | ⟨id', cs', q1, q2, q3, q4⟩ | ⟨id', n', cap', n2, z', cs', q1, q2, q3, q4⟩
      · exact ho
      · have := H.inj _ _ _ e' q2
        omega
      · exact (H.bt _ _ _ _ _ e' q2).elim
    have hh : (h.take lo)[id]? = h[id]? := by rw [List.getElem?_take, if_pos hid]
    rcases H.obj _ _ e' with ⟨cs, c, T, h1, h2, h3, h4, h5⟩ | q
    · have h6 := hh.trans h1
      have h7 := List.all_eq_true.1 hl _ (List.mem_of_getElem? h6)
      exact .inl ⟨cs, c, T, h6, h2, h3, fun j hj hc => ⟨hr (h4 j hj hc).1 (lows_get h7 j hj), (h4 j hj hc).2⟩, fun o ho => h5 o (hfz o ho)⟩
    · exact .inr (q.mapL hh rfl (fun r hv => hr r hv) (fun o ho => List.all_eq_true.1 hl _ (List.mem_of_getElem? (hh.trans ho))) hfz)
  · obtain ⟨hid, e'⟩ := ht _ _ e
    obtain ⟨z, c, T, h1, h2, h3, h4, h5⟩ := H.tok _ _ _ _ e'
    have hfz : ∀ o, (g.frz lo h).fz b o → g.fz b o := by
      intro o ho
      rcases ho with ho | ⟨id', cs', q1, q2, q3, q4⟩ | ⟨id', n', cap', n2, z', cs', q1, q2, q3, q4⟩
      · exact ho
      · exact (H.bt _ _ _ _ _ q2 e').elim
      · have := H.tinj _ _ _ _ _ _ _ e' q2
        omega
    have hh : (h.take lo)[id]? = h[id]? := by rw [List.getElem?_take, if_pos hid]
    refine ⟨z, c, T, ?_, h2, h3, h4, fun o ho => h5 o (hfz o ho)⟩
    rcases h1 with h1 | ⟨cs, h1, h6, h7, h8⟩
    · exact .inl (hh.trans h1)
    · have h9 := hh.trans h1
      have h10 := List.all_eq_true.1 hl _ (List.mem_of_getElem? h9)
      exact .inr ⟨cs, h9, h6, fun j hj hc => ⟨hr (h7 j hj hc).1 (lows_get h10 j hj), (h7 j hj hc).2⟩, fun o ho => h8 o (hfz o ho)⟩
  · rcases e with e | ⟨id', cs', q1, q2, q3, q4⟩ | ⟨id', n', cap', n2, z', cs', q1, q2, q3, q4⟩
    · exact H.al b o e
    · exact (H.blk_lt q2).2
    · exact (H.tok_lt q2).2

theorem Le.frz {g0 : Gh} {w0 : World} (hle : Le g0 w0 g w) (hb : ∀ id b, g0.blk id = some b → id < lo) (ht : ∀ id p, g0.tok id = some p → id < lo) : Le g0 w0 (g.frz lo h) w where
  blk id b e := by simp only [Gh.frz, hb id b e, if_true]; exact hle.blk id b e
  tok k b l c e := by
    obtain ⟨b', l', c', e1, e2⟩ := hle.tok k b l c e
    exact ⟨b', l', c', by simp only [Gh.frz, ht k _ e, if_true]; exact e1, e2⟩
  fz b o e := ⟨.inl (hle.fz b o e).1, (hle.fz b o e).2⟩
  own b ho hlt := by
    refine hle.own b ?_ hlt
    rcases ho with ⟨id, e⟩ | ⟨k, l, c, e⟩
    · refine .inl ⟨id, ?_⟩
      simp only [Gh.frz] at e
      split at e
      · exact e
      · cases e
    · refine .inr ⟨k, l, c, ?_⟩
      simp only [Gh.frz] at e
      split at e
      · exact e
      · cases e
  fzn b o e hlt := by
    rcases e with e | ⟨id, cs, q1, q2, q3, q4⟩ | ⟨id', n', cap', n2, z', cs', q1, q2, q3, q4⟩
    · exact hle.fzn b o e hlt
    · exact .inr (hle.own b (.inl ⟨id, q2⟩) hlt)
    · exact .inr (hle.own b (.inr ⟨id', n', cap', q2⟩) hlt)
  kept := hle.kept
  size := hle.size
  tape := hle.tape
  os := hle.os
  output := hle.output
  sz := hle.sz
  oth := hle.oth

mutual
theorem flat_rep {g' : Gh} {w' : World} : ∀ (v : V), v.flat = true → ∀ x, Rep g w x v → Rep g' w' x v
  | .c y, _, x, hx => by rw [hx.of_c]; exact .c _
  | .agg cs, hv, x, hx => by
    simp only [V.flat] at hv
    obtain ⟨xs, rfl, hn, h1, h2⟩ := hx.of_agg
    exact .agg xs _ hn h1 fun i hi hj => flats_rep cs hv i hj _ (h2 i hi hj)
  | .tup cs, hv, x, hx => by
    simp only [V.flat] at hv
    obtain ⟨xs, rfl, hn, h2⟩ := hx.of_tup
    exact .tup xs _ hn fun i hi hj => flats_rep cs hv i hj _ (h2 i hi hj)
  | .sl _ _, hv, _, _ => by simp [V.flat] at hv
  | .ptr _ _, hv, _, _ => by simp [V.flat] at hv
  | .ref _ _, hv, _, _ => by simp [V.flat] at hv
  | .clo _ _, hv, _, _ => by simp [V.flat] at hv
  | .row _ _ _ _, hv, _, _ => by simp [V.flat] at hv
  | .buf _ _, hv, _, _ => by simp [V.flat] at hv
  | .top, hv, _, _ => by simp [V.flat] at hv
  | .fmp _ _, hv, _, _ => by simp [V.flat] at hv
  | .mref _, hv, _, _ => by simp [V.flat] at hv
  | .yld _ _ _ _, hv, _, _ => by simp [V.flat] at hv
theorem flats_rep {g' : Gh} {w' : World} : ∀ (vs : List V), V.flatl vs = true → ∀ i (hi : i < vs.length), ∀ x, Rep g w x vs[i] → Rep g' w' x vs[i]
  | [], _, i, hi, _, _ => absurd hi (by simp)
  | v :: vs, hv, i, hi, x, hx => by
    simp only [V.flatl, Bool.and_eq_true] at hv
    cases i with
    | zero => exact flat_rep v hv.1 x hx
    | succ i => exact flats_rep vs hv.2 i (by simpa using hi) x hx
end

theorem mapO_le {f f' : V → Option V} (hf : ∀ v v', f v = some v' → f' v = some v') : ∀ (us us' : List V), mapO f us = some us' → mapO f' us = some us'
  | [], _, e => e
  | u :: us, us', e => by
    simp only [mapO] at e ⊢
    split at e
    · rename_i u1 us1 h1 h2
      rw [hf _ _ h1, mapO_le hf _ _ h2]
      exact e
    · cases e
mutual
theorem snapV_le {h2 : List O} (hh : CellsLe h h2) {f f' : V → Option V} (hf : ∀ v v', f v = some v' → f' v = some v') : ∀ (v v' : V), snapV lo f h v = some v' → snapV lo f' h2 v = some v'
  | .c x, v', e => e
  | .agg cs, v', e => by
    simp only [snapV, Option.map_eq_some_iff] at e ⊢
    obtain ⟨cs', e, rfl⟩ := e
    exact ⟨cs', snapL_le hh hf cs cs' e, rfl⟩
  | .tup cs, v', e => by
    simp only [snapV, Option.map_eq_some_iff] at e ⊢
    obtain ⟨cs', e, rfl⟩ := e
    exact ⟨cs', snapL_le hh hf cs cs' e, rfl⟩
  | .sl cs _, v', e => by
    simp only [snapV, Option.map_eq_some_iff] at e ⊢
    obtain ⟨cs', e, rfl⟩ := e
    exact ⟨cs', snapL_le hh hf cs cs' e, rfl⟩
  | .ptr cs o, v', e => by
    simp only [snapV, Option.map_eq_some_iff] at e ⊢
    obtain ⟨cs', e, rfl⟩ := e
    exact ⟨cs', snapL_le hh hf cs cs' e, rfl⟩
  | .ref id o, v', e => by simpa only [snapV] using e
  | .clo fn cs, v', e => by
    simp only [snapV, Option.map_eq_some_iff] at e ⊢
    obtain ⟨cs', e, rfl⟩ := e
    exact ⟨cs', snapL_le hh hf cs cs' e, rfl⟩
  | .row id off n z, v', e => by
    simp only [snapV] at e ⊢
    split at e
    · rename_i hid; rw [if_pos hid]; exact e
    · rename_i hid
      rw [if_neg hid]
      split at e
      · rename_i cs hcs
        rw [hh _ (O.cells _) trivial hcs]
        simp only
        split at e
        · rename_i us hus
          simp only [hus, Option.map_eq_some_iff] at e ⊢
          obtain ⟨us', e, rfl⟩ := e
          exact ⟨us', mapO_le hf _ _ e, rfl⟩
        · cases e
      · cases e
  | .buf id n, v', e => by simpa only [snapV] using e
  | .tref k n o, v', e => by simpa only [snapV] using e
  | .tsl k n z, v', e => by
    simp only [snapV] at e ⊢
    split at e
    · rename_i hid; rw [if_pos hid]; exact e
    · rename_i hid
      rw [if_neg hid]
      split at e
      · rename_i n' z' cs hcs
        rw [hh _ (O.tokc _ _ _) trivial hcs]
        simp only
        split at e
        · rename_i hnz
          rw [if_pos hnz]
          split at e
          · rename_i us hus
            simp only [hus, Option.map_eq_some_iff] at e ⊢
            obtain ⟨us', e, rfl⟩ := e
            exact ⟨us', mapO_le hf _ _ e, rfl⟩
          · cases e
        · cases e
      · cases e
  | .top, v', e => e
  | .fmp ks vs, v', e => by
    simp only [snapV, Option.map_eq_some_iff] at e ⊢
    obtain ⟨cs', e, rfl⟩ := e
    exact ⟨cs', snapL_le hh hf vs cs' e, rfl⟩
  | .mref id, v', e => by simpa only [snapV] using e
  | .yld k y m caps, v', e => by
    simp only [snapV] at e ⊢
    split at e
    · rename_i hid
      rw [if_pos hid]
      simp only [Option.map_eq_some_iff] at e ⊢
      obtain ⟨cs', e, rfl⟩ := e
      exact ⟨cs', snapL_le hh hf caps cs' e, rfl⟩
    · cases e
theorem snapL_le {h2 : List O} (hh : CellsLe h h2) {f f' : V → Option V} (hf : ∀ v v', f v = some v' → f' v = some v') : ∀ (vs vs' : List V), snapL lo f h vs = some vs' → snapL lo f' h2 vs = some vs'
  | [], _, e => e
  | v :: vs, vs', e => by
    simp only [snapL] at e ⊢
    split at e
    · rename_i u us h1 h2
      rw [snapV_le hh hf _ _ h1, snapL_le hh hf _ _ h2]
      exact e
    · cases e
end
theorem snap_le {h2 : List O} (hh : CellsLe h h2) : ∀ (k : Nat) (v v' : V), snap lo h k v = some v' → snap lo h2 k v = some v'
  | 0, _, _, e => by simp [snap] at e
  | k + 1, v, v', e => snapV_le hh (snap_le hh k) v v' e
end
end Go.Proofs.YtkiliokeanmagaaDoor.Ab
