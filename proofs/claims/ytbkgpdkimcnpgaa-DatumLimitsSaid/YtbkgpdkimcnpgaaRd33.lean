/- Data that lie in rows: where they are, how they are read. -/
import Derived.Test.YtbkgpdkimcnpgaaRd30
namespace Go.Proofs.Ytbkgpdkimcnpgaa.Ab
open Go
set_option linter.unusedVariables false
set_option linter.unusedSimpArgs false
set_option maxRecDepth 4000
set_option maxHeartbeats 1000000

def av (k n : Int) (t : ByteArray) (x : V) : V := .agg [.c (.int .i64 k), .c (.int .i64 n), .c (.string t), x]
theorem av_cells (k n : Int) (t : ByteArray) (x : V) : (av k n t x).cells.length = 4 := rfl
mutual
/-- A datum in rows of its own, all of them objects from lo to hi. -/
def RdR (H : List O) : D → Nat → Nat → V → Prop
  | .mk k n t l, lo, hi, v => ∃ x, v = av k n t x ∧ ((l = [] ∧ x = .sl [] .any) ∨
      ∃ id us, l ≠ [] ∧ x = .row id 0 l.length (some 4) ∧ lo ≤ id ∧ id < hi ∧ H[id]? = some (.cells (flats us)) ∧ RdRs H l (id + 1) hi us)
def RdRs (H : List O) : List D → Nat → Nat → List V → Prop
  | [], lo, hi, us => us = []
  | d :: l, lo, hi, us => ∃ u us' mid, us = u :: us' ∧ lo ≤ mid ∧ mid ≤ hi ∧ RdR H d lo mid u ∧ RdRs H l mid hi us'
end
mutual
theorem RdR.agree {H H' : List O} : ∀ (d : D) (lo hi lo' hi' : Nat) (v : V), lo' ≤ lo → hi ≤ hi' → (∀ i, lo ≤ i → i < hi → H'[i]? = H[i]?) → RdR H d lo hi v → RdR H' d lo' hi' v
  | .mk k n t l, lo, hi, lo', hi', v, h1, h2, hH, h => by
    simp only [RdR] at h ⊢
    obtain ⟨x, hv, hx⟩ := h
    refine ⟨x, hv, ?_⟩
    rcases hx with hx | ⟨id, us, hl, hx, a1, a2, a3, a4⟩
    · exact .inl hx
    · exact .inr ⟨id, us, hl, hx, by omega, by omega, by rw [hH id a1 a2]; exact a3, RdRs.agree l _ _ _ _ us (by omega) h2 (fun i j1 j2 => hH i (by omega) j2) a4⟩
theorem RdRs.agree {H H' : List O} : ∀ (l : List D) (lo hi lo' hi' : Nat) (us : List V), lo' ≤ lo → hi ≤ hi' → (∀ i, lo ≤ i → i < hi → H'[i]? = H[i]?) → RdRs H l lo hi us → RdRs H' l lo' hi' us
  | [], lo, hi, lo', hi', us, h1, h2, hH, h => by simp only [RdRs] at h ⊢; exact h
  | d :: l, lo, hi, lo', hi', us, h1, h2, hH, h => by
    simp only [RdRs] at h ⊢
    obtain ⟨u, us', mid, e, a1, a2, a3, a4⟩ := h
    exact ⟨u, us', mid, e, by omega, by omega, RdR.agree d _ _ _ _ u h1 (Nat.le_refl _) (fun i j1 j2 => hH i j1 (by omega)) a3, RdRs.agree l _ _ _ _ us' (Nat.le_refl _) h2 (fun i j1 j2 => hH i (by omega) j2) a4⟩
end
theorem RdR.len {H : List O} : ∀ (d : D) (lo hi : Nat) (v : V), RdR H d lo hi v → v.cells.length = 4
  | .mk k n t l, lo, hi, v, h => by
    simp only [RdR] at h
    obtain ⟨x, rfl, _⟩ := h
    rfl
theorem RdRs.len {H : List O} : ∀ (l : List D) (lo hi : Nat) (us : List V), RdRs H l lo hi us → us.length = l.length
  | [], lo, hi, us, h => by simp only [RdRs] at h; rw [h]; rfl
  | d :: l, lo, hi, us, h => by
    simp only [RdRs] at h
    obtain ⟨u, us', mid, rfl, _, _, _, h2⟩ := h
    simp [RdRs.len l _ _ us' h2]
theorem RdRs.cells {H : List O} : ∀ (l : List D) (lo hi : Nat) (us : List V), RdRs H l lo hi us → ∀ u ∈ us, u.cells.length = 4
  | [], lo, hi, us, h, u, hu => by simp only [RdRs] at h; rw [h] at hu; simp at hu
  | d :: l, lo, hi, us, h, u, hu => by
    simp only [RdRs] at h
    obtain ⟨u', us', mid, rfl, _, _, h1, h2⟩ := h
    rcases List.mem_cons.1 hu with rfl | hu
    · exact RdR.len d _ _ _ h1
    · exact RdRs.cells l _ _ us' h2 u hu
/-- One more behind. -/
theorem RdRs.snoc {H : List O} {d : D} : ∀ (l : List D) (lo hi hi' : Nat) (us : List V) (u : V), lo ≤ hi → hi ≤ hi' → RdRs H l lo hi us → RdR H d hi hi' u → RdRs H (l ++ [d]) lo hi' (us ++ [u])
  | [], lo, hi, hi', us, u, h0, h1, h, hd => by
    simp only [RdRs] at h
    subst h
    simp only [List.nil_append, RdRs]
    exact ⟨u, [], hi', rfl, by omega, Nat.le_refl _, RdR.agree d _ _ _ _ u h0 (Nat.le_refl _) (fun _ _ _ => rfl) hd, rfl⟩
  | d' :: l, lo, hi, hi', us, u, h0, h1, h, hd => by
    simp only [RdRs] at h
    obtain ⟨u', us', mid, rfl, a1, a2, a3, a4⟩ := h
    simp only [List.cons_append, RdRs]
    exact ⟨u', us' ++ [u], mid, rfl, a1, by omega, a3, RdRs.snoc l _ _ _ us' u a2 h1 a4 hd⟩
/-- The part at one place. -/
theorem RdRs.at {H : List O} : ∀ (l : List D) (lo hi : Nat) (us : List V), RdRs H l lo hi us → ∀ j (hj : j < l.length) (hj' : j < us.length), ∃ a b, lo ≤ a ∧ a ≤ b ∧ b ≤ hi ∧ RdR H l[j] a b us[j] ∧ RdRs H (l.take j) lo a (us.take j) ∧ RdRs H (l.drop (j + 1)) b hi (us.drop (j + 1))
  | [], lo, hi, us, h, j, hj, hj' => by simp at hj
  | d :: l, lo, hi, us, h, j, hj, hj' => by
    simp only [RdRs] at h
    obtain ⟨u, us', mid, rfl, a1, a2, a3, a4⟩ := h
    cases j with
    | zero => exact ⟨lo, mid, Nat.le_refl _, a1, a2, a3, by simp [RdRs], by simpa using a4⟩
    | succ j =>
      obtain ⟨a, b, b1, b2, b3, b4, b5, b6⟩ := RdRs.at l _ _ us' a4 j (by simpa using hj) (by simpa using hj')
      refine ⟨a, b, by omega, b2, b3, by simpa using b4, ?_, by simpa using b6⟩
      simp only [List.take_succ_cons, RdRs]
      exact ⟨u, us'.take j, mid, rfl, a1, b1, a3, b5⟩

theorem shift_av (k n : Int) (t : ByteArray) (x : V) (m : Nat) : (av k n t x).shift m = av k n t (x.shift m) := by simp [av, V.shift, V.shifts]
mutual
theorem RdR.shift {G H : List O} : ∀ (d : D) (lo hi : Nat) (v : V), RdR H d lo hi v → RdR (G ++ H.map (O.shift G.length)) d (lo + G.length) (hi + G.length) (v.shift G.length)
  | .mk k n t l, lo, hi, v, h => by
    simp only [RdR] at h ⊢
    obtain ⟨x, rfl, hx⟩ := h
    refine ⟨_, shift_av k n t x _, ?_⟩
    rcases hx with ⟨rfl, rfl⟩ | ⟨id, us, hl, rfl, a1, a2, a3, a4⟩
    · exact .inl ⟨rfl, by simp [V.shift, V.shifts, SI.shift]⟩
    · refine .inr ⟨id + G.length, us.map (V.shift G.length), hl, by simp [V.shift], by omega, by omega, ?_, ?_⟩
      · rw [List.getElem?_append_right (by omega)]
        rw [Nat.add_sub_cancel, List.getElem?_map, a3]
        simp only [Option.map_some, O.shift, shifts_map]
        rw [← shift_flats, shifts_map]
      · have := RdRs.shift (G := G) l _ _ us a4
        rwa [show id + 1 + G.length = id + G.length + 1 by omega] at this
theorem RdRs.shift {G H : List O} : ∀ (l : List D) (lo hi : Nat) (us : List V), RdRs H l lo hi us → RdRs (G ++ H.map (O.shift G.length)) l (lo + G.length) (hi + G.length) (us.map (V.shift G.length))
  | [], lo, hi, us, h => by simp only [RdRs] at h ⊢; rw [h]; rfl
  | d :: l, lo, hi, us, h => by
    simp only [RdRs] at h ⊢
    obtain ⟨u, us', mid, rfl, a1, a2, a3, a4⟩ := h
    exact ⟨u.shift G.length, us'.map (V.shift G.length), mid + G.length, rfl, by omega, by omega, RdR.shift d _ _ u a3, RdRs.shift l _ _ us' a4⟩
end

/- Reading alone. -/
def RowAt (H : List O) (us : List V) (x : V) : Prop := x = .sl us .any ∨ (us ≠ [] ∧ ∃ id, x = .row id 0 us.length (some 4) ∧ H[id]? = some (.cells (flats us)))
mutual
def Rd (H : List O) : D → V → Prop
  | .mk k n t l, v => ∃ x us, v = av k n t x ∧ RowAt H us x ∧ Rds H l us
def Rds (H : List O) : List D → List V → Prop
  | [], us => us = []
  | d :: l, us => ∃ u us', us = u :: us' ∧ Rd H d u ∧ Rds H l us'
end
theorem Rd.cells {H : List O} : ∀ (d : D) (v : V), Rd H d v → ∃ a b c e, v = .agg [a, b, c, e]
  | .mk k n t l, v, h => by
    simp only [Rd] at h
    obtain ⟨x, us, rfl, _⟩ := h
    exact ⟨_, _, _, _, rfl⟩
theorem Rd.okc {H : List O} (d : D) (v : V) (h : Rd H d v) : okc v = true := by obtain ⟨a, b, c, e, rfl⟩ := h.cells; rfl
theorem Rd.len4 {H : List O} (d : D) (v : V) (h : Rd H d v) : v.cells.length = 4 := by obtain ⟨a, b, c, e, rfl⟩ := h.cells; rfl
theorem Rd.vw2 {H : List O} : ∀ (d : D) (v : V), Rd H d v → v.vw2 = v ∧ v.vw = v
  | .mk k n t l, v, h => by
    simp only [Rd] at h
    obtain ⟨x, us, rfl, hx, _⟩ := h
    rcases hx with rfl | ⟨_, id, rfl, _⟩ <;> exact ⟨rfl, rfl⟩
theorem Rds.length {H : List O} : ∀ (l : List D) (us : List V), Rds H l us → us.length = l.length
  | [], us, h => by simp only [Rds] at h; rw [h]; rfl
  | d :: l, us, h => by
    simp only [Rds] at h
    obtain ⟨u, us', rfl, h1, h2⟩ := h
    simp [Rds.length l us' h2]
theorem Rds.mem4 {H : List O} : ∀ (l : List D) (us : List V), Rds H l us → ∀ u ∈ us, u.cells.length = 4
  | [], us, h, u, hu => by simp only [Rds] at h; rw [h] at hu; simp at hu
  | d :: l, us, h, u, hu => by
    simp only [Rds] at h
    obtain ⟨u', us', rfl, h1, h2⟩ := h
    rcases List.mem_cons.1 hu with rfl | hu
    · exact h1.len4
    · exact Rds.mem4 l us' h2 u hu
mutual
theorem Rd.of {H H' : List O} : ∀ (d : D) (lo hi : Nat) (v : V), (∀ i, lo ≤ i → i < hi → H'[i]? = H[i]?) → RdR H d lo hi v → Rd H' d v
  | .mk k n t l, lo, hi, v, hH, h => by
    simp only [RdR] at h
    simp only [Rd]
    obtain ⟨x, rfl, hx⟩ := h
    rcases hx with ⟨rfl, rfl⟩ | ⟨id, us, hl, rfl, a1, a2, a3, a4⟩
    · exact ⟨_, [], rfl, .inl rfl, by simp [Rds]⟩
    · have hlen := RdRs.len _ _ _ _ a4
      refine ⟨_, us, rfl, .inr ⟨?_, id, by rw [hlen], by rw [hH id a1 a2]; exact a3⟩, Rds.of l _ _ us (fun i j1 j2 => hH i (by omega) j2) a4⟩
      rintro rfl
      exact hl (List.length_eq_zero_iff.1 (by simpa using hlen.symm))
theorem Rds.of {H H' : List O} : ∀ (l : List D) (lo hi : Nat) (us : List V), (∀ i, lo ≤ i → i < hi → H'[i]? = H[i]?) → RdRs H l lo hi us → Rds H' l us
  | [], lo, hi, us, hH, h => by simp only [RdRs] at h; simp only [Rds]; exact h
  | d :: l, lo, hi, us, hH, h => by
    simp only [RdRs] at h
    simp only [Rds]
    obtain ⟨u, us', mid, rfl, a1, a2, a3, a4⟩ := h
    exact ⟨u, us', rfl, Rd.of d _ _ u (fun i j1 j2 => hH i j1 (by omega)) a3, Rds.of l _ _ us' (fun i j1 j2 => hH i (by omega) j2) a4⟩
end
mutual
theorem Rd.plain (H : List O) : ∀ d : D, Rd H d d.v
  | .mk k n t l => by
    simp only [Rd, D.v]
    exact ⟨_, D.vs l, rfl, .inl rfl, Rds.plain H l⟩
theorem Rds.plain (H : List O) : ∀ l : List D, Rds H l (D.vs l)
  | [] => by simp [Rds, D.vs]
  | d :: l => by
    simp only [Rds, D.vs]
    exact ⟨d.v, D.vs l, rfl, Rd.plain H d, Rds.plain H l⟩
end
mutual
/-- What has no rows is the tree. -/
theorem Rd.tree {H : List O} : ∀ (d : D) (v : V), Rd H d v → v.low 0 = true → v = d.v
  | .mk k n t l, v, h, hl => by
    simp only [Rd] at h
    obtain ⟨x, us, rfl, hx, hu⟩ := h
    rcases hx with rfl | ⟨hne, id, rfl, _⟩
    · simp only [av, V.low, V.lows, Bool.and_eq_true] at hl
      rw [Rds.tree l us hu hl.2.2.2.1.1]
      rfl
    · simp only [av, V.low, V.lows, Bool.and_eq_true, Bool.or_eq_true, decide_eq_true_eq] at hl
      have := hl.2.2.2.1
      simp at this
      exact absurd this hne
theorem Rds.tree {H : List O} : ∀ (l : List D) (us : List V), Rds H l us → V.lows 0 us = true → us = D.vs l
  | [], us, h, hl => by simp only [Rds] at h; rw [h]; rfl
  | d :: l, us, h, hl => by
    simp only [Rds] at h
    obtain ⟨u, us', rfl, h1, h2⟩ := h
    simp only [V.lows, Bool.and_eq_true] at hl
    rw [Rd.tree d u h1 hl.1, Rds.tree l us' h2 hl.2]
    rfl
end
theorem elems4 : ∀ us : List V, (∀ u ∈ us, ∃ a b c e, u = .agg [a, b, c, e]) → elems (some 4) us.length (flats us) = some us
  | [], _ => rfl
  | u :: us, h => by
    obtain ⟨a, b, c, e, rfl⟩ := h u (by simp)
    have ih := elems4 us fun u hu => h u (by simp [hu])
    have h1 : flats (V.agg [a, b, c, e] :: us) = a :: b :: c :: e :: flats us := by simp [flats, V.cells]
    simp only [List.length_cons, elems, h1, zc, List.drop_succ_cons, List.drop_zero, ih]
    simp [rdV]
theorem Rds.aggs {H : List O} : ∀ (l : List D) (us : List V), Rds H l us → ∀ u ∈ us, ∃ a b c e, u = .agg [a, b, c, e]
  | [], us, h, u, hu => by simp only [Rds] at h; rw [h] at hu; simp at hu
  | d :: l, us, h, u, hu => by
    simp only [Rds] at h
    obtain ⟨u', us', rfl, h1, h2⟩ := h
    rcases List.mem_cons.1 hu with rfl | hu
    · exact h1.cells
    · exact Rds.aggs l us' h2 u hu
mutual
/-- A snapshot is the tree. -/
theorem Rd.snapV {H : List O} : ∀ (d : D) (n : Nat) (v : V), d.dp ≤ n + 1 → Rd H d v → snapV 0 (snap 0 H n) H v = some d.v
  | .mk k m t l, n, v, hn, h => by
    simp only [Rd] at h
    obtain ⟨x, us, rfl, hx, hu⟩ := h
    simp only [D.dp] at hn
    have hx' : Ab.snapV 0 (snap 0 H n) H x = some (.sl (D.vs l) .any) := by
      rcases hx with rfl | ⟨hne, id, rfl, hid⟩
      · simp only [Ab.snapV, Rds.snapL l n us (by omega) hu, Option.map_some]
      · have hlen := Rds.length l us hu
        have hd : 1 ≤ D.dps l := by
          cases l with
          | nil => simp at hlen; exact absurd hlen hne
          | cons d l => have := D.dp_pos d; simp only [D.dps]; omega
        obtain ⟨n, rfl⟩ : ∃ n', n = n' + 1 := ⟨n - 1, by omega⟩
        simp only [Ab.snapV, Nat.not_lt_zero, if_false, hid, List.drop_zero, elems4 us (Rds.aggs l us hu), Rds.mapO l n us (by omega) hu, Option.map_some]
    simp only [av, Ab.snapV, snapL, hx', Option.map_some, D.v]
theorem Rds.snapL {H : List O} : ∀ (l : List D) (n : Nat) (us : List V), D.dps l ≤ n + 1 → Rds H l us → snapL 0 (snap 0 H n) H us = some (D.vs l)
  | [], n, us, hn, h => by simp only [Rds] at h; rw [h]; rfl
  | d :: l, n, us, hn, h => by
    simp only [Rds] at h
    obtain ⟨u, us', rfl, h1, h2⟩ := h
    simp only [D.dps] at hn
    simp only [Ab.snapL, Rd.snapV d n u (by omega) h1, Rds.snapL l n us' (by omega) h2, D.vs]
theorem Rds.mapO {H : List O} : ∀ (l : List D) (n : Nat) (us : List V), D.dps l ≤ n + 1 → Rds H l us → mapO (snap 0 H (n + 1)) us = some (D.vs l)
  | [], n, us, hn, h => by simp only [Rds] at h; rw [h]; rfl
  | d :: l, n, us, hn, h => by
    simp only [Rds] at h
    obtain ⟨u, us', rfl, h1, h2⟩ := h
    simp only [D.dps] at hn
    have h3 : Ab.snap 0 H (n + 1) u = some d.v := Rd.snapV d n u (by omega) h1
    simp only [Ab.mapO, h3, Rds.mapO l n us' (by omega) h2, D.vs]
end
theorem Rd.snap {H : List O} (d : D) (n : Nat) (v : V) (hn : d.dp ≤ n) (h : Rd H d v) : snap 0 H n v = some d.v := by
  obtain ⟨n, rfl⟩ : ∃ n', n = n' + 1 := ⟨n - 1, by have := D.dp_pos d; omega⟩
  exact Rd.snapV d n v (by omega) h
mutual
theorem RdR.low {H : List O} : ∀ (d : D) (lo hi : Nat) (v : V), RdR H d lo hi v → V.low hi v = true
  | .mk k n t l, lo, hi, v, h => by
    simp only [RdR] at h
    obtain ⟨x, rfl, ⟨_, rfl⟩ | ⟨id, us, hl, rfl, a1, a2, a3, a4⟩⟩ := h
    · simp [av, V.low, V.lows, SI.low]
    · simp [av, V.low, V.lows, a2]
theorem RdRs.lows {H : List O} : ∀ (l : List D) (lo hi : Nat) (us : List V), RdRs H l lo hi us → V.lows hi us = true
  | [], lo, hi, us, h => by simp only [RdRs] at h; rw [h]; rfl
  | d :: l, lo, hi, us, h => by
    simp only [RdRs] at h
    obtain ⟨u, us', mid, rfl, a1, a2, a3, a4⟩ := h
    simp only [V.lows, Bool.and_eq_true]
    exact ⟨low_mono a2 _ (RdR.low d _ _ u a3), RdRs.lows l _ _ us' a4⟩
end
theorem lows_append {n : Nat} {a b : List V} (ha : V.lows n a = true) (hb : V.lows n b = true) : V.lows n (a ++ b) = true := lows_of fun v hv => by
  rcases List.mem_append.1 hv with h | h
  · exact lows_mem ha v h
  · exact lows_mem hb v h
theorem lows_flats {n : Nat} {us : List V} (h : V.lows n us = true) : V.lows n (flats us) = true := lows_of fun v hv => low_flats h v hv
mutual
theorem V.low_shift {n k : Nat} : ∀ v : V, V.low n v = true → V.low (n + k) (v.shift k) = true
  | .c _, _ => rfl
  | .agg cs, h => by simp only [V.shift, V.low] at h ⊢; exact V.lows_shift cs h
  | .tup cs, h => by simp only [V.shift, V.low] at h ⊢; exact V.lows_shift cs h
  | .sl us i, h => by
    simp only [V.shift, V.low, Bool.and_eq_true] at h ⊢
    refine ⟨V.lows_shift us h.1, ?_⟩
    cases i <;> simp_all [SI.shift, SI.low]
  | .ptr cs o, h => by simp only [V.shift, V.low] at h ⊢; exact V.lows_shift cs h
  | .ref id o, h => by simp only [V.shift, V.low, decide_eq_true_eq] at h ⊢; omega
  | .clo f cs, h => by simp only [V.shift, V.low] at h ⊢; exact V.lows_shift cs h
  | .row id off m z, h => by
    simp only [V.shift, V.low, Bool.or_eq_true, decide_eq_true_eq] at h ⊢
    rcases h with h | h
    · exact .inl (by omega)
    · exact .inr h
  | .buf id m, h => by simp only [V.shift, V.low, decide_eq_true_eq] at h ⊢; omega
  | .tsl t _ _, h => by simp only [V.shift, V.low, decide_eq_true_eq] at h ⊢; omega
  | .tref t _ _, h => by simp only [V.shift, V.low, decide_eq_true_eq] at h ⊢; omega
  | .top, _ => rfl
theorem V.lows_shift {n k : Nat} : ∀ vs : List V, V.lows n vs = true → V.lows (n + k) (V.shifts k vs) = true
  | [], _ => rfl
  | v :: vs, h => by
    simp only [V.lows, V.shifts, Bool.and_eq_true] at h ⊢
    exact ⟨V.low_shift v h.1, V.lows_shift vs h.2⟩
end
theorem olow_shift {n k : Nat} {H : List O} (h : H.all (O.low n) = true) : (H.map (O.shift k)).all (O.low (n + k)) = true := by
  rw [List.all_eq_true] at h ⊢
  intro o ho
  obtain ⟨o, ho', rfl⟩ := List.mem_map.1 ho
  have := h o ho'
  cases o with
  | cells cs => simp only [O.shift, O.low] at this ⊢; exact V.lows_shift cs this
  | tokc _ _ cs => simp only [O.shift, O.low] at this ⊢; exact V.lows_shift cs this
  | _ => rfl
end Go.Proofs.Ytbkgpdkimcnpgaa.Ab
