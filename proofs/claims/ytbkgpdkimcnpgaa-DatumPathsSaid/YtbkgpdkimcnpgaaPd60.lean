/- Paths: the closure that keeps the paths. -/
import Derived.Test.YtbkgpdkimcnpgaaPd30
namespace Go.Proofs.Ytbkgpdkimcnpgaa.Ab
open Go
set_option linter.unusedVariables false
set_option linter.unusedSimpArgs false
set_option maxRecDepth 4000
set_option maxHeartbeats 1000000

theorem freeSlot_of {H : List O} {k b d : Nat} (hk : H[k]? = some .free) (hlt : ∀ j, j < k → H[j]? ≠ some .free) (hb : k < b) : freeSlot H b d = k := by
  unfold freeSlot
  have : (List.range b).find? (fun i => isFree H[i]?) = some k := by
    rw [List.find?_range_eq_some]
    refine ⟨by rw [hk]; rfl, by simpa using hb, fun j hj => ?_⟩
    have := hlt j hj
    cases e : isFree H[j]? with
    | true => exact absurd (isFree_iff.1 e) this
    | false => rfl
  rw [this]
  rfl
theorem get_at2 (h r : List O) (x y z : O) : (h ++ x :: y :: z :: r)[h.length + 2]? = some z := by
  rw [List.getElem?_append_right (by omega)]; simp
theorem get_at3 (h r : List O) (x y z u : O) : (h ++ x :: y :: z :: u :: r)[h.length + 3]? = some u := by
  rw [List.getElem?_append_right (by omega)]; simp
theorem get_at21 (h r : List O) (x y z u : O) : (h ++ x :: y :: z :: u :: r)[h.length + 2 + 1]? = some u := get_at3 h r x y z u

/-- One visit more. -/
theorem aux57 {cf : CallF} {n : Nat} {x : D} {ps : List Int} {H H1 H2 H3 : List O} {o q : Nat} {vs : List V} {rv : V} (hrv : rv.vw2 = rv) (hrc : rv.cells = [rv]) (hok : okc rv = true)
    (a1 : ∀ T, (H ++ T)[o]? = some (.cells [.sl vs (.tok q)]))
    (a2 : ∀ z T, cf 56 [.row H.length 0 ps.length none] (H ++ pcell ps :: z :: T) = some (rv, H1 ++ pcell ps :: z :: T)) (l1 : H1.length = H.length)
    (a3 : ∀ T, (H1 ++ T)[q]? = some (.tok vs.length 1)) (a4 : ∀ T, (H1 ++ T).set q (.tok (vs.length + 1) 1) = H2 ++ T)
    (a5 : ∀ T, (H2 ++ T)[o]? = some (.cells [.sl vs (.tok q)])) (a6 : ∀ T, (H2 ++ T).set o (.cells [.sl (vs ++ [rv]) (.tok q)]) = H3 ++ T) (l3 : H3.length = H.length)
    (s1 : (vs.length + 1) * 24 ≤ 140737488355328) (s2 : vs.length + 1 ≤ 140737488355328) (z1 : hz 1 vs = true) :
    wpk cf n x57.body [] (Fin (fun r s => (resOf r).vw = .c (.bool true) ∧ s.take (H ++ [pcell ps]).length = H3 ++ [pcell ps]) x57) ⟨arg0 ([x.v, .row H.length 0 ps.length none, .ref o 0].map V.vw2), H ++ [pcell ps], (H ++ [pcell ps]).length, 0⟩ := by
  have z2 : hz 1 [rv] = true := by simp [hz, hrc]
  have t3 : ∀ T, (H3 ++ pcell ps :: T).take (H.length + 1) = H3 ++ [pcell ps] := fun T => by rw [← l3, List.take_append]; simp [List.take_of_length_le (Nat.le_succ _)]
  simp -implicitDefEqProofs [x57_w, x57_r, x57r1_w, x57r2_w, x57r3_w, D.vw2, D.okc, D.rd, D.cells_len, a1, a2, a3, a4, a5, a6, l1, l3, s1, s2, z1, z2, hrv, hrc, hok, get_at0, get_at1, get_at2, get_at3, get_at21, set_at0, set_at1, t3]
/-- The first visit. -/
theorem aux57n {cf : CallF} {n : Nat} {x : D} {ps : List Int} {H H2 H3 : List O} {o q : Nat} {rv : V} (hrv : rv.vw2 = rv) (hrc : rv.cells = [rv]) (hok : okc rv = true)
    (a1 : ∀ T, (H ++ T)[o]? = some (.cells [.sl [] .nil]))
    (a2 : ∀ z T, cf 56 [.row H.length 0 ps.length none] (H ++ pcell ps :: z :: T) = some (rv, H ++ pcell ps :: z :: T))
    (a3 : ∀ T d, freeSlot (H ++ T) (H.length + 1) d = q) (a4 : ∀ T, (H ++ T).set q (.tok 1 1) = H2 ++ T)
    (a5 : ∀ T, (H2 ++ T)[o]? = some (.cells [.sl [] .nil])) (a6 : ∀ T, (H2 ++ T).set o (.cells [.sl [rv] (.tok q)]) = H3 ++ T) (l3 : H3.length = H.length) :
    wpk cf n x57.body [] (Fin (fun r s => (resOf r).vw = .c (.bool true) ∧ s.take (H ++ [pcell ps]).length = H3 ++ [pcell ps]) x57) ⟨arg0 ([x.v, .row H.length 0 ps.length none, .ref o 0].map V.vw2), H ++ [pcell ps], (H ++ [pcell ps]).length, 0⟩ := by
  have z2 : hz 1 [rv] = true := by simp [hz, hrc]
  have t3 : ∀ T, (H3 ++ pcell ps :: T).take (H.length + 1) = H3 ++ [pcell ps] := fun T => by rw [← l3, List.take_append]; simp [List.take_of_length_le (Nat.le_succ _)]
  have g : ∀ a b c d : O, (H ++ [a, b, c, d])[H.length + 2 + 1]? = some d := fun a b c d => get_at3 H [] a b c d
  simp -implicitDefEqProofs [grow_nilW _ _ _ _ _ _ _ _ (g _ _ _ _), x57_w, x57_r, x57r1_w, x57r2_w, x57r3_w, D.vw2, D.okc, D.rd, D.cells_len, a1, a2, a3, a4, a5, a6, l3, z2, hrv, hrc, hok, get_at0, get_at1, get_at2, get_at3, get_at21, set_at0, set_at1, t3]

theorem elems_none : ∀ cs : List V, elems none cs.length cs = some cs
  | [] => rfl
  | c :: cs => by
    have h := elems_none cs
    simp only [List.length_cons, elems, zc, List.drop_succ_cons, List.drop_zero, h]
    rfl
theorem src_pcell {id : Nat} {ps : List Int} {h : List O} (hi : h[id]? = some (pcell ps)) : srcV h (.row id 0 ps.length none) = some (ps.map I64) := by
  have := elems_none (ps.map I64)
  rw [List.length_map] at this
  simp only [srcV, hi, pcell, List.drop_zero, this]
theorem call56N {n id : Nat} {h : List O} (hi : h[id]? = some (pcell [])) : call X E (n + 1) 56 [.row id 0 0 none] h = some (.sl [] .any, h) := by
  have hE : E 56 = some (fun _ => cloneR 8) := rfl
  have hs := src_pcell hi
  simp only [List.length_nil, List.map_nil] at hs
  simp only [call, hE, cloneR, cloneE, hs]
  split <;> rfl
theorem call56P {n id k : Nat} {p : List Int} {h : List O} (hne : p ≠ []) (hp : p.length < 1099511627776) (hi : h[id]? = some (pcell p)) (hk : h[k]? = some .free) (hlt : ∀ j, j < k → h[j]? ≠ some .free) :
    call X E (n + 1) 56 [.row id 0 p.length none] h = some (.row k 0 p.length none, h.set k (pcell p)) := by
  have hE : E 56 = some (fun _ => cloneR 8) := rfl
  have hs := src_pcell hi
  have hkl : k < h.length := (List.getElem?_eq_some_iff.1 hk).1
  have hf := freeSlot_of (b := h.length) (d := h.length) hk hlt hkl
  cases p with
  | nil => exact absurd rfl hne
  | cons a p =>
    simp only [List.length_cons] at hp
    simp only [List.map_cons] at hs
    simp only [call, hE, cloneR, hf, isFree_iff.2 hk, if_true, cloneE, hs]
    rw [if_pos ⟨by simp; omega, by simp; omega, rfl, by decide⟩]
    have hg : (h ++ [O.tok 0 (zc none), O.cells (flats (I64 a :: p.map I64))])[h.length + 1]? = some (.cells (flats (I64 a :: p.map I64))) := by
      rw [List.getElem?_append_right (by omega)]; simp
    have hfl : ∀ l : List Int, flats (l.map I64) = l.map I64 := fun l => by
      induction l with
      | nil => rfl
      | cons b l ih => simp only [List.map_cons]; rw [show flats (I64 b :: l.map I64) = I64 b :: flats (l.map I64) by simp [flats, I64, V.cells], ih]
    have hfl2 := hfl (a :: p)
    simp only [List.map_cons] at hfl2
    simp only [hg]
    rw [hfl2]
    have hlow : V.lows 0 (I64 a :: p.map I64) = true := lows_I64 0 (a :: p)
    simp [hlow, pcell]

/-- The objects of Paths: the list's, the rows', those for anybody, the datum, the list. -/
def GS (n : Nat) (R : List O) (m : Nat) (a : O) (out : V) : List O := .tok n 1 :: (R ++ (List.replicate m .free ++ [a, .cells [out]]))
theorem GS_len (n : Nat) (R : List O) (m : Nat) (a : O) (out : V) : (GS n R m a out).length = R.length + m + 3 := by simp [GS]; omega
theorem GS_e (n : Nat) (R : List O) (m : Nat) (a : O) (out : V) : GS n R m a out = (.tok n 1 :: (R ++ (List.replicate m .free ++ [a]))) ++ .cells [out] :: [] := by simp [GS]
theorem GS_el (n : Nat) (R : List O) (m : Nat) (a : O) : (.tok n 1 :: (R ++ (List.replicate m .free ++ [a])) : List O).length = R.length + m + 2 := by simp; omega
theorem GS_out (n : Nat) (R : List O) (m : Nat) (a : O) (out : V) (T : List O) : (GS n R m a out ++ T)[R.length + m + 2]? = some (.cells [out]) := by
  rw [GS_e, List.append_assoc, ← GS_el n R m a]; exact get_at0 _ _ _
theorem GS_set (n : Nat) (R : List O) (m : Nat) (a : O) (out v : V) (T : List O) : (GS n R m a out ++ T).set (R.length + m + 2) (.cells [v]) = GS n R m a v ++ T := by
  rw [GS_e, List.append_assoc, ← GS_el n R m a]
  simp only [List.cons_append, List.nil_append]
  rw [← List.cons_append, set_at0]
  simp [GS]
theorem GS_tok (n k : Nat) (R : List O) (m : Nat) (a : O) (out : V) (T : List O) : (GS n R m a out ++ T).set 0 (.tok k 1) = GS k R m a out ++ T := by simp [GS]
theorem GS_free (n : Nat) (R : List O) (m : Nat) (a : O) (out : V) (T : List O) : (GS n R (m + 1) a out ++ T)[R.length + 1]? = some .free := by
  simp only [GS, List.replicate_succ, List.cons_append, List.getElem?_cons_succ, List.append_assoc]
  exact get_at0 _ _ _
theorem GS_low (n : Nat) (R : List O) (m : Nat) (a : O) (out : V) (T : List O) (hR : ∀ o ∈ R, o ≠ .free) : ∀ j, j < R.length + 1 → (GS n R m a out ++ T)[j]? ≠ some .free := by
  intro j hj
  cases j with
  | zero => simp [GS]
  | succ j =>
    simp only [GS, List.cons_append, List.getElem?_cons_succ, List.append_assoc]
    rw [List.getElem?_append_left (by omega), List.getElem?_eq_getElem (by omega)]
    intro e
    exact hR _ (List.getElem_mem _) (Option.some.inj e)
theorem GS_row (n : Nat) (R : List O) (m : Nat) (a x : O) (out : V) (T : List O) : (GS n R (m + 1) a out ++ T).set (R.length + 1) x = GS n (R ++ [x]) m a out ++ T := by
  simp only [GS, List.replicate_succ, List.cons_append, List.set_cons_succ, List.append_assoc]
  rw [set_at0]
  simp

theorem GS_all {n q : Nat} {R : List O} {m : Nat} {a : O} {out : V} (hR : R.all (O.low q) = true) (ha : O.low q a = true) (ho : V.low q out = true) : (GS n R m a out).all (O.low q) = true := by
  simp only [GS, List.all_cons, List.all_append, hR, ha, List.all_nil, Bool.and_true, Bool.true_and, olow_cells, V.lows, ho]
  simp [O.low, List.all_eq_true]

theorem run57 {n : Nat} {x : D} {p : List Int} {R : List O} {m : Nat} {a : O} {vs : List V} (hne : p ≠ []) (hp : p.length < 1099511627776) (hR : ∀ o ∈ R, o ≠ .free) (hRl : R.all (O.low (R.length + m + 4)) = true)
    (ha : O.low (R.length + m + 4) a = true) (hv : V.lows (R.length + m + 4) vs = true) (hvl : vs.length < 1099511627776) (hz1 : hz 1 vs = true) :
    yieldV (call X E (n + 2)) 57 [.ref (R.length + (m + 1) + 2) 0] x.v p (GS vs.length R (m + 1) a (.sl vs (.tok 0))) = some (true, GS (vs.length + 1) (R ++ [pcell p]) m a (.sl (vs ++ [.row (R.length + 1) 0 p.length none]) (.tok 0))) := by
  have hlen := GS_len vs.length R (m + 1) a (.sl vs (.tok 0))
  have hlen3 := GS_len (vs.length + 1) (R ++ [pcell p]) m a (.sl (vs ++ [.row (R.length + 1) 0 p.length none]) (.tok 0))
  have hl3 : (GS (vs.length + 1) (R ++ [pcell p]) m a (.sl (vs ++ [.row (R.length + 1) 0 p.length none]) (.tok 0))).length = (GS vs.length R (m + 1) a (.sl vs (.tok 0))).length := by rw [hlen, hlen3]; simp; omega
  have hall : (GS vs.length R (m + 1) a (.sl vs (.tok 0))).all (O.low (R.length + m + 4)) = true := GS_all hRl ha (by simp [V.low, hv, SI.low])
  have hrl : V.lows (R.length + m + 4) (vs ++ [.row (R.length + 1) 0 p.length none]) = true := lows_of fun v hv' => by
    rcases List.mem_append.1 hv' with h | h
    · obtain ⟨i, hi, rfl⟩ := List.getElem_of_mem h
      exact lows_get hv i hi
    · simp only [List.mem_singleton] at h
      subst h
      simp only [V.low, Bool.or_eq_true, decide_eq_true_eq]
      left; omega
  have hall3 : (GS (vs.length + 1) (R ++ [pcell p]) m a (.sl (vs ++ [.row (R.length + 1) 0 p.length none]) (.tok 0))).all (O.low (R.length + m + 4)) = true :=
    GS_all (by simp [hRl, low_pcell]) ha (by simp [V.low, hrl, SI.low])
  have eo : R.length + (m + 1) + 2 = (R ++ [pcell p]).length + m + 2 := by simp; omega
  have e4 : (GS vs.length R (m + 1) a (.sl vs (.tok 0))).length = R.length + m + 4 := by rw [hlen]; omega
  refine yield_of (by rw [e4]; simp [V.lows, V.low]; omega) (by rw [e4]; exact List.all_eq_true.2 fun o ho => olow1 (Nat.le_succ _) (List.all_eq_true.1 hall o ho)) (by rw [e4]; exact hall3) hl3 ?_
  have hE : E 57 = none := rfl
  have hX : X 57 = some x57 := rfl
  have a2 : ∀ z T, call X E (n + 1) 56 [.row (GS vs.length R (m + 1) a (.sl vs (.tok 0))).length 0 p.length none] (GS vs.length R (m + 1) a (.sl vs (.tok 0)) ++ pcell p :: z :: T) = some (.row (R.length + 1) 0 p.length none, GS vs.length (R ++ [pcell p]) m a (.sl vs (.tok 0)) ++ pcell p :: z :: T) := fun z T => by
    rw [call56P hne hp (get_at0 _ _ _) (GS_free _ _ _ _ _ _) (GS_low _ _ _ _ _ _ hR), GS_row]
  generalize hN : n + 1 = N at *
  rw [show n + 2 = N + 1 by omega]
  simp only [call, hE, hX]
  generalize call X E N = cf at *
  refine runF_at (by kernel_rfl) rfl rfl (wpx_imp _ (fun e s hq => ?_) (wpk_of (aux57 (H1 := GS vs.length (R ++ [pcell p]) m a (.sl vs (.tok 0))) (H2 := GS (vs.length + 1) (R ++ [pcell p]) m a (.sl vs (.tok 0))) (vs := vs) (q := 0) (rv := .row (R.length + 1) 0 p.length none) rfl rfl rfl (fun T => GS_out _ _ _ _ _ _) a2 (by rw [GS_len, GS_len]; simp; omega)
    (fun T => by simp [GS]) (fun T => GS_tok _ _ _ _ _ _ _) (fun T => by rw [eo]; exact GS_out _ _ _ _ _ _) (fun T => by rw [eo]; exact GS_set _ _ _ _ _ _ _) hl3 (by omega) (by omega) hz1)))
  have fin : ∀ vs' : List V, ((resOf vs').vw = .c (.bool true) ∧ s.h.take (GS vs.length R (m + 1) a (.sl vs (.tok 0)) ++ [pcell p]).length = GS (vs.length + 1) (R ++ [pcell p]) m a (.sl (vs ++ [.row (R.length + 1) 0 p.length none]) (.tok 0)) ++ [pcell p]) →
      ((resOf vs').vw = .c (.bool true) ∧ (V.c (.bool true)).low (GS vs.length R (m + 1) a (.sl vs (.tok 0)) ++ [pcell p]).length = true ∧ s.h.take (GS vs.length R (m + 1) a (.sl vs (.tok 0)) ++ [pcell p]).length = GS (vs.length + 1) (R ++ [pcell p]) m a (.sl (vs ++ [.row (R.length + 1) 0 p.length none]) (.tok 0)) ++ [pcell p] ∧ (GS (vs.length + 1) (R ++ [pcell p]) m a (.sl (vs ++ [.row (R.length + 1) 0 p.length none]) (.tok 0)) ++ [pcell p]).all (O.low (GS vs.length R (m + 1) a (.sl vs (.tok 0)) ++ [pcell p]).length) = true) := fun vs' hv => by
    refine ⟨hv.1, rfl, hv.2, ?_⟩
    rw [List.all_append, List.length_append, e4]
    simp only [List.all_cons, List.all_nil, low_pcell, Bool.and_true]
    exact List.all_eq_true.2 fun o ho => olow1 (Nat.le_add_right _ _) (List.all_eq_true.1 hall3 o ho)
  cases e with
  | exit id => exact hq
  | normal => rw [Fin_n] at hq ⊢; exact bindO_imp fin hq
  | ret => rw [Fin_r] at hq ⊢; exact bindO_imp fin hq
end Go.Proofs.Ytbkgpdkimcnpgaa.Ab
