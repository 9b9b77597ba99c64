/- Places in rows, and Put. -/
import Derived.Test.YtbkgpdkimcnpgaaRd35
namespace Go.Proofs.Ytbkgpdkimcnpgaa.Ab
open Go
set_option linter.unusedVariables false
set_option linter.unusedSimpArgs false
set_option maxRecDepth 4000
set_option maxHeartbeats 1000000

theorem Rds.app {H : List O} : ∀ (a b : List D) (us vs : List V), Rds H a us → Rds H b vs → Rds H (a ++ b) (us ++ vs)
  | [], b, us, vs, h1, h2 => by simp only [Rds] at h1; rw [h1]; exact h2
  | d :: a, b, us, vs, h1, h2 => by
    simp only [Rds] at h1
    obtain ⟨u, us', rfl, h3, h4⟩ := h1
    simp only [List.cons_append, Rds]
    exact ⟨u, us' ++ vs, rfl, h3, Rds.app a b us' vs h4 h2⟩
theorem rd_at3 {cs : List V} {o : Nat} {a b c e : V} (h : rdV cs o (some 4) = some (.agg [a, b, c, e])) : rdV cs (o + 3) none = some e ∧ o + 4 ≤ cs.length := by
  simp only [rdV] at h ⊢
  split at h
  · rename_i hl
    simp only [Option.some.injEq, V.agg.injEq] at h
    have h1 : ((cs.drop o).take 4)[3]? = some e := by rw [h]; rfl
    rw [List.getElem?_take_of_lt (by omega), List.getElem?_drop] at h1
    exact ⟨h1, hl⟩
  · cases h
theorem Pl.rows {H : List O} : ∀ (p : List Int) (d : D) (lo hi : Nat) (v : V) (id0 o0 : Nat) (cs0 : List V), RdR H d lo hi v → id0 < lo → H[id0]? = some (.cells cs0) → rdV cs0 o0 (some 4) = some v →
    match D.at p d with
    | none => Pl H (.ref id0 o0) p nilP
    | some u => ∃ id off cs, Pl H (.ref id0 o0) p (.ref id off) ∧ H[id]? = some (.cells cs) ∧ off + 4 ≤ cs.length ∧ (p = [] → id = id0 ∧ off = o0) ∧ (p ≠ [] → lo ≤ id ∧ id < hi) ∧
        ∀ H' x w, Rd H' x w → H'[id]? = some (.cells (splice cs off w.cells)) → (∀ i, i ≠ id → lo ≤ i → i < hi → H'[i]? = H[i]?) → p ≠ [] → Rd H' (D.put p d x) v
  | [], d, lo, hi, v, id0, o0, cs0, hR, h0, hc, hrd => by
    simp only [D.at]
    have hv := (Rd.of _ _ _ _ (fun i _ _ => rfl) hR).cells
    obtain ⟨a, b, c, e, rfl⟩ := hv
    exact ⟨id0, o0, cs0, .nil _, hc, (rd_at3 hrd).2, fun _ => ⟨rfl, rfl⟩, fun h => absurd rfl h, fun _ _ _ _ _ _ h => absurd rfl h⟩
  | i :: p, .mk k n t l, lo, hi, v, id0, o0, cs0, hR, h0, hc, hrd => by
    simp only [RdR] at hR
    obtain ⟨x, rfl, hx⟩ := hR
    obtain ⟨hr3, hr4⟩ := rd_at3 hrd
    have hld : loadF (.ref id0 (o0 + 3)) none H = some (x, H) := by rw [loadF_ref, hc, loadO_cells, hr3]; rfl
    rcases hx with ⟨rfl, rfl⟩ | ⟨id, us, hl, rfl, a1, a2, a3, a4⟩
    · have : ¬ (0 ≤ i ∧ i < ((0 : Nat) : Int)) := by omega
      have hn : D.at (i :: p) (.mk k n t []) = none := by rw [D.at]; rw [if_neg]; simp [D.kids]
      rw [hn]
      exact .bad _ _ 0 i p ⟨_, rfl, rfl, hld, rfl⟩ this
    · have hs : Stp H (.ref id0 o0) (.row id 0 l.length (some 4)) l.length := ⟨_, rfl, rfl, hld, rfl⟩
      have hlen := RdRs.len _ _ _ _ a4
      have hagg := Rds.aggs _ _ (Rds.of _ _ _ _ (fun i _ _ => rfl) a4)
      have h4 := RdRs.cells _ _ _ _ a4
      by_cases hi' : 0 ≤ i ∧ i < l.length
      · have hj : i.toNat < l.length := by omega
        have hj' : i.toNat < us.length := by omega
        obtain ⟨a, b, b1, b2, b3, b4, b5, b6⟩ := RdRs.at _ _ _ _ a4 i.toNat hj hj'
        have hat : D.at (i :: p) (.mk k n t l) = D.at p l[i.toNat] := by
          rw [D.at, if_pos (by simpa [D.kids] using hi')]
          simp only [D.kids, List.getElem?_eq_getElem hj]
        have hput : ∀ x, D.put (i :: p) (.mk k n t l) x = .mk k n t (l.set i.toNat (D.put p l[i.toNat] x)) := by
          intro x
          simp only [D.put, List.getElem?_eq_getElem hj]
        have hia : iaF 4 (.row id 0 l.length (some 4)) (some i) H = some (.ref id (i.toNat * 4), H) := by
          rw [iaF_row, if_pos ⟨hi'.1, hi'.2, rfl⟩, Nat.zero_add]
        rw [hat]
        have ih := Pl.rows p l[i.toNat] a b us[i.toNat] id (i.toNat * 4) (flats us) b4 (by omega) a3 (rd_flat hagg hj')
        cases hu : D.at p l[i.toNat] with
        | none =>
          rw [hu] at ih
          exact .step _ _ _ i p _ _ hs hi'.1 hi'.2 hia ih
        | some u =>
          rw [hu] at ih
          obtain ⟨id1, off, cs, c1, c2, c3, c4, c5, c6⟩ := ih
          have hid1 : id ≤ id1 ∧ id1 < hi ∧ (p ≠ [] → id < id1 ∧ a ≤ id1 ∧ id1 < b) ∧ (p = [] → id1 = id) := by
            by_cases hp : p = []
            · have := (c4 hp).1; exact ⟨by omega, by omega, fun h => absurd hp h, fun _ => this⟩
            · have := c5 hp; exact ⟨by omega, by omega, fun _ => ⟨by omega, by omega, by omega⟩, fun h => absurd h hp⟩
          refine ⟨id1, off, cs, .step _ _ _ i p _ _ hs hi'.1 hi'.2 hia c1, c2, c3, (fun h => by cases h), fun _ => ⟨by omega, by omega⟩, fun H' x w hw hH1 hH2 _ => ?_⟩
          rw [hput]
          have key : ∃ w', Rd H' (D.put p l[i.toNat] x) w' ∧ H'[id]? = some (.cells (flats (us.set i.toNat w'))) := by
            by_cases hp : p = []
            · subst hp
              obtain ⟨rfl, rfl⟩ := c4 rfl
              rw [c2] at a3
              simp only [Option.some.injEq, O.cells.injEq] at a3
              subst a3
              rw [splice_flat h4 hj' hw.len4] at hH1
              exact ⟨w, by simpa [D.put] using hw, hH1⟩
            · have h7 := c6 H' x w hw hH1 (fun i j1 j2 j3 => hH2 i j1 (by omega) (by omega)) hp
              have := hid1.2.2.1 hp
              exact ⟨us[i.toNat], h7, by rw [hH2 id (by omega) a1 a2, a3, List.set_getElem_self]⟩
          obtain ⟨w', hw', hset⟩ := key
          simp only [Rd]
          refine ⟨_, us.set i.toNat w', rfl, .inr ⟨?_, id, by simp [hlen], hset⟩, ?_⟩
          · intro h
            have := congrArg List.length h
            simp only [List.length_set, List.length_nil] at this
            omega
          · rw [List.set_eq_take_append_cons_drop, if_pos hj, List.set_eq_take_append_cons_drop, if_pos hj']
            refine Rds.app _ _ _ _ (Rds.of _ _ _ _ (fun q j1 j2 => ?_) b5) ?_
            · refine hH2 q ?_ (by omega) (by omega)
              by_cases hp : p = []
              · have := hid1.2.2.2 hp; omega
              · have := hid1.2.2.1 hp; omega
            · simp only [Rds]
              refine ⟨w', _, rfl, hw', Rds.of _ _ _ _ (fun q j1 j2 => ?_) b6⟩
              refine hH2 q ?_ (by omega) j2
              by_cases hp : p = []
              · have := hid1.2.2.2 hp; omega
              · have := hid1.2.2.1 hp; omega
      · have hn : D.at (i :: p) (.mk k n t l) = none := by rw [D.at]; rw [if_neg]; simpa [D.kids] using hi'
        rw [hn]
        exact .bad _ _ _ i p hs hi'

theorem D.szs_set : ∀ (l : List D) (j : Nat) (h : j < l.length) (y : D), D.szs (l.set j y) + (l[j]).sz = D.szs l + y.sz
  | d :: l, 0, h, y => by simp only [List.set_cons_zero, D.szs, List.getElem_cons_zero]; omega
  | d :: l, j + 1, h, y => by
    have := D.szs_set l j (by simpa using h) y
    simp only [List.set_cons_succ, D.szs, List.getElem_cons_succ]
    omega
theorem D.put_sz (x : D) : ∀ (p : List Int) (d u : D), D.at p d = some u → (D.put p d x).sz + u.sz = d.sz + x.sz
  | [], d, u, h => by simp only [D.at, Option.some.injEq] at h; subst h; simp only [D.put]; omega
  | i :: p, .mk k n t l, u, h => by
    rw [D.at] at h
    by_cases hi : 0 ≤ i ∧ i < ((D.mk k n t l).kids.length : Int)
    · rw [if_pos hi] at h
      simp only [D.kids] at h hi
      have hj : i.toNat < l.length := by omega
      rw [List.getElem?_eq_getElem hj] at h
      have h1 := D.put_sz x p _ u h
      have h2 := D.szs_set l i.toNat hj (D.put p l[i.toNat] x)
      simp only [D.put, List.getElem?_eq_getElem hj, D.sz]
      omega
    · rw [if_neg hi] at h
      cases h
/-- A function that reads a datum in rows. -/
theorem call_rows {n f : Nat} {xf : XF} {d : D} {v r : V} {H : List O} (hE : E f = none) (hX : X f = some xf) (hp : xf.pure = true ∧ xf.esc = false) (hg : Gives (n + 1) f [d.v] r) (hr : r.flat = true) (hv : Rd H d v) (hn : d.dp ≤ n) : call X E (n + 1) f [v] H = some (r, H) := by
  have h1 := hg H
  simp only [call, hE, hX] at h1 ⊢
  have hvw := hv.vw2.1
  unfold runF at h1 ⊢
  rw [if_pos hp.1] at h1 ⊢
  have hl0 : V.lows 0 ([d.v].map V.vw2) = true := by simp [D.vw2, V.lows, D.low]
  rw [if_pos hl0, if_neg (by simp [hp.2])] at h1
  simp only [List.map_cons, List.map_nil, hvw, D.vw2] at h1 ⊢
  by_cases hlow : V.lows 0 [v] = true
  · have : v = d.v := Rd.tree d v hv (by simpa [V.lows] using hlow)
    subst this
    rw [if_pos hlow, if_neg (by simp [hp.2])]
    exact h1
  · rw [if_neg hlow, if_neg (by simp [hp.2])]
    have hs := Rd.snap d n v hn hv
    simp only [mapO, hs]
    have hl1 : V.lows 0 [d.v] = true := by simp [V.lows, D.low]
    rw [if_pos hl1]
    revert h1
    cases hf : fin false n xf.res (exec (call X E n) n xf.body (start xf [d.v] [])) with
    | none => intro h1; cases h1
    | some q =>
      obtain ⟨q1, q2⟩ := q
      intro h1
      simp only [Option.map_some, Option.some.injEq, Prod.mk.injEq, and_true] at h1
      subst h1
      simp only [hr, if_true]

/-- What Put gives. -/
def putD (p : List Int) (d x : D) : D × Int := if d.ck ≠ 0 then (.zero, d.ck) else if x.ck ≠ 0 then (.zero, x.ck) else if (D.at p d).isNone then (.zero, 5) else if (D.put p d x).ck ≠ 0 then (.zero, 3) else (D.put p d x, 0)
def zO : O := .cells [.c (.int .i64 0), .c (.int .i64 0), .c (.string ⟨#[]⟩), .sl [] .nil]
theorem run34 {d x : D} {p : List Int} {n : Nat} (hs : d.sz ≤ 100000) (hs' : x.sz ≤ 100000) (hp : p.length ≤ 100000) (hn : 4 * (d.sz + x.sz) + 64 ≤ n) (hn' : p.length + 1 < n) : Gives (n + 1) 34 [d.v, pv p, x.v] (.tup [(putD p d x).1.v, .c (.int .i64 (putD p d x).2)]) := by
  have c1 : ∀ h, call X E n 15 [d.v] h = some (.c (.int .i64 d.ck), h) := run15 d (by omega) n (by omega)
  have c2 : ∀ h, call X E n 15 [x.v] h = some (.c (.int .i64 x.ck), h) := run15 x (by omega) n (by omega)
  have hl0 : V.lows 0 ([d.v, pv p, x.v].map V.vw2) = true := by simp [D.vw2, V.lows, D.low, pv_vw2, pv_low]
  have hz1 : D.zero.dp ≤ n := by simp [D.zero, D.dp, D.dps]; omega
  unfold putD
  by_cases h0 : d.ck = 0
  rotate_left
  · have h0' : (d.ck != 0) = true := by simpa using h0
    rw [if_pos h0]
    refine gives_rd (d := .zero) (c := .int .i64 d.ck) rfl rfl rfl (by kernel_rfl) ⟨rfl, rfl⟩ hl0 hz1 ?_
    generalize call X E n = cf at *
    simp -implicitDefEqProofs [x34_w, x34_r, x34r1_w, x34r2_w, x34r3_w, x34r4_w, D.vw2, D.okc, D.rd, D.cells_len, pv_vw2, c1, h0']
    exact Rd.zero _
  have h0' : (d.ck != 0) = false := by simpa using h0
  rw [if_neg (by simpa using h0)]
  by_cases h1 : x.ck = 0
  rotate_left
  · have h1' : (x.ck != 0) = true := by simpa using h1
    rw [if_pos h1]
    refine gives_rd (d := .zero) (c := .int .i64 x.ck) rfl rfl rfl (by kernel_rfl) ⟨rfl, rfl⟩ hl0 hz1 ?_
    generalize call X E n = cf at *
    simp -implicitDefEqProofs [x34_w, x34_r, x34r1_w, x34r2_w, x34r3_w, x34r5_w, x34r6_w, x34r7_w, D.vw2, D.okc, D.rd, D.cells_len, pv_vw2, c1, c2, h0', h1']
    exact Rd.zero _
  have h1' : (x.ck != 0) = false := by simpa using h1
  rw [if_neg (by simpa using h1)]
  obtain ⟨v, H1, hv, hlv, hcl⟩ := run60 d (by omega) n (by omega) [.cells d.v.cells, .cells x.v.cells, .cells [.c (.int .i64 0), .c (.int .i64 0), .c (.string ⟨#[]⟩), .sl [] .nil], .cells [.c (.int .i64 0), .c (.int .i64 0), .c (.string ⟨#[]⟩), .sl [] .nil]]
  have hv4 := RdR.len _ _ _ _ hv
  have hvlow := RdR.low _ _ _ _ hv
  have hvd := Rd.of _ _ _ _ (fun i _ _ => rfl) hv
  have hvo := hvd.okc
  have hvr := hvd.rd
  have hvw := hvd.vw2.1
  simp only [List.cons_append, List.nil_append, List.length_cons, List.length_nil] at hv hlv hcl hvlow
  have hv' : RdR (.cells d.v.cells :: .cells x.v.cells :: .cells [.c (.int .i64 0), .c (.int .i64 0), .c (.string ⟨#[]⟩), .sl [] .nil] :: .cells v.cells :: H1) d 4 (H1.length + 4) v := by
    refine RdR.agree _ _ _ _ _ _ (Nat.le_refl _) (Nat.le_refl _) (fun i j1 j2 => ?_) hv
    obtain ⟨i, rfl⟩ : ∃ i', i = i' + 4 := ⟨i - 4, by omega⟩
    simp
  have hPl := Pl.rows p d 4 (H1.length + 4) v 3 0 v.cells hv' (by omega) rfl hvr
  have hHH : (O.cells d.v.cells :: .cells x.v.cells :: .cells [.c (.int .i64 0), .c (.int .i64 0), .c (.string ⟨#[]⟩), .sl [] .nil] :: .cells v.cells :: H1).all (O.low (H1.length + 1 + 1 + 1 + 1)) = true := by
    have := lows_of (n := H1.length + 1 + 1 + 1 + 1) fun w hw => low_cells hvlow w hw
    simp only [List.all_cons, hlv, D.lowBox, olow_cells, D.low_cells, this]
    rfl
  have c3 : ∀ r, Pl (O.cells d.v.cells :: .cells x.v.cells :: .cells [.c (.int .i64 0), .c (.int .i64 0), .c (.string ⟨#[]⟩), .sl [] .nil] :: .cells v.cells :: H1) (.ref 3 0) p r → r.vw = r → r.low (H1.length + 1 + 1 + 1 + 1) = true →
      call X E n 59 [.ref 3 0, pv p] (O.cells d.v.cells :: .cells x.v.cells :: .cells [.c (.int .i64 0), .c (.int .i64 0), .c (.string ⟨#[]⟩), .sl [] .nil] :: .cells v.cells :: H1) = some (r, O.cells d.v.cells :: .cells x.v.cells :: .cells [.c (.int .i64 0), .c (.int .i64 0), .c (.string ⟨#[]⟩), .sl [] .nil] :: .cells v.cells :: H1) := fun r hP hr hl => by
    obtain ⟨n, rfl⟩ : ∃ n', n = n' + 1 := ⟨n - 1, by omega⟩
    exact run59 hP (by omega) (by omega) rfl hr hl hHH
  cases hu : D.at p d with
  | none =>
    rw [hu] at hPl
    have c4 := c3 _ hPl rfl rfl
    simp only [Option.isNone_none, if_true]
    refine gives_rd (d := .zero) (c := .int .i64 5) rfl rfl rfl (by kernel_rfl) ⟨rfl, rfl⟩ hl0 hz1 ?_
    generalize call X E n = cf at *
    simp -implicitDefEqProofs [x34_w, x34_r, x34r1_w, x34r2_w, x34r3_w, x34r5_w, x34r6_w, x34r8_w, x34r9_w, x34r10_w, x34r11_w, D.vw2, D.okc, D.rd, D.cells_len, pv_vw2, c1, c2, h0', h1', hcl, hvo, hv4, c4, nilP, binV]
    exact Rd.zero _
  | some u =>
    rw [hu] at hPl
    obtain ⟨id, off, cs, k1, k2, k3, k4, k5, k6⟩ := hPl
    have hput := D.put_sz x p d u hu
    have hdp := D.dp_le (D.put p d x)
    have hus := D.sz_pos u
    simp only [Option.isNone_some, Bool.false_eq_true, if_false]
    obtain ⟨w, H2, hw, hlw, hcl2⟩ := run60 x (by omega) n (by omega) (.cells d.v.cells :: .cells x.v.cells :: .cells [.c (.int .i64 0), .c (.int .i64 0), .c (.string ⟨#[]⟩), .sl [] .nil] :: .cells v.cells :: H1)
    have hw4 := RdR.len _ _ _ _ hw
    have hwd := Rd.of _ _ _ _ (fun i _ _ => rfl) hw
    have hwo := hwd.okc
    have hwr := hwd.rd
    have hww := hwd.vw2.1
    have hid : 3 ≤ id ∧ id < H1.length + 4 := by
      by_cases hpe : p = []
      · have := (k4 hpe).1; omega
      · have := k5 hpe; omega
    have gL : ∀ i, i < H1.length + 4 → ((O.cells d.v.cells :: .cells x.v.cells :: .cells [.c (.int .i64 0), .c (.int .i64 0), .c (.string ⟨#[]⟩), .sl [] .nil] :: .cells v.cells :: H1) ++ H2)[i]? = (O.cells d.v.cells :: .cells x.v.cells :: .cells [.c (.int .i64 0), .c (.int .i64 0), .c (.string ⟨#[]⟩), .sl [] .nil] :: .cells v.cells :: H1)[i]? := fun i hi => by
      rw [List.getElem?_append_left]
      simpa using hi
    have g2 : ((O.cells d.v.cells :: .cells x.v.cells :: .cells [.c (.int .i64 0), .c (.int .i64 0), .c (.string ⟨#[]⟩), .sl [] .nil] :: .cells v.cells :: H1) ++ H2)[2]? = some (.cells [.c (.int .i64 0), .c (.int .i64 0), .c (.string ⟨#[]⟩), .sl [] .nil]) := rfl
    have g3 : ((O.cells d.v.cells :: .cells x.v.cells :: .cells [.c (.int .i64 0), .c (.int .i64 0), .c (.string ⟨#[]⟩), .sl [] .nil] :: .cells v.cells :: H1) ++ H2)[3]? = some (.cells v.cells) := rfl
    have glen : H1.length + 1 + 1 + 1 + 1 ≤ ((O.cells d.v.cells :: .cells x.v.cells :: .cells [.c (.int .i64 0), .c (.int .i64 0), .c (.string ⟨#[]⟩), .sl [] .nil] :: .cells v.cells :: H1) ++ H2).length := by simp
    have gid := (gL id hid.2).trans k2
    have c4 := c3 _ k1 rfl (by simp only [V.low, decide_eq_true_eq]; omega)
    have hHl : (O.cells d.v.cells :: .cells x.v.cells :: .cells [.c (.int .i64 0), .c (.int .i64 0), .c (.string ⟨#[]⟩), .sl [] .nil] :: .cells v.cells :: H1).length = H1.length + 4 := rfl
    rw [hHl] at hw
    have hk6 : ∀ H' w', Rd H' x w' → H'[id]? = some (.cells (splice cs off w'.cells)) → (∀ i, i ≠ id → 4 ≤ i → i < H1.length + 4 → H'[i]? = ((O.cells d.v.cells :: .cells x.v.cells :: .cells [.c (.int .i64 0), .c (.int .i64 0), .c (.string ⟨#[]⟩), .sl [] .nil] :: .cells v.cells :: H1) ++ H2)[i]?) → p ≠ [] → Rd H' (D.put p d x) v :=
      fun H' w' a1 a2 a3 a4 => k6 H' x w' a1 a2 (fun i j1 j2 j3 => (a3 i j1 j2 j3).trans (gL i j3)) a4
    obtain ⟨r, hr⟩ : ∃ r, r = V.ref id off := ⟨_, rfl⟩
    rw [← hr] at c4
    generalize hG : (O.cells d.v.cells :: .cells x.v.cells :: .cells [.c (.int .i64 0), .c (.int .i64 0), .c (.string ⟨#[]⟩), .sl [] .nil] :: .cells v.cells :: H1) ++ H2 = G at *
    have e1 : ∀ h, nckF r h = some (r, h) := fun h => by rw [hr]; rfl
    have e2 : binV .eql 3 r (.c (.pointer none)) = some (.c (.bool false)) := by rw [hr]; rfl
    have e3 : storeF r 4 w G = some (undefV, G.set id (.cells (splice cs off w.cells))) := by rw [hr, storeF_ref, gid, storeO_cells, if_pos ⟨hwo, hw4, k3⟩]
    have hgl : id < G.length := (List.getElem?_eq_some_iff.1 gid).1
    have f0 : (G.set id (.cells (splice cs off w.cells)))[id]? = some (.cells (splice cs off w.cells)) := by rw [List.getElem?_set_self hgl]
    have fn : ∀ i, i ≠ id → (G.set id (.cells (splice cs off w.cells)))[i]? = G[i]? := fun i hi => by rw [List.getElem?_set_ne (Ne.symm hi)]
    have f2 := (fn 2 (by omega)).trans g2
    have fl2 : 2 < (G.set id (.cells (splice cs off w.cells))).length := (List.getElem?_eq_some_iff.1 f2).1
    have fs : ∀ c, ((G.set id (.cells (splice cs off w.cells))).set 2 c)[2]? = some c := fun c => by rw [List.getElem?_set_self fl2]
    generalize hG' : G.set id (.cells (splice cs off w.cells)) = G' at *
    have hvv : ∃ v', G'[3]? = some (.cells v'.cells) ∧ v'.cells.length = 4 ∧ okc v' = true ∧ rdV v'.cells 0 (some 4) = some v' ∧ v'.vw2 = v' ∧
        ∀ H' : List O, (∀ i, 3 ≤ i → H'[i]? = G'[i]?) → Rd H' (D.put p d x) v' := by
      have hxw : ∀ H' : List O, (∀ i, 3 ≤ i → H'[i]? = G'[i]?) → Rd H' x w := fun H' hH => Rd.of _ _ _ _ (fun i j1 j2 => by rw [hH i (by omega), fn i (by omega)]) hw
      by_cases hpe : p = []
      · obtain ⟨rfl, rfl⟩ := k4 hpe
        rw [g3] at gid
        simp only [Option.some.injEq, O.cells.injEq] at gid
        subst gid
        have hsp : splice v.cells 0 w.cells = w.cells := by
          unfold splice
          rw [hw4, List.drop_of_length_le (by omega)]
          simp
        rw [hsp] at f0
        refine ⟨w, f0, hw4, hwo, hwr, hww, fun H' hH => ?_⟩
        subst hpe
        rw [D.put]
        exact hxw H' hH
      · have h4 := k5 hpe
        refine ⟨v, (fn 3 (by omega)).trans g3, hv4, hvo, hvr, hvw, fun H' hH => ?_⟩
        exact hk6 H' w (hxw H' hH) ((hH id hid.1).trans f0) (fun i j1 j2 j3 => (hH i (by omega)).trans (fn i j1)) hpe
    obtain ⟨v', f3, hv'4, hv'o, hv'r, hv'w, hRd⟩ := hvv
    have c5 : call X E n 15 [v'] G' = some (.c (.int .i64 (D.put p d x).ck), G') := by
      have h15 := run15 (D.put p d x) (by omega) n (by omega)
      obtain ⟨n, rfl⟩ : ∃ n', n = n' + 1 := ⟨n - 1, by omega⟩
      exact call_rows rfl rfl ⟨rfl, rfl⟩ h15 rfl (hRd G' fun i _ => rfl) (by omega)
    by_cases hck : (D.put p d x).ck = 0
    · have hck' : ((D.put p d x).ck != 0) = false := by simpa using hck
      rw [if_neg (by simpa using hck)]
      refine gives_rd (d := D.put p d x) (c := .int .i64 0) rfl rfl rfl (by kernel_rfl) ⟨rfl, rfl⟩ hl0 (by omega) ?_
      clear c3 k1 hk6 k6 h0 h1
      generalize call X E n = cf at *
      simp -implicitDefEqProofs [x34_w, x34_r, x34r1_w, x34r2_w, x34r3_w, x34r5_w, x34r6_w, x34r8_w, x34r9_w, x34r10_w, x34r12_w, x34r13_w, x34r15_w, D.vw2, D.okc, D.rd, D.cells_len, pv_vw2, c1, c2, h0', h1', hcl, hvo, hv4, c4, e1, e2, e3, hcl2, f2, f3, fs, hv'4, hv'o, hv'r, hv'w, c5, hck']
      refine ⟨glen, hRd _ fun i j => ?_⟩
      rw [List.getElem?_set_ne (by omega)]
    · have hck' : ((D.put p d x).ck != 0) = true := by simpa using hck
      rw [if_pos (by simpa using hck)]
      refine gives_rd (d := .zero) (c := .int .i64 3) rfl rfl rfl (by kernel_rfl) ⟨rfl, rfl⟩ hl0 hz1 ?_
      clear c3 k1 hk6 k6 h0 h1
      generalize call X E n = cf at *
      simp -implicitDefEqProofs [x34_w, x34_r, x34r1_w, x34r2_w, x34r3_w, x34r5_w, x34r6_w, x34r8_w, x34r9_w, x34r10_w, x34r12_w, x34r13_w, x34r14_w, D.vw2, D.okc, D.rd, D.cells_len, pv_vw2, c1, c2, h0', h1', hcl, hvo, hv4, c4, e1, e2, e3, hcl2, f2, f3, fs, hv'4, hv'o, hv'r, hv'w, c5, hck']
      exact ⟨glen, Rd.zero _⟩
end Go.Proofs.Ytbkgpdkimcnpgaa.Ab
