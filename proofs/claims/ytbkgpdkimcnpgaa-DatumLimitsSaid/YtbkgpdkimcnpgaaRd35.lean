/- Places. -/
import Derived.Test.YtbkgpdkimcnpgaaRd34
namespace Go.Proofs.Ytbkgpdkimcnpgaa.Ab
open Go
set_option linter.unusedVariables false
set_option linter.unusedSimpArgs false
set_option maxRecDepth 4000
set_option maxHeartbeats 1000000

/-- The datum to which a path leads. -/
def D.at : List Int → D → Option D
  | [], d => some d
  | i :: p, d => if 0 ≤ i ∧ i < d.kids.length then match d.kids[i.toNat]? with
    | some k => D.at p k
    | none => none
    else none
/-- A datum with another one there. -/
def D.put : List Int → D → D → D
  | [], _, x => x
  | i :: p, .mk k n t l, x => match l[i.toNat]? with
    | some y => .mk k n t (l.set i.toNat (D.put p y x))
    | none => .mk k n t l
def nilP : V := .c (.pointer none)
/-- A pointer to a datum, and what is there as its kids. -/
def Stp (H : List O) (q x : V) (n : Nat) : Prop := ∃ q3, nckF q H = some (q, H) ∧ faF 3 q H = some (q3, H) ∧ loadF q3 none H = some (x, H) ∧ lenF x H = some (.c (.int .i64 n), H)
inductive Pl (H : List O) : V → List Int → V → Prop
  | nil (q : V) : Pl H q [] q
  | bad (q x : V) (n : Nat) (i : Int) (p : List Int) : Stp H q x n → ¬ (0 ≤ i ∧ i < n) → Pl H q (i :: p) nilP
  | step (q x : V) (n : Nat) (i : Int) (p : List Int) (q' r : V) : Stp H q x n → 0 ≤ i → i < n → iaF 4 x (some i) H = some (q', H) → Pl H q' p r → Pl H q (i :: p) r

structure I59 (H : List O) (p : List Int) (r : V) (m : Nat) (s : SF) : Prop where
  j : ∃ j : Nat, j + m = p.length ∧ s.e 9 = .c (.int .i64 j) ∧ Pl H (s.e 0) (p.drop j) r
  e7 : s.e 7 = pv p
  e8 : s.e 8 = .c (.int .i64 p.length)
  h : s.h = H
  b : s.base = H.length
theorem step59 {cf : CallF} {fu : Nat} {H : List O} {p : List Int} {r : V} (hl : p.length < 4611686018427387904) {Q : Ex → SF → Prop}
    (hQ : ∀ s, s.e 0 = r → s.h = H → s.base = H.length → Q (.exit 0) s)
    (hR : ∀ s, s.e 4 = r → s.h = H → s.base = H.length → Q .ret s) (m : Nat) (s : SF) (I : I59 H p r m s) :
    wpk cf fu x59l9 [] (fun e s' => match e with | .normal => ∃ k1, k1 < m ∧ I59 H p r k1 s' | e => Q e s') s := by
  obtain ⟨⟨j, hj, e9, hP⟩, e7, e8, hh, hb⟩ := I
  obtain ⟨e, h, base, rb⟩ := s
  simp only at e9 hP e7 e8 hh hb
  subst hh hb
  by_cases hm : j < p.length
  · have hlt : (j : Int) < p.length := by omega
    have hd : p.drop j = p[j] :: p.drop (j + 1) := List.drop_eq_getElem_cons hm
    rw [hd] at hP
    generalize hq : e 0 = q at *
    generalize hi : p[j] = i at *
    have hid : pv p = pv p := rfl
    cases hP with
    | bad _ x n _ _ hs hbad =>
      obtain ⟨q3, a1, a2, a3, a4⟩ := hs
      by_cases h0 : i < 0
      · simp -implicitDefEqProofs [x59l9_w, x59r3_w, x59r4_w, x59r5_w, x59r6_w, e7, e8, e9, hlt, hm, hq, hi, pv, I64, h0]
        exact hR _ (by simp [upd_at, nilP]) rfl rfl
      · have hn : (n : Int) ≤ i := by omega
        have hn' : i ≥ (n : Int) := by omega
        simp -implicitDefEqProofs [x59l9_w, x59r3_w, x59r4_w, x59r5_w, x59r6_w, e7, e8, e9, hlt, hm, hq, hi, pv, I64, h0, a1, a2, a3, a4, hn, hn']
        exact hR _ (by simp [upd_at, nilP]) rfl rfl
    | step _ x n _ _ q' _ hs hi0 hin hia hP =>
      obtain ⟨q3, a1, a2, a3, a4⟩ := hs
      have h0 : ¬ i < 0 := by omega
      have hn : ¬ (n : Int) ≤ i := by omega
      simp -implicitDefEqProofs [x59l9_w, x59r3_w, x59r4_w, x59r5_w, x59r7_w, x59r8_w, e7, e8, e9, hlt, hm, hq, hi, pv, I64, h0, a1, a2, a3, a4, hn, hia]
      refine ⟨m - 1, by omega, ⟨⟨j + 1, by omega, ?_, ?_⟩, ?_, ?_, rfl, rfl⟩⟩
      · simp only [upd_at, e9]
        simp
        rw [wrap_in (by omega)]
      · simpa [upd_at] using hP
      · simp [upd_at, e7, pv]
      · simp [upd_at, e8]
  · have hlt : ¬ (j : Int) < p.length := by omega
    rw [List.drop_of_length_le (by omega)] at hP
    have hr : r = e 0 := by cases hP; rfl
    simp -implicitDefEqProofs [x59l9_w, x59r3_w, e8, e9, hlt]
    exact hQ _ (by simp [upd_at, hr]) rfl rfl
theorem run59 {n : Nat} {H : List O} {q r : V} {p : List Int} (hP : Pl H q p r) (hl : p.length < n) (hl' : p.length < 4611686018427387904) (hq : q.vw2 = q) (hr : r.vw = r) (hlow : r.low H.length = true) (hH : H.all (O.low H.length) = true) :
    call X E (n + 1) 59 [q, pv p] H = some (r, H) := by
  have hE : E 59 = none := rfl
  have hX : X 59 = some x59 := rfl
  simp only [call, hE, hX]
  generalize call X E n = cf at *
  refine runF_at (by kernel_rfl) rfl rfl (wpk_of ?_)
  simp -implicitDefEqProofs [x59_w, x59r1_w, x59r2_w, hq, pv_vw2, pv_len]
  refine lpk_of (I59 H p r) p.length hl ⟨⟨0, by simp, by simp [upd_at], by simpa [upd_at, arg0] using hP⟩, by simp [upd_at, arg0], by simp [upd_at], rfl, rfl⟩ ?_
  refine step59 hl' (fun s h0 hh hb => ?_) fun s h4 hh hb => ?_
  · obtain ⟨e, h, base, rb⟩ := s
    simp only at h0 hh hb
    subst hh hb
    simp -implicitDefEqProofs [x59_r, x59r10_w, h0, hr, hlow, List.take_length]
    simpa using hH
  · obtain ⟨e, h, base, rb⟩ := s
    simp only at h4 hh hb
    subst hh hb
    simp -implicitDefEqProofs [x59_r, h4, hr, hlow, List.take_length]
    simpa using hH

theorem Rd.rd {H : List O} {d : D} {v : V} (h : Rd H d v) : rdV v.cells 0 (some 4) = some v := by obtain ⟨a, b, c, e, rfl⟩ := h.cells; rfl
/-- A pointer to a datum that lies still. -/
structure Good (H : List O) (r : V) (d : D) : Prop where
  nck : nckF r H = some (r, H)
  ld : loadF r (some 4) H = some (d.v, H)
  vw : r.vw = r ∧ r.vw2 = r
  low : r.low H.length = true
  ne : binV .eql 3 r nilP = some (.c (.bool false))
theorem D.low_cells (m : Nat) (d : D) : V.lows m d.v.cells = true := by
  have := D.lowBox m d
  rwa [olow_cells] at this
theorem Good.ptr (H : List O) (d : D) : Good H (.ptr d.v.cells 0) d := ⟨rfl, by simp [loadF_ptr, D.rd], ⟨rfl, rfl⟩, by simp [V.low, D.low_cells], rfl⟩
theorem Stp.ptr (H : List O) (d : D) : Stp H (.ptr d.v.cells 0) (.sl (D.vs d.kids) .any) d.kids.length := by
  obtain ⟨k, n, t, l⟩ := d
  exact ⟨.ptr (D.mk k n t l).v.cells 3, rfl, rfl, rfl, by rw [lenF_sl, D.vs_len]⟩
theorem Good.ref {H : List O} {d : D} (h : H[0]? = some (.cells d.v.cells)) : Good H (.ref 0 0) d := by
  have : 0 < H.length := (List.getElem?_eq_some_iff.1 h).1
  exact ⟨rfl, by simp [loadF_ref, h, loadO_cells, D.rd], ⟨rfl, rfl⟩, by simp [V.low, this], rfl⟩
theorem Stp.ref {H : List O} {d : D} (h : H[0]? = some (.cells d.v.cells)) : Stp H (.ref 0 0) (.sl (D.vs d.kids) .any) d.kids.length := by
  obtain ⟨k, n, t, l⟩ := d
  exact ⟨.ref 0 3, rfl, rfl, by rw [loadF_ref, h]; rfl, by rw [lenF_sl, D.vs_len]⟩
theorem Pl.tree {H : List O} : ∀ (p : List Int) (d : D) (q : V), Good H q d → Stp H q (.sl (D.vs d.kids) .any) d.kids.length → ∃ r, Pl H q p r ∧ match D.at p d with | some u => Good H r u | none => r = nilP
  | [], d, q, hg, hs => ⟨q, .nil q, hg⟩
  | i :: p, d, q, hg, hs => by
    simp only [D.at]
    by_cases hi : 0 ≤ i ∧ i < d.kids.length
    · have hj : i.toNat < d.kids.length := by omega
      rw [if_pos hi, List.getElem?_eq_getElem hj]
      obtain ⟨r, h1, h2⟩ := Pl.tree p d.kids[i.toNat] _ (Good.ptr H _) (Stp.ptr H _)
      refine ⟨r, .step q _ _ i p _ r hs hi.1 hi.2 ?_ h1, h2⟩
      rw [iaF_sl, if_pos ⟨hi.1, by rw [D.vs_len]; exact hi.2⟩, D.vs_get hj, elF_some, if_pos (D.cells_len _)]
    · rw [if_neg hi]
      exact ⟨nilP, .bad q _ _ i p hs hi, rfl⟩

theorem Rd.zero (H : List O) : Rd H (.mk 0 0 ⟨#[]⟩ []) (.agg [.c (.int .i64 0), .c (.int .i64 0), .c (.string ⟨#[]⟩), .sl [] .any]) := Rd.plain H (.mk 0 0 ⟨#[]⟩ [])
def D.zero : D := .mk 0 0 ⟨#[]⟩ []
/-- What At gives. -/
def atD (p : List Int) (d : D) : D × Int := if d.ck ≠ 0 then (.zero, d.ck) else match D.at p d with
  | some u => (u, 0)
  | none => (.zero, 5)
theorem D.kid_sz {d x : D} (h : x ∈ d.kids) : x.sz < d.sz := by
  obtain ⟨k, n, t, l⟩ := d
  have := D.mem_sz (l := l) h
  simp only [D.sz]
  omega
theorem D.at_sz : ∀ (p : List Int) (d u : D), D.at p d = some u → u.sz ≤ d.sz
  | [], d, u, h => by simp only [D.at, Option.some.injEq] at h; rw [h]; exact Nat.le_refl _
  | i :: p, d, u, h => by
    simp only [D.at] at h
    by_cases hi : 0 ≤ i ∧ i < d.kids.length
    · have hj : i.toNat < d.kids.length := by omega
      rw [if_pos hi, List.getElem?_eq_getElem hj] at h
      have h1 := D.at_sz p _ u h
      have h2 := D.kid_sz (List.getElem_mem hj)
      omega
    · rw [if_neg hi] at h
      cases h
theorem binV_nil : binV .eql 3 nilP nilP = some (.c (.bool true)) := rfl
theorem Rds.app {H : List O} : ∀ (a b : List D) (us vs : List V), Rds H a us → Rds H b vs → Rds H (a ++ b) (us ++ vs)
  | [], b, us, vs, h1, h2 => by simp only [Rds] at h1; rw [h1]; exact h2
  | d :: a, b, us, vs, h1, h2 => by
    simp only [Rds] at h1
    obtain ⟨u, us', rfl, h3, h4⟩ := h1
    simp only [List.cons_append, Rds]
    exact ⟨u, us' ++ vs, rfl, h3, Rds.app a b us' vs h4 h2⟩
theorem rd_at3 {cs : List V} {o : Nat} {a b c e : V} (h : rdV cs o (some 4) = some (.agg [a, b, c, e])) : rdV cs (o + 3) none = some e ∧ o + 4 ≤ cs.length := by
  simp only [rdV] at h ⊢
  split at h
  · rename_i hl
    simp only [Option.some.injEq, V.agg.injEq] at h
    have h1 : ((cs.drop o).take 4)[3]? = some e := by rw [h]; rfl
    rw [List.getElem?_take_of_lt (by omega), List.getElem?_drop] at h1
    exact ⟨h1, hl⟩
  · cases h
/-- A place in a row of data. -/
def Aligned (cs : List V) (off : Nat) : Prop := ∃ us j, cs = flats us ∧ off = j * 4 ∧ j < us.length ∧ ∀ u ∈ us, u.cells.length = 4
theorem Pl.rows {H : List O} : ∀ (p : List Int) (d : D) (lo hi : Nat) (v : V) (id0 o0 : Nat) (cs0 : List V), RdR H d lo hi v → id0 < lo → H[id0]? = some (.cells cs0) → rdV cs0 o0 (some 4) = some v → Aligned cs0 o0 →
    match D.at p d with
    | none => Pl H (.ref id0 o0) p nilP
    | some u => ∃ id off cs, Pl H (.ref id0 o0) p (.ref id off) ∧ H[id]? = some (.cells cs) ∧ off + 4 ≤ cs.length ∧ Aligned cs off ∧ (p = [] → id = id0 ∧ off = o0) ∧ (p ≠ [] → lo ≤ id ∧ id < hi) ∧
        ∀ H' x w, Rd H' x w → H'[id]? = some (.cells (splice cs off w.cells)) → (∀ i, i ≠ id → lo ≤ i → i < hi → H'[i]? = H[i]?) → p ≠ [] → Rd H' (D.put p d x) v
  | [], d, lo, hi, v, id0, o0, cs0, hR, h0, hc, hrd, hal => by
    simp only [D.at]
    have hv := (Rd.of _ _ _ _ (fun i _ _ => rfl) hR).cells
    obtain ⟨a, b, c, e, rfl⟩ := hv
    exact ⟨id0, o0, cs0, .nil _, hc, (rd_at3 hrd).2, hal, fun _ => ⟨rfl, rfl⟩, fun h => absurd rfl h, fun _ _ _ _ _ _ h => absurd rfl h⟩
  | i :: p, .mk k n t l, lo, hi, v, id0, o0, cs0, hR, h0, hc, hrd, hal => by
    simp only [RdR] at hR
    obtain ⟨x, rfl, hx⟩ := hR
    obtain ⟨hr3, hr4⟩ := rd_at3 hrd
    have hld : loadF (.ref id0 (o0 + 3)) none H = some (x, H) := by rw [loadF_ref, hc, loadO_cells, hr3]; rfl
    rcases hx with ⟨rfl, rfl⟩ | ⟨id, us, hl, rfl, a1, a2, a3, a4⟩
    · have : ¬ (0 ≤ i ∧ i < ((0 : Nat) : Int)) := by omega
      have hn : D.at (i :: p) (.mk k n t []) = none := by rw [D.at]; rw [if_neg]; simp [D.kids]
      rw [hn]
      exact .bad _ _ 0 i p ⟨_, rfl, rfl, hld, rfl⟩ this
    · have hs : Stp H (.ref id0 o0) (.row id 0 l.length (some 4)) l.length := ⟨_, rfl, rfl, hld, rfl⟩
      have hlen := RdRs.len _ _ _ _ a4
      have hagg := Rds.aggs _ _ (Rds.of _ _ _ _ (fun i _ _ => rfl) a4)
      have h4 := RdRs.cells _ _ _ _ a4
      by_cases hi' : 0 ≤ i ∧ i < l.length
      · have hj : i.toNat < l.length := by omega
        have hj' : i.toNat < us.length := by omega
        obtain ⟨a, b, b1, b2, b3, b4, b5, b6⟩ := RdRs.at _ _ _ _ a4 i.toNat hj hj'
        have hat : D.at (i :: p) (.mk k n t l) = D.at p l[i.toNat] := by
          rw [D.at, if_pos (by simpa [D.kids] using hi')]
          simp only [D.kids, List.getElem?_eq_getElem hj]
        have hput : ∀ x, D.put (i :: p) (.mk k n t l) x = .mk k n t (l.set i.toNat (D.put p l[i.toNat] x)) := by
          intro x
          simp only [D.put, List.getElem?_eq_getElem hj]
        have hia : iaF 4 (.row id 0 l.length (some 4)) (some i) H = some (.ref id (i.toNat * 4), H) := by
          rw [iaF_row, if_pos ⟨hi'.1, hi'.2, rfl⟩, Nat.zero_add]
        rw [hat]
        have ih := Pl.rows p l[i.toNat] a b us[i.toNat] id (i.toNat * 4) (flats us) b4 (by omega) a3 (rd_flat hagg hj') ⟨us, i.toNat, rfl, rfl, hj', h4⟩
        cases hu : D.at p l[i.toNat] with
        | none =>
          rw [hu] at ih
          exact .step _ _ _ i p _ _ hs hi'.1 hi'.2 hia ih
        | some u =>
          rw [hu] at ih
          obtain ⟨id1, off, cs, c1, c2, c3, cal, c4, c5, c6⟩ := ih
          have hid1 : id ≤ id1 ∧ id1 < hi ∧ (p ≠ [] → id < id1 ∧ a ≤ id1 ∧ id1 < b) ∧ (p = [] → id1 = id) := by
            by_cases hp : p = []
            · have := (c4 hp).1; exact ⟨by omega, by omega, fun h => absurd hp h, fun _ => this⟩
            · have := c5 hp; exact ⟨by omega, by omega, fun _ => ⟨by omega, by omega, by omega⟩, fun h => absurd h hp⟩
          refine ⟨id1, off, cs, .step _ _ _ i p _ _ hs hi'.1 hi'.2 hia c1, c2, c3, cal, (fun h => by cases h), fun _ => ⟨by omega, by omega⟩, fun H' x w hw hH1 hH2 _ => ?_⟩
          rw [hput]
          have key : ∃ w', Rd H' (D.put p l[i.toNat] x) w' ∧ H'[id]? = some (.cells (flats (us.set i.toNat w'))) := by
            by_cases hp : p = []
            · subst hp
              obtain ⟨rfl, rfl⟩ := c4 rfl
              rw [c2] at a3
              simp only [Option.some.injEq, O.cells.injEq] at a3
              subst a3
              rw [splice_flat h4 hj' hw.len4] at hH1
              exact ⟨w, by simpa [D.put] using hw, hH1⟩
            · have h7 := c6 H' x w hw hH1 (fun i j1 j2 j3 => hH2 i j1 (by omega) (by omega)) hp
              have := hid1.2.2.1 hp
              exact ⟨us[i.toNat], h7, by rw [hH2 id (by omega) a1 a2, a3, List.set_getElem_self]⟩
          obtain ⟨w', hw', hset⟩ := key
          simp only [Rd]
          refine ⟨_, us.set i.toNat w', rfl, .inr ⟨?_, id, by simp [hlen], hset⟩, ?_⟩
          · intro h
            have := congrArg List.length h
            simp only [List.length_set, List.length_nil] at this
            omega
          · rw [List.set_eq_take_append_cons_drop, if_pos hj, List.set_eq_take_append_cons_drop, if_pos hj']
            refine Rds.app _ _ _ _ (Rds.of _ _ _ _ (fun q j1 j2 => ?_) b5) ?_
            · refine hH2 q ?_ (by omega) (by omega)
              by_cases hp : p = []
              · have := hid1.2.2.2 hp; omega
              · have := hid1.2.2.1 hp; omega
            · simp only [Rds]
              refine ⟨w', _, rfl, hw', Rds.of _ _ _ _ (fun q j1 j2 => ?_) b6⟩
              refine hH2 q ?_ (by omega) j2
              by_cases hp : p = []
              · have := hid1.2.2.2 hp; omega
              · have := hid1.2.2.1 hp; omega
      · have hn : D.at (i :: p) (.mk k n t l) = none := by rw [D.at]; rw [if_neg]; simpa [D.kids] using hi'
        rw [hn]
        exact .bad _ _ _ i p hs hi'

theorem D.szs_set : ∀ (l : List D) (j : Nat) (h : j < l.length) (y : D), D.szs (l.set j y) + (l[j]).sz = D.szs l + y.sz
  | d :: l, 0, h, y => by simp only [List.set_cons_zero, D.szs, List.getElem_cons_zero]; omega
  | d :: l, j + 1, h, y => by
    have := D.szs_set l j (by simpa using h) y
    simp only [List.set_cons_succ, D.szs, List.getElem_cons_succ]
    omega
theorem D.put_sz (x : D) : ∀ (p : List Int) (d u : D), D.at p d = some u → (D.put p d x).sz + u.sz = d.sz + x.sz
  | [], d, u, h => by simp only [D.at, Option.some.injEq] at h; subst h; simp only [D.put]; omega
  | i :: p, .mk k n t l, u, h => by
    rw [D.at] at h
    by_cases hi : 0 ≤ i ∧ i < ((D.mk k n t l).kids.length : Int)
    · rw [if_pos hi] at h
      simp only [D.kids] at h hi
      have hj : i.toNat < l.length := by omega
      rw [List.getElem?_eq_getElem hj] at h
      have h1 := D.put_sz x p _ u h
      have h2 := D.szs_set l i.toNat hj (D.put p l[i.toNat] x)
      simp only [D.put, List.getElem?_eq_getElem hj, D.sz]
      omega
    · rw [if_neg hi] at h
      cases h
/-- A function that reads a datum in rows. -/
theorem call_rows {n f : Nat} {xf : XF} {d : D} {v r : V} {H : List O} (hE : E f = none) (hX : X f = some xf) (hp : xf.pure = true ∧ xf.esc = false) (hg : Gives (n + 1) f [d.v] r) (hr : r.flat = true) (hv : Rd H d v) (hn : d.dp ≤ n) : call X E (n + 1) f [v] H = some (r, H) := by
  have h1 := hg H
  simp only [call, hE, hX] at h1 ⊢
  have hvw := hv.vw2.1
  unfold runF at h1 ⊢
  rw [if_pos hp.1] at h1 ⊢
  have hl0 : V.lows 0 ([d.v].map V.vw2) = true := by simp [D.vw2, V.lows, D.low]
  rw [if_pos hl0, if_neg (by simp [hp.2])] at h1
  simp only [List.map_cons, List.map_nil, hvw, D.vw2] at h1 ⊢
  by_cases hlow : V.lows 0 [v] = true
  · have : v = d.v := Rd.tree d v hv (by simpa [V.lows] using hlow)
    subst this
    rw [if_pos hlow, if_neg (by simp [hp.2])]
    exact h1
  · rw [if_neg hlow, if_neg (by simp [hp.2])]
    have hs := Rd.snap d n v hn hv
    simp only [mapO, hs]
    have hl1 : V.lows 0 [d.v] = true := by simp [V.lows, D.low]
    rw [if_pos hl1]
    revert h1
    cases hf : fin false n xf.res (exec (call X E n) n xf.body (start xf [d.v] [])) with
    | none => intro h1; cases h1
    | some q =>
      obtain ⟨q1, q2⟩ := q
      intro h1
      simp only [Option.map_some, Option.some.injEq, Prod.mk.injEq, and_true] at h1
      subst h1
      simp only [hr, if_true]

/-- What Put gives. -/
def putD (p : List Int) (d x : D) : D × Int := if d.ck ≠ 0 then (.zero, d.ck) else if x.ck ≠ 0 then (.zero, x.ck) else if (D.at p d).isNone then (.zero, 5) else if (D.put p d x).ck ≠ 0 then (.zero, 3) else (D.put p d x, 0)
end Go.Proofs.Ytbkgpdkimcnpgaa.Ab
