/- Places, and At. -/
import Derived.Test.YtbkgpdkimcnpgaaRd34
namespace Go.Proofs.Ytbkgpdkimcnpgaa.Ab
open Go
set_option linter.unusedVariables false
set_option linter.unusedSimpArgs false
set_option maxRecDepth 4000
set_option maxHeartbeats 1000000

/-- The datum to which a path leads. -/
def D.at : List Int → D → Option D
  | [], d => some d
  | i :: p, d => if 0 ≤ i ∧ i < d.kids.length then match d.kids[i.toNat]? with
    | some k => D.at p k
    | none => none
    else none
/-- A datum with another one there. -/
def D.put : List Int → D → D → D
  | [], _, x => x
  | i :: p, .mk k n t l, x => match l[i.toNat]? with
    | some y => .mk k n t (l.set i.toNat (D.put p y x))
    | none => .mk k n t l
def nilP : V := .c (.pointer none)
/-- A pointer to a datum, and what is there as its kids. -/
def Stp (H : List O) (q x : V) (n : Nat) : Prop := ∃ q3, nckF q H = some (q, H) ∧ faF 3 q H = some (q3, H) ∧ loadF q3 none H = some (x, H) ∧ lenF x H = some (.c (.int .i64 n), H)
inductive Pl (H : List O) : V → List Int → V → Prop
  | nil (q : V) : Pl H q [] q
  | bad (q x : V) (n : Nat) (i : Int) (p : List Int) : Stp H q x n → ¬ (0 ≤ i ∧ i < n) → Pl H q (i :: p) nilP
  | step (q x : V) (n : Nat) (i : Int) (p : List Int) (q' r : V) : Stp H q x n → 0 ≤ i → i < n → iaF 4 x (some i) H = some (q', H) → Pl H q' p r → Pl H q (i :: p) r

structure I59 (H : List O) (p : List Int) (r : V) (m : Nat) (s : SF) : Prop where
  j : ∃ j : Nat, j + m = p.length ∧ s.e 9 = .c (.int .i64 j) ∧ Pl H (s.e 0) (p.drop j) r
  e7 : s.e 7 = pv p
  e8 : s.e 8 = .c (.int .i64 p.length)
  h : s.h = H
  b : s.base = H.length
theorem step59 {cf : CallF} {fu : Nat} {H : List O} {p : List Int} {r : V} (hl : p.length < 4611686018427387904) {Q : Ex → SF → Prop}
    (hQ : ∀ s, s.e 0 = r → s.h = H → s.base = H.length → Q (.exit 0) s)
    (hR : ∀ s, s.e 4 = r → s.h = H → s.base = H.length → Q .ret s) (m : Nat) (s : SF) (I : I59 H p r m s) :
    wpk cf fu x59l9 [] (fun e s' => match e with | .normal => ∃ k1, k1 < m ∧ I59 H p r k1 s' | e => Q e s') s := by
  obtain ⟨⟨j, hj, e9, hP⟩, e7, e8, hh, hb⟩ := I
  obtain ⟨e, h, base, rb⟩ := s
  simp only at e9 hP e7 e8 hh hb
  subst hh hb
  by_cases hm : j < p.length
  · have hlt : (j : Int) < p.length := by omega
    have hd : p.drop j = p[j] :: p.drop (j + 1) := List.drop_eq_getElem_cons hm
    rw [hd] at hP
    generalize hq : e 0 = q at *
    generalize hi : p[j] = i at *
    have hid : pv p = pv p := rfl
    cases hP with
    | bad _ x n _ _ hs hbad =>
      obtain ⟨q3, a1, a2, a3, a4⟩ := hs
      by_cases h0 : i < 0
      · simp -implicitDefEqProofs [x59l9_w, x59r3_w, x59r4_w, x59r5_w, x59r6_w, e7, e8, e9, hlt, hm, hq, hi, pv, I64, h0]
        exact hR _ (by simp [upd_at, nilP]) rfl rfl
      · have hn : (n : Int) ≤ i := by omega
        have hn' : i ≥ (n : Int) := by omega
        simp -implicitDefEqProofs [x59l9_w, x59r3_w, x59r4_w, x59r5_w, x59r6_w, e7, e8, e9, hlt, hm, hq, hi, pv, I64, h0, a1, a2, a3, a4, hn, hn']
        exact hR _ (by simp [upd_at, nilP]) rfl rfl
    | step _ x n _ _ q' _ hs hi0 hin hia hP =>
      obtain ⟨q3, a1, a2, a3, a4⟩ := hs
      have h0 : ¬ i < 0 := by omega
      have hn : ¬ (n : Int) ≤ i := by omega
      simp -implicitDefEqProofs [x59l9_w, x59r3_w, x59r4_w, x59r5_w, x59r7_w, x59r8_w, e7, e8, e9, hlt, hm, hq, hi, pv, I64, h0, a1, a2, a3, a4, hn, hia]
      refine ⟨m - 1, by omega, ⟨⟨j + 1, by omega, ?_, ?_⟩, ?_, ?_, rfl, rfl⟩⟩
      · simp only [upd_at, e9]
        simp
        rw [wrap_in (by omega)]
      · simpa [upd_at] using hP
      · simp [upd_at, e7, pv]
      · simp [upd_at, e8]
  · have hlt : ¬ (j : Int) < p.length := by omega
    rw [List.drop_of_length_le (by omega)] at hP
    have hr : r = e 0 := by cases hP; rfl
    simp -implicitDefEqProofs [x59l9_w, x59r3_w, e8, e9, hlt]
    exact hQ _ (by simp [upd_at, hr]) rfl rfl
theorem run59 {n : Nat} {H : List O} {q r : V} {p : List Int} (hP : Pl H q p r) (hl : p.length < n) (hl' : p.length < 4611686018427387904) (hq : q.vw2 = q) (hr : r.vw = r) (hlow : r.low H.length = true) (hH : H.all (O.low H.length) = true) :
    call X E (n + 1) 59 [q, pv p] H = some (r, H) := by
  have hE : E 59 = none := rfl
  have hX : X 59 = some x59 := rfl
  simp only [call, hE, hX]
  generalize call X E n = cf at *
  refine runF_at (by kernel_rfl) rfl rfl (wpk_of ?_)
  simp -implicitDefEqProofs [x59_w, x59r1_w, x59r2_w, hq, pv_vw2, pv_len]
  refine lpk_of (I59 H p r) p.length hl ⟨⟨0, by simp, by simp [upd_at], by simpa [upd_at, arg0] using hP⟩, by simp [upd_at, arg0], by simp [upd_at], rfl, rfl⟩ ?_
  refine step59 hl' (fun s h0 hh hb => ?_) fun s h4 hh hb => ?_
  · obtain ⟨e, h, base, rb⟩ := s
    simp only at h0 hh hb
    subst hh hb
    simp -implicitDefEqProofs [x59_r, x59r10_w, h0, hr, hlow, List.take_length]
    simpa using hH
  · obtain ⟨e, h, base, rb⟩ := s
    simp only at h4 hh hb
    subst hh hb
    simp -implicitDefEqProofs [x59_r, h4, hr, hlow, List.take_length]
    simpa using hH

theorem Rd.rd {H : List O} {d : D} {v : V} (h : Rd H d v) : rdV v.cells 0 (some 4) = some v := by obtain ⟨a, b, c, e, rfl⟩ := h.cells; rfl
/-- A pointer to a datum that lies still. -/
structure Good (H : List O) (r : V) (d : D) : Prop where
  nck : nckF r H = some (r, H)
  ld : loadF r (some 4) H = some (d.v, H)
  vw : r.vw = r ∧ r.vw2 = r
  low : r.low H.length = true
  ne : binV .eql 3 r nilP = some (.c (.bool false))
theorem D.low_cells (m : Nat) (d : D) : V.lows m d.v.cells = true := by
  have := D.lowBox m d
  rwa [olow_cells] at this
theorem Good.ptr (H : List O) (d : D) : Good H (.ptr d.v.cells 0) d := ⟨rfl, by simp [loadF_ptr, D.rd], ⟨rfl, rfl⟩, by simp [V.low, D.low_cells], rfl⟩
theorem Stp.ptr (H : List O) (d : D) : Stp H (.ptr d.v.cells 0) (.sl (D.vs d.kids) .any) d.kids.length := by
  obtain ⟨k, n, t, l⟩ := d
  exact ⟨.ptr (D.mk k n t l).v.cells 3, rfl, rfl, rfl, by rw [lenF_sl, D.vs_len]⟩
theorem Good.ref {H : List O} {d : D} (h : H[0]? = some (.cells d.v.cells)) : Good H (.ref 0 0) d := by
  have : 0 < H.length := (List.getElem?_eq_some_iff.1 h).1
  exact ⟨rfl, by simp [loadF_ref, h, loadO_cells, D.rd], ⟨rfl, rfl⟩, by simp [V.low, this], rfl⟩
theorem Stp.ref {H : List O} {d : D} (h : H[0]? = some (.cells d.v.cells)) : Stp H (.ref 0 0) (.sl (D.vs d.kids) .any) d.kids.length := by
  obtain ⟨k, n, t, l⟩ := d
  exact ⟨.ref 0 3, rfl, rfl, by rw [loadF_ref, h]; rfl, by rw [lenF_sl, D.vs_len]⟩
theorem Pl.tree {H : List O} : ∀ (p : List Int) (d : D) (q : V), Good H q d → Stp H q (.sl (D.vs d.kids) .any) d.kids.length → ∃ r, Pl H q p r ∧ match D.at p d with | some u => Good H r u | none => r = nilP
  | [], d, q, hg, hs => ⟨q, .nil q, hg⟩
  | i :: p, d, q, hg, hs => by
    simp only [D.at]
    by_cases hi : 0 ≤ i ∧ i < d.kids.length
    · have hj : i.toNat < d.kids.length := by omega
      rw [if_pos hi, List.getElem?_eq_getElem hj]
      obtain ⟨r, h1, h2⟩ := Pl.tree p d.kids[i.toNat] _ (Good.ptr H _) (Stp.ptr H _)
      refine ⟨r, .step q _ _ i p _ r hs hi.1 hi.2 ?_ h1, h2⟩
      rw [iaF_sl, if_pos ⟨hi.1, by rw [D.vs_len]; exact hi.2⟩, D.vs_get hj, elF_some, if_pos (D.cells_len _)]
    · rw [if_neg hi]
      exact ⟨nilP, .bad q _ _ i p hs hi, rfl⟩

/-- A function whose result lies in rows, with a number. -/
theorem gives_rd {n f k : Nat} {xf : XF} {args : List V} {d : D} {c : Value} (hE : E f = none) (hX : X f = some xf) (hk : args.length = k) (hx : xfOk xf k = true) (hp : xf.pure = true ∧ xf.esc = false) (hl : V.lows 0 (args.map V.vw2) = true) (hd : d.dp ≤ n)
    (hw : wpk (call X E n) n xf.body [] (Fin (fun vs s => ∃ v, resOf vs = .tup [v, .c c] ∧ Rd s d v.vw2) xf) ⟨arg0 (args.map V.vw2), [], 0, 0⟩) : Gives (n + 1) f args (.tup [d.v, .c c]) := by
  intro h
  simp only [call, hE, hX]
  subst hk
  have := exec_of (cf := call X E n) (n := n) (xf := xf) (args := args.map V.vw2) (h := []) (by simpa using hx) hw
  obtain ⟨e, s, vs, h1, h2, h3, h4, v, h5, h6⟩ := this
  have hvw : (resOf vs).vw = .tup [v.vw2, .c c] := by rw [h5]; rfl
  simp only [List.length_nil] at h4
  have hfin : ∀ e, (∀ id, e ≠ Ex.exit id) → fin false n xf.res (some (e, s)) = some (.tup [d.v, .c c], []) := by
    intro e he
    have hne : e = .normal ∨ e = .ret := by cases e with
      | exit id => exact absurd rfl (he id)
      | normal => exact .inl rfl
      | ret => exact .inr rfl
    have h7 : fin false n xf.res (some (.normal, s)) = some (.tup [d.v, .c c], []) := by
      simp only [fin, h3, hvw, h4, Bool.false_eq_true, if_false]
      by_cases hlow : V.low 0 (.tup [v.vw2, .c c]) = true
      · rw [if_pos hlow]
        simp only [V.low, V.lows, Bool.and_true] at hlow
        rw [Rd.tree d _ h6 hlow]
        simp
      · rw [if_neg hlow]
        have hn : 1 ≤ n := by have := D.dp_pos d; omega
        obtain ⟨n', rfl⟩ : ∃ n', n = n' + 1 := ⟨n - 1, by omega⟩
        have h8 : snapV 0 (snap 0 s.h n') s.h v.vw2 = some d.v := Rd.snapV d n' _ hd h6
        have h9 : snap 0 s.h (n' + 1) (.tup [v.vw2, .c c]) = some (.tup [d.v, .c c]) := by
          simp [snap, snapV, snapL, h8]
        rw [h9]
        simp [V.low, V.lows, D.low]
    rcases hne with rfl | rfl
    · exact h7
    · exact h7
  unfold runF
  rw [if_pos hp.1, if_pos hl, if_neg (by simp [hp.2]), h1, hfin e h2]
  rfl
theorem Rd.zero (H : List O) : Rd H (.mk 0 0 ⟨#[]⟩ []) (.agg [.c (.int .i64 0), .c (.int .i64 0), .c (.string ⟨#[]⟩), .sl [] .any]) := Rd.plain H (.mk 0 0 ⟨#[]⟩ [])
def D.zero : D := .mk 0 0 ⟨#[]⟩ []
/-- What At gives. -/
def atD (p : List Int) (d : D) : D × Int := if d.ck ≠ 0 then (.zero, d.ck) else match D.at p d with
  | some u => (u, 0)
  | none => (.zero, 5)
theorem D.kid_sz {d x : D} (h : x ∈ d.kids) : x.sz < d.sz := by
  obtain ⟨k, n, t, l⟩ := d
  have := D.mem_sz (l := l) h
  simp only [D.sz]
  omega
theorem D.at_sz : ∀ (p : List Int) (d u : D), D.at p d = some u → u.sz ≤ d.sz
  | [], d, u, h => by simp only [D.at, Option.some.injEq] at h; rw [h]; exact Nat.le_refl _
  | i :: p, d, u, h => by
    simp only [D.at] at h
    by_cases hi : 0 ≤ i ∧ i < d.kids.length
    · have hj : i.toNat < d.kids.length := by omega
      rw [if_pos hi, List.getElem?_eq_getElem hj] at h
      have h1 := D.at_sz p _ u h
      have h2 := D.kid_sz (List.getElem_mem hj)
      omega
    · rw [if_neg hi] at h
      cases h
theorem binV_nil : binV .eql 3 nilP nilP = some (.c (.bool true)) := rfl
theorem run33 {d : D} {p : List Int} {n : Nat} (hs : d.sz ≤ 100000) (hp : p.length ≤ 100000) (hn : 4 * d.sz + 64 ≤ n) (hn' : p.length + 1 < n) : Gives (n + 1) 33 [d.v, pv p] (.tup [(atD p d).1.v, .c (.int .i64 (atD p d).2)]) := by
  have c1 : ∀ h, call X E n 15 [d.v] h = some (.c (.int .i64 d.ck), h) := run15 d (by omega) n hn
  unfold atD
  by_cases h0 : d.ck = 0
  · have h0' : (d.ck != 0) = false := by simpa using h0
    have hH : ([.cells d.v.cells, .cells [.c (.int .i64 0), .c (.int .i64 0), .c (.string ⟨#[]⟩), .sl [] .nil]] : List O)[0]? = some (.cells d.v.cells) := rfl
    obtain ⟨r, hP, hr⟩ := Pl.tree p d _ (Good.ref hH) (Stp.ref hH)
    have c2 : r.vw = r → r.low 2 = true → call X E n 59 [.ref 0 0, pv p] [.cells d.v.cells, .cells [.c (.int .i64 0), .c (.int .i64 0), .c (.string ⟨#[]⟩), .sl [] .nil]] = some (r, [.cells d.v.cells, .cells [.c (.int .i64 0), .c (.int .i64 0), .c (.string ⟨#[]⟩), .sl [] .nil]]) := fun hv hl => by
      obtain ⟨n, rfl⟩ : ∃ n', n = n' + 1 := ⟨n - 1, by omega⟩
      refine run59 hP (by omega) (by omega) rfl hv hl ?_
      simp [D.low_cells, olow_cells, V.lows, V.low, SI.low]
    rw [if_neg (by simpa using h0)]
    cases hu : D.at p d with
    | none =>
      rw [hu] at hr
      subst hr
      have c3 := c2 rfl rfl
      refine gives_rd (d := .zero) (c := .int .i64 5) rfl rfl rfl (by kernel_rfl) ⟨rfl, rfl⟩ (by simp [D.vw2, V.lows, D.low, pv_vw2, pv_low]) (by simp [D.zero, D.dp, D.dps]; omega) ?_
      generalize call X E n = cf at *
      simp -implicitDefEqProofs [x33_w, x33_r, x33r1_w, x33r2_w, x33r3_w, x33r5_w, x33r6_w, x33r7_w, D.vw2, D.okc, D.rd, D.cells_len, pv_vw2, c1, c3, h0', nilP, binV]
      exact Rd.zero _
    | some u =>
      rw [hu] at hr
      obtain ⟨g1, g2, g3, g4, g5⟩ := hr
      have c3 := c2 g3.1 g4
      have hus := D.at_sz p d u hu
      have hdp := D.dp_le u
      obtain ⟨v, H, hv, _, hcl⟩ := run60 u (by omega) n (by omega) [.cells d.v.cells, .cells [.c (.int .i64 0), .c (.int .i64 0), .c (.string ⟨#[]⟩), .sl [] .nil]]
      have hv4 := RdR.len _ _ _ _ hv
      have hvd := Rd.of _ _ _ _ (fun i _ _ => rfl) hv
      have hvo := hvd.okc
      have hvr := hvd.rd
      have hvw := hvd.vw2.1
      refine gives_rd (d := u) (c := .int .i64 0) rfl rfl rfl (by kernel_rfl) ⟨rfl, rfl⟩ (by simp [D.vw2, V.lows, D.low, pv_vw2, pv_low]) (by omega) ?_
      generalize call X E n = cf at *
      unfold nilP at g5
      simp -implicitDefEqProofs [x33_w, x33_r, x33r1_w, x33r2_w, x33r3_w, x33r5_w, x33r6_w, x33r8_w, D.vw2, D.okc, D.rd, D.cells_len, pv_vw2, c1, c3, h0', g1, g2, g5, hcl, hv4, hvo, hvr, hvw]
      refine Rd.of _ _ _ _ (fun i j1 j2 => ?_) hv
      obtain ⟨i, rfl⟩ : ∃ i', i = i' + 2 := ⟨i - 2, by simp at j1; omega⟩
      simp
  · have h0' : (d.ck != 0) = true := by simpa using h0
    rw [if_pos h0]
    refine gives_rd (d := .zero) (c := .int .i64 d.ck) rfl rfl rfl (by kernel_rfl) ⟨rfl, rfl⟩ (by simp [D.vw2, V.lows, D.low, pv_vw2, pv_low]) (by simp [D.zero, D.dp, D.dps]; omega) ?_
    generalize call X E n = cf at *
    simp -implicitDefEqProofs [x33_w, x33_r, x33r1_w, x33r2_w, x33r3_w, x33r4_w, D.vw2, D.okc, D.rd, D.cells_len, pv_vw2, c1, h0']
    exact Rd.zero _
end Go.Proofs.Ytbkgpdkimcnpgaa.Ab
