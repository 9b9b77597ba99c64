/- At and Put, their objects let out. (Variant Q.) -/
import Derived.Test.YtbkgpdkimcnpgaaQd45
namespace Go.Proofs.Ytbkgpdkimcnpgaa.Ab
open Go
set_option linter.unusedVariables false
set_option linter.unusedSimpArgs false
set_option maxRecDepth 4000
set_option maxHeartbeats 1000000

theorem four_of {v : V} (h : v.cells.length = 4) : ∃ a b c e, v = .agg [a, b, c, e] := by
  cases v with
  | agg cs =>
    simp only [V.cells] at h
    match cs, h with
    | [a, b, c, e], _ => exact ⟨a, b, c, e, rfl⟩
  | _ => simp [V.cells] at h
theorem olow_set {H : List O} {n i : Nat} {o : O} (h : H.all (O.low n) = true) (ho : O.low n o = true) : (H.set i o).all (O.low n) = true := by
  rw [List.all_eq_true] at h ⊢
  intro q hq
  rcases List.mem_or_eq_of_mem_set hq with h1 | rfl
  · exact h q h1
  · exact ho
theorem RdRs.mem {H : List O} {l : List D} {lo hi : Nat} {us : List V} (h : RdRs H l lo hi us) : ∀ u ∈ us, ∃ d ∈ l, ∃ a b, lo ≤ a ∧ b ≤ hi ∧ RdR H d a b u := by
  intro u hu
  obtain ⟨i, hi', rfl⟩ := List.getElem_of_mem hu
  have hlen := RdRs.len _ _ _ _ h
  obtain ⟨a, b, h1, h2, h3, h4, _⟩ := RdRs.at _ _ _ _ h i (by omega) hi'
  exact ⟨_, List.getElem_mem _, a, b, h1, h3, h4⟩
theorem RdR.kv {H : List O} : ∀ (m : Nat) (d : D) (lo hi : Nat) (v : V), d.dp ≤ m → d.sz ≤ 10000 → RdR H d lo hi v → KV H lo hi m v
  | 0, d, lo, hi, v, hm, hs, h => by have := D.dp_pos d; omega
  | m + 1, .mk k n t l, lo, hi, v, hm, hs, h => by
    simp only [RdR] at h
    simp only [D.dp] at hm
    simp only [D.sz] at hs
    have hll := D.len_szs l
    obtain ⟨x, rfl, ⟨rfl, rfl⟩ | ⟨id, us, hl, rfl, a1, a2, a3, a4⟩⟩ := h
    · exact .inl ⟨_, _, _, _, rfl, rfl⟩
    · have hlen := RdRs.len _ _ _ _ a4
      refine .inr ⟨_, _, _, id, us, by rw [hlen]; rfl, ?_, by omega, a1, a2, a3, fun u hu => ?_⟩
      · rintro rfl
        exact hl (List.length_eq_zero_iff.1 (by simpa using hlen.symm))
      · obtain ⟨d, hd, a, b, h1, h2, h3⟩ := a4.mem u hu
        exact KV.agree (by omega) h2 (fun _ _ _ => rfl) (RdR.kv m d a b u (by have := D.dps_mem hd; omega) (by have := D.mem_sz hd; omega) h3)
theorem Leaf.shift {v : V} {k : Nat} (h : Leaf v) : Leaf (v.shift k) := by
  obtain ⟨a, b, c, i, rfl, hi⟩ := h
  refine ⟨a, b, c, i.shift k, by simp [V.shift, V.shifts], ?_⟩
  cases i <;> simp_all [SI.shift, SI.low]
theorem KV.shift {G H : List O} {lo b : Nat} : ∀ {m : Nat} {v : V}, KV H lo b m v → KV (G ++ H.map (O.shift G.length)) (lo + G.length) (b + G.length) m (v.shift G.length)
  | 0, v, h => Leaf.shift h
  | m + 1, v, h => by
    rcases h with h | ⟨x, y, z, id, us, rfl, a2, a3, a4, a5, a6, a7⟩
    · exact .inl (Leaf.shift h)
    · refine .inr ⟨x, y, z, id + G.length, us.map (V.shift G.length), by simp [V.shift, V.shifts], by simpa using a2, by simpa using a3, by omega, by omega, ?_, fun u hu => ?_⟩
      · rw [List.getElem?_append_right (by omega), Nat.add_sub_cancel, List.getElem?_map, a6]
        simp only [Option.map_some, O.shift, shifts_map]
        rw [← shift_flats, shifts_map]
      · obtain ⟨u, hu', rfl⟩ := List.mem_map.1 hu
        exact KV.shift (a7 u hu')
mutual
theorem Rd.shift {G H : List O} : ∀ (d : D) (v : V), Rd H d v → Rd (G ++ H.map (O.shift G.length)) d (v.shift G.length)
  | .mk k n t l, v, h => by
    simp only [Rd] at h ⊢
    obtain ⟨x, us, rfl, hx, hu⟩ := h
    refine ⟨_, us.map (V.shift G.length), shift_av k n t x _, ?_, Rds.shift l us hu⟩
    rcases hx with rfl | ⟨hne, id, rfl, hid⟩
    · exact .inl (by simp [V.shift, shifts_map, SI.shift])
    · refine .inr ⟨by simpa using hne, id + G.length, by simp [V.shift], ?_⟩
      rw [List.getElem?_append_right (by omega), Nat.add_sub_cancel, List.getElem?_map, hid]
      simp only [Option.map_some, O.shift, shifts_map]
      rw [← shift_flats, shifts_map]
theorem Rds.shift {G H : List O} : ∀ (l : List D) (us : List V), Rds H l us → Rds (G ++ H.map (O.shift G.length)) l (us.map (V.shift G.length))
  | [], us, h => by simp only [Rds] at h ⊢; rw [h]; rfl
  | d :: l, us, h => by
    simp only [Rds] at h ⊢
    obtain ⟨u, us', rfl, h1, h2⟩ := h
    exact ⟨u.shift G.length, us'.map (V.shift G.length), rfl, Rd.shift d u h1, Rds.shift l us' h2⟩
end

/-- A datum that is one's own: it reads as one, and may be overwritten. -/
def Own (d : D) (H : List O) (v : V) : Prop := Rd H d v ∧ KV H 0 H.length 3000 v ∧ H.all (O.low H.length) = true
/-- The same, behind other objects. -/
def OwnAt (d : D) (h H : List O) (v : V) : Prop := Rd (h ++ H) d v ∧ KV (h ++ H) h.length (h ++ H).length 3000 v ∧ H.all (O.low (h ++ H).length) = true
theorem Own.zero {H : List O} (h : H.all (O.low H.length) = true) : Own .zero H (.agg [.c (.int .i64 0), .c (.int .i64 0), .c (.string ⟨#[]⟩), .sl [] .any]) := ⟨Rd.zero _, .inl ⟨_, _, _, _, rfl, rfl⟩, h⟩
def CallsEsc (n f : Nat) (args : List V) (d : D) (c : Value) : Prop := ∀ h : List O, ∃ v H, call X E n f args h = some (.tup [v, .c c], h ++ H) ∧ OwnAt d h H v
theorem calls_esc {n f k : Nat} {xf : XF} {args : List V} {d : D} {c : Value} (hE : E f = none) (hX : X f = some xf) (hk : args.length = k) (hx : xfOk xf k = true) (hp : xf.pure = true ∧ xf.esc = true) (hl : V.lows 0 (args.map V.vw2) = true)
    (hw : wpk (call X E n) n xf.body [] (Fin (fun vs s => ∃ v, resOf vs = .tup [v, .c c] ∧ Own d s v.vw2) xf) ⟨arg0 (args.map V.vw2), [], 0, 0⟩) : CallsEsc (n + 1) f args d c := by
  intro h
  subst hk
  have := exec_of (cf := call X E n) (n := n) (xf := xf) (args := args.map V.vw2) (h := []) (by simpa using hx) hw
  obtain ⟨e, s, vs, h1, h2, h3, h4, v, h5, h6, h7, h8⟩ := this
  refine ⟨v.vw2.shift h.length, s.h.map (O.shift h.length), ?_, Rd.shift d _ h6, ?_, ?_⟩
  · simp only [call, hE, hX]
    unfold runF
    have hvw : (resOf vs).vw = .tup [v.vw2, .c c] := by rw [h5]; rfl
    rw [if_pos hp.1, if_pos hl, if_pos hp.2, h1]
    cases e with
    | exit id => exact absurd rfl (h2 id)
    | normal => simp [fin, h3, hvw, V.shift, V.shifts]
    | ret => simp [fin, h3, hvw, V.shift, V.shifts]
  · have := KV.shift (G := h) h7
    simpa [Nat.add_comm] using this
  · have := olow_shift (k := h.length) h8
    simpa [Nat.add_comm] using this
/-- A function that reads two data, the first in rows. -/
theorem call_rows2 {n f : Nat} {xf : XF} {d d' : D} {v r : V} {H : List O} (hE : E f = none) (hX : X f = some xf) (hp : xf.pure = true ∧ xf.esc = false) (hg : Gives (n + 1) f [d.v, d'.v] r) (hr : r.flat = true) (hv : Rd H d v) (hn : d.dp ≤ n) (hn' : d'.dp ≤ n) : call X E (n + 1) f [v, d'.v] H = some (r, H) := by
  have h1 := hg H
  simp only [call, hE, hX] at h1 ⊢
  have hvw := hv.vw2.1
  unfold runF at h1 ⊢
  rw [if_pos hp.1] at h1 ⊢
  have hl0 : V.lows 0 ([d.v, d'.v].map V.vw2) = true := by simp [D.vw2, V.lows, D.low]
  rw [if_pos hl0, if_neg (by simp [hp.2])] at h1
  simp only [List.map_cons, List.map_nil, hvw, D.vw2] at h1 ⊢
  by_cases hlow : V.lows 0 [v, d'.v] = true
  · have : v = d.v := Rd.tree d v hv (by simp only [V.lows, Bool.and_eq_true] at hlow; exact hlow.1)
    subst this
    rw [if_pos hlow, if_neg (by simp [hp.2])]
    exact h1
  · rw [if_neg hlow, if_neg (by simp [hp.2])]
    have hs := Rd.snap d n v hn hv
    have hs' := Rd.snap d' n d'.v hn' (Rd.plain H d')
    simp only [mapO, hs, hs']
    have hl1 : V.lows 0 [d.v, d'.v] = true := by simp [V.lows, D.low]
    rw [if_pos hl1]
    revert h1
    cases hf : fin false n xf.res (exec (call X E n) n xf.body (start xf [d.v, d'.v] [])) with
    | none => intro h1; cases h1
    | some q =>
      obtain ⟨q1, q2⟩ := q
      intro h1
      simp only [Option.map_some, Option.some.injEq, Prod.mk.injEq, and_true] at h1
      subst h1
      simp only [hr, if_true]
theorem run33e {d : D} {p : List Int} {n : Nat} (hs : d.sz ≤ 10000) (hp : p.length ≤ 100000) (hn : 4 * d.sz + 64 ≤ n) (hn' : p.length + 1 < n) : CallsEsc (n + 1) 33 [d.v, pv p] (atD p d).1 (.int .i64 (atD p d).2) := by
  have c1 : ∀ h, call X E n 15 [d.v] h = some (.c (.int .i64 d.ck), h) := run15 d (by omega) n hn
  unfold atD
  by_cases h0 : d.ck = 0
  · have h0' : (d.ck != 0) = false := by simpa using h0
    have hH : ([.cells d.v.cells, .cells [.c (.int .i64 0), .c (.int .i64 0), .c (.string ⟨#[]⟩), .sl [] .nil]] : List O)[0]? = some (.cells d.v.cells) := rfl
    obtain ⟨r, hP, hr⟩ := Pl.tree p d _ (Good.ref hH) (Stp.ref hH)
    have c2 : r.vw = r → r.low 2 = true → call X E n 59 [.ref 0 0, pv p] [.cells d.v.cells, .cells [.c (.int .i64 0), .c (.int .i64 0), .c (.string ⟨#[]⟩), .sl [] .nil]] = some (r, [.cells d.v.cells, .cells [.c (.int .i64 0), .c (.int .i64 0), .c (.string ⟨#[]⟩), .sl [] .nil]]) := fun hv hl => by
      obtain ⟨n, rfl⟩ : ∃ n', n = n' + 1 := ⟨n - 1, by omega⟩
      refine run59 hP (by omega) (by omega) rfl hv hl ?_
      simp [D.low_cells, olow_cells, V.lows, V.low, SI.low]
    rw [if_neg (by simpa using h0)]
    cases hu : D.at p d with
    | none =>
      rw [hu] at hr
      subst hr
      have c3 := c2 rfl rfl
      refine calls_esc (d := .zero) (c := .int .i64 5) rfl rfl rfl (by kernel_rfl) ⟨rfl, rfl⟩ (by simp [D.vw2, V.lows, D.low, pv_vw2, pv_low]) ?_
      generalize call X E n = cf at *
      simp -implicitDefEqProofs [x33_w, x33_r, x33r1_w, x33r2_w, x33r3_w, x33r5_w, x33r6_w, x33r7_w, D.vw2, D.okc, D.rd, D.cells_len, pv_vw2, c1, c3, h0', nilP, binV]
      exact Own.zero (by simp [olow_cells, D.low_cells, V.lows, V.low, SI.low])
    | some u =>
      rw [hu] at hr
      obtain ⟨g1, g2, g3, g4, g5⟩ := hr
      have c3 := c2 g3.1 g4
      have hus := D.at_sz p d u hu
      have hdp := D.dp_le u
      obtain ⟨v, H, hv, hlv, hcl⟩ := run60 u (by omega) n (by omega) [.cells d.v.cells, .cells [.c (.int .i64 0), .c (.int .i64 0), .c (.string ⟨#[]⟩), .sl [] .nil]]
      have hv4 := RdR.len _ _ _ _ hv
      have hvd := Rd.of _ _ _ _ (fun i _ _ => rfl) hv
      have hvo := hvd.okc
      have hvr := hvd.rd
      have hvw := hvd.vw2.1
      refine calls_esc (d := u) (c := .int .i64 0) rfl rfl rfl (by kernel_rfl) ⟨rfl, rfl⟩ (by simp [D.vw2, V.lows, D.low, pv_vw2, pv_low]) ?_
      generalize call X E n = cf at *
      unfold nilP at g5
      simp -implicitDefEqProofs [x33_w, x33_r, x33r1_w, x33r2_w, x33r3_w, x33r5_w, x33r6_w, x33r8_w, D.vw2, D.okc, D.rd, D.cells_len, pv_vw2, c1, c3, h0', g1, g2, g5, hcl, hv4, hvo, hvr, hvw]
      have hv2 : RdR (O.cells d.v.cells :: .cells v.cells :: H) u 2 (H.length + 2) v := by
        refine RdR.agree _ _ _ _ _ _ (by simp) (by simp) (fun i j1 j2 => ?_) hv
        obtain ⟨i, rfl⟩ : ∃ i', i = i' + 2 := ⟨i - 2, by simp only [List.length_cons, List.length_nil] at j1; omega⟩
        simp
      have hvl := RdR.low _ _ _ _ hv2
      refine ⟨Rd.of _ _ _ _ (fun _ _ _ => rfl) hv2, KV.agree (Nat.zero_le _) (Nat.le_refl _) (fun _ _ _ => rfl) (RdR.kv 3000 u 2 (H.length + 2) v (by have := D.at_dp p d u hu; have := ((D.ck_zero d).1 h0).2.2; omega) (by omega) hv2), ?_⟩
      have hlc := lows_of (n := H.length + 2) fun w hw => low_cells hvl w hw
      have hlv' : H.all (O.low (H.length + 2)) = true := by
        have e : H.length + 2 = ([O.cells d.v.cells, .cells [.c (.int .i64 0), .c (.int .i64 0), .c (.string ⟨#[]⟩), .sl [] .nil]] ++ H).length := by simp
        rw [e]
        exact hlv
      simp only [List.all_cons, List.length_cons, olow_cells, D.low_cells, Bool.true_and]
      rw [show H.length + 1 + 1 = H.length + 2 by omega, hlc, hlv']
      rfl
  · have h0' : (d.ck != 0) = true := by simpa using h0
    rw [if_pos h0]
    refine calls_esc (d := .zero) (c := .int .i64 d.ck) rfl rfl rfl (by kernel_rfl) ⟨rfl, rfl⟩ (by simp [D.vw2, V.lows, D.low, pv_vw2, pv_low]) ?_
    generalize call X E n = cf at *
    simp -implicitDefEqProofs [x33_w, x33_r, x33r1_w, x33r2_w, x33r3_w, x33r4_w, D.vw2, D.okc, D.rd, D.cells_len, pv_vw2, c1, h0']
    exact Own.zero (by simp [olow_cells, D.low_cells, V.lows, V.low, SI.low])
theorem run34e {d x : D} {p : List Int} {n : Nat} (hs : d.sz ≤ 10000) (hs' : x.sz ≤ 10000) (hp : p.length ≤ 100000) (hn : 4 * (d.sz + x.sz) + 64 ≤ n) (hn' : p.length + 1 < n) : CallsEsc (n + 1) 34 [d.v, pv p, x.v] (putD p d x).1 (.int .i64 (putD p d x).2) := by
  have c1 : ∀ h, call X E n 15 [d.v] h = some (.c (.int .i64 d.ck), h) := run15 d (by omega) n (by omega)
  have c2 : ∀ h, call X E n 15 [x.v] h = some (.c (.int .i64 x.ck), h) := run15 x (by omega) n (by omega)
  have hl0 : V.lows 0 ([d.v, pv p, x.v].map V.vw2) = true := by simp [D.vw2, V.lows, D.low, pv_vw2, pv_low]
  have hz1 : D.zero.dp ≤ n := by simp [D.zero, D.dp, D.dps]; omega
  unfold putD
  by_cases h0 : d.ck = 0
  rotate_left
  · have h0' : (d.ck != 0) = true := by simpa using h0
    rw [if_pos h0]
    refine calls_esc (d := .zero) (c := .int .i64 d.ck) rfl rfl rfl (by kernel_rfl) ⟨rfl, rfl⟩ hl0 ?_
    generalize call X E n = cf at *
    simp -implicitDefEqProofs [x34_w, x34_r, x34r1_w, x34r2_w, x34r3_w, x34r4_w, D.vw2, D.okc, D.rd, D.cells_len, pv_vw2, c1, h0']
    exact Own.zero (by simp [olow_cells, D.low_cells, V.lows, V.low, SI.low])
  have h0' : (d.ck != 0) = false := by simpa using h0
  rw [if_neg (by simpa using h0)]
  by_cases h1 : x.ck = 0
  rotate_left
  · have h1' : (x.ck != 0) = true := by simpa using h1
    rw [if_pos h1]
    refine calls_esc (d := .zero) (c := .int .i64 x.ck) rfl rfl rfl (by kernel_rfl) ⟨rfl, rfl⟩ hl0 ?_
    generalize call X E n = cf at *
    simp -implicitDefEqProofs [x34_w, x34_r, x34r1_w, x34r2_w, x34r3_w, x34r5_w, x34r6_w, x34r7_w, D.vw2, D.okc, D.rd, D.cells_len, pv_vw2, c1, c2, h0', h1']
    exact Own.zero (by simp [olow_cells, D.low_cells, V.lows, V.low, SI.low])
  have h1' : (x.ck != 0) = false := by simpa using h1
  rw [if_neg (by simpa using h1)]
  obtain ⟨v, H1, hv, hlv, hcl⟩ := run60 d (by omega) n (by omega) [.cells d.v.cells, .cells x.v.cells, .cells [.c (.int .i64 0), .c (.int .i64 0), .c (.string ⟨#[]⟩), .sl [] .nil], .cells [.c (.int .i64 0), .c (.int .i64 0), .c (.string ⟨#[]⟩), .sl [] .nil]]
  have hv4 := RdR.len _ _ _ _ hv
  have hvlow := RdR.low _ _ _ _ hv
  have hvd := Rd.of _ _ _ _ (fun i _ _ => rfl) hv
  have hvo := hvd.okc
  have hvr := hvd.rd
  have hvw := hvd.vw2.1
  simp only [List.cons_append, List.nil_append, List.length_cons, List.length_nil] at hv hlv hcl hvlow
  have hv' : RdR (.cells d.v.cells :: .cells x.v.cells :: .cells [.c (.int .i64 0), .c (.int .i64 0), .c (.string ⟨#[]⟩), .sl [] .nil] :: .cells v.cells :: H1) d 4 (H1.length + 4) v := by
    refine RdR.agree _ _ _ _ _ _ (Nat.le_refl _) (Nat.le_refl _) (fun i j1 j2 => ?_) hv
    obtain ⟨i, rfl⟩ : ∃ i', i = i' + 4 := ⟨i - 4, by omega⟩
    simp
  have hPl := Pl.rows p d 4 (H1.length + 4) v 3 0 v.cells hv' (by omega) rfl hvr ⟨[v], 0, by simp [flats], rfl, by simp, by simpa using hv4⟩
  have hHH : (O.cells d.v.cells :: .cells x.v.cells :: .cells [.c (.int .i64 0), .c (.int .i64 0), .c (.string ⟨#[]⟩), .sl [] .nil] :: .cells v.cells :: H1).all (O.low (H1.length + 1 + 1 + 1 + 1)) = true := by
    have := lows_of (n := H1.length + 1 + 1 + 1 + 1) fun w hw => low_cells hvlow w hw
    simp only [List.all_cons, hlv, D.lowBox, olow_cells, D.low_cells, this]
    rfl
  have c3 : ∀ r, Pl (O.cells d.v.cells :: .cells x.v.cells :: .cells [.c (.int .i64 0), .c (.int .i64 0), .c (.string ⟨#[]⟩), .sl [] .nil] :: .cells v.cells :: H1) (.ref 3 0) p r → r.vw = r → r.low (H1.length + 1 + 1 + 1 + 1) = true →
      call X E n 59 [.ref 3 0, pv p] (O.cells d.v.cells :: .cells x.v.cells :: .cells [.c (.int .i64 0), .c (.int .i64 0), .c (.string ⟨#[]⟩), .sl [] .nil] :: .cells v.cells :: H1) = some (r, O.cells d.v.cells :: .cells x.v.cells :: .cells [.c (.int .i64 0), .c (.int .i64 0), .c (.string ⟨#[]⟩), .sl [] .nil] :: .cells v.cells :: H1) := fun r hP hr hl => by
    obtain ⟨n, rfl⟩ : ∃ n', n = n' + 1 := ⟨n - 1, by omega⟩
    exact run59 hP (by omega) (by omega) rfl hr hl hHH
  cases hu : D.at p d with
  | none =>
    rw [hu] at hPl
    have c4 := c3 _ hPl rfl rfl
    simp only [Option.isNone_none, if_true]
    refine calls_esc (d := .zero) (c := .int .i64 5) rfl rfl rfl (by kernel_rfl) ⟨rfl, rfl⟩ hl0 ?_
    generalize call X E n = cf at *
    simp -implicitDefEqProofs [x34_w, x34_r, x34r1_w, x34r2_w, x34r3_w, x34r5_w, x34r6_w, x34r8_w, x34r9_w, x34r10_w, x34r11_w, D.vw2, D.okc, D.rd, D.cells_len, pv_vw2, c1, c2, h0', h1', hcl, hvo, hv4, c4, nilP, binV]
    exact Own.zero hHH
  | some u =>
    rw [hu] at hPl
    obtain ⟨id, off, cs, k1, k2, k3, kal, k4, k5, k6⟩ := hPl
    have hput := D.put_sz x p d u hu
    have hdp := D.dp_le (D.put p d x)
    have hus := D.sz_pos u
    simp only [Option.isNone_some, Bool.false_eq_true, if_false]
    obtain ⟨w, H2, hw, hlw, hcl2⟩ := run60 x (by omega) n (by omega) (.cells d.v.cells :: .cells x.v.cells :: .cells [.c (.int .i64 0), .c (.int .i64 0), .c (.string ⟨#[]⟩), .sl [] .nil] :: .cells v.cells :: H1)
    have hw4 := RdR.len _ _ _ _ hw
    have hwd := Rd.of _ _ _ _ (fun i _ _ => rfl) hw
    have hwo := hwd.okc
    have hwr := hwd.rd
    have hww := hwd.vw2.1
    have gLow : ((O.cells d.v.cells :: .cells x.v.cells :: .cells [.c (.int .i64 0), .c (.int .i64 0), .c (.string ⟨#[]⟩), .sl [] .nil] :: .cells v.cells :: H1) ++ H2).all (O.low ((O.cells d.v.cells :: .cells x.v.cells :: .cells [.c (.int .i64 0), .c (.int .i64 0), .c (.string ⟨#[]⟩), .sl [] .nil] :: .cells v.cells :: H1) ++ H2).length) = true := by
      rw [List.all_append, hlw, olow_mono (by simp) hHH]
      rfl
    have hwlow := RdR.low _ _ _ _ hw
    have kvw := RdR.kv 1000 x _ _ w (((D.ck_zero x).1 h1).2.2) (by omega) hw
    have hid : 3 ≤ id ∧ id < H1.length + 4 := by
      by_cases hpe : p = []
      · have := (k4 hpe).1; omega
      · have := k5 hpe; omega
    have gL : ∀ i, i < H1.length + 4 → ((O.cells d.v.cells :: .cells x.v.cells :: .cells [.c (.int .i64 0), .c (.int .i64 0), .c (.string ⟨#[]⟩), .sl [] .nil] :: .cells v.cells :: H1) ++ H2)[i]? = (O.cells d.v.cells :: .cells x.v.cells :: .cells [.c (.int .i64 0), .c (.int .i64 0), .c (.string ⟨#[]⟩), .sl [] .nil] :: .cells v.cells :: H1)[i]? := fun i hi => by
      rw [List.getElem?_append_left]
      simpa using hi
    have kvv : KV ((O.cells d.v.cells :: .cells x.v.cells :: .cells [.c (.int .i64 0), .c (.int .i64 0), .c (.string ⟨#[]⟩), .sl [] .nil] :: .cells v.cells :: H1) ++ H2) 4 ((O.cells d.v.cells :: .cells x.v.cells :: .cells [.c (.int .i64 0), .c (.int .i64 0), .c (.string ⟨#[]⟩), .sl [] .nil] :: .cells v.cells :: H1) ++ H2).length 1000 v :=
      RdR.kv 1000 d _ _ v (((D.ck_zero d).1 h0).2.2) (by omega) (RdR.agree _ _ _ _ _ _ (Nat.le_refl _) (by simp) (fun i j1 j2 => gL i j2) hv')
    have g2 : ((O.cells d.v.cells :: .cells x.v.cells :: .cells [.c (.int .i64 0), .c (.int .i64 0), .c (.string ⟨#[]⟩), .sl [] .nil] :: .cells v.cells :: H1) ++ H2)[2]? = some (.cells [.c (.int .i64 0), .c (.int .i64 0), .c (.string ⟨#[]⟩), .sl [] .nil]) := rfl
    have g3 : ((O.cells d.v.cells :: .cells x.v.cells :: .cells [.c (.int .i64 0), .c (.int .i64 0), .c (.string ⟨#[]⟩), .sl [] .nil] :: .cells v.cells :: H1) ++ H2)[3]? = some (.cells v.cells) := rfl
    have glen : H1.length + 1 + 1 + 1 + 1 ≤ ((O.cells d.v.cells :: .cells x.v.cells :: .cells [.c (.int .i64 0), .c (.int .i64 0), .c (.string ⟨#[]⟩), .sl [] .nil] :: .cells v.cells :: H1) ++ H2).length := by simp
    have gid := (gL id hid.2).trans k2
    have c4 := c3 _ k1 rfl (by simp only [V.low, decide_eq_true_eq]; omega)
    have hHl : (O.cells d.v.cells :: .cells x.v.cells :: .cells [.c (.int .i64 0), .c (.int .i64 0), .c (.string ⟨#[]⟩), .sl [] .nil] :: .cells v.cells :: H1).length = H1.length + 4 := rfl
    rw [hHl] at hw kvw
    have hk6 : ∀ H' w', Rd H' x w' → H'[id]? = some (.cells (splice cs off w'.cells)) → (∀ i, i ≠ id → 4 ≤ i → i < H1.length + 4 → H'[i]? = ((O.cells d.v.cells :: .cells x.v.cells :: .cells [.c (.int .i64 0), .c (.int .i64 0), .c (.string ⟨#[]⟩), .sl [] .nil] :: .cells v.cells :: H1) ++ H2)[i]?) → p ≠ [] → Rd H' (D.put p d x) v :=
      fun H' w' a1 a2 a3 a4 => k6 H' x w' a1 a2 (fun i j1 j2 j3 => (a3 i j1 j2 j3).trans (gL i j3)) a4
    obtain ⟨r, hr⟩ : ∃ r, r = V.ref id off := ⟨_, rfl⟩
    rw [← hr] at c4
    generalize hG : (O.cells d.v.cells :: .cells x.v.cells :: .cells [.c (.int .i64 0), .c (.int .i64 0), .c (.string ⟨#[]⟩), .sl [] .nil] :: .cells v.cells :: H1) ++ H2 = G at *
    have e1 : ∀ h, nckF r h = some (r, h) := fun h => by rw [hr]; rfl
    have e2 : binV .eql 3 r (.c (.pointer none)) = some (.c (.bool false)) := by rw [hr]; rfl
    have e3 : storeF r 4 w G = some (undefV, G.set id (.cells (splice cs off w.cells))) := by rw [hr, storeF_ref, gid, storeO_cells, if_pos ⟨hwo, hw4, k3⟩]
    have hgl : id < G.length := (List.getElem?_eq_some_iff.1 gid).1
    have f0 : (G.set id (.cells (splice cs off w.cells)))[id]? = some (.cells (splice cs off w.cells)) := by rw [List.getElem?_set_self hgl]
    have fn : ∀ i, i ≠ id → (G.set id (.cells (splice cs off w.cells)))[i]? = G[i]? := fun i hi => by rw [List.getElem?_set_ne (Ne.symm hi)]
    have f2 := (fn 2 (by omega)).trans g2
    have fl2 : 2 < (G.set id (.cells (splice cs off w.cells))).length := (List.getElem?_eq_some_iff.1 f2).1
    have hwG : KV (G.set id (.cells (splice cs off w.cells))) 4 G.length 1000 w := KV.agree (by omega) (Nat.le_refl _) (fun i j1 j2 => fn i (by omega)) kvw
    have uG : ∀ lo, lo ≤ id → Upd lo G.length (· = w) G (G.set id (.cells (splice cs off w.cells))) := fun lo hlo => by
      obtain ⟨us, j, rfl, rfl, hj, hu4⟩ := kal
      rw [splice_flat hu4 hj hw4]
      exact Upd.set hlo hgl gid (fun u hu => four_of (hu4 u hu)) hj rfl
    have hG'low := (uG 3 hid.1).low (n := G.length) (by simp) (fun u hu => by rw [hu]; exact hwlow) gLow
    have hG'len : (G.set id (.cells (splice cs off w.cells))).length = G.length := by simp
    have fs : ∀ c, ((G.set id (.cells (splice cs off w.cells))).set 2 c)[2]? = some c := fun c => by rw [List.getElem?_set_self fl2]
    generalize hG' : G.set id (.cells (splice cs off w.cells)) = G' at *
    have hvv : ∃ v', G'[3]? = some (.cells v'.cells) ∧ v'.cells.length = 4 ∧ okc v' = true ∧ rdV v'.cells 0 (some 4) = some v' ∧ v'.vw2 = v' ∧ KV G' 4 G.length 2000 v' ∧
        ∀ H' : List O, (∀ i, 3 ≤ i → H'[i]? = G'[i]?) → Rd H' (D.put p d x) v' := by
      have hxw : ∀ H' : List O, (∀ i, 3 ≤ i → H'[i]? = G'[i]?) → Rd H' x w := fun H' hH => Rd.of _ _ _ _ (fun i j1 j2 => by rw [hH i (by omega), fn i (by omega)]) hw
      by_cases hpe : p = []
      · obtain ⟨rfl, rfl⟩ := k4 hpe
        rw [g3] at gid
        simp only [Option.some.injEq, O.cells.injEq] at gid
        subst gid
        have hsp : splice v.cells 0 w.cells = w.cells := by
          unfold splice
          rw [hw4, List.drop_of_length_le (by omega)]
          simp
        rw [hsp] at f0
        refine ⟨w, f0, hw4, hwo, hwr, hww, KV.mono (by omega) hwG, fun H' hH => ?_⟩
        subst hpe
        rw [D.put]
        exact hxw H' hH
      · have h4 := k5 hpe
        refine ⟨v, (fn 3 (by omega)).trans g3, hv4, hvo, hvr, hvw, KV.upd (m := 1000) (m' := 1000) (uG 4 h4.1) (fun u hu => by rw [hu]; exact hwG) kvv, fun H' hH => ?_⟩
        exact hk6 H' w (hxw H' hH) ((hH id hid.1).trans f0) (fun i j1 j2 j3 => (hH i (by omega)).trans (fn i j1)) hpe
    obtain ⟨v', f3, hv'4, hv'o, hv'r, hv'w, hkv, hRd⟩ := hvv
    have hv'low := lows_of (n := G.length) fun y hy => low_cells hkv.low y hy
    have c5 : call X E n 15 [v'] G' = some (.c (.int .i64 (D.put p d x).ck), G') := by
      have h15 := run15 (D.put p d x) (by omega) n (by omega)
      obtain ⟨n, rfl⟩ : ∃ n', n = n' + 1 := ⟨n - 1, by omega⟩
      exact call_rows rfl rfl ⟨rfl, rfl⟩ h15 rfl (hRd G' fun i _ => rfl) (by omega)
    by_cases hck : (D.put p d x).ck = 0
    · have hck' : ((D.put p d x).ck != 0) = false := by simpa using hck
      rw [if_neg (by simpa using hck)]
      refine calls_esc (d := D.put p d x) (c := .int .i64 0) rfl rfl rfl (by kernel_rfl) ⟨rfl, rfl⟩ hl0 ?_
      clear c3 k1 hk6 k6 h0 h1
      generalize call X E n = cf at *
      simp -implicitDefEqProofs [x34_w, x34_r, x34r1_w, x34r2_w, x34r3_w, x34r5_w, x34r6_w, x34r8_w, x34r9_w, x34r10_w, x34r12_w, x34r13_w, x34r15_w, D.vw2, D.okc, D.rd, D.cells_len, pv_vw2, c1, c2, h0', h1', hcl, hvo, hv4, c4, e1, e2, e3, hcl2, f2, f3, fs, hv'4, hv'o, hv'r, hv'w, c5, hck']
      refine ⟨glen, hRd _ fun i j => ?_, ?_, ?_⟩
      · rw [List.getElem?_set_ne (by omega)]
      · rw [List.length_set, hG'len]
        exact KV.agree (Nat.zero_le _) (Nat.le_refl _) (fun i j1 j2 => by rw [List.getElem?_set_ne (by omega)]) (KV.mono (by omega) hkv)
      · rw [List.length_set, hG'len]
        exact olow_set hG'low hv'low
    · have hck' : ((D.put p d x).ck != 0) = true := by simpa using hck
      rw [if_pos (by simpa using hck)]
      refine calls_esc (d := .zero) (c := .int .i64 3) rfl rfl rfl (by kernel_rfl) ⟨rfl, rfl⟩ hl0 ?_
      clear c3 k1 hk6 k6 h0 h1
      generalize call X E n = cf at *
      simp -implicitDefEqProofs [x34_w, x34_r, x34r1_w, x34r2_w, x34r3_w, x34r5_w, x34r6_w, x34r8_w, x34r9_w, x34r10_w, x34r12_w, x34r13_w, x34r14_w, D.vw2, D.okc, D.rd, D.cells_len, pv_vw2, c1, c2, h0', h1', hcl, hvo, hv4, c4, e1, e2, e3, hcl2, f2, f3, fs, hv'4, hv'o, hv'r, hv'w, c5, hck']
      exact ⟨glen, Own.zero (by rw [List.length_set, hG'len]; exact olow_set hG'low (by simp [olow_cells, V.lows, V.low, SI.low]))⟩
end Go.Proofs.Ytbkgpdkimcnpgaa.Ab
