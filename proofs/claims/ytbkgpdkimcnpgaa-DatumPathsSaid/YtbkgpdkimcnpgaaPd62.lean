/- Paths: what it gives away. -/
import Derived.Test.YtbkgpdkimcnpgaaPd61
namespace Go.Proofs.Ytbkgpdkimcnpgaa.Ab
open Go
set_option linter.unusedVariables false
set_option linter.unusedSimpArgs false
set_option maxRecDepth 4000
set_option maxHeartbeats 1000000

theorem runF_escF {cf : CallF} {n : Nat} {xf : XF} {args : List V} {h : List O} {P : V → List O → Prop} (hx : xfOk xf args.length = true) (hp : xf.pure = true) (he : xf.esc = true) (hr : xf.rw = true) (hl : V.lows 0 (args.map V.vw2) = true)
    (hw : wpx cf n xf.body ⟨arg0 (args.map V.vw2), frees, frees.length, 0⟩ (Fin (fun vs s => P (resOf vs).vw s) xf)) : ∃ v H, P v H ∧ runF cf n xf args h = some (v.shift h.length, h ++ H.map (O.shift h.length)) := by
  have := exec_of (cf := cf) (n := n) (xf := xf) (args := args.map V.vw2) (h := frees) (by simpa using hx) hw
  obtain ⟨e, s, vs, h1, h2, h3, h4, h5⟩ := this
  refine ⟨(resOf vs).vw, s.h, h5, ?_⟩
  unfold runF
  rw [if_pos hp, if_pos hl, if_pos he, show pre0 xf = frees by simp [pre0, hr], h1]
  cases e with
  | exit id => exact absurd rfl (h2 id)
  | normal => simp [fin, h3]
  | ret => simp [fin, h3]

mutual
theorem D.pre_ne : ∀ (d : D) (ps : List Int), ps ≠ [] → ∀ p ∈ d.pre ps, p.2 ≠ []
  | .mk k n t l, ps, hne, p, hp => by
    simp only [D.pre, List.mem_cons] at hp
    rcases hp with rfl | hp
    · exact hne
    · exact D.pres_ne l ps 0 p hp
theorem D.pres_ne : ∀ (l : List D) (ps : List Int) (i : Nat), ∀ p ∈ D.pres l ps i, p.2 ≠ []
  | [], _, _, p, hp => by simp [D.pres] at hp
  | d :: l, ps, i, p, hp => by
    simp only [D.pres, List.mem_append] at hp
    rcases hp with hp | hp
    · exact D.pre_ne d _ (by simp) p hp
    · exact D.pres_ne l ps (i + 1) p hp
end
/-- The paths of all data. -/
def D.paths (d : D) : List (List Int) := (d.pre []).map (·.2)
theorem D.paths_len (d : D) : d.paths.length = d.sz := by simp [D.paths, D.pre_len]

/-- A path that lies in a row of its own, behind b. -/
def RowIs (H : List O) (b : Nat) (u : V) (p : List Int) : Prop := (p = [] ∧ u = .sl [] .any) ∨ (p ≠ [] ∧ ∃ id, b ≤ id ∧ u = .row id 0 p.length none ∧ H[id]? = some (pcell p))
def RowsAt (H : List O) (b : Nat) : List V → List (List Int) → Prop
  | [], [] => True
  | u :: us, p :: ps => RowIs H b u p ∧ RowsAt H b us ps
  | _, _ => False
theorem shift_pcell (k : Nat) (p : List Int) : (pcell p).shift k = pcell p := by
  simp only [pcell, O.shift, shifts_map, List.map_map]
  rfl
theorem RowIs.shift {H : List O} {u : V} {p : List Int} (h : List O) (r : RowIs H 0 u p) : RowIs (h ++ H.map (O.shift h.length)) h.length (u.shift h.length) p := by
  rcases r with ⟨rfl, rfl⟩ | ⟨hne, id, _, rfl, hi⟩
  · exact .inl ⟨rfl, rfl⟩
  · refine .inr ⟨hne, id + h.length, by omega, rfl, ?_⟩
    rw [List.getElem?_append_right (by omega), Nat.add_sub_cancel, List.getElem?_map, hi]
    simp [shift_pcell]
theorem RowsAt.shift {H : List O} (h : List O) : ∀ {us : List V} {ps : List (List Int)}, RowsAt H 0 us ps → RowsAt (h ++ H.map (O.shift h.length)) h.length (V.shifts h.length us) ps
  | [], [], _ => trivial
  | u :: us, p :: ps, r => ⟨r.1.shift h, RowsAt.shift h r.2⟩
theorem RowsAt.len {H : List O} {b : Nat} : ∀ {us : List V} {ps : List (List Int)}, RowsAt H b us ps → us.length = ps.length
  | [], [], _ => rfl
  | u :: us, p :: ps, r => by simp [RowsAt.len r.2]
theorem rows_at {H : List O} : ∀ (ps : List (List Int)) (k : Nat), (∀ p ∈ ps, p ≠ []) → (∀ i (hi : i < ps.length), H[k + i]? = some (pcell ps[i])) → RowsAt H 0 (rows k ps) ps
  | [], _, _, _ => trivial
  | p :: ps, k, hne, hi => ⟨.inr ⟨hne p (by simp), k, Nat.zero_le _, rfl, by have := hi 0 (by simp); simpa using this⟩, rows_at ps (k + 1) (fun q hq => hne q (by simp [hq])) fun i h => by
      have := hi (i + 1) (by simp; omega)
      rw [show k + 1 + i = k + (i + 1) by omega]
      simpa using this⟩

/-- What Paths gives. -/
def D.pck (d : D) : Int := if d.ck ≠ 0 then d.ck else if d.sz > 2000 then 7 else 0
theorem frees_e (m : Nat) (hm : m = 4095) : frees = List.replicate (m + 1) O.free := by subst hm; unfold frees; rfl

theorem frees_len : frees.length = 4096 := by unfold frees; exact List.length_replicate
theorem walk29 {d : D} {k : Nat} (hs : d.sz ≤ 2000) :
    ∃ out, (walk (fun x p h => yieldV (call X E (k + 2)) 57 [.ref (frees.length + 1) 0] x.v p h) (d.pre []) (frees ++ [.cells d.v.cells, .cells [.sl [] .nil]])) = some (true, out) ∧ ∃ us si, (∀ T, (out ++ T)[frees.length + 1]? = some (.cells [.sl us si])) ∧ RowsAt out 0 us d.paths := by
  have hbox := D.lowBox 4098 d
  generalize O.cells d.v.cells = a at *
  obtain ⟨kk, nn, t, l⟩ := d
  simp only [D.sz] at hs
  have hl := D.pres_len l [] 0
  have hne := D.pres_ne l [] 0
  have hpl := D.pres_path l [] 0
  have e0 : D.paths (.mk kk nn t l) = [] :: (D.pres l [] 0).map (·.2) := rfl
  rw [e0]
  simp only [D.pre]
  generalize hL : D.pres l [] 0 = L at *
  obtain ⟨m, hm⟩ : ∃ m, L.length + m = 4095 := ⟨4095 - L.length, by omega⟩
  rw [frees_len, frees_e (L.length + m) hm]
  simp only [walk]
  have ha : O.low (L.length + m + 3) a = true := by rw [hm]; exact hbox
  have h1 := run57n (n := k) (x := .mk kk nn t l) (m := L.length + m) (a := a) ha
  rw [show L.length + m + 2 = 4096 + 1 by omega] at h1
  rw [h1]
  simp only
  have h2 := walk57 (n := k) (a := a) L [] [.sl [] .any] m (fun p hp => ⟨hne p hp, by have := hpl p hp; simp only [List.length_nil] at this; omega⟩) (by simp) (by simp) (by simpa using ha) (by simp [V.lows, V.low, SI.low]) (by simp; omega) rfl (by simp)
  simp only [List.length_nil, List.length_cons, Nat.zero_add, List.nil_append] at h2
  rw [show L.length + m + 2 = 4096 + 1 by omega] at h2
  rw [h2]
  refine ⟨_, rfl, [.sl [] .any] ++ rows 1 (L.map (·.2)), .tok 0, fun T => ?_, ?_⟩
  · have := GS_out (1 + L.length) (L.map fun p => pcell p.2) m a (.sl ([.sl [] .any] ++ rows 1 (L.map (·.2))) (.tok 0)) T
    rw [List.length_map, show L.length + m + 2 = 4096 + 1 by omega] at this
    exact this
  · refine ⟨.inl ⟨rfl, rfl⟩, rows_at _ 1 (fun p hp => ?_) fun i hi => ?_⟩
    · obtain ⟨q, hq, rfl⟩ := List.mem_map.1 hp
      exact hne q hq
    · have hi' : i < L.length := by simpa using hi
      rw [Nat.add_comm 1 i]
      simp only [GS, List.getElem?_cons_succ]
      rw [List.getElem?_append_left (by simpa using hi')]
      simp [hi']
theorem call29 {d : D} {n : Nat} (hs : d.sz ≤ 1099511627776) (hn : 4 * d.sz + 70 ≤ n) (h : List O) :
    ∃ us H, call X E (n + 1) 29 [d.v] h = some (.tup [.sl us .any, .c (.int .i64 d.pck)], h ++ H) ∧ (d.pck ≠ 0 → us = []) ∧ (d.pck = 0 → RowsAt (h ++ H) h.length us d.paths) := by
  obtain ⟨k, rfl⟩ : ∃ k, n = k + 3 := ⟨n - 3, by omega⟩
  have hE : E 29 = none := rfl
  have hX : X 29 = some x29 := rfl
  have c1 : ∀ h, call X E (k + 3) 15 [d.v] h = some (.c (.int .i64 d.ck), h) := run15 d hs (k + 3) (by omega)
  have c2 : ∀ h, call X E (k + 3) 17 [d.v] h = some (.c (.int .i64 d.sz), h) := run17 (n := k + 2) hs (by omega)
  have key : ∃ (v : V) (H : List O), (∃ us : List V, v = .tup [.sl us .any, .c (.int .i64 d.pck)] ∧ (d.pck ≠ 0 → us = []) ∧ (d.pck = 0 → RowsAt H 0 us d.paths)) ∧ runF (call X E (k + 3)) (k + 3) x29 [d.v] h = some (v.shift h.length, h ++ H.map (O.shift h.length)) := by
    by_cases k1 : d.ck = 0
    · by_cases k2 : d.sz > 2000
      · have hp : d.pck = 7 := by simp [D.pck, k1, k2]
        rw [hp]
        generalize call X E (k + 3) = cf at *
        refine runF_escF (P := fun v H => ∃ us, v = .tup [.sl us .any, .c (.int .i64 7)] ∧ ((7 : Int) ≠ 0 → us = []) ∧ ((7 : Int) = 0 → RowsAt H 0 us d.paths)) (by kernel_rfl) rfl rfl rfl (by simp [D.vw2, V.lows, D.low]) (wpk_of ?_)
        have hk : ((d.ck) == 0) = true := by simp [k1]
        have hk2 : ((d.ck) != 0) = false := by simp [k1]
        have hz : (2000 : Int) < d.sz := by omega
        simp -implicitDefEqProofs [x29_w, x29_r, x29r1_w, x29r2_w, x29r3_w, x29r5_w, x29r6_w, D.vw2, D.okc, D.rd, D.cells_len, c1, c2, k1, hk, hk2, hz, get_at0, set_at0]
      · have hp : d.pck = 0 := by simp [D.pck, k1, k2]
        rw [hp]
        have hlast : ∃ out, (walk (fun x p h => yieldV (call X E (k + 2)) 57 [.ref (frees.length + 1) 0] x.v p h) (d.pre []) (frees ++ [.cells d.v.cells, .cells [.sl [] .nil]])) = some (true, out) ∧ ∃ us si, (∀ T, (out ++ T)[frees.length + 1]? = some (.cells [.sl us si])) ∧ RowsAt out 0 us d.paths := walk29 (by omega)
        obtain ⟨out, ho, us, si, hu, hra⟩ := hlast
        have c3 : call X E (k + 3) 45 [d.v, .sl [] .nil, .clo 57 [.ref (frees.length + 1) 0]] (frees ++ [.cells d.v.cells, .cells [.sl [] .nil]]) = some (.c (.bool true), out) := by
          rw [call45 (n := k + 2) (by omega) hs (by simp [V.lows, V.low])]
          rw [ho]
          rfl
        generalize call X E (k + 3) = cf at *
        refine runF_escF (P := fun v H => ∃ us, v = .tup [.sl us .any, .c (.int .i64 0)] ∧ ((0 : Int) ≠ 0 → us = []) ∧ ((0 : Int) = 0 → RowsAt H 0 us d.paths)) (by kernel_rfl) rfl rfl rfl (by simp [D.vw2, V.lows, D.low]) (wpk_of ?_)
        have hk2 : ((d.ck) != 0) = false := by simp [k1]
        have hz : ¬ (2000 : Int) < d.sz := by omega
        have hu0 := hu []
        rw [List.append_nil] at hu0
        simp -implicitDefEqProofs [x29_w, x29_r, x29r1_w, x29r2_w, x29r3_w, x29r5_w, x29r7_w, x29r8_w, x29r9_w, D.vw2, D.okc, D.rd, D.cells_len, c1, c2, c3, k1, hk2, hz, get_at0, set_at0, hu0]
        have hlo := walk_len _ ho
        simp only [List.length_append, List.length_cons, List.length_nil] at hlo
        exact ⟨by omega, hra⟩
    · have hp : d.pck = d.ck := by simp [D.pck, k1]
      rw [hp]
      generalize call X E (k + 3) = cf at *
      refine runF_escF (P := fun v H => ∃ us, v = .tup [.sl us .any, .c (.int .i64 d.ck)] ∧ (d.ck ≠ 0 → us = []) ∧ (d.ck = 0 → RowsAt H 0 us d.paths)) (by kernel_rfl) rfl rfl rfl (by simp [D.vw2, V.lows, D.low]) (wpk_of ?_)
      have hk2 : ((d.ck) != 0) = true := by simp [k1]
      simp -implicitDefEqProofs [x29_w, x29_r, x29r1_w, x29r2_w, x29r3_w, x29r4_w, D.vw2, D.okc, D.rd, D.cells_len, c1, c2, hk2, get_at0, set_at0, k1]
  obtain ⟨v, H, ⟨us, rfl, h1, h2⟩, h3⟩ := key
  refine ⟨V.shifts h.length us, H.map (O.shift h.length), ?_, fun hk => by rw [h1 hk]; rfl, fun hk => (h2 hk).shift h⟩
  generalize k + 3 = N at *
  simp only [call, hE, hX]
  rw [h3]
  rfl
end Go.Proofs.Ytbkgpdkimcnpgaa.Ab
