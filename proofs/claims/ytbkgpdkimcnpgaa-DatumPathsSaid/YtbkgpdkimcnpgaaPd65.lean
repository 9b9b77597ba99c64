/- Lists of paths in rows; what DatumPaths does to them. -/
import Derived.Test.YtbkgpdkimcnpgaaPd64
namespace Go.Proofs.Ytbkgpdkimcnpgaa.Ab
open Go
set_option linter.unusedVariables false
set_option linter.unusedSimpArgs false
set_option maxRecDepth 4000
set_option maxHeartbeats 2000000

/-- A function that keeps to itself, called with rows. -/
theorem call_snap {n f : Nat} {xf : XF} {args bs : List V} {r : V} {H : List O} (hE : E f = none) (hX : X f = some xf) (hp : xf.pure = true ∧ xf.esc = false) (hg : Gives (n + 1) f bs r) (hr : r.flat = true) (hb : bs.map V.vw2 = bs) (hbl : V.lows 0 bs = true)
    (ha : V.lows 0 (args.map V.vw2) = true → args.map V.vw2 = bs) (hs : mapO (snap 0 H n) (args.map V.vw2) = some bs) : call X E (n + 1) f args H = some (r, H) := by
  have h1 := hg H
  simp only [call, hE, hX] at h1 ⊢
  unfold runF at h1 ⊢
  rw [if_pos hp.1] at h1 ⊢
  rw [hb, if_pos hbl, if_neg (by simp [hp.2])] at h1
  by_cases hlow : V.lows 0 (args.map V.vw2) = true
  · rw [ha hlow, if_pos hbl, if_neg (by simp [hp.2])]
    exact h1
  · rw [if_neg hlow, if_neg (by simp [hp.2]), hs]
    simp only
    rw [if_pos hbl]
    revert h1
    cases hf : fin false n xf.res (exec (call X E n) n xf.body (start xf bs [])) with
    | none => intro h1; cases h1
    | some q =>
      obtain ⟨q1, q2⟩ := q
      intro h1
      simp only [Option.map_some, Option.some.injEq, Prod.mk.injEq, and_true] at h1
      subst h1
      simp only [hr, if_true]

theorem mapO_I64 (H : List O) (k : Nat) : ∀ p : List Int, mapO (snap 0 H (k + 1)) (p.map I64) = some (p.map I64)
  | [] => rfl
  | a :: p => by simp only [List.map_cons, mapO, mapO_I64 H k p]; rfl
theorem snapL_I64 (H : List O) (f : V → Option V) : ∀ p : List Int, snapL 0 f H (p.map I64) = some (p.map I64)
  | [] => by simp [snapL]
  | a :: p => by simp only [List.map_cons, snapL, snapL_I64 H f p, I64, snapV]
theorem snapV_pv (H : List O) (f : V → Option V) (p : List Int) : snapV 0 f H (pv p) = some (pv p) := by
  simp [pv, snapV, snapL_I64]
theorem snapL_pvs (H : List O) (f : V → Option V) : ∀ P : List (List Int), snapL 0 f H (P.map pv) = some (P.map pv)
  | [] => by simp [snapL]
  | p :: P => by simp only [List.map_cons, snapL, snapV_pv, snapL_pvs H f P]
theorem snapL_rows {H : List O} {b k : Nat} : ∀ {us : List V} {P : List (List Int)}, RowsAt H b us P → snapL 0 (snap 0 H (k + 1)) H us = some (P.map pv)
  | [], [], _ => by simp [snapL]
  | u :: us, p :: P, r => by
    have h1 := snapL_rows (k := k) r.2
    have h2 : snapV 0 (snap 0 H (k + 1)) H u = some (pv p) := by
      rcases r.1 with ⟨rfl, rfl⟩ | ⟨hne, id, _, rfl, hi⟩
      · simp [snapV, snapL, pv]
      · have := elems_none (p.map I64)
        rw [List.length_map] at this
        simp only [snapV, Nat.not_lt_zero, if_false, hi, pcell, List.drop_zero, this, mapO_I64, Option.map_some]
        rfl
    simp only [List.map_cons, snapL, h1, h2]
theorem rows_flat {H : List O} {b : Nat} : ∀ {us : List V} {P : List (List Int)}, RowsAt H b us P → V.lows 0 us = true → us = P.map pv
  | [], [], _, _ => rfl
  | u :: us, p :: P, r, h => by
    simp only [V.lows, Bool.and_eq_true] at h
    rw [rows_flat r.2 h.2, List.map_cons]
    rcases r.1 with ⟨rfl, rfl⟩ | ⟨hne, id, _, rfl, hi⟩
    · rfl
    · have := h.1
      simp only [V.low, Bool.or_eq_true, decide_eq_true_eq, beq_iff_eq] at this
      exact absurd (List.length_eq_zero_iff.1 (this.resolve_left (by omega))) hne
theorem call30R {n b : Nat} {us : List V} {P : List (List Int)} {H : List O} (hr : RowsAt H b us P) (hl : P.length < 4611686018427387904) (hn : P.length + 2 < n) (hp : ∀ p ∈ P, p.length + 2 < n ∧ p.length < 4611686018427387904) :
    call X E (n + 1) 30 [.sl us .any, .sl (P.map pv) .any] H = some (.c (.bool true), H) := by
  have hlow : V.lows 0 (P.map pv) = true := lows_of fun v hv => by
    obtain ⟨p, _, rfl⟩ := List.mem_map.1 hv
    exact pv_low 0 p
  obtain ⟨m, rfl⟩ : ∃ m, n = m + 2 := ⟨n - 2, by omega⟩
  refine call_snap rfl rfl ⟨rfl, rfl⟩ (run30 (P := P) hl (by omega) hp) rfl rfl (by simp [V.lows, V.low, hlow, SI.low]) (fun h => ?_) ?_
  · have : V.lows 0 us = true := by
      simp only [List.map_cons, List.map_nil, vw2_sl, V.lows, V.low, SI.low, Bool.and_true, Bool.and_eq_true] at h
      exact h.1
    rw [rows_flat hr this]
    rfl
  · have h1 : snap 0 H (m + 2) (.sl us .any) = some (.sl (P.map pv) .any) := by
      show snapV 0 (snap 0 H (m + 1)) H (.sl us .any) = _
      rw [snapV, snapL_rows hr]; rfl
    have h2 : snap 0 H (m + 2) (.sl (P.map pv) .any) = some (.sl (P.map pv) .any) := by
      show snapV 0 (snap 0 H (m + 1)) H (.sl (P.map pv) .any) = _
      rw [snapV, snapL_pvs]; rfl
    simp only [List.map_cons, List.map_nil, vw2_sl, mapO, h1, h2]

/-- A row that may be written. -/
def RowL (H : List O) (u : V) : Prop := u = .sl [] .any ∨ ∃ (id n : Nat) (cs : List V), 2 ≤ id ∧ u = .row id 0 n none ∧ H[id]? = some (.cells cs) ∧ cs.length = n
theorem RowL.set {H : List O} {u : V} (r : RowL H u) {id : Nat} {cs cs' : List V} (hi : H[id]? = some (.cells cs)) (hl : cs'.length = cs.length) : RowL (H.set id (.cells cs')) u := by
  rcases r with h | ⟨id', n, cs0, h1, h2, h3, h4⟩
  · exact .inl h
  · by_cases he : id = id'
    · subst he
      rw [hi] at h3
      simp only [Option.some.injEq, O.cells.injEq] at h3
      exact .inr ⟨id, n, cs', h1, h2, by rw [List.getElem?_set_self (List.getElem?_eq_some_iff.1 hi).1], by rw [hl, h3]; exact h4⟩
    · exact .inr ⟨id', n, cs0, h1, h2, by rw [List.getElem?_set_ne he]; exact h3, h4⟩
theorem rowsL {H : List O} : ∀ {us : List V} {P : List (List Int)}, RowsAt H 2 us P → ∀ u ∈ us, RowL H u
  | [], [], _, u, hu => by simp at hu
  | v :: us, p :: P, r, u, hu => by
    rcases List.mem_cons.1 hu with rfl | hu
    · rcases r.1 with ⟨rfl, rfl⟩ | ⟨hne, id, h1, rfl, hi⟩
      · exact .inl rfl
      · exact .inr ⟨id, _, _, h1, rfl, hi, by simp⟩
    · exact rowsL r.2 u hu

structure I7 (a : O) (us : List V) (s : SF) : Prop where
  rows : ∀ u ∈ us, RowL s.h u
  box : s.h[1]? = some a
  e3 : s.e 3 = .ref 1 0
  e4 : s.e 4 = .sl us .any
  b : s.base = 0
structure I7i (a : O) (us : List V) (i len : Nat) (m : Nat) (s : SF) : Prop where
  j : ∃ k : Nat, k + m = len ∧ s.e 8 = .c (.int .i64 k)
  e7 : s.e 7 = .c (.int .i64 i)
  st : I7 a us s
structure I7o (a : O) (us : List V) (m : Nat) (s : SF) : Prop where
  j : ∃ i : Nat, i + m = us.length ∧ s.e 7 = .c (.int .i64 i)
  st : I7 a us s

def V.len : V → Nat
  | .row _ _ n _ => n
  | _ => 0
theorem step7i {cf : CallF} {fu : Nat} {a : O} {us : List V} {i : Nat} (hi : i < us.length) (hul : us.length < 4611686018427387904) (hn : us[i].len < 4611686018427387904) {Q : Ex → SF → Prop}
    (hQ : ∀ s, I7 a us s → s.e 7 = .c (.int .i64 i) → Q (.exit 2) s) (m : Nat) (s : SF) (I : I7i a us i us[i].len m s) :
    wpk cf fu x7l17 [] (fun e s' => match e with | .normal => ∃ k1, k1 < m ∧ I7i a us i us[i].len k1 s' | e => Q e s') s := by
  obtain ⟨⟨k, hk, e8⟩, e7, st⟩ := I
  obtain ⟨hr, hbx, e3, e4, hb⟩ := st
  obtain ⟨e, H, base, rb⟩ := s
  simp only at e8 e7 e3 e4 hb hbx hr
  subst hb
  have hlt : (i : Int) < us.length := by omega
  have hru := hr _ (List.getElem_mem hi)
  rcases hru with hu | ⟨id, n, cs, hid, hu, hc, hcl⟩
  · rw [hu] at hk
    have hk0 : k = 0 := by simp only [V.len] at hk; omega
    subst hk0
    simp -implicitDefEqProofs [x7l17_w, x7r14_w, e4, e7, e8, hlt, hi, hu]
    exact hQ _ ⟨hr, hbx, by simp [upd_at, e3], by simp [upd_at, e4], rfl⟩ (by simp [upd_at, e7])
  · rw [hu] at hk hn
    simp only [V.len] at hk hn
    by_cases hm : k < n
    · have hkl : (k : Int) < n := by omega
      have hkc : k + 1 ≤ cs.length := by omega
      simp -implicitDefEqProofs [x7l17_w, x7r14_w, x7r15_w, x7r16_w, e4, e7, e8, hlt, hi, hu, hkl, hm, hc, hkc]
      refine ⟨m - 1, by omega, ⟨⟨k + 1, by simp only [V.len]; omega, ?_⟩, by simp [upd_at, e7], fun u hu' => (hr u hu').set hc (by simp; omega), ?_, by simp [upd_at, e3], by simp [upd_at, e4], rfl⟩⟩
      · simp only [upd_at, e8]
        simp
        rw [wrap_in (by omega)]
      · show (H.set id _)[1]? = some a
        rw [List.getElem?_set_ne (by omega)]; exact hbx
    · have hkl : ¬ (k : Int) < n := by omega
      simp -implicitDefEqProofs [x7l17_w, x7r14_w, e4, e7, e8, hlt, hi, hu, hkl]
      exact hQ _ ⟨hr, hbx, by simp [upd_at, e3], by simp [upd_at, e4], rfl⟩ (by simp [upd_at, e7])
theorem step7o {cf : CallF} {fu : Nat} {a : O} {us : List V} (hul : us.length < 4611686018427387904) (hn : ∀ u ∈ us, u.len < fu ∧ u.len < 4611686018427387904) {Q : Ex → SF → Prop}
    (hQ : ∀ s, I7 a us s → Q (.exit 0) s) (m : Nat) (s : SF) (I : I7o a us m s) :
    wpk cf fu x7l19 [] (fun e s' => match e with | .normal => ∃ k1, k1 < m ∧ I7o a us k1 s' | e => Q e s') s := by
  obtain ⟨⟨i, hi, e7⟩, st⟩ := I
  by_cases hm : i < us.length
  · have hlt : (i : Int) < us.length := by omega
    have hln := hn _ (List.getElem_mem hm)
    obtain ⟨hr, hbx, e3, e4, hb⟩ := st
    obtain ⟨e, H, base, rb⟩ := s
    simp only at e7 e3 e4 hb hbx hr
    subst hb
    simp -implicitDefEqProofs [x7l19_w, x7r12_w, x7r13_w, e4, e7, hlt]
    refine lpk_of (I7i a us i us[i].len) us[i].len (by omega) ⟨⟨0, by simp, ?_⟩, ?_, hr, hbx, ?_, ?_, rfl⟩ ?_
    · simp [upd_at]
    · simp [upd_at, e7]
    · simp [upd_at, e3]
    · simp [upd_at, e4]
    · refine step7i hm hul hln.2 fun s' st' h7 => ?_
      obtain ⟨hr, hbx, e3, e4, hb⟩ := st'
      obtain ⟨e, H, base, rb⟩ := s'
      simp only at h7 e3 e4 hb hbx hr
      subst hb
      simp -implicitDefEqProofs [x7r18_w, h7]
      refine ⟨m - 1, by omega, ⟨⟨i + 1, by omega, ?_⟩, hr, hbx, by simp [upd_at, e3], by simp [upd_at, e4], rfl⟩⟩
      simp only [upd_at, h7]
      simp
      rw [wrap_in (by omega)]
  · have hlt : ¬ (i : Int) < us.length := by omega
    obtain ⟨hr, hbx, e3, e4, hb⟩ := st
    obtain ⟨e, H, base, rb⟩ := s
    simp only at e7 e3 e4 hb hbx hr
    subst hb
    simp -implicitDefEqProofs [x7l19_w, x7r12_w, e4, e7, hlt]
    exact hQ _ ⟨hr, hbx, by simp [upd_at, e3], by simp [upd_at, e4], rfl⟩
end Go.Proofs.Ytbkgpdkimcnpgaa.Ab
