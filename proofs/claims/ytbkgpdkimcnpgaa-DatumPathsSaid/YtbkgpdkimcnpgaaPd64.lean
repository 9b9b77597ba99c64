/- The document's paths (the whole), and are two lists of paths the same? -/
import Derived.Test.YtbkgpdkimcnpgaaPd63
namespace Go.Proofs.Ytbkgpdkimcnpgaa.Ab
open Go
set_option linter.unusedVariables false
set_option linter.unusedSimpArgs false
set_option maxRecDepth 4000
set_option maxHeartbeats 2000000

theorem run58 : ∀ d : D, ∀ (at' : List Int) (n : Nat) (si : SI), at'.length + d.sz < 1099511627776 → 2 * d.sz + 2 ≤ n → Gives n 58 [d.v, .sl (at'.map I64) si] (.sl (pvs (d.pre at')) .any) := by
  refine D.ind fun k n t l ih at' m si hs hm => ?_
  simp only [D.sz] at hs hm
  obtain ⟨m, rfl⟩ : ∃ m', m = m' + 1 := ⟨m - 1, by omega⟩
  have hlen := D.len_szs l
  have hcall : ∀ x ∈ l, ∀ (j : Nat) si h, call X E m 58 [x.v, .sl ((at' ++ [(j : Int)]).map I64) si] h = some (.sl (pvs (x.pre (at' ++ [(j : Int)]))) .any, h) := fun x hx j si h => by
    have := D.mem_sz hx
    exact ih x hx (at' ++ [(j : Int)]) m si (by simp; omega) (by omega) h
  refine gives_of rfl rfl rfl (by kernel_rfl) ⟨rfl, rfl⟩ (by simp [D.vw2, V.lows, D.low, V.low, lows_I64, SI.low]) ?_
  have e0 : outs at' l 0 = [.sl (at'.map I64) .any] := by simp [outs, D.pres, pvs, pv]
  have hlow : V.lows 0 (pvs (D.pre (.mk k n t l) at')) = true := lows_of fun v hv => by
    obtain ⟨p, _, rfl⟩ := List.mem_map.1 hv
    exact pv_low 0 p.2
  generalize call X E m = cf at *
  have fin : ∀ s si', s.e 5 = .sl (outs at' l l.length) si' → s.base = 0 → wpk cf m (.seq x58r8 .ret) [] (Fin (fun vs _ => (resOf vs).vw = .sl (pvs (D.pre (.mk k n t l) at')) .any ∧ (V.sl (pvs (D.pre (.mk k n t l) at')) .any).low 0 = true) x58) s := by
    intro s si' h5 hb
    obtain ⟨e, h, base, rb⟩ := s
    simp only at h5 hb
    subst hb
    have ho : outs at' l l.length = pvs (D.pre (.mk k n t l) at') := by simp [outs, D.pre, pvs]
    rw [ho] at h5
    simp -implicitDefEqProofs [x58_r, x58r8_w, h5, V.low, hlow, SI.low]
  cases at' with
  | nil =>
    simp -implicitDefEqProofs [x58_w, x58_r, x58r1_w, x58r2_w, x58r3_w, D.vw2, D.v]
    refine lpk_of (I58 [] l k n t 0) l.length (by omega) ⟨⟨0, .full, by simp, ?_, ?_, .inl rfl⟩, ?_, ?_, ?_, rfl⟩ ?_
    · simp [upd_at]
    · simp [upd_at, e0]
    · simp
    · simp [upd_at, arg0]
    · simp [upd_at]
    · refine step58 (by omega) (by simp) hcall fun s si' h5 hb => ?_
      have := fin s si' h5 hb
      simp -implicitDefEqProofs at this ⊢
      exact this
  | cons a0 at' =>
    simp only [List.length_cons] at hs
    have b1 : (at'.length + 1) * 8 ≤ 140737488355328 := by omega
    have b2 : at'.length + 1 ≤ 140737488355328 := by omega
    have z3 : ∀ ws : List V, hz 1 (I64 a0 :: ws) = true := fun ws => rfl
    simp -implicitDefEqProofs [x58_w, x58_r, x58r1_w, x58r2_w, x58r3_w, D.vw2, D.v, b1, b2, z3]
    refine lpk_of (I58 (a0 :: at') l k n t 0) l.length (by omega) ⟨⟨0, .full, by simp, ?_, ?_, .inl rfl⟩, ?_, ?_, ?_, rfl⟩ ?_
    · simp [upd_at]
    · simp [upd_at, e0]
    · simp
    · simp [upd_at, arg0]
    · simp [upd_at]
    · refine step58 (by omega) (by simp; omega) hcall fun s si' h5 hb => ?_
      have := fin s si' h5 hb
      simp -implicitDefEqProofs at this ⊢
      exact this

theorem paths_pvs (d : D) : pvs (d.pre []) = d.paths.map pv := by simp [pvs, D.paths]
theorem run31 (d : D) (n : Nat) (hs : d.sz < 1099511627776) (hn : 2 * d.sz + 2 ≤ n) : Gives (n + 1) 31 [d.v] (.sl (d.paths.map pv) .any) := by
  have c1 : ∀ h, call X E n 58 [d.v, .sl [] .nil] h = some (.sl (d.paths.map pv) .any, h) := fun h => by
    rw [← paths_pvs]
    exact run58 d [] n .nil (by simpa using hs) hn h
  have hlow : V.lows 0 (d.paths.map pv) = true := lows_of fun v hv => by
    obtain ⟨p, _, rfl⟩ := List.mem_map.1 hv
    exact pv_low 0 p
  refine gives_of rfl rfl rfl (by kernel_rfl) ⟨rfl, rfl⟩ (by simp [D.vw2, V.lows, D.low]) ?_
  generalize call X E n = cf at *
  simp -implicitDefEqProofs [x31_w, x31_r, x31r1_w, x31r2_w, D.vw2, D.okc, D.rd, D.cells_len, c1, V.low, hlow, SI.low]

structure I30 (P : List (List Int)) (m : Nat) (s : SF) : Prop where
  j : ∃ j : Nat, j + m = P.length ∧ s.e 5 = .c (.int .i64 j)
  e0 : s.e 0 = .sl (P.map pv) .any
  e1 : s.e 1 = .sl (P.map pv) .any
  b : s.base = 0
theorem step30 {cf : CallF} {fu : Nat} {P : List (List Int)} (hl : P.length < 4611686018427387904) (hc : ∀ p ∈ P, ∀ h, cf 28 [pv p, pv p] h = some (.c (.bool true), h)) {Q : Ex → SF → Prop}
    (hQ : ∀ s, s.base = 0 → Q (.exit 0) s) (m : Nat) (s : SF) (I : I30 P m s) :
    wpk cf fu x30l9 [] (fun e s' => match e with | .normal => ∃ k1, k1 < m ∧ I30 P k1 s' | e => Q e s') s := by
  obtain ⟨⟨j, hj, e5⟩, e0, e1, hb⟩ := I
  obtain ⟨e, h, base, rb⟩ := s
  simp only at e5 e0 e1 hb
  subst hb
  by_cases hm : j < P.length
  · have hlt : (j : Int) < P.length := by omega
    have hx : ∀ h, cf 28 [.sl (P[j].map I64) .any, .sl (P[j].map I64) .any] h = some (.c (.bool true), h) := hc _ (List.getElem_mem hm)
    simp -implicitDefEqProofs [x30l9_w, x30r5_w, x30r6_w, x30r8_w, e0, e1, e5, hlt, hm, hx, pv]
    refine ⟨m - 1, by omega, ⟨⟨j + 1, by omega, ?_⟩, ?_, ?_, rfl⟩⟩
    · simp only [upd_at, e5]
      simp
      rw [wrap_in (by omega)]
    · simp [upd_at, e0, pv]
    · simp [upd_at, e1, pv]
  · have hlt : ¬ (j : Int) < P.length := by omega
    simp -implicitDefEqProofs [x30l9_w, x30r5_w, e0, e1, e5, hlt]
    exact hQ _ rfl
theorem run30 {n : Nat} {P : List (List Int)} (hl : P.length < 4611686018427387904) (hn : P.length < n) (hp : ∀ p ∈ P, p.length + 2 < n ∧ p.length < 4611686018427387904) : Gives (n + 1) 30 [.sl (P.map pv) .any, .sl (P.map pv) .any] (.c (.bool true)) := by
  obtain ⟨n, rfl⟩ : ∃ n', n = n' + 1 := ⟨n - 1, by omega⟩
  have c1 : ∀ p ∈ P, ∀ h, call X E (n + 1) 28 [pv p, pv p] h = some (.c (.bool true), h) := fun p hpm h => by
    have := run28 (n := n) (p := p) (q := p) (by have := hp p hpm; omega) (hp p hpm).2 h
    rwa [samep_refl] at this
  have hlow : V.lows 0 (P.map pv) = true := lows_of fun v hv => by
    obtain ⟨p, _, rfl⟩ := List.mem_map.1 hv
    exact pv_low 0 p
  generalize n + 1 = N at *
  refine gives_of rfl rfl rfl (by kernel_rfl) ⟨rfl, rfl⟩ (by simp [V.lows, V.low, hlow, SI.low]) ?_
  generalize call X E N = cf at *
  have hne : ((P.length : Int) != P.length) = false := by simp
  simp -implicitDefEqProofs [x30_w, x30_r, x30r1_w, x30r2_w, x30r4_w, hne]
  refine lpk_of (I30 P) P.length (by omega) ⟨⟨0, by simp, ?_⟩, ?_, ?_, rfl⟩ ?_
  · simp [upd_at]
  · simp [upd_at, arg0]
  · simp [upd_at, arg0]
  · refine step30 hl c1 fun s hb => ?_
    obtain ⟨e, h, base, rb⟩ := s
    simp only at hb
    subst hb
    simp -implicitDefEqProofs [x30_r, x30r10_w]
end Go.Proofs.Ytbkgpdkimcnpgaa.Ab
