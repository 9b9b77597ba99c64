/- The law of DatumPaths. -/
import Derived.Test.YtbkgpdkimcnpgaaPd65
namespace Go.Proofs.Ytbkgpdkimcnpgaa.Ab
open Go
set_option linter.unusedVariables false
set_option linter.unusedSimpArgs false
set_option maxRecDepth 4000
set_option maxHeartbeats 2000000

theorem paths_short (d : D) : ∀ p ∈ d.paths, p.length ≤ d.sz := by
  intro p hp
  obtain ⟨q, hq, rfl⟩ := List.mem_map.1 hp
  have := D.pre_path d [] q hq
  simpa using this
theorem rows_len {H : List O} {b : Nat} : ∀ {us : List V} {P : List (List Int)}, RowsAt H b us P → ∀ {m : Nat}, (∀ p ∈ P, p.length ≤ m) → ∀ u ∈ us, u.len ≤ m
  | [], [], _, m, _, u, hu => by simp at hu
  | v :: us, p :: P, r, m, hm, u, hu => by
    rcases List.mem_cons.1 hu with rfl | hu
    · rcases r.1 with ⟨rfl, rfl⟩ | ⟨hne, id, h1, rfl, hi⟩
      · exact Nat.zero_le _
      · exact hm p (by simp)
    · exact rows_len r.2 (fun q hq => hm q (by simp [hq])) u hu

theorem law7 (d : D) : call X E 20000 7 [d.v] [] = some (.c (.bool true), []) := by
  have hs := D.cut_small d 3000 1020 (by omega)
  have c1 : ∀ h, call X E 19999 14 [d.v] h = some ((d.cut 3000 1020).1.v, h) := run14 d 19998 (by omega)
  generalize (d.cut 3000 1020).1 = a at *
  have e2 : ∀ h, call X E 19999 16 [a.v] h = some (.c (.int .i64 a.ck), h) := run16 a (by omega) 19999 (by omega)
  have e4 : ∀ h, call X E 19999 18 [a.v] h = some (.c (.int .i64 a.sz), h) := run18 a (by omega) 19999 (by omega)
  have e5 : ∀ h, call X E 19999 31 [a.v] h = some (.sl (a.paths.map pv) .any, h) := run31 a 19998 (by omega) (by omega)
  have e8 : ∀ h, call X E 19999 22 [] h = some (.c (.bool true), h) := gives_nil (n := 19999) rfl (alive_up (by omega))
  have e29 := fun h => call29 (d := a) (n := 19998) (by omega) (by omega) h
  have e30 : ∀ {b us H}, RowsAt H b us a.paths → call X E 19999 30 [.sl us .any, .sl (a.paths.map pv) .any] H = some (.c (.bool true), H) := fun hr => call30R (n := 19998) hr (by rw [D.paths_len]; omega) (by rw [D.paths_len]; omega) fun p hp => by
    have := paths_short a p hp
    omega
  refine gives_of (n := 19999) rfl rfl rfl (by kernel_rfl) ⟨rfl, rfl⟩ (by simp [D.vw2, V.lows, D.low]) ?_ []
  obtain ⟨us, H, c29, h1, h2⟩ := e29 [.cells d.v.cells, .cells a.v.cells]
  simp only [List.cons_append, List.nil_append] at c29 h2
  generalize call X E 19999 = cf at *
  by_cases k1 : a.ck = 0
  · by_cases k2 : a.sz > 2000
    · have hp : a.pck = 7 := by simp [D.pck, k1, k2]
      have hu := h1 (by rw [hp]; decide)
      subst hu
      rw [hp] at c29
      have k1' : (a.ck != 0) = false := by simp [k1]
      have k2' : (2000 : Int) < a.sz := by omega
      simp -implicitDefEqProofs [x7_w, x7_r, x7r1_w, x7r2_w, x7r3_w, x7r4_w, x7r5_w, x7r7_w, x7r8_w, D.vw2, D.okc, D.rd, D.cells_len, D.spl, c1, e2, e4, e8, c29, k1', k2']
    · have hp : a.pck = 0 := by simp [D.pck, k1, k2]
      have hra := h2 hp
      rw [hp] at c29
      have k1' : (a.ck != 0) = false := by simp [k1]
      have k2' : ¬ (2000 : Int) < a.sz := by omega
      have c30 := e30 hra
      simp -implicitDefEqProofs [x7_w, x7_r, x7r1_w, x7r2_w, x7r3_w, x7r4_w, x7r5_w, x7r7_w, x7r9_w, x7r11_w, D.vw2, D.okc, D.rd, D.cells_len, D.spl, c1, e2, e4, e5, e8, c29, c30, k1', k2']
      refine lpk_of (I7o (.cells a.v.cells) us) us.length (by have := hra.len; rw [D.paths_len] at this; omega) ⟨⟨0, by simp, ?_⟩, rowsL hra, rfl, ?_, ?_, rfl⟩ ?_
      · simp [upd_at]
      · simp [upd_at]
      · simp [upd_at]
      · refine step7o (by have := hra.len; rw [D.paths_len] at this; omega) (fun u hu => by have := rows_len hra (paths_short a) u hu; omega) fun s st => ?_
        obtain ⟨hr, hbx, e3, e4', hb⟩ := st
        obtain ⟨e, H1, base, rb⟩ := s
        simp only at e3 e4' hb hbx hr
        subst hb
        obtain ⟨us2, H2, c29', h1', h2'⟩ := e29 H1
        have hra2 := h2' hp
        rw [hp] at c29'
        have c30' := e30 hra2
        have hbx2 : (H1 ++ H2)[1]? = some (.cells a.v.cells) := by rw [List.getElem?_append_left (List.getElem?_eq_some_iff.1 hbx).1]; exact hbx
        simp -implicitDefEqProofs [x7_r, x7r20_w, x7r21_w, D.vw2, D.okc, D.rd, D.cells_len, e3, e4', hbx, hbx2, c29', c30', e5, e8]
  · have hp : a.pck = a.ck := by simp [D.pck, k1]
    have hu := h1 (by rw [hp]; exact k1)
    subst hu
    rw [hp] at c29
    have k1' : (a.ck != 0) = true := by simp [k1]
    simp -implicitDefEqProofs [x7_w, x7_r, x7r1_w, x7r2_w, x7r3_w, x7r4_w, x7r5_w, x7r6_w, D.vw2, D.okc, D.rd, D.cells_len, D.spl, c1, e2, e4, e8, c29, k1', int_beq0]
end Go.Proofs.Ytbkgpdkimcnpgaa.Ab
