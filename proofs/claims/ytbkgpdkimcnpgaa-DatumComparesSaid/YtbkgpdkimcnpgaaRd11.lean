/- The reference's Parts and Deep. -/
import Derived.Test.YtbkgpdkimcnpgaaRd10
namespace Go.Proofs.Ytbkgpdkimcnpgaa.Ab
open Go
set_option linter.unusedVariables false
set_option linter.unusedSimpArgs false
set_option maxRecDepth 4000
set_option maxHeartbeats 1000000

structure I18 (l : List D) (k n : Int) (t : ByteArray) (m : Nat) (s : SF) : Prop where
  j : ∃ j : Nat, j + m = l.length ∧ s.e 4 = .c (.int .i64 j) ∧ s.e 3 = .c (.int .i64 (1 + D.szs (l.take j) : Nat))
  e1 : s.e 1 = .ref 0 0
  h : s.h = [.cells [.c (.int .i64 k), .c (.int .i64 n), .c (.string t), .sl (D.vs l) .any]]
  b : s.base = 0

theorem step18 {cf : CallF} {fu : Nat} {l : List D} {k n : Int} {t : ByteArray} (hl : D.szs l < 4611686018427387904) (hc : ∀ x ∈ l, ∀ h, cf 18 [x.v] h = some (.c (.int .i64 x.sz), h)) {Q : Ex → SF → Prop}
    (hQ : ∀ s, s.e 3 = .c (.int .i64 (1 + D.szs l : Nat)) → s.base = 0 → s.h = [.cells [.c (.int .i64 k), .c (.int .i64 n), .c (.string t), .sl (D.vs l) .any]] → Q (.exit 0) s) (m : Nat) (s : SF) (I : I18 l k n t m s) :
    wpk cf fu x18l7 [] (fun e s' => match e with | .normal => ∃ k', k' < m ∧ I18 l k n t k' s' | e => Q e s') s := by
  obtain ⟨⟨j, hj, e4, e3⟩, e1, hh, hb⟩ := I
  obtain ⟨e, h, base, rb⟩ := s
  simp only at e4 e3 e1 hh hb
  subst hh hb
  have hlen := D.len_szs l
  by_cases hm : j < l.length
  · have hlt : (j : Int) < l.length := by omega
    have hg := D.vs_get hm
    have hx := hc _ (List.getElem_mem hm)
    have hs := D.szs_take l j hm
    have hs2 := D.szs_take_le l (j + 1)
    simp -implicitDefEqProofs [x18l7_w, x18r4_w, x18r5_w, x18r6_w, e1, e3, e4, D.vs_len, hlt, hm, D.vs_getE, D.cells_len, D.rd, hx]
    refine ⟨m - 1, by omega, ⟨⟨j + 1, by omega, ?_, ?_⟩, ?_, rfl, rfl⟩⟩
    · simp only [upd_at, e4]
      simp
      rw [wrap_in (by omega)]
    · simp only [upd_at, e3]
      simp
      rw [wrap_in (by omega), hs]
      omega
    · simp [upd_at, e1]
  · have hlt : ¬ (j : Int) < l.length := by omega
    have hj2 : j = l.length := by omega
    simp -implicitDefEqProofs [x18l7_w, x18r4_w, x18r5_w, x18r6_w, e1, e3, e4, D.vs_len, hlt]
    refine hQ _ ?_ rfl rfl
    simp only [upd_at, e3, hj2, List.take_length]
    simp

theorem run18 : ∀ d : D, d.sz < 4611686018427387904 → ∀ n, 2 * d.sz + 2 ≤ n → Gives n 18 [d.v] (.c (.int .i64 d.sz)) := by
  refine D.ind fun k n t l ih hs m hm => ?_
  simp only [D.sz] at hs hm
  obtain ⟨m, rfl⟩ : ∃ m', m = m' + 1 := ⟨m - 1, by omega⟩
  have hlen := D.len_szs l
  refine gives_of rfl rfl rfl (by kernel_rfl) ⟨rfl, rfl⟩ (by simp [D.vw2, V.lows, D.low]) ?_
  simp -implicitDefEqProofs [x18_w, x18_r, x18r1_w, x18r2_w, x18r3_w, D.vw2, D.v]
  refine lpk_of (I18 l k n t) l.length (by omega) ⟨⟨0, by simp, ?_, ?_⟩, ?_, rfl, rfl⟩ ?_
  · simp [upd_at]
  · simp [upd_at, D.szs]
  · simp [upd_at]
  · refine step18 (by omega) (fun x hx h => ih x hx (by have := D.mem_sz hx; omega) m (by have := D.mem_sz hx; omega) h) fun s h3 hb hh => ?_
    obtain ⟨e, h, base, rb⟩ := s
    simp only at h3 hb hh
    subst hb hh
    simp -implicitDefEqProofs [x18_r, x18r8_w, h3, D.sz]

theorem D.dps_take (l : List D) (j : Nat) (h : j < l.length) : D.dps (l.take (j + 1)) = max (D.dps (l.take j)) (l[j]).dp := by
  induction l generalizing j with
  | nil => simp at h
  | cons d l ih =>
    cases j with
    | zero => simp [D.dps]
    | succ j =>
      simp only [List.take_succ_cons, D.dps, List.getElem_cons_succ]
      rw [ih j (by simpa using h)]
      omega
theorem D.dps_le : ∀ l : List D, (∀ x ∈ l, x.dp ≤ x.sz) → D.dps l ≤ D.szs l
  | [], _ => Nat.le_refl _
  | d :: l, h => by
    have h1 := h d (by simp)
    have h2 := D.dps_le l (fun x hx => h x (by simp [hx]))
    simp only [D.dps, D.szs]
    omega
theorem D.dp_le : ∀ d : D, d.dp ≤ d.sz := by
  refine D.ind fun k n t l ih => ?_
  have := D.dps_le l ih
  simp only [D.dp, D.sz]
  omega
theorem D.dps_le' (l : List D) : D.dps l ≤ D.szs l := D.dps_le l fun x _ => D.dp_le x
theorem D.dps_mem {l : List D} {x : D} (h : x ∈ l) : x.dp ≤ D.dps l := by
  induction l with
  | nil => simp at h
  | cons y l ih =>
    simp only [D.dps]
    rcases List.mem_cons.1 h with rfl | h
    · omega
    · have := ih h; omega

structure I20 (l : List D) (k n : Int) (t : ByteArray) (m : Nat) (s : SF) : Prop where
  j : ∃ j : Nat, j + m = l.length ∧ s.e 4 = .c (.int .i64 j) ∧ s.e 3 = .c (.int .i64 (D.dps (l.take j)))
  e1 : s.e 1 = .ref 0 0
  h : s.h = [.cells [.c (.int .i64 k), .c (.int .i64 n), .c (.string t), .sl (D.vs l) .any]]
  b : s.base = 0

theorem step20 {cf : CallF} {fu : Nat} {l : List D} {k n : Int} {t : ByteArray} (hl : D.szs l < 4611686018427387904) (hc : ∀ x ∈ l, ∀ h, cf 20 [x.v] h = some (.c (.int .i64 x.dp), h)) {Q : Ex → SF → Prop}
    (hQ : ∀ s, s.e 3 = .c (.int .i64 (D.dps l)) → s.base = 0 → s.h = [.cells [.c (.int .i64 k), .c (.int .i64 n), .c (.string t), .sl (D.vs l) .any]] → Q (.exit 0) s) (m : Nat) (s : SF) (I : I20 l k n t m s) :
    wpk cf fu x20l7 [] (fun e s' => match e with | .normal => ∃ k', k' < m ∧ I20 l k n t k' s' | e => Q e s') s := by
  obtain ⟨⟨j, hj, e4, e3⟩, e1, hh, hb⟩ := I
  obtain ⟨e, h, base, rb⟩ := s
  simp only at e4 e3 e1 hh hb
  subst hh hb
  have hlen := D.len_szs l
  by_cases hm : j < l.length
  · have hlt : (j : Int) < l.length := by omega
    have hx := hc _ (List.getElem_mem hm)
    have hs := D.dps_take l j hm
    simp -implicitDefEqProofs [x20l7_w, x20r4_w, x20r5_w, x20r6_w, e1, e3, e4, D.vs_len, hlt, hm, D.vs_getE, D.cells_len, D.rd, hx]
    refine ⟨m - 1, by omega, ⟨⟨j + 1, by omega, ?_, ?_⟩, ?_, rfl, rfl⟩⟩
    · simp only [upd_at, e4]
      simp
      rw [wrap_in (by omega)]
    · simp only [upd_at, e3]
      simp
      rw [hs]
      split <;> omega
    · simp [upd_at, e1]
  · have hlt : ¬ (j : Int) < l.length := by omega
    have hj2 : j = l.length := by omega
    simp -implicitDefEqProofs [x20l7_w, x20r4_w, x20r5_w, x20r6_w, e1, e3, e4, D.vs_len, hlt]
    refine hQ _ ?_ rfl rfl
    simp only [upd_at, e3, hj2, List.take_length]
    simp

theorem run20 : ∀ d : D, d.sz < 4611686018427387904 → ∀ n, 2 * d.sz + 2 ≤ n → Gives n 20 [d.v] (.c (.int .i64 d.dp)) := by
  refine D.ind fun k n t l ih hs m hm => ?_
  simp only [D.sz] at hs hm
  obtain ⟨m, rfl⟩ : ∃ m', m = m' + 1 := ⟨m - 1, by omega⟩
  have hlen := D.len_szs l
  have hdl := D.dps_le' l
  refine gives_of rfl rfl rfl (by kernel_rfl) ⟨rfl, rfl⟩ (by simp [D.vw2, V.lows, D.low]) ?_
  simp -implicitDefEqProofs [x20_w, x20_r, x20r1_w, x20r2_w, x20r3_w, D.vw2, D.v]
  refine lpk_of (I20 l k n t) l.length (by omega) ⟨⟨0, by simp, ?_, ?_⟩, ?_, rfl, rfl⟩ ?_
  · simp [upd_at]
  · simp [upd_at, D.dps]
  · simp [upd_at]
  · refine step20 (by omega) (fun x hx h => ih x hx (by have := D.mem_sz hx; omega) m (by have := D.mem_sz hx; omega) h) fun s h3 hb hh => ?_
    obtain ⟨e, h, base, rb⟩ := s
    simp only at h3 hb hh
    subst hb hh
    simp -implicitDefEqProofs [x20_r, x20r8_w, h3, D.dp]
    rw [wrap_in (by omega)]
end Go.Proofs.Ytbkgpdkimcnpgaa.Ab
