/- The reserved symbols; IsName and the reference's Name. -/
import Derived.Test.YtkiliokeanmagaaDoorSdA
namespace Go.Proofs.YtkiliokeanmagaaDoor.Ab
open Go
set_option linter.unusedVariables false
set_option linter.unusedSimpArgs false
set_option maxRecDepth 4000
set_option maxHeartbeats 1000000

/-- The form that a reserved symbol begins, 0 if it is none. -/
def wf (s : ByteArray) : Int :=
  if s = ⟨#[102, 110]⟩ then 5 else if s = ⟨#[105, 102]⟩ then 4 else if s = ⟨#[108, 101, 116]⟩ then 6 else if s = ⟨#[113, 117, 111, 116, 101]⟩ then 3 else
  if s = ⟨#[114, 101, 99]⟩ then 7 else if s = ⟨#[115, 101, 113]⟩ then 8 else if s = ⟨#[117, 112]⟩ then 9 else 0
def wk : List Value := [.string ⟨#[102, 110]⟩, .string ⟨#[105, 102]⟩, .string ⟨#[108, 101, 116]⟩, .string ⟨#[113, 117, 111, 116, 101]⟩, .string ⟨#[114, 101, 99]⟩, .string ⟨#[115, 101, 113]⟩, .string ⟨#[117, 112]⟩]
def wv : List V := [I64 5, I64 4, I64 6, I64 3, I64 7, I64 8, I64 9]
theorem look_w (s : ByteArray) (h : List O) : lookF (.fmp wk wv) (.c (.string s)) (.c (.int .i64 0)) false h = some (.c (.int .i64 (wf s)), h) := by
  simp only [lookF_fmp, wk, wv, mlook, wf]
  repeat' split
  all_goals rfl
theorem wf_range (s : ByteArray) : 0 ≤ wf s ∧ wf s ≤ 9 := by
  unfold wf
  repeat' split
  all_goals omega

theorem go15 {n : Nat} (hn : 61 ≤ n) (s : ByteArray) : Gives (n + 1) 15 [.c (.string s)] (.c (.bool (symB s && decide (wf s = 0)))) := by
  obtain ⟨m, rfl⟩ : ∃ m, n = m + 1 := ⟨n - 1, by omega⟩
  have c1 : ∀ h, call X E (m + 1) 40 [.c (.string s)] h = some (.c (.bool (symB s)), h) := gives_nil (by rfl) (sym23 (n := m) (by omega) s)
  have hw : ∀ h, lookF (.fmp [.string ⟨#[102, 110]⟩, .string ⟨#[105, 102]⟩, .string ⟨#[108, 101, 116]⟩, .string ⟨#[113, 117, 111, 116, 101]⟩, .string ⟨#[114, 101, 99]⟩, .string ⟨#[115, 101, 113]⟩, .string ⟨#[117, 112]⟩] [.c (.int .i64 5), .c (.int .i64 4), .c (.int .i64 6), .c (.int .i64 3), .c (.int .i64 7), .c (.int .i64 8), .c (.int .i64 9)]) (.c (.string s)) (.c (.int .i64 0)) false h = some (.c (.int .i64 (wf s)), h) := look_w s
  generalize m + 1 = k at *
  refine gives_of rfl rfl rfl (by kernel_rfl) ⟨rfl, rfl⟩ (by simp [V.vw2, V.lows, V.low]) ?_
  cases hs : symB s with
  | false => simp -implicitDefEqProofs [-lookF_fmp, x15_w, x15_r, x15r1_w, x15r2_w, V.vw2, V.vw1, c1, hw, hs]
  | true => 
    by_cases h0 : wf s = 0
    · have : (wf s == 0) = true := by simp [h0]
      simp -implicitDefEqProofs [-lookF_fmp, x15_w, x15_r, x15r1_w, x15r2_w, V.vw2, V.vw1, c1, hw, hs, this, h0]
    · have : (wf s == 0) = false := by simp [h0]
      simp -implicitDefEqProofs [-lookF_fmp, x15_w, x15_r, x15r1_w, x15r2_w, V.vw2, V.vw1, c1, hw, hs, this, h0]

theorem eqS_dec (a b : ByteArray) : eqS a b = decide (a = b) := by
  rw [Bool.eq_iff_iff]
  simp only [eqS, beq_iff_eq, decide_eq_true_eq, ByteArray.toList_eq]
  constructor
  · intro h
    obtain ⟨⟨a⟩⟩ := a
    obtain ⟨⟨b⟩⟩ := b
    simp only at h
    rw [h]
  · intro h; rw [h]

/-- The reserved symbols in the reference's order. -/
def rws : List ByteArray := [⟨#[113, 117, 111, 116, 101]⟩, ⟨#[105, 102]⟩, ⟨#[102, 110]⟩, ⟨#[108, 101, 116]⟩, ⟨#[114, 101, 99]⟩, ⟨#[115, 101, 113]⟩, ⟨#[117, 112]⟩]
def sv (l : List ByteArray) : V := .sl (l.map fun s => .c (.string s)) .any
theorem go71 {n : Nat} (hn : 10 ≤ n) : Gives n 71 [] (sv rws) := by
  refine gives_up hn (gives_nil (h0 := []) (by rfl) ?_)
  exact call_of_K ktab_all (by kernel_rfl)
structure J42 (s : ByteArray) (m : Nat) (t : SF) : Prop where
  j : ∃ j : Nat, j + m = 7 ∧ t.e 4 = .c (.int .i64 j)
  e0 : t.e 0 = .c (.string s)
  e3 : t.e 3 = sv rws
  b : t.base = 0
theorem jstep42 {cf : CallF} {fu : Nat} {s : ByteArray} (hs : ∀ w ∈ rws, eqS w s = false) {Q : Ex → SF → Prop} (hQ : ∀ t, t.base = 0 → Q (.exit 0) t) (m : Nat) (t : SF) (I : J42 s m t) :
    wpk cf fu x42l8 [] (fun e s' => match e with | .normal => ∃ k1, k1 < m ∧ J42 s k1 s' | e => Q e s') t := by
  obtain ⟨⟨j, hj, e4⟩, e0, e3, hb⟩ := I
  obtain ⟨e, h, base, rb⟩ := t
  simp only at e4 e0 e3 hb
  subst hb
  by_cases hm : j < 7
  · have hlt : (j : Int) < 7 := by omega
    obtain ⟨w, hwj, hw⟩ : ∃ w, rws[j]? = some w ∧ eqS w s = false := ⟨rws[j]'hm, List.getElem?_eq_getElem hm, hs _ (List.getElem_mem hm)⟩
    have hg : (rws.map fun s => V.c (.string s))[j]? = some (.c (.string w)) := by rw [List.getElem?_map, hwj]; rfl
    have hL : (rws.map fun s => V.c (.string s)).length = 7 := rfl
    have hsv : sv rws = .sl (rws.map fun s => V.c (.string s)) .any := rfl
    rw [hsv] at e3
    generalize (rws.map fun s => V.c (.string s)) = L at *
    have hg2 : L[j]'(by omega) = .c (.string w) := (List.getElem?_eq_some_iff.1 hg).2
    simp -implicitDefEqProofs [x42l8_w, x42r4_w, x42r5_w, x42r6_w, x42r7_w, e0, e3, e4, hlt, hm, hw, hg, hg2, hL, binS_eq]
    refine ⟨m - 1, by omega, ⟨⟨j + 1, by omega, ?_⟩, ?_, ?_, rfl⟩⟩
    · simp only [upd_at, e4]
      simp
      rw [wrap_in (by omega)]
    · simp [upd_at, e0]
    · simp [upd_at, e3, hsv]
  · have hlt : ¬ (j : Int) < 7 := by omega
    simp -implicitDefEqProofs [x42l8_w, x42r4_w, e0, e3, e4, sv, hlt, show rws.length = 7 from rfl]
    exact hQ _ rfl
theorem go42 {n : Nat} (hn : 60 ≤ n) (s : ByteArray) : Gives n 42 [.c (.string s)] (.c (.int .i64 (wf s))) := by
  by_cases hs : ∀ w ∈ rws, eqS w s = false
  · have h0 : wf s = 0 := by
      have hne : ∀ w ∈ rws, s ≠ w := fun w hw e => by
        have := hs w hw
        rw [eqS_dec] at this
        simp at this
        exact this e.symm
      simp only [rws, List.forall_mem_cons] at hne
      obtain ⟨a1, a2, a3, a4, a5, a6, a7, _⟩ := hne
      simp [wf, a1, a2, a3, a4, a5, a6, a7]
    obtain ⟨m, rfl⟩ : ∃ m, n = m + 1 := ⟨n - 1, by omega⟩
    have c1 : ∀ h, call X E m 71 [] h = some (sv rws, h) := go71 (by omega)
    have c2 : ∀ h, call X E m 71 [] h = some (.sl (rws.map fun s => .c (.string s)) .any, h) := c1
    refine gives_of rfl rfl rfl (by kernel_rfl) ⟨rfl, rfl⟩ (by simp [V.vw2, V.lows, V.low]) ?_
    rw [h0]
    simp -implicitDefEqProofs [x42_w, x42_r, x42r1_w, x42r2_w, x42r3_w, V.vw2, V.vw1, c2]
    refine lpk_of (J42 s) 7 (by omega) ⟨⟨0, by simp, ?_⟩, ?_, ?_, rfl⟩ ?_
    · simp [upd_at]
    · simp [upd_at, arg0]
    · simp [upd_at, sv]
    · refine jstep42 hs fun t hb => ?_
      obtain ⟨e, h, base, rb⟩ := t
      simp only at hb
      subst hb
      simp -implicitDefEqProofs [x42_r, x42r9_w]
  · have hx : ∃ w, w ∈ rws ∧ s = w := by
      false_or_by_contra
      rename_i hno
      refine hs fun w hw => ?_
      rw [eqS_dec]
      simp only [decide_eq_false_iff_not]
      exact fun e => hno ⟨w, hw, e.symm⟩
    obtain ⟨w, hw, rfl⟩ := hx
    refine gives_up hn (gives_nil (h0 := []) (by rfl) ?_)
    simp only [rws, List.mem_cons, List.not_mem_nil, or_false] at hw
    rcases hw with rfl | rfl | rfl | rfl | rfl | rfl | rfl
    all_goals exact call_of_K ktab_all (by kernel_rfl)
theorem go16 {n : Nat} (hn : 61 ≤ n) (s : ByteArray) : Gives (n + 1) 16 [.c (.string s)] (.c (.bool (symB s && decide (wf s = 0)))) := by
  obtain ⟨m, rfl⟩ : ∃ m, n = m + 1 := ⟨n - 1, by omega⟩
  have c1 : ∀ h, call X E (m + 1) 41 [.c (.string s)] h = some (.c (.bool (symB s)), h) := gives_nil (by rfl) (sym24 (n := m) (by omega) s)
  have c2 : ∀ h, call X E (m + 1) 42 [.c (.string s)] h = some (.c (.int .i64 (wf s)), h) := go42 (by omega) s
  generalize m + 1 = k at *
  refine gives_of rfl rfl rfl (by kernel_rfl) ⟨rfl, rfl⟩ (by simp [V.vw2, V.lows, V.low]) ?_
  cases hs : symB s with
  | false => simp -implicitDefEqProofs [x16_w, x16_r, x16r1_w, x16r2_w, V.vw2, V.vw1, c1, c2, hs]
  | true => 
    by_cases h0 : wf s = 0
    · have : (wf s == 0) = true := by simp [h0]
      simp -implicitDefEqProofs [x16_w, x16_r, x16r1_w, x16r2_w, V.vw2, V.vw1, c1, c2, hs, this, h0]
    · have : (wf s == 0) = false := by simp [h0]
      simp -implicitDefEqProofs [x16_w, x16_r, x16r1_w, x16r2_w, V.vw2, V.vw1, c1, c2, hs, this, h0]
/-- The law of SyntaxNames. -/
theorem law_names (s : ByteArray) : call X E 20000 4 [.c (.string s)] [] = some (.c (.bool true), []) := by
  have c1 : ∀ h, call X E 19999 15 [.c (.string s)] h = some (.c (.bool (symB s && decide (wf s = 0))), h) := go15 (by omega) s
  have c2 : ∀ h, call X E 19999 16 [.c (.string s)] h = some (.c (.bool (symB s && decide (wf s = 0))), h) := go16 (by omega) s
  have c3 : ∀ h, call X E 19999 14 [] h = some (.c (.bool true), h) := gives_nil (by rfl) (alive_up (by omega))
  refine gives_of (n := 19999) rfl rfl rfl (by kernel_rfl) ⟨rfl, rfl⟩ (by simp [V.vw2, V.lows, V.low]) ?_ rfl []
  simp -implicitDefEqProofs [x4_w, x4_r, x4r1_w, x4r2_w, V.vw2, V.vw1, c1, c2, c3]
end Go.Proofs.YtkiliokeanmagaaDoor.Ab
