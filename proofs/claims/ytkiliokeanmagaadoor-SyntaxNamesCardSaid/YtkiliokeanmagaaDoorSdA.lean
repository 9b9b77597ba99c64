/- What the functions of data do: Parts, Deep, formed, Check, Same, Cut. -/
import Derived.Test.YtkiliokeanmagaaDoorSd10
namespace Go.Proofs.YtkiliokeanmagaaDoor.Ab
open Go
set_option linter.unusedVariables false
set_option linter.unusedSimpArgs false
set_option maxRecDepth 4000
set_option maxHeartbeats 1000000

/- Rd11 -/

structure I18 (l : List D) (k n : Int) (t : ByteArray) (m : Nat) (s : SF) : Prop where
  j : ∃ j : Nat, j + m = l.length ∧ s.e 4 = .c (.int .i64 j) ∧ s.e 3 = .c (.int .i64 (1 + D.szs (l.take j) : Nat))
  e1 : s.e 1 = .ref 0 0
  h : s.h = [.cells [.c (.int .i64 k), .c (.int .i64 n), .c (.string t), .sl (D.vs l) .any]]
  b : s.base = 0

theorem step18 {cf : CallF} {fu : Nat} {l : List D} {k n : Int} {t : ByteArray} (hl : D.szs l < 4611686018427387904) (hc : ∀ x ∈ l, ∀ h, cf 49 [x.v] h = some (.c (.int .i64 x.sz), h)) {Q : Ex → SF → Prop}
    (hQ : ∀ s, s.e 3 = .c (.int .i64 (1 + D.szs l : Nat)) → s.base = 0 → s.h = [.cells [.c (.int .i64 k), .c (.int .i64 n), .c (.string t), .sl (D.vs l) .any]] → Q (.exit 0) s) (m : Nat) (s : SF) (I : I18 l k n t m s) :
    wpk cf fu x49l7 [] (fun e s' => match e with | .normal => ∃ k', k' < m ∧ I18 l k n t k' s' | e => Q e s') s := by
  obtain ⟨⟨j, hj, e4, e3⟩, e1, hh, hb⟩ := I
  obtain ⟨e, h, base, rb⟩ := s
  simp only at e4 e3 e1 hh hb
  subst hh hb
  have hlen := D.len_szs l
  by_cases hm : j < l.length
  · have hlt : (j : Int) < l.length := by omega
    have hg := D.vs_get hm
    have hx := hc _ (List.getElem_mem hm)
    have hs := D.szs_take l j hm
    have hs2 := D.szs_take_le l (j + 1)
    simp -implicitDefEqProofs [x49l7_w, x49r4_w, x49r5_w, x49r6_w, e1, e3, e4, D.vs_len, hlt, hm, D.vs_getE, D.cells_len, D.rd, hx]
    refine ⟨m - 1, by omega, ⟨⟨j + 1, by omega, ?_, ?_⟩, ?_, rfl, rfl⟩⟩
    · simp only [upd_at, e4]
      simp
      rw [wrap_in (by omega)]
    · simp only [upd_at, e3]
      simp
      rw [wrap_in (by omega), hs]
      omega
    · simp [upd_at, e1]
  · have hlt : ¬ (j : Int) < l.length := by omega
    have hj2 : j = l.length := by omega
    simp -implicitDefEqProofs [x49l7_w, x49r4_w, x49r5_w, x49r6_w, e1, e3, e4, D.vs_len, hlt]
    refine hQ _ ?_ rfl rfl
    simp only [upd_at, e3, hj2, List.take_length]
    simp

theorem run18 : ∀ d : D, d.sz < 4611686018427387904 → ∀ n, 2 * d.sz + 2 ≤ n → Gives n 49 [d.v] (.c (.int .i64 d.sz)) := by
  refine D.ind fun k n t l ih hs m hm => ?_
  simp only [D.sz] at hs hm
  obtain ⟨m, rfl⟩ : ∃ m', m = m' + 1 := ⟨m - 1, by omega⟩
  have hlen := D.len_szs l
  refine gives_of rfl rfl rfl (by kernel_rfl) ⟨rfl, rfl⟩ (by simp [D.vw2, V.lows, D.low]) ?_
  simp -implicitDefEqProofs [x49_w, x49_r, x49r1_w, x49r2_w, x49r3_w, D.vw2, D.v]
  refine lpk_of (I18 l k n t) l.length (by omega) ⟨⟨0, by simp, ?_, ?_⟩, ?_, rfl, rfl⟩ ?_
  · simp [upd_at]
  · simp [upd_at, D.szs]
  · simp [upd_at]
  · refine step18 (by omega) (fun x hx h => ih x hx (by have := D.mem_sz hx; omega) m (by have := D.mem_sz hx; omega) h) fun s h3 hb hh => ?_
    obtain ⟨e, h, base, rb⟩ := s
    simp only at h3 hb hh
    subst hb hh
    simp -implicitDefEqProofs [x49_r, x49r8_w, h3, D.sz]

theorem D.dps_take (l : List D) (j : Nat) (h : j < l.length) : D.dps (l.take (j + 1)) = max (D.dps (l.take j)) (l[j]).dp := by
  induction l generalizing j with
  | nil => simp at h
  | cons d l ih =>
    cases j with
    | zero => simp [D.dps]
    | succ j =>
      simp only [List.take_succ_cons, D.dps, List.getElem_cons_succ]
      rw [ih j (by simpa using h)]
      omega
theorem D.dps_le : ∀ l : List D, (∀ x ∈ l, x.dp ≤ x.sz) → D.dps l ≤ D.szs l
  | [], _ => Nat.le_refl _
  | d :: l, h => by
    have h1 := h d (by simp)
    have h2 := D.dps_le l (fun x hx => h x (by simp [hx]))
    simp only [D.dps, D.szs]
    omega
theorem D.dp_le : ∀ d : D, d.dp ≤ d.sz := by
  refine D.ind fun k n t l ih => ?_
  have := D.dps_le l ih
  simp only [D.dp, D.sz]
  omega
theorem D.dps_le' (l : List D) : D.dps l ≤ D.szs l := D.dps_le l fun x _ => D.dp_le x
theorem D.dps_mem {l : List D} {x : D} (h : x ∈ l) : x.dp ≤ D.dps l := by
  induction l with
  | nil => simp at h
  | cons y l ih =>
    simp only [D.dps]
    rcases List.mem_cons.1 h with rfl | h
    · omega
    · have := ih h; omega

structure I20 (l : List D) (k n : Int) (t : ByteArray) (m : Nat) (s : SF) : Prop where
  j : ∃ j : Nat, j + m = l.length ∧ s.e 4 = .c (.int .i64 j) ∧ s.e 3 = .c (.int .i64 (D.dps (l.take j)))
  e1 : s.e 1 = .ref 0 0
  h : s.h = [.cells [.c (.int .i64 k), .c (.int .i64 n), .c (.string t), .sl (D.vs l) .any]]
  b : s.base = 0

theorem step20 {cf : CallF} {fu : Nat} {l : List D} {k n : Int} {t : ByteArray} (hl : D.szs l < 4611686018427387904) (hc : ∀ x ∈ l, ∀ h, cf 50 [x.v] h = some (.c (.int .i64 x.dp), h)) {Q : Ex → SF → Prop}
    (hQ : ∀ s, s.e 3 = .c (.int .i64 (D.dps l)) → s.base = 0 → s.h = [.cells [.c (.int .i64 k), .c (.int .i64 n), .c (.string t), .sl (D.vs l) .any]] → Q (.exit 0) s) (m : Nat) (s : SF) (I : I20 l k n t m s) :
    wpk cf fu x50l7 [] (fun e s' => match e with | .normal => ∃ k', k' < m ∧ I20 l k n t k' s' | e => Q e s') s := by
  obtain ⟨⟨j, hj, e4, e3⟩, e1, hh, hb⟩ := I
  obtain ⟨e, h, base, rb⟩ := s
  simp only at e4 e3 e1 hh hb
  subst hh hb
  have hlen := D.len_szs l
  by_cases hm : j < l.length
  · have hlt : (j : Int) < l.length := by omega
    have hx := hc _ (List.getElem_mem hm)
    have hs := D.dps_take l j hm
    simp -implicitDefEqProofs [x50l7_w, x50r4_w, x50r5_w, x50r6_w, e1, e3, e4, D.vs_len, hlt, hm, D.vs_getE, D.cells_len, D.rd, hx]
    refine ⟨m - 1, by omega, ⟨⟨j + 1, by omega, ?_, ?_⟩, ?_, rfl, rfl⟩⟩
    · simp only [upd_at, e4]
      simp
      rw [wrap_in (by omega)]
    · simp only [upd_at, e3]
      simp
      rw [hs]
      split <;> omega
    · simp [upd_at, e1]
  · have hlt : ¬ (j : Int) < l.length := by omega
    have hj2 : j = l.length := by omega
    simp -implicitDefEqProofs [x50l7_w, x50r4_w, x50r5_w, x50r6_w, e1, e3, e4, D.vs_len, hlt]
    refine hQ _ ?_ rfl rfl
    simp only [upd_at, e3, hj2, List.take_length]
    simp

theorem run20 : ∀ d : D, d.sz < 4611686018427387904 → ∀ n, 2 * d.sz + 2 ≤ n → Gives n 50 [d.v] (.c (.int .i64 d.dp)) := by
  refine D.ind fun k n t l ih hs m hm => ?_
  simp only [D.sz] at hs hm
  obtain ⟨m, rfl⟩ : ∃ m', m = m' + 1 := ⟨m - 1, by omega⟩
  have hlen := D.len_szs l
  have hdl := D.dps_le' l
  refine gives_of rfl rfl rfl (by kernel_rfl) ⟨rfl, rfl⟩ (by simp [D.vw2, V.lows, D.low]) ?_
  simp -implicitDefEqProofs [x50_w, x50_r, x50r1_w, x50r2_w, x50r3_w, D.vw2, D.v]
  refine lpk_of (I20 l k n t) l.length (by omega) ⟨⟨0, by simp, ?_, ?_⟩, ?_, rfl, rfl⟩ ?_
  · simp [upd_at]
  · simp [upd_at, D.dps]
  · simp [upd_at]
  · refine step20 (by omega) (fun x hx h => ih x hx (by have := D.mem_sz hx; omega) m (by have := D.mem_sz hx; omega) h) fun s h3 hb hh => ?_
    obtain ⟨e, h, base, rb⟩ := s
    simp only at h3 hb hh
    subst hb hh
    simp -implicitDefEqProofs [x50_r, x50r8_w, h3, D.dp]
    rw [wrap_in (by omega)]

/- Rd12 -/

mutual
/-- Is a datum right, but for limits? -/
def D.fm : D → Bool
  | .mk k n t l => if k = 1 then empB t && l.length == 0 else if k = 2 then n == 0 && symB t && l.length == 0 else if k = 3 then D.fms l && n == 0 && empB t else false
def D.fms : List D → Bool
  | [] => true
  | d :: l => d.fm && D.fms l
end
theorem D.fms_all : ∀ l : List D, D.fms l = l.all D.fm
  | [] => rfl
  | d :: l => by simp only [D.fms, List.all_cons, D.fms_all l]
theorem D.fms_take (l : List D) (j : Nat) (h : j < l.length) : D.fms (l.take (j + 1)) = (D.fms (l.take j) && (l[j]).fm) := by
  induction l generalizing j with
  | nil => simp at h
  | cons d l ih =>
    cases j with
    | zero => simp [D.fms]
    | succ j =>
      simp only [List.take_succ_cons, D.fms, List.getElem_cons_succ]
      rw [ih j (by simpa using h), Bool.and_assoc]
theorem D.fms_false {l : List D} {j : Nat} (h : j < l.length) (hf : (l[j]).fm = false) : D.fms l = false := by
  rw [D.fms_all, List.all_eq_false]
  exact ⟨_, List.getElem_mem h, by simp [hf]⟩

structure I44 (l : List D) (k n : Int) (t : ByteArray) (m : Nat) (s : SF) : Prop where
  j : ∃ j : Nat, j + m = l.length ∧ s.e 3 = .c (.int .i64 j) ∧ D.fms (l.take j) = true
  e1 : s.e 1 = .ref 0 0
  h : s.h = [.cells [.c (.int .i64 k), .c (.int .i64 n), .c (.string t), .sl (D.vs l) .any]]
  b : s.base = 0

theorem step44 {cf : CallF} {fu : Nat} {l : List D} {k n : Int} {t : ByteArray} (hl : D.szs l < 4611686018427387904) (hc : ∀ x ∈ l, ∀ h, cf 48 [x.v] h = some (.c (.bool x.fm), h)) {Q : Ex → SF → Prop}
    (hQ : ∀ s, D.fms l = true → s.e 1 = .ref 0 0 → s.base = 0 → s.h = [.cells [.c (.int .i64 k), .c (.int .i64 n), .c (.string t), .sl (D.vs l) .any]] → Q (.exit 1) s)
    (hR : ∀ s, D.fms l = false → s.e 2 = .c (.bool false) → s.base = 0 → s.h = [.cells [.c (.int .i64 k), .c (.int .i64 n), .c (.string t), .sl (D.vs l) .any]] → Q .ret s) (m : Nat) (s : SF) (I : I44 l k n t m s) :
    wpk cf fu x48l13 [] (fun e s' => match e with | .normal => ∃ k', k' < m ∧ I44 l k n t k' s' | e => Q e s') s := by
  obtain ⟨⟨j, hj, e3, hf⟩, e1, hh, hb⟩ := I
  obtain ⟨e, h, base, rb⟩ := s
  simp only at e3 e1 hh hb
  subst hh hb
  have hlen := D.len_szs l
  by_cases hm : j < l.length
  · have hlt : (j : Int) < l.length := by omega
    have hx := hc _ (List.getElem_mem hm)
    have hs := D.fms_take l j hm
    cases hfm : (l[j]).fm with
    | true =>
      rw [hfm] at hx
      simp -implicitDefEqProofs [x48l13_w, x48r9_w, x48r10_w, x48r11_w, x48r12_w, e1, e3, D.vs_len, hlt, hm, D.vs_getE, D.cells_len, D.rd, hx]
      refine ⟨m - 1, by omega, ⟨⟨j + 1, by omega, ?_, ?_⟩, ?_, rfl, rfl⟩⟩
      · simp only [upd_at, e3]
        simp
        rw [wrap_in (by omega)]
      · rw [hs, hf, hfm]; rfl
      · simp [upd_at, e1]
    | false =>
      rw [hfm] at hx
      simp -implicitDefEqProofs [x48l13_w, x48r9_w, x48r10_w, x48r11_w, x48r12_w, e1, e3, D.vs_len, hlt, hm, D.vs_getE, D.cells_len, D.rd, hx]
      refine hR _ (D.fms_false hm hfm) ?_ rfl rfl
      simp [upd_at]
  · have hlt : ¬ (j : Int) < l.length := by omega
    have hj2 : j = l.length := by omega
    simp -implicitDefEqProofs [x48l13_w, x48r9_w, x48r10_w, x48r11_w, x48r12_w, e1, e3, D.vs_len, hlt]
    refine hQ _ ?_ ?_ rfl rfl
    · rw [hj2, List.take_length] at hf; exact hf
    · simp [upd_at, e1]

theorem run44 : ∀ d : D, d.sz < 4611686018427387904 → ∀ n, 2 * d.sz + 62 ≤ n → Gives n 48 [d.v] (.c (.bool d.fm)) := by
  refine D.ind fun k n t l ih hs m hm => ?_
  simp only [D.sz] at hs hm
  obtain ⟨m, rfl⟩ : ∃ m', m = m' + 1 := ⟨m - 1, by omega⟩
  have hlen := D.len_szs l
  have hsy : Gives m 41 [.c (.string t)] (.c (.bool (symB t))) := gives_nil rfl (up (by omega) (sym24 (n := 60) (by omega) t))
  refine gives_of rfl rfl rfl (by kernel_rfl) ⟨rfl, rfl⟩ (by simp [D.vw2, V.lows, D.low]) ?_
  have hsy' : ∀ h, call X E m 41 [.c (.string t)] h = some (.c (.bool (symB t)), h) := hsy
  by_cases h1 : k = 1
  · subst h1
    cases ht : empB t <;> cases h0 : (l.length == 0) <;>
      simp -implicitDefEqProofs [x48_w, x48_r, x48r1_w, x48r2_w, x48r3_w, x48r4_w, D.vw2, D.v, ht, D.vs_len, h0, D.fm]
  · by_cases h2 : k = 2
    · subst h2
      cases hn : (n == 0) <;> cases hy : symB t <;> cases h0 : (l.length == 0) <;> rw [hy] at hsy' <;>
        simp -implicitDefEqProofs [x48_w, x48_r, x48r1_w, x48r2_w, x48r3_w, x48r4_w, x48r5_w, x48r6_w, D.vw2, D.v, hn, hsy', D.vs_len, h0, D.fm, hy]
    · by_cases h3 : k = 3
      · subst h3
        simp -implicitDefEqProofs [x48_w, x48_r, x48r1_w, x48r2_w, x48r3_w, x48r4_w, x48r5_w, x48r6_w, x48r7_w, x48r8_w, D.vw2, D.v]
        refine lpk_of (I44 l 3 n t) l.length (by omega) ⟨⟨0, by simp, ?_, ?_⟩, ?_, rfl, rfl⟩ ?_
        · simp [upd_at]
        · simp [D.fms]
        · simp [upd_at]
        · refine step44 (by omega) (fun x hx h => ih x hx (by have := D.mem_sz hx; omega) m (by have := D.mem_sz hx; omega) h) (fun s hf h1 hb hh => ?_) fun s hf h2 hb hh => ?_
          · obtain ⟨e, h, base, rb⟩ := s
            simp only at h1 hb hh
            subst hb hh
            cases ht : empB t <;> cases hn : (n == 0) <;>
              simp -implicitDefEqProofs [x48_r, x48r14_w, h1, hn, ht, D.fm, hf]
          · obtain ⟨e, h, base, rb⟩ := s
            simp only at h2 hb hh
            subst hb hh
            simp -implicitDefEqProofs [x48_r, h2, D.fm, hf]
      · have b1 : (k == 1) = false := by simpa using h1
        have b2 : (k == 2) = false := by simpa using h2
        have b3 : (k == 3) = false := by simpa using h3
        simp -implicitDefEqProofs [b1, b2, b3, x48_w, x48_r, x48r1_w, x48r2_w, x48r3_w, x48r5_w, x48r7_w, x48r15_w, D.vw2, D.v, h1, h2, h3, D.fm]

/-- What is wrong with a datum. -/
def D.ck (d : D) : Int := if d.fm = false then 4 else if d.sz > 100000 ∨ d.dp > 1000 then 3 else 0
theorem run16 (d : D) (hs : d.sz < 4611686018427387904) (n : Nat) (hn : 2 * d.sz + 63 ≤ n) : Gives n 20 [d.v] (.c (.int .i64 d.ck)) := by
  obtain ⟨m, rfl⟩ : ∃ m', n = m' + 1 := ⟨n - 1, by omega⟩
  have c1 : ∀ h, call X E m 48 [d.v] h = some (.c (.bool d.fm), h) := run44 d hs m (by omega)
  have c2 : ∀ h, call X E m 49 [d.v] h = some (.c (.int .i64 d.sz), h) := run18 d hs m (by omega)
  have c3 : ∀ h, call X E m 50 [d.v] h = some (.c (.int .i64 d.dp), h) := run20 d hs m (by omega)
  refine gives_of rfl rfl rfl (by kernel_rfl) ⟨rfl, rfl⟩ (by simp [D.vw2, V.lows, D.low]) ?_
  cases hf : d.fm with
  | false =>
    rw [hf] at c1
    simp -implicitDefEqProofs [x20_w, x20_r, x20r1_w, x20r2_w, x20r3_w, D.vw2, D.okc, D.rd, c1, D.ck, hf]
  | true =>
    rw [hf] at c1
    by_cases h1 : d.sz > 100000
    · have h1' : (100000 : Int) < d.sz := by omega
      simp -implicitDefEqProofs [x20_w, x20_r, x20r1_w, x20r2_w, x20r3_w, x20r4_w, x20r5_w, D.vw2, D.okc, D.rd, c1, c2, h1', D.ck, hf, h1]
    · have h1' : ¬ (100000 : Int) < d.sz := by omega
      by_cases h2 : d.dp > 1000
      · have h2' : (1000 : Int) < d.dp := by omega
        simp -implicitDefEqProofs [x20_w, x20_r, x20r1_w, x20r2_w, x20r3_w, x20r4_w, x20r5_w, D.vw2, D.okc, D.rd, c1, c2, c3, h1', h2', D.ck, hf, h1, h2]
      · have h2' : ¬ (1000 : Int) < d.dp := by omega
        simp -implicitDefEqProofs [x20_w, x20_r, x20r1_w, x20r2_w, x20r3_w, x20r4_w, x20r5_w, x20r6_w, D.vw2, D.okc, D.rd, c1, c2, c3, h1', h2', D.ck, hf, h1, h2]

/- Rd13 -/

def lowH (h : List O) : Prop := h.all (O.low h.length) = true
/-- What a function that works among its caller's objects gives, and leaves them as they are. -/
def GivesL (n f : Nat) (args : List V) (r : V) : Prop := ∀ h : List O, lowH h → call X E n f args h = some (r, h)
theorem givesL_of {n f k : Nat} {xf : XF} {args : List V} {r : V} (hE : E f = none) (hX : X f = some xf) (hk : args.length = k) (hx : xfOk xf k = true) (hp : xf.pure = false ∧ xf.esc = false) (hr : r.low 0 = true)
    (hw : ∀ h, lowH h → wpk (call X E n) n xf.body [] (Fin (fun vs s => (resOf vs).vw = r ∧ s.take h.length = h) xf) ⟨arg0 (args.map V.vw2), h, h.length, 0⟩) (ha : xf.asg = none := by rfl) : GivesL (n + 1) f args r := by
  intro h hh
  simp only [call, hE, hX, ha]
  subst hk
  refine runF_at hx hp.1 hp.2 (wpx_imp _ (fun e s hq => ?_) (wpk_of (hw h hh)))
  have hrl : ∀ m, r.low m = true := fun m => by
    have := low_mono (Nat.zero_le m) r hr
    exact this
  cases e with
  | exit id => exact hq
  | normal => exact bindO_imp (fun vs hv => ⟨hv.1, hrl _, hv.2, hh⟩) hq
  | ret => exact bindO_imp (fun vs hv => ⟨hv.1, hrl _, hv.2, hh⟩) hq
theorem Gives.toL {n f : Nat} {args : List V} {r : V} (h : Gives n f args r) : GivesL n f args r := fun hh _ => h hh

def D.bad : List D → Nat → Int
  | [], _ => -1
  | d :: l, j => if d.fm then D.bad l (j + 1) else j
theorem D.bad_fms : ∀ (l : List D) (j : Nat), (decide (D.bad l j ≥ 0)) = !D.fms l
  | [], j => by simp [D.bad, D.fms]
  | d :: l, j => by
    have := D.bad_fms l (j + 1)
    simp only [D.bad, D.fms]
    by_cases hf : d.fm = true
    · simpa [hf] using this
    · simp [hf]

theorem run71 {m : Nat} {d : D} {b : Bool} (hc : Gives m 61 [d.v] (.c (.bool b))) : GivesL (m + 1) 79 [d.v] (.c (.bool !b)) := by
  have hc' : ∀ h, call X E m 61 [d.v] h = some (.c (.bool b), h) := hc
  refine givesL_of rfl rfl rfl (by kernel_rfl) ⟨rfl, rfl⟩ (by simp [V.low]) fun h hh => ?_
  simp -implicitDefEqProofs [x79_w, x79_r, x79r1_w, x79r2_w, D.vw2, D.okc, D.rd, set_last, get_last, hc']

structure I77 (l : List D) (g : List O) (m : Nat) (s : SF) : Prop where
  j : ∃ j : Nat, j + m = l.length ∧ s.e 8 = .c (.int .i64 j) ∧ D.bad l 0 = D.bad (l.drop j) j
  e0 : s.e 0 = .sl (D.vs l) .any
  e1 : s.e 1 = .c (.func (.func 79) #[] #[])
  e7 : s.e 7 = .c (.int .i64 l.length)
  h : s.h = g
  b : s.base = g.length
theorem step77 {n fu : Nat} {l : List D} {h : List O} (hh : lowH h) (hl : l.length < 4611686018427387904) (hc : ∀ x ∈ l, GivesL n 79 [x.v] (.c (.bool !x.fm))) {Q : Ex → SF → Prop}
    (hQ : ∀ s, D.bad l 0 = -1 → s.h = h → s.base = h.length → Q (.exit 0) s) (hR : ∀ s, s.e 4 = .c (.int .i64 (D.bad l 0)) → s.h = h → s.base = h.length → Q .ret s) (m : Nat) (s : SF) (I : I77 l h m s) :
    wpk (call X E n) fu x88l8 [] (fun e s' => match e with | .normal => ∃ k', k' < m ∧ I77 l h k' s' | e => Q e s') s := by
  obtain ⟨⟨j, hj, e8, hb⟩, e0, e1, e7, hh', hbs⟩ := I
  obtain ⟨e, h', base, rb⟩ := s
  simp only at e8 e0 e1 e7 hh' hbs
  subst hh' hbs
  by_cases hm : j < l.length
  · have hlt : (j : Int) < l.length := by omega
    have hx := hc _ (List.getElem_mem hm) h' hh
    have hd : l.drop j = l[j] :: l.drop (j + 1) := List.drop_eq_getElem_cons hm
    cases hf : (l[j]).fm with
    | true =>
      rw [hf] at hx
      simp -implicitDefEqProofs [x88l8_w, x88r3_w, x88r4_w, x88r5_w, x88r6_w, x88r7_w, e0, e1, e7, e8, D.vs_len, hlt, hm, D.vs_getE, D.cells_len, D.rd, hx]
      refine ⟨m - 1, by omega, ⟨⟨j + 1, by omega, ?_, ?_⟩, ?_, ?_, ?_, rfl, rfl⟩⟩
      · simp only [upd_at, e8]
        simp
        rw [wrap_in (by omega)]
      · rw [hb, hd, D.bad, hf]; rfl
      · simp [upd_at, e0]
      · simp [upd_at, e1]
      · simp [upd_at, e7]
    | false =>
      rw [hf] at hx
      simp -implicitDefEqProofs [x88l8_w, x88r3_w, x88r4_w, x88r5_w, x88r6_w, x88r7_w, e0, e1, e7, e8, D.vs_len, hlt, hm, D.vs_getE, D.cells_len, D.rd, hx]
      refine hR _ ?_ rfl rfl
      rw [hb, hd, D.bad, hf]
      simp [upd_at, e8]
  · have hlt : ¬ (j : Int) < l.length := by omega
    have hj2 : j = l.length := by omega
    simp -implicitDefEqProofs [x88l8_w, x88r3_w, x88r4_w, x88r5_w, x88r6_w, x88r7_w, e0, e1, e7, e8, D.vs_len, hlt]
    refine hQ _ ?_ rfl rfl
    rw [hb, hj2, List.drop_length, D.bad]

theorem run77 {n : Nat} {l : List D} (hl : l.length < 4611686018427387904) (hn : l.length < n) (hc : ∀ x ∈ l, GivesL n 79 [x.v] (.c (.bool !x.fm))) :
    GivesL (n + 1) 88 [.sl (D.vs l) .any, .c (.func (.func 79) #[] #[])] (.c (.int .i64 (D.bad l 0))) := by
  refine givesL_of rfl rfl rfl (by kernel_rfl) ⟨rfl, rfl⟩ (by simp [V.low]) fun h hh => ?_
  simp -implicitDefEqProofs [x88_w, x88_r, x88r1_w, x88r2_w, D.vs_len]
  refine lpk_of (I77 l h) l.length hn ⟨⟨0, by simp, ?_, ?_⟩, ?_, ?_, ?_, rfl, rfl⟩ ?_
  · simp [upd_at]
  · simp
  · simp [upd_at, arg0]
  · simp [upd_at, arg0]
  · simp [upd_at]
  · refine step77 hh hl hc (fun s h1 h2 h3 => ?_) fun s h1 h2 h3 => ?_
    · obtain ⟨e, h', base, rb⟩ := s
      simp only at h2 h3
      subst h2 h3
      simp -implicitDefEqProofs [x88_r, x88r9_w, h1]
    · obtain ⟨e, h', base, rb⟩ := s
      simp only at h1 h2 h3
      subst h2 h3
      simp -implicitDefEqProofs [x88_r, h1]

theorem run70 {n : Nat} {l : List D} (hc : GivesL n 88 [.sl (D.vs l) .any, .c (.func (.func 79) #[] #[])] (.c (.int .i64 (D.bad l 0)))) :
    GivesL (n + 1) 78 [.sl (D.vs l) .any, .c (.func (.func 79) #[] #[])] (.c (.bool !D.fms l)) := by
  refine givesL_of rfl rfl rfl (by kernel_rfl) ⟨rfl, rfl⟩ (by simp [V.low]) fun h hh => ?_
  have h1 := hc h hh
  have h2 := D.bad_fms l 0
  simp -implicitDefEqProofs [x78_w, x78_r, x78r1_w, x78r2_w, h1]
  simpa using h2

theorem run43 : ∀ d : D, d.sz < 4611686018427387904 → ∀ n, 4 * d.sz + 62 ≤ n → Gives n 61 [d.v] (.c (.bool d.fm)) := by
  refine D.ind fun k n t l ih hs m hm => ?_
  simp only [D.sz] at hs hm
  obtain ⟨m, rfl⟩ : ∃ m', m = m' + 4 := ⟨m - 4, by omega⟩
  have hlen := D.len_szs l
  have hsy : ∀ h, call X E (m + 3) 40 [.c (.string t)] h = some (.c (.bool (symB t)), h) := gives_nil (n := m + 3) rfl (up (by omega) (sym23 (n := 60) (by omega) t))
  have h71 : ∀ x ∈ l, GivesL (m + 1) 79 [x.v] (.c (.bool !x.fm)) := fun x hx => run71 (ih x hx (by have := D.mem_sz hx; omega) m (by have := D.mem_sz hx; omega))
  have h70 := run70 (run77 (n := m + 1) (l := l) (by omega) (by omega) h71)
  have h70' := h70 [.cells [.c (.int .i64 k), .c (.int .i64 n), .c (.string t), .sl (D.vs l) .any]] (by simp [lowH, O.low, V.lows, V.low, D.lows, SI.low])
  refine gives_of rfl rfl rfl (by kernel_rfl) ⟨rfl, rfl⟩ (by simp [D.vw2, V.lows, D.low]) ?_
  by_cases h1 : k = 1
  · subst h1
    cases ht : empB t <;> cases h0 : (l.length == 0) <;>
      simp -implicitDefEqProofs [x61_w, x61_r, x61r1_w, x61r2_w, x61r3_w, x61r4_w, D.vw2, D.v, ht, D.vs_len, h0, D.fm]
  · by_cases h2 : k = 2
    · subst h2
      cases hn : (n == 0) <;> cases hy : symB t <;> cases h0 : (l.length == 0) <;> rw [hy] at hsy <;>
        simp -implicitDefEqProofs [x61_w, x61_r, x61r1_w, x61r2_w, x61r3_w, x61r4_w, x61r5_w, x61r6_w, D.vw2, D.v, hn, hsy, D.vs_len, h0, D.fm, hy]
    · by_cases h3 : k = 3
      · subst h3
        cases hn : (n == 0) <;> cases ht : empB t <;> cases hf : D.fms l <;> rw [hf] at h70' <;>
          simp -implicitDefEqProofs [x61_w, x61_r, x61r1_w, x61r2_w, x61r3_w, x61r4_w, x61r5_w, x61r6_w, x61r7_w, x61r8_w, D.vw2, D.v, hn, ht, h70', D.fm, hf]
      · have b1 : (k == 1) = false := by simpa using h1
        have b2 : (k == 2) = false := by simpa using h2
        have b3 : (k == 3) = false := by simpa using h3
        simp -implicitDefEqProofs [b1, b2, b3, x61_w, x61_r, x61r1_w, x61r2_w, x61r3_w, x61r5_w, x61r7_w, x61r9_w, D.vw2, D.v, h1, h2, h3, D.fm]

/- Rd14 -/

mutual
/-- All data in one, with their paths, in preorder. -/
def D.pre : D → List Int → List (D × List Int)
  | .mk k n t l, ps => (.mk k n t l, ps) :: D.pres l ps 0
def D.pres : List D → List Int → Nat → List (D × List Int)
  | [], _, _ => []
  | d :: l, ps, i => d.pre (ps ++ [(i : Int)]) ++ D.pres l ps (i + 1)
end
def walk (Y : D → List Int → List O → Option (Bool × List O)) : List (D × List Int) → List O → Option (Bool × List O)
  | [], h => some (true, h)
  | (x, q) :: r, h => match Y x q h with
    | some (true, h') => walk Y r h'
    | some (false, h') => some (false, h')
    | none => none
def andThen (r : Option (Bool × List O)) (f : List O → Option (Bool × List O)) : Option (Bool × List O) := match r with
  | some (true, h) => f h
  | some (false, h) => some (false, h)
  | none => none
theorem walk_app (Y : D → List Int → List O → Option (Bool × List O)) : ∀ (a b : List (D × List Int)) (h : List O), walk Y (a ++ b) h = andThen (walk Y a h) (walk Y b)
  | [], b, h => rfl
  | (x, q) :: a, b, h => by
    simp only [List.cons_append, walk]
    cases Y x q h with
    | none => rfl
    | some r =>
      obtain ⟨c, h'⟩ := r
      cases c with
      | true => exact walk_app Y a b h'
      | false => rfl
theorem walk_len {cf : CallF} {f : Nat} {caps : List V} : ∀ (a : List (D × List Int)) {h : List O} {b : Bool} {h' : List O}, walk (fun x q h => yieldV cf f caps x.v q h) a h = some (b, h') → h'.length = h.length
  | [], h, b, h', e => by simp only [walk, Option.some.injEq, Prod.mk.injEq] at e; rw [e.2]
  | (x, q) :: a, h, b, h', e => by
    simp only [walk] at e
    split at e
    · rename_i h1 e1
      rw [walk_len a e, (yieldV_spec e1).2.1]
    · rename_i h1 e1
      simp only [Option.some.injEq, Prod.mk.injEq] at e
      rw [← e.2, (yieldV_spec e1).2.1]
    · cases e

/-- The walk of datum.each. -/
theorem each_walk {cf : CallF} {f : Nat} {caps : List V} : ∀ (d : D) (k : Nat) (ps : List Int) (h : List O), d.sz ≤ k → d.sz + ps.length ≤ 1099511627776 → V.lows h.length caps = true →
    eachV cf f caps k d.v ps h = walk (fun x q h => yieldV cf f caps x.v q h) (d.pre ps) h := by
  refine D.ind fun k n t l ih => ?_
  intro fu ps h hk hp hc
  simp only [D.sz] at hk hp
  obtain ⟨fu, rfl⟩ : ∃ m', fu = m' + 1 := ⟨fu - 1, by omega⟩
  have hlen := D.len_szs l
  have hall : (D.vs l).all (fun u => u.cells.length == 4 && V.low h.length u) = true := by
    rw [D.vs_map, List.all_eq_true]
    intro u hu
    obtain ⟨d, _, rfl⟩ := List.mem_map.1 hu
    simp [D.cells_len, D.low]
  have hL : ∀ (us : List D) (i : Nat) (h1 : List O), (∀ x ∈ us, x ∈ l) → h1.length = h.length → eachL (eachV cf f caps fu) ps i (D.vs us) h1 = walk (fun x q h => yieldV cf f caps x.v q h) (D.pres us ps i) h1 := by
    intro us
    induction us with
    | nil => intro i h1 _ _; rfl
    | cons u us ihu =>
      intro i h1 hm hl
      have hu := hm u (by simp)
      have hus := D.mem_sz hu
      have hsz := D.sz_pos u
      simp only [D.vs, eachL, D.pres, walk_app]
      rw [ih u hu fu (ps ++ [(i : Int)]) h1 (by omega) (by simp; omega) (by rw [hl]; exact hc)]
      cases hw : walk (fun x q h => yieldV cf f caps x.v q h) (u.pre (ps ++ [(i : Int)])) h1 with
      | none => rfl
      | some r =>
        obtain ⟨b, h2⟩ := r
        cases b with
        | true => exact ihu (i + 1) h2 (fun x hx => hm x (by simp [hx])) ((walk_len _ hw).trans hl)
        | false => rfl
  simp only [D.v, eachV, D.pre, walk]
  rw [if_pos ⟨hall, by rw [D.vs_len]; omega, by omega, hc, rfl, rfl, rfl⟩]
  cases hy : yieldV cf f caps (.agg [.c (.int .i64 k), .c (.int .i64 n), .c (.string t), .sl (D.vs l) .any]) ps h with
  | none => rfl
  | some r =>
    obtain ⟨b, h1⟩ := r
    cases b with
    | true => exact hL l 0 h1 (fun x hx => hx) (yieldV_spec hy).2.1
    | false => rfl

mutual
theorem D.pre_len : ∀ (d : D) (ps : List Int), (d.pre ps).length = d.sz
  | .mk k n t l, ps => by simp only [D.pre, List.length_cons, D.sz, D.pres_len l ps 0]; omega
theorem D.pres_len : ∀ (l : List D) (ps : List Int) (i : Nat), (D.pres l ps i).length = D.szs l
  | [], _, _ => rfl
  | d :: l, ps, i => by simp only [D.pres, List.length_append, D.szs, D.pre_len d, D.pres_len l]
end

theorem call45 {n : Nat} {d : D} {q : Nat} {caps : List V} {h : List O} (hs : d.sz ≤ n) (hp : d.sz ≤ 1099511627776) (hc : V.lows h.length caps = true) :
    call X E (n + 1) 80 [d.v, .sl [] .nil, .clo q caps] h = (walk (fun x p h => yieldV (call X E n) q caps x.v p h) (d.pre []) h).map fun r => (.c (.bool r.1), r.2) := by
  have hE : E 80 = some eachE := rfl
  simp only [call, hE, eachE, callee_clo]
  rw [each_walk d n [] h hs (by simpa using hp) hc]

/-- One visit, of a closure that keeps the path. -/
theorem yield_of {cf : CallF} {q : Nat} {caps : List V} {x : D} {ps : List Int} {h h' : List O} {b : Bool} (hc : V.lows h.length caps = true) (hl : h.all (O.low (h.length + 1)) = true) (hl' : h'.all (O.low h.length) = true) (hn : h'.length = h.length)
    (e : cf q (x.v :: .row h.length 0 ps.length none :: caps) (h ++ [pcell ps]) = some (.c (.bool b), h' ++ [pcell ps])) (hq : q < 1000000 := by decide) : yieldV cf q caps x.v ps h = some (b, h') := by
  have hpl : O.low (h.length + 1) (pcell ps) = true := by
    simp only [O.low, pcell]
    refine lows_of fun v hv => ?_
    obtain ⟨i, _, rfl⟩ := List.mem_map.1 hv
    simp [I64, V.low]
  have hfr : frameCf (h.length + 1) cf q (x.v :: .row h.length 0 ps.length none :: caps) (h ++ [pcell ps]) = some (.c (.bool b), h' ++ [pcell ps]) := by
    unfold frameCf
    have ht : (h ++ [pcell ps]).take (h.length + 1) = h ++ [pcell ps] := by rw [List.take_of_length_le]; simp
    have hd : (h ++ [pcell ps]).drop (h.length + 1) = [] := by rw [List.drop_of_length_le]; simp
    rw [ht, hd, e]
    rw [if_pos ⟨hq, by simp, by simp [V.lows, D.low, V.low, lows_mono (Nat.le_succ _) _ hc], by simp only [List.all_append, hl, List.all_cons, hpl, List.all_nil, Bool.and_self]⟩]
    simp [hn]
  unfold yieldV
  rw [hfr]
  have h1 : (h' ++ [pcell ps])[h.length]? = some (pcell ps) := by rw [← hn]; simp
  have h2 : (h' ++ [pcell ps]).take h.length = h' := by rw [← hn]; simp
  simp only [h1, h2, samePath_self, hl', and_self, if_true]

theorem olow1 {n n' : Nat} (hn : n ≤ n') {o : O} (h : O.low n o = true) : O.low n' o = true := by
  have := olow_mono hn (h := [o]) (by simp [h])
  simpa using this
theorem olow_cells (n : Nat) (cs : List V) : O.low n (.cells cs) = V.lows n cs := rfl
theorem low_pcell (n : Nat) (ps : List Int) : O.low n (pcell ps) = true := by
  rw [pcell, olow_cells]
  refine lows_of fun v hv => ?_
  obtain ⟨i, _, rfl⟩ := List.mem_map.1 hv
  simp [I64, V.low]
theorem run46 {n : Nat} {x : D} {ps : List Int} {a : O} {c : Int} (hc : -1 ≤ c ∧ c < 4611686018427387904) (ha : O.low 2 a = true) : yieldV (call X E (n + 1)) 81 [.ref 1 0] x.v ps [a, .cells [.c (.int .i64 c)]] = some (true, [a, .cells [.c (.int .i64 (c + 1))]]) := by
  refine yield_of (by simp [V.lows, V.low]) ?_ ?_ rfl ?_
  · simp [olow_cells, V.lows, V.low, olow1 (Nat.le_succ 2) ha]
  · simp [olow_cells, V.lows, V.low, ha]
  · have hE : E 81 = none := rfl
    have hX : X 81 = some x81 := rfl
    simp only [call, hE, hX]
    refine runF_at (by kernel_rfl) rfl rfl (wpk_of ?_)
    have hw : IntKind.i64.wrap (c + 1) = c + 1 := wrap_in (by omega)
    simp -implicitDefEqProofs [x81_w, x81_r, x81r1_w, x81r2_w, x81r3_w, D.vw2, D.okc, D.rd, hw]
    simp [olow_cells, V.lows, V.low, olow1 (Nat.le_succ 2) ha, low_pcell]

/- Rd15 -/

theorem walk46 {n : Nat} {a : O} (ha : O.low 2 a = true) : ∀ (L : List (D × List Int)) (c : Int), -1 ≤ c → c + L.length < 4611686018427387904 →
    walk (fun x p h => yieldV (call X E (n + 1)) 81 [.ref 1 0] x.v p h) L [a, .cells [.c (.int .i64 c)]] = some (true, [a, .cells [.c (.int .i64 (c + L.length))]])
  | [], c, _, _ => by simp [walk]
  | (x, q) :: L, c, h1, h2 => by
    simp only [List.length_cons] at h2 ⊢
    simp only [walk]
    rw [run46 (by omega) ha]
    simp only
    rw [walk46 ha L (c + 1) (by omega) (by omega)]
    simp only [Option.some.injEq, Prod.mk.injEq, true_and, List.cons.injEq, O.cells.injEq, V.c.injEq, Value.int.injEq, and_true]
    omega
theorem D.lowBox (m : Nat) (d : D) : O.low m (.cells d.v.cells) = true := by
  rw [olow_cells]
  exact lows_of fun v hv => low_cells (D.low m d) v hv

theorem run17 {d : D} {n : Nat} (hs : d.sz ≤ 1099511627776) (hn : d.sz + 2 ≤ n) : Gives (n + 1) 62 [d.v] (.c (.int .i64 d.sz)) := by
  obtain ⟨m, rfl⟩ : ∃ m', n = m' + 2 := ⟨n - 2, by omega⟩
  refine gives_of rfl rfl rfl (by kernel_rfl) ⟨rfl, rfl⟩ (by simp [D.vw2, V.lows, D.low]) ?_
  have hc : call X E (m + 2) 80 [d.v, .sl [] .nil, .clo 81 [.ref 1 0]] [.cells d.v.cells, .cells [.c (.int .i64 0)]] = some (.c (.bool true), [.cells d.v.cells, .cells [.c (.int .i64 d.sz)]]) := by
    rw [call45 (n := m + 1) (by omega) hs (by simp [V.lows, V.low])]
    rw [walk46 (n := m) (D.lowBox 2 d) (d.pre []) 0 (by omega) (by rw [D.pre_len]; omega), D.pre_len]
    simp
  simp -implicitDefEqProofs [x62_w, x62_r, x62r1_w, x62r2_w, x62r3_w, x62r4_w, D.vw2, D.okc, D.rd, hc]

/-- The greatest of lengths, by one more. -/
def top : List (D × List Int) → Int → Int
  | [], c => c
  | (_, q) :: L, c => top L (max c (q.length + 1))
theorem top_app : ∀ (a b : List (D × List Int)) (c : Int), top (a ++ b) c = top b (top a c)
  | [], b, c => rfl
  | (x, q) :: a, b, c => by simp only [List.cons_append, top, top_app a b]
mutual
theorem D.top_pre : ∀ (d : D) (ps : List Int) (c : Int), top (d.pre ps) c = max c (ps.length + d.dp)
  | .mk k n t l, ps, c => by
    simp only [D.pre, top, D.top_pres l ps 0, D.dp]
    cases l with
    | nil => simp [D.dps]
    | cons d l => rw [if_neg (by simp)]; omega
theorem D.top_pres : ∀ (l : List D) (ps : List Int) (i : Nat) (c : Int), top (D.pres l ps i) c = if l = [] then c else max c (ps.length + 1 + D.dps l)
  | [], _, _, _ => rfl
  | d :: l, ps, i, c => by
    have hp := D.dp_pos d
    simp only [D.pres, top_app, D.top_pre d, D.top_pres l, D.dps, List.length_append, List.length_cons, List.length_nil]
    cases l with
    | nil => simp [D.dps]
    | cons d' l => rw [if_neg (by simp), if_neg (by simp)]; omega
theorem D.dp_pos : ∀ d : D, 1 ≤ d.dp
  | .mk _ _ _ _ => by simp only [D.dp]; omega
end

theorem run47 {n : Nat} {x : D} {ps : List Int} {a : O} {c : Int} (hc : ps.length < 4611686018427387904) (ha : O.low 2 a = true) : yieldV (call X E (n + 1)) 82 [.ref 1 0] x.v ps [a, .cells [.c (.int .i64 c)]] = some (true, [a, .cells [.c (.int .i64 (max c (ps.length + 1)))]]) := by
  refine yield_of (by simp [V.lows, V.low]) ?_ ?_ rfl ?_
  · simp [olow_cells, V.lows, V.low, olow1 (Nat.le_succ 2) ha]
  · simp [olow_cells, V.lows, V.low, ha]
  · have hE : E 82 = none := rfl
    have hX : X 82 = some x82 := rfl
    simp only [call, hE, hX]
    refine runF_at (by kernel_rfl) rfl rfl (wpk_of ?_)
    have hw : IntKind.i64.wrap ((ps.length : Int) + 1) = ps.length + 1 := wrap_in (by omega)
    have hm : (if (ps.length : Int) + 1 > c then (ps.length : Int) + 1 else c) = max c (ps.length + 1) := by split <;> omega
    simp -implicitDefEqProofs [x82_w, x82_r, x82r1_w, x82r2_w, x82r3_w, D.vw2, D.okc, D.rd, hw]
    simp [olow_cells, V.lows, V.low, olow1 (Nat.le_succ 2) ha, low_pcell]
    split <;> omega
theorem walk47 {n : Nat} {a : O} (ha : O.low 2 a = true) : ∀ (L : List (D × List Int)) (c : Int), (∀ p ∈ L, p.2.length < 4611686018427387904) →
    walk (fun x p h => yieldV (call X E (n + 1)) 82 [.ref 1 0] x.v p h) L [a, .cells [.c (.int .i64 c)]] = some (true, [a, .cells [.c (.int .i64 (top L c))]])
  | [], c, _ => by simp [walk, top]
  | (x, q) :: L, c, h1 => by
    simp only [walk]
    rw [run47 (h1 (x, q) (by simp)) ha]
    simp only
    rw [walk47 ha L _ fun p hp => h1 p (by simp [hp])]
    simp only [top]
mutual
theorem D.pre_path : ∀ (d : D) (ps : List Int), ∀ p ∈ d.pre ps, p.2.length ≤ ps.length + d.sz
  | .mk k n t l, ps, p, hp => by
    simp only [D.pre, List.mem_cons] at hp
    simp only [D.sz]
    rcases hp with rfl | hp
    · simp only; omega
    · have := D.pres_path l ps 0 p hp; omega
theorem D.pres_path : ∀ (l : List D) (ps : List Int) (i : Nat), ∀ p ∈ D.pres l ps i, p.2.length ≤ ps.length + 1 + D.szs l
  | [], ps, i, p, hp => by simp [D.pres] at hp
  | d :: l, ps, i, p, hp => by
    simp only [D.pres, List.mem_append] at hp
    simp only [D.szs]
    rcases hp with hp | hp
    · have := D.pre_path d _ p hp; simp only [List.length_append, List.length_cons, List.length_nil] at this; omega
    · have := D.pres_path l ps (i + 1) p hp; omega
end
theorem run19 {d : D} {n : Nat} (hs : d.sz ≤ 1099511627776) (hn : d.sz + 2 ≤ n) : Gives (n + 1) 63 [d.v] (.c (.int .i64 d.dp)) := by
  obtain ⟨m, rfl⟩ : ∃ m', n = m' + 2 := ⟨n - 2, by omega⟩
  refine gives_of rfl rfl rfl (by kernel_rfl) ⟨rfl, rfl⟩ (by simp [D.vw2, V.lows, D.low]) ?_
  have hc : call X E (m + 2) 80 [d.v, .sl [] .nil, .clo 82 [.ref 1 0]] [.cells d.v.cells, .cells [.c (.int .i64 0)]] = some (.c (.bool true), [.cells d.v.cells, .cells [.c (.int .i64 d.dp)]]) := by
    rw [call45 (n := m + 1) (by omega) hs (by simp [V.lows, V.low])]
    rw [walk47 (n := m) (D.lowBox 2 d) (d.pre []) 0 (fun p hp => by have := D.pre_path d [] p hp; simp only [List.length_nil] at this; omega), D.top_pre]
    have : max (0 : Int) (([] : List Int).length + d.dp) = d.dp := by simp
    rw [this]
    rfl
  simp -implicitDefEqProofs [x63_w, x63_r, x63r1_w, x63r2_w, x63r3_w, x63r4_w, D.vw2, D.okc, D.rd, hc]

theorem run15 (d : D) (hs : d.sz ≤ 1099511627776) (n : Nat) (hn : 4 * d.sz + 64 ≤ n) : Gives n 35 [d.v] (.c (.int .i64 d.ck)) := by
  obtain ⟨m, rfl⟩ : ∃ m', n = m' + 2 := ⟨n - 2, by omega⟩
  have c1 : ∀ h, call X E (m + 1) 61 [d.v] h = some (.c (.bool d.fm), h) := run43 d (by omega) (m + 1) (by omega)
  have c2 : ∀ h, call X E (m + 1) 62 [d.v] h = some (.c (.int .i64 d.sz), h) := run17 (n := m) hs (by omega)
  have c3 : ∀ h, call X E (m + 1) 63 [d.v] h = some (.c (.int .i64 d.dp), h) := run19 (n := m) hs (by omega)
  refine gives_of rfl rfl rfl (by kernel_rfl) ⟨rfl, rfl⟩ (by simp [D.vw2, V.lows, D.low]) ?_
  cases hf : d.fm with
  | false =>
    rw [hf] at c1
    simp -implicitDefEqProofs [x35_w, x35_r, x35r1_w, x35r2_w, x35r3_w, D.vw2, D.okc, D.rd, c1, D.ck, hf]
  | true =>
    rw [hf] at c1
    by_cases h1 : d.sz > 100000
    · have h1' : (100000 : Int) < d.sz := by omega
      simp -implicitDefEqProofs [x35_w, x35_r, x35r1_w, x35r2_w, x35r3_w, x35r4_w, x35r5_w, D.vw2, D.okc, D.rd, c1, c2, h1', D.ck, hf, h1]
    · have h1' : ¬ (100000 : Int) < d.sz := by omega
      by_cases h2 : d.dp > 1000
      · have h2' : (1000 : Int) < d.dp := by omega
        simp -implicitDefEqProofs [x35_w, x35_r, x35r1_w, x35r2_w, x35r3_w, x35r4_w, x35r5_w, D.vw2, D.okc, D.rd, c1, c2, c3, h1', h2', D.ck, hf, h1, h2]
      · have h2' : ¬ (1000 : Int) < d.dp := by omega
        simp -implicitDefEqProofs [x35_w, x35_r, x35r1_w, x35r2_w, x35r3_w, x35r4_w, x35r5_w, x35r6_w, D.vw2, D.okc, D.rd, c1, c2, c3, h1', h2', D.ck, hf, h1, h2]

/- Rd16 -/

def eqS (a b : ByteArray) : Bool := a.toList == b.toList
theorem binS_eq (a b : ByteArray) : binS .eql a b = some (.c (.bool (eqS a b))) := rfl
theorem binS_ne (a b : ByteArray) : binS .neq a b = some (.c (.bool !(eqS a b))) := rfl
mutual
def D.same : D → D → Bool
  | .mk k n t l, .mk k' n' t' l' => k == k' && n == n' && eqS t t' && D.sames l l'
def D.sames : List D → List D → Bool
  | [], [] => true
  | a :: l, b :: l' => a.same b && D.sames l l'
  | [], _ :: _ => false
  | _ :: _, [] => false
end
theorem D.sames_len : ∀ {l l' : List D}, D.sames l l' = true → l.length = l'.length
  | [], [], _ => rfl
  | a :: l, b :: l', h => by
    simp only [D.sames, Bool.and_eq_true] at h
    simp [D.sames_len h.2]
  | [], _ :: _, h => by simp [D.sames] at h
  | _ :: _, [], h => by simp [D.sames] at h

structure I21 (l l' : List D) (k n k' n' : Int) (t t' : ByteArray) (m : Nat) (s : SF) : Prop where
  j : ∃ j : Nat, j + m = l.length ∧ s.e 5 = .c (.int .i64 j) ∧ D.sames l l' = D.sames (l.drop j) (l'.drop j)
  e2 : s.e 2 = .ref 0 0
  e3 : s.e 3 = .ref 1 0
  h : s.h = [.cells [.c (.int .i64 k), .c (.int .i64 n), .c (.string t), .sl (D.vs l) .any], .cells [.c (.int .i64 k'), .c (.int .i64 n'), .c (.string t'), .sl (D.vs l') .any]]
  b : s.base = 0

theorem step21 {cf : CallF} {fu : Nat} {l l' : List D} {k n k' n' : Int} {t t' : ByteArray} (hll : l.length = l'.length) (hl : D.szs l < 4611686018427387904) (hc : ∀ x ∈ l, ∀ y ∈ l', ∀ h, cf 13 [x.v, y.v] h = some (.c (.bool (x.same y)), h)) {Q : Ex → SF → Prop}
    (hQ : ∀ s, D.sames l l' = true → s.base = 0 → Q (.exit 0) s)
    (hR : ∀ s, D.sames l l' = false → s.e 4 = .c (.bool false) → s.base = 0 → Q .ret s) (m : Nat) (s : SF) (I : I21 l l' k n k' n' t t' m s) :
    wpk cf fu x13l9 [] (fun e s' => match e with | .normal => ∃ k1, k1 < m ∧ I21 l l' k n k' n' t t' k1 s' | e => Q e s') s := by
  obtain ⟨⟨j, hj, e5, hf⟩, e2, e3, hh, hb⟩ := I
  obtain ⟨e, h, base, rb⟩ := s
  simp only at e5 e2 e3 hh hb
  subst hh hb
  have hlen := D.len_szs l
  by_cases hm : j < l.length
  · have hm' : j < l'.length := by omega
    have hlt : (j : Int) < l.length := by omega
    have hx := hc _ (List.getElem_mem hm) _ (List.getElem_mem hm')
    have hd : l.drop j = l[j] :: l.drop (j + 1) := List.drop_eq_getElem_cons hm
    have hd' : l'.drop j = l'[j] :: l'.drop (j + 1) := List.drop_eq_getElem_cons hm'
    rw [hd, hd', D.sames] at hf
    cases hs : (l[j]).same l'[j] with
    | true =>
      rw [hs] at hx
      simp -implicitDefEqProofs [x13l9_w, x13r5_w, x13r6_w, x13r7_w, x13r8_w, e2, e3, e5, D.vs_len, hlt, hm, hm', D.vs_getE, D.cells_len, D.rd, hx]
      refine ⟨m - 1, by omega, ⟨⟨j + 1, by omega, ?_, ?_⟩, ?_, ?_, rfl, rfl⟩⟩
      · simp only [upd_at, e5]
        simp
        rw [wrap_in (by omega)]
      · rw [hf, hs]; rfl
      · simp [upd_at, e2]
      · simp [upd_at, e3]
    | false =>
      rw [hs] at hx
      simp -implicitDefEqProofs [x13l9_w, x13r5_w, x13r6_w, x13r7_w, x13r8_w, e2, e3, e5, D.vs_len, hlt, hm, hm', D.vs_getE, D.cells_len, D.rd, hx]
      refine hR _ (by rw [hf, hs]; rfl) ?_ rfl
      simp [upd_at]
  · have hlt : ¬ (j : Int) < l.length := by omega
    simp -implicitDefEqProofs [x13l9_w, x13r5_w, x13r6_w, x13r7_w, x13r8_w, e2, e3, e5, D.vs_len, hlt]
    refine hQ _ ?_ rfl
    rw [hf, List.drop_of_length_le (by omega), List.drop_of_length_le (by omega)]
    rfl

theorem run21 : ∀ d d' : D, d.sz < 4611686018427387904 → ∀ n, 2 * d.sz + 2 ≤ n → Gives n 13 [d.v, d'.v] (.c (.bool (d.same d'))) := by
  refine D.ind fun k n t l ih d' hs m hm => ?_
  obtain ⟨k', n', t', l'⟩ := d'
  simp only [D.sz] at hs hm
  obtain ⟨m, rfl⟩ : ∃ m', m = m' + 1 := ⟨m - 1, by omega⟩
  have hlen := D.len_szs l
  refine gives_of rfl rfl rfl (by kernel_rfl) ⟨rfl, rfl⟩ (by simp [D.vw2, V.lows, D.low]) ?_
  have hdiff : D.same (.mk k n t l) (.mk k' n' t' l') = (k == k' && n == n' && eqS t t' && D.sames l l') := by simp [D.same]
  cases hk : (k == k') with
  | false =>
    have hk1 : (k != k') = true := by simp only [bne, hk]; rfl
    simp -implicitDefEqProofs [hk1, x13_w, x13_r, x13r1_w, x13r2_w, x13r3_w, D.vw2, D.v, hk, hdiff]
  | true =>
    have hk1 : (k != k') = false := by simp only [bne, hk]; rfl
    cases hn : (n == n') with
    | false =>
      have hn1 : (n != n') = true := by simp only [bne, hn]; rfl
      simp -implicitDefEqProofs [hk1, hn1, x13_w, x13_r, x13r1_w, x13r2_w, x13r3_w, D.vw2, D.v, hk, hn, hdiff]
    | true =>
      have hn1 : (n != n') = false := by simp only [bne, hn]; rfl
      cases ht : eqS t t' with
      | false => simp -implicitDefEqProofs [hk1, hn1, x13_w, x13_r, x13r1_w, x13r2_w, x13r3_w, binS_ne, D.vw2, D.v, hk, hn, ht, hdiff]
      | true =>
        by_cases hll : l.length = l'.length
        · have hle : ((l.length : Int) != l'.length) = false := by simp [hll]
          simp -implicitDefEqProofs [hk1, hn1, x13_w, x13_r, x13r1_w, x13r2_w, x13r3_w, x13r4_w, binS_ne, D.vw2, D.v, hk, hn, ht, D.vs_len, hle]
          refine lpk_of (I21 l l' k n k' n' t t') l.length (by omega) ⟨⟨0, by simp, ?_, by simp⟩, ?_, ?_, rfl, rfl⟩ ?_
          · simp [upd_at]
          · simp [upd_at]
          · simp [upd_at]
          · refine step21 hll (by omega) (fun x hx y hy h => ih x hx y (by have := D.mem_sz hx; omega) m (by have := D.mem_sz hx; omega) h) (fun s h1 hb => ?_) fun s h1 h4 hb => ?_
            · obtain ⟨e, h, base, rb⟩ := s
              simp only at hb
              subst hb
              simp -implicitDefEqProofs [x13_r, x13r10_w, hdiff, hk, hn, ht, h1]
            · obtain ⟨e, h, base, rb⟩ := s
              simp only at h4 hb
              subst hb
              simp -implicitDefEqProofs [x13_r, h4, hdiff, hk, hn, ht, h1]
        · have hle : ((l.length : Int) != l'.length) = true := by simp; omega
          have hsm : D.sames l l' = false := by
            cases h : D.sames l l' with
            | false => rfl
            | true => exact absurd (D.sames_len h) hll
          simp -implicitDefEqProofs [hk1, hn1, x13_w, x13_r, x13r1_w, x13r2_w, x13r3_w, binS_ne, D.vw2, D.v, hk, hn, ht, D.vs_len, hle, hdiff, hsm]

mutual
theorem D.same_refl : ∀ d : D, d.same d = true
  | .mk k n t l => by simp [D.same, eqS, D.sames_refl l]
theorem D.sames_refl : ∀ l : List D, D.sames l l = true
  | [] => by simp [D.sames]
  | d :: l => by simp [D.sames, D.same_refl d, D.sames_refl l]
end

/- Rd17 -/

def cutT (t : ByteArray) : ByteArray := t.extract 0 (min t.size 42)
mutual
/-- A copy, as far as there is room. -/
def D.cut : D → Nat → Nat → D × Nat
  | .mk k n t l, left, deep => (.mk k n (cutT t) (D.cuts l (left - 1) deep).1, (D.cuts l (left - 1) deep).2)
def D.cuts : List D → Nat → Nat → List D × Nat
  | [], left, _ => ([], left)
  | d :: l, left, deep => if 1 < deep ∧ 0 < left then ((d.cut left (deep - 1)).1 :: (D.cuts l (d.cut left (deep - 1)).2 deep).1, (D.cuts l (d.cut left (deep - 1)).2 deep).2) else ([], left)
end
mutual
theorem D.cut_le : ∀ (d : D) (left deep : Nat), (d.cut left deep).2 ≤ left - 1
  | .mk k n t l, left, deep => by simp only [D.cut]; exact D.cuts_le l _ _
theorem D.cuts_le : ∀ (l : List D) (left deep : Nat), (D.cuts l left deep).2 ≤ left
  | [], left, deep => by simp [D.cuts]
  | d :: l, left, deep => by
    simp only [D.cuts]
    split
    · have := D.cut_le d left (deep - 1)
      have := D.cuts_le l (d.cut left (deep - 1)).2 deep
      simp only; omega
    · simp
end
theorem D.vs_app (a b : List D) : D.vs (a ++ b) = D.vs a ++ D.vs b := by simp [D.vs_map]
theorem D.hz (l : List D) : Ab.hz 4 (D.vs l) = true := by
  cases l with
  | nil => rfl
  | cons d l => simp [D.vs, Ab.hz, D.cells_len]
theorem get_last2 (h : List O) (x y : O) : (h ++ [x, y])[h.length + 1]? = some y := by
  rw [List.getElem?_append_right (by omega)]
  simp
theorem set_last2 (h : List O) (x y z : O) : (h ++ [x, y]).set (h.length + 1) z = h ++ [x, z] := by
  rw [List.set_append_right _ _ (by omega)]
  simp
section
variable {s : SF}
theorem own_mv (x : A) : ownF s (.mv x) = true := rfl
theorem own_fa (o : Nat) (x : A) : ownF s (.fieldAddr o x) = true := rfl
theorem own_ia (z : Nat) (x i : A) : ownF s (.indexAddr z x i) = true := rfl
theorem own_bin (op : BinOp) (q : Nat) (x y : A) : ownF s (.bin op q x y) = true := rfl
theorem own_call (f : A) (l : List A) : ownF s (.call f l) = true := rfl
theorem own_bs (al z : Nat) (l : List A) : ownF s (.bslice al z l) = true := rfl
theorem own_app (al b : Nat) (z : Option Nat) (rw : Bool) (x y : A) : ownF s (.append al z b rw x y) = true := rfl
theorem own_store (n : Nat) (x y : A) : ownF s (.store n x y) = true := rfl
end

theorem frame3 {cf : CallF} {f : Nat} {args : List V} {a b c c' : O} {v : V} {rest : List O} (hl : V.lows 3 args = true) (hh : lowH [a, b, c]) (e : cf f args [a, b, c] = some (v, [a, b, c'])) (hf : f < 1000000 := by decide) :
    frameCf 3 cf f args (a :: b :: c :: rest) = some (v, a :: b :: c' :: rest) := by
  unfold frameCf
  have h1 : (a :: b :: c :: rest).take 3 = [a, b, c] := by simp
  have h2 : (a :: b :: c :: rest).drop 3 = rest := by simp
  rw [h1, h2, e, if_pos ⟨hf, by simp, hl, hh⟩]
  simp

def dcell (k n : Int) (t : ByteArray) (us : List V) (si : SI) : O := .cells [.c (.int .i64 k), .c (.int .i64 n), .c (.string t), .sl us si]
structure I62 (a b ret : O) (l : List D) (k n : Int) (t : ByteArray) (left0 deep : Nat) (m : Nat) (s : SF) : Prop where
  j : ∃ (out : List D) (rest : List O) (si : SI), out.length + m ≤ left0 ∧ s.e 8 = .c (.int .i64 out.length) ∧
    D.cuts l left0 deep = (out ++ (D.cuts (l.drop out.length) m deep).1, (D.cuts (l.drop out.length) m deep).2) ∧
    s.h = a :: b :: .cells [.c (.int .i64 m)] :: dcell k n t (D.vs l) .any :: ret :: dcell k n (cutT t) (D.vs out) si :: rest ∧
    ((out = [] ∧ si = .nil) ∨ ∃ q, si = .tok (q + 6) ∧ rest[q]? = some (.tok out.length 4))
  e0 : s.e 0 = .ref 2 0
  e2 : s.e 2 = .c (.int .i64 deep)
  e4 : s.e 4 = .ref 3 0
  e6 : s.e 6 = .ref 4 0
  e7 : s.e 7 = .ref 5 0
  b : s.base = 3

theorem step62 {cf : CallF} {fu : Nat} {a b ret : O} {l : List D} {k n : Int} {t : ByteArray} {left0 deep : Nat} (ha : O.low 3 a = true) (hb : O.low 3 b = true) (hleft : left0 < 1099511627776) (hdeep : deep < 1099511627776)
    (hc : ∀ x ∈ l, ∀ left, 0 < left → left ≤ left0 → 1 < deep → cf 43 [.ref 2 0, x.v, .c (.int .i64 (deep - 1 : Nat))] [a, b, .cells [.c (.int .i64 left)]] = some ((x.cut left (deep - 1)).1.v, [a, b, .cells [.c (.int .i64 (x.cut left (deep - 1)).2)]])) {Q : Ex → SF → Prop}
    (hQ : ∀ s si rest, s.h = a :: b :: .cells [.c (.int .i64 (D.cuts l left0 deep).2)] :: dcell k n t (D.vs l) .any :: ret :: dcell k n (cutT t) (D.vs (D.cuts l left0 deep).1) si :: rest → s.e 6 = .ref 4 0 → s.e 7 = .ref 5 0 → s.base = 3 → Q (.exit 0) s) (m : Nat) (s : SF) (I : I62 a b ret l k n t left0 deep m s) :
    wpk cf fu x43l8 [] (fun e s' => match e with | .normal => ∃ k', k' < m ∧ I62 a b ret l k n t left0 deep k' s' | e => Q e s') s := by
  obtain ⟨⟨out, rest, si, hom, e8, hcut, hh, hsi⟩, e0, e2, e4, e6, e7, hbs⟩ := I
  obtain ⟨e, h, base, rb⟩ := s
  simp only at e8 hh e0 e2 e4 e6 e7 hbs
  subst hh hbs
  have hstop : ¬ (out.length < l.length ∧ 1 < deep ∧ 0 < m) → (D.cuts (l.drop out.length) m deep) = ([], m) := by
    intro hn
    by_cases hm : out.length < l.length
    · rw [List.drop_eq_getElem_cons hm, D.cuts, if_neg (fun h => hn ⟨hm, h⟩)]
    · rw [List.drop_of_length_le (by omega), D.cuts]
  have hexit : ¬ (out.length < l.length ∧ 1 < deep ∧ 0 < m) → ∀ e' : Nat → V, e' 6 = .ref 4 0 → e' 7 = .ref 5 0 → ∀ rb', Q (.exit 0) ⟨e', a :: b :: .cells [.c (.int .i64 m)] :: dcell k n t (D.vs l) .any :: ret :: dcell k n (cutT t) (D.vs out) si :: rest, 3, rb'⟩ := by
    intro hn e' h6 h7 rb'
    have := hstop hn
    rw [this] at hcut
    refine hQ _ si rest ?_ h6 h7 rfl
    rw [hcut]
    simp
  by_cases hm : out.length < l.length
  · have hlt : (out.length : Int) < l.length := by omega
    by_cases hd : 1 < deep
    · have hdi : (1 : Int) < deep := by omega
      by_cases h0 : 0 < m
      · have h0i : (0 : Int) < m := by omega
        have hx := hc _ (List.getElem_mem hm) m h0 (by omega) hd
        have hfr := fun rest => frame3 (rest := rest) (by simp [V.lows, V.low, D.low]) (by simp [lowH, ha, hb, olow_cells, V.lows, V.low]) hx
        have hde : IntKind.i64.wrap ((deep : Int) - 1) = (deep - 1 : Nat) := by rw [wrap_in (by omega)]; omega
        have hle := D.cut_le l[out.length] m (deep - 1)
        have hstep : D.cuts (l.drop out.length) m deep = (((l[out.length]).cut m (deep - 1)).1 :: (D.cuts (l.drop (out.length + 1)) ((l[out.length]).cut m (deep - 1)).2 deep).1, (D.cuts (l.drop (out.length + 1)) ((l[out.length]).cut m (deep - 1)).2 deep).2) := by
          rw [List.drop_eq_getElem_cons hm, D.cuts, if_pos ⟨hd, h0⟩]
        have hlen1 : ((D.vs out).length + 1) * 56 ≤ 140737488355328 := by rw [D.vs_len]; omega
        have hlen2 : (D.vs out).length + 1 ≤ 140737488355328 := by rw [D.vs_len]; omega
        generalize hcx : (l[out.length]).cut m (deep - 1) = cx at *
        have hnew : D.cuts l left0 deep = ((out ++ [cx.1]) ++ (D.cuts (l.drop (out ++ [cx.1]).length) cx.2 deep).1, (D.cuts (l.drop (out ++ [cx.1]).length) cx.2 deep).2) := by
          rw [hcut, hstep]
          simp
        rcases hsi with ⟨hout, rfl⟩ | ⟨q, rfl, hq⟩
        · simp -implicitDefEqProofs [x43l8_w, x43r5_w, x43r6_w, x43r7_w, opsw_cons, opsw_nil, gvw_some, gvw_ite, ownF_load, ownV_ref, ownV_ptr, own_mv, own_fa, own_ia, own_bin, own_call, own_bs, own_app, own_store, dcell, e0, e2, e4, e7, e8, D.vs_len, hlt, hdi, h0, h0i, hm, D.vs_getE, D.cells_len, D.rd, D.vw2, D.okc, hde, hfr, hlen1, hlen2, D.hz, get_last2, set_last2]
          refine ⟨⟨by omega, by omega⟩, cx.2, by omega, ⟨⟨out ++ [cx.1], rest ++ [O.tok 1 4, O.tok (out.length + 1) 4], .tok (rest.length + 1 + 6), ?_, ?_, hnew, ?_, .inr ⟨rest.length + 1, rfl, ?_⟩⟩, ?_, ?_, ?_, ?_, ?_, rfl⟩⟩
          · simp only [List.length_append, List.length_cons, List.length_nil]; omega
          · simp only [upd_at]
            simp
            rw [wrap_in (by omega)]
          · simp [dcell, D.vs_app, D.vs]
          · rw [get_last2]; simp
          · simp [upd_at, e0]
          · simp [upd_at, e2]
          · simp [upd_at, e4]
          · simp [upd_at, e6]
          · simp [upd_at, e7]
        · obtain ⟨hql, hqv⟩ := List.getElem?_eq_some_iff.1 hq
          have hqa : ∀ pre : List O, (rest ++ pre)[q]? = some (.tok out.length 4) := fun pre => by rw [List.getElem?_append_left hql]; exact hq
          simp -implicitDefEqProofs [x43l8_w, x43r5_w, x43r6_w, x43r7_w, opsw_cons, opsw_nil, gvw_some, gvw_ite, ownF_load, ownV_ref, ownV_ptr, own_mv, own_fa, own_ia, own_bin, own_call, own_bs, own_app, own_store, dcell, e0, e2, e4, e7, e8, D.vs_len, hlt, hdi, h0, h0i, hm, D.vs_getE, D.cells_len, D.rd, D.vw2, D.okc, hde, hfr, hlen1, hlen2, D.hz, hqa]
          refine ⟨⟨by omega, by omega⟩, cx.2, by omega, ⟨⟨out ++ [cx.1], (rest ++ [O.tok 1 4, O.dead]).set q (.tok (out.length + 1) 4), .tok (q + 6), ?_, ?_, hnew, ?_, .inr ⟨q, rfl, ?_⟩⟩, ?_, ?_, ?_, ?_, ?_, rfl⟩⟩
          · simp only [List.length_append, List.length_cons, List.length_nil]; omega
          · simp only [upd_at]
            simp
            rw [wrap_in (by omega)]
          · simp [dcell, D.vs_app, D.vs]
          · rw [List.getElem?_set_self (by simp; omega)]; simp
          · simp [upd_at, e0]
          · simp [upd_at, e2]
          · simp [upd_at, e4]
          · simp [upd_at, e6]
          · simp [upd_at, e7]
      · have h0i : ¬ (0 : Int) < m := by omega
        simp -implicitDefEqProofs [x43l8_w, x43r5_w, dcell, e0, e2, e4, e7, e8, D.vs_len, hlt, hdi, h0, h0i]
        exact hexit (fun h => h0 h.2.2) _ (by simp [upd_at, e6]) (by simp [upd_at, e7]) _
    · have hdi : ¬ (1 : Int) < deep := by omega
      simp -implicitDefEqProofs [x43l8_w, x43r5_w, dcell, e0, e2, e4, e7, e8, D.vs_len, hlt, hdi]
      exact hexit (fun h => hd h.2.1) _ (by simp [upd_at, e6]) (by simp [upd_at, e7]) _
  · have hlt : ¬ (out.length : Int) < l.length := by omega
    simp -implicitDefEqProofs [x43l8_w, x43r5_w, dcell, e0, e2, e4, e7, e8, D.vs_len, hlt]
    exact hexit (fun h => hm h.1) _ (by simp [upd_at, e6]) (by simp [upd_at, e7]) _

theorem run62 : ∀ (d : D) (left deep n : Nat) (a b : O), O.low 3 a = true → O.low 3 b = true → 0 < left → left < 1099511627776 → 0 < deep → deep < 1099511627776 → left + deep + 1 ≤ n →
    call X E n 43 [.ref 2 0, d.v, .c (.int .i64 deep)] [a, b, .cells [.c (.int .i64 left)]] = some ((d.cut left deep).1.v, [a, b, .cells [.c (.int .i64 (d.cut left deep).2)]]) := by
  refine D.ind fun k n t l ih => ?_
  intro left deep nn a b ha hb h0 hleft hd0 hdeep hn
  obtain ⟨m, rfl⟩ : ∃ m', nn = m' + 1 := ⟨nn - 1, by omega⟩
  have hE : E 43 = none := rfl
  have hX : X 43 = some x43 := rfl
  simp only [call, hE, hX]
  refine runF_at (by kernel_rfl) rfl rfl (wpk_of ?_)
  have hw : IntKind.i64.wrap ((left : Int) - 1) = (left - 1 : Nat) := by rw [wrap_in (by omega)]; omega
  have hmin : (if (42 : Int) < t.size then (42 : Int) else t.size) = (min t.size 42 : Nat) := by split <;> omega
  simp -implicitDefEqProofs [x43_w, x43_r, x43r1_w, x43r2_w, x43r3_w, x43r4_w, D.vw2, D.v, hw, hmin]
  have hcut : (D.mk k n t l).cut left deep = (.mk k n (cutT t) (D.cuts l (left - 1) deep).1, (D.cuts l (left - 1) deep).2) := by simp only [D.cut]
  refine ⟨by omega, lpk_of (I62 a b (.cells [.c (.int .i64 0), .c (.int .i64 0), .c (.string ⟨#[]⟩), .sl [] .nil]) l k n t (left - 1) deep) (left - 1) (by omega)
    ⟨⟨[], [], .nil, by simp, ?_, by simp, rfl, .inl ⟨rfl, rfl⟩⟩, ?_, ?_, ?_, ?_, ?_, rfl⟩ ?_⟩
  · simp [upd_at]
  · simp [upd_at, arg0]
  · simp [upd_at, arg0]
  · simp [upd_at]
  · simp [upd_at]
  · simp [upd_at]
  · refine step62 ha hb (by omega) hdeep (fun x hx left' h1 h2 h3 => ih x hx left' (deep - 1) m a b ha hb h1 (by omega) (by omega) (by omega) (by omega)) fun s si rest hh h6 h7 hbs => ?_
    obtain ⟨e, h, base, rb⟩ := s
    simp only at hh h6 h7 hbs
    subst hh hbs
    have hlow := D.low 3 (.mk k n (cutT t) (D.cuts l (left - 1) deep).1)
    simp only [D.v] at hlow
    simp -implicitDefEqProofs [x43_r, x43r9_w, dcell, h6, h7, hcut, D.v, hlow, ha, hb, olow_cells, V.lows]

theorem run38 (d : D) (left deep n : Nat) (h0 : 0 < left) (hleft : left < 1099511627776) (hd0 : 0 < deep) (hdeep : deep < 1099511627776) (hn : left + deep + 1 ≤ n) : Gives (n + 1) 17 [d.v, .c (.int .i64 left), .c (.int .i64 deep)] (d.cut left deep).1.v := by
  refine gives_of rfl rfl rfl (by kernel_rfl) ⟨rfl, rfl⟩ (by simp [D.vw2, V.lows, D.low, vw2_c, V.low]) ?_
  have hc := run62 d left deep n (.cells d.v.cells) (.cells [.c (.int .i64 0), .c (.int .i64 0), .c (.string ⟨#[]⟩), .sl [] .nil]) (D.lowBox 3 d) (by simp [olow_cells, V.lows, V.low, SI.low]) h0 hleft hd0 hdeep hn
  simp -implicitDefEqProofs [x17_w, x17_r, x17r1_w, x17r2_w, x17r3_w, D.vw2, D.okc, D.rd, D.cells_len, D.spl, hc, D.vw, D.low]
theorem run14 (d : D) (n : Nat) (hn : 4022 ≤ n) : Gives (n + 1) 9 [d.v] (d.cut 3000 1020).1.v := by
  obtain ⟨m, rfl⟩ : ∃ m', n = m' + 1 := ⟨n - 1, by omega⟩
  refine gives_of rfl rfl rfl (by kernel_rfl) ⟨rfl, rfl⟩ (by simp [D.vw2, V.lows, D.low]) ?_
  have hc : ∀ h, call X E (m + 1) 17 [d.v, .c (.int .i64 3000), .c (.int .i64 1020)] h = some ((d.cut 3000 1020).1.v, h) := run38 d 3000 1020 m (by omega) (by omega) (by omega) (by omega) (by omega)
  simp -implicitDefEqProofs [x9_w, x9_r, x9r1_w, x9r2_w, D.vw2, D.okc, D.rd, D.cells_len, D.spl, hc, D.vw, D.low]

mutual
theorem D.cut_sz : ∀ (d : D) (left deep : Nat), 0 < left → (d.cut left deep).1.sz + (d.cut left deep).2 = left
  | .mk k n t l, left, deep, h => by
    simp only [D.cut, D.sz]
    have := D.cuts_sz l (left - 1) deep
    omega
theorem D.cuts_sz : ∀ (l : List D) (left deep : Nat), D.szs (D.cuts l left deep).1 + (D.cuts l left deep).2 = left
  | [], left, deep => by simp [D.cuts, D.szs]
  | d :: l, left, deep => by
    simp only [D.cuts]
    split
    · rename_i h
      have h1 := D.cut_sz d left (deep - 1) h.2
      have h2 := D.cuts_sz l (d.cut left (deep - 1)).2 deep
      simp only [D.szs]
      omega
    · simp [D.szs]
end
theorem D.cut_small (d : D) (left deep : Nat) (h : 0 < left) : (d.cut left deep).1.sz ≤ left := by have := D.cut_sz d left deep h; omega
end Go.Proofs.YtkiliokeanmagaaDoor.Ab
