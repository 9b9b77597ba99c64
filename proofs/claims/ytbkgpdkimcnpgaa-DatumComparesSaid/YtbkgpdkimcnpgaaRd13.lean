/- datum.formed. -/
import Derived.Test.YtbkgpdkimcnpgaaRd12
namespace Go.Proofs.Ytbkgpdkimcnpgaa.Ab
open Go
set_option linter.unusedVariables false
set_option linter.unusedSimpArgs false
set_option maxRecDepth 4000
set_option maxHeartbeats 1000000

def lowH (h : List O) : Prop := h.all (O.low h.length) = true
/-- What a function that works among its caller's objects gives, and leaves them as they are. -/
def GivesL (n f : Nat) (args : List V) (r : V) : Prop := ∀ h : List O, lowH h → call X E n f args h = some (r, h)
theorem givesL_of {n f k : Nat} {xf : XF} {args : List V} {r : V} (hE : E f = none) (hX : X f = some xf) (hk : args.length = k) (hx : xfOk xf k = true) (hp : xf.pure = false ∧ xf.esc = false) (hr : r.low 0 = true)
    (hw : ∀ h, lowH h → wpk (call X E n) n xf.body [] (Fin (fun vs s => (resOf vs).vw = r ∧ s.take h.length = h) xf) ⟨arg0 (args.map V.vw2), h, h.length, 0⟩) : GivesL (n + 1) f args r := by
  intro h hh
  simp only [call, hE, hX]
  subst hk
  refine runF_at hx hp.1 hp.2 (wpx_imp _ (fun e s hq => ?_) (wpk_of (hw h hh)))
  have hrl : ∀ m, r.low m = true := fun m => by
    have := low_mono (Nat.zero_le m) r hr
    exact this
  cases e with
  | exit id => exact hq
  | normal => exact bindO_imp (fun vs hv => ⟨hv.1, hrl _, hv.2, hh⟩) hq
  | ret => exact bindO_imp (fun vs hv => ⟨hv.1, hrl _, hv.2, hh⟩) hq
theorem Gives.toL {n f : Nat} {args : List V} {r : V} (h : Gives n f args r) : GivesL n f args r := fun hh _ => h hh

def D.bad : List D → Nat → Int
  | [], _ => -1
  | d :: l, j => if d.fm then D.bad l (j + 1) else j
theorem D.bad_fms : ∀ (l : List D) (j : Nat), (decide (D.bad l j ≥ 0)) = !D.fms l
  | [], j => by simp [D.bad, D.fms]
  | d :: l, j => by
    have := D.bad_fms l (j + 1)
    simp only [D.bad, D.fms]
    by_cases hf : d.fm = true
    · simpa [hf] using this
    · simp [hf]

theorem run71 {m : Nat} {d : D} {b : Bool} (hc : Gives m 43 [d.v] (.c (.bool b))) : GivesL (m + 1) 71 [d.v] (.c (.bool !b)) := by
  have hc' : ∀ h, call X E m 43 [d.v] h = some (.c (.bool b), h) := hc
  refine givesL_of rfl rfl rfl (by kernel_rfl) ⟨rfl, rfl⟩ (by simp [V.low]) fun h hh => ?_
  simp -implicitDefEqProofs [x71_w, x71_r, x71r1_w, x71r2_w, D.vw2, D.okc, D.rd, set_last, get_last, hc']

structure I77 (l : List D) (g : List O) (m : Nat) (s : SF) : Prop where
  j : ∃ j : Nat, j + m = l.length ∧ s.e 8 = .c (.int .i64 j) ∧ D.bad l 0 = D.bad (l.drop j) j
  e0 : s.e 0 = .sl (D.vs l) .any
  e1 : s.e 1 = .c (.func (.func 71) #[] #[])
  e7 : s.e 7 = .c (.int .i64 l.length)
  h : s.h = g
  b : s.base = g.length
theorem step77 {n fu : Nat} {l : List D} {h : List O} (hh : lowH h) (hl : l.length < 4611686018427387904) (hc : ∀ x ∈ l, GivesL n 71 [x.v] (.c (.bool !x.fm))) {Q : Ex → SF → Prop}
    (hQ : ∀ s, D.bad l 0 = -1 → s.h = h → s.base = h.length → Q (.exit 0) s) (hR : ∀ s, s.e 4 = .c (.int .i64 (D.bad l 0)) → s.h = h → s.base = h.length → Q .ret s) (m : Nat) (s : SF) (I : I77 l h m s) :
    wpk (call X E n) fu x77l8 [] (fun e s' => match e with | .normal => ∃ k', k' < m ∧ I77 l h k' s' | e => Q e s') s := by
  obtain ⟨⟨j, hj, e8, hb⟩, e0, e1, e7, hh', hbs⟩ := I
  obtain ⟨e, h', base, rb⟩ := s
  simp only at e8 e0 e1 e7 hh' hbs
  subst hh' hbs
  by_cases hm : j < l.length
  · have hlt : (j : Int) < l.length := by omega
    have hx := hc _ (List.getElem_mem hm) h' hh
    have hd : l.drop j = l[j] :: l.drop (j + 1) := List.drop_eq_getElem_cons hm
    cases hf : (l[j]).fm with
    | true =>
      rw [hf] at hx
      simp -implicitDefEqProofs [x77l8_w, x77r3_w, x77r4_w, x77r5_w, x77r6_w, x77r7_w, e0, e1, e7, e8, D.vs_len, hlt, hm, D.vs_getE, D.cells_len, D.rd, hx]
      refine ⟨m - 1, by omega, ⟨⟨j + 1, by omega, ?_, ?_⟩, ?_, ?_, ?_, rfl, rfl⟩⟩
      · simp only [upd_at, e8]
        simp
        rw [wrap_in (by omega)]
      · rw [hb, hd, D.bad, hf]; rfl
      · simp [upd_at, e0]
      · simp [upd_at, e1]
      · simp [upd_at, e7]
    | false =>
      rw [hf] at hx
      simp -implicitDefEqProofs [x77l8_w, x77r3_w, x77r4_w, x77r5_w, x77r6_w, x77r7_w, e0, e1, e7, e8, D.vs_len, hlt, hm, D.vs_getE, D.cells_len, D.rd, hx]
      refine hR _ ?_ rfl rfl
      rw [hb, hd, D.bad, hf]
      simp [upd_at, e8]
  · have hlt : ¬ (j : Int) < l.length := by omega
    have hj2 : j = l.length := by omega
    simp -implicitDefEqProofs [x77l8_w, x77r3_w, x77r4_w, x77r5_w, x77r6_w, x77r7_w, e0, e1, e7, e8, D.vs_len, hlt]
    refine hQ _ ?_ rfl rfl
    rw [hb, hj2, List.drop_length, D.bad]

theorem run77 {n : Nat} {l : List D} (hl : l.length < 4611686018427387904) (hn : l.length < n) (hc : ∀ x ∈ l, GivesL n 71 [x.v] (.c (.bool !x.fm))) :
    GivesL (n + 1) 77 [.sl (D.vs l) .any, .c (.func (.func 71) #[] #[])] (.c (.int .i64 (D.bad l 0))) := by
  refine givesL_of rfl rfl rfl (by kernel_rfl) ⟨rfl, rfl⟩ (by simp [V.low]) fun h hh => ?_
  simp -implicitDefEqProofs [x77_w, x77_r, x77r1_w, x77r2_w, D.vs_len]
  refine lpk_of (I77 l h) l.length hn ⟨⟨0, by simp, ?_, ?_⟩, ?_, ?_, ?_, rfl, rfl⟩ ?_
  · simp [upd_at]
  · simp
  · simp [upd_at, arg0]
  · simp [upd_at, arg0]
  · simp [upd_at]
  · refine step77 hh hl hc (fun s h1 h2 h3 => ?_) fun s h1 h2 h3 => ?_
    · obtain ⟨e, h', base, rb⟩ := s
      simp only at h2 h3
      subst h2 h3
      simp -implicitDefEqProofs [x77_r, x77r9_w, h1]
    · obtain ⟨e, h', base, rb⟩ := s
      simp only at h1 h2 h3
      subst h2 h3
      simp -implicitDefEqProofs [x77_r, h1]

theorem run70 {n : Nat} {l : List D} (hc : GivesL n 77 [.sl (D.vs l) .any, .c (.func (.func 71) #[] #[])] (.c (.int .i64 (D.bad l 0)))) :
    GivesL (n + 1) 70 [.sl (D.vs l) .any, .c (.func (.func 71) #[] #[])] (.c (.bool !D.fms l)) := by
  refine givesL_of rfl rfl rfl (by kernel_rfl) ⟨rfl, rfl⟩ (by simp [V.low]) fun h hh => ?_
  have h1 := hc h hh
  have h2 := D.bad_fms l 0
  simp -implicitDefEqProofs [x70_w, x70_r, x70r1_w, x70r2_w, h1]
  simpa using h2

theorem run43 : ∀ d : D, d.sz < 4611686018427387904 → ∀ n, 4 * d.sz + 62 ≤ n → Gives n 43 [d.v] (.c (.bool d.fm)) := by
  refine D.ind fun k n t l ih hs m hm => ?_
  simp only [D.sz] at hs hm
  obtain ⟨m, rfl⟩ : ∃ m', m = m' + 4 := ⟨m - 4, by omega⟩
  have hlen := D.len_szs l
  have hsy : ∀ h, call X E (m + 3) 23 [.c (.string t)] h = some (.c (.bool (symB t)), h) := gives_nil (n := m + 3) rfl (up (by omega) (sym23 (n := 60) (by omega) t))
  have h71 : ∀ x ∈ l, GivesL (m + 1) 71 [x.v] (.c (.bool !x.fm)) := fun x hx => run71 (ih x hx (by have := D.mem_sz hx; omega) m (by have := D.mem_sz hx; omega))
  have h70 := run70 (run77 (n := m + 1) (l := l) (by omega) (by omega) h71)
  have h70' := h70 [.cells [.c (.int .i64 k), .c (.int .i64 n), .c (.string t), .sl (D.vs l) .any]] (by simp [lowH, O.low, V.lows, V.low, D.lows, SI.low])
  refine gives_of rfl rfl rfl (by kernel_rfl) ⟨rfl, rfl⟩ (by simp [D.vw2, V.lows, D.low]) ?_
  by_cases h1 : k = 1
  · subst h1
    cases ht : empB t <;> cases h0 : (l.length == 0) <;>
      simp -implicitDefEqProofs [x43_w, x43_r, x43r1_w, x43r2_w, x43r3_w, x43r4_w, D.vw2, D.v, ht, D.vs_len, h0, D.fm]
  · by_cases h2 : k = 2
    · subst h2
      cases hn : (n == 0) <;> cases hy : symB t <;> cases h0 : (l.length == 0) <;> rw [hy] at hsy <;>
        simp -implicitDefEqProofs [x43_w, x43_r, x43r1_w, x43r2_w, x43r3_w, x43r4_w, x43r5_w, x43r6_w, D.vw2, D.v, hn, hsy, D.vs_len, h0, D.fm, hy]
    · by_cases h3 : k = 3
      · subst h3
        cases hn : (n == 0) <;> cases ht : empB t <;> cases hf : D.fms l <;> rw [hf] at h70' <;>
          simp -implicitDefEqProofs [x43_w, x43_r, x43r1_w, x43r2_w, x43r3_w, x43r4_w, x43r5_w, x43r6_w, x43r7_w, x43r8_w, D.vw2, D.v, hn, ht, h70', D.fm, hf]
      · have b1 : (k == 1) = false := by simpa using h1
        have b2 : (k == 2) = false := by simpa using h2
        have b3 : (k == 3) = false := by simpa using h3
        simp -implicitDefEqProofs [b1, b2, b3, x43_w, x43_r, x43r1_w, x43r2_w, x43r3_w, x43r5_w, x43r7_w, x43r9_w, D.vw2, D.v, h1, h2, h3, D.fm]
end Go.Proofs.Ytbkgpdkimcnpgaa.Ab
