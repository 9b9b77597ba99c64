/- Part 14 of 15: what the functions do. -/
import Derived.Test.YtkiliokeanmagaaDoorMB12
namespace Go.Proofs.YtkiliokeanmagaaDoor.Ab
open Go
set_option linter.unusedVariables false
set_option linter.unusedSimpArgs false
set_option maxRecDepth 8000
set_option maxHeartbeats 2000000
theorem form_cases (d : D) : d.form = 0 ∨ d.form = 1 ∨ d.form = 2 ∨ d.form = 3 ∨ d.form = 4 ∨ d.form = 5 ∨ d.form = 6 ∨ d.form = 7 ∨ d.form = 8 ∨ d.form = 9 ∨ d.form = 10 := by
  obtain ⟨k, i, t, l⟩ := d
  simp only [D.form]
  have := form0_cases l
  repeat' split
  all_goals omega
theorem form_len {d : D} : (d.form = 4 → d.kids.length = 4) ∧ (d.form = 8 → d.kids.length = 3) ∧ (d.form = 6 → d.kids.length = 4) ∧ (d.form = 5 → d.kids.length = 3) ∧ (d.form = 9 → d.kids.length = 3) ∧ (d.form = 7 → d.kids.length = 3 ∧ grp (d.kid 1) = true) := by
  obtain ⟨k, i, t, l⟩ := d
  have key : ∀ f : Int, 3 ≤ f → f ≤ 9 → (D.mk k i t l).form = f → okF f l = true := by
    intro f h1 h2 hf
    simp only [D.form] at hf
    split at hf
    · omega
    · split at hf
      · split at hf <;> omega
      · split at hf
        · omega
        · split at hf
          · rename_i hok
            split at hf
            · omega
            · rw [hf] at hok; exact hok
          · omega
  refine ⟨fun h => ?_, fun h => ?_, fun h => ?_, fun h => ?_, fun h => ?_, fun h => ?_⟩ <;>
  · have := key _ (by omega) (by omega) h
    simp [okF] at this
    simp only [D.kids, D.kid, List.getD_eq_getElem?_getD]
    first | exact this | exact this.1 | exact ⟨this.1, this.2⟩
theorem tail72 {cf : CallF} {n : Nat} {Y : List Int → D → List O → Option (Bool × List O)} {P : List O → Prop} {kd ni : Int} {t : ByteArray} {l : List D} {frm N c : Nat} {W : Bool × List O} {k : Int} (hk : 0 ≤ k) {y : Nat} (hy : 1000000 ≤ y) {caps : List V} (hl : l.length < 1099511627776) (hfr : frm < 10) (hfl : frm ≤ l.length) (hn : l.length < n)
    (hcell : ∀ G : List O, N ≤ G.length → P (G.take N) → G[c]? = some (.cells [.c (.int .i64 kd), .c (.int .i64 ni), .c (.string t), .sl (D.vs l) .any]))
    (hY : YAt cf k y caps N P Y (sub1 frm (l.drop frm) 0)) (hlow : W.2.all (O.low N) = true) (s : SF) (hN : N ≤ s.h.length) (hP : P (s.h.take N)) (hw : walkY Y (sub1 frm (l.drop frm) 0) (s.h.take N) = some W) (hlw : lowH s.h)
    (e1 : s.e 1 = .ref c 0) (e3 : s.e 3 = .c (.int .i64 frm)) (e0 : s.e 0 = .yld k.toNat y 2 caps) (hb : s.base = N) :
    wpk cf n (.seq x72r19 (.block 3 (.loop x72l24))) [] (Fin (fun vs s => (resOf vs).vw = .tup [] ∧ (V.tup []).low N = true ∧ s.take N = W.2 ∧ W.2.all (O.low N) = true) x72) s := by
  obtain ⟨e, h, base, rb⟩ := s
  simp only at hN hP hw hlw e1 e3 e0 hb
  subst hb
  have hc := hcell h hN hP
  have hvl := D.vs_len l
  have hdv : (D.vs l).drop frm = D.vs (l.drop frm) := by rw [D.vs_map, D.vs_map, List.map_drop]
  have htk : (D.vs l).take l.length = D.vs l := by rw [List.take_of_length_le (by omega)]
  have hI : (0 : Int) ≤ frm ∧ (frm : Int) ≤ l.length := ⟨by omega, by omega⟩
  have hhz := D.hz l
  have hdl : (D.vs (l.drop frm)).length = (l.drop frm).length := D.vs_len _
  generalize D.vs l = U at *
  simp -implicitDefEqProofs [x72r19_w, e1, e3, e0, hc, hvl, hdv, htk, hI.1, hI.2, hhz]
  have hlow' : ∀ x, x ∈ W.2 → O.low base x = true := fun x hx => List.all_eq_true.1 hlow x hx
  have hfin : ∀ s : SF, W.2 = s.h.take base → (resOf ([] : List V)).vw = V.tup [] ∧ V.low base (V.tup []) = true ∧ List.take base s.h = W.2 ∧ ∀ (x : O), x ∈ W.2 → O.low base x = true := fun s h1 => ⟨rfl, by simp [V.low, V.lows], h1.symm, hlow'⟩
  refine lpk_of (J72 Y P (l.drop frm) frm base W k y caps) (l.drop frm).length (by simp; omega) ⟨⟨0, by simp, by simp [upd_at], hN, hP, by simpa using hw, hlw⟩, by simp [upd_at], by simp [upd_at, hdl], by simp [upd_at, e3], by simp [upd_at, e0], rfl⟩ ?_
  refine jstep72 hk hy (by simp; omega) hfr hY (fun s h1 h2 h3 h4 => ?_) fun s h1 h2 h4 => ?_
  · have := hfin s (by rw [h2])
    simp -implicitDefEqProofs [x72_r]
    exact this
  · have := hfin s (by rw [h2])
    simp -implicitDefEqProofs [x72_r]
    exact this
theorem YAt.sub {cf : CallF} {k : Int} {y : Nat} {caps : List V} {N : Nat} {P : List O → Prop} {Y : List Int → D → List O → Option (Bool × List O)} {L L' : List (List Int × D)} (h : YAt cf k y caps N P Y L) (hs : ∀ z ∈ L', z ∈ L) : YAt cf k y caps N P Y L' :=
  fun p x hin => h p x (hs _ hin)
theorem go72 (d : D) {n : Nat} (hn : d.sz + 10 < n) (hl : d.sz < 1099511627776) {H : List O} {c : Nat} {k : Int} (hk : 0 ≤ k) {y : Nat} (hy : 1000000 ≤ y) {caps : List V} {Y : List Int → D → List O → Option (Bool × List O)} {P : List O → Prop} {W : Bool × List O}
    (hcell : ∀ G : List O, H.length ≤ G.length → P (G.take H.length) → G[c]? = some (.cells d.v.cells)) (hP : P H) (hY : YAt (call X E n) k y caps H.length P Y d.parts) (hw : walkY Y d.parts H = some W) (hlow : W.2.all (O.low H.length) = true) (hlH : lowH H) :
    call X E (n + 1) 72 [.yld k.toNat y 2 caps, .ref c 0] H = some (.tup [], W.2) := by
  have hE : E 72 = none := rfl
  have hX : X 72 = some x72 := rfl
  simp only [call, hE, hX, show x72.asg = none from rfl]
  obtain ⟨n, rfl⟩ : ∃ n', n = n' + 1 := ⟨n - 1, by omega⟩
  have c54 : ∀ h, call X E (n + 1) 54 [d.v] h = some (.c (.int .i64 d.form), h) := go54 d (by omega) hl
  have hkl := kids_lt d
  have hfl := form_len (d := d)
  have hfc := form_cases d
  have hHc := hcell H (Nat.le_refl _) (by rw [List.take_of_length_le (Nat.le_refl _)]; exact hP)
  have hvw : ([V.yld k.toNat y 2 caps, .ref c 0] : List V).map V.vw2 = [.yld k.toNat y 2 caps, .ref c 0] := rfl
  refine runF_at (by kernel_rfl) rfl rfl (wpk_of ?_)
  rw [hvw]
  have hl1 : d.kids.length < 1099511627776 := by omega
  have hl2 : d.kids.length < n + 1 := by omega
  generalize hm : n + 1 = m at *
  have tail : ∀ (frm : Nat) (s : SF), frm < 10 → frm ≤ d.kids.length → (∀ z ∈ sub1 frm (d.kids.drop frm) 0, z ∈ d.parts) → H.length ≤ s.h.length → P (s.h.take H.length) → walkY Y (sub1 frm (d.kids.drop frm) 0) (s.h.take H.length) = some W → lowH s.h → s.e 1 = .ref c 0 → s.e 3 = .c (.int .i64 frm) → s.e 0 = .yld k.toNat y 2 caps → s.base = H.length →
      wpk (call X E m) m (.seq x72r19 (.block 3 (.loop x72l24))) [] (Fin (fun vs s => (resOf vs).vw = .tup [] ∧ (V.tup []).low H.length = true ∧ s.take H.length = W.2 ∧ W.2.all (O.low H.length) = true) x72) s := by
    intro frm s h1 h2 h3 h4 h5 h6 h7 e1 e3 e0 hb
    obtain ⟨kd, ni, t, l⟩ := d
    exact tail72 hk hy (show l.length < _ from hl1) h1 h2 (show l.length < _ from hl2) hcell (hY.sub h3) hlow s h4 h5 h6 h7 e1 e3 e0 hb
  have hT : ∀ G : List O, G.length = H.length → G.take H.length = G := fun G hG => List.take_of_length_le (by omega)
  have htH : H.take H.length = H := List.take_of_length_le (Nat.le_refl _)
  rw [x72_w]
  obtain ⟨T, hTt⟩ : ∃ T, T = XC.seq x72r19 (.block 3 (.loop x72l24)) := ⟨_, rfl⟩
  rw [← hTt]
  rw [← hTt] at tail
  clear hTt
  obtain ⟨Q0, hQ0⟩ : ∃ Q0, Q0 = (Fin (fun vs s => (resOf vs).vw = .tup [] ∧ (V.tup []).low H.length = true ∧ s.take H.length = W.2 ∧ W.2.all (O.low H.length) = true) x72) := ⟨_, rfl⟩
  rw [← hQ0]
  rw [← hQ0] at tail
  rcases hfc with hf | hf | hf | hf | hf | hf | hf | hf | hf | hf | hf
  all_goals rw [hf] at c54
  · have hp : d.parts = [] := by simp [D.parts, hf]
    rw [hp] at hw
    simp only [walkY, Option.some.injEq] at hw
    have h1 : W.2 = H := by rw [← hw]
    have h2 : (resOf ([] : List V)).vw = V.tup [] ∧ V.low H.length (V.tup []) = true ∧ H.take H.length = W.2 ∧ W.2.all (O.low H.length) = true := ⟨rfl, by simp [V.low, V.lows], by rw [h1, htH], hlow⟩
    subst hQ0
    clear tail
    generalize W.2 = Z at *
    simp -implicitDefEqProofs [x72r1_w, x72r2_w, x72r3_w, x72r4_w, x72r5_w, x72r6_w, x72r7_w, x72r8_w, x72r9_w, x72r10_w, x72r18_w, hHc, D.rd, c54, x72_r]
    exact ⟨h2.1, h2.2.1, by rw [← htH]; exact h2.2.2.1, fun x hx => List.all_eq_true.1 h2.2.2.2 x hx⟩
  · have hp : d.parts = [] := by simp [D.parts, hf]
    rw [hp] at hw
    simp only [walkY, Option.some.injEq] at hw
    have h1 : W.2 = H := by rw [← hw]
    have h2 : (resOf ([] : List V)).vw = V.tup [] ∧ V.low H.length (V.tup []) = true ∧ H.take H.length = W.2 ∧ W.2.all (O.low H.length) = true := ⟨rfl, by simp [V.low, V.lows], by rw [h1, htH], hlow⟩
    subst hQ0
    clear tail
    generalize W.2 = Z at *
    simp -implicitDefEqProofs [x72r1_w, x72r2_w, x72r3_w, x72r4_w, x72r5_w, x72r6_w, x72r7_w, x72r8_w, x72r9_w, x72r10_w, x72r18_w, hHc, D.rd, c54, x72_r]
    exact ⟨h2.1, h2.2.1, by rw [← htH]; exact h2.2.2.1, fun x hx => List.all_eq_true.1 h2.2.2.2 x hx⟩
  · have hp : d.parts = [] := by simp [D.parts, hf]
    rw [hp] at hw
    simp only [walkY, Option.some.injEq] at hw
    have h1 : W.2 = H := by rw [← hw]
    have h2 : (resOf ([] : List V)).vw = V.tup [] ∧ V.low H.length (V.tup []) = true ∧ H.take H.length = W.2 ∧ W.2.all (O.low H.length) = true := ⟨rfl, by simp [V.low, V.lows], by rw [h1, htH], hlow⟩
    subst hQ0
    clear tail
    generalize W.2 = Z at *
    simp -implicitDefEqProofs [x72r1_w, x72r2_w, x72r3_w, x72r4_w, x72r5_w, x72r6_w, x72r7_w, x72r8_w, x72r9_w, x72r10_w, x72r18_w, hHc, D.rd, c54, x72_r]
    exact ⟨h2.1, h2.2.1, by rw [← htH]; exact h2.2.2.1, fun x hx => List.all_eq_true.1 h2.2.2.2 x hx⟩
  · have hp : d.parts = [] := by simp [D.parts, hf]
    rw [hp] at hw
    simp only [walkY, Option.some.injEq] at hw
    have h1 : W.2 = H := by rw [← hw]
    have h2 : (resOf ([] : List V)).vw = V.tup [] ∧ V.low H.length (V.tup []) = true ∧ H.take H.length = W.2 ∧ W.2.all (O.low H.length) = true := ⟨rfl, by simp [V.low, V.lows], by rw [h1, htH], hlow⟩
    subst hQ0
    clear tail
    generalize W.2 = Z at *
    simp -implicitDefEqProofs [x72r1_w, x72r2_w, x72r3_w, x72r4_w, x72r5_w, x72r6_w, x72r7_w, x72r8_w, x72r9_w, x72r10_w, x72r18_w, hHc, D.rd, c54, x72_r]
    exact ⟨h2.1, h2.2.1, by rw [← htH]; exact h2.2.2.1, fun x hx => List.all_eq_true.1 h2.2.2.2 x hx⟩
  · have hp : d.parts = sub1 1 (d.kids.drop 1) 0 := by simp [D.parts, hf]
    have htl := fun s => tail 1 s (by omega) (by omega) (by rw [hp]; exact fun z hz => hz)
    rw [← hp] at htl
    clear tail
    simp -implicitDefEqProofs [x72r1_w, x72r2_w, x72r3_w, x72r4_w, x72r5_w, x72r6_w, x72r7_w, x72r8_w, x72r9_w, x72r10_w, x72r18_w, hHc, D.rd, c54]
    refine htl _ (Nat.le_refl _) (by rw [htH]; exact hP) (by rw [htH]; exact hw) hlH ?_ ?_ ?_ rfl
    · simp [upd_at, arg0]
    · simp [upd_at]
    · simp [upd_at, arg0]
  · have hp : d.parts = sub1 2 (d.kids.drop 2) 0 := by simp [D.parts, hf]
    have htl := fun s => tail 2 s (by omega) (by omega) (by rw [hp]; exact fun z hz => hz)
    rw [← hp] at htl
    clear tail
    simp -implicitDefEqProofs [x72r1_w, x72r2_w, x72r3_w, x72r4_w, x72r5_w, x72r6_w, x72r7_w, x72r8_w, x72r9_w, x72r10_w, x72r18_w, hHc, D.rd, c54]
    refine htl _ (Nat.le_refl _) (by rw [htH]; exact hP) (by rw [htH]; exact hw) hlH ?_ ?_ ?_ rfl
    · simp [upd_at, arg0]
    · simp [upd_at]
    · simp [upd_at, arg0]
  · have hp : d.parts = sub1 2 (d.kids.drop 2) 0 := by simp [D.parts, hf]
    have htl := fun s => tail 2 s (by omega) (by omega) (by rw [hp]; exact fun z hz => hz)
    rw [← hp] at htl
    clear tail
    simp -implicitDefEqProofs [x72r1_w, x72r2_w, x72r3_w, x72r4_w, x72r5_w, x72r6_w, x72r7_w, x72r8_w, x72r9_w, x72r10_w, x72r18_w, hHc, D.rd, c54]
    refine htl _ (Nat.le_refl _) (by rw [htH]; exact hP) (by rw [htH]; exact hw) hlH ?_ ?_ ?_ rfl
    · simp [upd_at, arg0]
    · simp [upd_at]
    · simp [upd_at, arg0]
  · have hg := (hfl.2.2.2.2.2 hf).2
    have h3 := (hfl.2.2.2.2.2 hf).1
    have hp : d.parts = recs (d.kid 1).kids 0 ++ sub1 2 (d.kids.drop 2) 0 := by simp [D.parts, hf]
    have htl := fun s => tail 2 s (by omega) (by omega) (by rw [hp]; exact fun z hz => List.mem_append_right _ hz)
    clear tail
    obtain ⟨kd, ni, t, l⟩ := d
    obtain ⟨a, b, c', rfl⟩ := list3 h3
    have hk1 : (D.mk kd ni t [a, b, c']).kid 1 = b := rfl
    rw [hk1] at hg hp
    have hdef : ∀ x ∈ b.kids, x.kids.length = 3 := by
      simp only [grp, Bool.and_eq_true] at hg
      intro x hx
      have := List.all_eq_true.1 hg.2.2.2.1 x hx
      simp only [defB, Bool.and_eq_true, beq_iff_eq] at this
      exact this.2.1
    rw [hp] at hw hY
    have hYr := hY.sub (L' := recs b.kids 0) fun z hz => List.mem_append_left _ hz
    obtain ⟨kb, ib, tb, lb⟩ := b
    simp only [D.kids] at hdef hYr hw
    have hbl : lb.length < 1099511627776 ∧ lb.length < m := by
      have h1 := kids_lt (.mk kb ib tb lb)
      have h2 := kid_lt (d := .mk kd ni t [a, .mk kb ib tb lb, c']) (x := .mk kb ib tb lb) (by simp [D.kids])
      simp only [D.kids] at h1
      omega
    have hHc2 : H[c]? = some (.cells [.c (.int .i64 kd), .c (.int .i64 ni), .c (.string t), .sl [a.v, .agg [.c (.int .i64 kb), .c (.int .i64 ib), .c (.string tb), .sl (D.vs lb) .any], c'.v] .any]) := hHc
    have hdv : (D.mk kd ni t [a, .mk kb ib tb lb, c']).v = .agg [.c (.int .i64 kd), .c (.int .i64 ni), .c (.string t), .sl [a.v, .agg [.c (.int .i64 kb), .c (.int .i64 ib), .c (.string tb), .sl (D.vs lb) .any], c'.v] .any] := rfl
    rw [hdv] at c54
    have hvl := D.vs_len lb
    simp -implicitDefEqProofs [x72r1_w, x72r2_w, x72r3_w, x72r4_w, x72r5_w, x72r6_w, x72r7_w, x72r8_w, x72r9_w, x72r10_w, x72r11_w, hHc2, c54, hvl]
    refine lpk_of (K72 Y P lb (sub1 2 [c'] 0) H.length W k y caps (.ref c 0)) lb.length hbl.2 ⟨⟨0, by simp, by simp [upd_at], Nat.le_refl _, by rw [htH]; exact hP, by rw [htH]; exact hw, hlH⟩, by simp [upd_at], by simp [upd_at], by simp [upd_at, arg0], by simp [upd_at, arg0], rfl⟩ ?_
    refine kstep72 hk hy hbl.1 hdef hYr (fun s h1 h0 h2 h3 h4 h5 h6 => ?_) fun s h1 h2 h4 => ?_
    · obtain ⟨e, h, base, rb⟩ := s
      simp only at h1 h0 h2 h3 h4 h5 h6
      subst h6
      simp -implicitDefEqProofs [x72r17_w]
      exact htl _ h1 h3 h2 h0 (by simp [upd_at, h4]) (by simp [upd_at]) (by simp [upd_at, h5]) rfl
    · subst hQ0
      have := List.all_eq_true.1 hlow
      simp -implicitDefEqProofs [x72_r]
      exact ⟨rfl, by simp [V.low, V.lows], by rw [h2], this⟩
  · have hp : d.parts = sub1 1 (d.kids.drop 1) 0 := by simp [D.parts, hf]
    have htl := fun s => tail 1 s (by omega) (by omega) (by rw [hp]; exact fun z hz => hz)
    rw [← hp] at htl
    clear tail
    simp -implicitDefEqProofs [x72r1_w, x72r2_w, x72r3_w, x72r4_w, x72r5_w, x72r6_w, x72r7_w, x72r8_w, x72r9_w, x72r10_w, x72r18_w, hHc, D.rd, c54]
    refine htl _ (Nat.le_refl _) (by rw [htH]; exact hP) (by rw [htH]; exact hw) hlH ?_ ?_ ?_ rfl
    · simp [upd_at, arg0]
    · simp [upd_at]
    · simp [upd_at, arg0]
  · have hp : d.parts = sub1 2 (d.kids.drop 2) 0 := by simp [D.parts, hf]
    have htl := fun s => tail 2 s (by omega) (by omega) (by rw [hp]; exact fun z hz => hz)
    rw [← hp] at htl
    clear tail
    simp -implicitDefEqProofs [x72r1_w, x72r2_w, x72r3_w, x72r4_w, x72r5_w, x72r6_w, x72r7_w, x72r8_w, x72r9_w, x72r10_w, x72r18_w, hHc, D.rd, c54]
    refine htl _ (Nat.le_refl _) (by rw [htH]; exact hP) (by rw [htH]; exact hw) hlH ?_ ?_ ?_ rfl
    · simp [upd_at, arg0]
    · simp [upd_at]
    · simp [upd_at, arg0]
  · have hp : d.parts = sub1 0 (d.kids.drop 0) 0 := by simp [D.parts, hf]
    have htl := fun s => tail 0 s (by omega) (by omega) (by rw [hp]; exact fun z hz => hz)
    rw [← hp] at htl
    clear tail
    simp -implicitDefEqProofs [x72r1_w, x72r2_w, x72r3_w, x72r4_w, x72r5_w, x72r6_w, x72r7_w, x72r8_w, x72r9_w, x72r10_w, x72r18_w, hHc, D.rd, c54]
    refine htl _ (Nat.le_refl _) (by rw [htH]; exact hP) (by rw [htH]; exact hw) hlH ?_ ?_ ?_ rfl
    · simp [upd_at, arg0]
    · simp [upd_at]
    · simp [upd_at, arg0]
end Go.Proofs.YtkiliokeanmagaaDoor.Ab

namespace Go.Proofs.YtkiliokeanmagaaDoor.Ab
open Go
set_option linter.unusedVariables false
set_option linter.unusedSimpArgs false
set_option maxRecDepth 8000
set_option maxHeartbeats 2000000
theorem D.shift (m : Nat) : ∀ d : D, d.v.shift m = d.v := by
  refine D.ind fun k n t l ih => ?_
  have h : V.shifts m (D.vs l) = D.vs l := by
    rw [shifts_map, D.vs_map, List.map_map]
    exact List.map_congr_left fun x hx => ih x hx
  simp [D.v, V.shift, V.shifts, h, SI.shift]
theorem runF_esc {cf : CallF} {n : Nat} {xf : XF} {args : List V} {h : List O} {P : V → List O → Prop} (hx : xfOk xf args.length = true) (hp : xf.pure = true) (he : xf.esc = true) (hl : V.lows 0 (args.map V.vw2) = true)
    (hw : wpx cf n xf.body ⟨arg0 (args.map V.vw2), [], 0, 0⟩ (Fin (fun vs s => P (resOf vs).vw s) xf)) (hr : xf.rw = false := by rfl) : ∃ v H, P v H ∧ runF cf n xf args h = some (v.shift h.length, h ++ H.map (O.shift h.length)) := by
  have := exec_of (cf := cf) (n := n) (xf := xf) (args := args.map V.vw2) (h := []) (by simpa using hx) hw
  obtain ⟨e, s, vs, h1, h2, h3, h4, h5⟩ := this
  refine ⟨(resOf vs).vw, s.h, h5, ?_⟩
  unfold runF
  rw [if_pos hp, if_pos hl, if_pos he, show pre0 xf = [] by simp [pre0, hr], h1]
  cases e with
  | exit id => exact absurd rfl (h2 id)
  | normal => simp [fin, h3]
  | ret => simp [fin, h3]
theorem go45 (d : D) {n : Nat} (h : List O) : call X E (n + 1) 45 [d.v] h = some (.clo 72 [.ref h.length 0], h ++ [.cells d.v.cells]) := by
  have hE : E 45 = none := rfl
  have hX : X 45 = some x45 := rfl
  simp only [call, hE, hX, show x45.asg = none from rfl]
  obtain ⟨v, H, ⟨h1, h2⟩, h3⟩ := runF_esc (cf := call X E n) (n := n) (xf := x45) (args := [d.v]) (h := h) (P := fun v H => v = .clo 72 [.ref 0 0] ∧ H = [.cells d.v.cells]) (by kernel_rfl) rfl rfl (by simp [D.vw2, V.lows, D.low]) (by
    refine wpk_of ?_
    simp -implicitDefEqProofs [x45_w, x45_r, x45r1_w, x45r2_w, D.vw2, D.okc]
    simp [V.vw, V.vw2, V.vw1])
  rw [h3, h1, h2]
  have hs : V.shifts h.length d.v.cells = d.v.cells := by
    obtain ⟨k, i, t, l⟩ := d
    have := D.shift h.length (.mk k i t l)
    simp only [D.v, V.shift, V.agg.injEq] at this
    exact this
  simp [V.shift, V.shifts, O.shift, hs]
end Go.Proofs.YtkiliokeanmagaaDoor.Ab

namespace Go.Proofs.YtkiliokeanmagaaDoor.Ab
open Go
set_option linter.unusedVariables false
set_option linter.unusedSimpArgs false
set_option maxRecDepth 8000
set_option maxHeartbeats 2000000
def pv (p : List Int) : V := .sl (p.map I64) .any
def pvs (ps : List (List Int)) : List V := ps.map pv
theorem pvs_len (ps : List (List Int)) : (pvs ps).length = ps.length := by simp [pvs]
theorem lows_I64 (m : Nat) (p : List Int) : V.lows m (p.map I64) = true := lows_of fun v hv => by
  obtain ⟨i, _, rfl⟩ := List.mem_map.1 hv
  rfl
theorem pv_low (m : Nat) (p : List Int) : (pv p).low m = true := by simp [pv, V.low, lows_I64, SI.low]
theorem hz_I64 (p : List Int) : hz 1 (p.map I64) = true := by cases p <;> rfl
theorem fl_succ {ps : List (List Int)} {j : Nat} (h : j < ps.length) : (ps.take (j + 1)).flatten = (ps.take j).flatten ++ ps[j] := by
  rw [List.take_add_one, List.getElem?_eq_getElem h, List.flatten_append]
  simp only [Option.toList_some, List.flatten_cons, List.flatten_nil, List.append_nil]
theorem fl_le (ps : List (List Int)) (j : Nat) : (ps.take j).flatten.length ≤ ps.flatten.length := by
  have h : ps.flatten = (ps.take j).flatten ++ (ps.drop j).flatten := by rw [← List.flatten_append, List.take_append_drop]
  rw [h, List.length_append]
  omega
theorem call83 {n : Nat} (k : Nat) (hk : k * 8 ≤ 140737488355328) (h : List O) : call X E (n + 1) 83 [.sl [] .nil, .c (.int .i64 k)] h = if k = 0 then some (.sl [] .nil, h) else some (.sl [] (.tok h.length), h ++ [.tok 0 1]) := by
  have hE : E 83 = some (fun _ _ => growE) := rfl
  simp only [call, hE, growE]
  by_cases h0 : k = 0
  · simp [h0]
  · rw [if_neg (by omega), if_pos ⟨by omega, by omega⟩, if_neg h0]
structure J64 (ps : List (List Int)) (m : Nat) (s : SF) : Prop where
  j : ∃ j : Nat, j + m = ps.length ∧ s.e 11 = .c (.int .i64 j) ∧ s.e 3 = .c (.int .i64 (ps.take j).flatten.length)
  e9 : s.e 9 = .sl (pvs ps) .any
  e10 : s.e 10 = .c (.int .i64 ps.length)
  e0 : s.e 0 = .sl (pvs ps) .any
  b : s.base = 0
theorem jstep64 {cf : CallF} {fu : Nat} {ps : List (List Int)} (hl : ps.length < 1099511627776) (hfl : ps.flatten.length < 1099511627776) {Q : Ex → SF → Prop}
    (hQ : ∀ s, s.e 3 = .c (.int .i64 ps.flatten.length) → s.e 0 = .sl (pvs ps) .any → s.base = 0 → Q (.exit 0) s) (m : Nat) (s : SF) (I : J64 ps m s) :
    wpk cf fu x64l9 [] (fun e s' => match e with | .normal => ∃ k1, k1 < m ∧ J64 ps k1 s' | e => Q e s') s := by
  obtain ⟨⟨j, hj, e11, e3⟩, e9, e10, e0, hb⟩ := I
  obtain ⟨e, h, base, rb⟩ := s
  simp only at e11 e3 e9 e10 e0 hb
  subst hb
  have hpl := pvs_len ps
  by_cases hm : j < ps.length
  · have hlt : (j : Int) < ps.length := by omega
    have hq : (pvs ps)[j]'(by omega) = .sl (ps[j].map I64) .any := by simp [pvs, pv]
    have hs := fl_succ hm
    have hle := fl_le ps (j + 1)
    rw [hs, List.length_append] at hle
    have hw : IntKind.i64.wrap (((ps.take j).flatten.length : Int) + ps[j].length) = (((ps.take j).flatten.length + ps[j].length : Nat) : Int) := by rw [wrap_in (by omega)]; omega
    have hs2 : (ps.take (j + 1)).flatten.length = (ps.take j).flatten.length + ps[j].length := by rw [hs, List.length_append]
    generalize (ps.take j).flatten.length = T at *
    generalize hT2 : (ps.take (j + 1)).flatten.length = T2 at *
    have hml : (ps[j].map I64).length = ps[j].length := by simp
    generalize ps[j].map I64 = w at *
    generalize ps[j].length = wl at *
    subst hml
    have hnn : ¬ ((T : Int) + w.length < 0) := by omega
    rw [show ((T + w.length : Nat) : Int) = (T : Int) + w.length by omega] at hw
    simp -implicitDefEqProofs [x64l9_w, x64r4_w, x64r5_w, x64r6_w, x64r7_w, x64r8_w, e9, e10, e11, e3, hpl, hlt, hm, hq, hw, hnn]
    refine ⟨m - 1, by omega, ⟨⟨j + 1, by omega, ?_, ?_⟩, ?_, ?_, ?_, rfl⟩⟩
    · simp only [upd_at, e11]
      simp
      rw [wrap_in (by omega)]
    · rw [hT2, hs2]; simp [upd_at]
    · simp [upd_at, e9]
    · simp [upd_at, e10]
    · simp [upd_at, e0]
  · have hlt : ¬ (j : Int) < ps.length := by omega
    rw [List.take_of_length_le (by omega)] at e3
    simp -implicitDefEqProofs [x64l9_w, x64r4_w, e10, e11, hlt]
    exact hQ _ (by simp [upd_at, e3]) (by simp [upd_at, e0]) rfl
def TokC (n : Nat) (si : SI) (h : List O) : Prop := ∃ q, si = .tok q ∧ h[q]? = some (.tok n 1)
structure K64 (ps : List (List Int)) (m : Nat) (s : SF) : Prop where
  j : ∃ (j : Nat) (si : SI), j + m = ps.length ∧ s.e 27 = .c (.int .i64 j) ∧ s.e 6 = .sl ((ps.take j).flatten.map I64) si ∧ ((ps.flatten = [] ∧ si = .nil) ∨ TokC (ps.take j).flatten.length si s.h)
  e25 : s.e 25 = .sl (pvs ps) .any
  e26 : s.e 26 = .c (.int .i64 ps.length)
  b : s.base = 0
theorem kstep64 {cf : CallF} {fu : Nat} {ps : List (List Int)} (hl : ps.length < 1099511627776) (hfl : ps.flatten.length < 1099511627776) {Q : Ex → SF → Prop}
    (hQ : ∀ s si, s.e 6 = .sl (ps.flatten.map I64) si → s.base = 0 → Q (.exit 2) s) (m : Nat) (s : SF) (I : K64 ps m s) :
    wpk cf fu x64l16 [] (fun e s' => match e with | .normal => ∃ k1, k1 < m ∧ K64 ps k1 s' | e => Q e s') s := by
  obtain ⟨⟨j, si, hj, e27, e6, htk⟩, e25, e26, hb⟩ := I
  obtain ⟨e, h, base, rb⟩ := s
  simp only at e27 e6 htk e25 e26 hb
  subst hb
  have hpl := pvs_len ps
  by_cases hm : j < ps.length
  · have hlt : (j : Int) < ps.length := by omega
    have hq : (pvs ps)[j]'(by omega) = .sl (ps[j].map I64) .any := by simp [pvs, pv]
    have hs := fl_succ hm
    have hle := fl_le ps (j + 1)
    have hz1 := hz_I64 (ps.take j).flatten
    have hz2 := hz_I64 ps[j]
    have hmap : ((ps.take (j + 1)).flatten.map I64) = (ps.take j).flatten.map I64 ++ ps[j].map I64 := by rw [hs, List.map_append]
    have hs2 : (ps.take (j + 1)).flatten.length = (ps.take j).flatten.length + ps[j].length := by rw [hs, List.length_append]
    have hml : (ps[j].map I64).length = ps[j].length := by simp
    have hmT : ((ps.take j).flatten.map I64).length = (ps.take j).flatten.length := List.length_map _
    have hnil : ps.flatten = [] → ps[j].map I64 = [] := fun he => by
      have h0 : ps.flatten.length = 0 := by rw [he]; rfl
      have : ps[j].length = 0 := by omega
      rw [List.eq_nil_of_length_eq_zero this]; rfl
    rw [← hml] at hs2
    generalize ps[j].map I64 = w at *
    generalize hU : (ps.take j).flatten.map I64 = U at *
    generalize hU2 : (ps.take (j + 1)).flatten.map I64 = U2 at *
    rw [← hmT] at hs2 htk
    have hb1 : (U.length + w.length) * 8 ≤ 140737488355328 := by omega
    have hb2 : U.length + w.length ≤ 140737488355328 := by omega
    have fin : ∀ (si' : SI) (s' : SF), s'.e 27 = .c (.int .i64 ((j + 1 : Nat) : Int)) → s'.e 6 = .sl (U ++ w) si' → ((ps.flatten = [] ∧ si' = .nil) ∨ TokC (U.length + w.length) si' s'.h) → s'.e 25 = .sl (pvs ps) .any → s'.e 26 = .c (.int .i64 ps.length) → s'.base = 0 → ∃ k1, k1 < m ∧ K64 ps k1 s' :=
      fun si' s' a1 a2 a3 a4 a5 a6 => ⟨m - 1, by omega, ⟨⟨j + 1, si', by omega, a1, by rw [hU2, hmap]; exact a2, by rw [hs2]; exact a3⟩, a4, a5, a6⟩⟩
    have hwj : IntKind.i64.wrap ((j : Int) + 1) = ((j + 1 : Nat) : Int) := by rw [wrap_in (by omega)]; omega
    cases w with
    | nil =>
      simp -implicitDefEqProofs [x64l16_w, x64r12_w, x64r13_w, x64r14_w, x64r15_w, e25, e26, e27, e6, hpl, hlt, hm, hq, hz1, hb1, hb2]
      simp at hb1 hb2
      refine ⟨⟨by omega, by omega⟩, fin si _ (by simp [upd_at, hwj]) (by simp [upd_at]) ?_ (by simp [upd_at, e25]) (by simp [upd_at, e26]) rfl⟩
      rcases htk with ⟨h1, h2⟩ | ⟨q, h1, h2⟩
      · exact .inl ⟨h1, h2⟩
      · refine .inr ⟨q, h1, ?_⟩
        simp only [List.length_nil, Nat.add_zero]
        rw [List.getElem?_append_left (List.getElem?_eq_some_iff.1 h2).1]
        exact h2
    | cons a r =>
      rcases htk with ⟨h1, h2⟩ | ⟨q, rfl, h2⟩
      · exact absurd (hnil h1) (by simp)
      · have hql := (List.getElem?_eq_some_iff.1 h2).1
        have hqa : ∀ pre : List O, (h ++ pre)[q]? = some (.tok U.length 1) := fun pre => by rw [List.getElem?_append_left hql]; exact h2
        simp only [List.length_cons] at hb1 hb2
        simp -implicitDefEqProofs [x64l16_w, x64r12_w, x64r13_w, x64r14_w, x64r15_w, e25, e26, e27, e6, hpl, hlt, hm, hq, hz1, hz2, hb1, hb2, hqa]
        refine fin (.tok q) _ (by simp [upd_at, hwj]) (by simp [upd_at]) (.inr ⟨q, rfl, ?_⟩) (by simp [upd_at, e25]) (by simp [upd_at, e26]) rfl
        simp only [List.length_cons]
        rw [List.getElem?_set_self (by simp; omega)]
  · have hlt : ¬ (j : Int) < ps.length := by omega
    rw [List.take_of_length_le (by omega)] at e6
    simp -implicitDefEqProofs [x64l16_w, x64r12_w, e26, e27, hlt]
    exact hQ _ si (by simp [upd_at, e6]) rfl
theorem go64 (ps : List (List Int)) (si : SI) {n : Nat} (hn : ps.length + 2 < n) (hl : ps.length < 1099511627776) (hfl : ps.flatten.length < 1099511627776) : Gives (n + 1) 64 [.sl (pvs ps) si] (pv ps.flatten) := by
  obtain ⟨n, rfl⟩ : ∃ n', n = n' + 1 := ⟨n - 1, by omega⟩
  have c83 : ∀ h, call X E (n + 1) 83 [.sl [] .nil, .c (.int .i64 ps.flatten.length)] h = if ps.flatten.length = 0 then some (.sl [] .nil, h) else some (.sl [] (.tok h.length), h ++ [.tok 0 1]) := call83 _ (by omega)
  have hlow : V.lows 0 (pvs ps) = true := lows_of fun v hv => by
    obtain ⟨p, _, rfl⟩ := List.mem_map.1 hv
    exact pv_low 0 p
  have hpl := pvs_len ps
  have hres : (V.sl (ps.flatten.map I64) .any).low 0 = true := pv_low 0 ps.flatten
  generalize n + 1 = m at *
  refine gives_of rfl rfl rfl (by kernel_rfl) ⟨rfl, rfl⟩ (by simp [vw2_sl, V.lows, V.low, hlow, SI.low]) ?_
  have hpv : pv ps.flatten = .sl (ps.flatten.map I64) .any := rfl
  rw [hpv]
  obtain ⟨U, hU⟩ : ∃ U, U = ps.flatten.map I64 := ⟨_, rfl⟩
  rw [← hU] at hres ⊢
  simp -implicitDefEqProofs [x64_w, x64r1_w, x64r2_w, x64r3_w, hpl]
  refine lpk_of (J64 ps) ps.length (by omega) ⟨⟨0, by simp, by simp [upd_at], by simp [upd_at]⟩, by simp [upd_at], by simp [upd_at], by simp [upd_at, arg0], rfl⟩ ?_
  refine jstep64 hl hfl fun s h3 h0 hb => ?_
  obtain ⟨e, h, base, rb⟩ := s
  simp only at h3 h0 hb
  subst hb
  by_cases hz : ps.flatten.length = 0
  · have hnil : ps.flatten = [] := List.eq_nil_of_length_eq_zero hz
    have c83' : ∀ h, call X E m 83 [.sl [] .nil, .c (.int .i64 0)] h = some (.sl [] .nil, h) := fun h => by have := c83 h; rw [if_pos hz, hz] at this; exact this
    rw [hz] at h3
    simp -implicitDefEqProofs [x64r10_w, x64r11_w, h3, h0, c83', hpl]
    refine lpk_of (K64 ps) ps.length (by omega) ⟨⟨0, .nil, by simp, by simp [upd_at], by simp [upd_at], .inl ⟨hnil, rfl⟩⟩, by simp [upd_at, h0], by simp [upd_at], rfl⟩ ?_
    refine kstep64 hl hfl fun s si h6 hb => ?_
    obtain ⟨e, h, base, rb⟩ := s
    simp only at h6 hb
    subst hb
    rw [← hU] at h6
    simp -implicitDefEqProofs [x64_r, x64r17_w, h6]
    exact hres
  · have c83' : ∀ h, call X E m 83 [.sl [] .nil, .c (.int .i64 ps.flatten.length)] h = some (.sl [] (.tok h.length), h ++ [.tok 0 1]) := fun h => by rw [c83, if_neg hz]
    generalize hL : ps.flatten.length = L at *
    simp -implicitDefEqProofs [x64r10_w, x64r11_w, h3, h0, c83', hpl]
    refine lpk_of (K64 ps) ps.length (by omega) ⟨⟨0, .tok h.length, by simp, by simp [upd_at], by simp [upd_at], .inr ⟨h.length, rfl, by simp⟩⟩, by simp [upd_at, h0], by simp [upd_at], rfl⟩ ?_
    subst hL
    refine kstep64 hl hfl fun s si h6 hb => ?_
    obtain ⟨e, h, base, rb⟩ := s
    simp only at h6 hb
    subst hb
    rw [← hU] at h6
    simp -implicitDefEqProofs [x64_r, x64r17_w, h6]
    exact hres
end Go.Proofs.YtkiliokeanmagaaDoor.Ab

namespace Go.Proofs.YtkiliokeanmagaaDoor.Ab
open Go
set_option linter.unusedVariables false
set_option linter.unusedSimpArgs false
set_option maxRecDepth 8000
set_option maxHeartbeats 2000000
def wres : Option (List Int) → V
  | none => .tup [.sl [] .any, .c (.bool false)]
  | some p => .tup [pv p, .c (.bool true)]
def wcap : List V := keepE 25 [2, 3] fun i => if i = 2 then .ref 1 0 else .ref 2 0
def wH (d : D) (a b : V) (s : Nat) : List O := [.cells d.v.cells, .cells [a], .cells [b], .cells d.v.cells, .loop s]
theorem round36 {n : Nat} {d x : D} {p : List Int} {r : Option (List Int)} (h36 : ∀ h, call X E n 36 [x.v] h = some (wres r, h)) (hcat : ∀ q, r = some q → ∀ h, call X E n 64 [.sl (pvs [p, q]) .full] h = some (pv (p ++ q), h)) (rest : List O) (hrest : rest.all (O.low (5 + rest.length)) = true) :
    call X E (n + 1) 1003600 (.c (.int .i64 4) :: pf p :: x.v :: wcap) (wH d (.sl [] .nil) (.c (.bool false)) 0 ++ rest) = match r with
      | none => some (.c (.bool true), wH d (.sl [] .nil) (.c (.bool false)) 0 ++ rest)
      | some q => some (.c (.bool false), wH d (pv (p ++ q)) (.c (.bool true)) 3 ++ rest) := by
  have hE : E 1003600 = none := rfl
  have hX : X 1003600 = some x1003600 := rfl
  have hA : x1003600.asg = some ([13, 14], XC.seq x1003600r4 x1003600r5) := rfl
  simp only [call, hE, hX, hA]
  rw [if_pos (by simp [wH])]
  have t13 : toE ((wcap.set 13 (pf p)).set 14 x.v) 13 = pf p := rfl
  have t14 : toE ((wcap.set 13 (pf p)).set 14 x.v) 14 = x.v := rfl
  have t2 : toE ((wcap.set 13 (pf p)).set 14 x.v) 2 = .ref 1 0 := rfl
  have t3 : toE ((wcap.set 13 (pf p)).set 14 x.v) 3 = .ref 2 0 := rfl
  have hr : ∀ x ∈ rest, O.low (rest.length + 1 + 1 + 1 + 1 + 1) x = true := fun x hx => by
    have := List.all_eq_true.1 hrest x hx
    rwa [show 5 + rest.length = rest.length + 1 + 1 + 1 + 1 + 1 by omega] at this
  cases r with
  | none =>
    refine round_at (tm := ((wcap.set 13 (pf p)).set 14 x.v)) rfl (by kernel_rfl) (by kernel_rfl) ?_
    generalize toE ((wcap.set 13 (pf p)).set 14 x.v) = e0 at *
    refine wpk_of ?_
    simp only [wres] at h36
    simp -implicitDefEqProofs [x1003600_w, x1003600r1_w, x1003600r2_w, x1003600r4_w, x1003600r5_w, wH, t13, t14, t2, t3, D.okc, D.spl, D.cells_len]
    refine wpk_of ?_
    simp -implicitDefEqProofs [x1003600_w, x1003600r1_w, x1003600r2_w, t13, t14, t2, t3, D.rd, h36, Ex.num]
    exact ⟨by rw [olow_cells]; exact D.low_cells _ d, by simp [olow_cells, V.lows, V.low, SI.low], by simp [olow_cells, V.lows, V.low], by rw [olow_cells]; exact D.low_cells _ d, rfl, hr⟩
  | some q =>
    refine round_at (tm := ((wcap.set 13 (pf p)).set 14 x.v)) rfl (by kernel_rfl) (by kernel_rfl) ?_
    generalize toE ((wcap.set 13 (pf p)).set 14 x.v) = e0 at *
    refine wpk_of ?_
    have hc := hcat q rfl
    have hpq : pvs [p, q] = [.sl (p.map I64) .any, .sl (q.map I64) .any] := rfl
    rw [hpq] at hc
    have hpv : pv (p ++ q) = .sl ((p ++ q).map I64) .any := rfl
    rw [hpv] at hc ⊢
    have hlw : V.lows (rest.length + 1 + 1 + 1 + 1 + 1) ((p ++ q).map I64) = true := lows_I64 _ _
    simp only [wres, pv] at h36
    simp only [pf] at t13 ⊢
    generalize (p ++ q).map I64 = PQ at *
    generalize p.map I64 = PP at *
    generalize q.map I64 = QQ at *
    simp -implicitDefEqProofs [x1003600_w, x1003600r1_w, x1003600r2_w, x1003600r4_w, x1003600r5_w, wH, t13, t14, t2, t3, D.okc, D.spl, D.cells_len]
    refine wpk_of ?_
    simp -implicitDefEqProofs [x1003600_w, x1003600r1_w, x1003600r2_w, x1003600r3_w, t13, t14, t2, t3, D.rd, h36, hc, Ex.num]
    exact ⟨by rw [olow_cells]; exact D.low_cells _ d, by rw [olow_cells]; simp [V.lows, V.low, hlw, SI.low], by simp [olow_cells, V.lows, V.low], by rw [olow_cells]; exact D.low_cells _ d, rfl, hr⟩
def firstW (f : D → Option (List Int)) : List (List Int × D) → Option (List Int)
  | [] => none
  | (p, x) :: r => match f x with
    | some q => some (p ++ q)
    | none => firstW f r
def wrongN : Nat → D → Option (List Int)
  | 0, _ => none
  | n + 1, d => if d.form = 0 then some [] else firstW (wrongN n) d.parts
def wY (f : D → Option (List Int)) (d : D) : List Int → D → List O → Option (Bool × List O) := fun p x H => match f x with
  | none => some (true, wH d (.sl [] .nil) (.c (.bool false)) 0)
  | some q => some (false, wH d (pv (p ++ q)) (.c (.bool true)) 3)
theorem walk_w (f : D → Option (List Int)) (d : D) : ∀ L : List (List Int × D), walkY (wY f d) L (wH d (.sl [] .nil) (.c (.bool false)) 0) = match firstW f L with
    | none => some (true, wH d (.sl [] .nil) (.c (.bool false)) 0)
    | some q => some (false, wH d (pv q) (.c (.bool true)) 3)
  | [] => rfl
  | (p, x) :: r => by
    simp only [walkY, firstW, wY]
    cases h : f x with
    | none => simp only []; exact walk_w f d r
    | some q => rfl
end Go.Proofs.YtkiliokeanmagaaDoor.Ab

namespace Go.Proofs.YtkiliokeanmagaaDoor.Ab
open Go
set_option linter.unusedVariables false
set_option linter.unusedSimpArgs false
set_option maxRecDepth 8000
set_option maxHeartbeats 2000000
theorem wY_at {n : Nat} {d : D} {f : D → Option (List Int)} (h36 : ∀ p x, (p, x) ∈ d.parts → ∀ h, call X E n 36 [x.v] h = some (wres (f x), h)) (hcat : ∀ p x q, (p, x) ∈ d.parts → f x = some q → ∀ h, call X E n 64 [.sl (pvs [p, q]) .full] h = some (pv (p ++ q), h)) :
    YAt (call X E (n + 1)) 4 1003600 wcap 5 (fun H => H = wH d (.sl [] .nil) (.c (.bool false)) 0) (wY f d) d.parts := by
  intro p x hin H H' b hH hP hq
  subst hP
  have h36' := h36 p x hin
  have hG : ∀ G : List O, G.take 5 = wH d (.sl [] .nil) (.c (.bool false)) 0 → G = wH d (.sl [] .nil) (.c (.bool false)) 0 ++ G.drop 5 := fun G h => by rw [← h, List.take_append_drop]
  have hlen : ∀ a b s, (wH d a b s).length = 5 := fun a b s => rfl
  have hlw : ∀ (G : List O) (a b : V) (s : Nat), G.take 5 = wH d (.sl [] .nil) (.c (.bool false)) 0 → lowH G → a.low 0 = true → b.low 0 = true → lowH (wH d a b s ++ G.drop 5) ∧ (G.drop 5).all (O.low (5 + (G.drop 5).length)) = true := by
    intro G a b s hg hl ha hb
    have hGl : G.length = 5 + (G.drop 5).length := by
      have := congrArg List.length (hG G hg)
      rw [List.length_append, hlen] at this
      exact this
    unfold lowH at hl
    rw [hG G hg, List.all_append, Bool.and_eq_true] at hl
    rw [← hG G hg] at hl
    have h2 := hl.2
    rw [hGl] at h2
    refine ⟨?_, by simpa using h2⟩
    unfold lowH
    rw [List.all_append, Bool.and_eq_true, List.length_append, hlen]
    refine ⟨?_, by simpa using h2⟩
    have la := low_mono (Nat.zero_le (5 + (G.drop 5).length)) a ha
    have lb := low_mono (Nat.zero_le (5 + (G.drop 5).length)) b hb
    simp only [wH, List.all_cons, olow_cells, D.low_cells, V.lows, la, lb, List.all_nil, Bool.and_true, Bool.true_and]
    rfl
  unfold wY at hq
  cases hf : f x with
  | none =>
    rw [hf] at hq h36'
    simp only [Option.some.injEq, Prod.mk.injEq] at hq
    obtain ⟨rfl, rfl⟩ := hq
    refine ⟨rfl, fun _ => rfl, fun G hg hl => ?_⟩
    obtain ⟨h1, h2⟩ := hlw G (.sl [] .nil) (.c (.bool false)) 0 hg hl rfl rfl
    have := round36 (d := d) (p := p) (r := none) h36' (fun q hq => by cases hq) (G.drop 5) h2
    simp only at this
    rw [← hG G hg] at this
    exact ⟨by rw [this, ← hG G hg], h1⟩
  | some q =>
    rw [hf] at hq h36'
    simp only [Option.some.injEq, Prod.mk.injEq] at hq
    obtain ⟨rfl, rfl⟩ := hq
    refine ⟨rfl, fun h => (by cases h), fun G hg hl => ?_⟩
    obtain ⟨h1, h2⟩ := hlw G (pv (p ++ q)) (.c (.bool true)) 3 hg hl (pv_low 0 _) rfl
    have := round36 (d := d) (p := p) (r := some q) h36' (fun q' hq' h => by simp only [Option.some.injEq] at hq'; subst hq'; exact hcat p x q hin hf h) (G.drop 5) h2
    simp only at this
    rw [← hG G hg] at this
    exact ⟨this, h1⟩
theorem sub1_mem {frm : Nat} : ∀ (L : List D) (i : Nat) (p : List Int) (x : D), (p, x) ∈ sub1 frm L i → x ∈ L ∧ p.length ≤ 3
  | [], _, _, _, h => by simp [sub1] at h
  | a :: L, i, p, x, h => by
    simp only [sub1, List.mem_cons, Prod.mk.injEq] at h
    rcases h with ⟨rfl, rfl⟩ | h
    · exact ⟨by simp, by simp⟩
    · have := sub1_mem L (i + 1) p x h
      exact ⟨by simp [this.1], this.2⟩
theorem recs_mem2 : ∀ (L : List D) (i : Nat) (p : List Int) (x : D), (p, x) ∈ recs L i → (∃ y ∈ L, x = y.kid 2) ∧ p.length ≤ 3
  | [], _, _, _, h => by simp [recs] at h
  | a :: L, i, p, x, h => by
    simp only [recs, List.mem_cons, Prod.mk.injEq] at h
    rcases h with ⟨rfl, rfl⟩ | h
    · exact ⟨⟨a, by simp, rfl⟩, by simp⟩
    · have := recs_mem2 L (i + 1) p x h
      obtain ⟨y, h1, h2⟩ := this.1
      exact ⟨⟨y, by simp [h1], h2⟩, this.2⟩
theorem kid_le (d : D) (j : Nat) : (d.kid j).sz ≤ d.sz := by
  unfold D.kid
  rw [List.getD_eq_getElem?_getD]
  cases h : d.kids[j]? with
  | none =>
    have := D.sz_pos d
    simp only [Option.getD_none, D.z0, D.sz, D.szs]
    omega
  | some x =>
    have := kid_lt (List.mem_of_getElem? h)
    simp only [Option.getD_some]
    omega
theorem parts_mem {d : D} {p : List Int} {x : D} (h : (p, x) ∈ d.parts) : x.sz < d.sz ∧ p.length ≤ 3 := by
  have hs : ∀ frm k, (p, x) ∈ sub1 frm (d.kids.drop k) 0 → x.sz < d.sz ∧ p.length ≤ 3 := fun frm k h => by
    obtain ⟨h1, h2⟩ := sub1_mem _ _ _ _ h
    exact ⟨kid_lt (List.mem_of_mem_drop h1), h2⟩
  unfold D.parts at h
  split at h
  · exact hs _ _ h
  · split at h
    · exact hs _ _ h
    · split at h
      · rcases List.mem_append.1 h with h | h
        · obtain ⟨⟨y, h1, rfl⟩, h2⟩ := recs_mem2 _ _ _ _ h
          have a1 := kid_lt h1
          have a2 := kid_le d 1
          have a3 := kid_le y 2
          exact ⟨by omega, h2⟩
        · exact hs _ _ h
      · split at h
        · exact hs 0 0 (by simpa using h)
        · simp at h
theorem firstW_some {f : D → Option (List Int)} : ∀ {L : List (List Int × D)} {q : List Int}, firstW f L = some q → ∃ p x r, (p, x) ∈ L ∧ f x = some r ∧ q = p ++ r
  | [], _, h => by simp [firstW] at h
  | (p, x) :: L, q, h => by
    simp only [firstW] at h
    cases hf : f x with
    | none =>
      rw [hf] at h
      obtain ⟨p', x', r, h1, h2, h3⟩ := firstW_some h
      exact ⟨p', x', r, by simp [h1], h2, h3⟩
    | some r =>
      rw [hf] at h
      simp only [Option.some.injEq] at h
      exact ⟨p, x, r, by simp, hf, h.symm⟩
theorem wrong_len : ∀ (m : Nat) (d : D) (q : List Int), wrongN m d = some q → q.length ≤ 3 * d.sz
  | 0, _, _, h => by simp [wrongN] at h
  | m + 1, d, q, h => by
    simp only [wrongN] at h
    split at h
    · simp only [Option.some.injEq] at h
      subst h
      simp
    · obtain ⟨p, x, r, h1, h2, rfl⟩ := firstW_some h
      have a1 := parts_mem h1
      have a2 := wrong_len m x r h2
      simp only [List.length_append]
      omega
end Go.Proofs.YtkiliokeanmagaaDoor.Ab

namespace Go.Proofs.YtkiliokeanmagaaDoor.Ab
open Go
set_option linter.unusedVariables false
set_option linter.unusedSimpArgs false
set_option maxRecDepth 8000
set_option maxHeartbeats 2000000
theorem go36 : ∀ (f : Nat) (d : D), d.sz ≤ f → d.sz < 100000000000 → ∀ n, 4 * d.sz + 40 ≤ n → Gives n 36 [d.v] (wres (wrongN f d))
  | 0, d, h, _, _, _ => by have := D.sz_pos d; omega
  | f + 1, d, hf, hl, n, hn => by
    obtain ⟨n, rfl⟩ : ∃ n', n = n' + 3 := ⟨n - 3, by omega⟩
    have c54 : ∀ h, call X E (n + 2) 54 [d.v] h = some (.c (.int .i64 d.form), h) := go54 d (by omega) (by omega)
    have c45 : ∀ h, call X E (n + 2) 45 [d.v] h = some (.clo 72 [.ref h.length 0], h ++ [.cells d.v.cells]) := go45 d
    have IH : ∀ p x, (p, x) ∈ d.parts → ∀ h, call X E n 36 [x.v] h = some (wres (wrongN f x), h) := fun p x hin => go36 f x (by have := parts_mem hin; omega) (by have := parts_mem hin; omega) n (by have := parts_mem hin; omega)
    have hcat : ∀ p x q, (p, x) ∈ d.parts → wrongN f x = some q → ∀ h, call X E n 64 [.sl (pvs [p, q]) .full] h = some (pv (p ++ q), h) := fun p x q hin hq => by
      obtain ⟨n, rfl⟩ : ∃ n', n = n' + 1 := ⟨n - 1, by omega⟩
      have a1 := parts_mem hin
      have a2 := wrong_len f x q hq
      have := go64 [p, q] .full (n := n) (by simp; omega) (by simp) (by simp; omega)
      rw [show [p, q].flatten = p ++ q by simp] at this
      exact this
    have hY := wY_at IH hcat
    have hwalk := walk_w (wrongN f) d d.parts
    by_cases h0 : d.form = 0
    · have hw : wres (wrongN (f + 1) d) = wres (some []) := by simp only [wrongN, h0, if_true]
      rw [hw]
      rw [h0] at c54
      show Gives ((n + 2) + 1) 36 [d.v] _
      generalize n + 2 = m at *
      refine gives_of rfl rfl rfl (by kernel_rfl) ⟨rfl, rfl⟩ (by simp [D.vw2, V.lows, D.low]) ?_
      simp -implicitDefEqProofs [x36_w, x36_r, x36r1_w, x36r2_w, x36r3_w, D.vw2, D.okc, D.rd, D.cells_len, c54, wres, pv]
      try simp [V.low, V.lows, SI.low]
    · have hw : wres (wrongN (f + 1) d) = wres (firstW (wrongN f) d.parts) := by simp only [wrongN, h0, if_false]
      rw [hw]
      have hb : (d.form == 0) = false := by simp [h0]
      have c72 : ∀ W : Bool × List O, walkY (wY (wrongN f) d) d.parts (wH d (.sl [] .nil) (.c (.bool false)) 0) = some W → W.2.all (O.low 5) = true → call X E (n + 2) 72 [.yld 4 1003600 2 wcap, .ref 3 0] (wH d (.sl [] .nil) (.c (.bool false)) 0) = some (.tup [], W.2) := fun W h1 h2 => by
        refine go72 d (n := n + 1) (by omega) (by omega) (k := 4) (by omega) (by decide) (P := fun H => H = wH d (.sl [] .nil) (.c (.bool false)) 0) ?_ rfl hY h1 h2 ?_
        · intro G hG hP
          have : G[3]? = (G.take 5)[3]? := by rw [List.getElem?_take]; simp
          rw [this, show (5 : Nat) = (wH d (.sl [] .nil) (.c (.bool false)) 0).length from rfl, hP]
          rfl
        · unfold lowH
          simp only [wH, List.all_cons, olow_cells, D.low_cells, V.lows, List.all_nil, Bool.and_true, Bool.true_and]
          rfl
      show Gives ((n + 2) + 1) 36 [d.v] _
      generalize n + 2 = m at *
      refine gives_of rfl rfl rfl (by kernel_rfl) ⟨rfl, rfl⟩ (by simp [D.vw2, V.lows, D.low]) ?_
      simp -implicitDefEqProofs [x36_w, x36_r, x36r1_w, x36r2_w, x36r3_w, x36r4_w, D.vw2, D.okc, D.rd, D.cells_len, c54, hb, c45]
      cases hfw : firstW (wrongN f) d.parts with
      | none =>
        rw [hfw] at hwalk
        have h72 := c72 _ hwalk (by simp only [wH, List.all_cons, olow_cells, D.low_cells, V.lows, List.all_nil, Bool.and_true, Bool.true_and]; rfl)
        refine wpk_range _ _ _ _ _ (g := 72) (lb := [.ref 3 0]) rfl (by decide) (by decide) (h' := wH d (.sl [] .nil) (.c (.bool false)) 0) (e := .normal) (r := .tup []) h72 rfl ?_
        simp -implicitDefEqProofs [x36r5_w, x36_r, wH, wres]
        try simp [V.low, V.lows, SI.low]
      | some q =>
        rw [hfw] at hwalk
        have h72 := c72 _ hwalk (by have := pv_low 5 q; simp only [wH, List.all_cons, olow_cells, D.low_cells, V.lows, this, List.all_nil, Bool.and_true, Bool.true_and]; rfl)
        have hql := pv_low 0 q
        refine wpk_range _ _ _ _ _ (g := 72) (lb := [.ref 3 0]) rfl (by decide) (by decide) (h' := wH d (pv q) (.c (.bool true)) 3) (e := .ret) (r := .tup []) h72 rfl ?_
        simp -implicitDefEqProofs [x36_r, wH, wres, pv]
        simp [V.low, V.lows, lows_I64, SI.low]
end Go.Proofs.YtkiliokeanmagaaDoor.Ab

namespace Go.Proofs.YtkiliokeanmagaaDoor.Ab
open Go
set_option linter.unusedVariables false
set_option linter.unusedSimpArgs false
set_option maxRecDepth 8000
set_option maxHeartbeats 2000000
def D.chk (d : D) : V := if d.ck ≠ 0 then .tup [.sl [] .any, .c (.int .i64 d.ck)] else match wrongN d.sz d with
  | some p => .tup [pv p, .c (.int .i64 4)]
  | none => .tup [.sl [] .any, .c (.int .i64 0)]
theorem go10 (d : D) (hl : d.sz < 100000000000) {n : Nat} (hn : 4 * d.sz + 200 ≤ n) : Gives (n + 1) 10 [d.v] d.chk := by
  have c35 : ∀ h, call X E n 35 [d.v] h = some (.c (.int .i64 d.ck), h) := run15 d (by omega) n (by omega)
  have c36 : ∀ h, call X E n 36 [d.v] h = some (wres (wrongN d.sz d), h) := go36 d.sz d (Nat.le_refl _) hl n (by omega)
  refine gives_of rfl rfl rfl (by kernel_rfl) ⟨rfl, rfl⟩ (by simp [D.vw2, V.lows, D.low]) ?_
  by_cases hc : d.ck = 0
  · have hb : (d.ck != 0) = false := by simp [hc]
    cases hw : wrongN d.sz d with
    | none =>
      have hr : d.chk = .tup [.sl [] .any, .c (.int .i64 0)] := by simp [D.chk, hc, hw]
      rw [hw] at c36
      simp only [wres] at c36
      rw [hr]
      simp -implicitDefEqProofs [x10_w, x10_r, x10r1_w, x10r2_w, x10r3_w, x10r5_w, x10r6_w, x10r8_w, D.vw2, D.okc, D.rd, D.cells_len, c35, c36, hb]
      try simp [V.low, V.lows, SI.low]
    | some p =>
      have hr : d.chk = .tup [pv p, .c (.int .i64 4)] := by simp [D.chk, hc, hw]
      rw [hw] at c36
      simp only [wres, pv] at c36
      rw [hr, pv]
      simp -implicitDefEqProofs [x10_w, x10_r, x10r1_w, x10r2_w, x10r3_w, x10r5_w, x10r6_w, x10r7_w, D.vw2, D.okc, D.rd, D.cells_len, c35, c36, hb]
      try simp [V.low, V.lows, lows_I64, SI.low]
  · have hb : (d.ck != 0) = true := by simp [hc]
    have hr : d.chk = .tup [.sl [] .any, .c (.int .i64 d.ck)] := by simp [D.chk, hc]
    rw [hr]
    simp -implicitDefEqProofs [x10_w, x10_r, x10r1_w, x10r2_w, x10r3_w, x10r4_w, D.vw2, D.okc, D.rd, D.cells_len, c35, hb]
    try simp [V.low, V.lows, SI.low]
end Go.Proofs.YtkiliokeanmagaaDoor.Ab

namespace Go.Proofs.YtkiliokeanmagaaDoor.Ab
open Go
set_option linter.defProp false
section
variable (cf : CallF) (n : Nat) (s : SF) (K : List Fr) (Q : Ex → SF → Prop)
def x11r1_w := rK cf n s K Q x11r1 rfl
def x11r2_w := rK cf n s K Q x11r2 rfl
def x11r3_w := rK cf n s K Q x11r3 rfl
def x11r4_w := rK cf n s K Q x11r4 rfl
def x11r5_w := rK cf n s K Q x11r5 rfl
def x11r6_w := rK cf n s K Q x11r6 rfl
def x11r7_w := rK cf n s K Q x11r7 rfl
def x11r8_w := rK cf n s K Q x11r8 rfl
def x11_w := bK cf n s K Q x11 rfl
def x11_r := bR x11 rfl
def x27r1_w := rK cf n s K Q x27r1 rfl
def x27r2_w := rK cf n s K Q x27r2 rfl
def x27r3_w := rK cf n s K Q x27r3 rfl
def x27r4_w := rK cf n s K Q x27r4 rfl
def x27r5_w := rK cf n s K Q x27r5 rfl
def x27r6_w := rK cf n s K Q x27r6 rfl
def x27r7_w := rK cf n s K Q x27r7 rfl
def x27l8_w := lK cf n s K Q x27l8 rfl
def x27r9_w := rK cf n s K Q x27r9 rfl
def x27_w := bK cf n s K Q x27 rfl
def x27_r := bR x27 rfl
def x32r1_w := rK cf n s K Q x32r1 rfl
def x32r2_w := rK cf n s K Q x32r2 rfl
def x32r3_w := rK cf n s K Q x32r3 rfl
def x32r4_w := rK cf n s K Q x32r4 rfl
def x32r5_w := rK cf n s K Q x32r5 rfl
def x32r6_w := rK cf n s K Q x32r6 rfl
def x32r7_w := rK cf n s K Q x32r7 rfl
def x32r8_w := rK cf n s K Q x32r8 rfl
def x32r9_w := rK cf n s K Q x32r9 rfl
def x32r10_w := rK cf n s K Q x32r10 rfl
def x32r11_w := rK cf n s K Q x32r11 rfl
def x32r12_w := rK cf n s K Q x32r12 rfl
def x32r13_w := rK cf n s K Q x32r13 rfl
def x32r14_w := rK cf n s K Q x32r14 rfl
def x32r15_w := rK cf n s K Q x32r15 rfl
def x32r16_w := rK cf n s K Q x32r16 rfl
def x32r17_w := rK cf n s K Q x32r17 rfl
def x32l18_w := lK cf n s K Q x32l18 rfl
def x32r19_w := rK cf n s K Q x32r19 rfl
def x32r20_w := rK cf n s K Q x32r20 rfl
def x32r21_w := rK cf n s K Q x32r21 rfl
def x32r22_w := rK cf n s K Q x32r22 rfl
def x32r23_w := rK cf n s K Q x32r23 rfl
def x32r24_w := rK cf n s K Q x32r24 rfl
def x32l25_w := lK cf n s K Q x32l25 rfl
def x32r26_w := rK cf n s K Q x32r26 rfl
def x32_w := bK cf n s K Q x32 rfl
def x32_r := bR x32 rfl
def x37r1_w := rK cf n s K Q x37r1 rfl
def x37r2_w := rK cf n s K Q x37r2 rfl
def x37r3_w := rK cf n s K Q x37r3 rfl
def x37r4_w := rK cf n s K Q x37r4 rfl
def x37r5_w := rK cf n s K Q x37r5 rfl
def x37r6_w := rK cf n s K Q x37r6 rfl
def x37r7_w := rK cf n s K Q x37r7 rfl
def x37r8_w := rK cf n s K Q x37r8 rfl
def x37r9_w := rK cf n s K Q x37r9 rfl
def x37r10_w := rK cf n s K Q x37r10 rfl
def x37l11_w := lK cf n s K Q x37l11 rfl
def x37r12_w := rK cf n s K Q x37r12 rfl
def x37_w := bK cf n s K Q x37 rfl
def x37_r := bR x37 rfl
def x55r1_w := rK cf n s K Q x55r1 rfl
def x55r2_w := rK cf n s K Q x55r2 rfl
def x55r3_w := rK cf n s K Q x55r3 rfl
def x55r4_w := rK cf n s K Q x55r4 rfl
def x55r5_w := rK cf n s K Q x55r5 rfl
def x55r6_w := rK cf n s K Q x55r6 rfl
def x55r7_w := rK cf n s K Q x55r7 rfl
def x55r8_w := rK cf n s K Q x55r8 rfl
def x55l9_w := lK cf n s K Q x55l9 rfl
def x55r10_w := rK cf n s K Q x55r10 rfl
def x55_w := bK cf n s K Q x55 rfl
def x55_r := bR x55 rfl
def x65r1_w := rK cf n s K Q x65r1 rfl
def x65r2_w := rK cf n s K Q x65r2 rfl
def x65_w := bK cf n s K Q x65 rfl
def x65_r := bR x65 rfl
end
end Go.Proofs.YtkiliokeanmagaaDoor.Ab

namespace Go.Proofs.YtkiliokeanmagaaDoor.Ab
open Go
set_option linter.unusedVariables false
set_option linter.unusedSimpArgs false
set_option maxRecDepth 8000
set_option maxHeartbeats 2000000
theorem go65 (p q : List Int) {n : Nat} (hp : p.length < 1000000000000) (hq : q.length < 1000000000000) : Gives (n + 1) 65 [pv p, pv q] (pv (p ++ q)) := by
  refine gives_of rfl rfl rfl (by kernel_rfl) ⟨rfl, rfl⟩ (by simp [pv, vw2_sl, V.lows, V.low, lows_I64, SI.low]) ?_
  have hres := pv_low 0 (p ++ q)
  have hz1 := hz_I64 p
  have hz2 := hz_I64 q
  have hlp : (p.map I64).length = p.length := List.length_map _
  have hlq : (q.map I64).length = q.length := List.length_map _
  rw [← hlp] at hp
  rw [← hlq] at hq
  simp only [pv, List.map_append] at hres ⊢
  generalize p.map I64 = P at *
  generalize q.map I64 = R at *
  cases P with
  | nil =>
    cases R with
    | nil => 
      simp -implicitDefEqProofs [x65_w, x65_r, x65r1_w, x65r2_w]
      try exact hres
    | cons b r =>
      simp only [List.length_cons] at hq
      have h1 : (r.length + 1) * 8 ≤ 140737488355328 := by omega
      have h2 : r.length + 1 ≤ 140737488355328 := by omega
      simp -implicitDefEqProofs [x65_w, x65_r, x65r1_w, x65r2_w, hz2, h1, h2]
      try exact hres
  | cons a s =>
    simp only [List.length_cons] at hp
    have h1 : (s.length + 1) * 8 ≤ 140737488355328 := by omega
    have h2 : s.length + 1 ≤ 140737488355328 := by omega
    cases R with
    | nil =>
      simp -implicitDefEqProofs [x65_w, x65_r, x65r1_w, x65r2_w, hz1, h1, h2]
      try simpa using hres
    | cons b r =>
      simp only [List.length_cons] at hq
      have h3 : (s.length + 1 + (r.length + 1)) * 8 ≤ 140737488355328 := by omega
      have h4 : s.length + 1 + (r.length + 1) ≤ 140737488355328 := by omega
      simp -implicitDefEqProofs [x65_w, x65_r, x65r1_w, x65r2_w, hz1, hz2, h1, h2, h3, h4]
      try exact hres
end Go.Proofs.YtkiliokeanmagaaDoor.Ab

namespace Go.Proofs.YtkiliokeanmagaaDoor.Ab
open Go
set_option linter.defProp false
section
variable (cf : CallF) (n : Nat) (s : SF) (K : List Fr) (Q : Ex → SF → Prop)
def x38r1_w := rK cf n s K Q x38r1 rfl
def x38r2_w := rK cf n s K Q x38r2 rfl
def x38r3_w := rK cf n s K Q x38r3 rfl
def x38r4_w := rK cf n s K Q x38r4 rfl
def x38r5_w := rK cf n s K Q x38r5 rfl
def x38r6_w := rK cf n s K Q x38r6 rfl
def x38r7_w := rK cf n s K Q x38r7 rfl
def x38r8_w := rK cf n s K Q x38r8 rfl
def x38l9_w := lK cf n s K Q x38l9 rfl
def x38r10_w := rK cf n s K Q x38r10 rfl
def x38_w := bK cf n s K Q x38 rfl
def x38_r := bR x38 rfl
def x44r1_w := rK cf n s K Q x44r1 rfl
def x44r2_w := rK cf n s K Q x44r2 rfl
def x44r3_w := rK cf n s K Q x44r3 rfl
def x44_w := bK cf n s K Q x44 rfl
def x44_r := bR x44 rfl
end
end Go.Proofs.YtkiliokeanmagaaDoor.Ab

namespace Go.Proofs.YtkiliokeanmagaaDoor.Ab
open Go
set_option linter.unusedVariables false
set_option linter.unusedSimpArgs false
set_option maxRecDepth 8000
set_option maxHeartbeats 1000000
theorem pv_vw2 (p : List Int) : (pv p).vw2 = pv p := rfl
def begs : List Int → List Int → Bool
  | _, [] => true
  | [], _ :: _ => false
  | a :: p, b :: q => a == b && begs p q
theorem begs_len : ∀ p q : List Int, begs p q = true → q.length ≤ p.length
  | _, [], _ => Nat.zero_le _
  | [], _ :: _, h => by simp [begs] at h
  | a :: p, b :: q, h => by
    simp only [begs, Bool.and_eq_true] at h
    have := begs_len p q h.2
    simp only [List.length_cons]
    omega
structure I40 (p q : List Int) (m : Nat) (s : SF) : Prop where
  j : ∃ j : Nat, j + m = q.length ∧ s.e 5 = .c (.int .i64 j) ∧ begs p q = begs (p.drop j) (q.drop j)
  e0 : s.e 0 = pv p
  e1 : s.e 1 = pv q
  b : s.base = 0
theorem step40 {cf : CallF} {fu : Nat} {p q : List Int} (hpq : q.length ≤ p.length) (hl : p.length < 4611686018427387904) {Q : Ex → SF → Prop}
    (hQ : ∀ s, begs p q = true → s.base = 0 → Q (.exit 0) s)
    (hR : ∀ s, begs p q = false → s.e 4 = .c (.bool false) → s.base = 0 → Q .ret s) (m : Nat) (s : SF) (I : I40 p q m s) :
    wpk cf fu x38l9 [] (fun e s' => match e with | .normal => ∃ k1, k1 < m ∧ I40 p q k1 s' | e => Q e s') s := by
  obtain ⟨⟨j, hj, e5, hf⟩, e0, e1, hb⟩ := I
  obtain ⟨e, h, base, rb⟩ := s
  simp only at e5 e0 e1 hb
  subst hb
  by_cases hm : j < q.length
  · have hm' : j < p.length := by omega
    have hlt : (j : Int) < q.length := by omega
    have hlt' : (j : Int) < p.length := by omega
    have hd : p.drop j = p[j] :: p.drop (j + 1) := List.drop_eq_getElem_cons hm'
    have hd' : q.drop j = q[j] :: q.drop (j + 1) := List.drop_eq_getElem_cons hm
    rw [hd, hd', begs] at hf
    cases hz : (p[j] != q[j]) with
    | false =>
      have hz' : (p[j] == q[j]) = true := by simpa using hz
      simp -implicitDefEqProofs [x38l9_w, x38r5_w, x38r6_w, x38r7_w, x38r8_w, e0, e1, e5, pv, hlt, hlt', hm, hm', hz, I64]
      refine ⟨m - 1, by omega, ⟨⟨j + 1, by omega, ?_, ?_⟩, ?_, ?_, rfl⟩⟩
      · simp only [upd_at, e5]
        simp
        rw [wrap_in (by omega)]
      · rw [hf, hz']; rfl
      · simp [upd_at, e0]
      · simp [upd_at, e1]
    | true =>
      have hz' : (p[j] == q[j]) = false := by simpa using hz
      simp -implicitDefEqProofs [x38l9_w, x38r5_w, x38r6_w, x38r7_w, x38r8_w, e0, e1, e5, pv, hlt, hlt', hm, hm', hz, I64]
      refine hR _ (by rw [hf, hz']; rfl) ?_ rfl
      simp [upd_at]
  · have hlt : ¬ (j : Int) < q.length := by omega
    simp -implicitDefEqProofs [x38l9_w, x38r5_w, e0, e1, e5, pv, hlt]
    refine hQ _ ?_ rfl
    rw [hf, List.drop_of_length_le (by omega : q.length ≤ j)]
    cases p.drop j <;> rfl
theorem run40 {n : Nat} {p q : List Int} (hn : q.length < n) (hl : p.length < 4611686018427387904) : Gives (n + 1) 38 [pv p, pv q] (.c (.bool (begs p q))) := by
  refine gives_of rfl rfl rfl (by kernel_rfl) ⟨rfl, rfl⟩ (by simp [pv_vw2, V.lows, pv_low]) ?_
  by_cases hpq : q.length ≤ p.length
  · have hlt : ¬ (p.length : Int) < q.length := by omega
    simp -implicitDefEqProofs [x38_w, x38_r, x38r1_w, x38r2_w, x38r3_w, x38r4_w, pv, hlt, V.vw2, V.vw1]
    refine lpk_of (I40 p q) q.length (by omega) ⟨⟨0, by simp, ?_, by simp⟩, ?_, ?_, rfl⟩ ?_
    · simp [upd_at]
    · simp [upd_at, arg0, pv]
    · simp [upd_at, arg0, pv]
    · refine step40 hpq hl (fun s h1 hb => ?_) fun s h1 h4 hb => ?_
      · obtain ⟨e, h, base, rb⟩ := s
        simp only at hb
        subst hb
        simp -implicitDefEqProofs [x38_r, x38r10_w, h1]
      · obtain ⟨e, h, base, rb⟩ := s
        simp only at hb h4
        subst hb
        simp -implicitDefEqProofs [x38_r, h1, h4]
  · have hlt : (p.length : Int) < q.length := by omega
    have hf : begs p q = false := by
      cases hh : begs p q with
      | false => rfl
      | true => exact absurd (begs_len p q hh) hpq
    simp -implicitDefEqProofs [x38_w, x38_r, x38r1_w, x38r2_w, x38r3_w, x38r4_w, pv, hlt, V.vw2, V.vw1, hf]
def D.at : List Int → D → Option D
  | [], d => some d
  | i :: p, d => if 0 ≤ i ∧ i < d.kids.length then match d.kids[i.toNat]? with
    | some k => D.at p k
    | none => none
    else none
def D.put : List Int → D → D → D
  | [], _, x => x
  | i :: p, .mk k n t l, x => match l[i.toNat]? with
    | some y => .mk k n t (l.set i.toNat (D.put p y x))
    | none => .mk k n t l
def D.zero : D := .mk 0 0 ⟨#[]⟩ []
theorem D.fm_kid {d : D} (h : d.fm = true) : ∀ x ∈ d.kids, x.fm = true := by
  obtain ⟨k, n, t, l⟩ := d
  intro x hx
  simp only [D.kids] at hx
  simp only [D.fm] at h
  split at h
  · simp only [Bool.and_eq_true] at h
    have := h.2
    cases l with
    | nil => simp at hx
    | cons y l => simp at this
  · split at h
    · simp only [Bool.and_eq_true] at h
      have := h.2
      cases l with
      | nil => simp at hx
      | cons y l => simp at this
    · split at h
      · simp only [Bool.and_eq_true, D.fms_all, List.all_eq_true] at h
        first
          | exact h.1.1 x hx
          | exact h.1.2 x hx
          | exact h.2 x hx
          | exact h.1 x hx
      · cases h
theorem D.at_mk {i : Int} {p : List Int} {k n : Int} {t : ByteArray} {l : List D} (h0 : 0 ≤ i) (hj : i.toNat < l.length) : D.at (i :: p) (.mk k n t l) = D.at p l[i.toNat] := by
  have hi : 0 ≤ i ∧ i < ((D.mk k n t l).kids.length : Int) := ⟨h0, by simp only [D.kids]; omega⟩
  rw [D.at, if_pos hi]
  simp only [D.kids, List.getElem?_eq_getElem hj]
theorem D.at_no {i : Int} {p : List Int} {k n : Int} {t : ByteArray} {l : List D} (h : ¬ (0 ≤ i ∧ i.toNat < l.length)) : D.at (i :: p) (.mk k n t l) = none := by
  have hi : ¬ (0 ≤ i ∧ i < ((D.mk k n t l).kids.length : Int)) := by simp only [D.kids]; omega
  rw [D.at, if_neg hi]
theorem D.at_ex {i : Int} {p : List Int} {k n : Int} {t : ByteArray} {l : List D} {u : D} (h : D.at (i :: p) (.mk k n t l) = some u) : ∃ hj : i.toNat < l.length, 0 ≤ i ∧ D.at p l[i.toNat] = some u := by
  by_cases hi : 0 ≤ i ∧ i.toNat < l.length
  · rw [D.at_mk hi.1 hi.2] at h
    exact ⟨hi.2, hi.1, h⟩
  · rw [D.at_no hi] at h
    cases h
theorem D.at_fm : ∀ (p : List Int) (d u : D), D.at p d = some u → d.fm = true → u.fm = true
  | [], d, u, h, hf => by simp only [D.at, Option.some.injEq] at h; rw [← h]; exact hf
  | i :: p, .mk k n t l, u, h, hf => by
    obtain ⟨hj, h0, h1⟩ := D.at_ex h
    exact D.at_fm p _ u h1 (D.fm_kid hf _ (List.getElem_mem hj))
theorem D.ck_zero (d : D) : d.ck = 0 ↔ d.fm = true ∧ d.sz ≤ 100000 ∧ d.dp ≤ 1000 := by
  unfold D.ck
  cases hf : d.fm with
  | false => simp
  | true =>
    by_cases h : d.sz > 100000 ∨ d.dp > 1000
    · simp [h]; omega
    · simp [h]; omega
end Go.Proofs.YtkiliokeanmagaaDoor.Ab

namespace Go.Proofs.YtkiliokeanmagaaDoor.Ab
open Go
set_option linter.unusedVariables false
set_option linter.unusedSimpArgs false
set_option maxRecDepth 4000
set_option maxHeartbeats 1000000
def rO : O := .cells [.c (.int .i64 0), .c (.int .i64 0), .c (.string ⟨#[]⟩), .sl [] .nil]
def atRes (p : List Int) (d : D) : V := match D.at p d with
  | some u => .tup [u.v, .c (.bool true)]
  | none => .tup [D.zero.v, .c (.bool false)]
structure I35 (d : D) (p : List Int) (m : Nat) (s : SF) : Prop where
  j : ∃ (j : Nat) (d' : D), j + m = p.length ∧ s.e 6 = .c (.int .i64 j) ∧ s.h = [.cells d'.v.cells, rO] ∧ D.at p d = D.at (p.drop j) d'
  e1 : s.e 1 = pv p
  e2 : s.e 2 = .ref 0 0
  e4 : s.e 4 = .ref 1 0
  b : s.base = 0
theorem step35 {cf : CallF} {fu : Nat} {d : D} {p : List Int} (hl : p.length < 1099511627776) {Q : Ex → SF → Prop}
    (hQ : ∀ s u, D.at p d = some u → s.h = [.cells u.v.cells, rO] → s.e 2 = .ref 0 0 → s.e 4 = .ref 1 0 → s.base = 0 → Q (.exit 0) s)
    (hR : ∀ s, D.at p d = none → ∀ a, s.h = [a, rO] → s.e 4 = .ref 1 0 → s.e 5 = .c (.bool false) → s.base = 0 → Q .ret s) (m : Nat) (s : SF) (I : I35 d p m s) :
    wpk cf fu x27l8 [] (fun e s' => match e with | .normal => ∃ k1, k1 < m ∧ I35 d p k1 s' | e => Q e s') s := by
  obtain ⟨⟨j, d', hj, e6, hh, hat⟩, e1, e2, e4, hb⟩ := I
  obtain ⟨e, h, base, rb⟩ := s
  simp only at e6 hh e1 e2 e4 hb
  subst hh hb
  by_cases hm : j < p.length
  · have hlt : (j : Int) < p.length := by omega
    have hd : p.drop j = p[j] :: p.drop (j + 1) := List.drop_eq_getElem_cons hm
    obtain ⟨k, n, t, l⟩ := d'
    rw [hd] at hat
    generalize hi : p[j] = i at *
    by_cases h0 : i < 0
    · rw [D.at_no (by omega)] at hat
      simp -implicitDefEqProofs [x27l8_w, x27r3_w, x27r4_w, x27r5_w, rO, D.v, pv, e1, e2, e4, e6, hlt, hm, hi, I64, h0]
      exact hR _ hat _ rfl (by simp [upd_at, e4]) (by simp [upd_at]) rfl
    · by_cases hil : i < l.length
      · have hil' : ¬ i ≥ (l.length : Int) := by omega
        have hil2 : ¬ (l.length : Int) ≤ i := by omega
        have h0' : 0 ≤ i := by omega
        have hj' : i.toNat < l.length := by omega
        have hrd := D.rd l[i.toNat]
        rw [D.at_mk h0' hj'] at hat
        simp -implicitDefEqProofs [x27l8_w, x27r3_w, x27r4_w, x27r6_w, x27r7_w, rO, D.v, pv, e1, e2, e4, e6, hlt, hm, hi, I64, h0, h0', hil, hil', hil2, hj', D.vs_len, D.vs_getE, D.cells_len, hrd, D.okc]
        refine ⟨m - 1, by omega, ⟨⟨j + 1, l[i.toNat], by omega, ?_, by simp [rO], hat⟩, ?_, ?_, ?_, rfl⟩⟩
        · simp only [upd_at]
          simp
          rw [wrap_in (by omega)]
        · simp [upd_at, e1, pv]
        · simp [upd_at, e2]
        · simp [upd_at, e4]
      · have hil' : i ≥ (l.length : Int) := by omega
        rw [D.at_no (by omega)] at hat
        simp -implicitDefEqProofs [x27l8_w, x27r3_w, x27r4_w, x27r5_w, rO, D.v, pv, e1, e2, e4, e6, hlt, hm, hi, I64, h0, hil', D.vs_len]
        exact hR _ hat _ rfl (by simp [upd_at, e4]) (by simp [upd_at]) rfl
  · have hlt : ¬ (j : Int) < p.length := by omega
    rw [List.drop_of_length_le (by omega)] at hat
    simp -implicitDefEqProofs [x27l8_w, x27r3_w, pv, e1, e6, hlt]
    exact hQ _ d' hat rfl (by simp [upd_at, e2]) (by simp [upd_at, e4]) rfl
theorem run35 {d : D} {p : List Int} {n : Nat} (hp : p.length < n) (hp' : p.length < 1099511627776) : Gives (n + 1) 27 [d.v, pv p] (atRes p d) := by
  refine gives_of rfl rfl rfl (by kernel_rfl) ⟨rfl, rfl⟩ (by simp [D.vw2, V.lows, D.low, pv_vw2, pv_low]) ?_
  generalize call X E n = cf at *
  simp -implicitDefEqProofs [x27_w, x27r1_w, x27r2_w, D.vw2, D.okc, pv_vw2]
  refine lpk_of (I35 d p) p.length hp ⟨⟨0, d, by simp, by simp [upd_at], by simp [rO], by simp⟩, by simp [upd_at, arg0], by simp [upd_at], by simp [upd_at], rfl⟩ ?_
  refine step35 hp' (fun s u hu hh e2 e4 hb => ?_) fun s hu a hh e4 e5 hb => ?_
  · obtain ⟨e, h, base, rb⟩ := s
    simp only at hh e2 e4 hb
    subst hh hb
    simp -implicitDefEqProofs [x27_r, x27r9_w, rO, e2, e4, D.rd, D.okc, D.cells_len, D.spl, atRes, hu, D.vw2, V.low, V.lows, D.low]
  · obtain ⟨e, h, base, rb⟩ := s
    simp only at hh e4 e5 hb
    subst hh hb
    simp -implicitDefEqProofs [x27_r, rO, e4, e5, atRes, hu, D.zero, D.v, D.vs, V.low, V.lows, SI.low]
end Go.Proofs.YtkiliokeanmagaaDoor.Ab

namespace Go.Proofs.YtkiliokeanmagaaDoor.Ab
open Go
set_option linter.unusedVariables false
set_option linter.unusedSimpArgs false
set_option maxRecDepth 8000
set_option maxHeartbeats 2000000
def Grows (z : Nat) (us : List V) (si : SI) (h : List O) : Prop := (us = [] ∧ si = .nil) ∨ ∃ q, si = .tok q ∧ h[q]? = some (.tok us.length z)
def Keeps (h h' : List O) : Prop := ∀ (id : Nat) (cs : List V), h[id]? = some (O.cells cs) → h'[id]? = some (O.cells cs)
theorem Keeps.rfl' (h : List O) : Keeps h h := fun _ _ e => e
theorem Keeps.app (h pre : List O) : Keeps h (h ++ pre) := fun id cs e => by
  rw [List.getElem?_append_left (List.getElem?_eq_some_iff.1 e).1]; exact e
theorem Keeps.set {h : List O} {i : Nat} (o : O) (hi : ∀ cs, h[i]? ≠ some (O.cells cs)) : Keeps h (h.set i o) := fun id cs e => by
  rw [List.getElem?_set_ne]
  · exact e
  · rintro rfl
    exact hi cs e
theorem Grows.app {z : Nat} {us : List V} {si : SI} {h : List O} (hG : Grows z us si h) (pre : List O) : Grows z us si (h ++ pre) := by
  rcases hG with h1 | ⟨q, h1, h2⟩
  · exact .inl h1
  · exact .inr ⟨q, h1, by rw [List.getElem?_append_left (List.getElem?_eq_some_iff.1 h2).1]; exact h2⟩
theorem Grows.nil (z : Nat) (h : List O) : Grows z [] .nil h := .inl ⟨rfl, rfl⟩
theorem grow_ex {us : List V} {si : SI} {ws : List V} {al b : Nat} {zz : Option Nat} {h : List O} (hG : Grows (zc zz) us si h) (hd : h[al]? = some .dead ∨ h[al]? = some .want) :
    ∃ si' h', grow 0 al b zz false h us si ws = some (.sl (us ++ ws) si', h') ∧ Grows (zc zz) (us ++ ws) si' h' ∧ h'.length = h.length ∧ Keeps h h' := by
  cases ws with
  | nil => exact ⟨si, h, by rw [grow_none, List.append_nil], by rw [List.append_nil]; exact hG, rfl, .rfl' h⟩
  | cons w ws =>
    rcases hG with ⟨rfl, rfl⟩ | ⟨q, rfl, hq⟩
    · have hl : al < h.length := by rcases hd with hd | hd <;> exact (List.getElem?_eq_some_iff.1 hd).1
      refine ⟨.tok al, h.set al (.tok (([] : List V).length + (w :: ws).length) (zc zz)), ?_, .inr ⟨al, rfl, ?_⟩, by simp, .set _ fun cs e => ?_⟩
      · rcases hd with hd | hd
        · exact grow_nil 0 al b zz h [] ws w hd
        · exact grow_nilW 0 al b zz h [] ws w hd
      · rw [List.getElem?_set_self hl]; simp
      · rcases hd with hd | hd <;> rw [hd] at e <;> cases e
    · have hl : q < h.length := (List.getElem?_eq_some_iff.1 hq).1
      refine ⟨.tok q, h.set q (.tok (us.length + (w :: ws).length) (zc zz)), grow_tok 0 al b q zz false h us ws w hq, .inr ⟨q, rfl, ?_⟩, by simp, .set _ fun cs e => ?_⟩
      · rw [List.getElem?_set_self hl]; simp
      · rw [hq] at e; cases e
theorem gvk_grow {cf : CallF} {n : Nat} {K : List Fr} {Q : Ex → SF → Prop} {s : SF} {us : List V} {si : SI} {ws : List V} {al b : Nat} {zz : Option Nat} {h : List O} {d : Option Nat} {r : List XOper} (hG : Grows (zc zz) us si h) (hd : h[al]? = some .dead ∨ h[al]? = some .want)
    (hq : ∀ si' h', Grows (zc zz) (us ++ ws) si' h' → h'.length = h.length → Keeps h h' → opsk cf n r K Q ⟨updO s.e d (.sl (us ++ ws) si'), h', s.base, s.rb⟩) : gvk cf n (grow 0 al b zz false h us si ws) d r K Q s := by
  obtain ⟨si', h', h1, h2, h3, h4⟩ := grow_ex (b := b) (ws := ws) hG hd
  rw [h1, gvk_some]
  exact hq si' h' h2 h3 h4
theorem get_l3 (h : List O) (x y z : O) : (h ++ [x, y, z])[h.length + 2]? = some z := by
  rw [List.getElem?_append_right (by omega)]; simp
def rng1 (n : Nat) : List (List Int) := (List.range n).map fun (i : Nat) => [(i : Int)]
def rng3 (n : Nat) : List (List Int) := (List.range n).map fun (i : Nat) => [1, (i : Int), 2]
theorem rng1_succ (n : Nat) : rng1 (n + 1) = rng1 n ++ [[(n : Int)]] := by simp [rng1, List.range_succ]
theorem rng3_succ (n : Nat) : rng3 (n + 1) = rng3 n ++ [[1, (n : Int), 2]] := by simp [rng3, List.range_succ]
theorem rng1_len (n : Nat) : (rng1 n).length = n := by simp [rng1]
theorem rng3_len (n : Nat) : (rng3 n).length = n := by simp [rng3]
def D.rp (d : D) : List (List Int) :=
  if d.form = 4 then [[1], [2], [3]] else if d.form = 5 ∨ d.form = 9 then [[2]] else if d.form = 6 then [[2], [3]] else if d.form = 8 then [[1], [2]] else
  if d.form = 7 then rng3 (d.kid 1).kids.length ++ [[2]] else if d.form = 10 then rng1 d.kids.length else []
theorem pvs_app (a b : List (List Int)) : pvs (a ++ b) = pvs a ++ pvs b := by simp [pvs]
theorem pvs_hz (a : List (List Int)) : hz 1 (pvs a) = true := by cases a <;> rfl
theorem pvs_low (m : Nat) (a : List (List Int)) : V.lows m (pvs a) = true := lows_of fun v hv => by
  obtain ⟨p, _, rfl⟩ := List.mem_map.1 hv
  exact pv_low m p
structure J32 (l : List D) (k i : Int) (t : ByteArray) (m : Nat) (s : SF) : Prop where
  j : ∃ (j : Nat) (si : SI), j + m = l.length ∧ s.e 5 = .c (.int .i64 j) ∧ s.e 3 = .sl (pvs (rng1 j)) si ∧ Grows 1 (pvs (rng1 j)) si s.h
  h0 : s.h[0]? = some (dcell k i t (D.vs l) .any)
  e1 : s.e 1 = .ref 0 0
  b : s.base = 0
theorem app0 {h : List O} {o : O} (h0 : h[0]? = some o) (pre : List O) : (h ++ pre)[0]? = some o := by
  rw [List.getElem?_append_left (List.getElem?_eq_some_iff.1 h0).1]; exact h0
theorem jstep32 {cf : CallF} {fu : Nat} {l : List D} {k i : Int} {t : ByteArray} (hl : l.length < 1099511627776) {Q : Ex → SF → Prop}
    (hQ : ∀ s si, s.e 3 = .sl (pvs (rng1 l.length)) si → s.base = 0 → Q (.exit 3) s) (m : Nat) (s : SF) (I : J32 l k i t m s) :
    wpk cf fu x32l25 [] (fun e s' => match e with | .normal => ∃ k1, k1 < m ∧ J32 l k i t k1 s' | e => Q e s') s := by
  obtain ⟨⟨j, si, hj, e5, e3, hG⟩, h0, e1, hb⟩ := I
  obtain ⟨e, h, base, rb⟩ := s
  simp only at e5 e3 hG h0 e1 hb
  subst hb
  have ha := app0 h0
  simp only [dcell] at ha h0
  by_cases hm : j < l.length
  · have hlt : (j : Int) < l.length := by omega
    have hpl : (pvs (rng1 j)).length = j := by rw [pvs_len, rng1_len]
    have hj1 : (j + 1) * 24 ≤ 140737488355328 := by omega
    have hj2 : j + 1 ≤ 140737488355328 := by omega
    have hz1 := pvs_hz (rng1 j)
    simp -implicitDefEqProofs [x32l25_w, x32r22_w, x32r23_w, x32r24_w, e1, e3, e5, h0, ha, D.vs_len, hlt, hpl, hj1, hj2, hz1]
    refine gvk_grow (hG.app _) (.inr (get_l3 ..)) fun si' h' hG' hl' hk => ?_
    simp -implicitDefEqProofs [x32r24_w, e5]
    refine ⟨m - 1, by omega, ⟨⟨j + 1, si', by omega, ?_, ?_, ?_⟩, ?_, ?_, rfl⟩⟩
    · simp only [upd_at]
      simp
      rw [wrap_in (by omega)]
    · simp [upd_at, rng1_succ, pvs_app, pvs, pv, I64]
    · rw [rng1_succ, pvs_app]
      simpa [pvs, pv, I64] using hG'
    · simpa [dcell] using hk _ _ (ha _)
    · simp [upd_at, e1]
  · have hlt : ¬ (j : Int) < l.length := by omega
    obtain rfl : j = l.length := by omega
    simp -implicitDefEqProofs [x32l25_w, x32r22_w, e1, e5, h0, ha, D.vs_len]
    exact hQ _ si (by simp [upd_at, e3]) rfl
end Go.Proofs.YtkiliokeanmagaaDoor.Ab

namespace Go.Proofs.YtkiliokeanmagaaDoor.Ab
open Go
set_option linter.unusedVariables false
set_option linter.unusedSimpArgs false
set_option maxRecDepth 8000
set_option maxHeartbeats 2000000
def cell7 (k i : Int) (t : ByteArray) (a c : D) (k1 i1 : Int) (t1 : ByteArray) (l1 : List D) : O :=
  .cells [.c (.int .i64 k), .c (.int .i64 i), .c (.string t), .sl [a.v, .agg [.c (.int .i64 k1), .c (.int .i64 i1), .c (.string t1), .sl (D.vs l1) .any], c.v] .any]
structure L32 (l1 : List D) (o : O) (m : Nat) (s : SF) : Prop where
  j : ∃ (j : Nat) (si : SI), j + m = l1.length ∧ s.e 4 = .c (.int .i64 j) ∧ s.e 3 = .sl (pvs (rng3 j)) si ∧ Grows 1 (pvs (rng3 j)) si s.h
  h0 : s.h[0]? = some o
  e1 : s.e 1 = .ref 0 0
  b : s.base = 0
theorem lstep32 {cf : CallF} {fu : Nat} {k i : Int} {t : ByteArray} {a c : D} {k1 i1 : Int} {t1 : ByteArray} {l1 : List D} (hl : l1.length < 1099511627776) {Q : Ex → SF → Prop}
    (hQ : ∀ s si, s.e 3 = .sl (pvs (rng3 l1.length)) si → Grows 1 (pvs (rng3 l1.length)) si s.h → s.base = 0 → Q (.exit 1) s) (m : Nat) (s : SF) (I : L32 l1 (cell7 k i t a c k1 i1 t1 l1) m s) :
    wpk cf fu x32l18 [] (fun e s' => match e with | .normal => ∃ m', m' < m ∧ L32 l1 (cell7 k i t a c k1 i1 t1 l1) m' s' | e => Q e s') s := by
  obtain ⟨⟨j, si, hj, e4, e3, hG⟩, h0, e1, hb⟩ := I
  obtain ⟨e, h, base, rb⟩ := s
  simp only at e4 e3 hG h0 e1 hb
  subst hb
  have ha := app0 h0
  simp only [cell7] at ha h0
  by_cases hm : j < l1.length
  · have hlt : (j : Int) < l1.length := by omega
    have hpl : (pvs (rng3 j)).length = j := by rw [pvs_len, rng3_len]
    have hj1 : (j + 1) * 24 ≤ 140737488355328 := by omega
    have hj2 : j + 1 ≤ 140737488355328 := by omega
    have hz1 := pvs_hz (rng3 j)
    simp -implicitDefEqProofs [x32l18_w, x32r15_w, x32r16_w, x32r17_w, e1, e3, e4, h0, ha, D.vs_len, hlt, hpl, hj1, hj2, hz1]
    refine gvk_grow (hG.app _) (.inr (get_l3 ..)) fun si' h' hG' hl' hk => ?_
    simp -implicitDefEqProofs [x32r17_w, e4]
    refine ⟨m - 1, by omega, ⟨⟨j + 1, si', by omega, ?_, ?_, ?_⟩, ?_, ?_, rfl⟩⟩
    · simp only [upd_at]
      simp
      rw [wrap_in (by omega)]
    · simp [upd_at, rng3_succ, pvs_app, pvs, pv, I64]
    · rw [rng3_succ, pvs_app]
      simpa [pvs, pv, I64] using hG'
    · simpa [cell7] using hk _ _ (ha _)
    · simp [upd_at, e1]
  · have hlt : ¬ (j : Int) < l1.length := by omega
    obtain rfl : j = l1.length := by omega
    simp -implicitDefEqProofs [x32l18_w, x32r15_w, e1, e4, h0, ha, D.vs_len]
    exact hQ _ si (by simp [upd_at, e3]) hG rfl
theorem form_nz {d : D} {f : Int} (h : d.form = f) (hf : f ≠ 0 ∧ f ≠ 1 ∧ f ≠ 2) : d.kd ≠ 1 ∧ d.kd ≠ 2 ∧ okF (form0 d.kids) d.kids = true ∧ f = (if form0 d.kids = 0 then 10 else form0 d.kids) := by
  obtain ⟨k, i, t, l⟩ := d
  simp only [D.form] at h
  simp only [D.kd, D.kids]
  split at h
  · omega
  split at h
  · split at h <;> omega
  split at h
  · omega
  split at h
  · exact ⟨by assumption, by assumption, by assumption, h.symm⟩
  · omega
theorem form_7 {d : D} (h : d.form = 7) : d.kids.length = 3 := by
  obtain ⟨_, _, h3, h4⟩ := form_nz h (by omega)
  have : form0 d.kids = 7 := by split at h4 <;> omega
  rw [this] at h3
  simp [okF] at h3
  exact h3.1
theorem go32 (d : D) (hf : d.fm = true) {n : Nat} (hn : d.sz + 70 < n) (hl : d.sz < 1099511627776) : Gives (n + 1) 32 [d.v] (.sl (pvs d.rp) .any) := by
  have c30 : ∀ h, call X E n 30 [d.v] h = some (.c (.int .i64 d.form), h) := by
    obtain ⟨n', rfl⟩ : ∃ n', n = n' + 1 := ⟨n - 1, by omega⟩
    exact go30 d hf (by omega) (by omega) hl
  have hrl := pvs_low 0 d.rp
  have hkl := kids_lt d
  refine gives_of rfl rfl rfl (by kernel_rfl) ⟨rfl, rfl⟩ (by simp [D.vw2, V.lows, D.low]) ?_
  by_cases h4 : d.form = 4
  · have hr : d.rp = [[1], [2], [3]] := by simp [D.rp, h4]
    rw [h4] at c30
    rw [hr] at hrl ⊢
    simp only [pvs, pv, List.map_cons, List.map_nil, I64] at hrl ⊢
    simp -implicitDefEqProofs [x32_w, x32_r, x32r1_w, x32r2_w, x32r3_w, x32r4_w, x32r5_w, D.vw2, D.okc, D.rd, D.cells_len, c30]
    simp [V.low, V.lows, SI.low]
  have b4 : (d.form == 4) = false := by simp [h4]
  by_cases h5 : d.form = 5
  · have hr : d.rp = [[2]] := by simp [D.rp, h5]
    rw [h5] at c30
    rw [hr] at hrl ⊢
    simp only [pvs, pv, List.map_cons, List.map_nil, I64] at hrl ⊢
    simp -implicitDefEqProofs [x32_w, x32_r, x32r1_w, x32r2_w, x32r3_w, x32r4_w, x32r6_w, x32r7_w, x32r8_w, D.vw2, D.okc, D.rd, D.cells_len, c30]
    simp [V.low, V.lows, SI.low]
  by_cases h9 : d.form = 9
  · have hr : d.rp = [[2]] := by simp [D.rp, h9]
    rw [h9] at c30
    rw [hr] at hrl ⊢
    simp only [pvs, pv, List.map_cons, List.map_nil, I64] at hrl ⊢
    simp -implicitDefEqProofs [x32_w, x32_r, x32r1_w, x32r2_w, x32r3_w, x32r4_w, x32r6_w, x32r7_w, x32r8_w, D.vw2, D.okc, D.rd, D.cells_len, c30]
    simp [V.low, V.lows, SI.low]
  by_cases h6 : d.form = 6
  · have hr : d.rp = [[2], [3]] := by simp [D.rp, h6]
    rw [h6] at c30
    rw [hr] at hrl ⊢
    simp only [pvs, pv, List.map_cons, List.map_nil, I64] at hrl ⊢
    simp -implicitDefEqProofs [x32_w, x32_r, x32r1_w, x32r2_w, x32r3_w, x32r4_w, x32r6_w, x32r7_w, x32r9_w, x32r10_w, D.vw2, D.okc, D.rd, D.cells_len, c30]
    simp [V.low, V.lows, SI.low]
  by_cases h8 : d.form = 8
  · have hr : d.rp = [[1], [2]] := by simp [D.rp, h8]
    rw [h8] at c30
    rw [hr] at hrl ⊢
    simp only [pvs, pv, List.map_cons, List.map_nil, I64] at hrl ⊢
    simp -implicitDefEqProofs [x32_w, x32_r, x32r1_w, x32r2_w, x32r3_w, x32r4_w, x32r6_w, x32r7_w, x32r9_w, x32r11_w, x32r12_w, D.vw2, D.okc, D.rd, D.cells_len, c30]
    simp [V.low, V.lows, SI.low]
  by_cases h7 : d.form = 7
  · have hr : d.rp = rng3 (d.kid 1).kids.length ++ [[2]] := by simp [D.rp, h7]
    obtain ⟨a, b, c, habc⟩ := list3 (form_7 h7)
    rw [h7] at c30
    rw [hr] at hrl ⊢
    obtain ⟨k, i, t, l⟩ := d
    simp only [D.kids] at habc
    subst habc
    obtain ⟨k1, i1, t1, l1⟩ := b
    have hk1 : ((D.mk k i t [a, D.mk k1 i1 t1 l1, c]).kid 1).kids = l1 := rfl
    rw [hk1] at hrl ⊢
    have hl1 : l1.length < 1099511627776 ∧ l1.length < n := by
      have := D.len_szs l1
      simp only [D.sz, D.szs] at hl hn
      omega
    have hpl : (pvs (rng3 l1.length)).length = l1.length := by rw [pvs_len, rng3_len]
    have hj1 : (l1.length + 1) * 24 ≤ 140737488355328 := by omega
    have hj2 : l1.length + 1 ≤ 140737488355328 := by omega
    have hz1 := pvs_hz (rng3 l1.length)
    simp only [D.v, D.vs] at c30 ⊢
    simp -implicitDefEqProofs [x32_w, x32r1_w, x32r2_w, x32r3_w, x32r4_w, x32r6_w, x32r7_w, x32r9_w, x32r11_w, x32r13_w, x32r14_w, c30]
    refine lpk_of (L32 l1 (cell7 k i t a c k1 i1 t1 l1)) l1.length hl1.2 ⟨⟨0, .nil, by simp, by simp [upd_at], by simp [upd_at, rng3, pvs], .inl ⟨rfl, rfl⟩⟩, by simp [cell7], by simp [upd_at], rfl⟩ ?_
    refine lstep32 hl1.1 fun s si e3 hG hb => ?_
    obtain ⟨e, h, base, rb⟩ := s
    simp only at e3 hG hb
    subst hb
    simp -implicitDefEqProofs [x32r19_w, e3, hpl, hj1, hj2, hz1]
    refine gvk_grow (hG.app _) (.inr (get_l3 ..)) fun si' h' hG' hl' hk => ?_
    simp -implicitDefEqProofs [x32_r]
    simp [pvs_app, pvs, pv, I64, V.low, SI.low] at hrl ⊢
    exact hrl
  by_cases h10 : d.form = 10
  · have hr : d.rp = rng1 d.kids.length := by simp [D.rp, h10]
    rw [h10] at c30
    rw [hr] at hrl ⊢
    obtain ⟨k, i, t, l⟩ := d
    simp only [D.kids] at hrl hkl ⊢
    simp only [D.v] at c30 ⊢
    simp -implicitDefEqProofs [x32_w, x32r1_w, x32r2_w, x32r3_w, x32r4_w, x32r6_w, x32r7_w, x32r9_w, x32r11_w, x32r13_w, x32r20_w, x32r21_w, c30]
    refine lpk_of (J32 l k i t) l.length (by omega) ⟨⟨0, .nil, by simp, by simp [upd_at], by simp [upd_at, rng1, pvs], .inl ⟨rfl, rfl⟩⟩, by simp [dcell], by simp [upd_at], rfl⟩ ?_
    refine jstep32 (by omega) fun s si e3 hb => ?_
    obtain ⟨e, h, base, rb⟩ := s
    simp only at e3 hb
    subst hb
    simp -implicitDefEqProofs [x32_r, x32r26_w, e3]
    simpa [V.low, SI.low] using hrl
  have hr : d.rp = [] := by simp [D.rp, h4, h5, h9, h6, h8, h7, h10]
  rw [hr] at hrl ⊢
  have b5 : (d.form == 5) = false := by simp [h5]
  have b9 : (d.form == 9) = false := by simp [h9]
  have b6 : (d.form == 6) = false := by simp [h6]
  have b8 : (d.form == 8) = false := by simp [h8]
  have b7 : (d.form == 7) = false := by simp [h7]
  have b10 : (d.form == 10) = false := by simp [h10]
  simp -implicitDefEqProofs [x32_w, x32_r, x32r1_w, x32r2_w, x32r3_w, x32r4_w, x32r6_w, x32r7_w, x32r9_w, x32r11_w, x32r13_w, x32r20_w, x32r26_w, D.vw2, D.okc, D.rd, D.cells_len, c30, b4, b5, b6, b7, b8, b9, b10, pvs]
  try simp [V.low, V.lows, SI.low]
end Go.Proofs.YtkiliokeanmagaaDoor.Ab

namespace Go.Proofs.YtkiliokeanmagaaDoor.Ab
open Go
set_option linter.unusedVariables false
set_option linter.unusedSimpArgs false
set_option maxRecDepth 8000
set_option maxHeartbeats 2000000
theorem sub1_fst (frm : Nat) : ∀ (l : List D) (i : Nat), (sub1 frm l i).map (·.1) = (List.range' (frm + i) l.length).map fun (j : Nat) => [(j : Int)]
  | [], i => rfl
  | x :: l, i => by
    simp only [sub1, List.map_cons, List.length_cons, List.range'_succ, sub1_fst frm l (i + 1)]
    rfl
theorem recs_fst : ∀ (l : List D) (i : Nat), (recs l i).map (·.1) = (List.range' i l.length).map fun (j : Nat) => [1, (j : Int), 2]
  | [], i => rfl
  | x :: l, i => by
    simp only [recs, List.map_cons, List.length_cons, List.range'_succ, recs_fst l (i + 1)]
theorem sub1_snd (frm : Nat) : ∀ (l : List D) (i : Nat), (sub1 frm l i).map (·.2) = l
  | [], i => rfl
  | x :: l, i => by simp only [sub1, List.map_cons, sub1_snd frm l (i + 1)]
theorem form_ok {d : D} {f : Int} (h : d.form = f) (hf : f ≠ 0 ∧ f ≠ 1 ∧ f ≠ 2 ∧ f ≠ 10) : okF f d.kids = true := by
  obtain ⟨_, _, h3, h4⟩ := form_nz h ⟨hf.1, hf.2.1, hf.2.2.1⟩
  split at h4
  · omega
  · rw [h4]; exact h3
theorem form_lenB {d : D} : (d.form = 4 → d.kids.length = 4) ∧ (d.form = 5 → d.kids.length = 3) ∧ (d.form = 9 → d.kids.length = 3) ∧ (d.form = 6 → d.kids.length = 4) ∧ (d.form = 8 → d.kids.length = 3) := by
  refine ⟨fun h => ?_, fun h => ?_, fun h => ?_, fun h => ?_, fun h => ?_⟩
  all_goals
    have := form_ok h (by omega)
    simp [okF] at this
    first | exact this | exact this.1
theorem form_grp {d : D} (h : d.form = 7) : grp (d.kid 1) = true := by
  have := form_ok h (by omega)
  simp [okF] at this
  exact this.2
theorem D.parts_rp (d : D) : d.parts.map (·.1) = d.rp := by
  obtain ⟨l4, l5, l9, l6, l8⟩ := form_lenB (d := d)
  unfold D.parts D.rp
  by_cases h4 : d.form = 4
  · obtain ⟨a, b, c, e, he⟩ := list4 (l4 h4)
    simp [h4, he, sub1]
  by_cases h5 : d.form = 5
  · obtain ⟨a, b, c, he⟩ := list3 (l5 h5)
    simp [h5, he, sub1]
  by_cases h9 : d.form = 9
  · obtain ⟨a, b, c, he⟩ := list3 (l9 h9)
    simp [h9, he, sub1]
  by_cases h6 : d.form = 6
  · obtain ⟨a, b, c, e, he⟩ := list4 (l6 h6)
    simp [h6, he, sub1]
  by_cases h8 : d.form = 8
  · obtain ⟨a, b, c, he⟩ := list3 (l8 h8)
    simp [h8, he, sub1]
  by_cases h7 : d.form = 7
  · obtain ⟨a, b, c, he⟩ := list3 (form_7 h7)
    simp [h7, he, sub1, rng3, List.range_eq_range']
    exact recs_fst _ 0
  by_cases h10 : d.form = 10
  · simp only [h10]
    simp [sub1_fst, rng1, List.range_eq_range']
  simp [h4, h5, h9, h6, h8, h7, h10]
theorem D.at_one {k i : Int} {t : ByteArray} {l : List D} {j : Nat} (h : j < l.length) : D.at [(j : Int)] (.mk k i t l) = some l[j] := by
  rw [D.at_mk (by omega) (by omega)]
  rfl
theorem sub1_at {k i : Int} {t : ByteArray} {l : List D} {frm : Nat} : ∀ (L : List D) (j : Nat), (∀ u (h : u < L.length), ∃ h' : frm + j + u < l.length, L[u] = l[frm + j + u]) → ∀ p x, (p, x) ∈ sub1 frm L j → D.at p (.mk k i t l) = some x
  | [], _, _, p, x, h => by simp [sub1] at h
  | y :: L, j, hL, p, x, h => by
    simp only [sub1, List.mem_cons, Prod.mk.injEq] at h
    rcases h with ⟨rfl, rfl⟩ | h
    · obtain ⟨h1, h2⟩ := hL 0 (by simp)
      simp only [List.getElem_cons_zero, Nat.add_zero] at h1 h2
      rw [h2]
      exact D.at_one h1
    · refine sub1_at L (j + 1) (fun u hu => ?_) p x h
      obtain ⟨h1, h2⟩ := hL (u + 1) (by simp; omega)
      refine ⟨by omega, ?_⟩
      simp only [List.getElem_cons_succ] at h2
      rw [h2]
      congr 1
      omega
theorem sub1_drop {k i : Int} {t : ByteArray} {l : List D} {frm : Nat} : ∀ p x, (p, x) ∈ sub1 frm (l.drop frm) 0 → D.at p (.mk k i t l) = some x :=
  sub1_at _ 0 fun u hu => by
    simp at hu
    exact ⟨by omega, by simp⟩
theorem recs_at {k i : Int} {t : ByteArray} {l L : List D} {k1 i1 : Int} {t1 : ByteArray} (h1 : l[1]? = some (.mk k1 i1 t1 L)) (hg : ∀ x ∈ L, x.kids.length = 3) : ∀ (M : List D) (j : Nat), (∀ u (h : u < M.length), ∃ h' : j + u < L.length, M[u] = L[j + u]) → ∀ p x, (p, x) ∈ recs M j → D.at p (.mk k i t l) = some x
  | [], _, _, p, x, h => by simp [recs] at h
  | y :: M, j, hM, p, x, h => by
    simp only [recs, List.mem_cons, Prod.mk.injEq] at h
    rcases h with ⟨rfl, rfl⟩ | h
    · obtain ⟨a1, a2⟩ := hM 0 (by simp)
      simp only [List.getElem_cons_zero, Nat.add_zero] at a1 a2
      obtain ⟨b1, b2⟩ := List.getElem?_eq_some_iff.1 h1
      rw [D.at_mk (by omega) (by simpa using b1)]
      have : l[(1 : Int).toNat]'(by simpa using b1) = .mk k1 i1 t1 L := b2
      rw [this, D.at_mk (by omega) (by simpa using a1)]
      have : L[((j : Nat) : Int).toNat]'(by simpa using a1) = y := by rw [a2]; rfl
      rw [this]
      have hy := hg y (a2 ▸ List.getElem_mem a1)
      obtain ⟨ky, iy, ty, ly⟩ := y
      simp only [D.kids] at hy
      have := D.at_one (k := ky) (i := iy) (t := ty) (l := ly) (j := 2) (by omega)
      have hk : (D.mk ky iy ty ly).kid 2 = ly[2] := by
        simp only [D.kid, D.kids]
        rw [List.getD_eq_getElem?_getD, List.getElem?_eq_getElem (by omega)]
        rfl
      rw [hk]
      exact this
    · refine recs_at h1 hg M (j + 1) (fun u hu => ?_) p x h
      obtain ⟨h1, h2⟩ := hM (u + 1) (by simp; omega)
      refine ⟨by omega, ?_⟩
      simp only [List.getElem_cons_succ] at h2
      rw [h2]
      congr 1
      omega
theorem D.parts_at (d : D) : ∀ p x, (p, x) ∈ d.parts → D.at p d = some x := by
  intro p x h
  unfold D.parts at h
  split at h
  · obtain ⟨k, i, t, l⟩ := d
    exact sub1_drop p x h
  split at h
  · obtain ⟨k, i, t, l⟩ := d
    exact sub1_drop p x h
  split at h
  · rename_i h7
    have hg := form_grp h7
    have hl := form_7 h7
    obtain ⟨k, i, t, l⟩ := d
    rcases List.mem_append.1 h with h | h
    · simp only [D.kids] at hl
      have hk : l[1]? = some ((D.mk k i t l).kid 1) := by
        simp only [D.kid, D.kids]
        rw [List.getD_eq_getElem?_getD, List.getElem?_eq_getElem (by omega)]
        rfl
      generalize (D.mk k i t l).kid 1 = c at *
      obtain ⟨k1, i1, t1, L⟩ := c
      refine recs_at hk (fun x hx => ?_) L 0 (fun u hu => ⟨by omega, by simp⟩) p x h
      simp only [grp, Bool.and_eq_true, List.all_eq_true, D.kids] at hg
      have := hg.2.2.2.1 x hx
      simp only [defB, Bool.and_eq_true] at this
      simpa using this.2.1
    · exact sub1_drop p x h
  split at h
  · obtain ⟨k, i, t, l⟩ := d
    have := sub1_drop (k := k) (i := i) (t := t) (l := l) (frm := 0) p x
    exact this h
  · simp at h
end Go.Proofs.YtkiliokeanmagaaDoor.Ab

namespace Go.Proofs.YtkiliokeanmagaaDoor.Ab
open Go
set_option linter.unusedVariables false
set_option linter.unusedSimpArgs false
set_option maxRecDepth 8000
set_option maxHeartbeats 2000000
theorem get_m (h : List O) (a : O) (t : List O) : (h ++ a :: t)[h.length]? = some a := by
  rw [List.getElem?_append_right (Nat.le_refl _)]; simp
theorem get_m1 (h : List O) (a b : O) (t : List O) : (h ++ a :: b :: t)[h.length + 1]? = some b := by
  rw [List.getElem?_append_right (by omega)]; simp
theorem get_m2 (h : List O) (a b c : O) (t : List O) : (h ++ a :: b :: c :: t)[h.length + 2]? = some c := by
  rw [List.getElem?_append_right (by omega)]; simp
theorem set_m (h : List O) (a x : O) (t : List O) : (h ++ a :: t).set h.length x = h ++ x :: t := by
  rw [List.set_append_right _ _ (Nat.le_refl _)]; simp
def D.subs (d : D) : List D := d.parts.map (·.2)
theorem parts_len (d : D) : d.parts.length = d.rp.length := by rw [← D.parts_rp, List.length_map]
theorem subs_len (d : D) : d.subs.length = d.rp.length := by rw [D.subs, List.length_map, parts_len]
theorem parts_get {d : D} {j : Nat} (h : j < d.rp.length) : d.parts[j]'(by rw [parts_len]; exact h) = (d.rp[j], d.subs[j]'(by rw [subs_len]; exact h)) := by
  have h1 : d.rp[j] = (d.parts.map (·.1))[j]'(by rw [D.parts_rp]; exact h) := by simp only [D.parts_rp]
  rw [h1]
  simp [D.subs]
theorem rp_at {d : D} {j : Nat} (h : j < d.rp.length) : D.at d.rp[j] d = some (d.subs[j]'(by rw [subs_len]; exact h)) :=
  d.parts_at _ _ (by rw [← parts_get h]; exact List.getElem_mem _)
theorem rp_mem {d : D} {p : List Int} (h : p ∈ d.rp) : p.length ≤ 3 := by
  rw [← D.parts_rp] at h
  obtain ⟨⟨q, x⟩, h1, rfl⟩ := List.mem_map.1 h
  exact (parts_mem h1).2
theorem parts_num (d : D) : d.parts.length ≤ d.sz := by
  have hs1 : ∀ frm (l : List D) i, (sub1 frm l i).length = l.length := fun frm l i => by
    have := congrArg List.length (sub1_snd frm l i)
    simpa using this
  have hs2 : ∀ (l : List D) i, (recs l i).length = l.length := fun l i => by
    have := congrArg List.length (recs_fst l i)
    simpa using this
  have hk := kids_lt d
  unfold D.parts
  split
  · rw [hs1, List.length_drop]; omega
  split
  · rw [hs1, List.length_drop]; omega
  split
  · rename_i h7
    have h3 := form_7 h7
    obtain ⟨k, i, t, l⟩ := d
    simp only [D.kids] at h3
    obtain ⟨a, b, c, rfl⟩ := list3 h3
    rw [List.length_append, hs1, hs2, List.length_drop]
    have := kids_lt b
    have hb : (D.mk k i t [a, b, c]).kid 1 = b := rfl
    rw [hb]
    have hkk : (D.mk k i t [a, b, c]).kids.length = 3 := rfl
    rw [hkk]
    simp only [D.sz, D.szs]
    have := D.sz_pos a
    have := D.sz_pos c
    omega
  split
  · rw [hs1]; omega
  · simp
theorem cons_of {h : List O} {o : O} (h0 : h[0]? = some o) : ∃ r, h = o :: r := by
  cases h with
  | nil => simp at h0
  | cons a r => simp at h0; exact ⟨r, by rw [h0]⟩
structure J55 (d : D) (m : Nat) (s : SF) : Prop where
  j : ∃ (j : Nat) (si : SI), j + m = d.rp.length ∧ s.e 5 = .c (.int .i64 j) ∧ s.e 3 = .sl (D.vs (d.subs.take j)) si ∧ Grows 4 (D.vs (d.subs.take j)) si s.h
  h0 : s.h[0]? = some (.cells d.v.cells)
  e1 : s.e 1 = .ref 0 0
  e4 : s.e 4 = .sl (pvs d.rp) .any
  b : s.base = 0
theorem jstep55 {cf : CallF} {fu : Nat} {d : D} (hl : d.rp.length < 1099511627776) (c27 : ∀ j (h : j < d.rp.length) hh, cf 27 [d.v, pv d.rp[j]] hh = some (.tup [(d.subs[j]'(by rw [subs_len]; exact h)).v, .c (.bool true)], hh)) {Q : Ex → SF → Prop}
    (hQ : ∀ s si, s.e 3 = .sl (D.vs d.subs) si → s.base = 0 → Q (.exit 0) s) (m : Nat) (s : SF) (I : J55 d m s) :
    wpk cf fu x55l9 [] (fun e s' => match e with | .normal => ∃ k1, k1 < m ∧ J55 d k1 s' | e => Q e s') s := by
  obtain ⟨⟨j, si, hj, e5, e3, hG⟩, h0, e1, e4, hb⟩ := I
  obtain ⟨e, h, base, rb⟩ := s
  simp only at e5 e3 hG h0 e1 e4 hb
  subst hb
  obtain ⟨rest, rfl⟩ := cons_of h0
  have hsl := subs_len d
  have hpl := pvs_len d.rp
  by_cases hm : j < d.rp.length
  · have hlt : (j : Int) < d.rp.length := by omega
    have hvl : (D.vs (d.subs.take j)).length = j := by rw [D.vs_len]; simp; omega
    have hj1 : (j + 1) * 56 ≤ 140737488355328 := by omega
    have hj2 : j + 1 ≤ 140737488355328 := by omega
    have hz1 := D.hz (d.subs.take j)
    have hq : (pvs d.rp)[j]'(by omega) = pv d.rp[j] := by simp [pvs]
    have hc := c27 j hm
    have hts : d.subs.take (j + 1) = d.subs.take j ++ [d.subs[j]'(by omega)] := by rw [List.take_add_one, List.getElem?_eq_getElem (by omega)]; rfl
    generalize hx : d.subs[j]'(by omega) = x at *
    have hcl : (pv d.rp[j]).cells = [pv d.rp[j]] := rfl
    generalize hP : pv d.rp[j] = P at *
    simp -implicitDefEqProofs [x55l9_w, x55r5_w, x55r6_w, x55r7_w, x55r8_w, e1, e3, e4, e5, hpl, hlt, hm, hvl, hj1, hj2, hz1, hq, hcl, hc, D.cells_len, D.rd, D.okc, D.vw2, D.spl, get_m, get_m1, get_m2, set_m]
    refine gvk_grow (zz := some 4) (h := (O.cells d.v.cells :: rest) ++ _) (hG.app _) (.inl ?_) fun si' h' hG' hl' hk => ?_
    · first | exact get_m2 .. | exact get_l3 ..
    simp -implicitDefEqProofs [x55r8_w, e5]
    refine ⟨m - 1, by omega, ⟨⟨j + 1, si', by omega, ?_, ?_, ?_⟩, ?_, ?_, ?_, rfl⟩⟩
    · simp only [upd_at]
      simp
      rw [wrap_in (by omega)]
    · simp [upd_at, hts, D.vs_app, D.vs]
    · rw [hts, D.vs_app]
      simpa [D.vs] using hG'
    · simpa using hk 0 _ (by simp)
    · simp [upd_at, e1]
    · simp [upd_at, e4]
  · have hlt : ¬ (j : Int) < d.rp.length := by omega
    rw [List.take_of_length_le (by omega)] at e3
    simp -implicitDefEqProofs [x55l9_w, x55r5_w, e1, e4, e5, hpl, hlt]
    exact hQ _ si (by simp [upd_at, e3]) rfl
theorem go55 (d : D) (hf : d.fm = true) {n : Nat} (hn : d.sz + 80 < n) (hl : d.sz < 1099511627776) : Gives (n + 1) 55 [d.v] (.sl (D.vs d.subs) .any) := by
  obtain ⟨n, rfl⟩ : ∃ n', n = n' + 1 := ⟨n - 1, by omega⟩
  have c32 : ∀ h, call X E (n + 1) 32 [d.v] h = some (.sl (pvs d.rp) .any, h) := go32 d hf (by omega) hl
  have hnum := parts_num d
  have hpl := parts_len d
  have c27 : ∀ j (h : j < d.rp.length) hh, call X E (n + 1) 27 [d.v, pv d.rp[j]] hh = some (.tup [(d.subs[j]'(by rw [subs_len]; exact h)).v, .c (.bool true)], hh) := fun j h => by
    have h3 := rp_mem (List.getElem_mem h)
    have := run35 (d := d) (p := d.rp[j]) (n := n) (by omega) (by omega)
    simp only [atRes, rp_at h] at this
    exact this
  have hlow := D.lows 0 d.subs
  generalize n + 1 = m at *
  refine gives_of rfl rfl rfl (by kernel_rfl) ⟨rfl, rfl⟩ (by simp [D.vw2, V.lows, D.low]) ?_
  simp -implicitDefEqProofs [x55_w, x55r1_w, x55r2_w, x55r3_w, x55r4_w, D.vw2, D.okc, D.rd, D.cells_len, c32]
  refine lpk_of (J55 d) d.rp.length (by omega) ⟨⟨0, .nil, by simp, by simp [upd_at], by simp [upd_at, D.vs], .inl ⟨rfl, rfl⟩⟩, by simp, by simp [upd_at], by simp [upd_at], rfl⟩ ?_
  refine jstep55 (by omega) c27 fun s si e3 hb => ?_
  obtain ⟨e, h, base, rb⟩ := s
  simp only at e3 hb
  subst hb
  simp -implicitDefEqProofs [x55_r, x55r10_w, e3]
  simpa [V.low, SI.low] using hlow
structure J37 (d : D) (f : D → Option (List Int)) (m : Nat) (s : SF) : Prop where
  j : ∃ (j : Nat), j + m = d.rp.length ∧ s.e 6 = .c (.int .i64 j) ∧ firstW f d.parts = firstW f (d.parts.drop j)
  e4 : s.e 4 = .sl (pvs d.rp) .any
  e5 : s.e 5 = .sl (D.vs d.subs) .any
  b : s.base = 0
theorem jstep37 {cf : CallF} {fu : Nat} {d : D} {f : D → Option (List Int)} (hl : d.rp.length < 1099511627776) (c37 : ∀ j (h : j < d.rp.length) hh, cf 37 [(d.subs[j]'(by rw [subs_len]; exact h)).v] hh = some (wres (f (d.subs[j]'(by rw [subs_len]; exact h))), hh))
    (c65 : ∀ j (h : j < d.rp.length) q, f (d.subs[j]'(by rw [subs_len]; exact h)) = some q → ∀ hh, cf 65 [pv d.rp[j], pv q] hh = some (pv (d.rp[j] ++ q), hh)) {Q : Ex → SF → Prop}
    (hQ : ∀ s, firstW f d.parts = none → s.base = 0 → Q (.exit 0) s) (hR : ∀ s q, firstW f d.parts = some q → s.e 2 = pv q → s.e 3 = .c (.bool true) → s.base = 0 → Q .ret s) (m : Nat) (s : SF) (I : J37 d f m s) :
    wpk cf fu x37l11 [] (fun e s' => match e with | .normal => ∃ k1, k1 < m ∧ J37 d f k1 s' | e => Q e s') s := by
  obtain ⟨⟨j, hj, e6, hw⟩, e4, e5, hb⟩ := I
  obtain ⟨e, h, base, rb⟩ := s
  simp only at e6 e4 e5 hb
  subst hb
  have hsl := subs_len d
  have hpl := pvs_len d.rp
  have hpp := parts_len d
  by_cases hm : j < d.rp.length
  · have hlt : (j : Int) < d.rp.length := by omega
    have hq : (pvs d.rp)[j]'(by omega) = pv d.rp[j] := by simp [pvs]
    have hd : d.parts.drop j = (d.rp[j], d.subs[j]'(by omega)) :: d.parts.drop (j + 1) := by
      rw [← parts_get hm]; exact List.drop_eq_getElem_cons (by omega)
    rw [hd] at hw
    have hc := c37 j hm
    have hc2 := c65 j hm
    have hvl : (D.vs d.subs).length = d.rp.length := by rw [D.vs_len, hsl]
    have hvg : (D.vs d.subs)[j]'(by omega) = (d.subs[j]'(by omega)).v := D.vs_getE _
    generalize hx : d.subs[j]'(by omega) = x at *
    generalize hp : d.rp[j] = p at *
    have hcl : (pv p).cells = [pv p] := rfl
    cases hfx : f x with
    | none =>
      rw [hfx] at hc
      simp only [wres] at hc
      simp only [firstW, hfx] at hw
      simp -implicitDefEqProofs [x37l11_w, x37r6_w, x37r7_w, x37r8_w, x37r10_w, e4, e5, e6, hpl, hvl, hvg, hlt, hm, hc, D.cells_len, D.rd, D.okc]
      refine ⟨m - 1, by omega, ⟨⟨j + 1, by omega, ?_, hw⟩, ?_, ?_, rfl⟩⟩
      · simp only [upd_at]
        simp
        rw [wrap_in (by omega)]
      · simp [upd_at, e4]
      · simp [upd_at, e5]
    | some q =>
      rw [hfx] at hc
      simp only [firstW, hfx] at hw
      have hj' := hc2 q hfx
      simp only [wres] at hc
      generalize hPQ : pv (p ++ q) = PQ at *
      generalize pv q = R at *
      generalize pv p = P at *
      simp -implicitDefEqProofs [x37l11_w, x37r6_w, x37r7_w, x37r8_w, x37r9_w, x37r10_w, e4, e5, e6, hpl, hvl, hvg, hlt, hm, hq, hcl, hc, hj', D.cells_len, D.rd, D.okc]
      exact hR _ (p ++ q) hw (by simp [upd_at, hPQ]) (by simp [upd_at]) rfl
  · have hlt : ¬ (j : Int) < d.rp.length := by omega
    rw [List.drop_of_length_le (by omega)] at hw
    simp -implicitDefEqProofs [x37l11_w, x37r6_w, e4, e6, hpl, hlt]
    exact hQ _ hw rfl
theorem go37 : ∀ (f : Nat) (d : D), d.fm = true → d.sz ≤ f → d.sz < 100000000000 → ∀ n, 4 * d.sz + 120 ≤ n → Gives n 37 [d.v] (wres (wrongN f d))
  | 0, d, _, h, _, _, _ => by have := D.sz_pos d; omega
  | f + 1, d, hfm, hf, hl, n, hn => by
    obtain ⟨n, rfl⟩ : ∃ n', n = n' + 3 := ⟨n - 3, by omega⟩
    have c30 : ∀ h, call X E (n + 2) 30 [d.v] h = some (.c (.int .i64 d.form), h) := go30 d hfm (by omega) (by omega) (by omega)
    have c32 : ∀ h, call X E (n + 2) 32 [d.v] h = some (.sl (pvs d.rp) .any, h) := go32 d hfm (by omega) (by omega)
    have c55 : ∀ h, call X E (n + 2) 55 [d.v] h = some (.sl (D.vs d.subs) .any, h) := go55 d hfm (by omega) (by omega)
    have hsub : ∀ j (h : j < d.rp.length), (d.rp[j], d.subs[j]'(by rw [subs_len]; exact h)) ∈ d.parts := fun j h => by rw [← parts_get h]; exact List.getElem_mem _
    have c37 : ∀ j (h : j < d.rp.length) hh, call X E (n + 2) 37 [(d.subs[j]'(by rw [subs_len]; exact h)).v] hh = some (wres (wrongN f (d.subs[j]'(by rw [subs_len]; exact h))), hh) := fun j h => by
      have h1 := parts_mem (hsub j h)
      exact go37 f _ (D.at_fm _ _ _ (rp_at h) hfm) (by omega) (by omega) (n + 2) (by omega)
    have c65 : ∀ j (h : j < d.rp.length) q, wrongN f (d.subs[j]'(by rw [subs_len]; exact h)) = some q → ∀ hh, call X E (n + 2) 65 [pv d.rp[j], pv q] hh = some (pv (d.rp[j] ++ q), hh) := fun j h q hq => by
      have h1 := parts_mem (hsub j h)
      have h2 := wrong_len f _ q hq
      exact go65 _ _ (by omega) (by omega)
    have hnum := parts_num d
    have hpl := parts_len d
    show Gives ((n + 2) + 1) 37 [d.v] _
    generalize hnm : n + 2 = m at *
    refine gives_of rfl rfl rfl (by kernel_rfl) ⟨rfl, rfl⟩ (by simp [D.vw2, V.lows, D.low]) ?_
    by_cases h0 : d.form = 0
    · have hw : wres (wrongN (f + 1) d) = wres (some []) := by simp only [wrongN, h0, if_true]
      rw [hw]
      rw [h0] at c30
      simp -implicitDefEqProofs [x37_w, x37_r, x37r1_w, x37r2_w, x37r3_w, D.vw2, D.okc, D.rd, D.cells_len, c30, wres, pv]
      try simp [V.low, V.lows, SI.low]
    · have hw : wres (wrongN (f + 1) d) = wres (firstW (wrongN f) d.parts) := by simp only [wrongN, h0, if_false]
      rw [hw]
      have hb : (d.form == 0) = false := by simp [h0]
      simp -implicitDefEqProofs [x37_w, x37r1_w, x37r2_w, x37r4_w, x37r5_w, D.vw2, D.okc, D.rd, D.cells_len, c30, hb, c32, c55]
      refine lpk_of (J37 d (wrongN f)) d.rp.length (by omega) ⟨⟨0, by simp, by simp [upd_at], by simp⟩, by simp [upd_at], by simp [upd_at], rfl⟩ ?_
      refine jstep37 (by omega) c37 c65 (fun s h1 hb => ?_) fun s q h1 h2 h3 hb => ?_
      · obtain ⟨e, h, base, rb⟩ := s
        simp only at hb
        subst hb
        simp -implicitDefEqProofs [x37_r, x37r12_w, h1, wres]
        try simp [V.low, V.lows, SI.low]
      · obtain ⟨e, h, base, rb⟩ := s
        simp only at hb h2 h3
        subst hb
        have hlq := pv_low 0 q
        simp -implicitDefEqProofs [x37_r, h1, h2, h3, wres]
        simp [pv, V.low, V.lows, lows_I64, SI.low]
theorem go11 (d : D) (hl : d.sz < 100000000000) {n : Nat} (hn : 4 * d.sz + 200 ≤ n) : Gives (n + 1) 11 [d.v] d.chk := by
  have c20 : ∀ h, call X E n 20 [d.v] h = some (.c (.int .i64 d.ck), h) := run16 d (by omega) n (by omega)
  refine gives_of rfl rfl rfl (by kernel_rfl) ⟨rfl, rfl⟩ (by simp [D.vw2, V.lows, D.low]) ?_
  by_cases hc : d.ck = 0
  · have hb : (d.ck != 0) = false := by simp [hc]
    have c37 : ∀ h, call X E n 37 [d.v] h = some (wres (wrongN d.sz d), h) := go37 d.sz d ((D.ck_zero d).1 hc).1 (Nat.le_refl _) hl n (by omega)
    cases hw : wrongN d.sz d with
    | none =>
      have hr : d.chk = .tup [.sl [] .any, .c (.int .i64 0)] := by simp [D.chk, hc, hw]
      rw [hw] at c37
      simp only [wres] at c37
      rw [hr]
      simp -implicitDefEqProofs [x11_w, x11_r, x11r1_w, x11r2_w, x11r3_w, x11r5_w, x11r6_w, x11r8_w, D.vw2, D.okc, D.rd, D.cells_len, c20, c37, hb]
      try simp [V.low, V.lows, SI.low]
    | some p =>
      have hr : d.chk = .tup [pv p, .c (.int .i64 4)] := by simp [D.chk, hc, hw]
      rw [hw] at c37
      simp only [wres, pv] at c37
      rw [hr, pv]
      simp -implicitDefEqProofs [x11_w, x11_r, x11r1_w, x11r2_w, x11r3_w, x11r5_w, x11r6_w, x11r7_w, D.vw2, D.okc, D.rd, D.cells_len, c20, c37, hb]
      try simp [V.low, V.lows, lows_I64, SI.low]
  · have hb : (d.ck != 0) = true := by simp [hc]
    have hr : d.chk = .tup [.sl [] .any, .c (.int .i64 d.ck)] := by simp [D.chk, hc]
    rw [hr]
    simp -implicitDefEqProofs [x11_w, x11_r, x11r1_w, x11r2_w, x11r3_w, x11r4_w, D.vw2, D.okc, D.rd, D.cells_len, c20, hb]
    try simp [V.low, V.lows, SI.low]
end Go.Proofs.YtkiliokeanmagaaDoor.Ab

namespace Go.Proofs.YtkiliokeanmagaaDoor.Ab
open Go
set_option linter.unusedVariables false
set_option linter.unusedSimpArgs false
set_option maxRecDepth 8000
set_option maxHeartbeats 2000000
def walkS {σ : Type} (Z : List Int → D → σ → σ × Nat) : List (List Int × D) → σ → σ × Nat
  | [], s => (s, 0)
  | (p, x) :: r, s => if (Z p x s).2 = 0 then walkS Z r (Z p x s).1 else Z p x s
structure PartRnd {σ : Type} (n y : Nat) (caps : List V) (N : Nat) (F : σ → List O) (P W : σ → Prop) (Z : List Int → D → σ → σ × Nat) (L : List (List Int × D)) : Prop where
  len : ∀ s, (F s).length = N
  low : ∀ s, W s → (F s).all (O.low N) = true
  imp : ∀ s, P s → W s
  pres : ∀ p x, (p, x) ∈ L → ∀ s, P s → W (Z p x s).1 ∧ ((Z p x s).2 = 0 → P (Z p x s).1)
  rnd : ∀ p x, (p, x) ∈ L → ∀ s, P s → ∀ R, lowH (F s ++ .loop 0 :: R) → call X E n y (.c (.int .i64 N) :: pf p :: x.v :: caps) (F s ++ .loop 0 :: R) = some (.c (.bool ((Z p x s).2 == 0)), F (Z p x s).1 ++ .loop (Z p x s).2 :: R)
theorem low_st {σ : Type} {N : Nat} {F : σ → List O} (hlen : ∀ s, (F s).length = N) {s s' : σ} (h' : (F s').all (O.low N) = true) {o o' : O} (ho : ∀ m, O.low m o' = true) {R : List O} (hl : lowH (F s ++ o :: R)) : lowH (F s' ++ o' :: R) := by
  unfold lowH at *
  rw [List.all_append, Bool.and_eq_true, List.all_cons, Bool.and_eq_true] at *
  have e : (F s' ++ o' :: R).length = (F s ++ o :: R).length := by simp [hlen]
  rw [e]
  refine ⟨olow_mono (by simp [hlen]) h', ho _, hl.2.2⟩
theorem low_s0 {σ : Type} {N : Nat} {F : σ → List O} (hlen : ∀ s, (F s).length = N) {s : σ} (h' : (F s).all (O.low N) = true) (m : Nat) : lowH (F s ++ [.loop m]) := by
  unfold lowH
  rw [List.all_append, Bool.and_eq_true]
  exact ⟨olow_mono (by simp [hlen]) h', rfl⟩
theorem olow_loop (n m : Nat) : O.low n (.loop m) = true := rfl
open Classical in
noncomputable def Y72 {σ : Type} (F : σ → List O) (P : σ → Prop) (Z : List Int → D → σ → σ × Nat) : List Int → D → List O → Option (Bool × List O) := fun p x H =>
  if h : ∃ s, P s ∧ H = F s ++ [.loop 0] then some ((Z p x h.choose).2 == 0, F (Z p x h.choose).1 ++ [.loop (Z p x h.choose).2]) else none
theorem Y72_at {σ : Type} {n y : Nat} {caps : List V} {N : Nat} {F : σ → List O} {P W : σ → Prop} {Z : List Int → D → σ → σ × Nat} {L : List (List Int × D)} (R : PartRnd n y caps N F P W Z L) {p : List Int} {x : D} (hin : (p, x) ∈ L) {s : σ} (hs : P s) :
    Y72 F P Z p x (F s ++ [.loop 0]) = some ((Z p x s).2 == 0, F (Z p x s).1 ++ [.loop (Z p x s).2]) := by
  have h : ∃ s', P s' ∧ F s ++ [.loop 0] = F s' ++ [.loop 0] := ⟨s, hs, rfl⟩
  unfold Y72
  rw [dif_pos h]
  obtain ⟨h1, h2⟩ := h.choose_spec
  generalize h.choose = s' at *
  have a1 := R.rnd p x hin s hs [] (low_s0 R.len (R.low s (R.imp s hs)) 0)
  have a2 := R.rnd p x hin s' h1 [] (low_s0 R.len (R.low s' (R.imp s' h1)) 0)
  rw [← h2, a1] at a2
  simp only [Option.some.injEq, Prod.mk.injEq, V.c.injEq, Value.bool.injEq] at a2
  rw [← a2.1, ← a2.2]
theorem walk72 {σ : Type} {n y : Nat} {caps : List V} {N : Nat} {F : σ → List O} {P W : σ → Prop} {Z : List Int → D → σ → σ × Nat} {M : List (List Int × D)} (R : PartRnd n y caps N F P W Z M) : ∀ L : List (List Int × D), (∀ q ∈ L, q ∈ M) → ∀ s, P s →
    walkY (Y72 F P Z) L (F s ++ [.loop 0]) = some ((walkS Z L s).2 == 0, F (walkS Z L s).1 ++ [.loop (walkS Z L s).2])
  | [], _, s, hs => rfl
  | (p, x) :: L, hL, s, hs => by
    have hin := hL (p, x) (by simp)
    simp only [walkY, walkS]
    rw [Y72_at R hin hs]
    by_cases h0 : (Z p x s).2 = 0
    · rw [h0, if_pos rfl]
      exact walk72 R L (fun q hq => hL q (by simp [hq])) _ ((R.pres p x hin s hs).2 h0)
    · rw [if_neg h0]
      have hb : ((Z p x s).2 == 0) = false := by simpa using h0
      rw [hb]
theorem walkS_P {σ : Type} {P W : σ → Prop} {Z : List Int → D → σ → σ × Nat} (hPW : ∀ s, P s → W s) : ∀ L : List (List Int × D), (∀ p x, (p, x) ∈ L → ∀ s, P s → W (Z p x s).1 ∧ ((Z p x s).2 = 0 → P (Z p x s).1)) → ∀ s, P s → W (walkS Z L s).1
  | [], _, s, hs => hPW s hs
  | (p, x) :: L, hp, s, hs => by
    simp only [walkS]
    split
    · rename_i h0
      exact walkS_P hPW L (fun p x h => hp p x (by simp [h])) _ ((hp p x (by simp) s hs).2 h0)
    · exact (hp p x (by simp) s hs).1
theorem go72S {σ : Type} {d : D} {n y : Nat} {caps : List V} {N c : Nat} {F : σ → List O} {P W : σ → Prop} {Z : List Int → D → σ → σ × Nat} (hn : d.sz + 10 < n) (hl : d.sz < 1099511627776) (hy : 1000000 ≤ y) (R : PartRnd n y caps N F P W Z d.parts)
    (hc : ∀ s, P s → (F s)[c]? = some (.cells d.v.cells)) {s : σ} (hs : P s) :
    call X E (n + 1) 72 [.yld N y 2 caps, .ref c 0] (F s ++ [.loop 0]) = some (.tup [], F (walkS Z d.parts s).1 ++ [.loop (walkS Z d.parts s).2]) := by
  have hN : (F s ++ [O.loop 0]).length = N + 1 := by simp [R.len]
  have hsplit : ∀ (G H : List O), G.take (N + 1) = H → H.length = N + 1 → G = H ++ G.drop (N + 1) := fun G H h1 h2 => by rw [← h1, List.take_append_drop]
  have hwk := walk72 R _ (fun _ h => h) s hs
  have hlw : (F (walkS Z d.parts s).1 ++ [O.loop (walkS Z d.parts s).2]).all (O.low (F s ++ [O.loop 0]).length) = true := by
    have := walkS_P (Z := Z) (P := P) (W := W) R.imp d.parts R.pres s hs
    rw [hN, List.all_append, Bool.and_eq_true]
    exact ⟨olow_mono (by omega) (R.low _ this), rfl⟩
  obtain ⟨V0, hW⟩ : ∃ V0 : Bool × List O, V0 = ((walkS Z d.parts s).2 == 0, F (walkS Z d.parts s).1 ++ [.loop (walkS Z d.parts s).2]) := ⟨_, rfl⟩
  rw [← hW] at hwk
  have hW2 : F (walkS Z d.parts s).1 ++ [O.loop (walkS Z d.parts s).2] = V0.2 := by rw [hW]
  rw [hW2] at hlw ⊢
  have hlH := low_s0 R.len (R.low s (R.imp s hs)) 0
  have hPH : ∃ s', P s' ∧ F s ++ [O.loop 0] = F s' ++ [O.loop 0] := ⟨s, hs, rfl⟩
  clear hW hW2
  generalize hH0 : F s ++ [O.loop 0] = H0 at *
  have key : ∀ (hcell : ∀ G : List O, H0.length ≤ G.length → (∃ s, P s ∧ G.take H0.length = F s ++ [O.loop 0]) → G[c]? = some (.cells d.v.cells)) (hY : YAt (call X E n) (N : Int) y caps H0.length (fun H => ∃ s, P s ∧ H = F s ++ [O.loop 0]) (Y72 F P Z) d.parts),
      call X E (n + 1) 72 [.yld (N : Int).toNat y 2 caps, .ref c 0] H0 = some (.tup [], V0.2) := fun hcell hY =>
    go72 d hn hl (H := H0) (c := c) (k := (N : Int)) (Int.natCast_nonneg N) hy (Y := Y72 F P Z) (P := fun H => ∃ s, P s ∧ H = F s ++ [O.loop 0]) (W := V0) hcell hPH hY hwk hlw hlH
  rw [Int.toNat_natCast] at key
  refine key ?_ ?_
  · rintro G hG ⟨s', h1, h2⟩
    rw [hN] at h2 hG
    have hcs := hc s' h1
    have hcl := (List.getElem?_eq_some_iff.1 hcs).1
    rw [R.len] at hcl
    have : G[c]? = (G.take (N + 1))[c]? := by rw [List.getElem?_take, if_pos (by omega)]
    rw [this, h2, List.getElem?_append_left (by rw [R.len]; exact hcl)]
    exact hcs
  · rintro p x hin H H' b hH ⟨s', h1, rfl⟩ hq
    rw [Y72_at R hin h1] at hq
    simp only [Option.some.injEq, Prod.mk.injEq] at hq
    obtain ⟨rfl, rfl⟩ := hq
    have hl' : (F (Z p x s').1 ++ [O.loop (Z p x s').2]).length = N + 1 := by simp [R.len]
    rw [hN] at hH ⊢
    refine ⟨hl', fun h0 => ⟨_, (R.pres p x hin s' h1).2 (by simpa using h0), by rw [show (Z p x s').2 = 0 by simpa using h0]⟩, fun G hg hlG => ?_⟩
    have hGs := hsplit G _ hg (by simp [R.len])
    rw [hGs] at hlG
    rw [List.append_assoc, List.singleton_append] at hlG
    have h3 := R.rnd p x hin s' h1 (G.drop (N + 1)) hlG
    have h4 := low_st R.len (R.low _ (R.pres p x hin s' h1).1) (o' := .loop (Z p x s').2) (fun m => olow_loop m _) hlG
    rw [List.append_assoc, List.singleton_append]
    refine ⟨?_, h4⟩
    rw [← h3]
    congr 1
    rw [hGs, List.append_assoc, List.singleton_append]
    congr 2
    rw [← List.singleton_append, ← List.append_assoc, List.drop_left' (by simp [R.len])]
theorem wpk_parts {σ : Type} {d : D} {n y nt : Nat} {us : List Nat} {N c : Nat} {F : σ → List O} {P W : σ → Prop} {Z : List Int → D → σ → σ × Nat} {f : A} {K : List Fr} {Q : Ex → SF → Prop} {s : SF} {s0 : σ} (hf : callee (f.val s.e) = some (72, [.ref c 0]))
    (hn : d.sz + 10 < n) (hl : d.sz < 1099511627776) (hy : 1000000 ≤ y) (R : PartRnd n y (keepE nt us s.e) N F P W Z d.parts) (hh : s.h = F s0) (hc : ∀ s, P s → (F s)[c]? = some (.cells d.v.cells)) (hs : P s0)
    (hq : ∀ s1, W s1 → ∀ m, walkS Z d.parts s0 = (s1, m) → ∃ e, Ex.ofNum m = some e ∧ retk (call X E (n + 1)) (n + 1) K Q e ⟨s.e, F s1 ++ [.loop 2], s.base, s.rb⟩) : wpk (call X E (n + 1)) (n + 1) (.rangeF f y 2 nt us) K Q s := by
  have hlen : s.h.length = N := by rw [hh, R.len]
  have hp := walkS_P (Z := Z) (P := P) (W := W) R.imp d.parts R.pres s0 hs
  have h72 := go72S hn hl hy R hc hs
  obtain ⟨e, he, hr⟩ := hq _ hp _ rfl
  refine wpk_range f y 2 nt us hf (by decide) hy (h' := F (walkS Z d.parts s0).1 ++ [.loop (walkS Z d.parts s0).2]) (e := e) (r := .tup []) ?_ ?_ ?_
  · rw [hlen, hh]
    exact h72
  · rw [hlen, List.getElem?_append_right (by rw [R.len]; exact Nat.le_refl _), R.len, Nat.sub_self]
    exact he
  · rw [hlen, List.set_append_right _ _ (by rw [R.len]; exact Nat.le_refl _), R.len, Nat.sub_self]
    exact hr
end Go.Proofs.YtkiliokeanmagaaDoor.Ab

namespace Go.Proofs.YtkiliokeanmagaaDoor.Ab
open Go
set_option linter.defProp false
section
variable (cf : CallF) (n : Nat) (s : SF) (K : List Fr) (Q : Ex → SF → Prop)
def x18r1_w := rK cf n s K Q x18r1 rfl
def x18r2_w := rK cf n s K Q x18r2 rfl
def x18r3_w := rK cf n s K Q x18r3 rfl
def x18r4_w := rK cf n s K Q x18r4 rfl
def x18r5_w := rK cf n s K Q x18r5 rfl
def x18r6_w := rK cf n s K Q x18r6 rfl
def x18r7_w := rK cf n s K Q x18r7 rfl
def x18r8_w := rK cf n s K Q x18r8 rfl
def x18r9_w := rK cf n s K Q x18r9 rfl
def x18l10_w := lK cf n s K Q x18l10 rfl
def x18r11_w := rK cf n s K Q x18r11 rfl
def x18_w := bK cf n s K Q x18 rfl
def x18_r := bR x18 rfl
def x1001800r1_w := rK cf n s K Q x1001800r1 rfl
def x1001800r2_w := rK cf n s K Q x1001800r2 rfl
def x1001800r3_w := rK cf n s K Q x1001800r3 rfl
def x1001800r4_w := rK cf n s K Q x1001800r4 rfl
def x1001800_w := bK cf n s K Q x1001800 rfl
def x21r1_w := rK cf n s K Q x21r1 rfl
def x21r2_w := rK cf n s K Q x21r2 rfl
def x21r3_w := rK cf n s K Q x21r3 rfl
def x21r4_w := rK cf n s K Q x21r4 rfl
def x21r5_w := rK cf n s K Q x21r5 rfl
def x21r6_w := rK cf n s K Q x21r6 rfl
def x21r7_w := rK cf n s K Q x21r7 rfl
def x21_w := bK cf n s K Q x21 rfl
def x21_r := bR x21 rfl
def x22r1_w := rK cf n s K Q x22r1 rfl
def x22r2_w := rK cf n s K Q x22r2 rfl
def x22r3_w := rK cf n s K Q x22r3 rfl
def x22r4_w := rK cf n s K Q x22r4 rfl
def x22r5_w := rK cf n s K Q x22r5 rfl
def x22r6_w := rK cf n s K Q x22r6 rfl
def x22r7_w := rK cf n s K Q x22r7 rfl
def x22_w := bK cf n s K Q x22 rfl
def x22_r := bR x22 rfl
def x46r1_w := rK cf n s K Q x46r1 rfl
def x46r2_w := rK cf n s K Q x46r2 rfl
def x46r3_w := rK cf n s K Q x46r3 rfl
def x46r4_w := rK cf n s K Q x46r4 rfl
def x46r5_w := rK cf n s K Q x46r5 rfl
def x46r6_w := rK cf n s K Q x46r6 rfl
def x46r7_w := rK cf n s K Q x46r7 rfl
def x46r8_w := rK cf n s K Q x46r8 rfl
def x46r9_w := rK cf n s K Q x46r9 rfl
def x46l10_w := lK cf n s K Q x46l10 rfl
def x46r11_w := rK cf n s K Q x46r11 rfl
def x46_w := bK cf n s K Q x46 rfl
def x46_r := bR x46 rfl
def x51r1_w := rK cf n s K Q x51r1 rfl
def x51r2_w := rK cf n s K Q x51r2 rfl
def x51r3_w := rK cf n s K Q x51r3 rfl
def x51r4_w := rK cf n s K Q x51r4 rfl
def x51r5_w := rK cf n s K Q x51r5 rfl
def x51_w := bK cf n s K Q x51 rfl
def x51_r := bR x51 rfl
def x1005100r1_w := rK cf n s K Q x1005100r1 rfl
def x1005100r2_w := rK cf n s K Q x1005100r2 rfl
def x1005100r3_w := rK cf n s K Q x1005100r3 rfl
def x1005100_w := bK cf n s K Q x1005100 rfl
def x52r1_w := rK cf n s K Q x52r1 rfl
def x52r2_w := rK cf n s K Q x52r2 rfl
def x52r3_w := rK cf n s K Q x52r3 rfl
def x52_w := bK cf n s K Q x52 rfl
def x52_r := bR x52 rfl
def x53r1_w := rK cf n s K Q x53r1 rfl
def x53r2_w := rK cf n s K Q x53r2 rfl
def x53_w := bK cf n s K Q x53 rfl
def x53_r := bR x53 rfl
end
end Go.Proofs.YtkiliokeanmagaaDoor.Ab

namespace Go.Proofs.YtkiliokeanmagaaDoor.Ab
open Go
set_option linter.unusedVariables false
set_option linter.unusedSimpArgs false
set_option maxRecDepth 8000
set_option maxHeartbeats 2000000
structure CloAt {τ : Type} (n q : Nat) (caps : List V) (M : Nat) (St : τ → List O) (P : τ → Prop) (Y : D → τ → Bool × τ) (m : Nat) : Prop where
  hq : q < 1000000
  len : ∀ t, (St t).length = M
  low : ∀ t, P t → (St t).all (O.low M) = true
  cap : V.lows M caps = true
  pres : ∀ x : D, x.sz ≤ m → ∀ t, P t → P (Y x t).2
  clo : ∀ x : D, x.sz ≤ m → ∀ t, P t → ∀ R, lowH (St t ++ R) → call X E n q (x.v :: caps) (St t ++ R) = some (.c (.bool (Y x t).1), St (Y x t).2 ++ R)
def eacL {τ : Type} (g : D → τ → Bool × τ) : List (List Int × D) → τ → Bool × τ
  | [], t => (true, t)
  | (_, x) :: r, t => if (g x t).1 = true then eacL g r (g x t).2 else (false, (g x t).2)
def eacN {τ : Type} (Y : D → τ → Bool × τ) : Nat → D → τ → Bool × τ
  | 0, _, t => (true, t)
  | f + 1, d, t => if (Y d t).1 = true then eacL (eacN Y f) d.parts (Y d t).2 else (false, (Y d t).2)
theorem eacL_P {τ : Type} {P : τ → Prop} {g : D → τ → Bool × τ} : ∀ L : List (List Int × D), (∀ p x, (p, x) ∈ L → ∀ t, P t → P (g x t).2) → ∀ t, P t → P (eacL g L t).2
  | [], _, t, h => h
  | (p, x) :: L, hg, t, h => by
    simp only [eacL]
    split
    · exact eacL_P L (fun p x h => hg p x (by simp [h])) _ (hg p x (by simp) t h)
    · exact hg p x (by simp) t h
theorem eacN_P {τ : Type} {P : τ → Prop} {Y : D → τ → Bool × τ} {m : Nat} (hY : ∀ x : D, x.sz ≤ m → ∀ t, P t → P (Y x t).2) : ∀ (f : Nat) (d : D), d.sz ≤ m → ∀ t, P t → P (eacN Y f d t).2
  | 0, _, _, t, h => h
  | f + 1, d, hd, t, h => by
    simp only [eacN]
    split
    · exact eacL_P _ (fun p x hx t ht => eacN_P hY f x (by have := parts_mem hx; omega) t ht) _ (hY d hd t h)
    · exact hY d hd t h
theorem low_ext3 {τ : Type} {M : Nat} {St : τ → List O} (hlen : ∀ t, (St t).length = M) {t t' : τ} (h' : (St t').all (O.low M) = true) {R : List O} (hl : lowH (St t ++ R)) : lowH (St t' ++ R) := by
  unfold lowH at *
  rw [List.all_append, Bool.and_eq_true] at *
  have e : (St t' ++ R).length = (St t ++ R).length := by simp [hlen]
  rw [e]
  exact ⟨olow_mono (by simp [hlen]) h', hl.2⟩
theorem low_app {h T : List O} (hl : lowH h) (hT : T.all (O.low (h ++ T).length) = true) : lowH (h ++ T) := by
  unfold lowH at *
  rw [List.all_append, Bool.and_eq_true]
  exact ⟨olow_mono (by simp) hl, hT⟩
theorem set_m1 (h : List O) (a b x : O) (t : List O) : (h ++ a :: b :: t).set (h.length + 1) x = h ++ a :: x :: t := by
  rw [List.set_append_right _ _ (by omega)]; simp
theorem set_m2 (h : List O) (a b c x : O) (t : List O) : (h ++ a :: b :: c :: t).set (h.length + 2) x = h ++ a :: b :: x :: t := by
  rw [List.set_append_right _ _ (by omega)]; simp
theorem get_m3 (h : List O) (a b c e : O) (t : List O) : (h ++ a :: b :: c :: e :: t)[h.length + 3]? = some e := by
  rw [List.getElem?_append_right (by omega)]; simp
theorem get_m4 (h : List O) (a b c e f : O) (t : List O) : (h ++ a :: b :: c :: e :: f :: t)[h.length + 4]? = some f := by
  rw [List.getElem?_append_right (by omega)]; simp
theorem set_m4 (h : List O) (a b c e f x : O) (t : List O) : (h ++ a :: b :: c :: e :: f :: t).set (h.length + 4) x = h ++ a :: b :: c :: e :: x :: t := by
  rw [List.set_append_right _ _ (by omega)]; simp
theorem round51 {n q : Nat} {caps : List V} {L : Nat} {e : Nat → V} (e3 : e 3 = .ref (L + 1) 0) (e4 : e 4 = .ref (L + 2) 0) {p : List Int} {x : D} {G G1 : List O} (hG : G.length = L) (hG1 : G1.length = L) {b0 b : Bool} {c0 c3 : O} {R : List O}
    (h51 : ∀ T, lowH (G ++ T) → call X E n 51 [x.v, .clo q caps] (G ++ T) = some (.c (.bool b), G1 ++ T)) (hlow : lowH (G ++ c0 :: .cells [.clo q caps] :: .cells [.c (.bool b0)] :: c3 :: .loop 0 :: R))
    (hlow1 : lowH (G1 ++ c0 :: .cells [.clo q caps] :: .cells [.c (.bool b0)] :: c3 :: .loop 0 :: R)) :
    call X E (n + 1) 1005100 (.c (.int .i64 ((L + 4 : Nat) : Int)) :: pf p :: x.v :: keepE 19 [3, 4] e) (G ++ c0 :: .cells [.clo q caps] :: .cells [.c (.bool b0)] :: c3 :: .loop 0 :: R) =
      some (.c (.bool b), G1 ++ c0 :: .cells [.clo q caps] :: .cells [.c (.bool (b && b0))] :: c3 :: .loop (if b then 0 else 3) :: R) := by
  have hE : E 1005100 = none := rfl
  have hX : X 1005100 = some x1005100 := rfl
  have hA : x1005100.asg = some ([13, 14], x1005100r3) := rfl
  simp only [call, hE, hX, hA]
  rw [if_pos (by simp [hG]; omega)]
  have t14 : toE (((keepE 19 [3, 4] e).set 13 (pf p)).set 14 x.v) 14 = x.v := rfl
  have t3 : toE (((keepE 19 [3, 4] e).set 13 (pf p)).set 14 x.v) 3 = .ref (L + 1) 0 := e3
  have t4 : toE (((keepE 19 [3, 4] e).set 13 (pf p)).set 14 x.v) 4 = .ref (L + 2) 0 := e4
  refine round_at (tm := (((keepE 19 [3, 4] e).set 13 (pf p)).set 14 x.v)) rfl (by kernel_rfl) (by kernel_rfl) ?_
  generalize toE (((keepE 19 [3, 4] e).set 13 (pf p)).set 14 x.v) = e0 at *
  subst hG
  have hend : ∀ (K : List O) (a1 a2 a3 a4 a5 z : O), K.length = G.length → (K ++ a1 :: a2 :: a3 :: a4 :: a5 :: (R ++ [z]))[G.length + (R.length + 1 + 1 + 1 + 1 + 1)]? = some z := fun K a1 a2 a3 a4 a5 z hK => by
    rw [← hK, show K ++ a1 :: a2 :: a3 :: a4 :: a5 :: (R ++ [z]) = (K ++ a1 :: a2 :: a3 :: a4 :: a5 :: R) ++ [z] by simp, List.getElem?_append_right (by simp)]
    simp [hK]
  have send : ∀ (a1 a2 a3 a4 a5 z w : O), (G ++ a1 :: a2 :: a3 :: a4 :: a5 :: (R ++ [z])).set (G.length + (R.length + 1 + 1 + 1 + 1 + 1)) w = G ++ a1 :: a2 :: a3 :: a4 :: a5 :: (R ++ [w]) := fun a1 a2 a3 a4 a5 z w => by
    rw [show G ++ a1 :: a2 :: a3 :: a4 :: a5 :: (R ++ [z]) = (G ++ a1 :: a2 :: a3 :: a4 :: a5 :: R) ++ [z] by simp, List.set_append_right _ _ (by simp)]
    simp
  have htk : ∀ (a1 a2 a3 a4 a5 z : O), (G1 ++ a1 :: a2 :: a3 :: a4 :: a5 :: (R ++ [z])).take (G.length + (R.length + 1 + 1 + 1 + 1 + 1)) = G1 ++ a1 :: a2 :: a3 :: a4 :: a5 :: R := fun a1 a2 a3 a4 a5 z => by
    rw [show G1 ++ a1 :: a2 :: a3 :: a4 :: a5 :: (R ++ [z]) = (G1 ++ a1 :: a2 :: a3 :: a4 :: a5 :: R) ++ [z] by simp, List.take_left' (by simp [hG1])]
  have g1 : ∀ (a b : O) t, (G1 ++ a :: b :: t)[G.length + 1]? = some b := fun a b t => by rw [← hG1]; exact get_m1 ..
  have g2 : ∀ (a b c : O) t, (G1 ++ a :: b :: c :: t)[G.length + 2]? = some c := fun a b c t => by rw [← hG1]; exact get_m2 ..
  have g4 : ∀ (a b c d f : O) t, (G1 ++ a :: b :: c :: d :: f :: t)[G.length + 4]? = some f := fun a b c d f t => by rw [← hG1]; exact get_m4 ..
  have s2 : ∀ (a b c x : O) t, (G1 ++ a :: b :: c :: t).set (G.length + 2) x = G1 ++ a :: b :: x :: t := fun a b c x t => by rw [← hG1]; exact set_m2 ..
  have s4 : ∀ (a b c d f x : O) t, (G1 ++ a :: b :: c :: d :: f :: t).set (G.length + 4) x = G1 ++ a :: b :: c :: d :: x :: t := fun a b c d f x t => by rw [← hG1]; exact set_m4 ..
  have hlT : lowH (G ++ c0 :: .cells [.clo q caps] :: .cells [.c (.bool b0)] :: c3 :: .loop 1 :: (R ++ [.cells x.v.cells])) := by
    unfold lowH at hlow ⊢
    simp only [List.all_append, List.all_cons, Bool.and_eq_true] at hlow ⊢
    obtain ⟨h1, h2, h3, h4, h5, h6, h7⟩ := hlow
    have hle : (G ++ c0 :: O.cells [.clo q caps] :: O.cells [.c (.bool b0)] :: c3 :: O.loop 0 :: R).length ≤ (G ++ c0 :: O.cells [.clo q caps] :: O.cells [.c (.bool b0)] :: c3 :: O.loop 1 :: (R ++ [O.cells x.v.cells])).length := by simp
    exact ⟨olow_mono hle h1, olow1 hle h2, olow1 hle h3, olow1 hle h4, olow1 hle h5, rfl, olow_mono hle h7, by rw [olow_cells]; exact D.low_cells _ x, rfl⟩
  have h51' := h51 _ hlT
  have hk4 : ((G.length : Int) + 4).toNat = G.length + 4 := by omega
  have hlow2 : ∀ m v, (G1 ++ c0 :: .cells [.clo q caps] :: .cells [.c (.bool v)] :: c3 :: .loop m :: R).all (O.low (G.length + (R.length + 1 + 1 + 1 + 1 + 1))) = true := fun m v => by
    unfold lowH at hlow1
    have hle : (G1 ++ c0 :: O.cells [.clo q caps] :: O.cells [.c (.bool b0)] :: c3 :: O.loop 0 :: R).length = (G.length + (R.length + 1 + 1 + 1 + 1 + 1)) := by simp [hG1]
    rw [hle] at hlow1
    simp only [List.all_append, List.all_cons, Bool.and_eq_true] at hlow1 ⊢
    obtain ⟨h1, h2, h3, h4, h5, h6, h7⟩ := hlow1
    exact ⟨h1, h2, h3, rfl, h5, rfl, h7⟩
  have hlen1 : G.length + (R.length + 1 + 1 + 1 + 1 + 1 + 1) ≤ G1.length + (R.length + 1 + 1 + 1 + 1 + 1 + 1) := by omega
  refine wpk_of ?_
  cases b with
  | true =>
    simp -implicitDefEqProofs [x1005100_w, x1005100r1_w, x1005100r2_w, x1005100r3_w, t14, e3, e4, D.okc, D.spl, D.cells_len, hend, send, get_m4, set_m4, hk4]
    refine wpk_of ?_
    simp -implicitDefEqProofs [x1005100_w, x1005100r1_w, x1005100r2_w, t14, t3, t4, D.rd, D.okc, D.cells_len, hend, get_m1, get_m2, get_m4, set_m4, h51', hlen1, g4, s4, htk, Ex.num, hG1, hk4]
    simpa using hlow2 0 b0
  | false =>
    simp -implicitDefEqProofs [x1005100_w, x1005100r1_w, x1005100r2_w, x1005100r3_w, t14, e3, e4, D.okc, D.spl, D.cells_len, hend, send, get_m4, set_m4, hk4]
    refine wpk_of ?_
    simp -implicitDefEqProofs [x1005100_w, x1005100r1_w, x1005100r2_w, t14, t3, t4, D.rd, D.okc, D.cells_len, hend, get_m1, get_m2, get_m4, set_m4, h51', hlen1, g2, s2, g4, s4, htk, Ex.num, hG1, hk4]
    simpa using hlow2 3 false
end Go.Proofs.YtkiliokeanmagaaDoor.Ab

namespace Go.Proofs.YtkiliokeanmagaaDoor.Ab
open Go
set_option linter.unusedVariables false
set_option linter.unusedSimpArgs false
set_option maxRecDepth 8000
set_option maxHeartbeats 2000000
def Z51 {τ : Type} (g : D → τ → Bool × τ) : List Int → D → τ × Bool → (τ × Bool) × Nat := fun _ x s => if (g x s.1).1 = true then (((g x s.1).2, s.2), 0) else (((g x s.1).2, false), 3)
theorem walk51 {τ : Type} (g : D → τ → Bool × τ) : ∀ (L : List (List Int × D)) (t : τ), walkS (Z51 g) L (t, false) = (((eacL g L t).2, false), if (eacL g L t).1 = true then 0 else 3)
  | [], t => rfl
  | (p, x) :: L, t => by
    simp only [walkS, eacL, Z51]
    by_cases h : (g x t).1 = true
    · simp only [h, if_true]
      exact walk51 g L _
    · simp [h]
theorem call_run {n f : Nat} {xf : XF} {args : List V} {h : List O} (hE : E f = none) (hX : X f = some xf) (ha : xf.asg = none) : call X E (n + 1) f args h = runF (call X E n) n xf args h := by
  simp only [call, hE, hX, ha]
theorem go51 {τ : Type} {n0 q : Nat} {caps : List V} {M : Nat} {St : τ → List O} {P : τ → Prop} {Y : D → τ → Bool × τ} {m : Nat} (C : CloAt n0 q caps M St P Y m) (hm : m < 100000000000) : ∀ (f : Nat) (d : D), d.sz ≤ f → d.sz ≤ m → ∀ n, n0 + 4 * d.sz + 60 ≤ n → ∀ t, P t → ∀ R, lowH (St t ++ R) →
    call X E n 51 [d.v, .clo q caps] (St t ++ R) = some (.c (.bool (eacN Y f d t).1), St (eacN Y f d t).2 ++ R)
  | 0, d, h, _, _, _, _, _, _, _ => by have := D.sz_pos d; omega
  | f + 1, d, hf, hd, n, hn, t, ht, R, hl => by
    obtain ⟨n, rfl⟩ : ∃ n', n = n' + 3 := ⟨n - 3, by omega⟩
    have hE : E 51 = none := rfl
    have hX : X 51 = some x51 := rfl
    have hclo : ∀ T, lowH ((St t ++ R) ++ T) → call X E (n + 2) q (d.v :: caps) ((St t ++ R) ++ T) = some (.c (.bool (Y d t).1), (St (Y d t).2 ++ R) ++ T) := fun T hT => by
      rw [List.append_assoc] at hT ⊢
      rw [List.append_assoc]
      exact up (by omega) (C.clo d hd t ht (R ++ T) hT)
    have c45 : ∀ h, call X E (n + 2) 45 [d.v] h = some (.clo 72 [.ref h.length 0], h ++ [.cells d.v.cells]) := go45 d
    have hP1 := C.pres d hd t ht
    have hlen1 : (St (Y d t).2 ++ R).length = (St t ++ R).length := by simp [C.len]
    have hlow1 : lowH (St (Y d t).2 ++ R) := low_ext3 C.len (C.low _ hP1) hl
    have hcapL : V.lows ((St t ++ R).length + 1 + 1 + 1) caps = true := lows_mono (by simp [C.len]; omega) _ C.cap
    have IH : ∀ p x, (p, x) ∈ d.parts → ∀ t, P t → ∀ R, lowH (St t ++ R) → call X E n 51 [x.v, .clo q caps] (St t ++ R) = some (.c (.bool (eacN Y f x t).1), St (eacN Y f x t).2 ++ R) := fun p x hin => by
      have h1 := parts_mem hin
      exact go51 C hm f x (by omega) (by omega) n (by omega)
    have hr51 : eacN Y (f + 1) d t = if (Y d t).1 = true then eacL (eacN Y f) d.parts (Y d t).2 else (false, (Y d t).2) := rfl
    have hP2 : P (eacN Y (f + 1) d t).2 := eacN_P C.pres (f + 1) d hd t ht
    have hlow2 : lowH (St (eacN Y (f + 1) d t).2 ++ R) := low_ext3 C.len (C.low _ hP2) hl
    have hlen2 : (St (eacN Y (f + 1) d t).2 ++ R).length = (St t ++ R).length := by simp [C.len]
    rw [show n + 3 = (n + 2) + 1 from rfl, call_run hE hX rfl]
    refine runF_at (by kernel_rfl) rfl rfl (wpk_of ?_)
    have hvw : ([d.v, .clo q caps] : List V).map V.vw2 = [d.v, .clo q caps] := by simp [D.vw2, vw2_clo]
    rw [hvw]
    show wpk (call X E (n + 1 + 1)) (n + 1 + 1) _ _ _ _
    have hlT : lowH ((St t ++ R) ++ [.cells d.v.cells, .cells [.clo q caps], .cells [.c (.bool false)]]) := by
      refine low_app hl ?_
      simp only [List.all_cons, List.all_nil, Bool.and_true, Bool.and_eq_true, olow_cells, List.length_append, List.length_cons, List.length_nil]
      refine ⟨D.low_cells _ d, ?_, rfl⟩
      simp only [V.lows, V.low, Bool.and_true]
      exact lows_mono (by simp [C.len]; omega) _ C.cap
    have hcl := hclo _ hlT
    have hq := C.hq
    obtain ⟨k, hk⟩ : ∃ k, k = n + 1 := ⟨_, rfl⟩
    rw [← hk]
    rw [show n + 2 = k + 1 by omega] at hcl c45
    generalize hG : St t ++ R = G at *
    generalize hG1 : St (Y d t).2 ++ R = G1 at *
    generalize hG2 : St (eacN Y (f + 1) d t).2 ++ R = G2 at *
    have hl2 : ∀ x ∈ G2, O.low G.length x = true := by
      have := hlow2
      unfold lowH at this
      rw [hlen2] at this
      simpa using this
    have g2 : ∀ (a b c : O) T, (G2 ++ a :: b :: c :: T)[G.length + 2]? = some c := fun a b c T => by rw [← hlen2]; exact get_m2 ..
    have s2 : ∀ (a b c x : O) T, (G2 ++ a :: b :: c :: T).set (G.length + 2) x = G2 ++ a :: b :: x :: T := fun a b c x T => by rw [← hlen2]; exact set_m2 ..
    have tk : ∀ T, (G2 ++ T).take G.length = G2 := fun T => List.take_left' hlen2
    by_cases hy : (Y d t).1 = true
    · rw [hy] at hcl
      rw [hy, if_pos rfl] at hr51
      have hle : G.length + 3 ≤ G1.length + 3 := by omega
      simp -implicitDefEqProofs [x51_w, x51r1_w, x51r2_w, x51r4_w, D.okc, D.cells_len, D.rd, get_m, get_m1, get_m2, set_m, set_m1, set_m2, hcl, hq, hle, hlen1, c45]
      refine wpk_parts (σ := τ × Bool) (d := d) (n := k) (c := G.length + 3) (N := G.length + 4) (F := fun s => St s.1 ++ (R ++ [.cells d.v.cells, .cells [.clo q caps], .cells [.c (.bool s.2)], .cells d.v.cells])) (P := fun s => P s.1) (W := fun s => P s.1) (Z := Z51 (eacN Y f)) (s0 := ((Y d t).2, false)) rfl (by omega) (by omega) (by decide) ⟨?_, ?_, fun _ h => h, ?_, ?_⟩ ?_ ?_ hP1 ?_
      · intro s
        rw [← hG]
        simp [C.len]
        omega
      · rintro ⟨t1, b⟩ h1
        simp only at h1 ⊢
        have hRl : R.all (O.low (G.length + 4)) = true := by
          have := hl
          unfold lowH at this
          rw [← hG, List.all_append, Bool.and_eq_true] at this
          rw [← hG]
          exact olow_mono (by omega) this.2
        simp only [List.all_append, List.all_cons, List.all_nil, Bool.and_true, Bool.and_eq_true, olow_cells, D.low_cells, true_and]
        have hMG : M ≤ G.length + 4 := by rw [← hG]; simp [C.len]; omega
        refine ⟨olow_mono hMG (C.low t1 h1), hRl, ?_⟩
        simp [V.lows, V.low]
        exact lows_mono hMG _ C.cap
      · intro p x hin s hs
        have h1 := parts_mem hin
        have := eacN_P C.pres f x (by omega) s.1 hs
        unfold Z51
        split <;> exact ⟨this, fun _ => this⟩
      · rintro p x hin ⟨t1, b⟩ hs T hT
        have h1 := parts_mem hin
        have hsz : (St t1 ++ R).length = G.length := by rw [← hG]; simp [C.len]
        have hsz1 : (St (eacN Y f x t1).2 ++ R).length = G.length := by rw [← hG]; simp [C.len]
        have hP3 := eacN_P C.pres f x (by omega) t1 hs
        have h51 : ∀ T, lowH ((St t1 ++ R) ++ T) → call X E n 51 [x.v, .clo q caps] ((St t1 ++ R) ++ T) = some (.c (.bool (eacN Y f x t1).1), (St (eacN Y f x t1).2 ++ R) ++ T) := fun T hT => by
          rw [List.append_assoc] at hT ⊢
          rw [List.append_assoc]
          exact IH p x hin t1 hs (R ++ T) hT
        have hre : ∀ (t2 : τ) (b2 : Bool) (o : O), (St t2 ++ (R ++ [O.cells d.v.cells, .cells [.clo q caps], .cells [.c (.bool b2)], .cells d.v.cells])) ++ o :: T = (St t2 ++ R) ++ .cells d.v.cells :: .cells [.clo q caps] :: .cells [.c (.bool b2)] :: .cells d.v.cells :: o :: T := fun t2 b2 o => by simp
        simp only [hre] at hT ⊢
        have hT1 : lowH ((St (eacN Y f x t1).2 ++ R) ++ .cells d.v.cells :: .cells [.clo q caps] :: .cells [.c (.bool b)] :: .cells d.v.cells :: .loop 0 :: T) := by
          rw [List.append_assoc] at hT ⊢
          exact low_ext3 C.len (C.low _ hP3) hT
        subst hk
        refine (round51 (q := q) (caps := caps) (L := G.length) ?_ ?_ hsz hsz1 h51 hT hT1).trans ?_
        · simp [upd_at]
        · simp [upd_at]
        · unfold Z51
          cases hb : (eacN Y f x t1).1 with
          | true => simp [hb]
          | false => simp [hb]
      · simp [← hG1]
      · rintro ⟨t1, b⟩ h1
        have hsz : (St t1 ++ R).length = G.length := by rw [← hG]; simp [C.len]
        simp only
        rw [← hsz, show St t1 ++ (R ++ [O.cells d.v.cells, .cells [.clo q caps], .cells [.c (.bool b)], .cells d.v.cells]) = (St t1 ++ R) ++ [O.cells d.v.cells, .cells [.clo q caps], .cells [.c (.bool b)], .cells d.v.cells] by simp]
        exact get_m3 ..
      · rintro ⟨t1, b⟩ h1 m1 hw
        rw [walk51] at hw
        have hsz : (St t1 ++ R).length = G.length := by rw [← hG]; simp [C.len]
        by_cases hb : (eacL (eacN Y f) d.parts (Y d t).2).1 = true
        · rw [if_pos hb] at hw
          simp only [Prod.mk.injEq] at hw
          obtain ⟨⟨h2, rfl⟩, rfl⟩ := hw
          refine ⟨.normal, rfl, ?_⟩
          have he : eacN Y (f + 1) d t = (true, t1) := by rw [hr51]; exact Prod.ext hb h2
          have hgt : St t1 ++ R = G2 := by rw [← hG2, he]
          have hheap : St t1 ++ (R ++ [O.cells d.v.cells, .cells [.clo q caps], .cells [.c (.bool false)], .cells d.v.cells]) ++ [O.loop 2] = G2 ++ [O.cells d.v.cells, .cells [.clo q caps], .cells [.c (.bool false)], .cells d.v.cells, .loop 2] := by rw [← hgt]; simp
          simp only [hheap, he]
          simp -implicitDefEqProofs [x51r5_w, x51_r, g2, s2, tk]
          exact hl2
        · rw [if_neg hb] at hw
          simp only [Prod.mk.injEq] at hw
          obtain ⟨⟨h2, rfl⟩, rfl⟩ := hw
          refine ⟨.ret, rfl, ?_⟩
          have hb' : (eacL (eacN Y f) d.parts (Y d t).2).1 = false := by simpa using hb
          have he : eacN Y (f + 1) d t = (false, t1) := by rw [hr51]; exact Prod.ext hb' h2
          have hgt : St t1 ++ R = G2 := by rw [← hG2, he]
          have hheap : St t1 ++ (R ++ [O.cells d.v.cells, .cells [.clo q caps], .cells [.c (.bool false)], .cells d.v.cells]) ++ [O.loop 2] = G2 ++ [O.cells d.v.cells, .cells [.clo q caps], .cells [.c (.bool false)], .cells d.v.cells, .loop 2] := by rw [← hgt]; simp
          simp only [hheap, he]
          simp -implicitDefEqProofs [x51_r, g2, s2, tk]
          exact hl2
    · have hy' : (Y d t).1 = false := by simpa using hy
      rw [hy'] at hcl
      rw [hy', if_neg (by simp)] at hr51
      have hgt : G1 = G2 := by rw [← hG2, hr51, ← hG1]
      have hle : G.length + 3 ≤ G1.length + 3 := by omega
      subst hgt
      simp -implicitDefEqProofs [x51_w, x51_r, x51r1_w, x51r2_w, x51r3_w, D.okc, D.cells_len, D.rd, get_m, get_m1, get_m2, set_m, set_m1, set_m2, hcl, hq, hle, hlen1, g2, s2, tk, hr51]
      exact hl2
end Go.Proofs.YtkiliokeanmagaaDoor.Ab

namespace Go.Proofs.YtkiliokeanmagaaDoor.Ab
open Go
set_option linter.defProp false
section
variable (cf : CallF) (n : Nat) (s : SF) (K : List Fr) (Q : Ex → SF → Prop)
def x6r1_w := rK cf n s K Q x6r1 rfl
def x6r2_w := rK cf n s K Q x6r2 rfl
def x6r3_w := rK cf n s K Q x6r3 rfl
def x6r4_w := rK cf n s K Q x6r4 rfl
def x6r5_w := rK cf n s K Q x6r5 rfl
def x6r6_w := rK cf n s K Q x6r6 rfl
def x6r7_w := rK cf n s K Q x6r7 rfl
def x6r8_w := rK cf n s K Q x6r8 rfl
def x6r9_w := rK cf n s K Q x6r9 rfl
def x6r10_w := rK cf n s K Q x6r10 rfl
def x6r12_w := rK cf n s K Q x6r12 rfl
def x6r13_w := rK cf n s K Q x6r13 rfl
def x6r14_w := rK cf n s K Q x6r14 rfl
def x6_w := bK cf n s K Q x6 rfl
def x6_r := bR x6 rfl
def x23r1_w := rK cf n s K Q x23r1 rfl
def x23r2_w := rK cf n s K Q x23r2 rfl
def x23r3_w := rK cf n s K Q x23r3 rfl
def x23r4_w := rK cf n s K Q x23r4 rfl
def x23r5_w := rK cf n s K Q x23r5 rfl
def x23r6_w := rK cf n s K Q x23r6 rfl
def x23r7_w := rK cf n s K Q x23r7 rfl
def x23l8_w := lK cf n s K Q x23l8 rfl
def x23r9_w := rK cf n s K Q x23r9 rfl
def x23_w := bK cf n s K Q x23 rfl
def x23_r := bR x23 rfl
def x24r1_w := rK cf n s K Q x24r1 rfl
def x24r2_w := rK cf n s K Q x24r2 rfl
def x24r3_w := rK cf n s K Q x24r3 rfl
def x24r4_w := rK cf n s K Q x24r4 rfl
def x24r5_w := rK cf n s K Q x24r5 rfl
def x24r6_w := rK cf n s K Q x24r6 rfl
def x24r7_w := rK cf n s K Q x24r7 rfl
def x24r8_w := rK cf n s K Q x24r8 rfl
def x24r9_w := rK cf n s K Q x24r9 rfl
def x24l10_w := lK cf n s K Q x24l10 rfl
def x24r11_w := rK cf n s K Q x24r11 rfl
def x24_w := bK cf n s K Q x24 rfl
def x24_r := bR x24 rfl
def x25r1_w := rK cf n s K Q x25r1 rfl
def x25r2_w := rK cf n s K Q x25r2 rfl
def x25r3_w := rK cf n s K Q x25r3 rfl
def x25r4_w := rK cf n s K Q x25r4 rfl
def x25r5_w := rK cf n s K Q x25r5 rfl
def x25r6_w := rK cf n s K Q x25r6 rfl
def x25r7_w := rK cf n s K Q x25r7 rfl
def x25r8_w := rK cf n s K Q x25r8 rfl
def x25r9_w := rK cf n s K Q x25r9 rfl
def x25l10_w := lK cf n s K Q x25l10 rfl
def x25r11_w := rK cf n s K Q x25r11 rfl
def x25_w := bK cf n s K Q x25 rfl
def x25_r := bR x25 rfl
end
end Go.Proofs.YtkiliokeanmagaaDoor.Ab

namespace Go.Proofs.YtkiliokeanmagaaDoor.Ab
open Go
set_option linter.unusedVariables false
set_option linter.unusedSimpArgs false
set_option maxRecDepth 8000
set_option maxHeartbeats 2000000
def D.err (d : D) : Int := if d.ck ≠ 0 then d.ck else if (wrongN d.sz d).isSome = true then 4 else 0
theorem chk_err (d : D) : ∃ p : List Int, d.chk = .tup [pv p, .c (.int .i64 d.err)] := by
  unfold D.chk D.err
  split
  · exact ⟨[], rfl⟩
  · cases wrongN d.sz d with
    | none => exact ⟨[], rfl⟩
    | some p => exact ⟨p, rfl⟩
theorem go44 (d : D) (hl : d.sz < 100000000000) {n : Nat} (hn : 4 * d.sz + 201 ≤ n) : Gives (n + 1) 44 [d.v] (.c (.int .i64 d.err)) := by
  obtain ⟨n, rfl⟩ : ∃ n', n = n' + 1 := ⟨n - 1, by omega⟩
  have c10 : ∀ h, call X E (n + 1) 10 [d.v] h = some (d.chk, h) := go10 d hl (by omega)
  obtain ⟨p, hp⟩ := chk_err d
  rw [hp] at c10
  generalize pv p = P at *
  generalize n + 1 = m at *
  refine gives_of rfl rfl rfl (by kernel_rfl) ⟨rfl, rfl⟩ (by simp [D.vw2, V.lows, D.low]) ?_
  simp -implicitDefEqProofs [x44_w, x44_r, x44r1_w, x44r2_w, x44r3_w, D.vw2, D.okc, D.rd, D.cells_len, c10]
def wtL (g : D → Nat) : List (List Int × D) → Nat
  | [] => 0
  | (_, x) :: r => g x + wtL g r
def wtN : Nat → D → Nat
  | 0, _ => 0
  | f + 1, d => 1 + wtL (wtN f) d.parts
def D.wt (d : D) : Nat := wtN d.sz d
def szL : List (List Int × D) → Nat
  | [] => 0
  | (_, x) :: r => x.sz + szL r
theorem szL_app : ∀ a b, szL (a ++ b) = szL a + szL b
  | [], b => by simp [szL]
  | (p, x) :: a, b => by simp only [List.cons_append, szL, szL_app a b]; omega
theorem szL_sub1 (frm : Nat) : ∀ (l : List D) (i : Nat), szL (sub1 frm l i) = D.szs l
  | [], i => rfl
  | x :: l, i => by simp only [sub1, szL, D.szs, szL_sub1 frm l (i + 1)]
theorem szL_recs : ∀ (l : List D) (i : Nat), szL (recs l i) ≤ D.szs l
  | [], i => Nat.le_refl _
  | x :: l, i => by
    simp only [recs, szL, D.szs]
    have := szL_recs l (i + 1)
    have := kid_le x 2
    omega
theorem szs_drop : ∀ (l : List D) (k : Nat), D.szs (l.drop k) ≤ D.szs l
  | l, 0 => by simp
  | [], k + 1 => by simp
  | x :: l, k + 1 => by simp only [List.drop_succ_cons, D.szs]; have := szs_drop l k; omega
theorem szL_parts (d : D) : szL d.parts < d.sz := by
  have hk : D.szs d.kids < d.sz := by obtain ⟨k, i, t, l⟩ := d; simp only [D.kids, D.sz]; omega
  have hd := fun k => szs_drop d.kids k
  unfold D.parts
  split
  · rw [szL_sub1]; have := hd 1; omega
  split
  · rw [szL_sub1]; have := hd 2; omega
  split
  · rename_i h7
    obtain ⟨a, b, c, habc⟩ := list3 (form_7 h7)
    rw [szL_app, szL_sub1]
    have h1 := szL_recs (d.kid 1).kids 0
    have hkid : d.kid 1 = b := by rw [D.kid, habc]; rfl
    have hb : D.szs b.kids < b.sz := by obtain ⟨k, i, t, l⟩ := b; simp only [D.kids, D.sz]; omega
    rw [hkid] at h1 ⊢
    rw [habc] at hk ⊢
    simp only [List.drop_succ_cons, List.drop_zero, D.szs] at hk ⊢
    omega
  split
  · rw [szL_sub1]; exact hk
  · have := D.sz_pos d; simp [szL]; omega
theorem wtL_le {g : D → Nat} : ∀ L : List (List Int × D), (∀ p x, (p, x) ∈ L → g x ≤ x.sz) → wtL g L ≤ szL L
  | [], _ => Nat.le_refl _
  | (p, x) :: L, h => by
    simp only [wtL, szL]
    have := h p x (by simp)
    have := wtL_le L fun p x hx => h p x (by simp [hx])
    omega
theorem wtN_le : ∀ (f : Nat) (d : D), wtN f d ≤ d.sz
  | 0, d => by simp [wtN]
  | f + 1, d => by
    simp only [wtN]
    have := wtL_le d.parts fun p x _ => wtN_le f x
    have := szL_parts d
    omega
theorem wtL_congr {g g' : D → Nat} : ∀ L : List (List Int × D), (∀ p x, (p, x) ∈ L → g x = g' x) → wtL g L = wtL g' L
  | [], _ => rfl
  | (p, x) :: L, h => by simp only [wtL]; rw [h p x (by simp), wtL_congr L fun p x hx => h p x (by simp [hx])]
theorem wtN_eq : ∀ (f f' : Nat) (d : D), d.sz ≤ f → d.sz ≤ f' → wtN f d = wtN f' d
  | 0, _, d, h, _ => by have := D.sz_pos d; omega
  | _, 0, d, _, h => by have := D.sz_pos d; omega
  | f + 1, f' + 1, d, h, h' => by
    simp only [wtN]
    rw [wtL_congr d.parts fun p x hx => wtN_eq f f' x (by have := parts_mem hx; omega) (by have := parts_mem hx; omega)]
theorem wt_eq (d : D) : d.wt = 1 + wtL D.wt d.parts := by
  unfold D.wt
  rw [wtN_eq d.sz (d.sz + 1) d (Nat.le_refl _) (by omega)]
  simp only [wtN]
  rw [wtL_congr d.parts fun p x hx => wtN_eq d.sz x.sz x (by have := parts_mem hx; omega) (Nat.le_refl _)]
def Y52 : D → Int → Bool × Int := fun _ c => (true, IntKind.i64.wrap (c + 1))
def St2 (d : D) (c : Int) : List O := [.cells d.v.cells, .cells [.c (.int .i64 c)]]
theorem clo52 (d : D) (m : Nat) : CloAt 1 52 [.ref 1 0] 2 (St2 d) (fun _ => True) Y52 m where
  hq := by decide
  len := fun _ => rfl
  low := fun c _ => by simp [St2, olow_cells, D.low_cells, V.lows, V.low]
  cap := rfl
  pres := fun _ _ _ _ => trivial
  clo := fun x _ c _ R hl => by
    rw [call_run (xf := x52) rfl rfl rfl]
    refine runF_at (by kernel_rfl) rfl rfl (wpk_of ?_)
    have hvw : ([x.v, .ref 1 0] : List V).map V.vw2 = [x.v, .ref 1 0] := by simp [D.vw2, vw2_ref]
    rw [hvw]
    unfold lowH at hl
    simp only [St2, List.cons_append, List.nil_append] at hl ⊢
    have hlen : (O.cells d.v.cells :: O.cells [V.c (.int .i64 c)] :: R).length = R.length + 1 + 1 := rfl
    rw [hlen] at hl ⊢
    have hl2 : (O.cells d.v.cells :: O.cells [V.c (.int .i64 (IntKind.i64.wrap (c + 1)))] :: R).all (O.low (R.length + 1 + 1)) = true := by
      simp only [List.all_cons, Bool.and_eq_true] at hl ⊢
      exact ⟨hl.1, by simp [olow_cells, V.lows, V.low], hl.2.2⟩
    have htk : ∀ a b o, (a :: b :: (R ++ [o])).take (R.length + 1 + 1) = a :: b :: R := fun a b o => by simp
    simp -implicitDefEqProofs [x52_w, x52_r, x52r1_w, x52r2_w, x52r3_w, D.okc, D.cells_len, set_m, htk, Y52]
    simpa using hl2
theorem each52 : ∀ (f : Nat) (d : D) (c : Int), 0 ≤ c → c + d.sz < 4611686018427387904 → eacN Y52 f d c = (true, c + wtN f d)
  | 0, d, c, _, _ => by simp [eacN, wtN]
  | f + 1, d, c, h0, hc => by
    have hw : IntKind.i64.wrap (c + 1) = c + 1 := wrap_in (by have := D.sz_pos d; omega)
    have key : ∀ (L : List (List Int × D)) (c : Int), 0 ≤ c → c + szL L < 4611686018427387904 → eacL (eacN Y52 f) L c = (true, c + wtL (wtN f) L) := by
      intro L
      induction L with
      | nil => intro c _ _; simp [eacL, wtL]
      | cons a L ih =>
        obtain ⟨p, x⟩ := a
        intro c h0 hc
        simp only [szL] at hc
        have h1 := each52 f x c h0 (by omega)
        have h2 := wtN_le f x
        simp only [eacL, wtL]
        rw [h1]
        simp only [if_true]
        rw [ih _ (by omega) (by omega)]
        congr 1
        omega
    have hp := szL_parts d
    simp only [eacN, wtN, Y52, if_true, hw]
    rw [key d.parts (c + 1) (by omega) (by omega)]
    congr 1
    omega
theorem go21 (d : D) (hl : d.sz < 10000000000) {n : Nat} (hn : 4 * d.sz + 210 ≤ n) : Gives (n + 1) 21 [d.v] (.tup [.c (.int .i64 (if d.err = 0 then (d.wt : Int) else 0)), .c (.int .i64 d.err)]) := by
  obtain ⟨n, rfl⟩ : ∃ n', n = n' + 1 := ⟨n - 1, by omega⟩
  have c44 : ∀ h, call X E (n + 1) 44 [d.v] h = some (.c (.int .i64 d.err), h) := go44 d (by omega) (by omega)
  have c51 : call X E (n + 1) 51 [d.v, .clo 52 [.ref 1 0]] (St2 d 0) = some (.c (.bool true), St2 d (d.wt : Int)) := by
    have h := go51 (clo52 d d.sz) (by omega) d.sz d (Nat.le_refl _) (Nat.le_refl _) (n + 1) (by omega) (0 : Int) trivial [] (by
      unfold lowH
      simp [St2, olow_cells, D.low_cells, V.lows, V.low])
    rw [each52 d.sz d 0 (by omega) (by omega)] at h
    simpa [D.wt] using h
  generalize n + 1 = m at *
  refine gives_of rfl rfl rfl (by kernel_rfl) ⟨rfl, rfl⟩ (by simp [D.vw2, V.lows, D.low]) ?_
  by_cases h0 : d.err = 0
  · rw [h0] at c44 ⊢
    simp only [St2] at c51
    simp -implicitDefEqProofs [x21_w, x21_r, x21r1_w, x21r2_w, x21r3_w, x21r5_w, x21r6_w, x21r7_w, D.vw2, D.okc, D.rd, D.cells_len, c44, c51]
    try simp [V.low, V.lows]
  · have hb : (d.err != 0) = true := by simp [h0]
    rw [if_neg h0]
    simp -implicitDefEqProofs [x21_w, x21_r, x21r1_w, x21r2_w, x21r3_w, x21r4_w, D.vw2, D.okc, D.rd, D.cells_len, c44, hb]
    try simp [V.low, V.lows]
theorem go23 : ∀ (f : Nat) (d : D), d.fm = true → d.sz ≤ f → d.sz < 100000000000 → ∀ n, 4 * d.sz + 120 ≤ n → Gives n 23 [d.v] (.c (.int .i64 d.wt))
  | 0, d, _, h, _, _, _ => by have := D.sz_pos d; omega
  | f + 1, d, hfm, hf, hl, n, hn => by
    obtain ⟨n, rfl⟩ : ∃ n', n = n' + 2 := ⟨n - 2, by omega⟩
    have c55 : ∀ h, call X E (n + 1) 55 [d.v] h = some (.sl (D.vs d.subs) .any, h) := go55 d hfm (by omega) (by omega)
    have hsub : ∀ j (h : j < d.subs.length), ∃ p, (p, d.subs[j]) ∈ d.parts := fun j h => ⟨d.rp[j]'(by rw [← subs_len]; exact h), by rw [← parts_get (by rw [← subs_len]; exact h)]; exact List.getElem_mem _⟩
    have c23 : ∀ j (h : j < d.subs.length) hh, call X E (n + 1) 23 [(d.subs[j]).v] hh = some (.c (.int .i64 (d.subs[j]).wt), hh) := fun j h => by
      obtain ⟨p, hp⟩ := hsub j h
      have h1 := parts_mem hp
      exact go23 f _ (D.at_fm _ _ _ (d.parts_at _ _ hp) hfm) (by omega) (by omega) (n + 1) (by omega)
    have hnum := parts_num d
    have hsl : d.subs.length = d.parts.length := by simp [D.subs]
    have hwp : d.wt = 1 + wtL D.wt d.parts := wt_eq d
    have hsz := szL_parts d
    have hL : ∀ L : List (List Int × D), wtL D.wt L = (L.map fun q => q.2.wt).sum := fun L => by
      induction L with
      | nil => rfl
      | cons a L ih => obtain ⟨p, x⟩ := a; simp [wtL, ih]
    have hwt2 : d.wt = 1 + (d.subs.map D.wt).sum := by rw [hwp, hL, D.subs, List.map_map]; rfl
    have hwle : d.wt ≤ d.sz := wtN_le _ d
    generalize hS : d.subs = S at *
    clear hwp hL hsz
    show Gives ((n + 1) + 1) 23 [d.v] _
    generalize hnm : n + 1 = m at *
    refine gives_of rfl rfl rfl (by kernel_rfl) ⟨rfl, rfl⟩ (by simp [D.vw2, V.lows, D.low]) ?_
    simp -implicitDefEqProofs [x23_w, x23r1_w, x23r2_w, x23r3_w, x23r4_w, D.vw2, D.okc, D.rd, D.cells_len, c55]
    obtain ⟨I, hI⟩ : ∃ I : Nat → SF → Prop, ∀ k s, I k s ↔ (∃ j : Nat, j + k = S.length ∧ s.e 5 = .c (.int .i64 j) ∧ s.e 3 = .c (.int .i64 ((1 + ((S.take j).map D.wt).sum : Nat) : Int)) ∧ s.e 4 = .sl (D.vs S) .any ∧ s.base = 0) := ⟨_, fun _ _ => Iff.rfl⟩
    refine lpk_of I S.length (by omega) ((hI _ _).2 ⟨0, by simp, by simp [upd_at], by simp [upd_at], by simp [upd_at], rfl⟩) ?_
    rintro k ⟨e, h, base, rb⟩ hi
    obtain ⟨j, hj, e5, e3, e4, hb⟩ := (hI _ _).1 hi
    simp only at e5 e3 e4 hb
    subst hb
    by_cases hm : j < S.length
    · have hlt : (j : Int) < S.length := by omega
      have hvl : (D.vs S).length = S.length := D.vs_len S
      have hvg : (D.vs S)[j]'(by omega) = (S[j]).v := D.vs_getE _
      have hc := c23 j hm
      have hts : ((S.take (j + 1)).map D.wt).sum = ((S.take j).map D.wt).sum + (S[j]).wt := by
        rw [List.take_add_one, List.getElem?_eq_getElem hm]
        simp only [Option.toList_some, List.map_append, List.sum_append, List.map_cons, List.map_nil, List.sum_cons, List.sum_nil]
        omega
      have hle : ((S.take (j + 1)).map D.wt).sum ≤ (S.map D.wt).sum := by
        conv => rhs; rw [← List.take_append_drop (j + 1) S]
        rw [List.map_append, List.sum_append]
        omega
      generalize hx : S[j] = x at *
      have hw : IntKind.i64.wrap ((j : Int) + 1) = (j : Int) + 1 := wrap_in (by omega)
      generalize hA : ((S.take j).map D.wt).sum = A at *
      have hw2 : IntKind.i64.wrap (((1 + A : Nat) : Int) + (x.wt : Int)) = ((1 + (A + x.wt) : Nat) : Int) := by rw [wrap_in (by omega)]; omega
      generalize ((1 + A : Nat) : Int) = B at *
      simp -implicitDefEqProofs [x23l8_w, x23r5_w, x23r6_w, x23r7_w, e3, e4, e5, hvl, hvg, hlt, hm, hc, D.cells_len, D.rd, D.okc]
      refine ⟨k - 1, by omega, (hI _ _).2 ⟨j + 1, by omega, by simp [upd_at, hw], by rw [hts]; simp [upd_at]; rw [hw2]; simp, by simp [upd_at, e4], rfl⟩⟩
    · have hlt : ¬ (j : Int) < S.length := by omega
      have hvl : (D.vs S).length = S.length := D.vs_len S
      rw [List.take_of_length_le (by omega)] at e3
      rw [← hwt2] at e3
      simp -implicitDefEqProofs [x23l8_w, x23_r, x23r5_w, x23r9_w, e3, e4, e5, hvl, hlt]
end Go.Proofs.YtkiliokeanmagaaDoor.Ab

namespace Go.Proofs.YtkiliokeanmagaaDoor.Ab
open Go
set_option linter.unusedVariables false
set_option linter.unusedSimpArgs false
set_option maxRecDepth 8000
set_option maxHeartbeats 2000000
def anyL (g : D → Bool) : List (List Int × D) → Bool
  | [] => false
  | (_, x) :: r => g x || anyL g r
def hasN (w : Int) : Nat → D → Bool
  | 0, _ => false
  | f + 1, d => d.form == w || anyL (hasN w f) d.parts
def D.has (d : D) (w : Int) : Bool := hasN w d.sz d
theorem anyL_congr {g g' : D → Bool} : ∀ L : List (List Int × D), (∀ p x, (p, x) ∈ L → g x = g' x) → anyL g L = anyL g' L
  | [], _ => rfl
  | (p, x) :: L, h => by simp only [anyL]; rw [h p x (by simp), anyL_congr L fun p x hx => h p x (by simp [hx])]
theorem hasN_eq (w : Int) : ∀ (f f' : Nat) (d : D), d.sz ≤ f → d.sz ≤ f' → hasN w f d = hasN w f' d
  | 0, _, d, h, _ => by have := D.sz_pos d; omega
  | _, 0, d, _, h => by have := D.sz_pos d; omega
  | f + 1, f' + 1, d, h, h' => by
    simp only [hasN]
    rw [anyL_congr d.parts fun p x hx => hasN_eq w f f' x (by have := parts_mem hx; omega) (by have := parts_mem hx; omega)]
theorem has_eq (d : D) (w : Int) : d.has w = (d.form == w || anyL (fun x => x.has w) d.parts) := by
  unfold D.has
  rw [hasN_eq w d.sz (d.sz + 1) d (Nat.le_refl _) (by omega)]
  simp only [hasN]
  rw [anyL_congr d.parts fun p x hx => hasN_eq w d.sz x.sz x (by have := parts_mem hx; omega) (Nat.le_refl _)]
def Y53 (w : Int) : D → Unit → Bool × Unit := fun x _ => (x.form != w, ())
def St3 (d : D) (w : Int) (_ : Unit) : List O := [.cells d.v.cells, .cells [.c (.int .i64 w)]]
theorem clo53 (d : D) (w : Int) (m : Nat) (hm : m < 1099511627776) : CloAt (m + 20) 53 [.ref 1 0] 2 (St3 d w) (fun _ => True) (Y53 w) m where
  hq := by decide
  len := fun _ => rfl
  low := fun c _ => by simp [St3, olow_cells, D.low_cells, V.lows, V.low]
  cap := rfl
  pres := fun _ _ _ _ => trivial
  clo := fun x hx c _ R hl => by
    have c54 : ∀ h, call X E (m + 19) 54 [x.v] h = some (.c (.int .i64 x.form), h) := go54 x (by omega) (by omega)
    rw [call_run (n := m + 19) (xf := x53) rfl rfl rfl]
    refine runF_at (by kernel_rfl) rfl rfl (wpk_of ?_)
    have hvw : ([x.v, .ref 1 0] : List V).map V.vw2 = [x.v, .ref 1 0] := by simp [D.vw2, vw2_ref]
    rw [hvw]
    unfold lowH at hl
    simp only [St3, List.cons_append, List.nil_append] at hl ⊢
    have hlen : (O.cells d.v.cells :: O.cells [V.c (.int .i64 w)] :: R).length = R.length + 1 + 1 := rfl
    rw [hlen] at hl ⊢
    have htk : ∀ a b o, (a :: b :: (R ++ [o])).take (R.length + 1 + 1) = a :: b :: R := fun a b o => by simp
    generalize m + 19 = mm at *
    simp -implicitDefEqProofs [x53_w, x53_r, x53r1_w, x53r2_w, D.okc, D.cells_len, D.rd, set_m, get_m, htk, Y53, c54]
    simpa using hl
theorem each53 (w : Int) : ∀ (f : Nat) (d : D), eacN (Y53 w) f d () = (!hasN w f d, ())
  | 0, d => rfl
  | f + 1, d => by
    have key : ∀ L : List (List Int × D), eacL (eacN (Y53 w) f) L () = (!anyL (hasN w f) L, ()) := by
      intro L
      induction L with
      | nil => rfl
      | cons a L ih =>
        obtain ⟨p, x⟩ := a
        simp only [eacL, anyL]
        rw [each53 w f x]
        cases hasN w f x with
        | true => rfl
        | false => simp [ih]
    simp only [eacN, hasN, Y53]
    by_cases hf : d.form = w
    · simp [hf]
    · simp [hf, key d.parts]
theorem go22 (d : D) (w : Int) (hl : d.sz < 10000000000) {n : Nat} (hn : 5 * d.sz + 210 ≤ n) : Gives (n + 1) 22 [d.v, .c (.int .i64 w)] (.tup [.c (.bool (decide (d.err = 0) && (decide (1 ≤ w ∧ w ≤ 10) && d.has w))), .c (.int .i64 (if d.err = 0 then if 1 ≤ w ∧ w ≤ 10 then 0 else 2 else d.err))]) := by
  obtain ⟨n, rfl⟩ : ∃ n', n = n' + 1 := ⟨n - 1, by omega⟩
  have c44 : ∀ h, call X E (n + 1) 44 [d.v] h = some (.c (.int .i64 d.err), h) := go44 d (by omega) (by omega)
  have c51 : call X E (n + 1) 51 [d.v, .clo 53 [.ref 1 0]] (St3 d w ()) = some (.c (.bool (!d.has w)), St3 d w ()) := by
    have h := go51 (clo53 d w d.sz (by omega)) (by omega) d.sz d (Nat.le_refl _) (Nat.le_refl _) (n + 1) (by omega) () trivial [] (by
      unfold lowH
      simp [St3, olow_cells, D.low_cells, V.lows, V.low])
    rw [each53 w d.sz d] at h
    simpa [D.has] using h
  generalize n + 1 = m at *
  refine gives_of rfl rfl rfl (by kernel_rfl) ⟨rfl, rfl⟩ (by simp [D.vw2, vw2_c, V.lows, D.low, V.low]) ?_
  by_cases h0 : d.err = 0
  · rw [h0] at c44 ⊢
    simp only [St3] at c51
    by_cases h1 : w < 1
    · have hr : ¬ (1 ≤ w ∧ w ≤ 10) := by omega
      simp -implicitDefEqProofs [x22_w, x22_r, x22r1_w, x22r2_w, x22r3_w, x22r5_w, x22r6_w, D.vw2, D.okc, D.rd, D.cells_len, c44, h1, hr]
      try simp [V.low, V.lows]
    · by_cases h2 : w > 10
      · have hr : ¬ (1 ≤ w ∧ w ≤ 10) := by omega
        simp -implicitDefEqProofs [x22_w, x22_r, x22r1_w, x22r2_w, x22r3_w, x22r5_w, x22r6_w, D.vw2, D.okc, D.rd, D.cells_len, c44, h1, h2, hr]
        try simp [V.low, V.lows]
      · have hr : (1 ≤ w ∧ w ≤ 10) := by omega
        simp -implicitDefEqProofs [x22_w, x22_r, x22r1_w, x22r2_w, x22r3_w, x22r5_w, x22r7_w, D.vw2, D.okc, D.rd, D.cells_len, c44, c51, h1, h2, hr]
        try simp [V.low, V.lows]
  · have hb : (d.err != 0) = true := by simp [h0]
    simp -implicitDefEqProofs [x22_w, x22_r, x22r1_w, x22r2_w, x22r3_w, x22r4_w, D.vw2, D.okc, D.rd, D.cells_len, c44, hb, h0]
    try simp [V.low, V.lows]
theorem go25 (w : Int) : ∀ (f : Nat) (d : D), d.fm = true → d.sz ≤ f → d.sz < 100000000000 → ∀ n, 4 * d.sz + 120 ≤ n → Gives n 25 [d.v, .c (.int .i64 w)] (.c (.bool (d.has w)))
  | 0, d, _, h, _, _, _ => by have := D.sz_pos d; omega
  | f + 1, d, hfm, hf, hl, n, hn => by
    obtain ⟨n, rfl⟩ : ∃ n', n = n' + 2 := ⟨n - 2, by omega⟩
    have c30 : ∀ h, call X E (n + 1) 30 [d.v] h = some (.c (.int .i64 d.form), h) := go30 d hfm (by omega) (by omega) (by omega)
    have c55 : ∀ h, call X E (n + 1) 55 [d.v] h = some (.sl (D.vs d.subs) .any, h) := go55 d hfm (by omega) (by omega)
    have hsub : ∀ j (h : j < d.subs.length), ∃ p, (p, d.subs[j]) ∈ d.parts := fun j h => ⟨d.rp[j]'(by rw [← subs_len]; exact h), by rw [← parts_get (by rw [← subs_len]; exact h)]; exact List.getElem_mem _⟩
    have c25 : ∀ j (h : j < d.subs.length) hh, call X E (n + 1) 25 [(d.subs[j]).v, .c (.int .i64 w)] hh = some (.c (.bool ((d.subs[j]).has w)), hh) := fun j h => by
      obtain ⟨p, hp⟩ := hsub j h
      have h1 := parts_mem hp
      exact go25 w f _ (D.at_fm _ _ _ (d.parts_at _ _ hp) hfm) (by omega) (by omega) (n + 1) (by omega)
    have hnum := parts_num d
    have hsl : d.subs.length = d.parts.length := by simp [D.subs]
    have hwp := has_eq d w
    have hL : ∀ L : List (List Int × D), anyL (fun x => x.has w) L = (L.map (·.2)).any fun x => x.has w := fun L => by
      induction L with
      | nil => rfl
      | cons a L ih => obtain ⟨p, x⟩ := a; simp [anyL, ih]
    rw [hL] at hwp
    change d.has w = (d.form == w || d.subs.any fun x => x.has w) at hwp
    generalize hS : d.subs = S at *
    show Gives ((n + 1) + 1) 25 [d.v, _] _
    generalize hnm : n + 1 = m at *
    refine gives_of rfl rfl rfl (by kernel_rfl) ⟨rfl, rfl⟩ (by simp [D.vw2, vw2_c, V.lows, D.low, V.low]) ?_
    by_cases hfw : d.form = w
    · have : d.has w = true := by rw [hwp]; simp [hfw]
      rw [this]
      rw [hfw] at c30
      simp -implicitDefEqProofs [x25_w, x25_r, x25r1_w, x25r2_w, x25r3_w, D.vw2, D.okc, D.rd, D.cells_len, c30]
    · have hb : (d.form == w) = false := by simp [hfw]
      rw [hb, Bool.false_or] at hwp
      rw [hwp]
      clear hwp
      simp -implicitDefEqProofs [x25_w, x25r1_w, x25r2_w, x25r4_w, x25r5_w, D.vw2, D.okc, D.rd, D.cells_len, c30, c55, hb]
      obtain ⟨I, hI⟩ : ∃ I : Nat → SF → Prop, ∀ k s, I k s ↔ (∃ j : Nat, j + k = S.length ∧ s.e 6 = .c (.int .i64 j) ∧ (S.any fun x => x.has w) = ((S.drop j).any fun x => x.has w) ∧ s.e 5 = .sl (D.vs S) .any ∧ s.e 1 = .c (.int .i64 w) ∧ s.base = 0) := ⟨_, fun _ _ => Iff.rfl⟩
      refine lpk_of I S.length (by omega) ((hI _ _).2 ⟨0, by simp, by simp [upd_at], by simp, by simp [upd_at], by simp [upd_at, arg0], rfl⟩) ?_
      rintro k ⟨e, h, base, rb⟩ hi
      obtain ⟨j, hj, e6, hany, e5, e1, hb⟩ := (hI _ _).1 hi
      simp only at e6 e5 e1 hb
      subst hb
      have hvl : (D.vs S).length = S.length := D.vs_len S
      by_cases hm : j < S.length
      · have hlt : (j : Int) < S.length := by omega
        have hvg : (D.vs S)[j]'(by omega) = (S[j]).v := D.vs_getE _
        have hc := c25 j hm
        have hd : S.drop j = S[j] :: S.drop (j + 1) := List.drop_eq_getElem_cons hm
        rw [hd, List.any_cons] at hany
        generalize hx : S[j] = x at *
        have hw : IntKind.i64.wrap ((j : Int) + 1) = (j : Int) + 1 := wrap_in (by omega)
        generalize hB : (S.any fun x => x.has w) = B at *
        cases hh : x.has w with
        | true =>
          rw [hh] at hc hany
          rw [Bool.true_or] at hany
          subst hany
          simp -implicitDefEqProofs [x25l10_w, x25_r, x25r6_w, x25r7_w, x25r8_w, e1, e5, e6, hvl, hvg, hlt, hm, hc, D.cells_len, D.rd, D.okc]
        | false =>
          rw [hh] at hc hany
          rw [Bool.false_or] at hany
          simp -implicitDefEqProofs [x25l10_w, x25r6_w, x25r7_w, x25r8_w, x25r9_w, e1, e5, e6, hvl, hvg, hlt, hm, hc, D.cells_len, D.rd, D.okc]
          refine ⟨k - 1, by omega, (hI _ _).2 ⟨j + 1, by omega, by simp [upd_at, hw], hany, by simp [upd_at, e5], by simp [upd_at, e1], rfl⟩⟩
      · have hlt : ¬ (j : Int) < S.length := by omega
        rw [List.drop_of_length_le (by omega)] at hany
        rw [hany]
        simp -implicitDefEqProofs [x25l10_w, x25_r, x25r6_w, x25r11_w, e5, e6, hvl, hlt]
end Go.Proofs.YtkiliokeanmagaaDoor.Ab

namespace Go.Proofs.YtkiliokeanmagaaDoor.Ab
open Go
set_option linter.unusedVariables false
def l1O : Option O → List O → R2
  | some (.cells [c]), h => some (c, h)
  | _, _ => none
def l1F : V → List O → R2
  | .ref id 0, h => l1O h[id]? h
  | _, _ => none
theorem l1F_ref (id : Nat) (h : List O) : l1F (.ref id 0) h = l1O h[id]? h := rfl
theorem l1O_cells (c : V) (h : List O) : l1O (some (.cells [c])) h = some (c, h) := rfl
theorem actF_load1 (cf : CallF) (s : SF) (x : A) : actF cf s (.load1 x) = l1F (x.val s.e) s.h := by
  simp only [actF, XOp.sub, act, ev_val]
  cases x.val s.e with
  | ref id o =>
    cases o with
    | zero =>
      simp only [l1F_ref]
      cases s.h[id]? with
      | none => rfl
      | some o =>
        cases o with
        | cells cs =>
          cases cs with
          | nil => rfl
          | cons a r => cases r <;> rfl
        | _ => rfl
    | succ n => rfl
  | _ => rfl
attribute [simp] actF_load1 l1F_ref l1O_cells
end Go.Proofs.YtkiliokeanmagaaDoor.Ab

namespace Go.Proofs.YtkiliokeanmagaaDoor.Ab
open Go
set_option linter.unusedVariables false
set_option linter.unusedSimpArgs false
set_option maxRecDepth 8000
set_option maxHeartbeats 2000000
theorem go46 (a b : List Int) (i j : SI) {n : Nat} (hn : a.length < n) (hl : a.length < 1099511627776) : Gives (n + 1) 46 [.sl (a.map I64) i, .sl (b.map I64) j] (.c (.bool (decide (a = b)))) := by
  have h1 := lows_I64 0 a
  have h2 := lows_I64 0 b
  have hla : (a.map I64).length = a.length := List.length_map _
  have hlb : (b.map I64).length = b.length := List.length_map _
  refine gives_of rfl rfl rfl (by kernel_rfl) ⟨rfl, rfl⟩ (by simp [vw2_sl, V.lows, V.low, h1, h2, SI.low]) ?_
  generalize call X E n = cf at *
  by_cases hab : a.length = b.length
  · have hb : ((a.length : Int) != b.length) = false := by simp; omega
    have hA : ∀ t, t < a.length → (a.map I64)[t]? = some (I64 (a.getD t 0)) := fun t ht => by simp [ht]
    have hB : ∀ t, t < a.length → (b.map I64)[t]? = some (I64 (b.getD t 0)) := fun t ht => by simp [show t < b.length by omega]
    generalize hAA : a.map I64 = A at *
    generalize hBB : b.map I64 = B at *
    simp -implicitDefEqProofs [x46_w, x46r1_w, x46r2_w, x46r4_w, vw2_sl, hla, hlb, hb]
    obtain ⟨I, hI⟩ : ∃ I : Nat → SF → Prop, ∀ k s, I k s ↔ (∃ t : Nat, t + k = a.length ∧ s.e 13 = .c (.int .i64 t) ∧ s.e 12 = .c (.int .i64 a.length) ∧ (decide (a = b)) = (decide (a.drop t = b.drop t)) ∧ s.e 0 = .sl A .any ∧ s.e 1 = .sl B .any ∧ s.base = 0) := ⟨_, fun _ _ => Iff.rfl⟩
    refine lpk_of I a.length hn ((hI _ _).2 ⟨0, by simp, by simp [upd_at], by simp [upd_at], by simp, by simp [upd_at, arg0], by simp [upd_at, arg0], rfl⟩) ?_
    rintro k ⟨e, h, base, rb⟩ hi
    obtain ⟨t, ht, e13, e12, hdr, e0, e1, hb⟩ := (hI _ _).1 hi
    simp only at e13 e12 e0 e1 hb
    subst hb
    by_cases hm : t < a.length
    · have hlt : (t : Int) < a.length := by omega
      have hAt : A[t]'(by omega) = I64 (a.getD t 0) := by have := hA t hm; rw [List.getElem?_eq_getElem (by omega)] at this; simpa using this
      have hBt : B[t]'(by omega) = I64 (b.getD t 0) := by have := hB t hm; rw [List.getElem?_eq_getElem (by omega)] at this; simpa using this
      have d1 : a.drop t = a.getD t 0 :: a.drop (t + 1) := by rw [List.drop_eq_getElem_cons hm]; simp [hm]
      have d2 : b.drop t = b.getD t 0 :: b.drop (t + 1) := by rw [List.drop_eq_getElem_cons (by omega)]; simp [show t < b.length by omega]
      rw [d1, d2] at hdr
      have hltb : (t : Int) < b.length := by omega
      have hmb : t < b.length := by omega
      generalize a.getD t 0 = u at *
      generalize b.getD t 0 = v at *
      have hw : IntKind.i64.wrap ((t : Int) + 1) = (t : Int) + 1 := wrap_in (by omega)
      generalize hD : decide (a = b) = D0 at *
      by_cases huv : u = v
      · subst huv
        have hne : (u != u) = false := by simp
        simp -implicitDefEqProofs [x46l10_w, x46r5_w, x46r6_w, x46r7_w, x46r9_w, e0, e1, e12, e13, hla, hlb, hlt, hltb, hm, hmb, hAt, hBt, I64, hne]
        refine ⟨k - 1, by omega, (hI _ _).2 ⟨t + 1, by omega, by simp [upd_at, hw], by simp [upd_at, e12], by rw [hdr]; simp, by simp [upd_at, e0], by simp [upd_at, e1], rfl⟩⟩
      · have hne : (u != v) = true := by simp [huv]
        have : D0 = false := by rw [hdr]; simp [huv]
        subst this
        simp -implicitDefEqProofs [x46l10_w, x46_r, x46r5_w, x46r6_w, x46r7_w, x46r8_w, e0, e1, e12, e13, hla, hlb, hlt, hltb, hm, hmb, hAt, hBt, I64, hne]
    · have hlt : ¬ (t : Int) < a.length := by omega
      rw [List.drop_of_length_le (by omega), List.drop_of_length_le (by omega)] at hdr
      rw [hdr]
      simp -implicitDefEqProofs [x46l10_w, x46_r, x46r5_w, x46r11_w, e12, e13, hlt]
  · have hb : ((a.length : Int) != b.length) = true := by simp; omega
    have hne : decide (a = b) = false := by simp; intro h; exact hab (by rw [h])
    rw [hne]
    simp -implicitDefEqProofs [x46_w, x46_r, x46r1_w, x46r2_w, x46r3_w, vw2_sl, hla, hlb, hb]
theorem begs_take : ∀ p q : List Int, begs p q = (decide (q.length ≤ p.length) && decide (q = p.take q.length))
  | p, [] => by simp [begs]
  | [], b :: q => by simp [begs]
  | a :: p, b :: q => by
    rw [begs, begs_take p q]
    by_cases hab : a = b
    · subst hab; simp
    · have : ¬ b = a := fun h => hab h.symm
      simp [hab, this]
def fstP (p : List Int) : List (List Int × D) → Option (List Int × D)
  | [] => none
  | (q, x) :: r => if begs p q = true then some (q, x) else fstP p r
theorem fstP_mem {p : List Int} : ∀ {L : List (List Int × D)} {q : List Int} {x : D}, fstP p L = some (q, x) → (q, x) ∈ L ∧ begs p q = true
  | [], _, _, h => by simp [fstP] at h
  | (q', x') :: L, q, x, h => by
    simp only [fstP] at h
    split at h
    · simp only [Option.some.injEq, Prod.mk.injEq] at h
      obtain ⟨rfl, rfl⟩ := h
      exact ⟨by simp, by assumption⟩
    · have := fstP_mem h
      exact ⟨by simp [this.1], this.2⟩
def subN : Nat → D → List Int → Bool
  | _, _, [] => true
  | 0, _, _ :: _ => false
  | f + 1, d, i :: p => match fstP (i :: p) d.parts with
    | some (q, x) => subN f x ((i :: p).drop q.length)
    | none => false
def D.sub (d : D) (p : List Int) : Bool := subN d.sz d p
theorem subN_nil (f : Nat) (d : D) : subN f d [] = true := by cases f <;> rfl
theorem subN_eq : ∀ (f f' : Nat) (d : D) (p : List Int), d.sz ≤ f → d.sz ≤ f' → subN f d p = subN f' d p
  | f, f', d, [], _, _ => by rw [subN_nil, subN_nil]
  | 0, _, d, _ :: _, h, _ => by have := D.sz_pos d; omega
  | _, 0, d, _ :: _, _, h => by have := D.sz_pos d; omega
  | f + 1, f' + 1, d, i :: p, h, h' => by
    simp only [subN]
    cases hf : fstP (i :: p) d.parts with
    | none => rfl
    | some r =>
      obtain ⟨q, x⟩ := r
      have := parts_mem (fstP_mem hf).1
      exact subN_eq f f' x _ (by omega) (by omega)
theorem sub_eq (d : D) (i : Int) (p : List Int) : d.sub (i :: p) = match fstP (i :: p) d.parts with
    | some (q, x) => x.sub ((i :: p).drop q.length)
    | none => false := by
  unfold D.sub
  rw [subN_eq d.sz (d.sz + 1) d _ (Nat.le_refl _) (by omega)]
  simp only [subN]
  cases hf : fstP (i :: p) d.parts with
  | none => rfl
  | some r =>
    obtain ⟨q, x⟩ := r
    have := parts_mem (fstP_mem hf).1
    exact subN_eq _ _ x _ (by omega) (Nat.le_refl _)
theorem round18 {n : Nat} {L : Nat} {e : Nat → V} (e2 : e 2 = .ref 0 0) (e3 : e 3 = .ref 1 0) (e7 : e 7 = .ref (L + 1 + 1) 0) {q : List Int} {x d : D} {p : List Int} {rest R : List O} (hrest : rest.length = L)
    (hq : q.length < 1000000) (hn : q.length + 1 < n) (hlow : lowH (.cells d.v.cells :: .cells [pv p] :: (rest ++ .cells [.c (.bool false)] :: .cells d.v.cells :: .loop 0 :: R))) :
    call X E (n + 1) 1001800 (.c (.int .i64 ((L + 4 : Nat) : Int)) :: pf q :: x.v :: keepE 42 [3, 2, 7] e) (.cells d.v.cells :: .cells [pv p] :: (rest ++ .cells [.c (.bool false)] :: .cells d.v.cells :: .loop 0 :: R)) =
      if begs p q = true then some (.c (.bool false), .cells x.v.cells :: .cells [pv (p.drop q.length)] :: (rest ++ .cells [.c (.bool true)] :: .cells d.v.cells :: .loop 6 :: R))
      else some (.c (.bool true), .cells d.v.cells :: .cells [pv p] :: (rest ++ .cells [.c (.bool false)] :: .cells d.v.cells :: .loop 0 :: R)) := by
  have hE : E 1001800 = none := rfl
  have hX : X 1001800 = some x1001800 := rfl
  have hA : x1001800.asg = some ([20, 21], XC.seq x1001800r3 x1001800r4) := rfl
  have c46 : ∀ h, call X E n 46 [.sl (q.map I64) .full, .sl ((p.take q.length).map I64) .any] h = some (.c (.bool (decide (q = p.take q.length))), h) := by
    obtain ⟨n, rfl⟩ : ∃ n', n = n' + 1 := ⟨n - 1, by omega⟩
    exact go46 q (p.take q.length) .full .any (by omega) (by omega)
  have hbt := begs_take p q
  have hlq : (q.map I64).length = q.length := List.length_map _
  have hlp : (p.map I64).length = p.length := List.length_map _
  have hzp : hz 1 (p.map I64) = true := hz_I64 p
  have htm : (p.take q.length).map I64 = (p.map I64).take q.length := List.map_take ..
  have hdm : (p.drop q.length).map I64 = (p.map I64).drop q.length := List.map_drop ..
  rw [htm] at c46
  have hlowP : ∀ m, V.lows m ((p.map I64).drop q.length) = true := fun m => by rw [← hdm]; exact lows_I64 m _
  simp only [pf, pv, hdm] at hlow ⊢
  clear htm hdm
  simp only [call, hE, hX, hA]
  rw [if_pos (by simp [hrest]; omega)]
  have t20 : toE (((keepE 42 [3, 2, 7] e).set 20 (.sl (q.map I64) .full)).set 21 x.v) 20 = .sl (q.map I64) .full := rfl
  have t21 : toE (((keepE 42 [3, 2, 7] e).set 20 (.sl (q.map I64) .full)).set 21 x.v) 21 = x.v := rfl
  have t2 : toE (((keepE 42 [3, 2, 7] e).set 20 (.sl (q.map I64) .full)).set 21 x.v) 2 = .ref 0 0 := e2
  have t3 : toE (((keepE 42 [3, 2, 7] e).set 20 (.sl (q.map I64) .full)).set 21 x.v) 3 = .ref 1 0 := e3
  have t7 : toE (((keepE 42 [3, 2, 7] e).set 20 (.sl (q.map I64) .full)).set 21 x.v) 7 = .ref (L + 1 + 1) 0 := e7
  have hputs : putAll [20, 21] (List.take [20, 21].length (V.sl (List.map I64 q) .full :: x.v :: keepE 42 [3, 2, 7] e)) (List.drop [20, 21].length (V.sl (List.map I64 q) .full :: x.v :: keepE 42 [3, 2, 7] e)) = some (((keepE 42 [3, 2, 7] e).set 20 (.sl (q.map I64) .full)).set 21 x.v) := rfl
  subst hrest
  have hend : ∀ (a1 a2 a3 z : O), (rest ++ a1 :: a2 :: a3 :: (R ++ [z]))[rest.length + (R.length + 1 + 1 + 1)]? = some z := fun a1 a2 a3 z => by
    rw [show rest ++ a1 :: a2 :: a3 :: (R ++ [z]) = (rest ++ a1 :: a2 :: a3 :: R) ++ [z] by simp, List.getElem?_append_right (by simp)]
    simp
  have send : ∀ (a1 a2 a3 z w : O), (rest ++ a1 :: a2 :: a3 :: (R ++ [z])).set (rest.length + (R.length + 1 + 1 + 1)) w = rest ++ a1 :: a2 :: a3 :: (R ++ [w]) := fun a1 a2 a3 z w => by
    rw [show rest ++ a1 :: a2 :: a3 :: (R ++ [z]) = (rest ++ a1 :: a2 :: a3 :: R) ++ [z] by simp, List.set_append_right _ _ (by simp)]
    simp
  have htk : ∀ (a1 a2 a3 z : O), (rest ++ a1 :: a2 :: a3 :: (R ++ [z])).take (rest.length + (R.length + 1 + 1 + 1)) = rest ++ a1 :: a2 :: a3 :: R := fun a1 a2 a3 z => by
    rw [show rest ++ a1 :: a2 :: a3 :: (R ++ [z]) = (rest ++ a1 :: a2 :: a3 :: R) ++ [z] by simp, List.take_left' (by simp)]
  have hk4 : ((rest.length : Int) + 4).toNat = rest.length + 4 := by omega
  have hlow2 : ∀ (y : D) (V1 : List V) (v : Bool) (m : Nat), (∀ k, V.lows k V1 = true) → (O.cells y.v.cells :: O.cells [V.sl V1 .any] :: (rest ++ O.cells [V.c (.bool v)] :: O.cells d.v.cells :: O.loop m :: R)).all (O.low (rest.length + (R.length + 1 + 1 + 1) + 1 + 1)) = true := fun y V1 v m hV => by
    unfold lowH at hlow
    have hle : (O.cells d.v.cells :: O.cells [V.sl (List.map I64 p) .any] :: (rest ++ O.cells [V.c (.bool false)] :: O.cells d.v.cells :: O.loop 0 :: R)).length = rest.length + (R.length + 1 + 1 + 1) + 1 + 1 := by simp
    rw [hle] at hlow
    simp only [List.all_append, List.all_cons, Bool.and_eq_true, olow_cells, D.low_cells, true_and] at hlow ⊢
    obtain ⟨h1, h2, h3, h4, h5⟩ := hlow
    exact ⟨by simp [V.lows, V.low, hV, SI.low], h2, rfl, rfl, h5⟩
  have hlowp : ∀ m, V.lows m (p.map I64) = true := fun m => lows_I64 m p
  have hend2 : rest.length + (R.length + 1 + 1 + 1) + 1 + 1 = rest.length + (R.length + 1 + 1 + 1) + 2 := rfl
  by_cases hbg : begs p q = true
  · rw [hbg] at hbt
    simp only [Bool.true_eq, Bool.and_eq_true, decide_eq_true_eq] at hbt
    obtain ⟨hle, heq⟩ := hbt
    have heq' : decide (q = p.take q.length) = true := by simpa using heq
    rw [heq'] at c46
    have hleI : (q.length : Int) ≤ p.length := by omega
    have h0q : (0 : Int) ≤ q.length := by omega
    rw [if_pos hbg]
    have hl6 := hlow2 x ((p.map I64).drop q.length) true 6 hlowP
    refine round_at (tm := (((keepE 42 [3, 2, 7] e).set 20 (.sl (q.map I64) .full)).set 21 x.v)) hputs (by kernel_rfl) (by kernel_rfl) ?_
    generalize toE (((keepE 42 [3, 2, 7] e).set 20 (.sl (q.map I64) .full)).set 21 x.v) = e0 at *
    generalize q.map I64 = Qv at *
    generalize p.map I64 = Pv at *
    have htkl : Pv.take p.length = Pv := by rw [← hlp]; exact List.take_length
    refine wpk_of ?_
    simp -implicitDefEqProofs [x1001800_w, x1001800r3_w, x1001800r4_w, t20, t21, D.okc, D.spl, D.cells_len, hend, send, get_m2, set_m2, hk4]
    refine wpk_of ?_
    simp -implicitDefEqProofs [x1001800_w, x1001800r1_w, x1001800r2_w, t20, t21, t2, t3, t7, D.rd, D.okc, D.spl2, D.cells_len, hend, send, get_m, get_m2, set_m, set_m2, hk4, hlp, hlq, hleI, h0q, hzp, c46, htk, htkl, Ex.num]
    simpa using hl6
  · have hbg' : begs p q = false := by simpa using hbg
    rw [if_neg hbg]
    rw [hbg'] at hbt
    have hl0 := hlow2 d (p.map I64) false 0 hlowp
    by_cases hle : q.length ≤ p.length
    · have heq' : decide (q = p.take q.length) = false := by simpa [hle] using hbt
      rw [heq'] at c46
      have hleI : (q.length : Int) ≤ p.length := by omega
      have h0q : (0 : Int) ≤ q.length := by omega
      refine round_at (tm := (((keepE 42 [3, 2, 7] e).set 20 (.sl (q.map I64) .full)).set 21 x.v)) hputs (by kernel_rfl) (by kernel_rfl) ?_
      generalize toE (((keepE 42 [3, 2, 7] e).set 20 (.sl (q.map I64) .full)).set 21 x.v) = e0 at *
      generalize q.map I64 = Qv at *
      generalize p.map I64 = Pv at *
      refine wpk_of ?_
      simp -implicitDefEqProofs [x1001800_w, x1001800r3_w, x1001800r4_w, t20, t21, D.okc, D.spl, D.cells_len, hend, send, get_m2, set_m2, hk4]
      refine wpk_of ?_
      simp -implicitDefEqProofs [x1001800_w, x1001800r1_w, x1001800r2_w, t20, t21, t2, t3, t7, D.rd, D.okc, D.cells_len, hend, send, get_m, get_m2, set_m, set_m2, hk4, hlp, hlq, hleI, h0q, hzp, c46, htk, Ex.num]
      simpa using hl0
    · have hleI : ¬ (q.length : Int) ≤ p.length := by omega
      refine round_at (tm := (((keepE 42 [3, 2, 7] e).set 20 (.sl (q.map I64) .full)).set 21 x.v)) hputs (by kernel_rfl) (by kernel_rfl) ?_
      generalize toE (((keepE 42 [3, 2, 7] e).set 20 (.sl (q.map I64) .full)).set 21 x.v) = e0 at *
      generalize q.map I64 = Qv at *
      generalize p.map I64 = Pv at *
      refine wpk_of ?_
      simp -implicitDefEqProofs [x1001800_w, x1001800r3_w, x1001800r4_w, t20, t21, D.okc, D.spl, D.cells_len, hend, send, get_m2, set_m2, hk4]
      refine wpk_of ?_
      simp -implicitDefEqProofs [x1001800_w, x1001800r1_w, x1001800r2_w, t20, t21, t2, t3, t7, D.rd, D.okc, D.cells_len, hend, send, get_m, get_m2, set_m, set_m2, hk4, hlp, hlq, hleI, htk, Ex.num]
      simpa using hl0
end Go.Proofs.YtkiliokeanmagaaDoor.Ab

namespace Go.Proofs.YtkiliokeanmagaaDoor.Ab
open Go
set_option linter.unusedVariables false
set_option linter.unusedSimpArgs false
set_option maxRecDepth 8000
set_option maxHeartbeats 2000000
def F18 (d : D) (p : List Int) (rest : List O) : Option (D × List Int) → List O
  | none => .cells d.v.cells :: .cells [pv p] :: (rest ++ [.cells [.c (.bool false)], .cells d.v.cells])
  | some (x, q) => .cells x.v.cells :: .cells [pv q] :: (rest ++ [.cells [.c (.bool true)], .cells d.v.cells])
def Z18 (p : List Int) : List Int → D → Option (D × List Int) → Option (D × List Int) × Nat := fun q x s => if begs p q = true then (some (x, p.drop q.length), 6) else (s, 0)
theorem walk18 (p : List Int) : ∀ L : List (List Int × D), walkS (Z18 p) L none = match fstP p L with
    | some (q, x) => (some (x, p.drop q.length), 6)
    | none => (none, 0)
  | [] => rfl
  | (q, x) :: L => by
    simp only [walkS, fstP, Z18]
    by_cases h : begs p q = true
    · simp [h]
    · simp only [h, if_false]
      exact walk18 p L
theorem rnd18 {n : Nat} {d : D} {p : List Int} {rest : List O} {e : Nat → V} (hn : 5 < n) (e2 : e 2 = .ref 0 0) (e3 : e 3 = .ref 1 0) (e7 : e 7 = .ref (rest.length + 1 + 1) 0) (hrest : rest.all (O.low (rest.length + 4)) = true) :
    PartRnd (n + 1) 1001800 (keepE 42 [3, 2, 7] e) (rest.length + 4) (F18 d p rest) (fun s => s = none) (fun _ => True) (Z18 p) d.parts where
  len := fun s => by cases s <;> simp [F18]
  low := fun s _ => by
    have h1 : ∀ m (p : List Int), V.lows m [pv p] = true := fun m p => by simp [V.lows, pv_low]
    cases s with
    | none =>
      simp only [F18, List.all_cons, List.all_append, olow_cells, D.low_cells, h1, hrest, Bool.true_and, List.all_nil, Bool.and_true]
      rfl
    | some s =>
      simp only [F18, List.all_cons, List.all_append, olow_cells, D.low_cells, h1, hrest, Bool.true_and, List.all_nil, Bool.and_true]
      rfl
  imp := fun _ _ => trivial
  pres := fun q x hin s hs => ⟨trivial, fun h0 => by
    subst hs
    unfold Z18 at h0 ⊢
    split at h0
    · simp at h0
    · rename_i h; simp [h]⟩
  rnd := fun q x hin s hs R hl => by
    subst hs
    have h3 := (parts_mem hin).2
    simp only [F18, List.cons_append, List.append_assoc, List.nil_append] at hl ⊢
    rw [round18 e2 e3 e7 rfl (by omega) (by omega) hl]
    unfold Z18
    by_cases hb : begs p q = true
    · simp [hb, F18]
    · simp [hb, F18]
theorem go18 (d : D) (p : List Int) (si : SI) (hl : d.sz < 10000000000) (hp : p.length < 1099511627776) {n : Nat} (hn : 4 * d.sz + 210 ≤ n) : Gives (n + 1) 18 [d.v, .sl (p.map I64) si] (.tup [.c (.bool (decide (d.err = 0) && d.sub p)), .c (.int .i64 d.err)]) := by
  obtain ⟨n, rfl⟩ : ∃ n', n = n' + 2 := ⟨n - 2, by omega⟩
  have c44 : ∀ h, call X E (n + 1 + 1) 44 [d.v] h = some (.c (.int .i64 d.err), h) := go44 d (by omega) (by omega)
  have c45 : ∀ (d : D) h, call X E (n + 1 + 1) 45 [d.v] h = some (.clo 72 [.ref h.length 0], h ++ [.cells d.v.cells]) := fun d => go45 d
  have hpv : (V.sl (p.map I64) si).vw2 = pv p := rfl
  show Gives ((n + 1 + 1) + 1) 18 [d.v, .sl (p.map I64) si] _
  refine gives_of rfl rfl rfl (by kernel_rfl) ⟨rfl, rfl⟩ (by simp [D.vw2, hpv, V.lows, D.low, pv_low]) ?_
  have hoc : okc (pv p) = true := rfl
  have hcl : ∀ p, (pv p).cells = [pv p] := fun _ => rfl
  by_cases h0 : d.err = 0
  rotate_left
  · have hb : (d.err != 0) = true := by simp [h0]
    generalize call X E (n + 1 + 1) = cf at *
    simp -implicitDefEqProofs [x18_w, x18_r, x18r1_w, x18r2_w, x18r3_w, x18r4_w, D.vw2, hpv, hoc, hcl, D.okc, D.rd, D.cells_len, c44, hb, h0]
    try simp [V.low, V.lows]
  rw [h0] at c44 ⊢
  have hlt : ∀ i : Int, ((0 : Int) < i) = (0 < i) := fun _ => rfl
  simp -implicitDefEqProofs [x18_w, x18r1_w, x18r2_w, x18r3_w, D.vw2, hpv, hoc, hcl, D.okc, D.rd, D.cells_len, c44]
  obtain ⟨I, hI⟩ : ∃ I : Nat → SF → Prop, ∀ k s, I k s ↔ (∃ (d' : D) (p' : List Int) (rest : List O), d'.sz ≤ k ∧ d'.sz ≤ d.sz ∧ d.sub p = d'.sub p' ∧ s.h = .cells d'.v.cells :: .cells [pv p'] :: rest ∧ rest.all (O.low (rest.length + 2)) = true ∧ s.e 2 = .ref 0 0 ∧ s.e 3 = .ref 1 0 ∧ s.base = 0) := ⟨_, fun _ _ => Iff.rfl⟩
  refine lpk_of I d.sz (by omega) ((hI _ _).2 ⟨d, p, [], Nat.le_refl _, Nat.le_refl _, rfl, by simp, rfl, by simp [upd_at], by simp [upd_at], rfl⟩) ?_
  rintro k ⟨e, h, base, rb⟩ hi
  obtain ⟨d', p', rest, hk, hd, hs, hh, hlr, e2, e3, hb⟩ := (hI _ _).1 hi
  simp only at hh e2 e3 hb
  subst hh hb
  rw [hs]
  cases p' with
  | nil =>
    have : d'.sub [] = true := subN_nil _ _
    rw [this]
    have hpe : pv [] = .sl [] .any := rfl
    rw [hpe]
    simp -implicitDefEqProofs [x18l10_w, x18_r, x18r5_w, x18r11_w, e2, e3]
    try simp [V.low, V.lows]
  | cons i p' =>
    have hpe : pv (i :: p') = .sl (I64 i :: p'.map I64) .any := rfl
    have hse := sub_eq d' i p'
    have hpos : (0 : Int) < (p'.length : Int) + 1 := by omega
    have c45' := c45 d'
    have hw18 := walk18 (i :: p') d'.parts
    generalize hP : i :: p' = P at *
    generalize hbs : d'.sub P = bs at *
    have hlen : (V.sl (I64 i :: p'.map I64) SI.any) = pv P := hpe.symm
    have hll : lenF (pv P) = fun h => some (.c (.int .i64 ((p'.length : Int) + 1)), h) := by rw [hpe]; funext h; simp [lenF]
    have hcn : ∀ h, lenF (pv P) h = some (.c (.int .i64 ((p'.length : Int) + 1)), h) := fun h => by rw [hll]
    simp -implicitDefEqProofs [x18l10_w, x18r5_w, x18r6_w, x18r7_w, e2, e3, D.rd, D.okc, D.cells_len, hcn, hpos, set_m, set_m1, c45']
    refine wpk_parts (σ := Option (D × List Int)) (d := d') (n := n + 1) (c := rest.length + 3) (N := rest.length + 4) (F := F18 d' P rest) (P := fun s => s = none) (W := fun _ => True) (Z := Z18 P) (s0 := none) ?_ ?_ ?_ (by decide) (rnd18 ?_ ?_ ?_ ?_ ?_) ?_ ?_ rfl ?_
    · simp [upd_at]
    · omega
    · omega
    · omega
    · simp [upd_at, e2]
    · simp [upd_at, e3]
    · simp [upd_at]
    · exact olow_mono (by omega) hlr
    · simp [F18]
    · rintro s rfl
      simp [F18, get_m1]
    · rintro s1 - m1 hw
      rw [hw18] at hw
      cases hf : fstP P d'.parts with
      | none =>
        rw [hf] at hw hse
        simp only [Prod.mk.injEq] at hw
        obtain ⟨rfl, rfl⟩ := hw
        refine ⟨.normal, rfl, ?_⟩
        subst hse
        simp only [F18, List.cons_append, List.append_assoc, List.nil_append]
        simp -implicitDefEqProofs [x18_r, x18r8_w, x18r9_w, get_m]
        try simp [V.low, V.lows]
      | some r =>
        obtain ⟨q, x⟩ := r
        rw [hf] at hw hse
        simp only [Prod.mk.injEq] at hw hse
        obtain ⟨rfl, rfl⟩ := hw
        refine ⟨.exit 2, rfl, ?_⟩
        have hpm := parts_mem (fstP_mem hf).1
        simp only [F18, List.cons_append, List.append_assoc, List.nil_append]
        simp -implicitDefEqProofs [x18r8_w, x18r9_w, get_m]
        refine ⟨x.sz, by omega, (hI _ _).2 ⟨x, P.drop q.length, rest ++ [.cells [.c (.bool true)], .cells d'.v.cells, .loop 2], Nat.le_refl _, by omega, by rw [hs, hse], by simp, ?_, by simp [upd_at, e2], by simp [upd_at, e3], rfl⟩⟩
        simp only [List.all_append, Bool.and_eq_true, List.all_cons, olow_cells, D.low_cells, List.all_nil]
        exact ⟨olow_mono (by simp) hlr, rfl, trivial, rfl, trivial⟩
theorem go24 : ∀ (f : Nat) (d : D) (p : List Int), d.fm = true → d.sz ≤ f → d.sz < 100000000000 → p.length < 1099511627776 → ∀ n, 4 * d.sz + 120 ≤ n → Gives n 24 [d.v, pv p] (.c (.bool (d.sub p)))
  | 0, d, _, _, h, _, _, _, _ => by have := D.sz_pos d; omega
  | f + 1, d, p, hfm, hf, hl, hp, n, hn => by
    obtain ⟨n, rfl⟩ : ∃ n', n = n' + 2 := ⟨n - 2, by omega⟩
    have c32 : ∀ h, call X E (n + 1) 32 [d.v] h = some (.sl (pvs d.rp) .any, h) := go32 d hfm (by omega) (by omega)
    have c55 : ∀ h, call X E (n + 1) 55 [d.v] h = some (.sl (D.vs d.subs) .any, h) := go55 d hfm (by omega) (by omega)
    have hsub : ∀ j (h : j < d.rp.length), (d.rp[j], d.subs[j]'(by rw [subs_len]; exact h)) ∈ d.parts := fun j h => by rw [← parts_get h]; exact List.getElem_mem _
    have c24 : ∀ j (h : j < d.rp.length) hh, call X E (n + 1) 24 [(d.subs[j]'(by rw [subs_len]; exact h)).v, pv (p.drop (d.rp[j]).length)] hh = some (.c (.bool ((d.subs[j]'(by rw [subs_len]; exact h)).sub (p.drop (d.rp[j]).length))), hh) := fun j h => by
      have h1 := parts_mem (hsub j h)
      exact go24 f _ _ (D.at_fm _ _ _ (rp_at h) hfm) (by omega) (by omega) (by simp; omega) (n + 1) (by omega)
    have c38 : ∀ j (h : j < d.rp.length) hh, call X E (n + 1) 38 [pv p, pv d.rp[j]] hh = some (.c (.bool (begs p d.rp[j])), hh) := fun j h => by
      have h1 := parts_mem (hsub j h)
      exact run40 (by omega) (by omega)
    have hnum := parts_num d
    have hpl := parts_len d
    have hpv : (pv p).vw2 = pv p := rfl
    show Gives ((n + 1) + 1) 24 [d.v, pv p] _
    generalize hnm : n + 1 = m at *
    refine gives_of rfl rfl rfl (by kernel_rfl) ⟨rfl, rfl⟩ (by simp [D.vw2, hpv, V.lows, D.low, pv_low]) ?_
    cases p with
    | nil =>
      have : d.sub [] = true := subN_nil _ _
      rw [this]
      have hpe : pv [] = .sl [] .any := rfl
      rw [hpe]
      simp -implicitDefEqProofs [x24_w, x24_r, x24r1_w, x24r2_w, x24r3_w, D.vw2, D.okc, D.rd, D.cells_len]
    | cons i p' =>
      have hse := sub_eq d i p'
      have hpe : pv (i :: p') = .sl (I64 i :: p'.map I64) .any := rfl
      have hne : (((p'.length : Int) + 1) == 0) = false := by simp; omega
      have hll : ∀ h, lenF (pv (i :: p')) h = some (.c (.int .i64 ((p'.length : Int) + 1)), h) := fun h => by simp [hpe, lenF]
      have hpL : (i :: p').length = p'.length + 1 := rfl
      generalize hP : i :: p' = P at *
      generalize hB : d.sub P = B at *
      simp -implicitDefEqProofs [x24_w, x24r1_w, x24r2_w, x24r4_w, x24r5_w, D.vw2, hpv, D.okc, D.rd, D.cells_len, hll, hne, c32, c55]
      obtain ⟨I, hI⟩ : ∃ I : Nat → SF → Prop, ∀ k s, I k s ↔ (∃ j : Nat, j + k = d.rp.length ∧ s.e 7 = .c (.int .i64 j) ∧ fstP P d.parts = fstP P (d.parts.drop j) ∧ s.e 1 = pv P ∧ s.e 5 = .sl (pvs d.rp) .any ∧ s.e 6 = .sl (D.vs d.subs) .any ∧ s.base = 0) := ⟨_, fun _ _ => Iff.rfl⟩
      refine lpk_of I d.rp.length (by omega) ((hI _ _).2 ⟨0, by simp, by simp [upd_at], by simp, by simp [upd_at, arg0], by simp [upd_at], by simp [upd_at], rfl⟩) ?_
      rintro k ⟨e, h, base, rb⟩ hi
      obtain ⟨j, hj, e7, hfs, e1, e5, e6, hb⟩ := (hI _ _).1 hi
      simp only at e7 e1 e5 e6 hb
      subst hb
      have hsl := subs_len d
      have hvl : (D.vs d.subs).length = d.rp.length := by rw [D.vs_len, hsl]
      have hpvl := pvs_len d.rp
      by_cases hm : j < d.rp.length
      · have hlt : (j : Int) < d.rp.length := by omega
        have hvg : (D.vs d.subs)[j]'(by omega) = (d.subs[j]'(by omega)).v := D.vs_getE _
        have hqg : (pvs d.rp)[j]'(by omega) = pv d.rp[j] := by simp [pvs]
        have hc := c24 j hm
        have hc38 := c38 j hm
        have hd : d.parts.drop j = (d.rp[j], d.subs[j]'(by omega)) :: d.parts.drop (j + 1) := by
          rw [← parts_get hm]; exact List.drop_eq_getElem_cons (by omega)
        rw [hd, fstP] at hfs
        generalize hx : d.subs[j]'(by omega) = x at *
        generalize hq : d.rp[j] = q at *
        have hw : IntKind.i64.wrap ((j : Int) + 1) = (j : Int) + 1 := wrap_in (by omega)
        have hcl : (pv q).cells = [pv q] := rfl
        by_cases hbg : begs P q = true
        · rw [if_pos hbg] at hfs
          rw [hbg] at hc38
          rw [hfs] at hse
          have hle : (q.length : Int) ≤ P.length := by have := begs_len P q hbg; omega
          have hsl2 : ∀ h, slF (pv P) 1 (fun i => some i) (some (q.length : Int)) h = some (pv (P.drop q.length), h) := fun h => by
            rw [pv, slF_sl, cutL_s]
            have : (P.map I64).length = P.length := List.length_map _
            rw [this, if_pos ⟨by omega, hle, by omega, hz_I64 P⟩]
            have tk : (P.map I64).take P.length = P.map I64 := List.take_of_length_le (by omega)
            simp [pv, tk, List.map_drop]
          have hlq : ∀ h, lenF (pv q) h = some (.c (.int .i64 q.length), h) := fun h => by simp [pv, lenF]
          simp only at hse
          rw [← hse] at hc
          generalize pv (P.drop q.length) = P2 at *
          generalize hpq : pv q = pq at *
          generalize hpP : pv P = pP at *
          simp -implicitDefEqProofs [x24l10_w, x24_r, x24r6_w, x24r7_w, x24r8_w, e1, e5, e6, e7, hvl, hpvl, hvg, hqg, hcl, hlt, hm, hc38, hlq, hsl2, hc, D.cells_len, D.rd, D.okc]
        · have hbg' : begs P q = false := by simpa using hbg
          rw [if_neg hbg] at hfs
          rw [hbg'] at hc38
          generalize hpq : pv q = pq at *
          simp -implicitDefEqProofs [x24l10_w, x24r6_w, x24r7_w, x24r9_w, e1, e5, e6, e7, hvl, hpvl, hvg, hqg, hcl, hlt, hm, hc38, D.cells_len, D.rd, D.okc]
          refine ⟨k - 1, by omega, (hI _ _).2 ⟨j + 1, by omega, by simp [upd_at, hw], hfs, by simp [upd_at, e1], by simp [upd_at, e5], by simp [upd_at, e6], rfl⟩⟩
      · have hlt : ¬ (j : Int) < d.rp.length := by omega
        rw [List.drop_of_length_le (by omega)] at hfs
        rw [hfs] at hse
        simp only [fstP] at hse
        subst hse
        simp -implicitDefEqProofs [x24l10_w, x24_r, x24r6_w, x24r11_w, e5, e7, hpvl, hlt]
end Go.Proofs.YtkiliokeanmagaaDoor.Ab

namespace Go.Proofs.YtkiliokeanmagaaDoor.Ab
open Go
set_option linter.unusedVariables false
set_option linter.unusedSimpArgs false
set_option maxRecDepth 8000
set_option maxHeartbeats 2000000
theorem alive_g {n : Nat} (hn : 60 ≤ n) : ∀ h, call X E n 14 [] h = some (.c (.bool true), h) := gives_nil rfl (alive_up hn)
end Go.Proofs.YtkiliokeanmagaaDoor.Ab

