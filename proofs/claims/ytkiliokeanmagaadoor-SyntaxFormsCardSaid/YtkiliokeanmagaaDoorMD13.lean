/- SyntaxForms returns true for every datum, and does not change it; the package's variable lies as its row lists it. -/
import Derived.Test.YtkiliokeanmagaaDoorMD12
import Derived.ProofKit
import Derived.ChangeMaps5
import Derived.Carry
import Derived.Test.YtkiliokeanmagaaDoorRows
import Derived.LaidMore
import Derived.OpenShut
import Derived.Stop.Joined
import Derived.Test.YtkiliokeanmagaaDoorCards
import Derived.Test.YtkiliokeanmagaaDoorTie
import Derived.SevenTiedAt
namespace Go.Proofs.YtkiliokeanmagaaDoor.Ab
open Go
set_option linter.unusedVariables false
set_option linter.unusedSimpArgs false
set_option maxRecDepth 8000
set_option maxHeartbeats 2000000
theorem form_cases (d : D) : d.form = 0 ∨ d.form = 1 ∨ d.form = 2 ∨ d.form = 3 ∨ d.form = 4 ∨ d.form = 5 ∨ d.form = 6 ∨ d.form = 7 ∨ d.form = 8 ∨ d.form = 9 ∨ d.form = 10 := by
  obtain ⟨k, i, t, l⟩ := d
  simp only [D.form]
  have := form0_cases l
  repeat' split
  all_goals omega
theorem form_len {d : D} : (d.form = 4 → d.kids.length = 4) ∧ (d.form = 8 → d.kids.length = 3) ∧ (d.form = 6 → d.kids.length = 4) ∧ (d.form = 5 → d.kids.length = 3) ∧ (d.form = 9 → d.kids.length = 3) ∧ (d.form = 7 → d.kids.length = 3 ∧ grp (d.kid 1) = true) := by
  obtain ⟨k, i, t, l⟩ := d
  have key : ∀ f : Int, 3 ≤ f → f ≤ 9 → (D.mk k i t l).form = f → okF f l = true := by
    intro f h1 h2 hf
    simp only [D.form] at hf
    split at hf
    · omega
    · split at hf
      · split at hf <;> omega
      · split at hf
        · omega
        · split at hf
          · rename_i hok
            split at hf
            · omega
            · rw [hf] at hok; exact hok
          · omega
  refine ⟨fun h => ?_, fun h => ?_, fun h => ?_, fun h => ?_, fun h => ?_, fun h => ?_⟩ <;>
  · have := key _ (by omega) (by omega) h
    simp [okF] at this
    simp only [D.kids, D.kid, List.getD_eq_getElem?_getD]
    first | exact this | exact this.1 | exact ⟨this.1, this.2⟩
theorem tail72 {cf : CallF} {n : Nat} {Y : List Int → D → List O → Option (Bool × List O)} {P : List O → Prop} {kd ni : Int} {t : ByteArray} {l : List D} {frm N c : Nat} {W : Bool × List O} {k : Int} (hk : 0 ≤ k) {y : Nat} (hy : 1000000 ≤ y) {caps : List V} (hl : l.length < 1099511627776) (hfr : frm < 10) (hfl : frm ≤ l.length) (hn : l.length < n)
    (hcell : ∀ G : List O, N ≤ G.length → P (G.take N) → G[c]? = some (.cells [.c (.int .i64 kd), .c (.int .i64 ni), .c (.string t), .sl (D.vs l) .any]))
    (hY : YAt cf k y caps N P Y (sub1 frm (l.drop frm) 0)) (hlow : W.2.all (O.low N) = true) (s : SF) (hN : N ≤ s.h.length) (hP : P (s.h.take N)) (hw : walkY Y (sub1 frm (l.drop frm) 0) (s.h.take N) = some W) (hlw : lowH s.h)
    (e1 : s.e 1 = .ref c 0) (e3 : s.e 3 = .c (.int .i64 frm)) (e0 : s.e 0 = .yld k.toNat y 2 caps) (hb : s.base = N) :
    wpk cf n (.seq x72r19 (.block 3 (.loop x72l24))) [] (Fin (fun vs s => (resOf vs).vw = .tup [] ∧ (V.tup []).low N = true ∧ s.take N = W.2 ∧ W.2.all (O.low N) = true) x72) s := by
  obtain ⟨e, h, base, rb⟩ := s
  simp only at hN hP hw hlw e1 e3 e0 hb
  subst hb
  have hc := hcell h hN hP
  have hvl := D.vs_len l
  have hdv : (D.vs l).drop frm = D.vs (l.drop frm) := by rw [D.vs_map, D.vs_map, List.map_drop]
  have htk : (D.vs l).take l.length = D.vs l := by rw [List.take_of_length_le (by omega)]
  have hI : (0 : Int) ≤ frm ∧ (frm : Int) ≤ l.length := ⟨by omega, by omega⟩
  have hhz := D.hz l
  have hdl : (D.vs (l.drop frm)).length = (l.drop frm).length := D.vs_len _
  generalize D.vs l = U at *
  simp -implicitDefEqProofs [x72r19_w, e1, e3, e0, hc, hvl, hdv, htk, hI.1, hI.2, hhz]
  have hlow' : ∀ x, x ∈ W.2 → O.low base x = true := fun x hx => List.all_eq_true.1 hlow x hx
  have hfin : ∀ s : SF, W.2 = s.h.take base → (resOf ([] : List V)).vw = V.tup [] ∧ V.low base (V.tup []) = true ∧ List.take base s.h = W.2 ∧ ∀ (x : O), x ∈ W.2 → O.low base x = true := fun s h1 => ⟨rfl, by simp [V.low, V.lows], h1.symm, hlow'⟩
  refine lpk_of (J72 Y P (l.drop frm) frm base W k y caps) (l.drop frm).length (by simp; omega) ⟨⟨0, by simp, by simp [upd_at], hN, hP, by simpa using hw, hlw⟩, by simp [upd_at], by simp [upd_at, hdl], by simp [upd_at, e3], by simp [upd_at, e0], rfl⟩ ?_
  refine jstep72 hk hy (by simp; omega) hfr hY (fun s h1 h2 h3 h4 => ?_) fun s h1 h2 h4 => ?_
  · have := hfin s (by rw [h2])
    simp -implicitDefEqProofs [x72_r]
    exact this
  · have := hfin s (by rw [h2])
    simp -implicitDefEqProofs [x72_r]
    exact this
theorem YAt.sub {cf : CallF} {k : Int} {y : Nat} {caps : List V} {N : Nat} {P : List O → Prop} {Y : List Int → D → List O → Option (Bool × List O)} {L L' : List (List Int × D)} (h : YAt cf k y caps N P Y L) (hs : ∀ z ∈ L', z ∈ L) : YAt cf k y caps N P Y L' :=
  fun p x hin => h p x (hs _ hin)
theorem go72 (d : D) {n : Nat} (hn : d.sz + 10 < n) (hl : d.sz < 1099511627776) {H : List O} {c : Nat} {k : Int} (hk : 0 ≤ k) {y : Nat} (hy : 1000000 ≤ y) {caps : List V} {Y : List Int → D → List O → Option (Bool × List O)} {P : List O → Prop} {W : Bool × List O}
    (hcell : ∀ G : List O, H.length ≤ G.length → P (G.take H.length) → G[c]? = some (.cells d.v.cells)) (hP : P H) (hY : YAt (call X E n) k y caps H.length P Y d.parts) (hw : walkY Y d.parts H = some W) (hlow : W.2.all (O.low H.length) = true) (hlH : lowH H) :
    call X E (n + 1) 72 [.yld k.toNat y 2 caps, .ref c 0] H = some (.tup [], W.2) := by
  have hE : E 72 = none := rfl
  have hX : X 72 = some x72 := rfl
  simp only [call, hE, hX, show x72.asg = none from rfl]
  obtain ⟨n, rfl⟩ : ∃ n', n = n' + 1 := ⟨n - 1, by omega⟩
  have c54 : ∀ h, call X E (n + 1) 54 [d.v] h = some (.c (.int .i64 d.form), h) := go54 d (by omega) hl
  have hkl := kids_lt d
  have hfl := form_len (d := d)
  have hfc := form_cases d
  have hHc := hcell H (Nat.le_refl _) (by rw [List.take_of_length_le (Nat.le_refl _)]; exact hP)
  have hvw : ([V.yld k.toNat y 2 caps, .ref c 0] : List V).map V.vw2 = [.yld k.toNat y 2 caps, .ref c 0] := rfl
  refine runF_at (by kernel_rfl) rfl rfl (wpk_of ?_)
  rw [hvw]
  have hl1 : d.kids.length < 1099511627776 := by omega
  have hl2 : d.kids.length < n + 1 := by omega
  generalize hm : n + 1 = m at *
  have tail : ∀ (frm : Nat) (s : SF), frm < 10 → frm ≤ d.kids.length → (∀ z ∈ sub1 frm (d.kids.drop frm) 0, z ∈ d.parts) → H.length ≤ s.h.length → P (s.h.take H.length) → walkY Y (sub1 frm (d.kids.drop frm) 0) (s.h.take H.length) = some W → lowH s.h → s.e 1 = .ref c 0 → s.e 3 = .c (.int .i64 frm) → s.e 0 = .yld k.toNat y 2 caps → s.base = H.length →
      wpk (call X E m) m (.seq x72r19 (.block 3 (.loop x72l24))) [] (Fin (fun vs s => (resOf vs).vw = .tup [] ∧ (V.tup []).low H.length = true ∧ s.take H.length = W.2 ∧ W.2.all (O.low H.length) = true) x72) s := by
    intro frm s h1 h2 h3 h4 h5 h6 h7 e1 e3 e0 hb
    obtain ⟨kd, ni, t, l⟩ := d
    exact tail72 hk hy (show l.length < _ from hl1) h1 h2 (show l.length < _ from hl2) hcell (hY.sub h3) hlow s h4 h5 h6 h7 e1 e3 e0 hb
  have hT : ∀ G : List O, G.length = H.length → G.take H.length = G := fun G hG => List.take_of_length_le (by omega)
  have htH : H.take H.length = H := List.take_of_length_le (Nat.le_refl _)
  rw [x72_w]
  obtain ⟨T, hTt⟩ : ∃ T, T = XC.seq x72r19 (.block 3 (.loop x72l24)) := ⟨_, rfl⟩
  rw [← hTt]
  rw [← hTt] at tail
  clear hTt
  obtain ⟨Q0, hQ0⟩ : ∃ Q0, Q0 = (Fin (fun vs s => (resOf vs).vw = .tup [] ∧ (V.tup []).low H.length = true ∧ s.take H.length = W.2 ∧ W.2.all (O.low H.length) = true) x72) := ⟨_, rfl⟩
  rw [← hQ0]
  rw [← hQ0] at tail
  rcases hfc with hf | hf | hf | hf | hf | hf | hf | hf | hf | hf | hf
  all_goals rw [hf] at c54
  · have hp : d.parts = [] := by simp [D.parts, hf]
    rw [hp] at hw
    simp only [walkY, Option.some.injEq] at hw
    have h1 : W.2 = H := by rw [← hw]
    have h2 : (resOf ([] : List V)).vw = V.tup [] ∧ V.low H.length (V.tup []) = true ∧ H.take H.length = W.2 ∧ W.2.all (O.low H.length) = true := ⟨rfl, by simp [V.low, V.lows], by rw [h1, htH], hlow⟩
    subst hQ0
    clear tail
    generalize W.2 = Z at *
    simp -implicitDefEqProofs [x72r1_w, x72r2_w, x72r3_w, x72r4_w, x72r5_w, x72r6_w, x72r7_w, x72r8_w, x72r9_w, x72r10_w, x72r18_w, hHc, D.rd, c54, x72_r]
    exact ⟨h2.1, h2.2.1, by rw [← htH]; exact h2.2.2.1, fun x hx => List.all_eq_true.1 h2.2.2.2 x hx⟩
  · have hp : d.parts = [] := by simp [D.parts, hf]
    rw [hp] at hw
    simp only [walkY, Option.some.injEq] at hw
    have h1 : W.2 = H := by rw [← hw]
    have h2 : (resOf ([] : List V)).vw = V.tup [] ∧ V.low H.length (V.tup []) = true ∧ H.take H.length = W.2 ∧ W.2.all (O.low H.length) = true := ⟨rfl, by simp [V.low, V.lows], by rw [h1, htH], hlow⟩
    subst hQ0
    clear tail
    generalize W.2 = Z at *
    simp -implicitDefEqProofs [x72r1_w, x72r2_w, x72r3_w, x72r4_w, x72r5_w, x72r6_w, x72r7_w, x72r8_w, x72r9_w, x72r10_w, x72r18_w, hHc, D.rd, c54, x72_r]
    exact ⟨h2.1, h2.2.1, by rw [← htH]; exact h2.2.2.1, fun x hx => List.all_eq_true.1 h2.2.2.2 x hx⟩
  · have hp : d.parts = [] := by simp [D.parts, hf]
    rw [hp] at hw
    simp only [walkY, Option.some.injEq] at hw
    have h1 : W.2 = H := by rw [← hw]
    have h2 : (resOf ([] : List V)).vw = V.tup [] ∧ V.low H.length (V.tup []) = true ∧ H.take H.length = W.2 ∧ W.2.all (O.low H.length) = true := ⟨rfl, by simp [V.low, V.lows], by rw [h1, htH], hlow⟩
    subst hQ0
    clear tail
    generalize W.2 = Z at *
    simp -implicitDefEqProofs [x72r1_w, x72r2_w, x72r3_w, x72r4_w, x72r5_w, x72r6_w, x72r7_w, x72r8_w, x72r9_w, x72r10_w, x72r18_w, hHc, D.rd, c54, x72_r]
    exact ⟨h2.1, h2.2.1, by rw [← htH]; exact h2.2.2.1, fun x hx => List.all_eq_true.1 h2.2.2.2 x hx⟩
  · have hp : d.parts = [] := by simp [D.parts, hf]
    rw [hp] at hw
    simp only [walkY, Option.some.injEq] at hw
    have h1 : W.2 = H := by rw [← hw]
    have h2 : (resOf ([] : List V)).vw = V.tup [] ∧ V.low H.length (V.tup []) = true ∧ H.take H.length = W.2 ∧ W.2.all (O.low H.length) = true := ⟨rfl, by simp [V.low, V.lows], by rw [h1, htH], hlow⟩
    subst hQ0
    clear tail
    generalize W.2 = Z at *
    simp -implicitDefEqProofs [x72r1_w, x72r2_w, x72r3_w, x72r4_w, x72r5_w, x72r6_w, x72r7_w, x72r8_w, x72r9_w, x72r10_w, x72r18_w, hHc, D.rd, c54, x72_r]
    exact ⟨h2.1, h2.2.1, by rw [← htH]; exact h2.2.2.1, fun x hx => List.all_eq_true.1 h2.2.2.2 x hx⟩
  · have hp : d.parts = sub1 1 (d.kids.drop 1) 0 := by simp [D.parts, hf]
    have htl := fun s => tail 1 s (by omega) (by omega) (by rw [hp]; exact fun z hz => hz)
    rw [← hp] at htl
    clear tail
    simp -implicitDefEqProofs [x72r1_w, x72r2_w, x72r3_w, x72r4_w, x72r5_w, x72r6_w, x72r7_w, x72r8_w, x72r9_w, x72r10_w, x72r18_w, hHc, D.rd, c54]
    refine htl _ (Nat.le_refl _) (by rw [htH]; exact hP) (by rw [htH]; exact hw) hlH ?_ ?_ ?_ rfl
    · simp [upd_at, arg0]
    · simp [upd_at]
    · simp [upd_at, arg0]
  · have hp : d.parts = sub1 2 (d.kids.drop 2) 0 := by simp [D.parts, hf]
    have htl := fun s => tail 2 s (by omega) (by omega) (by rw [hp]; exact fun z hz => hz)
    rw [← hp] at htl
    clear tail
    simp -implicitDefEqProofs [x72r1_w, x72r2_w, x72r3_w, x72r4_w, x72r5_w, x72r6_w, x72r7_w, x72r8_w, x72r9_w, x72r10_w, x72r18_w, hHc, D.rd, c54]
    refine htl _ (Nat.le_refl _) (by rw [htH]; exact hP) (by rw [htH]; exact hw) hlH ?_ ?_ ?_ rfl
    · simp [upd_at, arg0]
    · simp [upd_at]
    · simp [upd_at, arg0]
  · have hp : d.parts = sub1 2 (d.kids.drop 2) 0 := by simp [D.parts, hf]
    have htl := fun s => tail 2 s (by omega) (by omega) (by rw [hp]; exact fun z hz => hz)
    rw [← hp] at htl
    clear tail
    simp -implicitDefEqProofs [x72r1_w, x72r2_w, x72r3_w, x72r4_w, x72r5_w, x72r6_w, x72r7_w, x72r8_w, x72r9_w, x72r10_w, x72r18_w, hHc, D.rd, c54]
    refine htl _ (Nat.le_refl _) (by rw [htH]; exact hP) (by rw [htH]; exact hw) hlH ?_ ?_ ?_ rfl
    · simp [upd_at, arg0]
    · simp [upd_at]
    · simp [upd_at, arg0]
  · have hg := (hfl.2.2.2.2.2 hf).2
    have h3 := (hfl.2.2.2.2.2 hf).1
    have hp : d.parts = recs (d.kid 1).kids 0 ++ sub1 2 (d.kids.drop 2) 0 := by simp [D.parts, hf]
    have htl := fun s => tail 2 s (by omega) (by omega) (by rw [hp]; exact fun z hz => List.mem_append_right _ hz)
    clear tail
    obtain ⟨kd, ni, t, l⟩ := d
    obtain ⟨a, b, c', rfl⟩ := list3 h3
    have hk1 : (D.mk kd ni t [a, b, c']).kid 1 = b := rfl
    rw [hk1] at hg hp
    have hdef : ∀ x ∈ b.kids, x.kids.length = 3 := by
      simp only [grp, Bool.and_eq_true] at hg
      intro x hx
      have := List.all_eq_true.1 hg.2.2.2.1 x hx
      simp only [defB, Bool.and_eq_true, beq_iff_eq] at this
      exact this.2.1
    rw [hp] at hw hY
    have hYr := hY.sub (L' := recs b.kids 0) fun z hz => List.mem_append_left _ hz
    obtain ⟨kb, ib, tb, lb⟩ := b
    simp only [D.kids] at hdef hYr hw
    have hbl : lb.length < 1099511627776 ∧ lb.length < m := by
      have h1 := kids_lt (.mk kb ib tb lb)
      have h2 := kid_lt (d := .mk kd ni t [a, .mk kb ib tb lb, c']) (x := .mk kb ib tb lb) (by simp [D.kids])
      simp only [D.kids] at h1
      omega
    have hHc2 : H[c]? = some (.cells [.c (.int .i64 kd), .c (.int .i64 ni), .c (.string t), .sl [a.v, .agg [.c (.int .i64 kb), .c (.int .i64 ib), .c (.string tb), .sl (D.vs lb) .any], c'.v] .any]) := hHc
    have hdv : (D.mk kd ni t [a, .mk kb ib tb lb, c']).v = .agg [.c (.int .i64 kd), .c (.int .i64 ni), .c (.string t), .sl [a.v, .agg [.c (.int .i64 kb), .c (.int .i64 ib), .c (.string tb), .sl (D.vs lb) .any], c'.v] .any] := rfl
    rw [hdv] at c54
    have hvl := D.vs_len lb
    simp -implicitDefEqProofs [x72r1_w, x72r2_w, x72r3_w, x72r4_w, x72r5_w, x72r6_w, x72r7_w, x72r8_w, x72r9_w, x72r10_w, x72r11_w, hHc2, c54, hvl]
    refine lpk_of (K72 Y P lb (sub1 2 [c'] 0) H.length W k y caps (.ref c 0)) lb.length hbl.2 ⟨⟨0, by simp, by simp [upd_at], Nat.le_refl _, by rw [htH]; exact hP, by rw [htH]; exact hw, hlH⟩, by simp [upd_at], by simp [upd_at], by simp [upd_at, arg0], by simp [upd_at, arg0], rfl⟩ ?_
    refine kstep72 hk hy hbl.1 hdef hYr (fun s h1 h0 h2 h3 h4 h5 h6 => ?_) fun s h1 h2 h4 => ?_
    · obtain ⟨e, h, base, rb⟩ := s
      simp only at h1 h0 h2 h3 h4 h5 h6
      subst h6
      simp -implicitDefEqProofs [x72r17_w]
      exact htl _ h1 h3 h2 h0 (by simp [upd_at, h4]) (by simp [upd_at]) (by simp [upd_at, h5]) rfl
    · subst hQ0
      have := List.all_eq_true.1 hlow
      simp -implicitDefEqProofs [x72_r]
      exact ⟨rfl, by simp [V.low, V.lows], by rw [h2], this⟩
  · have hp : d.parts = sub1 1 (d.kids.drop 1) 0 := by simp [D.parts, hf]
    have htl := fun s => tail 1 s (by omega) (by omega) (by rw [hp]; exact fun z hz => hz)
    rw [← hp] at htl
    clear tail
    simp -implicitDefEqProofs [x72r1_w, x72r2_w, x72r3_w, x72r4_w, x72r5_w, x72r6_w, x72r7_w, x72r8_w, x72r9_w, x72r10_w, x72r18_w, hHc, D.rd, c54]
    refine htl _ (Nat.le_refl _) (by rw [htH]; exact hP) (by rw [htH]; exact hw) hlH ?_ ?_ ?_ rfl
    · simp [upd_at, arg0]
    · simp [upd_at]
    · simp [upd_at, arg0]
  · have hp : d.parts = sub1 2 (d.kids.drop 2) 0 := by simp [D.parts, hf]
    have htl := fun s => tail 2 s (by omega) (by omega) (by rw [hp]; exact fun z hz => hz)
    rw [← hp] at htl
    clear tail
    simp -implicitDefEqProofs [x72r1_w, x72r2_w, x72r3_w, x72r4_w, x72r5_w, x72r6_w, x72r7_w, x72r8_w, x72r9_w, x72r10_w, x72r18_w, hHc, D.rd, c54]
    refine htl _ (Nat.le_refl _) (by rw [htH]; exact hP) (by rw [htH]; exact hw) hlH ?_ ?_ ?_ rfl
    · simp [upd_at, arg0]
    · simp [upd_at]
    · simp [upd_at, arg0]
  · have hp : d.parts = sub1 0 (d.kids.drop 0) 0 := by simp [D.parts, hf]
    have htl := fun s => tail 0 s (by omega) (by omega) (by rw [hp]; exact fun z hz => hz)
    rw [← hp] at htl
    clear tail
    simp -implicitDefEqProofs [x72r1_w, x72r2_w, x72r3_w, x72r4_w, x72r5_w, x72r6_w, x72r7_w, x72r8_w, x72r9_w, x72r10_w, x72r18_w, hHc, D.rd, c54]
    refine htl _ (Nat.le_refl _) (by rw [htH]; exact hP) (by rw [htH]; exact hw) hlH ?_ ?_ ?_ rfl
    · simp [upd_at, arg0]
    · simp [upd_at]
    · simp [upd_at, arg0]
end Go.Proofs.YtkiliokeanmagaaDoor.Ab

namespace Go.Proofs.YtkiliokeanmagaaDoor.Ab
open Go
set_option linter.unusedVariables false
set_option linter.unusedSimpArgs false
set_option maxRecDepth 8000
set_option maxHeartbeats 2000000
theorem D.shift (m : Nat) : ∀ d : D, d.v.shift m = d.v := by
  refine D.ind fun k n t l ih => ?_
  have h : V.shifts m (D.vs l) = D.vs l := by
    rw [shifts_map, D.vs_map, List.map_map]
    exact List.map_congr_left fun x hx => ih x hx
  simp [D.v, V.shift, V.shifts, h, SI.shift]
theorem runF_esc {cf : CallF} {n : Nat} {xf : XF} {args : List V} {h : List O} {P : V → List O → Prop} (hx : xfOk xf args.length = true) (hp : xf.pure = true) (he : xf.esc = true) (hl : V.lows 0 (args.map V.vw2) = true)
    (hw : wpx cf n xf.body ⟨arg0 (args.map V.vw2), [], 0, 0⟩ (Fin (fun vs s => P (resOf vs).vw s) xf)) (hr : xf.rw = false := by rfl) : ∃ v H, P v H ∧ runF cf n xf args h = some (v.shift h.length, h ++ H.map (O.shift h.length)) := by
  have := exec_of (cf := cf) (n := n) (xf := xf) (args := args.map V.vw2) (h := []) (by simpa using hx) hw
  obtain ⟨e, s, vs, h1, h2, h3, h4, h5⟩ := this
  refine ⟨(resOf vs).vw, s.h, h5, ?_⟩
  unfold runF
  rw [if_pos hp, if_pos hl, if_pos he, show pre0 xf = [] by simp [pre0, hr], h1]
  cases e with
  | exit id => exact absurd rfl (h2 id)
  | normal => simp [fin, h3]
  | ret => simp [fin, h3]
theorem go45 (d : D) {n : Nat} (h : List O) : call X E (n + 1) 45 [d.v] h = some (.clo 72 [.ref h.length 0], h ++ [.cells d.v.cells]) := by
  have hE : E 45 = none := rfl
  have hX : X 45 = some x45 := rfl
  simp only [call, hE, hX, show x45.asg = none from rfl]
  obtain ⟨v, H, ⟨h1, h2⟩, h3⟩ := runF_esc (cf := call X E n) (n := n) (xf := x45) (args := [d.v]) (h := h) (P := fun v H => v = .clo 72 [.ref 0 0] ∧ H = [.cells d.v.cells]) (by kernel_rfl) rfl rfl (by simp [D.vw2, V.lows, D.low]) (by
    refine wpk_of ?_
    simp -implicitDefEqProofs [x45_w, x45_r, x45r1_w, x45r2_w, D.vw2, D.okc]
    simp [V.vw, V.vw2, V.vw1])
  rw [h3, h1, h2]
  have hs : V.shifts h.length d.v.cells = d.v.cells := by
    obtain ⟨k, i, t, l⟩ := d
    have := D.shift h.length (.mk k i t l)
    simp only [D.v, V.shift, V.agg.injEq] at this
    exact this
  simp [V.shift, V.shifts, O.shift, hs]
end Go.Proofs.YtkiliokeanmagaaDoor.Ab

namespace Go.Proofs.YtkiliokeanmagaaDoor.Ab
open Go
set_option linter.unusedVariables false
set_option linter.unusedSimpArgs false
set_option maxRecDepth 8000
set_option maxHeartbeats 2000000
def pv (p : List Int) : V := .sl (p.map I64) .any
def pvs (ps : List (List Int)) : List V := ps.map pv
theorem pvs_len (ps : List (List Int)) : (pvs ps).length = ps.length := by simp [pvs]
theorem lows_I64 (m : Nat) (p : List Int) : V.lows m (p.map I64) = true := lows_of fun v hv => by
  obtain ⟨i, _, rfl⟩ := List.mem_map.1 hv
  rfl
theorem pv_low (m : Nat) (p : List Int) : (pv p).low m = true := by simp [pv, V.low, lows_I64, SI.low]
theorem hz_I64 (p : List Int) : hz 1 (p.map I64) = true := by cases p <;> rfl
theorem fl_succ {ps : List (List Int)} {j : Nat} (h : j < ps.length) : (ps.take (j + 1)).flatten = (ps.take j).flatten ++ ps[j] := by
  rw [List.take_add_one, List.getElem?_eq_getElem h, List.flatten_append]
  simp only [Option.toList_some, List.flatten_cons, List.flatten_nil, List.append_nil]
theorem fl_le (ps : List (List Int)) (j : Nat) : (ps.take j).flatten.length ≤ ps.flatten.length := by
  have h : ps.flatten = (ps.take j).flatten ++ (ps.drop j).flatten := by rw [← List.flatten_append, List.take_append_drop]
  rw [h, List.length_append]
  omega
theorem call83 {n : Nat} (k : Nat) (hk : k * 8 ≤ 140737488355328) (h : List O) : call X E (n + 1) 83 [.sl [] .nil, .c (.int .i64 k)] h = if k = 0 then some (.sl [] .nil, h) else some (.sl [] (.tok h.length), h ++ [.tok 0 1]) := by
  have hE : E 83 = some (fun _ _ => growE) := rfl
  simp only [call, hE, growE]
  by_cases h0 : k = 0
  · simp [h0]
  · rw [if_neg (by omega), if_pos ⟨by omega, by omega⟩, if_neg h0]
structure J64 (ps : List (List Int)) (m : Nat) (s : SF) : Prop where
  j : ∃ j : Nat, j + m = ps.length ∧ s.e 11 = .c (.int .i64 j) ∧ s.e 3 = .c (.int .i64 (ps.take j).flatten.length)
  e9 : s.e 9 = .sl (pvs ps) .any
  e10 : s.e 10 = .c (.int .i64 ps.length)
  e0 : s.e 0 = .sl (pvs ps) .any
  b : s.base = 0
theorem jstep64 {cf : CallF} {fu : Nat} {ps : List (List Int)} (hl : ps.length < 1099511627776) (hfl : ps.flatten.length < 1099511627776) {Q : Ex → SF → Prop}
    (hQ : ∀ s, s.e 3 = .c (.int .i64 ps.flatten.length) → s.e 0 = .sl (pvs ps) .any → s.base = 0 → Q (.exit 0) s) (m : Nat) (s : SF) (I : J64 ps m s) :
    wpk cf fu x64l9 [] (fun e s' => match e with | .normal => ∃ k1, k1 < m ∧ J64 ps k1 s' | e => Q e s') s := by
  obtain ⟨⟨j, hj, e11, e3⟩, e9, e10, e0, hb⟩ := I
  obtain ⟨e, h, base, rb⟩ := s
  simp only at e11 e3 e9 e10 e0 hb
  subst hb
  have hpl := pvs_len ps
  by_cases hm : j < ps.length
  · have hlt : (j : Int) < ps.length := by omega
    have hq : (pvs ps)[j]'(by omega) = .sl (ps[j].map I64) .any := by simp [pvs, pv]
    have hs := fl_succ hm
    have hle := fl_le ps (j + 1)
    rw [hs, List.length_append] at hle
    have hw : IntKind.i64.wrap (((ps.take j).flatten.length : Int) + ps[j].length) = (((ps.take j).flatten.length + ps[j].length : Nat) : Int) := by rw [wrap_in (by omega)]; omega
    have hs2 : (ps.take (j + 1)).flatten.length = (ps.take j).flatten.length + ps[j].length := by rw [hs, List.length_append]
    generalize (ps.take j).flatten.length = T at *
    generalize hT2 : (ps.take (j + 1)).flatten.length = T2 at *
    have hml : (ps[j].map I64).length = ps[j].length := by simp
    generalize ps[j].map I64 = w at *
    generalize ps[j].length = wl at *
    subst hml
    have hnn : ¬ ((T : Int) + w.length < 0) := by omega
    rw [show ((T + w.length : Nat) : Int) = (T : Int) + w.length by omega] at hw
    simp -implicitDefEqProofs [x64l9_w, x64r4_w, x64r5_w, x64r6_w, x64r7_w, x64r8_w, e9, e10, e11, e3, hpl, hlt, hm, hq, hw, hnn]
    refine ⟨m - 1, by omega, ⟨⟨j + 1, by omega, ?_, ?_⟩, ?_, ?_, ?_, rfl⟩⟩
    · simp only [upd_at, e11]
      simp
      rw [wrap_in (by omega)]
    · rw [hT2, hs2]; simp [upd_at]
    · simp [upd_at, e9]
    · simp [upd_at, e10]
    · simp [upd_at, e0]
  · have hlt : ¬ (j : Int) < ps.length := by omega
    rw [List.take_of_length_le (by omega)] at e3
    simp -implicitDefEqProofs [x64l9_w, x64r4_w, e10, e11, hlt]
    exact hQ _ (by simp [upd_at, e3]) (by simp [upd_at, e0]) rfl
def TokC (n : Nat) (si : SI) (h : List O) : Prop := ∃ q, si = .tok q ∧ h[q]? = some (.tok n 1)
structure K64 (ps : List (List Int)) (m : Nat) (s : SF) : Prop where
  j : ∃ (j : Nat) (si : SI), j + m = ps.length ∧ s.e 27 = .c (.int .i64 j) ∧ s.e 6 = .sl ((ps.take j).flatten.map I64) si ∧ ((ps.flatten = [] ∧ si = .nil) ∨ TokC (ps.take j).flatten.length si s.h)
  e25 : s.e 25 = .sl (pvs ps) .any
  e26 : s.e 26 = .c (.int .i64 ps.length)
  b : s.base = 0
theorem kstep64 {cf : CallF} {fu : Nat} {ps : List (List Int)} (hl : ps.length < 1099511627776) (hfl : ps.flatten.length < 1099511627776) {Q : Ex → SF → Prop}
    (hQ : ∀ s si, s.e 6 = .sl (ps.flatten.map I64) si → s.base = 0 → Q (.exit 2) s) (m : Nat) (s : SF) (I : K64 ps m s) :
    wpk cf fu x64l16 [] (fun e s' => match e with | .normal => ∃ k1, k1 < m ∧ K64 ps k1 s' | e => Q e s') s := by
  obtain ⟨⟨j, si, hj, e27, e6, htk⟩, e25, e26, hb⟩ := I
  obtain ⟨e, h, base, rb⟩ := s
  simp only at e27 e6 htk e25 e26 hb
  subst hb
  have hpl := pvs_len ps
  by_cases hm : j < ps.length
  · have hlt : (j : Int) < ps.length := by omega
    have hq : (pvs ps)[j]'(by omega) = .sl (ps[j].map I64) .any := by simp [pvs, pv]
    have hs := fl_succ hm
    have hle := fl_le ps (j + 1)
    have hz1 := hz_I64 (ps.take j).flatten
    have hz2 := hz_I64 ps[j]
    have hmap : ((ps.take (j + 1)).flatten.map I64) = (ps.take j).flatten.map I64 ++ ps[j].map I64 := by rw [hs, List.map_append]
    have hs2 : (ps.take (j + 1)).flatten.length = (ps.take j).flatten.length + ps[j].length := by rw [hs, List.length_append]
    have hml : (ps[j].map I64).length = ps[j].length := by simp
    have hmT : ((ps.take j).flatten.map I64).length = (ps.take j).flatten.length := List.length_map _
    have hnil : ps.flatten = [] → ps[j].map I64 = [] := fun he => by
      have h0 : ps.flatten.length = 0 := by rw [he]; rfl
      have : ps[j].length = 0 := by omega
      rw [List.eq_nil_of_length_eq_zero this]; rfl
    rw [← hml] at hs2
    generalize ps[j].map I64 = w at *
    generalize hU : (ps.take j).flatten.map I64 = U at *
    generalize hU2 : (ps.take (j + 1)).flatten.map I64 = U2 at *
    rw [← hmT] at hs2 htk
    have hb1 : (U.length + w.length) * 8 ≤ 140737488355328 := by omega
    have hb2 : U.length + w.length ≤ 140737488355328 := by omega
    have fin : ∀ (si' : SI) (s' : SF), s'.e 27 = .c (.int .i64 ((j + 1 : Nat) : Int)) → s'.e 6 = .sl (U ++ w) si' → ((ps.flatten = [] ∧ si' = .nil) ∨ TokC (U.length + w.length) si' s'.h) → s'.e 25 = .sl (pvs ps) .any → s'.e 26 = .c (.int .i64 ps.length) → s'.base = 0 → ∃ k1, k1 < m ∧ K64 ps k1 s' :=
      fun si' s' a1 a2 a3 a4 a5 a6 => ⟨m - 1, by omega, ⟨⟨j + 1, si', by omega, a1, by rw [hU2, hmap]; exact a2, by rw [hs2]; exact a3⟩, a4, a5, a6⟩⟩
    have hwj : IntKind.i64.wrap ((j : Int) + 1) = ((j + 1 : Nat) : Int) := by rw [wrap_in (by omega)]; omega
    cases w with
    | nil =>
      simp -implicitDefEqProofs [x64l16_w, x64r12_w, x64r13_w, x64r14_w, x64r15_w, e25, e26, e27, e6, hpl, hlt, hm, hq, hz1, hb1, hb2]
      simp at hb1 hb2
      refine ⟨⟨by omega, by omega⟩, fin si _ (by simp [upd_at, hwj]) (by simp [upd_at]) ?_ (by simp [upd_at, e25]) (by simp [upd_at, e26]) rfl⟩
      rcases htk with ⟨h1, h2⟩ | ⟨q, h1, h2⟩
      · exact .inl ⟨h1, h2⟩
      · refine .inr ⟨q, h1, ?_⟩
        simp only [List.length_nil, Nat.add_zero]
        rw [List.getElem?_append_left (List.getElem?_eq_some_iff.1 h2).1]
        exact h2
    | cons a r =>
      rcases htk with ⟨h1, h2⟩ | ⟨q, rfl, h2⟩
      · exact absurd (hnil h1) (by simp)
      · have hql := (List.getElem?_eq_some_iff.1 h2).1
        have hqa : ∀ pre : List O, (h ++ pre)[q]? = some (.tok U.length 1) := fun pre => by rw [List.getElem?_append_left hql]; exact h2
        simp only [List.length_cons] at hb1 hb2
        simp -implicitDefEqProofs [x64l16_w, x64r12_w, x64r13_w, x64r14_w, x64r15_w, e25, e26, e27, e6, hpl, hlt, hm, hq, hz1, hz2, hb1, hb2, hqa]
        refine fin (.tok q) _ (by simp [upd_at, hwj]) (by simp [upd_at]) (.inr ⟨q, rfl, ?_⟩) (by simp [upd_at, e25]) (by simp [upd_at, e26]) rfl
        simp only [List.length_cons]
        rw [List.getElem?_set_self (by simp; omega)]
  · have hlt : ¬ (j : Int) < ps.length := by omega
    rw [List.take_of_length_le (by omega)] at e6
    simp -implicitDefEqProofs [x64l16_w, x64r12_w, e26, e27, hlt]
    exact hQ _ si (by simp [upd_at, e6]) rfl
theorem go64 (ps : List (List Int)) (si : SI) {n : Nat} (hn : ps.length + 2 < n) (hl : ps.length < 1099511627776) (hfl : ps.flatten.length < 1099511627776) : Gives (n + 1) 64 [.sl (pvs ps) si] (pv ps.flatten) := by
  obtain ⟨n, rfl⟩ : ∃ n', n = n' + 1 := ⟨n - 1, by omega⟩
  have c83 : ∀ h, call X E (n + 1) 83 [.sl [] .nil, .c (.int .i64 ps.flatten.length)] h = if ps.flatten.length = 0 then some (.sl [] .nil, h) else some (.sl [] (.tok h.length), h ++ [.tok 0 1]) := call83 _ (by omega)
  have hlow : V.lows 0 (pvs ps) = true := lows_of fun v hv => by
    obtain ⟨p, _, rfl⟩ := List.mem_map.1 hv
    exact pv_low 0 p
  have hpl := pvs_len ps
  have hres : (V.sl (ps.flatten.map I64) .any).low 0 = true := pv_low 0 ps.flatten
  generalize n + 1 = m at *
  refine gives_of rfl rfl rfl (by kernel_rfl) ⟨rfl, rfl⟩ (by simp [vw2_sl, V.lows, V.low, hlow, SI.low]) ?_
  have hpv : pv ps.flatten = .sl (ps.flatten.map I64) .any := rfl
  rw [hpv]
  obtain ⟨U, hU⟩ : ∃ U, U = ps.flatten.map I64 := ⟨_, rfl⟩
  rw [← hU] at hres ⊢
  simp -implicitDefEqProofs [x64_w, x64r1_w, x64r2_w, x64r3_w, hpl]
  refine lpk_of (J64 ps) ps.length (by omega) ⟨⟨0, by simp, by simp [upd_at], by simp [upd_at]⟩, by simp [upd_at], by simp [upd_at], by simp [upd_at, arg0], rfl⟩ ?_
  refine jstep64 hl hfl fun s h3 h0 hb => ?_
  obtain ⟨e, h, base, rb⟩ := s
  simp only at h3 h0 hb
  subst hb
  by_cases hz : ps.flatten.length = 0
  · have hnil : ps.flatten = [] := List.eq_nil_of_length_eq_zero hz
    have c83' : ∀ h, call X E m 83 [.sl [] .nil, .c (.int .i64 0)] h = some (.sl [] .nil, h) := fun h => by have := c83 h; rw [if_pos hz, hz] at this; exact this
    rw [hz] at h3
    simp -implicitDefEqProofs [x64r10_w, x64r11_w, h3, h0, c83', hpl]
    refine lpk_of (K64 ps) ps.length (by omega) ⟨⟨0, .nil, by simp, by simp [upd_at], by simp [upd_at], .inl ⟨hnil, rfl⟩⟩, by simp [upd_at, h0], by simp [upd_at], rfl⟩ ?_
    refine kstep64 hl hfl fun s si h6 hb => ?_
    obtain ⟨e, h, base, rb⟩ := s
    simp only at h6 hb
    subst hb
    rw [← hU] at h6
    simp -implicitDefEqProofs [x64_r, x64r17_w, h6]
    exact hres
  · have c83' : ∀ h, call X E m 83 [.sl [] .nil, .c (.int .i64 ps.flatten.length)] h = some (.sl [] (.tok h.length), h ++ [.tok 0 1]) := fun h => by rw [c83, if_neg hz]
    generalize hL : ps.flatten.length = L at *
    simp -implicitDefEqProofs [x64r10_w, x64r11_w, h3, h0, c83', hpl]
    refine lpk_of (K64 ps) ps.length (by omega) ⟨⟨0, .tok h.length, by simp, by simp [upd_at], by simp [upd_at], .inr ⟨h.length, rfl, by simp⟩⟩, by simp [upd_at, h0], by simp [upd_at], rfl⟩ ?_
    subst hL
    refine kstep64 hl hfl fun s si h6 hb => ?_
    obtain ⟨e, h, base, rb⟩ := s
    simp only at h6 hb
    subst hb
    rw [← hU] at h6
    simp -implicitDefEqProofs [x64_r, x64r17_w, h6]
    exact hres
end Go.Proofs.YtkiliokeanmagaaDoor.Ab

namespace Go.Proofs.YtkiliokeanmagaaDoor.Ab
open Go
set_option linter.unusedVariables false
set_option linter.unusedSimpArgs false
set_option maxRecDepth 8000
set_option maxHeartbeats 2000000
def wres : Option (List Int) → V
  | none => .tup [.sl [] .any, .c (.bool false)]
  | some p => .tup [pv p, .c (.bool true)]
def wcap : List V := keepE 25 [2, 3] fun i => if i = 2 then .ref 1 0 else .ref 2 0
def wH (d : D) (a b : V) (s : Nat) : List O := [.cells d.v.cells, .cells [a], .cells [b], .cells d.v.cells, .loop s]
theorem round36 {n : Nat} {d x : D} {p : List Int} {r : Option (List Int)} (h36 : ∀ h, call X E n 36 [x.v] h = some (wres r, h)) (hcat : ∀ q, r = some q → ∀ h, call X E n 64 [.sl (pvs [p, q]) .full] h = some (pv (p ++ q), h)) (rest : List O) (hrest : rest.all (O.low (5 + rest.length)) = true) :
    call X E (n + 1) 1003600 (.c (.int .i64 4) :: pf p :: x.v :: wcap) (wH d (.sl [] .nil) (.c (.bool false)) 0 ++ rest) = match r with
      | none => some (.c (.bool true), wH d (.sl [] .nil) (.c (.bool false)) 0 ++ rest)
      | some q => some (.c (.bool false), wH d (pv (p ++ q)) (.c (.bool true)) 3 ++ rest) := by
  have hE : E 1003600 = none := rfl
  have hX : X 1003600 = some x1003600 := rfl
  have hA : x1003600.asg = some ([13, 14], XC.seq x1003600r4 x1003600r5) := rfl
  simp only [call, hE, hX, hA]
  rw [if_pos (by simp [wH])]
  have t13 : toE ((wcap.set 13 (pf p)).set 14 x.v) 13 = pf p := rfl
  have t14 : toE ((wcap.set 13 (pf p)).set 14 x.v) 14 = x.v := rfl
  have t2 : toE ((wcap.set 13 (pf p)).set 14 x.v) 2 = .ref 1 0 := rfl
  have t3 : toE ((wcap.set 13 (pf p)).set 14 x.v) 3 = .ref 2 0 := rfl
  have hr : ∀ x ∈ rest, O.low (rest.length + 1 + 1 + 1 + 1 + 1) x = true := fun x hx => by
    have := List.all_eq_true.1 hrest x hx
    rwa [show 5 + rest.length = rest.length + 1 + 1 + 1 + 1 + 1 by omega] at this
  cases r with
  | none =>
    refine round_at (tm := ((wcap.set 13 (pf p)).set 14 x.v)) rfl (by kernel_rfl) (by kernel_rfl) ?_
    generalize toE ((wcap.set 13 (pf p)).set 14 x.v) = e0 at *
    refine wpk_of ?_
    simp only [wres] at h36
    simp -implicitDefEqProofs [x1003600_w, x1003600r1_w, x1003600r2_w, x1003600r4_w, x1003600r5_w, wH, t13, t14, t2, t3, D.okc, D.spl, D.cells_len]
    refine wpk_of ?_
    simp -implicitDefEqProofs [x1003600_w, x1003600r1_w, x1003600r2_w, t13, t14, t2, t3, D.rd, h36, Ex.num]
    exact ⟨by rw [olow_cells]; exact D.low_cells _ d, by simp [olow_cells, V.lows, V.low, SI.low], by simp [olow_cells, V.lows, V.low], by rw [olow_cells]; exact D.low_cells _ d, rfl, hr⟩
  | some q =>
    refine round_at (tm := ((wcap.set 13 (pf p)).set 14 x.v)) rfl (by kernel_rfl) (by kernel_rfl) ?_
    generalize toE ((wcap.set 13 (pf p)).set 14 x.v) = e0 at *
    refine wpk_of ?_
    have hc := hcat q rfl
    have hpq : pvs [p, q] = [.sl (p.map I64) .any, .sl (q.map I64) .any] := rfl
    rw [hpq] at hc
    have hpv : pv (p ++ q) = .sl ((p ++ q).map I64) .any := rfl
    rw [hpv] at hc ⊢
    have hlw : V.lows (rest.length + 1 + 1 + 1 + 1 + 1) ((p ++ q).map I64) = true := lows_I64 _ _
    simp only [wres, pv] at h36
    simp only [pf] at t13 ⊢
    generalize (p ++ q).map I64 = PQ at *
    generalize p.map I64 = PP at *
    generalize q.map I64 = QQ at *
    simp -implicitDefEqProofs [x1003600_w, x1003600r1_w, x1003600r2_w, x1003600r4_w, x1003600r5_w, wH, t13, t14, t2, t3, D.okc, D.spl, D.cells_len]
    refine wpk_of ?_
    simp -implicitDefEqProofs [x1003600_w, x1003600r1_w, x1003600r2_w, x1003600r3_w, t13, t14, t2, t3, D.rd, h36, hc, Ex.num]
    exact ⟨by rw [olow_cells]; exact D.low_cells _ d, by rw [olow_cells]; simp [V.lows, V.low, hlw, SI.low], by simp [olow_cells, V.lows, V.low], by rw [olow_cells]; exact D.low_cells _ d, rfl, hr⟩
def firstW (f : D → Option (List Int)) : List (List Int × D) → Option (List Int)
  | [] => none
  | (p, x) :: r => match f x with
    | some q => some (p ++ q)
    | none => firstW f r
def wrongN : Nat → D → Option (List Int)
  | 0, _ => none
  | n + 1, d => if d.form = 0 then some [] else firstW (wrongN n) d.parts
def wY (f : D → Option (List Int)) (d : D) : List Int → D → List O → Option (Bool × List O) := fun p x H => match f x with
  | none => some (true, wH d (.sl [] .nil) (.c (.bool false)) 0)
  | some q => some (false, wH d (pv (p ++ q)) (.c (.bool true)) 3)
theorem walk_w (f : D → Option (List Int)) (d : D) : ∀ L : List (List Int × D), walkY (wY f d) L (wH d (.sl [] .nil) (.c (.bool false)) 0) = match firstW f L with
    | none => some (true, wH d (.sl [] .nil) (.c (.bool false)) 0)
    | some q => some (false, wH d (pv q) (.c (.bool true)) 3)
  | [] => rfl
  | (p, x) :: r => by
    simp only [walkY, firstW, wY]
    cases h : f x with
    | none => simp only []; exact walk_w f d r
    | some q => rfl
end Go.Proofs.YtkiliokeanmagaaDoor.Ab

namespace Go.Proofs.YtkiliokeanmagaaDoor.Ab
open Go
set_option linter.unusedVariables false
set_option linter.unusedSimpArgs false
set_option maxRecDepth 8000
set_option maxHeartbeats 2000000
theorem wY_at {n : Nat} {d : D} {f : D → Option (List Int)} (h36 : ∀ p x, (p, x) ∈ d.parts → ∀ h, call X E n 36 [x.v] h = some (wres (f x), h)) (hcat : ∀ p x q, (p, x) ∈ d.parts → f x = some q → ∀ h, call X E n 64 [.sl (pvs [p, q]) .full] h = some (pv (p ++ q), h)) :
    YAt (call X E (n + 1)) 4 1003600 wcap 5 (fun H => H = wH d (.sl [] .nil) (.c (.bool false)) 0) (wY f d) d.parts := by
  intro p x hin H H' b hH hP hq
  subst hP
  have h36' := h36 p x hin
  have hG : ∀ G : List O, G.take 5 = wH d (.sl [] .nil) (.c (.bool false)) 0 → G = wH d (.sl [] .nil) (.c (.bool false)) 0 ++ G.drop 5 := fun G h => by rw [← h, List.take_append_drop]
  have hlen : ∀ a b s, (wH d a b s).length = 5 := fun a b s => rfl
  have hlw : ∀ (G : List O) (a b : V) (s : Nat), G.take 5 = wH d (.sl [] .nil) (.c (.bool false)) 0 → lowH G → a.low 0 = true → b.low 0 = true → lowH (wH d a b s ++ G.drop 5) ∧ (G.drop 5).all (O.low (5 + (G.drop 5).length)) = true := by
    intro G a b s hg hl ha hb
    have hGl : G.length = 5 + (G.drop 5).length := by
      have := congrArg List.length (hG G hg)
      rw [List.length_append, hlen] at this
      exact this
    unfold lowH at hl
    rw [hG G hg, List.all_append, Bool.and_eq_true] at hl
    rw [← hG G hg] at hl
    have h2 := hl.2
    rw [hGl] at h2
    refine ⟨?_, by simpa using h2⟩
    unfold lowH
    rw [List.all_append, Bool.and_eq_true, List.length_append, hlen]
    refine ⟨?_, by simpa using h2⟩
    have la := low_mono (Nat.zero_le (5 + (G.drop 5).length)) a ha
    have lb := low_mono (Nat.zero_le (5 + (G.drop 5).length)) b hb
    simp only [wH, List.all_cons, olow_cells, D.low_cells, V.lows, la, lb, List.all_nil, Bool.and_true, Bool.true_and]
    rfl
  unfold wY at hq
  cases hf : f x with
  | none =>
    rw [hf] at hq h36'
    simp only [Option.some.injEq, Prod.mk.injEq] at hq
    obtain ⟨rfl, rfl⟩ := hq
    refine ⟨rfl, fun _ => rfl, fun G hg hl => ?_⟩
    obtain ⟨h1, h2⟩ := hlw G (.sl [] .nil) (.c (.bool false)) 0 hg hl rfl rfl
    have := round36 (d := d) (p := p) (r := none) h36' (fun q hq => by cases hq) (G.drop 5) h2
    simp only at this
    rw [← hG G hg] at this
    exact ⟨by rw [this, ← hG G hg], h1⟩
  | some q =>
    rw [hf] at hq h36'
    simp only [Option.some.injEq, Prod.mk.injEq] at hq
    obtain ⟨rfl, rfl⟩ := hq
    refine ⟨rfl, fun h => (by cases h), fun G hg hl => ?_⟩
    obtain ⟨h1, h2⟩ := hlw G (pv (p ++ q)) (.c (.bool true)) 3 hg hl (pv_low 0 _) rfl
    have := round36 (d := d) (p := p) (r := some q) h36' (fun q' hq' h => by simp only [Option.some.injEq] at hq'; subst hq'; exact hcat p x q hin hf h) (G.drop 5) h2
    simp only at this
    rw [← hG G hg] at this
    exact ⟨this, h1⟩
theorem sub1_mem {frm : Nat} : ∀ (L : List D) (i : Nat) (p : List Int) (x : D), (p, x) ∈ sub1 frm L i → x ∈ L ∧ p.length ≤ 3
  | [], _, _, _, h => by simp [sub1] at h
  | a :: L, i, p, x, h => by
    simp only [sub1, List.mem_cons, Prod.mk.injEq] at h
    rcases h with ⟨rfl, rfl⟩ | h
    · exact ⟨by simp, by simp⟩
    · have := sub1_mem L (i + 1) p x h
      exact ⟨by simp [this.1], this.2⟩
theorem recs_mem2 : ∀ (L : List D) (i : Nat) (p : List Int) (x : D), (p, x) ∈ recs L i → (∃ y ∈ L, x = y.kid 2) ∧ p.length ≤ 3
  | [], _, _, _, h => by simp [recs] at h
  | a :: L, i, p, x, h => by
    simp only [recs, List.mem_cons, Prod.mk.injEq] at h
    rcases h with ⟨rfl, rfl⟩ | h
    · exact ⟨⟨a, by simp, rfl⟩, by simp⟩
    · have := recs_mem2 L (i + 1) p x h
      obtain ⟨y, h1, h2⟩ := this.1
      exact ⟨⟨y, by simp [h1], h2⟩, this.2⟩
theorem kid_le (d : D) (j : Nat) : (d.kid j).sz ≤ d.sz := by
  unfold D.kid
  rw [List.getD_eq_getElem?_getD]
  cases h : d.kids[j]? with
  | none =>
    have := D.sz_pos d
    simp only [Option.getD_none, D.z0, D.sz, D.szs]
    omega
  | some x =>
    have := kid_lt (List.mem_of_getElem? h)
    simp only [Option.getD_some]
    omega
theorem parts_mem {d : D} {p : List Int} {x : D} (h : (p, x) ∈ d.parts) : x.sz < d.sz ∧ p.length ≤ 3 := by
  have hs : ∀ frm k, (p, x) ∈ sub1 frm (d.kids.drop k) 0 → x.sz < d.sz ∧ p.length ≤ 3 := fun frm k h => by
    obtain ⟨h1, h2⟩ := sub1_mem _ _ _ _ h
    exact ⟨kid_lt (List.mem_of_mem_drop h1), h2⟩
  unfold D.parts at h
  split at h
  · exact hs _ _ h
  · split at h
    · exact hs _ _ h
    · split at h
      · rcases List.mem_append.1 h with h | h
        · obtain ⟨⟨y, h1, rfl⟩, h2⟩ := recs_mem2 _ _ _ _ h
          have a1 := kid_lt h1
          have a2 := kid_le d 1
          have a3 := kid_le y 2
          exact ⟨by omega, h2⟩
        · exact hs _ _ h
      · split at h
        · exact hs 0 0 (by simpa using h)
        · simp at h
theorem firstW_some {f : D → Option (List Int)} : ∀ {L : List (List Int × D)} {q : List Int}, firstW f L = some q → ∃ p x r, (p, x) ∈ L ∧ f x = some r ∧ q = p ++ r
  | [], _, h => by simp [firstW] at h
  | (p, x) :: L, q, h => by
    simp only [firstW] at h
    cases hf : f x with
    | none =>
      rw [hf] at h
      obtain ⟨p', x', r, h1, h2, h3⟩ := firstW_some h
      exact ⟨p', x', r, by simp [h1], h2, h3⟩
    | some r =>
      rw [hf] at h
      simp only [Option.some.injEq] at h
      exact ⟨p, x, r, by simp, hf, h.symm⟩
theorem wrong_len : ∀ (m : Nat) (d : D) (q : List Int), wrongN m d = some q → q.length ≤ 3 * d.sz
  | 0, _, _, h => by simp [wrongN] at h
  | m + 1, d, q, h => by
    simp only [wrongN] at h
    split at h
    · simp only [Option.some.injEq] at h
      subst h
      simp
    · obtain ⟨p, x, r, h1, h2, rfl⟩ := firstW_some h
      have a1 := parts_mem h1
      have a2 := wrong_len m x r h2
      simp only [List.length_append]
      omega
end Go.Proofs.YtkiliokeanmagaaDoor.Ab

namespace Go.Proofs.YtkiliokeanmagaaDoor.Ab
open Go
set_option linter.unusedVariables false
set_option linter.unusedSimpArgs false
set_option maxRecDepth 8000
set_option maxHeartbeats 2000000
theorem go36 : ∀ (f : Nat) (d : D), d.sz ≤ f → d.sz < 100000000000 → ∀ n, 4 * d.sz + 40 ≤ n → Gives n 36 [d.v] (wres (wrongN f d))
  | 0, d, h, _, _, _ => by have := D.sz_pos d; omega
  | f + 1, d, hf, hl, n, hn => by
    obtain ⟨n, rfl⟩ : ∃ n', n = n' + 3 := ⟨n - 3, by omega⟩
    have c54 : ∀ h, call X E (n + 2) 54 [d.v] h = some (.c (.int .i64 d.form), h) := go54 d (by omega) (by omega)
    have c45 : ∀ h, call X E (n + 2) 45 [d.v] h = some (.clo 72 [.ref h.length 0], h ++ [.cells d.v.cells]) := go45 d
    have IH : ∀ p x, (p, x) ∈ d.parts → ∀ h, call X E n 36 [x.v] h = some (wres (wrongN f x), h) := fun p x hin => go36 f x (by have := parts_mem hin; omega) (by have := parts_mem hin; omega) n (by have := parts_mem hin; omega)
    have hcat : ∀ p x q, (p, x) ∈ d.parts → wrongN f x = some q → ∀ h, call X E n 64 [.sl (pvs [p, q]) .full] h = some (pv (p ++ q), h) := fun p x q hin hq => by
      obtain ⟨n, rfl⟩ : ∃ n', n = n' + 1 := ⟨n - 1, by omega⟩
      have a1 := parts_mem hin
      have a2 := wrong_len f x q hq
      have := go64 [p, q] .full (n := n) (by simp; omega) (by simp) (by simp; omega)
      rw [show [p, q].flatten = p ++ q by simp] at this
      exact this
    have hY := wY_at IH hcat
    have hwalk := walk_w (wrongN f) d d.parts
    by_cases h0 : d.form = 0
    · have hw : wres (wrongN (f + 1) d) = wres (some []) := by simp only [wrongN, h0, if_true]
      rw [hw]
      rw [h0] at c54
      show Gives ((n + 2) + 1) 36 [d.v] _
      generalize n + 2 = m at *
      refine gives_of rfl rfl rfl (by kernel_rfl) ⟨rfl, rfl⟩ (by simp [D.vw2, V.lows, D.low]) ?_
      simp -implicitDefEqProofs [x36_w, x36_r, x36r1_w, x36r2_w, x36r3_w, D.vw2, D.okc, D.rd, D.cells_len, c54, wres, pv]
      try simp [V.low, V.lows, SI.low]
    · have hw : wres (wrongN (f + 1) d) = wres (firstW (wrongN f) d.parts) := by simp only [wrongN, h0, if_false]
      rw [hw]
      have hb : (d.form == 0) = false := by simp [h0]
      have c72 : ∀ W : Bool × List O, walkY (wY (wrongN f) d) d.parts (wH d (.sl [] .nil) (.c (.bool false)) 0) = some W → W.2.all (O.low 5) = true → call X E (n + 2) 72 [.yld 4 1003600 2 wcap, .ref 3 0] (wH d (.sl [] .nil) (.c (.bool false)) 0) = some (.tup [], W.2) := fun W h1 h2 => by
        refine go72 d (n := n + 1) (by omega) (by omega) (k := 4) (by omega) (by decide) (P := fun H => H = wH d (.sl [] .nil) (.c (.bool false)) 0) ?_ rfl hY h1 h2 ?_
        · intro G hG hP
          have : G[3]? = (G.take 5)[3]? := by rw [List.getElem?_take]; simp
          rw [this, show (5 : Nat) = (wH d (.sl [] .nil) (.c (.bool false)) 0).length from rfl, hP]
          rfl
        · unfold lowH
          simp only [wH, List.all_cons, olow_cells, D.low_cells, V.lows, List.all_nil, Bool.and_true, Bool.true_and]
          rfl
      show Gives ((n + 2) + 1) 36 [d.v] _
      generalize n + 2 = m at *
      refine gives_of rfl rfl rfl (by kernel_rfl) ⟨rfl, rfl⟩ (by simp [D.vw2, V.lows, D.low]) ?_
      simp -implicitDefEqProofs [x36_w, x36_r, x36r1_w, x36r2_w, x36r3_w, x36r4_w, D.vw2, D.okc, D.rd, D.cells_len, c54, hb, c45]
      cases hfw : firstW (wrongN f) d.parts with
      | none =>
        rw [hfw] at hwalk
        have h72 := c72 _ hwalk (by simp only [wH, List.all_cons, olow_cells, D.low_cells, V.lows, List.all_nil, Bool.and_true, Bool.true_and]; rfl)
        refine wpk_range _ _ _ _ _ (g := 72) (lb := [.ref 3 0]) rfl (by decide) (by decide) (h' := wH d (.sl [] .nil) (.c (.bool false)) 0) (e := .normal) (r := .tup []) h72 rfl ?_
        simp -implicitDefEqProofs [x36r5_w, x36_r, wH, wres]
        try simp [V.low, V.lows, SI.low]
      | some q =>
        rw [hfw] at hwalk
        have h72 := c72 _ hwalk (by have := pv_low 5 q; simp only [wH, List.all_cons, olow_cells, D.low_cells, V.lows, this, List.all_nil, Bool.and_true, Bool.true_and]; rfl)
        have hql := pv_low 0 q
        refine wpk_range _ _ _ _ _ (g := 72) (lb := [.ref 3 0]) rfl (by decide) (by decide) (h' := wH d (pv q) (.c (.bool true)) 3) (e := .ret) (r := .tup []) h72 rfl ?_
        simp -implicitDefEqProofs [x36_r, wH, wres, pv]
        simp [V.low, V.lows, lows_I64, SI.low]
end Go.Proofs.YtkiliokeanmagaaDoor.Ab

namespace Go.Proofs.YtkiliokeanmagaaDoor.Ab
open Go
set_option linter.unusedVariables false
set_option linter.unusedSimpArgs false
set_option maxRecDepth 8000
set_option maxHeartbeats 2000000
def D.chk (d : D) : V := if d.ck ≠ 0 then .tup [.sl [] .any, .c (.int .i64 d.ck)] else match wrongN d.sz d with
  | some p => .tup [pv p, .c (.int .i64 4)]
  | none => .tup [.sl [] .any, .c (.int .i64 0)]
theorem go10 (d : D) (hl : d.sz < 100000000000) {n : Nat} (hn : 4 * d.sz + 200 ≤ n) : Gives (n + 1) 10 [d.v] d.chk := by
  have c35 : ∀ h, call X E n 35 [d.v] h = some (.c (.int .i64 d.ck), h) := run15 d (by omega) n (by omega)
  have c36 : ∀ h, call X E n 36 [d.v] h = some (wres (wrongN d.sz d), h) := go36 d.sz d (Nat.le_refl _) hl n (by omega)
  refine gives_of rfl rfl rfl (by kernel_rfl) ⟨rfl, rfl⟩ (by simp [D.vw2, V.lows, D.low]) ?_
  by_cases hc : d.ck = 0
  · have hb : (d.ck != 0) = false := by simp [hc]
    cases hw : wrongN d.sz d with
    | none =>
      have hr : d.chk = .tup [.sl [] .any, .c (.int .i64 0)] := by simp [D.chk, hc, hw]
      rw [hw] at c36
      simp only [wres] at c36
      rw [hr]
      simp -implicitDefEqProofs [x10_w, x10_r, x10r1_w, x10r2_w, x10r3_w, x10r5_w, x10r6_w, x10r8_w, D.vw2, D.okc, D.rd, D.cells_len, c35, c36, hb]
      try simp [V.low, V.lows, SI.low]
    | some p =>
      have hr : d.chk = .tup [pv p, .c (.int .i64 4)] := by simp [D.chk, hc, hw]
      rw [hw] at c36
      simp only [wres, pv] at c36
      rw [hr, pv]
      simp -implicitDefEqProofs [x10_w, x10_r, x10r1_w, x10r2_w, x10r3_w, x10r5_w, x10r6_w, x10r7_w, D.vw2, D.okc, D.rd, D.cells_len, c35, c36, hb]
      try simp [V.low, V.lows, lows_I64, SI.low]
  · have hb : (d.ck != 0) = true := by simp [hc]
    have hr : d.chk = .tup [.sl [] .any, .c (.int .i64 d.ck)] := by simp [D.chk, hc]
    rw [hr]
    simp -implicitDefEqProofs [x10_w, x10_r, x10r1_w, x10r2_w, x10r3_w, x10r4_w, D.vw2, D.okc, D.rd, D.cells_len, c35, hb]
    try simp [V.low, V.lows, SI.low]
end Go.Proofs.YtkiliokeanmagaaDoor.Ab

namespace Go.Proofs.YtkiliokeanmagaaDoor.Ab
open Go
set_option linter.defProp false
section
variable (cf : CallF) (n : Nat) (s : SF) (K : List Fr) (Q : Ex → SF → Prop)
def x11r1_w := rK cf n s K Q x11r1 rfl
def x11r2_w := rK cf n s K Q x11r2 rfl
def x11r3_w := rK cf n s K Q x11r3 rfl
def x11r4_w := rK cf n s K Q x11r4 rfl
def x11r5_w := rK cf n s K Q x11r5 rfl
def x11r6_w := rK cf n s K Q x11r6 rfl
def x11r7_w := rK cf n s K Q x11r7 rfl
def x11r8_w := rK cf n s K Q x11r8 rfl
def x11_w := bK cf n s K Q x11 rfl
def x11_r := bR x11 rfl
def x27r1_w := rK cf n s K Q x27r1 rfl
def x27r2_w := rK cf n s K Q x27r2 rfl
def x27r3_w := rK cf n s K Q x27r3 rfl
def x27r4_w := rK cf n s K Q x27r4 rfl
def x27r5_w := rK cf n s K Q x27r5 rfl
def x27r6_w := rK cf n s K Q x27r6 rfl
def x27r7_w := rK cf n s K Q x27r7 rfl
def x27l8_w := lK cf n s K Q x27l8 rfl
def x27r9_w := rK cf n s K Q x27r9 rfl
def x27_w := bK cf n s K Q x27 rfl
def x27_r := bR x27 rfl
def x32r1_w := rK cf n s K Q x32r1 rfl
def x32r2_w := rK cf n s K Q x32r2 rfl
def x32r3_w := rK cf n s K Q x32r3 rfl
def x32r4_w := rK cf n s K Q x32r4 rfl
def x32r5_w := rK cf n s K Q x32r5 rfl
def x32r6_w := rK cf n s K Q x32r6 rfl
def x32r7_w := rK cf n s K Q x32r7 rfl
def x32r8_w := rK cf n s K Q x32r8 rfl
def x32r9_w := rK cf n s K Q x32r9 rfl
def x32r10_w := rK cf n s K Q x32r10 rfl
def x32r11_w := rK cf n s K Q x32r11 rfl
def x32r12_w := rK cf n s K Q x32r12 rfl
def x32r13_w := rK cf n s K Q x32r13 rfl
def x32r14_w := rK cf n s K Q x32r14 rfl
def x32r15_w := rK cf n s K Q x32r15 rfl
def x32r16_w := rK cf n s K Q x32r16 rfl
def x32r17_w := rK cf n s K Q x32r17 rfl
def x32l18_w := lK cf n s K Q x32l18 rfl
def x32r19_w := rK cf n s K Q x32r19 rfl
def x32r20_w := rK cf n s K Q x32r20 rfl
def x32r21_w := rK cf n s K Q x32r21 rfl
def x32r22_w := rK cf n s K Q x32r22 rfl
def x32r23_w := rK cf n s K Q x32r23 rfl
def x32r24_w := rK cf n s K Q x32r24 rfl
def x32l25_w := lK cf n s K Q x32l25 rfl
def x32r26_w := rK cf n s K Q x32r26 rfl
def x32_w := bK cf n s K Q x32 rfl
def x32_r := bR x32 rfl
def x37r1_w := rK cf n s K Q x37r1 rfl
def x37r2_w := rK cf n s K Q x37r2 rfl
def x37r3_w := rK cf n s K Q x37r3 rfl
def x37r4_w := rK cf n s K Q x37r4 rfl
def x37r5_w := rK cf n s K Q x37r5 rfl
def x37r6_w := rK cf n s K Q x37r6 rfl
def x37r7_w := rK cf n s K Q x37r7 rfl
def x37r8_w := rK cf n s K Q x37r8 rfl
def x37r9_w := rK cf n s K Q x37r9 rfl
def x37r10_w := rK cf n s K Q x37r10 rfl
def x37l11_w := lK cf n s K Q x37l11 rfl
def x37r12_w := rK cf n s K Q x37r12 rfl
def x37_w := bK cf n s K Q x37 rfl
def x37_r := bR x37 rfl
def x55r1_w := rK cf n s K Q x55r1 rfl
def x55r2_w := rK cf n s K Q x55r2 rfl
def x55r3_w := rK cf n s K Q x55r3 rfl
def x55r4_w := rK cf n s K Q x55r4 rfl
def x55r5_w := rK cf n s K Q x55r5 rfl
def x55r6_w := rK cf n s K Q x55r6 rfl
def x55r7_w := rK cf n s K Q x55r7 rfl
def x55r8_w := rK cf n s K Q x55r8 rfl
def x55l9_w := lK cf n s K Q x55l9 rfl
def x55r10_w := rK cf n s K Q x55r10 rfl
def x55_w := bK cf n s K Q x55 rfl
def x55_r := bR x55 rfl
def x65r1_w := rK cf n s K Q x65r1 rfl
def x65r2_w := rK cf n s K Q x65r2 rfl
def x65_w := bK cf n s K Q x65 rfl
def x65_r := bR x65 rfl
end
end Go.Proofs.YtkiliokeanmagaaDoor.Ab

namespace Go.Proofs.YtkiliokeanmagaaDoor.Ab
open Go
set_option linter.unusedVariables false
set_option linter.unusedSimpArgs false
set_option maxRecDepth 8000
set_option maxHeartbeats 2000000
theorem go65 (p q : List Int) {n : Nat} (hp : p.length < 1000000000000) (hq : q.length < 1000000000000) : Gives (n + 1) 65 [pv p, pv q] (pv (p ++ q)) := by
  refine gives_of rfl rfl rfl (by kernel_rfl) ⟨rfl, rfl⟩ (by simp [pv, vw2_sl, V.lows, V.low, lows_I64, SI.low]) ?_
  have hres := pv_low 0 (p ++ q)
  have hz1 := hz_I64 p
  have hz2 := hz_I64 q
  have hlp : (p.map I64).length = p.length := List.length_map _
  have hlq : (q.map I64).length = q.length := List.length_map _
  rw [← hlp] at hp
  rw [← hlq] at hq
  simp only [pv, List.map_append] at hres ⊢
  generalize p.map I64 = P at *
  generalize q.map I64 = R at *
  cases P with
  | nil =>
    cases R with
    | nil => 
      simp -implicitDefEqProofs [x65_w, x65_r, x65r1_w, x65r2_w]
      try exact hres
    | cons b r =>
      simp only [List.length_cons] at hq
      have h1 : (r.length + 1) * 8 ≤ 140737488355328 := by omega
      have h2 : r.length + 1 ≤ 140737488355328 := by omega
      simp -implicitDefEqProofs [x65_w, x65_r, x65r1_w, x65r2_w, hz2, h1, h2]
      try exact hres
  | cons a s =>
    simp only [List.length_cons] at hp
    have h1 : (s.length + 1) * 8 ≤ 140737488355328 := by omega
    have h2 : s.length + 1 ≤ 140737488355328 := by omega
    cases R with
    | nil =>
      simp -implicitDefEqProofs [x65_w, x65_r, x65r1_w, x65r2_w, hz1, h1, h2]
      try simpa using hres
    | cons b r =>
      simp only [List.length_cons] at hq
      have h3 : (s.length + 1 + (r.length + 1)) * 8 ≤ 140737488355328 := by omega
      have h4 : s.length + 1 + (r.length + 1) ≤ 140737488355328 := by omega
      simp -implicitDefEqProofs [x65_w, x65_r, x65r1_w, x65r2_w, hz1, hz2, h1, h2, h3, h4]
      try exact hres
end Go.Proofs.YtkiliokeanmagaaDoor.Ab

namespace Go.Proofs.YtkiliokeanmagaaDoor.Ab
open Go
set_option linter.defProp false
section
variable (cf : CallF) (n : Nat) (s : SF) (K : List Fr) (Q : Ex → SF → Prop)
def x12r1_w := rK cf n s K Q x12r1 rfl
def x12r2_w := rK cf n s K Q x12r2 rfl
def x12_w := bK cf n s K Q x12 rfl
def x12_r := bR x12 rfl
def x38r1_w := rK cf n s K Q x38r1 rfl
def x38r2_w := rK cf n s K Q x38r2 rfl
def x38r3_w := rK cf n s K Q x38r3 rfl
def x38r4_w := rK cf n s K Q x38r4 rfl
def x38r5_w := rK cf n s K Q x38r5 rfl
def x38r6_w := rK cf n s K Q x38r6 rfl
def x38r7_w := rK cf n s K Q x38r7 rfl
def x38r8_w := rK cf n s K Q x38r8 rfl
def x38l9_w := lK cf n s K Q x38l9 rfl
def x38r10_w := rK cf n s K Q x38r10 rfl
def x38_w := bK cf n s K Q x38 rfl
def x38_r := bR x38 rfl
def x44r1_w := rK cf n s K Q x44r1 rfl
def x44r2_w := rK cf n s K Q x44r2 rfl
def x44r3_w := rK cf n s K Q x44r3 rfl
def x44_w := bK cf n s K Q x44 rfl
def x44_r := bR x44 rfl
end
end Go.Proofs.YtkiliokeanmagaaDoor.Ab

namespace Go.Proofs.YtkiliokeanmagaaDoor.Ab
open Go
set_option linter.unusedVariables false
set_option linter.unusedSimpArgs false
set_option maxRecDepth 8000
set_option maxHeartbeats 1000000
theorem pv_vw2 (p : List Int) : (pv p).vw2 = pv p := rfl
theorem pv_len (p : List Int) (h : List O) : lenF (pv p) h = some (.c (.int .i64 p.length), h) := by simp [pv, lenF]
def begs : List Int → List Int → Bool
  | _, [] => true
  | [], _ :: _ => false
  | a :: p, b :: q => a == b && begs p q
theorem begs_len : ∀ p q : List Int, begs p q = true → q.length ≤ p.length
  | _, [], _ => Nat.zero_le _
  | [], _ :: _, h => by simp [begs] at h
  | a :: p, b :: q, h => by
    simp only [begs, Bool.and_eq_true] at h
    have := begs_len p q h.2
    simp only [List.length_cons]
    omega
theorem begs_refl : ∀ p : List Int, begs p p = true
  | [] => rfl
  | a :: p => by simp [begs, begs_refl p]
structure I40 (p q : List Int) (m : Nat) (s : SF) : Prop where
  j : ∃ j : Nat, j + m = q.length ∧ s.e 5 = .c (.int .i64 j) ∧ begs p q = begs (p.drop j) (q.drop j)
  e0 : s.e 0 = pv p
  e1 : s.e 1 = pv q
  b : s.base = 0
theorem step40 {cf : CallF} {fu : Nat} {p q : List Int} (hpq : q.length ≤ p.length) (hl : p.length < 4611686018427387904) {Q : Ex → SF → Prop}
    (hQ : ∀ s, begs p q = true → s.base = 0 → Q (.exit 0) s)
    (hR : ∀ s, begs p q = false → s.e 4 = .c (.bool false) → s.base = 0 → Q .ret s) (m : Nat) (s : SF) (I : I40 p q m s) :
    wpk cf fu x38l9 [] (fun e s' => match e with | .normal => ∃ k1, k1 < m ∧ I40 p q k1 s' | e => Q e s') s := by
  obtain ⟨⟨j, hj, e5, hf⟩, e0, e1, hb⟩ := I
  obtain ⟨e, h, base, rb⟩ := s
  simp only at e5 e0 e1 hb
  subst hb
  by_cases hm : j < q.length
  · have hm' : j < p.length := by omega
    have hlt : (j : Int) < q.length := by omega
    have hlt' : (j : Int) < p.length := by omega
    have hd : p.drop j = p[j] :: p.drop (j + 1) := List.drop_eq_getElem_cons hm'
    have hd' : q.drop j = q[j] :: q.drop (j + 1) := List.drop_eq_getElem_cons hm
    rw [hd, hd', begs] at hf
    cases hz : (p[j] != q[j]) with
    | false =>
      have hz' : (p[j] == q[j]) = true := by simpa using hz
      simp -implicitDefEqProofs [x38l9_w, x38r5_w, x38r6_w, x38r7_w, x38r8_w, e0, e1, e5, pv, hlt, hlt', hm, hm', hz, I64]
      refine ⟨m - 1, by omega, ⟨⟨j + 1, by omega, ?_, ?_⟩, ?_, ?_, rfl⟩⟩
      · simp only [upd_at, e5]
        simp
        rw [wrap_in (by omega)]
      · rw [hf, hz']; rfl
      · simp [upd_at, e0]
      · simp [upd_at, e1]
    | true =>
      have hz' : (p[j] == q[j]) = false := by simpa using hz
      simp -implicitDefEqProofs [x38l9_w, x38r5_w, x38r6_w, x38r7_w, x38r8_w, e0, e1, e5, pv, hlt, hlt', hm, hm', hz, I64]
      refine hR _ (by rw [hf, hz']; rfl) ?_ rfl
      simp [upd_at]
  · have hlt : ¬ (j : Int) < q.length := by omega
    simp -implicitDefEqProofs [x38l9_w, x38r5_w, e0, e1, e5, pv, hlt]
    refine hQ _ ?_ rfl
    rw [hf, List.drop_of_length_le (by omega : q.length ≤ j)]
    cases p.drop j <;> rfl
theorem run40 {n : Nat} {p q : List Int} (hn : q.length < n) (hl : p.length < 4611686018427387904) : Gives (n + 1) 38 [pv p, pv q] (.c (.bool (begs p q))) := by
  refine gives_of rfl rfl rfl (by kernel_rfl) ⟨rfl, rfl⟩ (by simp [pv_vw2, V.lows, pv_low]) ?_
  by_cases hpq : q.length ≤ p.length
  · have hlt : ¬ (p.length : Int) < q.length := by omega
    simp -implicitDefEqProofs [x38_w, x38_r, x38r1_w, x38r2_w, x38r3_w, x38r4_w, pv, hlt, V.vw2, V.vw1]
    refine lpk_of (I40 p q) q.length (by omega) ⟨⟨0, by simp, ?_, by simp⟩, ?_, ?_, rfl⟩ ?_
    · simp [upd_at]
    · simp [upd_at, arg0, pv]
    · simp [upd_at, arg0, pv]
    · refine step40 hpq hl (fun s h1 hb => ?_) fun s h1 h4 hb => ?_
      · obtain ⟨e, h, base, rb⟩ := s
        simp only at hb
        subst hb
        simp -implicitDefEqProofs [x38_r, x38r10_w, h1]
      · obtain ⟨e, h, base, rb⟩ := s
        simp only at hb h4
        subst hb
        simp -implicitDefEqProofs [x38_r, h1, h4]
  · have hlt : (p.length : Int) < q.length := by omega
    have hf : begs p q = false := by
      cases hh : begs p q with
      | false => rfl
      | true => exact absurd (begs_len p q hh) hpq
    simp -implicitDefEqProofs [x38_w, x38_r, x38r1_w, x38r2_w, x38r3_w, x38r4_w, pv, hlt, V.vw2, V.vw1, hf]
def samep (p q : List Int) : Bool := decide (p.length = q.length) && begs p q
theorem samep_refl (p : List Int) : samep p p = true := by simp [samep, begs_refl]
theorem run28 {n : Nat} {p q : List Int} (hn : q.length + 1 < n) (hl : p.length < 4611686018427387904) : Gives (n + 1) 12 [pv p, pv q] (.c (.bool (samep p q))) := by
  obtain ⟨n, rfl⟩ : ∃ n', n = n' + 1 := ⟨n - 1, by omega⟩
  have c1 : ∀ h, call X E (n + 1) 38 [pv p, pv q] h = some (.c (.bool (begs p q)), h) := run40 (by omega) hl
  generalize n + 1 = m at *
  refine gives_of rfl rfl rfl (by kernel_rfl) ⟨rfl, rfl⟩ (by simp [pv_vw2, V.lows, pv_low]) ?_
  by_cases hpq : p.length = q.length
  · have hlt : ((p.length : Int) == q.length) = true := by simp; omega
    simp -implicitDefEqProofs [x12_w, x12_r, x12r1_w, x12r2_w, pv_vw2, pv_len, hlt, c1, samep, hpq]
  · have hlt : ((p.length : Int) == q.length) = false := by simp; omega
    simp -implicitDefEqProofs [x12_w, x12_r, x12r1_w, x12r2_w, pv_vw2, pv_len, hlt, samep, hpq]
def D.at : List Int → D → Option D
  | [], d => some d
  | i :: p, d => if 0 ≤ i ∧ i < d.kids.length then match d.kids[i.toNat]? with
    | some k => D.at p k
    | none => none
    else none
def D.put : List Int → D → D → D
  | [], _, x => x
  | i :: p, .mk k n t l, x => match l[i.toNat]? with
    | some y => .mk k n t (l.set i.toNat (D.put p y x))
    | none => .mk k n t l
def D.zero : D := .mk 0 0 ⟨#[]⟩ []
theorem D.fm_kid {d : D} (h : d.fm = true) : ∀ x ∈ d.kids, x.fm = true := by
  obtain ⟨k, n, t, l⟩ := d
  intro x hx
  simp only [D.kids] at hx
  simp only [D.fm] at h
  split at h
  · simp only [Bool.and_eq_true] at h
    have := h.2
    cases l with
    | nil => simp at hx
    | cons y l => simp at this
  · split at h
    · simp only [Bool.and_eq_true] at h
      have := h.2
      cases l with
      | nil => simp at hx
      | cons y l => simp at this
    · split at h
      · simp only [Bool.and_eq_true, D.fms_all, List.all_eq_true] at h
        first
          | exact h.1.1 x hx
          | exact h.1.2 x hx
          | exact h.2 x hx
          | exact h.1 x hx
      · cases h
theorem D.at_mk {i : Int} {p : List Int} {k n : Int} {t : ByteArray} {l : List D} (h0 : 0 ≤ i) (hj : i.toNat < l.length) : D.at (i :: p) (.mk k n t l) = D.at p l[i.toNat] := by
  have hi : 0 ≤ i ∧ i < ((D.mk k n t l).kids.length : Int) := ⟨h0, by simp only [D.kids]; omega⟩
  rw [D.at, if_pos hi]
  simp only [D.kids, List.getElem?_eq_getElem hj]
theorem D.at_no {i : Int} {p : List Int} {k n : Int} {t : ByteArray} {l : List D} (h : ¬ (0 ≤ i ∧ i.toNat < l.length)) : D.at (i :: p) (.mk k n t l) = none := by
  have hi : ¬ (0 ≤ i ∧ i < ((D.mk k n t l).kids.length : Int)) := by simp only [D.kids]; omega
  rw [D.at, if_neg hi]
theorem D.at_ex {i : Int} {p : List Int} {k n : Int} {t : ByteArray} {l : List D} {u : D} (h : D.at (i :: p) (.mk k n t l) = some u) : ∃ hj : i.toNat < l.length, 0 ≤ i ∧ D.at p l[i.toNat] = some u := by
  by_cases hi : 0 ≤ i ∧ i.toNat < l.length
  · rw [D.at_mk hi.1 hi.2] at h
    exact ⟨hi.2, hi.1, h⟩
  · rw [D.at_no hi] at h
    cases h
theorem D.at_fm : ∀ (p : List Int) (d u : D), D.at p d = some u → d.fm = true → u.fm = true
  | [], d, u, h, hf => by simp only [D.at, Option.some.injEq] at h; rw [← h]; exact hf
  | i :: p, .mk k n t l, u, h, hf => by
    obtain ⟨hj, h0, h1⟩ := D.at_ex h
    exact D.at_fm p _ u h1 (D.fm_kid hf _ (List.getElem_mem hj))
theorem D.ck_zero (d : D) : d.ck = 0 ↔ d.fm = true ∧ d.sz ≤ 100000 ∧ d.dp ≤ 1000 := by
  unfold D.ck
  cases hf : d.fm with
  | false => simp
  | true =>
    by_cases h : d.sz > 100000 ∨ d.dp > 1000
    · simp [h]; omega
    · simp [h]; omega
end Go.Proofs.YtkiliokeanmagaaDoor.Ab

namespace Go.Proofs.YtkiliokeanmagaaDoor.Ab
open Go
set_option linter.unusedVariables false
set_option linter.unusedSimpArgs false
set_option maxRecDepth 4000
set_option maxHeartbeats 1000000
def rO : O := .cells [.c (.int .i64 0), .c (.int .i64 0), .c (.string ⟨#[]⟩), .sl [] .nil]
def atRes (p : List Int) (d : D) : V := match D.at p d with
  | some u => .tup [u.v, .c (.bool true)]
  | none => .tup [D.zero.v, .c (.bool false)]
structure I35 (d : D) (p : List Int) (m : Nat) (s : SF) : Prop where
  j : ∃ (j : Nat) (d' : D), j + m = p.length ∧ s.e 6 = .c (.int .i64 j) ∧ s.h = [.cells d'.v.cells, rO] ∧ D.at p d = D.at (p.drop j) d'
  e1 : s.e 1 = pv p
  e2 : s.e 2 = .ref 0 0
  e4 : s.e 4 = .ref 1 0
  b : s.base = 0
theorem step35 {cf : CallF} {fu : Nat} {d : D} {p : List Int} (hl : p.length < 1099511627776) {Q : Ex → SF → Prop}
    (hQ : ∀ s u, D.at p d = some u → s.h = [.cells u.v.cells, rO] → s.e 2 = .ref 0 0 → s.e 4 = .ref 1 0 → s.base = 0 → Q (.exit 0) s)
    (hR : ∀ s, D.at p d = none → ∀ a, s.h = [a, rO] → s.e 4 = .ref 1 0 → s.e 5 = .c (.bool false) → s.base = 0 → Q .ret s) (m : Nat) (s : SF) (I : I35 d p m s) :
    wpk cf fu x27l8 [] (fun e s' => match e with | .normal => ∃ k1, k1 < m ∧ I35 d p k1 s' | e => Q e s') s := by
  obtain ⟨⟨j, d', hj, e6, hh, hat⟩, e1, e2, e4, hb⟩ := I
  obtain ⟨e, h, base, rb⟩ := s
  simp only at e6 hh e1 e2 e4 hb
  subst hh hb
  by_cases hm : j < p.length
  · have hlt : (j : Int) < p.length := by omega
    have hd : p.drop j = p[j] :: p.drop (j + 1) := List.drop_eq_getElem_cons hm
    obtain ⟨k, n, t, l⟩ := d'
    rw [hd] at hat
    generalize hi : p[j] = i at *
    by_cases h0 : i < 0
    · rw [D.at_no (by omega)] at hat
      simp -implicitDefEqProofs [x27l8_w, x27r3_w, x27r4_w, x27r5_w, rO, D.v, pv, e1, e2, e4, e6, hlt, hm, hi, I64, h0]
      exact hR _ hat _ rfl (by simp [upd_at, e4]) (by simp [upd_at]) rfl
    · by_cases hil : i < l.length
      · have hil' : ¬ i ≥ (l.length : Int) := by omega
        have hil2 : ¬ (l.length : Int) ≤ i := by omega
        have h0' : 0 ≤ i := by omega
        have hj' : i.toNat < l.length := by omega
        have hrd := D.rd l[i.toNat]
        rw [D.at_mk h0' hj'] at hat
        simp -implicitDefEqProofs [x27l8_w, x27r3_w, x27r4_w, x27r6_w, x27r7_w, rO, D.v, pv, e1, e2, e4, e6, hlt, hm, hi, I64, h0, h0', hil, hil', hil2, hj', D.vs_len, D.vs_getE, D.cells_len, hrd, D.okc]
        refine ⟨m - 1, by omega, ⟨⟨j + 1, l[i.toNat], by omega, ?_, by simp [rO], hat⟩, ?_, ?_, ?_, rfl⟩⟩
        · simp only [upd_at]
          simp
          rw [wrap_in (by omega)]
        · simp [upd_at, e1, pv]
        · simp [upd_at, e2]
        · simp [upd_at, e4]
      · have hil' : i ≥ (l.length : Int) := by omega
        rw [D.at_no (by omega)] at hat
        simp -implicitDefEqProofs [x27l8_w, x27r3_w, x27r4_w, x27r5_w, rO, D.v, pv, e1, e2, e4, e6, hlt, hm, hi, I64, h0, hil', D.vs_len]
        exact hR _ hat _ rfl (by simp [upd_at, e4]) (by simp [upd_at]) rfl
  · have hlt : ¬ (j : Int) < p.length := by omega
    rw [List.drop_of_length_le (by omega)] at hat
    simp -implicitDefEqProofs [x27l8_w, x27r3_w, pv, e1, e6, hlt]
    exact hQ _ d' hat rfl (by simp [upd_at, e2]) (by simp [upd_at, e4]) rfl
theorem run35 {d : D} {p : List Int} {n : Nat} (hp : p.length < n) (hp' : p.length < 1099511627776) : Gives (n + 1) 27 [d.v, pv p] (atRes p d) := by
  refine gives_of rfl rfl rfl (by kernel_rfl) ⟨rfl, rfl⟩ (by simp [D.vw2, V.lows, D.low, pv_vw2, pv_low]) ?_
  generalize call X E n = cf at *
  simp -implicitDefEqProofs [x27_w, x27r1_w, x27r2_w, D.vw2, D.okc, pv_vw2]
  refine lpk_of (I35 d p) p.length hp ⟨⟨0, d, by simp, by simp [upd_at], by simp [rO], by simp⟩, by simp [upd_at, arg0], by simp [upd_at], by simp [upd_at], rfl⟩ ?_
  refine step35 hp' (fun s u hu hh e2 e4 hb => ?_) fun s hu a hh e4 e5 hb => ?_
  · obtain ⟨e, h, base, rb⟩ := s
    simp only at hh e2 e4 hb
    subst hh hb
    simp -implicitDefEqProofs [x27_r, x27r9_w, rO, e2, e4, D.rd, D.okc, D.cells_len, D.spl, atRes, hu, D.vw2, V.low, V.lows, D.low]
  · obtain ⟨e, h, base, rb⟩ := s
    simp only at hh e4 e5 hb
    subst hh hb
    simp -implicitDefEqProofs [x27_r, rO, e4, e5, atRes, hu, D.zero, D.v, D.vs, V.low, V.lows, SI.low]
end Go.Proofs.YtkiliokeanmagaaDoor.Ab

namespace Go.Proofs.YtkiliokeanmagaaDoor.Ab
open Go
set_option linter.unusedVariables false
set_option linter.unusedSimpArgs false
set_option maxRecDepth 8000
set_option maxHeartbeats 2000000
def Grows (z : Nat) (us : List V) (si : SI) (h : List O) : Prop := (us = [] ∧ si = .nil) ∨ ∃ q, si = .tok q ∧ h[q]? = some (.tok us.length z)
def Keeps (h h' : List O) : Prop := ∀ (id : Nat) (cs : List V), h[id]? = some (O.cells cs) → h'[id]? = some (O.cells cs)
theorem Keeps.rfl' (h : List O) : Keeps h h := fun _ _ e => e
theorem Keeps.app (h pre : List O) : Keeps h (h ++ pre) := fun id cs e => by
  rw [List.getElem?_append_left (List.getElem?_eq_some_iff.1 e).1]; exact e
theorem Keeps.set {h : List O} {i : Nat} (o : O) (hi : ∀ cs, h[i]? ≠ some (O.cells cs)) : Keeps h (h.set i o) := fun id cs e => by
  rw [List.getElem?_set_ne]
  · exact e
  · rintro rfl
    exact hi cs e
theorem Grows.app {z : Nat} {us : List V} {si : SI} {h : List O} (hG : Grows z us si h) (pre : List O) : Grows z us si (h ++ pre) := by
  rcases hG with h1 | ⟨q, h1, h2⟩
  · exact .inl h1
  · exact .inr ⟨q, h1, by rw [List.getElem?_append_left (List.getElem?_eq_some_iff.1 h2).1]; exact h2⟩
theorem Grows.nil (z : Nat) (h : List O) : Grows z [] .nil h := .inl ⟨rfl, rfl⟩
theorem grow_ex {us : List V} {si : SI} {ws : List V} {al b : Nat} {zz : Option Nat} {h : List O} (hG : Grows (zc zz) us si h) (hd : h[al]? = some .dead ∨ h[al]? = some .want) :
    ∃ si' h', grow 0 al b zz false h us si ws = some (.sl (us ++ ws) si', h') ∧ Grows (zc zz) (us ++ ws) si' h' ∧ h'.length = h.length ∧ Keeps h h' := by
  cases ws with
  | nil => exact ⟨si, h, by rw [grow_none, List.append_nil], by rw [List.append_nil]; exact hG, rfl, .rfl' h⟩
  | cons w ws =>
    rcases hG with ⟨rfl, rfl⟩ | ⟨q, rfl, hq⟩
    · have hl : al < h.length := by rcases hd with hd | hd <;> exact (List.getElem?_eq_some_iff.1 hd).1
      refine ⟨.tok al, h.set al (.tok (([] : List V).length + (w :: ws).length) (zc zz)), ?_, .inr ⟨al, rfl, ?_⟩, by simp, .set _ fun cs e => ?_⟩
      · rcases hd with hd | hd
        · exact grow_nil 0 al b zz h [] ws w hd
        · exact grow_nilW 0 al b zz h [] ws w hd
      · rw [List.getElem?_set_self hl]; simp
      · rcases hd with hd | hd <;> rw [hd] at e <;> cases e
    · have hl : q < h.length := (List.getElem?_eq_some_iff.1 hq).1
      refine ⟨.tok q, h.set q (.tok (us.length + (w :: ws).length) (zc zz)), grow_tok 0 al b q zz false h us ws w hq, .inr ⟨q, rfl, ?_⟩, by simp, .set _ fun cs e => ?_⟩
      · rw [List.getElem?_set_self hl]; simp
      · rw [hq] at e; cases e
theorem gvk_grow {cf : CallF} {n : Nat} {K : List Fr} {Q : Ex → SF → Prop} {s : SF} {us : List V} {si : SI} {ws : List V} {al b : Nat} {zz : Option Nat} {h : List O} {d : Option Nat} {r : List XOper} (hG : Grows (zc zz) us si h) (hd : h[al]? = some .dead ∨ h[al]? = some .want)
    (hq : ∀ si' h', Grows (zc zz) (us ++ ws) si' h' → h'.length = h.length → Keeps h h' → opsk cf n r K Q ⟨updO s.e d (.sl (us ++ ws) si'), h', s.base, s.rb⟩) : gvk cf n (grow 0 al b zz false h us si ws) d r K Q s := by
  obtain ⟨si', h', h1, h2, h3, h4⟩ := grow_ex (b := b) (ws := ws) hG hd
  rw [h1, gvk_some]
  exact hq si' h' h2 h3 h4
theorem get_l3 (h : List O) (x y z : O) : (h ++ [x, y, z])[h.length + 2]? = some z := by
  rw [List.getElem?_append_right (by omega)]; simp
def rng1 (n : Nat) : List (List Int) := (List.range n).map fun (i : Nat) => [(i : Int)]
def rng3 (n : Nat) : List (List Int) := (List.range n).map fun (i : Nat) => [1, (i : Int), 2]
theorem rng1_succ (n : Nat) : rng1 (n + 1) = rng1 n ++ [[(n : Int)]] := by simp [rng1, List.range_succ]
theorem rng3_succ (n : Nat) : rng3 (n + 1) = rng3 n ++ [[1, (n : Int), 2]] := by simp [rng3, List.range_succ]
theorem rng1_len (n : Nat) : (rng1 n).length = n := by simp [rng1]
theorem rng3_len (n : Nat) : (rng3 n).length = n := by simp [rng3]
def D.rp (d : D) : List (List Int) :=
  if d.form = 4 then [[1], [2], [3]] else if d.form = 5 ∨ d.form = 9 then [[2]] else if d.form = 6 then [[2], [3]] else if d.form = 8 then [[1], [2]] else
  if d.form = 7 then rng3 (d.kid 1).kids.length ++ [[2]] else if d.form = 10 then rng1 d.kids.length else []
theorem pvs_app (a b : List (List Int)) : pvs (a ++ b) = pvs a ++ pvs b := by simp [pvs]
theorem pvs_hz (a : List (List Int)) : hz 1 (pvs a) = true := by cases a <;> rfl
theorem pvs_low (m : Nat) (a : List (List Int)) : V.lows m (pvs a) = true := lows_of fun v hv => by
  obtain ⟨p, _, rfl⟩ := List.mem_map.1 hv
  exact pv_low m p
structure J32 (l : List D) (k i : Int) (t : ByteArray) (m : Nat) (s : SF) : Prop where
  j : ∃ (j : Nat) (si : SI), j + m = l.length ∧ s.e 5 = .c (.int .i64 j) ∧ s.e 3 = .sl (pvs (rng1 j)) si ∧ Grows 1 (pvs (rng1 j)) si s.h
  h0 : s.h[0]? = some (dcell k i t (D.vs l) .any)
  e1 : s.e 1 = .ref 0 0
  b : s.base = 0
theorem app0 {h : List O} {o : O} (h0 : h[0]? = some o) (pre : List O) : (h ++ pre)[0]? = some o := by
  rw [List.getElem?_append_left (List.getElem?_eq_some_iff.1 h0).1]; exact h0
theorem jstep32 {cf : CallF} {fu : Nat} {l : List D} {k i : Int} {t : ByteArray} (hl : l.length < 1099511627776) {Q : Ex → SF → Prop}
    (hQ : ∀ s si, s.e 3 = .sl (pvs (rng1 l.length)) si → s.base = 0 → Q (.exit 3) s) (m : Nat) (s : SF) (I : J32 l k i t m s) :
    wpk cf fu x32l25 [] (fun e s' => match e with | .normal => ∃ k1, k1 < m ∧ J32 l k i t k1 s' | e => Q e s') s := by
  obtain ⟨⟨j, si, hj, e5, e3, hG⟩, h0, e1, hb⟩ := I
  obtain ⟨e, h, base, rb⟩ := s
  simp only at e5 e3 hG h0 e1 hb
  subst hb
  have ha := app0 h0
  simp only [dcell] at ha h0
  by_cases hm : j < l.length
  · have hlt : (j : Int) < l.length := by omega
    have hpl : (pvs (rng1 j)).length = j := by rw [pvs_len, rng1_len]
    have hj1 : (j + 1) * 24 ≤ 140737488355328 := by omega
    have hj2 : j + 1 ≤ 140737488355328 := by omega
    have hz1 := pvs_hz (rng1 j)
    simp -implicitDefEqProofs [x32l25_w, x32r22_w, x32r23_w, x32r24_w, e1, e3, e5, h0, ha, D.vs_len, hlt, hpl, hj1, hj2, hz1]
    refine gvk_grow (hG.app _) (.inr (get_l3 ..)) fun si' h' hG' hl' hk => ?_
    simp -implicitDefEqProofs [x32r24_w, e5]
    refine ⟨m - 1, by omega, ⟨⟨j + 1, si', by omega, ?_, ?_, ?_⟩, ?_, ?_, rfl⟩⟩
    · simp only [upd_at]
      simp
      rw [wrap_in (by omega)]
    · simp [upd_at, rng1_succ, pvs_app, pvs, pv, I64]
    · rw [rng1_succ, pvs_app]
      simpa [pvs, pv, I64] using hG'
    · simpa [dcell] using hk _ _ (ha _)
    · simp [upd_at, e1]
  · have hlt : ¬ (j : Int) < l.length := by omega
    obtain rfl : j = l.length := by omega
    simp -implicitDefEqProofs [x32l25_w, x32r22_w, e1, e5, h0, ha, D.vs_len]
    exact hQ _ si (by simp [upd_at, e3]) rfl
end Go.Proofs.YtkiliokeanmagaaDoor.Ab

namespace Go.Proofs.YtkiliokeanmagaaDoor.Ab
open Go
set_option linter.unusedVariables false
set_option linter.unusedSimpArgs false
set_option maxRecDepth 8000
set_option maxHeartbeats 2000000
def cell7 (k i : Int) (t : ByteArray) (a c : D) (k1 i1 : Int) (t1 : ByteArray) (l1 : List D) : O :=
  .cells [.c (.int .i64 k), .c (.int .i64 i), .c (.string t), .sl [a.v, .agg [.c (.int .i64 k1), .c (.int .i64 i1), .c (.string t1), .sl (D.vs l1) .any], c.v] .any]
structure L32 (l1 : List D) (o : O) (m : Nat) (s : SF) : Prop where
  j : ∃ (j : Nat) (si : SI), j + m = l1.length ∧ s.e 4 = .c (.int .i64 j) ∧ s.e 3 = .sl (pvs (rng3 j)) si ∧ Grows 1 (pvs (rng3 j)) si s.h
  h0 : s.h[0]? = some o
  e1 : s.e 1 = .ref 0 0
  b : s.base = 0
theorem lstep32 {cf : CallF} {fu : Nat} {k i : Int} {t : ByteArray} {a c : D} {k1 i1 : Int} {t1 : ByteArray} {l1 : List D} (hl : l1.length < 1099511627776) {Q : Ex → SF → Prop}
    (hQ : ∀ s si, s.e 3 = .sl (pvs (rng3 l1.length)) si → Grows 1 (pvs (rng3 l1.length)) si s.h → s.base = 0 → Q (.exit 1) s) (m : Nat) (s : SF) (I : L32 l1 (cell7 k i t a c k1 i1 t1 l1) m s) :
    wpk cf fu x32l18 [] (fun e s' => match e with | .normal => ∃ m', m' < m ∧ L32 l1 (cell7 k i t a c k1 i1 t1 l1) m' s' | e => Q e s') s := by
  obtain ⟨⟨j, si, hj, e4, e3, hG⟩, h0, e1, hb⟩ := I
  obtain ⟨e, h, base, rb⟩ := s
  simp only at e4 e3 hG h0 e1 hb
  subst hb
  have ha := app0 h0
  simp only [cell7] at ha h0
  by_cases hm : j < l1.length
  · have hlt : (j : Int) < l1.length := by omega
    have hpl : (pvs (rng3 j)).length = j := by rw [pvs_len, rng3_len]
    have hj1 : (j + 1) * 24 ≤ 140737488355328 := by omega
    have hj2 : j + 1 ≤ 140737488355328 := by omega
    have hz1 := pvs_hz (rng3 j)
    simp -implicitDefEqProofs [x32l18_w, x32r15_w, x32r16_w, x32r17_w, e1, e3, e4, h0, ha, D.vs_len, hlt, hpl, hj1, hj2, hz1]
    refine gvk_grow (hG.app _) (.inr (get_l3 ..)) fun si' h' hG' hl' hk => ?_
    simp -implicitDefEqProofs [x32r17_w, e4]
    refine ⟨m - 1, by omega, ⟨⟨j + 1, si', by omega, ?_, ?_, ?_⟩, ?_, ?_, rfl⟩⟩
    · simp only [upd_at]
      simp
      rw [wrap_in (by omega)]
    · simp [upd_at, rng3_succ, pvs_app, pvs, pv, I64]
    · rw [rng3_succ, pvs_app]
      simpa [pvs, pv, I64] using hG'
    · simpa [cell7] using hk _ _ (ha _)
    · simp [upd_at, e1]
  · have hlt : ¬ (j : Int) < l1.length := by omega
    obtain rfl : j = l1.length := by omega
    simp -implicitDefEqProofs [x32l18_w, x32r15_w, e1, e4, h0, ha, D.vs_len]
    exact hQ _ si (by simp [upd_at, e3]) hG rfl
theorem form_nz {d : D} {f : Int} (h : d.form = f) (hf : f ≠ 0 ∧ f ≠ 1 ∧ f ≠ 2) : d.kd ≠ 1 ∧ d.kd ≠ 2 ∧ okF (form0 d.kids) d.kids = true ∧ f = (if form0 d.kids = 0 then 10 else form0 d.kids) := by
  obtain ⟨k, i, t, l⟩ := d
  simp only [D.form] at h
  simp only [D.kd, D.kids]
  split at h
  · omega
  split at h
  · split at h <;> omega
  split at h
  · omega
  split at h
  · exact ⟨by assumption, by assumption, by assumption, h.symm⟩
  · omega
theorem form_7 {d : D} (h : d.form = 7) : d.kids.length = 3 := by
  obtain ⟨_, _, h3, h4⟩ := form_nz h (by omega)
  have : form0 d.kids = 7 := by split at h4 <;> omega
  rw [this] at h3
  simp [okF] at h3
  exact h3.1
theorem go32 (d : D) (hf : d.fm = true) {n : Nat} (hn : d.sz + 70 < n) (hl : d.sz < 1099511627776) : Gives (n + 1) 32 [d.v] (.sl (pvs d.rp) .any) := by
  have c30 : ∀ h, call X E n 30 [d.v] h = some (.c (.int .i64 d.form), h) := by
    obtain ⟨n', rfl⟩ : ∃ n', n = n' + 1 := ⟨n - 1, by omega⟩
    exact go30 d hf (by omega) (by omega) hl
  have hrl := pvs_low 0 d.rp
  have hkl := kids_lt d
  refine gives_of rfl rfl rfl (by kernel_rfl) ⟨rfl, rfl⟩ (by simp [D.vw2, V.lows, D.low]) ?_
  by_cases h4 : d.form = 4
  · have hr : d.rp = [[1], [2], [3]] := by simp [D.rp, h4]
    rw [h4] at c30
    rw [hr] at hrl ⊢
    simp only [pvs, pv, List.map_cons, List.map_nil, I64] at hrl ⊢
    simp -implicitDefEqProofs [x32_w, x32_r, x32r1_w, x32r2_w, x32r3_w, x32r4_w, x32r5_w, D.vw2, D.okc, D.rd, D.cells_len, c30]
    simp [V.low, V.lows, SI.low]
  have b4 : (d.form == 4) = false := by simp [h4]
  by_cases h5 : d.form = 5
  · have hr : d.rp = [[2]] := by simp [D.rp, h5]
    rw [h5] at c30
    rw [hr] at hrl ⊢
    simp only [pvs, pv, List.map_cons, List.map_nil, I64] at hrl ⊢
    simp -implicitDefEqProofs [x32_w, x32_r, x32r1_w, x32r2_w, x32r3_w, x32r4_w, x32r6_w, x32r7_w, x32r8_w, D.vw2, D.okc, D.rd, D.cells_len, c30]
    simp [V.low, V.lows, SI.low]
  by_cases h9 : d.form = 9
  · have hr : d.rp = [[2]] := by simp [D.rp, h9]
    rw [h9] at c30
    rw [hr] at hrl ⊢
    simp only [pvs, pv, List.map_cons, List.map_nil, I64] at hrl ⊢
    simp -implicitDefEqProofs [x32_w, x32_r, x32r1_w, x32r2_w, x32r3_w, x32r4_w, x32r6_w, x32r7_w, x32r8_w, D.vw2, D.okc, D.rd, D.cells_len, c30]
    simp [V.low, V.lows, SI.low]
  by_cases h6 : d.form = 6
  · have hr : d.rp = [[2], [3]] := by simp [D.rp, h6]
    rw [h6] at c30
    rw [hr] at hrl ⊢
    simp only [pvs, pv, List.map_cons, List.map_nil, I64] at hrl ⊢
    simp -implicitDefEqProofs [x32_w, x32_r, x32r1_w, x32r2_w, x32r3_w, x32r4_w, x32r6_w, x32r7_w, x32r9_w, x32r10_w, D.vw2, D.okc, D.rd, D.cells_len, c30]
    simp [V.low, V.lows, SI.low]
  by_cases h8 : d.form = 8
  · have hr : d.rp = [[1], [2]] := by simp [D.rp, h8]
    rw [h8] at c30
    rw [hr] at hrl ⊢
    simp only [pvs, pv, List.map_cons, List.map_nil, I64] at hrl ⊢
    simp -implicitDefEqProofs [x32_w, x32_r, x32r1_w, x32r2_w, x32r3_w, x32r4_w, x32r6_w, x32r7_w, x32r9_w, x32r11_w, x32r12_w, D.vw2, D.okc, D.rd, D.cells_len, c30]
    simp [V.low, V.lows, SI.low]
  by_cases h7 : d.form = 7
  · have hr : d.rp = rng3 (d.kid 1).kids.length ++ [[2]] := by simp [D.rp, h7]
    obtain ⟨a, b, c, habc⟩ := list3 (form_7 h7)
    rw [h7] at c30
    rw [hr] at hrl ⊢
    obtain ⟨k, i, t, l⟩ := d
    simp only [D.kids] at habc
    subst habc
    obtain ⟨k1, i1, t1, l1⟩ := b
    have hk1 : ((D.mk k i t [a, D.mk k1 i1 t1 l1, c]).kid 1).kids = l1 := rfl
    rw [hk1] at hrl ⊢
    have hl1 : l1.length < 1099511627776 ∧ l1.length < n := by
      have := D.len_szs l1
      simp only [D.sz, D.szs] at hl hn
      omega
    have hpl : (pvs (rng3 l1.length)).length = l1.length := by rw [pvs_len, rng3_len]
    have hj1 : (l1.length + 1) * 24 ≤ 140737488355328 := by omega
    have hj2 : l1.length + 1 ≤ 140737488355328 := by omega
    have hz1 := pvs_hz (rng3 l1.length)
    simp only [D.v, D.vs] at c30 ⊢
    simp -implicitDefEqProofs [x32_w, x32r1_w, x32r2_w, x32r3_w, x32r4_w, x32r6_w, x32r7_w, x32r9_w, x32r11_w, x32r13_w, x32r14_w, c30]
    refine lpk_of (L32 l1 (cell7 k i t a c k1 i1 t1 l1)) l1.length hl1.2 ⟨⟨0, .nil, by simp, by simp [upd_at], by simp [upd_at, rng3, pvs], .inl ⟨rfl, rfl⟩⟩, by simp [cell7], by simp [upd_at], rfl⟩ ?_
    refine lstep32 hl1.1 fun s si e3 hG hb => ?_
    obtain ⟨e, h, base, rb⟩ := s
    simp only at e3 hG hb
    subst hb
    simp -implicitDefEqProofs [x32r19_w, e3, hpl, hj1, hj2, hz1]
    refine gvk_grow (hG.app _) (.inr (get_l3 ..)) fun si' h' hG' hl' hk => ?_
    simp -implicitDefEqProofs [x32_r]
    simp [pvs_app, pvs, pv, I64, V.low, SI.low] at hrl ⊢
    exact hrl
  by_cases h10 : d.form = 10
  · have hr : d.rp = rng1 d.kids.length := by simp [D.rp, h10]
    rw [h10] at c30
    rw [hr] at hrl ⊢
    obtain ⟨k, i, t, l⟩ := d
    simp only [D.kids] at hrl hkl ⊢
    simp only [D.v] at c30 ⊢
    simp -implicitDefEqProofs [x32_w, x32r1_w, x32r2_w, x32r3_w, x32r4_w, x32r6_w, x32r7_w, x32r9_w, x32r11_w, x32r13_w, x32r20_w, x32r21_w, c30]
    refine lpk_of (J32 l k i t) l.length (by omega) ⟨⟨0, .nil, by simp, by simp [upd_at], by simp [upd_at, rng1, pvs], .inl ⟨rfl, rfl⟩⟩, by simp [dcell], by simp [upd_at], rfl⟩ ?_
    refine jstep32 (by omega) fun s si e3 hb => ?_
    obtain ⟨e, h, base, rb⟩ := s
    simp only at e3 hb
    subst hb
    simp -implicitDefEqProofs [x32_r, x32r26_w, e3]
    simpa [V.low, SI.low] using hrl
  have hr : d.rp = [] := by simp [D.rp, h4, h5, h9, h6, h8, h7, h10]
  rw [hr] at hrl ⊢
  have b5 : (d.form == 5) = false := by simp [h5]
  have b9 : (d.form == 9) = false := by simp [h9]
  have b6 : (d.form == 6) = false := by simp [h6]
  have b8 : (d.form == 8) = false := by simp [h8]
  have b7 : (d.form == 7) = false := by simp [h7]
  have b10 : (d.form == 10) = false := by simp [h10]
  simp -implicitDefEqProofs [x32_w, x32_r, x32r1_w, x32r2_w, x32r3_w, x32r4_w, x32r6_w, x32r7_w, x32r9_w, x32r11_w, x32r13_w, x32r20_w, x32r26_w, D.vw2, D.okc, D.rd, D.cells_len, c30, b4, b5, b6, b7, b8, b9, b10, pvs]
  try simp [V.low, V.lows, SI.low]
end Go.Proofs.YtkiliokeanmagaaDoor.Ab

namespace Go.Proofs.YtkiliokeanmagaaDoor.Ab
open Go
set_option linter.unusedVariables false
set_option linter.unusedSimpArgs false
set_option maxRecDepth 8000
set_option maxHeartbeats 2000000
theorem sub1_fst (frm : Nat) : ∀ (l : List D) (i : Nat), (sub1 frm l i).map (·.1) = (List.range' (frm + i) l.length).map fun (j : Nat) => [(j : Int)]
  | [], i => rfl
  | x :: l, i => by
    simp only [sub1, List.map_cons, List.length_cons, List.range'_succ, sub1_fst frm l (i + 1)]
    rfl
theorem recs_fst : ∀ (l : List D) (i : Nat), (recs l i).map (·.1) = (List.range' i l.length).map fun (j : Nat) => [1, (j : Int), 2]
  | [], i => rfl
  | x :: l, i => by
    simp only [recs, List.map_cons, List.length_cons, List.range'_succ, recs_fst l (i + 1)]
theorem sub1_snd (frm : Nat) : ∀ (l : List D) (i : Nat), (sub1 frm l i).map (·.2) = l
  | [], i => rfl
  | x :: l, i => by simp only [sub1, List.map_cons, sub1_snd frm l (i + 1)]
theorem form_ok {d : D} {f : Int} (h : d.form = f) (hf : f ≠ 0 ∧ f ≠ 1 ∧ f ≠ 2 ∧ f ≠ 10) : okF f d.kids = true := by
  obtain ⟨_, _, h3, h4⟩ := form_nz h ⟨hf.1, hf.2.1, hf.2.2.1⟩
  split at h4
  · omega
  · rw [h4]; exact h3
theorem form_lenB {d : D} : (d.form = 4 → d.kids.length = 4) ∧ (d.form = 5 → d.kids.length = 3) ∧ (d.form = 9 → d.kids.length = 3) ∧ (d.form = 6 → d.kids.length = 4) ∧ (d.form = 8 → d.kids.length = 3) := by
  refine ⟨fun h => ?_, fun h => ?_, fun h => ?_, fun h => ?_, fun h => ?_⟩
  all_goals
    have := form_ok h (by omega)
    simp [okF] at this
    first | exact this | exact this.1
theorem form_grp {d : D} (h : d.form = 7) : grp (d.kid 1) = true := by
  have := form_ok h (by omega)
  simp [okF] at this
  exact this.2
theorem D.parts_rp (d : D) : d.parts.map (·.1) = d.rp := by
  obtain ⟨l4, l5, l9, l6, l8⟩ := form_lenB (d := d)
  unfold D.parts D.rp
  by_cases h4 : d.form = 4
  · obtain ⟨a, b, c, e, he⟩ := list4 (l4 h4)
    simp [h4, he, sub1]
  by_cases h5 : d.form = 5
  · obtain ⟨a, b, c, he⟩ := list3 (l5 h5)
    simp [h5, he, sub1]
  by_cases h9 : d.form = 9
  · obtain ⟨a, b, c, he⟩ := list3 (l9 h9)
    simp [h9, he, sub1]
  by_cases h6 : d.form = 6
  · obtain ⟨a, b, c, e, he⟩ := list4 (l6 h6)
    simp [h6, he, sub1]
  by_cases h8 : d.form = 8
  · obtain ⟨a, b, c, he⟩ := list3 (l8 h8)
    simp [h8, he, sub1]
  by_cases h7 : d.form = 7
  · obtain ⟨a, b, c, he⟩ := list3 (form_7 h7)
    simp [h7, he, sub1, rng3, List.range_eq_range']
    exact recs_fst _ 0
  by_cases h10 : d.form = 10
  · simp only [h10]
    simp [sub1_fst, rng1, List.range_eq_range']
  simp [h4, h5, h9, h6, h8, h7, h10]
theorem D.at_one {k i : Int} {t : ByteArray} {l : List D} {j : Nat} (h : j < l.length) : D.at [(j : Int)] (.mk k i t l) = some l[j] := by
  rw [D.at_mk (by omega) (by omega)]
  rfl
theorem sub1_at {k i : Int} {t : ByteArray} {l : List D} {frm : Nat} : ∀ (L : List D) (j : Nat), (∀ u (h : u < L.length), ∃ h' : frm + j + u < l.length, L[u] = l[frm + j + u]) → ∀ p x, (p, x) ∈ sub1 frm L j → D.at p (.mk k i t l) = some x
  | [], _, _, p, x, h => by simp [sub1] at h
  | y :: L, j, hL, p, x, h => by
    simp only [sub1, List.mem_cons, Prod.mk.injEq] at h
    rcases h with ⟨rfl, rfl⟩ | h
    · obtain ⟨h1, h2⟩ := hL 0 (by simp)
      simp only [List.getElem_cons_zero, Nat.add_zero] at h1 h2
      rw [h2]
      exact D.at_one h1
    · refine sub1_at L (j + 1) (fun u hu => ?_) p x h
      obtain ⟨h1, h2⟩ := hL (u + 1) (by simp; omega)
      refine ⟨by omega, ?_⟩
      simp only [List.getElem_cons_succ] at h2
      rw [h2]
      congr 1
      omega
theorem sub1_drop {k i : Int} {t : ByteArray} {l : List D} {frm : Nat} : ∀ p x, (p, x) ∈ sub1 frm (l.drop frm) 0 → D.at p (.mk k i t l) = some x :=
  sub1_at _ 0 fun u hu => by
    simp at hu
    exact ⟨by omega, by simp⟩
theorem recs_at {k i : Int} {t : ByteArray} {l L : List D} {k1 i1 : Int} {t1 : ByteArray} (h1 : l[1]? = some (.mk k1 i1 t1 L)) (hg : ∀ x ∈ L, x.kids.length = 3) : ∀ (M : List D) (j : Nat), (∀ u (h : u < M.length), ∃ h' : j + u < L.length, M[u] = L[j + u]) → ∀ p x, (p, x) ∈ recs M j → D.at p (.mk k i t l) = some x
  | [], _, _, p, x, h => by simp [recs] at h
  | y :: M, j, hM, p, x, h => by
    simp only [recs, List.mem_cons, Prod.mk.injEq] at h
    rcases h with ⟨rfl, rfl⟩ | h
    · obtain ⟨a1, a2⟩ := hM 0 (by simp)
      simp only [List.getElem_cons_zero, Nat.add_zero] at a1 a2
      obtain ⟨b1, b2⟩ := List.getElem?_eq_some_iff.1 h1
      rw [D.at_mk (by omega) (by simpa using b1)]
      have : l[(1 : Int).toNat]'(by simpa using b1) = .mk k1 i1 t1 L := b2
      rw [this, D.at_mk (by omega) (by simpa using a1)]
      have : L[((j : Nat) : Int).toNat]'(by simpa using a1) = y := by rw [a2]; rfl
      rw [this]
      have hy := hg y (a2 ▸ List.getElem_mem a1)
      obtain ⟨ky, iy, ty, ly⟩ := y
      simp only [D.kids] at hy
      have := D.at_one (k := ky) (i := iy) (t := ty) (l := ly) (j := 2) (by omega)
      have hk : (D.mk ky iy ty ly).kid 2 = ly[2] := by
        simp only [D.kid, D.kids]
        rw [List.getD_eq_getElem?_getD, List.getElem?_eq_getElem (by omega)]
        rfl
      rw [hk]
      exact this
    · refine recs_at h1 hg M (j + 1) (fun u hu => ?_) p x h
      obtain ⟨h1, h2⟩ := hM (u + 1) (by simp; omega)
      refine ⟨by omega, ?_⟩
      simp only [List.getElem_cons_succ] at h2
      rw [h2]
      congr 1
      omega
theorem D.parts_at (d : D) : ∀ p x, (p, x) ∈ d.parts → D.at p d = some x := by
  intro p x h
  unfold D.parts at h
  split at h
  · obtain ⟨k, i, t, l⟩ := d
    exact sub1_drop p x h
  split at h
  · obtain ⟨k, i, t, l⟩ := d
    exact sub1_drop p x h
  split at h
  · rename_i h7
    have hg := form_grp h7
    have hl := form_7 h7
    obtain ⟨k, i, t, l⟩ := d
    rcases List.mem_append.1 h with h | h
    · simp only [D.kids] at hl
      have hk : l[1]? = some ((D.mk k i t l).kid 1) := by
        simp only [D.kid, D.kids]
        rw [List.getD_eq_getElem?_getD, List.getElem?_eq_getElem (by omega)]
        rfl
      generalize (D.mk k i t l).kid 1 = c at *
      obtain ⟨k1, i1, t1, L⟩ := c
      refine recs_at hk (fun x hx => ?_) L 0 (fun u hu => ⟨by omega, by simp⟩) p x h
      simp only [grp, Bool.and_eq_true, List.all_eq_true, D.kids] at hg
      have := hg.2.2.2.1 x hx
      simp only [defB, Bool.and_eq_true] at this
      simpa using this.2.1
    · exact sub1_drop p x h
  split at h
  · obtain ⟨k, i, t, l⟩ := d
    have := sub1_drop (k := k) (i := i) (t := t) (l := l) (frm := 0) p x
    exact this h
  · simp at h
end Go.Proofs.YtkiliokeanmagaaDoor.Ab

namespace Go.Proofs.YtkiliokeanmagaaDoor.Ab
open Go
set_option linter.unusedVariables false
set_option linter.unusedSimpArgs false
set_option maxRecDepth 8000
set_option maxHeartbeats 2000000
theorem get_m (h : List O) (a : O) (t : List O) : (h ++ a :: t)[h.length]? = some a := by
  rw [List.getElem?_append_right (Nat.le_refl _)]; simp
theorem get_m1 (h : List O) (a b : O) (t : List O) : (h ++ a :: b :: t)[h.length + 1]? = some b := by
  rw [List.getElem?_append_right (by omega)]; simp
theorem get_m2 (h : List O) (a b c : O) (t : List O) : (h ++ a :: b :: c :: t)[h.length + 2]? = some c := by
  rw [List.getElem?_append_right (by omega)]; simp
theorem set_m (h : List O) (a x : O) (t : List O) : (h ++ a :: t).set h.length x = h ++ x :: t := by
  rw [List.set_append_right _ _ (Nat.le_refl _)]; simp
def D.subs (d : D) : List D := d.parts.map (·.2)
theorem parts_len (d : D) : d.parts.length = d.rp.length := by rw [← D.parts_rp, List.length_map]
theorem subs_len (d : D) : d.subs.length = d.rp.length := by rw [D.subs, List.length_map, parts_len]
theorem parts_get {d : D} {j : Nat} (h : j < d.rp.length) : d.parts[j]'(by rw [parts_len]; exact h) = (d.rp[j], d.subs[j]'(by rw [subs_len]; exact h)) := by
  have h1 : d.rp[j] = (d.parts.map (·.1))[j]'(by rw [D.parts_rp]; exact h) := by simp only [D.parts_rp]
  rw [h1]
  simp [D.subs]
theorem rp_at {d : D} {j : Nat} (h : j < d.rp.length) : D.at d.rp[j] d = some (d.subs[j]'(by rw [subs_len]; exact h)) :=
  d.parts_at _ _ (by rw [← parts_get h]; exact List.getElem_mem _)
theorem rp_mem {d : D} {p : List Int} (h : p ∈ d.rp) : p.length ≤ 3 := by
  rw [← D.parts_rp] at h
  obtain ⟨⟨q, x⟩, h1, rfl⟩ := List.mem_map.1 h
  exact (parts_mem h1).2
theorem parts_num (d : D) : d.parts.length ≤ d.sz := by
  have hs1 : ∀ frm (l : List D) i, (sub1 frm l i).length = l.length := fun frm l i => by
    have := congrArg List.length (sub1_snd frm l i)
    simpa using this
  have hs2 : ∀ (l : List D) i, (recs l i).length = l.length := fun l i => by
    have := congrArg List.length (recs_fst l i)
    simpa using this
  have hk := kids_lt d
  unfold D.parts
  split
  · rw [hs1, List.length_drop]; omega
  split
  · rw [hs1, List.length_drop]; omega
  split
  · rename_i h7
    have h3 := form_7 h7
    obtain ⟨k, i, t, l⟩ := d
    simp only [D.kids] at h3
    obtain ⟨a, b, c, rfl⟩ := list3 h3
    rw [List.length_append, hs1, hs2, List.length_drop]
    have := kids_lt b
    have hb : (D.mk k i t [a, b, c]).kid 1 = b := rfl
    rw [hb]
    have hkk : (D.mk k i t [a, b, c]).kids.length = 3 := rfl
    rw [hkk]
    simp only [D.sz, D.szs]
    have := D.sz_pos a
    have := D.sz_pos c
    omega
  split
  · rw [hs1]; omega
  · simp
theorem cons_of {h : List O} {o : O} (h0 : h[0]? = some o) : ∃ r, h = o :: r := by
  cases h with
  | nil => simp at h0
  | cons a r => simp at h0; exact ⟨r, by rw [h0]⟩
structure J55 (d : D) (m : Nat) (s : SF) : Prop where
  j : ∃ (j : Nat) (si : SI), j + m = d.rp.length ∧ s.e 5 = .c (.int .i64 j) ∧ s.e 3 = .sl (D.vs (d.subs.take j)) si ∧ Grows 4 (D.vs (d.subs.take j)) si s.h
  h0 : s.h[0]? = some (.cells d.v.cells)
  e1 : s.e 1 = .ref 0 0
  e4 : s.e 4 = .sl (pvs d.rp) .any
  b : s.base = 0
theorem jstep55 {cf : CallF} {fu : Nat} {d : D} (hl : d.rp.length < 1099511627776) (c27 : ∀ j (h : j < d.rp.length) hh, cf 27 [d.v, pv d.rp[j]] hh = some (.tup [(d.subs[j]'(by rw [subs_len]; exact h)).v, .c (.bool true)], hh)) {Q : Ex → SF → Prop}
    (hQ : ∀ s si, s.e 3 = .sl (D.vs d.subs) si → s.base = 0 → Q (.exit 0) s) (m : Nat) (s : SF) (I : J55 d m s) :
    wpk cf fu x55l9 [] (fun e s' => match e with | .normal => ∃ k1, k1 < m ∧ J55 d k1 s' | e => Q e s') s := by
  obtain ⟨⟨j, si, hj, e5, e3, hG⟩, h0, e1, e4, hb⟩ := I
  obtain ⟨e, h, base, rb⟩ := s
  simp only at e5 e3 hG h0 e1 e4 hb
  subst hb
  obtain ⟨rest, rfl⟩ := cons_of h0
  have hsl := subs_len d
  have hpl := pvs_len d.rp
  by_cases hm : j < d.rp.length
  · have hlt : (j : Int) < d.rp.length := by omega
    have hvl : (D.vs (d.subs.take j)).length = j := by rw [D.vs_len]; simp; omega
    have hj1 : (j + 1) * 56 ≤ 140737488355328 := by omega
    have hj2 : j + 1 ≤ 140737488355328 := by omega
    have hz1 := D.hz (d.subs.take j)
    have hq : (pvs d.rp)[j]'(by omega) = pv d.rp[j] := by simp [pvs]
    have hc := c27 j hm
    have hts : d.subs.take (j + 1) = d.subs.take j ++ [d.subs[j]'(by omega)] := by rw [List.take_add_one, List.getElem?_eq_getElem (by omega)]; rfl
    generalize hx : d.subs[j]'(by omega) = x at *
    have hcl : (pv d.rp[j]).cells = [pv d.rp[j]] := rfl
    generalize hP : pv d.rp[j] = P at *
    simp -implicitDefEqProofs [x55l9_w, x55r5_w, x55r6_w, x55r7_w, x55r8_w, e1, e3, e4, e5, hpl, hlt, hm, hvl, hj1, hj2, hz1, hq, hcl, hc, D.cells_len, D.rd, D.okc, D.vw2, D.spl, get_m, get_m1, get_m2, set_m]
    refine gvk_grow (zz := some 4) (h := (O.cells d.v.cells :: rest) ++ _) (hG.app _) (.inl ?_) fun si' h' hG' hl' hk => ?_
    · first | exact get_m2 .. | exact get_l3 ..
    simp -implicitDefEqProofs [x55r8_w, e5]
    refine ⟨m - 1, by omega, ⟨⟨j + 1, si', by omega, ?_, ?_, ?_⟩, ?_, ?_, ?_, rfl⟩⟩
    · simp only [upd_at]
      simp
      rw [wrap_in (by omega)]
    · simp [upd_at, hts, D.vs_app, D.vs]
    · rw [hts, D.vs_app]
      simpa [D.vs] using hG'
    · simpa using hk 0 _ (by simp)
    · simp [upd_at, e1]
    · simp [upd_at, e4]
  · have hlt : ¬ (j : Int) < d.rp.length := by omega
    rw [List.take_of_length_le (by omega)] at e3
    simp -implicitDefEqProofs [x55l9_w, x55r5_w, e1, e4, e5, hpl, hlt]
    exact hQ _ si (by simp [upd_at, e3]) rfl
theorem go55 (d : D) (hf : d.fm = true) {n : Nat} (hn : d.sz + 80 < n) (hl : d.sz < 1099511627776) : Gives (n + 1) 55 [d.v] (.sl (D.vs d.subs) .any) := by
  obtain ⟨n, rfl⟩ : ∃ n', n = n' + 1 := ⟨n - 1, by omega⟩
  have c32 : ∀ h, call X E (n + 1) 32 [d.v] h = some (.sl (pvs d.rp) .any, h) := go32 d hf (by omega) hl
  have hnum := parts_num d
  have hpl := parts_len d
  have c27 : ∀ j (h : j < d.rp.length) hh, call X E (n + 1) 27 [d.v, pv d.rp[j]] hh = some (.tup [(d.subs[j]'(by rw [subs_len]; exact h)).v, .c (.bool true)], hh) := fun j h => by
    have h3 := rp_mem (List.getElem_mem h)
    have := run35 (d := d) (p := d.rp[j]) (n := n) (by omega) (by omega)
    simp only [atRes, rp_at h] at this
    exact this
  have hlow := D.lows 0 d.subs
  generalize n + 1 = m at *
  refine gives_of rfl rfl rfl (by kernel_rfl) ⟨rfl, rfl⟩ (by simp [D.vw2, V.lows, D.low]) ?_
  simp -implicitDefEqProofs [x55_w, x55r1_w, x55r2_w, x55r3_w, x55r4_w, D.vw2, D.okc, D.rd, D.cells_len, c32]
  refine lpk_of (J55 d) d.rp.length (by omega) ⟨⟨0, .nil, by simp, by simp [upd_at], by simp [upd_at, D.vs], .inl ⟨rfl, rfl⟩⟩, by simp, by simp [upd_at], by simp [upd_at], rfl⟩ ?_
  refine jstep55 (by omega) c27 fun s si e3 hb => ?_
  obtain ⟨e, h, base, rb⟩ := s
  simp only at e3 hb
  subst hb
  simp -implicitDefEqProofs [x55_r, x55r10_w, e3]
  simpa [V.low, SI.low] using hlow
structure J37 (d : D) (f : D → Option (List Int)) (m : Nat) (s : SF) : Prop where
  j : ∃ (j : Nat), j + m = d.rp.length ∧ s.e 6 = .c (.int .i64 j) ∧ firstW f d.parts = firstW f (d.parts.drop j)
  e4 : s.e 4 = .sl (pvs d.rp) .any
  e5 : s.e 5 = .sl (D.vs d.subs) .any
  b : s.base = 0
theorem jstep37 {cf : CallF} {fu : Nat} {d : D} {f : D → Option (List Int)} (hl : d.rp.length < 1099511627776) (c37 : ∀ j (h : j < d.rp.length) hh, cf 37 [(d.subs[j]'(by rw [subs_len]; exact h)).v] hh = some (wres (f (d.subs[j]'(by rw [subs_len]; exact h))), hh))
    (c65 : ∀ j (h : j < d.rp.length) q, f (d.subs[j]'(by rw [subs_len]; exact h)) = some q → ∀ hh, cf 65 [pv d.rp[j], pv q] hh = some (pv (d.rp[j] ++ q), hh)) {Q : Ex → SF → Prop}
    (hQ : ∀ s, firstW f d.parts = none → s.base = 0 → Q (.exit 0) s) (hR : ∀ s q, firstW f d.parts = some q → s.e 2 = pv q → s.e 3 = .c (.bool true) → s.base = 0 → Q .ret s) (m : Nat) (s : SF) (I : J37 d f m s) :
    wpk cf fu x37l11 [] (fun e s' => match e with | .normal => ∃ k1, k1 < m ∧ J37 d f k1 s' | e => Q e s') s := by
  obtain ⟨⟨j, hj, e6, hw⟩, e4, e5, hb⟩ := I
  obtain ⟨e, h, base, rb⟩ := s
  simp only at e6 e4 e5 hb
  subst hb
  have hsl := subs_len d
  have hpl := pvs_len d.rp
  have hpp := parts_len d
  by_cases hm : j < d.rp.length
  · have hlt : (j : Int) < d.rp.length := by omega
    have hq : (pvs d.rp)[j]'(by omega) = pv d.rp[j] := by simp [pvs]
    have hd : d.parts.drop j = (d.rp[j], d.subs[j]'(by omega)) :: d.parts.drop (j + 1) := by
      rw [← parts_get hm]; exact List.drop_eq_getElem_cons (by omega)
    rw [hd] at hw
    have hc := c37 j hm
    have hc2 := c65 j hm
    have hvl : (D.vs d.subs).length = d.rp.length := by rw [D.vs_len, hsl]
    have hvg : (D.vs d.subs)[j]'(by omega) = (d.subs[j]'(by omega)).v := D.vs_getE _
    generalize hx : d.subs[j]'(by omega) = x at *
    generalize hp : d.rp[j] = p at *
    have hcl : (pv p).cells = [pv p] := rfl
    cases hfx : f x with
    | none =>
      rw [hfx] at hc
      simp only [wres] at hc
      simp only [firstW, hfx] at hw
      simp -implicitDefEqProofs [x37l11_w, x37r6_w, x37r7_w, x37r8_w, x37r10_w, e4, e5, e6, hpl, hvl, hvg, hlt, hm, hc, D.cells_len, D.rd, D.okc]
      refine ⟨m - 1, by omega, ⟨⟨j + 1, by omega, ?_, hw⟩, ?_, ?_, rfl⟩⟩
      · simp only [upd_at]
        simp
        rw [wrap_in (by omega)]
      · simp [upd_at, e4]
      · simp [upd_at, e5]
    | some q =>
      rw [hfx] at hc
      simp only [firstW, hfx] at hw
      have hj' := hc2 q hfx
      simp only [wres] at hc
      generalize hPQ : pv (p ++ q) = PQ at *
      generalize pv q = R at *
      generalize pv p = P at *
      simp -implicitDefEqProofs [x37l11_w, x37r6_w, x37r7_w, x37r8_w, x37r9_w, x37r10_w, e4, e5, e6, hpl, hvl, hvg, hlt, hm, hq, hcl, hc, hj', D.cells_len, D.rd, D.okc]
      exact hR _ (p ++ q) hw (by simp [upd_at, hPQ]) (by simp [upd_at]) rfl
  · have hlt : ¬ (j : Int) < d.rp.length := by omega
    rw [List.drop_of_length_le (by omega)] at hw
    simp -implicitDefEqProofs [x37l11_w, x37r6_w, e4, e6, hpl, hlt]
    exact hQ _ hw rfl
theorem go37 : ∀ (f : Nat) (d : D), d.fm = true → d.sz ≤ f → d.sz < 100000000000 → ∀ n, 4 * d.sz + 120 ≤ n → Gives n 37 [d.v] (wres (wrongN f d))
  | 0, d, _, h, _, _, _ => by have := D.sz_pos d; omega
  | f + 1, d, hfm, hf, hl, n, hn => by
    obtain ⟨n, rfl⟩ : ∃ n', n = n' + 3 := ⟨n - 3, by omega⟩
    have c30 : ∀ h, call X E (n + 2) 30 [d.v] h = some (.c (.int .i64 d.form), h) := go30 d hfm (by omega) (by omega) (by omega)
    have c32 : ∀ h, call X E (n + 2) 32 [d.v] h = some (.sl (pvs d.rp) .any, h) := go32 d hfm (by omega) (by omega)
    have c55 : ∀ h, call X E (n + 2) 55 [d.v] h = some (.sl (D.vs d.subs) .any, h) := go55 d hfm (by omega) (by omega)
    have hsub : ∀ j (h : j < d.rp.length), (d.rp[j], d.subs[j]'(by rw [subs_len]; exact h)) ∈ d.parts := fun j h => by rw [← parts_get h]; exact List.getElem_mem _
    have c37 : ∀ j (h : j < d.rp.length) hh, call X E (n + 2) 37 [(d.subs[j]'(by rw [subs_len]; exact h)).v] hh = some (wres (wrongN f (d.subs[j]'(by rw [subs_len]; exact h))), hh) := fun j h => by
      have h1 := parts_mem (hsub j h)
      exact go37 f _ (D.at_fm _ _ _ (rp_at h) hfm) (by omega) (by omega) (n + 2) (by omega)
    have c65 : ∀ j (h : j < d.rp.length) q, wrongN f (d.subs[j]'(by rw [subs_len]; exact h)) = some q → ∀ hh, call X E (n + 2) 65 [pv d.rp[j], pv q] hh = some (pv (d.rp[j] ++ q), hh) := fun j h q hq => by
      have h1 := parts_mem (hsub j h)
      have h2 := wrong_len f _ q hq
      exact go65 _ _ (by omega) (by omega)
    have hnum := parts_num d
    have hpl := parts_len d
    show Gives ((n + 2) + 1) 37 [d.v] _
    generalize hnm : n + 2 = m at *
    refine gives_of rfl rfl rfl (by kernel_rfl) ⟨rfl, rfl⟩ (by simp [D.vw2, V.lows, D.low]) ?_
    by_cases h0 : d.form = 0
    · have hw : wres (wrongN (f + 1) d) = wres (some []) := by simp only [wrongN, h0, if_true]
      rw [hw]
      rw [h0] at c30
      simp -implicitDefEqProofs [x37_w, x37_r, x37r1_w, x37r2_w, x37r3_w, D.vw2, D.okc, D.rd, D.cells_len, c30, wres, pv]
      try simp [V.low, V.lows, SI.low]
    · have hw : wres (wrongN (f + 1) d) = wres (firstW (wrongN f) d.parts) := by simp only [wrongN, h0, if_false]
      rw [hw]
      have hb : (d.form == 0) = false := by simp [h0]
      simp -implicitDefEqProofs [x37_w, x37r1_w, x37r2_w, x37r4_w, x37r5_w, D.vw2, D.okc, D.rd, D.cells_len, c30, hb, c32, c55]
      refine lpk_of (J37 d (wrongN f)) d.rp.length (by omega) ⟨⟨0, by simp, by simp [upd_at], by simp⟩, by simp [upd_at], by simp [upd_at], rfl⟩ ?_
      refine jstep37 (by omega) c37 c65 (fun s h1 hb => ?_) fun s q h1 h2 h3 hb => ?_
      · obtain ⟨e, h, base, rb⟩ := s
        simp only at hb
        subst hb
        simp -implicitDefEqProofs [x37_r, x37r12_w, h1, wres]
        try simp [V.low, V.lows, SI.low]
      · obtain ⟨e, h, base, rb⟩ := s
        simp only at hb h2 h3
        subst hb
        have hlq := pv_low 0 q
        simp -implicitDefEqProofs [x37_r, h1, h2, h3, wres]
        simp [pv, V.low, V.lows, lows_I64, SI.low]
theorem go11 (d : D) (hl : d.sz < 100000000000) {n : Nat} (hn : 4 * d.sz + 200 ≤ n) : Gives (n + 1) 11 [d.v] d.chk := by
  have c20 : ∀ h, call X E n 20 [d.v] h = some (.c (.int .i64 d.ck), h) := run16 d (by omega) n (by omega)
  refine gives_of rfl rfl rfl (by kernel_rfl) ⟨rfl, rfl⟩ (by simp [D.vw2, V.lows, D.low]) ?_
  by_cases hc : d.ck = 0
  · have hb : (d.ck != 0) = false := by simp [hc]
    have c37 : ∀ h, call X E n 37 [d.v] h = some (wres (wrongN d.sz d), h) := go37 d.sz d ((D.ck_zero d).1 hc).1 (Nat.le_refl _) hl n (by omega)
    cases hw : wrongN d.sz d with
    | none =>
      have hr : d.chk = .tup [.sl [] .any, .c (.int .i64 0)] := by simp [D.chk, hc, hw]
      rw [hw] at c37
      simp only [wres] at c37
      rw [hr]
      simp -implicitDefEqProofs [x11_w, x11_r, x11r1_w, x11r2_w, x11r3_w, x11r5_w, x11r6_w, x11r8_w, D.vw2, D.okc, D.rd, D.cells_len, c20, c37, hb]
      try simp [V.low, V.lows, SI.low]
    | some p =>
      have hr : d.chk = .tup [pv p, .c (.int .i64 4)] := by simp [D.chk, hc, hw]
      rw [hw] at c37
      simp only [wres, pv] at c37
      rw [hr, pv]
      simp -implicitDefEqProofs [x11_w, x11_r, x11r1_w, x11r2_w, x11r3_w, x11r5_w, x11r6_w, x11r7_w, D.vw2, D.okc, D.rd, D.cells_len, c20, c37, hb]
      try simp [V.low, V.lows, lows_I64, SI.low]
  · have hb : (d.ck != 0) = true := by simp [hc]
    have hr : d.chk = .tup [.sl [] .any, .c (.int .i64 d.ck)] := by simp [D.chk, hc]
    rw [hr]
    simp -implicitDefEqProofs [x11_w, x11_r, x11r1_w, x11r2_w, x11r3_w, x11r4_w, D.vw2, D.okc, D.rd, D.cells_len, c20, hb]
    try simp [V.low, V.lows, SI.low]
end Go.Proofs.YtkiliokeanmagaaDoor.Ab

namespace Go.Proofs.YtkiliokeanmagaaDoor.Ab
open Go
set_option linter.unusedVariables false
set_option linter.unusedSimpArgs false
set_option maxRecDepth 8000
set_option maxHeartbeats 2000000
def walkS {σ : Type} (Z : List Int → D → σ → σ × Nat) : List (List Int × D) → σ → σ × Nat
  | [], s => (s, 0)
  | (p, x) :: r, s => if (Z p x s).2 = 0 then walkS Z r (Z p x s).1 else Z p x s
structure PartRndA {σ : Type} (n y : Nat) (caps : List V) (N : Nat) (F : σ → List O) (P W : σ → Prop) (A : List Int → D → σ → Prop) (Z : List Int → D → σ → σ × Nat) (L : List (List Int × D)) : Prop where
  len : ∀ s, (F s).length = N
  low : ∀ s, W s → (F s).all (O.low N) = true
  imp : ∀ s, P s → W s
  pres : ∀ p x, (p, x) ∈ L → ∀ s, P s → A p x s → W (Z p x s).1 ∧ ((Z p x s).2 = 0 → P (Z p x s).1)
  rnd : ∀ p x, (p, x) ∈ L → ∀ s, P s → A p x s → ∀ R, lowH (F s ++ .loop 0 :: R) → call X E n y (.c (.int .i64 N) :: pf p :: x.v :: caps) (F s ++ .loop 0 :: R) = some (.c (.bool ((Z p x s).2 == 0)), F (Z p x s).1 ++ .loop (Z p x s).2 :: R)
def okS {σ : Type} (Z : List Int → D → σ → σ × Nat) (A : List Int → D → σ → Prop) : List (List Int × D) → σ → Prop
  | [], _ => True
  | (p, x) :: r, s => A p x s ∧ ((Z p x s).2 = 0 → okS Z A r (Z p x s).1)
theorem low_st {σ : Type} {N : Nat} {F : σ → List O} (hlen : ∀ s, (F s).length = N) {s s' : σ} (h' : (F s').all (O.low N) = true) {o o' : O} (ho : ∀ m, O.low m o' = true) {R : List O} (hl : lowH (F s ++ o :: R)) : lowH (F s' ++ o' :: R) := by
  unfold lowH at *
  rw [List.all_append, Bool.and_eq_true, List.all_cons, Bool.and_eq_true] at *
  have e : (F s' ++ o' :: R).length = (F s ++ o :: R).length := by simp [hlen]
  rw [e]
  refine ⟨olow_mono (by simp [hlen]) h', ho _, hl.2.2⟩
theorem low_s0 {σ : Type} {N : Nat} {F : σ → List O} (hlen : ∀ s, (F s).length = N) {s : σ} (h' : (F s).all (O.low N) = true) (m : Nat) : lowH (F s ++ [.loop m]) := by
  unfold lowH
  rw [List.all_append, Bool.and_eq_true]
  exact ⟨olow_mono (by simp [hlen]) h', rfl⟩
theorem olow_loop (n m : Nat) : O.low n (.loop m) = true := rfl
open Classical in
noncomputable def Y72 {σ : Type} (F : σ → List O) (P : σ → Prop) (A : List Int → D → σ → Prop) (Z : List Int → D → σ → σ × Nat) : List Int → D → List O → Option (Bool × List O) := fun p x H =>
  if h : ∃ s, (P s ∧ A p x s) ∧ H = F s ++ [.loop 0] then some ((Z p x h.choose).2 == 0, F (Z p x h.choose).1 ++ [.loop (Z p x h.choose).2]) else none
theorem Y72_at {σ : Type} {n y : Nat} {caps : List V} {N : Nat} {F : σ → List O} {P W : σ → Prop} {A : List Int → D → σ → Prop} {Z : List Int → D → σ → σ × Nat} {L : List (List Int × D)} (R : PartRndA n y caps N F P W A Z L) {p : List Int} {x : D} (hin : (p, x) ∈ L) {s : σ} (hs : P s) (ha : A p x s) :
    Y72 F P A Z p x (F s ++ [.loop 0]) = some ((Z p x s).2 == 0, F (Z p x s).1 ++ [.loop (Z p x s).2]) := by
  have h : ∃ s', (P s' ∧ A p x s') ∧ F s ++ [.loop 0] = F s' ++ [.loop 0] := ⟨s, ⟨hs, ha⟩, rfl⟩
  unfold Y72
  rw [dif_pos h]
  obtain ⟨⟨h1, h1a⟩, h2⟩ := h.choose_spec
  generalize h.choose = s' at *
  have a1 := R.rnd p x hin s hs ha [] (low_s0 R.len (R.low s (R.imp s hs)) 0)
  have a2 := R.rnd p x hin s' h1 h1a [] (low_s0 R.len (R.low s' (R.imp s' h1)) 0)
  rw [← h2, a1] at a2
  simp only [Option.some.injEq, Prod.mk.injEq, V.c.injEq, Value.bool.injEq] at a2
  rw [← a2.1, ← a2.2]
theorem walk72 {σ : Type} {n y : Nat} {caps : List V} {N : Nat} {F : σ → List O} {P W : σ → Prop} {A : List Int → D → σ → Prop} {Z : List Int → D → σ → σ × Nat} {M : List (List Int × D)} (R : PartRndA n y caps N F P W A Z M) : ∀ L : List (List Int × D), (∀ q ∈ L, q ∈ M) → ∀ s, P s → okS Z A L s →
    walkY (Y72 F P A Z) L (F s ++ [.loop 0]) = some ((walkS Z L s).2 == 0, F (walkS Z L s).1 ++ [.loop (walkS Z L s).2])
  | [], _, s, hs, _ => rfl
  | (p, x) :: L, hL, s, hs, hk => by
    have hin := hL (p, x) (by simp)
    simp only [walkY, walkS]
    rw [Y72_at R hin hs hk.1]
    by_cases h0 : (Z p x s).2 = 0
    · rw [h0, if_pos rfl]
      exact walk72 R L (fun q hq => hL q (by simp [hq])) _ ((R.pres p x hin s hs hk.1).2 h0) (hk.2 h0)
    · rw [if_neg h0]
      have hb : ((Z p x s).2 == 0) = false := by simpa using h0
      rw [hb]
theorem walkS_P {σ : Type} {P W : σ → Prop} {A : List Int → D → σ → Prop} {Z : List Int → D → σ → σ × Nat} (hPW : ∀ s, P s → W s) : ∀ L : List (List Int × D), (∀ p x, (p, x) ∈ L → ∀ s, P s → A p x s → W (Z p x s).1 ∧ ((Z p x s).2 = 0 → P (Z p x s).1)) → ∀ s, P s → okS Z A L s → W (walkS Z L s).1
  | [], _, s, hs, _ => hPW s hs
  | (p, x) :: L, hp, s, hs, hk => by
    simp only [walkS]
    split
    · rename_i h0
      exact walkS_P hPW L (fun p x h => hp p x (by simp [h])) _ ((hp p x (by simp) s hs hk.1).2 h0) (hk.2 h0)
    · exact (hp p x (by simp) s hs hk.1).1
theorem go72S {σ : Type} {d : D} {n y : Nat} {caps : List V} {N c : Nat} {F : σ → List O} {P W : σ → Prop} {A : List Int → D → σ → Prop} {Z : List Int → D → σ → σ × Nat} (hn : d.sz + 10 < n) (hl : d.sz < 1099511627776) (hy : 1000000 ≤ y) (R : PartRndA n y caps N F P W A Z d.parts)
    (hc : ∀ s, P s → (F s)[c]? = some (.cells d.v.cells)) {s : σ} (hs : P s) (hk : okS Z A d.parts s) :
    call X E (n + 1) 72 [.yld N y 2 caps, .ref c 0] (F s ++ [.loop 0]) = some (.tup [], F (walkS Z d.parts s).1 ++ [.loop (walkS Z d.parts s).2]) := by
  have hN : (F s ++ [O.loop 0]).length = N + 1 := by simp [R.len]
  have hsplit : ∀ (G H : List O), G.take (N + 1) = H → H.length = N + 1 → G = H ++ G.drop (N + 1) := fun G H h1 h2 => by rw [← h1, List.take_append_drop]
  have hwk := walk72 R _ (fun _ h => h) s hs hk
  have hlw : (F (walkS Z d.parts s).1 ++ [O.loop (walkS Z d.parts s).2]).all (O.low (F s ++ [O.loop 0]).length) = true := by
    have := walkS_P (Z := Z) (P := P) (W := W) R.imp d.parts R.pres s hs hk
    rw [hN, List.all_append, Bool.and_eq_true]
    exact ⟨olow_mono (by omega) (R.low _ this), rfl⟩
  obtain ⟨V0, hW⟩ : ∃ V0 : Bool × List O, V0 = ((walkS Z d.parts s).2 == 0, F (walkS Z d.parts s).1 ++ [.loop (walkS Z d.parts s).2]) := ⟨_, rfl⟩
  rw [← hW] at hwk
  have hW2 : F (walkS Z d.parts s).1 ++ [O.loop (walkS Z d.parts s).2] = V0.2 := by rw [hW]
  rw [hW2] at hlw ⊢
  have hlH := low_s0 R.len (R.low s (R.imp s hs)) 0
  have hPH : ∃ s', P s' ∧ F s ++ [O.loop 0] = F s' ++ [O.loop 0] := ⟨s, hs, rfl⟩
  clear hW hW2
  generalize hH0 : F s ++ [O.loop 0] = H0 at *
  have key : ∀ (hcell : ∀ G : List O, H0.length ≤ G.length → (∃ s, P s ∧ G.take H0.length = F s ++ [O.loop 0]) → G[c]? = some (.cells d.v.cells)) (hY : YAt (call X E n) (N : Int) y caps H0.length (fun H => ∃ s, P s ∧ H = F s ++ [O.loop 0]) (Y72 F P A Z) d.parts),
      call X E (n + 1) 72 [.yld (N : Int).toNat y 2 caps, .ref c 0] H0 = some (.tup [], V0.2) := fun hcell hY =>
    go72 d hn hl (H := H0) (c := c) (k := (N : Int)) (Int.natCast_nonneg N) hy (Y := Y72 F P A Z) (P := fun H => ∃ s, P s ∧ H = F s ++ [O.loop 0]) (W := V0) hcell hPH hY hwk hlw hlH
  rw [Int.toNat_natCast] at key
  refine key ?_ ?_
  · rintro G hG ⟨s', h1, h2⟩
    rw [hN] at h2 hG
    have hcs := hc s' h1
    have hcl := (List.getElem?_eq_some_iff.1 hcs).1
    rw [R.len] at hcl
    have : G[c]? = (G.take (N + 1))[c]? := by rw [List.getElem?_take, if_pos (by omega)]
    rw [this, h2, List.getElem?_append_left (by rw [R.len]; exact hcl)]
    exact hcs
  · rintro p x hin H H' b hH ⟨s0, h0, rfl⟩ hq
    have hex : ∃ s', (P s' ∧ A p x s') ∧ F s0 ++ [.loop 0] = F s' ++ [.loop 0] := Classical.byContradiction fun hc => by
      unfold Y72 at hq
      rw [dif_neg hc] at hq
      cases hq
    obtain ⟨s', ⟨h1, hA⟩, heq⟩ := hex
    rw [heq] at hq hH ⊢
    rw [Y72_at R hin h1 hA] at hq
    simp only [Option.some.injEq, Prod.mk.injEq] at hq
    obtain ⟨rfl, rfl⟩ := hq
    have hl' : (F (Z p x s').1 ++ [O.loop (Z p x s').2]).length = N + 1 := by simp [R.len]
    rw [hN] at hH ⊢
    refine ⟨hl', fun h0 => ⟨_, (R.pres p x hin s' h1 hA).2 (by simpa using h0), by rw [show (Z p x s').2 = 0 by simpa using h0]⟩, fun G hg hlG => ?_⟩
    have hGs := hsplit G _ hg (by simp [R.len])
    rw [hGs] at hlG
    rw [List.append_assoc, List.singleton_append] at hlG
    have h3 := R.rnd p x hin s' h1 hA (G.drop (N + 1)) hlG
    have h4 := low_st R.len (R.low _ (R.pres p x hin s' h1 hA).1) (o' := .loop (Z p x s').2) (fun m => olow_loop m _) hlG
    rw [List.append_assoc, List.singleton_append]
    refine ⟨?_, h4⟩
    rw [← h3]
    congr 1
    rw [hGs, List.append_assoc, List.singleton_append]
    congr 2
    rw [← List.singleton_append, ← List.append_assoc, List.drop_left' (by simp [R.len])]
theorem wpk_partsA {σ : Type} {d : D} {n y nt : Nat} {us : List Nat} {N c : Nat} {F : σ → List O} {P W : σ → Prop} {A : List Int → D → σ → Prop} {Z : List Int → D → σ → σ × Nat} {f : Ab.A} {K : List Fr} {Q : Ex → SF → Prop} {s : SF} {s0 : σ} (hf : callee (f.val s.e) = some (72, [.ref c 0]))
    (hn : d.sz + 10 < n) (hl : d.sz < 1099511627776) (hy : 1000000 ≤ y) (R : PartRndA n y (keepE nt us s.e) N F P W A Z d.parts) (hh : s.h = F s0) (hc : ∀ s, P s → (F s)[c]? = some (.cells d.v.cells)) (hs : P s0) (hk : okS Z A d.parts s0)
    (hq : ∀ s1, W s1 → ∀ m, walkS Z d.parts s0 = (s1, m) → ∃ e, Ex.ofNum m = some e ∧ retk (call X E (n + 1)) (n + 1) K Q e ⟨s.e, F s1 ++ [.loop 2], s.base, s.rb⟩) : wpk (call X E (n + 1)) (n + 1) (.rangeF f y 2 nt us) K Q s := by
  have hlen : s.h.length = N := by rw [hh, R.len]
  have hp := walkS_P (Z := Z) (P := P) (W := W) R.imp d.parts R.pres s0 hs hk
  have h72 := go72S hn hl hy R hc hs hk
  obtain ⟨e, he, hr⟩ := hq _ hp _ rfl
  refine wpk_range f y 2 nt us hf (by decide) hy (h' := F (walkS Z d.parts s0).1 ++ [.loop (walkS Z d.parts s0).2]) (e := e) (r := .tup []) ?_ ?_ ?_
  · rw [hlen, hh]
    exact h72
  · rw [hlen, List.getElem?_append_right (by rw [R.len]; exact Nat.le_refl _), R.len, Nat.sub_self]
    exact he
  · rw [hlen, List.set_append_right _ _ (by rw [R.len]; exact Nat.le_refl _), R.len, Nat.sub_self]
    exact hr
end Go.Proofs.YtkiliokeanmagaaDoor.Ab

namespace Go.Proofs.YtkiliokeanmagaaDoor.Ab
open Go
set_option linter.defProp false
section
variable (cf : CallF) (n : Nat) (s : SF) (K : List Fr) (Q : Ex → SF → Prop)
def x26r1_w := rK cf n s K Q x26r1 rfl
def x26r2_w := rK cf n s K Q x26r2 rfl
def x26r3_w := rK cf n s K Q x26r3 rfl
def x26r4_w := rK cf n s K Q x26r4 rfl
def x26r5_w := rK cf n s K Q x26r5 rfl
def x26r6_w := rK cf n s K Q x26r6 rfl
def x26r7_w := rK cf n s K Q x26r7 rfl
def x26_w := bK cf n s K Q x26 rfl
def x26_r := bR x26 rfl
def x1002600r1_w := rK cf n s K Q x1002600r1 rfl
def x1002600r2_w := rK cf n s K Q x1002600r2 rfl
def x1002600_w := bK cf n s K Q x1002600 rfl
def x28r1_w := rK cf n s K Q x28r1 rfl
def x28r2_w := rK cf n s K Q x28r2 rfl
def x28r3_w := rK cf n s K Q x28r3 rfl
def x28r4_w := rK cf n s K Q x28r4 rfl
def x28r5_w := rK cf n s K Q x28r5 rfl
def x28_w := bK cf n s K Q x28 rfl
def x28_r := bR x28 rfl
end
end Go.Proofs.YtkiliokeanmagaaDoor.Ab

namespace Go.Proofs.YtkiliokeanmagaaDoor.Ab
open Go
set_option linter.unusedVariables false
set_option linter.unusedSimpArgs false
set_option maxRecDepth 8000
set_option maxHeartbeats 2000000
theorem set_m1 (h : List O) (a b x : O) (t : List O) : (h ++ a :: b :: t).set (h.length + 1) x = h ++ a :: x :: t := by
  rw [List.set_append_right _ _ (by omega)]; simp
theorem get_m3 (h : List O) (a b c e : O) (t : List O) : (h ++ a :: b :: c :: e :: t)[h.length + 3]? = some e := by
  rw [List.getElem?_append_right (by omega)]; simp
end Go.Proofs.YtkiliokeanmagaaDoor.Ab

namespace Go.Proofs.YtkiliokeanmagaaDoor.Ab
open Go
set_option linter.unusedVariables false
set_option linter.unusedSimpArgs false
set_option maxRecDepth 8000
set_option maxHeartbeats 2000000
theorem call_run {n f : Nat} {xf : XF} {args : List V} {h : List O} (hE : E f = none) (hX : X f = some xf) (ha : xf.asg = none) : call X E (n + 1) f args h = runF (call X E n) n xf args h := by
  simp only [call, hE, hX, ha]
end Go.Proofs.YtkiliokeanmagaaDoor.Ab

namespace Go.Proofs.YtkiliokeanmagaaDoor.Ab
open Go
set_option linter.defProp false
section
variable (cf : CallF) (n : Nat) (s : SF) (K : List Fr) (Q : Ex → SF → Prop)
def x8r1_w := rK cf n s K Q x8r1 rfl
def x8r2_w := rK cf n s K Q x8r2 rfl
def x8r3_w := rK cf n s K Q x8r3 rfl
def x8r4_w := rK cf n s K Q x8r4 rfl
def x8r5_w := rK cf n s K Q x8r5 rfl
def x8r6_w := rK cf n s K Q x8r6 rfl
def x8r7_w := rK cf n s K Q x8r7 rfl
def x8r8_w := rK cf n s K Q x8r8 rfl
def x8r9_w := rK cf n s K Q x8r9 rfl
def x8_w := bK cf n s K Q x8 rfl
def x8_r := bR x8 rfl
def x29r1_w := rK cf n s K Q x29r1 rfl
def x29r2_w := rK cf n s K Q x29r2 rfl
def x29r3_w := rK cf n s K Q x29r3 rfl
def x29r4_w := rK cf n s K Q x29r4 rfl
def x29r5_w := rK cf n s K Q x29r5 rfl
def x29_w := bK cf n s K Q x29 rfl
def x29_r := bR x29 rfl
def x31r1_w := rK cf n s K Q x31r1 rfl
def x31r2_w := rK cf n s K Q x31r2 rfl
def x31r4_w := rK cf n s K Q x31r4 rfl
def x31r5_w := rK cf n s K Q x31r5 rfl
def x31r6_w := rK cf n s K Q x31r6 rfl
def x31r8_w := rK cf n s K Q x31r8 rfl
def x31l9_w := lK cf n s K Q x31l9 rfl
def x31r10_w := rK cf n s K Q x31r10 rfl
def x31_w := bK cf n s K Q x31 rfl
def x31_r := bR x31 rfl
def x33r1_w := rK cf n s K Q x33r1 rfl
def x33r2_w := rK cf n s K Q x33r2 rfl
def x33r4_w := rK cf n s K Q x33r4 rfl
def x33r5_w := rK cf n s K Q x33r5 rfl
def x33r6_w := rK cf n s K Q x33r6 rfl
def x33r8_w := rK cf n s K Q x33r8 rfl
def x33l9_w := lK cf n s K Q x33l9 rfl
def x33r10_w := rK cf n s K Q x33r10 rfl
def x33_w := bK cf n s K Q x33 rfl
def x33_r := bR x33 rfl
def x34r1_w := rK cf n s K Q x34r1 rfl
def x34r2_w := rK cf n s K Q x34r2 rfl
def x34r3_w := rK cf n s K Q x34r3 rfl
def x34r4_w := rK cf n s K Q x34r4 rfl
def x34r5_w := rK cf n s K Q x34r5 rfl
def x34r6_w := rK cf n s K Q x34r6 rfl
def x34r7_w := rK cf n s K Q x34r7 rfl
def x34r8_w := rK cf n s K Q x34r8 rfl
def x34r9_w := rK cf n s K Q x34r9 rfl
def x34r10_w := rK cf n s K Q x34r10 rfl
def x34r11_w := rK cf n s K Q x34r11 rfl
def x34r12_w := rK cf n s K Q x34r12 rfl
def x34r13_w := rK cf n s K Q x34r13 rfl
def x34l14_w := lK cf n s K Q x34l14 rfl
def x34r15_w := rK cf n s K Q x34r15 rfl
def x34_w := bK cf n s K Q x34 rfl
def x34_r := bR x34 rfl
def x56r1_w := rK cf n s K Q x56r1 rfl
def x56r2_w := rK cf n s K Q x56r2 rfl
def x56r3_w := rK cf n s K Q x56r3 rfl
def x56r4_w := rK cf n s K Q x56r4 rfl
def x56r5_w := rK cf n s K Q x56r5 rfl
def x56r6_w := rK cf n s K Q x56r6 rfl
def x56r7_w := rK cf n s K Q x56r7 rfl
def x56r8_w := rK cf n s K Q x56r8 rfl
def x56r9_w := rK cf n s K Q x56r9 rfl
def x56r10_w := rK cf n s K Q x56r10 rfl
def x56r11_w := rK cf n s K Q x56r11 rfl
def x56r12_w := rK cf n s K Q x56r12 rfl
def x56r13_w := rK cf n s K Q x56r13 rfl
def x56r14_w := rK cf n s K Q x56r14 rfl
def x56l15_w := lK cf n s K Q x56l15 rfl
def x56r16_w := rK cf n s K Q x56r16 rfl
def x56r17_w := rK cf n s K Q x56r17 rfl
def x56_w := bK cf n s K Q x56 rfl
def x56_r := bR x56 rfl
def x76r1_w := rK cf n s K Q x76r1 rfl
def x76r2_w := rK cf n s K Q x76r2 rfl
def x76r3_w := rK cf n s K Q x76r3 rfl
def x76r4_w := rK cf n s K Q x76r4 rfl
def x76r5_w := rK cf n s K Q x76r5 rfl
def x76r6_w := rK cf n s K Q x76r6 rfl
def x76r7_w := rK cf n s K Q x76r7 rfl
def x76l8_w := lK cf n s K Q x76l8 rfl
def x76r9_w := rK cf n s K Q x76r9 rfl
def x76_w := bK cf n s K Q x76 rfl
def x76_r := bR x76 rfl
end
end Go.Proofs.YtkiliokeanmagaaDoor.Ab

namespace Go.Proofs.YtkiliokeanmagaaDoor.Ab
open Go
set_option linter.unusedVariables false
set_option linter.unusedSimpArgs false
set_option maxRecDepth 8000
set_option maxHeartbeats 2000000
def D.err (d : D) : Int := if d.ck ≠ 0 then d.ck else if (wrongN d.sz d).isSome = true then 4 else 0
theorem chk_err (d : D) : ∃ p : List Int, d.chk = .tup [pv p, .c (.int .i64 d.err)] := by
  unfold D.chk D.err
  split
  · exact ⟨[], rfl⟩
  · cases wrongN d.sz d with
    | none => exact ⟨[], rfl⟩
    | some p => exact ⟨p, rfl⟩
theorem go44 (d : D) (hl : d.sz < 100000000000) {n : Nat} (hn : 4 * d.sz + 201 ≤ n) : Gives (n + 1) 44 [d.v] (.c (.int .i64 d.err)) := by
  obtain ⟨n, rfl⟩ : ∃ n', n = n' + 1 := ⟨n - 1, by omega⟩
  have c10 : ∀ h, call X E (n + 1) 10 [d.v] h = some (d.chk, h) := go10 d hl (by omega)
  obtain ⟨p, hp⟩ := chk_err d
  rw [hp] at c10
  generalize pv p = P at *
  generalize n + 1 = m at *
  refine gives_of rfl rfl rfl (by kernel_rfl) ⟨rfl, rfl⟩ (by simp [D.vw2, V.lows, D.low]) ?_
  simp -implicitDefEqProofs [x44_w, x44_r, x44r1_w, x44r2_w, x44r3_w, D.vw2, D.okc, D.rd, D.cells_len, c10]
theorem go28 (d : D) (hl : d.sz < 100000000000) {n : Nat} (hn : 4 * d.sz + 210 ≤ n) : Gives (n + 1) 28 [d.v] (.tup [.c (.int .i64 (if d.err = 0 then d.form else 0)), .c (.int .i64 d.err)]) := by
  obtain ⟨n, rfl⟩ : ∃ n', n = n' + 1 := ⟨n - 1, by omega⟩
  have c44 : ∀ h, call X E (n + 1) 44 [d.v] h = some (.c (.int .i64 d.err), h) := go44 d hl (by omega)
  have c54 : ∀ h, call X E (n + 1) 54 [d.v] h = some (.c (.int .i64 d.form), h) := go54 d (by omega) (by omega)
  generalize n + 1 = m at *
  refine gives_of rfl rfl rfl (by kernel_rfl) ⟨rfl, rfl⟩ (by simp [D.vw2, V.lows, D.low]) ?_
  by_cases h0 : d.err = 0
  · rw [h0] at c44 ⊢
    simp -implicitDefEqProofs [x28_w, x28_r, x28r1_w, x28r2_w, x28r3_w, x28r5_w, D.vw2, D.okc, D.rd, D.cells_len, c44, c54]
    try simp [V.low, V.lows]
  · have hb : (d.err != 0) = true := by simp [h0]
    rw [if_neg h0]
    simp -implicitDefEqProofs [x28_w, x28_r, x28r1_w, x28r2_w, x28r3_w, x28r4_w, D.vw2, D.okc, D.rd, D.cells_len, c44, hb]
    try simp [V.low, V.lows]
end Go.Proofs.YtkiliokeanmagaaDoor.Ab

namespace Go.Proofs.YtkiliokeanmagaaDoor.Ab
open Go
set_option linter.unusedVariables false
set_option linter.unusedSimpArgs false
set_option maxRecDepth 8000
set_option maxHeartbeats 2000000
def anyL (g : D → Bool) : List (List Int × D) → Bool
  | [] => false
  | (_, x) :: r => g x || anyL g r
def hasN (w : Int) : Nat → D → Bool
  | 0, _ => false
  | f + 1, d => d.form == w || anyL (hasN w f) d.parts
def D.has (d : D) (w : Int) : Bool := hasN w d.sz d
end Go.Proofs.YtkiliokeanmagaaDoor.Ab

namespace Go.Proofs.YtkiliokeanmagaaDoor.Ab
open Go
set_option linter.unusedVariables false
def l1O : Option O → List O → R2
  | some (.cells [c]), h => some (c, h)
  | _, _ => none
def l1F : V → List O → R2
  | .ref id 0, h => l1O h[id]? h
  | _, _ => none
theorem l1F_ref (id : Nat) (h : List O) : l1F (.ref id 0) h = l1O h[id]? h := rfl
theorem l1O_cells (c : V) (h : List O) : l1O (some (.cells [c])) h = some (c, h) := rfl
theorem actF_load1 (cf : CallF) (s : SF) (x : A) : actF cf s (.load1 x) = l1F (x.val s.e) s.h := by
  simp only [actF, XOp.sub, act, ev_val]
  cases x.val s.e with
  | ref id o =>
    cases o with
    | zero =>
      simp only [l1F_ref]
      cases s.h[id]? with
      | none => rfl
      | some o =>
        cases o with
        | cells cs =>
          cases cs with
          | nil => rfl
          | cons a r => cases r <;> rfl
        | _ => rfl
    | succ n => rfl
  | _ => rfl
attribute [simp] actF_load1 l1F_ref l1O_cells
end Go.Proofs.YtkiliokeanmagaaDoor.Ab

namespace Go.Proofs.YtkiliokeanmagaaDoor.Ab
open Go
set_option linter.unusedVariables false
set_option linter.unusedSimpArgs false
set_option maxRecDepth 8000
set_option maxHeartbeats 2000000
def fstP (p : List Int) : List (List Int × D) → Option (List Int × D)
  | [] => none
  | (q, x) :: r => if begs p q = true then some (q, x) else fstP p r
def subN : Nat → D → List Int → Bool
  | _, _, [] => true
  | 0, _, _ :: _ => false
  | f + 1, d, i :: p => match fstP (i :: p) d.parts with
    | some (q, x) => subN f x ((i :: p).drop q.length)
    | none => false
def D.sub (d : D) (p : List Int) : Bool := subN d.sz d p
end Go.Proofs.YtkiliokeanmagaaDoor.Ab

namespace Go.Proofs.YtkiliokeanmagaaDoor.Ab
open Go
set_option linter.unusedVariables false
set_option linter.unusedSimpArgs false
set_option maxRecDepth 8000
set_option maxHeartbeats 2000000
end Go.Proofs.YtkiliokeanmagaaDoor.Ab

namespace Go.Proofs.YtkiliokeanmagaaDoor.Ab
open Go
set_option linter.unusedVariables false
set_option linter.unusedSimpArgs false
set_option maxRecDepth 8000
set_option maxHeartbeats 2000000
theorem runF_escF {cf : CallF} {n : Nat} {xf : XF} {args : List V} {h : List O} {P : V → List O → Prop} (hx : xfOk xf args.length = true) (hp : xf.pure = true) (he : xf.esc = true) (hr : xf.rw = true) (hl : V.lows 0 (args.map V.vw2) = true)
    (hw : wpx cf n xf.body ⟨arg0 (args.map V.vw2), frees, frees.length, 0⟩ (Fin (fun vs s => P (resOf vs).vw s) xf)) : ∃ v H, P v H ∧ runF cf n xf args h = some (v.shift h.length, h ++ H.map (O.shift h.length)) := by
  have := exec_of (cf := cf) (n := n) (xf := xf) (args := args.map V.vw2) (h := frees) (by simpa using hx) hw
  obtain ⟨e, s, vs, h1, h2, h3, h4, h5⟩ := this
  refine ⟨(resOf vs).vw, s.h, h5, ?_⟩
  unfold runF
  rw [if_pos hp, if_pos hl, if_pos he, show pre0 xf = frees by simp [pre0, hr], h1]
  cases e with
  | exit id => exact absurd rfl (h2 id)
  | normal => simp [fin, h3]
  | ret => simp [fin, h3]
theorem frees_ex : ∃ Fr : List O, frees = .free :: Fr ∧ ∀ m, Fr.all (O.low m) = true := by
  refine ⟨List.replicate 4095 .free, by unfold frees; rfl, fun m => ?_⟩
  rw [List.all_eq_true]
  intro o ho
  rw [List.eq_of_mem_replicate ho]
  rfl
def osi (out : List (List Int)) : SI := if out.isEmpty then .nil else .tok 0
def o0 (out : List (List Int)) : O := if out.isEmpty then .free else .tok out.length 1
theorem grow26 {out : List (List Int)} {h : List O} {sb al b : Nat} {p : List Int} (h0 : h[0]? = some (o0 out)) (hsb : 0 < sb) (hal : h[al]? = some .want) :
    grow sb al b none false h (pvs out) (osi out) [pv p] = some (.sl (pvs (out ++ [p])) (osi (out ++ [p])), h.set 0 (o0 (out ++ [p]))) := by
  have e1 : pvs (out ++ [p]) = pvs out ++ [pv p] := by simp [pvs]
  have e2 : osi (out ++ [p]) = .tok 0 := by simp [osi]
  have e3 : o0 (out ++ [p]) = .tok (out.length + 1) 1 := by simp [o0]
  rw [e1, e2, e3]
  cases out with
  | nil =>
    have hf : freeSlot h sb al = 0 := by
      unfold freeSlot
      obtain ⟨m, rfl⟩ : ∃ m, sb = m + 1 := ⟨sb - 1, by omega⟩
      have : isFree h[0]? = true := by rw [h0]; rfl
      rw [List.range_succ_eq_map, List.find?_cons, this]
      rfl
    have := grow_nilW sb al b none h [] [] (pv p) hal
    rw [hf] at this
    exact this
  | cons a r =>
    have hk : h[0]? = some (.tok (pvs (a :: r)).length (zc none)) := by rw [h0]; simp [o0, pvs]
    have := grow_tok sb al b 0 none false h (pvs (a :: r)) [] (pv p) hk
    rw [show osi (a :: r) = .tok 0 from rfl, this]
    simp [pvs]
theorem gvk_26 {cf : CallF} {n : Nat} {K : List Fr} {Q : Ex → SF → Prop} {s : SF} {out : List (List Int)} {al b sb : Nat} {p : List Int} {h : List O} {d : Option Nat} {r : List XOper} (h0 : h[0]? = some (o0 out)) (hsb : 0 < sb) (hal : h[al]? = some .want)
    (hq : opsk cf n r K Q ⟨updO s.e d (.sl (pvs (out ++ [p])) (osi (out ++ [p]))), h.set 0 (o0 (out ++ [p])), s.base, s.rb⟩) : gvk cf n (grow sb al b none false h (pvs out) (osi out) [.sl (p.map I64) .any]) d r K Q s := by
  have := grow26 (b := b) (p := p) h0 hsb hal
  unfold pv at this
  rw [this, gvk_some]
  exact hq
theorem o0_low (m : Nat) (out : List (List Int)) : O.low m (o0 out) = true := by unfold o0; split <;> rfl
theorem osi_low {m : Nat} (hm : 0 < m) (out : List (List Int)) : (osi out).low m = true := by unfold osi; split <;> simp [SI.low, hm]
theorem round26 {n : Nat} {L : Nat} {e : Nat → V} (e5 : e 5 = .ref (L + 1 + 1) 0) {p : List Int} {x : D} {out : List (List Int)} {Fr R : List O} {c1 c3 : O} (hFr : Fr.length = L) (ho : out.length < 1000000000000)
    (hlow : lowH (o0 out :: (Fr ++ c1 :: .cells [.sl (pvs out) (osi out)] :: c3 :: .loop 0 :: R))) :
    call X E (n + 1) 1002600 (.c (.int .i64 ((L + 4 : Nat) : Int)) :: pf p :: x.v :: keepE 21 [5] e) (o0 out :: (Fr ++ c1 :: .cells [.sl (pvs out) (osi out)] :: c3 :: .loop 0 :: R)) =
      some (.c (.bool true), o0 (out ++ [p]) :: (Fr ++ c1 :: .cells [.sl (pvs (out ++ [p])) (osi (out ++ [p]))] :: c3 :: .loop 0 :: R)) := by
  have hE : E 1002600 = none := rfl
  have hX : X 1002600 = some x1002600 := rfl
  have hA : x1002600.asg = some ([14, 15], x1002600r2) := rfl
  simp only [call, hE, hX, hA]
  rw [if_pos (by simp [hFr]; omega)]
  have t14 : toE (((keepE 21 [5] e).set 14 (.sl (p.map I64) .full)).set 15 x.v) 14 = .sl (p.map I64) .full := rfl
  have t5 : toE (((keepE 21 [5] e).set 14 (.sl (p.map I64) .full)).set 15 x.v) 5 = .ref (L + 1 + 1) 0 := e5
  have hputs : putAll [14, 15] (List.take [14, 15].length (V.sl (List.map I64 p) .full :: x.v :: keepE 21 [5] e)) (List.drop [14, 15].length (V.sl (List.map I64 p) .full :: x.v :: keepE 21 [5] e)) = some (((keepE 21 [5] e).set 14 (.sl (p.map I64) .full)).set 15 x.v) := rfl
  subst hFr
  have hk4 : ((Fr.length : Int) + 4).toNat = Fr.length + 4 := by omega
  have hpl := pvs_len out
  have hz := pvs_hz out
  have hb1 : (out.length + 1) * 24 ≤ 140737488355328 := by omega
  have hb2 : out.length + 1 ≤ 140737488355328 := by omega
  have htk : ∀ (a1 a2 a3 a4 z w : O), (Fr ++ a1 :: a2 :: a3 :: a4 :: (R ++ [z, w])).take (Fr.length + (R.length + 1 + 1 + 1 + 1)) = Fr ++ a1 :: a2 :: a3 :: a4 :: R := fun a1 a2 a3 a4 z w => by
    rw [show Fr ++ a1 :: a2 :: a3 :: a4 :: (R ++ [z, w]) = (Fr ++ a1 :: a2 :: a3 :: a4 :: R) ++ [z, w] by simp, List.take_left' (by simp)]
  have hwt : ∀ (a0 a1 a2 a3 a4 z w : O), (a0 :: (Fr ++ a1 :: a2 :: a3 :: a4 :: (R ++ [z, w])))[Fr.length + (R.length + 1 + 1 + 1 + 1) + 1 + 1]? = some w := fun a0 a1 a2 a3 a4 z w => by
    rw [show a0 :: (Fr ++ a1 :: a2 :: a3 :: a4 :: (R ++ [z, w])) = (a0 :: (Fr ++ a1 :: a2 :: a3 :: a4 :: R)) ++ [z, w] by simp, List.getElem?_append_right (by simp)]
    simp
  have hl2 : (o0 (out ++ [p]) :: (Fr ++ c1 :: .cells [.sl (pvs (out ++ [p])) (osi (out ++ [p]))] :: c3 :: .loop 0 :: R)).all (O.low (Fr.length + (R.length + 1 + 1 + 1 + 1) + 1)) = true := by
    unfold lowH at hlow
    have hle : (o0 out :: (Fr ++ c1 :: O.cells [.sl (pvs out) (osi out)] :: c3 :: O.loop 0 :: R)).length = Fr.length + (R.length + 1 + 1 + 1 + 1) + 1 := by simp
    rw [hle] at hlow
    simp only [List.all_append, List.all_cons, Bool.and_eq_true, olow_cells] at hlow ⊢
    obtain ⟨h1, h2, h3, h4, h5, h6, h7⟩ := hlow
    exact ⟨o0_low _ _, h2, h3, by simp [V.lows, V.low, pvs_low, osi_low], h5, rfl, h7⟩
  refine round_at (tm := (((keepE 21 [5] e).set 14 (.sl (p.map I64) .full)).set 15 x.v)) hputs (by kernel_rfl) (by kernel_rfl) ?_
  generalize toE (((keepE 21 [5] e).set 14 (.sl (p.map I64) .full)).set 15 x.v) = e0 at *
  refine wpk_of ?_
  simp -implicitDefEqProofs [x1002600_w, x1002600r2_w, t14, get_m3, hk4]
  refine wpk_of ?_
  have gm3 : ∀ (h : List O) (a b c e : O) (t : List O), (h ++ a :: b :: c :: e :: t)[h.length + 3]? = some e := get_m3
  have sm3 : ∀ (h : List O) (a b c e x : O) (t : List O), (h ++ a :: b :: c :: e :: t).set (h.length + 3) x = h ++ a :: b :: c :: x :: t := fun h a b c e x t => by
    rw [List.set_append_right _ _ (by omega)]; simp
  simp -implicitDefEqProofs [x1002600_w, x1002600r1_w, t5, gm3, sm3, get_m1, set_m1, hpl, hz, hb1, hb2]
  refine gvk_26 (by simp) (by omega) ?_ ?_
  · first | exact hwt .. | (simp only [List.append_assoc, List.cons_append, List.nil_append]; exact hwt ..)
  simp -implicitDefEqProofs [t5, gm3, sm3, get_m1, set_m1, htk, Ex.num]
  simpa using hl2
def F26 (d : D) (Fr : List O) (out : List (List Int)) : List O := o0 out :: (Fr ++ [.cells d.v.cells, .cells [.sl (pvs out) (osi out)], .cells d.v.cells])
def Z26 : List Int → D → List (List Int) → List (List Int) × Nat := fun p _ out => (out ++ [p], 0)
theorem walk26 : ∀ (L : List (List Int × D)) (out : List (List Int)), walkS Z26 L out = (out ++ L.map (·.1), 0)
  | [], out => by simp [walkS]
  | (p, x) :: L, out => by
    simp only [walkS, Z26, if_true]
    rw [walk26 L]
    simp
theorem ok26 (m : Nat) : ∀ (L : List (List Int × D)) (out : List (List Int)), out.length + L.length ≤ m → okS Z26 (fun _ _ out => out.length < m) L out
  | [], _, _ => trivial
  | (p, x) :: L, out, h => by
    simp only [List.length_cons] at h
    refine ⟨by omega, fun _ => ok26 m L _ ?_⟩
    simp only [Z26, List.length_append, List.length_singleton]
    omega
theorem rnd26 {n : Nat} {d : D} {Fr : List O} (hFr : ∀ m, Fr.all (O.low m) = true) {e : Nat → V} (e5 : e 5 = .ref (Fr.length + 1 + 1) 0) (hl : d.sz < 10000000000) :
    PartRndA (n + 1) 1002600 (keepE 21 [5] e) (Fr.length + 4) (F26 d Fr) (fun out => out.length ≤ d.parts.length) (fun _ => True) (fun _ _ out => out.length < d.parts.length) Z26 d.parts where
  len := fun out => by simp [F26]
  low := fun out _ => by
    simp only [F26, List.all_cons, List.all_append, olow_cells, D.low_cells, hFr, o0_low, Bool.true_and, List.all_nil, Bool.and_true]
    simp [V.lows, V.low, pvs_low, osi_low]
  imp := fun _ _ => trivial
  pres := fun p x hin out h1 h2 => ⟨trivial, fun _ => by simp only [Z26, List.length_append, List.length_singleton]; omega⟩
  rnd := fun p x hin out h1 h2 R hlow => by
    have hnum := parts_num d
    simp only [F26, List.cons_append, List.append_assoc, List.nil_append] at hlow ⊢
    rw [round26 e5 rfl (by omega) hlow]
    simp [Z26, F26]
theorem shift_pvs (m : Nat) (ps : List (List Int)) : V.shifts m (pvs ps) = pvs ps := by
  have hI : ∀ p : List Int, V.shifts m (p.map I64) = p.map I64 := fun p => by
    induction p with
    | nil => rfl
    | cons a p ih => simp only [List.map_cons, V.shifts, ih]; rfl
  induction ps with
  | nil => rfl
  | cons a ps ih =>
    simp only [pvs, List.map_cons, V.shifts] at ih ⊢
    rw [ih]
    simp [pv, V.shift, hI, SI.shift]
theorem vw2_pvs (ps : List (List Int)) (si : SI) : (V.sl (pvs ps) si).vw2 = .sl (pvs ps) .any := rfl
theorem go26 (d : D) (hl : d.sz < 10000000000) {n : Nat} (hn : 4 * d.sz + 230 ≤ n) (h : List O) : ∃ T, call X E (n + 1) 26 [d.v] h = some (.tup [.sl (pvs (if d.err = 0 then d.rp else [])) .any, .c (.int .i64 d.err)], h ++ T) := by
  obtain ⟨n, rfl⟩ : ∃ n', n = n' + 2 := ⟨n - 2, by omega⟩
  have c44 : ∀ h, call X E (n + 1 + 1) 44 [d.v] h = some (.c (.int .i64 d.err), h) := go44 d (by omega) (by omega)
  have c45 : ∀ h, call X E (n + 1 + 1) 45 [d.v] h = some (.clo 72 [.ref h.length 0], h ++ [.cells d.v.cells]) := go45 d
  obtain ⟨Fr, hFr, hFl⟩ := frees_ex
  have hw26 := walk26 d.parts []
  have hrp := d.parts_rp
  rw [call_run (n := n + 1 + 1) (xf := x26) rfl rfl rfl]
  have key : ∃ (v : V) (H : List O), v = .tup [.sl (pvs (if d.err = 0 then d.rp else [])) .any, .c (.int .i64 d.err)] ∧ runF (call X E (n + 1 + 1)) (n + 1 + 1) x26 [d.v] h = some (v.shift h.length, h ++ H.map (O.shift h.length)) := by
    refine runF_escF (P := fun v _ => v = .tup [.sl (pvs (if d.err = 0 then d.rp else [])) .any, .c (.int .i64 d.err)]) (by kernel_rfl) rfl rfl rfl (by simp [D.vw2, V.lows, D.low]) (wpk_of ?_)
    rw [hFr]
    by_cases h0 : d.err = 0
    · rw [h0] at c44 ⊢
      simp -implicitDefEqProofs [x26_w, x26r1_w, x26r2_w, x26r3_w, x26r5_w, x26r6_w, D.vw2, D.okc, D.rd, D.cells_len, c44, c45, set_m, get_m]
      refine wpk_partsA (σ := List (List Int)) (d := d) (n := n + 1) (c := Fr.length + 3) (N := Fr.length + 4) (F := F26 d Fr) (Z := Z26) (s0 := []) ?_ ?_ ?_ (by decide) (rnd26 hFl ?_ hl) ?_ ?_ ?_ (ok26 _ _ _ (by simp)) ?_
      · simp [upd_at]
      · omega
      · omega
      · simp [upd_at]
      · simp [F26, pvs, osi, o0]
      · intro out _
        simp [F26, get_m2]
      · simp
      · rintro out - m hw
        rw [hw26, hrp] at hw
        simp only [List.nil_append, Prod.mk.injEq] at hw
        obtain ⟨rfl, rfl⟩ := hw
        refine ⟨.normal, rfl, ?_⟩
        simp only [F26, List.cons_append, List.append_assoc, List.nil_append]
        simp -implicitDefEqProofs [x26_r, x26r7_w, get_m1, vw2_pvs]
    · have hb : (d.err != 0) = true := by simp [h0]
      rw [if_neg h0]
      simp -implicitDefEqProofs [x26_w, x26_r, x26r1_w, x26r2_w, x26r3_w, x26r4_w, D.vw2, D.okc, D.rd, D.cells_len, c44, hb, set_m, get_m, pvs]
  obtain ⟨v, H, rfl, h2⟩ := key
  refine ⟨H.map (O.shift h.length), ?_⟩
  rw [h2]
  simp [V.shift, V.shifts, shift_pvs, SI.shift]
end Go.Proofs.YtkiliokeanmagaaDoor.Ab

namespace Go.Proofs.YtkiliokeanmagaaDoor.Ab
open Go
set_option linter.unusedVariables false
set_option linter.unusedSimpArgs false
set_option maxRecDepth 8000
set_option maxHeartbeats 4000000
theorem ss_hz (l : List ByteArray) : hz 1 (ss l) = true := by cases l <;> rfl
theorem ss_app (a b : List ByteArray) : ss (a ++ b) = ss a ++ ss b := by simp [ss]
theorem txs_len (l : List D) : (txs l).length = l.length := by simp [txs]
theorem go76 (l : List D) (i : SI) {n : Nat} (hn : l.length < n) (hl : l.length < 1099511627776) : Gives (n + 1) 76 [.sl (D.vs l) i] (.sl (ss (txs l)) .any) := by
  have hres : (V.sl (ss (txs l)) .any).low 0 = true := by simp [V.low, ss_low, SI.low]
  refine gives_of rfl rfl rfl (by kernel_rfl) ⟨rfl, rfl⟩ (by simp [vw2_sl, V.lows, V.low, D.lows, SI.low]) ?_
  generalize call X E n = cf at *
  have hvl := D.vs_len l
  simp -implicitDefEqProofs [x76_w, x76r1_w, x76r2_w, x76r3_w, vw2_sl, hvl]
  obtain ⟨I, hI⟩ : ∃ I : Nat → SF → Prop, ∀ k s, I k s ↔ (∃ (j : Nat) (si : SI), j + k = l.length ∧ s.e 8 = .c (.int .i64 j) ∧ s.e 7 = .c (.int .i64 l.length) ∧ s.e 6 = .sl (D.vs l) .any ∧ s.e 3 = .sl (ss (txs (l.take j))) si ∧ Grows 1 (ss (txs (l.take j))) si s.h ∧ s.base = 0) := ⟨_, fun _ _ => Iff.rfl⟩
  refine lpk_of I l.length hn ((hI _ _).2 ⟨0, .nil, by simp, by simp [upd_at], by simp [upd_at], by simp [upd_at], by simp [upd_at, txs, ss], .nil _ _, rfl⟩) ?_
  rintro k ⟨e, h, base, rb⟩ hi
  obtain ⟨j, si, hj, e8, e7, e6, e3, hG, hb⟩ := (hI _ _).1 hi
  simp only at e8 e7 e6 e3 hG hb
  subst hb
  by_cases hm : j < l.length
  · have hlt : (j : Int) < l.length := by omega
    have hvg : (D.vs l)[j]'(by omega) = (l[j]).v := D.vs_getE _
    have hts : txs (l.take (j + 1)) = txs (l.take j) ++ [(l[j]).tx] := by
      rw [List.take_add_one, List.getElem?_eq_getElem hm, txs_app]
      rfl
    have hsl : (ss (txs (l.take j))).length = j := by rw [ss_len, txs_len]; simp; omega
    have hz1 := ss_hz (txs (l.take j))
    have hj1 : (j + 1) * 16 ≤ 140737488355328 := by omega
    have hj2 : j + 1 ≤ 140737488355328 := by omega
    have hw : IntKind.i64.wrap ((j : Int) + 1) = (j : Int) + 1 := wrap_in (by omega)
    generalize l[j] = x at *
    obtain ⟨kx, ix, tx, lx⟩ := x
    simp only [D.v, D.tx] at hvg hts
    generalize hT : txs (l.take j) = T at *
    simp -implicitDefEqProofs [x76l8_w, x76r4_w, x76r5_w, x76r6_w, x76r7_w, e3, e6, e7, e8, hvl, hvg, hlt, hm, hsl, hz1, hj1, hj2, get_m, get_m1, get_m2, set_m]
    refine gvk_grow (zz := none) (hG.app _) (.inl (get_m2 ..)) fun si' h' hG' hl' hk => ?_
    simp -implicitDefEqProofs [x76r7_w, e8, hw]
    refine ⟨k - 1, by omega, (hI _ _).2 ⟨j + 1, si', by omega, by simp [upd_at, hw], by simp [upd_at, e7], by simp [upd_at, e6], by simp [upd_at, hts, ss_app, ss], by rw [hts, ss_app]; simpa [ss] using hG', rfl⟩⟩
  · have hlt : ¬ (j : Int) < l.length := by omega
    rw [List.take_of_length_le (by omega)] at e3
    simp -implicitDefEqProofs [x76l8_w, x76_r, x76r4_w, x76r9_w, e3, e7, e8, hlt]
    exact hres
def D.own (d : D) : List ByteArray := if d.form = 5 ∨ d.form = 9 then txs (d.kid 1).kids else if d.form = 6 then [(d.kid 1).tx] else if d.form = 7 then txs ((d.kid 1).kids.map fun y => y.kid 0) else []
theorem form_cases7 {d : D} (h : d.form = 7) : ∃ a b c, d.kids = [a, b, c] ∧ d.kid 1 = b ∧ ∀ y ∈ b.kids, ∃ p q r, y.kids = [p, q, r] ∧ y.kid 0 = p := by
  obtain ⟨a, b, c, habc⟩ := list3 (form_7 h)
  have hg := form_grp h
  have hb : d.kid 1 = b := by rw [D.kid, habc]; rfl
  rw [hb] at hg
  refine ⟨a, b, c, habc, hb, fun y hy => ?_⟩
  simp only [grp, Bool.and_eq_true, List.all_eq_true] at hg
  have := hg.2.2.2.1 y hy
  simp only [defB, Bool.and_eq_true] at this
  obtain ⟨p, q, r, hpqr⟩ := list3 (by simpa using this.2.1)
  exact ⟨p, q, r, hpqr, by rw [D.kid, hpqr]; rfl⟩
theorem go56 (d : D) {n : Nat} (hn : d.sz + 20 < n) (hl : d.sz < 10000000000) : Gives (n + 1) 56 [d.v] (.sl (ss d.own) .any) := by
  obtain ⟨n, rfl⟩ : ∃ n', n = n' + 1 := ⟨n - 1, by omega⟩
  have c54 : ∀ h, call X E (n + 1) 54 [d.v] h = some (.c (.int .i64 d.form), h) := go54 d (by omega) (by omega)
  have c76 : ∀ (l : List D) si, l.length < d.sz → ∀ h, call X E (n + 1) 76 [.sl (D.vs l) si] h = some (.sl (ss (txs l)) .any, h) := fun l si hll => go76 l si (by omega) (by omega)
  have hres : (V.sl (ss d.own) .any).low 0 = true := by simp [V.low, ss_low, SI.low]
  generalize hmm : n + 1 = m at *
  refine gives_of rfl rfl rfl (by kernel_rfl) ⟨rfl, rfl⟩ (by simp [D.vw2, V.lows, D.low]) ?_
  obtain ⟨l4, l5, l9, l6, l8⟩ := form_lenB (d := d)
  by_cases h5 : d.form = 5
  · obtain ⟨a, b, c, habc⟩ := list3 (l5 h5)
    have ho : d.own = txs b.kids := by simp [D.own, h5, D.kid, habc]
    rw [ho] at hres ⊢
    rw [h5] at c54
    obtain ⟨k, i, t, l⟩ := d
    simp only [D.kids] at habc
    subst habc
    obtain ⟨kb, ib, tb, lb⟩ := b
    have c76' := c76 lb .any (by have := D.len_szs lb; simp only [D.sz, D.szs]; omega)
    simp only [D.kids] at hres ⊢
    simp only [D.v, D.vs] at c54 ⊢
    simp -implicitDefEqProofs [x56_w, x56_r, x56r1_w, x56r2_w, x56r3_w, x56r5_w, c54, c76']
    exact hres
  by_cases h9 : d.form = 9
  · obtain ⟨a, b, c, habc⟩ := list3 (l9 h9)
    have ho : d.own = txs b.kids := by simp [D.own, h9, D.kid, habc]
    rw [ho] at hres ⊢
    rw [h9] at c54
    obtain ⟨k, i, t, l⟩ := d
    simp only [D.kids] at habc
    subst habc
    obtain ⟨kb, ib, tb, lb⟩ := b
    have c76' := c76 lb .any (by have := D.len_szs lb; simp only [D.sz, D.szs]; omega)
    simp only [D.kids] at hres ⊢
    simp only [D.v, D.vs] at c54 ⊢
    simp -implicitDefEqProofs [x56_w, x56_r, x56r1_w, x56r2_w, x56r3_w, x56r4_w, x56r5_w, c54, c76']
    exact hres
  by_cases h6 : d.form = 6
  · obtain ⟨a, b, c, f, habc⟩ := list4 (l6 h6)
    have ho : d.own = txs [b] := by simp [D.own, h6, D.kid, habc, txs]
    rw [ho] at hres ⊢
    rw [h6] at c54
    obtain ⟨k, i, t, l⟩ := d
    simp only [D.kids] at habc
    subst habc
    have c76' := c76 [b] .any (by have := D.sz_pos a; have := D.sz_pos b; simp only [D.sz, D.szs, List.length_singleton]; omega)
    simp only [D.vs] at c76'
    simp only [D.v, D.vs] at c54 ⊢
    have hca := D.cells_len a
    generalize a.v = av at *
    generalize b.v = bv at *
    generalize c.v = cv at *
    generalize f.v = fv at *
    simp -implicitDefEqProofs [x56_w, x56_r, x56r1_w, x56r2_w, x56r3_w, x56r4_w, x56r6_w, x56r7_w, c54, hca, c76']
    exact hres
  by_cases h7 : d.form = 7
  · obtain ⟨a, b, c, habc, hb1, hdefs⟩ := form_cases7 h7
    have ho : d.own = txs (b.kids.map fun y => y.kid 0) := by simp [D.own, h7, hb1]
    rw [ho] at hres ⊢
    rw [h7] at c54
    obtain ⟨k, i, t, l⟩ := d
    simp only [D.kids] at habc
    subst habc
    obtain ⟨kb, ib, tb, lb⟩ := b
    simp only [D.kids] at hres hdefs ⊢
    have hlb : lb.length < (D.mk k i t [a, D.mk kb ib tb lb, c]).sz := by have := D.len_szs lb; simp only [D.sz, D.szs]; omega
    have c76' := fun si => c76 (lb.map fun y => y.kid 0) si (by simpa using hlb)
    have hlbm : lb.length < m := by omega
    simp only [D.v, D.vs] at c54 ⊢
    have hvl := D.vs_len lb
    simp -implicitDefEqProofs [x56_w, x56r1_w, x56r2_w, x56r3_w, x56r4_w, x56r6_w, x56r8_w, x56r9_w, x56r10_w, c54, hvl]
    generalize hL0 : lb.map (fun y => y.kid 0) = L0 at *
    have hL0l : L0.length = lb.length := by rw [← hL0]; simp
    obtain ⟨I, hI⟩ : ∃ I : Nat → SF → Prop, ∀ k s, I k s ↔ (∃ (j : Nat) (si : SI), j + k = lb.length ∧ s.e 31 = .c (.int .i64 j) ∧ s.e 30 = .c (.int .i64 lb.length) ∧ s.e 29 = .sl (D.vs lb) .any ∧ s.e 3 = .sl (D.vs (L0.take j)) si ∧ Grows 4 (D.vs (L0.take j)) si s.h ∧ s.base = 0) := ⟨_, fun _ _ => Iff.rfl⟩
    refine lpk_of I lb.length hlbm ((hI _ _).2 ⟨0, .nil, by simp, by simp [upd_at], by simp [upd_at], by simp [upd_at], by simp [upd_at, D.vs], .nil _ _, rfl⟩) ?_
    rintro q ⟨e, h, base, rb⟩ hi
    obtain ⟨j, si, hj, e31, e30, e29, e3, hG, hb⟩ := (hI _ _).1 hi
    simp only at e31 e30 e29 e3 hG hb
    subst hb
    by_cases hm : j < lb.length
    · have hlt : (j : Int) < lb.length := by omega
      have hvg : (D.vs lb)[j]'(by omega) = (lb[j]).v := D.vs_getE _
      obtain ⟨p, q2, r, hpqr, hp0⟩ := hdefs lb[j] (List.getElem_mem hm)
      have hts : L0.take (j + 1) = L0.take j ++ [p] := by
        rw [List.take_add_one, List.getElem?_eq_getElem (by omega)]
        simp only [← hL0, List.getElem_map, hp0, Option.toList_some]
      have hsl : (D.vs (L0.take j)).length = j := by rw [D.vs_len]; simp; omega
      have hz1 := D.hz (L0.take j)
      have hj1 : (j + 1) * 56 ≤ 140737488355328 := by omega
      have hj2 : j + 1 ≤ 140737488355328 := by omega
      have hw : IntKind.i64.wrap ((j : Int) + 1) = (j : Int) + 1 := wrap_in (by omega)
      generalize lb[j] = x at *
      obtain ⟨kx, ix, tx, lx⟩ := x
      simp only [D.kids] at hpqr
      subst hpqr
      simp only [D.v, D.vs] at hvg
      have hpc := D.cells_len p
      have hprd := D.rd p
      have hpok := D.okc p
      have hpw := D.vw2 p
      simp -implicitDefEqProofs [x56l15_w, x56r11_w, x56r12_w, x56r13_w, x56r14_w, e3, e29, e30, e31, hvl, hvg, hlt, hm, hsl, hz1, hj1, hj2, hpc, hprd, hpok, hpw, get_m, get_m1, get_m2, set_m]
      refine gvk_grow (zz := some 4) (hG.app _) (.inl (get_m2 ..)) fun si' h' hG' hl' hk => ?_
      simp -implicitDefEqProofs [x56r14_w, e31, hw]
      refine ⟨q - 1, by omega, (hI _ _).2 ⟨j + 1, si', by omega, by simp [upd_at, hw], by simp [upd_at, e30], by simp [upd_at, e29], by simp [upd_at, hts, D.vs_app, D.vs], by rw [hts, D.vs_app]; simpa [D.vs] using hG', rfl⟩⟩
    · have hlt : ¬ (j : Int) < lb.length := by omega
      rw [List.take_of_length_le (by omega)] at e3
      simp -implicitDefEqProofs [x56l15_w, x56_r, x56r11_w, x56r16_w, e3, e30, e31, hlt, c76']
      exact hres
  have ho : d.own = [] := by simp [D.own, h5, h9, h6, h7]
  rw [ho]
  have b5 : (d.form == 5) = false := by simp [h5]
  have b9 : (d.form == 9) = false := by simp [h9]
  have b6 : (d.form == 6) = false := by simp [h6]
  have b7 : (d.form == 7) = false := by simp [h7]
  simp -implicitDefEqProofs [x56_w, x56_r, x56r1_w, x56r2_w, x56r3_w, x56r4_w, x56r6_w, x56r8_w, x56r17_w, D.vw2, D.okc, D.rd, D.cells_len, c54, b5, b6, b7, b9, ss]
  try simp [V.low, V.lows, SI.low]
theorem go29 (d : D) (hl : d.sz < 10000000000) {n : Nat} (hn : 4 * d.sz + 210 ≤ n) : Gives (n + 1) 29 [d.v] (.tup [.sl (ss (if d.err = 0 then d.own else [])) .any, .c (.int .i64 d.err)]) := by
  obtain ⟨n, rfl⟩ : ∃ n', n = n' + 1 := ⟨n - 1, by omega⟩
  have c44 : ∀ h, call X E (n + 1) 44 [d.v] h = some (.c (.int .i64 d.err), h) := go44 d (by omega) (by omega)
  have c56 : ∀ h, call X E (n + 1) 56 [d.v] h = some (.sl (ss d.own) .any, h) := go56 d (by omega) (by omega)
  have hres := ss_low 0 d.own
  generalize n + 1 = m at *
  refine gives_of rfl rfl rfl (by kernel_rfl) ⟨rfl, rfl⟩ (by simp [D.vw2, V.lows, D.low]) ?_
  by_cases h0 : d.err = 0
  · rw [h0] at c44 ⊢
    simp only [if_true]
    simp -implicitDefEqProofs [x29_w, x29_r, x29r1_w, x29r2_w, x29r3_w, x29r5_w, D.vw2, D.okc, D.rd, D.cells_len, c44, c56]
    simpa [V.low, V.lows, SI.low] using hres
  · have hb : (d.err != 0) = true := by simp [h0]
    rw [if_neg h0]
    simp -implicitDefEqProofs [x29_w, x29_r, x29r1_w, x29r2_w, x29r3_w, x29r4_w, D.vw2, D.okc, D.rd, D.cells_len, c44, hb, ss]
    try simp [V.low, V.lows, SI.low]
end Go.Proofs.YtkiliokeanmagaaDoor.Ab

namespace Go.Proofs.YtkiliokeanmagaaDoor.Ab
open Go
set_option linter.unusedVariables false
set_option linter.unusedSimpArgs false
set_option maxRecDepth 8000
set_option maxHeartbeats 4000000
theorem eqS_refl (a : ByteArray) : eqS a a = true := by simp [eqS]
theorem go33 (l : List ByteArray) (i j : SI) {n : Nat} (hn : l.length < n) (hl : l.length < 1099511627776) : Gives (n + 1) 33 [.sl (ss l) i, .sl (ss l) j] (.c (.bool true)) := by
  refine gives_of rfl rfl rfl (by kernel_rfl) ⟨rfl, rfl⟩ (by simp [vw2_sl, V.lows, V.low, ss_low, SI.low]) ?_
  generalize call X E n = cf at *
  have hsl := ss_len l
  simp -implicitDefEqProofs [x33_w, x33r1_w, x33r2_w, x33r4_w, vw2_sl, hsl]
  obtain ⟨I, hI⟩ : ∃ I : Nat → SF → Prop, ∀ k s, I k s ↔ (∃ (j : Nat), j + k = l.length ∧ s.e 5 = .c (.int .i64 j) ∧ s.e 0 = .sl (ss l) .any ∧ s.e 1 = .sl (ss l) .any ∧ s.base = 0) := ⟨_, fun _ _ => Iff.rfl⟩
  refine lpk_of I l.length hn ((hI _ _).2 ⟨0, by simp, by simp [upd_at], by simp [upd_at, arg0], by simp [upd_at, arg0], rfl⟩) ?_
  rintro k ⟨e, h, base, rb⟩ hi
  obtain ⟨j, hj, e5, e0, e1, hb⟩ := (hI _ _).1 hi
  simp only at e5 e0 e1 hb
  subst hb
  by_cases hm : j < l.length
  · have hlt : (j : Int) < l.length := by omega
    have hvg : (ss l)[j]'(by omega) = .c (.string l[j]) := by simp [ss]
    have hw : IntKind.i64.wrap ((j : Int) + 1) = (j : Int) + 1 := wrap_in (by omega)
    have hne := eqS_refl l[j]
    generalize l[j] = x at *
    simp -implicitDefEqProofs [x33l9_w, x33r5_w, x33r6_w, x33r8_w, e0, e1, e5, hsl, hvg, hlt, hm, binS_ne, hne]
    refine ⟨k - 1, by omega, (hI _ _).2 ⟨j + 1, by omega, by simp [upd_at, hw], by simp [upd_at, e0], by simp [upd_at, e1], rfl⟩⟩
  · have hlt : ¬ (j : Int) < l.length := by omega
    simp -implicitDefEqProofs [x33l9_w, x33_r, x33r5_w, x33r10_w, e0, e5, hsl, hlt]
theorem go31 (l : List (List Int)) (i j : SI) (hL : ∀ p ∈ l, p.length ≤ 3) {n : Nat} (hn : l.length + 10 < n) (hl : l.length < 1099511627776) : Gives (n + 1) 31 [.sl (pvs l) i, .sl (pvs l) j] (.c (.bool true)) := by
  have c12 : ∀ p ∈ l, ∀ h, call X E n 12 [pv p, pv p] h = some (.c (.bool true), h) := fun p hp h => by
    have := hL p hp
    obtain ⟨n, rfl⟩ : ∃ n', n = n' + 1 := ⟨n - 1, by omega⟩
    have := run28 (n := n) (p := p) (q := p) (by omega) (by omega) h
    rwa [samep_refl] at this
  refine gives_of rfl rfl rfl (by kernel_rfl) ⟨rfl, rfl⟩ (by simp [vw2_sl, V.lows, V.low, pvs_low, SI.low]) ?_
  generalize call X E n = cf at *
  have hsl := pvs_len l
  simp -implicitDefEqProofs [x31_w, x31r1_w, x31r2_w, x31r4_w, vw2_sl, hsl]
  obtain ⟨I, hI⟩ : ∃ I : Nat → SF → Prop, ∀ k s, I k s ↔ (∃ (j : Nat), j + k = l.length ∧ s.e 5 = .c (.int .i64 j) ∧ s.e 0 = .sl (pvs l) .any ∧ s.e 1 = .sl (pvs l) .any ∧ s.base = 0) := ⟨_, fun _ _ => Iff.rfl⟩
  refine lpk_of I l.length (by omega) ((hI _ _).2 ⟨0, by simp, by simp [upd_at], by simp [upd_at, arg0], by simp [upd_at, arg0], rfl⟩) ?_
  rintro k ⟨e, h, base, rb⟩ hi
  obtain ⟨j, hj, e5, e0, e1, hb⟩ := (hI _ _).1 hi
  simp only at e5 e0 e1 hb
  subst hb
  by_cases hm : j < l.length
  · have hlt : (j : Int) < l.length := by omega
    have hvg : (pvs l)[j]'(by omega) = pv l[j] := by simp [pvs]
    have hw : IntKind.i64.wrap ((j : Int) + 1) = (j : Int) + 1 := wrap_in (by omega)
    have hc := c12 l[j] (List.getElem_mem hm)
    have hcl : (pv l[j]).cells = [pv l[j]] := rfl
    generalize pv l[j] = P at *
    simp -implicitDefEqProofs [x31l9_w, x31r5_w, x31r6_w, x31r8_w, e0, e1, e5, hsl, hvg, hlt, hm, hc, hcl]
    refine ⟨k - 1, by omega, (hI _ _).2 ⟨j + 1, by omega, by simp [upd_at, hw], by simp [upd_at, e0], by simp [upd_at, e1], rfl⟩⟩
  · have hlt : ¬ (j : Int) < l.length := by omega
    simp -implicitDefEqProofs [x31l9_w, x31_r, x31r5_w, x31r10_w, e0, e5, hsl, hlt]
theorem form_diff {d : D} : (d.form = 5 → diff [] (d.kid 1).kids = true) ∧ (d.form = 9 → diff [] (d.kid 1).kids = true) := by
  refine ⟨fun h => ?_, fun h => ?_⟩
  all_goals
    have := form_ok h (by omega)
    simp [okF, nms] at this
    first | exact this.2.2.2 | exact this.2.1.2.2
theorem go34 (d : D) (hf : d.fm = true) {n : Nat} (hn : d.sz + 80 < n) (hl : d.sz < 10000000000) : Gives (n + 1) 34 [d.v] (.sl (ss d.own) .any) := by
  obtain ⟨n, rfl⟩ : ∃ n', n = n' + 1 := ⟨n - 1, by omega⟩
  have c30 : ∀ h, call X E (n + 1) 30 [d.v] h = some (.c (.int .i64 d.form), h) := go30 d hf (by omega) (by omega) (by omega)
  have hkf := D.fm_kid hf
  have c60 : ∀ x ∈ d.kids, ∀ h, call X E (n + 1) 60 [x.v] h = some (x.lst, h) := fun x hx => go60 x (D.fm_kid (hkf x hx)) (by omega) (by have := kid_lt hx; have := kids_lt x; omega) (by have := kid_lt hx; have := kids_lt x; omega)
  have hres : (V.sl (ss d.own) .any).low 0 = true := by simp [V.low, ss_low, SI.low]
  generalize hmm : n + 1 = m at *
  refine gives_of rfl rfl rfl (by kernel_rfl) ⟨rfl, rfl⟩ (by simp [D.vw2, V.lows, D.low]) ?_
  obtain ⟨l4, l5, l9, l6, l8⟩ := form_lenB (d := d)
  obtain ⟨f5, f9⟩ := form_diff (d := d)
  by_cases h5 : d.form = 5
  · obtain ⟨a, b, c, habc⟩ := list3 (l5 h5)
    have hb1 : d.kid 1 = b := by simp [D.kid, habc]
    have hd := f5 h5
    rw [hb1] at hd
    have ho : d.own = txs b.kids := by simp [D.own, h5, hb1]
    rw [ho] at hres ⊢
    rw [h5] at c30
    have c60' := c60 b (by rw [habc]; simp)
    have hlst : b.lst = .tup [.sl (ss (txs b.kids)) .any, .c (.bool (b.kd == 3))] := by simp [D.lst, hd]
    rw [hlst] at c60'
    obtain ⟨k, i, t, l⟩ := d
    simp only [D.kids] at habc
    subst habc
    have hbc := D.cells_len b
    have hbrd := D.rd b
    simp only [D.v, D.vs] at c30 ⊢
    change ∀ h, call X E m 30 [_] h = _ at c30
    generalize b.v = bv at *
    generalize ss (txs b.kids) = W at *
    simp -implicitDefEqProofs [x34_w, x34_r, x34r1_w, x34r2_w, x34r3_w, x34r4_w, x34r6_w, x34r15_w, c30, c60', hbc, hbrd]
    exact hres
  by_cases h9 : d.form = 9
  · obtain ⟨a, b, c, habc⟩ := list3 (l9 h9)
    have hb1 : d.kid 1 = b := by simp [D.kid, habc]
    have hd := f9 h9
    rw [hb1] at hd
    have ho : d.own = txs b.kids := by simp [D.own, h9, hb1]
    rw [ho] at hres ⊢
    rw [h9] at c30
    have c60' := c60 b (by rw [habc]; simp)
    have hlst : b.lst = .tup [.sl (ss (txs b.kids)) .any, .c (.bool (b.kd == 3))] := by simp [D.lst, hd]
    rw [hlst] at c60'
    obtain ⟨k, i, t, l⟩ := d
    simp only [D.kids] at habc
    subst habc
    have hbc := D.cells_len b
    have hbrd := D.rd b
    simp only [D.v, D.vs] at c30 ⊢
    generalize b.v = bv at *
    generalize ss (txs b.kids) = W at *
    simp -implicitDefEqProofs [x34_w, x34_r, x34r1_w, x34r2_w, x34r3_w, x34r4_w, x34r5_w, x34r6_w, x34r15_w, c30, c60', hbc, hbrd]
    exact hres
  by_cases h6 : d.form = 6
  · obtain ⟨a, b, c, f, habc⟩ := list4 (l6 h6)
    have ho : d.own = [b.tx] := by simp [D.own, h6, D.kid, habc]
    rw [ho] at hres ⊢
    rw [h6] at c30
    obtain ⟨k, i, t, l⟩ := d
    simp only [D.kids] at habc
    subst habc
    obtain ⟨kb, ib, tb, lb⟩ := b
    simp only [D.tx, ss, List.map_cons, List.map_nil] at hres ⊢
    simp only [D.v, D.vs] at c30 ⊢
    simp -implicitDefEqProofs [x34_w, x34_r, x34r1_w, x34r2_w, x34r3_w, x34r4_w, x34r5_w, x34r7_w, x34r8_w, x34r15_w, c30]
    exact hres
  by_cases h7 : d.form = 7
  · obtain ⟨a, b, c, habc, hb1, hdefs⟩ := form_cases7 h7
    have ho : d.own = txs (b.kids.map fun y => y.kid 0) := by simp [D.own, h7, hb1]
    rw [ho] at hres ⊢
    rw [h7] at c30
    obtain ⟨k, i, t, l⟩ := d
    simp only [D.kids] at habc
    subst habc
    obtain ⟨kb, ib, tb, lb⟩ := b
    simp only [D.kids] at hres hdefs ⊢
    have hlb : lb.length < (D.mk k i t [a, D.mk kb ib tb lb, c]).sz := by have := D.len_szs lb; simp only [D.sz, D.szs]; omega
    have hlbm : lb.length < m := by omega
    simp only [D.v, D.vs] at c30 ⊢
    have hvl := D.vs_len lb
    simp -implicitDefEqProofs [x34_w, x34r1_w, x34r2_w, x34r3_w, x34r4_w, x34r5_w, x34r7_w, x34r9_w, x34r10_w, c30]
    generalize hL0 : lb.map (fun y => y.kid 0) = L0 at *
    have hL0l : L0.length = lb.length := by rw [← hL0]; simp
    obtain ⟨o, ho⟩ : ∃ o, o = O.cells [V.c (.int .i64 k), .c (.int .i64 i), .c (.string t), .sl [a.v, .agg [.c (.int .i64 kb), .c (.int .i64 ib), .c (.string tb), .sl (D.vs lb) .any], c.v] .any] := ⟨_, rfl⟩
    obtain ⟨I, hI⟩ : ∃ I : Nat → SF → Prop, ∀ k s, I k s ↔ (∃ (j : Nat) (si : SI), j + k = lb.length ∧ s.e 4 = .c (.int .i64 j) ∧ s.h[0]? = some o ∧ s.e 1 = .ref 0 0 ∧ s.e 3 = .sl (ss (txs (L0.take j))) si ∧ Grows 1 (ss (txs (L0.take j))) si s.h ∧ s.base = 0) := ⟨_, fun _ _ => Iff.rfl⟩
    refine lpk_of I lb.length hlbm ((hI _ _).2 ⟨0, .nil, by simp, by simp [upd_at], by simp [ho], by simp [upd_at], by simp [upd_at, txs, ss], .nil _ _, rfl⟩) ?_
    rintro q ⟨e, h, base, rb⟩ hi
    obtain ⟨j, si, hj, e4, h0, e1, e3, hG, hb⟩ := (hI _ _).1 hi
    simp only at e4 h0 e1 e3 hG hb
    subst hb
    obtain ⟨rest, rfl⟩ := cons_of h0
    subst ho
    by_cases hm : j < lb.length
    · have hlt : (j : Int) < lb.length := by omega
      have hvg : (D.vs lb)[j]'(by omega) = (lb[j]).v := D.vs_getE _
      obtain ⟨p, q2, r, hpqr, hp0⟩ := hdefs lb[j] (List.getElem_mem hm)
      have hts : txs (L0.take (j + 1)) = txs (L0.take j) ++ [p.tx] := by
        rw [List.take_add_one, List.getElem?_eq_getElem (by omega), txs_app]
        simp only [← hL0, List.getElem_map, hp0, Option.toList_some]
        rfl
      have hsl : (ss (txs (L0.take j))).length = j := by rw [ss_len, txs_len]; simp; omega
      have hz1 := ss_hz (txs (L0.take j))
      have hj1 : (j + 1) * 16 ≤ 140737488355328 := by omega
      have hj2 : j + 1 ≤ 140737488355328 := by omega
      have hw : IntKind.i64.wrap ((j : Int) + 1) = (j : Int) + 1 := wrap_in (by omega)
      generalize lb[j] = x at *
      obtain ⟨kx, ix, tx, lx⟩ := x
      simp only [D.kids] at hpqr
      subst hpqr
      obtain ⟨kp, ip, tp, lp⟩ := p
      simp only [D.v, D.vs, D.tx] at hvg hts
      simp -implicitDefEqProofs [x34l14_w, x34r11_w, x34r12_w, x34r13_w, e1, e3, e4, hvl, hvg, hlt, hm, hsl, hz1, hj1, hj2]
      refine gvk_grow (zz := none) (hG.app _) (.inl ?_) fun si' h' hG' hl' hk => ?_
      · simp [get_m1]
      simp -implicitDefEqProofs [x34r13_w, e4, hw]
      refine ⟨q - 1, by omega, (hI _ _).2 ⟨j + 1, si', by omega, by simp [upd_at, hw], hk 0 _ (by simp), by simp [upd_at, e1], by simp [upd_at, hts, ss_app, ss], by rw [hts, ss_app]; simpa [ss] using hG', rfl⟩⟩
    · have hlt : ¬ (j : Int) < lb.length := by omega
      rw [List.take_of_length_le (by omega)] at e3
      simp -implicitDefEqProofs [x34l14_w, x34_r, x34r11_w, x34r15_w, e1, e3, e4, hvl, hlt]
      exact hres
  have ho : d.own = [] := by simp [D.own, h5, h9, h6, h7]
  rw [ho]
  have b5 : (d.form == 5) = false := by simp [h5]
  have b9 : (d.form == 9) = false := by simp [h9]
  have b6 : (d.form == 6) = false := by simp [h6]
  have b7 : (d.form == 7) = false := by simp [h7]
  simp -implicitDefEqProofs [x34_w, x34_r, x34r1_w, x34r2_w, x34r3_w, x34r4_w, x34r5_w, x34r7_w, x34r9_w, x34r15_w, D.vw2, D.okc, D.rd, D.cells_len, c30, b5, b6, b7, b9, ss]
  try simp [V.low, V.lows, SI.low]
end Go.Proofs.YtkiliokeanmagaaDoor.Ab

namespace Go.Proofs.YtkiliokeanmagaaDoor.Ab
open Go
set_option linter.unusedVariables false
set_option linter.unusedSimpArgs false
set_option maxRecDepth 8000
set_option maxHeartbeats 2000000
theorem alive_g {n : Nat} (hn : 60 ≤ n) : ∀ h, call X E n 14 [] h = some (.c (.bool true), h) := gives_nil rfl (alive_up hn)
end Go.Proofs.YtkiliokeanmagaaDoor.Ab

namespace Go.Proofs.YtkiliokeanmagaaDoor.Ab
open Go
set_option linter.unusedVariables false
set_option linter.unusedSimpArgs false
set_option maxRecDepth 8000
set_option maxHeartbeats 4000000
theorem err_fm {d : D} (h : d.err = 0) : d.fm = true := by
  unfold D.err at h
  split at h
  · omega
  · rename_i hc
    exact ((D.ck_zero d).1 (by omega)).1
end Go.Proofs.YtkiliokeanmagaaDoor.Ab

namespace Go.Proofs.YtkiliokeanmagaaDoor.Ab
open Go
set_option linter.unusedVariables false
set_option linter.unusedSimpArgs false
set_option maxRecDepth 8000
set_option maxHeartbeats 4000000
theorem own_len (d : D) : d.own.length ≤ d.sz := by
  have hk : ∀ x : D, x.sz ≤ d.sz → (txs x.kids).length ≤ d.sz := fun x hx => by rw [txs_len]; have := kids_lt x; omega
  have h1 := kid_le d 1
  have hp := D.sz_pos d
  unfold D.own
  split
  · exact hk _ h1
  split
  · simp; omega
  split
  · have := hk _ h1
    rw [txs_len] at this
    rw [txs_len, List.length_map]
    exact this
  · simp
theorem law8 (d : D) : call X E 20000 8 [d.v] [] = some (.c (.bool true), []) := by
  have hs := D.cut_small d 3000 1020 (by omega)
  have c1 : ∀ h, call X E 19999 9 [d.v] h = some ((d.cut 3000 1020).1.v, h) := run14 d 19998 (by omega)
  generalize (d.cut 3000 1020).1 = a at *
  have e28 : ∀ h, call X E 19999 28 [a.v] h = some (.tup [.c (.int .i64 (if a.err = 0 then a.form else 0)), .c (.int .i64 a.err)], h) := go28 a (by omega) (by omega)
  obtain ⟨T, e26⟩ := go26 a (by omega) (n := 19998) (by omega) [.cells d.v.cells, .cells a.v.cells]
  have e29 : ∀ h, call X E 19999 29 [a.v] h = some (.tup [.sl (ss (if a.err = 0 then a.own else [])) .any, .c (.int .i64 a.err)], h) := go29 a (by omega) (by omega)
  have e11 : ∀ h, call X E 19999 11 [a.v] h = some (a.chk, h) := go11 a (by omega) (by omega)
  obtain ⟨cp, hcp⟩ := chk_err a
  rw [hcp] at e11
  have e14 : ∀ h, call X E 19999 14 [] h = some (.c (.bool true), h) := alive_g (by omega)
  have hle2 : 2 ≤ T.length + 1 + 1 := by omega
  have hnum := parts_num a
  have hpl := parts_len a
  have hol := own_len a
  have e31 : ∀ h, call X E 19999 31 [.sl (pvs a.rp) .any, .sl (pvs a.rp) .any] h = some (.c (.bool true), h) := go31 a.rp .any .any (fun p hp => rp_mem hp) (by omega) (by omega)
  have e33 : ∀ h, call X E 19999 33 [.sl (ss a.own) .any, .sl (ss a.own) .any] h = some (.c (.bool true), h) := go33 a.own .any .any (by omega) (by omega)
  suffices hg : Gives 20000 8 [d.v] (.c (.bool true)) from hg []
  refine gives_of (n := 19999) rfl rfl rfl (by kernel_rfl) ⟨rfl, rfl⟩ (by simp [D.vw2, V.lows, D.low]) ?_
  by_cases h0 : a.err = 0
  · have e30 : ∀ h, call X E 19999 30 [a.v] h = some (.c (.int .i64 a.form), h) := go30 a (err_fm h0) (by omega) (by omega) (by omega)
    have e32 : ∀ h, call X E 19999 32 [a.v] h = some (.sl (pvs a.rp) .any, h) := go32 a (err_fm h0) (by omega) (by omega)
    have e34 : ∀ h, call X E 19999 34 [a.v] h = some (.sl (ss a.own) .any, h) := go34 a (err_fm h0) (by omega) (by omega)
    rw [h0] at e28 e26 e29 e11
    simp only [if_true] at e28 e26 e29
    generalize pvs a.rp = RP at *
    generalize ss a.own = OW at *
    generalize pv cp = CP at *
    generalize a.form = fo at *
    generalize call X E 19999 = cf at *
    simp -implicitDefEqProofs [x8_w, x8_r, x8r1_w, x8r2_w, x8r3_w, x8r4_w, x8r5_w, x8r6_w, x8r7_w, x8r9_w, D.vw2, D.okc, D.rd, D.cells_len, D.spl, c1, e28, e26, hle2, e29, e11, e30, e31, e32, e33, e34, e14]
  · have hne : (a.err != 0) = true := by simp [h0]
    rw [if_neg h0] at e28 e26 e29
    simp only [pvs, ss, List.map_nil] at e26 e29
    generalize a.err = er at *
    generalize pv cp = CP at *
    generalize call X E 19999 = cf at *
    simp -implicitDefEqProofs [x8_w, x8_r, x8r1_w, x8r2_w, x8r3_w, x8r4_w, x8r5_w, x8r6_w, x8r7_w, x8r8_w, D.vw2, D.okc, D.rd, D.cells_len, D.spl, c1, e28, e26, hle2, e29, e11, hne, e14]
end Go.Proofs.YtkiliokeanmagaaDoor.Ab

namespace Go.Proofs.YtkiliokeanmagaaDoor.Ab
open Go Go.ChangeMaps Go.ChangeShapes Go.WideShapes Go.ChangeAt Go.RowKit
set_option linter.unusedVariables false
set_option linter.unusedSimpArgs false
set_option maxRecDepth 100000
section
variable {W : World} {g : Gh}
theorem addr_at {a : Addr} {n : Nat} (h : a.spot = none) : a.add n = ⟨a.block, a.off + n, none⟩ := by
  unfold Addr.add
  split
  · rename_i h0
    subst h0
    obtain ⟨b, o, s⟩ := a
    simp only at h
    subst h
    rfl
  · rfl
theorem cell_spot {a : Addr} {v : Value} (h : W.cell? a = some v) : a.spot = none ∧ a.block < W.heap.size := by
  unfold World.cell? at h
  split at h
  · rename_i c t m hb
    split at h
    · cases h
    · rename_i hs
      refine ⟨by simpa using hs, (Array.getElem?_eq_some_iff.1 hb).1⟩
  · cases h
def CellsOk (g : Gh) (W : World) (cs : List Value) (vs : List V) : Prop := cs.length = vs.length ∧ ∀ r (h1 : r < cs.length) (h2 : r < vs.length), Rep g W cs[r] vs[r] ∧ (cs[r]).oneCell' = true
theorem rep_slice {a : Addr} {len cap z : Nat} {us : List V} (hfz : ∀ b o, b < W.heap.size → g.fz b o) (hz : ∀ u ∈ us, u.cells.length = z) (hz0 : 0 < z) (hl : us.length = len) (hlc : len ≤ cap)
    (hc : ∀ i (hi : i < us.length), ∃ cs : List Value, W.cells? 0 (a.add (i * z)) z = some cs ∧ CellsOk g W cs (us[i]).cells) : Rep g W (.slice (some a) len cap) (.sl us .any) := by
  have hget : ∀ i (hi : i < us.length), ∃ cs : List Value, CellsOk g W cs (us[i]).cells ∧ ∀ r (h : r < cs.length), W.cell? ((a.add (i * z)).add r) = some cs[r] := by
    intro i hi
    obtain ⟨cs, h1, h2⟩ := hc i hi
    refine ⟨cs, h2, fun r hr => ?_⟩
    unfold World.cells? at h1
    split at h1
    · have hzl : r < z := by rw [← hz _ (List.getElem_mem hi), ← h2.1]; exact hr
      have := mapM_some_get h1 r r (by simp [hzl])
      rw [this, List.getElem?_eq_getElem hr]
    · cases h1
  have hsp : us ≠ [] → a.spot = none ∧ a.block < W.heap.size := by
    intro hne
    have hp : 0 < us.length := List.length_pos_iff.2 hne
    obtain ⟨cs, h2, h3⟩ := hget 0 hp
    have h4 := h3 0 (by rw [h2.1, hz _ (List.getElem_mem hp)]; exact hz0)
    have := cell_spot h4
    simpa [Addr.add] using this
  have hcell : ∀ i (hi : i < us.length) r (hr : r < (us[i]).cells.length), ∃ v, W.cell? ⟨a.block, a.off + (i * z + r), none⟩ = some v ∧ Rep g W v (us[i]).cells[r] ∧ v.oneCell' = true := by
    intro i hi r hr
    obtain ⟨hs, hb⟩ := hsp (by intro e; rw [e] at hi; simp at hi)
    obtain ⟨cs, h2, h3⟩ := hget i hi
    have hr' : r < cs.length := by rw [h2.1]; exact hr
    have h4 := h3 r hr'
    have e : (a.add (i * z)).add r = ⟨a.block, a.off + (i * z + r), none⟩ := by
      rw [addr_at hs, addr_at rfl]
      simp only [Nat.add_assoc]
    rw [e] at h4
    exact ⟨_, h4, h2.2 r hr' hr⟩
  have hidx : ∀ j, j < us.length * z → ∃ i r, ∃ (hi : i < us.length) (hr : r < (us[i]).cells.length), j = i * z + r := by
    intro j hj
    refine ⟨j / z, j % z, ?_, ?_, ?_⟩
    · exact (Nat.div_lt_iff_lt_mul hz0).2 hj
    · rw [hz _ (List.getElem_mem _)]; exact Nat.mod_lt _ hz0
    · rw [Nat.mul_comm]; exact (Nat.div_add_mod j z).symm
  refine .sl (some a) len cap us .any z (fun j => (W.cell? ⟨a.block, a.off + j, none⟩).getD undef) hl.symm hlc hz (fun hne => ?_) (fun j hj => ?_) trivial
  · obtain ⟨hs, hb⟩ := hsp hne
    refine ⟨a.block, a.off, ?_, fun j hj => ?_⟩
    · obtain ⟨b, o, s⟩ := a
      simp only at hs
      subst hs
      rfl
    · obtain ⟨i, r, hi, hr, rfl⟩ := hidx j hj
      obtain ⟨v, h1, _, h3⟩ := hcell i hi r hr
      refine ⟨hfz _ _ hb, ?_⟩
      simp only [h1, Option.getD_some, h3, and_self]
  · have hj' := hj
    rw [flats_length hz] at hj'
    obtain ⟨i, r, hi, hr, rfl⟩ := hidx j hj'
    obtain ⟨v, h1, h2, _⟩ := hcell i hi r hr
    have h5 := flats_at hz i hi r hr
    rw [List.getElem?_eq_getElem hj] at h5
    simp only [Option.some.injEq] at h5
    rw [h5]
    simp only [h1, Option.getD_some]
    exact h2
variable {H : Type} {enc : TypeId × Value → H} {sp : Nat → Bool} {held : Bool}
theorem cells24 : Tryd.prog.cellsOf 24 = 4 := by kernel_rfl
theorem cells22 : Tryd.prog.cellsOf 22 = 1 := by kernel_rfl
theorem cells3 : Tryd.prog.cellsOf 3 = 1 := by kernel_rfl
theorem cells2 : Tryd.prog.cellsOf 2 = 1 := by kernel_rfl
theorem cells9 : Tryd.prog.cellsOf 9 = 1 := by kernel_rfl
theorem open_cells (hfz : ∀ b o, b < W.heap.size → g.fz b o) : ∀ (fuel : Nat) (cs : List Value) (x : DataW H × List MemPlace), DataW.trod enc Tryd.prog W 0 sp held fuel 24 cs = some x → ∃ d : D, CellsOk g W cs d.v.cells := by
  intro fuel
  induction fuel using Nat.strongRecOn with
  | _ fuel ih =>
    intro cs x h
    obtain ⟨xs, n, rfl, rfl, hlen, hxl, hf⟩ := DataW.trod_struct Tryd.underlying24 h
    rw [cells24] at hlen
    obtain ⟨a0, a1, a2, a3, rfl⟩ : ∃ a0 a1 a2 a3, cs = [a0, a1, a2, a3] := by
      match cs, hlen with
      | [a0, a1, a2, a3], _ => exact ⟨_, _, _, _, rfl⟩
    have h0 : DataW.trod enc Tryd.prog W 0 sp held n 3 (([a0, a1, a2, a3].drop 0).take (Tryd.prog.cellsOf 3)) = xs[0]? := hf 0 _ rfl
    have h1 : DataW.trod enc Tryd.prog W 0 sp held n 2 (([a0, a1, a2, a3].drop 1).take (Tryd.prog.cellsOf 2)) = xs[1]? := hf 1 _ rfl
    have h2 : DataW.trod enc Tryd.prog W 0 sp held n 9 (([a0, a1, a2, a3].drop 2).take (Tryd.prog.cellsOf 9)) = xs[2]? := hf 2 _ rfl
    have h3 : DataW.trod enc Tryd.prog W 0 sp held n 22 (([a0, a1, a2, a3].drop 3).take (Tryd.prog.cellsOf 22)) = xs[3]? := hf 3 _ rfl
    simp only [cells3, cells2, cells9, cells22, List.drop_zero, List.drop_succ_cons, List.take_succ_cons, List.take_zero] at h0 h1 h2 h3
    have hxl : xs.length = 4 := hxl
    rw [List.getElem?_eq_getElem (by omega)] at h0 h1 h2 h3
    obtain ⟨k, e0, _⟩ := DataW.trod_int Tryd.underlying3 h0
    obtain ⟨m, e1, _⟩ := DataW.trod_int Tryd.underlying2 h1
    obtain ⟨t, e2, _⟩ := DataW.trod_string Tryd.underlying9 h2
    simp only [List.cons.injEq, and_true] at e0 e1 e2
    subst e0 e1 e2
    have key : ∃ l : List D, Rep g W a3 (.sl (D.vs l) .any) ∧ a3.oneCell' = true := by
      rcases DataW.trod_slice Tryd.underlying22 h3 with ⟨e3, _⟩ | ⟨a, len, cap, elems, rest, n', e4, e3, _, _, hlc, _, hel, hget, _⟩
      · simp only [List.cons.injEq, and_true] at e3
        subst e3
        exact ⟨[], .sl none 0 0 [] .any 4 (fun _ => undef) rfl (Nat.le_refl _) (by simp) (fun h => absurd rfl h) (fun j hj => by simp [flats] at hj) trivial, rfl⟩
      · simp only [List.cons.injEq, and_true] at e3
        subst e3 e4
        rw [cells24] at hget
        have hex : ∀ i, i < len → ∃ d : D, ∃ cs, W.cells? 0 (a.add (i * 4)) 4 = some cs ∧ CellsOk g W cs d.v.cells := by
          intro i hi
          have := hget i hi
          rw [List.getElem?_eq_getElem (by omega)] at this
          simp only [Option.bind_eq_some_iff] at this
          obtain ⟨cs, hc, ht⟩ := this
          obtain ⟨d, hd⟩ := ih n' (by omega) cs _ ht
          exact ⟨d, cs, hc, hd⟩
        have hl : ∀ m, m ≤ len → ∃ l : List D, l.length = m ∧ ∀ i (hi : i < l.length), ∃ cs, W.cells? 0 (a.add (i * 4)) 4 = some cs ∧ CellsOk g W cs (l[i]).v.cells := by
          intro m
          induction m with
          | zero => exact fun _ => ⟨[], rfl, fun i hi => by simp at hi⟩
          | succ m ihm =>
            intro hm
            obtain ⟨l, h1, h2⟩ := ihm (by omega)
            obtain ⟨d, hd⟩ := hex m (by omega)
            refine ⟨l ++ [d], by simp [h1], fun i hi => ?_⟩
            rcases Nat.lt_or_ge i l.length with h3 | h3
            · rw [List.getElem_append_left h3]; exact h2 i h3
            · have hi' : i = l.length := by simp at hi; omega
              subst hi'
              rw [List.getElem_append_right (Nat.le_refl _)]
              simp only [Nat.sub_self, List.getElem_cons_zero]
              rw [h1]; exact hd
        obtain ⟨l, h1, h2⟩ := hl len (Nat.le_refl _)
        refine ⟨l, rep_slice (z := 4) hfz (fun u hu => ?_) (by omega) (by rw [D.vs_len, h1]) hlc (fun i hi => ?_), rfl⟩
        · rw [D.vs_map] at hu
          obtain ⟨d, _, rfl⟩ := List.mem_map.1 hu
          exact D.cells_len d
        · rw [D.vs_getE]
          exact h2 i _
    obtain ⟨l, hr, ho⟩ := key
    refine ⟨.mk k m t l, rfl, fun r h1 h2 => ?_⟩
    simp only [List.length_cons, List.length_nil] at h1
    match r, h1 with
    | 0, _ => exact ⟨.c _, rfl⟩
    | 1, _ => exact ⟨.c _, rfl⟩
    | 2, _ => exact ⟨.c _, rfl⟩
    | 3, _ => exact ⟨hr, ho⟩
theorem open_datum {r : Reach} {b0 : Nat} {v : Value} {dd : DataW H} {ps : List MemPlace} (hfz : ∀ b o, b < W.heap.size → g.fz b o) (hval : Value.okWide Tryd.prog W r b0 24 v) (hd : DataW.Trod enc Tryd.prog W 0 sp held 24 v dd ps) : ∃ d : D, Rep g W v d.v := by
  obtain ⟨cs, rfl, hn⟩ := okWide_struct Tryd.underlying24 hval
  obtain ⟨fuel, hf⟩ := hd
  obtain ⟨d, h1, h2⟩ := open_cells hfz fuel _ _ hf
  refine ⟨d, ?_⟩
  obtain ⟨k, n, t, l⟩ := d
  simp only [Value.cells] at h1 h2
  have h1' : cs.size = 4 := by simpa [D.v, V.cells] using h1
  refine .agg cs _ (by simp [h1']) (fun i hi => ?_) (fun i hi hj => ?_)
  · have := h2 i (by simpa using hi) (by simp [D.v, V.cells]; omega)
    simpa using this.2
  · have := h2 i (by simpa using hi) (by simpa [D.v, V.cells] using hj)
    simpa [D.v, V.cells] using this.1
end
end Go.Proofs.YtkiliokeanmagaaDoor.Ab

namespace Go.Proofs.YtkiliokeanmagaaDoor.Ab
open Go Go.ChangeMaps Go.ChangeShapes Go.WideShapes Go.ChangeAt Go.RowKit
set_option linter.unusedVariables false
set_option linter.unusedSimpArgs false
set_option maxRecDepth 100000
end Go.Proofs.YtkiliokeanmagaaDoor.Ab

namespace Go.Proofs.YtkiliokeanmagaaDoor
open Go Go.ChangeMaps Go.ChangeShapes Go.WideShapes Go.ChangeAt Go.RowKit
set_option linter.unusedVariables false
set_option linter.unusedSimpArgs false
theorem own : ownKnob Tryd.prog.godebug = none := by kernel_rfl
theorem laidOut : laidOutB Tryd.prog = true := by kernel_rfl
theorem gWords : Tryd.prog.globalNamed "pagoda/syntax.words" = some 0 := by kernel_rfl
theorem tWords : ∃ T k, (Tryd.prog.globals[0]?).map (·.type) = some T ∧ Tryd.prog.underlying T = some (.map 9 k) ∧ Tryd.prog.underlying k = some (.int .i64) :=
  ⟨((Tryd.prog.globals[0]?).map (·.type)).getD 0, 3, by kernel_rfl, by kernel_rfl, by kernel_rfl⟩
theorem lawW : WideMaps.KeyLaw Tryd.prog 9 := WideMaps.string_law Tryd.underlying9
def laidL : List (String × DataW Unit) := [("pagoda/syntax.words", Rows.laid_pagoda_syntax_words)]
theorem door_met (os : Os) (args : Array Value) : laidMetH Tryd.prog laidL ((World.doorLaid Tryd.prog 400 os).forCall (fun _ _ => 0) ⟨#[], args, []⟩).memory :=
  laidMetH_of_parts3 (fuel := 8) (laidMet_of_run' 8 (by kernel_rfl) (by kernel_rfl)) (by kernel_rfl) (by kernel_rfl)
def wl : List (List UInt8 × Int) := [([102, 110], 5), ([105, 102], 4), ([108, 101, 116], 6), ([113, 117, 111, 116, 101], 3), ([114, 101, 99], 7), ([115, 101, 113], 8), ([117, 112], 9)]
theorem laid_wl : Rows.laid_pagoda_syntax_words (H := Unit) = .map (wl.map fun p => (.string p.1, .lit (.int .i64 p.2))) := rfl
theorem mem_fold {H : Type} {y : Lit × DataW H} : ∀ l : List (Lit × DataW H), y ∈ l.foldr DataW.insert [] ↔ y ∈ l
  | [] => Iff.rfl
  | x :: l => by rw [List.foldr_cons, mem_insert_iff, mem_fold l, List.mem_cons]
theorem pw_inj : ∀ {l : List MapEntry}, l.Pairwise (fun a b => a.key ≠ b.key) → ∀ e ∈ l, ∀ e' ∈ l, e.key = e'.key → e = e'
  | [], _, e, h, _, _, _ => by simp at h
  | a :: l, hp, e, h, e', h', hk => by
    rw [List.pairwise_cons] at hp
    rcases List.mem_cons.1 h with h1 | h1 <;> rcases List.mem_cons.1 h' with h2 | h2
    · rw [h1, h2]
    · subst h1; exact absurd hk (hp.1 _ h2)
    · subst h2; exact absurd hk.symm (hp.1 _ h1)
    · exact pw_inj hp.2 _ h1 _ h2 hk
theorem choose_list {l : List MapEntry} : ∀ (wl : List (List UInt8 × Int)), (∀ p ∈ wl, ∃ e ∈ l, e.key = .string ⟨p.1.toArray⟩ ∧ e.val = .int .i64 p.2) →
    ∃ l' : List MapEntry, l'.map (·.key) = wl.map (fun p => .string ⟨p.1.toArray⟩) ∧ l'.map (·.val) = wl.map (fun p => .int .i64 p.2) ∧ ∀ e ∈ l', e ∈ l
  | [], _ => ⟨[], rfl, rfl, by simp⟩
  | p :: wl, h => by
    obtain ⟨e, h1, h2, h3⟩ := h p (by simp)
    obtain ⟨l', k1, k2, k3⟩ := choose_list wl fun p hp => h p (by simp [hp])
    refine ⟨e :: l', by simp [h2, k1], by simp [h3, k2], fun x hx => ?_⟩
    rcases List.mem_cons.1 hx with rfl | hx
    · exact h1
    · exact k3 x hx
theorem of_laid {W : World} (h : laidMetH Tryd.prog laidL W) : ∃ bm es ck, W.cell? ⟨0, 0, none⟩ = some (.map (some bm)) ∧ Ab.MapAt W bm es ck ∧
    es.toList.map (·.key) = wl.map (fun p => .string ⟨p.1.toArray⟩) ∧ es.toList.map (·.val) = wl.map (fun p => .int .i64 p.2) := by
  rw [MakeChecks.laidMetH_plain _ _ _ (by kernel_rfl)] at h
  obtain ⟨ps, ⟨g0, t0, cs0, f0, p0, q0, hg0, ht0, hv0, hd0, _, _⟩, _, _⟩ := h
  obtain ⟨T, k, hT, hu, hk⟩ := tWords
  obtain rfl := Option.some.inj (gWords.symm.trans hg0)
  obtain rfl := Option.some.inj (hT.symm.trans ht0)
  rw [laid_wl] at hd0
  rcases WideMaps.open_map hu hk hd0 with ⟨_, hx⟩ | ⟨bm, es, clock, hcs, hb, _, F, hx⟩
  · simp at hx
  simp only [Prod.mk.injEq, DataW.map.injEq] at hx
  obtain ⟨hx, _⟩ := hx
  have hmem : ∀ y, y ∈ (wl.map fun p => ((.string p.1, .lit (.int .i64 p.2)) : Lit × DataW Unit)) ↔ y ∈ es.toList.map (WideMaps.rg Unit Tryd.prog 9 .i64) := fun y => by
    rw [hx, mem_fold]
  have hkv : ∀ (e : MapEntry) (p : List UInt8 × Int), p ∈ wl → e ∈ es.toList → WideMaps.rg Unit Tryd.prog 9 .i64 e = (.string p.1, .lit (.int .i64 p.2)) → e.key = .string ⟨p.1.toArray⟩ ∧ e.val = .int .i64 p.2 := by
    intro e p hp he hr
    obtain ⟨y, hy⟩ := F.reads e he
    rw [WideMaps.rg_of hy] at hr
    subst hr
    have h1 := WideMaps.rd_key hy
    obtain ⟨n, h2, h3, _⟩ := WideMaps.rd_val hy
    simp only [DataW.lit.injEq, Lit.int.injEq, true_and] at h3
    have h4 : keyOf Tryd.prog 9 (.string ⟨p.1.toArray⟩) = some (.string p.1) := by
      have hsz : (ByteArray.mk p.1.toArray).size ≤ maxLen := by
        have : ∀ p ∈ wl, (ByteArray.mk p.1.toArray).size ≤ maxLen := by decide
        exact this p hp
      have := WideMaps.keyOf_string_mk (s := ⟨p.1.toArray⟩) Tryd.underlying9 hsz
      simpa using this
    exact ⟨lawW.inj h1 h4, by rw [h2, h3]⟩
  have huniq := pw_inj ((MapKept.stamped_iff es clock).1 F.stamped).2.2
  obtain ⟨l', k1, k2, k3⟩ := choose_list (l := es.toList) wl fun p hp => by
    have := (hmem (.string p.1, .lit (.int .i64 p.2))).1 (List.mem_map.2 ⟨p, hp, rfl⟩)
    obtain ⟨e, he, hr⟩ := List.mem_map.1 this
    exact ⟨e, he, hkv e p hp he hr⟩
  have hkeys : ∀ e ∈ l', ∃ s, e.key = .string s := fun e he => by
    have : e.key ∈ l'.map (·.key) := List.mem_map.2 ⟨e, he, rfl⟩
    rw [k1] at this
    obtain ⟨p, _, hp⟩ := List.mem_map.1 this
    exact ⟨_, hp.symm⟩
  have hcell : W.cell? ⟨0, 0, none⟩ = some (.map (some bm)) := by
    have := World.var?_cell hg0 hv0 0
    rw [Array.eq_one_of_toList hcs] at this
    simpa using this
  refine ⟨bm, ⟨l'⟩, clock, hcell, ⟨es, hb, fun e => ⟨fun he => ?_, fun he => k3 e he⟩, hkeys, fun e he e' he' => huniq e (k3 e he) e' (k3 e' he')⟩, k1, k2⟩
  have h1 : WideMaps.rg Unit Tryd.prog 9 .i64 e ∈ (wl.map fun p => ((.string p.1, .lit (.int .i64 p.2)) : Lit × DataW Unit)) := (hmem _).2 (List.mem_map.2 ⟨e, he, rfl⟩)
  obtain ⟨p, hp, hr⟩ := List.mem_map.1 h1
  obtain ⟨h2, _⟩ := hkv e p hp he hr.symm
  have h3 : e.key ∈ l'.map (·.key) := by rw [k1, h2]; exact List.mem_map.2 ⟨p, hp, rfl⟩
  obtain ⟨e', he', hk'⟩ := List.mem_map.1 h3
  have := huniq e he e' (k3 e' he') hk'.symm
  subst this
  exact he'
def old (W : World) : Nat → Nat → Prop := fun b _ => b < W.heap.size
theorem gl_of_laid {W : World} (h : laidMetH Tryd.prog laidL W) : Ab.GlOk ⟨fun _ => none, fun _ => none, old W⟩ W := by
  obtain ⟨bm, es, ck, hc, hm, hk, hv⟩ := of_laid h
  intro n v hn
  unfold Ab.gvs at hn
  split at hn
  rotate_left
  · cases hn
  simp only [Option.some.injEq] at hn
  subst hn
  have h0 : (0 : Nat) < W.heap.size := by
    unfold World.cell? at hc
    cases hh : W.heap[0]? with
    | none => simp [hh] at hc
    | some o => exact (Array.getElem?_eq_some_iff.1 hh).1
  have hbm : bm < W.heap.size := by
    obtain ⟨es0, h1, _⟩ := hm
    exact (Array.getElem?_eq_some_iff.1 h1).1
  have hlen : es.size = 7 := by
    have := congrArg List.length hk
    simpa [wl] using this
  have hv2 : ∀ (i : Nat) (hi : i < es.size) (hj : i < (wl.map fun p => (Ab.V.c (.int .i64 p.2))).length), Ab.Rep ⟨fun _ => none, fun _ => none, old W⟩ W (es[i]'hi).val ((wl.map fun p => (Ab.V.c (.int .i64 p.2)))[i]) := by
    intro i hi hj
    have hj' : i < wl.length := by simpa using hj
    have h1 : (es.toList.map (·.val))[i]'(by simpa using hi) = (wl.map fun p => Value.int .i64 p.2)[i]'(by simpa using hj') := by simp only [hv]
    simp only [List.getElem_map, Array.getElem_toList] at h1
    rw [List.getElem_map, h1]
    exact .c _
  refine .ptr 0 0 0 _ 0 (fun _ => .map (some bm)) rfl (fun j hj => ?_) fun j hj => ?_
  · have : j = 0 := by simp at hj; omega
    subst this
    exact ⟨h0, hc, rfl⟩
  · have : j = 0 := by simp at hj; omega
    subst this
    refine .fmp bm es ck _ _ hm hbm (by rw [hk]; rfl) (by rw [hlen]; rfl) fun i hi hj => hv2 i hi hj
theorem Ab.law_calls {f : Nat} {args : List Ab.V} {n : Nat} (hfr : f < Ab.rid) (h : Ab.call Ab.X Ab.E n f args [] = some (.c (.bool true), [])) {W : World} {cargs : Array Value} (hgl : Ab.GlOk ⟨fun _ => none, fun _ => none, old W⟩ W) (hl : cargs.size = args.length)
    (hr : ∀ i (hi : i < cargs.size) (hj : i < args.length), Ab.Rep ⟨fun _ => none, fun _ => none, old W⟩ W cargs[i] args[i]) :
    Calls Tryd.prog f cargs W (fun e W' => e = .returned (.bool true) ∧ Below W.heap.size W W') := by
  have H : Ab.HOk ⟨fun _ => none, fun _ => none, old W⟩ W [] := ⟨(fun _ _ e => by simp at e), (fun _ _ _ _ e => by simp at e), (fun _ _ _ e => by simp at e), (fun _ _ _ _ _ _ _ e => by simp at e), (fun _ _ _ _ _ e => by simp at e), ⟨fun _ _ h => h, hgl⟩⟩
  refine Calls.mono (((Ab.seat_ok n _ _ _ _ _ h).1 hfr).2 _ W cargs H hl hr) ?_
  rintro e W' ⟨v, g', rfl, hle, _, hrep, _⟩
  have hv : v = .bool true := hrep.of_c
  subst hv
  refine ⟨rfl, ⟨hle.os, hle.tape, hle.output, hle.size, fun b hb => hle.kept b hb ?_⟩⟩
  rintro (⟨id, e⟩ | ⟨k, l, c, e⟩) <;> simp at e
theorem stays {H : Type} {enc : TypeId × Value → H} {t : TypeId} (hr : Tryd.prog.readableRec t = true) (hrow : t < Tryd.prog.types.size) {W W' : World} {v : Value} {d : DataW H} {ps : List MemPlace}
    (h : DataW.Trod enc Tryd.prog W 0 (fun _ => true) true t v d ps) (hb : Below W.heap.size W W') : DataW.Trod enc Tryd.prog W' 0 (fun b => decide (b < W.heap.size)) true t v d ps := by
  refine hb.trod laidOut hr hrow h fun x hx => ?_
  obtain ⟨fuel, hf⟩ := h
  exact DataW.trod_lt fuel _ _ _ hf x hx
end Go.Proofs.YtkiliokeanmagaaDoor

namespace Go.Proofs.YtkiliokeanmagaaDoor
open Go Go.ChangeMaps Go.ChangeShapes Go.WideShapes Go.ChangeAt Go.RowKit
set_option linter.unusedVariables false
set_option linter.unusedSimpArgs false
set_option maxRecDepth 100000 in
theorem syntaxForms_lifted (os : Os) (started : os.Started) (H : Type) (enc : TypeId × Value → H) :
    ReturnsInHanded {} Tryd.checked os 8 .any (fun w args => (Rows.syntaxFormsSpec.pre enc Tryd.prog Tryd.f8 [] false w args ∧ laidMetH Tryd.prog laidL w) ∧ sizedMet enc Tryd.prog Tryd.f8 (OpenSpec.ofChange Rows.syntaxFormsSpec) false w args)
      (Rows.syntaxFormsSpec.post enc Tryd.prog Tryd.f8 false true false false) := by
  refine returnsInHanded_of_change_and (C := Tryd.checked) (X := fun w _ => laidMetH Tryd.prog laidL w) (fun _ _ _ hh h => h.of_heap hh) own started (by kernel_rfl) Tryd.func8
    (ChangeSpec.witness_shaped (enc := enc) (C := Tryd.checked) (os := os) (X := fun w _ => laidMetH Tryd.prog laidL w) false (World.doorLaid Tryd.prog 400 os) #[.agg #[.int .i64 0, .int .i64 0, .string ⟨#[]⟩, .slice none 0 0]] 8 rfl (World.shaped_of_RefB (by kernel_rfl) (by kernel_rfl)) (by kernel_rfl) (by kernel_rfl) (by kernel_rfl) (door_met os _)) ?_
  intro W base args ds gs before hval0 hW _ _ hL _
  have hval : ∀ (j : Nat) t v, Tryd.f8.params[j]? = some t → args[j]? = some v → Value.okWide Tryd.prog W .any base t v := hval0
  have hW' := hW
  obtain ⟨p, q, hA0, hV, rfl, hfz, hnd⟩ := hW
  have hA : DataW.TrodAll enc Tryd.prog W 0 (fun _ => true) true Tryd.f8.params.toList args.toList ds p := hA0
  rw [Tryd.params8] at hA hval
  obtain ⟨v0, d0, rfl, rfl, h0⟩ := trodAll_one hA
  obtain ⟨rfl, rfl⟩ := trodVars_none hV
  obtain ⟨x0, r0⟩ := Ab.open_datum (g := ⟨fun _ => none, fun _ => none, old W⟩) (fun _ _ h => h) (hval 0 24 v0 rfl rfl) h0
  simp only [List.append_nil] at hW'
  refine (Ab.law_calls (n := 20000) (by decide) (args := [x0.v]) (Ab.law8 x0) (W := W) (cargs := #[v0]) (gl_of_laid hL) rfl (fun i hi hj => by
    match i, hj with
    | 0, _ => exact r0)).mono fun e W' ⟨he, hB⟩ => ?_
  subst he
  exact ⟨_, rfl, _, _, _, [], _, [], hW', trodAll_mk1 (shut_bool Tryd.underlying4 true), trodAll_mk1 (stays (by kernel_rfl) (by decide +kernel) h0 hB), rfl, hB.frame _, fun h => by cases h⟩
theorem syntaxForms_row : Rows.SyntaxFormsSaid :=
  OpenClaim.holds_of_wide 8 Tryd.f8 rfl rfl rfl rfl rfl rfl rfl ⟨rfl, rfl, rfl, rfl, rfl⟩ rfl rfl rfl rfl rfl (by kernel_rfl) Tryd.func8 (by kernel_rfl)
    (of_decide_eq_true (by kernel_rfl)) (by unfold Func.isWrapper; first | (rw [if_pos (by decide +kernel)]; kernel_rfl) | (rw [if_neg (by decide +kernel)]; exact ⟨rfl, rfl⟩))
    (fun os started H enc _ => syntaxForms_lifted os started H enc)
theorem syntaxForms_holds : Rows.SyntaxFormsCardSaid :=
  Claim7.holds_tied_plain_at .later [] [.mapped] true (true, "8ccad16c6e417e3cd4dc0213b5b27223fa57546759a13c087f9ad22ecc3916b7") false
    syntaxForms_row (fun _ h => by cases h) (by kernel_rfl) (fun _ h => by cases h) syntaxForms_row_tie rfl ⟨rfl, rfl⟩ (by kernel_rfl) rfl
    (fun f fn hf hfn => by
      obtain rfl : f = 8 := Option.some.inj ((show Tryd.prog.funcNamed "pagoda/pagodalaw04.SyntaxForms" = some 8 by kernel_rfl).symm.trans hf) |>.symm
      obtain rfl : fn = Tryd.f8 := (Option.some.inj (Tryd.func8.symm.trans hfn)).symm
      exact ⟨by kernel_rfl, fun j t ht => by
        rw [Tryd.params8] at ht
        have h3 : t = 24 := by
          match j, ht with
          | 0, ht => exact (by simpa using ht.symm)
          | j + 1, ht => simp at ht
        rcases h3 with rfl
        · exact (show Tryd.prog.wantsStandIn 24 = false by kernel_rfl)⟩)
    (by kernel_rfl)
end Go.Proofs.YtkiliokeanmagaaDoor

