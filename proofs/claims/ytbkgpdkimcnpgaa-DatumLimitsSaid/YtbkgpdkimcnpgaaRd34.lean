/- Clone. -/
import Derived.Test.YtbkgpdkimcnpgaaRd33
namespace Go.Proofs.Ytbkgpdkimcnpgaa.Ab
open Go
set_option linter.unusedVariables false
set_option linter.unusedSimpArgs false
set_option maxRecDepth 4000
set_option maxHeartbeats 1000000

/-- A function that gives its objects away. -/
theorem runF_esc {cf : CallF} {n : Nat} {xf : XF} {args : List V} {h : List O} {P : V → List O → Prop} (hx : xfOk xf args.length = true) (hp : xf.pure = true) (he : xf.esc = true) (hl : V.lows 0 (args.map V.vw2) = true)
    (hw : wpx cf n xf.body ⟨arg0 (args.map V.vw2), [], 0, 0⟩ (Fin (fun vs s => P (resOf vs).vw s) xf)) : ∃ v H, P v H ∧ runF cf n xf args h = some (v.shift h.length, h ++ H.map (O.shift h.length)) := by
  have := exec_of (cf := cf) (n := n) (xf := xf) (args := args.map V.vw2) (h := []) (by simpa using hx) hw
  obtain ⟨e, s, vs, h1, h2, h3, h4, h5⟩ := this
  refine ⟨(resOf vs).vw, s.h, h5, ?_⟩
  unfold runF
  rw [if_pos hp, if_pos hl, if_pos he, h1]
  cases e with
  | exit id => exact absurd rfl (h2 id)
  | normal => simp [fin, h3]
  | ret => simp [fin, h3]

theorem rd_flat {us : List V} (h : ∀ u ∈ us, ∃ a b c e, u = .agg [a, b, c, e]) {j : Nat} (hj : j < us.length) : rdV (flats us) (j * 4) (some 4) = some us[j] := by
  have h4 : ∀ u ∈ us, u.cells.length = 4 := fun u hu => by obtain ⟨a, b, c, e, rfl⟩ := h u hu; rfl
  have hl := flats_length h4
  have hd : (flats us).drop (j * 4) = flats (us.drop j) := (flats_drop j h4).symm
  simp only [rdV]
  rw [if_pos (by omega), hd, List.drop_eq_getElem_cons hj]
  obtain ⟨a, b, c, e, hu⟩ := h us[j] (List.getElem_mem hj)
  rw [hu]
  simp [flats, V.cells]
theorem splice_flat {us : List V} (h4 : ∀ u ∈ us, u.cells.length = 4) {j : Nat} (hj : j < us.length) {v : V} (hv : v.cells.length = 4) : splice (flats us) (j * 4) v.cells = flats (us.set j v) := by
  unfold splice
  rw [hv, ← flats_take j h4, show j * 4 + 4 = (j + 1) * 4 by omega, ← flats_drop (j + 1) h4, List.set_eq_take_append_cons_drop, if_pos hj]
  simp [flats]

theorem call73 {n : Nat} {l : List D} {h : List O} (hl : l.length < 1099511627776) (hne : l ≠ []) : call X E (n + 1) 73 [.sl (D.vs l) .any] h = some (.row (h.length + 1) 0 l.length (some 4), h ++ [.tok 0 4, .cells (flats (D.vs l))]) := by
  have hE : E 73 = some (fun _ => cloneE (some 4) 56 true) := rfl
  cases l with
  | nil => exact absurd rfl hne
  | cons d l =>
    simp only [List.length_cons] at hl
    have hlen := D.vs_len l
    simp only [call, hE, cloneE, srcV, D.vs]
    rw [if_pos ⟨by omega, by omega, by simp [hz, zc, D.cells_len], by simp [zc]⟩]
    simp [zc, hlen]
theorem call73n {n : Nat} {h : List O} : call X E (n + 1) 73 [.sl [] .any] h = some (.sl [] .any, h) := rfl

structure I60 (l : List D) (k n : Int) (t : ByteArray) (m : Nat) (s : SF) : Prop where
  j : ∃ (j : Nat) (rest : List O) (us : List V), j + m = l.length ∧ s.e 11 = .c (.int .i64 j) ∧
    s.h = .cells [.c (.int .i64 k), .c (.int .i64 n), .c (.string t), .row 3 0 l.length (some 4)] :: .cells [.c (.int .i64 0), .c (.int .i64 0), .c (.string ⟨#[]⟩), .sl [] .nil] :: .tok 0 4 :: .cells (flats (us ++ D.vs (l.drop j))) :: rest ∧
    RdRs s.h (l.take j) 4 s.h.length us ∧ rest.all (O.low s.h.length) = true
  e1 : s.e 1 = .ref 0 0
  e2 : s.e 2 = .ref 1 0
  e10 : s.e 10 = .c (.int .i64 l.length)
  b : s.base = 0
def Clones (cf : CallF) (d : D) : Prop := ∀ h : List O, ∃ v H, RdR (h ++ H) d h.length (h ++ H).length v ∧ H.all (O.low (h ++ H).length) = true ∧ cf 60 [d.v] h = some (v, h ++ H)
theorem step60 {cf : CallF} {fu : Nat} {l : List D} {k n : Int} {t : ByteArray} (hl : l.length < 1099511627776) (hc : ∀ x ∈ l, Clones cf x) {Q : Ex → SF → Prop}
    (hQ : ∀ s us rest, s.h = .cells [.c (.int .i64 k), .c (.int .i64 n), .c (.string t), .row 3 0 l.length (some 4)] :: .cells [.c (.int .i64 0), .c (.int .i64 0), .c (.string ⟨#[]⟩), .sl [] .nil] :: .tok 0 4 :: .cells (flats us) :: rest → RdRs s.h l 4 s.h.length us → rest.all (O.low s.h.length) = true → s.e 1 = .ref 0 0 → s.e 2 = .ref 1 0 → s.base = 0 → Q (.exit 0) s) (m : Nat) (s : SF) (I : I60 l k n t m s) :
    wpk cf fu x60l8 [] (fun e s' => match e with | .normal => ∃ k1, k1 < m ∧ I60 l k n t k1 s' | e => Q e s') s := by
  obtain ⟨⟨j, rest, us, hj, e11, hh, hr, hlw⟩, e1, e2, e10, hb⟩ := I
  obtain ⟨e, h, base, rb⟩ := s
  simp only at e11 hh hr hlw e1 e2 e10 hb
  subst hh hb
  by_cases hm : j < l.length
  · have hlt : (j : Int) < l.length := by omega
    have hus := hr.len
    have hus' : us.length = j := by rw [hus]; simp; omega
    have hds : l.drop j = l[j] :: l.drop (j + 1) := List.drop_eq_getElem_cons hm
    have hagg : ∀ u ∈ us ++ D.vs (l.drop j), ∃ a b c e, u = .agg [a, b, c, e] := by
      intro u hu
      rcases List.mem_append.1 hu with hu | hu
      · exact Rds.aggs _ _ (Rds.of _ _ _ _ (fun i _ _ => rfl) hr) u hu
      · exact Rds.aggs _ _ (Rds.plain [] (l.drop j)) u hu
    have h4 : ∀ u ∈ us ++ D.vs (l.drop j), u.cells.length = 4 := fun u hu => by obtain ⟨a, b, c, e, rfl⟩ := hagg u hu; rfl
    have hlen : (us ++ D.vs (l.drop j)).length = l.length := by rw [List.length_append, D.vs_len, hus']; simp; omega
    have hjl : j < (us ++ D.vs (l.drop j)).length := by omega
    have hrd := rd_flat hagg hjl
    have hget : (us ++ D.vs (l.drop j))[j] = l[j].v := by
      rw [List.getElem_append_right (by omega)]
      simp only [hds, D.vs, hus', Nat.sub_self, List.getElem_cons_zero]
    rw [hget] at hrd
    have hfl := flats_length h4
    have hfl' : j * 4 + 4 ≤ (flats (us ++ D.vs (l.drop j))).length := by omega
    obtain ⟨v, H, hv, hlv, hcall⟩ := hc _ (List.getElem_mem hm) (.cells [.c (.int .i64 k), .c (.int .i64 n), .c (.string t), .row 3 0 l.length (some 4)] :: .cells [.c (.int .i64 0), .c (.int .i64 0), .c (.string ⟨#[]⟩), .sl [] .nil] :: .tok 0 4 :: .cells (flats (us ++ D.vs (l.drop j))) :: rest)
    have hv4 := RdR.len _ _ _ _ hv
    have hvo := (Rd.of _ _ _ _ (fun i _ _ => rfl) hv).okc
    have hsp := splice_flat h4 hjl hv4
    unfold splice at hsp
    rw [hv4] at hsp
    generalize hcs : flats (us ++ D.vs (l.drop j)) = cs at *
    simp -implicitDefEqProofs [x60l8_w, x60r4_w, x60r5_w, x60r6_w, x60r7_w, e1, e2, e10, e11, hlt, hm, hrd, hcall, hvo, hv4, hfl', hsp]
    have hset : (us ++ D.vs (l.drop j)).set j v = (us ++ [v]) ++ D.vs (l.drop (j + 1)) := by
      rw [hds, D.vs, List.set_append_right _ _ (by omega), hus']
      simp
    rw [hset]
    refine ⟨m - 1, by omega, ⟨⟨j + 1, rest ++ H, us ++ [v], by omega, ?_, rfl, ?_, ?_⟩, ?_, ?_, ?_, rfl⟩⟩
    · simp only [upd_at, e11]
      simp
      rw [wrap_in (by omega)]
    · have ht : l.take (j + 1) = l.take j ++ [l[j]] := by rw [List.take_add_one, List.getElem?_eq_getElem hm]; rfl
      rw [ht]
      simp only [List.length_cons, List.length_append] at hr hv ⊢
      refine RdRs.snoc _ _ (rest.length + 1 + 1 + 1 + 1) _ _ _ (by omega) (by omega) ?_ ?_
      · refine RdRs.agree _ _ _ _ _ _ (Nat.le_refl _) (Nat.le_refl _) (fun i j1 j2 => ?_) hr
        obtain ⟨i, rfl⟩ : ∃ i', i = i' + 4 := ⟨i - 4, by omega⟩
        simp only [List.getElem?_cons_succ]
        rw [List.getElem?_append_left (by omega)]
      · refine RdR.agree _ _ _ _ _ _ (by omega) (by omega) (fun i j1 j2 => ?_) hv
        obtain ⟨i, rfl⟩ : ∃ i', i = i' + 4 := ⟨i - 4, by omega⟩
        simp only [List.cons_append, List.getElem?_cons_succ]
    · rw [List.all_append, Bool.and_eq_true]
      simp only [List.length_cons, List.length_append] at hlw hlv ⊢
      exact ⟨olow_mono (by omega) hlw, olow_mono (by omega) hlv⟩
    · simp [upd_at, e1]
    · simp [upd_at, e2]
    · simp [upd_at, e10]
  · have hlt : ¬ (j : Int) < l.length := by omega
    simp -implicitDefEqProofs [x60l8_w, x60r4_w, e10, e11, hlt]
    have hjl : j = l.length := by omega
    subst hjl
    refine hQ _ us rest ?_ ?_ (by simpa [D.vs] using hlw) (by simp [upd_at, e1]) (by simp [upd_at, e2]) rfl
    · simp [D.vs]
    · simpa [D.vs] using hr

theorem run60 : ∀ d : D, d.sz < 1099511627776 → ∀ n, 2 * d.sz + 2 ≤ n → Clones (call X E n) d := by
  refine D.ind fun k n t l ih hs m hm => ?_
  simp only [D.sz] at hs hm
  have hlen := D.len_szs l
  obtain ⟨m, rfl⟩ : ∃ m', m = m' + 1 := ⟨m - 1, by omega⟩
  intro h
  have hE : E 60 = none := rfl
  have hX : X 60 = some x60 := rfl
  have c2 : ∀ y ∈ l, Clones (call X E m) y := fun y hy => ih y hy (by have := D.mem_sz hy; omega) m (by have := D.mem_sz hy; omega)
  have c3 : l ≠ [] → ∀ h, call X E m 73 [.sl (D.vs l) .any] h = some (.row (h.length + 1) 0 l.length (some 4), h ++ [.tok 0 4, .cells (flats (D.vs l))]) := fun hne h => by
    obtain ⟨m, rfl⟩ : ∃ m', m = m' + 1 := ⟨m - 1, by omega⟩
    exact call73 (by omega) hne
  have c4 : ∀ h, call X E m 73 [.sl [] .any] h = some (.sl [] .any, h) := fun h => by
    obtain ⟨m, rfl⟩ : ∃ m', m = m' + 1 := ⟨m - 1, by omega⟩
    exact call73n
  simp only [call, hE, hX]
  have hfin : ∃ v H, (RdR H (.mk k n t l) 0 H.length v ∧ H.all (O.low H.length) = true) ∧ runF (call X E m) m x60 [(D.mk k n t l).v] h = some (v.shift h.length, h ++ H.map (O.shift h.length)) := by
    refine runF_esc (by kernel_rfl) rfl rfl (by simp [D.vw2, V.lows, D.low]) (wpk_of ?_)
    generalize call X E m = cf at *
    have hrd := D.rd (.mk k n t l)
    by_cases hne : l = []
    · subst hne
      simp -implicitDefEqProofs [x60_w, x60r1_w, x60r2_w, x60r3_w, D.vw2, D.okc, D.v, D.vs, c4]
      refine lpk_of (fun _ s => s.h = [.cells [.c (.int .i64 k), .c (.int .i64 n), .c (.string t), .sl [] .any], .cells [.c (.int .i64 0), .c (.int .i64 0), .c (.string ⟨#[]⟩), .sl [] .nil]] ∧ s.e 1 = .ref 0 0 ∧ s.e 2 = .ref 1 0 ∧ s.e 10 = .c (.int .i64 0) ∧ s.e 11 = .c (.int .i64 0) ∧ s.base = 0) 0 (by omega) ⟨rfl, by simp [upd_at], by simp [upd_at], by simp [upd_at], by simp [upd_at], rfl⟩ ?_
      rintro k2 ⟨e, hh, base, rb⟩ ⟨a1, a2, a3, a4, a5, a6⟩
      simp only at a1 a2 a3 a4 a5 a6
      subst a1 a6
      simp -implicitDefEqProofs [x60l8_w, x60r4_w, a2, a3, a4, a5, x60r9_w, x60_r]
      simp [RdR, av, olow_cells, V.low, V.lows, SI.low]
    · have hlp : 0 < l.length := List.length_pos_iff.2 hne
      simp -implicitDefEqProofs [x60_w, x60r1_w, x60r2_w, x60r3_w, D.vw2, D.okc, D.v, D.vs_len, c3 hne]
      refine lpk_of (I60 l k n t) l.length (by omega) ⟨⟨0, [], [], by simp, by simp [upd_at], ?_, by simp [RdRs], rfl⟩, by simp [upd_at], by simp [upd_at], by simp [upd_at], rfl⟩ ?_
      · simp
      · refine step60 (by omega) c2 fun s us rest hh hr hlw e1 e2 hb => ?_
        obtain ⟨e, h', base, rb⟩ := s
        simp only at hh hr hlw e1 e2 hb
        subst hh hb
        simp -implicitDefEqProofs [x60_r, x60r9_w, e1, e2]
        have hlu := lows_flats (RdRs.lows _ _ _ _ hr)
        simp only [List.length_cons] at hlw hlu
        refine ⟨?_, ?_⟩
        rotate_left
        · simp [olow_cells, V.low, V.lows, SI.low, hlu] at hlw ⊢
          exact ⟨rfl, hlw⟩
        simp only [RdR]
        refine ⟨_, rfl, .inr ⟨3, us, hne, rfl, by omega, by omega, by simp, ?_⟩⟩
        refine RdRs.agree _ _ _ _ _ _ (Nat.le_refl _) (by simp) (fun i j1 j2 => ?_) hr
        obtain ⟨i, rfl⟩ : ∃ i', i = i' + 4 := ⟨i - 4, by omega⟩
        simp only [List.getElem?_cons_succ]
  obtain ⟨v, H, ⟨hv, hlw⟩, hrun⟩ := hfin
  refine ⟨_, _, ?_, ?_, hrun⟩
  · have := RdR.shift (G := h) _ _ _ _ hv
    simpa [Nat.add_comm] using this
  · have := olow_shift (k := h.length) hlw
    simpa [Nat.add_comm] using this
end Go.Proofs.Ytbkgpdkimcnpgaa.Ab
