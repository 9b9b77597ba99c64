/- Spoil. (Variant Q alone: At and Put let their objects out, Spoil works on its caller's.) -/
import Derived.Test.YtbkgpdkimcnpgaaQd44
namespace Go.Proofs.Ytbkgpdkimcnpgaa.Ab
open Go
set_option linter.unusedVariables false
set_option linter.unusedSimpArgs false
set_option maxRecDepth 4000
set_option maxHeartbeats 1000000

/-- A datum without parts. -/
def Leaf (v : V) : Prop := ∃ a b c i, v = .agg [.c a, .c b, .c c, .sl [] i] ∧ i.low 0 = true
/-- A datum in rows that may be overwritten, all of them objects from lo to b, at most m deep. -/
def KV (H : List O) (lo b : Nat) : Nat → V → Prop
  | 0, v => Leaf v
  | m + 1, v => Leaf v ∨ ∃ x y z id us, v = .agg [.c x, .c y, .c z, .row id 0 us.length (some 4)] ∧ us ≠ [] ∧ us.length ≤ 10000 ∧ lo ≤ id ∧ id < b ∧ H[id]? = some (.cells (flats us)) ∧ ∀ u ∈ us, KV H lo b m u
theorem KV.leaf {H : List O} {lo b m : Nat} {v : V} (h : Leaf v) : KV H lo b m v := by
  cases m with
  | zero => exact h
  | succ m => exact .inl h
theorem KV.mono {H : List O} {lo b : Nat} : ∀ {m m' : Nat} {v : V}, m ≤ m' → KV H lo b m v → KV H lo b m' v
  | 0, m', v, _, h => KV.leaf h
  | m + 1, 0, v, hm, h => by omega
  | m + 1, m' + 1, v, hm, h => by
    rcases h with h | ⟨x, y, z, id, us, h1, h2, h3, h4, h5, h6, h7⟩
    · exact .inl h
    · exact .inr ⟨x, y, z, id, us, h1, h2, h3, h4, h5, h6, fun u hu => KV.mono (by omega) (h7 u hu)⟩
theorem KV.aggs {H : List O} {lo b m : Nat} {v : V} (h : KV H lo b m v) : ∃ x y z e, v = .agg [.c x, .c y, .c z, e] ∧ okc e = true ∧ e.vw1.cells.length = 1 := by
  have hl : Leaf v → ∃ x y z e, v = .agg [.c x, .c y, .c z, e] ∧ okc e = true ∧ e.vw1.cells.length = 1 := fun ⟨a, b, c, i, h, _⟩ => ⟨a, b, c, _, h, rfl, rfl⟩
  cases m with
  | zero => exact hl h
  | succ m =>
    rcases h with h | ⟨x, y, z, id, us, h1, _⟩
    · exact hl h
    · exact ⟨_, _, _, _, h1, rfl, rfl⟩
theorem KV.four {H : List O} {lo b m : Nat} {v : V} (h : KV H lo b m v) : ∃ a b c e, v = .agg [a, b, c, e] := by
  obtain ⟨x, y, z, e, h, _⟩ := h.aggs
  exact ⟨_, _, _, _, h⟩
theorem KV.vw2 {H : List O} {lo b : Nat} : ∀ {m : Nat} {v : V}, KV H lo b m v → KV H lo b m v.vw2
  | 0, v, ⟨x, y, z, i, h, hi⟩ => by subst h; exact ⟨x, y, z, .any, rfl, rfl⟩
  | m + 1, v, h => by
    rcases h with ⟨x, y, z, i, h, hi⟩ | ⟨x, y, z, id, us, h1, h2⟩
    · subst h; exact .inl ⟨x, y, z, .any, rfl, rfl⟩
    · subst h1; exact .inr ⟨x, y, z, id, us, rfl, h2⟩
theorem KV.low {H : List O} {lo b m : Nat} {v : V} (h : KV H lo b m v) : v.low b = true := by
  have hl : Leaf v → v.low b = true := by
    rintro ⟨x, y, z, i, rfl, hi⟩
    have : i.low b = true := by cases i <;> simp_all [SI.low]
    simp [V.low, V.lows, this]
  cases m with
  | zero => exact hl h
  | succ m =>
    rcases h with h | ⟨x, y, z, id, us, rfl, _, _, _, h5, _⟩
    · exact hl h
    · simp [V.low, V.lows, h5]
theorem KV.agree {H H' : List O} {lo b lo' b' : Nat} (h1 : lo' ≤ lo) (h2 : b ≤ b') (hH : ∀ i, lo ≤ i → i < b → H'[i]? = H[i]?) : ∀ {m : Nat} {v : V}, KV H lo b m v → KV H' lo' b' m v
  | 0, v, h => h
  | m + 1, v, h => by
    rcases h with h | ⟨x, y, z, id, us, a1, a2, a3, a4, a5, a6, a7⟩
    · exact .inl h
    · exact .inr ⟨x, y, z, id, us, a1, a2, a3, by omega, by omega, by rw [hH id a4 a5]; exact a6, fun u hu => KV.agree h1 h2 hH (a7 u hu)⟩
theorem flats_inj {us vs : List V} (h : flats us = flats vs) (h1 : ∀ u ∈ us, ∃ a b c e, u = .agg [a, b, c, e]) (h2 : ∀ u ∈ vs, ∃ a b c e, u = .agg [a, b, c, e]) : us = vs := by
  have f1 : (flats us).length = us.length * 4 := flats_length fun u hu => by obtain ⟨a, b, c, e, rfl⟩ := h1 u hu; rfl
  have f2 : (flats vs).length = vs.length * 4 := flats_length fun u hu => by obtain ⟨a, b, c, e, rfl⟩ := h2 u hu; rfl
  have e1 := elems4 us h1
  have e2 := elems4 vs h2
  rw [h] at f1 e1
  rw [show us.length = vs.length by omega, e2] at e1
  exact (Option.some.inj e1).symm
/-- Some elements of rows from lo to b are others now. -/
def Upd (lo b : Nat) (W : V → Prop) (H H' : List O) : Prop := ∀ id, H'[id]? = H[id]? ∨ (lo ≤ id ∧ id < b ∧ ∃ us us', H[id]? = some (.cells (flats us)) ∧ (∀ u ∈ us, ∃ a b c e, u = .agg [a, b, c, e]) ∧ us'.length = us.length ∧ H'[id]? = some (.cells (flats us')) ∧ ∀ u ∈ us', u ∈ us ∨ W u)
theorem Upd.refl (lo b : Nat) (W : V → Prop) (H : List O) : Upd lo b W H H := fun id => .inl rfl
theorem Upd.trans {lo b : Nat} {W : V → Prop} (hW : ∀ u, W u → ∃ a b c e, u = .agg [a, b, c, e]) {H H1 H2 : List O} (h1 : Upd lo b W H H1) (h2 : Upd lo b W H1 H2) : Upd lo b W H H2 := by
  intro id
  rcases h2 id with e2 | ⟨a1, a2, us1, us2, a3, a4, a5, a6, a7⟩
  · rw [e2]; exact h1 id
  · rcases h1 id with e1 | ⟨b1, b2, us, us', b3, b4, b5, b6, b7⟩
    · exact .inr ⟨a1, a2, us1, us2, by rw [← e1]; exact a3, a4, a5, a6, a7⟩
    · rw [a3] at b6
      simp only [Option.some.injEq, O.cells.injEq] at b6
      have hag : ∀ u ∈ us', ∃ a b c e, u = V.agg [a, b, c, e] := fun u hu => (b7 u hu).elim (b4 u) (hW u)
      have := flats_inj b6 a4 hag
      subst this
      exact .inr ⟨a1, a2, us, us2, b3, b4, by omega, a6, fun u hu => (a7 u hu).elim (b7 u) .inr⟩
theorem KV.upd {H H' : List O} {lo b m' : Nat} {W : V → Prop} (hU : Upd lo b W H H') (hW : ∀ u, W u → KV H' lo b m' u) : ∀ {m : Nat} {v : V}, KV H lo b m v → KV H' lo b (m + m') v
  | 0, v, h => KV.leaf h
  | m + 1, v, h => by
    rw [show m + 1 + m' = m + m' + 1 by omega]
    rcases h with h | ⟨x, y, z, id, us, a1, a2, a3, a4, a5, a6, a7⟩
    · exact .inl h
    · rcases hU id with e | ⟨b1, b2, us0, us', b3, b4, b5, b6, b7⟩
      · exact .inr ⟨x, y, z, id, us, a1, a2, a3, a4, a5, by rw [e]; exact a6, fun u hu => KV.upd hU hW (a7 u hu)⟩
      · rw [a6] at b3
        simp only [Option.some.injEq, O.cells.injEq] at b3
        have := flats_inj b3 (fun u hu => (a7 u hu).four) b4
        subst this
        refine .inr ⟨x, y, z, id, us', by rw [b5]; exact a1, ?_, by omega, a4, a5, b6, fun u hu => ?_⟩
        · intro h
          rw [h] at b5
          exact a2 (List.length_eq_zero_iff.1 b5.symm)
        · rcases b7 u hu with h | h
          · exact KV.upd hU hW (a7 u h)
          · exact KV.mono (by omega) (hW u h)
theorem Upd.set {H : List O} {lo b id j : Nat} {W : V → Prop} {us : List V} {w : V} (h1 : lo ≤ id) (h2 : id < b) (hH : H[id]? = some (.cells (flats us))) (hu : ∀ u ∈ us, ∃ a b c e, u = .agg [a, b, c, e]) (hj : j < us.length) (hw : W w) :
    Upd lo b W H (H.set id (.cells (flats (us.set j w)))) := by
  have hlt : id < H.length := (List.getElem?_eq_some_iff.1 hH).1
  intro i
  by_cases hi : i = id
  · subst hi
    refine .inr ⟨h1, h2, us, us.set j w, hH, hu, by simp, by rw [List.getElem?_set_self hlt], fun u hu => ?_⟩
    rcases List.mem_or_eq_of_mem_set hu with h | rfl
    · exact .inl h
    · exact .inr hw
  · exact .inl (by rw [List.getElem?_set_ne (Ne.symm hi)])
theorem Upd.low {H H' : List O} {lo b n : Nat} {W : V → Prop} (hU : Upd lo b W H H') (hl : H'.length = H.length) (hW : ∀ u, W u → V.low n u = true) (hH : H.all (O.low n) = true) : H'.all (O.low n) = true := by
  rw [List.all_eq_true] at hH ⊢
  intro o ho
  obtain ⟨i, hi, rfl⟩ := List.getElem_of_mem ho
  rcases hU i with e | ⟨_, _, us, us', a3, a4, a5, a6, a7⟩
  · rw [List.getElem?_eq_getElem hi, List.getElem?_eq_getElem (by omega)] at e
    rw [Option.some.inj e]
    exact hH _ (List.getElem_mem _)
  · rw [List.getElem?_eq_getElem hi] at a6
    rw [Option.some.inj a6, olow_cells]
    refine lows_flats (lows_of fun u hu => ?_)
    rcases a7 u hu with h | h
    · have hj : i < H.length := by omega
      rw [List.getElem?_eq_getElem hj] at a3
      have := hH _ (List.getElem_mem hj)
      rw [Option.some.inj a3, olow_cells] at this
      obtain ⟨a, b, c, e, rfl⟩ := a4 u h
      simp only [V.low]
      refine lows_of fun c hc => lows_mem this c ?_
      exact List.mem_flatMap.2 ⟨_, h, hc⟩
    · exact hW u h
theorem Leaf.four {v : V} (h : Leaf v) : ∃ a b c e, v = .agg [a, b, c, e] := by obtain ⟨a, b, c, i, rfl, _⟩ := h; exact ⟨_, _, _, _, rfl⟩
theorem Leaf.low {v : V} (n : Nat) (h : Leaf v) : V.low n v = true := by
  obtain ⟨a, b, c, i, rfl, hi⟩ := h
  have : i.low n = true := by cases i <;> simp_all [SI.low]
  simp [V.low, V.lows, this]

def Spoils (cf : CallF) (H : List O) (lo b : Nat) (v : V) : Prop := ∃ H', cf 37 [v] H = some (.tup [], H') ∧ H'.length = H.length ∧ Upd lo b Leaf H H'
structure I37 (H : List O) (lo b d : Nat) (x y z : Value) (id ln : Nat) (m : Nat) (s : SF) : Prop where
  j : ∃ j : Nat, j + m = ln ∧ s.e 2 = .c (.int .i64 j)
  e1 : s.e 1 = .ref H.length 0
  box : s.h[H.length]? = some (.cells [.c x, .c y, .c z, .row id 0 ln (some 4)])
  len : s.h.length = H.length + 1
  upd : Upd lo b Leaf (H ++ [.cells [.c x, .c y, .c z, .row id 0 ln (some 4)]]) s.h
  b : s.base = H.length
theorem step37 {cf : CallF} {fu : Nat} {H : List O} {lo b d : Nat} {x y z : Value} {us0 : List V} {id : Nat} (hb0 : b ≤ H.length) (hid : lo ≤ id ∧ id < b) (hl : us0.length ≤ 10000) (hH0 : H[id]? = some (.cells (flats us0))) (hk0 : ∀ u ∈ us0, KV H lo b d u) (hlow : H.all (O.low H.length) = true)
    (hc : ∀ G u, KV G lo b d u → b ≤ G.length → G.all (O.low G.length) = true → Spoils cf G lo b u) {Q : Ex → SF → Prop}
    (hQ : ∀ s, s.h.length = H.length + 1 → Upd lo b Leaf (H ++ [.cells [.c x, .c y, .c z, .row id 0 us0.length (some 4)]]) s.h → s.base = H.length → Q (.exit 0) s) (m : Nat) (s : SF) (I : I37 H lo b d x y z id us0.length m s) :
    wpk cf fu x37l7 [] (fun e s' => match e with | .normal => ∃ k1, k1 < m ∧ I37 H lo b d x y z id us0.length k1 s' | e => Q e s') s := by
  obtain ⟨⟨j, hj, e2⟩, e1, hbox, hlen, hupd, hb⟩ := I
  obtain ⟨e, G, base, rb⟩ := s
  simp only at e1 e2 hbox hlen hupd hb
  subst hb
  by_cases hm : j < us0.length
  · have hlt : (j : Int) < us0.length := by omega
    have hHb : ∀ i, i < b → (H ++ [O.cells [.c x, .c y, .c z, .row id 0 us0.length (some 4)]])[i]? = H[i]? := fun i hi => by rw [List.getElem?_append_left (by omega)]
    have hkb : ∀ u ∈ us0, KV (H ++ [O.cells [.c x, .c y, .c z, .row id 0 us0.length (some 4)]]) lo b d u := fun u hu => KV.agree (Nat.le_refl _) (Nat.le_refl _) (fun i _ h2 => hHb i h2) (hk0 u hu)
    have hbl : (H ++ [O.cells [.c x, .c y, .c z, .row id 0 us0.length (some 4)]]).all (O.low (H.length + 1)) = true := by
      rw [List.all_append, olow_mono (Nat.le_succ _) hlow]
      simp [olow_cells, V.low, V.lows]
      omega
    -- the row as it is now
    have row : ∀ G : List O, Upd lo b Leaf (H ++ [O.cells [.c x, .c y, .c z, .row id 0 us0.length (some 4)]]) G → ∃ us, us.length = us0.length ∧ G[id]? = some (.cells (flats us)) ∧ ∀ u ∈ us, KV G lo b d u := by
      intro G hu
      rcases hu id with e | ⟨_, _, us, us', a3, a4, a5, a6, a7⟩
      · exact ⟨us0, rfl, by rw [e, hHb id hid.2]; exact hH0, fun u hu' => KV.upd (m' := 0) hu (fun u h => h) (hkb u hu')⟩
      · rw [hHb id hid.2, hH0] at a3
        simp only [Option.some.injEq, O.cells.injEq] at a3
        have := flats_inj a3 (fun u hu => (hk0 u hu).four) a4
        subst this
        refine ⟨us', a5, a6, fun u hu' => ?_⟩
        rcases a7 u hu' with h | h
        · exact KV.upd (m' := 0) hu (fun u h => h) (hkb u h)
        · exact KV.leaf h
    obtain ⟨us, hus, hrow, hku⟩ := row G hupd
    have hagg : ∀ u ∈ us, ∃ a b c e, u = V.agg [a, b, c, e] := fun u hu => (hku u hu).four
    have hrd := rd_flat hagg (by omega : j < us.length)
    have hGl : G.all (O.low G.length) = true := by
      rw [hlen]
      exact hupd.low (by simp [hlen]) (fun u hu => hu.low _) hbl
    obtain ⟨G2, hcall, hlen2, hupd2⟩ := hc G us[j] (hku _ (List.getElem_mem _)) (by omega) hGl
    have hle2 : G.length ≤ G2.length := by omega
    have hU2 := hupd.trans (fun u => Leaf.four) hupd2
    obtain ⟨us2, hus2, hrow2, hku2⟩ := row G2 hU2
    have hagg2 : ∀ u ∈ us2, ∃ a b c e, u = V.agg [a, b, c, e] := fun u hu => (hku2 u hu).four
    have h42 : ∀ u ∈ us2, u.cells.length = 4 := fun u hu => by obtain ⟨a, b, c, e, rfl⟩ := hagg2 u hu; rfl
    have hbox2 : G2[H.length]? = some (.cells [.c x, .c y, .c z, .row id 0 us0.length (some 4)]) := by
      rcases hupd2 H.length with e | ⟨_, h, _⟩
      · rw [e]; exact hbox
      · omega
    have hsp := splice_flat h42 (by omega : j < us2.length) (v := .agg [.c (.int .i64 77), .c (.int .i64 0), .c (.string ⟨#[]⟩), .sl [] .nil]) rfl
    unfold splice at hsp
    simp only [V.cells, List.length_cons, List.length_nil] at hsp
    have hfl := flats_length h42
    have hfl' : j * 4 + 4 ≤ (flats us2).length := by omega
    have hset := Upd.set (W := Leaf) hid.1 hid.2 hrow2 hagg2 (by omega : j < us2.length) (w := .agg [.c (.int .i64 77), .c (.int .i64 0), .c (.string ⟨#[]⟩), .sl [] .nil]) ⟨_, _, _, _, rfl, rfl⟩
    rw [← hsp] at hset
    simp -implicitDefEqProofs [x37l7_w, x37r3_w, x37r4_w, x37r5_w, x37r6_w, e1, e2, hbox, hrow, hrd, hcall, hle2, hbox2, hrow2, hlt, hfl']
    refine ⟨m - 1, by omega, ⟨⟨j + 1, by omega, ?_⟩, by simp [upd_at, e1], ?_, by simp [hlen2, hlen], ?_, rfl⟩⟩
    · simp only [upd_at]
      simp
      rw [wrap_in (by omega)]
    · show (G2.set id _)[H.length]? = _
      rw [List.getElem?_set_ne (by omega)]
      exact hbox2
    · exact hU2.trans (fun u => Leaf.four) hset
  · have hlt : ¬ (j : Int) < us0.length := by omega
    simp -implicitDefEqProofs [x37l7_w, x37r3_w, e1, e2, hbox, hlt]
    exact hQ _ hlen hupd rfl

/-- A function that works on the objects of its caller; what they are then is found on the way. -/
theorem runF_atE {cf : CallF} {n : Nat} {xf : XF} {args : List V} {h : List O} {P : V → List O → Prop} (hx : xfOk xf args.length = true) (hp : xf.pure = false) (he : xf.esc = false)
    (hw : wpx cf n xf.body ⟨arg0 (args.map V.vw2), h, h.length, 0⟩ (Fin (fun vs s => (resOf vs).vw.low h.length = true ∧ (s.take h.length).all (O.low h.length) = true ∧ P (resOf vs).vw (s.take h.length)) xf)) : ∃ r h', runF cf n xf args h = some (r, h') ∧ P r h' := by
  have := exec_of (cf := cf) (n := n) (xf := xf) (args := args.map V.vw2) (h := h) (by simpa using hx) hw
  obtain ⟨e, s, vs, h1, h2, h3, h4, h5, h6, h7⟩ := this
  refine ⟨_, _, ?_, h7⟩
  unfold runF
  rw [if_neg (by simp [hp]), h1]
  cases e with
  | exit id => exact absurd rfl (h2 id)
  | normal =>
    simp only [fin, h3, he, Bool.false_eq_true, if_false, h4, h5, if_true]
    rw [if_pos h6]
  | ret =>
    simp only [fin, h3, he, Bool.false_eq_true, if_false, h4, h5, if_true]
    rw [if_pos h6]
theorem spoil_leaf {H : List O} {lo b n : Nat} {v : V} (hk : Leaf v) (hl : H.all (O.low H.length) = true) (hn : 1 ≤ n) : Spoils (call X E (n + 1)) H lo b v := by
  obtain ⟨x, y, z, i, rfl, hi⟩ := hk
  refine ⟨H, ?_, rfl, Upd.refl _ _ _ _⟩
  have hE : E 37 = none := rfl
  have hX : X 37 = some x37 := rfl
  simp only [call, hE, hX]
  generalize call X E n = cf at *
  refine runF_at (by kernel_rfl) rfl rfl (wpk_of ?_)
  simp -implicitDefEqProofs [x37_w, x37r1_w, x37r2_w, set_last]
  refine lpk_of (fun _ s => s.h = H ++ [.cells [.c x, .c y, .c z, .sl [] .any]] ∧ s.e 1 = .ref H.length 0 ∧ s.e 2 = .c (.int .i64 0) ∧ s.base = H.length) 0 (by omega) ⟨rfl, by simp [upd_at], by simp [upd_at], rfl⟩ ?_
  rintro k2 ⟨e, hh, base, rb⟩ ⟨a1, a2, a3, a4⟩
  simp only at a1 a2 a3 a4
  subst a1 a4
  simp -implicitDefEqProofs [x37l7_w, x37r3_w, a2, a3, get_last, x37_r, V.low, V.lows]
  exact ⟨rfl, by simpa using hl⟩
theorem run37 : ∀ (m lo b : Nat) (H : List O) (v : V) (n : Nat), KV H lo b m v → b ≤ H.length → H.all (O.low H.length) = true → 10003 + m ≤ n → Spoils (call X E n) H lo b v := by
  intro m
  induction m with
  | zero =>
    intro lo b H v n hk hb hl hn
    obtain ⟨n, rfl⟩ : ∃ n', n = n' + 1 := ⟨n - 1, by omega⟩
    exact spoil_leaf hk hl (by omega)
  | succ m ih =>
    intro lo b H v n hk hb hl hn
    obtain ⟨n, rfl⟩ : ∃ n', n = n' + 1 := ⟨n - 1, by omega⟩
    rcases hk with hk | ⟨x, y, z, id, us, rfl, hne, hle, h4, h5, hH, hku⟩
    · exact spoil_leaf hk hl (by omega)
    · have hc : ∀ G u, KV G lo b m u → b ≤ G.length → G.all (O.low G.length) = true → Spoils (call X E n) G lo b u := fun G u a1 a2 a3 => ih lo b G u n a1 a2 a3 (by omega)
      have hE : E 37 = none := rfl
      have hX : X 37 = some x37 := rfl
      have key : ∃ r H', runF (call X E n) n x37 [.agg [.c x, .c y, .c z, .row id 0 us.length (some 4)]] H = some (r, H') ∧ r = .tup [] ∧ H'.length = H.length ∧ Upd lo b Leaf H H' := by
        generalize call X E n = cf at *
        refine runF_atE (P := fun r H' => r = .tup [] ∧ H'.length = H.length ∧ Upd lo b Leaf H H') (by kernel_rfl) rfl rfl (wpk_of ?_)
        simp -implicitDefEqProofs [x37_w, x37r1_w, x37r2_w, set_last]
        refine lpk_of (I37 H lo b m x y z id us.length) us.length (by omega) ⟨⟨0, by simp, by simp [upd_at]⟩, by simp [upd_at], by simp, by simp, Upd.refl _ _ _ _, rfl⟩ ?_
        refine step37 hb ⟨h4, h5⟩ hle hH hku hl hc fun s hs hu hbs => ?_
        obtain ⟨e, G, base, rb⟩ := s
        simp only at hs hu hbs
        subst hbs
        have hU : Upd lo b Leaf H (G.take H.length) := by
          intro i
          by_cases hi : i < H.length
          · have e1 : (G.take H.length)[i]? = G[i]? := List.getElem?_take_of_lt hi
            have e2 : (H ++ [O.cells [.c x, .c y, .c z, .row id 0 us.length (some 4)]])[i]? = H[i]? := List.getElem?_append_left hi
            have := hu i
            rw [e2] at this
            rw [e1]
            exact this
          · refine .inl ?_
            rw [List.getElem?_eq_none (by simp; omega), List.getElem?_eq_none (by omega)]
        have hlen : (G.take H.length).length = H.length := by simp; omega
        have hlow := hU.low hlen (fun u h => h.low H.length) hl
        simp -implicitDefEqProofs [x37_r, V.low, V.lows]
        exact ⟨rfl, by simpa using hlow, rfl, by omega, hU⟩
      obtain ⟨r, H', k1, rfl, k2⟩ := key
      exact ⟨H', by simp only [call, hE, hX]; exact k1, k2⟩
end Go.Proofs.Ytbkgpdkimcnpgaa.Ab
