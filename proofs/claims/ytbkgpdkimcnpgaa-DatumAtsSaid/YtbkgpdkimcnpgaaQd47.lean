/- The law of DatumAts. (Variant Q.) -/
import Derived.Test.YtbkgpdkimcnpgaaQd46
namespace Go.Proofs.Ytbkgpdkimcnpgaa.Ab
open Go
set_option linter.unusedVariables false
set_option linter.unusedSimpArgs false
set_option maxRecDepth 4000
set_option maxHeartbeats 1000000

theorem guardF_u {cf : CallF} {s : SF} (b : Bool) (op : XOp) : guardF cf undefV b op s = some (undefV, s.h) := rfl
/-- What is known at a point of the code. -/
theorem cut_st {cf : CallF} {n : Nat} {c : XC} {K : List Fr} {Q : Ex → SF → Prop} {e : Nat → V} {h : List O} {rb : Nat} (P : (Nat → V) → List O → Prop) (h0 : P e h) (hr : ∀ e h rb, P e h → wpk cf n c K Q ⟨e, h, 0, rb⟩) : wpk cf n c K Q ⟨e, h, 0, rb⟩ := hr e h rb h0
theorem call_rows3 {n f : Nat} {xf : XF} {d d' : D} {v w r : V} {H : List O} (hE : E f = none) (hX : X f = some xf) (hp : xf.pure = true ∧ xf.esc = false) (hg : Gives (n + 1) f [d.v, d'.v] r) (hr : r.flat = true) (hv : Rd H d v) (hn : d.dp ≤ n) (hn' : d'.dp ≤ n) (hw : w.vw2 = d'.v) : call X E (n + 1) f [v, w] H = some (r, H) := by
  have := call_rows2 hE hX hp hg hr hv hn hn'
  simp only [call, hE, hX] at this ⊢
  unfold runF at this ⊢
  simp only [List.map_cons, List.map_nil, hw, D.vw2] at this ⊢
  exact this

mutual
/-- What is read stays while the rows stay. -/
theorem Rd.keep {H H' : List O} {lo b : Nat} (hH : ∀ i, lo ≤ i → i < b → H'[i]? = H[i]?) : ∀ (d : D) (m : Nat) (v : V), Rd H d v → KV H lo b m v → Rd H' d v
  | .mk k n t l, m, v, h, hk => by
    simp only [Rd] at h ⊢
    obtain ⟨x, us, rfl, hx, hu⟩ := h
    rcases hx with rfl | ⟨hne, id, rfl, hid⟩
    · have hus : us = [] := by
        cases m with
        | zero =>
          obtain ⟨a, b, c, i, h, _⟩ := hk
          simp only [av, V.agg.injEq, List.cons.injEq, V.sl.injEq, and_true] at h
          exact h.2.2.2.1
        | succ m =>
          rcases hk with ⟨a, b, c, i, h, _⟩ | ⟨x, y, z, id, us', h, _⟩
          · simp only [av, V.agg.injEq, List.cons.injEq, V.sl.injEq, and_true] at h
            exact h.2.2.2.1
          · simp [av] at h
      subst hus
      exact ⟨_, [], rfl, .inl rfl, Rds.keep hH l m [] hu (fun u hu => by simp at hu)⟩
    · cases m with
      | zero =>
        obtain ⟨a, b, c, i, h, _⟩ := hk
        simp [av] at h
      | succ m =>
        rcases hk with ⟨a, b, c, i, h, _⟩ | ⟨x, y, z, id', us', h, a2, a3, a4, a5, a6, a7⟩
        · simp [av] at h
        · simp only [av, V.agg.injEq, List.cons.injEq, V.row.injEq, and_true] at h
          obtain ⟨_, _, _, rfl, _, hln⟩ := h
          rw [hid] at a6
          simp only [Option.some.injEq, O.cells.injEq] at a6
          have := flats_inj a6 (Rds.aggs l us hu) (fun u hu => (a7 u hu).four)
          subst this
          exact ⟨_, us, rfl, .inr ⟨hne, id, rfl, by rw [hH id a4 a5]; exact hid⟩, Rds.keep hH l m us hu a7⟩
theorem Rds.keep {H H' : List O} {lo b : Nat} (hH : ∀ i, lo ≤ i → i < b → H'[i]? = H[i]?) : ∀ (l : List D) (m : Nat) (us : List V), Rds H l us → (∀ u ∈ us, KV H lo b m u) → Rds H' l us
  | [], m, us, h, hk => by simp only [Rds] at h ⊢; exact h
  | d :: l, m, us, h, hk => by
    simp only [Rds] at h ⊢
    obtain ⟨u, us', rfl, h1, h2⟩ := h
    exact ⟨u, us', rfl, Rd.keep hH d m u h1 (hk u (by simp)), Rds.keep hH l m us' h2 fun w hw => hk w (by simp [hw])⟩
end
structure P4 (d1 d2 a y du : D) (q p : List Int) (eu : Int) (uV : V) (e : Nat → V) (h : List O) : Prop where
  e1 : e 1 = pv q
  e3 : e 3 = .ref 0 0
  e5 : e 5 = .ref 1 0
  e7 : e 7 = .ref 2 0
  e8 : e 8 = pv p
  e9 : e 9 = .ref 3 0
  e10 : e 10 = .ref 4 0
  e11 : e 11 = .c (.int .i64 eu)
  h0 : h[0]? = some (.cells d1.v.cells)
  h1 : h[1]? = some (.cells d2.v.cells)
  h2 : h[2]? = some (.cells a.v.cells)
  h3 : h[3]? = some (.cells y.v.cells)
  h4 : h[4]? = some (.cells uV.cells)
  ru : Rd h du uV
  ku : KV h 5 h.length 3000 uV
  low : h.all (O.low h.length) = true
structure P5 (d1 d2 a y du dv : D) (q p : List Int) (eu ev : Int) (uV vV : V) (iv : Nat) (e : Nat → V) (h : List O) : Prop where
  e1 : e 1 = pv q
  e3 : e 3 = .ref 0 0
  e5 : e 5 = .ref 1 0
  e7 : e 7 = .ref 2 0
  e8 : e 8 = pv p
  e9 : e 9 = .ref 3 0
  e10 : e 10 = .ref 4 0
  e11 : e 11 = .c (.int .i64 eu)
  e12 : e 12 = .ref iv 0
  e13 : e 13 = .c (.int .i64 ev)
  h0 : h[0]? = some (.cells d1.v.cells)
  h1 : h[1]? = some (.cells d2.v.cells)
  h2 : h[2]? = some (.cells a.v.cells)
  h3 : h[3]? = some (.cells y.v.cells)
  h4 : h[4]? = some (.cells uV.cells)
  hv : h[iv]? = some (.cells vV.cells)
  hiv : 5 ≤ iv
  ru : Rd h du uV
  ku : KV h 5 iv 3000 uV
  rv : Rd h dv vV
  kv : KV h (iv + 1) h.length 3000 vV
  low : h.all (O.low h.length) = true
structure P6 (d1 d2 a y du dv want : D) (q p : List Int) (eu ev : Int) (is : Bool) (uV vV : V) (iv iw : Nat) (e : Nat → V) (h : List O) : Prop where
  P : P5 d1 d2 a y du dv q p eu ev uV vV iv e h
  e14 : e 14 = .ref iw 0
  e15 : e 15 = .c (.bool is)
  hw : h[iw]? = some (.cells want.v.cells)

/-- The first steps. -/
theorem first8 {n : Nat} {cf : CallF} {d1 d2 a y du dv want : D} {q p : List Int} {eu ev : Int} {is : Bool} {R : Ex → SF → Prop}
    (c1 : ∀ h, cf 14 [d1.v] h = some (a.v, h)) (c2 : ∀ h, cf 14 [d2.v] h = some (y.v, h)) (c3 : ∀ h, cf 32 [pv q] h = some (pv p, h))
    (cA : ∀ h : List O, ∃ v H, cf 33 [a.v, pv p] h = some (.tup [v, .c (.int .i64 eu)], h ++ H) ∧ OwnAt du h H v)
    (cP : ∀ h : List O, ∃ v H, cf 34 [a.v, pv p, y.v] h = some (.tup [v, .c (.int .i64 ev)], h ++ H) ∧ OwnAt dv h H v)
    (cR : ∀ h, cf 35 [a.v, pv p] h = some (.tup [want.v, .c (.bool is)], h))
    (hr : ∀ uV vV iv iw e h rb, P6 d1 d2 a y du dv want q p eu ev is uV vV iv iw e h → wpk cf n (.seq (.seq x8r6 (.seq x8r7 (.cond (.t 47) (.seq x8r8 .ret) .skip))) (.seq x8r9 (.seq (.seq x8r10 (.cond (.t 76) x8r11 .skip)) (.seq (.seq x8r12 (.cond (.t 85) (.seq x8r13 .ret) .skip)) (.seq x8r14 (.seq (.seq x8r15 (.cond (.t 93) x8r16 .skip)) (.seq (.seq x8r17 (.cond (.t 95) x8r18 .skip)) (.seq (.seq x8r19 (.cond (.t 102) (.seq x8r20 .ret) .skip)) (.seq (.seq x8r21 (.cond (.t 124) (.seq x8r22 .ret) .skip)) (.seq x8r23 (.seq x8r24 (.seq x8r25 .ret)))))))))))) [] R ⟨e, h, 0, rb⟩) :
    wpk cf n x8.body [] R ⟨arg0 [d1.v, pv q, d2.v], [], 0, 0⟩ := by
  obtain ⟨uV, Hu, hcu, hou⟩ := cA [.cells d1.v.cells, .cells d2.v.cells, .cells a.v.cells, .cells y.v.cells, .cells [.c (.int .i64 0), .c (.int .i64 0), .c (.string ⟨#[]⟩), .sl [] .nil]]
  obtain ⟨o1, o2, o3⟩ := hou
  have u4 := o1.len4
  have uo := o1.okc
  simp only [List.cons_append, List.nil_append] at hcu
  simp -implicitDefEqProofs [x8_w, x8r1_w, x8r2_w, x8r3_w, D.okc, D.rd, D.cells_len, D.spl, pv_vw2, c1, c2, c3, hcu, u4, uo]
  refine cut_st (P4 d1 d2 a y du q p eu uV) ⟨by simp [upd_at, arg0], by simp [upd_at], by simp [upd_at], by simp [upd_at], by simp [upd_at], by simp [upd_at], by simp [upd_at], by simp [upd_at], rfl, rfl, rfl, rfl, rfl, ?_, ?_, ?_⟩ ?_
  · exact Rd.keep (lo := 5) (fun i j1 j2 => by
      obtain ⟨i, rfl⟩ : ∃ i', i = i' + 5 := ⟨i - 5, by omega⟩
      simp) _ _ _ o1 o2
  · refine KV.agree (Nat.le_refl _) (by simp) (fun i j1 j2 => ?_) o2
    obtain ⟨i, rfl⟩ : ∃ i', i = i' + 5 := ⟨i - 5, by omega⟩
    simp
  · have hl := lows_of (n := Hu.length + 1 + 1 + 1 + 1 + 1) fun w hw => low_cells (by simpa [Nat.add_comm, Nat.add_left_comm] using o2.low : V.low (Hu.length + 1 + 1 + 1 + 1 + 1) uV = true) w hw
    have hh : Hu.all (O.low (Hu.length + 1 + 1 + 1 + 1 + 1)) = true := by simpa [Nat.add_comm, Nat.add_left_comm] using o3
    simp only [List.all_cons, List.length_cons, olow_cells, D.low_cells, hl, hh, Bool.true_and]
  rintro e h rb ⟨e1, e3, e5, e7, e8, e9, e10, e11, h0, h1, h2, h3, h4, ru, ku, low⟩
  have hge : 5 ≤ h.length := by have := (List.getElem?_eq_some_iff.1 h4).1; omega
  obtain ⟨vV, Hv, hcv, hov⟩ := cP (h ++ [.cells [.c (.int .i64 0), .c (.int .i64 0), .c (.string ⟨#[]⟩), .sl [] .nil]])
  obtain ⟨w1, w2, w3⟩ := hov
  have v4 := w1.len4
  have vo := w1.okc
  have ap : ∀ z : O, ∀ i, i < h.length → (h ++ [z])[i]? = h[i]? := fun z i hi => List.getElem?_append_left hi
  have b0 := fun z => (ap z 0 (by omega)).trans h0
  have b1 := fun z => (ap z 1 (by omega)).trans h1
  have b2 := fun z => (ap z 2 (by omega)).trans h2
  have b3 := fun z => (ap z 3 (by omega)).trans h3
  have b4 := fun z => (ap z 4 (by omega)).trans h4
  have aq : ∀ i, i < h.length + 1 → ((h ++ [O.cells [.c (.int .i64 0), .c (.int .i64 0), .c (.string ⟨#[]⟩), .sl [] .nil]]) ++ Hv)[i]? = (h ++ [O.cells [.c (.int .i64 0), .c (.int .i64 0), .c (.string ⟨#[]⟩), .sl [] .nil]])[i]? := fun i hi => List.getElem?_append_left (by simpa using hi)
  have gz : ((h ++ [O.cells [.c (.int .i64 0), .c (.int .i64 0), .c (.string ⟨#[]⟩), .sl [] .nil]]) ++ Hv)[h.length]? = some (.cells [.c (.int .i64 0), .c (.int .i64 0), .c (.string ⟨#[]⟩), .sl [] .nil]) := (aq _ (by omega)).trans (get_last _ _)
  have gl : ((h ++ [O.cells [.c (.int .i64 0), .c (.int .i64 0), .c (.string ⟨#[]⟩), .sl [] .nil]]) ++ Hv).length = h.length + 1 + Hv.length := by simp; omega
  have glow : ((h ++ [O.cells [.c (.int .i64 0), .c (.int .i64 0), .c (.string ⟨#[]⟩), .sl [] .nil]]) ++ Hv).all (O.low ((h ++ [O.cells [.c (.int .i64 0), .c (.int .i64 0), .c (.string ⟨#[]⟩), .sl [] .nil]]) ++ Hv).length) = true := by
    rw [List.all_append, w3, List.all_append, olow_mono (by rw [gl]; omega) low]
    simp [olow_cells, V.low, V.lows, SI.low]
  have hh1 : (h ++ [O.cells [.c (.int .i64 0), .c (.int .i64 0), .c (.string ⟨#[]⟩), .sl [] .nil]]).length = h.length + 1 := by simp
  rw [hh1] at w2
  have hle : h.length + 1 ≤ ((h ++ [O.cells [.c (.int .i64 0), .c (.int .i64 0), .c (.string ⟨#[]⟩), .sl [] .nil]]) ++ Hv).length := by omega
  have gi : ∀ i, i < h.length → ((h ++ [O.cells [.c (.int .i64 0), .c (.int .i64 0), .c (.string ⟨#[]⟩), .sl [] .nil]]) ++ Hv)[i]? = h[i]? := fun i hi => (aq i (by omega)).trans (ap _ i hi)
  generalize hG : (h ++ [O.cells [.c (.int .i64 0), .c (.int .i64 0), .c (.string ⟨#[]⟩), .sl [] .nil]]) ++ Hv = G at *
  simp -implicitDefEqProofs [x8r4_w, D.okc, D.rd, D.cells_len, D.spl, e7, e8, e9, b2, b3, hcv, gz, v4, vo, hle]
  have fs : (G.set h.length (.cells vV.cells))[h.length]? = some (.cells vV.cells) := by rw [List.getElem?_set_self (by omega)]
  have fn : ∀ i, i ≠ h.length → (G.set h.length (.cells vV.cells))[i]? = G[i]? := fun i hi => by rw [List.getElem?_set_ne (Ne.symm hi)]
  refine cut_st (P5 d1 d2 a y du dv q p eu ev uV vV h.length) ⟨by simp [upd_at, e1], by simp [upd_at, e3], by simp [upd_at, e5], by simp [upd_at, e7], by simp [upd_at, e8], by simp [upd_at, e9], by simp [upd_at, e10], by simp [upd_at, e11], by simp [upd_at], by simp [upd_at],
    (fn 0 (by omega)).trans ((gi 0 (by omega)).trans h0), (fn 1 (by omega)).trans ((gi 1 (by omega)).trans h1), (fn 2 (by omega)).trans ((gi 2 (by omega)).trans h2), (fn 3 (by omega)).trans ((gi 3 (by omega)).trans h3), (fn 4 (by omega)).trans ((gi 4 (by omega)).trans h4), fs, hge, ?_, ?_, ?_, ?_, ?_⟩ ?_
  · exact Rd.keep (fun i j1 j2 => (fn i (by omega)).trans (gi i j2)) _ _ _ ru ku
  · exact KV.agree (Nat.le_refl _) (Nat.le_refl _) (fun i j1 j2 => (fn i (by omega)).trans (gi i j2)) ku
  · exact Rd.keep (fun i j1 j2 => fn i (by omega)) _ _ _ w1 w2
  · rw [List.length_set]
    exact KV.agree (Nat.le_refl _) (Nat.le_refl _) (fun i j1 j2 => fn i (by omega)) w2
  · rw [List.length_set]
    exact olow_set glow (lows_of fun w hw => low_cells w2.low w hw)
  clear hcv w1 w2 w3 hG gz gl glow hh1 hle gi fs fn aq b0 b1 b2 b3 b4 ap G ru ku low h0 h1 h2 h3 h4 e1 e3 e5 e7 e8 e9 e10 e11
  generalize h.length = iv at *
  rintro e h rb ⟨e1, e3, e5, e7, e8, e9, e10, e11, e12, e13, h0, h1, h2, h3, h4, hv, hiv, ru, ku, rv, kv, low⟩
  have hiv' : iv < h.length := (List.getElem?_eq_some_iff.1 hv).1
  have ap : ∀ z : O, ∀ i, i < h.length → (h ++ [z])[i]? = h[i]? := fun z i hi => List.getElem?_append_left hi
  have b2 := fun z => (ap z 2 (by omega)).trans h2
  simp -implicitDefEqProofs [x8r5_w, D.okc, D.rd, D.cells_len, D.spl, e7, e8, b2, cR, get_last, set_last]
  refine hr uV vV iv h.length _ _ _ ⟨⟨by simp [upd_at, e1], by simp [upd_at, e3], by simp [upd_at, e5], by simp [upd_at, e7], by simp [upd_at, e8], by simp [upd_at, e9], by simp [upd_at, e10], by simp [upd_at, e11], by simp [upd_at, e12], by simp [upd_at, e13],
    (ap _ 0 (by omega)).trans h0, (ap _ 1 (by omega)).trans h1, (ap _ 2 (by omega)).trans h2, (ap _ 3 (by omega)).trans h3, (ap _ 4 (by omega)).trans h4, (ap _ iv (by omega)).trans hv, hiv, ?_, ?_, ?_, ?_, ?_⟩, by simp [upd_at], by simp [upd_at], get_last _ _⟩
  · exact Rd.keep (fun i j1 j2 => ap _ i (by omega)) _ _ _ ru ku
  · exact KV.agree (Nat.le_refl _) (Nat.le_refl _) (fun i j1 j2 => ap _ i (by omega)) ku
  · exact Rd.keep (fun i j1 j2 => ap _ i (by omega)) _ _ _ rv kv
  · exact KV.agree (Nat.le_refl _) (by simp) (fun i j1 j2 => ap _ i (by omega)) kv
  · rw [List.all_append, olow_mono (by simp) low]
    simp [olow_cells, D.low_cells]

theorem D.zero_sz : D.zero.sz = 1 := rfl
theorem D.zero_vw : (V.agg [.c (.int .i64 0), .c (.int .i64 0), .c (.string ⟨#[]⟩), .sl [] .nil]).vw2 = D.zero.v := rfl
theorem D.ck_put {p : List Int} {a y u : D} (hu : D.at p a = some u) (h0 : a.ck = 0) (h1 : y.ck = 0) (h2 : (D.put p a y).ck ≠ 0) : (D.put p a y).ck = 3 := by
  have hf := D.put_fm ((D.ck_zero y).1 h1).1 p a u hu ((D.ck_zero a).1 h0).1
  unfold D.ck at h2 ⊢
  rw [hf] at h2 ⊢
  simp only [Bool.true_eq_false, if_false] at h2 ⊢
  split at h2
  · rename_i hc
    rw [if_pos hc]
  · exact absurd rfl h2
theorem law8 (d1 : D) (q : List Int) (d2 : D) : call X E 40000 8 [d1.v, pv q, d2.v] [] = some (.c (.bool true), []) := by
  have hs1 := D.cut_small d1 3000 1020 (by omega)
  have hs2 := D.cut_small d2 3000 1020 (by omega)
  have c1 : ∀ h, call X E 39999 14 [d1.v] h = some ((d1.cut 3000 1020).1.v, h) := run14 d1 39998 (by omega)
  have c2 : ∀ h, call X E 39999 14 [d2.v] h = some ((d2.cut 3000 1020).1.v, h) := run14 d2 39998 (by omega)
  have c3 : ∀ h, call X E 39999 32 [pv q] h = some (pv (q.take (min q.length 500)), h) := run32 (n := 39998)
  have hp : (q.take (min q.length 500)).length ≤ 500 := by simp; omega
  generalize (d1.cut 3000 1020).1 = a at *
  generalize (d2.cut 3000 1020).1 = y at *
  generalize q.take (min q.length 500) = p at *
  have e8 : ∀ h, call X E 39999 22 [] h = some (.c (.bool true), h) := gives_nil (n := 39999) rfl (alive_up (by omega))
  have cA : CallsEsc 39999 33 [a.v, pv p] (atD p a).1 (.int .i64 (atD p a).2) := run33e (n := 39998) (by omega) (by omega) (by omega) (by omega)
  have cP : CallsEsc 39999 34 [a.v, pv p, y.v] (putD p a y).1 (.int .i64 (putD p a y).2) := run34e (n := 39998) (by omega) (by omega) (by omega) (by omega) (by omega)
  have cR : ∀ h, call X E 39999 35 [a.v, pv p] h = some (atRes p a, h) := run35 (n := 39998) (by omega) (by omega)
  have g1 : ∀ h, call X E 39999 16 [a.v] h = some (.c (.int .i64 a.ck), h) := run16 a (by omega) 39999 (by omega)
  have g2 : ∀ h, call X E 39999 16 [y.v] h = some (.c (.int .i64 y.ck), h) := run16 y (by omega) 39999 (by omega)
  have s1 : ∀ h, call X E 39999 21 [a.v, a.v] h = some (.c (.bool true), h) := fun h => by
    have := run21 a a (by omega) 39999 (by omega) h
    rwa [D.same_refl] at this
  have s2 : ∀ h, call X E 39999 21 [y.v, y.v] h = some (.c (.bool true), h) := fun h => by
    have := run21 y y (by omega) 39999 (by omega) h
    rwa [D.same_refl] at this
  have s3 : ∀ h, call X E 39999 28 [pv p, pv p] h = some (.c (.bool true), h) := fun h => by
    have := run28 (n := 39998) (p := p) (q := p) (by omega) (by omega) h
    rwa [samep_refl] at this
  have sz : ∀ (h : List O) (v : V), Rd h .zero v → call X E 39999 21 [v, .agg [.c (.int .i64 0), .c (.int .i64 0), .c (.string ⟨#[]⟩), .sl [] .nil]] h = some (.c (.bool true), h) := fun h v hv => by
    have := run21 .zero .zero (by rw [D.zero_sz]; omega) 39999 (by rw [D.zero_sz]; omega)
    rw [D.same_refl] at this
    exact call_rows3 (n := 39998) rfl rfl ⟨rfl, rfl⟩ this rfl hv (by have := D.dp_le .zero; rw [D.zero_sz] at this; omega) (by have := D.dp_le .zero; rw [D.zero_sz] at this; omega) rfl
  have ss : ∀ (d : D) (h : List O) (v : V), d.sz ≤ 6000 → Rd h d v → call X E 39999 21 [v, d.v] h = some (.c (.bool true), h) := fun d h v hs hv => by
    have := run21 d d (by omega) 39999 (by omega)
    rw [D.same_refl] at this
    have hdp := D.dp_le d
    exact call_rows3 (n := 39998) rfl rfl ⟨rfl, rfl⟩ this rfl hv (by omega) (by omega) (D.vw2 d)
  have pu : ∀ u, D.at p a = some u → ∀ h, call X E 39999 36 [a.v, pv p, y.v] h = some ((D.put p a y).v, h) := fun u hu => run36 y (by omega) p a u hu (by omega) 39999 (by omega)
  have g3 : ∀ u, D.at p a = some u → ∀ h, call X E 39999 16 [(D.put p a y).v] h = some (.c (.int .i64 (D.put p a y).ck), h) := fun u hu => by
    have := D.put_sz y p a u hu
    exact run16 _ (by omega) 39999 (by omega)
  have sp : ∀ lo b H v, KV H lo b 3000 v → b ≤ H.length → H.all (O.low H.length) = true → Spoils (call X E 39999) H lo b v := fun lo b H v k1 k2 k3 => run37 3000 lo b H v 39999 k1 k2 k3 (by omega)
  have cW : ∃ want is, atRes p a = .tup [want.v, .c (.bool is)] ∧ ((D.at p a = none ∧ is = false) ∨ D.at p a = some want ∧ is = true) := by
    unfold atRes
    cases hu : D.at p a with
    | none => exact ⟨.zero, false, rfl, .inl ⟨rfl, rfl⟩⟩
    | some u => exact ⟨u, true, rfl, .inr ⟨rfl, rfl⟩⟩
  obtain ⟨want, is, hwr, hwc⟩ := cW
  rw [hwr] at cR
  refine gives_of (n := 39999) rfl rfl rfl (by kernel_rfl) ⟨rfl, rfl⟩ (by simp [D.vw2, V.lows, D.low, pv_vw2, pv_low]) ?_ []
  simp only [List.map_cons, List.map_nil, D.vw2, pv_vw2]
  unfold CallsEsc at cA cP
  generalize call X E 39999 = cf at *
  refine first8 c1 c2 c3 cA cP cR fun uV vV iv iw e h rb hP => ?_
  obtain ⟨⟨e1, e3, e5, e7, e8', e9, e10, e11, e12, e13, h0, h1, h2, h3, h4, hv, hiv, ru, ku, rv, kv, low⟩, e14, e15, hw⟩ := hP
  have ur := ru.rd
  have vr := rv.rd
  have wr := D.rd want
  by_cases hack : a.ck = 0
  rotate_left
  · -- the datum is not right
    have hA : atD p a = (.zero, a.ck) := by rw [atD, if_pos hack]
    have hB : putD p a y = (.zero, a.ck) := by rw [putD, if_pos hack]
    rw [hA] at e11 ru
    rw [hB] at e13 rv
    have hne : (a.ck != 0) = true := by simpa using hack
    have z1 := sz h uV ru
    have z2 := sz h vV rv
    simp -implicitDefEqProofs [x8_r, x8r6_w, x8r7_w, x8r8_w, D.rd, e1, e3, e5, e7, e8', e9, e10, e11, e12, e13, h0, h1, h2, h3, h4, hv, ur, vr, g1, hne, z1, z2, e8]
  have ha' : (a.ck != 0) = false := by simpa using hack
  rcases hwc with ⟨hat, rfl⟩ | ⟨hat, rfl⟩
  · -- the path leads to nothing
    have hA : atD p a = (.zero, 5) := by rw [atD, if_neg (by simpa using hack), hat]
    rw [hA] at e11 ru
    have z1 := sz h uV ru
    by_cases hy : y.ck = 0
    · have hB : putD p a y = (.zero, 5) := by rw [putD, if_neg (by simpa using hack), if_neg (by simpa using hy), hat]; rfl
      rw [hB] at e13 rv
      have z2 := sz h vV rv
      have hy' : (y.ck == 0) = true := by simpa using hy
      simp -implicitDefEqProofs [x8_r, x8r6_w, x8r7_w, x8r9_w, x8r10_w, x8r12_w, x8r14_w, x8r15_w, x8r16_w, x8r17_w, x8r19_w, x8r20_w, D.rd, e1, e3, e5, e7, e8', e9, e10, e11, e12, e13, e14, e15, h0, h1, h2, h3, h4, hv, ur, vr, g1, g2, ha', hy', z1, z2, e8, guardF_u]
    · have hB : putD p a y = (.zero, y.ck) := by rw [putD, if_neg (by simpa using hack), if_pos hy]
      rw [hB] at e13 rv
      have z2 := sz h vV rv
      have hy' : (y.ck == 0) = false := by simpa using hy
      have hy2 : (y.ck != 0) = true := by simpa using hy
      simp -implicitDefEqProofs [x8_r, x8r6_w, x8r7_w, x8r9_w, x8r10_w, x8r12_w, x8r14_w, x8r15_w, x8r16_w, x8r17_w, x8r19_w, x8r20_w, D.rd, e1, e3, e5, e7, e8', e9, e10, e11, e12, e13, e14, e15, h0, h1, h2, h3, h4, hv, ur, vr, g1, g2, ha', hy', hy2, z1, z2, e8, guardF_u]
  · have hA : atD p a = (want, 0) := by rw [atD, if_neg (by simpa using hack), hat]
    have hws := D.at_sz p a want hat
    have hps := D.put_sz y p a want hat
    rw [hA] at e11 ru
    have z1 := ss want h uV (by omega) ru
    have pu := pu want hat
    have g3 := g3 want hat
    by_cases hy : y.ck = 0
    rotate_left
    · have hB : putD p a y = (.zero, y.ck) := by rw [putD, if_neg (by simpa using hack), if_pos hy]
      rw [hB] at e13 rv
      have z2 := sz h vV rv
      have hy' : (y.ck == 0) = false := by simpa using hy
      have hy2 : (y.ck != 0) = true := by simpa using hy
      simp -implicitDefEqProofs [x8_r, x8r6_w, x8r7_w, x8r9_w, x8r10_w, x8r11_w, x8r12_w, x8r14_w, x8r15_w, x8r16_w, x8r17_w, x8r19_w, x8r20_w, D.rd, e1, e3, e5, e7, e8', e9, e10, e11, e12, e13, e14, e15, h0, h1, h2, h3, h4, hv, hw, ur, vr, g1, g2, ha', hy', hy2, z1, z2, e8, guardF_u]
    have hy' : (y.ck == 0) = true := by simpa using hy
    by_cases hk : (D.put p a y).ck = 0
    rotate_left
    · have hB : putD p a y = (.zero, 3) := by rw [putD, if_neg (by simpa using hack), if_neg (by simpa using hy), hat, if_neg (by simp), if_pos hk]
      rw [D.ck_put hat hack hy hk] at g3
      rw [hB] at e13 rv
      have z2 := sz h vV rv
      simp -implicitDefEqProofs [x8_r, x8r6_w, x8r7_w, x8r9_w, x8r10_w, x8r11_w, x8r12_w, x8r14_w, x8r15_w, x8r16_w, x8r17_w, x8r18_w, x8r19_w, x8r20_w, D.rd, e1, e3, e5, e7, e8', e9, e10, e11, e12, e13, e14, e15, h0, h1, h2, h3, h4, hv, hw, ur, vr, g1, g2, pu, g3, ha', hy', z1, z2, e8, guardF_u]
    · have hB : putD p a y = (D.put p a y, 0) := by rw [putD, if_neg (by simpa using hack), if_neg (by simpa using hy), hat, if_neg (by simp), if_neg (by simpa using hk)]
      rw [hk] at g3
      rw [hB] at e13 rv
      have z2 := ss (D.put p a y) h vV (by omega) rv
      have hivl : iv < h.length := (List.getElem?_eq_some_iff.1 hv).1
      obtain ⟨H1, p1, p2, p3⟩ := sp 5 iv h uV ku (by omega) low
      have k1 : ∀ i, i < 5 ∨ iv ≤ i → H1[i]? = h[i]? := fun i hi => by
        rcases p3 i with e | ⟨a1, a2, _⟩
        · exact e
        · omega
      have low1 := p3.low p2 (fun u hu => hu.low h.length) low
      rw [← p2] at low1
      have kv1 : KV H1 (iv + 1) H1.length 3000 vV := KV.agree (Nat.le_refl _) (by omega) (fun i j1 j2 => k1 i (by omega)) kv
      obtain ⟨H2, p4, p5, p6⟩ := sp (iv + 1) H1.length H1 vV kv1 (Nat.le_refl _) low1
      have k2 : ∀ i, i ≤ iv → H2[i]? = H1[i]? := fun i hi => by
        rcases p6 i with e | ⟨a1, a2, _⟩
        · exact e
        · omega
      have f12 := (k1 iv (by omega)).trans hv
      have f0 := (k2 0 (by omega)).trans ((k1 0 (by omega)).trans h0)
      have f1 := (k2 1 (by omega)).trans ((k1 1 (by omega)).trans h1)
      have f2 := (k2 2 (by omega)).trans ((k1 2 (by omega)).trans h2)
      have f3 := (k2 3 (by omega)).trans ((k1 3 (by omega)).trans h3)
      have l1 : h.length ≤ H1.length := by omega
      have l2 : H1.length ≤ H2.length := by omega
      simp -implicitDefEqProofs [x8_r, x8r6_w, x8r7_w, x8r9_w, x8r10_w, x8r11_w, x8r12_w, x8r14_w, x8r15_w, x8r17_w, x8r18_w, x8r19_w, x8r21_w, x8r23_w, x8r24_w, x8r25_w, D.rd, e1, e3, e5, e7, e8', e9, e10, e11, e12, e13, e14, e15, h0, h1, h2, h3, h4, hv, hw, ur, vr, g1, g2, pu, g3, ha', hy', z1, z2, e8, p1, p4, f12, f0, f1, f2, f3, l1, l2, c1, c2, c3, s1, s2, s3, guardF_u]
end Go.Proofs.Ytbkgpdkimcnpgaa.Ab
