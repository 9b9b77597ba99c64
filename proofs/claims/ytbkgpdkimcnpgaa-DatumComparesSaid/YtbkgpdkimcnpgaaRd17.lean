/- The reference's Cut. -/
import Derived.Test.YtbkgpdkimcnpgaaRd16
namespace Go.Proofs.Ytbkgpdkimcnpgaa.Ab
open Go
set_option linter.unusedVariables false
set_option linter.unusedSimpArgs false
set_option maxRecDepth 4000
set_option maxHeartbeats 1000000

def cutT (t : ByteArray) : ByteArray := t.extract 0 (min t.size 42)
mutual
/-- A copy, as far as there is room. -/
def D.cut : D → Nat → Nat → D × Nat
  | .mk k n t l, left, deep => (.mk k n (cutT t) (D.cuts l (left - 1) deep).1, (D.cuts l (left - 1) deep).2)
def D.cuts : List D → Nat → Nat → List D × Nat
  | [], left, _ => ([], left)
  | d :: l, left, deep => if 1 < deep ∧ 0 < left then ((d.cut left (deep - 1)).1 :: (D.cuts l (d.cut left (deep - 1)).2 deep).1, (D.cuts l (d.cut left (deep - 1)).2 deep).2) else ([], left)
end
mutual
theorem D.cut_le : ∀ (d : D) (left deep : Nat), (d.cut left deep).2 ≤ left - 1
  | .mk k n t l, left, deep => by simp only [D.cut]; exact D.cuts_le l _ _
theorem D.cuts_le : ∀ (l : List D) (left deep : Nat), (D.cuts l left deep).2 ≤ left
  | [], left, deep => by simp [D.cuts]
  | d :: l, left, deep => by
    simp only [D.cuts]
    split
    · have := D.cut_le d left (deep - 1)
      have := D.cuts_le l (d.cut left (deep - 1)).2 deep
      simp only; omega
    · simp
end
theorem D.vs_app (a b : List D) : D.vs (a ++ b) = D.vs a ++ D.vs b := by simp [D.vs_map]
theorem D.hz (l : List D) : Ab.hz 4 (D.vs l) = true := by
  cases l with
  | nil => rfl
  | cons d l => simp [D.vs, Ab.hz, D.cells_len]
theorem get_last2 (h : List O) (x y : O) : (h ++ [x, y])[h.length + 1]? = some y := by
  rw [List.getElem?_append_right (by omega)]
  simp
theorem set_last2 (h : List O) (x y z : O) : (h ++ [x, y]).set (h.length + 1) z = h ++ [x, z] := by
  rw [List.set_append_right _ _ (by omega)]
  simp
section
variable {s : SF}
theorem own_mv (x : A) : ownF s (.mv x) = true := rfl
theorem own_fa (o : Nat) (x : A) : ownF s (.fieldAddr o x) = true := rfl
theorem own_ia (z : Nat) (x i : A) : ownF s (.indexAddr z x i) = true := rfl
theorem own_bin (op : BinOp) (q : Nat) (x y : A) : ownF s (.bin op q x y) = true := rfl
theorem own_call (f : A) (l : List A) : ownF s (.call f l) = true := rfl
theorem own_bs (al z : Nat) (l : List A) : ownF s (.bslice al z l) = true := rfl
theorem own_app (al b : Nat) (z : Option Nat) (rw : Bool) (x y : A) : ownF s (.append al z b rw x y) = true := rfl
theorem own_store (n : Nat) (x y : A) : ownF s (.store n x y) = true := rfl
end

theorem frame3 {cf : CallF} {f : Nat} {args : List V} {a b c c' : O} {v : V} {rest : List O} (hl : V.lows 3 args = true) (hh : lowH [a, b, c]) (e : cf f args [a, b, c] = some (v, [a, b, c'])) :
    frameCf 3 cf f args (a :: b :: c :: rest) = some (v, a :: b :: c' :: rest) := by
  unfold frameCf
  have h1 : (a :: b :: c :: rest).take 3 = [a, b, c] := by simp
  have h2 : (a :: b :: c :: rest).drop 3 = rest := by simp
  rw [h1, h2, e, if_pos ⟨by simp, hl, hh⟩]
  simp

def dcell (k n : Int) (t : ByteArray) (us : List V) (si : SI) : O := .cells [.c (.int .i64 k), .c (.int .i64 n), .c (.string t), .sl us si]
structure I62 (a b ret : O) (l : List D) (k n : Int) (t : ByteArray) (left0 deep : Nat) (m : Nat) (s : SF) : Prop where
  j : ∃ (out : List D) (rest : List O) (si : SI), out.length + m ≤ left0 ∧ s.e 8 = .c (.int .i64 out.length) ∧
    D.cuts l left0 deep = (out ++ (D.cuts (l.drop out.length) m deep).1, (D.cuts (l.drop out.length) m deep).2) ∧
    s.h = a :: b :: .cells [.c (.int .i64 m)] :: dcell k n t (D.vs l) .any :: ret :: dcell k n (cutT t) (D.vs out) si :: rest ∧
    ((out = [] ∧ si = .nil) ∨ ∃ q, si = .tok (q + 6) ∧ rest[q]? = some (.tok out.length 4))
  e0 : s.e 0 = .ref 2 0
  e2 : s.e 2 = .c (.int .i64 deep)
  e4 : s.e 4 = .ref 3 0
  e6 : s.e 6 = .ref 4 0
  e7 : s.e 7 = .ref 5 0
  b : s.base = 3

theorem step62 {cf : CallF} {fu : Nat} {a b ret : O} {l : List D} {k n : Int} {t : ByteArray} {left0 deep : Nat} (ha : O.low 3 a = true) (hb : O.low 3 b = true) (hleft : left0 < 1099511627776) (hdeep : deep < 1099511627776)
    (hc : ∀ x ∈ l, ∀ left, 0 < left → left ≤ left0 → 1 < deep → cf 62 [.ref 2 0, x.v, .c (.int .i64 (deep - 1 : Nat))] [a, b, .cells [.c (.int .i64 left)]] = some ((x.cut left (deep - 1)).1.v, [a, b, .cells [.c (.int .i64 (x.cut left (deep - 1)).2)]])) {Q : Ex → SF → Prop}
    (hQ : ∀ s si rest, s.h = a :: b :: .cells [.c (.int .i64 (D.cuts l left0 deep).2)] :: dcell k n t (D.vs l) .any :: ret :: dcell k n (cutT t) (D.vs (D.cuts l left0 deep).1) si :: rest → s.e 6 = .ref 4 0 → s.e 7 = .ref 5 0 → s.base = 3 → Q (.exit 0) s) (m : Nat) (s : SF) (I : I62 a b ret l k n t left0 deep m s) :
    wpk cf fu x62l8 [] (fun e s' => match e with | .normal => ∃ k', k' < m ∧ I62 a b ret l k n t left0 deep k' s' | e => Q e s') s := by
  obtain ⟨⟨out, rest, si, hom, e8, hcut, hh, hsi⟩, e0, e2, e4, e6, e7, hbs⟩ := I
  obtain ⟨e, h, base, rb⟩ := s
  simp only at e8 hh e0 e2 e4 e6 e7 hbs
  subst hh hbs
  have hstop : ¬ (out.length < l.length ∧ 1 < deep ∧ 0 < m) → (D.cuts (l.drop out.length) m deep) = ([], m) := by
    intro hn
    by_cases hm : out.length < l.length
    · rw [List.drop_eq_getElem_cons hm, D.cuts, if_neg (fun h => hn ⟨hm, h⟩)]
    · rw [List.drop_of_length_le (by omega), D.cuts]
  have hexit : ¬ (out.length < l.length ∧ 1 < deep ∧ 0 < m) → ∀ e' : Nat → V, e' 6 = .ref 4 0 → e' 7 = .ref 5 0 → ∀ rb', Q (.exit 0) ⟨e', a :: b :: .cells [.c (.int .i64 m)] :: dcell k n t (D.vs l) .any :: ret :: dcell k n (cutT t) (D.vs out) si :: rest, 3, rb'⟩ := by
    intro hn e' h6 h7 rb'
    have := hstop hn
    rw [this] at hcut
    refine hQ _ si rest ?_ h6 h7 rfl
    rw [hcut]
    simp
  by_cases hm : out.length < l.length
  · have hlt : (out.length : Int) < l.length := by omega
    by_cases hd : 1 < deep
    · have hdi : (1 : Int) < deep := by omega
      by_cases h0 : 0 < m
      · have h0i : (0 : Int) < m := by omega
        have hx := hc _ (List.getElem_mem hm) m h0 (by omega) hd
        have hfr := fun rest => frame3 (rest := rest) (by simp [V.lows, V.low, D.low]) (by simp [lowH, ha, hb, olow_cells, V.lows, V.low]) hx
        have hde : IntKind.i64.wrap ((deep : Int) - 1) = (deep - 1 : Nat) := by rw [wrap_in (by omega)]; omega
        have hle := D.cut_le l[out.length] m (deep - 1)
        have hstep : D.cuts (l.drop out.length) m deep = (((l[out.length]).cut m (deep - 1)).1 :: (D.cuts (l.drop (out.length + 1)) ((l[out.length]).cut m (deep - 1)).2 deep).1, (D.cuts (l.drop (out.length + 1)) ((l[out.length]).cut m (deep - 1)).2 deep).2) := by
          rw [List.drop_eq_getElem_cons hm, D.cuts, if_pos ⟨hd, h0⟩]
        have hlen1 : ((D.vs out).length + 1) * 56 ≤ 140737488355328 := by rw [D.vs_len]; omega
        have hlen2 : (D.vs out).length + 1 ≤ 140737488355328 := by rw [D.vs_len]; omega
        generalize hcx : (l[out.length]).cut m (deep - 1) = cx at *
        have hnew : D.cuts l left0 deep = ((out ++ [cx.1]) ++ (D.cuts (l.drop (out ++ [cx.1]).length) cx.2 deep).1, (D.cuts (l.drop (out ++ [cx.1]).length) cx.2 deep).2) := by
          rw [hcut, hstep]
          simp
        rcases hsi with ⟨hout, rfl⟩ | ⟨q, rfl, hq⟩
        · simp -implicitDefEqProofs [x62l8_w, x62r5_w, x62r6_w, x62r7_w, opsw_cons, opsw_nil, gvw_some, gvw_ite, ownF_load, ownV_ref, ownV_ptr, own_mv, own_fa, own_ia, own_bin, own_call, own_bs, own_app, own_store, dcell, e0, e2, e4, e7, e8, D.vs_len, hlt, hdi, h0, h0i, hm, D.vs_getE, D.cells_len, D.rd, D.vw2, D.okc, hde, hfr, hlen1, hlen2, D.hz, get_last2, set_last2]
          refine ⟨⟨by omega, by omega⟩, cx.2, by omega, ⟨⟨out ++ [cx.1], rest ++ [O.tok 1 4, O.tok (out.length + 1) 4], .tok (rest.length + 1 + 6), ?_, ?_, hnew, ?_, .inr ⟨rest.length + 1, rfl, ?_⟩⟩, ?_, ?_, ?_, ?_, ?_, rfl⟩⟩
          · simp only [List.length_append, List.length_cons, List.length_nil]; omega
          · simp only [upd_at]
            simp
            rw [wrap_in (by omega)]
          · simp [dcell, D.vs_app, D.vs]
          · rw [get_last2]; simp
          · simp [upd_at, e0]
          · simp [upd_at, e2]
          · simp [upd_at, e4]
          · simp [upd_at, e6]
          · simp [upd_at, e7]
        · obtain ⟨hql, hqv⟩ := List.getElem?_eq_some_iff.1 hq
          have hqa : ∀ pre : List O, (rest ++ pre)[q]? = some (.tok out.length 4) := fun pre => by rw [List.getElem?_append_left hql]; exact hq
          simp -implicitDefEqProofs [x62l8_w, x62r5_w, x62r6_w, x62r7_w, opsw_cons, opsw_nil, gvw_some, gvw_ite, ownF_load, ownV_ref, ownV_ptr, own_mv, own_fa, own_ia, own_bin, own_call, own_bs, own_app, own_store, dcell, e0, e2, e4, e7, e8, D.vs_len, hlt, hdi, h0, h0i, hm, D.vs_getE, D.cells_len, D.rd, D.vw2, D.okc, hde, hfr, hlen1, hlen2, D.hz, hqa]
          refine ⟨⟨by omega, by omega⟩, cx.2, by omega, ⟨⟨out ++ [cx.1], (rest ++ [O.tok 1 4, O.dead]).set q (.tok (out.length + 1) 4), .tok (q + 6), ?_, ?_, hnew, ?_, .inr ⟨q, rfl, ?_⟩⟩, ?_, ?_, ?_, ?_, ?_, rfl⟩⟩
          · simp only [List.length_append, List.length_cons, List.length_nil]; omega
          · simp only [upd_at]
            simp
            rw [wrap_in (by omega)]
          · simp [dcell, D.vs_app, D.vs]
          · rw [List.getElem?_set_self (by simp; omega)]; simp
          · simp [upd_at, e0]
          · simp [upd_at, e2]
          · simp [upd_at, e4]
          · simp [upd_at, e6]
          · simp [upd_at, e7]
      · have h0i : ¬ (0 : Int) < m := by omega
        simp -implicitDefEqProofs [x62l8_w, x62r5_w, dcell, e0, e2, e4, e7, e8, D.vs_len, hlt, hdi, h0, h0i]
        exact hexit (fun h => h0 h.2.2) _ (by simp [upd_at, e6]) (by simp [upd_at, e7]) _
    · have hdi : ¬ (1 : Int) < deep := by omega
      simp -implicitDefEqProofs [x62l8_w, x62r5_w, dcell, e0, e2, e4, e7, e8, D.vs_len, hlt, hdi]
      exact hexit (fun h => hd h.2.1) _ (by simp [upd_at, e6]) (by simp [upd_at, e7]) _
  · have hlt : ¬ (out.length : Int) < l.length := by omega
    simp -implicitDefEqProofs [x62l8_w, x62r5_w, dcell, e0, e2, e4, e7, e8, D.vs_len, hlt]
    exact hexit (fun h => hm h.1) _ (by simp [upd_at, e6]) (by simp [upd_at, e7]) _

theorem run62 : ∀ (d : D) (left deep n : Nat) (a b : O), O.low 3 a = true → O.low 3 b = true → 0 < left → left < 1099511627776 → 0 < deep → deep < 1099511627776 → left + deep + 1 ≤ n →
    call X E n 62 [.ref 2 0, d.v, .c (.int .i64 deep)] [a, b, .cells [.c (.int .i64 left)]] = some ((d.cut left deep).1.v, [a, b, .cells [.c (.int .i64 (d.cut left deep).2)]]) := by
  refine D.ind fun k n t l ih => ?_
  intro left deep nn a b ha hb h0 hleft hd0 hdeep hn
  obtain ⟨m, rfl⟩ : ∃ m', nn = m' + 1 := ⟨nn - 1, by omega⟩
  have hE : E 62 = none := rfl
  have hX : X 62 = some x62 := rfl
  simp only [call, hE, hX]
  refine runF_at (by kernel_rfl) rfl rfl (wpk_of ?_)
  have hw : IntKind.i64.wrap ((left : Int) - 1) = (left - 1 : Nat) := by rw [wrap_in (by omega)]; omega
  have hmin : (if (42 : Int) < t.size then (42 : Int) else t.size) = (min t.size 42 : Nat) := by split <;> omega
  simp -implicitDefEqProofs [x62_w, x62_r, x62r1_w, x62r2_w, x62r3_w, x62r4_w, D.vw2, D.v, hw, hmin]
  have hcut : (D.mk k n t l).cut left deep = (.mk k n (cutT t) (D.cuts l (left - 1) deep).1, (D.cuts l (left - 1) deep).2) := by simp only [D.cut]
  refine ⟨by omega, lpk_of (I62 a b (.cells [.c (.int .i64 0), .c (.int .i64 0), .c (.string ⟨#[]⟩), .sl [] .nil]) l k n t (left - 1) deep) (left - 1) (by omega)
    ⟨⟨[], [], .nil, by simp, ?_, by simp, rfl, .inl ⟨rfl, rfl⟩⟩, ?_, ?_, ?_, ?_, ?_, rfl⟩ ?_⟩
  · simp [upd_at]
  · simp [upd_at, arg0]
  · simp [upd_at, arg0]
  · simp [upd_at]
  · simp [upd_at]
  · simp [upd_at]
  · refine step62 ha hb (by omega) hdeep (fun x hx left' h1 h2 h3 => ih x hx left' (deep - 1) m a b ha hb h1 (by omega) (by omega) (by omega) (by omega)) fun s si rest hh h6 h7 hbs => ?_
    obtain ⟨e, h, base, rb⟩ := s
    simp only at hh h6 h7 hbs
    subst hh hbs
    have hlow := D.low 3 (.mk k n (cutT t) (D.cuts l (left - 1) deep).1)
    simp only [D.v] at hlow
    simp -implicitDefEqProofs [x62_r, x62r9_w, dcell, h6, h7, hcut, D.v, hlow, ha, hb, olow_cells, V.lows]

theorem run38 (d : D) (left deep n : Nat) (h0 : 0 < left) (hleft : left < 1099511627776) (hd0 : 0 < deep) (hdeep : deep < 1099511627776) (hn : left + deep + 1 ≤ n) : Gives (n + 1) 38 [d.v, .c (.int .i64 left), .c (.int .i64 deep)] (d.cut left deep).1.v := by
  refine gives_of rfl rfl rfl (by kernel_rfl) ⟨rfl, rfl⟩ (by simp [D.vw2, V.lows, D.low, vw2_c, V.low]) ?_
  have hc := run62 d left deep n (.cells d.v.cells) (.cells [.c (.int .i64 0), .c (.int .i64 0), .c (.string ⟨#[]⟩), .sl [] .nil]) (D.lowBox 3 d) (by simp [olow_cells, V.lows, V.low, SI.low]) h0 hleft hd0 hdeep hn
  simp -implicitDefEqProofs [x38_w, x38_r, x38r1_w, x38r2_w, x38r3_w, D.vw2, D.okc, D.rd, D.cells_len, D.spl, hc, D.vw, D.low]
theorem run14 (d : D) (n : Nat) (hn : 4022 ≤ n) : Gives (n + 1) 14 [d.v] (d.cut 3000 1020).1.v := by
  obtain ⟨m, rfl⟩ : ∃ m', n = m' + 1 := ⟨n - 1, by omega⟩
  refine gives_of rfl rfl rfl (by kernel_rfl) ⟨rfl, rfl⟩ (by simp [D.vw2, V.lows, D.low]) ?_
  have hc : ∀ h, call X E (m + 1) 38 [d.v, .c (.int .i64 3000), .c (.int .i64 1020)] h = some ((d.cut 3000 1020).1.v, h) := run38 d 3000 1020 m (by omega) (by omega) (by omega) (by omega) (by omega)
  simp -implicitDefEqProofs [x14_w, x14_r, x14r1_w, x14r2_w, D.vw2, D.okc, D.rd, D.cells_len, D.spl, hc, D.vw, D.low]

mutual
theorem D.cut_sz : ∀ (d : D) (left deep : Nat), 0 < left → (d.cut left deep).1.sz + (d.cut left deep).2 = left
  | .mk k n t l, left, deep, h => by
    simp only [D.cut, D.sz]
    have := D.cuts_sz l (left - 1) deep
    omega
theorem D.cuts_sz : ∀ (l : List D) (left deep : Nat), D.szs (D.cuts l left deep).1 + (D.cuts l left deep).2 = left
  | [], left, deep => by simp [D.cuts, D.szs]
  | d :: l, left, deep => by
    simp only [D.cuts]
    split
    · rename_i h
      have h1 := D.cut_sz d left (deep - 1) h.2
      have h2 := D.cuts_sz l (d.cut left (deep - 1)).2 deep
      simp only [D.szs]
      omega
    · simp [D.szs]
end
theorem D.cut_small (d : D) (left deep : Nat) (h : 0 < left) : (d.cut left deep).1.sz ≤ left := by have := D.cut_sz d left deep h; omega
end Go.Proofs.Ytbkgpdkimcnpgaa.Ab
