/- The reference's formed and Check. -/
import Derived.Test.YtbkgpdkimcnpgaaRd11
namespace Go.Proofs.Ytbkgpdkimcnpgaa.Ab
open Go
set_option linter.unusedVariables false
set_option linter.unusedSimpArgs false
set_option maxRecDepth 4000
set_option maxHeartbeats 1000000

mutual
/-- Is a datum right, but for limits? -/
def D.fm : D → Bool
  | .mk k n t l => if k = 1 then empB t && l.length == 0 else if k = 2 then n == 0 && symB t && l.length == 0 else if k = 3 then D.fms l && n == 0 && empB t else false
def D.fms : List D → Bool
  | [] => true
  | d :: l => d.fm && D.fms l
end
theorem D.fms_all : ∀ l : List D, D.fms l = l.all D.fm
  | [] => rfl
  | d :: l => by simp only [D.fms, List.all_cons, D.fms_all l]
theorem D.fms_take (l : List D) (j : Nat) (h : j < l.length) : D.fms (l.take (j + 1)) = (D.fms (l.take j) && (l[j]).fm) := by
  induction l generalizing j with
  | nil => simp at h
  | cons d l ih =>
    cases j with
    | zero => simp [D.fms]
    | succ j =>
      simp only [List.take_succ_cons, D.fms, List.getElem_cons_succ]
      rw [ih j (by simpa using h), Bool.and_assoc]
theorem D.fms_false {l : List D} {j : Nat} (h : j < l.length) (hf : (l[j]).fm = false) : D.fms l = false := by
  rw [D.fms_all, List.all_eq_false]
  exact ⟨_, List.getElem_mem h, by simp [hf]⟩

structure I44 (l : List D) (k n : Int) (t : ByteArray) (m : Nat) (s : SF) : Prop where
  j : ∃ j : Nat, j + m = l.length ∧ s.e 3 = .c (.int .i64 j) ∧ D.fms (l.take j) = true
  e1 : s.e 1 = .ref 0 0
  h : s.h = [.cells [.c (.int .i64 k), .c (.int .i64 n), .c (.string t), .sl (D.vs l) .any]]
  b : s.base = 0

theorem step44 {cf : CallF} {fu : Nat} {l : List D} {k n : Int} {t : ByteArray} (hl : D.szs l < 4611686018427387904) (hc : ∀ x ∈ l, ∀ h, cf 44 [x.v] h = some (.c (.bool x.fm), h)) {Q : Ex → SF → Prop}
    (hQ : ∀ s, D.fms l = true → s.e 1 = .ref 0 0 → s.base = 0 → s.h = [.cells [.c (.int .i64 k), .c (.int .i64 n), .c (.string t), .sl (D.vs l) .any]] → Q (.exit 1) s)
    (hR : ∀ s, D.fms l = false → s.e 2 = .c (.bool false) → s.base = 0 → s.h = [.cells [.c (.int .i64 k), .c (.int .i64 n), .c (.string t), .sl (D.vs l) .any]] → Q .ret s) (m : Nat) (s : SF) (I : I44 l k n t m s) :
    wpk cf fu x44l13 [] (fun e s' => match e with | .normal => ∃ k', k' < m ∧ I44 l k n t k' s' | e => Q e s') s := by
  obtain ⟨⟨j, hj, e3, hf⟩, e1, hh, hb⟩ := I
  obtain ⟨e, h, base, rb⟩ := s
  simp only at e3 e1 hh hb
  subst hh hb
  have hlen := D.len_szs l
  by_cases hm : j < l.length
  · have hlt : (j : Int) < l.length := by omega
    have hx := hc _ (List.getElem_mem hm)
    have hs := D.fms_take l j hm
    cases hfm : (l[j]).fm with
    | true =>
      rw [hfm] at hx
      simp -implicitDefEqProofs [x44l13_w, x44r9_w, x44r10_w, x44r11_w, x44r12_w, e1, e3, D.vs_len, hlt, hm, D.vs_getE, D.cells_len, D.rd, hx]
      refine ⟨m - 1, by omega, ⟨⟨j + 1, by omega, ?_, ?_⟩, ?_, rfl, rfl⟩⟩
      · simp only [upd_at, e3]
        simp
        rw [wrap_in (by omega)]
      · rw [hs, hf, hfm]; rfl
      · simp [upd_at, e1]
    | false =>
      rw [hfm] at hx
      simp -implicitDefEqProofs [x44l13_w, x44r9_w, x44r10_w, x44r11_w, x44r12_w, e1, e3, D.vs_len, hlt, hm, D.vs_getE, D.cells_len, D.rd, hx]
      refine hR _ (D.fms_false hm hfm) ?_ rfl rfl
      simp [upd_at]
  · have hlt : ¬ (j : Int) < l.length := by omega
    have hj2 : j = l.length := by omega
    simp -implicitDefEqProofs [x44l13_w, x44r9_w, x44r10_w, x44r11_w, x44r12_w, e1, e3, D.vs_len, hlt]
    refine hQ _ ?_ ?_ rfl rfl
    · rw [hj2, List.take_length] at hf; exact hf
    · simp [upd_at, e1]

theorem run44 : ∀ d : D, d.sz < 4611686018427387904 → ∀ n, 2 * d.sz + 62 ≤ n → Gives n 44 [d.v] (.c (.bool d.fm)) := by
  refine D.ind fun k n t l ih hs m hm => ?_
  simp only [D.sz] at hs hm
  obtain ⟨m, rfl⟩ : ∃ m', m = m' + 1 := ⟨m - 1, by omega⟩
  have hlen := D.len_szs l
  have hsy : Gives m 24 [.c (.string t)] (.c (.bool (symB t))) := gives_nil rfl (up (by omega) (sym24 (n := 60) (by omega) t))
  refine gives_of rfl rfl rfl (by kernel_rfl) ⟨rfl, rfl⟩ (by simp [D.vw2, V.lows, D.low]) ?_
  have hsy' : ∀ h, call X E m 24 [.c (.string t)] h = some (.c (.bool (symB t)), h) := hsy
  by_cases h1 : k = 1
  · subst h1
    cases ht : empB t <;> cases h0 : (l.length == 0) <;>
      simp -implicitDefEqProofs [x44_w, x44_r, x44r1_w, x44r2_w, x44r3_w, x44r4_w, D.vw2, D.v, ht, D.vs_len, h0, D.fm]
  · by_cases h2 : k = 2
    · subst h2
      cases hn : (n == 0) <;> cases hy : symB t <;> cases h0 : (l.length == 0) <;> rw [hy] at hsy' <;>
        simp -implicitDefEqProofs [x44_w, x44_r, x44r1_w, x44r2_w, x44r3_w, x44r4_w, x44r5_w, x44r6_w, D.vw2, D.v, hn, hsy', D.vs_len, h0, D.fm, hy]
    · by_cases h3 : k = 3
      · subst h3
        simp -implicitDefEqProofs [x44_w, x44_r, x44r1_w, x44r2_w, x44r3_w, x44r4_w, x44r5_w, x44r6_w, x44r7_w, x44r8_w, D.vw2, D.v]
        refine lpk_of (I44 l 3 n t) l.length (by omega) ⟨⟨0, by simp, ?_, ?_⟩, ?_, rfl, rfl⟩ ?_
        · simp [upd_at]
        · simp [D.fms]
        · simp [upd_at]
        · refine step44 (by omega) (fun x hx h => ih x hx (by have := D.mem_sz hx; omega) m (by have := D.mem_sz hx; omega) h) (fun s hf h1 hb hh => ?_) fun s hf h2 hb hh => ?_
          · obtain ⟨e, h, base, rb⟩ := s
            simp only at h1 hb hh
            subst hb hh
            cases ht : empB t <;> cases hn : (n == 0) <;>
              simp -implicitDefEqProofs [x44_r, x44r14_w, h1, hn, ht, D.fm, hf]
          · obtain ⟨e, h, base, rb⟩ := s
            simp only at h2 hb hh
            subst hb hh
            simp -implicitDefEqProofs [x44_r, h2, D.fm, hf]
      · have b1 : (k == 1) = false := by simpa using h1
        have b2 : (k == 2) = false := by simpa using h2
        have b3 : (k == 3) = false := by simpa using h3
        simp -implicitDefEqProofs [b1, b2, b3, x44_w, x44_r, x44r1_w, x44r2_w, x44r3_w, x44r5_w, x44r7_w, x44r15_w, D.vw2, D.v, h1, h2, h3, D.fm]

/-- What is wrong with a datum. -/
def D.ck (d : D) : Int := if d.fm = false then 4 else if d.sz > 100000 ∨ d.dp > 1000 then 3 else 0
theorem run16 (d : D) (hs : d.sz < 4611686018427387904) (n : Nat) (hn : 2 * d.sz + 63 ≤ n) : Gives n 16 [d.v] (.c (.int .i64 d.ck)) := by
  obtain ⟨m, rfl⟩ : ∃ m', n = m' + 1 := ⟨n - 1, by omega⟩
  have c1 : ∀ h, call X E m 44 [d.v] h = some (.c (.bool d.fm), h) := run44 d hs m (by omega)
  have c2 : ∀ h, call X E m 18 [d.v] h = some (.c (.int .i64 d.sz), h) := run18 d hs m (by omega)
  have c3 : ∀ h, call X E m 20 [d.v] h = some (.c (.int .i64 d.dp), h) := run20 d hs m (by omega)
  refine gives_of rfl rfl rfl (by kernel_rfl) ⟨rfl, rfl⟩ (by simp [D.vw2, V.lows, D.low]) ?_
  cases hf : d.fm with
  | false =>
    rw [hf] at c1
    simp -implicitDefEqProofs [x16_w, x16_r, x16r1_w, x16r2_w, x16r3_w, D.vw2, D.okc, D.rd, c1, D.ck, hf]
  | true =>
    rw [hf] at c1
    by_cases h1 : d.sz > 100000
    · have h1' : (100000 : Int) < d.sz := by omega
      simp -implicitDefEqProofs [x16_w, x16_r, x16r1_w, x16r2_w, x16r3_w, x16r4_w, x16r5_w, D.vw2, D.okc, D.rd, c1, c2, h1', D.ck, hf, h1]
    · have h1' : ¬ (100000 : Int) < d.sz := by omega
      by_cases h2 : d.dp > 1000
      · have h2' : (1000 : Int) < d.dp := by omega
        simp -implicitDefEqProofs [x16_w, x16_r, x16r1_w, x16r2_w, x16r3_w, x16r4_w, x16r5_w, D.vw2, D.okc, D.rd, c1, c2, c3, h1', h2', D.ck, hf, h1, h2]
      · have h2' : ¬ (1000 : Int) < d.dp := by omega
        simp -implicitDefEqProofs [x16_w, x16_r, x16r1_w, x16r2_w, x16r3_w, x16r4_w, x16r5_w, x16r6_w, D.vw2, D.okc, D.rd, c1, c2, c3, h1', h2', D.ck, hf, h1, h2]
end Go.Proofs.Ytbkgpdkimcnpgaa.Ab
