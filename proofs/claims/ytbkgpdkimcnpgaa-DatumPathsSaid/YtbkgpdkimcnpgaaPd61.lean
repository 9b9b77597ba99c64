/- Paths: the walk, and the function. -/
import Derived.Test.YtbkgpdkimcnpgaaPd60
namespace Go.Proofs.Ytbkgpdkimcnpgaa.Ab
open Go
set_option linter.unusedVariables false
set_option linter.unusedSimpArgs false
set_option maxRecDepth 4000
set_option maxHeartbeats 1000000

theorem run57n {n : Nat} {x : D} {m : Nat} {a : O} (ha : O.low (m + 3) a = true) :
    yieldV (call X E (n + 2)) 57 [.ref (m + 2) 0] x.v [] (List.replicate (m + 1) .free ++ [a, .cells [.sl [] .nil]]) = some (true, GS 1 [] m a (.sl [.sl [] .any] (.tok 0))) := by
  have hlen : (List.replicate (m + 1) O.free ++ [a, .cells [.sl [] .nil]]).length = m + 3 := by simp
  have hlen3 := GS_len 1 [] m a (.sl [.sl [] .any] (.tok 0))
  have hl3 : (GS 1 [] m a (.sl [.sl [] .any] (.tok 0))).length = (List.replicate (m + 1) O.free ++ [a, .cells [.sl [] .nil]]).length := by rw [hlen, hlen3]; simp
  have hall : (List.replicate (m + 1) O.free ++ [a, .cells [.sl [] .nil]]).all (O.low (m + 3)) = true := by
    rw [List.all_append, Bool.and_eq_true]
    refine ⟨?_, by simp [ha, olow_cells, V.lows, V.low, SI.low]⟩
    simp [O.low, List.all_eq_true]
  have hall3 : (GS 1 [] m a (.sl [.sl [] .any] (.tok 0))).all (O.low (m + 3)) = true := GS_all (by simp) ha (by simp [V.low, V.lows, SI.low])
  refine yield_of (by rw [hlen]; simp [V.lows, V.low]) (by rw [hlen]; exact List.all_eq_true.2 fun o ho => olow1 (Nat.le_succ _) (List.all_eq_true.1 hall o ho)) (by rw [hlen]; exact hall3) hl3 ?_
  have hE : E 57 = none := rfl
  have hX : X 57 = some x57 := rfl
  have a2 : ∀ z T, call X E (n + 1) 56 [.row (List.replicate (m + 1) O.free ++ [a, .cells [.sl [] .nil]]).length 0 ([] : List Int).length none] ((List.replicate (m + 1) O.free ++ [a, .cells [.sl [] .nil]]) ++ pcell [] :: z :: T) = some (.sl [] .any, (List.replicate (m + 1) O.free ++ [a, .cells [.sl [] .nil]]) ++ pcell [] :: z :: T) := fun z T => call56N (get_at0 _ _ _)
  generalize hN : n + 1 = N at *
  rw [show n + 2 = N + 1 by omega]
  simp only [call, hE, hX]
  generalize call X E N = cf at *
  have hf : ∀ (T : List O) (d : Nat), freeSlot ((List.replicate (m + 1) O.free ++ [a, .cells [.sl [] .nil]]) ++ T) ((List.replicate (m + 1) O.free ++ [a, .cells [.sl [] .nil]]).length + 1) d = 0 := fun T d =>
    freeSlot_of (by simp [List.replicate_succ]) (fun j hj => absurd hj (Nat.not_lt_zero j)) (by omega)
  have e2 : (m : Nat) + 2 = (.tok 1 1 :: (([] : List O) ++ (List.replicate m .free ++ [a])) : List O).length := by simp
  have h1 : ∀ T : List O, ((List.replicate (m + 1) O.free ++ [a, .cells [.sl [] .nil]]) ++ T)[m + 2]? = some (.cells [.sl [] .nil]) := fun T => by
    have : (List.replicate (m + 1) O.free ++ [a, .cells [.sl [] .nil]]) ++ T = (List.replicate (m + 1) O.free ++ [a]) ++ .cells [.sl [] .nil] :: T := by simp
    rw [this, show m + 2 = (List.replicate (m + 1) O.free ++ [a]).length by simp]
    exact get_at0 _ _ _
  have g0 : ∀ v (T : List O), (GS 1 [] m a v ++ T)[m + 2]? = some (.cells [v]) := fun v T => by have := GS_out 1 [] m a v T; simpa using this
  have g1 : ∀ v u (T : List O), (GS 1 [] m a v ++ T).set (m + 2) (.cells [u]) = GS 1 [] m a u ++ T := fun v u T => by have := GS_set 1 [] m a v u T; simpa using this
  refine runF_at (by kernel_rfl) rfl rfl (wpx_imp _ (fun e s hq => ?_) (wpk_of (aux57n (H2 := GS 1 [] m a (.sl [] .nil)) (H3 := GS 1 [] m a (.sl [.sl [] .any] (.tok 0))) (q := 0) (rv := .sl [] .any) rfl rfl rfl h1 a2 hf
    (fun T => by simp [GS, List.replicate_succ]) (g0 _) (g1 _ _) hl3)))
  have fin : ∀ vs' : List V, ((resOf vs').vw = .c (.bool true) ∧ s.h.take ((List.replicate (m + 1) O.free ++ [a, .cells [.sl [] .nil]]) ++ [pcell []]).length = GS 1 [] m a (.sl [.sl [] .any] (.tok 0)) ++ [pcell []]) →
      ((resOf vs').vw = .c (.bool true) ∧ (V.c (.bool true)).low ((List.replicate (m + 1) O.free ++ [a, .cells [.sl [] .nil]]) ++ [pcell []]).length = true ∧ s.h.take ((List.replicate (m + 1) O.free ++ [a, .cells [.sl [] .nil]]) ++ [pcell []]).length = GS 1 [] m a (.sl [.sl [] .any] (.tok 0)) ++ [pcell []] ∧ (GS 1 [] m a (.sl [.sl [] .any] (.tok 0)) ++ [pcell []]).all (O.low ((List.replicate (m + 1) O.free ++ [a, .cells [.sl [] .nil]]) ++ [pcell []]).length) = true) := fun vs' hv => by
    refine ⟨hv.1, rfl, hv.2, ?_⟩
    rw [List.all_append, List.length_append, hlen]
    simp only [List.all_cons, List.all_nil, low_pcell, Bool.and_true]
    exact List.all_eq_true.2 fun o ho => olow1 (Nat.le_add_right _ _) (List.all_eq_true.1 hall3 o ho)
  cases e with
  | exit id => exact hq
  | normal => rw [Fin_n] at hq ⊢; exact bindO_imp fin hq
  | ret => rw [Fin_r] at hq ⊢; exact bindO_imp fin hq

/-- The rows of paths, from object k on. -/
def rows : Nat → List (List Int) → List V
  | _, [] => []
  | k, p :: ps => .row k 0 p.length none :: rows (k + 1) ps
theorem walk57 {n : Nat} {a : O} : ∀ (L : List (D × List Int)) (R : List O) (vs : List V) (m : Nat), (∀ p ∈ L, p.2 ≠ [] ∧ p.2.length < 1099511627776) → (∀ o ∈ R, o ≠ .free) → R.all (O.low (R.length + (L.length + m) + 3)) = true →
    O.low (R.length + (L.length + m) + 3) a = true → V.lows (R.length + (L.length + m) + 3) vs = true → vs.length + L.length < 1099511627776 → hz 1 vs = true → vs ≠ [] →
    walk (fun x p h => yieldV (call X E (n + 2)) 57 [.ref (R.length + (L.length + m) + 2) 0] x.v p h) L (GS vs.length R (L.length + m) a (.sl vs (.tok 0))) =
      some (true, GS (vs.length + L.length) (R ++ L.map fun p => pcell p.2) m a (.sl (vs ++ rows (R.length + 1) (L.map (·.2))) (.tok 0)))
  | [], R, vs, m, _, _, _, _, _, _, _, _ => by simp [walk, rows]
  | (x, p) :: L, R, vs, m, hL, hR, hRl, ha, hv, hvl, hz1, hne => by
    simp only [List.length_cons] at hRl ha hv hvl ⊢
    obtain ⟨hp1, hp2⟩ := hL (x, p) (by simp)
    have e1 : L.length + 1 + m = L.length + m + 1 := by omega
    rw [e1] at hRl ha hv ⊢
    simp only [walk]
    have h1 := run57 (n := n) (x := x) (p := p) (R := R) (m := L.length + m) (a := a) (vs := vs) hp1 hp2 hR (by rw [show R.length + (L.length + m) + 4 = R.length + (L.length + m + 1) + 3 by omega]; exact hRl)
      (by rw [show R.length + (L.length + m) + 4 = R.length + (L.length + m + 1) + 3 by omega]; exact ha) (by rw [show R.length + (L.length + m) + 4 = R.length + (L.length + m + 1) + 3 by omega]; exact hv) (by omega) hz1
    rw [h1]
    simp only
    have er : R.length + (L.length + m + 1) + 2 = (R ++ [pcell p]).length + (L.length + m) + 2 := by simp; omega
    have er3 : (R ++ [pcell p]).length + (L.length + m) + 3 = R.length + (L.length + m + 1) + 3 := by simp; omega
    rw [er]
    have h2 := walk57 (n := n) (a := a) L (R ++ [pcell p]) (vs ++ [.row (R.length + 1) 0 p.length none]) m (fun q hq => hL q (by simp [hq])) (fun o ho => by
        rcases List.mem_append.1 ho with h | h
        · exact hR o h
        · simp only [List.mem_singleton] at h; subst h; simp [pcell]) (by rw [er3]; simp [hRl, low_pcell]) (by rw [er3]; exact ha) (by
        rw [er3]
        refine lows_of fun v hv' => ?_
        rcases List.mem_append.1 hv' with h | h
        · obtain ⟨i, hi, rfl⟩ := List.getElem_of_mem h
          exact lows_get hv i hi
        · simp only [List.mem_singleton] at h
          subst h
          simp only [V.low, Bool.or_eq_true, decide_eq_true_eq]
          left; omega) (by simp; omega) (by cases vs with
        | nil => exact absurd rfl hne
        | cons v vs => simpa [hz] using hz1) (by simp)
    simp only [List.length_append, List.length_cons, List.length_nil, Nat.zero_add] at h2 ⊢
    rw [h2]
    simp [rows, List.append_assoc, Nat.add_assoc, Nat.add_comm 1]
end Go.Proofs.Ytbkgpdkimcnpgaa.Ab
