/- A walk over a tree that hands on the path (datum.each): what it does. -/
import Derived.Test.YtkiliokeanmagaaDoorAb18
namespace Go.Proofs.YtkiliokeanmagaaDoor.Ab
open Go
set_option linter.unusedVariables false
set_option linter.unusedSimpArgs false

def I64 (n : Int) : V := .c (.int .i64 n)
def getI : List V → Option (List Int)
  | [] => some []
  | .c (.int .i64 n) :: r => (getI r).map (n :: ·)
  | _ => none
theorem getI_eq : ∀ {cs : List V} {ps : List Int}, getI cs = some ps → cs = ps.map I64
  | [], ps, h => by simp only [getI, Option.some.injEq] at h; subst h; rfl
  | v :: r, ps, h => by
    unfold getI at h
    split at h
    · simp only [Option.some.injEq] at h; subst h; simp_all
    · rename_i n r' hv
      simp only [List.cons.injEq] at hv
      obtain ⟨rfl, rfl⟩ := hv
      simp only [Option.map_eq_some_iff] at h
      obtain ⟨ps', h1, rfl⟩ := h
      rw [getI_eq h1]
      rfl
    · cases h
theorem getI_map : ∀ ps : List Int, getI (ps.map I64) = some ps
  | [] => rfl
  | p :: ps => by simp only [List.map_cons, I64, getI]; rw [getI_map ps]; rfl
def pcell (ps : List Int) : O := .cells (ps.map I64)
def samePath (ps : List Int) : Option O → Bool
  | some (.cells cs) => getI cs == some ps
  | _ => false
theorem samePath_eq {ps : List Int} {o : Option O} (h : samePath ps o = true) : o = some (pcell ps) := by
  unfold samePath at h
  split at h
  · simp only [beq_iff_eq] at h
    rw [pcell, getI_eq h]
  · cases h
theorem samePath_self (ps : List Int) : samePath ps (some (pcell ps)) = true := by simp [samePath, pcell, getI_map]

/-- One visit. -/
def yieldV (cf : CallF) (f : Nat) (caps : List V) (d : V) (ps : List Int) (h : List O) : Option (Bool × List O) :=
  match frameCf (h.length + 1) cf f (d :: .row h.length 0 ps.length none :: caps) (h ++ [pcell ps]) with
  | some (.c (.bool b), h1) => if samePath ps h1[h.length]? = true ∧ (h1.take h.length).all (O.low h.length) = true then some (b, h1.take h.length) else none
  | _ => none
/-- The kids, one behind the other. -/
def eachL (rec : V → List Int → List O → Option (Bool × List O)) (ps : List Int) : Nat → List V → List O → Option (Bool × List O)
  | _, [], h => some (true, h)
  | i, u :: us, h => match rec u (ps ++ [(i : Int)]) h with
    | some (true, h') => eachL rec ps (i + 1) us h'
    | some (false, h') => some (false, h')
    | none => none
def eachV (cf : CallF) (f : Nat) (caps : List V) : Nat → V → List Int → List O → Option (Bool × List O)
  | 0, _, _, _ => none
  | k + 1, d, ps, h => match d with
    | .agg [a1, a2, a3, .sl us si] =>
      if us.all (fun u => u.cells.length == 4 && V.low h.length u) = true ∧ us.length ≤ 1099511627776 ∧ ps.length ≤ 1099511627776 ∧ V.lows h.length caps = true ∧ okc a1 = true ∧ okc a2 = true ∧ okc a3 = true then
        match yieldV cf f caps (.agg [a1, a2, a3, .sl us si]) ps h with
        | some (true, h') => eachL (eachV cf f caps k) ps 0 us h'
        | some (false, h') => some (false, h')
        | none => none
      else none
    | _ => none

theorem frameCf_spec {m : Nat} {cf : CallF} {f : Nat} {args : List V} {H : List O} {r : V} {H1 : List O} (h : frameCf m cf f args H = some (r, H1)) : m ≤ H.length ∧ H1.length = H.length := by
  unfold frameCf at h
  split at h
  · rename_i hc
    split at h
    · split at h
      · rename_i hl
        simp only [Option.some.injEq, Prod.mk.injEq] at h
        rw [← h.2]
        simp only [List.length_append, List.length_drop, hl]
        omega
      · cases h
    · cases h
  · cases h
theorem frameCf_rid {m : Nat} {cf : CallF} {f : Nat} {args : List V} {H : List O} {r : V} {H1 : List O} (h : frameCf m cf f args H = some (r, H1)) : f < rid := by
  unfold frameCf at h
  split at h
  · rename_i hc; exact hc.1
  · cases h
theorem frameCf_app {m : Nat} {cf : CallF} {f : Nat} {args : List V} {H : List O} {r : V} {H1 : List O} (h : frameCf m cf f args H = some (r, H1)) (e : List O) : frameCf m cf f args (H ++ e) = some (r, H1 ++ e) := by
  have hm := (frameCf_spec h).1
  unfold frameCf at h ⊢
  rw [List.take_append_of_le_length hm, List.drop_append_of_le_length hm]
  split at h
  · rename_i hc
    rw [if_pos ⟨hc.1, by simp; omega, hc.2.2⟩]
    split at h
    · rename_i r' h1 hcall
      split at h
      · rename_i hl
        simp only [Option.some.injEq, Prod.mk.injEq] at h
        obtain ⟨rfl, rfl⟩ := h
        simp [hcall, hl]
      · cases h
    · cases h
  · cases h

theorem yieldV_spec {cf : CallF} {f : Nat} {caps : List V} {d : V} {ps : List Int} {h : List O} {b : Bool} {h' : List O} (e : yieldV cf f caps d ps h = some (b, h')) :
    frameCf (h.length + 1) cf f (d :: .row h.length 0 ps.length none :: caps) (h ++ [pcell ps]) = some (.c (.bool b), h' ++ [pcell ps]) ∧ h'.length = h.length ∧ h'.all (O.low h.length) = true := by
  unfold yieldV at e
  split at e
  · rename_i b1 h1 hf
    split at e
    · rename_i hc
      simp only [Option.some.injEq, Prod.mk.injEq] at e
      obtain ⟨rfl, rfl⟩ := e
      have hl := (frameCf_spec hf).2
      simp only [List.length_append, List.length_cons, List.length_nil] at hl
      have hlast := samePath_eq hc.1
      have : h1 = h1.take h.length ++ [pcell ps] := by
        apply List.ext_getElem?
        intro i
        rw [List.getElem?_append, List.length_take, List.getElem?_take]
        have e1 : min h.length h1.length = h.length := by omega
        rw [e1]
        by_cases c : i < h.length
        · simp [c]
        · by_cases c2 : i = h.length
          · subst c2; simp [hlast]
          · simp only [c, if_false]
            rw [List.getElem?_eq_none (by omega), List.getElem?_eq_none (by simp; omega)]
      exact ⟨by rw [hf, ← this], by simp; omega, hc.2⟩
    · cases e
  · cases e

theorem eachV_len {cf : CallF} {f : Nat} {caps : List V} : ∀ {k : Nat} {d : V} {ps : List Int} {h : List O} {b : Bool} {h' : List O}, eachV cf f caps k d ps h = some (b, h') → h'.length = h.length ∧ h'.all (O.low h.length) = true
  | 0, _, _, _, _, _, e => by simp [eachV] at e
  | k + 1, d, ps, h, b, h', e => by
    have hL : ∀ (us : List V) (i : Nat) (h1 : List O), h1.length = h.length → h1.all (O.low h.length) = true → eachL (eachV cf f caps k) ps i us h1 = some (b, h') → h'.length = h.length ∧ h'.all (O.low h.length) = true := by
      intro us
      induction us with
      | nil => intro i h1 h2 h3 e; simp only [eachL, Option.some.injEq, Prod.mk.injEq] at e; rw [← e.2]; exact ⟨h2, h3⟩
      | cons u us ih =>
        intro i h1 h2 h3 e
        simp only [eachL] at e
        split at e
        · rename_i h4 e1
          have := eachV_len e1
          exact ih _ _ (by omega) (by rw [← h2]; exact this.2) e
        · rename_i h4 e1
          have := eachV_len e1
          simp only [Option.some.injEq, Prod.mk.injEq] at e
          rw [← e.2, ← h2]
          exact ⟨by omega, this.2⟩
        · cases e
    unfold eachV at e
    split at e
    · split at e
      · split at e
        · rename_i h1 e1
          obtain ⟨k1, k2, k3⟩ := yieldV_spec e1
          exact hL _ _ _ k2 k3 e
        · rename_i h1 e1
          obtain ⟨k1, k2, k3⟩ := yieldV_spec e1
          simp only [Option.some.injEq, Prod.mk.injEq] at e
          rw [← e.2]; exact ⟨k2, k3⟩
        · cases e
      · cases e
    · cases e

/-- What the path is: an own block, or nil. -/
def PV (m : Nat) (ps : List Int) (pv : V) : Prop := pv = .buf m ps.length ∨ (pv = .sl [] .nil ∧ ps = [])

def unbuf (m : Nat) : V → V
  | .buf id n => .row id 0 n none
  | .sl [] .nil => .row m 0 0 none
  | v => v
/-- Visits, as the walk's code makes them. -/
def inCf (m : Nat) (cf : CallF) : CallF := fun f args H => match args with
  | d :: p :: caps => frameCf (m + 1) cf f (d :: unbuf m p :: caps) H
  | _ => none
theorem unbuf_rep {g : Gh} {w : World} {x : Value} {m : Nat} {v : V} (h : Rep g w x v) : Rep g w x (unbuf m v) := by
  unfold unbuf
  split
  · cases h with
    | buf A n cap id hc hA =>
      obtain ⟨b, cc, T, h1, h2, h3, h4⟩ := hA
      exact .row A _ cap _ 0 none hc fun _ => ⟨b, h1, h2⟩
  · cases h with
    | sl A n cap us i z cv hn hc hzz hA hr hi =>
      have : n = 0 := by simpa using hn
      subst this
      exact .row A 0 cap m 0 none hc fun h => absurd rfl h
  · exact h
theorem inCf_ok {P : Program} {m : Nat} {cf : CallF} (hcf : CallOk P cf) : CallOk P (inCf m cf) := by
  intro f args h r h' e
  unfold inCf at e
  split at e
  · rename_i d p caps
    have hfr := frameCf_rid e
    obtain ⟨k1, k2⟩ := (frame_ok (m := m + 1) hcf _ _ _ _ _ e).1 hfr
    refine ⟨fun _ => ⟨k1, fun g w cargs H hl hr => k2 g w cargs H (by simpa using hl) fun i hi hj => ?_⟩, fun hy => absurd hfr (Nat.not_lt.2 hy)⟩
    match i, hi, hj with
    | 0, hi, hj => exact hr 0 hi (by simp)
    | 1, hi, hj => exact unbuf_rep (hr 1 hi (by simp))
    | i + 2, hi, hj => exact hr (i + 2) hi (by simpa using hj)
  · cases e

/-- What the walk does, at depth k. -/
def EachAt (P : Program) (F : Nat) (cf : CallF) (f : Nat) (caps : List V) (k : Nat) : Prop := ∀ d ps h b h', eachV cf f caps k d ps h = some (b, h') → ∀ g w xd xp xf fv pv, callee fv = some (f, caps) → HOk g w (h ++ [pcell ps]) → Rep g w xd d → PV h.length ps pv → Rep g w xp pv → Rep g w xf fv →
  Calls P F #[xd, xp, xf] w (fun e w' => ∃ g', e = .returned (.bool b) ∧ Le g w g' w' ∧ HOk g' w' (h' ++ [pcell ps]) ∧ Quiet (Frb h.length (h ++ [pcell ps])) g (h ++ [pcell ps]) g' (h' ++ [pcell ps]))

/-- The step to a kid: the path with one more number, and the call. -/
def kidCf (F m : Nat) (cf : CallF) (k : Nat) (ps : List Int) (i : Nat) : CallF := fun g args H =>
  if g = F then match args with
    | [u, fv] => match callee fv with
      | some (f, caps) =>
        if m + 1 ≤ H.length ∧ samePath ps H[m]? = true ∧ (H.take m).all (O.low m) = true ∧ V.low m u = true ∧ V.lows m caps = true then
          match eachV cf f caps k u (ps ++ [(i : Int)]) (H.take m) with
          | some (b, h1) => some (.c (.bool b), h1 ++ H.drop m)
          | none => none
        else none
      | none => none
    | _ => none
  else if g = F + 1 then match args with
    | [.buf m' n, .sl [.c (.int .i64 i')] _] => if (m' = m ∧ n = ps.length ∧ i' = i) ∧ samePath ps H[m]? = true then some (.top, H) else none
    | [.sl [] .nil, .sl [.c (.int .i64 i')] _] => if ps = [] ∧ i' = i then some (.top, H) else none
    | _ => none
  else none
def kidPf (F : Nat) : Nat → Nat := fun g => if g = F + 1 then 1 else 0
theorem kid_pure {F m : Nat} {cf : CallF} {k : Nat} {ps : List Int} {i : Nat} : PureCf (kidPf F) (kidCf F m cf k ps i) := by
  intro g args H r H' e
  refine ⟨fun hg => ?_, fun hg => ?_⟩
  · have hg' : g = F + 1 := by
      unfold kidPf at hg
      split at hg
      · assumption
      · cases hg
    subst hg'
    unfold kidCf at e ⊢
    rw [if_neg (by omega), if_pos rfl] at e
    split at e
    · split at e
      · rename_i hc
        simp only [Option.some.injEq, Prod.mk.injEq] at e
        obtain ⟨rfl, rfl⟩ := e
        exact ⟨rfl, fun h2 hh => by rw [if_neg (by omega), if_pos rfl, if_pos ⟨hc.1, by rw [hh _ (pcell ps) trivial (samePath_eq hc.2)]; exact samePath_self ps⟩]⟩
      · cases e
    · split at e
      · rename_i hc
        simp only [Option.some.injEq, Prod.mk.injEq] at e
        obtain ⟨rfl, rfl⟩ := e
        exact ⟨rfl, fun h2 _ => by rw [if_neg (by omega), if_pos rfl, if_pos hc]⟩
      · cases e
    · cases e
  · unfold kidPf at hg
    split at hg <;> cases hg

/-- The region of the step, as it is; as the walk sees it. -/
def kidOps (F : Nat) : List XOper := [⟨(some 22), (.load (some 4) (.t 8)), none⟩, ⟨(some 23), (.mv (.t 1)), none⟩, ⟨(some 24), (.mv (.t 7)), none⟩, ⟨(some 25), (.bslice 0 1 [(.t 24)]), none⟩, ⟨(some 26), (.append 1 none 8 false (.t 23) (.t 25)), none⟩, ⟨(some 27), (.mv (.t 2)), none⟩, ⟨(some 28), (.call (.k (.c (.func (.func F) #[] #[]))) [(.t 22), (.t 26), (.t 27)]), none⟩, ⟨(some 29), (.un .not (.t 28)), none⟩]
def kidOps' (F : Nat) : List XOper := [⟨(some 22), (.load (some 4) (.t 8)), none⟩, ⟨(some 23), (.mv (.t 1)), none⟩, ⟨(some 24), (.mv (.t 7)), none⟩, ⟨(some 25), (.bslice 0 1 [(.t 24)]), none⟩, ⟨(some 26), (.call (.k (.c (.func (.func (F + 1)) #[] #[]))) [(.t 23), (.t 25)]), none⟩, ⟨(some 27), (.mv (.t 2)), none⟩, ⟨(some 28), (.call (.k (.c (.func (.func F) #[] #[]))) [(.t 22), (.t 27)]), none⟩, ⟨(some 29), (.un .not (.t 28)), none⟩]

theorem kid_pairs (pf : Nat → Nat) (F : Nat) (hF : pf F = 0) : ∀ i j, j < i → i < 8 → pairB pf (kidOps F) j i = true → pairB (kidPf F) (kidOps' F) j i = true := by
  intro i j hji hi
  have h1 : kidPf F (F + 1) = 1 := by simp [kidPf]
  have h2 : kidPf F F = 0 := by simp [kidPf]
  match i, j with
  | 0, j => omega
  | 1, 0 => simp [pairB, kidOps, kidOps', commB, apartB, XOper.rd, XOp.rd, A.rd, clsOk, cls, callee, hF, h1, h2]
  | 2, 0 | 2, 1 => simp [pairB, kidOps, kidOps', commB, apartB, XOper.rd, XOp.rd, A.rd, clsOk, cls, callee, hF, h1, h2]
  | 3, 0 | 3, 1 | 3, 2 => simp [pairB, kidOps, kidOps', commB, apartB, XOper.rd, XOp.rd, A.rd, clsOk, cls, callee, hF, h1, h2]
  | 4, 0 | 4, 1 | 4, 2 | 4, 3 => simp [pairB, kidOps, kidOps', commB, apartB, XOper.rd, XOp.rd, A.rd, clsOk, cls, callee, hF, h1, h2]
  | 5, 0 | 5, 1 | 5, 2 | 5, 3 | 5, 4 => simp [pairB, kidOps, kidOps', commB, apartB, XOper.rd, XOp.rd, A.rd, clsOk, cls, callee, hF, h1, h2]
  | 6, 0 | 6, 1 | 6, 2 | 6, 3 | 6, 4 | 6, 5 => simp [pairB, kidOps, kidOps', commB, apartB, XOper.rd, XOp.rd, A.rd, clsOk, cls, callee, hF, h1, h2]
  | 7, 0 | 7, 1 | 7, 2 | 7, 3 | 7, 4 | 7, 5 | 7, 6 => simp [pairB, kidOps, kidOps', commB, apartB, XOper.rd, XOp.rd, A.rd, clsOk, cls, callee, hF, h1, h2]
  | i + 8, j => omega
end Go.Proofs.YtkiliokeanmagaaDoor.Ab
