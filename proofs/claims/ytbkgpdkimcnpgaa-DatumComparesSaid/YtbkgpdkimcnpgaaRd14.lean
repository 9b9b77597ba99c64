/- datum.each as a walk over the data in preorder; Parts, Deep, Check. -/
import Derived.Test.YtbkgpdkimcnpgaaRd13
namespace Go.Proofs.Ytbkgpdkimcnpgaa.Ab
open Go
set_option linter.unusedVariables false
set_option linter.unusedSimpArgs false
set_option maxRecDepth 4000
set_option maxHeartbeats 1000000

mutual
/-- All data in one, with their paths, in preorder. -/
def D.pre : D → List Int → List (D × List Int)
  | .mk k n t l, ps => (.mk k n t l, ps) :: D.pres l ps 0
def D.pres : List D → List Int → Nat → List (D × List Int)
  | [], _, _ => []
  | d :: l, ps, i => d.pre (ps ++ [(i : Int)]) ++ D.pres l ps (i + 1)
end
def walk (Y : D → List Int → List O → Option (Bool × List O)) : List (D × List Int) → List O → Option (Bool × List O)
  | [], h => some (true, h)
  | (x, q) :: r, h => match Y x q h with
    | some (true, h') => walk Y r h'
    | some (false, h') => some (false, h')
    | none => none
def andThen (r : Option (Bool × List O)) (f : List O → Option (Bool × List O)) : Option (Bool × List O) := match r with
  | some (true, h) => f h
  | some (false, h) => some (false, h)
  | none => none
theorem walk_app (Y : D → List Int → List O → Option (Bool × List O)) : ∀ (a b : List (D × List Int)) (h : List O), walk Y (a ++ b) h = andThen (walk Y a h) (walk Y b)
  | [], b, h => rfl
  | (x, q) :: a, b, h => by
    simp only [List.cons_append, walk]
    cases Y x q h with
    | none => rfl
    | some r =>
      obtain ⟨c, h'⟩ := r
      cases c with
      | true => exact walk_app Y a b h'
      | false => rfl
theorem walk_len {cf : CallF} {f : Nat} {caps : List V} : ∀ (a : List (D × List Int)) {h : List O} {b : Bool} {h' : List O}, walk (fun x q h => yieldV cf f caps x.v q h) a h = some (b, h') → h'.length = h.length
  | [], h, b, h', e => by simp only [walk, Option.some.injEq, Prod.mk.injEq] at e; rw [e.2]
  | (x, q) :: a, h, b, h', e => by
    simp only [walk] at e
    split at e
    · rename_i h1 e1
      rw [walk_len a e, (yieldV_spec e1).2.1]
    · rename_i h1 e1
      simp only [Option.some.injEq, Prod.mk.injEq] at e
      rw [← e.2, (yieldV_spec e1).2.1]
    · cases e

/-- The walk of datum.each. -/
theorem each_walk {cf : CallF} {f : Nat} {caps : List V} : ∀ (d : D) (k : Nat) (ps : List Int) (h : List O), d.sz ≤ k → d.sz + ps.length ≤ 1099511627776 → V.lows h.length caps = true →
    eachV cf f caps k d.v ps h = walk (fun x q h => yieldV cf f caps x.v q h) (d.pre ps) h := by
  refine D.ind fun k n t l ih => ?_
  intro fu ps h hk hp hc
  simp only [D.sz] at hk hp
  obtain ⟨fu, rfl⟩ : ∃ m', fu = m' + 1 := ⟨fu - 1, by omega⟩
  have hlen := D.len_szs l
  have hall : (D.vs l).all (fun u => u.cells.length == 4 && V.low h.length u) = true := by
    rw [D.vs_map, List.all_eq_true]
    intro u hu
    obtain ⟨d, _, rfl⟩ := List.mem_map.1 hu
    simp [D.cells_len, D.low]
  have hL : ∀ (us : List D) (i : Nat) (h1 : List O), (∀ x ∈ us, x ∈ l) → h1.length = h.length → eachL (eachV cf f caps fu) ps i (D.vs us) h1 = walk (fun x q h => yieldV cf f caps x.v q h) (D.pres us ps i) h1 := by
    intro us
    induction us with
    | nil => intro i h1 _ _; rfl
    | cons u us ihu =>
      intro i h1 hm hl
      have hu := hm u (by simp)
      have hus := D.mem_sz hu
      have hsz := D.sz_pos u
      simp only [D.vs, eachL, D.pres, walk_app]
      rw [ih u hu fu (ps ++ [(i : Int)]) h1 (by omega) (by simp; omega) (by rw [hl]; exact hc)]
      cases hw : walk (fun x q h => yieldV cf f caps x.v q h) (u.pre (ps ++ [(i : Int)])) h1 with
      | none => rfl
      | some r =>
        obtain ⟨b, h2⟩ := r
        cases b with
        | true => exact ihu (i + 1) h2 (fun x hx => hm x (by simp [hx])) ((walk_len _ hw).trans hl)
        | false => rfl
  simp only [D.v, eachV, D.pre, walk]
  rw [if_pos ⟨hall, by rw [D.vs_len]; omega, by omega, hc, rfl, rfl, rfl⟩]
  cases hy : yieldV cf f caps (.agg [.c (.int .i64 k), .c (.int .i64 n), .c (.string t), .sl (D.vs l) .any]) ps h with
  | none => rfl
  | some r =>
    obtain ⟨b, h1⟩ := r
    cases b with
    | true => exact hL l 0 h1 (fun x hx => hx) (yieldV_spec hy).2.1
    | false => rfl

mutual
theorem D.pre_len : ∀ (d : D) (ps : List Int), (d.pre ps).length = d.sz
  | .mk k n t l, ps => by simp only [D.pre, List.length_cons, D.sz, D.pres_len l ps 0]; omega
theorem D.pres_len : ∀ (l : List D) (ps : List Int) (i : Nat), (D.pres l ps i).length = D.szs l
  | [], _, _ => rfl
  | d :: l, ps, i => by simp only [D.pres, List.length_append, D.szs, D.pre_len d, D.pres_len l]
end

theorem call45 {n : Nat} {d : D} {q : Nat} {caps : List V} {h : List O} (hs : d.sz ≤ n) (hp : d.sz ≤ 1099511627776) (hc : V.lows h.length caps = true) :
    call X E (n + 1) 45 [d.v, .sl [] .nil, .clo q caps] h = (walk (fun x p h => yieldV (call X E n) q caps x.v p h) (d.pre []) h).map fun r => (.c (.bool r.1), r.2) := by
  have hE : E 45 = some eachE := rfl
  simp only [call, hE, eachE, callee_clo]
  rw [each_walk d n [] h hs (by simpa using hp) hc]

/-- One visit, of a closure that keeps the path. -/
theorem yield_of {cf : CallF} {q : Nat} {caps : List V} {x : D} {ps : List Int} {h h' : List O} {b : Bool} (hc : V.lows h.length caps = true) (hl : h.all (O.low (h.length + 1)) = true) (hl' : h'.all (O.low h.length) = true) (hn : h'.length = h.length)
    (e : cf q (x.v :: .row h.length 0 ps.length none :: caps) (h ++ [pcell ps]) = some (.c (.bool b), h' ++ [pcell ps])) : yieldV cf q caps x.v ps h = some (b, h') := by
  have hpl : O.low (h.length + 1) (pcell ps) = true := by
    simp only [O.low, pcell]
    refine lows_of fun v hv => ?_
    obtain ⟨i, _, rfl⟩ := List.mem_map.1 hv
    simp [I64, V.low]
  have hfr : frameCf (h.length + 1) cf q (x.v :: .row h.length 0 ps.length none :: caps) (h ++ [pcell ps]) = some (.c (.bool b), h' ++ [pcell ps]) := by
    unfold frameCf
    have ht : (h ++ [pcell ps]).take (h.length + 1) = h ++ [pcell ps] := by rw [List.take_of_length_le]; simp
    have hd : (h ++ [pcell ps]).drop (h.length + 1) = [] := by rw [List.drop_of_length_le]; simp
    rw [ht, hd, e]
    rw [if_pos ⟨by simp, by simp [V.lows, D.low, V.low, lows_mono (Nat.le_succ _) _ hc], by simp only [List.all_append, hl, List.all_cons, hpl, List.all_nil, Bool.and_self]⟩]
    simp [hn]
  unfold yieldV
  rw [hfr]
  have h1 : (h' ++ [pcell ps])[h.length]? = some (pcell ps) := by rw [← hn]; simp
  have h2 : (h' ++ [pcell ps]).take h.length = h' := by rw [← hn]; simp
  simp only [h1, h2, samePath_self, hl', and_self, if_true]

theorem olow1 {n n' : Nat} (hn : n ≤ n') {o : O} (h : O.low n o = true) : O.low n' o = true := by
  have := olow_mono hn (h := [o]) (by simp [h])
  simpa using this
theorem olow_cells (n : Nat) (cs : List V) : O.low n (.cells cs) = V.lows n cs := rfl
theorem low_pcell (n : Nat) (ps : List Int) : O.low n (pcell ps) = true := by
  rw [pcell, olow_cells]
  refine lows_of fun v hv => ?_
  obtain ⟨i, _, rfl⟩ := List.mem_map.1 hv
  simp [I64, V.low]
theorem run46 {n : Nat} {x : D} {ps : List Int} {a : O} {c : Int} (hc : -1 ≤ c ∧ c < 4611686018427387904) (ha : O.low 2 a = true) : yieldV (call X E (n + 1)) 46 [.ref 1 0] x.v ps [a, .cells [.c (.int .i64 c)]] = some (true, [a, .cells [.c (.int .i64 (c + 1))]]) := by
  refine yield_of (by simp [V.lows, V.low]) ?_ ?_ rfl ?_
  · simp [olow_cells, V.lows, V.low, olow1 (Nat.le_succ 2) ha]
  · simp [olow_cells, V.lows, V.low, ha]
  · have hE : E 46 = none := rfl
    have hX : X 46 = some x46 := rfl
    simp only [call, hE, hX]
    refine runF_at (by kernel_rfl) rfl rfl (wpk_of ?_)
    have hw : IntKind.i64.wrap (c + 1) = c + 1 := wrap_in (by omega)
    simp -implicitDefEqProofs [x46_w, x46_r, x46r1_w, x46r2_w, x46r3_w, D.vw2, D.okc, D.rd, hw]
    simp [olow_cells, V.lows, V.low, olow1 (Nat.le_succ 2) ha, low_pcell]
end Go.Proofs.Ytbkgpdkimcnpgaa.Ab
