/- The path, longer by one. -/
import Derived.Test.YtkiliokeanmagaaDoorAb20
namespace Go.Proofs.YtkiliokeanmagaaDoor.Ab
open Go
set_option linter.unusedVariables false
set_option linter.unusedSimpArgs false

/-- The longer path, ahead of the call. -/
def Appd (g : Gh) (w0 w : World) (m : Nat) (ps : List Int) (x : Value) : Prop :=
  ∃ b cap c T, x = .slice (some ⟨b, 0, none⟩) ps.length cap ∧ ps.length ≤ cap ∧ w.heap[b]? = some (.cells c T (0, 0)) ∧ cap ≤ c.size ∧ (∀ j (hj : j < ps.length), c[j]? = some (.int .i64 ps[j])) ∧ Whose g w0 m b

section
variable {P : Program}
theorem append_inv {rw rw' : Bool} {al al' : Nat} {op : Op} {z : Option Nat} {by' : Nat} {x y : A} {pre : List O} (h : trOp P rw al op = some (.append al' z by' rw' x y, pre)) :
    ∃ t u e e2 X Y i zz, op = .call ⟨.builtin .append, #[X, Y], #[t, u]⟩ ∧ P.underlying t = some (.slice e) ∧ P.underlying u = some (.slice e2) ∧ trA X = some x ∧ trA Y = some y ∧ P.info? e = some i ∧ zeroT P e = some zz ∧ zc z = i.size ∧ by' = i.bytes := by
  have key : ∀ c, op = .call c → ∃ t u e e2 X Y i zz, op = .call ⟨.builtin .append, #[X, Y], #[t, u]⟩ ∧ P.underlying t = some (.slice e) ∧ P.underlying u = some (.slice e2) ∧ trA X = some x ∧ trA Y = some y ∧ P.info? e = some i ∧ zeroT P e = some zz ∧ zc z = i.size ∧ by' = i.bytes := by
    rintro ⟨cal, args, tys⟩ rfl
    simp only [trOp] at h
    cases cal with
    | invoke r m => simp [trCall] at h
    | value F =>
      simp only [trCall] at h
      split at h
      · simp at h
      · cases h
    | builtin b =>
      cases b
      case append =>
        simp only [trCall] at h
        split at h
        · rename_i X Y t u h1 h2
          have hX : args = #[X, Y] := Array.ext' h1
          have hT : tys = #[t, u] := Array.ext' h2
          subst hX hT
          simp only [trApp] at h
          split at h
          · rename_i e e2 x' y' hu1 hu2 hx' hy'
            split at h
            · rename_i i zz zn hi hzz hzn
              split at h
              · rename_i hzi
                simp only [Option.some.injEq, Prod.mk.injEq, XOp.append.injEq] at h
                obtain ⟨⟨rfl, rfl, rfl, rfl, rfl, rfl⟩, _⟩ := h
                exact ⟨t, u, e, e2, X, Y, i, zz, rfl, hu1, hu2, hx', hy', hi, hzz, hzi, rfl⟩
              · cases h
            · cases h
          · cases h
        · cases h
      all_goals (first
        | (simp only [trCall] at h; cases h; done)
        | (simp only [trCall, Option.map_eq_some_iff, Prod.mk.injEq, reduceCtorEq, false_and, and_false, exists_false] at h; done)
        | (exfalso; simp only [trCall, trLen] at h
           repeat' split at h
           all_goals simp [Option.map_eq_some_iff] at h))
  cases op
  case call c => exact key c rfl
  case makeMap t r => exfalso; cases r <;> simp [trOp] at h
  case makeFunc fn first caps =>
    exfalso
    cases fn <;> simp only [trOp] at h
    all_goals (repeat' split at h)
    all_goals simp [Option.map_eq_some_iff] at h
  all_goals (exfalso; try simp only [trOp] at h)
  all_goals (first
    | (cases h; done)
    | (simp only [Option.map_eq_some_iff, Prod.mk.injEq, reduceCtorEq, false_and, and_false, exists_false] at h; done)
    | (repeat' split at h
       all_goals simp [Option.map_eq_some_iff] at h))

theorem append_kid {rw rw' : Bool} {al al' : Nat} {o : Oper} {by' : Nat} {x y : A} {pre : List O} (htr : trOp P rw al o.op = some (.append al' none by' rw' x y, pre)) {g : Gh} {w w0 : World} {a : Act} {tm : List V} {h : List O} (ht : Tm g w a tm) (H : HOk g w h)
    (hsz : w0.heap.size ≤ w.heap.size) {m : Nat} {ps : List Int} {i : Int} {si : SI} (hx : PV m ps (ev tm x)) (hy : ev tm y = .sl [I64 i] si) (hm : ev tm x = .buf m ps.length → h[m]? = some (pcell ps)) (hby : (ps.length + 1) * by' ≤ 140737488355328) (h63 : ps.length + 1 ≤ 9223372036854775807) :
    ∃ val w', (execOp a.eval o).run P w = .ok (.value val) w' ∧ Le g w g w' ∧ HOk g w' h ∧ Appd g w0 w' m (ps ++ [i]) val := by
  obtain ⟨t, u, e, e2, X, Y, inf, zz, hop, hu1, hu2, hX, hY, hi, hzz, hz, rfl⟩ := append_inv htr
  simp only [zc] at hz
  obtain ⟨zv, i', hi', hz0, hzs, _, _⟩ := zero_ok (P := P) (g := g) (w := w) hzz
  have hii : i' = inf := by rw [hi] at hi'; exact (Option.some.inj hi').symm
  subst hii
  have hxr := ev_rep ht hX
  have hyr := ev_rep ht hY
  rw [hy] at hyr
  obtain ⟨A2, cap2, z2, cw, hye, _, hz2, hA2, hrw, _⟩ := hyr.of_sl
  have hz2' : z2 = 1 := by have := hz2 (I64 i) (by simp); simpa [I64, V.cells] using this.symm
  subst hz2'
  obtain ⟨sw, ow⟩ := sl_src hz2 hA2
  have hcw : cw 0 = .int .i64 i := rep_I64 (hrw 0 (by simp [flats, I64, V.cells]))
  have hnews : (List.range ([I64 i].length * 1)).map cw = [.int .i64 i] := by simp [hcw]
  rw [hnews] at sw ow
  simp only [List.length_cons, List.length_nil] at hye
  have hrun : ∀ {A : Option Addr} {n cap : Nat} {r w'}, a.eval X = .slice A n cap → (Builtin.append_ #[t, u] o.type #[.slice A n cap, .slice A2 1 cap2]).run P w = .ok r w' → (execOp a.eval o).run P w = .ok (.value r) w' := by
    intro A n cap r w' he hr
    simp only [execOp, hop, resolve, invoke, builtin, Sem.run_bind, Sem.run_pure, Result.andThen_ok, List.map_toArray, List.map_cons, List.map_nil, he, hye]
    rw [hr]
    rfl
  have hln : ([.int .i64 i] : List Value).length = 1 * i'.size := by rw [← hz]; rfl
  -- a new block
  have grows : ∀ {A : Option Addr} {cap : Nat}, a.eval X = .slice A ps.length cap → cap < ps.length + 1 → ∀ olds : List Value, olds = ps.map (fun p => Value.int .i64 p) → Src w A olds →
      ∃ val w', (execOp a.eval o).run P w = .ok (.value val) w' ∧ Le g w g w' ∧ HOk g w' h ∧ Appd g w0 w' m (ps ++ [i]) val := by
    intro A cap he hgc olds holds so
    have hlo : olds.length = ps.length * i'.size := by rw [holds, ← hz]; simp
    have hr := app_grow (P := P) (w := w) (ty := o.type) (c2 := cap2) hu1 hu2 hi hz0 hlo so hln sw hgc hby h63
    have hgcap := grownCap_ge w (ps.length + 1) cap e
    obtain ⟨k1, k2⟩ := H.grew (Grew.drewAlloc w (.cells (olds ++ [Value.int .i64 i] ++ (Builtin.zeroCells zv.cells (grownCap w (ps.length + 1) cap e - (ps.length + 1))).toList).toArray e))
    refine ⟨_, _, hrun he hr, k1, k2, w.heap.size, grownCap w (ps.length + 1) cap e, _, _, by simp, by simpa using hgcap, (Grew.new (Grew.drewAlloc w _)), ?_, fun j hj => ?_, .inr ⟨hsz, fun ho => ?_, fun o' ho => ?_⟩⟩
    · simp only [List.size_toArray, List.length_append, hlo, List.length_cons, List.length_nil, Array.length_toList, size_zeroCells, hzs, ← hz]; omega
    · have hj' : j < ps.length + 1 := by simpa using hj
      rw [List.getElem?_toArray, List.getElem?_append_left (by rw [holds]; simpa using hj'), holds, List.getElem?_append]
      simp only [List.length_map]
      by_cases c : j < ps.length
      · simp [c, List.getElem_append_left c]
      · have : j = ps.length := by omega
        subst this
        simp
    · have := H.owns_lt ho; omega
    · have := H.al _ _ ho; omega
  rcases hx with hx | ⟨hx, hps⟩
  · rw [hx] at hxr
    have hm := hm hx
    generalize hE : a.eval X = ex at hxr
    cases hxr with
    | buf A _ cap _ hc hA =>
      obtain ⟨b, cc, T, rfl, hb, hheap, hcap⟩ := hA
      obtain ⟨cs0, c0, T0, h1, h2, h3, h4, h5⟩ := H.cellsOf hb hm
      have hcs0 : cs0 = ps.map I64 := by rw [hm] at h1; simp only [Option.some.injEq, pcell, O.cells.injEq] at h1; exact h1.symm
      have hc0 : c0 = cc ∧ T0 = T := by rw [hheap] at h2; simp at h2; exact ⟨h2.1.symm, h2.2.symm⟩
      obtain ⟨rfl, rfl⟩ := hc0
      subst hcs0
      have hcell : ∀ j (hj : j < ps.length), c0[j]? = some (Value.int .i64 ps[j]) := by
        intro j hj
        have hj2 : j < c0.size := by simp at h3; omega
        have := (h4 j (by simpa using hj) hj2).1
        rw [List.getElem_map] at this
        rw [Array.getElem?_eq_getElem hj2, rep_I64 this]
      by_cases hroom : ps.length + 1 ≤ cap
      · have hfit : ps.length * i'.size + ([.int .i64 i] : List Value).length ≤ c0.size := by rw [← hz]; simp; omega
        have hr := app_fit (P := P) (w := w) (ty := o.type) (c2 := cap2) hu1 hu2 hi hheap hln sw ow hroom hfit
        rw [← hz, Nat.mul_one] at hr
        have hsz2 : (c0.toList.take ps.length ++ [Value.int .i64 i] ++ c0.toList.drop (ps.length + ([.int .i64 i] : List Value).length)).length = c0.size := by
          simp only [List.length_append, List.length_take, List.length_drop, Array.length_toList, List.length_cons, List.length_nil]; omega
        have hnew : ∀ j (hj : j < (ps ++ [i]).length), (c0.toList.take ps.length ++ [Value.int .i64 i] ++ c0.toList.drop (ps.length + ([.int .i64 i] : List Value).length)).toArray[j]? = some (Value.int .i64 (ps ++ [i])[j]) := by
          intro j hj
          have hj' : j < ps.length + 1 := by simpa using hj
          have hlen : (c0.toList.take ps.length).length = ps.length := by simp; omega
          rw [List.getElem?_toArray, List.append_assoc, List.getElem?_append, hlen]
          by_cases c : j < ps.length
          · simp only [c, if_true, List.getElem?_take, List.getElem_append_left c]
            have := hcell j c
            simpa using this
          · have : j = ps.length := by omega
            subst this
            simp
        obtain ⟨k1, k2⟩ := H.storeCells hb hm hheap (c' := (c0.toList.take ps.length ++ [Value.int .i64 i] ++ c0.toList.drop (ps.length + ([.int .i64 i] : List Value).length)).toArray) (cs' := ps.map I64) (by simpa using hsz2) rfl (fun j hj hk => by
          have hj' : j < ps.length := by simpa using hj
          have := hnew j (by simp; omega)
          rw [Array.getElem?_eq_getElem hk] at this
          rw [Option.some.inj this, List.getElem_map, List.getElem_append_left hj']
          exact ⟨.c _, rfl⟩)
        rw [show O.cells (ps.map I64) = pcell ps from rfl, set_same hm] at k2
        refine ⟨_, _, hrun hE hr, k1, k2, b, cap, _, T0, by simp, by simpa using hroom, setRow_heap w _ _ _ _ _ hheap, by simp only [List.size_toArray, hsz2]; exact hcap, hnew, .inl hb⟩
      · refine grows hE (by omega) _ rfl (.inr ⟨_, rfl, fun j v hj => ?_⟩)
        rw [List.getElem?_map] at hj
        obtain ⟨p, hp, rfl⟩ := Option.map_eq_some_iff.1 hj
        obtain ⟨hj', rfl⟩ := List.getElem?_eq_some_iff.1 hp
        rw [Addr.add_lit, Nat.zero_add, cell_of hheap]
        exact hcell j hj'
  · subst hps
    rw [hx] at hxr
    generalize hE : a.eval X = ex at hxr
    cases hxr with
    | sl A n cap _ _ z cv hn hc hzz hA hr hsi =>
      obtain ⟨rfl, rfl⟩ := hsi
      have : n = 0 := by simpa using hn
      subst this
      exact grows (cap := 0) hE (by simp) [] rfl (.inl rfl)
end
end Go.Proofs.YtkiliokeanmagaaDoor.Ab
