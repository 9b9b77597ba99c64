/- Operations that may change places. -/
import Derived.Test.YtkiliokeanmagaaDoorAb10
namespace Go.Proofs.YtkiliokeanmagaaDoor.Ab
open Go
set_option linter.unusedVariables false
set_option linter.unusedSimpArgs false

def A.rd : A → List Nat
  | .t i => [i]
  | .k _ => []
def oRd : Option A → List Nat
  | some x => x.rd
  | none => []
def XOp.rd : XOp → List Nat
  | .mv x => x.rd
  | .pick c a b => c.rd ++ (a.rd ++ b.rd)
  | .alloc _ _ => []
  | .box _ x => x.rd
  | .build _ parts => parts.flatMap fun p => p.2.2.rd
  | .bslice _ _ parts => parts.flatMap A.rd
  | .load _ x => x.rd
  | .store _ a x => a.rd ++ x.rd
  | .bin _ _ x y => x.rd ++ y.rd
  | .un _ x => x.rd
  | .fieldAddr _ x => x.rd
  | .field _ _ x => x.rd
  | .indexAddr _ x i => x.rd ++ i.rd
  | .index x i => x.rd ++ i.rd
  | .slice _ _ x lo hi mx => x.rd ++ (oRd lo ++ (oRd hi ++ oRd mx))
  | .extract x _ => x.rd
  | .len _ x => x.rd
  | .append _ _ _ _ x y => x.rd ++ y.rd
  | .mm _ args => args.flatMap A.rd
  | .conv _ x => x.rd
  | .call f args => f.rd ++ args.flatMap A.rd
  | .clos _ caps => caps.flatMap A.rd
  | .nilchk x => x.rd
  | .makeMap _ => []
  | .lookup _ _ x k => x.rd ++ k.rd
  | .mapUpd m k v => m.rd ++ (k.rd ++ v.rd)
  | .load1 x => x.rd
def XOper.rd (o : XOper) : List Nat := o.op.rd ++ (match o.g with
  | some (t, _) => [t]
  | none => [])

/-- Temporaries that agree at some places. -/
def Agr (l : List Nat) (tm tm' : List V) : Prop := ∀ t ∈ l, tm[t]? = tm'[t]?
theorem Agr.left {l l' : List Nat} {tm tm' : List V} (h : Agr (l ++ l') tm tm') : Agr l tm tm' := fun t ht => h t (List.mem_append_left _ ht)
theorem Agr.right {l l' : List Nat} {tm tm' : List V} (h : Agr (l ++ l') tm tm') : Agr l' tm tm' := fun t ht => h t (List.mem_append_right _ ht)

theorem ev_agr {tm tm' : List V} {x : A} (h : Agr x.rd tm tm') : ev tm x = ev tm' x := by
  cases x with
  | t i => simp only [ev, List.getD_eq_getElem?_getD, h i (by simp [A.rd])]
  | k v => rfl
theorem evs_agr {tm tm' : List V} : ∀ {xs : List A}, Agr (xs.flatMap A.rd) tm tm' → xs.map (ev tm) = xs.map (ev tm')
  | [], _ => rfl
  | x :: xs, h => by
    simp only [List.flatMap_cons] at h
    simp only [List.map_cons, ev_agr h.left, evs_agr h.right]
theorem fill_agr {tm tm' : List V} : ∀ {parts : List (Nat × Nat × A)} {z : List V}, Agr (parts.flatMap fun p => p.2.2.rd) tm tm' → fillV z tm parts = fillV z tm' parts
  | [], _, _ => rfl
  | (off, n, x) :: r, z, h => by
    simp only [List.flatMap_cons] at h
    simp only [fillV, ev_agr h.left, fill_agr h.right]
theorem oidx_agr {tm tm' : List V} {d : Int} {x : Option A} (h : Agr (oRd x) tm tm') : optIdx tm d x = optIdx tm' d x := by
  cases x with
  | none => rfl
  | some x => simp only [optIdx, ev_agr h]

theorem pureV_agr {tm tm' : List V} {rb : Nat} {op : XOp} (h : Agr op.rd tm tm') : pureV tm rb op = pureV tm' rb op := by
  cases op <;> simp only [XOp.rd] at h
  case build z parts => simp only [pureV, fill_agr h]
  case bslice al z parts =>
    have : (parts.map fun x => (ev tm x).vw2) = parts.map fun x => (ev tm' x).vw2 := by
      have := evs_agr h
      have := congrArg (List.map V.vw2) this
      simpa [List.map_map] using this
    simp only [pureV, this]
  case mm b args => simp only [pureV, evs_agr h]
  case clos f caps => simp only [pureV, evs_agr h]
  case slice str z x lo hi mx =>
    have e1 := ev_agr h.left
    have e2 := fun d => oidx_agr (d := d) h.right.left
    have e3 := fun d => oidx_agr (d := d) h.right.right.left
    have h4 := h.right.right.right
    have e5 : ∀ s, stV tm s lo hi mx = stV tm' s lo hi mx := by
      intro s; simp only [stV, e2, e3]
    have e6 : ∀ us, slV tm us z lo hi mx = slV tm' us z lo hi mx := by
      intro us
      simp only [slV, e2, e3]
      cases optIdx tm' 0 lo with
      | none => rfl
      | some l => cases optIdx tm' (us.length : Int) hi with
        | none => rfl
        | some k => cases mx with
          | none => rfl
          | some m => simp only [oRd] at h4; simp only [ev_agr h4]
    have e7 : ∀ id off n zz, rowV tm id off n zz z lo hi mx = rowV tm' id off n zz z lo hi mx := by
      intro id off n zz
      simp only [rowV, e2, e3]
      split
      · cases optIdx tm' 0 lo with
        | none => rfl
        | some l => cases optIdx tm' (n : Int) hi with
          | none => rfl
          | some k => cases mx with
            | none => rfl
            | some m => simp only [oRd] at h4; simp only [ev_agr h4]
      · rfl
    simp only [pureV, e1, e5, e6, e7]
  case pick c a b => simp only [pureV, ev_agr h.left, ev_agr h.right.left, ev_agr h.right.right]
  all_goals first
    | (simp only [pureV]; done)
    | (simp only [pureV, ev_agr h]; done)
    | (simp only [pureV, ev_agr h.left, ev_agr h.right]; done)

theorem act_agr {cf : CallF} {st : St} {tm' : List V} {op : XOp} (h : Agr op.rd st.tm tm') : act cf st op = act cf { st with tm := tm' } op := by
  cases op
  case load n x => simp only [XOp.rd] at h; simp only [act, ev_agr h]
  case store n a x => simp only [XOp.rd] at h; simp only [act, ev_agr h.left, ev_agr h.right]
  case box al x => simp only [XOp.rd] at h; simp only [act, ev_agr h]
  case append al z b rw x y => simp only [XOp.rd] at h; simp only [act, ev_agr h.left, ev_agr h.right]
  case call f args => simp only [XOp.rd] at h; simp only [act, ev_agr h.left, evs_agr h.right]
  case makeMap al => simp only [act]
  case lookup z ok x k => simp only [XOp.rd] at h; simp only [act, ev_agr h.left, ev_agr h.right]
  case mapUpd m k u => simp only [XOp.rd] at h; simp only [act, ev_agr h.left, ev_agr h.right.left, ev_agr h.right.right]
  case load1 x => simp only [XOp.rd] at h; simp only [act, ev_agr h]
  all_goals (simp only [act]; rw [pureV_agr h])

/-- 0: does not look at the objects; 1: looks at cells alone: a load, a call that keeps to itself; 2: an append; 3: anything else; 4: a call that only adds objects. -/
def cls (pf : Nat → Nat) : XOp → Nat
  | .load _ _ => 1
  | .append _ _ _ rw _ _ => if rw then 3 else 2
  | .store _ _ _ => 3
  | .box _ _ => 3
  | .call (.k v) _ => match callee v with
    | some (f, _) => if pf f = 1 then 1 else if pf f = 2 then 4 else 3
    | none => 3
  | .call _ _ => 3
  | .makeMap _ => 3
  | .lookup _ _ _ _ => 1
  | .mapUpd _ _ _ => 3
  | .load1 _ => 1
  | _ => 0
/-- The cells of the one are those of the other. -/
def O.isC : O → Prop
  | .cells _ => True
  | .tokc _ _ _ => True
  | .mapo _ _ => True
  | _ => False
def CellsLe (h h2 : List O) : Prop := ∀ (id : Nat) (o : O), O.isC o → h[id]? = some o → h2[id]? = some o
def PureCf (pf : Nat → Nat) (cf : CallF) : Prop := ∀ f args h r h', cf f args h = some (r, h') → (pf f = 1 → h' = h ∧ ∀ h2, CellsLe h h2 → cf f args h2 = some (r, h2)) ∧ (pf f = 2 → CellsLe h h')

theorem act_cls0 {pf : Nat → Nat} {cf : CallF} {st : St} {op : XOp} (hc : cls pf op = 0) (h2 : List O) : act cf { st with h := h2 } op = (act cf st op).map fun r => (r.1, h2) := by
  cases op
  case load n x => simp [cls] at hc
  case store n a x => simp [cls] at hc
  case box al x => simp [cls] at hc
  case makeMap al => simp [cls] at hc
  case lookup z ok x k => simp [cls] at hc
  case mapUpd m k u => simp [cls] at hc
  case load1 x => simp [cls] at hc
  case append al z b rw x y => simp only [cls] at hc; split at hc <;> cases hc
  case call f args =>
    cases f with
    | t i => simp [cls] at hc
    | k v =>
      simp only [cls] at hc
      split at hc
      · split at hc
        · cases hc
        · split at hc <;> cases hc
      · cases hc
  all_goals (simp only [act, Option.map_map]; rfl)

theorem act_cls1 {pf : Nat → Nat} {cf : CallF} (hp : PureCf pf cf) {st : St} {op : XOp} (hc : cls pf op = 1) {v : V} {h' : List O} (e : act cf st op = some (v, h')) :
    h' = st.h ∧ ∀ h2 : List O, CellsLe st.h h2 → act cf { st with h := h2 } op = some (v, h2) := by
  cases op
  case load n x =>
    simp only [act] at e ⊢
    cases hx : ev st.tm x with
    | ref id o =>
      rw [hx] at e
      simp only at e
      split at e
      · rename_i cs hcs
        simp only [Option.map_eq_some_iff, Prod.mk.injEq] at e
        obtain ⟨v', hv, rfl, rfl⟩ := e
        exact ⟨rfl, fun h2 hh => by simp only [hh _ (O.cells _) trivial hcs, hv, Option.map_some]⟩
      · cases e
    | ptr cs o =>
      rw [hx] at e
      simp only [Option.map_eq_some_iff, Prod.mk.injEq] at e
      obtain ⟨v', hv, rfl, rfl⟩ := e
      exact ⟨rfl, fun h2 hh => by simp only [hv, Option.map_some]⟩
    | _ => rw [hx] at e; simp at e
  case load1 x =>
    simp only [act] at e ⊢
    split at e
    · split at e
      · rename_i c hcs
        simp only [Option.some.injEq, Prod.mk.injEq] at e
        obtain ⟨rfl, rfl⟩ := e
        exact ⟨rfl, fun h2 hh => by simp only [hh _ (O.cells _) trivial hcs]⟩
      · cases e
    · cases e
  case lookup z ok x k =>
    simp only [act] at e ⊢
    split at e
    · simp only [Option.map_eq_some_iff, Prod.mk.injEq] at e
      obtain ⟨q, hq, rfl, rfl⟩ := e
      exact ⟨rfl, fun h2 hh => by simp only [hq, Option.map_some]⟩
    · split at e
      · rename_i ks vs hid
        simp only [Option.map_eq_some_iff, Prod.mk.injEq] at e
        obtain ⟨q, hq, rfl, rfl⟩ := e
        exact ⟨rfl, fun h2 hh => by simp only [hh _ (O.mapo _ _) trivial hid, hq, Option.map_some]⟩
      · cases e
    · cases e
  case append al z b rw x y => simp only [cls] at hc; split at hc <;> cases hc
  case call f args =>
    cases f with
    | t i => simp [cls] at hc
    | k v =>
      simp only [cls] at hc
      simp only [act, ev] at e ⊢
      cases hv : callee v with
      | none => rw [hv] at hc; simp at hc
      | some p =>
        obtain ⟨f, caps⟩ := p
        rw [hv] at hc
        simp only at hc
        rw [callV_fn hv] at e
        simp only [callV_fn hv]
        have hpf : pf f = 1 := by
          split at hc
          · assumption
          · split at hc <;> cases hc
        split at e
        rotate_left
        · cases e
        rename_i hfr
        obtain ⟨hcf, hlen⟩ := longer_some e
        obtain ⟨rfl, k⟩ := (hp f _ _ _ _ hcf).1 hpf
        exact ⟨rfl, fun h2 hh => by simp [hfr, longer, k h2 hh]⟩
  all_goals simp [cls] at hc

theorem act_append {cf : CallF} {st : St} {al b : Nat} {z : Option Nat} {x y : A} {v : V} {h' : List O} (e : act cf st (.append al z b false x y) = some (v, h')) :
    (h' = st.h ∨ ∃ (s n z' : Nat), h' = st.h.set s (O.tok n z') ∧ ∀ o : O, O.isC o → st.h[s]? ≠ some o) := by
  simp only [act] at e
  split at e
  · split at e
    · split at e
      · simp only [Option.some.injEq, Prod.mk.injEq] at e
        exact .inl e.2.symm
      · split at e
        · split at e
          · rename_i hd
            simp only [Bool.false_eq_true, if_false, Option.some.injEq, Prod.mk.injEq] at e
            exact .inr ⟨_, _, _, e.2.symm, fun o ho => by rw [hd]; rintro ⟨⟩; exact ho⟩
          · rename_i hd
            simp only [Bool.false_eq_true, if_false, Option.some.injEq, Prod.mk.injEq] at e
            refine .inr ⟨_, _, _, e.2.symm, fun o ho => ?_⟩
            rcases freeSlot_spec st.h st.base (st.rb + al) with hs | hs
            · rw [hs, hd]; rintro ⟨⟩; exact ho
            · rw [hs]; rintro ⟨⟩; exact ho
          · cases e
        · split at e
          · rename_i hd
            simp only [Bool.false_eq_true, if_false, Option.some.injEq, Prod.mk.injEq] at e
            exact .inr ⟨_, _, _, e.2.symm, fun o ho => by rw [hd]; rintro ⟨⟩; exact ho⟩
          · rename_i hd
            simp only [Bool.false_eq_true, if_false, Option.some.injEq, Prod.mk.injEq] at e
            refine .inr ⟨_, _, _, e.2.symm, fun o ho => ?_⟩
            rcases freeSlot_spec st.h st.base (st.rb + al) with hs | hs
            · rw [hs, hd]; rintro ⟨⟩; exact ho
            · rw [hs]; rintro ⟨⟩; exact ho
          · cases e
        · split at e
          · rename_i hd
            split at e
            · simp only [Option.some.injEq, Prod.mk.injEq] at e
              exact .inr ⟨_, _, _, e.2.symm, fun o ho => by rw [hd]; rintro ⟨⟩; exact ho⟩
            · cases e
          · cases e
        all_goals cases e
    · cases e
  · split at e
    · rename_i hc
      exact absurd hc.1 (by simp)
    · cases e
  · cases e

/-- The appended elements are the same wherever the cells are. -/
theorem srcV_le {h h2 : List O} (hh : CellsLe h h2) {v : V} {ws : List V} (e : srcV h v = some ws) : srcV h2 v = some ws := by
  unfold srcV at e ⊢
  split at e
  · exact e
  · split at e
    · rename_i cs hcs
      simp only [hh _ (O.cells _) trivial hcs]
      exact e
    · cases e
  · cases e

/-- What an operation gives, guard and all. -/
def give (cf : CallF) (o : XOper) (st : St) : Option (V × List O) := if known st.tm o.g then if wants st.tm o.g then act cf st o.op else some (undefV, st.h) else none
theorem step_give (cf : CallF) (o : XOper) (st : St) : stepO cf o st = (give cf o st).map fun r => { st with tm := putV st.tm o.d r.1, h := r.2 } := by
  unfold stepO give
  split
  · split
    · cases act cf st o.op <;> rfl
    · rfl
  · rfl
theorem wants_agr {tm tm' : List V} {gd : Option (Nat × Bool)} (h : Agr (match gd with | some (t, _) => [t] | none => []) tm tm') : wants tm gd = wants tm' gd := by
  cases gd with
  | none => rfl
  | some p => obtain ⟨t, b⟩ := p; simp only [wants, h t (by simp)]
theorem known_agr {tm tm' : List V} {gd : Option (Nat × Bool)} (h : Agr (match gd with | some (t, _) => [t] | none => []) tm tm') : known tm gd = known tm' gd := by
  cases gd with
  | none => rfl
  | some p => obtain ⟨t, b⟩ := p; simp only [known, h t (by simp)]
theorem give_agr {cf : CallF} {o : XOper} {st : St} {tm' : List V} (h : Agr o.rd st.tm tm') : give cf o st = give cf o { st with tm := tm' } := by
  unfold give
  unfold XOper.rd at h
  rw [wants_agr h.right, known_agr h.right, act_agr h.left]

def apartB (x y : XOper) : Bool :=
  (match x.d with
   | some d => !y.rd.contains d && y.d != some d
   | none => true) &&
  (match y.d with
   | some d => !x.rd.contains d
   | none => true)
def clsOk (i j : Nat) : Bool := i == 0 || j == 0 || (i == 1 && j == 1) || (i == 1 && j == 2) || (i == 2 && j == 1) || (i == 1 && j == 4)
/-- A load from an object of one cell, a store of more: not the same object. -/
def ldSt : XOp → XOp → Bool
  | .load1 _, .store n _ _ => decide (2 ≤ n)
  | _, _ => false
def commB (pf : Nat → Nat) (x y : XOper) : Bool := apartB x y && (clsOk (cls pf x.op) (cls pf y.op) || ldSt x.op y.op)
/-- The same operation, if its object has one cell. -/
def one (o : XOper) : XOper := match o.op with
  | .load none x => { o with op := .load1 x }
  | _ => o
theorem one_ok (cf : CallF) (st st1 : St) (x : XOper) (h : stepO cf (one x) st = some st1) : stepO cf x st = some st1 := by
  unfold one at h
  split at h
  · rename_i y hy
    obtain ⟨d, op, gd⟩ := x
    simp only at hy h
    subst hy
    unfold stepO at h ⊢
    simp only at h ⊢
    split at h
    · rename_i h1
      rw [if_pos h1]
      split at h
      · rename_i h2
        rw [if_pos h2]
        cases ha : act cf st (.load1 y) with
        | none => rw [ha] at h; cases h
        | some r =>
          rw [ha] at h
          have : act cf st (.load none y) = some r := by
            simp only [act] at ha ⊢
            split at ha
            · rename_i id hid
              split at ha
              · rename_i c hc
                rw [hid]
                simp only [hc]
                simpa [rdV] using ha
              · cases ha
            · cases ha
          rw [this]
          exact h
      · rename_i h2; rw [if_neg h2]; exact h
    · cases h
  · exact h
theorem act_store_at {cf : CallF} {st : St} {n : Nat} {a x : A} {v : V} {h' : List O} (hn : 2 ≤ n) (e : act cf st (.store n a x) = some (v, h')) (id : Nat) (c : V) :
    (st.h[id]? = some (.cells [c]) ↔ h'[id]? = some (.cells [c])) := by
  simp only [act] at e
  split at e
  · rename_i id' o hid
    split at e
    · rename_i cs hcs
      split at e
      · rename_i hk
        simp only [Option.some.injEq, Prod.mk.injEq] at e
        obtain ⟨_, rfl⟩ := e
        obtain ⟨k1, k2, k3⟩ := hk
        obtain ⟨hlt, _⟩ := List.getElem?_eq_some_iff.1 hcs
        by_cases hi : id' = id
        · subst hi
          rw [hcs, List.getElem?_set_self hlt]
          simp only [Option.some.injEq, O.cells.injEq]
          constructor
          · rintro rfl; simp only [List.length_singleton] at k3; omega
          · intro h
            have := congrArg List.length h
            simp only [splice, List.length_append, List.length_take, List.length_drop, List.length_singleton] at this
            omega
        · rw [List.getElem?_set_ne hi]
      · cases e
    · cases e
  · rename_i k m o hid
    split at e
    · rename_i m' z cs hcs
      split at e
      · simp only [Option.some.injEq, Prod.mk.injEq] at e
        obtain ⟨_, rfl⟩ := e
        obtain ⟨hlt, _⟩ := List.getElem?_eq_some_iff.1 hcs
        by_cases hi : k = id
        · subst hi
          rw [hcs, List.getElem?_set_self hlt]
          simp
        · rw [List.getElem?_set_ne hi]
      · cases e
    · cases e
  · cases e

theorem Agr.put {l : List Nat} {tm : List V} {d : Option Nat} {v : V} (h : ∀ e, d = some e → e ∉ l) : Agr l tm (putV tm d v) := by
  intro t ht
  cases d with
  | none => rfl
  | some d =>
    have : d ≠ t := fun e => h d rfl (e ▸ ht)
    simp only [putV, List.getElem?_set_ne this]

theorem kapp {pf : Nat → Nat} {o : XOp} (ho : cls pf o = 2) : ∃ al z b p q, o = .append al z b false p q := by
  cases o
  case append al z b rw p q =>
    simp only [cls] at ho
    split at ho
    · cases ho
    · rename_i h
      exact ⟨al, z, b, p, q, by simpa using h⟩
  case call f args =>
    cases f with
    | t i => simp [cls] at ho
    | k v =>
      simp only [cls] at ho
      split at ho
      · split at ho
        · simp at ho
        · split at ho <;> simp at ho
      · simp at ho
  all_goals simp [cls] at ho

theorem CellsLe.app (h e : List O) : CellsLe h (h ++ e) := by
  intro id cs _ hid
  rw [List.getElem?_append_left (List.getElem?_eq_some_iff.1 hid).1]
  exact hid
theorem act_cls4 {pf : Nat → Nat} {cf : CallF} (hp : PureCf pf cf) {st : St} {op : XOp} (hc : cls pf op = 4) {v : V} {h' : List O} (e : act cf st op = some (v, h')) : CellsLe st.h h' := by
  cases op
  case append al z b rw x y => simp only [cls] at hc; split at hc <;> cases hc
  case call f args =>
    cases f with
    | t i => simp [cls] at hc
    | k v =>
      simp only [cls] at hc
      simp only [act, ev] at e
      cases hv : callee v with
      | none => rw [hv] at hc; simp at hc
      | some p =>
        obtain ⟨f, caps⟩ := p
        rw [hv] at hc
        simp only at hc
        rw [callV_fn hv] at e
        have hpf : pf f = 2 := by
          split at hc
          · cases hc
          · split at hc
            · assumption
            · cases hc
        split at e
        · exact (hp f _ _ _ _ (longer_some e).1).2 hpf
        · cases e
  all_goals simp [cls] at hc

theorem CellsLe.set {h : List O} {s n z : Nat} (hs : ∀ o : O, O.isC o → h[s]? ≠ some o) : CellsLe h (h.set s (O.tok n z)) := by
  intro id cs hc hid
  by_cases hsid : s = id
  · subst hsid; exact absurd hid (hs cs hc)
  · rw [List.getElem?_set_ne hsid]; exact hid
theorem CellsLe.unset {h : List O} {s n z : Nat} : CellsLe (h.set s (O.tok n z)) h := by
  intro id cs hc hid
  by_cases hsid : s = id
  · subst hsid
    rw [List.getElem?_set] at hid
    simp only [if_true] at hid
    split at hid
    · simp only [Option.some.injEq] at hid
      subst hid
      exact hc.elim
    · cases hid
  · rw [List.getElem?_set_ne hsid] at hid; exact hid

/-- Two that stand apart, as to the objects. -/
theorem heap_swap {pf : Nat → Nat} {cf : CallF} (hp : PureCf pf cf) {x y : XOper} {st : St} (hc : clsOk (cls pf x.op) (cls pf y.op) = true) {vx vy : V} {hx hy : List O}
    (h1 : give cf x st = some (vx, hx)) (h2 : give cf y { st with h := hx } = some (vy, hy)) : ∃ hy', give cf y st = some (vy, hy') ∧ give cf x { st with h := hy' } = some (vx, hy) := by
  unfold give at *
  by_cases kx : known st.tm x.g = true
  rotate_left
  · rw [if_neg kx] at h1; cases h1
  by_cases ky : known st.tm y.g = true
  rotate_left
  · rw [if_neg ky] at h2; cases h2
  rw [if_pos kx] at h1
  rw [if_pos ky] at h2
  simp only [if_pos kx, if_pos ky]
  by_cases wx : wants st.tm x.g = true
  · by_cases wy : wants st.tm y.g = true
    · simp only [wx, wy, if_true] at h1 h2 ⊢
      by_cases cx : cls pf x.op = 0
      · -- x does not look
        have e : hx = st.h := by
          have := act_cls0 (st := st) (cf := cf) cx st.h
          rw [show ({ st with h := st.h } : St) = st from rfl, h1] at this
          simp only [Option.map_some, Option.some.injEq, Prod.mk.injEq] at this
          exact this.2
        rw [e] at h2
        exact ⟨hy, h2, by rw [act_cls0 cx hy, h1]; rfl⟩
      · by_cases cy : cls pf y.op = 0
        · have h3 := act_cls0 (st := st) (cf := cf) cy hx
          rw [h2] at h3
          cases h4 : act cf st y.op with
          | none => rw [h4] at h3; simp at h3
          | some r =>
            obtain ⟨v, h'⟩ := r
            rw [h4] at h3
            simp only [Option.map_some, Option.some.injEq, Prod.mk.injEq] at h3
            obtain ⟨rfl, rfl⟩ := h3
            have h5 := act_cls0 (st := st) (cf := cf) cy st.h
            rw [show ({ st with h := st.h } : St) = st from rfl, h4] at h5
            simp only [Option.map_some, Option.some.injEq, Prod.mk.injEq] at h5
            obtain ⟨_, rfl⟩ := h5
            exact ⟨st.h, rfl, h1⟩
        · simp only [clsOk, Bool.or_eq_true, Bool.and_eq_true, beq_iff_eq, cx, cy, false_or] at hc
          rcases hc with ((⟨a1, a2⟩ | ⟨a1, a2⟩) | ⟨a1, a2⟩) | ⟨a1, a2⟩
          · obtain ⟨rfl, k1⟩ := act_cls1 hp a1 h1
            have k2 := (act_cls1 hp a2 h2).1
            simp only at k2
            subst k2
            exact ⟨_, h2, h1⟩
          · obtain ⟨al, z', b, p, q, ey⟩ := kapp a2
            rw [ey] at h2 ⊢
            obtain ⟨rfl, k1⟩ := act_cls1 hp a1 h1
            refine ⟨_, h2, k1 _ ?_⟩
            rcases act_append h2 with e | ⟨s, m, z2, e, hs⟩
            · rw [e]; exact fun _ _ _ h => h
            · rw [e]; exact CellsLe.set hs
          · obtain ⟨al, z', b, p, q, ex⟩ := kapp a1
            rw [ex] at h1 ⊢
            obtain ⟨e, k1⟩ := act_cls1 hp a2 h2
            simp only at e
            subst e
            have k2 := k1 st.h (by
              simp only
              rcases act_append h1 with e | ⟨s, m, z2, e, hs⟩
              · rw [e]; exact fun _ _ _ h => h
              · rw [e]; exact CellsLe.unset)
            exact ⟨st.h, k2, h1⟩
          · obtain ⟨rfl, k1⟩ := act_cls1 hp a1 h1
            exact ⟨_, h2, k1 _ (act_cls4 hp a2 h2)⟩
    · simp only [wx, wy, if_true, Bool.false_eq_true, if_false, Option.some.injEq, Prod.mk.injEq] at h1 h2 ⊢
      exact ⟨st.h, ⟨h2.1, rfl⟩, by rw [← h2.2]; exact h1⟩
  · by_cases wy : wants st.tm y.g = true
    · simp only [wx, wy, if_true, Bool.false_eq_true, if_false, Option.some.injEq, Prod.mk.injEq] at h1 h2 ⊢
      obtain ⟨rfl, rfl⟩ := h1
      exact ⟨hy, h2, rfl, rfl⟩
    · simp only [wx, wy, Bool.false_eq_true, if_false, Option.some.injEq, Prod.mk.injEq] at h1 h2 ⊢
      exact ⟨st.h, ⟨h2.1, rfl⟩, h1.1, by rw [← h2.2]; exact h1.2⟩

theorem heap_swap1 {cf : CallF} {x y : XOper} {st : St} (hc : ldSt x.op y.op = true) {vx vy : V} {hx hy : List O}
    (h1 : give cf x st = some (vx, hx)) (h2 : give cf y { st with h := hx } = some (vy, hy)) : ∃ hy', give cf y st = some (vy, hy') ∧ give cf x { st with h := hy' } = some (vx, hy) := by
  obtain ⟨dx, ox, gx⟩ := x
  obtain ⟨dy, oy, gy⟩ := y
  simp only at hc
  unfold ldSt at hc
  split at hc
  rotate_left
  · cases hc
  rename_i a n p q
  simp only [decide_eq_true_eq] at hc
  have e : hx = st.h := by
    unfold give at h1
    simp only at h1
    split at h1
    · split at h1
      · simp only [act] at h1
        split at h1
        · split at h1
          · simp only [Option.some.injEq, Prod.mk.injEq] at h1; exact h1.2.symm
          · cases h1
        · cases h1
      · simp only [Option.some.injEq, Prod.mk.injEq] at h1; exact h1.2.symm
    · cases h1
  subst e
  refine ⟨hy, h2, ?_⟩
  unfold give at h1 h2 ⊢
  simp only at h1 h2 ⊢
  split at h1
  rotate_left
  · cases h1
  rename_i kx
  rw [if_pos kx]
  split at h1
  · rename_i wx
    rw [if_pos wx]
    simp only [act] at h1 ⊢
    split at h1
    · rename_i id hid
      split at h1
      · rename_i c hcs
        simp only [Option.some.injEq, Prod.mk.injEq] at h1
        obtain ⟨rfl, _⟩ := h1
        have : hy[id]? = some (.cells [c]) := by
          split at h2
          · split at h2
            · exact (act_store_at hc h2 id c).1 hcs
            · simp only [Option.some.injEq, Prod.mk.injEq] at h2; rw [← h2.2]; exact hcs
          · cases h2
        simp only [this]
      · cases h1
    · cases h1
  · rename_i wx
    rw [if_neg wx]
    simp only [Option.some.injEq, Prod.mk.injEq, and_true] at h1 ⊢
    exact h1

theorem step_swap {pf : Nat → Nat} {cf : CallF} (hp : PureCf pf cf) {x y : XOper} (hc : commB pf x y = true) {st s1 s2 : St} (h1 : stepO cf x st = some s1) (h2 : stepO cf y s1 = some s2) :
    ∃ s1', stepO cf y st = some s1' ∧ stepO cf x s1' = some s2 := by
  simp only [commB, apartB, Bool.and_eq_true] at hc
  obtain ⟨⟨hx, hy⟩, hcl⟩ := hc
  have x1 : ∀ d, x.d = some d → d ∉ y.rd ∧ y.d ≠ some d := by
    intro d hd
    rw [hd] at hx
    simpa using hx
  have y1 : ∀ d, y.d = some d → d ∉ x.rd := by
    intro d hd
    rw [hd] at hy
    simpa using hy
  rw [step_give] at h1 h2
  simp only [Option.map_eq_some_iff] at h1 h2
  obtain ⟨⟨vx, hx'⟩, g1, rfl⟩ := h1
  obtain ⟨⟨vy, hy'⟩, g2, rfl⟩ := h2
  simp only at g2
  have a1 : give cf y { st with h := hx' } = some (vy, hy') := by
    rw [give_agr (st := { st with h := hx' }) (tm' := putV st.tm x.d vx) (Agr.put fun d hd => (x1 d hd).1)]
    exact g2
  obtain ⟨hm, b1, b2⟩ := (Bool.or_eq_true _ _ ▸ hcl : _ ∨ _).elim (fun hcl => heap_swap hp hcl g1 a1) fun hcl => heap_swap1 hcl g1 a1
  refine ⟨{ st with tm := putV st.tm y.d vy, h := hm }, by rw [step_give, b1]; rfl, ?_⟩
  have b3 : give cf x { st with tm := putV st.tm y.d vy, h := hm } = some (vx, hy') := by
    rw [← give_agr (st := { st with h := hm }) (tm' := putV st.tm y.d vy) (Agr.put fun d hd => y1 d hd)]
    exact b2
  rw [step_give, b3]
  simp only [Option.map_some, Option.some.injEq, St.mk.injEq, and_true]
  cases hxd : x.d with
  | none => rfl
  | some d =>
    cases hyd : y.d with
    | none => rfl
    | some e =>
      have hne : e ≠ d := by
        intro q
        exact (x1 d hxd).2 (by rw [hyd, q])
      simp only [putV]
      exact List.set_comm _ _ hne

theorem bubble {pf : Nat → Nat} {cf : CallF} (hp : PureCf pf cf) {y : XOper} {r2 : List XOper} {s' : St} : ∀ (r1 : List XOper) (st : St), (∀ x ∈ r1, commB pf x y = true) → runOps cf (r1 ++ y :: r2) st = some s' →
    runOps cf (y :: (r1 ++ r2)) st = some s'
  | [], _, _, h => h
  | x :: r1, st, hc, h => by
    simp only [List.cons_append, runOps] at h
    cases h1 : stepO cf x st with
    | none => rw [h1] at h; cases h
    | some s1 =>
      rw [h1] at h
      simp only at h
      have ih := bubble hp r1 s1 (fun z hz => hc z (by simp [hz])) h
      simp only [runOps] at ih
      cases h2 : stepO cf y s1 with
      | none => rw [h2] at ih; cases ih
      | some s2 =>
        rw [h2] at ih
        simp only at ih
        obtain ⟨s1', k1, k2⟩ := step_swap hp (hc x (by simp)) h1 h2
        simp only [runOps, List.cons_append, k1, k2, ih]
end Go.Proofs.YtkiliokeanmagaaDoor.Ab
