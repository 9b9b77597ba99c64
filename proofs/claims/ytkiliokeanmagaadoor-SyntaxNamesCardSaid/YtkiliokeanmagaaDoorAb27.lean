/- Symbolic evaluation: temporaries as a function, code as a predicate transformer. -/
import Derived.Test.YtkiliokeanmagaaDoorAb26
namespace Go.Proofs.YtkiliokeanmagaaDoor.Ab
open Go
set_option linter.unusedVariables false
set_option linter.unusedSimpArgs false

/-- States whose temporaries are a function. -/
structure SF where
  e : Nat → V
  h : List O
  base : Nat
  rb : Nat

def A.sub (e : Nat → V) : A → A
  | .t i => .k (e i)
  | .k v => .k v
def A.val (e : Nat → V) : A → V
  | .t i => e i
  | .k v => v
def XOp.sub (e : Nat → V) : XOp → XOp
  | .mv x => .mv (x.sub e)
  | .pick c a b => .pick (c.sub e) (a.sub e) (b.sub e)
  | .alloc al z => .alloc al z
  | .box al x => .box al (x.sub e)
  | .build z ps => .build z (ps.map fun p => (p.1, p.2.1, p.2.2.sub e))
  | .bslice al z ps => .bslice al z (ps.map (A.sub e))
  | .load n x => .load n (x.sub e)
  | .store n a x => .store n (a.sub e) (x.sub e)
  | .bin op q x y => .bin op q (x.sub e) (y.sub e)
  | .un op x => .un op (x.sub e)
  | .fieldAddr o x => .fieldAddr o (x.sub e)
  | .field o n x => .field o n (x.sub e)
  | .indexAddr z x i => .indexAddr z (x.sub e) (i.sub e)
  | .index x i => .index (x.sub e) (i.sub e)
  | .slice s z x lo hi mx => .slice s z (x.sub e) (lo.map (A.sub e)) (hi.map (A.sub e)) (mx.map (A.sub e))
  | .extract x i => .extract (x.sub e) i
  | .len s x => .len s (x.sub e)
  | .append al z b rw x y => .append al z b rw (x.sub e) (y.sub e)
  | .mm m ps => .mm m (ps.map (A.sub e))
  | .conv k x => .conv k (x.sub e)
  | .call f ps => .call (f.sub e) (ps.map (A.sub e))
  | .clos f ps => .clos f (ps.map (A.sub e))
  | .nilchk x => .nilchk (x.sub e)
  | .makeMap al => .makeMap al
  | .lookup z ok x k => .lookup z ok (x.sub e) (k.sub e)
  | .mapUpd m k v => .mapUpd (m.sub e) (k.sub e) (v.sub e)
  | .load1 x => .load1 (x.sub e)

def toE (tm : List V) : Nat → V := fun i => tm.getD i undefV
def upd (e : Nat → V) (d : Nat) (v : V) : Nat → V := fun t => if t = d then v else e t
def updO (e : Nat → V) : Option Nat → V → Nat → V
  | none, _ => e
  | some d, v => upd e d v

theorem ev_sub (tm tm' : List V) (x : A) : ev tm' (x.sub (toE tm)) = ev tm x := by cases x <;> rfl
theorem ev_subs (tm tm' : List V) (xs : List A) : (xs.map (A.sub (toE tm))).map (ev tm') = xs.map (ev tm) := by
  rw [List.map_map]
  exact List.map_congr_left fun x _ => ev_sub tm tm' x
theorem fill_sub (tm tm' : List V) : ∀ (ps : List (Nat × Nat × A)) (z : List V), fillV z tm' (ps.map fun p => (p.1, p.2.1, p.2.2.sub (toE tm))) = fillV z tm ps
  | [], z => rfl
  | (o, n, x) :: r, z => by
    simp only [List.map_cons, fillV, ev_sub]
    split
    · exact fill_sub tm tm' r _
    · rfl
theorem oidx_sub (tm tm' : List V) (d : Int) (x : Option A) : optIdx tm' d (x.map (A.sub (toE tm))) = optIdx tm d x := by
  cases x with
  | none => rfl
  | some x => simp only [Option.map_some, optIdx, ev_sub]
theorem slV_sub (tm tm' us : List V) (z : Nat) (lo hi mx : Option A) : slV tm' us z (lo.map (A.sub (toE tm))) (hi.map (A.sub (toE tm))) (mx.map (A.sub (toE tm))) = slV tm us z lo hi mx := by
  unfold slV
  have e1 : (hi.map (A.sub (toE tm))).isSome = hi.isSome := by cases hi <;> rfl
  simp only [oidx_sub, e1]
  generalize optIdx tm 0 lo = a
  generalize optIdx tm us.length hi = b
  cases mx <;> cases a <;> cases b <;> simp [ev_sub]
theorem rowV_sub (tm tm' : List V) (id off n : Nat) (zz : Option Nat) (z : Nat) (lo hi mx : Option A) : rowV tm' id off n zz z (lo.map (A.sub (toE tm))) (hi.map (A.sub (toE tm))) (mx.map (A.sub (toE tm))) = rowV tm id off n zz z lo hi mx := by
  unfold rowV
  have e1 : (hi.map (A.sub (toE tm))).isSome = hi.isSome := by cases hi <;> rfl
  simp only [oidx_sub, e1]
  generalize optIdx tm 0 lo = a
  generalize optIdx tm n hi = b
  cases mx <;> cases a <;> cases b <;> simp [ev_sub]
theorem stV_sub (tm tm' : List V) (s : ByteArray) (lo hi mx : Option A) : stV tm' s (lo.map (A.sub (toE tm))) (hi.map (A.sub (toE tm))) (mx.map (A.sub (toE tm))) = stV tm s lo hi mx := by
  unfold stV
  simp only [oidx_sub]
  cases mx <;> simp
theorem slice_sub (tm tm' : List V) (rb : Nat) (s : Bool) (z : Nat) (x : A) (lo hi mx : Option A) : pureV tm' rb (XOp.sub (toE tm) (.slice s z x lo hi mx)) = pureV tm rb (.slice s z x lo hi mx) := by
  simp only [XOp.sub, pureV, ev_sub, slV_sub, rowV_sub, stV_sub]

theorem act_sub {cf : CallF} {st : St} {op : XOp} : act cf { st with tm := [] } (op.sub (toE st.tm)) = act cf st op := by
  cases op
  case slice s z x lo hi mx =>
    have := slice_sub st.tm [] st.rb s z x lo hi mx
    simp only [XOp.sub] at this
    simp only [act, XOp.sub, this]
  case build z ps => simp only [act, XOp.sub, pureV, fill_sub]
  case bslice al z ps => simp only [act, XOp.sub, pureV, List.map_map, Function.comp_def, ev_sub]
  case mm m ps => simp only [act, XOp.sub, pureV, ev_subs]
  case clos f ps => simp only [act, XOp.sub, pureV, ev_subs]
  case call f ps => simp only [act, XOp.sub, ev_sub, ev_subs]
  all_goals simp only [act, XOp.sub, pureV, ev_sub]
theorem own_sub {st : St} {op : XOp} : ownB { st with tm := [] } (op.sub (toE st.tm)) = ownB st op := by
  cases op <;> simp only [ownB, XOp.sub, ev_sub]

def knownF (e : Nat → V) : Option (Nat × Bool) → Bool
  | none => true
  | some (t, _) => match e t with
    | .top => false
    | _ => true
def wantsF (e : Nat → V) : Option (Nat × Bool) → Bool
  | none => true
  | some (t, b) => match e t with
    | .c (.bool x) => x == b
    | _ => false
theorem known_F (tm : List V) (g : Option (Nat × Bool)) : knownF (toE tm) g = known tm g := by
  cases g with
  | none => rfl
  | some p =>
    obtain ⟨t, b⟩ := p
    simp only [knownF, known, toE, List.getD_eq_getElem?_getD]
    cases tm[t]? with
    | none => rfl
    | some v => cases v <;> rfl
theorem wants_F (tm : List V) (g : Option (Nat × Bool)) : wantsF (toE tm) g = wants tm g := by
  cases g with
  | none => rfl
  | some p =>
    obtain ⟨t, b⟩ := p
    simp only [wantsF, wants, toE, List.getD_eq_getElem?_getD]
    cases tm[t]? with
    | none => rfl
    | some v =>
      cases v with
      | c x => cases x <;> rfl
      | _ => rfl

def bindO {α : Type} : Option α → (α → Prop) → Prop
  | none, _ => False
  | some a, k => k a
theorem bindO_some {α : Type} (a : α) (k : α → Prop) : bindO (some a) k = k a := rfl
theorem bindO_none {α : Type} (k : α → Prop) : bindO none k = False := rfl
theorem bindO_ite {α : Type} (c : Prop) [Decidable c] (a : Option α) (k : α → Prop) : bindO (if c then a else none) k = (c ∧ bindO a k) := by
  by_cases h : c <;> simp [h, bindO]
theorem bindO_map {α β : Type} (f : α → β) (a : Option α) (k : β → Prop) : bindO (a.map f) k = bindO a fun x => k (f x) := by cases a <;> rfl

def actF (cf : CallF) (s : SF) (op : XOp) : Option (V × List O) := act cf ⟨[], s.h, s.base, s.rb⟩ (op.sub s.e)
def wps (cf : CallF) (o : XOper) (s : SF) (k : SF → Prop) : Prop :=
  if knownF s.e o.g = true then if wantsF s.e o.g = true then bindO (actF cf s o.op) fun r => k ⟨updO s.e o.d r.1, r.2, s.base, s.rb⟩ else k ⟨updO s.e o.d undefV, s.h, s.base, s.rb⟩ else False
def wpOps (cf : CallF) : List XOper → SF → (SF → Prop) → Prop
  | [], s, k => k s
  | o :: r, s, k => wps cf o s fun s => wpOps cf r s k
def ownF (s : SF) (op : XOp) : Bool := ownB ⟨[], s.h, s.base, s.rb⟩ (op.sub s.e)
def wpOpsW (cf : CallF) : List XOper → SF → (SF → Prop) → Prop
  | [], s, k => k s
  | o :: r, s, k => ownF s o.op = true ∧ wps (frameCf s.base cf) o s fun s => wpOpsW cf r s k

def condK (v : V) (p q : Prop) : Prop := match v with
  | .c (.bool t) => if t = true then p else q
  | _ => False
theorem condK_t (p q : Prop) : condK (.c (.bool true)) p q = p := rfl
theorem condK_f (p q : Prop) : condK (.c (.bool false)) p q = q := by simp [condK]
theorem condK_b (b : Bool) (p q : Prop) : condK (.c (.bool b)) p q = if b = true then p else q := rfl
def wpIter (f : SF → (Ex → SF → Prop) → Prop) : Nat → SF → (Ex → SF → Prop) → Prop
  | 0, _, _ => False
  | n + 1, s, Q => f s fun e s => match e with
    | .normal => wpIter f n s Q
    | e => Q e s

def keepE (nt : Nat) (us : List Nat) (e : Nat → V) : List V := (List.range nt).map fun i => if us.contains i then e i else .top
def loopEnd : Option O → Option Ex
  | some (.loop s) => Ex.ofNum s
  | _ => none
def wpx (cf : CallF) (n : Nat) : XC → SF → (Ex → SF → Prop) → Prop
  | .skip, s, Q => Q .normal s
  | .reg ops pre _, s, Q => wpOps cf ops ⟨s.e, s.h ++ pre, s.base, s.h.length⟩ (Q .normal)
  | .regw ops pre, s, Q => wpOpsW cf ops ⟨s.e, s.h ++ pre, s.base, s.h.length⟩ (Q .normal)
  | .seq a b, s, Q => wpx cf n a s fun e s => match e with
    | .normal => wpx cf n b s Q
    | e => Q e s
  | .cond c a b, s, Q => condK (c.val s.e) (wpx cf n a s Q) (wpx cf n b s Q)
  | .block id c, s, Q => wpx cf n c s fun e s => match e with
    | .exit id' => if id' = id then Q .normal s else Q (.exit id') s
    | e => Q e s
  | .loop c, s, Q => wpIter (wpx cf n c) n s Q
  | .exit id, s, Q => Q (.exit id) s
  | .ret, s, Q => Q .ret s
  | .rangeF f y m nt us, s, Q => match callee (f.val s.e) with
    | some (g, lb) => if g < rid ∧ rid ≤ y then bindO (cf g (.yld s.h.length y m (keepE nt us s.e) :: lb) (s.h ++ [.loop 0])) fun r => bindO (loopEnd r.2[s.h.length]?) fun e => Q e ⟨s.e, r.2.set s.h.length (.loop 2), s.base, s.rb⟩ else False
    | none => False

def dOk (m : Nat) (ops : List XOper) : Bool := ops.all fun o => match o.d with
  | some d => decide (d < m)
  | none => true
def dstOk (m : Nat) : XC → Bool
  | .reg ops _ _ => dOk m ops
  | .regw ops _ => dOk m ops
  | .seq a b => dstOk m a && dstOk m b
  | .cond _ a b => dstOk m a && dstOk m b
  | .block _ c => dstOk m c
  | .loop c => dstOk m c
  | .rangeF _ _ _ nt _ => m == nt
  | _ => true

def toS (st : St) : SF := ⟨toE st.tm, st.h, st.base, st.rb⟩

theorem toE_put (tm : List V) (d : Option Nat) (v : V) (hd : (match d with | some d => decide (d < tm.length) | none => true) = true) : toE (putV tm d v) = updO (toE tm) d v := by
  cases d with
  | none => rfl
  | some d =>
    simp only [decide_eq_true_eq] at hd
    funext t
    simp only [toE, putV, updO, upd, List.getD_eq_getElem?_getD, List.getElem?_set]
    by_cases h : t = d
    · subst h; simp [hd]
    · have : ¬ d = t := fun e => h e.symm
      simp [h, this]
theorem putV_len (tm : List V) (d : Option Nat) (v : V) : (putV tm d v).length = tm.length := by cases d <;> simp [putV]

theorem wps_ok {cf : CallF} {o : XOper} {st : St} {k : SF → Prop} (hd : (match o.d with | some d => decide (d < st.tm.length) | none => true) = true) (h : wps cf o (toS st) k) :
    ∃ st1, stepO cf o st = some st1 ∧ st1.tm.length = st.tm.length ∧ st1.base = st.base ∧ st1.rb = st.rb ∧ k (toS st1) := by
  unfold wps at h
  split at h
  · rename_i h1
    simp only [toS] at h1
    rw [known_F] at h1
    split at h
    · rename_i h2
      simp only [toS] at h2
      rw [wants_F] at h2
      unfold actF at h
      have he : act cf ⟨[], (toS st).h, (toS st).base, (toS st).rb⟩ (o.op.sub (toS st).e) = act cf st o.op := act_sub (st := st)
      rw [he] at h
      cases ha : act cf st o.op with
      | none => rw [ha] at h; exact h.elim
      | some r =>
        rw [ha] at h
        obtain ⟨v, h'⟩ := r
        refine ⟨{ st with tm := putV st.tm o.d v, h := h' }, by simp [stepO, h1, h2, ha], putV_len _ _ _, rfl, rfl, ?_⟩
        simp only [bindO_some, toS] at h ⊢
        rw [toE_put _ _ _ hd]
        exact h
    · rename_i h2
      simp only [toS] at h2
      rw [wants_F] at h2
      refine ⟨{ st with tm := putV st.tm o.d undefV }, by simp [stepO, h1, h2], putV_len _ _ _, rfl, rfl, ?_⟩
      simp only [toS] at h ⊢
      rw [toE_put _ _ _ hd]
      exact h
  · exact h.elim

theorem wpOps_ok {cf : CallF} : ∀ {ops : List XOper} {st : St} {k : SF → Prop}, dOk st.tm.length ops = true → wpOps cf ops (toS st) k →
    ∃ st1, runOps cf ops st = some st1 ∧ st1.tm.length = st.tm.length ∧ st1.base = st.base ∧ k (toS st1)
  | [], st, k, _, h => ⟨st, rfl, rfl, rfl, h⟩
  | o :: r, st, k, hd, h => by
    simp only [dOk, List.all_cons, Bool.and_eq_true] at hd
    obtain ⟨s1, h1, h2, h3, h4, h5⟩ := wps_ok hd.1 h
    obtain ⟨s2, k1, k2, k3, k4⟩ := wpOps_ok (st := s1) (by rw [h2]; exact hd.2) h5
    exact ⟨s2, by simp [runOps, h1, k1], k2.trans h2, k3.trans h3, k4⟩
theorem wpOpsW_ok {cf : CallF} : ∀ {ops : List XOper} {st : St} {k : SF → Prop}, dOk st.tm.length ops = true → wpOpsW cf ops (toS st) k →
    ∃ st1, runW cf ops st = some st1 ∧ st1.tm.length = st.tm.length ∧ st1.base = st.base ∧ k (toS st1)
  | [], st, k, _, h => ⟨st, rfl, rfl, rfl, h⟩
  | o :: r, st, k, hd, h => by
    simp only [dOk, List.all_cons, Bool.and_eq_true] at hd
    obtain ⟨ho, h⟩ := h
    have ho' : ownB st o.op = true := by
      rw [← ho]
      exact (own_sub (st := st)).symm
    obtain ⟨s1, h1, h2, h3, h4, h5⟩ := wps_ok hd.1 h
    obtain ⟨s2, k1, k2, k3, k4⟩ := wpOpsW_ok (st := s1) (by rw [h2]; exact hd.2) h5
    have h1' : stepO (frameCf st.base cf) o st = some s1 := h1
    exact ⟨s2, by simp [runW, stepW, ho', h1', k1], k2.trans h2, k3.trans h3, k4⟩

theorem wpx_ok {cf : CallF} {n : Nat} : ∀ (c : XC) {st : St} {Q : Ex → SF → Prop}, dstOk st.tm.length c = true → wpx cf n c (toS st) Q →
    ∃ e st1, exec cf n c st = some (e, st1) ∧ st1.tm.length = st.tm.length ∧ st1.base = st.base ∧ Q e (toS st1) := by
  intro c
  induction c with
  | skip => intro st Q _ h; exact ⟨_, st, rfl, rfl, rfl, h⟩
  | reg ops pre d =>
    intro st Q hd h
    obtain ⟨s1, h1, h2, h3, h4⟩ := wpOps_ok (st := { st with h := st.h ++ pre, rb := st.h.length }) hd h
    exact ⟨_, s1, by simp only [exec, h1, Option.map_some], h2, h3, h4⟩
  | regw ops pre =>
    intro st Q hd h
    obtain ⟨s1, h1, h2, h3, h4⟩ := wpOpsW_ok (st := { st with h := st.h ++ pre, rb := st.h.length }) hd h
    exact ⟨_, s1, by simp only [exec, h1, Option.map_some], h2, h3, h4⟩
  | seq a b iha ihb =>
    intro st Q hd h
    simp only [dstOk, Bool.and_eq_true] at hd
    obtain ⟨e, s1, h1, h2, h3, h4⟩ := iha hd.1 h
    cases e with
    | normal =>
      obtain ⟨e2, s2, k1, k2, k3, k4⟩ := ihb (st := s1) (by rw [h2]; exact hd.2) h4
      exact ⟨e2, s2, by simp [exec, h1, k1], k2.trans h2, k3.trans h3, k4⟩
    | exit id => exact ⟨_, s1, by simp [exec, h1], h2, h3, h4⟩
    | ret => exact ⟨_, s1, by simp [exec, h1], h2, h3, h4⟩
  | cond c a b iha ihb =>
    intro st Q hd h
    simp only [dstOk, Bool.and_eq_true] at hd
    have he : c.val (toS st).e = ev st.tm c := by cases c <;> rfl
    unfold wpx condK at h
    rw [he] at h
    split at h
    · rename_i t ht
      split at h
      · rename_i htt
        obtain ⟨e, s1, h1, h2⟩ := iha hd.1 h
        exact ⟨e, s1, by simp [exec, ht, htt, h1], h2⟩
      · rename_i htt
        obtain ⟨e, s1, h1, h2⟩ := ihb hd.2 h
        exact ⟨e, s1, by simp [exec, ht, htt, h1], h2⟩
    · exact h.elim
  | block id c ih =>
    intro st Q hd h
    obtain ⟨e, s1, h1, h2, h3, h4⟩ := ih hd h
    cases e with
    | normal => exact ⟨_, s1, by simp [exec, h1], h2, h3, h4⟩
    | ret => exact ⟨_, s1, by simp [exec, h1], h2, h3, h4⟩
    | exit id' =>
      simp only at h4
      split at h4
      · rename_i hid; exact ⟨_, s1, by simp [exec, h1, hid], h2, h3, h4⟩
      · rename_i hid; exact ⟨_, s1, by simp [exec, h1, hid], h2, h3, h4⟩
  | loop c ih =>
    intro st Q hd h
    have key : ∀ k (st : St), dstOk st.tm.length c = true → wpIter (wpx cf n c) k (toS st) Q → ∃ e st1, iter (exec cf n c) k st = some (e, st1) ∧ st1.tm.length = st.tm.length ∧ st1.base = st.base ∧ Q e (toS st1) := by
      intro k
      induction k with
      | zero => intro st _ h; exact h.elim
      | succ k ihk =>
        intro st hd h
        obtain ⟨e, s1, h1, h2, h3, h4⟩ := ih hd h
        cases e with
        | normal =>
          obtain ⟨e2, s2, k1, k2, k3, k4⟩ := ihk s1 (by rw [h2]; exact hd) h4
          exact ⟨e2, s2, by simp [iter, h1, k1], k2.trans h2, k3.trans h3, k4⟩
        | exit id => exact ⟨_, s1, by simp [iter, h1], h2, h3, h4⟩
        | ret => exact ⟨_, s1, by simp [iter, h1], h2, h3, h4⟩
    exact key n st hd h
  | exit id => intro st Q _ h; exact ⟨_, st, rfl, rfl, rfl, h⟩
  | ret => intro st Q _ h; exact ⟨_, st, rfl, rfl, rfl, h⟩
  | rangeF f y m nt us =>
    intro st Q hd h
    have he : f.val (toS st).e = ev st.tm f := by cases f <;> rfl
    have hk : keepE nt us (toS st).e = keepV nt us st.tm := rfl
    have hd' : st.tm.length = nt := by simpa [dstOk] using hd
    unfold wpx at h
    rw [he, hk] at h
    split at h
    · rename_i g lb hcal
      split at h
      · rename_i hlt
        cases hcf : cf g (.yld (toS st).h.length y m (keepV nt us st.tm) :: lb) ((toS st).h ++ [.loop 0]) with
        | none => rw [hcf] at h; exact h.elim
        | some r =>
          rw [hcf] at h
          obtain ⟨r, h'⟩ := r
          simp only [bindO_some] at h
          cases hle : loopEnd h'[(toS st).h.length]? with
          | none => rw [hle] at h; exact h.elim
          | some e =>
            rw [hle] at h
            simp only [bindO_some] at h
            obtain ⟨s, hs, hn⟩ : ∃ s, h'[(toS st).h.length]? = some (.loop s) ∧ Ex.ofNum s = some e := by
              unfold loopEnd at hle
              split at hle
              · rename_i s hs; exact ⟨s, hs, hle⟩
              · cases hle
            refine ⟨e, { st with h := h'.set st.h.length (.loop 2) }, ?_, rfl, rfl, h⟩
            have hcf' : cf g (.yld st.h.length y m (keepV nt us st.tm) :: lb) (st.h ++ [.loop 0]) = some (r, h') := hcf
            have hs' : h'[st.h.length]? = some (.loop s) := hs
            simp only [exec, hcal]
            rw [if_pos ⟨hlt.1, hlt.2, hd'⟩, hcf']
            simp only [hs', hn, Option.map_some]
      · exact h.elim
    · exact h.elim

theorem wpIter_mono {f : SF → (Ex → SF → Prop) → Prop} {Q : Ex → SF → Prop} (I : Nat → SF → Prop) (hf : ∀ s Q Q', (∀ e s, Q e s → Q' e s) → f s Q → f s Q')
    (hI : ∀ k s, I k s → f s fun e s' => match e with | .normal => ∃ k', k' < k ∧ I k' s' | e => Q e s') : ∀ (n k : Nat) (s : SF), k < n → I k s → wpIter f n s Q
  | 0, k, s, hk, _ => by omega
  | n + 1, k, s, hk, h => by
    refine hf _ _ _ ?_ (hI k s h)
    intro e s' h'
    cases e with
    | normal =>
      obtain ⟨k', hk', h2⟩ := h'
      exact wpIter_mono I hf hI n k' s' (by omega) h2
    | exit id => exact h'
    | ret => exact h'

theorem bindO_imp {α : Type} {o : Option α} {k k' : α → Prop} (hk : ∀ a, k a → k' a) (h : bindO o k) : bindO o k' := by
  cases o with
  | none => exact h
  | some a => exact hk a h
theorem wps_imp {cf : CallF} {o : XOper} {s : SF} {k k' : SF → Prop} (hk : ∀ s, k s → k' s) (h : wps cf o s k) : wps cf o s k' := by
  unfold wps at h ⊢
  split at h
  · rename_i h1
    rw [if_pos h1]
    split at h
    · rename_i h2; rw [if_pos h2]; exact bindO_imp (fun r hr => hk _ hr) h
    · rename_i h2; rw [if_neg h2]; exact hk _ h
  · exact h.elim
theorem wpOps_imp {cf : CallF} : ∀ {ops : List XOper} {s : SF} {k k' : SF → Prop}, (∀ s, k s → k' s) → wpOps cf ops s k → wpOps cf ops s k'
  | [], s, k, k', hk, h => hk s h
  | o :: r, s, k, k', hk, h => wps_imp (fun s h => wpOps_imp hk h) h
theorem wpOpsW_imp {cf : CallF} : ∀ {ops : List XOper} {s : SF} {k k' : SF → Prop}, (∀ s, k s → k' s) → wpOpsW cf ops s k → wpOpsW cf ops s k'
  | [], s, k, k', hk, h => hk s h
  | o :: r, s, k, k', hk, h => ⟨h.1, wps_imp (fun s h => wpOpsW_imp hk h) h.2⟩
theorem wpx_imp {cf : CallF} {n : Nat} : ∀ (c : XC) {s : SF} {Q Q' : Ex → SF → Prop}, (∀ e s, Q e s → Q' e s) → wpx cf n c s Q → wpx cf n c s Q' := by
  intro c
  induction c with
  | skip => intro s Q Q' hQ h; exact hQ _ _ h
  | reg ops pre d => intro s Q Q' hQ h; exact wpOps_imp (fun s h => hQ _ _ h) h
  | regw ops pre => intro s Q Q' hQ h; exact wpOpsW_imp (fun s h => hQ _ _ h) h
  | seq a b iha ihb =>
    intro s Q Q' hQ h
    refine iha (fun e s h => ?_) h
    cases e with
    | normal => exact ihb hQ h
    | exit id => exact hQ _ _ h
    | ret => exact hQ _ _ h
  | cond c a b iha ihb =>
    intro s Q Q' hQ h
    unfold wpx condK at h ⊢
    split at h
    · split at h
      · rename_i t ht htt; simp only [htt, if_true]; exact iha hQ h
      · rename_i t ht htt; simp only [htt]; exact ihb hQ h
    · exact h.elim
  | block id c ih =>
    intro s Q Q' hQ h
    refine ih (fun e s h => ?_) h
    cases e with
    | normal => exact hQ _ _ h
    | ret => exact hQ _ _ h
    | exit id' =>
      simp only at h ⊢
      split at h
      · rename_i hid; rw [if_pos hid]; exact hQ _ _ h
      · rename_i hid; rw [if_neg hid]; exact hQ _ _ h
  | loop c ih =>
    intro s Q Q' hQ h
    have key : ∀ k (s : SF), wpIter (wpx cf n c) k s Q → wpIter (wpx cf n c) k s Q' := by
      intro k
      induction k with
      | zero => intro s h; exact h
      | succ k ihk =>
        intro s h
        refine ih (fun e s h => ?_) h
        cases e with
        | normal => exact ihk s h
        | exit id => exact hQ _ _ h
        | ret => exact hQ _ _ h
    exact key n s h
  | exit id => intro s Q Q' hQ h; exact hQ _ _ h
  | ret => intro s Q Q' hQ h; exact hQ _ _ h
  | rangeF f y m nt us =>
    intro s Q Q' hQ h
    unfold wpx at h ⊢
    split at h
    · split at h
      · rename_i hlt
        simp only [if_pos hlt]
        exact bindO_imp (fun r hr => bindO_imp (fun e he => hQ _ _ he) hr) h
      · exact h.elim
    · exact h.elim

/-- A loop: what holds before each turn, and how many turns at most are left. -/
theorem wpx_loop {cf : CallF} {n : Nat} {c : XC} {s : SF} {Q : Ex → SF → Prop} (I : Nat → SF → Prop) (k : Nat) (hk : k < n) (h0 : I k s)
    (hI : ∀ k s, I k s → wpx cf n c s fun e s' => match e with | .normal => ∃ k', k' < k ∧ I k' s' | e => Q e s') : wpx cf n (.loop c) s Q :=
  wpIter_mono (f := wpx cf n c) I (fun s Q Q' h hw => wpx_imp c h hw) hI n k s hk h0

theorem wpx_iter {cf : CallF} {n : Nat} {c : XC} {s : SF} {Q : Ex → SF → Prop} (I : Nat → SF → Prop) (k : Nat) (hk : k < n) (h0 : I k s)
    (hI : ∀ k s, I k s → wpx cf n c s fun e s' => match e with | .normal => ∃ k', k' < k ∧ I k' s' | e => Q e s') : wpIter (wpx cf n c) n s Q := wpx_loop I k hk h0 hI

/-- What a function gives. -/
def resF (s : SF) : XR → Option V
  | .t i => some (s.e i)
  | .cell i n => match s.e i with
    | .ref id o => match s.h[id]? with
      | some (.cells cs) => rdV cs o n
      | _ => none
    | _ => none
def resFs (s : SF) : List XR → Option (List V)
  | [] => some []
  | r :: rs => match resF s r, resFs s rs with
    | some v, some vs => some (v :: vs)
    | _, _ => none
def rOk (m : Nat) : XR → Bool
  | .t i => decide (i < m)
  | .cell i _ => decide (i < m)
theorem resF_ok {st : St} {rs : List XR} (hr : rs.all (rOk st.tm.length) = true) : resAll st rs = resFs (toS st) rs := by
  induction rs with
  | nil => rfl
  | cons r rs ih =>
    simp only [List.all_cons, Bool.and_eq_true] at hr
    have e : resV st r = resF (toS st) r := by
      cases r with
      | t i =>
        have hi : i < st.tm.length := by simpa [rOk] using hr.1
        simp [resV, resF, toS, toE, List.getElem?_eq_getElem hi]
      | cell i n =>
        have hi : i < st.tm.length := by simpa [rOk] using hr.1
        simp only [resV, resF, toS, toE, List.getD_eq_getElem?_getD, List.getElem?_eq_getElem hi, Option.getD_some]
        generalize st.tm[i] = v
        cases v <;> rfl
    simp only [resAll, resFs, e, ih hr.2]
    cases resF (toS st) r <;> cases resFs (toS st) rs <;> rfl

/-- The temporaries at the start. -/
def arg0 (args : List V) : Nat → V := fun i => args.getD i undefV
theorem toE_start (xf : XF) (args : List V) (h : List O) : toS (start xf args h) = ⟨arg0 args, h, h.length, 0⟩ := by
  simp only [toS, start]
  congr 1
  funext i
  simp only [toE, arg0, List.getD_eq_getElem?_getD, List.getElem?_append, List.getElem?_replicate]
  split
  · rfl
  · rename_i hi
    rw [List.getElem?_eq_none (by omega)]
    split <;> rfl

/-- Static facts of a function. -/
def xfOk (xf : XF) (k : Nat) : Bool := decide (k ≤ xf.ntm) && dstOk xf.ntm xf.body && xf.res.all (rOk xf.ntm)

def Fin (P : List V → List O → Prop) (xf : XF) : Ex → SF → Prop
  | .exit _, _ => False
  | _, s => bindO (resFs s xf.res) fun vs => P vs s.h

theorem exec_of {cf : CallF} {n : Nat} {xf : XF} {args : List V} {h : List O} (hx : xfOk xf args.length = true) {P : List V → List O → Prop} (hw : wpx cf n xf.body ⟨arg0 args, h, h.length, 0⟩ (Fin P xf)) :
    ∃ e s vs, exec cf n xf.body (start xf args h) = some (e, s) ∧ (∀ id, e ≠ .exit id) ∧ resAll s xf.res = some vs ∧ s.base = h.length ∧ P vs s.h := by
  simp only [xfOk, Bool.and_eq_true, decide_eq_true_eq] at hx
  have hl : (start xf args h).tm.length = xf.ntm := by simp [start]; omega
  rw [← toE_start xf args h] at hw
  obtain ⟨e, s, h1, h2, h3, h4⟩ := wpx_ok xf.body (st := start xf args h) (by rw [hl]; exact hx.1.2) hw
  have hr := resF_ok (st := s) (rs := xf.res) (by rw [h2, hl]; exact hx.2)
  cases e with
  | exit id => exact h4.elim
  | normal =>
    simp only [Fin] at h4
    cases hv : resFs (toS s) xf.res with
    | none => rw [hv] at h4; exact h4.elim
    | some vs => rw [hv] at h4; exact ⟨_, s, vs, h1, by simp, by rw [hr, hv], h3, h4⟩
  | ret =>
    simp only [Fin] at h4
    cases hv : resFs (toS s) xf.res with
    | none => rw [hv] at h4; exact h4.elim
    | some vs => rw [hv] at h4; exact ⟨_, s, vs, h1, by simp, by rw [hr, hv], h3, h4⟩

/-- A function that keeps to itself. -/
theorem runF_pure {cf : CallF} {n : Nat} {xf : XF} {args : List V} {h : List O} {r : V} (hx : xfOk xf args.length = true) (hp : xf.pure = true) (he : xf.esc = false) (hl : V.lows 0 (args.map V.vw2) = true)
    (hw : wpx cf n xf.body ⟨arg0 (args.map V.vw2), [], 0, 0⟩ (Fin (fun vs _ => (resOf vs).vw = r ∧ r.low 0 = true) xf)) : runF cf n xf args h = some (r, h) := by
  have := exec_of (cf := cf) (n := n) (xf := xf) (args := args.map V.vw2) (h := []) (by simpa using hx) hw
  obtain ⟨e, s, vs, h1, h2, h3, h4, h5, h6⟩ := this
  unfold runF
  rw [if_pos hp, if_pos hl, if_neg (by simp [he]), h1]
  simp only [List.length_nil] at h4
  cases e with
  | exit id => exact absurd rfl (h2 id)
  | normal => simp [fin, h3, h5, h6, h4]
  | ret => simp [fin, h3, h5, h6, h4]
/-- A function that works on the objects of its caller. -/
theorem runF_at {cf : CallF} {n : Nat} {xf : XF} {args : List V} {h h' : List O} {r : V} (hx : xfOk xf args.length = true) (hp : xf.pure = false) (he : xf.esc = false)
    (hw : wpx cf n xf.body ⟨arg0 (args.map V.vw2), h, h.length, 0⟩ (Fin (fun vs s => (resOf vs).vw = r ∧ r.low h.length = true ∧ s.take h.length = h' ∧ h'.all (O.low h.length) = true) xf)) : runF cf n xf args h = some (r, h') := by
  have := exec_of (cf := cf) (n := n) (xf := xf) (args := args.map V.vw2) (h := h) (by simpa using hx) hw
  obtain ⟨e, s, vs, h1, h2, h3, h4, h5, h6, h7, h8⟩ := this
  unfold runF
  rw [if_neg (by simp [hp]), h1]
  cases e with
  | exit id => exact absurd rfl (h2 id)
  | normal =>
    subst h7
    simp only [fin, h3, he, Bool.false_eq_true, if_false, h5, h4, h6, if_true]
    rw [if_pos h8]
  | ret =>
    subst h7
    simp only [fin, h3, he, Bool.false_eq_true, if_false, h5, h4, h6, if_true]
    rw [if_pos h8]
/-- A round, by what it does: the assignment, then the body. -/
theorem round_at {cf : CallF} {n : Nat} {ps : List Nat} {asg body : XC} {k : Nat} {vs caps tm : List V} {h h' : List O} {b : Bool} (hp : putAll ps vs caps = some tm) (ha : dstOk tm.length asg = true) (hb : dstOk tm.length body = true)
    (hw : wpx cf n asg ⟨toE tm, h, h.length, 0⟩ fun e s => e = .normal ∧ s.h[k]? = some (.loop 0) ∧ wpx cf n body ⟨s.e, s.h.set k (.loop 1), s.base, s.rb⟩ fun e s =>
      s.h[k]? = some (.loop 1) ∧ (s.h.set k (.loop e.num)).take h.length = h' ∧ (h'.all (O.low h.length)) = true ∧ (e.num == 0) = b) : runRound cf n ps asg body k vs caps h = some (.c (.bool b), h') := by
  obtain ⟨e, s1, h1, h2, h3, rfl, h5, h6⟩ := wpx_ok asg (st := { tm := tm, h := h, base := h.length, rb := 0 }) ha hw
  obtain ⟨e2, s2, k1, k2, k3, k4, k5, k6, k7⟩ := wpx_ok body (st := { s1 with h := s1.h.set k (.loop 1) }) (by simp only; rw [h2]; exact hb) h6
  have h5' : s1.h[k]? = some (.loop 0) := h5
  have k4' : s2.h[k]? = some (.loop 1) := k4
  have k5' : (s2.h.set k (.loop e2.num)).take h.length = h' := k5
  unfold runRound
  simp only [hp, h1, h5', k1, k4', k5', k6, k7, if_true]
end Go.Proofs.YtkiliokeanmagaaDoor.Ab
