/- Code, functions and calls for the kernel. -/
import Derived.Test.YtkiliokeanmagaaDoorAbK
namespace Go.Proofs.YtkiliokeanmagaaDoor.Ab
open Go
set_option linter.unusedVariables false
set_option linter.unusedSimpArgs false

noncomputable section
def outE (r : Option (Ex × St)) (k : Ex → St → R2) (k0 : R2) : R2 := match r with
  | some (e, st) => k e st
  | none => k0
def iterS (f : St → (Ex → St → R2) → R2 → R2) (n : Nat) : St → (Ex → St → R2) → R2 → R2 :=
  Nat.rec (motive := fun _ => St → (Ex → St → R2) → R2 → R2) (fun _ _ k0 => k0) (fun _ ih st k k0 => f st (fun e st => match e with
    | .normal => ih st k k0
    | e => k e st) k0) n
def execS (cfK : CallK) (n : Nat) (xc : XC) : St → (Ex → St → R2) → R2 → R2 :=
  XC.rec (motive := fun _ => St → (Ex → St → R2) → R2 → R2)
    (fun st k _ => k .normal st)
    (fun ops pre _ st k k0 => St.rec (motive := fun _ => R2) (fun tm h base rb => appS h pre fun h' => nfNat h.length fun rb' => runS cfK base rb' ops tm h' (fun tm h => k .normal ⟨tm, h, base, rb'⟩) k0) st)
    (fun ops pre st k k0 => St.rec (motive := fun _ => R2) (fun tm h base rb => appS h pre fun h' => nfNat h.length fun rb' => runWS cfK base rb' ops tm h' (fun tm h => k .normal ⟨tm, h, base, rb'⟩) k0) st)
    (fun _ _ iha ihb st k k0 => iha st (fun e st => match e with
      | .normal => ihb st k k0
      | e => k e st) k0)
    (fun c _ _ iha ihb st k k0 => evS st.tm c fun v => match v with
      | .c (.bool t) => Bool.rec (motive := fun _ => R2) (ihb st k k0) (iha st k k0) t
      | _ => k0)
    (fun id _ ih st k k0 => ih st (fun e st => match e with
      | .exit id' => if id' = id then k .normal st else k (.exit id') st
      | e => k e st) k0)
    (fun _ ih st k k0 => iterS ih n st k k0)
    (fun id st k _ => k (.exit id) st)
    (fun st k _ => k .ret st)
    (fun f y m nt us st k k0 => St.rec (motive := fun _ => R2) (fun tm h base rb => evS tm f fun fv => match callee fv with
      | some (g, lb) => if g < rid ∧ rid ≤ y ∧ tm.length = nt then nfLm nf0 (keepV nt us tm) fun caps => nfNat h.length fun l => nfL (h ++ [.loop 0]) fun h1 => cfK g (.yld l y m caps :: lb) h1 fun r => match r with
          | some (_, h') => getS h' l (fun ob => match ob with
            | .loop s => match Ex.ofNum s with
              | some e => setS h' l (.loop 2) fun h => k e ⟨tm, h, base, rb⟩
              | none => k0
            | _ => k0) k0
          | none => k0
        else k0
      | none => k0) st) xc
theorem iterS_eq {f : St → (Ex → St → R2) → R2 → R2} {g : St → Option (Ex × St)} (hf : ∀ st k k0, f st k k0 = outE (g st) k k0) : ∀ (n : Nat) (st : St) (k : Ex → St → R2) (k0 : R2), iterS f n st k k0 = outE (iter g n st) k k0
  | 0, _, _, _ => rfl
  | n + 1, st, k, k0 => by
    show f st (fun e st => match e with
      | .normal => iterS f n st k k0
      | e => k e st) k0 = _
    rw [hf]
    unfold iter
    cases g st with
    | none => rfl
    | some p =>
      obtain ⟨e, st'⟩ := p
      cases e with
      | normal => exact iterS_eq hf n st' k k0
      | exit id => rfl
      | ret => rfl
theorem execS_eq {cfK : CallK} {cf : CallF} (hcf : ∀ f args h k, cfK f args h k = k (cf f args h)) (n : Nat) : ∀ (xc : XC) (st : St) (k : Ex → St → R2) (k0 : R2), execS cfK n xc st k k0 = outE (exec cf n xc st) k k0 := by
  intro xc
  induction xc with
  | skip => intros; rfl
  | reg ops pre d =>
    intro st k k0
    obtain ⟨tm, h, base, rb⟩ := st
    show (appS h pre fun h' => nfNat h.length fun rb' => runS cfK base rb' ops tm h' (fun tm h => k .normal ⟨tm, h, base, rb'⟩) k0) = _
    rw [appS_eq, nfNat_eq, runS_eq hcf]
    unfold exec
    simp only
    have hk : ∀ (ops : List XOper) (st st' : St), runOps cf ops st = some st' → st'.base = st.base ∧ st'.rb = st.rb := by
      intro ops
      induction ops with
      | nil => intro st st' e; simp only [runOps, Option.some.injEq] at e; subst e; exact ⟨rfl, rfl⟩
      | cons o ops ih =>
        intro st st' e
        unfold runOps at e
        split at e
        · rename_i s1 h1
          obtain ⟨a1, a2⟩ := step_keeps h1
          obtain ⟨b1, b2⟩ := ih _ _ e
          exact ⟨b1.trans a1, b2.trans a2⟩
        · cases e
    cases hr : runOps cf ops ⟨tm, h ++ pre, base, h.length⟩ with
    | none => rfl
    | some st' =>
      obtain ⟨e1, e2⟩ := hk _ _ _ hr
      obtain ⟨tm', h', b', r'⟩ := st'
      simp only at e1 e2
      subst e1 e2
      rfl
  | regw ops pre =>
    intro st k k0
    obtain ⟨tm, h, base, rb⟩ := st
    show (appS h pre fun h' => nfNat h.length fun rb' => runWS cfK base rb' ops tm h' (fun tm h => k .normal ⟨tm, h, base, rb'⟩) k0) = _
    rw [appS_eq, nfNat_eq, runWS_eq hcf]
    unfold exec
    simp only
    have hk : ∀ (ops : List XOper) (st st' : St), runW cf ops st = some st' → st'.base = st.base ∧ st'.rb = st.rb := by
      intro ops
      induction ops with
      | nil => intro st st' e; simp only [runW, Option.some.injEq] at e; subst e; exact ⟨rfl, rfl⟩
      | cons o ops ih =>
        intro st st' e
        unfold runW at e
        split at e
        · rename_i s1 h1
          obtain ⟨a1, a2⟩ := step_keeps (stepW_plain h1)
          obtain ⟨b1, b2⟩ := ih _ _ e
          exact ⟨b1.trans a1, b2.trans a2⟩
        · cases e
    cases hr : runW cf ops ⟨tm, h ++ pre, base, h.length⟩ with
    | none => rfl
    | some st' =>
      obtain ⟨e1, e2⟩ := hk _ _ _ hr
      obtain ⟨tm', h', b', r'⟩ := st'
      simp only at e1 e2
      subst e1 e2
      rfl
  | seq a b iha ihb =>
    intro st k k0
    show execS cfK n a st (fun e st => match e with
      | .normal => execS cfK n b st k k0
      | e => k e st) k0 = _
    rw [iha]
    simp only [exec]
    cases exec cf n a st with
    | none => rfl
    | some p =>
      obtain ⟨e, st'⟩ := p
      cases e with
      | normal => exact ihb st' k k0
      | exit id => rfl
      | ret => rfl
  | cond c a b iha ihb =>
    intro st k k0
    show (evS st.tm c fun v => match v with
      | .c (.bool t) => Bool.rec (motive := fun _ => R2) (execS cfK n b st k k0) (execS cfK n a st k k0) t
      | _ => k0) = _
    rw [evS_eq]
    simp only [exec]
    cases ev st.tm c with
    | c x =>
      cases x with
      | bool t => cases t with
        | false => exact ihb st k k0
        | true => exact iha st k k0
      | _ => rfl
    | _ => rfl
  | block id c ih =>
    intro st k k0
    show execS cfK n c st (fun e st => match e with
      | .exit id' => if id' = id then k .normal st else k (.exit id') st
      | e => k e st) k0 = _
    rw [ih]
    simp only [exec]
    cases exec cf n c st with
    | none => rfl
    | some p =>
      obtain ⟨e, st'⟩ := p
      cases e with
      | exit id' =>
        simp only [outE]
        split <;> rfl
      | _ => rfl
  | loop c ih =>
    intro st k k0
    show iterS (execS cfK n c) n st k k0 = _
    exact iterS_eq ih n st k k0
  | exit id => intros; rfl
  | ret => intros; rfl
  | rangeF f y m nt us =>
    intro st k k0
    obtain ⟨tm, h, base, rb⟩ := st
    show (evS tm f fun fv => match callee fv with
      | some (g, lb) => if g < rid ∧ rid ≤ y ∧ tm.length = nt then nfLm nf0 (keepV nt us tm) fun caps => nfNat h.length fun l => nfL (h ++ [.loop 0]) fun h1 => cfK g (.yld l y m caps :: lb) h1 fun r => match r with
          | some (_, h') => getS h' l (fun ob => match ob with
            | .loop s => match Ex.ofNum s with
              | some e => setS h' l (.loop 2) fun h => k e ⟨tm, h, base, rb⟩
              | none => k0
            | _ => k0) k0
          | none => k0
        else k0
      | none => k0) = _
    rw [evS_eq]
    unfold exec
    simp only
    cases callee (ev tm f) with
    | none => rfl
    | some p =>
      obtain ⟨g, lb⟩ := p
      simp only [nfLm_eq nf0_eq, nfNat_eq, nfL_eq, hcf, getS_eq, setS_eq]
      split
      · cases cf g (.yld h.length y m (keepV nt us tm) :: lb) (h ++ [.loop 0]) with
        | none => rfl
        | some q =>
          obtain ⟨v, h'⟩ := q
          simp only
          cases h'[h.length]? with
          | none => rfl
          | some ob =>
            cases ob <;> try rfl
            rename_i s
            simp only
            cases Ex.ofNum s <;> rfl
      · rfl

def finS (esc : Bool) (n : Nat) (res : List XR) (k : R2 → R2) (e : Ex) (st : St) : R2 := nfR (fin esc n res (some (e, st))) k
theorem finS_eq (esc : Bool) (n : Nat) (res : List XR) (k : R2 → R2) (r : Option (Ex × St)) : outE r (finS esc n res k) (k none) = k (fin esc n res r) := by
  cases r with
  | none => rfl
  | some p => obtain ⟨e, st⟩ := p; exact nfR_eq _ _
def startS (xf : XF) (args : List V) (h : List O) (k : St → R2) : R2 := nfLm nfV args fun args => nfL (args ++ List.replicate (xf.ntm - args.length) undefV) fun tm => nfNat h.length fun b => k ⟨tm, h, b, 0⟩
theorem startS_eq (xf : XF) (args : List V) (h : List O) (k : St → R2) : startS xf args h k = k (start xf args h) := by
  simp only [startS, nfLm_eq nfV_eq, nfL_eq, nfNat_eq]
  rfl
def runFS (cfK : CallK) (n : Nat) (xf : XF) (args : List V) (h : List O) (k : R2 → R2) : R2 :=
  if xf.pure then
    if V.lows 0 (args.map V.vw2) then
      if xf.esc then startS xf (args.map V.vw2) (pre0 xf) fun st => execS cfK n xf.body st (finS true n xf.res fun r => nfR (r.map fun r => (r.1.shift h.length, h ++ r.2.map (O.shift h.length))) k) (k none)
      else startS xf (args.map V.vw2) [] fun st => execS cfK n xf.body st (finS false n xf.res fun r => k (r.map fun r => (r.1, h))) (k none)
    else if xf.esc then k none
    else match mapO (snap 0 h n) (args.map V.vw2) with
      | some bs => if V.lows 0 bs then startS xf bs [] fun st => execS cfK n xf.body st (finS false n xf.res fun r => match r with
          | some (r, _) => if r.flat then k (some (r, h)) else k none
          | none => k none) (k none)
        else k none
      | none => k none
  else startS xf (args.map V.vw2) h fun st => execS cfK n xf.body st (finS xf.esc n xf.res k) (k none)
theorem runFS_eq {cfK : CallK} {cf : CallF} (hcf : ∀ f args h k, cfK f args h k = k (cf f args h)) (n : Nat) (xf : XF) (args : List V) (h : List O) (k : R2 → R2) : runFS cfK n xf args h k = k (runF cf n xf args h) := by
  have e1 : ∀ (st : St) (esc : Bool) (kk : R2 → R2), kk none = k none → execS cfK n xf.body st (finS esc n xf.res kk) (k none) = kk (fin esc n xf.res (exec cf n xf.body st)) := by
    intro st esc kk h0
    rw [execS_eq hcf, ← h0, finS_eq]
  unfold runFS runF
  simp only [startS_eq]
  split
  · split
    · split
      · rw [e1 _ _ _ (by simp only [nfR_eq, Option.map_none])]
        rw [nfR_eq]
      · rw [e1 _ _ _ (by simp only [Option.map_none])]
    · split
      · rfl
      · cases mapO (snap 0 h n) (args.map V.vw2) with
        | none => rfl
        | some bs =>
          simp only
          split
          · rw [e1 _ _ (fun r => match r with
              | some (r, _) => if r.flat then k (some (r, h)) else k none
              | none => k none) rfl]
            cases fin false n xf.res (exec cf n xf.body (start xf bs [])) with
            | none => rfl
            | some p =>
              obtain ⟨r, h'⟩ := p
              simp only
              split <;> rfl
          · rfl
  · rw [e1 _ _ _ rfl]
def runRoundS (cfK : CallK) (n : Nat) (ps : List Nat) (asg body : XC) (l : Nat) (vs caps : List V) (h : List O) (k : R2 → R2) : R2 := match putAll ps vs caps with
  | some tm => nfL tm fun tm => nfNat h.length fun b => execS cfK n asg ⟨tm, h, b, 0⟩ (fun e st1 => match e with
    | .normal => getS st1.h l (fun ob => match ob with
      | .loop 0 => St.rec (motive := fun _ => R2) (fun tm1 h1 b1 rb1 => setS h1 l (.loop 1) fun h1 => execS cfK n body ⟨tm1, h1, b1, rb1⟩ (fun e st2 => getS st2.h l (fun ob => match ob with
        | .loop 1 => nfR (let h3 := (st2.h.set l (.loop e.num)).take h.length
            if h3.all (O.low h.length) then some (.c (.bool (e.num == 0)), h3) else none) k
        | _ => k none) (k none)) (k none)) st1
      | _ => k none) (k none)
    | _ => k none) (k none)
  | none => k none
theorem runRoundS_eq {cfK : CallK} {cf : CallF} (hcf : ∀ f args h k, cfK f args h k = k (cf f args h)) (n : Nat) (ps : List Nat) (asg body : XC) (l : Nat) (vs caps : List V) (h : List O) (k : R2 → R2) :
    runRoundS cfK n ps asg body l vs caps h k = k (runRound cf n ps asg body l vs caps h) := by
  unfold runRoundS runRound
  cases putAll ps vs caps with
  | none => rfl
  | some tm =>
    simp only [nfL_eq, nfNat_eq, execS_eq hcf]
    cases exec cf n asg ⟨tm, h, h.length, 0⟩ with
    | none => rfl
    | some p =>
      obtain ⟨e, st1⟩ := p
      cases e <;> try rfl
      simp only [outE, getS_eq]
      cases st1.h[l]? with
      | none => rfl
      | some ob =>
        cases ob <;> try rfl
        rename_i s
        match s with
        | 0 =>
          obtain ⟨tm1, h1, b1, rb1⟩ := st1
          simp only [setS_eq, execS_eq hcf]
          cases exec cf n body ⟨tm1, h1.set l (.loop 1), b1, rb1⟩ with
          | none => rfl
          | some q =>
            obtain ⟨e2, st2⟩ := q
            simp only [outE, getS_eq]
            cases st2.h[l]? with
            | none => rfl
            | some ob =>
              cases ob <;> try rfl
              rename_i s
              match s with
              | 0 => rfl
              | 1 => simp only [nfR_eq]
              | s + 2 => rfl
        | s + 1 => rfl
/-- The functions, by their numbers. -/
inductive KT where
  | leaf
  | node (key : Nat) (x : XF) (l r : KT)
def KT.find (t : KT) (f : Nat) : Option XF := KT.rec (motive := fun _ => Option XF) none (fun key x _ _ a b => Bool.rec (motive := fun _ => Option XF) (Bool.rec (motive := fun _ => Option XF) b a (Nat.blt f key)) (some x) (Nat.beq f key)) t
def KT.all (P : Nat → XF → Prop) : KT → Prop
  | .leaf => True
  | .node key x l r => P key x ∧ KT.all P l ∧ KT.all P r
theorem KT.find_all {P : Nat → XF → Prop} {f : Nat} {xf : XF} : ∀ (t : KT), t.all P → t.find f = some xf → P f xf
  | .leaf, _, h => by cases h
  | .node key x l r, ha, h => by
    have h : Bool.rec (motive := fun _ => Option XF) (Bool.rec (motive := fun _ => Option XF) (r.find f) (l.find f) (Nat.blt f key)) (some x) (Nat.beq f key) = some xf := h
    cases h1 : Nat.beq f key with
    | true =>
      rw [h1] at h
      have : f = key := Nat.eq_of_beq_eq_true h1
      subst this
      simp only [Option.some.injEq] at h
      subst h
      exact ha.1
    | false =>
      rw [h1] at h
      cases h2 : Nat.blt f key with
      | true => rw [h2] at h; exact KT.find_all l ha.2.1 h
      | false => rw [h2] at h; exact KT.find_all r ha.2.2 h
def callK (T : KT) (X : Nat → Option XF) (E : Ext) (n : Nat) : CallK :=
  Nat.rec (motive := fun _ => CallK) (fun _ _ _ k => k none) (fun n cfn f args h k => Option.rec (motive := fun _ => R2) (nfR (call X E (n + 1) f args h) k)
    (fun xf => match xf.asg with
      | some (ps, asg) => match args with
        | .c (.int _ l) :: rs => if l.toNat < h.length then nfNat l.toNat fun l' => runRoundS cfn n ps asg xf.body l' (rs.take ps.length) (rs.drop ps.length) h k else k none
        | _ => k none
      | none => runFS cfn n xf args h k) (T.find f)) n
theorem callK_eq {T : KT} {X : Nat → Option XF} {E : Ext} (hT : T.all fun f xf => E f = none ∧ X f = some xf) : ∀ (n f : Nat) (args : List V) (h : List O) (k : R2 → R2), callK T X E n f args h k = k (call X E n f args h) := by
  intro n
  induction n with
  | zero => intros; rfl
  | succ n ih =>
    intro f args h k
    show Option.rec (motive := fun _ => R2) (nfR (call X E (n + 1) f args h) k)
      (fun xf => match xf.asg with
        | some (ps, asg) => match args with
          | .c (.int _ l) :: rs => if l.toNat < h.length then nfNat l.toNat fun l' => runRoundS (callK T X E n) n ps asg xf.body l' (rs.take ps.length) (rs.drop ps.length) h k else k none
          | _ => k none
        | none => runFS (callK T X E n) n xf args h k) (T.find f) = _
    cases hf : T.find f with
    | none => exact nfR_eq _ _
    | some xf =>
      obtain ⟨hE, hX⟩ := KT.find_all T hT hf
      rw [call]
      simp only [hE, hX]
      cases xf.asg with
      | none => exact runFS_eq ih n xf args h k
      | some p =>
        obtain ⟨ps, asg⟩ := p
        simp only
        split
        · rename_i kd l rs
          by_cases hl : l.toNat < h.length
          · rw [if_pos hl, nfNat_eq, runRoundS_eq ih]
            simp only [if_pos hl]
          · rw [if_neg hl]
            simp only [if_neg hl]
        · rename_i hne
          split
          · exact absurd rfl (hne _ _ _)
          · rfl
/-- What the kernel finds is so. -/
theorem call_of_K {T : KT} {X : Nat → Option XF} {E : Ext} (hT : T.all fun f xf => E f = none ∧ X f = some xf) {n f : Nat} {args : List V} {h : List O} {r : R2} (e : callK T X E n f args h (fun r => r) = r) : call X E n f args h = r := by
  rw [callK_eq hT] at e
  exact e
end
end Go.Proofs.YtkiliokeanmagaaDoor.Ab
