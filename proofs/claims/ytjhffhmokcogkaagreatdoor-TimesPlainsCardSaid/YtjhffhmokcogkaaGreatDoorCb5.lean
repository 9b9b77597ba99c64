/- A part. -/
import Derived.Test.YtjhffhmokcogkaaGreatDoorCb4
set_option linter.unusedVariables false
set_option linter.unusedSimpArgs false
set_option linter.defProp false
set_option maxRecDepth 20000
set_option maxHeartbeats 8000000
namespace Go.Proofs.YtjhffhmokcogkaaGreatDoor.Ab
open Go
def Cz (cs ms:List Nat) (b l:Nat) (e:Nat→V):Nat:=if cs.any (fun x=>fX b (e x))=true then ms.foldl (fun m i=>mA b (e i) m) l else b
theorem wG (ms:List Nat) (b l:Nat) (e:Nat→V):Cz [] ms b l e=b:=rfl
theorem u9 {x:Nat}{cs:List Nat}(ms:List Nat){b:Nat}(l:Nat){e:Nat→V}(h:fX b (e x)=false):Cz (x::cs) ms b l e=Cz cs ms b l e:=by
 unfold Cz;rw[List.any_cons,h,Bool.false_or]
theorem u6 (b id o:Nat):fX b (.ref id o)=decide (b≤id):=rfl
section
variable (cf:aw) (n:Nat) (s:SF) (K:List Fr) (Q:Ex→SF→Prop)
theorem rK (x:XC){ops:List XOper}{pre:List O}{d:Bool}(h:x=.reg ops pre d):wpk cf n x K Q s=sG cf n ops K Q ⟨s.e,s.h++pre,s.base,s.h.length⟩:=by subst h;rfl
theorem mK (x:XC) (cs ms:List Nat){ops:List XOper}{pre:List O}(h:x=.regm ops pre) (hc:jY ops ops=cs) (hm:B9 ops=ms):wpk cf n x K Q s=Cv cf n (fD (Cz cs ms s.base s.h.length s.e)) ops K Q (aM (Cz cs ms s.base s.h.length s.e) cf) ⟨s.e,s.h++pre,s.base,s.h.length⟩:=by subst h hc hm;rfl
theorem lK (x:XC){a b:XC}(h:x=.seq a b):wpk cf n x K Q s=wpk cf n (.seq a b) K Q s:=by subst h;rfl
theorem bK (x:XF){m:Nat}{c:XC}{r:List XR}{p e w:Bool}{a:Option (List Nat × XC)}(h:x=⟨m,c,r,p,e,w,a⟩):wpk cf n x.body K Q s=wpk cf n c K Q s:=by subst h;rfl
theorem bR (x:XF){m:Nat}{c:XC}{r:List XR}{p e w:Bool}{a:Option (List Nat × XC)}(h:x=⟨m,c,r,p,e,w,a⟩):x.res=r:=by subst h;rfl
end
theorem wj (m:Nat) (s:SF) (d:Option Nat) (n:Option Nat) (x:A):fD m s ⟨d,.load n x,none⟩=EQ m (x.val s.e):=by
 have h:ix m ⟨[],s.h,s.base,s.rb⟩ ((XOp.load n x).sub s.e)=EQ m (x.val s.e):=by
  simp only[XOp.sub,ix,bw]<;>rfl
 show (false||ix m ⟨[],s.h,s.base,s.rb⟩ ((XOp.load n x).sub s.e))=_;rw[h,Bool.false_or]
section
variable (m:Nat) (s:SF) (d:Option Nat)
theorem A6 (x:A):fD m s ⟨d,.mv x,none⟩=true:=rfl
theorem At (o:Nat) (x:A):fD m s ⟨d,.fieldAddr o x,none⟩=true:=rfl
theorem BE (z:Nat) (x i:A):fD m s ⟨d,.indexAddr z x i,none⟩=true:=rfl
theorem xP (op:BinOp) (q:Nat) (x y:A):fD m s ⟨d,.bin op q x y,none⟩=true:=rfl
theorem wf (f:A) (l:List A):fD m s ⟨d,.call f l,none⟩=true:=rfl
theorem Bc (al z:Nat) (l:List A):fD m s ⟨d,.bslice al z l,none⟩=true:=rfl
theorem wS (al b:Nat) (z:Option Nat) (rw:Bool) (x y:A):fD m s ⟨d,.append al z b rw x y,none⟩=true:=rfl
theorem rF (n:Nat) (x y:A):fD m s ⟨d,.store n x y,none⟩=true:=rfl
end
attribute [simp] wG u9 u6 yz vX yq AI wj A6 At BE xP wf Bc wS rF wE yt
theorem A5 (cf:aw) (n:Nat) (s:SF) (K:List Fr) (Q:Ex→SF→Prop) (l:List XOper) (p:List O) (d:Bool):wpk cf n (.reg l p d) K Q s=sG cf n l K Q ⟨s.e,s.h++p,s.base,s.h.length⟩:=rfl
attribute [simp] A5
def pQ (ops:List XOper):List Nat:=ops.filterMap (·.d)
def dU:XC→List Nat
 | .reg ops _ _=>pQ ops
 | .regw ops _=>pQ ops
 | .regm ops _=>pQ ops
 | .regr ops _=>pQ ops
 | .seq a b=>dU a++dU b
 | .cond _ a b=>dU a++dU b
 | .block _ c=>dU c
 | .loop c=>dU c
 | _=>[]
def Kept (m:List Nat) (s s':SF):Prop:=(∀t,m.contains t=false→s'.e t=s.e t)∧s'.base=s.base
theorem Kept.refl (m:List Nat) (s:SF):Kept m s s:=⟨fun _ _=>rfl,rfl⟩
theorem Kept.trans {m:List Nat}{a b c:SF}(h1:Kept m a b) (h2:Kept m b c):Kept m a c:=⟨fun t ht=>(h2.1 t ht).trans (h1.1 t ht),h2.2.trans h1.2⟩
theorem Kept.sub {m m':List Nat}{a b:SF}(hm:∀t,m'.contains t=false→m.contains t=false) (h:Kept m a b):Kept m' a b:=⟨fun t ht=>h.1 t (hm t ht),h.2⟩
theorem ch {a b:List Nat}{t:Nat}:(a++b).contains t=false↔a.contains t=false∧b.contains t=false:=by
 simp
theorem jg {α:Type}{o:Option α}{k k':α→Prop}(h:jv o k) (hk:∀a,k a→k' a):jv o k':=by
 cases o with
 | none=>exact h
 | some a=>exact hk a h
theorem kZ {cf:aw}{o:XOper}{s:SF}{k:SF→Prop}(h:wps cf o s k):wps cf o s fun s'=>k s'∧Kept (pQ [o]) s s':=by
 have key:∀(v:V) (hh:List O),Kept (pQ [o]) s ⟨nU s.e o.d v,hh,s.base,s.rb⟩:=fun v hh=>by
  refine⟨fun t ht=>?_,rfl⟩;cases hd:o.d with
  | none=>rfl
  | some d =>
   have hne:t≠d:=by
    rintro rfl;simp[pQ,hd] at ht
   show upd s.e d v t=s.e t;rw[au,if_neg hne]
 unfold wps at h ⊢;split at h
 ·rename_i h1;rw[if_pos h1];split at h
  ·rename_i h2;rw[if_pos h2];exact jg h fun r hr=>⟨hr,key _ _⟩
  ·rename_i h2;rw[if_neg h2];exact⟨h,key _ _⟩
 ·exact h.elim
theorem jH (o:XOper) (r:List XOper):pQ (o::r)=pQ [o]++pQ r:=by
 unfold pQ;cases h:o.d<;>simp[h]
theorem ke {cf:aw}:∀{ops:List XOper}{s:SF}{k:SF→Prop},lJ cf ops s k→lJ cf ops s fun s'=>k s'∧Kept (pQ ops) s s'
 | [],s,k,h=>⟨h,.refl _ _⟩
 | o::r,s,k,h=>by
  refine gK (fun s1 h1=>?_) (kZ h);refine iZ (fun s2 h2=>⟨h2.1,?_⟩) (ke h1.1);rw[jH];exact (h1.2.sub fun t ht=>(ch.1 ht).1).trans (h2.2.sub fun t ht=>(ch.1 ht).2)
theorem jS {cf:aw}:∀{ops:List XOper}{s:SF}{k:SF→Prop},iW cf ops s k→iW cf ops s fun s'=>k s'∧Kept (pQ ops) s s'
 | [],s,k,h=>⟨h,.refl _ _⟩
 | o::r,s,k,h=>by
  refine⟨h.1,gK (fun s1 h1=>?_) (kZ h.2)⟩;refine gX (fun s2 h2=>⟨h2.1,?_⟩) (jS h1.1);rw[jH];exact (h1.2.sub fun t ht=>(ch.1 ht).1).trans (h2.2.sub fun t ht=>(ch.1 ht).2)
theorem ft {cf:aw}{p:SF→XOper→Bool}:∀{ops:List XOper}{s:SF}{k:SF→Prop},eg cf p ops s k→eg cf p ops s fun s'=>k s'∧Kept (pQ ops) s s'
 | [],s,k,h=>⟨h,.refl _ _⟩
 | o::r,s,k,h=>by
  refine⟨h.1,gK (fun s1 h1=>?_) (kZ h.2)⟩;refine eO (fun s2 h2=>⟨h2.1,?_⟩) (ft h1.1);rw[jH];exact (h1.2.sub fun t ht=>(ch.1 ht).1).trans (h2.2.sub fun t ht=>(ch.1 ht).2)
theorem jt {f:SF→(Ex→SF→Prop)→Prop}{m:List Nat}(himp:∀(s:SF) (Q Q':Ex→SF→Prop),(∀e s,Q e s→Q' e s)→f s Q→f s Q')
  (hf:∀s Q,f s Q→f s fun e s'=>Q e s'∧Kept m s s'):∀(n:Nat) (s:SF) (Q:Ex→SF→Prop),dz f n s Q→dz f n s fun e s'=>Q e s'∧Kept m s s'
 | 0,s,Q,h=>h
 | n+1,s,Q,h=>by
  have h':f s fun e s1=>match e with
   | .normal=>dz f n s1 Q
   | e=>Q e s1:=h
  refine himp _ _ _ (fun e s1 h1=>?_) (hf s _ h');cases e with
  | normal =>
   have h2:=jt himp hf n s1 Q h1.1;refine wpIter_imp' himp n _ _ _ (fun e s2 h3=>⟨h3.1,h1.2.trans h3.2⟩) h2
  | exit id=>exact⟨h1.1,h1.2⟩
  | ret=>exact⟨h1.1,h1.2⟩
where wpIter_imp' {f:SF→(Ex→SF→Prop)→Prop}(himp:∀(s:SF) (Q Q':Ex→SF→Prop),(∀e s,Q e s→Q' e s)→f s Q→f s Q'):∀(n:Nat) (s:SF) (Q Q':Ex→SF→Prop),(∀e s,Q e s→Q' e s)→dz f n s Q→dz f n s Q'
 | 0,s,Q,Q',hQ,h=>h
 | n+1,s,Q,Q',hQ,h=>by
  refine himp _ _ _ (fun e s1 h1=>?_) h;cases e with
  | normal=>exact wpIter_imp' himp n _ _ _ hQ h1
  | exit id=>exact hQ _ _ h1
  | ret=>exact hQ _ _ h1
theorem wJ {cf:aw}{n:Nat}:∀(c:XC){s:SF}{Q:Ex→SF→Prop},wpx cf n c s Q→wpx cf n c s fun e s'=>Q e s'∧Kept (dU c) s s':=by
 intro c
 induction c with
 | skip=>intro s Q h;exact⟨h,.refl _ _⟩
 | reg ops pre d=>intro s Q h;exact ke h
 | regw ops pre=>intro s Q h;exact jS h
 | regr ops pre=>intro s Q h;exact ft h
 | regm ops pre=>intro s Q h;exact ft h
 | seq a b iha ihb =>
  intro s Q h;refine du a (fun e s1 h1=>?_) (iha (s:=s) h);cases e with
  | normal =>
   refine du b (fun e s2 h2=>⟨h2.1,?_⟩) (ihb h1.1);exact (h1.2.sub fun t ht=>(ch.1 ht).1).trans (h2.2.sub fun t ht=>(ch.1 ht).2)
  | exit id=>exact⟨h1.1,h1.2.sub fun t ht=>(ch.1 ht).1⟩
  | ret=>exact⟨h1.1,h1.2.sub fun t ht=>(ch.1 ht).1⟩
 | cond c a b iha ihb =>
  intro s Q h;have h':nw (c.val s.e) (wpx cf n a s Q) (wpx cf n b s Q):=h;show nw (c.val s.e) _ _;unfold nw at h' ⊢;split at h'
  ·split at h'
   ·rename_i ht;rw[if_pos ht];exact du a (fun e s1 h1=>⟨h1.1,h1.2.sub fun t ht=>(ch.1 ht).1⟩) (iha h')
   ·rename_i ht;rw[if_neg ht];exact du b (fun e s1 h1=>⟨h1.1,h1.2.sub fun t ht=>(ch.1 ht).2⟩) (ihb h')
  ·exact h'.elim
 | block id c ih =>
  intro s Q h;refine du c (fun e s1 h1=>?_) (ih (s:=s) h);cases e with
  | normal=>exact h1
  | exit id' =>
   by_cases hid:id'=id
   ·simp only[if_pos hid] at h1 ⊢;exact h1
   ·simp only[if_neg hid] at h1 ⊢;exact h1
  | ret=>exact h1
 | loop c ih =>
  intro s Q h;exact jt (f:=fun s Q=>wpx cf n c s Q) (m:=dU c) (fun s Q Q' hQ h=>du c hQ h) (fun s Q h=>ih h) n s Q h
 | exit id=>intro s Q h;exact⟨h,.refl _ _⟩
 | ret=>intro s Q h;exact⟨h,.refl _ _⟩
 | rangeF f y m nt us =>
  intro s Q h;unfold wpx at h ⊢;split at h
  ·rename_i g lb hc;split at h
   ·rename_i hg;rw[if_pos hg];exact jg h fun r hr=>jg hr fun e he=>⟨he,fun _ _=>rfl,rfl⟩
   ·exact h.elim
  ·exact h.elim
section
variable {cf:aw}{n:Nat}{K:List Fr}{Q:Ex→SF→Prop}{s:SF}
theorem aX {c:XC}(J:Nat→SF→Prop) (k:Nat) (hk:k<n) (h0:J k s)
  (hI:∀k s1,J k s1→(∀t,(dU c).contains t=false→s1.e t=s.e t)→s1.base=s.base→wpk cf n c [] (fun e s'=>match e with|.normal=>∃k',k'<k∧J k' s'|e=>dI cf n K Q e s') s1):lpk cf n c K Q s:=by
 refine ja (fun k s1=>J k s1∧Kept (dU c) s s1) k hk ⟨h0,.refl _ _⟩ ?_;rintro k s1 ⟨hj,hkp⟩;have h:=hI k s1 hj hkp.1 hkp.2;refine wpk_of' (du c (fun e s2 h2=>?_) (wJ c (cm h)));cases e with
 | normal =>
  obtain⟨⟨k',hk',hj'⟩,hk2⟩:=h2;exact⟨k',hk',hj',hkp.trans hk2⟩
 | exit id=>exact h2.1
 | ret=>exact h2.1
where wpk_of' {cf:aw}{n:Nat}{c:XC}{Q:Ex→SF→Prop}{s:SF}(h:wpx cf n c s Q):wpk cf n c [] Q s:=h
end
set_option linter.defProp false
section
def rK' (x:XC){ops:List XOper}{pre:List O}{d:Bool}(h:x=.reg ops pre d):=fun cf n s K Q=>rK cf n s K Q x h
def lK' (x:XC){a b:XC}(h:x=.seq a b):=fun cf n s K Q=>lK cf n s K Q x h
def bK' (x:XF){m:Nat}{c:XC}{r:List XR}{p e w:Bool}{a:Option (List Nat × XC)}(h:x=⟨m,c,r,p,e,w,a⟩):=fun cf n s K Q=>bK cf n s K Q x h
variable (cf:aw) (n:Nat) (s:SF) (K:List Fr) (Q:Ex→SF→Prop)
def x8_w:=bK' x8 rfl
def x8_r:=bR x8 rfl
def x13l14_w:=lK' x13l14 rfl
def x13l31_w:=lK' x13l31 rfl
def x13l36_w:=lK' x13l36 rfl
def x13l47_w:=lK' x13l47 rfl
def x13l52_w:=lK' x13l52 rfl
def x13l58_w:=lK' x13l58 rfl
def x13_w:=bK' x13 rfl
def x13_r:=bR x13 rfl
def x16l18_w:=lK' x16l18 rfl
def x16l32_w:=lK' x16l32 rfl
def x16l34_w:=lK' x16l34 rfl
def x16l39_w:=lK' x16l39 rfl
def x16_w:=bK' x16 rfl
def x16_r:=bR x16 rfl
def x18l7_w:=lK' x18l7 rfl
def x18l16_w:=lK' x18l16 rfl
def x18l18_w:=lK' x18l18 rfl
def x18_w:=bK' x18 rfl
def x18_r:=bR x18 rfl
def x23_w:=bK' x23 rfl
def x23_r:=bR x23 rfl
def x24l9_w:=lK' x24l9 rfl
def x24_w:=bK' x24 rfl
def x24_r:=bR x24 rfl
def x32_w:=bK' x32 rfl
def x32_r:=bR x32 rfl
def x36_w:=bK' x36 rfl
def x36_r:=bR x36 rfl
def x37_w:=bK' x37 rfl
def x37_r:=bR x37 rfl
def x38l7_w:=lK' x38l7 rfl
def x38_w:=bK' x38 rfl
def x38_r:=bR x38 rfl
def x39l12_w:=lK' x39l12 rfl
def x39_w:=bK' x39 rfl
def x39_r:=bR x39 rfl
def x40l7_w:=lK' x40l7 rfl
def x40_w:=bK' x40 rfl
def x40_r:=bR x40 rfl
def x41_w:=bK' x41 rfl
def x41_r:=bR x41 rfl
def x42r25_w:=rK' x42r25 rfl
def x42r26_w:=rK' x42r26 rfl
def x42l35_w:=lK' x42l35 rfl
def x42r36_w:=rK' x42r36 rfl
def x42_w:=bK' x42 rfl
def x42_r:=bR x42 rfl
def x43l8_w:=lK' x43l8 rfl
def x43_w:=bK' x43 rfl
def x43_r:=bR x43 rfl
def x44l9_w:=lK' x44l9 rfl
def x44_w:=bK' x44 rfl
def x44_r:=bR x44 rfl
def x46_w:=bK' x46 rfl
def x46_r:=bR x46 rfl
def x47_w:=bK' x47 rfl
def x47_r:=bR x47 rfl
def x48_w:=bK' x48 rfl
def x48_r:=bR x48 rfl
def x49_w:=bK' x49 rfl
def x49_r:=bR x49 rfl
def x50_w:=bK' x50 rfl
def x50_r:=bR x50 rfl
def x51_w:=bK' x51 rfl
def x51_r:=bR x51 rfl
def x52_w:=bK' x52 rfl
def x52_r:=bR x52 rfl
def x53_w:=bK' x53 rfl
def x53_r:=bR x53 rfl
def x54_w:=bK' x54 rfl
def x54_r:=bR x54 rfl
def x55l8_w:=lK' x55l8 rfl
def x55_w:=bK' x55 rfl
def x55_r:=bR x55 rfl
def x56_w:=bK' x56 rfl
def x56_r:=bR x56 rfl
def x61l9_w:=lK' x61l9 rfl
def x61l16_w:=lK' x61l16 rfl
def x61_w:=bK' x61 rfl
def x61_r:=bR x61 rfl
def x70l13_w:=lK' x70l13 rfl
def x70_w:=bK' x70 rfl
def x70_r:=bR x70 rfl
def x71l7_w:=lK' x71l7 rfl
def x71_w:=bK' x71 rfl
def x71_r:=bR x71 rfl
def x72l7_w:=lK' x72l7 rfl
def x72_w:=bK' x72 rfl
def x72_r:=bR x72 rfl
def x86r6_w:=mK cf n s K Q x86r6 [0] [7,46,4,49,52,7] rfl rfl rfl
def x86l8_w:=lK' x86l8 rfl
def x86_w:=bK' x86 rfl
def x86_r:=bR x86 rfl
def x89_w:=bK' x89 rfl
def x89_r:=bR x89 rfl
def x94_w:=bK' x94 rfl
def x94_r:=bR x94 rfl
def x95_w:=bK' x95 rfl
def x95_r:=bR x95 rfl
def x96l4_w:=lK' x96l4 rfl
def x96_w:=bK' x96 rfl
def x96_r:=bR x96 rfl
def x97_w:=bK' x97 rfl
def x97_r:=bR x97 rfl
def x98_w:=bK' x98 rfl
def x98_r:=bR x98 rfl
def x99_w:=bK' x99 rfl
def x99_r:=bR x99 rfl
def x100l8_w:=lK' x100l8 rfl
def x100_w:=bK' x100 rfl
def x100_r:=bR x100 rfl
def x101_w:=bK' x101 rfl
def x101_r:=bR x101 rfl
def x102_w:=bK' x102 rfl
def x102_r:=bR x102 rfl
def x103_w:=bK' x103 rfl
def x103_r:=bR x103 rfl
def x104_w:=bK' x104 rfl
def x104_r:=bR x104 rfl
def x105l8_w:=lK' x105l8 rfl
def x105_w:=bK' x105 rfl
def x105_r:=bR x105 rfl
def x106_w:=bK' x106 rfl
def x106_r:=bR x106 rfl
def x107l12_w:=lK' x107l12 rfl
def x107_w:=bK' x107 rfl
def x107_r:=bR x107 rfl
def x108_w:=bK' x108 rfl
def x108_r:=bR x108 rfl
def x109_w:=bK' x109 rfl
def x109_r:=bR x109 rfl
def x110_w:=bK' x110 rfl
def x110_r:=bR x110 rfl
def x111_w:=bK' x111 rfl
def x111_r:=bR x111 rfl
def x112_w:=bK' x112 rfl
def x112_r:=bR x112 rfl
def x113_w:=bK' x113 rfl
def x113_r:=bR x113 rfl
def x1011300r4_w:=rK' x1011300r4 rfl
def x1011300_w:=bK' x1011300 rfl
def x114l9_w:=lK' x114l9 rfl
def x114_w:=bK' x114 rfl
def x114_r:=bR x114 rfl
def x115_w:=bK' x115 rfl
def x115_r:=bR x115 rfl
def x116_w:=bK' x116 rfl
def x116_r:=bR x116 rfl
def x117_w:=bK' x117 rfl
def x117_r:=bR x117 rfl
def x121_w:=bK' x121 rfl
def x121_r:=bR x121 rfl
def x147_w:=bK' x147 rfl
def x147_r:=bR x147 rfl
def x148_w:=bK' x148 rfl
def x148_r:=bR x148 rfl
def x149_w:=bK' x149 rfl
def x149_r:=bR x149 rfl
def x150l7_w:=lK' x150l7 rfl
def x150_w:=bK' x150 rfl
def x150_r:=bR x150 rfl
def x152_w:=bK' x152 rfl
def x152_r:=bR x152 rfl
def x154_w:=bK' x154 rfl
def x154_r:=bR x154 rfl
def x155_w:=bK' x155 rfl
def x155_r:=bR x155 rfl
def x156l8_w:=lK' x156l8 rfl
def x156_w:=bK' x156 rfl
def x156_r:=bR x156 rfl
def x157l8_w:=lK' x157l8 rfl
def x157_w:=bK' x157 rfl
def x157_r:=bR x157 rfl
def x158_w:=bK' x158 rfl
def x158_r:=bR x158 rfl
def x159l8_w:=lK' x159l8 rfl
def x159_w:=bK' x159 rfl
def x159_r:=bR x159 rfl
def x161l11_w:=lK' x161l11 rfl
def x161_w:=bK' x161 rfl
def x161_r:=bR x161 rfl
def x179l8_w:=lK' x179l8 rfl
def x179_w:=bK' x179 rfl
def x179_r:=bR x179 rfl
def x182l5_w:=lK' x182l5 rfl
def x182_w:=bK' x182 rfl
def x182_r:=bR x182 rfl
def x195_w:=bK' x195 rfl
def x195_r:=bR x195 rfl
end
end Go.Proofs.YtjhffhmokcogkaaGreatDoor.Ab
