/- A part. -/
import Derived.Test.YtjhffhmokcogkaaGreatDoorCb12
set_option linter.unusedVariables false
set_option linter.unusedSimpArgs false
set_option linter.defProp false
set_option maxRecDepth 20000
set_option maxHeartbeats 8000000
noncomputable section
namespace Go.Proofs.YtjhffhmokcogkaaGreatDoor.Ab
open Go
structure Vis {σ:Type}(hst:σ→List O) (nx:σ→D→σ) (fv:V) (n0 L0:Nat):Prop where
 vw:fv.vw2=fv
 ok:okc fv=true
 len:fv.cells.length=1
 one:fv.cells=[fv]
 low:fv.low L0=true
 size:∀s,(hst s).length=L0
 keep:∀s R,aU (hst s++R)→∀s',aU (hst s'++R)
 call:∀x,okX x→∀n,n0≤n→∀s R,aU (hst s++R)→cW (Ab.call X E n) fv [x.v] (hst s++R)=some (.tup [],hst (nx s x)++R)
theorem tL (f:Nat) (y:D):((prP y).flatMap fun p=>prE f p.1)=(inn y).flatMap (prE f):=by
 unfold inn;rw[List.flatMap_map]
theorem DG {σ:Type}{hst:σ→List O}{nx:σ→D→σ}{fv:V}{n0 L0:Nat}(hV:Vis hst nx fv n0 L0):∀(f:Nat) (y:D),y.sz≤f→okE f y→y.sz<100000000→∀m,n0+3*f+10≤m→∀(s:σ) (R:List O) (p q:Nat),R[p]?=some (.cells [fv])→R[q]?=some (.cells [.clo 100 [.ref (L0+p) 0,.ref (L0+q) 0]])→aU (hst s++R) →
  call X E m 100 [y.v,.ref (L0+p) 0,.ref (L0+q) 0] (hst s++R)=some (.tup [],hst ((prE f y).foldl nx s)++R)
 | 0,y,h,_,_,_,_,_,_,_,_,_,_,_=>by have:=ao y;omega
 | f+1,y,hf,hok,hb,m,hm,s,R,p,q,hp,hq,hlo=>by
  obtain⟨m,rfl⟩:∃m',m=m'+4:=⟨m-4,by omega⟩
  have hX:okX y:=hok.1;obtain⟨i,c101⟩:=CE hX hb (n:=m) (by omega);have c101:∀h,call X E (m+3) 101 [y.v] h=some (.sl (D.vs (inn y)) i,h):=c101;have cv:=hV.call y hX (m+3) (by omega) s;have hin:∀x∈inn y,x.sz<y.sz∧okE f x:=fun x hx=>by
   obtain⟨pp,hpp,rfl⟩:=List.mem_map.1 hx;exact⟨mX hok.1 hpp,hok.2 pp hpp⟩
  have c100:∀x∈inn y,∀(s:σ) (R:List O),R[p]?=some (.cells [fv])→R[q]?=some (.cells [.clo 100 [.ref (L0+p) 0,.ref (L0+q) 0]])→aU (hst s++R)→call X E (m+3) 100 [x.v,.ref (L0+p) 0,.ref (L0+q) 0] (hst s++R)=some (.tup [],hst ((prE f x).foldl nx s)++R):=fun x hx s R a b c =>
   DG hV f x (by have:=(hin x hx).1;omega) (hin x hx).2 (by have:=(hin x hx).1;omega) (m+3) (by omega) s R p q a b c
  have hE:prE (f+1) y=y::(inn y).flatMap (prE f):=by rw[← tL];rfl
  have hlen:(inn y).length<m+3∧(inn y).length<1000000000:=by
   have h1:=ng hok.1;have h2:(inn y).length=(prP y).length:=by simp[inn]
   constructor<;>omega
  rw[hE,List.foldl_cons,de (xf:=x100) rfl rfl rfl];have hgp:∀s' R',(hst s'++(R++R'))[L0+p]?=some (.cells [fv]):=fun s' R'=>by
   rw[aR (by rw[hV.size];omega),hV.size,Nat.add_sub_cancel_left];exact bU hp _
  have hgq:∀s' R',(hst s'++(R++R'))[L0+q]?=some (.cells [.clo 100 [.ref (L0+p) 0,.ref (L0+q) 0]]):=fun s' R'=>by
   rw[aR (by rw[hV.size];omega),hV.size,Nat.add_sub_cancel_left];exact bU hq _
  refine dm (by kernel_rfl) rfl rfl (cm ?_);have hsl:=aa (inn y);have hs0:=hV.size;have hkeep:=hV.keep;generalize hm3:m+3=M at *;generalize call X E M=cf at *;have hlo1:aU (hst s++(R++[O.cells y.v.cells])):=by
   rw[← List.append_assoc];exact nP hlo y
  have cv1:=cv _ hlo1;have hle:∀a b:σ,∀Z,(hst a++Z).length=(hst b++Z).length:=fun a b Z=>by simp[hs0]
  simp -implicitDefEqProofs [x100_w,↓hgp,↓hgq,cv1,hs0,c101];have h102:(100:Nat)<rid:=by decide
  obtain⟨J,hJ⟩:∃J:Nat→SF→Prop,J=fun k s'=>∃j R',j+k=(inn y).length∧s'.e 12=.c (.int .i64 j)∧s'.h=hst ((((inn y).take j).flatMap (prE f)).foldl nx (nx s y))++(R++R')∧aU (hst (nx s y)++(R++R')):=⟨_,rfl⟩
  refine aX J (inn y).length hlen.1 (by rw[hJ];exact⟨0,[O.cells y.v.cells],by simp,by simp[au],by simp,hkeep _ _ hlo1 _⟩) ?_;rintro k ⟨e,h',base,rb⟩ hj he hb2;rw[hJ] at hj;obtain⟨j,R',hj,f12,hh',hlR⟩:=hj;have g1:=he 1 rfl;have g2:=he 2 rfl;have g10:=he 10 rfl;have g11:=he 11 rfl;simp[au,bD] at g1 g2 g10 g11 hb2;simp only at f12 hh';subst hh' hb2;by_cases hm2:j<(inn y).length;rotate_left
  ·have hlt:¬(j:Int)<(inn y).length:=by omega
   obtain rfl:j=(inn y).length:=by omega
   rw[List.take_of_length_le (nL _)];have hlF:=hkeep s R hlo ((((inn y).flatMap (prE f))).foldl nx (nx s y));unfold aU at hlF;rw[lA,hs0,List.all_append,bT] at hlF;simp -implicitDefEqProofs [x100l8_w,x100_r,f12,g11,hlt];refine⟨rfl,rfl,?_,fun x hx=>List.all_eq_true.1 hlF.1 x hx,fun x hx=>List.all_eq_true.1 hlF.2 x hx⟩;rw[← List.append_assoc];exact List.take_left' (by rw[lA,hs0])
  have hlt:(j:Int)<(inn y).length:=by omega
  have hw:IntKind.i64.wrap ((j:Int)+1)=(j:Int)+1:=aB (by omega);have hvg:(D.vs (inn y))[j]'(by rw[aa];omega)=((inn y)[j]).v:=ac _;have hmem:=List.getElem_mem hm2;have hft:=pD (prE f) hm2;have c100x:=c100 _ hmem;generalize (inn y)[j]=x at *;obtain⟨S,hS⟩:∃S,S=(((inn y).take j).flatMap (prE f)).foldl nx (nx s y):=⟨_,rfl⟩
  rw[← hS];have hlR2:aU (hst (nx s y)++(R++(R'++[O.cells x.v.cells]))):=by
   have h3:=nP hlR x;simpa using h3
  have cx:=c100x S (R++(R'++[O.cells x.v.cells])) (bU hp _) (bU hq _) (hkeep _ _ hlR2 _);simp -implicitDefEqProofs [x100l8_w,f12,g1,g2,g10,g11,hlt,hm2,hsl,hvg,ae,↓hgq,h102,hs0,cx];refine⟨k-1,by omega,?_⟩;rw[hJ];refine⟨j+1,R'++[O.cells x.v.cells],by omega,by simp[au,hw],?_,hlR2⟩;rw[hft,List.foldl_append,← hS]
theorem Ii {σ:Type}{hst:σ→List O}{nx:σ→D→σ}{fv:V}{n0 L0:Nat}(hV:Vis hst nx fv n0 L0) (hfv:fv.vwf=fv){f:Nat}{t:D}(hb:t.sz<100000000) (hl1:2≤t.kids.length){T:List D}(hT:t.kids.drop 1=T)
  (hT4:∀x∈T,x.kids.length=4∧okE f (x.kid 3)) (hf:t.sz≤f){m:Nat}(hm:n0+3*f+20≤m) (s:σ) (R:List O) (hlo:aU (hst s++R)) :
  call X E m 44 [t.v,fv] (hst s++R)=some (.tup [],hst ((T.flatMap fun x=>prE f (x.kid 3)).foldl nx s)++R):=by
 obtain⟨m,rfl⟩:∃m',m=m'+1:=⟨m-1,by omega⟩
 have hTl:T.length=t.kids.length-1:=by rw[← hT];simp
 have hkl:=aQ t;have h1i:(1:Int)≤t.kids.length:=by omega
 have h1l:1≤t.kids.length:=by omega
 have hTm:∀x∈T,x∈t.kids:=fun x hx=>bZ (by rw[← hT] at hx;exact hx)
 obtain⟨W,hW⟩:∃W,W=[O.cells t.v.cells,O.cells [fv],O.cells [.clo 100 [.ref (L0+(R.length+1)) 0,.ref (L0+(R.length+2)) 0]]]:=⟨_,rfl⟩
 have hp:∀R',(R++(W++R'))[R.length+1]?=some (.cells [fv]):=fun R'=>by
  rw[aR (by omega),Nat.add_sub_cancel_left,hW];rfl
 have hq:∀R',(R++(W++R'))[R.length+2]?=some (.cells [.clo 100 [.ref (L0+(R.length+1)) 0,.ref (L0+(R.length+2)) 0]]):=fun R'=>by
  rw[aR (by omega),Nat.add_sub_cancel_left,hW];rfl
 have c100:∀x∈T,∀(s:σ) (R':List O),aU (hst s++(R++(W++R')))→call X E m 100 [(x.kid 3).v,.ref (L0+(R.length+1)) 0,.ref (L0+(R.length+2)) 0] (hst s++(R++(W++R')))=some (.tup [],hst ((prE f (x.kid 3)).foldl nx s)++(R++(W++R'))):=fun x hx s R' hl=>by
  obtain⟨h4,hok⟩:=hT4 x hx;have k1:=aC (hTm x hx);have k2:=aC (aA (d:=x) (j:=3) (by omega));exact DG hV f (x.kid 3) (by omega) hok (by omega) m (by omega) s _ _ _ (hp R') (hq R') hl
 rw[de (xf:=x44) rfl rfl rfl];refine dm (by kernel_rfl) rfl rfl (cm ?_);have hsl:=aa t.kids;have hs0:=hV.size;have hkeep:=hV.keep;have hfw:=hV.vw;have hfo:=hV.ok;have hfl:=hV.len;have hfc:=hV.one;have hvsl:=aa T;have hT1:t.kids.tail=T:=by rw[← List.drop_one];exact hT
 have hz:=D.hz t.kids;have hfL:fv.low L0=true:=hV.low;have hlW:aU (hst s++(R++W)):=by
  rw[← List.append_assoc];refine nV hlo ?_;have h1:=ap ((hst s++R).length+W.length) t;have h2:fv.low ((hst s++R).length+W.length)=true:=iB (by rw[lA,hs0];omega) fv hfL;have h3:(hst s++R).length=L0+R.length:=by rw[lA,hs0]
  rw[hW] at h1 h2 ⊢;rw[h3] at h1 h2 ⊢;simp only[lC,List.length_nil] at h1 h2 ⊢;simp[h1,ba,V.lows,V.low,h2];omega
 generalize call X E m=cf at *;have hg:∀(u:σ) (R':List O) (k:Nat),(hst u++R')[L0+k]?=R'[k]?:=fun u R' k=>by
  rw[aR (by rw[hs0];omega),hs0,Nat.add_sub_cancel_left]
 have hall:∀u:σ,(∀o∈hst u,O.low (L0+R.length) o=true)∧∀o∈R,O.low (L0+R.length) o=true:=fun u=>by
  have h1:=hkeep s R hlo u;unfold aU at h1;rw[lA,hs0,List.all_append,bT] at h1;exact⟨List.all_eq_true.1 h1.1,List.all_eq_true.1 h1.2⟩
 obtain⟨P,hP⟩:∃P,P=hst s++R:=⟨_,rfl⟩
 have hPl:P.length=L0+R.length:=by rw[hP,lA,hs0]
 rw[← hP];simp -implicitDefEqProofs [x44_w,hfw,hfo,hfl,hfc,hfv,hsl,h1i,h1l,hT1,hz];have h102:(100:Nat)<rid:=by decide
 have hb1:P.length+1=L0+(R.length+1):=by omega
 have hb2:P.length+2=L0+(R.length+2):=by omega
 have hPW:P++[O.cells t.v.cells,O.cells [fv],O.cells [V.clo 100 [V.ref (P.length+1) 0,V.ref (P.length+2) 0]]]=hst s++(R++(W++[])):=by
  rw[hb1,hb2,hW,hP];simp
 obtain⟨J,hJ⟩:∃J:Nat→SF→Prop,J=fun k s'=>∃j R',j+k=T.length∧s'.e 12=.c (.int .i64 j)∧s'.h=hst (((T.take j).flatMap fun x=>prE f (x.kid 3)).foldl nx s)++(R++(W++R'))∧aU (hst s++(R++(W++R'))):=⟨_,rfl⟩
 refine aX J T.length (by omega) (by rw[hJ];exact⟨0,[],by simp,by simp[au],hPW,by simpa using hlW⟩) ?_;rintro k ⟨e,h',base,rb⟩ hj he hb2';rw[hJ] at hj;obtain⟨j,R',hj,f12,hh',hlR⟩:=hj;have g4:=he 4 rfl;have g10:=he 10 rfl;have g11:=he 11 rfl;simp[au,bD] at g4 g10 g11 hb2';rw[hb2] at g4;simp only at f12 hh';subst hh' hb2';by_cases hm2:j<T.length;rotate_left
 ·have hlt:¬(j:Int)<T.length:=by omega
  obtain rfl:j=T.length:=by omega
  rw[List.take_of_length_le (nL _)];have hA:=hall ((T.flatMap fun x=>prE f (x.kid 3)).foldl nx s);simp -implicitDefEqProofs [x44l9_w,x44_r,f12,g11,hlt];refine⟨rfl,rfl,?_,by rw[hPl];exact hA.1,by rw[hPl];exact hA.2⟩;rw[← List.append_assoc];exact List.take_left' (by rw[lA,hs0,hPl])
 have hlt:(j:Int)<T.length:=by omega
 have hw:IntKind.i64.wrap ((j:Int)+1)=(j:Int)+1:=aB (by omega);have hvg:(D.vs T)[j]'(by rw[aa];omega)=(T[j]).v:=ac _;have hmem:=List.getElem_mem hm2;have hft:=pD (fun x=>prE f (x.kid 3)) hm2;have c100x:=c100 _ hmem;have hx4:=(hT4 _ hmem).1;generalize T[j]=x at *;obtain⟨S,hS⟩:∃S,S=((T.take j).flatMap fun x=>prE f (x.kid 3)).foldl nx s:=⟨_,rfl⟩
 rw[← hS];have p3l:3<x.kids.length:=by omega
 have p3i:(3:Int)<x.kids.length:=by omega
 have v3:((D.vs x.kids)[3]'(by rw[aa];exact p3l))=(x.kid 3).v:=ah _;have hlR2:aU (hst s++(R++(W++(R'++[O.cells x.v.cells])))):=by
  have h3:=nP hlR x;simpa using h3
 have cx:=c100x S (R'++[O.cells x.v.cells]) (hkeep _ _ hlR2 _);have hgq:∀R',(hst S++(R++(W++R')))[L0+(R.length+2)]?=some (.cells [.clo 100 [.ref (L0+(R.length+1)) 0,.ref (L0+(R.length+2)) 0]]):=fun R'=>by
  rw[hg];exact hq R'
 have hWl:W.length=3:=by rw[hW];rfl
 clear hW hPW;simp -implicitDefEqProofs [x44l9_w,f12,g4,g10,g11,hlt,hm2,hvsl,hvg,ae,↓hgq,h102,hs0,hWl,p3l,p3i,v3,cx];refine⟨k-1,by omega,?_⟩;rw[hJ];refine⟨j+1,R'++[O.cells x.v.cells],by omega,by simp[au,hw],?_,hlR2⟩;rw[hft,List.foldl_append,← hS]
set_option linter.defProp false
section
variable (cf:aw) (n:Nat) (s:SF) (K:List Fr) (Q:Ex→SF→Prop)
def x10_w:=bK' x10 rfl
def x10_r:=bR x10 rfl
def x45_w:=bK' x45 rfl
def x45_r:=bR x45 rfl
end
def ji (t:D) (s:Int × Int):List O:=[O.cells t.v.cells,.cells [.c (.int .i64 s.1)],.cells [.c (.int .i64 s.2)]]
def Dp (s:Int × Int) (x:D):Int × Int:=if wn x.wd=9 then (IntKind.i64.wrap (s.1+1),s.2) else if wn x.wd=15 then (s.1,IntKind.i64.wrap (s.2+1)) else s
theorem HY (t:D){x:D}(hx:okX x) (n:Nat) (s:Int × Int) (R:List O) (hlo:aU (ji t s++R)) (hlo':aU (ji t (Dp s x)++R)) :
  call X E (n+1) 45 [x.v,.ref 1 0,.ref 2 0] (ji t s++R)=some (.tup [],ji t (Dp s x)++R):=by
 obtain⟨hwd,hl1⟩:=mw hx;have l0i:(0:Int)<x.kids.length:=by omega
 have l0:0<x.kids.length:=by omega
 have v0:((D.vs x.kids)[0]'(by rw[aa];exact l0))=(x.kid 0).v:=ah _;have hsl:=aa x.kids;obtain⟨a,b⟩:=s;have hall:∀o∈ji t (Dp (a,b) x)++R,O.low (ji t (a,b)++R).length o=true:=by
  unfold aU at hlo';rw[List.all_eq_true] at hlo';intro o ho;exact hlo' o ho
 rw[de (xf:=x45) rfl rfl rfl];refine dm (by kernel_rfl) rfl rfl (cm ?_);generalize call X E n=cf at *;unfold Dp at hall ⊢;rw[hwd] at hall ⊢;unfold ji at hall ⊢;by_cases h9:wn (x.kid 0).tx=9
 ·simp only[h9,if_true] at hall ⊢;simp -implicitDefEqProofs [x45_w,x45_r,l0,l0i,v0,hsl,h9];refine⟨rfl,rfl,?_⟩;simpa using hall
 have b9:(wn (x.kid 0).tx==9)=false:=beq_false_of_ne h9;by_cases h15:wn (x.kid 0).tx=15
 ·simp only[if_neg h9,h15,if_true] at hall ⊢;simp -implicitDefEqProofs [x45_w,x45_r,l0,l0i,v0,hsl,h15,b9];refine⟨rfl,rfl,?_⟩;simpa using hall
 have b15:(wn (x.kid 0).tx==15)=false:=beq_false_of_ne h15;simp only[if_neg h9,if_neg h15] at hall ⊢;simp -implicitDefEqProofs [x45_w,x45_r,l0,l0i,v0,hsl,b15,b9];refine⟨rfl,rfl,?_⟩;simpa using hall
theorem rz {m:Nat}(x:Value):O.low m (.cells [.c x])=true:=rfl
theorem i6 {A B R:List O}(hA:A.length=B.length) (hB:∀m,B.all (O.low m)=true) (h:aU (A++R)):aU (B++R):=by
 unfold aU at h ⊢;rw[List.all_append,bT,lA] at h ⊢;rw[hA] at h;exact⟨hB _,h.2⟩
theorem nQ (t:D) (s:Int × Int) (m:Nat):(ji t s).all (O.low m)=true:=by
 simp only[ji,List.all_cons,List.all_nil,ap,rz,Bool.and_self]
theorem HK (t:D):Vis (ji t) Dp (.clo 45 [.ref 1 0,.ref 2 0]) 1 3 where
 vw:=rfl
 ok:=rfl
 len:=rfl
 one:=rfl
 low:=rfl
 size:=fun _=>rfl
 keep:=fun s R h s'=>i6 rfl (nQ t s') h
 call:=fun x hx n hn s R h=>by
  obtain⟨n,rfl⟩:∃n',n=n'+1:=⟨n-1,by omega⟩
  rw[fK,if_pos (by decide),List.singleton_append,HY t hx n s R h (i6 rfl (nQ t _) h),jq,if_pos (by simp[ji])]
def d8 (t:D) (m:Int):List O:=[O.cells t.v.cells,.cells [.c (.int .i64 m)]]
theorem gp (t:D) (s:Int) (m:Nat):(d8 t s).all (O.low m)=true:=by
 simp only[d8,List.all_cons,List.all_nil,ap,rz,Bool.and_self]
theorem HS (t:D){x:D}(hx:okX x) (n:Nat) (s:Int) (R:List O) (hlo':aU (d8 t (rq s x)++R)) :
  call X E (n+1) 99 [x.v,.ref 1 0] (d8 t s++R)=some (.tup [],d8 t (rq s x)++R):=by
 obtain⟨hwd,hl1⟩:=mw hx;have l0i:(0:Int)<x.kids.length:=by omega
 have l0:0<x.kids.length:=by omega
 have v0:((D.vs x.kids)[0]'(by rw[aa];exact l0))=(x.kid 0).v:=ah _;have hsl:=aa x.kids;have hall:∀o∈d8 t (rq s x)++R,O.low (d8 t s++R).length o=true:=by
  unfold aU at hlo';rw[List.all_eq_true] at hlo';intro o ho;exact hlo' o ho
 have harg:=k9 hx;rw[de (xf:=x99) rfl rfl rfl];refine dm (by kernel_rfl) rfl rfl (cm ?_);generalize call X E n=cf at *;unfold rq at hall ⊢;rw[hwd] at hall harg ⊢;unfold d8 at hall ⊢;by_cases h6:wn (x.kid 0).tx=6
 ·obtain⟨o1,o2,o3⟩:=harg h6;have l1i:(1:Int)<x.kids.length:=by omega
  have l1:1<x.kids.length:=by omega
  have v1:((D.vs x.kids)[1]'(by rw[aa];exact l1))=(x.kid 1).v:=ah _;have hw:IntKind.i64.wrap ((x.kid 1).nu+1)=(x.kid 1).nu+1:=aB (by omega);rw[if_pos h6] at hall ⊢;unfold mxI at hall ⊢;simp -implicitDefEqProofs [x99_w,x99_r,l0,l0i,v0,l1,l1i,v1,hsl,h6,hw];refine⟨rfl,rfl,?_⟩;simpa using hall
 have b6:(wn (x.kid 0).tx==6)=false:=beq_false_of_ne h6;rw[if_neg h6] at hall ⊢;simp -implicitDefEqProofs [x99_w,x99_r,l0,l0i,v0,hsl,b6];refine⟨rfl,rfl,?_⟩;simpa using hall
theorem FC (t:D):Vis (d8 t) rq (.clo 99 [.ref 1 0]) 1 2 where
 vw:=rfl
 ok:=rfl
 len:=rfl
 one:=rfl
 low:=rfl
 size:=fun _=>rfl
 keep:=fun s R h s'=>i6 rfl (gp t s') h
 call:=fun x hx n hn s R h=>by
  obtain⟨n,rfl⟩:∃n',n=n'+1:=⟨n-1,by omega⟩
  rw[fK,if_pos (by decide),List.singleton_append,HS t hx n s R (i6 rfl (gp t _) h),jq,if_pos (by simp[d8])]
def exs (t:D):List D:=(t.kids.drop 1).flatMap fun x=>prE t.sz (x.kid 3)
theorem HX (t:D) (h0:t.tck=0){n:Nat}(hn:12*t.sz+410≤n):aV (n+1) 43 [t.v] (.c (.int .i64 (mxA (mxF 0 (t.kid 0).kids) (exs t)))):=by
 obtain⟨h1,h2,h3,h4,h5,h6⟩:=lX h0;have hkl:=aQ t;have l0:0<t.kids.length:=by omega
 have l0i:(0:Int)<t.kids.length:=by omega
 have v0:((D.vs t.kids)[0]'(by rw[aa];exact l0))=(t.kid 0).v:=ah _;have k0:=aC (aA l0);have y0:=aQ (t.kid 0);have c44:∀(m:Int) (R:List O),aU (d8 t m++R)→call X E n 44 [t.v,.clo 99 [.ref 1 0]] (d8 t m++R)=some (.tup [],d8 t (mxA m (exs t))++R):=fun m R hlo =>
  Ii (FC t) rfl (f:=t.sz) (t:=t) (by omega) h3 rfl h6 (nL _) (m:=n) (by omega) m R hlo
 generalize hF:(t.kid 0).kids=F at *;have hsl:=aa F;have hslt:=aa t.kids;refine azz (by simp[V.lows,V.low]) ?_;have hFn:F.length<n:=by omega
 generalize call X E n=cf at *;simp -implicitDefEqProofs [x43_w,l0,l0i,v0,hsl,hslt,hF];obtain⟨J,hJ⟩:∃J:Nat→SF→Prop,J=fun k s'=>∃j R',j+k=F.length∧s'.e 12=.c (.int .i64 j)∧s'.h=d8 t (mxF 0 (F.take j))++R'∧aU (d8 t 0++R'):=⟨_,rfl⟩
 refine aX J F.length hFn (by rw[hJ];exact⟨0,[],by simp,by simp[au],rfl,by rw[List.append_nil];exact gp t _ _⟩) ?_;rintro k ⟨e,h',base,rb⟩ hj he hb2;rw[hJ] at hj;obtain⟨j,R',hj,f12,hh',hlR⟩:=hj;have g1:=he 1 rfl;have g3:=he 3 rfl;have g10:=he 10 rfl;have g11:=he 11 rfl;simp[au,bD] at g1 g3 g10 g11 hb2;simp only at f12 hh';subst hh' hb2;by_cases hm2:j<F.length;rotate_left
 ·have hlt:¬(j:Int)<F.length:=by omega
  obtain rfl:j=F.length:=by omega
  rw[List.take_of_length_le (nL _)];have cx:=c44 (mxF 0 F) R' (i6 rfl (gp t _) hlR);generalize mxF 0 F=A at *;generalize mxA A (exs t)=B at *;unfold d8 at cx ⊢;simp only[List.cons_append,List.nil_append] at cx;simp -implicitDefEqProofs [x43l8_w,x43_r,f12,g1,g3,g10,g11,hlt,cx]
  try rfl
 have hlt:(j:Int)<F.length:=by omega
 have hw:IntKind.i64.wrap ((j:Int)+1)=(j:Int)+1:=aB (by omega);have hvg:(D.vs F)[j]'(by rw[aa];omega)=(F[j]).v:=ac _;have hox:=h5 _ (List.getElem_mem hm2);have ht:=pg hm2;generalize F[j]=x at *;have htx:=qx 0 (F.take j) x;rw[← ht] at htx;have hw2:IntKind.i64.wrap (x.nu+1)=x.nu+1:=aB (by omega);have hlR2:aU (d8 t 0++(R'++[O.cells x.v.cells])):=by
  have h3:=nP hlR x;simpa using h3
 generalize mxF 0 (F.take j)=A at *;unfold d8;simp -implicitDefEqProofs [x43l8_w,f12,g1,g3,g10,g11,hlt,hm2,hsl,hvg,ae,hw2];refine⟨k-1,by omega,?_⟩;rw[hJ];refine⟨j+1,R'++[O.cells x.v.cells],by omega,by simp[au,hw],?_,hlR2⟩;rw[htx];simp[d8,mxI]
set_option linter.defProp false
section
variable (cf:aw) (n:Nat) (s:SF) (K:List Fr) (Q:Ex→SF→Prop)
def x5_w:=bK' x5 rfl
def x5_r:=bR x5 rfl
def x19l7_w:=lK' x19l7 rfl
def x19_w:=bK' x19 rfl
def x19_r:=bR x19 rfl
def x20l14_w:=lK' x20l14 rfl
def x20l21_w:=lK' x20l21 rfl
def x20_w:=bK' x20 rfl
def x20_r:=bR x20 rfl
def x21l7_w:=lK' x21l7 rfl
def x21_w:=bK' x21 rfl
def x21_r:=bR x21 rfl
def x22l5_w:=lK' x22l5 rfl
def x22l11_w:=lK' x22l11 rfl
def x22l16_w:=lK' x22l16 rfl
def x22l23_w:=lK' x22l23 rfl
def x22_w:=bK' x22 rfl
def x22_r:=bR x22 rfl
def x57_w:=bK' x57 rfl
def x57_r:=bR x57 rfl
def x58_w:=bK' x58 rfl
def x58_r:=bR x58 rfl
def x59_w:=bK' x59 rfl
def x59_r:=bR x59 rfl
def x60l7_w:=lK' x60l7 rfl
def x60_w:=bK' x60 rfl
def x60_r:=bR x60 rfl
def x62l19_w:=lK' x62l19 rfl
def x62_w:=bK' x62 rfl
def x62_r:=bR x62 rfl
def x63_w:=bK' x63 rfl
def x63_r:=bR x63 rfl
def x64_w:=bK' x64 rfl
def x64_r:=bR x64 rfl
def x65_w:=bK' x65 rfl
def x65_r:=bR x65 rfl
def x66_w:=bK' x66 rfl
def x66_r:=bR x66 rfl
def x67_w:=bK' x67 rfl
def x67_r:=bR x67 rfl
def x68l30_w:=lK' x68l30 rfl
def x68_w:=bK' x68 rfl
def x68_r:=bR x68 rfl
def x69l7_w:=lK' x69l7 rfl
def x69_w:=bK' x69 rfl
def x69_r:=bR x69 rfl
def x73_w:=bK' x73 rfl
def x73_r:=bR x73 rfl
def x82l7_w:=lK' x82l7 rfl
def x82_w:=bK' x82 rfl
def x82_r:=bR x82 rfl
def x118_w:=bK' x118 rfl
def x118_r:=bR x118 rfl
def x119_w:=bK' x119 rfl
def x119_r:=bR x119 rfl
def x120_w:=bK' x120 rfl
def x120_r:=bR x120 rfl
def x123l8_w:=lK' x123l8 rfl
def x123_w:=bK' x123 rfl
def x123_r:=bR x123 rfl
def x124_w:=bK' x124 rfl
def x124_r:=bR x124 rfl
def x160_w:=bK' x160 rfl
def x160_r:=bR x160 rfl
end
def GrowF (z:Nat) (us:List V) (si:SI) (h:List O):Prop:=(us=[]∧si=.nil)∨si=.full∨∃q,si=.tok q∧h[q]?=some (.tok us.length z)
theorem GrowF.app {z:Nat}{us:List V}{si:SI}{h:List O}(hG:GrowF z us si h) (pre:List O):GrowF z us si (h++pre):=by
 rcases hG with h1|h1|⟨q,h1,h2⟩
 ·exact .inl h1
 ·exact .inr (.inl h1)
 ·exact .inr (.inr ⟨q,h1,by rw[aL (gS.1 h2).1];exact h2⟩)
theorem GrowF.nil (z:Nat) (h:List O):GrowF z [] .nil h:=.inl ⟨rfl,rfl⟩
theorem GrowF.full (z:Nat) (us:List V) (h:List O):GrowF z us .full h:=.inr (.inl rfl)
theorem GrowF.low {z:Nat}{us:List V}{si:SI}{h:List O}(hG:GrowF z us si h):si.low h.length=true:=by
 rcases hG with⟨rfl,rfl⟩|rfl|⟨q,rfl,hq⟩
 ·rfl
 ·rfl
 ·simpa[SI.low] using (gS.1 hq).1
theorem wQ {us:List V}{si:SI}{ws:List V}{al b:Nat}{zz:Option Nat}{h:List O}(hG:GrowF (zc zz) us si h) (hd:h[al]?=some .dead∨h[al]?=some .want) :
  ∃si' h',gJ 0 al b zz false h us si ws=some (.sl (us++ws) si',h')∧GrowF (zc zz) (us++ws) si' h'∧h'.length=h.length∧Keeps h h'∧(aU h→aU h')∧(si≠.full→si'≠.full):=by
 cases ws with
 | nil=>exact⟨si,h,by rw[dw,List.append_nil],by rw[List.append_nil];exact hG,rfl,.rfl' h,fun a=>a,fun a=>a⟩
 | cons w ws =>
  have hl:al<h.length:=by rcases hd with hd|hd<;>exact (gS.1 hd).1
  have new:∀si,si=.nil∨si=.full→∃si' h',gJ 0 al b zz false h us si (w::ws)=some (.sl (us++w::ws) si',h')∧GrowF (zc zz) (us++w::ws) si' h'∧h'.length=h.length∧Keeps h h'∧(aU h→aU h')∧(si≠.full→si'≠.full):=fun si hsi=>by
   refine⟨.tok al,h.set al (.tok (us.length+(w::ws).length) (zc zz)),?_,.inr (.inr ⟨al,rfl,?_⟩),by simp,.set _ fun cs e=>?_,fun hh=>gt hh rfl,fun _=>by simp⟩
   ·rcases hsi with rfl|rfl<;>rcases hd with hd|hd
    ·exact fR 0 al b zz h us ws w hd
    ·exact fJ 0 al b zz h us ws w hd
    ·exact dM 0 al b zz h us ws w hd
    ·exact eJ 0 al b zz h us ws w hd
   ·rw[sS hl];simp
   ·rcases hd with hd|hd<;>rw[hd] at e<;>cases e
  rcases hG with⟨_,rfl⟩|rfl|⟨q,rfl,hq⟩
  ·exact new _ (.inl rfl)
  ·exact new _ (.inr rfl)
  ·have hl:q<h.length:=(gS.1 hq).1;refine⟨.tok q,h.set q (.tok (us.length+(w::ws).length) (zc zz)),dV 0 al b q zz false h us ws w hq,.inr (.inr ⟨q,rfl,?_⟩),by simp,.set _ fun cs e=>?_,fun hh=>gt hh rfl,fun _=>by simp⟩
   ·rw[sS hl];simp
   ·rw[hq] at e;cases e
theorem bp {cf:aw}{n:Nat}{K:List Fr}{Q:Ex→SF→Prop}{s:SF}{us:List V}{si:SI}{ws:List V}{al b:Nat}{zz:Option Nat}{h:List O}{d:Option Nat}{r:List XOper}(hG:GrowF (zc zz) us si h) (hd:h[al]?=some .dead∨h[al]?=some .want)
  (hq:∀si' h',GrowF (zc zz) (us++ws) si' h'→h'.length=h.length→Keeps h h'→(aU h→aU h')→(si≠.full→si'≠.full)→sG cf n r K Q ⟨nU s.e d (.sl (us++ws) si'),h',s.base,s.rb⟩):gvk cf n (gJ 0 al b zz false h us si ws) d r K Q s:=by
 obtain⟨si',h',h1,h2,h3,h4,h5,h6⟩:=wQ (b:=b) (ws:=ws) hG hd;rw[h1,ct];exact hq si' h' h2 h3 h4 h5 h6
def D.lst (l:List D):D:=.mk 3 0 ⟨#[]⟩ l
def D.sy (t:ByteArray):D:=.mk 2 0 t []
def D.nb (n:Int):D:=.mk 1 n ⟨#[]⟩ []
def wdQ:ByteArray:=⟨#[113,117,111,116,101]⟩
def wdI:ByteArray:=⟨#[105,102]⟩
def wdL:ByteArray:=⟨#[108,101,116]⟩
def wdC:ByteArray:=⟨#[99,97,108,108]⟩
def qd (d:D):D:=.lst [.sy wdQ,d]
def hdW (w:Nat) (y:D):List D :=
 if w=2∨w=12∨w=13 then [.sy wdL,y.kid 1] else
 if w=7∨w=14 then [y.kid 1] else
 if w=3∨w=15 then [.sy wdC,y.kid 1] else [.sy wdI]
def fl (a:List D):Nat→D→D
 | 0,d=>d
 | f+1,y =>
  if wn y.wd=4 then qd (y.kid 1) else
  if wn y.wd=5∨wn y.wd=8 then y.kid 1 else
  if wn y.wd=6 then qd (a.getD (y.kid 1).nu.toNat .z0) else
  if wn y.wd=9 then fl a f (y.kid 1) else
  .lst (hdW (wn y.wd) y++(inn y).map (fl a f))
def agE (a:List D):Nat→D→Prop
 | 0,_=>True
 | f+1,y=>(wn y.wd=6→(y.kid 1).nu<a.length)∧∀x∈inn y,agE a f x
theorem bP {h:List O}{i:Nat}{x:O}(hi:h[i]?=some x) (o:O):(h.set i o)[i]?=some o:=sS (gS.1 hi).1
theorem Hl (l:List D) (i:SI){n:Nat}:aV (n+1) 59 [.sl (D.vs l) i] (D.lst l).v:=by
 have hlow:=D.lows 0 l;refine azz (by simp[aD,V.lows,V.low,SI.low,hlow]) ?_;simp -implicitDefEqProofs [x59_w,x59_r,D.lst,D.v,V.low,V.lows,SI.low,hlow]
theorem F0 (t:ByteArray){n:Nat}:aV (n+1) 119 [.c (.string t)] (D.sy t).v:=by
 refine azz (by simp[V.lows,V.low]) ?_;simp -implicitDefEqProofs [x119_w,x119_r,D.sy,D.v,D.vs,V.low,V.lows,SI.low]
theorem DA (t:ByteArray){n:Nat}:aV (n+1) 124 [.c (.string t)] (D.sy t).v:=by
 refine azz (by simp[V.lows,V.low]) ?_;simp -implicitDefEqProofs [x124_w,x124_r,D.sy,D.v,D.vs,V.low,V.lows,SI.low]
theorem Hw (k:Int){n:Nat}:aV (n+1) 73 [.c (.int .i64 k)] (D.nb k).v:=by
 refine azz (by simp[V.lows,V.low]) ?_;simp -implicitDefEqProofs [x73_w,x73_r,D.nb,D.v,D.vs,V.low,V.lows,SI.low]
theorem Ig (k:Int){n:Nat}:aV (n+1) 64 [.c (.int .i64 k)] (D.nb k).v:=by
 refine azz (by simp[V.lows,V.low]) ?_;simp -implicitDefEqProofs [x64_w,x64_r,D.nb,D.v,D.vs,V.low,V.lows,SI.low]
theorem pZ (d:D):d.v.low 0=true:=by
 have h:=D.lows 0 [d];simp only[D.vs,V.lows,Bool.and_true] at h;exact h
theorem GI (t:ByteArray){n:Nat}:aV (n+2) 65 [.c (.string t)] (D.sy t).v:=by
 have c1:∀h,call X E (n+1) 124 [.c (.string t)] h=some ((D.sy t).v,h):=DA t;have hl:=pZ (D.sy t);have hv:=D.vw (D.sy t);refine azz (by simp[V.lows,V.low]) ?_;generalize call X E (n+1)=cf at *;generalize D.sy t=d at *;simp -implicitDefEqProofs [x65_w,x65_r,c1,ae,hl,hv]
theorem G4 (t:ByteArray) (l:List D) (i:SI) (hb:l.length<100000000000){n:Nat}:aV (n+2) 58 [.c (.string t),.sl (D.vs l) i] (D.lst (.sy t::l)).v:=by
 have c1:∀h,call X E (n+1) 119 [.c (.string t)] h=some ((D.sy t).v,h):=F0 t;have c2:∀l i h,call X E (n+1) 59 [.sl (D.vs l) i] h=some ((D.lst l).v,h):=fun l i=>Hl l i
 have hlow:=D.lows 0 l;have hz:=D.hz l;have hz1:=D.hz [D.sy t];have hsl:=aa l;have hl:=pZ (D.lst (.sy t::l));refine azz (by simp[aD,V.lows,V.low,SI.low,hlow]) ?_;have c2x:=c2 (.sy t::l);have hvs:D.vs (.sy t::l)=[(D.sy t).v]++D.vs l:=rfl;rw[hvs] at c2x;clear c2;have hj1:(l.length+1)*56≤140737488355328:=by omega
 have hj2:l.length+1≤140737488355328:=by omega
 have hcl:=ab (D.sy t);generalize call X E (n+1)=cf at *;generalize D.lst (.sy t::l)=R at *;generalize D.sy t=d at *;simp -implicitDefEqProofs [x58_w,c1,ae,hsl,hz,hj1,hj2];refine⟨⟨by omega,by omega⟩,bp (zz:=some 4) (.full _ _ _) (.inl rfl) fun si' h' hG hl' hk hlo hnf=>?_⟩;have k0:=hk 0 _ rfl;have ks:=fun o=>bP k0 o
 have hvR:=D.vw R;have c2y:=c2x si' h';simp only[List.cons_append,List.nil_append] at c2y;simp -implicitDefEqProofs [x58_r,c2y,k0,↓ks,ae,hvR,hl]
theorem EX {n:Nat}{l l':List D}{i i':SI}{h:List O}(hl:l.length<4611686018427387904) (hn:l.length<n) (hh:aU h) (hc:∀x∈l,∀y∈l',aV n 121 [x.v,y.v] (.c (.bool (x.same y)))) :
  call X E (n+1) 161 [.sl (D.vs l) i,.sl (D.vs l') i',.c (.func (.func 121) #[] #[])] h=some (.c (.bool (D.sames l l')),h):=by
 have hc':∀x∈l,∀y∈l',∀h,call X E n 121 [x.v,y.v] h=some (.c (.bool (x.same y)),h):=hc;refine d6 rfl rfl rfl (by kernel_rfl) ⟨rfl,rfl⟩ (by simp[V.low]) hh ?_;generalize call X E n=cf at *;have hsl:=aa l;have hsl':=aa l';by_cases hll:l.length=l'.length;rotate_left
 ·have hle:((l.length:Int) != l'.length)=true:=by simp;omega
  have hsm:D.sames l l'=false:=by
   cases h:D.sames l l' with
   | false=>rfl
   | true=>exact absurd (D.sames_len h) hll
  rw[hsm];simp -implicitDefEqProofs [x161_w,x161_r,aD,hsl,hsl',hle]
 have hle:((l.length:Int) != l'.length)=false:=by simp[hll]
 simp -implicitDefEqProofs [x161_w,aD,hsl,hsl',hle];obtain⟨J,hJ⟩:∃J:Nat→SF→Prop,J=fun k s=>∃j,j+k=l.length∧s.e 17=.c (.int .i64 j)∧(∃R,s.h=h++R)∧D.sames l l'=D.sames (l.drop j) (l'.drop j):=⟨_,rfl⟩
 refine aX J l.length hn (by rw[hJ];exact⟨0,by simp,by simp[au],⟨[],by simp⟩,by simp⟩) ?_;rintro k ⟨e,h',base,rb⟩ hj he hb;rw[hJ] at hj;obtain⟨j,hj,e17,⟨R,hR⟩,hfx⟩:=hj;have e1:=he 1 rfl;have e2:=he 2 rfl;have e15:=he 15 rfl;have e16:=he 16 rfl;simp[au,bD,aD] at e1 e2 e15 e16 hb;simp only at e17 hR;subst hb hR;have htk:∀Z,(h++(R++Z)).take h.length=h:=fun Z=>by rw[List.take_append_of_le_length (nL _),List.take_length]
 have htk0:(h++R).take h.length=h:=by rw[List.take_append_of_le_length (nL _),List.take_length]
 by_cases hm:j<l.length;rotate_left
 ·have hlt:¬(j:Int)<l.length:=by omega
  have h1:D.sames l l'=true:=by
   rw[hfx,List.drop_of_length_le (by omega),List.drop_of_length_le (by omega)];rfl
  rw[h1];simp -implicitDefEqProofs [x161l11_w,x161_r,e16,e17,hlt,htk0]
 have hm':j<l'.length:=by omega
 have hlt:(j:Int)<l.length:=by omega
 have hw:IntKind.i64.wrap ((j:Int)+1)=(j:Int)+1:=aB (by omega);have hx:=hc' _ (List.getElem_mem hm) _ (List.getElem_mem hm');have hvg:(D.vs l)[j]'(by rw[aa];omega)=(l[j]).v:=ac _;have hvg':(D.vs l')[j]'(by rw[aa];omega)=(l'[j]).v:=ac _;rw[dC hm,dC hm',D.sames] at hfx;generalize l[j]=x at *;generalize l'[j]=y at *;have g1:=yO (h++R) (.cells x.v.cells);have g2:=jk (h++R) (.cells x.v.cells) (.cells y.v.cells);cases hs:x.same y with
 | true =>
  rw[hs] at hx hfx;simp -implicitDefEqProofs [x161l11_w,e1,e2,e15,e16,e17,hsl,hsl',hlt,hm,hm',hvg,hvg',ae,hx,hw];refine⟨k-1,by omega,?_⟩;rw[hJ];exact⟨j+1,by omega,by simp[au],⟨_,rfl⟩,by simpa using hfx⟩
 | false =>
  rw[hs] at hx hfx;simp only[Bool.false_and] at hfx;rw[hfx];simp -implicitDefEqProofs [x161l11_w,x161_r,e1,e2,e15,e16,e17,hsl,hsl',hlt,hm,hm',hvg,hvg',ae,hx,hw]
theorem DV:∀d d':D,d.sz<4611686018427387904→∀n,2*d.sz+2≤n→aV n 121 [d.v,d'.v] (.c (.bool (d.same d'))):=by
 refine D.ind fun k n t l ih d' hs m hm=>?_
 obtain⟨k',n',t',l'⟩:=d';simp only[D.sz] at hs hm;obtain⟨m,rfl⟩:∃m',m=m'+2:=⟨m-2,by omega⟩
 have hlen:=aj l;have h161:∀h,aU h→call X E (m+1) 161 [.sl (D.vs l) .any,.sl (D.vs l') .any,.c (.func (.func 121) #[] #[])] h=some (.c (.bool (D.sames l l')),h):=fun h hh =>
  EX (n:=m) (by omega) (by omega) hh fun x hx y hy=>ih x hx y (by have:=ak hx;omega) m (by have:=ak hx;omega)
 refine azz (by simp[D.vw2,V.lows,D.low]) ?_;have hdiff:D.same (.mk k n t l) (.mk k' n' t' l')=(k==k'&&n==n'&&eqS t t'&&D.sames l l'):=by simp[D.same]
 cases hk:(k==k') with
 | false=>simp -implicitDefEqProofs [x121_w,x121_r,D.vw2,D.v,hk,hdiff]
 | true =>
  cases hn:(n==n') with
  | false=>simp -implicitDefEqProofs [x121_w,x121_r,D.vw2,D.v,hk,hn,hdiff]
  | true =>
   cases ht:eqS t t' with
   | false=>simp -implicitDefEqProofs [x121_w,x121_r,aK,D.vw2,D.v,hk,hn,ht,hdiff]
   | true =>
    have hlo:aU [O.cells [.c (.int .i64 k),.c (.int .i64 n),.c (.string t),.sl (D.vs l) .any],O.cells [.c (.int .i64 k'),.c (.int .i64 n'),.c (.string t'),.sl (D.vs l') .any]]:=by
     have a:=ap 2 (.mk k n t l);have b:=ap 2 (.mk k' n' t' l');simp only[D.v,V.cells] at a b;simp[aU,a,b]
    have h161x:=h161 _ hlo;simp -implicitDefEqProofs [x121_w,x121_r,aK,D.vw2,D.v,hk,hn,ht,h161x,hdiff]
def iv (l:List D):List D:=(l.take 10).map fun d=>(d.cut 1000 1005).1
theorem iS {l:List D}{j:Nat}(h:j≤10):iv (l.take j)=(l.take j).map fun d=>(d.cut 1000 1005).1:=by
 unfold iv;rw[List.take_take,Nat.min_eq_right h]
theorem H7 (l:List D) (i:SI){n:Nat}(hn:2100≤n):∃si,(si=.nil∨si=.any)∧aV (n+1) 19 [.sl (D.vs l) i] (.sl (D.vs (iv l)) si):=by
 obtain⟨n,rfl⟩:∃n',n=n'+1:=⟨n-1,by omega⟩
 have c32:∀(d:D) h,call X E (n+1) 32 [d.v,.c (.int .i64 1000),.c (.int .i64 1005)] h=some ((d.cut 1000 1005).1.v,h):=fun d=>DO d 1000 1005 n (by omega) (by omega) (by omega) (by omega) (by omega)
 refine⟨if l=[] then .nil else .any,by split<;>simp,?_⟩;have hlow:=D.lows 0 l;have hlow2:(V.sl (D.vs (iv l)) (if l=[] then SI.nil else SI.any)).low 0=true:=by
  simp only[V.low,D.lows 0 (iv l),Bool.true_and];split<;>rfl
 refine azz (by simp[aD,V.lows,V.low,SI.low,hlow]) ?_;generalize hm:n+1=m at *;generalize call X E m=cf at *;have hsl:=aa l;simp -implicitDefEqProofs [x19_w];obtain⟨J,hJ⟩:∃J:Nat→SF→Prop,J=fun k s'=>∃j si,j+k=10∧j≤l.length∧s'.e 4=.c (.int .i64 j)∧s'.e 3=.sl (D.vs (iv (l.take j))) si∧GrowF 4 (D.vs (iv (l.take j))) si s'.h∧si≠.full∧(j=0→si=.nil):=⟨_,rfl⟩
 refine aX J 10 (by omega) (by rw[hJ];exact⟨0,.nil,by simp,by simp,by simp[au],by simp[au,D.vs,iv],by simpa[D.vs,iv] using GrowF.nil 4 _,by simp,fun _=>rfl⟩) ?_;rintro k ⟨e,h',base,rb⟩ hj he hb;rw[hJ] at hj;obtain⟨j,si,hj,hjl,e4,e3,hG,hsf,hsn⟩:=hj;have e0:=he 0 rfl;simp[au,bD,aD] at e0 hb;simp only at e4 e3 hG;subst hb;by_cases hmm:j<l.length∧j<10;rotate_left
 ·have hcu:iv (l.take j)=iv l:=by
   unfold iv;by_cases h1:j<l.length
   ·obtain rfl:j=10:=by omega
    rw[List.take_take];rfl
   ·obtain rfl:j=l.length:=by omega
    rw[List.take_length]
  rw[hcu] at e3 hG;have hr:(V.sl (D.vs (iv l)) si).vw=.sl (D.vs (iv l)) (if l=[] then SI.nil else SI.any):=by
   by_cases h0:l=[]
   ·rw[if_pos h0,hsn (by rw[h0] at hjl;simpa using hjl)];rfl
   ·rw[if_neg h0];rcases hG with⟨h1,rfl⟩|rfl|⟨q,rfl,hq⟩
    ·have h2:(iv l).length=0:=by rw[← aa,h1];rfl
     unfold iv at h2;simp at h2;exact absurd h2 h0
    ·exact absurd rfl hsf
    ·rfl
  generalize D.vs (iv l)=U at *;by_cases h1:(j:Int)<l.length
  ·have h2:¬(j:Int)<10:=by omega
   simp -implicitDefEqProofs [x19l7_w,x19_r,e0,e3,e4,hsl,h1,h2];exact⟨hr,hlow2⟩
  ·simp -implicitDefEqProofs [x19l7_w,x19_r,e0,e3,e4,hsl,h1];exact⟨hr,hlow2⟩
 obtain⟨hm1,hm2⟩:=hmm;have h1:(j:Int)<l.length:=by omega
 have h2:(j:Int)<10:=by omega
 have hw:IntKind.i64.wrap ((j:Int)+1)=(j:Int)+1:=aB (by omega);have hvg:(D.vs l)[j]'(by rw[aa];omega)=(l[j]).v:=ac _;have c32x:=c32 l[j];have htk:D.vs (iv (l.take (j+1)))=D.vs (iv (l.take j))++[((l[j]).cut 1000 1005).1.v]:=by
  rw[iS (by omega),iS (by omega),List.take_add_one,gE hm1,List.map_append,ai];rfl
 have hz1:=D.hz (iv (l.take j));have hul:(D.vs (iv (l.take j))).length=j:=by rw[aa,iS (by omega),List.length_map,List.length_take];omega
 have hj1:(j+1)*56≤140737488355328:=by omega
 have hj2:j+1≤140737488355328:=by omega
 generalize l[j]=x at *;generalize (x.cut 1000 1005).1=gx at *;have hcl:=ab gx;generalize D.vs (iv (l.take j))=U at *;simp -implicitDefEqProofs [x19l7_w,e0,e3,e4,h1,h2,hm1,hsl,hvg,ae,c32x,hul,hz1,hj1,hj2];refine bp (zz:=some 4) (hG.app _) (.inl ?_) fun si' h'' hG' hl' hk hlo hnf=>?_
 ·simp
 simp -implicitDefEqProofs [hw,e4];refine⟨k-1,by omega,?_⟩;rw[hJ];exact⟨j+1,si',by omega,by omega,by simp[au,hw],by simp[au,htk],by rw[htk];exact hG',hnf hsf,by omega⟩
theorem Iu (l:List D) (i:SI) (hs:∀d∈l,d.sz<4611686018427387904){n:Nat}(hn:∀d∈l,2*d.sz+63≤n) (hl:l.length<n) (hl2:l.length<4611686018427387904):aV (n+1) 21 [.sl (D.vs l) i] (.c (.bool (l.all fun d=>d.ck==0))):=by
 have c23:∀d∈l,∀h,call X E n 23 [d.v] h=some (.c (.int .i64 d.ck),h):=fun d hd=>BS d (hs d hd) n (hn d hd)
 have hlow:=D.lows 0 l;refine azz (by simp[aD,V.lows,V.low,SI.low,hlow]) ?_;generalize call X E n=cf at *;have hsl:=aa l;simp -implicitDefEqProofs [x21_w];obtain⟨J,hJ⟩:∃J:Nat→SF→Prop,J=fun k s'=>∃j,j+k=l.length∧s'.e 3=.c (.int .i64 j)∧(l.all fun d=>d.ck==0)=((l.drop j).all fun d=>d.ck==0):=⟨_,rfl⟩
 refine aX J l.length hl (by rw[hJ];exact⟨0,by simp,by simp[au],by simp⟩) ?_;rintro k ⟨e,h',base,rb⟩ hj he hb;rw[hJ] at hj;obtain⟨j,hj,e3,hfx⟩:=hj;have e0:=he 0 rfl;simp[au,bD,aD] at e0 hb;simp only at e3;subst hb;by_cases hm:j<l.length;rotate_left
 ·have hlt:¬(j:Int)<l.length:=by omega
  obtain rfl:j=l.length:=by omega
  rw[List.drop_length] at hfx;rw[hfx];simp -implicitDefEqProofs [x21l7_w,x21_r,e0,e3,hsl,hlt]
 have hlt:(j:Int)<l.length:=by omega
 have hw:IntKind.i64.wrap ((j:Int)+1)=(j:Int)+1:=aB (by omega);have hvg:(D.vs l)[j]'(by rw[aa];omega)=(l[j]).v:=ac _;have c23x:=c23 _ (List.getElem_mem hm);rw[dC hm,List.all_cons] at hfx;generalize l[j]=x at *;by_cases h0:x.ck=0
 ·rw[h0] at hfx c23x;simp only[BEq.rfl,Bool.true_and] at hfx;simp -implicitDefEqProofs [x21l7_w,e0,e3,hlt,hm,hsl,hvg,ae,c23x,hw];refine⟨k-1,by omega,?_⟩;rw[hJ];exact⟨j+1,by omega,by simp[au,hw],hfx⟩
 ·have hb1:(x.ck==0)=false:=by simp[h0]
  have hb2:(x.ck != 0)=true:=by simp[h0]
  rw[hb1] at hfx;rw[hfx];simp -implicitDefEqProofs [x21l7_w,x21_r,e0,e3,hlt,hm,hsl,hvg,ae,c23x,hb2]
theorem Ge (l:List D) (i:SI) (hs:∀d∈l,d.sz≤1099511627776){n:Nat}(hn:∀d∈l,4*d.sz+64≤n) (hl:l.length<n) (hl2:l.length<4611686018427387904):aV (n+4) 118 [.sl (D.vs l) i] (.c (.bool (l.all fun d=>d.ck==0))):=by
 have c160:∀d∈l,∀h,aU h→cW (call X E (n+1)) (.c (.func (.func 160) #[] #[])) [d.v] h=some (.c (.bool (d.ck != 0)),h):=fun d hd h hh=>by
  have c46:∀h,call X E n 46 [d.v] h=some (.c (.int .i64 d.ck),h):=Cc d (hs d hd) n (hn d hd);have c160:call X E (n+1) 160 [d.v] h=some (.c (.bool (d.ck != 0)),h):=by
   refine d6 rfl rfl rfl (by kernel_rfl) ⟨rfl,rfl⟩ (by simp[V.low]) hh ?_;generalize call X E n=cf at *;simp -implicitDefEqProofs [x160_w,x160_r,ae,c46]
  rw[uq,if_pos (by decide),c160,jq];exact if_pos (nL _)
 have c48:∀h,aU h→call X E (n+3) 48 [.sl (D.vs l) .any,.c (.func (.func 160) #[] #[])] h=some (.c (.bool (l.any fun d=>d.ck != 0)),h):=fun h hh=>GT hl2 (by omega) rfl hh fun d hd=>c160 d hd h hh
 have hlow:=D.lows 0 l;refine azz (by simp[aD,V.lows,V.low,SI.low,hlow]) ?_;have c48x:=c48 [] rfl;have ha:(!(l.any fun d=>d.ck != 0))=(l.all fun d=>d.ck==0):=by
  rw[List.not_any_eq_all_not];congr 1;funext d;cases h:(d.ck==0)<;>simp[bne,h]
 generalize call X E (n+3)=cf at *;generalize D.vs l=U at *;simp -implicitDefEqProofs [x118_w,x118_r,aD,c48x,ha]
theorem EY (t:D) (h0:t.tck=0) (a:List D) (i:SI) (hs:∀d∈a,d.sz≤1099511627776){n:Nat}(hn:∀d∈a,4*d.sz+64≤n) (hl:a.length<n) (hl2:a.length<4611686018427387904) (hn2:12*t.sz+410≤n) :
  aV (n+5) 57 [t.v,.sl (D.vs a) i] (.c (.bool (decide (mxA (mxF 0 (t.kid 0).kids) (exs t)≤a.length)&&a.all fun d=>d.ck==0))):=by
 have c118:∀i h,call X E (n+4) 118 [.sl (D.vs a) i] h=some (.c (.bool (a.all fun d=>d.ck==0)),h):=fun i=>Ge a i hs hn hl hl2
 have c43:∀h,call X E (n+4) 43 [t.v] h=some (.c (.int .i64 (mxA (mxF 0 (t.kid 0).kids) (exs t))),h):=HX t h0 (n:=n+3) (by omega);have hlow:=D.lows 0 a;refine azz (by simp[aD,V.lows,V.low,SI.low,hlow]) ?_;generalize mxA (mxF 0 (t.kid 0).kids) (exs t)=M at *;generalize (a.all fun d=>d.ck==0)=B at *;have hsl:=aa a;generalize call X E (n+4)=cf at *;by_cases hM:M≤a.length
 ·have h1:((a.length:Int)≥M):=hM;simp -implicitDefEqProofs [x57_w,x57_r,aD,hsl,ae,c118,c43,hM,h1]
 ·have h1:¬((a.length:Int)≥M):=hM;simp -implicitDefEqProofs [x57_w,x57_r,aD,hsl,ae,c118,c43,hM,h1]
def sE (T:List D) (i:Nat):Bool:=T.any fun d=>(d.kid 0).same (.nb i)
def spN (T:List D) (m:Nat):Prop:=(∀i,i<m→sE T i=true)∧sE T m=false
theorem rm {T:List D}{a b:Nat}(ha:spN T a) (hb:spN T b):a=b:=by
 rcases Nat.lt_trichotomy a b with h|h|h
 ·have:=hb.1 a h;rw[ha.2] at this;cases this
 ·exact h
 ·have:=ha.1 b h;rw[hb.2] at this;cases this
theorem pig:∀(k:Nat) (l:List Int),(∀i:Nat,i<k→(i:Int)∈l)→k≤l.length
 | 0,l,_=>Nat.zero_le _
 | k+1,l,h=>by
  have h1:=pig k (l.erase (k:Int)) fun i hi=>(List.mem_erase_of_ne (by omega)).2 (h i (by omega))
  have h2:=List.length_erase_of_mem (h k (by omega));have h3:=List.length_pos_of_mem (h k (by omega));omega
theorem Bo {d:D}{i:Nat}(h:d.same (.nb i)=true):d.nu=i:=by
 obtain⟨k,n,t,l⟩:=d;simp only[D.nb,D.same,bT,beq_iff_eq] at h;exact h.1.1.2
theorem lq {T:List D}{j:Nat}(h:∀i,i<j→sE T i=true):j≤T.length:=by
 have:=pig j (T.map fun d=>(d.kid 0).nu) fun i hi=>by
  obtain⟨d,hd,hs⟩:=List.any_eq_true.1 (h i hi);exact List.mem_map.2 ⟨d,hd,Bo hs⟩
 simpa using this
theorem F9 (p:Nat→Bool):∀m,p m=false→∃k,(∀i,i<k→p i=true)∧p k=false:=by
 intro m
 induction m using Nat.strongRecOn with
 | _ m ih =>
  intro hm;by_cases h:∀i,i<m→p i=true
  ·exact⟨m,h,hm⟩
  ·have h2:∃i,i<m∧p i=false:=by
    refine Classical.byContradiction fun hc=>h fun i hi=>?_
    cases hp:p i with
    | true=>rfl
    | false=>exact absurd ⟨i,hi,hp⟩ hc
   obtain⟨i,hi,hp⟩:=h2;exact ih i hi hp
theorem Dh (T:List D):∃m,spN T m:=by
 have h:∃m,sE T m=false:=by
  refine Classical.byContradiction fun hc=>?_
  have:=lq (T:=T) (j:=T.length+1) fun i _=>by
   cases hp:sE T i with
   | true=>rfl
   | false=>exact absurd ⟨i,hp⟩ hc
  omega
 obtain⟨m,hm⟩:=h;exact F9 _ m hm
theorem FK (x d:D) (hx:0<x.kids.length) (hs:(x.kid 0).sz<4611686018427387904){n:Nat}(hn:2*(x.kid 0).sz+2≤n){h:List O}{p:Nat}(hp:h[p]?=some (.cells d.v.cells)) (hh:aU h):call X E (n+1) 120 [x.v,.ref p 0] h=some (.c (.bool ((x.kid 0).same d)),h):=by
 have c121:∀h,call X E n 121 [(x.kid 0).v,d.v] h=some (.c (.bool ((x.kid 0).same d)),h):=DV _ _ hs n hn;refine d6 rfl rfl rfl (by kernel_rfl) ⟨rfl,rfl⟩ (by simp[V.low]) hh ?_;generalize call X E n=cf at *;have v0:((D.vs x.kids)[0]'(by rw[aa];exact hx))=(x.kid 0).v:=ah _;have hxi:(0:Int)<x.kids.length:=by omega
 have hsl:=aa x.kids;have hpa:=fun R=>bU hp R
 simp -implicitDefEqProofs [x120_w,x120_r,ae,hsl,hx,hxi,v0,↓hpa,c121]
theorem Hp (t:D){m:Nat}(hsp:spN (t.kids.drop 1) m) (h4:∀x∈t.kids.drop 1,x.kids.length=4) (hb:t.sz<100000000) (h1:1≤t.kids.length){n:Nat}(hn:2*t.sz+10≤n):aV (n+4) 60 [t.v] (D.nb m).v:=by
 have hkl:=aQ t;obtain⟨T,hT⟩:∃T,T=t.kids.drop 1:=⟨_,rfl⟩
 have hTl:T.length=t.kids.length-1:=by rw[hT];simp
 have c73:∀k h,call X E (n+3) 73 [.c (.int .i64 k)] h=some ((D.nb k).v,h):=fun k=>Hw k
 have c48:∀(j:Nat) h p,h[p]?=some (.cells (D.nb j).v.cells)→aU h→call X E (n+3) 48 [.sl (D.vs T) .any,.clo 120 [.ref p 0]] h=some (.c (.bool (sE T j)),h):=fun j h p hp hh=>GT (p:=fun d=>(d.kid 0).same (.nb j)) (by omega) (by omega) rfl hh fun x hx=>by
  have hx':=hx;rw[hT] at hx';have k1:=aC (aA (d:=x) (j:=0) (by have:=h4 x hx';omega));have k2:=aC (bZ hx');have:=FK x (.nb j) (by have:=h4 x hx';omega) (by omega) (n:=n) (by omega) hp hh;rw[fK,if_pos (by decide)];show Cu (call X E (n+1) 120 [x.v,.ref p 0] h) h.length=_;rw[this,jq];exact if_pos (nL _)
 rw[← hT] at hsp;have hlab:=fun j=>lq (T:=T) (j:=j)
 refine azz (by simp[V.lows]) ?_;generalize hm3:n+3=M at *;generalize call X E M=cf at *;have hsl:=aa t.kids;have h1i:(1:Int)≤t.kids.length:=by omega
 have hvl:=pZ (.nb m);have hlo0:aU [O.cells t.v.cells,O.cells [.c (.int .i64 0),.c (.int .i64 0),.c (.string ⟨#[]⟩),.sl [] .nil]]:=by
  have h1:=ap 2 t;have h2:O.low 2 (O.cells [.c (.int .i64 0),.c (.int .i64 0),.c (.string ⟨#[]⟩),.sl [] .nil])=true:=rfl;simp only[aU,List.all_cons,List.all_nil,lC,List.length_nil,h1,h2,Bool.and_self]
 have hT2:t.kids.tail=T:=by rw[hT,List.drop_one]
 have hz:=D.hz;simp -implicitDefEqProofs [x60_w];obtain⟨J,hJ⟩:∃J:Nat→SF→Prop,J=fun k s'=>∃j:Nat,j+k=T.length∧s'.e 3=.c (.int .i64 j)∧s'.h[0]?=some (.cells t.v.cells)∧s'.h[1]?=some (.cells [.c (.int .i64 0),.c (.int .i64 0),.c (.string ⟨#[]⟩),.sl [] .nil])∧aU s'.h∧∀i,i<j→sE T i=true:=⟨_,rfl⟩
 refine aX J T.length (by omega) (by rw[hJ];exact⟨0,by simp,by simp[au],rfl,rfl,hlo0,fun i hi=>absurd hi (by omega)⟩) ?_;rintro k ⟨e,h',base,rb⟩ hj he hb2;rw[hJ] at hj;obtain⟨j,hj,e3,f0,f1,hlo,hpre⟩:=hj;have e1:=he 1 rfl;have e2:=he 2 rfl;simp[au] at e1 e2 hb2;simp only at e3 f0 f1 hlo;subst hb2;have hlo2:=nP hlo (.nb j);have hget:=qf h' (.cells (D.nb j).v.cells);have c48x:=c48 j _ _ hget hlo2;have f0':=fun R=>bU f0 R
 have f1':=fun R=>bU f1 R
 have hw:IntKind.i64.wrap ((j:Int)+1)=(j:Int)+1:=aB (by omega);have ks:=fun o=>bP (f1' [O.cells (D.nb j).v.cells]) o
 have hvw:=D.vw (.nb j);cases hc:sE T j with
 | false =>
  rw[hc] at c48x;have hjm:j=m:=rm ⟨hpre,hc⟩ hsp;subst hjm;simp -implicitDefEqProofs [x60l7_w,x60_r,e1,e2,e3,c73,ae,↓f0',↓f1',↓hget,hT2,hz,hsl,h1i,h1,c48x,hvl,↓ks,hvw]
 | true =>
  rw[hc] at c48x;simp -implicitDefEqProofs [x60l7_w,e1,e2,e3,c73,ae,↓f0',↓f1',↓hget,hT2,hz,hsl,h1i,h1,c48x,hw];have hpre2:∀i,i<j+1→sE T i=true:=fun i hi=>by
   rcases Nat.lt_or_ge i j with h|h
   ·exact hpre i h
   ·obtain rfl:i=j:=by omega
    exact hc
  have hle:=hlab _ hpre2;refine⟨k-1,by omega,?_⟩;rw[hJ];exact⟨j+1,by omega,by simp[au],f0' _,f1' _,hlo2,hpre2⟩
theorem z7 {t:ByteArray}(h:yd t=true):t=⟨#[]⟩:=by
 have h1:eqS t ⟨#[]⟩=true:=h;rw[dl,dT] at h1;exact h1
theorem DZ {d:D}(hk:d.kd=2) (h:d.fm=true):d=.sy d.tx:=by
 obtain⟨k,n,t,l⟩:=d;simp only[D.kd] at hk;subst hk;simp[D.fm] at h;obtain⟨⟨rfl,_⟩,rfl⟩:=h;rfl
theorem Dm {d:D}(hk:d.kd=3) (h:d.fm=true):d=.lst d.kids:=by
 obtain⟨k,n,t,l⟩:=d;simp only[D.kd] at hk;subst hk;simp[D.fm] at h;obtain⟨⟨_,rfl⟩,ht⟩:=h;rw[D.lst,D.kids,z7 ht]
theorem ph {y x:D}(hok:okX y) (hx:x∈inn y):x.sz<y.sz:=by
 obtain⟨p,hp,rfl⟩:=List.mem_map.1 hx;exact mX hok hp
theorem y7 {y x:D}(hok:okX y) (hf:y.fm=true) (hx:x∈inn y):x.fm=true:=by
 obtain⟨p,hp,rfl⟩:=List.mem_map.1 hx;rcases (qC hok p hp).1 with h|⟨j,hj,h⟩
 ·exact af hf _ h
 ·exact af (af hf _ (aA hj)) _ h
theorem pB {f:Nat}{y x:D}(h:okE (f+1) y) (hx:x∈inn y):okE f x:=by
 obtain⟨p,hp,rfl⟩:=List.mem_map.1 hx;exact h.2 p hp
theorem Gw {y:D}(hw:wn y.wd=9) (hok:okX y):y.kids.length=2∧inn y=[y.kid 1]:=by
 unfold okX fmW at hok;rw[hw] at hok;simp at hok;refine⟨hok,?_⟩;obtain⟨k,i,t,l⟩:=y;simp only[D.kids] at hok
 match l,hok with
 | [a,b],_=>simp[inn,prP,hw,D.kids,mk3,D.kid]
theorem De {cf:aw}{n:Nat}{K:List Fr}{Q:Ex→SF→Prop}{s:SF}{a l:List D}{i1 il:SI}{g:D→D}
  (c62:∀x∈l,∀h,cf 62 [x.v,.sl (D.vs a) i1] h=some ((g x).v,h)) (hn:l.length<n) (hl2:l.length<1000000000)
  (e1:s.e 1=.sl (D.vs a) i1) (e47:s.e 47=.sl (D.vs l) il) (e48:s.e 48=.c (.int .i64 l.length)) (e49:s.e 49=.c (.int .i64 0)) (e6:s.e 6=.sl [] .nil)
  (hb0:s.base=0){y:V}{z:List V}(h0:s.h[0]?=some (.cells y.cells)) (h1:s.h[1]?=some (.cells z))
  (hq:∀e h rb si,(∀t,(dU x62l19).contains t=false→e t=s.e t)→e 6=.sl (D.vs (l.map g)) si→GrowF 4 (D.vs (l.map g)) si h→h[0]?=some (.cells y.cells)→h[1]?=some (.cells z)→dI cf n K Q (.exit 1) ⟨e,h,0,rb⟩):lpk cf n x62l19 K Q s:=by
 obtain⟨J,hJ⟩:∃J:Nat→SF→Prop,J=fun k s'=>∃j si,j+k=l.length∧s'.e 49=.c (.int .i64 j)∧s'.e 6=.sl (D.vs ((l.take j).map g)) si∧GrowF 4 (D.vs ((l.take j).map g)) si s'.h∧s'.h[0]?=some (.cells y.cells)∧s'.h[1]?=some (.cells z):=⟨_,rfl⟩
 refine aX J l.length hn (by rw[hJ];exact⟨0,.nil,by simp,by simpa using e49,by simpa[D.vs] using e6,by simpa[D.vs] using GrowF.nil 4 _,h0,h1⟩) ?_;rintro k ⟨e,h',base,rb⟩ hj he hb;rw[hJ] at hj;obtain⟨j,si,hj,f49,f6,hG,f0,f1⟩:=hj;have f1':e 1=_:=(he 1 rfl).trans e1;have f47:e 47=_:=(he 47 rfl).trans e47;have f48:e 48=_:=(he 48 rfl).trans e48;simp only at f49 f6 hG f0 f1 hb;rw[hb0] at hb;subst hb;have hsl:=aa l;by_cases hm:j<l.length;rotate_left
 ·have hlt:¬(j:Int)<l.length:=by omega
  obtain rfl:j=l.length:=by omega
  rw[List.take_of_length_le (nL _)] at f6 hG;have hq':=fun e1 rb1 a b=>hq e1 h' rb1 si a b hG f0 f1
  simp -implicitDefEqProofs [x62l19_w,f48,f49,hlt];refine hq' _ _ (fun t ht=>?_) ?_
  ·have hne:∀k,(dU x62l19).contains k=true→t≠k:=fun k hk e=>by rw[e,hk] at ht;cases ht
   simp only[au,if_neg (hne 50 rfl)];exact he t ht
  ·simp[au,f6]
 have hlt:(j:Int)<l.length:=by omega
 have hw:IntKind.i64.wrap ((j:Int)+1)=(j:Int)+1:=aB (by omega);have hvg:(D.vs l)[j]'(by rw[aa];omega)=(l[j]).v:=ac _;have c62x:=c62 _ (List.getElem_mem hm);have htk:D.vs ((l.take (j+1)).map g)=D.vs ((l.take j).map g)++[(g l[j]).v]:=by
  rw[List.take_add_one,gE hm,List.map_append,ai];rfl
 have hz1:=D.hz ((l.take j).map g);have hul:(D.vs ((l.take j).map g)).length=j:=by rw[aa,List.length_map,List.length_take];omega
 have hj1:(j+1)*56≤140737488355328:=by omega
 have hj2:j+1≤140737488355328:=by omega
 generalize l[j]=x at *;generalize g x=gx at *;have hcl:=ab gx;generalize D.vs ((l.take j).map g)=U at *;have f0':=fun R=>bU f0 R
 simp -implicitDefEqProofs [x62l19_w,f1',f47,f48,f49,f6,hlt,hm,hsl,hvg,ae,↓f0',c62x,hul,hz1,hj1,hj2];refine bp (zz:=some 4) (hG.app _) (.inl (jp _ _ _ _)) fun si' h'' hG' hl' hk hlo hnf=>?_
 have k0:=hk 0 _ (f0' _);have k1:=hk 1 _ (bU f1 _);simp -implicitDefEqProofs [f49,hw];refine⟨k-1,by omega,?_⟩;rw[hJ];exact⟨j+1,si',by omega,by simp[au],by simp[au];rw[← List.map_take];exact htk.symm,by rw[htk];exact hG',k0,k1⟩
theorem ns {w:Nat}{d:D}(h:fmW w d=true):w=4∨w=5∨w=8∨w=6∨w=9∨w=1∨w=10∨w=11∨w=2∨w=12∨w=13∨w=7∨w=14∨w=3∨w=15:=by
 unfold fmW at h;split at h
 ·omega
 split at h
 ·omega
 split at h
 ·omega
 split at h
 ·omega
 split at h
 ·omega
 split at h
 ·omega
 split at h
 ·omega
 split at h
 ·omega
 ·cases h
theorem Dg {y:D}(hok:okX y) (hf:y.fm=true) (hw:wn y.wd=7∨wn y.wd=14):y.kid 1=.sy (y.kid 1).tx:=by
 have hl:=jB hok;unfold okX fmW at hok;rw[if_neg (by omega),if_neg (by omega),if_neg (by omega),if_neg (by omega),if_neg (by omega),if_pos hw] at hok;simp[D.prm] at hok;exact DZ hok.2.1 (af hf _ (aA (by omega)))
theorem Hm (a:List D) (ha:a.length<1000000000):∀(f:Nat) (y:D),y.sz≤f→okE f y→agE a f y→y.fm=true→y.sz<100000000→∀m,3*f+10≤m→∀ia,aV m 62 [y.v,.sl (D.vs a) ia] (fl a f y).v
 | 0,y,h,_,_,_,_,_,_,_=>by have:=ao y;omega
 | f+1,y,hf,hok,hag,hfm,hb,m,hm,ia=>by
  obtain⟨m,rfl⟩:∃m',m=m'+4:=⟨m-4,by omega⟩
  have hX:okX y:=hok.1;obtain⟨hwd,_⟩:=mw hX;have hl2:=jB hX;obtain⟨i,c101⟩:=CE hX hb (n:=m) (by omega);have c101:∀h,call X E (m+3) 101 [y.v] h=some (.sl (D.vs (inn y)) i,h):=c101;have c58:∀t l i h,l.length<100000000000→call X E (m+3) 58 [.c (.string t),.sl (D.vs l) i] h=some ((D.lst (.sy t::l)).v,h):=fun t l i h hl=>G4 t l i hl (n:=m+1) h
  have c58q:∀d h,call X E (m+3) 58 [.c (.string ⟨#[113,117,111,116,101]⟩),.sl [d.v] .full] h=some ((qd d).v,h):=fun d h=>c58 _ [d] .full h (by simp)
  have c62:∀x∈inn y,∀h,call X E (m+3) 62 [x.v,.sl (D.vs a) .any] h=some ((fl a f x).v,h):=fun x hx=>by
   have:=ph hX hx;exact Hm a ha f x (by omega) (pB hok hx) (hag.2 x hx) (y7 hX hfm hx) (by omega) (m+3) (by omega) .any
  have hlowa:=D.lows 0 a;have hl0i:(0:Int)<y.kids.length:=by omega
  have hl0:0<y.kids.length:=by omega
  have hl1i:(1:Int)<y.kids.length:=by omega
  have hl1:1<y.kids.length:=by omega
  have v0:((D.vs y.kids)[0]'(by rw[aa];exact hl0))=(y.kid 0).v:=ah _;have v1:((D.vs y.kids)[1]'(by rw[aa];exact hl1))=(y.kid 1).v:=ah _;have hsl:=aa y.kids;have hvl:=fun d=>pZ d
  have hvw:=D.vw;have hlen:(inn y).length<m+3∧(inn y).length<1000000000:=by
   have h1:=ng hX;have h2:(inn y).length=(prP y).length:=by simp[inn]
   constructor<;>omega
  refine azz (by simp[aD,V.lows,V.low,SI.low,hlowa]) ?_;have hw:=ns hX;have c9:wn y.wd=9→∀h,call X E (m+3) 62 [(y.kid 1).v,.sl (D.vs a) .any] h=some ((fl a f (y.kid 1)).v,h):=fun h9=>c62 _ (by rw[(Gw h9 hX).2];simp)
  have hprm:=Dg hX hfm;generalize hm3:m+3=M at *;generalize call X E M=cf at *;by_cases h4:wn y.wd=4
  ·have hT:wn (y.kid 0).tx=4:=by rw[← hwd];exact h4
   have hR:fl a (f+1) y=qd (y.kid 1):=by simp[fl,h4]
   rw[hR];simp -implicitDefEqProofs [x62_w,x62_r,aD,ae,hsl,hl0,hl0i,hl1,hl1i,v0,v1,hT,c58q,hvl,hvw]
  by_cases h5:wn y.wd=5∨wn y.wd=8
  ·have hR:fl a (f+1) y=y.kid 1:=by simp[fl,h4,h5]
   rw[hR];rcases h5 with h5|h5
   ·have hT:wn (y.kid 0).tx=5:=by rw[← hwd];exact h5
    simp -implicitDefEqProofs [x62_w,x62_r,aD,ae,hsl,hl0,hl0i,hl1,hl1i,v0,v1,hT,c58q,hvl,hvw]
   ·have hT:wn (y.kid 0).tx=8:=by rw[← hwd];exact h5
    simp -implicitDefEqProofs [x62_w,x62_r,aD,ae,hsl,hl0,hl0i,hl1,hl1i,v0,v1,hT,c58q,hvl,hvw]
  by_cases h6:wn y.wd=6
  ·have hT:wn (y.kid 0).tx=6:=by rw[← hwd];exact h6
   have hR:fl a (f+1) y=qd (a.getD (y.kid 1).nu.toNat .z0):=by simp[fl,h6]
   rw[hR];obtain⟨_,hn0,_⟩:=k9 hX h6;have hn1:=hag.1 h6;have hal:=aa a;have hnl:(y.kid 1).nu.toNat<a.length:=by omega
   have hva:(D.vs a)[(y.kid 1).nu.toNat]'(by rw[hal];exact hnl)=(a.getD (y.kid 1).nu.toNat .z0).v:=by
    rw[ac,List.getD_eq_getElem?_getD,gE hnl];rfl
   generalize a.getD (y.kid 1).nu.toNat .z0=q at *;simp -implicitDefEqProofs [x62_w,x62_r,aD,ae,hsl,hl0,hl0i,hl1,hl1i,v0,v1,hT,c58q,hvl,hvw,hal,hn0,hn1,hnl,hva]
  by_cases h9:wn y.wd=9
  ·have hT:wn (y.kid 0).tx=9:=by rw[← hwd];exact h9
   have hR:fl a (f+1) y=fl a f (y.kid 1):=by simp[fl,h9]
   rw[hR];have c9x:=c9 h9;simp -implicitDefEqProofs [x62_w,x62_r,aD,ae,hsl,hl0,hl0i,hl1,hl1i,v0,v1,hT,c9x,hvl,hvw]
  have hR:fl a (f+1) y=.lst (hdW (wn y.wd) y++(inn y).map (fl a f)):=by
   rw[fl,if_neg h4,if_neg h5,if_neg h6,if_neg h9]
  rw[hR];have hI:(inn y).map (fl a f)=(inn y).map (fl a f):=rfl;generalize hG:(inn y).map (fl a f)=G at *;have hGl:G.length<1000000000:=by rw[← hG,List.length_map];exact hlen.2
  have hwI:wn y.wd=1∨wn y.wd=10∨wn y.wd=11∨wn y.wd=2∨wn y.wd=12∨wn y.wd=13∨wn y.wd=7∨wn y.wd=14∨wn y.wd=3∨wn y.wd=15:=by omega
  clear hw h4 h5 h6 h9 c9 hR;have hsli:=aa (inn y);have hGs:=aa G;have hGz:=D.hz G;have c58G:=fun t=>c58 t G
  have c58H:=fun t=>c58 t (y.kid 1::G)
  have hvH:D.vs (y.kid 1::G)=(y.kid 1).v::D.vs G:=rfl;rw[hvH] at c58H;rcases hwI with hw|hw|hw|hw|hw|hw|hw|hw|hw|hw
  all_goals
   have hT:=hw;rw[hwd] at hT;rw[hw];simp -implicitDefEqProofs [x62_w,aD,ae,hsl,hl0,hl0i,v0,hT,c101,hsli];refine De (a:=a) (l:=inn y) (i1:=.any) (il:=i) (g:=fl a f) (y:=y.v) c62 hlen.1 hlen.2 (by simp[au,bD,aD]) (by simp[au]) (by simp[au]) (by simp[au]) (by simp[au]) rfl rfl rfl ?_;intro e h rb si he e6 hGr f0 f1;rw[hG] at e6 hGr;have e4:=he 4 rfl;have e5:=he 5 rfl;have e2:=he 2 rfl;simp[au] at e4 e5 e2;have f0':=fun R=>bU f0 R
   have f1':=fun R=>bU f1 R
   have ks:=fun o=>bP f1 o
  ·have hR:D.lst (hdW 1 y++G)=.lst (.sy wdI::G):=rfl;rw[hR];have c:=fun h=>c58G wdI si h (by omega)
   unfold wdI at c ⊢;simp -implicitDefEqProofs [x62_r,e4,e5,e6,hsl,hl0,hl0i,v0,hT,c,ae,↓f0,↓f1,↓ks,hvl,hvw]
  ·have hR:D.lst (hdW 10 y++G)=.lst (.sy wdI::G):=rfl;rw[hR];have c:=fun h=>c58G wdI si h (by omega)
   unfold wdI at c ⊢;simp -implicitDefEqProofs [x62_r,e4,e5,e6,hsl,hl0,hl0i,v0,hT,c,ae,↓f0,↓f1,↓ks,hvl,hvw]
  ·have hR:D.lst (hdW 11 y++G)=.lst (.sy wdI::G):=rfl;rw[hR];have c:=fun h=>c58G wdI si h (by omega)
   unfold wdI at c ⊢;simp -implicitDefEqProofs [x62_r,e4,e5,e6,hsl,hl0,hl0i,v0,hT,c,ae,↓f0,↓f1,↓ks,hvl,hvw]
  ·have hR:D.lst (hdW 2 y++G)=.lst (.sy wdL::(y.kid 1::G)):=rfl;rw[hR];have c:=fun i h=>c58H wdL i h (by simp;omega)
   have hj1:(1+G.length)*56≤140737488355328:=by omega
   have hj2:1+G.length≤140737488355328:=by omega
   unfold wdL at c ⊢;simp -implicitDefEqProofs [x62_r,e4,e5,e6,hsl,hl0,hl0i,v0,hl1,hl1i,v1,hT,ae,↓f0,↓f0',hGs,hGz,hj1,hj2];refine bp (zz:=some 4) (.full _ _ _) (.inl (jk _ _ _ _)) fun si' h'' hG' hl' hk hlo hnf=>?_
   have k1:=hk 1 _ (f1' _);have ks':=fun o=>bP k1 o
   have c':=c si' h'';simp -implicitDefEqProofs [x62_r,e4,c',ae,↓k1,↓ks',hvl,hvw]
  ·have hR:D.lst (hdW 12 y++G)=.lst (.sy wdL::(y.kid 1::G)):=rfl;rw[hR];have c:=fun i h=>c58H wdL i h (by simp;omega)
   have hj1:(1+G.length)*56≤140737488355328:=by omega
   have hj2:1+G.length≤140737488355328:=by omega
   unfold wdL at c ⊢;simp -implicitDefEqProofs [x62_r,e4,e5,e6,hsl,hl0,hl0i,v0,hl1,hl1i,v1,hT,ae,↓f0,↓f0',hGs,hGz,hj1,hj2];refine bp (zz:=some 4) (.full _ _ _) (.inl (jk _ _ _ _)) fun si' h'' hG' hl' hk hlo hnf=>?_
   have k1:=hk 1 _ (f1' _);have ks':=fun o=>bP k1 o
   have c':=c si' h'';simp -implicitDefEqProofs [x62_r,e4,c',ae,↓k1,↓ks',hvl,hvw]
  ·have hR:D.lst (hdW 13 y++G)=.lst (.sy wdL::(y.kid 1::G)):=rfl;rw[hR];have c:=fun i h=>c58H wdL i h (by simp;omega)
   have hj1:(1+G.length)*56≤140737488355328:=by omega
   have hj2:1+G.length≤140737488355328:=by omega
   unfold wdL at c ⊢;simp -implicitDefEqProofs [x62_r,e4,e5,e6,hsl,hl0,hl0i,v0,hl1,hl1i,v1,hT,ae,↓f0,↓f0',hGs,hGz,hj1,hj2];refine bp (zz:=some 4) (.full _ _ _) (.inl (jk _ _ _ _)) fun si' h'' hG' hl' hk hlo hnf=>?_
   have k1:=hk 1 _ (f1' _);have ks':=fun o=>bP k1 o
   have c':=c si' h'';simp -implicitDefEqProofs [x62_r,e4,c',ae,↓k1,↓ks',hvl,hvw]
  ·have hR:D.lst (hdW 7 y++G)=.lst (.sy (y.kid 1).tx::G):=by
    rw[← hprm (by omega)];rfl
   rw[hR];have c:=fun h=>c58G (y.kid 1).tx si h (by omega)
   simp -implicitDefEqProofs [x62_r,e4,e5,e6,hsl,hl0,hl0i,v0,hl1,hl1i,v1,hT,c,ae,↓f0,↓f1,↓ks,hvl,hvw]
  ·have hR:D.lst (hdW 14 y++G)=.lst (.sy (y.kid 1).tx::G):=by
    rw[← hprm (by omega)];rfl
   rw[hR];have c:=fun h=>c58G (y.kid 1).tx si h (by omega)
   simp -implicitDefEqProofs [x62_r,e4,e5,e6,hsl,hl0,hl0i,v0,hl1,hl1i,v1,hT,c,ae,↓f0,↓f1,↓ks,hvl,hvw]
  ·have hR:D.lst (hdW 3 y++G)=.lst (.sy wdC::(y.kid 1::G)):=rfl;rw[hR];have c:=fun i h=>c58H wdC i h (by simp;omega)
   have hj1:(1+G.length)*56≤140737488355328:=by omega
   have hj2:1+G.length≤140737488355328:=by omega
   unfold wdC at c ⊢;simp -implicitDefEqProofs [x62_r,e4,e5,e6,hsl,hl0,hl0i,v0,hl1,hl1i,v1,hT,ae,↓f0,↓f0',hGs,hGz,hj1,hj2];refine bp (zz:=some 4) (.full _ _ _) (.inl (jk _ _ _ _)) fun si' h'' hG' hl' hk hlo hnf=>?_
   have k1:=hk 1 _ (f1' _);have ks':=fun o=>bP k1 o
   have c':=c si' h'';simp -implicitDefEqProofs [x62_r,e4,c',ae,↓k1,↓ks',hvl,hvw]
  ·have hR:D.lst (hdW 15 y++G)=.lst (.sy wdC::(y.kid 1::G)):=rfl;rw[hR];have c:=fun i h=>c58H wdC i h (by simp;omega)
   have hj1:(1+G.length)*56≤140737488355328:=by omega
   have hj2:1+G.length≤140737488355328:=by omega
   unfold wdC at c ⊢;simp -implicitDefEqProofs [x62_r,e4,e5,e6,hsl,hl0,hl0i,v0,hl1,hl1i,v1,hT,ae,↓f0,↓f0',hGs,hGz,hj1,hj2];refine bp (zz:=some 4) (.full _ _ _) (.inl (jk _ _ _ _)) fun si' h'' hG' hl' hk hlo hnf=>?_
   have k1:=hk 1 _ (f1' _);have ks':=fun o=>bP k1 o
   have c':=c si' h'';simp -implicitDefEqProofs [x62_r,e4,c',ae,↓k1,↓ks',hvl,hvw]
theorem Cs (l:List D) (i:SI) (hb:l.length<100000000000){n:Nat}:aV (n+1) 67 [.sl (D.vs l) i] (D.lst l).v:=by
 have hlow:=D.lows 0 l;have hz:=D.hz l;have hsl:=aa l;have hvl:=pZ (D.lst l);refine azz (by simp[aD,V.lows,V.low,SI.low,hlow]) ?_;have hj1:l.length*56≤140737488355328:=by omega
 have hj2:l.length≤140737488355328:=by omega
 generalize call X E n=cf at *;have hR:(D.lst l).v=.agg [.c (.int .i64 3),.c (.int .i64 0),.c (.string ⟨#[]⟩),.sl (D.vs l) .any]:=rfl;rw[hR] at hvl ⊢;simp -implicitDefEqProofs [x67_w,aD,hsl,hz,hj1,hj2];refine bp (zz:=some 4) (.full _ _ _) (.inl rfl) fun si' h' hG hl' hk hlo hnf=>?_
 have k0:=hk 0 _ rfl;have ks:=fun o=>bP k0 o
 rcases hG with⟨h1,rfl⟩|rfl|⟨q,rfl,_⟩<;>simp -implicitDefEqProofs [x67_r,↓k0,↓ks,hvl]
theorem Ha (d:D){n:Nat}:aV (n+3) 66 [d.v] (qd d).v:=by
 have c65:∀t h,call X E (n+2) 65 [.c (.string t)] h=some ((D.sy t).v,h):=fun t=>GI t
 have c67:∀(x y:D) h,call X E (n+2) 67 [.sl [x.v,y.v] .full] h=some ((D.lst [x,y]).v,h):=fun x y=>Cs [x,y] .full (by simp)
 refine azz (by simp[V.lows]) ?_;have hvl:=pZ (qd d);have hvw:=D.vw (qd d);have hR:qd d=.lst [.sy wdQ,d]:=rfl;generalize call X E (n+2)=cf at *;have c65q:=c65 wdQ;have c67q:=c67 (.sy wdQ) d;rw[← hR] at c67q;generalize qd d=q at *;generalize hsq:D.sy wdQ=sq at *;unfold wdQ at c65q;simp -implicitDefEqProofs [x66_w,x66_r,ae,c65q,c67q,hvl,hvw]
theorem eY {cf:aw}{n:Nat}{K:List Fr}{Q:Ex→SF→Prop}{s:SF}{a H:List D}{ps:List (D × Bool × Bool)}{i1 ip:SI}{g:D→D}
  (c68:∀p∈ps,∀h,cf 68 [p.1.v,.sl (D.vs a) i1] h=some ((g p.1).v,h)) (hn:ps.length<n) (hl2:ps.length<1000000000) (hH:H.length<10)
  (e1:s.e 1=.sl (D.vs a) i1) (e6:s.e 6=.sl (ptV ps) ip) (e7:s.e 7=.c (.int .i64 0)) (e5:s.e 5=.sl (D.vs H) .full)
  (hb0:s.base=0){z w:List V}(h0:s.h[0]?=some (.cells w)) (h1:s.h[1]?=some (.cells z))
  (hq:∀e h rb si,(∀t,(dU x68l30).contains t=false→e t=s.e t)→e 5=.sl (D.vs (H++ps.map fun p=>g p.1)) si→h[0]?=some (.cells w)→h[1]?=some (.cells z)→dI cf n K Q (.exit 1) ⟨e,h,0,rb⟩):lpk cf n x68l30 K Q s:=by
 obtain⟨J,hJ⟩:∃J:Nat→SF→Prop,J=fun k s'=>∃j si,j+k=ps.length∧s'.e 7=.c (.int .i64 j)∧s'.e 5=.sl (D.vs (H++(ps.take j).map fun p=>g p.1)) si∧GrowF 4 (D.vs (H++(ps.take j).map fun p=>g p.1)) si s'.h∧s'.h[0]?=some (.cells w)∧s'.h[1]?=some (.cells z):=⟨_,rfl⟩
 refine aX J ps.length hn (by rw[hJ];exact⟨0,.full,by simp,by simpa using e7,by simpa using e5,.full _ _ _,h0,h1⟩) ?_;rintro k ⟨e,h',base,rb⟩ hj he hb;rw[hJ] at hj;obtain⟨j,si,hj,f7,f5,hG,f0,f1⟩:=hj;have f1':e 1=_:=(he 1 rfl).trans e1;have f6:e 6=_:=(he 6 rfl).trans e6;simp only at f7 f5 hG f0 f1 hb;rw[hb0] at hb;subst hb;have hsl:=fE ps;by_cases hm:j<ps.length;rotate_left
 ·have hlt:¬(j:Int)<ps.length:=by omega
  obtain rfl:j=ps.length:=by omega
  rw[List.take_of_length_le (nL _)] at f5 hG;have hq':=fun e1 rb1 a b=>hq e1 h' rb1 si a b f0 f1
  simp -implicitDefEqProofs [x68l30_w,f6,f7,hlt,hsl];refine hq' _ _ (fun t ht=>?_) ?_
  ·have hne:∀k,(dU x68l30).contains k=true→t≠k:=fun k hk e=>by rw[e,hk] at ht;cases ht
   simp only[au,if_neg (hne 75 rfl),if_neg (hne 76 rfl),if_neg (hne 77 rfl),if_neg (hne 78 rfl)];exact he t ht
  ·simp[au,f5]
 have hlt:(j:Int)<ps.length:=by omega
 have hw:IntKind.i64.wrap ((j:Int)+1)=(j:Int)+1:=aB (by omega);have hvg:(ptV ps)[j]'(by rw[fE];omega)=.agg (ptC ps[j]):=pM _;have c68x:=c68 _ (List.getElem_mem hm);have htk:D.vs (H++(ps.take (j+1)).map fun p=>g p.1)=D.vs (H++(ps.take j).map fun p=>g p.1)++[(g (ps[j]).1).v]:=by
  rw[List.take_add_one,gE hm,List.map_append,← List.append_assoc,ai];rfl
 have hz1:=D.hz (H++(ps.take j).map fun p=>g p.1);have hul:(D.vs (H++(ps.take j).map fun p=>g p.1)).length=H.length+j:=by rw[aa,lA,List.length_map,List.length_take];omega
 have hj1:(H.length+j+1)*56≤140737488355328:=by omega
 have hj2:H.length+j+1≤140737488355328:=by omega
 have hr0:=zi ps[j];have hpl:=d9 ps[j];obtain⟨L2,hL2⟩:∃L2,L2=D.vs (H++(ps.take (j+1)).map fun p=>g p.1):=⟨_,rfl⟩
 rw[← hL2] at htk;generalize ps[j]=x at *;generalize g x.1=gx at *;have hcl:=ab gx;generalize D.vs (H++(ps.take j).map fun p=>g p.1)=U at *;simp -implicitDefEqProofs [x68l30_w,f1',f6,f7,f5,hlt,hm,hsl,hvg,ae,c68x,hul,hz1,hj1,hj2,hr0,hpl];refine bp (zz:=some 4) (hG.app _) (.inl (q9 _ _ _)) fun si' h'' hG' hl' hk hlo hnf=>?_
 have k0:=hk 0 _ (bU f0 _);have k1:=hk 1 _ (bU f1 _);simp -implicitDefEqProofs [f7,hw];refine⟨k-1,by omega,?_⟩;rw[hJ];refine⟨j+1,si',by omega,by simp[au],?_,?_,k0,k1⟩
 ·rw[← hL2,htk];simp[au]
 ·rw[← hL2,htk];exact hG'
theorem Hj (a:List D) (ha:a.length<1000000000):∀(f:Nat) (y:D),y.sz≤f→okE f y→agE a f y→y.fm=true→y.sz<100000000→∀m,3*f+20+y.sz≤m→∀ia,aV m 68 [y.v,.sl (D.vs a) ia] (fl a f y).v
 | 0,y,h,_,_,_,_,_,_,_=>by have:=ao y;omega
 | f+1,y,hf,hok,hag,hfm,hb,m,hm,ia=>by
  obtain⟨m,rfl⟩:∃m',m=m'+4:=⟨m-4,by omega⟩
  have hX:okX y:=hok.1;obtain⟨hwd,_⟩:=mw hX;have hl2:=jB hX;have c98:∀h,call X E (m+3) 98 [y.v] h=some (ptR (prP y),h):=F2 y hX (n:=m+2) (by omega) (by omega);have c56:∀h,call X E (m+3) 56 [y.v] h=some (.c (.string y.wd),h):=Cp y;have c65:∀t h,call X E (m+3) 65 [.c (.string t)] h=some ((D.sy t).v,h):=fun t=>GI t
  have c66:∀d h,call X E (m+3) 66 [d.v] h=some ((qd d).v,h):=fun d=>Ha d
  have c67:∀l i h,l.length<100000000000→call X E (m+3) 67 [.sl (D.vs l) i] h=some ((D.lst l).v,h):=fun l i h hl=>Cs l i hl h
  have c68:∀p∈prP y,∀h,call X E (m+3) 68 [p.1.v,.sl (D.vs a) .any] h=some ((fl a f p.1).v,h):=fun p hp=>by
   have hx:p.1∈inn y:=List.mem_map.2 ⟨p,hp,rfl⟩;have:=ph hX hx;exact Hj a ha f p.1 (by omega) (pB hok hx) (hag.2 _ hx) (y7 hX hfm hx) (by omega) (m+3) (by omega) .any
  have hlowa:=D.lows 0 a;have hl0i:(0:Int)<y.kids.length:=by omega
  have hl0:0<y.kids.length:=by omega
  have hl1i:(1:Int)<y.kids.length:=by omega
  have hl1:1<y.kids.length:=by omega
  have v1:((D.vs y.kids)[1]'(by rw[aa];exact hl1))=(y.kid 1).v:=ah _;have hsl:=aa y.kids;have hvl:=fun d=>pZ d
  have hvw:=D.vw;have hlen:(prP y).length<m+3∧(prP y).length<1000000000:=by
   have h1:=ng hX;constructor<;>omega
  refine azz (by simp[aD,V.lows,V.low,SI.low,hlowa]) ?_;have hw:=ns hX;have c9:wn y.wd=9→∀h,call X E (m+3) 68 [(y.kid 1).v,.sl (D.vs a) .any] h=some ((fl a f (y.kid 1)).v,h):=fun h9=>by
   have h1:=(Gw h9 hX).2;have h2:y.kid 1∈inn y:=by rw[h1];simp
   obtain⟨p,hp,he⟩:=List.mem_map.1 h2;rw[← he];exact c68 p hp
  generalize hm3:m+3=M at *;generalize call X E M=cf at *;by_cases h4:wn y.wd=4
  ·have hR:fl a (f+1) y=qd (y.kid 1):=by simp[fl,h4]
   rw[hR];simp -implicitDefEqProofs [x68_w,x68_r,aD,ae,hsl,hl0,hl0i,hl1,hl1i,v1,c56,h4,c66,hvl,hvw]
  by_cases h6:wn y.wd=6
  ·have hR:fl a (f+1) y=qd (a.getD (y.kid 1).nu.toNat .z0):=by simp[fl,h6]
   rw[hR];obtain⟨_,hn0,_⟩:=k9 hX h6;have hn1:=hag.1 h6;have hal:=aa a;have hnl:(y.kid 1).nu.toNat<a.length:=by omega
   have hva:(D.vs a)[(y.kid 1).nu.toNat]'(by rw[hal];exact hnl)=(a.getD (y.kid 1).nu.toNat .z0).v:=by
    rw[ac,List.getD_eq_getElem?_getD,gE hnl];rfl
   generalize a.getD (y.kid 1).nu.toNat .z0=q at *;simp -implicitDefEqProofs [x68_w,x68_r,aD,ae,hsl,hl0,hl0i,hl1,hl1i,v1,c56,h6,c66,hvl,hvw,hal,hn0,hn1,hnl,hva]
  by_cases h5:wn y.wd=5∨wn y.wd=8
  ·have hR:fl a (f+1) y=y.kid 1:=by simp[fl,h4,h5]
   rw[hR];rcases h5 with h5|h5<;>simp -implicitDefEqProofs [x68_w,x68_r,aD,ae,hsl,hl0,hl0i,hl1,hl1i,v1,c56,h5,hvl,hvw]
  by_cases h9:wn y.wd=9
  ·have hR:fl a (f+1) y=fl a f (y.kid 1):=by simp[fl,h9]
   rw[hR];have c9x:=c9 h9;simp -implicitDefEqProofs [x68_w,x68_r,aD,ae,hsl,hl0,hl0i,hl1,hl1i,v1,c56,h9,c9x,hvl,hvw]
  have hR:fl a (f+1) y=.lst (hdW (wn y.wd) y++(prP y).map fun p=>fl a f p.1):=by
   rw[fl,if_neg h4,if_neg h5,if_neg h6,if_neg h9];unfold inn;rw[List.map_map];rfl
  rw[hR];have hwI:wn y.wd=1∨wn y.wd=10∨wn y.wd=11∨wn y.wd=2∨wn y.wd=12∨wn y.wd=13∨wn y.wd=7∨wn y.wd=14∨wn y.wd=3∨wn y.wd=15:=by omega
  clear hw h4 h5 h6 h9 c9 hR;obtain⟨ip,hip⟩:=vN (prP y);rw[hip] at c98;have hpl:=fE (prP y);rcases hwI with hw|hw|hw|hw|hw|hw|hw|hw|hw|hw
  ·have c65x:=c65 wdI;have hHd:hdW 1 y=[.sy wdI]:=rfl;generalize D.sy wdI=sq at *;unfold wdI at c65x;rw[hw,hHd];have c:=fun si h=>c67 (sq::(prP y).map fun p=>fl a f p.1) si h (by simp;omega)
   simp -implicitDefEqProofs [x68_w,aD,ae,hsl,hl0,hl0i,hl1,hl1i,v1,c56,hw,c65x,c98];refine eY (a:=a) (H:=[sq]) (ps:=prP y) (i1:=.any) (ip:=ip) (g:=fl a f) (w:=y.v.cells) (z:=_) c68 hlen.1 hlen.2 (by simp) (by simp[au,bD,aD]) (by simp[au]) (by simp[au]) (by simp[au,D.vs]) rfl rfl rfl ?_;intro e h rb si he e5 f0 f1;simp only[List.cons_append,List.nil_append] at e5;have e4:=he 4 rfl;simp[au] at e4;have ks:=fun o=>bP f1 o
   have cs:=c si;generalize D.lst (sq::(prP y).map fun p=>fl a f p.1)=R at *;generalize D.vs (sq::(prP y).map fun p=>fl a f p.1)=U at *;simp -implicitDefEqProofs [x68_r,e4,e5,cs,ae,↓f0,↓f1,↓ks,hvl,hvw]
  ·have c65x:=c65 wdI;have hHd:hdW 10 y=[.sy wdI]:=rfl;generalize D.sy wdI=sq at *;unfold wdI at c65x;rw[hw,hHd];have c:=fun si h=>c67 (sq::(prP y).map fun p=>fl a f p.1) si h (by simp;omega)
   simp -implicitDefEqProofs [x68_w,aD,ae,hsl,hl0,hl0i,hl1,hl1i,v1,c56,hw,c65x,c98];refine eY (a:=a) (H:=[sq]) (ps:=prP y) (i1:=.any) (ip:=ip) (g:=fl a f) (w:=y.v.cells) (z:=_) c68 hlen.1 hlen.2 (by simp) (by simp[au,bD,aD]) (by simp[au]) (by simp[au]) (by simp[au,D.vs]) rfl rfl rfl ?_;intro e h rb si he e5 f0 f1;simp only[List.cons_append,List.nil_append] at e5;have e4:=he 4 rfl;simp[au] at e4;have ks:=fun o=>bP f1 o
   have cs:=c si;generalize D.lst (sq::(prP y).map fun p=>fl a f p.1)=R at *;generalize D.vs (sq::(prP y).map fun p=>fl a f p.1)=U at *;simp -implicitDefEqProofs [x68_r,e4,e5,cs,ae,↓f0,↓f1,↓ks,hvl,hvw]
  ·have c65x:=c65 wdI;have hHd:hdW 11 y=[.sy wdI]:=rfl;generalize D.sy wdI=sq at *;unfold wdI at c65x;rw[hw,hHd];have c:=fun si h=>c67 (sq::(prP y).map fun p=>fl a f p.1) si h (by simp;omega)
   simp -implicitDefEqProofs [x68_w,aD,ae,hsl,hl0,hl0i,hl1,hl1i,v1,c56,hw,c65x,c98];refine eY (a:=a) (H:=[sq]) (ps:=prP y) (i1:=.any) (ip:=ip) (g:=fl a f) (w:=y.v.cells) (z:=_) c68 hlen.1 hlen.2 (by simp) (by simp[au,bD,aD]) (by simp[au]) (by simp[au]) (by simp[au,D.vs]) rfl rfl rfl ?_;intro e h rb si he e5 f0 f1;simp only[List.cons_append,List.nil_append] at e5;have e4:=he 4 rfl;simp[au] at e4;have ks:=fun o=>bP f1 o
   have cs:=c si;generalize D.lst (sq::(prP y).map fun p=>fl a f p.1)=R at *;generalize D.vs (sq::(prP y).map fun p=>fl a f p.1)=U at *;simp -implicitDefEqProofs [x68_r,e4,e5,cs,ae,↓f0,↓f1,↓ks,hvl,hvw]
  ·have c65x:=c65 wdL;have hHd:hdW 2 y=[.sy wdL,y.kid 1]:=rfl;generalize D.sy wdL=sq at *;unfold wdL at c65x;rw[hw,hHd];have c:=fun si h=>c67 (sq::y.kid 1::(prP y).map fun p=>fl a f p.1) si h (by simp;omega)
   simp -implicitDefEqProofs [x68_w,aD,ae,hsl,hl0,hl0i,hl1,hl1i,v1,c56,hw,c65x,c98];refine eY (a:=a) (H:=[sq,y.kid 1]) (ps:=prP y) (i1:=.any) (ip:=ip) (g:=fl a f) (w:=y.v.cells) (z:=_) c68 hlen.1 hlen.2 (by simp) (by simp[au,bD,aD]) (by simp[au]) (by simp[au]) (by simp[au,D.vs]) rfl rfl rfl ?_;intro e h rb si he e5 f0 f1;simp only[List.cons_append,List.nil_append] at e5;have e4:=he 4 rfl;simp[au] at e4;have ks:=fun o=>bP f1 o
   have cs:=c si;generalize D.lst (sq::y.kid 1::(prP y).map fun p=>fl a f p.1)=R at *;generalize D.vs (sq::y.kid 1::(prP y).map fun p=>fl a f p.1)=U at *;simp -implicitDefEqProofs [x68_r,e4,e5,cs,ae,↓f0,↓f1,↓ks,hvl,hvw]
  ·have c65x:=c65 wdL;have hHd:hdW 12 y=[.sy wdL,y.kid 1]:=rfl;generalize D.sy wdL=sq at *;unfold wdL at c65x;rw[hw,hHd];have c:=fun si h=>c67 (sq::y.kid 1::(prP y).map fun p=>fl a f p.1) si h (by simp;omega)
   simp -implicitDefEqProofs [x68_w,aD,ae,hsl,hl0,hl0i,hl1,hl1i,v1,c56,hw,c65x,c98];refine eY (a:=a) (H:=[sq,y.kid 1]) (ps:=prP y) (i1:=.any) (ip:=ip) (g:=fl a f) (w:=y.v.cells) (z:=_) c68 hlen.1 hlen.2 (by simp) (by simp[au,bD,aD]) (by simp[au]) (by simp[au]) (by simp[au,D.vs]) rfl rfl rfl ?_;intro e h rb si he e5 f0 f1;simp only[List.cons_append,List.nil_append] at e5;have e4:=he 4 rfl;simp[au] at e4;have ks:=fun o=>bP f1 o
   have cs:=c si;generalize D.lst (sq::y.kid 1::(prP y).map fun p=>fl a f p.1)=R at *;generalize D.vs (sq::y.kid 1::(prP y).map fun p=>fl a f p.1)=U at *;simp -implicitDefEqProofs [x68_r,e4,e5,cs,ae,↓f0,↓f1,↓ks,hvl,hvw]
  ·have c65x:=c65 wdL;have hHd:hdW 13 y=[.sy wdL,y.kid 1]:=rfl;generalize D.sy wdL=sq at *;unfold wdL at c65x;rw[hw,hHd];have c:=fun si h=>c67 (sq::y.kid 1::(prP y).map fun p=>fl a f p.1) si h (by simp;omega)
   simp -implicitDefEqProofs [x68_w,aD,ae,hsl,hl0,hl0i,hl1,hl1i,v1,c56,hw,c65x,c98];refine eY (a:=a) (H:=[sq,y.kid 1]) (ps:=prP y) (i1:=.any) (ip:=ip) (g:=fl a f) (w:=y.v.cells) (z:=_) c68 hlen.1 hlen.2 (by simp) (by simp[au,bD,aD]) (by simp[au]) (by simp[au]) (by simp[au,D.vs]) rfl rfl rfl ?_;intro e h rb si he e5 f0 f1;simp only[List.cons_append,List.nil_append] at e5;have e4:=he 4 rfl;simp[au] at e4;have ks:=fun o=>bP f1 o
   have cs:=c si;generalize D.lst (sq::y.kid 1::(prP y).map fun p=>fl a f p.1)=R at *;generalize D.vs (sq::y.kid 1::(prP y).map fun p=>fl a f p.1)=U at *;simp -implicitDefEqProofs [x68_r,e4,e5,cs,ae,↓f0,↓f1,↓ks,hvl,hvw]
  ·have hHd:hdW 7 y=[y.kid 1]:=rfl;rw[hw,hHd];have c:=fun si h=>c67 (y.kid 1::(prP y).map fun p=>fl a f p.1) si h (by simp;omega)
   simp -implicitDefEqProofs [x68_w,aD,ae,hsl,hl0,hl0i,hl1,hl1i,v1,c56,hw,c66,c98];refine eY (a:=a) (H:=[y.kid 1]) (ps:=prP y) (i1:=.any) (ip:=ip) (g:=fl a f) (w:=y.v.cells) (z:=_) c68 hlen.1 hlen.2 (by simp) (by simp[au,bD,aD]) (by simp[au]) (by simp[au]) (by simp[au,D.vs]) rfl rfl rfl ?_;intro e h rb si he e5 f0 f1;simp only[List.cons_append,List.nil_append] at e5;have e4:=he 4 rfl;simp[au] at e4;have ks:=fun o=>bP f1 o
   have cs:=c si;generalize D.lst (y.kid 1::(prP y).map fun p=>fl a f p.1)=R at *;generalize D.vs (y.kid 1::(prP y).map fun p=>fl a f p.1)=U at *;simp -implicitDefEqProofs [x68_r,e4,e5,cs,ae,↓f0,↓f1,↓ks,hvl,hvw]
  ·have hHd:hdW 14 y=[y.kid 1]:=rfl;rw[hw,hHd];have c:=fun si h=>c67 (y.kid 1::(prP y).map fun p=>fl a f p.1) si h (by simp;omega)
   simp -implicitDefEqProofs [x68_w,aD,ae,hsl,hl0,hl0i,hl1,hl1i,v1,c56,hw,c66,c98];refine eY (a:=a) (H:=[y.kid 1]) (ps:=prP y) (i1:=.any) (ip:=ip) (g:=fl a f) (w:=y.v.cells) (z:=_) c68 hlen.1 hlen.2 (by simp) (by simp[au,bD,aD]) (by simp[au]) (by simp[au]) (by simp[au,D.vs]) rfl rfl rfl ?_;intro e h rb si he e5 f0 f1;simp only[List.cons_append,List.nil_append] at e5;have e4:=he 4 rfl;simp[au] at e4;have ks:=fun o=>bP f1 o
   have cs:=c si;generalize D.lst (y.kid 1::(prP y).map fun p=>fl a f p.1)=R at *;generalize D.vs (y.kid 1::(prP y).map fun p=>fl a f p.1)=U at *;simp -implicitDefEqProofs [x68_r,e4,e5,cs,ae,↓f0,↓f1,↓ks,hvl,hvw]
  ·have c65x:=c65 wdC;have hHd:hdW 3 y=[.sy wdC,y.kid 1]:=rfl;generalize D.sy wdC=sq at *;unfold wdC at c65x;rw[hw,hHd];have c:=fun si h=>c67 (sq::y.kid 1::(prP y).map fun p=>fl a f p.1) si h (by simp;omega)
   simp -implicitDefEqProofs [x68_w,aD,ae,hsl,hl0,hl0i,hl1,hl1i,v1,c56,hw,c65x,c98];refine eY (a:=a) (H:=[sq,y.kid 1]) (ps:=prP y) (i1:=.any) (ip:=ip) (g:=fl a f) (w:=y.v.cells) (z:=_) c68 hlen.1 hlen.2 (by simp) (by simp[au,bD,aD]) (by simp[au]) (by simp[au]) (by simp[au,D.vs]) rfl rfl rfl ?_;intro e h rb si he e5 f0 f1;simp only[List.cons_append,List.nil_append] at e5;have e4:=he 4 rfl;simp[au] at e4;have ks:=fun o=>bP f1 o
   have cs:=c si;generalize D.lst (sq::y.kid 1::(prP y).map fun p=>fl a f p.1)=R at *;generalize D.vs (sq::y.kid 1::(prP y).map fun p=>fl a f p.1)=U at *;simp -implicitDefEqProofs [x68_r,e4,e5,cs,ae,↓f0,↓f1,↓ks,hvl,hvw]
  ·have c65x:=c65 wdC;have hHd:hdW 15 y=[.sy wdC,y.kid 1]:=rfl;generalize D.sy wdC=sq at *;unfold wdC at c65x;rw[hw,hHd];have c:=fun si h=>c67 (sq::y.kid 1::(prP y).map fun p=>fl a f p.1) si h (by simp;omega)
   simp -implicitDefEqProofs [x68_w,aD,ae,hsl,hl0,hl0i,hl1,hl1i,v1,c56,hw,c65x,c98];refine eY (a:=a) (H:=[sq,y.kid 1]) (ps:=prP y) (i1:=.any) (ip:=ip) (g:=fl a f) (w:=y.v.cells) (z:=_) c68 hlen.1 hlen.2 (by simp) (by simp[au,bD,aD]) (by simp[au]) (by simp[au]) (by simp[au,D.vs]) rfl rfl rfl ?_;intro e h rb si he e5 f0 f1;simp only[List.cons_append,List.nil_append] at e5;have e4:=he 4 rfl;simp[au] at e4;have ks:=fun o=>bP f1 o
   have cs:=c si;generalize D.lst (sq::y.kid 1::(prP y).map fun p=>fl a f p.1)=R at *;generalize D.vs (sq::y.kid 1::(prP y).map fun p=>fl a f p.1)=U at *;simp -implicitDefEqProofs [x68_r,e4,e5,cs,ae,↓f0,↓f1,↓ks,hvl,hvw]
theorem Gi:∀d:D,d.sz<100000000000→∀n,2*d.sz+2≤n→aV n 123 [d.v] d.v:=by
 refine D.ind fun k i t l ih hs m hm=>?_
 simp only[D.sz] at hs hm;obtain⟨m,rfl⟩:∃m',m=m'+1:=⟨m-1,by omega⟩
 have hlen:=aj l;have c123:∀x∈l,∀h,call X E m 123 [x.v] h=some (x.v,h):=fun x hx=>ih x hx (by have:=ak hx;omega) m (by have:=ak hx;omega)
 refine azz (by simp[V.lows]) ?_;have hvl:=pZ (.mk k i t l);have hR:(D.mk k i t l).v=.agg [.c (.int .i64 k),.c (.int .i64 i),.c (.string t),.sl (D.vs l) .any]:=rfl;have hsl:=aa l;rw[hR] at hvl ⊢;generalize call X E m=cf at *;simp -implicitDefEqProofs [x123_w,uu,hsl];obtain⟨J,hJ⟩:∃J:Nat→SF→Prop,J=fun k' s'=>∃j si,j+k'=l.length∧s'.e 9=.c (.int .i64 j)∧s'.e 3=.sl (D.vs (l.take j)) si∧GrowF 4 (D.vs (l.take j)) si s'.h∧s'.h[0]?=some (.cells [.c (.int .i64 k),.c (.int .i64 i),.c (.string t),.sl (D.vs l) .any])∧s'.h[1]?=some (.cells [.c (.int .i64 0),.c (.int .i64 0),.c (.string ⟨#[]⟩),.sl [] .nil]):=⟨_,rfl⟩
 refine aX J l.length (by omega) (by rw[hJ];exact⟨0,.nil,by simp,by simp[au],by simp[au,D.vs],by simpa[D.vs] using GrowF.nil 4 _,rfl,rfl⟩) ?_;rintro k' ⟨e,h',base,rb⟩ hj he hb;rw[hJ] at hj;obtain⟨j,si,hj,e9,e3,hG,f0,f1⟩:=hj;have e1:=he 1 rfl;have e2:=he 2 rfl;have e7:=he 7 rfl;have e8:=he 8 rfl;simp[au] at e1 e2 e7 e8 hb;simp only at e9 e3 hG f0 f1;subst hb;by_cases hmm:j<l.length;rotate_left
 ·have hlt:¬(j:Int)<l.length:=by omega
  obtain rfl:j=l.length:=by omega
  rw[List.take_of_length_le (nL _)] at e3 hG;have ks:=fun o=>bP f0 o
  have h1l:1<h'.length:=(gS.1 f1).1;have ks1:∀o,(h'.set 0 o)[1]?=some (.cells [.c (.int .i64 0),.c (.int .i64 0),.c (.string ⟨#[]⟩),.sl [] .nil]):=fun o=>by
   rw[sN (by omega)];exact f1
  have ks2:∀o o',((h'.set 0 o).set 1 o')[1]?=some o':=fun o o'=>bP (ks1 o) o'
  rcases hG with⟨h1,rfl⟩|rfl|⟨q,rfl,_⟩<;>simp -implicitDefEqProofs [x123l8_w,x123_r,e1,e2,e3,e7,e8,e9,hsl,hlt,↓f0,↓f1,↓ks,↓ks1,↓ks2,hvl]
 have hlt:(j:Int)<l.length:=by omega
 have hw:IntKind.i64.wrap ((j:Int)+1)=(j:Int)+1:=aB (by omega);have hvg:(D.vs l)[j]'(by rw[aa];omega)=(l[j]).v:=ac _;have c123x:=c123 _ (List.getElem_mem hmm);have htk:D.vs (l.take (j+1))=D.vs (l.take j)++[(l[j]).v]:=by
  rw[List.take_add_one,gE hmm,ai];rfl
 have hz1:=D.hz (l.take j);have hul:(D.vs (l.take j)).length=j:=by rw[aa,List.length_take];omega
 have hj1:(j+1)*56≤140737488355328:=by omega
 have hj2:j+1≤140737488355328:=by omega
 obtain⟨L2,hL2⟩:∃L2,L2=D.vs (l.take (j+1)):=⟨_,rfl⟩
 rw[← hL2] at htk;generalize l[j]=x at *;have hcl:=ab x;generalize D.vs (l.take j)=U at *;have f0':=fun R=>bU f0 R
 simp -implicitDefEqProofs [x123l8_w,e1,e2,e3,e7,e8,e9,hsl,hlt,hmm,hvg,ae,c123x,hul,hz1,hj1,hj2];refine bp (zz:=some 4) (hG.app _) (.inl (jp _ _ _ _)) fun si' h'' hG' hl' hk hlo hnf=>?_
 have k0:=hk 0 _ (bU f0 _);have k1:=hk 1 _ (bU f1 _);simp -implicitDefEqProofs [e9,hw];refine⟨k'-1,by omega,?_⟩;rw[hJ];refine⟨j+1,si',by omega,by simp[au],?_,?_,k0,k1⟩
 ·rw[← hL2,htk];simp[au]
 ·rw[← hL2,htk];exact hG'
theorem Iv (d:D) (hs:d.sz<100000000000){n:Nat}(hn:2*d.sz+2≤n):aV (n+1) 63 [d.v] d.v:=by
 have c1:∀h,call X E n 123 [d.v] h=some (d.v,h):=Gi d hs n hn;have hvl:=pZ d;have hvw:=D.vw d;refine azz (by simp[V.lows]) ?_;generalize call X E n=cf at *;simp -implicitDefEqProofs [x63_w,x63_r,ae,c1,hvl,hvw]
def syL (L:List ByteArray):D:=.lst (L.map .sy)
theorem Io (L:List ByteArray) (i:SI) (hl:L.length<100000000000){n:Nat}(hn:L.length<n):aV (n+2) 82 [.sl (ss L) i] (syL L).v:=by
 have c124:∀t h,call X E (n+1) 124 [.c (.string t)] h=some ((D.sy t).v,h):=fun t=>DA t
 have c67:∀(l:List D) i h,l.length<100000000000→call X E (n+1) 67 [.sl (D.vs l) i] h=some ((D.lst l).v,h):=fun l i h hl=>Cs l i hl h
 have hlow:=eW 0 L;have hsl:=bI L;have hvl:=pZ (syL L);have hvw:=D.vw (syL L);refine azz (by simp[aD,V.lows,V.low,SI.low,hlow]) ?_;generalize hm:n+1=M at *;generalize call X E M=cf at *;simp -implicitDefEqProofs [x82_w,aD];obtain⟨J,hJ⟩:∃J:Nat→SF→Prop,J=fun k s'=>∃j si,j+k=L.length∧s'.e 4=.c (.int .i64 j)∧s'.e 3=.sl (D.vs ((L.take j).map D.sy)) si∧GrowF 4 (D.vs ((L.take j).map D.sy)) si s'.h∧s'.h[0]?=some (.cells [.c (.int .i64 0),.c (.int .i64 0),.c (.string ⟨#[]⟩),.sl [] .nil]):=⟨_,rfl⟩
 refine aX J L.length (by omega) (by rw[hJ];exact⟨0,.nil,by simp,by simp[au],by simp[au,D.vs],by simpa[D.vs] using GrowF.nil 4 _,rfl⟩) ?_;rintro k ⟨e,h',base,rb⟩ hj he hb;rw[hJ] at hj;obtain⟨j,si,hj,e4,e3,hG,f0⟩:=hj;have e0:=he 0 rfl;have e2:=he 2 rfl;simp[au,bD,aD] at e0 e2 hb;simp only at e4 e3 hG f0;subst hb;by_cases hmm:j<L.length;rotate_left
 ·have hlt:¬(j:Int)<L.length:=by omega
  obtain rfl:j=L.length:=by omega
  rw[List.take_of_length_le (nL _)] at e3 hG;have ks:=fun o=>bP f0 o
  have c:=fun h=>c67 (L.map D.sy) si h (by simp;omega)
  rw[show D.lst (L.map D.sy)=syL L from rfl] at c;generalize syL L=R at *;simp -implicitDefEqProofs [x82l7_w,x82_r,e0,e2,e3,e4,hsl,hlt,↓f0,↓ks,c,ae,hvl,hvw]
 have hlt:(j:Int)<L.length:=by omega
 have hw:IntKind.i64.wrap ((j:Int)+1)=(j:Int)+1:=aB (by omega);have hvg:=nC hmm;have c124x:=c124 L[j];have htk:D.vs ((L.take (j+1)).map D.sy)=D.vs ((L.take j).map D.sy)++[(D.sy L[j]).v]:=by
  rw[List.take_add_one,gE hmm,List.map_append,ai];rfl
 have hz1:=D.hz ((L.take j).map D.sy);have hul:(D.vs ((L.take j).map D.sy)).length=j:=by rw[aa,List.length_map,List.length_take];omega
 have hj1:(j+1)*56≤140737488355328:=by omega
 have hj2:j+1≤140737488355328:=by omega
 obtain⟨L2,hL2⟩:∃L2,L2=D.vs ((L.take (j+1)).map D.sy):=⟨_,rfl⟩
 rw[← hL2] at htk;generalize L[j]=x at *;generalize D.sy x=y at *;have hcl:=ab y;generalize D.vs ((L.take j).map D.sy)=U at *;simp -implicitDefEqProofs [x82l7_w,e0,e2,e3,e4,hsl,hlt,hmm,hvg,ae,c124x,hul,hz1,hj1,hj2];refine bp (zz:=some 4) (hG.app _) (.inl (q9 _ _ _)) fun si' h'' hG' hl' hk hlo hnf=>?_
 have k0:=hk 0 _ (bU f0 _);simp -implicitDefEqProofs [e4,hw];refine⟨k-1,by omega,?_⟩;rw[hJ];refine⟨j+1,si',by omega,by simp[au],?_,?_,k0⟩
 ·rw[← hL2,htk];simp[au]
 ·rw[← hL2,htk];exact hG'
def d9C (p:D × List ByteArray × D):List V:=p.1.v.cells++([.sl (ss p.2.1) .any]++p.2.2.v.cells)
def d9V (l:List (D × List ByteArray × D)):List V:=l.map fun p=>.agg (d9C p)
def d9D (p:D × List ByteArray × D):D:=.lst [p.1,syL p.2.1,p.2.2]
theorem lS (l:List (D × List ByteArray × D)):(d9V l).length=l.length:=by simp[d9V]
theorem om (p:D × List ByteArray × D):(d9C p).length=9:=by simp[d9C,ab]
theorem AH {l:List (D × List ByteArray × D)}{j:Nat}(h:j<(d9V l).length):(d9V l)[j]=.agg (d9C (l[j]'(by rwa [lS] at h))):=by simp[d9V]
theorem CN (p:D × List ByteArray × D):rdV (d9C p) 0 (some 4)=some p.1.v:=by
 obtain⟨⟨k,i,t,l⟩,s,⟨k',i',t',l'⟩⟩:=p;rfl
theorem DD (p:D × List ByteArray × D):rdV (d9C p) 4 none=some (.sl (ss p.2.1) .any):=by
 obtain⟨⟨k,i,t,l⟩,s,⟨k',i',t',l'⟩⟩:=p;rfl
theorem Ea (p:D × List ByteArray × D):rdV (d9C p) 5 (some 4)=some p.2.2.v:=by
 obtain⟨⟨k,i,t,l⟩,s,⟨k',i',t',l'⟩⟩:=p;rfl
theorem Al (m:Nat) (p:D × List ByteArray × D):V.lows m (d9C p)=true:=by
 have h3:=eW m p.2.1;unfold d9C;rw[gb,gb,D.low_cells,D.low_cells];simp[V.lows,V.low,SI.low,h3]
theorem B4 (m:Nat) (l:List (D × List ByteArray × D)):V.lows m (d9V l)=true:=cq fun v hv=>by
 obtain⟨p,_,rfl⟩:=List.mem_map.1 hv;simp only[V.low];exact Al m p
theorem HF (l:List (D × List ByteArray × D)) (i:SI) (hl:l.length<100000000000){n:Nat}(hn:l.length<n) (hp:∀p∈l,p.2.1.length<n∧p.2.1.length<100000000000):aV (n+3) 69 [.sl (d9V l) i] (D.lst (l.map d9D)).v:=by
 have c82:∀p∈l,∀i h,call X E (n+2) 82 [.sl (ss p.2.1) i] h=some ((syL p.2.1).v,h):=fun p hpl i h=>Io p.2.1 i (hp p hpl).2 (hp p hpl).1 h
 have c67:∀(l:List D) i h,l.length<100000000000→call X E (n+2) 67 [.sl (D.vs l) i] h=some ((D.lst l).v,h):=fun l i h hl=>Cs l i hl h
 have c673:∀(x y z:D) h,call X E (n+2) 67 [.sl [x.v,y.v,z.v] .full] h=some ((D.lst [x,y,z]).v,h):=fun x y z h=>Cs [x,y,z] .full (by simp) h
 have hlow:=B4 0 l;have hsl:=lS l;have hvl:=pZ (.lst (l.map d9D));have hvw:=D.vw (.lst (l.map d9D));refine azz (by simp[aD,V.lows,V.low,SI.low,hlow]) ?_;generalize hm:n+2=M at *;generalize call X E M=cf at *;simp -implicitDefEqProofs [x69_w,aD];obtain⟨J,hJ⟩:∃J:Nat→SF→Prop,J=fun k s'=>∃j si,j+k=l.length∧s'.e 4=.c (.int .i64 j)∧s'.e 3=.sl (D.vs ((l.take j).map d9D)) si∧GrowF 4 (D.vs ((l.take j).map d9D)) si s'.h∧s'.h[0]?=some (.cells [.c (.int .i64 0),.c (.int .i64 0),.c (.string ⟨#[]⟩),.sl [] .nil]):=⟨_,rfl⟩
 refine aX J l.length (by omega) (by rw[hJ];exact⟨0,.nil,by simp,by simp[au],by simp[au,D.vs],by simpa[D.vs] using GrowF.nil 4 _,rfl⟩) ?_;rintro k ⟨e,h',base,rb⟩ hj he hb;rw[hJ] at hj;obtain⟨j,si,hj,e4,e3,hG,f0⟩:=hj;have e0:=he 0 rfl;have e2:=he 2 rfl;simp[au,bD,aD] at e0 e2 hb;simp only at e4 e3 hG f0;subst hb;by_cases hmm:j<l.length;rotate_left
 ·have hlt:¬(j:Int)<l.length:=by omega
  obtain rfl:j=l.length:=by omega
  rw[List.take_of_length_le (nL _)] at e3 hG;have ks:=fun o=>bP f0 o
  have c:=fun h=>c67 (l.map d9D) si h (by simp;omega)
  generalize D.lst (l.map d9D)=R at *;simp -implicitDefEqProofs [x69l7_w,x69_r,e0,e2,e3,e4,hsl,hlt,↓f0,↓ks,c,ae,hvl,hvw]
 have hlt:(j:Int)<l.length:=by omega
 have hw:IntKind.i64.wrap ((j:Int)+1)=(j:Int)+1:=aB (by omega);have hvg:=AH (l:=l) (j:=j) (by rw[lS];exact hmm);have c82x:=c82 _ (List.getElem_mem hmm);have c67x:=c673 (l[j]).1 (syL (l[j]).2.1) (l[j]).2.2;have htk:D.vs ((l.take (j+1)).map d9D)=D.vs ((l.take j).map d9D)++[(d9D l[j]).v]:=by
  rw[List.take_add_one,gE hmm,List.map_append,ai];rfl
 have hz1:=D.hz ((l.take j).map d9D);have hul:(D.vs ((l.take j).map d9D)).length=j:=by rw[aa,List.length_map,List.length_take];omega
 have hj1:(j+1)*56≤140737488355328:=by omega
 have hj2:j+1≤140737488355328:=by omega
 obtain⟨L2,hL2⟩:∃L2,L2=D.vs ((l.take (j+1)).map d9D):=⟨_,rfl⟩
 rw[← hL2] at htk;have r0:=CN l[j];have r4:=DD l[j];have r5:=Ea l[j];have hcl9:=om l[j];rw[show D.lst [(l[j]).1,syL (l[j]).2.1,(l[j]).2.2]=d9D l[j] from rfl] at c67x;generalize l[j]=x at *;generalize d9D x=y at *;obtain⟨x1,x2,x3⟩:=x;simp only at r0 r4 r5 c82x c67x;generalize syL x2=sx at *;have hcl:=ab y;generalize D.vs ((l.take j).map d9D)=U at *;generalize d9C (x1,x2,x3)=C9 at *;simp -implicitDefEqProofs [x69l7_w,e0,e2,e3,e4,hsl,hlt,hmm,hvg,ae,r0,r4,r5,hcl9,c82x,c67x,hul,hz1,hj1,hj2];refine bp (zz:=some 4) (hG.app _) (.inl (jp _ _ _ _)) fun si' h'' hG' hl' hk hlo hnf=>?_
 have k0:=hk 0 _ (bU f0 _);simp -implicitDefEqProofs [e4,hw];refine⟨k-1,by omega,?_⟩;rw[hJ];refine⟨j+1,si',by omega,by simp[au],?_,?_,k0⟩
 ·rw[← hL2,htk];simp[au]
 ·rw[← hL2,htk];exact hG'
theorem eI {cf:aw}{n:Nat}{K:List Fr}{Q:Ex→SF→Prop}{s:SF}{us:List V}{si:SI}{ws:List V}{sb al b:Nat}{zz:Option Nat}{h:List O}{d:Option Nat}{r:List XOper}(m:Nat) (hG:GrowF (zc zz) us si h) (hd:h[al]?=some .dead) (hs:∀q,si=.tok q→m≤q) (hm:m≤al)
  (hq:∀si' h',GrowF (zc zz) (us++ws) si' h'→h'.length=h.length→Keeps h h'→h'.take m=h.take m→(∀q,si'=.tok q→m≤q)→(∀i,i≠al→(∀q,si=.tok q→i≠q)→h'[i]?=h[i]?)→sG cf n r K Q ⟨nU s.e d (.sl (us++ws) si'),h',s.base,s.rb⟩):gvk cf n (gJ sb al b zz false h us si ws) d r K Q s:=by
 have hl:al<h.length:=(gS.1 hd).1;have new:∀si,si=.nil∨si=.full→∀w ws,(∀si' h',GrowF (zc zz) (us++w::ws) si' h'→h'.length=h.length→Keeps h h'→h'.take m=h.take m→(∀q,si'=.tok q→m≤q)→(∀i,i≠al→(∀q,si=.tok q→i≠q)→h'[i]?=h[i]?)→sG cf n r K Q ⟨nU s.e d (.sl (us++w::ws) si'),h',s.base,s.rb⟩) →
   gvk cf n (gJ sb al b zz false h us si (w::ws)) d r K Q s:=fun si hsi w ws hq=>by
  have e:gJ sb al b zz false h us si (w::ws)=some (.sl (us++w::ws) (.tok al),h.set al (.tok (us.length+(w::ws).length) (zc zz))):=by
   rcases hsi with rfl|rfl
   ·exact fR sb al b zz h us ws w hd
   ·exact dM sb al b zz h us ws w hd
  rw[e,ct];refine hq _ _ (.inr (.inr ⟨al,rfl,?_⟩)) (by simp) (.set _ fun cs e=>?_) (List.take_set_of_le hm) (fun q e=>by cases e;exact hm) fun i hi _=>?_
  ·rw[sS hl];simp
  ·rw[hd] at e;cases e
  ·rw[sN (Ne.symm hi)]
 cases ws with
 | nil =>
  rw[dw,ct];have:=hq si h (by rw[List.append_nil];exact hG) rfl (.rfl' h) rfl hs fun i _ _=>rfl
  rw[List.append_nil] at this;exact this
 | cons w ws =>
  rcases hG with⟨_,rfl⟩|rfl|⟨q,rfl,hqq⟩
  ·exact new _ (.inl rfl) w ws hq
  ·exact new _ (.inr rfl) w ws hq
  ·have hl:q<h.length:=(gS.1 hqq).1;rw[dV sb al b q zz false h us ws w hqq,ct];refine hq _ _ (.inr (.inr ⟨q,rfl,?_⟩)) (by simp) (.set _ fun cs e=>?_) (List.take_set_of_le (hs q rfl)) (fun q' e=>by cases e;exact hs q rfl) fun i _ hi=>?_
   ·rw[sS hl];simp
   ·rw[hqq] at e;cases e
   ·rw[sN (Ne.symm (hi q rfl))]
theorem iK {h' h:List O}{m i:Nat}{o:O}(ht:h'.take m=h) (hi:h[i]?=some o):h'[i]?=some o:=by
 have h1:i<h.length:=(gS.1 hi).1;have h2:i<m:=by
  rw[← ht,List.length_take] at h1;omega
 rw[← ht,List.getElem?_take_of_lt h2] at hi;exact hi
theorem Ay {cf:aw}{n:Nat}{K:List Fr}{Q:Ex→SF→Prop}{s:SF}{T:List D}{id m:Nat}
  (c64:∀k h,cf 64 [.c (.int .i64 k)] h=some ((D.nb k).v,h)) (c38:∀j:Nat,cf 38 [.ref id 0,(D.nb j).v] s.h=some (.c (.int .i64 (fix (fun d=>(d.kid 0).same (.nb j)) T 0)),s.h))
  (hsp:spN T m) (hn:T.length<n) (hl:T.length<1000000000) (e0:s.e 0=.ref id 0) (e5:s.e 5=.c (.int .i64 0))
  (hq:∀e rb,(∀t,(dU x22l5).contains t=false→e t=s.e t)→e 5=.c (.int .i64 m)→dI cf n K Q (.exit 0) ⟨e,s.h,s.base,rb⟩):lpk cf n x22l5 K Q s:=by
 obtain⟨J,hJ⟩:∃J:Nat→SF→Prop,J=fun k s'=>∃j:Nat,j+k=T.length∧s'.e 5=.c (.int .i64 j)∧s'.h=s.h∧∀i,i<j→sE T i=true:=⟨_,rfl⟩
 refine aX J T.length hn (by rw[hJ];exact⟨0,by simp,by simpa using e5,rfl,fun i hi=>absurd hi (by omega)⟩) ?_;rintro k ⟨e,h',base,rb⟩ hj he hb;rw[hJ] at hj;obtain⟨j,hj,f5,hh,hpre⟩:=hj;have f0:e 0=_:=(he 0 rfl).trans e0;simp only at f5 hh hb;subst hh hb;have c38x:=c38 j;have hfa:∀p,decide (fix p T 0≥0)=T.any p:=fun p=>g9 p T 0
 have hfx:=hfa fun d=>(d.kid 0).same (.nb j)
 have hlabd:(T.any fun d=>(d.kid 0).same (.nb j))=sE T j:=rfl;rw[hlabd] at hfx;generalize fix (fun d=>(d.kid 0).same (.nb j)) T 0=F at *;have hw:IntKind.i64.wrap ((j:Int)+1)=(j:Int)+1:=aB (by have:=lq hpre;omega);cases hc:sE T j with
 | false =>
  rw[hc] at hfx;have hjm:j=m:=rm ⟨hpre,hc⟩ hsp;subst hjm;have hF:¬(F≥0):=of_decide_eq_false hfx;simp -implicitDefEqProofs [x22l5_w,f0,f5,c64,c38x,hF];refine hq _ _ (fun t ht=>?_) (by simp[au,f5]);have hne:∀k,(dU x22l5).contains k=true→t≠k:=fun k hk e=>by rw[e,hk] at ht;cases ht
  simp only[au,if_neg (hne 12 rfl),if_neg (hne 13 rfl),if_neg (hne 14 rfl),if_neg (hne 15 rfl),if_neg (hne 16 rfl)];exact he t ht
 | true =>
  rw[hc] at hfx;have hF:F≥0:=of_decide_eq_true hfx;have hpre2:∀i,i<j+1→sE T i=true:=fun i hi=>by
   rcases Nat.lt_or_ge i j with h|h
   ·exact hpre i h
   ·obtain rfl:i=j:=by omega
    exact hc
  have hle:=lq hpre2;simp -implicitDefEqProofs [x22l5_w,f0,f5,c64,c38x,hF,hw];refine⟨k-1,by omega,?_⟩;rw[hJ];exact⟨j+1,by omega,by simp[au],rfl,hpre2⟩
def eh (a:List D) (x:D):D:=qd (a.getD x.nu.toNat .z0)
theorem BD {cf:aw}{n:Nat}{K:List Fr}{Q:Ex→SF→Prop}{s:SF}{T F a H:List D}{id:Nat}{s1 s2 ia:SI}{Z:List V}{h0:List O}
  (c66:∀d h,cf 66 [d.v] h=some ((qd d).v,h)) (ht:dt h0 id (fg F) s1 T s2)
  (hF:∀x∈F,0≤x.nu∧x.nu<a.length) (hn:F.length<n) (hl:F.length<1000000000) (hH:H.length<10)
  (e0:s.e 0=.ref id 0) (e1:s.e 1=.sl (D.vs a) ia) (e6:s.e 6=.sl (D.vs H) .full) (e7:s.e 7=.c (.int .i64 0))
  (hb0:s.base=h0.length) (htk:s.h.take h0.length=h0) (hz:s.h[h0.length]?=some (.cells Z))
  (hq:∀e h rb si,(∀t,(dU x22l11).contains t=false→e t=s.e t)→e 6=.sl (D.vs (H++F.map (eh a))) si→GrowF 4 (D.vs (H++F.map (eh a))) si h→(∀q,si=.tok q→h0.length≤q)→h.take h0.length=h0→h[h0.length]?=some (.cells Z)→dI cf n K Q (.exit 2) ⟨e,h,h0.length,rb⟩):lpk cf n x22l11 K Q s:=by
 obtain⟨J,hJ⟩:∃J:Nat→SF→Prop,J=fun k s'=>∃j si,j+k=F.length∧s'.e 7=.c (.int .i64 j)∧s'.e 6=.sl (D.vs (H++(F.take j).map (eh a))) si∧GrowF 4 (D.vs (H++(F.take j).map (eh a))) si s'.h∧(∀q,si=.tok q→h0.length≤q)∧s'.h.take h0.length=h0∧s'.h[h0.length]?=some (.cells Z):=⟨_,rfl⟩
 refine aX J F.length hn (by rw[hJ];exact⟨0,.full,by simp,by simpa using e7,by simpa using e6,.full _ _ _,by simp,htk,hz⟩) ?_;rintro k ⟨e,h',base,rb⟩ hj he hb;rw[hJ] at hj;obtain⟨j,si,hj,f7,f6,hG,hsq,ftk,fz⟩:=hj;have f0:e 0=_:=(he 0 rfl).trans e0;have f1:e 1=_:=(he 1 rfl).trans e1;simp only at f7 f6 hG ftk fz hb;rw[hb0] at hb;subst hb;have hta:=iK ftk ht;have hil:=gh F;by_cases hm:j<F.length;rotate_left
 ·have hlt:¬(j:Int)<F.length:=by omega
  obtain rfl:j=F.length:=by omega
  rw[List.take_of_length_le (nL _)] at f6 hG;have hq':=fun e1 rb1 a b=>hq e1 h' rb1 si a b hG hsq ftk fz
  simp -implicitDefEqProofs [x22l11_w,f0,f7,hta,hil,hlt];refine hq' _ _ (fun t ht=>?_) (by simp[au,f6]);have hne:∀k,(dU x22l11).contains k=true→t≠k:=fun k hk e=>by rw[e,hk] at ht;cases ht
  simp only[au,if_neg (hne 28 rfl),if_neg (hne 29 rfl),if_neg (hne 30 rfl),if_neg (hne 31 rfl),if_neg (hne 32 rfl),if_neg (hne 33 rfl),if_neg (hne 34 rfl)];exact he t ht
 have hlt:(j:Int)<F.length:=by omega
 have hw:IntKind.i64.wrap ((j:Int)+1)=(j:Int)+1:=aB (by omega);have hvg:=rv hm;obtain⟨hn0,hn1⟩:=hF _ (List.getElem_mem hm);have htk2:D.vs (H++(F.take (j+1)).map (eh a))=D.vs (H++(F.take j).map (eh a))++[(eh a F[j]).v]:=by
  rw[List.take_add_one,gE hm,List.map_append,← List.append_assoc,ai];rfl
 have hz1:=D.hz (H++(F.take j).map (eh a));have hul:(D.vs (H++(F.take j).map (eh a))).length=H.length+j:=by rw[aa,lA,List.length_map,List.length_take];omega
 have hj1:(H.length+j+1)*56≤140737488355328:=by omega
 have hj2:H.length+j+1≤140737488355328:=by omega
 obtain⟨L2,hL2⟩:∃L2,L2=D.vs (H++(F.take (j+1)).map (eh a)):=⟨_,rfl⟩
 rw[← hL2] at htk2;have hal:=aa a;have hnl:(F[j]).nu.toNat<a.length:=by omega
 have hva:(D.vs a)[(F[j]).nu.toNat]'(by rw[hal];exact hnl)=(a.getD (F[j]).nu.toNat .z0).v:=by
  rw[ac,List.getD_eq_getElem?_getD,gE hnl];rfl
 have c66x:=c66 (a.getD (F[j]).nu.toNat .z0);rw[show qd (a.getD (F[j]).nu.toNat .z0)=eh a F[j] from rfl] at c66x;generalize F[j]=x at *;generalize a.getD x.nu.toNat .z0=y at *;generalize eh a x=gx at *;have hcl:=ab gx;generalize D.vs (H++(F.take j).map (eh a))=U at *;have htaR:=fun R=>bU hta R
 simp -implicitDefEqProofs [x22l11_w,f0,f1,f6,f7,hta,↓htaR,hil,hlt,hm,hvg,hal,hn0,hn1,hnl,hva,ae,c66x,hul,hz1,hj1,hj2];have hlen:h0.length≤h'.length:=by
  have:=congrArg List.length ftk;rw[List.length_take] at this;omega
 refine eI (zz:=some 4) h0.length (hG.app _) (q9 _ _ _) hsq (by omega) fun si' h'' hG' hl' hk ht' hs' _=>?_
 have k0:=hk _ _ (bU fz _);rw[List.take_append_of_le_length hlen,ftk] at ht';simp -implicitDefEqProofs [f7,hw];refine⟨k-1,by omega,?_⟩;rw[hJ];refine⟨j+1,si',by omega,by simp[au],?_,?_,hs',ht',k0⟩
 ·rw[← hL2,htk2];simp[au]
 ·rw[← hL2,htk2];exact hG'
theorem AO {cf:aw}{n:Nat}{K:List Fr}{Q:Ex→SF→Prop}{s:SF}{T F H:List D}{id:Nat}{s1 s2 si0:SI}{Z:List V}{h0:List O}{L:List ByteArray}
  (c65:∀t h,cf 65 [.c (.string t)] h=some ((D.sy t).v,h)) (ht:dt h0 id (fg F) s1 T s2) (hT:0<T.length) (hL:L=txs ((T.getD 0 .z0).kid 2).kids)
  (hn:L.length<n) (hl:L.length<1000000000) (hH:H.length<1000000000)
  (e0:s.e 0=.ref id 0) (e6:s.e 6=.sl (D.vs H) si0) (hG0:GrowF 4 (D.vs H) si0 s.h) (hs0:∀q,si0=.tok q→h0.length≤q) (e8:s.e 8=.c (.int .i64 0))
  (hb0:s.base=h0.length) (htk:s.h.take h0.length=h0) (hz:s.h[h0.length]?=some (.cells Z))
  (hq:∀e h rb si,(∀t,(dU x22l16).contains t=false→e t=s.e t)→e 6=.sl (D.vs (H++L.map D.sy)) si→h.take h0.length=h0→h[h0.length]?=some (.cells Z)→dI cf n K Q (.exit 4) ⟨e,h,h0.length,rb⟩):lpk cf n x22l16 K Q s:=by
 obtain⟨J,hJ⟩:∃J:Nat→SF→Prop,J=fun k s'=>∃j si,j+k=L.length∧s'.e 8=.c (.int .i64 j)∧s'.e 6=.sl (D.vs (H++(L.take j).map D.sy)) si∧GrowF 4 (D.vs (H++(L.take j).map D.sy)) si s'.h∧(∀q,si=.tok q→h0.length≤q)∧s'.h.take h0.length=h0∧s'.h[h0.length]?=some (.cells Z):=⟨_,rfl⟩
 refine aX J L.length hn (by rw[hJ];exact⟨0,si0,by simp,by simpa using e8,by simpa using e6,by simpa using hG0,hs0,htk,hz⟩) ?_;rintro k ⟨e,h',base,rb⟩ hj he hb;rw[hJ] at hj;obtain⟨j,si,hj,f8,f6,hG,hsq,ftk,fz⟩:=hj;have f0:e 0=_:=(he 0 rfl).trans e0;simp only at f8 f6 hG ftk fz hb;rw[hb0] at hb;subst hb;have hta:=iK ftk ht;have hTi:(0:Int)<T.length:=by omega
 have hvT:(dfV T)[0]'(by rw[da];exact hT)=.agg (dfC (T.getD 0 .z0)):=by
  rw[jD,List.getD_eq_getElem?_getD,gE hT];rfl
 have hdl:=da T;have hsl:=bI L;have hr5:=pU (T.getD 0 .z0);rw[← hL] at hr5;have hcl10:=jh (T.getD 0 .z0);generalize dfC (T.getD 0 .z0)=C10 at *;by_cases hm:j<L.length;rotate_left
 ·have hlt:¬(j:Int)<L.length:=by omega
  obtain rfl:j=L.length:=by omega
  rw[List.take_of_length_le (nL _)] at f6 hG;have hq':=fun e1 rb1 a b=>hq e1 h' rb1 si a b ftk fz
  simp -implicitDefEqProofs [x22l16_w,f0,f8,hta,hT,hTi,hvT,hdl,hr5,hcl10,hsl,hlt];refine hq' _ _ (fun t ht=>?_) (by simp[au,f6]);have hne:∀k,(dU x22l16).contains k=true→t≠k:=fun k hk e=>by rw[e,hk] at ht;cases ht
  simp only[au,if_neg (hne 51 rfl),if_neg (hne 52 rfl),if_neg (hne 53 rfl),if_neg (hne 54 rfl),if_neg (hne 55 rfl),if_neg (hne 56 rfl),if_neg (hne 57 rfl),if_neg (hne 58 rfl),if_neg (hne 59 rfl),if_neg (hne 60 rfl)];exact he t ht
 have hlt:(j:Int)<L.length:=by omega
 have hw:IntKind.i64.wrap ((j:Int)+1)=(j:Int)+1:=aB (by omega);have hvg:=nC hm;have htk2:D.vs (H++(L.take (j+1)).map D.sy)=D.vs (H++(L.take j).map D.sy)++[(D.sy L[j]).v]:=by
  rw[List.take_add_one,gE hm,List.map_append,← List.append_assoc,ai];rfl
 have hz1:=D.hz (H++(L.take j).map D.sy);have hul:(D.vs (H++(L.take j).map D.sy)).length=H.length+j:=by rw[aa,lA,List.length_map,List.length_take];omega
 have hj1:(H.length+j+1)*56≤140737488355328:=by omega
 have hj2:H.length+j+1≤140737488355328:=by omega
 obtain⟨L2,hL2⟩:∃L2,L2=D.vs (H++(L.take (j+1)).map D.sy):=⟨_,rfl⟩
 rw[← hL2] at htk2;have c65x:=c65 L[j];generalize L[j]=x at *;generalize D.sy x=gx at *;have hcl:=ab gx;generalize D.vs (H++(L.take j).map D.sy)=U at *;have htaR:=fun R=>bU hta R
 simp -implicitDefEqProofs [x22l16_w,f0,f6,f8,hta,↓htaR,hT,hTi,hvT,hdl,hr5,hcl10,hsl,hlt,hm,hvg,ae,c65x,hul,hz1,hj1,hj2];have hlen:h0.length≤h'.length:=by
  have:=congrArg List.length ftk;rw[List.length_take] at this;omega
 refine eI (zz:=some 4) h0.length (hG.app _) (q9 _ _ _) hsq (by omega) fun si' h'' hG' hl' hk ht' hs' _=>?_
 have k0:=hk _ _ (bU fz _);rw[List.take_append_of_le_length hlen,ftk] at ht';simp -implicitDefEqProofs [f8,hw];refine⟨k-1,by omega,?_⟩;rw[hJ];refine⟨j+1,si',by omega,by simp[au],?_,?_,hs',ht',k0⟩
 ·rw[← hL2,htk2];simp[au]
 ·rw[← hL2,htk2];exact hG'
def pd (g:D→D) (d:D):D × List ByteArray × D:=(d.kid 0,txs (d.kid 1).kids++txs (d.kid 2).kids,g d)
theorem GrowF.keep {z:Nat}{us:List V}{si:SI}{h h1:List O}(hG:GrowF z us si h) (hk:∀q,si=.tok q→q<h.length→h1[q]?=h[q]?):GrowF z us si h1:=by
 rcases hG with h2|h2|⟨q,h2,h3⟩
 ·exact .inl h2
 ·exact .inr (.inl h2)
 ·exact .inr (.inr ⟨q,h2,by rw[hk q h2 (gS.1 h3).1];exact h3⟩)
theorem Aa (U:List V) (si:SI):(V.sl U si).vwf.vw1=.sl U .any:=by cases si<;>rfl
theorem zX (U:List V) (si:SI):okc (V.sl U si).vwf=true:=by cases si<;>rfl
theorem tW (U:List V) (si:SI):(V.sl U si).vwf.cells=[(V.sl U si).vwf]:=by cases si<;>rfl
theorem Dc (l:List (D × List ByteArray × D)):Ab.hz 9 (d9V l)=true:=by
 cases l with
 | nil=>rfl
 | cons d l=>simp[Ab.hz,d9V,V.cells,om]
theorem BB {cf:aw}{n:Nat}{K:List Fr}{Q:Ex→SF→Prop}{s:SF}{T F a:List D}{P:List (D × List ByteArray × D)}{id:Nat}{s1 s2 ia:SI}{Z:List V}{h0:List O}{g:D→D}
  (c68:∀d∈T,∀h,cf 68 [(d.kid 3).v,.sl (D.vs a) ia] h=some ((g d).v,h)) (ht:dt h0 id (fg F) s1 T s2)
  (hTt:∀d∈T,(txs (d.kid 1).kids).length+(txs (d.kid 2).kids).length<1000000000)
  (hn:T.length<n) (hl:T.length<1000000000) (hP:P.length<10)
  (e0:s.e 0=.ref id 0) (e1:s.e 1=.sl (D.vs a) ia) (e9:s.e 9=.sl (d9V P) .full) (e10:s.e 10=.c (.int .i64 0))
  (hb0:s.base=h0.length) (htk:s.h.take h0.length=h0) (hz:s.h[h0.length]?=some (.cells Z))
  (hq:∀e h rb si,(∀t,(dU x22l23).contains t=false→e t=s.e t)→e 9=.sl (d9V (P++T.map (pd g))) si→h.take h0.length=h0→h[h0.length]?=some (.cells Z)→dI cf n K Q (.exit 6) ⟨e,h,h0.length,rb⟩):lpk cf n x22l23 K Q s:=by
 obtain⟨J,hJ⟩:∃J:Nat→SF→Prop,J=fun k s'=>∃j si,j+k=T.length∧s'.e 10=.c (.int .i64 j)∧s'.e 9=.sl (d9V (P++(T.take j).map (pd g))) si∧GrowF 9 (d9V (P++(T.take j).map (pd g))) si s'.h∧(∀q,si=.tok q→h0.length≤q)∧s'.h.take h0.length=h0∧s'.h[h0.length]?=some (.cells Z):=⟨_,rfl⟩
 refine aX J T.length hn (by rw[hJ];exact⟨0,.full,by simp,by simpa using e10,by simpa using e9,.full _ _ _,by simp,htk,hz⟩) ?_;rintro k ⟨e,h',base,rb⟩ hj he hb;rw[hJ] at hj;obtain⟨j,si,hj,f10,f9,hG,hsq,ftk,fz⟩:=hj;have f0:e 0=_:=(he 0 rfl).trans e0;have f1:e 1=_:=(he 1 rfl).trans e1;simp only at f10 f9 hG ftk fz hb;rw[hb0] at hb;subst hb;have hta:=iK ftk ht;have hdl:=da T;by_cases hm:j<T.length;rotate_left
 ·have hlt:¬(j:Int)<T.length:=by omega
  obtain rfl:j=T.length:=by omega
  rw[List.take_of_length_le (nL _)] at f9 hG;have hq':=fun e1 rb1 a b=>hq e1 h' rb1 si a b ftk fz
  simp -implicitDefEqProofs [x22l23_w,f0,f10,hta,hdl,hlt];refine hq' _ _ (fun t ht=>?_) (by simp[au,f9]);have hne:∀k,(dU x22l23).contains k=true→t≠k:=fun k hk e=>by rw[e,hk] at ht;cases ht
  simp only[au,if_neg (hne 90 rfl),if_neg (hne 91 rfl),if_neg (hne 92 rfl),if_neg (hne 93 rfl),if_neg (hne 94 rfl),if_neg (hne 95 rfl),if_neg (hne 96 rfl)];exact he t ht
 have hlt:(j:Int)<T.length:=by omega
 have hw:IntKind.i64.wrap ((j:Int)+1)=(j:Int)+1:=aB (by omega);have hvg:=jD (l:=T) (j:=j) (by rw[da];exact hm);have htk2:d9V (P++(T.take (j+1)).map (pd g))=d9V (P++(T.take j).map (pd g))++[.agg (d9C (pd g T[j]))]:=by
  rw[List.take_add_one,gE hm,List.map_append,← List.append_assoc];simp[d9V]
 have hz1:=Dc (P++(T.take j).map (pd g));have hul:(d9V (P++(T.take j).map (pd g))).length=P.length+j:=by rw[lS,lA,List.length_map,List.length_take];omega
 have hj1:(P.length+j+1)*136≤140737488355328:=by omega
 have hj2:P.length+j+1≤140737488355328:=by omega
 obtain⟨L2,hL2⟩:∃L2,L2=d9V (P++(T.take (j+1)).map (pd g)):=⟨_,rfl⟩
 rw[← hL2] at htk2;have c68x:=c68 _ (List.getElem_mem hm);have hTx:=hTt _ (List.getElem_mem hm);have hdv:d9C (pd g T[j])=((T[j]).kid 0).v.cells++([.sl (ss (txs ((T[j]).kid 1).kids)++ss (txs ((T[j]).kid 2).kids)) .any]++(g T[j]).v.cells):=by
  unfold d9C pd;rw[my]
 rw[hdv] at htk2;generalize T[j]=d at *;have hdc:=jh d;have r0:=vq d;have r4:=zV d;have r5:=pU d;have r6:=zw d;have rr:=Ep d;have hA:=x4 (txs (d.kid 1).kids);have hB:=x4 (txs (d.kid 2).kids);have lA:=bI (txs (d.kid 1).kids);have lB:=bI (txs (d.kid 2).kids);have b1:(txs (d.kid 1).kids).length*16≤140737488355328:=by omega
 have b2:(txs (d.kid 1).kids).length≤140737488355328:=by omega
 have b3:((txs (d.kid 1).kids).length+(txs (d.kid 2).kids).length)*16≤140737488355328:=by omega
 have b4:(txs (d.kid 1).kids).length+(txs (d.kid 2).kids).length≤140737488355328:=by omega
 generalize txs (d.kid 1).kids=A at *;generalize txs (d.kid 2).kids=B at *;generalize g d=gd at *;generalize (d.kid 3).v=v3 at *;generalize d.kid 0=d0 at *;obtain⟨k0,i0,t0,l0⟩:=d0;obtain⟨kg,ig,tg,lg⟩:=gd;generalize d9V (P++(T.take j).map (pd g))=U at *;generalize dfC d=C10 at *;have htaR:=fun R=>bU hta R
 have hsp:∀z:List V,z.length=10→bg z 0 C10=C10:=fun z hz=>by
  unfold bg;simp[hdc,hz]
 simp -implicitDefEqProofs [x22l23_w,f0,f1,f9,f10,hta,↓htaR,hdl,hlt,hm,hvg,hdc,hsp,r0,r4,r5,r6,rr,hA,hB,lA,lB,b1,b2];have hlen:h0.length≤h'.length:=by
  have:=congrArg List.length ftk;rw[List.length_take] at this;omega
 have hB6:(h'++[O.cells C10,O.tok 0 1,O.dead,O.dead,O.tok 1 9,O.dead]).take h'.length=h':=by rw[List.take_append_of_le_length (nL _),List.take_length]
 have hget:∀i,(h'++[O.cells C10,O.tok 0 1,O.dead,O.dead,O.tok 1 9,O.dead])[h'.length+i]?=[O.cells C10,O.tok 0 1,O.dead,O.dead,O.tok 1 9,O.dead][i]?:=fun i=>by
  rw[aR (by omega)];congr 1;omega
 have hG6:=hG.app [O.cells C10,O.tok 0 1,O.dead,O.dead,O.tok 1 9,O.dead];have fz6:(h'++[O.cells C10,O.tok 0 1,O.dead,O.dead,O.tok 1 9,O.dead])[h0.length]?=some (.cells Z):=bU fz _;have hlow:∀q,si=.tok q→q<h'.length:=fun q hq=>by
  have:=hG.low;rw[hq] at this;simpa[SI.low] using this
 generalize h'++[O.cells C10,O.tok 0 1,O.dead,O.dead,O.tok 1 9,O.dead]=hh at *;refine eI (zz:=none) h'.length (.full _ _ _) (show hh[h'.length+1+1]?=some .dead from hget 2) (by simp) (by omega) fun si1 h1 hG1 hl1 hk1 ht1 hs1 ho1=>?_
 have q0:=hk1 _ _ (hget 0);simp only[Nat.add_zero] at q0;have q3:h1[h'.length+1+2]?=some .dead:=(ho1 _ (by omega) (by simp)).trans (hget 3);have q5:h1[h'.length+1+4]?=some .dead:=(ho1 _ (by omega) (by simp)).trans (hget 5);have hG7:=hG6.keep (h1:=h1) fun q hq _=>ho1 q (by have:=hlow q hq;omega) (by simp)
 have fz7:=hk1 _ _ fz6;simp only[List.nil_append] at hG1;simp -implicitDefEqProofs [q0,r0,r4,r5,r6,hdc,hA,hB,lA,lB,b3,b4];refine eI (zz:=none) h'.length hG1 q3 hs1 (by omega) fun si2 h2 hG2 hl2 hk2 ht2 hs2 ho2=>?_
 have w0:=hk2 _ _ q0;have w5:h2[h'.length+1+4]?=some .dead:=by
  rw[ho2 _ (by omega) fun q hq=>?_]
  ·exact q5
  ·rcases hG1 with⟨_,h⟩|h|⟨q',h,hq'⟩
   ·rw[h] at hq;cases hq
   ·rw[h] at hq;cases hq
   ·rw[h] at hq;cases hq;intro e;rw[← e,q5] at hq';cases hq'
 have hG8:=hG7.keep (h1:=h2) fun q hq _=>ho2 q (by have:=hlow q hq;omega) fun q' hq' e=>by
  subst e;have hlt:=hlow q hq;have:=hs1 q hq';omega
 have fz8:=hk2 _ _ fz7;have x1:=zX (ss A++ss B) si2;have x2:=tW (ss A++ss B) si2;have x3:=Aa (ss A++ss B) si2;have hcv:C10=C10:=rfl;simp -implicitDefEqProofs [w0,r6,hdc,f1,c68x,D.v,x1,x2,x3,hz1,hul,hj1,hj2];refine eI (zz:=some 9) h0.length hG8 w5 hsq (by omega) fun si3 h3 hG3 hl3 hk3 ht3 hs3 ho3=>?_
 have fz9:=hk3 _ _ fz8;have ht4:h3.take h0.length=h0:=by
  have e2:h2.take h'.length=h':=by rw[ht2,ht1,hB6]
  have e3:h2.take h0.length=h'.take h0.length:=by
   have:=congrArg (List.take h0.length) e2;rw[List.take_take,Nat.min_eq_left hlen] at this;exact this
  rw[ht3,e3,ftk]
 simp only[D.v,V.cells,List.cons_append,List.nil_append] at htk2;simp -implicitDefEqProofs [f10,hw];refine⟨k-1,by omega,?_⟩;rw[hJ];refine⟨j+1,si3,by omega,by simp[au],?_,?_,hs3,ht4,fz9⟩
 ·rw[← hL2,htk2];simp[au]
 ·rw[← hL2,htk2];exact hG3
def jX (T F a:List D):List D:=([.sy wdC,(T.getD 0 .z0).kid 0]++F.map (eh a))++(txs ((T.getD 0 .z0).kid 2).kids).map D.sy
def pl0 (T F a:List D) (m:Nat):D × List ByteArray × D:=(.nb m,txs ((T.getD 0 .z0).kid 2).kids,.lst (jX T F a))
def plL (T F a:List D) (g:D→D) (m:Nat):List (D × List ByteArray × D):=[pl0 T F a m]++T.map (pd g)
def plD (T F a:List D) (g:D→D) (m:Nat):D:=.lst ((plL T F a g m).map d9D)
theorem HO {h:List O}{id:Nat}{F T a:List D}{s1 s2:SI}(ht:dt h id (fg F) s1 T s2) (hh:aU h) (hT:0<T.length){m:Nat}(hsp:spN T m){g:D→D}{n:Nat}{ia:SI}
  (c68:∀d∈T,∀h,call X E (n+4) 68 [(d.kid 3).v,.sl (D.vs a) .any] h=some ((g d).v,h))
  (hx:∀d∈T,2*(d.kid 0).sz+2≤n∧(d.kid 0).sz<4611686018427387904)
  (hTt:∀d∈T,(txs (d.kid 1).kids).length+(txs (d.kid 2).kids).length<1000000000∧(txs (d.kid 1).kids).length+(txs (d.kid 2).kids).length<n)
  (hn:T.length+1<n) (hl:T.length<1000000000) (hF:∀x∈F,0≤x.nu∧x.nu<a.length) (hFl:F.length<n∧F.length<100000000) (ha:V.lows 0 (D.vs a)=true) :
  call X E (n+5) 22 [.ref id 0,.sl (D.vs a) ia] h=some ((plD T F a g m).v,h):=by
 obtain⟨h1,hh1⟩:∃h1,h1=h++[O.cells [.c (.int .i64 0),.c (.int .i64 0),.c (.string ⟨#[]⟩),.sl [] .nil]]:=⟨_,rfl⟩
 have hlo1:aU h1:=by
  rw[hh1];exact nV hh (by simp[O.low,V.lows,V.low,SI.low])
 have hta1:dt h1 id (fg F) s1 T s2:=by rw[hh1];exact bU ht _
 have c38:∀j:Nat,call X E (n+4) 38 [.ref id 0,(D.nb j).v] h1=some (.c (.int .i64 (fix (fun d=>(d.kid 0).same (.nb j)) T 0)),h1):=fun j=>Fj hta1 (.nb j) hlo1 (n:=n+3) (fun d hd=>⟨by have:=(hx d hd).1;omega,(hx d hd).2⟩) (by omega) (by omega)
 have c64:∀k h,call X E (n+4) 64 [.c (.int .i64 k)] h=some ((D.nb k).v,h):=fun k=>Ig k
 have c65:∀t h,call X E (n+4) 65 [.c (.string t)] h=some ((D.sy t).v,h):=fun t=>GI t
 have c66:∀d h,call X E (n+4) 66 [d.v] h=some ((qd d).v,h):=fun d=>Ha d
 have c67:∀(l:List D) i h,l.length<100000000000→call X E (n+4) 67 [.sl (D.vs l) i] h=some ((D.lst l).v,h):=fun l i h hl=>Cs l i hl h
 have hd0:T.getD 0 .z0∈T:=by
  rw[List.getD_eq_getElem?_getD,gE hT];exact List.getElem_mem _
 obtain⟨hL1,hL2⟩:=hTt _ hd0;have hLl:(txs ((T.getD 0 .z0).kid 2).kids).length<n∧(txs ((T.getD 0 .z0).kid 2).kids).length<1000000000:=⟨by omega,by omega⟩
 have c69:∀i h,call X E (n+4) 69 [.sl (d9V (plL T F a g m)) i] h=some ((plD T F a g m).v,h):=fun i h=>HF (plL T F a g m) i (by simp[plL];omega) (n:=n+1) (by simp[plL];omega) (fun p hp=>by
  rcases List.mem_append.1 hp with hp|hp
  ·obtain rfl:p=pl0 T F a m:=by simpa using hp
   simp only[pl0];exact⟨by omega,by omega⟩
  ·obtain⟨d,hd,rfl⟩:=List.mem_map.1 hp;have:=hTt d hd;simp only[pd,lA];exact⟨by omega,by omega⟩) h
 have hml:(jX T F a).length<100000000000:=by
  unfold jX;simp only[lA,List.length_map,lC,List.length_nil];omega
 have c67m:=fun si h=>c67 (jX T F a) si h hml
 have hvl:=iB (Nat.zero_le h.length) _ (pZ (plD T F a g m));have hvw:=D.vw (plD T F a g m);refine d6 rfl rfl rfl (by kernel_rfl) ⟨rfl,rfl⟩ hvl hh ?_;generalize hm3:n+4=M at *;generalize call X E M=cf at *;have hr2:(V.ref id 0).vw2=.ref id 0:=rfl;simp -implicitDefEqProofs [x22_w,aD];rw[← hh1];refine Ay (T:=T) (id:=id) (m:=m) c64 (fun j=>c38 j) hsp (by omega) hl (by simp[au,bD]) (by simp[au]) ?_;intro e rb he e5;have e0:=he 0 rfl;have e1:=he 1 rfl;have e4:=he 4 rfl;simp[au,bD,aD] at e0 e1 e4;have hta0:h1[id]?=some (.cells [.sl (fg F) s1,.sl (dfV T) s2]):=hta1;have hTi:(0:Int)<T.length:=by omega
 have hvT:(dfV T)[0]'(by rw[da];exact hT)=.agg (dfC (T.getD 0 .z0)):=by
  rw[jD,List.getD_eq_getElem?_getD,gE hT];rfl
 have hdl:=da T;have hr5:=pU (T.getD 0 .z0);have hr0:=vq (T.getD 0 .z0);have hcl10:=jh (T.getD 0 .z0);have c65C:=c65 wdC;have hM:jX T F a=([.sy wdC,(T.getD 0 .z0).kid 0]++F.map (eh a))++(txs ((T.getD 0 .z0).kid 2).kids).map D.sy:=rfl;have hP:pl0 T F a m=(.nb m,txs ((T.getD 0 .z0).kid 2).kids,.lst (jX T F a)):=rfl;have htk1:h1.take h.length=h:=by rw[hh1,List.take_append_of_le_length (nL _),List.take_length]
 have hz1:h1[h.length]?=some (.cells [.c (.int .i64 0),.c (.int .i64 0),.c (.string ⟨#[]⟩),.sl [] .nil]):=by rw[hh1];exact qf _ _
 have hta1R:=fun R=>bU hta0 R
 generalize hqc:D.sy wdC=qc at *;unfold wdC at c65C;generalize hd00:T.getD 0 .z0=d0 at *;simp -implicitDefEqProofs [e0,e1,e4,e5,c65C,hta0,↓hta1R,hT,hTi,hvT,hdl,hr0,hcl10,ae];have hqq:D.vs [qc,d0.kid 0]=[qc.v,(d0.kid 0).v]:=rfl;refine BD (T:=T) (F:=F) (a:=a) (H:=[qc,d0.kid 0]) (id:=id) (s1:=s1) (s2:=s2) (ia:=.any) (h0:=h) (Z:=[.c (.int .i64 0),.c (.int .i64 0),.c (.string ⟨#[]⟩),.sl [] .nil]) c66 ht hF (by omega) (by omega) (by simp) (by simp[au,e0]) (by simp[au,e1]) (by rw[hqq];simp[au]) (by simp[au]) rfl ?_ ?_ ?_
 ·show (h1++[O.tok 2 4]).take h.length=h;rw[hh1,List.append_assoc,List.take_append_of_le_length (nL _),List.take_length]
 ·exact bU hz1 _
 intro eb hb rbb sib heb e6b hGb hsb htb hzb;have b0:=heb 0 rfl;have b1:=heb 1 rfl;have b4:=heb 4 rfl;have b5:=heb 5 rfl;simp[au,e0,e1,e4,e5] at b0 b1 b4 b5;simp -implicitDefEqProofs [];refine AO (T:=T) (F:=F) (H:=[qc,d0.kid 0]++F.map (eh a)) (id:=id) (s1:=s1) (s2:=s2) (h0:=h) (Z:=[.c (.int .i64 0),.c (.int .i64 0),.c (.string ⟨#[]⟩),.sl [] .nil]) (L:=txs (d0.kid 2).kids) c65 ht hT (by rw[hd00]) (by omega) (by omega) (by simp;omega) (by simp[au,b0]) (by simp only[au];simpa using e6b) hGb hsb (by simp[au]) rfl htb hzb ?_;intro ec hc rbc sic hec e6c htc hzc;have g0:=hec 0 rfl;have g1:=hec 1 rfl;have g4:=hec 4 rfl;have g5:=hec 5 rfl;simp[au,b0,b1,b4,b5] at g0 g1 g4 g5;rw[← hM] at e6c;have htac:=iK htc ht;have htac0:hc[id]?=some (.cells [.sl (fg F) s1,.sl (dfV T) s2]):=htac;have htacR:=fun R=>bU htac0 R
 have c67x:=c67m sic;have c64m:=c64 m;have hpc:=om (pl0 T F a m);have hpp:d9C (pl0 T F a m)=(D.nb m).v.cells++([.sl (ss (txs (d0.kid 2).kids)) .any]++(D.lst (jX T F a)).v.cells):=by
  rw[hP];rfl
 have hpv:d9V [pl0 T F a m]=[.agg ((D.nb m).v.cells++([.sl (ss (txs (d0.kid 2).kids)) .any]++(D.lst (jX T F a)).v.cells))]:=by
  rw[← hpp];rfl
 generalize txs (d0.kid 2).kids=L at *;generalize hMM:D.lst (jX T F a)=MM at *;generalize hNN:D.nb m=NN at *;obtain⟨km,im,tm,lm⟩:=MM;obtain⟨kn,i_n,tn,ln⟩:=NN;simp -implicitDefEqProofs [g0,g4,g5,e6c,c64m,htac0,↓htacR,hT,hTi,hvT,hdl,hr5,hcl10,c67x,D.v];refine BB (T:=T) (F:=F) (a:=a) (P:=[pl0 T F a m]) (id:=id) (s1:=s1) (s2:=s2) (ia:=.any) (h0:=h) (Z:=[.c (.int .i64 0),.c (.int .i64 0),.c (.string ⟨#[]⟩),.sl [] .nil]) (g:=g) c68 ht (fun d hd=>(hTt d hd).1) (by omega) (by omega) (by simp) (by simp[au,g0]) (by simp[au,g1]) (by rw[hpv];simp[au,D.v,V.cells]) (by simp[au]) rfl ?_ ?_ ?_
 ·have hlen:h.length≤hc.length:=by
   have:=congrArg List.length htc;rw[List.length_take] at this;omega
  show (hc++[O.tok 1 9]).take h.length=h;rw[List.take_append_of_le_length hlen,htc]
 ·exact bU hzc _
 intro ed hd rbd sid hed e9 htd hzd;have i4:=hed 4 rfl;simp[au,g4] at i4;rw[show [pl0 T F a m]++T.map (pd g)=plL T F a g m from rfl] at e9;have c69x:=c69 sid;have ks:=fun o=>bP hzd o
 have hts:∀o,(hd.set h.length o).take h.length=h:=fun o=>by rw[List.take_set_of_le (nL _),htd]
 generalize plD T F a g m=R at *;simp -implicitDefEqProofs [x22_r,i4,e9,c69x,ae,↓hzd,↓ks,hvw,hts]
def odD (g:D→D) (d:D):D:=.lst [d.kid 0,.lst ((d.kid 1).kids++(d.kid 2).kids),g d]
theorem AM {cf:aw}{n:Nat}{K:List Fr}{Q:Ex→SF→Prop}{s:SF}{F a H:List D}{ia iF:SI}{w0 w1 w2:List V}
  (c58:∀d h,cf 58 [.c (.string ⟨#[113,117,111,116,101]⟩),.sl [d.v] .full] h=some ((qd d).v,h))
  (hF:∀x∈F,0≤x.nu∧x.nu<a.length) (hn:F.length<n) (hl:F.length<1000000000) (hH:H.length<10)
  (e1:s.e 1=.sl (D.vs a) ia) (e39:s.e 39=.sl (D.vs F) iF) (e40:s.e 40=.c (.int .i64 F.length)) (e8:s.e 8=.sl (D.vs H) .full) (e41:s.e 41=.c (.int .i64 0))
  (hb0:s.base=0) (h0:s.h[0]?=some (.cells w0)) (h1:s.h[1]?=some (.cells w1)) (h2:s.h[2]?=some (.cells w2))
  (hq:∀e h rb si,(∀t,(dU x20l14).contains t=false→e t=s.e t)→e 8=.sl (D.vs (H++F.map (eh a))) si→GrowF 4 (D.vs (H++F.map (eh a))) si h→h[0]?=some (.cells w0)→h[1]?=some (.cells w1)→h[2]?=some (.cells w2)→dI cf n K Q (.exit 0) ⟨e,h,0,rb⟩):lpk cf n x20l14 K Q s:=by
 obtain⟨J,hJ⟩:∃J:Nat→SF→Prop,J=fun k s'=>∃j si,j+k=F.length∧s'.e 41=.c (.int .i64 j)∧s'.e 8=.sl (D.vs (H++(F.take j).map (eh a))) si∧GrowF 4 (D.vs (H++(F.take j).map (eh a))) si s'.h∧s'.h[0]?=some (.cells w0)∧s'.h[1]?=some (.cells w1)∧s'.h[2]?=some (.cells w2):=⟨_,rfl⟩
 refine aX J F.length hn (by rw[hJ];exact⟨0,.full,by simp,by simpa using e41,by simpa using e8,.full _ _ _,h0,h1,h2⟩) ?_;rintro k ⟨e,h',base,rb⟩ hj he hb;rw[hJ] at hj;obtain⟨j,si,hj,f41,f8,hG,f0,f1,f2⟩:=hj;have g1:e 1=_:=(he 1 rfl).trans e1;have g39:e 39=_:=(he 39 rfl).trans e39;have g40:e 40=_:=(he 40 rfl).trans e40;simp only at f41 f8 hG f0 f1 f2 hb;rw[hb0] at hb;subst hb;have hsl:=aa F;by_cases hm:j<F.length;rotate_left
 ·have hlt:¬(j:Int)<F.length:=by omega
  obtain rfl:j=F.length:=by omega
  rw[List.take_of_length_le (nL _)] at f8 hG;have hq':=fun e1 rb1 a b=>hq e1 h' rb1 si a b hG f0 f1 f2
  simp -implicitDefEqProofs [x20l14_w,g40,f41,hlt];refine hq' _ _ (fun t ht=>?_) (by simp[au,f8]);have hne:∀k,(dU x20l14).contains k=true→t≠k:=fun k hk e=>by rw[e,hk] at ht;cases ht
  simp only[au,if_neg (hne 42 rfl)];exact he t ht
 have hlt:(j:Int)<F.length:=by omega
 have hw:IntKind.i64.wrap ((j:Int)+1)=(j:Int)+1:=aB (by omega);have hvg:(D.vs F)[j]'(by rw[aa];omega)=(F[j]).v:=ac _;obtain⟨hn0,hn1⟩:=hF _ (List.getElem_mem hm);have htk2:D.vs (H++(F.take (j+1)).map (eh a))=D.vs (H++(F.take j).map (eh a))++[(eh a F[j]).v]:=by
  rw[List.take_add_one,gE hm,List.map_append,← List.append_assoc,ai];rfl
 have hz1:=D.hz (H++(F.take j).map (eh a));have hul:(D.vs (H++(F.take j).map (eh a))).length=H.length+j:=by rw[aa,lA,List.length_map,List.length_take];omega
 have hj1:(H.length+j+1)*56≤140737488355328:=by omega
 have hj2:H.length+j+1≤140737488355328:=by omega
 obtain⟨L2,hL2⟩:∃L2,L2=D.vs (H++(F.take (j+1)).map (eh a)):=⟨_,rfl⟩
 rw[← hL2] at htk2;have hal:=aa a;have hnl:(F[j]).nu.toNat<a.length:=by omega
 have hva:(D.vs a)[(F[j]).nu.toNat]'(by rw[hal];exact hnl)=(a.getD (F[j]).nu.toNat .z0).v:=by
  rw[ac,List.getD_eq_getElem?_getD,gE hnl];rfl
 have c58x:=c58 (a.getD (F[j]).nu.toNat .z0);rw[show qd (a.getD (F[j]).nu.toNat .z0)=eh a F[j] from rfl] at c58x;generalize F[j]=x at *;generalize a.getD x.nu.toNat .z0=y at *;generalize eh a x=gx at *;have hcl:=ab gx;generalize D.vs (H++(F.take j).map (eh a))=U at *;simp -implicitDefEqProofs [x20l14_w,g1,g39,g40,f8,f41,hlt,hm,hsl,hvg,hal,hn0,hn1,hnl,hva,ae,c58x,hul,hz1,hj1,hj2];have hd3:∀A B C E:O,(h'++[A,B,C,E])[h'.length+1+2]?=some E:=fun A B C E=>by
  rw[aR (by omega),show h'.length+1+2-h'.length=3 by omega];rfl
 refine bp (zz:=some 4) (hG.app _) (.inl (hd3 _ _ _ _)) fun si' h'' hG' hl' hk hlo hnf=>?_
 have k0:=hk 0 _ (bU f0 _);have k1:=hk 1 _ (bU f1 _);have k2:=hk 2 _ (bU f2 _);simp -implicitDefEqProofs [f41,hw];refine⟨k-1,by omega,?_⟩;rw[hJ];refine⟨j+1,si',by omega,by simp[au],?_,?_,k0,k1,k2⟩
 ·rw[← hL2,htk2];simp[au]
 ·rw[← hL2,htk2];exact hG'
theorem BJ {cf:aw}{n:Nat}{K:List Fr}{Q:Ex→SF→Prop}{s:SF}{T a H:List D}{ia iT:SI}{g:D→D}{sx:D→SI}{w0 w1:List V}
  (c59:∀(l:List D) i h,cf 59 [.sl (D.vs l) i] h=some ((D.lst l).v,h))
  (c61:∀d∈T,∀h,cf 61 [.sl [.sl (D.vs (d.kid 1).kids) .any,.sl (D.vs (d.kid 2).kids) .any] .full] h=some (.sl (D.vs ((d.kid 1).kids++(d.kid 2).kids)) (sx d),h))
  (c62:∀d∈T,∀h,cf 62 [(d.kid 3).v,.sl (D.vs a) ia] h=some ((g d).v,h)) (h4:∀d∈T,d.kids.length=4)
  (hn:T.length<n) (hl:T.length<1000000000) (hH:H.length<10)
  (e1:s.e 1=.sl (D.vs a) ia) (e75:s.e 75=.sl (D.vs T) iT) (e76:s.e 76=.c (.int .i64 T.length)) (e11:s.e 11=.sl (D.vs H) .full) (e77:s.e 77=.c (.int .i64 0))
  (hb0:s.base=0) (h0:s.h[0]?=some (.cells w0)) (h1:s.h[1]?=some (.cells w1))
  (hq:∀e h rb si,(∀t,(dU x20l21).contains t=false→e t=s.e t)→e 11=.sl (D.vs (H++T.map (odD g))) si→h[0]?=some (.cells w0)→h[1]?=some (.cells w1)→dI cf n K Q (.exit 2) ⟨e,h,0,rb⟩):lpk cf n x20l21 K Q s:=by
 obtain⟨J,hJ⟩:∃J:Nat→SF→Prop,J=fun k s'=>∃j si,j+k=T.length∧s'.e 77=.c (.int .i64 j)∧s'.e 11=.sl (D.vs (H++(T.take j).map (odD g))) si∧GrowF 4 (D.vs (H++(T.take j).map (odD g))) si s'.h∧s'.h[0]?=some (.cells w0)∧s'.h[1]?=some (.cells w1):=⟨_,rfl⟩
 refine aX J T.length hn (by rw[hJ];exact⟨0,.full,by simp,by simpa using e77,by simpa using e11,.full _ _ _,h0,h1⟩) ?_;rintro k ⟨e,h',base,rb⟩ hj he hb;rw[hJ] at hj;obtain⟨j,si,hj,f77,f11,hG,f0,f1⟩:=hj;have g1:e 1=_:=(he 1 rfl).trans e1;have g75:e 75=_:=(he 75 rfl).trans e75;have g76:e 76=_:=(he 76 rfl).trans e76;simp only at f77 f11 hG f0 f1 hb;rw[hb0] at hb;subst hb;have hsl:=aa T;by_cases hm:j<T.length;rotate_left
 ·have hlt:¬(j:Int)<T.length:=by omega
  obtain rfl:j=T.length:=by omega
  rw[List.take_of_length_le (nL _)] at f11 hG;have hq':=fun e1 rb1 a b=>hq e1 h' rb1 si a b f0 f1
  simp -implicitDefEqProofs [x20l21_w,g76,f77,hlt];refine hq' _ _ (fun t ht=>?_) (by simp[au,f11]);have hne:∀k,(dU x20l21).contains k=true→t≠k:=fun k hk e=>by rw[e,hk] at ht;cases ht
  simp only[au,if_neg (hne 78 rfl)];exact he t ht
 have hlt:(j:Int)<T.length:=by omega
 have hw:IntKind.i64.wrap ((j:Int)+1)=(j:Int)+1:=aB (by omega);have hvg:(D.vs T)[j]'(by rw[aa];omega)=(T[j]).v:=ac _;have htk2:D.vs (H++(T.take (j+1)).map (odD g))=D.vs (H++(T.take j).map (odD g))++[(odD g T[j]).v]:=by
  rw[List.take_add_one,gE hm,List.map_append,← List.append_assoc,ai];rfl
 have hz1:=D.hz (H++(T.take j).map (odD g));have hul:(D.vs (H++(T.take j).map (odD g))).length=H.length+j:=by rw[aa,lA,List.length_map,List.length_take];omega
 have hj1:(H.length+j+1)*56≤140737488355328:=by omega
 have hj2:H.length+j+1≤140737488355328:=by omega
 obtain⟨L2,hL2⟩:∃L2,L2=D.vs (H++(T.take (j+1)).map (odD g)):=⟨_,rfl⟩
 rw[← hL2] at htk2;have c61x:=c61 _ (List.getElem_mem hm);have c62x:=c62 _ (List.getElem_mem hm);have hk4:=h4 _ (List.getElem_mem hm);have c59a:=c59 (((T[j]).kid 1).kids++((T[j]).kid 2).kids) (sx T[j]);have c59b:=c59 [(T[j]).kid 0,.lst (((T[j]).kid 1).kids++((T[j]).kid 2).kids),g T[j]] .full;rw[show D.lst [(T[j]).kid 0,.lst (((T[j]).kid 1).kids++((T[j]).kid 2).kids),g T[j]]=odD g T[j] from rfl] at c59b;have c59c:∀h,cf 59 [.sl [((T[j]).kid 0).v,(D.lst (((T[j]).kid 1).kids++((T[j]).kid 2).kids)).v,(g T[j]).v] .full] h=some ((odD g T[j]).v,h):=c59b;generalize T[j]=x at *;have v0:((D.vs x.kids)[0]'(by rw[aa];omega))=(x.kid 0).v:=ah _;have v1:((D.vs x.kids)[1]'(by rw[aa];omega))=(x.kid 1).v:=ah _;have v2:((D.vs x.kids)[2]'(by rw[aa];omega))=(x.kid 2).v:=ah _;have v3:((D.vs x.kids)[3]'(by rw[aa];omega))=(x.kid 3).v:=ah _;have hxl:=aa x.kids;rw[hk4] at hxl;generalize odD g x=gx at *;generalize D.lst ((x.kid 1).kids++(x.kid 2).kids)=AB at *;generalize D.vs ((x.kid 1).kids++(x.kid 2).kids)=ABv at *;generalize g x=gg at *;have hcl:=ab gx;generalize D.vs (H++(T.take j).map (odD g))=U at *;simp -implicitDefEqProofs [x20l21_w,g1,g75,g76,f11,f77,hlt,hm,hsl,hvg,hk4,hxl,v0,v1,v2,v3,ae,c61x,c62x,c59a,c59c,hul,hz1,hj1,hj2];have hd4:∀A B C E F:O,(h'++[A,B,C,E,F])[h'.length+1+3]?=some F:=fun A B C E F=>by
  rw[aR (by omega),show h'.length+1+3-h'.length=4 by omega];rfl
 refine bp (zz:=some 4) (hG.app _) (.inl (hd4 _ _ _ _ _)) fun si' h'' hG' hl' hk hlo hnf=>?_
 have k0:=hk 0 _ (bU f0 _);have k1:=hk 1 _ (bU f1 _);simp -implicitDefEqProofs [f77,hw];refine⟨k-1,by omega,?_⟩;rw[hJ];refine⟨j+1,si',by omega,by simp[au],?_,?_,k0,k1⟩
 ·rw[← hL2,htk2];simp[au]
 ·rw[← hL2,htk2];exact hG'
def ouM (T F a:List D):List D:=([(T.getD 0 .z0).kid 0]++F.map (eh a))++((T.getD 0 .z0).kid 2).kids
def ouP (T F a:List D) (g:D→D) (m:Nat):List D:=[.lst [.nb m,(T.getD 0 .z0).kid 2,.lst (.sy wdC::ouM T F a)]]++T.map (odD g)
theorem z0v:D.z0.v=.agg [.c (.int .i64 0),.c (.int .i64 0),.c (.string ⟨#[]⟩),.sl [] .any]:=rfl
theorem FT (t:D) (a:List D) (ia:SI) (hs:t.sz<1000000000) (h0:t.tck≠0){n:Nat}(hn:12*t.sz+401≤n):aV (n+1) 20 [t.v,.sl (D.vs a) ia] (.tup [D.z0.v,.c (.int .i64 t.tck)]):=by
 have c16:∀h,call X E n 16 [t.v] h=some (.c (.int .i64 t.tck),h):=by
  obtain⟨n,rfl⟩:∃n',n=n'+1:=⟨n-1,by omega⟩
  exact F8 t hs (by omega)
 have hlowa:=D.lows 0 a;refine azz (by simp[aD,V.lows,V.low,SI.low,hlowa]) ?_;have h0b:(t.tck != 0)=true:=by simp[h0]
 generalize t.tck=r at *;generalize call X E n=cf at *;rw[z0v];simp -implicitDefEqProofs [x20_w,x20_r,ae,c16,h0b,V.low,V.lows,SI.low]
theorem Fg (t:D) (a:List D) (ia:SI) (hs:t.sz<1000000000) (h0:t.tck=0){n:Nat}(hn:12*t.sz+401≤n) (c57:∀h,call X E n 57 [t.v,.sl (D.vs a) .any] h=some (.c (.bool false),h)):aV (n+1) 20 [t.v,.sl (D.vs a) ia] (.tup [D.z0.v,.c (.int .i64 2)]):=by
 have c16:∀h,call X E n 16 [t.v] h=some (.c (.int .i64 0),h):=by
  obtain⟨n,rfl⟩:∃n',n=n'+1:=⟨n-1,by omega⟩
  have:=F8 t hs (n:=n) (by omega);rw[h0] at this;exact this
 have hlowa:=D.lows 0 a;refine azz (by simp[aD,V.lows,V.low,SI.low,hlowa]) ?_;generalize call X E n=cf at *;rw[z0v];simp -implicitDefEqProofs [x20_w,x20_r,aD,ae,c16,c57,V.low,V.lows,SI.low]
theorem E8 (t:D) (a:List D) (ia:SI){T F:List D}(hT:T=t.kids.drop 1) (hF:F=(t.kid 0).kids) (hTp:0<T.length) (hk:2≤t.kids.length) (h4:∀d∈T,d.kids.length=4){g:D→D}{m N:Nat}{sx:D→SI}{P:D}(hP:P=.lst (ouP T F a g m))
  (c16:∀h,call X E N 16 [t.v] h=some (.c (.int .i64 0),h)) (c57:∀h,call X E N 57 [t.v,.sl (D.vs a) .any] h=some (.c (.bool true),h))
  (c60:∀h,call X E N 60 [t.v] h=some ((D.nb m).v,h)) (c58:∀t l i h,l.length<100000000000→call X E N 58 [.c (.string t),.sl (D.vs l) i] h=some ((D.lst (.sy t::l)).v,h))
  (c59:∀(l:List D) i h,call X E N 59 [.sl (D.vs l) i] h=some ((D.lst l).v,h))
  (c61:∀d∈T,∀h,call X E N 61 [.sl [.sl (D.vs (d.kid 1).kids) .any,.sl (D.vs (d.kid 2).kids) .any] .full] h=some (.sl (D.vs ((d.kid 1).kids++(d.kid 2).kids)) (sx d),h))
  (c62:∀d∈T,∀h,call X E N 62 [(d.kid 3).v,.sl (D.vs a) .any] h=some ((g d).v,h)) (c63:∀h,call X E N 63 [P.v] h=some (P.v,h)) (c46:∀h,call X E N 46 [P.v] h=some (.c (.int .i64 P.ck),h))
  (hFn:∀x∈F,0≤x.nu∧x.nu<a.length) (hn:T.length<N∧F.length<N) (hl:T.length<100000000∧F.length<100000000) (hl2:((T.getD 0 .z0).kid 2).kids.length<100000000) :
  aV (N+1) 20 [t.v,.sl (D.vs a) ia] (if 4000<T.length+1∨P.ck≠0 then .tup [D.z0.v,.c (.int .i64 3)] else .tup [P.v,.c (.int .i64 0)]):=by
 have hlowa:=D.lows 0 a;refine azz (by simp[aD,V.lows,V.low,SI.low,hlowa]) ?_;have hdm:T.getD 0 .z0∈T:=by
  rw[List.getD_eq_getElem?_getD,gE hTp];exact List.getElem_mem _
 have hd4:=h4 _ hdm;have hvt1:((D.vs t.kids)[1]'(by rw[aa];omega))=(T.getD 0 .z0).v:=by
  rw[ah,hT];congr 1;simp only[D.kid,List.getD_eq_getElem?_getD,List.getElem?_drop]
 have hvt0:((D.vs t.kids)[0]'(by rw[aa];omega))=(t.kid 0).v:=ah _;have hou:ouP T F a g m=[.lst [.nb m,(T.getD 0 .z0).kid 2,.lst (.sy wdC::ouM T F a)]]++T.map (odD g):=rfl;have houM:ouM T F a=([(T.getD 0 .z0).kid 0]++F.map (eh a))++((T.getD 0 .z0).kid 2).kids:=rfl;have houl:(ouP T F a g m).length=T.length+1:=by rw[hou];simp
 obtain⟨RR,hRR⟩:∃RR:V,RR=if 4000<T.length+1∨P.ck≠0 then .tup [D.z0.v,.c (.int .i64 3)] else .tup [P.v,.c (.int .i64 0)]:=⟨_,rfl⟩
 rw[← hRR];generalize T.getD 0 .z0=d0 at *;have v0:((D.vs d0.kids)[0]'(by rw[aa];omega))=(d0.kid 0).v:=ah _;have v2:((D.vs d0.kids)[2]'(by rw[aa];omega))=(d0.kid 2).v:=ah _;have hsd:=aa d0.kids;have hst:=aa t.kids;rw[hd4] at hsd;have hki0:(0:Int)<t.kids.length:=by omega
 have hk0:0<t.kids.length:=by omega
 have hki1:(1:Int)<t.kids.length:=by omega
 have hk1:1<t.kids.length:=by omega
 have hsF:=aa F;have c58q:∀d h,call X E N 58 [.c (.string ⟨#[113,117,111,116,101]⟩),.sl [d.v] .full] h=some ((qd d).v,h):=fun d h=>c58 _ [d] .full h (by simp)
 generalize call X E N=cf at *;have hwt:=t;have hF2:(D.vs (t.kid 0).kids)=D.vs F:=by rw[hF]
 have hFl:(t.kid 0).kids.length=F.length:=by rw[hF]
 simp -implicitDefEqProofs [x20_w,aD,ae,c16,c57,hst,hk0,hki0,hk1,hki1,hvt0,hvt1,hsd,v0,hF2,hsF];refine AM (F:=F) (a:=a) (H:=[d0.kid 0]) (ia:=.any) (iF:=.any) (w0:=t.v.cells) (w1:=[.c (.int .i64 0),.c (.int .i64 0),.c (.string ⟨#[]⟩),.sl [] .nil]) (w2:=d0.v.cells) c58q hFn hn.2 (by omega) (by simp) (by simp[au,bD,aD]) (by simp[au]) (by simp[au]) (by simp[au,D.vs]) (by simp[au]) rfl rfl rfl rfl ?_;intro eb hb rbb sib heb e8 hGb b0 b1 b2;have i1:=heb 1 rfl;have i2:=heb 2 rfl;have i4:=heb 4 rfl;have i7:=heb 7 rfl;simp[au,bD,aD] at i1 i2 i4 i7;have hzU:=D.hz ([d0.kid 0]++F.map (eh a));have hUl:=aa ([d0.kid 0]++F.map (eh a));have hUl2:([d0.kid 0]++F.map (eh a)).length=1+F.length:=by simp;omega
 rw[hUl2] at hUl;have hWz:=D.hz (d0.kid 2).kids;have hWl:=aa (d0.kid 2).kids;have hvo:D.vs (ouM T F a)=D.vs ([d0.kid 0]++F.map (eh a))++D.vs (d0.kid 2).kids:=by rw[houM,ai]
 have hol:(ouM T F a).length<100000000000:=by
  rw[← aa,hvo,lA,hUl,hWl];omega
 have c58M:=fun i h=>c58 wdC (ouM T F a) i h hol
 rw[hvo] at c58M;unfold wdC at c58M hou;obtain⟨ff,hff⟩:∃ff,ff=D.lst [.nb m,d0.kid 2,.lst (.sy ⟨#[99,97,108,108]⟩::ouM T F a)]:=⟨_,rfl⟩
 have c59f:∀h,cf 59 [.sl [(D.nb m).v,(d0.kid 2).v,(D.lst (.sy ⟨#[99,97,108,108]⟩::ouM T F a)).v] .full] h=some (ff.v,h):=fun h=>by rw[hff];exact c59 [.nb m,d0.kid 2,.lst (.sy ⟨#[99,97,108,108]⟩::ouM T F a)] .full h
 rw[← hff] at hou;have c59P:=c59 (ouP T F a g m);rw[← hP] at c59P;rw[hou] at c59P houl;generalize D.lst (.sy ⟨#[99,97,108,108]⟩::ouM T F a)=CC at *;generalize hUU:D.vs ([d0.kid 0]++F.map (eh a))=U at *;have hj1:(1+F.length+(d0.kid 2).kids.length)*56≤140737488355328:=by omega
 have hj2:1+F.length+(d0.kid 2).kids.length≤140737488355328:=by omega
 have b0':=fun R=>bU b0 R
 have b2':=fun R=>bU b2 R
 simp -implicitDefEqProofs [i1,i2,i4,i7,e8,↓b0,↓b2,↓b0',↓b2',c60,hsd,v2,ae,hUl,hzU,hWl,hWz,hj1,hj2];refine bp (zz:=some 4) (hGb.app _) (.inl (yO _ _ _)) fun si' h'' hG' hl' hkk hlo hnf=>?_
 have k0:=hkk 0 _ (bU b0 _);have k1:=hkk 1 _ (bU b1 _);have k2:=hkk 2 _ (bU b2 _);have hT2:t.kids.tail=T:=by rw[hT,List.drop_one]
 have hzt:=D.hz;have hsT:=aa T;have k0':=fun R=>bU k0 R
 have hki1b:(1:Int)≤t.kids.length:=by omega
 have hk1b:1≤t.kids.length:=by omega
 simp -implicitDefEqProofs [i1,i2,i4,i7,↓k0,↓k2,↓k0',c58M,c59f,ae,hst,hk1,hki1,hki1b,hk1b,hT2,hzt,hsT];refine BJ (T:=T) (a:=a) (H:=[ff]) (ia:=.any) (iT:=.any) (g:=g) (sx:=sx) (w0:=t.v.cells) (w1:=[.c (.int .i64 0),.c (.int .i64 0),.c (.string ⟨#[]⟩),.sl [] .nil]) c59 c61 c62 h4 hn.1 (by omega) (by simp) (by simp[au,i1]) (by simp[au]) (by simp[au]) (by simp[au,D.vs]) (by simp[au]) rfl ?_ ?_ ?_
 ·exact k0
 ·exact k1
 intro ec hc rbc sic hec e11 c0 c1;have g4:=hec 4 rfl;simp[au,i4] at g4;have c59Px:=c59P sic;have hvP:=pZ P;have hvwP:=D.vw P;have ks:=fun R o=>bP (bU c1 R) o
 have c1':=fun R=>bU c1 R
 have hzl:V.low 0 D.z0.v=true:=pZ .z0;have hlP:=aa ([ff]++T.map (odD g));rw[houl] at hlP;generalize hVV:D.vs ([ff]++T.map (odD g))=VV at *;have hgetP:∀R,(hc++O.cells P.v.cells::R)[hc.length]?=some (.cells P.v.cells):=fun R=>yO _ _ _
 have hgetP1:=qf hc (O.cells P.v.cells);by_cases hA:4000<T.length+1
 ·have hAi:(4000:Int)<(T.length:Int)+1:=by omega
  rw[if_pos (.inl hA),z0v] at hRR;rw[hRR];simp -implicitDefEqProofs [x20_r,g4,e11,c59Px,c63,ae,hlP,hAi,↓c1',↓ks,V.low,V.lows,SI.low]
 have hAi:¬(4000:Int)<(T.length:Int)+1:=by omega
 by_cases hB:P.ck=0
 ·rw[if_neg (by rintro (h|h);exact hA h;exact h hB)] at hRR;rw[hB] at c46;rw[hRR];simp -implicitDefEqProofs [x20_r,g4,e11,c59Px,c63,c46,ae,hlP,hAi,↓c1',↓ks,hvP,hvwP,V.low,V.lows]
 ·rw[if_pos (.inr hB),z0v] at hRR;have hBb:(P.ck != 0)=true:=by simp[hB]
  rw[hRR];simp -implicitDefEqProofs [x20_r,g4,e11,c59Px,c63,c46,ae,hlP,hAi,hBb,↓c1',↓ks,V.low,V.lows,SI.low]
theorem zo:∀(l:List D) (sh:Sh),iw sh l=0→∀x∈l,∃sh,hdF sh x=0
 | [],_,_,x,hx=>by cases hx
 | d::l,sh,h,x,hx=>by
  rw[iw] at h;split at h
  ·rename_i h0;rcases List.mem_cons.1 hx with rfl|hx
   ·exact⟨_,h0⟩
   ·exact zo l _ h x hx
  ·rename_i h0;exact absurd h h0
theorem An {t:D}(h:t.tck=0):iw [] (t.kids.drop 1)=0:=by
 unfold D.tck at h;by_cases h0:t.ck=0;rotate_left
 ·rw[if_pos h0] at h;exact absurd h h0
 rw[if_neg (by omega)] at h;split at h
 ·cases h
 split at h
 ·cases h
 split at h
 ·rename_i h5;exact absurd h h5
 rename_i h5;simpa using h5
theorem yY {p:D→Bool}:∀{seen:List ByteArray}{l:List D},nmG p seen l=true→∀x∈l,p x=true
 | _,[],_,x,hx=>by cases hx
 | seen,d::l,h,x,hx=>by
  rw[nmG,bT,bT] at h;rcases List.mem_cons.1 hx with rfl|hx
  ·exact h.1
  ·exact yY h.2.2 x hx
theorem rh {α:Type}{f:α→α}:∀{l:List α},(∀x∈l,f x=x)→l.map f=l
 | [],_=>rfl
 | x::l,h=>by rw[List.map_cons,h x (.head _),rh fun y hy=>h y (.tail _ hy)]
theorem tV {d:D}(h:d.nms D.nm=true) (hf:d.fm=true):d.kids=(txs d.kids).map D.sy∧d=syL (txs d.kids):=by
 unfold D.nms at h;rw[bT,beq_iff_eq] at h;have h1:d.kids=(txs d.kids).map D.sy:=by
  unfold txs;rw[List.map_map];refine (rh fun x hx=>?_).symm;have h2:=yY h.2 x hx;unfold D.nm at h2;rw[bT,beq_iff_eq] at h2;exact (DZ h2.1 (af hf x hx)).symm
 refine⟨h1,?_⟩;rw[syL,← h1];exact Dm h.1 hf
theorem AK {sh:Sh}{d:D}(h:hdF sh d=0):(d.kid 1).nms D.nm=true∧(d.kid 2).nms D.nm=true∧(d.kid 1).kids.length+(d.kid 2).kids.length≤8:=by
 unfold hdF at h;split at h;rotate_left
 ·cases h
 split at h
 ·cases h
 rename_i h1 h2;split at h
 ·cases h
 rename_i h3;simp only[Bool.or_eq_true,not_or,Bool.not_eq_true',Bool.not_eq_false] at h2;exact⟨h2.2.1,h2.2.2.1,by omega⟩
theorem zH (a b:Int):a≤mxI a b∧b≤mxI a b:=by
 unfold mxI;split<;>omega
theorem yW:∀(l:List D) (m:Int),m≤mxF m l∧∀x∈l,x.nu+1≤mxF m l
 | [],m=>⟨Int.le_refl _,fun x hx=>by cases hx⟩
 | d::l,m=>by
  have h1:=yW l (mxI m (d.nu+1));have h2:=zH m (d.nu+1);have h3:mxF m (d::l)=mxF (mxI m (d.nu+1)) l:=rfl;rw[h3];refine⟨by omega,fun x hx=>?_⟩;rcases List.mem_cons.1 hx with rfl|hx
  ·omega
  ·exact h1.2 x hx
theorem zS:∀(l:List D) (m:Int),m≤mxA m l∧∀x∈l,wn x.wd=6→(x.kid 1).nu+1≤mxA m l
 | [],m=>⟨Int.le_refl _,fun x hx=>by cases hx⟩
 | d::l,m=>by
  have h1:=zS l (rq m d);have h3:mxA m (d::l)=mxA (rq m d) l:=rfl;rw[h3];by_cases hw:wn d.wd=6
  ·have h2:=zH m ((d.kid 1).nu+1);have h4:rq m d=mxI m ((d.kid 1).nu+1):=by unfold rq;rw[if_pos hw]
   rw[h4] at h1 ⊢;refine⟨by omega,fun x hx hx6=>?_⟩;rcases List.mem_cons.1 hx with rfl|hx
   ·omega
   ·exact h1.2 x hx hx6
  ·have h4:rq m d=m:=by unfold rq;rw[if_neg hw]
   rw[h4] at h1 ⊢;refine⟨h1.1,fun x hx hx6=>?_⟩;rcases List.mem_cons.1 hx with rfl|hx
   ·exact absurd hx6 hw
   ·exact h1.2 x hx hx6
theorem zg {a:List D}:∀(f:Nat) (y:D),(∀x∈prE f y,wn x.wd=6→(x.kid 1).nu<a.length)→agE a f y
 | 0,_,_=>trivial
 | f+1,y,h=>by
  have hE:prE (f+1) y=y::(inn y).flatMap (prE f):=by rw[← tL];rfl
  rw[hE] at h;exact⟨h y (.head _),fun x hx=>zg f x fun z hz=>h z (.tail _ (List.mem_flatMap.2 ⟨x,hx,hz⟩))⟩
theorem Gb {T F a:List D}{g:D→D}{m:Nat}(hT:0<T.length) (hn:∀d∈T,(d.kid 1).nms D.nm=true∧(d.kid 2).nms D.nm=true) (hf:∀d∈T,d.fm=true∧d.kids.length=4):D.lst (ouP T F a g m)=plD T F a g m:=by
 have hd0:T.getD 0 .z0∈T:=by
  rw[List.getD_eq_getElem?_getD,gE hT];exact List.getElem_mem _
 have hk:∀d∈T,((d.kid 1).kids=(txs (d.kid 1).kids).map D.sy∧d.kid 1=syL (txs (d.kid 1).kids))∧((d.kid 2).kids=(txs (d.kid 2).kids).map D.sy∧d.kid 2=syL (txs (d.kid 2).kids)):=fun d hd=>by
  obtain⟨h1,h2⟩:=hf d hd;exact⟨tV (hn d hd).1 (af h1 _ (aA (by omega))),tV (hn d hd).2 (af h1 _ (aA (by omega)))⟩
 unfold plD;congr 1;unfold ouP plL;rw[List.map_append,List.map_map];have h0:=(hk _ hd0).2;refine congr (congrArg _ ?_) (List.map_congr_left fun d hd=>?_)
 ·simp only[List.map_cons,List.map_nil,d9D,pl0,ouM,jX];rw[← h0.1,← h0.2];simp
 ·have h1:=hk d hd;simp only[odD,Function.comp_apply,d9D,pd,syL,List.map_append];rw[← h1.1.1,← h1.2.1]
theorem jc (l:List D):(D.lst l).sz=D.szs l+1:=by simp only[D.lst,D.sz];omega
theorem u8 (t:ByteArray):(D.sy t).sz=1:=by simp[D.sy,D.sz,D.szs]
theorem BH (d:D):(qd d).sz=d.sz+2:=by
 unfold qd;rw[jc];simp only[D.szs,u8];omega
theorem zQ {a:List D}{M:Nat}(ha:∀x∈a,x.sz≤M) (hM:1≤M) (i:Nat):(a.getD i .z0).sz≤M:=by
 rw[List.getD_eq_getElem?_getD];cases h:a[i]? with
 | none=>simpa[D.z0,D.sz,D.szs] using hM
 | some x=>exact ha x (List.mem_of_getElem? h)
theorem DE (w:Nat) (y:D):D.szs (hdW w y)≤(y.kid 1).sz+1:=by
 have:=ao (y.kid 1);unfold hdW;split
 ·simp[D.szs,u8];omega
 split
 ·simp[D.szs]
 split
 ·simp[D.szs,u8];omega
 ·simp[D.szs,u8]
theorem uN {g:D→D}{k:D→Nat}{B:Nat}:∀{l:List D},(∀x∈l,(g x).sz≤k x*B)→D.szs (l.map g)≤(l.map k).sum*B
 | [],_=>by simp[D.szs]
 | x::l,h=>by
  have h1:=h x (.head _);have h2:=uN (l:=l) fun y hy=>h y (.tail _ hy)
  simp only[List.map_cons,D.szs,List.sum_cons,Nat.add_mul];omega
theorem DJ {l:List D}{f:D→List D}:(l.flatMap f).length=(l.map fun x=>(f x).length).sum:=by
 induction l with
 | nil=>rfl
 | cons x l ih=>simp[ih]
theorem ED {a:List D}{S M:Nat}(ha:∀x∈a,x.sz≤M) (hM:1≤M):∀(f:Nat) (y:D),y.sz≤f→okE f y→y.sz≤S→(fl a f y).sz≤(prE f y).length*(S+M+4)
 | 0,y,h,_,_=>by have:=ao y;omega
 | f+1,y,hf,hok,hS=>by
  have hX:okX y:=hok.1;have hl2:=jB hX;have hk1:=aC (aA (d:=y) (j:=1) (by omega));have hE:prE (f+1) y=y::(inn y).flatMap (prE f):=by rw[← tL];rfl
  have hin:∀x∈inn y,(fl a f x).sz≤(prE f x).length*(S+M+4):=fun x hx=>by
   have:=ph hX hx;exact ED ha hM f x (by omega) (pB hok hx) (by omega)
  have hle:1*(S+M+4)≤(prE (f+1) y).length*(S+M+4):=Nat.mul_le_mul_right _ (by rw[hE];simp);rw[fl];split
  ·rw[BH];omega
  split
  ·omega
  split
  ·rw[BH];have:=zQ ha hM (y.kid 1).nu.toNat;omega
  split
  ·rename_i h9;obtain⟨_,hi⟩:=Gw h9 hX;have h1:=hin (y.kid 1) (by rw[hi];simp);have h2:(prE f (y.kid 1)).length*(S+M+4)≤(prE (f+1) y).length*(S+M+4):=Nat.mul_le_mul_right _ (by rw[hE,hi];simp);omega
  ·rw[jc,jJ];have h1:=DE (wn y.wd) y;have h2:=uN (g:=fl a f) (k:=fun x=>(prE f x).length) hin;have h3:(prE (f+1) y).length=1+((inn y).map fun x=>(prE f x).length).sum:=by rw[hE,lC,DJ];omega
   rw[h3,Nat.add_mul];omega
theorem qL {g:D→D}{B:Nat}:∀{l:List D},(∀x∈l,(g x).sz≤x.sz*B)→D.szs (l.map g)≤D.szs l*B
 | [],_=>by simp[D.szs]
 | x::l,h=>by
  have h1:=h x (.head _);have h2:=qL (l:=l) fun y hy=>h y (.tail _ hy)
  simp only[List.map_cons,D.szs,Nat.add_mul];omega
theorem p8 {g:D→D}{B:Nat}:∀{l:List D},(∀x∈l,(g x).sz≤B)→D.szs (l.map g)≤l.length*B
 | [],_=>by simp[D.szs]
 | x::l,h=>by
  have h1:=h x (.head _);have h2:=p8 (l:=l) fun y hy=>h y (.tail _ hy)
  simp only[List.map_cons,D.szs,lC,Nat.add_mul];omega
theorem pG:∀{l:List D}{x:D},x∈l→x.sz≤D.szs l
 | d::l,x,h=>by
  simp only[D.szs];rcases List.mem_cons.1 h with rfl|h
  ·omega
  ·have:=pG h;omega
theorem Gf {t:D}{a:List D}(h0:t.tck=0) (hs:t.sz≤3000) (ha:∀x∈a,x.sz≤1000) (m:Nat) :
  (D.lst (ouP (t.kids.drop 1) (t.kid 0).kids a (fun d=>fl a t.sz (d.kid 3)) m)).sz<100000000:=by
 obtain⟨t1,t2,t3,t4,t5,t6⟩:=lX h0;have hT:=iE t.kids 1;have hk:=ez t;have hTl:(t.kids.drop 1).length=t.kids.length-1:=by simp
 have hF1:=aC (aA (d:=t) (j:=0) (by omega));have hF2:=aQ (t.kid 0);have hd0:(t.kids.drop 1).getD 0 .z0∈t.kids.drop 1:=by
  rw[List.getD_eq_getElem?_getD,gE (by omega)];exact List.getElem_mem _
 have hd4:=(t6 _ hd0).1;have hds:=pG hd0;have hrest:D.szs ((t.kids.drop 1).map (odD fun d=>fl a t.sz (d.kid 3)))≤D.szs (t.kids.drop 1)*4020:=qL fun d hd=>by
  obtain⟨k4,ok⟩:=t6 d hd;have hd2:=pG hd;have k3:=aC (aA (d:=d) (j:=3) (by omega));have k1:=aC (aA (d:=d) (j:=1) (by omega));have k2:=aC (aA (d:=d) (j:=2) (by omega));have k0:=aC (aA (d:=d) (j:=0) (by omega));have q1:=ez (d.kid 1);have q2:=ez (d.kid 2);have h1:=ED (a:=a) (S:=3000) (M:=1000) ha (by omega) t.sz (d.kid 3) (by omega) ok (by omega);have h2:=jL t.sz (d.kid 3) ok;have h3:(prE t.sz (d.kid 3)).length*4004≤d.sz*4004:=Nat.mul_le_mul_right _ (by omega);have h4:(odD (fun d=>fl a t.sz (d.kid 3)) d).sz=(d.kid 0).sz+(D.szs (d.kid 1).kids+D.szs (d.kid 2).kids+1)+(fl a t.sz (d.kid 3)).sz+1:=by
   unfold odD;rw[jc];simp only[D.szs,jc,jJ];omega
  rw[h4];have:=ao d;omega
 have hfirst:(D.lst [.nb m,((t.kids.drop 1).getD 0 .z0).kid 2,.lst (.sy wdC::ouM (t.kids.drop 1) (t.kid 0).kids a)]).sz≤3000*1002+20000:=by
  have h1:=p8 (g:=eh a) (B:=1002) (l:=(t.kid 0).kids) fun x _=>by
   unfold eh;rw[BH];have:=zQ ha (by omega) x.nu.toNat;omega
  have h2:(t.kid 0).kids.length*1002≤3000*1002:=Nat.mul_le_mul_right _ (by omega);have k2:=aC (aA (d:=(t.kids.drop 1).getD 0 .z0) (j:=2) (by omega));have k0:=aC (aA (d:=(t.kids.drop 1).getD 0 .z0) (j:=0) (by omega));have q2:=ez (((t.kids.drop 1).getD 0 .z0).kid 2);rw[jc];simp only[D.szs,jc,ouM,jJ,u8,D.nb,D.sz];omega
 rw[jc,ouP,jJ];simp only[D.szs];have h5:D.szs (t.kids.drop 1)*4020≤3000*4020:=Nat.mul_le_mul_right _ (by omega);omega
end Go.Proofs.YtjhffhmokcogkaaGreatDoor.Ab
