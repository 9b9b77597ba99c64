/- A part. -/
import Derived.Test.YtjhffhmokcogkaaGreatDoorCc11
set_option linter.unusedVariables false
set_option linter.unusedSimpArgs false
set_option linter.defProp false
set_option maxRecDepth 20000
set_option maxHeartbeats 8000000
noncomputable section
namespace Go.Proofs.YtjhffhmokcogkaaGreatDoor.Ab
open Go
theorem xO (kd:Option (List Nat)) (k:Value) (u:V):sW kd [] [] k u=some ([k],[u]):=rfl
theorem Gm (t:D) (hp:Pg t) (hs:t.sz<100000000) (h0:0<t.kids.length) (hnd:(kys t.kids).Nodup){n:Nat}(hn:4*t.sz+50≤n):∃si,(si=.any∨si=.full)∧bg (n+1) 139 [t.v] (.sl (D.vs (ca t)) si):=by
 have key:∃v,(∃si,(si=.any∨si=.full)∧v=.sl (D.vs (ca t)) si)∧bg (n+1) 139 [t.v] v:=by
  refine yV rfl rfl rfl (by kernel_rfl) ⟨rfl,rfl⟩ (by simp[V.lows]) ?_;have hkl:=bV t;have hd:=hp.hd;obtain⟨n,rfl⟩:∃n',n=n'+1:=⟨n-1,by omega⟩
  have c172:∀(x:D) h,call X E (n+1) 172 [x.v] h=some (x.key,h):=fun x=>v7 x
  obtain⟨e1,c171,m171⟩:=Gn t (fun x hx=>by have:=(hd x hx).2.1;omega) hnd hs (n:=n) (by omega) [.cells t.v.cells];have c173:∀d∈t.kids,sP (n+1) t.sz (d.kid 2):=fun d hdm=>by
   have a:=aW hdm;have b:=aW (bI (d:=d) (j:=2) (by have:=(hd d hdm).2.1;omega));exact nV t.sz (d.kid 2) (hp.okz d hdm) (by omega) (n+1) (by omega)
  have hcln:∀d∈t.kids,(clD t.sz (d.kid 2)).length<100000000:=fun d hdm=>by
   have a:=aW hdm;have b:=aW (bI (d:=d) (j:=2) (by have:=(hd d hdm).2.1;omega));have:=pq t.sz (d.kid 2) (hp.okz d hdm);omega
  have hcl:=hp.hcl;have hsl:=aa t.kids;have h0i:(0:Int)<t.kids.length:=by omega
  have v0:((D.vs t.kids)[0]'(by rw[aa];exact h0))=(t.kid 0).v:=ah _;have km:=bI (d:=t) (j:=0) h0;have hk0:=(hd _ km).2.1;have hsl0:=aa (t.kid 0).kids;rw[hk0] at hsl0;have v00:((D.vs (t.kid 0).kids)[0]'(by rw[aa];omega))=((t.kid 0).kid 0).v:=ah _;have hnl:t.kids.length<n:=by omega
  simp only[sP] at c173;obtain⟨M,hM⟩:∃M,M=O.cells t.v.cells::e1:=⟨_,rfl⟩
  have hM':[O.cells t.v.cells]++e1=M:=by rw[hM];rfl
  rw[hM'] at c171 m171;simp only[List.length_singleton] at c171 m171;have hM0:M[0]?=some (.cells t.v.cells):=by rw[hM];rfl
  have hM0a:∀R,(M++R)[0]?=some (.cells t.v.cells):=fun R=>co hM0 R
  have hM0b:∀(R:List O) (h:0<(M++R).length),(M++R)[0]'h=.cells t.v.cells:=fun R h=>by
   have:=hM0a R;rw[gE h] at this;exact Option.some.inj this
  have hM1:1≤M.length:=by rw[hM];simp
  generalize call X E (n+1)=cf at *;simp -implicitDefEqProofs [x139_w,ae,c171,hM0,hM0a,hM0b,hM1,hsl,h0,h0i,v0,hsl0,v00,c172,sf,cY,xO];obtain⟨P,hP⟩:∃P,P=ca t:=⟨_,rfl⟩
  rw[← hP];have hPb:P=vm t.kids t.sz (t.kids.length+1) 0 [t.kid 0]:=hP;have r0:RI t.kids t.sz 0 [t.kid 0]:=by
   refine⟨fun d hd=>?_,?_,fun k h1 h2=>?_,fun j d hj=>by omega⟩
   ·rw[List.mem_singleton.1 hd];exact km
   ·simp[kys]
   ·simp only[List.length_singleton] at h2;omega
  obtain⟨H0,hH0⟩:∃H0,H0=M++[O.tok 1 4,O.mapo [.agg #[.int .i64 ((t.kid 0).kid 0).nu,.string ((t.kid 0).kid 0).tx]] [.c (.bool true)]]:=⟨_,rfl⟩
  have g2:H0[2]?=some (.mapo (mkK (alD t.kids)) (mkV (alD t.kids))):=by rw[hH0];exact co m171 _
  have gm:H0[M.length+1]?=some (.mapo (mkK (seK (kys [t.kid 0]))) (mkV (seK (kys [t.kid 0])))):=by
   rw[hH0,aR (by omega),show M.length+1-M.length=1 by omega];rfl
  have hne:2≠M.length+1:=by
   have h1:=(gS.1 m171).1;omega
  rw[← hH0];obtain⟨J,hJ⟩:∃J:Nat→SF→Prop,J=fun k s'=>∃(i:Nat) (out:List D) (si:SI),i+k=t.kids.length∧s'.e 6=.c (.int .i64 i)∧s'.e 4=.sl (D.vs out) si∧GrowF 4 (D.vs out) si s'.h∧s'.h[2]?=some (.mapo (mkK (alD t.kids)) (mkV (alD t.kids)))∧s'.h[M.length+1]?=some (.mapo (mkK (seK (kys out))) (mkV (seK (kys out))))∧RI t.kids t.sz i out∧P=vm t.kids t.sz (k+1) i out∧0<out.length:=⟨_,rfl⟩
  refine bn J t.kids.length (by omega) (by rw[hJ];exact⟨0,[t.kid 0],.full,by omega,by simp[au],by simp[au,D.vs],.full _ _ _,g2,gm,r0,hPb,by simp⟩) ?_;rintro k ⟨e,H,base,rb⟩ hj he hb;rw[hJ] at hj;obtain⟨i,out,si,hj,f6,f4,fG,f2,fm,hRI,hPi,hpo⟩:=hj;have f3:=he 3 rfl;have f5:=he 5 rfl;simp[au] at f3 f5 hb;simp only at f6 f4 fG f2 fm;subst hb;have hso:=aa out;have hol:=hRI.len;by_cases hm:i<out.length;rotate_left
  ·have hlt:¬(i:Int)<out.length:=by omega
   rw[vm,List.getElem?_eq_none (by omega)] at hPi;simp only at hPi;subst hPi;simp -implicitDefEqProofs [x139l16_w,x139_r,f4,f6,hso,hlt];have hlo:=D.lows 0 P;rcases fG with⟨h9,rfl⟩|rfl|⟨q,rfl,-⟩
   ·rw[← aa,h9] at hpo;simp at hpo
   ·exact⟨.inr rfl,by simp[V.vw,V.vwf,V.low,hlo,SI.low]⟩
   ·exact⟨.inl rfl,by simp[V.vw,V.vwf,V.vw2,V.vw1,V.low,hlo,SI.low]⟩
  have hlt:(i:Int)<out.length:=by omega
  have hw:IntKind.i64.wrap ((i:Int)+1)=(i:Int)+1:=aH (by omega);have hvk:(D.vs out)[i]'(by rw[hso];exact hm)=(out[i]).v:=ac _;have hge:out[i]?=some out[i]:=gE hm;obtain⟨n1,n2⟩:=hRI.next hcl hge;have hdm:=hRI.mem _ (List.getElem_mem hm);rw[vm,hge] at hPi;simp only at hPi;have hk3:=(hd _ hdm).2.1;obtain⟨ci,H2,k1,k2,-,-,k5,k6⟩:=c173 _ hdm ([],[]) .nil H.length H.length (H++[.mapo [] []]) (.nil _ _) (by simp) (nL _) (by simp) (by simp;exact⟨rfl,rfl⟩) (by simpa using hcln _ hdm);have hCd:=fun out'=>kY (ks:=t.kids) (clD t.sz ((out[i]).kid 2)) ([],[]) out' (hcl _ hdm) (by simp) (by simp)
  have hCm:∀q∈((clD t.sz ((out[i]).kid 2)).foldl adF ([],[])).1,∃x,fdD t.kids q.key2=some x:=fun q hq=>by
   rcases wQ _ _ q hq with h|h
   ·cases h
   ·exact hcl _ hdm q h
  have hCl:((clD t.sz ((out[i]).kid 2)).foldl adF ([],[])).1.length<100000000:=by
   have h1:=iZ (clD t.sz ((out[i]).kid 2)) ([],[]);have h2:=hcln _ hdm;simp only[List.length_nil,Nat.zero_add] at h1;omega
  have hCn:((clD t.sz ((out[i]).kid 2)).foldl adF ([],[])).1.length<n+1:=by
   have h1:=iZ (clD t.sz ((out[i]).kid 2)) ([],[]);simp only[List.length_nil,Nat.zero_add] at h1;have h2:=pq t.sz ((out[i]).kid 2) (hp.okz _ hdm);have a:=aW hdm;have b:=aW (bI (d:=out[i]) (j:=2) (by omega));omega
  simp only[D.vs] at k1;rw[List.take_left' rfl] at k5;generalize ((clD t.sz ((out[i]).kid 2)).foldl adF ([],[])).1=C at *;generalize clD t.sz ((out[i]).kid 2)=CC at *;have hdd:=hCd out;simp only[List.foldl_nil] at hdd;generalize out[i]=d at *;have hsd:=aa d.kids;rw[hk3] at hsd;have v2:((D.vs d.kids)[2]'(by rw[aa];omega))=(d.kid 2).v:=ah _;have hcsl:=aa C;have k6':H.length+1≤H2.length:=by simpa using k6
  simp -implicitDefEqProofs [x139l16_w,f3,f4,f5,f6,hso,hlt,hm,hvk,hsd,v2,k1,hcsl];refine⟨k6',yH (ks:=t.kids) (out:=out) (C:=C) (ma:=2) (ms:=M.length+1) (si:=si) (ci:=ci) c172 hCm (by simp[au,f3]) (by simp[au,f5]) (by simp[au,f4]) (by simp[au]) (by simp[au]) (by simp[au]) (iK k5 f2) (iK k5 fm) ?_ hne hCn hCl (by omega) fun e' H' rb' si' x1 x2 x3 x4 x5=>?_⟩
  ·refine fG.keepG fun q _ hq=>?_
   rw[← List.getElem?_take_of_lt hq,k5]
  ·have y6:=x1 6 rfl;simp[au,f6] at y6;rw[hdd] at x2 x3 x5;simp -implicitDefEqProofs [y6,hw];refine⟨k-1,by omega,?_⟩;rw[hJ];refine⟨i+1,_,si',by omega,by simp[au],by simp[au,x2],x3,x4,x5,n1,?_,?_⟩
   ·rw[show k-1+1=k by omega];exact hPi
   ·exact Nat.lt_of_lt_of_le hpo (by
     have:=n2 (out.length-1) _ (gE (by omega));have:=(gS.1 this).1;omega)
 obtain⟨v,⟨si,h1,rfl⟩,h2⟩:=key;exact⟨si,h1,h2⟩
theorem HN (t:D) (h:t.fck=0){n:Nat}(hn:4*t.sz+60≤n):∃si,(si=.any∨si=.full)∧bg (n+1) 88 [t.v] (.sl (D.vs (ca t)) si):=by
  obtain⟨q1,q2,q3,q4,q5,q6⟩:=eO (iB h).1;obtain⟨-,hs,-⟩:=tV h;obtain⟨si,hsi,h1⟩:=Gm t (zN h) (by omega) q3 (by simpa using xq t.kids [] q5 (by simp)) (n:=n-1) (by omega);rw[Nat.sub_add_cancel (by omega)] at h1;refine⟨si,hsi,?_⟩;have c139:∀h,call X E n 139 [t.v] h=some (.sl (D.vs (ca t)) si,h):=h1;have hlo:=D.lows 0 (ca t);refine aA rfl rfl rfl (by kernel_rfl) ⟨rfl,rfl⟩ (by simp[V.lows]) ?_;generalize ca t=P at *;generalize call X E n=cf at *;rcases hsi with rfl|rfl <;>
  (simp -implicitDefEqProofs [x88_w,x88_r,ae,c139]
   first|exact⟨rfl,by simp[V.low,hlo,SI.low]⟩|simp[V.low,hlo,SI.low])
theorem gW {l:List Bool}{j:Nat}(h:j<l.length) (v:Bool):(bvs l).take j++V.c (.bool v)::(bvs l).drop (j+1)=bvs (l.set j v):=by
 rw[List.set_eq_take_append_cons_drop,if_pos h];simp[bvs]
theorem FAt.setS {F:Fd}(ok:F.Ok){h:List O}{T:List (List Int)}{S S':List Bool}{c:Bool}(a:FAt F h T S c) (hl:S'.length=S.length):FAt F (h.set F.sj (.cells (bvs S'))) T S' c :=
 ⟨by rw[sN (Ne.symm ok.fs)];exact a.obj,by rw[sN (Ne.symm ok.ms)];exact a.mp,sS a.lt.2.2.1,hl.trans a.slen,a.tlen,a.rlen,fun k hk=>by
  obtain⟨id,h1,h2⟩:=a.row k hk;refine⟨id,h1,?_⟩;rw[sN (Ne.symm (ok.rows _ (List.mem_of_getElem? h1)).2.2)];exact h2⟩
def nof (m:Nat) (v:V):Prop:=∀id o,v=.ref id o→m≤id
theorem Ay {b m l:Nat}{v:V}(hv:nof m v) (hl:m≤l):m≤io b v l∧io b v l≤l:=by
 cases v with
 | ref id o =>
  have:=hv id o rfl;show m≤(if b≤id∧id<l then id else l)∧(if b≤id∧id<l then id else l)≤l;split<;>omega
 | _=>exact⟨hl,nL _⟩
theorem iJ {cf:av}{A A' R:List O}{m f:Nat}{args:List V}{v:V}(hf:f<rid) (hm:A.length≤m) (hml:m≤(A++R).length) (hA:bh A) (hR:R.all (O.low 0)=true) (hargs:V.lows m args=true)
  (hc:cf f args (A++R.take (m-A.length))=some (v,A'++R.take (m-A.length))) (hl:A'.length=A.length):aF m cf f args (A++R)=some (v,A'++R):=by
 have ht:(A++R).take m=A++R.take (m-A.length):=by rw[List.take_append,List.take_of_length_le hm]
 have hd:(A++R).drop m=R.drop (m-A.length):=by rw[List.drop_append,List.drop_of_length_le hm,List.nil_append]
 have hR2:R.all (O.low m)=true:=by
  rw[List.all_eq_true] at hR ⊢;exact fun o ho=>lZ (Nat.zero_le _) (hR o ho)
 have hlo:(A++R.take (m-A.length)).all (O.low m)=true:=by
  rw[List.all_append,bT];constructor
  ·unfold bh at hA;rw[List.all_eq_true] at hA ⊢;exact fun o ho=>lZ hm (hA o ho)
  ·rw[List.all_eq_true] at hR2 ⊢;exact fun o ho=>hR2 o (List.mem_of_mem_take ho)
 rw[lA] at hml;unfold aF;rw[if_pos hargs];unfold b9;rw[ht,hd,if_pos ⟨hf,by rw[lA];exact hml,hargs,hlo⟩,hc];simp only;rw[if_pos (by rw[lA,List.length_take,hl];omega),List.append_assoc,List.take_append_drop]
theorem zM {cf:av}{m f:Nat}{args:List V}{h:List O}(hl:V.lows m args=false) (hl2:V.lows m (args.map V.vw2)=true):aF m cf f args h=aF m cf f (args.map V.vw2) h:=by
 unfold aF;rw[hl,if_pos hl2];rfl
theorem Dl {cf:av}{n:Nat}{K:List Fr}{Q:Ex→SF→Prop}{s:SF}{F:Fd}(ok:F.Ok) (hfi:F.fi=2){f:Nat}{T:List (List Int)}{S:List Bool}{c:Bool}{A R:List O}{ns:List Nat}{s0:SI}
  (hns:ns=F.ds.map fun d=>(d.kid 1).kids.length) (hT:T.map List.length=ns) (hk:∀d∈F.ds,d.kids.length=3∧(d.kid 1).kids.length<100)
  (c90:∀d∈F.ds,∀(l:List Bd) i A T S c,l.length<100→FAt F A T S c→T.map List.length=ns→bh A→∃A',cf 90 [.ref 2 0,(d.kid 2).v,.sl (bdV l) i] A=some (.c (.bool (isX (atF 0 F.ds) S f (d.kid 2) l)),A')∧FAt F A' ((upX (atF 0 F.ds) S f (d.kid 2) l).foldl bP (T,c)).1 S ((upX (atF 0 F.ds) S f (d.kid 2) l).foldl bP (T,c)).2∧Same F A A')
  (c91:∀j (hj:j<F.ds.length) A T S c,FAt F A T S c→T.map List.length=ns→bh A→∃si,cf 91 [.ref 2 0,.c (.int .i64 j)] A=some (.sl (bdV (scB F.ds[j] (T.getD j []))) si,A))
  (c92:∀(l:List Int) (x:Int) id (h:List O),h[id]?=some (.cells (itv l))→l.length<100→cf 92 [.row id 0 l.length none,.c (.int .i64 x)] h=some (.c (.bool (decide (x∈l))),h))
  (e5:s.e 5=.ref 2 0) (e118:s.e 118=.sl (D.vs F.ds) s0) (e119:s.e 119=.c (.int .i64 F.ds.length)) (e120:s.e 120=.c (.int .i64 0)) (hb0:s.base=0)
  (hH:s.h=A++R) (hF:FAt F A T S c) (hA:bh A) (hR:R.all (O.low 0)=true) (hAp:plH A) (hRp:plH R) (h126:nof A.length (s.e 126)) (h128:nof A.length (s.e 128)) (hn:F.ds.length<n) (hds:F.ds.length<1000000)
  (hq:∀e H rb A' R',(∀t,(dO x34l38).contains t=false→e t=s.e t)→H=A'++R'→FAt F A' (pas (atF 0 F.ds) f 0 F.ds (T,S,c)).1 (pas (atF 0 F.ds) f 0 F.ds (T,S,c)).2.1 (pas (atF 0 F.ds) f 0 F.ds (T,S,c)).2.2→A'.length=A.length→bh A'→R'.all (O.low 0)=true→nof A.length (e 126)→nof A.length (e 128)→plH A'→plH R'→d9 cf n K Q (.exit 8) ⟨e,H,s.base,rb⟩):lpk cf n x34l38 K Q s:=by
 have hsl:=aa F.ds;obtain⟨P,hP⟩:∃P,P=pas (atF 0 F.ds) f 0 F.ds (T,S,c):=⟨_,rfl⟩
 rw[← hP] at hq;obtain⟨J,hJ⟩:∃J:Nat→SF→Prop,J=fun k s'=>∃j A' R' T' S' c',j+k=F.ds.length∧s'.e 120=.c (.int .i64 j)∧s'.h=A'++R'∧A'.length=A.length∧FAt F A' T' S' c'∧bh A'∧R'.all (O.low 0)=true∧P=pas (atF 0 F.ds) f j (F.ds.drop j) (T',S',c')∧T'.map List.length=ns∧nof A.length (s'.e 126)∧nof A.length (s'.e 128)∧plH A'∧plH R':=⟨_,rfl⟩
 refine bn J F.ds.length hn (by rw[hJ];exact⟨0,A,R,T,S,c,by simp,e120,hH,rfl,hF,hA,hR,hP,hT,h126,h128,hAp,hRp⟩) ?_;rintro k ⟨e,H,base,rb⟩ hj he hb;rw[hJ] at hj;obtain⟨j,A1,R1,T1,S1,c1,hj,f120,hH1,hA1,fF,fL,fR,hPj,fT,n126,n128,pA,pR⟩:=hj;have f5:e 5=_:=(he 5 rfl).trans e5;have f118:e 118=_:=(he 118 rfl).trans e118;have f119:e 119=_:=(he 119 rfl).trans e119;simp only at f120 hH1 n126 n128 hb;by_cases hm:j<F.ds.length;rotate_left
 ·have hlt:¬(j:Int)<F.ds.length:=by omega
  obtain rfl:j=F.ds.length:=by omega
  rw[List.drop_length,pas] at hPj;rw[hPj] at hq;subst hb;simp -implicitDefEqProofs [x34l38_w,f5,f118,f119,f120,hlt];refine hq _ _ _ A1 R1 (fun t ht=>?_) hH1 fF hA1 fL fR ?_ ?_ pA pR
  ·have hne:∀k,(dO x34l38).contains k=true→t≠k:=fun k hk e=>by rw[e,hk] at ht;cases ht
   simp only[au,if_neg (hne 121 rfl)];exact he t ht
  ·simpa[au] using n126
  ·simpa[au] using n128
 have hlt:(j:Int)<F.ds.length:=by omega
 have hw:IntKind.i64.wrap ((j:Int)+1)=(j:Int)+1:=aH (by omega);have hvk:(D.vs F.ds)[j]'(by rw[hsl];exact hm)=(F.ds[j]).v:=ac _;have hmem:=List.getElem_mem hm;obtain⟨hk3,hk1⟩:=hk _ hmem;have c90j:=c90 _ hmem;have c91j:=c91 j hm;have hjT:j<T1.length:=by rw[fF.tlen];exact hm
 have hrow:T1.getD j []=T1[j]:=by simp[List.getD,gE hjT]
 have hrl:(T1.getD j []).length=((F.ds[j]).kid 1).kids.length:=by
  rw[hrow];have h1:=congrArg (fun l=>l[j]?) fT;simp only[hns,List.getElem?_map,gE hjT,gE hm,Option.map_some] at h1;exact Option.some.inj h1
 have hscl:(scB F.ds[j] (T1.getD j [])).length<100:=by
  unfold scB;rw[List.length_zipWith];omega
 rw[dC hm,pas] at hPj;have hHl:H.length=A1.length+R1.length:=by rw[hH1,lA]
 generalize F.ds[j]=d at *;have hsd:=aa d.kids;rw[hk3] at hsd;have v2:((D.vs d.kids)[2]'(by rw[aa];omega))=(d.kid 2).v:=ah _;have hR2:(R1++[O.cells d.v.cells]).all (O.low 0)=true:=by simp[fR,aq]
 have hHR:H++[O.cells d.v.cells]=A1++(R1++[O.cells d.v.cells]):=by rw[hH1,List.append_assoc]
 have hbx:(H++[O.cells d.v.cells])[H.length]?=some (.cells d.v.cells):=by simp
 simp -implicitDefEqProofs [x34l38_w,f5,f118,f119,f120,hlt,hsl,hm,hvk,ae];rw[x34r34_w];generalize hth:As [5,5,13] [14,126,128] _ _ _=m;have hbb:base=0:=hb.trans hb0;subst hbb;have h14:io 0 (.ref H.length 0) (H.length+1)=H.length:=by
  show (if 0≤H.length∧H.length<H.length+1 then H.length else _)=_;rw[if_pos ⟨Nat.zero_le _,Nat.lt_succ_self _⟩]
 have hm2:A1.length≤m∧m≤H.length:=by
  unfold As at hth;simp[au,f5,h14] at hth;have m1:=Ay (b:=0) n126 (l:=H.length) (by omega);have m2:=Ay (b:=0) n128 m1.1;rw[hth] at m2;omega
 obtain⟨hm1,hm2⟩:=hm2;clear hth;have hml:m≤(A1++(R1++[O.cells d.v.cells])).length:=by simp;omega
 have hl2:2<A1.length:=by have:=fF.lt.1;omega
 have hl2m:2<m:=by omega
 have lt1:bh (A1++(R1++[O.cells d.v.cells]).take (m-A1.length)):=sV fL (by
  rw[List.all_eq_true] at hR2 ⊢;exact fun o ho=>lZ (Nat.zero_le _) (hR2 o (List.mem_of_mem_take ho)))
 obtain⟨si,k91⟩:=c91j _ _ _ _ (fF.app ((R1++[O.cells d.v.cells]).take (m-A1.length))) fT lt1;have f91:aF m cf 91 [.ref 2 0,.c (.int .i64 j)] (H++[O.cells d.v.cells])=some (.sl (bdV (scB d (T1.getD j []))) si,H++[O.cells d.v.cells]):=by
  rw[hHR];exact iJ (by decide) hm1 hml fL hR2 (by simp[V.lows,V.low,hl2m]) k91 rfl
 generalize hL:scB d (T1.getD j [])=L at *;have key90:∀i,∃A2,cf 90 [.ref 2 0,(d.kid 2).v,.sl (bdV L) i] (A1++(R1++[O.cells d.v.cells]).take (m-A1.length))=some (.c (.bool (isX (atF 0 F.ds) S1 f (d.kid 2) L)),A2++(R1++[O.cells d.v.cells]).take (m-A1.length))∧FAt F A2 ((upX (atF 0 F.ds) S1 f (d.kid 2) L).foldl bP (T1,c1)).1 S1 ((upX (atF 0 F.ds) S1 f (d.kid 2) L).foldl bP (T1,c1)).2∧Same F A1 A2:=fun i=>by
  obtain⟨Ax,x1,x2,x3⟩:=c90j L i _ _ _ _ hscl (fF.app ((R1++[O.cells d.v.cells]).take (m-A1.length))) fT lt1;obtain⟨A2,rfl,y2⟩:=Same.split fF.lt x3;exact⟨A2,x1,FAt.unapp fF.lt y2.1 x2,y2⟩
 have f90:∃A2,aF m cf 90 [.ref 2 0,(d.kid 2).v,.sl (bdV L) si] (H++[O.cells d.v.cells])=some (.c (.bool (isX (atF 0 F.ds) S1 f (d.kid 2) L)),A2++(R1++[O.cells d.v.cells]))∧FAt F A2 ((upX (atF 0 F.ds) S1 f (d.kid 2) L).foldl bP (T1,c1)).1 S1 ((upX (atF 0 F.ds) S1 f (d.kid 2) L).foldl bP (T1,c1)).2∧Same F A1 A2:=by
  rw[hHR];have hlb:=el m L;cases hlo:V.lows m [.ref 2 0,(d.kid 2).v,.sl (bdV L) si] with
  | true =>
   obtain⟨A2,x1,x2,x3⟩:=key90 si;exact⟨A2,iJ (by decide) hm1 hml fL hR2 hlo x1 x3.1,x2,x3⟩
  | false =>
   obtain⟨A2,x1,x2,x3⟩:=key90 .any;have hv:([.ref 2 0,(d.kid 2).v,.sl (bdV L) si]:List V).map V.vw2=[.ref 2 0,(d.kid 2).v,.sl (bdV L) .any]:=by
    simp only[List.map_cons,List.map_nil,D.vw2,aM];rfl
   have hlo2:V.lows m [.ref 2 0,(d.kid 2).v,.sl (bdV L) .any]=true:=by simp[V.lows,V.low,D.low,hlb,SI.low,hl2m]
   rw[zM hlo (by rw[hv];exact hlo2),hv];exact⟨A2,iJ (by decide) hm1 hml fL hR2 hlo2 x1 x3.1,x2,x3⟩
 obtain⟨A2,f90,gF,gSm⟩:=f90;have gL:=FAt.low fL fF gF gSm;have gP2:=iW pA gF gSm;have gT:=(dW (upX (atF 0 F.ds) S1 f (d.kid 2) L) (T1,c1)).trans fT
 dsimp only at hPj
 unfold stp at hPj;rw[hL] at hPj;obtain⟨T2,c2,h12⟩:∃T2 c2,(upX (atF 0 F.ds) S1 f (d.kid 2) L).foldl bP (T1,c1)=(T2,c2):=⟨_,_,rfl⟩
 rw[h12] at gF gT hPj;simp only at gF gT hPj;generalize isX (atF 0 F.ds) S1 f (d.kid 2) L=b at *;obtain⟨H3,hH3⟩:∃H3,H3=A2++(R1++[O.cells d.v.cells]):=⟨_,rfl⟩
 have hA2:A2.length=A1.length:=gSm.1;have hH3l:H3.length=H.length+1:=by rw[hH3,hHl];simp[hA2];omega
 have gF3:FAt F H3 T2 S1 c2:=by rw[hH3];exact gF.app _
 rw[← hH3] at f90;have hjT2:j<T2.length:=by rw[gF.tlen];exact hm
 have hrow2:T2.getD j []=T2[j]:=by simp[List.getD,gE hjT2]
 have hrl2:(T2[j]).length<100:=by
  have h1:=congrArg (fun l=>l[j]?) (gT.trans fT.symm);simp only[List.getElem?_map,gE hjT2,gE hjT,Option.map_some] at h1;have h2:=Option.some.inj h1;rw[hrow] at hrl;omega
 obtain⟨id,r1,r2,r3⟩:=gF3.rowsGet hjT2;obtain⟨id',-,r2',r3'⟩:=gF.rowsGet hjT2;have hid:id'=id:=by rw[r2] at r2';cases r2';rfl
 subst hid;have hidA:id'<A2.length:=(gS.1 r3').1;rw[hrow2] at hPj;have f92:aF m cf 92 [.row id' 0 (T2[j]).length none,.c (.int .i64 (-2))] H3=some (.c (.bool (decide (-2∈T2[j]))),H3):=by
  rw[hH3];refine iJ (by decide) (by omega) (by simp;omega) gL hR2 (by simp[V.lows,V.low];omega) (c92 _ _ _ _ (co r3' _) hrl2) rfl
 have fo:=gF3.obj;rw[hfi] at fo;have fS:=gF3.sl;have hrv:(bf F.rs).length=F.ds.length:=by rw[dl,gF3.rlen]
 have hSl:(bvs S1).length=F.ds.length:=by rw[cd,gF3.slen]
 have hjS:j<S1.length:=by rw[gF3.slen];exact hm
 have hSr:=pX hjS;have hSd:S1.getD j false=S1[j]:=by simp[List.getD,gE hjS]
 rw[hSd] at hPj;have hspl:=gW hjS true;have hSl1:j+1≤S1.length:=by omega
 have fSl:F.sj<H3.length:=gF3.lt.2.2.1;have fo2:∀o,(H3.set F.sj o)[2]?=_:=fun o=>(sN (by rw[← hfi];exact Ne.symm ok.fs)).trans fo
 generalize decide (-2∈T2[j])=b2 at *;generalize hsv:S1[j]=sv at *;have nx:∀e' (H':List O) A3 T3 S3 c3 rb',H'=A3++(R1++[O.cells d.v.cells])→A3.length=A1.length→FAt F A3 T3 S3 c3→bh A3→T3.map List.length=ns→P=pas (atF 0 F.ds) f (j+1) (F.ds.drop (j+1)) (T3,S3,c3)→e' 120=.c (.int .i64 (j+1:Nat))→nof A.length (e' 126)→nof A.length (e' 128)→plH A3→∃k',k'<k∧J k' ⟨e',H',0,rb'⟩:=fun e' H' A3 T3 S3 c3 rb' x1 x2 x3 x4 x5 x6 x7 x8 x9 xp=>by
  refine⟨k-1,by omega,?_⟩;rw[hJ];exact⟨j+1,A3,R1++[O.cells d.v.cells],T3,S3,c3,by omega,x7,x1,x2.trans hA1,x3,x4,hR2,x6,x5,x8,x9,xp,gH pR (dc (plD _) gA)⟩
 have hn14:nof A.length (.ref H.length 3):=fun id o h=>by cases h;omega
 have hnp:∀x y,nof A.length (.ptr x y):=fun x y id o h=>by cases h
 have hle3:H.length+1≤H3.length:=by omega
 have hj1l:j+1≤F.ds.length:=by omega
 have wr:∃A3,(H3.set F.sj (O.cells (bvs (S1.set j true)))).set 2 (O.cells [.sl (D.vs F.ds) F.s0,.mref F.mi,.sl (bf F.rs) F.s2,.row F.sj 0 F.ds.length none,.c (.bool true)])=A3++(R1++[O.cells d.v.cells])∧A3.length=A1.length∧FAt F A3 T2 (S1.set j true) true∧bh A3∧plH A3:=by
  have a1:=FAt.setS ok gF (S':=S1.set j true) (by simp);obtain⟨a2,a3⟩:=FAt.setC ok a1 true;have l1:bh (A2.set F.sj (O.cells (bvs (S1.set j true)))):=eV gL (fl _ _);rw[hfi] at a2;refine⟨_,?_,?_,a2,eV l1 ?_,dS (dS gP2 (AF _)) (vS _ _ _ _ _ _ (by simp[aX,nI]) _)⟩
  ·rw[hH3,List.set_append_left _ _ (by have:=gF.lt.2.2.1;omega),List.set_append_left _ _ (by have:=gF.lt.1;rw[List.length_set];omega)]
  ·simp[hA2]
  ·have:=List.all_eq_true.1 l1 _ (List.mem_of_getElem? a1.obj);simp only[O.low,V.lows,V.low,bT,Bool.and_true] at this ⊢;exact this
 obtain⟨A3,w1,w2,w3,w4,w5⟩:=wr;cases b with
 | true =>
  cases sv with
  | true =>
   simp only[Bool.true_or,Bool.not_true,Bool.and_false,Bool.false_eq_true,if_false] at hPj;simp -implicitDefEqProofs [f5,f120,hbx,hm2,v2,hsd,f91,f90,fo,fS,hrv,hSl,hSr,hsv,hjS,hm,hw,hle3];exact nx _ _ A2 T2 S1 c2 _ hH3 hA2 gF gL gT hPj (by simp[au]) (by simpa[au] using hn14) (by simpa[au] using hnp _ _) gP2
  | false =>
   simp only[Bool.true_or,Bool.not_false,Bool.and_true,if_true] at hPj;simp -implicitDefEqProofs [f5,f120,hbx,hm2,v2,hsd,f91,f90,fo,fo2,fS,hrv,hSl,hSr,hsv,hjS,hm,hw,hSl1,hspl,hle3,hj1l];exact nx _ _ A3 T2 (S1.set j true) true _ w1 w2 w3 w4 gT hPj (by simp[au]) (by simpa[au] using hn14) (by simpa[au] using hnp _ _) w5
 | false =>
  cases b2 with
  | false =>
   simp only[Bool.false_or,Bool.false_and,Bool.false_eq_true,if_false] at hPj;simp -implicitDefEqProofs [f5,f120,hbx,hm2,v2,hsd,f91,f90,f92,fo,fS,hrv,hSl,hSr,hsv,hjS,hm,hw,r1,hle3];exact nx _ _ A2 T2 S1 c2 _ hH3 hA2 gF gL gT hPj (by simp[au]) (by simpa[au] using hn14) (by simpa[au] using hnp _ _) gP2
  | true =>
   cases sv with
   | true =>
    simp only[Bool.false_or,Bool.not_true,Bool.and_false,Bool.false_eq_true,if_false] at hPj;simp -implicitDefEqProofs [f5,f120,hbx,hm2,v2,hsd,f91,f90,f92,fo,fS,hrv,hSl,hSr,hsv,hjS,hm,hw,r1,hle3];exact nx _ _ A2 T2 S1 c2 _ hH3 hA2 gF gL gT hPj (by simp[au]) (by simpa[au] using hn14) (by simpa[au] using hnp _ _) gP2
   | false =>
    simp only[Bool.false_or,Bool.not_false,Bool.and_true,if_true] at hPj;simp -implicitDefEqProofs [f5,f120,hbx,hm2,v2,hsd,f91,f90,f92,fo,fo2,fS,hrv,hSl,hSr,hsv,hjS,hm,hw,hSl1,hspl,r1,hle3,hj1l];exact nx _ _ A3 T2 (S1.set j true) true _ w1 w2 w3 w4 gT hPj (by simp[au]) (by simpa[au] using hn14) (by simpa[au] using hnp _ _) w5
theorem Ch {cf:av}{n:Nat}{K:List Fr}{Q:Ex→SF→Prop}{s:SF}{F:Fd}(ok:F.Ok) (hfi:F.fi=2){f:Nat}{T0:List (List Int)}{A R:List O}{ns:List Nat}(hc:Cgr f F.ds)
  (hns:ns=F.ds.map fun d=>(d.kid 1).kids.length) (hT0:T0.map List.length=ns) (hk:∀d∈F.ds,d.kids.length=3∧(d.kid 1).kids.length<100)
  (c90:∀d∈F.ds,∀(l:List Bd) i A T S c,l.length<100→FAt F A T S c→T.map List.length=ns→bh A→∃A',cf 90 [.ref 2 0,(d.kid 2).v,.sl (bdV l) i] A=some (.c (.bool (isX (atF 0 F.ds) S f (d.kid 2) l)),A')∧FAt F A' ((upX (atF 0 F.ds) S f (d.kid 2) l).foldl bP (T,c)).1 S ((upX (atF 0 F.ds) S f (d.kid 2) l).foldl bP (T,c)).2∧Same F A A')
  (c91:∀j (hj:j<F.ds.length) A T S c,FAt F A T S c→T.map List.length=ns→bh A→∃si,cf 91 [.ref 2 0,.c (.int .i64 j)] A=some (.sl (bdV (scB F.ds[j] (T.getD j []))) si,A))
  (c92:∀(l:List Int) (x:Int) id (h:List O),h[id]?=some (.cells (itv l))→l.length<100→cf 92 [.row id 0 l.length none,.c (.int .i64 x)] h=some (.c (.bool (decide (x∈l))),h))
  (e5:s.e 5=.ref 2 0) (hb0:s.base=0) (hH:s.h=A++R) (hF:FAt F A T0 (List.replicate F.ds.length false) true) (hA:bh A) (hR:R.all (O.low 0)=true) (hAp:plH A) (hRp:plH R) (h126:nof A.length (s.e 126)) (h128:nof A.length (s.e 128))
  (hn:F.ds.length<n) (hn2:msT T0+F.ds.length+1<n) (hds:F.ds.length<1000000)
  (hq:∀e H rb A' R' T S,e 5=.ref 2 0→H=A'++R'→FAt F A' T S false→bh A'→R'.all (O.low 0)=true→Lst (atF 0 F.ds) f F.ds T0 T S→plH A'→plH R'→d9 cf n K Q (.exit 6) ⟨e,H,s.base,rb⟩):lpk cf n x34l39 K Q s:=by
 have hin:∀d∈F.ds,InD (atF 0 F.ds) f ns d:=by rw[hns];exact hc.rch.inD
 have hcnt:qe (List.replicate F.ds.length false)=F.ds.length:=by
  unfold qe;generalize F.ds.length=m
  induction m with
  | zero=>rfl
  | succ m ih=>rw[List.replicate_succ,List.map_cons,List.sum_cons,ih];simp;omega
 have hle0:∀S':List Bool,S'.length=F.ds.length→leS (List.replicate F.ds.length false) S':=fun S' h=>⟨by simp[h],fun i hi=>by
  rw[List.getD_eq_getElem?_getD,List.getElem?_replicate] at hi;split at hi<;>cases hi⟩
 obtain⟨J,hJ⟩:∃J:Nat→SF→Prop,J=fun k s'=>∃A' R' T S c,s'.h=A'++R'∧A'.length=A.length∧FAt F A' T S c∧bh A'∧R'.all (O.low 0)=true∧T.map List.length=ns∧leR T0 T ∧
   (∀T' S',Sol (atF 0 F.ds) f F.ds T' S'→leR T0 T'→S'.length=F.ds.length→leR T T'∧leS S S')∧nof A.length (s'.e 126)∧nof A.length (s'.e 128)∧((c=true∧msT T+qe S+1≤k)∨(c=false∧Sol (atF 0 F.ds) f F.ds T S))∧plH A'∧plH R':=⟨_,rfl⟩
 refine bn J (msT T0+F.ds.length+1) hn2 (by rw[hJ];exact⟨A,R,T0,_,true,hH,rfl,hF,hA,hR,hT0,lP _,fun T' S' _ h1 h2=>⟨h1,hle0 S' h2⟩,h126,h128,.inl ⟨rfl,by rw[hcnt];omega⟩,hAp,hRp⟩) ?_;rintro k ⟨e,H,base,rb⟩ hj he hb;rw[hJ] at hj;obtain⟨A1,R1,T1,S1,c1,hH1,hA1,fF,fL,fR,fT,fge,fle,n126,n128,hor,pA,pR⟩:=hj;have f5:e 5=_:=(he 5 rfl).trans e5;simp only at hH1 n126 n128 hb;have hbb:base=0:=hb.trans hb0;have fo:=fF.obj;rw[hfi] at fo;have fo2:=co fo R1;rw[← hH1] at fo2;rcases hor with⟨rfl,hms⟩|⟨rfl,hsol⟩
 rotate_left
 ·simp -implicitDefEqProofs [x34l39_w,f5,fo2];rw[hb];exact hq _ _ _ A1 R1 T1 S1 (by simp[au,f5]) hH1 fF fL fR ⟨fge,fF.slen,hsol,fle⟩ pA pR
 ·obtain⟨a1,a2⟩:=FAt.setC ok fF false;have aL:=FAt.low fL fF a1 a2;have aP:=iW pA a1 a2;rw[hfi] at a1 a2 aL aP;obtain⟨A2,hA2⟩:∃A2,A2=A1.set 2 (.cells [.sl (D.vs F.ds) F.s0,.mref F.mi,.sl (bf F.rs) F.s2,.row F.sj 0 F.ds.length none,.c (.bool false)]):=⟨_,rfl⟩
  rw[← hA2] at a1 a2 aL aP;have hl2:2<A1.length:=by have:=fF.lt.1;omega
  have hHs:H.set 2 (.cells [.sl (D.vs F.ds) F.s0,.mref F.mi,.sl (bf F.rs) F.s2,.row F.sj 0 F.ds.length none,.c (.bool false)])=A2++R1:=by rw[hH1,List.set_append_left _ _ hl2,hA2]
  have ao:=a1.obj;rw[hfi] at ao;have ao2:=co ao R1;have hsl:=aa F.ds;have hA2l:A2.length=A.length:=a2.1.trans hA1;simp -implicitDefEqProofs [x34l39_w,f5,fo2,hHs,ao2,hsl];refine Dl ok hfi (f:=f) (T:=T1) (S:=S1) (c:=false) (A:=A2) (R:=R1) (ns:=ns) (s0:=F.s0) hns fT hk c90 c91 c92 (by simp[au,f5]) (by simp[au]) (by simp[au]) (by simp[au]) hbb rfl a1 aL fR aP pR
   (by rw[hA2l];simpa[au] using n126) (by rw[hA2l];simpa[au] using n128) hn hds fun e' H' rb' A3 R3 x1 x2 x3 x4 x5 x6 x7 x8 x9 x10=>?_
  obtain⟨p1,p2⟩:=AT F.ds 0 (T1,S1,false) hin fT;have p3:=A9 F.ds 0 (T1,S1,false) hin fT (by simp[fF.slen]);have p4:=Fj F.ds 0 (T1,S1,false) hin fT;have p5:=fun T' S' h1=>AK (T':=T') (S':=S') F.ds 0 (T1,S1,false) hin fT h1
  generalize pas (atF 0 F.ds) f 0 F.ds (T1,S1,false)=P at *;simp -implicitDefEqProofs [];rw[hJ];have nx:∀k',k'<k→((P.2.2=true∧msT P.1+qe P.2.1+1≤k')∨(P.2.2=false∧Sol (atF 0 F.ds) f F.ds P.1 P.2.1))→∃k',k'<k∧∃A' R' T S c,H'=A'++R'∧A'.length=A.length∧FAt F A' T S c∧bh A'∧R'.all (O.low 0)=true∧T.map List.length=ns∧leR T0 T ∧
   (∀T' S',Sol (atF 0 F.ds) f F.ds T' S'→leR T0 T'→S'.length=F.ds.length→leR T T'∧leS S S')∧nof A.length (e' 126)∧nof A.length (e' 128)∧((c=true∧msT T+qe S+1≤k')∨(c=false∧Sol (atF 0 F.ds) f F.ds T S))∧plH A'∧plH R':=fun k' hk' h =>
   ⟨k',hk',A3,R3,P.1,P.2.1,P.2.2,x2,x4.trans hA2l,x3,x5,x6,p1.1.symm.trans fT,jA fge p1,fun T' S' h1 h2 h3=>by
    obtain⟨y1,y2⟩:=fle T' S' h1 h2 h3;exact p5 T' S' (fun j d hd=>by rw[Nat.zero_add];exact h1 j d hd) y1 y2,by rw[← hA2l];exact x7,by rw[← hA2l];exact x8,h,x9,x10⟩
  cases hP:P.2.2 with
  | true =>
   have:=p3.2 rfl hP;simp only at this;exact nx (k-1) (by omega) (.inl ⟨hP,by omega⟩)
  | false =>
   obtain⟨-,y1,y2,y3⟩:=p4 hP;refine nx (k-1) (by omega) (.inr ⟨hP,fun j d hd=>?_⟩);rw[y1,y2];have:=y3 j d hd;rw[Nat.zero_add] at this;exact this
def Fd.shift (k:Nat) (F:Fd):Fd:=⟨F.fi+k,F.mi+k,F.sj+k,F.rs.map fun p=>(p.1+k,p.2),F.ds,F.s0.shift k,F.s2.shift k⟩
theorem sX (m:Nat) (l:List Bool):V.shifts m (bvs l)=bvs l:=by
 induction l with
 | nil=>rfl
 | cons p l ih =>
  simp only[bvs,List.map_cons,V.shifts] at ih ⊢;rw[ih];rfl
theorem wH (m:Nat) (l:List Int):V.shifts m (itv l)=itv l:=by
 induction l with
 | nil=>rfl
 | cons p l ih =>
  simp only[itv,List.map_cons,V.shifts] at ih ⊢;rw[ih];rfl
theorem pc (m:Nat) (l:List (Nat × Nat)):V.shifts m (bf l)=bf (l.map fun p=>(p.1+m,p.2)):=by
 induction l with
 | nil=>rfl
 | cons p l ih =>
  simp only[bf,List.map_cons,V.shifts,V.shift] at ih ⊢;rw[ih]
theorem Fd.Ok.shift {F:Fd}(h:F.Ok) (k:Nat):(F.shift k).Ok:=by
 refine⟨?_,?_,?_,fun p hp=>?_,fun i j p q hi hj e=>?_⟩
 ·have:=h.fm;simp only[Fd.shift];omega
 ·have:=h.fs;simp only[Fd.shift];omega
 ·have:=h.ms;simp only[Fd.shift];omega
 ·simp only[Fd.shift] at hp ⊢;obtain⟨q,hq,rfl⟩:=List.mem_map.1 hp;have:=h.rows q hq;simp only;omega
 ·simp only[Fd.shift,List.getElem?_map] at hi hj;cases hi2:F.rs[i]? with
  | none=>rw[hi2] at hi;cases hi
  | some a =>
   cases hj2:F.rs[j]? with
   | none=>rw[hj2] at hj;cases hj
   | some b =>
    rw[hi2] at hi;rw[hj2] at hj;have e1:=Option.some.inj hi;have e2:=Option.some.inj hj;rw[← e1,← e2] at e;simp only at e;exact h.inj i j a b hi2 hj2 (by omega)
theorem FAt.shift {F:Fd}{H:List O}{T:List (List Int)}{S:List Bool}{c:Bool}(a:FAt F H T S c) (h:List O):FAt (F.shift h.length) (h++H.map (O.shift h.length)) T S c:=by
 have key:∀{i:Nat}{o:O},H[i]?=some o→(h++H.map (O.shift h.length))[i+h.length]?=some (o.shift h.length):=fun {i o} hi=>by
  rw[aR (by omega),Nat.add_sub_cancel,List.getElem?_map,hi];rfl
 refine⟨?_,?_,?_,a.slen,a.tlen,?_,fun k hk=>?_⟩
 ·rw[show (F.shift h.length).fi=F.fi+h.length from rfl,key a.obj];simp only[O.shift,V.shifts,V.shift,D.shifts,pc,Fd.shift]
 ·rw[show (F.shift h.length).mi=F.mi+h.length from rfl,key a.mp];simp only[O.shift,ni,Fd.shift]
 ·rw[show (F.shift h.length).sj=F.sj+h.length from rfl,key a.sl];simp only[O.shift,sX]
 ·simp[Fd.shift,a.rlen]
 ·obtain⟨id,h1,h2⟩:=a.row k hk;refine⟨id+h.length,?_,?_⟩
  ·simp[Fd.shift,h1]
  ·rw[key h2];simp only[O.shift,wH]
theorem D8 (r:List Int):msR r≤3*r.length:=by
 unfold msR
 induction r with
 | nil=>simp
 | cons a r ih=>simp only[List.map_cons,List.sum_cons,lC];omega
theorem DK (T:List (List Int)) (h:∀r∈T,r.length≤8):msT T≤24*T.length:=by
 unfold msT
 induction T with
 | nil=>simp
 | cons a T ih =>
  have h1:=D8 a;have h2:=h a List.mem_cons_self;have h3:=ih fun r hr=>h r (List.mem_cons_of_mem _ hr)
  simp only[List.map_cons,List.sum_cons,lC];omega
theorem Ej {F:Fd}(ok:F.Ok) (hfi:F.fi=2){f B m:Nat}{ns:List Nat}(hns:ns=F.ds.map fun d=>(d.kid 1).kids.length) (hok:∀d∈F.ds,okY (atF 0 F.ds) ns f (d.kid 2)) (hsz:∀d∈F.ds,(d.kid 2).sz+100≤B) (hB2:B<100000000) (hds:F.ds.length<1000000000) (hm:B+20+2*f≤m) :
  ∀d∈F.ds,∀(l:List Bd) i A T S c,l.length<100→FAt F A T S c→T.map List.length=ns→bh A→∃A',call X E m 90 [.ref 2 0,(d.kid 2).v,.sl (bdV l) i] A=some (.c (.bool (isX (atF 0 F.ds) S f (d.kid 2) l)),A')∧FAt F A' ((upX (atF 0 F.ds) S f (d.kid 2) l).foldl bP (T,c)).1 S ((upX (atF 0 F.ds) S f (d.kid 2) l).foldl bP (T,c)).2∧Same F A A':=by
 intro d hd l i A T S c hl hF hT hA;have:=pY ok (ns:=ns) (S:=S) (B:=B) hB2 hds f (d.kid 2) (hok d hd) m hm l i A T c (by have:=hsz d hd;omega) hF hT hA;rw[hfi] at this;exact this
theorem EY {F:Fd}(hfi:F.fi=2){m:Nat}{ns:List Nat}(hns:ns=F.ds.map fun d=>(d.kid 1).kids.length) (hk:∀d∈F.ds,d.kids.length=3∧(d.kid 1).kids.length≤8) (hds:F.ds.length<1000000000) (hm:100≤m) :
  ∀j (hj:j<F.ds.length) A T S c,FAt F A T S c→T.map List.length=ns→bh A→∃si,call X E (m+1) 91 [.ref 2 0,.c (.int .i64 j)] A=some (.sl (bdV (scB F.ds[j] (T.getD j []))) si,A):=by
 intro j hj A T S c hF hT hA;obtain⟨k1,k2⟩:=hk _ (List.getElem_mem hj);have hjT:j<T.length:=by rw[hF.tlen];exact hj
 have hle:((F.ds[j]).kid 1).kids.length=(T[j]).length:=by
  have h1:=congrArg (fun l=>l[j]?) hT;simp only[hns,List.getElem?_map,gE hjT,gE hj,Option.map_some] at h1;exact (Option.some.inj h1).symm
 have:=Ie hF hA hj (by omega) hjT hle (n:=m) (by omega) (by omega) hds;rw[hfi] at this;have hrow:T.getD j []=T[j]:=by simp[List.getD,gE hjT]
 rw[hrow];exact this
theorem E5 {m:Nat}(hm:110≤m):∀(l:List Int) (x:Int) id (h:List O),h[id]?=some (.cells (itv l))→l.length<100→call X E (m+1) 92 [.row id 0 l.length none,.c (.int .i64 x)] h=some (.c (.bool (decide (x∈l))),h) :=
 fun l x id h h1 h2=>Gv l x h1 (by omega) (by omega)
def GvV (w:V) (g:List Bool):Prop:=(∃i,w=.sl (bvs g) i)∨(g=[]∧∃id,w=.row id 0 0 none)
theorem HU (t:D) (h:t.fck=0) (g:List Bool) (w:V) (hw:GvV w g) (hg:g.length=((t.kid 0).kid 1).kids.length){n:Nat}(hn:40*t.sz+1000≤n) (h0:List O) :
  ∃e F T S,call X E (n+1) 34 [t.v,w] h0=some (.ref F.fi 0,h0++e)∧F.Ok∧F.ds=ca t∧h0.length≤F.fi∧FAt F (h0++e) T S false∧(bh h0→bh (h0++e))∧(plH h0→plH (h0++e))∧Lst (atF 0 (ca t)) t.sz (ca t) (srt (ca t) g) T S:=by
 obtain⟨q1,q2,q3,q4,q5,q6⟩:=eO (iB h).1;obtain⟨hfm,hs,-⟩:=tV h;have hpg:=zN h;have hri:=hpg.ri;have hpos:=hpg.cgr.pos;have hmain:(ca t).getD 0 .z0=t.kid 0:=by rw[List.getD_eq_getElem?_getD,hpg.main];rfl
 rw[cR (xf:=x34) rfl rfl rfl];obtain⟨P,hP⟩:∃P:V→List O→Prop,P=fun v H=>v=.ref 2 0∧∃F T S,F.fi=2∧F.Ok∧F.ds=ca t∧FAt F H T S false∧bh H∧plH H∧Lst (atF 0 (ca t)) t.sz (ca t) (srt (ca t) g) T S:=⟨_,rfl⟩
 obtain⟨v,H,h1,h2⟩:=iv (cf:=call X E n) (n:=n) (xf:=x34) (args:=[t.v,w]) (h:=h0) (P:=P) (by kernel_rfl) rfl rfl (by rcases hw with⟨i,rfl⟩|⟨rfl,id,rfl⟩<;>simp[aM,da,V.lows,V.low,D.low,fl,SI.low]) (by
  refine cq ?_;have hkl:=bV t;have hrl:(ca t).length≤t.sz:=by have:=hri.len;omega
  have hdm:∀d∈ca t,d∈t.kids:=hri.mem;have hsz:∀d∈ca t,(d.kid 2).sz+100≤t.sz+100:=fun d hd=>by
   have a:=aW (hdm d hd);have b:=aW (bI (d:=d) (j:=2) (by have:=(q6 d (hdm d hd)).2.1;omega));omega
  have hk:∀d∈ca t,d.kids.length=3∧(d.kid 1).kids.length≤8:=fun d hd=>⟨(q6 d (hdm d hd)).2.1,(q6 d (hdm d hd)).2.2.2.2⟩
  obtain⟨n,rfl⟩:∃n',n=n'+1:=⟨n-1,by omega⟩
  obtain⟨s0,hs0,c88⟩:=HN t h (n:=n) (by omega);have c88:∀h,call X E (n+1) 88 [t.v] h=some (.sl (D.vs (ca t)) s0,h):=c88;have c89:∀(x:D) h,call X E (n+1) 89 [x.v] h=some (x.key,h):=fun x=>Ht x
  have c90:=fun (F:Fd) (ok:F.Ok) (hfi:F.fi=2) (hds:F.ds=ca t)=>Ej ok hfi (f:=t.sz) (B:=t.sz+100) (m:=n+1) (ns:=(ca t).map fun d=>(d.kid 1).kids.length) (by rw[hds]) (by rw[hds];exact hpg.cgr.rch.ok) (by rw[hds];exact hsz) (by omega) (by rw[hds];omega) (by omega)
  have c91:=fun (F:Fd) (hfi:F.fi=2) (hds:F.ds=ca t)=>EY hfi (m:=n) (ns:=(ca t).map fun d=>(d.kid 1).kids.length) (by rw[hds]) (by rw[hds];exact hk) (by rw[hds];omega) (by omega)
  have c92:=E5 (m:=n) (by omega);have hnd:=fun j (hj:j<(ca t).length)=>yZ hri.nd hj
  have hcg:=hpg.cgr;have hsl:=aa (ca t);generalize call X E (n+1)=cf at *;generalize hds:ca t=ds at *;have hvs0:(V.sl (D.vs ds) s0).vwf=.sl (D.vs ds) s0:=by rcases hs0 with rfl|rfl<;>rfl
  have hlo0:bh [O.cells t.v.cells,O.mapo [] [],eu ds s0 [] .nil (.sl [] .nil) false]:=by
   have a:=D.low_cells 3 t;have b:=D.lows 3 ds;rcases hs0 with rfl|rfl<;>simp[bh,eu,bf,O.low,V.lows,V.low,SI.low,a,b]
  have hmv:(V.mref 1).vwf=.mref 1:=rfl;have hpl0:plH [O.cells t.v.cells,O.mapo [] [],eu ds s0 [] .nil (.sl [] .nil) false]:=dc (plD _) (dc rfl (dc (vS _ _ _ _ _ _ rfl _) gA));have hdl:ds.length<1000000:=by omega
  obtain⟨w2,hw2⟩:∃w2,w2=w.vw2:=⟨_,rfl⟩
  have hvw:([t.v,w]:List V).map V.vw2=[t.v,w2]:=by simp only[List.map_cons,List.map_nil,D.vw2,hw2]
  rw[hvw];simp -implicitDefEqProofs [x34_w,ae,c88,hvs0,hsl,hmv];refine BC (ds:=ds) (s0:=s0) (si0:=s0) c89 (fun d hd=>by have:=hk d hd;omega) hnd (by simp[au]) (by simp[au]) (by simp[au]) (by simp[au]) rfl rfl rfl hlo0 hpl0 (by omega) hdl fun e1 H1 rb1 rs si1 a1 a2 a3 a4 a5 aP=>?_
  have b5:=a1 5 rfl;have b1:=a1 1 rfl;have b126:=a1 126 rfl;have b128:=a1 128 rfl;simp[au,dR] at b5 b1 b126 b128;clear a1;have hl2:2<H1.length:=(gS.1 a2).1;have FK:(List.replicate ds.length [V.c (.bool false)]).flatten=bvs (List.replicate ds.length false):=by
   generalize ds.length=m
   induction m with
   | zero=>rfl
   | succ m ih=>rw[List.replicate_succ,List.flatten_cons,ih,List.replicate_succ];rfl
  have a2a:∀R,(H1++R)[2]?=some (eu ds s0 rs si1 (.sl [] .nil) false):=fun R=>co a2 R
  unfold eu at a2a;simp -implicitDefEqProofs [b5,a2a,hsl];rw[lm _ _ _ _ _ _ ⟨by omega,by omega,by simp;omega⟩];rw[Int.toNat_natCast,FK];have hst:(H1++[O.dead]).set H1.length (.cells (bvs (List.replicate ds.length false)))=H1++[.cells (bvs (List.replicate ds.length false))]:=by
   rw[List.set_append_right _ _ (nL _),Nat.sub_self];rfl
  simp -implicitDefEqProofs [hst,a2a];obtain⟨F,hF⟩:∃F:Fd,F=⟨2,1,H1.length,rs,ds,s0,si1⟩:=⟨_,rfl⟩
  obtain⟨H2,hH2⟩:∃H2,H2=(H1++[O.cells (bvs (List.replicate ds.length false))]).set 2 (O.cells [.sl (D.vs ds) s0,.mref 1,.sl (bf rs) si1,.row H1.length 0 ds.length none,.c (.bool false)]):=⟨_,rfl⟩
  have hrs:rs.length=ds.length:=by have:=congrArg List.length a5.len;simpa using this
  have hFi:F.fi=2:=by rw[hF]
  have hFd:F.ds=ds:=by rw[hF]
  have ok:F.Ok:=by
   rw[hF];refine⟨by simp,by simp only;omega,by simp only;omega,fun p hp=>?_,a5.inj⟩;have:=(a5.row p hp).1;have:=a5.lt p hp;simp only;omega
  have hF2:FAt F H2 (ds.map fun d=>List.replicate (d.kid 1).kids.length (-3)) (List.replicate ds.length false) false:=by
   rw[hF,hH2];refine⟨sS (by simp;omega),?_,?_,by simp,by simp,hrs,fun k hk=>?_⟩
   ·rw[sN (by simp)];exact co a3 _
   ·rw[sN (by simp only;omega)];simp
   ·rw[List.length_map] at hk;have h9:=congrArg (fun l=>l[k]?) a5.len;simp only[List.getElem?_map,gE hk,gE (show k<rs.length by omega),Option.map_some] at h9;have h9:=Option.some.inj h9;have hm9:rs[k]'(by omega)∈rs:=List.getElem_mem _;obtain⟨r1,r2⟩:=a5.row _ hm9;refine⟨(rs[k]'(by omega)).1,?_,?_⟩
    ·rw[gE (show k<rs.length by omega)];simp[← h9]
    ·rw[sN (by omega),co r2];simp[h9]
  have hl2':bh H2:=by
   rw[hH2];refine eV (sV a4 (by simp[O.low,fl])) ?_;have:=List.all_eq_true.1 a4 _ (List.mem_of_getElem? a2);simp only[eu,O.low,V.lows,V.low,bT,Bool.and_true,SI.low,and_true] at this ⊢;have hlr:V.lows (H1++[O.cells (bvs (List.replicate ds.length false))]).length (bf rs)=true:=b7 fun v hv=>by
    have:=eJ this.2.2.1 v hv;exact lg (by simp) v this
   refine⟨⟨D.lows _ _,?_⟩,?_,⟨hlr,?_⟩,?_⟩
   ·cases s0<;>simp_all [SI.low]<;>omega
   ·simp;omega
   ·cases si1<;>simp_all [SI.low]<;>omega
   ·simp
  have hp2':plH H2:=by
   rw[hH2];exact dS (gH aP (dc (AF _) gA)) (vS _ _ _ _ _ _ (by simp[aX,nI]) _)
  have hT1:0<(ds.map fun d=>List.replicate (d.kid 1).kids.length (-3)).length:=by simpa using hpos
  have hg0:g.length=((ds.map fun d=>List.replicate (d.kid 1).kids.length (-3:Int))[0]'hT1).length:=by
   rw[hg,List.getElem_map,List.length_replicate];rw[← hmain,List.getD_eq_getElem?_getD,gE hpos];rfl
  have hgl:g.length≤8:=by
   rw[hg,← hmain,List.getD_eq_getElem?_getD,gE hpos];exact (hk _ (List.getElem_mem hpos)).2
  have hgb:=cd g;rw[← hH2];have cont:∀e3 H3 rb3,e3 5=.ref 2 0→e3 126=az→e3 128=az→FAt F H3 ((ds.map fun d=>List.replicate (d.kid 1).kids.length (-3)).set 0 (giv 0 g)) (List.replicate ds.length false) false→bh H3→plH H3 →
    wpk cf (n+1) (.seq (.seq x34r28 (.block 6 (.loop x34l39))) (.seq x34r40 .ret)) [] (Fin (fun vs s=>P (bk vs).vwr s) x34) ⟨e3,H3,0,rb3⟩:=by
   intro e3 H3 rb3 y5 y126 y128 z2 z3 zP;obtain⟨w1,w2⟩:=FAt.setC ok z2 true;have w3:=FAt.low z3 z2 w1 w2;have wP:=iW zP w1 w2;have zo:=z2.obj;rw[hFi] at zo w1 w3 wP;have hFl:F.ds.length=ds.length:=by rw[hFd]
   obtain⟨A4,hA4⟩:∃A4,A4=H3.set 2 (O.cells [.sl (D.vs F.ds) F.s0,.mref F.mi,.sl (bf F.rs) F.s2,.row F.sj 0 F.ds.length none,.c (.bool true)]):=⟨_,rfl⟩
   rw[← hA4] at w1 w3 wP;have w1':FAt F A4 (srt ds g) (List.replicate F.ds.length false) true:=by rw[hFl];exact w1
   simp -implicitDefEqProofs [x34r28_w,y5,zo,← hA4];refine Ch ok hFi (f:=t.sz) (T0:=srt ds g) (A:=A4) (R:=[]) (ns:=ds.map fun d=>(d.kid 1).kids.length) (by rw[hFd];exact hcg) (by rw[hFd]) ?_ (by rw[hFd];exact fun d hd=>by have:=hk d hd;omega) ?_ ?_ c92 (by simp[au,y5]) rfl (List.append_nil _).symm w1' w3 rfl wP gA ?_ ?_ (by rw[hFd];omega) ?_ (by rw[hFd];omega) fun e4 H4 rb4 A' R' T S u1 u2 u3 u4 u5 u6 u7 u8=>?_
   ·exact pn hpos (by rw[hmain];exact hg)
   ·exact c90 F ok hFi hFd
   ·exact c91 F hFi hFd
   ·intro id o h9;simp[au,y126,az] at h9
   ·intro id o h9;simp[au,y128,az] at h9
   ·have h9:=DK (srt ds g) fun r hr=>by
     unfold srt at hr;rcases List.mem_or_eq_of_mem_set hr with hr|rfl
     ·obtain⟨d,hd,rfl⟩:=List.mem_map.1 hr;rw[List.length_replicate];exact (hk d hd).2
     ·rw[dG];exact hgl
    have h8:(srt ds g).length=ds.length:=by simp[srt]
    rw[hFd];omega
   ·have u3':=u3;rw[hFd] at u6;simp -implicitDefEqProofs [x34r40_w,x34_r,u1];have hH4:H4=A'++R':=u2;rw[hP];refine⟨rfl,F,T,S,hFi,ok,hFd,?_,?_,by rw[hH4];exact gH u7 u8,u6⟩
    ·rw[hH4];exact u3.app _
    ·rw[hH4];exact sV u4 (by
      rw[List.all_eq_true] at u5 ⊢;exact fun o ho=>lZ (Nat.zero_le _) (u5 o ho))
  rcases hw with⟨i,rfl⟩|⟨rfl,id,rfl⟩
  ·have hw2:w2=.sl (bvs g) .any:=by rw[hw2,aM]
   subst hw2;simp -implicitDefEqProofs [b1,hgb];refine B6 ok hFi (g:=g) (i:=.any) (by simp[au,b5]) (by simp[au]) (by simp[au]) (by simp[au]) (by simp[au]) hF2 hl2' hp2' hT1 hg0 (by omega) (by omega) (by rw[hFd];omega) fun e3 H3 rb3 z1 z2 z3 zP=>?_
   have y5:=z1 5 rfl;have y126:=z1 126 rfl;have y128:=z1 128 rfl;simp[au,b5,b126,b128] at y5 y126 y128;simp -implicitDefEqProofs [];exact cont e3 H3 rb3 y5 y126 y128 z2 z3 zP
  ·have hw2:w2=.row id 0 0 none:=by rw[hw2,da]
   subst hw2;have z2:FAt F H2 ((ds.map fun d=>List.replicate (d.kid 1).kids.length (-3)).set 0 (giv 0 [])) (List.replicate ds.length false) false:=by
    have e0:(ds.map fun d=>List.replicate (d.kid 1).kids.length (-3:Int)).set 0 (giv 0 [])=ds.map fun d=>List.replicate (d.kid 1).kids.length (-3):=by
     have h9:((ds.map fun d=>List.replicate (d.kid 1).kids.length (-3:Int))[0]'hT1)=[]:=List.eq_nil_of_length_eq_zero (by rw[← hg0];rfl);rw[show giv 0 []=((ds.map fun d=>List.replicate (d.kid 1).kids.length (-3:Int))[0]'hT1) from h9.symm,List.set_getElem_self]
    rw[e0];exact hF2
   simp -implicitDefEqProofs [b1];refine bn (fun k s=>s.e 79=.c (.int .i64 0)∧s.h=H2) 0 (by omega) ⟨by simp[au],rfl⟩ ?_;rintro k ⟨e3,h',base,rb⟩ ⟨hj,hh⟩ he hb;have y78:=he 78 rfl;have y5:=he 5 rfl;have y126:=he 126 rfl;have y128:=he 128 rfl;simp[au,b5,b126,b128] at y78 y5 y126 y128 hb;simp only at hj hh;subst hb hh;simp -implicitDefEqProofs [x34l27_w,y78,hj];exact cont _ _ _ (by simp[au,y5]) (by simp[au,y126]) (by simp[au,y128]) z2 hl2' hp2')
 rw[hP] at h1;obtain⟨rfl,F,T,S,k1,k2,k3,k4,k5,kP,k6⟩:=h1;refine⟨H.map (O.shift h0.length),F.shift h0.length,T,S,?_,k2.shift _,k3,?_,k4.shift h0,fun hh=>kz hh k5,fun hh=>uo hh kP,k6⟩
 ·rw[h2];simp only[Fd.shift,k1];rfl
 ·simp only[Fd.shift];omega
theorem uy (l:List Bool):Ab.hz 1 (bvs l)=true:=by cases l<;>rfl
theorem FU (t:D) (hs:t.sz<1000000000) (g:List Bool) (w:V) (hw:GvV w g){n:Nat}(hn:6*t.sz+511≤n):bg (n+1) 33 [t.v,w] (.c (.int .i64 (rdy t g.length))):=by
 rcases hw with⟨i,rfl⟩|⟨rfl,id,rfl⟩
 ·have:=Ib t hs (bvs g) (uy g) i (fl 0 g) hn;rw[cd] at this;exact this
 obtain⟨d,U,si,hU,c87⟩:=Hp t hs (n:=n-1) (by omega);rw[Nat.sub_add_cancel (by omega)] at c87;have c87:∀h,call X E n 87 [t.v] h=_:=c87;refine aA rfl rfl rfl (by kernel_rfl) ⟨rfl,rfl⟩ (by simp[da,V.lows,V.low]) ?_;unfold rdy;generalize call X E n=cf at *;by_cases h0:t.fck=0
 ·have hU:=hU h0;rw[h0] at c87 ⊢;rw[if_neg (by simp),List.length_nil];by_cases hl:0=((t.kid 0).kid 1).kids.length
  ·have hlb:((0:Int) != U.length)=false:=by rw[hU,← hl];simp
   rw[if_neg (by simpa using hl)];simp -implicitDefEqProofs [x33_w,x33_r,ae,c87,da,hlb]
  ·have hlb:((0:Int) != U.length)=true:=by rw[hU];simp;omega
   rw[if_pos hl];simp -implicitDefEqProofs [x33_w,x33_r,ae,c87,da,hlb]
 ·have h0b:(t.fck==0)=false:=beq_false_of_ne h0;rw[if_pos h0];generalize t.fck=r at *;simp -implicitDefEqProofs [x33_w,x33_r,ae,c87,da,h0b]
def tP (T:List (List Int)):List V:=T.map fun r=>.sl (itv r) .any
def RowsIs (vs:List V) (T:List (List Int)):Prop:=vs=tP T∨(∃rs,vs=bf rs∧rs.map (·.2)=T.map List.length∧∀r∈T,r=[])
theorem j9 {H:List O}{n:Nat}:∀(rs:List (Nat × Nat)) (T:List (List Int)),rs.length=T.length→(∀k (hk:k<T.length),∃id,rs[k]?=some (id,(T[k]).length)∧H[id]?=some (.cells (itv T[k])))→dI 0 (fV 0 H (n+1)) H (bf rs)=some (tP T)
 | [],[],_,_=>rfl
 | [],_::_,h,_=>by cases h
 | _::_,[],h,_=>by cases h
 | p::rs,r::T,h,hk=>by
  have ih:=j9 (n:=n) rs T (by simpa using h) fun k hk'=>by
   obtain⟨id,h1,h2⟩:=hk (k+1) (by simpa using hk');exact⟨id,by simpa using h1,by simpa using h2⟩
  obtain⟨id,h1,h2⟩:=hk 0 (by simp);simp only[List.getElem?_cons_zero,sI,List.getElem_cons_zero] at h1 h2;have h3:=lU (n:=n) (Eo r) h2;rw[bU] at h3;have h4:bx 0 (fV 0 H (n+1)) H (.row p.1 0 p.2 none)=some (.sl (itv r) .any):=by rw[h1];exact h3
  unfold bf tP at ih ⊢;simp only[List.map_cons,dI,h4,ih]
theorem jX {rs:List (Nat × Nat)}(h:V.lows 0 (bf rs)=true):∀p∈rs,p.2=0:=fun p hp=>by
 have:=eJ h (.row p.1 0 p.2 none) (List.mem_map.2 ⟨p,hp,rfl⟩);simpa[V.low] using this
theorem go9 (t:D) (hs:t.sz<1000000000) (g:List Bool) (w:V) (hw:GvV w g){n:Nat}(hn:40*t.sz+1010≤n) :
  (rdy t g.length≠0→bg (n+1) 9 [t.v,w] (.tup [.sl [] .any,.c (.int .i64 (rdy t g.length))])) ∧
  (rdy t g.length=0→∃T S vs,Lst (atF 0 (ca t)) t.sz (ca t) (srt (ca t) g) T S∧RowsIs vs T∧(0<g.length→vs=tP T)∧bg (n+1) 9 [t.v,w] (.tup [.sl vs .any,.c (.int .i64 0)])):=by
 have hlw:V.lows 0 (([t.v,w]:List V).map V.vw2)=true:=by rcases hw with⟨i,rfl⟩|⟨rfl,id,rfl⟩<;>simp[aM,da,V.lows,V.low,D.low,fl,SI.low]
 have hvw:∃w2,([t.v,w]:List V).map V.vw2=[t.v,w2]∧GvV w2 g:=by
  rcases hw with⟨i,rfl⟩|⟨rfl,id,rfl⟩
  ·exact⟨.sl (bvs g) .any,by simp only[List.map_cons,List.map_nil,D.vw2,aM],.inl ⟨_,rfl⟩⟩
  ·exact⟨.row id 0 0 none,by simp only[List.map_cons,List.map_nil,D.vw2,da],.inr ⟨rfl,_,rfl⟩⟩
 obtain⟨w2,hvw,hw2⟩:=hvw;obtain⟨n,rfl⟩:∃n',n=n'+1:=⟨n-1,by omega⟩
 have c33:∀h,call X E (n+1) 33 [t.v,w2] h=some (.c (.int .i64 (rdy t g.length)),h):=FU t hs g w2 hw2 (by omega);constructor
 ·intro h0;refine aA rfl rfl rfl (by kernel_rfl) ⟨rfl,rfl⟩ hlw ?_;rw[hvw];have h0b:(rdy t g.length != 0)=true:=by simp[h0]
  generalize rdy t g.length=r at *;generalize call X E (n+1)=cf at *;simp -implicitDefEqProofs [x9_w,x9_r,ae,c33,h0b,V.low,V.lows,SI.low]
 ·intro h0;rw[h0] at c33;have hr:=h0;unfold rdy at hr;have hfck:t.fck=0:=Classical.byContradiction fun hc=>by rw[if_pos hc] at hr;exact hc hr
  have hgl:g.length=((t.kid 0).kid 1).kids.length:=by
   rw[if_neg (by simpa using hfck)] at hr;exact Classical.byContradiction fun hc=>by rw[if_pos hc] at hr;cases hr
  obtain⟨e,F,T,S,c34,ok,hFd,hFi,hF,hFl,-,hL⟩:=HU t hfck g w2 hw2 hgl (n:=n) (by omega) [.cells t.v.cells];have hpg:=zN hfck;have hTl:=hL.lens hpg.cgr.pos (by rw[hgl,List.getD_eq_getElem?_getD,hpg.main];rfl);refine⟨T,S,if V.lows 0 (bf F.rs)=true then bf F.rs else tP T,hL,?_,?_,?_⟩
  ·split
   ·rename_i h9;refine .inr ⟨F.rs,rfl,?_,fun r hr=>?_⟩
    ·refine List.ext_getElem (by simp[hF.rlen,hF.tlen]) fun k k1 k2=>?_
     simp only[List.length_map] at k1 k2;obtain⟨id,r1,r2⟩:=hF.row k k2;rw[gE k1] at r1;simp[Option.some.inj r1]
    ·obtain⟨k,hk,rfl⟩:=List.getElem_of_mem hr;obtain⟨id,r1,r2⟩:=hF.row k hk;have:=jX h9 _ (List.mem_of_getElem? r1);exact List.eq_nil_of_length_eq_zero this
   ·exact .inl rfl
  ·intro hg0;split
   ·rename_i h9;exfalso;have hT0:0<T.length:=by rw[gX hTl];exact hpg.cgr.pos
    obtain⟨id,r1,r2⟩:=hF.row 0 hT0;have:=jX h9 _ (List.mem_of_getElem? r1);simp only at this;have h8:=congrArg (fun l=>l[0]?) hTl;simp only[List.getElem?_map,gE hT0,hpg.main,Option.map_some] at h8;have h8:=Option.some.inj h8;omega
   ·rfl
  ·have ho:=hF.obj;obtain⟨H,hH⟩:∃H,H=[O.cells t.v.cells]++e:=⟨_,rfl⟩
   rw[← hH] at c34 ho hF;have hHl:1≤H.length:=by rw[hH];simp
   by_cases h9:V.lows 0 (bf F.rs)=true
   ·rw[if_pos h9];refine aA rfl rfl rfl (by kernel_rfl) ⟨rfl,rfl⟩ hlw ?_;rw[hvw];generalize bf F.rs=R at *;generalize call X E (n+1)=cf at *;simp -implicitDefEqProofs [x9_w,x9_r,ae,c33,c34,ho,hHl,V.low,V.lows,SI.low,h9]
   ·rw[if_neg h9];have h9:V.lows 0 (bf F.rs)=false:=by simpa using h9
    obtain⟨m,hm⟩:∃m,n=m+1:=⟨n-1,by omega⟩
    have hsn:=j9 (H:=H) (n:=m) F.rs T (by rw[hF.rlen,hF.tlen]) hF.row;rw[← hm] at hsn;refine sq rfl rfl rfl (by kernel_rfl) ⟨rfl,rfl⟩ hlw ?_;rw[hvw];have hlo:V.lows 0 (tP T)=true:=b7 fun v hv=>by
     obtain⟨r,_,rfl⟩:=List.mem_map.1 hv;simp[V.low,fp,SI.low]
    generalize bf F.rs=R at *;generalize tP T=RT at *;generalize call X E (n+1)=cf at *;simp -implicitDefEqProofs [x9_w,x9_r,ae,c33,c34,ho,hHl];refine⟨by simp[V.low,V.lows,h9],?_,by simp[V.low,V.lows,hlo,SI.low]⟩;show bx 0 (fV 0 H n) H (.tup _)=_;simp only[bx,dI,hsn,Option.map_some]
def tl (v:V) (r:List Int):Prop:=v=.sl (itv r) .any∨(r=[]∧∃id,v=.row id 0 0 none)
theorem RowsIs.len {vs:List V}{T:List (List Int)}(h:RowsIs vs T):vs.length=T.length:=by
 rcases h with rfl|⟨rs,rfl,h1,-⟩
 ·simp[tP]
 ·rw[dl];have:=congrArg List.length h1;simpa using this
theorem RowsIs.get {vs:List V}{T:List (List Int)}(h:RowsIs vs T){i:Nat}(hi:i<T.length):tl (vs[i]'(by rw[h.len];exact hi)) T[i]:=by
 rcases h with rfl|⟨rs,rfl,h1,h2⟩
 ·left;simp[tP]
 ·right;have hil:i<rs.length:=by have:=congrArg List.length h1;simp at this;omega
  have h3:=congrArg (fun l=>l[i]?) h1;simp only[List.getElem?_map,gE hi,gE hil,Option.map_some] at h3;have h4:=h2 _ (List.getElem_mem hi);refine⟨h4,(rs[i]).1,?_⟩;have h5:=Option.some.inj h3;rw[h4] at h5;simp only[bf,List.getElem_map];rw[h5];rfl
theorem DP {cf:av}{n:Nat}{K:List Fr}{Q:Ex→SF→Prop}{s:SF}{id m:Nat}{v8:V}(e8:s.e 8=v8) (hv:∀H,Dz v8 H=some (.c (.int .i64 m),H)) (e11:s.e 11=.row id 0 m none) (e13:s.e 13=.c (.int .i64 0)) (hid:s.h[id]?=some (.cells (bvs (List.replicate m false)))) (hn:m<n) (hl:m<1000000)
  (hq:∀e rb,(∀t,(dO x3l11).contains t=false→e t=s.e t)→d9 cf n K Q (.exit 0) ⟨e,s.h.set id (.cells (bvs (List.replicate m true))),s.base,rb⟩):lpk cf n x3l11 K Q s:=by
 have hil:id<s.h.length:=(gS.1 hid).1;obtain⟨J,hJ⟩:∃J:Nat→SF→Prop,J=fun k s'=>∃j,j+k=m∧s'.e 13=.c (.int .i64 j)∧s'.h=s.h.set id (.cells (bvs (List.replicate j true++List.replicate (m-j) false))):=⟨_,rfl⟩
 refine bn J m hn (by
  rw[hJ];refine⟨0,by simp,e13,?_⟩;refine List.ext_getElem? fun i=>?_
  by_cases c:id=i
  ·subst c;rw[sS hil];simpa using hid
  ·rw[sN c]) ?_
 rintro k ⟨e,H,base,rb⟩ hj he hb;rw[hJ] at hj;obtain⟨j,hj,f13,hH⟩:=hj;have f8:e 8=_:=(he 8 rfl).trans e8;have f11:e 11=_:=(he 11 rfl).trans e11;simp only at f13 hH hb;by_cases hm:j<m;rotate_left
 ·have hlt:¬(j:Int)<m:=by omega
  obtain rfl:j=m:=by omega
  rw[Nat.sub_self,List.replicate_zero,List.append_nil] at hH;subst hb hH;simp -implicitDefEqProofs [x3l11_w,f8,hv,f13,hlt];refine hq _ _ fun t ht=>?_
  have hne:∀k,(dO x3l11).contains k=true→t≠k:=fun k hk e=>by rw[e,hk] at ht;cases ht
  simp only[au,if_neg (hne 54 rfl),if_neg (hne 55 rfl),if_neg (hne 56 rfl),if_neg (hne 57 rfl)];exact he t ht
 have hlt:(j:Int)<m:=by omega
 have hw:IntKind.i64.wrap ((j:Int)+1)=(j:Int)+1:=aH (by omega);obtain⟨r,hr⟩:∃r,r=List.replicate j true++List.replicate (m-j) false:=⟨_,rfl⟩
 rw[← hr] at hH;have hrl:r.length=m:=by rw[hr];simp;omega
 have hH2:H[id]?=some (.cells (bvs r)):=by rw[hH,sS hil]
 have hbl:=cd r;have hjr:j<r.length:=by omega
 have hspl:=gW hjr true;have hjl:j+1≤r.length:=by omega
 rw[← hrl] at f11;have hlt2:(j:Int)<r.length:=by omega
 simp -implicitDefEqProofs [x3l11_w,f8,hv,f11,f13,hlt,hlt2,hH2,hbl,hjl,hjr,hspl,hw];refine⟨k-1,by omega,?_⟩;rw[hJ];refine⟨j+1,by omega,by simp[au],?_⟩;have e1:r.set j true=List.replicate (j+1) true++List.replicate (m-(j+1)) false:=by
  rw[hr,List.set_append_right _ _ (by simp),List.length_replicate,Nat.sub_self,show m-j=(m-(j+1))+1 by omega,List.replicate_succ,List.set_cons_zero,List.replicate_succ',List.append_assoc];rfl
 rw[← e1,hH,List.set_set]
theorem Bf {cf:av}{n:Nat}{K:List Fr}{Q:Ex→SF→Prop}{s:SF}{vs:List V}{si:SI}{i:Nat}{r:List Int}(hi:i<vs.length) (hr:tl (vs[i]) r) (hd : -2 ∉ r) (e14:s.e 14=.sl vs si) (e18:s.e 18=.c (.int .i64 i)) (e19:s.e 19=.c (.int .i64 0)) (hn:r.length<n) (hl:r.length<1000000)
  (hq:∀e rb,(∀t,(dO x3l23).contains t=false→e t=s.e t)→d9 cf n K Q (.exit 4) ⟨e,s.h,s.base,rb⟩):lpk cf n x3l23 K Q s:=by
 have hii:(i:Int)<vs.length:=by omega
 obtain⟨J,hJ⟩:∃J:Nat→SF→Prop,J=fun k s'=>∃j:Nat,j+k=r.length∧s'.e 19=.c (.int .i64 j)∧s'.h=s.h:=⟨_,rfl⟩
 refine bn J r.length hn (by rw[hJ];exact⟨0,by simp,e19,rfl⟩) ?_;rintro k ⟨e,H,base,rb⟩ hj he hb;rw[hJ] at hj;obtain⟨j,hj,f19,hH⟩:=hj;have f14:e 14=_:=(he 14 rfl).trans e14;have f18:e 18=_:=(he 18 rfl).trans e18;simp only at f19 hH hb;subst hH;have hfin:∀e' rb',(∀t,(dO x3l23).contains t=false→e' t=e t)→d9 cf n K Q (.exit 4) ⟨e',s.h,base,rb'⟩:=fun e' rb' h'=>by
  rw[hb];exact hq _ _ fun t ht=>(h' t ht).trans (he t ht)
 rcases hr with hr|⟨rfl,id,hr⟩
 ·have hil:=bU r;by_cases hm:j<r.length;rotate_left
  ·have hlt:¬(j:Int)<r.length:=by omega
   simp -implicitDefEqProofs [x3l23_w,f14,f18,f19,hii,hi,hr,hil,hlt];refine hfin _ _ fun t ht=>?_
   have hne:∀k,(dO x3l23).contains k=true→t≠k:=fun k hk e=>by rw[e,hk] at ht;cases ht
   simp only[au,if_neg (hne 106 rfl),if_neg (hne 107 rfl),if_neg (hne 108 rfl),if_neg (hne 109 rfl),if_neg (hne 110 rfl),if_neg (hne 111 rfl),if_neg (hne 112 rfl)]
  have hlt:(j:Int)<r.length:=by omega
  have hw:IntKind.i64.wrap ((j:Int)+1)=(j:Int)+1:=aH (by omega);have hvg:=gZ (l:=r) (j:=j) (by rw[hil];exact hm);have hx:(r[j] == -2)=false:=beq_false_of_ne fun c=>hd (by rw[← c];exact List.getElem_mem hm)
  simp -implicitDefEqProofs [x3l23_w,f14,f18,f19,hii,hi,hr,hil,hlt,hm,hvg,hx,hw];refine⟨k-1,by omega,?_⟩;rw[hJ];exact⟨j+1,by omega,by simp[au],rfl⟩
 ·have h0:¬(j:Int)<0:=by omega
  simp -implicitDefEqProofs [x3l23_w,f14,f18,f19,hii,hi,hr,h0];refine hfin _ _ fun t ht=>?_
  have hne:∀k,(dO x3l23).contains k=true→t≠k:=fun k hk e=>by rw[e,hk] at ht;cases ht
  simp only[au,if_neg (hne 106 rfl),if_neg (hne 107 rfl),if_neg (hne 108 rfl),if_neg (hne 109 rfl),if_neg (hne 110 rfl),if_neg (hne 111 rfl),if_neg (hne 112 rfl)]
theorem D7 {cf:av}{n:Nat}{K:List Fr}{Q:Ex→SF→Prop}{s:SF}{vs:List V}{si:SI}{T:List (List Int)}(hv:RowsIs vs T) (hd:∀r∈T,-2 ∉ r) (hrl:∀r∈T,r.length<100) (e14:s.e 14=.sl vs si) (e18:s.e 18=.c (.int .i64 0)) (hn:T.length+100<n) (hl:T.length<1000000)
  (hq:∀e rb,(∀t,(dO x3l25).contains t=false→e t=s.e t)→d9 cf n K Q (.exit 2) ⟨e,s.h,s.base,rb⟩):lpk cf n x3l25 K Q s:=by
 have hvl:=hv.len;obtain⟨J,hJ⟩:∃J:Nat→SF→Prop,J=fun k s'=>∃j:Nat,j+k=T.length∧s'.e 18=.c (.int .i64 j)∧s'.h=s.h:=⟨_,rfl⟩
 refine bn J T.length (by omega) (by rw[hJ];exact⟨0,by simp,e18,rfl⟩) ?_;rintro k ⟨e,H,base,rb⟩ hj he hb;rw[hJ] at hj;obtain⟨j,hj,f18,hH⟩:=hj;have f14:e 14=_:=(he 14 rfl).trans e14;simp only at f18 hH hb;subst hH;by_cases hm:j<T.length;rotate_left
 ·have hlt:¬(j:Int)<T.length:=by omega
  subst hb;simp -implicitDefEqProofs [x3l25_w,f14,f18,hvl,hlt];refine hq _ _ fun t ht=>?_
  have hne:∀k,(dO x3l25).contains k=true→t≠k:=fun k hk e=>by rw[e,hk] at ht;cases ht
  simp only[au,if_neg (hne 100 rfl),if_neg (hne 101 rfl),if_neg (hne 102 rfl),if_neg (hne 103 rfl)];exact he t ht
 have hlt:(j:Int)<T.length:=by omega
 have hw:IntKind.i64.wrap ((j:Int)+1)=(j:Int)+1:=aH (by omega);have hmem:=List.getElem_mem hm;simp -implicitDefEqProofs [x3l25_w,f14,f18,hvl,hlt];refine Bf (vs:=vs) (si:=si) (r:=T[j]) (i:=j) (by rw[hvl];exact hm) (hv.get hm) (hd _ hmem) (by simp[au,f14]) (by simp[au,f18]) (by simp[au]) (by have:=hrl _ hmem;omega) (by have:=hrl _ hmem;omega) fun e' rb' x1=>?_
 have y18:=x1 18 rfl;simp[au,f18] at y18;simp -implicitDefEqProofs [y18,hw];refine⟨k-1,by omega,?_⟩;rw[hJ];exact⟨j+1,by omega,by simp[au],rfl⟩
theorem Fu {cf:av}{n:Nat}{K:List Fr}{Q:Ex→SF→Prop}{s:SF}{vs:List V}{si:SI}{r:List Int}(hi:0<vs.length) (hr:tl (vs[0]) r) (hd:∀t∈r,t = -2) (e16:s.e 16=.sl vs si) (e20:s.e 20=.c (.int .i64 0)) (hn:r.length<n) (hl:r.length<1000000)
  (hq:∀e rb,(∀t,(dO x3l31).contains t=false→e t=s.e t)→d9 cf n K Q (.exit 6) ⟨e,s.h,s.base,rb⟩):lpk cf n x3l31 K Q s:=by
 have hii:(0:Int)<vs.length:=by omega
 obtain⟨J,hJ⟩:∃J:Nat→SF→Prop,J=fun k s'=>∃j:Nat,j+k=r.length∧s'.e 20=.c (.int .i64 j)∧s'.h=s.h:=⟨_,rfl⟩
 refine bn J r.length hn (by rw[hJ];exact⟨0,by simp,e20,rfl⟩) ?_;rintro k ⟨e,H,base,rb⟩ hj he hb;rw[hJ] at hj;obtain⟨j,hj,f20,hH⟩:=hj;have f16:e 16=_:=(he 16 rfl).trans e16;simp only at f20 hH hb;subst hH;have hfin:∀e' rb',(∀t,(dO x3l31).contains t=false→e' t=e t)→d9 cf n K Q (.exit 6) ⟨e',s.h,base,rb'⟩:=fun e' rb' h'=>by
  rw[hb];exact hq _ _ fun t ht=>(h' t ht).trans (he t ht)
 rcases hr with hr|⟨rfl,id,hr⟩
 ·have hil:=bU r;by_cases hm:j<r.length;rotate_left
  ·have hlt:¬(j:Int)<r.length:=by omega
   simp -implicitDefEqProofs [x3l31_w,f16,f20,hii,hi,hr,hil,hlt];refine hfin _ _ fun t ht=>?_
   have hne:∀k,(dO x3l31).contains k=true→t≠k:=fun k hk e=>by rw[e,hk] at ht;cases ht
   simp only[au,if_neg (hne 123 rfl),if_neg (hne 124 rfl),if_neg (hne 125 rfl),if_neg (hne 126 rfl),if_neg (hne 127 rfl),if_neg (hne 128 rfl)]
  have hlt:(j:Int)<r.length:=by omega
  have hw:IntKind.i64.wrap ((j:Int)+1)=(j:Int)+1:=aH (by omega);have hvg:=gZ (l:=r) (j:=j) (by rw[hil];exact hm);have hx:(r[j] != -2)=false:=by rw[hd _ (List.getElem_mem hm)];rfl
  simp -implicitDefEqProofs [x3l31_w,f16,f20,hii,hi,hr,hil,hlt,hm,hvg,hx,hw];refine⟨k-1,by omega,?_⟩;rw[hJ];exact⟨j+1,by omega,by simp[au],rfl⟩
 ·have h0:¬(j:Int)<0:=by omega
  simp -implicitDefEqProofs [x3l31_w,f16,f20,hii,hi,hr,h0];refine hfin _ _ fun t ht=>?_
  have hne:∀k,(dO x3l31).contains k=true→t≠k:=fun k hk e=>by rw[e,hk] at ht;cases ht
  simp only[au,if_neg (hne 123 rfl),if_neg (hne 124 rfl),if_neg (hne 125 rfl),if_neg (hne 126 rfl),if_neg (hne 127 rfl),if_neg (hne 128 rfl)]
theorem Ei {cf:av}{n:Nat}{K:List Fr}{Q:Ex→SF→Prop}{s:SF}{id a:Nat}{g:List Bool}(e8:s.e 8=.row id 0 g.length none) (e21:s.e 21=.c (.int .i64 a)) (e22:s.e 22=.c (.int .i64 0)) (e23:s.e 23=.c (.int .i64 0)) (hid:s.h[id]?=some (.cells (bvs g))) (ha:a<g.length) (hn:g.length<n) (hl:g.length<1000000)
  (hq:∀e rb,(∀t,(dO x3l40).contains t=false→e t=s.e t)→e 22=.c (.int .i64 (cnT (g.take a)))→d9 cf n K Q (.exit 8) ⟨e,s.h,s.base,rb⟩):lpk cf n x3l40 K Q s:=by
 have hbl:=cd g;obtain⟨J,hJ⟩:∃J:Nat→SF→Prop,J=fun k s'=>∃j:Nat,j+k=a∧s'.e 23=.c (.int .i64 j)∧s'.e 22=.c (.int .i64 (cnT (g.take j)))∧s'.h=s.h:=⟨_,rfl⟩
 refine bn J a (by omega) (by rw[hJ];exact⟨0,by simp,e23,by simpa[cnT] using e22,rfl⟩) ?_;rintro k ⟨e,H,base,rb⟩ hj he hb;rw[hJ] at hj;obtain⟨j,hj,f23,f22,hH⟩:=hj;have f8:e 8=_:=(he 8 rfl).trans e8;have f21:e 21=_:=(he 21 rfl).trans e21;simp only at f23 f22 hH hb;subst hH;by_cases hm:j<a;rotate_left
 ·have hlt:¬(j:Int)<a:=by omega
  obtain rfl:j=a:=by omega
  subst hb;simp -implicitDefEqProofs [x3l40_w,f21,f23,hlt];refine hq _ _ (fun t ht=>?_) (by simp[au,f22]);have hne:∀k,(dO x3l40).contains k=true→t≠k:=fun k hk e=>by rw[e,hk] at ht;cases ht
  simp only[au,if_neg (hne 146 rfl),if_neg (hne 147 rfl),if_neg (hne 148 rfl)];exact he t ht
 have hlt:(j:Int)<a:=by omega
 have hw:IntKind.i64.wrap ((j:Int)+1)=(j:Int)+1:=aH (by omega);have hjg:j<g.length:=by omega
 have hjgi:(j:Int)<g.length:=by omega
 have hrd:=pX hjg;have hcl:=qg (g.take j);rw[List.length_take] at hcl;have hw2:IntKind.i64.wrap ((cnT (g.take j):Int)+1)=(cnT (g.take j):Int)+1:=aH (by omega);have htk:cnT (g.take (j+1))=cnT (g.take j)+(if g[j]=true then 1 else 0):=by
  rw[List.take_add_one,gE hjg,Option.toList_some,iA]
 cases hgj:g[j] with
 | true =>
  rw[hgj] at hrd htk;simp -implicitDefEqProofs [x3l40_w,f8,f21,f22,f23,hlt,hid,hjgi,hjg,hbl,hrd,hw,hw2];refine⟨k-1,by omega,?_⟩;rw[hJ];exact⟨j+1,by omega,by simp[au],by rw[htk];simp[au],rfl⟩
 | false =>
  rw[hgj] at hrd htk;simp -implicitDefEqProofs [x3l40_w,f8,f21,f22,f23,hlt,hid,hjgi,hjg,hbl,hrd,hw];refine⟨k-1,by omega,?_⟩;rw[hJ];exact⟨j+1,by omega,by simp[au],by rw[htk];simp[au,f22],rfl⟩
def rkV (x:Int):Int:=if 0≤x then 0 else -x
theorem BW {was is:Int}{n:Nat}(h:leT was (psi n is)) (h1:was ≠ -3) (h2:is ≠ -3) (h3 : -3≤was) (h4 : -3≤is):¬(rkV is<rkV was)∧(0≤is→is=kT was n):=by
 rw[bl] at h;unfold psi at h;constructor
 ·unfold rkV;split at h<;>(split<;>split<;>omega)
 ·intro h0;unfold kT;split at h
  ·rw[if_neg (by omega),if_pos (by omega)];omega
  ·rw[if_neg (by omega),if_neg (by omega)];omega
theorem Bo {cf:av}{n:Nat}{K:List Fr}{Q:Ex→SF→Prop}{s:SF}{va vu:List V}{si su:SI}{i nm:Nat}{ra ru:List Int}(c11:∀a:Int,-3≤a→a≤100→∀h,cf 11 [.c (.int .i64 a)] h=some (.c (.int .i64 (rkV a)),h)) (c12:∀t:Int,t≤100→∀h,cf 12 [.c (.int .i64 t),.c (.int .i64 nm)] h=some (.c (.int .i64 (kT t nm)),h))
  (hi:i<va.length) (hi2:i<vu.length) (hra:tl (va[i]) ra) (hru:tl (vu[i]) ru) (hl2:ru.length=ra.length) (hat:∀j (h1:j<ra.length) (h2:j<ru.length),leT ra[j] (psi nm ru[j])∧ra[j] ≠ -3∧ru[j] ≠ -3 ∧ -3≤ra[j]∧ra[j]≤100 ∧ -3≤ru[j]∧ru[j]≤100)
  (e9:s.e 9=.sl va si) (e24:s.e 24=.sl vu su) (e26:s.e 26=.c (.int .i64 i)) (e22:s.e 22=.c (.int .i64 nm)) (e27:s.e 27=.c (.int .i64 0)) (hn:ra.length<n) (hl:ra.length<1000000)
  (hq:∀e rb,(∀t,(dO x3l57).contains t=false→e t=s.e t)→d9 cf n K Q (.exit 12) ⟨e,s.h,s.base,rb⟩):lpk cf n x3l57 K Q s:=by
 have hii:(i:Int)<va.length:=by omega
 have hii2:(i:Int)<vu.length:=by omega
 obtain⟨J,hJ⟩:∃J:Nat→SF→Prop,J=fun k s'=>∃j:Nat,j+k=ra.length∧s'.e 27=.c (.int .i64 j)∧s'.h=s.h:=⟨_,rfl⟩
 refine bn J ra.length hn (by rw[hJ];exact⟨0,by simp,e27,rfl⟩) ?_;rintro k ⟨e,H,base,rb⟩ hj he hb;rw[hJ] at hj;obtain⟨j,hj,f27,hH⟩:=hj;have f9:e 9=_:=(he 9 rfl).trans e9;have f24:e 24=_:=(he 24 rfl).trans e24;have f26:e 26=_:=(he 26 rfl).trans e26;have f22:e 22=_:=(he 22 rfl).trans e22;simp only at f27 hH hb;subst hH;have hfin:∀e' rb',(∀t,(dO x3l57).contains t=false→e' t=e t)→d9 cf n K Q (.exit 12) ⟨e',s.h,base,rb'⟩:=fun e' rb' h'=>by
  rw[hb];exact hq _ _ fun t ht=>(h' t ht).trans (he t ht)
 have hne0:∀t,(dO x3l57).contains t=false→∀k,(dO x3l57).contains k=true→t≠k:=fun t ht k hk e=>by rw[e,hk] at ht;cases ht
 rcases hra with hra|⟨rfl,id,hra⟩
 rotate_left
 ·have h0:¬(j:Int)<0:=by omega
  simp -implicitDefEqProofs [x3l57_w,f9,f26,f27,hii,hi,hra,h0];refine hfin _ _ fun t ht=>?_
  have hne:=hne0 t ht;simp only[au,if_neg (hne 202 rfl),if_neg (hne 203 rfl),if_neg (hne 204 rfl),if_neg (hne 205 rfl),if_neg (hne 206 rfl),if_neg (hne 207 rfl),if_neg (hne 208 rfl)]
 have hil:=bU ra;by_cases hm:j<ra.length;rotate_left
 ·have hlt:¬(j:Int)<ra.length:=by omega
  simp -implicitDefEqProofs [x3l57_w,f9,f26,f27,hii,hi,hra,hil,hlt];refine hfin _ _ fun t ht=>?_
  have hne:=hne0 t ht;simp only[au,if_neg (hne 202 rfl),if_neg (hne 203 rfl),if_neg (hne 204 rfl),if_neg (hne 205 rfl),if_neg (hne 206 rfl),if_neg (hne 207 rfl),if_neg (hne 208 rfl)]
 have hlt:(j:Int)<ra.length:=by omega
 have hw:IntKind.i64.wrap ((j:Int)+1)=(j:Int)+1:=aH (by omega);rcases hru with hru|⟨rfl,id,hru⟩
 rotate_left
 ·simp at hl2;omega
 have hil2:=bU ru;have hm2:j<ru.length:=by omega
 have hlt2:(j:Int)<ru.length:=by omega
 have hvg:=gZ (l:=ra) (j:=j) (by rw[hil];exact hm);have hvg2:=gZ (l:=ru) (j:=j) (by rw[hil2];exact hm2);obtain⟨a1,a2,a3,a4,a5,a6,a7⟩:=hat j hm hm2;obtain⟨b1,b2⟩:=BW a1 a2 a3 a4 a6;have c11a:=c11 _ a4 a5;have c11b:=c11 _ a6 a7;have c12a:=c12 _ a5;generalize ra[j]=was at *;generalize ru[j]=is at *;by_cases h0:0≤is
 ·have b2:=b2 h0;have hx:(is != kT was nm)=false:=by rw[← b2];simp
  generalize kT was nm=tt at *;generalize rkV was=r1 at *;generalize rkV is=r2 at *;simp -implicitDefEqProofs [x3l57_w,f9,f22,f24,f26,f27,hii,hii2,hi,hi2,hra,hru,hil,hil2,hlt,hlt2,hm,hm2,hvg,hvg2,c11a,c11b,c12a,b1,h0,hx,hw];refine⟨k-1,by omega,?_⟩;rw[hJ];exact⟨j+1,by omega,by simp[au],rfl⟩
 ·generalize rkV was=r1 at *;generalize rkV is=r2 at *;simp -implicitDefEqProofs [x3l57_w,f9,f22,f24,f26,f27,hii,hii2,hi,hi2,hra,hru,hil,hil2,hlt,hlt2,hm,hm2,hvg,hvg2,c11a,c11b,b1,h0,hw];refine⟨k-1,by omega,?_⟩;rw[hJ];exact⟨j+1,by omega,by simp[au],rfl⟩
theorem DG {cf:av}{n:Nat}{K:List Fr}{Q:Ex→SF→Prop}{s:SF}{va vu:List V}{si su:SI}{nm:Nat}{T U:List (List Int)}(c11:∀a:Int,-3≤a→a≤100→∀h,cf 11 [.c (.int .i64 a)] h=some (.c (.int .i64 (rkV a)),h)) (c12:∀t:Int,t≤100→∀h,cf 12 [.c (.int .i64 t),.c (.int .i64 nm)] h=some (.c (.int .i64 (kT t nm)),h))
  (hva:RowsIs va T) (hvu:RowsIs vu U) (hTU:T.map List.length=U.map List.length) (hrl:∀r∈T,r.length<100) (hat:∀i k,i<T.length→k<(T.getD i []).length→leT (at2 T i k) (psi nm (at2 U i k))∧at2 T i k ≠ -3∧at2 U i k ≠ -3 ∧ -3≤at2 T i k∧at2 T i k≤100 ∧ -3≤at2 U i k∧at2 U i k≤100)
  (e9:s.e 9=.sl va si) (e24:s.e 24=.sl vu su) (e22:s.e 22=.c (.int .i64 nm)) (e26:s.e 26=.c (.int .i64 0)) (hn:T.length+100<n) (hl:T.length<1000000)
  (hq:∀e rb,(∀t,(dO x3l59).contains t=false→e t=s.e t)→d9 cf n K Q (.exit 10) ⟨e,s.h,s.base,rb⟩):lpk cf n x3l59 K Q s:=by
 have hval:=hva.len;have hvul:=hvu.len;have hUl:U.length=T.length:=by have:=congrArg List.length hTU;simpa using this.symm
 obtain⟨J,hJ⟩:∃J:Nat→SF→Prop,J=fun k s'=>∃j:Nat,j+k=T.length∧s'.e 26=.c (.int .i64 j)∧s'.h=s.h:=⟨_,rfl⟩
 refine bn J T.length (by omega) (by rw[hJ];exact⟨0,by simp,e26,rfl⟩) ?_;rintro k ⟨e,H,base,rb⟩ hj he hb;rw[hJ] at hj;obtain⟨j,hj,f26,hH⟩:=hj;have f9:e 9=_:=(he 9 rfl).trans e9;have f24:e 24=_:=(he 24 rfl).trans e24;have f22:e 22=_:=(he 22 rfl).trans e22;simp only at f26 hH hb;subst hH;by_cases hm:j<T.length;rotate_left
 ·have hlt:¬(j:Int)<T.length:=by omega
  subst hb;simp -implicitDefEqProofs [x3l59_w,f9,f26,hval,hlt];refine hq _ _ fun t ht=>?_
  have hne:∀k,(dO x3l59).contains k=true→t≠k:=fun k hk e=>by rw[e,hk] at ht;cases ht
  simp only[au,if_neg (hne 185 rfl),if_neg (hne 186 rfl),if_neg (hne 187 rfl),if_neg (hne 188 rfl)];exact he t ht
 have hlt:(j:Int)<T.length:=by omega
 have hw:IntKind.i64.wrap ((j:Int)+1)=(j:Int)+1:=aH (by omega);have hmU:j<U.length:=by omega
 have hltU:(j:Int)<U.length:=by omega
 have hra:=hva.get hm;have hru:=hvu.get hmU;have hrr:T.getD j []=T[j]:=by rw[List.getD_eq_getElem?_getD,gE hm];rfl
 have hru2:U.getD j []=U[j]:=by rw[List.getD_eq_getElem?_getD,gE hmU];rfl
 have hll:(U[j]).length=(T[j]).length:=by
  have h1:=congrArg (fun l=>l[j]?) hTU;simp only[List.getElem?_map,gE hm,gE hmU,Option.map_some] at h1;exact (Option.some.inj h1).symm
 have hat':∀i (h1:i<(T[j]).length) (h2:i<(U[j]).length),leT (T[j])[i] (psi nm (U[j])[i])∧(T[j])[i] ≠ -3∧(U[j])[i] ≠ -3 ∧ -3≤(T[j])[i]∧(T[j])[i]≤100 ∧ -3≤(U[j])[i]∧(U[j])[i]≤100:=fun i h1 h2=>by
  have:=hat j i hm (by rw[hrr];exact h1);unfold at2 at this;rw[hrr,hru2,List.getD_eq_getElem?_getD,gE h1,List.getD_eq_getElem?_getD,gE h2] at this;exact this
 have hrlj:=hrl _ (List.getElem_mem hm);have hi1:j<va.length:=by omega
 have hi2:j<vu.length:=by omega
 have hii1:(j:Int)<va.length:=by omega
 have hii2:(j:Int)<vu.length:=by omega
 have go:∀e' rb',e' 9=.sl va si→e' 24=.sl vu su→e' 26=.c (.int .i64 j)→e' 22=.c (.int .i64 nm)→e' 27=.c (.int .i64 0)→lpk cf n x3l57 [.blk 12,.blk 11,.seq x3r58] (fun e s'=>match e with|.normal=>∃k',k'<k∧J k' s'|e=>d9 cf n K Q e s') ⟨e',s.h,base,rb'⟩:=fun e' rb' y9 y24 y26 y22 y27=>by
  refine Bo (va:=va) (vu:=vu) (si:=si) (su:=su) (i:=j) (nm:=nm) (ra:=T[j]) (ru:=U[j]) c11 c12 hi1 hi2 hra hru hll hat' y9 y24 y26 y22 y27 (by omega) (by omega) fun e2 rb2 x1=>?_
  have y26':=x1 26 rfl;simp[y26] at y26';simp -implicitDefEqProofs [x3r58_w,y26',hw];refine⟨k-1,by omega,?_⟩;rw[hJ];exact⟨j+1,by omega,by simp[au],rfl⟩
 have hla:(itv T[j]).length=(T[j]).length:=bU _;have hlu:(itv U[j]).length=(T[j]).length:=(bU _).trans hll;have hself:((T[j].length:Int) != (T[j]).length)=false:=by simp
 rcases hra with hra|⟨hra0,id,hra⟩
 ·rcases hru with hru|⟨hru0,id,hru⟩
  ·simp -implicitDefEqProofs [x3l59_w,f9,f24,f26,hval,hlt,hltU,hvul,hi1,hi2,hm,hmU,hra,hru,hla,hlu,hself];exact go _ _ (by simp[au,f9]) (by simp[au,f24]) (by simp[au,f26]) (by simp[au,f22]) (by simp[au])
  ·have h0:(T[j]).length=0:=by rw[← hll,hru0];rfl
   rw[h0] at hla;simp -implicitDefEqProofs [x3l59_w,f9,f24,f26,hval,hlt,hltU,hvul,hi1,hi2,hm,hmU,hra,hru,hla];exact go _ _ (by simp[au,f9]) (by simp[au,f24]) (by simp[au,f26]) (by simp[au,f22]) (by simp[au])
 ·have h0:(T[j]).length=0:=by rw[hra0];rfl
  rw[h0] at hlu;rcases hru with hru|⟨hru0,id2,hru⟩
  ·simp -implicitDefEqProofs [x3l59_w,f9,f24,f26,hval,hlt,hltU,hvul,hi1,hi2,hm,hmU,hra,hru,hlu];exact go _ _ (by simp[au,f9]) (by simp[au,f24]) (by simp[au,f26]) (by simp[au,f22]) (by simp[au])
  ·simp -implicitDefEqProofs [x3l59_w,f9,f24,f26,hval,hlt,hltU,hvul,hi1,hi2,hm,hmU,hra,hru];exact go _ _ (by simp[au,f9]) (by simp[au,f24]) (by simp[au,f26]) (by simp[au,f22]) (by simp[au])
theorem Hl (l:List Bool):∀v∈bvs l,∃x,v=.c x:=fun v hv=>by
 obtain⟨p,_,rfl⟩:=List.mem_map.1 hv;exact⟨_,rfl⟩
theorem CE (T:List (List Int)):V.nbl (tP T)=true:=by
 have hi:∀r:List Int,V.nbl (itv r)=true:=fun r=>by
  induction r with
  | nil=>rfl
  | cons a r ih=>simp only[itv,List.map_cons,V.nbl] at ih ⊢;rw[ih];rfl
 induction T with
 | nil=>rfl
 | cons r T ih=>simp only[tP,List.map_cons,V.nbl,V.nb] at ih ⊢;rw[ih,hi];rfl
theorem Gx (t:D) (hs:t.sz<1000000000) (g:List Bool){n:Nat}(hn:40*t.sz+1020≤n) (hgl:g.length<1000) (id:Nat) (h:List O) (hid:h[id]?=some (.cells (bvs g))) :
  (rdy t g.length≠0→call X E (n+1) 9 [t.v,.row id 0 g.length none] h=some (.tup [.sl [] .any,.c (.int .i64 (rdy t g.length))],h)) ∧
  (rdy t g.length=0→∃T S vs,Lst (atF 0 (ca t)) t.sz (ca t) (srt (ca t) g) T S∧RowsIs vs T∧call X E (n+1) 9 [t.v,.row id 0 g.length none] h=some (.tup [.sl vs .any,.c (.int .i64 0)],h)):=by
 by_cases h0:g=[]
 ·subst h0;have hg:=go9 t hs [] (.row id 0 0 none) (.inr ⟨rfl,id,rfl⟩) (n:=n) (by omega);refine⟨fun h'=>hg.1 h' h,fun h'=>?_⟩;obtain⟨T,S,vs,a1,a2,-,a3⟩:=hg.2 h';exact⟨T,S,vs,a1,a2,a3 h⟩
 ·have hg:=go9 t hs g (.sl (bvs g) .any) (.inl ⟨_,rfl⟩) (n:=n) (by omega);obtain⟨n,rfl⟩:∃n',n=n'+2:=⟨n-2,by omega⟩
  have hp:0<g.length:=List.length_pos_iff.2 h0;have hs1:fV 0 h (n+2) (.row id 0 g.length none)=some (.sl (bvs g) .any):=by
   have:=lU (n:=n) (Hl g) hid
   rwa [cd] at this
  have hs2:fV 0 h (n+2) t.v=some t.v:=EC h _ t;have hnb:(([t.v,.row id 0 g.length none]:List V).map V.vw2).all (nbA h)=true:=by
   simp only[List.map_cons,List.map_nil,D.vw2,da,List.all_cons,List.all_nil,nbA,D.low,hid,nbO];simp[bvs,BG,EB]
  have mk:∀r,call X E (n+2+1) 9 [t.v,.sl (bvs g) .any] []=some (r,[])→r.nb=true→call X E (n+2+1) 9 [t.v,.row id 0 g.length none] h=some (r,h):=fun r hc hr=>by
   refine mL (bs:=[t.v,.sl (bvs g) .any]) rfl rfl rfl rfl rfl ?_ ?_ ?_ ?_ hc (.inr ⟨hr,hnb⟩)
   ·simp[V.lows,V.low,h0]
   ·simp only[List.map_cons,List.map_nil,D.vw2,da,lk,hs1,hs2]
   ·simp[V.lows,V.low,fl,SI.low,D.low]
   ·simp only[List.map_cons,List.map_nil,D.vw2,aM]
  refine⟨fun h'=>mk _ (hg.1 h' []) rfl,fun h'=>?_⟩;obtain⟨T,S,vs,a1,a2,a3,a4⟩:=hg.2 h';refine⟨T,S,vs,a1,a2,mk _ (a4 []) ?_⟩;have:=CE T;simp[V.nb,V.nbl,a3 hp,this,EB]
theorem ww (l:List Bool):aG (bvs l)=bvs l:=by
 induction l with
 | nil=>rfl
 | cons a l ih=>simp only[aG,bvs,List.map_cons,List.flatMap_cons] at ih ⊢;rw[ih];rfl
theorem uc {h:List O}{g:List Bool}(hg:g≠[]){al:Nat}(hd:h[al]?=some .dead):iu 0 al 1 none true h [] .full (bvs g)=some (.row al 0 g.length none,h.set al (.cells (bvs g))):=by
 cases g with
 | nil=>exact absurd rfl hg
 | cons b g =>
  have:bvs (b::g)=.c (.bool b)::bvs g:=rfl;have hf:=ww (b::g);have hl:=cd g;rw[this] at hf ⊢;simp only[iu,hd,if_true,List.nil_append,List.length_nil,Nat.zero_add,lC,hl,hf]
theorem FK (m:Nat):(List.replicate m [V.c (.bool false)]).flatten=bvs (List.replicate m false):=by
 induction m with
 | zero=>rfl
 | succ m ih=>rw[List.replicate_succ,List.flatten_cons,ih,List.replicate_succ];rfl
theorem CZ {t:D}{a:Nat}(h:rdy t a=0):t.fck=0∧a=((t.kid 0).kid 1).kids.length:=by
 unfold rdy at h;by_cases h1:t.fck=0
 ·rw[if_neg (by simpa using h1)] at h;exact⟨h1,Classical.byContradiction fun hc=>by rw[if_pos hc] at h;cases h⟩
 ·rw[if_pos h1] at h;exact absurd h h1
theorem GM {x:D}{g:List Bool}{w:Int}{n:Nat}{v8:V}{e:Nat→V}{H0:List O}{rb:Nat}(hw:0≤w∧w≤255) (hs:x.sz<100000) (hn:40*x.sz+5000≤n) (hgl:g.length≤20) (c10:∀h,call X E (n+2) 10 [] h=some (.c (.bool true),h))
  (e2:e 2=.c (.int .u8 w)) (e7:e 7=.ref 3 0) (e8:e 8=v8) (hH:H0.length=4) (h3:H0[3]?=some (.cells x.v.cells)) (hv8:(g=[]∧v8=.sl [] .full)∨(g≠[]∧v8=.row 2 0 g.length none∧H0[2]?=some (.cells (bvs g)))) :
  wpk (call X E (n+2)) (n+2) (.seq x3r3 (.seq (.seq x3r4 (.cond (.t 46) (.seq x3r5 .ret) .skip)) (.seq x3r6 (.seq (.seq x3r7 (.block 0 (.loop x3l11))) (.seq x3r12 (.seq x3r13 (.seq (.seq x3r14 (.cond (.t 99) (.seq x3r15 .ret) .skip)) (.seq (.seq x3r16 (.block 2 (.loop x3l25))) (.seq (.seq x3r26 (.block 6 (.loop x3l31))) (.seq x3r32 (.seq (.seq x3r33 (.cond (.t 140) (.seq x3r34 (.seq x3r35 (.block 8 (.loop x3l40)))) .skip)) (.seq (.seq x3r41 (.cond (.t 165) (.seq x3r42 .ret) .skip)) (.seq x3r43 (.seq x3r44 (.seq (.seq x3r45 (.cond (.t 184) (.seq x3r46 .ret) .skip)) (.seq (.seq x3r47 (.block 10 (.loop x3l59))) (.seq x3r60 .ret))))))))))))))))) []
   (Fin (fun vs _=>(bk vs).vw=V.c (Value.bool true)) x3) ⟨e,H0,0,rb⟩:=by
 have c9:∀(g:List Bool) id h,g.length≤20→h[id]?=some (.cells (bvs g))→(rdy x g.length≠0→call X E (n+2) 9 [x.v,.row id 0 g.length none] h=some (.tup [.sl [] .any,.c (.int .i64 (rdy x g.length))],h)) ∧
   (rdy x g.length=0→∃T S vs,Lst (atF 0 (ca x)) x.sz (ca x) (srt (ca x) g) T S∧RowsIs vs T∧call X E (n+2) 9 [x.v,.row id 0 g.length none] h=some (.tup [.sl vs .any,.c (.int .i64 0)],h)):=fun g id h hl hid=>Gx x (by omega) g (n:=n+1) (by omega) (by omega) id h hid
 have c9v:(rdy x g.length≠0→call X E (n+2) 9 [x.v,v8] H0=some (.tup [.sl [] .any,.c (.int .i64 (rdy x g.length))],H0)) ∧
   (rdy x g.length=0→∃T S vs,Lst (atF 0 (ca x)) x.sz (ca x) (srt (ca x) g) T S∧RowsIs vs T∧call X E (n+2) 9 [x.v,v8] H0=some (.tup [.sl vs .any,.c (.int .i64 0)],H0)):=by
  rcases hv8 with⟨rfl,rfl⟩|⟨h0,rfl,h2⟩
  ·have:=go9 x (by omega) [] (.sl (bvs []) .full) (.inl ⟨_,rfl⟩) (n:=n+1) (by omega);refine⟨fun h=>this.1 h H0,fun h=>?_⟩;obtain⟨T,S,vs,a1,a2,-,a3⟩:=this.2 h;exact⟨T,S,vs,a1,a2,a3 H0⟩
  ·exact c9 g 2 H0 hgl h2
 have c11:∀a:Int,-3≤a→a≤100→∀h,call X E (n+2) 11 [.c (.int .i64 a)] h=some (.c (.int .i64 (rkV a)),h):=fun a h1 h2=>HV a (by omega) (by omega)
 have c12:∀(nm:Nat) (t:Int),t≤100→∀h,call X E (n+2) 12 [.c (.int .i64 t),.c (.int .i64 nm)] h=some (.c (.int .i64 (kT t nm)),h):=fun nm t h1=>HH t nm (by omega) (by omega)
 have hbl:=cd g;have hlen8:∀H,Dz v8 H=some (.c (.int .i64 g.length),H):=fun H=>by rcases hv8 with⟨rfl,rfl⟩|⟨-,rfl,-⟩<;>rfl
 have h3g:∀(h:3<H0.length),H0[3]'h=.cells x.v.cells:=fun h=>by rw[gE h] at h3;exact Option.some.inj h3
 by_cases hr:rdy x g.length=0;rotate_left
 ·have c9x:=c9v.1 hr;have hrb:(rdy x g.length != 0)=true:=by simp[hr]
  generalize rdy x g.length=r at *;generalize call X E (n+2)=cf at *;simp -implicitDefEqProofs [x3r3_w,x3r4_w,x3r5_w,x3_r,e7,e8,h3,hH,h3g,c9x,hrb,c10]
  done
 obtain⟨T,S,va,hL,hva,c9x⟩:=c9v.2 hr;obtain⟨hfck,hgk⟩:=CZ hr;have hpg:=zN hfck;have hcg:=hpg.cgr;have hpos:=hcg.pos;have hmain:(ca x).getD 0 .z0=x.kid 0:=by rw[List.getD_eq_getElem?_getD,hpg.main];rfl
 have hgd:g.length=(((ca x).getD 0 .z0).kid 1).kids.length:=by rw[hmain];exact hgk
 have hTl:=hL.lens hpos hgd;have hri:=hpg.ri.len;have hkl:=bV x;have hTn:=gX hTl;have hvl:=hva.len;have hdk:∀d∈ca x,(d.kid 1).kids.length≤8:=fun d hd=>(hpg.hd d (hpg.ri.mem d hd)).2.2.2.2
 have hrows:∀(T:List (List Int)),T.map List.length=(ca x).map (fun d=>(d.kid 1).kids.length)→∀r∈T,r.length<100:=fun T hT r hr=>by
  have h1:r.length∈T.map List.length:=List.mem_map.2 ⟨r,hr,rfl⟩;rw[hT] at h1;obtain⟨d,hd,e⟩:=List.mem_map.1 h1;have:=hdk d hd;omega
 obtain⟨H1,hH1⟩:∃H1,H1=H0++[O.cells (bvs (List.replicate g.length true)),O.cells (bvs (List.replicate g.length false))]:=⟨_,rfl⟩
 have hH1l:H1.length=6:=by rw[hH1];simp[hH]
 have h14:H1[4]?=some (.cells (bvs (List.replicate g.length true))):=by rw[hH1,aR (by omega),hH];rfl
 have h15:H1[5]?=some (.cells (bvs (List.replicate g.length false))):=by rw[hH1,aR (by omega),hH];rfl
 have h13:H1[3]?=some (.cells x.v.cells):=by rw[hH1];exact co h3 _
 have hra:rdy x (List.replicate g.length true).length=0:=by rw[List.length_replicate];exact hr
 have hrn:rdy x (List.replicate g.length false).length=0:=by rw[List.length_replicate];exact hr
 obtain⟨TA,SA,vA,hLA,hvA,c9a⟩:=(c9 _ 4 H1 (by rw[List.length_replicate];exact hgl) h14).2 hra;obtain⟨TN,SN,vN,hLN,hvN,c9n⟩:=(c9 _ 5 H1 (by rw[List.length_replicate];exact hgl) h15).2 hrn;rw[List.length_replicate] at c9a c9n;have hgA:(List.replicate g.length true).length=(((ca x).getD 0 .z0).kid 1).kids.length:=by rw[List.length_replicate];exact hgd
 have hgN:(List.replicate g.length false).length=(((ca x).getD 0 .z0).kid 1).kids.length:=by rw[List.length_replicate];exact hgd
 have hTAl:=hLA.lens hpos hgA;have hTNl:=hLN.lens hpos hgN;have hall:=(hLA.allGiven hcg hgA fun b hb=>List.eq_of_mem_replicate hb).1;have hnone:=hLN.noneGiven hcg hgN fun b hb=>List.eq_of_mem_replicate hb
 have hvAl:=hvA.len;have hvNl:=hvN.len;have hTAn:=gX hTAl;have hTNn:=gX hTNl;have hst:(H0++[O.dead,O.dead]).set 4 (.cells (bvs (List.replicate g.length false)))=H0++[O.cells (bvs (List.replicate g.length false)),O.dead]:=by
  rw[List.set_append_right _ _ (by omega),hH];rfl
 have hst2:(H0++[O.cells (bvs (List.replicate g.length false)),O.dead]).set 5 (.cells (bvs (List.replicate g.length false)))=H0++[O.cells (bvs (List.replicate g.length false)),O.cells (bvs (List.replicate g.length false))]:=by
  rw[List.set_append_right _ _ (by omega),hH];rfl
 have hst3:(H0++[O.cells (bvs (List.replicate g.length false)),O.cells (bvs (List.replicate g.length false))]).set 4 (.cells (bvs (List.replicate g.length true)))=H1:=by
  rw[List.set_append_right _ _ (by omega),hH,hH1];rfl
 have hrpos:0<(ca x).length:=hpos;generalize hcf:call X E (n+2)=cf at *;simp -implicitDefEqProofs [x3r3_w,x3r4_w,x3r6_w,e7,e8,h3,hH,h3g,c9x,hlen8];rw[lm _ _ _ _ _ _ ⟨by omega,by omega,by simp;omega⟩,Int.toNat_natCast,FK,hst];simp -implicitDefEqProofs [hlen8,hH,e8,e7];rw[lm _ _ _ _ _ _ ⟨by omega,by omega,by simp;omega⟩,Int.toNat_natCast,FK,hst2];simp -implicitDefEqProofs [x3r7_w];refine DP (id:=4) (m:=g.length) (v8:=v8) (by simp[au,e8]) hlen8 (by simp[au]) (by simp[au]) ?_ (by omega) (by omega) fun e1 rb1 x1=>?_
 ·show (H0++[O.cells (bvs (List.replicate g.length false)),O.cells (bvs (List.replicate g.length false))])[4]?=_;rw[aR (by omega),hH];rfl
 have y2:=x1 2 rfl;have y7:=x1 7 rfl;have y8:=x1 8 rfl;have y9:=x1 9 rfl;have y11:=x1 11 rfl;have y12:=x1 12 rfl;simp[au,e2,e7,e8] at y2 y7 y8 y9 y11 y12;clear x1;have hne0:((ca x).length==0)=false:=beq_false_of_ne (by omega);simp -implicitDefEqProofs [x3r12_w,x3r13_w,x3r14_w,x3r16_w,hst3,y7,y8,y9,y11,y12,h13,c9a,c9n,hvAl,hvNl,hvl,hTn,hTAn,hTNn,hne0];refine D7 (vs:=vA) (si:=.any) (T:=TA) hvA (fun r hr h2=>?_) (hrows _ hTAl) (by simp[au]) (by simp[au]) (by omega) (by omega) fun e2' rb2 x2=>?_
 ·obtain⟨i,hi,rfl⟩:=List.getElem_of_mem hr;exact hall i (by rw[List.getD_eq_getElem?_getD,gE hi];exact h2)
 have z2:=x2 2 rfl;have z7:=x2 7 rfl;have z8:=x2 8 rfl;have z9:=x2 9 rfl;have z16:=x2 16 rfl;simp[au,y2,y7,y8,y9] at z2 z7 z8 z9 z16;clear x2;have hN0:0<TN.length:=by omega
 have hNr:TN.getD 0 []=TN[0]:=by rw[List.getD_eq_getElem?_getD,gE hN0];rfl
 have hNl:=hrows _ hTNl _ (List.getElem_mem hN0);simp -implicitDefEqProofs [x3r26_w];refine Fu (vs:=vN) (si:=.any) (r:=TN[0]) (by omega) (hvN.get hN0) (by rw[← hNr];exact hnone) (by simp[au,z16]) (by simp[au]) (by omega) (by omega) fun e3 rb3 x3=>?_
 have u2:=x3 2 rfl;have u7:=x3 7 rfl;have u8:=x3 8 rfl;have u9:=x3 9 rfl;simp[au,z2,z7,z8,z9] at u2 u7 u8 u9;clear x3;rcases hv8 with⟨rfl,rfl⟩|⟨hg0,rfl,hH2⟩
 ·simp -implicitDefEqProofs [x3r32_w,x3r33_w,x3r41_w,x3r42_w,x3_r,u8,c10]
  done
 have hgp:0<g.length:=List.length_pos_iff.2 hg0;have hgpi:(0:Int)<g.length:=by omega
 obtain⟨a,ha⟩:∃a,a=w.toNat % g.length:=⟨_,rfl⟩
 have hal:a<g.length:=by rw[ha];exact Nat.mod_lt _ hgp
 have hali:(a:Int)<g.length:=by omega
 have hwr:IntKind.i64.wrap w=w:=aH (by omega);have hmod:w.tmod (g.length:Int)=(a:Int):=by
  obtain⟨m,rfl⟩:∃m:Nat,w=(m:Int):=⟨w.toNat,by omega⟩
  rw[ha,Int.toNat_natCast];exact (Int.ofNat_tmod m g.length).symm
 have hH12:H1[2]?=some (.cells (bvs g)):=by rw[hH1];exact co hH2 _
 have hana:¬((a:Int)<0):=by omega
 have hrd:=pX hal;simp -implicitDefEqProofs [x3r32_w,x3r33_w,x3r34_w,x3r35_w,u8,u2,hgp,hgpi,hwr,hmod,hg0];refine Ei (id:=2) (a:=a) (g:=g) (by simp[au,u8]) (by simp[au]) (by simp[au]) (by simp[au]) hH12 hal (by omega) (by omega) fun e4 rb4 x4 w22=>?_
 have w7:=x4 7 rfl;have w8:=x4 8 rfl;have w9:=x4 9 rfl;have w21:=x4 21 rfl;simp[au,u7,u8,u9] at w7 w8 w9 w21;clear x4;cases hga:g[a] with
 | false =>
  rw[hga] at hrd;simp -implicitDefEqProofs [x3r41_w,x3r42_w,x3_r,w8,w21,hH12,hana,hal,hali,hbl,hrd,c10]
  done
 | true =>
  rw[hga] at hrd;have hspl:=gW hal false;have hal1:a+1≤g.length:=by omega
  obtain⟨g',hg'⟩:∃g',g'=g.set a false:=⟨_,rfl⟩
  rw[← hg'] at hspl;have hg'l:g'.length=g.length:=by rw[hg'];simp
  obtain⟨H2,hH2'⟩:∃H2,H2=H1.set 2 (.cells (bvs g')):=⟨_,rfl⟩
  have h22:H2[2]?=some (.cells (bvs g')):=by rw[hH2'];exact ij hH12 _
  have h23:H2[3]?=some (.cells x.v.cells):=by rw[hH2',sN (by omega)];exact h13
  have hrg:rdy x g'.length=0:=by rw[hg'l];exact hr
  obtain⟨TU,SU,vU,hLU,hvU,c9u⟩:=(c9 g' 2 H2 (by omega) h22).2 hrg;rw[hg'l] at c9u;have hgU:g'.length=(((ca x).getD 0 .z0).kid 1).kids.length:=by rw[hg'l];exact hgd
  have hTUl:=hLU.lens hpos hgU;have hTUn:=gX hTUl;have hvUl:=hvU.len;have hone:=hL.oneLess hcg hgd hal hga (by rw[← hg'];exact hLU);have hsm:=hL.small hcg hgd;have hsmU:=hLU.small hcg hgU;have hrowlen:∀i,(T.getD i []).length=(TU.getD i []).length:=fun i=>by
   have h1:=congrArg (fun l=>l.getD i 0) (hTl.trans hTUl.symm);simp only[List.getD_eq_getElem?_getD,List.getElem?_map] at h1 ⊢;cases h2:T[i]?<;>cases h3:TU[i]?<;>simp_all
  simp -implicitDefEqProofs [x3r41_w,x3r43_w,x3r44_w,x3r45_w,x3r47_w,w7,w8,w9,w21,hH12,hana,hal,hali,hal1,hbl,hrd,hspl,← hH2',h23,c9u,hvUl,hTUn,hvl,hTn];refine DG (va:=va) (vu:=vU) (si:=.any) (su:=.any) (nm:=cnT (g.take a)) (T:=T) (U:=TU) c11 (c12 _) hva hvU (hTl.trans hTUl.symm) (hrows _ hTl) (fun i k hi hk=>?_) (by simp[au,w9]) (by simp[au]) (by simp[au,w22]) (by simp[au]) (by omega) (by omega) fun e5 rb5 x5=>?_
  ·obtain⟨q1,q2,q3⟩:=hone i k hi hk;have q4:=hsm i k hk;have q5:=hsmU i k (by rw[← hrowlen];exact hk);exact⟨q1,q2,q3,by omega,by omega,by omega,by omega⟩
  ·simp -implicitDefEqProofs [x3r60_w,x3_r,c10]
   done
theorem HY (d x:D) (g0 g:List Bool) (w:Int){n:Nat}(hx:(d.cut 3000 1005).1=x) (hg:g=g0.take 20) (hw:0≤w∧w≤255) (hs:x.sz<100000) (hn:40*x.sz+5000≤n) (c10:∀h,call X E (n+2) 10 [] h=some (.c (.bool true),h)):bg (n+3) 3 [d.v,.sl (bvs g0) .any,.c (.int .u8 w)] (.c (.bool true)):=by
 have c8:∀h,call X E (n+2) 8 [d.v] h=some (x.v,h):=by
  rw[← hx];exact Gl d (n+1) (by omega)
 have hgl:g.length≤20:=by rw[hg,List.length_take];omega
 have hvf:x.v.vwf=x.v:=by obtain⟨k,i,t,l⟩:=x;rfl
 have hbl:=cd g0;have hbt:(bvs g0).take (min g0.length 20)=bvs g:=by
  rw[hg];unfold bvs;rw[← List.map_take];congr 1;by_cases c:g0.length≤20
  ·rw[Nat.min_eq_left c,List.take_of_length_le (nL _),List.take_of_length_le c]
  ·rw[Nat.min_eq_right (by omega)]
 obtain⟨M,hM⟩:∃M,M=min g0.length 20:=⟨_,rfl⟩
 have hmm:(if (20:Int)<g0.length then (20:Int) else g0.length)=(M:Int):=by split<;>omega
 rw[← hM] at hbt;refine aA rfl rfl rfl (by kernel_rfl) ⟨rfl,rfl⟩ (by simp[aM,V.lows,V.low,fl,SI.low,D.low]) ?_;have hz:=uy g0;have hz2:=uy g;have hMl:min M g0.length≤140737488355328:=by omega
 have hMi:(M:Int)≤g0.length:=by omega
 have hvw2:([d.v,.sl (bvs g0) .any,.c (.int .u8 w)]:List V).map V.vw2=[d.v,.sl (bvs g0) .any,.c (.int .u8 w)]:=by simp only[List.map_cons,List.map_nil,D.vw2,aM,Cs]
 rw[hvw2];have hfin:(fun (vs:List V) (_:List O)=>(bk vs).vw=V.c (Value.bool true)∧(V.c (Value.bool true)).low 0=true)=fun vs _=>(bk vs).vw=V.c (Value.bool true):=by funext vs _;simp[V.low]
 rw[hfin];have main:=fun e H0 rb v8 (e2:e 2=.c (.int .u8 w)) (e7:e 7=.ref 3 0) (e8:e 8=v8) hH h3 hv8=>GM (x:=x) (g:=g) (w:=w) (n:=n) (v8:=v8) (e:=e) (H0:=H0) (rb:=rb) hw hs hn hgl c10 e2 e7 e8 hH h3 hv8
 by_cases h0:g=[]
 ·subst h0;have hbt:(bvs g0).take M=[]:=hbt;generalize call X E (n+2)=cf at *;simp -implicitDefEqProofs [x3_w,c8,ae,hbl,hz,aM,hmm,hbt,hMl,hMi];refine main _ _ _ _ (by simp[au,dR]) (by simp[au]) (by simp[au]) rfl rfl (.inl ⟨rfl,rfl⟩)
 ·have hgr:=uc h0 (h:=[O.cells d.v.cells,.tok 0 1,.dead,.cells [.c (.int .i64 0),.c (.int .i64 0),.c (.string ⟨#[]⟩),.sl [] .nil]]) (al:=2) rfl;generalize call X E (n+2)=cf at *;simp -implicitDefEqProofs [x3_w,c8,ae,hbl,hz,hz2,aM,hmm,hbt,hMl,hMi,hgr];exact⟨by rw[cd];omega,main _ _ _ _ (by simp[au,dR]) (by simp[au]) (by simp[au]) rfl rfl (.inr ⟨h0,rfl,rfl⟩)⟩
end Go.Proofs.YtjhffhmokcogkaaGreatDoor.Ab
