/- A part. -/
import Derived.Test.YtjhffhmokcogkaaGreatDoorCc10
set_option linter.unusedVariables false
set_option linter.unusedSimpArgs false
set_option linter.defProp false
set_option maxRecDepth 20000
set_option maxHeartbeats 8000000
noncomputable section
namespace Go.Proofs.YtjhffhmokcogkaaGreatDoor.Ab
open Go
theorem ji {cf:av}{n:Nat}{K:List Fr}{Q:Ex→SF→Prop}{s:SF}{us:List V}{si:SI}{ws:List V}{sb al b:Nat}{zz:Option Nat}{h:List O}{d:Option Nat}{r:List XOper}(m:Nat) (hG:GrowF (zc zz) us si h) (hd:h[al]?=some .dead) (hs:∀q,si=.tok q→m≤q) (hm:m≤al)
  (hq:∀si' h',GrowF (zc zz) (us++ws) si' h'→h'.length=h.length→Keeps h h'→h'.take m=h.take m→(∀q,si'=.tok q→m≤q)→(∀i,i≠al→(∀q,si=.tok q→i≠q)→h'[i]?=h[i]?)→rM cf n r K Q ⟨pC s.e d (.sl (us++ws) si'),h',s.base,s.rb⟩):gvk cf n (iu sb al b zz false h us si ws) d r K Q s:=by
 have hl:al<h.length:=(gS.1 hd).1;have new:∀si,si=.nil∨si=.full→∀w ws,(∀si' h',GrowF (zc zz) (us++w::ws) si' h'→h'.length=h.length→Keeps h h'→h'.take m=h.take m→(∀q,si'=.tok q→m≤q)→(∀i,i≠al→(∀q,si=.tok q→i≠q)→h'[i]?=h[i]?)→rM cf n r K Q ⟨pC s.e d (.sl (us++w::ws) si'),h',s.base,s.rb⟩) →
   gvk cf n (iu sb al b zz false h us si (w::ws)) d r K Q s:=fun si hsi w ws hq=>by
  have e:iu sb al b zz false h us si (w::ws)=some (.sl (us++w::ws) (.tok al),h.set al (.tok (us.length+(w::ws).length) (zc zz))):=by
   rcases hsi with rfl|rfl
   ·exact iy sb al b zz h us ws w hd
   ·exact ez sb al b zz h us ws w hd
  rw[e,cJ];refine hq _ _ (.inr (.inr ⟨al,rfl,?_⟩)) (by simp) (.set _ fun cs e=>?_) (List.take_set_of_le hm) (fun q e=>by cases e;exact hm) fun i hi _=>?_
  ·rw[sS hl];simp
  ·rw[hd] at e;cases e
  ·rw[sN (Ne.symm hi)]
 cases ws with
 | nil =>
  rw[ek,cJ];have:=hq si h (by rw[List.append_nil];exact hG) rfl (.rfl' h) rfl hs fun i _ _=>rfl
  rw[List.append_nil] at this;exact this
 | cons w ws =>
  rcases hG with⟨_,rfl⟩|rfl|⟨q,rfl,hqq⟩
  ·exact new _ (.inl rfl) w ws hq
  ·exact new _ (.inr rfl) w ws hq
  ·have hl:q<h.length:=(gS.1 hqq).1;rw[gc sb al b q zz false h us ws w hqq,cJ];refine hq _ _ (.inr (.inr ⟨q,rfl,?_⟩)) (by simp) (.set _ fun cs e=>?_) (List.take_set_of_le (hs q rfl)) (fun q' e=>by cases e;exact hs q rfl) fun i _ hi=>?_
   ·rw[sS hl];simp
   ·rw[hqq] at e;cases e
   ·rw[sN (Ne.symm (hi q rfl))]
theorem iK {h' h:List O}{m i:Nat}{o:O}(ht:h'.take m=h) (hi:h[i]?=some o):h'[i]?=some o:=by
 have h1:i<h.length:=(gS.1 hi).1;have h2:i<m:=by
  rw[← ht,List.length_take] at h1;omega
 rw[← ht,List.getElem?_take_of_lt h2] at hi;exact hi
theorem B8 {n f k:Nat}{xf:XF}{args:List V}{h:List O}{P:V→List O→Prop}(hE:E f=none) (hX:X f=some xf) (hk:args.length=k) (hx:sH xf k=true) (hp:xf.pure=false∧xf.esc=false)
  (hP:∀v h',P v h'→v.low h.length=true∧h'.all (O.low h.length)=true)
  (hw:wpk (call X E n) n xf.body [] (Fin (fun vs s=>P (bk vs).vw (s.take h.length)) xf) ⟨dR (args.map V.vw2),h,h.length,0⟩) (ha:xf.asg=none:=by rfl):∃v h',call X E (n+1) f args h=some (v,h')∧P v h':=by
 rw[cR hE hX ha];subst hk;have:=fk (cf:=call X E n) (n:=n) (xf:=xf) (args:=args.map V.vw2) (h:=h) (by simpa using hx) (cq hw);obtain⟨e,s,vs,h1,h2,h3,h4,h5⟩:=this;obtain⟨k1,k2⟩:=hP _ _ h5;refine⟨(bk vs).vw,s.h.take h.length,?_,h5⟩;unfold fE;rw[if_neg (by simp[hp.1]),if_neg (show ¬xf.esc=true by simp[hp.2]),h1];cases e with
 | exit id=>exact absurd rfl (h2 id)
 | normal =>
  simp only[fin,h3,hp.2,Bool.false_eq_true,if_false,h4,k1,if_true];rw[if_pos k2]
 | ret =>
  simp only[fin,h3,hp.2,Bool.false_eq_true,if_false,h4,k1,if_true];rw[if_pos k2]
def bvs (l:List Bool):List V:=l.map fun b=>.c (.bool b)
theorem cd (l:List Bool):(bvs l).length=l.length:=by simp[bvs]
theorem n8 {l:List Bool}{j:Nat}(h:j<(bvs l).length):(bvs l)[j]=.c (.bool (l[j]'(by rw[cd] at h;exact h))):=by simp[bvs]
theorem fl (m:Nat) (l:List Bool):V.lows m (bvs l)=true:=b7 fun v hv=>by
 obtain⟨p,_,rfl⟩:=List.mem_map.1 hv;rfl
def bf (rs:List (Nat × Nat)):List V:=rs.map fun p=>.row p.1 0 p.2 none
theorem dl (l:List (Nat × Nat)):(bf l).length=l.length:=by simp[bf]
structure Fd where
 fi:Nat
 mi:Nat
 sj:Nat
 rs:List (Nat × Nat)
 ds:List D
 s0:SI
 s2:SI
def atF:Nat→List D→Sk
 | _,[]=>[]
 | k,d::r=>((d.kid 0).key2,k)::atF (k+1) r
structure Fd.Ok (F:Fd):Prop where
 fm:F.fi≠F.mi
 fs:F.fi≠F.sj
 ms:F.mi≠F.sj
 rows:∀p∈F.rs,p.1≠F.fi∧p.1≠F.mi∧p.1≠F.sj
 inj:∀(i j:Nat) (p q:Nat × Nat),F.rs[i]?=some p→F.rs[j]?=some q→p.1=q.1→i=j
structure FAt (F:Fd) (h:List O) (T:List (List Int)) (S:List Bool) (c:Bool):Prop where
 obj:h[F.fi]?=some (.cells [.sl (D.vs F.ds) F.s0,.mref F.mi,.sl (bf F.rs) F.s2,.row F.sj 0 F.ds.length none,.c (.bool c)])
 mp:h[F.mi]?=some (.mapo (skK (atF 0 F.ds)) (skV (atF 0 F.ds)))
 sl:h[F.sj]?=some (.cells (bvs S))
 slen:S.length=F.ds.length
 tlen:T.length=F.ds.length
 rlen:F.rs.length=F.ds.length
 row:∀k (hk:k<T.length),∃id,F.rs[k]?=some (id,(T[k]).length)∧h[id]?=some (.cells (itv T[k]))
def Same (F:Fd) (h h':List O):Prop:=h'.length=h.length∧∀id,id≠F.fi→(∀p∈F.rs,id≠p.1)→h'[id]?=h[id]?
theorem Same.rfl' (F:Fd) (h:List O):Same F h h:=⟨rfl,fun _ _ _=>rfl⟩
theorem Same.trans {F:Fd}{h h1 h2:List O}(a:Same F h h1) (b:Same F h1 h2):Same F h h2:=⟨b.1.trans a.1,fun id h1 h2=>(b.2 id h1 h2).trans (a.2 id h1 h2)⟩
theorem FAt.app {F:Fd}{h:List O}{T:List (List Int)}{S:List Bool}{c:Bool}(a:FAt F h T S c) (R:List O):FAt F (h++R) T S c :=
 ⟨co a.obj R,co a.mp R,co a.sl R,a.slen,a.tlen,a.rlen,fun k hk=>by obtain⟨id,h1,h2⟩:=a.row k hk;exact⟨id,h1,co h2 R⟩⟩
theorem FAt.lt {F:Fd}{h:List O}{T:List (List Int)}{S:List Bool}{c:Bool}(a:FAt F h T S c):F.fi<h.length∧F.mi<h.length∧F.sj<h.length∧∀p∈F.rs,p.1<h.length:=by
 refine⟨(gS.1 a.obj).1,(gS.1 a.mp).1,(gS.1 a.sl).1,fun p hp=>?_⟩;obtain⟨k,hk,rfl⟩:=List.getElem_of_mem hp;obtain⟨id,h1,h2⟩:=a.row k (by rw[a.tlen,← a.rlen];exact hk);rw[gE hk] at h1;rw[Option.some.inj h1];exact (gS.1 h2).1
theorem Same.split {F:Fd}{h R h2:List O}(hlt:F.fi<h.length∧F.mi<h.length∧F.sj<h.length∧∀p∈F.rs,p.1<h.length) (a:Same F (h++R) h2):∃h1,h2=h1++R∧Same F h h1:=by
 obtain⟨a1,a2⟩:=a;rw[lA] at a1;refine⟨h2.take h.length,?_,?_,fun id i1 i2=>?_⟩
 ·have:h2.drop h.length=R:=by
   refine List.ext_getElem? fun i=>?_
   rw[List.getElem?_drop,a2 _ (by omega) fun p hp=>by have:=hlt.2.2.2 p hp;omega,aR (by omega)];simp
  rw[← this,List.take_append_drop]
 ·rw[List.length_take];omega
 ·by_cases c:id<h.length
  ·rw[List.getElem?_take_of_lt c,a2 id i1 i2,aL c]
  ·rw[List.getElem?_eq_none (by rw[List.length_take];omega),List.getElem?_eq_none (by omega)]
theorem FAt.unapp {F:Fd}{h h1 R:List O}{T:List (List Int)}{S:List Bool}{c:Bool}(hlt:F.fi<h.length∧F.mi<h.length∧F.sj<h.length∧∀p∈F.rs,p.1<h.length) (hl:h1.length=h.length) (a:FAt F (h1++R) T S c):FAt F h1 T S c:=by
 have key:∀{i:Nat}{o:O},i<h.length→(h1++R)[i]?=some o→h1[i]?=some o:=fun hi e=>by rwa [aL (by omega)] at e
 refine⟨key hlt.1 a.obj,key hlt.2.1 a.mp,key hlt.2.2.1 a.sl,a.slen,a.tlen,a.rlen,fun k hk=>?_⟩;obtain⟨id,h1,h2⟩:=a.row k hk;exact⟨id,h1,key (hlt.2.2.2 _ (List.mem_of_getElem? h1)) h2⟩
theorem FAt.low {F:Fd}{h h1:List O}{T T1:List (List Int)}{S S1:List Bool}{c c1:Bool}(hh:bh h) (a:FAt F h T S c) (b:FAt F h1 T1 S1 c1) (s:Same F h h1):bh h1:=by
 unfold bh at hh ⊢;rw[List.all_eq_true] at hh ⊢;intro o ho;obtain⟨id,hid,rfl⟩:=List.getElem_of_mem ho;have e:=gE hid;rw[s.1];by_cases c1:id=F.fi
 ·subst c1;rw[b.obj] at e;rw[← Option.some.inj e];have:=hh _ (List.mem_of_getElem? a.obj);simp only[O.low,V.lows,V.low,bT,Bool.and_true] at this ⊢;exact this
 ·by_cases c2:∀p∈F.rs,id≠p.1
  ·rw[s.2 id c1 c2] at e;exact hh _ (List.mem_of_getElem? e)
  ·have:∃p∈F.rs,id=p.1:=by
    by_cases q:∃p∈F.rs,id=p.1
    ·exact q
    ·exact absurd (fun p hp h=>q ⟨p,hp,h⟩) c2
   obtain⟨p,hp,rfl⟩:=this;obtain⟨k,hk,rfl⟩:=List.getElem_of_mem hp;obtain⟨id,h1,h2⟩:=b.row k (by rw[b.tlen,← b.rlen];exact hk);rw[gE hk] at h1;have h3:(F.rs[k]).1=id:=by rw[Option.some.inj h1]
   subst h3;rw[h2] at e;rw[← Option.some.inj e];exact fp _ _
theorem FAt.setRow {F:Fd}(ok:F.Ok){h:List O}{T:List (List Int)}{S:List Bool}{c:Bool}(a:FAt F h T S c){g id:Nat}(hg:g<T.length) (hid:F.rs[g]?=some (id,(T[g]).length)){r:List Int}(hr:r.length=(T[g]).length) :
  FAt F (h.set id (.cells (itv r))) (T.set g r) S c∧Same F h (h.set id (.cells (itv r))):=by
 have hm:=List.mem_of_getElem? hid;obtain⟨n1,n2,n3⟩:=ok.rows _ hm;have hlt:=a.lt.2.2.2 _ hm;refine⟨⟨by rw[sN n1];exact a.obj,by rw[sN n2];exact a.mp,by rw[sN n3];exact a.sl,a.slen,by rw[List.length_set];exact a.tlen,a.rlen,fun k hk=>?_⟩,by simp,fun i _ i2=>by rw[sN (Ne.symm (i2 _ hm))]⟩;rw[List.length_set] at hk;by_cases hkg:g=k
 ·subst hkg;refine⟨id,?_,?_⟩
  ·rw[List.getElem_set_self,hr];exact hid
  ·rw[List.getElem_set_self,sS hlt]
 ·obtain⟨id',h1,h2⟩:=a.row k hk;refine⟨id',?_,?_⟩
  ·rw[List.getElem_set_ne hkg];exact h1
  ·rw[List.getElem_set_ne hkg,sN (fun e=>hkg (ok.inj _ _ _ _ hid h1 e))];exact h2
theorem FAt.setC {F:Fd}(ok:F.Ok){h:List O}{T:List (List Int)}{S:List Bool}{c:Bool}(a:FAt F h T S c) (c':Bool) :
  FAt F (h.set F.fi (.cells [.sl (D.vs F.ds) F.s0,.mref F.mi,.sl (bf F.rs) F.s2,.row F.sj 0 F.ds.length none,.c (.bool c')])) T S c'∧Same F h (h.set F.fi (.cells [.sl (D.vs F.ds) F.s0,.mref F.mi,.sl (bf F.rs) F.s2,.row F.sj 0 F.ds.length none,.c (.bool c')])):=by
 refine⟨⟨sS a.lt.1,by rw[sN ok.fm];exact a.mp,by rw[sN ok.fs];exact a.sl,a.slen,a.tlen,a.rlen,fun k hk=>?_⟩,by simp,fun i i1 _=>by rw[sN (Ne.symm i1)]⟩;obtain⟨id',h1,h2⟩:=a.row k hk;refine⟨id',h1,?_⟩;rw[sN (Ne.symm (ok.rows _ (List.mem_of_getElem? h1)).1)];exact h2
theorem FAt.rowsGet {F:Fd}{h:List O}{T:List (List Int)}{S:List Bool}{c:Bool}(a:FAt F h T S c){g:Nat}(hg:g<T.length):∃id,((bf F.rs)[g]'(by rw[dl,a.rlen,← a.tlen];exact hg))=.row id 0 (T[g]).length none∧F.rs[g]?=some (id,(T[g]).length)∧h[id]?=some (.cells (itv T[g])):=by
 obtain⟨id,h1,h2⟩:=a.row g hg;refine⟨id,?_,h1,h2⟩;have hl:g<F.rs.length:=by rw[a.rlen,← a.tlen];exact hg
 rw[gE hl] at h1;simp[bf,Option.some.inj h1]
theorem AS {l:List Int}{j:Nat}(h:j<l.length):rdV (itv l) j none=some (.c (.int .i64 l[j])):=by
 show (itv l)[j]?=_;rw[gE (by rw[bU];exact h),gZ]
theorem um (l:List Bd):Ab.hz 3 (bdV l)=true:=by cases l<;>rfl
theorem GB (l:List Bd) (i:SI){n:Nat}:bg (n+1) 141 [.sl (bdV l) i] (.sl (bdV l) .full):=by
 have hlow:=el 0 l;have hsl:=ft l;have hz:=um l;refine aA rfl rfl rfl (by kernel_rfl) ⟨rfl,rfl⟩ (by simp[aM,V.lows,V.low,SI.low,hlow]) ?_;generalize bdV l=U at *;simp -implicitDefEqProofs [x141_w,aM,hsl];rw[jJ (us:=U) (i:=.any) 3 _ _ _ (by simp[au,dR]) (by simp[au,hsl]) (by simp[au,hsl]) hz];simp -implicitDefEqProofs [x141_r,V.low,hlow,SI.low]
def scB (d:D) (r:List Int):List Bd:=List.zipWith (fun x t=>⟨x.tx,true,t⟩) (d.kid 1).kids r
theorem zr {d:D}{r:List Int}{j:Nat}(h1:j<(d.kid 1).kids.length) (h2:j<r.length):(scB d r).take (j+1)=(scB d r).take j++[⟨((d.kid 1).kids[j]).tx,true,r[j]⟩]:=by
 have hl:j<(scB d r).length:=by simp[scB];omega
 rw[List.take_add_one,gE hl];simp[scB]
theorem wv (a b:List Bd):bdV (a++b)=bdV a++bdV b:=List.map_append
theorem Ie {F:Fd}{h:List O}{T:List (List Int)}{S:List Bool}{c:Bool}(hF:FAt F h T S c) (hh:bh h){i:Nat}(hi:i<F.ds.length) (hk1:1<(F.ds[i]).kids.length) (hT:i<T.length) (hle:((F.ds[i]).kid 1).kids.length=(T[i]).length)
  {n:Nat}(hn:(T[i]).length<n) (hl:(T[i]).length<1000000000) (hl2:F.ds.length<1000000000):∃si,call X E (n+1) 91 [.ref F.fi 0,.c (.int .i64 i)] h=some (.sl (bdV (scB F.ds[i] T[i])) si,h):=by
 obtain⟨v,h',h1,⟨si,rfl,_⟩,rfl⟩:=B8 (n:=n) (f:=91) (xf:=x91) (args:=[.ref F.fi 0,.c (.int .i64 i)]) (h:=h) (P:=fun v h'=>(∃si,v=.sl (bdV (scB F.ds[i] T[i])) si∧si.low h.length=true)∧h'=h) rfl rfl rfl (by kernel_rfl) ⟨rfl,rfl⟩
  (by rintro v h' ⟨⟨si,rfl,h2⟩,rfl⟩;exact⟨by simp[V.low,el,h2],hh⟩) (by
  have hf:=hF.obj;have hsl:=aa F.ds;have hvg:(D.vs F.ds)[i]'(by rw[hsl];exact hi)=(F.ds[i]).v:=ac _;obtain⟨id,hr1,hr2,hr3⟩:=hF.rowsGet hT;have hrl:(bf F.rs).length=F.ds.length:=by rw[dl,hF.rlen]
  have hii:(i:Int)<F.ds.length:=by omega
  have hx1:((D.vs (F.ds[i]).kids)[1]'(by rw[aa];exact hk1))=((F.ds[i]).kid 1).v:=ah _;have hk1i:(1:Int)<(F.ds[i]).kids.length:=by omega
  have hsk:=aa (F.ds[i]).kids;have hsc:=aa ((F.ds[i]).kid 1).kids;have htl:=hF.tlen;have hsb:(scB F.ds[i] T[i]).length=(T[i]).length:=by simp[scB,hle]
  have htakes:∀j (h1:j<((F.ds[i]).kid 1).kids.length) (h2:j<(T[i]).length),(scB F.ds[i] T[i]).take (j+1)=(scB F.ds[i] T[i]).take j++[⟨(((F.ds[i]).kid 1).kids[j]).tx,true,(T[i])[j]⟩]:=fun j h1 h2=>zr h1 h2
  have hlowh:h.length=h.length:=rfl;have hit:=bU T[i];have hfi:=hF.lt.1;generalize scB F.ds[i] T[i]=L at *;generalize T[i]=r at *;generalize hP:(F.ds[i]).kid 1=P at *;generalize call X E n=cf at *;simp -implicitDefEqProofs [x91_w,hf,hsl,hii,hi,hvg,ae,hsk,hk1i,hk1,hx1];obtain⟨J,hJ⟩:∃J:Nat→SF→Prop,J=fun k s=>∃j si,j+k=r.length∧s.e 20=.c (.int .i64 j)∧s.e 5=.sl (bdV (L.take j)) si∧GrowF 3 (bdV (L.take j)) si s.h∧(∀q,si=.tok q→h.length≤q)∧s.h.take h.length=h:=⟨_,rfl⟩
  refine bn J r.length hn (by rw[hJ];exact⟨0,.nil,by simp,by simp[au],by simp[au,bdV],.nil _ _,by simp,by simp⟩) ?_;rintro k ⟨e,h',base,rb⟩ hj he hb;rw[hJ] at hj;obtain⟨j,si,hj,e20,e5,hG,hsq,htk⟩:=hj;have e0:=he 0 rfl;have e1:=he 1 rfl;have e18:=he 18 rfl;have e19:=he 19 rfl;simp[au,dR] at e0 e1 e18 e19 hb;simp only at e20 e5 hG htk;subst hb;have hhl:h.length≤h'.length:=by
   have:=congrArg List.length htk;rw[List.length_take] at this;omega
  by_cases hm:j<r.length;rotate_left
  ·have hlt:¬(j:Int)<P.kids.length:=by omega
   obtain rfl:j=r.length:=by omega
   rw[List.take_of_length_le (by omega)] at e5;generalize hU:bdV L=U at *;simp -implicitDefEqProofs [x91l8_w,x91_r,e0,e1,e18,e19,e20,e5,hlt,hsc];refine⟨?_,htk⟩;cases si<;>exact⟨_,rfl,rfl⟩
  have hlt:(j:Int)<P.kids.length:=by omega
  have hm2:j<P.kids.length:=by omega
  have hw:IntKind.i64.wrap ((j:Int)+1)=(j:Int)+1:=aH (by omega);have hvk:(D.vs P.kids)[j]'(by rw[hsc];exact hm2)=(P.kids[j]).v:=ac _;have htke:=htakes j hm2 hm;have f0:=iK htk hf;have fr:=iK htk hr3;have hiv:=AS hm;have hjr:(j:Int)<r.length:=by omega
  have f0a:∀R,(h'++R)[F.fi]?=_:=fun R=>co f0 R
  have fra:∀R,(h'++R)[id]?=_:=fun R=>co fr R
  generalize r[j]=x at *;generalize P.kids[j]=y at *;generalize hL2:bdV (L.take (j+1))=L2 at *;have hL3:L2=bdV (L.take j)++[.agg [.c (.string y.tx),.c (.bool true),.c (.int .i64 x)]]:=by rw[← hL2,htke,wv];rfl
  have hzz:=um (L.take j);have hul:(bdV (L.take j)).length=j:=by rw[ft,List.length_take];omega
  generalize bdV (L.take j)=U at *;simp -implicitDefEqProofs [x91l8_w,e0,e1,e18,e19,e20,e5,hlt,hsc,hm2,hvk,ae,f0a,hrl,hii,hi,hr1,fra,hjr,hm,hit,hiv,hzz,hul];refine⟨⟨by omega,by omega⟩,ji (zz:=some 3) h.length (hG.app _) ?_ hsq (by omega) fun si' h2 hG' hl' hk' ht' hq' hn'=>?_⟩
  ·rw[aR (by omega)];rw[show h'.length+1+1-h'.length=2 by omega];rfl
  have htk2:h2.take h.length=h:=by rw[ht',List.take_append_of_le_length hhl,htk]
  simp -implicitDefEqProofs [e20,hw];refine⟨k-1,by omega,?_⟩;rw[hJ];refine⟨j+1,si',by omega,by simp[au],?_,?_,hq',htk2⟩
  ·rw[hL2,hL3];simp[au]
  ·rw[hL2,hL3];exact hG')
 exact⟨si,h1⟩
def bP (s:List (List Int) × Bool) (u:Nat × Nat × Int):List (List Int) × Bool :=
 if later ((s.1.getD u.1 []).getD u.2.1 0) u.2.2=(s.1.getD u.1 []).getD u.2.1 0 then s
 else (s.1.set u.1 ((s.1.getD u.1 []).set u.2.1 (later ((s.1.getD u.1 []).getD u.2.1 0) u.2.2)),true)
theorem dj (s:List (List Int) × Bool) (u:Nat × Nat × Int):(bP s u).1.map List.length=s.1.map List.length:=by
 unfold bP;split
 ·rfl
 ·simp only[List.map_set];refine List.ext_getElem? fun i=>?_
  by_cases h:u.1=i
  ·subst h;by_cases hl:u.1<s.1.length
   ·rw[sS (by simpa using hl)];simp[gE hl]
   ·rw[List.getElem?_eq_none (by simpa using hl),List.getElem?_eq_none (by simpa using hl)]
  ·rw[sN h]
theorem dW (us:List (Nat × Nat × Int)):∀(s:List (List Int) × Bool),(us.foldl bP s).1.map List.length=s.1.map List.length:=by
 induction us with
 | nil=>intro s;rfl
 | cons u us ih=>intro s;rw[List.foldl_cons,ih,dj]
def gOf (sk:Sk) (d:D):Nat:=(fkK sk (d.kid 1).key2).getD 0
def isX (sk:Sk) (S:List Bool):Nat→D→List Bd→Bool
 | 0,_,_=>false
 | f+1,d,l =>
  if d.kd=1 then false else if d.kd=2 then (fdB l.reverse d.tx).tm == -2 else
  if wn (d.kid 0).tx=0 then false else
  if wn (d.kid 0).tx=2 then (isX sk S f (d.kid 2) l||isX sk S f (d.kid 3) (l++[⟨(d.kid 1).tx,false,tmO (isX sk S f (d.kid 2) l)⟩])) else
  if wn (d.kid 0).tx=3 then S.getD (gOf sk d) false else (d.kids.drop 1).any fun x=>isX sk S f x l
def tmA (is:D→List Bd→Bool) (l:List Bd) (x:D):Int:=if x.kd=2∧(fdB l.reverse x.tx).pr=true then (fdB l.reverse x.tx).tm else tmO (is x l)
def upL (u:D→List (Nat × Nat × Int)) (g:Nat) (t:D→Int):Nat→List D→List (Nat × Nat × Int)
 | _,[]=>[]
 | k,x::r=>u x++(g,k,t x)::upL u g t (k+1) r
def upX (sk:Sk) (S:List Bool):Nat→D→List Bd→List (Nat × Nat × Int)
 | 0,_,_=>[]
 | f+1,d,l =>
  if d.kd=1 then [] else if d.kd=2 then [] else
  if wn (d.kid 0).tx=0 then [] else
  if wn (d.kid 0).tx=2 then upX sk S f (d.kid 2) l++upX sk S f (d.kid 3) (l++[⟨(d.kid 1).tx,false,tmO (isX sk S f (d.kid 2) l)⟩]) else
  if wn (d.kid 0).tx=3 then upL (fun x=>upX sk S f x l) (gOf sk d) (tmA (isX sk S f) l) 0 (d.kids.drop 2) else (d.kids.drop 1).flatMap fun x=>upX sk S f x l
def Pre (F:Fd) (h H:List O):Prop:=h.length≤H.length∧∀id,id<h.length→id≠F.fi→(∀p∈F.rs,id≠p.1)→H[id]?=h[id]?
theorem Pre.rfl' (F:Fd) (h:List O):Pre F h h:=⟨nL _,fun _ _ _ _=>rfl⟩
theorem Pre.app {F:Fd}{h H:List O}(a:Pre F h H) (R:List O):Pre F h (H++R):=⟨by rw[lA];exact Nat.le_trans a.1 (Nat.le_add_right _ _),fun id h0 h1 h2=>by rw[aL (Nat.lt_of_lt_of_le h0 a.1)];exact a.2 id h0 h1 h2⟩
theorem Pre.same {F:Fd}{h H H2:List O}(a:Pre F h H) (b:Same F H H2):Pre F h H2:=⟨by rw[b.1];exact a.1,fun id h0 h1 h2=>(b.2 id h1 h2).trans (a.2 id h0 h1 h2)⟩
theorem Pre.fin {F:Fd}{h H:List O}(a:Pre F h H):Same F h (H.take h.length):=by
 refine⟨by rw[List.length_take];exact Nat.min_eq_left a.1,fun id h1 h2=>?_⟩;by_cases c:id<h.length
 ·rw[List.getElem?_take_of_lt c,a.2 id c h1 h2]
 ·rw[List.getElem?_eq_none (by rw[List.length_take];omega),List.getElem?_eq_none (by omega)]
theorem FAt.take {F:Fd}{h H:List O}{T T1:List (List Int)}{S S1:List Bool}{c c1:Bool}(a:FAt F h T S c) (b:FAt F H T1 S1 c1):FAt F (H.take h.length) T1 S1 c1:=by
 have hlt:=a.lt;have key:∀{i:Nat}{o:O},i<h.length→H[i]?=some o→(H.take h.length)[i]?=some o:=fun hi e=>by rwa [List.getElem?_take_of_lt hi]
 refine⟨key hlt.1 b.obj,key hlt.2.1 b.mp,key hlt.2.2.1 b.sl,b.slen,b.tlen,b.rlen,fun k hk=>?_⟩;obtain⟨id,h1,h2⟩:=b.row k hk;exact⟨id,h1,key (hlt.2.2.2 _ (List.mem_of_getElem? h1)) h2⟩
def Ex90 (F:Fd) (ns:List Nat) (S:List Bool) (m B:Nat) (is:D→List Bd→Bool) (up:D→List Bd→List (Nat × Nat × Int)) (x:D):Prop :=
 ∀(l:List Bd) (i:SI) (h:List O) (T:List (List Int)) (c:Bool),l.length+x.sz≤B→FAt F h T S c→T.map List.length=ns→bh h →
  ∃h',call X E m 90 [.ref F.fi 0,x.v,.sl (bdV l) i] h=some (.c (.bool (is x l)),h')∧FAt F h' ((up x l).foldl bP (T,c)).1 S ((up x l).foldl bP (T,c)).2∧Same F h h'
theorem Ex90.up {F:Fd}{ns:List Nat}{S:List Bool}{m m' B:Nat}{is:D→List Bd→Bool}{up:D→List Bd→List (Nat × Nat × Int)}{x:D}(e:Ex90 F ns S m B is up x) (hm:m≤m'):Ex90 F ns S m' B is up x:=fun l i h T c h1 h2 h3 h4=>by
 obtain⟨h',k1,k2⟩:=e l i h T c h1 h2 h3 h4;exact⟨h',Ab.up hm k1,k2⟩
theorem DR (n:ByteArray) (p:Bool) (t:Int):∃q:Bool,FL true [1,2,0] (.agg [.c (.string n),.c (.bool p),.c (.int .i64 t)]) (.agg [.c (.string ⟨#[]⟩),.c (.bool false),.c (.int .i64 0)])=some (.c (.bool q))∧(p=true→q=true):=by
 by_cases h1:n=⟨#[]⟩
 ·subst h1;cases p with
  | true=>exact⟨true,rfl,fun _=>rfl⟩
  | false =>
   refine⟨!(t==0),?_,by simp⟩;rw[p6 _ _ _ _ _ _ rfl rfl];simp only[bO,ea,decide_true,if_true,beq_self_eq_true];cases t==0<;>rfl
 ·refine⟨true,?_,fun _=>rfl⟩;rw[p6 _ _ _ _ _ _ rfl rfl];simp only[bO,ea,h1,decide_false,Option.map_some];rfl
theorem zl {h:List O}{m:Nat}{sh:Sk}(hm:h[m]?=some (.mapo (skK sh) (skV sh))) (d:D){g:Nat}(hg:fkK sh d.key2=some g):jU (.mref m) (some [0,1]) d.key (.c (.int .i64 0)) false h=some (.c (.int .i64 g),h):=by
 have:=lM sh d.key2;simp only[D.key2] at this hg;rw[bE,sf];simp only[cY,hm,kX,this,Option.map_some,D.key2,hg];rfl
theorem pX {l:List Bool}{j:Nat}(h:j<l.length):rdV (bvs l) j none=some (.c (.bool l[j])):=by
 show (bvs l)[j]?=_;rw[gE (by rw[cd];exact h),n8]
theorem eF {l:List Int}{j:Nat}(h:j<l.length) (v:Int):(itv l).take j++V.c (.int .i64 v)::(itv l).drop (j+1)=itv (l.set j v):=by
 rw[List.set_eq_take_append_cons_drop,if_pos h];simp[itv]
theorem xR (u:D→List (Nat × Nat × Int)) (g:Nat) (t:D→Int){l:List D}{j:Nat}(h:j<l.length):upL u g t j (l.drop j)=u l[j]++(g,j,t l[j])::upL u g t (j+1) (l.drop (j+1)):=by
 rw[dC h,upL]
theorem GV {F:Fd}(ok:F.Ok){ns:List Nat}{S:List Bool}{m B:Nat}{is:D→List Bd→Bool}{up:D→List Bd→List (Nat × Nat × Int)}{d:D}{g:Nat}(hd:2≤d.kids.length) (hg:fkK (atF 0 F.ds) (d.kid 1).key2=some g) (hns:ns[g]?=some (d.kids.length-2))
  (hx:∀x∈d.kids.drop 2,Ex90 F ns S m B is up x) (hB:B+10≤m) (hB2:B<100000000) (hds:F.ds.length<1000000000) (l:List Bd) (i:SI) (h:List O) (T:List (List Int)) (c:Bool) (hl:l.length+d.sz≤B) (hF:FAt F h T S c) (hT:T.map List.length=ns) (hh:bh h) :
  ∃h',call X E (m+1) 143 [.ref F.fi 0,d.v,.sl (bdV l) i] h=some (.c (.bool (S.getD g false)),h')∧FAt F h' ((upL (fun x=>up x l) g (tmA is l) 0 (d.kids.drop 2)).foldl bP (T,c)).1 S ((upL (fun x=>up x l) g (tmA is l) 0 (d.kids.drop 2)).foldl bP (T,c)).2∧Same F h h':=by
 obtain⟨P,hP⟩:∃P:V→List O→Prop,P=fun v h'=>v=.c (.bool (S.getD g false))∧FAt F h' ((upL (fun x=>up x l) g (tmA is l) 0 (d.kids.drop 2)).foldl bP (T,c)).1 S ((upL (fun x=>up x l) g (tmA is l) 0 (d.kids.drop 2)).foldl bP (T,c)).2∧Same F h h':=⟨_,rfl⟩
 have hkl:=bV d;have hgl:g<T.length:=by
  rw[← hT] at hns;have:=(gS.1 hns).1;simpa using this
 have hgS:g<S.length:=by rw[hF.slen,← hF.tlen];exact hgl
 have hSg:S.getD g false=S[g]:=by simp[List.getD,gE hgS]
 obtain⟨v,h',h1,h2⟩:=B8 (n:=m) (f:=143) (xf:=x143) (args:=[.ref F.fi 0,d.v,.sl (bdV l) i]) (h:=h) (P:=P) rfl rfl rfl (by kernel_rfl) ⟨rfl,rfl⟩
  (by
   intro v h' hp;rw[hP] at hp;obtain⟨rfl,h2,h3⟩:=hp;refine⟨rfl,?_⟩;have:=FAt.low hh hF h2 h3;unfold bh at this;rw[h3.1] at this;exact this) (by
  have hlow:=el 0 l;have c90:∀x∈d.kids.drop 2,∀H T1 c1,FAt F H T1 S c1→T1.map List.length=ns→bh H→∃H2,call X E m 90 [.ref F.fi 0,x.v,.sl (bdV l) .any] H=some (.c (.bool (is x l)),H2)∧FAt F H2 ((up x l).foldl bP (T1,c1)).1 S ((up x l).foldl bP (T1,c1)).2∧Same F H H2 :=
   fun x hx' H T1 c1 a1 a2 a3=>hx x hx' l .any H T1 c1 (by have:=aW (bY hx');omega) a1 a2 a3
  have c89:∀(x:D) h,call X E m 89 [x.v] h=some (x.key,h):=by
   obtain⟨m,rfl⟩:∃m',m=m'+1:=⟨m-1,by omega⟩
   exact fun x=>Ht x
  have c140:∀t h,call X E m 140 [.sl (bdV l) .any,.c (.string t)] h=some ((fdB l.reverse t).v,h):=by
   obtain⟨m,rfl⟩:∃m',m=m'+1:=⟨m-1,by omega⟩
   exact fun t=>DT t l .any (by omega) (by omega)
  have c142:∀(a:Bool) h,call X E m 142 [.c (.bool a)] h=some (.c (.int .i64 (tmO a)),h):=by
   obtain⟨m,rfl⟩:∃m',m=m'+1:=⟨m-1,by omega⟩
   exact fun a=>EZ a
  have c175:∀(a b:Int) h,call X E m 175 [.c (.int .i64 a),.c (.int .i64 b)] h=some (.c (.int .i64 (later a b)),h):=by
   obtain⟨m,rfl⟩:∃m',m=m'+1:=⟨m-1,by omega⟩
   exact fun a b=>Gc a b
  have hsl:=aa d.kids;have v1:((D.vs d.kids)[1]'(by rw[aa];omega))=(d.kid 1).v:=ah _;have h1i:(1:Int)<d.kids.length:=by omega
  have h1n:1<d.kids.length:=by omega
  have h2i:(2:Int)≤d.kids.length:=by omega
  have hz:=D.hz d.kids;have hfa:=fun R=>(hF.app R).obj
  have hlk:=fun R=>zl (hF.app R).mp (d.kid 1) hg
  have hr2:(V.ref F.fi 0).vw2=.ref F.fi 0:=rfl;have hlD:=tS hh d;have hPr0:Pre F h (h++[.cells d.v.cells]):=(Pre.rfl' F h).app _;have hF0:=hF.app [.cells d.v.cells];have hvd:D.vs (d.kids.drop 2)=(D.vs d.kids).drop 2:=by rw[ar,ar,List.map_drop]
  have hdl:(d.kids.drop 2).length=d.kids.length-2:=by simp
  have hdli:((d.kids.length:Int)-2)=((d.kids.drop 2).length:Int):=by rw[hdl];omega
  generalize hQ:d.kids.drop 2=Q at *;generalize bdV l=U at *;generalize call X E m=cf at *;simp -implicitDefEqProofs [x143_w,aM,hfa,hsl,h1i,h1n,h2i,hd,v1,ae,c89,hlk,hz];have hsQ:=aa Q;have hQl:Q.length<100000000:=by omega
  obtain⟨J,hJ⟩:∃J:Nat→SF→Prop,J=fun k s=>∃j T1 c1,j+k=Q.length∧s.e 27=.c (.int .i64 j)∧FAt F s.h T1 S c1∧Pre F h s.h∧bh s.h∧T1.map List.length=ns∧(upL (fun x=>up x l) g (tmA is l) 0 Q).foldl bP (T,c)=(upL (fun x=>up x l) g (tmA is l) j (Q.drop j)).foldl bP (T1,c1):=⟨_,rfl⟩
  refine bn J Q.length (by omega) (by rw[hJ];exact⟨0,T,c,by simp,by simp[au],hF0,hPr0,hlD,hT,by simp⟩) ?_;rintro k ⟨e,H,base,rb⟩ hj he hb;rw[hJ] at hj;obtain⟨j,T1,c1,hj,e27,fF,fP,fL,fT,hfx⟩:=hj;have e0:=he 0 rfl;have e2:=he 2 rfl;have e7:=he 7 rfl;have e25:=he 25 rfl;have e26:=he 26 rfl;rw[hQ] at e25;rw[← hdl] at e26;simp[au,dR] at e0 e2 e7 e25 e26 hb;simp only at e27 fF fP fL;subst hb;have hgT:g<T1.length:=by rw[fF.tlen,← hF.tlen];exact hgl
  obtain⟨rid,r1,r2,r3⟩:=fF.rowsGet hgT;have hrl:(T1[g]).length=Q.length:=by
   rw[← fT] at hns;rw[List.getElem?_map,gE hgT] at hns;rw[hdl];exact Option.some.inj hns
  have hrv:(bf F.rs).length=F.ds.length:=by rw[dl,fF.rlen]
  have hgd:g<F.ds.length:=by rw[← fF.tlen];exact hgT
  have hgi:(g:Int)<F.ds.length:=by omega
  by_cases hm:j<Q.length;rotate_left
  ·have hlt:¬(j:Int)<Q.length:=by omega
   obtain rfl:j=Q.length:=by omega
   rw[List.drop_length,upL,List.foldl_nil] at hfx;have hfo:=fF.obj;have hso:=fF.sl;have hsr:=pX hgS;rw[hSg,hfx] at hP;have hPo:P (.c (.bool S[g])) (H.take h.length):=by rw[hP];exact⟨rfl,FAt.take hF fF,fP.fin⟩
   simp -implicitDefEqProofs [x143l15_w,x143_r,e0,e2,e7,e25,e26,e27,hlt,hfo,hso,hgd,hgi,hsr,hSg];exact hPo
  have hlt:(j:Int)<Q.length:=by omega
  have hw:IntKind.i64.wrap ((j:Int)+1)=(j:Int)+1:=aH (by omega);have hvk:(D.vs Q)[j]'(by rw[hsQ];exact hm)=(Q[j]).v:=ac _;have hmx:Q[j]∈Q:=List.getElem_mem hm;rw[xR _ _ _ hm] at hfx;rw[List.foldl_append,List.foldl_cons] at hfx;generalize Q[j]=x at *;have lD:=tS fL x;obtain⟨H2,c90x,gF,gS⟩:=c90 x hmx _ T1 c1 (fF.app [.cells x.v.cells]) fT lD;have gL:=FAt.low lD (fF.app [.cells x.v.cells]) gF gS;have gP:=(fP.app [.cells x.v.cells]).same gS;have gT:=(dW (up x l) (T1,c1)).trans fT;obtain⟨T2,c2,h12⟩:∃T2 c2,(up x l).foldl bP (T1,c1)=(T2,c2):=⟨_,_,rfl⟩
  rw[h12] at hfx gF gT;have hbx:H2[H.length]?=some (.cells x.v.cells):=by
   have:=fF.lt;rw[gS.2 _ (by omega) fun p hp=>by have:=this.2.2.2 p hp;omega,aR (nL _)];simp
  have hH2:H2.length=H.length+1:=by rw[gS.1];simp
  have hH2le:H.length+1≤H2.length:=by omega
  have hgT2:g<T2.length:=by rw[gF.tlen,← hF.tlen];exact hgl
  obtain⟨rid,r1,r2,r3⟩:=gF.rowsGet hgT2;have hrl2:(T2[g]).length=Q.length:=by
   rw[← gT] at hns;rw[List.getElem?_map,gE hgT2] at hns;rw[hdl];exact Option.some.inj hns
  have hjr:j<(T2[g]).length:=by omega
  have hjri:(j:Int)<(T2[g]).length:=by omega
  have hrd:=AS hjr;have hD1:T2.getD g []=T2[g]:=by simp[List.getD,gE hgT2]
  have hD2:(T2[g]).getD j 0=(T2[g])[j]:=by simp[List.getD,gE hjr]
  have hup:∀t,bP (T2,c2) (g,j,t)=if later (T2[g])[j] t=(T2[g])[j] then (T2,c2) else (T2.set g ((T2[g]).set j (later (T2[g])[j] t)),true):=fun t=>by
   simp only[bP,hD1,hD2]
  have hset:∀(H3:List O) (c3:Bool) (v:Int),FAt F H3 T2 S c3→FAt F ((H3.set rid (.cells (itv ((T2[g]).set j v)))).set F.fi (.cells [.sl (D.vs F.ds) F.s0,.mref F.mi,.sl (bf F.rs) F.s2,.row F.sj 0 F.ds.length none,.c (.bool true)])) (T2.set g ((T2[g]).set j v)) S true ∧
    Same F H3 ((H3.set rid (.cells (itv ((T2[g]).set j v)))).set F.fi (.cells [.sl (D.vs F.ds) F.s0,.mref F.mi,.sl (bf F.rs) F.s2,.row F.sj 0 F.ds.length none,.c (.bool true)])):=fun H3 c3 v a=>by
   obtain⟨a1,a2⟩:=FAt.setRow ok a hgT2 r2 (r:=(T2[g]).set j v) (by simp);obtain⟨b1,b2⟩:=FAt.setC ok a1 true;exact⟨b1,a2.trans b2⟩
  have hspl:=fun v=>eF hjr v
  have hjle:j+1≤(T2[g]).length:=by omega
  have hil:=bU T2[g];have hrn:=(ok.rows _ (List.mem_of_getElem? r2)).1;have hrF:rid<H2.length:=gF.lt.2.2.2 _ (List.mem_of_getElem? r2);by_cases hk2:x.kd=2;rotate_left
  ·have hk2b:(x.kd==2)=false:=by simp[hk2]
   have htm:tmA is l x=tmO (is x l):=by unfold tmA;rw[if_neg (fun h=>hk2 h.1)]
   rw[htm] at hfx;generalize is x l=b at *;obtain⟨t,ht⟩:∃t,t=tmO b:=⟨_,rfl⟩
   rw[← ht] at hfx;have c142b:∀h,cf 142 [.c (.bool b)] h=some (.c (.int .i64 t),h):=by rw[ht];exact c142 b
   have hupt:=hup t;have gfo:=gF.obj;have hfs:∀o,(H2.set rid o)[F.fi]?=_:=fun o=>(sN hrn).trans gfo
   obtain⟨qF,qS⟩:=hset H2 c2 (later (T2[g])[j] t) gF;have qL:=FAt.low gL gF qF qS;have qP:=gP.same qS;have qT:(T2.set g ((T2[g]).set j (later (T2[g])[j] t))).map List.length=ns:=by
    have:=dj (T2,c2) (g,j,t);rw[hupt] at this;split at this
    ·rename_i h9;rw[h9];simpa using gT
    ·exact this.trans gT
   generalize hov:(T2[g])[j]=o at *;by_cases hlo:later o t=o
   ·have hlob:(later o t != o)=false:=by simp[hlo]
    rw[if_pos hlo] at hupt;rw[hupt] at hfx;simp -implicitDefEqProofs [x143l15_w,e0,e2,e7,e25,e26,e27,hlt,hsQ,hm,hvk,ae,c90x,hbx,hH2le,c142b,hk2b,gfo,hrv,hgd,hgi,r1,r3,hjri,hrd,c175,hlob,hw];refine⟨k-1,by omega,?_⟩;rw[hJ];exact⟨j+1,T2,c2,by omega,by simp[au],gF,gP,gL,gT,hfx⟩
   ·have hlob:(later o t != o)=true:=by simp[hlo]
    rw[if_neg hlo] at hupt;rw[hupt] at hfx;simp -implicitDefEqProofs [x143l15_w,e0,e2,e7,e25,e26,e27,hlt,hsQ,hm,hvk,ae,c90x,hbx,hH2le,c142b,hk2b,gfo,hrv,hgd,hgi,r1,r3,hjri,hrd,c175,hlob,hw,hspl,hjle,hil,hfs];refine⟨k-1,by omega,?_⟩;rw[hJ];exact⟨j+1,_,true,by omega,by simp[au],qF,qP,qL,qT,hfx⟩
  have hk2b:(x.kd==2)=true:=by simp[hk2]
  obtain⟨bb,hbbv⟩:∃bb,bb=fdB l.reverse x.tx:=⟨_,rfl⟩
  have c140b:∀h,cf 140 [.sl U .any,.c (.string x.tx)] h=some (.agg [.c (.string bb.nm),.c (.bool bb.pr),.c (.int .i64 bb.tm)],h):=by rw[hbbv];exact c140 x.tx
  have hbxa:∀R,(H2++R)[H.length]?=some (.cells x.v.cells):=fun R=>co hbx R
  obtain⟨q,hq,hqp⟩:=DR bb.nm bb.pr bb.tm;cases hpr:bb.pr with
  | true =>
   have htm:tmA is l x=bb.tm:=by unfold tmA;rw[← hbbv,if_pos ⟨hk2,hpr⟩]
   rw[htm] at hfx;have hqt:=hqp hpr;subst hqt;rw[hpr] at hq c140b;have c142b:∀h,cf 142 [.c (.bool (is x l))] h=some (.c (.int .i64 (tmO (is x l))),h):=c142 _;generalize is x l=b at *;obtain⟨t,ht⟩:∃t,t=bb.tm:=⟨_,rfl⟩
   rw[← ht] at hfx hq c140b;have hupt:=hup t;obtain⟨Hx,hHx⟩:∃Hx,Hx=H2++[O.cells [.c (.string bb.nm),.c (.bool true),.c (.int .i64 t)]]:=⟨_,rfl⟩
   have gF':FAt F Hx T2 S c2:=by rw[hHx];exact gF.app _
   have gP':Pre F h Hx:=by rw[hHx];exact gP.app _
   have gL':bh Hx:=by rw[hHx];exact sV gL (by simp[O.low,V.lows,V.low])
   have hbx':Hx[H.length]?=some (.cells x.v.cells):=by rw[hHx];exact co hbx _
   have hbb:Hx[H2.length]?=some (.cells [.c (.string bb.nm),.c (.bool true),.c (.int .i64 t)]):=by rw[hHx];simp
   have r3':Hx[rid]?=some (.cells (itv T2[g])):=by rw[hHx];exact co r3 _
   have gfo:=gF'.obj;have hfs:∀o,(Hx.set rid o)[F.fi]?=_:=fun o=>(sN hrn).trans gfo
   obtain⟨qF,qS⟩:=hset Hx c2 (later (T2[g])[j] t) gF';have qL:=FAt.low gL' gF' qF qS;have qP:=gP'.same qS;have qT:(T2.set g ((T2[g]).set j (later (T2[g])[j] t))).map List.length=ns:=by
    have:=dj (T2,c2) (g,j,t);rw[hupt] at this;split at this
    ·rename_i h9;rw[h9];simpa using gT
    ·exact this.trans gT
   generalize hov:(T2[g])[j]=o at *;by_cases hlo:later o t=o
   ·have hlob:(later o t != o)=false:=by simp[hlo]
    rw[if_pos hlo] at hupt;rw[hupt] at hfx;simp -implicitDefEqProofs [x143l15_w,e0,e2,e7,e25,e26,e27,hlt,hsQ,hm,hvk,ae,c90x,hbx,hH2le,c142b,c140b,hk2b,hbxa,← hHx,hbx',hbb,hq,gfo,hrv,hgd,hgi,r1,r3',hjri,hrd,c175,hlob,hw];refine⟨k-1,by omega,?_⟩;rw[hJ];exact⟨j+1,T2,c2,by omega,by simp[au],gF',gP',gL',gT,hfx⟩
   ·have hlob:(later o t != o)=true:=by simp[hlo]
    rw[if_neg hlo] at hupt;rw[hupt] at hfx;simp -implicitDefEqProofs [x143l15_w,e0,e2,e7,e25,e26,e27,hlt,hsQ,hm,hvk,ae,c90x,hbx,hH2le,c142b,c140b,hk2b,hbxa,← hHx,hbx',hbb,hq,gfo,hrv,hgd,hgi,r1,r3',hjri,hrd,c175,hlob,hw,hspl,hjle,hil,hfs];refine⟨k-1,by omega,?_⟩;rw[hJ];exact⟨j+1,_,true,by omega,by simp[au],qF,qP,qL,qT,hfx⟩
  | false =>
   have htm:tmA is l x=tmO (is x l):=by
    unfold tmA;rw[← hbbv,if_neg (fun h=>by rw[hpr] at h;cases h.2)]
   rw[htm] at hfx;rw[hpr] at hq c140b;generalize is x l=b at *;obtain⟨t,ht⟩:∃t,t=tmO b:=⟨_,rfl⟩
   rw[← ht] at hfx;have c142b:∀h,cf 142 [.c (.bool b)] h=some (.c (.int .i64 t),h):=by rw[ht];exact c142 b
   cases q with
   | true =>
    have hupt:=hup t;obtain⟨Hx,hHx⟩:∃Hx,Hx=H2++[O.cells [.c (.string bb.nm),.c (.bool false),.c (.int .i64 bb.tm)]]:=⟨_,rfl⟩
    have gF':FAt F Hx T2 S c2:=by rw[hHx];exact gF.app _
    have gP':Pre F h Hx:=by rw[hHx];exact gP.app _
    have gL':bh Hx:=by rw[hHx];exact sV gL (by simp[O.low,V.lows,V.low])
    have hbx':Hx[H.length]?=some (.cells x.v.cells):=by rw[hHx];exact co hbx _
    have hbb:Hx[H2.length]?=some (.cells [.c (.string bb.nm),.c (.bool false),.c (.int .i64 bb.tm)]):=by rw[hHx];simp
    have r3':Hx[rid]?=some (.cells (itv T2[g])):=by rw[hHx];exact co r3 _
    have gfo:=gF'.obj;have hfs:∀o,(Hx.set rid o)[F.fi]?=_:=fun o=>(sN hrn).trans gfo
    obtain⟨qF,qS⟩:=hset Hx c2 (later (T2[g])[j] t) gF';have qL:=FAt.low gL' gF' qF qS;have qP:=gP'.same qS;have qT:(T2.set g ((T2[g]).set j (later (T2[g])[j] t))).map List.length=ns:=by
     have:=dj (T2,c2) (g,j,t);rw[hupt] at this;split at this
     ·rename_i h9;rw[h9];simpa using gT
     ·exact this.trans gT
    generalize hov:(T2[g])[j]=o at *;by_cases hlo:later o t=o
    ·have hlob:(later o t != o)=false:=by simp[hlo]
     rw[if_pos hlo] at hupt;rw[hupt] at hfx;simp -implicitDefEqProofs [x143l15_w,e0,e2,e7,e25,e26,e27,hlt,hsQ,hm,hvk,ae,c90x,hbx,hH2le,c142b,c140b,hk2b,hbxa,← hHx,hbx',hbb,hq,gfo,hrv,hgd,hgi,r1,r3',hjri,hrd,c175,hlob,hw];refine⟨k-1,by omega,?_⟩;rw[hJ];exact⟨j+1,T2,c2,by omega,by simp[au],gF',gP',gL',gT,hfx⟩
    ·have hlob:(later o t != o)=true:=by simp[hlo]
     rw[if_neg hlo] at hupt;rw[hupt] at hfx;simp -implicitDefEqProofs [x143l15_w,e0,e2,e7,e25,e26,e27,hlt,hsQ,hm,hvk,ae,c90x,hbx,hH2le,c142b,c140b,hk2b,hbxa,← hHx,hbx',hbb,hq,gfo,hrv,hgd,hgi,r1,r3',hjri,hrd,c175,hlob,hw,hspl,hjle,hil,hfs];refine⟨k-1,by omega,?_⟩;rw[hJ];exact⟨j+1,_,true,by omega,by simp[au],qF,qP,qL,qT,hfx⟩
   | false =>
    have hupt:=hup t;obtain⟨Hx,hHx⟩:∃Hx,Hx=H2++[O.cells [.c (.string bb.nm),.c (.bool false),.c (.int .i64 bb.tm)]]:=⟨_,rfl⟩
    have gF':FAt F Hx T2 S c2:=by rw[hHx];exact gF.app _
    have gP':Pre F h Hx:=by rw[hHx];exact gP.app _
    have gL':bh Hx:=by rw[hHx];exact sV gL (by simp[O.low,V.lows,V.low])
    have hbx':Hx[H.length]?=some (.cells x.v.cells):=by rw[hHx];exact co hbx _
    have hbb:Hx[H2.length]?=some (.cells [.c (.string bb.nm),.c (.bool false),.c (.int .i64 bb.tm)]):=by rw[hHx];simp
    have r3':Hx[rid]?=some (.cells (itv T2[g])):=by rw[hHx];exact co r3 _
    have gfo:=gF'.obj;have hfs:∀o,(Hx.set rid o)[F.fi]?=_:=fun o=>(sN hrn).trans gfo
    obtain⟨qF,qS⟩:=hset Hx c2 (later (T2[g])[j] t) gF';have qL:=FAt.low gL' gF' qF qS;have qP:=gP'.same qS;have qT:(T2.set g ((T2[g]).set j (later (T2[g])[j] t))).map List.length=ns:=by
     have:=dj (T2,c2) (g,j,t);rw[hupt] at this;split at this
     ·rename_i h9;rw[h9];simpa using gT
     ·exact this.trans gT
    generalize hov:(T2[g])[j]=o at *;by_cases hlo:later o t=o
    ·have hlob:(later o t != o)=false:=by simp[hlo]
     rw[if_pos hlo] at hupt;rw[hupt] at hfx;simp -implicitDefEqProofs [x143l15_w,e0,e2,e7,e25,e26,e27,hlt,hsQ,hm,hvk,ae,c90x,hbx,hH2le,c142b,c140b,hk2b,hbxa,← hHx,hbx',hbb,hq,gfo,hrv,hgd,hgi,r1,r3',hjri,hrd,c175,hlob,hw];refine⟨k-1,by omega,?_⟩;rw[hJ];exact⟨j+1,T2,c2,by omega,by simp[au],gF',gP',gL',gT,hfx⟩
    ·have hlob:(later o t != o)=true:=by simp[hlo]
     rw[if_neg hlo] at hupt;rw[hupt] at hfx;simp -implicitDefEqProofs [x143l15_w,e0,e2,e7,e25,e26,e27,hlt,hsQ,hm,hvk,ae,c90x,hbx,hH2le,c142b,c140b,hk2b,hbxa,← hHx,hbx',hbb,hq,gfo,hrv,hgd,hgi,r1,r3',hjri,hrd,c175,hlob,hw,hspl,hjle,hil,hfs];refine⟨k-1,by omega,?_⟩;rw[hJ];exact⟨j+1,_,true,by omega,by simp[au],qF,qP,qL,qT,hfx⟩)
 rw[hP] at h2;obtain⟨rfl,h2⟩:=h2;exact⟨h',h1,h2⟩
def okY (sk:Sk) (ns:List Nat):Nat→D→Prop
  | 0,_=>False
  | f+1,d=>d.kd=1∨d.kd=2∨(d.kd≠1∧d.kd≠2∧0<d.kids.length ∧
      (wn (d.kid 0).tx=0 ∨
       (wn (d.kid 0).tx=2∧d.kids.length=4∧okY sk ns f (d.kid 2)∧okY sk ns f (d.kid 3)) ∨
       (wn (d.kid 0).tx=3∧2≤d.kids.length∧(∃g,fkK sk (d.kid 1).key2=some g∧ns[g]?=some (d.kids.length-2))∧∀x∈d.kids.drop 2,okY sk ns f x) ∨
       (wn (d.kid 0).tx≠0∧wn (d.kid 0).tx≠2∧wn (d.kid 0).tx≠3∧∀x∈d.kids.drop 1,okY sk ns f x)))
theorem uO {p:D→Bool}{l:List D}{j:Nat}(h:j<l.length):(l.drop j).any p=(p l[j]||(l.drop (j+1)).any p):=by
 rw[dC h,List.any_cons]
theorem nP {u:D→List (Nat × Nat × Int)}{l:List D}{j:Nat}(h:j<l.length):(l.drop j).flatMap u=u l[j]++(l.drop (j+1)).flatMap u:=by
 rw[dC h,List.flatMap_cons]
theorem H7 {F:Fd}(ok:F.Ok){ns:List Nat}{S:List Bool}{m B f:Nat}(hK:∀x,okY (atF 0 F.ds) ns f x→Ex90 F ns S m B (isX (atF 0 F.ds) S f) (upX (atF 0 F.ds) S f) x) (hB:B+10≤m) (hB2:B<100000000) (hds:F.ds.length<1000000000)
  {d:D}(hd:okY (atF 0 F.ds) ns (f+1) d):Ex90 F ns S (m+2) B (isX (atF 0 F.ds) S (f+1)) (upX (atF 0 F.ds) S (f+1)) d:=by
 intro l i h T c hl hF hT hh;obtain⟨P,hP⟩:∃P:V→List O→Prop,P=fun v h'=>v=.c (.bool (isX (atF 0 F.ds) S (f+1) d l))∧FAt F h' ((upX (atF 0 F.ds) S (f+1) d l).foldl bP (T,c)).1 S ((upX (atF 0 F.ds) S (f+1) d l).foldl bP (T,c)).2∧Same F h h':=⟨_,rfl⟩
 have hkl:=bV d;obtain⟨v,h',h1,h2⟩:=B8 (n:=m+1) (f:=90) (xf:=x90) (args:=[.ref F.fi 0,d.v,.sl (bdV l) i]) (h:=h) (P:=P) rfl rfl rfl (by kernel_rfl) ⟨rfl,rfl⟩
  (by
   intro v h' hp;rw[hP] at hp;obtain⟨rfl,h2,h3⟩:=hp;refine⟨rfl,?_⟩;have:=FAt.low hh hF h2 h3;unfold bh at this;rw[h3.1] at this;exact this) (by
  have hlow:=el 0 l;have c90:∀x,okY (atF 0 F.ds) ns f x→x.sz<d.sz→∀(l1:List Bd) i H T1 c1,l1.length≤l.length+1→FAt F H T1 S c1→T1.map List.length=ns→bh H→∃H2,call X E (m+1) 90 [.ref F.fi 0,x.v,.sl (bdV l1) i] H=some (.c (.bool (isX (atF 0 F.ds) S f x l1)),H2)∧FAt F H2 ((upX (atF 0 F.ds) S f x l1).foldl bP (T1,c1)).1 S ((upX (atF 0 F.ds) S f x l1).foldl bP (T1,c1)).2∧Same F H H2 :=
   fun x hx hsz l1 i H T1 c1 hl1 a1 a2 a3=>(hK x hx).up (Nat.le_succ m) l1 i H T1 c1 (by omega) a1 a2 a3
  have c143:∀g,2≤d.kids.length→fkK (atF 0 F.ds) (d.kid 1).key2=some g→ns[g]?=some (d.kids.length-2)→(∀x∈d.kids.drop 2,okY (atF 0 F.ds) ns f x)→∀H,FAt F H T S c→bh H→∃H2,call X E (m+1) 143 [.ref F.fi 0,d.v,.sl (bdV l) .any] H=some (.c (.bool (S.getD g false)),H2)∧FAt F H2 ((upL (fun x=>upX (atF 0 F.ds) S f x l) g (tmA (isX (atF 0 F.ds) S f) l) 0 (d.kids.drop 2)).foldl bP (T,c)).1 S ((upL (fun x=>upX (atF 0 F.ds) S f x l) g (tmA (isX (atF 0 F.ds) S f) l) 0 (d.kids.drop 2)).foldl bP (T,c)).2∧Same F H H2 :=
   fun g g1 g2 g3 g4 H a1 a2=>GV ok g1 g2 g3 (fun x hx=>hK x (g4 x hx)) hB hB2 hds l .any H T c hl a1 hT a2
  have c140:∀t h,call X E (m+1) 140 [.sl (bdV l) .any,.c (.string t)] h=some ((fdB l.reverse t).v,h):=fun t=>DT t l .any (by omega) (by omega)
  have c142:∀(a:Bool) h,call X E (m+1) 142 [.c (.bool a)] h=some (.c (.int .i64 (tmO a)),h):=fun a=>EZ a
  have c141:∀h,call X E (m+1) 141 [.sl (bdV l) .any] h=some (.sl (bdV l) .full,h):=fun h=>GB l .any h
  have hsl:=aa d.kids;have hr2:(V.ref F.fi 0).vw2=.ref F.fi 0:=rfl;have hlD:=tS hh d;have hPr0:Pre F h (h++[.cells d.v.cells]):=(Pre.rfl' F h).app _;have hF0:=hF.app [.cells d.v.cells];have htk1:∀R:List O,(h++R).take h.length=h:=fun R=>by rw[List.take_append_of_le_length (nL _),List.take_length]
  rw[isX,upX] at hP;rw[okY] at hd;have hbl:=ft l;by_cases hk1:d.kd=1
  ·have b1:(d.kd==1)=true:=by simp[hk1]
   rw[if_pos hk1,if_pos hk1] at hP;have hPo:P (.c (.bool false)) h:=by rw[hP];exact⟨rfl,hF,Same.rfl' F h⟩
   generalize call X E (m+1)=cf at *;simp -implicitDefEqProofs [x90_w,x90_r,b1,ae,aM];exact hPo
  have b1:(d.kd==1)=false:=by simp[hk1]
  rw[if_neg hk1,if_neg hk1] at hP;by_cases hk2:d.kd=2
  ·have b2:(d.kd==2)=true:=by simp[hk2]
   rw[if_pos hk2,if_pos hk2] at hP;have hPo:P (.c (.bool ((fdB l.reverse d.tx).tm == -2))) h:=by rw[hP];exact⟨rfl,hF,Same.rfl' F h⟩
   have c140x:=c140 d.tx;generalize fdB l.reverse d.tx=bb at *;unfold Bd.v at c140x;generalize bdV l=U at *;generalize call X E (m+1)=cf at *;simp -implicitDefEqProofs [x90_w,x90_r,b1,b2,ae,aM,c140x];exact hPo
  have b2:(d.kd==2)=false:=by simp[hk2]
  rw[if_neg hk2,if_neg hk2] at hP;obtain⟨-,-,h0l,hd⟩:=(hd.resolve_left hk1).resolve_left hk2;have h0i:(0:Int)<d.kids.length:=by omega
  have v0:((D.vs d.kids)[0]'(by rw[aa];exact h0l))=(d.kid 0).v:=ah _;by_cases w0:wn (d.kid 0).tx=0
  ·rw[if_pos w0,if_pos w0] at hP;have hPo:P (.c (.bool false)) h:=by rw[hP];exact⟨rfl,hF,Same.rfl' F h⟩
   generalize bdV l=U at *;generalize call X E (m+1)=cf at *;simp -implicitDefEqProofs [x90_w,x90_r,b1,b2,hsl,h0l,h0i,v0,w0,ae,aM];exact hPo
  rw[if_neg w0,if_neg w0] at hP;have hd:=hd.resolve_left w0;have w0b:(wn (d.kid 0).tx==0)=false:=by simp[w0]
  by_cases w2:wn (d.kid 0).tx=2
  ·rw[if_pos w2,if_pos w2] at hP;obtain⟨-,h4,k2,k3⟩:=hd.resolve_right (by rintro (h|h);exact absurd (w2.symm.trans h.1) (by decide);exact h.2.1 w2);have km2:=aW (bI (d:=d) (j:=2) (by omega));have km3:=aW (bI (d:=d) (j:=3) (by omega));obtain⟨H2,c2x,gF,gS⟩:=c90 (d.kid 2) k2 km2 l .any _ T c (by omega) hF0 hT hlD;have gL:=FAt.low hlD hF0 gF gS;have gP:=hPr0.same gS;have gT:=(dW (upX (atF 0 F.ds) S f (d.kid 2) l) (T,c)).trans hT;have hH2:H2.length=h.length+1:=by rw[gS.1];simp
   have hH2le:h.length+1≤H2.length:=by omega
   have hbx:H2[h.length]?=some (.cells d.v.cells):=by
    have:=hF.lt;rw[gS.2 _ (by omega) fun p hp=>by have:=this.2.2.2 p hp;omega,aR (nL _)];simp
   rw[List.foldl_append] at hP;obtain⟨T2,c2,h12⟩:∃T2 c2,(upX (atF 0 F.ds) S f (d.kid 2) l).foldl bP (T,c)=(T2,c2):=⟨_,_,rfl⟩
   rw[h12] at hP gF gT;have lL:bh (H2++[.tok 1 3,.tok (l.length+1) 3]):=sV gL (by simp[O.low]);generalize isX (atF 0 F.ds) S f (d.kid 2) l=q2 at *;obtain⟨H4,c3x,qF,qS⟩:=c90 (d.kid 3) k3 km3 (l++[⟨(d.kid 1).tx,false,tmO q2⟩]) (.tok (H2.length+1)) _ T2 c2 (by simp) (gF.app [.tok 1 3,.tok (l.length+1) 3]) gT lL;have qP:=(gP.app [.tok 1 3,.tok (l.length+1) 3]).same qS;have hH4le:H2.length+2≤H4.length:=by rw[qS.1];simp
   generalize isX (atF 0 F.ds) S f (d.kid 3) (l++[⟨(d.kid 1).tx,false,tmO q2⟩])=q3 at *;have hPo:P (.c (.bool (q2||q3))) (H4.take h.length):=by rw[hP];exact⟨rfl,FAt.take hF qF,qP.fin⟩
   have v1:((D.vs d.kids)[1]'(by rw[aa];omega))=(d.kid 1).v:=ah _;have v2:((D.vs d.kids)[2]'(by rw[aa];omega))=(d.kid 2).v:=ah _;have v3:((D.vs d.kids)[3]'(by rw[aa];omega))=(d.kid 3).v:=ah _;rw[h4] at hsl;have hbz:=um l;rw[wv,show bdV [⟨(d.kid 1).tx,false,tmO q2⟩]=[.agg [.c (.string (d.kid 1).tx),.c (.bool false),.c (.int .i64 (tmO q2))]] from rfl] at c3x;have hj1:(l.length+1)*32≤140737488355328:=by omega
   have hj2:l.length+1≤140737488355328:=by omega
   have c142b:=c142 q2;have hbxa:∀R,(H2++R)[h.length]?=some (.cells d.v.cells):=fun R=>co hbx R
   generalize tmO q2=t at *;generalize bdV l=U at *;generalize call X E (m+1)=cf at *;simp -implicitDefEqProofs [x90_w,x90_r,b1,b2,hsl,v0,v1,v2,v3,w2,ae,aM,c2x,hH2le,hbx,hbxa,c141,c142b,hbz,hbl,hj1,hj2,c3x,hH4le];cases q2<;>exact hPo
  rw[if_neg w2,if_neg w2] at hP;have hd:=hd.resolve_left fun h=>w2 h.1
  have w2b:(wn (d.kid 0).tx==2)=false:=by simp[w2]
  by_cases w3:wn (d.kid 0).tx=3
  ·rw[if_pos w3,if_pos w3] at hP;obtain⟨-,g1,⟨g,g2,g3⟩,g4⟩:=hd.resolve_right fun h=>h.2.2.1 w3
   obtain⟨H2,c143x,gF,gS⟩:=c143 g g1 g2 g3 g4 _ hF0 hlD;have hgo:gOf (atF 0 F.ds) d=g:=by unfold gOf;rw[g2];rfl
   rw[hgo] at hP;have hPo:P (.c (.bool (S.getD g false))) (H2.take h.length):=by rw[hP];exact⟨rfl,FAt.take hF gF,(hPr0.same gS).fin⟩
   have hH2:h.length+1≤H2.length:=by rw[gS.1];simp
   have hbx:H2[h.length]?=some (.cells d.v.cells):=by
    have:=hF.lt;rw[gS.2 _ (by omega) fun p hp=>by have:=this.2.2.2 p hp;omega,aR (nL _)];simp
   generalize S.getD g false=b at *;generalize bdV l=U at *;generalize call X E (m+1)=cf at *;simp -implicitDefEqProofs [x90_w,x90_r,b1,b2,hsl,h0l,h0i,v0,w3,ae,aM,c143x,hH2];exact hPo
  rw[if_neg w3,if_neg w3] at hP;have w3b:(wn (d.kid 0).tx==3)=false:=by simp[w3]
  obtain⟨-,-,-,g4⟩:=hd.resolve_left fun h=>w3 h.1
  have h1n:1≤d.kids.length:=by omega
  have h1i:(1:Int)≤d.kids.length:=by omega
  have hz:=D.hz d.kids;have hQs:∀x∈d.kids.drop 1,x.sz<d.sz:=fun x hx=>aW (bY hx)
  have hQl:(d.kids.drop 1).length<100000000:=by rw[List.length_drop];omega
  have hdl:(d.kids.drop 1).length=d.kids.length-1:=by simp
  have hQn:(d.kids.drop 1).length<m+1:=by rw[List.length_drop];omega
  have hvd1:(D.vs d.kids).tail=D.vs (d.kids.drop 1):=by rw[ar,ar,List.map_drop,List.drop_one]
  generalize hQ:d.kids.drop 1=Q at *;have hsQ:=aa Q;generalize hU:bdV l=U at *;generalize call X E (m+1)=cf at *;simp -implicitDefEqProofs [x90_w,b1,b2,hsl,h0l,h0i,v0,w0b,w2b,w3b,ae,aM,h1n,h1i,hz];obtain⟨J,hJ⟩:∃J:Nat→SF→Prop,J=fun k s=>∃j o T1 c1,j+k=Q.length∧s.e 9=.c (.bool o)∧s.e 74=.c (.int .i64 j)∧FAt F s.h T1 S c1∧Pre F h s.h∧bh s.h∧T1.map List.length=ns∧(Q.any fun x=>isX (atF 0 F.ds) S f x l)=(o||(Q.drop j).any fun x=>isX (atF 0 F.ds) S f x l) ∧
   (Q.flatMap fun x=>upX (atF 0 F.ds) S f x l).foldl bP (T,c)=((Q.drop j).flatMap fun x=>upX (atF 0 F.ds) S f x l).foldl bP (T1,c1):=⟨_,rfl⟩
  refine bn J Q.length hQn (by rw[hJ];exact⟨0,false,T,c,by simp,by simp[au],by simp[au],hF0,hPr0,hlD,hT,by simp,by simp⟩) ?_;rintro k ⟨e,H,base,rb⟩ hj he hb;rw[hJ] at hj;obtain⟨j,o,T1,c1,hj,e9,e74,fF,fP,fL,fT,hix,hfx⟩:=hj;have e0:=he 0 rfl;have e2:=he 2 rfl;have e72:=he 72 rfl;have e73:=he 73 rfl;simp only[List.drop_one] at hQ;simp[au,dR,hQ] at e0 e2 e72 e73 hb;simp only at e9 e74 fF fP fL;subst hb;have hQl1:d.kids.length-1=Q.length:=by omega
  rw[hQl1] at e73;by_cases hm:j<Q.length;rotate_left
  ·have hlt:¬(j:Int)<Q.length:=by omega
   obtain rfl:j=Q.length:=by omega
   rw[List.drop_length] at hfx hix;simp only[List.any_nil,Bool.or_false,List.flatMap_nil,List.foldl_nil] at hfx hix;rw[hix,hfx] at hP;have hPo:P (.c (.bool o)) (H.take h.length):=by rw[hP];exact⟨rfl,FAt.take hF fF,fP.fin⟩
   simp -implicitDefEqProofs [x90l21_w,x90_r,e0,e2,e9,e72,e73,e74,hlt];exact hPo
  have hlt:(j:Int)<Q.length:=by omega
  have hw:IntKind.i64.wrap ((j:Int)+1)=(j:Int)+1:=aH (by omega);have hvk:(D.vs Q)[j]'(by rw[hsQ];exact hm)=(Q[j]).v:=ac _;have hmx:Q[j]∈Q:=List.getElem_mem hm;rw[nP hm,List.foldl_append] at hfx;rw[uO hm] at hix;generalize Q[j]=x at *;have lD:=tS fL x;obtain⟨H2,c90x,gF,gS⟩:=c90 x (g4 x hmx) (hQs x hmx) l .any _ T1 c1 (by omega) (fF.app [.cells x.v.cells]) fT lD;have gL:=FAt.low lD (fF.app [.cells x.v.cells]) gF gS;have gP:=(fP.app [.cells x.v.cells]).same gS;have gT:=(dW (upX (atF 0 F.ds) S f x l) (T1,c1)).trans fT;obtain⟨T2,c2,h12⟩:∃T2 c2,(upX (atF 0 F.ds) S f x l).foldl bP (T1,c1)=(T2,c2):=⟨_,_,rfl⟩
  rw[h12] at hfx gF gT;have hH2:H2.length=H.length+1:=by rw[gS.1];simp
  have hH2le:H.length+1≤H2.length:=by omega
  rw[hU] at c90x;generalize isX (atF 0 F.ds) S f x l=b at *;cases b <;>
  simp -implicitDefEqProofs [x90l21_w,e0,e2,e9,e72,e73,e74,hlt,hsQ,hm,hvk,ae,c90x,hH2le,hw]
  ·refine⟨k-1,by omega,?_⟩;rw[hJ];exact⟨j+1,o,T2,c2,by omega,by simp[au],by simp[au],gF,gP,gL,gT,by simpa using hix,hfx⟩
  ·refine⟨k-1,by omega,?_⟩;rw[hJ];exact⟨j+1,true,T2,c2,by omega,by simp[au],by simp[au],gF,gP,gL,gT,by simpa using hix,hfx⟩)
 rw[hP] at h2;obtain⟨rfl,h2⟩:=h2;exact⟨h',h1,h2⟩
theorem pY {F:Fd}(ok:F.Ok){ns:List Nat}{S:List Bool}{B:Nat}(hB2:B<100000000) (hds:F.ds.length<1000000000):∀(f:Nat) (d:D),okY (atF 0 F.ds) ns f d→∀m,B+20+2*f≤m→Ex90 F ns S m B (isX (atF 0 F.ds) S f) (upX (atF 0 F.ds) S f) d
 | 0,d,h,_,_=>absurd h (by simp[okY])
 | f+1,d,h,m,hm=>by
  obtain⟨m,rfl⟩:∃m',m=m'+2:=⟨m-2,by omega⟩
  exact H7 ok (fun x hx=>pY ok hB2 hds f x hx m (by omega)) (by omega) hB2 hds h
def plO (o:O):Bool:=it o o
def plH (h:List O):Prop:=∀o∈h,plO o=true
theorem gA:plH []:=fun o h=>by cases h
theorem gH {a b:List O}(ha:plH a) (hb:plH b):plH (a++b):=fun o ho=>by
 rcases List.mem_append.1 ho with h|h
 ·exact ha o h
 ·exact hb o h
theorem dc {o:O}{b:List O}(ho:plO o=true) (hb:plH b):plH (o::b):=fun x hx=>by
 rcases List.mem_cons.1 hx with rfl|h
 ·exact ho
 ·exact hb x h
theorem dS {h:List O}{i:Nat}{o:O}(a:plH h) (ho:plO o=true):plH (h.set i o):=fun x hx=>by
 rcases List.mem_or_eq_of_mem_set hx with h1|rfl
 ·exact a x h1
 ·exact ho
theorem dQ:∀{l:List V},(∀v∈l,aX v v=true)→cU l l=true
 | [],_=>rfl
 | v::l,h=>by
  simp only[cU,bT];exact⟨h v List.mem_cons_self,dQ fun w hw=>h w (List.mem_cons_of_mem _ hw)⟩
theorem Ev:∀d:D,aX d.v d.v=true:=by
 refine D.ind fun k n t l ih=>?_
 have hl:cU (D.vs l) (D.vs l)=true:=dQ fun v hv=>by
  rw[ar] at hv;obtain⟨x,hx,rfl⟩:=List.mem_map.1 hv;exact ih x hx
 simp only[D.v,aX,cU,i9,j2,hl];simp
theorem ES (l:List D):cU (D.vs l) (D.vs l)=true:=dQ fun v hv=>by
 rw[ar] at hv;obtain⟨x,hx,rfl⟩:=List.mem_map.1 hv;exact Ev x
theorem plD (d:D):plO (.cells d.v.cells)=true:=by
 have:=Ev d;obtain⟨k,n,t,l⟩:=d;simpa[plO,it,D.v,V.cells,aX] using this
theorem nl (l:List Int):plO (.cells (itv l))=true:=dQ fun v hv=>by
 obtain⟨x,_,rfl⟩:=List.mem_map.1 hv;simp[aX,i9]
theorem AF (l:List Bool):plO (.cells (bvs l))=true:=dQ fun v hv=>by
 obtain⟨x,_,rfl⟩:=List.mem_map.1 hv;simp[aX,i9]
theorem vc (l:List (Nat × Nat)):cU (bf l) (bf l)=true:=dQ fun v hv=>by
 obtain⟨x,_,rfl⟩:=List.mem_map.1 hv;simp[aX,nI]
theorem tO (i:SI):j2 i i=true:=by cases i<;>simp[j2]
theorem GA (sh:Sk):plO (.mapo (skK sh) (skV sh))=true:=by
 have h1:fY (skK sh) (skK sh)=true:=by
  induction sh with
  | nil=>rfl
  | cons p sh ih =>
   simp only[skK,List.map_cons,fY,bT] at ih ⊢;refine⟨?_,ih⟩;show sameK.sameKs _ _=true;simp[sameK.sameKs,i9]
 have h2:cU (skV sh) (skV sh)=true:=dQ fun v hv=>by
  obtain⟨x,_,rfl⟩:=List.mem_map.1 hv;simp[aX,i9]
 show (fY (skK sh) (skK sh)&&cU (skV sh) (skV sh))=true;rw[h1,h2];rfl
theorem vS (ds:List D) (s0:SI) (mi:Nat) (rs:List (Nat × Nat)) (si:SI) (v:V) (hv:aX v v=true) (c:Bool):plO (.cells [.sl (D.vs ds) s0,.mref mi,.sl (bf rs) si,v,.c (.bool c)])=true:=by
 simp[plO,it,cU,aX,ES,vc,tO,hv,i9]
theorem iW {F:Fd}{h h1:List O}{T:List (List Int)}{S:List Bool}{c:Bool}(a:plH h) (b:FAt F h1 T S c) (s:Same F h h1):plH h1:=by
 intro o ho;obtain⟨id,hid,rfl⟩:=List.getElem_of_mem ho;have e:=gE hid;by_cases c1:id=F.fi
 ·subst c1;rw[b.obj] at e;rw[← Option.some.inj e];exact vS _ _ _ _ _ _ (by simp[aX,nI]) _
 ·by_cases c2:∃p∈F.rs,id=p.1
  ·obtain⟨p,hp,rfl⟩:=c2;obtain⟨k,hk,rfl⟩:=List.getElem_of_mem hp;obtain⟨id,h1,h2⟩:=b.row k (by rw[b.tlen,← b.rlen];exact hk);rw[gE hk] at h1;have h3:(F.rs[k]).1=id:=by rw[Option.some.inj h1]
   subst h3;rw[h2] at e;rw[← Option.some.inj e];exact nl _
  ·rw[s.2 id c1 fun p hp h=>c2 ⟨p,hp,h⟩] at e;exact a _ (List.mem_of_getElem? e)
mutual
theorem sO (k:Nat):∀v:V,aX v v=true→aX (v.shift k) (v.shift k)=true
 | .c x,h=>h
 | .agg cs,h=>bJ k cs h
 | .tup cs,h=>bJ k cs h
 | .sl us i,h=>by
  simp only[aX,bT] at h;simp only[V.shift,aX,bT];exact⟨tO _,bJ k us h.2⟩
 | .ptr cs o,h=>by
  simp only[aX,bT] at h;simp only[V.shift,aX,bT];exact⟨h.1,bJ k cs h.2⟩
 | .ref id o,h=>by simp[V.shift,aX]
 | .clo f cs,h=>by
  simp only[aX,bT] at h;simp only[V.shift,aX,bT];exact⟨h.1,bJ k cs h.2⟩
 | .row id off n z,h=>by
  simp only[aX,bT] at h;simp[V.shift,aX,h.2.2.2]
 | .buf id n,h=>by cases h
 | .tsl t n z,h=>by
  simp only[aX,bT] at h;simp[V.shift,aX,h.2.2]
 | .tref t n o,h=>by cases h
 | .top,h=>rfl
 | .fmp ks vs,h=>by cases h
 | .mref id,h=>by simp[V.shift,aX]
 | .yld l y m caps,h=>by cases h
 | .bnd f id o,h=>by simp[V.shift,aX]
theorem bJ (k:Nat):∀vs:List V,cU vs vs=true→cU (V.shifts k vs) (V.shifts k vs)=true
 | [],_=>rfl
 | v::vs,h=>by
  simp only[cU,bT] at h;simp only[V.shifts,cU,bT];exact⟨sO k v h.1,bJ k vs h.2⟩
end
theorem ub (k:Nat) (o:O) (h:plO o=true):plO (o.shift k)=true:=by
 unfold plO at h ⊢;cases o with
 | cells cs=>exact bJ k cs h
 | tokc n z cs =>
  simp only[it,bT] at h;simp only[O.shift,it,bT];exact⟨h.1,h.2.1,bJ k cs h.2.2⟩
 | mapo ks vs =>
  simp only[it,bT] at h;simp only[O.shift,it,bT];exact⟨h.1,bJ k vs h.2⟩
 | _=>exact h
theorem uo {h H:List O}(a:plH h) (b:plH H):plH (h++H.map (O.shift h.length)):=gH a fun o ho=>by
 obtain⟨x,hx,rfl⟩:=List.mem_map.1 ho;exact ub _ x (b x hx)
theorem Ci {cf:av}{n:Nat}{K:List Fr}{Q:Ex→SF→Prop}{s:SF}{id len:Nat}(e8:s.e 8=.row id 0 len none) (e49:s.e 49=.c (.int .i64 len)) (e50:s.e 50=.c (.int .i64 0)) (hid:s.h[id]?=some (.cells (itv (List.replicate len 0)))) (hn:len<n) (hl:len<1000000)
  (hq:∀e rb,(∀t,(dO x34l13).contains t=false→e t=s.e t)→d9 cf n K Q (.exit 2) ⟨e,s.h.set id (.cells (itv (List.replicate len (-3)))),s.base,rb⟩):lpk cf n x34l13 K Q s:=by
 have hil:id<s.h.length:=(gS.1 hid).1;obtain⟨J,hJ⟩:∃J:Nat→SF→Prop,J=fun k s'=>∃j r,j+k=len∧s'.e 50=.c (.int .i64 j)∧r.length=len∧s'.h=s.h.set id (.cells (itv r))∧(∀i (h:i<r.length),r[i]=if i<j then -3 else 0):=⟨_,rfl⟩
 refine bn J len hn (by
  rw[hJ];refine⟨0,List.replicate len 0,by simp,e50,by simp,?_,fun i h=>by simp⟩;refine List.ext_getElem? fun i=>?_
  by_cases c:id=i
  ·subst c;rw[sS hil];exact hid
  ·rw[sN c]) ?_
 rintro k ⟨e,H,base,rb⟩ hj he hb;rw[hJ] at hj;obtain⟨j,r,hj,f50,hr,hH,hri⟩:=hj;have f8:e 8=_:=(he 8 rfl).trans e8;have f49:e 49=_:=(he 49 rfl).trans e49;simp only at f50 hH hb;by_cases hm:j<len;rotate_left
 ·have hlt:¬(j:Int)<len:=by omega
  obtain rfl:j=len:=by omega
  have hre:r=List.replicate j (-3):=List.ext_getElem (by simp[hr]) fun i h1 h2=>by
   rw[hri i h1,if_pos (by omega)];simp
  subst hb hH hre;simp -implicitDefEqProofs [x34l13_w,f8,f49,f50,hlt];refine hq _ _ fun t ht=>?_
  have hne:∀k,(dO x34l13).contains k=true→t≠k:=fun k hk e=>by rw[e,hk] at ht;cases ht
  simp only[au,if_neg (hne 51 rfl)];exact he t ht
 have hlt:(j:Int)<len:=by omega
 have hw:IntKind.i64.wrap ((j:Int)+1)=(j:Int)+1:=aH (by omega);have hH2:H[id]?=some (.cells (itv r)):=by rw[hH,sS hil]
 have hrl:=bU r;have hjr:j<r.length:=by omega
 have hspl:=eF hjr (-3);have hjl:j+1≤r.length:=by omega
 simp -implicitDefEqProofs [x34l13_w,f8,f49,f50,hlt,hH2,hrl,hjl,hspl,hw];refine⟨k-1,by omega,?_⟩;rw[hJ];refine⟨j+1,r.set j (-3),by omega,by simp[au],by simp[hr],?_,fun i h=>?_⟩
 ·rw[hH,List.set_set]
 ·rw[List.length_set] at h;by_cases c:j=i
  ·subst c;rw[List.getElem_set_self,if_pos (by omega)]
  ·rw[List.getElem_set_ne c,hri i h];by_cases c2:i<j
   ·rw[if_pos c2,if_pos (by omega)]
   ·rw[if_neg c2,if_neg (by omega)]
theorem vG {cf:av}{n:Nat}{K:List Fr}{Q:Ex→SF→Prop}{s:SF}{us:List V}{si:SI}{w:V}{ws:List V}{al b:Nat}{zz:Option Nat}{h:List O}{d:Option Nat}{r:List XOper}(hG:GrowF (zc zz) us si h) (hd:h[al]?=some .want)
  (hq:∀q,(h[q]?=some .want∨∃m,h[q]?=some (.tok m (zc zz)))→(q=al∨si=.tok q)→rM cf n r K Q ⟨pC s.e d (.sl (us++w::ws) (.tok q)),h.set q (.tok (us.length+(w::ws).length) (zc zz)),s.base,s.rb⟩):gvk cf n (iu 0 al b zz false h us si (w::ws)) d r K Q s:=by
 have hf:bp h 0 al=al:=rfl;rcases hG with⟨rfl,rfl⟩|rfl|⟨q,rfl,hk⟩
 ·rw[gj 0 al b zz h [] ws w hd,cJ,hf];exact hq al (.inl hd) (.inl rfl)
 ·rw[eQ 0 al b zz h us ws w hd,cJ,hf];exact hq al (.inl hd) (.inl rfl)
 ·rw[gc 0 al b q zz false h us ws w hk,cJ];exact hq q (.inr ⟨_,hk⟩) (.inr rfl)
theorem GrowF.keepG {z:Nat}{us:List V}{si:SI}{h h1:List O}(hG:GrowF z us si h) (hk:∀q,si=.tok q→q<h.length→h1[q]?=h[q]?):GrowF z us si h1:=by
 rcases hG with h2|h2|⟨q,h2,h3⟩
 ·exact .inl h2
 ·exact .inr (.inl h2)
 ·exact .inr (.inr ⟨q,h2,by rw[hk q h2 (gS.1 h3).1];exact h3⟩)
theorem zb (l:List (Nat × Nat)):Ab.hz 1 (bf l)=true:=by cases l<;>rfl
theorem qW:∀(k:Nat) (l:List D) (d:D),atF k (l++[d])=atF k l++[((d.kid 0).key2,k+l.length)]
 | k,[],d=>rfl
 | k,x::l,d=>by rw[List.cons_append,atF,atF,qW (k+1) l d,List.cons_append,lC];congr 4;omega
structure Rows0 (H:List O) (rs:List (Nat × Nat)) (ls:List Nat):Prop where
 len:rs.map (·.2)=ls
 row:∀p∈rs,3≤p.1∧H[p.1]?=some (.cells (itv (List.replicate p.2 (-3))))
 inj:∀(i j:Nat) (p q:Nat × Nat),rs[i]?=some p→rs[j]?=some q→p.1=q.1→i=j
theorem Rows0.nil (H:List O):Rows0 H [] []:=⟨rfl,by simp,by simp⟩
theorem Rows0.lt {H:List O}{rs:List (Nat × Nat)}{ls:List Nat}(a:Rows0 H rs ls):∀p∈rs,p.1<H.length:=fun p hp=>(gS.1 (a.row p hp).2).1
theorem Rows0.keep {H H':List O}{rs:List (Nat × Nat)}{ls:List Nat}(a:Rows0 H rs ls) (h:∀(i:Nat) (l:List V),3≤i→i<H.length→H[i]?=some (.cells l)→H'[i]?=some (.cells l)):Rows0 H' rs ls :=
 ⟨a.len,fun p hp=>⟨(a.row p hp).1,h _ _ (a.row p hp).1 (a.lt p hp) (a.row p hp).2⟩,a.inj⟩
theorem Rows0.snoc {H:List O}{rs:List (Nat × Nat)}{ls:List Nat}(a:Rows0 H rs ls){id n:Nat}(h3:3≤id) (hid:H[id]?=some (.cells (itv (List.replicate n (-3))))) (hn:∀p∈rs,p.1<id):Rows0 H (rs++[(id,n)]) (ls++[n]):=by
 refine⟨by simp[a.len],fun p hp=>?_,fun i j p q hi hj e=>?_⟩
 ·rcases List.mem_append.1 hp with hp|hp
  ·exact a.row p hp
  ·rw[List.mem_singleton.1 hp];exact⟨h3,hid⟩
 ·by_cases ci:i<rs.length
  ·rw[aL ci] at hi;by_cases cj:j<rs.length
   ·rw[aL cj] at hj;exact a.inj i j p q hi hj e
   ·rw[aR (by omega)] at hj;have h1:=hn p (List.mem_of_getElem? hi);have h2:=List.mem_singleton.1 (List.mem_of_getElem? hj);rw[e,h2] at h1;simp at h1
  ·rw[aR (by omega)] at hi;have h2:=List.mem_singleton.1 (List.mem_of_getElem? hi);have hi':=(gS.1 hi).1;by_cases cj:j<rs.length
   ·rw[aL cj] at hj;have h1:=hn q (List.mem_of_getElem? hj);rw[← e,h2] at h1;simp at h1
   ·rw[aR (by omega)] at hj;have hj':=(gS.1 hj).1;simp only[List.length_singleton] at hi' hj';omega
def eu (ds:List D) (s0:SI) (rs:List (Nat × Nat)) (si:SI) (sl:V) (c:Bool):O:=.cells [.sl (D.vs ds) s0,.mref 1,.sl (bf rs) si,sl,.c (.bool c)]
theorem BC {cf:av}{n:Nat}{K:List Fr}{Q:Ex→SF→Prop}{s:SF}{ds:List D}{s0 si0:SI}(c89:∀(x:D) h,cf 89 [x.v] h=some (x.key,h))
  (hk:∀d∈ds,2≤d.kids.length∧(d.kid 1).kids.length<100) (hnd:∀j (h:j<ds.length),fkK (atF 0 (ds.take j)) ((ds[j]).kid 0).key2=none)
  (e5:s.e 5=.ref 2 0) (e24:s.e 24=.sl (D.vs ds) si0) (e25:s.e 25=.c (.int .i64 ds.length)) (e26:s.e 26=.c (.int .i64 0))
  (h2:s.h[2]?=some (eu ds s0 [] .nil (.sl [] .nil) false)) (h1:s.h[1]?=some (.mapo [] [])) (hb0:s.base=0) (hlow:bh s.h) (hpl:plH s.h) (hn:ds.length+200<n) (hl:ds.length<1000000)
  (hq:∀e H rb rs si,(∀t,(dO x34l16).contains t=false→e t=s.e t)→H[2]?=some (eu ds s0 rs si (.sl [] .nil) false)→H[1]?=some (.mapo (skK (atF 0 ds)) (skV (atF 0 ds)))→bh H→Rows0 H rs (ds.map fun d=>(d.kid 1).kids.length)→plH H→d9 cf n K Q (.exit 0) ⟨e,H,s.base,rb⟩):lpk cf n x34l16 K Q s:=by
 have hsl:=aa ds;obtain⟨J,hJ⟩:∃J:Nat→SF→Prop,J=fun k s'=>∃j rs si,j+k=ds.length∧s'.e 26=.c (.int .i64 j)∧s'.h[2]?=some (eu ds s0 rs si (.sl [] .nil) false)∧s'.h[1]?=some (.mapo (skK (atF 0 (ds.take j))) (skV (atF 0 (ds.take j))))∧bh s'.h∧Rows0 s'.h rs ((ds.take j).map fun d=>(d.kid 1).kids.length)∧GrowF 1 (bf rs) si s'.h∧plH s'.h:=⟨_,rfl⟩
 refine bn J ds.length (by omega) (by rw[hJ];exact⟨0,[],.nil,by simp,e26,h2,h1,hlow,.nil _,.nil _ _,hpl⟩) ?_;rintro k ⟨e,H,base,rb⟩ hj he hb;rw[hJ] at hj;obtain⟨j,rs,si,hj,f26,g2,g1,gL,gR,gG,gP⟩:=hj;have f5:e 5=_:=(he 5 rfl).trans e5;have f24:e 24=_:=(he 24 rfl).trans e24;have f25:e 25=_:=(he 25 rfl).trans e25;simp only at f26 g2 g1 gL gR gG gP hb;by_cases hm:j<ds.length;rotate_left
 ·have hlt:¬(j:Int)<ds.length:=by omega
  obtain rfl:j=ds.length:=by omega
  rw[List.take_of_length_le (nL _)] at g1 gR;subst hb;simp -implicitDefEqProofs [x34l16_w,f5,f24,f25,f26,hlt];refine hq _ _ _ rs si (fun t ht=>?_) g2 g1 gL gR gP;have hne:∀k,(dO x34l16).contains k=true→t≠k:=fun k hk e=>by rw[e,hk] at ht;cases ht
  simp only[au,if_neg (hne 27 rfl)];exact he t ht
 have hlt:(j:Int)<ds.length:=by omega
 have hw:IntKind.i64.wrap ((j:Int)+1)=(j:Int)+1:=aH (by omega);have hvk:(D.vs ds)[j]'(by rw[hsl];exact hm)=(ds[j]).v:=ac _;obtain⟨hk2,hk3⟩:=hk _ (List.getElem_mem hm);have hnj:=hnd j hm;have hat:atF 0 (ds.take (j+1))=atF 0 (ds.take j)++[(((ds[j]).kid 0).key2,j)]:=by
  rw[List.take_add_one,gE hm,Option.toList_some,qW];simp[Nat.min_eq_left (Nat.le_of_lt hm)]
 have hmp:(ds.take (j+1)).map (fun d=>(d.kid 1).kids.length)=(ds.take j).map (fun d=>(d.kid 1).kids.length)++[((ds[j]).kid 1).kids.length]:=by
  rw[List.take_add_one,gE hm,Option.toList_some,List.map_append];rfl
 have g2l:2<H.length:=(gS.1 g2).1;generalize ds[j]=d at *;have l0:0<d.kids.length:=by omega
 have l1:1<d.kids.length:=by omega
 have l0i:(0:Int)<d.kids.length:=by omega
 have l1i:(1:Int)<d.kids.length:=by omega
 have v0:((D.vs d.kids)[0]'(by rw[aa];exact l0))=(d.kid 0).v:=ah _;have v1:((D.vs d.kids)[1]'(by rw[aa];exact l1))=(d.kid 1).v:=ah _;have hsd:=aa d.kids;have hs1:=aa (d.kid 1).kids;have g2a:∀R,(H++R)[2]?=some (eu ds s0 rs si (.sl [] .nil) false):=fun R=>co g2 R
 have hup:=fun R=>AV (co g1 R) hnj j
 have hset1:∀(R:List O) (o:O),(H++R).set 1 o=H.set 1 o++R:=fun R o=>List.set_append_left _ _ (by omega)
 obtain⟨H1,hH1⟩:∃H1,H1=H.set 1 (.mapo (skK (atF 0 (ds.take (j+1)))) (skV (atF 0 (ds.take (j+1))))):=⟨_,rfl⟩
 rw[← hat] at hup;have hH1l:H1.length=H.length:=by rw[hH1];simp
 have k2:H1[2]?=some (eu ds s0 rs si (.sl [] .nil) false):=by rw[hH1,sN (by omega)];exact g2
 have k1:H1[1]?=some (.mapo (skK (atF 0 (ds.take (j+1)))) (skV (atF 0 (ds.take (j+1))))):=by rw[hH1];exact ij g1 _
 have kL:bh H1:=by rw[hH1];exact eV gL (pG _ _)
 have kP:plH H1:=by rw[hH1];exact dS gP (GA _)
 have kR:Rows0 H1 rs ((ds.take j).map fun d=>(d.kid 1).kids.length):=gR.keep fun i l h3 _ hi=>by rw[hH1,sN (by omega)];exact hi
 have kG:GrowF 1 (bf rs) si H1:=gG.keepG fun q hq' _=>by
  rcases gG with⟨_,h9⟩|h9|⟨q',h9,h10⟩
  ·rw[hq'] at h9;cases h9
  ·rw[hq'] at h9;cases h9
  ·rw[hq'] at h9;obtain rfl:q=q':=by cases h9;rfl
   have:q≠1:=fun c=>by rw[c,g1] at h10;cases h10
   rw[hH1,sN (Ne.symm this)]
 have hp:(d.kid 1).kids.length≤1048576∧(d.kid 1).kids.length≤16777216:=by omega
 have hpi:((d.kid 1).kids.length:Int)≤1048576:=by omega
 unfold eu at g2a;simp -implicitDefEqProofs [x34l16_w,f5,f24,f25,f26,hlt,hsl,hm,hvk,ae,g2a,hsd,l0,l1,l0i,l1i,v0,v1,c89,hup,hset1,← hH1,hH1l,hs1];rw[lm _ _ _ _ _ _ ⟨by omega,hpi,by simp;omega⟩];have hrep:(List.replicate ((d.kid 1).kids.length:Int).toNat [V.c (Value.int IntKind.i64 0)]).flatten=itv (List.replicate (d.kid 1).kids.length 0):=by
  rw[Int.toNat_natCast];generalize (d.kid 1).kids.length=m
  induction m with
  | zero=>rfl
  | succ m ih=>rw[List.replicate_succ,List.flatten_cons,ih,List.replicate_succ];rfl
 rw[hrep];have hst:(H1++[O.cells d.v.cells,O.dead]).set (H.length+1) (.cells (itv (List.replicate (d.kid 1).kids.length 0)))=H1++[O.cells d.v.cells,.cells (itv (List.replicate (d.kid 1).kids.length 0))]:=by
  rw[List.set_append_right _ _ (by omega),hH1l,show H.length+1-H.length=1 by omega];rfl
 simp -implicitDefEqProofs [x34l16_w,hst];have kL2:bh (H1++[O.cells d.v.cells,.cells (itv (List.replicate (d.kid 1).kids.length 0))]):=by
  have h9:=sV (tS kL d) (e:=[.cells (itv (List.replicate (d.kid 1).kids.length 0))]) (by simp[O.low,fp]);simpa using h9
 refine Ci (id:=H.length+1) (len:=(d.kid 1).kids.length) (by simp[au]) (by simp[au]) (by simp[au]) (by rw[aR (by omega),hH1l,show H.length+1-H.length=1 by omega];rfl) (by omega) (by omega) fun e' rb' he'=>?_
 have p5:=he' 5 rfl;have p8:=he' 8 rfl;have p26:=he' 26 rfl;simp[au,f5,f26] at p5 p8 p26;obtain⟨H2,hH2⟩:∃H2,H2=(H1++[O.cells d.v.cells,.cells (itv (List.replicate (d.kid 1).kids.length 0))]).set (H.length+1) (.cells (itv (List.replicate (d.kid 1).kids.length (-3)))):=⟨_,rfl⟩
 have hH2l:H2.length=H.length+2:=by rw[hH2];simp[hH1l]
 have keep2:∀(i:Nat) (o:O),i<H.length→H1[i]?=some o→H2[i]?=some o:=fun i o hi h9=>by
  rw[hH2,sN (by omega)];exact co h9 _
 have q2:=keep2 2 _ g2l k2;have q1:=keep2 1 _ (by omega) k1;have qL:bh H2:=by rw[hH2];exact eV kL2 (fp _ _)
 have qP:plH H2:=by rw[hH2];exact dS (gH kP (dc (plD _) (dc (nl _) gA))) (nl _)
 have qid:H2[H.length+1]?=some (.cells (itv (List.replicate (d.kid 1).kids.length (-3)))):=by
  rw[hH2,sS (by simp;omega)]
 have qR:Rows0 H2 (rs++[(H.length+1,(d.kid 1).kids.length)]) ((ds.take (j+1)).map fun d=>(d.kid 1).kids.length):=by
  rw[hmp];exact (kR.keep fun i l _ hi h9=>keep2 i _ (by omega) h9).snoc (by omega) qid fun p hp=>by have:=kR.lt p hp;omega
 have qG:GrowF 1 (bf rs) si H2:=kG.keepG fun q _ h9=>by rw[hH2,sN (by omega),aL h9]
 rw[← hH2];have q2a:∀R,(H2++R)[2]?=some (eu ds s0 rs si (.sl [] .nil) false):=fun R=>co q2 R
 have hrz:=zb rs;have hrl:rs.length=j:=by
  have:=congrArg List.length kR.len;simpa[Nat.min_eq_left (Nat.le_of_lt hm)] using this
 have hrv:(bf rs).length=j:=by rw[dl,hrl]
 have hj1:(j+1)*24≤140737488355328:=by omega
 have hj2:j≤140737488355327:=by omega
 rw[hb0] at hb;subst hb;unfold eu at q2a;simp -implicitDefEqProofs [p5,p8,p26,q2a,hrz,hrv,hj1,hj2];refine vG (zz:=none) (qG.app _) ?_ fun q hq1 hq2=>?_
 ·rw[aR (by omega),show H2.length+1-H2.length=1 by omega];rfl
 obtain⟨H3,hH3⟩:∃H3,H3=(H2++[O.tok 1 1,O.want]).set q (.tok ((bf rs).length+1) 1):=⟨_,rfl⟩
 have hqc:∀l,(H2++[O.tok 1 1,O.want])[q]?≠some (.cells l):=fun l h9=>by
  rcases hq1 with h8|⟨m,h8⟩<;>rw[h8] at h9<;>cases h9
 have hqm:q≠1:=fun c=>by
  have h9:(H2++[O.tok 1 1,O.want])[1]?=_:=co q1 _;rw[c,h9] at hq1;rcases hq1 with h8|⟨m,h8⟩<;>cases h8
 have keep3:∀(i:Nat) (l:List V),H2[i]?=some (.cells l)→H3[i]?=some (.cells l):=fun i l h9=>by
  have h8:=co h9 [O.tok 1 1,O.want];have:q≠i:=fun c=>hqc l (by rw[c];exact h8)
  rw[hH3,sN this];exact h8
 have hH3l:H3.length=H2.length+2:=by rw[hH3];simp
 have u2:=keep3 2 _ q2;have u1:H3[1]?=some (.mapo (skK (atF 0 (ds.take (j+1)))) (skV (atF 0 (ds.take (j+1))))):=by rw[hH3,sN hqm];exact co q1 _
 have uL:bh H3:=by rw[hH3];exact eV (sV qL (by simp[O.low])) rfl
 have uP:plH H3:=by rw[hH3];exact dS (gH qP (dc (by simp[plO,it]) (dc rfl gA))) (by simp[plO,it])
 have hql:q<(H2++[O.tok 1 1,O.want]).length:=by
  rcases hq1 with h8|⟨m,h8⟩<;>exact (gS.1 h8).1
 have uq:H3[q]?=some (.tok ((bf rs).length+1) 1):=by rw[hH3];exact sS hql
 have uR:Rows0 H3 (rs++[(H.length+1,(d.kid 1).kids.length)]) ((ds.take (j+1)).map fun d=>(d.kid 1).kids.length):=qR.keep fun i l _ _ h9=>keep3 i l h9
 have hq2':q≠2:=fun c=>by rw[c,u2] at uq;cases uq
 have hrv1:bf (rs++[(H.length+1,(d.kid 1).kids.length)])=bf rs++[.row (H.length+1) 0 (d.kid 1).kids.length none]:=by simp[bf]
 show rM cf n _ _ _ ⟨_,(H2++[O.tok 1 1,O.want]).set q (.tok ((bf rs).length+1) 1),_,_⟩;rw[← hH3];unfold eu at u2;simp -implicitDefEqProofs [p5,p26,u2,hw];have w2:(H3.set 2 (O.cells [.sl (D.vs ds) s0,.mref 1,.sl (bf rs++[.row (H.length+1) 0 (d.kid 1).kids.length none]) (.tok q),.sl [] .nil,.c (.bool false)]))[2]?=some (eu ds s0 (rs++[(H.length+1,(d.kid 1).kids.length)]) (.tok q) (.sl [] .nil) false):=by
  rw[sS (by omega)];simp only[eu,hrv1]
 have w3:O.low H3.length (O.cells [.sl (D.vs ds) s0,.mref 1,.sl (bf rs++[.row (H.length+1) 0 (d.kid 1).kids.length none]) (.tok q),.sl [] .nil,.c (.bool false)])=true:=by
  have h9:=List.all_eq_true.1 uL _ (List.mem_of_getElem? u2);simp only[O.low,V.lows,V.low,bT,SI.low,dT,and_true] at h9 ⊢;have h10:=h9.2.2;have hql2:q<H3.length:=by rw[hH3];simpa using hql
  refine⟨h9.1,h9.2.1,b7 fun v hv=>?_,hql2⟩;rcases List.mem_append.1 hv with hv|hv
  ·exact eJ h10.1 v hv
  ·rw[List.mem_singleton.1 hv];simp only[V.low,Bool.or_eq_true,dT];exact .inl (by omega)
 refine⟨k-1,by omega,?_⟩;rw[hJ];refine⟨j+1,_,.tok q,by omega,by simp[au],w2,?_,eV uL w3,uR.keep fun i l h3 _ h9=>?_,.inr (.inr ⟨q,rfl,?_⟩),dS uP (by rw[← hrv1];exact vS _ _ _ _ _ _ rfl _)⟩
 ·rw[sN (by omega)];exact u1
 ·rw[sN (by omega)];exact h9
 ·rw[sN (Ne.symm hq2'),uq,hrv1];simp
def giv:Nat→List Bool→List Int
 | _,[]=>[]
 | n,b::r=>if b=true then (n:Int)::giv (n+1) r else -2::giv n r
def cnT:List Bool→Nat
 | []=>0
 | b::r=>if b=true then cnT r+1 else cnT r
theorem dG:∀(n:Nat) (l:List Bool),(giv n l).length=l.length
 | _,[]=>rfl
 | n,b::r=>by
  rw[giv];split<;>simp[dG _ r]
theorem iD:∀(n:Nat) (l:List Bool) (b:Bool),giv n (l++[b])=giv n l++[if b=true then ((n+cnT l:Nat):Int) else -2]
 | n,[],b=>by cases b <;> rfl
 | n,x::l,b=>by
  rw[List.cons_append,giv,giv,cnT,iD n l,iD (n+1) l];cases x with
  | true=>simp only[if_true,List.cons_append];rw[show n+1+cnT l=n+(cnT l+1) by omega]
  | false=>simp
theorem iA:∀(l:List Bool) (b:Bool),cnT (l++[b])=cnT l+(if b=true then 1 else 0)
 | [],b=>by cases b <;> rfl
 | x::l,b=>by
  rw[List.cons_append,cnT,cnT,iA l b];cases x<;>simp<;>omega
theorem qg:∀(l:List Bool),cnT l≤l.length
 | []=>nL _
 | x::l=>by
  have:=qg l;rw[cnT];split<;>simp<;>omega
theorem DZ {T:List (List Int)}{r r':List Int}:(T.set 0 r).set 0 r'=T.set 0 r':=List.set_set ..
theorem B6 {cf:av}{n:Nat}{K:List Fr}{Q:Ex→SF→Prop}{s:SF}{F:Fd}(ok:F.Ok) (hfi:F.fi=2){T:List (List Int)}{S:List Bool}{c:Bool}{g:List Bool}{i:SI}(e5:s.e 5=.ref 2 0) (e77:s.e 77=.sl (bvs g) i) (e78:s.e 78=.c (.int .i64 g.length)) (e79:s.e 79=.c (.int .i64 0)) (e10:s.e 10=.c (.int .i64 0))
  (hF:FAt F s.h T S c) (hL:bh s.h) (hPl:plH s.h) (hT:0<T.length) (hg:g.length=(T[0]).length) (hn:g.length<n) (hl:g.length<1000000) (hds:F.ds.length<1000000000)
  (hq:∀e H rb,(∀t,(dO x34l27).contains t=false→e t=s.e t)→FAt F H (T.set 0 (giv 0 g)) S c→bh H→plH H→d9 cf n K Q (.exit 4) ⟨e,H,s.base,rb⟩):lpk cf n x34l27 K Q s:=by
 have hsg:=cd g;obtain⟨J,hJ⟩:∃J:Nat→SF→Prop,J=fun k s'=>∃j,j+k=g.length∧s'.e 79=.c (.int .i64 j)∧s'.e 10=.c (.int .i64 (cnT (g.take j)))∧FAt F s'.h (T.set 0 (giv 0 (g.take j)++(T[0]).drop j)) S c∧bh s'.h∧plH s'.h:=⟨_,rfl⟩
 refine bn J g.length hn (by
  rw[hJ];refine⟨0,by simp,e79,by simpa[cnT] using e10,?_,hL,hPl⟩;simp only[List.take_zero,giv,List.drop_zero,List.nil_append,List.set_getElem_self];exact hF) ?_
 rintro k ⟨e,H,base,rb⟩ hj he hb;rw[hJ] at hj;obtain⟨j,hj,f79,f10,fF,fL,fP⟩:=hj;have f5:e 5=_:=(he 5 rfl).trans e5;have f77:e 77=_:=(he 77 rfl).trans e77;have f78:e 78=_:=(he 78 rfl).trans e78;simp only at f79 f10 fF fL fP hb;by_cases hm:j<g.length;rotate_left
 ·have hlt:¬(j:Int)<g.length:=by omega
  obtain rfl:j=g.length:=by omega
  rw[List.take_of_length_le (nL _),List.drop_of_length_le (by omega),List.append_nil] at fF;subst hb;simp -implicitDefEqProofs [x34l27_w,f5,f77,f78,f79,hlt];refine hq _ _ _ (fun t ht=>?_) fF fL fP;have hne:∀k,(dO x34l27).contains k=true→t≠k:=fun k hk e=>by rw[e,hk] at ht;cases ht
  simp only[au,if_neg (hne 80 rfl)];exact he t ht
 have hlt:(j:Int)<g.length:=by omega
 have hw:IntKind.i64.wrap ((j:Int)+1)=(j:Int)+1:=aH (by omega);have hcl:=qg (g.take j);have hw2:IntKind.i64.wrap ((cnT (g.take j):Int)+1)=(cnT (g.take j):Int)+1:=aH (by rw[List.length_take] at hcl;omega);have hvg:=n8 (l:=g) (j:=j) (by rw[hsg];exact hm);have htk:g.take (j+1)=g.take j++[g[j]]:=by
  rw[List.take_add_one,gE hm];rfl
 have hgl:(giv 0 (g.take j)).length=j:=by rw[dG,List.length_take];omega
 obtain⟨r,hr⟩:∃r,r=giv 0 (g.take j)++(T[0]).drop j:=⟨_,rfl⟩
 have hrl:r.length=(T[0]).length:=by rw[hr,lA,hgl,List.length_drop];omega
 rw[← hr] at fF;have hT1:0<(T.set 0 r).length:=by rw[List.length_set];exact hT
 have hT1g:(T.set 0 r)[0]=r:=by simp
 obtain⟨rid,r1,r2,r3⟩:=fF.rowsGet hT1;have hset:=fun (r':List Int) (h:r'.length=r.length)=>FAt.setRow ok fF hT1 r2 (r:=r') (by rw[hT1g];exact h)
 simp only[hT1g] at r1 r2 r3;rw[← hrl] at hg;have fo:=fF.obj;rw[hfi] at fo;have hjr:j<r.length:=by omega
 have hjri:(j:Int)<r.length:=by omega
 have hrv:(bf F.rs).length=F.ds.length:=by rw[dl,fF.rlen]
 have hd0:0<F.ds.length:=by rw[← fF.tlen];exact hT1
 have hd0i:(0:Int)<F.ds.length:=by omega
 have hil:=bU r;have hjl:j+1≤r.length:=by omega
 have hspl:=eF hjr (-2);have hrn:rid≠2:=by rw[← hfi];exact (ok.rows _ (List.mem_of_getElem? r2)).1
 have hcons:∀v:Int,r.set j v=giv 0 (g.take j)++v::(T[0]).drop (j+1):=fun v=>by
  rw[hr,List.set_append_right _ _ (by omega),hgl,Nat.sub_self];congr 1;have hj0:j<(T[0]).length:=by omega
  rw[dC hj0];rfl
 have hr0l:rid<H.length:=fF.lt.2.2.2 _ (List.mem_of_getElem? r2);cases hb2:g[j] with
 | false =>
  rw[hb2] at hvg htk;obtain⟨a1,a2⟩:=hset (r.set j (-2)) (by simp);have aL:=FAt.low fL fF a1 a2;rw[DZ,hcons] at a1;rw[hcons] at aL;simp -implicitDefEqProofs [x34l27_w,f5,f77,f78,f79,f10,hlt,hsg,hm,hvg,fo,hrv,hd0,hd0i,r1,r3,hil,hjri,hjr,hjl,hspl,hw];refine⟨k-1,by omega,?_⟩;rw[hJ];refine⟨j+1,by omega,by simp[au],?_,?_,?_,dS fP (nl _)⟩
  ·rw[htk,iA];simpa[au] using f10
  ·rw[htk,iD];simp only[Bool.false_eq_true,if_false,List.append_assoc,List.singleton_append];rw[hcons];exact a1
  ·rw[hcons];exact aL
 | true =>
  rw[hb2] at hvg htk;have hspl2:=eF (l:=r.set j (-2)) (j:=j) (by simpa using hjr) (cnT (g.take j));have hil2:=bU (r.set j (-2));obtain⟨a1,a2⟩:=hset (r.set j (cnT (g.take j))) (by simp);have aL:=FAt.low fL fF a1 a2;rw[DZ,hcons] at a1;rw[hcons] at aL;have fo2:∀o,(H.set rid o)[2]?=_:=fun o=>(sN hrn).trans fo
  have r32:∀o,(H.set rid o)[rid]?=some o:=fun o=>sS hr0l
  have hss:∀o o',(H.set rid o).set rid o'=H.set rid o':=fun o o'=>List.set_set ..
  simp only[List.length_set] at hil2;simp only[List.set_set] at hspl2;simp -implicitDefEqProofs [x34l27_w,f5,f77,f78,f79,f10,hlt,hsg,hm,hvg,fo,hrv,hd0,hd0i,r1,r3,hil,hjri,hjr,hjl,hspl,hw,hw2,fo2,r32,hil2,hspl2,hss];refine⟨k-1,by omega,?_⟩;rw[hJ];refine⟨j+1,by omega,by simp[au],?_,?_,?_,dS fP (nl _)⟩
  ·rw[htk,iA];simp[au]
  ·rw[htk,iD];simp only[if_true,List.append_assoc,List.singleton_append,Nat.zero_add];rw[hcons];exact a1
  ·rw[hcons];exact aL
def leT (a b:Int):Prop:=later a b=b
theorem bl (a b:Int):leT a b↔(a = -3∨a=b∨b = -2∨(b = -1∧a ≠ -2)):=by
 unfold leT later;split
 ·omega
 ·split
  ·omega
  ·split<;>omega
theorem cP (a:Int):leT a a:=(bl _ _).2 (.inr (.inl rfl))
theorem my {a b c:Int}(h1:leT a b) (h2:leT b c):leT a c:=by rw[bl] at *;omega
theorem xy (a b:Int):leT a (later a b):=by
 rw[bl];unfold later;split
 ·omega
 ·split
  ·omega
  ·split<;>omega
theorem Ac {a b c:Int}(h1:leT a c) (h2:leT b c):leT (later a b) c:=by
 rw[bl] at *;unfold later;split
 ·omega
 ·split
  ·omega
  ·split<;>omega
theorem nC {a b:Int}:later a b=a↔leT b a:=by
 rw[bl];unfold later;split
 ·omega
 ·split
  ·omega
  ·split<;>omega
def rkT (t:Int):Nat:=if t = -3 then 0 else if t = -2 then 3 else if t = -1 then 2 else 1
theorem EA (t:Int):rkT t≤3:=by
 unfold rkT;split
 ·omega
 ·split
  ·omega
  ·split<;>omega
theorem ED {a b:Int}(h:leT a b) (hn:a≠b):rkT a<rkT b:=by
 rw[bl] at h;unfold rkT
 repeat' split
 all_goals omega
def at2 (T:List (List Int)) (g k:Nat):Int:=(T.getD g []).getD k 0
def leR (T T':List (List Int)):Prop:=T.map List.length=T'.map List.length∧∀g k,leT (at2 T g k) (at2 T' g k)
theorem lP (T:List (List Int)):leR T T:=⟨rfl,fun _ _=>cP _⟩
theorem jA {T T' T'':List (List Int)}(h1:leR T T') (h2:leR T' T''):leR T T'':=⟨h1.1.trans h2.1,fun g k=>my (h1.2 g k) (h2.2 g k)⟩
def leS (S S':List Bool):Prop:=S.length=S'.length∧∀i,S.getD i false=true→S'.getD i false=true
theorem lx (S:List Bool):leS S S:=⟨rfl,fun _ h=>h⟩
theorem wB {S S' S'':List Bool}(h1:leS S S') (h2:leS S' S''):leS S S'':=⟨h1.1.trans h2.1,fun i h=>h2.2 i (h1.2 i h)⟩
def leB:List Bd→List Bd→Prop
 | [],[]=>True
 | a::l,b::l'=>a.nm=b.nm∧a.pr=b.pr∧leT a.tm b.tm∧leB l l'
 | _,_=>False
theorem ll:∀{l l' m m':List Bd},leB l l'→leB m m'→leB (l++m) (l'++m')
 | [],[],_,_,_,h=>h
 | a::l,b::l',_,_,⟨h1,h2,h3,h4⟩,h=>⟨h1,h2,h3,ll h4 h⟩
 | [],_::_,_,_,h,_=>h.elim
 | _::_,[],_,_,h,_=>h.elim
theorem og {a b:Bd}(h1:a.nm=b.nm) (h2:a.pr=b.pr) (h3:leT a.tm b.tm):leB [a] [b]:=⟨h1,h2,h3,trivial⟩
theorem oH:∀{l l':List Bd},leB l l'→leB l.reverse l'.reverse
 | [],[],_=>trivial
 | a::l,b::l',⟨h1,h2,h3,h4⟩=>by
  rw[List.reverse_cons,List.reverse_cons];exact ll (oH h4) (og h1 h2 h3)
 | [],_::_,h=>h.elim
 | _::_,[],h=>h.elim
theorem vd:∀{l l':List Bd}(t:ByteArray),leB l l'→(fdB l t).nm=(fdB l' t).nm∧(fdB l t).pr=(fdB l' t).pr∧leT (fdB l t).tm (fdB l' t).tm
 | [],[],t,_=>⟨rfl,rfl,cP _⟩
 | a::l,b::l',t,⟨h1,h2,h3,h4⟩=>by
  rw[fdB,fdB,h1];split
  ·exact⟨h1,h2,h3⟩
  ·exact vd t h4
 | [],_::_,_,h=>h.elim
 | _::_,[],_,h=>h.elim
theorem wa {a b:Bool}(h:a=true→b=true):leT (tmO a) (tmO b):=by
 cases a
 ·cases b<;>(rw[bl];decide)
 ·rw[h rfl];exact cP _
theorem jI {sk:Sk}{S S':List Bool}(hS:leS S S'):∀(f:Nat) (d:D){l l':List Bd},leB l l'→isX sk S f d l=true→isX sk S' f d l'=true
 | 0,_,_,_,_,h=>h
 | f+1,d,l,l',hl,h=>by
  rw[isX] at h ⊢;by_cases c1:d.kd=1
  ·rw[if_pos c1] at h;cases h
  rw[if_neg c1] at h ⊢;by_cases c2:d.kd=2
  ·rw[if_pos c2] at h ⊢;have h3:=(vd d.tx (oH hl)).2.2;rw[beq_iff_eq] at h ⊢;rw[bl] at h3;omega
  rw[if_neg c2] at h ⊢;by_cases c3:wn (d.kid 0).tx=0
  ·rw[if_pos c3] at h;cases h
  rw[if_neg c3] at h ⊢;by_cases c4:wn (d.kid 0).tx=2
  ·rw[if_pos c4] at h ⊢;rw[Bool.or_eq_true] at h ⊢;rcases h with h|h
   ·exact .inl (jI hS f _ hl h)
   ·have q:=ll hl (og (a:=⟨(d.kid 1).tx,false,tmO (isX sk S f (d.kid 2) l)⟩) (b:=⟨(d.kid 1).tx,false,tmO (isX sk S' f (d.kid 2) l')⟩) rfl rfl (wa (jI hS f _ hl)));exact .inr (jI hS f _ q h)
  rw[if_neg c4] at h ⊢;by_cases c5:wn (d.kid 0).tx=3
  ·rw[if_pos c5] at h ⊢;exact hS.2 _ h
  rw[if_neg c5] at h ⊢;rw[List.any_eq_true] at h ⊢;obtain⟨x,hx,h⟩:=h;exact⟨x,hx,jI hS f x hl h⟩
theorem DV {sk:Sk}{S S':List Bool}(hS:leS S S') (f:Nat){l l':List Bd}(hl:leB l l') (x:D):leT (tmA (isX sk S f) l x) (tmA (isX sk S' f) l' x):=by
 unfold tmA;obtain⟨-,h2,h3⟩:=vd x.tx (oH hl);rw[h2];split
 ·exact h3
 ·exact wa (jI hS f x hl)
def leU:List (Nat × Nat × Int)→List (Nat × Nat × Int)→Prop
 | [],[]=>True
 | a::l,b::l'=>a.1=b.1∧a.2.1=b.2.1∧leT a.2.2 b.2.2∧leU l l'
 | _,_=>False
theorem k9:∀{l l' m m':List (Nat × Nat × Int)},leU l l'→leU m m'→leU (l++m) (l'++m')
 | [],[],_,_,_,h=>h
 | a::l,b::l',_,_,⟨h1,h2,h3,h4⟩,h=>⟨h1,h2,h3,k9 h4 h⟩
 | [],_::_,_,_,h,_=>h.elim
 | _::_,[],_,_,h,_=>h.elim
theorem qw {u u':D→List (Nat × Nat × Int)}:∀{L:List D},(∀x∈L,leU (u x) (u' x))→leU (L.flatMap u) (L.flatMap u')
 | [],_=>trivial
 | x::L,h=>by
  rw[List.flatMap_cons,List.flatMap_cons];exact k9 (h x List.mem_cons_self) (qw fun y hy=>h y (List.mem_cons_of_mem _ hy))
theorem xw {u u':D→List (Nat × Nat × Int)}{g:Nat}{t t':D→Int}:∀{L:List D}(k:Nat),(∀x∈L,leU (u x) (u' x))→(∀x∈L,leT (t x) (t' x))→leU (upL u g t k L) (upL u' g t' k L)
 | [],_,_,_=>trivial
 | x::L,k,h,h2=>k9 (h x List.mem_cons_self) ⟨rfl,rfl,h2 x List.mem_cons_self,xw (k+1) (fun y hy=>h y (List.mem_cons_of_mem _ hy)) fun y hy=>h2 y (List.mem_cons_of_mem _ hy)⟩
theorem nG {sk:Sk}{S S':List Bool}(hS:leS S S'):∀(f:Nat) (d:D){l l':List Bd},leB l l'→leU (upX sk S f d l) (upX sk S' f d l')
 | 0,_,_,_,_=>trivial
 | f+1,d,l,l',hl=>by
  rw[upX,upX];by_cases c1:d.kd=1
  ·rw[if_pos c1,if_pos c1];trivial
  rw[if_neg c1,if_neg c1];by_cases c2:d.kd=2
  ·rw[if_pos c2,if_pos c2];trivial
  rw[if_neg c2,if_neg c2];by_cases c3:wn (d.kid 0).tx=0
  ·rw[if_pos c3,if_pos c3];trivial
  rw[if_neg c3,if_neg c3];by_cases c4:wn (d.kid 0).tx=2
  ·rw[if_pos c4,if_pos c4];exact k9 (nG hS f _ hl) (nG hS f _ (ll hl (og rfl rfl (wa (jI hS f _ hl)))))
  rw[if_neg c4,if_neg c4];by_cases c5:wn (d.kid 0).tx=3
  ·rw[if_pos c5,if_pos c5];exact xw 0 (fun x _=>nG hS f x hl) fun x _=>DV hS f hl x
  rw[if_neg c5,if_neg c5];exact qw fun x _=>nG hS f x hl
theorem tv:∀{l l':List (Nat × Nat × Int)},leU l l'→∀u∈l,∃t',(u.1,u.2.1,t')∈l'∧leT u.2.2 t'
 | [],[],_,u,hu=>by cases hu
 | a::l,b::l',⟨h1,h2,h3,h4⟩,u,hu=>by
  rcases List.mem_cons.1 hu with rfl|hu
  ·exact⟨b.2.2,by rw[h1,h2];exact List.mem_cons_self,h3⟩
  ·obtain⟨t',k1,k2⟩:=tv h4 u hu;exact⟨t',List.mem_cons_of_mem _ k1,k2⟩
 | [],_::_,h,_,_=>h.elim
 | _::_,[],h,_,_=>h.elim
theorem BB {T:List (List Int)}{g k:Nat}{v:Int}(hg:g<T.length) (hk:k<(T.getD g []).length) (i j:Nat):at2 (T.set g ((T.getD g []).set k v)) i j=if i=g∧j=k then v else at2 T i j:=by
 unfold at2;simp only[List.getD_eq_getElem?_getD];by_cases h:g=i
 ·subst h;rw[sS hg];simp only[List.getD_eq_getElem?_getD] at hk;by_cases h2:k=j
  ·subst h2;simp[hk]
  ·rw[if_neg (by simp[Ne.symm h2])];simp[sN h2]
 ·rw[if_neg (fun c=>h c.1.symm),sN h]
def inR (ns:List Nat) (u:Nat × Nat × Int):Prop:=∃m,ns[u.1]?=some m∧u.2.1<m
theorem yX {T:List (List Int)}{u:Nat × Nat × Int}(h:inR (T.map List.length) u):u.1<T.length∧u.2.1<(T.getD u.1 []).length:=by
 obtain⟨m,h1,h2⟩:=h;rw[List.getElem?_map] at h1;cases h3:T[u.1]? with
 | none=>rw[h3] at h1;cases h1
 | some r =>
  rw[h3] at h1;have h4:r.length=m:=Option.some.inj h1;refine⟨(gS.1 h3).1,?_⟩;rw[List.getD_eq_getElem?_getD,h3];simpa[h4] using h2
theorem pi {T:List (List Int)}{c:Bool}{u:Nat × Nat × Int}(h:inR (T.map List.length) u) :
  (∀i j,at2 (bP (T,c) u).1 i j=if i=u.1∧j=u.2.1 then later (at2 T u.1 u.2.1) u.2.2 else at2 T i j)∧((bP (T,c) u).2=false↔c=false∧leT u.2.2 (at2 T u.1 u.2.1))∧((bP (T,c) u).2=false→(bP (T,c) u).1=T):=by
 obtain⟨h1,h2⟩:=yX h;unfold bP;have hx:(T.getD u.1 []).getD u.2.1 0=at2 T u.1 u.2.1:=rfl;simp only[hx];by_cases hc:later (at2 T u.1 u.2.1) u.2.2=at2 T u.1 u.2.1
 ·rw[if_pos hc];refine⟨fun i j=>?_,⟨fun h=>⟨h,nC.1 hc⟩,fun h=>h.1⟩,fun _=>rfl⟩;split
  ·rename_i h;rw[hc,h.1,h.2]
  ·rfl
 ·rw[if_neg hc];exact⟨fun i j=>BB h1 h2 i j,⟨fun h=>(by cases h),fun h=>absurd (nC.2 h.2) hc⟩,fun h=>by cases h⟩
theorem lr {T:List (List Int)}{c:Bool}{u:Nat × Nat × Int}(h:inR (T.map List.length) u):leR T (bP (T,c) u).1:=by
 refine⟨(dj (T,c) u).symm,fun i j=>?_⟩;rw[(pi h).1];split
 ·rename_i h;rw[h.1,h.2];exact xy _ _
 ·exact cP _
theorem wk:∀(us:List (Nat × Nat × Int)){T:List (List Int)}{c:Bool},(∀u∈us,inR (T.map List.length) u)→leR T (us.foldl bP (T,c)).1
 | [],T,c,_=>lP T
 | u::us,T,c,h=>by
  rw[List.foldl_cons];have h1:=lr (c:=c) (h u List.mem_cons_self);exact jA h1 (wk us (T:=(bP (T,c) u).1) (c:=(bP (T,c) u).2) fun v hv=>by rw[← h1.1];exact h v (List.mem_cons_of_mem _ hv))
theorem tj {T':List (List Int)}:∀(us:List (Nat × Nat × Int)){T:List (List Int)}{c:Bool},(∀u∈us,inR (T.map List.length) u)→leR T T'→(∀u∈us,leT u.2.2 (at2 T' u.1 u.2.1))→leR (us.foldl bP (T,c)).1 T'
 | [],T,c,_,h,_=>h
 | u::us,T,c,hi,h,h2=>by
  rw[List.foldl_cons];have h1:=lr (c:=c) (hi u List.mem_cons_self);refine tj us (T:=(bP (T,c) u).1) (c:=(bP (T,c) u).2) (fun v hv=>by rw[← h1.1];exact hi v (List.mem_cons_of_mem _ hv)) ⟨h1.1.symm.trans h.1,fun i j=>?_⟩ fun v hv=>h2 v (List.mem_cons_of_mem _ hv)
  rw[(pi (hi u List.mem_cons_self)).1];split
  ·rename_i h3;rw[h3.1,h3.2];exact Ac (h.2 _ _) (h2 u List.mem_cons_self)
  ·exact h.2 _ _
theorem AX:∀(us:List (Nat × Nat × Int)){T:List (List Int)}{c:Bool},(∀u∈us,inR (T.map List.length) u)→(us.foldl bP (T,c)).2=false→c=false∧(us.foldl bP (T,c)).1=T∧∀u∈us,leT u.2.2 (at2 T u.1 u.2.1)
 | [],T,c,_,h=>⟨h,rfl,fun _ h=>by cases h⟩
 | u::us,T,c,hi,h=>by
  rw[List.foldl_cons] at h ⊢;have h1:=lr (c:=c) (hi u List.mem_cons_self);obtain⟨k1,k2,k3⟩:=AX us (T:=(bP (T,c) u).1) (c:=(bP (T,c) u).2) (fun v hv=>by rw[← h1.1];exact hi v (List.mem_cons_of_mem _ hv)) h;obtain⟨-,m2,m3⟩:=pi (c:=c) (hi u List.mem_cons_self);have e:=m3 k1;rw[e] at k3;refine⟨(m2.1 k1).1,k2.trans e,fun v hv=>?_⟩;rcases List.mem_cons.1 hv with rfl|hv
  ·exact (m2.1 k1).2
  ·exact k3 v hv
def msR (r:List Int):Nat:=(r.map fun t=>3-rkT t).sum
def msT (T:List (List Int)):Nat:=(T.map msR).sum
theorem kN {α:Type}(m:α→Nat):∀(l:List α) (k:Nat) (h:k<l.length) (v:α),((l.set k v).map m).sum+m l[k]=(l.map m).sum+m v
 | a::l,0,_,v=>by simp;omega
 | a::l,k+1,h,v=>by
  have:=kN m l k (by simpa using h) v;simp only[List.set_cons_succ,List.map_cons,List.sum_cons,List.getElem_cons_succ] at this ⊢;omega
theorem BH {T:List (List Int)}{c:Bool}{u:Nat × Nat × Int}(h:inR (T.map List.length) u):msT (bP (T,c) u).1≤msT T∧(c=false→(bP (T,c) u).2=true→msT (bP (T,c) u).1<msT T):=by
 obtain⟨h1,h2⟩:=yX h;unfold bP;have hx:(T.getD u.1 []).getD u.2.1 0=at2 T u.1 u.2.1:=rfl;simp only[hx];by_cases hc:later (at2 T u.1 u.2.1) u.2.2=at2 T u.1 u.2.1
 ·rw[if_pos hc];exact⟨nL _,fun h1 h2=>by rw[h1] at h2;cases h2⟩
 ·rw[if_neg hc];have hlt:msT (T.set u.1 ((T.getD u.1 []).set u.2.1 (later (at2 T u.1 u.2.1) u.2.2)))<msT T:=by
   have e1:=kN msR T u.1 h1 ((T.getD u.1 []).set u.2.1 (later (at2 T u.1 u.2.1) u.2.2));have e2:=kN (fun t=>3-rkT t) (T.getD u.1 []) u.2.1 h2 (later (at2 T u.1 u.2.1) u.2.2);have e3:(T.getD u.1 [])[u.2.1]=at2 T u.1 u.2.1:=by
    unfold at2;rw[List.getD_eq_getElem?_getD (l:=T.getD u.1 []),gE h2];rfl
   have e4:T[u.1]=T.getD u.1 []:=by rw[List.getD_eq_getElem?_getD,gE h1];rfl
   rw[e3] at e2;rw[e4] at e1;have e5:=ED (xy (at2 T u.1 u.2.1) u.2.2) (Ne.symm hc);have e6:=EA (later (at2 T u.1 u.2.1) u.2.2);unfold msT;unfold msR at e1 ⊢;omega
  exact⟨Nat.le_of_lt hlt,fun _ _=>hlt⟩
theorem s7:∀(us:List (Nat × Nat × Int)){T:List (List Int)}{c:Bool},(∀u∈us,inR (T.map List.length) u)→msT (us.foldl bP (T,c)).1≤msT T∧(c=false→(us.foldl bP (T,c)).2=true→msT (us.foldl bP (T,c)).1<msT T)
 | [],T,c,_=>⟨nL _,fun h1 h2=>by simp only[List.foldl_nil] at h2;rw[h1] at h2;cases h2⟩
 | u::us,T,c,hi=>by
  rw[List.foldl_cons];have h1:=lr (c:=c) (hi u List.mem_cons_self);obtain⟨a1,a2⟩:=BH (c:=c) (hi u List.mem_cons_self);obtain⟨b1,b2⟩:=s7 us (T:=(bP (T,c) u).1) (c:=(bP (T,c) u).2) fun v hv=>by rw[← h1.1];exact hi v (List.mem_cons_of_mem _ hv)
  refine⟨Nat.le_trans b1 a1,fun hc ht=>?_⟩;cases hq:(bP (T,c) u).2 with
  | true=>exact Nat.lt_of_le_of_lt b1 (a2 hc hq)
  | false=>exact Nat.lt_of_lt_of_le (b2 hq ht) a1
theorem lv {u:D→List (Nat × Nat × Int)}{g:Nat}{t:D→Int}:∀{L:List D}{k:Nat}{w:Nat × Nat × Int},w∈upL u g t k L→(∃x∈L,w∈u x)∨(w.1=g∧w.2.1<k+L.length∧∃x∈L,w.2.2=t x)
 | [],_,_,h=>by cases h
 | x::L,k,w,h=>by
  rw[upL] at h;rcases List.mem_append.1 h with h|h
  ·exact .inl ⟨x,List.mem_cons_self,h⟩
  ·rcases List.mem_cons.1 h with rfl|h
   ·exact .inr ⟨rfl,by simp,x,List.mem_cons_self,rfl⟩
   ·rcases lv h with⟨y,hy,h2⟩|⟨h1,h2,y,hy,h3⟩
    ·exact .inl ⟨y,List.mem_cons_of_mem _ hy,h2⟩
    ·exact .inr ⟨h1,by simp only[lC];omega,y,List.mem_cons_of_mem _ hy,h3⟩
theorem nw {sk:Sk}{ns:List Nat}{S:List Bool}:∀(f:Nat) (d:D),okY sk ns f d→∀(l:List Bd),∀u∈upX sk S f d l,inR ns u
 | 0,_,h,_,_,_=>h.elim
 | f+1,d,hd,l,u,hu=>by
  rw[okY] at hd;rw[upX] at hu;by_cases c1:d.kd=1
  ·rw[if_pos c1] at hu;cases hu
  by_cases c2:d.kd=2
  ·rw[if_neg c1,if_pos c2] at hu;cases hu
  rw[if_neg c1,if_neg c2] at hu;obtain⟨-,-,h0,hd⟩:=(hd.resolve_left c1).resolve_left c2;by_cases c3:wn (d.kid 0).tx=0
  ·rw[if_pos c3] at hu;cases hu
  rw[if_neg c3] at hu;have hd:=hd.resolve_left c3;by_cases c4:wn (d.kid 0).tx=2
  ·rw[if_pos c4] at hu;obtain⟨-,-,k2,k3⟩:=hd.resolve_right (by rintro (h|h);exact absurd (c4.symm.trans h.1) (by decide);exact h.2.1 c4);rcases List.mem_append.1 hu with hu|hu
   ·exact nw f _ k2 _ u hu
   ·exact nw f _ k3 _ u hu
  rw[if_neg c4] at hu;have hd:=hd.resolve_left fun h=>c4 h.1
  by_cases c5:wn (d.kid 0).tx=3
  ·rw[if_pos c5] at hu;obtain⟨-,g1,⟨g,g2,g3⟩,g4⟩:=hd.resolve_right fun h=>h.2.2.1 c5
   rcases lv hu with⟨x,hx,h⟩|⟨h1,h2,-⟩
   ·exact nw f x (g4 x hx) _ u h
   ·refine⟨d.kids.length-2,?_,?_⟩
    ·rw[h1];unfold gOf;rw[g2];exact g3
    ·simpa using h2
  rw[if_neg c5] at hu;obtain⟨-,-,-,g4⟩:=hd.resolve_left fun h=>c5 h.1
  obtain⟨x,hx,h⟩:=List.mem_flatMap.1 hu;exact nw f x (g4 x hx) _ u h
def stp (sk:Sk) (f i:Nat) (d:D) (T:List (List Int)) (S:List Bool) (c:Bool):List (List Int) × List Bool × Bool :=
 if (isX sk S f (d.kid 2) (scB d (T.getD i []))||decide (-2∈((upX sk S f (d.kid 2) (scB d (T.getD i []))).foldl bP (T,c)).1.getD i [])) && !S.getD i false
 then (((upX sk S f (d.kid 2) (scB d (T.getD i []))).foldl bP (T,c)).1,S.set i true,true)
 else (((upX sk S f (d.kid 2) (scB d (T.getD i []))).foldl bP (T,c)).1,S,((upX sk S f (d.kid 2) (scB d (T.getD i []))).foldl bP (T,c)).2)
def pas (sk:Sk) (f:Nat):Nat→List D→List (List Int) × List Bool × Bool→List (List Int) × List Bool × Bool
 | _,[],s=>s
 | i,d::r,s=>pas sk f (i+1) r (stp sk f i d s.1 s.2.1 s.2.2)
def uM (sk:Sk) (f:Nat) (T:List (List Int)) (S:List Bool) (i:Nat) (d:D):Prop :=
 (∀u∈upX sk S f (d.kid 2) (scB d (T.getD i [])),leT u.2.2 (at2 T u.1 u.2.1))∧((isX sk S f (d.kid 2) (scB d (T.getD i []))=true ∨ -2∈T.getD i [])→S.getD i false=true)
def Sol (sk:Sk) (f:Nat) (ds:List D) (T:List (List Int)) (S:List Bool):Prop:=∀i d,ds[i]?=some d→uM sk f T S i d
def InD (sk:Sk) (f:Nat) (ns:List Nat) (d:D):Prop:=∀S l,∀u∈upX sk S f (d.kid 2) l,inR ns u
theorem zf {S:List Bool}{i:Nat}(j:Nat) (h:S.getD j false=true):(S.set i true).getD j false=true:=by
 rw[List.getD_eq_getElem?_getD] at h ⊢;by_cases c:i=j
 ·subst c;by_cases hl:i<S.length
  ·rw[sS hl];rfl
  ·rw[List.getElem?_eq_none (by omega)] at h;cases h
 ·rw[sN c];exact h
theorem vP (S:List Bool) (i:Nat):leS S (S.set i true):=⟨by simp,fun j h=>zf j h⟩
theorem rc {sk:Sk}{f i:Nat}{d:D}{T:List (List Int)}{S:List Bool}{c:Bool}(h:InD sk f (T.map List.length) d):leR T (stp sk f i d T S c).1∧leS S (stp sk f i d T S c).2.1:=by
 have h1:=wk _ (T:=T) (c:=c) (h S (scB d (T.getD i [])));unfold stp;split
 ·exact⟨h1,vP S i⟩
 ·exact⟨h1,lx S⟩
theorem Gu {sk:Sk}{f i:Nat}{d:D}{T:List (List Int)}{S:List Bool}{c:Bool}(h:InD sk f (T.map List.length) d) (hc:(stp sk f i d T S c).2.2=false) :
  c=false∧(stp sk f i d T S c).1=T∧(stp sk f i d T S c).2.1=S∧uM sk f T S i d:=by
 unfold stp at hc ⊢;split at hc
 ·cases hc
 rename_i hn;rw[if_neg hn];obtain⟨h1,h2,h3⟩:=AX _ (T:=T) (c:=c) (h S (scB d (T.getD i []))) hc;refine⟨h1,h2,rfl,h3,fun h4=>?_⟩;rw[h2] at hn;cases hS:S.getD i false with
 | true=>rfl
 | false =>
  rw[hS] at hn;exfalso;apply hn;rcases h4 with h4|h4
  ·rw[h4];rfl
  ·rw[decide_eq_true h4];simp
theorem cH {T T':List (List Int)}(h:leR T T') (i:Nat):(T.getD i []).length=(T'.getD i []).length:=by
 have h1:=congrArg (fun l=>l[i]?) h.1;simp only[List.getElem?_map] at h1;rw[List.getD_eq_getElem?_getD,List.getD_eq_getElem?_getD];cases h2:T[i]? with
 | none =>
  rw[h2] at h1;cases h3:T'[i]? with
  | none=>rfl
  | some r=>rw[h3] at h1;cases h1
 | some r =>
  rw[h2] at h1;cases h3:T'[i]? with
  | none=>rw[h3] at h1;cases h1
  | some r'=>rw[h3] at h1;exact Option.some.inj h1
theorem Bg (l:List D):∀(r r':List Int),r.length=r'.length→(∀k,leT (r.getD k 0) (r'.getD k 0))→leB (List.zipWith (fun x t=>(⟨x.tx,true,t⟩:Bd)) l r) (List.zipWith (fun x t=>⟨x.tx,true,t⟩) l r'):=by
 induction l with
 | nil=>intro r r' _ _;exact trivial
 | cons x l ih =>
  intro r r' h1 h2;cases r with
  | nil =>
   cases r' with
   | nil=>trivial
   | cons b r'=>cases h1
  | cons a r =>
   cases r' with
   | nil=>cases h1
   | cons b r'=>exact⟨rfl,rfl,h2 0,ih r r' (by simpa using h1) fun k=>h2 (k+1)⟩
theorem FF {T T':List (List Int)}(h:leR T T') (d:D) (i:Nat):leB (scB d (T.getD i [])) (scB d (T'.getD i [])):=Bg _ _ _ (cH h i) fun k=>h.2 i k
theorem cZ {T:List (List Int)}{i:Nat}{x:Int}:x∈T.getD i []↔∃k,k<(T.getD i []).length∧at2 T i k=x:=by
 unfold at2;constructor
 ·intro h;obtain⟨k,hk,rfl⟩:=List.getElem_of_mem h;exact⟨k,hk,by rw[List.getD_eq_getElem?_getD (l:=T.getD i []),gE hk];rfl⟩
 ·rintro⟨k,hk,rfl⟩;rw[List.getD_eq_getElem?_getD (l:=T.getD i []),gE hk];exact List.getElem_mem hk
theorem Fk {T T':List (List Int)}(h:leR T T'){i:Nat}(h2 : -2∈T.getD i []) : -2∈T'.getD i []:=by
 obtain⟨k,hk,e⟩:=cZ.1 h2;refine cZ.2 ⟨k,by rw[← cH h i];exact hk,?_⟩;have:=h.2 i k;rw[e,bl] at this;omega
theorem Fo {sk:Sk}{f i:Nat}{d:D}{T T':List (List Int)}{S S':List Bool}{c:Bool}(h:InD sk f (T.map List.length) d) (hs:uM sk f T' S' i d) (hT:leR T T') (hS:leS S S') :
  leR (stp sk f i d T S c).1 T'∧leS S (stp sk f i d T S c).2.1∧leS (stp sk f i d T S c).2.1 S':=by
 have hB:=FF hT d i;have hU:=nG hS f (d.kid 2) hB (sk:=sk);have h1:leR ((upX sk S f (d.kid 2) (scB d (T.getD i []))).foldl bP (T,c)).1 T':=tj _ (h S _) hT fun u hu=>by
  obtain⟨t',k1,k2⟩:=tv hU u hu;exact my k2 (hs.1 _ k1)
 unfold stp;split
 ·rename_i hc;refine⟨h1,vP S i,?_⟩;have h2:S'.getD i false=true:=by
   rw[bT,Bool.or_eq_true,dT] at hc;refine hs.2 ?_;rcases hc.1 with h3|h3
   ·exact .inl (jI hS f _ hB h3)
   ·exact .inr (Fk h1 h3)
  refine⟨by rw[List.length_set];exact hS.1,fun j hj=>?_⟩;by_cases e:j=i
  ·rw[e];exact h2
  ·refine hS.2 j ?_;rw[List.getD_eq_getElem?_getD,sN (Ne.symm e)] at hj;rw[List.getD_eq_getElem?_getD];exact hj
 ·exact⟨h1,lx S,hS⟩
def qe (S:List Bool):Nat:=(S.map fun b=>if b=true then 0 else 1).sum
theorem Fh {sk:Sk}{f i:Nat}{d:D}{T:List (List Int)}{S:List Bool}{c:Bool}(h:InD sk f (T.map List.length) d) (hi:i<S.length) :
  msT (stp sk f i d T S c).1+qe (stp sk f i d T S c).2.1≤msT T+qe S∧(c=false→(stp sk f i d T S c).2.2=true→msT (stp sk f i d T S c).1+qe (stp sk f i d T S c).2.1<msT T+qe S):=by
 obtain⟨h1,h2⟩:=s7 _ (T:=T) (c:=c) (h S (scB d (T.getD i [])));unfold stp;split
 ·rename_i hc;rw[bT] at hc;have hS:S[i]=false:=by
   have:=hc.2;rw[List.getD_eq_getElem?_getD,gE hi] at this;simpa using this
  have h3:=kN (fun b:Bool=>if b=true then 0 else 1) S i hi true;rw[hS] at h3;simp only[Bool.false_eq_true,if_false,if_true] at h3;unfold qe;simp only;exact⟨by omega,fun _ _=>by omega⟩
 ·simp only;exact⟨by omega,fun a b=>by have:=h2 a b;omega⟩
theorem AT {sk:Sk}{f:Nat}{ns:List Nat}:∀(r:List D) (i:Nat) (s:List (List Int) × List Bool × Bool),(∀d∈r,InD sk f ns d)→s.1.map List.length=ns→leR s.1 (pas sk f i r s).1∧leS s.2.1 (pas sk f i r s).2.1
 | [],_,s,_,_=>⟨lP _,lx _⟩
 | d::r,i,s,h,hn=>by
  rw[pas];obtain⟨a1,a2⟩:=rc (i:=i) (T:=s.1) (S:=s.2.1) (c:=s.2.2) (by rw[hn];exact h d List.mem_cons_self);obtain⟨b1,b2⟩:=AT r (i+1) (stp sk f i d s.1 s.2.1 s.2.2) (fun x hx=>h x (List.mem_cons_of_mem _ hx)) (a1.1.symm.trans hn);exact⟨jA a1 b1,wB a2 b2⟩
theorem Fj {sk:Sk}{f:Nat}{ns:List Nat}:∀(r:List D) (i:Nat) (s:List (List Int) × List Bool × Bool),(∀d∈r,InD sk f ns d)→s.1.map List.length=ns→(pas sk f i r s).2.2=false →
  s.2.2=false∧(pas sk f i r s).1=s.1∧(pas sk f i r s).2.1=s.2.1∧∀j d,r[j]?=some d→uM sk f s.1 s.2.1 (i+j) d
 | [],_,s,_,_,h=>⟨h,rfl,rfl,fun j d h=>by simp at h⟩
 | d::r,i,s,h,hn,hc=>by
  rw[pas] at hc ⊢;have hd:InD sk f (s.1.map List.length) d:=by rw[hn];exact h d List.mem_cons_self
  obtain⟨a1,a2⟩:=rc (i:=i) (T:=s.1) (S:=s.2.1) (c:=s.2.2) hd;obtain⟨b1,b2,b3,b4⟩:=Fj r (i+1) (stp sk f i d s.1 s.2.1 s.2.2) (fun x hx=>h x (List.mem_cons_of_mem _ hx)) (a1.1.symm.trans hn) hc;obtain⟨c1,c2,c3,c4⟩:=Gu hd b1;refine⟨c1,b2.trans c2,b3.trans c3,fun j x hx=>?_⟩;cases j with
  | zero=>rw[List.getElem?_cons_zero] at hx;rw[← Option.some.inj hx];exact c4
  | succ j =>
   rw[List.getElem?_cons_succ] at hx;have:=b4 j x hx;rw[c2,c3] at this;rw[show i+(j+1)=i+1+j by omega];exact this
theorem AK {sk:Sk}{f:Nat}{ns:List Nat}{T':List (List Int)}{S':List Bool}:∀(r:List D) (i:Nat) (s:List (List Int) × List Bool × Bool),(∀d∈r,InD sk f ns d)→s.1.map List.length=ns→(∀j d,r[j]?=some d→uM sk f T' S' (i+j) d)→leR s.1 T'→leS s.2.1 S' →
  leR (pas sk f i r s).1 T'∧leS (pas sk f i r s).2.1 S'
 | [],_,s,_,_,_,h1,h2=>⟨h1,h2⟩
 | d::r,i,s,h,hn,hs,h1,h2=>by
  rw[pas];have hd:InD sk f (s.1.map List.length) d:=by rw[hn];exact h d List.mem_cons_self
  obtain⟨a1,a2⟩:=rc (i:=i) (T:=s.1) (S:=s.2.1) (c:=s.2.2) hd;obtain⟨b1,b2,b3⟩:=Fo (c:=s.2.2) hd (hs 0 d rfl) h1 h2;refine AK r (i+1) (stp sk f i d s.1 s.2.1 s.2.2) (fun x hx=>h x (List.mem_cons_of_mem _ hx)) (a1.1.symm.trans hn) (fun j x hx=>?_) b1 b3;rw[show i+1+j=i+(j+1) by omega];exact hs (j+1) x (by rw[List.getElem?_cons_succ];exact hx)
theorem A9 {sk:Sk}{f:Nat}{ns:List Nat}:∀(r:List D) (i:Nat) (s:List (List Int) × List Bool × Bool),(∀d∈r,InD sk f ns d)→s.1.map List.length=ns→i+r.length≤s.2.1.length →
  msT (pas sk f i r s).1+qe (pas sk f i r s).2.1≤msT s.1+qe s.2.1∧(s.2.2=false→(pas sk f i r s).2.2=true→msT (pas sk f i r s).1+qe (pas sk f i r s).2.1<msT s.1+qe s.2.1)
 | [],_,s,_,_,_=>⟨nL _,fun h1 h2=>by rw[pas,h1] at h2;cases h2⟩
 | d::r,i,s,h,hn,hl=>by
  rw[pas];rw[lC] at hl;have hd:InD sk f (s.1.map List.length) d:=by rw[hn];exact h d List.mem_cons_self
  obtain⟨a1,a2⟩:=rc (i:=i) (T:=s.1) (S:=s.2.1) (c:=s.2.2) hd;obtain⟨b1,b2⟩:=Fh (i:=i) (c:=s.2.2) (T:=s.1) (S:=s.2.1) hd (by omega);obtain⟨c1,c2⟩:=A9 r (i+1) (stp sk f i d s.1 s.2.1 s.2.2) (fun x hx=>h x (List.mem_cons_of_mem _ hx)) (a1.1.symm.trans hn) (by rw[← a2.1];omega);refine⟨by omega,fun e1 e2=>?_⟩;cases hq:(stp sk f i d s.1 s.2.1 s.2.2).2.2 with
  | true=>have:=b2 e1 hq;omega
  | false=>have:=c2 hq e2;omega
structure Lst (sk:Sk) (f:Nat) (ds:List D) (T0 T:List (List Int)) (S:List Bool):Prop where
 ge:leR T0 T
 len:S.length=ds.length
 sol:Sol sk f ds T S
 le:∀T' S',Sol sk f ds T' S'→leR T0 T'→S'.length=ds.length→leR T T'∧leS S S'
structure Tmk (p:Int→Int):Prop where
 mono:∀a b,leT a b→leT (p a) (p b)
 dyn:∀a,p a = -2↔a = -2
 st:p (-1) = -1
theorem Tmk.tmO {p:Int→Int}(hp:Tmk p) (b:Bool):p (tmO b)=tmO b:=by
 cases b
 ·exact hp.st
 ·exact (hp.dyn _).2 rfl
def bmp (p:Int→Int) (l:List Bd):List Bd:=l.map fun b=>⟨b.nm,b.pr,p b.tm⟩
theorem wW (p:Int→Int) (l m:List Bd):bmp p (l++m)=bmp p l++bmp p m:=List.map_append
theorem ot {p:Int→Int}(hp:Tmk p) (t:ByteArray):∀(l:List Bd),(fdB (bmp p l) t).pr=(fdB l t).pr∧((fdB l t).pr=true→(fdB (bmp p l) t).tm=p (fdB l t).tm)∧((fdB (bmp p l) t).tm = -2↔(fdB l t).tm = -2)
 | []=>⟨rfl,fun h=>absurd (show false=true from h) (by decide),Iff.rfl⟩
 | b::l=>by
  have ih:=ot hp t l;unfold bmp at ih;simp only[bmp,List.map_cons,fdB];split
  ·exact⟨rfl,fun _=>rfl,hp.dyn _⟩
  ·exact ih
theorem i6 {p:Int→Int}(hp:Tmk p) (sk:Sk) (S:List Bool):∀(f:Nat) (d:D) (l:List Bd),isX sk S f d (bmp p l)=isX sk S f d l
 | 0,_,_=>rfl
 | f+1,d,l=>by
  have hr:(bmp p l).reverse=bmp p l.reverse:=by simp[bmp]
  rw[isX,isX];have h1:=(ot hp d.tx l.reverse).2.2;have e1:((fdB (bmp p l).reverse d.tx).tm == -2)=((fdB l.reverse d.tx).tm == -2):=by
   rw[hr,Bool.eq_iff_iff,beq_iff_eq,beq_iff_eq];exact h1
  have e2:∀x,isX sk S f x (bmp p l)=isX sk S f x l:=fun x=>i6 hp sk S f x l
  have e3:isX sk S f (d.kid 3) (bmp p l++[⟨(d.kid 1).tx,false,tmO (isX sk S f (d.kid 2) l)⟩])=isX sk S f (d.kid 3) (l++[⟨(d.kid 1).tx,false,tmO (isX sk S f (d.kid 2) l)⟩]):=by
   rw[← i6 hp sk S f (d.kid 3) (l++[_]),wW];simp only[bmp,List.map_cons,List.map_nil,hp.tmO]
  simp only[e1,e2,e3]
theorem Cp {p:Int→Int}(hp:Tmk p) (sk:Sk) (S:List Bool) (f:Nat) (x:D) (l:List Bd):tmA (isX sk S f) (bmp p l) x=p (tmA (isX sk S f) l x):=by
 have hr:(bmp p l).reverse=bmp p l.reverse:=by simp[bmp]
 obtain⟨h1,h2,-⟩:=ot hp x.tx l.reverse;unfold tmA;rw[hr,h1];split
 ·rename_i h;exact h2 h.2
 ·rw[i6 hp,hp.tmO]
def ump (p:Int→Int) (us:List (Nat × Nat × Int)):List (Nat × Nat × Int):=us.map fun u=>(u.1,u.2.1,p u.2.2)
theorem wT {p:Int→Int}{u u':D→List (Nat × Nat × Int)}{g:Nat}{t t':D→Int}:∀(L:List D) (k:Nat),(∀x,u' x=ump p (u x))→(∀x,t' x=p (t x))→upL u' g t' k L=ump p (upL u g t k L)
 | [],_,_,_=>rfl
 | x::L,k,h1,h2=>by
  have ih:=wT L (k+1) h1 h2 (g:=g);unfold ump at h1 ih ⊢;simp only[upL,List.map_append,List.map_cons,h1,h2,ih]
theorem pt {p:Int→Int}(hp:Tmk p) (sk:Sk) (S:List Bool):∀(f:Nat) (d:D) (l:List Bd),upX sk S f d (bmp p l)=ump p (upX sk S f d l)
 | 0,_,_=>rfl
 | f+1,d,l=>by
  rw[upX,upX];have e2:∀x,upX sk S f x (bmp p l)=ump p (upX sk S f x l):=fun x=>pt hp sk S f x l
  have e3:upX sk S f (d.kid 3) (bmp p l++[⟨(d.kid 1).tx,false,tmO (isX sk S f (d.kid 2) l)⟩])=ump p (upX sk S f (d.kid 3) (l++[⟨(d.kid 1).tx,false,tmO (isX sk S f (d.kid 2) l)⟩])):=by
   rw[← pt hp sk S f (d.kid 3) (l++[_]),wW];simp only[bmp,List.map_cons,List.map_nil,hp.tmO]
  have e4:upL (fun x=>upX sk S f x (bmp p l)) (gOf sk d) (tmA (isX sk S f) (bmp p l)) 0 (d.kids.drop 2)=ump p (upL (fun x=>upX sk S f x l) (gOf sk d) (tmA (isX sk S f) l) 0 (d.kids.drop 2)):=wT _ _ e2 fun x=>Cp hp sk S f x l
  have e5:∀L:List D,(L.flatMap fun x=>ump p (upX sk S f x l))=ump p (L.flatMap fun x=>upX sk S f x l):=fun L=>by
   induction L with
   | nil=>rfl
   | cons a L ih=>rw[List.flatMap_cons,List.flatMap_cons,ih];simp[ump]
  have e6:∀a b,ump p (a++b)=ump p a++ump p b:=fun a b=>by simp[ump]
  rw[e4];simp only[i6 hp,e2,e3,e5];split
  ·rfl
  split
  ·rfl
  split
  ·rfl
  split
  ·rw[e6]
  split<;>rfl
def tmp (p:Int→Int) (T:List (List Int)):List (List Int):=T.map fun r=>r.map p
theorem gK (p:Int→Int) (T:List (List Int)) (i:Nat):(tmp p T).getD i []=(T.getD i []).map p:=by
 unfold tmp;rw[List.getD_eq_getElem?_getD,List.getD_eq_getElem?_getD,List.getElem?_map];cases T[i]?<;>rfl
theorem iX (p:Int→Int) (T:List (List Int)){i k:Nat}(h:k<(T.getD i []).length):at2 (tmp p T) i k=p (at2 T i k):=by
 unfold at2;rw[gK,List.getD_eq_getElem?_getD (l:=List.map p _),List.getElem?_map,List.getD_eq_getElem?_getD (l:=T.getD i []),gE h];rfl
theorem xC (p:Int→Int) (d:D) (r:List Int):scB d (r.map p)=bmp p (scB d r):=by
 unfold scB bmp;rw[List.zipWith_map_right,List.map_zipWith]
theorem vC (p:Int→Int) (T:List (List Int)):(tmp p T).map List.length=T.map List.length:=by
 unfold tmp;rw[List.map_map];exact List.map_congr_left fun r _=>by simp
theorem Sol.tmp {p:Int→Int}(hp:Tmk p){sk:Sk}{f:Nat}{ds:List D}{T:List (List Int)}{S:List Bool}(hin:∀d∈ds,InD sk f (T.map List.length) d) (h:Sol sk f ds T S):Sol sk f ds (tmp p T) S:=fun i d hd=>by
 obtain⟨h1,h2⟩:=h i d hd;have hI:=hin d (List.mem_of_getElem? hd);refine⟨fun u hu=>?_,fun h3=>h2 ?_⟩
 ·rw[gK,xC,pt hp] at hu;unfold ump at hu;obtain⟨v,hv,rfl⟩:=List.mem_map.1 hu;obtain⟨-,k2⟩:=yX (hI _ _ v hv);simp only;rw[iX p T k2];exact hp.mono _ _ (h1 v hv)
 ·rw[gK,xC,i6 hp] at h3;refine h3.imp id fun h4=>?_
  obtain⟨x,hx,e⟩:=List.mem_map.1 h4;rw[(hp.dyn x).1 e] at hx;exact hx
theorem Lst.vals {sk:Sk}{f:Nat}{ds:List D}{T0 T:List (List Int)}{S:List Bool}(a:Lst sk f ds T0 T S) (hin:∀d∈ds,InD sk f (T.map List.length) d) (q:Int→Prop) (hq:q (-1)∧q (-2)) (h0:∀i k,k<(T0.getD i []).length→at2 T0 i k ≠ -3→q (at2 T0 i k)) :
  ∀i k,k<(T.getD i []).length→at2 T i k ≠ -3→q (at2 T i k):=by
 classical
 obtain⟨p,hpd⟩:∃p:Int→Int,p=fun t=>if q t then t else -3:=⟨_,rfl⟩
 have hp:Tmk p:=by
  refine⟨fun x y h=>?_,fun x=>?_,?_⟩
  ·rw[bl] at h ⊢;simp only[hpd];rcases h with h|h|h|h
   ·left;split<;>omega
   ·rw[h];right;left;rfl
   ·rw[h,if_pos hq.2];right;right;left;rfl
   ·rw[h.1,if_pos hq.1];by_cases c:q x
    ·rw[if_pos c];right;right;right;exact⟨rfl,h.2⟩
    ·rw[if_neg c];left;rfl
  ·simp only[hpd];by_cases c:q x
   ·rw[if_pos c]
   ·rw[if_neg c];constructor
    ·intro h;omega
    ·intro h;rw[h] at c;exact absurd hq.2 c
  ·simp only[hpd];rw[if_pos hq.1]
 have hs:=a.sol.tmp hp hin;have hle:leR T0 (tmp p T):=⟨by rw[vC];exact a.ge.1,fun i k=>by
  by_cases hk:k<(T.getD i []).length
  ·rw[iX p T hk];have h1:=hp.mono _ _ (a.ge.2 i k);by_cases c:at2 T0 i k = -3
   ·rw[bl];left;exact c
   ·have h2:=h0 i k (by rw[cH a.ge];exact hk) c;have e:p (at2 T0 i k)=at2 T0 i k:=by simp only[hpd];rw[if_pos h2]
    rw[e] at h1;exact h1
  ·have e1:at2 (tmp p T) i k=0:=by
    unfold at2;rw[gK,List.getD_eq_getElem?_getD (l:=List.map p _),List.getElem?_eq_none (by rw[List.length_map];omega)];rfl
   have e2:at2 T0 i k=0:=by
    unfold at2;rw[List.getD_eq_getElem?_getD (l:=T0.getD i []),List.getElem?_eq_none (by rw[cH a.ge];omega)];rfl
   rw[e1,e2];exact cP _⟩
 obtain⟨h1,-⟩:=a.le _ _ hs hle a.len;intro i k hk hn;have h2:=h1.2 i k;rw[iX p T hk] at h2;simp only[hpd] at h2;by_cases c:q (at2 T i k)
 ·exact c
 ·rw[if_neg c,bl] at h2;omega
def clD:Nat→D→List D
 | 0,_=>[]
 | f+1,d =>
  if d.kd=1 then [] else if d.kd=2 then [] else
  if wn (d.kid 0).tx=0 then [] else
  if wn (d.kid 0).tx=2 then clD f (d.kid 2)++clD f (d.kid 3) else
  if wn (d.kid 0).tx=3 then d.kid 1::(d.kids.drop 2).flatMap (clD f) else (d.kids.drop 1).flatMap (clD f)
theorem tX {u:D→List (Nat × Nat × Int)}{g:Nat}{t:D→Int}:∀{L:List D}{k:Nat}{x:D}{w:Nat × Nat × Int},x∈L→w∈u x→w∈upL u g t k L
 | x::L,k,y,w,hy,hw=>by
  rw[upL];rcases List.mem_cons.1 hy with rfl|hy
  ·exact List.mem_append.2 (.inl hw)
  ·exact List.mem_append.2 (.inr (List.mem_cons_of_mem _ (tX hy hw)))
theorem wC {u:D→List (Nat × Nat × Int)}{g:Nat}{t:D→Int}:∀{L:List D}{k j:Nat},j<L.length→∃v,(g,k+j,v)∈upL u g t k L
 | x::L,k,0,_=>⟨t x,by rw[upL];exact List.mem_append.2 (.inr List.mem_cons_self)⟩
 | x::L,k,j+1,h=>by
  obtain⟨v,hv⟩:=wC (L:=L) (k:=k+1) (j:=j) (u:=u) (g:=g) (t:=t) (by simpa using h);refine⟨v,?_⟩;rw[upL,show k+(j+1)=k+1+j by omega];exact List.mem_append.2 (.inr (List.mem_cons_of_mem _ hv))
theorem jp {sk:Sk}{ns:List Nat}{S:List Bool}{q:D}{g m:Nat}(hg:fkK sk q.key2=some g) (hm:ns[g]?=some m){k:Nat}(hk:k<m):∀(f:Nat) (d:D),okY sk ns f d→q∈clD f d→∀l,∃t,(g,k,t)∈upX sk S f d l
 | 0,_,h,_,_=>h.elim
 | f+1,d,hd,hq,l=>by
  rw[okY] at hd;rw[clD] at hq;rw[upX];by_cases c1:d.kd=1
  ·rw[if_pos c1] at hq;cases hq
  by_cases c2:d.kd=2
  ·rw[if_neg c1,if_pos c2] at hq;cases hq
  rw[if_neg c1,if_neg c2] at hq ⊢;obtain⟨-,-,h0,hd⟩:=(hd.resolve_left c1).resolve_left c2;by_cases c3:wn (d.kid 0).tx=0
  ·rw[if_pos c3] at hq;cases hq
  rw[if_neg c3] at hq ⊢;have hd:=hd.resolve_left c3;by_cases c4:wn (d.kid 0).tx=2
  ·rw[if_pos c4] at hq ⊢;obtain⟨-,-,k2,k3⟩:=hd.resolve_right (by rintro (h|h);exact absurd (c4.symm.trans h.1) (by decide);exact h.2.1 c4);rcases List.mem_append.1 hq with hq|hq
   ·obtain⟨t,h⟩:=jp hg hm hk f _ k2 hq l;exact⟨t,List.mem_append.2 (.inl h)⟩
   ·obtain⟨t,h⟩:=jp hg hm hk f _ k3 hq (l++[⟨(d.kid 1).tx,false,tmO (isX sk S f (d.kid 2) l)⟩]);exact⟨t,List.mem_append.2 (.inr h)⟩
  rw[if_neg c4] at hq ⊢;have hd:=hd.resolve_left fun h=>c4 h.1
  by_cases c5:wn (d.kid 0).tx=3
  ·rw[if_pos c5] at hq ⊢;obtain⟨-,g1,⟨g',g2,g3⟩,g4⟩:=hd.resolve_right fun h=>h.2.2.1 c5
   rcases List.mem_cons.1 hq with rfl|hq
   ·rw[hg] at g2;obtain rfl:=Option.some.inj g2;rw[hm] at g3;have e:=Option.some.inj g3;have hgo:gOf sk d=g:=by unfold gOf;rw[hg];rfl
    rw[hgo];obtain⟨v,hv⟩:=wC (u:=fun x=>upX sk S f x l) (g:=g) (t:=tmA (isX sk S f) l) (L:=d.kids.drop 2) (k:=0) (j:=k) (by rw[List.length_drop];omega);rw[Nat.zero_add] at hv;exact⟨v,hv⟩
   ·obtain⟨x,hx,hq⟩:=List.mem_flatMap.1 hq;obtain⟨t,h⟩:=jp hg hm hk f x (g4 x hx) hq l;exact⟨t,tX hx h⟩
  rw[if_neg c5] at hq ⊢;obtain⟨-,-,-,g4⟩:=hd.resolve_left fun h=>c5 h.1
  obtain⟨x,hx,hq⟩:=List.mem_flatMap.1 hq;obtain⟨t,h⟩:=jp hg hm hk f x (g4 x hx) hq l;exact⟨t,List.mem_flatMap.2 ⟨x,hx,h⟩⟩
def knB (l:List Bd):Prop:=∀b∈l,b.tm ≠ -3
theorem D4 {l:List Bd}(t:ByteArray) (h:knB l):(fdB l t).tm ≠ -3:=by
 induction l with
 | nil=>intro h;exact absurd (show (0:Int) = -3 from h) (by decide)
 | cons b l ih =>
  rw[fdB];split
  ·exact h b List.mem_cons_self
  ·exact ih fun c hc=>h c (List.mem_cons_of_mem _ hc)
theorem AR (b:Bool):tmO b ≠ -3:=by cases b<;>decide
theorem ET {is:D→List Bd→Bool}{l:List Bd}(h:knB l) (x:D):tmA is l x ≠ -3:=by
 unfold tmA;split
 ·exact D4 _ fun b hb=>h b (List.mem_reverse.1 hb)
 ·exact AR _
theorem nX {sk:Sk}{S:List Bool}:∀(f:Nat) (d:D){l:List Bd},knB l→∀u∈upX sk S f d l,u.2.2 ≠ -3
 | 0,_,_,_,u,hu=>by cases hu
 | f+1,d,l,hl,u,hu=>by
  rw[upX] at hu;split at hu
  ·cases hu
  split at hu
  ·cases hu
  split at hu
  ·cases hu
  split at hu
  ·rcases List.mem_append.1 hu with hu|hu
   ·exact nX f _ hl u hu
   ·refine nX f _ (fun b hb=>?_) u hu;rcases List.mem_append.1 hb with hb|hb
    ·exact hl b hb
    ·rw[List.mem_singleton.1 hb];exact AR _
  split at hu
  ·rcases lv hu with⟨x,hx,h⟩|⟨-,-,x,hx,h⟩
   ·exact nX f x hl u h
   ·rw[h];exact ET hl x
  ·obtain⟨x,hx,h⟩:=List.mem_flatMap.1 hu;exact nX f x hl u h
theorem EF {d:D}{r:List Int}(h:∀t∈r,t ≠ -3):knB (scB d r):=fun b hb=>by
 unfold scB at hb;rw[List.mem_iff_getElem] at hb;obtain⟨i,hi,rfl⟩:=hb;rw[List.getElem_zipWith];exact h _ (List.getElem_mem _)
structure Rch (f:Nat) (ds:List D):Prop where
 ok:∀d∈ds,okY (atF 0 ds) (ds.map fun d=>(d.kid 1).kids.length) f (d.kid 2)
 up:∀i,0<i→i<ds.length→∃j d q,j<i∧ds[j]?=some d∧q∈clD f (d.kid 2)∧fkK (atF 0 ds) q.key2=some i
theorem Rch.inD {f:Nat}{ds:List D}(h:Rch f ds):∀d∈ds,InD (atF 0 ds) f (ds.map fun d=>(d.kid 1).kids.length) d:=fun d hd S l u hu=>nw f _ (h.ok d hd) l u hu
theorem Rch.known {f:Nat}{ds:List D}(h:Rch f ds){T0 T:List (List Int)}{S:List Bool}(a:Lst (atF 0 ds) f ds T0 T S) (hn:T.map List.length=ds.map fun d=>(d.kid 1).kids.length) (h0:∀t∈T0.getD 0 [],t ≠ -3) :
  ∀(i:Nat),i<ds.length→∀t∈T.getD i [],t ≠ -3:=by
 intro i
 induction i using Nat.strongRecOn with
 | _ i ih =>
  intro hi t ht;by_cases hz:i=0
  ·subst hz;obtain⟨k,hk,rfl⟩:=cZ.1 ht;have h1:=a.ge.2 0 k;have h2:at2 T0 0 k ≠ -3:=h0 _ (cZ.2 ⟨k,by rw[cH a.ge];exact hk,rfl⟩);rw[bl] at h1;omega
  ·obtain⟨j,d,q,hj,hd,hq,hg⟩:=h.up i (by omega) hi;obtain⟨k,hk,rfl⟩:=cZ.1 ht;have hdm:=List.mem_of_getElem? hd;have hnl:(ds.map fun d=>(d.kid 1).kids.length)[i]?=some (T.getD i []).length:=by
    rw[← hn,List.getElem?_map];have hT:i<T.length:=by
     have:=congrArg List.length hn;simp only[List.length_map] at this;omega
    rw[List.getD_eq_getElem?_getD,gE hT];rfl
   obtain⟨t,hu⟩:=jp (S:=S) hg hnl hk f (d.kid 2) (h.ok d hdm) hq (scB d (T.getD j []));have h1:=(a.sol j d hd).1 _ hu;have h2:=nX f (d.kid 2) (EF (d:=d) (ih j hj (by omega))) _ hu;simp only at h1 h2;rw[bl] at h1;omega
theorem kA {sk:Sk}{S:List Bool}(hS:∀i,S.getD i false=false):∀(f:Nat) (d:D){l:List Bd},(∀b∈l,b.tm ≠ -2)→isX sk S f d l=false
 | 0,_,_,_=>rfl
 | f+1,d,l,hl=>by
  rw[isX];split
  ·rfl
  split
  ·have:∀(l:List Bd) (t:ByteArray),(∀b∈l,b.tm ≠ -2)→(fdB l t).tm ≠ -2:=fun l t=>by
    induction l with
    | nil=>intro _ h;exact absurd (show (0:Int) = -2 from h) (by decide)
    | cons b l ih =>
     intro h;rw[fdB];split
     ·exact h b List.mem_cons_self
     ·exact ih fun c hc=>h c (List.mem_cons_of_mem _ hc)
   exact beq_false_of_ne (this _ _ fun b hb=>hl b (List.mem_reverse.1 hb))
  split
  ·rfl
  split
  ·have e:=kA (sk:=sk) hS f (d.kid 2) hl;rw[e,Bool.false_or];refine kA hS f _ fun b hb=>?_
   rcases List.mem_append.1 hb with hb|hb
   ·exact hl b hb
   ·rw[List.mem_singleton.1 hb];exact (show (-1:Int) ≠ -2 by decide)
  split
  ·exact hS _
  ·rw[List.any_eq_false];intro x hx;rw[kA hS f x hl];decide
theorem Fw {sk:Sk}{S:List Bool}(hS:∀i,S.getD i false=false){f:Nat}{l:List Bd}(h2:∀b∈l,b.tm = -1) (x:D):tmA (isX sk S f) l x = -1:=by
 have hf:∀(l:List Bd) (t:ByteArray),(∀b∈l,b.tm = -1)→(fdB l t).pr=true→(fdB l t).tm = -1:=fun l t=>by
  induction l with
  | nil=>intro _ h;cases h
  | cons b l ih =>
   intro h;rw[fdB];split
   ·exact fun _=>h b List.mem_cons_self
   ·exact ih fun c hc=>h c (List.mem_cons_of_mem _ hc)
 unfold tmA;split
 ·rename_i h;exact hf _ _ (fun b hb=>h2 b (List.mem_reverse.1 hb)) h.2
 ·rw[kA hS f x fun b hb=>by rw[h2 b hb];decide];rfl
theorem mz {sk:Sk}{S:List Bool}(hS:∀i,S.getD i false=false):∀(f:Nat) (d:D){l:List Bd},(∀b∈l,b.tm = -1)→∀u∈upX sk S f d l,u.2.2 = -1
 | 0,_,_,_,u,hu=>by cases hu
 | f+1,d,l,hl,u,hu=>by
  rw[upX] at hu;split at hu
  ·cases hu
  split at hu
  ·cases hu
  split at hu
  ·cases hu
  split at hu
  ·rcases List.mem_append.1 hu with hu|hu
   ·exact mz hS f _ hl u hu
   ·refine mz hS f _ (fun b hb=>?_) u hu;rcases List.mem_append.1 hb with hb|hb
    ·exact hl b hb
    ·rw[List.mem_singleton.1 hb,kA hS f _ fun b hb=>by rw[hl b hb];decide];rfl
  split at hu
  ·rcases lv hu with⟨x,hx,h⟩|⟨-,-,x,hx,h⟩
   ·exact mz hS f x hl u h
   ·rw[h];exact Fw hS hl x
  ·obtain⟨x,hx,h⟩:=List.mem_flatMap.1 hu;exact mz hS f x hl u h
theorem Lst.still {sk:Sk}{f:Nat}{ds:List D}{T0 T:List (List Int)}{S:List Bool}(a:Lst sk f ds T0 T S) (hin:∀d∈ds,InD sk f (T.map List.length) d) (h0:∀i,-2 ∉ T0.getD i []) :
  (∀i,-2 ∉ T.getD i [])∧∀i,S.getD i false=false:=by
 have hrow:∀i,(T.map fun r=>List.replicate r.length (-1:Int)).getD i []=List.replicate (T.getD i []).length (-1):=fun i=>by
  rw[List.getD_eq_getElem?_getD,List.getElem?_map,List.getD_eq_getElem?_getD];cases T[i]?<;>rfl
 have hlen:(T.map fun r=>List.replicate r.length (-1:Int)).map List.length=T.map List.length:=by
  rw[List.map_map];exact List.map_congr_left fun r _=>by simp
 have hat:∀i k,k<(T.getD i []).length→at2 (T.map fun r=>List.replicate r.length (-1:Int)) i k = -1:=fun i k hk=>by
  unfold at2;rw[hrow,List.getD_eq_getElem?_getD,gE (by simpa using hk)];simp
 have hS:∀i,(List.replicate ds.length false).getD i false=false:=fun i=>by
  rw[List.getD_eq_getElem?_getD,List.getElem?_replicate];split<;>rfl
 obtain⟨h1,h2⟩:=a.le (T.map fun r=>List.replicate r.length (-1)) (List.replicate ds.length false) (fun i d hd=>by
   have hsc:∀b∈scB d ((T.map fun r=>List.replicate r.length (-1:Int)).getD i []),b.tm = -1:=fun b hb=>by
    rw[hrow] at hb;unfold scB at hb;rw[List.mem_iff_getElem] at hb;obtain⟨i,hi,rfl⟩:=hb;rw[List.getElem_zipWith];simp
   refine⟨fun u hu=>?_,fun h=>?_⟩
   ·obtain⟨-,k2⟩:=yX (hin d (List.mem_of_getElem? hd) _ _ u hu);rw[mz hS f _ hsc u hu,hat _ _ k2];exact cP _
   ·rcases h with h|h
    ·rw[kA hS f _ fun b hb=>by rw[hsc b hb];decide] at h;cases h
    ·rw[hrow] at h;exact absurd (List.eq_of_mem_replicate h) (by decide))
  ⟨by rw[hlen];exact a.ge.1,fun i k=>by
   by_cases hk:k<(T.getD i []).length
   ·rw[hat i k hk,bl];have:at2 T0 i k ≠ -2:=fun c=>h0 i (cZ.2 ⟨k,by rw[cH a.ge];exact hk,c⟩)
    right;right;right;exact⟨rfl,this⟩
   ·have e1:at2 (T.map fun r=>List.replicate r.length (-1:Int)) i k=0:=by
     unfold at2;rw[hrow,List.getD_eq_getElem?_getD,List.getElem?_eq_none (by simpa using hk)];rfl
    have e2:at2 T0 i k=0:=by
     unfold at2;rw[List.getD_eq_getElem?_getD (l:=T0.getD i []),List.getElem?_eq_none (by rw[cH a.ge];omega)];rfl
    rw[e1,e2];exact cP _⟩ (by simp)
 refine⟨fun i hi=>?_,fun i=>?_⟩
 ·obtain⟨k,hk,e⟩:=cZ.1 hi;have:=h1.2 i k;rw[hat i k hk,e,bl] at this;omega
 ·cases hb:S.getD i false with
  | false=>rfl
  | true=>exact absurd (h2.2 i hb) (by rw[hS];decide)
def srt (ds:List D) (g:List Bool):List (List Int):=(ds.map fun d=>List.replicate (d.kid 1).kids.length (-3)).set 0 (giv 0 g)
theorem jk:∀(a b:List Bool),cnT (a++b)=cnT a+cnT b
 | [],b=>by simp[cnT]
 | x::a,b=>by
  rw[List.cons_append,cnT,cnT,jk a b];split<;>omega
theorem rk {g:List Bool}{i j:Nat}(h:i≤j):cnT (g.take i)≤cnT (g.take j):=by
 have:g.take j=g.take i++(g.drop i).take (j-i):=by rw[← List.take_add];congr 1;omega
 rw[this,jk];omega
theorem AB {g:List Bool}{i:Nat}(h:i<g.length) (ht:g[i]=true):cnT (g.take (i+1))=cnT (g.take i)+1:=by
 rw[List.take_add_one,gE h,Option.toList_some,jk,ht];rfl
theorem fy:∀(g:List Bool) (n k:Nat) (h:k<g.length),(giv n g).getD k 0=if g[k]=true then ((n+cnT (g.take k):Nat):Int) else -2
 | b::g,n,0,_=>by
  rw[giv];cases b<;>simp[cnT]
 | b::g,n,k+1,h=>by
  have ih1:=fy g n k (by simpa using h);have ih2:=fy g (n+1) k (by simpa using h);rw[giv];cases b with
  | true =>
   simp only[if_true,List.getD_cons_succ,ih2,List.getElem_cons_succ,List.take_succ_cons,cnT];rw[show n+1+cnT (g.take k)=n+(cnT (g.take k)+1) by omega]
  | false =>
   simp only[Bool.false_eq_true,if_false,List.getD_cons_succ,ih1,List.getElem_cons_succ,List.take_succ_cons,cnT]
theorem cM {ds:List D}{g:List Bool}(h:0<ds.length):(srt ds g).getD 0 []=giv 0 g:=by
 unfold srt;rw[List.getD_eq_getElem?_getD,sS (by simpa using h)];rfl
theorem px {ds:List D}{g:List Bool}{i:Nat}(hi:i≠0):∀t∈(srt ds g).getD i [],t = -3:=by
 intro t ht;unfold srt at ht;rw[List.getD_eq_getElem?_getD,sN (Ne.symm hi),List.getElem?_map] at ht;cases hd:ds[i]? with
 | none=>rw[hd] at ht;cases ht
 | some d=>rw[hd] at ht;exact List.eq_of_mem_replicate ht
theorem pn {ds:List D}{g:List Bool}(h:0<ds.length) (hg:g.length=(((ds.getD 0 .z0)).kid 1).kids.length):(srt ds g).map List.length=ds.map fun d=>(d.kid 1).kids.length:=by
 unfold srt;cases ds with
 | nil=>simp at h
 | cons d ds =>
  simp only[List.getD_cons_zero] at hg;simp only[List.map_cons,List.set_cons_zero,dG,hg,List.map_map];congr 1;exact List.map_congr_left fun x _=>by simp
theorem At {g:List Bool}:∀{n:Nat},∀t∈giv n g,t ≠ -3:=by
 induction g with
 | nil=>intro n t h;cases h
 | cons b g ih =>
  intro n t h;rw[giv] at h;split at h
  ·rcases List.mem_cons.1 h with rfl|h
   ·omega
   ·exact ih t h
  ·rcases List.mem_cons.1 h with rfl|h
   ·omega
   ·exact ih t h
def psi (n:Nat) (t:Int):Int:=if 0≤t∧(n:Int)≤t then t+1 else t
theorem qm (n:Nat):Tmk (psi n):=by
 refine⟨fun a b h=>?_,fun a=>?_,?_⟩
 ·rw[bl] at h ⊢;unfold psi;split<;>split<;>omega
 ·unfold psi;split<;>omega
 ·unfold psi;rw[if_neg (by omega)]
structure Cgr (f:Nat) (ds:List D):Prop where
 rch:Rch f ds
 pos:0<ds.length
theorem Lst.lens {f:Nat}{ds:List D}{g:List Bool}{T:List (List Int)}{S:List Bool}(h:0<ds.length) (hg:g.length=(((ds.getD 0 .z0)).kid 1).kids.length) (a:Lst (atF 0 ds) f ds (srt ds g) T S):T.map List.length=ds.map fun d=>(d.kid 1).kids.length:=a.ge.1.symm.trans (pn h hg)
theorem gX {ds:List D}{T:List (List Int)}(h:T.map List.length=ds.map fun d=>(d.kid 1).kids.length):T.length=ds.length:=by
 have:=congrArg List.length h;simpa using this
theorem Lst.allGiven {f:Nat}{ds:List D}(c:Cgr f ds){g:List Bool}{T:List (List Int)}{S:List Bool}(hg:g.length=(((ds.getD 0 .z0)).kid 1).kids.length) (hall:∀b∈g,b=true) (a:Lst (atF 0 ds) f ds (srt ds g) T S) :
  (∀i,-2 ∉ T.getD i [])∧∀i,S.getD i false=false:=by
 refine a.still (by rw[a.lens c.pos hg];exact c.rch.inD) fun i hi=>?_
 by_cases h0:i=0
 ·subst h0;rw[cM c.pos] at hi;obtain⟨k,hk,e⟩:=List.getElem_of_mem hi;rw[dG] at hk;have h1:=fy g 0 k hk;rw[List.getD_eq_getElem?_getD,gE (by rw[dG];exact hk),Option.getD_some,e,if_pos (hall _ (List.getElem_mem hk))] at h1;omega
 ·exact absurd (px h0 _ hi) (by decide)
theorem Lst.noneGiven {f:Nat}{ds:List D}(c:Cgr f ds){g:List Bool}{T:List (List Int)}{S:List Bool}(hg:g.length=(((ds.getD 0 .z0)).kid 1).kids.length) (hno:∀b∈g,b=false) (a:Lst (atF 0 ds) f ds (srt ds g) T S) :
  ∀t∈T.getD 0 [],t = -2:=by
 intro t ht;obtain⟨k,hk,rfl⟩:=cZ.1 ht;have hl:(T.getD 0 []).length=g.length:=by rw[← cH a.ge,cM c.pos,dG]
 have h1:=a.ge.2 0 k;have h2:at2 (srt ds g) 0 k = -2:=by
  unfold at2;rw[cM c.pos,fy g 0 k (by omega),if_neg];rw[hno _ (List.getElem_mem _)];decide
 rw[h2,bl] at h1;omega
theorem Lst.oneLess {f:Nat}{ds:List D}(c:Cgr f ds){g:List Bool}{at':Nat}{T U:List (List Int)}{S R:List Bool}(hg:g.length=(((ds.getD 0 .z0)).kid 1).kids.length) (hat:at'<g.length) (htr:g[at']=true)
  (a:Lst (atF 0 ds) f ds (srt ds g) T S) (b:Lst (atF 0 ds) f ds (srt ds (g.set at' false)) U R) :
  ∀i k,i<T.length→k<(T.getD i []).length→leT (at2 T i k) (psi (cnT (g.take at')) (at2 U i k))∧at2 T i k ≠ -3∧at2 U i k ≠ -3:=by
 have hg2:(g.set at' false).length=(((ds.getD 0 .z0)).kid 1).kids.length:=by rw[List.length_set];exact hg
 have hnT:=a.lens c.pos hg;have hnU:=b.lens c.pos hg2;have hinU:∀d∈ds,InD (atF 0 ds) f (U.map List.length) d:=by rw[hnU];exact c.rch.inD
 have hs:=b.sol.tmp (qm (cnT (g.take at'))) hinU;have hrl:∀i,(T.getD i []).length=(U.getD i []).length:=fun i=>by
  have h1:=congrArg (fun l=>l.getD i 0) (hnT.trans hnU.symm);simp only[List.getD_eq_getElem?_getD,List.getElem?_map] at h1 ⊢;cases h2:T[i]?<;>cases h3:U[i]?<;>simp_all
 have hle:leR (srt ds g) (tmp (psi (cnT (g.take at'))) U):=⟨by rw[vC,hnU,pn c.pos hg],fun i k=>by
  by_cases h0:i=0
  ·subst h0;have e0:at2 (srt ds g) 0 k=(giv 0 g).getD k 0:=by unfold at2;rw[cM c.pos]
   have e1:at2 (srt ds (g.set at' false)) 0 k=(giv 0 (g.set at' false)).getD k 0:=by unfold at2;rw[cM c.pos]
   have hl:(U.getD 0 []).length=g.length:=by rw[← cH b.ge,cM c.pos,dG,List.length_set]
   by_cases hk:k<g.length
   ·rw[iX _ _ (by omega)];have h1:=b.ge.2 0 k;rw[e1,fy _ 0 k (by rw[List.length_set];exact hk),List.getElem_set] at h1;rw[e0,fy g 0 k hk];by_cases hka:at'=k
    ·rw[if_pos hka] at h1;have h2:at2 U 0 k = -2:=by rw[bl] at h1;simp at h1;omega
     rw[h2,(((qm _).dyn _).2 rfl),bl];omega
    ·rw[if_neg hka] at h1;by_cases hgk:g[k]=true
     ·rw[if_pos hgk] at h1 ⊢;have h2:=(qm (cnT (g.take at'))).mono _ _ h1;have e2:psi (cnT (g.take at')) ((0+cnT ((g.set at' false).take k):Nat):Int)=((0+cnT (g.take k):Nat):Int):=by
       by_cases hlt:k<at'
       ·have h3:(g.set at' false).take k=g.take k:=by rw[List.take_set_of_le (by omega)]
        have h4:=rk (g:=g) (i:=k+1) (j:=at') (by omega);rw[AB hk hgk] at h4;rw[h3];unfold psi;rw[if_neg (by omega)]
       ·have h3:(g.set at' false).take k=(g.take k).set at' false:=by rw[List.take_set]
        have h5:cnT ((g.take k).set at' false)+1=cnT (g.take k):=by
         have h6:at'<(g.take k).length:=by rw[List.length_take];omega
         have h7:(g.take k)[at']=true:=by rw[List.getElem_take];exact htr
         rw[List.set_eq_take_append_cons_drop,if_pos h6]
         conv=>rhs;rw[← List.take_append_drop at' (g.take k),dC h6,h7]
         rw[jk,jk,cnT,cnT];simp only[Bool.false_eq_true,if_false,if_true];omega
        have h4:=rk (g:=g) (i:=at'+1) (j:=k) (by omega);rw[AB hat htr] at h4;rw[h3];unfold psi;rw[if_pos (by omega)];omega
      rw[e2] at h2;exact h2
     ·rw[if_neg hgk] at h1 ⊢;have h2:at2 U 0 k = -2:=by rw[bl] at h1;simp at h1;omega
      rw[h2,(((qm _).dyn _).2 rfl)];exact cP _
   ·have e2:(giv 0 g).getD k 0=0:=by
     rw[List.getD_eq_getElem?_getD,List.getElem?_eq_none (by rw[dG];omega)];rfl
    have e3:at2 (tmp (psi (cnT (g.take at'))) U) 0 k=0:=by
     unfold at2;rw[gK,List.getD_eq_getElem?_getD (l:=List.map _ _),List.getElem?_eq_none (by rw[List.length_map];omega)];rfl
    rw[e0,e2,e3];exact cP _
  ·by_cases hk:k<((srt ds g).getD i []).length
   ·have e0:at2 (srt ds g) i k = -3:=px h0 _ (cZ.2 ⟨k,hk,rfl⟩);rw[e0,bl];left;rfl
   ·have e2:at2 (srt ds g) i k=0:=by
     unfold at2;rw[List.getD_eq_getElem?_getD (l:=(srt ds g).getD i []),List.getElem?_eq_none (by omega)];rfl
    have e3:at2 (tmp (psi (cnT (g.take at'))) U) i k=0:=by
     unfold at2;rw[gK,List.getD_eq_getElem?_getD (l:=List.map _ _),List.getElem?_eq_none (by rw[List.length_map,← hrl,← cH a.ge];omega)];rfl
    rw[e2,e3];exact cP _⟩
 obtain⟨h1,-⟩:=a.le _ _ hs hle b.len;intro i k hi hk;have hiT:i<ds.length:=by rw[← gX hnT];exact hi
 have h2:=h1.2 i k;rw[iX _ _ (by rw[← hrl];exact hk)] at h2;refine⟨h2,c.rch.known a hnT (by rw[cM c.pos];exact At) i hiT _ (cZ.2 ⟨k,hk,rfl⟩),c.rch.known b hnU (by rw[cM c.pos];exact At) i hiT _ (cZ.2 ⟨k,by rw[← hrl];exact hk,rfl⟩)⟩
theorem Lst.small {f:Nat}{ds:List D}(c:Cgr f ds){g:List Bool}{T:List (List Int)}{S:List Bool}(hg:g.length=(((ds.getD 0 .z0)).kid 1).kids.length) (a:Lst (atF 0 ds) f ds (srt ds g) T S) :
  ∀i k,k<(T.getD i []).length → -3≤at2 T i k∧at2 T i k≤g.length:=by
 intro i k hk;by_cases h3:at2 T i k = -3
 ·rw[h3];omega
 refine a.vals (by rw[a.lens c.pos hg];exact c.rch.inD) (fun t => -3≤t∧t≤g.length) (by constructor<;>omega) (fun i k hk h3=>?_) i k hk h3;by_cases h0:i=0
 ·subst h0;have e0:at2 (srt ds g) 0 k=(giv 0 g).getD k 0:=by unfold at2;rw[cM c.pos]
  rw[cM c.pos,dG] at hk;rw[e0,fy g 0 k hk];split
  ·have:=qg (g.take k);rw[List.length_take] at this;omega
  ·omega
 ·exact absurd (px h0 _ (cZ.2 ⟨k,hk,rfl⟩)) h3
abbrev Key:=Int × ByteArray
instance decK (k:Key) (l:List Key):Decidable (k∈l):=decidable_of_iff (l.any (fun a=>decide (k=a))=true) (by simp)
def mkK (l:List (Key × V)):List Value:=l.map fun p=>.agg #[.int .i64 p.1.1,.string p.1.2]
def mkV (l:List (Key × V)):List V:=l.map fun p=>p.2
def fkV:List (Key × V)→Key→Option V
 | [],_=>none
 | p::r,k=>if k=p.1 then some p.2 else fkV r k
theorem qZ:∀(sh:List (Key × V)) (k:Key),eT (some [0,1]) (mkK sh) (mkV sh) (.agg #[.int .i64 k.1,.string k.2])=some (fkV sh k)
 | [],k=>rfl
 | p::sh,k=>by
  obtain⟨a,s⟩:=k;obtain⟨⟨b,t⟩,x⟩:=p;have ih:=qZ sh (a,s);simp only[mkK,mkV] at ih;simp only[mkK,mkV,List.map_cons,eT,fM,fkV];by_cases h:(a,s)=(b,t)
  ·simp only[h,decide_true,if_true]
  ·simp only[h,decide_false,if_false];exact ih
theorem vL:∀(sh:List (Key × V)) (k:Key) (v:V),fkV sh k=none→sW (some [0,1]) (mkK sh) (mkV sh) (.agg #[.int .i64 k.1,.string k.2]) v=some (mkK sh++[.agg #[.int .i64 k.1,.string k.2]],mkV sh++[v])
 | [],k,v,_=>rfl
 | p::sh,k,v,h=>by
  obtain⟨a,s⟩:=k;obtain⟨⟨b,t⟩,x⟩:=p;simp only[fkV] at h;split at h
  ·cases h
  rename_i hne;have ih:=vL sh (a,s) v h;simp only[mkK,mkV] at ih;simp only[mkK,mkV,List.map_cons,sW,fM,hne,decide_false,ih,Option.map_some,List.cons_append]
theorem n9 {h:List O}{m:Nat}{al:List (Key × V)}(hm:h[m]?=some (.mapo (mkK al) (mkV al))) (d:D) (z:V):jU (.mref m) (some [0,1]) d.key z false h=some ((fkV al d.key2).getD z,h):=by
 have:=qZ al d.key2;simp only[D.key2] at this;rw[bE,sf];simp only[cY,hm,kX,this,Option.map_some,D.key2];cases fkV al (d.nu,d.tx)<;>rfl
theorem wO {h:List O}{m:Nat}{al:List (Key × V)}(hm:h[m]?=some (.mapo (mkK al) (mkV al))){d:D}(hn:fkV al d.key2=none) (v:V) :
  DA (.mref m) (some [0,1]) d.key v h=some (az,h.set m (.mapo (mkK (al++[(d.key2,v)])) (mkV (al++[(d.key2,v)])))):=by
 have:=vL al d.key2 v hn;simp only[D.key2] at this;rw[qI,sf];simp only[cY,hm,ua,this,Option.map_some];simp[mkK,mkV,D.key2]
def seK (l:List Key):List (Key × V):=l.map fun k=>(k,.c (.bool true))
theorem pN (l:List Key) (k:Key):fkV (seK l) k=if k∈l then some (.c (.bool true)) else none:=by
 induction l with
 | nil=>rfl
 | cons a l ih =>
  unfold seK at ih;simp only[seK,List.map_cons,fkV];by_cases h:k=a
  ·rw[if_pos h,if_pos (by simp[h])]
  ·rw[if_neg h,ih];simp[h]
theorem rm (l:List Key) (k:Key):seK (l++[k])=seK l++[(k,.c (.bool true))]:=by simp[seK]
def i7 (d:D):List D:=if d.kd≠3 then [] else if wn (d.kid 0).tx=0 then [] else if wn (d.kid 0).tx=2∨wn (d.kid 0).tx=3 then d.kids.drop 2 else d.kids.drop 1
def icD (d:D):Bool:=d.kd==3&&wn (d.kid 0).tx==3
def okZ:Nat→D→Prop
 | 0,_=>False
 | f+1,d=>(d.kd≠3∧(d.kd=1∨d.kd=2))∨(d.kd=3∧0<d.kids.length∧(wn (d.kid 0).tx=2→d.kids.length=4)∧(wn (d.kid 0).tx=3→2≤d.kids.length)∧∀x∈i7 d,okZ f x)
theorem wI {f:Nat}{d:D}(h:okZ (f+1) d):clD (f+1) d=(if icD d=true then [d.kid 1] else [])++(i7 d).flatMap (clD f):=by
 rw[okZ] at h;rw[clD];unfold icD i7;rcases h with⟨h3,h⟩|⟨h3,h0,h4,h2,-⟩
 ·rw[if_pos h3];have e3:(d.kd==3)=false:=beq_false_of_ne h3;rw[e3];rcases h with h|h
  ·rw[if_pos h];rfl
  ·rw[if_neg (by omega),if_pos h];rfl
 ·rw[if_neg (by omega),if_neg (by omega),h3];simp only[beq_self_eq_true,Bool.true_and,ne_eq,not_true_eq_false,if_false];by_cases c0:wn (d.kid 0).tx=0
  ·rw[if_pos c0,c0];rfl
  rw[if_neg c0,if_neg c0];by_cases c2:wn (d.kid 0).tx=2
  ·have e3:(wn (d.kid 0).tx==3)=false:=by simp[c2]
   rw[if_pos c2,e3,if_neg (by decide),if_pos (.inl c2)];have h4:=h4 c2;have e:d.kids.drop 2=[d.kid 2,d.kid 3]:=by
    refine List.ext_getElem (by simp[h4]) fun i h1 h2=>?_
    rw[List.getElem_drop];simp only[lC,List.length_nil] at h2
    match i,h2 with
    | 0,_=>simp[D.kid,h4]
    | 1,_=>simp[D.kid,h4]
   rw[e];simp
  rw[if_neg c2];by_cases c3:wn (d.kid 0).tx=3
  ·have e3:(wn (d.kid 0).tx==3)=true:=by simp[c3]
   rw[if_pos c3,e3,if_pos rfl,if_pos (.inr c3)];rfl
  ·have e3:(wn (d.kid 0).tx==3)=false:=beq_false_of_ne c3;rw[if_neg c3,e3,if_neg (by decide),if_neg (by rintro (h|h);exact c2 h;exact c3 h)];rfl
def adF (s:List D × List Key) (q:D):List D × List Key:=if q.key2∈s.2 then s else (s.1++[q],s.2++[q.key2])
theorem iZ:∀(l:List D) (s:List D × List Key),(l.foldl adF s).1.length≤s.1.length+l.length
 | [],s=>nL _
 | q::l,s=>by
  rw[List.foldl_cons];have:=iZ l (adF s q);unfold adF at this;rw[lC];unfold adF;split
  ·rename_i h;rw[if_pos h] at this;omega
  ·rename_i h;rw[if_neg h] at this;simp only[lA,List.length_singleton] at this;omega
theorem Ha (d:D) (h:d.kd=3→0<d.kids.length){n:Nat}:bg (n+1) 191 [d.v] (.c (.bool (icD d))):=by
 refine aA rfl rfl rfl (by kernel_rfl) ⟨rfl,rfl⟩ (by simp[V.lows]) ?_;have hsl:=aa d.kids;unfold icD;by_cases h3:d.kd=3
 ·have b3:(d.kd==3)=true:=by simp[h3]
  have h0:=h h3;have h0i:(0:Int)<d.kids.length:=by omega
  have v0:((D.vs d.kids)[0]'(by rw[aa];exact h0))=(d.kid 0).v:=ah _;rw[b3,Bool.true_and];generalize call X E n=cf at *;by_cases w3:wn (d.kid 0).tx=3
  ·simp -implicitDefEqProofs [x191_w,x191_r,b3,hsl,h0,h0i,v0,w3]
  ·have w3b:(wn (d.kid 0).tx==3)=false:=beq_false_of_ne w3;simp -implicitDefEqProofs [x191_w,x191_r,b3,hsl,h0,h0i,v0,w3b]
 ·have b3:(d.kd==3)=false:=beq_false_of_ne h3;rw[b3];generalize call X E n=cf at *;simp -implicitDefEqProofs [x191_w,x191_r,b3]
theorem F4 (d:D) (h:d.kd=3→0<d.kids.length) (h2:d.kd=3→wn (d.kid 0).tx=2∨wn (d.kid 0).tx=3→2≤d.kids.length){n:Nat}:∃i,bg (n+1) 192 [d.v] (.sl (D.vs (i7 d)) i):=by
 have hsl:=aa d.kids;have hz:=D.hz d.kids;have hlow:=D.lows 0;have hd1:∀k,(D.vs d.kids).drop k=D.vs (d.kids.drop k):=fun k=>by rw[ar,ar,List.map_drop]
 have hd0:(D.vs d.kids).tail=D.vs (d.kids.drop 1):=by rw[← hd1 1,List.drop_one]
 unfold i7;by_cases h3:d.kd=3;rotate_left
 ·have b3:(d.kd != 3)=true:=by simp[h3]
  rw[if_pos h3];refine⟨.nil,aA rfl rfl rfl (by kernel_rfl) ⟨rfl,rfl⟩ (by simp[V.lows]) ?_⟩;generalize call X E n=cf at *;simp -implicitDefEqProofs [x192_w,x192_r,b3];exact⟨rfl,rfl⟩
 have b3:(d.kd != 3)=false:=by simp[h3]
 rw[if_neg (by simp[h3])];have h0:=h h3;have h0i:(0:Int)<d.kids.length:=by omega
 have v0:((D.vs d.kids)[0]'(by rw[aa];exact h0))=(d.kid 0).v:=ah _;by_cases w0:wn (d.kid 0).tx=0
 ·rw[if_pos w0];refine⟨.nil,aA rfl rfl rfl (by kernel_rfl) ⟨rfl,rfl⟩ (by simp[V.lows]) ?_⟩;generalize call X E n=cf at *;simp -implicitDefEqProofs [x192_w,x192_r,b3,hsl,h0,h0i,v0,w0];exact⟨rfl,rfl⟩
 rw[if_neg w0];have w0b:(wn (d.kid 0).tx==0)=false:=by simp[w0]
 by_cases w2:wn (d.kid 0).tx=2
 ·rw[if_pos (.inl w2)];have h2:=h2 h3 (.inl w2);have h2i:(2:Int)≤d.kids.length:=by omega
  have hl2:=hlow (d.kids.drop 2);refine⟨.any,aA rfl rfl rfl (by kernel_rfl) ⟨rfl,rfl⟩ (by simp[V.lows]) ?_⟩;generalize call X E n=cf at *;have hd2:=hd1 2;simp -implicitDefEqProofs [x192_w,x192_r,b3,hsl,h0,h0i,v0,w2,h2,h2i,hz,hd2];simp[V.low,hl2,SI.low]
 by_cases w3:wn (d.kid 0).tx=3
 ·rw[if_pos (.inr w3)];have w2b:(wn (d.kid 0).tx==2)=false:=by simp[w2]
  have h2:=h2 h3 (.inr w3);have h2i:(2:Int)≤d.kids.length:=by omega
  have hl2:=hlow (d.kids.drop 2);refine⟨.any,aA rfl rfl rfl (by kernel_rfl) ⟨rfl,rfl⟩ (by simp[V.lows]) ?_⟩;generalize call X E n=cf at *;have hd2:=hd1 2;simp -implicitDefEqProofs [x192_w,x192_r,b3,hsl,h0,h0i,v0,w3,h2,h2i,hz,hd2];simp[V.low,hl2,SI.low]
 rw[if_neg (by rintro (h|h);exact w2 h;exact w3 h)];have w2b:(wn (d.kid 0).tx==2)=false:=by simp[w2]
 have w3b:(wn (d.kid 0).tx==3)=false:=by simp[w3]
 have h1:1≤d.kids.length:=by omega
 have h1i:(1:Int)≤d.kids.length:=by omega
 have hl2:=hlow (d.kids.drop 1);refine⟨.any,aA rfl rfl rfl (by kernel_rfl) ⟨rfl,rfl⟩ (by simp[V.lows]) ?_⟩;generalize call X E n=cf at *;simp -implicitDefEqProofs [x192_w,x192_r,b3,hsl,h0,h0i,v0,w0b,w2b,w3b,h1,h1i,hz,hd0];simp[V.low,hl2,SI.low]
def fdD (ks:List D) (k:Key):Option D:=ks.find? fun d=>decide ((d.kid 0).key2=k)
def kys (ds:List D):List Key:=ds.map fun d=>(d.kid 0).key2
def dX (ks:List D) (out:List D) (q:D):List D:=if q.key2∈kys out then out else out++[(fdD ks q.key2).getD .z0]
def vm (ks:List D) (f:Nat):Nat→Nat→List D→List D
 | 0,_,out=>out
 | m+1,i,out=>match out[i]? with
  | some d=>vm ks f m (i+1) ((clD f (d.kid 2)).foldl (dX ks) out)
  | none=>out
def ca (t:D):List D:=vm t.kids t.sz (t.kids.length+1) 0 [t.kid 0]
theorem gh {ks:List D}{k:Key}{d:D}(h:fdD ks k=some d):d∈ks∧(d.kid 0).key2=k :=
 ⟨List.mem_of_find?_eq_some h,by have:=List.find?_some h;simpa using this⟩
structure RI (ks:List D) (f i:Nat) (out:List D):Prop where
 mem:∀d∈out,d∈ks
 nd:(kys out).Nodup
 up:∀k,0<k→k<out.length→∃j d q,j<k∧out[j]?=some d∧q∈clD f (d.kid 2)∧(kys out)[k]?=some q.key2
 cl:∀j d,j<i→out[j]?=some d→∀q∈clD f (d.kid 2),q.key2∈kys out
theorem eM (l:List D) (d:D):kys (l++[d])=kys l++[(d.kid 0).key2]:=by simp[kys]
theorem jo (l:List D):(kys l).length=l.length:=by simp[kys]
theorem kE {l:List Key}{k:Key}(h:l.Nodup) (hk:k ∉ l):(l++[k]).Nodup:=by
 rw[List.nodup_append];refine⟨h,by simp,fun a ha b hb=>?_⟩;rw[List.mem_singleton.1 hb];intro e;rw[e] at ha;exact hk ha
theorem pU {ks out:List D}{q:D}(hq:∃d,fdD ks q.key2=some d):q.key2∈kys (dX ks out q)∧(∀k∈kys out,k∈kys (dX ks out q))∧out.length≤(dX ks out q).length∧∀(i:Nat) (d:D),out[i]?=some d→(dX ks out q)[i]?=some d:=by
 obtain⟨d,hd⟩:=hq;unfold dX;by_cases h:q.key2∈kys out
 ·rw[if_pos h];exact⟨h,fun k hk=>hk,nL _,fun _ _ h=>h⟩
 ·rw[if_neg h,hd];simp only[Option.getD_some,eM];refine⟨by simp[(gh hd).2],fun k hk=>List.mem_append.2 (.inl hk),by simp,fun i x hx=>?_⟩;rw[aL (gS.1 hx).1];exact hx
theorem E6 {ks:List D}{f i:Nat}{d:D}:∀(l:List D) (out:List D),(∀q∈l,q∈clD f (d.kid 2))→(∀q∈l,∃x,fdD ks q.key2=some x)→RI ks f i out→out[i]?=some d →
  RI ks f i (l.foldl (dX ks) out)∧(∀k∈kys out,k∈kys (l.foldl (dX ks) out))∧(∀q∈l,q.key2∈kys (l.foldl (dX ks) out))∧(∀(j:Nat) (x:D),out[j]?=some x→(l.foldl (dX ks) out)[j]?=some x)
 | [],out,_,_,h,hd=>⟨h,fun _ h=>h,fun q hq=>absurd hq (by simp),fun _ _ h=>h⟩
 | q::l,out,hc,hf,h,hd=>by
  rw[List.foldl_cons];obtain⟨a1,a2,a3,a4⟩:=pU (out:=out) (hf q List.mem_cons_self);have hil:=(gS.1 hd).1;have hRI:RI ks f i (dX ks out q):=by
   obtain⟨x,hx⟩:=hf q List.mem_cons_self;obtain⟨x1,x2⟩:=gh hx;unfold dX;by_cases hq:q.key2∈kys out
   ·rw[if_pos hq];exact h
   ·rw[if_neg hq,hx,Option.getD_some];refine⟨fun y hy=>?_,?_,fun k hk hk2=>?_,fun j y hj hy w hw=>?_⟩
    ·rcases List.mem_append.1 hy with hy|hy
     ·exact h.mem y hy
     ·rw[List.mem_singleton.1 hy];exact x1
    ·rw[eM,x2];exact kE h.nd hq
    ·rw[lA,List.length_singleton] at hk2;by_cases hlt:k<out.length
     ·obtain⟨j,y,w,k1,k2,k3,k4⟩:=h.up k hk hlt;refine⟨j,y,w,k1,?_,k3,?_⟩
      ·rw[aL (by omega)];exact k2
      ·rw[eM,aL (by rw[jo];exact hlt)];exact k4
     ·obtain rfl:k=out.length:=by omega
      refine⟨i,d,q,hil,?_,hc q List.mem_cons_self,?_⟩
      ·rw[aL hil];exact hd
      ·rw[eM,aR (by rw[jo];omega),jo,Nat.sub_self,x2];rfl
    ·rw[aL (by omega)] at hy;rw[eM];exact List.mem_append.2 (.inl (h.cl j y hj hy w hw))
  obtain⟨b1,b2,b3,b4⟩:=E6 l (dX ks out q) (fun w hw=>hc w (List.mem_cons_of_mem _ hw)) (fun w hw=>hf w (List.mem_cons_of_mem _ hw)) hRI (a4 _ _ hd);refine⟨b1,fun k hk=>b2 k (a2 k hk),fun w hw=>?_,fun j x hx=>b4 j x (a4 j x hx)⟩;rcases List.mem_cons.1 hw with rfl|hw
  ·exact b2 _ a1
  ·exact b3 w hw
theorem ro:∀(l l':List Key),l.Nodup→(∀k∈l,k∈l')→l.length≤l'.length
 | [],_,_,_=>Nat.zero_le _
 | k::l,l',hn,hs=>by
  rw[List.nodup_cons] at hn;obtain⟨a,b,rfl⟩:=List.append_of_mem (hs k List.mem_cons_self);have h2:=ro l (a++b) hn.2 fun x hx=>by
   have hne:x≠k:=fun e=>hn.1 (e ▸ hx)
   have:=hs x (List.mem_cons_of_mem _ hx);simp only[List.mem_append,List.mem_cons] at this ⊢;rcases this with h|h|h
   ·exact .inl h
   ·exact absurd h hne
   ·exact .inr h
  simp only[lA,lC] at h2 ⊢;omega
theorem RI.len {ks out:List D}{f i:Nat}(h:RI ks f i out):out.length≤ks.length:=by
 have:=ro (kys out) (kys ks) h.nd fun k hk=>by
  unfold kys at hk ⊢;obtain⟨d,hd,rfl⟩:=List.mem_map.1 hk;exact List.mem_map.2 ⟨d,h.mem d hd,rfl⟩
 rwa [jo,jo] at this
theorem RI.next {ks out:List D}{f i:Nat}(hcl:∀d∈ks,∀q∈clD f (d.kid 2),∃x,fdD ks q.key2=some x) (h:RI ks f i out){d:D}(hd:out[i]?=some d) :
  RI ks f (i+1) ((clD f (d.kid 2)).foldl (dX ks) out)∧(∀(j:Nat) (x:D),out[j]?=some x→((clD f (d.kid 2)).foldl (dX ks) out)[j]?=some x):=by
 obtain⟨b1,b2,b3,b4⟩:=E6 (clD f (d.kid 2)) out (fun q hq=>hq) (hcl d (h.mem d (List.mem_of_getElem? hd))) h hd;refine⟨⟨b1.mem,b1.nd,b1.up,fun j x hj hx q hq=>?_⟩,b4⟩;by_cases e:j=i
 ·subst e;rw[b4 _ _ hd] at hx;rw[← Option.some.inj hx] at hq;exact b3 q hq
 ·exact b1.cl j x (by omega) hx q hq
theorem AU {ks:List D}{f:Nat}(hcl:∀d∈ks,∀q∈clD f (d.kid 2),∃x,fdD ks q.key2=some x):∀(m i:Nat) (out:List D),ks.length+1≤m+i→RI ks f i out →
  RI ks f (vm ks f m i out).length (vm ks f m i out)∧∀(j:Nat) (x:D),out[j]?=some x→(vm ks f m i out)[j]?=some x
 | 0,i,out,hm,h=>by
  have:=h.len;exact⟨⟨h.mem,h.nd,h.up,fun j d hj hd q hq=>h.cl j d (by rw[vm] at hj;omega) hd q hq⟩,fun _ _ h=>h⟩
 | m+1,i,out,hm,h=>by
  rw[vm];cases hd:out[i]? with
  | none =>
   have hi:out.length≤i:=List.getElem?_eq_none_iff.1 hd;simp only;exact⟨⟨h.mem,h.nd,h.up,fun j d hj hd q hq=>h.cl j d (by omega) hd q hq⟩,fun _ _ h=>h⟩
  | some d =>
   obtain⟨n1,n2⟩:=h.next hcl hd;obtain⟨m1,m2⟩:=AU hcl m (i+1) _ (by omega) n1;exact⟨m1,fun j x hx=>m2 j x (n2 j x hx)⟩
theorem mq {ks out:List D}{q:D}(h:q.key2∈kys out):dX ks out q=out:=if_pos h
theorem kY {ks:List D}:∀(l:List D) (s:List D × List Key) (out:List D),(∀q∈l,∃x,fdD ks q.key2=some x)→(∀k∈s.2,k∈kys (s.1.foldl (dX ks) out))→(∀q∈s.1,∃x,fdD ks q.key2=some x) →
  (l.foldl adF s).1.foldl (dX ks) out=l.foldl (dX ks) (s.1.foldl (dX ks) out)
 | [],s,out,_,_,_=>rfl
 | q::l,s,out,hf,hs,hs1=>by
  rw[List.foldl_cons,List.foldl_cons];by_cases h:q.key2∈s.2
  ·have e:adF s q=s:=if_pos h;rw[e,mq (hs _ h)];exact kY l s out (fun w hw=>hf w (List.mem_cons_of_mem _ hw)) hs hs1
  ·have e:adF s q=(s.1++[q],s.2++[q.key2]):=if_neg h;have hfold:(s.1++[q]).foldl (dX ks) out=dX ks (s.1.foldl (dX ks) out) q:=by rw[List.foldl_append];rfl
   obtain⟨a1,a2,-,-⟩:=pU (out:=s.1.foldl (dX ks) out) (hf q List.mem_cons_self);rw[e,kY l _ out (fun w hw=>hf w (List.mem_cons_of_mem _ hw)) (fun k hk=>?_) (fun w hw=>?_)]
   ·simp only[hfold]
   ·simp only[hfold];rcases List.mem_append.1 hk with hk|hk
    ·exact a2 k (hs k hk)
    ·rw[List.mem_singleton.1 hk];exact a1
   ·rcases List.mem_append.1 hw with hw|hw
    ·exact hs1 w hw
    ·rw[List.mem_singleton.1 hw];exact hf q List.mem_cons_self
theorem tR:∀(n:Nat) (ds:List D) (i:Nat) (d:D),(kys ds).Nodup→ds[i]?=some d→fkK (atF n ds) (d.kid 0).key2=some (n+i)
 | n,x::ds,0,d,_,h=>by
  rw[List.getElem?_cons_zero] at h;rw[atF,fkK,Option.some.inj h,if_pos rfl];rfl
 | n,x::ds,i+1,d,hn,h=>by
  rw[List.getElem?_cons_succ] at h;have hn':(kys (x::ds)).Nodup:=hn;simp only[kys,List.map_cons,List.nodup_cons] at hn';have hne:(d.kid 0).key2≠(x.kid 0).key2:=fun e=>hn'.1 (by rw[← e];exact List.mem_map.2 ⟨d,List.mem_of_getElem? h,rfl⟩)
  rw[atF,fkK,if_neg hne,tR (n+1) ds i d hn'.2 h];congr 1;omega
theorem rC:∀(n:Nat) (ds:List D) (k:Key),k ∉ kys ds→fkK (atF n ds) k=none
 | n,[],k,_=>rfl
 | n,x::ds,k,h=>by
  simp only[kys,List.map_cons,List.mem_cons,not_or] at h;rw[atF,fkK,if_neg h.1];exact rC (n+1) ds k h.2
theorem yZ {ds:List D}(hn:(kys ds).Nodup){j:Nat}(hj:j<ds.length):fkK (atF 0 (ds.take j)) ((ds[j]).kid 0).key2=none:=by
 refine rC _ _ _ fun h=>?_
 have h1:kys ds=kys (ds.take j)++((ds[j]).kid 0).key2::kys (ds.drop (j+1)):=by
  have e:ds=ds.take j++ds[j]::ds.drop (j+1):=by rw[← dC hj,List.take_append_drop]
  have e2:=congrArg kys e;unfold kys at e2 ⊢;rw[List.map_append,List.map_cons] at e2;exact e2
 rw[h1,List.nodup_append] at hn;exact hn.2.2 _ h _ List.mem_cons_self rfl
theorem GN {d:D}(h:d.fm=true):d.kd=1∨d.kd=2∨d.kd=3:=by
 obtain⟨k,n,t,l⟩:=d;unfold D.fm at h;simp only[D.kd];split at h
 ·exact .inl ‹_›
 split at h
 ·exact .inr (.inl ‹_›)
 split at h
 ·exact .inr (.inr ‹_›)
 ·cases h
theorem EJ {d x:D}(h:d.kids.length=4) (hx:x∈d.kids.drop 2):x=d.kid 2∨x=d.kid 3:=by
 have e:d.kids.drop 2=[d.kid 2,d.kid 3]:=by
  refine List.ext_getElem (by simp[h]) fun i h1 h2=>?_
  rw[List.getElem_drop];simp only[lC,List.length_nil] at h2
  match i,h2 with
  | 0,_=>simp[D.kid,h]
  | 1,_=>simp[D.kid,h]
 rw[e] at hx;simpa using hx
theorem uh {f:Nat}{sk:Sk}{bs:List ByteArray}{d:D}(h:fxN (f+1) sk bs d=0):d.kd=1∨(d.kd=2∧inB bs d.tx=true)∨(d.kd≠1∧d.kd≠2∧0<d.kids.length∧(d.kid 0).kd=2 ∧
    ((wn (d.kid 0).tx=0∧d.kids.length=2) ∨
     (wn (d.kid 0).tx=2∧d.kids.length=4∧(d.kid 1).nm=true∧fxN f sk bs (d.kid 2)=0∧fxN f sk (bs++[(d.kid 1).tx]) (d.kid 3)=0) ∨
     (wn (d.kid 0).tx=3∧2≤d.kids.length∧(d.kid 1).lab=true∧fkK sk (d.kid 1).key2=some (d.kids.length-2)∧∀x∈d.kids.drop 2,fxN f sk bs x=0) ∨
     (wn (d.kid 0).tx≠0∧wn (d.kid 0).tx≠2∧wn (d.kid 0).tx≠3∧((wn (d.kid 0).tx=1∧d.kids.length=4)∨(wn (d.kid 0).tx≠1∧arB (wn (d.kid 0).tx)=true∧arN (wn (d.kid 0).tx)=(d.kids.length:Int)-1))∧∀x∈d.kids.drop 1,fxN f sk bs x=0))):=by
  rw[fxN] at h;unfold fxB at h;by_cases c1:d.kd=1
  · exact .inl c1
  rw[if_neg c1] at h;by_cases c2:d.kd=2
  · rw[if_pos c2] at h
    split at h
    · cases h
    split at h
    · cases h
    · rename_i h2;exact .inr (.inl ⟨c2,by simpa using h2⟩)
  rw[if_neg c2] at h;split at h
  · cases h
  rename_i hk;have hk0:0<d.kids.length:=by
    have:¬d.kids.length=0:=fun c=>hk (.inl c)
    omega
  have hk2:(d.kid 0).kd=2:=Classical.byContradiction fun c=>hk (.inr c)
  refine .inr (.inr ⟨c1,c2,hk0,hk2,?_⟩);by_cases w0:wn (d.kid 0).tx=0
  · rw[if_pos w0] at h
    split at h
    · cases h
    · rename_i hl;exact .inl ⟨w0,by omega⟩
  rw[if_neg w0] at h;by_cases w1:wn (d.kid 0).tx=1
  · rw[if_pos w1] at h
    split at h
    · cases h
    · rename_i hl
      exact .inr (.inr (.inr ⟨w0,by omega,by omega,.inl ⟨w1,by omega⟩,eB h⟩))
  rw[if_neg w1] at h;by_cases w2:wn (d.kid 0).tx=2
  · rw[if_pos w2] at h
    split at h
    · cases h
    rename_i hl;split at h
    · rename_i h2;exact absurd h h2
    rename_i h2;refine .inr (.inl ⟨w2,?_,?_,by simpa using h2,h⟩)
    · exact Classical.byContradiction fun c=>hl (.inl c)
    · cases hq:(d.kid 1).nm with
      | true=>rfl
      | false=>exact absurd (Or.inr hq) hl
  rw[if_neg w2] at h;by_cases w3:wn (d.kid 0).tx=3
  · rw[if_pos w3] at h
    unfold fxC at h;split at h
    · cases h
    rename_i hl;have hl2:2≤d.kids.length:=by
      have:¬d.kids.length<2:=fun c=>hl (.inl c)
      omega
    have hlb:(d.kid 1).lab=true:=by
      cases hq:(d.kid 1).lab with
      | true=>rfl
      | false=>exact absurd (Or.inr hq) hl
    cases hf:fkK sk (d.kid 1).key2 with
    | none=>rw[hf] at h;cases h
    | some k =>
      rw[hf] at h;simp only at h;split at h
      · cases h
      · rename_i hn
        exact .inr (.inr (.inl ⟨w3,hl2,hlb,by congr 1;omega,eB h⟩))
  rw[if_neg w3] at h;split at h
  · cases h
  rename_i ha;split at h
  · cases h
  rename_i hb;exact .inr (.inr (.inr ⟨w0,w2,w3,.inr ⟨w1,by simpa using ha,by omega⟩,eB h⟩))
theorem nq {sk:Sk}:∀(f:Nat) (d:D) (bs:List ByteArray),d.sz≤f→d.fm=true→fxN f sk bs d=0→okZ f d
 | 0,d,_,hs,_,_=>absurd (ap d) (by omega)
 | f+1,d,bs,hs,hf,h=>by
  have hkz:∀x∈d.kids,x.sz≤f∧x.fm=true:=fun x hx=>⟨by have:=aW hx;omega,af hf x hx⟩
  rw[okZ];rcases uh h with c|⟨c,-⟩|⟨c1,c2,h0,-,h⟩
  ·exact .inl ⟨by omega,.inl c⟩
  ·exact .inl ⟨by omega,.inr c⟩
  have c3:d.kd=3:=by rcases GN hf with c|c|c;exact absurd c c1;exact absurd c c2;exact c
  refine .inr ⟨c3,h0,?_⟩;unfold i7;rw[if_neg (by simp[c3])];rcases h with⟨w,hl⟩|⟨w,hl,-,k2,k3⟩|⟨w,hl,-,-,hx⟩|⟨w0,w2,w3,-,hx⟩
  ·rw[if_pos w];exact⟨fun e=>by omega,fun e=>by omega,fun x hx=>by cases hx⟩
  ·rw[if_neg (by omega),if_pos (.inl w)];refine⟨fun _=>hl,fun e=>by omega,fun x hx=>?_⟩;obtain⟨z1,z2⟩:=hkz x (bY hx);rcases EJ hl hx with rfl|rfl
   ·exact nq f _ bs z1 z2 k2
   ·exact nq f _ _ z1 z2 k3
  ·rw[if_neg (by omega),if_pos (.inr w)];refine⟨fun e=>by omega,fun _=>hl,fun x hxm=>?_⟩;obtain⟨z1,z2⟩:=hkz x (bY hxm);exact nq f x bs z1 z2 (hx x hxm)
  ·rw[if_neg w0,if_neg (by rintro (e|e);exact w2 e;exact w3 e)];refine⟨fun e=>absurd e w2,fun e=>absurd e w3,fun x hxm=>?_⟩;obtain⟨z1,z2⟩:=hkz x (bY hxm);exact nq f x bs z1 z2 (hx x hxm)
theorem xt {sk:Sk}:∀(f:Nat) (d:D) (bs:List ByteArray),fxN f sk bs d=0→∀q∈clD f d,∃k,fkK sk q.key2=some k
 | 0,_,_,_,q,hq=>by cases hq
 | f+1,d,bs,h,q,hq=>by
  rw[clD] at hq;rcases uh h with c|⟨c,-⟩|⟨c1,c2,h0,-,h⟩
  ·rw[if_pos c] at hq;cases hq
  ·rw[if_neg (by omega),if_pos c] at hq;cases hq
  rw[if_neg c1,if_neg c2] at hq;rcases h with⟨w,hl⟩|⟨w,hl,-,k2,k3⟩|⟨w,hl,-,hk,hx⟩|⟨w0,w2,w3,-,hx⟩
  ·rw[if_pos w] at hq;cases hq
  ·rw[if_neg (by omega),if_pos w] at hq;rcases List.mem_append.1 hq with hq|hq
   ·exact xt f _ bs k2 q hq
   ·exact xt f _ _ k3 q hq
  ·rw[if_neg (by omega),if_neg (by omega),if_pos w] at hq;rcases List.mem_cons.1 hq with rfl|hq
   ·exact⟨_,hk⟩
   ·obtain⟨x,hxm,hq⟩:=List.mem_flatMap.1 hq;exact xt f x bs (hx x hxm) q hq
  ·rw[if_neg w0,if_neg w2,if_neg w3] at hq;obtain⟨x,hxm,hq⟩:=List.mem_flatMap.1 hq;exact xt f x bs (hx x hxm) q hq
theorem mj {sk sk':Sk}{ns:List Nat}:∀(f:Nat) (d:D) (bs:List ByteArray),d.sz≤f→fxN f sk bs d=0→(∀q∈clD f d,∀k,fkK sk q.key2=some k→∃g,fkK sk' q.key2=some g∧ns[g]?=some k)→okY sk' ns f d
 | 0,d,_,hs,_,_=>absurd (ap d) (by omega)
 | f+1,d,bs,hs,h,hc=>by
  have hkz:∀x∈d.kids,x.sz≤f:=fun x hx=>by have:=aW hx;omega
  rw[okY];rw[clD] at hc;rcases uh h with c|⟨c,-⟩|⟨c1,c2,h0,-,h⟩
  ·exact .inl c
  ·exact .inr (.inl c)
  refine .inr (.inr ⟨c1,c2,h0,?_⟩);rw[if_neg c1,if_neg c2] at hc;rcases h with⟨w,hl⟩|⟨w,hl,-,k2,k3⟩|⟨w,hl,-,hk,hx⟩|⟨w0,w2,w3,-,hx⟩
  ·exact .inl w
  ·rw[if_neg (by omega),if_pos w] at hc;exact .inr (.inl ⟨w,hl,mj f _ bs (hkz _ (bI (by omega))) k2 fun q hq=>hc q (List.mem_append.2 (.inl hq)),mj f _ _ (hkz _ (bI (by omega))) k3 fun q hq=>hc q (List.mem_append.2 (.inr hq))⟩)
  ·rw[if_neg (by omega),if_neg (by omega),if_pos w] at hc;refine .inr (.inr (.inl ⟨w,hl,hc _ List.mem_cons_self _ hk,fun x hxm=>?_⟩));exact mj f x bs (hkz x (bY hxm)) (hx x hxm) fun q hq=>hc q (List.mem_cons_of_mem _ (List.mem_flatMap.2 ⟨x,hxm,hq⟩))
  ·rw[if_neg w0,if_neg w2,if_neg w3] at hc;refine .inr (.inr (.inr ⟨w0,w2,w3,fun x hxm=>?_⟩));exact mj f x bs (hkz x (bY hxm)) (hx x hxm) fun q hq=>hc q (List.mem_flatMap.2 ⟨x,hxm,hq⟩)
theorem vI:∀(ks:List D) (k:Key),fkK (ks.map fhN) k=(fdD ks k).map fun d=>(d.kid 1).kids.length
 | [],_=>rfl
 | d::ks,k=>by
  have ih:=vI ks k;unfold fdD at ih ⊢;rw[List.map_cons,fkK,List.find?_cons];by_cases h:k=(d.kid 0).key2
  ·have h2:k=(fhN d).1:=h;rw[if_pos h2,decide_eq_true h.symm];rfl
  ·have h2:¬k=(fhN d).1:=h;rw[if_neg h2,decide_eq_false (Ne.symm h)];exact ih
theorem iB {t:D}(h:t.fck=0):t.fhd=0∧∀x∈t.kids,fbD t x=0:=by
 unfold D.fck at h;split at h
 ·rename_i h2;exact absurd h h2
 ·rename_i h2;exact⟨by simpa using h2,eB h⟩
theorem tV {t:D}(h:t.fck=0):t.fm=true∧t.sz≤100000∧t.dp≤1000:=by
 have:=(eO (iB h).1).1;unfold D.ck at this;split at this
 ·cases this
 split at this
 ·cases this
 ·rename_i h1 h2;exact⟨by simpa using h1,by omega,by omega⟩
theorem Co {ks:List D}(hn:(kys ks).Nodup){a b:D}(ha:a∈ks) (hb:b∈ks) (e:(a.kid 0).key2=(b.kid 0).key2):a=b:=by
 induction ks with
 | nil=>cases ha
 | cons x ks ih =>
  have hn':=hn;simp only[kys,List.map_cons,List.nodup_cons] at hn';have key:∀y∈ks,(y.kid 0).key2≠(x.kid 0).key2:=fun y hy e=>hn'.1 (by rw[← e];exact List.mem_map.2 ⟨y,hy,rfl⟩)
  rcases List.mem_cons.1 ha with rfl|ha'
  ·rcases List.mem_cons.1 hb with rfl|hb'
   ·rfl
   ·exact absurd e.symm (key b hb')
  ·rcases List.mem_cons.1 hb with rfl|hb'
   ·exact absurd e (key a ha')
   ·exact ih hn'.2 ha' hb'
theorem AP:∀(sk:Sk) (k:Key),k∈sk.map (·.1)→∃x,fkK sk k=some x
 | p::sk,k,h=>by
  rw[fkK];by_cases c:k=p.1
  ·rw[if_pos c];exact⟨_,rfl⟩
  ·rw[if_neg c];rw[List.map_cons,List.mem_cons] at h;exact AP sk k (h.resolve_left c)
theorem xq:∀(l:List D) (sk:Sk),rN sk l=0→(sk.map (·.1)).Nodup→(sk.map (·.1)++kys l).Nodup
 | [],sk,_,h=>by simpa[kys] using h
 | d::l,sk,h,hn=>by
  rw[rN] at h;split at h;rotate_left
  ·rename_i h0;exact absurd h h0
  rename_i h0;have hk:(d.kid 0).key2 ∉ sk.map (·.1):=fun hm=>by
   obtain⟨x,hx⟩:=AP sk _ hm;unfold fhF at h0;split at h0;rotate_left
   ·cases h0
   split at h0
   ·cases h0
   ·rename_i h2;rw[hx] at h2;simp at h2
  have:=xq l (sk++[fhN d]) h (by rw[List.map_append];exact kE hn hk);rw[List.map_append,List.append_assoc] at this;exact this
structure Pg (t:D):Prop where
 ri:RI t.kids t.sz (ca t).length (ca t)
 main:(ca t)[0]?=some (t.kid 0)
 cgr:Cgr t.sz (ca t)
 hcl:∀d∈t.kids,∀q∈clD t.sz (d.kid 2),∃x,fdD t.kids q.key2=some x
 okz:∀d∈t.kids,okZ t.sz (d.kid 2)
 hd:∀x∈t.kids,x.kd=3∧x.kids.length=3∧(x.kid 0).lab=true∧(x.kid 1).nms D.nm=true∧(x.kid 1).kids.length≤8
theorem zN {t:D}(h:t.fck=0):Pg t:=by
 obtain⟨h1,h2⟩:=iB h;obtain⟨q1,q2,q3,q4,q5,q6⟩:=eO h1;obtain⟨hfm,-,-⟩:=tV h;have hsz:∀x∈t.kids,(x.kid 2).sz≤t.sz∧(x.kid 2).fm=true:=fun x hx=>by
  have a:=aW hx;have k:=bI (d:=x) (j:=2) (by have:=(q6 x hx).2.1;omega);have b:=aW k;exact⟨by omega,af (af hfm x hx) _ k⟩
 have hcl:∀d∈t.kids,∀q∈clD t.sz (d.kid 2),∃x,fdD t.kids q.key2=some x:=fun d hd q hq=>by
  obtain⟨k,hk⟩:=xt _ _ _ (h2 d hd) q hq;rw[vI] at hk;cases hf:fdD t.kids q.key2 with
  | some x=>exact⟨x,rfl⟩
  | none=>rw[hf] at hk;cases hk
 have r0:RI t.kids t.sz 0 [t.kid 0]:=by
  refine⟨fun d hd=>?_,?_,fun k h1 h2=>?_,fun j d hj=>by omega⟩
  ·rw[List.mem_singleton.1 hd];exact bI q3
  ·simp[kys]
  ·simp only[List.length_singleton] at h2;omega
 obtain⟨b1,b2⟩:=AU hcl (t.kids.length+1) 0 [t.kid 0] (by omega) r0;have hmain:(ca t)[0]?=some (t.kid 0):=b2 0 _ rfl;have hpos:0<(ca t).length:=(gS.1 hmain).1;have hri:RI t.kids t.sz (ca t).length (ca t):=b1;have hok:∀d∈ca t,okY (atF 0 (ca t)) ((ca t).map fun d=>(d.kid 1).kids.length) t.sz (d.kid 2):=fun d hd=>by
  have hdm:=hri.mem d hd;refine mj _ _ _ (hsz d hdm).1 (h2 d hdm) fun q hq k hk=>?_
  obtain⟨j,hj,rfl⟩:=List.getElem_of_mem hd;have hin:=hri.cl j _ hj (gE hj) q hq;unfold kys at hin;obtain⟨x,hx,e⟩:=List.mem_map.1 hin;obtain⟨i,hi,rfl⟩:=List.getElem_of_mem hx;have e1:=tR 0 (ca t) i _ hri.nd (gE hi);rw[e,Nat.zero_add] at e1;refine⟨i,e1,?_⟩;rw[List.getElem?_map,gE hi];rw[vI] at hk;obtain⟨y,hy⟩:=hcl _ hdm q hq;rw[hy] at hk;obtain⟨y1,y2⟩:=gh hy;have hxy:y=(ca t)[i]:=by
   have:=hri.mem _ (List.getElem_mem hi);exact Co (by simpa using xq t.kids [] q5 (by simp)) y1 this (y2.trans e.symm)
  rw[← hxy];exact hk
 refine⟨hri,hmain,⟨⟨hok,fun i hi hi2=>?_⟩,hpos⟩,hcl,fun d hd=>nq _ _ _ (hsz d hd).1 (hsz d hd).2 (h2 d hd),q6⟩;obtain⟨j,d,q,k1,k2,k3,k4⟩:=hri.up i hi hi2;refine⟨j,d,q,k1,k2,k3,?_⟩;have e1:=tR 0 (ca t) i _ hri.nd (gE hi2);unfold kys at k4;rw[List.getElem?_map,gE hi2] at k4;have k5:=Option.some.inj k4;simp only at k5;rw[← k5,e1,Nat.zero_add]
theorem pq:∀(f:Nat) (d:D),okZ f d→(clD f d).length≤d.sz
 | 0,_,h=>h.elim
 | f+1,d,h=>by
  rw[wI h];have hf:∀L:List D,(∀x∈L,okZ f x)→(L.flatMap (clD f)).length≤D.szs L:=fun L=>by
   induction L with
   | nil=>intro _;simp
   | cons x L ih =>
    intro hx;rw[List.flatMap_cons,lA,D.szs];have h1:=pq f x (hx x List.mem_cons_self);have h2:=ih fun y hy=>hx y (List.mem_cons_of_mem _ hy)
    omega
  have hdr:∀(L:List D) (k:Nat),D.szs (L.drop k)≤D.szs L:=fun L=>by
   induction L with
   | nil=>intro k;simp
   | cons x L ih =>
    intro k;cases k with
    | zero=>exact nL _
    | succ k=>rw[List.drop_succ_cons,D.szs];have:=ih k;omega
  have hp:D.szs (i7 d)+1≤d.sz:=by
   have hs:d.sz=1+D.szs d.kids:=by obtain⟨k,n,t,l⟩:=d;rfl
   have h1:=hdr d.kids 1;have h2:=hdr d.kids 2;unfold i7;split
   ·simp only[D.szs];omega
   split
   ·simp only[D.szs];omega
   split<;>omega
  have hk:∀x∈i7 d,okZ f x:=by
   rw[okZ] at h;rcases h with⟨h3,-⟩|⟨-,-,-,-,h⟩
   ·unfold i7;rw[if_pos h3];simp
   ·exact h
  have:=hf _ hk;rw[lA];split
  ·rw[List.length_singleton];omega
  ·rw[List.length_nil];omega
theorem GrowF.tok {z q:Nat}{us:List V}{h:List O}(hG:GrowF z us (.tok q) h):∃m,h[q]?=some (.tok m z):=by
 rcases hG with⟨_,h9⟩|h9|⟨q',h9,h10⟩
 ·cases h9
 ·cases h9
 ·obtain rfl:q=q':=by cases h9;rfl
  exact⟨_,h10⟩
def sP (n f:Nat) (x:D):Prop:=∀(s:List D × List Key) (si:SI) (m m0:Nat) (h:List O),GrowF 4 (D.vs s.1) si h→(∀q,si=.tok q→m0≤q)→m0≤m→m0≤h.length→h[m]?=some (.mapo (mkK (seK s.2)) (mkV (seK s.2)))→s.1.length+(clD f x).length<100000000 →
 ∃si' h',call X E n 173 [x.v,.sl (D.vs s.1) si,.mref m] h=some (.sl (D.vs ((clD f x).foldl adF s).1) si',h')∧GrowF 4 (D.vs ((clD f x).foldl adF s).1) si' h'∧(∀q,si'=.tok q→m0≤q)∧h'[m]?=some (.mapo (mkK (seK ((clD f x).foldl adF s).2)) (mkV (seK ((clD f x).foldl adF s).2)))∧h'.take m0=h.take m0∧h.length≤h'.length
theorem GG {n f:Nat}{d:D}(hz:okZ (f+1) d) (hK:∀x∈i7 d,sP n f x) (hn:d.sz+5≤n) (hs:d.sz<100000000):sP (n+1) (f+1) d:=by
 intro s si m m0 h hG hsi hm hm0 hmap hlen;have hc:=wI hz;have hzk:d.kd=3→0<d.kids.length∧(wn (d.kid 0).tx=2→d.kids.length=4)∧(wn (d.kid 0).tx=3→2≤d.kids.length):=fun h3=>by
  rw[okZ] at hz;rcases hz with⟨h,-⟩|⟨-,a,b,c,-⟩
  ·exact absurd h3 h
  ·exact⟨a,b,c⟩
 obtain⟨s1,hs1⟩:∃s1,s1=(if icD d=true then adF s (d.kid 1) else s):=⟨_,rfl⟩
 have hfold:(clD (f+1) d).foldl adF s=((i7 d).flatMap (clD f)).foldl adF s1:=by
  rw[hc,List.foldl_append,hs1];split<;>rfl
 have hlen1:s1.1.length+((i7 d).flatMap (clD f)).length<100000000:=by
  rw[hc,lA] at hlen;rw[hs1];split
  ·rename_i hi;rw[if_pos hi] at hlen;have:=iZ [d.kid 1] s;simp only[List.foldl_cons,List.foldl_nil,lC,List.length_nil] at this hlen;omega
  ·rename_i hi;rw[if_neg hi] at hlen;simpa using hlen
 rw[hfold];obtain⟨P,hP⟩:∃P,P=((i7 d).flatMap (clD f)).foldl adF s1:=⟨_,rfl⟩
 rw[← hP];have hpl:(i7 d).length<n∧(i7 d).length≤d.sz:=by
  have hkl:=bV d;unfold i7;split
  ·simp;omega
  split
  ·simp;omega
  split<;>rw[List.length_drop]<;>omega
 obtain⟨hpl,hpl2⟩:=hpl;have hsl:=aa d.kids;have hslp:=aa (i7 d);obtain⟨n,rfl⟩:∃n',n=n'+1:=⟨n-1,by omega⟩
 have c191:∀h,call X E (n+1) 191 [d.v] h=some (.c (.bool (icD d)),h):=Ha d fun h3=>(hzk h3).1
 obtain⟨ip,c192⟩:=F4 d (fun h3=>(hzk h3).1) (fun h3 h=>by rcases h with h|h;exact (by have:=(hzk h3).2.1 h;omega);exact (hzk h3).2.2 h) (n:=n);have c192:∀h,call X E (n+1) 192 [d.v] h=some (.sl (D.vs (i7 d)) ip,h):=c192;have c172:∀(x:D) h,call X E (n+1) 172 [x.v] h=some (x.key,h):=fun x=>v7 x
 have key:∃vs h',fE (call X E (n+1)) (n+1) x173 [d.v,.sl (D.vs s.1) si,.mref m] h=some ((bk vs).vwr,h')∧(∃si',vs=[.sl (D.vs P.1) si']∧GrowF 4 (D.vs P.1) si' h'∧(∀q,si'=.tok q→m0≤q)∧h'[m]?=some (.mapo (mkK (seK P.2)) (mkV (seK P.2)))∧h'.take m0=h.take m0∧h.length≤h'.length):=by
  refine BY (by kernel_rfl) rfl rfl (cq ?_);have hvw:([d.v,.sl (D.vs s.1) si,.mref m]:List V).map V.vwt=[d.v,.sl (D.vs s.1) si,.mref m]:=by
   have:d.v.vwt=d.v:=by obtain⟨k,i,t,l⟩:=d;rfl
   simp only[List.map_cons,List.map_nil,this];rfl
  rw[hvw];have loop:∀(e:Nat→V) (H:List O) (si1:SI) (rb:Nat),e 1=.sl (D.vs s1.1) si1→e 2=.mref m→e 3=.ref h.length 0→H[h.length]?=some (.cells d.v.cells)→GrowF 4 (D.vs s1.1) si1 H→(∀q,si1=.tok q→m0≤q)→H[m]?=some (.mapo (mkK (seK s1.2)) (mkV (seK s1.2)))→H.take m0=h.take m0→h.length≤H.length →
    wpk (call X E (n+1)) (n+1) (.seq (.seq x173r5 (.block 0 (.loop x173l10))) (.seq x173r11 .ret)) [] (Fin (fun vs h'=>∃si',vs=[.sl (D.vs P.1) si']∧GrowF 4 (D.vs P.1) si' h'∧(∀q,si'=.tok q→m0≤q)∧h'[m]?=some (.mapo (mkK (seK P.2)) (mkV (seK P.2)))∧h'.take m0=h.take m0∧h.length≤h'.length) x173) ⟨e,H,h.length,rb⟩:=by
   intro e H si1 rb e1 e2 e3 hbx hG1 hsi1 hmp1 htk1 hle1;simp only[sP] at hK;generalize call X E (n+1)=cf at *;generalize hLL:i7 d=L at *;simp -implicitDefEqProofs [x173r5_w,e1,e2,e3,hbx,ae,c192,hslp];obtain⟨J,hJ⟩:∃J:Nat→SF→Prop,J=fun k s'=>∃j s2 si2,j+k=L.length∧s'.e 37=.c (.int .i64 j)∧s'.e 1=.sl (D.vs s2.1) si2∧GrowF 4 (D.vs s2.1) si2 s'.h∧(∀q,si2=.tok q→m0≤q)∧s'.h[m]?=some (.mapo (mkK (seK s2.2)) (mkV (seK s2.2)))∧s'.h.take m0=h.take m0∧h.length≤s'.h.length ∧
    P=((L.drop j).flatMap (clD f)).foldl adF s2∧s2.1.length+((L.drop j).flatMap (clD f)).length<100000000:=⟨_,rfl⟩
   refine bn J L.length (by omega) (by rw[hJ];exact⟨0,s1,si1,by simp,by simp[au],by simp[au,e1],hG1,hsi1,hmp1,htk1,hle1,by simpa using hP,by simpa using hlen1⟩) ?_;rintro k ⟨e',H',base,rb'⟩ hj he hb;rw[hJ] at hj;obtain⟨j,s2,si2,hj,f37,f1,fG,fsi,fm,ftk,fle,hPj,hl2⟩:=hj;have f2:=he 2 rfl;have f35:=he 35 rfl;have f36:=he 36 rfl;simp[au,e2] at f2 f35 f36 hb;simp only at f37 f1 fG fm ftk fle;subst hb;by_cases hmj:j<L.length;rotate_left
   ·have hlt:¬(j:Int)<L.length:=by omega
    obtain rfl:j=L.length:=by omega
    rw[List.drop_length] at hPj;simp only[List.flatMap_nil,List.foldl_nil] at hPj;subst hPj;simp -implicitDefEqProofs [x173l10_w,x173_r,x173r11_w,f1,f2,f35,f36,f37,hlt];exact⟨fG,fsi,fm,ftk,fle⟩
   have hlt:(j:Int)<L.length:=by omega
   have hw:IntKind.i64.wrap ((j:Int)+1)=(j:Int)+1:=aH (by omega);have hvk:(D.vs L)[j]'(by rw[hslp];exact hmj)=(L[j]).v:=ac _;have hmx:L[j]∈L:=List.getElem_mem hmj;rw[dC hmj,List.flatMap_cons] at hPj hl2;rw[List.foldl_append] at hPj;rw[lA] at hl2;have hm0l:m0≤H'.length:=by omega
   obtain⟨si3,H3,k1,k2,k3,k4,k5,k6⟩:=hK _ hmx s2 si2 m m0 (H'++[.cells (L[j]).v.cells]) (fG.app _) fsi hm (by simp;omega) (co fm _) (by omega);have hal:=iZ (clD f L[j]) s2;generalize L[j]=x at *;obtain⟨s3,hs3⟩:∃s3,s3=(clD f x).foldl adF s2:=⟨_,rfl⟩
   rw[← hs3] at hPj k1 k2 k4 hal;rw[List.take_append_of_le_length hm0l] at k5;rw[lA,List.length_singleton] at k6;simp -implicitDefEqProofs [x173l10_w,f1,f2,f35,f36,f37,hlt,hslp,hmj,hvk,ae,k1,hw];refine⟨k6,k-1,by omega,?_⟩;rw[hJ];exact⟨j+1,s3,si3,by omega,by simp[au],by simp[au],k2,k3,k4,k5.trans ftk,Nat.le_trans fle (Nat.le_trans (Nat.le_succ _) k6),hPj,by omega⟩
  have hbx:∀R,(h++O.cells d.v.cells::R)[h.length]?=some (.cells d.v.cells):=fun R=>by simp
  have hbx1:(h++[O.cells d.v.cells])[h.length]?=some (.cells d.v.cells):=hbx [];have hm1:(h++[O.cells d.v.cells])[m]?=some (.mapo (mkK (seK s.2)) (mkV (seK s.2))):=co hmap _;have hlk:=fun (x:D)=>n9 hm1 x (.c (.bool false))
  have htk:(h++[O.cells d.v.cells]).take m0=h.take m0:=List.take_append_of_le_length hm0;have hml:m<h.length:=(gS.1 hmap).1;by_cases hic:icD d=true;rotate_left
  ·have hic:icD d=false:=by simpa using hic
   rw[hic] at c191 hs1;simp only[Bool.false_eq_true,if_false] at hs1;generalize hcf:call X E (n+1)=cf at *;simp -implicitDefEqProofs [x173_w,c191];subst hs1;refine loop _ _ si _ (by simp[au,dR]) (by simp[au,dR]) (by simp[au]) hbx1 (hG.app _) hsi hm1 htk (by simp)
  have h3:d.kd=3:=by unfold icD at hic;simp at hic;exact hic.1
  have hw3:wn (d.kid 0).tx=3:=by unfold icD at hic;simp at hic;exact hic.2
  have h2l:=(hzk h3).2.2 hw3;have h1i:(1:Int)<d.kids.length:=by omega
  have h1l:1<d.kids.length:=by omega
  have v1:((D.vs d.kids)[1]'(by rw[aa];omega))=(d.kid 1).v:=ah _;have hlk1:=hlk (d.kid 1);rw[pN] at hlk1;rw[hic] at c191 hs1;rw[if_pos rfl] at hs1;by_cases hin:(d.kid 1).key2∈s.2
  ·rw[if_pos hin] at hlk1;have hs1:s1=s:=hs1.trans (if_pos hin);subst hs1;generalize hcf:call X E (n+1)=cf at *;simp -implicitDefEqProofs [x173_w,c191,c172,hsl,h1i,h1l,v1,hlk1];refine loop _ _ si _ (by simp[au,dR]) (by simp[au,dR]) (by simp[au]) hbx1 (hG.app _) hsi hm1 htk (by simp)
  ·rw[if_neg hin] at hlk1;have hs1:s1=(s.1++[d.kid 1],s.2++[(d.kid 1).key2]):=hs1.trans (if_neg hin);have hup:=wO hm1 (d:=d.kid 1) (by rw[pN,if_neg hin]) (.c (.bool true));rw[← rm] at hup;obtain⟨H2,hH2⟩:∃H2,H2=(h++[O.cells d.v.cells]).set m (.mapo (mkK (seK (s.2++[(d.kid 1).key2]))) (mkV (seK (s.2++[(d.kid 1).key2])))):=⟨_,rfl⟩
   have hH2l:H2.length=h.length+1:=by rw[hH2];simp
   have hH2m:H2[m]?=some (.mapo (mkK (seK (s.2++[(d.kid 1).key2]))) (mkV (seK (s.2++[(d.kid 1).key2])))):=by rw[hH2];exact ij hm1 _
   have hH2b:H2[h.length]?=some (.cells d.v.cells):=by rw[hH2,sN (by omega)];exact hbx1
   have hH2t:H2.take m0=h.take m0:=by rw[hH2,List.take_set_of_le hm,htk]
   have hG2:GrowF 4 (D.vs s.1) si H2:=(hG.app [O.cells d.v.cells]).keepG fun q hq _=>by
    rcases hG.app [O.cells d.v.cells] with⟨_,h9⟩|h9|⟨q',h9,h10⟩
    ·rw[hq] at h9;cases h9
    ·rw[hq] at h9;cases h9
    ·rw[hq] at h9;obtain rfl:q=q':=by cases h9;rfl
     have:q≠m:=fun c=>by rw[c,hm1] at h10;cases h10
     rw[hH2,sN (Ne.symm this)]
   rw[← hH2] at hup;have hzz:=D.hz s.1;have hus:(D.vs s.1).length=s.1.length:=aa _;have hj1:(s.1.length+1)*56≤140737488355328:=by omega
   have hj2:s.1.length+1≤140737488355328:=by omega
   have hH2b2:∀R,(H2++R)[h.length]?=some (.cells d.v.cells):=fun R=>co hH2b R
   have hvs1:D.vs s1.1=D.vs s.1++[(d.kid 1).v]:=by rw[hs1];simp[ar]
   generalize hcf:call X E (n+1)=cf at *;simp -implicitDefEqProofs [x173_w,c191,c172,hsl,h1i,h1l,v1,hlk1,hup,hH2b2,hzz,hus,hj1,hj2];refine ji (zz:=some 4) m0 (hG2.app _) ?_ hsi (by omega) fun si' h2 hG' hl' hk' ht' hq' hn'=>?_
   ·rw[aR (by omega)];rw[show H2.length+1-H2.length=1 by omega];rfl
   have key:∀(i:Nat) (o:O),H2[i]?=some o→(∀m z,o≠.tok m z)→h2[i]?=some o:=fun i o ho h1=>by
    have hil:=(gS.1 ho).1;rw[hn' i (by omega) fun p hp c=>?_]
    ·exact co ho _
    ·subst c;obtain⟨m,h9⟩:=(hp ▸ hG2:GrowF 4 (D.vs s.1) (.tok i) H2).tok;rw[ho] at h9;exact h1 _ _ (Option.some.inj h9)
   have k1:=key _ _ hH2m (by simp);have k2:=key _ _ hH2b (by simp);have hs12:s1.2=s.2++[(d.kid 1).key2]:=by rw[hs1]
   rw[← hvs1] at hG';rw[← hs12] at k1;simp -implicitDefEqProofs [];refine loop _ _ si' _ (by simp[au,hvs1]) (by simp[au,dR]) (by simp[au]) k2 hG' hq' k1 ?_ (by rw[hl'];simp;omega);rw[ht',List.take_append_of_le_length (by omega),hH2t]
 obtain⟨vs,h',hr,si',rfl,k1,k2,k3,k4,k5⟩:=key;refine⟨si',h',?_,k1,k2,k3,k4,k5⟩;rw[cR (xf:=x173) rfl rfl rfl,hr];rfl
theorem yV {n f k:Nat}{xf:XF}{args:List V}{P:V→Prop}(hE:E f=none) (hX:X f=some xf) (hk:args.length=k) (hx:sH xf k=true) (hp:xf.pure=true∧xf.esc=false) (hl:V.lows 0 (args.map V.vw2)=true)
  (hw:wpk (call X E n) n xf.body [] (Fin (fun vs _=>P (bk vs).vw∧(bk vs).vw.low 0=true) xf) ⟨dR (args.map V.vw2),[],0,0⟩) (ha:xf.asg=none:=by rfl):∃v,P v∧bg (n+1) f args v:=by
 subst hk;have:=fk (cf:=call X E n) (n:=n) (xf:=xf) (args:=args.map V.vw2) (h:=[]) (by simpa using hx) (cq hw);obtain⟨e,s,vs,h1,h2,h3,h4,h5,h6⟩:=this;refine⟨(bk vs).vw,h5,fun h=>?_⟩;simp only[call,hE,hX,ha];unfold fE;rw[if_pos hp.1,if_pos hl,if_neg (by simp[hp.2]),h1];simp only[List.length_nil] at h4;cases e with
 | exit id=>exact absurd rfl (h2 id)
 | normal=>simp[fin,h3,h6,h4]
 | ret=>simp[fin,h3,h6,h4]
def alD (ks:List D):List (Key × V):=ks.map fun d=>((d.kid 0).key2,d.v)
theorem vb:∀(ks:List D) (k:Key),fkV (alD ks) k=(fdD ks k).map D.v
 | [],_=>rfl
 | d::ks,k=>by
  have ih:=vb ks k;unfold fdD at ih ⊢;unfold alD at ih ⊢;rw[List.map_cons,fkV,List.find?_cons];by_cases h:k=(d.kid 0).key2
  ·rw[if_pos h,decide_eq_true h.symm];rfl
  ·rw[if_neg h,decide_eq_false (Ne.symm h)];exact ih
theorem yP (l:List D) (d:D):alD (l++[d])=alD l++[((d.kid 0).key2,d.v)]:=by simp[alD]
theorem uY (m:Nat) (l:List D):V.shifts m (mkV (alD l))=mkV (alD l):=by
 have:mkV (alD l)=D.vs l:=by rw[ar];simp[mkV,alD]
 rw[this,D.shifts]
theorem Fe {ks:List D}{k:Key}(h:k ∉ kys ks):fdD ks k=none:=by
 cases hf:fdD ks k with
 | none=>rfl
 | some d =>
  obtain⟨h1,h2⟩:=gh hf;exact absurd (by rw[← h2];exact List.mem_map.2 ⟨d,h1,rfl⟩) h
theorem Bv {ks:List D}(hn:(kys ks).Nodup){j:Nat}(hj:j<ks.length):((ks[j]).kid 0).key2 ∉ kys (ks.take j):=fun h=>by
 have e:ks=ks.take j++ks[j]::ks.drop (j+1):=by rw[← dC hj,List.take_append_drop]
 have e2:=congrArg kys e;unfold kys at e2 h;rw[List.map_append,List.map_cons] at e2;unfold kys at hn;rw[e2,List.nodup_append] at hn;exact hn.2.2 _ h _ List.mem_cons_self rfl
theorem Gn (t:D) (hks:∀x∈t.kids,0<x.kids.length) (hnd:(kys t.kids).Nodup) (hs:t.sz<100000000){n:Nat}(hn:t.sz+5≤n) (h:List O):∃e,call X E (n+1) 171 [t.v] h=some (.mref (h.length+1),h++e)∧(h++e)[h.length+1]?=some (.mapo (mkK (alD t.kids)) (mkV (alD t.kids))):=by
 rw[cR (xf:=x171) rfl rfl rfl];obtain⟨P,hP⟩:∃P:V→List O→Prop,P=fun v H=>v=.mref 1∧H[1]?=some (.mapo (mkK (alD t.kids)) (mkV (alD t.kids))):=⟨_,rfl⟩
 obtain⟨v,H,h1,h2⟩:=iv (cf:=call X E n) (n:=n) (xf:=x171) (args:=[t.v]) (h:=h) (P:=P) (by kernel_rfl) rfl rfl (by simp[V.lows,D.low]) (by
  refine cq ?_;have hkl:=bV t;have c172:∀(x:D) h,call X E n 172 [x.v] h=some (x.key,h):=fun x=>by
   obtain⟨m,rfl⟩:∃m,n=m+1:=⟨n-1,by omega⟩
   exact v7 x
  have hsl:=aa t.kids;generalize call X E n=cf at *;simp -implicitDefEqProofs [x171_w,ae,hsl];generalize t.kids=T at *;obtain⟨J,hJ⟩:∃J:Nat→SF→Prop,J=fun k s'=>∃j,j+k=T.length∧s'.e 10=.c (.int .i64 j)∧s'.h[1]?=some (.mapo (mkK (alD (T.take j))) (mkV (alD (T.take j)))):=⟨_,rfl⟩
  refine bn J T.length (by omega) (by rw[hJ];exact⟨0,by simp,by simp[au],rfl⟩) ?_;rintro k ⟨e,h',base,rb⟩ hj he hb;rw[hJ] at hj;obtain⟨j,hj,e10,f1⟩:=hj;have e3:=he 3 rfl;have e8:=he 8 rfl;have e9:=he 9 rfl;simp[au] at e3 e8 e9 hb;simp only at e10 f1;subst hb;by_cases hm:j<T.length;rotate_left
  ·have hlt:¬(j:Int)<T.length:=by omega
   obtain rfl:j=T.length:=by omega
   rw[List.take_of_length_le (nL _)] at f1;simp -implicitDefEqProofs [x171l8_w,x171_r,e3,e8,e9,e10,hlt];rw[hP];exact⟨rfl,f1⟩
  have hlt:(j:Int)<T.length:=by omega
  have hw:IntKind.i64.wrap ((j:Int)+1)=(j:Int)+1:=aH (by omega);have hvg:(D.vs T)[j]'(by rw[aa];omega)=(T[j]).v:=ac _;have hx0:=hks _ (List.getElem_mem hm);have hno:=Bv hnd hm;have htk:alD (T.take (j+1))=alD (T.take j)++[(((T[j]).kid 0).key2,(T[j]).v)]:=by
   rw[List.take_add_one,gE hm,Option.toList_some,yP]
  have hup:∀R,DA (.mref 1) (some [0,1]) ((T[j]).kid 0).key (T[j]).v (h'++R)=some (az,(h'++R).set 1 (.mapo (mkK (alD (T.take (j+1)))) (mkV (alD (T.take (j+1)))))):=fun R=>by
   rw[htk];exact wO (co f1 R) (by rw[vb,Fe hno];rfl) _
  have hl1:1<h'.length:=(gS.1 f1).1;generalize T[j]=x at *;have v0:((D.vs x.kids)[0]'(by rw[aa];exact hx0))=(x.kid 0).v:=ah _;have hxl:=aa x.kids;have hx0i:(0:Int)<x.kids.length:=by omega
  obtain⟨M,hM⟩:∃M,M=alD (T.take (j+1)):=⟨_,rfl⟩
  rw[← hM] at hup;simp -implicitDefEqProofs [x171l8_w,e3,e8,e9,e10,hlt,hm,hsl,hvg,ae,c172,v0,hxl,hx0,hx0i,hup,hw];refine⟨k-1,by omega,?_⟩;rw[hJ];refine⟨j+1,by omega,by simp[au],?_⟩;rw[← hM];exact ij (co f1 _) _)
 rw[hP] at h1;obtain⟨rfl,h3⟩:=h1;refine⟨H.map (O.shift h.length),?_,?_⟩
 ·rw[h2,Nat.add_comm];rfl
 ·rw[aR (by omega),Nat.add_sub_cancel_left,List.getElem?_map,h3];simp only[Option.map_some,O.shift,uY]
theorem wQ:∀(l:List D) (s:List D × List Key),∀q∈(l.foldl adF s).1,q∈s.1∨q∈l
 | [],s,q,h=>.inl h
 | x::l,s,q,h=>by
  rw[List.foldl_cons] at h;rcases wQ l _ q h with h|h
  ·unfold adF at h;split at h
   ·exact .inl h
   ·rcases List.mem_append.1 h with h|h
    ·exact .inl h
    ·exact .inr (by rw[List.mem_singleton.1 h];exact List.mem_cons_self)
  ·exact .inr (List.mem_cons_of_mem _ h)
theorem nV:∀(f:Nat) (d:D),okZ f d→d.sz<100000000→∀m,d.sz+10+2*f≤m→sP m f d
 | 0,d,h,_,_,_=>h.elim
 | f+1,d,h,hs,m,hm=>by
  obtain⟨m,rfl⟩:∃m',m=m'+1:=⟨m-1,by omega⟩
  have hk:∀x∈i7 d,okZ f x∧x.sz<d.sz:=fun x hx=>by
   have hz:okZ f x:=by
    rw[okZ] at h;rcases h with⟨h3,-⟩|⟨-,-,-,-,h⟩
    ·unfold i7 at hx;rw[if_pos h3] at hx;cases hx
    ·exact h x hx
   have hxk:x∈d.kids:=by
    unfold i7 at hx;split at hx
    ·cases hx
    split at hx
    ·cases hx
    split at hx<;>exact bY hx
   have:=aW hxk;exact⟨hz,by omega⟩
  exact GG h (fun x hx=>nV f x (hk x hx).1 (by have:=(hk x hx).2;omega) m (by have:=(hk x hx).2;omega)) (by omega) hs
theorem Ca {ks out:List D}{q:D}(hq:∃x,fdD ks q.key2=some x) (h:q.key2 ∉ kys out):dX ks out q=out++[(fdD ks q.key2).getD .z0]∧kys (dX ks out q)=kys out++[q.key2]:=by
 obtain⟨x,hx⟩:=hq;have e:dX ks out q=out++[(fdD ks q.key2).getD .z0]:=if_neg h;refine⟨e,?_⟩;rw[e,eM,hx,Option.getD_some,(gh hx).2]
theorem yH {cf:av}{n:Nat}{K:List Fr}{Q:Ex→SF→Prop}{s:SF}{ks out C:List D}{ma ms:Nat}{si ci:SI}
  (c172:∀(x:D) h,cf 172 [x.v] h=some (x.key,h)) (hC:∀q∈C,∃x,fdD ks q.key2=some x) (e3:s.e 3=.mref ma) (e5:s.e 5=.mref ms) (e4:s.e 4=.sl (D.vs out) si) (e40:s.e 40=.sl (D.vs C) ci) (e41:s.e 41=.c (.int .i64 C.length)) (e42:s.e 42=.c (.int .i64 0))
  (hma:s.h[ma]?=some (.mapo (mkK (alD ks)) (mkV (alD ks)))) (hms:s.h[ms]?=some (.mapo (mkK (seK (kys out))) (mkV (seK (kys out))))) (hG:GrowF 4 (D.vs out) si s.h) (hne:ma≠ms) (hn:C.length<n) (hl:C.length<100000000) (hlo:out.length<100000000)
  (hq:∀e H rb si',(∀t,(dO x139l14).contains t=false→e t=s.e t)→e 4=.sl (D.vs (C.foldl (dX ks) out)) si'→GrowF 4 (D.vs (C.foldl (dX ks) out)) si' H→H[ma]?=some (.mapo (mkK (alD ks)) (mkV (alD ks)))→H[ms]?=some (.mapo (mkK (seK (kys (C.foldl (dX ks) out)))) (mkV (seK (kys (C.foldl (dX ks) out)))))→d9 cf n K Q (.exit 2) ⟨e,H,s.base,rb⟩):lpk cf n x139l14 K Q s:=by
 have hsl:=aa C;obtain⟨P,hP⟩:∃P,P=C.foldl (dX ks) out:=⟨_,rfl⟩
 rw[← hP] at hq;obtain⟨J,hJ⟩:∃J:Nat→SF→Prop,J=fun k s'=>∃j o2 si2,j+k=C.length∧s'.e 42=.c (.int .i64 j)∧s'.e 4=.sl (D.vs o2) si2∧GrowF 4 (D.vs o2) si2 s'.h∧s'.h[ma]?=some (.mapo (mkK (alD ks)) (mkV (alD ks)))∧s'.h[ms]?=some (.mapo (mkK (seK (kys o2))) (mkV (seK (kys o2))))∧P=(C.drop j).foldl (dX ks) o2∧o2.length≤out.length+j:=⟨_,rfl⟩
 refine bn J C.length hn (by rw[hJ];exact⟨0,out,si,by simp,e42,e4,hG,hma,hms,by simpa using hP,by omega⟩) ?_;rintro k ⟨e,H,base,rb⟩ hj he hb;rw[hJ] at hj;obtain⟨j,o2,si2,hj,f42,f4,fG,fma,fms,hPj,hol⟩:=hj;have f3:e 3=_:=(he 3 rfl).trans e3;have f5:e 5=_:=(he 5 rfl).trans e5;have f40:e 40=_:=(he 40 rfl).trans e40;have f41:e 41=_:=(he 41 rfl).trans e41;simp only at f42 f4 fG fma fms hb;by_cases hm:j<C.length;rotate_left
 ·have hlt:¬(j:Int)<C.length:=by omega
  obtain rfl:j=C.length:=by omega
  rw[List.drop_length,List.foldl_nil] at hPj;subst hb hPj;simp -implicitDefEqProofs [x139l14_w,f40,f41,f42,hlt];refine hq _ _ _ si2 (fun t ht=>?_) (by simp[au,f4]) fG fma fms;have hne:∀k,(dO x139l14).contains k=true→t≠k:=fun k hk e=>by rw[e,hk] at ht;cases ht
  simp only[au,if_neg (hne 43 rfl)];exact he t ht
 have hlt:(j:Int)<C.length:=by omega
 have hw:IntKind.i64.wrap ((j:Int)+1)=(j:Int)+1:=aH (by omega);have hvk:(D.vs C)[j]'(by rw[hsl];exact hm)=(C[j]).v:=ac _;have hqx:=hC _ (List.getElem_mem hm);rw[dC hm,List.foldl_cons] at hPj;generalize C[j]=q at *;have hb1:(H++[O.cells q.v.cells])[H.length]?=some (.cells q.v.cells):=by simp
 have hlk:=n9 (co fms [O.cells q.v.cells]) q (.c (.bool false));rw[pN] at hlk;by_cases hin:q.key2∈kys o2
 ·rw[if_pos hin] at hlk;rw[mq hin] at hPj;simp -implicitDefEqProofs [x139l14_w,f3,f4,f5,f40,f41,f42,hlt,hsl,hm,hvk,ae,c172,hlk,hw];refine⟨k-1,by omega,?_⟩;rw[hJ];exact⟨j+1,o2,si2,by omega,by simp[au],by simp[au,f4],fG.app _,co fma _,co fms _,hPj,by omega⟩
 ·rw[if_neg hin] at hlk;obtain⟨a1,a2⟩:=Ca hqx hin;obtain⟨x,hx⟩:=hqx;rw[hx,Option.getD_some] at a1;have hup:=wO (co fms [O.cells q.v.cells]) (d:=q) (by rw[pN,if_neg hin]) (.c (.bool true));rw[← rm,← a2] at hup;obtain⟨H2,hH2⟩:∃H2,H2=(H++[O.cells q.v.cells]).set ms (.mapo (mkK (seK (kys (dX ks o2 q)))) (mkV (seK (kys (dX ks o2 q))))):=⟨_,rfl⟩
  rw[← hH2] at hup;have hmsl:ms<H.length:=(gS.1 fms).1;have hmal:ma<H.length:=(gS.1 fma).1;have hH2l:H2.length=H.length+1:=by rw[hH2];simp
  have hH2s:H2[ms]?=some (.mapo (mkK (seK (kys (dX ks o2 q)))) (mkV (seK (kys (dX ks o2 q))))):=by rw[hH2];exact ij (co fms _) _
  have hH2a:H2[ma]?=some (.mapo (mkK (alD ks)) (mkV (alD ks))):=by rw[hH2,sN (Ne.symm hne)];exact co fma _
  have hH2b:H2[H.length]?=some (.cells q.v.cells):=by rw[hH2,sN (by omega)];exact hb1
  have hG2:GrowF 4 (D.vs o2) si2 H2:=(fG.app [O.cells q.v.cells]).keepG fun p hp _=>by
   rcases fG.app [O.cells q.v.cells] with⟨_,h9⟩|h9|⟨q',h9,h10⟩
   ·rw[hp] at h9;cases h9
   ·rw[hp] at h9;cases h9
   ·rw[hp] at h9;obtain rfl:p=q':=by cases h9;rfl
    have:p≠ms:=fun c=>by rw[c,co fms] at h10;cases h10
    rw[hH2,sN (Ne.symm this)]
  have hlk2:∀R,jU (.mref ma) (some [0,1]) q.key (.agg [.c (.int .i64 0),.c (.int .i64 0),.c (.string ⟨#[]⟩),.sl [] .nil]) false (H2++R)=some (x.v,H2++R):=fun R=>by
   rw[n9 (co hH2a R),vb,hx];rfl
  have hH2b2:∀R,(H2++R)[H.length]?=some (.cells q.v.cells):=fun R=>co hH2b R
  have hzz:=D.hz o2;have hus:(D.vs o2).length=o2.length:=aa _;have hj1:(o2.length+1)*56≤140737488355328:=by omega
  have hj2:o2.length+1≤140737488355328:=by omega
  have hvs1:D.vs (dX ks o2 q)=D.vs o2++[x.v]:=by rw[a1];simp[ar]
  simp -implicitDefEqProofs [x139l14_w,f3,f4,f5,f40,f41,f42,hlt,hsl,hm,hvk,ae,c172,hlk,hup,hlk2,hH2b,hH2b2,hzz,hus,hj1,hj2];refine ji (zz:=some 4) 0 (hG2.app _) ?_ (fun _ _=>Nat.zero_le _) (Nat.zero_le _) fun si' h2 hG' hl' hk' ht' hq' hn'=>?_
  ·rw[aR (by omega)];rw[show H2.length+1-H2.length=1 by omega];rfl
  have key:∀(i:Nat) (o:O),H2[i]?=some o→(∀m z,o≠.tok m z)→h2[i]?=some o:=fun i o ho h1=>by
   have hil:=(gS.1 ho).1;rw[hn' i (by omega) fun p hp c=>?_]
   ·exact co ho _
   ·subst c;obtain⟨m,h9⟩:=(hp ▸ hG2:GrowF 4 (D.vs o2) (.tok i) H2).tok;rw[ho] at h9;exact h1 _ _ (Option.some.inj h9)
  have k1:=key _ _ hH2s (by simp);have k2:=key _ _ hH2a (by simp);simp -implicitDefEqProofs [f42,hw];refine⟨k-1,by omega,?_⟩;rw[hJ];refine⟨j+1,dX ks o2 q,si',by omega,by simp[au],by simp[au,hvs1],by rw[hvs1];exact hG',k2,k1,hPj,by rw[a1];simp;omega⟩
end Go.Proofs.YtjhffhmokcogkaaGreatDoor.Ab
