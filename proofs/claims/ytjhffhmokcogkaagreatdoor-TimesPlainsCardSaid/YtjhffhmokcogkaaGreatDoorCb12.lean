/- A part. -/
import Derived.Test.YtjhffhmokcogkaaGreatDoorCb11
set_option linter.unusedVariables false
set_option linter.unusedSimpArgs false
set_option linter.defProp false
set_option maxRecDepth 20000
set_option maxHeartbeats 8000000
noncomputable section
namespace Go.Proofs.YtjhffhmokcogkaaGreatDoor.Ab
open Go
theorem AV {l:List D}(h:D.fms l=true):∀x∈l,x.fm=true:=by
 rw[D.fms_all,List.all_eq_true] at h;exact h
theorem af {d:D}(h:d.fm=true):∀x∈d.kids,x.fm=true:=by
 obtain⟨k,i,t,l⟩:=d;simp only[D.fm] at h;simp only[D.kids];split at h
 ·simp only[bT,beq_iff_eq] at h;have:=List.eq_nil_of_length_eq_zero h.2;subst this;intro x hx;cases hx
 ·split at h
  ·simp only[bT,beq_iff_eq] at h;have:=List.eq_nil_of_length_eq_zero h.2;subst this;intro x hx;cases hx
  ·split at h
   ·simp only[bT] at h;exact AV h.1.1
   ·cases h
theorem xx {d:D}(h:d.fm=true):d.nmr=d.nm:=by
 obtain⟨k,i,t,l⟩:=d;simp only[D.fm] at h;simp only[D.nmr,D.nm,D.kd,D.tx];by_cases hk:k=2
 ·subst hk;rw[if_neg (by decide),if_pos rfl] at h;simp only[bT] at h;rw[h.1.2];simp
 ·have:(k==2)=false:=by simp[hk]
  rw[this,Bool.false_and,Bool.false_and]
theorem md {d:D}(h:d.fm=true):d.labr=d.lab:=by
 have hn:=xx h;unfold D.labr D.lab;by_cases hk:d.kd=2
 ·rw[if_pos hk,if_neg (by omega),← hn];simp[D.nmr,hk]
 ·rw[if_neg hk];by_cases h1:d.kd=1
  ·rw[if_pos h1];by_cases h0:d.nu≤2147483647
   ·have h2:d.nu<2147483648:=by omega
    simp[h0,h2,h1]
   ·have h2:¬d.nu<2147483648:=by omega
    simp[h0,h2]
  ·rw[if_neg h1];have a:(d.kd==1)=false:=beq_false_of_ne h1;have b:(d.kd==2)=false:=beq_false_of_ne hk;unfold D.nm;rw[a,b];rfl
theorem aC {d x:D}(h:x∈d.kids):x.sz+1≤d.sz:=sQ h
theorem bZ {l:List D}{k:Nat}{x:D}(h:x∈l.drop k):x∈l:=List.mem_of_mem_drop h
section
variable {m c:Nat}{sh:Sh}{B:Nat}{g:List (ByteArray × Bool)→Bool→D→Int}{d:D}
theorem DF (hK:∀x∈d.kids,Ex53 m c sh B g x) (hl:d.sz<100000000000) (hm:d.sz+30≤m) (hl2:2≤d.kids.length) (st:Bool) (i i2:SI){rs:List (ByteArray × Bool)}(hrs:rs.length+d.sz≤B){h:List O}(hc:ChkAt h c sh) (hh:aU h) :
  call X E (m+2) 116 [.ref c 0,.sl (D.vs d.kids) i,.sl (scV rs.reverse) i2,.c (.bool st)] h=some (.c (.int .i64 (if (d.kid 1).prm=true then (if arN (wn (d.kid 1).tx)=(d.kids.length:Int)-2 then dj (g rs st) (d.kids.drop 2) else 11) else 4)),h):=by
 have hkl:=aQ d;have c159:∀t h,call X E (m+1) 159 [.c (.string t)] h=some (.tup [.c (.int .i64 (arN (wn t))),.c (.bool (arB (wn t)))],h):=fun t=>GJ t (by omega)
 have c114:call X E (m+1) 114 [.ref c 0,.sl (D.vs (d.kids.drop 2)) .any,.sl (scV rs.reverse) .any,.c (.bool st)] h=some (.c (.int .i64 (dj (g rs st) (d.kids.drop 2))),h) :=
  vd (fun x hx=>hK x (bZ hx)) (by simp;omega) (by simp;omega) _ _ st (fun x hx=>by have:=aC (bZ hx);omega) hc hh
 have hz:=D.hz d.kids;refine d6 rfl rfl rfl (by kernel_rfl) ⟨rfl,rfl⟩ (by simp[V.low]) hh ?_;generalize call X E (m+1)=cf at *;generalize scV rs.reverse=S at *;have h1:1<d.kids.length:=by omega
 have h1i:(1:Int)<d.kids.length:=by omega
 have h2i:(2:Int)≤d.kids.length:=by omega
 have hw:IntKind.i64.wrap ((d.kids.length:Int)-2)=(d.kids.length:Int)-2:=aB (by omega);by_cases hk:(d.kid 1).kd=2
 ·have hkb:((d.kid 1).kd != 2)=false:=by simp[hk]
  have hp:(d.kid 1).prm=arB (wn (d.kid 1).tx):=by simp[D.prm,hk]
  rw[hp];have c159x:=c159 (d.kid 1).tx;generalize arB (wn (d.kid 1).tx)=b at *;generalize arN (wn (d.kid 1).tx)=ar at *;cases b with
  | false=>simp -implicitDefEqProofs [x116_w,x116_r,h1,h1i,hkb,c159x]
  | true =>
   by_cases ha:ar=(d.kids.length:Int)-2
   ·have hab:(ar != (d.kids.length:Int)-2)=false:=by simp[ha]
    rw[if_pos rfl,if_pos ha];simp -implicitDefEqProofs [x116_w,x116_r,h1,h1i,h2i,hz,hkb,c159x,hw,hab,c114]
   ·have hab:(ar != (d.kids.length:Int)-2)=true:=by simp[ha]
    rw[if_pos rfl,if_neg ha];simp -implicitDefEqProofs [x116_w,x116_r,h1,h1i,hkb,c159x,hw,hab]
 ·have hkb:((d.kid 1).kd != 2)=true:=by simp[hk]
  have hp:(d.kid 1).prm=false:=by simp[D.prm,hk]
  rw[hp];simp -implicitDefEqProofs [x116_w,x116_r,h1,h1i,hkb]
theorem Fp (hK2:∀x∈(d.kid 2).kids,Ex53 m c sh B g x) (hK3:∀x∈(d.kid 3).kids,Ex53 m c sh B g x) (hl:d.sz<100000000000) (hm:d.sz+30≤m) (hl4:d.kids.length=4) (i i2:SI){rs:List (ByteArray × Bool)}(hrs:rs.length+d.sz≤B){h:List O}(hc:ChkAt h c sh) (hh:aU h) :
  call X E (m+2) 117 [.ref c 0,.sl (D.vs d.kids) i,.sl (scV rs.reverse) i2] h=some (.c (.int .i64 (match fdK sh (d.kid 1).key2 with
   | none=>5
   | some p=>if p.2.2=false then 14 else if p.1=(d.kid 2).kids.length∧p.2.1=(d.kid 3).kids.length then (if dj (g rs true) (d.kid 2).kids=0 then dj (g rs false) (d.kid 3).kids else dj (g rs true) (d.kid 2).kids) else 11)),h):=by
 have hm2:=aC (aA (d:=d) (j:=2) (by omega));have hm3:=aC (aA (d:=d) (j:=3) (by omega));have hk2:=aQ (d.kid 2);have hk3:=aQ (d.kid 3);have c89:∀(x:D) h,call X E (m+1) 89 [x.v] h=some (x.key,h):=fun x=>FV x
 have c114a:∀R,aU (h++R)→call X E (m+1) 114 [.ref c 0,.sl (D.vs (d.kid 2).kids) .any,.sl (scV rs.reverse) .any,.c (.bool true)] (h++R)=some (.c (.int .i64 (dj (g rs true) (d.kid 2).kids)),h++R):=fun R hR =>
  vd hK2 (by omega) (by omega) _ _ true (fun x hx=>by have:=aC hx;omega) (hc.app R) hR
 have c114b:∀R,aU (h++R)→call X E (m+1) 114 [.ref c 0,.sl (D.vs (d.kid 3).kids) .any,.sl (scV rs.reverse) .any,.c (.bool false)] (h++R)=some (.c (.int .i64 (dj (g rs false) (d.kid 3).kids)),h++R):=fun R hR =>
  vd hK3 (by omega) (by omega) _ _ false (fun x hx=>by have:=aC hx;omega) (hc.app R) hR
 refine d6 rfl rfl rfl (by kernel_rfl) ⟨rfl,rfl⟩ (by simp[V.low]) hh ?_;generalize call X E (m+1)=cf at *;generalize scV rs.reverse=S at *;obtain⟨q,h1,h2⟩:=hc;have h2a:=bU h2;have h1a:=bU h1;have hlk:=fun (e:List O)=>oH (h2a e) (d.kid 1)
 have hkc:(d.kid 1).key.vw2=(d.kid 1).key:=rfl;have hr2:(V.ref c 0).vw2=.ref c 0:=rfl;cases hf:fdK sh (d.kid 1).key2 with
 | none =>
  rw[hf] at hlk;simp only[shR] at hlk;simp -implicitDefEqProofs [-bc,x117_w,x117_r,hl4,c89,h1,h1a,hlk]
 | some p =>
  obtain⟨a,b,s⟩:=p;rw[hf] at hlk;simp only[shR] at hlk;have hl3:∀a b s,aU (h++[O.cells [.c (.int .i64 a),.c (.int .i64 b),.c (.bool s)]]):=fun a b s=>nV hh rfl
  have hlo:=hl3 a b s;have ca:=c114a _ hlo;have cb:=c114b _ hlo;have ea:((a:Int)==((d.kid 2).kids.length:Int))=decide (a=(d.kid 2).kids.length):=by rw[Bool.eq_iff_iff,beq_iff_eq,dT];omega
  have eb:((b:Int)==((d.kid 3).kids.length:Int))=decide (b=(d.kid 3).kids.length):=by rw[Bool.eq_iff_iff,beq_iff_eq,dT];omega
  have na:((a:Int) != ((d.kid 2).kids.length:Int)) = !decide (a=(d.kid 2).kids.length):=by rw[bne,ea]
  have nb:((b:Int) != ((d.kid 3).kids.length:Int)) = !decide (b=(d.kid 3).kids.length):=by rw[bne,eb]
  cases s with
  | false=>simp -implicitDefEqProofs [-bc,x117_w,x117_r,hl4,c89,h1,h1a,hlk]
  | true =>
   by_cases h3:a=(d.kid 2).kids.length
   ·by_cases h4:b=(d.kid 3).kids.length
    ·have hA:decide (a=(d.kid 2).kids.length)=true:=by simp[h3]
     have hB:decide (b=(d.kid 3).kids.length)=true:=by simp[h4]
     rw[hA] at na;rw[hB] at nb;simp only[Bool.true_eq_false,if_false,h3,h4,and_self,if_true];by_cases h0:dj (g rs true) (d.kid 2).kids=0
     ·rw[h0] at ca;rw[if_pos h0];simp -implicitDefEqProofs [-bc,x117_w,x117_r,hl4,c89,h1,h1a,hlk,na,nb,ca,cb]
     ·have h0b:(dj (g rs true) (d.kid 2).kids != 0)=true:=by simp[h0]
      rw[if_neg h0];simp -implicitDefEqProofs [-bc,x117_w,x117_r,hl4,c89,h1,h1a,hlk,na,nb,ca,h0b]
    ·have hA:decide (a=(d.kid 2).kids.length)=true:=by simp[h3]
     have hB:decide (b=(d.kid 3).kids.length)=false:=by simp[h4]
     rw[hA] at na;rw[hB] at nb;simp -implicitDefEqProofs [-bc,x117_w,x117_r,hl4,c89,h1,h1a,hlk,na,nb,h4]
   ·have hA:decide (a=(d.kid 2).kids.length)=false:=by simp[h3]
    rw[hA] at na;simp -implicitDefEqProofs [-bc,x117_w,x117_r,hl4,c89,h1,h1a,hlk,na,h3]
end
def exB (g:List (ByteArray × Bool)→Bool→D→Int) (sh:Sh) (rs:List (ByteArray × Bool)) (st:Bool) (d:D):Int :=
 if (d.dyn == !st&&fmW (wn d.wd) d)=true then
  (if hdP (wn d.wd) sh rs st d=0 then exL g rs (((d.kid 1).tx,!(wn d.wd==13))::rs) (prP d) else hdP (wn d.wd) sh rs st d) else 4
section
variable {g:List (ByteArray × Bool)→Bool→D→Int}{sh:Sh}{rs:List (ByteArray × Bool)}{d:D}
theorem bi {w:Nat}(hw:wn d.wd=w) (st:Bool) (h:(slw w == !st&&fmW w d)=false):exB g sh rs st d=4:=by
 unfold exB D.dyn;rw[hw,h];rfl
theorem dn {w:Nat}(hw:wn d.wd=w) (st:Bool) (h:(slw w == !st&&fmW w d)=true):exB g sh rs st d=if hdP w sh rs st d=0 then exL g rs (((d.kid 1).tx,!(w==13))::rs) (prP d) else hdP w sh rs st d:=by
 unfold exB D.dyn;rw[hw,h];rfl
theorem vb (rs2:List (ByteArray × Bool)) (x:D) (mv:Bool):exL g rs rs2 [(x,mv,false)]=g rs (!mv) x:=by
 simp only[exL,Bool.false_eq_true,if_false];split
 ·rename_i h;rw[h]
 ·rfl
theorem pE (rs2:List (ByteArray × Bool)) (x y:D) (a b:Bool):exL g rs rs2 [(x,a,false),(y,b,true)]=if g rs (!a) x=0 then g rs2 (!b) y else g rs (!a) x:=by
 simp only[exL,Bool.false_eq_true,if_false,if_true];split
 ·split
  ·rename_i h;rw[h]
  ·rfl
 ·rfl
end
theorem H6 {d:D}(h:d.kids.length=2):d.kids.drop 1=[d.kid 1]:=iG h
section
variable {m c:Nat}{sh:Sh}{B:Nat}{g:List (ByteArray × Bool)→Bool→D→Int}{d:D}
theorem GS (hK:∀x∈d.kids,Ex53 m c sh B g x) (hfm:d.fm=true) (hl:d.sz<100000000000) (hB:B+40≤m) (hB2:B<100000000000) (hl2:2≤d.kids.length) (hwd:d.wd=(d.kid 0).tx) (i i2:SI){rs:List (ByteArray × Bool)}(hrs:rs.length+d.sz≤B){h:List O}(hc:ChkAt h c sh) (hh:aU h) :
  call X E (m+3) 112 [.ref c 0,.sl (D.vs d.kids) i,.sl (scV rs.reverse) i2] h=some (.c (.int .i64 (exB g sh rs true d)),h):=by
 have hkl:=aQ d;have hrl:rs.reverse.length=rs.length:=List.length_reverse;have hm1:=aC (aA (d:=d) (j:=1) (by omega));have f1:(d.kid 1).fm=true:=af hfm _ (aA (by omega));have hn1:=xx f1;have hlb1:=md f1;have c50:∀(x:D) h,call X E (m+2) 50 [x.v] h=some (.c (.bool x.sml),h):=fun x=>Hc x
 have c115:∀(x:D) h,call X E (m+2) 115 [x.v] h=some (.c (.bool x.nm),h):=fun x=>tB x
 have c106:∀(x:D) h,call X E (m+2) 106 [x.v] h=some (.c (.bool x.lab),h):=fun x=>BU x
 have c89:∀(x:D) h,call X E (m+2) 89 [x.v] h=some (x.key,h):=fun x=>FV x
 have c113:∀(x:D) h,call X E (m+2) 113 [.sl (scV rs.reverse) .any,x.v,.c (.bool true)] h=some (.c (.int .i64 (nmE rs x true)),h):=fun x h=>by
  have:=DB x rs.reverse .any true (n:=m+1) (by omega) (by omega) h
  rwa [List.reverse_reverse] at this
 have c52:∀(t:ByteArray) h,call X E (m+2) 52 [.sl (scV rs.reverse) .any,.c (.string t),.c (.bool true)] h=some (.sl (scV (((t,true)::rs).reverse)) .any,h):=fun t h=>by
  have:=Fb rs.reverse .any t true (by omega) (n:=m) h
  rwa [List.reverse_cons]
 have c53:∀(x:D) (rs':List (ByteArray × Bool)) i h',x∈d.kids→rs'.length+x.sz≤B→ChkAt h' c sh→aU h'→call X E (m+2) 53 [.ref c 0,x.v,.sl (scV rs'.reverse) i,.c (.bool true)] h'=some (.c (.int .i64 (g rs' true x)),h') :=
  fun x rs' i h' hx hb h1 h2=>((hK x hx).up (by omega)) rs' i true h' hb h1 h2
 have c114:∀k R,ChkAt (h++R) c sh→aU (h++R)→call X E (m+2) 114 [.ref c 0,.sl (D.vs (d.kids.drop k)) .any,.sl (scV rs.reverse) .any,.c (.bool true)] (h++R)=some (.c (.int .i64 (dj (g rs true) (d.kids.drop k))),h++R):=fun k R h1 h2 =>
  vd (n:=m+1) (fun x hx=>(hK x (bZ hx)).up (by omega)) (by simp;omega) (by simp;omega) _ _ true (fun x hx=>by have:=aC (bZ hx);omega) h1 h2
 have c116:∀i,call X E (m+2) 116 [.ref c 0,.sl (D.vs d.kids) i,.sl (scV rs.reverse) .any,.c (.bool true)] h=some (.c (.int .i64 (if (d.kid 1).prm=true then (if arN (wn (d.kid 1).tx)=(d.kids.length:Int)-2 then dj (g rs true) (d.kids.drop 2) else 11) else 4)),h) :=
  fun i=>DF hK hl (by omega) hl2 true _ _ hrs hc hh
 have c114h:∀k,call X E (m+2) 114 [.ref c 0,.sl (D.vs (d.kids.drop k)) .any,.sl (scV rs.reverse) .any,.c (.bool true)] h=some (.c (.int .i64 (dj (g rs true) (d.kids.drop k))),h):=fun k=>by
  have:=c114 k [] (by simpa using hc) (by simpa using hh);simpa using this
 have hz:=D.hz d.kids;have h0l:0<d.kids.length:=by omega
 have h0i:(0:Int)<d.kids.length:=by omega
 have h1l:1<d.kids.length:=by omega
 have h1i:(1:Int)<d.kids.length:=by omega
 have h1j:(1:Int)≤d.kids.length:=by omega
 have h2j:(2:Int)≤d.kids.length:=by omega
 have hw2:IntKind.i64.wrap ((d.kids.length:Int)-2)=(d.kids.length:Int)-2:=aB (by omega);have hr2:(V.ref c 0).vw2=.ref c 0:=rfl;refine d6 rfl rfl rfl (by kernel_rfl) ⟨rfl,rfl⟩ (by simp[V.low]) hh ?_;generalize m+2=q at *;generalize call X E q=cf at *;by_cases h4:wn (d.kid 0).tx=4
 ·have hw:wn d.wd=4:=by rw[hwd];exact h4
  cases hl:(d.kids.length==2) with
  | false =>
   rw[bi hw true (by simp[fmW,hl])];simp -implicitDefEqProofs [x112_w,x112_r,h0l,h0i,h1l,h1i,bV,bQ,h4,hl]
  | true =>
   rw[dn hw true (by simp[fmW,hl,slw])];rw[show hdP 4 sh rs true d=0 from rfl,if_pos rfl,show prP d=[] by simp[prP,hw]];simp -implicitDefEqProofs [x112_w,x112_r,h0l,h0i,h1l,h1i,bV,bQ,h4,hl];rfl
 by_cases h6:wn (d.kid 0).tx=6
 ·have hw:wn d.wd=6:=by rw[hwd];exact h6
  cases hl:(d.kids.length==2) with
  | false =>
   rw[bi hw true (by simp[fmW,hl])];simp -implicitDefEqProofs [x112_w,x112_r,h0l,h0i,h1l,h1i,bV,bQ,h6,hl]
  | true =>
   cases hs:(d.kid 1).sml with
   | false =>
    rw[bi hw true (by simp[fmW,hs])];simp -implicitDefEqProofs [x112_w,x112_r,h0l,h0i,h1l,h1i,bV,bQ,h6,hl,hs,c50]
   | true =>
    rw[dn hw true (by simp[fmW,hl,hs,slw])];rw[show hdP 6 sh rs true d=0 from rfl,if_pos rfl,show prP d=[] by simp[prP,hw]];simp -implicitDefEqProofs [x112_w,x112_r,h0l,h0i,h1l,h1i,bV,bQ,h6,hl,hs,c50];rfl
 by_cases h5:wn (d.kid 0).tx=5
 ·have hw:wn d.wd=5:=by rw[hwd];exact h5
  cases hl:(d.kids.length==2) with
  | false =>
   rw[bi hw true (by simp[fmW,hl])];simp -implicitDefEqProofs [x112_w,x112_r,h0l,h0i,h1l,h1i,bV,bQ,h5,hl]
  | true =>
   have hR:exB g sh rs true d=nmE rs (d.kid 1) true:=by
    unfold nmE;cases hs:(d.kid 1).nm with
    | false =>
     rw[bi hw true (by simp[fmW,hn1,hs])];rfl
    | true =>
     rw[dn hw true (by simp[fmW,hl,hn1,hs,slw])];rw[show prP d=[] by simp[prP,hw]];simp only[hdP,exL];split<;>simp_all
   rw[hR];simp -implicitDefEqProofs [x112_w,x112_r,h0l,h0i,h1l,h1i,bV,bQ,h5,hl,c113]
 by_cases h1:wn (d.kid 0).tx=1
 ·have hw:wn d.wd=1:=by rw[hwd];exact h1
  cases hl:(d.kids.length==4) with
  | false =>
   rw[bi hw true (by simp[fmW,hl])];simp -implicitDefEqProofs [x112_w,x112_r,h0l,h0i,h1l,h1i,bV,bQ,h1,hl]
  | true =>
   rw[dn hw true (by simp[fmW,hl,slw])];rw[show hdP 1 sh rs true d=0 from rfl,if_pos rfl,show prP d=(d.kids.drop 1).map (mk3 false) by simp[prP,hw],dX];have c:=c114h 1;simp only[Bool.not_false] at c ⊢;simp at c ⊢;simp -implicitDefEqProofs [x112_w,x112_r,h0l,h0i,h1l,h1i,bV,bQ,h1,hl,h1j,hz,c]
 by_cases h2:wn (d.kid 0).tx=2
 ·have hw:wn d.wd=2:=by rw[hwd];exact h2
  cases hl:(d.kids.length==4) with
  | false =>
   rw[bi hw true (by simp[fmW,hl])];simp -implicitDefEqProofs [x112_w,x112_r,h0l,h0i,h1l,h1i,bV,bQ,h2,hl]
  | true =>
   have hl4:d.kids.length=4:=by simpa using hl
   cases hs:(d.kid 1).nm with
   | false =>
    rw[bi hw true (by simp[fmW,hn1,hs])];simp -implicitDefEqProofs [x112_w,x112_r,h0l,h0i,h1l,h1i,bV,bQ,h2,hl,hs,c115]
   | true =>
    rw[dn hw true (by simp[fmW,hl,hn1,hs,slw])];rw[show hdP 2 sh rs true d=0 from rfl,if_pos rfl,show prP d=[(d.kid 2,false,false),(d.kid 3,false,true)] by simp[prP,hw],pE];have hm2:=aC (aA (d:=d) (j:=2) (by omega));have hm3:=aC (aA (d:=d) (j:=3) (by omega));have c2:=c53 (d.kid 2) rs .any h (aA (by omega)) (by omega) hc hh;have c3:=c53 (d.kid 3) (((d.kid 1).tx,true)::rs) .any h (aA (by omega)) (by simp;omega) hc hh;have c5:=c52 (d.kid 1).tx;have hkb:(!((2:Nat)==13))=true:=rfl;rw[hkb];simp only[Bool.not_false];generalize scV ((((d.kid 1).tx,true)::rs).reverse)=S2 at *;by_cases h0:g rs true (d.kid 2)=0
    ·rw[if_pos h0];rw[h0] at c2;simp -implicitDefEqProofs [x112_w,x112_r,h0l,h0i,h1l,h1i,bV,bQ,h2,hl,hs,hl4,c115,c2,c3,c5]
    ·have h0b:(g rs true (d.kid 2) != 0)=true:=by simp[h0]
     rw[if_neg h0];simp -implicitDefEqProofs [x112_w,x112_r,h0l,h0i,h1l,h1i,bV,bQ,h2,hl,hs,hl4,c115,c2,h0b]
 by_cases h7:wn (d.kid 0).tx=7
 ·have hw:wn d.wd=7:=by rw[hwd];exact h7
  have hR:exB g sh rs true d=(if (d.kid 1).prm=true then (if arN (wn (d.kid 1).tx)=(d.kids.length:Int)-2 then dj (g rs true) (d.kids.drop 2) else 11) else 4):=by
   cases hs:(d.kid 1).prm with
   | false =>
    rw[bi hw true (by simp[fmW,hs])];rfl
   | true =>
    rw[dn hw true (by simp[fmW,hs,slw,h1l])];rw[show prP d=(d.kids.drop 2).map (mk3 false) by simp[prP,hw],dX];simp only[hdP];by_cases ha:arN (wn (d.kid 1).tx)=(d.kids.length:Int)-2
    ·simp[ha]
    ·simp[ha]
  rw[hR];simp -implicitDefEqProofs [x112_w,x112_r,h0l,h0i,h1l,h1i,bV,bQ,h7,c116]
 by_cases h3:wn (d.kid 0).tx=3
 ·have hw:wn d.wd=3:=by rw[hwd];exact h3
  cases hs:(d.kid 1).lab with
  | false =>
   rw[bi hw true (by simp[fmW,hlb1,hs])];simp -implicitDefEqProofs [x112_w,x112_r,h0l,h0i,h1l,h1i,bV,bQ,h3,hs,c106]
  | true =>
   rw[dn hw true (by simp[fmW,hlb1,hs,slw,h1l])];rw[show prP d=(d.kids.drop 2).map (mk3 false) by simp[prP,hw],dX];have hH:hdP 3 sh rs true d=match fdK sh (d.kid 1).key2 with
    | none=>5
    | some p=>if p.2.2=true then 14 else if (p.1:Int)=(d.kids.length:Int)-2 then 0 else 11:=rfl
   rw[hH];obtain⟨q2,e1,e2⟩:=id hc;have e2a:=bU e2;have e1a:=bU e1;have hlk:=fun (e:List O)=>oH (e2a e) (d.kid 1)
   have hkc:(d.kid 1).key.vw2=(d.kid 1).key:=rfl;simp only[Bool.not_false];cases hf:fdK sh (d.kid 1).key2 with
   | none =>
    rw[hf] at hlk;simp only[shR] at hlk;simp -implicitDefEqProofs [x112_w,x112_r,h0l,h0i,h1l,h1i,bV,bQ,h3,-bc,hs,c106,c89,e1,e1a,hlk]
   | some p =>
    obtain⟨a,b,s⟩:=p;rw[hf] at hlk;simp only[shR] at hlk;have hlo:aU (h++[O.cells [.c (.int .i64 a),.c (.int .i64 b),.c (.bool s)]]):=nV hh rfl;have ca:=c114 2 _ (hc.app _) hlo;cases s with
    | true =>
     simp -implicitDefEqProofs [x112_w,x112_r,h0l,h0i,h1l,h1i,bV,bQ,h3,-bc,hs,c106,c89,e1,e1a,hlk]
    | false =>
     by_cases ha:(a:Int)=(d.kids.length:Int)-2
     ·have hab:((a:Int) != (d.kids.length:Int)-2)=false:=by simp[ha]
      simp only[Bool.false_eq_true,if_false,ha,if_true];simp -implicitDefEqProofs [x112_w,x112_r,h0l,h0i,h1l,h1i,bV,bQ,h3,-bc,hs,c106,c89,e1,e1a,hlk,hw2,hab,h2j,hz,ca]
     ·have hab:((a:Int) != (d.kids.length:Int)-2)=true:=by simp[ha]
      simp only[Bool.false_eq_true,if_false,ha];simp -implicitDefEqProofs [x112_w,x112_r,h0l,h0i,h1l,h1i,bV,bQ,h3,-bc,hs,c106,c89,e1,e1a,hlk,hw2,hab]
 have b4:(wn (d.kid 0).tx==4)=false:=by simp[h4]
 have b6:(wn (d.kid 0).tx==6)=false:=by simp[h6]
 have b5:(wn (d.kid 0).tx==5)=false:=by simp[h5]
 have b1:(wn (d.kid 0).tx==1)=false:=by simp[h1]
 have b2:(wn (d.kid 0).tx==2)=false:=by simp[h2]
 have b7:(wn (d.kid 0).tx==7)=false:=by simp[h7]
 have b3:(wn (d.kid 0).tx==3)=false:=by simp[h3]
 have hR:exB g sh rs true d=4:=by
  have hT:wn d.wd=wn (d.kid 0).tx:=by rw[hwd]
  refine bi hT true ?_;unfold fmW slw;by_cases hs:8≤wn (d.kid 0).tx∧wn (d.kid 0).tx≤15
  ·simp[hs]
  ·rw[if_neg (by omega),if_neg (by omega),if_neg (by omega),if_neg (by omega),if_neg (by omega),if_neg (by omega),if_neg (by omega),if_neg (by omega)];simp
 rw[hR];simp -implicitDefEqProofs [x112_w,x112_r,h0l,h0i,h1l,h1i,bV,bQ,b4,b6,b5,b1,b2,b7,b3]
end
section
variable {m c:Nat}{sh:Sh}{B:Nat}{g:List (ByteArray × Bool)→Bool→D→Int}{d:D}
theorem jB {w:Nat}{d:D}(h:fmW w d=true):2≤d.kids.length:=by
 unfold fmW at h
 repeat' split at h
 all_goals first
  | (cases h;done)
  | (simp at h;omega)
theorem Hu (hK:∀x∈d.kids,Ex53 m c sh B g x) (hK2:d.kids.length=4→∀x∈(d.kid 2).kids,Ex53 m c sh B g x) (hK3:d.kids.length=4→∀x∈(d.kid 3).kids,Ex53 m c sh B g x) (hfm:d.fm=true) (hl:d.sz<100000000000) (hB:B+40≤m) (hB2:B<100000000000):Ex53 (m+4) c sh B (fun rs st d=>exB g sh rs st d) d:=by
 intro rs i2 st h hrs hc hh;show call X E (m+3+1) 53 _ h=some (.c (.int .i64 (exB g sh rs st d)),h);have hkl:=aQ d;have hr2:(V.ref c 0).vw2=.ref c 0:=rfl;have hh2:=nP hh d;have hc2:=hc.app [.cells d.v.cells];by_cases hk:d.kd=3∧2≤d.kids.length∧(d.kid 0).kd=2;rotate_left
 ·have hR:exB g sh rs st d=4:=by
   refine bi rfl st ?_;cases hf:fmW (wn d.wd) d with
   | false=>simp
   | true =>
    exfalso;have h2:=jB hf;refine hk ⟨?_,h2,?_⟩
    all_goals
     false_or_by_contra
     rename_i hn;have hw:d.wd=⟨#[]⟩:=by
      unfold D.wd;rw[if_neg (fun h=>hn (by first|exact h.1|exact h.2.2))]
     rw[hw,kq] at hf;simp[fmW] at hf
  rw[hR];refine d6 rfl rfl rfl (by kernel_rfl) ⟨rfl,rfl⟩ (by simp[V.low]) hh ?_;generalize call X E (m+3)=cf at *;by_cases h3:d.kd=3
  ·have h3b:(d.kd != 3)=false:=by simp[h3]
   by_cases h2:2≤d.kids.length
   ·have h2b:¬(d.kids.length:Int)<2:=by omega
    have h0l:0<d.kids.length:=by omega
    have h0i:(0:Int)<d.kids.length:=by omega
    have h0b:((d.kid 0).kd != 2)=true:=by
     have:¬(d.kid 0).kd=2:=fun e=>hk ⟨h3,h2,e⟩
     simp[this]
    simp -implicitDefEqProofs [x53_w,x53_r,h3b,h2b,h0l,h0i,h0b]
   ·have h2b:(d.kids.length:Int)<2:=by omega
    simp -implicitDefEqProofs [x53_w,x53_r,h3b,h2b]
  ·have h3b:(d.kd != 3)=true:=by simp[h3]
   simp -implicitDefEqProofs [x53_w,x53_r,h3b]
 obtain⟨h3,hl2,hk0⟩:=hk;have hwd:d.wd=(d.kid 0).tx:=by
  unfold D.wd;rw[if_pos ⟨h3,by intro e;rw[e] at hl2;simp at hl2,hk0⟩]
 have hrl:rs.reverse.length=rs.length:=List.length_reverse;have hm1:=aC (aA (d:=d) (j:=1) (by omega));have f1:(d.kid 1).fm=true:=af hfm _ (aA (by omega));have hn1:=xx f1;have hlb1:=md f1;have c112:∀i,call X E (m+3) 112 [.ref c 0,.sl (D.vs d.kids) i,.sl (scV rs.reverse) .any] (h++[.cells d.v.cells])=some (.c (.int .i64 (exB g sh rs true d)),h++[.cells d.v.cells]) :=
  fun i=>GS hK hfm hl hB hB2 hl2 hwd _ _ hrs hc2 hh2
 have c115:∀(x:D) h,call X E (m+3) 115 [x.v] h=some (.c (.bool x.nm),h):=fun x=>tB x
 have c106:∀(x:D) h,call X E (m+3) 106 [x.v] h=some (.c (.bool x.lab),h):=fun x=>BU x
 have c113:∀(x:D) h,call X E (m+3) 113 [.sl (scV rs.reverse) .any,x.v,.c (.bool false)] h=some (.c (.int .i64 (nmE rs x false)),h):=fun x h=>by
  have:=DB x rs.reverse .any false (n:=m+2) (by omega) (by omega) h
  rwa [List.reverse_reverse] at this
 have c52:∀(t:ByteArray) (b:Bool) h,call X E (m+3) 52 [.sl (scV rs.reverse) .any,.c (.string t),.c (.bool b)] h=some (.sl (scV (((t,b)::rs).reverse)) .any,h):=fun t b h=>by
  have:=Fb rs.reverse .any t b (by omega) (n:=m+1) h
  rwa [List.reverse_cons]
 have c53:∀(x:D) (rs':List (ByteArray × Bool)) i st h',x∈d.kids→rs'.length+x.sz≤B→ChkAt h' c sh→aU h'→call X E (m+3) 53 [.ref c 0,x.v,.sl (scV rs'.reverse) i,.c (.bool st)] h'=some (.c (.int .i64 (g rs' st x)),h') :=
  fun x rs' i st h' hx hb h1 h2=>((hK x hx).up (by omega)) rs' i st h' hb h1 h2
 have c114:∀k,call X E (m+3) 114 [.ref c 0,.sl (D.vs (d.kids.drop k)) .any,.sl (scV rs.reverse) .any,.c (.bool false)] (h++[.cells d.v.cells])=some (.c (.int .i64 (dj (g rs false) (d.kids.drop k))),h++[.cells d.v.cells]):=fun k =>
  vd (n:=m+2) (fun x hx=>(hK x (bZ hx)).up (by omega)) (by simp;omega) (by simp;omega) _ _ false (fun x hx=>by have:=aC (bZ hx);omega) hc2 hh2
 have c116:∀i,call X E (m+3) 116 [.ref c 0,.sl (D.vs d.kids) i,.sl (scV rs.reverse) .any,.c (.bool false)] (h++[.cells d.v.cells])=some (.c (.int .i64 (if (d.kid 1).prm=true then (if arN (wn (d.kid 1).tx)=(d.kids.length:Int)-2 then dj (g rs false) (d.kids.drop 2) else 11) else 4)),h++[.cells d.v.cells]) :=
  fun i=>up (by omega) (DF hK hl (by omega) hl2 false _ _ hrs hc2 hh2)
 have c117:d.kids.length=4→∀i,call X E (m+3) 117 [.ref c 0,.sl (D.vs d.kids) i,.sl (scV rs.reverse) .any] (h++[.cells d.v.cells])=some (.c (.int .i64 (match fdK sh (d.kid 1).key2 with
   | none=>5
   | some p=>if p.2.2=false then 14 else if p.1=(d.kid 2).kids.length∧p.2.1=(d.kid 3).kids.length then (if dj (g rs true) (d.kid 2).kids=0 then dj (g rs false) (d.kid 3).kids else dj (g rs true) (d.kid 2).kids) else 11)),h++[.cells d.v.cells]) :=
  fun h4 i=>up (by omega) (Fp (hK2 h4) (hK3 h4) hl (by omega) h4 _ _ hrs hc2 hh2)
 have hz:=D.hz d.kids;have h0l:0<d.kids.length:=by omega
 have h0i:(0:Int)<d.kids.length:=by omega
 have h1l:1<d.kids.length:=by omega
 have h1i:(1:Int)<d.kids.length:=by omega
 have h1j:(1:Int)≤d.kids.length:=by omega
 have h2j:(2:Int)≤d.kids.length:=by omega
 have h3b:(d.kd != 3)=false:=by simp[h3]
 have h2b:¬(d.kids.length:Int)<2:=by omega
 have h0b:((d.kid 0).kd != 2)=false:=by simp[hk0]
 refine d6 rfl rfl rfl (by kernel_rfl) ⟨rfl,rfl⟩ (by simp[V.low]) hh ?_;generalize m+3=q at *;generalize call X E q=cf at *;cases st with
 | true =>
  simp -implicitDefEqProofs [x53_w,x53_r,h3b,h2b,h0l,h0i,h0b,c112]
 | false =>
  by_cases h8:wn (d.kid 0).tx=8
  ·have hw:wn d.wd=8:=by rw[hwd];exact h8
   cases hl:(d.kids.length==2) with
   | false =>
    rw[bi hw false (by simp[fmW,hl])];simp -implicitDefEqProofs [x53_w,x53_r,h3b,h2b,h0b,h0l,h0i,h1l,h1i,bV,bQ,h8,hl]
   | true =>
    have hR:exB g sh rs false d=nmE rs (d.kid 1) false:=by
     unfold nmE;cases hs:(d.kid 1).nm with
     | false =>
      rw[bi hw false (by simp[fmW,hn1,hs])];rfl
     | true =>
      rw[dn hw false (by simp[fmW,hl,hn1,hs,slw])];rw[show prP d=[] by simp[prP,hw]];simp only[hdP,exL];split<;>simp_all
    rw[hR];simp -implicitDefEqProofs [x53_w,x53_r,h3b,h2b,h0b,h0l,h0i,h1l,h1i,bV,bQ,h8,hl,c113]
  by_cases h9:wn (d.kid 0).tx=9
  ·have hw:wn d.wd=9:=by rw[hwd];exact h9
   cases hl:(d.kids.length==2) with
   | false =>
    rw[bi hw false (by simp[fmW,hl])];simp -implicitDefEqProofs [x53_w,x53_r,h3b,h2b,h0b,h0l,h0i,h1l,h1i,bV,bQ,h9,hl]
   | true =>
    have hl2e:d.kids.length=2:=by simpa using hl
    rw[dn hw false (by simp[fmW,hl,slw])];rw[show hdP 9 sh rs false d=0 from rfl,if_pos rfl,show prP d=[(d.kid 1,false,false)] by simp only[prP,hw];simp only[true_or,if_true,H6 hl2e];rfl,vb];have c1:=c53 (d.kid 1) rs .any true _ (aA (by omega)) (by omega) hc2 hh2;simp -implicitDefEqProofs [x53_w,x53_r,h3b,h2b,h0b,h0l,h0i,h1l,h1i,bV,bQ,h9,hl,c1]
  by_cases h10:wn (d.kid 0).tx=10
  ·have hw:wn d.wd=10:=by rw[hwd];exact h10
   cases hl:(d.kids.length==4) with
   | false =>
    rw[bi hw false (by simp[fmW,hl])];simp -implicitDefEqProofs [x53_w,x53_r,h3b,h2b,h0b,h0l,h0i,h1l,h1i,bV,bQ,h10,hl]
   | true =>
    rw[dn hw false (by simp[fmW,hl,slw])];have hk1:(d.kids.take 2).drop 1=[d.kid 1]:=iz (by omega);rw[show hdP 10 sh rs false d=0 from rfl,if_pos rfl,show prP d=[(d.kid 1,false,false)]++(d.kids.drop 2).map (mk3 true) by simp only[prP,hw,hk1];rfl,pz,vb,dX];have c1:=c53 (d.kid 1) rs .any true _ (aA (by omega)) (by omega) hc2 hh2;have c4:=c114 2;simp only[Bool.not_true,Bool.not_false];by_cases h0:g rs true (d.kid 1)=0
    ·rw[if_pos h0];rw[h0] at c1;simp -implicitDefEqProofs [x53_w,x53_r,h3b,h2b,h0b,h0l,h0i,h1l,h1i,bV,bQ,h10,hl,c1,c4,h2j,hz]
    ·have h0b':(g rs true (d.kid 1) != 0)=true:=by simp[h0]
     rw[if_neg h0];simp -implicitDefEqProofs [x53_w,x53_r,h3b,h2b,h0b,h0l,h0i,h1l,h1i,bV,bQ,h10,hl,c1,h0b']
  by_cases h11:wn (d.kid 0).tx=11
  ·have hw:wn d.wd=11:=by rw[hwd];exact h11
   cases hl:(d.kids.length==4) with
   | false =>
    rw[bi hw false (by simp[fmW,hl])];simp -implicitDefEqProofs [x53_w,x53_r,h3b,h2b,h0b,h0l,h0i,h1l,h1i,bV,bQ,h11,hl]
   | true =>
    rw[dn hw false (by simp[fmW,hl,slw])];rw[show hdP 11 sh rs false d=0 from rfl,if_pos rfl,show prP d=(d.kids.drop 1).map (mk3 true) by simp[prP,hw],dX];have c:=c114 1;simp only[Bool.not_true] at c ⊢;simp at c ⊢;simp -implicitDefEqProofs [x53_w,x53_r,h3b,h2b,h0b,h0l,h0i,h1l,h1i,bV,bQ,h11,hl,h1j,hz,c]
  by_cases h12:wn (d.kid 0).tx=12
  ·have hw:wn d.wd=12:=by rw[hwd];exact h12
   cases hl:(d.kids.length==4) with
   | false =>
    rw[bi hw false (by simp[fmW,hl])];simp -implicitDefEqProofs [x53_w,x53_r,h3b,h2b,h0b,h0l,h0i,h1l,h1i,bV,bQ,h12,hl]
   | true =>
    have hl4:d.kids.length=4:=by simpa using hl
    cases hs:(d.kid 1).nm with
    | false =>
     rw[bi hw false (by simp[fmW,hn1,hs])];simp -implicitDefEqProofs [x53_w,x53_r,h3b,h2b,h0b,h0l,h0i,h1l,h1i,bV,bQ,h12,hl,hs,c115]
    | true =>
     rw[dn hw false (by simp[fmW,hl,hn1,hs,slw])];rw[show hdP 12 sh rs false d=0 from rfl,if_pos rfl,show prP d=[(d.kid 2,false,false),(d.kid 3,true,true)] by simp[prP,hw],pE];have hm2:=aC (aA (d:=d) (j:=2) (by omega));have hm3:=aC (aA (d:=d) (j:=3) (by omega));have c2:=c53 (d.kid 2) rs .any true _ (aA (by omega)) (by omega) hc2 hh2;have c3:=c53 (d.kid 3) (((d.kid 1).tx,true)::rs) .any false _ (aA (by omega)) (by simp;omega) hc2 hh2;have c5:=c52 (d.kid 1).tx true;have hkb:(!((12:Nat)==13))=true:=rfl;rw[hkb];simp only[Bool.not_false,Bool.not_true];generalize scV ((((d.kid 1).tx,true)::rs).reverse)=S2 at *;by_cases h0:g rs true (d.kid 2)=0
     ·rw[if_pos h0];rw[h0] at c2;simp -implicitDefEqProofs [x53_w,x53_r,h3b,h2b,h0b,h0l,h0i,h1l,h1i,bV,bQ,h12,hl,hs,hl4,c115,c2,c3,c5]
     ·have h0b':(g rs true (d.kid 2) != 0)=true:=by simp[h0]
      rw[if_neg h0];simp -implicitDefEqProofs [x53_w,x53_r,h3b,h2b,h0b,h0l,h0i,h1l,h1i,bV,bQ,h12,hl,hs,hl4,c115,c2,h0b']
  by_cases h13:wn (d.kid 0).tx=13
  ·have hw:wn d.wd=13:=by rw[hwd];exact h13
   cases hl:(d.kids.length==4) with
   | false =>
    rw[bi hw false (by simp[fmW,hl])];simp -implicitDefEqProofs [x53_w,x53_r,h3b,h2b,h0b,h0l,h0i,h1l,h1i,bV,bQ,h13,hl]
   | true =>
    have hl4:d.kids.length=4:=by simpa using hl
    cases hs:(d.kid 1).nm with
    | false =>
     rw[bi hw false (by simp[fmW,hn1,hs])];simp -implicitDefEqProofs [x53_w,x53_r,h3b,h2b,h0b,h0l,h0i,h1l,h1i,bV,bQ,h13,hl,hs,c115]
    | true =>
     rw[dn hw false (by simp[fmW,hl,hn1,hs,slw])];rw[show hdP 13 sh rs false d=0 from rfl,if_pos rfl,show prP d=[(d.kid 2,true,false),(d.kid 3,true,true)] by simp[prP,hw],pE];have hm2:=aC (aA (d:=d) (j:=2) (by omega));have hm3:=aC (aA (d:=d) (j:=3) (by omega));have c2:=c53 (d.kid 2) rs .any false _ (aA (by omega)) (by omega) hc2 hh2;have c3:=c53 (d.kid 3) (((d.kid 1).tx,false)::rs) .any false _ (aA (by omega)) (by simp;omega) hc2 hh2;have c5:=c52 (d.kid 1).tx false;have hkb:(!((13:Nat)==13))=false:=rfl;rw[hkb];simp only[Bool.not_false,Bool.not_true];generalize scV ((((d.kid 1).tx,false)::rs).reverse)=S2 at *;by_cases h0:g rs false (d.kid 2)=0
     ·rw[if_pos h0];rw[h0] at c2;simp -implicitDefEqProofs [x53_w,x53_r,h3b,h2b,h0b,h0l,h0i,h1l,h1i,bV,bQ,h13,hl,hs,hl4,c115,c2,c3,c5]
     ·have h0b':(g rs false (d.kid 2) != 0)=true:=by simp[h0]
      rw[if_neg h0];simp -implicitDefEqProofs [x53_w,x53_r,h3b,h2b,h0b,h0l,h0i,h1l,h1i,bV,bQ,h13,hl,hs,hl4,c115,c2,h0b']
  by_cases h14:wn (d.kid 0).tx=14
  ·have hw:wn d.wd=14:=by rw[hwd];exact h14
   have hR:exB g sh rs false d=(if (d.kid 1).prm=true then (if arN (wn (d.kid 1).tx)=(d.kids.length:Int)-2 then dj (g rs false) (d.kids.drop 2) else 11) else 4):=by
    cases hs:(d.kid 1).prm with
    | false =>
     rw[bi hw false (by simp[fmW,hs])];rfl
    | true =>
     rw[dn hw false (by simp[fmW,hs,slw,h1l])];rw[show prP d=(d.kids.drop 2).map (mk3 true) by simp[prP,hw],dX];simp only[hdP];by_cases ha:arN (wn (d.kid 1).tx)=(d.kids.length:Int)-2
     ·simp[ha]
     ·simp[ha]
   rw[hR];simp -implicitDefEqProofs [x53_w,x53_r,h3b,h2b,h0b,h0l,h0i,h1l,h1i,bV,bQ,h14,c116]
  by_cases h15:wn (d.kid 0).tx=15
  ·have hw:wn d.wd=15:=by rw[hwd];exact h15
   cases hl:(d.kids.length==4) with
   | false =>
    rw[bi hw false (by simp[fmW,hl])];simp -implicitDefEqProofs [x53_w,x53_r,h3b,h2b,h0b,h0l,h0i,h1l,h1i,bV,bQ,h15,hl]
   | true =>
    have hl4:d.kids.length=4:=by simpa using hl
    have h2i:(2:Int)<d.kids.length:=by omega
    have h3i:(3:Int)<d.kids.length:=by omega
    have h2l:2<d.kids.length:=by omega
    have h3l:3<d.kids.length:=by omega
    cases hs:(d.kid 1).lab with
    | false =>
     rw[bi hw false (by simp[fmW,hlb1,hs])];simp -implicitDefEqProofs [x53_w,x53_r,h3b,h2b,h0b,h0l,h0i,h1l,h1i,bV,bQ,h15,hl,hs,c106]
    | true =>
     cases hk2:((d.kid 2).kd==3) with
     | false =>
      rw[bi hw false (by simp[fmW,hk2])];simp -implicitDefEqProofs [x53_w,x53_r,h3b,h2b,h0b,h0l,h0i,h1l,h1i,bV,bQ,h15,hl,hs,c106,hk2,hl4,h2i,h3i,h2l,h3l]
     | true =>
      cases hk3:((d.kid 3).kd==3) with
      | false =>
       rw[bi hw false (by simp[fmW,hk3])];simp -implicitDefEqProofs [x53_w,x53_r,h3b,h2b,h0b,h0l,h0i,h1l,h1i,bV,bQ,h15,hl,hs,c106,hk2,hk3,hl4,h2i,h3i,h2l,h3l]
      | true =>
       have hR:exB g sh rs false d=(match fdK sh (d.kid 1).key2 with
        | none=>5
        | some p=>if p.2.2=false then 14 else if p.1=(d.kid 2).kids.length∧p.2.1=(d.kid 3).kids.length then (if dj (g rs true) (d.kid 2).kids=0 then dj (g rs false) (d.kid 3).kids else dj (g rs true) (d.kid 2).kids) else 11):=by
        rw[dn hw false (by simp[fmW,hlb1,hl,hs,hk2,hk3,slw])];rw[show prP d=(d.kid 2).kids.map (mk3 false)++(d.kid 3).kids.map (mk3 true) by simp[prP,hw],pz,dX,dX];have hH:hdP 15 sh rs false d=match fdK sh (d.kid 1).key2 with
         | none=>5
         | some p=>if p.2.2=false then 14 else if p.1=(d.kid 2).kids.length∧p.2.1=(d.kid 3).kids.length then 0 else 11:=rfl
        rw[hH];simp only[Bool.not_true,Bool.not_false];cases fdK sh (d.kid 1).key2 with
        | none=>rfl
        | some p =>
         obtain⟨a,b,s⟩:=p;cases s with
         | false=>simp
         | true =>
          simp only[Bool.true_eq_false,if_false];by_cases e2:a=(d.kid 2).kids.length∧b=(d.kid 3).kids.length
          ·rw[if_pos e2,if_pos e2,if_pos rfl]
          ·rw[if_neg e2,if_neg e2,if_neg (by decide)]
       rw[hR];have c7:=c117 hl4;simp -implicitDefEqProofs [x53_w,x53_r,h3b,h2b,h0b,h0l,h0i,h1l,h1i,bV,bQ,h15,hl,hs,c106,hk2,hk3,hl4,h2i,h3i,h2l,h3l,c7]
  have b8:(wn (d.kid 0).tx==8)=false:=by simp[h8]
  have b9:(wn (d.kid 0).tx==9)=false:=by simp[h9]
  have b10:(wn (d.kid 0).tx==10)=false:=by simp[h10]
  have b11:(wn (d.kid 0).tx==11)=false:=by simp[h11]
  have b12:(wn (d.kid 0).tx==12)=false:=by simp[h12]
  have b13:(wn (d.kid 0).tx==13)=false:=by simp[h13]
  have b14:(wn (d.kid 0).tx==14)=false:=by simp[h14]
  have b15:(wn (d.kid 0).tx==15)=false:=by simp[h15]
  have hR:exB g sh rs false d=4:=by
   have hT:wn d.wd=wn (d.kid 0).tx:=by rw[hwd]
   refine bi hT false ?_;have:slw (wn (d.kid 0).tx)=false:=by
    unfold slw;rw[decide_eq_false_iff_not];omega
   rw[this];rfl
  rw[hR];simp -implicitDefEqProofs [x53_w,x53_r,h3b,h2b,h0b,h0l,h0i,h1l,h1i,bV,bQ,b8,b9,b10,b11,b12,b13,b14,b15]
end
theorem rk {c:Nat}{sh:Sh}{B:Nat}(hB2:B<100000000000):∀(f:Nat) (d:D),d.sz≤f→d.fm=true→d.sz<100000000000→∀m,B+40+4*f≤m→Ex53 m c sh B (exN f sh) d
 | 0,d,h,_,_,_,_=>by have:=ao d;omega
 | f+1,d,hf,hfm,hl,m,hm=>by
  obtain⟨m,rfl⟩:∃m',m=m'+4:=⟨m-4,by omega⟩
  have ih:∀x:D,x.sz≤f→x.fm=true→x.sz<100000000000→Ex53 m c sh B (exN f sh) x:=fun x h1 h2 h3=>rk hB2 f x h1 h2 h3 m (by omega)
  have hk:∀x∈d.kids,Ex53 m c sh B (exN f sh) x:=fun x hx=>ih x (by have:=aC hx;omega) (af hfm x hx) (by have:=aC hx;omega)
  have hkk:∀j,j<d.kids.length→∀x∈(d.kid j).kids,Ex53 m c sh B (exN f sh) x:=fun j hj x hx=>by
   have h1:=aC (aA (d:=d) hj);have h2:=aC hx;exact ih x (by omega) (af (af hfm _ (aA hj)) x hx) (by omega)
  exact Hu hk (fun h4=>hkk 2 (by omega)) (fun h4=>hkk 3 (by omega)) hfm hl (by omega) hB2
theorem Fz {n:Nat}{l:List ByteArray}{i:SI}{fv:V}{p:ByteArray→Bool}{h:List O}(hl:l.length<4611686018427387904) (hn:l.length<n) (hf:fv.vw2=fv) (hh:aU h) (hc:∀x∈l,cW (call X E n) fv [.c (.string x)] h=some (.c (.bool (p x)),h)) :
  call X E (n+1) 156 [.sl (ss l) i,fv] h=some (.c (.int .i64 (fix p l 0)),h):=by
 refine d6 rfl rfl rfl (by kernel_rfl) ⟨rfl,rfl⟩ (by simp[V.low]) hh ?_;have hsl:=bI l;simp -implicitDefEqProofs [x156_w,aD,hf,hsl];obtain⟨J,hJ⟩:∃J:Nat→SF→Prop,J=fun k s=>∃j,j+k=l.length∧s.e 8=.c (.int .i64 j)∧s.h=h∧fix p l 0=fix p (l.drop j) j:=⟨_,rfl⟩
 refine aX J l.length hn (by rw[hJ];exact⟨0,by simp,by simp[au],rfl,by simp⟩) ?_;rintro k ⟨e,h',base,rb⟩ hj he hb;rw[hJ] at hj;obtain⟨j,hj,e8,hh',hfx⟩:=hj;have e0:=he 0 rfl;have e1:=he 1 rfl;have e7:=he 7 rfl;simp[au,bD] at e0 e1 e7 hb;simp only at e8 hh';subst hb hh';by_cases hm:j<l.length
 ·have hlt:(j:Int)<l.length:=by omega
  have hx:=hc _ (List.getElem_mem hm);have hw:IntKind.i64.wrap ((j:Int)+1)=(j:Int)+1:=aB (by omega);rw[fO p hm] at hfx;cases hp:p l[j] with
  | true =>
   rw[hp] at hx hfx;simp -implicitDefEqProofs [x156l8_w,x156_r,e0,e1,e7,e8,hsl,hlt,hm,ju,hx,hfx]
  | false =>
   rw[hp] at hx hfx;simp -implicitDefEqProofs [x156l8_w,e0,e1,e7,e8,hsl,hlt,hm,ju,hx];refine⟨k-1,by omega,?_⟩;rw[hJ];exact⟨j+1,by omega,by simp[au,hw],rfl,by simpa using hfx⟩
 ·have hlt:¬(j:Int)<l.length:=by omega
  obtain rfl:j=l.length:=by omega
  have hfx:fix p l 0 = -1:=by rw[hfx,List.drop_length,fix]
  simp -implicitDefEqProofs [x156l8_w,x156_r,e0,e1,e7,e8,hfx]
theorem Fw {n:Nat}{l:List ByteArray}{i:SI}{fv:V}{p:ByteArray→Bool}{h:List O}(hl:l.length<4611686018427387904) (hn:l.length<n) (hf:fv.vw2=fv) (hh:aU h) (hc:∀x∈l,cW (call X E n) fv [.c (.string x)] h=some (.c (.bool (p x)),h)) :
  call X E (n+2) 108 [.sl (ss l) i,fv] h=some (.c (.bool (l.any p)),h):=by
 have c156:=Fz (i:=.any) hl hn hf hh hc;refine d6 rfl rfl rfl (by kernel_rfl) ⟨rfl,rfl⟩ (by simp[V.low]) hh ?_;generalize call X E (n+1)=cf at *;have ha:=g9 p l 0;generalize ss l=U at *;simp -implicitDefEqProofs [x108_w,x108_r,aD,hf,c156,ha]
theorem E9 (l:List ByteArray) (t:ByteArray){h:List O}{id:Nat}{i:SI}(hid:h[id]?=some (.cells [.sl (ss l) i])) (hh:aU h){n:Nat}(hn:l.length<n) (hl:l.length<1099511627776):call X E (n+3) 109 [.c (.string t),.ref id 0] h=some (.c (.bool (inB l t)),h):=by
 have c110:∀i h,call X E (n+2) 110 [.sl (ss l) i,.c (.string t)] h=some (.c (.bool (inB l t)),h):=fun i=>BW l i t hn hl
 have hr2:(V.ref id 0).vw2=.ref id 0:=rfl;refine d6 rfl rfl rfl (by kernel_rfl) ⟨rfl,rfl⟩ (by simp[V.low]) hh ?_;generalize n+2=m at *;generalize call X E m=cf at *;generalize ss l=U at *;generalize inB l t=b at *;have ha:=bU hid;simp -implicitDefEqProofs [x109_w,x109_r,hid,ha,c110]
theorem uw:∀(sh:Sh) (k:Int × ByteArray) (v:V),fdK sh k=none→wT (some [0,1]) (shK sh) (shV sh) (.agg #[.int .i64 k.1,.string k.2]) v=some (shK sh++[.agg #[.int .i64 k.1,.string k.2]],shV sh++[v])
 | [],k,v,_=>rfl
 | p::sh,k,v,h=>by
  obtain⟨a,s⟩:=k;obtain⟨⟨b,t⟩,x,y,z⟩:=p;simp only[fdK] at h;split at h
  ·cases h
  rename_i hne;have ih:=uw sh (a,s) v h;simp only[shK,shV] at ih;simp only[shK,shV,List.map_cons,wT,ne,hne,decide_false,ih,Option.map_some,List.cons_append]
def hdF (sh:Sh) (d:D):Int :=
 if (d.els 4 false&&(d.kid 0).lab)=true then
  (if ((fdK sh (d.kid 0).key2).isSome||(!((d.kid 1).nms D.nm)||(!((d.kid 2).nms D.nm)||(txs (d.kid 1).kids).any fun t=>inB (txs (d.kid 2).kids) t)))=true then 4 else
   if 8<(d.kid 1).kids.length+(d.kid 2).kids.length then 3 else 0) else 4
def hdN (d:D):(Int × ByteArray) × Nat × Nat × Bool:=((d.kid 0).key2,(d.kid 1).kids.length,(d.kid 2).kids.length,(d.kid 3).dyn)
theorem ir {n f k:Nat}{xf:XF}{args:List V}{r:V}{h h':List O}(hE:E f=none) (hX:X f=some xf) (hk:args.length=k) (hx:tA xf k=true) (hp:xf.pure=false∧xf.esc=false) (hr:r.low h.length=true) (hh:h'.all (O.low h.length)=true)
  (hw:wpk (call X E n) n xf.body [] (Fin (fun vs s=>(bG vs).vw=r∧s.take h.length=h') xf) ⟨bD (args.map V.vw2),h,h.length,0⟩) (ha:xf.asg=none:=by rfl):call X E (n+1) f args h=some (r,h'):=by
 simp only[call,hE,hX,ha];subst hk;refine dm hx hp.1 hp.2 (du _ (fun e s hq=>?_) (cm hw));cases e with
 | exit id=>exact hq
 | normal=>exact cF (fun vs hv=>⟨hv.1,hr,hv.2,hh⟩) hq
 | ret=>exact cF (fun vs hv=>⟨hv.1,hr,hv.2,hh⟩) hq
theorem vn {l:List D}(h:0<l.length) (i:SI) (hi:i=.any∨i=.full):nF i (D.vs l)=some false:=by
 cases l with
 | nil=>simp at h
 | cons a l =>
  rcases hi with rfl|rfl<;>simp[D.vs,nF]
theorem bY (i:SI) (us:List V):dN .eql 2 (.sl us i) (.sl [] .nil)=(nF i us).map fun b=>.c (.bool b):=rfl
theorem tf (m:Nat) (sh:Sh):V.lows m (shV sh)=true:=cq fun v hv=>by
 obtain⟨p,_,rfl⟩:=List.mem_map.1 hv;rfl
theorem D8 {h:List O}{m:Nat}{sh:Sh}(hm:h[m]?=some (.mapo (shK sh) (shV sh))){d:D}(hn:fdK sh d.key2=none) (a b:Nat) (s:Bool) :
  EJ (.mref m) (some [0,1]) d.key (.agg [.c (.int .i64 a),.c (.int .i64 b),.c (.bool s)]) h=some (aE,h.set m (.mapo (shK (sh++[(d.key2,a,b,s)])) (shV (sh++[(d.key2,a,b,s)])))):=by
 have:=uw sh d.key2 (.agg [.c (.int .i64 a),.c (.int .i64 b),.c (.bool s)]) hn;simp only[D.key2] at this;rw[wc,EA];simp only[gj,hm,yZ,this,Option.map_some];simp[shK,shV,D.key2]
theorem Iw (d:D){c m0:Nat}{sh:Sh}{h:List O}(h1:h[c]?=some (.cells [.mref m0])) (h2:h[m0]?=some (.mapo (shK sh) (shV sh))) (hh:aU h) (hl:d.sz<100000000000){n:Nat}(hn:d.sz+30≤n) :
  call X E (n+5) 51 [.ref c 0,d.v] h=some (.c (.int .i64 (hdF sh d)),if hdF sh d=0 then h.set m0 (.mapo (shK (sh++[hdN d])) (shV (sh++[hdN d]))) else h):=by
 have c47:∀h,call X E (n+4) 47 [d.v,.c (.int .i64 4),.c (.bool false)] h=some (if d.els 4 false=true then .sl (D.vs d.kids) .any else .sl [] .nil,h):=Hg d 4 false;have c106:∀(x:D) h,call X E (n+4) 106 [x.v] h=some (.c (.bool x.lab),h):=fun x=>BU x
 have c89:∀(x:D) h,call X E (n+4) 89 [x.v] h=some (x.key,h):=fun x=>FV x
 have c54:∀(x:D) h,call X E (n+4) 54 [x.v] h=some (.c (.bool x.dyn),h):=fun x=>Hh x (n:=n+2) (by omega)
 have hkl:=aQ d;have hr2:(V.ref c 0).vw2=.ref c 0:=rfl;have hml:m0<h.length:=(gS.1 h2).1;unfold hdF;cases he:d.els 4 false with
 | false =>
  rw[he] at c47;simp only[Bool.false_and,Bool.false_eq_true,if_false] at c47 ⊢;rw[if_neg (by decide)];refine ir rfl rfl rfl (by kernel_rfl) ⟨rfl,rfl⟩ (by simp[V.low]) hh ?_;generalize call X E (n+4)=cf at *;simp -implicitDefEqProofs [x51_w,x51_r,c47,bY,nF]
 | true =>
  rw[he] at c47;simp only[if_true] at c47;have hkd:d.kd=3∧d.kids.length=4:=by
   have h0:=he;unfold D.els at h0;simp only[bT,beq_iff_eq,Bool.or_eq_true,dT] at h0;have:=h0.2.2;simp only[Bool.false_eq_true,false_or] at this;exact⟨h0.1,by omega⟩
  have hl4:=hkd.2;have hnil:=vn (l:=d.kids) (by omega) .any (.inl rfl);have l0:0<d.kids.length:=by omega
  have l1:1<d.kids.length:=by omega
  have l2:2<d.kids.length:=by omega
  have l3:3<d.kids.length:=by omega
  cases hlb:(d.kid 0).lab with
  | false =>
   have c106x:=c106 (d.kid 0);rw[hlb] at c106x;simp only[Bool.and_false,Bool.false_eq_true,if_false];rw[if_neg (by decide)];refine ir rfl rfl rfl (by kernel_rfl) ⟨rfl,rfl⟩ (by simp[V.low]) hh ?_;generalize call X E (n+4)=cf at *;simp -implicitDefEqProofs [x51_w,x51_r,c47,bY,hnil,hl4,c106x]
  | true =>
   have c106x:=c106 (d.kid 0);rw[hlb] at c106x;simp only[Bool.and_self,if_true];have hm1:=aC (aA (d:=d) (j:=1) l1);have hm2:=aC (aA (d:=d) (j:=2) l2);have hk1:=aQ (d.kid 1);have hk2:=aQ (d.kid 2);have c107a:∀h,call X E (n+4) 107 [(d.kid 1).v] h=some (.tup [.sl (ss (if (d.kid 1).nms D.nm=true then txs (d.kid 1).kids else [])) .any,.c (.bool ((d.kid 1).nms D.nm))],h):=C7 (d.kid 1) (by omega) (by omega);have c107b:∀h,call X E (n+4) 107 [(d.kid 2).v] h=some (.tup [.sl (ss (if (d.kid 2).nms D.nm=true then txs (d.kid 2).kids else [])) .any,.c (.bool ((d.kid 2).nms D.nm))],h):=C7 (d.kid 2) (by omega) (by omega);have c108:∀(s x:List ByteArray) (i:SI) (id:Nat) (H:List O),s.length<d.sz→x.length<d.sz→H[id]?=some (.cells [.sl (ss x) .any])→aU H→call X E (n+4) 108 [.sl (ss s) i,.clo 109 [.ref id 0]] H=some (.c (.bool (s.any fun t=>inB x t)),H):=fun s x i id H a1 a2 hid hH=>by
    have hc:∀t∈s,cW (call X E (n+2)) (.clo 109 [.ref id 0]) [.c (.string t)] H=some (.c (.bool (inB x t)),H):=fun t _=>by
     obtain⟨n,rfl⟩:∃n',n=n'+1:=⟨n-1,by omega⟩
     rw[fK,if_pos (by decide)];have:=E9 x t hid hH (n:=n) (by omega) (by omega);simp only[List.cons_append,List.nil_append];rw[this,jq,if_pos (nL _)]
    exact Fw (by omega) (by omega) rfl hH hc
   have hlk:=fun (e:List O)=>oH (bU h2 e) (d.kid 0)
   have h1a:=bU h1;have hset:∀(R:List O) (o:O),(h++R).set m0 o=h.set m0 o++R:=fun R o=>List.set_append_left _ _ hml
   have hup:=fun (e:List O) (hn:fdK sh (d.kid 0).key2=none)=>D8 (bU h2 e) hn (d.kid 1).kids.length (d.kid 2).kids.length (d.kid 3).dyn
   have hkey:(d.kid 0).key.vw2=(d.kid 0).key:=rfl;have hsh:V.lows h.length (shV (sh++[hdN d]))=true:=tf _ _;have hlow2:(h.set m0 (.mapo (shK (sh++[hdN d])) (shV (sh++[hdN d])))).all (O.low h.length)=true:=by
    rw[List.all_eq_true];intro o ho;rcases List.mem_or_eq_of_mem_set ho with ho|rfl
    ·exact List.all_eq_true.1 hh o ho
    ·exact hsh
   have hlo3:∀(a b:Int) (s:Bool) (x:List ByteArray),aU (h++[O.cells d.v.cells,.cells [.c (.int .i64 a),.c (.int .i64 b),.c (.bool s)],.cells [.sl (ss x) .any]]):=fun a b s x=>nV hh (by
    have:=eW (h.length+3) x;have h9:=D.low_cells (h.length+3) d;simp[ba,V.lows,V.low,SI.low,this,h9])
   have hcl:d.v.cells.map V.vw1=d.v.cells:=by obtain⟨k,i,t,l⟩:=d;rfl
   cases hf:fdK sh (d.kid 0).key2 with
   | some p =>
    obtain⟨a,b,s⟩:=p;rw[hf] at hlk;simp only[shR] at hlk;simp only[Option.isSome_some,Bool.true_or,if_true];rw[if_neg (by decide)];refine ir rfl rfl rfl (by kernel_rfl) ⟨rfl,rfl⟩ (by simp[V.low]) hh ?_;generalize call X E (n+4)=cf at *;generalize (if (d.kid 1).nms D.nm=true then txs (d.kid 1).kids else [])=T1 at *;generalize (if (d.kid 2).nms D.nm=true then txs (d.kid 2).kids else [])=T2 at *;simp -implicitDefEqProofs [-bc,x51_w,x51_r,c47,bY,hnil,hl4,c106x,c89,c107a,c107b,h1a,hlk]
   | none =>
    rw[hf] at hlk;simp only[shR] at hlk;simp only[Option.isSome_none,Bool.false_or];cases hA:(d.kid 1).nms D.nm with
    | false =>
     rw[hA] at c107a;simp only[Bool.not_false,Bool.true_or,if_true,Bool.false_eq_true,if_false] at c107a ⊢;rw[if_neg (by decide)];refine ir rfl rfl rfl (by kernel_rfl) ⟨rfl,rfl⟩ (by simp[V.low]) hh ?_;generalize call X E (n+4)=cf at *;generalize (if (d.kid 2).nms D.nm=true then txs (d.kid 2).kids else [])=T2 at *;simp -implicitDefEqProofs [-bc,x51_w,x51_r,c47,bY,hnil,hl4,c106x,c89,c107a,c107b,h1a,hlk]
    | true =>
     rw[hA] at c107a;simp only[Bool.not_true,Bool.false_or,if_true] at c107a ⊢;cases hBn:(d.kid 2).nms D.nm with
     | false =>
      rw[hBn] at c107b;simp only[Bool.not_false,Bool.true_or,if_true,Bool.false_eq_true,if_false] at c107b ⊢;rw[if_neg (by decide)];refine ir rfl rfl rfl (by kernel_rfl) ⟨rfl,rfl⟩ (by simp[V.low]) hh ?_;generalize call X E (n+4)=cf at *;simp -implicitDefEqProofs [-bc,x51_w,x51_r,c47,bY,hnil,hl4,c106x,c89,c107a,c107b,h1a,hlk]
     | true =>
      rw[hBn] at c107b;simp only[Bool.not_true,Bool.false_or,if_true] at c107b ⊢;have c8:=c108 (txs (d.kid 1).kids) (txs (d.kid 2).kids) .any (h.length+2) _ (by rw[bO];omega) (by rw[bO];omega) (jp h _ _ _) (hlo3 0 0 false (txs (d.kid 2).kids));have t1l:=bO (d.kid 1).kids;have t2l:=bO (d.kid 2).kids;have s1l:=bI (txs (d.kid 1).kids);have s2l:=bI (txs (d.kid 2).kids);rw[t1l] at s1l;rw[t2l] at s2l;cases hO:((txs (d.kid 1).kids).any fun t=>inB (txs (d.kid 2).kids) t) with
      | true =>
       rw[hO] at c8;simp only[if_true];rw[if_neg (by decide)];refine ir rfl rfl rfl (by kernel_rfl) ⟨rfl,rfl⟩ (by simp[V.low]) hh ?_;generalize call X E (n+4)=cf at *;simp -implicitDefEqProofs [-bc,x51_w,x51_r,c47,bY,hnil,hl4,c106x,c89,c107a,c107b,h1a,hlk,c8]
      | false =>
       rw[hO] at c8;simp only[Bool.false_eq_true,if_false];have hw8:IntKind.i64.wrap (((d.kid 1).kids.length:Int)+((d.kid 2).kids.length:Int))=((d.kid 1).kids.length:Int)+((d.kid 2).kids.length:Int):=aB (by omega);by_cases h8:8<(d.kid 1).kids.length+(d.kid 2).kids.length
       ·have h8i:(8:Int)<((d.kid 1).kids.length:Int)+((d.kid 2).kids.length:Int):=by omega
        rw[if_pos h8,if_neg (by decide)];refine ir rfl rfl rfl (by kernel_rfl) ⟨rfl,rfl⟩ (by simp[V.low]) hh ?_;generalize call X E (n+4)=cf at *;simp -implicitDefEqProofs [-bc,x51_w,x51_r,c47,bY,hnil,hl4,c106x,c89,c107a,c107b,h1a,hlk,c8,s1l,s2l,hw8,h8i]
       ·have h8i:¬(8:Int)<((d.kid 1).kids.length:Int)+((d.kid 2).kids.length:Int):=by omega
        rw[if_neg h8,if_pos rfl];have hup2:=fun e=>hup e hf
        have hNd:sh++[((d.kid 0).key2,(d.kid 1).kids.length,(d.kid 2).kids.length,(d.kid 3).dyn)]=sh++[hdN d]:=rfl;rw[hNd] at hup2;refine ir rfl rfl rfl (by kernel_rfl) ⟨rfl,rfl⟩ (by simp[V.low]) hlow2 ?_;generalize call X E (n+4)=cf at *;simp -implicitDefEqProofs [-bc,-wc,x51_w,x51_r,c47,bY,hnil,hl4,c106x,c89,c54,c107a,c107b,h1a,hlk,c8,s1l,s2l,hw8,h8i,hup2,hset]
def iw:Sh→List D→Int
 | _,[]=>0
 | sh,d::r=>if hdF sh d=0 then iw (sh++[hdN d]) r else hdF sh d
theorem nE (sh:Sh){l:List D}{j:Nat}(h:j<l.length):iw sh (l.drop j)=if hdF sh l[j]=0 then iw (sh++[hdN l[j]]) (l.drop (j+1)) else hdF sh l[j]:=by
 rw[dC h,iw]
def sco (b:Bool) (l:List D):List (ByteArray × Bool):=l.map fun x=>(x.tx,b)
def D.scp (d:D):List (ByteArray × Bool):=sco true (d.kid 1).kids++sco false (d.kid 2).kids
def D.sta (d:D):Bool := !(d.kid 3).dyn&&(d.kid 2).kids.length==0
def bdE (f:Nat) (sh:Sh) (d:D):Int:=exN f sh d.scp.reverse d.sta (d.kid 3)
def D.tck (t:D):Int :=
 if t.ck≠0 then t.ck else
 if (t.els 2 true&&((t.kid 0).kd==3 && !(t.kid 0).kids.any fun x => !x.sml))=false then 4 else
 if 4000<(t.kids.length:Int)-1 then 3 else
 if iw [] (t.kids.drop 1)≠0 then iw [] (t.kids.drop 1) else
 if (t.kid 0).kids.length≠((t.kid 1).kid 1).kids.length then 11 else
 dj (bdE t.sz ((t.kids.drop 1).map hdN)) (t.kids.drop 1)
theorem oi {d:D}(h:d.ck=0):d.fm=true∧d.sz≤100000:=by
 unfold D.ck at h;split at h
 ·cases h
 ·rename_i h1;split at h
  ·cases h
  ·rename_i h2;refine⟨by simpa using h1,by omega⟩
theorem lu (b:Bool) (l:List D):(sco b l).length=l.length:=by simp[sco]
theorem kQ (b:Bool){l:List D}{j:Nat}(h:j<l.length):sco b (l.take (j+1))=sco b (l.take j)++[((l[j]).tx,b)]:=by
 simp only[sco];rw[List.take_add_one,gE h,List.map_append];rfl
theorem BP {sh:Sh}{d:D}(h:hdF sh d=0):d.kids.length=4:=by
 unfold hdF at h;split at h
 ·rename_i h0;simp only[bT] at h0;have h1:=h0.1;unfold D.els at h1;simp only[bT,beq_iff_eq,Bool.or_eq_true,dT,Bool.false_eq_true,false_or] at h1;omega
 ·cases h
theorem fW:∀(l:List D) (sh:Sh),iw sh l=0→∀x∈l,x.kids.length=4
 | [],_,_,x,hx=>by cases hx
 | d::l,sh,h,x,hx=>by
  rw[iw] at h;split at h
  ·rename_i h0;rcases List.mem_cons.1 hx with rfl|hx
   ·exact BP h0
   ·exact fW l _ h x hx
  ·rename_i h0;exact absurd h h0
theorem zW {cf:aw}{n:Nat}{K:List Fr}{Q:Ex→SF→Prop}{s:SF}{P:List O}{l:List D}{b:Bool}{L:List (ByteArray × Bool)}
  (h52:∀(L:List (ByteArray × Bool)) i t h,L.length<100000000→cf 52 [.sl (scV L) i,.c (.string t),.c (.bool b)] h=some (.sl (scV (L++[(t,b)])) .any,h)) (hl:l.length<n) (hl2:L.length+l.length<100000000)
  (e90:s.e 90=.sl (D.vs l) .any) (e91:s.e 91=.c (.int .i64 l.length)) (e92:s.e 92=.c (.int .i64 0)) (e12:s.e 12=.c (.int .i64 (if b=true then 1 else 2))){si:SI}(e11:s.e 11=.sl (scV L) si){R:List O}(hh:s.h=P++R) (hlow:aU (P++R))
  (hq:∀e R' si' rb',(∀t,(dU x16l32).contains t=false→e t=s.e t)→e 11=.sl (scV (L++sco b l)) si'→aU (P++R')→dI cf n K Q (.exit 6) ⟨e,P++R',s.base,rb'⟩):lpk cf n x16l32 K Q s:=by
 obtain⟨J,hJ⟩:∃J:Nat→SF→Prop,J=fun k s=>∃j R' si',j+k=l.length∧s.e 92=.c (.int .i64 j)∧s.e 11=.sl (scV (L++sco b (l.take j))) si'∧s.h=P++R'∧aU (P++R'):=⟨_,rfl⟩
 refine aX J l.length hl (by rw[hJ];exact⟨0,R,si,by simp,by simpa using e92,by simpa[sco] using e11,hh,hlow⟩) ?_;rintro k ⟨e,h',base,rb⟩ hj he hb;rw[hJ] at hj;obtain⟨j,R',si',hj,f92,f11,hh',hlow'⟩:=hj;have f90:e 90=_:=(he 90 rfl).trans e90;have f91:e 91=_:=(he 91 rfl).trans e91;have f12:e 12=_:=(he 12 rfl).trans e12;simp only at f92 f11 hh' hb;subst hh';by_cases hm:j<l.length
 ·have hlt:(j:Int)<l.length:=by omega
  have hw:IntKind.i64.wrap ((j:Int)+1)=(j:Int)+1:=aB (by omega);have hvg:(D.vs l)[j]'(by rw[aa];omega)=(l[j]).v:=ac _;have hlen:(L++sco b (l.take j)).length<100000000:=by rw[lA,lu];simp;omega
  have c52:=fun i t h=>h52 (L++sco b (l.take j)) i t h hlen
  have hst:=kQ b hm;have hap:L++sco b (l.take (j+1))=(L++sco b (l.take j))++[((l[j]).tx,b)]:=by rw[hst,List.append_assoc]
  have hlx:=nP hlow' l[j];generalize L++sco b (l.take j)=M at *;generalize l[j]=x at *;have hb12:(((if b=true then 1 else 2:Int))==1)=b:=by cases b<;>rfl
  simp -implicitDefEqProofs [x16l32_w,f90,f91,f92,f11,f12,hvg,hlt,hm,ae,c52,hb12];refine⟨k-1,by omega,?_⟩;rw[hJ];refine⟨j+1,R'++[.cells x.v.cells],.any,by omega,by simp[au,hw],?_,by simp,by simpa using hlx⟩;rw[hap];simp[au]
 ·have hlt:¬(j:Int)<l.length:=by omega
  obtain rfl:j=l.length:=by omega
  rw[List.take_of_length_le (nL _)] at f11;have hq':=fun e1 rb1 h1 h2=>hq e1 R' si' rb1 h1 h2 hlow'
  subst hb;simp -implicitDefEqProofs [x16l32_w,f90,f91,f92];refine hq' _ _ (fun t ht=>?_) ?_
  ·have h93:t≠93:=by rintro rfl;revert ht;decide
   simp only[au,if_neg h93];exact he t ht
  ·simpa[au] using f11
theorem Ei {cf:aw}{n:Nat}{K:List Fr}{Q:Ex→SF→Prop}{s:SF}{P:List O}{d:D}{id:Nat}
  (h52:∀(b:Bool) (L:List (ByteArray × Bool)) i t h,L.length<100000000→cf 52 [.sl (scV L) i,.c (.string t),.c (.bool b)] h=some (.sl (scV (L++[(t,b)])) .any,h)) (hl1:(d.kid 1).kids.length<n) (hl2:(d.kid 2).kids.length<n) (hn:3<n) (hl3:(d.kid 1).kids.length+(d.kid 2).kids.length<100000000) (hl4:d.kids.length=4)
  (e10:s.e 10=.ref id 0) (hid:P[id]?=some (.cells d.v.cells)) (e12:s.e 12=.c (.int .i64 1)) (e11:s.e 11=.sl [] .nil){R:List O}(hh:s.h=P++R) (hlow:aU (P++R))
  (hq:∀e R' si' rb',(∀t,(dU x16l34).contains t=false→e t=s.e t)→e 11=.sl (scV d.scp) si'→aU (P++R')→dI cf n K Q (.exit 4) ⟨e,P++R',s.base,rb'⟩):lpk cf n x16l34 K Q s:=by
 have g2:(2:Int)<d.kids.length:=by omega
 have g1:(1:Int)<d.kids.length:=by omega
 have g2l:2<d.kids.length:=by omega
 have g1l:1<d.kids.length:=by omega
 obtain⟨J,hJ⟩:∃J:Nat→SF→Prop,J=fun k s=>k≤2∧∃R' si',s.e 12=.c (.int .i64 (3-(k:Int)))∧s.e 11=.sl (scV (if k=2 then [] else if k=1 then sco true (d.kid 1).kids else d.scp)) si'∧s.h=P++R'∧aU (P++R'):=⟨_,rfl⟩
 refine aX J 2 (by omega) (by rw[hJ];exact⟨nL _,R,.nil,by simpa using e12,by simpa[scV] using e11,hh,hlow⟩) ?_;rintro k ⟨e,h',base,rb⟩ hj he hb;rw[hJ] at hj;obtain⟨hk,R',si',f12,f11,hh',hlow'⟩:=hj;have f10:e 10=_:=(he 10 rfl).trans e10;have hidR:=bU hid;simp only at f12 f11 hh' hb;subst hh'
 match k,hk with
 | 0,_ =>
  have f12':e 12=.c (.int .i64 3):=by simpa using f12
  simp only[Nat.reduceEqDiff,if_false] at f11;have hq':=fun e1 rb1 h1 h2=>hq e1 R' si' rb1 h1 h2 hlow'
  subst hb;simp -implicitDefEqProofs [x16l34_w,f12'];refine hq' _ _ (fun t ht=>?_) ?_
  ·have h81:t≠81:=by rintro rfl;revert ht;decide
   have h82:t≠82:=by rintro rfl;revert ht;decide
   simp only[au,if_neg h81,if_neg h82];exact he t ht
  ·simpa[au] using f11
 | 1,_ =>
  have f12':e 12=.c (.int .i64 2):=by simpa using f12
  simp only[Nat.reduceEqDiff,if_false,if_true] at f11;simp -implicitDefEqProofs [x16l34_w,f12',f10,hidR,g2,g2l];refine zW (b:=false) (L:=sco true (d.kid 1).kids) (l:=(d.kid 2).kids) (si:=si') (P:=P) (R:=R') (fun L i t h=>h52 false L i t h) hl2 (by rw[lu];omega) (by simp[au]) (by simp[au]) (by simp[au]) (by simp[au,f12']) (by simp[au,f11]) rfl hlow' ?_;intro e1 R1 si1 rb1 hk1 h11 hl1';have k12:e1 12=.c (.int .i64 2):=by
   have:=hk1 12 rfl;simpa[au,f12'] using this
  simp -implicitDefEqProofs [k12];rw[hJ];exact⟨by omega,R1,si1,by simp[au];rfl,by simpa[au,D.scp] using h11,rfl,hl1'⟩
 | 2,_ =>
  have f12':e 12=.c (.int .i64 1):=by simpa using f12
  simp only[if_true] at f11;simp -implicitDefEqProofs [x16l34_w,f12',f10,hidR,g1,g1l];refine zW (b:=true) (L:=[]) (l:=(d.kid 1).kids) (si:=si') (P:=P) (R:=R') (fun L i t h=>h52 true L i t h) hl1 (by simp;omega) (by simp[au]) (by simp[au]) (by simp[au]) (by simp[au,f12']) (by simp[au,f11]) rfl hlow' ?_;intro e1 R1 si1 rb1 hk1 h11 hl1';have k12:e1 12=.c (.int .i64 1):=by
   have:=hk1 12 rfl;simpa[au,f12'] using this
  simp -implicitDefEqProofs [k12];refine⟨1,by omega,?_⟩;rw[hJ];exact⟨by omega,R1,si1,by simp[au];rfl,by simpa[au] using h11,rfl,hl1'⟩
theorem vk {d:D}{k:Nat}{m:Bool}(h:d.els k m=true):d.kd=3∧k≤d.kids.length:=by
 unfold D.els at h;simp only[bT,beq_iff_eq,dT] at h;exact⟨h.1,h.2.1⟩
theorem F8 (t:D) (hs:t.sz<1000000000){n:Nat}(hn:12*t.sz+400≤n):aV (n+1) 16 [t.v] (.c (.int .i64 t.tck)):=by
 have c46:∀h,call X E n 46 [t.v] h=some (.c (.int .i64 t.ck),h):=Cc t (by omega) n (by omega);obtain⟨n,rfl⟩:∃n',n=n'+5:=⟨n-5,by omega⟩
 have c47:∀h,call X E (n+5) 47 [t.v,.c (.int .i64 2),.c (.bool true)] h=some (if t.els 2 true=true then .sl (D.vs t.kids) .any else .sl [] .nil,h):=Hg t 2 true;have c54:∀(x:D) h,call X E (n+5) 54 [x.v] h=some (.c (.bool x.dyn),h):=fun x=>Hh x (n:=n+3) (by omega)
 have hkl:=aQ t;have hlb:aU [O.cells t.v.cells]:=by
  have:=ap 1 t;simp[aU,this]
 have c48:0<t.kids.length→∀i,call X E (n+5) 48 [.sl (D.vs (t.kid 0).kids) i,.c (.func (.func 49) #[] #[])] [O.cells t.v.cells]=some (.c (.bool ((t.kid 0).kids.any fun x => !x.sml)),[O.cells t.v.cells]):=fun h0 i=>by
  have h1:=aC (aA (d:=t) (j:=0) h0);have h2:=aQ (t.kid 0);refine GT (n:=n+3) (by omega) (by omega) rfl hlb fun x _=>?_
  rw[uq,if_pos (by decide)];have:=It x (n:=n+1) [O.cells t.v.cells] hlb;rw[this,jq,if_pos (nL _)]
 have c51:∀(x:D) (sh:Sh) (h:List O),x∈t.kids→h[2]?=some (.cells [.mref 1])→h[1]?=some (.mapo (shK sh) (shV sh))→aU h →
   call X E (n+5) 51 [.ref 2 0,x.v] h=some (.c (.int .i64 (hdF sh x)),if hdF sh x=0 then h.set 1 (.mapo (shK (sh++[hdN x])) (shV (sh++[hdN x]))) else h):=fun x sh h hx h1 h2 h3=>by
  have:=aC hx;exact Iw x h1 h2 h3 (by omega) (by omega)
 have c52:∀(b:Bool) (L:List (ByteArray × Bool)) i t h,L.length<100000000→call X E (n+5) 52 [.sl (scV L) i,.c (.string t),.c (.bool b)] h=some (.sl (scV (L++[(t,b)])) .any,h):=fun b L i t h hL=>Fb L i t b (by omega) (n:=n+3) h
 unfold D.tck;by_cases h0:t.ck=0;rotate_left
 ·have h0b:(t.ck != 0)=true:=by simp[h0]
  rw[if_pos h0];refine azz (by simp[V.lows]) ?_;generalize n+5=m at *;generalize call X E m=cf at *;simp -implicitDefEqProofs [x16_w,x16_r,c46,h0b]
 obtain⟨hfm,hsz⟩:=oi h0;rw[if_neg (by omega)];rw[h0] at c46;have c53:∀(sh:Sh) (x:D) (h:List O) i,x∈t.kids→x.kids.length=4→ChkAt h 2 sh→aU h→call X E (n+5) 53 [.ref 2 0,(x.kid 3).v,.sl (scV x.scp) i,.c (.bool x.sta)] h=some (.c (.int .i64 (bdE t.sz sh x)),h):=fun sh x h i hx h4 h1 h2=>by
  have k1:=aC hx;have k2:=aC (aA (d:=x) (j:=1) (by omega));have k3:=aC (aA (d:=x) (j:=2) (by omega));have k4:=aC (aA (d:=x) (j:=3) (by omega));have k5:=aQ (x.kid 1);have k6:=aQ (x.kid 2);have hf3:(x.kid 3).fm=true:=af (af hfm x hx) _ (aA (by omega));have hsl:x.scp.reverse.length≤2*t.sz:=by
   rw[List.length_reverse];simp only[D.scp,lA,lu];omega
  have:=rk (c:=2) (sh:=sh) (B:=3*t.sz) (by omega) t.sz (x.kid 3) (by omega) hf3 (by omega) (n+5) (by omega) x.scp.reverse i x.sta h (by omega) h1 h2;rw[List.reverse_reverse] at this;exact this
 by_cases he:t.els 2 true=true;rotate_left
 ·have he':t.els 2 true=false:=by simpa using he
  rw[he'] at c47;rw[he',if_pos (by rfl)];simp only[Bool.false_eq_true,if_false] at c47;refine azz (by simp[V.lows]) ?_;generalize n+5=m at *;generalize call X E m=cf at *;simp -implicitDefEqProofs [x16_w,x16_r,c46,c47,bY,nF]
 rw[he] at c47;simp only[if_true] at c47;obtain⟨hkd,hl2⟩:=vk he;have hnil:=vn (l:=t.kids) (by omega) .any (.inl rfl);have l0:0<t.kids.length:=by omega
 have l0i:(0:Int)<t.kids.length:=by omega
 have l1:1<t.kids.length:=by omega
 have l1i:(1:Int)<t.kids.length:=by omega
 have l1j:(1:Int)≤t.kids.length:=by omega
 have hz:=D.hz t.kids;have c48':=c48 l0;by_cases hk0:(t.kid 0).kd=3;rotate_left
 ·have hk0b:((t.kid 0).kd != 3)=true:=by simp[hk0]
  have hk0c:((t.kid 0).kd==3)=false:=beq_false_of_ne hk0;rw[he,hk0c,if_pos (by rfl)];refine azz (by simp[V.lows]) ?_;generalize n+5=m at *;generalize call X E m=cf at *;simp -implicitDefEqProofs [x16_w,x16_r,c46,c47,bY,hnil,l0,l0i,hk0b]
 have hk0b:((t.kid 0).kd != 3)=false:=by simp[hk0]
 have hk0c:((t.kid 0).kd==3)=true:=by simp[hk0]
 rw[he,hk0c];cases hsm:((t.kid 0).kids.any fun x => !x.sml) with
 | true =>
  rw[hsm] at c48';rw[if_pos (by rfl)];refine azz (by simp[V.lows]) ?_;generalize n+5=m at *;generalize call X E m=cf at *;simp -implicitDefEqProofs [x16_w,x16_r,c46,c47,c48',bY,hnil,l0,l0i,hk0b]
 | false =>
 rw[hsm] at c48';rw[if_neg (by decide)];have hwl:IntKind.i64.wrap ((t.kids.length:Int)-1)=(t.kids.length:Int)-1:=aB (by omega);by_cases hbig:4000<(t.kids.length:Int)-1
 ·rw[if_pos hbig];refine azz (by simp[V.lows]) ?_;generalize n+5=m at *;generalize call X E m=cf at *;simp -implicitDefEqProofs [x16_w,x16_r,c46,c47,c48',bY,hnil,l0,l0i,hk0b,hwl,hbig]
 rw[if_neg hbig];have hmem:∀x∈t.kids.drop 1,x∈t.kids:=fun x hx=>bZ hx
 have hdl:(t.kids.drop 1).length=t.kids.length-1:=by simp
 have hk1m:t.kid 1∈t.kids.drop 1:=by
  have h:=dC l1;rw[h,fN l1];exact List.mem_cons_self
 generalize hF:t.sz=F at *;have hT1:t.kids.tail=t.kids.drop 1:=by rw[List.drop_one]
 have hTl:((t.kids.length:Int)-1)=((t.kids.drop 1).length:Int):=by rw[hdl];omega
 have hTn:(t.kids.drop 1).length<100000000:=by omega
 have hTm:(t.kids.drop 1).length<n+5:=by omega
 have hszx:∀x∈t.kids.drop 1,x.sz<1000000:=fun x hx=>by have:=aC (hmem x hx);omega
 have hszn:∀x∈t.kids.drop 1,x.sz<n+5:=fun x hx=>by have:=aC (hmem x hx);omega
 obtain⟨RES,hRES⟩:∃r,r=(if iw [] (t.kids.drop 1)≠0 then iw [] (t.kids.drop 1) else if (t.kid 0).kids.length≠((t.kid 1).kid 1).kids.length then 11 else dj (bdE F ((t.kids.drop 1).map hdN)) (t.kids.drop 1)):=⟨_,rfl⟩
 rw[← hRES];have hv1:((D.vs t.kids)[1]'(by rw[aa];exact l1))=(t.kid 1).v:=ah _;generalize hT:t.kids.drop 1=T at *;refine azz (by simp[V.lows]) ?_;have hcl:=D.low_cells;have hvm:(V.mref 1).vwf=.mref 1:=rfl;generalize hm:n+5=m at *;generalize call X E m=cf at *;simp -implicitDefEqProofs [x16_w,c46,c47,c48',bY,hnil,l0,l0i,l1j,hk0b,hwl,hbig,hz,hvm,hT1];have htl:(t.kids.length-1:Nat)=T.length:=hdl.symm;obtain⟨J,hJ⟩:∃J:Nat→SF→Prop,J=fun k s=>∃j R sh,j+k=T.length∧s.e 49=.c (.int .i64 j)∧s.h=O.cells t.v.cells::.mapo (shK sh) (shV sh)::.cells [.mref 1]::R∧aU (O.cells t.v.cells::.mapo (shK sh) (shV sh)::.cells [.mref 1]::R)∧sh=(T.take j).map hdN∧iw [] T=iw sh (T.drop j):=⟨_,rfl⟩
 refine aX J T.length hTm (by
  rw[hJ];refine⟨0,[],[],by simp,by simp[au],rfl,?_,rfl,by simp⟩;have:=hcl 3 t;simp[aU,ba,this,V.lows,V.low,shV,O.low]) ?_
 rintro k ⟨e,h',base,rb⟩ hj he hb;rw[hJ] at hj;obtain⟨j,R,sh,hj,e49,hh',hlR,hsh,hfx⟩:=hj;have e4:=he 4 rfl;have e5:=he 5 rfl;have e47:=he 47 rfl;have e48:=he 48 rfl;simp[au,bD] at e4 e5 e47 e48 hb;simp only at e49 hh';subst hh' hb;by_cases hmj:j<T.length
 ·have hlt:(j:Int)<T.length:=by omega
  have hw:IntKind.i64.wrap ((j:Int)+1)=(j:Int)+1:=aB (by omega);have hvg:(D.vs T)[j]'(by rw[aa];omega)=(T[j]).v:=ac _;have hlx:=nP hlR T[j];have hcx:=c51 T[j] sh _ (hmem _ (List.getElem_mem hmj)) (bU (h:=O.cells t.v.cells::.mapo (shK sh) (shV sh)::.cells [.mref 1]::R) (i:=2) rfl _) (bU (h:=O.cells t.v.cells::.mapo (shK sh) (shV sh)::.cells [.mref 1]::R) (i:=1) rfl _) hlx;rw[nE sh hmj] at hfx;have htk:(T.take (j+1)).map hdN=(T.take j).map hdN++[hdN T[j]]:=by
   rw[List.take_add_one,gE hmj,List.map_append];rfl
  generalize T[j]=x at *;simp only[List.cons_append] at hcx;have hlN:∀sh',aU (O.cells t.v.cells::.mapo (shK sh') (shV sh')::.cells [.mref 1]::(R++[.cells x.v.cells])):=fun sh'=>by
   have h3:=hlx;unfold aU at h3 ⊢;simp only[List.cons_append,List.all_cons,bT,lC] at h3 ⊢;exact⟨h3.1,tf _ _,h3.2.2⟩
  by_cases hf0:hdF sh x=0
  ·rw[if_pos hf0] at hfx;rw[hf0,if_pos rfl] at hcx;simp -implicitDefEqProofs [x16l18_w,e4,e5,e47,e48,e49,hvg,hlt,hmj,ae,hcx];refine⟨k-1,by omega,?_⟩;rw[hJ];refine⟨j+1,R++[.cells x.v.cells],sh++[hdN x],by omega,by simp[au,hw],rfl,hlN _,by rw[htk,hsh],hfx⟩
  ·have hf0b:(hdF sh x != 0)=true:=by simp[hf0]
   rw[if_neg hf0] at hfx;rw[if_neg hf0] at hcx;have hRE:RES=hdF sh x:=by rw[hRES,if_pos (by rw[hfx];exact hf0),hfx]
   rw[hRE];simp -implicitDefEqProofs [x16l18_w,x16_r,e4,e5,e47,e48,e49,hvg,hlt,hmj,ae,hcx,hf0b]
 have hlt:¬(j:Int)<T.length:=by omega
 obtain rfl:j=T.length:=by omega
 have hfx:iw [] T=0:=by rw[hfx,List.drop_length,iw]
 have hx4:=fW T [] hfx;have h14:=hx4 _ hk1m;have h14i:(1:Int)<(t.kid 1).kids.length:=by omega
 have h14l:1<(t.kid 1).kids.length:=by omega
 rw[List.take_of_length_le (nL _)] at hsh;rw[if_neg (by rw[hfx];decide)] at hRES;have hne:(((t.kid 0).kids.length:Int) != (((t.kid 1).kid 1).kids.length:Int)) = !decide ((t.kid 0).kids.length=((t.kid 1).kid 1).kids.length):=by
  rw[bne,lbq];congr 1
 by_cases hsz1:(t.kid 0).kids.length=((t.kid 1).kid 1).kids.length;rotate_left
 ·rw[if_pos hsz1] at hRES;rw[hRES];have hd:decide ((t.kid 0).kids.length=((t.kid 1).kid 1).kids.length)=false:=by simp[hsz1]
  rw[hd] at hne;simp -implicitDefEqProofs [x16l18_w,x16_r,e4,e5,e47,e48,e49,hlt,l0,l0i,l1,l1i,h14i,h14l,hne]
 rw[if_neg (by simpa using hsz1)] at hRES;have hd:decide ((t.kid 0).kids.length=((t.kid 1).kid 1).kids.length)=true:=by simp[hsz1]
 rw[hd] at hne;simp -implicitDefEqProofs [x16l18_w,e4,e5,e47,e48,e49,hlt,l0,l0i,l1,l1i,l1j,hz,h14i,h14l,hne,hT1];subst hsh;obtain⟨SH,hSH⟩:∃SH,SH=T.map hdN:=⟨_,rfl⟩
 rw[← hSH] at hRES hlR ⊢;obtain⟨P0,hP0⟩:∃P0,P0=[O.cells t.v.cells,.mapo (shK SH) (shV SH),.cells [.mref 1]]:=⟨_,rfl⟩
 have hP0a:∀R,O.cells t.v.cells::.mapo (shK SH) (shV SH)::.cells [.mref 1]::R=P0++R:=fun R=>by rw[hP0];rfl
 rw[hP0a] at hlR ⊢;have hchk:ChkAt P0 2 SH:=⟨1,by rw[hP0];rfl,by rw[hP0];rfl⟩
 have hP0l:P0.length=3:=by rw[hP0];rfl
 clear hP0a hP0;obtain⟨J2,hJ2⟩:∃J2:Nat→SF→Prop,J2=fun k s=>∃j R,j+k=T.length∧s.e 77=.c (.int .i64 j)∧s.h=P0++R∧aU (P0++R)∧dj (bdE F SH) T=dj (bdE F SH) (T.drop j):=⟨_,rfl⟩
 refine aX J2 T.length hTm (by rw[hJ2];exact⟨0,R,by simp,by simp[au],rfl,hlR,by simp⟩) ?_;clear he e49 hcl;rintro k2 ⟨e2,h2,base2,rb2⟩ hj2 he2 hb2;rw[hJ2] at hj2;obtain⟨j,R2,hj2,e77,hh2,hlR2,hfx2⟩:=hj2;have f5:=he2 5 rfl;have f75:=he2 75 rfl;have f76:=he2 76 rfl;simp[au,e5] at f5 f75 f76 hb2;simp only at e77 hh2;subst hh2 hb2;by_cases hmj:j<T.length
 ·have hlt2:(j:Int)<T.length:=by omega
  have hw:IntKind.i64.wrap ((j:Int)+1)=(j:Int)+1:=aB (by omega);have hvg:(D.vs T)[j]'(by rw[aa];omega)=(T[j]).v:=ac _;have hlx:=nP hlR2 T[j];have hxm:=List.getElem_mem hmj;have hx4j:=hx4 _ hxm;have hszj:=hszx _ hxm;have hsznj:=hszn _ hxm;have c53x:=fun h i=>c53 SH T[j] h i (hmem _ hxm) hx4j
  rw[jQ _ hmj] at hfx2;generalize T[j]=x at *;have k2':=aC (aA (d:=x) (j:=1) (by omega));have k3':=aC (aA (d:=x) (j:=2) (by omega));have k5':=aQ (x.kid 1);have k6':=aQ (x.kid 2);have q2:2<x.kids.length:=by omega
  have q3:3<x.kids.length:=by omega
  have q2i:(2:Int)<x.kids.length:=by omega
  have q3i:(3:Int)<x.kids.length:=by omega
  simp -implicitDefEqProofs [x16l39_w,f5,f75,f76,e77,hvg,hlt2,hmj,ae];refine Ei (P:=P0++(R2++[.cells x.v.cells])) (R:=[]) (d:=x) (id:=P0.length+R2.length) c52 (by omega) (by omega) (by omega) (by omega) hx4j (by simp[au]) ?_ (by simp[au]) (by simp[au]) (by simp) (by simpa using hlx) ?_
  ·rw[aR (by omega),aR (by omega)];simp
  intro e3 R3 si3 rb3 hk3 h311 hl3;have g5:e3 5=.ref 2 0:=by
   have:=hk3 5 rfl;simpa[au,f5] using this
  have g10:e3 10=.ref (P0.length+R2.length) 0:=by
   have:=hk3 10 rfl;simpa[au] using this
  have g75:e3 75=.sl (D.vs T) .any:=by
   have:=hk3 75 rfl;simpa[au,f75] using this
  have g77:e3 77=.c (.int .i64 j):=by
   have:=hk3 77 rfl;simpa[au,e77] using this
  have hid:(P0++(R2++[O.cells x.v.cells])++R3)[P0.length+R2.length]?=some (.cells x.v.cells):=by
   refine bU ?_ _;rw[aR (by omega),aR (by omega)];simp
  have hca:=c53x (P0++(R2++[O.cells x.v.cells])++R3) si3 ((hchk.app _).app _) hl3;have hst:x.sta=(!(x.kid 3).dyn&&(x.kid 2).kids.length==0):=rfl;rw[hst] at hca;have hbe:bdE F SH x=bdE F SH x:=rfl;generalize bdE F SH x=er at *;have hz0:(((x.kid 2).kids.length:Int)==0)=((x.kid 2).kids.length==0):=lbq _ 0;generalize scV x.scp=SC at *;generalize hHH:P0++(R2++[O.cells x.v.cells])++R3=HH at *;cases hdy:(x.kid 3).dyn with
  | true =>
   rw[hdy] at hca;have c54x:=c54 (x.kid 3);rw[hdy] at c54x;simp only[Bool.not_true,Bool.false_and] at hca;by_cases her:er=0
   ·rw[her] at hca;rw[if_pos her] at hfx2;simp -implicitDefEqProofs [g5,g10,g77,h311,hid,q2,q3,q2i,q3i,c54x,hca,hz0];refine⟨k2-1,by omega,?_⟩;rw[hJ2];exact⟨j+1,R2++[.cells x.v.cells]++R3,by omega,by simp[au,hw],by rw[← hHH];simp,by rw[← hHH] at hl3;simpa using hl3,hfx2⟩
   ·have herb:(er != 0)=true:=by simp[her]
    rw[if_neg her] at hfx2;rw[hfx2] at hRES;rw[hRES];simp -implicitDefEqProofs [x16_r,g5,g10,g77,h311,hid,q2,q3,q2i,q3i,c54x,hca,hz0,herb]
  | false =>
   rw[hdy] at hca;have c54x:=c54 (x.kid 3);rw[hdy] at c54x;simp only[Bool.not_false,Bool.true_and] at hca;by_cases her:er=0
   ·rw[her] at hca;rw[if_pos her] at hfx2;simp -implicitDefEqProofs [g5,g10,g77,h311,hid,q2,q3,q2i,q3i,c54x,hca,hz0];refine⟨k2-1,by omega,?_⟩;rw[hJ2];exact⟨j+1,R2++[.cells x.v.cells]++R3,by omega,by simp[au,hw],by rw[← hHH];simp,by rw[← hHH] at hl3;simpa using hl3,hfx2⟩
   ·have herb:(er != 0)=true:=by simp[her]
    rw[if_neg her] at hfx2;rw[hfx2] at hRES;rw[hRES];simp -implicitDefEqProofs [x16_r,g5,g10,g77,h311,hid,q2,q3,q2i,q3i,c54x,hca,hz0,herb]
 ·have hlt2:¬(j:Int)<T.length:=by omega
  obtain rfl:j=T.length:=by omega
  have hfx2:dj (bdE F SH) T=0:=by rw[hfx2,List.drop_length,dj]
  rw[hfx2] at hRES;rw[hRES];simp -implicitDefEqProofs [x16l39_w,x16_r,f5,f75,f76,e77]
def dfC (d:D):List V:=(d.kid 0).v.cells++([.sl (ss (txs (d.kid 1).kids)) .any,.sl (ss (txs (d.kid 2).kids)) .any]++(d.kid 3).v.cells)
def dfV (l:List D):List V:=l.map fun d=>.agg (dfC d)
theorem da (l:List D):(dfV l).length=l.length:=by simp[dfV]
theorem jh (d:D):(dfC d).length=10:=by simp[dfC,ab]
theorem jD {l:List D}{j:Nat}(h:j<(dfV l).length):(dfV l)[j]=.agg (dfC (l[j]'(by rwa [da] at h))):=by simp[dfV]
theorem gb (m:Nat) (a b:List V):V.lows m (a++b)=(V.lows m a&&V.lows m b):=by
 induction a with
 | nil=>simp[V.lows]
 | cons x a ih=>simp[V.lows,ih,Bool.and_assoc]
theorem kX (m:Nat) (d:D):V.lows m (dfC d)=true:=by
 have h3:=eW m (txs (d.kid 1).kids);have h4:=eW m (txs (d.kid 2).kids);unfold dfC;rw[gb,gb,D.low_cells,D.low_cells];simp[V.low,V.lows,SI.low,h3,h4]
theorem Ax (m:Nat) (l:List D):V.lows m (dfV l)=true:=cq fun v hv=>by
 obtain⟨d,_,rfl⟩:=List.mem_map.1 hv;simpa[V.low] using kX m d
theorem vq (d:D):rdV (dfC d) 0 (some 4)=some (d.kid 0).v:=by
 unfold dfC;generalize d.kid 0=a;obtain⟨ka,ia,ta,la⟩:=a;rfl
theorem zV (d:D):rdV (dfC d) 4 none=some (.sl (ss (txs (d.kid 1).kids)) .any):=by
 unfold dfC;generalize d.kid 0=a;obtain⟨ka,ia,ta,la⟩:=a;rfl
theorem pU (d:D):rdV (dfC d) 5 none=some (.sl (ss (txs (d.kid 2).kids)) .any):=by
 unfold dfC;generalize d.kid 0=a;obtain⟨ka,ia,ta,la⟩:=a;rfl
theorem zw (d:D):rdV (dfC d) 6 (some 4)=some (d.kid 3).v:=by
 unfold dfC;generalize d.kid 0=a;generalize d.kid 3=b;obtain⟨ka,ia,ta,la⟩:=a;obtain⟨kb,ib,tb,lb⟩:=b;rfl
theorem Ep (d:D):rdV (dfC d) 0 (some 10)=some (.agg (dfC d)):=by
 unfold dfC;generalize d.kid 0=a;generalize d.kid 3=b;obtain⟨ka,ia,ta,la⟩:=a;obtain⟨kb,ib,tb,lb⟩:=b;rfl
attribute [simp] vq zV pU zw Ep jh da
def dt (h:List O) (id:Nat) (U:List V) (s1:SI) (l:List D) (s2:SI):Prop:=h[id]?=some (.cells [.sl U s1,.sl (dfV l) s2])
theorem Fj {h:List O}{id:Nat}{U:List V}{s1 s2:SI}{l:List D}(ht:dt h id U s1 l s2) (x:D) (hh:aU h){n:Nat}(hx:∀d∈l,2*(d.kid 0).sz+2≤n∧(d.kid 0).sz<4611686018427387904) (hn:l.length<n) (hl:l.length<1099511627776) :
  call X E (n+1) 38 [.ref id 0,x.v] h=some (.c (.int .i64 (fix (fun d=>(d.kid 0).same x) l 0)),h):=by
 have c24:∀d∈l,∀h,call X E n 24 [(d.kid 0).v,x.v] h=some (.c (.bool ((d.kid 0).same x)),h):=fun d hd=>CS (d.kid 0) x (hx d hd).2 n (hx d hd).1
 have hr2:(V.ref id 0).vw2=.ref id 0:=rfl;refine d6 rfl rfl rfl (by kernel_rfl) ⟨rfl,rfl⟩ (by simp[V.low]) hh ?_;generalize call X E n=cf at *;simp -implicitDefEqProofs [x38_w];have hta:(h++[O.cells x.v.cells])[id]?=some (.cells [.sl U s1,.sl (dfV l) s2]):=bU ht _;obtain⟨J,hJ⟩:∃J:Nat→SF→Prop,J=fun k s=>∃j,j+k=l.length∧s.e 5=.c (.int .i64 j)∧s.h=h++[O.cells x.v.cells]∧fix (fun d=>(d.kid 0).same x) l 0=fix (fun d=>(d.kid 0).same x) (l.drop j) j:=⟨_,rfl⟩
 refine aX J l.length hn (by rw[hJ];exact⟨0,by simp,by simp[au],rfl,by simp⟩) ?_;rintro k ⟨e,h',base,rb⟩ hj he hb;rw[hJ] at hj;obtain⟨j,hj,e5,hh',hfx⟩:=hj;have e0:=he 0 rfl;have e3:=he 3 rfl;simp[au,bD] at e0 e3 hb;simp only at e5 hh';subst hh' hb;by_cases hm:j<l.length
 ·have hlt:(j:Int)<l.length:=by omega
  have hw:IntKind.i64.wrap ((j:Int)+1)=(j:Int)+1:=aB (by omega);have hvg:(dfV l)[j]'(by rw[da];exact hm)=.agg (dfC l[j]):=jD _;have c24x:=c24 _ (List.getElem_mem hm);rw[fO _ hm] at hfx;cases hp:(l[j].kid 0).same x with
  | true =>
   rw[hp] at c24x;simp only[hp,if_true] at hfx;generalize l[j]=y at *;rw[hfx];simp -implicitDefEqProofs [x38l7_w,x38_r,e0,e3,e5,hta,hvg,hlt,hm,c24x]
  | false =>
   rw[hp] at c24x;simp only[hp,Bool.false_eq_true,if_false] at hfx;generalize l[j]=y at *;simp -implicitDefEqProofs [x38l7_w,e0,e3,e5,hta,hvg,hlt,hm,c24x];refine⟨k-1,by omega,?_⟩;rw[hJ];exact⟨j+1,by omega,by simp[au,hw],rfl,by simpa using hfx⟩
 ·have hlt:¬(j:Int)<l.length:=by omega
  obtain rfl:j=l.length:=by omega
  have hfx:fix (fun d=>(d.kid 0).same x) l 0 = -1:=by rw[hfx,List.drop_length,fix]
  rw[hfx];simp -implicitDefEqProofs [x38l7_w,x38_r,e0,e3,e5,hta,hlt]
theorem pM {l:List (D × Bool × Bool)}{j:Nat}(h:j<(ptV l).length):(ptV l)[j]=.agg (ptC (l[j]'(by rwa [fE] at h))):=by simp[ptV]
theorem zi (p:D × Bool × Bool):rdV (ptC p) 0 (some 4)=some p.1.v:=by
 obtain⟨⟨k,i,t,l⟩,a,b⟩:=p;rfl
theorem Ee (p:D × Bool × Bool):rdV (ptC p) 4 none=some (.c (.bool p.2.1)):=by
 obtain⟨⟨k,i,t,l⟩,a,b⟩:=p;rfl
theorem CA (p:D × Bool × Bool):rdV (ptC p) 5 none=some (.c (.bool p.2.2)):=by
 obtain⟨⟨k,i,t,l⟩,a,b⟩:=p;rfl
theorem vN (ps:List (D × Bool × Bool)):∃i,ptR ps=.sl (ptV ps) i:=by
 unfold ptR;split
 ·rename_i h;exact⟨_,by rw[h];rfl⟩
 ·exact⟨_,rfl⟩
attribute [simp] zi Ee CA fE d9
def Gk (n id:Nat) (U:List V) (s1:SI) (l:List D) (s2:SI) (B:Nat) (g:List (ByteArray × Bool)→Bool→D→Int) (x:D):Prop :=
 ∀(rs:List (ByteArray × Bool)) (st:Bool) (v:V) (h:List O),rs.length+x.sz≤B→dt h id U s1 l s2→LvAt h v rs→aU h →
  call X E n 42 [.ref id 0,x.v,.c (.bool (!st)),v] h=some (.c (.int .i64 (g rs st x)),h)
theorem yS (g:List (ByteArray × Bool)→Bool→D→Int) (rs rs2:List (ByteArray × Bool)){ps:List (D × Bool × Bool)}{j:Nat}(h:j<ps.length) :
  exL g rs rs2 (ps.drop j)=if g (if ps[j].2.2=true then rs2 else rs) (!ps[j].2.1) ps[j].1=0 then exL g rs rs2 (ps.drop (j+1)) else g (if ps[j].2.2=true then rs2 else rs) (!ps[j].2.1) ps[j].1:=by
 rw[dC h,exL]
theorem LvAt.low {h:List O}{v:V}{rs:List (ByteArray × Bool)}(a:LvAt h v rs):v.low h.length=true:=by
 cases rs with
 | nil=>cases a;rfl
 | cons p r =>
  obtain⟨id,v',rfl,h1,_⟩:=a;have:=(gS.1 h1).1;simpa[V.low] using this
theorem LvAt.fit {h:List O}{v:V}{rs:List (ByteArray × Bool)}(a:LvAt h v rs):v.vwf=v∧okc v=true∧v.cells.length=1∧v.cells=[v]:=by
 cases rs with
 | nil=>cases a;exact⟨rfl,rfl,rfl,rfl⟩
 | cons p r=>obtain⟨id,v',rfl,h1,_⟩:=a;exact⟨rfl,rfl,rfl,rfl⟩
theorem D7 {cf:aw}{n id:Nat}{U:List V}{s1:SI}{l:List D}{s2:SI}{B:Nat}{g:List (ByteArray × Bool)→Bool→D→Int}{d:D}{rs:List (ByteArray × Bool)}{v:V}{h:List O}
  (c98:∀h,cf 98 [d.v] h=some (ptR (prP d),h)) (hlen:(prP d).length<n) (hlen2:(prP d).length<1099511627776)
  (hc:∀p∈prP d,∀(rs:List (ByteArray × Bool)) (st:Bool) (v:V) (h:List O),rs.length+p.1.sz≤B→dt h id U s1 l s2→LvAt h v rs→aU h→cf 42 [.ref id 0,p.1.v,.c (.bool (!st)),v] h=some (.c (.int .i64 (g rs st p.1)),h))
  (hB:∀p∈prP d,rs.length+1+p.1.sz≤B) (hk:∀p∈prP d,p.2.2=true→1<d.kids.length)
  (ht:dt h id U s1 l s2) (hv:LvAt h v rs) (hh:aU h){e:Nat→V}{R:List O}{rb:Nat}
  (e0:e 0=.ref id 0) (e3:e 3=v) (e5:e 5=.ref h.length 0) (e9:e 9=.c (.string d.wd)) (hR:aU (h++O.cells d.v.cells::R)){r:Int}(hr:r=exL g rs (((d.kid 1).tx,!(wn d.wd==13))::rs) (prP d)) :
  wpk cf n x42r25 [Fr.seq ((x42r26.seq (XC.block 1 x42l35.loop)).seq (x42r36.seq XC.ret))] (Fin (fun vs s=>(bG vs).vw=.c (.int .i64 r)∧s.take h.length=h) x42) ⟨e,h++O.cells d.v.cells::R,h.length,rb⟩:=by
 obtain⟨i,hi⟩:=vN (prP d);rw[hi] at c98;generalize prP d=ps at *;obtain⟨v1,v2,v3,v4⟩:=hv.fit;simp -implicitDefEqProofs [x42r25_w,x42r26_w,e5,c98];obtain⟨J,hJ⟩:∃J:Nat→SF→Prop,J=fun k s=>∃j R,j+k=ps.length∧s.e 15=.c (.int .i64 j)∧s.h=h++O.cells d.v.cells::R∧aU (h++O.cells d.v.cells::R)∧r=exL g rs (((d.kid 1).tx,!(wn d.wd==13))::rs) (ps.drop j):=⟨_,rfl⟩
 refine aX J ps.length hlen (by rw[hJ];exact⟨0,R,by simp,by simp[au],by simp,hR,by simpa using hr⟩) ?_;rintro k ⟨e',h',base,rb'⟩ hj he hb;rw[hJ] at hj;obtain⟨j,R',hj,e15,hh',hlR,hfx⟩:=hj;have f0:=he 0 rfl;have f3:=he 3 rfl;have f5:=he 5 rfl;have f9:=he 9 rfl;have f14:=he 14 rfl;simp[au,e0,e3,e5,e9] at f0 f3 f5 f9 f14 hb;simp only at e15 hh';subst hh' hb;have hta:dt (h++O.cells d.v.cells::R') id U s1 l s2:=bU ht _;have hva:LvAt (h++O.cells d.v.cells::R') v rs:=hv.app _;by_cases hm:j<ps.length
 ·have hlt:(j:Int)<ps.length:=by omega
  have hw:IntKind.i64.wrap ((j:Int)+1)=(j:Int)+1:=aB (by omega);have hvg:(ptV ps)[j]'(by rw[fE];exact hm)=.agg (ptC ps[j]):=pM _;have hc1:=hc _ (List.getElem_mem hm);have hB1:=hB _ (List.getElem_mem hm);have hk1:=hk _ (List.getElem_mem hm);rw[yS _ _ _ hm] at hfx;generalize ps[j]=p at *;obtain⟨x,mv,lt⟩:=p;simp only at hc1 hB1 hk1 hfx;cases lt with
  | false =>
   simp only[Bool.false_eq_true,if_false] at hfx;have hcx:=hc1 rs (!mv) v (h++O.cells d.v.cells::R') (by omega) hta hva hlR;rw[Bool.not_not] at hcx;by_cases h0:g rs (!mv) x=0
   ·rw[if_pos h0] at hfx;rw[h0] at hcx;simp -implicitDefEqProofs [x42l35_w,f0,f3,f5,f9,f14,e15,hvg,hlt,hm,hcx];refine⟨k-1,by omega,?_⟩;rw[hJ];exact⟨j+1,R',by omega,by simp[au,hw],rfl,hlR,hfx⟩
   ·have h0b:(g rs (!mv) x != 0)=true:=by simp[h0]
    rw[if_neg h0] at hfx;rw[hfx];simp -implicitDefEqProofs [x42l35_w,x42_r,f0,f3,f5,f9,f14,e15,hvg,hlt,hm,hcx,h0b]
  | true =>
   simp only[if_true] at hfx;have h1l:1<d.kids.length:=hk1 rfl;have h1i:(1:Int)<d.kids.length:=by omega
   have hvk:(D.vs d.kids)[1]'(by rw[aa];exact h1l)=(d.kid 1).v:=by rw[ac _,fN]
   have hR2:h++O.cells d.v.cells::(R'++[O.cells [.c (.string (d.kid 1).tx),.c (.bool (wn d.wd==13)),v]])=(h++O.cells d.v.cells::R')++[O.cells [.c (.string (d.kid 1).tx),.c (.bool (wn d.wd==13)),v]]:=by simp
   have hlR2:aU (h++O.cells d.v.cells::(R'++[O.cells [.c (.string (d.kid 1).tx),.c (.bool (wn d.wd==13)),v]])):=by
    rw[hR2];refine nV hlR ?_;have:=(hva.app [O.cells [.c (.string (d.kid 1).tx),.c (.bool (wn d.wd==13)),v]]).low;simp only[lA,lC,List.length_nil] at this;simp[O.low,V.lows,V.low,this]
   have hcx:=hc1 (((d.kid 1).tx,!(wn d.wd==13))::rs) (!mv) (.ref (h++O.cells d.v.cells::R').length 0) (h++O.cells d.v.cells::(R'++[O.cells [.c (.string (d.kid 1).tx),.c (.bool (wn d.wd==13)),v]])) (by simp only[lC];omega) (bU ht _)
    ⟨_,v,rfl,by rw[hR2,Bool.not_not];simp,by rw[hR2];exact hva.app _⟩ hlR2
   rw[Bool.not_not,show (h++O.cells d.v.cells::R').length=h.length+(R'.length+1) by simp] at hcx;by_cases h0:g (((d.kid 1).tx,!(wn d.wd==13))::rs) (!mv) x=0
   ·rw[if_pos h0] at hfx;rw[h0] at hcx;simp -implicitDefEqProofs [x42l35_w,f0,f3,f5,f9,f14,e15,hvg,hlt,hm,hcx,hvk,h1l,h1i,v1,v2,v3,v4];refine⟨k-1,by omega,?_⟩;rw[hJ];exact⟨j+1,_,by omega,by simp[au,hw],rfl,hlR2,hfx⟩
   ·have h0b:(g (((d.kid 1).tx,!(wn d.wd==13))::rs) (!mv) x != 0)=true:=by simp[h0]
    rw[if_neg h0] at hfx;rw[hfx];simp -implicitDefEqProofs [x42l35_w,x42_r,f0,f3,f5,f9,f14,e15,hvg,hlt,hm,hcx,h0b,hvk,h1l,h1i,v1,v2,v3,v4]
 ·have hlt:¬(j:Int)<ps.length:=by omega
  obtain rfl:j=ps.length:=by omega
  have hfx:r=0:=by rw[hfx,List.drop_length,exL]
  rw[hfx];simp -implicitDefEqProofs [x42l35_w,x42_r,x42r36_w,f0,f3,f5,f9,f14,e15]
theorem pR {t:ByteArray}(h:yd t=true):t=⟨#[]⟩:=by
 have:eqS t ⟨#[]⟩=true:=h;rw[dl] at this;exact of_decide_eq_true this
theorem wM {a b:D}(ha:a.fm=true) (hb:b.fm=true) (la:a.lab=true) (lb:b.lab=true):a.same b=decide (b.key2=a.key2):=by
 obtain⟨k,n,t,l⟩:=a;obtain⟨k',n',t',l'⟩:=b;simp only[D.fm] at ha hb;simp only[D.lab,D.nm,D.kd,D.tx,D.nu] at la lb;simp only[D.same,D.key2,D.nu,D.tx];have hk:k=1∨k=2:=by
  by_cases h1:k=1
  ·exact .inl h1
  ·simp[h1] at la;exact .inr la.1
 have hk':k'=1∨k'=2:=by
  by_cases h1:k'=1
  ·exact .inl h1
  ·simp[h1] at lb;exact .inr lb.1
 have s1:db ⟨#[]⟩=true:=by
  unfold db;rw[show (⟨#[]⟩:ByteArray).size=0 from rfl];rfl
 have s0:ei ⟨#[]⟩=false:=by
  unfold ei;rw[s1];rfl
 rcases hk with rfl|rfl<;>rcases hk' with rfl|rfl
 ·simp at ha hb;obtain⟨ha,rfl⟩:=ha;obtain⟨hb,rfl⟩:=hb;have h1:=pR ha;have h2:=pR hb;subst h1 h2;rw[Bool.eq_iff_iff];simp[D.sames,dl];exact eq_comm
 ·simp at ha hb;have h1:=pR ha.1;subst h1;have:t'≠⟨#[]⟩:=fun h=>by rw[h,s0] at hb;simp at hb
  simp[this]
 ·simp at ha hb;have h1:=pR hb.1;subst h1;have:t≠⟨#[]⟩:=fun h=>by rw[h,s0] at ha;simp at ha
  simp[this.symm]
 ·simp at ha hb;obtain⟨⟨rfl,_⟩,rfl⟩:=ha;obtain⟨⟨rfl,_⟩,rfl⟩:=hb;rw[Bool.eq_iff_iff];simp[D.sames,dl];exact eq_comm
theorem lp {x:D}(hx:x.fm=true) (lx:x.lab=true):∀(l:List D) (i:Nat),(∀d∈l,(d.kid 0).fm=true∧(d.kid 0).lab=true) →
  (fdK (l.map hdN) x.key2=none∧fix (fun d=>(d.kid 0).same x) l i = -1)∨∃j,∃hj:j<l.length,fix (fun d=>(d.kid 0).same x) l i=((i+j:Nat):Int)∧fdK (l.map hdN) x.key2=some (hdN l[j]).2
 | [],i,_=>.inl ⟨rfl,rfl⟩
 | d::l,i,h=>by
  obtain⟨h1,h2⟩:=h d (.head _);have h3:=wM h1 hx h2 lx;rw[List.map_cons,fdK,fix,h3];by_cases hk:x.key2=(d.kid 0).key2
  ·right;refine⟨0,by simp,?_,?_⟩
   ·simp[hk]
   ·rw[if_pos (show x.key2=(hdN d).1 from hk)];rfl
  ·have hk2:¬x.key2=(hdN d).1:=hk;rw[if_neg hk2,if_neg (by simp[hk])];rcases lp hx lx l (i+1) (fun y hy=>h y (.tail _ hy)) with⟨a,b⟩|⟨j,hj,a,b⟩
   ·exact .inl ⟨a,b⟩
   ·refine .inr ⟨j+1,by simp;omega,?_,?_⟩
    ·rw[a];congr 1;omega
    ·rw[b];rfl
theorem qC {d:D}(hf:fmW (wn d.wd) d=true):∀p∈prP d,(p.1∈d.kids∨∃j,j<d.kids.length∧p.1∈(d.kid j).kids)∧(p.2.2=true→1<d.kids.length):=by
 intro p hp;have hm3:∀{b:Bool}{l:List D},p∈l.map (mk3 b)→p.1∈l∧p.2.2=false:=by
  intro b l h;obtain⟨x,hx,rfl⟩:=List.mem_map.1 h;exact⟨hx,rfl⟩
 have hdr:∀{b:Bool}{j:Nat},p∈(d.kids.drop j).map (mk3 b)→(p.1∈d.kids∨∃j,j<d.kids.length∧p.1∈(d.kid j).kids)∧(p.2.2=true→1<d.kids.length):=by
  intro b j h;obtain⟨h1,h2⟩:=hm3 h;exact⟨.inl (List.mem_of_mem_drop h1),by simp[h2]⟩
 unfold prP at hp;split at hp
 ·exact hdr hp
 split at hp
 ·exact hdr hp
 split at hp
 ·rcases List.mem_append.1 hp with hp|hp
  ·obtain⟨h1,h2⟩:=hm3 hp;exact⟨.inl (List.mem_of_mem_take (List.mem_of_mem_drop h1)),by simp[h2]⟩
  ·exact hdr hp
 split at hp
 ·rename_i _ _ _ hw;have h4:d.kids.length=4:=by
   unfold fmW at hf;rw[if_neg (by omega),if_neg (by omega),if_neg (by omega),if_neg (by omega),if_pos hw] at hf;simp at hf;exact hf.1
  simp only[List.mem_cons,List.not_mem_nil,or_false] at hp;rcases hp with rfl|rfl
  ·exact⟨.inl (aA (by omega)),fun _=>by omega⟩
  ·exact⟨.inl (aA (by omega)),fun _=>by omega⟩
 split at hp
 ·exact hdr hp
 split at hp
 ·exact hdr hp
 split at hp
 ·rename_i _ _ _ _ _ _ hw;have h4:d.kids.length=4:=by
   unfold fmW at hf;rw[if_neg (by omega),if_neg (by omega),if_neg (by omega),if_neg (by omega),if_neg (by omega),if_neg (by omega),if_neg (by omega),if_pos hw] at hf;simp at hf;exact hf.1
  rcases List.mem_append.1 hp with hp|hp
  ·obtain⟨h1,h2⟩:=hm3 hp;exact⟨.inr ⟨2,by omega,h1⟩,by simp[h2]⟩
  ·obtain⟨h1,h2⟩:=hm3 hp;exact⟨.inr ⟨3,by omega,h1⟩,by simp[h2]⟩
 ·cases hp
theorem ng {d:D}(hf:fmW (wn d.wd) d=true):(prP d).length≤2*d.sz+2:=by
 have h0:=aQ d;unfold prP;split
 ·simp;omega
 split
 ·simp;omega
 split
 ·simp;omega
 split
 ·simp
 split
 ·simp;omega
 split
 ·simp;omega
 split
 ·rename_i _ _ _ _ _ _ hw;have h4:d.kids.length=4:=by
   unfold fmW at hf;rw[if_neg (by omega),if_neg (by omega),if_neg (by omega),if_neg (by omega),if_neg (by omega),if_neg (by omega),if_neg (by omega),if_pos hw] at hf;simp at hf;exact hf.1
  have a:=aC (aA (d:=d) (j:=2) (by omega));have b:=aC (aA (d:=d) (j:=3) (by omega));have a2:=aQ (d.kid 2);have b2:=aQ (d.kid 3);simp only[lA,List.length_map];omega
 ·simp
theorem zh {d:D}(hf:d.fm=true) (hl:d.lab=true):d.sz=1:=by
 obtain⟨k,n,t,l⟩:=d;simp only[D.fm] at hf;simp only[D.lab,D.nm,D.kd,D.tx,D.nu] at hl;by_cases h1:k=1
 ·simp[h1] at hf;rw[hf.2];rfl
 ·simp[h1] at hl;simp[hl.1] at hf;rw[hf.2];rfl
theorem nr {l:List D}{j:Nat}(h:j<l.length):(dfV l)[j]'(by rw[da];exact h)=.agg (dfC l[j]):=jD _
theorem Ij {n id:Nat}{U:List V}{s1:SI}{l:List D}{s2:SI}{B:Nat}{g:List (ByteArray × Bool)→Bool→D→Int}{d:D}(hfm:d.fm=true)
  (hK:∀x:D,x.sz<d.sz→x.fm=true→Gk n id U s1 l s2 B g x) (hll:l.length≤B) (hh0:∀d∈l,(d.kid 0).fm=true∧(d.kid 0).lab=true)
  (hn:2*B+200≤n) (hl:d.sz<1000000000) (hB2:B<100000000000):Gk (n+1) id U s1 l s2 B (exB g (l.map hdN)) d:=by
 intro rs st v h hB ht hv hh;obtain⟨n,rfl⟩:∃n',n=n'+2:=⟨n-2,by omega⟩
 have c95:∀h,call X E (n+2) 95 [d.v,.c (.bool (!st))] h=some (.c (.bool (d.dyn == !st&&fmW (wn d.wd) d)),h):=H8 d (!st) (by omega);have c56:∀h,call X E (n+2) 56 [d.v] h=some (.c (.string d.wd),h):=Cp d;have c41:∀(x:D) h,call X E (n+2) 41 [x.v] h=some (.c (.bool x.dyn),h):=fun x=>FF x
 have c96:∀t,call X E (n+2) 96 [v,.c (.string t),.c (.bool (!st))] (h++[O.cells d.v.cells])=some (.c (.bool (decide (fdS rs t=some st))),h++[O.cells d.v.cells]):=fun t=>HJ (hv.app _) t st (nP hh d) (by omega)
 have c97:∀(t:ByteArray) h,call X E (n+2) 97 [.c (.string t)] h=some (.tup [.c (.int .i64 (arN (wn t))),.c (.bool (arB (wn t)))],h):=fun t=>Hb t
 have c38:∀(x:D),call X E (n+2) 38 [.ref id 0,x.v] (h++[O.cells d.v.cells])=some (.c (.int .i64 (fix (fun d=>(d.kid 0).same x) l 0)),h++[O.cells d.v.cells]):=fun x =>
  Fj (bU ht _) x (nP hh d) (fun y hy=>by
   obtain⟨h1,h2⟩:=hh0 y hy;rw[zh h1 h2];omega) (by omega) (by omega)
 have hkl:=aQ d;have hhE:aU (h++O.cells d.v.cells::[]):=nP hh d;have hta:∀R,(h++R)[id]?=some (.cells [.sl U s1,.sl (dfV l) s2]):=fun R=>bU ht R
 have tl:∀(hf:fmW (wn d.wd) d=true){e:Nat→V}{R:List O}{rb:Nat},e 0=.ref id 0→e 3=v→e 5=.ref h.length 0→e 9=.c (.string d.wd)→aU (h++O.cells d.v.cells::R)→∀{r:Int},r=exL g rs (((d.kid 1).tx,!(wn d.wd==13))::rs) (prP d) →
   wpk (call X E (n+2)) (n+2) x42r25 [Fr.seq ((x42r26.seq (XC.block 1 x42l35.loop)).seq (x42r36.seq XC.ret))] (Fin (fun vs s=>(bG vs).vw=.c (.int .i64 r)∧s.take h.length=h) x42) ⟨e,h++O.cells d.v.cells::R,h.length,rb⟩:=by
  intro hf e R rb e0 e3 e5 e9 hR r hr;have hpl:=ng hf;have hsz:∀p∈prP d,p.1.sz<d.sz∧p.1.fm=true:=by
   intro p hp;rcases (qC hf p hp).1 with hx|⟨j,hj,hx⟩
   ·exact⟨aC hx,af hfm _ hx⟩
   ·have a:=aC hx;have b:=aC (aA hj);exact⟨by omega,af (af hfm _ (aA hj)) _ hx⟩
  exact D7 (B:=B) (fun h=>F2 d hf (by omega) hl h) (by omega) (by omega) (fun p hp=>hK p.1 (hsz p hp).1 (hsz p hp).2) (fun p hp=>by have:=(hsz p hp).1;omega) (fun p hp=>(qC hf p hp).2) ht hv hh e0 e3 e5 e9 hR hr
 refine d6 rfl rfl rfl (by kernel_rfl) ⟨rfl,rfl⟩ (by simp[V.low]) hh ?_;generalize n+2=m at *;generalize call X E m=cf at *;have hvw:=hv.vw2;have hr2:(V.ref id 0).vw2=.ref id 0:=rfl;cases hf:(d.dyn == !st&&fmW (wn d.wd) d) with
 | false =>
  rw[hf] at c95;rw[show exB g (l.map hdN) rs st d=4 by unfold exB;rw[hf];rfl];simp -implicitDefEqProofs [x42_w,x42_r,c95,c56,hvw]
 | true =>
  rw[hf] at c95;have hf2:fmW (wn d.wd) d=true:=by
   rw[bT] at hf;exact hf.2
  have hdy:d.dyn = !st:=by
   rw[bT] at hf;exact eq_of_beq hf.1
  have hdy2:slw (wn d.wd) = !st:=hdy;have tl:=@tl hf2;have hE:exB g (l.map hdN) rs st d=if hdP (wn d.wd) (l.map hdN) rs st d=0 then exL g rs (((d.kid 1).tx,!(wn d.wd==13))::rs) (prP d) else hdP (wn d.wd) (l.map hdN) rs st d:=by unfold exB;rw[hf];rfl
  rw[hE];clear hE;have hk1:∀h1:1<d.kids.length,(D.vs d.kids)[1]'(by rw[aa];exact h1)=(d.kid 1).v:=fun h1=>by rw[ac _,fN]
  unfold fmW at hf2;by_cases h5:wn d.wd=5
  ·rw[h5] at tl hf2 hdy2;rw[h5];have hl2:d.kids.length=2:=by
    simp at hf2;exact hf2.1
   have h1l:1<d.kids.length:=by omega
   have h1i:(1:Int)<d.kids.length:=by omega
   have hk1:=hk1 h1l;have c96:=c96 (d.kid 1).tx;have hP:hdP 5 (l.map hdN) rs st d=if fdS rs (d.kid 1).tx=some st then 0 else 12:=rfl
   rw[hP];by_cases hs:fdS rs (d.kid 1).tx=some st
   ·have hsb:decide (fdS rs (d.kid 1).tx=some st)=true:=by simp[hs]
    rw[hsb] at c96;rw[if_pos hs,if_pos rfl];simp -implicitDefEqProofs [x42_w,x42_r,c95,c56,hvw,h5,hk1,h1l,h1i,c96];exact tl (by simp[au,bD]) (by simp[au,bD]) (by simp[au,bD]) (by simp[au,bD]) hhE rfl
   ·have hsb:decide (fdS rs (d.kid 1).tx=some st)=false:=by simp[hs]
    rw[hsb] at c96;rw[if_neg hs,if_neg (by decide)];simp -implicitDefEqProofs [x42_w,x42_r,c95,c56,hvw,h5,hk1,h1l,h1i,c96]
  by_cases h8:wn d.wd=8
  ·rw[h8] at tl hf2 hdy2;rw[h8];have hl2:d.kids.length=2:=by
    simp at hf2;exact hf2.1
   have h1l:1<d.kids.length:=by omega
   have h1i:(1:Int)<d.kids.length:=by omega
   have hk1:=hk1 h1l;have c96:=c96 (d.kid 1).tx;have hP:hdP 8 (l.map hdN) rs st d=if fdS rs (d.kid 1).tx=some st then 0 else 12:=rfl
   rw[hP];by_cases hs:fdS rs (d.kid 1).tx=some st
   ·have hsb:decide (fdS rs (d.kid 1).tx=some st)=true:=by simp[hs]
    rw[hsb] at c96;rw[if_pos hs,if_pos rfl];simp -implicitDefEqProofs [x42_w,x42_r,c95,c56,hvw,h8,hk1,h1l,h1i,c96];exact tl (by simp[au,bD]) (by simp[au,bD]) (by simp[au,bD]) (by simp[au,bD]) hhE rfl
   ·have hsb:decide (fdS rs (d.kid 1).tx=some st)=false:=by simp[hs]
    rw[hsb] at c96;rw[if_neg hs,if_neg (by decide)];simp -implicitDefEqProofs [x42_w,x42_r,c95,c56,hvw,h8,hk1,h1l,h1i,c96]
  by_cases h7:wn d.wd=7
  ·rw[h7] at tl hf2 hdy2;rw[h7];have h1l:1<d.kids.length:=by
    simp at hf2;exact hf2.1
   have h1i:(1:Int)<d.kids.length:=by omega
   have hk1:=hk1 h1l;have c97:=c97 (d.kid 1).tx;have hP:hdP 7 (l.map hdN) rs st d=if arN (wn (d.kid 1).tx)=(d.kids.length:Int)-2 then 0 else 11:=rfl
   have hw2:IntKind.i64.wrap ((d.kids.length:Int)-2)=(d.kids.length:Int)-2:=aB (by omega);rw[hP];by_cases hs:arN (wn (d.kid 1).tx)=(d.kids.length:Int)-2
   ·rw[if_pos hs,if_pos rfl];simp -implicitDefEqProofs [x42_w,x42_r,c95,c56,hvw,h7,hk1,h1l,h1i,c97,hs,hw2];exact tl (by simp[au,bD]) (by simp[au,bD]) (by simp[au,bD]) (by simp[au,bD]) hhE rfl
   ·have hsb:(arN (wn (d.kid 1).tx) != (d.kids.length:Int)-2)=true:=by simp[hs]
    rw[if_neg hs,if_neg (by decide)];simp -implicitDefEqProofs [x42_w,x42_r,c95,c56,hvw,h7,hk1,h1l,h1i,c97,hsb,hw2]
  by_cases h14:wn d.wd=14
  ·rw[h14] at tl hf2 hdy2;rw[h14];have h1l:1<d.kids.length:=by
    simp at hf2;exact hf2.1
   have h1i:(1:Int)<d.kids.length:=by omega
   have hk1:=hk1 h1l;have c97:=c97 (d.kid 1).tx;have hP:hdP 14 (l.map hdN) rs st d=if arN (wn (d.kid 1).tx)=(d.kids.length:Int)-2 then 0 else 11:=rfl
   have hw2:IntKind.i64.wrap ((d.kids.length:Int)-2)=(d.kids.length:Int)-2:=aB (by omega);rw[hP];by_cases hs:arN (wn (d.kid 1).tx)=(d.kids.length:Int)-2
   ·rw[if_pos hs,if_pos rfl];simp -implicitDefEqProofs [x42_w,x42_r,c95,c56,hvw,h14,hk1,h1l,h1i,c97,hs,hw2];exact tl (by simp[au,bD]) (by simp[au,bD]) (by simp[au,bD]) (by simp[au,bD]) hhE rfl
   ·have hsb:(arN (wn (d.kid 1).tx) != (d.kids.length:Int)-2)=true:=by simp[hs]
    rw[if_neg hs,if_neg (by decide)];simp -implicitDefEqProofs [x42_w,x42_r,c95,c56,hvw,h14,hk1,h1l,h1i,c97,hsb,hw2]
  by_cases h3:wn d.wd=3
  ·rw[h3] at tl hf2 hdy2;rw[h3];have h1l:1<d.kids.length:=by
    simp at hf2;exact hf2.1
   have hlab:(d.kid 1).labr=true:=by
    simp at hf2;exact hf2.2
   obtain rfl:st=true:=by
    cases st with
    | true=>rfl
    | false=>cases hdy2
   have h1i:(1:Int)<d.kids.length:=by omega
   have hk1:=hk1 h1l;have hf1:(d.kid 1).fm=true:=af hfm _ (aA h1l);rw[md hf1] at hlab;have c38:=c38 (d.kid 1);have hP:hdP 3 (l.map hdN) rs true d=match fdK (l.map hdN) (d.kid 1).key2 with
    | none=>5
    | some pp=>if pp.2.2=true then 14 else if (pp.1:Int)=(d.kids.length:Int)-2 then 0 else 11:=rfl
   have hw2:IntKind.i64.wrap ((d.kids.length:Int)-2)=(d.kids.length:Int)-2:=aB (by omega);rw[Bool.not_true] at c95;rcases lp hf1 hlab l 0 hh0 with⟨hN,hF⟩|⟨j,hj,hF,hN⟩
   ·rw[hN] at hP;rw[hF] at c38;rw[show hdP 3 (l.map hdN) rs true d=5 from hP,if_neg (by decide)];simp -implicitDefEqProofs [x42_w,x42_r,c95,c56,hvw,h3,hk1,h1l,h1i,c38]
   ·rw[hN] at hP;rw[hF] at c38;rw[Nat.zero_add] at c38;have hjl:j<(dfV l).length:=by rw[da];exact hj
    have hji:(j:Int)<l.length:=by omega
    have hj0:¬(j:Int)<0:=by omega
    have hvg:=nr hj;have hD:=c41 (l[j].kid 3);have hlw:=kX (h.length+2) l[j];generalize l[j]=y at *
    replace hP:hdP 3 (l.map hdN) rs true d=if (y.kid 3).dyn=true then 14 else if ((y.kid 1).kids.length:Int)=(d.kids.length:Int)-2 then 0 else 11:=hP
    have hhE2:aU (h++O.cells d.v.cells::[O.cells (dfC y)]):=by
     rw[show h++O.cells d.v.cells::[O.cells (dfC y)]=(h++[O.cells d.v.cells])++[O.cells (dfC y)] by simp];exact nV hhE (by simpa[O.low] using hlw)
    have hsp:bg [V.c (.int .i64 0),.c (.int .i64 0),.c (.string ⟨#[]⟩),.sl [] .nil,.sl [] .nil,.sl [] .nil,.c (.int .i64 0),.c (.int .i64 0),.c (.string ⟨#[]⟩),.sl [] .nil] 0 (dfC y)=dfC y:=by
     unfold dfC;generalize y.kid 0=a;generalize y.kid 3=b;obtain⟨ka,ia,ta,la⟩:=a;obtain⟨kb,ib,tb,lb⟩:=b;rfl
    have htl1:(txs (y.kid 1).kids).length=(y.kid 1).kids.length:=bO _;have htl2:(txs (y.kid 2).kids).length=(y.kid 2).kids.length:=bO _;cases hdd:(y.kid 3).dyn with
    | true =>
     rw[hdd] at hD hP;rw[if_pos rfl] at hP;rw[hP,if_neg (by decide)];simp -implicitDefEqProofs [x42_w,x42_r,c95,c56,hvw,h3,hk1,h1l,h1i,c38,hta,hjl,hji,hj,hj0,hvg,hsp,hD]
    | false =>
     rw[hdd] at hD hP;rw[if_neg (by decide)] at hP;by_cases hs:((y.kid 1).kids.length:Int)=(d.kids.length:Int)-2
     ·rw[if_pos hs] at hP;rw[hP,if_pos rfl];have hsb:(((y.kid 1).kids.length:Int) != (d.kids.length:Int)-2)=false:=by simp[hs]
      simp -implicitDefEqProofs [x42_w,x42_r,c95,c56,hvw,h3,hk1,h1l,h1i,c38,hta,hjl,hji,hj,hj0,hvg,hsp,hD,hw2,bI,htl1,hsb];exact tl (by simp[au,bD]) (by simp[au,bD]) (by simp[au,bD]) (by simp[au,bD]) hhE2 rfl
     ·rw[if_neg hs] at hP;rw[hP,if_neg (by decide)];have hsb:(((y.kid 1).kids.length:Int) != (d.kids.length:Int)-2)=true:=by simp[hs]
      simp -implicitDefEqProofs [x42_w,x42_r,c95,c56,hvw,h3,hk1,h1l,h1i,c38,hta,hjl,hji,hj,hj0,hvg,hsp,hD,hw2,bI,htl1,hsb]
  by_cases h15:wn d.wd=15
  ·rw[h15] at tl hf2 hdy2;rw[h15];have hl4:d.kids.length=4:=by
    simp at hf2;exact hf2.1
   have h1l:1<d.kids.length:=by omega
   have h2l:2<d.kids.length:=by omega
   have h3l:3<d.kids.length:=by omega
   have h2i:(2:Int)<d.kids.length:=by omega
   have h3i:(3:Int)<d.kids.length:=by omega
   have hk2:(D.vs d.kids)[2]'(by rw[aa];exact h2l)=(d.kid 2).v:=by rw[ac _,fN]
   have hk3:(D.vs d.kids)[3]'(by rw[aa];exact h3l)=(d.kid 3).v:=by rw[ac _,fN]
   have hlab:(d.kid 1).labr=true:=by
    simp at hf2;exact hf2.2.1
   obtain rfl:st=false:=by
    cases st with
    | false=>rfl
    | true=>cases hdy2
   have h1i:(1:Int)<d.kids.length:=by omega
   have hk1:=hk1 h1l;have hf1:(d.kid 1).fm=true:=af hfm _ (aA h1l);rw[md hf1] at hlab;have c38:=c38 (d.kid 1);have hP:hdP 15 (l.map hdN) rs false d=match fdK (l.map hdN) (d.kid 1).key2 with
    | none=>5
    | some pp=>if pp.2.2=false then 14 else if pp.1=(d.kid 2).kids.length∧pp.2.1=(d.kid 3).kids.length then 0 else 11:=rfl
   have hw2:IntKind.i64.wrap ((d.kids.length:Int)-2)=(d.kids.length:Int)-2:=aB (by omega);rw[Bool.not_false] at c95;rcases lp hf1 hlab l 0 hh0 with⟨hN,hF⟩|⟨j,hj,hF,hN⟩
   ·rw[hN] at hP;rw[hF] at c38;rw[show hdP 15 (l.map hdN) rs false d=5 from hP,if_neg (by decide)];simp -implicitDefEqProofs [x42_w,x42_r,c95,c56,hvw,h15,hk1,h1l,h1i,c38]
   ·rw[hN] at hP;rw[hF] at c38;rw[Nat.zero_add] at c38;have hjl:j<(dfV l).length:=by rw[da];exact hj
    have hji:(j:Int)<l.length:=by omega
    have hj0:¬(j:Int)<0:=by omega
    have hvg:=nr hj;have hD:=c41 (l[j].kid 3);have hlw:=kX (h.length+2) l[j];generalize l[j]=y at *
    replace hP:hdP 15 (l.map hdN) rs false d=if (y.kid 3).dyn=false then 14 else if (y.kid 1).kids.length=(d.kid 2).kids.length∧(y.kid 2).kids.length=(d.kid 3).kids.length then 0 else 11:=hP
    have hhE2:aU (h++O.cells d.v.cells::[O.cells (dfC y)]):=by
     rw[show h++O.cells d.v.cells::[O.cells (dfC y)]=(h++[O.cells d.v.cells])++[O.cells (dfC y)] by simp];exact nV hhE (by simpa[O.low] using hlw)
    have hsp:bg [V.c (.int .i64 0),.c (.int .i64 0),.c (.string ⟨#[]⟩),.sl [] .nil,.sl [] .nil,.sl [] .nil,.c (.int .i64 0),.c (.int .i64 0),.c (.string ⟨#[]⟩),.sl [] .nil] 0 (dfC y)=dfC y:=by
     unfold dfC;generalize y.kid 0=a;generalize y.kid 3=b;obtain⟨ka,ia,ta,la⟩:=a;obtain⟨kb,ib,tb,lb⟩:=b;rfl
    have htl1:(txs (y.kid 1).kids).length=(y.kid 1).kids.length:=bO _;have htl2:(txs (y.kid 2).kids).length=(y.kid 2).kids.length:=bO _;cases hdd:(y.kid 3).dyn with
    | false =>
     rw[hdd] at hD hP;rw[if_pos rfl] at hP;rw[hP,if_neg (by decide)];simp -implicitDefEqProofs [x42_w,x42_r,c95,c56,hvw,h15,hk1,h1l,h1i,c38,hta,hjl,hji,hj,hj0,hvg,hsp,hD]
    | true =>
     rw[hdd] at hD hP;rw[if_neg (by decide)] at hP;have hb3:((15:Nat)==3)=false:=rfl;by_cases hs:(y.kid 1).kids.length=(d.kid 2).kids.length
     ·have hsb:(((y.kid 1).kids.length:Int) != ((d.kid 2).kids.length:Int))=false:=by simp[hs]
      by_cases ht2:(y.kid 2).kids.length=(d.kid 3).kids.length
      ·have htb:(((y.kid 2).kids.length:Int) != ((d.kid 3).kids.length:Int))=false:=by simp[ht2]
       rw[if_pos ⟨hs,ht2⟩] at hP;rw[hP,if_pos rfl];simp -implicitDefEqProofs [x42_w,x42_r,c95,c56,hvw,h15,hk1,h1l,h1i,h2l,h3l,h2i,h3i,hk2,hk3,c38,hta,hjl,hji,hj,hj0,hvg,hsp,hD,hw2,bI,htl1,htl2,hsb,htb];exact tl (by simp[au,bD]) (by simp[au,bD]) (by simp[au,bD]) (by simp[au,bD]) hhE2 rfl
      ·have htb:(((y.kid 2).kids.length:Int) != ((d.kid 3).kids.length:Int))=true:=by simp;omega
       rw[if_neg (fun hx=>ht2 hx.2)] at hP;rw[hP,if_neg (by decide)];simp -implicitDefEqProofs [x42_w,x42_r,c95,c56,hvw,h15,hk1,h1l,h1i,h2l,h3l,h2i,h3i,hk2,hk3,c38,hta,hjl,hji,hj,hj0,hvg,hsp,hD,hw2,bI,htl1,htl2,hsb,htb]
     ·have hsb:(((y.kid 1).kids.length:Int) != ((d.kid 2).kids.length:Int))=true:=by simp;omega
      rw[if_neg (fun hx=>hs hx.1)] at hP;rw[hP,if_neg (by decide)];simp -implicitDefEqProofs [x42_w,x42_r,c95,c56,hvw,h15,hk1,h1l,h1i,h2l,h3l,h2i,h3i,hk2,hk3,c38,hta,hjl,hji,hj,hj0,hvg,hsp,hD,hw2,bI,htl1,htl2,hsb]
  have b5:(wn d.wd==5)=false:=beq_false_of_ne h5;have b8:(wn d.wd==8)=false:=beq_false_of_ne h8;have b7:(wn d.wd==7)=false:=beq_false_of_ne h7;have b14:(wn d.wd==14)=false:=beq_false_of_ne h14;have b3:(wn d.wd==3)=false:=beq_false_of_ne h3;have b15:(wn d.wd==15)=false:=beq_false_of_ne h15;have hP:hdP (wn d.wd) (l.map hdN) rs st d=0:=by
   unfold hdP;rw[if_neg (by omega),if_neg (by omega),if_neg (by omega),if_neg (by omega)]
  rw[hP,if_pos rfl];simp -implicitDefEqProofs [x42_w,x42_r,c95,c56,hvw,b5,b8,b7,b14,b3,b15];exact tl (by simp[au,bD]) (by simp[au,bD]) (by simp[au,bD]) (by simp[au,bD]) hhE rfl
theorem qJ {id:Nat}{U:List V}{s1:SI}{l:List D}{s2:SI}{B:Nat}(hB2:B<100000000000) (hll:l.length≤B) (hh0:∀d∈l,(d.kid 0).fm=true∧(d.kid 0).lab=true) :
  ∀(f:Nat) (d:D),d.sz≤f→d.fm=true→d.sz<1000000000→∀m,2*B+201+f≤m→Gk m id U s1 l s2 B (exN f (l.map hdN)) d
 | 0,d,h,_,_,_,_=>by have:=ao d;omega
 | f+1,d,hf,hfm,hl,m,hm=>by
  obtain⟨m,rfl⟩:∃m',m=m'+1:=⟨m-1,by omega⟩
  exact Ij hfm (fun x h1 h2=>qJ hB2 hll hh0 f x (by omega) h2 (by omega) m (by omega)) hll hh0 (by omega) hl hB2
theorem gt {h:List O}{i:Nat}{o:O}(hh:aU h) (ho:O.low h.length o=true):aU (h.set i o):=by
 unfold aU at hh ⊢;rw[List.length_set];rw[List.all_eq_true] at hh ⊢;intro x hx;rcases List.mem_or_eq_of_mem_set hx with h1|rfl
 ·exact hh x h1
 ·exact ho
theorem xk {us:List V}{si:SI}{ws:List V}{al b:Nat}{zz:Option Nat}{h:List O}(hG:Grows (zc zz) us si h) (hd:h[al]?=some .dead∨h[al]?=some .want){v:V}{h':List O}(hg:gJ 0 al b zz false h us si ws=some (v,h')) (hh:aU h):aU h':=by
 cases ws with
 | nil=>rw[dw] at hg;cases hg;exact hh
 | cons w ws =>
  rcases hG with⟨rfl,hsi⟩|⟨q,rfl,hq⟩
  ·rcases hsi with rfl|rfl<;>rcases hd with hd|hd
   ·rw[fR 0 al b zz h [] ws w hd] at hg;cases hg;exact gt hh rfl
   ·rw[fJ 0 al b zz h [] ws w hd] at hg;cases hg;exact gt hh rfl
   ·rw[dM 0 al b zz h [] ws w hd] at hg;cases hg;exact gt hh rfl
   ·rw[eJ 0 al b zz h [] ws w hd] at hg;cases hg;exact gt hh rfl
  ·rw[dV 0 al b q zz false h us ws w hq] at hg;cases hg;exact gt hh rfl
theorem mb {cf:aw}{n:Nat}{K:List Fr}{Q:Ex→SF→Prop}{s:SF}{us:List V}{si:SI}{ws:List V}{al b:Nat}{zz:Option Nat}{h:List O}{d:Option Nat}{r:List XOper}(hG:Grows (zc zz) us si h) (hd:h[al]?=some .dead∨h[al]?=some .want)
  (hq:∀si' h',Grows (zc zz) (us++ws) si' h'→h'.length=h.length→Keeps h h'→(aU h→aU h')→sG cf n r K Q ⟨nU s.e d (.sl (us++ws) si'),h',s.base,s.rb⟩):gvk cf n (gJ 0 al b zz false h us si ws) d r K Q s:=by
 obtain⟨si',h',h1,h2,h3,h4,h5⟩:=sH (b:=b) (ws:=ws) hG hd;rw[h1,ct];exact hq si' h' h2 h3 h4 (xk hG hd h1)
theorem Grows.low {z:Nat}{us:List V}{si:SI}{h:List O}(hG:Grows z us si h):si.low h.length=true:=by
 rcases hG with⟨rfl,rfl|rfl⟩|⟨q,rfl,hq⟩
 ·rfl
 ·rfl
 ·simpa[SI.low] using (gS.1 hq).1
theorem Grows.set {z:Nat}{us:List V}{si:SI}{h:List O}(hG:Grows z us si h){i:Nat}{o o':O}(hi:h[i]?=some o) (ho:∀n z,o≠.tok n z):Grows z us si (h.set i o'):=by
 rcases hG with h1|⟨q,h1,h2⟩
 ·exact .inl h1
 ·refine .inr ⟨q,h1,?_⟩;rw[sN]
  ·exact h2
  ·rintro rfl;rw[hi] at h2;cases h2;exact ho _ _ rfl
def fg (l:List D):List V:=l.map fun x=>.c (.int .i64 x.nu)
theorem gh (l:List D):(fg l).length=l.length:=by simp[fg]
theorem A9 (l:List D):Ab.hz 1 (fg l)=true:=by cases l<;>rfl
theorem rf (m:Nat) (l:List D):V.lows m (fg l)=true:=cq fun v hv=>by
 obtain⟨s,_,rfl⟩:=List.mem_map.1 hv;rfl
theorem CX {cf:aw}{n:Nat}{K:List Fr}{Q:Ex→SF→Prop}{s:SF}{t:D}{l:List D}(hl:(t.kid 0).kids=l)
  (c36:∀(x:D) h,cf 36 [x.v] h=some (.c (.bool x.sml),h)) (h0l:0<t.kids.length) (hn:l.length<n) (hl2:l.length<1099511627776)
  (e1:s.e 1=.ref 0 0) (e5:s.e 5=.ref 1 0) (e6:s.e 6=.c (.int .i64 0)) (h0:s.h[0]?=some (.cells t.v.cells)) (h1:s.h[1]?=some (.cells [.sl [] .nil,.sl [] .nil])) (hh:aU s.h)
  (hbad:(l.any fun x => !x.sml)=true→∀e h rb,e 2=.c (.pointer none)→e 3=.c (.int .i64 4)→dI cf n K Q .ret ⟨e,h,0,rb⟩)
  (hq:(l.any fun x => !x.sml)=false→∀e h rb si,(∀t,(dU x13l14).contains t=false→e t=s.e t)→h[0]?=some (.cells t.v.cells)→h[1]?=some (.cells [.sl (fg l) si,.sl [] .nil])→aU h→dI cf n K Q (.exit 0) ⟨e,h,0,rb⟩) (hb0:s.base=0):lpk cf n x13l14 K Q s:=by
 have h0i:(0:Int)<t.kids.length:=by omega
 obtain⟨J,hJ⟩:∃J:Nat→SF→Prop,J=fun k s=>∃j si,j+k=l.length∧s.e 6=.c (.int .i64 j)∧s.h[0]?=some (.cells t.v.cells)∧s.h[1]?=some (.cells [.sl (fg (l.take j)) si,.sl [] .nil])∧Grows 1 (fg (l.take j)) si s.h∧aU s.h∧(l.any fun x => !x.sml)=((l.drop j).any fun x => !x.sml):=⟨_,rfl⟩
 refine aX J l.length hn (by rw[hJ];exact⟨0,.nil,by simp,by simpa using e6,h0,by simpa[fg] using h1,by simpa[fg] using Grows.nil 1 _,hh,by simp⟩) ?_;rintro k ⟨e,h',base,rb⟩ hj he hb;rw[hJ] at hj;obtain⟨j,si,hj,f6,f0,f1,hG,hlo,hfx⟩:=hj;have g1:e 1=_:=(he 1 rfl).trans e1;have g5:e 5=_:=(he 5 rfl).trans e5;simp only at f6 f0 f1 hG hlo hb;rw[hb0] at hb;subst hb;by_cases hm:j<l.length
 ·have hlt:(j:Int)<l.length:=by omega
  have hw:IntKind.i64.wrap ((j:Int)+1)=(j:Int)+1:=aB (by omega);have hvg:(D.vs l)[j]'(by rw[aa];omega)=(l[j]).v:=ac _;have htk:fg (l.take (j+1))=fg (l.take j)++[.c (.int .i64 (l[j]).nu)]:=by
   rw[fg,List.take_add_one,gE hm,List.map_append];rfl
  have hd:(l.drop j).any (fun x => !x.sml)=(!(l[j]).sml||(l.drop (j+1)).any fun x => !x.sml):=by rw[dC hm,List.any_cons]
  rw[hd] at hfx;have c36x:=c36 l[j];have hli:=rf h'.length (l.take (j+1));generalize l[j]=x at *;cases hs:x.sml with
  | false =>
   rw[hs] at c36x;have hbad:=hbad (by rw[hfx,hs];rfl);simp -implicitDefEqProofs [x13l14_w,x13_r,g1,g5,f6,f0,f1,h0l,h0i,hl,hvg,hlt,hm,c36x];refine hbad _ _ _ ?_ ?_<;>simp[au]
  | true =>
   rw[hs] at c36x hfx;simp only[Bool.not_true,Bool.false_or] at hfx;have f0':=fun R=>bU f0 R
   have f1':=fun R=>bU f1 R
   have hz:=A9 (l.take j);have hil:(fg (l.take j)).length=j:=by rw[gh,List.length_take];omega
   have b1:(j+1)*8≤140737488355328:=by omega
   have b2:j≤140737488355327:=by omega
   simp -implicitDefEqProofs [x13l14_w,g1,g5,f6,f0,f1,↓f0',↓f1',h0l,h0i,hl,hvg,hlt,hm,c36x,hz,hil,b1,b2];have hlo2:aU (h'++[O.tok 1 1,O.dead]):=nV hlo rfl;have l1:1<h'.length:=(gS.1 f1).1;refine mb (hG.app _) (.inl (dP ..)) fun si2 h2 q1 q2 q3 q4=>?_
   have f12:=q3 _ _ (f1' [O.tok 1 1,O.dead]);have f02:=q3 _ _ (f0' [O.tok 1 1,O.dead]);have hlen2:1<h2.length:=by rw[q2,lA];omega
   simp -implicitDefEqProofs [f12,f6];refine⟨k-1,by omega,?_⟩;rw[hJ];refine⟨j+1,si2,by omega,by simp[au,f6,hw],?_,?_,?_,?_,hfx⟩
   ·simpa using f02
   ·rw[htk];simp[hlen2]
   ·rw[htk];exact q1.set f12 (fun _ _=>by simp)
   ·refine gt (q4 hlo2) ?_;have:=q1.low;have hll:=rf h2.length (l.take (j+1));rw[htk] at hll;simp[ba,V.lows,V.low,hll,this,show ∀m,SI.nil.low m=true from fun _=>rfl]
 ·have hlt:¬(j:Int)<l.length:=by omega
  obtain rfl:j=l.length:=by omega
  rw[List.take_of_length_le (nL _)] at f1;have hf:(l.any fun x => !x.sml)=false:=by rw[hfx,List.drop_length];rfl
  have hq':=fun e1 rb1 a=>hq hf e1 h' rb1 si a f0 f1 hlo
  simp -implicitDefEqProofs [x13l14_w,g1,g5,f6,f0,f1,h0l,h0i,hl,hlt];refine hq' _ _ fun t ht=>?_
  have hne:∀k,(dU x13l14).contains k=true→t≠k:=fun k hk e=>by rw[e,hk] at ht;cases ht
  simp only[au,if_neg (hne 45 rfl),if_neg (hne 46 rfl),if_neg (hne 47 rfl),if_neg (hne 48 rfl),if_neg (hne 49 rfl),if_neg (hne 50 rfl),if_neg (hne 51 rfl),if_neg (hne 52 rfl)];exact he t ht
theorem zf:∀(seen:List ByteArray) (l:List D),(∀x∈l,x.fm=true)→nmG D.nmr seen l=nmG D.nm seen l
 | seen,[],_=>rfl
 | seen,d::l,h=>by
  rw[nmG,nmG,xx (h d (.head _)),zf _ l fun x hx=>h x (.tail _ hx)]
theorem yV {d:D}(h:d.fm=true):d.nms D.nmr=d.nms D.nm:=by
 unfold D.nms;rw[zf [] d.kids (af h)]
theorem uX {L:List ByteArray}{t:ByteArray}:inB L t=true↔t∈L:=by
 unfold inB;rw[List.any_eq_true];constructor
 ·rintro⟨x,hx,he⟩;rw[dl,dT] at he
  rwa [he]
 ·intro hx;exact⟨t,hx,by rw[dl];simp⟩
theorem Aj (A B:List ByteArray):(A.any fun t=>inB B t)=B.any fun t=>inB A t:=by
 rw[Bool.eq_iff_iff,List.any_eq_true,List.any_eq_true];constructor<;>(rintro⟨x,hx,hb⟩;exact⟨x,uX.1 hb,uX.2 hx⟩)
theorem yu {α:Type}(p:α→Bool){l:List α}{j:Nat}(h:j<l.length):(l.drop j).any p=(p l[j]||(l.drop (j+1)).any p):=by
 rw[dC h,List.any_cons]
theorem nC {l:List ByteArray}{j:Nat}(h:j<l.length):(ss l)[j]'(by rw[bI];exact h)=.c (.string l[j]):=by simp[ss]
theorem Dq {cf:aw}{n:Nat}{K:List Fr}{Q:Ex→SF→Prop}{s:SF}{L M:List ByteArray}{i9 i11:SI}
  (h40:∀t h,cf 40 [.sl (ss L) i9,.c (.string t)] h=some (.c (.bool (inB L t)),h)) (hn:M.length<n) (hl2:M.length<1099511627776)
  (e9:s.e 9=.sl (ss L) i9) (e11:s.e 11=.sl (ss M) i11) (e13:s.e 13=.c (.int .i64 0))
  (hbad:(M.any fun t=>inB L t)=true→∀e rb,e 2=.c (.pointer none)→e 3=.c (.int .i64 4)→dI cf n K Q .ret ⟨e,s.h,s.base,rb⟩)
  (hq:(M.any fun t=>inB L t)=false→∀e rb,(∀t,(dU x13l31).contains t=false→e t=s.e t)→dI cf n K Q (.exit 4) ⟨e,s.h,s.base,rb⟩):lpk cf n x13l31 K Q s:=by
 obtain⟨J,hJ⟩:∃J:Nat→SF→Prop,J=fun k s'=>∃j,j+k=M.length∧s'.e 13=.c (.int .i64 j)∧s'.h=s.h∧(M.any fun t=>inB L t)=((M.drop j).any fun t=>inB L t):=⟨_,rfl⟩
 refine aX J M.length hn (by rw[hJ];exact⟨0,by simp,by simpa using e13,rfl,by simp⟩) ?_;rintro k ⟨e,h',base,rb⟩ hj he hb;rw[hJ] at hj;obtain⟨j,hj,f13,hh',hfx⟩:=hj;have f9:e 9=_:=(he 9 rfl).trans e9;have f11:e 11=_:=(he 11 rfl).trans e11;simp only at f13 hh' hb;subst hb hh';have hsl:=bI M;by_cases hm:j<M.length
 ·have hlt:(j:Int)<M.length:=by omega
  have hw:IntKind.i64.wrap ((j:Int)+1)=(j:Int)+1:=aB (by omega);have hvg:=nC hm;rw[yu _ hm] at hfx;have h40x:=h40 M[j];generalize M[j]=x at *;cases hs:inB L x with
  | true =>
   rw[hs] at h40x hfx;have hbad:=hbad (by rw[hfx];rfl);simp -implicitDefEqProofs [x13l31_w,x13_r,f9,f11,f13,hsl,hvg,hlt,hm,h40x];refine hbad _ _ ?_ ?_<;>simp[au]
  | false =>
   rw[hs] at h40x hfx;simp only[Bool.false_or] at hfx;simp -implicitDefEqProofs [x13l31_w,f9,f11,f13,hsl,hvg,hlt,hm,h40x];refine⟨k-1,by omega,?_⟩;rw[hJ];exact⟨j+1,by omega,by simp[au,hw],rfl,hfx⟩
 ·have hlt:¬(j:Int)<M.length:=by omega
  obtain rfl:j=M.length:=by omega
  have hf:(M.any fun t=>inB L t)=false:=by rw[hfx,List.drop_length];rfl
  have hq':=hq hf;simp -implicitDefEqProofs [x13l31_w,f9,f11,f13,hsl];refine hq' _ _ fun t ht=>?_
  have hne:∀k,(dU x13l31).contains k=true→t≠k:=fun k hk e=>by rw[e,hk] at ht;cases ht
  simp only[au,if_neg (hne 148 rfl),if_neg (hne 149 rfl),if_neg (hne 150 rfl),if_neg (hne 151 rfl)];exact he t ht
theorem rZ {n m:Nat}(h:n≤m){i:SI}(hi:i.low n=true):i.low m=true:=by
 cases i with
 | tok k=>simp only[SI.low,dT] at hi ⊢;omega
 | _=>rfl
theorem Es (l:List D):Ab.hz 10 (dfV l)=true:=by
 cases l with
 | nil=>rfl
 | cons d l=>simp[Ab.hz,dfV,V.cells,jh]
theorem yj {l:List D}{j:Nat}(h:j<l.length):dfV (l.take (j+1))=dfV (l.take j)++[.agg (dfC l[j])]:=by
 rw[dfV,List.take_add_one,gE h,List.map_append];rfl
theorem Ec {cf:aw}{n:Nat}{K:List Fr}{Q:Ex→SF→Prop}{s:SF}{t:D}{U:List V}{s1:SI}(hfm:t.fm=true){T:List D}(hT:t.kids.drop 1=T)
  (c37:∀(x:D) h,cf 37 [x.v] h=some (.c (.bool x.labr),h))
  (c38:∀(l:List D) (s2:SI) (x:D) h,(∀d∈l,(d.kid 0).fm=true∧(d.kid 0).lab=true)→l.length≤T.length→dt h 1 U s1 l s2→aU h→cf 38 [.ref 1 0,x.v] h=some (.c (.int .i64 (fix (fun d=>(d.kid 0).same x) l 0)),h))
  (c39:∀x∈T,∀j,j<x.kids.length→∀h,cf 39 [(x.kid j).v] h=some (.tup [.sl (ss (if (x.kid j).nms D.nmr=true then txs (x.kid j).kids else [])) .any,.c (.bool ((x.kid j).nms D.nmr))],h))
  (c40:∀(L:List ByteArray) i t h,L.length+1<n→L.length<100000000→cf 40 [.sl (ss L) i,.c (.string t)] h=some (.c (.bool (inB L t)),h))
  (hsz:∀x∈T,x.sz<10000000∧x.sz<n) (h0l:0<t.kids.length) (hn:T.length<n) (hl2:T.length<100000000)
  (e1:s.e 1=.ref 0 0) (e5:s.e 5=.ref 1 0) (e7:s.e 7=.c (.int .i64 1)) (h0:s.h[0]?=some (.cells t.v.cells)) (h1:s.h[1]?=some (.cells [.sl U s1,.sl [] .nil])) (hh:aU s.h)
  (hbad:iw [] T≠0→∀e h rb,e 2=.c (.pointer none)→e 3=.c (.int .i64 (iw [] T))→dI cf n K Q .ret ⟨e,h,0,rb⟩)
  (hq:iw [] T=0→(∀d∈T,(d.kid 0).fm=true∧(d.kid 0).lab=true)→∀e h rb s2,(∀t,(dU x13l36).contains t=false→e t=s.e t)→h[0]?=some (.cells t.v.cells)→h[1]?=some (.cells [.sl U s1,.sl (dfV T) s2])→aU h→dI cf n K Q (.exit 2) ⟨e,h,0,rb⟩) (hb0:s.base=0):lpk cf n x13l36 K Q s:=by
 have h0i:(0:Int)<t.kids.length:=by omega
 have hTl:T.length=t.kids.length-1:=by rw[← hT];simp
 have hU:V.lows s.h.length U=true∧s1.low s.h.length=true:=by
  have:=List.all_eq_true.1 hh _ (List.mem_of_getElem? h1);simp[ba,V.lows,V.low] at this;exact this.1
 have hTf:∀x∈T,x.fm=true:=fun x hx=>af hfm x (by rw[← hT] at hx;exact bZ hx)
 obtain⟨J,hJ⟩:∃J:Nat→SF→Prop,J=fun k s'=>∃j s2,j+k=T.length∧s'.e 7=.c (.int .i64 (j+1))∧s'.h[0]?=some (.cells t.v.cells)∧s'.h[1]?=some (.cells [.sl U s1,.sl (dfV (T.take j)) s2])∧Grows 10 (dfV (T.take j)) s2 s'.h∧aU s'.h∧s.h.length≤s'.h.length ∧
  (∀d∈T.take j,(d.kid 0).fm=true∧(d.kid 0).lab=true)∧iw [] T=iw ((T.take j).map hdN) (T.drop j):=⟨_,rfl⟩
 refine aX J T.length hn (by rw[hJ];exact⟨0,.nil,by simp,by simpa using e7,h0,by simpa[dfV] using h1,by simpa[dfV] using Grows.nil 10 _,hh,nL _,by simp,by simp⟩) ?_;rintro k ⟨e,h',base,rb⟩ hj he hb;rw[hJ] at hj;obtain⟨j,s2,hj,f7,f0,f1,hG,hlo,hlen,hpre,hfx⟩:=hj;have g1:e 1=_:=(he 1 rfl).trans e1;have g5:e 5=_:=(he 5 rfl).trans e5;simp only at f7 f0 f1 hG hlo hb hlen;rw[hb0] at hb;subst hb;by_cases hm:j<T.length;rotate_left
 ·have hlt:¬((j:Int)+1)<t.kids.length:=by omega
  obtain rfl:j=T.length:=by omega
  rw[List.take_of_length_le (nL _)] at f1 hpre;have hf:iw [] T=0:=by rw[hfx,List.drop_length,iw]
  have hq':=fun e1 rb1 a=>hq hf hpre e1 h' rb1 s2 a f0 f1 hlo
  simp -implicitDefEqProofs [x13l36_w,g1,g5,f7,f0,f1,hlt];refine hq' _ _ fun t ht=>?_
  have hne:∀k,(dU x13l36).contains k=true→t≠k:=fun k hk e=>by rw[e,hk] at ht;cases ht
  simp only[au,if_neg (hne 88 rfl),if_neg (hne 89 rfl),if_neg (hne 90 rfl),if_neg (hne 91 rfl),if_neg (hne 92 rfl)];exact he t ht
 have hji:(0:Int)≤(j:Int)+1:=by omega
 have hlt:((j:Int)+1)<t.kids.length:=by omega
 have hm1:j+1<t.kids.length:=by omega
 have hw:IntKind.i64.wrap ((j:Int)+1+1)=(j:Int)+1+1:=aB (by omega);have hvg:(D.vs t.kids)[j+1]'(by rw[aa];omega)=(T[j]).v:=by
  rw[ac _];congr 1;have:T[j]=(t.kids.drop 1)[j]'(by rw[hT];exact hm):=by simp[hT]
  rw[this,List.getElem_drop];congr 1;omega
 have hTn:((j:Int)+1).toNat=j+1:=by omega
 have f0':=fun R=>bU f0 R
 have f1':=fun R=>bU f1 R
 have hlx:=nP hlo T[j];have c38x:=fun x=>c38 (T.take j) s2 x (h'++[O.cells (T[j]).v.cells]) hpre (by simp;omega) (f1' _) hlx
 have hxT:T[j]∈T:=List.getElem_mem hm;have hxf:=hTf _ hxT;have c39x:=c39 _ hxT;obtain⟨hsx,hsn⟩:=hsz _ hxT;have hdt:=yj hm;have hpre2:(T[j].kid 0).fm=true→(T[j].kid 0).lab=true→∀d∈T.take (j+1),(d.kid 0).fm=true∧(d.kid 0).lab=true:=fun a b d hd=>by
  rw[List.take_add_one,gE hm] at hd;rcases List.mem_append.1 hd with h1|h1
  ·exact hpre d h1
  ·simp at h1;subst h1;exact⟨a,b⟩
 rw[nE _ hm] at hfx;have htk:(T.take (j+1)).map hdN=(T.take j).map hdN++[hdN T[j]]:=by
  rw[List.take_add_one,gE hm,List.map_append];rfl
 generalize T[j]=x at *;by_cases hk3:x.kd=3;rotate_left
 ·have hk3b:(x.kd != 3)=true:=by simp[hk3]
  have hF:hdF ((T.take j).map hdN) x=4:=by
   unfold hdF D.els;simp[hk3]
  rw[hF,if_neg (by decide)] at hfx;have hbad:=hbad (by rw[hfx];decide);rw[hfx] at hbad;simp -implicitDefEqProofs [x13l36_w,x13_r,g1,g5,f7,f0,f1,↓f0',↓f1',hji,hlt,hm1,hTn,hvg,ae,hk3b];refine hbad _ _ _ ?_ ?_<;>simp[au]
 have hk3b:(x.kd != 3)=false:=by simp[hk3]
 by_cases hl4:x.kids.length=4;rotate_left
 ·have hl4b:((x.kids.length:Int) != 4)=true:=by simp;omega
  have hF:hdF ((T.take j).map hdN) x=4:=by
   unfold hdF D.els;rw[if_neg];simp;omega
  rw[hF,if_neg (by decide)] at hfx;have hbad:=hbad (by rw[hfx];decide);rw[hfx] at hbad;simp -implicitDefEqProofs [x13l36_w,x13_r,g1,g5,f7,f0,f1,↓f0',↓f1',hji,hlt,hm1,hTn,hvg,ae,hk3b,hl4b];refine hbad _ _ _ ?_ ?_<;>simp[au]
 have hl4b:((x.kids.length:Int) != 4)=false:=by simp;omega
 have p0l:0<x.kids.length:=by omega
 have p1l:1<x.kids.length:=by omega
 have p2l:2<x.kids.length:=by omega
 have p3l:3<x.kids.length:=by omega
 have p0i:(0:Int)<x.kids.length:=by omega
 have p1i:(1:Int)<x.kids.length:=by omega
 have p2i:(2:Int)<x.kids.length:=by omega
 have p3i:(3:Int)<x.kids.length:=by omega
 have v0:((D.vs x.kids)[0]'(by rw[aa];exact p0l))=(x.kid 0).v:=ah _;have v1:((D.vs x.kids)[1]'(by rw[aa];exact p1l))=(x.kid 1).v:=ah _;have v2:((D.vs x.kids)[2]'(by rw[aa];exact p2l))=(x.kid 2).v:=ah _;have v3:((D.vs x.kids)[3]'(by rw[aa];exact p3l))=(x.kid 3).v:=ah _;have hx0f:(x.kid 0).fm=true:=af hxf _ (aA p0l);have c37x:=c37 (x.kid 0);rw[md hx0f] at c37x;have hels:x.els 4 false=true:=by simp[D.els,hk3,hl4]
 cases hlb:(x.kid 0).lab with
 | false =>
  rw[hlb] at c37x;have hF:hdF ((T.take j).map hdN) x=4:=by
   unfold hdF;rw[hlb,Bool.and_false];rfl
  rw[hF,if_neg (by decide)] at hfx;have hbad:=hbad (by rw[hfx];decide);rw[hfx] at hbad;simp -implicitDefEqProofs [x13l36_w,x13_r,g1,g5,f7,f0,f1,↓f0',↓f1',hji,hlt,hm1,hTn,hvg,ae,hk3b,hl4b,p0l,p0i,v0,c37x];refine hbad _ _ _ ?_ ?_<;>simp[au]
 | true =>
 rw[hlb] at c37x;have c38y:=c38x (x.kid 0);have hFe:hdF ((T.take j).map hdN) x=if ((fdK ((T.take j).map hdN) (x.kid 0).key2).isSome||(!((x.kid 1).nms D.nm)||(!((x.kid 2).nms D.nm)||(txs (x.kid 1).kids).any fun t=>inB (txs (x.kid 2).kids) t)))=true then 4 else
   if 8<(x.kid 1).kids.length+(x.kid 2).kids.length then 3 else 0:=by
  unfold hdF;rw[hlb,hels];rfl
 rcases lp hx0f hlb (T.take j) 0 hpre with⟨hN,hFx⟩|⟨j2,hj2,hFx,hN⟩
 rotate_left
 ·rw[hFx] at c38y;rw[hN] at hFe;rw[if_pos (by rfl)] at hFe;rw[hFe,if_neg (by decide)] at hfx;have hbad:=hbad (by rw[hfx];decide);rw[hfx] at hbad;have hge:(0:Int)≤((0+j2:Nat):Int):=by omega
  generalize ((0+j2:Nat):Int)=jj at *;simp -implicitDefEqProofs [x13l36_w,x13_r,g1,g5,f7,f0,f1,↓f0',↓f1',hji,hlt,hm1,hTn,hvg,ae,hk3b,hl4b,p0l,p0i,v0,c37x,c38y,hge];refine hbad _ _ _ ?_ ?_<;>simp[au]
 rw[hFx] at c38y;rw[hN] at hFe;simp only[Option.isSome_none,Bool.false_or] at hFe;have c1:=c39x 1 p1l;have c2:=c39x 2 p2l;rw[yV (af hxf _ (aA p1l))] at c1;rw[yV (af hxf _ (aA p2l))] at c2;cases hn1:(x.kid 1).nms D.nm with
 | false =>
  rw[hn1] at c1;rw[hn1,if_pos (by rfl)] at hFe;rw[hFe,if_neg (by decide)] at hfx;have hbad:=hbad (by rw[hfx];decide);rw[hfx] at hbad;simp only[Bool.false_eq_true,if_false] at c1;generalize (if (x.kid 2).nms D.nm=true then txs (x.kid 2).kids else [])=LL at *;simp -implicitDefEqProofs [x13l36_w,x13_r,g1,g5,f7,f0,f1,↓f0',↓f1',hji,hlt,hm1,hTn,hvg,ae,hk3b,hl4b,p0l,p0i,v0,p1l,p1i,v1,p2l,p2i,v2,c37x,c38y,c1,c2];refine hbad _ _ _ ?_ ?_<;>simp[au]
 | true =>
 rw[hn1] at c1 hFe;simp only[if_true,Bool.not_true,Bool.false_or] at c1 hFe;cases hn2:(x.kid 2).nms D.nm with
 | false =>
  rw[hn2] at c2;rw[hn2,if_pos (by rfl)] at hFe;rw[hFe,if_neg (by decide)] at hfx;have hbad:=hbad (by rw[hfx];decide);rw[hfx] at hbad;simp only[Bool.false_eq_true,if_false] at c2;simp -implicitDefEqProofs [x13l36_w,x13_r,g1,g5,f7,f0,f1,↓f0',↓f1',hji,hlt,hm1,hTn,hvg,ae,hk3b,hl4b,p0l,p0i,v0,p1l,p1i,v1,p2l,p2i,v2,c37x,c38y,c1,c2];refine hbad _ _ _ ?_ ?_<;>simp[au]
 | true =>
 rw[hn2] at c2 hFe;simp only[if_true,Bool.not_true,Bool.false_or] at c2 hFe;have s1z:=aC (aA p1l);have s2z:=aC (aA p2l);have k1z:=aQ (x.kid 1);have k2z:=aQ (x.kid 2);have tl1:=bO (x.kid 1).kids;have tl2:=bO (x.kid 2).kids;simp -implicitDefEqProofs [x13l36_w,g1,g5,f7,f0,f1,↓f0',↓f1',hji,hlt,hm1,hTn,hvg,ae,hk3b,hl4b,p0l,p0i,v0,p1l,p1i,v1,p2l,p2i,v2,c37x,c38y,c1,c2];have hxs:((txs (x.kid 1).kids).any fun t=>inB (txs (x.kid 2).kids) t)=((txs (x.kid 2).kids).any fun t=>inB (txs (x.kid 1).kids) t):=Aj _ _;rw[hxs] at hFe;refine Dq (L:=txs (x.kid 1).kids) (M:=txs (x.kid 2).kids) (i9:=.any) (i11:=.any) (fun t h=>c40 _ _ t h (by omega) (by omega)) (by omega) (by omega) (by simp[au]) (by simp[au]) (by simp[au]) ?_ ?_
 ·intro hany e3 rb3 q2 q3;rw[hany,if_pos rfl] at hFe;rw[hFe,if_neg (by decide)] at hfx;have hbad:=hbad (by rw[hfx];decide);rw[hfx] at hbad;exact hbad _ _ _ q2 q3
 intro hany e3 rb3 hk3e;rw[hany,if_neg (by decide)] at hFe;have w1:e3 1=.ref 0 0:=by
  have:=hk3e 1 rfl;simpa[au,g1] using this
 have w5:e3 5=.ref 1 0:=by
  have:=hk3e 5 rfl;simpa[au,g5] using this
 have w7:e3 7=.c (.int .i64 (j+1)):=by
  have:=hk3e 7 rfl;simpa[au,f7] using this
 have w8:e3 8=.ref h'.length 0:=by
  have:=hk3e 8 rfl;simpa[au] using this
 have w9:e3 9=.sl (ss (txs (x.kid 1).kids)) .any:=by
  have:=hk3e 9 rfl;simpa[au] using this
 have w11:e3 11=.sl (ss (txs (x.kid 2).kids)) .any:=by
  have:=hk3e 11 rfl;simpa[au] using this
 have sl1:=bI (txs (x.kid 1).kids);have sl2:=bI (txs (x.kid 2).kids);have hwa:IntKind.i64.wrap (((x.kid 1).kids.length:Int)+((x.kid 2).kids.length:Int))=((x.kid 1).kids.length:Int)+((x.kid 2).kids.length:Int):=aB (by omega);by_cases h8:8<(x.kid 1).kids.length+(x.kid 2).kids.length
 ·have h8i:(8:Int)<((x.kid 1).kids.length:Int)+((x.kid 2).kids.length:Int):=by omega
  rw[if_pos h8] at hFe;rw[hFe,if_neg (by decide)] at hfx;have hbad:=hbad (by rw[hfx];decide);rw[hfx] at hbad;simp -implicitDefEqProofs [x13_r,w9,w11,sl1,sl2,tl1,tl2,hwa,h8i];refine hbad _ _ _ ?_ ?_<;>simp[au]
 have h8i:¬(8:Int)<((x.kid 1).kids.length:Int)+((x.kid 2).kids.length:Int):=by omega
 rw[if_neg h8] at hFe;rw[if_pos hFe] at hfx;have hvw9:∀(l:List ByteArray),(V.sl (ss l) .any).vwf=.sl (ss l) .any:=fun _=>rfl
 have hcm:∀y:D,y.v.cells.map V.vw1=y.v.cells:=fun y=>by obtain⟨k,i,t,l⟩:=y;rfl
 have hct:∀(y:D) n,4≤n→y.v.cells.take n=y.v.cells:=fun y n h=>List.take_of_length_le (by rw[ab];exact h)
 have hcd:∀(y:D) n,4≤n→y.v.cells.drop n=[]:=fun y n h=>List.drop_of_length_le (by rw[ab];exact h)
 have hfa:∀y:D,y.v.vwf=y.v:=fun y=>by obtain⟨k,i,t,l⟩:=y;rfl
 simp -implicitDefEqProofs [w1,w5,w7,w8,w9,w11,sl1,sl2,tl1,tl2,hwa,h8i,↓f0',↓f1',p0l,p0i,v0,p3l,p3i,v3,hvw9,hfa,hcm,hct,hcd,List.take_append,List.drop_append];have hdc:(x.kid 0).v.cells++V.sl (ss (txs (x.kid 1).kids)) SI.any::V.sl (ss (txs (x.kid 2).kids)) SI.any::(x.kid 3).v.cells=dfC x:=by simp[dfC]
 have hmin:min j T.length=j:=by omega
 rw[hdc,hmin];refine⟨⟨by omega,by omega,Es _⟩,?_⟩;have hlo2:aU (h'++[O.cells x.v.cells,O.tok 1 10,O.dead]):=by
  refine nV hlo ?_;have:=ap (h'.length+3) x;simp[this];exact⟨rfl,rfl⟩
 have l1:1<h'.length:=(gS.1 f1).1;refine mb (hG.app _) (.inl (jp ..)) fun si2 h2 q1 q2 q3 q4=>?_
 have f12:=q3 _ _ (f1' [O.cells x.v.cells,O.tok 1 10,O.dead]);have f02:=q3 _ _ (f0' [O.cells x.v.cells,O.tok 1 10,O.dead]);have hlen2:1<h2.length:=by rw[q2,lA];omega
 have hlen3:s.h.length≤h2.length:=by rw[q2,lA];omega
 simp -implicitDefEqProofs [f12,w7];refine⟨k-1,by omega,?_⟩;rw[hJ];rw[← hdt] at q1 ⊢;refine⟨j+1,si2,by omega,by simp[au,hw],?_,?_,?_,?_,by simpa using hlen3,hpre2 hx0f hlb,?_⟩
 ·simpa using f02
 ·simp[hlen2]
 ·exact q1.set f12 (fun _ _=>by simp)
 ·refine gt (q4 hlo2) ?_;have:=q1.low;have hll:=Ax h2.length (T.take (j+1));have hU1:V.lows h2.length U=true:=bA hlen3 _ hU.1;have hU2:s1.low h2.length=true:=rZ hlen3 hU.2;simp[ba,V.lows,V.low,hll,this,hU1,hU2]
 ·rw[hfx,htk]
theorem vj {l:List D}{j:Nat}(h:j<l.length):(txs l)[j]'(by rw[bO];exact h)=(l[j]).tx:=by simp[txs]
theorem CY {cf:aw}{n:Nat}{K:List Fr}{Q:Ex→SF→Prop}{s:SF}{P:List O}{x:D}{p:Nat}{rs:List (ByteArray × Bool)}{v0:V}
  (hp:P[p]?=some (.cells (dfC x))) (hn:(x.kid 1).kids.length<n) (hl2:(x.kid 1).kids.length<1099511627776)
  (e15:s.e 15=.ref p 0) (e16:s.e 16=v0) (ec:s.e 17=.c (.int .i64 0)){R:List O}(hh:s.h=P++R) (hv:LvAt (P++R) v0 rs) (hlow:aU (P++R))
  (hq:∀e R' rb v,(∀t,(dU x13l47).contains t=false→e t=s.e t)→e 16=v→LvAt (P++R') v ((sco true (x.kid 1).kids).reverse++rs)→aU (P++R')→dI cf n K Q (.exit 8) ⟨e,P++R',s.base,rb⟩):lpk cf n x13l47 K Q s:=by
 generalize hl:(x.kid 1).kids=l at *;obtain⟨J,hJ⟩:∃J:Nat→SF→Prop,J=fun k s=>∃j R' v,j+k=l.length∧s.e 17=.c (.int .i64 j)∧s.e 16=v∧s.h=P++R'∧LvAt (P++R') v ((sco true (l.take j)).reverse++rs)∧aU (P++R'):=⟨_,rfl⟩
 refine aX J l.length hn (by rw[hJ];exact⟨0,R,v0,by simp,by simpa using ec,e16,hh,by simpa[sco] using hv,hlow⟩) ?_;rintro k ⟨e,h',base,rb⟩ hj he hb;rw[hJ] at hj;obtain⟨j,R',v,hj,fc,f16,hh',hv',hlow'⟩:=hj;have f15:e 15=_:=(he 15 rfl).trans e15;simp only at fc f16 hh' hb;subst hh' hb;have hpR:=fun R=>bU hp R
 have sl1:=bI (txs l);have tl1:=bO l;by_cases hm:j<l.length
 ·have hlt:(j:Int)<l.length:=by omega
  have hw:IntKind.i64.wrap ((j:Int)+1)=(j:Int)+1:=aB (by omega);have hvg:=nC (l:=txs l) (j:=j) (by rw[tl1];exact hm);rw[vj hm] at hvg;have hst:=kQ true hm;have hrv:(sco true (l.take (j+1))).reverse++rs=((l[j]).tx,true)::((sco true (l.take j)).reverse++rs):=by rw[hst];simp
  generalize (l[j]).tx=tx at *;obtain⟨w1,w2,w3,w4⟩:=hv'.fit;simp -implicitDefEqProofs [x13l47_w,f15,f16,fc,↓hpR,hl,sl1,tl1,hvg,hlt,hm,w1,w2,w3,w4];refine⟨k-1,by omega,?_⟩;rw[hJ];have hlw:=(hv'.app [O.cells [.c (.string tx),.c (.bool false),v]]).low;simp only[lA,lC,List.length_nil] at hlw;have hR2:P++(R'++[O.cells [.c (.string tx),.c (.bool false),v]])=(P++R')++[O.cells [.c (.string tx),.c (.bool false),v]]:=by simp
  refine⟨j+1,R'++[O.cells [.c (.string tx),.c (.bool false),v]],.ref (P++R').length 0,by omega,by simp[au,hw],by simp[au],by simp,?_,?_⟩
  ·rw[hrv,hR2];exact⟨_,v,rfl,by simp,hv'.app _⟩
  ·rw[hR2];refine nV hlow' ?_;simp[O.low,V.lows,V.low,hlw]
 ·have hlt:¬(j:Int)<l.length:=by omega
  obtain rfl:j=l.length:=by omega
  rw[List.take_of_length_le (nL _)] at hv';have hq':=fun e1 rb1 a b=>hq e1 R' rb1 v a b hv' hlow'
  simp -implicitDefEqProofs [x13l47_w,f15,fc,↓hpR,hl,sl1,tl1,hlt];refine hq' _ _ (fun t ht=>?_) (by simp[au,f16]);have hne:∀k,(dU x13l47).contains k=true→t≠k:=fun k hk e=>by rw[e,hk] at ht;cases ht
  simp only[au,if_neg (hne 216 rfl),if_neg (hne 217 rfl),if_neg (hne 218 rfl),if_neg (hne 219 rfl),if_neg (hne 220 rfl)];exact he t ht
theorem DP {cf:aw}{n:Nat}{K:List Fr}{Q:Ex→SF→Prop}{s:SF}{P:List O}{x:D}{p:Nat}{rs:List (ByteArray × Bool)}{v0:V}
  (hp:P[p]?=some (.cells (dfC x))) (hn:(x.kid 2).kids.length<n) (hl2:(x.kid 2).kids.length<1099511627776)
  (e15:s.e 15=.ref p 0) (e16:s.e 16=v0) (ec:s.e 18=.c (.int .i64 0)){R:List O}(hh:s.h=P++R) (hv:LvAt (P++R) v0 rs) (hlow:aU (P++R))
  (hq:∀e R' rb v,(∀t,(dU x13l52).contains t=false→e t=s.e t)→e 16=v→LvAt (P++R') v ((sco false (x.kid 2).kids).reverse++rs)→aU (P++R')→dI cf n K Q (.exit 10) ⟨e,P++R',s.base,rb⟩):lpk cf n x13l52 K Q s:=by
 generalize hl:(x.kid 2).kids=l at *;obtain⟨J,hJ⟩:∃J:Nat→SF→Prop,J=fun k s=>∃j R' v,j+k=l.length∧s.e 18=.c (.int .i64 j)∧s.e 16=v∧s.h=P++R'∧LvAt (P++R') v ((sco false (l.take j)).reverse++rs)∧aU (P++R'):=⟨_,rfl⟩
 refine aX J l.length hn (by rw[hJ];exact⟨0,R,v0,by simp,by simpa using ec,e16,hh,by simpa[sco] using hv,hlow⟩) ?_;rintro k ⟨e,h',base,rb⟩ hj he hb;rw[hJ] at hj;obtain⟨j,R',v,hj,fc,f16,hh',hv',hlow'⟩:=hj;have f15:e 15=_:=(he 15 rfl).trans e15;simp only at fc f16 hh' hb;subst hh' hb;have hpR:=fun R=>bU hp R
 have sl1:=bI (txs l);have tl1:=bO l;by_cases hm:j<l.length
 ·have hlt:(j:Int)<l.length:=by omega
  have hw:IntKind.i64.wrap ((j:Int)+1)=(j:Int)+1:=aB (by omega);have hvg:=nC (l:=txs l) (j:=j) (by rw[tl1];exact hm);rw[vj hm] at hvg;have hst:=kQ false hm;have hrv:(sco false (l.take (j+1))).reverse++rs=((l[j]).tx,false)::((sco false (l.take j)).reverse++rs):=by rw[hst];simp
  generalize (l[j]).tx=tx at *;obtain⟨w1,w2,w3,w4⟩:=hv'.fit;simp -implicitDefEqProofs [x13l52_w,f15,f16,fc,↓hpR,hl,sl1,tl1,hvg,hlt,hm,w1,w2,w3,w4];refine⟨k-1,by omega,?_⟩;rw[hJ];have hlw:=(hv'.app [O.cells [.c (.string tx),.c (.bool true),v]]).low;simp only[lA,lC,List.length_nil] at hlw;have hR2:P++(R'++[O.cells [.c (.string tx),.c (.bool true),v]])=(P++R')++[O.cells [.c (.string tx),.c (.bool true),v]]:=by simp
  refine⟨j+1,R'++[O.cells [.c (.string tx),.c (.bool true),v]],.ref (P++R').length 0,by omega,by simp[au,hw],by simp[au],by simp,?_,?_⟩
  ·rw[hrv,hR2];exact⟨_,v,rfl,by simp,hv'.app _⟩
  ·rw[hR2];refine nV hlow' ?_;simp[O.low,V.lows,V.low,hlw]
 ·have hlt:¬(j:Int)<l.length:=by omega
  obtain rfl:j=l.length:=by omega
  rw[List.take_of_length_le (nL _)] at hv';have hq':=fun e1 rb1 a b=>hq e1 R' rb1 v a b hv' hlow'
  simp -implicitDefEqProofs [x13l52_w,f15,fc,↓hpR,hl,sl1,tl1,hlt];refine hq' _ _ (fun t ht=>?_) (by simp[au,f16]);have hne:∀k,(dU x13l52).contains k=true→t≠k:=fun k hk e=>by rw[e,hk] at ht;cases ht
  simp only[au,if_neg (hne 231 rfl),if_neg (hne 232 rfl),if_neg (hne 233 rfl),if_neg (hne 234 rfl),if_neg (hne 235 rfl)];exact he t ht
theorem CU {cf:aw}{n:Nat}{K:List Fr}{Q:Ex→SF→Prop}{s:SF}{U:List V}{s1 s2:SI}{T:List D}{f:D→Int}
  (c41:∀(x:D) h,cf 41 [x.v] h=some (.c (.bool x.dyn),h))
  (c42:∀x∈T,∀v h,dt h 1 U s1 T s2→LvAt h v x.scp.reverse→aU h→cf 42 [.ref 1 0,(x.kid 3).v,.c (.bool (!x.sta)),v] h=some (.c (.int .i64 (f x)),h))
  (hsz:∀x∈T,x.sz<10000000∧x.sz<n) (hx4:∀x∈T,x.kids.length=4) (hn:T.length<n) (hl2:T.length<100000000)
  (e5:s.e 5=.ref 1 0) (e14:s.e 14=.c (.int .i64 0)) (h1:dt s.h 1 U s1 T s2) (hh:aU s.h)
  (hbad:dj f T≠0→∀e h rb,e 2=.c (.pointer none)→e 3=.c (.int .i64 (dj f T))→dI cf n K Q .ret ⟨e,h,s.base,rb⟩)
  (hq:dj f T=0→∀e h rb,e 5=.ref 1 0→dt h 1 U s1 T s2→aU h→dI cf n K Q (.exit 6) ⟨e,h,s.base,rb⟩):lpk cf n x13l58 K Q s:=by
 generalize hP:s.h=P at *;obtain⟨J,hJ⟩:∃J:Nat→SF→Prop,J=fun k s'=>∃j R,j+k=T.length∧s'.e 14=.c (.int .i64 j)∧s'.h=P++R∧aU (P++R)∧dj f T=dj f (T.drop j):=⟨_,rfl⟩
 refine aX J T.length hn (by rw[hJ];exact⟨0,[],by simp,by simpa using e14,by simp[hP],by simpa using hh,by simp⟩) ?_;rintro k ⟨e,h',base,rb⟩ hj he hb;rw[hJ] at hj;obtain⟨j,R,hj,f14,hh',hlo,hfx⟩:=hj;have g5:e 5=_:=(he 5 rfl).trans e5;simp only at f14 hh' hb;subst hh' hb;have ht:∀R,(P++R)[1]?=some (.cells [.sl U s1,.sl (dfV T) s2]):=fun R=>bU h1 R
 by_cases hm:j<T.length;rotate_left
 ·have hlt:¬(j:Int)<T.length:=by omega
  obtain rfl:j=T.length:=by omega
  have hf:dj f T=0:=by rw[hfx,List.drop_length,dj]
  have hq':=fun e1 rb1 a=>hq hf e1 (P++R) rb1 a (ht R) hlo
  simp -implicitDefEqProofs [x13l58_w,g5,f14,↓ht,hlt];refine hq' _ _ (by simp[au,g5])
 have hlt:(j:Int)<T.length:=by omega
 have hw:IntKind.i64.wrap ((j:Int)+1)=(j:Int)+1:=aB (by omega);have hvg:=nr hm;have hxT:=List.getElem_mem hm;have c42x:=c42 _ hxT;obtain⟨hs1,hs2⟩:=hsz _ hxT;have hx4:=hx4 _ hxT;rw[jQ _ hm] at hfx;generalize T[j]=x at *;have hsp:bg [V.c (.int .i64 0),.c (.int .i64 0),.c (.string ⟨#[]⟩),.sl [] .nil,.sl [] .nil,.sl [] .nil,.c (.int .i64 0),.c (.int .i64 0),.c (.string ⟨#[]⟩),.sl [] .nil] 0 (dfC x)=dfC x:=by
  unfold dfC;generalize x.kid 0=a;generalize x.kid 3=b;obtain⟨ka,ia,ta,la⟩:=a;obtain⟨kb,ib,tb,lb⟩:=b;rfl
 have p1l:1<x.kids.length:=by omega
 have p2l:2<x.kids.length:=by omega
 have z1:=aC (aA p1l);have z2:=aC (aA p2l);have y1:=aQ (x.kid 1);have y2:=aQ (x.kid 2);have hlow2:aU (P++(R++[O.cells (dfC x)])):=by
  rw[← List.append_assoc];exact nV hlo (by simp[O.low,kX])
 have hpp:(P++(R++[O.cells (dfC x)]))[P.length+R.length]?=some (.cells (dfC x)):=by
  rw[← List.append_assoc];simp
 simp -implicitDefEqProofs [x13l58_w,g5,f14,↓ht,hlt,hm,hvg,hsp];refine CY (P:=P++(R++[O.cells (dfC x)])) (x:=x) (p:=P.length+R.length) (rs:=[]) (v0:=.c (.pointer none)) (R:=[]) hpp (by omega) (by omega) (by simp[au]) (by simp[au]) (by simp[au]) (by simp) rfl (by simpa using hlow2) ?_;intro e3 R3 rb3 v3 hk3 f16 hv3 hl3;rw[List.append_nil] at hv3;have w5:e3 5=.ref 1 0:=by
  have:=hk3 5 rfl;simpa[au,g5] using this
 have w14:e3 14=.c (.int .i64 j):=by
  have:=hk3 14 rfl;simpa[au,f14] using this
 have w15:e3 15=.ref (P.length+R.length) 0:=by
  have:=hk3 15 rfl;simpa[au] using this
 simp -implicitDefEqProofs [];refine DP (P:=P++(R++[O.cells (dfC x)])) (x:=x) (p:=P.length+R.length) (rs:=(sco true (x.kid 1).kids).reverse) (v0:=v3) (R:=R3) hpp (by omega) (by omega) (by simp[au,w15]) (by simp[au,f16]) (by simp[au]) (by simp) hv3 hl3 ?_;intro e4 R4 rb4 v4 hk4 g16 hv4 hl4;have q5:e4 5=.ref 1 0:=by
  have:=hk4 5 rfl;simpa[au,w5] using this
 have q14:e4 14=.c (.int .i64 j):=by
  have:=hk4 14 rfl;simpa[au,w14] using this
 have q15:e4 15=.ref (P.length+R.length) 0:=by
  have:=hk4 15 rfl;simpa[au,w15] using this
 have hrv:(sco false (x.kid 2).kids).reverse++(sco true (x.kid 1).kids).reverse=x.scp.reverse:=by simp[D.scp]
 rw[hrv] at hv4;have hP4:P++(R++[O.cells (dfC x)])++R4=P++(R++[O.cells (dfC x)]++R4):=by simp
 have hpp4:=bU hpp R4;have hta:=ht (R++[O.cells (dfC x)]++R4);rw[← hP4] at hta;have c42y:=c42x v4 _ hta hv4 hl4;have sl2:=bI (txs (x.kid 2).kids);have tl2:=bO (x.kid 2).kids;have hst:x.sta=(!(x.kid 3).dyn&&(x.kid 2).kids.length==0):=rfl;have c41x:=c41 (x.kid 3);generalize f x=er at *;have hgo:∀R',P++(R++[O.cells (dfC x)])++R4=P++R'→aU (P++R'):=fun R' h=>by rw[← h];exact hl4
 have hgo2:=hgo (R++[O.cells (dfC x)]++R4) hP4;clear hgo;generalize hHH:P++(R++[O.cells (dfC x)])++R4=HH at *;have hn0:(!x.sta)=if 0<(x.kid 2).kids.length then true else (x.kid 3).dyn:=by
  rw[hst];by_cases h0:(x.kid 2).kids.length=0
  ·simp[h0]
  ·have:((x.kid 2).kids.length==0)=false:=beq_false_of_ne h0;rw[this,Bool.and_false,if_pos (by omega)];rfl
 rw[hn0] at c42y;by_cases hpos:0<(x.kid 2).kids.length
 ·have hposi:(0:Int)<(x.kid 2).kids.length:=by omega
  rw[if_pos hpos] at c42y;by_cases her:er=0
  ·rw[her] at c42y;rw[if_pos her] at hfx;simp -implicitDefEqProofs [q5,q14,q15,g16,hpp4,sl2,tl2,hpos,hposi,c41x,c42y];refine⟨k-1,by omega,?_⟩;rw[hJ];exact⟨j+1,R++[O.cells (dfC x)]++R4,by omega,by simp[au,hw],by rw[← hP4],hgo2,hfx⟩
  ·have herb:(er != 0)=true:=by simp[her]
   rw[if_neg her] at hfx;have hbad:=hbad (by rw[hfx];exact her);rw[hfx] at hbad;simp -implicitDefEqProofs [x13_r,q5,q14,q15,g16,hpp4,sl2,tl2,hpos,hposi,c41x,c42y,herb];refine hbad _ _ _ ?_ ?_<;>simp[au]
 ·have hposi:¬(0:Int)<(x.kid 2).kids.length:=by omega
  rw[if_neg hpos] at c42y;by_cases her:er=0
  ·rw[her] at c42y;rw[if_pos her] at hfx;simp -implicitDefEqProofs [q5,q14,q15,g16,hpp4,sl2,tl2,hpos,hposi,c41x,c42y];refine⟨k-1,by omega,?_⟩;rw[hJ];exact⟨j+1,R++[O.cells (dfC x)]++R4,by omega,by simp[au,hw],by rw[← hP4],hgo2,hfx⟩
  ·have herb:(er != 0)=true:=by simp[her]
   rw[if_neg her] at hfx;have hbad:=hbad (by rw[hfx];exact her);rw[hfx] at hbad;simp -implicitDefEqProofs [x13_r,q5,q14,q15,g16,hpp4,sl2,tl2,hpos,hposi,c41x,c42y,herb];refine hbad _ _ _ ?_ ?_<;>simp[au]
mutual
theorem vf {n:Nat}(k:Nat):∀v:V,V.low n v=true→V.low (n+k) (V.shift k v)=true
 | .c _,_=>rfl
 | .agg cs,h=>bJ k cs h
 | .tup cs,h=>bJ k cs h
 | .sl us i,h=>by
  simp only[V.low,bT,V.shift] at h ⊢;refine⟨bJ k us h.1,?_⟩;cases i with
  | tok q=>simp only[SI.low,SI.shift,dT] at h ⊢;omega
  | _=>rfl
 | .ptr cs _,h=>bJ k cs h
 | .ref id _,h=>by simp only[V.low,V.shift,dT] at h ⊢;omega
 | .bnd _ id _,h=>by simp only[V.low,V.shift,dT] at h ⊢;omega
 | .clo _ cs,h=>bJ k cs h
 | .row i _ m _,h=>by simp only[V.low,V.shift,Bool.or_eq_true,dT] at h ⊢;exact h.imp (fun h=>by omega) fun h=>h
 | .buf id _,h=>by simp only[V.low,V.shift,dT] at h ⊢;omega
 | .tsl q _ _,h=>by simp only[V.low,V.shift,dT] at h ⊢;omega
 | .tref q _ _,h=>by simp only[V.low,V.shift,dT] at h ⊢;omega
 | .top,_=>rfl
 | .fmp _ vs,h=>bJ k vs h
 | .mref id,h=>by simp only[V.low,V.shift,dT] at h ⊢;omega
 | .yld q _ _ cs,h=>by
  simp only[V.low,V.shift,bT,dT] at h ⊢;exact⟨by omega,bJ k cs h.2⟩
theorem bJ {n:Nat}(k:Nat):∀vs:List V,V.lows n vs=true→V.lows (n+k) (V.shifts k vs)=true
 | [],_=>rfl
 | v::vs,h=>by
  simp only[V.lows,V.shifts,bT] at h ⊢;exact⟨vf k v h.1,bJ k vs h.2⟩
end
theorem sD {n:Nat}(k:Nat){o:O}(h:O.low n o=true):O.low (n+k) (O.shift k o)=true:=by
 cases o with
 | cells cs=>exact bJ k cs h
 | tokc a b cs=>exact bJ k cs h
 | mapo ks vs=>exact bJ k vs h
 | _=>rfl
theorem rG {h H:List O}(hh:aU h) (hH:aU H):aU (h++H.map (O.shift h.length)):=by
 refine nV hh ?_;unfold aU at hH;rw[List.all_eq_true] at hH ⊢;intro o ho;obtain⟨x,hx,rfl⟩:=List.mem_map.1 ho;have:=sD h.length (hH x hx);rw[List.length_map,Nat.add_comm];exact this
mutual
theorem D.shift (k:Nat):∀d:D,V.shift k d.v=d.v
 | .mk a b c l=>by
  simp only[D.v,V.shift,V.shifts,D.shifts k l];rfl
theorem D.shifts (k:Nat):∀l:List D,V.shifts k (D.vs l)=D.vs l
 | []=>rfl
 | d::l=>by simp only[D.vs,V.shifts,D.shift k d,D.shifts k l]
end
theorem gc (k:Nat):∀{l:List V},(∀v∈l,V.shift k v=v)→V.shifts k l=l
 | [],_=>rfl
 | v::l,h=>by rw[V.shifts,h v (.head _),gc k fun x hx=>h x (.tail _ hx)]
theorem kr (k:Nat) (a b:List V):V.shifts k (a++b)=V.shifts k a++V.shifts k b:=by
 rw[aT,aT,aT,List.map_append]
theorem wK (k:Nat) (l:List ByteArray):V.shifts k (ss l)=ss l:=gc k fun v hv=>by
 obtain⟨s,_,rfl⟩:=List.mem_map.1 hv;rfl
theorem sF (k:Nat) (l:List D):V.shifts k (fg l)=fg l:=gc k fun v hv=>by
 obtain⟨s,_,rfl⟩:=List.mem_map.1 hv;rfl
theorem D.shift_cells (k:Nat) (d:D):V.shifts k d.v.cells=d.v.cells:=by
 have h:=D.shift k d;obtain⟨a,b,c,l⟩:=d;simp only[D.v,V.shift,V.agg.injEq] at h;exact h
theorem vu (k:Nat) (l:List D):V.shifts k (dfV l)=dfV l:=gc k fun v hv=>by
 obtain⟨d,_,rfl⟩:=List.mem_map.1 hv;simp only[V.shift,dfC];rw[kr,kr,D.shift_cells,D.shift_cells];simp only[V.shifts,V.shift,wK];rfl
theorem HV (t:D) (hs:t.sz<1000000000){n:Nat}(hn:12*t.sz+400≤n){h:List O}(hh:aU h):∃e,
  (t.tck≠0∧call X E (n+1) 13 [t.v] h=some (.tup [.c (.pointer none),.c (.int .i64 t.tck)],h++e)) ∨
  (t.tck=0∧call X E (n+1) 13 [t.v] h=some (.tup [.ref (h.length+1) 0,.c (.int .i64 0)],h++e)∧aU (h++e)∧∃s1 s2,dt (h++e) (h.length+1) (fg (t.kid 0).kids) s1 (t.kids.drop 1) s2):=by
 rw[de (xf:=x13) rfl rfl rfl];obtain⟨P,hP⟩:∃P:V→List O→Prop,P=fun v H=>(t.tck≠0∧v=.tup [.c (.pointer none),.c (.int .i64 t.tck)])∨(t.tck=0∧v=.tup [.ref 1 0,.c (.int .i64 0)]∧aU H∧∃s1 s2,dt H 1 (fg (t.kid 0).kids) s1 (t.kids.drop 1) s2):=⟨_,rfl⟩
 have hPe:∀r H,t.tck=r→r≠0→P (.tup [.c (.pointer none),.c (.int .i64 r)]) H:=fun r H h1 h2=>by rw[hP];subst h1;exact .inl ⟨h2,rfl⟩
 have hPo:∀H s1 s2,t.tck=0→aU H→dt H 1 (fg (t.kid 0).kids) s1 (t.kids.drop 1) s2→P (.tup [.ref 1 0,.c (.int .i64 0)]) H:=fun H s1 s2 h1 h2 h3=>by rw[hP];exact .inr ⟨h1,rfl,h2,s1,s2,h3⟩
 obtain⟨v,H,h1,h2⟩:=ri (cf:=call X E n) (n:=n) (xf:=x13) (args:=[t.v]) (h:=h) (P:=P) (by kernel_rfl) rfl rfl (by simp[V.lows,D.low]) (by
  refine cm ?_;clear hP;have c23:∀h,call X E n 23 [t.v] h=some (.c (.int .i64 t.ck),h):=BS t (by omega) n (by omega);obtain⟨n,rfl⟩:∃n',n=n'+5:=⟨n-5,by omega⟩
  have c36:∀(x:D) h,call X E (n+5) 36 [x.v] h=some (.c (.bool x.sml),h):=fun x=>Hd x
  have c37:∀(x:D) h,call X E (n+5) 37 [x.v] h=some (.c (.bool x.labr),h):=fun x=>G6 x (by omega)
  have c41:∀(x:D) h,call X E (n+5) 41 [x.v] h=some (.c (.bool x.dyn),h):=fun x=>FF x
  have hkl:=aQ t;unfold D.tck at hPe hPo;by_cases h0:t.ck=0;rotate_left
  ·have h0b:(t.ck != 0)=true:=by simp[h0]
   rw[if_pos h0] at hPe;generalize n+5=m at *;generalize call X E m=cf at *;simp -implicitDefEqProofs [x13_w,x13_r,c23,h0b];exact hPe _ _ rfl h0
  obtain⟨hfm,hsz⟩:=oi h0;rw[if_neg (by omega)] at hPe hPo;rw[h0] at c23;by_cases hk3:t.kd=3;rotate_left
  ·have hk3b:(t.kd != 3)=true:=by simp[hk3]
   have he:t.els 2 true=false:=by simp[D.els,hk3]
   rw[he,if_pos (by rfl)] at hPe;generalize n+5=m at *;generalize call X E m=cf at *;simp -implicitDefEqProofs [x13_w,x13_r,c23,hk3b];exact hPe _ _ rfl (by decide)
  have hk3b:(t.kd != 3)=false:=by simp[hk3]
  by_cases hl2:t.kids.length<2
  ·have hl2i:(t.kids.length:Int)<2:=by omega
   have he:t.els 2 true=false:=by simp[D.els,hk3];omega
   rw[he,if_pos (by rfl)] at hPe;generalize n+5=m at *;generalize call X E m=cf at *;simp -implicitDefEqProofs [x13_w,x13_r,c23,hk3b,hl2,hl2i];exact hPe _ _ rfl (by decide)
  have hl2i:¬(t.kids.length:Int)<2:=by omega
  have l0:0<t.kids.length:=by omega
  have l0i:(0:Int)<t.kids.length:=by omega
  have l1:1<t.kids.length:=by omega
  have he:t.els 2 true=true:=by simp[D.els,hk3];omega
  rw[he,Bool.true_and] at hPe hPo;by_cases hk0:(t.kid 0).kd=3;rotate_left
  ·have hk0b:((t.kid 0).kd != 3)=true:=by simp[hk0]
   have hk0c:((t.kid 0).kd==3)=false:=beq_false_of_ne hk0;rw[hk0c,if_pos (by rfl)] at hPe;generalize n+5=m at *;generalize call X E m=cf at *;simp -implicitDefEqProofs [x13_w,x13_r,c23,hk3b,hl2,hl2i,l0,l0i,hk0b];exact hPe _ _ rfl (by decide)
  have hk0b:((t.kid 0).kd != 3)=false:=by simp[hk0]
  have hk0c:((t.kid 0).kd==3)=true:=by simp[hk0]
  rw[hk0c,Bool.true_and] at hPe hPo;have s0:=aC (aA l0);have y0:=aQ (t.kid 0);have hwl:IntKind.i64.wrap ((t.kids.length:Int)-1)=(t.kids.length:Int)-1:=aB (by omega);have hTl:(t.kids.drop 1).length=t.kids.length-1:=by simp
  obtain⟨T,hT⟩:∃T,T=t.kids.drop 1:=⟨_,rfl⟩
  rw[← hT] at hPe hPo hTl;obtain⟨SZ,hSZ⟩:∃z,z=t.sz:=⟨_,rfl⟩
  rw[← hSZ] at hPe hPo;have hTm:∀x∈T,x∈t.kids:=fun x hx=>bZ (by rw[← hT];exact hx)
  have hTz:∀x∈T,x.sz<10000000∧x.sz<n+5:=fun x hx=>by have:=aC (hTm x hx);exact⟨by omega,by omega⟩
  have c38:∀(s1:SI) (l:List D) (s2:SI) (x:D) h,(∀d∈l,(d.kid 0).fm=true∧(d.kid 0).lab=true)→l.length≤T.length→dt h 1 (fg (t.kid 0).kids) s1 l s2→aU h→call X E (n+5) 38 [.ref 1 0,x.v] h=some (.c (.int .i64 (fix (fun d=>(d.kid 0).same x) l 0)),h) :=
   fun s1 l s2 x h a b c d=>Fj c x d (fun y hy=>by rw[zh (a y hy).1 (a y hy).2];omega) (by omega) (by omega)
  have c39:∀x∈T,∀j,j<x.kids.length→∀h,call X E (n+5) 39 [(x.kid j).v] h=some (.tup [.sl (ss (if (x.kid j).nms D.nmr=true then txs (x.kid j).kids else [])) .any,.c (.bool ((x.kid j).nms D.nmr))],h):=fun x hx j hj h=>by
   have a:=aC (hTm x hx);have b:=aC (aA hj);have c:=aQ (x.kid j);exact HW (x.kid j) (by omega) (by omega) h
  have c40:∀(L:List ByteArray) i tx h,L.length+1<n+5→L.length<100000000→call X E (n+5) 40 [.sl (ss L) i,.c (.string tx)] h=some (.c (.bool (inB L tx)),h):=fun L i tx h a b=>G0 L i tx (by omega) (by omega) h
  have c42:∀(s1 s2:SI),(∀d∈T,(d.kid 0).fm=true∧(d.kid 0).lab=true)→(∀x∈T,x.kids.length=4)→∀x∈T,∀v h,dt h 1 (fg (t.kid 0).kids) s1 T s2→LvAt h v x.scp.reverse→aU h→call X E (n+5) 42 [.ref 1 0,(x.kid 3).v,.c (.bool (!x.sta)),v] h=some (.c (.int .i64 (bdE SZ (T.map hdN) x)),h):=fun s1 s2 ha h4 x hx v h a b c=>by
   have k1:=aC (hTm x hx);have h4:=h4 x hx;have k2:=aC (aA (d:=x) (j:=1) (by omega));have k3:=aC (aA (d:=x) (j:=2) (by omega));have k4:=aC (aA (d:=x) (j:=3) (by omega));have k5:=aQ (x.kid 1);have k6:=aQ (x.kid 2);have hf3:(x.kid 3).fm=true:=af (af hfm x (hTm x hx)) _ (aA (by omega));have hsl:x.scp.reverse.length≤2*t.sz:=by
    rw[List.length_reverse];simp only[D.scp,lA,lu];omega
   exact qJ (B:=3*t.sz) (by omega) (by omega) ha SZ (x.kid 3) (by omega) hf3 (by omega) (n+5) (by omega) x.scp.reverse x.sta v h (by omega) a b c
  have hFz:(t.kid 0).kids.length<n+5:=by omega
  have hTn:T.length<n+5:=by omega
  have hTb:T.length<100000000:=by omega
  have hlb:aU [O.cells t.v.cells,.cells [.sl [] .nil,.sl [] .nil]]:=by
   have:=ap 2 t;simp[aU,this];rfl
  generalize hm:n+5=m at *;generalize call X E m=cf at *;simp -implicitDefEqProofs [x13_w,c23,hk3b,hl2,hl2i,l0,l0i,hk0b];refine CX (t:=t) (l:=(t.kid 0).kids) rfl c36 l0 hFz (by omega) (by simp[au]) (by simp[au]) (by simp[au]) rfl rfl hlb ?_ ?_ rfl
  ·intro hany e h rb q2 q3;rw[hany,if_pos (by rfl)] at hPe;simp -implicitDefEqProofs [x13_r,q2,q3];exact hPe _ _ rfl (by decide)
  intro hany e1 h1 rb1 si1 hk1 a0 a1 hlo1;rw[hany,if_neg (by decide)] at hPe hPo;have u1:e1 1=.ref 0 0:=by
   have:=hk1 1 rfl;simpa[au] using this
  have u5:e1 5=.ref 1 0:=by
   have:=hk1 5 rfl;simpa[au] using this
  by_cases hbig:4000<(t.kids.length:Int)-1
  ·rw[if_pos hbig] at hPe;simp -implicitDefEqProofs [x13_r,u1,a0,hwl,hbig];exact hPe _ _ rfl (by decide)
  rw[if_neg hbig] at hPe hPo;simp -implicitDefEqProofs [u1,a0,hwl,hbig];refine Ec (t:=t) (T:=T) hfm hT.symm c37 (c38 si1) c39 c40 hTz l0 hTn hTb (by simp[au,u1]) (by simp[au,u5]) (by simp[au]) a0 a1 hlo1 ?_ ?_ rfl
  ·intro hne e h rb q2 q3;rw[if_pos hne] at hPe;simp -implicitDefEqProofs [x13_r,q2,q3];exact hPe _ _ rfl hne
  intro hz ha e2 h2 rb2 s2 hk2 b0 b1 hlo2;rw[if_neg (by simp[hz])] at hPe hPo;have hx4:=fW T [] hz;have c42:=c42 si1 s2 ha hx4;have w1:e2 1=.ref 0 0:=by
   have:=hk2 1 rfl;simpa[au,u1] using this
  have w5:e2 5=.ref 1 0:=by
   have:=hk2 5 rfl;simpa[au,u5] using this
  have hT0:0<T.length:=by omega
  have hT0i:(0:Int)<T.length:=by omega
  have hvg:=nr hT0;have hTk:T[0]=t.kid 1:=by
   have h1:T[0]=(t.kids.drop 1)[0]'(by rw[← hT];exact hT0):=by simp[hT]
   rw[h1,List.getElem_drop];exact fN l1
  rw[hTk] at hvg;have tl1:=bO ((t.kid 1).kid 1).kids;have sl1:=bI (txs ((t.kid 1).kid 1).kids);have il:=gh (t.kid 0).kids;have hne:(((t.kid 0).kids.length:Int) != (((t.kid 1).kid 1).kids.length:Int)) = !decide ((t.kid 0).kids.length=((t.kid 1).kid 1).kids.length):=by
   rw[bne,lbq];congr 1
  by_cases hsz1:(t.kid 0).kids.length=((t.kid 1).kid 1).kids.length;rotate_left
  ·rw[if_pos hsz1] at hPe;have hd:decide ((t.kid 0).kids.length=((t.kid 1).kid 1).kids.length)=false:=by simp[hsz1]
   rw[hd] at hne;simp -implicitDefEqProofs [x13_r,w5,b1,hT0,hT0i,hvg,tl1,sl1,il,hne];exact hPe _ _ rfl (by decide)
  rw[if_neg (by simpa using hsz1)] at hPe hPo;have hd:decide ((t.kid 0).kids.length=((t.kid 1).kid 1).kids.length)=true:=by simp[hsz1]
  rw[hd] at hne;simp -implicitDefEqProofs [w5,b1,hT0,hT0i,hvg,tl1,sl1,il,hne];refine CU (T:=T) (U:=fg (t.kid 0).kids) (s1:=si1) (s2:=s2) (f:=bdE SZ (T.map hdN)) c41 c42 hTz hx4 hTn hTb (by simp[au,w5]) (by simp[au]) b1 hlo2 ?_ ?_
  ·intro hne e h rb q2 q3;simp -implicitDefEqProofs [x13_r,q2,q3];exact hPe _ _ rfl hne
  intro hz2 e3 h3 rb3 q5 hta hlo3;simp -implicitDefEqProofs [x13_r,q5];exact hPo _ _ _ hz2 hlo3 hta)
 subst hP;rcases h1 with⟨h1,rfl⟩|⟨h1,rfl,h3,s1,s2,h4⟩
 ·exact⟨_,.inl ⟨h1,h2⟩⟩
 ·refine⟨H.map (O.shift h.length),.inr ⟨h1,?_,rG hh h3,s1.shift h.length,s2.shift h.length,?_⟩⟩
  ·rw[h2,Nat.add_comm];rfl
  ·unfold dt at h4 ⊢;rw[aR (by omega),Nat.add_sub_cancel_left,List.getElem?_map,h4];simp only[Option.map_some,O.shift,V.shifts,V.shift,sF,vu]
def prE:Nat→D→List D
 | 0,_=>[]
 | f+1,d=>d::(prP d).flatMap fun p=>prE f p.1
def okE:Nat→D→Prop
 | 0,_=>True
 | f+1,d=>fmW (wn d.wd) d=true∧∀p∈prP d,okE f p.1
theorem qv {g:List (ByteArray × Bool)→Bool→D→Int}{rs rs2:List (ByteArray × Bool)}:∀{ps:List (D × Bool × Bool)},exL g rs rs2 ps=0→∀p∈ps,∃r b,g r b p.1=0
 | [],_,p,hp=>by cases hp
 | q::ps,h,p,hp=>by
  rw[exL] at h;by_cases h0:g (if q.2.2=true then rs2 else rs) (!q.2.1) q.1=0
  ·rw[if_pos h0] at h;rcases List.mem_cons.1 hp with rfl|hp
   ·exact⟨_,_,h0⟩
   ·exact qv h p hp
  ·rw[if_neg h0] at h;exact absurd h h0
theorem zp:∀(f:Nat) (sh:Sh) (rs:List (ByteArray × Bool)) (st:Bool) (d:D),exN f sh rs st d=0→okE f d
 | 0,_,_,_,_,_=>trivial
 | f+1,sh,rs,st,d,h=>by
  rw[exN] at h;split at h;rotate_left
  ·cases h
  rename_i h1;split at h;rotate_left
  ·rename_i h2;exact absurd h h2
  rw[bT] at h1;refine⟨h1.2,fun p hp=>?_⟩;obtain⟨r,b,h3⟩:=qv h p hp;exact zp f sh r b p.1 h3
theorem mG {g:D→Int}:∀{l:List D},dj g l=0→∀x∈l,g x=0
 | [],_,x,hx=>by cases hx
 | y::l,h,x,hx=>by
  rw[dj] at h;split at h
  ·rename_i h0;rcases List.mem_cons.1 hx with rfl|hx
   ·exact h0
   ·exact mG h x hx
  ·rename_i h0;exact absurd h h0
theorem lX {t:D}(h:t.tck=0):t.fm=true∧t.sz≤100000∧2≤t.kids.length∧t.kids.length≤4001∧(∀x∈(t.kid 0).kids,0≤x.nu∧x.nu<8)∧∀x∈t.kids.drop 1,x.kids.length=4∧okE t.sz (x.kid 3):=by
 unfold D.tck at h;by_cases h0:t.ck=0;rotate_left
 ·rw[if_pos h0] at h;exact absurd h h0
 rw[if_neg (by omega)] at h;obtain⟨h1,h2⟩:=oi h0;split at h
 ·cases h
 rename_i h3;split at h
 ·cases h
 rename_i h4;split at h
 ·rename_i h5;exact absurd h h5
 rename_i h5;have h5:iw [] (t.kids.drop 1)=0:=by simpa using h5
 split at h
 ·cases h
 have hel:t.els 2 true=true∧((t.kid 0).kids.any fun x => !x.sml)=false:=by
  simp only[Bool.not_eq_false,bT,Bool.not_eq_true'] at h3;exact⟨h3.1,h3.2.2⟩
 have hl2:=(vk hel.1).2;refine⟨h1,h2,hl2,by omega,fun x hx=>?_,fun x hx=>⟨fW _ _ h5 x hx,zp _ _ _ _ _ (mG h x hx)⟩⟩;have:=List.any_eq_false.1 hel.2 x hx;simp only[Bool.not_eq_true,Bool.not_eq_false',D.sml,bT,dT] at this;exact this.2
theorem iE:∀(l:List D) (j:Nat),D.szs (l.drop j)≤D.szs l
 | l,0=>by simp
 | [],j+1=>by simp
 | d::l,j+1=>by
  have:=iE l j;simp only[List.drop_succ_cons,D.szs];omega
theorem jJ:∀(a b:List D),D.szs (a++b)=D.szs a+D.szs b
 | [],b=>by simp[D.szs]
 | d::a,b=>by simp only[List.cons_append,D.szs,jJ a b];omega
theorem ez (d:D):D.szs d.kids+1=d.sz:=by
 obtain⟨k,n,t,l⟩:=d;simp only[D.kids,D.sz];omega
def psz (ps:List (D × Bool × Bool)):Nat:=(ps.map fun p=>p.1.sz).sum
theorem eo (b:Bool) (l:List D):psz (l.map (mk3 b))=D.szs l:=by
 induction l with
 | nil=>rfl
 | cons d l ih =>
  simp only[psz,List.map_cons,List.sum_cons,mk3,D.szs] at ih ⊢;rw[ih]
theorem o6 (a b:List (D × Bool × Bool)):psz (a++b)=psz a+psz b:=by simp[psz]
theorem Aq {l:List D}(h:l.length=4):∃a b c e,l=[a,b,c,e]:=by
 match l,h with
 | [a,b,c,e],_=>exact⟨a,b,c,e,rfl⟩
theorem ze {d:D}(hf:fmW (wn d.wd) d=true):psz (prP d)+1≤d.sz:=by
 have h0:=ez d;have hd:=iE d.kids;unfold prP;split
 ·rw[eo];have:=hd 1;omega
 split
 ·rw[eo];have:=hd 1;omega
 split
 ·rename_i _ _ hw;have h4:d.kids.length=4:=by
   unfold fmW at hf;rw[if_neg (by omega),if_neg (by omega),if_neg (by omega),if_pos (by omega)] at hf;simpa using hf
  obtain⟨a,b,c,e,hk⟩:=Aq h4;rw[o6,eo,eo,hk];rw[hk] at h0;simp[D.szs] at h0 ⊢;omega
 split
 ·rename_i _ _ _ hw;have h4:d.kids.length=4:=by
   unfold fmW at hf;rw[if_neg (by omega),if_neg (by omega),if_neg (by omega),if_neg (by omega),if_pos hw] at hf;simp at hf;exact hf.1
  obtain⟨a,b,c,e,hk⟩:=Aq h4;have k2:d.kid 2=c:=by simp[D.kid,hk]
  have k3:d.kid 3=e:=by simp[D.kid,hk]
  rw[hk] at h0;simp[psz,k2,k3,D.szs] at h0 ⊢;omega
 split
 ·rw[eo];have:=hd 2;omega
 split
 ·rw[eo];have:=hd 2;omega
 split
 ·rename_i _ _ _ _ _ _ hw;have h4:d.kids.length=4:=by
   unfold fmW at hf;rw[if_neg (by omega),if_neg (by omega),if_neg (by omega),if_neg (by omega),if_neg (by omega),if_neg (by omega),if_neg (by omega),if_pos hw] at hf;simp at hf;exact hf.1
  obtain⟨a,b,c,e,hk⟩:=Aq h4;have k2:d.kid 2=c:=by simp[D.kid,hk]
  have k3:d.kid 3=e:=by simp[D.kid,hk]
  have s2:=ez c;have s3:=ez e;rw[o6,eo,eo,k2,k3];rw[hk] at h0;simp[D.szs] at h0;omega
 ·simp[psz];have:=ao d;omega
theorem uO {g:D→List D}:∀{ps:List (D × Bool × Bool)},(∀p∈ps,(g p.1).length≤p.1.sz)→(ps.flatMap fun p=>g p.1).length≤psz ps
 | [],_=>by simp[psz]
 | p::ps,h=>by
  have h1:=h p (.head _);have h2:=uO (ps:=ps) fun q hq=>h q (.tail _ hq)
  simp only[List.flatMap_cons,lA,psz,List.map_cons,List.sum_cons] at h2 ⊢;omega
theorem jL:∀(f:Nat) (d:D),okE f d→(prE f d).length≤d.sz
 | 0,d,_=>by simp[prE]
 | f+1,d,h=>by
  have h1:=uO (g:=prE f) (ps:=prP d) fun p hp=>jL f p.1 (h.2 p hp)
  have h2:=ze h.1;simp only[prE,lC];omega
theorem mX {d:D}(hf:fmW (wn d.wd) d=true){p:D × Bool × Bool}(hp:p∈prP d):p.1.sz<d.sz:=by
 rcases (qC hf p hp).1 with hx|⟨j,hj,hx⟩
 ·exact aC hx
 ·have a:=aC hx;have b:=aC (aA hj);omega
theorem Hn:∀(f:Nat) (d:D),d.sz≤f→okE f d→∀m,3*f+20≤m→f<1000000000→aV m 55 [d.v] (.sl (D.vs (prE f d)) (if prP d=[] then .full else .any))
 | 0,d,h,_,_,_,_=>by have:=ao d;omega
 | f+1,d,hf,hok,m,hm,hb=>by
  obtain⟨m,rfl⟩:∃m',m=m'+2:=⟨m-2,by omega⟩
  have c98:∀h,call X E (m+1) 98 [d.v] h=some (ptR (prP d),h):=F2 d hok.1 (by omega) (by omega);have c55:∀p∈prP d,∀h,call X E (m+1) 55 [p.1.v] h=some (.sl (D.vs (prE f p.1)) (if prP p.1=[] then .full else .any),h):=fun p hp=>Hn f p.1 (by have:=mX hok.1 hp;omega) (hok.2 p hp) (m+1) (by omega) (by omega)
  have hpl:=ng hok.1;have hlenE:∀j,(d::((prP d).take j).flatMap fun p=>prE f p.1).length≤d.sz:=fun j=>by
   have h1:∀p∈(prP d).take j,(prE f p.1).length≤p.1.sz:=fun p hp=>jL f p.1 (hok.2 p (List.mem_of_mem_take hp))
   have h2:=uO (g:=prE f) h1;have h3:=ze hok.1;have h4:psz ((prP d).take j)≤psz (prP d):=by
    have h5:=o6 ((prP d).take j) ((prP d).drop j);rw[List.take_append_drop] at h5;omega
   simp only[lC];omega
  have hlenP:∀p∈prP d,(prE f p.1).length≤d.sz:=fun p hp=>by
   have h1:=jL f p.1 (hok.2 p hp);have:=mX hok.1 hp;omega
  have hsl:=aa;have hz:=D.hz;have hlow:=D.lows 0 (prE (f+1) d);have hlow2:(V.sl (D.vs (prE (f+1) d)) (if prP d=[] then .full else .any)).low 0=true:=by
   simp only[V.low,hlow,Bool.true_and];split<;>rfl
  have hne:∀p∈prP d,∃r,prE f p.1=p.1::r:=fun p hp=>by
   have h1:=mX hok.1 hp;have h2:=ao p.1;obtain⟨f',rfl⟩:∃f',f=f'+1:=⟨f-1,by omega⟩
   exact⟨_,rfl⟩
  refine azz (by simp[V.lows]) ?_;generalize call X E (m+1)=cf at *;obtain⟨i,hi⟩:=vN (prP d);rw[hi] at c98;have hE:prE (f+1) d=d::(prP d).flatMap fun p=>prE f p.1:=rfl
  rw[hE] at hlow2 ⊢;have hdz:=hf;generalize prP d=ps at *;clear hE;simp -implicitDefEqProofs [x55_w,c98];obtain⟨J,hJ⟩:∃J:Nat→SF→Prop,J=fun k s=>∃j si,j+k=ps.length∧s.e 5=.c (.int .i64 j)∧s.e 3=.sl (D.vs (d::(ps.take j).flatMap fun p=>prE f p.1)) si∧((j=0∧si=.full)∨(0<j∧∃q,si=.tok q∧s.h[q]?=some (.tok (d::(ps.take j).flatMap fun p=>prE f p.1).length 4))):=⟨_,rfl⟩
  refine aX J ps.length (by omega) (by rw[hJ];exact⟨0,.full,by simp,by simp[au],by simp[au,D.vs],.inl ⟨rfl,rfl⟩⟩) ?_;rintro k ⟨e,h',base,rb⟩ hj he hb2;rw[hJ] at hj;obtain⟨j,si,hj,e5,e3,hsi⟩:=hj;have e4:=he 4 rfl;simp[au,bD] at e4 hb2;simp only at e5 e3 hsi;subst hb2;by_cases hm:j<ps.length;rotate_left
  ·have hlt:¬(j:Int)<ps.length:=by omega
   obtain rfl:j=ps.length:=by omega
   rw[List.take_of_length_le (nL _)] at e3 hsi;have hr:(V.sl (D.vs (d::ps.flatMap fun p=>prE f p.1)) si).vw=.sl (D.vs (d::ps.flatMap fun p=>prE f p.1)) (if ps=[] then .full else .any):=by
    rcases hsi with⟨h1,rfl⟩|⟨h1,q,rfl,_⟩
    ·rw[if_pos (List.length_eq_zero_iff.1 h1)];rfl
    ·rw[if_neg (by rintro rfl;simp at h1)];rfl
   generalize D.vs (d::ps.flatMap fun p=>prE f p.1)=U at *;simp -implicitDefEqProofs [x55l8_w,x55_r,e3,e4,e5,hlt];exact⟨hr,hlow2⟩
  have hlt:(j:Int)<ps.length:=by omega
  have hw:IntKind.i64.wrap ((j:Int)+1)=(j:Int)+1:=aB (by omega);have hvg:(ptV ps)[j]'(by rw[fE];exact hm)=.agg (ptC ps[j]):=pM _;have hmem:=List.getElem_mem hm;have c55x:=c55 _ hmem;have hl1:=hlenE j;have hl2:=hlenP _ hmem;obtain⟨r,hr⟩:=hne _ hmem;have htk:(ps.take (j+1)).flatMap (fun p=>prE f p.1)=(ps.take j).flatMap (fun p=>prE f p.1)++prE f (ps[j]).1:=by
   rw[List.take_add_one,gE hm,List.flatMap_append];simp
  generalize ps[j]=p at *;rw[hr] at c55x hl2 htk;generalize (if prP p.1=[] then SI.full else SI.any)=i2 at *;have hvs:D.vs (d::(ps.take (j+1)).flatMap fun p=>prE f p.1)=D.vs (d::(ps.take j).flatMap fun p=>prE f p.1)++(p.1.v::D.vs r):=by
   rw[htk,← List.cons_append,ai];rfl
  have hle:(d::(ps.take (j+1)).flatMap fun p=>prE f p.1).length=(d::(ps.take j).flatMap fun p=>prE f p.1).length+(r.length+1):=by
   rw[htk];simp;omega
  have z1:=hz (d::(ps.take j).flatMap fun p=>prE f p.1);have z2:=hz (p.1::r);have n1:=hsl (d::(ps.take j).flatMap fun p=>prE f p.1);have n2:=hsl r;have hvc:D.vs (p.1::r)=p.1.v::D.vs r:=rfl;rw[hvc] at c55x z2;generalize hLL:(d::(ps.take j).flatMap fun p=>prE f p.1)=L at *;obtain⟨L2,hL3⟩:∃L2,L2=(d::(ps.take (j+1)).flatMap fun p=>prE f p.1):=⟨_,rfl⟩
  rw[← hL3] at hvs hle;have hL2:D.vs (d::(ps.take (j+1)).flatMap fun p=>prE f p.1)=D.vs L++(p.1.v::D.vs r):=by rw[← hL3];exact hvs
  generalize D.vs L=U at *;have b1:(L.length+(r.length+1))*56≤140737488355328:=by simp only[lC] at hl2;omega
  have b2:L.length+(r.length+1)≤140737488355328:=by omega
  simp -implicitDefEqProofs [x55l8_w,e3,e4,e5,hlt,hm,hvg,c55x,z1,z2,n1,n2,b1,b2];have hzc:zc (some 4)=4:=rfl;rcases hsi with⟨hj0,rfl⟩|⟨hj0,q,rfl,hq⟩
  ·rw[dM 0 h'.length 56 (some 4) _ U (D.vs r) p.1.v (qf ..),ct];simp -implicitDefEqProofs [e5];refine⟨k-1,by omega,?_⟩;rw[hJ];refine⟨j+1,.tok h'.length,by omega,by simp[au,hw],by simp[au,hL2],.inr ⟨by omega,h'.length,rfl,?_⟩⟩;rw[← hL3,hle];simp[hzc,n1,n2]
  ·rw[← n1] at hq;rw[dV 0 h'.length 56 q (some 4) false _ U (D.vs r) p.1.v (bU hq _),ct];have hql:q<h'.length:=(gS.1 hq).1;simp -implicitDefEqProofs [e5];refine⟨k-1,by omega,?_⟩;rw[hJ];refine⟨j+1,.tok q,by omega,by simp[au,hw],by simp[au,hL2],.inr ⟨by omega,q,rfl,?_⟩⟩;rw[← hL3,hle];simp only;rw[sS (by simp;omega)];simp[hzc,n1,n2]
theorem pD {T:List D}(g:D→List D){j:Nat}(h:j<T.length):(T.take (j+1)).flatMap g=(T.take j).flatMap g++g T[j]:=by
 rw[List.take_add_one,gE h,List.flatMap_append];simp
def mxI (m:Int) (v:Int):Int:=if m<v then v else m
def mxF (m:Int) (l:List D):Int:=l.foldl (fun m x=>mxI m (x.nu+1)) m
def rq (m:Int) (x:D):Int:=if wn x.wd=6 then mxI m ((x.kid 1).nu+1) else m
def mxA (m:Int) (l:List D):Int:=l.foldl rq m
def okX (x:D):Prop:=fmW (wn x.wd) x=true
theorem k9 {x:D}(h:okX x) (hw:wn x.wd=6):x.kids.length=2∧0≤(x.kid 1).nu∧(x.kid 1).nu<8:=by
 unfold okX fmW at h;rw[hw] at h;simp[D.sml] at h;exact⟨h.1,h.2.2⟩
theorem vl:∀(f:Nat) (d:D),okE f d→∀x∈prE f d,okX x
 | 0,d,_,x,hx=>by cases hx
 | f+1,d,h,x,hx=>by
  rcases List.mem_cons.1 hx with rfl|hx
  ·exact h.1
  ·obtain⟨p,hp,hx⟩:=List.mem_flatMap.1 hx;exact vl f p.1 (h.2 p hp) x hx
theorem yR (m:Int) (l:List D) (x:D):mxA m (l++[x])=rq (mxA m l) x:=by simp[mxA]
theorem Bb (m:Int) (a b:List D):mxA m (a++b)=mxA (mxA m a) b:=by simp[mxA]
theorem qx (m:Int) (l:List D) (x:D):mxF m (l++[x])=mxI (mxF m l) (x.nu+1):=by simp[mxF]
theorem pg {l:List D}{j:Nat}(h:j<l.length):l.take (j+1)=l.take j++[l[j]]:=by
 rw[List.take_add_one,gE h];rfl
theorem DQ {cf:aw}{n:Nat}{K:List Fr}{Q:Ex→SF→Prop}{s:SF}{l:List D}{i:SI}{a:Int}
  (c56:∀(x:D) h,cf 56 [x.v] h=some (.c (.string x.wd),h)) (hn:l.length<n) (hl:l.length<1000000000) (hok:∀x∈l,okX x)
  (e3:s.e 3=.c (.int .i64 a)) (e6:s.e 6=.sl (D.vs l) i) (e7:s.e 7=.c (.int .i64 0))
  (hq:∀e rb,(∀t,(dU x18l16).contains t=false→e t=s.e t)→e 3=.c (.int .i64 (mxA a l))→dI cf n K Q (.exit 4) ⟨e,s.h,s.base,rb⟩):lpk cf n x18l16 K Q s:=by
 obtain⟨J,hJ⟩:∃J:Nat→SF→Prop,J=fun k s'=>∃j,j+k=l.length∧s'.e 7=.c (.int .i64 j)∧s'.e 3=.c (.int .i64 (mxA a (l.take j)))∧s'.h=s.h:=⟨_,rfl⟩
 refine aX J l.length hn (by rw[hJ];exact⟨0,by simp,by simpa using e7,by simpa[mxA] using e3,rfl⟩) ?_;rintro k ⟨e,h',base,rb⟩ hj he hb2;rw[hJ] at hj;obtain⟨j,hj,f7,f3,hh⟩:=hj;have f6:e 6=_:=(he 6 rfl).trans e6;simp only at f7 f3 hh hb2;subst hh hb2;by_cases hm:j<l.length;rotate_left
 ·have hlt:¬(j:Int)<l.length:=by omega
  obtain rfl:j=l.length:=by omega
  rw[List.take_of_length_le (nL _)] at f3;simp -implicitDefEqProofs [x18l16_w,f6,f7,hlt];refine hq _ _ (fun t ht=>?_) (by simp[au,f3]);have hne:∀k,(dU x18l16).contains k=true→t≠k:=fun k hk e=>by rw[e,hk] at ht;cases ht
  simp only[au,if_neg (hne 45 rfl),if_neg (hne 46 rfl),if_neg (hne 47 rfl),if_neg (hne 48 rfl)];exact he t ht
 have hlt:(j:Int)<l.length:=by omega
 have hw:IntKind.i64.wrap ((j:Int)+1)=(j:Int)+1:=aB (by omega);have hvg:(D.vs l)[j]'(by rw[aa];omega)=(l[j]).v:=ac _;have ht:=pg hm;have hox:=hok _ (List.getElem_mem hm);have c56x:=c56 l[j];generalize l[j]=x at *;have htx:=yR a (l.take j) x;rw[← ht] at htx;generalize mxA a (l.take j)=A at *;unfold rq at htx;by_cases h6:wn x.wd=6
 ·rw[if_pos h6] at htx;obtain⟨o1,o2,o3⟩:=k9 hox h6;have l1:1<x.kids.length:=by omega
  have l1i:(1:Int)<x.kids.length:=by omega
  have v1:((D.vs x.kids)[1]'(by rw[aa];exact l1))=(x.kid 1).v:=ah _;have hw2:IntKind.i64.wrap ((x.kid 1).nu+1)=(x.kid 1).nu+1:=aB (by omega);simp -implicitDefEqProofs [x18l16_w,f6,f7,f3,hlt,hm,hvg,c56x,h6,l1,l1i,v1,hw2];refine⟨k-1,by omega,?_⟩;rw[hJ];refine⟨j+1,by omega,by simp[au,hw],?_,rfl⟩;rw[htx];simp[au,mxI]
 have b6:(wn x.wd==6)=false:=beq_false_of_ne h6;rw[if_neg h6] at htx;simp -implicitDefEqProofs [x18l16_w,f6,f7,f3,hlt,hm,hvg,c56x,b6];refine⟨k-1,by omega,?_⟩;rw[hJ];exact⟨j+1,by omega,by simp[au,hw],by rw[htx];simp[au,f3],rfl⟩
theorem rv {l:List D}{j:Nat}(h:j<l.length):(fg l)[j]'(by rw[gh];exact h)=.c (.int .i64 (l[j]).nu):=by simp[fg]
theorem Im {h:List O}{id:Nat}{F:List D}{s1 s2:SI}{T:List D}(ht:dt h id (fg F) s1 T s2) (hh:aU h){g:D→List D}{is:D→SI}{n:Nat}(c55:∀x∈T,∀h,call X E (n+1) 55 [(x.kid 3).v] h=some (.sl (D.vs (g x)) (is x),h))
  (hg:∀x∈T,(g x).length<n∧(g x).length<1000000000∧∀y∈g x,okX y) (hn:T.length<n) (hl:T.length<1000000000) (hF:F.length<n∧F.length<1000000000) (hFn:∀x∈F,0≤x.nu∧x.nu<8) :
  call X E (n+2) 18 [.ref id 0] h=some (.c (.int .i64 (mxA (mxF 0 F) (T.flatMap g))),h):=by
 have c56:∀(x:D) h,call X E (n+1) 56 [x.v] h=some (.c (.string x.wd),h):=fun x=>Cp x
 refine d6 rfl rfl rfl (by kernel_rfl) ⟨rfl,rfl⟩ (by simp[V.low]) hh ?_;generalize call X E (n+1)=cf at *;have hr2:(V.ref id 0).vw2=.ref id 0:=rfl;have hta0:h[id]?=some (.cells [.sl (fg F) s1,.sl (dfV T) s2]):=ht;have hil:=gh F;simp -implicitDefEqProofs [x18_w];obtain⟨J,hJ⟩:∃J:Nat→SF→Prop,J=fun k s'=>∃j,j+k=F.length∧s'.e 4=.c (.int .i64 j)∧s'.e 3=.c (.int .i64 (mxF 0 (F.take j)))∧s'.h=h:=⟨_,rfl⟩
 refine aX J F.length (by omega) (by rw[hJ];exact⟨0,by simp,by simp[au],by simp[au,mxF],rfl⟩) ?_;rintro k ⟨e,h',base,rb⟩ hj he hb2;rw[hJ] at hj;obtain⟨j,hj,f4,f3,hh'⟩:=hj;have f0:=he 0 rfl;simp[au,bD] at f0 hb2;simp only at f4 f3 hh';subst hh' hb2;by_cases hm:j<F.length
 ·have hlt:(j:Int)<F.length:=by omega
  have hw:IntKind.i64.wrap ((j:Int)+1)=(j:Int)+1:=aB (by omega);have hvg:=rv hm;have ht:=pg hm;have hox:=hFn _ (List.getElem_mem hm);generalize F[j]=x at *;have htx:=qx 0 (F.take j) x;rw[← ht] at htx;generalize mxF 0 (F.take j)=A at *;have hw2:IntKind.i64.wrap (x.nu+1)=x.nu+1:=aB (by omega);simp -implicitDefEqProofs [x18l7_w,f0,f4,f3,hta0,hil,hlt,hm,hvg,hw2];refine⟨k-1,by omega,?_⟩;rw[hJ];refine⟨j+1,by omega,by simp[au,hw],?_,rfl⟩;rw[htx];simp[au,mxI]
 have hlt:¬(j:Int)<F.length:=by omega
 obtain rfl:j=F.length:=by omega
 rw[List.take_of_length_le (nL _)] at f3;simp -implicitDefEqProofs [x18l7_w,f0,f4,f3,hta0,hil,hlt];clear hj he;generalize mxF 0 F=A at *;obtain⟨J2,hJ2⟩:∃J2:Nat→SF→Prop,J2=fun k s'=>∃j,j+k=T.length∧s'.e 5=.c (.int .i64 j)∧s'.e 3=.c (.int .i64 (mxA A ((T.take j).flatMap g)))∧s'.h=h':=⟨_,rfl⟩
 refine aX J2 T.length (by omega) (by rw[hJ2];exact⟨0,by simp,by simp[au],by simp[au,mxA,f3],rfl⟩) ?_;rintro k2 ⟨e2,h2,base2,rb2⟩ hj he hb2;rw[hJ2] at hj;obtain⟨j,hj,g5,g3,hh'⟩:=hj;have g0:=he 0 rfl;simp[au,f0] at g0 hb2;simp only at g5 g3 hh';subst hh' hb2;by_cases hm:j<T.length;rotate_left
 ·have hlt:¬(j:Int)<T.length:=by omega
  obtain rfl:j=T.length:=by omega
  rw[List.take_of_length_le (nL _)] at g3;simp -implicitDefEqProofs [x18l18_w,x18_r,g0,g3,g5,hta0,hlt]
 have hlt:(j:Int)<T.length:=by omega
 have hw:IntKind.i64.wrap ((j:Int)+1)=(j:Int)+1:=aB (by omega);have hvg:=nr hm;have hmem:=List.getElem_mem hm;have c55x:=c55 _ hmem;obtain⟨hg1,hg2,hg3⟩:=hg _ hmem;have hft:=pD g hm;generalize T[j]=x at *;simp -implicitDefEqProofs [x18l18_w,g0,g3,g5,hta0,hlt,hm,hvg,c55x];refine DQ (l:=g x) (i:=is x) (a:=mxA A ((T.take j).flatMap g)) c56 (by omega) (by omega) hg3 (by simp[au,g3]) (by simp[au]) (by simp[au]) ?_;intro e1 rb1 hk k3;have k5:e1 5=.c (.int .i64 j):=by
  have:=hk 5 rfl;simpa[au,g5] using this
 simp -implicitDefEqProofs [k5];refine⟨k2-1,by omega,?_⟩;rw[hJ2];refine⟨j+1,by omega,by simp[au,hw],?_,rfl⟩;rw[hft,Bb];simp[au,k3]
theorem AY (n:Nat) (args:List V) (h:List O):call X E (n+1) 122 args h=lR args h:=rfl
theorem G2 (A B:List D) (hb:A.length+B.length<1000000000){n:Nat}(hn:3<n){i:SI}:∃si,(si=.nil∨si=.any)∧aV (n+2) 61 [.sl [.sl (D.vs A) .any,.sl (D.vs B) .any] i] (.sl (D.vs (A++B)) si):=by
 have c122:∀args h,call X E (n+1) 122 args h=lR args h:=fun args h=>AY n args h
 have hsl:=aa;have hz:=D.hz;have hlA:=D.lows 0 A;have hlB:=D.lows 0 B;have hAB:=ai A B;rw[hAB];refine⟨if A++B=[] then .nil else .any,by split<;>simp,?_⟩;have hi0:i.low 0=true∨i.low 0=false:=by cases i.low 0<;>simp
 refine azz (by simp[V.lows,V.low,SI.low,aD,hlA,hlB]) ?_;generalize call X E (n+1)=cf at *;have hw0:IntKind.i64.wrap ((A.length:Int))=A.length:=aB (by omega);have hw1:IntKind.i64.wrap ((A.length:Int)+B.length)=(A.length:Int)+B.length:=aB (by omega);have n0:¬((A.length:Int)<0):=by omega
 have n1:¬((A.length:Int)+B.length<0):=by omega
 have sA:=hsl A;have sB:=hsl B;simp -implicitDefEqProofs [x61_w];obtain⟨RR,hRR⟩:∃RR:V,RR=.sl (D.vs A++D.vs B) (if A=[]∧B=[] then SI.nil else SI.any):=⟨_,rfl⟩
 have hRl:RR.low 0=true:=by
  rw[hRR];simp only[V.low,gb,hlA,hlB,Bool.true_and];split<;>rfl
 rw[← hRR];obtain⟨J,hJ⟩:∃J:Nat→SF→Prop,J=fun k s=>k≤2∧s.e 11=.c (.int .i64 (2-(k:Int)))∧s.e 3=.c (.int .i64 (if k=2 then 0 else if k=1 then (A.length:Int) else (A.length:Int)+B.length))∧s.h=[]:=⟨_,rfl⟩
 refine aX J 2 (by omega) (by rw[hJ];exact⟨nL _,by simp[au],by simp[au],rfl⟩) ?_;rintro k ⟨e,h',base,rb⟩ hj he hb2;rw[hJ] at hj;obtain⟨hk,f11,f3,hh⟩:=hj;have f0:=he 0 rfl;have f9:=he 9 rfl;have f10:=he 10 rfl;simp[au,bD] at f0 f9 f10 hb2;simp only at f11 f3 hh;subst hh hb2
 match k,hk with
 | 2,_ =>
  have f11':e 11=.c (.int .i64 0):=by simpa using f11
  simp only[if_true] at f3;simp -implicitDefEqProofs [x61l9_w,f0,f9,f10,f11',f3,sA,sB,hw0,n0];refine⟨1,by omega,?_⟩;rw[hJ];exact⟨by omega,by simp[au];rfl,by simp[au],rfl⟩
 | 1,_ =>
  have f11':e 11=.c (.int .i64 1):=by simpa using f11
  simp only[Nat.reduceEqDiff,if_false,if_true] at f3;simp -implicitDefEqProofs [x61l9_w,f0,f9,f10,f11',f3,sA,sB,hw1,n1];rw[hJ];exact⟨by omega,by simp[au];rfl,by simp[au],rfl⟩
 | 0,_ =>
 have f11':e 11=.c (.int .i64 2):=by simpa using f11
 simp only[Nat.reduceEqDiff,if_false] at f3;by_cases hz0:(A.length:Int)+B.length=0
 ·have hA:A=[]:=List.length_eq_zero_iff.1 (by omega);have hB:B=[]:=List.length_eq_zero_iff.1 (by omega);subst hA hB;have hR2:RR=.sl [] .nil:=by rw[hRR];rfl
  rw[hR2] at hRl ⊢;have c0:∀h,cf 122 [.sl [] .nil,.c (.int .i64 0)] h=some (.sl [] .nil,h):=fun h=>by rw[c122];simp[lR]
  simp only[List.length_nil,Int.ofNat_zero,Int.add_zero] at f3;have f3':e 3=.c (.int .i64 0):=by simpa using f3
  simp -implicitDefEqProofs [x61l9_w,f0,f9,f10,f11',f3',c0];obtain⟨J2,hJ2⟩:∃J:Nat→SF→Prop,J=fun k s=>k≤2∧s.e 27=.c (.int .i64 (2-(k:Int)))∧s.e 6=.sl [] .nil:=⟨_,rfl⟩
  refine aX J2 2 (by omega) (by rw[hJ2];exact⟨nL _,by simp[au],by simp[au]⟩) ?_;rintro k2 ⟨e2,h2,base2,rb2⟩ hj he2 hb3;rw[hJ2] at hj;obtain⟨hk2,g27,g6⟩:=hj;have g25:=he2 25 rfl;have g26:=he2 26 rfl;simp[au,f0,D.vs] at g25 g26 hb3;simp only at g27 g6
  match k2,hk2 with
  | 2,_ =>
   have g27':e2 27=.c (.int .i64 0):=by simpa using g27
   simp -implicitDefEqProofs [x61l16_w,g25,g26,g27',g6];refine⟨1,by omega,?_⟩;rw[hJ2];exact⟨by omega,by simp[au];rfl,by simp[au]⟩
  | 1,_ =>
   have g27':e2 27=.c (.int .i64 1):=by simpa using g27
   simp -implicitDefEqProofs [x61l16_w,g25,g26,g27',g6];rw[hJ2];exact⟨by omega,by simp[au];rfl,by simp[au]⟩
  | 0,_ =>
   have g27':e2 27=.c (.int .i64 2):=by simpa using g27
   simp -implicitDefEqProofs [x61l16_w,x61_r,g25,g26,g27',g6];exact hRl
 have hpos:0<(A.length:Int)+B.length:=by omega
 have hRR2:RR=.sl (D.vs A++D.vs B) .any:=by
  rw[hRR,if_neg];rintro⟨rfl,rfl⟩;exact hz0 rfl
 have c0:∀h,cf 122 [.sl [] .nil,.c (.int .i64 ((A.length:Int)+B.length))] h=some (.sl [] (.tok h.length),h++[.tok 0 4]):=fun h=>by
  rw[c122];simp only[lR];rw[if_neg hz0,if_pos ⟨hpos,by omega⟩]
 simp -implicitDefEqProofs [x61l9_w,f0,f9,f10,f11',f3,c0];obtain⟨J2,hJ2⟩:∃J:Nat→SF→Prop,J=fun k s=>k≤2∧s.e 27=.c (.int .i64 (2-(k:Int)))∧∃si,s.e 6=.sl (if k=2 then [] else if k=1 then D.vs A else D.vs A++D.vs B) si∧(∃q,si=.tok q)∧Grows 4 (if k=2 then [] else if k=1 then D.vs A else D.vs A++D.vs B) si s.h:=⟨_,rfl⟩
 have hzA:=hz A;have hzB:=hz B;have b1:A.length*56≤140737488355328:=by omega
 have b2:A.length≤140737488355328:=by omega
 have b3:(A.length+B.length)*56≤140737488355328:=by omega
 have b4:A.length+B.length≤140737488355328:=by omega
 have gtok:∀{us ws:List V}{q al:Nat}{h:List O},Grows 4 us (.tok q) h→∃h',gJ 0 al 56 (some 4) false h us (.tok q) ws=some (.sl (us++ws) (.tok q),h')∧Grows 4 (us++ws) (.tok q) h':=by
  intro us ws q al h hG;rcases hG with⟨_,h1|h1⟩|⟨q',h1,h2⟩
  ·cases h1
  ·cases h1
  ·cases h1;cases ws with
   | nil=>exact⟨h,by rw[dw,List.append_nil],by rw[List.append_nil];exact .inr ⟨q,rfl,h2⟩⟩
   | cons w ws =>
    refine⟨_,dV 0 al 56 q (some 4) false h us ws w h2,.inr ⟨q,rfl,?_⟩⟩;rw[sS (gS.1 h2).1];simp[zc]
 refine aX J2 2 (by omega) (by rw[hJ2];exact⟨nL _,by simp[au],.tok 0,by simp[au],⟨0,rfl⟩,.inr ⟨0,rfl,rfl⟩⟩) ?_;rintro k2 ⟨e2,h2,base2,rb2⟩ hj he2 hb3;rw[hJ2] at hj;obtain⟨hk2,g27,si,g6,⟨q,rfl⟩,hG⟩:=hj;have g25:=he2 25 rfl;have g26:=he2 26 rfl;simp[au,f0] at g25 g26 hb3;simp only at g27 g6 hG;subst hb3
 match k2,hk2 with
 | 2,_ =>
  have g27':e2 27=.c (.int .i64 0):=by simpa using g27
  simp only[if_true] at g6 hG;obtain⟨h3,q1,q2⟩:=gtok (ws:=D.vs A) (al:=h2.length) (hG.app [.dead]);rw[List.nil_append] at q1 q2;simp -implicitDefEqProofs [x61l16_w,g25,g26,g27',g6,sA,hzA,b1,b2,q1];refine⟨1,by omega,?_⟩;rw[hJ2];exact⟨by omega,by simp[au];rfl,.tok q,by simp[au],⟨q,rfl⟩,by simpa using q2⟩
 | 1,_ =>
  have g27':e2 27=.c (.int .i64 1):=by simpa using g27
  simp only[Nat.reduceEqDiff,if_false,if_true] at g6 hG;obtain⟨h3,q1,q2⟩:=gtok (ws:=D.vs B) (al:=h2.length) (hG.app [.dead]);simp -implicitDefEqProofs [x61l16_w,g25,g26,g27',g6,sA,sB,hzA,hzB,b3,b4,q1];rw[hJ2];exact⟨by omega,by simp[au];rfl,.tok q,by simp[au],⟨q,rfl⟩,by simpa using q2⟩
 | 0,_ =>
  have g27':e2 27=.c (.int .i64 2):=by simpa using g27
  simp only[Nat.reduceEqDiff,if_false] at g6;rw[hRR2] at hRl ⊢;simp -implicitDefEqProofs [x61l16_w,x61_r,g25,g26,g27',g6];exact hRl
theorem mw {y:D}(h:okX y):y.wd=(y.kid 0).tx∧1≤y.kids.length:=by
 have h99:wn y.wd≠99:=fun e=>by
  unfold okX fmW at h;rw[e] at h;simp at h
 refine⟨?_,y9 h99⟩;unfold D.wd at h99 ⊢;split
 ·rfl
 ·rename_i hc;rw[if_neg hc] at h99;exact absurd kq h99
def inn (y:D):List D:=(prP y).map fun p=>p.1
theorem en (b:Bool) (l:List D):(l.map (mk3 b)).map (fun p=>p.1)=l:=by
 rw[List.map_map];exact List.map_id' l
theorem CE {y:D}(hok:okX y) (hb:y.sz<100000000){n:Nat}(hn:3<n):∃i,aV (n+3) 101 [y.v] (.sl (D.vs (inn y)) i):=by
 obtain⟨hwd,hl1⟩:=mw hok;unfold okX at hok;have hl0i:(0:Int)<y.kids.length:=by omega
 have hl0:0<y.kids.length:=by omega
 have v0:((D.vs y.kids)[0]'(by rw[aa];exact hl0))=(y.kid 0).v:=ah _;have hlow:=D.lows 0;have hsl:=aa y.kids;have hkl:=aQ y;unfold fmW at hok;by_cases h4:wn y.wd=4
 ·have hT:wn (y.kid 0).tx=4:=by rw[← hwd];exact h4
  rw[h4] at hok;have hI:inn y=[]:=by simp[inn,prP,h4]
  rw[hI];refine⟨.nil,?_⟩;have hlo:=hlow ([]);refine azz (by simp[V.lows]) ?_;generalize call X E (n+2)=cf at *;simp -implicitDefEqProofs [x101_w,x101_r,v0,hl0,hl0i,hT];exact⟨rfl,rfl⟩
 by_cases h5:wn y.wd=5
 ·have hT:wn (y.kid 0).tx=5:=by rw[← hwd];exact h5
  rw[h5] at hok;have hI:inn y=[]:=by simp[inn,prP,h5]
  rw[hI];refine⟨.nil,?_⟩;have hlo:=hlow ([]);refine azz (by simp[V.lows]) ?_;generalize call X E (n+2)=cf at *;simp -implicitDefEqProofs [x101_w,x101_r,v0,hl0,hl0i,hT];exact⟨rfl,rfl⟩
 by_cases h6:wn y.wd=6
 ·have hT:wn (y.kid 0).tx=6:=by rw[← hwd];exact h6
  rw[h6] at hok;have hI:inn y=[]:=by simp[inn,prP,h6]
  rw[hI];refine⟨.nil,?_⟩;have hlo:=hlow ([]);refine azz (by simp[V.lows]) ?_;generalize call X E (n+2)=cf at *;simp -implicitDefEqProofs [x101_w,x101_r,v0,hl0,hl0i,hT];exact⟨rfl,rfl⟩
 by_cases h8:wn y.wd=8
 ·have hT:wn (y.kid 0).tx=8:=by rw[← hwd];exact h8
  rw[h8] at hok;have hI:inn y=[]:=by simp[inn,prP,h8]
  rw[hI];refine⟨.nil,?_⟩;have hlo:=hlow ([]);refine azz (by simp[V.lows]) ?_;generalize call X E (n+2)=cf at *;simp -implicitDefEqProofs [x101_w,x101_r,v0,hl0,hl0i,hT];exact⟨rfl,rfl⟩
 by_cases h2:wn y.wd=2
 ·have hT:wn (y.kid 0).tx=2:=by rw[← hwd];exact h2
  rw[h2] at hok;have hl4:y.kids.length=4:=by
   simp at hok;exact hok.1
  have h2i:(2:Int)≤y.kids.length:=by omega
  have h2l:2≤y.kids.length:=by omega
  have hI:inn y=y.kids.drop 2:=by
   obtain⟨a,b,c,e,hk⟩:=Aq hl4;have k2:y.kid 2=c:=by simp[D.kid,hk]
   have k3:y.kid 3=e:=by simp[D.kid,hk]
   simp[inn,prP,h2,k2,k3,hk]
  rw[hI];refine⟨.any,?_⟩;have hlo:=hlow (y.kids.drop 2);refine azz (by simp[V.lows]) ?_;generalize call X E (n+2)=cf at *;simp -implicitDefEqProofs [x101_w,x101_r,v0,hl0,hl0i,hT,h2i,h2l,hsl];exact⟨D.hz _,by simp[V.low,hlow,SI.low]⟩
 by_cases h12:wn y.wd=12
 ·have hT:wn (y.kid 0).tx=12:=by rw[← hwd];exact h12
  rw[h12] at hok;have hl4:y.kids.length=4:=by
   simp at hok;exact hok.1
  have h2i:(2:Int)≤y.kids.length:=by omega
  have h2l:2≤y.kids.length:=by omega
  have hI:inn y=y.kids.drop 2:=by
   obtain⟨a,b,c,e,hk⟩:=Aq hl4;have k2:y.kid 2=c:=by simp[D.kid,hk]
   have k3:y.kid 3=e:=by simp[D.kid,hk]
   simp[inn,prP,h12,k2,k3,hk]
  rw[hI];refine⟨.any,?_⟩;have hlo:=hlow (y.kids.drop 2);refine azz (by simp[V.lows]) ?_;generalize call X E (n+2)=cf at *;simp -implicitDefEqProofs [x101_w,x101_r,v0,hl0,hl0i,hT,h2i,h2l,hsl];exact⟨D.hz _,by simp[V.low,hlow,SI.low]⟩
 by_cases h13:wn y.wd=13
 ·have hT:wn (y.kid 0).tx=13:=by rw[← hwd];exact h13
  rw[h13] at hok;have hl4:y.kids.length=4:=by
   simp at hok;exact hok.1
  have h2i:(2:Int)≤y.kids.length:=by omega
  have h2l:2≤y.kids.length:=by omega
  have hI:inn y=y.kids.drop 2:=by
   obtain⟨a,b,c,e,hk⟩:=Aq hl4;have k2:y.kid 2=c:=by simp[D.kid,hk]
   have k3:y.kid 3=e:=by simp[D.kid,hk]
   simp[inn,prP,h13,k2,k3,hk]
  rw[hI];refine⟨.any,?_⟩;have hlo:=hlow (y.kids.drop 2);refine azz (by simp[V.lows]) ?_;generalize call X E (n+2)=cf at *;simp -implicitDefEqProofs [x101_w,x101_r,v0,hl0,hl0i,hT,h2i,h2l,hsl];exact⟨D.hz _,by simp[V.low,hlow,SI.low]⟩
 by_cases h7:wn y.wd=7
 ·have hT:wn (y.kid 0).tx=7:=by rw[← hwd];exact h7
  rw[h7] at hok;have h2l:2≤y.kids.length:=by
   simp at hok;exact hok.1
  have h2i:(2:Int)≤y.kids.length:=by omega
  have hI:inn y=y.kids.drop 2:=by
   unfold inn prP;rw[h7];exact en false _
  rw[hI];refine⟨.any,?_⟩;have hlo:=hlow (y.kids.drop 2);refine azz (by simp[V.lows]) ?_;generalize call X E (n+2)=cf at *;simp -implicitDefEqProofs [x101_w,x101_r,v0,hl0,hl0i,hT,h2i,h2l,hsl];exact⟨D.hz _,by simp[V.low,hlow,SI.low]⟩
 by_cases h14:wn y.wd=14
 ·have hT:wn (y.kid 0).tx=14:=by rw[← hwd];exact h14
  rw[h14] at hok;have h2l:2≤y.kids.length:=by
   simp at hok;exact hok.1
  have h2i:(2:Int)≤y.kids.length:=by omega
  have hI:inn y=y.kids.drop 2:=by
   unfold inn prP;rw[h14];exact en true _
  rw[hI];refine⟨.any,?_⟩;have hlo:=hlow (y.kids.drop 2);refine azz (by simp[V.lows]) ?_;generalize call X E (n+2)=cf at *;simp -implicitDefEqProofs [x101_w,x101_r,v0,hl0,hl0i,hT,h2i,h2l,hsl];exact⟨D.hz _,by simp[V.low,hlow,SI.low]⟩
 by_cases h3:wn y.wd=3
 ·have hT:wn (y.kid 0).tx=3:=by rw[← hwd];exact h3
  rw[h3] at hok;have h2l:2≤y.kids.length:=by
   simp at hok;exact hok.1
  have h2i:(2:Int)≤y.kids.length:=by omega
  have hI:inn y=y.kids.drop 2:=by
   unfold inn prP;rw[h3];exact en false _
  rw[hI];refine⟨.any,?_⟩;have hlo:=hlow (y.kids.drop 2);refine azz (by simp[V.lows]) ?_;generalize call X E (n+2)=cf at *;simp -implicitDefEqProofs [x101_w,x101_r,v0,hl0,hl0i,hT,h2i,h2l,hsl];exact⟨D.hz _,by simp[V.low,hlow,SI.low]⟩
 by_cases h9:wn y.wd=9
 ·have hT:wn (y.kid 0).tx=9:=by rw[← hwd];exact h9
  rw[h9] at hok;have h1i:(1:Int)≤y.kids.length:=by omega
  have hI:inn y=y.kids.drop 1:=by
   unfold inn prP;rw[h9];exact en false _
  rw[hI];refine⟨.any,?_⟩;have hlo:=hlow (y.kids.drop 1);refine azz (by simp[V.lows]) ?_;generalize call X E (n+2)=cf at *;simp -implicitDefEqProofs [x101_w,x101_r,v0,hl0,hl0i,hT,h1i,hl1,hsl];exact⟨D.hz _,by simp[V.low,hlow,SI.low]⟩
 by_cases h1:wn y.wd=1
 ·have hT:wn (y.kid 0).tx=1:=by rw[← hwd];exact h1
  rw[h1] at hok;have h1i:(1:Int)≤y.kids.length:=by omega
  have hI:inn y=y.kids.drop 1:=by
   unfold inn prP;rw[h1];exact en false _
  rw[hI];refine⟨.any,?_⟩;have hlo:=hlow (y.kids.drop 1);refine azz (by simp[V.lows]) ?_;generalize call X E (n+2)=cf at *;simp -implicitDefEqProofs [x101_w,x101_r,v0,hl0,hl0i,hT,h1i,hl1,hsl];exact⟨D.hz _,by simp[V.low,hlow,SI.low]⟩
 by_cases h11:wn y.wd=11
 ·have hT:wn (y.kid 0).tx=11:=by rw[← hwd];exact h11
  rw[h11] at hok;have h1i:(1:Int)≤y.kids.length:=by omega
  have hI:inn y=y.kids.drop 1:=by
   unfold inn prP;rw[h11];exact en true _
  rw[hI];refine⟨.any,?_⟩;have hlo:=hlow (y.kids.drop 1);refine azz (by simp[V.lows]) ?_;generalize call X E (n+2)=cf at *;simp -implicitDefEqProofs [x101_w,x101_r,v0,hl0,hl0i,hT,h1i,hl1,hsl];exact⟨D.hz _,by simp[V.low,hlow,SI.low]⟩
 by_cases h10:wn y.wd=10
 ·have hT:wn (y.kid 0).tx=10:=by rw[← hwd];exact h10
  rw[h10] at hok;have h1i:(1:Int)≤y.kids.length:=by omega
  have hI:inn y=y.kids.drop 1:=by
   have hl4:y.kids.length=4:=by simpa using hok
   obtain⟨a,b,c,e,hk⟩:=Aq hl4;simp[inn,prP,h10,hk,mk3]
  rw[hI];refine⟨.any,?_⟩;have hlo:=hlow (y.kids.drop 1);refine azz (by simp[V.lows]) ?_;generalize call X E (n+2)=cf at *;simp -implicitDefEqProofs [x101_w,x101_r,v0,hl0,hl0i,hT,h1i,hl1,hsl];exact⟨D.hz _,by simp[V.low,hlow,SI.low]⟩
 by_cases h15:wn y.wd=15
 ·have hT:wn (y.kid 0).tx=15:=by rw[← hwd];exact h15
  rw[h15] at hok;have hl4:y.kids.length=4:=by
   simp at hok;exact hok.1
  have p2l:2<y.kids.length:=by omega
  have p3l:3<y.kids.length:=by omega
  have p2i:(2:Int)<y.kids.length:=by omega
  have p3i:(3:Int)<y.kids.length:=by omega
  have v2:((D.vs y.kids)[2]'(by rw[aa];exact p2l))=(y.kid 2).v:=ah _;have v3:((D.vs y.kids)[3]'(by rw[aa];exact p3l))=(y.kid 3).v:=ah _;have s2:=aC (aA p2l);have s3:=aC (aA p3l);have k2:=aQ (y.kid 2);have k3:=aQ (y.kid 3);have hI:inn y=(y.kid 2).kids++(y.kid 3).kids:=by
   unfold inn prP;rw[h15];show ((y.kid 2).kids.map (mk3 false)++(y.kid 3).kids.map (mk3 true)).map (fun p=>p.1)=_;rw[List.map_append,en,en]
  rw[hI];have hlo:=hlow ((y.kid 2).kids++(y.kid 3).kids);obtain⟨i2,hi2,c61f⟩:=G2 (y.kid 2).kids (y.kid 3).kids (by omega) (n:=n) hn (i:=.full);refine⟨i2,?_⟩;refine azz (by simp[V.lows]) ?_;have c61f':∀h,call X E (n+2) 61 [.sl [.sl (D.vs (y.kid 2).kids) .any,.sl (D.vs (y.kid 3).kids) .any] .full] h=_:=c61f;generalize call X E (n+2)=cf at *;simp -implicitDefEqProofs [x101_w,x101_r,v0,hl0,hl0i,hT,p2l,p3l,p2i,p3i,v2,v3,hsl,c61f'];rcases hi2 with rfl|rfl
  ·exact⟨rfl,by simp only[V.low,hlo];rfl⟩
  ·exact⟨rfl,by simp only[V.low,hlo];rfl⟩
 exfalso;rw[if_neg (by omega),if_neg (by omega),if_neg (by omega),if_neg (by omega),if_neg (by omega),if_neg (by omega),if_neg (by omega),if_neg (by omega)] at hok;cases hok
end Go.Proofs.YtjhffhmokcogkaaGreatDoor.Ab
