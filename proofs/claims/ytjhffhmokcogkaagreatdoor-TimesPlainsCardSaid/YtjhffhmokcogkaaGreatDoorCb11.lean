/- A part. -/
import Derived.Test.YtjhffhmokcogkaaGreatDoorCb10
import Derived.IntWalk
import Derived.KernelRfl
set_option linter.unusedVariables false
set_option linter.unusedSimpArgs false
set_option linter.defProp false
set_option maxRecDepth 20000
set_option maxHeartbeats 8000000
noncomputable section
namespace Go.Proofs.YtjhffhmokcogkaaGreatDoor.Ab
open Go
def lB (c:Nat):Bool:=(bB 181 c).getD false
def dB (c:Nat):Bool:=(bB 180 c).getD false
theorem GN {n c:Nat}(hn:16≤n) (hc:c<256):call X E n 181 [.c (.int .u8 c)] []=some (.c (.bool (lB c)),[]):=by
 obtain⟨b,h1,h2⟩:=mg hc;rw[up hn (qS h1),lB,h1];rfl
theorem GU {n c:Nat}(hn:16≤n) (hc:c<256):call X E n 163 [.c (.int .u8 c)] []=some (.c (.bool (lB c)),[]):=by
 obtain⟨b,h1,h2⟩:=mg hc;rw[up hn (qS h2),lB,h1];rfl
theorem C5 {n c:Nat}(hn:16≤n) (hc:c<256):call X E n 180 [.c (.int .u8 c)] []=some (.c (.bool (dB c)),[]):=by
 obtain⟨b,h1,h2⟩:=qr hc;rw[up hn (qS h1),dB,h1];rfl
theorem CZ {n c:Nat}(hn:16≤n) (hc:c<256):call X E n 162 [.c (.int .u8 c)] []=some (.c (.bool (dB c)),[]):=by
 obtain⟨b,h1,h2⟩:=qr hc;rw[up hn (qS h2),dB,h1];rfl
def db (s:ByteArray):Bool :=
 s.size==0||decide (40<s.size)||(match s[0]?,s[1]? with
  | some a,some b=>dB a.toNat||(a.toNat==45&&dB b.toNat)
  | some a,none=>dB a.toNat
  | none,_=>false)
theorem Dd {n:Nat}(hn:16≤n) (s:ByteArray):∃tm,aP (call X E n) n x151r2 ⟨[.c (.string s),aE,.c (.bool false)]++List.replicate 40 aE,[],0,0⟩=some (.normal,⟨tm,[],0,0⟩)∧tm.length=43∧tm[0]?=some (.c (.string s))∧tm[31]?=some (.c (.bool (db s))):=by
 rcases Nat.eq_zero_or_pos s.size with h0|h0
 ·refine⟨_,by simp[x151r2,aP,aH,aN,bj,bh,act,aG,bM,ev,dN,fI,h0,List.replicate];rfl,?_⟩;simp[db,h0]
 ·have hz:¬s.size=0:=by omega
  by_cases h40:40<s.size
  ·have h40':(40:Int)<s.size:=by omega
   refine⟨_,by simp[x151r2,aP,aH,aN,bj,bh,act,aG,bM,ev,dN,fI,hz,h40',List.replicate];rfl,?_⟩;simp[db,h40]
  ·have h40':¬(40:Int)<s.size:=by omega
   have e0:s[0]?=some s[0]:=by simp[h0]
   have c0:=C5 (n:=n) hn (UInt8.toNat_lt s[0]);cases hd:dB s[0].toNat with
   | true =>
    rw[hd] at c0;refine⟨_,by simp[x151r2,aP,aH,aN,bj,bh,act,aG,bM,ev,dN,fI,hz,h40',h0,idx,bN,c0,List.replicate];rfl,?_⟩;refine⟨by simp,by simp,?_⟩;simp only[db,e0];cases s[1]?<;>simp[hd]
   | false =>
    rw[hd] at c0;by_cases h45:s[0].toNat=45
    ·have h45':((s[0].toNat:Int)=45):=by omega
     rw[h45'] at c0;by_cases h1:1<s.size
     ·have h1':(1:Int)<s.size:=by omega
      have e1:s[1]?=some s[1]:=by simp[h1]
      have c1:=C5 (n:=n) hn (UInt8.toNat_lt s[1]);cases hd1:dB s[1].toNat with
      | true =>
       rw[hd1] at c1;refine⟨_,by simp[x151r2,aP,aH,aN,bj,bh,act,aG,bM,ev,dN,fI,hz,h40',h0,idx,bN,c0,c1,h45',h1,h1',List.replicate];rfl,?_⟩;refine⟨by simp,by simp,?_⟩;simp[db,e0,e1,hd,hd1,h45]
      | false =>
       rw[hd1] at c1;refine⟨_,by simp[x151r2,aP,aH,aN,bj,bh,act,aG,bM,ev,dN,fI,hz,h40',h0,idx,bN,c0,c1,h45',h1,h1',List.replicate];rfl,?_⟩;refine⟨by simp,by simp,?_⟩;simp[db,e0,e1,hd,hd1,hz,h40]
     ·have h1':¬(1:Int)<s.size:=by omega
      have e1:s[1]?=none:=by simp;omega
      refine⟨_,by simp[x151r2,aP,aH,aN,bj,bh,act,aG,bM,ev,dN,fI,hz,h40',h0,idx,bN,c0,h45',h1',List.replicate];rfl,?_⟩;refine⟨by simp,by simp,?_⟩;simp[db,e0,e1,hd,hz,h40]
    ·have h45':¬((s[0].toNat:Int)=45):=by omega
     refine⟨_,by simp[x151r2,aP,aH,aN,bj,bh,act,aG,bM,ev,dN,fI,hz,h40',h0,idx,bN,c0,h45',List.replicate];rfl,?_⟩;refine⟨by simp,by simp,?_⟩;simp only[db,e0];cases s[1]?<;>simp[hz,h40,h45,hd]
theorem El {n:Nat}(hn:16≤n) (s:ByteArray):∃tm,aP (call X E n) n x125r2 ⟨[.c (.string s),aE,.c (.bool false)]++List.replicate 40 aE,[],0,0⟩=some (.normal,⟨tm,[],0,0⟩)∧tm.length=43∧tm[0]?=some (.c (.string s))∧tm[31]?=some (.c (.bool (db s))):=by
 rcases Nat.eq_zero_or_pos s.size with h0|h0
 ·refine⟨_,by simp[x125r2,aP,aH,aN,bj,bh,act,aG,bM,ev,dN,fI,h0,List.replicate];rfl,?_⟩;simp[db,h0]
 ·have hz:¬s.size=0:=by omega
  have hz':¬(s.size:Int)<1:=by omega
  by_cases h40:40<s.size
  ·have h40':(40:Int)<s.size:=by omega
   refine⟨_,by simp[x125r2,aP,aH,aN,bj,bh,act,aG,bM,ev,dN,fI,hz,hz',h40',List.replicate];rfl,?_⟩;simp[db,h40]
  ·have h40':¬(40:Int)<s.size:=by omega
   have e0:s[0]?=some s[0]:=by simp[h0]
   have c0:=CZ (n:=n) hn (UInt8.toNat_lt s[0]);cases hd:dB s[0].toNat with
   | true =>
    rw[hd] at c0;refine⟨_,by simp[x125r2,aP,aH,aN,bj,bh,act,aG,bM,ev,dN,fI,hz,hz',h40',h0,idx,bN,c0,List.replicate];rfl,?_⟩;refine⟨by simp,by simp,?_⟩;simp only[db,e0];cases s[1]?<;>simp[hd]
   | false =>
    rw[hd] at c0;by_cases h45:s[0].toNat=45
    ·have h45':((s[0].toNat:Int)=45):=by omega
     rw[h45'] at c0;by_cases h1:1<s.size
     ·have h1':(1:Int)<s.size:=by omega
      have e1:s[1]?=some s[1]:=by simp[h1]
      have c1:=CZ (n:=n) hn (UInt8.toNat_lt s[1]);cases hd1:dB s[1].toNat with
      | true =>
       rw[hd1] at c1;refine⟨_,by simp[x125r2,aP,aH,aN,bj,bh,act,aG,bM,ev,dN,fI,hz,hz',h40',h0,idx,bN,c0,c1,h45',h1,h1',List.replicate];rfl,?_⟩;refine⟨by simp,by simp,?_⟩;simp[db,e0,e1,hd,hd1,h45]
      | false =>
       rw[hd1] at c1;refine⟨_,by simp[x125r2,aP,aH,aN,bj,bh,act,aG,bM,ev,dN,fI,hz,hz',h40',h0,idx,bN,c0,c1,h45',h1,h1',List.replicate];rfl,?_⟩;refine⟨by simp,by simp,?_⟩;simp[db,e0,e1,hd,hd1,hz,h40]
     ·have h1':¬(1:Int)<s.size:=by omega
      have e1:s[1]?=none:=by simp;omega
      refine⟨_,by simp[x125r2,aP,aH,aN,bj,bh,act,aG,bM,ev,dN,fI,hz,hz',h40',h0,idx,bN,c0,h45',h1',List.replicate];rfl,?_⟩;refine⟨by simp,by simp,?_⟩;simp[db,e0,e1,hd,hz,h40]
    ·have h45':¬((s[0].toNat:Int)=45):=by omega
     refine⟨_,by simp[x125r2,aP,aH,aN,bj,bh,act,aG,bM,ev,dN,fI,hz,hz',h40',h0,idx,bN,c0,h45',List.replicate];rfl,?_⟩;refine⟨by simp,by simp,?_⟩;simp only[db,e0];cases s[1]?<;>simp[hz,h40,h45,hd]
structure S23 (s:ByteArray) (i:Nat) (tm:List V):Prop where
 len:tm.length=43
 t0:tm[0]?=some (.c (.string s))
 t33:tm[33]?=some (.c (.int .i64 s.size))
 t34:tm[34]?=some (.c (.int .i64 i))
theorem za {n:Nat}(hn:16≤n){s:ByteArray}{i:Nat}{tm:List V}(T:S23 s i tm) (hs:s.size≤40) :
  ∃tm',aP (call X E n) n x151l10 ⟨tm,[],0,0⟩=some (if h:i<s.size then (if lB s[i].toNat then .normal else .ret) else .exit 0,⟨tm',[],0,0⟩)∧tm'.length=43 ∧
   (∀h:i<s.size,lB s[i].toNat=true→S23 s (i+1) tm')∧(∀h:i<s.size,lB s[i].toNat=false→tm'[2]?=some (.c (.bool false))):=by
 have l:=T.len;have g0:tm[0]'(by omega)=.c (.string s):=(gS.1 T.t0).2;have g33:tm[33]'(by omega)=.c (.int .i64 s.size):=(gS.1 T.t33).2;have g34:tm[34]'(by omega)=.c (.int .i64 i):=(gS.1 T.t34).2;by_cases h:i<s.size
 ·have hi:(i:Int)<s.size:=by omega
  have c0:=GN (n:=n) hn (UInt8.toNat_lt s[i]);have hw:IntKind.i64.wrap ((i:Int)+1)=(i:Int)+1:=by
   simp only[IntKind.wrap,IntKind.signed,IntKind.bits];simp;omega
  cases hl:lB s[i].toNat with
  | true =>
   rw[hl] at c0;refine⟨_,by simp[x151l10,x151r5,x151r6,x151r7,x151r8,x151r9,aP,aH,aN,bj,bh,act,aG,bM,ev,dN,fI,l,g0,g33,g34,hi,h,hl,idx,bN,c0,hw];rfl,by simp[l],fun _ _=>⟨by simp[l],by simp[l,g0],by simp[l,g33],by simp[l]⟩,fun h' e=>by rw[hl] at e;cases e⟩
  | false =>
   rw[hl] at c0;refine⟨_,by simp[x151l10,x151r5,x151r6,x151r7,x151r8,x151r9,aP,aH,aN,bj,bh,act,aG,bM,ev,dN,fI,l,g0,g33,g34,hi,h,hl,idx,bN,c0,hw];rfl,by simp[l],(fun h' e=>by rw[hl] at e;cases e),fun _ _=>by simp[l]⟩
 ·have hi:¬(i:Int)<s.size:=by omega
  refine⟨_,by simp[x151l10,x151r5,aP,aH,aN,bj,bh,act,aG,bM,ev,dN,fI,l,g33,g34,hi,h];rfl,by simp[l],fun h'=>absurd h' h,fun h'=>absurd h' h⟩
def l9 (s:ByteArray):Nat→Nat→Bool
 | 0,_=>true
 | r+1,i=>(match s[i]? with
  | some c=>lB c.toNat
  | none=>true)&&l9 s r (i+1)
theorem zR {n:Nat}(hn:16≤n){s:ByteArray}(hs:s.size≤40):∀(r i m:Nat) (tm:List V),i+r=s.size→r<m→S23 s i tm →
  ∃tm',io (aP (call X E n) n x151l10) m ⟨tm,[],0,0⟩=some (if l9 s r i then .exit 0 else .ret,⟨tm',[],0,0⟩)∧tm'.length=43∧(l9 s r i=false→tm'[2]?=some (.c (.bool false)))
 | 0,i,m+1,tm,hi,_,T=>by
  obtain⟨tm',h1,h2,_⟩:=za hn T hs;have h:¬i<s.size:=by omega
  rw[dif_neg h] at h1;exact⟨tm',by simp only[io,h1,l9,if_true],h2,fun e=>by simp[l9] at e⟩
 | r+1,i,m+1,tm,hi,hm,T=>by
  obtain⟨tm',h1,h2,h3,h4⟩:=za hn T hs;have h:i<s.size:=by omega
  have e0:s[i]?=some s[i]:=by simp[h]
  rw[dif_pos h] at h1;cases hl:lB s[i].toNat with
  | true =>
   rw[hl,if_pos rfl] at h1;obtain⟨tm2,k1,k2,k3⟩:=zR hn hs r (i+1) m tm' (by omega) (by omega) (h3 h hl);refine⟨tm2,?_,k2,fun e=>k3 (by simpa[l9,e0,hl] using e)⟩;simp only[io,h1,k1,l9,e0,hl,Bool.true_and]
  | false =>
   rw[hl] at h1;refine⟨tm',?_,h2,fun _=>h4 h hl⟩;simp[io,h1,l9,e0,hl]
structure S24 (s:ByteArray) (i:Nat) (tm:List V):Prop where
 len:tm.length=43
 t0:tm[0]?=some (.c (.string s))
 t3:tm[3]?=some (.c (.int .i64 i))
theorem zP {n:Nat}(hn:16≤n){s:ByteArray}{i:Nat}{tm:List V}(T:S24 s i tm) (hs:s.size≤40) :
  ∃tm',aP (call X E n) n x125l9 ⟨tm,[],0,0⟩=some (if h:i<s.size then (if lB s[i].toNat then .normal else .ret) else .exit 0,⟨tm',[],0,0⟩)∧tm'.length=43 ∧
   (∀h:i<s.size,lB s[i].toNat=true→S24 s (i+1) tm')∧(∀h:i<s.size,lB s[i].toNat=false→tm'[2]?=some (.c (.bool false))):=by
 have l:=T.len;have g0:tm[0]'(by omega)=.c (.string s):=(gS.1 T.t0).2;have g3:tm[3]'(by omega)=.c (.int .i64 i):=(gS.1 T.t3).2;by_cases h:i<s.size
 ·have hi:(i:Int)<s.size:=by omega
  have c0:=GU (n:=n) hn (UInt8.toNat_lt s[i]);have hw:IntKind.i64.wrap ((i:Int)+1)=(i:Int)+1:=by
   simp only[IntKind.wrap,IntKind.signed,IntKind.bits];simp;omega
  cases hl:lB s[i].toNat with
  | true =>
   rw[hl] at c0;refine⟨_,by simp[x125l9,x125r5,x125r6,x125r7,x125r8,aP,aH,aN,bj,bh,act,aG,bM,ev,dN,fI,l,g0,g3,hi,h,hl,idx,bN,c0,hw];rfl,by simp[l],fun _ _=>⟨by simp[l],by simp[l,g0],by simp[l]⟩,fun h' e=>by rw[hl] at e;cases e⟩
  | false =>
   rw[hl] at c0;refine⟨_,by simp[x125l9,x125r5,x125r6,x125r7,x125r8,aP,aH,aN,bj,bh,act,aG,bM,ev,dN,fI,l,g0,g3,hi,h,hl,idx,bN,c0,hw];rfl,by simp[l],(fun h' e=>by rw[hl] at e;cases e),fun _ _=>by simp[l]⟩
 ·have hi:¬(i:Int)<s.size:=by omega
  refine⟨_,by simp[x125l9,x125r5,aP,aH,aN,bj,bh,act,aG,bM,ev,dN,fI,l,g0,g3,hi,h];rfl,by simp[l],fun h'=>absurd h' h,fun h'=>absurd h' h⟩
theorem zj {n:Nat}(hn:16≤n){s:ByteArray}(hs:s.size≤40):∀(r i m:Nat) (tm:List V),i+r=s.size→r<m→S24 s i tm →
  ∃tm',io (aP (call X E n) n x125l9) m ⟨tm,[],0,0⟩=some (if l9 s r i then .exit 0 else .ret,⟨tm',[],0,0⟩)∧tm'.length=43∧(l9 s r i=false→tm'[2]?=some (.c (.bool false)))
 | 0,i,m+1,tm,hi,_,T=>by
  obtain⟨tm',h1,h2,_⟩:=zP hn T hs;have h:¬i<s.size:=by omega
  rw[dif_neg h] at h1;exact⟨tm',by simp only[io,h1,l9,if_true],h2,fun e=>by simp[l9] at e⟩
 | r+1,i,m+1,tm,hi,hm,T=>by
  obtain⟨tm',h1,h2,h3,h4⟩:=zP hn T hs;have h:i<s.size:=by omega
  have e0:s[i]?=some s[i]:=by simp[h]
  rw[dif_pos h] at h1;cases hl:lB s[i].toNat with
  | true =>
   rw[hl,if_pos rfl] at h1;obtain⟨tm2,k1,k2,k3⟩:=zj hn hs r (i+1) m tm' (by omega) (by omega) (h3 h hl);refine⟨tm2,?_,k2,fun e=>k3 (by simpa[l9,e0,hl] using e)⟩;simp only[io,h1,k1,l9,e0,hl,Bool.true_and]
  | false =>
   rw[hl] at h1;refine⟨tm',?_,h2,fun _=>h4 h hl⟩;simp[io,h1,l9,e0,hl]
def ei (s:ByteArray):Bool := !db s&&l9 s s.size 0
theorem mW {s:ByteArray}(h:db s=false):s.size≤40:=by
 unfold db at h;simp only[Bool.or_eq_false_iff,decide_eq_false_iff_not] at h;omega
theorem ER {n:Nat}(hn:60≤n) (s:ByteArray):call X E (n+1) 151 [.c (.string s)] []=some (.c (.bool (ei s)),[]):=by
 have hE:E 151=none:=rfl;have hX:X 151=some x151:=rfl;obtain⟨tm,h1,h2,h3,h4⟩:=Dd (n:=n) (by omega) s;have g31:tm[31]'(by omega)=.c (.bool (db s)):=(gS.1 h4).2;have g0:tm[0]'(by omega)=.c (.string s):=(gS.1 h3).2;have hr1:aP (call X E n) n x151r1 (cU x151 [.c (.string s)] [])=some (.normal,⟨[.c (.string s),aE,.c (.bool false)]++List.replicate 40 aE,[],0,0⟩):=by
  simp[x151r1,x151,cU,aP,aH,aN,bj,bh,act,aG,bM,ev,List.replicate]
 generalize (⟨[.c (.string s),aE,.c (.bool false)]++List.replicate 40 aE,[],0,0⟩:St)=st0 at h1 hr1;have hbody:∃st e,aP (call X E n) n x151.body (cU x151 [.c (.string s)] [])=some (e,st)∧(e=.ret)∧st.tm[2]?=some (.c (.bool (ei s)))∧st.base=0∧st.h=[]:=by
  cases hh:db s with
  | true =>
   rw[hh] at g31;refine⟨⟨tm.set 2 (.c (.bool false)),[],0,0⟩,.ret,?_,rfl,by simp[h2,ei,hh],rfl,rfl⟩;show aP (call X E n) n (.seq x151r1 _) _=_;rw[aP,hr1];simp[aP,h1,ev,h2,g31,x151r3,aH,aN,bj,bh,act,aG,bM]
  | false =>
   rw[hh] at g31;have hsz:=mW hh;have hT:S23 s 0 (((tm.set 32 (.c (.string s))).set 33 (.c (.int .i64 s.size))).set 34 (.c (.int .i64 0))):=⟨by simp[h2],by simp[h2,g0],by simp[h2],by simp[h2]⟩
   have hr4:aP (call X E n) n x151r4 ⟨tm,[],0,0⟩=some (.normal,⟨((tm.set 32 (.c (.string s))).set 33 (.c (.int .i64 s.size))).set 34 (.c (.int .i64 0)),[],0,0⟩):=by
    simp[x151r4,aP,aH,aN,bj,bh,act,aG,bM,ev,h2,g0]
   obtain⟨tm2,k1,k2,k3⟩:=zR (n:=n) (by omega) hsz s.size 0 n _ (by omega) (by omega) hT;cases ha:l9 s s.size 0 with
   | true =>
    rw[ha] at k1;refine⟨⟨tm2.set 2 (.c (.bool true)),[],0,0⟩,.ret,?_,rfl,by simp[k2,ei,hh,ha],rfl,rfl⟩;show aP (call X E n) n (.seq x151r1 _) _=_;rw[aP,hr1];simp[aP,h1,ev,h2,g31,hr4,k1,x151r11,aH,aN,bj,bh,act,aG,bM]
   | false =>
    rw[ha] at k1;refine⟨⟨tm2,[],0,0⟩,.ret,?_,rfl,by rw[k3 ha];simp[ei,ha],rfl,rfl⟩;show aP (call X E n) n (.seq x151r1 _) _=_;rw[aP,hr1];simp[aP,h1,ev,h2,g31,hr4,k1]
 obtain⟨st,e,hb1,rfl,hb2,hb3,hb4⟩:=hbody;have hres:x151.res=[.t 2]:=rfl;simp only[call,hE,hX,show x151.asg=none from rfl,ic,show x151.pure=true from rfl,show x151.esc=false from rfl,if_true,List.map_cons,List.map_nil,V.vw2,V.vw1,V.lows,V.low,Bool.and_self,Bool.false_eq_true,if_false,hb1,hres];simp[fin,cJ,yb,hb2,hb3,hb4,bG,V.vw,V.vw2,V.vw1,V.low]
theorem En {n:Nat}(hn:60≤n) (s:ByteArray):call X E (n+1) 125 [.c (.string s)] []=some (.c (.bool (ei s)),[]):=by
 have hE:E 125=none:=rfl;have hX:X 125=some x125:=rfl;obtain⟨tm,h1,h2,h3,h4⟩:=El (n:=n) (by omega) s;have g31:tm[31]'(by omega)=.c (.bool (db s)):=(gS.1 h4).2;have g0:tm[0]'(by omega)=.c (.string s):=(gS.1 h3).2;have hr1:aP (call X E n) n x125r1 (cU x125 [.c (.string s)] [])=some (.normal,⟨[.c (.string s),aE,.c (.bool false)]++List.replicate 40 aE,[],0,0⟩):=by
  simp[x125r1,x125,cU,aP,aH,aN,bj,bh,act,aG,bM,ev,List.replicate]
 generalize (⟨[.c (.string s),aE,.c (.bool false)]++List.replicate 40 aE,[],0,0⟩:St)=st0 at h1 hr1;have hbody:∃st e,aP (call X E n) n x125.body (cU x125 [.c (.string s)] [])=some (e,st)∧(e=.ret)∧st.tm[2]?=some (.c (.bool (ei s)))∧st.base=0∧st.h=[]:=by
  cases hh:db s with
  | true =>
   rw[hh] at g31;refine⟨⟨tm.set 2 (.c (.bool false)),[],0,0⟩,.ret,?_,rfl,by simp[h2,ei,hh],rfl,rfl⟩;show aP (call X E n) n (.seq x125r1 _) _=_;rw[aP,hr1];simp[aP,h1,ev,h2,g31,x125r3,aH,aN,bj,bh,act,aG,bM]
  | false =>
   rw[hh] at g31;have hsz:=mW hh;have hT:S24 s 0 (tm.set 3 (.c (.int .i64 0))):=⟨by simp[h2],by simp[h2,g0],by simp[h2]⟩
   have hr4:aP (call X E n) n x125r4 ⟨tm,[],0,0⟩=some (.normal,⟨tm.set 3 (.c (.int .i64 0)),[],0,0⟩):=by
    simp[x125r4,aP,aH,aN,bj,bh,act,aG,bM,ev,h2,g0]
   obtain⟨tm2,k1,k2,k3⟩:=zj (n:=n) (by omega) hsz s.size 0 n _ (by omega) (by omega) hT;cases ha:l9 s s.size 0 with
   | true =>
    rw[ha] at k1;refine⟨⟨tm2.set 2 (.c (.bool true)),[],0,0⟩,.ret,?_,rfl,by simp[k2,ei,hh,ha],rfl,rfl⟩;show aP (call X E n) n (.seq x125r1 _) _=_;rw[aP,hr1];simp[aP,h1,ev,h2,g31,hr4,k1,x125r10,aH,aN,bj,bh,act,aG,bM]
   | false =>
    rw[ha] at k1;refine⟨⟨tm2,[],0,0⟩,.ret,?_,rfl,by rw[k3 ha];simp[ei,ha],rfl,rfl⟩;show aP (call X E n) n (.seq x125r1 _) _=_;rw[aP,hr1];simp[aP,h1,ev,h2,g31,hr4,k1]
 obtain⟨st,e,hb1,rfl,hb2,hb3,hb4⟩:=hbody;have hres:x125.res=[.t 2]:=rfl;simp only[call,hE,hX,show x125.asg=none from rfl,ic,show x125.pure=true from rfl,show x125.esc=false from rfl,if_true,List.map_cons,List.map_nil,V.vw2,V.vw1,V.lows,V.low,Bool.and_self,Bool.false_eq_true,if_false,hb1,hres];simp[fin,cJ,yb,hb2,hb3,hb4,bG,V.vw,V.vw2,V.vw1,V.low]
inductive D where
 | mk (k n:Int) (t:ByteArray) (l:List D)
mutual
def D.v:D→V
 | .mk k n t l=>.agg [.c (.int .i64 k),.c (.int .i64 n),.c (.string t),.sl (D.vs l) .any]
def D.vs:List D→List V
 | []=>[]
 | d::l=>d.v::D.vs l
end
mutual
def D.sz:D→Nat
 | .mk _ _ _ l=>1+D.szs l
def D.szs:List D→Nat
 | []=>0
 | d::l=>d.sz+D.szs l
end
mutual
def D.dp:D→Nat
 | .mk _ _ _ l=>D.dps l+1
def D.dps:List D→Nat
 | []=>0
 | d::l=>max d.dp (D.dps l)
end
def D.kids:D→List D
 | .mk _ _ _ l=>l
theorem D.ind {P:D→Prop}(h:∀k n t l,(∀x∈l,P x)→P (.mk k n t l)):∀d,P d:=by
 have key:∀m d,d.sz≤m→P d:=by
  intro m
  induction m with
  | zero=>intro d hd;cases d;simp only[D.sz] at hd;omega
  | succ m ih =>
   intro d hd;obtain⟨k,n,t,l⟩:=d;refine h k n t l fun x hx=>ih x ?_
   have:∀l:List D,x∈l→x.sz≤D.szs l:=by
    intro l
    induction l with
    | nil=>intro h;simp at h
    | cons y l ihl =>
     intro hx;simp only[D.szs];rcases List.mem_cons.1 hx with rfl|hx
     ·omega
     ·have:=ihl hx;omega
   have:=this l hx;simp only[D.sz] at hd;omega
 exact fun d=>key _ d (nL _)
theorem aq:∀l:List D,D.vs l=l.map D.v
 | []=>rfl
 | d::l=>by simp only[D.vs,List.map_cons,aq l]
theorem aa (l:List D):(D.vs l).length=l.length:=by simp[aq]
theorem D.vs_get {l:List D}{j:Nat}(h:j<l.length):(D.vs l)[j]?=some (l[j]).v:=by simp[aq,h]
theorem ab (d:D):d.v.cells.length=4:=by obtain⟨k,n,t,l⟩:=d;rfl
theorem D.rd (d:D):rdV d.v.cells 0 (some 4)=some d.v:=by obtain⟨k,n,t,l⟩:=d;rfl
theorem D.vw2 (d:D):d.v.vw2=d.v:=by obtain⟨k,n,t,l⟩:=d;rfl
theorem D.vw (d:D):d.v.vw=d.v:=by obtain⟨k,n,t,l⟩:=d;rfl
theorem D.low (m:Nat):∀d:D,d.v.low m=true:=by
 refine D.ind fun k n t l ih=>?_
 have:V.lows m (D.vs l)=true:=by
  rw[aq];refine cq fun v hv=>?_
  obtain⟨d,hd,rfl⟩:=List.mem_map.1 hv;exact ih d hd
 simp[D.v,V.low,V.lows,this,SI.low]
theorem D.lows (m:Nat) (l:List D):V.lows m (D.vs l)=true:=by
 rw[aq];refine cq fun v hv=>?_
 obtain⟨d,hd,rfl⟩:=List.mem_map.1 hv;exact D.low m d
theorem ak {l:List D}{x:D}(h:x∈l):x.sz≤D.szs l:=by
 induction l with
 | nil=>simp at h
 | cons y l ih =>
  simp only[D.szs];rcases List.mem_cons.1 h with rfl|h
  ·omega
  ·have:=ih h;omega
theorem ao (d:D):1≤d.sz:=by cases d;simp only[D.sz];omega
theorem aj:∀l:List D,l.length≤D.szs l
 | []=>nL _
 | d::l=>by have:=ao d;have:=aj l;simp only[D.szs,lC];omega
theorem D.szs_take (l:List D) (j:Nat) (h:j<l.length):D.szs (l.take (j+1))=D.szs (l.take j)+(l[j]).sz:=by
 induction l generalizing j with
 | nil=>simp at h
 | cons d l ih =>
  cases j with
  | zero=>simp[D.szs]
  | succ j =>
   simp only[List.take_succ_cons,D.szs,List.getElem_cons_succ];rw[ih j (by simpa using h)];omega
theorem D.szs_take_le (l:List D) (j:Nat):D.szs (l.take j)≤D.szs l:=by
 induction l generalizing j with
 | nil=>simp
 | cons d l ih =>
  cases j with
  | zero=>simp[D.szs]
  | succ j=>simp only[List.take_succ_cons,D.szs];have:=ih j;omega
theorem ac {l:List D}{j:Nat}(h:j<(D.vs l).length):(D.vs l)[j]=(l[j]'(by rwa [aa] at h)).v:=by
 have:=D.vs_get (l:=l) (j:=j) (by rwa [aa] at h);rw[gE h] at this;simpa using this
theorem D.okc (d:D):Ab.okc d.v=true:=by obtain⟨k,n,t,l⟩:=d;rfl
theorem ae (a b c e:V) (d:D):bg [a,b,c,e] 0 d.v.cells=d.v.cells:=by obtain⟨k,n,t,l⟩:=d;rfl
theorem aB {a:Int}(h : -9223372036854775808≤a∧a≤9223372036854775807):IntKind.i64.wrap a=a:=by
 rw[IntWalk.i64_left];exact IntWalk.wrap64_in a h
def aV (n f:Nat) (args:List V) (r:V):Prop:=∀h:List O,call X E n f args h=some (r,h)
theorem az {n f k:Nat}{xf:XF}{args:List V}{r:V}(hE:E f=none) (hX:X f=some xf) (hk:args.length=k) (hx:tA xf k=true) (hp:xf.pure=true∧xf.esc=false) (hl:V.lows 0 (args.map V.vw2)=true)
  (hw:wpk (call X E n) n xf.body [] (Fin (fun vs _=>(bG vs).vw=r∧r.low 0=true) xf) ⟨bD (args.map V.vw2),[],0,0⟩) (ha:xf.asg=none:=by rfl):aV (n+1) f args r:=by
 intro h;simp only[call,hE,hX,ha];subst hk;exact vR hx hp.1 hp.2 hl hw
theorem azz {n f k:Nat}{xf:XF}{args:List V}{r:V}(hl:V.lows 0 (args.map V.vw2)=true) (hw:wpk (call X E n) n xf.body [] (Fin (fun vs _=>(bG vs).vw=r∧r.low 0=true) xf) ⟨bD (args.map V.vw2),[],0,0⟩) (hE:E f=none:=by rfl) (hX:X f=some xf:=by rfl) (hk:args.length=k:=by rfl) (hx:tA xf k=true:=by kernel_rfl) (hp:xf.pure=true∧xf.esc=false:=by exact ⟨rfl,rfl⟩) (ha:xf.asg=none:=by rfl):aV (n+1) f args r:=az hE hX hk hx hp hl hw ha
theorem cG {n f:Nat}{args:List V}{r:V}{h0:List O}(hf:pfl f=1) (h:call X E n f args []=some (r,h0)):aV n f args r:=by
 intro hh;have:=((og zq laid sU CK mixed n).2 f args [] r h0 h).1 hf;exact this.2 hh (fun id o _ e=>by simp at e)
structure I18 (l:List D) (k n:Int) (t:ByteArray) (m:Nat) (s:SF):Prop where
 j:∃j:Nat,j+m=l.length∧s.e 4=.c (.int .i64 j)∧s.e 3=.c (.int .i64 (1+D.szs (l.take j):Nat))
 e1:s.e 1=.ref 0 0
 h:s.h=[.cells [.c (.int .i64 k),.c (.int .i64 n),.c (.string t),.sl (D.vs l) .any]]
 b:s.base=0
theorem EG {cf:aw}{fu:Nat}{l:List D}{k n:Int}{t:ByteArray}(hl:D.szs l<4611686018427387904) (hc:∀x∈l,∀h,cf 71 [x.v] h=some (.c (.int .i64 x.sz),h)){Q:Ex→SF→Prop}
  (hQ:∀s,s.e 3=.c (.int .i64 (1+D.szs l:Nat))→s.base=0→s.h=[.cells [.c (.int .i64 k),.c (.int .i64 n),.c (.string t),.sl (D.vs l) .any]]→Q (.exit 0) s) (m:Nat) (s:SF) (I:I18 l k n t m s) :
  wpk cf fu x71l7 [] (fun e s'=>match e with|.normal=>∃k',k'<m∧I18 l k n t k' s'|e=>Q e s') s:=by
 obtain⟨⟨j,hj,e4,e3⟩,e1,hh,hb⟩:=I;obtain⟨e,h,base,rb⟩:=s;simp only at e4 e3 e1 hh hb;subst hh hb;have hlen:=aj l;by_cases hm:j<l.length
 ·have hlt:(j:Int)<l.length:=by omega
  have hg:=D.vs_get hm;have hx:=hc _ (List.getElem_mem hm);have hs:=D.szs_take l j hm;have hs2:=D.szs_take_le l (j+1);simp -implicitDefEqProofs [x71l7_w,e1,e3,e4,aa,hlt,hm,ac,ab,D.rd,hx];refine⟨m-1,by omega,⟨⟨j+1,by omega,?_,?_⟩,?_,rfl,rfl⟩⟩
  ·simp only[au,e4];simp;rw[aB (by omega)]
  ·simp only[au,e3];simp;rw[aB (by omega),hs];omega
  ·simp[au,e1]
 ·have hlt:¬(j:Int)<l.length:=by omega
  have hj2:j=l.length:=by omega
  simp -implicitDefEqProofs [x71l7_w,e1,e3,e4,aa,hlt];refine hQ _ ?_ rfl rfl;simp only[au,e3,hj2,List.take_length];simp
theorem F1:∀d:D,d.sz<4611686018427387904→∀n,2*d.sz+2≤n→aV n 71 [d.v] (.c (.int .i64 d.sz)):=by
 refine D.ind fun k n t l ih hs m hm=>?_
 simp only[D.sz] at hs hm;obtain⟨m,rfl⟩:∃m',m=m'+1:=⟨m-1,by omega⟩
 have hlen:=aj l;refine azz (by simp[D.vw2,V.lows,D.low]) ?_;simp -implicitDefEqProofs [x71_w,x71_r,D.vw2,D.v];refine ja (I18 l k n t) l.length (by omega) ⟨⟨0,by simp,?_,?_⟩,?_,rfl,rfl⟩ ?_
 ·simp[au]
 ·simp[au,D.szs]
 ·simp[au]
 ·refine EG (by omega) (fun x hx h=>ih x hx (by have:=ak hx;omega) m (by have:=ak hx;omega) h) fun s h3 hb hh=>?_
  obtain⟨e,h,base,rb⟩:=s;simp only at h3 hb hh;subst hb hh;simp -implicitDefEqProofs [x71_r,h3,D.sz]
theorem D.dps_take (l:List D) (j:Nat) (h:j<l.length):D.dps (l.take (j+1))=max (D.dps (l.take j)) (l[j]).dp:=by
 induction l generalizing j with
 | nil=>simp at h
 | cons d l ih =>
  cases j with
  | zero=>simp[D.dps]
  | succ j =>
   simp only[List.take_succ_cons,D.dps,List.getElem_cons_succ];rw[ih j (by simpa using h)];omega
theorem D.dps_le:∀l:List D,(∀x∈l,x.dp≤x.sz)→D.dps l≤D.szs l
 | [],_=>nL _
 | d::l,h=>by
  have h1:=h d (by simp);have h2:=D.dps_le l (fun x hx=>h x (by simp[hx]));simp only[D.dps,D.szs];omega
theorem D.dp_le:∀d:D,d.dp≤d.sz:=by
 refine D.ind fun k n t l ih=>?_
 have:=D.dps_le l ih;simp only[D.dp,D.sz];omega
theorem D.dps_le' (l:List D):D.dps l≤D.szs l:=D.dps_le l fun x _=>D.dp_le x
structure I20 (l:List D) (k n:Int) (t:ByteArray) (m:Nat) (s:SF):Prop where
 j:∃j:Nat,j+m=l.length∧s.e 4=.c (.int .i64 j)∧s.e 3=.c (.int .i64 (D.dps (l.take j)))
 e1:s.e 1=.ref 0 0
 h:s.h=[.cells [.c (.int .i64 k),.c (.int .i64 n),.c (.string t),.sl (D.vs l) .any]]
 b:s.base=0
theorem Du {cf:aw}{fu:Nat}{l:List D}{k n:Int}{t:ByteArray}(hl:D.szs l<4611686018427387904) (hc:∀x∈l,∀h,cf 72 [x.v] h=some (.c (.int .i64 x.dp),h)){Q:Ex→SF→Prop}
  (hQ:∀s,s.e 3=.c (.int .i64 (D.dps l))→s.base=0→s.h=[.cells [.c (.int .i64 k),.c (.int .i64 n),.c (.string t),.sl (D.vs l) .any]]→Q (.exit 0) s) (m:Nat) (s:SF) (I:I20 l k n t m s) :
  wpk cf fu x72l7 [] (fun e s'=>match e with|.normal=>∃k',k'<m∧I20 l k n t k' s'|e=>Q e s') s:=by
 obtain⟨⟨j,hj,e4,e3⟩,e1,hh,hb⟩:=I;obtain⟨e,h,base,rb⟩:=s;simp only at e4 e3 e1 hh hb;subst hh hb;have hlen:=aj l;by_cases hm:j<l.length
 ·have hlt:(j:Int)<l.length:=by omega
  have hx:=hc _ (List.getElem_mem hm);have hs:=D.dps_take l j hm;simp -implicitDefEqProofs [x72l7_w,e1,e3,e4,aa,hlt,hm,ac,ab,D.rd,hx];refine⟨m-1,by omega,⟨⟨j+1,by omega,?_,?_⟩,?_,rfl,rfl⟩⟩
  ·simp only[au,e4];simp;rw[aB (by omega)]
  ·simp only[au,e3];simp;rw[hs];split<;>omega
  ·simp[au,e1]
 ·have hlt:¬(j:Int)<l.length:=by omega
  have hj2:j=l.length:=by omega
  simp -implicitDefEqProofs [x72l7_w,e1,e3,e4,aa,hlt];refine hQ _ ?_ rfl rfl;simp only[au,e3,hj2,List.take_length];simp
theorem Fl:∀d:D,d.sz<4611686018427387904→∀n,2*d.sz+2≤n→aV n 72 [d.v] (.c (.int .i64 d.dp)):=by
 refine D.ind fun k n t l ih hs m hm=>?_
 simp only[D.sz] at hs hm;obtain⟨m,rfl⟩:∃m',m=m'+1:=⟨m-1,by omega⟩
 have hlen:=aj l;have hdl:=D.dps_le' l;refine azz (by simp[D.vw2,V.lows,D.low]) ?_;simp -implicitDefEqProofs [x72_w,x72_r,D.vw2,D.v];refine ja (I20 l k n t) l.length (by omega) ⟨⟨0,by simp,?_,?_⟩,?_,rfl,rfl⟩ ?_
 ·simp[au]
 ·simp[au,D.dps]
 ·simp[au]
 ·refine Du (by omega) (fun x hx h=>ih x hx (by have:=ak hx;omega) m (by have:=ak hx;omega) h) fun s h3 hb hh=>?_
  obtain⟨e,h,base,rb⟩:=s;simp only at h3 hb hh;subst hb hh;simp -implicitDefEqProofs [x72_r,h3,D.dp];rw[aB (by omega)]
mutual
def D.fm:D→Bool
 | .mk k n t l=>if k=1 then yd t&&l.length==0 else if k=2 then n==0&&ei t&&l.length==0 else if k=3 then D.fms l&&n==0&&yd t else false
def D.fms:List D→Bool
 | []=>true
 | d::l=>d.fm&&D.fms l
end
theorem D.fms_all:∀l:List D,D.fms l=l.all D.fm
 | []=>rfl
 | d::l=>by simp only[D.fms,List.all_cons,D.fms_all l]
theorem D.fms_take (l:List D) (j:Nat) (h:j<l.length):D.fms (l.take (j+1))=(D.fms (l.take j)&&(l[j]).fm):=by
 induction l generalizing j with
 | nil=>simp at h
 | cons d l ih =>
  cases j with
  | zero=>simp[D.fms]
  | succ j =>
   simp only[List.take_succ_cons,D.fms,List.getElem_cons_succ];rw[ih j (by simpa using h),Bool.and_assoc]
theorem D.fms_false {l:List D}{j:Nat}(h:j<l.length) (hf:(l[j]).fm=false):D.fms l=false:=by
 rw[D.fms_all,List.all_eq_false];exact⟨_,List.getElem_mem h,by simp[hf]⟩
structure I44 (l:List D) (k n:Int) (t:ByteArray) (m:Nat) (s:SF):Prop where
 j:∃j:Nat,j+m=l.length∧s.e 3=.c (.int .i64 j)∧D.fms (l.take j)=true
 e1:s.e 1=.ref 0 0
 h:s.h=[.cells [.c (.int .i64 k),.c (.int .i64 n),.c (.string t),.sl (D.vs l) .any]]
 b:s.base=0
theorem C2 {cf:aw}{fu:Nat}{l:List D}{k n:Int}{t:ByteArray}(hl:D.szs l<4611686018427387904) (hc:∀x∈l,∀h,cf 70 [x.v] h=some (.c (.bool x.fm),h)){Q:Ex→SF→Prop}
  (hQ:∀s,D.fms l=true→s.e 1=.ref 0 0→s.base=0→s.h=[.cells [.c (.int .i64 k),.c (.int .i64 n),.c (.string t),.sl (D.vs l) .any]]→Q (.exit 1) s)
  (hR:∀s,D.fms l=false→s.e 2=.c (.bool false)→s.base=0→s.h=[.cells [.c (.int .i64 k),.c (.int .i64 n),.c (.string t),.sl (D.vs l) .any]]→Q .ret s) (m:Nat) (s:SF) (I:I44 l k n t m s) :
  wpk cf fu x70l13 [] (fun e s'=>match e with|.normal=>∃k',k'<m∧I44 l k n t k' s'|e=>Q e s') s:=by
 obtain⟨⟨j,hj,e3,hf⟩,e1,hh,hb⟩:=I;obtain⟨e,h,base,rb⟩:=s;simp only at e3 e1 hh hb;subst hh hb;have hlen:=aj l;by_cases hm:j<l.length
 ·have hlt:(j:Int)<l.length:=by omega
  have hx:=hc _ (List.getElem_mem hm);have hs:=D.fms_take l j hm;cases hfm:(l[j]).fm with
  | true =>
   rw[hfm] at hx;simp -implicitDefEqProofs [x70l13_w,e1,e3,aa,hlt,hm,ac,ab,D.rd,hx];refine⟨m-1,by omega,⟨⟨j+1,by omega,?_,?_⟩,?_,rfl,rfl⟩⟩
   ·simp only[au,e3];simp;rw[aB (by omega)]
   ·rw[hs,hf,hfm];rfl
   ·simp[au,e1]
  | false =>
   rw[hfm] at hx;simp -implicitDefEqProofs [x70l13_w,e1,e3,aa,hlt,hm,ac,ab,D.rd,hx];refine hR _ (D.fms_false hm hfm) ?_ rfl rfl;simp[au]
 ·have hlt:¬(j:Int)<l.length:=by omega
  have hj2:j=l.length:=by omega
  simp -implicitDefEqProofs [x70l13_w,e1,e3,aa,hlt];refine hQ _ ?_ ?_ rfl rfl
  ·rw[hj2,List.take_length] at hf;exact hf
  ·simp[au,e1]
theorem FE:∀d:D,d.sz<4611686018427387904→∀n,2*d.sz+62≤n→aV n 70 [d.v] (.c (.bool d.fm)):=by
 refine D.ind fun k n t l ih hs m hm=>?_
 simp only[D.sz] at hs hm;obtain⟨m,rfl⟩:∃m',m=m'+1:=⟨m-1,by omega⟩
 have hlen:=aj l;have hsy:aV m 125 [.c (.string t)] (.c (.bool (ei t))):=cG rfl (up (by omega) (En (n:=60) (by omega) t));refine azz (by simp[D.vw2,V.lows,D.low]) ?_;have hsy':∀h,call X E m 125 [.c (.string t)] h=some (.c (.bool (ei t)),h):=hsy;by_cases h1:k=1
 ·subst h1;cases ht:yd t<;>cases h0:(l.length==0) <;>
   simp -implicitDefEqProofs [x70_w,x70_r,D.vw2,D.v,ht,aa,h0,D.fm]
 ·by_cases h2:k=2
  ·subst h2;cases hn:(n==0)<;>cases hy:ei t<;>cases h0:(l.length==0)<;>rw[hy] at hsy' <;>
    simp -implicitDefEqProofs [x70_w,x70_r,D.vw2,D.v,hn,hsy',aa,h0,D.fm,hy]
  ·by_cases h3:k=3
   ·subst h3;simp -implicitDefEqProofs [x70_w,x70_r,D.vw2,D.v];refine ja (I44 l 3 n t) l.length (by omega) ⟨⟨0,by simp,?_,?_⟩,?_,rfl,rfl⟩ ?_
    ·simp[au]
    ·simp[D.fms]
    ·simp[au]
    ·refine C2 (by omega) (fun x hx h=>ih x hx (by have:=ak hx;omega) m (by have:=ak hx;omega) h) (fun s hf h1 hb hh=>?_) fun s hf h2 hb hh=>?_
     ·obtain⟨e,h,base,rb⟩:=s;simp only at h1 hb hh;subst hb hh;cases ht:yd t<;>cases hn:(n==0) <;>
       simp -implicitDefEqProofs [x70_r,h1,hn,ht,D.fm,hf]
     ·obtain⟨e,h,base,rb⟩:=s;simp only at h2 hb hh;subst hb hh;simp -implicitDefEqProofs [x70_r,h2,D.fm,hf]
   ·have b1:(k==1)=false:=by simpa using h1
    have b2:(k==2)=false:=by simpa using h2
    have b3:(k==3)=false:=by simpa using h3
    simp -implicitDefEqProofs [b1,b2,b3,x70_w,x70_r,D.vw2,D.v,h1,h2,h3,D.fm]
def D.ck (d:D):Int:=if d.fm=false then 4 else if d.sz > 100000∨d.dp > 1000 then 3 else 0
theorem BS (d:D) (hs:d.sz<4611686018427387904) (n:Nat) (hn:2*d.sz+63≤n):aV n 23 [d.v] (.c (.int .i64 d.ck)):=by
 obtain⟨m,rfl⟩:∃m',n=m'+1:=⟨n-1,by omega⟩
 have c1:∀h,call X E m 70 [d.v] h=some (.c (.bool d.fm),h):=FE d hs m (by omega);have c2:∀h,call X E m 71 [d.v] h=some (.c (.int .i64 d.sz),h):=F1 d hs m (by omega);have c3:∀h,call X E m 72 [d.v] h=some (.c (.int .i64 d.dp),h):=Fl d hs m (by omega);refine azz (by simp[D.vw2,V.lows,D.low]) ?_;cases hf:d.fm with
 | false =>
  rw[hf] at c1;simp -implicitDefEqProofs [x23_w,x23_r,D.vw2,D.okc,D.rd,c1,D.ck,hf]
 | true =>
  rw[hf] at c1;by_cases h1:d.sz > 100000
  ·have h1':(100000:Int)<d.sz:=by omega
   simp -implicitDefEqProofs [x23_w,x23_r,D.vw2,D.okc,D.rd,c1,c2,h1',D.ck,hf,h1]
  ·have h1':¬(100000:Int)<d.sz:=by omega
   by_cases h2:d.dp > 1000
   ·have h2':(1000:Int)<d.dp:=by omega
    simp -implicitDefEqProofs [x23_w,x23_r,D.vw2,D.okc,D.rd,c1,c2,c3,h1',h2',D.ck,hf,h1,h2]
   ·have h2':¬(1000:Int)<d.dp:=by omega
    simp -implicitDefEqProofs [x23_w,x23_r,D.vw2,D.okc,D.rd,c1,c2,c3,h1',h2',D.ck,hf,h1,h2]
def aU (h:List O):Prop:=h.all (O.low h.length)=true
def gw (n f:Nat) (args:List V) (r:V):Prop:=∀h:List O,aU h→call X E n f args h=some (r,h)
theorem gm {n f k:Nat}{xf:XF}{args:List V}{r:V}(hE:E f=none) (hX:X f=some xf) (hk:args.length=k) (hx:tA xf k=true) (hp:xf.pure=false∧xf.esc=false) (hr:r.low 0=true)
  (hw:∀h,aU h→wpk (call X E n) n xf.body [] (Fin (fun vs s=>(bG vs).vw=r∧s.take h.length=h) xf) ⟨bD (args.map V.vw2),h,h.length,0⟩) (ha:xf.asg=none:=by rfl):gw (n+1) f args r:=by
 intro h hh;simp only[call,hE,hX,ha];subst hk;refine dm hx hp.1 hp.2 (du _ (fun e s hq=>?_) (cm (hw h hh)));have hrl:∀m,r.low m=true:=fun m=>by
  have:=iB (Nat.zero_le m) r hr;exact this
 cases e with
 | exit id=>exact hq
 | normal=>exact cF (fun vs hv=>⟨hv.1,hrl _,hv.2,hh⟩) hq
 | ret=>exact cF (fun vs hv=>⟨hv.1,hrl _,hv.2,hh⟩) hq
def D.bad:List D→Nat→Int
 | [],_ => -1
 | d::l,j=>if d.fm then D.bad l (j+1) else j
theorem D.bad_fms:∀(l:List D) (j:Nat),(decide (D.bad l j≥0)) = !D.fms l
 | [],j=>by simp[D.bad,D.fms]
 | d::l,j=>by
  have:=D.bad_fms l (j+1);simp only[D.bad,D.fms];by_cases hf:d.fm=true
  ·simpa[hf] using this
  ·simp[hf]
theorem GA {m:Nat}{d:D}{b:Bool}(hc:aV m 102 [d.v] (.c (.bool b))):gw (m+1) 152 [d.v] (.c (.bool !b)):=by
 have hc':∀h,call X E m 102 [d.v] h=some (.c (.bool b),h):=hc;refine gm rfl rfl rfl (by kernel_rfl) ⟨rfl,rfl⟩ (by simp[V.low]) fun h hh=>?_
 simp -implicitDefEqProofs [x152_w,x152_r,D.vw2,D.okc,D.rd,lD,kU,hc']
structure I77 (l:List D) (g:List O) (m:Nat) (s:SF):Prop where
 j:∃j:Nat,j+m=l.length∧s.e 8=.c (.int .i64 j)∧D.bad l 0=D.bad (l.drop j) j
 e0:s.e 0=.sl (D.vs l) .any
 e1:s.e 1=.c (.func (.func 152) #[] #[])
 e7:s.e 7=.c (.int .i64 l.length)
 h:s.h=g
 b:s.base=g.length
theorem Ed {n fu:Nat}{l:List D}{h:List O}(hh:aU h) (hl:l.length<4611686018427387904) (hc:∀x∈l,gw n 152 [x.v] (.c (.bool !x.fm))){Q:Ex→SF→Prop}
  (hQ:∀s,D.bad l 0 = -1→s.h=h→s.base=h.length→Q (.exit 0) s) (hR:∀s,s.e 4=.c (.int .i64 (D.bad l 0))→s.h=h→s.base=h.length→Q .ret s) (m:Nat) (s:SF) (I:I77 l h m s) :
  wpk (call X E n) fu x105l8 [] (fun e s'=>match e with|.normal=>∃k',k'<m∧I77 l h k' s'|e=>Q e s') s:=by
 obtain⟨⟨j,hj,e8,hb⟩,e0,e1,e7,hh',hbs⟩:=I;obtain⟨e,h',base,rb⟩:=s;simp only at e8 e0 e1 e7 hh' hbs;subst hh' hbs;by_cases hm:j<l.length
 ·have hlt:(j:Int)<l.length:=by omega
  have hx:=hc _ (List.getElem_mem hm) h' hh;have hd:l.drop j=l[j]::l.drop (j+1):=dC hm;cases hf:(l[j]).fm with
  | true =>
   rw[hf] at hx;simp -implicitDefEqProofs [x105l8_w,e0,e1,e7,e8,aa,hlt,hm,ac,ab,D.rd,hx];refine⟨m-1,by omega,⟨⟨j+1,by omega,?_,?_⟩,?_,?_,?_,rfl,rfl⟩⟩
   ·simp only[au,e8];simp;rw[aB (by omega)]
   ·rw[hb,hd,D.bad,hf];rfl
   ·simp[au,e0]
   ·simp[au,e1]
   ·simp[au,e7]
  | false =>
   rw[hf] at hx;simp -implicitDefEqProofs [x105l8_w,e0,e1,e7,e8,aa,hlt,hm,ac,ab,D.rd,hx];refine hR _ ?_ rfl rfl;rw[hb,hd,D.bad,hf];simp[au,e8]
 ·have hlt:¬(j:Int)<l.length:=by omega
  have hj2:j=l.length:=by omega
  simp -implicitDefEqProofs [x105l8_w,e0,e1,e7,e8,aa,hlt];refine hQ _ ?_ rfl rfl;rw[hb,hj2,List.drop_length,D.bad]
theorem Fa {n:Nat}{l:List D}(hl:l.length<4611686018427387904) (hn:l.length<n) (hc:∀x∈l,gw n 152 [x.v] (.c (.bool !x.fm))) :
  gw (n+1) 105 [.sl (D.vs l) .any,.c (.func (.func 152) #[] #[])] (.c (.int .i64 (D.bad l 0))):=by
 refine gm rfl rfl rfl (by kernel_rfl) ⟨rfl,rfl⟩ (by simp[V.low]) fun h hh=>?_
 simp -implicitDefEqProofs [x105_w,x105_r,aa];refine ja (I77 l h) l.length hn ⟨⟨0,by simp,?_,?_⟩,?_,?_,?_,rfl,rfl⟩ ?_
 ·simp[au]
 ·simp
 ·simp[au,bD]
 ·simp[au,bD]
 ·simp[au]
 ·refine Ed hh hl hc (fun s h1 h2 h3=>?_) fun s h1 h2 h3=>?_
  ·obtain⟨e,h',base,rb⟩:=s;simp only at h2 h3;subst h2 h3;simp -implicitDefEqProofs [x105_r,h1]
  ·obtain⟨e,h',base,rb⟩:=s;simp only at h1 h2 h3;subst h2 h3;simp -implicitDefEqProofs [x105_r,h1]
theorem FO {n:Nat}{l:List D}(hc:gw n 105 [.sl (D.vs l) .any,.c (.func (.func 152) #[] #[])] (.c (.int .i64 (D.bad l 0)))) :
  gw (n+1) 48 [.sl (D.vs l) .any,.c (.func (.func 152) #[] #[])] (.c (.bool !D.fms l)):=by
 refine gm rfl rfl rfl (by kernel_rfl) ⟨rfl,rfl⟩ (by simp[V.low]) fun h hh=>?_
 have h1:=hc h hh;have h2:=D.bad_fms l 0;simp -implicitDefEqProofs [x48_w,x48_r,h1];simpa using h2
theorem FD:∀d:D,d.sz<4611686018427387904→∀n,4*d.sz+62≤n→aV n 102 [d.v] (.c (.bool d.fm)):=by
 refine D.ind fun k n t l ih hs m hm=>?_
 simp only[D.sz] at hs hm;obtain⟨m,rfl⟩:∃m',m=m'+4:=⟨m-4,by omega⟩
 have hlen:=aj l;have hsy:∀h,call X E (m+3) 151 [.c (.string t)] h=some (.c (.bool (ei t)),h):=cG (n:=m+3) rfl (up (by omega) (ER (n:=60) (by omega) t));have h71:∀x∈l,gw (m+1) 152 [x.v] (.c (.bool !x.fm)):=fun x hx=>GA (ih x hx (by have:=ak hx;omega) m (by have:=ak hx;omega))
 have h70:=FO (Fa (n:=m+1) (l:=l) (by omega) (by omega) h71);have h70':=h70 [.cells [.c (.int .i64 k),.c (.int .i64 n),.c (.string t),.sl (D.vs l) .any]] (by simp[aU,O.low,V.lows,V.low,D.lows,SI.low]);refine azz (by simp[D.vw2,V.lows,D.low]) ?_;by_cases h1:k=1
 ·subst h1;cases ht:yd t<;>cases h0:(l.length==0) <;>
   simp -implicitDefEqProofs [x102_w,x102_r,D.vw2,D.v,ht,aa,h0,D.fm]
 ·by_cases h2:k=2
  ·subst h2;cases hn:(n==0)<;>cases hy:ei t<;>cases h0:(l.length==0)<;>rw[hy] at hsy <;>
    simp -implicitDefEqProofs [x102_w,x102_r,D.vw2,D.v,hn,hsy,aa,h0,D.fm,hy]
  ·by_cases h3:k=3
   ·subst h3;cases hn:(n==0)<;>cases ht:yd t<;>cases hf:D.fms l<;>rw[hf] at h70' <;>
     simp -implicitDefEqProofs [x102_w,x102_r,D.vw2,D.v,hn,ht,h70',D.fm,hf]
   ·have b1:(k==1)=false:=by simpa using h1
    have b2:(k==2)=false:=by simpa using h2
    have b3:(k==3)=false:=by simpa using h3
    simp -implicitDefEqProofs [b1,b2,b3,x102_w,x102_r,D.vw2,D.v,h1,h2,h3,D.fm]
mutual
def D.pre:D→List Int→List (D × List Int)
 | .mk k n t l,ps=>(.mk k n t l,ps)::D.pres l ps 0
def D.pres:List D→List Int→Nat→List (D × List Int)
 | [],_,_=>[]
 | d::l,ps,i=>d.pre (ps++[(i:Int)])++D.pres l ps (i+1)
end
def ll (Y:D→List Int→List O→Option (Bool × List O)):List (D × List Int)→List O→Option (Bool × List O)
 | [],h=>some (true,h)
 | (x,q)::r,h=>match Y x q h with
  | some (true,h')=>ll Y r h'
  | some (false,h')=>some (false,h')
  | none=>none
def Cl (r:Option (Bool × List O)) (f:List O→Option (Bool × List O)):Option (Bool × List O):=match r with
 | some (true,h)=>f h
 | some (false,h)=>some (false,h)
 | none=>none
theorem rl (Y:D→List Int→List O→Option (Bool × List O)):∀(a b:List (D × List Int)) (h:List O),ll Y (a++b) h=Cl (ll Y a h) (ll Y b)
 | [],b,h=>rfl
 | (x,q)::a,b,h=>by
  simp only[List.cons_append,ll];cases Y x q h with
  | none=>rfl
  | some r =>
   obtain⟨c,h'⟩:=r;cases c with
   | true=>exact rl Y a b h'
   | false=>rfl
theorem qu {cf:aw}{f:Nat}{caps:List V}:∀(a:List (D × List Int)){h:List O}{b:Bool}{h':List O},ll (fun x q h=>cC cf f caps x.v q h) a h=some (b,h')→h'.length=h.length
 | [],h,b,h',e=>by simp only[ll,sI,pI] at e;rw[e.2]
 | (x,q)::a,h,b,h',e=>by
  simp only[ll] at e;split at e
  ·rename_i h1 e1;rw[qu a e,(cN e1).2.1]
  ·rename_i h1 e1;simp only[sI,pI] at e;rw[← e.2,(cN e1).2.1]
  ·cases e
theorem tD {cf:aw}{f:Nat}{caps:List V}:∀(d:D) (k:Nat) (ps:List Int) (h:List O),d.sz≤k→d.sz+ps.length≤1099511627776→V.lows h.length caps=true →
  cV cf f caps k d.v ps h=ll (fun x q h=>cC cf f caps x.v q h) (d.pre ps) h:=by
 refine D.ind fun k n t l ih=>?_
 intro fu ps h hk hp hc;simp only[D.sz] at hk hp;obtain⟨fu,rfl⟩:∃m',fu=m'+1:=⟨fu-1,by omega⟩
 have hlen:=aj l;have hall:(D.vs l).all (fun u=>u.cells.length==4&&V.low h.length u)=true:=by
  rw[aq,List.all_eq_true];intro u hu;obtain⟨d,_,rfl⟩:=List.mem_map.1 hu;simp[ab,D.low]
 have hL:∀(us:List D) (i:Nat) (h1:List O),(∀x∈us,x∈l)→h1.length=h.length→fG (cV cf f caps fu) ps i (D.vs us) h1=ll (fun x q h=>cC cf f caps x.v q h) (D.pres us ps i) h1:=by
  intro us
  induction us with
  | nil=>intro i h1 _ _;rfl
  | cons u us ihu =>
   intro i h1 hm hl;have hu:=hm u (by simp);have hus:=ak hu;have hsz:=ao u;simp only[D.vs,fG,D.pres,rl];rw[ih u hu fu (ps++[(i:Int)]) h1 (by omega) (by simp;omega) (by rw[hl];exact hc)];cases hw:ll (fun x q h=>cC cf f caps x.v q h) (u.pre (ps++[(i:Int)])) h1 with
   | none=>rfl
   | some r =>
    obtain⟨b,h2⟩:=r;cases b with
    | true=>exact ihu (i+1) h2 (fun x hx=>hm x (by simp[hx])) ((qu _ hw).trans hl)
    | false=>rfl
 simp only[D.v,cV,D.pre,ll];rw[if_pos ⟨hall,by rw[aa];omega,by omega,hc,rfl,rfl,rfl⟩];cases hy:cC cf f caps (.agg [.c (.int .i64 k),.c (.int .i64 n),.c (.string t),.sl (D.vs l) .any]) ps h with
 | none=>rfl
 | some r =>
  obtain⟨b,h1⟩:=r;cases b with
  | true=>exact hL l 0 h1 (fun x hx=>hx) (cN hy).2.1
  | false=>rfl
mutual
theorem D.pre_len:∀(d:D) (ps:List Int),(d.pre ps).length=d.sz
 | .mk k n t l,ps=>by simp only[D.pre,lC,D.sz,D.pres_len l ps 0];omega
theorem D.pres_len:∀(l:List D) (ps:List Int) (i:Nat),(D.pres l ps i).length=D.szs l
 | [],_,_=>rfl
 | d::l,ps,i=>by simp only[D.pres,lA,D.szs,D.pre_len d,D.pres_len l]
end
theorem zO {n:Nat}{d:D}{q:Nat}{caps:List V}{h:List O}(hs:d.sz≤n) (hp:d.sz≤1099511627776) (hc:V.lows h.length caps=true) :
  call X E (n+1) 153 [d.v,.sl [] .nil,.clo q caps] h=(ll (fun x p h=>cC (call X E n) q caps x.v p h) (d.pre []) h).map fun r=>(.c (.bool r.1),r.2):=by
 have hE:E 153=some mY:=rfl;simp only[call,hE,mY,kL];rw[tD d n [] h hs (by simpa using hp) hc]
theorem pS {cf:aw}{q:Nat}{caps:List V}{x:D}{ps:List Int}{h h':List O}{b:Bool}(hc:V.lows h.length caps=true) (hl:h.all (O.low (h.length+1))=true) (hl':h'.all (O.low h.length)=true) (hn:h'.length=h.length)
  (e:cf q (x.v::.row h.length 0 ps.length none::caps) (h++[aJ ps])=some (.c (.bool b),h'++[aJ ps])) (hq:q<1000000:=by decide):cC cf q caps x.v ps h=some (b,h'):=by
 have hpl:O.low (h.length+1) (aJ ps)=true:=by
  simp only[O.low,aJ];refine cq fun v hv=>?_
  obtain⟨i,_,rfl⟩:=List.mem_map.1 hv;simp[I64,V.low]
 have hfr:aM (h.length+1) cf q (x.v::.row h.length 0 ps.length none::caps) (h++[aJ ps])=some (.c (.bool b),h'++[aJ ps]):=by
  have hlw:V.lows (h.length+1) (x.v::.row h.length 0 ps.length none::caps)=true:=by simp[V.lows,D.low,V.low,bA (Nat.le_succ _) _ hc]
  unfold aM;rw[if_pos hlw];unfold cE;have ht:(h++[aJ ps]).take (h.length+1)=h++[aJ ps]:=by rw[List.take_of_length_le];simp
  have hd:(h++[aJ ps]).drop (h.length+1)=[]:=by rw[List.drop_of_length_le];simp
  rw[ht,hd,e];rw[if_pos ⟨hq,by simp,by simp[V.lows,D.low,V.low,bA (Nat.le_succ _) _ hc],by simp only[List.all_append,hl,List.all_cons,hpl,List.all_nil,Bool.and_self]⟩];simp[hn]
 unfold cC;rw[hfr];have h1:(h'++[aJ ps])[h.length]?=some (aJ ps):=by rw[← hn];simp
 have h2:(h'++[aJ ps]).take h.length=h':=by rw[← hn];simp
 simp only[h1,h2,dc,hl',and_self,if_true]
theorem sO {n n':Nat}(hn:n≤n'){o:O}(h:O.low n o=true):O.low n' o=true:=by
 have:=nO hn (h:=[o]) (by simp[h]);simpa using this
theorem ba (n:Nat) (cs:List V):O.low n (.cells cs)=V.lows n cs:=rfl
theorem nl (n:Nat) (ps:List Int):O.low n (aJ ps)=true:=by
 rw[aJ,ba];refine cq fun v hv=>?_
 obtain⟨i,_,rfl⟩:=List.mem_map.1 hv;simp[I64,V.low]
theorem ET {n:Nat}{x:D}{ps:List Int}{a:O}{c:Int}(hc : -1≤c∧c<4611686018427387904) (ha:O.low 2 a=true):cC (call X E (n+1)) 154 [.ref 1 0] x.v ps [a,.cells [.c (.int .i64 c)]]=some (true,[a,.cells [.c (.int .i64 (c+1))]]):=by
 refine pS (by simp[V.lows,V.low]) ?_ ?_ rfl ?_
 ·simp[ba,V.lows,V.low,sO (Nat.le_succ 2) ha]
 ·simp[ba,V.lows,V.low,ha]
 ·have hE:E 154=none:=rfl;have hX:X 154=some x154:=rfl;simp only[call,hE,hX];refine dm (by kernel_rfl) rfl rfl (cm ?_);have hw:IntKind.i64.wrap (c+1)=c+1:=aB (by omega);simp -implicitDefEqProofs [x154_w,x154_r,D.vw2,D.okc,D.rd,hw];simp[ba,V.lows,V.low,sO (Nat.le_succ 2) ha,nl]
theorem zG {n:Nat}{a:O}(ha:O.low 2 a=true):∀(L:List (D × List Int)) (c:Int),-1≤c→c+L.length<4611686018427387904 →
  ll (fun x p h=>cC (call X E (n+1)) 154 [.ref 1 0] x.v p h) L [a,.cells [.c (.int .i64 c)]]=some (true,[a,.cells [.c (.int .i64 (c+L.length))]])
 | [],c,_,_=>by simp[ll]
 | (x,q)::L,c,h1,h2=>by
  simp only[lC] at h2 ⊢;simp only[ll];rw[ET (by omega) ha];simp only;rw[zG ha L (c+1) (by omega) (by omega)];simp only[sI,pI,true_and,cI,O.cells.injEq,V.c.injEq,Value.int.injEq,and_true];omega
theorem ap (m:Nat) (d:D):O.low m (.cells d.v.cells)=true:=by
 rw[ba];exact cq fun v hv=>mB (D.low m d) v hv
theorem Gn {d:D}{n:Nat}(hs:d.sz≤1099511627776) (hn:d.sz+2≤n):aV (n+1) 103 [d.v] (.c (.int .i64 d.sz)):=by
 obtain⟨m,rfl⟩:∃m',n=m'+2:=⟨n-2,by omega⟩
 refine azz (by simp[D.vw2,V.lows,D.low]) ?_;have hc:call X E (m+2) 153 [d.v,.sl [] .nil,.clo 154 [.ref 1 0]] [.cells d.v.cells,.cells [.c (.int .i64 0)]]=some (.c (.bool true),[.cells d.v.cells,.cells [.c (.int .i64 d.sz)]]):=by
  rw[zO (n:=m+1) (by omega) hs (by simp[V.lows,V.low])];rw[zG (n:=m) (ap 2 d) (d.pre []) 0 (by omega) (by rw[D.pre_len];omega),D.pre_len];simp
 simp -implicitDefEqProofs [x103_w,x103_r,D.vw2,D.okc,D.rd,hc]
def top:List (D × List Int)→Int→Int
 | [],c=>c
 | (_,q)::L,c=>top L (max c (q.length+1))
theorem ve:∀(a b:List (D × List Int)) (c:Int),top (a++b) c=top b (top a c)
 | [],b,c=>rfl
 | (x,q)::a,b,c=>by simp only[List.cons_append,top,ve a b]
mutual
theorem D.top_pre:∀(d:D) (ps:List Int) (c:Int),top (d.pre ps) c=max c (ps.length+d.dp)
 | .mk k n t l,ps,c=>by
  simp only[D.pre,top,D.top_pres l ps 0,D.dp];cases l with
  | nil=>simp[D.dps]
  | cons d l=>rw[if_neg (by simp)];omega
theorem D.top_pres:∀(l:List D) (ps:List Int) (i:Nat) (c:Int),top (D.pres l ps i) c=if l=[] then c else max c (ps.length+1+D.dps l)
 | [],_,_,_=>rfl
 | d::l,ps,i,c=>by
  have hp:=D.dp_pos d;simp only[D.pres,ve,D.top_pre d,D.top_pres l,D.dps,lA,lC,List.length_nil];cases l with
  | nil=>simp[D.dps]
  | cons d' l=>rw[if_neg (by simp),if_neg (by simp)];omega
theorem D.dp_pos:∀d:D,1≤d.dp
 | .mk _ _ _ _=>by simp only[D.dp];omega
end
theorem Fi {n:Nat}{x:D}{ps:List Int}{a:O}{c:Int}(hc:ps.length<4611686018427387904) (ha:O.low 2 a=true):cC (call X E (n+1)) 155 [.ref 1 0] x.v ps [a,.cells [.c (.int .i64 c)]]=some (true,[a,.cells [.c (.int .i64 (max c (ps.length+1)))]]):=by
 refine pS (by simp[V.lows,V.low]) ?_ ?_ rfl ?_
 ·simp[ba,V.lows,V.low,sO (Nat.le_succ 2) ha]
 ·simp[ba,V.lows,V.low,ha]
 ·have hE:E 155=none:=rfl;have hX:X 155=some x155:=rfl;simp only[call,hE,hX];refine dm (by kernel_rfl) rfl rfl (cm ?_);have hw:IntKind.i64.wrap ((ps.length:Int)+1)=ps.length+1:=aB (by omega);have hm:(if (ps.length:Int)+1 > c then (ps.length:Int)+1 else c)=max c (ps.length+1):=by split<;>omega
  simp -implicitDefEqProofs [x155_w,x155_r,D.vw2,D.okc,D.rd,hw];simp[ba,V.lows,V.low,sO (Nat.le_succ 2) ha,nl];split<;>omega
theorem zN {n:Nat}{a:O}(ha:O.low 2 a=true):∀(L:List (D × List Int)) (c:Int),(∀p∈L,p.2.length<4611686018427387904) →
  ll (fun x p h=>cC (call X E (n+1)) 155 [.ref 1 0] x.v p h) L [a,.cells [.c (.int .i64 c)]]=some (true,[a,.cells [.c (.int .i64 (top L c))]])
 | [],c,_=>by simp[ll,top]
 | (x,q)::L,c,h1=>by
  simp only[ll];rw[Fi (h1 (x,q) (by simp)) ha];simp only;rw[zN ha L _ fun p hp=>h1 p (by simp[hp])];simp only[top]
mutual
theorem D.pre_path:∀(d:D) (ps:List Int),∀p∈d.pre ps,p.2.length≤ps.length+d.sz
 | .mk k n t l,ps,p,hp=>by
  simp only[D.pre,List.mem_cons] at hp;simp only[D.sz];rcases hp with rfl|hp
  ·simp only;omega
  ·have:=D.pres_path l ps 0 p hp;omega
theorem D.pres_path:∀(l:List D) (ps:List Int) (i:Nat),∀p∈D.pres l ps i,p.2.length≤ps.length+1+D.szs l
 | [],ps,i,p,hp=>by simp[D.pres] at hp
 | d::l,ps,i,p,hp=>by
  simp only[D.pres,List.mem_append] at hp;simp only[D.szs];rcases hp with hp|hp
  ·have:=D.pre_path d _ p hp;simp only[lA,lC,List.length_nil] at this;omega
  ·have:=D.pres_path l ps (i+1) p hp;omega
end
theorem Fs {d:D}{n:Nat}(hs:d.sz≤1099511627776) (hn:d.sz+2≤n):aV (n+1) 104 [d.v] (.c (.int .i64 d.dp)):=by
 obtain⟨m,rfl⟩:∃m',n=m'+2:=⟨n-2,by omega⟩
 refine azz (by simp[D.vw2,V.lows,D.low]) ?_;have hc:call X E (m+2) 153 [d.v,.sl [] .nil,.clo 155 [.ref 1 0]] [.cells d.v.cells,.cells [.c (.int .i64 0)]]=some (.c (.bool true),[.cells d.v.cells,.cells [.c (.int .i64 d.dp)]]):=by
  rw[zO (n:=m+1) (by omega) hs (by simp[V.lows,V.low])];rw[zN (n:=m) (ap 2 d) (d.pre []) 0 (fun p hp=>by have:=D.pre_path d [] p hp;simp only[List.length_nil] at this;omega),D.top_pre];have:max (0:Int) (([]:List Int).length+d.dp)=d.dp:=by simp
  rw[this];rfl
 simp -implicitDefEqProofs [x104_w,x104_r,D.vw2,D.okc,D.rd,hc]
theorem Cc (d:D) (hs:d.sz≤1099511627776) (n:Nat) (hn:4*d.sz+64≤n):aV n 46 [d.v] (.c (.int .i64 d.ck)):=by
 obtain⟨m,rfl⟩:∃m',n=m'+2:=⟨n-2,by omega⟩
 have c1:∀h,call X E (m+1) 102 [d.v] h=some (.c (.bool d.fm),h):=FD d (by omega) (m+1) (by omega);have c2:∀h,call X E (m+1) 103 [d.v] h=some (.c (.int .i64 d.sz),h):=Gn (n:=m) hs (by omega);have c3:∀h,call X E (m+1) 104 [d.v] h=some (.c (.int .i64 d.dp),h):=Fs (n:=m) hs (by omega);refine azz (by simp[D.vw2,V.lows,D.low]) ?_;cases hf:d.fm with
 | false =>
  rw[hf] at c1;simp -implicitDefEqProofs [x46_w,x46_r,D.vw2,D.okc,D.rd,c1,D.ck,hf]
 | true =>
  rw[hf] at c1;by_cases h1:d.sz > 100000
  ·have h1':(100000:Int)<d.sz:=by omega
   simp -implicitDefEqProofs [x46_w,x46_r,D.vw2,D.okc,D.rd,c1,c2,h1',D.ck,hf,h1]
  ·have h1':¬(100000:Int)<d.sz:=by omega
   by_cases h2:d.dp > 1000
   ·have h2':(1000:Int)<d.dp:=by omega
    simp -implicitDefEqProofs [x46_w,x46_r,D.vw2,D.okc,D.rd,c1,c2,c3,h1',h2',D.ck,hf,h1,h2]
   ·have h2':¬(1000:Int)<d.dp:=by omega
    simp -implicitDefEqProofs [x46_w,x46_r,D.vw2,D.okc,D.rd,c1,c2,c3,h1',h2',D.ck,hf,h1,h2]
def eqS (a b:ByteArray):Bool:=a.toList==b.toList
theorem aK (a b:ByteArray):ee .eql a b=some (.c (.bool (eqS a b))):=rfl
theorem fy (a b:ByteArray):ee .neq a b=some (.c (.bool !(eqS a b))):=rfl
mutual
def D.same:D→D→Bool
 | .mk k n t l,.mk k' n' t' l'=>k==k'&&n==n'&&eqS t t'&&D.sames l l'
def D.sames:List D→List D→Bool
 | [],[]=>true
 | a::l,b::l'=>a.same b&&D.sames l l'
 | [],_::_=>false
 | _::_,[]=>false
end
theorem D.sames_len:∀{l l':List D},D.sames l l'=true→l.length=l'.length
 | [],[],_=>rfl
 | a::l,b::l',h=>by
  simp only[D.sames,bT] at h;simp[D.sames_len h.2]
 | [],_::_,h=>by simp[D.sames] at h
 | _::_,[],h=>by simp[D.sames] at h
structure I21 (l l':List D) (k n k' n':Int) (t t':ByteArray) (m:Nat) (s:SF):Prop where
 j:∃j:Nat,j+m=l.length∧s.e 5=.c (.int .i64 j)∧D.sames l l'=D.sames (l.drop j) (l'.drop j)
 e2:s.e 2=.ref 0 0
 e3:s.e 3=.ref 1 0
 h:s.h=[.cells [.c (.int .i64 k),.c (.int .i64 n),.c (.string t),.sl (D.vs l) .any],.cells [.c (.int .i64 k'),.c (.int .i64 n'),.c (.string t'),.sl (D.vs l') .any]]
 b:s.base=0
theorem Ek {cf:aw}{fu:Nat}{l l':List D}{k n k' n':Int}{t t':ByteArray}(hll:l.length=l'.length) (hl:D.szs l<4611686018427387904) (hc:∀x∈l,∀y∈l',∀h,cf 24 [x.v,y.v] h=some (.c (.bool (x.same y)),h)){Q:Ex→SF→Prop}
  (hQ:∀s,D.sames l l'=true→s.base=0→Q (.exit 0) s)
  (hR:∀s,D.sames l l'=false→s.e 4=.c (.bool false)→s.base=0→Q .ret s) (m:Nat) (s:SF) (I:I21 l l' k n k' n' t t' m s) :
  wpk cf fu x24l9 [] (fun e s'=>match e with|.normal=>∃k1,k1<m∧I21 l l' k n k' n' t t' k1 s'|e=>Q e s') s:=by
 obtain⟨⟨j,hj,e5,hf⟩,e2,e3,hh,hb⟩:=I;obtain⟨e,h,base,rb⟩:=s;simp only at e5 e2 e3 hh hb;subst hh hb;have hlen:=aj l;by_cases hm:j<l.length
 ·have hm':j<l'.length:=by omega
  have hlt:(j:Int)<l.length:=by omega
  have hx:=hc _ (List.getElem_mem hm) _ (List.getElem_mem hm');have hd:l.drop j=l[j]::l.drop (j+1):=dC hm;have hd':l'.drop j=l'[j]::l'.drop (j+1):=dC hm';rw[hd,hd',D.sames] at hf;cases hs:(l[j]).same l'[j] with
  | true =>
   rw[hs] at hx;simp -implicitDefEqProofs [x24l9_w,e2,e3,e5,aa,hlt,hm,hm',ac,ab,D.rd,hx];refine⟨m-1,by omega,⟨⟨j+1,by omega,?_,?_⟩,?_,?_,rfl,rfl⟩⟩
   ·simp only[au,e5];simp;rw[aB (by omega)]
   ·rw[hf,hs];rfl
   ·simp[au,e2]
   ·simp[au,e3]
  | false =>
   rw[hs] at hx;simp -implicitDefEqProofs [x24l9_w,e2,e3,e5,aa,hlt,hm,hm',ac,ab,D.rd,hx];refine hR _ (by rw[hf,hs];rfl) ?_ rfl;simp[au]
 ·have hlt:¬(j:Int)<l.length:=by omega
  simp -implicitDefEqProofs [x24l9_w,e2,e3,e5,aa,hlt];refine hQ _ ?_ rfl;rw[hf,List.drop_of_length_le (by omega),List.drop_of_length_le (by omega)];rfl
theorem CS:∀d d':D,d.sz<4611686018427387904→∀n,2*d.sz+2≤n→aV n 24 [d.v,d'.v] (.c (.bool (d.same d'))):=by
 refine D.ind fun k n t l ih d' hs m hm=>?_
 obtain⟨k',n',t',l'⟩:=d';simp only[D.sz] at hs hm;obtain⟨m,rfl⟩:∃m',m=m'+1:=⟨m-1,by omega⟩
 have hlen:=aj l;refine azz (by simp[D.vw2,V.lows,D.low]) ?_;have hdiff:D.same (.mk k n t l) (.mk k' n' t' l')=(k==k'&&n==n'&&eqS t t'&&D.sames l l'):=by simp[D.same]
 cases hk:(k==k') with
 | false =>
  have hk1:(k != k')=true:=by simp only[bne,hk];rfl
  simp -implicitDefEqProofs [hk1,x24_w,x24_r,D.vw2,D.v,hk,hdiff]
 | true =>
  have hk1:(k != k')=false:=by simp only[bne,hk];rfl
  cases hn:(n==n') with
  | false =>
   have hn1:(n != n')=true:=by simp only[bne,hn];rfl
   simp -implicitDefEqProofs [hk1,hn1,x24_w,x24_r,D.vw2,D.v,hk,hn,hdiff]
  | true =>
   have hn1:(n != n')=false:=by simp only[bne,hn];rfl
   cases ht:eqS t t' with
   | false=>simp -implicitDefEqProofs [hk1,hn1,x24_w,x24_r,fy,D.vw2,D.v,hk,hn,ht,hdiff]
   | true =>
    by_cases hll:l.length=l'.length
    ·have hle:((l.length:Int) != l'.length)=false:=by simp[hll]
     simp -implicitDefEqProofs [hk1,hn1,x24_w,x24_r,fy,D.vw2,D.v,hk,hn,ht,aa,hle];refine ja (I21 l l' k n k' n' t t') l.length (by omega) ⟨⟨0,by simp,?_,by simp⟩,?_,?_,rfl,rfl⟩ ?_
     ·simp[au]
     ·simp[au]
     ·simp[au]
     ·refine Ek hll (by omega) (fun x hx y hy h=>ih x hx y (by have:=ak hx;omega) m (by have:=ak hx;omega) h) (fun s h1 hb=>?_) fun s h1 h4 hb=>?_
      ·obtain⟨e,h,base,rb⟩:=s;simp only at hb;subst hb;simp -implicitDefEqProofs [x24_r,hdiff,hk,hn,ht,h1]
      ·obtain⟨e,h,base,rb⟩:=s;simp only at h4 hb;subst hb;simp -implicitDefEqProofs [x24_r,h4,hdiff,hk,hn,ht,h1]
    ·have hle:((l.length:Int) != l'.length)=true:=by simp;omega
     have hsm:D.sames l l'=false:=by
      cases h:D.sames l l' with
      | false=>rfl
      | true=>exact absurd (D.sames_len h) hll
     simp -implicitDefEqProofs [hk1,hn1,x24_w,x24_r,fy,D.vw2,D.v,hk,hn,ht,aa,hle,hdiff,hsm]
mutual
theorem D.same_refl:∀d:D,d.same d=true
 | .mk k n t l=>by simp[D.same,eqS,D.sames_refl l]
theorem D.sames_refl:∀l:List D,D.sames l l=true
 | []=>by simp[D.sames]
 | d::l=>by simp[D.sames,D.same_refl d,D.sames_refl l]
end
def Cx (t:ByteArray):ByteArray:=t.extract 0 (min t.size 42)
mutual
def D.cut:D→Nat→Nat→D × Nat
 | .mk k n t l,left,deep=>(.mk k n (Cx t) (D.cuts l (left-1) deep).1,(D.cuts l (left-1) deep).2)
def D.cuts:List D→Nat→Nat→List D × Nat
 | [],left,_=>([],left)
 | d::l,left,deep=>if 1<deep∧0<left then ((d.cut left (deep-1)).1::(D.cuts l (d.cut left (deep-1)).2 deep).1,(D.cuts l (d.cut left (deep-1)).2 deep).2) else ([],left)
end
mutual
theorem D.cut_le:∀(d:D) (left deep:Nat),(d.cut left deep).2≤left-1
 | .mk k n t l,left,deep=>by simp only[D.cut];exact D.cuts_le l _ _
theorem D.cuts_le:∀(l:List D) (left deep:Nat),(D.cuts l left deep).2≤left
 | [],left,deep=>by simp[D.cuts]
 | d::l,left,deep=>by
  simp only[D.cuts];split
  ·have:=D.cut_le d left (deep-1);have:=D.cuts_le l (d.cut left (deep-1)).2 deep;simp only;omega
  ·simp
end
theorem ai (a b:List D):D.vs (a++b)=D.vs a++D.vs b:=by simp[aq]
theorem D.hz (l:List D):Ab.hz 4 (D.vs l)=true:=by
 cases l with
 | nil=>rfl
 | cons d l=>simp[D.vs,Ab.hz,ab]
theorem dP (h:List O) (x y:O):(h++[x,y])[h.length+1]?=some y:=by
 rw[aR (by omega)];simp
theorem mh (h:List O) (x y z:O):(h++[x,y]).set (h.length+1) z=h++[x,z]:=by
 rw[List.set_append_right _ _ (by omega)];simp
theorem Eb {cf:aw}{f:Nat}{args:List V}{a b c c':O}{v:V}{rest:List O}(hl:V.lows 3 args=true) (hh:aU [a,b,c]) (e:cf f args [a,b,c]=some (v,[a,b,c'])) (hf:f<1000000:=by decide) :
  aM 3 cf f args (a::b::c::rest)=some (v,a::b::c'::rest):=by
 unfold aM;rw[if_pos hl];unfold cE;have h1:(a::b::c::rest).take 3=[a,b,c]:=by simp
 have h2:(a::b::c::rest).drop 3=rest:=by simp
 rw[h1,h2,e,if_pos ⟨hf,by simp,hl,hh⟩];simp
def fM (k n:Int) (t:ByteArray) (us:List V) (si:SI):O:=.cells [.c (.int .i64 k),.c (.int .i64 n),.c (.string t),.sl us si]
structure I62 (a b ret:O) (l:List D) (k n:Int) (t:ByteArray) (left0 deep:Nat) (m:Nat) (s:SF):Prop where
 j:∃(out:List D) (rest:List O) (si:SI),out.length+m≤left0∧s.e 8=.c (.int .i64 out.length) ∧
  D.cuts l left0 deep=(out++(D.cuts (l.drop out.length) m deep).1,(D.cuts (l.drop out.length) m deep).2) ∧
  s.h=a::b::.cells [.c (.int .i64 m)]::fM k n t (D.vs l) .any::ret::fM k n (Cx t) (D.vs out) si::rest ∧
  ((out=[]∧si=.nil)∨∃q,si=.tok (q+6)∧rest[q]?=some (.tok out.length 4))
 e0:s.e 0=.ref 2 0
 e2:s.e 2=.c (.int .i64 deep)
 e4:s.e 4=.ref 3 0
 e6:s.e 6=.ref 4 0
 e7:s.e 7=.ref 5 0
 b:s.base=3
theorem Dt {cf:aw}{fu:Nat}{a b ret:O}{l:List D}{k n:Int}{t:ByteArray}{left0 deep:Nat}(ha:O.low 3 a=true) (hb:O.low 3 b=true) (hleft:left0<1099511627776) (hdeep:deep<1099511627776)
  (hc:∀x∈l,∀left,0<left→left≤left0→1<deep→cf 86 [.ref 2 0,x.v,.c (.int .i64 (deep-1:Nat))] [a,b,.cells [.c (.int .i64 left)]]=some ((x.cut left (deep-1)).1.v,[a,b,.cells [.c (.int .i64 (x.cut left (deep-1)).2)]])){Q:Ex→SF→Prop}
  (hQ:∀s si rest,s.h=a::b::.cells [.c (.int .i64 (D.cuts l left0 deep).2)]::fM k n t (D.vs l) .any::ret::fM k n (Cx t) (D.vs (D.cuts l left0 deep).1) si::rest→s.e 6=.ref 4 0→s.e 7=.ref 5 0→s.base=3→Q (.exit 0) s) (m:Nat) (s:SF) (I:I62 a b ret l k n t left0 deep m s) :
  wpk cf fu x86l8 [] (fun e s'=>match e with|.normal=>∃k',k'<m∧I62 a b ret l k n t left0 deep k' s'|e=>Q e s') s:=by
 obtain⟨⟨out,rest,si,hom,e8,hcut,hh,hsi⟩,e0,e2,e4,e6,e7,hbs⟩:=I;obtain⟨e,h,base,rb⟩:=s;simp only at e8 hh e0 e2 e4 e6 e7 hbs;subst hh hbs;have hstop:¬(out.length<l.length∧1<deep∧0<m)→(D.cuts (l.drop out.length) m deep)=([],m):=by
  intro hn;by_cases hm:out.length<l.length
  ·rw[dC hm,D.cuts,if_neg (fun h=>hn ⟨hm,h⟩)]
  ·rw[List.drop_of_length_le (by omega),D.cuts]
 have hexit:¬(out.length<l.length∧1<deep∧0<m)→∀e':Nat→V,e' 6=.ref 4 0→e' 7=.ref 5 0→∀rb',Q (.exit 0) ⟨e',a::b::.cells [.c (.int .i64 m)]::fM k n t (D.vs l) .any::ret::fM k n (Cx t) (D.vs out) si::rest,3,rb'⟩:=by
  intro hn e' h6 h7 rb';have:=hstop hn;rw[this] at hcut;refine hQ _ si rest ?_ h6 h7 rfl;rw[hcut];simp
 by_cases hm:out.length<l.length
 ·have hlt:(out.length:Int)<l.length:=by omega
  by_cases hd:1<deep
  ·have hdi:(1:Int)<deep:=by omega
   by_cases h0:0<m
   ·have h0i:(0:Int)<m:=by omega
    have hx:=hc _ (List.getElem_mem hm) m h0 (by omega) hd;have hfr:=fun rest=>Eb (rest:=rest) (by simp[V.lows,V.low,D.low]) (by simp[aU,ha,hb,ba,V.lows,V.low]) hx
    have hde:IntKind.i64.wrap ((deep:Int)-1)=(deep-1:Nat):=by rw[aB (by omega)];omega
    have hle:=D.cut_le l[out.length] m (deep-1);have hstep:D.cuts (l.drop out.length) m deep=(((l[out.length]).cut m (deep-1)).1::(D.cuts (l.drop (out.length+1)) ((l[out.length]).cut m (deep-1)).2 deep).1,(D.cuts (l.drop (out.length+1)) ((l[out.length]).cut m (deep-1)).2 deep).2):=by
     rw[dC hm,D.cuts,if_pos ⟨hd,h0⟩]
    have hlen1:((D.vs out).length+1)*56≤140737488355328:=by rw[aa];omega
    have hlen2:(D.vs out).length+1≤140737488355328:=by rw[aa];omega
    generalize hcx:(l[out.length]).cut m (deep-1)=cx at *;have hnew:D.cuts l left0 deep=((out++[cx.1])++(D.cuts (l.drop (out++[cx.1]).length) cx.2 deep).1,(D.cuts (l.drop (out++[cx.1]).length) cx.2 deep).2):=by
     rw[hcut,hstep];simp
    rcases hsi with⟨hout,rfl⟩|⟨q,rfl,hq⟩
    ·simp -implicitDefEqProofs [x86l8_w,x86r6_w,fM,e0,e2,e4,e7,e8,aa,hlt,hdi,h0,h0i,hm,ac,ab,D.rd,D.vw2,D.okc,hde,hfr,hlen1,hlen2,D.hz,dP,mh];refine⟨⟨by omega,by omega⟩,cx.2,by omega,⟨⟨out++[cx.1],rest++[O.tok 1 4,O.tok (out.length+1) 4],.tok (rest.length+1+6),?_,?_,hnew,?_,.inr ⟨rest.length+1,rfl,?_⟩⟩,?_,?_,?_,?_,?_,rfl⟩⟩
     ·simp only[lA,lC,List.length_nil];omega
     ·simp only[au];simp;rw[aB (by omega)]
     ·simp[fM,ai,D.vs]
     ·rw[dP];simp
     ·simp[au,e0]
     ·simp[au,e2]
     ·simp[au,e4]
     ·simp[au,e6]
     ·simp[au,e7]
    ·obtain⟨hql,hqv⟩:=gS.1 hq;have hqa:∀pre:List O,(rest++pre)[q]?=some (.tok out.length 4):=fun pre=>by rw[aL hql];exact hq
     simp -implicitDefEqProofs [x86l8_w,x86r6_w,fM,e0,e2,e4,e7,e8,aa,hlt,hdi,h0,h0i,hm,ac,ab,D.rd,D.vw2,D.okc,hde,hfr,hlen1,hlen2,D.hz,hqa];refine⟨⟨by omega,by omega⟩,cx.2,by omega,⟨⟨out++[cx.1],(rest++[O.tok 1 4,O.dead]).set q (.tok (out.length+1) 4),.tok (q+6),?_,?_,hnew,?_,.inr ⟨q,rfl,?_⟩⟩,?_,?_,?_,?_,?_,rfl⟩⟩
     ·simp only[lA,lC,List.length_nil];omega
     ·simp only[au];simp;rw[aB (by omega)]
     ·simp[fM,ai,D.vs]
     ·rw[sS (by simp;omega)];simp
     ·simp[au,e0]
     ·simp[au,e2]
     ·simp[au,e4]
     ·simp[au,e6]
     ·simp[au,e7]
   ·have h0i:¬(0:Int)<m:=by omega
    simp -implicitDefEqProofs [x86l8_w,fM,e0,e2,e4,e7,e8,aa,hlt,hdi,h0,h0i];exact hexit (fun h=>h0 h.2.2) _ (by simp[au,e6]) (by simp[au,e7]) _
  ·have hdi:¬(1:Int)<deep:=by omega
   simp -implicitDefEqProofs [x86l8_w,fM,e0,e2,e4,e7,e8,aa,hlt,hdi];exact hexit (fun h=>hd h.2.1) _ (by simp[au,e6]) (by simp[au,e7]) _
 ·have hlt:¬(out.length:Int)<l.length:=by omega
  simp -implicitDefEqProofs [x86l8_w,fM,e0,e2,e4,e7,e8,aa,hlt];exact hexit (fun h=>hm h.1) _ (by simp[au,e6]) (by simp[au,e7]) _
theorem EV:∀(d:D) (left deep n:Nat) (a b:O),O.low 3 a=true→O.low 3 b=true→0<left→left<1099511627776→0<deep→deep<1099511627776→left+deep+1≤n →
  call X E n 86 [.ref 2 0,d.v,.c (.int .i64 deep)] [a,b,.cells [.c (.int .i64 left)]]=some ((d.cut left deep).1.v,[a,b,.cells [.c (.int .i64 (d.cut left deep).2)]]):=by
 refine D.ind fun k n t l ih=>?_
 intro left deep nn a b ha hb h0 hleft hd0 hdeep hn;obtain⟨m,rfl⟩:∃m',nn=m'+1:=⟨nn-1,by omega⟩
 have hE:E 86=none:=rfl;have hX:X 86=some x86:=rfl;simp only[call,hE,hX];refine dm (by kernel_rfl) rfl rfl (cm ?_);have hw:IntKind.i64.wrap ((left:Int)-1)=(left-1:Nat):=by rw[aB (by omega)];omega
 have hmin:(if (42:Int)<t.size then (42:Int) else t.size)=(min t.size 42:Nat):=by split<;>omega
 simp -implicitDefEqProofs [x86_w,x86_r,D.vw2,D.v,hw,hmin];have hcut:(D.mk k n t l).cut left deep=(.mk k n (Cx t) (D.cuts l (left-1) deep).1,(D.cuts l (left-1) deep).2):=by simp only[D.cut]
 refine⟨by omega,ja (I62 a b (.cells [.c (.int .i64 0),.c (.int .i64 0),.c (.string ⟨#[]⟩),.sl [] .nil]) l k n t (left-1) deep) (left-1) (by omega)
  ⟨⟨[],[],.nil,by simp,?_,by simp,rfl,.inl ⟨rfl,rfl⟩⟩,?_,?_,?_,?_,?_,rfl⟩ ?_⟩
 ·simp[au]
 ·simp[au,bD]
 ·simp[au,bD]
 ·simp[au]
 ·simp[au]
 ·simp[au]
 ·refine Dt ha hb (by omega) hdeep (fun x hx left' h1 h2 h3=>ih x hx left' (deep-1) m a b ha hb h1 (by omega) (by omega) (by omega) (by omega)) fun s si rest hh h6 h7 hbs=>?_
  obtain⟨e,h,base,rb⟩:=s;simp only at hh h6 h7 hbs;subst hh hbs;have hlow:=D.low 3 (.mk k n (Cx t) (D.cuts l (left-1) deep).1);simp only[D.v] at hlow;simp -implicitDefEqProofs [x86_r,fM,h6,h7,hcut,D.v,hlow,ha,hb,ba,V.lows]
theorem DO (d:D) (left deep n:Nat) (h0:0<left) (hleft:left<1099511627776) (hd0:0<deep) (hdeep:deep<1099511627776) (hn:left+deep+1≤n):aV (n+1) 32 [d.v,.c (.int .i64 left),.c (.int .i64 deep)] (d.cut left deep).1.v:=by
 refine azz (by simp[D.vw2,V.lows,D.low,DX,V.low]) ?_;have hc:=EV d left deep n (.cells d.v.cells) (.cells [.c (.int .i64 0),.c (.int .i64 0),.c (.string ⟨#[]⟩),.sl [] .nil]) (ap 3 d) (by simp[ba,V.lows,V.low,SI.low]) h0 hleft hd0 hdeep hn;simp -implicitDefEqProofs [x32_w,x32_r,D.vw2,D.okc,D.rd,ab,ae,hc,D.vw,D.low]
theorem ES (d:D) (n:Nat) (hn:4022≤n):aV (n+1) 8 [d.v] (d.cut 3000 1005).1.v:=by
 obtain⟨m,rfl⟩:∃m',n=m'+1:=⟨n-1,by omega⟩
 refine azz (by simp[D.vw2,V.lows,D.low]) ?_;have hc:∀h,call X E (m+1) 32 [d.v,.c (.int .i64 3000),.c (.int .i64 1005)] h=some ((d.cut 3000 1005).1.v,h):=DO d 3000 1005 m (by omega) (by omega) (by omega) (by omega) (by omega);simp -implicitDefEqProofs [x8_w,x8_r,D.vw2,D.okc,D.rd,ab,ae,hc,D.vw,D.low]
mutual
theorem D.cut_sz:∀(d:D) (left deep:Nat),0<left→(d.cut left deep).1.sz+(d.cut left deep).2=left
 | .mk k n t l,left,deep,h=>by
  simp only[D.cut,D.sz];have:=D.cuts_sz l (left-1) deep;omega
theorem D.cuts_sz:∀(l:List D) (left deep:Nat),D.szs (D.cuts l left deep).1+(D.cuts l left deep).2=left
 | [],left,deep=>by simp[D.cuts,D.szs]
 | d::l,left,deep=>by
  simp only[D.cuts];split
  ·rename_i h;have h1:=D.cut_sz d left (deep-1) h.2;have h2:=D.cuts_sz l (d.cut left (deep-1)).2 deep;simp only[D.szs];omega
  ·simp[D.szs]
end
theorem D.cut_small (d:D) (left deep:Nat) (h:0<left):(d.cut left deep).1.sz≤left:=by have:=D.cut_sz d left deep h;omega
theorem dl (a b:ByteArray):eqS a b=decide (a=b):=by
 rw[Bool.eq_iff_iff];simp only[eqS,beq_iff_eq,dT,ByteArray.toList_eq];constructor
 ·intro h;obtain⟨⟨a⟩⟩:=a;obtain⟨⟨b⟩⟩:=b;simp only at h;rw[h]
 ·intro h;rw[h]
def wds:List ByteArray:=[⟨#[113,117,111,116,101]⟩,⟨#[105,102]⟩,⟨#[108,101,116]⟩,⟨#[99,97,108,108]⟩,⟨#[99,111,110,115,116]⟩,⟨#[118,97,114]⟩,⟨#[97,114,103]⟩,⟨#[112,114,105,109]⟩,⟨#[110,97,109,101]⟩,⟨#[108,105,102,116]⟩,⟨#[115,105,102]⟩,⟨#[100,105,102]⟩,⟨#[115,108,101,116]⟩,⟨#[100,108,101,116]⟩,⟨#[100,112,114,105,109]⟩,⟨#[100,99,97,108,108]⟩,⟨#[102,110]⟩,⟨#[114,101,99]⟩,⟨#[115,101,113]⟩,⟨#[117,112]⟩,⟨#[43]⟩,⟨#[45]⟩,⟨#[42]⟩,⟨#[113,117,111,116]⟩,⟨#[114,101,109]⟩,⟨#[60]⟩,⟨#[61]⟩,⟨#[99,111,110,115]⟩,⟨#[102,105,114,115,116]⟩,⟨#[114,101,115,116]⟩,⟨#[99,111,117,110,116]⟩,⟨#[108,105,115,116,63]⟩,⟨#[110,117,109,63]⟩,⟨#[115,121,109,63]⟩,⟨#[109,97,114,107]⟩,⟨#[115,116,111,112]⟩]
def wnF:List ByteArray→ByteArray→Nat→Nat
 | [],_,_=>99
 | w::r,t,k=>if t=w then k else wnF r t (k+1)
def wn (t:ByteArray):Nat:=wnF wds t 0
theorem zt:∀(l:List ByteArray) (t:ByteArray) (k:Nat),k+l.length≤99→k≤wnF l t k
 | [],t,k,h=>by simp[wnF] at h ⊢;omega
 | w::r,t,k,h=>by
  unfold wnF;simp only[lC] at h;split
  ·exact nL _
  ·have:=zt r t (k+1) (by omega);omega
theorem zm:∀(l:List ByteArray) (t:ByteArray) (k i:Nat),l.Pairwise (· ≠ ·)→k+l.length≤99→(h:i<l.length)→(t=l[i]↔wnF l t k=k+i)
 | w::r,t,k,0,hp,hl,h=>by
  simp only[List.getElem_cons_zero,wnF];by_cases ht:t=w
  ·simp[ht]
  ·simp only[ht,if_false,false_iff];have:=zt r t (k+1) (by simp only[lC] at hl;omega);omega
 | w::r,t,k,i+1,hp,hl,h=>by
  simp only[List.getElem_cons_succ,wnF];simp only[lC] at hl h;obtain⟨hp1,hp2⟩:=List.pairwise_cons.1 hp;have ih:=zm r t (k+1) i hp2 (by omega) (by omega);by_cases ht:t=w
  ·have hne:¬t=r[i]:=by rw[ht];exact hp1 _ (List.getElem_mem _)
   simp only[ht,if_true];rw[ht] at hne;constructor
   ·intro e;exact absurd e hne
   ·intro e;omega
  ·simp only[ht,if_false];rw[ih];omega
theorem D9:wds.Pairwise (· ≠ ·):=by decide
theorem eF (t:ByteArray) (i:Nat) (h:i<wds.length):t=wds[i]↔wn t=i:=by
 have:=zm wds t 0 i D9 (by decide) h;simpa[wn] using this
theorem aY (t:ByteArray) (i:Nat) (h:i<wds.length):eqS t wds[i]=(wn t==i):=by
 rw[dl,Bool.eq_iff_iff,dT,beq_iff_eq];exact eF t i h
theorem bd (a b:ByteArray):eqS a b=eqS b a:=by
 rw[dl,dl,Bool.eq_iff_iff,dT,dT];exact eq_comm
theorem Hf (t:ByteArray):(t=⟨#[113,117,111,116,101]⟩)=(wn t=0):=propext (eF t 0 (by decide))
theorem GY (t:ByteArray):(t=⟨#[105,102]⟩)=(wn t=1):=propext (eF t 1 (by decide))
theorem In (t:ByteArray):ee .eql t ⟨#[105,102]⟩=some (.c (.bool (wn t==1))):=by rw[aK];exact congrArg _ (congrArg _ (congrArg _ (aY t 1 (by decide))))
theorem Hk (t:ByteArray):(t=⟨#[108,101,116]⟩)=(wn t=2):=propext (eF t 2 (by decide))
theorem HG (t:ByteArray):ee .eql t ⟨#[108,101,116]⟩=some (.c (.bool (wn t==2))):=by rw[aK];exact congrArg _ (congrArg _ (congrArg _ (aY t 2 (by decide))))
theorem HD (t:ByteArray):ee .neq t ⟨#[108,101,116]⟩=some (.c (.bool !(wn t==2))):=by rw[fy];exact congrArg (fun x=>some (V.c (.bool !x))) (aY t 2 (by decide))
theorem H9 (t:ByteArray):(t=⟨#[99,97,108,108]⟩)=(wn t=3):=propext (eF t 3 (by decide))
theorem Ie (t:ByteArray):ee .eql t ⟨#[99,97,108,108]⟩=some (.c (.bool (wn t==3))):=by rw[aK];exact congrArg _ (congrArg _ (congrArg _ (aY t 3 (by decide))))
theorem Il (t:ByteArray):ee .neq t ⟨#[99,97,108,108]⟩=some (.c (.bool !(wn t==3))):=by rw[fy];exact congrArg (fun x=>some (V.c (.bool !x))) (aY t 3 (by decide))
theorem HL (t:ByteArray):ee .eql t ⟨#[99,111,110,115,116]⟩=some (.c (.bool (wn t==4))):=by rw[aK];exact congrArg _ (congrArg _ (congrArg _ (aY t 4 (by decide))))
theorem Ir (t:ByteArray):ee .eql t ⟨#[118,97,114]⟩=some (.c (.bool (wn t==5))):=by rw[aK];exact congrArg _ (congrArg _ (congrArg _ (aY t 5 (by decide))))
theorem HM (t:ByteArray):ee .eql t ⟨#[97,114,103]⟩=some (.c (.bool (wn t==6))):=by rw[aK];exact congrArg _ (congrArg _ (congrArg _ (aY t 6 (by decide))))
theorem Ih (t:ByteArray):ee .eql t ⟨#[112,114,105,109]⟩=some (.c (.bool (wn t==7))):=by rw[aK];exact congrArg _ (congrArg _ (congrArg _ (aY t 7 (by decide))))
theorem HE (t:ByteArray):(t=⟨#[110,97,109,101]⟩)=(wn t=8):=propext (eF t 8 (by decide))
theorem Ik (t:ByteArray):ee .eql t ⟨#[110,97,109,101]⟩=some (.c (.bool (wn t==8))):=by rw[aK];exact congrArg _ (congrArg _ (congrArg _ (aY t 8 (by decide))))
theorem Ic (t:ByteArray):(t=⟨#[108,105,102,116]⟩)=(wn t=9):=propext (eF t 9 (by decide))
theorem If (t:ByteArray):ee .eql t ⟨#[108,105,102,116]⟩=some (.c (.bool (wn t==9))):=by rw[aK];exact congrArg _ (congrArg _ (congrArg _ (aY t 9 (by decide))))
theorem FI (t:ByteArray):(t=⟨#[115,105,102]⟩)=(wn t=10):=propext (eF t 10 (by decide))
theorem GK (t:ByteArray):ee .eql t ⟨#[115,105,102]⟩=some (.c (.bool (wn t==10))):=by rw[aK];exact congrArg _ (congrArg _ (congrArg _ (aY t 10 (by decide))))
theorem FQ (t:ByteArray):(t=⟨#[100,105,102]⟩)=(wn t=11):=propext (eF t 11 (by decide))
theorem Gd (t:ByteArray):ee .eql t ⟨#[100,105,102]⟩=some (.c (.bool (wn t==11))):=by rw[aK];exact congrArg _ (congrArg _ (congrArg _ (aY t 11 (by decide))))
theorem FU (t:ByteArray):(t=⟨#[115,108,101,116]⟩)=(wn t=12):=propext (eF t 12 (by decide))
theorem FA (t:ByteArray):ee .eql t ⟨#[115,108,101,116]⟩=some (.c (.bool (wn t==12))):=by rw[aK];exact congrArg _ (congrArg _ (congrArg _ (aY t 12 (by decide))))
theorem GV (t:ByteArray):(t=⟨#[100,108,101,116]⟩)=(wn t=13):=propext (eF t 13 (by decide))
theorem Gp (t:ByteArray):ee .eql t ⟨#[100,108,101,116]⟩=some (.c (.bool (wn t==13))):=by rw[aK];exact congrArg _ (congrArg _ (congrArg _ (aY t 13 (by decide))))
theorem Ga (t:ByteArray):(t=⟨#[100,112,114,105,109]⟩)=(wn t=14):=propext (eF t 14 (by decide))
theorem GB (t:ByteArray):ee .eql t ⟨#[100,112,114,105,109]⟩=some (.c (.bool (wn t==14))):=by rw[aK];exact congrArg _ (congrArg _ (congrArg _ (aY t 14 (by decide))))
theorem Gx (t:ByteArray):(t=⟨#[100,99,97,108,108]⟩)=(wn t=15):=propext (eF t 15 (by decide))
theorem Gm (t:ByteArray):ee .eql t ⟨#[100,99,97,108,108]⟩=some (.c (.bool (wn t==15))):=by rw[aK];exact congrArg _ (congrArg _ (congrArg _ (aY t 15 (by decide))))
theorem C8 (t:ByteArray):(t=⟨#[102,110]⟩)=(wn t=16):=propext (eF t 16 (by decide))
theorem DH (t:ByteArray):(t=⟨#[114,101,99]⟩)=(wn t=17):=propext (eF t 17 (by decide))
theorem DK (t:ByteArray):(t=⟨#[115,101,113]⟩)=(wn t=18):=propext (eF t 18 (by decide))
theorem D6 (t:ByteArray):(t=⟨#[117,112]⟩)=(wn t=19):=propext (eF t 19 (by decide))
theorem Fu (t:ByteArray):ee .eql t ⟨#[43]⟩=some (.c (.bool (wn t==20))):=by rw[aK];exact congrArg _ (congrArg _ (congrArg _ (aY t 20 (by decide))))
theorem FZ (t:ByteArray):ee .eql t ⟨#[45]⟩=some (.c (.bool (wn t==21))):=by rw[aK];exact congrArg _ (congrArg _ (congrArg _ (aY t 21 (by decide))))
theorem FX (t:ByteArray):ee .eql t ⟨#[42]⟩=some (.c (.bool (wn t==22))):=by rw[aK];exact congrArg _ (congrArg _ (congrArg _ (aY t 22 (by decide))))
theorem FY (t:ByteArray):ee .eql t ⟨#[113,117,111,116]⟩=some (.c (.bool (wn t==23))):=by rw[aK];exact congrArg _ (congrArg _ (congrArg _ (aY t 23 (by decide))))
theorem FJ (t:ByteArray):ee .eql t ⟨#[114,101,109]⟩=some (.c (.bool (wn t==24))):=by rw[aK];exact congrArg _ (congrArg _ (congrArg _ (aY t 24 (by decide))))
theorem E6 (t:ByteArray):ee .eql t ⟨#[60]⟩=some (.c (.bool (wn t==25))):=by rw[aK];exact congrArg _ (congrArg _ (congrArg _ (aY t 25 (by decide))))
theorem Gy (t:ByteArray):ee .eql t ⟨#[61]⟩=some (.c (.bool (wn t==26))):=by rw[aK];exact congrArg _ (congrArg _ (congrArg _ (aY t 26 (by decide))))
theorem EU (t:ByteArray):ee .eql t ⟨#[99,111,110,115]⟩=some (.c (.bool (wn t==27))):=by rw[aK];exact congrArg _ (congrArg _ (congrArg _ (aY t 27 (by decide))))
theorem GD (t:ByteArray):ee .eql t ⟨#[102,105,114,115,116]⟩=some (.c (.bool (wn t==28))):=by rw[aK];exact congrArg _ (congrArg _ (congrArg _ (aY t 28 (by decide))))
theorem Fq (t:ByteArray):ee .eql t ⟨#[114,101,115,116]⟩=some (.c (.bool (wn t==29))):=by rw[aK];exact congrArg _ (congrArg _ (congrArg _ (aY t 29 (by decide))))
theorem Fy (t:ByteArray):ee .eql t ⟨#[99,111,117,110,116]⟩=some (.c (.bool (wn t==30))):=by rw[aK];exact congrArg _ (congrArg _ (congrArg _ (aY t 30 (by decide))))
theorem GL (t:ByteArray):ee .eql t ⟨#[108,105,115,116,63]⟩=some (.c (.bool (wn t==31))):=by rw[aK];exact congrArg _ (congrArg _ (congrArg _ (aY t 31 (by decide))))
theorem FB (t:ByteArray):ee .eql t ⟨#[110,117,109,63]⟩=some (.c (.bool (wn t==32))):=by rw[aK];exact congrArg _ (congrArg _ (congrArg _ (aY t 32 (by decide))))
theorem EZ (t:ByteArray):ee .eql t ⟨#[115,121,109,63]⟩=some (.c (.bool (wn t==33))):=by rw[aK];exact congrArg _ (congrArg _ (congrArg _ (aY t 33 (by decide))))
theorem F7 (t:ByteArray):ee .eql t ⟨#[109,97,114,107]⟩=some (.c (.bool (wn t==34))):=by rw[aK];exact congrArg _ (congrArg _ (congrArg _ (aY t 34 (by decide))))
theorem Fn (t:ByteArray):ee .eql t ⟨#[115,116,111,112]⟩=some (.c (.bool (wn t==35))):=by rw[aK];exact congrArg _ (congrArg _ (congrArg _ (aY t 35 (by decide))))
attribute [simp] In HG HD Ie Il HL Ir HM Ih Ik If GK Gd FA Gp GB Gm Fu FZ FX FY FJ E6 Gy EU GD Fq Fy GL FB EZ F7 Fn
@[simp] theorem EO (cf:aw) (b:Bool) (op:XOp) (s:SF):gB cf aE b op s=some (aE,s.h):=by cases b<;>rfl
theorem d6 {n f k:Nat}{xf:XF}{args:List V}{r:V}{h:List O}(hE:E f=none) (hX:X f=some xf) (hk:args.length=k) (hx:tA xf k=true) (hp:xf.pure=false∧xf.esc=false) (hr:r.low h.length=true) (hh:aU h)
  (hw:wpk (call X E n) n xf.body [] (Fin (fun vs s=>(bG vs).vw=r∧s.take h.length=h) xf) ⟨bD (args.map V.vw2),h,h.length,0⟩) (ha:xf.asg=none:=by rfl):call X E (n+1) f args h=some (r,h):=by
 simp only[call,hE,hX,ha];subst hk;refine dm hx hp.1 hp.2 (du _ (fun e s hq=>?_) (cm hw));cases e with
 | exit id=>exact hq
 | normal=>exact cF (fun vs hv=>⟨hv.1,hr,hv.2,hh⟩) hq
 | ret=>exact cF (fun vs hv=>⟨hv.1,hr,hv.2,hh⟩) hq
def D.tx:D→ByteArray|.mk _ _ t _=>t
def D.kd:D→Int|.mk k _ _ _=>k
def D.nu:D→Int|.mk _ i _ _=>i
def D.z0:D:=.mk 0 0 ⟨#[]⟩ []
def D.kid (d:D) (j:Nat):D:=d.kids.getD j .z0
def rsv (t:ByteArray):Bool:=wn t==3||(wn t==16||(wn t==1||(wn t==2||(wn t==0||(wn t==17||(wn t==18||wn t==19))))))
def D.nm (d:D):Bool:=d.kd==2 && !rsv d.tx
def D.lab (d:D):Bool:=if d.kd=1 then decide (0≤d.nu)&&decide (d.nu≤2147483647) else d.nm
def D.sml (d:D):Bool:=d.kd==1&&(decide (0≤d.nu)&&decide (d.nu<8))
theorem C0 (a b:ByteArray):cX none (.string a) (.string b)=some (decide (a=b)):=rfl
theorem qV (t:ByteArray) (h:List O):pl (.fmp [.string ⟨#[99,97,108,108]⟩,.string ⟨#[102,110]⟩,.string ⟨#[105,102]⟩,.string ⟨#[108,101,116]⟩,.string ⟨#[113,117,111,116,101]⟩,.string ⟨#[114,101,99]⟩,.string ⟨#[115,101,113]⟩,.string ⟨#[117,112]⟩] [.c (.bool true),.c (.bool true),.c (.bool true),.c (.bool true),.c (.bool true),.c (.bool true),.c (.bool true),.c (.bool true)]) none (.c (.string t)) (.c (.bool false)) false h=some (.c (.bool (rsv t)),h):=by
 simp only[fY,pN,gj,gr,C0,H9,C8,GY,Hk,Hf,DH,DK,D6,rsv];generalize wn t=w;by_cases h3:w=3
 ·simp[h3,ma]
 by_cases h16:w=16
 ·simp[h16,ma]
 by_cases h1:w=1
 ·simp[h1,ma]
 by_cases h2:w=2
 ·simp[h2,ma]
 by_cases h0:w=0
 ·simp[h0,ma]
 by_cases h17:w=17
 ·simp[h17,ma]
 by_cases h18:w=18
 ·simp[h18,ma]
 by_cases h19:w=19
 ·simp[h19,ma]
 simp[h3,h16,h1,h2,h0,h17,h18,h19,ma]
theorem tB (d:D){n:Nat}:aV (n+1) 115 [d.v] (.c (.bool d.nm)):=by
 obtain⟨k,i,t,l⟩:=d;refine azz (by simp[D.vw2,V.lows,D.low]) ?_;by_cases hk:k=2
 ·subst hk;simp -implicitDefEqProofs [-fY,x115_w,x115_r,D.vw2,D.v,qV,D.nm,D.kd,D.tx]
 ·have:(k==2)=false:=by simp[hk]
  simp -implicitDefEqProofs [-fY,x115_w,x115_r,D.vw2,D.v,qV,this,D.nm,D.kd,D.tx]
theorem BU (d:D){n:Nat}:aV (n+2) 106 [d.v] (.c (.bool d.lab)):=by
 have c115:∀h,call X E (n+1) 115 [d.v] h=some (.c (.bool d.nm),h):=tB d;refine azz (by simp[D.vw2,V.lows,D.low]) ?_;generalize call X E (n+1)=cf at *;obtain⟨k,i,t,l⟩:=d;by_cases hk:k=1
 ·subst hk;by_cases h0:0≤i
  ·simp -implicitDefEqProofs [x106_w,x106_r,D.vw2,D.v,D.lab,D.kd,D.nu,h0]
   try rfl
  ·simp -implicitDefEqProofs [x106_w,x106_r,D.vw2,D.v,D.lab,D.kd,D.nu,h0]
   try rfl
 ·have hb:(k==1)=false:=by simp[hk]
  have hl:(D.mk k i t l).lab=(D.mk k i t l).nm:=by simp[D.lab,D.kd,hk]
  rw[hl];generalize (D.mk k i t l).nm=b at *;simp only[D.v] at c115;simp -implicitDefEqProofs [x106_w,x106_r,D.vw2,D.v,hb,c115]
theorem Hc (d:D){n:Nat}:aV (n+1) 50 [d.v] (.c (.bool d.sml)):=by
 obtain⟨k,i,t,l⟩:=d;refine azz (by simp[D.vw2,V.lows,D.low]) ?_;by_cases hk:k=1
 ·subst hk;by_cases h0:0≤i
  ·simp -implicitDefEqProofs [x50_w,x50_r,D.vw2,D.v,D.sml,D.kd,D.nu,h0]
   try rfl
  ·simp -implicitDefEqProofs [x50_w,x50_r,D.vw2,D.v,D.sml,D.kd,D.nu,h0]
   try rfl
 ·have hb:(k==1)=false:=by simp[hk]
  simp -implicitDefEqProofs [x50_w,x50_r,D.vw2,D.v,D.sml,D.kd,D.nu,hb]
theorem Hd (d:D){n:Nat}:aV (n+1) 36 [d.v] (.c (.bool d.sml)):=by
 obtain⟨k,i,t,l⟩:=d;refine azz (by simp[D.vw2,V.lows,D.low]) ?_;by_cases hk:k=1
 ·subst hk;by_cases h0:0≤i
  ·simp -implicitDefEqProofs [x36_w,x36_r,D.vw2,D.v,D.sml,D.kd,D.nu,h0]
   try rfl
  ·simp -implicitDefEqProofs [x36_w,x36_r,D.vw2,D.v,D.sml,D.kd,D.nu,h0]
   try rfl
 ·have hb:(k==1)=false:=by simp[hk]
  simp -implicitDefEqProofs [x36_w,x36_r,D.vw2,D.v,D.sml,D.kd,D.nu,hb]
theorem It (d:D){n:Nat}:gw (n+2) 49 [d.v] (.c (.bool !d.sml)):=by
 have c50:∀h,call X E (n+1) 50 [d.v] h=some (.c (.bool d.sml),h):=Hc d;refine gm rfl rfl rfl (by kernel_rfl) ⟨rfl,rfl⟩ (by simp[V.low]) fun h hh=>?_
 generalize call X E (n+1)=cf at *;generalize D.sml d=b at *;simp -implicitDefEqProofs [x49_w,x49_r,D.vw2,D.okc,D.rd,lD,kU,c50]
def fix {α:Type}(p:α→Bool):List α→Nat→Int
 | [],_ => -1
 | x::l,i=>if p x=true then i else fix p l (i+1)
theorem g9 {α:Type}(p:α→Bool):∀(l:List α) (i:Nat),decide (fix p l i≥0)=l.any p
 | [],i=>rfl
 | x::l,i=>by
  rw[List.any_cons,fix];by_cases h:p x=true
  ·simp[h]
  ·have h':p x=false:=by simpa using h
   simp only[h',Bool.false_eq_true,if_false,Bool.false_or];exact g9 p l (i+1)
theorem fO {α:Type}(p:α→Bool){l:List α}{j:Nat}(h:j<l.length):fix p (l.drop j) j=if p l[j]=true then (j:Int) else fix p (l.drop (j+1)) (j+1):=by
 rw[dC h,fix]
theorem FH {n:Nat}{l:List D}{i:SI}{fv:V}{p:D→Bool}{h:List O}(hl:l.length<4611686018427387904) (hn:l.length<n) (hf:fv.vw2=fv) (hh:aU h) (hc:∀x∈l,cW (call X E n) fv [x.v] h=some (.c (.bool (p x)),h)) :
  call X E (n+1) 105 [.sl (D.vs l) i,fv] h=some (.c (.int .i64 (fix p l 0)),h):=by
 refine d6 rfl rfl rfl (by kernel_rfl) ⟨rfl,rfl⟩ (by simp[V.low]) hh ?_;have hsl:=aa l;simp -implicitDefEqProofs [x105_w,aD,hf,hsl];obtain⟨J,hJ⟩:∃J:Nat→SF→Prop,J=fun k s=>∃j,j+k=l.length∧s.e 8=.c (.int .i64 j)∧s.h=h∧fix p l 0=fix p (l.drop j) j:=⟨_,rfl⟩
 refine aX J l.length hn (by rw[hJ];exact⟨0,by simp,by simp[au],rfl,by simp⟩) ?_;rintro k ⟨e,h',base,rb⟩ hj he hb;rw[hJ] at hj;obtain⟨j,hj,e8,hh',hfx⟩:=hj;have e0:=he 0 rfl;have e1:=he 1 rfl;have e7:=he 7 rfl;simp[au,bD] at e0 e1 e7 hb;simp only at e8 hh';subst hb hh';by_cases hm:j<l.length
 ·have hlt:(j:Int)<l.length:=by omega
  have hx:=hc _ (List.getElem_mem hm);have hw:IntKind.i64.wrap ((j:Int)+1)=(j:Int)+1:=aB (by omega);rw[fO p hm] at hfx;cases hp:p l[j] with
  | true =>
   rw[hp] at hx hfx;simp -implicitDefEqProofs [x105l8_w,x105_r,e0,e1,e7,e8,hsl,hlt,hm,ac,ab,D.rd,hx,hfx]
  | false =>
   rw[hp] at hx hfx;simp -implicitDefEqProofs [x105l8_w,e0,e1,e7,e8,hsl,hlt,hm,ac,ab,D.rd,hx];refine⟨k-1,by omega,?_⟩;rw[hJ];exact⟨j+1,by omega,by simp[au,hw],rfl,by simpa using hfx⟩
 ·have hlt:¬(j:Int)<l.length:=by omega
  obtain rfl:j=l.length:=by omega
  have hfx:fix p l 0 = -1:=by rw[hfx,List.drop_length,fix]
  simp -implicitDefEqProofs [x105l8_w,x105_r,e0,e1,e7,e8,hfx]
theorem GT {n:Nat}{l:List D}{i:SI}{fv:V}{p:D→Bool}{h:List O}(hl:l.length<4611686018427387904) (hn:l.length<n) (hf:fv.vw2=fv) (hh:aU h) (hc:∀x∈l,cW (call X E n) fv [x.v] h=some (.c (.bool (p x)),h)) :
  call X E (n+2) 48 [.sl (D.vs l) i,fv] h=some (.c (.bool (l.any p)),h):=by
 have c105:=FH (i:=.any) hl hn hf hh hc;refine d6 rfl rfl rfl (by kernel_rfl) ⟨rfl,rfl⟩ (by simp[V.low]) hh ?_;generalize call X E (n+1)=cf at *;have ha:=g9 p l 0;generalize D.vs l=U at *;simp -implicitDefEqProofs [x48_w,x48_r,aD,hf,c105,ha]
def Grows (z:Nat) (us:List V) (si:SI) (h:List O):Prop:=(us=[]∧(si=.nil∨si=.full))∨∃q,si=.tok q∧h[q]?=some (.tok us.length z)
def Keeps (h h':List O):Prop:=∀(id:Nat) (cs:List V),h[id]?=some (O.cells cs)→h'[id]?=some (O.cells cs)
theorem Keeps.rfl' (h:List O):Keeps h h:=fun _ _ e=>e
theorem Keeps.set {h:List O}{i:Nat}(o:O) (hi:∀cs,h[i]?≠some (O.cells cs)):Keeps h (h.set i o):=fun id cs e=>by
 rw[sN]
 ·exact e
 ·rintro rfl;exact hi cs e
theorem Grows.app {z:Nat}{us:List V}{si:SI}{h:List O}(hG:Grows z us si h) (pre:List O):Grows z us si (h++pre):=by
 rcases hG with h1|⟨q,h1,h2⟩
 ·exact .inl h1
 ·exact .inr ⟨q,h1,by rw[aL (gS.1 h2).1];exact h2⟩
theorem Grows.nil (z:Nat) (h:List O):Grows z [] .nil h:=.inl ⟨rfl,.inl rfl⟩
theorem Grows.full (z:Nat) (h:List O):Grows z [] .full h:=.inl ⟨rfl,.inr rfl⟩
theorem sH {us:List V}{si:SI}{ws:List V}{al b:Nat}{zz:Option Nat}{h:List O}(hG:Grows (zc zz) us si h) (hd:h[al]?=some .dead∨h[al]?=some .want) :
  ∃si' h',gJ 0 al b zz false h us si ws=some (.sl (us++ws) si',h')∧Grows (zc zz) (us++ws) si' h'∧h'.length=h.length∧Keeps h h'∧(∀m,(∀q,si=.tok q→m≤q)→m≤al→h'.take m=h.take m∧∀q,si'=.tok q→m≤q):=by
 cases ws with
 | nil=>exact⟨si,h,by rw[dw,List.append_nil],by rw[List.append_nil];exact hG,rfl,.rfl' h,fun m h1 h2=>⟨rfl,h1⟩⟩
 | cons w ws =>
  rcases hG with⟨rfl,hsi⟩|⟨q,rfl,hq⟩
  ·have hl:al<h.length:=by rcases hd with hd|hd<;>exact (gS.1 hd).1
   refine⟨.tok al,h.set al (.tok (([]:List V).length+(w::ws).length) (zc zz)),?_,.inr ⟨al,rfl,?_⟩,by simp,.set _ fun cs e=>?_,fun m h1 h2=>⟨?_,fun q e=>?_⟩⟩
   ·rcases hsi with rfl|rfl<;>rcases hd with hd|hd
    ·exact fR 0 al b zz h [] ws w hd
    ·exact fJ 0 al b zz h [] ws w hd
    ·exact dM 0 al b zz h [] ws w hd
    ·exact eJ 0 al b zz h [] ws w hd
   ·rw[sS hl];simp
   ·rcases hd with hd|hd<;>rw[hd] at e<;>cases e
   ·exact List.take_set_of_le h2
   ·cases e;exact h2
  ·have hl:q<h.length:=(gS.1 hq).1;refine⟨.tok q,h.set q (.tok (us.length+(w::ws).length) (zc zz)),dV 0 al b q zz false h us ws w hq,.inr ⟨q,rfl,?_⟩,by simp,.set _ fun cs e=>?_,fun m h1 h2=>⟨?_,fun q' e=>?_⟩⟩
   ·rw[sS hl];simp
   ·rw[hq] at e;cases e
   ·exact List.take_set_of_le (h1 q rfl)
   ·cases e;exact h1 q rfl
theorem qI {cf:aw}{n:Nat}{K:List Fr}{Q:Ex→SF→Prop}{s:SF}{us:List V}{si:SI}{ws:List V}{al b:Nat}{zz:Option Nat}{h:List O}{d:Option Nat}{r:List XOper}(hG:Grows (zc zz) us si h) (hd:h[al]?=some .dead∨h[al]?=some .want)
  (hq:∀si' h',Grows (zc zz) (us++ws) si' h'→h'.length=h.length→Keeps h h'→(∀m,(∀q,si=.tok q→m≤q)→m≤al→h'.take m=h.take m∧∀q,si'=.tok q→m≤q)→sG cf n r K Q ⟨nU s.e d (.sl (us++ws) si'),h',s.base,s.rb⟩):gvk cf n (gJ 0 al b zz false h us si ws) d r K Q s:=by
 obtain⟨si',h',h1,h2,h3,h4,h5⟩:=sH (b:=b) (ws:=ws) hG hd;rw[h1,ct];exact hq si' h' h2 h3 h4 h5
theorem qf (h:List O) (x:O):(h++[x])[h.length]?=some x:=by simp
theorem q9 (h:List O) (x y:O):(h++[x,y])[h.length+1]?=some y:=dP h x y
theorem jp (h:List O) (x y z:O):(h++[x,y,z])[h.length+2]?=some z:=by
 rw[aR (by omega)];simp
theorem yO (h:List O) (a:O) (t:List O):(h++a::t)[h.length]?=some a:=by
 rw[aR (nL _)];simp
theorem jk (h:List O) (a b:O) (t:List O):(h++a::b::t)[h.length+1]?=some b:=by
 rw[aR (by omega)];simp
theorem bU {h:List O}{i:Nat}{o:O}(h0:h[i]?=some o) (pre:List O):(h++pre)[i]?=some o:=by
 rw[aL (gS.1 h0).1];exact h0
def ss (l:List ByteArray):List V:=l.map fun s=>.c (.string s)
theorem bI (l:List ByteArray):(ss l).length=l.length:=by simp[ss]
theorem eW (m:Nat) (l:List ByteArray):V.lows m (ss l)=true:=cq fun v hv=>by
 obtain⟨s,_,rfl⟩:=List.mem_map.1 hv;rfl
theorem x4 (l:List ByteArray):Ab.hz 1 (ss l)=true:=by cases l<;>rfl
theorem my (a b:List ByteArray):ss (a++b)=ss a++ss b:=by simp[ss]
theorem ju {l:List ByteArray}{j:Nat}(h:j<(ss l).length):(ss l)[j]=.c (.string (l[j]'(by rwa [bI] at h))):=by simp[ss]
def inB (l:List ByteArray) (t:ByteArray):Bool:=l.any fun a=>eqS t a
theorem wC (a:ByteArray) (l:List ByteArray) (t:ByteArray):inB (a::l) t=(eqS a t||inB l t):=by
 unfold inB;rw[List.any_cons,bd]
theorem z6 (t:ByteArray):inB [] t=false:=rfl
theorem Gs (l:List ByteArray) (i:SI) (t:ByteArray){n:Nat}(hn:l.length<n) (hl:l.length<1099511627776):aV (n+1) 157 [.sl (ss l) i,.c (.string t)] (.c (.int .i64 (fix (fun a=>eqS t a) l 0))):=by
 refine azz (by simp[aD,V.lows,V.low,eW,SI.low]) ?_;generalize call X E n=cf at *;have hsl:=bI l;simp -implicitDefEqProofs [x157_w,hsl];obtain⟨J,hJ⟩:∃J:Nat→SF→Prop,J=fun k s=>∃j,j+k=l.length∧s.e 8=.c (.int .i64 j)∧fix (fun a=>eqS t a) l 0=fix (fun a=>eqS t a) (l.drop j) j:=⟨_,rfl⟩
 refine aX J l.length hn (by rw[hJ];exact⟨0,by simp,by simp[au],by simp⟩) ?_;rintro k ⟨e,h,base,rb⟩ hj he hb;rw[hJ] at hj;obtain⟨j,hj,e8,hfx⟩:=hj;have e0:=he 0 rfl;have e1:=he 1 rfl;have e7:=he 7 rfl;simp[au,bD] at e0 e1 e7 hb;simp only at e8;subst hb;by_cases hm:j<l.length
 ·have hlt:(j:Int)<l.length:=by omega
  have hw:IntKind.i64.wrap ((j:Int)+1)=(j:Int)+1:=aB (by omega);have hvg:(ss l)[j]'(by omega)=.c (.string l[j]):=ju _;rw[fO _ hm] at hfx;cases hp:eqS t l[j] with
  | true =>
   rw[hp] at hfx;generalize l[j]=x at *;simp -implicitDefEqProofs [x157l8_w,x157_r,e0,e1,e7,e8,hsl,hvg,hlt,hm,aK,hp,hfx]
  | false =>
   rw[hp] at hfx;generalize l[j]=x at *;simp -implicitDefEqProofs [x157l8_w,e0,e1,e7,e8,hsl,hvg,hlt,hm,aK,hp];refine⟨k-1,by omega,?_⟩;rw[hJ];exact⟨j+1,by omega,by simp[au,hw],by simpa using hfx⟩
 ·have hlt:¬(j:Int)<l.length:=by omega
  obtain rfl:j=l.length:=by omega
  have hfx:fix (fun a=>eqS t a) l 0 = -1:=by rw[hfx,List.drop_length,fix]
  simp -implicitDefEqProofs [x157l8_w,x157_r,e0,e1,e7,e8,hfx]
theorem BW (l:List ByteArray) (i:SI) (t:ByteArray){n:Nat}(hn:l.length<n) (hl:l.length<1099511627776):aV (n+2) 110 [.sl (ss l) i,.c (.string t)] (.c (.bool (inB l t))):=by
 have c1:∀h,call X E (n+1) 157 [.sl (ss l) .any,.c (.string t)] h=some (.c (.int .i64 (fix (fun a=>eqS t a) l 0)),h):=Gs l .any t hn hl;have ha:=g9 (fun a=>eqS t a) l 0;refine azz (by simp[aD,V.lows,V.low,eW,SI.low]) ?_;generalize call X E (n+1)=cf at *;have hin:inB l t=l.any (fun a=>eqS t a):=rfl;rw[hin];generalize ss l=U at *;simp -implicitDefEqProofs [x110_w,x110_r,aD,c1,ha]
theorem G0 (l:List ByteArray) (i:SI) (t:ByteArray){n:Nat}(hn:l.length<n) (hl:l.length<1099511627776):aV (n+1) 40 [.sl (ss l) i,.c (.string t)] (.c (.bool (inB l t))):=by
 refine azz (by simp[aD,V.lows,V.low,eW,SI.low]) ?_;generalize call X E n=cf at *;have hsl:=bI l;simp -implicitDefEqProofs [x40_w,hsl];obtain⟨J,hJ⟩:∃J:Nat→SF→Prop,J=fun k s=>∃j,j+k=l.length∧s.e 5=.c (.int .i64 j)∧inB l t=inB (l.drop j) t:=⟨_,rfl⟩
 refine aX J l.length hn (by rw[hJ];exact⟨0,by simp,by simp[au],by simp⟩) ?_;rintro k ⟨e,h,base,rb⟩ hj he hb;rw[hJ] at hj;obtain⟨j,hj,e5,hfx⟩:=hj;have e0:=he 0 rfl;have e1:=he 1 rfl;simp[au,bD] at e0 e1 hb;simp only at e5;subst hb;by_cases hm:j<l.length
 ·have hlt:(j:Int)<l.length:=by omega
  have hw:IntKind.i64.wrap ((j:Int)+1)=(j:Int)+1:=aB (by omega);have hvg:(ss l)[j]'(by omega)=.c (.string l[j]):=ju _;rw[dC hm,wC] at hfx;cases hp:eqS l[j] t with
  | true =>
   rw[hp] at hfx;simp only[Bool.true_or] at hfx;generalize l[j]=x at *;simp -implicitDefEqProofs [x40l7_w,x40_r,e0,e1,e5,hsl,hvg,hlt,hm,aK,hp,hfx]
  | false =>
   rw[hp] at hfx;generalize l[j]=x at *;simp -implicitDefEqProofs [x40l7_w,e0,e1,e5,hsl,hvg,hlt,hm,aK,hp];refine⟨k-1,by omega,?_⟩;rw[hJ];exact⟨j+1,by omega,by simp[au,hw],by simpa using hfx⟩
 ·have hlt:¬(j:Int)<l.length:=by omega
  obtain rfl:j=l.length:=by omega
  have hfx:inB l t=false:=by rw[hfx,List.drop_length,z6]
  simp -implicitDefEqProofs [x40l7_w,x40_r,e0,e1,e5,hsl,hfx]
def rws:List ByteArray:=[⟨#[113,117,111,116,101]⟩,⟨#[105,102]⟩,⟨#[102,110]⟩,⟨#[108,101,116]⟩,⟨#[114,101,99]⟩,⟨#[115,101,113]⟩,⟨#[117,112]⟩]
theorem GH {n:Nat}:aV (n+1) 195 [] (.sl (ss rws) .full):=by
 refine azz (by simp[V.lows]) ?_;have h:ss rws=[.c (.string ⟨#[113,117,111,116,101]⟩),.c (.string ⟨#[105,102]⟩),.c (.string ⟨#[102,110]⟩),.c (.string ⟨#[108,101,116]⟩),.c (.string ⟨#[114,101,99]⟩),.c (.string ⟨#[115,101,113]⟩),.c (.string ⟨#[117,112]⟩)]:=rfl;rw[h];simp -implicitDefEqProofs [x195_w,x195_r,V.low,V.lows,SI.low]
def rcd (t:ByteArray):Int:=if fix (fun a=>eqS a t) rws 0<0 then 0 else 3+fix (fun a=>eqS a t) rws 0
theorem ul {α:Type}(p:α→Bool):∀(l:List α) (i:Nat),fix p l i = -1∨(i:Int)≤fix p l i∧fix p l i<i+l.length
 | [],i=>.inl rfl
 | x::l,i=>by
  rw[fix];split
  ·right;simp;omega
  ·rcases ul p l (i+1) with h|h
   ·exact .inl h
   ·right;simp only[lC];omega
def rs7 (t:ByteArray):Bool:=wn t==0||(wn t==1||(wn t==16||(wn t==2||(wn t==17||(wn t==18||wn t==19)))))
theorem yo (t:ByteArray):(rcd t==0) = !rs7 t:=by
 have h1:=g9 (fun a=>eqS a t) rws 0;have h2:rws.any (fun a=>eqS a t)=rs7 t:=by
  simp only[rws,List.any_cons,List.any_nil,Bool.or_false,rs7];rw[bd _ t,bd _ t,bd _ t,bd _ t,bd _ t,bd _ t,bd _ t];simp only[dl,Hf,GY,C8,Hk,DH,DK,D6];rfl
 rw[h2] at h1;unfold rcd;have h3:=ul (fun a=>eqS a t) rws 0;generalize fix (fun a=>eqS a t) rws 0=z at *;cases hb:rs7 t with
 | true =>
  rw[hb,dT] at h1;rw[if_neg (by omega)];have:3+z≠0:=by omega
  simp[this]
 | false =>
  rw[hb,decide_eq_false_iff_not] at h1;rw[if_pos (by omega)];rfl
theorem FN (t:ByteArray){n:Nat}(hn:10<n):aV (n+1) 179 [.c (.string t)] (.c (.int .i64 (rcd t))):=by
 obtain⟨n,rfl⟩:∃n',n=n'+1:=⟨n-1,by omega⟩
 have c1:∀h,call X E (n+1) 195 [] h=some (.sl (ss rws) .full,h):=GH;refine azz (by simp[V.lows,V.low]) ?_;generalize call X E (n+1)=cf at *;have hrl:rws.length=7:=rfl;have hge:=ul (fun a=>eqS a t) rws 0;have hsl:=bI rws;rw[hrl] at hsl hge;unfold rcd;generalize hl:rws=l at *;simp -implicitDefEqProofs [x179_w,hsl,c1];obtain⟨J,hJ⟩:∃J:Nat→SF→Prop,J=fun k s=>∃j,j+k=l.length∧s.e 4=.c (.int .i64 j)∧fix (fun a=>eqS a t) l 0=fix (fun a=>eqS a t) (l.drop j) j:=⟨_,rfl⟩
 refine aX J l.length (by omega) (by rw[hJ];exact⟨0,by simp,by simp[au],by simp⟩) ?_;rintro k ⟨e,h,base,rb⟩ hj he hb;rw[hJ] at hj;obtain⟨j,hj,e4,hfx⟩:=hj;have e0:=he 0 rfl;have e3:=he 3 rfl;simp[au,bD] at e0 e3 hb;simp only at e4;subst hb;by_cases hm:j<l.length
 ·have hlt:(j:Int)<7:=by omega
  have hm7:j<7:=by omega
  have hw:IntKind.i64.wrap ((j:Int)+1)=(j:Int)+1:=aB (by omega);have hvg:(ss l)[j]'(by rw[hsl];omega)=.c (.string l[j]):=ju _;rw[fO _ hm] at hfx;cases hp:eqS l[j] t with
  | true =>
   simp only[hp,if_true] at hfx;generalize l[j]=x at *;have hw3:IntKind.i64.wrap (3+(j:Int))=3+(j:Int):=aB (by omega);rw[hfx];have hnl:¬(j:Int)<0:=by omega
   simp -implicitDefEqProofs [x179l8_w,x179_r,e0,e3,e4,hsl,hvg,hlt,hm7,aK,hp,hw3,hnl]
  | false =>
   simp only[hp,Bool.false_eq_true,if_false] at hfx;generalize l[j]=x at *;simp -implicitDefEqProofs [x179l8_w,e0,e3,e4,hsl,hvg,hlt,hm7,aK,hp];refine⟨k-1,by omega,?_⟩;rw[hJ];exact⟨j+1,by omega,by simp[au,hw],by simpa using hfx⟩
 ·have hlt:¬(j:Int)<7:=by omega
  obtain rfl:j=l.length:=by omega
  have hfx:fix (fun a=>eqS a t) l 0 = -1:=by rw[hfx,List.drop_length,fix]
  rw[hfx];simp -implicitDefEqProofs [x179l8_w,x179_r,e0,e3,e4,hsl,hlt]
theorem GP (t:ByteArray){n:Nat}(hn:62≤n):aV (n+1) 147 [.c (.string t)] (.c (.bool (ei t && !rs7 t))):=by
 obtain⟨m,rfl⟩:∃m,n=m+1:=⟨n-1,by omega⟩
 have c1:∀h,call X E (m+1) 125 [.c (.string t)] h=some (.c (.bool (ei t)),h):=cG (by rfl) (En (n:=m) (by omega) t);have c2:∀h,call X E (m+1) 179 [.c (.string t)] h=some (.c (.int .i64 (rcd t)),h):=FN t (by omega);have hz:=yo t;refine azz (by simp[V.lows,V.low]) ?_;generalize call X E (m+1)=cf at *;generalize rcd t=z at *;generalize rs7 t=b at *;cases hs:ei t with
 | false=>simp -implicitDefEqProofs [x147_w,x147_r,c1,c2,hs]
 | true=>simp -implicitDefEqProofs [x147_w,x147_r,c1,c2,hs,hz]
theorem Bu (t:ByteArray):rsv t=(rs7 t||wn t==3):=by
 unfold rsv rs7;generalize wn t=w;rw[Bool.eq_iff_iff];simp only[Bool.or_eq_true,beq_iff_eq];omega
theorem Fo (t:ByteArray){n:Nat}(hn:63≤n):aV (n+1) 94 [.c (.string t)] (.c (.bool (ei t && !rsv t))):=by
 obtain⟨m,rfl⟩:∃m,n=m+1:=⟨n-1,by omega⟩
 have c1:∀h,call X E (m+1) 147 [.c (.string t)] h=some (.c (.bool (ei t && !rs7 t)),h):=GP t (by omega);have hz:=Bu t;rw[hz];refine azz (by simp[V.lows,V.low]) ?_;generalize call X E (m+1)=cf at *;generalize rs7 t=b at *;cases hs:(ei t && !b) with
 | false =>
  rw[hs] at c1;have:(ei t && !(b||wn t==3))=false:=by revert hs;cases ei t<;>cases b<;>simp
  rw[this];simp -implicitDefEqProofs [x94_w,x94_r,c1]
 | true =>
  rw[hs] at c1;have:(ei t && !(b||wn t==3)) = !(wn t==3):=by revert hs;cases ei t<;>cases b<;>simp
  rw[this];simp -implicitDefEqProofs [x94_w,x94_r,c1]
def D.nmr (d:D):Bool:=d.kd==2&&(ei d.tx && !rsv d.tx)
theorem GM (d:D){n:Nat}(hn:64≤n):aV (n+1) 148 [d.v] (.c (.bool d.nmr)):=by
 obtain⟨m,rfl⟩:∃m,n=m+1:=⟨n-1,by omega⟩
 have c1:∀h,call X E (m+1) 94 [.c (.string d.tx)] h=some (.c (.bool (ei d.tx && !rsv d.tx)),h):=Fo d.tx (by omega);obtain⟨k,i,t,l⟩:=d;simp only[D.tx] at c1;refine azz (by simp[D.vw2,V.lows,D.low]) ?_;generalize call X E (m+1)=cf at *;simp only[D.nmr,D.kd,D.tx];generalize (ei t && !rsv t)=b at *;by_cases hk:k=2
 ·subst hk;simp -implicitDefEqProofs [x148_w,x148_r,D.vw2,D.v,c1]
 ·have hb:(k==2)=false:=by simp[hk]
  simp -implicitDefEqProofs [x148_w,x148_r,D.vw2,D.v,hb]
def D.labr (d:D):Bool:=if d.kd=2 then ei d.tx && !rsv d.tx else d.kd==1&&(decide (0≤d.nu)&&decide (d.nu<2147483648))
theorem G6 (d:D){n:Nat}(hn:64≤n):aV (n+1) 37 [d.v] (.c (.bool d.labr)):=by
 obtain⟨m,rfl⟩:∃m,n=m+1:=⟨n-1,by omega⟩
 have c1:∀h,call X E (m+1) 94 [.c (.string d.tx)] h=some (.c (.bool (ei d.tx && !rsv d.tx)),h):=Fo d.tx (by omega);obtain⟨k,i,t,l⟩:=d;simp only[D.tx] at c1;refine azz (by simp[D.vw2,V.lows,D.low]) ?_;generalize call X E (m+1)=cf at *;simp only[D.labr,D.kd,D.tx,D.nu];generalize (ei t && !rsv t)=b at *;by_cases hk:k=2
 ·subst hk;simp -implicitDefEqProofs [x37_w,x37_r,D.vw2,D.v,c1]
 ·have hb:(k==2)=false:=by simp[hk]
  by_cases hk1:k=1
  ·subst hk1;by_cases h0:0≤i
   ·simp -implicitDefEqProofs [x37_w,x37_r,D.vw2,D.v,h0]
    try rfl
   ·simp -implicitDefEqProofs [x37_w,x37_r,D.vw2,D.v,h0]
    try rfl
  ·have hb1:(k==1)=false:=by simp[hk1]
   simp -implicitDefEqProofs [x37_w,x37_r,D.vw2,D.v,hb,hb1,hk]
def D.wd (d:D):ByteArray:=if d.kd=3∧d.kids≠[]∧(d.kid 0).kd=2 then (d.kid 0).tx else ⟨#[]⟩
theorem Cp (d:D){n:Nat}:aV (n+1) 56 [d.v] (.c (.string d.wd)):=by
 obtain⟨k,i,t,l⟩:=d;refine azz (by simp[D.vw2,V.lows,D.low]) ?_;by_cases hk:k=3
 ·subst hk;cases l with
  | nil=>simp -implicitDefEqProofs [x56_w,x56_r,D.vw2,D.v,D.vs,D.wd,D.kd,D.kids]
  | cons a l =>
   obtain⟨ka,ia,ta,la⟩:=a;have hln:(((D.vs l).length:Int)+1==0)=false:=beq_false_of_ne (by omega);by_cases ha:ka=2
   ·subst ha;simp -implicitDefEqProofs [x56_w,x56_r,D.vw2,D.v,D.vs,D.wd,D.kd,D.kids,D.kid,D.tx,hln]
   ·have hab:(ka != 2)=true:=by simp[ha]
    simp -implicitDefEqProofs [x56_w,x56_r,D.vw2,D.v,D.vs,D.wd,D.kd,D.kids,D.kid,D.tx,hln,ha,hab]
 ·have hb:(k != 3)=true:=by simp[hk]
  simp -implicitDefEqProofs [x56_w,x56_r,D.vw2,D.v,D.wd,D.kd,hk,hb]
def arN (w:Nat):Int:=if 20≤w∧w≤27∨w=34 then 2 else if 28≤w∧w≤33∨w=35 then 1 else 0
def arB (w:Nat):Bool:=decide (20≤w∧w≤35)
theorem Hb (t:ByteArray){n:Nat}:aV (n+1) 97 [.c (.string t)] (.tup [.c (.int .i64 (arN (wn t))),.c (.bool (arB (wn t)))]):=by
 refine azz (by simp[V.lows,V.low]) ?_;by_cases h20:wn t=20
 ·simp -implicitDefEqProofs [x97_w,x97_r,h20,arN,arB,V.low,V.lows]
 by_cases h21:wn t=21
 ·simp -implicitDefEqProofs [x97_w,x97_r,h21,arN,arB,V.low,V.lows]
 by_cases h22:wn t=22
 ·simp -implicitDefEqProofs [x97_w,x97_r,h22,arN,arB,V.low,V.lows]
 by_cases h23:wn t=23
 ·simp -implicitDefEqProofs [x97_w,x97_r,h23,arN,arB,V.low,V.lows]
 by_cases h24:wn t=24
 ·simp -implicitDefEqProofs [x97_w,x97_r,h24,arN,arB,V.low,V.lows]
 by_cases h25:wn t=25
 ·simp -implicitDefEqProofs [x97_w,x97_r,h25,arN,arB,V.low,V.lows]
 by_cases h26:wn t=26
 ·simp -implicitDefEqProofs [x97_w,x97_r,h26,arN,arB,V.low,V.lows]
 by_cases h27:wn t=27
 ·simp -implicitDefEqProofs [x97_w,x97_r,h27,arN,arB,V.low,V.lows]
 by_cases h28:wn t=28
 ·simp -implicitDefEqProofs [x97_w,x97_r,h28,arN,arB,V.low,V.lows]
 by_cases h29:wn t=29
 ·simp -implicitDefEqProofs [x97_w,x97_r,h29,arN,arB,V.low,V.lows]
 by_cases h30:wn t=30
 ·simp -implicitDefEqProofs [x97_w,x97_r,h30,arN,arB,V.low,V.lows]
 by_cases h31:wn t=31
 ·simp -implicitDefEqProofs [x97_w,x97_r,h31,arN,arB,V.low,V.lows]
 by_cases h32:wn t=32
 ·simp -implicitDefEqProofs [x97_w,x97_r,h32,arN,arB,V.low,V.lows]
 by_cases h33:wn t=33
 ·simp -implicitDefEqProofs [x97_w,x97_r,h33,arN,arB,V.low,V.lows]
 by_cases h34:wn t=34
 ·simp -implicitDefEqProofs [x97_w,x97_r,h34,arN,arB,V.low,V.lows]
 by_cases h35:wn t=35
 ·simp -implicitDefEqProofs [x97_w,x97_r,h35,arN,arB,V.low,V.lows]
 have b20:(wn t==20)=false:=by simp[h20]
 have b21:(wn t==21)=false:=by simp[h21]
 have b22:(wn t==22)=false:=by simp[h22]
 have b23:(wn t==23)=false:=by simp[h23]
 have b24:(wn t==24)=false:=by simp[h24]
 have b25:(wn t==25)=false:=by simp[h25]
 have b26:(wn t==26)=false:=by simp[h26]
 have b27:(wn t==27)=false:=by simp[h27]
 have b28:(wn t==28)=false:=by simp[h28]
 have b29:(wn t==29)=false:=by simp[h29]
 have b30:(wn t==30)=false:=by simp[h30]
 have b31:(wn t==31)=false:=by simp[h31]
 have b32:(wn t==32)=false:=by simp[h32]
 have b33:(wn t==33)=false:=by simp[h33]
 have b34:(wn t==34)=false:=by simp[h34]
 have b35:(wn t==35)=false:=by simp[h35]
 have h1:arN (wn t)=0:=by
  unfold arN;rw[if_neg (by omega),if_neg (by omega)]
 have h2:arB (wn t)=false:=by
  unfold arB;rw[decide_eq_false_iff_not];omega
 rw[h1,h2];simp -implicitDefEqProofs [x97_w,x97_r,V.low,V.lows,b20,b21,b22,b23,b24,b25,b26,b27,b28,b29,b30,b31,b32,b33,b34,b35]
def D.prm (d:D):Bool:=d.kd==2&&arB (wn d.tx)
theorem Gq (d:D){n:Nat}:aV (n+2) 149 [d.v] (.c (.bool d.prm)):=by
 have c1:∀h,call X E (n+1) 97 [.c (.string d.tx)] h=some (.tup [.c (.int .i64 (arN (wn d.tx))),.c (.bool (arB (wn d.tx)))],h):=Hb d.tx;obtain⟨k,i,t,l⟩:=d;simp only[D.tx] at c1;refine azz (by simp[D.vw2,V.lows,D.low]) ?_;generalize call X E (n+1)=cf at *;simp only[D.prm,D.kd,D.tx];generalize arN (wn t)=a at *;generalize arB (wn t)=b at *;by_cases hk:k=2
 ·subst hk;simp -implicitDefEqProofs [x149_w,x149_r,D.vw2,D.v,c1]
 ·have hb:(k==2)=false:=by simp[hk]
  simp -implicitDefEqProofs [x149_w,x149_r,D.vw2,D.v,c1,hb]
def D.els (d:D) (n:Nat) (more:Bool):Bool:=d.kd==3&&(decide (n≤d.kids.length)&&(more||decide (d.kids.length≤n)))
theorem Hg (d:D) (k:Nat) (more:Bool){n:Nat}:aV (n+1) 47 [d.v,.c (.int .i64 k),.c (.bool more)] (if d.els k more=true then .sl (D.vs d.kids) .any else .sl [] .nil):=by
 obtain⟨kd,i,t,l⟩:=d;have hsl:=aa l;have hlow:=D.lows 0 l;have hr:(if (D.mk kd i t l).els k more=true then V.sl (D.vs l) .any else .sl [] .nil).low 0=true:=by
  split<;>simp[V.low,V.lows,SI.low,hlow]
 refine azz (by simp[D.vw2,V.lows,D.low,V.low]) ?_;simp only[D.kids];by_cases hk:kd=3
 ·subst hk;by_cases h1:l.length<k
  ·have h1i:(l.length:Int)<k:=by omega
   have hd:decide (k≤l.length)=false:=decide_eq_false (by omega);have he:(D.mk 3 i t l).els k more=false:=by show ((3:Int)==3&&(decide (k≤l.length)&&(more||decide (l.length≤k))))=false;rw[hd];rfl
   rw[he] at hr ⊢;simp -implicitDefEqProofs [x47_w,x47_r,D.vw2,D.v,hsl,h1i];simp[V.low,V.lows,SI.low]
  ·have h1i:¬(l.length:Int)<k:=by omega
   cases more with
   | true =>
    have hd:decide (k≤l.length)=true:=decide_eq_true (by omega);have he:(D.mk 3 i t l).els k true=true:=by show ((3:Int)==3&&(decide (k≤l.length)&&(true||decide (l.length≤k))))=true;rw[hd];rfl
    rw[he] at hr ⊢;simp -implicitDefEqProofs [x47_w,x47_r,D.vw2,D.v,hsl,h1i];simpa using hr
   | false =>
    by_cases h2:k<l.length
    ·have h2i:(l.length:Int) > k:=by omega
     have h2j:(k:Int)<l.length:=by omega
     have hd:decide (l.length≤k)=false:=decide_eq_false (by omega);have he:(D.mk 3 i t l).els k false=false:=by show ((3:Int)==3&&(decide (k≤l.length)&&(false||decide (l.length≤k))))=false;rw[hd];cases decide (k≤l.length)<;>rfl
     rw[he] at hr ⊢;simp -implicitDefEqProofs [x47_w,x47_r,D.vw2,D.v,hsl,h1i,h2i,h2j];simp[V.low,V.lows,SI.low]
    ·have h2i:¬(l.length:Int) > k:=by omega
     have h2j:¬(k:Int)<l.length:=by omega
     have hd:decide (l.length≤k)=true:=decide_eq_true (by omega);have hd2:decide (k≤l.length)=true:=decide_eq_true (by omega);have he:(D.mk 3 i t l).els k false=true:=by show ((3:Int)==3&&(decide (k≤l.length)&&(false||decide (l.length≤k))))=true;rw[hd,hd2];rfl
     rw[he] at hr ⊢;simp -implicitDefEqProofs [x47_w,x47_r,D.vw2,D.v,hsl,h1i,h2i,h2j];simpa using hr
 ·have hb:(kd != 3)=true:=by simp[hk]
  have he:(D.mk kd i t l).els k more=false:=by simp[D.els,D.kd,hk]
  rw[he] at hr ⊢;simp -implicitDefEqProofs [x47_w,x47_r,D.vw2,D.v,hb];simp[V.low,V.lows,SI.low]
def slw (w:Nat):Bool:=decide (8≤w∧w≤15)
def D.dyn (d:D):Bool:=slw (wn d.wd)
def slows:List ByteArray:=[⟨#[110,97,109,101]⟩,⟨#[108,105,102,116]⟩,⟨#[115,105,102]⟩,⟨#[100,105,102]⟩,⟨#[115,108,101,116]⟩,⟨#[100,108,101,116]⟩,⟨#[100,112,114,105,109]⟩,⟨#[100,99,97,108,108]⟩]
theorem yg (t:ByteArray):inB slows t=slw (wn t):=by
 have h:inB slows t=(wn t==8||(wn t==9||(wn t==10||(wn t==11||(wn t==12||(wn t==13||(wn t==14||wn t==15))))))):=by
  simp only[slows,inB,List.any_cons,List.any_nil,Bool.or_false];simp only[dl,HE,Ic,FI,FQ,FU,GV,Ga,Gx];rfl
 rw[h];unfold slw;generalize wn t=w;rw[Bool.eq_iff_iff];simp only[Bool.or_eq_true,beq_iff_eq,dT];omega
theorem kq:wn ⟨#[]⟩=99:=by decide
theorem Hh (d:D){n:Nat}(hn:12≤n):aV (n+2) 54 [d.v] (.c (.bool d.dyn)):=by
 have c1:∀t h,call X E (n+1) 110 [.sl [.c (.string ⟨#[110,97,109,101]⟩),.c (.string ⟨#[108,105,102,116]⟩),.c (.string ⟨#[115,105,102]⟩),.c (.string ⟨#[100,105,102]⟩),.c (.string ⟨#[115,108,101,116]⟩),.c (.string ⟨#[100,108,101,116]⟩),.c (.string ⟨#[100,112,114,105,109]⟩),.c (.string ⟨#[100,99,97,108,108]⟩)] .any,.c (.string t)] h=some (.c (.bool (slw (wn t))),h):=fun t h=>by
  obtain⟨n,rfl⟩:∃n',n=n'+1:=⟨n-1,by omega⟩
  have:=BW slows .any t (n:=n) (by simp[slows];omega) (by simp[slows]) h;rw[yg] at this;exact this
 obtain⟨k,i,t,l⟩:=d;refine azz (by simp[D.vw2,V.lows,D.low]) ?_;generalize call X E (n+1)=cf at *;by_cases hk:k=3
 ·subst hk;cases l with
  | nil=>simp -implicitDefEqProofs [x54_w,x54_r,D.vw2,D.v,D.vs,D.dyn,D.wd,D.kd,D.kids,kq,slw]
  | cons a l =>
   obtain⟨ka,ia,ta,la⟩:=a;have hln:(0:Int)<((D.vs l).length:Int)+1:=by omega
   by_cases ha:ka=2
   ·subst ha;simp -implicitDefEqProofs [x54_w,x54_r,D.vw2,D.v,D.vs,D.dyn,D.wd,D.kd,D.kids,D.kid,D.tx,hln,c1]
   ·have hab:(ka==2)=false:=by simp[ha]
    simp -implicitDefEqProofs [x54_w,x54_r,D.vw2,D.v,D.vs,D.dyn,D.wd,D.kd,D.kids,D.kid,D.tx,hln,ha,hab,kq,slw]
 ·have hb:(k==3)=false:=by simp[hk]
  simp -implicitDefEqProofs [x54_w,x54_r,D.vw2,D.v,D.dyn,D.wd,D.kd,hk,hb,kq,slw]
theorem FF (d:D){n:Nat}:aV (n+2) 41 [d.v] (.c (.bool d.dyn)):=by
 have c1:∀h,call X E (n+1) 56 [d.v] h=some (.c (.string d.wd),h):=Cp d;refine azz (by simp[D.vw2,V.lows,D.low]) ?_;generalize call X E (n+1)=cf at *;unfold D.dyn;generalize d.wd=t at *;by_cases h8:wn t=8
 ·simp -implicitDefEqProofs [x41_w,x41_r,D.vw2,D.okc,D.rd,ab,c1,h8,slw]
 by_cases h9:wn t=9
 ·simp -implicitDefEqProofs [x41_w,x41_r,D.vw2,D.okc,D.rd,ab,c1,h9,slw]
 by_cases h10:wn t=10
 ·simp -implicitDefEqProofs [x41_w,x41_r,D.vw2,D.okc,D.rd,ab,c1,h10,slw]
 by_cases h11:wn t=11
 ·simp -implicitDefEqProofs [x41_w,x41_r,D.vw2,D.okc,D.rd,ab,c1,h11,slw]
 by_cases h12:wn t=12
 ·simp -implicitDefEqProofs [x41_w,x41_r,D.vw2,D.okc,D.rd,ab,c1,h12,slw]
 by_cases h13:wn t=13
 ·simp -implicitDefEqProofs [x41_w,x41_r,D.vw2,D.okc,D.rd,ab,c1,h13,slw]
 by_cases h14:wn t=14
 ·simp -implicitDefEqProofs [x41_w,x41_r,D.vw2,D.okc,D.rd,ab,c1,h14,slw]
 by_cases h15:wn t=15
 ·simp -implicitDefEqProofs [x41_w,x41_r,D.vw2,D.okc,D.rd,ab,c1,h15,slw]
 have b8:(wn t==8)=false:=by simp[h8]
 have b9:(wn t==9)=false:=by simp[h9]
 have b10:(wn t==10)=false:=by simp[h10]
 have b11:(wn t==11)=false:=by simp[h11]
 have b12:(wn t==12)=false:=by simp[h12]
 have b13:(wn t==13)=false:=by simp[h13]
 have b14:(wn t==14)=false:=by simp[h14]
 have b15:(wn t==15)=false:=by simp[h15]
 have h1:slw (wn t)=false:=by
  unfold slw;rw[decide_eq_false_iff_not];omega
 rw[h1];simp -implicitDefEqProofs [x41_w,x41_r,D.vw2,D.okc,D.rd,ab,c1,b8,b9,b10,b11,b12,b13,b14,b15]
def D.key (d:D):V:=.agg [.c (.int .i64 d.nu),.c (.string d.tx)]
theorem FV (d:D){n:Nat}:aV (n+1) 89 [d.v] d.key:=by
 obtain⟨k,i,t,l⟩:=d;refine azz (by simp[D.vw2,V.lows,D.low]) ?_;simp -implicitDefEqProofs [x89_w,x89_r,D.vw2,D.v,D.key,D.nu,D.tx,V.low,V.lows]
def scV (l:List (ByteArray × Bool)):List V:=l.map fun p=>.agg [.c (.string p.1),.c (.bool p.2)]
theorem nY (l:List (ByteArray × Bool)):(scV l).length=l.length:=by simp[scV]
theorem fk (m:Nat) (l:List (ByteArray × Bool)):V.lows m (scV l)=true:=cq fun v hv=>by
 obtain⟨s,_,rfl⟩:=List.mem_map.1 hv;rfl
theorem zd (l:List (ByteArray × Bool)):Ab.hz 2 (scV l)=true:=by cases l<;>rfl
theorem B5 (a b:List (ByteArray × Bool)):scV (a++b)=scV a++scV b:=by simp[scV]
theorem nX {cf:aw}{s:SF}(z:Nat) (x:A) (hi mx:A){us:List V}{i:SI}(hx:x.val s.e=.sl us i) (h1:idx (hi.val s.e)=some (us.length:Int)) (h2:idx (mx.val s.e)=some (us.length:Int)) (hz:Ab.hz z us=true) :
  bH cf s (.slice false z x none (some hi) (some mx))=some (.sl us .full,s.h):=by
 simp only[bH,XOp.sub,act,aG,bw,slV,Option.map_none,Option.map_some,hx,bl,h1,h2,Option.isSome_some];rw[if_pos ⟨trivial,by omega,by omega,trivial,by omega,hz⟩];simp
theorem Fe (l:List (ByteArray × Bool)) (i:SI){n:Nat}:aV (n+1) 111 [.sl (scV l) i] (.sl (scV l) .full):=by
 have hz:=zd l;have hlow:=fk 0 l;refine azz (by simp[aD,V.lows,V.low,fk,SI.low]) ?_;generalize scV l=U at *;simp -implicitDefEqProofs [x111_w,aD];rw[nX (us:=U) (i:=.any) 2 _ _ _ (by simp[au,bD]) (by simp[au]) (by simp[au]) hz];simp -implicitDefEqProofs [x111_r,V.low,hlow,SI.low]
theorem Fb (l:List (ByteArray × Bool)) (i:SI) (t:ByteArray) (b:Bool) (hl:l.length<1099511627776){n:Nat}:aV (n+2) 52 [.sl (scV l) i,.c (.string t),.c (.bool b)] (.sl (scV (l++[(t,b)])) .any):=by
 have c1:∀i h,call X E (n+1) 111 [.sl (scV l) i] h=some (.sl (scV l) .full,h):=fun i=>Fe l i
 have hz:=zd l;have hlow:=fk 0 (l++[(t,b)]);have hsl:=nY l;have hj1:(l.length+1)*24≤140737488355328:=by omega
 have hj2:l.length+1≤140737488355328:=by omega
 refine azz (by simp[aD,V.lows,V.low,fk,SI.low]) ?_;generalize call X E (n+1)=cf at *;have hap:scV (l++[(t,b)])=scV l++[.agg [.c (.string t),.c (.bool b)]]:=B5 l _;rw[hap] at hlow ⊢;generalize scV l=U at *;simp -implicitDefEqProofs [x52_w,x52_r,aD,c1,hz,hsl,hj1,hj2,V.low,hlow,SI.low]
theorem D.rd0 (d:D):rdV d.v.cells 0 none=some (.c (.int .i64 d.kd)):=by obtain⟨k,i,t,l⟩:=d;rfl
theorem D.rd1 (d:D):rdV d.v.cells 1 none=some (.c (.int .i64 d.nu)):=by obtain⟨k,i,t,l⟩:=d;rfl
theorem D.rd2 (d:D):rdV d.v.cells 2 none=some (.c (.string d.tx)):=by obtain⟨k,i,t,l⟩:=d;rfl
theorem D.rd3 (d:D):rdV d.v.cells 3 none=some (.sl (D.vs d.kids) .any):=by obtain⟨k,i,t,l⟩:=d;rfl
theorem ah {d:D}{j:Nat}(h:j<(D.vs d.kids).length):(D.vs d.kids)[j]=(d.kid j).v:=by
 have h':j<d.kids.length:=by rwa [aa] at h
 rw[ac,D.kid,List.getD_eq_getElem?_getD,gE h'];rfl
attribute [simp] D.vw2 D.okc ab D.rd D.rd0 D.rd1 D.rd2 D.rd3 ah aa D.low D.lows kU lD dP mh jp yO jk aD nY bI
def txs (l:List D):List ByteArray:=l.map D.tx
theorem bO (l:List D):(txs l).length=l.length:=by simp[txs]
theorem BM (a b:List D):txs (a++b)=txs a++txs b:=by simp[txs]
def nmG (p:D→Bool):List ByteArray→List D→Bool
 | _,[]=>true
 | seen,d::l=>p d&&(!inB seen d.tx&&nmG p (seen++[d.tx]) l)
def D.nms (p:D→Bool) (d:D):Bool:=d.kd==3&&nmG p [] d.kids
theorem pP (p:D→Bool) (seen:List ByteArray){l:List D}{j:Nat}(h:j<l.length):nmG p seen (l.drop j)=(p l[j]&&(!inB seen (l[j]).tx&&nmG p (seen++[(l[j]).tx]) (l.drop (j+1)))):=by
 rw[dC h,nmG]
theorem qq {l:List D}{j:Nat}(h:j<l.length):txs (l.take (j+1))=txs (l.take j)++[(l[j]).tx]:=by
 rw[List.take_add_one,gE h,BM];rfl
theorem C7 (d:D){n:Nat}(hn:d.kids.length+3<n) (hl:d.kids.length<1099511627776):aV (n+1) 107 [d.v] (.tup [.sl (ss (if d.nms D.nm=true then txs d.kids else [])) .any,.c (.bool (d.nms D.nm))]):=by
 obtain⟨n,rfl⟩:∃n',n=n'+2:=⟨n-2,by omega⟩
 have c115:∀(x:D) h,call X E (n+2) 115 [x.v] h=some (.c (.bool x.nm),h):=fun x=>tB x
 have c110:∀(L:List ByteArray) i t h,L.length≤d.kids.length→call X E (n+2) 110 [.sl (ss L) i,.c (.string t)] h=some (.c (.bool (inB L t)),h):=fun L i t h hL=>BW L i t (by omega) (by omega) h
 refine azz (by simp[V.lows]) ?_;generalize hm:n+2=m at *;generalize call X E m=cf at *;by_cases hk:d.kd=3
 ·have hb:(d.kd != 3)=false:=by simp[hk]
  have hdn:d.nms D.nm=nmG D.nm [] d.kids:=by simp[D.nms,hk]
  rw[hdn];simp -implicitDefEqProofs [x107_w,hb];generalize d.kids=l at *;obtain⟨J,hJ⟩:∃J:Nat→SF→Prop,J=fun k s=>∃j si,j+k=l.length∧s.e 14=.c (.int .i64 j)∧s.e 4=.sl (ss (txs (l.take j))) si∧Grows 1 (ss (txs (l.take j))) si s.h∧nmG D.nm [] l=nmG D.nm (txs (l.take j)) (l.drop j):=⟨_,rfl⟩
  refine aX J l.length (by omega) (by rw[hJ];exact⟨0,.full,by simp,by simp[au],by simp[au,txs,ss],.full _ _,by simp[txs]⟩) ?_;rintro k ⟨e,h,base,rb⟩ hj he hb;rw[hJ] at hj;obtain⟨j,si,hj,e14,e4,hG,hfx⟩:=hj;have e12:=he 12 rfl;have e13:=he 13 rfl;simp[au,bD] at e12 e13 hb;simp only at e14 e4 hG;subst hb;by_cases hm:j<l.length
  ·have hlt:(j:Int)<l.length:=by omega
   have hw:IntKind.i64.wrap ((j:Int)+1)=(j:Int)+1:=aB (by omega);have hvg:(D.vs l)[j]'(by rw[aa];omega)=(l[j]).v:=ac _;have hL:(txs (l.take j)).length=j:=by rw[bO];simp;omega
   have c110x:∀i t h,cf 110 [.sl (ss (txs (l.take j))) i,.c (.string t)] h=some (.c (.bool (inB (txs (l.take j)) t)),h):=fun i t h=>c110 _ i t h (by omega)
   rw[pP _ _ hm] at hfx;have htk:=qq hm;have hz1:=x4 (txs (l.take j));have hsl:=bI (txs (l.take j));rw[hL] at hsl;have hj1:(j+1)*16≤140737488355328:=by omega
   have hj2:j+1≤140737488355328:=by omega
   generalize txs (l.take j)=L at *;generalize l[j]=x at *;have c115x:=c115 x;cases hx:x.nm with
   | false =>
    rw[hx] at hfx c115x;simp only[Bool.false_and] at hfx;rw[hfx];simp -implicitDefEqProofs [x107l12_w,x107_r,e12,e13,e14,e4,hvg,hlt,hm,ae,c115x];simp[ss,V.low,V.lows,SI.low]
   | true =>
    rw[hx] at hfx c115x;have c110y:=fun i=>c110x i x.tx
    cases hi:inB L x.tx with
    | true =>
     rw[hi] at hfx c110y;simp only[Bool.true_and,Bool.not_true,Bool.false_and] at hfx;rw[hfx];simp -implicitDefEqProofs [x107l12_w,x107_r,e12,e13,e14,e4,hvg,hlt,hm,ae,c115x,c110y];simp[ss,V.low,V.lows,SI.low]
    | false =>
     rw[hi] at hfx c110y;simp only[Bool.true_and,Bool.not_false] at hfx;simp -implicitDefEqProofs [x107l12_w,e12,e13,e14,e4,hvg,hlt,hm,ae,c115x,c110y,hsl,hz1,hj1,hj2];refine qI (zz:=none) (hG.app _) (.inl ?_) fun si' h' hG' hl' hk hlw=>?_
     ·exact jp ..
     simp -implicitDefEqProofs [e14];refine⟨k-1,by omega,?_⟩;rw[hJ];refine⟨j+1,si',by omega,by simp[au,hw],?_,?_,?_⟩
     ·rw[htk];simp[au,my,ss]
     ·rw[htk,my];simpa[ss] using hG'
     ·rw[htk];exact hfx
  ·have hlt:¬(j:Int)<l.length:=by omega
   obtain rfl:j=l.length:=by omega
   have hfx:nmG D.nm [] l=true:=by rw[hfx,List.drop_length,nmG]
   rw[List.take_of_length_le (nL _)] at e4 hG;rw[hfx];simp -implicitDefEqProofs [x107l12_w,x107_r,e12,e13,e14,e4];simp[V.low,V.lows,SI.low,eW]
 ·have hb:(d.kd != 3)=true:=by simp[hk]
  have hdn:d.nms D.nm=false:=by simp[D.nms,hk]
  rw[hdn];simp -implicitDefEqProofs [x107_w,x107_r,hb];simp[ss,V.low,V.lows,SI.low]
theorem HW (d:D){n:Nat}(hn:d.kids.length+70<n) (hl:d.kids.length<1099511627776):aV (n+1) 39 [d.v] (.tup [.sl (ss (if d.nms D.nmr=true then txs d.kids else [])) .any,.c (.bool (d.nms D.nmr))]):=by
 obtain⟨n,rfl⟩:∃n',n=n'+1:=⟨n-1,by omega⟩
 have c94:∀t h,call X E (n+1) 94 [.c (.string t)] h=some (.c (.bool (ei t && !rsv t)),h):=fun t=>Fo t (by omega)
 have c40:∀(L:List ByteArray) i t h,L.length≤d.kids.length→call X E (n+1) 40 [.sl (ss L) i,.c (.string t)] h=some (.c (.bool (inB L t)),h):=fun L i t h hL=>G0 L i t (by omega) (by omega) h
 refine azz (by simp[V.lows]) ?_;generalize hm:n+1=m at *;generalize call X E m=cf at *;by_cases hk:d.kd=3
 ·have hb:(d.kd != 3)=false:=by simp[hk]
  have hdn:d.nms D.nmr=nmG D.nmr [] d.kids:=by simp[D.nms,hk]
  rw[hdn];simp -implicitDefEqProofs [x39_w,hb];have hr3:=D.rd3 d;generalize d.v.cells=C at *;generalize d.kids=l at *;obtain⟨J,hJ⟩:∃J:Nat→SF→Prop,J=fun k s=>∃j si,j+k=l.length∧s.e 5=.c (.int .i64 j)∧s.h[0]?=some (.cells C)∧s.e 4=.sl (ss (txs (l.take j))) si∧Grows 1 (ss (txs (l.take j))) si s.h∧nmG D.nmr [] l=nmG D.nmr (txs (l.take j)) (l.drop j):=⟨_,rfl⟩
  refine aX J l.length (by omega) (by rw[hJ];exact⟨0,.nil,by simp,by simp[au],by simp,by simp[au,txs,ss],.nil _ _,by simp[txs]⟩) ?_;rintro k ⟨e,h,base,rb⟩ hj he hb;rw[hJ] at hj;obtain⟨j,si,hj,e5,h0,e4,hG,hfx⟩:=hj;have e1:=he 1 rfl;simp[au,bD] at e1 hb;simp only at e5 e4 hG h0;subst hb;have hcl:∃c0 c1,C=c0::c1:=by
   cases C with
   | nil=>simp[rdV] at hr3
   | cons a b=>exact⟨a,b,rfl⟩
  by_cases hm:j<l.length
  ·have hlt:(j:Int)<l.length:=by omega
   have hw:IntKind.i64.wrap ((j:Int)+1)=(j:Int)+1:=aB (by omega);have hvg:(D.vs l)[j]'(by rw[aa];omega)=(l[j]).v:=ac _;have hL:(txs (l.take j)).length=j:=by rw[bO];simp;omega
   have c40x:∀i t h,cf 40 [.sl (ss (txs (l.take j))) i,.c (.string t)] h=some (.c (.bool (inB (txs (l.take j)) t)),h):=fun i t h=>c40 _ i t h (by omega)
   rw[pP _ _ hm] at hfx;have htk:=qq hm;have hz1:=x4 (txs (l.take j));have hsl:=bI (txs (l.take j));rw[hL] at hsl;have hj1:(j+1)*16≤140737488355328:=by omega
   have hj2:j+1≤140737488355328:=by omega
   have ha:=bU h0;generalize txs (l.take j)=L at *;generalize l[j]=x at *;have c94x:=c94 x.tx;have c40y:=fun i=>c40x i x.tx
   by_cases hkx:x.kd=2
   ·have hbx:(x.kd != 2)=false:=by simp[hkx]
    have hnr:x.nmr=(ei x.tx && !rsv x.tx):=by simp[D.nmr,hkx]
    rw[hnr] at hfx;generalize (ei x.tx && !rsv x.tx)=bx at *;cases bx with
    | false =>
     simp only[Bool.false_and] at hfx;rw[hfx];simp -implicitDefEqProofs [x39l12_w,x39_r,e1,e5,e4,h0,hr3,hvg,hlt,hm,hbx,c94x,c40y];simp[ss,V.low,V.lows,SI.low]
    | true =>
     cases hi:inB L x.tx with
     | true =>
      rw[hi] at hfx c40y;simp only[Bool.true_and,Bool.not_true,Bool.false_and] at hfx;rw[hfx];simp -implicitDefEqProofs [x39l12_w,x39_r,e1,e5,e4,h0,hr3,hvg,hlt,hm,hbx,c94x,c40y];simp[ss,V.low,V.lows,SI.low]
     | false =>
      rw[hi] at hfx c40y;simp only[Bool.true_and,Bool.not_false] at hfx;simp -implicitDefEqProofs [x39l12_w,e1,e5,e4,h0,ha,hr3,hvg,hlt,hm,hbx,c94x,c40y,hsl,hz1,hj1,hj2];refine qI (zz:=none) (hG.app _) (.inl ?_) fun si' h' hG' hl' hk hlw=>?_
      ·simp
      simp -implicitDefEqProofs [e5];refine⟨k-1,by omega,?_⟩;rw[hJ];refine⟨j+1,si',by omega,by simp[au,hw],hk _ _ (ha _),?_,?_,?_⟩
      ·rw[htk];simp[au,my,ss]
      ·rw[htk,my];simpa[ss] using hG'
      ·rw[htk];exact hfx
   ·have hbx:(x.kd != 2)=true:=by simp[hkx]
    have hnr:x.nmr=false:=by simp[D.nmr,hkx]
    rw[hnr] at hfx;simp only[Bool.false_and] at hfx;rw[hfx];simp -implicitDefEqProofs [x39l12_w,x39_r,e1,e5,e4,h0,hr3,hvg,hlt,hm,hbx,c94x,c40y];simp[ss,V.low,V.lows,SI.low]
  ·have hlt:¬(j:Int)<l.length:=by omega
   obtain rfl:j=l.length:=by omega
   have hfx:nmG D.nmr [] l=true:=by rw[hfx,List.drop_length,nmG]
   rw[List.take_of_length_le (nL _)] at e4 hG;rw[hfx];simp -implicitDefEqProofs [x39l12_w,x39_r,e1,e5,e4,h0,hr3];simp[V.low,V.lows,SI.low,eW]
 ·have hb:(d.kd != 3)=true:=by simp[hk]
  have hdn:d.nms D.nmr=false:=by simp[D.nms,hk]
  rw[hdn];simp -implicitDefEqProofs [x39_w,x39_r,hb];simp[ss,V.low,V.lows,SI.low]
def prT:List (ByteArray × Int):=[(⟨#[43]⟩,2),(⟨#[45]⟩,2),(⟨#[42]⟩,2),(⟨#[113,117,111,116]⟩,2),(⟨#[114,101,109]⟩,2),(⟨#[60]⟩,2),(⟨#[61]⟩,2),(⟨#[99,111,110,115]⟩,2),(⟨#[102,105,114,115,116]⟩,1),(⟨#[114,101,115,116]⟩,1),(⟨#[99,111,117,110,116]⟩,1),(⟨#[108,105,115,116,63]⟩,1),(⟨#[110,117,109,63]⟩,1),(⟨#[115,121,109,63]⟩,1),(⟨#[109,97,114,107]⟩,2),(⟨#[115,116,111,112]⟩,1)]
def prV (l:List (ByteArray × Int)):List V:=l.map fun p=>.agg [.c (.string p.1),.c (.int .i64 p.2)]
theorem Af (l:List (ByteArray × Int)):(prV l).length=l.length:=by simp[prV]
def arL (t:ByteArray):List (ByteArray × Int)→V
 | []=>.tup [.c (.int .i64 0),.c (.bool false)]
 | p::l=>if eqS p.1 t=true then .tup [.c (.int .i64 p.2),.c (.bool true)] else arL t l
theorem sP (t:ByteArray):∀l,(arL t l).low 0=true
 | []=>rfl
 | p::l=>by
  unfold arL;split
  ·rfl
  ·exact sP t l
theorem C4 (t:ByteArray):arL t prT=.tup [.c (.int .i64 (arN (wn t))),.c (.bool (arB (wn t)))]:=by
 have q20:eqS ⟨#[43]⟩ t=(wn t==20):=by rw[bd];exact aY t 20 (by decide)
 have q21:eqS ⟨#[45]⟩ t=(wn t==21):=by rw[bd];exact aY t 21 (by decide)
 have q22:eqS ⟨#[42]⟩ t=(wn t==22):=by rw[bd];exact aY t 22 (by decide)
 have q23:eqS ⟨#[113,117,111,116]⟩ t=(wn t==23):=by rw[bd];exact aY t 23 (by decide)
 have q24:eqS ⟨#[114,101,109]⟩ t=(wn t==24):=by rw[bd];exact aY t 24 (by decide)
 have q25:eqS ⟨#[60]⟩ t=(wn t==25):=by rw[bd];exact aY t 25 (by decide)
 have q26:eqS ⟨#[61]⟩ t=(wn t==26):=by rw[bd];exact aY t 26 (by decide)
 have q27:eqS ⟨#[99,111,110,115]⟩ t=(wn t==27):=by rw[bd];exact aY t 27 (by decide)
 have q28:eqS ⟨#[102,105,114,115,116]⟩ t=(wn t==28):=by rw[bd];exact aY t 28 (by decide)
 have q29:eqS ⟨#[114,101,115,116]⟩ t=(wn t==29):=by rw[bd];exact aY t 29 (by decide)
 have q30:eqS ⟨#[99,111,117,110,116]⟩ t=(wn t==30):=by rw[bd];exact aY t 30 (by decide)
 have q31:eqS ⟨#[108,105,115,116,63]⟩ t=(wn t==31):=by rw[bd];exact aY t 31 (by decide)
 have q32:eqS ⟨#[110,117,109,63]⟩ t=(wn t==32):=by rw[bd];exact aY t 32 (by decide)
 have q33:eqS ⟨#[115,121,109,63]⟩ t=(wn t==33):=by rw[bd];exact aY t 33 (by decide)
 have q34:eqS ⟨#[109,97,114,107]⟩ t=(wn t==34):=by rw[bd];exact aY t 34 (by decide)
 have q35:eqS ⟨#[115,116,111,112]⟩ t=(wn t==35):=by rw[bd];exact aY t 35 (by decide)
 simp only[prT,arL,q20,q21,q22,q23,q24,q25,q26,q27,q28,q29,q30,q31,q32,q33,q34,q35];generalize wn t=w;by_cases h20:w=20
 ·subst h20;rfl
 by_cases h21:w=21
 ·subst h21;rfl
 by_cases h22:w=22
 ·subst h22;rfl
 by_cases h23:w=23
 ·subst h23;rfl
 by_cases h24:w=24
 ·subst h24;rfl
 by_cases h25:w=25
 ·subst h25;rfl
 by_cases h26:w=26
 ·subst h26;rfl
 by_cases h27:w=27
 ·subst h27;rfl
 by_cases h28:w=28
 ·subst h28;rfl
 by_cases h29:w=29
 ·subst h29;rfl
 by_cases h30:w=30
 ·subst h30;rfl
 by_cases h31:w=31
 ·subst h31;rfl
 by_cases h32:w=32
 ·subst h32;rfl
 by_cases h33:w=33
 ·subst h33;rfl
 by_cases h34:w=34
 ·subst h34;rfl
 by_cases h35:w=35
 ·subst h35;rfl
 simp only[beq_iff_eq,h20,h21,h22,h23,h24,h25,h26,h27,h28,h29,h30,h31,h32,h33,h34,h35,if_false];have h1:arN w=0:=by
  unfold arN;rw[if_neg (by omega),if_neg (by omega)]
 have h2:arB w=false:=by
  unfold arB;rw[decide_eq_false_iff_not];omega
 rw[h1,h2]
theorem x159r2_eq:x159r2=.reg [⟨(some 6),(.load none (.k (.ptr [.sl (prV prT) .any] 0))),none⟩,⟨(some 7),(.len false (.t 6)),none⟩,⟨(some 8),(.mv (.k (.c (.int .i64 0)))),none⟩] [] false:=rfl
theorem GJ (t:ByteArray){n:Nat}(hn:20<n):aV (n+1) 159 [.c (.string t)] (.tup [.c (.int .i64 (arN (wn t))),.c (.bool (arB (wn t)))]):=by
 rw[← C4];have hlow:=sP t prT;refine azz (by simp[V.lows,V.low]) ?_;generalize call X E n=cf at *;have hpl:prT.length=16:=rfl;have hsl:=Af prT;rw[hpl] at hsl;have w2:=fun s K Q=>rK cf n s K Q x159r2 x159r2_eq
 generalize hl:prT=l at *;simp -implicitDefEqProofs [x159_w,w2,hsl];obtain⟨J,hJ⟩:∃J:Nat→SF→Prop,J=fun k s=>∃j,j+k=16∧s.e 8=.c (.int .i64 j)∧arL t l=arL t (l.drop j):=⟨_,rfl⟩
 refine aX J 16 (by omega) (by rw[hJ];exact⟨0,by simp,by simp[au],by simp⟩) ?_;rintro k ⟨e,h,base,rb⟩ hj he hb;rw[hJ] at hj;obtain⟨j,hj,e8,hfx⟩:=hj;have e0:=he 0 rfl;have e6:=he 6 rfl;have e7:=he 7 rfl;simp[au,bD] at e0 e6 e7 hb;simp only at e8;subst hb;by_cases hm:j<16
 ·have hlt:(j:Int)<16:=by omega
  have hw:IntKind.i64.wrap ((j:Int)+1)=(j:Int)+1:=aB (by omega);have hvg:(prV l)[j]'(by rw[hsl];omega)=.agg [.c (.string (l[j]'(by omega)).1),.c (.int .i64 (l[j]'(by omega)).2)]:=by simp[prV]
  rw[dC (by omega:j<l.length),arL] at hfx;generalize l[j]'(by omega)=p at *;cases hp:eqS p.1 t with
  | true =>
   rw[hp,if_pos rfl] at hfx;rw[hfx] at hlow ⊢;simp -implicitDefEqProofs [x159l8_w,x159_r,e0,e6,e7,e8,hsl,hvg,hlt,hm,aK,hp];simp[V.low,V.lows]
  | false =>
   rw[hp,if_neg (by simp)] at hfx;simp -implicitDefEqProofs [x159l8_w,e0,e6,e7,e8,hsl,hvg,hlt,hm,aK,hp];refine⟨k-1,by omega,?_⟩;rw[hJ];exact⟨j+1,by omega,by simp[au,hw],hfx⟩
 ·have hlt:¬(j:Int)<16:=by omega
  obtain rfl:j=16:=by omega
  have hfx:arL t l=.tup [.c (.int .i64 0),.c (.bool false)]:=by rw[hfx,List.drop_of_length_le (by omega),arL]
  rw[hfx];simp -implicitDefEqProofs [x159l8_w,x159_r,e0,e6,e7,e8];simp[V.low,V.lows]
theorem lbq (a b:Nat):((a:Int)==(b:Int))=(a==b):=by
 rw[Bool.eq_iff_iff,beq_iff_eq,beq_iff_eq];omega
theorem bV (a:Nat):((a:Int)==2)=(a==2):=lbq a 2
theorem bQ (a:Nat):((a:Int)==4)=(a==4):=lbq a 4
theorem fb (a:Nat):((1:Int)<(a:Int))=(1<a):=by simp only[eq_iff_iff];omega
def fmW (w:Nat) (d:D):Bool :=
 if w=4∨w=9 then d.kids.length==2 else
 if w=5∨w=8 then d.kids.length==2&&(d.kid 1).nmr else
 if w=6 then d.kids.length==2&&(d.kid 1).sml else
 if w=1∨w=10∨w=11 then d.kids.length==4 else
 if w=2∨w=12∨w=13 then d.kids.length==4&&(d.kid 1).nmr else
 if w=7∨w=14 then decide (1<d.kids.length)&&(d.kid 1).prm else
 if w=3 then decide (1<d.kids.length)&&(d.kid 1).labr else
 if w=15 then d.kids.length==4&&((d.kid 1).labr&&((d.kid 2).kd==3&&(d.kid 3).kd==3)) else false
theorem H8 (d:D) (mv:Bool){n:Nat}(hn:70≤n):aV (n+1) 95 [d.v,.c (.bool mv)] (.c (.bool (d.dyn==mv&&fmW (wn d.wd) d))):=by
 obtain⟨n,rfl⟩:∃n',n=n'+2:=⟨n-2,by omega⟩
 have c41:∀h,call X E (n+2) 41 [d.v] h=some (.c (.bool d.dyn),h):=FF d;have c56:∀h,call X E (n+2) 56 [d.v] h=some (.c (.string d.wd),h):=Cp d;have c148:∀(x:D) h,call X E (n+2) 148 [x.v] h=some (.c (.bool x.nmr),h):=fun x=>GM x (by omega)
 have c36:∀(x:D) h,call X E (n+2) 36 [x.v] h=some (.c (.bool x.sml),h):=fun x=>Hd x
 have c149:∀(x:D) h,call X E (n+2) 149 [x.v] h=some (.c (.bool x.prm),h):=fun x=>Gq x
 have c37:∀(x:D) h,call X E (n+2) 37 [x.v] h=some (.c (.bool x.labr),h):=fun x=>G6 x (by omega)
 refine azz (by simp[V.lows,V.low]) ?_;generalize call X E (n+2)=cf at *;by_cases hdm:d.dyn=mv;rotate_left
 ·have h1:(d.dyn==mv)=false:=beq_false_of_ne hdm;rw[h1];simp -implicitDefEqProofs [x95_w,x95_r,c41,h1]
 have h1:(d.dyn==mv)=true:=by simp[hdm]
 rw[h1,Bool.true_and];have h2:(mv==mv)=true:=by simp
 rw[hdm] at c41;generalize d.wd=t at *;by_cases h4:wn t=4
 ·cases hl:(d.kids.length==2) with
  | false=>simp -implicitDefEqProofs [x95_w,x95_r,bV,bQ,fb,c41,h2,c56,h4,fmW,hl]
  | true =>
   have hl1:1<d.kids.length:=by revert hl;simp;try omega
   simp -implicitDefEqProofs [x95_w,x95_r,bV,bQ,fb,c41,h2,c56,c148,c36,c149,c37,h4,fmW,hl,hl1]
 by_cases h9:wn t=9
 ·cases hl:(d.kids.length==2) with
  | false=>simp -implicitDefEqProofs [x95_w,x95_r,bV,bQ,fb,c41,h2,c56,h9,fmW,hl]
  | true =>
   have hl1:1<d.kids.length:=by revert hl;simp;try omega
   simp -implicitDefEqProofs [x95_w,x95_r,bV,bQ,fb,c41,h2,c56,c148,c36,c149,c37,h9,fmW,hl,hl1]
 by_cases h5:wn t=5
 ·cases hl:(d.kids.length==2) with
  | false=>simp -implicitDefEqProofs [x95_w,x95_r,bV,bQ,fb,c41,h2,c56,h5,fmW,hl]
  | true =>
   have hl1:1<d.kids.length:=by revert hl;simp;try omega
   simp -implicitDefEqProofs [x95_w,x95_r,bV,bQ,fb,c41,h2,c56,c148,c36,c149,c37,h5,fmW,hl,hl1]
 by_cases h8:wn t=8
 ·cases hl:(d.kids.length==2) with
  | false=>simp -implicitDefEqProofs [x95_w,x95_r,bV,bQ,fb,c41,h2,c56,h8,fmW,hl]
  | true =>
   have hl1:1<d.kids.length:=by revert hl;simp;try omega
   simp -implicitDefEqProofs [x95_w,x95_r,bV,bQ,fb,c41,h2,c56,c148,c36,c149,c37,h8,fmW,hl,hl1]
 by_cases h6:wn t=6
 ·cases hl:(d.kids.length==2) with
  | false=>simp -implicitDefEqProofs [x95_w,x95_r,bV,bQ,fb,c41,h2,c56,h6,fmW,hl]
  | true =>
   have hl1:1<d.kids.length:=by revert hl;simp;try omega
   simp -implicitDefEqProofs [x95_w,x95_r,bV,bQ,fb,c41,h2,c56,c148,c36,c149,c37,h6,fmW,hl,hl1]
 by_cases h1:wn t=1
 ·cases hl:(d.kids.length==4) with
  | false=>simp -implicitDefEqProofs [x95_w,x95_r,bV,bQ,fb,c41,h2,c56,h1,fmW,hl]
  | true =>
   have hl1:1<d.kids.length:=by revert hl;simp;try omega
   simp -implicitDefEqProofs [x95_w,x95_r,bV,bQ,fb,c41,h2,c56,c148,c36,c149,c37,h1,fmW,hl,hl1]
 by_cases h10:wn t=10
 ·cases hl:(d.kids.length==4) with
  | false=>simp -implicitDefEqProofs [x95_w,x95_r,bV,bQ,fb,c41,h2,c56,h10,fmW,hl]
  | true =>
   have hl1:1<d.kids.length:=by revert hl;simp;try omega
   simp -implicitDefEqProofs [x95_w,x95_r,bV,bQ,fb,c41,h2,c56,c148,c36,c149,c37,h10,fmW,hl,hl1]
 by_cases h11:wn t=11
 ·cases hl:(d.kids.length==4) with
  | false=>simp -implicitDefEqProofs [x95_w,x95_r,bV,bQ,fb,c41,h2,c56,h11,fmW,hl]
  | true =>
   have hl1:1<d.kids.length:=by revert hl;simp;try omega
   simp -implicitDefEqProofs [x95_w,x95_r,bV,bQ,fb,c41,h2,c56,c148,c36,c149,c37,h11,fmW,hl,hl1]
 by_cases h2:wn t=2
 ·cases hl:(d.kids.length==4) with
  | false=>simp -implicitDefEqProofs [x95_w,x95_r,bV,bQ,fb,c41,h2,c56,h2,fmW,hl]
  | true =>
   have hl1:1<d.kids.length:=by revert hl;simp;try omega
   simp -implicitDefEqProofs [x95_w,x95_r,bV,bQ,fb,c41,h2,c56,c148,c36,c149,c37,h2,fmW,hl,hl1]
 by_cases h12:wn t=12
 ·cases hl:(d.kids.length==4) with
  | false=>simp -implicitDefEqProofs [x95_w,x95_r,bV,bQ,fb,c41,h2,c56,h12,fmW,hl]
  | true =>
   have hl1:1<d.kids.length:=by revert hl;simp;try omega
   simp -implicitDefEqProofs [x95_w,x95_r,bV,bQ,fb,c41,h2,c56,c148,c36,c149,c37,h12,fmW,hl,hl1]
 by_cases h13:wn t=13
 ·cases hl:(d.kids.length==4) with
  | false=>simp -implicitDefEqProofs [x95_w,x95_r,bV,bQ,fb,c41,h2,c56,h13,fmW,hl]
  | true =>
   have hl1:1<d.kids.length:=by revert hl;simp;try omega
   simp -implicitDefEqProofs [x95_w,x95_r,bV,bQ,fb,c41,h2,c56,c148,c36,c149,c37,h13,fmW,hl,hl1]
 by_cases h7:wn t=7
 ·by_cases hl1:1<d.kids.length
  ·simp -implicitDefEqProofs [x95_w,x95_r,bV,bQ,fb,c41,h2,c56,c148,c36,c149,c37,h7,fmW,hl1]
  ·simp -implicitDefEqProofs [x95_w,x95_r,bV,bQ,fb,c41,h2,c56,h7,fmW,hl1]
 by_cases h14:wn t=14
 ·by_cases hl1:1<d.kids.length
  ·simp -implicitDefEqProofs [x95_w,x95_r,bV,bQ,fb,c41,h2,c56,c148,c36,c149,c37,h14,fmW,hl1]
  ·simp -implicitDefEqProofs [x95_w,x95_r,bV,bQ,fb,c41,h2,c56,h14,fmW,hl1]
 by_cases h3:wn t=3
 ·by_cases hl1:1<d.kids.length
  ·simp -implicitDefEqProofs [x95_w,x95_r,bV,bQ,fb,c41,h2,c56,c148,c36,c149,c37,h3,fmW,hl1]
  ·simp -implicitDefEqProofs [x95_w,x95_r,bV,bQ,fb,c41,h2,c56,h3,fmW,hl1]
 by_cases h15:wn t=15
 ·cases hl:(d.kids.length==4) with
  | false=>simp -implicitDefEqProofs [x95_w,x95_r,bV,bQ,fb,c41,h2,c56,h15,fmW,hl]
  | true =>
   have hl1:1<d.kids.length:=by revert hl;simp;omega
   have hl2:2<d.kids.length:=by revert hl;simp;omega
   have hl3:3<d.kids.length:=by revert hl;simp;omega
   have hl2i:(2:Int)<d.kids.length:=by omega
   have hl3i:(3:Int)<d.kids.length:=by omega
   cases hb1:(d.kid 1).labr with
   | false=>simp -implicitDefEqProofs [x95_w,x95_r,bV,bQ,fb,c41,h2,c56,c37,h15,fmW,hl,hl1,hl2,hl3,hl2i,hl3i,hb1]
   | true =>
    cases hb2:((d.kid 2).kd==3) with
    | false=>simp -implicitDefEqProofs [x95_w,x95_r,bV,bQ,fb,c41,h2,c56,c37,h15,fmW,hl,hl1,hl2,hl3,hl2i,hl3i,hb1,hb2]
    | true=>simp -implicitDefEqProofs [x95_w,x95_r,bV,bQ,fb,c41,h2,c56,c37,h15,fmW,hl,hl1,hl2,hl3,hl2i,hl3i,hb1,hb2]
 have b4:(wn t==4)=false:=by simp[h4]
 have b9:(wn t==9)=false:=by simp[h9]
 have b5:(wn t==5)=false:=by simp[h5]
 have b8:(wn t==8)=false:=by simp[h8]
 have b6:(wn t==6)=false:=by simp[h6]
 have b1:(wn t==1)=false:=by simp[h1]
 have b10:(wn t==10)=false:=by simp[h10]
 have b11:(wn t==11)=false:=by simp[h11]
 have b2:(wn t==2)=false:=by simp[h2]
 have b12:(wn t==12)=false:=by simp[h12]
 have b13:(wn t==13)=false:=by simp[h13]
 have b7:(wn t==7)=false:=by simp[h7]
 have b14:(wn t==14)=false:=by simp[h14]
 have b3:(wn t==3)=false:=by simp[h3]
 have b15:(wn t==15)=false:=by simp[h15]
 have hf:fmW (wn t) d=false:=by
  unfold fmW;rw[if_neg (by omega),if_neg (by omega),if_neg (by omega),if_neg (by omega),if_neg (by omega),if_neg (by omega),if_neg (by omega),if_neg (by omega)]
 rw[hf];simp -implicitDefEqProofs [x95_w,x95_r,c41,h2,c56,b4,b9,b5,b8,b6,b1,b10,b11,b2,b12,b13,b7,b14,b3,b15]
theorem AA {cf:aw}{n:Nat}{xf:XF}{args:List V}{h:List O}{P:List V→List O→Prop}(hx:tA xf args.length=true) (hp:xf.pure=false) (he:xf.esc=true)
  (hw:wpx cf n xf.body ⟨bD (args.map V.vwt),h,h.length,0⟩ (Fin P xf)):∃vs h',ic cf n xf args h=some ((bG vs).vwr,h')∧P vs h':=by
 have:=jN (cf:=cf) (n:=n) (xf:=xf) (args:=args.map V.vwt) (h:=h) (by simpa using hx) hw;obtain⟨e,s,vs,h1,h2,h3,h4,h5⟩:=this;refine⟨vs,s.h,?_,h5⟩;unfold ic;rw[if_neg (by simp[hp]),if_pos (show xf.esc=true from he),h1];cases e with
 | exit id=>exact absurd rfl (h2 id)
 | normal=>simp only[fin,h3,he,if_true]
 | ret=>simp only[fin,h3,he,if_true]
theorem CellEq.app (h e:List O):CellEq h (h++e):=fun id cs=>⟨fun k=>bU k e,fun hl k=>by rwa [aL hl] at k⟩
theorem CellEq.trans {a b c:List O}(h1:CellEq a b) (hl:a.length≤b.length) (h2:CellEq b c):CellEq a c:=fun id cs=>⟨fun k=>(h2 id cs).1 ((h1 id cs).1 k),fun hi k=>(h1 id cs).2 hi ((h2 id cs).2 (Nat.lt_of_lt_of_le hi hl) k)⟩
theorem CellEq.set {h:List O}{k:Nat}{o o':O}(hk:h[k]?=some o) (h1:∀cs,o≠.cells cs) (h2:∀cs,o'≠.cells cs):CellEq h (h.set k o'):=fun id cs=>by
 have hl:k<h.length:=(gS.1 hk).1;by_cases hid:id=k
 ·subst hid;constructor
  ·intro e;rw[hk] at e;cases e;exact absurd rfl (h1 cs)
  ·intro _ e;rw[sS hl] at e;cases e;exact absurd rfl (h2 cs)
 ·rw[sN (Ne.symm hid)];exact⟨fun e=>e,fun _ e=>e⟩
def ptC (p:D × Bool × Bool):List V:=p.1.v.cells++[.c (.bool p.2.1),.c (.bool p.2.2)]
def ptV (l:List (D × Bool × Bool)):List V:=l.map fun p=>.agg (ptC p)
theorem fE (l:List (D × Bool × Bool)):(ptV l).length=l.length:=by simp[ptV]
theorem A4 (a b:List (D × Bool × Bool)):ptV (a++b)=ptV a++ptV b:=by simp[ptV]
theorem d9 (p:D × Bool × Bool):(ptC p).length=6:=by simp[ptC,ab]
theorem tc (a b:List V):aF (a++b)=aF a++aF b:=by simp[aF]
def PtAt (h:List O) (v:V) (ps:List (D × Bool × Bool)):Prop:=(ps=[]∧v=.sl [] .nil)∨∃k,ps≠[]∧v=.tsl k ps.length (some 6)∧h[k]?=some (.tokc ps.length 6 (aF (ptV ps)))
theorem PtAt.app {h:List O}{v:V}{ps:List (D × Bool × Bool)}(a:PtAt h v ps) (e:List O):PtAt (h++e) v ps:=by
 rcases a with a|⟨k,h0,h1,h2⟩
 ·exact .inl a
 ·exact .inr ⟨k,h0,h1,bU h2 e⟩
def mk3 (b:Bool) (x:D):D × Bool × Bool:=(x,b,false)
theorem CW {cf:aw}{n:Nat}{K:List Fr}{Q:Ex→SF→Prop}{s:SF}{v:V}{ps:List (D × Bool × Bool)}{x:D}{b:Bool}{h:List O}{d:Option Nat}{r:List XOper}{sb al:Nat}(hat:PtAt h v ps) (hd:h[al]?=some .dead) (hps:ps.length<1099511627776)
  (hq:∀v' h',PtAt h' v' (ps++[(x,b,false)])→h'.length=h.length→CellEq h h'→sG cf n r K Q ⟨nU s.e d v',h',s.base,s.rb⟩) :
  gvk cf n (Eo sb al 64 (some 6) true h v (some [.agg (ptC (x,b,false))])) d r K Q s:=by
 have hfl:aF [V.agg (ptC (x,b,false))]=ptC (x,b,false):=by simp[aF,V.cells]
 have hz:Ab.hz 6 [V.agg (ptC (x,b,false))]=true:=by simp[Ab.hz,V.cells,d9]
 have hpt:ptV (ps++[(x,b,false)])=ptV ps++[V.agg (ptC (x,b,false))]:=A4 _ _;have hlen:(ps++[(x,b,false)]).length=ps.length+1:=by simp
 rcases hat with⟨rfl,rfl⟩|⟨k,h0,rfl,hk⟩
 ·simp only[pt];rw[if_pos ⟨by simp,by simp,rfl,hz⟩,nN sb al 64 (some 6) h [] [] _ hd,ct];refine hq _ _ (.inr ⟨al,by simp,rfl,?_⟩) (by simp) (.set hd (fun cs=>by simp) fun cs=>by simp);rw[sS (gS.1 hd).1];simp[ptV,aF,zc]
 ·simp only[lF];rw[if_pos ⟨trivial,trivial,by simp;omega,by simp;omega,hz⟩,j9 k ps.length (some 6) h _ [] _ hk,ct];refine hq _ _ (.inr ⟨k,by simp,by rw[hlen];rfl,?_⟩) (by simp) (.set hk (fun cs=>by simp) fun cs=>by simp);rw[sS (gS.1 hk).1,hpt,tc,hlen];rfl
theorem GE {H:List O}{v:V}{ps:List (D × Bool × Bool)}(hat:PtAt H v ps) (l:List D) (i:SI) (b:Bool){n:Nat}(hn:l.length+1<n) (hl:ps.length+l.length<1099511627776) :
  ∃v' H',call X E (n+1) 150 [v,.sl (D.vs l) i,.c (.bool b)] H=some (v',H')∧PtAt H' v' (ps++l.map (mk3 b))∧H.length≤H'.length∧CellEq H H':=by
 obtain⟨n,rfl⟩:∃n',n=n'+1:=⟨n-1,by omega⟩
 have hv:v.vwt=v:=by rcases hat with⟨_,rfl⟩|⟨k,_,rfl,_⟩<;>rfl
 have key:∃vs h',ic (call X0 (fun _=>none) n) n x150 [v,.sl (D.vs l) i,.c (.bool b)] H=some ((bG vs).vwr,h')∧((∃v',vs=[v']∧PtAt h' v' (ps++l.map (mk3 b)))∧H.length≤h'.length∧CellEq H h'):=by
  refine AA (by kernel_rfl) rfl rfl (cm ?_);generalize call X0 (fun _=>none) n=cf at *;have hvw:([v,V.sl (D.vs l) i,.c (.bool b)]:List V).map V.vwt=[v,.sl (D.vs l) i,.c (.bool b)]:=by
   simp only[List.map_cons,List.map_nil,hv];rfl
  rw[hvw];simp -implicitDefEqProofs [x150_w];obtain⟨J,hJ⟩:∃J:Nat→SF→Prop,J=fun k s=>∃j v',j+k=l.length∧s.e 8=.c (.int .i64 j)∧s.e 7=v'∧PtAt s.h v' (ps++(l.take j).map (mk3 b))∧H.length≤s.h.length∧CellEq H s.h:=⟨_,rfl⟩
  refine aX J l.length (by omega) (by rw[hJ];exact⟨0,v,by simp,by simp[au],by simp[au,bD],by simpa using hat,nL _,.rfl' _⟩) ?_;rintro k ⟨e,h,base,rb⟩ hj he hb;rw[hJ] at hj;obtain⟨j,v',hj,e8,e7,ha,hlen,hce⟩:=hj;have e1:=he 1 rfl;have e2:=he 2 rfl;simp[au,bD] at e1 e2 hb;simp only at e8 e7 ha hlen hce;by_cases hm:j<l.length
  ·have hlt:(j:Int)<l.length:=by omega
   have hw:IntKind.i64.wrap ((j:Int)+1)=(j:Int)+1:=aB (by omega);have hvg:(D.vs l)[j]'(by rw[aa];omega)=(l[j]).v:=ac _;have htk:(l.take (j+1)).map (mk3 b)=(l.take j).map (mk3 b)++[(l[j],b,false)]:=by
    rw[List.take_add_one,gE hm,List.map_append];rfl
   have hps:(ps++(l.take j).map (mk3 b)).length<1099511627776:=by simp;omega
   generalize hPS:ps++(l.take j).map (mk3 b)=PS at *;have hps2:ps++(l.take (j+1)).map (mk3 b)=PS++[(l[j],b,false)]:=by rw[htk,← List.append_assoc,hPS]
   generalize l[j]=x at *;have hspl:bg [V.c (.int .i64 0),.c (.int .i64 0),.c (.string ⟨#[]⟩),.sl [] .nil,.c (.bool false),.c (.bool false)] 0 x.v.cells=x.v.cells++[.c (.bool false),.c (.bool false)]:=by obtain⟨k,i,t,l⟩:=x;rfl
   have hspl2:bg (x.v.cells++[.c (.bool false),.c (.bool false)]) 4 [.c (.bool b)]=ptC (x,b,false):=by obtain⟨k,i,t,l⟩:=x;rfl
   have hvf:x.v.vwf=x.v:=by obtain⟨k,i,t,l⟩:=x;rfl
   have hvc:(V.agg (ptC (x,b,false))).vw2=.agg (ptC (x,b,false)):=by obtain⟨k,i,t,l⟩:=x;rfl
   have hpl:=d9 (x,b,false);have hm1:x.v.cells.map V.vw1=x.v.cells:=by obtain⟨k,i,t,l⟩:=x;rfl
   have hd5:(x.v.cells++[V.c (.bool false),.c (.bool false)]).drop 5=[.c (.bool false)]:=by obtain⟨k,i,t,l⟩:=x;rfl
   have hpc:(x.v.cells++[V.c (.bool b),.c (.bool false)]).length=6:=hpl;subst hb;simp -implicitDefEqProofs [x150l7_w,e1,e2,e8,e7,hvg,hlt,hm,hspl,hspl2,hvf,hvc,hpl,hm1,hd5,hpc];refine CW (x:=x) (b:=b) (ha.app _) ?_ hps fun v2 h2 k1 k2 k3=>?_
   ·exact dP ..
   simp -implicitDefEqProofs [e8];refine⟨k-1,by omega,?_⟩;rw[hJ];refine⟨j+1,v2,by omega,by simp[au,hw],by simp[au],by rw[hps2];exact k1,by simp[k2];omega,?_⟩;exact (hce.trans hlen (.app _ _)).trans (by simp;omega) k3
  ·have hlt:¬(j:Int)<l.length:=by omega
   obtain rfl:j=l.length:=by omega
   rw[List.take_of_length_le (nL _)] at ha;subst hb;simp -implicitDefEqProofs [x150l7_w,x150_r,e1,e2,e8,e7];exact⟨ha,hlen,hce⟩
 obtain⟨vs,h',hr,⟨v',rfl,ha⟩,hl',hce⟩:=key;have hvr:(bG [v']).vwr=v':=by rcases ha with⟨_,rfl⟩|⟨k,_,rfl,_⟩<;>rfl
 refine⟨v',h',?_,ha,hl',hce⟩;have hE:E 150=some uG:=rfl;have hX0:X0 150=some x150:=rfl;simp only[call,hE];unfold uG;simp only[call,hX0,show x150.asg=none from rfl];rw[hr,hvr];simp only;rw[if_pos hce]
def Gt (n:Nat) (r:V) (vs:List V) (s:List O):Prop:=((bG vs).vw=r∧r.low 0=true)∨((bG vs).vw.low 0=false∧jU 0 s n (bG vs).vw=some r∧r.low 0=true)
theorem yK {n f k:Nat}{xf:XF}{args:List V}{r:V}(hE:E f=none) (hX:X f=some xf) (hk:args.length=k) (hx:tA xf k=true) (hp:xf.pure=true∧xf.esc=false) (hl:V.lows 0 (args.map V.vw2)=true)
  (hw:wpk (call X E n) n xf.body [] (Fin (Gt n r) xf) ⟨bD (args.map V.vw2),[],0,0⟩) (ha:xf.asg=none:=by rfl):aV (n+1) f args r:=by
 intro h;simp only[call,hE,hX,ha];subst hk;have:=jN (cf:=call X E n) (n:=n) (xf:=xf) (args:=args.map V.vw2) (h:=[]) (by simpa using hx) (cm hw);obtain⟨e,s,vs,h1,h2,h3,h4,h5⟩:=this;unfold ic;rw[if_pos hp.1,if_pos hl,if_neg (by simp[hp.2]),h1];simp only[List.length_nil] at h4;rcases h5 with⟨h5,h6⟩|⟨h5,h6,h7⟩
 ·cases e with
  | exit id=>exact absurd rfl (h2 id)
  | normal=>simp[fin,h3,h5,h6,h4]
  | ret=>simp[fin,h3,h5,h6,h4]
 ·cases e with
  | exit id=>exact absurd rfl (h2 id)
  | normal=>simp[fin,h3,h5,h6,h4,h7]
  | ret=>simp[fin,h3,h5,h6,h4,h7]
theorem pH (h:List O) (f:V→Option V):∀l:List D,(∀x∈l,bF 0 f h x.v=some x.v)→d7 0 f h (D.vs l)=some (D.vs l)
 | [],_=>by simp[D.vs,d7]
 | x::l,hx=>by
  simp only[D.vs,d7,hx x (by simp),pH h f l fun y hy=>hx y (by simp[hy])]
theorem EF (h:List O) (f:V→Option V):∀d:D,bF 0 f h d.v=some d.v:=by
 refine D.ind fun k i t l ih=>?_
 simp only[D.v,bF,d7,pH h f l ih,Option.map_some]
theorem Bg (h:List O) (f:V→Option V) (p:D × Bool × Bool):bF 0 f h (.agg (ptC p))=some (.agg (ptC p)):=by
 obtain⟨⟨k,i,t,l⟩,a,b⟩:=p;simp only[ptC,D.v,V.cells,List.cons_append,List.nil_append,bF,d7,pH h f l fun x _=>EF h f x,Option.map_some]
theorem wb (h:List O) (n:Nat):∀ps,nW (jU 0 h (n+1)) (ptV ps)=some (ptV ps)
 | []=>rfl
 | p::ps=>by
  have h1:jU 0 h (n+1) (.agg (ptC p))=some (.agg (ptC p)):=Bg h _ p;have h2:=wb h n ps;simp only[ptV,List.map_cons] at h2 ⊢;simp only[nW,h1,h2]
theorem qt:∀ps,elems (some 6) ps.length (aF (ptV ps))=some (ptV ps)
 | []=>rfl
 | p::ps=>by
  have hf:aF (ptV (p::ps))=ptC p++aF (ptV ps):=by simp[ptV,aF,V.cells]
  obtain⟨a,c,hac⟩:∃a c,ptC p=a::c:=by
   have:=d9 p;cases h:ptC p with
   | nil=>rw[h] at this;cases this
   | cons a c=>exact⟨a,c,rfl⟩
  have hl:=d9 p;rw[hf,lC,elems];have h1:rdV (ptC p++aF (ptV ps)) 0 (some 6)=some (.agg (ptC p)):=by
   rw[hac,List.cons_append,vh,if_pos (by rw[hac] at hl;simp at hl ⊢;omega),← List.cons_append,← hac,List.drop_zero,List.take_append_of_le_length (by omega),List.take_of_length_le (by omega)]
  have h2:(ptC p++aF (ptV ps)).drop (zc (some 6))=aF (ptV ps):=by
   show (ptC p++aF (ptV ps)).drop 6=_;rw[← hl,List.drop_left]
  rw[h1,h2,qt ps];rfl
theorem Di (m:Nat) (ps:List (D × Bool × Bool)):V.lows m (ptV ps)=true:=cq fun v hv=>by
 obtain⟨⟨⟨k,i,t,l⟩,a,b⟩,_,rfl⟩:=List.mem_map.1 hv;have:=D.lows m l;simp[ptC,D.v,V.cells,V.low,V.lows,this,SI.low]
def ptR (ps:List (D × Bool × Bool)):V:=if ps=[] then .sl [] .nil else .sl (ptV ps) .any
theorem Dn {h:List O}{v:V}{ps:List (D × Bool × Bool)}(hat:PtAt h v ps){n:Nat}(hn:2≤n):Gt n (ptR ps) [v] h:=by
 obtain⟨n,rfl⟩:∃n',n=n'+2:=⟨n-2,by omega⟩
 have hlow:=Di 0 ps;have hr:(ptR ps).low 0=true:=by
  unfold ptR;split<;>simp[V.low,V.lows,SI.low,hlow]
 rcases hat with⟨rfl,rfl⟩|⟨k,h0,rfl,hk⟩
 ·exact .inl ⟨rfl,hr⟩
 ·refine .inr ⟨rfl,?_,hr⟩;show bF 0 (jU 0 h (n+1)) h (.tsl k ps.length (some 6))=_;simp only[bF,Nat.not_lt_zero,if_false,hk,qt,wb];rw[if_pos ⟨trivial,rfl⟩];simp only[Option.map_some];unfold ptR;rw[if_neg h0]
theorem dJ (l:List D) (k:Nat):(D.vs l).drop k=D.vs (l.drop k):=by rw[aq,aq,List.map_drop]
theorem fw (l:List D) (k:Nat):(D.vs l).take k=D.vs (l.take k):=by rw[aq,aq,List.map_take]
theorem BL (l:List D):(D.vs l).tail=D.vs l.tail:=by rw[aq,aq,List.map_tail]
attribute [simp] dJ fw BL
theorem aQ (d:D):d.kids.length<d.sz:=by obtain⟨k,i,t,l⟩:=d;have:=aj l;simp only[D.kids,D.sz];omega
theorem sQ {d x:D}(h:x∈d.kids):x.sz<d.sz:=by obtain⟨k,i,t,l⟩:=d;have:=ak h;simp only[D.kids] at this;simp only[D.sz];omega
def prP (d:D):List (D × Bool × Bool) :=
 if wn d.wd=9∨wn d.wd=1 then (d.kids.drop 1).map (mk3 false) else
 if wn d.wd=11 then (d.kids.drop 1).map (mk3 true) else
 if wn d.wd=10 then ((d.kids.take 2).drop 1).map (mk3 false)++(d.kids.drop 2).map (mk3 true) else
 if wn d.wd=2∨wn d.wd=12∨wn d.wd=13 then [(d.kid 2,wn d.wd==13,false),(d.kid 3,!(wn d.wd==2),true)] else
 if wn d.wd=7∨wn d.wd=3 then (d.kids.drop 2).map (mk3 false) else
 if wn d.wd=14 then (d.kids.drop 2).map (mk3 true) else
 if wn d.wd=15 then (d.kid 2).kids.map (mk3 false)++(d.kid 3).kids.map (mk3 true) else []
theorem y9 {d:D}(h:wn d.wd≠99):1≤d.kids.length:=by
 unfold D.wd at h;split at h
 ·rename_i hc;have:=hc.2.1;cases hk:d.kids with
  | nil=>exact absurd hk this
  | cons a l=>simp
 ·exact absurd kq h
theorem fN {d:D}{j:Nat}(h:j<d.kids.length):d.kids[j]=d.kid j:=by
 rw[D.kid,List.getD_eq_getElem?_getD,gE h];rfl
theorem iG {d:D}{j:Nat}(h:d.kids.length=j+1):d.kids.drop j=[d.kid j]:=by
 rw[dC (by omega),List.drop_of_length_le (by omega),fN]
theorem iz {d:D}{j:Nat}(h:j<d.kids.length):(d.kids.take (j+1)).drop j=[d.kid j]:=by
 rw[List.drop_take,dC h,fN];simp
theorem aA {d:D}{j:Nat}(h:j<d.kids.length):d.kid j∈d.kids:=by
 rw[← fN h];exact List.getElem_mem _
theorem F2 (d:D) (hf:fmW (wn d.wd) d=true){n:Nat}(hn:d.sz+10≤n) (hl:d.sz<1000000000):aV (n+1) 98 [d.v] (ptR (prP d)):=by
 obtain⟨n,rfl⟩:∃n',n=n'+1:=⟨n-1,by omega⟩
 have c56:∀h,call X E (n+1) 56 [d.v] h=some (.c (.string d.wd),h):=Cp d;have hkl:d.kids.length<d.sz:=aQ d;have g150:∀{H:List O}{v:V}{ps:List (D × Bool × Bool)},PtAt H v ps→∀(l:List D) (b:Bool),l.length<d.sz→ps.length<d.sz→∃v' H',call X E (n+1) 150 [v,.sl (D.vs l) .any,.c (.bool b)] H=some (v',H')∧PtAt H' v' (ps++l.map (mk3 b))∧H.length≤H'.length∧CellEq H H' :=
  fun hat l b h1 h2=>GE hat l .any b (by omega) (by omega)
 have pf:∀{h:List O}{v:V}{ps:List (D × Bool × Bool)},PtAt h v ps→Gt (n+1) (ptR ps) [v] h:=fun hat=>Dn hat (by omega)
 have hwl:wn d.wd≠99→1≤d.kids.length:=y9;refine yK rfl rfl rfl (by kernel_rfl) ⟨rfl,rfl⟩ (by simp[V.lows]) ?_;have hz:∀l:List D,Ab.hz 4 (D.vs l)=true:=D.hz;have hnil:∀h,PtAt h (.sl [] .nil) []:=fun h=>.inl ⟨rfl,rfl⟩
 generalize n+1=m at *;generalize call X E m=cf at *;unfold prP;unfold fmW at hf;generalize hwt:wn d.wd=w at *;by_cases h9:w=9
 ·subst h9;have hl1:=hwl (by decide);have hl1i:(1:Int)≤d.kids.length:=by omega
  simp at hf;simp;have hl2i:=hl1i;obtain⟨v1,H1,hc1,ha1,hle1,hce1⟩:=g150 (hnil [O.cells d.v.cells]) (d.kids.drop 1) false (by simp;omega) (by simp;omega);have hq:=pf ha1;simp at hc1 ha1 hle1 hq;simp -implicitDefEqProofs [x98_w,x98_r,c56,hwt,hz,hl1,hl1i,hl2i,hc1,hle1];exact hq
 by_cases h1:w=1
 ·subst h1;have hl1:=hwl (by decide);have hl1i:(1:Int)≤d.kids.length:=by omega
  simp at hf;simp;have hl2i:=hl1i;obtain⟨v1,H1,hc1,ha1,hle1,hce1⟩:=g150 (hnil [O.cells d.v.cells]) (d.kids.drop 1) false (by simp;omega) (by simp;omega);have hq:=pf ha1;simp at hc1 ha1 hle1 hq;simp -implicitDefEqProofs [x98_w,x98_r,c56,hwt,hz,hl1,hl1i,hl2i,hc1,hle1];exact hq
 by_cases h11:w=11
 ·subst h11;have hl1:=hwl (by decide);have hl1i:(1:Int)≤d.kids.length:=by omega
  simp at hf;simp;have hl2i:=hl1i;obtain⟨v1,H1,hc1,ha1,hle1,hce1⟩:=g150 (hnil [O.cells d.v.cells]) (d.kids.drop 1) true (by simp;omega) (by simp;omega);have hq:=pf ha1;simp at hc1 ha1 hle1 hq;simp -implicitDefEqProofs [x98_w,x98_r,c56,hwt,hz,hl1,hl1i,hl2i,hc1,hle1];exact hq
 by_cases h10:w=10
 ·subst h10;have hl1:=hwl (by decide);have hl1i:(1:Int)≤d.kids.length:=by omega
  simp at hf;simp;have hl2i:(2:Int)≤d.kids.length:=by omega
  obtain⟨v1,H1,hc1,ha1,hle1,hce1⟩:=g150 (hnil [O.cells d.v.cells]) ((d.kids.take 2).drop 1) false (by simp;omega) (by simp;omega);obtain⟨v2,H2,hc2,ha2,hle2,hce2⟩:=g150 ha1 (d.kids.drop 2) true (by simp;omega) (by simp;omega);have h10:H1[0]?=some (O.cells d.v.cells):=(hce1 0 _).1 rfl;simp at hle1;have hq:=pf ha2;simp at hc1 hc2 hle2 hq;simp -implicitDefEqProofs [x98_w,x98_r,c56,hwt,hz,hl1,hl1i,hl2i,hc1,hc2,hle1,hle2,h10];exact hq
 by_cases h2:w=2
 ·subst h2;have hl1:=hwl (by decide);have hl1i:(1:Int)≤d.kids.length:=by omega
  simp at hf;simp;have hl4:d.kids.length=4:=hf.1;have hl2i:(2:Int)≤d.kids.length:=by omega
  have hl3i:(3:Int)≤d.kids.length:=by omega
  have hk2:(d.kids.take 3).drop 2=[d.kid 2]:=iz (by omega);have hk3:d.kids.drop 3=[d.kid 3]:=iG (by omega);obtain⟨v1,H1,hc1,ha1,hle1,hce1⟩:=g150 (hnil [O.cells d.v.cells]) [d.kid 2] false (by simp;omega) (by simp;omega);obtain⟨v2,H2,hc2,ha2,hle2,hce2⟩:=g150 ha1 [d.kid 3] false (by simp;omega) (by simp;omega);have h10:H1[0]?=some (O.cells d.v.cells):=(hce1 0 _).1 rfl;simp at hle1;have hv2:(D.vs d.kids |>.take 3).drop 2=D.vs [d.kid 2]:=by rw[fw,dJ,hk2]
  have ht4:(D.vs d.kids).take 4=D.vs d.kids:=List.take_of_length_le (by rw[aa];omega);have hv3:(D.vs d.kids).drop 3=D.vs [d.kid 3]:=by rw[dJ,hk3]
  rcases ha2 with⟨h0,_⟩|⟨q,_,rfl,hq⟩
  ·simp at h0
  simp[mk3] at hq;have hat:PtAt (H2.set q (.tokc 2 6 (bg (aF (ptV [(d.kid 2,false,false),(d.kid 3,false,false)])) 11 [.c (.bool true)]))) (.tsl q 2 (some 6)) [(d.kid 2,false,false),(d.kid 3,false,true)]:=by
   refine .inr ⟨q,by simp,rfl,?_⟩;rw[sS (gS.1 hq).1];generalize d.kid 2=a;generalize d.kid 3=b;obtain⟨ka,ia,ta,la⟩:=a;obtain⟨kb,ib,tb,lb⟩:=b;rfl
  have hq2:=pf hat;have hfl:(aF (ptV [(d.kid 2,false,false),(d.kid 3,false,false)])).length=12:=by simp only[ptV,aF,List.map_cons,List.map_nil,List.flatMap_cons,List.flatMap_nil,gA,lA,d9,List.length_nil]
  generalize aF (ptV [(d.kid 2,false,false),(d.kid 3,false,false)])=FL at *;simp -implicitDefEqProofs [-fw,-dJ,x98_w,x98_r,c56,hwt,hz,hl1,hl1i,hl2i,hl3i,hl4,hv2,hv3,ht4,hc1,hc2,hle1,hle2,h10,hq,mk3,hfl];exact hq2
 by_cases h12:w=12
 ·subst h12;have hl1:=hwl (by decide);have hl1i:(1:Int)≤d.kids.length:=by omega
  simp at hf;simp;have hl4:d.kids.length=4:=hf.1;have hl2i:(2:Int)≤d.kids.length:=by omega
  have hl3i:(3:Int)≤d.kids.length:=by omega
  have hk2:(d.kids.take 3).drop 2=[d.kid 2]:=iz (by omega);have hk3:d.kids.drop 3=[d.kid 3]:=iG (by omega);obtain⟨v1,H1,hc1,ha1,hle1,hce1⟩:=g150 (hnil [O.cells d.v.cells]) [d.kid 2] false (by simp;omega) (by simp;omega);obtain⟨v2,H2,hc2,ha2,hle2,hce2⟩:=g150 ha1 [d.kid 3] true (by simp;omega) (by simp;omega);have h10:H1[0]?=some (O.cells d.v.cells):=(hce1 0 _).1 rfl;simp at hle1;have hv2:(D.vs d.kids |>.take 3).drop 2=D.vs [d.kid 2]:=by rw[fw,dJ,hk2]
  have ht4:(D.vs d.kids).take 4=D.vs d.kids:=List.take_of_length_le (by rw[aa];omega);have hv3:(D.vs d.kids).drop 3=D.vs [d.kid 3]:=by rw[dJ,hk3]
  rcases ha2 with⟨h0,_⟩|⟨q,_,rfl,hq⟩
  ·simp at h0
  simp[mk3] at hq;have hat:PtAt (H2.set q (.tokc 2 6 (bg (aF (ptV [(d.kid 2,false,false),(d.kid 3,true,false)])) 11 [.c (.bool true)]))) (.tsl q 2 (some 6)) [(d.kid 2,false,false),(d.kid 3,true,true)]:=by
   refine .inr ⟨q,by simp,rfl,?_⟩;rw[sS (gS.1 hq).1];generalize d.kid 2=a;generalize d.kid 3=b;obtain⟨ka,ia,ta,la⟩:=a;obtain⟨kb,ib,tb,lb⟩:=b;rfl
  have hq2:=pf hat;have hfl:(aF (ptV [(d.kid 2,false,false),(d.kid 3,true,false)])).length=12:=by simp only[ptV,aF,List.map_cons,List.map_nil,List.flatMap_cons,List.flatMap_nil,gA,lA,d9,List.length_nil]
  generalize aF (ptV [(d.kid 2,false,false),(d.kid 3,true,false)])=FL at *;simp -implicitDefEqProofs [-fw,-dJ,x98_w,x98_r,c56,hwt,hz,hl1,hl1i,hl2i,hl3i,hl4,hv2,hv3,ht4,hc1,hc2,hle1,hle2,h10,hq,mk3,hfl];exact hq2
 by_cases h13:w=13
 ·subst h13;have hl1:=hwl (by decide);have hl1i:(1:Int)≤d.kids.length:=by omega
  simp at hf;simp;have hl4:d.kids.length=4:=hf.1;have hl2i:(2:Int)≤d.kids.length:=by omega
  have hl3i:(3:Int)≤d.kids.length:=by omega
  have hk2:(d.kids.take 3).drop 2=[d.kid 2]:=iz (by omega);have hk3:d.kids.drop 3=[d.kid 3]:=iG (by omega);obtain⟨v1,H1,hc1,ha1,hle1,hce1⟩:=g150 (hnil [O.cells d.v.cells]) [d.kid 2] true (by simp;omega) (by simp;omega);obtain⟨v2,H2,hc2,ha2,hle2,hce2⟩:=g150 ha1 [d.kid 3] true (by simp;omega) (by simp;omega);have h10:H1[0]?=some (O.cells d.v.cells):=(hce1 0 _).1 rfl;simp at hle1;have hv2:(D.vs d.kids |>.take 3).drop 2=D.vs [d.kid 2]:=by rw[fw,dJ,hk2]
  have ht4:(D.vs d.kids).take 4=D.vs d.kids:=List.take_of_length_le (by rw[aa];omega);have hv3:(D.vs d.kids).drop 3=D.vs [d.kid 3]:=by rw[dJ,hk3]
  rcases ha2 with⟨h0,_⟩|⟨q,_,rfl,hq⟩
  ·simp at h0
  simp[mk3] at hq;have hat:PtAt (H2.set q (.tokc 2 6 (bg (aF (ptV [(d.kid 2,true,false),(d.kid 3,true,false)])) 11 [.c (.bool true)]))) (.tsl q 2 (some 6)) [(d.kid 2,true,false),(d.kid 3,true,true)]:=by
   refine .inr ⟨q,by simp,rfl,?_⟩;rw[sS (gS.1 hq).1];generalize d.kid 2=a;generalize d.kid 3=b;obtain⟨ka,ia,ta,la⟩:=a;obtain⟨kb,ib,tb,lb⟩:=b;rfl
  have hq2:=pf hat;have hfl:(aF (ptV [(d.kid 2,true,false),(d.kid 3,true,false)])).length=12:=by simp only[ptV,aF,List.map_cons,List.map_nil,List.flatMap_cons,List.flatMap_nil,gA,lA,d9,List.length_nil]
  generalize aF (ptV [(d.kid 2,true,false),(d.kid 3,true,false)])=FL at *;simp -implicitDefEqProofs [-fw,-dJ,x98_w,x98_r,c56,hwt,hz,hl1,hl1i,hl2i,hl3i,hl4,hv2,hv3,ht4,hc1,hc2,hle1,hle2,h10,hq,mk3,hfl];exact hq2
 by_cases h7:w=7
 ·subst h7;have hl1:=hwl (by decide);have hl1i:(1:Int)≤d.kids.length:=by omega
  simp at hf;simp;have hl2i:(2:Int)≤d.kids.length:=by omega
  obtain⟨v1,H1,hc1,ha1,hle1,hce1⟩:=g150 (hnil [O.cells d.v.cells]) (d.kids.drop 2) false (by simp;omega) (by simp;omega);have hq:=pf ha1;simp at hc1 ha1 hle1 hq;simp -implicitDefEqProofs [x98_w,x98_r,c56,hwt,hz,hl1,hl1i,hl2i,hc1,hle1];exact hq
 by_cases h3:w=3
 ·subst h3;have hl1:=hwl (by decide);have hl1i:(1:Int)≤d.kids.length:=by omega
  simp at hf;simp;have hl2i:(2:Int)≤d.kids.length:=by omega
  obtain⟨v1,H1,hc1,ha1,hle1,hce1⟩:=g150 (hnil [O.cells d.v.cells]) (d.kids.drop 2) false (by simp;omega) (by simp;omega);have hq:=pf ha1;simp at hc1 ha1 hle1 hq;simp -implicitDefEqProofs [x98_w,x98_r,c56,hwt,hz,hl1,hl1i,hl2i,hc1,hle1];exact hq
 by_cases h14:w=14
 ·subst h14;have hl1:=hwl (by decide);have hl1i:(1:Int)≤d.kids.length:=by omega
  simp at hf;simp;have hl2i:(2:Int)≤d.kids.length:=by omega
  obtain⟨v1,H1,hc1,ha1,hle1,hce1⟩:=g150 (hnil [O.cells d.v.cells]) (d.kids.drop 2) true (by simp;omega) (by simp;omega);have hq:=pf ha1;simp at hc1 ha1 hle1 hq;simp -implicitDefEqProofs [x98_w,x98_r,c56,hwt,hz,hl1,hl1i,hl2i,hc1,hle1];exact hq
 by_cases h15:w=15
 ·subst h15;have hl1:=hwl (by decide);have hl1i:(1:Int)≤d.kids.length:=by omega
  simp at hf;simp;have hl4:d.kids.length=4:=hf.1;have hs2:(d.kid 2).kids.length<d.sz:=by
   have h2:=sQ (aA (d:=d) (j:=2) (by omega));have:=aQ (d.kid 2);omega
  have hs3:(d.kid 3).kids.length<d.sz:=by
   have h2:=sQ (aA (d:=d) (j:=3) (by omega));have:=aQ (d.kid 3);omega
  obtain⟨v1,H1,hc1,ha1,hle1,hce1⟩:=g150 (hnil [O.cells d.v.cells]) (d.kid 2).kids false hs2 (by simp;omega);obtain⟨v2,H2,hc2,ha2,hle2,hce2⟩:=g150 ha1 (d.kid 3).kids true hs3 (by simp;omega);have h10:H1[0]?=some (O.cells d.v.cells):=(hce1 0 _).1 rfl;simp at hle1;have hq:=pf ha2;simp at hc1 hc2 hle2 hq;simp -implicitDefEqProofs [x98_w,x98_r,c56,hwt,hz,hl1,hl1i,hl4,hc1,hc2,hle1,hle2,h10];exact hq
 have b9:(w==9)=false:=by simp[h9]
 have b1:(w==1)=false:=by simp[h1]
 have b11:(w==11)=false:=by simp[h11]
 have b10:(w==10)=false:=by simp[h10]
 have b2:(w==2)=false:=by simp[h2]
 have b12:(w==12)=false:=by simp[h12]
 have b13:(w==13)=false:=by simp[h13]
 have b7:(w==7)=false:=by simp[h7]
 have b3:(w==3)=false:=by simp[h3]
 have b14:(w==14)=false:=by simp[h14]
 have b15:(w==15)=false:=by simp[h15]
 have hq:=pf (hnil [O.cells d.v.cells]);simp[h9,h1,h11,h10,h2,h12,h13,h7,h3,h14,h15];simp -implicitDefEqProofs [x98_w,x98_r,c56,hwt,b9,b1,b11,b10,b2,b12,b13,b7,b3,b14,b15];exact hq
theorem D.low_cells (m:Nat) (d:D):V.lows m d.v.cells=true:=by
 have:=ap m d
 rwa [ba] at this
def fdS:List (ByteArray × Bool)→ByteArray→Option Bool
 | [],_=>none
 | p::r,t=>if eqS p.1 t=true then some p.2 else fdS r t
def cap113:List V:=xw 25 [4,5,6] fun i=>if i=4 then .ref 0 0 else if i=5 then .ref 1 0 else .ref 2 0
def iq (d:D) (st:Bool) (U:List V) (s:Nat):List O:=[.cells d.v.cells,.cells [.c (.bool st)],.cells [.c (.int .i64 0)],.cells [.sl U .any],.loop s]
def jT (o:Option Bool) (st:Bool):Nat:=match o with
 | none=>0
 | some b=>if b==st then 3 else 4
theorem zT (d:D) (st:Bool) (l:List (ByteArray × Bool)) (s:Nat):(iq d st (scV l) s).all (O.low 5)=true:=by
 have h1:=D.low_cells 5 d;have h2:=fk 5 l;simp[iq,ba,h1,h2,V.lows,V.low,SI.low,O.low]
theorem xu {n:Nat}(d:D) (st:Bool) (l:List (ByteArray × Bool)) (i:Int) (x:ByteArray × Bool) :
  call X E (n+1) 1011300 (.c (.int .i64 4)::.c (.int .i64 i)::.agg [.c (.string x.1),.c (.bool x.2)]::cap113) (iq d st (scV l) 0) =
   some (.c (.bool (!(eqS x.1 d.tx))),iq d st (scV l) (if eqS x.1 d.tx=true then jT (some x.2) st else 0)):=by
 have hE:E 1011300=none:=rfl;have hX:X 1011300=some x1011300:=rfl;have hA:x1011300.asg=some ([14,15],x1011300r4):=rfl;simp only[call,hE,hX,hA];rw[if_pos (by simp[iq])];have t4:toE ((cap113.set 14 (.c (.int .i64 i))).set 15 (.agg [.c (.string x.1),.c (.bool x.2)])) 4=.ref 0 0:=rfl;have t5:toE ((cap113.set 14 (.c (.int .i64 i))).set 15 (.agg [.c (.string x.1),.c (.bool x.2)])) 5=.ref 1 0:=rfl;have t6:toE ((cap113.set 14 (.c (.int .i64 i))).set 15 (.agg [.c (.string x.1),.c (.bool x.2)])) 6=.ref 2 0:=rfl;have t15:toE ((cap113.set 14 (.c (.int .i64 i))).set 15 (.agg [.c (.string x.1),.c (.bool x.2)])) 15=.agg [.c (.string x.1),.c (.bool x.2)]:=rfl;refine ya (tm:=((cap113.set 14 (.c (.int .i64 i))).set 15 (.agg [.c (.string x.1),.c (.bool x.2)]))) rfl (by kernel_rfl) (by kernel_rfl) ?_;have hlo:=fun s=>zT d st l s
 generalize scV l=U at *;generalize toE ((cap113.set 14 (.c (.int .i64 i))).set 15 (.agg [.c (.string x.1),.c (.bool x.2)]))=e0 at *;obtain⟨t,b⟩:=x;simp only at t15;refine cm ?_;cases he:eqS t d.tx with
 | false =>
  have hl:=hlo 0;simp -implicitDefEqProofs [x1011300_w,x1011300r4_w,iq,t4,t5,t6,t15];refine cm ?_;simp[iq] at hl;simp -implicitDefEqProofs [x1011300_w,t4,t5,t6,t15,aK,he,Ex.num];exact hl
 | true =>
  cases hb:(b==st) with
  | true =>
   have hl:=hlo 3;simp -implicitDefEqProofs [x1011300_w,x1011300r4_w,iq,t4,t5,t6,t15];refine cm ?_;simp[iq] at hl;simp -implicitDefEqProofs [x1011300_w,t4,t5,t6,t15,aK,he,hb,Ex.num,jT];exact hl
  | false =>
   have hl:=hlo 4;simp -implicitDefEqProofs [x1011300_w,x1011300r4_w,iq,t4,t5,t6,t15];refine cm ?_;simp[iq] at hl;simp -implicitDefEqProofs [x1011300_w,t4,t5,t6,t15,aK,he,hb,Ex.num,jT];exact hl
theorem yN {l:List (ByteArray × Bool)}{j:Nat}(h:j<l.length) (t:ByteArray):fdS (l.take (j+1)).reverse t=if eqS (l[j]).1 t=true then some (l[j]).2 else fdS (l.take j).reverse t:=by
 rw[List.take_add_one,gE h,List.reverse_append];rfl
theorem de {m f:Nat}{xf:XF}{args:List V}{h:List O}(hE:E f=none) (hX:X f=some xf) (ha:xf.asg=none):call X E (m+1) f args h=ic (call X E m) m xf args h:=by simp only[call,hE,hX,ha]
theorem E5 (d:D) (st:Bool) (l:List (ByteArray × Bool)){n:Nat}(hn:l.length<n) (hl:l.length<1099511627776) :
  call X E (n+1) 182 [.yld 4 1011300 2 cap113,.ref 3 0] (iq d st (scV l) 0)=some (.tup [],iq d st (scV l) (jT (fdS l.reverse d.tx) st)):=by
 obtain⟨n,rfl⟩:∃n',n=n'+1:=⟨n-1,by omega⟩
 have hr:∀(i:Int) (x:ByteArray × Bool),call X E (n+1) 1011300 (.c (.int .i64 4)::.c (.int .i64 i)::.agg [.c (.string x.1),.c (.bool x.2)]::cap113) (iq d st (scV l) 0) =
   some (.c (.bool (!(eqS x.1 d.tx))),iq d st (scV l) (if eqS x.1 d.tx=true then jT (some x.2) st else 0)):=fun i x=>xu d st l i x
 rw[de (xf:=x182) rfl rfl rfl];have hlo:=fun s=>zT d st l s
 have hsl:=nY l;have hcl:cap113.length=25:=rfl;have hvw:([.yld 4 1011300 2 cap113,.ref 3 0]:List V).map V.vw2=[.yld 4 1011300 2 cap113,.ref 3 0]:=rfl;have h5:∀s,(iq d st (scV l) s).length=5:=fun s=>rfl
 have h3:∀s,(iq d st (scV l) s)[3]'(by rw[h5];omega)=.cells [.sl (scV l) .any]:=fun s=>rfl
 have hvg:∀(j:Nat) (h:j<l.length),(scV l)[j]'(by rw[hsl];exact h)=.agg [.c (.string (l[j]).1),.c (.bool (l[j]).2)]:=fun j h=>by simp[scV]
 refine dm (by kernel_rfl) rfl rfl (cm ?_);rw[hvw];generalize call X E (n+1)=cf at *;generalize iq d st (scV l)=H at *;generalize hU:scV l=U at *;simp -implicitDefEqProofs [x182_w,h5,h3,hsl];have hwl:IntKind.i64.wrap ((l.length:Int)-1)=(l.length:Int)-1:=aB (by omega);rw[hwl];generalize cap113=cp at *;obtain⟨J,hJ⟩:∃J:Nat→SF→Prop,J=fun k s=>k≤l.length∧s.e 3=.c (.int .i64 ((k:Int)-1))∧s.h=H 0∧fdS l.reverse d.tx=fdS (l.take k).reverse d.tx:=⟨_,rfl⟩
 refine aX J l.length (by omega) (by rw[hJ];exact⟨nL _,by simp[au],rfl,by simp⟩) ?_;rintro k ⟨e,h,base,rb⟩ hj he hb;rw[hJ] at hj;obtain⟨hk,e3,hh,hfx⟩:=hj;have e0:=he 0 rfl;have e1:=he 1 rfl;simp[au,bD] at e0 e1 hb;simp only at e3 hh;subst hb hh;cases k with
 | zero =>
  have hge:¬(0:Int) ≤ -1:=by omega
  have hfx:fdS l.reverse d.tx=none:=by rw[hfx];rfl
  have hl0:=hlo 0;rw[hfx];simp only[jT];simp at e3;simp -implicitDefEqProofs [x182l5_w,x182_r,e0,e1,e3,h5];refine⟨rfl,rfl,?_,by simpa using hl0⟩;rw[List.take_of_length_le (by rw[h5];omega)]
 | succ k =>
  have hkl:k<l.length:=by omega
  have hge:(0:Int)≤(k:Int):=by omega
  have hlt:(k:Int)<l.length:=by omega
  have h3k:((k+1:Nat):Int)-1=(k:Int):=by omega
  rw[h3k] at e3;have hv:=hvg k hkl;rw[yN hkl] at hfx;have hw:IntKind.i64.wrap ((k:Int)-1)=(k:Int)-1:=aB (by omega);have hrk:=hr k l[k];generalize l[k]=x at *;cases hp:eqS x.1 d.tx with
  | false =>
   rw[hp] at hrk hfx;simp only[Bool.not_false,Bool.false_eq_true,if_false] at hrk hfx;simp -implicitDefEqProofs [x182l5_w,e0,e1,e3,h5,h3,hsl,hge,hlt,hkl,hv,hrk];refine⟨k,by omega,?_⟩;rw[hJ];exact⟨by omega,by simp[au,hw],rfl,hfx⟩
  | true =>
   rw[hp] at hrk hfx;simp only[Bool.not_true,if_true] at hrk hfx;rw[hfx];have hl1:=hlo (jT (some x.2) st);simp -implicitDefEqProofs [x182l5_w,x182_r,e0,e1,e3,h5,h3,hsl,hge,hlt,hkl,hv,hrk];refine⟨rfl,rfl,?_,by simpa using hl1⟩;rw[List.take_of_length_le (by rw[h5];omega)]
theorem ri {cf:aw}{n:Nat}{xf:XF}{args:List V}{h:List O}{P:V→List O→Prop}(hx:tA xf args.length=true) (hp:xf.pure=true) (he:xf.esc=true) (hl:V.lows 0 (args.map V.vw2)=true)
  (hw:wpx cf n xf.body ⟨bD (args.map V.vw2),[],0,0⟩ (Fin (fun vs s=>P (bG vs).vwr s) xf)) (hr:xf.rw=false:=by rfl):∃v H,P v H∧ic cf n xf args h=some (v.shift h.length,h++H.map (O.shift h.length)):=by
 have:=jN (cf:=cf) (n:=n) (xf:=xf) (args:=args.map V.vw2) (h:=[]) (by simpa using hx) hw;obtain⟨e,s,vs,h1,h2,h3,h4,h5⟩:=this;refine⟨(bG vs).vwr,s.h,h5,?_⟩;unfold ic;rw[if_pos hp,if_pos hl,if_pos he,show zY xf=[] by simp[zY,hr],h1];cases e with
 | exit id=>exact absurd rfl (h2 id)
 | normal=>simp[fin,h3]
 | ret=>simp[fin,h3]
theorem uZ (m:Nat) (l:List (ByteArray × Bool)):V.shifts m (scV l)=scV l:=by
 induction l with
 | nil=>rfl
 | cons p l ih =>
  simp only[scV,List.map_cons] at ih ⊢;simp only[V.shifts,V.shift,ih]
theorem F4 (l:List (ByteArray × Bool)) (i:SI){n:Nat}(h:List O):call X E (n+1) 158 [.sl (scV l) i] h=some (.clo 182 [.ref h.length 0],h++[.cells [.sl (scV l) .any]]):=by
 rw[de (xf:=x158) rfl rfl rfl];have hlow:=fk 0 l;have hsh:=uZ h.length l;generalize scV l=U at *;obtain⟨v,H,⟨h1,h2⟩,h3⟩:=ri (cf:=call X E n) (n:=n) (xf:=x158) (args:=[.sl U i]) (h:=h) (P:=fun v H=>v=.clo 182 [.ref 0 0]∧H=[.cells [.sl U .any]]) (by kernel_rfl) rfl rfl (by simp[V.lows,V.low,hlow,SI.low]) (by
  refine cm ?_;simp -implicitDefEqProofs [x158_w,x158_r];simp[V.vwr,V.vw,V.vwf,V.vw2,V.vw1])
 rw[h3,h1,h2];simp[V.shift,V.shifts,O.shift,hsh,SI.shift]
def nmE (rs:List (ByteArray × Bool)) (d:D) (st:Bool):Int:=if d.nm=true then (if fdS rs d.tx=some st then 0 else 12) else 4
theorem DB (d:D) (l:List (ByteArray × Bool)) (i:SI) (st:Bool){n:Nat}(hn:l.length+2<n) (hl:l.length<1099511627776):aV (n+1) 113 [.sl (scV l) i,d.v,.c (.bool st)] (.c (.int .i64 (nmE l.reverse d st))):=by
 obtain⟨n,rfl⟩:∃n',n=n'+1:=⟨n-1,by omega⟩
 have c115:∀h,call X E (n+1) 115 [d.v] h=some (.c (.bool d.nm),h):=tB d;have c158:∀i h,call X E (n+1) 158 [.sl (scV l) i] h=some (.clo 182 [.ref h.length 0],h++[.cells [.sl (scV l) .any]]):=fun i h=>F4 l i h
 have c182:call X E (n+1) 182 [.yld 4 1011300 2 cap113,.ref 3 0] (iq d st (scV l) 0)=some (.tup [],iq d st (scV l) (jT (fdS l.reverse d.tx) st)):=E5 d st l (by omega) hl;have hlow:=fk 0 l;refine azz (by simp[V.lows,V.low,hlow,SI.low]) ?_;generalize n+1=m at *;generalize call X E m=cf at *;unfold nmE;generalize scV l=U at *;cases hnm:d.nm with
 | false =>
  rw[hnm] at c115;simp -implicitDefEqProofs [x113_w,x113_r,c115]
 | true =>
  rw[hnm] at c115;simp -implicitDefEqProofs [x113_w,c115,c158];cases hf:fdS l.reverse d.tx with
  | none =>
   rw[hf] at c182;refine iU _ _ _ _ _ (g:=182) (lb:=[.ref 3 0]) rfl (by decide) (by decide) (h':=iq d st U 0) (e:=.normal) (r:=.tup []) c182 rfl ?_;simp -implicitDefEqProofs [x113_r,iq]
  | some b =>
   rw[hf] at c182;cases hb:(b==st) with
   | true =>
    have hbe:b=st:=by simpa using hb
    simp only[jT,hb,if_true] at c182;refine iU _ _ _ _ _ (g:=182) (lb:=[.ref 3 0]) rfl (by decide) (by decide) (h':=iq d st U 3) (e:=.ret) (r:=.tup []) c182 rfl ?_;simp -implicitDefEqProofs [x113_r,iq,hbe]
   | false =>
    have hbe:¬b=st:=by simpa using hb
    simp only[jT,hb,Bool.false_eq_true,if_false] at c182;refine iU _ _ _ _ _ (g:=182) (lb:=[.ref 3 0]) rfl (by decide) (by decide) (h':=iq d st U 4) (e:=.exit 0) (r:=.tup []) c182 rfl ?_;simp -implicitDefEqProofs [x113_r,iq,hbe]
def LvAt (h:List O):V→List (ByteArray × Bool)→Prop
 | v,[]=>v=.c (.pointer none)
 | v,p::r=>∃id v',v=.ref id 0∧h[id]?=some (.cells [.c (.string p.1),.c (.bool (!p.2)),v'])∧LvAt h v' r
theorem LvAt.app {h:List O}:∀{v:V}{rs:List (ByteArray × Bool)},LvAt h v rs→∀e,LvAt (h++e) v rs
 | v,[],a,e=>a
 | v,p::r,⟨id,v',h1,h2,h3⟩,e=>⟨id,v',h1,bU h2 e,h3.app e⟩
theorem LvAt.vw2 {h:List O}{v:V}{rs:List (ByteArray × Bool)}(a:LvAt h v rs):v.vw2=v:=by
 cases rs with
 | nil=>rw[show v=_ from a];rfl
 | cons p r=>obtain⟨id,v',rfl,_⟩:=a;rfl
theorem HJ {h:List O}{v:V}{rs:List (ByteArray × Bool)}(hv:LvAt h v rs) (t:ByteArray) (st:Bool) (hh:aU h){n:Nat}(hn:rs.length<n) :
  call X E (n+1) 96 [v,.c (.string t),.c (.bool (!st))] h=some (.c (.bool (decide (fdS rs t=some st))),h):=by
 refine d6 rfl rfl rfl (by kernel_rfl) ⟨rfl,rfl⟩ (by simp[V.low]) hh ?_;generalize call X E n=cf at *;have hvw:=hv.vw2;simp -implicitDefEqProofs [x96_w,hvw];obtain⟨J,hJ⟩:∃J:Nat→SF→Prop,J=fun k s=>∃v' r',r'.length=k∧s.e 0=v'∧LvAt h v' r'∧s.h=h∧fdS rs t=fdS r' t:=⟨_,rfl⟩
 refine aX J rs.length hn (by rw[hJ];exact⟨v,rs,rfl,by simp[au,bD],hv,rfl,rfl⟩) ?_;rintro k ⟨e,h',base,rb⟩ hj he hb;rw[hJ] at hj;obtain⟨v',r',hk,e0,hv',hh',hfx⟩:=hj;have e1:=he 1 rfl;have e2:=he 2 rfl;simp[au,bD] at e1 e2 hb;simp only at e0 hh';subst hb hh';cases r' with
 | nil =>
  have hv0:v'=.c (.pointer none):=hv';rw[hv0] at e0;have hf:decide (fdS rs t=some st)=false:=by rw[hfx];rfl
  rw[hf];simp -implicitDefEqProofs [x96l4_w,x96_r,e0,e1,e2,dN]
 | cons p r' =>
  obtain⟨id,v2,rfl,h2,h3⟩:=hv';obtain⟨t',b⟩:=p;simp only at h2;cases hp:eqS t' t with
  | false =>
   simp -implicitDefEqProofs [x96l4_w,e0,e1,e2,dN,h2,fy,hp];refine⟨r'.length,by simp only[lC] at hk;omega,?_⟩;rw[hJ];exact⟨v2,r',rfl,by simp[au],h3,rfl,by rw[hfx,fdS,if_neg (by simp[hp])]⟩
  | true =>
   have hf:fdS rs t=some b:=by rw[hfx,fdS,if_pos hp]
   have hd:(b=st)=((!b)=(!st)):=by simp
   rw[hf];simp -implicitDefEqProofs [x96l4_w,x96_r,e0,e1,e2,dN,h2,fy,hp];cases b<;>cases st<;>rfl
abbrev Sh:=List ((Int × ByteArray) × Nat × Nat × Bool)
def fdK:Sh→Int × ByteArray→Option (Nat × Nat × Bool)
 | [],_=>none
 | p::r,k=>if k=p.1 then some p.2 else fdK r k
def shK (sh:Sh):List Value:=sh.map fun p=>.agg #[.int .i64 p.1.1,.string p.1.2]
def shV (sh:Sh):List V:=sh.map fun p=>.agg [.c (.int .i64 p.2.1),.c (.int .i64 p.2.2.1),.c (.bool p.2.2.2)]
def D.key2 (d:D):Int × ByteArray:=(d.nu,d.tx)
def shR:Option (Nat × Nat × Bool)→V
 | some (a,b,s)=>.tup [.agg [.c (.int .i64 a),.c (.int .i64 b),.c (.bool s)],.c (.bool true)]
 | none=>.tup [.agg [.c (.int .i64 0),.c (.int .i64 0),.c (.bool false)],.c (.bool false)]
theorem ne (a b:Int) (s t:ByteArray):cX (some [0,1]) (.agg #[.int .i64 a,.string s]) (.agg #[.int .i64 b,.string t])=some (decide ((a,s)=(b,t))):=by
 simp only[cX,cj,eS,if_true];by_cases h1:a=b
 ·have:(a==b)=true:=by simp[h1]
  rw[this];by_cases h2:s=t
  ·simp[h1,h2]
  ·simp[h1,h2]
 ·have:(a==b)=false:=by simp[h1]
  rw[this];simp[h1]
theorem qQ:∀(sh:Sh) (k:Int × ByteArray),gr (some [0,1]) (shK sh) (shV sh) (.agg #[.int .i64 k.1,.string k.2])=some ((fdK sh k).map fun p=>.agg [.c (.int .i64 p.1),.c (.int .i64 p.2.1),.c (.bool p.2.2)])
 | [],k=>rfl
 | p::sh,k=>by
  obtain⟨a,s⟩:=k;obtain⟨⟨b,t⟩,x,y,z⟩:=p;have ih:=qQ sh (a,s);simp only[shK,shV] at ih;simp only[shK,shV,List.map_cons,gr,ne,fdK];by_cases h:(a,s)=(b,t)
  ·simp only[h,decide_true,if_true,Option.map_some]
  ·simp only[h,decide_false,if_false];exact ih
def ChkAt (h:List O) (c:Nat) (sh:Sh):Prop:=∃m,h[c]?=some (.cells [.mref m])∧h[m]?=some (.mapo (shK sh) (shV sh))
theorem ChkAt.app {h:List O}{c:Nat}{sh:Sh}(a:ChkAt h c sh) (e:List O):ChkAt (h++e) c sh:=by
 obtain⟨m,h1,h2⟩:=a;exact⟨m,bU h1 e,bU h2 e⟩
theorem EA (d:D):l8 (some [0,1]) d.key=some (.agg #[.int .i64 d.nu,.string d.tx]):=by
 unfold D.key;rw[wv [0,1] _ [.int .i64 d.nu,.string d.tx] rfl];simp[cj,eS]
theorem oH {h:List O}{m:Nat}{sh:Sh}(hm:h[m]?=some (.mapo (shK sh) (shV sh))) (d:D):pl (.mref m) (some [0,1]) d.key (.agg [.c (.int .i64 0),.c (.int .i64 0),.c (.bool false)]) true h=some (shR (fdK sh d.key2),h):=by
 have:=qQ sh d.key2;simp only[D.key2] at this;rw[bc,EA];simp only[gj,hm,wa,this,Option.map_some,D.key2];cases fdK sh (d.nu,d.tx) with
 | none=>rfl
 | some p=>rfl
def hdP (w:Nat) (sh:Sh) (rs:List (ByteArray × Bool)) (st:Bool) (d:D):Int :=
 if w=5∨w=8 then (if fdS rs (d.kid 1).tx=some st then 0 else 12) else
 if w=7∨w=14 then (if arN (wn (d.kid 1).tx)=(d.kids.length:Int)-2 then 0 else 11) else
 if w=3 then match fdK sh (d.kid 1).key2 with
  | none=>5
  | some p=>if p.2.2=true then 14 else if (p.1:Int)=(d.kids.length:Int)-2 then 0 else 11 else
 if w=15 then match fdK sh (d.kid 1).key2 with
  | none=>5
  | some p=>if p.2.2=false then 14 else if p.1=(d.kid 2).kids.length∧p.2.1=(d.kid 3).kids.length then 0 else 11 else 0
def exL (g:List (ByteArray × Bool)→Bool→D→Int) (rs rs2:List (ByteArray × Bool)):List (D × Bool × Bool)→Int
 | []=>0
 | p::r=>if g (if p.2.2=true then rs2 else rs) (!p.2.1) p.1=0 then exL g rs rs2 r else g (if p.2.2=true then rs2 else rs) (!p.2.1) p.1
def exN:Nat→Sh→List (ByteArray × Bool)→Bool→D→Int
 | 0,_,_,_,_=>0
 | f+1,sh,rs,st,d=>if (d.dyn == !st&&fmW (wn d.wd) d)=true then
   (if hdP (wn d.wd) sh rs st d=0 then exL (exN f sh) rs (((d.kid 1).tx,!(wn d.wd==13))::rs) (prP d) else hdP (wn d.wd) sh rs st d) else 4
def dj (g:D→Int):List D→Int
 | []=>0
 | x::r=>if g x=0 then dj g r else g x
theorem dX (g:List (ByteArray × Bool)→Bool→D→Int) (rs rs2:List (ByteArray × Bool)) (mv:Bool):∀l:List D,exL g rs rs2 (l.map (mk3 mv))=dj (g rs (!mv)) l
 | []=>rfl
 | x::l=>by
  simp only[List.map_cons,mk3,exL,dj,Bool.false_eq_true,if_false];rw[← dX g rs rs2 mv l]
theorem pz (g:List (ByteArray × Bool)→Bool→D→Int) (rs rs2:List (ByteArray × Bool)):∀a b,exL g rs rs2 (a++b)=if exL g rs rs2 a=0 then exL g rs rs2 b else exL g rs rs2 a
 | [],b=>by simp[exL]
 | p::a,b=>by
  rw[List.cons_append,exL,exL,pz g rs rs2 a b];by_cases h:g (if p.2.2=true then rs2 else rs) (!p.2.1) p.1=0
  ·rw[if_pos h,if_pos h]
  ·rw[if_neg h,if_neg h,if_neg h]
theorem jQ (g:D→Int){l:List D}{j:Nat}(h:j<l.length):dj g (l.drop j)=if g l[j]=0 then dj g (l.drop (j+1)) else g l[j]:=by
 rw[dC h,dj]
theorem nV {h:List O}(hh:aU h){e:List O}(he:e.all (O.low (h.length+e.length))=true):aU (h++e):=by
 unfold aU at hh ⊢;rw[List.all_append,bT,lA];refine⟨?_,he⟩;rw[List.all_eq_true] at hh ⊢;exact fun o ho=>sO (by omega) (hh o ho)
theorem nP {h:List O}(hh:aU h) (d:D):aU (h++[.cells d.v.cells]):=nV hh (by simp[ap])
def Ex53 (n c:Nat) (sh:Sh) (B:Nat) (g:List (ByteArray × Bool)→Bool→D→Int) (x:D):Prop :=
 ∀(rs:List (ByteArray × Bool)) (i:SI) (st:Bool) (h:List O),rs.length+x.sz≤B→ChkAt h c sh→aU h→call X E n 53 [.ref c 0,x.v,.sl (scV rs.reverse) i,.c (.bool st)] h=some (.c (.int .i64 (g rs st x)),h)
theorem Ex53.up {n n' c:Nat}{sh:Sh}{B:Nat}{g:List (ByteArray × Bool)→Bool→D→Int}{x:D}(h:Ex53 n c sh B g x) (hn:n≤n'):Ex53 n' c sh B g x:=fun rs i st H h1 h2 h3=>Ab.up hn (h rs i st H h1 h2 h3)
theorem vd {n c:Nat}{sh:Sh}{B:Nat}{g:List (ByteArray × Bool)→Bool→D→Int}{l:List D}(hx:∀x∈l,Ex53 n c sh B g x) (hn:l.length<n) (hl:l.length<1099511627776) (i i2:SI) (st:Bool){rs:List (ByteArray × Bool)}(hrs:∀x∈l,rs.length+x.sz≤B){h:List O}(hc:ChkAt h c sh) (hh:aU h) :
  call X E (n+1) 114 [.ref c 0,.sl (D.vs l) i,.sl (scV rs.reverse) i2,.c (.bool st)] h=some (.c (.int .i64 (dj (g rs st) l)),h):=by
 have hcall:∀x∈l,∀h',ChkAt h' c sh→aU h'→call X E n 53 [.ref c 0,x.v,.sl (scV rs.reverse) .any,.c (.bool st)] h'=some (.c (.int .i64 (g rs st x)),h'):=fun x hxl h' h1 h2=>hx x hxl rs .any st h' (hrs x hxl) h1 h2
 refine d6 rfl rfl rfl (by kernel_rfl) ⟨rfl,rfl⟩ (by simp[V.low]) hh ?_;generalize call X E n=cf at *;generalize scV rs.reverse=S at *;have hr2:(V.ref c 0).vw2=.ref c 0:=rfl;simp -implicitDefEqProofs [x114_w];obtain⟨J,hJ⟩:∃J:Nat→SF→Prop,J=fun k s=>∃j R,j+k=l.length∧s.e 14=.c (.int .i64 j)∧s.h=h++R∧aU (h++R)∧dj (g rs st) l=dj (g rs st) (l.drop j):=⟨_,rfl⟩
 refine aX J l.length hn (by rw[hJ];exact⟨0,[],by simp,by simp[au],by simp,by simpa using hh,by simp⟩) ?_;rintro k ⟨e,h',base,rb⟩ hj he hb;rw[hJ] at hj;obtain⟨j,R,hj,e14,hh',hlR,hfx⟩:=hj;have e0:=he 0 rfl;have e2:=he 2 rfl;have e3:=he 3 rfl;have e12:=he 12 rfl;have e13:=he 13 rfl;simp[au,bD] at e0 e2 e3 e12 e13 hb;simp only at e14 hh';subst hh';by_cases hm:j<l.length
 ·have hlt:(j:Int)<l.length:=by omega
  have hw:IntKind.i64.wrap ((j:Int)+1)=(j:Int)+1:=aB (by omega);have hvg:(D.vs l)[j]'(by rw[aa];omega)=(l[j]).v:=ac _;have hcx:=hcall _ (List.getElem_mem hm) ((h++R)++[.cells (l[j]).v.cells]) ((hc.app R).app _) (nP hlR _);rw[jQ _ hm] at hfx;have hlR2:=nP hlR l[j];generalize l[j]=x at *;subst hb;simp only[List.append_assoc] at hcx;by_cases h0:g rs st x=0
  ·rw[if_pos h0] at hfx;rw[h0] at hcx;simp -implicitDefEqProofs [x114l9_w,e0,e2,e3,e12,e13,e14,hvg,hlt,hm,ae,hcx];refine⟨k-1,by omega,?_⟩;rw[hJ];refine⟨j+1,R++[.cells x.v.cells],by omega,by simp[au,hw],?_,?_,hfx⟩
   ·simp
   ·simpa using hlR2
  ·have h0b:(g rs st x != 0)=true:=by simp[h0]
   rw[if_neg h0] at hfx;rw[hfx];simp -implicitDefEqProofs [x114l9_w,x114_r,e0,e2,e3,e12,e13,e14,hvg,hlt,hm,ae,hcx,h0b]
 ·have hlt:¬(j:Int)<l.length:=by omega
  obtain rfl:j=l.length:=by omega
  have hfx:dj (g rs st) l=0:=by rw[hfx,List.drop_length,dj]
  rw[hfx];subst hb;simp -implicitDefEqProofs [x114l9_w,x114_r,e0,e2,e3,e12,e13,e14]
end Go.Proofs.YtjhffhmokcogkaaGreatDoor.Ab
