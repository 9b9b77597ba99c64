/- A part. -/
import Derived.Test.YtjhffhmokcogkaaGreatDoorCc9
import Derived.IntWalk
import Derived.KernelRfl
set_option linter.unusedVariables false
set_option linter.unusedSimpArgs false
set_option linter.defProp false
set_option maxRecDepth 20000
set_option maxHeartbeats 8000000
noncomputable section
namespace Go.Proofs.YtjhffhmokcogkaaGreatDoor.Ab
open Go
def lB (c:Nat):Bool:=(bB 181 c).getD false
def dB (c:Nat):Bool:=(bB 180 c).getD false
theorem G4 {n c:Nat}(hn:16≤n) (hc:c<256):call X E n 181 [.c (.int .u8 c)] []=some (.c (.bool (lB c)),[]):=by
 obtain⟨b,h1,h2⟩:=mW hc;rw[up hn (qX h1),lB,h1];rfl
theorem Gy {n c:Nat}(hn:16≤n) (hc:c<256):call X E n 163 [.c (.int .u8 c)] []=some (.c (.bool (lB c)),[]):=by
 obtain⟨b,h1,h2⟩:=mW hc;rw[up hn (qX h2),lB,h1];rfl
theorem Es {n c:Nat}(hn:16≤n) (hc:c<256):call X E n 180 [.c (.int .u8 c)] []=some (.c (.bool (dB c)),[]):=by
 obtain⟨b,h1,h2⟩:=pW hc;rw[up hn (qX h1),dB,h1];rfl
theorem Ef {n c:Nat}(hn:16≤n) (hc:c<256):call X E n 162 [.c (.int .u8 c)] []=some (.c (.bool (dB c)),[]):=by
 obtain⟨b,h1,h2⟩:=pW hc;rw[up hn (qX h2),dB,h1];rfl
def dk (s:ByteArray):Bool :=
 s.size==0||decide (40<s.size)||(match s[0]?,s[1]? with
  | some a,some b=>dB a.toNat||(a.toNat==45&&dB b.toNat)
  | some a,none=>dB a.toNat
  | none,_=>false)
theorem D0 {n:Nat}(hn:16≤n) (s:ByteArray):∃tm,aK (call X E n) n x151r2 ⟨[.c (.string s),az,.c (.bool false)]++List.replicate 40 az,[],0,0⟩=some (.normal,⟨tm,[],0,0⟩)∧tm.length=43∧tm[0]?=some (.c (.string s))∧tm[31]?=some (.c (.bool (dk s))):=by
 rcases Nat.eq_zero_or_pos s.size with h0|h0
 ·refine⟨_,by simp[x151r2,aK,aC,aI,aZ,aY,act,aB,bH,ev,ec,fW,h0,List.replicate];rfl,?_⟩;simp[dk,h0]
 ·have hz:¬s.size=0:=by omega
  by_cases h40:40<s.size
  ·have h40':(40:Int)<s.size:=by omega
   refine⟨_,by simp[x151r2,aK,aC,aI,aZ,aY,act,aB,bH,ev,ec,fW,hz,h40',List.replicate];rfl,?_⟩;simp[dk,h40]
  ·have h40':¬(40:Int)<s.size:=by omega
   have e0:s[0]?=some s[0]:=by simp[h0]
   have c0:=Es (n:=n) hn (UInt8.toNat_lt s[0]);cases hd:dB s[0].toNat with
   | true =>
    rw[hd] at c0;refine⟨_,by simp[x151r2,aK,aC,aI,aZ,aY,act,aB,bH,ev,ec,fW,hz,h40',h0,idx,bL,c0,List.replicate];rfl,?_⟩;refine⟨by simp,by simp,?_⟩;simp only[dk,e0];cases s[1]?<;>simp[hd]
   | false =>
    rw[hd] at c0;by_cases h45:s[0].toNat=45
    ·have h45':((s[0].toNat:Int)=45):=by omega
     rw[h45'] at c0;by_cases h1:1<s.size
     ·have h1':(1:Int)<s.size:=by omega
      have e1:s[1]?=some s[1]:=by simp[h1]
      have c1:=Es (n:=n) hn (UInt8.toNat_lt s[1]);cases hd1:dB s[1].toNat with
      | true =>
       rw[hd1] at c1;refine⟨_,by simp[x151r2,aK,aC,aI,aZ,aY,act,aB,bH,ev,ec,fW,hz,h40',h0,idx,bL,c0,c1,h45',h1,h1',List.replicate];rfl,?_⟩;refine⟨by simp,by simp,?_⟩;simp[dk,e0,e1,hd,hd1,h45]
      | false =>
       rw[hd1] at c1;refine⟨_,by simp[x151r2,aK,aC,aI,aZ,aY,act,aB,bH,ev,ec,fW,hz,h40',h0,idx,bL,c0,c1,h45',h1,h1',List.replicate];rfl,?_⟩;refine⟨by simp,by simp,?_⟩;simp[dk,e0,e1,hd,hd1,hz,h40]
     ·have h1':¬(1:Int)<s.size:=by omega
      have e1:s[1]?=none:=by simp;omega
      refine⟨_,by simp[x151r2,aK,aC,aI,aZ,aY,act,aB,bH,ev,ec,fW,hz,h40',h0,idx,bL,c0,h45',h1',List.replicate];rfl,?_⟩;refine⟨by simp,by simp,?_⟩;simp[dk,e0,e1,hd,hz,h40]
    ·have h45':¬((s[0].toNat:Int)=45):=by omega
     refine⟨_,by simp[x151r2,aK,aC,aI,aZ,aY,act,aB,bH,ev,ec,fW,hz,h40',h0,idx,bL,c0,h45',List.replicate];rfl,?_⟩;refine⟨by simp,by simp,?_⟩;simp only[dk,e0];cases s[1]?<;>simp[hz,h40,h45,hd]
theorem El {n:Nat}(hn:16≤n) (s:ByteArray):∃tm,aK (call X E n) n x125r2 ⟨[.c (.string s),az,.c (.bool false)]++List.replicate 40 az,[],0,0⟩=some (.normal,⟨tm,[],0,0⟩)∧tm.length=43∧tm[0]?=some (.c (.string s))∧tm[31]?=some (.c (.bool (dk s))):=by
 rcases Nat.eq_zero_or_pos s.size with h0|h0
 ·refine⟨_,by simp[x125r2,aK,aC,aI,aZ,aY,act,aB,bH,ev,ec,fW,h0,List.replicate];rfl,?_⟩;simp[dk,h0]
 ·have hz:¬s.size=0:=by omega
  have hz':¬(s.size:Int)<1:=by omega
  by_cases h40:40<s.size
  ·have h40':(40:Int)<s.size:=by omega
   refine⟨_,by simp[x125r2,aK,aC,aI,aZ,aY,act,aB,bH,ev,ec,fW,hz,hz',h40',List.replicate];rfl,?_⟩;simp[dk,h40]
  ·have h40':¬(40:Int)<s.size:=by omega
   have e0:s[0]?=some s[0]:=by simp[h0]
   have c0:=Ef (n:=n) hn (UInt8.toNat_lt s[0]);cases hd:dB s[0].toNat with
   | true =>
    rw[hd] at c0;refine⟨_,by simp[x125r2,aK,aC,aI,aZ,aY,act,aB,bH,ev,ec,fW,hz,hz',h40',h0,idx,bL,c0,List.replicate];rfl,?_⟩;refine⟨by simp,by simp,?_⟩;simp only[dk,e0];cases s[1]?<;>simp[hd]
   | false =>
    rw[hd] at c0;by_cases h45:s[0].toNat=45
    ·have h45':((s[0].toNat:Int)=45):=by omega
     rw[h45'] at c0;by_cases h1:1<s.size
     ·have h1':(1:Int)<s.size:=by omega
      have e1:s[1]?=some s[1]:=by simp[h1]
      have c1:=Ef (n:=n) hn (UInt8.toNat_lt s[1]);cases hd1:dB s[1].toNat with
      | true =>
       rw[hd1] at c1;refine⟨_,by simp[x125r2,aK,aC,aI,aZ,aY,act,aB,bH,ev,ec,fW,hz,hz',h40',h0,idx,bL,c0,c1,h45',h1,h1',List.replicate];rfl,?_⟩;refine⟨by simp,by simp,?_⟩;simp[dk,e0,e1,hd,hd1,h45]
      | false =>
       rw[hd1] at c1;refine⟨_,by simp[x125r2,aK,aC,aI,aZ,aY,act,aB,bH,ev,ec,fW,hz,hz',h40',h0,idx,bL,c0,c1,h45',h1,h1',List.replicate];rfl,?_⟩;refine⟨by simp,by simp,?_⟩;simp[dk,e0,e1,hd,hd1,hz,h40]
     ·have h1':¬(1:Int)<s.size:=by omega
      have e1:s[1]?=none:=by simp;omega
      refine⟨_,by simp[x125r2,aK,aC,aI,aZ,aY,act,aB,bH,ev,ec,fW,hz,hz',h40',h0,idx,bL,c0,h45',h1',List.replicate];rfl,?_⟩;refine⟨by simp,by simp,?_⟩;simp[dk,e0,e1,hd,hz,h40]
    ·have h45':¬((s[0].toNat:Int)=45):=by omega
     refine⟨_,by simp[x125r2,aK,aC,aI,aZ,aY,act,aB,bH,ev,ec,fW,hz,hz',h40',h0,idx,bL,c0,h45',List.replicate];rfl,?_⟩;refine⟨by simp,by simp,?_⟩;simp only[dk,e0];cases s[1]?<;>simp[hz,h40,h45,hd]
structure S23 (s:ByteArray) (i:Nat) (tm:List V):Prop where
 len:tm.length=43
 t0:tm[0]?=some (.c (.string s))
 t33:tm[33]?=some (.c (.int .i64 s.size))
 t34:tm[34]?=some (.c (.int .i64 i))
theorem AA {n:Nat}(hn:16≤n){s:ByteArray}{i:Nat}{tm:List V}(T:S23 s i tm) (hs:s.size≤40) :
  ∃tm',aK (call X E n) n x151l10 ⟨tm,[],0,0⟩=some (if h:i<s.size then (if lB s[i].toNat then .normal else .ret) else .exit 0,⟨tm',[],0,0⟩)∧tm'.length=43 ∧
   (∀h:i<s.size,lB s[i].toNat=true→S23 s (i+1) tm')∧(∀h:i<s.size,lB s[i].toNat=false→tm'[2]?=some (.c (.bool false))):=by
 have l:=T.len;have g0:tm[0]'(by omega)=.c (.string s):=(gS.1 T.t0).2;have g33:tm[33]'(by omega)=.c (.int .i64 s.size):=(gS.1 T.t33).2;have g34:tm[34]'(by omega)=.c (.int .i64 i):=(gS.1 T.t34).2;by_cases h:i<s.size
 ·have hi:(i:Int)<s.size:=by omega
  have c0:=G4 (n:=n) hn (UInt8.toNat_lt s[i]);have hw:IntKind.i64.wrap ((i:Int)+1)=(i:Int)+1:=by
   simp only[IntKind.wrap,IntKind.signed,IntKind.bits];simp;omega
  cases hl:lB s[i].toNat with
  | true =>
   rw[hl] at c0;refine⟨_,by simp[x151l10,x151r5,x151r6,x151r7,x151r8,x151r9,aK,aC,aI,aZ,aY,act,aB,bH,ev,ec,fW,l,g0,g33,g34,hi,h,hl,idx,bL,c0,hw];rfl,by simp[l],fun _ _=>⟨by simp[l],by simp[l,g0],by simp[l,g33],by simp[l]⟩,fun h' e=>by rw[hl] at e;cases e⟩
  | false =>
   rw[hl] at c0;refine⟨_,by simp[x151l10,x151r5,x151r6,x151r7,x151r8,x151r9,aK,aC,aI,aZ,aY,act,aB,bH,ev,ec,fW,l,g0,g33,g34,hi,h,hl,idx,bL,c0,hw];rfl,by simp[l],(fun h' e=>by rw[hl] at e;cases e),fun _ _=>by simp[l]⟩
 ·have hi:¬(i:Int)<s.size:=by omega
  refine⟨_,by simp[x151l10,x151r5,aK,aC,aI,aZ,aY,act,aB,bH,ev,ec,fW,l,g33,g34,hi,h];rfl,by simp[l],fun h'=>absurd h' h,fun h'=>absurd h' h⟩
def l8 (s:ByteArray):Nat→Nat→Bool
 | 0,_=>true
 | r+1,i=>(match s[i]? with
  | some c=>lB c.toNat
  | none=>true)&&l8 s r (i+1)
theorem Aq {n:Nat}(hn:16≤n){s:ByteArray}(hs:s.size≤40):∀(r i m:Nat) (tm:List V),i+r=s.size→r<m→S23 s i tm →
  ∃tm',iq (aK (call X E n) n x151l10) m ⟨tm,[],0,0⟩=some (if l8 s r i then .exit 0 else .ret,⟨tm',[],0,0⟩)∧tm'.length=43∧(l8 s r i=false→tm'[2]?=some (.c (.bool false)))
 | 0,i,m+1,tm,hi,_,T=>by
  obtain⟨tm',h1,h2,_⟩:=AA hn T hs;have h:¬i<s.size:=by omega
  rw[dif_neg h] at h1;exact⟨tm',by simp only[iq,h1,l8,if_true],h2,fun e=>by simp[l8] at e⟩
 | r+1,i,m+1,tm,hi,hm,T=>by
  obtain⟨tm',h1,h2,h3,h4⟩:=AA hn T hs;have h:i<s.size:=by omega
  have e0:s[i]?=some s[i]:=by simp[h]
  rw[dif_pos h] at h1;cases hl:lB s[i].toNat with
  | true =>
   rw[hl,if_pos rfl] at h1;obtain⟨tm2,k1,k2,k3⟩:=Aq hn hs r (i+1) m tm' (by omega) (by omega) (h3 h hl);refine⟨tm2,?_,k2,fun e=>k3 (by simpa[l8,e0,hl] using e)⟩;simp only[iq,h1,k1,l8,e0,hl,Bool.true_and]
  | false =>
   rw[hl] at h1;refine⟨tm',?_,h2,fun _=>h4 h hl⟩;simp[iq,h1,l8,e0,hl]
structure S24 (s:ByteArray) (i:Nat) (tm:List V):Prop where
 len:tm.length=43
 t0:tm[0]?=some (.c (.string s))
 t3:tm[3]?=some (.c (.int .i64 i))
theorem Ao {n:Nat}(hn:16≤n){s:ByteArray}{i:Nat}{tm:List V}(T:S24 s i tm) (hs:s.size≤40) :
  ∃tm',aK (call X E n) n x125l9 ⟨tm,[],0,0⟩=some (if h:i<s.size then (if lB s[i].toNat then .normal else .ret) else .exit 0,⟨tm',[],0,0⟩)∧tm'.length=43 ∧
   (∀h:i<s.size,lB s[i].toNat=true→S24 s (i+1) tm')∧(∀h:i<s.size,lB s[i].toNat=false→tm'[2]?=some (.c (.bool false))):=by
 have l:=T.len;have g0:tm[0]'(by omega)=.c (.string s):=(gS.1 T.t0).2;have g3:tm[3]'(by omega)=.c (.int .i64 i):=(gS.1 T.t3).2;by_cases h:i<s.size
 ·have hi:(i:Int)<s.size:=by omega
  have c0:=Gy (n:=n) hn (UInt8.toNat_lt s[i]);have hw:IntKind.i64.wrap ((i:Int)+1)=(i:Int)+1:=by
   simp only[IntKind.wrap,IntKind.signed,IntKind.bits];simp;omega
  cases hl:lB s[i].toNat with
  | true =>
   rw[hl] at c0;refine⟨_,by simp[x125l9,x125r5,x125r6,x125r7,x125r8,aK,aC,aI,aZ,aY,act,aB,bH,ev,ec,fW,l,g0,g3,hi,h,hl,idx,bL,c0,hw];rfl,by simp[l],fun _ _=>⟨by simp[l],by simp[l,g0],by simp[l]⟩,fun h' e=>by rw[hl] at e;cases e⟩
  | false =>
   rw[hl] at c0;refine⟨_,by simp[x125l9,x125r5,x125r6,x125r7,x125r8,aK,aC,aI,aZ,aY,act,aB,bH,ev,ec,fW,l,g0,g3,hi,h,hl,idx,bL,c0,hw];rfl,by simp[l],(fun h' e=>by rw[hl] at e;cases e),fun _ _=>by simp[l]⟩
 ·have hi:¬(i:Int)<s.size:=by omega
  refine⟨_,by simp[x125l9,x125r5,aK,aC,aI,aZ,aY,act,aB,bH,ev,ec,fW,l,g0,g3,hi,h];rfl,by simp[l],fun h'=>absurd h' h,fun h'=>absurd h' h⟩
theorem AW {n:Nat}(hn:16≤n){s:ByteArray}(hs:s.size≤40):∀(r i m:Nat) (tm:List V),i+r=s.size→r<m→S24 s i tm →
  ∃tm',iq (aK (call X E n) n x125l9) m ⟨tm,[],0,0⟩=some (if l8 s r i then .exit 0 else .ret,⟨tm',[],0,0⟩)∧tm'.length=43∧(l8 s r i=false→tm'[2]?=some (.c (.bool false)))
 | 0,i,m+1,tm,hi,_,T=>by
  obtain⟨tm',h1,h2,_⟩:=Ao hn T hs;have h:¬i<s.size:=by omega
  rw[dif_neg h] at h1;exact⟨tm',by simp only[iq,h1,l8,if_true],h2,fun e=>by simp[l8] at e⟩
 | r+1,i,m+1,tm,hi,hm,T=>by
  obtain⟨tm',h1,h2,h3,h4⟩:=Ao hn T hs;have h:i<s.size:=by omega
  have e0:s[i]?=some s[i]:=by simp[h]
  rw[dif_pos h] at h1;cases hl:lB s[i].toNat with
  | true =>
   rw[hl,if_pos rfl] at h1;obtain⟨tm2,k1,k2,k3⟩:=AW hn hs r (i+1) m tm' (by omega) (by omega) (h3 h hl);refine⟨tm2,?_,k2,fun e=>k3 (by simpa[l8,e0,hl] using e)⟩;simp only[iq,h1,k1,l8,e0,hl,Bool.true_and]
  | false =>
   rw[hl] at h1;refine⟨tm',?_,h2,fun _=>h4 h hl⟩;simp[iq,h1,l8,e0,hl]
def n6 (s:ByteArray):Bool := !dk s&&l8 s s.size 0
theorem m9 {s:ByteArray}(h:dk s=false):s.size≤40:=by
 unfold dk at h;simp only[Bool.or_eq_false_iff,decide_eq_false_iff_not] at h;omega
theorem FY {n:Nat}(hn:60≤n) (s:ByteArray):call X E (n+1) 151 [.c (.string s)] []=some (.c (.bool (n6 s)),[]):=by
 have hE:E 151=none:=rfl;have hX:X 151=some x151:=rfl;obtain⟨tm,h1,h2,h3,h4⟩:=D0 (n:=n) (by omega) s;have g31:tm[31]'(by omega)=.c (.bool (dk s)):=(gS.1 h4).2;have g0:tm[0]'(by omega)=.c (.string s):=(gS.1 h3).2;have hr1:aK (call X E n) n x151r1 (cB x151 [.c (.string s)] [])=some (.normal,⟨[.c (.string s),az,.c (.bool false)]++List.replicate 40 az,[],0,0⟩):=by
  simp[x151r1,x151,cB,aK,aC,aI,aZ,aY,act,aB,bH,ev,List.replicate]
 generalize (⟨[.c (.string s),az,.c (.bool false)]++List.replicate 40 az,[],0,0⟩:St)=st0 at h1 hr1;have hbody:∃st e,aK (call X E n) n x151.body (cB x151 [.c (.string s)] [])=some (e,st)∧(e=.ret)∧st.tm[2]?=some (.c (.bool (n6 s)))∧st.base=0∧st.h=[]:=by
  cases hh:dk s with
  | true =>
   rw[hh] at g31;refine⟨⟨tm.set 2 (.c (.bool false)),[],0,0⟩,.ret,?_,rfl,by simp[h2,n6,hh],rfl,rfl⟩;show aK (call X E n) n (.seq x151r1 _) _=_;rw[aK,hr1];simp[aK,h1,ev,h2,g31,x151r3,aC,aI,aZ,aY,act,aB,bH]
  | false =>
   rw[hh] at g31;have hsz:=m9 hh;have hT:S23 s 0 (((tm.set 32 (.c (.string s))).set 33 (.c (.int .i64 s.size))).set 34 (.c (.int .i64 0))):=⟨by simp[h2],by simp[h2,g0],by simp[h2],by simp[h2]⟩
   have hr4:aK (call X E n) n x151r4 ⟨tm,[],0,0⟩=some (.normal,⟨((tm.set 32 (.c (.string s))).set 33 (.c (.int .i64 s.size))).set 34 (.c (.int .i64 0)),[],0,0⟩):=by
    simp[x151r4,aK,aC,aI,aZ,aY,act,aB,bH,ev,h2,g0]
   obtain⟨tm2,k1,k2,k3⟩:=Aq (n:=n) (by omega) hsz s.size 0 n _ (by omega) (by omega) hT;cases ha:l8 s s.size 0 with
   | true =>
    rw[ha] at k1;refine⟨⟨tm2.set 2 (.c (.bool true)),[],0,0⟩,.ret,?_,rfl,by simp[k2,n6,hh,ha],rfl,rfl⟩;show aK (call X E n) n (.seq x151r1 _) _=_;rw[aK,hr1];simp[aK,h1,ev,h2,g31,hr4,k1,x151r11,aC,aI,aZ,aY,act,aB,bH]
   | false =>
    rw[ha] at k1;refine⟨⟨tm2,[],0,0⟩,.ret,?_,rfl,by rw[k3 ha];simp[n6,ha],rfl,rfl⟩;show aK (call X E n) n (.seq x151r1 _) _=_;rw[aK,hr1];simp[aK,h1,ev,h2,g31,hr4,k1]
 obtain⟨st,e,hb1,rfl,hb2,hb3,hb4⟩:=hbody;have hres:x151.res=[.t 2]:=rfl;simp only[call,hE,hX,show x151.asg=none from rfl,fE,show x151.pure=true from rfl,show x151.esc=false from rfl,if_true,List.map_cons,List.map_nil,V.vw2,V.vw1,V.lows,V.low,Bool.and_self,Bool.false_eq_true,if_false,hb1,hres];simp[fin,cE,xI,hb2,hb3,hb4,bk,V.vw,V.vw2,V.vw1,V.low]
theorem GS {n:Nat}(hn:60≤n) (s:ByteArray):call X E (n+1) 125 [.c (.string s)] []=some (.c (.bool (n6 s)),[]):=by
 have hE:E 125=none:=rfl;have hX:X 125=some x125:=rfl;obtain⟨tm,h1,h2,h3,h4⟩:=El (n:=n) (by omega) s;have g31:tm[31]'(by omega)=.c (.bool (dk s)):=(gS.1 h4).2;have g0:tm[0]'(by omega)=.c (.string s):=(gS.1 h3).2;have hr1:aK (call X E n) n x125r1 (cB x125 [.c (.string s)] [])=some (.normal,⟨[.c (.string s),az,.c (.bool false)]++List.replicate 40 az,[],0,0⟩):=by
  simp[x125r1,x125,cB,aK,aC,aI,aZ,aY,act,aB,bH,ev,List.replicate]
 generalize (⟨[.c (.string s),az,.c (.bool false)]++List.replicate 40 az,[],0,0⟩:St)=st0 at h1 hr1;have hbody:∃st e,aK (call X E n) n x125.body (cB x125 [.c (.string s)] [])=some (e,st)∧(e=.ret)∧st.tm[2]?=some (.c (.bool (n6 s)))∧st.base=0∧st.h=[]:=by
  cases hh:dk s with
  | true =>
   rw[hh] at g31;refine⟨⟨tm.set 2 (.c (.bool false)),[],0,0⟩,.ret,?_,rfl,by simp[h2,n6,hh],rfl,rfl⟩;show aK (call X E n) n (.seq x125r1 _) _=_;rw[aK,hr1];simp[aK,h1,ev,h2,g31,x125r3,aC,aI,aZ,aY,act,aB,bH]
  | false =>
   rw[hh] at g31;have hsz:=m9 hh;have hT:S24 s 0 (tm.set 3 (.c (.int .i64 0))):=⟨by simp[h2],by simp[h2,g0],by simp[h2]⟩
   have hr4:aK (call X E n) n x125r4 ⟨tm,[],0,0⟩=some (.normal,⟨tm.set 3 (.c (.int .i64 0)),[],0,0⟩):=by
    simp[x125r4,aK,aC,aI,aZ,aY,act,aB,bH,ev,h2,g0]
   obtain⟨tm2,k1,k2,k3⟩:=AW (n:=n) (by omega) hsz s.size 0 n _ (by omega) (by omega) hT;cases ha:l8 s s.size 0 with
   | true =>
    rw[ha] at k1;refine⟨⟨tm2.set 2 (.c (.bool true)),[],0,0⟩,.ret,?_,rfl,by simp[k2,n6,hh,ha],rfl,rfl⟩;show aK (call X E n) n (.seq x125r1 _) _=_;rw[aK,hr1];simp[aK,h1,ev,h2,g31,hr4,k1,x125r10,aC,aI,aZ,aY,act,aB,bH]
   | false =>
    rw[ha] at k1;refine⟨⟨tm2,[],0,0⟩,.ret,?_,rfl,by rw[k3 ha];simp[n6,ha],rfl,rfl⟩;show aK (call X E n) n (.seq x125r1 _) _=_;rw[aK,hr1];simp[aK,h1,ev,h2,g31,hr4,k1]
 obtain⟨st,e,hb1,rfl,hb2,hb3,hb4⟩:=hbody;have hres:x125.res=[.t 2]:=rfl;simp only[call,hE,hX,show x125.asg=none from rfl,fE,show x125.pure=true from rfl,show x125.esc=false from rfl,if_true,List.map_cons,List.map_nil,V.vw2,V.vw1,V.lows,V.low,Bool.and_self,Bool.false_eq_true,if_false,hb1,hres];simp[fin,cE,xI,hb2,hb3,hb4,bk,V.vw,V.vw2,V.vw1,V.low]
inductive D where
 | mk (k n:Int) (t:ByteArray) (l:List D)
mutual
def D.v:D→V
 | .mk k n t l=>.agg [.c (.int .i64 k),.c (.int .i64 n),.c (.string t),.sl (D.vs l) .any]
def D.vs:List D→List V
 | []=>[]
 | d::l=>d.v::D.vs l
end
mutual
def D.sz:D→Nat
 | .mk _ _ _ l=>1+D.szs l
def D.szs:List D→Nat
 | []=>0
 | d::l=>d.sz+D.szs l
end
mutual
def D.dp:D→Nat
 | .mk _ _ _ l=>D.dps l+1
def D.dps:List D→Nat
 | []=>0
 | d::l=>max d.dp (D.dps l)
end
def D.kids:D→List D
 | .mk _ _ _ l=>l
theorem D.ind {P:D→Prop}(h:∀k n t l,(∀x∈l,P x)→P (.mk k n t l)):∀d,P d:=by
 have key:∀m d,d.sz≤m→P d:=by
  intro m
  induction m with
  | zero=>intro d hd;cases d;simp only[D.sz] at hd;omega
  | succ m ih =>
   intro d hd;obtain⟨k,n,t,l⟩:=d;refine h k n t l fun x hx=>ih x ?_
   have:∀l:List D,x∈l→x.sz≤D.szs l:=by
    intro l
    induction l with
    | nil=>intro h;simp at h
    | cons y l ihl =>
     intro hx;simp only[D.szs];rcases List.mem_cons.1 hx with rfl|hx
     ·omega
     ·have:=ihl hx;omega
   have:=this l hx;simp only[D.sz] at hd;omega
 exact fun d=>key _ d (nL _)
theorem ar:∀l:List D,D.vs l=l.map D.v
 | []=>rfl
 | d::l=>by simp only[D.vs,List.map_cons,ar l]
theorem aa (l:List D):(D.vs l).length=l.length:=by simp[ar]
theorem D.vs_get {l:List D}{j:Nat}(h:j<l.length):(D.vs l)[j]?=some (l[j]).v:=by simp[ar,h]
theorem ab (d:D):d.v.cells.length=4:=by obtain⟨k,n,t,l⟩:=d;rfl
theorem D.rd (d:D):rdV d.v.cells 0 (some 4)=some d.v:=by obtain⟨k,n,t,l⟩:=d;rfl
theorem D.vw2 (d:D):d.v.vw2=d.v:=by obtain⟨k,n,t,l⟩:=d;rfl
theorem D.vw (d:D):d.v.vw=d.v:=by obtain⟨k,n,t,l⟩:=d;rfl
theorem D.low (m:Nat):∀d:D,d.v.low m=true:=by
 refine D.ind fun k n t l ih=>?_
 have:V.lows m (D.vs l)=true:=by
  rw[ar];refine b7 fun v hv=>?_
  obtain⟨d,hd,rfl⟩:=List.mem_map.1 hv;exact ih d hd
 simp[D.v,V.low,V.lows,this,SI.low]
theorem D.lows (m:Nat) (l:List D):V.lows m (D.vs l)=true:=by
 rw[ar];refine b7 fun v hv=>?_
 obtain⟨d,hd,rfl⟩:=List.mem_map.1 hv;exact D.low m d
theorem ak {l:List D}{x:D}(h:x∈l):x.sz≤D.szs l:=by
 induction l with
 | nil=>simp at h
 | cons y l ih =>
  simp only[D.szs];rcases List.mem_cons.1 h with rfl|h
  ·omega
  ·have:=ih h;omega
theorem ap (d:D):1≤d.sz:=by cases d;simp only[D.sz];omega
theorem aj:∀l:List D,l.length≤D.szs l
 | []=>nL _
 | d::l=>by have:=ap d;have:=aj l;simp only[D.szs,lC];omega
theorem D.szs_take (l:List D) (j:Nat) (h:j<l.length):D.szs (l.take (j+1))=D.szs (l.take j)+(l[j]).sz:=by
 induction l generalizing j with
 | nil=>simp at h
 | cons d l ih =>
  cases j with
  | zero=>simp[D.szs]
  | succ j =>
   simp only[List.take_succ_cons,D.szs,List.getElem_cons_succ];rw[ih j (by simpa using h)];omega
theorem D.szs_take_le (l:List D) (j:Nat):D.szs (l.take j)≤D.szs l:=by
 induction l generalizing j with
 | nil=>simp
 | cons d l ih =>
  cases j with
  | zero=>simp[D.szs]
  | succ j=>simp only[List.take_succ_cons,D.szs];have:=ih j;omega
theorem ac {l:List D}{j:Nat}(h:j<(D.vs l).length):(D.vs l)[j]=(l[j]'(by rwa [aa] at h)).v:=by
 have:=D.vs_get (l:=l) (j:=j) (by rwa [aa] at h);rw[gE h] at this;simpa using this
theorem D.okc (d:D):Ab.okc d.v=true:=by obtain⟨k,n,t,l⟩:=d;rfl
theorem ae (a b c e:V) (d:D):bF [a,b,c,e] 0 d.v.cells=d.v.cells:=by obtain⟨k,n,t,l⟩:=d;rfl
theorem aH {a:Int}(h : -9223372036854775808≤a∧a≤9223372036854775807):IntKind.i64.wrap a=a:=by
 rw[IntWalk.i64_left];exact IntWalk.wrap64_in a h
def bg (n f:Nat) (args:List V) (r:V):Prop:=∀h:List O,call X E n f args h=some (r,h)
theorem aA {n f k:Nat}{xf:XF}{args:List V}{r:V}(hE:E f=none) (hX:X f=some xf) (hk:args.length=k) (hx:sH xf k=true) (hp:xf.pure=true∧xf.esc=false) (hl:V.lows 0 (args.map V.vw2)=true)
  (hw:wpk (call X E n) n xf.body [] (Fin (fun vs _=>(bk vs).vw=r∧r.low 0=true) xf) ⟨dR (args.map V.vw2),[],0,0⟩) (ha:xf.asg=none:=by rfl):bg (n+1) f args r:=by
 intro h;simp only[call,hE,hX,ha];subst hk;exact tU hx hp.1 hp.2 hl hw
theorem cX {n f:Nat}{args:List V}{r:V}{h0:List O}(hf:pfl f=1) (h:call X E n f args []=some (r,h0)):bg n f args r:=by
 intro hh;have:=((oq AI laid ul Fs mixed n).2 f args [] r h0 h).1 hf;exact this.2 hh (fun id o _ e=>by simp at e)
structure I18 (l:List D) (k n:Int) (t:ByteArray) (m:Nat) (s:SF):Prop where
 j:∃j:Nat,j+m=l.length∧s.e 4=.c (.int .i64 j)∧s.e 3=.c (.int .i64 (1+D.szs (l.take j):Nat))
 e1:s.e 1=.ref 0 0
 h:s.h=[.cells [.c (.int .i64 k),.c (.int .i64 n),.c (.string t),.sl (D.vs l) .any]]
 b:s.base=0
theorem D5 {cf:av}{fu:Nat}{l:List D}{k n:Int}{t:ByteArray}(hl:D.szs l<4611686018427387904) (hc:∀x∈l,∀h,cf 71 [x.v] h=some (.c (.int .i64 x.sz),h)){Q:Ex→SF→Prop}
  (hQ:∀s,s.e 3=.c (.int .i64 (1+D.szs l:Nat))→s.base=0→s.h=[.cells [.c (.int .i64 k),.c (.int .i64 n),.c (.string t),.sl (D.vs l) .any]]→Q (.exit 0) s) (m:Nat) (s:SF) (I:I18 l k n t m s) :
  wpk cf fu x71l7 [] (fun e s'=>match e with|.normal=>∃k',k'<m∧I18 l k n t k' s'|e=>Q e s') s:=by
 obtain⟨⟨j,hj,e4,e3⟩,e1,hh,hb⟩:=I;obtain⟨e,h,base,rb⟩:=s;simp only at e4 e3 e1 hh hb;subst hh hb;have hlen:=aj l;by_cases hm:j<l.length
 ·have hlt:(j:Int)<l.length:=by omega
  have hg:=D.vs_get hm;have hx:=hc _ (List.getElem_mem hm);have hs:=D.szs_take l j hm;have hs2:=D.szs_take_le l (j+1);simp -implicitDefEqProofs [x71l7_w,e1,e3,e4,aa,hlt,hm,ac,ab,D.rd,hx];refine⟨m-1,by omega,⟨⟨j+1,by omega,?_,?_⟩,?_,rfl,rfl⟩⟩
  ·simp only[au,e4];simp;rw[aH (by omega)]
  ·simp only[au,e3];simp;rw[aH (by omega),hs];omega
  ·simp[au,e1]
 ·have hlt:¬(j:Int)<l.length:=by omega
  have hj2:j=l.length:=by omega
  simp -implicitDefEqProofs [x71l7_w,e1,e3,e4,aa,hlt];refine hQ _ ?_ rfl rfl;simp only[au,e3,hj2,List.take_length];simp
theorem Gt:∀d:D,d.sz<4611686018427387904→∀n,2*d.sz+2≤n→bg n 71 [d.v] (.c (.int .i64 d.sz)):=by
 refine D.ind fun k n t l ih hs m hm=>?_
 simp only[D.sz] at hs hm;obtain⟨m,rfl⟩:∃m',m=m'+1:=⟨m-1,by omega⟩
 have hlen:=aj l;refine aA rfl rfl rfl (by kernel_rfl) ⟨rfl,rfl⟩ (by simp[D.vw2,V.lows,D.low]) ?_;simp -implicitDefEqProofs [x71_w,x71_r,D.vw2,D.v];refine j5 (I18 l k n t) l.length (by omega) ⟨⟨0,by simp,?_,?_⟩,?_,rfl,rfl⟩ ?_
 ·simp[au]
 ·simp[au,D.szs]
 ·simp[au]
 ·refine D5 (by omega) (fun x hx h=>ih x hx (by have:=ak hx;omega) m (by have:=ak hx;omega) h) fun s h3 hb hh=>?_
  obtain⟨e,h,base,rb⟩:=s;simp only at h3 hb hh;subst hb hh;simp -implicitDefEqProofs [x71_r,h3,D.sz]
theorem D.dps_take (l:List D) (j:Nat) (h:j<l.length):D.dps (l.take (j+1))=max (D.dps (l.take j)) (l[j]).dp:=by
 induction l generalizing j with
 | nil=>simp at h
 | cons d l ih =>
  cases j with
  | zero=>simp[D.dps]
  | succ j =>
   simp only[List.take_succ_cons,D.dps,List.getElem_cons_succ];rw[ih j (by simpa using h)];omega
theorem D.dps_le:∀l:List D,(∀x∈l,x.dp≤x.sz)→D.dps l≤D.szs l
 | [],_=>nL _
 | d::l,h=>by
  have h1:=h d (by simp);have h2:=D.dps_le l (fun x hx=>h x (by simp[hx]));simp only[D.dps,D.szs];omega
theorem D.dp_le:∀d:D,d.dp≤d.sz:=by
 refine D.ind fun k n t l ih=>?_
 have:=D.dps_le l ih;simp only[D.dp,D.sz];omega
theorem D.dps_le' (l:List D):D.dps l≤D.szs l:=D.dps_le l fun x _=>D.dp_le x
structure I20 (l:List D) (k n:Int) (t:ByteArray) (m:Nat) (s:SF):Prop where
 j:∃j:Nat,j+m=l.length∧s.e 4=.c (.int .i64 j)∧s.e 3=.c (.int .i64 (D.dps (l.take j)))
 e1:s.e 1=.ref 0 0
 h:s.h=[.cells [.c (.int .i64 k),.c (.int .i64 n),.c (.string t),.sl (D.vs l) .any]]
 b:s.base=0
theorem Ew {cf:av}{fu:Nat}{l:List D}{k n:Int}{t:ByteArray}(hl:D.szs l<4611686018427387904) (hc:∀x∈l,∀h,cf 72 [x.v] h=some (.c (.int .i64 x.dp),h)){Q:Ex→SF→Prop}
  (hQ:∀s,s.e 3=.c (.int .i64 (D.dps l))→s.base=0→s.h=[.cells [.c (.int .i64 k),.c (.int .i64 n),.c (.string t),.sl (D.vs l) .any]]→Q (.exit 0) s) (m:Nat) (s:SF) (I:I20 l k n t m s) :
  wpk cf fu x72l7 [] (fun e s'=>match e with|.normal=>∃k',k'<m∧I20 l k n t k' s'|e=>Q e s') s:=by
 obtain⟨⟨j,hj,e4,e3⟩,e1,hh,hb⟩:=I;obtain⟨e,h,base,rb⟩:=s;simp only at e4 e3 e1 hh hb;subst hh hb;have hlen:=aj l;by_cases hm:j<l.length
 ·have hlt:(j:Int)<l.length:=by omega
  have hx:=hc _ (List.getElem_mem hm);have hs:=D.dps_take l j hm;simp -implicitDefEqProofs [x72l7_w,e1,e3,e4,aa,hlt,hm,ac,ab,D.rd,hx];refine⟨m-1,by omega,⟨⟨j+1,by omega,?_,?_⟩,?_,rfl,rfl⟩⟩
  ·simp only[au,e4];simp;rw[aH (by omega)]
  ·simp only[au,e3];simp;rw[hs];split<;>omega
  ·simp[au,e1]
 ·have hlt:¬(j:Int)<l.length:=by omega
  have hj2:j=l.length:=by omega
  simp -implicitDefEqProofs [x72l7_w,e1,e3,e4,aa,hlt];refine hQ _ ?_ rfl rfl;simp only[au,e3,hj2,List.take_length];simp
theorem G5:∀d:D,d.sz<4611686018427387904→∀n,2*d.sz+2≤n→bg n 72 [d.v] (.c (.int .i64 d.dp)):=by
 refine D.ind fun k n t l ih hs m hm=>?_
 simp only[D.sz] at hs hm;obtain⟨m,rfl⟩:∃m',m=m'+1:=⟨m-1,by omega⟩
 have hlen:=aj l;have hdl:=D.dps_le' l;refine aA rfl rfl rfl (by kernel_rfl) ⟨rfl,rfl⟩ (by simp[D.vw2,V.lows,D.low]) ?_;simp -implicitDefEqProofs [x72_w,x72_r,D.vw2,D.v];refine j5 (I20 l k n t) l.length (by omega) ⟨⟨0,by simp,?_,?_⟩,?_,rfl,rfl⟩ ?_
 ·simp[au]
 ·simp[au,D.dps]
 ·simp[au]
 ·refine Ew (by omega) (fun x hx h=>ih x hx (by have:=ak hx;omega) m (by have:=ak hx;omega) h) fun s h3 hb hh=>?_
  obtain⟨e,h,base,rb⟩:=s;simp only at h3 hb hh;subst hb hh;simp -implicitDefEqProofs [x72_r,h3,D.dp];rw[aH (by omega)]
mutual
def D.fm:D→Bool
 | .mk k n t l=>if k=1 then CU t&&l.length==0 else if k=2 then n==0&&n6 t&&l.length==0 else if k=3 then D.fms l&&n==0&&CU t else false
def D.fms:List D→Bool
 | []=>true
 | d::l=>d.fm&&D.fms l
end
theorem D.fms_all:∀l:List D,D.fms l=l.all D.fm
 | []=>rfl
 | d::l=>by simp only[D.fms,List.all_cons,D.fms_all l]
theorem D.fms_take (l:List D) (j:Nat) (h:j<l.length):D.fms (l.take (j+1))=(D.fms (l.take j)&&(l[j]).fm):=by
 induction l generalizing j with
 | nil=>simp at h
 | cons d l ih =>
  cases j with
  | zero=>simp[D.fms]
  | succ j =>
   simp only[List.take_succ_cons,D.fms,List.getElem_cons_succ];rw[ih j (by simpa using h),Bool.and_assoc]
theorem D.fms_false {l:List D}{j:Nat}(h:j<l.length) (hf:(l[j]).fm=false):D.fms l=false:=by
 rw[D.fms_all,List.all_eq_false];exact⟨_,List.getElem_mem h,by simp[hf]⟩
structure I44 (l:List D) (k n:Int) (t:ByteArray) (m:Nat) (s:SF):Prop where
 j:∃j:Nat,j+m=l.length∧s.e 3=.c (.int .i64 j)∧D.fms (l.take j)=true
 e1:s.e 1=.ref 0 0
 h:s.h=[.cells [.c (.int .i64 k),.c (.int .i64 n),.c (.string t),.sl (D.vs l) .any]]
 b:s.base=0
theorem DX {cf:av}{fu:Nat}{l:List D}{k n:Int}{t:ByteArray}(hl:D.szs l<4611686018427387904) (hc:∀x∈l,∀h,cf 70 [x.v] h=some (.c (.bool x.fm),h)){Q:Ex→SF→Prop}
  (hQ:∀s,D.fms l=true→s.e 1=.ref 0 0→s.base=0→s.h=[.cells [.c (.int .i64 k),.c (.int .i64 n),.c (.string t),.sl (D.vs l) .any]]→Q (.exit 1) s)
  (hR:∀s,D.fms l=false→s.e 2=.c (.bool false)→s.base=0→s.h=[.cells [.c (.int .i64 k),.c (.int .i64 n),.c (.string t),.sl (D.vs l) .any]]→Q .ret s) (m:Nat) (s:SF) (I:I44 l k n t m s) :
  wpk cf fu x70l13 [] (fun e s'=>match e with|.normal=>∃k',k'<m∧I44 l k n t k' s'|e=>Q e s') s:=by
 obtain⟨⟨j,hj,e3,hf⟩,e1,hh,hb⟩:=I;obtain⟨e,h,base,rb⟩:=s;simp only at e3 e1 hh hb;subst hh hb;have hlen:=aj l;by_cases hm:j<l.length
 ·have hlt:(j:Int)<l.length:=by omega
  have hx:=hc _ (List.getElem_mem hm);have hs:=D.fms_take l j hm;cases hfm:(l[j]).fm with
  | true =>
   rw[hfm] at hx;simp -implicitDefEqProofs [x70l13_w,e1,e3,aa,hlt,hm,ac,ab,D.rd,hx];refine⟨m-1,by omega,⟨⟨j+1,by omega,?_,?_⟩,?_,rfl,rfl⟩⟩
   ·simp only[au,e3];simp;rw[aH (by omega)]
   ·rw[hs,hf,hfm];rfl
   ·simp[au,e1]
  | false =>
   rw[hfm] at hx;simp -implicitDefEqProofs [x70l13_w,e1,e3,aa,hlt,hm,ac,ab,D.rd,hx];refine hR _ (D.fms_false hm hfm) ?_ rfl rfl;simp[au]
 ·have hlt:¬(j:Int)<l.length:=by omega
  have hj2:j=l.length:=by omega
  simp -implicitDefEqProofs [x70l13_w,e1,e3,aa,hlt];refine hQ _ ?_ ?_ rfl rfl
  ·rw[hj2,List.take_length] at hf;exact hf
  ·simp[au,e1]
theorem F2:∀d:D,d.sz<4611686018427387904→∀n,2*d.sz+62≤n→bg n 70 [d.v] (.c (.bool d.fm)):=by
 refine D.ind fun k n t l ih hs m hm=>?_
 simp only[D.sz] at hs hm;obtain⟨m,rfl⟩:∃m',m=m'+1:=⟨m-1,by omega⟩
 have hlen:=aj l;have hsy:bg m 125 [.c (.string t)] (.c (.bool (n6 t))):=cX rfl (up (by omega) (GS (n:=60) (by omega) t));refine aA rfl rfl rfl (by kernel_rfl) ⟨rfl,rfl⟩ (by simp[D.vw2,V.lows,D.low]) ?_;have hsy':∀h,call X E m 125 [.c (.string t)] h=some (.c (.bool (n6 t)),h):=hsy;by_cases h1:k=1
 ·subst h1;cases ht:CU t<;>cases h0:(l.length==0) <;>
   simp -implicitDefEqProofs [x70_w,x70_r,D.vw2,D.v,ht,aa,h0,D.fm]
 ·by_cases h2:k=2
  ·subst h2;cases hn:(n==0)<;>cases hy:n6 t<;>cases h0:(l.length==0)<;>rw[hy] at hsy' <;>
    simp -implicitDefEqProofs [x70_w,x70_r,D.vw2,D.v,hn,hsy',aa,h0,D.fm,hy]
  ·by_cases h3:k=3
   ·subst h3;simp -implicitDefEqProofs [x70_w,x70_r,D.vw2,D.v];refine j5 (I44 l 3 n t) l.length (by omega) ⟨⟨0,by simp,?_,?_⟩,?_,rfl,rfl⟩ ?_
    ·simp[au]
    ·simp[D.fms]
    ·simp[au]
    ·refine DX (by omega) (fun x hx h=>ih x hx (by have:=ak hx;omega) m (by have:=ak hx;omega) h) (fun s hf h1 hb hh=>?_) fun s hf h2 hb hh=>?_
     ·obtain⟨e,h,base,rb⟩:=s;simp only at h1 hb hh;subst hb hh;cases ht:CU t<;>cases hn:(n==0) <;>
       simp -implicitDefEqProofs [x70_r,h1,hn,ht,D.fm,hf]
     ·obtain⟨e,h,base,rb⟩:=s;simp only at h2 hb hh;subst hb hh;simp -implicitDefEqProofs [x70_r,h2,D.fm,hf]
   ·have b1:(k==1)=false:=by simpa using h1
    have b2:(k==2)=false:=by simpa using h2
    have b3:(k==3)=false:=by simpa using h3
    simp -implicitDefEqProofs [b1,b2,b3,x70_w,x70_r,D.vw2,D.v,h1,h2,h3,D.fm]
def D.ck (d:D):Int:=if d.fm=false then 4 else if d.sz > 100000∨d.dp > 1000 then 3 else 0
theorem Ig (d:D) (hs:d.sz<4611686018427387904) (n:Nat) (hn:2*d.sz+63≤n):bg n 23 [d.v] (.c (.int .i64 d.ck)):=by
 obtain⟨m,rfl⟩:∃m',n=m'+1:=⟨n-1,by omega⟩
 have c1:∀h,call X E m 70 [d.v] h=some (.c (.bool d.fm),h):=F2 d hs m (by omega);have c2:∀h,call X E m 71 [d.v] h=some (.c (.int .i64 d.sz),h):=Gt d hs m (by omega);have c3:∀h,call X E m 72 [d.v] h=some (.c (.int .i64 d.dp),h):=G5 d hs m (by omega);refine aA rfl rfl rfl (by kernel_rfl) ⟨rfl,rfl⟩ (by simp[D.vw2,V.lows,D.low]) ?_;cases hf:d.fm with
 | false =>
  rw[hf] at c1;simp -implicitDefEqProofs [x23_w,x23_r,D.vw2,D.okc,D.rd,c1,D.ck,hf]
 | true =>
  rw[hf] at c1;by_cases h1:d.sz > 100000
  ·have h1':(100000:Int)<d.sz:=by omega
   simp -implicitDefEqProofs [x23_w,x23_r,D.vw2,D.okc,D.rd,c1,c2,h1',D.ck,hf,h1]
  ·have h1':¬(100000:Int)<d.sz:=by omega
   by_cases h2:d.dp > 1000
   ·have h2':(1000:Int)<d.dp:=by omega
    simp -implicitDefEqProofs [x23_w,x23_r,D.vw2,D.okc,D.rd,c1,c2,c3,h1',h2',D.ck,hf,h1,h2]
   ·have h2':¬(1000:Int)<d.dp:=by omega
    simp -implicitDefEqProofs [x23_w,x23_r,D.vw2,D.okc,D.rd,c1,c2,c3,h1',h2',D.ck,hf,h1,h2]
def bh (h:List O):Prop:=h.all (O.low h.length)=true
def ie (n f:Nat) (args:List V) (r:V):Prop:=∀h:List O,bh h→call X E n f args h=some (r,h)
theorem i5 {n f k:Nat}{xf:XF}{args:List V}{r:V}(hE:E f=none) (hX:X f=some xf) (hk:args.length=k) (hx:sH xf k=true) (hp:xf.pure=false∧xf.esc=false) (hr:r.low 0=true)
  (hw:∀h,bh h→wpk (call X E n) n xf.body [] (Fin (fun vs s=>(bk vs).vw=r∧s.take h.length=h) xf) ⟨dR (args.map V.vw2),h,h.length,0⟩) (ha:xf.asg=none:=by rfl):ie (n+1) f args r:=by
 intro h hh;simp only[call,hE,hX,ha];subst hk;refine fg hx hp.1 hp.2 (dt _ (fun e s hq=>?_) (cq (hw h hh)));have hrl:∀m,r.low m=true:=fun m=>by
  have:=lg (Nat.zero_le m) r hr;exact this
 cases e with
 | exit id=>exact hq
 | normal=>exact cn (fun vs hv=>⟨hv.1,hrl _,hv.2,hh⟩) hq
 | ret=>exact cn (fun vs hv=>⟨hv.1,hrl _,hv.2,hh⟩) hq
def D.bad:List D→Nat→Int
 | [],_ => -1
 | d::l,j=>if d.fm then D.bad l (j+1) else j
theorem D.bad_fms:∀(l:List D) (j:Nat),(decide (D.bad l j≥0)) = !D.fms l
 | [],j=>by simp[D.bad,D.fms]
 | d::l,j=>by
  have:=D.bad_fms l (j+1);simp only[D.bad,D.fms];by_cases hf:d.fm=true
  ·simpa[hf] using this
  ·simp[hf]
theorem Gw {m:Nat}{d:D}{b:Bool}(hc:bg m 102 [d.v] (.c (.bool b))):ie (m+1) 152 [d.v] (.c (.bool !b)):=by
 have hc':∀h,call X E m 102 [d.v] h=some (.c (.bool b),h):=hc;refine i5 rfl rfl rfl (by kernel_rfl) ⟨rfl,rfl⟩ (by simp[V.low]) fun h hh=>?_
 simp -implicitDefEqProofs [x152_w,x152_r,D.vw2,D.okc,D.rd,qC,qq,hc']
structure I77 (l:List D) (g:List O) (m:Nat) (s:SF):Prop where
 j:∃j:Nat,j+m=l.length∧s.e 8=.c (.int .i64 j)∧D.bad l 0=D.bad (l.drop j) j
 e0:s.e 0=.sl (D.vs l) .any
 e1:s.e 1=.c (.func (.func 152) #[] #[])
 e7:s.e 7=.c (.int .i64 l.length)
 h:s.h=g
 b:s.base=g.length
theorem EE {n fu:Nat}{l:List D}{h:List O}(hh:bh h) (hl:l.length<4611686018427387904) (hc:∀x∈l,ie n 152 [x.v] (.c (.bool !x.fm))){Q:Ex→SF→Prop}
  (hQ:∀s,D.bad l 0 = -1→s.h=h→s.base=h.length→Q (.exit 0) s) (hR:∀s,s.e 4=.c (.int .i64 (D.bad l 0))→s.h=h→s.base=h.length→Q .ret s) (m:Nat) (s:SF) (I:I77 l h m s) :
  wpk (call X E n) fu x105l8 [] (fun e s'=>match e with|.normal=>∃k',k'<m∧I77 l h k' s'|e=>Q e s') s:=by
 obtain⟨⟨j,hj,e8,hb⟩,e0,e1,e7,hh',hbs⟩:=I;obtain⟨e,h',base,rb⟩:=s;simp only at e8 e0 e1 e7 hh' hbs;subst hh' hbs;by_cases hm:j<l.length
 ·have hlt:(j:Int)<l.length:=by omega
  have hx:=hc _ (List.getElem_mem hm) h' hh;have hd:l.drop j=l[j]::l.drop (j+1):=dC hm;cases hf:(l[j]).fm with
  | true =>
   rw[hf] at hx;simp -implicitDefEqProofs [x105l8_w,e0,e1,e7,e8,aa,hlt,hm,ac,ab,D.rd,hx];refine⟨m-1,by omega,⟨⟨j+1,by omega,?_,?_⟩,?_,?_,?_,rfl,rfl⟩⟩
   ·simp only[au,e8];simp;rw[aH (by omega)]
   ·rw[hb,hd,D.bad,hf];rfl
   ·simp[au,e0]
   ·simp[au,e1]
   ·simp[au,e7]
  | false =>
   rw[hf] at hx;simp -implicitDefEqProofs [x105l8_w,e0,e1,e7,e8,aa,hlt,hm,ac,ab,D.rd,hx];refine hR _ ?_ rfl rfl;rw[hb,hd,D.bad,hf];simp[au,e8]
 ·have hlt:¬(j:Int)<l.length:=by omega
  have hj2:j=l.length:=by omega
  simp -implicitDefEqProofs [x105l8_w,e0,e1,e7,e8,aa,hlt];refine hQ _ ?_ rfl rfl;rw[hb,hj2,List.drop_length,D.bad]
theorem GH {n:Nat}{l:List D}(hl:l.length<4611686018427387904) (hn:l.length<n) (hc:∀x∈l,ie n 152 [x.v] (.c (.bool !x.fm))) :
  ie (n+1) 105 [.sl (D.vs l) .any,.c (.func (.func 152) #[] #[])] (.c (.int .i64 (D.bad l 0))):=by
 refine i5 rfl rfl rfl (by kernel_rfl) ⟨rfl,rfl⟩ (by simp[V.low]) fun h hh=>?_
 simp -implicitDefEqProofs [x105_w,x105_r,aa];refine j5 (I77 l h) l.length hn ⟨⟨0,by simp,?_,?_⟩,?_,?_,?_,rfl,rfl⟩ ?_
 ·simp[au]
 ·simp
 ·simp[au,dR]
 ·simp[au,dR]
 ·simp[au]
 ·refine EE hh hl hc (fun s h1 h2 h3=>?_) fun s h1 h2 h3=>?_
  ·obtain⟨e,h',base,rb⟩:=s;simp only at h2 h3;subst h2 h3;simp -implicitDefEqProofs [x105_r,h1]
  ·obtain⟨e,h',base,rb⟩:=s;simp only at h1 h2 h3;subst h2 h3;simp -implicitDefEqProofs [x105_r,h1]
theorem FX {n:Nat}{l:List D}(hc:ie n 105 [.sl (D.vs l) .any,.c (.func (.func 152) #[] #[])] (.c (.int .i64 (D.bad l 0)))) :
  ie (n+1) 48 [.sl (D.vs l) .any,.c (.func (.func 152) #[] #[])] (.c (.bool !D.fms l)):=by
 refine i5 rfl rfl rfl (by kernel_rfl) ⟨rfl,rfl⟩ (by simp[V.low]) fun h hh=>?_
 have h1:=hc h hh;have h2:=D.bad_fms l 0;simp -implicitDefEqProofs [x48_w,x48_r,h1];simpa using h2
theorem GZ:∀d:D,d.sz<4611686018427387904→∀n,4*d.sz+62≤n→bg n 102 [d.v] (.c (.bool d.fm)):=by
 refine D.ind fun k n t l ih hs m hm=>?_
 simp only[D.sz] at hs hm;obtain⟨m,rfl⟩:∃m',m=m'+4:=⟨m-4,by omega⟩
 have hlen:=aj l;have hsy:∀h,call X E (m+3) 151 [.c (.string t)] h=some (.c (.bool (n6 t)),h):=cX (n:=m+3) rfl (up (by omega) (FY (n:=60) (by omega) t));have h71:∀x∈l,ie (m+1) 152 [x.v] (.c (.bool !x.fm)):=fun x hx=>Gw (ih x hx (by have:=ak hx;omega) m (by have:=ak hx;omega))
 have h70:=FX (GH (n:=m+1) (l:=l) (by omega) (by omega) h71);have h70':=h70 [.cells [.c (.int .i64 k),.c (.int .i64 n),.c (.string t),.sl (D.vs l) .any]] (by simp[bh,O.low,V.lows,V.low,D.lows,SI.low]);refine aA rfl rfl rfl (by kernel_rfl) ⟨rfl,rfl⟩ (by simp[D.vw2,V.lows,D.low]) ?_;by_cases h1:k=1
 ·subst h1;cases ht:CU t<;>cases h0:(l.length==0) <;>
   simp -implicitDefEqProofs [x102_w,x102_r,D.vw2,D.v,ht,aa,h0,D.fm]
 ·by_cases h2:k=2
  ·subst h2;cases hn:(n==0)<;>cases hy:n6 t<;>cases h0:(l.length==0)<;>rw[hy] at hsy <;>
    simp -implicitDefEqProofs [x102_w,x102_r,D.vw2,D.v,hn,hsy,aa,h0,D.fm,hy]
  ·by_cases h3:k=3
   ·subst h3;cases hn:(n==0)<;>cases ht:CU t<;>cases hf:D.fms l<;>rw[hf] at h70' <;>
     simp -implicitDefEqProofs [x102_w,x102_r,D.vw2,D.v,hn,ht,h70',D.fm,hf]
   ·have b1:(k==1)=false:=by simpa using h1
    have b2:(k==2)=false:=by simpa using h2
    have b3:(k==3)=false:=by simpa using h3
    simp -implicitDefEqProofs [b1,b2,b3,x102_w,x102_r,D.vw2,D.v,h1,h2,h3,D.fm]
mutual
def D.pre:D→List Int→List (D × List Int)
 | .mk k n t l,ps=>(.mk k n t l,ps)::D.pres l ps 0
def D.pres:List D→List Int→Nat→List (D × List Int)
 | [],_,_=>[]
 | d::l,ps,i=>d.pre (ps++[(i:Int)])++D.pres l ps (i+1)
end
def lu (Y:D→List Int→List O→Option (Bool × List O)):List (D × List Int)→List O→Option (Bool × List O)
 | [],h=>some (true,h)
 | (x,q)::r,h=>match Y x q h with
  | some (true,h')=>lu Y r h'
  | some (false,h')=>some (false,h')
  | none=>none
def CX (r:Option (Bool × List O)) (f:List O→Option (Bool × List O)):Option (Bool × List O):=match r with
 | some (true,h)=>f h
 | some (false,h)=>some (false,h)
 | none=>none
theorem qJ (Y:D→List Int→List O→Option (Bool × List O)):∀(a b:List (D × List Int)) (h:List O),lu Y (a++b) h=CX (lu Y a h) (lu Y b)
 | [],b,h=>rfl
 | (x,q)::a,b,h=>by
  simp only[List.cons_append,lu];cases Y x q h with
  | none=>rfl
  | some r =>
   obtain⟨c,h'⟩:=r;cases c with
   | true=>exact qJ Y a b h'
   | false=>rfl
theorem pV {cf:av}{f:Nat}{caps:List V}:∀(a:List (D × List Int)){h:List O}{b:Bool}{h':List O},lu (fun x q h=>cA cf f caps x.v q h) a h=some (b,h')→h'.length=h.length
 | [],h,b,h',e=>by simp only[lu,sI,pI] at e;rw[e.2]
 | (x,q)::a,h,b,h',e=>by
  simp only[lu] at e;split at e
  ·rename_i h1 e1;rw[pV a e,(cF e1).2.1]
  ·rename_i h1 e1;simp only[sI,pI] at e;rw[← e.2,(cF e1).2.1]
  ·cases e
theorem tG {cf:av}{f:Nat}{caps:List V}:∀(d:D) (k:Nat) (ps:List Int) (h:List O),d.sz≤k→d.sz+ps.length≤1099511627776→V.lows h.length caps=true →
  cV cf f caps k d.v ps h=lu (fun x q h=>cA cf f caps x.v q h) (d.pre ps) h:=by
 refine D.ind fun k n t l ih=>?_
 intro fu ps h hk hp hc;simp only[D.sz] at hk hp;obtain⟨fu,rfl⟩:∃m',fu=m'+1:=⟨fu-1,by omega⟩
 have hlen:=aj l;have hall:(D.vs l).all (fun u=>u.cells.length==4&&V.low h.length u)=true:=by
  rw[ar,List.all_eq_true];intro u hu;obtain⟨d,_,rfl⟩:=List.mem_map.1 hu;simp[ab,D.low]
 have hL:∀(us:List D) (i:Nat) (h1:List O),(∀x∈us,x∈l)→h1.length=h.length→fw (cV cf f caps fu) ps i (D.vs us) h1=lu (fun x q h=>cA cf f caps x.v q h) (D.pres us ps i) h1:=by
  intro us
  induction us with
  | nil=>intro i h1 _ _;rfl
  | cons u us ihu =>
   intro i h1 hm hl;have hu:=hm u (by simp);have hus:=ak hu;have hsz:=ap u;simp only[D.vs,fw,D.pres,qJ];rw[ih u hu fu (ps++[(i:Int)]) h1 (by omega) (by simp;omega) (by rw[hl];exact hc)];cases hw:lu (fun x q h=>cA cf f caps x.v q h) (u.pre (ps++[(i:Int)])) h1 with
   | none=>rfl
   | some r =>
    obtain⟨b,h2⟩:=r;cases b with
    | true=>exact ihu (i+1) h2 (fun x hx=>hm x (by simp[hx])) ((pV _ hw).trans hl)
    | false=>rfl
 simp only[D.v,cV,D.pre,lu];rw[if_pos ⟨hall,by rw[aa];omega,by omega,hc,rfl,rfl,rfl⟩];cases hy:cA cf f caps (.agg [.c (.int .i64 k),.c (.int .i64 n),.c (.string t),.sl (D.vs l) .any]) ps h with
 | none=>rfl
 | some r =>
  obtain⟨b,h1⟩:=r;cases b with
  | true=>exact hL l 0 h1 (fun x hx=>hx) (cF hy).2.1
  | false=>rfl
mutual
theorem D.pre_len:∀(d:D) (ps:List Int),(d.pre ps).length=d.sz
 | .mk k n t l,ps=>by simp only[D.pre,lC,D.sz,D.pres_len l ps 0];omega
theorem D.pres_len:∀(l:List D) (ps:List Int) (i:Nat),(D.pres l ps i).length=D.szs l
 | [],_,_=>rfl
 | d::l,ps,i=>by simp only[D.pres,lA,D.szs,D.pre_len d,D.pres_len l]
end
theorem AE {n:Nat}{d:D}{q:Nat}{caps:List V}{h:List O}(hs:d.sz≤n) (hp:d.sz≤1099511627776) (hc:V.lows h.length caps=true) :
  call X E (n+1) 153 [d.v,.sl [] .nil,.clo q caps] h=(lu (fun x p h=>cA (call X E n) q caps x.v p h) (d.pre []) h).map fun r=>(.c (.bool r.1),r.2):=by
 have hE:E 153=some mc:=rfl;simp only[call,hE,mc,kg];rw[tG d n [] h hs (by simpa using hp) hc]
theorem qz {cf:av}{q:Nat}{caps:List V}{x:D}{ps:List Int}{h h':List O}{b:Bool}(hc:V.lows h.length caps=true) (hl:h.all (O.low (h.length+1))=true) (hl':h'.all (O.low h.length)=true) (hn:h'.length=h.length)
  (e:cf q (x.v::.row h.length 0 ps.length none::caps) (h++[aE ps])=some (.c (.bool b),h'++[aE ps])) (hq:q<1000000:=by decide):cA cf q caps x.v ps h=some (b,h'):=by
 have hpl:O.low (h.length+1) (aE ps)=true:=by
  simp only[O.low,aE];refine b7 fun v hv=>?_
  obtain⟨i,_,rfl⟩:=List.mem_map.1 hv;simp[I64,V.low]
 have hfr:aF (h.length+1) cf q (x.v::.row h.length 0 ps.length none::caps) (h++[aE ps])=some (.c (.bool b),h'++[aE ps]):=by
  have hlw:V.lows (h.length+1) (x.v::.row h.length 0 ps.length none::caps)=true:=by simp[V.lows,D.low,V.low,bC (Nat.le_succ _) _ hc]
  unfold aF;rw[if_pos hlw];unfold b9;have ht:(h++[aE ps]).take (h.length+1)=h++[aE ps]:=by rw[List.take_of_length_le];simp
  have hd:(h++[aE ps]).drop (h.length+1)=[]:=by rw[List.drop_of_length_le];simp
  rw[ht,hd,e];rw[if_pos ⟨hq,by simp,by simp[V.lows,D.low,V.low,bC (Nat.le_succ _) _ hc],by simp only[List.all_append,hl,List.all_cons,hpl,List.all_nil,Bool.and_self]⟩];simp[hn]
 unfold cA;rw[hfr];have h1:(h'++[aE ps])[h.length]?=some (aE ps):=by rw[← hn];simp
 have h2:(h'++[aE ps]).take h.length=h':=by rw[← hn];simp
 simp only[h1,h2,dh,hl',and_self,if_true]
theorem lZ {n n':Nat}(hn:n≤n'){o:O}(h:O.low n o=true):O.low n' o=true:=by
 have:=nA hn (h:=[o]) (by simp[h]);simpa using this
theorem bu (n:Nat) (cs:List V):O.low n (.cells cs)=V.lows n cs:=rfl
theorem mP (n:Nat) (ps:List Int):O.low n (aE ps)=true:=by
 rw[aE,bu];refine b7 fun v hv=>?_
 obtain⟨i,_,rfl⟩:=List.mem_map.1 hv;simp[I64,V.low]
theorem F7 {n:Nat}{x:D}{ps:List Int}{a:O}{c:Int}(hc : -1≤c∧c<4611686018427387904) (ha:O.low 2 a=true):cA (call X E (n+1)) 154 [.ref 1 0] x.v ps [a,.cells [.c (.int .i64 c)]]=some (true,[a,.cells [.c (.int .i64 (c+1))]]):=by
 refine qz (by simp[V.lows,V.low]) ?_ ?_ rfl ?_
 ·simp[bu,V.lows,V.low,lZ (Nat.le_succ 2) ha]
 ·simp[bu,V.lows,V.low,ha]
 ·have hE:E 154=none:=rfl;have hX:X 154=some x154:=rfl;simp only[call,hE,hX];refine fg (by kernel_rfl) rfl rfl (cq ?_);have hw:IntKind.i64.wrap (c+1)=c+1:=aH (by omega);simp -implicitDefEqProofs [x154_w,x154_r,D.vw2,D.okc,D.rd,hw];simp[bu,V.lows,V.low,lZ (Nat.le_succ 2) ha,mP]
theorem A5 {n:Nat}{a:O}(ha:O.low 2 a=true):∀(L:List (D × List Int)) (c:Int),-1≤c→c+L.length<4611686018427387904 →
  lu (fun x p h=>cA (call X E (n+1)) 154 [.ref 1 0] x.v p h) L [a,.cells [.c (.int .i64 c)]]=some (true,[a,.cells [.c (.int .i64 (c+L.length))]])
 | [],c,_,_=>by simp[lu]
 | (x,q)::L,c,h1,h2=>by
  simp only[lC] at h2 ⊢;simp only[lu];rw[F7 (by omega) ha];simp only;rw[A5 ha L (c+1) (by omega) (by omega)];simp only[sI,pI,true_and,cI,O.cells.injEq,V.c.injEq,Value.int.injEq,and_true];omega
theorem aq (m:Nat) (d:D):O.low m (.cells d.v.cells)=true:=by
 rw[bu];exact b7 fun v hv=>mB (D.low m d) v hv
theorem GI {d:D}{n:Nat}(hs:d.sz≤1099511627776) (hn:d.sz+2≤n):bg (n+1) 103 [d.v] (.c (.int .i64 d.sz)):=by
 obtain⟨m,rfl⟩:∃m',n=m'+2:=⟨n-2,by omega⟩
 refine aA rfl rfl rfl (by kernel_rfl) ⟨rfl,rfl⟩ (by simp[D.vw2,V.lows,D.low]) ?_;have hc:call X E (m+2) 153 [d.v,.sl [] .nil,.clo 154 [.ref 1 0]] [.cells d.v.cells,.cells [.c (.int .i64 0)]]=some (.c (.bool true),[.cells d.v.cells,.cells [.c (.int .i64 d.sz)]]):=by
  rw[AE (n:=m+1) (by omega) hs (by simp[V.lows,V.low])];rw[A5 (n:=m) (aq 2 d) (d.pre []) 0 (by omega) (by rw[D.pre_len];omega),D.pre_len];simp
 simp -implicitDefEqProofs [x103_w,x103_r,D.vw2,D.okc,D.rd,hc]
def top:List (D × List Int)→Int→Int
 | [],c=>c
 | (_,q)::L,c=>top L (max c (q.length+1))
theorem wF:∀(a b:List (D × List Int)) (c:Int),top (a++b) c=top b (top a c)
 | [],b,c=>rfl
 | (x,q)::a,b,c=>by simp only[List.cons_append,top,wF a b]
mutual
theorem D.top_pre:∀(d:D) (ps:List Int) (c:Int),top (d.pre ps) c=max c (ps.length+d.dp)
 | .mk k n t l,ps,c=>by
  simp only[D.pre,top,D.top_pres l ps 0,D.dp];cases l with
  | nil=>simp[D.dps]
  | cons d l=>rw[if_neg (by simp)];omega
theorem D.top_pres:∀(l:List D) (ps:List Int) (i:Nat) (c:Int),top (D.pres l ps i) c=if l=[] then c else max c (ps.length+1+D.dps l)
 | [],_,_,_=>rfl
 | d::l,ps,i,c=>by
  have hp:=D.dp_pos d;simp only[D.pres,wF,D.top_pre d,D.top_pres l,D.dps,lA,lC,List.length_nil];cases l with
  | nil=>simp[D.dps]
  | cons d' l=>rw[if_neg (by simp),if_neg (by simp)];omega
theorem D.dp_pos:∀d:D,1≤d.dp
 | .mk _ _ _ _=>by simp only[D.dp];omega
end
theorem Hi {n:Nat}{x:D}{ps:List Int}{a:O}{c:Int}(hc:ps.length<4611686018427387904) (ha:O.low 2 a=true):cA (call X E (n+1)) 155 [.ref 1 0] x.v ps [a,.cells [.c (.int .i64 c)]]=some (true,[a,.cells [.c (.int .i64 (max c (ps.length+1)))]]):=by
 refine qz (by simp[V.lows,V.low]) ?_ ?_ rfl ?_
 ·simp[bu,V.lows,V.low,lZ (Nat.le_succ 2) ha]
 ·simp[bu,V.lows,V.low,ha]
 ·have hE:E 155=none:=rfl;have hX:X 155=some x155:=rfl;simp only[call,hE,hX];refine fg (by kernel_rfl) rfl rfl (cq ?_);have hw:IntKind.i64.wrap ((ps.length:Int)+1)=ps.length+1:=aH (by omega);have hm:(if (ps.length:Int)+1 > c then (ps.length:Int)+1 else c)=max c (ps.length+1):=by split<;>omega
  simp -implicitDefEqProofs [x155_w,x155_r,D.vw2,D.okc,D.rd,hw];simp[bu,V.lows,V.low,lZ (Nat.le_succ 2) ha,mP];split<;>omega
theorem Av {n:Nat}{a:O}(ha:O.low 2 a=true):∀(L:List (D × List Int)) (c:Int),(∀p∈L,p.2.length<4611686018427387904) →
  lu (fun x p h=>cA (call X E (n+1)) 155 [.ref 1 0] x.v p h) L [a,.cells [.c (.int .i64 c)]]=some (true,[a,.cells [.c (.int .i64 (top L c))]])
 | [],c,_=>by simp[lu,top]
 | (x,q)::L,c,h1=>by
  simp only[lu];rw[Hi (h1 (x,q) (by simp)) ha];simp only;rw[Av ha L _ fun p hp=>h1 p (by simp[hp])];simp only[top]
mutual
theorem D.pre_path:∀(d:D) (ps:List Int),∀p∈d.pre ps,p.2.length≤ps.length+d.sz
 | .mk k n t l,ps,p,hp=>by
  simp only[D.pre,List.mem_cons] at hp;simp only[D.sz];rcases hp with rfl|hp
  ·simp only;omega
  ·have:=D.pres_path l ps 0 p hp;omega
theorem D.pres_path:∀(l:List D) (ps:List Int) (i:Nat),∀p∈D.pres l ps i,p.2.length≤ps.length+1+D.szs l
 | [],ps,i,p,hp=>by simp[D.pres] at hp
 | d::l,ps,i,p,hp=>by
  simp only[D.pres,List.mem_append] at hp;simp only[D.szs];rcases hp with hp|hp
  ·have:=D.pre_path d _ p hp;simp only[lA,lC,List.length_nil] at this;omega
  ·have:=D.pres_path l ps (i+1) p hp;omega
end
theorem GK {d:D}{n:Nat}(hs:d.sz≤1099511627776) (hn:d.sz+2≤n):bg (n+1) 104 [d.v] (.c (.int .i64 d.dp)):=by
 obtain⟨m,rfl⟩:∃m',n=m'+2:=⟨n-2,by omega⟩
 refine aA rfl rfl rfl (by kernel_rfl) ⟨rfl,rfl⟩ (by simp[D.vw2,V.lows,D.low]) ?_;have hc:call X E (m+2) 153 [d.v,.sl [] .nil,.clo 155 [.ref 1 0]] [.cells d.v.cells,.cells [.c (.int .i64 0)]]=some (.c (.bool true),[.cells d.v.cells,.cells [.c (.int .i64 d.dp)]]):=by
  rw[AE (n:=m+1) (by omega) hs (by simp[V.lows,V.low])];rw[Av (n:=m) (aq 2 d) (d.pre []) 0 (fun p hp=>by have:=D.pre_path d [] p hp;simp only[List.length_nil] at this;omega),D.top_pre];have:max (0:Int) (([]:List Int).length+d.dp)=d.dp:=by simp
  rw[this];rfl
 simp -implicitDefEqProofs [x104_w,x104_r,D.vw2,D.okc,D.rd,hc]
theorem Gd (d:D) (hs:d.sz≤1099511627776) (n:Nat) (hn:4*d.sz+64≤n):bg n 46 [d.v] (.c (.int .i64 d.ck)):=by
 obtain⟨m,rfl⟩:∃m',n=m'+2:=⟨n-2,by omega⟩
 have c1:∀h,call X E (m+1) 102 [d.v] h=some (.c (.bool d.fm),h):=GZ d (by omega) (m+1) (by omega);have c2:∀h,call X E (m+1) 103 [d.v] h=some (.c (.int .i64 d.sz),h):=GI (n:=m) hs (by omega);have c3:∀h,call X E (m+1) 104 [d.v] h=some (.c (.int .i64 d.dp),h):=GK (n:=m) hs (by omega);refine aA rfl rfl rfl (by kernel_rfl) ⟨rfl,rfl⟩ (by simp[D.vw2,V.lows,D.low]) ?_;cases hf:d.fm with
 | false =>
  rw[hf] at c1;simp -implicitDefEqProofs [x46_w,x46_r,D.vw2,D.okc,D.rd,c1,D.ck,hf]
 | true =>
  rw[hf] at c1;by_cases h1:d.sz > 100000
  ·have h1':(100000:Int)<d.sz:=by omega
   simp -implicitDefEqProofs [x46_w,x46_r,D.vw2,D.okc,D.rd,c1,c2,h1',D.ck,hf,h1]
  ·have h1':¬(100000:Int)<d.sz:=by omega
   by_cases h2:d.dp > 1000
   ·have h2':(1000:Int)<d.dp:=by omega
    simp -implicitDefEqProofs [x46_w,x46_r,D.vw2,D.okc,D.rd,c1,c2,c3,h1',h2',D.ck,hf,h1,h2]
   ·have h2':¬(1000:Int)<d.dp:=by omega
    simp -implicitDefEqProofs [x46_w,x46_r,D.vw2,D.okc,D.rd,c1,c2,c3,h1',h2',D.ck,hf,h1,h2]
def eqS (a b:ByteArray):Bool:=a.toList==b.toList
theorem dH (a b:ByteArray):yD .eql a b=some (.c (.bool (eqS a b))):=rfl
def Du (t:ByteArray):ByteArray:=t.extract 0 (min t.size 42)
mutual
def D.cut:D→Nat→Nat→D × Nat
 | .mk k n t l,left,deep=>(.mk k n (Du t) (D.cuts l (left-1) deep).1,(D.cuts l (left-1) deep).2)
def D.cuts:List D→Nat→Nat→List D × Nat
 | [],left,_=>([],left)
 | d::l,left,deep=>if 1<deep∧0<left then ((d.cut left (deep-1)).1::(D.cuts l (d.cut left (deep-1)).2 deep).1,(D.cuts l (d.cut left (deep-1)).2 deep).2) else ([],left)
end
mutual
theorem D.cut_le:∀(d:D) (left deep:Nat),(d.cut left deep).2≤left-1
 | .mk k n t l,left,deep=>by simp only[D.cut];exact D.cuts_le l _ _
theorem D.cuts_le:∀(l:List D) (left deep:Nat),(D.cuts l left deep).2≤left
 | [],left,deep=>by simp[D.cuts]
 | d::l,left,deep=>by
  simp only[D.cuts];split
  ·have:=D.cut_le d left (deep-1);have:=D.cuts_le l (d.cut left (deep-1)).2 deep;simp only;omega
  ·simp
end
theorem ai (a b:List D):D.vs (a++b)=D.vs a++D.vs b:=by simp[ar]
theorem D.hz (l:List D):Ab.hz 4 (D.vs l)=true:=by
 cases l with
 | nil=>rfl
 | cons d l=>simp[D.vs,Ab.hz,ab]
theorem jn (h:List O) (x y:O):(h++[x,y])[h.length+1]?=some y:=by
 rw[aR (by omega)];simp
theorem mG (h:List O) (x y z:O):(h++[x,y]).set (h.length+1) z=h++[x,z]:=by
 rw[List.set_append_right _ _ (by omega)];simp
theorem E9 {cf:av}{f:Nat}{args:List V}{a b c c':O}{v:V}{rest:List O}(hl:V.lows 3 args=true) (hh:bh [a,b,c]) (e:cf f args [a,b,c]=some (v,[a,b,c'])) (hf:f<1000000:=by decide) :
  aF 3 cf f args (a::b::c::rest)=some (v,a::b::c'::rest):=by
 unfold aF;rw[if_pos hl];unfold b9;have h1:(a::b::c::rest).take 3=[a,b,c]:=by simp
 have h2:(a::b::c::rest).drop 3=rest:=by simp
 rw[h1,h2,e,if_pos ⟨hf,by simp,hl,hh⟩];simp
def f7 (k n:Int) (t:ByteArray) (us:List V) (si:SI):O:=.cells [.c (.int .i64 k),.c (.int .i64 n),.c (.string t),.sl us si]
structure I62 (a b ret:O) (l:List D) (k n:Int) (t:ByteArray) (left0 deep:Nat) (m:Nat) (s:SF):Prop where
 j:∃(out:List D) (rest:List O) (si:SI),out.length+m≤left0∧s.e 8=.c (.int .i64 out.length) ∧
  D.cuts l left0 deep=(out++(D.cuts (l.drop out.length) m deep).1,(D.cuts (l.drop out.length) m deep).2) ∧
  s.h=a::b::.cells [.c (.int .i64 m)]::f7 k n t (D.vs l) .any::ret::f7 k n (Du t) (D.vs out) si::rest ∧
  ((out=[]∧si=.nil)∨∃q,si=.tok (q+6)∧rest[q]?=some (.tok out.length 4))
 e0:s.e 0=.ref 2 0
 e2:s.e 2=.c (.int .i64 deep)
 e4:s.e 4=.ref 3 0
 e6:s.e 6=.ref 4 0
 e7:s.e 7=.ref 5 0
 b:s.base=3
theorem DY {cf:av}{fu:Nat}{a b ret:O}{l:List D}{k n:Int}{t:ByteArray}{left0 deep:Nat}(ha:O.low 3 a=true) (hb:O.low 3 b=true) (hleft:left0<1099511627776) (hdeep:deep<1099511627776)
  (hc:∀x∈l,∀left,0<left→left≤left0→1<deep→cf 86 [.ref 2 0,x.v,.c (.int .i64 (deep-1:Nat))] [a,b,.cells [.c (.int .i64 left)]]=some ((x.cut left (deep-1)).1.v,[a,b,.cells [.c (.int .i64 (x.cut left (deep-1)).2)]])){Q:Ex→SF→Prop}
  (hQ:∀s si rest,s.h=a::b::.cells [.c (.int .i64 (D.cuts l left0 deep).2)]::f7 k n t (D.vs l) .any::ret::f7 k n (Du t) (D.vs (D.cuts l left0 deep).1) si::rest→s.e 6=.ref 4 0→s.e 7=.ref 5 0→s.base=3→Q (.exit 0) s) (m:Nat) (s:SF) (I:I62 a b ret l k n t left0 deep m s) :
  wpk cf fu x86l8 [] (fun e s'=>match e with|.normal=>∃k',k'<m∧I62 a b ret l k n t left0 deep k' s'|e=>Q e s') s:=by
 obtain⟨⟨out,rest,si,hom,e8,hcut,hh,hsi⟩,e0,e2,e4,e6,e7,hbs⟩:=I;obtain⟨e,h,base,rb⟩:=s;simp only at e8 hh e0 e2 e4 e6 e7 hbs;subst hh hbs;have hstop:¬(out.length<l.length∧1<deep∧0<m)→(D.cuts (l.drop out.length) m deep)=([],m):=by
  intro hn;by_cases hm:out.length<l.length
  ·rw[dC hm,D.cuts,if_neg (fun h=>hn ⟨hm,h⟩)]
  ·rw[List.drop_of_length_le (by omega),D.cuts]
 have hexit:¬(out.length<l.length∧1<deep∧0<m)→∀e':Nat→V,e' 6=.ref 4 0→e' 7=.ref 5 0→∀rb',Q (.exit 0) ⟨e',a::b::.cells [.c (.int .i64 m)]::f7 k n t (D.vs l) .any::ret::f7 k n (Du t) (D.vs out) si::rest,3,rb'⟩:=by
  intro hn e' h6 h7 rb';have:=hstop hn;rw[this] at hcut;refine hQ _ si rest ?_ h6 h7 rfl;rw[hcut];simp
 by_cases hm:out.length<l.length
 ·have hlt:(out.length:Int)<l.length:=by omega
  by_cases hd:1<deep
  ·have hdi:(1:Int)<deep:=by omega
   by_cases h0:0<m
   ·have h0i:(0:Int)<m:=by omega
    have hx:=hc _ (List.getElem_mem hm) m h0 (by omega) hd;have hfr:=fun rest=>E9 (rest:=rest) (by simp[V.lows,V.low,D.low]) (by simp[bh,ha,hb,bu,V.lows,V.low]) hx
    have hde:IntKind.i64.wrap ((deep:Int)-1)=(deep-1:Nat):=by rw[aH (by omega)];omega
    have hle:=D.cut_le l[out.length] m (deep-1);have hstep:D.cuts (l.drop out.length) m deep=(((l[out.length]).cut m (deep-1)).1::(D.cuts (l.drop (out.length+1)) ((l[out.length]).cut m (deep-1)).2 deep).1,(D.cuts (l.drop (out.length+1)) ((l[out.length]).cut m (deep-1)).2 deep).2):=by
     rw[dC hm,D.cuts,if_pos ⟨hd,h0⟩]
    have hlen1:((D.vs out).length+1)*56≤140737488355328:=by rw[aa];omega
    have hlen2:(D.vs out).length+1≤140737488355328:=by rw[aa];omega
    generalize hcx:(l[out.length]).cut m (deep-1)=cx at *;have hnew:D.cuts l left0 deep=((out++[cx.1])++(D.cuts (l.drop (out++[cx.1]).length) cx.2 deep).1,(D.cuts (l.drop (out++[cx.1]).length) cx.2 deep).2):=by
     rw[hcut,hstep];simp
    rcases hsi with⟨hout,rfl⟩|⟨q,rfl,hq⟩
    ·simp -implicitDefEqProofs [x86l8_w,x86r6_w,f7,e0,e2,e4,e7,e8,aa,hlt,hdi,h0,h0i,hm,ac,ab,D.rd,D.vw2,D.okc,hde,hfr,hlen1,hlen2,D.hz,jn,mG];refine⟨⟨by omega,by omega⟩,cx.2,by omega,⟨⟨out++[cx.1],rest++[O.tok 1 4,O.tok (out.length+1) 4],.tok (rest.length+1+6),?_,?_,hnew,?_,.inr ⟨rest.length+1,rfl,?_⟩⟩,?_,?_,?_,?_,?_,rfl⟩⟩
     ·simp only[lA,lC,List.length_nil];omega
     ·simp only[au];simp;rw[aH (by omega)]
     ·simp[f7,ai,D.vs]
     ·rw[jn];simp
     ·simp[au,e0]
     ·simp[au,e2]
     ·simp[au,e4]
     ·simp[au,e6]
     ·simp[au,e7]
    ·obtain⟨hql,hqv⟩:=gS.1 hq;have hqa:∀pre:List O,(rest++pre)[q]?=some (.tok out.length 4):=fun pre=>by rw[aL hql];exact hq
     simp -implicitDefEqProofs [x86l8_w,x86r6_w,f7,e0,e2,e4,e7,e8,aa,hlt,hdi,h0,h0i,hm,ac,ab,D.rd,D.vw2,D.okc,hde,hfr,hlen1,hlen2,D.hz,hqa];refine⟨⟨by omega,by omega⟩,cx.2,by omega,⟨⟨out++[cx.1],(rest++[O.tok 1 4,O.dead]).set q (.tok (out.length+1) 4),.tok (q+6),?_,?_,hnew,?_,.inr ⟨q,rfl,?_⟩⟩,?_,?_,?_,?_,?_,rfl⟩⟩
     ·simp only[lA,lC,List.length_nil];omega
     ·simp only[au];simp;rw[aH (by omega)]
     ·simp[f7,ai,D.vs]
     ·rw[sS (by simp;omega)];simp
     ·simp[au,e0]
     ·simp[au,e2]
     ·simp[au,e4]
     ·simp[au,e6]
     ·simp[au,e7]
   ·have h0i:¬(0:Int)<m:=by omega
    simp -implicitDefEqProofs [x86l8_w,f7,e0,e2,e4,e7,e8,aa,hlt,hdi,h0,h0i];exact hexit (fun h=>h0 h.2.2) _ (by simp[au,e6]) (by simp[au,e7]) _
  ·have hdi:¬(1:Int)<deep:=by omega
   simp -implicitDefEqProofs [x86l8_w,f7,e0,e2,e4,e7,e8,aa,hlt,hdi];exact hexit (fun h=>hd h.2.1) _ (by simp[au,e6]) (by simp[au,e7]) _
 ·have hlt:¬(out.length:Int)<l.length:=by omega
  simp -implicitDefEqProofs [x86l8_w,f7,e0,e2,e4,e7,e8,aa,hlt];exact hexit (fun h=>hm h.1) _ (by simp[au,e6]) (by simp[au,e7]) _
theorem GL:∀(d:D) (left deep n:Nat) (a b:O),O.low 3 a=true→O.low 3 b=true→0<left→left<1099511627776→0<deep→deep<1099511627776→left+deep+1≤n →
  call X E n 86 [.ref 2 0,d.v,.c (.int .i64 deep)] [a,b,.cells [.c (.int .i64 left)]]=some ((d.cut left deep).1.v,[a,b,.cells [.c (.int .i64 (d.cut left deep).2)]]):=by
 refine D.ind fun k n t l ih=>?_
 intro left deep nn a b ha hb h0 hleft hd0 hdeep hn;obtain⟨m,rfl⟩:∃m',nn=m'+1:=⟨nn-1,by omega⟩
 have hE:E 86=none:=rfl;have hX:X 86=some x86:=rfl;simp only[call,hE,hX];refine fg (by kernel_rfl) rfl rfl (cq ?_);have hw:IntKind.i64.wrap ((left:Int)-1)=(left-1:Nat):=by rw[aH (by omega)];omega
 have hmin:(if (42:Int)<t.size then (42:Int) else t.size)=(min t.size 42:Nat):=by split<;>omega
 simp -implicitDefEqProofs [x86_w,x86_r,D.vw2,D.v,hw,hmin];have hcut:(D.mk k n t l).cut left deep=(.mk k n (Du t) (D.cuts l (left-1) deep).1,(D.cuts l (left-1) deep).2):=by simp only[D.cut]
 refine⟨by omega,j5 (I62 a b (.cells [.c (.int .i64 0),.c (.int .i64 0),.c (.string ⟨#[]⟩),.sl [] .nil]) l k n t (left-1) deep) (left-1) (by omega)
  ⟨⟨[],[],.nil,by simp,?_,by simp,rfl,.inl ⟨rfl,rfl⟩⟩,?_,?_,?_,?_,?_,rfl⟩ ?_⟩
 ·simp[au]
 ·simp[au,dR]
 ·simp[au,dR]
 ·simp[au]
 ·simp[au]
 ·simp[au]
 ·refine DY ha hb (by omega) hdeep (fun x hx left' h1 h2 h3=>ih x hx left' (deep-1) m a b ha hb h1 (by omega) (by omega) (by omega) (by omega)) fun s si rest hh h6 h7 hbs=>?_
  obtain⟨e,h,base,rb⟩:=s;simp only at hh h6 h7 hbs;subst hh hbs;have hlow:=D.low 3 (.mk k n (Du t) (D.cuts l (left-1) deep).1);simp only[D.v] at hlow;simp -implicitDefEqProofs [x86_r,f7,h6,h7,hcut,D.v,hlow,ha,hb,bu,V.lows]
theorem Hf (d:D) (left deep n:Nat) (h0:0<left) (hleft:left<1099511627776) (hd0:0<deep) (hdeep:deep<1099511627776) (hn:left+deep+1≤n):bg (n+1) 32 [d.v,.c (.int .i64 left),.c (.int .i64 deep)] (d.cut left deep).1.v:=by
 refine aA rfl rfl rfl (by kernel_rfl) ⟨rfl,rfl⟩ (by simp[D.vw2,V.lows,D.low,Cs,V.low]) ?_;have hc:=GL d left deep n (.cells d.v.cells) (.cells [.c (.int .i64 0),.c (.int .i64 0),.c (.string ⟨#[]⟩),.sl [] .nil]) (aq 3 d) (by simp[bu,V.lows,V.low,SI.low]) h0 hleft hd0 hdeep hn;simp -implicitDefEqProofs [x32_w,x32_r,D.vw2,D.okc,D.rd,ab,ae,hc,D.vw,D.low]
theorem Gl (d:D) (n:Nat) (hn:4022≤n):bg (n+1) 8 [d.v] (d.cut 3000 1005).1.v:=by
 obtain⟨m,rfl⟩:∃m',n=m'+1:=⟨n-1,by omega⟩
 refine aA rfl rfl rfl (by kernel_rfl) ⟨rfl,rfl⟩ (by simp[D.vw2,V.lows,D.low]) ?_;have hc:∀h,call X E (m+1) 32 [d.v,.c (.int .i64 3000),.c (.int .i64 1005)] h=some ((d.cut 3000 1005).1.v,h):=Hf d 3000 1005 m (by omega) (by omega) (by omega) (by omega) (by omega);simp -implicitDefEqProofs [x8_w,x8_r,D.vw2,D.okc,D.rd,ab,ae,hc,D.vw,D.low]
mutual
theorem D.cut_sz:∀(d:D) (left deep:Nat),0<left→(d.cut left deep).1.sz+(d.cut left deep).2=left
 | .mk k n t l,left,deep,h=>by
  simp only[D.cut,D.sz];have:=D.cuts_sz l (left-1) deep;omega
theorem D.cuts_sz:∀(l:List D) (left deep:Nat),D.szs (D.cuts l left deep).1+(D.cuts l left deep).2=left
 | [],left,deep=>by simp[D.cuts,D.szs]
 | d::l,left,deep=>by
  simp only[D.cuts];split
  ·rename_i h;have h1:=D.cut_sz d left (deep-1) h.2;have h2:=D.cuts_sz l (d.cut left (deep-1)).2 deep;simp only[D.szs];omega
  ·simp[D.szs]
end
theorem D.cut_small (d:D) (left deep:Nat) (h:0<left):(d.cut left deep).1.sz≤left:=by have:=D.cut_sz d left deep h;omega
theorem py (a b:ByteArray):eqS a b=decide (a=b):=by
 rw[Bool.eq_iff_iff];simp only[eqS,beq_iff_eq,dT,ByteArray.toList_eq];constructor
 ·intro h;obtain⟨⟨a⟩⟩:=a;obtain⟨⟨b⟩⟩:=b;simp only at h;rw[h]
 ·intro h;rw[h]
def wds:List ByteArray:=[⟨#[113,117,111,116,101]⟩,⟨#[105,102]⟩,⟨#[108,101,116]⟩,⟨#[99,97,108,108]⟩,⟨#[99,111,110,115,116]⟩,⟨#[118,97,114]⟩,⟨#[97,114,103]⟩,⟨#[112,114,105,109]⟩,⟨#[110,97,109,101]⟩,⟨#[108,105,102,116]⟩,⟨#[115,105,102]⟩,⟨#[100,105,102]⟩,⟨#[115,108,101,116]⟩,⟨#[100,108,101,116]⟩,⟨#[100,112,114,105,109]⟩,⟨#[100,99,97,108,108]⟩,⟨#[102,110]⟩,⟨#[114,101,99]⟩,⟨#[115,101,113]⟩,⟨#[117,112]⟩,⟨#[43]⟩,⟨#[45]⟩,⟨#[42]⟩,⟨#[113,117,111,116]⟩,⟨#[114,101,109]⟩,⟨#[60]⟩,⟨#[61]⟩,⟨#[99,111,110,115]⟩,⟨#[102,105,114,115,116]⟩,⟨#[114,101,115,116]⟩,⟨#[99,111,117,110,116]⟩,⟨#[108,105,115,116,63]⟩,⟨#[110,117,109,63]⟩,⟨#[115,121,109,63]⟩,⟨#[109,97,114,107]⟩,⟨#[115,116,111,112]⟩]
def wnF:List ByteArray→ByteArray→Nat→Nat
 | [],_,_=>99
 | w::r,t,k=>if t=w then k else wnF r t (k+1)
def wn (t:ByteArray):Nat:=wnF wds t 0
theorem AY:∀(l:List ByteArray) (t:ByteArray) (k:Nat),k+l.length≤99→k≤wnF l t k
 | [],t,k,h=>by simp[wnF] at h ⊢;omega
 | w::r,t,k,h=>by
  unfold wnF;simp only[lC] at h;split
  ·exact nL _
  ·have:=AY r t (k+1) (by omega);omega
theorem AC:∀(l:List ByteArray) (t:ByteArray) (k i:Nat),l.Pairwise (· ≠ ·)→k+l.length≤99→(h:i<l.length)→(t=l[i]↔wnF l t k=k+i)
 | w::r,t,k,0,hp,hl,h=>by
  simp only[List.getElem_cons_zero,wnF];by_cases ht:t=w
  ·simp[ht]
  ·simp only[ht,if_false,false_iff];have:=AY r t (k+1) (by simp only[lC] at hl;omega);omega
 | w::r,t,k,i+1,hp,hl,h=>by
  simp only[List.getElem_cons_succ,wnF];simp only[lC] at hl h;obtain⟨hp1,hp2⟩:=List.pairwise_cons.1 hp;have ih:=AC r t (k+1) i hp2 (by omega) (by omega);by_cases ht:t=w
  ·have hne:¬t=r[i]:=by rw[ht];exact hp1 _ (List.getElem_mem _)
   simp only[ht,if_true];rw[ht] at hne;constructor
   ·intro e;exact absurd e hne
   ·intro e;omega
  ·simp only[ht,if_false];rw[ih];omega
theorem FE:wds.Pairwise (· ≠ ·):=by decide
theorem kJ (t:ByteArray) (i:Nat) (h:i<wds.length):t=wds[i]↔wn t=i:=by
 have:=AC wds t 0 i FE (by decide) h;simpa[wn] using this
theorem ch (t:ByteArray) (i:Nat) (h:i<wds.length):eqS t wds[i]=(wn t==i):=by
 rw[py,Bool.eq_iff_iff,dT,beq_iff_eq];exact kJ t i h
theorem bA (a b:ByteArray):eqS a b=eqS b a:=by
 rw[py,py,Bool.eq_iff_iff,dT,dT];exact eq_comm
theorem HZ (t:ByteArray):(t=⟨#[113,117,111,116,101]⟩)=(wn t=0):=propext (kJ t 0 (by decide))
theorem HR (t:ByteArray):yD .eql t ⟨#[113,117,111,116,101]⟩=some (.c (.bool (wn t==0))):=by rw[dH];exact congrArg _ (congrArg _ (congrArg _ (ch t 0 (by decide))))
theorem HW (t:ByteArray):(t=⟨#[105,102]⟩)=(wn t=1):=propext (kJ t 1 (by decide))
theorem HB (t:ByteArray):yD .eql t ⟨#[105,102]⟩=some (.c (.bool (wn t==1))):=by rw[dH];exact congrArg _ (congrArg _ (congrArg _ (ch t 1 (by decide))))
theorem HF (t:ByteArray):(t=⟨#[108,101,116]⟩)=(wn t=2):=propext (kJ t 2 (by decide))
theorem HG (t:ByteArray):yD .eql t ⟨#[108,101,116]⟩=some (.c (.bool (wn t==2))):=by rw[dH];exact congrArg _ (congrArg _ (congrArg _ (ch t 2 (by decide))))
theorem HM (t:ByteArray):(t=⟨#[99,97,108,108]⟩)=(wn t=3):=propext (kJ t 3 (by decide))
theorem If (t:ByteArray):yD .eql t ⟨#[99,97,108,108]⟩=some (.c (.bool (wn t==3))):=by rw[dH];exact congrArg _ (congrArg _ (congrArg _ (ch t 3 (by decide))))
theorem GR (t:ByteArray):(t=⟨#[102,110]⟩)=(wn t=16):=propext (kJ t 16 (by decide))
theorem Hg (t:ByteArray):(t=⟨#[114,101,99]⟩)=(wn t=17):=propext (kJ t 17 (by decide))
theorem G7 (t:ByteArray):(t=⟨#[115,101,113]⟩)=(wn t=18):=propext (kJ t 18 (by decide))
theorem Gs (t:ByteArray):(t=⟨#[117,112]⟩)=(wn t=19):=propext (kJ t 19 (by decide))
attribute [simp] HR HB HG If
@[simp] theorem FQ (cf:av) (b:Bool) (op:XOp) (s:SF):ga cf az b op s=some (az,s.h):=by cases b<;>rfl
theorem pa {n f k:Nat}{xf:XF}{args:List V}{r:V}{h:List O}(hE:E f=none) (hX:X f=some xf) (hk:args.length=k) (hx:sH xf k=true) (hp:xf.pure=false∧xf.esc=false) (hr:r.low h.length=true) (hh:bh h)
  (hw:wpk (call X E n) n xf.body [] (Fin (fun vs s=>(bk vs).vw=r∧s.take h.length=h) xf) ⟨dR (args.map V.vw2),h,h.length,0⟩) (ha:xf.asg=none:=by rfl):call X E (n+1) f args h=some (r,h):=by
 simp only[call,hE,hX,ha];subst hk;refine fg hx hp.1 hp.2 (dt _ (fun e s hq=>?_) (cq hw));cases e with
 | exit id=>exact hq
 | normal=>exact cn (fun vs hv=>⟨hv.1,hr,hv.2,hh⟩) hq
 | ret=>exact cn (fun vs hv=>⟨hv.1,hr,hv.2,hh⟩) hq
theorem sq {n f k:Nat}{xf:XF}{args:List V}{r:V}(hE:E f=none) (hX:X f=some xf) (hk:args.length=k) (hx:sH xf k=true) (hp:xf.pure=true∧xf.esc=false) (hl:V.lows 0 (args.map V.vw2)=true)
  (hw:wpk (call X E n) n xf.body [] (Fin (fun vs s=>(bk vs).vw.low 0=false∧fV 0 s n (bk vs).vw=some r∧r.low 0=true) xf) ⟨dR (args.map V.vw2),[],0,0⟩) (ha:xf.asg=none:=by rfl):bg (n+1) f args r:=by
 intro h;simp only[call,hE,hX,ha];subst hk;have:=fk (cf:=call X E n) (n:=n) (xf:=xf) (args:=args.map V.vw2) (h:=[]) (by simpa using hx) (cq hw);obtain⟨e,s,vs,h1,h2,h3,h4,h5,h6,h7⟩:=this;unfold fE;rw[if_pos hp.1,if_pos hl,if_neg (by simp[hp.2]),h1];simp only[List.length_nil] at h4;cases e with
 | exit id=>exact absurd rfl (h2 id)
 | normal=>simp[fin,h3,h5,h6,h4,h7]
 | ret=>simp[fin,h3,h5,h6,h4,h7]
def D.tx:D→ByteArray|.mk _ _ t _=>t
def D.kd:D→Int|.mk k _ _ _=>k
def D.nu:D→Int|.mk _ i _ _=>i
def D.z0:D:=.mk 0 0 ⟨#[]⟩ []
def D.kid (d:D) (j:Nat):D:=d.kids.getD j .z0
def rsv (t:ByteArray):Bool:=wn t==3||(wn t==16||(wn t==1||(wn t==2||(wn t==0||(wn t==17||(wn t==18||wn t==19))))))
def D.nm (d:D):Bool:=d.kd==2 && !rsv d.tx
def D.lab (d:D):Bool:=if d.kd=1 then decide (0≤d.nu)&&decide (d.nu≤2147483647) else d.nm
theorem Eg (a b:ByteArray):cS none (.string a) (.string b)=some (decide (a=b)):=rfl
theorem rJ (t:ByteArray) (h:List O):jU (.fmp [.string ⟨#[99,97,108,108]⟩,.string ⟨#[102,110]⟩,.string ⟨#[105,102]⟩,.string ⟨#[108,101,116]⟩,.string ⟨#[113,117,111,116,101]⟩,.string ⟨#[114,101,99]⟩,.string ⟨#[115,101,113]⟩,.string ⟨#[117,112]⟩] [.c (.bool true),.c (.bool true),.c (.bool true),.c (.bool true),.c (.bool true),.c (.bool true),.c (.bool true),.c (.bool true)]) none (.c (.string t)) (.c (.bool false)) false h=some (.c (.bool (rsv t)),h):=by
 simp only[fZ,qu,cY,eT,Eg,HM,GR,HW,HF,HZ,Hg,G7,Gs,rsv];generalize wn t=w;by_cases h3:w=3
 ·simp[h3,l7]
 by_cases h16:w=16
 ·simp[h16,l7]
 by_cases h1:w=1
 ·simp[h1,l7]
 by_cases h2:w=2
 ·simp[h2,l7]
 by_cases h0:w=0
 ·simp[h0,l7]
 by_cases h17:w=17
 ·simp[h17,l7]
 by_cases h18:w=18
 ·simp[h18,l7]
 by_cases h19:w=19
 ·simp[h19,l7]
 simp[h3,h16,h1,h2,h0,h17,h18,h19,l7]
theorem Dr (d:D){n:Nat}:bg (n+1) 115 [d.v] (.c (.bool d.nm)):=by
 obtain⟨k,i,t,l⟩:=d;refine aA rfl rfl rfl (by kernel_rfl) ⟨rfl,rfl⟩ (by simp[D.vw2,V.lows,D.low]) ?_;by_cases hk:k=2
 ·subst hk;simp -implicitDefEqProofs [-fZ,x115_w,x115_r,D.vw2,D.v,rJ,D.nm,D.kd,D.tx]
 ·have:(k==2)=false:=by simp[hk]
  simp -implicitDefEqProofs [-fZ,x115_w,x115_r,D.vw2,D.v,rJ,this,D.nm,D.kd,D.tx]
theorem EX (d:D){n:Nat}:bg (n+2) 106 [d.v] (.c (.bool d.lab)):=by
 have c115:∀h,call X E (n+1) 115 [d.v] h=some (.c (.bool d.nm),h):=Dr d;refine aA rfl rfl rfl (by kernel_rfl) ⟨rfl,rfl⟩ (by simp[D.vw2,V.lows,D.low]) ?_;generalize call X E (n+1)=cf at *;obtain⟨k,i,t,l⟩:=d;by_cases hk:k=1
 ·subst hk;by_cases h0:0≤i
  ·simp -implicitDefEqProofs [x106_w,x106_r,D.vw2,D.v,D.lab,D.kd,D.nu,h0]
   try rfl
  ·simp -implicitDefEqProofs [x106_w,x106_r,D.vw2,D.v,D.lab,D.kd,D.nu,h0]
   try rfl
 ·have hb:(k==1)=false:=by simp[hk]
  have hl:(D.mk k i t l).lab=(D.mk k i t l).nm:=by simp[D.lab,D.kd,hk]
  rw[hl];generalize (D.mk k i t l).nm=b at *;simp only[D.v] at c115;simp -implicitDefEqProofs [x106_w,x106_r,D.vw2,D.v,hb,c115]
def fix {α:Type}(p:α→Bool):List α→Nat→Int
 | [],_ => -1
 | x::l,i=>if p x=true then i else fix p l (i+1)
theorem wJ {α:Type}(p:α→Bool):∀(l:List α) (i:Nat),decide (fix p l i≥0)=l.any p
 | [],i=>rfl
 | x::l,i=>by
  rw[List.any_cons,fix];by_cases h:p x=true
  ·simp[h]
  ·have h':p x=false:=by simpa using h
   simp only[h',Bool.false_eq_true,if_false,Bool.false_or];exact wJ p l (i+1)
theorem zE {α:Type}(p:α→Bool){l:List α}{j:Nat}(h:j<l.length):fix p (l.drop j) j=if p l[j]=true then (j:Int) else fix p (l.drop (j+1)) (j+1):=by
 rw[dC h,fix]
def Grows (z:Nat) (us:List V) (si:SI) (h:List O):Prop:=(us=[]∧(si=.nil∨si=.full))∨∃q,si=.tok q∧h[q]?=some (.tok us.length z)
def Keeps (h h':List O):Prop:=∀(id:Nat) (cs:List V),h[id]?=some (O.cells cs)→h'[id]?=some (O.cells cs)
theorem Keeps.rfl' (h:List O):Keeps h h:=fun _ _ e=>e
theorem Keeps.set {h:List O}{i:Nat}(o:O) (hi:∀cs,h[i]?≠some (O.cells cs)):Keeps h (h.set i o):=fun id cs e=>by
 rw[sN]
 ·exact e
 ·rintro rfl;exact hi cs e
theorem Grows.app {z:Nat}{us:List V}{si:SI}{h:List O}(hG:Grows z us si h) (pre:List O):Grows z us si (h++pre):=by
 rcases hG with h1|⟨q,h1,h2⟩
 ·exact .inl h1
 ·exact .inr ⟨q,h1,by rw[aL (gS.1 h2).1];exact h2⟩
theorem Grows.nil (z:Nat) (h:List O):Grows z [] .nil h:=.inl ⟨rfl,.inl rfl⟩
theorem Grows.full (z:Nat) (h:List O):Grows z [] .full h:=.inl ⟨rfl,.inr rfl⟩
theorem Bi {us:List V}{si:SI}{ws:List V}{al b:Nat}{zz:Option Nat}{h:List O}(hG:Grows (zc zz) us si h) (hd:h[al]?=some .dead∨h[al]?=some .want) :
  ∃si' h',iu 0 al b zz false h us si ws=some (.sl (us++ws) si',h')∧Grows (zc zz) (us++ws) si' h'∧h'.length=h.length∧Keeps h h'∧(∀m,(∀q,si=.tok q→m≤q)→m≤al→h'.take m=h.take m∧∀q,si'=.tok q→m≤q):=by
 cases ws with
 | nil=>exact⟨si,h,by rw[ek,List.append_nil],by rw[List.append_nil];exact hG,rfl,.rfl' h,fun m h1 h2=>⟨rfl,h1⟩⟩
 | cons w ws =>
  rcases hG with⟨rfl,hsi⟩|⟨q,rfl,hq⟩
  ·have hl:al<h.length:=by rcases hd with hd|hd<;>exact (gS.1 hd).1
   refine⟨.tok al,h.set al (.tok (([]:List V).length+(w::ws).length) (zc zz)),?_,.inr ⟨al,rfl,?_⟩,by simp,.set _ fun cs e=>?_,fun m h1 h2=>⟨?_,fun q e=>?_⟩⟩
   ·rcases hsi with rfl|rfl<;>rcases hd with hd|hd
    ·exact iy 0 al b zz h [] ws w hd
    ·exact gj 0 al b zz h [] ws w hd
    ·exact ez 0 al b zz h [] ws w hd
    ·exact eQ 0 al b zz h [] ws w hd
   ·rw[sS hl];simp
   ·rcases hd with hd|hd<;>rw[hd] at e<;>cases e
   ·exact List.take_set_of_le h2
   ·cases e;exact h2
  ·have hl:q<h.length:=(gS.1 hq).1;refine⟨.tok q,h.set q (.tok (us.length+(w::ws).length) (zc zz)),gc 0 al b q zz false h us ws w hq,.inr ⟨q,rfl,?_⟩,by simp,.set _ fun cs e=>?_,fun m h1 h2=>⟨?_,fun q' e=>?_⟩⟩
   ·rw[sS hl];simp
   ·rw[hq] at e;cases e
   ·exact List.take_set_of_le (h1 q rfl)
   ·cases e;exact h1 q rfl
theorem qt {cf:av}{n:Nat}{K:List Fr}{Q:Ex→SF→Prop}{s:SF}{us:List V}{si:SI}{ws:List V}{al b:Nat}{zz:Option Nat}{h:List O}{d:Option Nat}{r:List XOper}(hG:Grows (zc zz) us si h) (hd:h[al]?=some .dead∨h[al]?=some .want)
  (hq:∀si' h',Grows (zc zz) (us++ws) si' h'→h'.length=h.length→Keeps h h'→(∀m,(∀q,si=.tok q→m≤q)→m≤al→h'.take m=h.take m∧∀q,si'=.tok q→m≤q)→rM cf n r K Q ⟨pC s.e d (.sl (us++ws) si'),h',s.base,s.rb⟩):gvk cf n (iu 0 al b zz false h us si ws) d r K Q s:=by
 obtain⟨si',h',h1,h2,h3,h4,h5⟩:=Bi (b:=b) (ws:=ws) hG hd;rw[h1,cJ];exact hq si' h' h2 h3 h4 h5
theorem nH (h:List O) (x y z:O):(h++[x,y,z])[h.length+2]?=some z:=by
 rw[aR (by omega)];simp
theorem co {h:List O}{i:Nat}{o:O}(h0:h[i]?=some o) (pre:List O):(h++pre)[i]?=some o:=by
 rw[aL (gS.1 h0).1];exact h0
def ss (l:List ByteArray):List V:=l.map fun s=>.c (.string s)
theorem eY (l:List ByteArray):(ss l).length=l.length:=by simp[ss]
theorem jZ (m:Nat) (l:List ByteArray):V.lows m (ss l)=true:=b7 fun v hv=>by
 obtain⟨s,_,rfl⟩:=List.mem_map.1 hv;rfl
theorem zy (l:List ByteArray):Ab.hz 1 (ss l)=true:=by cases l<;>rfl
theorem A6 (a b:List ByteArray):ss (a++b)=ss a++ss b:=by simp[ss]
theorem B4 {l:List ByteArray}{j:Nat}(h:j<(ss l).length):(ss l)[j]=.c (.string (l[j]'(by rwa [eY] at h))):=by simp[ss]
def inB (l:List ByteArray) (t:ByteArray):Bool:=l.any fun a=>eqS t a
theorem F1 (l:List ByteArray) (i:SI) (t:ByteArray){n:Nat}(hn:l.length<n) (hl:l.length<1099511627776):bg (n+1) 157 [.sl (ss l) i,.c (.string t)] (.c (.int .i64 (fix (fun a=>eqS t a) l 0))):=by
 refine aA rfl rfl rfl (by kernel_rfl) ⟨rfl,rfl⟩ (by simp[aM,V.lows,V.low,jZ,SI.low]) ?_;generalize call X E n=cf at *;have hsl:=eY l;simp -implicitDefEqProofs [x157_w,hsl];obtain⟨J,hJ⟩:∃J:Nat→SF→Prop,J=fun k s=>∃j,j+k=l.length∧s.e 8=.c (.int .i64 j)∧fix (fun a=>eqS t a) l 0=fix (fun a=>eqS t a) (l.drop j) j:=⟨_,rfl⟩
 refine bn J l.length hn (by rw[hJ];exact⟨0,by simp,by simp[au],by simp⟩) ?_;rintro k ⟨e,h,base,rb⟩ hj he hb;rw[hJ] at hj;obtain⟨j,hj,e8,hfx⟩:=hj;have e0:=he 0 rfl;have e1:=he 1 rfl;have e7:=he 7 rfl;simp[au,dR] at e0 e1 e7 hb;simp only at e8;subst hb;by_cases hm:j<l.length
 ·have hlt:(j:Int)<l.length:=by omega
  have hw:IntKind.i64.wrap ((j:Int)+1)=(j:Int)+1:=aH (by omega);have hvg:(ss l)[j]'(by omega)=.c (.string l[j]):=B4 _;rw[zE _ hm] at hfx;cases hp:eqS t l[j] with
  | true =>
   rw[hp] at hfx;generalize l[j]=x at *;simp -implicitDefEqProofs [x157l8_w,x157_r,e0,e1,e7,e8,hsl,hvg,hlt,hm,dH,hp,hfx]
  | false =>
   rw[hp] at hfx;generalize l[j]=x at *;simp -implicitDefEqProofs [x157l8_w,e0,e1,e7,e8,hsl,hvg,hlt,hm,dH,hp];refine⟨k-1,by omega,?_⟩;rw[hJ];exact⟨j+1,by omega,by simp[au,hw],by simpa using hfx⟩
 ·have hlt:¬(j:Int)<l.length:=by omega
  obtain rfl:j=l.length:=by omega
  have hfx:fix (fun a=>eqS t a) l 0 = -1:=by rw[hfx,List.drop_length,fix]
  simp -implicitDefEqProofs [x157l8_w,x157_r,e0,e1,e7,e8,hfx]
theorem EL (l:List ByteArray) (i:SI) (t:ByteArray){n:Nat}(hn:l.length<n) (hl:l.length<1099511627776):bg (n+2) 110 [.sl (ss l) i,.c (.string t)] (.c (.bool (inB l t))):=by
 have c1:∀h,call X E (n+1) 157 [.sl (ss l) .any,.c (.string t)] h=some (.c (.int .i64 (fix (fun a=>eqS t a) l 0)),h):=F1 l .any t hn hl;have ha:=wJ (fun a=>eqS t a) l 0;refine aA rfl rfl rfl (by kernel_rfl) ⟨rfl,rfl⟩ (by simp[aM,V.lows,V.low,jZ,SI.low]) ?_;generalize call X E (n+1)=cf at *;have hin:inB l t=l.any (fun a=>eqS t a):=rfl;rw[hin];generalize ss l=U at *;simp -implicitDefEqProofs [x110_w,x110_r,aM,c1,ha]
def arN (w:Nat):Int:=if 20≤w∧w≤27∨w=34 then 2 else if 28≤w∧w≤33∨w=35 then 1 else 0
def arB (w:Nat):Bool:=decide (20≤w∧w≤35)
def D.els (d:D) (n:Nat) (more:Bool):Bool:=d.kd==3&&(decide (n≤d.kids.length)&&(more||decide (d.kids.length≤n)))
theorem HS (d:D) (k:Nat) (more:Bool){n:Nat}:bg (n+1) 47 [d.v,.c (.int .i64 k),.c (.bool more)] (if d.els k more=true then .sl (D.vs d.kids) .any else .sl [] .nil):=by
 obtain⟨kd,i,t,l⟩:=d;have hsl:=aa l;have hlow:=D.lows 0 l;have hr:(if (D.mk kd i t l).els k more=true then V.sl (D.vs l) .any else .sl [] .nil).low 0=true:=by
  split<;>simp[V.low,V.lows,SI.low,hlow]
 refine aA rfl rfl rfl (by kernel_rfl) ⟨rfl,rfl⟩ (by simp[D.vw2,V.lows,D.low,V.low]) ?_;simp only[D.kids];by_cases hk:kd=3
 ·subst hk;by_cases h1:l.length<k
  ·have h1i:(l.length:Int)<k:=by omega
   have hd:decide (k≤l.length)=false:=decide_eq_false (by omega);have he:(D.mk 3 i t l).els k more=false:=by show ((3:Int)==3&&(decide (k≤l.length)&&(more||decide (l.length≤k))))=false;rw[hd];rfl
   rw[he] at hr ⊢;simp -implicitDefEqProofs [x47_w,x47_r,D.vw2,D.v,hsl,h1i];simp[V.low,V.lows,SI.low]
  ·have h1i:¬(l.length:Int)<k:=by omega
   cases more with
   | true =>
    have hd:decide (k≤l.length)=true:=decide_eq_true (by omega);have he:(D.mk 3 i t l).els k true=true:=by show ((3:Int)==3&&(decide (k≤l.length)&&(true||decide (l.length≤k))))=true;rw[hd];rfl
    rw[he] at hr ⊢;simp -implicitDefEqProofs [x47_w,x47_r,D.vw2,D.v,hsl,h1i];simpa using hr
   | false =>
    by_cases h2:k<l.length
    ·have h2i:(l.length:Int) > k:=by omega
     have h2j:(k:Int)<l.length:=by omega
     have hd:decide (l.length≤k)=false:=decide_eq_false (by omega);have he:(D.mk 3 i t l).els k false=false:=by show ((3:Int)==3&&(decide (k≤l.length)&&(false||decide (l.length≤k))))=false;rw[hd];cases decide (k≤l.length)<;>rfl
     rw[he] at hr ⊢;simp -implicitDefEqProofs [x47_w,x47_r,D.vw2,D.v,hsl,h1i,h2i,h2j];simp[V.low,V.lows,SI.low]
    ·have h2i:¬(l.length:Int) > k:=by omega
     have h2j:¬(k:Int)<l.length:=by omega
     have hd:decide (l.length≤k)=true:=decide_eq_true (by omega);have hd2:decide (k≤l.length)=true:=decide_eq_true (by omega);have he:(D.mk 3 i t l).els k false=true:=by show ((3:Int)==3&&(decide (k≤l.length)&&(false||decide (l.length≤k))))=true;rw[hd,hd2];rfl
     rw[he] at hr ⊢;simp -implicitDefEqProofs [x47_w,x47_r,D.vw2,D.v,hsl,h1i,h2i,h2j];simpa using hr
 ·have hb:(kd != 3)=true:=by simp[hk]
  have he:(D.mk kd i t l).els k more=false:=by simp[D.els,D.kd,hk]
  rw[he] at hr ⊢;simp -implicitDefEqProofs [x47_w,x47_r,D.vw2,D.v,hb];simp[V.low,V.lows,SI.low]
def slows:List ByteArray:=[⟨#[110,97,109,101]⟩,⟨#[108,105,102,116]⟩,⟨#[115,105,102]⟩,⟨#[100,105,102]⟩,⟨#[115,108,101,116]⟩,⟨#[100,108,101,116]⟩,⟨#[100,112,114,105,109]⟩,⟨#[100,99,97,108,108]⟩]
def D.key (d:D):V:=.agg [.c (.int .i64 d.nu),.c (.string d.tx)]
theorem Ht (d:D){n:Nat}:bg (n+1) 89 [d.v] d.key:=by
 obtain⟨k,i,t,l⟩:=d;refine aA rfl rfl rfl (by kernel_rfl) ⟨rfl,rfl⟩ (by simp[D.vw2,V.lows,D.low]) ?_;simp -implicitDefEqProofs [x89_w,x89_r,D.vw2,D.v,D.key,D.nu,D.tx,V.low,V.lows]
theorem jJ {cf:av}{s:SF}(z:Nat) (x:A) (hi mx:A){us:List V}{i:SI}(hx:x.val s.e=.sl us i) (h1:idx (hi.val s.e)=some (us.length:Int)) (h2:idx (mx.val s.e)=some (us.length:Int)) (hz:Ab.hz z us=true) :
  bw cf s (.slice false z x none (some hi) (some mx))=some (.sl us .full,s.h):=by
 simp only[bw,XOp.sub,act,aB,bi,slV,Option.map_none,Option.map_some,hx,bc,h1,h2,Option.isSome_some];rw[if_pos ⟨trivial,by omega,by omega,trivial,by omega,hz⟩];simp
theorem D.rd0 (d:D):rdV d.v.cells 0 none=some (.c (.int .i64 d.kd)):=by obtain⟨k,i,t,l⟩:=d;rfl
theorem D.rd2 (d:D):rdV d.v.cells 2 none=some (.c (.string d.tx)):=by obtain⟨k,i,t,l⟩:=d;rfl
theorem D.rd3 (d:D):rdV d.v.cells 3 none=some (.sl (D.vs d.kids) .any):=by obtain⟨k,i,t,l⟩:=d;rfl
theorem ah {d:D}{j:Nat}(h:j<(D.vs d.kids).length):(D.vs d.kids)[j]=(d.kid j).v:=by
 have h':j<d.kids.length:=by rwa [aa] at h
 rw[ac,D.kid,List.getD_eq_getElem?_getD,gE h'];rfl
attribute [simp] D.vw2 D.okc ab D.rd D.rd0 D.rd2 D.rd3 ah aa D.low D.lows qq qC jn mG nH aM eY
def txs (l:List D):List ByteArray:=l.map D.tx
theorem gN (l:List D):(txs l).length=l.length:=by simp[txs]
theorem CJ (a b:List D):txs (a++b)=txs a++txs b:=by simp[txs]
def nmG (p:D→Bool):List ByteArray→List D→Bool
 | _,[]=>true
 | seen,d::l=>p d&&(!inB seen d.tx&&nmG p (seen++[d.tx]) l)
def D.nms (p:D→Bool) (d:D):Bool:=d.kd==3&&nmG p [] d.kids
theorem yU (p:D→Bool) (seen:List ByteArray){l:List D}{j:Nat}(h:j<l.length):nmG p seen (l.drop j)=(p l[j]&&(!inB seen (l[j]).tx&&nmG p (seen++[(l[j]).tx]) (l.drop (j+1)))):=by
 rw[dC h,nmG]
theorem qs {l:List D}{j:Nat}(h:j<l.length):txs (l.take (j+1))=txs (l.take j)++[(l[j]).tx]:=by
 rw[List.take_add_one,gE h,CJ];rfl
theorem D9 (d:D){n:Nat}(hn:d.kids.length+3<n) (hl:d.kids.length<1099511627776):bg (n+1) 107 [d.v] (.tup [.sl (ss (if d.nms D.nm=true then txs d.kids else [])) .any,.c (.bool (d.nms D.nm))]):=by
 obtain⟨n,rfl⟩:∃n',n=n'+2:=⟨n-2,by omega⟩
 have c115:∀(x:D) h,call X E (n+2) 115 [x.v] h=some (.c (.bool x.nm),h):=fun x=>Dr x
 have c110:∀(L:List ByteArray) i t h,L.length≤d.kids.length→call X E (n+2) 110 [.sl (ss L) i,.c (.string t)] h=some (.c (.bool (inB L t)),h):=fun L i t h hL=>EL L i t (by omega) (by omega) h
 refine aA rfl rfl rfl (by kernel_rfl) ⟨rfl,rfl⟩ (by simp[V.lows]) ?_;generalize hm:n+2=m at *;generalize call X E m=cf at *;by_cases hk:d.kd=3
 ·have hb:(d.kd != 3)=false:=by simp[hk]
  have hdn:d.nms D.nm=nmG D.nm [] d.kids:=by simp[D.nms,hk]
  rw[hdn];simp -implicitDefEqProofs [x107_w,hb];generalize d.kids=l at *;obtain⟨J,hJ⟩:∃J:Nat→SF→Prop,J=fun k s=>∃j si,j+k=l.length∧s.e 14=.c (.int .i64 j)∧s.e 4=.sl (ss (txs (l.take j))) si∧Grows 1 (ss (txs (l.take j))) si s.h∧nmG D.nm [] l=nmG D.nm (txs (l.take j)) (l.drop j):=⟨_,rfl⟩
  refine bn J l.length (by omega) (by rw[hJ];exact⟨0,.full,by simp,by simp[au],by simp[au,txs,ss],.full _ _,by simp[txs]⟩) ?_;rintro k ⟨e,h,base,rb⟩ hj he hb;rw[hJ] at hj;obtain⟨j,si,hj,e14,e4,hG,hfx⟩:=hj;have e12:=he 12 rfl;have e13:=he 13 rfl;simp[au,dR] at e12 e13 hb;simp only at e14 e4 hG;subst hb;by_cases hm:j<l.length
  ·have hlt:(j:Int)<l.length:=by omega
   have hw:IntKind.i64.wrap ((j:Int)+1)=(j:Int)+1:=aH (by omega);have hvg:(D.vs l)[j]'(by rw[aa];omega)=(l[j]).v:=ac _;have hL:(txs (l.take j)).length=j:=by rw[gN];simp;omega
   have c110x:∀i t h,cf 110 [.sl (ss (txs (l.take j))) i,.c (.string t)] h=some (.c (.bool (inB (txs (l.take j)) t)),h):=fun i t h=>c110 _ i t h (by omega)
   rw[yU _ _ hm] at hfx;have htk:=qs hm;have hz1:=zy (txs (l.take j));have hsl:=eY (txs (l.take j));rw[hL] at hsl;have hj1:(j+1)*16≤140737488355328:=by omega
   have hj2:j+1≤140737488355328:=by omega
   generalize txs (l.take j)=L at *;generalize l[j]=x at *;have c115x:=c115 x;cases hx:x.nm with
   | false =>
    rw[hx] at hfx c115x;simp only[Bool.false_and] at hfx;rw[hfx];simp -implicitDefEqProofs [x107l12_w,x107_r,e12,e13,e14,e4,hvg,hlt,hm,ae,c115x];simp[ss,V.low,V.lows,SI.low]
   | true =>
    rw[hx] at hfx c115x;have c110y:=fun i=>c110x i x.tx
    cases hi:inB L x.tx with
    | true =>
     rw[hi] at hfx c110y;simp only[Bool.true_and,Bool.not_true,Bool.false_and] at hfx;rw[hfx];simp -implicitDefEqProofs [x107l12_w,x107_r,e12,e13,e14,e4,hvg,hlt,hm,ae,c115x,c110y];simp[ss,V.low,V.lows,SI.low]
    | false =>
     rw[hi] at hfx c110y;simp only[Bool.true_and,Bool.not_false] at hfx;simp -implicitDefEqProofs [x107l12_w,e12,e13,e14,e4,hvg,hlt,hm,ae,c115x,c110y,hsl,hz1,hj1,hj2];refine qt (zz:=none) (hG.app _) (.inl ?_) fun si' h' hG' hl' hk hlw=>?_
     ·exact nH ..
     simp -implicitDefEqProofs [e14];refine⟨k-1,by omega,?_⟩;rw[hJ];refine⟨j+1,si',by omega,by simp[au,hw],?_,?_,?_⟩
     ·rw[htk];simp[au,A6,ss]
     ·rw[htk,A6];simpa[ss] using hG'
     ·rw[htk];exact hfx
  ·have hlt:¬(j:Int)<l.length:=by omega
   obtain rfl:j=l.length:=by omega
   have hfx:nmG D.nm [] l=true:=by rw[hfx,List.drop_length,nmG]
   rw[List.take_of_length_le (nL _)] at e4 hG;rw[hfx];simp -implicitDefEqProofs [x107l12_w,x107_r,e12,e13,e14,e4];simp[V.low,V.lows,SI.low,jZ]
 ·have hb:(d.kd != 3)=true:=by simp[hk]
  have hdn:d.nms D.nm=false:=by simp[D.nms,hk]
  rw[hdn];simp -implicitDefEqProofs [x107_w,x107_r,hb];simp[ss,V.low,V.lows,SI.low]
def prT:List (ByteArray × Int):=[(⟨#[43]⟩,2),(⟨#[45]⟩,2),(⟨#[42]⟩,2),(⟨#[113,117,111,116]⟩,2),(⟨#[114,101,109]⟩,2),(⟨#[60]⟩,2),(⟨#[61]⟩,2),(⟨#[99,111,110,115]⟩,2),(⟨#[102,105,114,115,116]⟩,1),(⟨#[114,101,115,116]⟩,1),(⟨#[99,111,117,110,116]⟩,1),(⟨#[108,105,115,116,63]⟩,1),(⟨#[110,117,109,63]⟩,1),(⟨#[115,121,109,63]⟩,1),(⟨#[109,97,114,107]⟩,2),(⟨#[115,116,111,112]⟩,1)]
def prV (l:List (ByteArray × Int)):List V:=l.map fun p=>.agg [.c (.string p.1),.c (.int .i64 p.2)]
theorem BF (l:List (ByteArray × Int)):(prV l).length=l.length:=by simp[prV]
def arL (t:ByteArray):List (ByteArray × Int)→V
 | []=>.tup [.c (.int .i64 0),.c (.bool false)]
 | p::l=>if eqS p.1 t=true then .tup [.c (.int .i64 p.2),.c (.bool true)] else arL t l
theorem tc (t:ByteArray):∀l,(arL t l).low 0=true
 | []=>rfl
 | p::l=>by
  unfold arL;split
  ·rfl
  ·exact tc t l
theorem Fy (t:ByteArray):arL t prT=.tup [.c (.int .i64 (arN (wn t))),.c (.bool (arB (wn t)))]:=by
 have q20:eqS ⟨#[43]⟩ t=(wn t==20):=by rw[bA];exact ch t 20 (by decide)
 have q21:eqS ⟨#[45]⟩ t=(wn t==21):=by rw[bA];exact ch t 21 (by decide)
 have q22:eqS ⟨#[42]⟩ t=(wn t==22):=by rw[bA];exact ch t 22 (by decide)
 have q23:eqS ⟨#[113,117,111,116]⟩ t=(wn t==23):=by rw[bA];exact ch t 23 (by decide)
 have q24:eqS ⟨#[114,101,109]⟩ t=(wn t==24):=by rw[bA];exact ch t 24 (by decide)
 have q25:eqS ⟨#[60]⟩ t=(wn t==25):=by rw[bA];exact ch t 25 (by decide)
 have q26:eqS ⟨#[61]⟩ t=(wn t==26):=by rw[bA];exact ch t 26 (by decide)
 have q27:eqS ⟨#[99,111,110,115]⟩ t=(wn t==27):=by rw[bA];exact ch t 27 (by decide)
 have q28:eqS ⟨#[102,105,114,115,116]⟩ t=(wn t==28):=by rw[bA];exact ch t 28 (by decide)
 have q29:eqS ⟨#[114,101,115,116]⟩ t=(wn t==29):=by rw[bA];exact ch t 29 (by decide)
 have q30:eqS ⟨#[99,111,117,110,116]⟩ t=(wn t==30):=by rw[bA];exact ch t 30 (by decide)
 have q31:eqS ⟨#[108,105,115,116,63]⟩ t=(wn t==31):=by rw[bA];exact ch t 31 (by decide)
 have q32:eqS ⟨#[110,117,109,63]⟩ t=(wn t==32):=by rw[bA];exact ch t 32 (by decide)
 have q33:eqS ⟨#[115,121,109,63]⟩ t=(wn t==33):=by rw[bA];exact ch t 33 (by decide)
 have q34:eqS ⟨#[109,97,114,107]⟩ t=(wn t==34):=by rw[bA];exact ch t 34 (by decide)
 have q35:eqS ⟨#[115,116,111,112]⟩ t=(wn t==35):=by rw[bA];exact ch t 35 (by decide)
 simp only[prT,arL,q20,q21,q22,q23,q24,q25,q26,q27,q28,q29,q30,q31,q32,q33,q34,q35];generalize wn t=w;by_cases h20:w=20
 ·subst h20;rfl
 by_cases h21:w=21
 ·subst h21;rfl
 by_cases h22:w=22
 ·subst h22;rfl
 by_cases h23:w=23
 ·subst h23;rfl
 by_cases h24:w=24
 ·subst h24;rfl
 by_cases h25:w=25
 ·subst h25;rfl
 by_cases h26:w=26
 ·subst h26;rfl
 by_cases h27:w=27
 ·subst h27;rfl
 by_cases h28:w=28
 ·subst h28;rfl
 by_cases h29:w=29
 ·subst h29;rfl
 by_cases h30:w=30
 ·subst h30;rfl
 by_cases h31:w=31
 ·subst h31;rfl
 by_cases h32:w=32
 ·subst h32;rfl
 by_cases h33:w=33
 ·subst h33;rfl
 by_cases h34:w=34
 ·subst h34;rfl
 by_cases h35:w=35
 ·subst h35;rfl
 simp only[beq_iff_eq,h20,h21,h22,h23,h24,h25,h26,h27,h28,h29,h30,h31,h32,h33,h34,h35,if_false];have h1:arN w=0:=by
  unfold arN;rw[if_neg (by omega),if_neg (by omega)]
 have h2:arB w=false:=by
  unfold arB;rw[decide_eq_false_iff_not];omega
 rw[h1,h2]
theorem x159r2_eq:x159r2=.reg [⟨(some 6),(.load none (.k (.ptr [.sl (prV prT) .any] 0))),none⟩,⟨(some 7),(.len false (.t 6)),none⟩,⟨(some 8),(.mv (.k (.c (.int .i64 0)))),none⟩] [] false:=rfl
theorem Gb (t:ByteArray){n:Nat}(hn:20<n):bg (n+1) 159 [.c (.string t)] (.tup [.c (.int .i64 (arN (wn t))),.c (.bool (arB (wn t)))]):=by
 rw[← Fy];have hlow:=tc t prT;refine aA rfl rfl rfl (by kernel_rfl) ⟨rfl,rfl⟩ (by simp[V.lows,V.low]) ?_;generalize call X E n=cf at *;have hpl:prT.length=16:=rfl;have hsl:=BF prT;rw[hpl] at hsl;have w2:=fun s K Q=>rK cf n s K Q x159r2 x159r2_eq
 generalize hl:prT=l at *;simp -implicitDefEqProofs [x159_w,w2,hsl];obtain⟨J,hJ⟩:∃J:Nat→SF→Prop,J=fun k s=>∃j,j+k=16∧s.e 8=.c (.int .i64 j)∧arL t l=arL t (l.drop j):=⟨_,rfl⟩
 refine bn J 16 (by omega) (by rw[hJ];exact⟨0,by simp,by simp[au],by simp⟩) ?_;rintro k ⟨e,h,base,rb⟩ hj he hb;rw[hJ] at hj;obtain⟨j,hj,e8,hfx⟩:=hj;have e0:=he 0 rfl;have e6:=he 6 rfl;have e7:=he 7 rfl;simp[au,dR] at e0 e6 e7 hb;simp only at e8;subst hb;by_cases hm:j<16
 ·have hlt:(j:Int)<16:=by omega
  have hw:IntKind.i64.wrap ((j:Int)+1)=(j:Int)+1:=aH (by omega);have hvg:(prV l)[j]'(by rw[hsl];omega)=.agg [.c (.string (l[j]'(by omega)).1),.c (.int .i64 (l[j]'(by omega)).2)]:=by simp[prV]
  rw[dC (by omega:j<l.length),arL] at hfx;generalize l[j]'(by omega)=p at *;cases hp:eqS p.1 t with
  | true =>
   rw[hp,if_pos rfl] at hfx;rw[hfx] at hlow ⊢;simp -implicitDefEqProofs [x159l8_w,x159_r,e0,e6,e7,e8,hsl,hvg,hlt,hm,dH,hp];simp[V.low,V.lows]
  | false =>
   rw[hp,if_neg (by simp)] at hfx;simp -implicitDefEqProofs [x159l8_w,e0,e6,e7,e8,hsl,hvg,hlt,hm,dH,hp];refine⟨k-1,by omega,?_⟩;rw[hJ];exact⟨j+1,by omega,by simp[au,hw],hfx⟩
 ·have hlt:¬(j:Int)<16:=by omega
  obtain rfl:j=16:=by omega
  have hfx:arL t l=.tup [.c (.int .i64 0),.c (.bool false)]:=by rw[hfx,List.drop_of_length_le (by omega),arL]
  rw[hfx];simp -implicitDefEqProofs [x159l8_w,x159_r,e0,e6,e7,e8];simp[V.low,V.lows]
theorem BY {cf:av}{n:Nat}{xf:XF}{args:List V}{h:List O}{P:List V→List O→Prop}(hx:sH xf args.length=true) (hp:xf.pure=false) (he:xf.esc=true)
  (hw:wpx cf n xf.body ⟨dR (args.map V.vwt),h,h.length,0⟩ (Fin P xf)):∃vs h',fE cf n xf args h=some ((bk vs).vwr,h')∧P vs h':=by
 have:=fk (cf:=cf) (n:=n) (xf:=xf) (args:=args.map V.vwt) (h:=h) (by simpa using hx) hw;obtain⟨e,s,vs,h1,h2,h3,h4,h5⟩:=this;refine⟨vs,s.h,?_,h5⟩;unfold fE;rw[if_neg (by simp[hp]),if_pos (show xf.esc=true from he),h1];cases e with
 | exit id=>exact absurd rfl (h2 id)
 | normal=>simp only[fin,h3,he,if_true]
 | ret=>simp only[fin,h3,he,if_true]
theorem tT (h:List O) (f:V→Option V):∀l:List D,(∀x∈l,bx 0 f h x.v=some x.v)→dI 0 f h (D.vs l)=some (D.vs l)
 | [],_=>by simp[D.vs,dI]
 | x::l,hx=>by
  simp only[D.vs,dI,hx x (by simp),tT h f l fun y hy=>hx y (by simp[hy])]
theorem EC (h:List O) (f:V→Option V):∀d:D,bx 0 f h d.v=some d.v:=by
 refine D.ind fun k i t l ih=>?_
 simp only[D.v,bx,dI,tT h f l ih,Option.map_some]
theorem Bp (l:List D) (k:Nat):(D.vs l).drop k=D.vs (l.drop k):=by rw[ar,ar,List.map_drop]
theorem BR (l:List D) (k:Nat):(D.vs l).take k=D.vs (l.take k):=by rw[ar,ar,List.map_take]
theorem Bu (l:List D):(D.vs l).tail=D.vs l.tail:=by rw[ar,ar,List.map_tail]
attribute [simp] Bp BR Bu
theorem bV (d:D):d.kids.length<d.sz:=by obtain⟨k,i,t,l⟩:=d;have:=aj l;simp only[D.kids,D.sz];omega
theorem Fn {d x:D}(h:x∈d.kids):x.sz<d.sz:=by obtain⟨k,i,t,l⟩:=d;have:=ak h;simp only[D.kids] at this;simp only[D.sz];omega
theorem Fm {d:D}{j:Nat}(h:j<d.kids.length):d.kids[j]=d.kid j:=by
 rw[D.kid,List.getD_eq_getElem?_getD,gE h];rfl
theorem bI {d:D}{j:Nat}(h:j<d.kids.length):d.kid j∈d.kids:=by
 rw[← Fm h];exact List.getElem_mem _
theorem D.low_cells (m:Nat) (d:D):V.lows m d.v.cells=true:=by
 have:=aq m d
 rwa [bu] at this
theorem cR {m f:Nat}{xf:XF}{args:List V}{h:List O}(hE:E f=none) (hX:X f=some xf) (ha:xf.asg=none):call X E (m+1) f args h=fE (call X E m) m xf args h:=by simp only[call,hE,hX,ha]
theorem iv {cf:av}{n:Nat}{xf:XF}{args:List V}{h:List O}{P:V→List O→Prop}(hx:sH xf args.length=true) (hp:xf.pure=true) (he:xf.esc=true) (hl:V.lows 0 (args.map V.vw2)=true)
  (hw:wpx cf n xf.body ⟨dR (args.map V.vw2),[],0,0⟩ (Fin (fun vs s=>P (bk vs).vwr s) xf)) (hr:xf.rw=false:=by rfl):∃v H,P v H∧fE cf n xf args h=some (v.shift h.length,h++H.map (O.shift h.length)):=by
 have:=fk (cf:=cf) (n:=n) (xf:=xf) (args:=args.map V.vw2) (h:=[]) (by simpa using hx) hw;obtain⟨e,s,vs,h1,h2,h3,h4,h5⟩:=this;refine⟨(bk vs).vwr,s.h,h5,?_⟩;unfold fE;rw[if_pos hp,if_pos hl,if_pos he,show Ce xf=[] by simp[Ce,hr],h1];cases e with
 | exit id=>exact absurd rfl (h2 id)
 | normal=>simp[fin,h3]
 | ret=>simp[fin,h3]
abbrev Sh:=List ((Int × ByteArray) × Nat × Nat × Bool)
def D.key2 (d:D):Int × ByteArray:=(d.nu,d.tx)
theorem fM (a b:Int) (s t:ByteArray):cS (some [0,1]) (.agg #[.int .i64 a,.string s]) (.agg #[.int .i64 b,.string t])=some (decide ((a,s)=(b,t))):=by
 simp only[cS,bO,ea,if_true];by_cases h1:a=b
 ·have:(a==b)=true:=by simp[h1]
  rw[this];by_cases h2:s=t
  ·simp[h1,h2]
  ·simp[h1,h2]
 ·have:(a==b)=false:=by simp[h1]
  rw[this];simp[h1]
theorem sf (d:D):l6 (some [0,1]) d.key=some (.agg #[.int .i64 d.nu,.string d.tx]):=by
 unfold D.key;rw[za [0,1] _ [.int .i64 d.nu,.string d.tx] rfl];simp[bO,ea]
def li (g:D→Int):List D→Int
 | []=>0
 | x::r=>if g x=0 then li g r else g x
theorem nD (g:D→Int){l:List D}{j:Nat}(h:j<l.length):li g (l.drop j)=if g l[j]=0 then li g (l.drop (j+1)) else g l[j]:=by
 rw[dC h,li]
theorem sV {h:List O}(hh:bh h){e:List O}(he:e.all (O.low (h.length+e.length))=true):bh (h++e):=by
 unfold bh at hh ⊢;rw[List.all_append,bT,lA];refine⟨?_,he⟩;rw[List.all_eq_true] at hh ⊢;exact fun o ho=>lZ (by omega) (hh o ho)
theorem tS {h:List O}(hh:bh h) (d:D):bh (h++[.cells d.v.cells]):=sV hh (by simp[aq])
theorem Bs {l:List D}(h:D.fms l=true):∀x∈l,x.fm=true:=by
 rw[D.fms_all,List.all_eq_true] at h;exact h
theorem af {d:D}(h:d.fm=true):∀x∈d.kids,x.fm=true:=by
 obtain⟨k,i,t,l⟩:=d;simp only[D.fm] at h;simp only[D.kids];split at h
 ·simp only[bT,beq_iff_eq] at h;have:=List.eq_nil_of_length_eq_zero h.2;subst this;intro x hx;cases hx
 ·split at h
  ·simp only[bT,beq_iff_eq] at h;have:=List.eq_nil_of_length_eq_zero h.2;subst this;intro x hx;cases hx
  ·split at h
   ·simp only[bT] at h;exact Bs h.1.1
   ·cases h
theorem aW {d x:D}(h:x∈d.kids):x.sz+1≤d.sz:=Fn h
theorem bY {l:List D}{k:Nat}{x:D}(h:x∈l.drop k):x∈l:=List.mem_of_mem_drop h
section
variable {m c:Nat}{sh:Sh}{B:Nat}{g:List (ByteArray × Bool)→Bool→D→Int}{d:D}
end
section
variable {g:List (ByteArray × Bool)→Bool→D→Int}{sh:Sh}{rs:List (ByteArray × Bool)}{d:D}
end
section
variable {m c:Nat}{sh:Sh}{B:Nat}{g:List (ByteArray × Bool)→Bool→D→Int}{d:D}
end
section
variable {m c:Nat}{sh:Sh}{B:Nat}{g:List (ByteArray × Bool)→Bool→D→Int}{d:D}
end
theorem kp {n f k:Nat}{xf:XF}{args:List V}{r:V}{h h':List O}(hE:E f=none) (hX:X f=some xf) (hk:args.length=k) (hx:sH xf k=true) (hp:xf.pure=false∧xf.esc=false) (hr:r.low h.length=true) (hh:h'.all (O.low h.length)=true)
  (hw:wpk (call X E n) n xf.body [] (Fin (fun vs s=>(bk vs).vw=r∧s.take h.length=h') xf) ⟨dR (args.map V.vw2),h,h.length,0⟩) (ha:xf.asg=none:=by rfl):call X E (n+1) f args h=some (r,h'):=by
 simp only[call,hE,hX,ha];subst hk;refine fg hx hp.1 hp.2 (dt _ (fun e s hq=>?_) (cq hw));cases e with
 | exit id=>exact hq
 | normal=>exact cn (fun vs hv=>⟨hv.1,hr,hv.2,hh⟩) hq
 | ret=>exact cn (fun vs hv=>⟨hv.1,hr,hv.2,hh⟩) hq
theorem BT {l:List D}(h:0<l.length) (i:SI) (hi:i=.any∨i=.full):n0 i (D.vs l)=some false:=by
 cases l with
 | nil=>simp at h
 | cons a l =>
  rcases hi with rfl|rfl<;>simp[D.vs,n0]
theorem eD (i:SI) (us:List V):ec .eql 2 (.sl us i) (.sl [] .nil)=(n0 i us).map fun b=>.c (.bool b):=rfl
theorem eV {h:List O}{i:Nat}{o:O}(hh:bh h) (ho:O.low h.length o=true):bh (h.set i o):=by
 unfold bh at hh ⊢;rw[List.length_set];rw[List.all_eq_true] at hh ⊢;intro x hx;rcases List.mem_or_eq_of_mem_set hx with h1|rfl
 ·exact hh x h1
 ·exact ho
mutual
theorem tB {n:Nat}(k:Nat):∀v:V,V.low n v=true→V.low (n+k) (V.shift k v)=true
 | .c _,_=>rfl
 | .agg cs,h=>bD k cs h
 | .tup cs,h=>bD k cs h
 | .sl us i,h=>by
  simp only[V.low,bT,V.shift] at h ⊢;refine⟨bD k us h.1,?_⟩;cases i with
  | tok q=>simp only[SI.low,SI.shift,dT] at h ⊢;omega
  | _=>rfl
 | .ptr cs _,h=>bD k cs h
 | .ref id _,h=>by simp only[V.low,V.shift,dT] at h ⊢;omega
 | .bnd _ id _,h=>by simp only[V.low,V.shift,dT] at h ⊢;omega
 | .clo _ cs,h=>bD k cs h
 | .row i _ m _,h=>by simp only[V.low,V.shift,Bool.or_eq_true,dT] at h ⊢;exact h.imp (fun h=>by omega) fun h=>h
 | .buf id _,h=>by simp only[V.low,V.shift,dT] at h ⊢;omega
 | .tsl q _ _,h=>by simp only[V.low,V.shift,dT] at h ⊢;omega
 | .tref q _ _,h=>by simp only[V.low,V.shift,dT] at h ⊢;omega
 | .top,_=>rfl
 | .fmp _ vs,h=>bD k vs h
 | .mref id,h=>by simp only[V.low,V.shift,dT] at h ⊢;omega
 | .yld q _ _ cs,h=>by
  simp only[V.low,V.shift,bT,dT] at h ⊢;exact⟨by omega,bD k cs h.2⟩
theorem bD {n:Nat}(k:Nat):∀vs:List V,V.lows n vs=true→V.lows (n+k) (V.shifts k vs)=true
 | [],_=>rfl
 | v::vs,h=>by
  simp only[V.lows,V.shifts,bT] at h ⊢;exact⟨tB k v h.1,bD k vs h.2⟩
end
theorem sc {n:Nat}(k:Nat){o:O}(h:O.low n o=true):O.low (n+k) (O.shift k o)=true:=by
 cases o with
 | cells cs=>exact bD k cs h
 | tokc a b cs=>exact bD k cs h
 | mapo ks vs=>exact bD k vs h
 | _=>rfl
theorem kz {h H:List O}(hh:bh h) (hH:bh H):bh (h++H.map (O.shift h.length)):=by
 refine sV hh ?_;unfold bh at hH;rw[List.all_eq_true] at hH ⊢;intro o ho;obtain⟨x,hx,rfl⟩:=List.mem_map.1 ho;have:=sc h.length (hH x hx);rw[List.length_map,Nat.add_comm];exact this
mutual
theorem D.shift (k:Nat):∀d:D,V.shift k d.v=d.v
 | .mk a b c l=>by
  simp only[D.v,V.shift,V.shifts,D.shifts k l];rfl
theorem D.shifts (k:Nat):∀l:List D,V.shifts k (D.vs l)=D.vs l
 | []=>rfl
 | d::l=>by simp only[D.vs,V.shifts,D.shift k d,D.shifts k l]
end
theorem eB {g:D→Int}:∀{l:List D},li g l=0→∀x∈l,g x=0
 | [],_,x,hx=>by cases hx
 | y::l,h,x,hx=>by
  rw[li] at h;split at h
  ·rename_i h0;rcases List.mem_cons.1 hx with rfl|hx
   ·exact h0
   ·exact eB h x hx
  ·rename_i h0;exact absurd h h0
set_option linter.defProp false
section
variable (cf:av) (n:Nat) (s:SF) (K:List Fr) (Q:Ex→SF→Prop)
def x10_w:=bK' x10 rfl
def x10_r:=bR x10 rfl
end
set_option linter.defProp false
section
variable (cf:av) (n:Nat) (s:SF) (K:List Fr) (Q:Ex→SF→Prop)
def x123l8_w:=lK' x123l8 rfl
def x123_w:=bK' x123 rfl
def x123_r:=bR x123 rfl
end
def GrowF (z:Nat) (us:List V) (si:SI) (h:List O):Prop:=(us=[]∧si=.nil)∨si=.full∨∃q,si=.tok q∧h[q]?=some (.tok us.length z)
theorem GrowF.app {z:Nat}{us:List V}{si:SI}{h:List O}(hG:GrowF z us si h) (pre:List O):GrowF z us si (h++pre):=by
 rcases hG with h1|h1|⟨q,h1,h2⟩
 ·exact .inl h1
 ·exact .inr (.inl h1)
 ·exact .inr (.inr ⟨q,h1,by rw[aL (gS.1 h2).1];exact h2⟩)
theorem GrowF.nil (z:Nat) (h:List O):GrowF z [] .nil h:=.inl ⟨rfl,rfl⟩
theorem GrowF.full (z:Nat) (us:List V) (h:List O):GrowF z us .full h:=.inr (.inl rfl)
theorem yl {us:List V}{si:SI}{ws:List V}{al b:Nat}{zz:Option Nat}{h:List O}(hG:GrowF (zc zz) us si h) (hd:h[al]?=some .dead∨h[al]?=some .want) :
  ∃si' h',iu 0 al b zz false h us si ws=some (.sl (us++ws) si',h')∧GrowF (zc zz) (us++ws) si' h'∧h'.length=h.length∧Keeps h h'∧(bh h→bh h')∧(si≠.full→si'≠.full):=by
 cases ws with
 | nil=>exact⟨si,h,by rw[ek,List.append_nil],by rw[List.append_nil];exact hG,rfl,.rfl' h,fun a=>a,fun a=>a⟩
 | cons w ws =>
  have hl:al<h.length:=by rcases hd with hd|hd<;>exact (gS.1 hd).1
  have new:∀si,si=.nil∨si=.full→∃si' h',iu 0 al b zz false h us si (w::ws)=some (.sl (us++w::ws) si',h')∧GrowF (zc zz) (us++w::ws) si' h'∧h'.length=h.length∧Keeps h h'∧(bh h→bh h')∧(si≠.full→si'≠.full):=fun si hsi=>by
   refine⟨.tok al,h.set al (.tok (us.length+(w::ws).length) (zc zz)),?_,.inr (.inr ⟨al,rfl,?_⟩),by simp,.set _ fun cs e=>?_,fun hh=>eV hh rfl,fun _=>by simp⟩
   ·rcases hsi with rfl|rfl<;>rcases hd with hd|hd
    ·exact iy 0 al b zz h us ws w hd
    ·exact gj 0 al b zz h us ws w hd
    ·exact ez 0 al b zz h us ws w hd
    ·exact eQ 0 al b zz h us ws w hd
   ·rw[sS hl];simp
   ·rcases hd with hd|hd<;>rw[hd] at e<;>cases e
  rcases hG with⟨_,rfl⟩|rfl|⟨q,rfl,hq⟩
  ·exact new _ (.inl rfl)
  ·exact new _ (.inr rfl)
  ·have hl:q<h.length:=(gS.1 hq).1;refine⟨.tok q,h.set q (.tok (us.length+(w::ws).length) (zc zz)),gc 0 al b q zz false h us ws w hq,.inr (.inr ⟨q,rfl,?_⟩),by simp,.set _ fun cs e=>?_,fun hh=>eV hh rfl,fun _=>by simp⟩
   ·rw[sS hl];simp
   ·rw[hq] at e;cases e
theorem tM {cf:av}{n:Nat}{K:List Fr}{Q:Ex→SF→Prop}{s:SF}{us:List V}{si:SI}{ws:List V}{al b:Nat}{zz:Option Nat}{h:List O}{d:Option Nat}{r:List XOper}(hG:GrowF (zc zz) us si h) (hd:h[al]?=some .dead∨h[al]?=some .want)
  (hq:∀si' h',GrowF (zc zz) (us++ws) si' h'→h'.length=h.length→Keeps h h'→(bh h→bh h')→(si≠.full→si'≠.full)→rM cf n r K Q ⟨pC s.e d (.sl (us++ws) si'),h',s.base,s.rb⟩):gvk cf n (iu 0 al b zz false h us si ws) d r K Q s:=by
 obtain⟨si',h',h1,h2,h3,h4,h5,h6⟩:=yl (b:=b) (ws:=ws) hG hd;rw[h1,cJ];exact hq si' h' h2 h3 h4 h5 h6
theorem ij {h:List O}{i:Nat}{x:O}(hi:h[i]?=some x) (o:O):(h.set i o)[i]?=some o:=sS (gS.1 hi).1
theorem Hz (d:D):d.v.low 0=true:=by
 have h:=D.lows 0 [d];simp only[D.vs,V.lows,Bool.and_true] at h;exact h
theorem F6:∀d:D,d.sz<100000000000→∀n,2*d.sz+2≤n→bg n 123 [d.v] d.v:=by
 refine D.ind fun k i t l ih hs m hm=>?_
 simp only[D.sz] at hs hm;obtain⟨m,rfl⟩:∃m',m=m'+1:=⟨m-1,by omega⟩
 have hlen:=aj l;have c123:∀x∈l,∀h,call X E m 123 [x.v] h=some (x.v,h):=fun x hx=>ih x hx (by have:=ak hx;omega) m (by have:=ak hx;omega)
 refine aA rfl rfl rfl (by kernel_rfl) ⟨rfl,rfl⟩ (by simp[V.lows]) ?_;have hvl:=Hz (.mk k i t l);have hR:(D.mk k i t l).v=.agg [.c (.int .i64 k),.c (.int .i64 i),.c (.string t),.sl (D.vs l) .any]:=rfl;have hsl:=aa l;rw[hR] at hvl ⊢;generalize call X E m=cf at *;simp -implicitDefEqProofs [x123_w,uD,hsl];obtain⟨J,hJ⟩:∃J:Nat→SF→Prop,J=fun k' s'=>∃j si,j+k'=l.length∧s'.e 9=.c (.int .i64 j)∧s'.e 3=.sl (D.vs (l.take j)) si∧GrowF 4 (D.vs (l.take j)) si s'.h∧s'.h[0]?=some (.cells [.c (.int .i64 k),.c (.int .i64 i),.c (.string t),.sl (D.vs l) .any])∧s'.h[1]?=some (.cells [.c (.int .i64 0),.c (.int .i64 0),.c (.string ⟨#[]⟩),.sl [] .nil]):=⟨_,rfl⟩
 refine bn J l.length (by omega) (by rw[hJ];exact⟨0,.nil,by simp,by simp[au],by simp[au,D.vs],by simpa[D.vs] using GrowF.nil 4 _,rfl,rfl⟩) ?_;rintro k' ⟨e,h',base,rb⟩ hj he hb;rw[hJ] at hj;obtain⟨j,si,hj,e9,e3,hG,f0,f1⟩:=hj;have e1:=he 1 rfl;have e2:=he 2 rfl;have e7:=he 7 rfl;have e8:=he 8 rfl;simp[au] at e1 e2 e7 e8 hb;simp only at e9 e3 hG f0 f1;subst hb;by_cases hmm:j<l.length;rotate_left
 ·have hlt:¬(j:Int)<l.length:=by omega
  obtain rfl:j=l.length:=by omega
  rw[List.take_of_length_le (nL _)] at e3 hG;have ks:=fun o=>ij f0 o
  have h1l:1<h'.length:=(gS.1 f1).1;have ks1:∀o,(h'.set 0 o)[1]?=some (.cells [.c (.int .i64 0),.c (.int .i64 0),.c (.string ⟨#[]⟩),.sl [] .nil]):=fun o=>by
   rw[sN (by omega)];exact f1
  have ks2:∀o o',((h'.set 0 o).set 1 o')[1]?=some o':=fun o o'=>ij (ks1 o) o'
  rcases hG with⟨h1,rfl⟩|rfl|⟨q,rfl,_⟩<;>simp -implicitDefEqProofs [x123l8_w,x123_r,e1,e2,e3,e7,e8,e9,hsl,hlt,↓f0,↓f1,↓ks,↓ks1,↓ks2,hvl]
 have hlt:(j:Int)<l.length:=by omega
 have hw:IntKind.i64.wrap ((j:Int)+1)=(j:Int)+1:=aH (by omega);have hvg:(D.vs l)[j]'(by rw[aa];omega)=(l[j]).v:=ac _;have c123x:=c123 _ (List.getElem_mem hmm);have htk:D.vs (l.take (j+1))=D.vs (l.take j)++[(l[j]).v]:=by
  rw[List.take_add_one,gE hmm,ai];rfl
 have hz1:=D.hz (l.take j);have hul:(D.vs (l.take j)).length=j:=by rw[aa,List.length_take];omega
 have hj1:(j+1)*56≤140737488355328:=by omega
 have hj2:j+1≤140737488355328:=by omega
 obtain⟨L2,hL2⟩:∃L2,L2=D.vs (l.take (j+1)):=⟨_,rfl⟩
 rw[← hL2] at htk;generalize l[j]=x at *;have hcl:=ab x;generalize D.vs (l.take j)=U at *;have f0':=fun R=>co f0 R
 simp -implicitDefEqProofs [x123l8_w,e1,e2,e3,e7,e8,e9,hsl,hlt,hmm,hvg,ae,c123x,hul,hz1,hj1,hj2];refine tM (zz:=some 4) (hG.app _) (.inl (nH _ _ _ _)) fun si' h'' hG' hl' hk hlo hnf=>?_
 have k0:=hk 0 _ (co f0 _);have k1:=hk 1 _ (co f1 _);simp -implicitDefEqProofs [e9,hw];refine⟨k'-1,by omega,?_⟩;rw[hJ];refine⟨j+1,si',by omega,by simp[au],?_,?_,k0,k1⟩
 ·rw[← hL2,htk];simp[au]
 ·rw[← hL2,htk];exact hG'
set_option linter.defProp false
section
variable (cf:av) (n:Nat) (s:SF) (K:List Fr) (Q:Ex→SF→Prop)
def x3r3_w:=rK' x3r3 rfl
def x3r4_w:=rK' x3r4 rfl
def x3r5_w:=rK' x3r5 rfl
def x3r6_w:=rK' x3r6 rfl
def x3r7_w:=rK' x3r7 rfl
def x3l11_w:=lK' x3l11 rfl
def x3r12_w:=rK' x3r12 rfl
def x3r13_w:=rK' x3r13 rfl
def x3r14_w:=rK' x3r14 rfl
def x3r16_w:=rK' x3r16 rfl
def x3l23_w:=lK' x3l23 rfl
def x3l25_w:=lK' x3l25 rfl
def x3r26_w:=rK' x3r26 rfl
def x3l31_w:=lK' x3l31 rfl
def x3r32_w:=rK' x3r32 rfl
def x3r33_w:=rK' x3r33 rfl
def x3r34_w:=rK' x3r34 rfl
def x3r35_w:=rK' x3r35 rfl
def x3l40_w:=lK' x3l40 rfl
def x3r41_w:=rK' x3r41 rfl
def x3r42_w:=rK' x3r42 rfl
def x3r43_w:=rK' x3r43 rfl
def x3r44_w:=rK' x3r44 rfl
def x3r45_w:=rK' x3r45 rfl
def x3r47_w:=rK' x3r47 rfl
def x3l57_w:=lK' x3l57 rfl
def x3r58_w:=rK' x3r58 rfl
def x3l59_w:=lK' x3l59 rfl
def x3r60_w:=rK' x3r60 rfl
def x3_w:=bK' x3 rfl
def x3_r:=bR x3 rfl
def x9_w:=bK' x9 rfl
def x9_r:=bR x9 rfl
def x11_w:=bK' x11 rfl
def x11_r:=bR x11 rfl
def x12_w:=bK' x12 rfl
def x12_r:=bR x12 rfl
def x33_w:=bK' x33 rfl
def x33_r:=bR x33 rfl
def x34l13_w:=lK' x34l13 rfl
def x34l16_w:=lK' x34l16 rfl
def x34l27_w:=lK' x34l27 rfl
def x34r28_w:=rK' x34r28 rfl
def x34r34_w:=mK cf n s K Q x34r34 [5,5,13] [14,126,128] rfl rfl rfl
def x34l38_w:=lK' x34l38 rfl
def x34l39_w:=lK' x34l39 rfl
def x34r40_w:=rK' x34r40 rfl
def x34_w:=bK' x34 rfl
def x34_r:=bR x34 rfl
def x87_w:=bK' x87 rfl
def x87_r:=bR x87 rfl
def x88_w:=bK' x88 rfl
def x88_r:=bR x88 rfl
def x90l21_w:=lK' x90l21 rfl
def x90_w:=bK' x90 rfl
def x90_r:=bR x90 rfl
def x91l8_w:=lK' x91l8 rfl
def x91_w:=bK' x91 rfl
def x91_r:=bR x91 rfl
def x92_w:=bK' x92 rfl
def x92_r:=bR x92 rfl
def x137l13_w:=lK' x137l13 rfl
def x137_w:=bK' x137 rfl
def x137_r:=bR x137 rfl
def x138l8_w:=lK' x138l8 rfl
def x138_w:=bK' x138 rfl
def x138_r:=bR x138 rfl
def x139l14_w:=lK' x139l14 rfl
def x139l16_w:=lK' x139l16 rfl
def x139_w:=bK' x139 rfl
def x139_r:=bR x139 rfl
def x140_w:=bK' x140 rfl
def x140_r:=bR x140 rfl
def x141_w:=bK' x141 rfl
def x141_r:=bR x141 rfl
def x142_w:=bK' x142 rfl
def x142_r:=bR x142 rfl
def x143l15_w:=lK' x143l15 rfl
def x143_w:=bK' x143 rfl
def x143_r:=bR x143 rfl
def x144l8_w:=lK' x144l8 rfl
def x144_w:=bK' x144 rfl
def x144_r:=bR x144 rfl
def x169l17_w:=lK' x169l17 rfl
def x169_w:=bK' x169 rfl
def x169_r:=bR x169 rfl
def x170_w:=bK' x170 rfl
def x170_r:=bR x170 rfl
def x171l8_w:=lK' x171l8 rfl
def x171_w:=bK' x171 rfl
def x171_r:=bR x171 rfl
def x172_w:=bK' x172 rfl
def x172_r:=bR x172 rfl
def x173r5_w:=rK' x173r5 rfl
def x173l10_w:=lK' x173l10 rfl
def x173r11_w:=rK' x173r11 rfl
def x173_w:=bK' x173 rfl
def x173_r:=bR x173 rfl
def x174_w:=bK' x174 rfl
def x174_r:=bR x174 rfl
def x175_w:=bK' x175 rfl
def x175_r:=bR x175 rfl
def x187_w:=bK' x187 rfl
def x187_r:=bR x187 rfl
def x188l9_w:=lK' x188l9 rfl
def x188_w:=bK' x188 rfl
def x188_r:=bR x188 rfl
def x189_w:=bK' x189 rfl
def x189_r:=bR x189 rfl
def x190_w:=bK' x190 rfl
def x190_r:=bR x190 rfl
def x191_w:=bK' x191 rfl
def x191_r:=bR x191 rfl
def x192_w:=bK' x192 rfl
def x192_r:=bR x192 rfl
def x193l5_w:=lK' x193l5 rfl
def x193_w:=bK' x193 rfl
def x193_r:=bR x193 rfl
end
abbrev Sk:=List ((Int × ByteArray) × Nat)
def fkK:Sk→Int × ByteArray→Option Nat
 | [],_=>none
 | p::r,k=>if k=p.1 then some p.2 else fkK r k
def skK (sh:Sk):List Value:=sh.map fun p=>.agg #[.int .i64 p.1.1,.string p.1.2]
def skV (sh:Sk):List V:=sh.map fun p=>.c (.int .i64 p.2)
def skR:Option Nat→V
 | some a=>.tup [.c (.int .i64 a),.c (.bool true)]
 | none=>.tup [.c (.int .i64 0),.c (.bool false)]
theorem lM:∀(sh:Sk) (k:Int × ByteArray),eT (some [0,1]) (skK sh) (skV sh) (.agg #[.int .i64 k.1,.string k.2])=some ((fkK sh k).map fun p=>.c (.int .i64 p))
 | [],k=>rfl
 | p::sh,k=>by
  obtain⟨a,s⟩:=k;obtain⟨⟨b,t⟩,x⟩:=p;have ih:=lM sh (a,s);simp only[skK,skV] at ih;simp only[skK,skV,List.map_cons,eT,fM,fkK];by_cases h:(a,s)=(b,t)
  ·simp only[h,decide_true,if_true,Option.map_some]
  ·simp only[h,decide_false,if_false];exact ih
theorem tD {h:List O}{m:Nat}{sh:Sk}(hm:h[m]?=some (.mapo (skK sh) (skV sh))) (d:D):jU (.mref m) (some [0,1]) d.key (.c (.int .i64 0)) true h=some (skR (fkK sh d.key2),h):=by
 have:=lM sh d.key2;simp only[D.key2] at this;rw[bE,sf];simp only[cY,hm,kX,this,Option.map_some,D.key2];cases fkK sh (d.nu,d.tx) with
 | none=>rfl
 | some p=>rfl
theorem uT:∀(sh:Sk) (k:Int × ByteArray) (v:V),fkK sh k=none→sW (some [0,1]) (skK sh) (skV sh) (.agg #[.int .i64 k.1,.string k.2]) v=some (skK sh++[.agg #[.int .i64 k.1,.string k.2]],skV sh++[v])
 | [],k,v,_=>rfl
 | p::sh,k,v,h=>by
  obtain⟨a,s⟩:=k;obtain⟨⟨b,t⟩,x⟩:=p;simp only[fkK] at h;split at h
  ·cases h
  rename_i hne;have ih:=uT sh (a,s) v h;simp only[skK,skV] at ih;simp only[skK,skV,List.map_cons,sW,fM,hne,decide_false,ih,Option.map_some,List.cons_append]
theorem pG (m:Nat) (sh:Sk):V.lows m (skV sh)=true:=b7 fun v hv=>by
 obtain⟨p,_,rfl⟩:=List.mem_map.1 hv;rfl
theorem AV {h:List O}{m:Nat}{sh:Sk}(hm:h[m]?=some (.mapo (skK sh) (skV sh))){d:D}(hn:fkK sh d.key2=none) (a:Nat) :
  DA (.mref m) (some [0,1]) d.key (.c (.int .i64 a)) h=some (az,h.set m (.mapo (skK (sh++[(d.key2,a)])) (skV (sh++[(d.key2,a)])))):=by
 have:=uT sh d.key2 (.c (.int .i64 a)) hn;simp only[D.key2] at this;rw[qI,sf];simp only[cY,hm,ua,this,Option.map_some];simp[skK,skV,D.key2]
theorem v7 (d:D){n:Nat}:bg (n+1) 172 [d.v] d.key:=by
 obtain⟨k,i,t,l⟩:=d;refine aA rfl rfl rfl (by kernel_rfl) ⟨rfl,rfl⟩ (by simp[D.vw2,V.lows,D.low]) ?_;simp -implicitDefEqProofs [x172_w,x172_r,D.vw2,D.v,D.key,D.nu,D.tx,V.low,V.lows]
def fhF (sk:Sk) (d:D):Int :=
 if (d.els 3 false&&(d.kid 0).lab)=true then
  (if ((fkK sk (d.kid 0).key2).isSome || !((d.kid 1).nms D.nm))=true then 4 else
   if 8<(d.kid 1).kids.length then 3 else 0) else 4
def fhN (d:D):(Int × ByteArray) × Nat:=((d.kid 0).key2,(d.kid 1).kids.length)
theorem G9 (d:D){c m0:Nat}{sk:Sk}{h:List O}(h1:h[c]?=some (.cells [.mref m0])) (h2:h[m0]?=some (.mapo (skK sk) (skV sk))) (hh:bh h) (hl:d.sz<100000000000){n:Nat}(hn:d.sz+30≤n) :
  call X E (n+5) 187 [.ref c 0,d.v] h=some (.c (.int .i64 (fhF sk d)),if fhF sk d=0 then h.set m0 (.mapo (skK (sk++[fhN d])) (skV (sk++[fhN d]))) else h):=by
 have c47:∀h,call X E (n+4) 47 [d.v,.c (.int .i64 3),.c (.bool false)] h=some (if d.els 3 false=true then .sl (D.vs d.kids) .any else .sl [] .nil,h):=HS d 3 false;have c106:∀(x:D) h,call X E (n+4) 106 [x.v] h=some (.c (.bool x.lab),h):=fun x=>EX x
 have c172:∀(x:D) h,call X E (n+4) 172 [x.v] h=some (x.key,h):=fun x=>v7 x
 have hkl:=bV d;have hr2:(V.ref c 0).vw2=.ref c 0:=rfl;have hml:m0<h.length:=(gS.1 h2).1;unfold fhF;cases he:d.els 3 false with
 | false =>
  rw[he] at c47;simp only[Bool.false_and,Bool.false_eq_true,if_false] at c47 ⊢;rw[if_neg (by decide)];refine kp rfl rfl rfl (by kernel_rfl) ⟨rfl,rfl⟩ (by simp[V.low]) hh ?_;generalize call X E (n+4)=cf at *;simp -implicitDefEqProofs [x187_w,x187_r,c47,eD,n0]
 | true =>
  rw[he] at c47;simp only[if_true] at c47;have hkd:d.kd=3∧d.kids.length=3:=by
   have h0:=he;unfold D.els at h0;simp only[bT,beq_iff_eq,Bool.or_eq_true,dT] at h0;have:=h0.2.2;simp only[Bool.false_eq_true,false_or] at this;exact⟨h0.1,by omega⟩
  have hl4:=hkd.2;have hnil:=BT (l:=d.kids) (by omega) .any (.inl rfl);have l0:0<d.kids.length:=by omega
  have l1:1<d.kids.length:=by omega
  have v0:((D.vs d.kids)[0]'(by rw[aa];exact l0))=(d.kid 0).v:=ah _;have v1:((D.vs d.kids)[1]'(by rw[aa];exact l1))=(d.kid 1).v:=ah _;have hsl:=aa d.kids;rw[hl4] at hsl;have hm1:=aW (bI (d:=d) (j:=1) l1);have hk1:=bV (d.kid 1);have c107:∀h,call X E (n+4) 107 [(d.kid 1).v] h=some (.tup [.sl (ss (if (d.kid 1).nms D.nm=true then txs (d.kid 1).kids else [])) .any,.c (.bool ((d.kid 1).nms D.nm))],h):=D9 (d.kid 1) (by omega) (by omega);have hlk:=fun (e:List O)=>tD (co h2 e) (d.kid 0)
  have h1a:=co h1;have hset:∀(R:List O) (o:O),(h++R).set m0 o=h.set m0 o++R:=fun R o=>List.set_append_left _ _ hml
  have hup:=fun (e:List O) (hn:fkK sk (d.kid 0).key2=none)=>AV (co h2 e) hn (d.kid 1).kids.length
  have hkey:(d.kid 0).key.vw2=(d.kid 0).key:=rfl;have hlow2:(h.set m0 (.mapo (skK (sk++[fhN d])) (skV (sk++[fhN d])))).all (O.low h.length)=true:=by
   rw[List.all_eq_true];intro o ho;rcases List.mem_or_eq_of_mem_set ho with ho|rfl
   ·exact List.all_eq_true.1 hh o ho
   ·exact pG _ _
  cases hlb:(d.kid 0).lab with
  | false =>
   have c106x:=c106 (d.kid 0);rw[hlb] at c106x;simp only[Bool.and_false,Bool.false_eq_true,if_false];rw[if_neg (by decide)];refine kp rfl rfl rfl (by kernel_rfl) ⟨rfl,rfl⟩ (by simp[V.low]) hh ?_;generalize call X E (n+4)=cf at *;simp -implicitDefEqProofs [x187_w,x187_r,c47,eD,hnil,hsl,v0,ae,c106x]
  | true =>
   have c106x:=c106 (d.kid 0);rw[hlb] at c106x;simp only[Bool.and_self,if_true];cases hf:fkK sk (d.kid 0).key2 with
   | some a =>
    rw[hf] at hlk;simp only[skR] at hlk;simp only[Option.isSome_some,Bool.true_or,if_true];rw[if_neg (by decide)];refine kp rfl rfl rfl (by kernel_rfl) ⟨rfl,rfl⟩ (by simp[V.low]) hh ?_;generalize call X E (n+4)=cf at *;generalize (if (d.kid 1).nms D.nm=true then txs (d.kid 1).kids else [])=T1 at *;simp -implicitDefEqProofs [-bE,x187_w,x187_r,c47,eD,hnil,hsl,v0,v1,ae,c106x,c172,c107,h1a,hlk]
   | none =>
    have hup':=fun e=>hup e hf
    rw[hf] at hlk;simp only[skR] at hlk;simp only[Option.isSome_none,Bool.false_or];cases hA:(d.kid 1).nms D.nm with
    | false =>
     rw[hA] at c107;simp only[Bool.not_false,if_true,Bool.false_eq_true,if_false] at c107 ⊢;rw[if_neg (by decide)];refine kp rfl rfl rfl (by kernel_rfl) ⟨rfl,rfl⟩ (by simp[V.low]) hh ?_;generalize call X E (n+4)=cf at *;simp -implicitDefEqProofs [-bE,x187_w,x187_r,c47,eD,hnil,hsl,v0,v1,ae,c106x,c172,c107,h1a,hlk]
    | true =>
     rw[hA] at c107;simp only[Bool.not_true,if_true,Bool.false_eq_true,if_false] at c107 ⊢;have htl:(ss (txs (d.kid 1).kids)).length=(d.kid 1).kids.length:=by rw[eY,gN]
     by_cases h8:8<(d.kid 1).kids.length
     ·have h8i:(8:Int)<(d.kid 1).kids.length:=by omega
      rw[if_pos h8,if_neg (by decide)];refine kp rfl rfl rfl (by kernel_rfl) ⟨rfl,rfl⟩ (by simp[V.low]) hh ?_;generalize call X E (n+4)=cf at *;generalize ss (txs (d.kid 1).kids)=T1 at *;simp -implicitDefEqProofs [-bE,x187_w,x187_r,c47,eD,hnil,hsl,v0,v1,ae,c106x,c172,c107,h1a,hlk,htl,h8i]
     ·have h8i:¬(8:Int)<(d.kid 1).kids.length:=by omega
      rw[if_neg h8,if_pos rfl];refine kp rfl rfl rfl (by kernel_rfl) ⟨rfl,rfl⟩ (by simp[V.low]) hlow2 ?_;generalize call X E (n+4)=cf at *;generalize ss (txs (d.kid 1).kids)=T1 at *;simp -implicitDefEqProofs [-bE,-qI,x187_w,x187_r,c47,eD,hnil,hsl,v0,v1,ae,c106x,c172,c107,h1a,hlk,htl,h8i,hup',hset];rfl
def SkAt (h:List O) (c:Nat) (sk:Sk):Prop:=∃m,h[c]?=some (.cells [.mref m])∧h[m]?=some (.mapo (skK sk) (skV sk))
theorem SkAt.app {h:List O}{c:Nat}{sk:Sk}(a:SkAt h c sk) (e:List O):SkAt (h++e) c sk:=by
 obtain⟨m,h1,h2⟩:=a;exact⟨m,co h1 e,co h2 e⟩
def fxC (g:List ByteArray→D→Int) (sk:Sk) (bs:List ByteArray) (d:D):Int :=
 if d.kids.length<2∨(d.kid 1).lab=false then 4 else
 match fkK sk (d.kid 1).key2 with
 | none=>5
 | some k=>if (k:Int)≠(d.kids.length:Int)-2 then 11 else li (g bs) (d.kids.drop 2)
def fxB (g:List ByteArray→D→Int) (sk:Sk) (bs:List ByteArray) (d:D):Int :=
 if d.kd=1 then 0 else
 if d.kd=2 then (if d.nm=false then 4 else if inB bs d.tx=false then 12 else 0) else
 if d.kids.length=0∨(d.kid 0).kd≠2 then 4 else
 if wn (d.kid 0).tx=0 then (if d.kids.length≠2 then 4 else 0) else
 if wn (d.kid 0).tx=1 then (if d.kids.length≠4 then 4 else li (g bs) (d.kids.drop 1)) else
 if wn (d.kid 0).tx=2 then (if d.kids.length≠4∨(d.kid 1).nm=false then 4 else if g bs (d.kid 2)≠0 then g bs (d.kid 2) else g (bs++[(d.kid 1).tx]) (d.kid 3)) else
 if wn (d.kid 0).tx=3 then fxC g sk bs d else
 if arB (wn (d.kid 0).tx)=false then 4 else
 if arN (wn (d.kid 0).tx)≠(d.kids.length:Int)-1 then 11 else li (g bs) (d.kids.drop 1)
def fxN:Nat→Sk→List ByteArray→D→Int
 | 0,_,_,_=>0
 | f+1,sk,bs,d=>fxB (fxN f sk) sk bs d
def Ex17 (n c:Nat) (sk:Sk) (B:Nat) (g:List ByteArray→D→Int) (x:D):Prop :=
 ∀(bs:List ByteArray) (i:SI) (h:List O),bs.length+x.sz≤B→SkAt h c sk→bh h→call X E n 170 [.ref c 0,x.v,.sl (ss bs) i] h=some (.c (.int .i64 (g bs x)),h)
theorem Ex17.up {n n' c:Nat}{sk:Sk}{B:Nat}{g:List ByteArray→D→Int}{x:D}(h:Ex17 n c sk B g x) (hn:n≤n'):Ex17 n' c sk B g x:=fun bs i H h1 h2 h3=>Ab.up hn (h bs i H h1 h2 h3)
theorem Ez {n c:Nat}{sk:Sk}{B:Nat}{g:List ByteArray→D→Int}{l:List D}(hx:∀x∈l,Ex17 n c sk B g x) (hn:l.length<n) (hl:l.length<1099511627776) (i i2:SI){bs:List ByteArray}(hrs:∀x∈l,bs.length+x.sz≤B){h:List O}(hc:SkAt h c sk) (hh:bh h) :
  call X E (n+1) 188 [.ref c 0,.sl (D.vs l) i,.sl (ss bs) i2] h=some (.c (.int .i64 (li (g bs) l)),h):=by
 have hcall:∀x∈l,∀h',SkAt h' c sk→bh h'→call X E n 170 [.ref c 0,x.v,.sl (ss bs) .any] h'=some (.c (.int .i64 (g bs x)),h'):=fun x hxl h' h1 h2=>hx x hxl bs .any h' (hrs x hxl) h1 h2
 refine pa rfl rfl rfl (by kernel_rfl) ⟨rfl,rfl⟩ (by simp[V.low]) hh ?_;generalize call X E n=cf at *;generalize ss bs=S at *;have hr2:(V.ref c 0).vw2=.ref c 0:=rfl;have hsl:=aa l;simp -implicitDefEqProofs [x188_w,hsl,aM];obtain⟨J,hJ⟩:∃J:Nat→SF→Prop,J=fun k s=>∃j R,j+k=l.length∧s.e 12=.c (.int .i64 j)∧s.h=h++R∧bh (h++R)∧li (g bs) l=li (g bs) (l.drop j):=⟨_,rfl⟩
 refine bn J l.length hn (by rw[hJ];exact⟨0,[],by simp,by simp[au],by simp,by simpa using hh,by simp⟩) ?_;rintro k ⟨e,h',base,rb⟩ hj he hb;rw[hJ] at hj;obtain⟨j,R,hj,e12,hh',hlR,hfx⟩:=hj;have e0:=he 0 rfl;have e2:=he 2 rfl;have e10:=he 10 rfl;have e11:=he 11 rfl;simp[au,dR,aM] at e0 e2 e10 e11 hb;simp only at e12 hh';subst hh';by_cases hm:j<l.length
 ·have hlt:(j:Int)<l.length:=by omega
  have hw:IntKind.i64.wrap ((j:Int)+1)=(j:Int)+1:=aH (by omega);have hvg:(D.vs l)[j]'(by rw[aa];omega)=(l[j]).v:=ac _;have hcx:=hcall _ (List.getElem_mem hm) ((h++R)++[.cells (l[j]).v.cells]) ((hc.app R).app _) (tS hlR _);rw[nD _ hm] at hfx;have hlR2:=tS hlR l[j];generalize l[j]=x at *;subst hb;simp only[List.append_assoc] at hcx;by_cases h0:g bs x=0
  ·rw[if_pos h0] at hfx;rw[h0] at hcx;simp -implicitDefEqProofs [x188l9_w,e0,e2,e10,e11,e12,hsl,hvg,hlt,hm,ae,hcx];refine⟨k-1,by omega,?_⟩;rw[hJ];refine⟨j+1,R++[.cells x.v.cells],by omega,by simp[au,hw],?_,?_,hfx⟩
   ·simp
   ·simpa using hlR2
  ·have h0b:(g bs x != 0)=true:=by simp[h0]
   rw[if_neg h0] at hfx;rw[hfx];have htk:∀Z,(h++(R++Z)).take h.length=h:=fun Z=>by rw[List.take_append_of_le_length (nL _),List.take_length]
   simp -implicitDefEqProofs [x188l9_w,x188_r,e0,e2,e10,e11,e12,hsl,hvg,hlt,hm,ae,hcx,h0b,htk]
 ·have hlt:¬(j:Int)<l.length:=by omega
  obtain rfl:j=l.length:=by omega
  subst hb;have htk:(h++R).take h.length=h:=by rw[List.take_append_of_le_length (nL _),List.take_length]
  have h0:li (g bs) l=0:=by rw[hfx,List.drop_length];rfl
  rw[h0];simp -implicitDefEqProofs [x188l9_w,x188_r,e0,e2,e10,e11,e12,hsl,hlt,htk]
theorem Ge {m c:Nat}{sk:Sk}{B:Nat}{g:List ByteArray→D→Int}{d:D}(hK:∀x∈d.kids,Ex17 m c sk B g x) (hl:d.sz<100000000000) (hB:B+40≤m) (i i2:SI){bs:List ByteArray}(hrs:bs.length+d.sz≤B){h:List O}(hc:SkAt h c sk) (hh:bh h) :
  call X E (m+2) 190 [.ref c 0,.sl (D.vs d.kids) i,.sl (ss bs) i2] h=some (.c (.int .i64 (fxC g sk bs d)),h):=by
 have hkl:=bV d;have c106:∀(x:D) h,call X E (m+1) 106 [x.v] h=some (.c (.bool x.lab),h):=fun x=>by
  obtain⟨m',rfl⟩:∃m',m=m'+1:=⟨m-1,by omega⟩
  exact EX x
 have c172:∀(x:D) h,call X E (m+1) 172 [x.v] h=some (x.key,h):=fun x=>v7 x
 have c188:∀i,call X E (m+1) 188 [.ref c 0,.sl (D.vs (d.kids.drop 2)) i,.sl (ss bs) .any] h=some (.c (.int .i64 (li (g bs) (d.kids.drop 2))),h):=fun i=>Ez (fun x hx=>hK x (bY hx)) (by simp;omega) (by simp;omega) i .any (fun x hx=>by have:=aW (bY hx);omega) hc hh
 obtain⟨m0,h1,h2⟩:=hc;have hlk:=tD h2 (d.kid 1);have hr2:(V.ref c 0).vw2=.ref c 0:=rfl;have hsl:=aa d.kids;have hz:=D.hz;have hkey:(d.kid 1).key.vw2=(d.kid 1).key:=rfl;refine pa rfl rfl rfl (by kernel_rfl) ⟨rfl,rfl⟩ (by simp[V.low]) hh ?_;unfold fxC;generalize call X E (m+1)=cf at *;generalize ss bs=S at *;by_cases hl2:d.kids.length<2
 ·have hl2i:(d.kids.length:Int)<2:=by omega
  rw[if_pos (.inl hl2)];simp -implicitDefEqProofs [x190_w,x190_r,aM,hsl,hl2i]
 have hl2i:¬(d.kids.length:Int)<2:=by omega
 have hl1:1<d.kids.length:=by omega
 have hl1i:(1:Int)<d.kids.length:=by omega
 have v1:((D.vs d.kids)[1]'(by rw[aa];exact hl1))=(d.kid 1).v:=ah _;cases hlb:(d.kid 1).lab with
 | false =>
  have c106x:=c106 (d.kid 1);rw[hlb] at c106x;rw[if_pos (.inr rfl)];simp -implicitDefEqProofs [x190_w,x190_r,aM,hsl,hl2i,hl1,hl1i,v1,ae,c106x]
 | true =>
 have c106x:=c106 (d.kid 1);rw[hlb] at c106x;rw[if_neg (by rintro (h|h);exact hl2 h;cases h)];cases hf:fkK sk (d.kid 1).key2 with
 | none =>
  rw[hf] at hlk;simp only[skR] at hlk;simp -implicitDefEqProofs [-bE,x190_w,x190_r,aM,hsl,hl2i,hl1,hl1i,v1,ae,c106x,c172,h1,hlk]
 | some k =>
  rw[hf] at hlk;simp only[skR] at hlk;have hw2:IntKind.i64.wrap ((d.kids.length:Int)-2)=(d.kids.length:Int)-2:=aH (by omega);by_cases hk:(k:Int)=(d.kids.length:Int)-2
  ·have hkb:((k:Int) != (d.kids.length:Int)-2)=false:=by simp[hk]
   simp only;rw[if_neg (by simpa using hk)];have h2l:2≤d.kids.length:=by omega
   have h2li:(2:Int)≤d.kids.length:=by omega
   simp -implicitDefEqProofs [-bE,x190_w,x190_r,aM,hsl,hl2i,hl1,hl1i,h2l,h2li,v1,ae,c106x,c172,h1,hlk,hw2,hkb,hz,c188]
  ·have hkb:((k:Int) != (d.kids.length:Int)-2)=true:=by simp[hk]
   simp only;rw[if_pos hk];simp -implicitDefEqProofs [-bE,x190_w,x190_r,aM,hsl,hl2i,hl1,hl1i,v1,ae,c106x,c172,h1,hlk,hw2,hkb]
theorem Gi (l:List ByteArray) (i:SI){n:Nat}:bg (n+1) 189 [.sl (ss l) i] (.sl (ss l) .full):=by
 have hlow:=jZ 0 l;have hsl:=eY l;have hz:=zy l;refine aA rfl rfl rfl (by kernel_rfl) ⟨rfl,rfl⟩ (by simp[aM,V.lows,V.low,SI.low,hlow]) ?_;generalize ss l=U at *;simp -implicitDefEqProofs [x189_w,aM,hsl];rw[jJ (us:=U) (i:=.any) 1 _ _ _ (by simp[au,dR]) (by simp[au,hsl]) (by simp[au,hsl]) hz];simp -implicitDefEqProofs [x189_r,V.low,hlow,SI.low]
theorem Hb {m c:Nat}{sk:Sk}{B:Nat}{g:List ByteArray→D→Int}{d:D}(hK:∀x∈d.kids,Ex17 m c sk B g x) (hl:d.sz<100000000000) (hB:B+40≤m) (hB2:B<100000000000):Ex17 (m+3) c sk B (fxB g sk) d:=by
 intro bs i2 h hrs hc hh;show call X E (m+2+1) 170 _ h=_;have hkl:=bV d;have hr2:(V.ref c 0).vw2=.ref c 0:=rfl;have hh2:=tS hh d;have hc2:=hc.app [.cells d.v.cells];have hsl:=aa d.kids;have hz:=D.hz;have c115:∀(x:D) h,call X E (m+2) 115 [x.v] h=some (.c (.bool x.nm),h):=fun x=>Dr x
 have c110:∀i t h,call X E (m+2) 110 [.sl (ss bs) i,.c (.string t)] h=some (.c (.bool (inB bs t)),h):=fun i t h=>EL bs i t (by omega) (by omega) h
 have c159:∀t h,call X E (m+2) 159 [.c (.string t)] h=some (.tup [.c (.int .i64 (arN (wn t))),.c (.bool (arB (wn t)))],h):=fun t h=>Gb t (by omega) h
 have c189:∀i h,call X E (m+2) 189 [.sl (ss bs) i] h=some (.sl (ss bs) .full,h):=fun i h=>Gi bs i h
 have c190:∀i,call X E (m+2) 190 [.ref c 0,.sl (D.vs d.kids) i,.sl (ss bs) .any] (h++[.cells d.v.cells])=some (.c (.int .i64 (fxC g sk bs d)),h++[.cells d.v.cells]):=fun i=>Ge hK hl hB i .any hrs hc2 hh2
 have c188:∀i,call X E (m+2) 188 [.ref c 0,.sl (D.vs (d.kids.drop 1)) i,.sl (ss bs) .any] (h++[.cells d.v.cells])=some (.c (.int .i64 (li (g bs) (d.kids.drop 1))),h++[.cells d.v.cells]):=fun i=>Ez (n:=m+1) (fun x hx=>(hK x (bY hx)).up (by omega)) (by simp;omega) (by simp;omega) i .any (fun x hx=>by have:=aW (bY hx);omega) hc2 hh2
 have c170:∀x∈d.kids,∀(bs':List ByteArray) i H,bs'.length≤bs.length+1→SkAt H c sk→bh H→call X E (m+2) 170 [.ref c 0,x.v,.sl (ss bs') i] H=some (.c (.int .i64 (g bs' x)),H):=fun x hx bs' i H h1 h2 h3=>by
  have:=aW hx;exact ((hK x hx).up (by omega)) bs' i H (by omega) h2 h3
 unfold fxB;generalize m+2=q at *;have htk1:∀R:List O,(h++R).take h.length=h:=fun R=>by rw[List.take_append_of_le_length (nL _),List.take_length]
 by_cases hk1:d.kd=1
 ·rw[if_pos hk1];refine pa rfl rfl rfl (by kernel_rfl) ⟨rfl,rfl⟩ (by simp[V.low]) hh ?_;generalize call X E q=cf at *;have b1:(d.kd==1)=true:=by simp[hk1]
  simp -implicitDefEqProofs [x170_w,x170_r,b1]
 have b1:(d.kd==1)=false:=by simp[hk1]
 rw[if_neg hk1];by_cases hk2:d.kd=2
 ·rw[if_pos hk2];have b2:(d.kd==2)=true:=by simp[hk2]
  have c115x:=c115 d;have c110x:=fun i=>c110 i d.tx
  refine pa rfl rfl rfl (by kernel_rfl) ⟨rfl,rfl⟩ (by simp[V.low]) hh ?_;generalize call X E q=cf at *;cases hn:d.nm with
  | false =>
   rw[hn] at c115x;rw[if_pos rfl];simp -implicitDefEqProofs [x170_w,x170_r,b1,b2,c115x,ae]
  | true =>
   rw[hn] at c115x;rw[if_neg (by simp)];cases hi:inB bs d.tx with
   | false =>
    rw[hi] at c110x;rw[if_pos rfl];generalize ss bs=S at *;simp -implicitDefEqProofs [x170_w,x170_r,b1,b2,c115x,c110x,ae,aM]
   | true =>
    rw[hi] at c110x;rw[if_neg (by simp)];generalize ss bs=S at *;simp -implicitDefEqProofs [x170_w,x170_r,b1,b2,c115x,c110x,ae,aM]
 have b2:(d.kd==2)=false:=by simp[hk2]
 rw[if_neg hk2];by_cases hl0:d.kids.length=0
 ·have hl0b:((d.kids.length:Int)==0)=true:=by simp[hl0]
  rw[if_pos (.inl hl0)];refine pa rfl rfl rfl (by kernel_rfl) ⟨rfl,rfl⟩ (by simp[V.low]) hh ?_;generalize call X E q=cf at *;simp -implicitDefEqProofs [x170_w,x170_r,b1,b2,hsl,hl0b,ae,aM]
 have hl0b:((d.kids.length:Int)==0)=false:=beq_false_of_ne (by omega);have h0l:0<d.kids.length:=by omega
 have h0i:(0:Int)<d.kids.length:=by omega
 have v0:((D.vs d.kids)[0]'(by rw[aa];exact h0l))=(d.kid 0).v:=ah _;by_cases hk0:(d.kid 0).kd=2;rotate_left
 ·have hk0b:((d.kid 0).kd != 2)=true:=by simp[hk0]
  rw[if_pos (.inr hk0)];refine pa rfl rfl rfl (by kernel_rfl) ⟨rfl,rfl⟩ (by simp[V.low]) hh ?_;generalize call X E q=cf at *;simp -implicitDefEqProofs [x170_w,x170_r,b1,b2,hsl,hl0b,h0l,h0i,v0,hk0b,ae,aM]
 have hk0b:((d.kid 0).kd != 2)=false:=by simp[hk0]
 rw[if_neg (by rintro (h|h);exact hl0 h;exact h hk0)];have h1j:(1:Int)≤d.kids.length:=by omega
 have h1n:1≤d.kids.length:=by omega
 have c188t:=c188;rw[List.drop_one] at c188t;refine pa rfl rfl rfl (by kernel_rfl) ⟨rfl,rfl⟩ (by simp[V.low]) hh ?_;by_cases w0:wn (d.kid 0).tx=0
 ·rw[if_pos w0];generalize call X E q=cf at *;by_cases h2:d.kids.length=2
  ·have h2b:((d.kids.length:Int) != 2)=false:=by simp[h2]
   rw[if_neg (by simpa using h2)];simp -implicitDefEqProofs [x170_w,x170_r,b1,b2,hsl,hl0b,h0l,h0i,v0,hk0b,w0,h2b,ae,aM]
  ·have h2b:((d.kids.length:Int) != 2)=true:=by simp;omega
   rw[if_pos h2];simp -implicitDefEqProofs [x170_w,x170_r,b1,b2,hsl,hl0b,h0l,h0i,v0,hk0b,w0,h2b,ae,aM]
 rw[if_neg w0];have w0b:(wn (d.kid 0).tx==0)=false:=by simp[w0]
 by_cases w1:wn (d.kid 0).tx=1
 ·rw[if_pos w1];generalize ss bs=S at *;generalize call X E q=cf at *;by_cases h2:d.kids.length=4
  ·have h2b:((d.kids.length:Int) != 4)=false:=by simp[h2]
   rw[if_neg (by simpa using h2)];simp -implicitDefEqProofs [x170_w,x170_r,b1,b2,hsl,hl0b,h0l,h0i,v0,hk0b,w1,h2b,h1j,h1n,hz,c188t,ae,aM]
  ·have h2b:((d.kids.length:Int) != 4)=true:=by simp;omega
   rw[if_pos h2];simp -implicitDefEqProofs [x170_w,x170_r,b1,b2,hsl,hl0b,h0l,h0i,v0,hk0b,w1,h2b,ae,aM]
 rw[if_neg w1];have w1b:(wn (d.kid 0).tx==1)=false:=by simp[w1]
 by_cases w2:wn (d.kid 0).tx=2
 ·rw[if_pos w2];by_cases h2:d.kids.length=4;rotate_left
  ·have h2b:((d.kids.length:Int) != 4)=true:=by simp;omega
   rw[if_pos (.inl h2)];generalize call X E q=cf at *;simp -implicitDefEqProofs [x170_w,x170_r,b1,b2,hsl,hl0b,h0l,h0i,v0,hk0b,w2,h2b,ae,aM]
  have h2b:((d.kids.length:Int) != 4)=false:=by simp[h2]
  have h4l:d.kids.length=4:=h2;have v1:((D.vs d.kids)[1]'(by rw[aa];omega))=(d.kid 1).v:=ah _;have v2:((D.vs d.kids)[2]'(by rw[aa];omega))=(d.kid 2).v:=ah _;have v3:((D.vs d.kids)[3]'(by rw[aa];omega))=(d.kid 3).v:=ah _;rw[h4l] at hsl hl0b h2b;have c115x:=c115 (d.kid 1);have km2:=bI (d:=d) (j:=2) (by omega);have km3:=bI (d:=d) (j:=3) (by omega);have c2:=c170 (d.kid 2) km2 bs .any _ (by omega) hc2 hh2;cases hn:(d.kid 1).nm with
  | false =>
   rw[hn] at c115x;rw[if_pos (.inr rfl)];generalize call X E q=cf at *;simp -implicitDefEqProofs [x170_w,x170_r,b1,b2,hsl,hl0b,v0,v1,hk0b,w2,h2b,c115x,ae,aM]
  | true =>
  rw[hn] at c115x;rw[if_neg (by rintro (h|h);exact h h2;cases h)];by_cases hg2:g bs (d.kid 2)=0;rotate_left
  ·have hgb:(g bs (d.kid 2) != 0)=true:=by simp[hg2]
   rw[if_pos hg2];generalize call X E q=cf at *;generalize ss bs=S at *;simp -implicitDefEqProofs [x170_w,x170_r,b1,b2,hsl,hl0b,v0,v1,v2,hk0b,w2,h2b,c115x,c2,hgb,ae,aM]
  rw[if_neg (by simpa using hg2)];rw[hg2] at c2;have hss:ss (bs++[(d.kid 1).tx])=ss bs++[.c (.string (d.kid 1).tx)]:=by simp[ss]
  have hlo3:bh (h++[.cells d.v.cells,.tok 1 1,.tok (bs.length+1) 1]):=by
   have:=sV hh2 (e:=[.tok 1 1,.tok (bs.length+1) 1]) (by simp[O.low]);simpa using this
  have hc3:SkAt (h++[.cells d.v.cells,.tok 1 1,.tok (bs.length+1) 1]) c sk:=hc.app _;have c3:=fun i=>c170 (d.kid 3) km3 (bs++[(d.kid 1).tx]) i _ (by simp) hc3 hlo3
  rw[hss] at c3;have hS:=eY bs;have hSz:=zy bs;have hj1:(bs.length+1)*16≤140737488355328:=by omega
  have hj2:bs.length+1≤140737488355328:=by omega
  generalize call X E q=cf at *;generalize ss bs=S at *;simp -implicitDefEqProofs [x170_w,x170_r,b1,b2,hsl,hl0b,v0,v1,v2,v3,hk0b,w2,h2b,c115x,c2,c189,c3,hS,hSz,hj1,hj2,ae,aM];rw[ez h.length (h.length+1+1) 16 none (h++[O.cells d.v.cells,O.tok 1 1,O.dead]) S [] (.c (.string (d.kid 1).tx)) (nH h _ _ _),cJ];have hst:(h++[O.cells d.v.cells,O.tok 1 1,O.dead]).set (h.length+1+1) (.tok (bs.length+1) 1)=h++[O.cells d.v.cells,O.tok 1 1,.tok (bs.length+1) 1]:=by
   rw[List.set_append_right _ _ (by omega),show h.length+1+1-h.length=2 by omega];rfl
  have hz1:zc none=1:=rfl;simp -implicitDefEqProofs [x170_r,hS,hz1,hst,c3]
 rw[if_neg w2];by_cases w3:wn (d.kid 0).tx=3
 ·rw[if_pos w3];generalize call X E q=cf at *;generalize ss bs=S at *;simp -implicitDefEqProofs [x170_w,x170_r,b1,b2,hsl,hl0b,h0l,h0i,v0,hk0b,w3,c190,ae,aM]
 rw[if_neg w3];have w2b:(wn (d.kid 0).tx==2)=false:=by simp[w2]
 have w3b:(wn (d.kid 0).tx==3)=false:=by simp[w3]
 have c159x:=c159 (d.kid 0).tx;generalize hww:wn (d.kid 0).tx=w at *;generalize ss bs=S at *;generalize call X E q=cf at *;cases hA:arB w with
 | false =>
  rw[hA] at c159x;rw[if_pos rfl];simp -implicitDefEqProofs [x170_w,x170_r,b1,b2,hsl,hl0b,h0l,h0i,v0,hk0b,hww,w0b,w1b,w2b,w3b,c159x,ae,aM]
 | true =>
  rw[hA] at c159x;rw[if_neg (by simp)];have hw1:IntKind.i64.wrap ((d.kids.length:Int)-1)=(d.kids.length:Int)-1:=aH (by omega);by_cases hn:arN w=(d.kids.length:Int)-1
  ·have hnb:(arN w != (d.kids.length:Int)-1)=false:=by simp[hn]
   rw[if_neg (by simpa using hn)];simp -implicitDefEqProofs [x170_w,x170_r,b1,b2,hsl,hl0b,h0l,h0i,v0,hk0b,hww,w0b,w1b,w2b,w3b,c159x,hw1,hnb,h1j,h1n,hz,c188t,ae,aM]
  ·have hnb:(arN w != (d.kids.length:Int)-1)=true:=by simp[hn]
   rw[if_pos hn];simp -implicitDefEqProofs [x170_w,x170_r,b1,b2,hsl,hl0b,h0l,h0i,v0,hk0b,hww,w0b,w1b,w2b,w3b,c159x,hw1,hnb,ae,aM]
theorem rf {c:Nat}{sk:Sk}{B:Nat}(hB2:B<10000000000):∀(f:Nat) (d:D),d.sz≤f→d.sz<100000000000→∀m,B+40+3*f≤m→Ex17 m c sk B (fxN f sk) d
 | 0,d,h,_,_,_=>by have:=ap d;omega
 | f+1,d,h,hl,m,hm=>by
  obtain⟨m,rfl⟩:∃m',m=m'+3:=⟨m-3,by omega⟩
  exact Hb (fun x hx=>by have:=aW hx;exact rf hB2 f x (by omega) (by omega) m (by omega)) hl (by omega) (by omega)
def rN:Sk→List D→Int
 | _,[]=>0
 | sk,d::r=>if fhF sk d=0 then rN (sk++[fhN d]) r else fhF sk d
theorem wi (sk:Sk){l:List D}{j:Nat}(h:j<l.length):rN sk (l.drop j)=if fhF sk l[j]=0 then rN (sk++[fhN l[j]]) (l.drop (j+1)) else fhF sk l[j]:=by
 rw[dC h,rN]
def D.fhd (t:D):Int :=
 if t.ck≠0 then t.ck else
 if t.kd≠3∨t.kids.length=0 then 4 else
 if 4000<t.kids.length then 3 else rN [] t.kids
theorem ni (m:Nat) (sk:Sk):V.shifts m (skV sk)=skV sk:=by
 induction sk with
 | nil=>rfl
 | cons p sk ih =>
  simp only[skV,List.map_cons,V.shifts] at ih ⊢;rw[ih];rfl
theorem GX (t:D) (hs:t.sz<1000000000){n:Nat}(hn:4*t.sz+400≤n){h:List O}(hh:bh h):∃e,call X E (n+1) 169 [t.v] h=some (.tup [.ref (h.length+2) 0,.c (.int .i64 t.fhd)],h++e)∧(t.fhd=0→bh (h++e)∧SkAt (h++e) (h.length+2) (t.kids.map fhN)):=by
 rw[cR (xf:=x169) rfl rfl rfl];obtain⟨P,hP⟩:∃P:V→List O→Prop,P=fun v H=>v=.tup [.ref 2 0,.c (.int .i64 t.fhd)]∧(t.fhd=0→bh H∧H[2]?=some (.cells [.mref 1])∧H[1]?=some (.mapo (skK (t.kids.map fhN)) (skV (t.kids.map fhN)))):=⟨_,rfl⟩
 have hPe:∀r H,t.fhd=r→r≠0→P (.tup [.ref 2 0,.c (.int .i64 r)]) H:=fun r H h1 h2=>by rw[hP];subst h1;exact⟨rfl,fun h=>absurd h h2⟩
 have hPo:∀H,t.fhd=0→bh H→H[2]?=some (.cells [.mref 1])→H[1]?=some (.mapo (skK (t.kids.map fhN)) (skV (t.kids.map fhN)))→P (.tup [.ref 2 0,.c (.int .i64 0)]) H:=fun H h1 h2 h3 h4=>by rw[hP];exact⟨by rw[h1],fun _=>⟨h2,h3,h4⟩⟩
 obtain⟨v,H,h1,h2⟩:=iv (cf:=call X E n) (n:=n) (xf:=x169) (args:=[t.v]) (h:=h) (P:=P) (by kernel_rfl) rfl rfl (by simp[V.lows,D.low]) (by
  refine cq ?_;clear hP;have c46:∀h,call X E n 46 [t.v] h=some (.c (.int .i64 t.ck),h):=Gd t (by omega) n (by omega);obtain⟨n,rfl⟩:∃n',n=n'+5:=⟨n-5,by omega⟩
  have c187:∀x∈t.kids,∀(sk:Sk) (h:List O),h[2]?=some (.cells [.mref 1])→h[1]?=some (.mapo (skK sk) (skV sk))→bh h→call X E (n+5) 187 [.ref 2 0,x.v] h=some (.c (.int .i64 (fhF sk x)),if fhF sk x=0 then h.set 1 (.mapo (skK (sk++[fhN x])) (skV (sk++[fhN x]))) else h):=fun x hx sk h h1 h2 h3=>by
   have:=aW hx;exact G9 x h1 h2 h3 (by omega) (by omega)
  have hkl:=bV t;have hsl:=aa t.kids;unfold D.fhd at hPe hPo;by_cases h0:t.ck=0;rotate_left
  ·have h0b:(t.ck != 0)=true:=by simp[h0]
   rw[if_pos h0] at hPe;generalize n+5=m at *;generalize call X E m=cf at *;simp -implicitDefEqProofs [x169_w,x169_r,ae,c46,h0b];exact⟨⟨rfl,rfl⟩,hPe _ _ rfl h0⟩
  rw[if_neg (by omega)] at hPe hPo;rw[h0] at c46;by_cases hk3:t.kd=3;rotate_left
  ·have hk3b:(t.kd != 3)=true:=by simp[hk3]
   rw[if_pos (.inl hk3)] at hPe;generalize n+5=m at *;generalize call X E m=cf at *;simp -implicitDefEqProofs [x169_w,x169_r,ae,c46,hk3b];exact⟨⟨rfl,rfl⟩,hPe _ _ rfl (by decide)⟩
  have hk3b:(t.kd != 3)=false:=by simp[hk3]
  by_cases hl0:t.kids.length=0
  ·have hl0b:((t.kids.length:Int)==0)=true:=by simp[hl0]
   rw[if_pos (.inr hl0)] at hPe;generalize n+5=m at *;generalize call X E m=cf at *;simp -implicitDefEqProofs [x169_w,x169_r,ae,c46,hk3b,hsl,hl0b];exact⟨⟨rfl,rfl⟩,hPe _ _ rfl (by decide)⟩
  have hl0b:((t.kids.length:Int)==0)=false:=beq_false_of_ne (by omega);rw[if_neg (by rintro (h|h);exact h hk3;exact hl0 h)] at hPe hPo;by_cases hl4:4000<t.kids.length
  ·have hl4i:(4000:Int)<t.kids.length:=by omega
   rw[if_pos hl4] at hPe;generalize n+5=m at *;generalize call X E m=cf at *;simp -implicitDefEqProofs [x169_w,x169_r,ae,c46,hk3b,hsl,hl0b,hl4i];exact⟨⟨rfl,rfl⟩,hPe _ _ rfl (by decide)⟩
  have hl4i:¬(4000:Int)<t.kids.length:=by omega
  rw[if_neg hl4] at hPe hPo;generalize hm5:n+5=m at *;generalize call X E m=cf at *;simp -implicitDefEqProofs [x169_w,ae,c46,hk3b,hsl,hl0b,hl4i];refine⟨⟨rfl,rfl⟩,?_⟩;have hlo0:bh [O.cells t.v.cells,.mapo [] [],.cells [.mref 1]]:=by
   have:=D.low_cells 3 t;simp[bh,O.low,V.lows,V.low,this]
  generalize t.kids=T at *;obtain⟨J,hJ⟩:∃J:Nat→SF→Prop,J=fun k s'=>∃j,j+k=T.length∧s'.e 38=.c (.int .i64 j)∧s'.h[2]?=some (.cells [.mref 1])∧s'.h[1]?=some (.mapo (skK ((T.take j).map fhN)) (skV ((T.take j).map fhN)))∧bh s'.h∧rN [] T=rN ((T.take j).map fhN) (T.drop j):=⟨_,rfl⟩
  refine bn J T.length (by omega) (by rw[hJ];exact⟨0,by simp,by simp[au],rfl,rfl,hlo0,by simp⟩) ?_;rintro k ⟨e,h',base,rb⟩ hj he hb;rw[hJ] at hj;obtain⟨j,hj,e38,f2,f1,hlo,hfx⟩:=hj;have e4:=he 4 rfl;have e36:=he 36 rfl;have e37:=he 37 rfl;simp[au] at e4 e36 e37 hb;simp only at e38 f2 f1 hlo;subst hb;by_cases hm:j<T.length;rotate_left
  ·have hlt:¬(j:Int)<T.length:=by omega
   obtain rfl:j=T.length:=by omega
   rw[List.take_of_length_le (nL _)] at f1 hfx;rw[List.drop_length,rN] at hfx;simp -implicitDefEqProofs [x169l17_w,x169_r,e4,e36,e37,e38,hlt];exact hPo _ hfx hlo f2 f1
  have hlt:(j:Int)<T.length:=by omega
  have hw:IntKind.i64.wrap ((j:Int)+1)=(j:Int)+1:=aH (by omega);have hvg:(D.vs T)[j]'(by rw[aa];omega)=(T[j]).v:=ac _;have c187x:=c187 _ (List.getElem_mem hm) ((T.take j).map fhN) (h'++[.cells (T[j]).v.cells]) (co f2 _) (co f1 _) (tS hlo _);rw[wi _ hm] at hfx;have htk:(T.take (j+1)).map fhN=(T.take j).map fhN++[fhN T[j]]:=by
   rw[List.take_add_one,gE hm,List.map_append];rfl
  have hlD:=tS hlo T[j];obtain⟨sk1,hsk1⟩:∃sk1,sk1=(T.take (j+1)).map fhN:=⟨_,rfl⟩
  rw[← hsk1] at htk;generalize T[j]=x at *;generalize (T.take j).map fhN=sk at *;rw[← htk] at hfx c187x;by_cases h9:fhF sk x=0
  ·rw[if_pos h9] at hfx c187x;rw[h9] at c187x;have hl1:1<h'.length:=(gS.1 f1).1;have hl2:2<h'.length:=(gS.1 f2).1;simp -implicitDefEqProofs [x169l17_w,e4,e36,e37,e38,hlt,hm,hsl,hvg,ae,c187x,hw];refine⟨k-1,by omega,?_⟩;rw[hJ];refine⟨j+1,by omega,by simp[au],?_,?_,?_,?_⟩
   ·rw[sN (by omega)];exact co f2 _
   ·rw[← hsk1];exact ij (co f1 _) _
   ·exact eV hlD (pG _ _)
   ·rw[← hsk1];exact hfx
  ·rw[if_neg h9] at hfx c187x;have h9b:(fhF sk x != 0)=true:=by simp[h9]
   simp -implicitDefEqProofs [x169l17_w,x169_r,e4,e36,e37,e38,hlt,hm,hsl,hvg,ae,c187x,h9b];exact hPe _ _ hfx h9)
 rw[hP] at h1;obtain⟨rfl,h3⟩:=h1;refine⟨H.map (O.shift h.length),?_,fun h0=>?_⟩
 ·rw[h2,Nat.add_comm];rfl
 ·obtain⟨h4,h5,h6⟩:=h3 h0;refine⟨kz hh h4,h.length+1,?_,?_⟩
  ·rw[aR (by omega),Nat.add_sub_cancel_left,List.getElem?_map,h5];simp only[Option.map_some,O.shift,V.shifts,V.shift];rw[Nat.add_comm]
  ·rw[aR (by omega),Nat.add_sub_cancel_left,List.getElem?_map,h6];simp only[Option.map_some,O.shift,ni]
theorem AL:∀(l:List D) (sk:Sk),rN sk l=0→∀x∈l,∃sk,fhF sk x=0
 | [],_,_,x,hx=>by cases hx
 | d::l,sk,h,x,hx=>by
  rw[rN] at h;split at h
  ·rename_i h0;rcases List.mem_cons.1 hx with rfl|hx
   ·exact⟨_,h0⟩
   ·exact AL l _ h x hx
  ·rename_i h0;exact absurd h h0
theorem yG {sk:Sk}{d:D}(h:fhF sk d=0):d.kd=3∧d.kids.length=3∧(d.kid 0).lab=true∧(d.kid 1).nms D.nm=true∧(d.kid 1).kids.length≤8:=by
 unfold fhF at h;split at h;rotate_left
 ·cases h
 split at h
 ·cases h
 rename_i h1 h2;split at h
 ·cases h
 rename_i h3;rw[bT] at h1;have he:=h1.1;unfold D.els at he;simp only[bT,beq_iff_eq,Bool.or_eq_true,dT] at he;have:=he.2.2;simp only[Bool.false_eq_true,false_or] at this;simp only[Bool.or_eq_true,not_or,Bool.not_eq_true',Bool.not_eq_false] at h2;exact⟨he.1,by omega,h1.2,h2.2,by omega⟩
def fbD (t d:D):Int:=fxN t.sz (t.kids.map fhN) (txs (d.kid 1).kids) (d.kid 2)
def D.fck (t:D):Int:=if t.fhd≠0 then t.fhd else li (fbD t) t.kids
theorem eO {t:D}(h:t.fhd=0):t.ck=0∧t.kd=3∧0<t.kids.length∧t.kids.length≤4000∧rN [] t.kids=0∧∀x∈t.kids,x.kd=3∧x.kids.length=3∧(x.kid 0).lab=true∧(x.kid 1).nms D.nm=true∧(x.kid 1).kids.length≤8:=by
 unfold D.fhd at h;split at h
 ·rename_i h0;exact absurd h h0
 split at h
 ·cases h
 split at h
 ·cases h
 rename_i h1 h2 h3;refine⟨by omega,?_,?_,by omega,h,fun x hx=>?_⟩
 ·exact Classical.byContradiction fun hc=>h2 (.inl hc)
 ·have:¬t.kids.length=0:=fun hc=>h2 (.inr hc)
  omega
 ·obtain⟨sk,h4⟩:=AL _ _ h x hx;exact yG h4
theorem G1 (t:D) (hs:t.sz<1000000000){n:Nat}(hn:6*t.sz+500≤n):bg (n+1) 137 [t.v] (.c (.int .i64 t.fck)):=by
 have hlo:bh [O.cells t.v.cells]:=by
  have:=aq 1 t;simp[bh,this]
 obtain⟨e,c169,hok⟩:=GX t hs (n:=n-1) (by omega) hlo;rw[Nat.sub_add_cancel (by omega)] at c169;have hkl:=bV t;have hsl:=aa t.kids;unfold D.fck;by_cases h0:t.fhd=0;rotate_left
 ·have h0b:(t.fhd != 0)=true:=by simp[h0]
  rw[if_pos h0];refine aA rfl rfl rfl (by kernel_rfl) ⟨rfl,rfl⟩ (by simp[V.lows]) ?_;simp only[List.cons_append,List.nil_append,lC,List.length_nil] at c169;generalize call X E n=cf at *;simp -implicitDefEqProofs [x137_w,x137_r,ae,c169,h0b]
 obtain⟨hlo2,hsk⟩:=hok h0;obtain⟨q1,q2,q3,q4,q5,q6⟩:=eO h0;rw[if_neg (by simpa using h0)];rw[h0] at c169;have hin:∀x∈t.kids,x.sz<t.sz∧(x.kid 1).sz<t.sz∧(x.kid 2).sz<t.sz∧(x.kid 1).kids.length<t.sz:=fun x hx=>by
  obtain⟨p1,p2,_⟩:=q6 x hx;have a0:=aW hx;have a1:=aW (bI (d:=x) (j:=1) (by omega));have a2:=aW (bI (d:=x) (j:=2) (by omega));have a3:=bV (x.kid 1);exact⟨by omega,by omega,by omega,by omega⟩
 have c107:∀x∈t.kids,∀h,call X E n 107 [(x.kid 1).v] h=some (.tup [.sl (ss (txs (x.kid 1).kids)) .any,.c (.bool true)],h):=fun x hx h=>by
  obtain⟨m,rfl⟩:∃m,n=m+1:=⟨n-1,by omega⟩
  have a:=hin x hx;have:=D9 (x.kid 1) (n:=m) (by omega) (by omega) h;rw[(q6 x hx).2.2.2.1,if_pos rfl] at this;exact this
 have c170:∀x∈t.kids,∀i R,bh ([O.cells t.v.cells]++e++R)→call X E n 170 [.ref 3 0,(x.kid 2).v,.sl (ss (txs (x.kid 1).kids)) i] ([O.cells t.v.cells]++e++R)=some (.c (.int .i64 (fbD t x)),[O.cells t.v.cells]++e++R):=fun x hx i R hR=>by
  have a:=hin x hx;exact rf (B:=2*t.sz+10) (by omega) t.sz (x.kid 2) (by omega) (by omega) n (by omega) _ i _ (by rw[gN];omega) (hsk.app R) hR
 refine aA rfl rfl rfl (by kernel_rfl) ⟨rfl,rfl⟩ (by simp[V.lows]) ?_;generalize hH:[O.cells t.v.cells]++e=H at *;have hget0:H[0]?=some (.cells t.v.cells):=by rw[← hH];rfl
 simp only[lC,List.length_nil] at c169;generalize call X E n=cf at *;simp -implicitDefEqProofs [x137_w,ae,c169,hget0];refine⟨by rw[← hH];simp,?_⟩;generalize t.kids=T at *;have c170':∀x∈T,∀i R Z,bh (H++R)→Z=H++R→cf 170 [.ref 3 0,(x.kid 2).v,.sl (ss (txs (x.kid 1).kids)) i] Z=some (.c (.int .i64 (fbD t x)),Z):=fun x hx i R Z h1 h2=>by rw[h2];exact c170 x hx i R h1
 obtain⟨J,hJ⟩:∃J:Nat→SF→Prop,J=fun k s'=>∃j R,j+k=T.length∧s'.e 21=.c (.int .i64 j)∧s'.h=H++R∧bh (H++R)∧li (fbD t) T=li (fbD t) (T.drop j):=⟨_,rfl⟩
 refine bn J T.length (by omega) (by rw[hJ];exact⟨0,[],by simp,by simp[au],by simp,by simpa using hlo2,by simp⟩) ?_;rintro k ⟨e,h',base,rb⟩ hj he hb;rw[hJ] at hj;obtain⟨j,R,hj,e21,hh',hlR,hfx⟩:=hj;have e3:=he 3 rfl;have e19:=he 19 rfl;have e20:=he 20 rfl;simp[au] at e3 e19 e20 hb;simp only at e21 hh';subst hh' hb;by_cases hm:j<T.length;rotate_left
 ·have hlt:¬(j:Int)<T.length:=by omega
  obtain rfl:j=T.length:=by omega
  have h9:li (fbD t) T=0:=by rw[hfx,List.drop_length];rfl
  rw[h9];simp -implicitDefEqProofs [x137l13_w,x137_r,e3,e19,e20,e21,hlt]
 have hlt:(j:Int)<T.length:=by omega
 have hw:IntKind.i64.wrap ((j:Int)+1)=(j:Int)+1:=aH (by omega);have hvg:(D.vs T)[j]'(by rw[aa];omega)=(T[j]).v:=ac _;have hmem:=List.getElem_mem hm;have c107x:=c107 _ hmem;have hk3:=(q6 _ hmem).2.1;have hlD:=tS hlR T[j];have c170x:=fun i=>c170' _ hmem i (R++[O.cells (T[j]).v.cells]) (H++(R++[O.cells (T[j]).v.cells])) (by rw[← List.append_assoc];exact hlD) rfl
 rw[nD _ hm] at hfx;generalize T[j]=x at *;have v1:((D.vs x.kids)[1]'(by rw[aa];omega))=(x.kid 1).v:=ah _;have v2:((D.vs x.kids)[2]'(by rw[aa];omega))=(x.kid 2).v:=ah _;have hxl:=aa x.kids;rw[hk3] at hxl;generalize ss (txs (x.kid 1).kids)=S at *;by_cases h9:fbD t x=0
 ·rw[if_pos h9] at hfx;rw[h9] at c170x;simp -implicitDefEqProofs [x137l13_w,e3,e19,e20,e21,hlt,hm,hsl,hvg,hk3,hxl,v1,v2,ae,c107x,c170x,hw];refine⟨k-1,by omega,?_⟩;rw[hJ];exact⟨j+1,R++[.cells x.v.cells],by omega,by simp[au],by simp,by rw[← List.append_assoc];exact hlD,hfx⟩
 ·rw[if_neg h9] at hfx;have h9b:(fbD t x != 0)=true:=by simp[h9]
  rw[hfx];simp -implicitDefEqProofs [x137l13_w,x137_r,e3,e19,e20,e21,hlt,hm,hsl,hvg,hk3,hxl,v1,v2,ae,c107x,c170x,h9b]
theorem Hc (d:D) (hk:1<d.kids.length) (hb:(d.kid 1).kids.length<100000000){n:Nat}(hn:(d.kid 1).kids.length<n):∃si,(si=.nil∨si=.any)∧bg (n+1) 138 [d.v] (.sl (ss (txs (d.kid 1).kids)) si):=by
 refine⟨if (d.kid 1).kids=[] then .nil else .any,by split<;>simp,?_⟩;have v1:((D.vs d.kids)[1]'(by rw[aa];omega))=(d.kid 1).v:=ah _;have hki:(1:Int)<d.kids.length:=by omega
 have hsd:=aa d.kids;refine aA rfl rfl rfl (by kernel_rfl) ⟨rfl,rfl⟩ (by simp[V.lows]) ?_;generalize call X E n=cf at *;obtain⟨l,hl⟩:∃l,(d.kid 1).kids=l:=⟨_,rfl⟩
 rw[hl] at hb hn ⊢;have hsl:=aa l;have hlow2:(V.sl (ss (txs l)) (if l=[] then SI.nil else SI.any)).low 0=true:=by
  simp only[V.low,jZ,Bool.true_and];split<;>rfl
 simp -implicitDefEqProofs [x138_w,ae,hsd,hk,hki,v1,hl,hsl];obtain⟨J,hJ⟩:∃J:Nat→SF→Prop,J=fun k s'=>∃j si,j+k=l.length∧s'.e 12=.c (.int .i64 j)∧s'.e 3=.sl (ss (txs (l.take j))) si∧Grows 1 (ss (txs (l.take j))) si s'.h∧si≠.full∧(j=0→si=.nil):=⟨_,rfl⟩
 refine bn J l.length (by omega) (by rw[hJ];exact⟨0,.nil,by simp,by simp[au],by simp[au,txs,ss],by simpa[txs,ss] using Grows.nil 1 _,by simp,fun _=>rfl⟩) ?_;rintro k ⟨e,h',base,rb⟩ hj he hb;rw[hJ] at hj;obtain⟨j,si,hj,e12,e3,hG,hsf,hsn⟩:=hj;have e10:=he 10 rfl;have e11:=he 11 rfl;simp[au] at e10 e11 hb;simp only at e12 e3 hG;subst hb;by_cases hm:j<l.length;rotate_left
 ·have hlt:¬(j:Int)<l.length:=by omega
  obtain rfl:j=l.length:=by omega
  rw[List.take_of_length_le (nL _)] at e3 hG;have hr:(V.sl (ss (txs l)) si).vw=.sl (ss (txs l)) (if l=[] then SI.nil else SI.any):=by
   by_cases h0:l=[]
   ·rw[if_pos h0,hsn (by rw[h0];rfl)];rfl
   ·rw[if_neg h0];rcases hG with⟨h1,_⟩|⟨q,rfl,_⟩
    ·have:l.length=0:=by rw[← gN,← eY,h1];rfl
     exact absurd (List.length_eq_zero_iff.1 this) h0
    ·rfl
  generalize ss (txs l)=U at *;simp -implicitDefEqProofs [x138l8_w,x138_r,e3,e10,e11,e12,hlt];exact⟨hr,hlow2⟩
 have hlt:(j:Int)<l.length:=by omega
 have hw:IntKind.i64.wrap ((j:Int)+1)=(j:Int)+1:=aH (by omega);have hvg:(D.vs l)[j]'(by rw[aa];omega)=(l[j]).v:=ac _;have htk:=qs hm;have hss:ss (txs (l.take (j+1)))=ss (txs (l.take j))++[.c (.string (l[j]).tx)]:=by rw[htk];simp[ss]
 have hz1:=zy (txs (l.take j));have hul:(ss (txs (l.take j))).length=j:=by rw[eY,gN,List.length_take];omega
 have hj1:(j+1)*16≤140737488355328:=by omega
 have hj2:j+1≤140737488355328:=by omega
 obtain⟨L2,hL2⟩:∃L2,L2=ss (txs (l.take (j+1))):=⟨_,rfl⟩
 rw[← hL2] at hss;generalize l[j]=x at *;generalize ss (txs (l.take j))=U at *;simp -implicitDefEqProofs [x138l8_w,e3,e10,e11,e12,hlt,hm,hsl,hvg,ae,hul,hz1,hj1,hj2];refine qt (zz:=none) (hG.app _) (.inl (show (h'++[O.cells x.v.cells,O.tok 1 1,O.dead])[h'.length+1+1]?=some .dead from nH _ _ _ _)) fun si' h'' hG' hl' hk hlw=>?_
 simp -implicitDefEqProofs [e12,hw];refine⟨k-1,by omega,?_⟩;rw[hJ];refine⟨j+1,si',by omega,by simp[au],?_,?_,?_,by omega⟩
 ·rw[← hL2,hss];simp[au]
 ·rw[← hL2,hss];exact hG'
 ·rintro rfl;rcases hG' with⟨h1,_⟩|⟨q,h1,_⟩
  ·exact absurd h1 (by simp)
  ·cases h1
theorem Hp (t:D) (hs:t.sz<1000000000){n:Nat}(hn:6*t.sz+510≤n):∃(d:D) (U:List V) (si:SI),(t.fck=0→U.length=((t.kid 0).kid 1).kids.length)∧bg (n+1) 87 [t.v] (.tup [d.v,.sl U si,.c (.int .i64 t.fck)]):=by
 have c137:∀h,call X E n 137 [t.v] h=some (.c (.int .i64 t.fck),h):=by
  obtain⟨m,rfl⟩:∃m,n=m+1:=⟨n-1,by omega⟩
  exact G1 t hs (by omega)
 have hkl:=bV t;by_cases h0:t.fck=0;rotate_left
 ·have h0b:(t.fck != 0)=true:=by simp[h0]
  refine⟨.z0,[],.any,fun h=>absurd h h0,?_⟩;refine aA rfl rfl rfl (by kernel_rfl) ⟨rfl,rfl⟩ (by simp[V.lows]) ?_;generalize t.fck=r at *;generalize call X E n=cf at *;simp -implicitDefEqProofs [x87_w,x87_r,ae,c137,h0b,D.z0,D.v,D.vs,V.low,V.lows,SI.low]
 have hf0:t.fhd=0:=by
  unfold D.fck at h0;split at h0
  ·exact h0
  ·rename_i h;exact Classical.byContradiction fun hc=>h hc
 obtain⟨q1,q2,q3,q4,q5,q6⟩:=eO hf0;have km:=bI (d:=t) (j:=0) q3;obtain⟨p1,p2,_⟩:=q6 _ km;have s0:=aW km;have s00:=aW (bI (d:=t.kid 0) (j:=0) (by omega));have s01:=aW (bI (d:=t.kid 0) (j:=1) (by omega));have l01:=bV ((t.kid 0).kid 1);obtain⟨si,hsi,c138⟩:=Hc (t.kid 0) (by omega) (by omega) (n:=n-1) (by omega);rw[Nat.sub_add_cancel (by omega)] at c138;have c138:∀h,call X E n 138 [(t.kid 0).v] h=_:=c138;have c123:∀h,call X E n 123 [((t.kid 0).kid 0).v] h=some (((t.kid 0).kid 0).v,h):=F6 _ (by omega) n (by omega);have hvl:=Hz ((t.kid 0).kid 0);have hUl:(ss (txs ((t.kid 0).kid 1).kids)).length=((t.kid 0).kid 1).kids.length:=by rw[eY,gN]
 refine⟨(t.kid 0).kid 0,ss (txs ((t.kid 0).kid 1).kids),.any,fun _=>hUl,?_⟩;rw[h0] at c137 ⊢;have hlow:=jZ 0 (txs ((t.kid 0).kid 1).kids);have v0:((D.vs t.kids)[0]'(by rw[aa];omega))=(t.kid 0).v:=ah _;have v00:((D.vs (t.kid 0).kids)[0]'(by rw[aa];omega))=((t.kid 0).kid 0).v:=ah _;have q3i:(0:Int)<t.kids.length:=by omega
 have hsl:=aa t.kids;have hsl0:=aa (t.kid 0).kids;rw[p2] at hsl0;refine aA rfl rfl rfl (by kernel_rfl) ⟨rfl,rfl⟩ (by simp[V.lows]) ?_;generalize ss (txs ((t.kid 0).kid 1).kids)=U at *;generalize call X E n=cf at *;simp -implicitDefEqProofs [x87_w,x87_r,ae,c137,hsl,hsl0,q3,q3i,v0,v00,c123,c138,hvl,hlow,V.low,V.lows,SI.low]
def rdy (t:D) (k:Nat):Int:=if t.fck≠0 then t.fck else if k≠((t.kid 0).kid 1).kids.length then 2 else 0
theorem Ib (t:D) (hs:t.sz<1000000000) (G:List V) (hz:Ab.hz 1 G=true) (i:SI) (hG:V.lows 0 G=true){n:Nat}(hn:6*t.sz+511≤n):bg (n+1) 33 [t.v,.sl G i] (.c (.int .i64 (rdy t G.length))):=by
 obtain⟨d,U,si,hU,c87⟩:=Hp t hs (n:=n-1) (by omega);rw[Nat.sub_add_cancel (by omega)] at c87;have c87:∀h,call X E n 87 [t.v] h=_:=c87;refine aA rfl rfl rfl (by kernel_rfl) ⟨rfl,rfl⟩ (by simp[aM,V.lows,V.low,SI.low,hG]) ?_;unfold rdy;generalize call X E n=cf at *;by_cases h0:t.fck=0
 ·have hU:=hU h0;rw[h0] at c87 ⊢;rw[if_neg (by simp)];by_cases hl:G.length=((t.kid 0).kid 1).kids.length
  ·have hlb:((G.length:Int) != U.length)=false:=by rw[hU,hl];simp
   rw[if_neg (by simpa using hl)];simp -implicitDefEqProofs [x33_w,x33_r,ae,c87,aM,hlb]
  ·have hlb:((G.length:Int) != U.length)=true:=by rw[hU];simp;omega
   rw[if_pos hl];simp -implicitDefEqProofs [x33_w,x33_r,ae,c87,aM,hlb]
 ·have h0b:(t.fck==0)=false:=beq_false_of_ne h0;rw[if_pos h0];generalize t.fck=r at *;simp -implicitDefEqProofs [x33_w,x33_r,ae,c87,aM,h0b]
set_option linter.defProp false
section
variable (cf:av) (n:Nat) (s:SF) (K:List Fr) (Q:Ex→SF→Prop)
def x1014000r3_w:=rK' x1014000r3 rfl
def x1014000_w:=bK' x1014000 rfl
end
structure Bd where
 nm:ByteArray
 pr:Bool
 tm:Int
def Bd.v (b:Bd):V:=.agg [.c (.string b.nm),.c (.bool b.pr),.c (.int .i64 b.tm)]
def Bd.no:Bd:=⟨⟨#[]⟩,false,0⟩
def bdV (l:List Bd):List V:=l.map Bd.v
theorem ft (l:List Bd):(bdV l).length=l.length:=by simp[bdV]
theorem el (m:Nat) (l:List Bd):V.lows m (bdV l)=true:=b7 fun v hv=>by
 obtain⟨b,_,rfl⟩:=List.mem_map.1 hv;simp[Bd.v,V.low,V.lows]
theorem tz (m:Nat) (l:List Bd):V.shifts m (bdV l)=bdV l:=by
 induction l with
 | nil=>rfl
 | cons p l ih =>
  simp only[bdV,List.map_cons,V.shifts] at ih ⊢;rw[ih];rfl
theorem C6 {l:List Bd}{j:Nat}(h:j<(bdV l).length):(bdV l)[j]=.agg [.c (.string (l[j]'(by rw[ft] at h;exact h)).nm),.c (.bool (l[j]'(by rw[ft] at h;exact h)).pr),.c (.int .i64 (l[j]'(by rw[ft] at h;exact h)).tm)]:=by simp[bdV,Bd.v]
def fdB:List Bd→ByteArray→Bd
 | [],_=>.no
 | b::r,t=>if eqS b.nm t=true then b else fdB r t
theorem Aj {l:List Bd}{j:Nat}(h:j<l.length) (t:ByteArray):fdB (l.take (j+1)).reverse t=if eqS (l[j]).nm t=true then l[j] else fdB (l.take j).reverse t:=by
 rw[List.take_add_one,gE h,List.reverse_append];rfl
def cap140:List V:=yu 17 [3,4] fun i=>if i=3 then .ref 0 0 else .ref 1 0
def jP (t:ByteArray) (b:Bd) (U:List V) (s:Nat):List O:=[.cells [.c (.string t)],.cells [.c (.string b.nm),.c (.bool b.pr),.c (.int .i64 b.tm)],.cells [.sl U .any],.loop s]
theorem Bb (t:ByteArray) (b:Bd) (l:List Bd) (s:Nat):(jP t b (bdV l) s).all (O.low 4)=true:=by
 have h2:=el 4 l;simp[jP,h2,V.lows,V.low,SI.low,O.low]
theorem zk {n:Nat}(t:ByteArray) (l:List Bd) (i:Int) (x:Bd) :
  call X E (n+1) 1014000 (.c (.int .i64 3)::.c (.int .i64 i)::.agg [.c (.string x.nm),.c (.bool x.pr),.c (.int .i64 x.tm)]::cap140) (jP t .no (bdV l) 0) =
   some (.c (.bool (!(eqS x.nm t))),jP t (if eqS x.nm t=true then x else .no) (bdV l) (if eqS x.nm t=true then 3 else 0)):=by
 have hE:E 1014000=none:=rfl;have hX:X 1014000=some x1014000:=rfl;have hA:x1014000.asg=some ([9,10],x1014000r3):=rfl;simp only[call,hE,hX,hA];rw[if_pos (by simp[jP])];have t3:toE ((cap140.set 9 (.c (.int .i64 i))).set 10 (.agg [.c (.string x.nm),.c (.bool x.pr),.c (.int .i64 x.tm)])) 3=.ref 0 0:=rfl;have t4:toE ((cap140.set 9 (.c (.int .i64 i))).set 10 (.agg [.c (.string x.nm),.c (.bool x.pr),.c (.int .i64 x.tm)])) 4=.ref 1 0:=rfl;have t10:toE ((cap140.set 9 (.c (.int .i64 i))).set 10 (.agg [.c (.string x.nm),.c (.bool x.pr),.c (.int .i64 x.tm)])) 10=.agg [.c (.string x.nm),.c (.bool x.pr),.c (.int .i64 x.tm)]:=rfl;refine xP (tm:=((cap140.set 9 (.c (.int .i64 i))).set 10 (.agg [.c (.string x.nm),.c (.bool x.pr),.c (.int .i64 x.tm)]))) rfl (by kernel_rfl) (by kernel_rfl) ?_;have hlo:=fun b s=>Bb t b l s
 generalize bdV l=U at *;generalize toE ((cap140.set 9 (.c (.int .i64 i))).set 10 (.agg [.c (.string x.nm),.c (.bool x.pr),.c (.int .i64 x.tm)]))=e0 at *;refine cq ?_;cases he:eqS x.nm t with
 | false =>
  have hl:=hlo .no 0;simp -implicitDefEqProofs [x1014000_w,x1014000r3_w,jP,t3,t4,t10];refine cq ?_;simp[jP] at hl;simp -implicitDefEqProofs [x1014000_w,t3,t4,t10,dH,he,Ex.num];exact hl
 | true =>
  have hl:=hlo x 3;simp -implicitDefEqProofs [x1014000_w,x1014000r3_w,jP,t3,t4,t10];refine cq ?_;simp[jP] at hl;simp -implicitDefEqProofs [x1014000_w,t3,t4,t10,dH,he,Ex.num];exact hl
theorem Hh (t:ByteArray) (l:List Bd){n:Nat}(hn:l.length<n) (hl:l.length<1099511627776) :
  call X E (n+1) 193 [.yld 3 1014000 2 cap140,.ref 2 0] (jP t .no (bdV l) 0)=some (.tup [],jP t (fdB l.reverse t) (bdV l) (if (∃b∈l,eqS b.nm t=true) then 3 else 0)):=by
 obtain⟨n,rfl⟩:∃n',n=n'+1:=⟨n-1,by omega⟩
 have hr:∀(i:Int) (x:Bd),call X E (n+1) 1014000 (.c (.int .i64 3)::.c (.int .i64 i)::.agg [.c (.string x.nm),.c (.bool x.pr),.c (.int .i64 x.tm)]::cap140) (jP t .no (bdV l) 0) =
   some (.c (.bool (!(eqS x.nm t))),jP t (if eqS x.nm t=true then x else .no) (bdV l) (if eqS x.nm t=true then 3 else 0)):=fun i x=>zk t l i x
 rw[cR (xf:=x193) rfl rfl rfl];have hlo:=fun b s=>Bb t b l s
 have hsl:=ft l;have hcl:cap140.length=17:=rfl;have hvw:([.yld 3 1014000 2 cap140,.ref 2 0]:List V).map V.vw2=[.yld 3 1014000 2 cap140,.ref 2 0]:=rfl;have h5:∀b s,(jP t b (bdV l) s).length=4:=fun b s=>rfl
 have h3:∀b s,(jP t b (bdV l) s)[2]'(by rw[h5];omega)=.cells [.sl (bdV l) .any]:=fun b s=>rfl
 have hvg:∀(j:Nat) (h:j<l.length),(bdV l)[j]'(by rw[hsl];exact h)=.agg [.c (.string (l[j]).nm),.c (.bool (l[j]).pr),.c (.int .i64 (l[j]).tm)]:=fun j h=>C6 _
 refine fg (by kernel_rfl) rfl rfl (cq ?_);rw[hvw];generalize call X E (n+1)=cf at *;generalize jP t=H at *;generalize hU:bdV l=U at *;simp -implicitDefEqProofs [x193_w,h5,h3,hsl];have hwl:IntKind.i64.wrap ((l.length:Int)-1)=(l.length:Int)-1:=aH (by omega);rw[hwl];generalize cap140=cp at *;obtain⟨J,hJ⟩:∃J:Nat→SF→Prop,J=fun k s=>k≤l.length∧s.e 3=.c (.int .i64 ((k:Int)-1))∧s.h=H .no U 0∧fdB l.reverse t=fdB (l.take k).reverse t∧∀j (h:j<l.length),k≤j→eqS (l[j]).nm t=false:=⟨_,rfl⟩
 refine bn J l.length (by omega) (by rw[hJ];exact⟨nL _,by simp[au],rfl,by simp,fun j h h2=>by omega⟩) ?_;rintro k ⟨e,h,base,rb⟩ hj he hb;rw[hJ] at hj;obtain⟨hk,e3,hh,hfx,hno⟩:=hj;have e0:=he 0 rfl;have e1:=he 1 rfl;simp[au,dR] at e0 e1 hb;simp only at e3 hh;subst hb hh;cases k with
 | zero =>
  have hge:¬(0:Int) ≤ -1:=by omega
  have hfx:fdB l.reverse t=.no:=by rw[hfx];rfl
  have hl0:=hlo .no 0;have hne:¬∃b∈l,eqS b.nm t=true:=by
   rintro⟨b,hb,h1⟩;obtain⟨j,hj,rfl⟩:=List.getElem_of_mem hb;rw[hno j hj (Nat.zero_le _)] at h1;cases h1
  rw[hfx,if_neg hne];simp at e3;simp -implicitDefEqProofs [x193l5_w,x193_r,e0,e1,e3,h5];refine⟨rfl,rfl,?_,by simpa using hl0⟩;rw[List.take_of_length_le (by rw[h5];omega)]
 | succ k =>
  have hkl:k<l.length:=by omega
  have hge:(0:Int)≤(k:Int):=by omega
  have hlt:(k:Int)<l.length:=by omega
  have h3k:((k+1:Nat):Int)-1=(k:Int):=by omega
  rw[h3k] at e3;have hv:=hvg k hkl;rw[Aj hkl] at hfx;have hw:IntKind.i64.wrap ((k:Int)-1)=(k:Int)-1:=aH (by omega);have hrk:=hr k l[k];have hmem:l[k]∈l:=List.getElem_mem hkl;have hno':eqS (l[k]).nm t=false→∀j (h:j<l.length),k≤j→eqS (l[j]).nm t=false:=fun h0 j hj h=>by
   by_cases c:j=k
   ·subst c;exact h0
   ·exact hno j hj (by omega)
  generalize l[k]=x at *;cases hp:eqS x.nm t with
  | false =>
   rw[hp] at hrk hfx;simp only[Bool.not_false,Bool.false_eq_true,if_false] at hrk hfx;simp -implicitDefEqProofs [x193l5_w,e0,e1,e3,h5,h3,hsl,hge,hlt,hkl,hv,hrk];refine⟨k,by omega,?_⟩;rw[hJ];exact⟨by omega,by simp[au,hw],rfl,hfx,hno' hp⟩
  | true =>
   rw[hp] at hrk hfx;simp only[Bool.not_true,if_true] at hrk hfx;rw[hfx,if_pos ⟨x,hmem,hp⟩];have hl1:=hlo x 3;simp -implicitDefEqProofs [x193l5_w,x193_r,e0,e1,e3,h5,h3,hsl,hge,hlt,hkl,hv,hrk];refine⟨rfl,rfl,?_,by simpa using hl1⟩;rw[List.take_of_length_le (by rw[h5];omega)]
theorem Gp (l:List Bd) (i:SI){n:Nat}(h:List O):call X E (n+1) 174 [.sl (bdV l) i] h=some (.clo 193 [.ref h.length 0],h++[.cells [.sl (bdV l) .any]]):=by
 rw[cR (xf:=x174) rfl rfl rfl];have hlow:=el 0 l;have hsh:=tz h.length l;generalize bdV l=U at *;obtain⟨v,H,⟨h1,h2⟩,h3⟩:=iv (cf:=call X E n) (n:=n) (xf:=x174) (args:=[.sl U i]) (h:=h) (P:=fun v H=>v=.clo 193 [.ref 0 0]∧H=[.cells [.sl U .any]]) (by kernel_rfl) rfl rfl (by simp[V.lows,V.low,hlow,SI.low]) (by
  refine cq ?_;simp -implicitDefEqProofs [x174_w,x174_r];simp[V.vwr,V.vw,V.vwf,V.vw2,V.vw1])
 rw[h3,h1,h2];simp[V.shift,V.shifts,O.shift,hsh,SI.shift]
theorem qK {t:ByteArray}:∀{l:List Bd},(¬∃b∈l,eqS b.nm t=true)→fdB l t=.no
 | [],_=>rfl
 | b::l,h=>by
  rw[fdB,if_neg fun h1=>h ⟨b,List.mem_cons_self,h1⟩];exact qK fun ⟨c,hc,h1⟩=>h ⟨c,List.mem_cons_of_mem _ hc,h1⟩
theorem DT (t:ByteArray) (l:List Bd) (i:SI){n:Nat}(hn:l.length+2<n) (hl:l.length<1099511627776):bg (n+1) 140 [.sl (bdV l) i,.c (.string t)] (fdB l.reverse t).v:=by
 obtain⟨n,rfl⟩:∃n',n=n'+1:=⟨n-1,by omega⟩
 have c174:∀i h,call X E (n+1) 174 [.sl (bdV l) i] h=some (.clo 193 [.ref h.length 0],h++[.cells [.sl (bdV l) .any]]):=fun i h=>Gp l i h
 have c193:call X E (n+1) 193 [.yld 3 1014000 2 cap140,.ref 2 0] (jP t .no (bdV l) 0)=some (.tup [],jP t (fdB l.reverse t) (bdV l) (if (∃b∈l,eqS b.nm t=true) then 3 else 0)):=Hh t l (by omega) hl;have hlow:=el 0 l;refine aA rfl rfl rfl (by kernel_rfl) ⟨rfl,rfl⟩ (by simp[V.lows,V.low,hlow,SI.low]) ?_;have hno:(¬∃b∈l,eqS b.nm t=true)→fdB l.reverse t=.no:=fun h=>qK fun ⟨b,hb,h1⟩=>h ⟨b,List.mem_reverse.1 hb,h1⟩
 generalize n+1=m at *;generalize call X E m=cf at *;generalize fdB l.reverse t=b at *;generalize bdV l=U at *;unfold Bd.v;simp -implicitDefEqProofs [x140_w,c174];by_cases hf:∃b∈l,eqS b.nm t=true
 ·rw[if_pos hf] at c193;refine mO _ _ _ _ _ (g:=193) (lb:=[.ref 2 0]) rfl (by decide) (by decide) (h':=jP t b U 3) (e:=.ret) (r:=.tup []) c193 rfl ?_;simp -implicitDefEqProofs [x140_r,jP,V.low,V.lows]
 ·rw[if_neg hf] at c193;rw[hno hf] at c193 ⊢;refine mO _ _ _ _ _ (g:=193) (lb:=[.ref 2 0]) rfl (by decide) (by decide) (h':=jP t .no U 0) (e:=.normal) (r:=.tup []) c193 rfl ?_;simp -implicitDefEqProofs [x140_r,jP,Bd.no,V.low,V.lows]
def tmO (a:Bool):Int:=if a then -2 else -1
def later (a b:Int):Int:=if a = -3∨a=b then b else if b = -3 then a else if a = -2∨b = -2 then -2 else -1
theorem EZ (a:Bool){n:Nat}:bg (n+1) 142 [.c (.bool a)] (.c (.int .i64 (tmO a))):=by
 refine aA rfl rfl rfl (by kernel_rfl) ⟨rfl,rfl⟩ (by simp[V.lows,V.low]) ?_;cases a
 ·simp -implicitDefEqProofs [x142_w,x142_r,tmO]
 ·simp -implicitDefEqProofs [x142_w,x142_r,tmO]
theorem Gc (a b:Int){n:Nat}:bg (n+1) 175 [.c (.int .i64 a),.c (.int .i64 b)] (.c (.int .i64 (later a b))):=by
 refine aA rfl rfl rfl (by kernel_rfl) ⟨rfl,rfl⟩ (by simp[V.lows,V.low]) ?_;unfold later;by_cases h1:a = -3
 ·have h1b:(a == -3)=true:=by simp[h1]
  rw[if_pos (.inl h1)];simp -implicitDefEqProofs [x175_w,x175_r,h1b]
 have h1b:(a == -3)=false:=beq_false_of_ne h1;by_cases h2:a=b
 ·have h2b:(a==b)=true:=by simp[h2]
  rw[if_pos (.inr h2)];simp -implicitDefEqProofs [x175_w,x175_r,h1b,h2b]
 have h2b:(a==b)=false:=beq_false_of_ne h2;rw[if_neg (by rintro (h|h);exact h1 h;exact h2 h)];by_cases h3:b = -3
 ·have h3b:(b == -3)=true:=by simp[h3]
  rw[if_pos h3];simp -implicitDefEqProofs [x175_w,x175_r,h1b,h2b,h3b]
 have h3b:(b == -3)=false:=beq_false_of_ne h3;rw[if_neg h3];by_cases h4:a = -2
 ·have h4b:(a == -2)=true:=by simp[h4]
  rw[if_pos (.inl h4)];simp -implicitDefEqProofs [x175_w,x175_r,h1b,h2b,h3b,h4b]
 have h4b:(a == -2)=false:=beq_false_of_ne h4;by_cases h5:b = -2
 ·have h5b:(b == -2)=true:=by simp[h5]
  rw[if_pos (.inr h5)];simp -implicitDefEqProofs [x175_w,x175_r,h1b,h2b,h3b,h4b,h5b]
 have h5b:(b == -2)=false:=beq_false_of_ne h5;rw[if_neg (by rintro (h|h);exact h4 h;exact h5 h)];simp -implicitDefEqProofs [x175_w,x175_r,h1b,h2b,h3b,h4b,h5b]
theorem HV (a:Int) (ha : -9223372036854775808<a) (hb:a≤9223372036854775807){n:Nat}:bg (n+1) 11 [.c (.int .i64 a)] (.c (.int .i64 (if 0≤a then 0 else -a))):=by
 refine aA rfl rfl rfl (by kernel_rfl) ⟨rfl,rfl⟩ (by simp[V.lows,V.low]) ?_;by_cases h1:0≤a
 ·rw[if_pos h1];simp -implicitDefEqProofs [x11_w,x11_r,h1]
 ·rw[if_neg h1];have hw:IntKind.i64.wrap (-a) = -a:=aH (by omega);simp -implicitDefEqProofs [x11_w,x11_r,h1,hw]
def kT (t a:Int):Int:=if t=a then -1 else if a<t then t-1 else t
theorem HH (t a:Int) (ha : -9223372036854775808<a) (hb:t≤9223372036854775807){n:Nat}:bg (n+1) 12 [.c (.int .i64 t),.c (.int .i64 a)] (.c (.int .i64 (kT t a))):=by
 refine aA rfl rfl rfl (by kernel_rfl) ⟨rfl,rfl⟩ (by simp[V.lows,V.low]) ?_;unfold kT;by_cases h1:t=a
 ·have h1b:(t==a)=true:=by simp[h1]
  rw[if_pos h1];simp -implicitDefEqProofs [x12_w,x12_r,h1b]
 have h1b:(t==a)=false:=beq_false_of_ne h1;rw[if_neg h1];by_cases h2:a<t
 ·have hw:IntKind.i64.wrap (t-1)=t-1:=aH (by omega);rw[if_pos h2];simp -implicitDefEqProofs [x12_w,x12_r,h1b,h2,hw]
 ·rw[if_neg h2];simp -implicitDefEqProofs [x12_w,x12_r,h1b,h2]
def itv (l:List Int):List V:=l.map fun i=>.c (.int .i64 i)
theorem bU (l:List Int):(itv l).length=l.length:=by simp[itv]
theorem fp (m:Nat) (l:List Int):V.lows m (itv l)=true:=b7 fun v hv=>by
 obtain⟨p,_,rfl⟩:=List.mem_map.1 hv;rfl
theorem gZ {l:List Int}{j:Nat}(h:j<(itv l).length):(itv l)[j]=.c (.int .i64 (l[j]'(by rw[bU] at h;exact h))):=by simp[itv]
def ixI:List Int→Int→Nat→Int
 | [],_,_ => -1
 | a::r,x,k=>if x=a then k else ixI r x (k+1)
theorem zO {l:List Int}{x:Int}{j:Nat}(h:j<l.length):ixI (l.drop j) x j=if x=l[j] then (j:Int) else ixI (l.drop (j+1)) x (j+1):=by
 rw[dC h,ixI]
theorem vB:∀(l:List Int) (x:Int) (k:Nat),decide (0≤ixI l x k)=decide (x∈l)
 | [],x,k=>by simp[ixI]
 | a::r,x,k=>by
  rw[ixI];by_cases h:x=a
  ·rw[if_pos h];simp[h]
  ·rw[if_neg h,vB r x (k+1)];simp[h]
theorem F8 (l:List Int) (x:Int) (i:SI){n:Nat}(hn:l.length<n) (hl:l.length<1000000000) (hi:V.low 0 (.sl (itv l) i)=true:=by rfl):bg (n+1) 144 [.sl (itv l) i,.c (.int .i64 x)] (.c (.int .i64 (ixI l x 0))):=by
 have hlow:=fp 0 l;refine aA rfl rfl rfl (by kernel_rfl) ⟨rfl,rfl⟩ (by simp[V.lows,V.low,hlow,SI.low]) ?_;have hsl:=bU l;generalize call X E n=cf at *;simp -implicitDefEqProofs [x144_w,hsl];obtain⟨J,hJ⟩:∃J:Nat→SF→Prop,J=fun k s=>∃j,j+k=l.length∧s.e 8=.c (.int .i64 j)∧ixI l x 0=ixI (l.drop j) x j:=⟨_,rfl⟩
 refine bn J l.length hn (by rw[hJ];exact⟨0,by simp,by simp[au],by simp⟩) ?_;rintro k ⟨e,h',base,rb⟩ hj he hb;rw[hJ] at hj;obtain⟨j,hj,e8,hfx⟩:=hj;have e0:=he 0 rfl;have e1:=he 1 rfl;have e7:=he 7 rfl;simp[au,dR] at e0 e1 e7 hb;simp only at e8;subst hb;by_cases hm:j<l.length;rotate_left
 ·have hlt:¬(j:Int)<l.length:=by omega
  obtain rfl:j=l.length:=by omega
  rw[List.drop_length,ixI] at hfx;rw[hfx];simp -implicitDefEqProofs [x144l8_w,x144_r,e0,e1,e7,e8,hlt]
 have hlt:(j:Int)<l.length:=by omega
 have hw:IntKind.i64.wrap ((j:Int)+1)=(j:Int)+1:=aH (by omega);have hvg:=gZ (l:=l) (j:=j) (by rw[hsl];exact hm);rw[zO hm] at hfx;generalize l[j]=a at *;generalize itv l=U at *;by_cases hx:x=a
 ·have hxb:(x==a)=true:=by simp[hx]
  rw[if_pos hx] at hfx;rw[hfx];simp -implicitDefEqProofs [x144l8_w,x144_r,e0,e1,e7,e8,hlt,hsl,hm,hvg,hxb]
 ·have hxb:(x==a)=false:=beq_false_of_ne hx;rw[if_neg hx] at hfx;simp -implicitDefEqProofs [x144l8_w,e0,e1,e7,e8,hlt,hsl,hm,hvg,hxb,hw];refine⟨k-1,by omega,?_⟩;rw[hJ];exact⟨j+1,by omega,by simp[au],hfx⟩
theorem HC (l:List Int) (x:Int) (i:SI){n:Nat}(hn:l.length+1<n) (hl:l.length<1000000000) (hi:i=.any∨i=.nil):bg (n+1) 92 [.sl (itv l) i,.c (.int .i64 x)] (.c (.bool (decide (x∈l)))):=by
 obtain⟨n,rfl⟩:∃n',n=n'+1:=⟨n-1,by omega⟩
 have hlow:=fp 0 l;have c144:∀h,call X E (n+1) 144 [.sl (itv l) .any,.c (.int .i64 x)] h=some (.c (.int .i64 (ixI l x 0)),h):=F8 l x .any (by omega) hl (by simp[V.low,hlow,SI.low]);have hm:=vB l x 0;refine aA rfl rfl rfl (by kernel_rfl) ⟨rfl,rfl⟩ (by rcases hi with rfl|rfl<;>simp[V.lows,V.low,hlow,SI.low]) ?_;rw[← hm];generalize ixI l x 0=r at *;generalize n+1=m at *;generalize call X E m=cf at *;rcases hi with rfl|rfl <;>
 simp -implicitDefEqProofs [x92_w,x92_r,c144]
theorem mL {n f:Nat}{xf:XF}{args bs:List V}{h:List O}{r:V}(hE:E f=none) (hX:X f=some xf) (ha:xf.asg=none) (hp:xf.pure=true) (he:xf.esc=false)
  (hl:V.lows 0 (args.map V.vw2)=false) (hs:lk (fV 0 h n) (args.map V.vw2)=some bs) (hl2:V.lows 0 bs=true) (hb:bs.map V.vw2=bs) (hc:call X E (n+1) f bs []=some (r,[]))
  (hr:r.flat=true∨(r.nb=true∧(args.map V.vw2).all (nbA h)=true)):call X E (n+1) f args h=some (r,h):=by
 rw[cR hE hX ha] at hc ⊢;unfold fE at hc ⊢;rw[if_pos hp,hb,if_pos hl2,he] at hc;rw[if_pos hp,hl,he];simp only[Bool.false_eq_true,if_false,hs,if_pos hl2,List.length_nil] at hc ⊢;simp only[mS,pI,and_true] at hc;obtain⟨⟨r',h'⟩,hc,rfl⟩:=hc;have hcond:(r'.flat||(r'.nb&&(args.map V.vw2).all (nbA h)))=true:=by
  rcases hr with hr|⟨h1,h2⟩
  ·rw[hr];rfl
  ·rw[h1,h2];simp
 simp only[hc,if_pos hcond]
theorem mT:∀(l:List V),(∀v∈l,v.cells=[v])→∀m,elems none l.length (l++m)=some l
 | [],_,_=>rfl
 | v::l,h,m=>by
  have ih:=mT l (fun v hv=>h v (List.mem_cons_of_mem _ hv)) m;simp only[lC,elems,List.cons_append,rdV,List.getElem?_cons_zero,zc,List.drop_succ_cons,List.drop_zero,ih]
theorem mF (h:List O):∀(l:List V),(∀v∈l,∃x,v=.c x)→∀n,lk (fV 0 h (n+1)) l=some l
 | [],_,_=>rfl
 | v::l,hl,n=>by
  have ih:=mF h l (fun v hv=>hl v (List.mem_cons_of_mem _ hv)) n;obtain⟨x,rfl⟩:=hl _ List.mem_cons_self;have h1:fV 0 h (n+1) (.c x)=some (.c x):=rfl;simp only[lk,h1,ih]
theorem lU {h:List O}{id n:Nat}{l:List V}(hl:∀v∈l,∃x,v=.c x) (hid:h[id]?=some (.cells l)):fV 0 h (n+2) (.row id 0 l.length none)=some (.sl l .any):=by
 have h1:elems none l.length l=some l:=by
  have:=mT l (fun v hv=>by obtain⟨x,rfl⟩:=hl v hv;rfl) []
  rwa [List.append_nil] at this
 show bx 0 (fV 0 h (n+1)) h (.row id 0 l.length none)=_;simp only[bx,hid,List.drop_zero,h1,mF h l hl n,Option.map_some];simp
theorem Eo (l:List Int):∀v∈itv l,∃x,v=.c x:=fun v hv=>by
 obtain⟨p,_,rfl⟩:=List.mem_map.1 hv;exact⟨_,rfl⟩
theorem Gv (l:List Int) (x:Int){id:Nat}{h:List O}(hid:h[id]?=some (.cells (itv l))){n:Nat}(hn:l.length+4<n) (hl:l.length<1000000000):call X E (n+1) 92 [.row id 0 l.length none,.c (.int .i64 x)] h=some (.c (.bool (decide (x∈l))),h):=by
 by_cases h0:l=[]
 ·subst h0;refine (aA rfl rfl rfl (by kernel_rfl) ⟨rfl,rfl⟩ (by simp[V.lows,V.low]) ?_:bg (n+1) 92 [.row id 0 0 none,.c (.int .i64 x)] (.c (.bool false))) h;obtain⟨n,rfl⟩:∃n',n=n'+1:=⟨n-1,by omega⟩
  have c144:bg (n+1) 144 [.row id 0 0 none,.c (.int .i64 x)] (.c (.int .i64 (-1))):=by
   refine aA rfl rfl rfl (by kernel_rfl) ⟨rfl,rfl⟩ (by simp[V.lows,V.low]) ?_;generalize call X E n=cf at *;simp -implicitDefEqProofs [x144_w];refine bn (fun k s=>s.e 8=.c (.int .i64 0)) 0 (by omega) (by simp[au]) ?_;rintro k ⟨e,h',base,rb⟩ hj he hb;have e7:=he 7 rfl;simp[au,dR] at e7 hb;simp only at hj;simp -implicitDefEqProofs [x144l8_w,x144_r,e7,hj]
  have c144:∀h,call X E (n+1) 144 [.row id 0 0 none,.c (.int .i64 x)] h=some (.c (.int .i64 (-1)),h):=c144;generalize n+1=m at *;generalize call X E m=cf at *;simp -implicitDefEqProofs [x92_w,x92_r,c144]
 ·obtain⟨n,rfl⟩:∃n',n=n'+2:=⟨n-2,by omega⟩
  have hp:0<l.length:=List.length_pos_iff.2 h0;have hs:fV 0 h (n+2) (.row id 0 l.length none)=some (.sl (itv l) .any):=by
   have:=lU (n:=n) (Eo l) hid
   rwa [bU] at this
  refine mL (bs:=[.sl (itv l) .any,.c (.int .i64 x)]) rfl rfl rfl rfl rfl ?_ ?_ ?_ rfl (HC (n:=n+2) l x .any (by omega) hl (.inl rfl) []) (.inl rfl)
  ·simp[V.lows,V.low,h0]
  ·simp only[List.map_cons,List.map_nil,da,lk,hs];rfl
  ·simp[V.lows,V.low,fp,SI.low]
end Go.Proofs.YtjhffhmokcogkaaGreatDoor.Ab
