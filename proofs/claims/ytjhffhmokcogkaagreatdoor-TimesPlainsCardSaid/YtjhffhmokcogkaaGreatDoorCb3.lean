/- A part. -/
import Derived.Test.YtjhffhmokcogkaaGreatDoorCb2
set_option linter.unusedVariables false
set_option linter.unusedSimpArgs false
set_option linter.defProp false
set_option maxRecDepth 20000
set_option maxHeartbeats 8000000
namespace Go.Proofs.YtjhffhmokcogkaaGreatDoor.Ab
open Go
theorem Ib {cf:aw}{F m k i:Nat}{ps:List Int}{pv fv:V}{f:Nat}{caps:List V}{tm:List V}(hFr:F+1<rid) (hl:tm.length=31) (h1:tm[1]?=some pv) (h2:tm[2]?=some fv) (h7:tm[7]?=some (I64 i)){j:Nat}(h8:tm[8]?=some (.ref j 0))
  (hpv:PV m ps pv) (hfv:bb fv=some (f,caps)){H:List O}{c1 c2 c3 c4:V}(hj:H[j]?=some (.cells [c1,c2,c3,c4])) (hm:H[m]?=some (aJ ps)) (hlow:(H.take m).all (O.low m)=true) (hu:V.low m (.agg [c1,c2,c3,c4])=true) (hcaps:V.lows m caps=true)
  {b:Bool}{h':List O}(he:cV cf f caps k (.agg [c1,c2,c3,c4]) (ps++[(i:Int)]) (H.take m)=some (b,h')) (hh:h'.length=m) (base:Nat) :
  aH (gL F m cf k ps i) (bW F) ⟨tm,H++[O.tok 1 1,O.dead],base,H.length⟩ =
   some ⟨(((((((tm.set 22 (.agg [c1,c2,c3,c4])).set 23 pv).set 24 (I64 i)).set 25 (.sl [I64 i] .full)).set 26 .top).set 27 fv).set 28 (.c (.bool b))).set 29 (.c (.bool !b)),h'++(H++[O.tok 1 1,O.dead]).drop m,base,H.length⟩:=by
 have hml:m<H.length:=(gS.1 hm).1;have g1:tm[1]'(by omega)=pv:=(gS.1 h1).2;have g2:tm[2]'(by omega)=fv:=(gS.1 h2).2;have g7:tm[7]'(by omega)=I64 i:=(gS.1 h7).2;have g8:tm[8]'(by omega)=.ref j 0:=(gS.1 h8).2;have hj':(H++[O.tok 1 1,O.dead])[j]?=some (.cells [c1,c2,c3,c4]):=by rw[aL (gS.1 hj).1];exact hj
 have hm':(H++[O.tok 1 1,O.dead])[m]?=some (aJ ps):=by rw[aL hml];exact hm
 have ht':(H++[O.tok 1 1,O.dead]).take m=H.take m:=List.take_append_of_le_length (by omega);have hk1:gL F m cf k ps i (F+1) [pv,.sl [I64 i] .full] (H++[O.tok 1 1,O.dead])=some (.top,H++[O.tok 1 1,O.dead]):=by
  unfold gL;rw[if_neg (by omega),if_pos rfl];rcases hpv with rfl|⟨rfl,rfl⟩
  ·simp only[I64];rw[if_pos ⟨by simp,by rw[hm'];exact dc ps⟩]
  ·simp only[I64];rw[if_pos (by simp)]
 have hk2:gL F m cf k ps i F [.agg [c1,c2,c3,c4],fv] (H++[O.tok 1 1,O.dead])=some (.c (.bool b),h'++(H++[O.tok 1 1,O.dead]).drop m):=by
  unfold gL;rw[if_pos rfl];simp only[hfv];rw[if_pos ⟨by simp;omega,by rw[hm'];exact dc ps,by rw[ht'];exact hlow,hu,hcaps⟩,ht',he]
 have hcF:F<rid:=by omega
 have hlen:H.length+2≤h'.length+(H.length+2-m):=by omega
 simp[bW,aH,aN,bj,bh,act,aG,bM,ev,hl,g1,g2,g7,g8,hj',rdV,V.vw2,V.vw1,I64,okc,Value.oneCell',V.cells,uK hFr,uK hcF];simp only[I64] at hk1;rw[hk1,em (nL _)];simp[hl,g1,g2,g7,g8];rw[hk2,em (by simpa using hlen)];simp[hl,g1,g2,g7,g8]
theorem HN {cf:aw}{n i:Nat}{tm:List V}(hl:tm.length=31) (h17:tm[17]?=some (I64 i)) (hi:i≤1099511627776) (H:List O) (base rb:Nat) :
  aP cf n eR9 ⟨tm,H,base,rb⟩=some (.normal,⟨(tm.set 30 (I64 (i+1:Nat))).set 17 (I64 (i+1:Nat)),H,base,H.length⟩):=by
 have g17:tm[17]'(by omega)=.c (.int .i64 i):=(gS.1 h17).2;have hw:IntKind.i64.wrap ((i:Int)+1)=(i:Int)+1:=by
  simp only[IntKind.wrap,IntKind.signed,IntKind.bits];simp;omega
 simp[eR9,aP,aH,aN,bj,bh,act,aG,bM,ev,hl,g17,dN,fI,hw,I64]
def cfN:aw:=fun _ _ _=>none
theorem fi {P:Program}:bv P cfN:=fun f args h r h' e=>by cases e
theorem cS (pf:Nat→Nat):cd pf cfN:=fun f args h r h' e=>by cases e
def AtL (g:Gh) (w:World) (h0:List O) (m:Nat) (ps:List Int) (h':List O) (a':Act) (w':World) (st':St):Prop :=
 ∃g',Le g w g' w'∧Sim [] g' w' a' st'∧Quiet (Frb m h0) g h0 g' st'.h∧(∃e,st'.h=h'++(aJ ps::e))∧st'.tm.length=31
theorem DU {u:V}(h:u.cells.length=4):∃c1 c2 c3 c4,u=.agg [c1,c2,c3,c4]:=by
 cases u with
 | agg cs =>
  simp only[V.cells] at h
  match cs,h with
  | [c1,c2,c3,c4],_=>exact⟨c1,c2,c3,c4,rfl⟩
 | _=>simp[V.cells] at h
theorem uM {P:Program}{rw:Bool}{pf:Nat→Nat}{cf:aw}(hm:P.follows .mixedOrders=true){F k:Nat}(hF:pf F=0) (hFr:F+1<rid) (IH:∀f caps,vp P F cf f caps k) (hW:jM P F){cL:Code}{nt q:Nat}(hL:trC P rw pf nt q cL=some (eL F))
  {m:Nat}{ps:List Int}{pv fv:V}{f:Nat}{caps us:List V}{si:SI}(hpv:PV m ps pv) (hfv:bb fv=some (f,caps)) (hus:∀u∈us,u.cells.length=4∧V.low m u=true) (hul:us.length≤1099511627776) (hpl:ps.length≤1099511627776) (hcaps:V.lows m caps=true)
  {b:Bool}{h0 h':List O}{g:Gh}{w:World}{Q:Exit→Act→World→Prop}(hex:∀a' w' st',b=true→AtL g w h0 m ps h' a' w' st'→Q (.exit 0) a' w') (hret:∀a' w' st',b=false→AtL g w h0 m ps h' a' w' st'→st'.tm[6]?=some (.c (.bool false))→Q .ret a' w')
  {h1 e:List O}{tm:List V}{g1:Gh}{w1:World}{a1:Act}{base rb:Nat}(hev:fG (cV cf f caps k) ps 0 us h1=some (b,h')) (hh1:h1.length=m) (hlow:h1.all (O.low m)=true) (hle:Le g w g1 w1) (S:Sim [] g1 w1 a1 ⟨tm,h1++(aJ ps::e),base,rb⟩)
  (hq:Quiet (Frb m h0) g h0 g1 (h1++(aJ ps::e))) (I:InL m ps pv fv us si 0 tm):(Code.loop cL).wp P Q a1 w1:=by
 obtain⟨c5,cr5,rfl,h5,hL⟩:=dZ hL;obtain⟨cc,cr6,rfl,hcc,hL⟩:=dZ hL;obtain⟨cb,c9,rfl,hcb,h9⟩:=dZ hL;obtain⟨cbb,rfl,hcb2⟩:=nq hcb;obtain⟨c6,cr7,rfl,h6,hcb3⟩:=dZ hcb2;obtain⟨c7,cr,rfl,h7,hcr⟩:=dZ hcb3;obtain⟨rid,ops,rfl,h7o,h7d⟩:=AC h7;refine wp_loop_ghost (fun n a2 w2=>∃i h2 e2 tm2 g2 base2 rb2,n=us.length-i∧i≤us.length∧fG (cV cf f caps k) ps i (us.drop i) h2=some (b,h')∧h2.length=m∧h2.all (O.low m)=true∧Le g w g2 w2 ∧
  Sim [] g2 w2 a2 ⟨tm2,h2++(aJ ps::e2),base2,rb2⟩∧Quiet (Frb m h0) g h0 g2 (h2++(aJ ps::e2))∧InL m ps pv fv us si i tm2) us.length ⟨0,h1,e,tm,g1,base,rb,rfl,Nat.zero_le _,hev,hh1,hlow,hle,S,hq,I⟩ ?_
 rintro n a2 w2 ⟨i,h2,e2,tm2,g2,base2,rb2,rfl,hi,hev2,hh2,hlow2,hle2,S2,hq2,I2⟩;have hbase:m≤(h2++(aJ ps::e2)).length:=by simp;omega
 refine wp_seq (ci (cS pf) fi hm (base:=m) 0 c5 _ _ h5 (bo _ _ _ rfl h5) rfl g2 w2 a2 _ _ _ (Ix I2 _ _ _) S2 hbase _ fun a3 w3 g3 k1 k2 k3 k4=>?_);have I3:=I2.set (d:=18) (by simp) (.c (.bool (decide ((i:Int)<us.length))));rcases Nat.lt_or_ge i us.length with hlt|hge
 ·-- one more kid
  have hdrop:us.drop i=us[i]::us.drop (i+1):=by rw[dC hlt]
  obtain⟨hu4,hulow⟩:=hus us[i] (List.getElem_mem hlt);obtain⟨u1,u2,u3,u4,hu⟩:=DU hu4;rw[hdrop] at hev2;have hcond:aP cfN 0 (.cond (.t 18) .skip (.exit 0)) ⟨tm2.set 18 (.c (.bool (decide ((i:Int)<us.length)))),h2++(aJ ps::e2),base2,(h2++(aJ ps::e2)).length⟩=some (.normal,⟨tm2.set 18 (.c (.bool (decide ((i:Int)<us.length)))),h2++(aJ ps::e2),base2,(h2++(aJ ps::e2)).length⟩):=by
   have:(i:Int)<us.length:=by omega
   simp[aP,ev,I2.len,this]
  refine wp_seq (ci (cS pf) fi hm (base:=m) 0 cc _ _ hcc (bo _ _ _ rfl hcc) rfl g3 w3 a3 _ _ _ hcond k2 k4 _ fun a4 w4 g4 l1 l2 l3 l4=>?_);refine wp_seq (wp_block (wp_seq (ci (cS pf) fi hm (base:=m) 0 c6 _ _ h6 (bo _ _ _ rfl h6) rfl g4 w4 a4 _ _ _ (HZ I3 (by rw[gE hlt,hu]) _ _ _) l2 l4 _ fun a5 w5 g5 m1 m2 m3 m4=>?_)));generalize htm3:tm2.set 18 (.c (.bool (decide ((i:Int)<us.length))))=tm3 at *;have I6:InL m ps pv fv us si i (((((tm3.set 19 (I64 i)).set 20 (.ptr [u1,u2,u3,u4] 0)).set 21 (.agg [u1,u2,u3,u4])).set 8 (.ref (h2++(aJ ps::e2)).length 0)).set 7 (I64 i)) :=
   ((((I3.set (by simp) _).set (by simp) _).set (by simp) _).set (by simp) _).set (by simp) _
  have t7:(((((tm3.set 19 (I64 i)).set 20 (.ptr [u1,u2,u3,u4] 0)).set 21 (.agg [u1,u2,u3,u4])).set 8 (.ref (h2++(aJ ps::e2)).length 0)).set 7 (I64 i))[7]?=some (I64 i):=by
   rw[sS];simp[I3.len]
  have t8:(((((tm3.set 19 (I64 i)).set 20 (.ptr [u1,u2,u3,u4] 0)).set 21 (.agg [u1,u2,u3,u4])).set 8 (.ref (h2++(aJ ps::e2)).length 0)).set 7 (I64 i))[8]?=some (.ref (h2++(aJ ps::e2)).length 0):=by
   rw[sN (by decide),sS];simp[I3.len]
  generalize (((((tm3.set 19 (I64 i)).set 20 (.ptr [u1,u2,u3,u4] 0)).set 21 (.agg [u1,u2,u3,u4])).set 8 (.ref (h2++(aJ ps::e2)).length 0)).set 7 (I64 i))=tm6 at *;have hH1:(h2++(aJ ps::e2)++[O.cells [u1,u2,u3,u4]])[(h2++(aJ ps::e2)).length]?=some (.cells [u1,u2,u3,u4]):=by simp
  have hH2:(h2++(aJ ps::e2)++[O.cells [u1,u2,u3,u4]])[m]?=some (aJ ps):=by rw[← hh2];simp
  have hH3:(h2++(aJ ps::e2)++[O.cells [u1,u2,u3,u4]]).take m=h2:=by rw[← hh2];simp
  have hH4:(h2++(aJ ps::e2)++[O.cells [u1,u2,u3,u4]]++[O.tok 1 1,O.dead]).drop m=aJ ps::(e2++[O.cells [u1,u2,u3,u4]]++[O.tok 1 1,O.dead]):=by rw[← hh2];simp
  simp only[fG] at hev2;cases hkid:cV cf f caps k us[i] (ps++[(i:Int)]) h2 with
  | none=>rw[hkid] at hev2;cases hev2
  | some p =>
   obtain⟨b1,h3⟩:=p;have hkl:=dL hkid;rw[hh2] at hkl;have hr7:=Ib (cf:=cf) (F:=F) (i:=i) hFr I6.len I6.t1 I6.t2 t7 t8 hpv hfv hH1 hH2 (by rw[hH3];exact hlow2) (by rw[← hu];exact hulow) hcaps (b:=b1) (h':=h3) (by rw[hH3,← hu];exact hkid) hkl.1 base2;rw[hH4] at hr7;refine wp_seq (sm hm hF IH hW h7o (h7d rfl) m2 (by simp;omega) (by rw[I6.len];omega) hr7 (by omega) fun a6 w6 g6 n1 n2 n3 n4=>?_);have I7:InL m ps pv fv us si i ((((((((tm6.set 22 (.agg [u1,u2,u3,u4])).set 23 pv).set 24 (I64 i)).set 25 (.sl [I64 i] .full)).set 26 .top).set 27 fv).set 28 (.c (.bool b1))).set 29 (.c (.bool !b1))) :=
    (((((((I6.set (by simp) _).set (by simp) _).set (by simp) _).set (by simp) _).set (by simp) _).set (by simp) _).set (by simp) _).set (by simp) _
   have t29:((((((((tm6.set 22 (.agg [u1,u2,u3,u4])).set 23 pv).set 24 (I64 i)).set 25 (.sl [I64 i] .full)).set 26 .top).set 27 fv).set 28 (.c (.bool b1))).set 29 (.c (.bool !b1)))[29]?=some (.c (.bool !b1)):=by
    rw[sS];simp[I6.len]
   generalize ((((((((tm6.set 22 (.agg [u1,u2,u3,u4])).set 23 pv).set 24 (I64 i)).set 25 (.sl [I64 i] .full)).set 26 .top).set 27 fv).set 28 (.c (.bool b1))).set 29 (.c (.bool !b1)))=tm7 at *;have hle7:Le g w g6 w6:=hle2.trans (k1.trans (l1.trans (m1.trans n1)));have hq7:Quiet (Frb m h0) g h0 g6 (h3++aJ ps::(e2++[O.cells [u1,u2,u3,u4]]++[O.tok 1 1,O.dead])):=hq2.transL S2.hk hle2 (k3.transL k2.hk k1 (l3.transL l2.hk l1 (m3.transL m2.hk m1 n3)));have hl7:m≤(h3++aJ ps::(e2++[O.cells [u1,u2,u3,u4]]++[O.tok 1 1,O.dead])).length:=by simp;omega
   have hev29:=Hx t29;rw[hkid] at hev2;cases b1 with
   | false =>
    simp only[sI,pI] at hev2;obtain⟨rfl,rfl⟩:=hev2;have hcr2:aP cfN 0 (.cond (.t 29) (.seq eR3 .ret) .skip) ⟨tm7,h3++aJ ps::(e2++[O.cells [u1,u2,u3,u4]]++[O.tok 1 1,O.dead]),base2,(h2++(aJ ps::e2)++[O.cells [u1,u2,u3,u4]]).length⟩ =
      some (.ret,⟨tm7.set 6 (.c (.bool false)),h3++aJ ps::(e2++[O.cells [u1,u2,u3,u4]]++[O.tok 1 1,O.dead]),base2,(h3++aJ ps::(e2++[O.cells [u1,u2,u3,u4]]++[O.tok 1 1,O.dead])).length⟩):=by
     simp only[aP,hev29,Bool.not_false,if_true];simp[eR3,aP,aH,aN,bj,bh,act,aG,bM,ev]
    refine ci (cS pf) fi hm (base:=m) 0 cr _ _ hcr (bo _ _ _ rfl hcr) rfl g6 w6 a6 _ _ _ hcr2 n2 hl7 _ fun a7 w7 g7 o1 o2 o3 o4=>?_
    refine hret a7 w7 _ rfl ⟨g7,hle7.trans o1,o2,hq7.transL n2.hk hle7 o3,⟨_,rfl⟩,by simp[I7.len]⟩ ?_;simp[I7.len]
   | true =>
    simp only at hev2;have hcr2:aP cfN 0 (.cond (.t 29) (.seq eR3 .ret) .skip) ⟨tm7,h3++aJ ps::(e2++[O.cells [u1,u2,u3,u4]]++[O.tok 1 1,O.dead]),base2,(h2++(aJ ps::e2)++[O.cells [u1,u2,u3,u4]]).length⟩ =
      some (.normal,⟨tm7,h3++aJ ps::(e2++[O.cells [u1,u2,u3,u4]]++[O.tok 1 1,O.dead]),base2,(h2++(aJ ps::e2)++[O.cells [u1,u2,u3,u4]]).length⟩):=by
     simp[aP,hev29]
    refine ci (cS pf) fi hm (base:=m) 0 cr _ _ hcr (bo _ _ _ rfl hcr) rfl g6 w6 a6 _ _ _ hcr2 n2 hl7 _ fun a7 w7 g7 o1 o2 o3 o4=>?_
    refine ci (cS pf) fi hm (base:=m) 0 c9 _ _ h9 (bo _ _ _ rfl h9) rfl g7 w7 a7 _ _ _ (HN I7.len I7.t17 (by omega) _ _ _) o2 o4 _ fun a8 w8 g8 p1 p2 p3 p4=>?_
    refine⟨us.length-(i+1),by omega,i+1,h3,_,_,g8,_,_,rfl,by omega,hev2,hkl.1,hkl.2,hle7.trans (o1.trans p1),p2,hq7.transL n2.hk hle7 (o3.transL o2.hk o1 p3),?_⟩;have I8:=I7.set (d:=30) (by simp) (I64 (i+1:Nat));exact⟨by simp[I7.len],by rw[sN (by decide)];exact I8.t1,by rw[sN (by decide)];exact I8.t2,by rw[sN (by decide)];exact I8.t15,by rw[sN (by decide)];exact I8.t16,by rw[sS];simp[I7.len]⟩
 ·-- no more
  have hie:i=us.length:=by omega
  subst hie;rw[List.drop_length] at hev2;simp only[fG,sI,pI] at hev2;obtain⟨rfl,rfl⟩:=hev2;have hcond:aP cfN 0 (.cond (.t 18) .skip (.exit 0)) ⟨tm2.set 18 (.c (.bool (decide ((us.length:Int)<us.length)))),h2++(aJ ps::e2),base2,(h2++(aJ ps::e2)).length⟩=some (.exit 0,⟨tm2.set 18 (.c (.bool (decide ((us.length:Int)<us.length)))),h2++(aJ ps::e2),base2,(h2++(aJ ps::e2)).length⟩):=by
   simp[aP,ev,I2.len]
  refine wp_seq (ci (cS pf) fi hm (base:=m) 0 cc _ _ hcc (bo _ _ _ rfl hcc) rfl g3 w3 a3 _ _ _ hcond k2 k4 _ fun a4 w4 g4 l1 l2 l3 l4=>?_);exact hex a4 w4 _ rfl ⟨g4,hle2.trans (k1.trans l1),l2,hq2.transL S2.hk hle2 (k3.transL k2.hk k1 l3),⟨e2,rfl⟩,by simp[I2.len]⟩
theorem Hv {cf:aw}{n:Nat}{a1 a2 a3 a4 pv fv:V}(H:List O) (base rb:Nat) :
  aP cf n eR1 ⟨[.agg [a1,a2,a3,a4],pv,fv]++List.replicate 28 aE,H,base,rb⟩ =
   some (.normal,⟨[.agg [a1,a2,a3,a4],pv,fv,.ref H.length 0,aE,aE,.c (.bool false)]++List.replicate 24 aE,H++[.cells [a1,a2,a3,a4]],base,H.length⟩):=by
 simp[eR1,aP,aH,aN,bj,bh,act,aG,bM,ev,okc,V.cells,List.replicate]
theorem Hs {cf:aw}{n:Nat}{d a1 a2 a3 a4 pv fv:V}{f:Nat}{caps:List V}(hfv:bb fv=some (f,caps)) (hfr:f<rid){H H2:List O}{j base rb:Nat}(hj:H[j]?=some (.cells [a1,a2,a3,a4])){b:Bool}
  (hy:cf f (.agg [a1,a2,a3,a4]::pv::caps) H=some (.c (.bool b),H2)) (hl:H.length≤H2.length) :
  aP cf n (.seq eR2 (.cond (.t 13) (.seq eR3 .ret) .skip)) ⟨[d,pv,fv,.ref j 0,aE,aE,.c (.bool false)]++List.replicate 24 aE,H,base,rb⟩ =
   if b then some (.normal,⟨[d,pv,fv,.ref j 0,aE,aE,.c (.bool false),aE,aE,fv,.agg [a1,a2,a3,a4],pv,.c (.bool true),.c (.bool false)]++List.replicate 17 aE,H2,base,H.length⟩)
   else some (.ret,⟨[d,pv,fv,.ref j 0,aE,aE,.c (.bool false),aE,aE,fv,.agg [a1,a2,a3,a4],pv,.c (.bool false),.c (.bool true)]++List.replicate 17 aE,H2,base,H2.length⟩):=by
 cases b<;>simp[eR2,eR3,aP,aH,aN,bj,bh,act,aG,bM,ev,B0 hfv hfr,em hl,hj,rdV,hy,List.replicate]
theorem H5 {cf:aw}{n:Nat}{d x10 a1 a2 a3 pv fv:V}{us:List V}{si:SI}{H:List O}{j base rb:Nat}(hj:H[j]?=some (.cells [a1,a2,a3,.sl us si])) :
  ∃tm,aP cf n eR4 ⟨[d,pv,fv,.ref j 0,aE,aE,.c (.bool false),aE,aE,fv,x10,pv,.c (.bool true),.c (.bool false)]++List.replicate 17 aE,H,base,rb⟩=some (.normal,⟨tm,H,base,H.length⟩) ∧
   ∀m ps,InL m ps pv fv us si 0 tm:=by
 refine⟨[d,pv,fv,.ref j 0,aE,aE,.c (.bool false),aE,aE,fv,x10,pv,.c (.bool true),.c (.bool false),.ref j 3,.sl us si,I64 us.length,I64 0]++List.replicate 13 aE,?_,fun m ps=>⟨rfl,rfl,rfl,rfl,rfl,rfl⟩⟩;simp[eR4,aP,aH,aN,bj,bh,act,aG,bM,ev,hj,rdV,I64,List.replicate]
def co:XC→Bool
 | .reg _ _ d => !d
 | .regw _ _=>false
 | .regm _ _=>false
 | .regr _ _=>false
 | .seq a b=>co a&&co b
 | .cond (.t _) a b=>co a&&co b
 | .cond (.k _) a b=>false
 | .block _ c=>co c
 | .loop c=>co c
 | _=>true
theorem CT {P:Program}{rw:Bool}{pf pf':Nat→Nat}{nt:Nat}:∀(c:Code) (q:Nat) (x:XC),co x=true→trC P rw pf nt q c=some x→trC P rw pf' nt q c=some x:=by
 intro c
 induction c with
 | region id ops d =>
  intro q x hx h;obtain⟨id',ops',e,h1,h2⟩:∃id' ops',Code.region id ops d=.region id' ops' d∧True∧True:=⟨id,ops,rfl,trivial,trivial⟩
  simp only[trC] at h ⊢;by_cases hpn:qw ops.toList=true
  ·rw[if_pos hpn] at h ⊢;exact h
  have hfl:some vC=some x→False:=fun e=>by
   simp only[sI] at e;subst e;simp[co] at hx
  rw[if_neg hpn] at h ⊢;split at h
  ·rename_i xs pre h1;split at h
   ·simp only[sI] at h;subst h;simp only[co,Bool.not_eq_true'] at hx;subst hx;simp[h1]
   ·split at h
    ·simp only[sI] at h;subst h;simp[co] at hx
    split at h
    ·rename_i hd;obtain⟨rfl,hd⟩:=hd;simp only[sI] at h;subst h;simp[co] at hx
    split at h
    ·simp only[sI] at h;subst h;simp[co] at hx
    split at h
    ·simp only[sI] at h;subst h;simp[co] at hx
    ·split at h
     ·rename_i hd;obtain⟨rfl,hd⟩:=hd;simp only[sI] at h;subst h;simp[co] at hx
     ·split at h
      ·simp only[sI] at h;subst h;simp[co] at hx
      ·exact absurd h hfl
  ·exact absurd h hfl
 | seq a b iha ihb =>
  intro q x hx h;simp only[trC] at h ⊢;split at h
  ·rename_i x1 x2 h1 h2;simp only[sI] at h;subst h;simp only[co,bT] at hx;rw[iha _ _ hx.1 h1,ihb _ _ hx.2 h2]
  ·cases h
 | cond cc a b iha ihb =>
  intro q x hx h;simp only[trC] at h ⊢;split at h
  ·rename_i x0 x1 x2 h0 h1 h2;simp only[sI] at h;subst h;cases x0 with
   | k v=>simp[co] at hx
   | t i =>
   simp only[co,bT] at hx;simp only[h0,iha _ _ hx.1 h1,ihb _ _ hx.2 h2]
  ·cases h
 | block id c ih =>
  intro q x hx h;simp only[trC,mS] at h ⊢;obtain⟨y,h1,rfl⟩:=h;exact⟨y,ih _ _ hx h1,rfl⟩
 | loop c ih =>
  intro q x hx h;simp only[trC,mS] at h ⊢;obtain⟨y,h1,rfl⟩:=h;exact⟨y,ih _ _ hx h1,rfl⟩
 | _=>intro q x hx h;exact h
theorem Ao {P : Program} {rw : Bool} {pf : Nat → Nat} {cf : aw} (hcf : bv P cf) (hm : P.follows .mixedOrders = true) {F : Nat} {fn : Func} {c : Code} (hF : pf F = 0) (hFr : F + 1 < rid) (hf : P.funcs[F]? = some fn) (hnm : (fn.name == "runtime.NumGoroutine") = false) (hb : fn.body = some c)
  {nt q:Nat}(hc:trC P rw pf nt q c=some (Bn F)) (hrs:trR P fn.results.toList=some [.t 6]) (hn:fn.ntmps=31):∀k f caps,vp P F cf f caps k:=by
 have hW:jM P F:=⟨fn,hf,hnm,by rw[hb];rfl⟩
 intro k
 induction k with
 | zero=>intro f caps d ps h b h' e;simp[cV] at e
 | succ k ih =>
  intro f caps d ps h b h' e g w xd xp xf fv pv hfv H hd hpv hp hfr;obtain⟨c1,cr1,rfl,h1c,hc⟩:=dZ hc;obtain⟨c2,cr2,rfl,h2c,hc⟩:=dZ hc;obtain⟨c34,c5,rfl,h34,h5c⟩:=dZ hc;obtain⟨c3,cbl,rfl,h3c,hbl⟩:=dZ h34;obtain⟨clp,rfl,hlp⟩:=nq hbl;obtain⟨cL,rfl,hL⟩:=yD hlp;simp only[cV] at e;split at e;rotate_left
  ·cases e
  rename_i a1 a2 a3 us si;split at e;rotate_left
  ·cases e
  rename_i hcond;obtain⟨q1,q2,q3,q4,q5,q6,q7⟩:=hcond;have hus:∀u∈us,u.cells.length=4∧V.low h.length u=true:=by
   intro u hu;have:=List.all_eq_true.1 q1 u hu;simpa using this
  obtain⟨b1,h1,hy,hrest⟩:∃b1 h1,cC cf f caps (.agg [a1,a2,a3,.sl us si]) ps h=some (b1,h1)∧((b1=true∧fG (cV cf f caps k) ps 0 us h1=some (b,h'))∨(b1=false∧b=false∧h'=h1)):=by
   split at e
   ·rename_i h1 hy;exact⟨true,h1,hy,.inl ⟨rfl,e⟩⟩
   ·rename_i h1 hy;simp only[sI,pI] at e;exact⟨false,h1,hy,.inr ⟨rfl,e.1.symm,e.2.symm⟩⟩
   ·cases e
  obtain⟨y1,y2,y3⟩:=cN hy;have hin:EI h.length cf f (.agg [a1,a2,a3,.sl us si]::pv::caps) (h++[aJ ps]++[.cells [a1,a2,a3,.sl us si]])=some (.c (.bool b1),h1++[aJ ps]++[.cells [a1,a2,a3,.sl us si]]):=by
   have:xX h.length pv=.row h.length 0 ps.length none:=by
    rcases hpv with rfl|⟨rfl,rfl⟩<;>rfl
   simp only[EI,this];exact oz y1 _
  have hS:Sim [] g w { tmps:=#[xd,xp,xf]++Array.replicate (fn.ntmps-3) undef,defers:=[] } ⟨[.agg [a1,a2,a3,.sl us si],pv,fv]++List.replicate 28 aE,h++[aJ ps],0,0⟩:=by
   refine⟨?_,H,rfl⟩;have h3:∀i (hi:i<#[xd,xp,xf].size) (hj:i<[V.agg [a1,a2,a3,.sl us si],pv,fv].length),Rep g w #[xd,xp,xf][i] [V.agg [a1,a2,a3,.sl us si],pv,fv][i]:=by
    intro i hi hj
    match i,hi with
    | 0,_=>exact hd
    | 1,_=>exact hp
    | 2,_=>exact hfr
   have:=gi (g:=g) (w:=w) H.ag.gl (cargs:=#[xd,xp,xf]) rfl h3 fn.ntmps [];rw[hn] at this ⊢;exact this
  have fin:∀a' w' st',AtL g w (h++[aJ ps]) h.length ps h' a' w' st'→h'.length=h.length→h'.all (O.low h.length)=true→st'.tm[6]?=some (.c (.bool b)) →
    a'.defers=[]∧∃v,(results fn a'.tmps).run P w'=.ok v w'∧(∃g',Ending.returned v=.returned (.bool b)∧Le g w g' w'∧HOk g' w' (h'++[aJ ps])∧Quiet (Frb h.length (h++[aJ ps])) g (h++[aJ ps]) g' (h'++[aJ ps])):=by
   rintro a' w' st' ⟨g',k1,k2,k3,⟨e',he'⟩,k5⟩ hl hlow h6;obtain⟨x,r1,r2⟩:=kH k2 hrs (vs:=[.c (.bool b)]) (by simp[cJ,yb,h6]);have hx:x=.bool b:=r2.of_c;subst hx;refine⟨k2.df,_,r1,g'.res (h.length+1),rfl,?_,?_,fun id hid=>?_⟩
   ·exact k1.res (fun id b e=>by have:=(H.blk_lt e).1;simpa using this) (fun id p e=>by obtain⟨b,n,c⟩:=p;have:=(H.tok_lt e).1;simpa using this)
   ·have hH:HOk g' w' ((h'++[aJ ps])++e'):=by
     have:=k2.hk;rw[he'] at this;simpa using this
    have:=hH.cut (by
     rw[List.all_append];simp only[lA,lC,List.length_nil,hl,bT];refine⟨nO (Nat.le_succ _) hlow,?_⟩;simp only[List.all_cons,List.all_nil,Bool.and_true,aJ,O.low];exact cq fun v hv=>by
      obtain⟨i,_,rfl⟩:=List.mem_map.1 hv;rfl)
    simpa[hl] using this
   ·have hid':id<h.length:=Nat.lt_of_not_le fun h=>hid (.inl h)
    obtain⟨z1,z2,z3⟩:=k3 id hid;have hid2:id<h.length+1:=by omega
    refine⟨fun e=>by simp only[Gh.res,hid2,if_true];exact z1 e,fun e=>by simp only[Gh.res,hid2,if_true];exact z2 e,fun e e2=>?_⟩;have:=z3 e e2;rw[he',aL (by omega)] at this;rw[aL (by omega)];exact this
  have hbase:h.length≤(h++[aJ ps]).length:=by simp
  refine calls_of_wp hf hb ?_;refine wp_seq (ci (cS pf) fi hm (base:=h.length) 0 c1 _ _ h1c (bo _ _ _ rfl h1c) rfl g w _ _ _ _ (Hv _ _ _) hS hbase _ fun a1' w1' g1' k1 k2 k3 k4=>?_);have hj:(h++[aJ ps]++[O.cells [a1,a2,a3,.sl us si]])[(h++[aJ ps]).length]?=some (.cells [a1,a2,a3,.sl us si]):=by simp
  have h2c':=CT (pf':=fun _=>0) c2 _ _ (by simp[co,eR2,eR3]) h2c;have hB:=Hs (n:=0) (d:=.agg [a1,a2,a3,.sl us si]) (base:=0) (rb:=(h++[aJ ps]).length) hfv (iM y1) hj hin (by simp;omega);cases b1 with
  | false =>
   simp only[Bool.false_eq_true,if_false] at hB;rcases hrest with⟨hh,_⟩|⟨_,rfl,rfl⟩
   ·cases hh
   refine wp_seq (ci (tC _) (tJ hcf) hm (base:=h.length) 0 c2 _ _ h2c' (bo _ _ _ rfl h2c') rfl g1' w1' a1' _ _ _ hB k2 k4 _ fun a2' w2' g2' l1 l2 l3 l4=>?_);exact fin a2' w2' _ ⟨g2',k1.trans l1,l2,k3.transL k2.hk k1 l3,⟨[O.cells [a1,a2,a3,.sl us si]],by simp⟩,by simp⟩ y2 y3 rfl
  | true =>
   simp only[if_true] at hB;rcases hrest with⟨_,hev⟩|⟨hh,_⟩
   rotate_left
   ·cases hh
   refine wp_seq (ci (tC _) (tJ hcf) hm (base:=h.length) 0 c2 _ _ h2c' (bo _ _ _ rfl h2c') rfl g1' w1' a1' _ _ _ hB k2 k4 _ fun a2' w2' g2' l1 l2 l3 l4=>?_);have hj2:(h1++[aJ ps]++[O.cells [a1,a2,a3,.sl us si]])[(h++[aJ ps]).length]?=some (.cells [a1,a2,a3,.sl us si]):=by
    have:(h++[aJ ps]).length=(h1++[aJ ps]).length:=by simp[y2]
    rw[this];simp
   obtain⟨tm,hC,hI⟩:=H5 (cf:=cfN) (n:=0) (d:=.agg [a1,a2,a3,.sl us si]) (x10:=.agg [a1,a2,a3,.sl us si]) (pv:=pv) (fv:=fv) (base:=0) (rb:=(h++[aJ ps]++[O.cells [a1,a2,a3,.sl us si]]).length) hj2;refine wp_seq (wp_seq (ci (cS pf) fi hm (base:=h.length) 0 c3 _ _ h3c (bo _ _ _ rfl h3c) rfl g2' w2' a2' _ _ _ hC l2 l4 _ fun a3' w3' g3' m1 m2 m3 m4=>?_));have hHe:h1++[aJ ps]++[O.cells [a1,a2,a3,.sl us si]]=h1++(aJ ps::[O.cells [a1,a2,a3,.sl us si]]):=by simp
   rw[hHe] at m2 m3;have hel:h'.length=h.length∧h'.all (O.low h.length)=true:=by
    have:=dL (cf:=cf) (f:=f) (caps:=caps) (k:=k+1) (d:=.agg [a1,a2,a3,.sl us si]) (ps:=ps) (h:=h) (b:=b) (h':=h') (by
     simp only[cV];rw[if_pos ⟨q1,q2,q3,q4,q5,q6,q7⟩,hy];exact hev)
    exact this
   have hq3:Quiet (Frb h.length (h++[aJ ps])) g (h++[aJ ps]) g3' (h1++(aJ ps::[O.cells [a1,a2,a3,.sl us si]])):=by
    have:=k3.transL k2.hk k1 l3;rw[hHe] at this;exact this.transL (by have:=l2.hk;rw[hHe] at this;exact this) (k1.trans l1) m3
   refine wp_block (uM (m:=h.length) (ps:=ps) hm hF hFr ih hW hL hpv hfv hus q2 q3 q4 (b:=b) (h':=h') (g:=g) (w:=w) (h0:=h++[aJ ps]) (fun a' w' st' hb' hat=>?_) (fun a' w' st' hb' hat h6=>?_) hev y2 y3 (k1.trans (l1.trans m1)) m2 hq3 (hI _ _))
   ·subst hb';simp only[Exit.inBlock,if_true,Exit.then];obtain⟨g4,n1,n2,n3,⟨e',he'⟩,n5⟩:=hat;have hD:aP cfN 0 (.seq GQ .ret) st'=some (.ret,{ st' with tm:=st'.tm.set 6 (.c (.bool true)),h:=st'.h,rb:=st'.h.length }):=by
     simp[GQ,aP,aH,aN,bj,bh,act,aG,bM,ev]
    refine ci (cS pf) fi hm (base:=h.length) 0 c5 _ _ h5c (bo _ _ _ rfl h5c) rfl g4 w' a' _ _ _ hD n2 (by rw[he'];simp;omega) _ fun a5 w5 g5 o1 o2 o3 o4=>?_
    exact fin a5 w5 _ ⟨g5,n1.trans o1,o2,n3.transL n2.hk n1 o3,⟨e',he'⟩,by simp[n5]⟩ hel.1 hel.2 (by simp[n5])
   ·subst hb';exact fin a' w' st' hat hel.1 hel.2 h6
def mY:Nat→aw→List V→List O→Option (V × List O):=fun n cf args h=>match args with
 | [d,.sl [] .nil,fv]=>match bb fv with
  | some (f,caps)=>(cV cf f caps n d [] h).map fun r=>(.c (.bool r.1),r.2)
  | none=>none
 | _=>none
theorem xZ {P:Program}{rw:Bool}{pf:Nat→Nat}{cf:aw}(hcf:bv P cf) (hm:P.follows .mixedOrders=true){F:Nat}{fn:Func}(hF:pf F=0) (hFr:F+1<rid) (hf:P.funcs[F]?=some fn){q:Nat}(htr:trF P pf q false false rw fn=some ⟨31,Bn F,[.t 6],false,false,rw,none⟩)
  {n:Nat}{args:List V}{h:List O}{r:V}{h':List O}(e:mY n cf args h=some (r,h')):jM P F∧mF P F args h r h':=by
 obtain⟨t1,c,t2,t3,t4,t5,t6,t7⟩:=rA htr;refine⟨⟨fn,hf,t1,by rw[t2];rfl⟩,fun g w cargs H hl hr=>?_⟩;unfold mY at e;split at e;rotate_left
 ·cases e
 rename_i d fv;split at e;rotate_left
 ·cases e
 rename_i f caps hfv;simp only[mS,pI] at e;obtain⟨⟨b,h1⟩,hev,rfl,rfl⟩:=e;obtain⟨xd,xp,xf,rfl⟩:∃a b c,cargs=#[a,b,c]:=by
  obtain⟨l⟩:=cargs
  match l,hl with
  | [a,b,c],_=>exact⟨a,b,c,rfl⟩
 have hd:Rep g w xd d:=hr 0 (by simp) (by simp);have hp:Rep g w xp (.sl [] .nil):=hr 1 (by simp) (by simp);have hx:Rep g w xf fv:=hr 2 (by simp) (by simp);have hel:=dL hev;refine Calls.mono (Ao (rw:=rw) hcf hm hF hFr hf t1 t2 t3 t4 t5.symm n f caps d [] h b h1 hev g w xd xp xf fv (.sl [] .nil) hfv (H.append _) hd (.inr ⟨rfl,rfl⟩) hp hx) ?_;rintro e w' ⟨g',rfl,k1,k2,k3⟩;have hcut:=k2.cut (h:=h1) (by rw[hel.1];exact hel.2);rw[hel.1] at hcut;refine⟨.bool b,g'.res h.length,rfl,k1.res (fun id b e=>(H.blk_lt e).1) (fun id p e=>by obtain⟨b,n,c⟩:=p;exact (H.tok_lt e).1),hcut,.c _,fun id hid=>?_⟩;have hid':id<h.length:=Nat.lt_of_not_le fun h=>hid (.inl h)
 obtain⟨z1,z2,z3⟩:=k3 id (fun h=>h.elim (fun h=>by omega) fun h=>hid (.inr (by rw[aL hid'] at h;exact h)));refine⟨fun e=>by simp only[Gh.res,hid',if_true];exact z1 e,fun e=>by simp only[Gh.res,hid',if_true];exact z2 e,fun e e2=>?_⟩;have:=z3 e e2;rw[aL (by omega),aL (by omega)] at this;exact this
def nS (cf cf':aw):Prop:=∀f args h r,cf f args h=some r→cf' f args h=some r
theorem xq {cf cf':aw}(hc:nS cf cf'){st:St}{op:XOp}{r:V × List O}(h:act cf st op=some r):act cf' st op=some r:=by
 cases op
 case call f args =>
  have lo:∀{f:Nat}{vs:List V}{r:V × List O},longer st.h (cf f vs st.h)=some r→longer st.h (cf' f vs st.h)=some r:=by
   intro f vs r e;obtain⟨r1,r2⟩:=r;obtain⟨e1,e2⟩:=bn e;rw[hc _ _ _ _ e1,em e2]
  simp only[act,cW,fS] at h ⊢;split at h
  ·split at h
   ·rename_i hq;rw[if_pos hq];exact lo h
   ·cases h
  ·split at h
   ·rename_i hq;rw[if_pos hq];exact lo h
   ·cases h
  ·split at h
   ·split at h
    ·rename_i hq;rw[if_pos hq];exact lo h
    ·cases h
   ·cases h
 all_goals exact h
theorem jA {cf cf':aw}(hc:nS cf cf'){o:XOper}{st st1:St}(h:aN cf o st=some st1):aN cf' o st=some st1:=by
 unfold aN at h ⊢;split at h
 ·rename_i hk;rw[if_pos hk];split at h
  ·rename_i hw;rw[if_pos hw];split at h
   ·rename_i v hh ha;rw[xq hc ha];exact h
   ·cases h
  ·rename_i hw;rw[if_neg hw];exact h
 ·cases h
theorem qN {cf cf':aw}(hc:nS cf cf'):∀{ops:List XOper}{st st1:St},aH cf ops st=some st1→aH cf' ops st=some st1
 | [],st,st1,h=>h
 | o::r,st,st1,h=>by
  simp only[aH] at h ⊢;split at h
  ·rename_i s1 h1;rw[jA hc h1];exact qN hc h
  ·cases h
theorem kl {m:Nat}{cf cf':aw}(hc:nS cf cf'):nS (aM m cf) (aM m cf'):=by
 intro f args h r e;unfold aM at e ⊢;generalize (if V.lows m args=true then args else args.map V.vw2)=args' at e ⊢;unfold cE at e ⊢;split at e
 ·rename_i hcond;rw[if_pos hcond];split at e
  ·rename_i r' h1 hcall;rw[hc _ _ _ _ hcall];exact e
  ·cases e
 ·cases e
theorem jw {m:Nat}{lt:Bool}{cf cf':aw}(hc:nS cf cf'):∀{ops:List XOper}{st st1:St},ek m lt cf ops st=some st1→ek m lt cf' ops st=some st1
 | [],st,st1,h=>h
 | o::r,st,st1,h=>by
  simp only[ek] at h ⊢;split at h
  ·rename_i s1 h1;have:ej m lt cf' o st=some s1:=by
    unfold ej at h1 ⊢;split at h1
    ·rename_i hb;rw[if_pos hb];exact jA (kl hc) h1
    ·cases h1
   rw[this];exact jw hc h
  ·cases h
theorem B8 {m:Nat}{cf cf':aw}(hc:nS cf cf'):nS (eR m cf) (eR m cf'):=by
 intro f args H r e;unfold eR at e ⊢;split at e
 ·rename_i h;rw[if_pos h];split at e
  ·rename_i r' h1 hcall;rw[hc _ _ _ _ hcall];exact e
  ·cases e
 ·cases e
theorem nJ {m:Nat}{cf cf':aw}(hc:nS cf cf'):∀{ops:List XOper}{st st1:St},gD m cf ops st=some st1→gD m cf' ops st=some st1
 | [],st,st1,h=>h
 | o::r,st,st1,h=>by
  simp only[gD] at h ⊢;split at h
  ·rename_i s1 h1;have:eB m cf' o st=some s1:=by
    unfold eB at h1 ⊢;split at h1
    ·rename_i hb;rw[if_pos hb];exact jA (B8 hc) h1
    ·cases h1
   rw[this];exact nJ hc h
  ·cases h
theorem nG {f f':St→Option (Ex × St)}(hf:∀st r,f st=some r→f' st=some r):∀{n n':Nat}{st:St}{r:Ex × St},n≤n'→io f n st=some r→io f' n' st=some r
 | 0,n',st,r,_,h=>by simp[io] at h
 | n+1,0,st,r,hn,h=>by omega
 | n+1,n'+1,st,r,hn,h=>by
  simp only[io] at h ⊢;split at h
  ·rename_i s1 h1;rw[hf _ _ h1];exact nG hf (by omega) h
  ·rename_i hne;cases h1:f st with
   | none=>rw[h1] at h;cases h
   | some p =>
    rw[h1] at h;simp only[sI] at h;subst h;rw[hf _ _ h1];obtain⟨e,s⟩:=p;cases e with
    | normal=>exact absurd h1 (hne s)
    | exit id=>rfl
    | ret=>rfl
theorem je {cf cf':aw}(hc:nS cf cf'){n n':Nat}(hn:n≤n'):∀(xc:XC) (st:St) (r:Ex × St),aP cf n xc st=some r→aP cf' n' xc st=some r:=by
 intro xc
 induction xc with
 | skip=>intro st r h;exact h
 | reg ops pre d =>
  intro st r h;simp only[aP,mS] at h ⊢;obtain⟨s,h1,h2⟩:=h;exact⟨s,qN hc h1,h2⟩
 | regw ops pre =>
  intro st r h;simp only[aP,mS] at h ⊢;obtain⟨s,h1,h2⟩:=h;exact⟨s,jw hc h1,h2⟩
 | regm ops pre =>
  intro st r h;simp only[aP,mS] at h ⊢;obtain⟨s,h1,h2⟩:=h;exact⟨s,jw hc h1,h2⟩
 | regr ops pre =>
  intro st r h;simp only[aP,mS] at h ⊢;obtain⟨s,h1,h2⟩:=h;exact⟨s,nJ hc h1,h2⟩
 | seq a b iha ihb =>
  intro st r h;simp only[aP] at h ⊢;split at h
  ·rename_i s1 h1;rw[iha _ _ h1];exact ihb _ _ h
  ·rename_i hne;obtain⟨e,s⟩:=r;rw[iha _ _ h];cases e with
   | normal=>exact absurd h (hne s)
   | exit id=>rfl
   | ret=>rfl
 | cond c a b iha ihb =>
  intro st r h;simp only[aP] at h ⊢;split at h
  ·rename_i t ht;split at h
   ·rename_i ht2;rw[if_pos ht2];exact iha _ _ h
   ·rename_i ht2;rw[if_neg ht2];exact ihb _ _ h
  ·cases h
 | block id c ih =>
  intro st r h;simp only[aP] at h ⊢;split at h
  ·rename_i id' s1 h1;rw[ih _ _ h1];exact h
  ·rename_i hne;obtain⟨e,s⟩:=r;rw[ih _ _ h];cases e with
   | exit id=>exact absurd h (hne _ s)
   | normal=>rfl
   | ret=>rfl
 | loop c ih =>
  intro st r h;simp only[aP] at h ⊢;exact nG (fun st r=>ih st r) hn h
 | exit id=>intro st r h;exact h
 | ret=>intro st r h;exact h
 | rangeF f y m nt us =>
  intro st r h;simp only[aP] at h ⊢;split at h
  ·split at h
   ·rename_i hq;rw[if_pos hq];split at h
    ·rename_i h1;rw[hc _ _ _ _ h1];exact h
    ·cases h
   ·cases h
  ·cases h
theorem jP {lo:Nat}{h:List O}:∀{k k':Nat}{v v':V},k≤k'→jU lo h k v=some v'→jU lo h k' v=some v'
 | 0,_,v,v',_,e=>by simp[jU] at e
 | k+1,0,v,v',hk,e=>by omega
 | k+1,k'+1,v,v',hk,e=>kW (fun _ _ _ h=>h) (fun v v' e=>jP (by omega) e) v v' e
theorem iD {esc:Bool}{n n':Nat}(hn:n≤n'){res:List XR}{o o':Option (Ex × St)}(ho:∀r,o=some r→o'=some r){r:V × List O}(h:fin esc n res o=some r):fin esc n' res o'=some r:=by
 cases o with
 | none=>simp[fin] at h
 | some p =>
  rw[ho p rfl];obtain⟨e,s⟩:=p;have main:∀e,e≠.normal∧e≠.ret→fin esc n res (some (e,s))=none:=by
   intro e he;cases e with
   | normal=>exact absurd rfl he.1
   | ret=>exact absurd rfl he.2
   | exit id=>rfl
  have key:∀q,(match cJ s res with
    | some vs =>
     if esc then some ((bG vs).vwr,s.h) else
     if (bG vs).vw.low s.base then if (s.h.take s.base).all (O.low s.base) then some ((bG vs).vw,s.h.take s.base) else none
     else match jU s.base s.h n (bG vs).vw with
      | some r=>if r.low s.base&&(s.h.take s.base).all (O.low s.base) then some (r,s.h.take s.base) else none
      | none=>none
    | none=>none)=some q→(match cJ s res with
    | some vs =>
     if esc then some ((bG vs).vwr,s.h) else
     if (bG vs).vw.low s.base then if (s.h.take s.base).all (O.low s.base) then some ((bG vs).vw,s.h.take s.base) else none
     else match jU s.base s.h n' (bG vs).vw with
      | some r=>if r.low s.base&&(s.h.take s.base).all (O.low s.base) then some (r,s.h.take s.base) else none
      | none=>none
    | none=>none)=some q:=by
   intro q hq;split at hq
   ·split at hq
    ·rename_i he;simp only[he,if_true];exact hq
    ·rename_i he;simp only[he,Bool.false_eq_true,if_false];split at hq
     ·rename_i hl;simp only[hl,if_true];exact hq
     ·rename_i hl;simp only[hl,Bool.false_eq_true,if_false];split at hq
      ·rename_i r' hsn;rw[jP hn hsn];exact hq
      ·cases hq
   ·cases hq
  cases e with
  | exit id=>simp[fin] at h
  | normal=>exact key r h
  | ret=>exact key r h
theorem uE {f f':V→Option V}(hf:∀v v',f v=some v'→f' v=some v'){us us':List V}(h:nW f us=some us'):nW f' us=some us':=jn hf us us' h
theorem vI {cf cf':aw}(hc:nS cf cf'){n n':Nat}(hn:n≤n'){xf:XF}{args:List V}{h:List O}{r:V × List O}(e:ic cf n xf args h=some r):ic cf' n' xf args h=some r:=by
 have hex:∀st r,aP cf n xf.body st=some r→aP cf' n' xf.body st=some r:=je hc hn xf.body;unfold ic at e ⊢;split at e
 ·rename_i hp;rw[if_pos hp];split at e
  ·rename_i hl;rw[if_pos hl];split at e
   ·rename_i hes;rw[if_pos hes];simp only[mS] at e ⊢;obtain⟨q,hq,rfl⟩:=e;exact⟨q,iD hn (hex _) hq,rfl⟩
   ·rename_i hes;rw[if_neg hes];simp only[mS] at e ⊢;obtain⟨q,hq,rfl⟩:=e;exact⟨q,iD hn (hex _) hq,rfl⟩
  ·rename_i hl;rw[if_neg hl];split at e
   ·cases e
   ·rename_i hes;rw[if_neg hes];split at e
    ·rename_i bs hbs;rw[uE (fun v v'=>jP hn) hbs];simp only;split at e
     ·rename_i hl2;rw[if_pos hl2];split at e
      ·rename_i q hh hq;rw[iD hn (hex _) hq];exact e
      ·cases e
     ·cases e
    ·cases e
 ·rename_i hp;rw[if_neg hp];exact iD hn (hex _) e
def o8 (E:Ext):Prop:=∀f e,E f=some e→∀n n' cf cf',n≤n'→nS cf cf'→∀args h r,e n cf args h=some r→e n' cf' args h=some r
theorem rP {cf cf':aw}(hc:nS cf cf'){n n':Nat}(hn:n≤n'){ps:List Nat}{asg body:XC}{k:Nat}{vs caps:List V}{h:List O}{r:V × List O}(e:cQ cf n ps asg body k vs caps h=some r):cQ cf' n' ps asg body k vs caps h=some r:=by
 unfold cQ at e ⊢;split at e;rotate_left
 ·cases e
 rename_i tm hp;split at e;rotate_left
 ·cases e
 rename_i st1 h1;rw[je hc hn _ _ _ h1];simp only;split at e;rotate_left
 ·cases e
 rename_i hk;split at e;rotate_left
 ·cases e
 rename_i e2 st2 h2;simp only[hk,je hc hn _ _ _ h2];exact e
theorem iY {X:Nat→Option XF}{E:Ext}(hE:o8 E):∀{n n':Nat},n≤n'→nS (call X E n) (call X E n')
 | 0,_,_=>fun f args h r e=>by simp[call] at e
 | n+1,0,hn=>by omega
 | n+1,n'+1,hn=>fun f args h r e=>by
  have ih:=iY (X:=X) hE (n:=n) (n':=n') (by omega);simp only[call] at e ⊢;split at e
  ·rename_i ex hex;exact hE f ex hex n n' _ _ (by omega) ih args h r e
  ·rename_i hex;split at e
   ·cases e
   ·rename_i xf hxf;split at e
    ·split at e
     ·split at e
      ·rename_i hk;rw[if_pos hk];exact rP ih (by omega) e
      ·cases e
     ·cases e
    ·exact vI ih (by omega) e
theorem kA {cf cf':aw}(hc:nS cf cf'){f:Nat}{caps:List V}{d:V}{ps:List Int}{h:List O}{r:Bool × List O}(e:cC cf f caps d ps h=some r):cC cf' f caps d ps h=some r:=by
 unfold cC at e ⊢;split at e
 ·rename_i b h1 hf;rw[kl hc _ _ _ _ hf];exact e
 ·cases e
theorem gZ {cf cf':aw}(hc:nS cf cf'){f:Nat}{caps:List V}:∀{k k':Nat},k≤k'→∀{d:V}{ps:List Int}{h:List O}{r:Bool × List O},cV cf f caps k d ps h=some r→cV cf' f caps k' d ps h=some r
 | 0,_,_,d,ps,h,r,e=>by simp[cV] at e
 | k+1,0,hk,_,_,_,_,_=>by omega
 | k+1,k'+1,hk,d,ps,h,r,e=>by
  have hL:∀(us:List V) (i:Nat) (h1:List O),fG (cV cf f caps k) ps i us h1=some r→fG (cV cf' f caps k') ps i us h1=some r:=by
   intro us
   induction us with
   | nil=>intro i h1 e;exact e
   | cons u us ih =>
    intro i h1 e;simp only[fG] at e ⊢;split at e
    ·rename_i h2 e1;rw[gZ hc (by omega) e1];exact ih _ _ e
    ·rename_i h2 e1;rw[gZ hc (by omega) e1];exact e
    ·cases e
  unfold cV at e ⊢;split at e
  ·split at e
   ·rename_i hcond;simp only[if_pos hcond];split at e
    ·rename_i h1 e1;rw[kA hc e1];exact hL _ _ _ e
    ·rename_i h1 e1;rw[kA hc e1];exact e
    ·cases e
   ·cases e
  ·cases e
theorem rD {n n':Nat}{cf cf':aw}(hn:n≤n') (hc:nS cf cf'){args:List V}{h:List O}{r:V × List O}(e:mY n cf args h=some r):mY n' cf' args h=some r:=by
 unfold mY at e ⊢;split at e
 ·split at e
  ·rename_i f caps hfv;simp only[mS] at e ⊢;obtain⟨q,hq,rfl⟩:=e;exact⟨q,gZ hc hn hq,rfl⟩
  ·cases e
 ·cases e
structure SF where
 e:Nat→V
 h:List O
 base:Nat
 rb:Nat
def A.sub (e:Nat→V):A→A
 | .t i=>.k (e i)
 | .k v=>.k v
def A.val (e:Nat→V):A→V
 | .t i=>e i
 | .k v=>v
def XOp.sub (e:Nat→V):XOp→XOp
 | .mv x=>.mv (x.sub e)
 | .pick c a b=>.pick (c.sub e) (a.sub e) (b.sub e)
 | .alloc al z=>.alloc al z
 | .box al x=>.box al (x.sub e)
 | .build z ps=>.build z (ps.map fun p=>(p.1,p.2.1,p.2.2.sub e))
 | .bslice al z ps=>.bslice al z (ps.map (A.sub e))
 | .load n x=>.load n (x.sub e)
 | .store n a x=>.store n (a.sub e) (x.sub e)
 | .bin op q x y=>.bin op q (x.sub e) (y.sub e)
 | .un op x=>.un op (x.sub e)
 | .fieldAddr o x=>.fieldAddr o (x.sub e)
 | .field o n x=>.field o n (x.sub e)
 | .indexAddr z x i=>.indexAddr z (x.sub e) (i.sub e)
 | .index x i=>.index (x.sub e) (i.sub e)
 | .slice s z x lo hi mx=>.slice s z (x.sub e) (lo.map (A.sub e)) (hi.map (A.sub e)) (mx.map (A.sub e))
 | .extract x i=>.extract (x.sub e) i
 | .len s x=>.len s (x.sub e)
 | .append al z b rw x y=>.append al z b rw (x.sub e) (y.sub e)
 | .mm m ps=>.mm m (ps.map (A.sub e))
 | .conv k x=>.conv k (x.sub e)
 | .call f ps=>.call (f.sub e) (ps.map (A.sub e))
 | .clos f ps=>.clos f (ps.map (A.sub e))
 | .nilchk x=>.nilchk (x.sub e)
 | .makeMap al=>.makeMap al
 | .lookup kd z ok x k=>.lookup kd z ok (x.sub e) (k.sub e)
 | .mapUpd kd m k v=>.mapUpd kd (m.sub e) (k.sub e) (v.sub e)
 | .mksl al z zero n=>.mksl al z zero (n.sub e)
 | .eqs neg kd x y=>.eqs neg kd (x.sub e) (y.sub e)
 | .bndm f x=>.bndm f (x.sub e)
 | .load1 x=>.load1 (x.sub e)
 | .load2 n x=>.load2 n (x.sub e)
def toE (tm:List V):Nat→V:=fun i=>tm.getD i aE
def upd (e:Nat→V) (d:Nat) (v:V):Nat→V:=fun t=>if t=d then v else e t
def nU (e:Nat→V):Option Nat→V→Nat→V
 | none,_=>e
 | some d,v=>upd e d v
theorem eC (tm tm':List V) (x:A):ev tm' (x.sub (toE tm))=ev tm x:=by cases x<;>rfl
theorem pm (tm tm':List V) (xs:List A):(xs.map (A.sub (toE tm))).map (ev tm')=xs.map (ev tm):=by
 rw[List.map_map];exact List.map_congr_left fun x _=>eC tm tm' x
theorem qz (tm tm':List V):∀(ps:List (Nat × Nat × A)) (z:List V),ga z tm' (ps.map fun p=>(p.1,p.2.1,p.2.2.sub (toE tm)))=ga z tm ps
 | [],z=>rfl
 | (o,n,x)::r,z=>by
  simp only[List.map_cons,ga,eC];split
  ·exact qz tm tm' r _
  ·rfl
theorem kS (tm tm':List V) (d:Int) (x:Option A):bl tm' d (x.map (A.sub (toE tm)))=bl tm d x:=by
 cases x with
 | none=>rfl
 | some x=>simp only[Option.map_some,bl,eC]
theorem Cd (tm tm' us:List V) (z:Nat) (lo hi mx:Option A):slV tm' us z (lo.map (A.sub (toE tm))) (hi.map (A.sub (toE tm))) (mx.map (A.sub (toE tm)))=slV tm us z lo hi mx:=by
 unfold slV;have e1:(hi.map (A.sub (toE tm))).isSome=hi.isSome:=by cases hi<;>rfl
 simp only[kS,e1];generalize bl tm 0 lo=a;generalize bl tm us.length hi=b;cases mx<;>cases a<;>cases b<;>simp[eC]
theorem xC (tm tm':List V) (id off n:Nat) (zz:Option Nat) (z:Nat) (lo hi mx:Option A):wm tm' id off n zz z (lo.map (A.sub (toE tm))) (hi.map (A.sub (toE tm))) (mx.map (A.sub (toE tm)))=wm tm id off n zz z lo hi mx:=by
 unfold wm;have e1:(hi.map (A.sub (toE tm))).isSome=hi.isSome:=by cases hi<;>rfl
 simp only[kS,e1];generalize bl tm 0 lo=a;generalize bl tm n hi=b;cases mx<;>cases a<;>cases b<;>simp[eC]
theorem BZ (tm tm':List V) (s:ByteArray) (lo hi mx:Option A):stV tm' s (lo.map (A.sub (toE tm))) (hi.map (A.sub (toE tm))) (mx.map (A.sub (toE tm)))=stV tm s lo hi mx:=by
 unfold stV;simp only[kS];cases mx<;>simp
theorem ux (tm tm':List V) (rb:Nat) (s:Bool) (z:Nat) (x:A) (lo hi mx:Option A):aG tm' rb (XOp.sub (toE tm) (.slice s z x lo hi mx))=aG tm rb (.slice s z x lo hi mx):=by
 simp only[XOp.sub,aG,eC,Cd,xC,BZ]
theorem act_sub {cf:aw}{st:St}{op:XOp}:act cf { st with tm:=[] } (op.sub (toE st.tm))=act cf st op:=by
 cases op
 case slice s z x lo hi mx =>
  have:=ux st.tm [] st.rb s z x lo hi mx;simp only[XOp.sub] at this;simp only[act,XOp.sub,this]
 case build z ps=>simp only[act,XOp.sub,aG,qz]
 case bslice al z ps=>simp only[act,XOp.sub,aG,List.map_map,Function.comp_def,eC]
 case mm m ps=>simp only[act,XOp.sub,aG,pm]
 case clos f ps=>simp only[act,XOp.sub,aG,pm]
 case call f ps=>simp only[act,XOp.sub,eC,pm]
 all_goals simp only[act,XOp.sub,aG,eC]
theorem vK {m:Nat}{st:St}{op:XOp}:ix m { st with tm:=[] } (op.sub (toE st.tm))=ix m st op:=by
 cases op<;>simp only[ix,XOp.sub,eC]
def j3 (e:Nat→V):Option (Nat × Bool)→Bool
 | none=>true
 | some (t,_)=>match e t with
  | .top=>false
  | _=>true
def iN (e:Nat→V):Option (Nat × Bool)→Bool
 | none=>true
 | some (t,b)=>match e t with
  | .c (.bool x)=>x==b
  | _=>false
theorem Bi (tm:List V) (g:Option (Nat × Bool)):j3 (toE tm) g=bj tm g:=by
 cases g with
 | none=>rfl
 | some p =>
  obtain⟨t,b⟩:=p;simp only[j3,bj,toE,List.getD_eq_getElem?_getD];cases tm[t]? with
  | none=>rfl
  | some v=>cases v <;> rfl
theorem s7 (tm:List V) (g:Option (Nat × Bool)):iN (toE tm) g=bh tm g:=by
 cases g with
 | none=>rfl
 | some p =>
  obtain⟨t,b⟩:=p;simp only[iN,bh,toE,List.getD_eq_getElem?_getD];cases tm[t]? with
  | none=>rfl
  | some v =>
   cases v with
   | c x=>cases x <;> rfl
   | _=>rfl
def jv {α:Type}:Option α→(α→Prop)→Prop
 | none,_=>False
 | some a,k=>k a
theorem dO {α:Type}(a:α) (k:α→Prop):jv (some a) k=k a:=rfl
def bH (cf:aw) (s:SF) (op:XOp):Option (V × List O):=act cf ⟨[],s.h,s.base,s.rb⟩ (op.sub s.e)
def wps (cf:aw) (o:XOper) (s:SF) (k:SF→Prop):Prop :=
 if j3 s.e o.g=true then if iN s.e o.g=true then jv (bH cf s o.op) fun r=>k ⟨nU s.e o.d r.1,r.2,s.base,s.rb⟩ else k ⟨nU s.e o.d aE,s.h,s.base,s.rb⟩ else False
def lJ (cf:aw):List XOper→SF→(SF→Prop)→Prop
 | [],s,k=>k s
 | o::r,s,k=>wps cf o s fun s=>lJ cf r s k
def HT (s:SF) (op:XOp):Bool:=ix s.base ⟨[],s.h,s.base,s.rb⟩ (op.sub s.e)
def iW (cf:aw):List XOper→SF→(SF→Prop)→Prop
 | [],s,k=>k s
 | o::r,s,k=>HT s o.op=true∧wps (aM s.base cf) o s fun s=>iW cf r s k
def nw (v:V) (p q:Prop):Prop:=match v with
 | .c (.bool t)=>if t=true then p else q
 | _=>False
def dz (f:SF→(Ex→SF→Prop)→Prop):Nat→SF→(Ex→SF→Prop)→Prop
 | 0,_,_=>False
 | n+1,s,Q=>f s fun e s=>match e with
  | .normal=>dz f n s Q
  | e=>Q e s
def xw (nt:Nat) (us:List Nat) (e:Nat→V):List V:=(List.range nt).map fun i=>if us.contains i then e i else .top
def lI:Option O→Option Ex
 | some (.loop s)=>Ex.ofNum s
 | _=>none
def jY (all:List XOper):List XOper→List Nat
 | []=>[]
 | o::r=>match o.op,o.d with
  | .mv (.t x),some d=>if pj d all then x::jY all r else jY all r
  | _,_=>jY all r
def fX (b:Nat):V→Bool
 | .ref id _=>decide (b≤id)
 | _=>false
def B9:List XOper→List Nat
 | []=>[]
 | o::r=>match o.g,o.op with
  | none,.fieldAddr _ (.t i)=>i::B9 r
  | none,.load _ (.t i)=>i::B9 r
  | _,_=>B9 r
def mA (b:Nat):V→Nat→Nat
 | .ref id _,m=>if b≤id∧id<m then id else m
 | _,m=>m
def EP (s:SF) (ops:List XOper):Nat:=if (jY ops ops).any (fun x=>fX s.base (s.e x))=true then (B9 ops).foldl (fun m i=>mA s.base (s.e i) m) s.h.length else s.base
def fD (m:Nat) (s:SF) (o:XOper):Bool:=o.g.isSome||ix m ⟨[],s.h,s.base,s.rb⟩ (o.op.sub s.e)
def G5 (m:Nat) (s:SF) (o:XOper):Bool:=it m ⟨[],s.h,s.base,s.rb⟩ (o.op.sub s.e)
def eg (cf:aw) (p:SF→XOper→Bool):List XOper→SF→(SF→Prop)→Prop
 | [],s,k=>k s
 | o::r,s,k=>p s o=true∧wps cf o s fun s=>eg cf p r s k
def wpx (cf:aw) (n:Nat):XC→SF→(Ex→SF→Prop)→Prop
 | .skip,s,Q=>Q .normal s
 | .reg ops pre _,s,Q=>lJ cf ops ⟨s.e,s.h++pre,s.base,s.h.length⟩ (Q .normal)
 | .regw ops pre,s,Q=>iW cf ops ⟨s.e,s.h++pre,s.base,s.h.length⟩ (Q .normal)
 | .regr ops pre,s,Q=>eg (eR (min s.base s.h.length) cf) (G5 (min s.base s.h.length)) ops ⟨s.e,s.h++pre,s.base,s.h.length⟩ (Q .normal)
 | .regm ops pre,s,Q=>eg (aM (EP s ops) cf) (fD (EP s ops)) ops ⟨s.e,s.h++pre,s.base,s.h.length⟩ (Q .normal)
 | .seq a b,s,Q=>wpx cf n a s fun e s=>match e with
  | .normal=>wpx cf n b s Q
  | e=>Q e s
 | .cond c a b,s,Q=>nw (c.val s.e) (wpx cf n a s Q) (wpx cf n b s Q)
 | .block id c,s,Q=>wpx cf n c s fun e s=>match e with
  | .exit id'=>if id'=id then Q .normal s else Q (.exit id') s
  | e=>Q e s
 | .loop c,s,Q=>dz (wpx cf n c) n s Q
 | .exit id,s,Q=>Q (.exit id) s
 | .ret,s,Q=>Q .ret s
 | .rangeF f y m nt us,s,Q=>match bb (f.val s.e) with
  | some (g,lb)=>if g<rid∧rid≤y then jv (cf g (.yld s.h.length y m (xw nt us s.e)::lb) (s.h++[.loop 0])) fun r=>jv (lI r.2[s.h.length]?) fun e=>Q e ⟨s.e,r.2.set s.h.length (.loop 2),s.base,s.rb⟩ else False
  | none=>False
def dOk (m:Nat) (ops:List XOper):Bool:=ops.all fun o=>match o.d with
 | some d=>decide (d<m)
 | none=>true
def fV (m:Nat):XC→Bool
 | .reg ops _ _=>dOk m ops
 | .regw ops _=>dOk m ops
 | .regm ops _=>dOk m ops
 | .regr ops _=>dOk m ops
 | .seq a b=>fV m a&&fV m b
 | .cond _ a b=>fV m a&&fV m b
 | .block _ c=>fV m c
 | .loop c=>fV m c
 | .rangeF _ _ _ nt _=>m==nt
 | _=>true
def toS (st:St):SF:=⟨toE st.tm,st.h,st.base,st.rb⟩
theorem uW (tm:List V) (d:Option Nat) (v:V) (hd:(match d with|some d=>decide (d<tm.length)|none=>true)=true):toE (bM tm d v)=nU (toE tm) d v:=by
 cases d with
 | none=>rfl
 | some d =>
  simp only[dT] at hd;funext t;simp only[toE,bM,nU,upd,List.getD_eq_getElem?_getD,List.getElem?_set];by_cases h:t=d
  ·subst h;simp[hd]
  ·have:¬d=t:=fun e=>h e.symm
   simp[h,this]
theorem pY (tm:List V) (d:Option Nat) (v:V):(bM tm d v).length=tm.length:=by cases d<;>simp[bM]
theorem p9 {cf:aw}{o:XOper}{st:St}{k:SF→Prop}(hd:(match o.d with|some d=>decide (d<st.tm.length)|none=>true)=true) (h:wps cf o (toS st) k) :
  ∃st1,aN cf o st=some st1∧st1.tm.length=st.tm.length∧st1.base=st.base∧st1.rb=st.rb∧k (toS st1):=by
 unfold wps at h;split at h
 ·rename_i h1;simp only[toS] at h1;rw[Bi] at h1;split at h
  ·rename_i h2;simp only[toS] at h2;rw[s7] at h2;unfold bH at h;have he:act cf ⟨[],(toS st).h,(toS st).base,(toS st).rb⟩ (o.op.sub (toS st).e)=act cf st o.op:=act_sub (st:=st);rw[he] at h;cases ha:act cf st o.op with
   | none=>rw[ha] at h;exact h.elim
   | some r =>
    rw[ha] at h;obtain⟨v,h'⟩:=r;refine⟨{ st with tm:=bM st.tm o.d v,h:=h' },by simp[aN,h1,h2,ha],pY _ _ _,rfl,rfl,?_⟩;simp only[dO,toS] at h ⊢;rw[uW _ _ _ hd];exact h
  ·rename_i h2;simp only[toS] at h2;rw[s7] at h2;refine⟨{ st with tm:=bM st.tm o.d aE },by simp[aN,h1,h2],pY _ _ _,rfl,rfl,?_⟩;simp only[toS] at h ⊢;rw[uW _ _ _ hd];exact h
 ·exact h.elim
theorem rx {cf:aw}:∀{ops:List XOper}{st:St}{k:SF→Prop},dOk st.tm.length ops=true→lJ cf ops (toS st) k →
  ∃st1,aH cf ops st=some st1∧st1.tm.length=st.tm.length∧st1.base=st.base∧k (toS st1)
 | [],st,k,_,h=>⟨st,rfl,rfl,rfl,h⟩
 | o::r,st,k,hd,h=>by
  simp only[dOk,List.all_cons,bT] at hd;obtain⟨s1,h1,h2,h3,h4,h5⟩:=p9 hd.1 h;obtain⟨s2,k1,k2,k3,k4⟩:=rx (st:=s1) (by rw[h2];exact hd.2) h5;exact⟨s2,by simp[aH,h1,k1],k2.trans h2,k3.trans h3,k4⟩
theorem mU {cf:aw}:∀{ops:List XOper}{st:St}{k:SF→Prop},dOk st.tm.length ops=true→iW cf ops (toS st) k →
  ∃st1,ek st.base false cf ops st=some st1∧st1.tm.length=st.tm.length∧st1.base=st.base∧k (toS st1)
 | [],st,k,_,h=>⟨st,rfl,rfl,rfl,h⟩
 | o::r,st,k,hd,h=>by
  simp only[dOk,List.all_cons,bT] at hd;obtain⟨ho,h⟩:=h;have ho':ix st.base st o.op=true:=by
   rw[← ho];exact (vK (st:=st)).symm
  obtain⟨s1,h1,h2,h3,h4,h5⟩:=p9 hd.1 h;obtain⟨s2,k1,k2,k3,k4⟩:=mU (st:=s1) (by rw[h2];exact hd.2) h5;have h1':aN (aM st.base cf) o st=some s1:=h1;rw[h3] at k1;exact⟨s2,by simp[ek,ej,ho',h1',k1],k2.trans h2,k3.trans h3,k4⟩
theorem mR (tm:List V) (b:Nat) (all:List XOper):∀ops:List XOper,(jY all ops).any (fun x=>fX b (toE tm x))=ops.any fun o=>match o.op,o.d with
  | .mv (.t x),some d=>(match ev tm (.t x) with
   | .ref id _=>decide (b≤id)
   | _=>false)&&pj d all
  | _,_=>false
 | []=>rfl
 | o::r=>by
  have ih:=mR tm b all r;rw[List.any_cons,← ih];obtain⟨d,op,g⟩:=o;cases op with
  | mv x =>
   cases x with
   | t x =>
    cases d with
    | some d =>
     show ((if pj d all then x::jY all r else jY all r).any fun x=>fX b (toE tm x))=(fX b (toE tm x)&&pj d all||(jY all r).any fun x=>fX b (toE tm x));by_cases hd:pj d all=true
     ·rw[if_pos hd,List.any_cons,hd,Bool.and_true]
     ·rw[if_neg hd];have:pj d all=false:=by simpa using hd
      rw[this,Bool.and_false,Bool.false_or]
    | none=>rfl
   | k v=>cases d <;> rfl
  | _=>rfl
theorem dr (st:St):∀(ops:List XOper) (m:Nat),(B9 ops).foldl (fun m i=>mA st.base (toE st.tm i) m) m=qD st ops m
 | [],m=>rfl
 | o::r,m=>by
  have key:∀i m,mA st.base (toE st.tm i) m=yT st (.t i) m:=fun i m=>by
   simp only[mA,yT,toE,List.getD_eq_getElem?_getD];cases st.tm[i]? with
   | none=>rfl
   | some v=>cases v <;> rfl
  unfold B9 qD;obtain⟨d,op,g⟩:=o;cases g with
  | some g=>exact dr st r m
  | none =>
   simp only[Option.isSome_none,Bool.false_eq_true,if_false];cases op with
   | fieldAddr k x =>
    cases x with
    | t i=>rw[List.foldl_cons,key];exact dr st r _
    | k v=>exact dr st r m
   | load k x =>
    cases x with
    | t i=>rw[List.foldl_cons,key];exact dr st r _
    | k v=>exact dr st r m
   | _=>exact dr st r m
theorem Gc (st:St) (ops:List XOper):EP (toS st) ops=thr st ops:=by
 have h1:(jY ops ops).any (fun x=>fX st.base (toE st.tm x))=zx st ops:=mR st.tm st.base ops ops;have h2:=dr st ops st.h.length;unfold EP thr;rw[← h1,← h2];rfl
theorem B2 {m:Nat}{st:St}{op:XOp}:it m { st with tm:=[] } (op.sub (toE st.tm))=it m st op:=by
 cases op<;>simp only[it,XOp.sub,eC]
theorem mu {cf:aw}{m:Nat}:∀{ops:List XOper}{st:St}{k:SF→Prop},dOk st.tm.length ops=true→eg (aM m cf) (fD m) ops (toS st) k →
  ∃st1,ek m true cf ops st=some st1∧st1.tm.length=st.tm.length∧st1.base=st.base∧k (toS st1)
 | [],st,k,_,h=>⟨st,rfl,rfl,rfl,h⟩
 | o::r,st,k,hd,h=>by
  simp only[dOk,List.all_cons,bT] at hd;obtain⟨ho,h⟩:=h;have ho':(eT true o||ix m st o.op)=true:=by
   have h1:fD m (toS st) o=(eT true o||ix m st o.op):=by
    simp only[eT,fD,Bool.true_and];exact congrArg (o.g.isSome || ·) (vK (st:=st))
   rw[← h1];exact ho
  obtain⟨s1,h1,h2,h3,h4,h5⟩:=p9 hd.1 h;obtain⟨s2,k1,k2,k3,k4⟩:=mu (st:=s1) (by rw[h2];exact hd.2) h5;have h1':aN (aM m cf) o st=some s1:=h1;exact⟨s2,by simp[ek,ej,ho',h1',k1],k2.trans h2,k3.trans h3,k4⟩
theorem mI {cf:aw}{m:Nat}:∀{ops:List XOper}{st:St}{k:SF→Prop},dOk st.tm.length ops=true→eg (eR m cf) (G5 m) ops (toS st) k →
  ∃st1,gD m cf ops st=some st1∧st1.tm.length=st.tm.length∧st1.base=st.base∧k (toS st1)
 | [],st,k,_,h=>⟨st,rfl,rfl,rfl,h⟩
 | o::r,st,k,hd,h=>by
  simp only[dOk,List.all_cons,bT] at hd;obtain⟨ho,h⟩:=h;have ho':it m st o.op=true:=by
   rw[← ho];exact (B2 (st:=st)).symm
  obtain⟨s1,h1,h2,h3,h4,h5⟩:=p9 hd.1 h;obtain⟨s2,k1,k2,k3,k4⟩:=mI (st:=s1) (by rw[h2];exact hd.2) h5;have h1':aN (eR m cf) o st=some s1:=h1;exact⟨s2,by simp[gD,eB,ho',h1',k1],k2.trans h2,k3.trans h3,k4⟩
theorem tT {cf:aw}{n:Nat}:∀(c:XC){st:St}{Q:Ex→SF→Prop},fV st.tm.length c=true→wpx cf n c (toS st) Q →
  ∃e st1,aP cf n c st=some (e,st1)∧st1.tm.length=st.tm.length∧st1.base=st.base∧Q e (toS st1):=by
 intro c
 induction c with
 | skip=>intro st Q _ h;exact⟨_,st,rfl,rfl,rfl,h⟩
 | reg ops pre d =>
  intro st Q hd h;obtain⟨s1,h1,h2,h3,h4⟩:=rx (st:={ st with h:=st.h++pre,rb:=st.h.length }) hd h;exact⟨_,s1,by simp only[aP,h1,Option.map_some],h2,h3,h4⟩
 | regw ops pre =>
  intro st Q hd h;obtain⟨s1,h1,h2,h3,h4⟩:=mU (st:={ st with h:=st.h++pre,rb:=st.h.length }) hd h;exact⟨_,s1,by simp only[aP];rw[show ek st.base false cf ops { st with h:=st.h++pre,rb:=st.h.length }=some s1 from h1];rfl,h2,h3,h4⟩
 | regr ops pre =>
  intro st Q hd h;obtain⟨s1,h1,h2,h3,h4⟩:=mI (m:=min st.base st.h.length) (st:={ st with h:=st.h++pre,rb:=st.h.length }) hd h;exact⟨_,s1,by simp only[aP];rw[h1];rfl,h2,h3,h4⟩
 | regm ops pre =>
  intro st Q hd h;have h':eg (aM (thr st ops) cf) (fD (thr st ops)) ops (toS { st with h:=st.h++pre,rb:=st.h.length }) (Q .normal):=by
   rw[← Gc];exact h
  obtain⟨s1,h1,h2,h3,h4⟩:=mu (st:={ st with h:=st.h++pre,rb:=st.h.length }) hd h';exact⟨_,s1,by simp only[aP];rw[h1];rfl,h2,h3,h4⟩
 | seq a b iha ihb =>
  intro st Q hd h;simp only[fV,bT] at hd;obtain⟨e,s1,h1,h2,h3,h4⟩:=iha hd.1 h;cases e with
  | normal =>
   obtain⟨e2,s2,k1,k2,k3,k4⟩:=ihb (st:=s1) (by rw[h2];exact hd.2) h4;exact⟨e2,s2,by simp[aP,h1,k1],k2.trans h2,k3.trans h3,k4⟩
  | exit id=>exact⟨_,s1,by simp[aP,h1],h2,h3,h4⟩
  | ret=>exact⟨_,s1,by simp[aP,h1],h2,h3,h4⟩
 | cond c a b iha ihb =>
  intro st Q hd h;simp only[fV,bT] at hd;have he:c.val (toS st).e=ev st.tm c:=by cases c<;>rfl
  unfold wpx nw at h;rw[he] at h;split at h
  ·rename_i t ht;split at h
   ·rename_i htt;obtain⟨e,s1,h1,h2⟩:=iha hd.1 h;exact⟨e,s1,by simp[aP,ht,htt,h1],h2⟩
   ·rename_i htt;obtain⟨e,s1,h1,h2⟩:=ihb hd.2 h;exact⟨e,s1,by simp[aP,ht,htt,h1],h2⟩
  ·exact h.elim
 | block id c ih =>
  intro st Q hd h;obtain⟨e,s1,h1,h2,h3,h4⟩:=ih hd h;cases e with
  | normal=>exact⟨_,s1,by simp[aP,h1],h2,h3,h4⟩
  | ret=>exact⟨_,s1,by simp[aP,h1],h2,h3,h4⟩
  | exit id' =>
   simp only at h4;split at h4
   ·rename_i hid;exact⟨_,s1,by simp[aP,h1,hid],h2,h3,h4⟩
   ·rename_i hid;exact⟨_,s1,by simp[aP,h1,hid],h2,h3,h4⟩
 | loop c ih =>
  intro st Q hd h;have key:∀k (st:St),fV st.tm.length c=true→dz (wpx cf n c) k (toS st) Q→∃e st1,io (aP cf n c) k st=some (e,st1)∧st1.tm.length=st.tm.length∧st1.base=st.base∧Q e (toS st1):=by
   intro k
   induction k with
   | zero=>intro st _ h;exact h.elim
   | succ k ihk =>
    intro st hd h;obtain⟨e,s1,h1,h2,h3,h4⟩:=ih hd h;cases e with
    | normal =>
     obtain⟨e2,s2,k1,k2,k3,k4⟩:=ihk s1 (by rw[h2];exact hd) h4;exact⟨e2,s2,by simp[io,h1,k1],k2.trans h2,k3.trans h3,k4⟩
    | exit id=>exact⟨_,s1,by simp[io,h1],h2,h3,h4⟩
    | ret=>exact⟨_,s1,by simp[io,h1],h2,h3,h4⟩
  exact key n st hd h
 | exit id=>intro st Q _ h;exact⟨_,st,rfl,rfl,rfl,h⟩
 | ret=>intro st Q _ h;exact⟨_,st,rfl,rfl,rfl,h⟩
 | rangeF f y m nt us =>
  intro st Q hd h;have he:f.val (toS st).e=ev st.tm f:=by cases f<;>rfl
  have hk:xw nt us (toS st).e=lT nt us st.tm:=rfl;have hd':st.tm.length=nt:=by simpa[fV] using hd
  unfold wpx at h;rw[he,hk] at h;split at h
  ·rename_i g lb hcal;split at h
   ·rename_i hlt;cases hcf:cf g (.yld (toS st).h.length y m (lT nt us st.tm)::lb) ((toS st).h++[.loop 0]) with
    | none=>rw[hcf] at h;exact h.elim
    | some r =>
     rw[hcf] at h;obtain⟨r,h'⟩:=r;simp only[dO] at h;cases hle:lI h'[(toS st).h.length]? with
     | none=>rw[hle] at h;exact h.elim
     | some e =>
      rw[hle] at h;simp only[dO] at h;obtain⟨s,hs,hn⟩:∃s,h'[(toS st).h.length]?=some (.loop s)∧Ex.ofNum s=some e:=by
       unfold lI at hle;split at hle
       ·rename_i s hs;exact⟨s,hs,hle⟩
       ·cases hle
      refine⟨e,{ st with h:=h'.set st.h.length (.loop 2) },?_,rfl,rfl,h⟩;have hcf':cf g (.yld st.h.length y m (lT nt us st.tm)::lb) (st.h++[.loop 0])=some (r,h'):=hcf;have hs':h'[st.h.length]?=some (.loop s):=hs;simp only[aP,hcal];rw[if_pos ⟨hlt.1,hlt.2,hd'⟩,hcf'];simp only[hs',hn,Option.map_some]
   ·exact h.elim
  ·exact h.elim
theorem jl {f:SF→(Ex→SF→Prop)→Prop}{Q:Ex→SF→Prop}(I:Nat→SF→Prop) (hf:∀s Q Q',(∀e s,Q e s→Q' e s)→f s Q→f s Q')
  (hI:∀k s,I k s→f s fun e s'=>match e with|.normal=>∃k',k'<k∧I k' s'|e=>Q e s'):∀(n k:Nat) (s:SF),k<n→I k s→dz f n s Q
 | 0,k,s,hk,_=>by omega
 | n+1,k,s,hk,h=>by
  refine hf _ _ _ ?_ (hI k s h);intro e s' h';cases e with
  | normal =>
   obtain⟨k',hk',h2⟩:=h';exact jl I hf hI n k' s' (by omega) h2
  | exit id=>exact h'
  | ret=>exact h'
theorem cF {α:Type}{o:Option α}{k k':α→Prop}(hk:∀a,k a→k' a) (h:jv o k):jv o k':=by
 cases o with
 | none=>exact h
 | some a=>exact hk a h
theorem gK {cf:aw}{o:XOper}{s:SF}{k k':SF→Prop}(hk:∀s,k s→k' s) (h:wps cf o s k):wps cf o s k':=by
 unfold wps at h ⊢;split at h
 ·rename_i h1;rw[if_pos h1];split at h
  ·rename_i h2;rw[if_pos h2];exact cF (fun r hr=>hk _ hr) h
  ·rename_i h2;rw[if_neg h2];exact hk _ h
 ·exact h.elim
theorem iZ {cf:aw}:∀{ops:List XOper}{s:SF}{k k':SF→Prop},(∀s,k s→k' s)→lJ cf ops s k→lJ cf ops s k'
 | [],s,k,k',hk,h=>hk s h
 | o::r,s,k,k',hk,h=>gK (fun s h=>iZ hk h) h
theorem gX {cf:aw}:∀{ops:List XOper}{s:SF}{k k':SF→Prop},(∀s,k s→k' s)→iW cf ops s k→iW cf ops s k'
 | [],s,k,k',hk,h=>hk s h
 | o::r,s,k,k',hk,h=>⟨h.1,gK (fun s h=>gX hk h) h.2⟩
theorem eO {cf:aw}{p:SF→XOper→Bool}:∀{ops:List XOper}{s:SF}{k k':SF→Prop},(∀s,k s→k' s)→eg cf p ops s k→eg cf p ops s k'
 | [],s,k,k',hk,h=>hk s h
 | o::r,s,k,k',hk,h=>⟨h.1,gK (fun s h=>eO hk h) h.2⟩
theorem du {cf:aw}{n:Nat}:∀(c:XC){s:SF}{Q Q':Ex→SF→Prop},(∀e s,Q e s→Q' e s)→wpx cf n c s Q→wpx cf n c s Q':=by
 intro c
 induction c with
 | skip=>intro s Q Q' hQ h;exact hQ _ _ h
 | reg ops pre d=>intro s Q Q' hQ h;exact iZ (fun s h=>hQ _ _ h) h
 | regw ops pre=>intro s Q Q' hQ h;exact gX (fun s h=>hQ _ _ h) h
 | regr ops pre=>intro s Q Q' hQ h;exact eO (fun s h=>hQ _ _ h) h
 | regm ops pre=>intro s Q Q' hQ h;exact eO (fun s h=>hQ _ _ h) h
 | seq a b iha ihb =>
  intro s Q Q' hQ h;refine iha (fun e s h=>?_) h;cases e with
  | normal=>exact ihb hQ h
  | exit id=>exact hQ _ _ h
  | ret=>exact hQ _ _ h
 | cond c a b iha ihb =>
  intro s Q Q' hQ h;unfold wpx nw at h ⊢;split at h
  ·split at h
   ·rename_i t ht htt;simp only[htt,if_true];exact iha hQ h
   ·rename_i t ht htt;simp only[htt];exact ihb hQ h
  ·exact h.elim
 | block id c ih =>
  intro s Q Q' hQ h;refine ih (fun e s h=>?_) h;cases e with
  | normal=>exact hQ _ _ h
  | ret=>exact hQ _ _ h
  | exit id' =>
   simp only at h ⊢;split at h
   ·rename_i hid;rw[if_pos hid];exact hQ _ _ h
   ·rename_i hid;rw[if_neg hid];exact hQ _ _ h
 | loop c ih =>
  intro s Q Q' hQ h;have key:∀k (s:SF),dz (wpx cf n c) k s Q→dz (wpx cf n c) k s Q':=by
   intro k
   induction k with
   | zero=>intro s h;exact h
   | succ k ihk =>
    intro s h;refine ih (fun e s h=>?_) h;cases e with
    | normal=>exact ihk s h
    | exit id=>exact hQ _ _ h
    | ret=>exact hQ _ _ h
  exact key n s h
 | exit id=>intro s Q Q' hQ h;exact hQ _ _ h
 | ret=>intro s Q Q' hQ h;exact hQ _ _ h
 | rangeF f y m nt us =>
  intro s Q Q' hQ h;unfold wpx at h ⊢;split at h
  ·split at h
   ·rename_i hlt;simp only[if_pos hlt];exact cF (fun r hr=>cF (fun e he=>hQ _ _ he) hr) h
   ·exact h.elim
  ·exact h.elim
theorem x7 {cf:aw}{n:Nat}{c:XC}{s:SF}{Q:Ex→SF→Prop}(I:Nat→SF→Prop) (k:Nat) (hk:k<n) (h0:I k s)
  (hI:∀k s,I k s→wpx cf n c s fun e s'=>match e with|.normal=>∃k',k'<k∧I k' s'|e=>Q e s'):wpx cf n (.loop c) s Q :=
 jl (f:=wpx cf n c) I (fun s Q Q' h hw=>du c h hw) hI n k s hk h0
theorem yE {cf:aw}{n:Nat}{c:XC}{s:SF}{Q:Ex→SF→Prop}(I:Nat→SF→Prop) (k:Nat) (hk:k<n) (h0:I k s)
  (hI:∀k s,I k s→wpx cf n c s fun e s'=>match e with|.normal=>∃k',k'<k∧I k' s'|e=>Q e s'):dz (wpx cf n c) n s Q:=x7 I k hk h0 hI
def wq (s:SF):XR→Option V
 | .t i=>some (s.e i)
 | .cell i n=>match s.e i with
  | .ref id o=>match s.h[id]? with
   | some (.cells cs)=>rdV cs o n
   | _=>none
  | _=>none
def gq (s:SF):List XR→Option (List V)
 | []=>some []
 | r::rs=>match wq s r,gq s rs with
  | some v,some vs=>some (v::vs)
  | _,_=>none
def rOk (m:Nat):XR→Bool
 | .t i=>decide (i<m)
 | .cell i _=>decide (i<m)
theorem Br {st:St}{rs:List XR}(hr:rs.all (rOk st.tm.length)=true):cJ st rs=gq (toS st) rs:=by
 induction rs with
 | nil=>rfl
 | cons r rs ih =>
  simp only[List.all_cons,bT] at hr;have e:yb st r=wq (toS st) r:=by
   cases r with
   | t i =>
    have hi:i<st.tm.length:=by simpa[rOk] using hr.1
    simp[yb,wq,toS,toE,gE hi]
   | cell i n =>
    have hi:i<st.tm.length:=by simpa[rOk] using hr.1
    simp only[yb,wq,toS,toE,List.getD_eq_getElem?_getD,gE hi,Option.getD_some];generalize st.tm[i]=v;cases v<;>rfl
  simp only[cJ,gq,e,ih hr.2];cases wq (toS st) r<;>cases gq (toS st) rs<;>rfl
def bD (args:List V):Nat→V:=fun i=>args.getD i aE
theorem vY (xf:XF) (args:List V) (h:List O):toS (cU xf args h)=⟨bD args,h,h.length,0⟩:=by
 simp only[toS,cU];congr 1;funext i;simp only[toE,bD,List.getD_eq_getElem?_getD,List.getElem?_append,List.getElem?_replicate];split
 ·rfl
 ·rename_i hi;rw[List.getElem?_eq_none (by omega)];split<;>rfl
def tA (xf:XF) (k:Nat):Bool:=decide (k≤xf.ntm)&&fV xf.ntm xf.body&&xf.res.all (rOk xf.ntm)
def Fin (P:List V→List O→Prop) (xf:XF):Ex→SF→Prop
 | .exit _,_=>False
 | _,s=>jv (gq s xf.res) fun vs=>P vs s.h
theorem jN {cf:aw}{n:Nat}{xf:XF}{args:List V}{h:List O}(hx:tA xf args.length=true){P:List V→List O→Prop}(hw:wpx cf n xf.body ⟨bD args,h,h.length,0⟩ (Fin P xf)) :
  ∃e s vs,aP cf n xf.body (cU xf args h)=some (e,s)∧(∀id,e≠.exit id)∧cJ s xf.res=some vs∧s.base=h.length∧P vs s.h:=by
 simp only[tA,bT,dT] at hx;have hl:(cU xf args h).tm.length=xf.ntm:=by simp[cU];omega
 rw[← vY xf args h] at hw;obtain⟨e,s,h1,h2,h3,h4⟩:=tT xf.body (st:=cU xf args h) (by rw[hl];exact hx.1.2) hw;have hr:=Br (st:=s) (rs:=xf.res) (by rw[h2,hl];exact hx.2);cases e with
 | exit id=>exact h4.elim
 | normal =>
  simp only[Fin] at h4;cases hv:gq (toS s) xf.res with
  | none=>rw[hv] at h4;exact h4.elim
  | some vs=>rw[hv] at h4;exact⟨_,s,vs,h1,by simp,by rw[hr,hv],h3,h4⟩
 | ret =>
  simp only[Fin] at h4;cases hv:gq (toS s) xf.res with
  | none=>rw[hv] at h4;exact h4.elim
  | some vs=>rw[hv] at h4;exact⟨_,s,vs,h1,by simp,by rw[hr,hv],h3,h4⟩
theorem vR {cf:aw}{n:Nat}{xf:XF}{args:List V}{h:List O}{r:V}(hx:tA xf args.length=true) (hp:xf.pure=true) (he:xf.esc=false) (hl:V.lows 0 (args.map V.vw2)=true)
  (hw:wpx cf n xf.body ⟨bD (args.map V.vw2),[],0,0⟩ (Fin (fun vs _=>(bG vs).vw=r∧r.low 0=true) xf)):ic cf n xf args h=some (r,h):=by
 have:=jN (cf:=cf) (n:=n) (xf:=xf) (args:=args.map V.vw2) (h:=[]) (by simpa using hx) hw;obtain⟨e,s,vs,h1,h2,h3,h4,h5,h6⟩:=this;unfold ic;rw[if_pos hp,if_pos hl,if_neg (by simp[he]),h1];simp only[List.length_nil] at h4;cases e with
 | exit id=>exact absurd rfl (h2 id)
 | normal=>simp[fin,h3,h5,h6,h4]
 | ret=>simp[fin,h3,h5,h6,h4]
theorem dm {cf:aw}{n:Nat}{xf:XF}{args:List V}{h h':List O}{r:V}(hx:tA xf args.length=true) (hp:xf.pure=false) (he:xf.esc=false)
  (hw:wpx cf n xf.body ⟨bD (args.map V.vw2),h,h.length,0⟩ (Fin (fun vs s=>(bG vs).vw=r∧r.low h.length=true∧s.take h.length=h'∧h'.all (O.low h.length)=true) xf)):ic cf n xf args h=some (r,h'):=by
 have:=jN (cf:=cf) (n:=n) (xf:=xf) (args:=args.map V.vw2) (h:=h) (by simpa using hx) hw;obtain⟨e,s,vs,h1,h2,h3,h4,h5,h6,h7,h8⟩:=this;unfold ic;rw[if_neg (by simp[hp]),if_neg (show ¬xf.esc=true by simp[he]),h1];cases e with
 | exit id=>exact absurd rfl (h2 id)
 | normal =>
  subst h7;simp only[fin,h3,he,Bool.false_eq_true,if_false,h5,h4,h6,if_true];rw[if_pos h8]
 | ret =>
  subst h7;simp only[fin,h3,he,Bool.false_eq_true,if_false,h5,h4,h6,if_true];rw[if_pos h8]
theorem ya {cf:aw}{n:Nat}{ps:List Nat}{asg body:XC}{k:Nat}{vs caps tm:List V}{h h':List O}{b:Bool}(hp:fh ps vs caps=some tm) (ha:fV tm.length asg=true) (hb:fV tm.length body=true)
  (hw:wpx cf n asg ⟨toE tm,h,h.length,0⟩ fun e s=>e=.normal∧s.h[k]?=some (.loop 0)∧wpx cf n body ⟨s.e,s.h.set k (.loop 1),s.base,s.rb⟩ fun e s =>
   s.h[k]?=some (.loop 1)∧(s.h.set k (.loop e.num)).take h.length=h'∧(h'.all (O.low h.length))=true∧(e.num==0)=b):cQ cf n ps asg body k vs caps h=some (.c (.bool b),h'):=by
 obtain⟨e,s1,h1,h2,h3,rfl,h5,h6⟩:=tT asg (st:={ tm:=tm,h:=h,base:=h.length,rb:=0 }) ha hw;obtain⟨e2,s2,k1,k2,k3,k4,k5,k6,k7⟩:=tT body (st:={ s1 with h:=s1.h.set k (.loop 1) }) (by simp only;rw[h2];exact hb) h6;have h5':s1.h[k]?=some (.loop 0):=h5;have k4':s2.h[k]?=some (.loop 1):=k4;have k5':(s2.h.set k (.loop e2.num)).take h.length=h':=k5;unfold cQ;simp only[hp,h1,h5',k1,k4',k5',k6,k7,if_true]
theorem au (e:Nat→V) (d:Nat) (v:V) (t:Nat):upd e d v t=if t=d then v else e t:=rfl
theorem Cn (args:List V) (i:Nat):bD args i=args.getD i aE:=rfl
theorem gA (cs:List V):V.cells (.agg cs)=cs:=rfl
theorem B3 (x:Value):V.cells (.c x)=[.c x]:=rfl
theorem xT (us:List V) (i:SI):V.cells (.sl us i)=[.sl us i]:=rfl
theorem wg (f:Nat) (cs:List V):V.cells (.clo f cs)=[.clo f cs]:=rfl
theorem Ae (a:V) (cs:List V) (o:Nat):rdV (a::cs) o none=(a::cs)[o]?:=rfl
theorem vh (a:V) (cs:List V) (o n:Nat):rdV (a::cs) o (some n)=if o+n≤(a::cs).length then some (.agg (((a::cs).drop o).take n)) else none:=rfl
theorem Bf (cs:List V):okc (.agg cs)=true:=rfl
theorem Ew (us:List V) (i:SI):okc (.sl us i)=true:=rfl
theorem Bl (f:Nat) (cs:List V):okc (.clo f cs)=true:=rfl
theorem Bz (k:IntKind) (n:Int):okc (.c (.int k n))=true:=rfl
theorem yf (b:Bool):okc (.c (.bool b))=true:=rfl
theorem Ch (s:ByteArray):okc (.c (.string s))=true:=rfl
theorem F6 (x:Value):(V.c x).vw1=.c x:=rfl
theorem D0 (us:List V) (i:SI):(V.sl us i).vw1=.sl us .any:=rfl
theorem DX (x:Value):(V.c x).vw2=.c x:=rfl
theorem aD (us:List V) (i:SI):(V.sl us i).vw2=.sl us .any:=rfl
theorem uu (cs:List V):(V.agg cs).vw2=.agg (cs.map V.vw1):=rfl
theorem AP (i o:Nat):(V.ref i o).vw2=.ref i o:=rfl
theorem AU (i o n:Nat) (z:Option Nat):(V.row i o n z).vw2=.row i o n z:=rfl
theorem HU (x:Value):(V.c x).vw=.c x:=rfl
theorem Aw (us:List V):(V.sl us .full).vw=.sl us .full:=rfl
theorem DN (us:List V):(V.sl us .any).vw=.sl us .any:=rfl
theorem CM (us:List V):(V.sl us .nil).vw=.sl us .nil:=rfl
theorem Do (us:List V) (k:Nat):(V.sl us (.tok k)).vw=.sl us .any:=rfl
theorem Et (cs:List V):(V.agg cs).vw=.agg (cs.map V.vw1):=rfl
theorem DM (vs:List V):(V.tup vs).vw=.tup (vs.map V.vw2):=rfl
theorem By (v:V):bG [v]=v:=rfl
theorem Av (a b:V) (l:List V):bG (a::b::l)=.tup (a::b::l):=rfl
theorem E3 (m:Nat) (x:Value):V.low m (.c x)=true:=by simp[V.low]
theorem bN (q:Nat):bb (.c (.func (.func q) #[] #[]))=some (q,[]):=by simp[bb]
theorem kL (q:Nat) (cs:List V):bb (.clo q cs)=some (q,cs):=rfl
theorem qU (op:BinOp) (k:IntKind) (a b:Int):dN op 0 (.c (.int k a)) (.c (.int k b))=fI op k a b:=by simp[dN]
theorem xz (op:BinOp) (a b:ByteArray):dN op 0 (.c (.string a)) (.c (.string b))=ee op a b:=rfl
theorem yv (a b:Bool):dN .eql 1 (.c (.bool a)) (.c (.bool b))=some (.c (.bool (a==b))):=rfl
theorem yL (a b:Bool):dN .neq 1 (.c (.bool a)) (.c (.bool b))=some (.c (.bool !(a==b))):=rfl
theorem wB (n:Nat):((n:Int)==0)=(n==0):=by
 cases n<;>rfl
def yd (t:ByteArray):Bool:=t.toList==ByteArray.toList ⟨#[]⟩
theorem wY (t:ByteArray):ee .eql t ⟨#[]⟩=some (.c (.bool (yd t))):=rfl
theorem bw (e:Nat→V) (tm:List V) (x:A):ev tm (x.sub e)=x.val e:=by cases x<;>rfl
theorem n6 (e:Nat→V) (tm:List V) (xs:List A):(xs.map (A.sub e)).map (ev tm)=xs.map (A.val e):=by
 rw[List.map_map];exact List.map_congr_left fun x _=>bw e tm x
def uT (e:Nat→V):List V→List (Nat × Nat × A)→Option (List V)
 | z,[]=>some z
 | z,(o,n,x)::r=>if okc (x.val e).vwf=true∧(x.val e).vwf.cells.length=n∧o+n≤z.length then uT e (bg z o (x.val e).vwf.cells) r else none
theorem re (e:Nat→V) (tm:List V):∀(ps:List (Nat × Nat × A)) (z:List V),ga z tm (ps.map fun p=>(p.1,p.2.1,p.2.2.sub e))=uT e z ps
 | [],z=>rfl
 | (o,n,x)::r,z=>by
  simp only[List.map_cons,ga,bw,uT];split
  ·exact re e tm r _
  ·rfl
def rJ (e:Nat→V) (d:Int):Option A→Option Int
 | none=>some d
 | some x=>idx (x.val e)
theorem qo (e:Nat→V) (tm:List V) (d:Int) (x:Option A):bl tm d (x.map (A.sub e))=rJ e d x:=by
 cases x with
 | none=>rfl
 | some x=>simp only[Option.map_some,bl,rJ,bw]
abbrev R2:=Option (V × List O)
def Cf:V→V→V→List O→R2
 | .c (.bool t),a,b,h=>some (if t=true then a else b,h)
 | _,_,_,_=>none
theorem Bk (t:Bool) (a b:V) (h:List O):Cf (.c (.bool t)) a b h=some (if t=true then a else b,h):=rfl
def FM:Option O→Bool→V × List O→R2
 | some .dead,true,r=>some r
 | _,_,_=>none
theorem sM (r:V × List O):FM (some .dead) true r=some r:=rfl
def tM:Option O→Nat→Option Nat→List O→R2
 | some (.cells cs),o,n,h=>(rdV cs o n).map fun v=>(v,h)
 | _,_,_,_=>none
theorem pi (cs:List V) (o:Nat) (n:Option Nat) (h:List O):tM (some (.cells cs)) o n h=(rdV cs o n).map fun v=>(v,h):=rfl
def yQ:V→Option Nat→List O→R2
 | .ref id o,n,h=>tM h[id]? o n h
 | .ptr cs o,n,h=>(rdV cs o n).map fun v=>(v,h)
 | _,_,_=>none
theorem nv (id o:Nat) (n:Option Nat) (h:List O):yQ (.ref id o) n h=tM h[id]? o n h:=rfl
theorem s8 (cs:List V) (o:Nat) (n:Option Nat) (h:List O):yQ (.ptr cs o) n h=(rdV cs o n).map fun v=>(v,h):=rfl
def sK:Option O→Nat→Nat→Nat→V→List O→R2
 | some (.cells cs),id,o,n,v,h=>if okc v=true∧v.cells.length=n∧o+n≤cs.length then some (aE,h.set id (.cells (bg cs o v.cells))) else none
 | _,_,_,_,_,_=>none
theorem ii (cs:List V) (id o n:Nat) (v:V) (h:List O):sK (some (.cells cs)) id o n v h=if okc v=true∧v.cells.length=n∧o+n≤cs.length then some (aE,h.set id (.cells (bg cs o v.cells))) else none:=rfl
def v7:Option O→Nat→Nat→Nat→Nat→V→List O→R2
 | some (.tokc m' z cs),k,m,o,n,v,h=>if m'=m∧okc v=true∧v.cells.length=n∧o+n≤cs.length then some (aE,h.set k (.tokc m z (bg cs o v.cells))) else none
 | _,_,_,_,_,_,_=>none
theorem nZ (m' z:Nat) (cs:List V) (k m o n:Nat) (v:V) (h:List O):v7 (some (.tokc m' z cs)) k m o n v h=if m'=m∧okc v=true∧v.cells.length=n∧o+n≤cs.length then some (aE,h.set k (.tokc m z (bg cs o v.cells))) else none:=rfl
def mc:V→Nat→V→List O→R2
 | .ref id o,n,v,h=>sK h[id]? id o n v h
 | .tref k m o,n,v,h=>v7 h[k]? k m o n v h
 | _,_,_,_=>none
theorem jx (k m o n:Nat) (v:V) (h:List O):mc (.tref k m o) n v h=v7 h[k]? k m o n v h:=rfl
theorem gQ (id o n:Nat) (v:V) (h:List O):mc (.ref id o) n v h=sK h[id]? id o n v h:=rfl
def G9:V→List O→R2
 | .c (.bool b),h=>some (.c (.bool !b),h)
 | _,_=>none
theorem Dk (b:Bool) (h:List O):G9 (.c (.bool b)) h=some (.c (.bool !b),h):=rfl
def IN:V→List O→R2
 | .c (.int k n),h=>some (.c (.int k (k.wrap (0-n))),h)
 | _,_=>none
def faF:Nat→V→List O→R2
 | o,.ref id p,h=>some (.ref id (p+o),h)
 | o,.ptr cs p,h=>some (.ptr cs (p+o),h)
 | o,.tref k n p,h=>some (.tref k n (p+o),h)
 | _,_,_=>none
theorem wD (o k n p:Nat) (h:List O):faF o (.tref k n p) h=some (.tref k n (p+o),h):=rfl
theorem Ba (o id p:Nat) (h:List O):faF o (.ref id p) h=some (.ref id (p+o),h):=rfl
theorem AD (o:Nat) (cs:List V) (p:Nat) (h:List O):faF o (.ptr cs p) h=some (.ptr cs (p+o),h):=rfl
def zl:Nat→Option Nat→V→List O→R2
 | o,n,.agg cs,h=>(rdV cs o n).map fun v=>(v,h)
 | _,_,_,_=>none
def elF:Nat→Option V→List O→R2
 | z,some u,h=>if u.cells.length=z then some (.ptr u.cells 0,h) else none
 | _,none,_=>none
theorem xS (z:Nat) (u:V) (h:List O):elF z (some u) h=if u.cells.length=z then some (.ptr u.cells 0,h) else none:=rfl
def iaF:Nat→V→Option Int→List O→R2
 | z,.sl us _,some n,h=>if 0≤n∧n<us.length then elF z us[n.toNat]? h else none
 | z,.row id off n zz,some k,h=>if 0≤k∧k<n∧zc zz=z then some (.ref id (off+k.toNat*z),h) else none
 | z,.tsl t n zz,some k,h=>if 0≤k∧k<n∧zc zz=z then some (.tref t n (k.toNat*z),h) else none
 | _,_,_,_=>none
theorem zB (z:Nat) (us:List V) (i:SI) (n:Int) (h:List O):iaF z (.sl us i) (some n) h=if 0≤n∧n<us.length then elF z us[n.toNat]? h else none:=rfl
theorem vO (z t n:Nat) (zz:Option Nat) (k:Int) (h:List O):iaF z (.tsl t n zz) (some k) h=if 0≤k∧k<n∧zc zz=z then some (.tref t n (k.toNat*z),h) else none:=rfl
theorem v8 (z id off n:Nat) (zz:Option Nat) (k:Int) (h:List O):iaF z (.row id off n zz) (some k) h=if 0≤k∧k<n∧zc zz=z then some (.ref id (off+k.toNat*z),h) else none:=rfl
def ixF:V→Option Int→List O→R2
 | .c (.string t),some n,h=>if 0≤n then (t[n.toNat]?).map fun b=>(.c (.int .u8 b.toNat),h) else none
 | _,_,_=>none
theorem CQ (t:ByteArray) (n:Int) (h:List O):ixF (.c (.string t)) (some n) h=if 0≤n then (t[n.toNat]?).map fun b=>(.c (.int .u8 b.toNat),h) else none:=rfl
def ssF:V→(ByteArray→Option V)→List O→R2
 | .c (.string t),f,h=>(f t).map fun v=>(v,h)
 | _,_,_=>none
theorem D5 (t:ByteArray) (f:ByteArray→Option V) (h:List O):ssF (.c (.string t)) f h=(f t).map fun v=>(v,h):=rfl
def Ho:ByteArray→Option Int→Option Int→Option V
 | s,some l,some h=>if 0≤l∧l≤h∧h≤s.size then some (.c (.string (s.extract l.toNat h.toNat))) else none
 | _,_,_=>none
theorem DY (s:ByteArray) (l h:Int):Ho s (some l) (some h)=if 0≤l∧l≤h∧h≤s.size then some (.c (.string (s.extract l.toNat h.toNat))) else none:=rfl
def GC:List V→Nat→Option Int→Option Int→Option V
 | us,z,some l,some h=>if 0≤l∧l≤h∧h≤us.length∧hz z us=true then some (.sl ((us.take h.toNat).drop l.toNat) .any) else none
 | _,_,_,_=>none
theorem Ey (us:List V) (z:Nat) (l h:Int):GC us z (some l) (some h)=if 0≤l∧l≤h∧h≤us.length∧hz z us=true then some (.sl ((us.take h.toNat).drop l.toNat) .any) else none:=rfl
def Fm:Nat→Nat→Nat→Option Nat→Nat→Option Int→Option Int→Option V
 | id,off,n,zz,z,some l,some h=>if zc zz=z then if 0≤l∧l≤h∧h≤n then some (.row id (off+l.toNat*z) (h.toNat-l.toNat) zz) else none else none
 | _,_,_,_,_,_,_=>none
def slF:V→Nat→(Int→Option Int)→Option Int→List O→R2
 | .sl us _,z,hi,lo,h=>(GC us z lo (hi us.length)).map fun v=>(v,h)
 | .row id off n zz,z,hi,lo,h=>(Fm id off n zz z lo (hi n)).map fun v=>(v,h)
 | _,_,_,_,_=>none
theorem y4 (us:List V) (i:SI) (z:Nat) (hi:Int→Option Int) (lo:Option Int) (h:List O):slF (.sl us i) z hi lo h=(GC us z lo (hi us.length)).map fun v=>(v,h):=rfl
theorem sX (id off n:Nat) (zz:Option Nat) (z:Nat) (hi:Int→Option Int) (lo:Option Int) (h:List O):slF (.row id off n zz) z hi lo h=(Fm id off n zz z lo (hi n)).map fun v=>(v,h):=rfl
def Gu:V→Nat→List O→R2
 | .tup vs,i,h=>(vs[i]?).map fun v=>(v,h)
 | _,_,_=>none
theorem Eh (vs:List V) (i:Nat) (h:List O):Gu (.tup vs) i h=(vs[i]?).map fun v=>(v,h):=rfl
def EM:V→List O→R2
 | .sl us _,h=>some (.c (.int .i64 us.length),h)
 | .row _ _ n _,h=>some (.c (.int .i64 n),h)
 | .tsl _ n _,h=>some (.c (.int .i64 n),h)
 | _,_=>none
theorem AN (us:List V) (i:SI) (h:List O):EM (.sl us i) h=some (.c (.int .i64 us.length),h):=rfl
theorem yi (id off n:Nat) (zz:Option Nat) (h:List O):EM (.row id off n zz) h=some (.c (.int .i64 n),h):=rfl
def Gv:V→List O→R2
 | .c (.string t),h=>some (.c (.int .i64 t.size),h)
 | _,_=>none
theorem CO (t:ByteArray) (h:List O):Gv (.c (.string t)) h=some (.c (.int .i64 t.size),h):=rfl
def gJ (sb al b:Nat) (z:Option Nat) (rw:Bool) (h:List O) (us:List V):SI→List V→R2
 | i,[]=>some (.sl us i,h)
 | .nil,ws=>match h[al]? with
  | some .dead=>if rw then some (.tsl al (us.length+ws.length) z,h.set al (.tokc (us.length+ws.length) (zc z) (aF (us++ws)))) else some (.sl (us++ws) (.tok al),h.set al (.tok (us.length+ws.length) (zc z)))
  | some .want=>if rw then none else some (.sl (us++ws) (.tok (bz h sb al)),h.set (bz h sb al) (.tok (us.length+ws.length) (zc z)))
  | _=>none
 | .full,ws=>match h[al]? with
  | some .dead=>if rw then (match us with
    | []=>some (.row al 0 (us.length+ws.length) z,h.set al (.cells (aF (us++ws))))
    | _::_=>some (.tsl al (us.length+ws.length) z,h.set al (.tokc (us.length+ws.length) (zc z) (aF (us++ws))))) else some (.sl (us++ws) (.tok al),h.set al (.tok (us.length+ws.length) (zc z)))
  | some .want=>if rw then none else some (.sl (us++ws) (.tok (bz h sb al)),h.set (bz h sb al) (.tok (us.length+ws.length) (zc z)))
  | _=>none
 | .tok k,ws=>match h[k]? with
  | some (.tok n z')=>if n=us.length∧z'=zc z then some (.sl (us++ws) (.tok k),h.set k (.tok (us.length+ws.length) (zc z))) else none
  | _=>none
 | _,_=>none
def yl (k n:Nat) (z:Option Nat) (h:List O):List V→R2
 | []=>some (.tsl k n z,h)
 | ws=>match h[k]? with
  | some (.tokc m zz cs)=>if m=n∧zz=zc z then some (.tsl k (n+ws.length) z,h.set k (.tokc (n+ws.length) (zc z) (cs++aF ws))) else none
  | _=>none
def Eo (sb al b:Nat) (z:Option Nat) (rw:Bool) (h:List O):V→Option (List V)→R2
 | .tsl k n zz,some ws=>if rw=true∧zz=z∧(n+ws.length)*b≤140737488355328∧n+ws.length≤140737488355328∧hz (zc z) ws=true then yl k n z h ws else none
 | .sl us i,some ws=>if (us.length+ws.length)*b≤140737488355328∧us.length+ws.length≤140737488355328∧hz (zc z) us=true∧hz (zc z) ws=true then gJ sb al b z rw h us i ws else none
 | _,_=>none
theorem pt (sb al b:Nat) (z:Option Nat) (rw:Bool) (h:List O) (us ws:List V) (i:SI):Eo sb al b z rw h (.sl us i) (some ws)=if (us.length+ws.length)*b≤140737488355328∧us.length+ws.length≤140737488355328∧hz (zc z) us=true∧hz (zc z) ws=true then gJ sb al b z rw h us i ws else none:=rfl
theorem lF (sb al b:Nat) (z:Option Nat) (rw:Bool) (h:List O) (k n:Nat) (zz:Option Nat) (ws:List V):Eo sb al b z rw h (.tsl k n zz) (some ws)=if rw=true∧zz=z∧(n+ws.length)*b≤140737488355328∧n+ws.length≤140737488355328∧hz (zc z) ws=true then yl k n z h ws else none:=rfl
theorem j9 (k n:Nat) (z:Option Nat) (h:List O) (w:V) (ws:List V) (cs:List V) (hk:h[k]?=some (.tokc n (zc z) cs)):yl k n z h (w::ws)=some (.tsl k (n+(w::ws).length) z,h.set k (.tokc (n+(w::ws).length) (zc z) (cs++aF (w::ws)))):=by simp[yl,hk]
theorem dw (sb al b:Nat) (z:Option Nat) (rw:Bool) (h:List O) (us:List V) (i:SI):gJ sb al b z rw h us i []=some (.sl us i,h):=by cases i<;>rfl
theorem fR (sb al b:Nat) (z:Option Nat) (h:List O) (us ws:List V) (w:V) (hd:h[al]?=some .dead):gJ sb al b z false h us .nil (w::ws)=some (.sl (us++w::ws) (.tok al),h.set al (.tok (us.length+(w::ws).length) (zc z))):=by simp[gJ,hd]
theorem dM (sb al b:Nat) (z:Option Nat) (h:List O) (us ws:List V) (w:V) (hd:h[al]?=some .dead):gJ sb al b z false h us .full (w::ws)=some (.sl (us++w::ws) (.tok al),h.set al (.tok (us.length+(w::ws).length) (zc z))):=by simp[gJ,hd]
theorem nN (sb al b:Nat) (z:Option Nat) (h:List O) (us ws:List V) (w:V) (hd:h[al]?=some .dead):gJ sb al b z true h us .nil (w::ws)=some (.tsl al (us.length+(w::ws).length) z,h.set al (.tokc (us.length+(w::ws).length) (zc z) (aF (us++w::ws)))):=by simp[gJ,hd]
theorem fJ (sb al b:Nat) (z:Option Nat) (h:List O) (us ws:List V) (w:V) (hd:h[al]?=some .want):gJ sb al b z false h us .nil (w::ws)=some (.sl (us++w::ws) (.tok (bz h sb al)),h.set (bz h sb al) (.tok (us.length+(w::ws).length) (zc z))):=by simp[gJ,hd]
theorem eJ (sb al b:Nat) (z:Option Nat) (h:List O) (us ws:List V) (w:V) (hd:h[al]?=some .want):gJ sb al b z false h us .full (w::ws)=some (.sl (us++w::ws) (.tok (bz h sb al)),h.set (bz h sb al) (.tok (us.length+(w::ws).length) (zc z))):=by simp[gJ,hd]
theorem dV (sb al b k:Nat) (z:Option Nat) (rw:Bool) (h:List O) (us ws:List V) (w:V) (hk:h[k]?=some (.tok us.length (zc z))):gJ sb al b z rw h us (.tok k) (w::ws)=some (.sl (us++w::ws) (.tok k),h.set k (.tok (us.length+(w::ws).length) (zc z))):=by simp[gJ,hk]
def DC:IntKind→V→List O→R2
 | k,.c (.int _ n),h=>some (.c (.int k (k.wrap n)),h)
 | _,_,_=>none
def Cu:R2→Nat→R2
 | some (r,h'),m=>if m≤h'.length then some (r,h') else none
 | none,_=>none
theorem jq (r:V) (h':List O) (m:Nat):Cu (some (r,h')) m=if m≤h'.length then some (r,h') else none:=rfl
theorem fA (h:List O) (o:R2):longer h o=Cu o h.length:=by
 cases o with
 | none=>rfl
 | some r=>rfl
theorem uq (cf:aw) (q:Nat) (args:List V) (h:List O):cW cf (.c (.func (.func q) #[] #[])) args h=if q<rid then Cu (cf q args h) h.length else none:=by
 rw[cP (f:=q) (caps:=[]) (by simp[bb]),List.append_nil,fA]
theorem fK (cf:aw) (q:Nat) (caps args:List V) (h:List O):cW cf (.clo q caps) args h=if q<rid then Cu (cf q (args++caps) h) h.length else none:=by
 rw[cP (f:=q) (caps:=caps) rfl,fA]
theorem xY (cf:aw) (k y m:Nat) (caps args:List V) (h:List O):cW cf (.yld k y m caps) args h=if rid≤y∧args.length=m then Cu (cf y (.c (.int .i64 k)::(args++caps)) h) h.length else none:=by
 simp only[cW,fA]
@[simp] theorem GZ:rid=1000000:=rfl
def Hi:Option O→V × List O→R2
 | some .dead,r=>some r
 | _,_=>none
theorem vW (r:V × List O):Hi (some .dead) r=some r:=rfl
def Cb:Option O→Option (List Nat)→Value→V→Bool→List O→R2
 | some (.mapo ks vs),kd,t,z,ok,h=>(gr kd ks vs t).map fun r=>(ma z ok r,h)
 | _,_,_,_,_,_=>none
theorem wa (ks:List Value) (vs:List V) (kd:Option (List Nat)) (t:Value) (z:V) (ok:Bool) (h:List O):Cb (some (.mapo ks vs)) kd t z ok h=(gr kd ks vs t).map fun r=>(ma z ok r,h):=rfl
def Dw:V→Option (List Nat)→Value→V→Bool→List O→R2
 | .fmp ks vs,none,t,z,ok,h=>(gr none ks vs t).map fun r=>(ma z ok r,h)
 | .mref id,kd,t,z,ok,h=>Cb h[id]? kd t z ok h
 | _,_,_,_,_,_=>none
def zA:Option Value→(Value→R2)→R2
 | some t,f=>f t
 | none,_=>none
theorem gj (t:Value) (f:Value→R2):zA (some t) f=f t:=rfl
def pl (x:V) (kd:Option (List Nat)) (k:V) (z:V) (ok:Bool) (h:List O):R2:=zA (l8 kd k) fun t=>Dw x kd t z ok h
theorem pN (t:ByteArray):l8 none (.c (.string t))=some (.string t):=rfl
theorem wv (l:List Nat) (cs:List V) (xs:List Value) (h:fe cs=some xs) (h2:cj l xs xs=some true):l8 (some l) (.agg cs)=some (.agg xs.toArray):=by simp only[l8,h,h2,if_true]
theorem fY (ks:List Value) (vs:List V) (k:V) (z:V) (ok:Bool) (h:List O):pl (.fmp ks vs) none k z ok h=zA (l8 none k) fun t=>(gr none ks vs t).map fun r=>(ma z ok r,h):=rfl
theorem bc (id:Nat) (kd:Option (List Nat)) (k:V) (z:V) (ok:Bool) (h:List O):pl (.mref id) kd k z ok h=zA (l8 kd k) fun t=>Cb h[id]? kd t z ok h:=by
 simp only[pl];cases kd<;>rfl
def Fx:Option O→Nat→Option (List Nat)→Value→V→List O→R2
 | some (.mapo ks vs),id,kd,t,v,h=>(wT kd ks vs t v).map fun r=>(aE,h.set id (.mapo r.1 r.2))
 | _,_,_,_,_,_=>none
theorem yZ (ks:List Value) (vs:List V) (id:Nat) (kd:Option (List Nat)) (t:Value) (v:V) (h:List O):Fx (some (.mapo ks vs)) id kd t v h=(wT kd ks vs t v).map fun r=>(aE,h.set id (.mapo r.1 r.2)):=rfl
def G1:V→Option (List Nat)→Value→V→List O→R2
 | .mref id,kd,t,v,h=>Fx h[id]? id kd t v h
 | _,_,_,_,_=>none
def EJ (m:V) (kd:Option (List Nat)) (k v:V) (h:List O):R2:=zA (l8 kd k) fun t=>G1 m kd t v h
theorem wc (id:Nat) (kd:Option (List Nat)) (k v:V) (h:List O):EJ (.mref id) kd k v h=zA (l8 kd k) fun t=>Fx h[id]? id kd t v h:=rfl
def FS:V→List O→R2
 | .ref id o,h=>some (.ref id o,h)
 | .ptr cs o,h=>some (.ptr cs o,h)
 | .clo f caps,h=>some (.clo f caps,h)
 | .bnd f id o,h=>some (.bnd f id o,h)
 | .c (.func (.func f) a b),h=>some (.c (.func (.func f) a b),h)
 | _,_=>none
theorem xK (id o:Nat) (h:List O):FS (.ref id o) h=some (.ref id o,h):=rfl
theorem A3 (k:IntKind) (n:Int):idx (.c (.int k n))=some n:=rfl
theorem AZ (m:Bool) (k k':IntKind) (a b:Int):ij m (some (.c (.int k a))) (.c (.int k' b))=some (.c (.int k (if m then (if b > a then b else a) else (if b<a then b else a)))):=rfl
theorem Ah (m:Bool) (v w:V):mmV m [v,w]=ij m (some v) w:=rfl
theorem Co (h:List O) (us:List V) (i:SI):sf h (.sl us i)=some us:=rfl
theorem Ej (z:Nat):hz z []=true:=rfl
theorem AR (z:Nat) (u:V) (us:List V):hz z (u::us)=(u.cells.length==z):=rfl
theorem Am (k:Nat):zc (some k)=k:=rfl
theorem Ar:zc none=1:=rfl
section
variable {cf:aw}{s:SF}
theorem uJ (x:A):bH cf s (.mv x)=some (x.val s.e,s.h):=by simp only[bH,XOp.sub,act,aG,bw,Option.map_some]
theorem mE (c a b:A):bH cf s (.pick c a b)=Cf (c.val s.e) (a.val s.e) (b.val s.e) s.h:=by
 simp only[bH,XOp.sub,act,aG,bw];cases c.val s.e with
 | c y=>cases y <;> rfl
 | _=>rfl
theorem ku (al:Nat) (z:List V):bH cf s (.alloc al z)=some (.ref (s.rb+al) 0,s.h):=rfl
theorem q8 (al:Nat) (x:A):bH cf s (.box al x)=FM s.h[s.rb+al]? (okc (x.val s.e)) (.ref (s.rb+al) 0,s.h.set (s.rb+al) (.cells (x.val s.e).cells)):=by
 simp only[bH,XOp.sub,act,bw];cases s.h[s.rb+al]? with
 | none=>cases okc (x.val s.e) <;> rfl
 | some o=>cases o <;> cases okc (x.val s.e) <;> rfl
theorem rO (z:List V) (ps:List (Nat × Nat × A)):bH cf s (.build z ps)=(uT s.e z ps).map fun cs=>(.agg cs,s.h):=by
 simp only[bH,XOp.sub,act,aG,re,Option.map_map];rfl
theorem n9 (al z:Nat) (ps:List A):bH cf s (.bslice al z ps)=if (ps.map fun x=>(x.val s.e).vw2).all (fun u=>okc u&&u.cells.length==z)=true then some (.sl (ps.map fun x=>(x.val s.e).vw2) .full,s.h) else none:=by
 simp only[bH,XOp.sub,act,aG,List.map_map,Function.comp_def,bw];split<;>rfl
theorem nf (n:Option Nat) (x:A):bH cf s (.load n x)=yQ (x.val s.e) n s.h:=by
 simp only[bH,XOp.sub,act,bw];cases x.val s.e with
 | ref id o =>
  simp only[nv];cases s.h[id]? with
  | none=>rfl
  | some o=>cases o <;> rfl
 | _=>rfl
theorem kE (n:Nat) (a x:A):bH cf s (.store n a x)=mc (a.val s.e) n (x.val s.e) s.h:=by
 simp only[bH,XOp.sub,act,bw];cases a.val s.e with
 | ref id o =>
  simp only[gQ];cases s.h[id]? with
  | none=>rfl
  | some o=>cases o <;> rfl
 | tref k m o =>
  simp only[jx];cases s.h[k]? with
  | none=>rfl
  | some o=>cases o <;> rfl
 | _=>rfl
theorem rt (op:BinOp) (q:Nat) (x y:A):bH cf s (.bin op q x y)=(dN op q (x.val s.e) (y.val s.e)).map fun v=>(v,s.h):=by
 simp only[bH,XOp.sub,act,aG,bw]
theorem yk (x:A):bH cf s (.un .not x)=G9 (x.val s.e) s.h:=by
 simp only[bH,XOp.sub,act,aG,bw];cases x.val s.e with
 | c y=>cases y <;> rfl
 | _=>rfl
theorem eZ (o:Nat) (x:A):bH cf s (.fieldAddr o x)=faF o (x.val s.e) s.h:=by
 simp only[bH,XOp.sub,act,aG,bw];cases x.val s.e<;>rfl
theorem j0 (o:Nat) (n:Option Nat) (x:A):bH cf s (.field o n x)=zl o n (x.val s.e) s.h:=by
 simp only[bH,XOp.sub,act,aG,bw];cases x.val s.e<;>rfl
theorem eX (z:Nat) (x i:A):bH cf s (.indexAddr z x i)=iaF z (x.val s.e) (idx (i.val s.e)) s.h:=by
 simp only[bH,XOp.sub,act,aG,bw];cases x.val s.e<;>cases idx (i.val s.e)<;>try rfl
 ·rename_i us _ v;simp only[zB];split
  ·cases us[v.toNat]? with
   | none=>rfl
   | some u=>by_cases hu:u.cells.length=z <;> simp[hu,elF]
  ·rfl
 ·simp only[v8];split<;>rfl
 ·simp only[vO];split<;>rfl
theorem kN (x i:A):bH cf s (.index x i)=ixF (x.val s.e) (idx (i.val s.e)) s.h:=by
 simp only[bH,XOp.sub,act,aG,bw];cases x.val s.e with
 | c y =>
  cases y<;>cases idx (i.val s.e)<;>try rfl
  simp only[CQ];split
  ·rw[Option.map_map];rfl
  ·rfl
 | _=>cases idx (i.val s.e) <;> rfl
theorem oq (z:Nat) (x:A) (lo hi:Option A):bH cf s (.slice true z x lo hi none)=ssF (x.val s.e) (fun t=>Ho t (rJ s.e 0 lo) (rJ s.e t.size hi)) s.h:=by
 simp only[bH,XOp.sub,act,aG,bw,stV,qo,Option.map_none];cases x.val s.e with
 | c y =>
  cases y<;>try rfl
  simp only[D5];cases rJ s.e 0 lo<;>cases rJ s.e _ hi<;>rfl
 | _=>rfl
theorem pc (z:Nat) (x:A) (lo hi:Option A):bH cf s (.slice false z x lo hi none)=slF (x.val s.e) z (fun n=>rJ s.e n hi) (rJ s.e 0 lo) s.h:=by
 simp only[bH,XOp.sub,act,aG,bw,slV,wm,qo,Option.map_none];cases x.val s.e with
 | c y=>cases y <;> rfl
 | sl us i =>
  simp only[y4];cases rJ s.e 0 lo<;>cases rJ s.e _ hi<;>rfl
 | row id off n zz =>
  simp only[sX];cases rJ s.e 0 lo<;>cases rJ s.e _ hi<;>simp only[Fm]<;>split<;>rfl
 | _=>rfl
theorem ik (x:A) (i:Nat):bH cf s (.extract x i)=Gu (x.val s.e) i s.h:=by
 simp only[bH,XOp.sub,act,aG,bw];cases x.val s.e<;>rfl
theorem qY (x:A):bH cf s (.len false x)=EM (x.val s.e) s.h:=by
 simp only[bH,XOp.sub,act,aG,bw];cases x.val s.e<;>rfl
theorem me (x:A):bH cf s (.len true x)=Gv (x.val s.e) s.h:=by
 simp only[bH,XOp.sub,act,aG,bw];cases x.val s.e with
 | c y=>cases y <;> rfl
 | _=>rfl
theorem jR (al b:Nat) (z:Option Nat) (rw:Bool) (x y:A):bH cf s (.append al z b rw x y)=Eo s.base (s.rb+al) b z rw s.h (x.val s.e) (sf s.h (y.val s.e)):=by
 simp only[bH,XOp.sub,act,bw];cases x.val s.e with
 | sl us i =>
  cases sf s.h (y.val s.e) with
  | none=>rfl
  | some ws =>
   simp only[pt];split
   ·cases ws with
    | nil=>simp only[dw]
    | cons w ws =>
     cases i<;>try rfl
     all_goals simp only[gJ]
     all_goals rfl
   ·rfl
 | tsl k n zz =>
  cases sf s.h (y.val s.e) with
  | none=>rfl
  | some ws =>
   simp only[lF];split
   ·rename_i hc;obtain⟨_,rfl,_⟩:=hc;cases ws<;>rfl
   ·rfl
 | _=>cases sf s.h (y.val s.e) <;> rfl
theorem Ac (m:Bool) (ps:List A):bH cf s (.mm m ps)=(mmV m (ps.map (A.val s.e))).map fun v=>(v,s.h):=by
 simp only[bH,XOp.sub,act,aG,n6]
theorem mT (k:IntKind) (x:A):bH cf s (.conv k x)=DC k (x.val s.e) s.h:=by
 simp only[bH,XOp.sub,act,aG,bw];cases x.val s.e with
 | c y=>cases y <;> rfl
 | _=>rfl
theorem nD (f:A) (ps:List A):bH cf s (.call f ps)=cW cf (f.val s.e) (ps.map (A.val s.e)) s.h:=by
 simp only[bH,XOp.sub,act,bw,n6]
theorem np (al:Nat):bH cf s (.makeMap al)=Hi s.h[s.rb+al]? (.mref (s.rb+al),s.h.set (s.rb+al) (.mapo [] [])):=by
 simp only[bH,XOp.sub,act];cases s.h[s.rb+al]? with
 | none=>rfl
 | some o=>cases o <;> rfl
theorem od (kd:Option (List Nat)) (z:V) (ok:Bool) (x k:A):bH cf s (.lookup kd z ok x k)=pl (x.val s.e) kd (k.val s.e) z ok s.h:=by
 simp only[bH,XOp.sub,act,bw,pl];cases l8 kd (k.val s.e) with
 | none=>rfl
 | some t =>
  simp only[zA];cases x.val s.e with
  | fmp ks vs=>cases kd <;> rfl
  | mref id =>
   simp only[Dw];cases s.h[id]? with
   | none=>rfl
   | some o=>cases o <;> rfl
  | _=>rfl
theorem ot (kd:Option (List Nat)) (m k v:A):bH cf s (.mapUpd kd m k v)=EJ (m.val s.e) kd (k.val s.e) (v.val s.e) s.h:=by
 simp only[bH,XOp.sub,act,bw,EJ];cases l8 kd (k.val s.e) with
 | none=>rfl
 | some t =>
  simp only[zA];cases m.val s.e with
  | mref id =>
   simp only[G1];cases s.h[id]? with
   | none=>rfl
   | some o=>cases o <;> rfl
  | _=>rfl
theorem vo (f:Nat) (ps:List A):bH cf s (.clos f ps)=some (.clo f (ps.map (A.val s.e)),s.h):=by
 simp only[bH,XOp.sub,act,aG,n6,Option.map_some]
def He (f:Nat):V→List O→R2
 | .ref id o,h=>some (.bnd f id o,h)
 | _,_=>none
theorem m7 (f:Nat) (x:A):bH cf s (.bndm f x)=He f (x.val s.e) s.h:=by
 simp only[bH,XOp.sub,act,aG,bw];cases x.val s.e<;>rfl
theorem jy (x:A):bH cf s (.nilchk x)=FS (x.val s.e) s.h:=by
 simp only[bH,XOp.sub,act,aG,bw];cases x.val s.e with
 | c y =>
  cases y with
  | func f a b=>cases f <;> rfl
  | _=>rfl
 | _=>rfl
def EQ (b:Nat):V→Bool
 | .ref id _=>decide (b≤id)
 | _=>true
theorem wE (b id o:Nat):EQ b (.ref id o)=decide (b≤id):=rfl
theorem yt (b:Nat) (cs:List V) (o:Nat):EQ b (.ptr cs o)=true:=rfl
def rn:V→Bool
 | .top=>false
 | _=>true
def qg:V→Bool→Bool
 | .c (.bool x),b=>x==b
 | _,_=>false
theorem pn (e:Nat→V) (t:Nat) (b:Bool):j3 e (some (t,b))=rn (e t):=rfl
theorem pL (e:Nat→V) (t:Nat) (b:Bool):iN e (some (t,b))=qg (e t) b:=by
 simp only[iN];cases e t with
 | c y=>cases y <;> rfl
 | _=>rfl
def cellR:V→List O→Option Nat→Option V
 | .ref id o,h,n=>cellO h[id]? o n
 | _,_,_=>none
where cellO:Option O→Nat→Option Nat→Option V
 | some (.cells cs),o,n=>rdV cs o n
 | _,_,_=>none
theorem mq (id o:Nat) (h:List O) (n:Option Nat):cellR (.ref id o) h n=cellR.cellO h[id]? o n:=rfl
theorem Cg (cs:List V) (o:Nat) (n:Option Nat):cellR.cellO (some (.cells cs)) o n=rdV cs o n:=rfl
theorem Dz (i:Nat):wq s (.t i)=some (s.e i):=rfl
theorem tu (i:Nat) (n:Option Nat):wq s (.cell i n)=cellR (s.e i) s.h n:=by
 simp only[wq];cases s.e i with
 | ref id o =>
  simp only[mq];cases s.h[id]? with
  | none=>rfl
  | some x=>cases x <;> rfl
 | _=>rfl
def DL:Option V→Option (List V)→Option (List V)
 | some v,some vs=>some (v::vs)
 | _,_=>none
theorem BR (v:V) (vs:List V):DL (some v) (some vs)=some (v::vs):=rfl
theorem tP:gq s []=some []:=rfl
theorem rW (r:XR) (rs:List XR):gq s (r::rs)=DL (wq s r) (gq s rs):=by
 simp only[gq];cases wq s r<;>cases gq s rs<;>rfl
theorem Fk (P:List V→List O→Prop) (xf:XF) (s:SF):Fin P xf .normal s=jv (gq s xf.res) fun vs=>P vs s.h:=rfl
theorem Gr (P:List V→List O→Prop) (xf:XF) (s:SF):Fin P xf .ret s=jv (gq s xf.res) fun vs=>P vs s.h:=rfl
end
inductive Fr where
 | seq (b:XC)
 | blk (id:Nat)
 | loop (c:XC) (k:Nat)
section
variable (cf:aw) (n:Nat)
def den:List Fr→(Ex→SF→Prop)→Ex→SF→Prop
 | [],Q=>Q
 | .seq b::K,Q=>fun e s=>match e with
  | .normal=>wpx cf n b s (den K Q)
  | e=>den K Q e s
 | .blk id::K,Q=>fun e s=>match e with
  | .exit id'=>if id'=id then den K Q .normal s else den K Q (.exit id') s
  | e=>den K Q e s
 | .loop c k::K,Q=>fun e s=>match e with
  | .normal=>dz (wpx cf n c) k s (den K Q)
  | e=>den K Q e s
def wpk (c:XC) (K:List Fr) (Q:Ex→SF→Prop) (s:SF):Prop:=wpx cf n c s (den cf n K Q)
def dI (K:List Fr) (Q:Ex→SF→Prop) (e:Ex) (s:SF):Prop:=den cf n K Q e s
def lpk (c:XC) (K:List Fr) (Q:Ex→SF→Prop) (s:SF):Prop:=dz (wpx cf n c) n s (den cf n K Q)
def EH (v:V) (a b:XC) (K:List Fr) (Q:Ex→SF→Prop) (s:SF):Prop:=nw v (wpk cf n a K Q s) (wpk cf n b K Q s)
def sG (ops:List XOper) (K:List Fr) (Q:Ex→SF→Prop) (s:SF):Prop:=lJ cf ops s (den cf n K Q .normal)
def mL (o:XOper) (s:SF):R2:=if j3 s.e o.g=true then if iN s.e o.g=true then bH cf s o.op else some (aE,s.h) else none
def gvk:R2→Option Nat→List XOper→List Fr→(Ex→SF→Prop)→SF→Prop
 | some (v,h),d,r,K,Q,s=>sG cf n r K Q ⟨nU s.e d v,h,s.base,s.rb⟩
 | none,_,_,_,_,_=>False
def Cv (p:SF→XOper→Bool) (ops:List XOper) (K:List Fr) (Q:Ex→SF→Prop) (cf':aw) (s:SF):Prop:=eg cf' p ops s (den cf n K Q .normal)
def gvc (p:SF→XOper→Bool) (cf':aw):R2→Option Nat→List XOper→List Fr→(Ex→SF→Prop)→SF→Prop
 | some (v,h),d,r,K,Q,s=>Cv cf n p r K Q cf' ⟨nU s.e d v,h,s.base,s.rb⟩
 | none,_,_,_,_,_=>False
variable {cf n}{K:List Fr}{Q:Ex→SF→Prop}{s:SF}
theorem yz (p:SF→XOper→Bool) (cf':aw):Cv cf n p [] K Q cf' s=dI cf n K Q .normal s:=rfl
theorem vX (p:SF→XOper→Bool) (cf':aw) (o:XOper) (r:List XOper):Cv cf n p (o::r) K Q cf' s=(p s o=true∧gvc cf n p cf' (mL cf' o s) o.d r K Q s):=by
 simp only[Cv,eg,wps,mL];congr 1;split
 ·split
  ·cases bH cf' s o.op<;>rfl
  ·rfl
 ·rfl
theorem yq (p:SF→XOper→Bool) (cf':aw) (v:V) (h:List O) (d:Option Nat) (r:List XOper):gvc cf n p cf' (some (v,h)) d r K Q s=Cv cf n p r K Q cf' ⟨nU s.e d v,h,s.base,s.rb⟩:=rfl
theorem AI (p:SF→XOper→Bool) (cf':aw) (c:Prop) [Decidable c] (a:R2) (d:Option Nat) (r:List XOper):gvc cf n p cf' (if c then a else none) d r K Q s=(c∧gvc cf n p cf' a d r K Q s):=by
 by_cases h:c<;>simp[h,gvc]
theorem BG (a b:XC):wpk cf n (.seq a b) K Q s=wpk cf n a (.seq b::K) Q s:=rfl
theorem xm:wpk cf n .skip K Q s=dI cf n K Q .normal s:=rfl
theorem xE (c:A) (a b:XC):wpk cf n (.cond c a b) K Q s=EH cf n (c.val s.e) a b K Q s:=rfl
theorem CF (a b:XC):EH cf n (.c (.bool true)) a b K Q s=wpk cf n a K Q s:=rfl
theorem CD (a b:XC):EH cf n (.c (.bool false)) a b K Q s=wpk cf n b K Q s:=by simp[EH,nw]
theorem tr (id:Nat) (c:XC):wpk cf n (.block id c) K Q s=wpk cf n c (.blk id::K) Q s:=rfl
theorem yB (c:XC):wpk cf n (.loop c) K Q s=lpk cf n c K Q s:=rfl
theorem iU (f:A) (y m nt:Nat) (us:List Nat){g:Nat}{lb:List V}{r:V}{h':List O}{e:Ex}(hc:bb (f.val s.e)=some (g,lb)) (hg:g<rid) (hy:rid≤y)
  (hcf:cf g (.yld s.h.length y m (xw nt us s.e)::lb) (s.h++[.loop 0])=some (r,h')) (he:lI h'[s.h.length]?=some e) (hq:dI cf n K Q e ⟨s.e,h'.set s.h.length (.loop 2),s.base,s.rb⟩):wpk cf n (.rangeF f y m nt us) K Q s:=by
 show wpx cf n (.rangeF f y m nt us) s (den cf n K Q);unfold wpx;rw[hc];simp only;rw[if_pos ⟨hg,hy⟩,hcf];simp only[dO,he];exact hq
theorem xN (id:Nat):wpk cf n (.exit id) K Q s=dI cf n K Q (.exit id) s:=rfl
theorem Bw:wpk cf n .ret K Q s=dI cf n K Q .ret s:=rfl
theorem xi (e:Ex):dI cf n [] Q e s=Q e s:=rfl
theorem xO (b:XC):dI cf n (.seq b::K) Q .normal s=wpk cf n b K Q s:=rfl
theorem se (b:XC):dI cf n (.seq b::K) Q .ret s=dI cf n K Q .ret s:=rfl
theorem rM (b:XC) (i:Nat):dI cf n (.seq b::K) Q (.exit i) s=dI cf n K Q (.exit i) s:=rfl
theorem xl (i:Nat):dI cf n (.blk i::K) Q .normal s=dI cf n K Q .normal s:=rfl
theorem rQ (i:Nat):dI cf n (.blk i::K) Q .ret s=dI cf n K Q .ret s:=rfl
theorem rL (i:Nat):dI cf n (.blk i::K) Q (.exit i) s=dI cf n K Q .normal s:=by
 show (if i=i then den cf n K Q .normal s else den cf n K Q (.exit i) s)=_;rw[if_pos rfl];rfl
theorem sg (i j:Nat) (h:¬j=i):dI cf n (.blk i::K) Q (.exit j) s=dI cf n K Q (.exit j) s:=by
 show (if j=i then den cf n K Q .normal s else den cf n K Q (.exit j) s)=_;rw[if_neg h];rfl
theorem yP:sG cf n [] K Q s=dI cf n K Q .normal s:=rfl
theorem tY (o:XOper) (r:List XOper):sG cf n (o::r) K Q s=gvk cf n (mL cf o s) o.d r K Q s:=by
 simp only[sG,lJ,wps,mL];split
 ·split
  ·cases bH cf s o.op<;>rfl
  ·rfl
 ·rfl
theorem ct (v:V) (h:List O) (d:Option Nat) (r:List XOper):gvk cf n (some (v,h)) d r K Q s=sG cf n r K Q ⟨nU s.e d v,h,s.base,s.rb⟩:=rfl
theorem AJ (c:Prop) [Decidable c] (a:R2) (d:Option Nat) (r:List XOper):gvk cf n (if c then a else none) d r K Q s=(c∧gvk cf n a d r K Q s):=by
 by_cases h:c<;>simp[h,gvk]
theorem C6 (d:Option Nat) (op:XOp):mL cf ⟨d,op,none⟩ s=bH cf s op:=by simp[mL,j3,iN]
def gB (cf:aw) (v:V) (b:Bool) (op:XOp) (s:SF):R2:=if rn v=true then if qg v b=true then bH cf s op else some (aE,s.h) else none
theorem DR (d:Option Nat) (op:XOp) (t:Nat) (b:Bool):mL cf ⟨d,op,some (t,b)⟩ s=gB cf (s.e t) b op s:=by
 simp only[mL,gB,pn,pL]
theorem uU (op:XOp):gB cf (.c (.bool true)) true op s=bH cf s op:=rfl
theorem uP (op:XOp):gB cf (.c (.bool false)) false op s=bH cf s op:=rfl
theorem uz (op:XOp):gB cf (.c (.bool true)) false op s=some (aE,s.h):=by simp[gB,rn,qg]
theorem ue (op:XOp):gB cf (.c (.bool false)) true op s=some (aE,s.h):=by simp[gB,rn,qg]
theorem cm {c:XC}(h:wpk cf n c [] Q s):wpx cf n c s Q:=h
theorem ja {c:XC}(I:Nat→SF→Prop) (k:Nat) (hk:k<n) (h0:I k s)
  (hI:∀k s,I k s→wpk cf n c [] (fun e s'=>match e with|.normal=>∃k',k'<k∧I k' s'|e=>dI cf n K Q e s') s):lpk cf n c K Q s:=yE I k hk h0 hI
end
theorem lD (h:List O) (x y:O):(h++[x]).set h.length y=h++[y]:=by
 rw[List.set_append_right _ _ (nL _)];simp
theorem kU (h:List O) (x:O):(h++[x])[h.length]?=some x:=by simp
theorem yp (k:Nat):okc (.mref k)=true:=rfl
theorem rB (k:Nat):V.cells (.mref k)=[.mref k]:=rfl
attribute [simp] yp rB
theorem Ff (x:Value):(V.c x).vwf=.c x:=rfl
theorem xD (us:List V):(V.sl us .full).vwf=.sl us .full:=rfl
theorem Ag (us:List V):(V.sl us .any).vwf=.sl us .any:=rfl
theorem Bp (us:List V):(V.sl us .nil).vwf=.sl us .any:=rfl
theorem Bd (us:List V) (k:Nat):(V.sl us (.tok k)).vwf=.sl us .any:=rfl
theorem Ak (cs:List V):(V.agg cs).vwf=.agg (cs.map V.vw1):=rfl
attribute [simp] Ff xD Ag Bp Bd Ak
attribute [simp] fJ eJ jx wD nZ vO lF j9 nN
attribute [simp] BG xm xE CF CD tr yB xN Bw xi xO se rM xl rQ rL sg yP tY ct AJ C6 DR uU uP uz ue dO uJ mE Bk ku q8 sM rO uT n9 nf nv s8 pi kE gQ ii rt yk Dk eZ Ba AD j0 eX zB v8 xS kN CQ oq D5 DY pc y4 sX Ey rJ ik Eh qY AN yi me CO jR pt dw fR dM dV Co Ej AR Am Ar Ac Ah AZ mT nD uq fK xY jq np vW od fY bc wa ot wc yZ gj pN m7 vo jy xK A.val nU au Cn bN kL A3 Ae vh Bf Ew Bl Bz yf Ch gA B3 xT wg F6 D0 DX aD uu AP AU bg qU xz yv yL wY wB fI Fk Gr tP rW Dz tu mq Cg BR By Av HU Aw DN CM Do Et DM E3
end Go.Proofs.YtjhffhmokcogkaaGreatDoor.Ab
