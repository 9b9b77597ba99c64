/- A part. -/
import Derived.Test.YtjhffhmokcogkaaGreatDoorCc2
set_option linter.unusedVariables false
set_option linter.unusedSimpArgs false
set_option linter.defProp false
set_option maxRecDepth 20000
set_option maxHeartbeats 8000000
namespace Go.Proofs.YtjhffhmokcogkaaGreatDoor.Ab
open Go
mutual
theorem lg {n n':Nat}(hn:n≤n'):∀v:V,V.low n v=true→V.low n' v=true
 | .c _,_=>rfl
 | .agg cs,h=>bC hn cs h
 | .tup cs,h=>bC hn cs h
 | .sl us i,h=>by
  simp only[V.low,bT] at h ⊢;refine⟨bC hn us h.1,?_⟩;cases i with
  | tok k=>simp only[SI.low,dT] at h ⊢;omega
  | _=>rfl
 | .ptr cs _,h=>bC hn cs h
 | .ref id _,h=>by simp only[V.low,dT] at h ⊢;omega
 | .bnd _ id _,h=>by simp only[V.low,dT] at h ⊢;omega
 | .clo _ cs,h=>bC hn cs h
 | .row i _ m _,h=>by simp only[V.low,Bool.or_eq_true,dT] at h ⊢;exact h.imp (fun h=>by omega) fun h=>h
 | .buf id _,h=>by simp only[V.low,dT] at h ⊢;omega
 | .tsl k _ _,h=>by simp only[V.low,dT] at h ⊢;omega
 | .tref k _ _,h=>by simp only[V.low,dT] at h ⊢;omega
 | .top,_=>rfl
 | .fmp _ vs,h=>bC hn vs h
 | .mref id,h=>by simp only[V.low,dT] at h ⊢;omega
 | .yld k _ _ cs,h=>by
  simp only[V.low,bT,dT] at h ⊢;exact⟨by omega,bC hn cs h.2⟩
theorem bC {n n':Nat}(hn:n≤n'):∀vs:List V,V.lows n vs=true→V.lows n' vs=true
 | [],_=>rfl
 | v::vs,h=>by
  simp only[V.lows,bT] at h ⊢;exact⟨lg hn v h.1,bC hn vs h.2⟩
end
theorem nA {n n':Nat}(hn:n≤n'){h:List O}(hl:h.all (O.low n)=true):h.all (O.low n')=true:=by
 rw[List.all_eq_true] at hl ⊢;intro o ho;have:=hl o ho;cases o with
 | cells cs=>exact bC hn cs this
 | tokc _ _ cs=>exact bC hn cs this
 | mapo _ vs=>exact bC hn vs this
 | _=>rfl
section
variable {P:Program}{rw:Bool}{pf:Nat→Nat}{nt q:Nat}
theorem dU {c:Code}{x y:XC}(h:trC P rw pf nt q c=some (.seq x y)):∃a b,c=.seq a b∧trC P rw pf nt q a=some x∧trC P rw pf nt (q+(aJ a).length) b=some y:=by
  cases c<;>simp only[trC] at h
  case seq a b =>
    split at h
    · rename_i x' y' h1 h2
      simp only[sI,XC.seq.injEq] at h;obtain⟨rfl,rfl⟩:=h;exact⟨a,b,rfl,h1,h2⟩
    · cases h
  all_goals (first
    | (cases h;done)
    | (simp only[mS,reduceCtorEq,and_false,exists_false,sI] at h;done)
    | (repeat' split at h
       all_goals simp at h))
def we (xs:List XOper):Bool:=xs.all fun o=>match o.op with
 | .load1 _=>false
 | .load2 _ _=>false
 | _=>true
theorem mZ:∀{xs:List XOper},we (xs.map one)=true→xs.map one=xs
 | [],_=>rfl
 | x::xs,h=>by
  simp only[we,List.map_cons,List.all_cons,bT] at h;have ih:=mZ (xs:=xs) h.2;rw[List.map_cons,ih];congr 1;have h1:=h.1;unfold one at h1 ⊢;split
  ·rename_i y hy;rw[hy] at h1;simp at h1
  ·rfl
theorem m7:∀{xs:List XOper},we (xs.map two)=true→xs.map two=xs
 | [],_=>rfl
 | x::xs,h=>by
  simp only[we,List.map_cons,List.all_cons,bT] at h;have ih:=m7 (xs:=xs) h.2;rw[List.map_cons,ih];congr 1;have h1:=h.1;unfold two at h1 ⊢;split
  ·rename_i n y hy;rw[hy] at h1;simp at h1
  ·rfl
theorem BE {c:Code}{xs:List XOper}{pre:List O}{d:Bool}(h:trC P rw pf nt q c=some (.reg xs pre d)) (hno:we xs=true:=by rfl):∃id ops,c=.region id ops d∧ep P rw ops ops.toList 0=some (xs,pre)∧(d=true→cz pf ops.toList xs=true):=by
  cases c<;>simp only[trC] at h
  case region id ops d' =>
    split at h
    · cases h
    split at h
    · rename_i xs' pre' h1
      split at h
      · rename_i h2
        simp only[sI,XC.reg.injEq] at h;obtain⟨rfl,rfl,rfl⟩:=h;exact⟨id,ops,rfl,h1,h2⟩
      · split at h
        · simp at h
        · split at h
          · rename_i h2
            simp only[sI,XC.reg.injEq] at h;obtain⟨rfl,rfl,rfl⟩:=h;rw[m7 hno] at h2 ⊢;exact⟨id,ops,rfl,h1,fun _=>h2.2⟩
          split at h
          · simp at h
          split at h
          · simp at h
          split at h
          · rename_i h2
            simp only[sI,XC.reg.injEq] at h;obtain⟨rfl,rfl,rfl⟩:=h;rw[mZ hno] at h2 ⊢;exact⟨id,ops,rfl,h1,fun _=>h2.2⟩
          · split at h<;>simp[wg] at h
    · cases h
  all_goals (first
    | (cases h;done)
    | (simp only[mS,reduceCtorEq,and_false,exists_false,sI] at h;done)
    | (repeat' split at h
       all_goals simp at h))
theorem nv {c:Code}{id:Nat}{x:XC}(h:trC P rw pf nt q c=some (.block id x)):∃a,c=.block id a∧trC P rw pf nt q a=some x:=by
  cases c<;>simp only[trC] at h
  case block id' a =>
    simp only[mS,XC.block.injEq] at h;obtain⟨x',h1,rfl,rfl⟩:=h;exact⟨a,rfl,h1⟩
  all_goals (first
    | (cases h;done)
    | (simp only[mS,reduceCtorEq,and_false,exists_false,sI] at h;done)
    | (repeat' split at h
       all_goals simp at h))
theorem zU {c:Code}{x:XC}(h:trC P rw pf nt q c=some (.loop x)):∃a,c=.loop a∧trC P rw pf nt q a=some x:=by
  cases c<;>simp only[trC] at h
  case loop a =>
    simp only[mS,XC.loop.injEq] at h;obtain⟨x',h1,rfl⟩:=h;exact⟨a,rfl,h1⟩
  all_goals (first
    | (cases h;done)
    | (simp only[mS,reduceCtorEq,and_false,exists_false,sI] at h;done)
    | (repeat' split at h
       all_goals simp at h))
theorem be:∀(c:Code) (q:Nat) (x:XC),l9 x=true→trC P rw pf nt q c=some x→aJ c=[]:=by
 intro c
 induction c with
 | seq a b iha ihb =>
  intro q x hx h;simp only[trC] at h;split at h
  ·rename_i x1 x2 h1 h2;simp only[sI] at h;subst h;simp only[l9,bT] at hx;simp only[aJ,iha _ _ hx.1 h1,ihb _ _ hx.2 h2,List.append_nil]
  ·cases h
 | cond cc a b iha ihb =>
  intro q x hx h;simp only[trC] at h;split at h
  ·rename_i x0 x1 x2 h0 h1 h2;simp only[sI] at h;subst h;simp only[l9,bT] at hx;simp only[aJ,iha _ _ hx.1 h1,ihb _ _ hx.2 h2,List.append_nil]
  ·cases h
 | block id c ih =>
  intro q x hx h;simp only[trC,mS] at h;obtain⟨y,h1,rfl⟩:=h;exact ih q y hx h1
 | loop c ih =>
  intro q x hx h;simp only[trC,mS] at h;obtain⟨y,h1,rfl⟩:=h;exact ih q y hx h1
 | rangeFunc f ps a b _ _ =>
  intro q x hx h;simp only[trC,mS] at h;obtain⟨y,h1,rfl⟩:=h;simp[l9] at hx
 | _=>intro q x hx h;rfl
end
def eR1:XC:=.reg [⟨(some 3),(.box 0 (.t 0)),none⟩,⟨(some 6),(.mv (.k (.c (.bool false)))),none⟩] [.dead] false
def eR2:XC:=.reg [⟨(some 9),(.mv (.t 2)),none⟩,⟨(some 10),(.load (some 4) (.t 3)),none⟩,⟨(some 11),(.mv (.t 1)),none⟩,⟨(some 12),(.call (.t 9) [(.t 10),(.t 11)]),none⟩,⟨(some 13),(.un .not (.t 12)),none⟩] [] false
def eR3:XC:=.reg [⟨(some 6),(.mv (.k (.c (.bool false)))),none⟩] [] false
def eR4:XC:=.reg [⟨(some 14),(.fieldAddr 3 (.t 3)),none⟩,⟨(some 15),(.load none (.t 14)),none⟩,⟨(some 16),(.len false (.t 15)),none⟩,⟨(some 17),(.mv (.k (.c (.int .i64 0)))),none⟩] [] false
def eR5:XC:=.reg [⟨(some 18),(.bin .lss 0 (.t 17) (.t 16)),none⟩] [] false
def eR6:XC:=.reg [⟨(some 19),(.mv (.t 17)),none⟩,⟨(some 20),(.indexAddr 4 (.t 15) (.t 17)),none⟩,⟨(some 21),(.load (some 4) (.t 20)),none⟩,⟨(some 8),(.alloc 0 [(.c (.int .i64 0)),(.c (.int .i64 0)),(.c (.string ⟨#[]⟩)),(.sl [] .nil)]),none⟩,⟨(some 7),(.mv (.t 19)),none⟩,⟨none,(.store 4 (.t 8) (.t 21)),none⟩] [(.cells [(.c (.int .i64 0)),(.c (.int .i64 0)),(.c (.string ⟨#[]⟩)),(.sl [] .nil)])] false
def eR7 (F:Nat):XC:=.reg (bq F) [(.tok 1 1),.dead] true
def eR9:XC:=.reg [⟨(some 30),(.bin .add 0 (.t 17) (.k (.c (.int .i64 1)))),none⟩,⟨(some 17),(.mv (.t 30)),none⟩] [] false
def FV:XC:=.reg [⟨(some 6),(.mv (.k (.c (.bool true)))),none⟩] [] false
def eL (F:Nat):XC:=(.seq eR5 (.seq (.cond (.t 18) .skip (.exit 0)) (.seq (.block 1 (.seq eR6 (.seq (eR7 F) (.cond (.t 29) (.seq eR3 .ret) .skip)))) eR9)))
def De (F:Nat):XC:=(.seq eR1 (.seq (.seq eR2 (.cond (.t 13) (.seq eR3 .ret) .skip)) (.seq (.seq eR4 (.block 0 (.loop (eL F)))) (.seq FV .ret))))
structure InL (m:Nat) (ps:List Int) (pv fv:V) (us:List V) (si:SI) (i:Nat) (tm:List V):Prop where
 len:tm.length=31
 t1:tm[1]?=some pv
 t2:tm[2]?=some fv
 t15:tm[15]?=some (.sl us si)
 t16:tm[16]?=some (I64 us.length)
 t17:tm[17]?=some (I64 i)
theorem HK {tm:List V}{i:Nat}{v:V}(h:tm[i]?=some v):ev tm (.t i)=v:=by simp[ev,h]
theorem HD {cf:av}{n m:Nat}{ps:List Int}{pv fv:V}{us:List V}{si:SI}{i:Nat}{tm:List V}(I:InL m ps pv fv us si i tm) (h:List O) (base rb:Nat) :
  aK cf n eR5 ⟨tm,h,base,rb⟩=some (.normal,⟨tm.set 18 (.c (.bool (decide ((i:Int)<us.length)))),h,base,h.length⟩):=by
 simp[eR5,aK,aC,aI,aZ,aY,act,aB,bH,ev,I.t17,I.t16,I64,ec,fW]
theorem InL.set {m:Nat}{ps:List Int}{pv fv:V}{us:List V}{si:SI}{i:Nat}{tm:List V}(I:InL m ps pv fv us si i tm){d:Nat}(hd:d ∉ [1,2,15,16,17]) (v:V):InL m ps pv fv us si i (tm.set d v):=by
 simp only[List.mem_cons,List.not_mem_nil,or_false,not_or] at hd;obtain⟨h1,h2,h3,h4,h5⟩:=hd;exact⟨by rw[List.length_set];exact I.len,by rw[sN h1];exact I.t1,by rw[sN h2];exact I.t2,by rw[sN h3];exact I.t15,by rw[sN h4];exact I.t16,by rw[sN h5];exact I.t17⟩
theorem HQ {cf:av}{n m:Nat}{ps:List Int}{pv fv:V}{us:List V}{si:SI}{i:Nat}{tm:List V}(I:InL m ps pv fv us si i tm){c1 c2 c3 c4:V}(hu:us[i]?=some (.agg [c1,c2,c3,c4])) (h:List O) (base rb:Nat) :
  aK cf n eR6 ⟨tm,h,base,rb⟩=some (.normal,⟨(((((tm.set 19 (I64 i)).set 20 (.ptr [c1,c2,c3,c4] 0)).set 21 (.agg [c1,c2,c3,c4])).set 8 (.ref h.length 0)).set 7 (I64 i)),h++[.cells [c1,c2,c3,c4]],base,h.length⟩):=by
 have hi:i<us.length:=(gS.1 hu).1;have l:=I.len;have g15:tm[15]'(by omega)=.sl us si:=(gS.1 I.t15).2;have g17:tm[17]'(by omega)=.c (.int .i64 i):=(gS.1 I.t17).2;have gu:us[i]'hi=.agg [c1,c2,c3,c4]:=(gS.1 hu).2;simp[eR6,aK,aC,aI,aZ,aY,act,aB,bH,ev,g15,g17,I64,idx,hi,gu,V.cells,rdV,l,okc,bF]
theorem H9 {cf:av}{F m k i:Nat}{ps:List Int}{pv fv:V}{f:Nat}{caps:List V}{tm:List V}(hFr:F+1<rid) (hl:tm.length=31) (h1:tm[1]?=some pv) (h2:tm[2]?=some fv) (h7:tm[7]?=some (I64 i)){j:Nat}(h8:tm[8]?=some (.ref j 0))
  (hpv:PV m ps pv) (hfv:aT fv=some (f,caps)){H:List O}{c1 c2 c3 c4:V}(hj:H[j]?=some (.cells [c1,c2,c3,c4])) (hm:H[m]?=some (aE ps)) (hlow:(H.take m).all (O.low m)=true) (hu:V.low m (.agg [c1,c2,c3,c4])=true) (hcaps:V.lows m caps=true)
  {b:Bool}{h':List O}(he:cV cf f caps k (.agg [c1,c2,c3,c4]) (ps++[(i:Int)]) (H.take m)=some (b,h')) (hh:h'.length=m) (base:Nat) :
  aC (gz F m cf k ps i) (bM F) ⟨tm,H++[O.tok 1 1,O.dead],base,H.length⟩ =
   some ⟨(((((((tm.set 22 (.agg [c1,c2,c3,c4])).set 23 pv).set 24 (I64 i)).set 25 (.sl [I64 i] .full)).set 26 .top).set 27 fv).set 28 (.c (.bool b))).set 29 (.c (.bool !b)),h'++(H++[O.tok 1 1,O.dead]).drop m,base,H.length⟩:=by
 have hml:m<H.length:=(gS.1 hm).1;have g1:tm[1]'(by omega)=pv:=(gS.1 h1).2;have g2:tm[2]'(by omega)=fv:=(gS.1 h2).2;have g7:tm[7]'(by omega)=I64 i:=(gS.1 h7).2;have g8:tm[8]'(by omega)=.ref j 0:=(gS.1 h8).2;have hj':(H++[O.tok 1 1,O.dead])[j]?=some (.cells [c1,c2,c3,c4]):=by rw[aL (gS.1 hj).1];exact hj
 have hm':(H++[O.tok 1 1,O.dead])[m]?=some (aE ps):=by rw[aL hml];exact hm
 have ht':(H++[O.tok 1 1,O.dead]).take m=H.take m:=List.take_append_of_le_length (by omega);have hk1:gz F m cf k ps i (F+1) [pv,.sl [I64 i] .full] (H++[O.tok 1 1,O.dead])=some (.top,H++[O.tok 1 1,O.dead]):=by
  unfold gz;rw[if_neg (by omega),if_pos rfl];rcases hpv with rfl|⟨rfl,rfl⟩
  ·simp only[I64];rw[if_pos ⟨by simp,by rw[hm'];exact dh ps⟩]
  ·simp only[I64];rw[if_pos (by simp)]
 have hk2:gz F m cf k ps i F [.agg [c1,c2,c3,c4],fv] (H++[O.tok 1 1,O.dead])=some (.c (.bool b),h'++(H++[O.tok 1 1,O.dead]).drop m):=by
  unfold gz;rw[if_pos rfl];simp only[hfv];rw[if_pos ⟨by simp;omega,by rw[hm'];exact dh ps,by rw[ht'];exact hlow,hu,hcaps⟩,ht',he]
 have hcF:F<rid:=by omega
 have hlen:H.length+2≤h'.length+(H.length+2-m):=by omega
 simp[bM,aC,aI,aZ,aY,act,aB,bH,ev,hl,g1,g2,g7,g8,hj',rdV,V.vw2,V.vw1,I64,okc,Value.oneCell',V.cells,tK hFr,tK hcF];simp only[I64] at hk1;rw[hk1,eo (nL _)];simp[hl,g1,g2,g7,g8];rw[hk2,eo (by simpa using hlen)];simp[hl,g1,g2,g7,g8]
theorem Ia {cf:av}{n i:Nat}{tm:List V}(hl:tm.length=31) (h17:tm[17]?=some (I64 i)) (hi:i≤1099511627776) (H:List O) (base rb:Nat) :
  aK cf n eR9 ⟨tm,H,base,rb⟩=some (.normal,⟨(tm.set 30 (I64 (i+1:Nat))).set 17 (I64 (i+1:Nat)),H,base,H.length⟩):=by
 have g17:tm[17]'(by omega)=.c (.int .i64 i):=(gS.1 h17).2;have hw:IntKind.i64.wrap ((i:Int)+1)=(i:Int)+1:=by
  simp only[IntKind.wrap,IntKind.signed,IntKind.bits];simp;omega
 simp[eR9,aK,aC,aI,aZ,aY,act,aB,bH,ev,hl,g17,ec,fW,hw,I64]
def cfN:av:=fun _ _ _=>none
theorem fe {P:Program}:br P cfN:=fun f args h r h' e=>by cases e
theorem cO (pf:Nat→Nat):bQ pf cfN:=fun f args h r h' e=>by cases e
def AtL (g:Gh) (w:World) (h0:List O) (m:Nat) (ps:List Int) (h':List O) (a':Act) (w':World) (st':St):Prop :=
 ∃g',Le g w g' w'∧Sim [] g' w' a' st'∧Quiet (Frb m h0) g h0 g' st'.h∧(∃e,st'.h=h'++(aE ps::e))∧st'.tm.length=31
theorem EQ {u:V}(h:u.cells.length=4):∃c1 c2 c3 c4,u=.agg [c1,c2,c3,c4]:=by
 cases u with
 | agg cs =>
  simp only[V.cells] at h
  match cs,h with
  | [c1,c2,c3,c4],_=>exact⟨c1,c2,c3,c4,rfl⟩
 | _=>simp[V.cells] at h
theorem vn {P:Program}{rw:Bool}{pf:Nat→Nat}{cf:av}(hm:P.follows .mixedOrders=true){F k:Nat}(hF:pf F=0) (hFr:F+1<rid) (IH:∀f caps,wD P F cf f caps k) (hW:jC P F){cL:Code}{nt q:Nat}(hL:trC P rw pf nt q cL=some (eL F))
  {m:Nat}{ps:List Int}{pv fv:V}{f:Nat}{caps us:List V}{si:SI}(hpv:PV m ps pv) (hfv:aT fv=some (f,caps)) (hus:∀u∈us,u.cells.length=4∧V.low m u=true) (hul:us.length≤1099511627776) (hpl:ps.length≤1099511627776) (hcaps:V.lows m caps=true)
  {b:Bool}{h0 h':List O}{g:Gh}{w:World}{Q:Exit→Act→World→Prop}(hex:∀a' w' st',b=true→AtL g w h0 m ps h' a' w' st'→Q (.exit 0) a' w') (hret:∀a' w' st',b=false→AtL g w h0 m ps h' a' w' st'→st'.tm[6]?=some (.c (.bool false))→Q .ret a' w')
  {h1 e:List O}{tm:List V}{g1:Gh}{w1:World}{a1:Act}{base rb:Nat}(hev:fw (cV cf f caps k) ps 0 us h1=some (b,h')) (hh1:h1.length=m) (hlow:h1.all (O.low m)=true) (hle:Le g w g1 w1) (S:Sim [] g1 w1 a1 ⟨tm,h1++(aE ps::e),base,rb⟩)
  (hq:Quiet (Frb m h0) g h0 g1 (h1++(aE ps::e))) (I:InL m ps pv fv us si 0 tm):(Code.loop cL).wp P Q a1 w1:=by
 obtain⟨c5,cr5,rfl,h5,hL⟩:=dU hL;obtain⟨cc,cr6,rfl,hcc,hL⟩:=dU hL;obtain⟨cb,c9,rfl,hcb,h9⟩:=dU hL;obtain⟨cbb,rfl,hcb2⟩:=nv hcb;obtain⟨c6,cr7,rfl,h6,hcb3⟩:=dU hcb2;obtain⟨c7,cr,rfl,h7,hcr⟩:=dU hcb3;obtain⟨rid,ops,rfl,h7o,h7d⟩:=BE h7;refine wp_loop_ghost (fun n a2 w2=>∃i h2 e2 tm2 g2 base2 rb2,n=us.length-i∧i≤us.length∧fw (cV cf f caps k) ps i (us.drop i) h2=some (b,h')∧h2.length=m∧h2.all (O.low m)=true∧Le g w g2 w2 ∧
  Sim [] g2 w2 a2 ⟨tm2,h2++(aE ps::e2),base2,rb2⟩∧Quiet (Frb m h0) g h0 g2 (h2++(aE ps::e2))∧InL m ps pv fv us si i tm2) us.length ⟨0,h1,e,tm,g1,base,rb,rfl,Nat.zero_le _,hev,hh1,hlow,hle,S,hq,I⟩ ?_
 rintro n a2 w2 ⟨i,h2,e2,tm2,g2,base2,rb2,rfl,hi,hev2,hh2,hlow2,hle2,S2,hq2,I2⟩;have hbase:m≤(h2++(aE ps::e2)).length:=by simp;omega
 refine wp_seq (bZ (cO pf) fe hm (base:=m) 0 c5 _ _ h5 (be _ _ _ rfl h5) rfl g2 w2 a2 _ _ _ (HD I2 _ _ _) S2 hbase _ fun a3 w3 g3 k1 k2 k3 k4=>?_);have I3:=I2.set (d:=18) (by simp) (.c (.bool (decide ((i:Int)<us.length))));rcases Nat.lt_or_ge i us.length with hlt|hge
 ·-- one more kid
  have hdrop:us.drop i=us[i]::us.drop (i+1):=by rw[dC hlt]
  obtain⟨hu4,hulow⟩:=hus us[i] (List.getElem_mem hlt);obtain⟨u1,u2,u3,u4,hu⟩:=EQ hu4;rw[hdrop] at hev2;have hcond:aK cfN 0 (.cond (.t 18) .skip (.exit 0)) ⟨tm2.set 18 (.c (.bool (decide ((i:Int)<us.length)))),h2++(aE ps::e2),base2,(h2++(aE ps::e2)).length⟩=some (.normal,⟨tm2.set 18 (.c (.bool (decide ((i:Int)<us.length)))),h2++(aE ps::e2),base2,(h2++(aE ps::e2)).length⟩):=by
   have:(i:Int)<us.length:=by omega
   simp[aK,ev,I2.len,this]
  refine wp_seq (bZ (cO pf) fe hm (base:=m) 0 cc _ _ hcc (be _ _ _ rfl hcc) rfl g3 w3 a3 _ _ _ hcond k2 k4 _ fun a4 w4 g4 l1 l2 l3 l4=>?_);refine wp_seq (wp_block (wp_seq (bZ (cO pf) fe hm (base:=m) 0 c6 _ _ h6 (be _ _ _ rfl h6) rfl g4 w4 a4 _ _ _ (HQ I3 (by rw[gE hlt,hu]) _ _ _) l2 l4 _ fun a5 w5 g5 m1 m2 m3 m4=>?_)));generalize htm3:tm2.set 18 (.c (.bool (decide ((i:Int)<us.length))))=tm3 at *;have I6:InL m ps pv fv us si i (((((tm3.set 19 (I64 i)).set 20 (.ptr [u1,u2,u3,u4] 0)).set 21 (.agg [u1,u2,u3,u4])).set 8 (.ref (h2++(aE ps::e2)).length 0)).set 7 (I64 i)) :=
   ((((I3.set (by simp) _).set (by simp) _).set (by simp) _).set (by simp) _).set (by simp) _
  have t7:(((((tm3.set 19 (I64 i)).set 20 (.ptr [u1,u2,u3,u4] 0)).set 21 (.agg [u1,u2,u3,u4])).set 8 (.ref (h2++(aE ps::e2)).length 0)).set 7 (I64 i))[7]?=some (I64 i):=by
   rw[sS];simp[I3.len]
  have t8:(((((tm3.set 19 (I64 i)).set 20 (.ptr [u1,u2,u3,u4] 0)).set 21 (.agg [u1,u2,u3,u4])).set 8 (.ref (h2++(aE ps::e2)).length 0)).set 7 (I64 i))[8]?=some (.ref (h2++(aE ps::e2)).length 0):=by
   rw[sN (by decide),sS];simp[I3.len]
  generalize (((((tm3.set 19 (I64 i)).set 20 (.ptr [u1,u2,u3,u4] 0)).set 21 (.agg [u1,u2,u3,u4])).set 8 (.ref (h2++(aE ps::e2)).length 0)).set 7 (I64 i))=tm6 at *;have hH1:(h2++(aE ps::e2)++[O.cells [u1,u2,u3,u4]])[(h2++(aE ps::e2)).length]?=some (.cells [u1,u2,u3,u4]):=by simp
  have hH2:(h2++(aE ps::e2)++[O.cells [u1,u2,u3,u4]])[m]?=some (aE ps):=by rw[← hh2];simp
  have hH3:(h2++(aE ps::e2)++[O.cells [u1,u2,u3,u4]]).take m=h2:=by rw[← hh2];simp
  have hH4:(h2++(aE ps::e2)++[O.cells [u1,u2,u3,u4]]++[O.tok 1 1,O.dead]).drop m=aE ps::(e2++[O.cells [u1,u2,u3,u4]]++[O.tok 1 1,O.dead]):=by rw[← hh2];simp
  simp only[fw] at hev2;cases hkid:cV cf f caps k us[i] (ps++[(i:Int)]) h2 with
  | none=>rw[hkid] at hev2;cases hev2
  | some p =>
   obtain⟨b1,h3⟩:=p;have hkl:=dK hkid;rw[hh2] at hkl;have hr7:=H9 (cf:=cf) (F:=F) (i:=i) hFr I6.len I6.t1 I6.t2 t7 t8 hpv hfv hH1 hH2 (by rw[hH3];exact hlow2) (by rw[← hu];exact hulow) hcaps (b:=b1) (h':=h3) (by rw[hH3,← hu];exact hkid) hkl.1 base2;rw[hH4] at hr7;refine wp_seq (sL hm hF IH hW h7o (h7d rfl) m2 (by simp;omega) (by rw[I6.len];omega) hr7 (by omega) fun a6 w6 g6 n1 n2 n3 n4=>?_);have I7:InL m ps pv fv us si i ((((((((tm6.set 22 (.agg [u1,u2,u3,u4])).set 23 pv).set 24 (I64 i)).set 25 (.sl [I64 i] .full)).set 26 .top).set 27 fv).set 28 (.c (.bool b1))).set 29 (.c (.bool !b1))) :=
    (((((((I6.set (by simp) _).set (by simp) _).set (by simp) _).set (by simp) _).set (by simp) _).set (by simp) _).set (by simp) _).set (by simp) _
   have t29:((((((((tm6.set 22 (.agg [u1,u2,u3,u4])).set 23 pv).set 24 (I64 i)).set 25 (.sl [I64 i] .full)).set 26 .top).set 27 fv).set 28 (.c (.bool b1))).set 29 (.c (.bool !b1)))[29]?=some (.c (.bool !b1)):=by
    rw[sS];simp[I6.len]
   generalize ((((((((tm6.set 22 (.agg [u1,u2,u3,u4])).set 23 pv).set 24 (I64 i)).set 25 (.sl [I64 i] .full)).set 26 .top).set 27 fv).set 28 (.c (.bool b1))).set 29 (.c (.bool !b1)))=tm7 at *;have hle7:Le g w g6 w6:=hle2.trans (k1.trans (l1.trans (m1.trans n1)));have hq7:Quiet (Frb m h0) g h0 g6 (h3++aE ps::(e2++[O.cells [u1,u2,u3,u4]]++[O.tok 1 1,O.dead])):=hq2.transL S2.hk hle2 (k3.transL k2.hk k1 (l3.transL l2.hk l1 (m3.transL m2.hk m1 n3)));have hl7:m≤(h3++aE ps::(e2++[O.cells [u1,u2,u3,u4]]++[O.tok 1 1,O.dead])).length:=by simp;omega
   have hev29:=HK t29;rw[hkid] at hev2;cases b1 with
   | false =>
    simp only[sI,pI] at hev2;obtain⟨rfl,rfl⟩:=hev2;have hcr2:aK cfN 0 (.cond (.t 29) (.seq eR3 .ret) .skip) ⟨tm7,h3++aE ps::(e2++[O.cells [u1,u2,u3,u4]]++[O.tok 1 1,O.dead]),base2,(h2++(aE ps::e2)++[O.cells [u1,u2,u3,u4]]).length⟩ =
      some (.ret,⟨tm7.set 6 (.c (.bool false)),h3++aE ps::(e2++[O.cells [u1,u2,u3,u4]]++[O.tok 1 1,O.dead]),base2,(h3++aE ps::(e2++[O.cells [u1,u2,u3,u4]]++[O.tok 1 1,O.dead])).length⟩):=by
     simp only[aK,hev29,Bool.not_false,if_true];simp[eR3,aK,aC,aI,aZ,aY,act,aB,bH,ev]
    refine bZ (cO pf) fe hm (base:=m) 0 cr _ _ hcr (be _ _ _ rfl hcr) rfl g6 w6 a6 _ _ _ hcr2 n2 hl7 _ fun a7 w7 g7 o1 o2 o3 o4=>?_
    refine hret a7 w7 _ rfl ⟨g7,hle7.trans o1,o2,hq7.transL n2.hk hle7 o3,⟨_,rfl⟩,by simp[I7.len]⟩ ?_;simp[I7.len]
   | true =>
    simp only at hev2;have hcr2:aK cfN 0 (.cond (.t 29) (.seq eR3 .ret) .skip) ⟨tm7,h3++aE ps::(e2++[O.cells [u1,u2,u3,u4]]++[O.tok 1 1,O.dead]),base2,(h2++(aE ps::e2)++[O.cells [u1,u2,u3,u4]]).length⟩ =
      some (.normal,⟨tm7,h3++aE ps::(e2++[O.cells [u1,u2,u3,u4]]++[O.tok 1 1,O.dead]),base2,(h2++(aE ps::e2)++[O.cells [u1,u2,u3,u4]]).length⟩):=by
     simp[aK,hev29]
    refine bZ (cO pf) fe hm (base:=m) 0 cr _ _ hcr (be _ _ _ rfl hcr) rfl g6 w6 a6 _ _ _ hcr2 n2 hl7 _ fun a7 w7 g7 o1 o2 o3 o4=>?_
    refine bZ (cO pf) fe hm (base:=m) 0 c9 _ _ h9 (be _ _ _ rfl h9) rfl g7 w7 a7 _ _ _ (Ia I7.len I7.t17 (by omega) _ _ _) o2 o4 _ fun a8 w8 g8 p1 p2 p3 p4=>?_
    refine⟨us.length-(i+1),by omega,i+1,h3,_,_,g8,_,_,rfl,by omega,hev2,hkl.1,hkl.2,hle7.trans (o1.trans p1),p2,hq7.transL n2.hk hle7 (o3.transL o2.hk o1 p3),?_⟩;have I8:=I7.set (d:=30) (by simp) (I64 (i+1:Nat));exact⟨by simp[I7.len],by rw[sN (by decide)];exact I8.t1,by rw[sN (by decide)];exact I8.t2,by rw[sN (by decide)];exact I8.t15,by rw[sN (by decide)];exact I8.t16,by rw[sS];simp[I7.len]⟩
 ·-- no more
  have hie:i=us.length:=by omega
  subst hie;rw[List.drop_length] at hev2;simp only[fw,sI,pI] at hev2;obtain⟨rfl,rfl⟩:=hev2;have hcond:aK cfN 0 (.cond (.t 18) .skip (.exit 0)) ⟨tm2.set 18 (.c (.bool (decide ((us.length:Int)<us.length)))),h2++(aE ps::e2),base2,(h2++(aE ps::e2)).length⟩=some (.exit 0,⟨tm2.set 18 (.c (.bool (decide ((us.length:Int)<us.length)))),h2++(aE ps::e2),base2,(h2++(aE ps::e2)).length⟩):=by
   simp[aK,ev,I2.len]
  refine wp_seq (bZ (cO pf) fe hm (base:=m) 0 cc _ _ hcc (be _ _ _ rfl hcc) rfl g3 w3 a3 _ _ _ hcond k2 k4 _ fun a4 w4 g4 l1 l2 l3 l4=>?_);exact hex a4 w4 _ rfl ⟨g4,hle2.trans (k1.trans l1),l2,hq2.transL S2.hk hle2 (k3.transL k2.hk k1 l3),⟨e2,rfl⟩,by simp[I2.len]⟩
theorem HX {cf:av}{n:Nat}{a1 a2 a3 a4 pv fv:V}(H:List O) (base rb:Nat) :
  aK cf n eR1 ⟨[.agg [a1,a2,a3,a4],pv,fv]++List.replicate 28 az,H,base,rb⟩ =
   some (.normal,⟨[.agg [a1,a2,a3,a4],pv,fv,.ref H.length 0,az,az,.c (.bool false)]++List.replicate 24 az,H++[.cells [a1,a2,a3,a4]],base,H.length⟩):=by
 simp[eR1,aK,aC,aI,aZ,aY,act,aB,bH,ev,okc,V.cells,List.replicate]
theorem Ih {cf:av}{n:Nat}{d a1 a2 a3 a4 pv fv:V}{f:Nat}{caps:List V}(hfv:aT fv=some (f,caps)) (hfr:f<rid){H H2:List O}{j base rb:Nat}(hj:H[j]?=some (.cells [a1,a2,a3,a4])){b:Bool}
  (hy:cf f (.agg [a1,a2,a3,a4]::pv::caps) H=some (.c (.bool b),H2)) (hl:H.length≤H2.length) :
  aK cf n (.seq eR2 (.cond (.t 13) (.seq eR3 .ret) .skip)) ⟨[d,pv,fv,.ref j 0,az,az,.c (.bool false)]++List.replicate 24 az,H,base,rb⟩ =
   if b then some (.normal,⟨[d,pv,fv,.ref j 0,az,az,.c (.bool false),az,az,fv,.agg [a1,a2,a3,a4],pv,.c (.bool true),.c (.bool false)]++List.replicate 17 az,H2,base,H.length⟩)
   else some (.ret,⟨[d,pv,fv,.ref j 0,az,az,.c (.bool false),az,az,fv,.agg [a1,a2,a3,a4],pv,.c (.bool false),.c (.bool true)]++List.replicate 17 az,H2,base,H2.length⟩):=by
 cases b<;>simp[eR2,eR3,aK,aC,aI,aZ,aY,act,aB,bH,ev,Dn hfv hfr,eo hl,hj,rdV,hy,List.replicate]
theorem HJ {cf:av}{n:Nat}{d x10 a1 a2 a3 pv fv:V}{us:List V}{si:SI}{H:List O}{j base rb:Nat}(hj:H[j]?=some (.cells [a1,a2,a3,.sl us si])) :
  ∃tm,aK cf n eR4 ⟨[d,pv,fv,.ref j 0,az,az,.c (.bool false),az,az,fv,x10,pv,.c (.bool true),.c (.bool false)]++List.replicate 17 az,H,base,rb⟩=some (.normal,⟨tm,H,base,H.length⟩) ∧
   ∀m ps,InL m ps pv fv us si 0 tm:=by
 refine⟨[d,pv,fv,.ref j 0,az,az,.c (.bool false),az,az,fv,x10,pv,.c (.bool true),.c (.bool false),.ref j 3,.sl us si,I64 us.length,I64 0]++List.replicate 13 az,?_,fun m ps=>⟨rfl,rfl,rfl,rfl,rfl,rfl⟩⟩;simp[eR4,aK,aC,aI,aZ,aY,act,aB,bH,ev,hj,rdV,I64,List.replicate]
def ct:XC→Bool
 | .reg _ _ d => !d
 | .regw _ _=>false
 | .regm _ _=>false
 | .regr _ _=>false
 | .seq a b=>ct a&&ct b
 | .cond (.t _) a b=>ct a&&ct b
 | .cond (.k _) a b=>false
 | .block _ c=>ct c
 | .loop c=>ct c
 | _=>true
theorem D3 {P:Program}{rw:Bool}{pf pf':Nat→Nat}{nt:Nat}:∀(c:Code) (q:Nat) (x:XC),ct x=true→trC P rw pf nt q c=some x→trC P rw pf' nt q c=some x:=by
 intro c
 induction c with
 | region id ops d =>
  intro q x hx h;obtain⟨id',ops',e,h1,h2⟩:∃id' ops',Code.region id ops d=.region id' ops' d∧True∧True:=⟨id,ops,rfl,trivial,trivial⟩
  simp only[trC] at h ⊢;by_cases hpn:q9 ops.toList=true
  ·rw[if_pos hpn] at h ⊢;exact h
  have hfl:some wg=some x→False:=fun e=>by
   simp only[sI] at e;subst e;simp[ct] at hx
  rw[if_neg hpn] at h ⊢;split at h
  ·rename_i xs pre h1;split at h
   ·simp only[sI] at h;subst h;simp only[ct,Bool.not_eq_true'] at hx;subst hx;simp[h1]
   ·split at h
    ·simp only[sI] at h;subst h;simp[ct] at hx
    split at h
    ·rename_i hd;obtain⟨rfl,hd⟩:=hd;simp only[sI] at h;subst h;simp[ct] at hx
    split at h
    ·simp only[sI] at h;subst h;simp[ct] at hx
    split at h
    ·simp only[sI] at h;subst h;simp[ct] at hx
    ·split at h
     ·rename_i hd;obtain⟨rfl,hd⟩:=hd;simp only[sI] at h;subst h;simp[ct] at hx
     ·split at h
      ·simp only[sI] at h;subst h;simp[ct] at hx
      ·exact absurd h hfl
  ·exact absurd h hfl
 | seq a b iha ihb =>
  intro q x hx h;simp only[trC] at h ⊢;split at h
  ·rename_i x1 x2 h1 h2;simp only[sI] at h;subst h;simp only[ct,bT] at hx;rw[iha _ _ hx.1 h1,ihb _ _ hx.2 h2]
  ·cases h
 | cond cc a b iha ihb =>
  intro q x hx h;simp only[trC] at h ⊢;split at h
  ·rename_i x0 x1 x2 h0 h1 h2;simp only[sI] at h;subst h;cases x0 with
   | k v=>simp[ct] at hx
   | t i =>
   simp only[ct,bT] at hx;simp only[h0,iha _ _ hx.1 h1,ihb _ _ hx.2 h2]
  ·cases h
 | block id c ih =>
  intro q x hx h;simp only[trC,mS] at h ⊢;obtain⟨y,h1,rfl⟩:=h;exact⟨y,ih _ _ hx h1,rfl⟩
 | loop c ih =>
  intro q x hx h;simp only[trC,mS] at h ⊢;obtain⟨y,h1,rfl⟩:=h;exact⟨y,ih _ _ hx h1,rfl⟩
 | _=>intro q x hx h;exact h
theorem BP {P : Program} {rw : Bool} {pf : Nat → Nat} {cf : av} (hcf : br P cf) (hm : P.follows .mixedOrders = true) {F : Nat} {fn : Func} {c : Code} (hF : pf F = 0) (hFr : F + 1 < rid) (hf : P.funcs[F]? = some fn) (hnm : (fn.name == "runtime.NumGoroutine") = false) (hb : fn.body = some c)
  {nt q:Nat}(hc:trC P rw pf nt q c=some (De F)) (hrs:trR P fn.results.toList=some [.t 6]) (hn:fn.ntmps=31):∀k f caps,wD P F cf f caps k:=by
 have hW:jC P F:=⟨fn,hf,hnm,by rw[hb];rfl⟩
 intro k
 induction k with
 | zero=>intro f caps d ps h b h' e;simp[cV] at e
 | succ k ih =>
  intro f caps d ps h b h' e g w xd xp xf fv pv hfv H hd hpv hp hfr;obtain⟨c1,cr1,rfl,h1c,hc⟩:=dU hc;obtain⟨c2,cr2,rfl,h2c,hc⟩:=dU hc;obtain⟨c34,c5,rfl,h34,h5c⟩:=dU hc;obtain⟨c3,cbl,rfl,h3c,hbl⟩:=dU h34;obtain⟨clp,rfl,hlp⟩:=nv hbl;obtain⟨cL,rfl,hL⟩:=zU hlp;simp only[cV] at e;split at e;rotate_left
  ·cases e
  rename_i a1 a2 a3 us si;split at e;rotate_left
  ·cases e
  rename_i hcond;obtain⟨q1,q2,q3,q4,q5,q6,q7⟩:=hcond;have hus:∀u∈us,u.cells.length=4∧V.low h.length u=true:=by
   intro u hu;have:=List.all_eq_true.1 q1 u hu;simpa using this
  obtain⟨b1,h1,hy,hrest⟩:∃b1 h1,cA cf f caps (.agg [a1,a2,a3,.sl us si]) ps h=some (b1,h1)∧((b1=true∧fw (cV cf f caps k) ps 0 us h1=some (b,h'))∨(b1=false∧b=false∧h'=h1)):=by
   split at e
   ·rename_i h1 hy;exact⟨true,h1,hy,.inl ⟨rfl,e⟩⟩
   ·rename_i h1 hy;simp only[sI,pI] at e;exact⟨false,h1,hy,.inr ⟨rfl,e.1.symm,e.2.symm⟩⟩
   ·cases e
  obtain⟨y1,y2,y3⟩:=cF hy;have hin:FT h.length cf f (.agg [a1,a2,a3,.sl us si]::pv::caps) (h++[aE ps]++[.cells [a1,a2,a3,.sl us si]])=some (.c (.bool b1),h1++[aE ps]++[.cells [a1,a2,a3,.sl us si]]):=by
   have:xV h.length pv=.row h.length 0 ps.length none:=by
    rcases hpv with rfl|⟨rfl,rfl⟩<;>rfl
   simp only[FT,this];exact pl y1 _
  have hS:Sim [] g w { tmps:=#[xd,xp,xf]++Array.replicate (fn.ntmps-3) undef,defers:=[] } ⟨[.agg [a1,a2,a3,.sl us si],pv,fv]++List.replicate 28 az,h++[aE ps],0,0⟩:=by
   refine⟨?_,H,rfl⟩;have h3:∀i (hi:i<#[xd,xp,xf].size) (hj:i<[V.agg [a1,a2,a3,.sl us si],pv,fv].length),Rep g w #[xd,xp,xf][i] [V.agg [a1,a2,a3,.sl us si],pv,fv][i]:=by
    intro i hi hj
    match i,hi with
    | 0,_=>exact hd
    | 1,_=>exact hp
    | 2,_=>exact hfr
   have:=eH (g:=g) (w:=w) H.ag.gl (cargs:=#[xd,xp,xf]) rfl h3 fn.ntmps [];rw[hn] at this ⊢;exact this
  have fin:∀a' w' st',AtL g w (h++[aE ps]) h.length ps h' a' w' st'→h'.length=h.length→h'.all (O.low h.length)=true→st'.tm[6]?=some (.c (.bool b)) →
    a'.defers=[]∧∃v,(results fn a'.tmps).run P w'=.ok v w'∧(∃g',Ending.returned v=.returned (.bool b)∧Le g w g' w'∧HOk g' w' (h'++[aE ps])∧Quiet (Frb h.length (h++[aE ps])) g (h++[aE ps]) g' (h'++[aE ps])):=by
   rintro a' w' st' ⟨g',k1,k2,k3,⟨e',he'⟩,k5⟩ hl hlow h6;obtain⟨x,r1,r2⟩:=jW k2 hrs (vs:=[.c (.bool b)]) (by simp[cE,xI,h6]);have hx:x=.bool b:=r2.of_c;subst hx;refine⟨k2.df,_,r1,g'.res (h.length+1),rfl,?_,?_,fun id hid=>?_⟩
   ·exact k1.res (fun id b e=>by have:=(H.blk_lt e).1;simpa using this) (fun id p e=>by obtain⟨b,n,c⟩:=p;have:=(H.tok_lt e).1;simpa using this)
   ·have hH:HOk g' w' ((h'++[aE ps])++e'):=by
     have:=k2.hk;rw[he'] at this;simpa using this
    have:=hH.cut (by
     rw[List.all_append];simp only[lA,lC,List.length_nil,hl,bT];refine⟨nA (Nat.le_succ _) hlow,?_⟩;simp only[List.all_cons,List.all_nil,Bool.and_true,aE,O.low];exact b7 fun v hv=>by
      obtain⟨i,_,rfl⟩:=List.mem_map.1 hv;rfl)
    simpa[hl] using this
   ·have hid':id<h.length:=Nat.lt_of_not_le fun h=>hid (.inl h)
    obtain⟨z1,z2,z3⟩:=k3 id hid;have hid2:id<h.length+1:=by omega
    refine⟨fun e=>by simp only[Gh.res,hid2,if_true];exact z1 e,fun e=>by simp only[Gh.res,hid2,if_true];exact z2 e,fun e e2=>?_⟩;have:=z3 e e2;rw[he',aL (by omega)] at this;rw[aL (by omega)];exact this
  have hbase:h.length≤(h++[aE ps]).length:=by simp
  refine calls_of_wp hf hb ?_;refine wp_seq (bZ (cO pf) fe hm (base:=h.length) 0 c1 _ _ h1c (be _ _ _ rfl h1c) rfl g w _ _ _ _ (HX _ _ _) hS hbase _ fun a1' w1' g1' k1 k2 k3 k4=>?_);have hj:(h++[aE ps]++[O.cells [a1,a2,a3,.sl us si]])[(h++[aE ps]).length]?=some (.cells [a1,a2,a3,.sl us si]):=by simp
  have h2c':=D3 (pf':=fun _=>0) c2 _ _ (by simp[ct,eR2,eR3]) h2c;have hB:=Ih (n:=0) (d:=.agg [a1,a2,a3,.sl us si]) (base:=0) (rb:=(h++[aE ps]).length) hfv (iP y1) hj hin (by simp;omega);cases b1 with
  | false =>
   simp only[Bool.false_eq_true,if_false] at hB;rcases hrest with⟨hh,_⟩|⟨_,rfl,rfl⟩
   ·cases hh
   refine wp_seq (bZ (wd _) (uW hcf) hm (base:=h.length) 0 c2 _ _ h2c' (be _ _ _ rfl h2c') rfl g1' w1' a1' _ _ _ hB k2 k4 _ fun a2' w2' g2' l1 l2 l3 l4=>?_);exact fin a2' w2' _ ⟨g2',k1.trans l1,l2,k3.transL k2.hk k1 l3,⟨[O.cells [a1,a2,a3,.sl us si]],by simp⟩,by simp⟩ y2 y3 rfl
  | true =>
   simp only[if_true] at hB;rcases hrest with⟨_,hev⟩|⟨hh,_⟩
   rotate_left
   ·cases hh
   refine wp_seq (bZ (wd _) (uW hcf) hm (base:=h.length) 0 c2 _ _ h2c' (be _ _ _ rfl h2c') rfl g1' w1' a1' _ _ _ hB k2 k4 _ fun a2' w2' g2' l1 l2 l3 l4=>?_);have hj2:(h1++[aE ps]++[O.cells [a1,a2,a3,.sl us si]])[(h++[aE ps]).length]?=some (.cells [a1,a2,a3,.sl us si]):=by
    have:(h++[aE ps]).length=(h1++[aE ps]).length:=by simp[y2]
    rw[this];simp
   obtain⟨tm,hC,hI⟩:=HJ (cf:=cfN) (n:=0) (d:=.agg [a1,a2,a3,.sl us si]) (x10:=.agg [a1,a2,a3,.sl us si]) (pv:=pv) (fv:=fv) (base:=0) (rb:=(h++[aE ps]++[O.cells [a1,a2,a3,.sl us si]]).length) hj2;refine wp_seq (wp_seq (bZ (cO pf) fe hm (base:=h.length) 0 c3 _ _ h3c (be _ _ _ rfl h3c) rfl g2' w2' a2' _ _ _ hC l2 l4 _ fun a3' w3' g3' m1 m2 m3 m4=>?_));have hHe:h1++[aE ps]++[O.cells [a1,a2,a3,.sl us si]]=h1++(aE ps::[O.cells [a1,a2,a3,.sl us si]]):=by simp
   rw[hHe] at m2 m3;have hel:h'.length=h.length∧h'.all (O.low h.length)=true:=by
    have:=dK (cf:=cf) (f:=f) (caps:=caps) (k:=k+1) (d:=.agg [a1,a2,a3,.sl us si]) (ps:=ps) (h:=h) (b:=b) (h':=h') (by
     simp only[cV];rw[if_pos ⟨q1,q2,q3,q4,q5,q6,q7⟩,hy];exact hev)
    exact this
   have hq3:Quiet (Frb h.length (h++[aE ps])) g (h++[aE ps]) g3' (h1++(aE ps::[O.cells [a1,a2,a3,.sl us si]])):=by
    have:=k3.transL k2.hk k1 l3;rw[hHe] at this;exact this.transL (by have:=l2.hk;rw[hHe] at this;exact this) (k1.trans l1) m3
   refine wp_block (vn (m:=h.length) (ps:=ps) hm hF hFr ih hW hL hpv hfv hus q2 q3 q4 (b:=b) (h':=h') (g:=g) (w:=w) (h0:=h++[aE ps]) (fun a' w' st' hb' hat=>?_) (fun a' w' st' hb' hat h6=>?_) hev y2 y3 (k1.trans (l1.trans m1)) m2 hq3 (hI _ _))
   ·subst hb';simp only[Exit.inBlock,if_true,Exit.then];obtain⟨g4,n1,n2,n3,⟨e',he'⟩,n5⟩:=hat;have hD:aK cfN 0 (.seq FV .ret) st'=some (.ret,{ st' with tm:=st'.tm.set 6 (.c (.bool true)),h:=st'.h,rb:=st'.h.length }):=by
     simp[FV,aK,aC,aI,aZ,aY,act,aB,bH,ev]
    refine bZ (cO pf) fe hm (base:=h.length) 0 c5 _ _ h5c (be _ _ _ rfl h5c) rfl g4 w' a' _ _ _ hD n2 (by rw[he'];simp;omega) _ fun a5 w5 g5 o1 o2 o3 o4=>?_
    exact fin a5 w5 _ ⟨g5,n1.trans o1,o2,n3.transL n2.hk n1 o3,⟨e',he'⟩,by simp[n5]⟩ hel.1 hel.2 (by simp[n5])
   ·subst hb';exact fin a' w' st' hat hel.1 hel.2 h6
def mc:Nat→av→List V→List O→Option (V × List O):=fun n cf args h=>match args with
 | [d,.sl [] .nil,fv]=>match aT fv with
  | some (f,caps)=>(cV cf f caps n d [] h).map fun r=>(.c (.bool r.1),r.2)
  | none=>none
 | _=>none
theorem zF {P:Program}{rw:Bool}{pf:Nat→Nat}{cf:av}(hcf:br P cf) (hm:P.follows .mixedOrders=true){F:Nat}{fn:Func}(hF:pf F=0) (hFr:F+1<rid) (hf:P.funcs[F]?=some fn){q:Nat}(htr:trF P pf q false false rw fn=some ⟨31,De F,[.t 6],false,false,rw,none⟩)
  {n:Nat}{args:List V}{h:List O}{r:V}{h':List O}(e:mc n cf args h=some (r,h')):jC P F∧mn P F args h r h':=by
 obtain⟨t1,c,t2,t3,t4,t5,t6,t7⟩:=rj htr;refine⟨⟨fn,hf,t1,by rw[t2];rfl⟩,fun g w cargs H hl hr=>?_⟩;unfold mc at e;split at e;rotate_left
 ·cases e
 rename_i d fv;split at e;rotate_left
 ·cases e
 rename_i f caps hfv;simp only[mS,pI] at e;obtain⟨⟨b,h1⟩,hev,rfl,rfl⟩:=e;obtain⟨xd,xp,xf,rfl⟩:∃a b c,cargs=#[a,b,c]:=by
  obtain⟨l⟩:=cargs
  match l,hl with
  | [a,b,c],_=>exact⟨a,b,c,rfl⟩
 have hd:Rep g w xd d:=hr 0 (by simp) (by simp);have hp:Rep g w xp (.sl [] .nil):=hr 1 (by simp) (by simp);have hx:Rep g w xf fv:=hr 2 (by simp) (by simp);have hel:=dK hev;refine Calls.mono (BP (rw:=rw) hcf hm hF hFr hf t1 t2 t3 t4 t5.symm n f caps d [] h b h1 hev g w xd xp xf fv (.sl [] .nil) hfv (H.append _) hd (.inr ⟨rfl,rfl⟩) hp hx) ?_;rintro e w' ⟨g',rfl,k1,k2,k3⟩;have hcut:=k2.cut (h:=h1) (by rw[hel.1];exact hel.2);rw[hel.1] at hcut;refine⟨.bool b,g'.res h.length,rfl,k1.res (fun id b e=>(H.blk_lt e).1) (fun id p e=>by obtain⟨b,n,c⟩:=p;exact (H.tok_lt e).1),hcut,.c _,fun id hid=>?_⟩;have hid':id<h.length:=Nat.lt_of_not_le fun h=>hid (.inl h)
 obtain⟨z1,z2,z3⟩:=k3 id (fun h=>h.elim (fun h=>by omega) fun h=>hid (.inr (by rw[aL hid'] at h;exact h)));refine⟨fun e=>by simp only[Gh.res,hid',if_true];exact z1 e,fun e=>by simp only[Gh.res,hid',if_true];exact z2 e,fun e e2=>?_⟩;have:=z3 e e2;rw[aL (by omega),aL (by omega)] at this;exact this
def me (cf cf':av):Prop:=∀f args h r,cf f args h=some r→cf' f args h=some r
theorem yW {cf cf':av}(hc:me cf cf'){st:St}{op:XOp}{r:V × List O}(h:act cf st op=some r):act cf' st op=some r:=by
 cases op
 case call f args =>
  have lo:∀{f:Nat}{vs:List V}{r:V × List O},longer st.h (cf f vs st.h)=some r→longer st.h (cf' f vs st.h)=some r:=by
   intro f vs r e;obtain⟨r1,r2⟩:=r;obtain⟨e1,e2⟩:=bd e;rw[hc _ _ _ _ e1,eo e2]
  simp only[act,eb,fU] at h ⊢;split at h
  ·split at h
   ·rename_i hq;rw[if_pos hq];exact lo h
   ·cases h
  ·split at h
   ·rename_i hq;rw[if_pos hq];exact lo h
   ·cases h
  ·split at h
   ·split at h
    ·rename_i hq;rw[if_pos hq];exact lo h
    ·cases h
   ·cases h
 all_goals exact h
theorem jh {cf cf':av}(hc:me cf cf'){o:XOper}{st st1:St}(h:aI cf o st=some st1):aI cf' o st=some st1:=by
 unfold aI at h ⊢;split at h
 ·rename_i hk;rw[if_pos hk];split at h
  ·rename_i hw;rw[if_pos hw];split at h
   ·rename_i v hh ha;rw[yW hc ha];exact h
   ·cases h
  ·rename_i hw;rw[if_neg hw];exact h
 ·cases h
theorem qy {cf cf':av}(hc:me cf cf'):∀{ops:List XOper}{st st1:St},aC cf ops st=some st1→aC cf' ops st=some st1
 | [],st,st1,h=>h
 | o::r,st,st1,h=>by
  simp only[aC] at h ⊢;split at h
  ·rename_i s1 h1;rw[jh hc h1];exact qy hc h
  ·cases h
theorem jV {m:Nat}{cf cf':av}(hc:me cf cf'):me (aF m cf) (aF m cf'):=by
 intro f args h r e;unfold aF at e ⊢;generalize (if V.lows m args=true then args else args.map V.vw2)=args' at e ⊢;unfold b9 at e ⊢;split at e
 ·rename_i hcond;rw[if_pos hcond];split at e
  ·rename_i r' h1 hcall;rw[hc _ _ _ _ hcall];exact e
  ·cases e
 ·cases e
theorem jj {m:Nat}{lt:Bool}{cf cf':av}(hc:me cf cf'):∀{ops:List XOper}{st st1:St},ed m lt cf ops st=some st1→ed m lt cf' ops st=some st1
 | [],st,st1,h=>h
 | o::r,st,st1,h=>by
  simp only[ed] at h ⊢;split at h
  ·rename_i s1 h1;have:d8 m lt cf' o st=some s1:=by
    unfold d8 at h1 ⊢;split at h1
    ·rename_i hb;rw[if_pos hb];exact jh (jV hc) h1
    ·cases h1
   rw[this];exact jj hc h
  ·cases h
theorem BA {m:Nat}{cf cf':av}(hc:me cf cf'):me (eR m cf) (eR m cf'):=by
 intro f args H r e;unfold eR at e ⊢;split at e
 ·rename_i h;rw[if_pos h];split at e
  ·rename_i r' h1 hcall;rw[hc _ _ _ _ hcall];exact e
  ·cases e
 ·cases e
theorem mI {m:Nat}{cf cf':av}(hc:me cf cf'):∀{ops:List XOper}{st st1:St},gt m cf ops st=some st1→gt m cf' ops st=some st1
 | [],st,st1,h=>h
 | o::r,st,st1,h=>by
  simp only[gt] at h ⊢;split at h
  ·rename_i s1 h1;have:ee m cf' o st=some s1:=by
    unfold ee at h1 ⊢;split at h1
    ·rename_i hb;rw[if_pos hb];exact jh (BA hc) h1
    ·cases h1
   rw[this];exact mI hc h
  ·cases h
theorem nW {f f':St→Option (Ex × St)}(hf:∀st r,f st=some r→f' st=some r):∀{n n':Nat}{st:St}{r:Ex × St},n≤n'→iq f n st=some r→iq f' n' st=some r
 | 0,n',st,r,_,h=>by simp[iq] at h
 | n+1,0,st,r,hn,h=>by omega
 | n+1,n'+1,st,r,hn,h=>by
  simp only[iq] at h ⊢;split at h
  ·rename_i s1 h1;rw[hf _ _ h1];exact nW hf (by omega) h
  ·rename_i hne;cases h1:f st with
   | none=>rw[h1] at h;cases h
   | some p =>
    rw[h1] at h;simp only[sI] at h;subst h;rw[hf _ _ h1];obtain⟨e,s⟩:=p;cases e with
    | normal=>exact absurd h1 (hne s)
    | exit id=>rfl
    | ret=>rfl
theorem jc {cf cf':av}(hc:me cf cf'){n n':Nat}(hn:n≤n'):∀(xc:XC) (st:St) (r:Ex × St),aK cf n xc st=some r→aK cf' n' xc st=some r:=by
 intro xc
 induction xc with
 | skip=>intro st r h;exact h
 | reg ops pre d =>
  intro st r h;simp only[aK,mS] at h ⊢;obtain⟨s,h1,h2⟩:=h;exact⟨s,qy hc h1,h2⟩
 | regw ops pre =>
  intro st r h;simp only[aK,mS] at h ⊢;obtain⟨s,h1,h2⟩:=h;exact⟨s,jj hc h1,h2⟩
 | regm ops pre =>
  intro st r h;simp only[aK,mS] at h ⊢;obtain⟨s,h1,h2⟩:=h;exact⟨s,jj hc h1,h2⟩
 | regr ops pre =>
  intro st r h;simp only[aK,mS] at h ⊢;obtain⟨s,h1,h2⟩:=h;exact⟨s,mI hc h1,h2⟩
 | seq a b iha ihb =>
  intro st r h;simp only[aK] at h ⊢;split at h
  ·rename_i s1 h1;rw[iha _ _ h1];exact ihb _ _ h
  ·rename_i hne;obtain⟨e,s⟩:=r;rw[iha _ _ h];cases e with
   | normal=>exact absurd h (hne s)
   | exit id=>rfl
   | ret=>rfl
 | cond c a b iha ihb =>
  intro st r h;simp only[aK] at h ⊢;split at h
  ·rename_i t ht;split at h
   ·rename_i ht2;rw[if_pos ht2];exact iha _ _ h
   ·rename_i ht2;rw[if_neg ht2];exact ihb _ _ h
  ·cases h
 | block id c ih =>
  intro st r h;simp only[aK] at h ⊢;split at h
  ·rename_i id' s1 h1;rw[ih _ _ h1];exact h
  ·rename_i hne;obtain⟨e,s⟩:=r;rw[ih _ _ h];cases e with
   | exit id=>exact absurd h (hne _ s)
   | normal=>rfl
   | ret=>rfl
 | loop c ih =>
  intro st r h;simp only[aK] at h ⊢;exact nW (fun st r=>ih st r) hn h
 | exit id=>intro st r h;exact h
 | ret=>intro st r h;exact h
 | rangeF f y m nt us =>
  intro st r h;simp only[aK] at h ⊢;split at h
  ·split at h
   ·rename_i hq;rw[if_pos hq];split at h
    ·rename_i h1;rw[hc _ _ _ _ h1];exact h
    ·cases h
   ·cases h
  ·cases h
theorem jg {lo:Nat}{h:List O}:∀{k k':Nat}{v v':V},k≤k'→fV lo h k v=some v'→fV lo h k' v=some v'
 | 0,_,v,v',_,e=>by simp[fV] at e
 | k+1,0,v,v',hk,e=>by omega
 | k+1,k'+1,v,v',hk,e=>lI (fun _ _ _ h=>h) (fun v v' e=>jg (by omega) e) v v' e
theorem ix {esc:Bool}{n n':Nat}(hn:n≤n'){res:List XR}{o o':Option (Ex × St)}(ho:∀r,o=some r→o'=some r){r:V × List O}(h:fin esc n res o=some r):fin esc n' res o'=some r:=by
 cases o with
 | none=>simp[fin] at h
 | some p =>
  rw[ho p rfl];obtain⟨e,s⟩:=p;have main:∀e,e≠.normal∧e≠.ret→fin esc n res (some (e,s))=none:=by
   intro e he;cases e with
   | normal=>exact absurd rfl he.1
   | ret=>exact absurd rfl he.2
   | exit id=>rfl
  have key:∀q,(match cE s res with
    | some vs =>
     if esc then some ((bk vs).vwr,s.h) else
     if (bk vs).vw.low s.base then if (s.h.take s.base).all (O.low s.base) then some ((bk vs).vw,s.h.take s.base) else none
     else match fV s.base s.h n (bk vs).vw with
      | some r=>if r.low s.base&&(s.h.take s.base).all (O.low s.base) then some (r,s.h.take s.base) else none
      | none=>none
    | none=>none)=some q→(match cE s res with
    | some vs =>
     if esc then some ((bk vs).vwr,s.h) else
     if (bk vs).vw.low s.base then if (s.h.take s.base).all (O.low s.base) then some ((bk vs).vw,s.h.take s.base) else none
     else match fV s.base s.h n' (bk vs).vw with
      | some r=>if r.low s.base&&(s.h.take s.base).all (O.low s.base) then some (r,s.h.take s.base) else none
      | none=>none
    | none=>none)=some q:=by
   intro q hq;split at hq
   ·split at hq
    ·rename_i he;simp only[he,if_true];exact hq
    ·rename_i he;simp only[he,Bool.false_eq_true,if_false];split at hq
     ·rename_i hl;simp only[hl,if_true];exact hq
     ·rename_i hl;simp only[hl,Bool.false_eq_true,if_false];split at hq
      ·rename_i r' hsn;rw[jg hn hsn];exact hq
      ·cases hq
   ·cases hq
  cases e with
  | exit id=>simp[fin] at h
  | normal=>exact key r h
  | ret=>exact key r h
theorem uC {f f':V→Option V}(hf:∀v v',f v=some v'→f' v=some v'){us us':List V}(h:lk f us=some us'):lk f' us=some us':=jl hf us us' h
theorem uz {cf cf':av}(hc:me cf cf'){n n':Nat}(hn:n≤n'){xf:XF}{args:List V}{h:List O}{r:V × List O}(e:fE cf n xf args h=some r):fE cf' n' xf args h=some r:=by
 have hex:∀st r,aK cf n xf.body st=some r→aK cf' n' xf.body st=some r:=jc hc hn xf.body;unfold fE at e ⊢;split at e
 ·rename_i hp;rw[if_pos hp];split at e
  ·rename_i hl;rw[if_pos hl];split at e
   ·rename_i hes;rw[if_pos hes];simp only[mS] at e ⊢;obtain⟨q,hq,rfl⟩:=e;exact⟨q,ix hn (hex _) hq,rfl⟩
   ·rename_i hes;rw[if_neg hes];simp only[mS] at e ⊢;obtain⟨q,hq,rfl⟩:=e;exact⟨q,ix hn (hex _) hq,rfl⟩
  ·rename_i hl;rw[if_neg hl];split at e
   ·cases e
   ·rename_i hes;rw[if_neg hes];split at e
    ·rename_i bs hbs;rw[uC (fun v v'=>jg hn) hbs];simp only;split at e
     ·rename_i hl2;rw[if_pos hl2];split at e
      ·rename_i q hh hq;rw[ix hn (hex _) hq];exact e
      ·cases e
     ·cases e
    ·cases e
 ·rename_i hp;rw[if_neg hp];exact ix hn (hex _) e
def ph (E:Ext):Prop:=∀f e,E f=some e→∀n n' cf cf',n≤n'→me cf cf'→∀args h r,e n cf args h=some r→e n' cf' args h=some r
theorem rX {cf cf':av}(hc:me cf cf'){n n':Nat}(hn:n≤n'){ps:List Nat}{asg body:XC}{k:Nat}{vs caps:List V}{h:List O}{r:V × List O}(e:cN cf n ps asg body k vs caps h=some r):cN cf' n' ps asg body k vs caps h=some r:=by
 unfold cN at e ⊢;split at e;rotate_left
 ·cases e
 rename_i tm hp;split at e;rotate_left
 ·cases e
 rename_i st1 h1;rw[jc hc hn _ _ _ h1];simp only;split at e;rotate_left
 ·cases e
 rename_i hk;split at e;rotate_left
 ·cases e
 rename_i e2 st2 h2;simp only[hk,jc hc hn _ _ _ h2];exact e
theorem jK {X:Nat→Option XF}{E:Ext}(hE:ph E):∀{n n':Nat},n≤n'→me (call X E n) (call X E n')
 | 0,_,_=>fun f args h r e=>by simp[call] at e
 | n+1,0,hn=>by omega
 | n+1,n'+1,hn=>fun f args h r e=>by
  have ih:=jK (X:=X) hE (n:=n) (n':=n') (by omega);simp only[call] at e ⊢;split at e
  ·rename_i ex hex;exact hE f ex hex n n' _ _ (by omega) ih args h r e
  ·rename_i hex;split at e
   ·cases e
   ·rename_i xf hxf;split at e
    ·split at e
     ·split at e
      ·rename_i hk;rw[if_pos hk];exact rX ih (by omega) e
      ·cases e
     ·cases e
    ·exact uz ih (by omega) e
theorem kw {cf cf':av}(hc:me cf cf'){f:Nat}{caps:List V}{d:V}{ps:List Int}{h:List O}{r:Bool × List O}(e:cA cf f caps d ps h=some r):cA cf' f caps d ps h=some r:=by
 unfold cA at e ⊢;split at e
 ·rename_i b h1 hf;rw[jV hc _ _ _ _ hf];exact e
 ·cases e
theorem gU {cf cf':av}(hc:me cf cf'){f:Nat}{caps:List V}:∀{k k':Nat},k≤k'→∀{d:V}{ps:List Int}{h:List O}{r:Bool × List O},cV cf f caps k d ps h=some r→cV cf' f caps k' d ps h=some r
 | 0,_,_,d,ps,h,r,e=>by simp[cV] at e
 | k+1,0,hk,_,_,_,_,_=>by omega
 | k+1,k'+1,hk,d,ps,h,r,e=>by
  have hL:∀(us:List V) (i:Nat) (h1:List O),fw (cV cf f caps k) ps i us h1=some r→fw (cV cf' f caps k') ps i us h1=some r:=by
   intro us
   induction us with
   | nil=>intro i h1 e;exact e
   | cons u us ih =>
    intro i h1 e;simp only[fw] at e ⊢;split at e
    ·rename_i h2 e1;rw[gU hc (by omega) e1];exact ih _ _ e
    ·rename_i h2 e1;rw[gU hc (by omega) e1];exact e
    ·cases e
  unfold cV at e ⊢;split at e
  ·split at e
   ·rename_i hcond;simp only[if_pos hcond];split at e
    ·rename_i h1 e1;rw[kw hc e1];exact hL _ _ _ e
    ·rename_i h1 e1;rw[kw hc e1];exact e
    ·cases e
   ·cases e
  ·cases e
theorem sg {n n':Nat}{cf cf':av}(hn:n≤n') (hc:me cf cf'){args:List V}{h:List O}{r:V × List O}(e:mc n cf args h=some r):mc n' cf' args h=some r:=by
 unfold mc at e ⊢;split at e
 ·split at e
  ·rename_i f caps hfv;simp only[mS] at e ⊢;obtain⟨q,hq,rfl⟩:=e;exact⟨q,gU hc hn hq,rfl⟩
  ·cases e
 ·cases e
structure SF where
 e:Nat→V
 h:List O
 base:Nat
 rb:Nat
def A.sub (e:Nat→V):A→A
 | .t i=>.k (e i)
 | .k v=>.k v
def A.val (e:Nat→V):A→V
 | .t i=>e i
 | .k v=>v
def XOp.sub (e:Nat→V):XOp→XOp
 | .mv x=>.mv (x.sub e)
 | .pick c a b=>.pick (c.sub e) (a.sub e) (b.sub e)
 | .alloc al z=>.alloc al z
 | .box al x=>.box al (x.sub e)
 | .build z ps=>.build z (ps.map fun p=>(p.1,p.2.1,p.2.2.sub e))
 | .bslice al z ps=>.bslice al z (ps.map (A.sub e))
 | .load n x=>.load n (x.sub e)
 | .store n a x=>.store n (a.sub e) (x.sub e)
 | .bin op q x y=>.bin op q (x.sub e) (y.sub e)
 | .un op x=>.un op (x.sub e)
 | .fieldAddr o x=>.fieldAddr o (x.sub e)
 | .field o n x=>.field o n (x.sub e)
 | .indexAddr z x i=>.indexAddr z (x.sub e) (i.sub e)
 | .index x i=>.index (x.sub e) (i.sub e)
 | .slice s z x lo hi mx=>.slice s z (x.sub e) (lo.map (A.sub e)) (hi.map (A.sub e)) (mx.map (A.sub e))
 | .extract x i=>.extract (x.sub e) i
 | .len s x=>.len s (x.sub e)
 | .append al z b rw x y=>.append al z b rw (x.sub e) (y.sub e)
 | .mm m ps=>.mm m (ps.map (A.sub e))
 | .conv k x=>.conv k (x.sub e)
 | .call f ps=>.call (f.sub e) (ps.map (A.sub e))
 | .clos f ps=>.clos f (ps.map (A.sub e))
 | .nilchk x=>.nilchk (x.sub e)
 | .makeMap al=>.makeMap al
 | .lookup kd z ok x k=>.lookup kd z ok (x.sub e) (k.sub e)
 | .mapUpd kd m k v=>.mapUpd kd (m.sub e) (k.sub e) (v.sub e)
 | .mksl al z zero n=>.mksl al z zero (n.sub e)
 | .eqs neg kd x y=>.eqs neg kd (x.sub e) (y.sub e)
 | .bndm f x=>.bndm f (x.sub e)
 | .load1 x=>.load1 (x.sub e)
 | .load2 n x=>.load2 n (x.sub e)
def toE (tm:List V):Nat→V:=fun i=>tm.getD i az
def upd (e:Nat→V) (d:Nat) (v:V):Nat→V:=fun t=>if t=d then v else e t
def pC (e:Nat→V):Option Nat→V→Nat→V
 | none,_=>e
 | some d,v=>upd e d v
theorem eh (tm tm':List V) (x:A):ev tm' (x.sub (toE tm))=ev tm x:=by cases x<;>rfl
theorem pB (tm tm':List V) (xs:List A):(xs.map (A.sub (toE tm))).map (ev tm')=xs.map (ev tm):=by
 rw[List.map_map];exact List.map_congr_left fun x _=>eh tm tm' x
theorem rF (tm tm':List V):∀(ps:List (Nat × Nat × A)) (z:List V),fQ z tm' (ps.map fun p=>(p.1,p.2.1,p.2.2.sub (toE tm)))=fQ z tm ps
 | [],z=>rfl
 | (o,n,x)::r,z=>by
  simp only[List.map_cons,fQ,eh];split
  ·exact rF tm tm' r _
  ·rfl
theorem kZ (tm tm':List V) (d:Int) (x:Option A):bc tm' d (x.map (A.sub (toE tm)))=bc tm d x:=by
 cases x with
 | none=>rfl
 | some x=>simp only[Option.map_some,bc,eh]
theorem Bl (tm tm' us:List V) (z:Nat) (lo hi mx:Option A):slV tm' us z (lo.map (A.sub (toE tm))) (hi.map (A.sub (toE tm))) (mx.map (A.sub (toE tm)))=slV tm us z lo hi mx:=by
 unfold slV;have e1:(hi.map (A.sub (toE tm))).isSome=hi.isSome:=by cases hi<;>rfl
 simp only[kZ,e1];generalize bc tm 0 lo=a;generalize bc tm us.length hi=b;cases mx<;>cases a<;>cases b<;>simp[eh]
theorem yo (tm tm':List V) (id off n:Nat) (zz:Option Nat) (z:Nat) (lo hi mx:Option A):xD tm' id off n zz z (lo.map (A.sub (toE tm))) (hi.map (A.sub (toE tm))) (mx.map (A.sub (toE tm)))=xD tm id off n zz z lo hi mx:=by
 unfold xD;have e1:(hi.map (A.sub (toE tm))).isSome=hi.isSome:=by cases hi<;>rfl
 simp only[kZ,e1];generalize bc tm 0 lo=a;generalize bc tm n hi=b;cases mx<;>cases a<;>cases b<;>simp[eh]
theorem CY (tm tm':List V) (s:ByteArray) (lo hi mx:Option A):stV tm' s (lo.map (A.sub (toE tm))) (hi.map (A.sub (toE tm))) (mx.map (A.sub (toE tm)))=stV tm s lo hi mx:=by
 unfold stV;simp only[kZ];cases mx<;>simp
theorem vp (tm tm':List V) (rb:Nat) (s:Bool) (z:Nat) (x:A) (lo hi mx:Option A):aB tm' rb (XOp.sub (toE tm) (.slice s z x lo hi mx))=aB tm rb (.slice s z x lo hi mx):=by
 simp only[XOp.sub,aB,eh,Bl,yo,CY]
theorem act_sub {cf:av}{st:St}{op:XOp}:act cf { st with tm:=[] } (op.sub (toE st.tm))=act cf st op:=by
 cases op
 case slice s z x lo hi mx =>
  have:=vp st.tm [] st.rb s z x lo hi mx;simp only[XOp.sub] at this;simp only[act,XOp.sub,this]
 case build z ps=>simp only[act,XOp.sub,aB,rF]
 case bslice al z ps=>simp only[act,XOp.sub,aB,List.map_map,Function.comp_def,eh]
 case mm m ps=>simp only[act,XOp.sub,aB,pB]
 case clos f ps=>simp only[act,XOp.sub,aB,pB]
 case call f ps=>simp only[act,XOp.sub,eh,pB]
 all_goals simp only[act,XOp.sub,aB,eh]
theorem uw {m:Nat}{st:St}{op:XOp}:ir m { st with tm:=[] } (op.sub (toE st.tm))=ir m st op:=by
 cases op<;>simp only[ir,XOp.sub,eh]
def kF (e:Nat→V):Option (Nat × Bool)→Bool
 | none=>true
 | some (t,_)=>match e t with
  | .top=>false
  | _=>true
def iS (e:Nat→V):Option (Nat × Bool)→Bool
 | none=>true
 | some (t,b)=>match e t with
  | .c (.bool x)=>x==b
  | _=>false
theorem Cn (tm:List V) (g:Option (Nat × Bool)):kF (toE tm) g=aZ tm g:=by
 cases g with
 | none=>rfl
 | some p =>
  obtain⟨t,b⟩:=p;simp only[kF,aZ,toE,List.getD_eq_getElem?_getD];cases tm[t]? with
  | none=>rfl
  | some v=>cases v <;> rfl
theorem wV (tm:List V) (g:Option (Nat × Bool)):iS (toE tm) g=aY tm g:=by
 cases g with
 | none=>rfl
 | some p =>
  obtain⟨t,b⟩:=p;simp only[iS,aY,toE,List.getD_eq_getElem?_getD];cases tm[t]? with
  | none=>rfl
  | some v =>
   cases v with
   | c x=>cases x <;> rfl
   | _=>rfl
def jF {α:Type}:Option α→(α→Prop)→Prop
 | none,_=>False
 | some a,k=>k a
theorem dN {α:Type}(a:α) (k:α→Prop):jF (some a) k=k a:=rfl
def bw (cf:av) (s:SF) (op:XOp):Option (V × List O):=act cf ⟨[],s.h,s.base,s.rb⟩ (op.sub s.e)
def wps (cf:av) (o:XOper) (s:SF) (k:SF→Prop):Prop :=
 if kF s.e o.g=true then if iS s.e o.g=true then jF (bw cf s o.op) fun r=>k ⟨pC s.e o.d r.1,r.2,s.base,s.rb⟩ else k ⟨pC s.e o.d az,s.h,s.base,s.rb⟩ else False
def lj (cf:av):List XOper→SF→(SF→Prop)→Prop
 | [],s,k=>k s
 | o::r,s,k=>wps cf o s fun s=>lj cf r s k
def H6 (s:SF) (op:XOp):Bool:=ir s.base ⟨[],s.h,s.base,s.rb⟩ (op.sub s.e)
def iR (cf:av):List XOper→SF→(SF→Prop)→Prop
 | [],s,k=>k s
 | o::r,s,k=>H6 s o.op=true∧wps (aF s.base cf) o s fun s=>iR cf r s k
def nK (v:V) (p q:Prop):Prop:=match v with
 | .c (.bool t)=>if t=true then p else q
 | _=>False
def dE (f:SF→(Ex→SF→Prop)→Prop):Nat→SF→(Ex→SF→Prop)→Prop
 | 0,_,_=>False
 | n+1,s,Q=>f s fun e s=>match e with
  | .normal=>dE f n s Q
  | e=>Q e s
def yu (nt:Nat) (us:List Nat) (e:Nat→V):List V:=(List.range nt).map fun i=>if us.contains i then e i else .top
def lQ:Option O→Option Ex
 | some (.loop s)=>Ex.ofNum s
 | _=>none
def jR (all:List XOper):List XOper→List Nat
 | []=>[]
 | o::r=>match o.op,o.d with
  | .mv (.t x),some d=>if pK d all then x::jR all r else jR all r
  | _,_=>jR all r
def gr (b:Nat):V→Bool
 | .ref id _=>decide (b≤id)
 | _=>false
def Dt:List XOper→List Nat
 | []=>[]
 | o::r=>match o.g,o.op with
  | none,.fieldAddr _ (.t i)=>i::Dt r
  | none,.load _ (.t i)=>i::Dt r
  | _,_=>Dt r
def io (b:Nat):V→Nat→Nat
 | .ref id _,m=>if b≤id∧id<m then id else m
 | _,m=>m
def FG (s:SF) (ops:List XOper):Nat:=if (jR ops ops).any (fun x=>gr s.base (s.e x))=true then (Dt ops).foldl (fun m i=>io s.base (s.e i) m) s.h.length else s.base
def em (m:Nat) (s:SF) (o:XOper):Bool:=o.g.isSome||ir m ⟨[],s.h,s.base,s.rb⟩ (o.op.sub s.e)
def Hq (m:Nat) (s:SF) (o:XOper):Bool:=ik m ⟨[],s.h,s.base,s.rb⟩ (o.op.sub s.e)
def d6 (cf:av) (p:SF→XOper→Bool):List XOper→SF→(SF→Prop)→Prop
 | [],s,k=>k s
 | o::r,s,k=>p s o=true∧wps cf o s fun s=>d6 cf p r s k
def wpx (cf:av) (n:Nat):XC→SF→(Ex→SF→Prop)→Prop
 | .skip,s,Q=>Q .normal s
 | .reg ops pre _,s,Q=>lj cf ops ⟨s.e,s.h++pre,s.base,s.h.length⟩ (Q .normal)
 | .regw ops pre,s,Q=>iR cf ops ⟨s.e,s.h++pre,s.base,s.h.length⟩ (Q .normal)
 | .regr ops pre,s,Q=>d6 (eR (min s.base s.h.length) cf) (Hq (min s.base s.h.length)) ops ⟨s.e,s.h++pre,s.base,s.h.length⟩ (Q .normal)
 | .regm ops pre,s,Q=>d6 (aF (FG s ops) cf) (em (FG s ops)) ops ⟨s.e,s.h++pre,s.base,s.h.length⟩ (Q .normal)
 | .seq a b,s,Q=>wpx cf n a s fun e s=>match e with
  | .normal=>wpx cf n b s Q
  | e=>Q e s
 | .cond c a b,s,Q=>nK (c.val s.e) (wpx cf n a s Q) (wpx cf n b s Q)
 | .block id c,s,Q=>wpx cf n c s fun e s=>match e with
  | .exit id'=>if id'=id then Q .normal s else Q (.exit id') s
  | e=>Q e s
 | .loop c,s,Q=>dE (wpx cf n c) n s Q
 | .exit id,s,Q=>Q (.exit id) s
 | .ret,s,Q=>Q .ret s
 | .rangeF f y m nt us,s,Q=>match aT (f.val s.e) with
  | some (g,lb)=>if g<rid∧rid≤y then jF (cf g (.yld s.h.length y m (yu nt us s.e)::lb) (s.h++[.loop 0])) fun r=>jF (lQ r.2[s.h.length]?) fun e=>Q e ⟨s.e,r.2.set s.h.length (.loop 2),s.base,s.rb⟩ else False
  | none=>False
def dOk (m:Nat) (ops:List XOper):Bool:=ops.all fun o=>match o.d with
 | some d=>decide (d<m)
 | none=>true
def fI (m:Nat):XC→Bool
 | .reg ops _ _=>dOk m ops
 | .regw ops _=>dOk m ops
 | .regm ops _=>dOk m ops
 | .regr ops _=>dOk m ops
 | .seq a b=>fI m a&&fI m b
 | .cond _ a b=>fI m a&&fI m b
 | .block _ c=>fI m c
 | .loop c=>fI m c
 | .rangeF _ _ _ nt _=>m==nt
 | _=>true
def toS (st:St):SF:=⟨toE st.tm,st.h,st.base,st.rb⟩
theorem uQ (tm:List V) (d:Option Nat) (v:V) (hd:(match d with|some d=>decide (d<tm.length)|none=>true)=true):toE (bH tm d v)=pC (toE tm) d v:=by
 cases d with
 | none=>rfl
 | some d =>
  simp only[dT] at hd;funext t;simp only[toE,bH,pC,upd,List.getD_eq_getElem?_getD,List.getElem?_set];by_cases h:t=d
  ·subst h;simp[hd]
  ·have:¬d=t:=fun e=>h e.symm
   simp[h,this]
theorem q8 (tm:List V) (d:Option Nat) (v:V):(bH tm d v).length=tm.length:=by cases d<;>simp[bH]
theorem qf {cf:av}{o:XOper}{st:St}{k:SF→Prop}(hd:(match o.d with|some d=>decide (d<st.tm.length)|none=>true)=true) (h:wps cf o (toS st) k) :
  ∃st1,aI cf o st=some st1∧st1.tm.length=st.tm.length∧st1.base=st.base∧st1.rb=st.rb∧k (toS st1):=by
 unfold wps at h;split at h
 ·rename_i h1;simp only[toS] at h1;rw[Cn] at h1;split at h
  ·rename_i h2;simp only[toS] at h2;rw[wV] at h2;unfold bw at h;have he:act cf ⟨[],(toS st).h,(toS st).base,(toS st).rb⟩ (o.op.sub (toS st).e)=act cf st o.op:=act_sub (st:=st);rw[he] at h;cases ha:act cf st o.op with
   | none=>rw[ha] at h;exact h.elim
   | some r =>
    rw[ha] at h;obtain⟨v,h'⟩:=r;refine⟨{ st with tm:=bH st.tm o.d v,h:=h' },by simp[aI,h1,h2,ha],q8 _ _ _,rfl,rfl,?_⟩;simp only[dN,toS] at h ⊢;rw[uQ _ _ _ hd];exact h
  ·rename_i h2;simp only[toS] at h2;rw[wV] at h2;refine⟨{ st with tm:=bH st.tm o.d az },by simp[aI,h1,h2],q8 _ _ _,rfl,rfl,?_⟩;simp only[toS] at h ⊢;rw[uQ _ _ _ hd];exact h
 ·exact h.elim
theorem pT {cf:av}:∀{ops:List XOper}{st:St}{k:SF→Prop},dOk st.tm.length ops=true→lj cf ops (toS st) k →
  ∃st1,aC cf ops st=some st1∧st1.tm.length=st.tm.length∧st1.base=st.base∧k (toS st1)
 | [],st,k,_,h=>⟨st,rfl,rfl,rfl,h⟩
 | o::r,st,k,hd,h=>by
  simp only[dOk,List.all_cons,bT] at hd;obtain⟨s1,h1,h2,h3,h4,h5⟩:=qf hd.1 h;obtain⟨s2,k1,k2,k3,k4⟩:=pT (st:=s1) (by rw[h2];exact hd.2) h5;exact⟨s2,by simp[aC,h1,k1],k2.trans h2,k3.trans h3,k4⟩
theorem nJ {cf:av}:∀{ops:List XOper}{st:St}{k:SF→Prop},dOk st.tm.length ops=true→iR cf ops (toS st) k →
  ∃st1,ed st.base false cf ops st=some st1∧st1.tm.length=st.tm.length∧st1.base=st.base∧k (toS st1)
 | [],st,k,_,h=>⟨st,rfl,rfl,rfl,h⟩
 | o::r,st,k,hd,h=>by
  simp only[dOk,List.all_cons,bT] at hd;obtain⟨ho,h⟩:=h;have ho':ir st.base st o.op=true:=by
   rw[← ho];exact (uw (st:=st)).symm
  obtain⟨s1,h1,h2,h3,h4,h5⟩:=qf hd.1 h;obtain⟨s2,k1,k2,k3,k4⟩:=nJ (st:=s1) (by rw[h2];exact hd.2) h5;have h1':aI (aF st.base cf) o st=some s1:=h1;rw[h3] at k1;exact⟨s2,by simp[ed,d8,ho',h1',k1],k2.trans h2,k3.trans h3,k4⟩
theorem mC (tm:List V) (b:Nat) (all:List XOper):∀ops:List XOper,(jR all ops).any (fun x=>gr b (toE tm x))=ops.any fun o=>match o.op,o.d with
  | .mv (.t x),some d=>(match ev tm (.t x) with
   | .ref id _=>decide (b≤id)
   | _=>false)&&pK d all
  | _,_=>false
 | []=>rfl
 | o::r=>by
  have ih:=mC tm b all r;rw[List.any_cons,← ih];obtain⟨d,op,g⟩:=o;cases op with
  | mv x =>
   cases x with
   | t x =>
    cases d with
    | some d =>
     show ((if pK d all then x::jR all r else jR all r).any fun x=>gr b (toE tm x))=(gr b (toE tm x)&&pK d all||(jR all r).any fun x=>gr b (toE tm x));by_cases hd:pK d all=true
     ·rw[if_pos hd,List.any_cons,hd,Bool.and_true]
     ·rw[if_neg hd];have:pK d all=false:=by simpa using hd
      rw[this,Bool.and_false,Bool.false_or]
    | none=>rfl
   | k v=>cases d <;> rfl
  | _=>rfl
theorem dm (st:St):∀(ops:List XOper) (m:Nat),(Dt ops).foldl (fun m i=>io st.base (toE st.tm i) m) m=pM st ops m
 | [],m=>rfl
 | o::r,m=>by
  have key:∀i m,io st.base (toE st.tm i) m=yB st (.t i) m:=fun i m=>by
   simp only[io,yB,toE,List.getD_eq_getElem?_getD];cases st.tm[i]? with
   | none=>rfl
   | some v=>cases v <;> rfl
  unfold Dt pM;obtain⟨d,op,g⟩:=o;cases g with
  | some g=>exact dm st r m
  | none =>
   simp only[Option.isSome_none,Bool.false_eq_true,if_false];cases op with
   | fieldAddr k x =>
    cases x with
    | t i=>rw[List.foldl_cons,key];exact dm st r _
    | k v=>exact dm st r m
   | load k x =>
    cases x with
    | t i=>rw[List.foldl_cons,key];exact dm st r _
    | k v=>exact dm st r m
   | _=>exact dm st r m
theorem Hk (st:St) (ops:List XOper):FG (toS st) ops=thr st ops:=by
 have h1:(jR ops ops).any (fun x=>gr st.base (toE st.tm x))=An st ops:=mC st.tm st.base ops ops;have h2:=dm st ops st.h.length;unfold FG thr;rw[← h1,← h2];rfl
theorem Cj {m:Nat}{st:St}{op:XOp}:ik m { st with tm:=[] } (op.sub (toE st.tm))=ik m st op:=by
 cases op<;>simp only[ik,XOp.sub,eh]
theorem mR {cf:av}{m:Nat}:∀{ops:List XOper}{st:St}{k:SF→Prop},dOk st.tm.length ops=true→d6 (aF m cf) (em m) ops (toS st) k →
  ∃st1,ed m true cf ops st=some st1∧st1.tm.length=st.tm.length∧st1.base=st.base∧k (toS st1)
 | [],st,k,_,h=>⟨st,rfl,rfl,rfl,h⟩
 | o::r,st,k,hd,h=>by
  simp only[dOk,List.all_cons,bT] at hd;obtain⟨ho,h⟩:=h;have ho':(eU true o||ir m st o.op)=true:=by
   have h1:em m (toS st) o=(eU true o||ir m st o.op):=by
    simp only[eU,em,Bool.true_and];exact congrArg (o.g.isSome || ·) (uw (st:=st))
   rw[← h1];exact ho
  obtain⟨s1,h1,h2,h3,h4,h5⟩:=qf hd.1 h;obtain⟨s2,k1,k2,k3,k4⟩:=mR (st:=s1) (by rw[h2];exact hd.2) h5;have h1':aI (aF m cf) o st=some s1:=h1;exact⟨s2,by simp[ed,d8,ho',h1',k1],k2.trans h2,k3.trans h3,k4⟩
theorem nM {cf:av}{m:Nat}:∀{ops:List XOper}{st:St}{k:SF→Prop},dOk st.tm.length ops=true→d6 (eR m cf) (Hq m) ops (toS st) k →
  ∃st1,gt m cf ops st=some st1∧st1.tm.length=st.tm.length∧st1.base=st.base∧k (toS st1)
 | [],st,k,_,h=>⟨st,rfl,rfl,rfl,h⟩
 | o::r,st,k,hd,h=>by
  simp only[dOk,List.all_cons,bT] at hd;obtain⟨ho,h⟩:=h;have ho':ik m st o.op=true:=by
   rw[← ho];exact (Cj (st:=st)).symm
  obtain⟨s1,h1,h2,h3,h4,h5⟩:=qf hd.1 h;obtain⟨s2,k1,k2,k3,k4⟩:=nM (st:=s1) (by rw[h2];exact hd.2) h5;have h1':aI (eR m cf) o st=some s1:=h1;exact⟨s2,by simp[gt,ee,ho',h1',k1],k2.trans h2,k3.trans h3,k4⟩
theorem wz {cf:av}{n:Nat}:∀(c:XC){st:St}{Q:Ex→SF→Prop},fI st.tm.length c=true→wpx cf n c (toS st) Q →
  ∃e st1,aK cf n c st=some (e,st1)∧st1.tm.length=st.tm.length∧st1.base=st.base∧Q e (toS st1):=by
 intro c
 induction c with
 | skip=>intro st Q _ h;exact⟨_,st,rfl,rfl,rfl,h⟩
 | reg ops pre d =>
  intro st Q hd h;obtain⟨s1,h1,h2,h3,h4⟩:=pT (st:={ st with h:=st.h++pre,rb:=st.h.length }) hd h;exact⟨_,s1,by simp only[aK,h1,Option.map_some],h2,h3,h4⟩
 | regw ops pre =>
  intro st Q hd h;obtain⟨s1,h1,h2,h3,h4⟩:=nJ (st:={ st with h:=st.h++pre,rb:=st.h.length }) hd h;exact⟨_,s1,by simp only[aK];rw[show ed st.base false cf ops { st with h:=st.h++pre,rb:=st.h.length }=some s1 from h1];rfl,h2,h3,h4⟩
 | regr ops pre =>
  intro st Q hd h;obtain⟨s1,h1,h2,h3,h4⟩:=nM (m:=min st.base st.h.length) (st:={ st with h:=st.h++pre,rb:=st.h.length }) hd h;exact⟨_,s1,by simp only[aK];rw[h1];rfl,h2,h3,h4⟩
 | regm ops pre =>
  intro st Q hd h;have h':d6 (aF (thr st ops) cf) (em (thr st ops)) ops (toS { st with h:=st.h++pre,rb:=st.h.length }) (Q .normal):=by
   rw[← Hk];exact h
  obtain⟨s1,h1,h2,h3,h4⟩:=mR (st:={ st with h:=st.h++pre,rb:=st.h.length }) hd h';exact⟨_,s1,by simp only[aK];rw[h1];rfl,h2,h3,h4⟩
 | seq a b iha ihb =>
  intro st Q hd h;simp only[fI,bT] at hd;obtain⟨e,s1,h1,h2,h3,h4⟩:=iha hd.1 h;cases e with
  | normal =>
   obtain⟨e2,s2,k1,k2,k3,k4⟩:=ihb (st:=s1) (by rw[h2];exact hd.2) h4;exact⟨e2,s2,by simp[aK,h1,k1],k2.trans h2,k3.trans h3,k4⟩
  | exit id=>exact⟨_,s1,by simp[aK,h1],h2,h3,h4⟩
  | ret=>exact⟨_,s1,by simp[aK,h1],h2,h3,h4⟩
 | cond c a b iha ihb =>
  intro st Q hd h;simp only[fI,bT] at hd;have he:c.val (toS st).e=ev st.tm c:=by cases c<;>rfl
  unfold wpx nK at h;rw[he] at h;split at h
  ·rename_i t ht;split at h
   ·rename_i htt;obtain⟨e,s1,h1,h2⟩:=iha hd.1 h;exact⟨e,s1,by simp[aK,ht,htt,h1],h2⟩
   ·rename_i htt;obtain⟨e,s1,h1,h2⟩:=ihb hd.2 h;exact⟨e,s1,by simp[aK,ht,htt,h1],h2⟩
  ·exact h.elim
 | block id c ih =>
  intro st Q hd h;obtain⟨e,s1,h1,h2,h3,h4⟩:=ih hd h;cases e with
  | normal=>exact⟨_,s1,by simp[aK,h1],h2,h3,h4⟩
  | ret=>exact⟨_,s1,by simp[aK,h1],h2,h3,h4⟩
  | exit id' =>
   simp only at h4;split at h4
   ·rename_i hid;exact⟨_,s1,by simp[aK,h1,hid],h2,h3,h4⟩
   ·rename_i hid;exact⟨_,s1,by simp[aK,h1,hid],h2,h3,h4⟩
 | loop c ih =>
  intro st Q hd h;have key:∀k (st:St),fI st.tm.length c=true→dE (wpx cf n c) k (toS st) Q→∃e st1,iq (aK cf n c) k st=some (e,st1)∧st1.tm.length=st.tm.length∧st1.base=st.base∧Q e (toS st1):=by
   intro k
   induction k with
   | zero=>intro st _ h;exact h.elim
   | succ k ihk =>
    intro st hd h;obtain⟨e,s1,h1,h2,h3,h4⟩:=ih hd h;cases e with
    | normal =>
     obtain⟨e2,s2,k1,k2,k3,k4⟩:=ihk s1 (by rw[h2];exact hd) h4;exact⟨e2,s2,by simp[iq,h1,k1],k2.trans h2,k3.trans h3,k4⟩
    | exit id=>exact⟨_,s1,by simp[iq,h1],h2,h3,h4⟩
    | ret=>exact⟨_,s1,by simp[iq,h1],h2,h3,h4⟩
  exact key n st hd h
 | exit id=>intro st Q _ h;exact⟨_,st,rfl,rfl,rfl,h⟩
 | ret=>intro st Q _ h;exact⟨_,st,rfl,rfl,rfl,h⟩
 | rangeF f y m nt us =>
  intro st Q hd h;have he:f.val (toS st).e=ev st.tm f:=by cases f<;>rfl
  have hk:yu nt us (toS st).e=lO nt us st.tm:=rfl;have hd':st.tm.length=nt:=by simpa[fI] using hd
  unfold wpx at h;rw[he,hk] at h;split at h
  ·rename_i g lb hcal;split at h
   ·rename_i hlt;cases hcf:cf g (.yld (toS st).h.length y m (lO nt us st.tm)::lb) ((toS st).h++[.loop 0]) with
    | none=>rw[hcf] at h;exact h.elim
    | some r =>
     rw[hcf] at h;obtain⟨r,h'⟩:=r;simp only[dN] at h;cases hle:lQ h'[(toS st).h.length]? with
     | none=>rw[hle] at h;exact h.elim
     | some e =>
      rw[hle] at h;simp only[dN] at h;obtain⟨s,hs,hn⟩:∃s,h'[(toS st).h.length]?=some (.loop s)∧Ex.ofNum s=some e:=by
       unfold lQ at hle;split at hle
       ·rename_i s hs;exact⟨s,hs,hle⟩
       ·cases hle
      refine⟨e,{ st with h:=h'.set st.h.length (.loop 2) },?_,rfl,rfl,h⟩;have hcf':cf g (.yld st.h.length y m (lO nt us st.tm)::lb) (st.h++[.loop 0])=some (r,h'):=hcf;have hs':h'[st.h.length]?=some (.loop s):=hs;simp only[aK,hcal];rw[if_pos ⟨hlt.1,hlt.2,hd'⟩,hcf'];simp only[hs',hn,Option.map_some]
   ·exact h.elim
  ·exact h.elim
theorem jO {f:SF→(Ex→SF→Prop)→Prop}{Q:Ex→SF→Prop}(I:Nat→SF→Prop) (hf:∀s Q Q',(∀e s,Q e s→Q' e s)→f s Q→f s Q')
  (hI:∀k s,I k s→f s fun e s'=>match e with|.normal=>∃k',k'<k∧I k' s'|e=>Q e s'):∀(n k:Nat) (s:SF),k<n→I k s→dE f n s Q
 | 0,k,s,hk,_=>by omega
 | n+1,k,s,hk,h=>by
  refine hf _ _ _ ?_ (hI k s h);intro e s' h';cases e with
  | normal =>
   obtain⟨k',hk',h2⟩:=h';exact jO I hf hI n k' s' (by omega) h2
  | exit id=>exact h'
  | ret=>exact h'
theorem cn {α:Type}{o:Option α}{k k':α→Prop}(hk:∀a,k a→k' a) (h:jF o k):jF o k':=by
 cases o with
 | none=>exact h
 | some a=>exact hk a h
theorem gV {cf:av}{o:XOper}{s:SF}{k k':SF→Prop}(hk:∀s,k s→k' s) (h:wps cf o s k):wps cf o s k':=by
 unfold wps at h ⊢;split at h
 ·rename_i h1;rw[if_pos h1];split at h
  ·rename_i h2;rw[if_pos h2];exact cn (fun r hr=>hk _ hr) h
  ·rename_i h2;rw[if_neg h2];exact hk _ h
 ·exact h.elim
theorem jH {cf:av}:∀{ops:List XOper}{s:SF}{k k':SF→Prop},(∀s,k s→k' s)→lj cf ops s k→lj cf ops s k'
 | [],s,k,k',hk,h=>hk s h
 | o::r,s,k,k',hk,h=>gV (fun s h=>jH hk h) h
theorem gM {cf:av}:∀{ops:List XOper}{s:SF}{k k':SF→Prop},(∀s,k s→k' s)→iR cf ops s k→iR cf ops s k'
 | [],s,k,k',hk,h=>hk s h
 | o::r,s,k,k',hk,h=>⟨h.1,gV (fun s h=>gM hk h) h.2⟩
theorem eI {cf:av}{p:SF→XOper→Bool}:∀{ops:List XOper}{s:SF}{k k':SF→Prop},(∀s,k s→k' s)→d6 cf p ops s k→d6 cf p ops s k'
 | [],s,k,k',hk,h=>hk s h
 | o::r,s,k,k',hk,h=>⟨h.1,gV (fun s h=>eI hk h) h.2⟩
theorem dt {cf:av}{n:Nat}:∀(c:XC){s:SF}{Q Q':Ex→SF→Prop},(∀e s,Q e s→Q' e s)→wpx cf n c s Q→wpx cf n c s Q':=by
 intro c
 induction c with
 | skip=>intro s Q Q' hQ h;exact hQ _ _ h
 | reg ops pre d=>intro s Q Q' hQ h;exact jH (fun s h=>hQ _ _ h) h
 | regw ops pre=>intro s Q Q' hQ h;exact gM (fun s h=>hQ _ _ h) h
 | regr ops pre=>intro s Q Q' hQ h;exact eI (fun s h=>hQ _ _ h) h
 | regm ops pre=>intro s Q Q' hQ h;exact eI (fun s h=>hQ _ _ h) h
 | seq a b iha ihb =>
  intro s Q Q' hQ h;refine iha (fun e s h=>?_) h;cases e with
  | normal=>exact ihb hQ h
  | exit id=>exact hQ _ _ h
  | ret=>exact hQ _ _ h
 | cond c a b iha ihb =>
  intro s Q Q' hQ h;unfold wpx nK at h ⊢;split at h
  ·split at h
   ·rename_i t ht htt;simp only[htt,if_true];exact iha hQ h
   ·rename_i t ht htt;simp only[htt];exact ihb hQ h
  ·exact h.elim
 | block id c ih =>
  intro s Q Q' hQ h;refine ih (fun e s h=>?_) h;cases e with
  | normal=>exact hQ _ _ h
  | ret=>exact hQ _ _ h
  | exit id' =>
   simp only at h ⊢;split at h
   ·rename_i hid;rw[if_pos hid];exact hQ _ _ h
   ·rename_i hid;rw[if_neg hid];exact hQ _ _ h
 | loop c ih =>
  intro s Q Q' hQ h;have key:∀k (s:SF),dE (wpx cf n c) k s Q→dE (wpx cf n c) k s Q':=by
   intro k
   induction k with
   | zero=>intro s h;exact h
   | succ k ihk =>
    intro s h;refine ih (fun e s h=>?_) h;cases e with
    | normal=>exact ihk s h
    | exit id=>exact hQ _ _ h
    | ret=>exact hQ _ _ h
  exact key n s h
 | exit id=>intro s Q Q' hQ h;exact hQ _ _ h
 | ret=>intro s Q Q' hQ h;exact hQ _ _ h
 | rangeF f y m nt us =>
  intro s Q Q' hQ h;unfold wpx at h ⊢;split at h
  ·split at h
   ·rename_i hlt;simp only[if_pos hlt];exact cn (fun r hr=>cn (fun e he=>hQ _ _ he) hr) h
   ·exact h.elim
  ·exact h.elim
theorem xK {cf:av}{n:Nat}{c:XC}{s:SF}{Q:Ex→SF→Prop}(I:Nat→SF→Prop) (k:Nat) (hk:k<n) (h0:I k s)
  (hI:∀k s,I k s→wpx cf n c s fun e s'=>match e with|.normal=>∃k',k'<k∧I k' s'|e=>Q e s'):wpx cf n (.loop c) s Q :=
 jO (f:=wpx cf n c) I (fun s Q Q' h hw=>dt c h hw) hI n k s hk h0
theorem zK {cf:av}{n:Nat}{c:XC}{s:SF}{Q:Ex→SF→Prop}(I:Nat→SF→Prop) (k:Nat) (hk:k<n) (h0:I k s)
  (hI:∀k s,I k s→wpx cf n c s fun e s'=>match e with|.normal=>∃k',k'<k∧I k' s'|e=>Q e s'):dE (wpx cf n c) n s Q:=xK I k hk h0 hI
def xF (s:SF):XR→Option V
 | .t i=>some (s.e i)
 | .cell i n=>match s.e i with
  | .ref id o=>match s.h[id]? with
   | some (.cells cs)=>rdV cs o n
   | _=>none
  | _=>none
def fX (s:SF):List XR→Option (List V)
 | []=>some []
 | r::rs=>match xF s r,fX s rs with
  | some v,some vs=>some (v::vs)
  | _,_=>none
def rOk (m:Nat):XR→Bool
 | .t i=>decide (i<m)
 | .cell i _=>decide (i<m)
theorem B7 {st:St}{rs:List XR}(hr:rs.all (rOk st.tm.length)=true):cE st rs=fX (toS st) rs:=by
 induction rs with
 | nil=>rfl
 | cons r rs ih =>
  simp only[List.all_cons,bT] at hr;have e:xI st r=xF (toS st) r:=by
   cases r with
   | t i =>
    have hi:i<st.tm.length:=by simpa[rOk] using hr.1
    simp[xI,xF,toS,toE,gE hi]
   | cell i n =>
    have hi:i<st.tm.length:=by simpa[rOk] using hr.1
    simp only[xI,xF,toS,toE,List.getD_eq_getElem?_getD,gE hi,Option.getD_some];generalize st.tm[i]=v;cases v<;>rfl
  simp only[cE,fX,e,ih hr.2];cases xF (toS st) r<;>cases fX (toS st) rs<;>rfl
def dR (args:List V):Nat→V:=fun i=>args.getD i az
theorem v6 (xf:XF) (args:List V) (h:List O):toS (cB xf args h)=⟨dR args,h,h.length,0⟩:=by
 simp only[toS,cB];congr 1;funext i;simp only[toE,dR,List.getD_eq_getElem?_getD,List.getElem?_append,List.getElem?_replicate];split
 ·rfl
 ·rename_i hi;rw[List.getElem?_eq_none (by omega)];split<;>rfl
def sH (xf:XF) (k:Nat):Bool:=decide (k≤xf.ntm)&&fI xf.ntm xf.body&&xf.res.all (rOk xf.ntm)
def Fin (P:List V→List O→Prop) (xf:XF):Ex→SF→Prop
 | .exit _,_=>False
 | _,s=>jF (fX s xf.res) fun vs=>P vs s.h
theorem fk {cf:av}{n:Nat}{xf:XF}{args:List V}{h:List O}(hx:sH xf args.length=true){P:List V→List O→Prop}(hw:wpx cf n xf.body ⟨dR args,h,h.length,0⟩ (Fin P xf)) :
  ∃e s vs,aK cf n xf.body (cB xf args h)=some (e,s)∧(∀id,e≠.exit id)∧cE s xf.res=some vs∧s.base=h.length∧P vs s.h:=by
 simp only[sH,bT,dT] at hx;have hl:(cB xf args h).tm.length=xf.ntm:=by simp[cB];omega
 rw[← v6 xf args h] at hw;obtain⟨e,s,h1,h2,h3,h4⟩:=wz xf.body (st:=cB xf args h) (by rw[hl];exact hx.1.2) hw;have hr:=B7 (st:=s) (rs:=xf.res) (by rw[h2,hl];exact hx.2);cases e with
 | exit id=>exact h4.elim
 | normal =>
  simp only[Fin] at h4;cases hv:fX (toS s) xf.res with
  | none=>rw[hv] at h4;exact h4.elim
  | some vs=>rw[hv] at h4;exact⟨_,s,vs,h1,by simp,by rw[hr,hv],h3,h4⟩
 | ret =>
  simp only[Fin] at h4;cases hv:fX (toS s) xf.res with
  | none=>rw[hv] at h4;exact h4.elim
  | some vs=>rw[hv] at h4;exact⟨_,s,vs,h1,by simp,by rw[hr,hv],h3,h4⟩
theorem tU {cf:av}{n:Nat}{xf:XF}{args:List V}{h:List O}{r:V}(hx:sH xf args.length=true) (hp:xf.pure=true) (he:xf.esc=false) (hl:V.lows 0 (args.map V.vw2)=true)
  (hw:wpx cf n xf.body ⟨dR (args.map V.vw2),[],0,0⟩ (Fin (fun vs _=>(bk vs).vw=r∧r.low 0=true) xf)):fE cf n xf args h=some (r,h):=by
 have:=fk (cf:=cf) (n:=n) (xf:=xf) (args:=args.map V.vw2) (h:=[]) (by simpa using hx) hw;obtain⟨e,s,vs,h1,h2,h3,h4,h5,h6⟩:=this;unfold fE;rw[if_pos hp,if_pos hl,if_neg (by simp[he]),h1];simp only[List.length_nil] at h4;cases e with
 | exit id=>exact absurd rfl (h2 id)
 | normal=>simp[fin,h3,h5,h6,h4]
 | ret=>simp[fin,h3,h5,h6,h4]
theorem fg {cf:av}{n:Nat}{xf:XF}{args:List V}{h h':List O}{r:V}(hx:sH xf args.length=true) (hp:xf.pure=false) (he:xf.esc=false)
  (hw:wpx cf n xf.body ⟨dR (args.map V.vw2),h,h.length,0⟩ (Fin (fun vs s=>(bk vs).vw=r∧r.low h.length=true∧s.take h.length=h'∧h'.all (O.low h.length)=true) xf)):fE cf n xf args h=some (r,h'):=by
 have:=fk (cf:=cf) (n:=n) (xf:=xf) (args:=args.map V.vw2) (h:=h) (by simpa using hx) hw;obtain⟨e,s,vs,h1,h2,h3,h4,h5,h6,h7,h8⟩:=this;unfold fE;rw[if_neg (by simp[hp]),if_neg (show ¬xf.esc=true by simp[he]),h1];cases e with
 | exit id=>exact absurd rfl (h2 id)
 | normal =>
  subst h7;simp only[fin,h3,he,Bool.false_eq_true,if_false,h5,h4,h6,if_true];rw[if_pos h8]
 | ret =>
  subst h7;simp only[fin,h3,he,Bool.false_eq_true,if_false,h5,h4,h6,if_true];rw[if_pos h8]
theorem xP {cf:av}{n:Nat}{ps:List Nat}{asg body:XC}{k:Nat}{vs caps tm:List V}{h h':List O}{b:Bool}(hp:eZ ps vs caps=some tm) (ha:fI tm.length asg=true) (hb:fI tm.length body=true)
  (hw:wpx cf n asg ⟨toE tm,h,h.length,0⟩ fun e s=>e=.normal∧s.h[k]?=some (.loop 0)∧wpx cf n body ⟨s.e,s.h.set k (.loop 1),s.base,s.rb⟩ fun e s =>
   s.h[k]?=some (.loop 1)∧(s.h.set k (.loop e.num)).take h.length=h'∧(h'.all (O.low h.length))=true∧(e.num==0)=b):cN cf n ps asg body k vs caps h=some (.c (.bool b),h'):=by
 obtain⟨e,s1,h1,h2,h3,rfl,h5,h6⟩:=wz asg (st:={ tm:=tm,h:=h,base:=h.length,rb:=0 }) ha hw;obtain⟨e2,s2,k1,k2,k3,k4,k5,k6,k7⟩:=wz body (st:={ s1 with h:=s1.h.set k (.loop 1) }) (by simp only;rw[h2];exact hb) h6;have h5':s1.h[k]?=some (.loop 0):=h5;have k4':s2.h[k]?=some (.loop 1):=k4;have k5':(s2.h.set k (.loop e2.num)).take h.length=h':=k5;unfold cN;simp only[hp,h1,h5',k1,k4',k5',k6,k7,if_true]
theorem au (e:Nat→V) (d:Nat) (v:V) (t:Nat):upd e d v t=if t=d then v else e t:=rfl
theorem CO (args:List V) (i:Nat):dR args i=args.getD i az:=rfl
theorem vv (cs:List V):V.cells (.agg cs)=cs:=rfl
theorem CV (x:Value):V.cells (.c x)=[.c x]:=rfl
theorem zB (us:List V) (i:SI):V.cells (.sl us i)=[.sl us i]:=rfl
theorem wm (i o n:Nat) (z:Option Nat):V.cells (.row i o n z)=[.row i o n z]:=rfl
theorem Cm (a:V) (cs:List V) (o:Nat):rdV (a::cs) o none=(a::cs)[o]?:=rfl
theorem B5 (a:V) (cs:List V) (o n:Nat):rdV (a::cs) o (some n)=if o+n≤(a::cs).length then some (.agg (((a::cs).drop o).take n)) else none:=rfl
theorem Dq (cs:List V):okc (.agg cs)=true:=rfl
theorem DL (us:List V) (i:SI):okc (.sl us i)=true:=rfl
theorem BU (i o n:Nat) (z:Option Nat):okc (.row i o n z)=true:=rfl
theorem Bk (k:IntKind) (n:Int):okc (.c (.int k n))=true:=rfl
theorem xW (b:Bool):okc (.c (.bool b))=true:=rfl
theorem Db (s:ByteArray):okc (.c (.string s))=true:=rfl
theorem G2 (x:Value):(V.c x).vw1=.c x:=rfl
theorem DH (us:List V) (i:SI):(V.sl us i).vw1=.sl us .any:=rfl
theorem Cs (x:Value):(V.c x).vw2=.c x:=rfl
theorem aM (us:List V) (i:SI):(V.sl us i).vw2=.sl us .any:=rfl
theorem uD (cs:List V):(V.agg cs).vw2=.agg (cs.map V.vw1):=rfl
theorem Bw (i o:Nat):(V.ref i o).vw2=.ref i o:=rfl
theorem da (i o n:Nat) (z:Option Nat):(V.row i o n z).vw2=.row i o n z:=rfl
theorem HO (x:Value):(V.c x).vw=.c x:=rfl
theorem CM (us:List V):(V.sl us .full).vw=.sl us .full:=rfl
theorem Ed (us:List V):(V.sl us .any).vw=.sl us .any:=rfl
theorem FA (us:List V):(V.sl us .nil).vw=.sl us .nil:=rfl
theorem EG (cs:List V):(V.agg cs).vw=.agg (cs.map V.vw1):=rfl
theorem EK (vs:List V):(V.tup vs).vw=.tup (vs.map V.vw2):=rfl
theorem BN (v:V):bk [v]=v:=rfl
theorem Dh (a b:V) (l:List V):bk (a::b::l)=.tup (a::b::l):=rfl
theorem Gg (m:Nat) (x:Value):V.low m (.c x)=true:=by simp[V.low]
theorem bL (q:Nat):aT (.c (.func (.func q) #[] #[]))=some (q,[]):=by simp[aT]
theorem kg (q:Nat) (cs:List V):aT (.clo q cs)=some (q,cs):=rfl
theorem p7 (op:BinOp) (k:IntKind) (a b:Int):ec op 0 (.c (.int k a)) (.c (.int k b))=fW op k a b:=by simp[ec]
theorem yn (op:BinOp) (a b:ByteArray):ec op 0 (.c (.string a)) (.c (.string b))=yD op a b:=rfl
theorem zu (n:Nat):((n:Int)==0)=(n==0):=by
 cases n<;>rfl
def CU (t:ByteArray):Bool:=t.toList==ByteArray.toList ⟨#[]⟩
theorem zI (t:ByteArray):yD .eql t ⟨#[]⟩=some (.c (.bool (CU t))):=rfl
theorem bi (e:Nat→V) (tm:List V) (x:A):ev tm (x.sub e)=x.val e:=by cases x<;>rfl
theorem o5 (e:Nat→V) (tm:List V) (xs:List A):(xs.map (A.sub e)).map (ev tm)=xs.map (A.val e):=by
 rw[List.map_map];exact List.map_congr_left fun x _=>bi e tm x
def xu (e:Nat→V):List V→List (Nat × Nat × A)→Option (List V)
 | z,[]=>some z
 | z,(o,n,x)::r=>if okc (x.val e).vwf=true∧(x.val e).vwf.cells.length=n∧o+n≤z.length then xu e (bF z o (x.val e).vwf.cells) r else none
theorem re (e:Nat→V) (tm:List V):∀(ps:List (Nat × Nat × A)) (z:List V),fQ z tm (ps.map fun p=>(p.1,p.2.1,p.2.2.sub e))=xu e z ps
 | [],z=>rfl
 | (o,n,x)::r,z=>by
  simp only[List.map_cons,fQ,bi,xu];split
  ·exact re e tm r _
  ·rfl
def rQ (e:Nat→V) (d:Int):Option A→Option Int
 | none=>some d
 | some x=>idx (x.val e)
theorem qk (e:Nat→V) (tm:List V) (d:Int) (x:Option A):bc tm d (x.map (A.sub e))=rQ e d x:=by
 cases x with
 | none=>rfl
 | some x=>simp only[Option.map_some,bc,rQ,bi]
abbrev R2:=Option (V × List O)
def Cu:V→V→V→List O→R2
 | .c (.bool t),a,b,h=>some (if t=true then a else b,h)
 | _,_,_,_=>none
theorem Cw (t:Bool) (a b:V) (h:List O):Cu (.c (.bool t)) a b h=some (if t=true then a else b,h):=rfl
def F0:Option O→Bool→V × List O→R2
 | some .dead,true,r=>some r
 | _,_,_=>none
theorem s9 (r:V × List O):F0 (some .dead) true r=some r:=rfl
def CK:Option O→Nat→Option Nat→List O→R2
 | some (.cells cs),o,n,h=>(rdV cs o n).map fun v=>(v,h)
 | _,_,_,_=>none
theorem pD (cs:List V) (o:Nat) (n:Option Nat) (h:List O):CK (some (.cells cs)) o n h=(rdV cs o n).map fun v=>(v,h):=rfl
def zY:V→Option Nat→List O→R2
 | .ref id o,n,h=>CK h[id]? o n h
 | .ptr cs o,n,h=>(rdV cs o n).map fun v=>(v,h)
 | _,_,_=>none
theorem mf (id o:Nat) (n:Option Nat) (h:List O):zY (.ref id o) n h=CK h[id]? o n h:=rfl
theorem wb (cs:List V) (o:Nat) (n:Option Nat) (h:List O):zY (.ptr cs o) n h=(rdV cs o n).map fun v=>(v,h):=rfl
def xh:Option O→Nat→Nat→Nat→V→List O→R2
 | some (.cells cs),id,o,n,v,h=>if okc v=true∧v.cells.length=n∧o+n≤cs.length then some (az,h.set id (.cells (bF cs o v.cells))) else none
 | _,_,_,_,_,_=>none
theorem il (cs:List V) (id o n:Nat) (v:V) (h:List O):xh (some (.cells cs)) id o n v h=if okc v=true∧v.cells.length=n∧o+n≤cs.length then some (az,h.set id (.cells (bF cs o v.cells))) else none:=rfl
def AN:Option O→Nat→Nat→Nat→Nat→V→List O→R2
 | some (.tokc m' z cs),k,m,o,n,v,h=>if m'=m∧okc v=true∧v.cells.length=n∧o+n≤cs.length then some (az,h.set k (.tokc m z (bF cs o v.cells))) else none
 | _,_,_,_,_,_,_=>none
def nY:V→Nat→V→List O→R2
 | .ref id o,n,v,h=>xh h[id]? id o n v h
 | .tref k m o,n,v,h=>AN h[k]? k m o n v h
 | _,_,_,_=>none
theorem ja (k m o n:Nat) (v:V) (h:List O):nY (.tref k m o) n v h=AN h[k]? k m o n v h:=rfl
theorem gB (id o n:Nat) (v:V) (h:List O):nY (.ref id o) n v h=xh h[id]? id o n v h:=rfl
def Hr:V→List O→R2
 | .c (.bool b),h=>some (.c (.bool !b),h)
 | _,_=>none
theorem Fl (b:Bool) (h:List O):Hr (.c (.bool b)) h=some (.c (.bool !b),h):=rfl
def HA:V→List O→R2
 | .c (.int k n),h=>some (.c (.int k (k.wrap (0-n))),h)
 | _,_=>none
theorem D2 (k:IntKind) (n:Int) (h:List O):HA (.c (.int k n)) h=some (.c (.int k (k.wrap (0-n))),h):=rfl
def faF:Nat→V→List O→R2
 | o,.ref id p,h=>some (.ref id (p+o),h)
 | o,.ptr cs p,h=>some (.ptr cs (p+o),h)
 | o,.tref k n p,h=>some (.tref k n (p+o),h)
 | _,_,_=>none
theorem Dg (o id p:Nat) (h:List O):faF o (.ref id p) h=some (.ref id (p+o),h):=rfl
theorem BK (o:Nat) (cs:List V) (p:Nat) (h:List O):faF o (.ptr cs p) h=some (.ptr cs (p+o),h):=rfl
def wM:Nat→Option Nat→V→List O→R2
 | o,n,.agg cs,h=>(rdV cs o n).map fun v=>(v,h)
 | _,_,_,_=>none
theorem rW (o:Nat) (n:Option Nat) (cs:List V) (h:List O):wM o n (.agg cs) h=(rdV cs o n).map fun v=>(v,h):=rfl
def elF:Nat→Option V→List O→R2
 | z,some u,h=>if u.cells.length=z then some (.ptr u.cells 0,h) else none
 | _,none,_=>none
theorem zi (z:Nat) (u:V) (h:List O):elF z (some u) h=if u.cells.length=z then some (.ptr u.cells 0,h) else none:=rfl
def iaF:Nat→V→Option Int→List O→R2
 | z,.sl us _,some n,h=>if 0≤n∧n<us.length then elF z us[n.toNat]? h else none
 | z,.row id off n zz,some k,h=>if 0≤k∧k<n∧zc zz=z then some (.ref id (off+k.toNat*z),h) else none
 | z,.tsl t n zz,some k,h=>if 0≤k∧k<n∧zc zz=z then some (.tref t n (k.toNat*z),h) else none
 | _,_,_,_=>none
theorem Az (z:Nat) (us:List V) (i:SI) (n:Int) (h:List O):iaF z (.sl us i) (some n) h=if 0≤n∧n<us.length then elF z us[n.toNat]? h else none:=rfl
theorem wZ (z t n:Nat) (zz:Option Nat) (k:Int) (h:List O):iaF z (.tsl t n zz) (some k) h=if 0≤k∧k<n∧zc zz=z then some (.tref t n (k.toNat*z),h) else none:=rfl
theorem xl (z id off n:Nat) (zz:Option Nat) (k:Int) (h:List O):iaF z (.row id off n zz) (some k) h=if 0≤k∧k<n∧zc zz=z then some (.ref id (off+k.toNat*z),h) else none:=rfl
def ixF:V→Option Int→List O→R2
 | .c (.string t),some n,h=>if 0≤n then (t[n.toNat]?).map fun b=>(.c (.int .u8 b.toNat),h) else none
 | _,_,_=>none
theorem EH (t:ByteArray) (n:Int) (h:List O):ixF (.c (.string t)) (some n) h=if 0≤n then (t[n.toNat]?).map fun b=>(.c (.int .u8 b.toNat),h) else none:=rfl
def ssF:V→(ByteArray→Option V)→List O→R2
 | .c (.string t),f,h=>(f t).map fun v=>(v,h)
 | _,_,_=>none
theorem DU (t:ByteArray) (f:ByteArray→Option V) (h:List O):ssF (.c (.string t)) f h=(f t).map fun v=>(v,h):=rfl
def Hv:ByteArray→Option Int→Option Int→Option V
 | s,some l,some h=>if 0≤l∧l≤h∧h≤s.size then some (.c (.string (s.extract l.toNat h.toNat))) else none
 | _,_,_=>none
theorem Et (s:ByteArray) (l h:Int):Hv s (some l) (some h)=if 0≤l∧l≤h∧h≤s.size then some (.c (.string (s.extract l.toNat h.toNat))) else none:=rfl
def G6:List V→Nat→Option Int→Option Int→Option V
 | us,z,some l,some h=>if 0≤l∧l≤h∧h≤us.length∧hz z us=true then some (.sl ((us.take h.toNat).drop l.toNat) .any) else none
 | _,_,_,_=>none
theorem EW (us:List V) (z:Nat) (l h:Int):G6 us z (some l) (some h)=if 0≤l∧l≤h∧h≤us.length∧hz z us=true then some (.sl ((us.take h.toNat).drop l.toNat) .any) else none:=rfl
def Gj:Nat→Nat→Nat→Option Nat→Nat→Option Int→Option Int→Option V
 | id,off,n,zz,z,some l,some h=>if zc zz=z then if 0≤l∧l≤h∧h≤n then some (.row id (off+l.toNat*z) (h.toNat-l.toNat) zz) else none else none
 | _,_,_,_,_,_,_=>none
def slF:V→Nat→(Int→Option Int)→Option Int→List O→R2
 | .sl us _,z,hi,lo,h=>(G6 us z lo (hi us.length)).map fun v=>(v,h)
 | .row id off n zz,z,hi,lo,h=>(Gj id off n zz z lo (hi n)).map fun v=>(v,h)
 | _,_,_,_,_=>none
theorem Am (us:List V) (i:SI) (z:Nat) (hi:Int→Option Int) (lo:Option Int) (h:List O):slF (.sl us i) z hi lo h=(G6 us z lo (hi us.length)).map fun v=>(v,h):=rfl
theorem wj (id off n:Nat) (zz:Option Nat) (z:Nat) (hi:Int→Option Int) (lo:Option Int) (h:List O):slF (.row id off n zz) z hi lo h=(Gj id off n zz z lo (hi n)).map fun v=>(v,h):=rfl
def Gr:V→Nat→List O→R2
 | .tup vs,i,h=>(vs[i]?).map fun v=>(v,h)
 | _,_,_=>none
theorem DI (vs:List V) (i:Nat) (h:List O):Gr (.tup vs) i h=(vs[i]?).map fun v=>(v,h):=rfl
def Dz:V→List O→R2
 | .sl us _,h=>some (.c (.int .i64 us.length),h)
 | .row _ _ n _,h=>some (.c (.int .i64 n),h)
 | .tsl _ n _,h=>some (.c (.int .i64 n),h)
 | _,_=>none
theorem BQ (us:List V) (i:SI) (h:List O):Dz (.sl us i) h=some (.c (.int .i64 us.length),h):=rfl
theorem zj (id off n:Nat) (zz:Option Nat) (h:List O):Dz (.row id off n zz) h=some (.c (.int .i64 n),h):=rfl
def Hd:V→List O→R2
 | .c (.string t),h=>some (.c (.int .i64 t.size),h)
 | _,_=>none
theorem En (t:ByteArray) (h:List O):Hd (.c (.string t)) h=some (.c (.int .i64 t.size),h):=rfl
def iu (sb al b:Nat) (z:Option Nat) (rw:Bool) (h:List O) (us:List V):SI→List V→R2
 | i,[]=>some (.sl us i,h)
 | .nil,ws=>match h[al]? with
  | some .dead=>if rw then some (.tsl al (us.length+ws.length) z,h.set al (.tokc (us.length+ws.length) (zc z) (aG (us++ws)))) else some (.sl (us++ws) (.tok al),h.set al (.tok (us.length+ws.length) (zc z)))
  | some .want=>if rw then none else some (.sl (us++ws) (.tok (bp h sb al)),h.set (bp h sb al) (.tok (us.length+ws.length) (zc z)))
  | _=>none
 | .full,ws=>match h[al]? with
  | some .dead=>if rw then (match us with
    | []=>some (.row al 0 (us.length+ws.length) z,h.set al (.cells (aG (us++ws))))
    | _::_=>some (.tsl al (us.length+ws.length) z,h.set al (.tokc (us.length+ws.length) (zc z) (aG (us++ws))))) else some (.sl (us++ws) (.tok al),h.set al (.tok (us.length+ws.length) (zc z)))
  | some .want=>if rw then none else some (.sl (us++ws) (.tok (bp h sb al)),h.set (bp h sb al) (.tok (us.length+ws.length) (zc z)))
  | _=>none
 | .tok k,ws=>match h[k]? with
  | some (.tok n z')=>if n=us.length∧z'=zc z then some (.sl (us++ws) (.tok k),h.set k (.tok (us.length+ws.length) (zc z))) else none
  | _=>none
 | _,_=>none
def D6 (k n:Nat) (z:Option Nat) (h:List O):List V→R2
 | []=>some (.tsl k n z,h)
 | ws=>match h[k]? with
  | some (.tokc m zz cs)=>if m=n∧zz=zc z then some (.tsl k (n+ws.length) z,h.set k (.tokc (n+ws.length) (zc z) (cs++aG ws))) else none
  | _=>none
def FP (sb al b:Nat) (z:Option Nat) (rw:Bool) (h:List O):V→Option (List V)→R2
 | .tsl k n zz,some ws=>if rw=true∧zz=z∧(n+ws.length)*b≤140737488355328∧n+ws.length≤140737488355328∧hz (zc z) ws=true then D6 k n z h ws else none
 | .sl us i,some ws=>if (us.length+ws.length)*b≤140737488355328∧us.length+ws.length≤140737488355328∧hz (zc z) us=true∧hz (zc z) ws=true then iu sb al b z rw h us i ws else none
 | _,_=>none
theorem tH (sb al b:Nat) (z:Option Nat) (rw:Bool) (h:List O) (us ws:List V) (i:SI):FP sb al b z rw h (.sl us i) (some ws)=if (us.length+ws.length)*b≤140737488355328∧us.length+ws.length≤140737488355328∧hz (zc z) us=true∧hz (zc z) ws=true then iu sb al b z rw h us i ws else none:=rfl
theorem rq (sb al b:Nat) (z:Option Nat) (rw:Bool) (h:List O) (k n:Nat) (zz:Option Nat) (ws:List V):FP sb al b z rw h (.tsl k n zz) (some ws)=if rw=true∧zz=z∧(n+ws.length)*b≤140737488355328∧n+ws.length≤140737488355328∧hz (zc z) ws=true then D6 k n z h ws else none:=rfl
theorem ek (sb al b:Nat) (z:Option Nat) (rw:Bool) (h:List O) (us:List V) (i:SI):iu sb al b z rw h us i []=some (.sl us i,h):=by cases i<;>rfl
theorem iy (sb al b:Nat) (z:Option Nat) (h:List O) (us ws:List V) (w:V) (hd:h[al]?=some .dead):iu sb al b z false h us .nil (w::ws)=some (.sl (us++w::ws) (.tok al),h.set al (.tok (us.length+(w::ws).length) (zc z))):=by simp[iu,hd]
theorem ez (sb al b:Nat) (z:Option Nat) (h:List O) (us ws:List V) (w:V) (hd:h[al]?=some .dead):iu sb al b z false h us .full (w::ws)=some (.sl (us++w::ws) (.tok al),h.set al (.tok (us.length+(w::ws).length) (zc z))):=by simp[iu,hd]
theorem gj (sb al b:Nat) (z:Option Nat) (h:List O) (us ws:List V) (w:V) (hd:h[al]?=some .want):iu sb al b z false h us .nil (w::ws)=some (.sl (us++w::ws) (.tok (bp h sb al)),h.set (bp h sb al) (.tok (us.length+(w::ws).length) (zc z))):=by simp[iu,hd]
theorem eQ (sb al b:Nat) (z:Option Nat) (h:List O) (us ws:List V) (w:V) (hd:h[al]?=some .want):iu sb al b z false h us .full (w::ws)=some (.sl (us++w::ws) (.tok (bp h sb al)),h.set (bp h sb al) (.tok (us.length+(w::ws).length) (zc z))):=by simp[iu,hd]
theorem gc (sb al b k:Nat) (z:Option Nat) (rw:Bool) (h:List O) (us ws:List V) (w:V) (hk:h[k]?=some (.tok us.length (zc z))):iu sb al b z rw h us (.tok k) (w::ws)=some (.sl (us++w::ws) (.tok k),h.set k (.tok (us.length+(w::ws).length) (zc z))):=by simp[iu,hk]
def C3:IntKind→V→List O→R2
 | k,.c (.int _ n),h=>some (.c (.int k (k.wrap n)),h)
 | _,_,_=>none
theorem Br (k k':IntKind) (n:Int) (h:List O):C3 k (.c (.int k' n)) h=some (.c (.int k (k.wrap n)),h):=rfl
def FO:R2→Nat→R2
 | some (r,h'),m=>if m≤h'.length then some (r,h') else none
 | none,_=>none
theorem ER (r:V) (h':List O) (m:Nat):FO (some (r,h')) m=if m≤h'.length then some (r,h') else none:=rfl
theorem iV (h:List O) (o:R2):longer h o=FO o h.length:=by
 cases o with
 | none=>rfl
 | some r=>rfl
theorem Em (cf:av) (q:Nat) (args:List V) (h:List O):eb cf (.c (.func (.func q) #[] #[])) args h=if q<rid then FO (cf q args h) h.length else none:=by
 rw[di (f:=q) (caps:=[]) (by simp[aT]),List.append_nil,iV]
theorem yf (cf:av) (k y m:Nat) (caps args:List V) (h:List O):eb cf (.yld k y m caps) args h=if rid≤y∧args.length=m then FO (cf y (.c (.int .i64 k)::(args++caps)) h) h.length else none:=by
 simp only[eb,iV]
@[simp] theorem Hs:rid=1000000:=rfl
def Hu:Option O→V × List O→R2
 | some .dead,r=>some r
 | _,_=>none
theorem wS (r:V × List O):Hu (some .dead) r=some r:=rfl
def Bm:Option O→Option (List Nat)→Value→V→Bool→List O→R2
 | some (.mapo ks vs),kd,t,z,ok,h=>(eT kd ks vs t).map fun r=>(l7 z ok r,h)
 | _,_,_,_,_,_=>none
theorem kX (ks:List Value) (vs:List V) (kd:Option (List Nat)) (t:Value) (z:V) (ok:Bool) (h:List O):Bm (some (.mapo ks vs)) kd t z ok h=(eT kd ks vs t).map fun r=>(l7 z ok r,h):=rfl
def Er:V→Option (List Nat)→Value→V→Bool→List O→R2
 | .fmp ks vs,none,t,z,ok,h=>(eT none ks vs t).map fun r=>(l7 z ok r,h)
 | .mref id,kd,t,z,ok,h=>Bm h[id]? kd t z ok h
 | _,_,_,_,_,_=>none
def Ar:Option Value→(Value→R2)→R2
 | some t,f=>f t
 | none,_=>none
theorem cY (t:Value) (f:Value→R2):Ar (some t) f=f t:=rfl
def jU (x:V) (kd:Option (List Nat)) (k:V) (z:V) (ok:Bool) (h:List O):R2:=Ar (l6 kd k) fun t=>Er x kd t z ok h
theorem qu (t:ByteArray):l6 none (.c (.string t))=some (.string t):=rfl
theorem za (l:List Nat) (cs:List V) (xs:List Value) (h:dD cs=some xs) (h2:bO l xs xs=some true):l6 (some l) (.agg cs)=some (.agg xs.toArray):=by simp only[l6,h,h2,if_true]
theorem fZ (ks:List Value) (vs:List V) (k:V) (z:V) (ok:Bool) (h:List O):jU (.fmp ks vs) none k z ok h=Ar (l6 none k) fun t=>(eT none ks vs t).map fun r=>(l7 z ok r,h):=rfl
theorem bE (id:Nat) (kd:Option (List Nat)) (k:V) (z:V) (ok:Bool) (h:List O):jU (.mref id) kd k z ok h=Ar (l6 kd k) fun t=>Bm h[id]? kd t z ok h:=by
 simp only[jU];cases kd<;>rfl
def G8:Option O→Nat→Option (List Nat)→Value→V→List O→R2
 | some (.mapo ks vs),id,kd,t,v,h=>(sW kd ks vs t v).map fun r=>(az,h.set id (.mapo r.1 r.2))
 | _,_,_,_,_,_=>none
theorem ua (ks:List Value) (vs:List V) (id:Nat) (kd:Option (List Nat)) (t:Value) (v:V) (h:List O):G8 (some (.mapo ks vs)) id kd t v h=(sW kd ks vs t v).map fun r=>(az,h.set id (.mapo r.1 r.2)):=rfl
def Hn:V→Option (List Nat)→Value→V→List O→R2
 | .mref id,kd,t,v,h=>G8 h[id]? id kd t v h
 | _,_,_,_,_=>none
def DA (m:V) (kd:Option (List Nat)) (k v:V) (h:List O):R2:=Ar (l6 kd k) fun t=>Hn m kd t v h
theorem qI (id:Nat) (kd:Option (List Nat)) (k v:V) (h:List O):DA (.mref id) kd k v h=Ar (l6 kd k) fun t=>G8 h[id]? id kd t v h:=rfl
def Be:Option O→V × List O→R2
 | some .dead,r=>some r
 | _,_=>none
theorem sn (r:V × List O):Be (some .dead) r=some r:=rfl
def xL (o:Option O) (id:Nat) (z:Option Nat) (zero:List V) (h:List O):Option Int→R2
 | some k=>if 0≤k∧k≤1048576∧k.toNat*zero.length≤16777216 then Be o (.row id 0 k.toNat z,h.set id (.cells (List.replicate k.toNat zero).flatten)) else none
 | none=>none
theorem lm (o:Option O) (id:Nat) (z:Option Nat) (zero:List V) (h:List O) (k:Int) (hk:0≤k∧k≤1048576∧k.toNat*zero.length≤16777216) :
  xL o id z zero h (some k)=Be o (.row id 0 k.toNat z,h.set id (.cells (List.replicate k.toNat zero).flatten)):=by simp only[xL,if_pos hk]
def FL (neg:Bool) (kd:List Nat):V→V→Option V
 | .agg cs,.agg ds=>match dD cs,dD ds with
   | some xs,some ys=>(bO kd xs ys).map fun b=>.c (.bool (if neg then !b else b))
   | _,_=>none
 | _,_=>none
theorem p6 (neg:Bool) (kd:List Nat) (cs ds:List V) (xs ys:List Value) (h1:dD cs=some xs) (h2:dD ds=some ys):FL neg kd (.agg cs) (.agg ds)=(bO kd xs ys).map fun b=>.c (.bool (if neg then !b else b)):=by simp only[FL,h1,h2]
def GW:V→List O→R2
 | .ref id o,h=>some (.ref id o,h)
 | .ptr cs o,h=>some (.ptr cs o,h)
 | .clo f caps,h=>some (.clo f caps,h)
 | .bnd f id o,h=>some (.bnd f id o,h)
 | .c (.func (.func f) a b),h=>some (.c (.func (.func f) a b),h)
 | _,_=>none
theorem zJ (id o:Nat) (h:List O):GW (.ref id o) h=some (.ref id o,h):=rfl
theorem Cv (k:IntKind) (n:Int):idx (.c (.int k n))=some n:=rfl
theorem Df (m:Bool) (k k':IntKind) (a b:Int):im m (some (.c (.int k a))) (.c (.int k' b))=some (.c (.int k (if m then (if b > a then b else a) else (if b<a then b else a)))):=rfl
theorem Bq (m:Bool) (v w:V):mmV m [v,w]=im m (some v) w:=rfl
theorem Cr (h:List O) (us:List V) (i:SI):sK h (.sl us i)=some us:=rfl
theorem DD (z:Nat):hz z []=true:=rfl
theorem BI (z:Nat) (u:V) (us:List V):hz z (u::us)=(u.cells.length==z):=rfl
theorem BL (k:Nat):zc (some k)=k:=rfl
theorem BV:zc none=1:=rfl
section
variable {cf:av}{s:SF}
theorem wE (x:A):bw cf s (.mv x)=some (x.val s.e,s.h):=by simp only[bw,XOp.sub,act,aB,bi,Option.map_some]
theorem na (c a b:A):bw cf s (.pick c a b)=Cu (c.val s.e) (a.val s.e) (b.val s.e) s.h:=by
 simp only[bw,XOp.sub,act,aB,bi];cases c.val s.e with
 | c y=>cases y <;> rfl
 | _=>rfl
theorem j1 (al:Nat) (z:List V):bw cf s (.alloc al z)=some (.ref (s.rb+al) 0,s.h):=rfl
theorem qD (al:Nat) (x:A):bw cf s (.box al x)=F0 s.h[s.rb+al]? (okc (x.val s.e)) (.ref (s.rb+al) 0,s.h.set (s.rb+al) (.cells (x.val s.e).cells)):=by
 simp only[bw,XOp.sub,act,bi];cases s.h[s.rb+al]? with
 | none=>cases okc (x.val s.e) <;> rfl
 | some o=>cases o <;> cases okc (x.val s.e) <;> rfl
theorem rP (z:List V) (ps:List (Nat × Nat × A)):bw cf s (.build z ps)=(xu s.e z ps).map fun cs=>(.agg cs,s.h):=by
 simp only[bw,XOp.sub,act,aB,re,Option.map_map];rfl
theorem o9 (al z:Nat) (ps:List A):bw cf s (.bslice al z ps)=if (ps.map fun x=>(x.val s.e).vw2).all (fun u=>okc u&&u.cells.length==z)=true then some (.sl (ps.map fun x=>(x.val s.e).vw2) .full,s.h) else none:=by
 simp only[bw,XOp.sub,act,aB,List.map_map,Function.comp_def,bi];split<;>rfl
theorem md (n:Option Nat) (x:A):bw cf s (.load n x)=zY (x.val s.e) n s.h:=by
 simp only[bw,XOp.sub,act,bi];cases x.val s.e with
 | ref id o =>
  simp only[mf];cases s.h[id]? with
  | none=>rfl
  | some o=>cases o <;> rfl
 | _=>rfl
theorem ko (n:Nat) (a x:A):bw cf s (.store n a x)=nY (a.val s.e) n (x.val s.e) s.h:=by
 simp only[bw,XOp.sub,act,bi];cases a.val s.e with
 | ref id o =>
  simp only[gB];cases s.h[id]? with
  | none=>rfl
  | some o=>cases o <;> rfl
 | tref k m o =>
  simp only[ja];cases s.h[k]? with
  | none=>rfl
  | some o=>cases o <;> rfl
 | _=>rfl
theorem p9 (op:BinOp) (q:Nat) (x y:A):bw cf s (.bin op q x y)=(ec op q (x.val s.e) (y.val s.e)).map fun v=>(v,s.h):=by
 simp only[bw,XOp.sub,act,aB,bi]
theorem zH (x:A):bw cf s (.un .not x)=Hr (x.val s.e) s.h:=by
 simp only[bw,XOp.sub,act,aB,bi];cases x.val s.e with
 | c y=>cases y <;> rfl
 | _=>rfl
theorem yh (x:A):bw cf s (.un .neg x)=HA (x.val s.e) s.h:=by
 simp only[bw,XOp.sub,act,aB,bi];cases x.val s.e with
 | c y=>cases y <;> rfl
 | _=>rfl
theorem eX (o:Nat) (x:A):bw cf s (.fieldAddr o x)=faF o (x.val s.e) s.h:=by
 simp only[bw,XOp.sub,act,aB,bi];cases x.val s.e<;>rfl
theorem kq (o:Nat) (n:Option Nat) (x:A):bw cf s (.field o n x)=wM o n (x.val s.e) s.h:=by
 simp only[bw,XOp.sub,act,aB,bi];cases x.val s.e<;>rfl
theorem fb (z:Nat) (x i:A):bw cf s (.indexAddr z x i)=iaF z (x.val s.e) (idx (i.val s.e)) s.h:=by
 simp only[bw,XOp.sub,act,aB,bi];cases x.val s.e<;>cases idx (i.val s.e)<;>try rfl
 ·rename_i us _ v;simp only[Az];split
  ·cases us[v.toNat]? with
   | none=>rfl
   | some u=>by_cases hu:u.cells.length=z <;> simp[hu,elF]
  ·rfl
 ·simp only[xl];split<;>rfl
 ·simp only[wZ];split<;>rfl
theorem ku (x i:A):bw cf s (.index x i)=ixF (x.val s.e) (idx (i.val s.e)) s.h:=by
 simp only[bw,XOp.sub,act,aB,bi];cases x.val s.e with
 | c y =>
  cases y<;>cases idx (i.val s.e)<;>try rfl
  simp only[EH];split
  ·rw[Option.map_map];rfl
  ·rfl
 | _=>cases idx (i.val s.e) <;> rfl
theorem oi (z:Nat) (x:A) (lo hi:Option A):bw cf s (.slice true z x lo hi none)=ssF (x.val s.e) (fun t=>Hv t (rQ s.e 0 lo) (rQ s.e t.size hi)) s.h:=by
 simp only[bw,XOp.sub,act,aB,bi,stV,qk,Option.map_none];cases x.val s.e with
 | c y =>
  cases y<;>try rfl
  simp only[DU];cases rQ s.e 0 lo<;>cases rQ s.e _ hi<;>rfl
 | _=>rfl
theorem pk (z:Nat) (x:A) (lo hi:Option A):bw cf s (.slice false z x lo hi none)=slF (x.val s.e) z (fun n=>rQ s.e n hi) (rQ s.e 0 lo) s.h:=by
 simp only[bw,XOp.sub,act,aB,bi,slV,xD,qk,Option.map_none];cases x.val s.e with
 | c y=>cases y <;> rfl
 | sl us i =>
  simp only[Am];cases rQ s.e 0 lo<;>cases rQ s.e _ hi<;>rfl
 | row id off n zz =>
  simp only[wj];cases rQ s.e 0 lo<;>cases rQ s.e _ hi<;>simp only[Gj]<;>split<;>rfl
 | _=>rfl
theorem ic (x:A) (i:Nat):bw cf s (.extract x i)=Gr (x.val s.e) i s.h:=by
 simp only[bw,XOp.sub,act,aB,bi];cases x.val s.e<;>rfl
theorem qc (x:A):bw cf s (.len false x)=Dz (x.val s.e) s.h:=by
 simp only[bw,XOp.sub,act,aB,bi];cases x.val s.e<;>rfl
theorem nB (x:A):bw cf s (.len true x)=Hd (x.val s.e) s.h:=by
 simp only[bw,XOp.sub,act,aB,bi];cases x.val s.e with
 | c y=>cases y <;> rfl
 | _=>rfl
theorem iQ (al b:Nat) (z:Option Nat) (rw:Bool) (x y:A):bw cf s (.append al z b rw x y)=FP s.base (s.rb+al) b z rw s.h (x.val s.e) (sK s.h (y.val s.e)):=by
 simp only[bw,XOp.sub,act,bi];cases x.val s.e with
 | sl us i =>
  cases sK s.h (y.val s.e) with
  | none=>rfl
  | some ws =>
   simp only[tH];split
   ·cases ws with
    | nil=>simp only[ek]
    | cons w ws =>
     cases i<;>try rfl
     all_goals simp only[iu]
     all_goals rfl
   ·rfl
 | tsl k n zz =>
  cases sK s.h (y.val s.e) with
  | none=>rfl
  | some ws =>
   simp only[rq];split
   ·rename_i hc;obtain⟨_,rfl,_⟩:=hc;cases ws<;>rfl
   ·rfl
 | _=>cases sK s.h (y.val s.e) <;> rfl
theorem Cl (m:Bool) (ps:List A):bw cf s (.mm m ps)=(mmV m (ps.map (A.val s.e))).map fun v=>(v,s.h):=by
 simp only[bw,XOp.sub,act,aB,o5]
theorem nE (k:IntKind) (x:A):bw cf s (.conv k x)=C3 k (x.val s.e) s.h:=by
 simp only[bw,XOp.sub,act,aB,bi];cases x.val s.e with
 | c y=>cases y <;> rfl
 | _=>rfl
theorem mQ (f:A) (ps:List A):bw cf s (.call f ps)=eb cf (f.val s.e) (ps.map (A.val s.e)) s.h:=by
 simp only[bw,XOp.sub,act,bi,o5]
theorem nr (al:Nat):bw cf s (.makeMap al)=Hu s.h[s.rb+al]? (.mref (s.rb+al),s.h.set (s.rb+al) (.mapo [] [])):=by
 simp only[bw,XOp.sub,act];cases s.h[s.rb+al]? with
 | none=>rfl
 | some o=>cases o <;> rfl
theorem o8 (kd:Option (List Nat)) (z:V) (ok:Bool) (x k:A):bw cf s (.lookup kd z ok x k)=jU (x.val s.e) kd (k.val s.e) z ok s.h:=by
 simp only[bw,XOp.sub,act,bi,jU];cases l6 kd (k.val s.e) with
 | none=>rfl
 | some t =>
  simp only[Ar];cases x.val s.e with
  | fmp ks vs=>cases kd <;> rfl
  | mref id =>
   simp only[Er];cases s.h[id]? with
   | none=>rfl
   | some o=>cases o <;> rfl
  | _=>rfl
theorem o6 (kd:Option (List Nat)) (m k v:A):bw cf s (.mapUpd kd m k v)=DA (m.val s.e) kd (k.val s.e) (v.val s.e) s.h:=by
 simp only[bw,XOp.sub,act,bi,DA];cases l6 kd (k.val s.e) with
 | none=>rfl
 | some t =>
  simp only[Ar];cases m.val s.e with
  | mref id =>
   simp only[Hn];cases s.h[id]? with
   | none=>rfl
   | some o=>cases o <;> rfl
  | _=>rfl
theorem tL (al:Nat) (z:Option Nat) (zero:List V) (n:A):bw cf s (.mksl al z zero n)=xL s.h[s.rb+al]? (s.rb+al) z zero s.h (idx (n.val s.e)):=by
 simp only[bw,XOp.sub,act,bi,xL];cases idx (n.val s.e) with
 | none=>rfl
 | some k =>
  simp only;split
  ·cases s.h[s.rb+al]? with
   | none=>rfl
   | some o=>cases o <;> rfl
  ·rfl
theorem yb (neg:Bool) (kd:List Nat) (x y:A):bw cf s (.eqs neg kd x y)=(FL neg kd (x.val s.e) (y.val s.e)).map fun v=>(v,s.h):=by
 simp only[bw,XOp.sub,act,aB,bi];rfl
theorem vh (f:Nat) (ps:List A):bw cf s (.clos f ps)=some (.clo f (ps.map (A.val s.e)),s.h):=by
 simp only[bw,XOp.sub,act,aB,o5,Option.map_some]
def Hy (f:Nat):V→List O→R2
 | .ref id o,h=>some (.bnd f id o,h)
 | _,_=>none
theorem nZ (f:Nat) (x:A):bw cf s (.bndm f x)=Hy f (x.val s.e) s.h:=by
 simp only[bw,XOp.sub,act,aB,bi];cases x.val s.e<;>rfl
theorem jG (x:A):bw cf s (.nilchk x)=GW (x.val s.e) s.h:=by
 simp only[bw,XOp.sub,act,aB,bi];cases x.val s.e with
 | c y =>
  cases y with
  | func f a b=>cases f <;> rfl
  | _=>rfl
 | _=>rfl
def FH (b:Nat):V→Bool
 | .ref id _=>decide (b≤id)
 | _=>true
theorem xT (b id o:Nat):FH b (.ref id o)=decide (b≤id):=rfl
theorem yz (b:Nat) (cs:List V) (o:Nat):FH b (.ptr cs o)=true:=rfl
def qi:V→Bool
 | .top=>false
 | _=>true
def pL:V→Bool→Bool
 | .c (.bool x),b=>x==b
 | _,_=>false
theorem pF (e:Nat→V) (t:Nat) (b:Bool):kF e (some (t,b))=qi (e t):=rfl
theorem pg (e:Nat→V) (t:Nat) (b:Bool):iS e (some (t,b))=pL (e t) b:=by
 simp only[iS];cases e t with
 | c y=>cases y <;> rfl
 | _=>rfl
def cellR:V→List O→Option Nat→Option V
 | .ref id o,h,n=>cellO h[id]? o n
 | _,_,_=>none
where cellO:Option O→Nat→Option Nat→Option V
 | some (.cells cs),o,n=>rdV cs o n
 | _,_,_=>none
theorem mD (id o:Nat) (h:List O) (n:Option Nat):cellR (.ref id o) h n=cellR.cellO h[id]? o n:=rfl
theorem Cb (cs:List V) (o:Nat) (n:Option Nat):cellR.cellO (some (.cells cs)) o n=rdV cs o n:=rfl
theorem Ek (i:Nat):xF s (.t i)=some (s.e i):=rfl
theorem uu (i:Nat) (n:Option Nat):xF s (.cell i n)=cellR (s.e i) s.h n:=by
 simp only[xF];cases s.e i with
 | ref id o =>
  simp only[mD];cases s.h[id]? with
  | none=>rfl
  | some x=>cases x <;> rfl
 | _=>rfl
def EV:Option V→Option (List V)→Option (List V)
 | some v,some vs=>some (v::vs)
 | _,_=>none
theorem CI (v:V) (vs:List V):EV (some v) (some vs)=some (v::vs):=rfl
theorem ue:fX s []=some []:=rfl
theorem sy (r:XR) (rs:List XR):fX s (r::rs)=EV (xF s r) (fX s rs):=by
 simp only[fX];cases xF s r<;>cases fX s rs<;>rfl
theorem Gq (P:List V→List O→Prop) (xf:XF) (s:SF):Fin P xf .normal s=jF (fX s xf.res) fun vs=>P vs s.h:=rfl
theorem G3 (P:List V→List O→Prop) (xf:XF) (s:SF):Fin P xf .ret s=jF (fX s xf.res) fun vs=>P vs s.h:=rfl
end
inductive Fr where
 | seq (b:XC)
 | blk (id:Nat)
 | loop (c:XC) (k:Nat)
section
variable (cf:av) (n:Nat)
def den:List Fr→(Ex→SF→Prop)→Ex→SF→Prop
 | [],Q=>Q
 | .seq b::K,Q=>fun e s=>match e with
  | .normal=>wpx cf n b s (den K Q)
  | e=>den K Q e s
 | .blk id::K,Q=>fun e s=>match e with
  | .exit id'=>if id'=id then den K Q .normal s else den K Q (.exit id') s
  | e=>den K Q e s
 | .loop c k::K,Q=>fun e s=>match e with
  | .normal=>dE (wpx cf n c) k s (den K Q)
  | e=>den K Q e s
def wpk (c:XC) (K:List Fr) (Q:Ex→SF→Prop) (s:SF):Prop:=wpx cf n c s (den cf n K Q)
def d9 (K:List Fr) (Q:Ex→SF→Prop) (e:Ex) (s:SF):Prop:=den cf n K Q e s
def lpk (c:XC) (K:List Fr) (Q:Ex→SF→Prop) (s:SF):Prop:=dE (wpx cf n c) n s (den cf n K Q)
def FS (v:V) (a b:XC) (K:List Fr) (Q:Ex→SF→Prop) (s:SF):Prop:=nK v (wpk cf n a K Q s) (wpk cf n b K Q s)
def rM (ops:List XOper) (K:List Fr) (Q:Ex→SF→Prop) (s:SF):Prop:=lj cf ops s (den cf n K Q .normal)
def nf (o:XOper) (s:SF):R2:=if kF s.e o.g=true then if iS s.e o.g=true then bw cf s o.op else some (az,s.h) else none
def gvk:R2→Option Nat→List XOper→List Fr→(Ex→SF→Prop)→SF→Prop
 | some (v,h),d,r,K,Q,s=>rM cf n r K Q ⟨pC s.e d v,h,s.base,s.rb⟩
 | none,_,_,_,_,_=>False
def DC (p:SF→XOper→Bool) (ops:List XOper) (K:List Fr) (Q:Ex→SF→Prop) (cf':av) (s:SF):Prop:=d6 cf' p ops s (den cf n K Q .normal)
def gvc (p:SF→XOper→Bool) (cf':av):R2→Option Nat→List XOper→List Fr→(Ex→SF→Prop)→SF→Prop
 | some (v,h),d,r,K,Q,s=>DC cf n p r K Q cf' ⟨pC s.e d v,h,s.base,s.rb⟩
 | none,_,_,_,_,_=>False
variable {cf n}{K:List Fr}{Q:Ex→SF→Prop}{s:SF}
theorem zq (p:SF→XOper→Bool) (cf':av):DC cf n p [] K Q cf' s=d9 cf n K Q .normal s:=rfl
theorem uS (p:SF→XOper→Bool) (cf':av) (o:XOper) (r:List XOper):DC cf n p (o::r) K Q cf' s=(p s o=true∧gvc cf n p cf' (nf cf' o s) o.d r K Q s):=by
 simp only[DC,d6,wps,nf];congr 1;split
 ·split
  ·cases bw cf' s o.op<;>rfl
  ·rfl
 ·rfl
theorem zS (p:SF→XOper→Bool) (cf':av) (v:V) (h:List O) (d:Option Nat) (r:List XOper):gvc cf n p cf' (some (v,h)) d r K Q s=DC cf n p r K Q cf' ⟨pC s.e d v,h,s.base,s.rb⟩:=rfl
theorem Do (p:SF→XOper→Bool) (cf':av) (c:Prop) [Decidable c] (a:R2) (d:Option Nat) (r:List XOper):gvc cf n p cf' (if c then a else none) d r K Q s=(c∧gvc cf n p cf' a d r K Q s):=by
 by_cases h:c<;>simp[h,gvc]
theorem CS (a b:XC):wpk cf n (.seq a b) K Q s=wpk cf n a (.seq b::K) Q s:=rfl
theorem zR:wpk cf n .skip K Q s=d9 cf n K Q .normal s:=rfl
theorem zd (c:A) (a b:XC):wpk cf n (.cond c a b) K Q s=FS cf n (c.val s.e) a b K Q s:=rfl
theorem EM (a b:XC):FS cf n (.c (.bool true)) a b K Q s=wpk cf n a K Q s:=rfl
theorem Fv (a b:XC):FS cf n (.c (.bool false)) a b K Q s=wpk cf n b K Q s:=by simp[FS,nK]
theorem vJ (id:Nat) (c:XC):wpk cf n (.block id c) K Q s=wpk cf n c (.blk id::K) Q s:=rfl
theorem yO (c:XC):wpk cf n (.loop c) K Q s=lpk cf n c K Q s:=rfl
theorem mO (f:A) (y m nt:Nat) (us:List Nat){g:Nat}{lb:List V}{r:V}{h':List O}{e:Ex}(hc:aT (f.val s.e)=some (g,lb)) (hg:g<rid) (hy:rid≤y)
  (hcf:cf g (.yld s.h.length y m (yu nt us s.e)::lb) (s.h++[.loop 0])=some (r,h')) (he:lQ h'[s.h.length]?=some e) (hq:d9 cf n K Q e ⟨s.e,h'.set s.h.length (.loop 2),s.base,s.rb⟩):wpk cf n (.rangeF f y m nt us) K Q s:=by
 show wpx cf n (.rangeF f y m nt us) s (den cf n K Q);unfold wpx;rw[hc];simp only;rw[if_pos ⟨hg,hy⟩,hcf];simp only[dN,he];exact hq
theorem zt (id:Nat):wpk cf n (.exit id) K Q s=d9 cf n K Q (.exit id) s:=rfl
theorem Cq:wpk cf n .ret K Q s=d9 cf n K Q .ret s:=rfl
theorem xN (e:Ex):d9 cf n [] Q e s=Q e s:=rfl
theorem yv (b:XC):d9 cf n (.seq b::K) Q .normal s=wpk cf n b K Q s:=rfl
theorem sC (b:XC):d9 cf n (.seq b::K) Q .ret s=d9 cf n K Q .ret s:=rfl
theorem rL (b:XC) (i:Nat):d9 cf n (.seq b::K) Q (.exit i) s=d9 cf n K Q (.exit i) s:=rfl
theorem zQ (i:Nat):d9 cf n (.blk i::K) Q .normal s=d9 cf n K Q .normal s:=rfl
theorem rO (i:Nat):d9 cf n (.blk i::K) Q .ret s=d9 cf n K Q .ret s:=rfl
theorem sE (i:Nat):d9 cf n (.blk i::K) Q (.exit i) s=d9 cf n K Q .normal s:=by
 show (if i=i then den cf n K Q .normal s else den cf n K Q (.exit i) s)=_;rw[if_pos rfl];rfl
theorem yE:rM cf n [] K Q s=d9 cf n K Q .normal s:=rfl
theorem uN (o:XOper) (r:List XOper):rM cf n (o::r) K Q s=gvk cf n (nf cf o s) o.d r K Q s:=by
 simp only[rM,lj,wps,nf];split
 ·split
  ·cases bw cf s o.op<;>rfl
  ·rfl
 ·rfl
theorem cJ (v:V) (h:List O) (d:Option Nat) (r:List XOper):gvk cf n (some (v,h)) d r K Q s=rM cf n r K Q ⟨pC s.e d v,h,s.base,s.rb⟩:=rfl
theorem BX (c:Prop) [Decidable c] (a:R2) (d:Option Nat) (r:List XOper):gvk cf n (if c then a else none) d r K Q s=(c∧gvk cf n a d r K Q s):=by
 by_cases h:c<;>simp[h,gvk]
theorem EO (d:Option Nat) (op:XOp):nf cf ⟨d,op,none⟩ s=bw cf s op:=by simp[nf,kF,iS]
def ga (cf:av) (v:V) (b:Bool) (op:XOp) (s:SF):R2:=if qi v=true then if pL v b=true then bw cf s op else some (az,s.h) else none
theorem E8 (d:Option Nat) (op:XOp) (t:Nat) (b:Bool):nf cf ⟨d,op,some (t,b)⟩ s=ga cf (s.e t) b op s:=by
 simp only[nf,ga,pF,pg]
theorem vF (op:XOp):ga cf (.c (.bool true)) true op s=bw cf s op:=rfl
theorem xx (op:XOp):ga cf (.c (.bool false)) false op s=bw cf s op:=rfl
theorem tn (op:XOp):ga cf (.c (.bool true)) false op s=some (az,s.h):=by simp[ga,qi,pL]
theorem vQ (op:XOp):ga cf (.c (.bool false)) true op s=some (az,s.h):=by simp[ga,qi,pL]
theorem cq {c:XC}(h:wpk cf n c [] Q s):wpx cf n c s Q:=h
theorem j5 {c:XC}(I:Nat→SF→Prop) (k:Nat) (hk:k<n) (h0:I k s)
  (hI:∀k s,I k s→wpk cf n c [] (fun e s'=>match e with|.normal=>∃k',k'<k∧I k' s'|e=>d9 cf n K Q e s') s):lpk cf n c K Q s:=zK I k hk h0 hI
end
theorem qC (h:List O) (x y:O):(h++[x]).set h.length y=h++[y]:=by
 rw[List.set_append_right _ _ (nL _)];simp
theorem qq (h:List O) (x:O):(h++[x])[h.length]?=some x:=by simp
theorem xX (k:Nat):okc (.mref k)=true:=rfl
theorem sB (k:Nat):V.cells (.mref k)=[.mref k]:=rfl
attribute [simp] xX sB
theorem GQ (x:Value):(V.c x).vwf=.c x:=rfl
attribute [simp] GQ
attribute [simp] gj eQ ja wZ rq
attribute [simp] CS zR zd EM Fv vJ yO zt Cq xN yv sC rL zQ rO sE yE uN cJ BX EO E8 vF xx tn vQ dN wE na Cw j1 qD s9 rP xu o9 md mf wb pD ko gB il p9 zH Fl yh D2 eX Dg BK kq rW fb Az xl zi ku EH oi DU Et pk Am wj EW rQ ic DI qc BQ zj nB En iQ tH ek iy ez gc Cr DD BI BL BV Cl Bq Df nE Br mQ Em yf ER nr wS o8 fZ bE kX o6 qI ua cY qu tL sn yb nZ vh jG zJ A.val pC au CO bL kg Cv Cm B5 Dq DL BU Bk xW Db vv CV zB wm G2 DH Cs aM uD Bw da bF p7 yn zI zu fW Gq G3 ue sy Ek uu mD Cb CI BN Dh HO CM Ed FA EG EK Gg
end Go.Proofs.YtjhffhmokcogkaaGreatDoor.Ab
