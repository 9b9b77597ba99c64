/- A part. -/
import Derived.Test.YtjhffhmokcogkaaGreatDoorCc1
import Derived.Sort.LoopGhostIn
set_option linter.unusedVariables false
set_option linter.unusedSimpArgs false
set_option linter.defProp false
set_option maxRecDepth 20000
set_option maxHeartbeats 8000000
namespace Go.Proofs.YtjhffhmokcogkaaGreatDoor.Ab
open Go
theorem mE:∀{x y:List Value},sameK.sameKs x y=true→x=y
 | [],[],_=>rfl
 | [],_::_,h=>by simp[sameK.sameKs] at h
 | _::_,[],h=>by simp[sameK.sameKs] at h
 | v::vs,w::ws,h=>by
  simp only[sameK.sameKs,bT] at h;rw[lX h.1,mE h.2]
theorem xU {x y:Value}(h:sameK x y=true):x=y:=by
 unfold sameK at h;split at h
 ·rename_i a b;have:=mE h;rw[Array.ext' this]
 ·exact lX h
theorem nS:∀{x y:List Value},fY x y=true→x=y
 | [],[],_=>rfl
 | [],_::_,h=>by simp[fY] at h
 | _::_,[],h=>by simp[fY] at h
 | v::vs,w::ws,h=>by
  simp only[fY,bT] at h;rw[xU h.1,nS h.2]
theorem zL {x y:O}(h:it x y=true):x=y:=by
 unfold it at h;split at h
 ·rw[de _ _ h]
 ·rfl
 ·simp only[bT,beq_iff_eq] at h;rw[h.1,h.2]
 ·simp only[bT,beq_iff_eq] at h;rw[h.1,h.2.1,de _ _ h.2.2]
 ·simp only[bT] at h;rw[nS h.1,de _ _ h.2]
 ·simp only[beq_iff_eq] at h;rw[h]
 ·rfl
 ·rfl
 ·cases h
theorem qY:∀{x y:List O},oc x y=true→x=y
 | [],[],_=>rfl
 | [],_::_,h=>by simp[oc] at h
 | _::_,[],h=>by simp[oc] at h
 | v::vs,w::ws,h=>by
  simp only[oc,bT] at h;rw[zL h.1,qY h.2]
theorem rr {m:Nat}{cf:av}{f:Nat}{args:List V}{H:List O}{r:V}{H1:List O}(h:eR m cf f args H=some (r,H1)):H1=H∧aF m cf f args H=some (r,H)∧∀H2:List O,H2.take m=H.take m→m≤H2.length→eR m cf f args H2=some (r,H2):=by
 unfold eR at h;split at h;rotate_left
 ·cases h
 rename_i hc;split at h;rotate_left
 ·cases h
 rename_i r' h1 hcall;split at h;rotate_left
 ·cases h
 rename_i hs;simp only[sI,pI] at h;obtain⟨rfl,rfl⟩:=h;have he:=qY hs.2;refine⟨rfl,?_,fun H2 h2 hl=>?_⟩
 ·unfold aF;rw[if_pos hc.2.2.1];unfold b9;rw[if_pos hc,hcall];simp only[hs.1,if_true];rw[← he,List.take_append_drop]
 ·unfold eR;rw[if_pos ⟨hc.1,hl,hc.2.2.1,by rw[h2];exact hc.2.2.2⟩,h2,hcall];simp only;rw[if_pos hs]
theorem Gk {P:Program}{m:Nat}{cf:av}(hcf:br P cf):br P (eR m cf):=fun f args h r h' e=>by
 obtain⟨rfl,e2,_⟩:=rr e;exact kS hcf _ _ _ _ _ e2
theorem Cd {m:Nat}{cf:av}{st:St}{f:A}{args:List A}{v:V}{h':List O}(e:act (eR m cf) st (.call f args)=some (v,h')) :
  h'=st.h∧∀h2:List O,h2.take m=st.h.take m→m≤h2.length→act (eR m cf) { st with h:=h2 } (.call f args)=some (v,h2):=by
 have main:∀{f:Nat}{vs:List V},longer st.h (eR m cf f vs st.h)=some (v,h')→h'=st.h∧∀h2:List O,h2.take m=st.h.take m→m≤h2.length→longer h2 (eR m cf f vs h2)=some (v,h2):=by
  intro f vs e;obtain⟨e1,e2⟩:=bd e;obtain⟨rfl,_,k⟩:=rr e1;exact⟨rfl,fun h2 q1 q2=>by rw[k h2 q1 q2];exact eo (nL _)⟩
 simp only[act,eb,fU] at e ⊢;cases hx:ev st.tm f with
 | yld k y mm caps =>
  rw[hx] at e;simp only at e ⊢;split at e
  ·rename_i hc;obtain⟨a,b⟩:=main e;exact⟨a,fun h2 q1 q2=>by rw[if_pos hc];exact b h2 q1 q2⟩
  ·cases e
 | bnd g id o =>
  rw[hx] at e;simp only at e ⊢;split at e
  ·rename_i hc;obtain⟨a,b⟩:=main e;exact⟨a,fun h2 q1 q2=>by rw[if_pos hc];exact b h2 q1 q2⟩
  ·cases e
 | _ =>
  rw[hx] at e;simp only at e ⊢;split at e
  ·rename_i g caps hcal;split at e
   ·rename_i hc;obtain⟨a,b⟩:=main e;refine⟨a,fun h2 q1 q2=>?_⟩;simp only[hcal,if_pos hc];exact b h2 q1 q2
   ·cases e
  ·cases e
theorem lY {l:List O}{m i:Nat}(h:m≤i) (x:O):(l.set i x).take m=l.take m:=by
 apply List.ext_getElem?;intro j;rw[List.getElem?_take,List.getElem?_take];split
 ·rw[sN (by omega)]
 ·rfl
theorem zC {m:Nat}{cf:av}{st:St}{al b:Nat}{z:Option Nat}{x y:A}{v:V}{h':List O}(ht:ik m st (.append al z b false x y)=true) (e:act cf st (.append al z b false x y)=some (v,h')):h'.take m=st.h.take m:=by
 simp only[act] at e;simp only[ik] at ht;cases hx:ev st.tm x with
 | sl us i =>
  rw[hx] at e ht;split at e
  ·rename_i us' i' ws h1 h2;cases h1;split at e
   ·split at e
    ·simp only[sI,pI] at e;rw[← e.2]
    ·cases i with
     | nil =>
      simp only[bT,dT] at ht;simp only at e;split at e
      ·simp only[Bool.false_eq_true,if_false,sI,pI] at e;rw[← e.2];exact lY ht.1 _
      ·rename_i hw;rw[hw] at ht;simp at ht
      ·cases e
     | full =>
      simp only[bT,dT] at ht;simp only at e;split at e
      ·simp only[Bool.false_eq_true,if_false,sI,pI] at e;rw[← e.2];exact lY ht.1 _
      ·rename_i hw;rw[hw] at ht;simp at ht
      ·cases e
     | tok k =>
      simp only[dT] at ht;simp only at e;split at e
      ·split at e
       ·simp only[sI,pI] at e;rw[← e.2];exact lY ht _
       ·cases e
      ·cases e
     | any=>cases e
     | isn=>cases e
     | nz=>cases e
   ·cases e
  ·rename_i h1 _;cases h1
  ·cases e
 | _=>rw[hx] at ht;simp at ht
def gw (op:XOp):Nat:=cls (fun _=>0) op
def zZ (x y:XOper):Bool:=cC x y&&(if cT x.op then (cT y.op||decide (gw y.op≤2)) else if cT y.op then decide (gw x.op≤2) else gJ (gw x.op) (gw y.op))
theorem ne {cf:av}{st:St}{op:XOp}(hc:gw op=0){v:V}{h':List O}(e:act cf st op=some (v,h')):h'=st.h:=by
 have:=dg (st:=st) (cf:=cf) hc st.h;rw[show ({ st with h:=st.h }:St)=st from rfl,e] at this;simp only[Option.map_some,sI,pI] at this;exact this.2
theorem xQ {op:XOp}(h:gw op=2):∃al z b x y,op=.append al z b false x y:=by
 cases op
 case append al z b rw x y =>
  simp only[gw,cls] at h;split at h
  ·cases h
  ·rename_i hr;exact⟨al,z,b,x,y,by simp at hr;rw[hr]⟩
 case call f args =>
  cases f with
  | t i=>simp[gw,cls] at h
  | k v =>
   simp only[gw,cls] at h;split at h
   ·split at h
    ·cases h
    ·split at h<;>cases h
   ·cases h
 all_goals simp[gw,cls] at h
theorem xz {m:Nat}{cf:av}{st:St}{op:XOp}(hc:gw op≤2) (ht:ik m st op=true){v:V}{h':List O}(e:act cf st op=some (v,h')):h'.take m=st.h.take m:=by
 have:gw op=0∨gw op=1∨gw op=2:=by omega
 rcases this with h|h|h
 ·rw[ne h e]
 ·rw[(dV (wd cf) h e).1]
 ·obtain⟨al,z,b,x,y,rfl⟩:=xQ h;exact zC ht e
theorem Cy {m:Nat}{cf:av}{x y:XOper}{st:St}(hm:m≤st.h.length) (tx:ik m st x.op=true){vx vy:V}{hx hy:List O}(ty:ik m { st with h:=hx } y.op=true)
  (hc:(if cT x.op then (cT y.op||decide (gw y.op≤2)) else if cT y.op then decide (gw x.op≤2) else gJ (gw x.op) (gw y.op))=true)
  (h1:b8 (eR m cf) x st=some (vx,hx)) (h2:b8 (eR m cf) y { st with h:=hx }=some (vy,hy)):∃hy',ik m st y.op=true∧b8 (eR m cf) y st=some (vy,hy')∧ik m { st with h:=hy' } x.op=true∧b8 (eR m cf) x { st with h:=hy' }=some (vx,hy):=by
 have callTok:∀{op:XOp}{st':St},cT op=true→ik m st' op=true:=by
  intro op st' h;cases op<;>first|rfl|(simp[cT] at h)
 have giveKeep:∀{o:XOper}{st':St}{v:V}{h':List O},cT o.op=true→b8 (eR m cf) o st'=some (v,h')→h'=st'.h∧∀h2:List O,h2.take m=st'.h.take m→m≤h2.length→b8 (eR m cf) o { st' with h:=h2 }=some (v,h2):=by
  intro o st' v h' hcall e;obtain⟨d,op,gd⟩:=o;cases op
  case call f args =>
   unfold b8 at e ⊢;split at e
   ·rename_i hk;split at e
    ·rename_i hw;obtain⟨a,b⟩:=Cd e;exact⟨a,fun h2 q1 q2=>by rw[if_pos hk,if_pos hw];exact b h2 q1 q2⟩
    ·rename_i hw;simp only[sI,pI] at e;obtain⟨rfl,rfl⟩:=e;exact⟨rfl,fun h2 q1 q2=>by rw[if_pos hk,if_neg hw]⟩
   ·cases e
  all_goals simp[cT] at hcall
 have giveTake:∀{o:XOper}{st':St}{v:V}{h':List O},gw o.op≤2→ik m st' o.op=true→b8 (eR m cf) o st'=some (v,h')→h'.take m=st'.h.take m∧st'.h.length≤h'.length:=by
  intro o st' v h' hcl ht e;unfold b8 at e;split at e
  ·split at e
   ·exact⟨xz hcl ht e,uU e⟩
   ·simp only[sI,pI] at e;rw[← e.2];exact⟨rfl,nL _⟩
  ·cases e
 cases cx:cT x.op with
 | true =>
  obtain⟨rfl,kx⟩:=giveKeep cx h1;have h2':b8 (eR m cf) y st=some (vy,hy):=h2;have ty':ik m st y.op=true:=ty;refine⟨hy,ty',h2',callTok cx,?_⟩;cases cy:cT y.op with
  | true =>
   obtain⟨rfl,_⟩:=giveKeep cy h2';exact h1
  | false =>
   rw[cx,cy] at hc;simp only[if_true,Bool.false_or,dT] at hc;obtain⟨a,b⟩:=giveTake hc ty' h2';exact kx hy a (Nat.le_trans hm b)
 | false =>
  rw[cx] at hc;simp only[Bool.false_eq_true,if_false] at hc;cases cy:cT y.op with
  | true =>
   rw[cy] at hc;simp only[if_true,dT] at hc;obtain⟨a,b⟩:=giveTake hc tx h1;obtain⟨rfl,ky⟩:=giveKeep cy h2;exact⟨st.h,callTok cy,ky st.h a.symm hm,tx,h1⟩
  | false =>
   rw[cy] at hc;simp only[Bool.false_eq_true,if_false] at hc;obtain⟨hy',g1,g2⟩:=mY (pf:=fun _=>0) (wd (eR m cf)) hc h1 h2;have two:∀{op:XOp},gw op≤1→∀st':St,ik m st' op=true:=by
    intro op h st';cases op
    case append al z b rw p q =>
     exfalso;simp only[gw,cls] at h;cases rw<;>simp at h
    all_goals rfl
   have gk:∀{o:XOper}{st':St}{v:V}{h':List O},gw o.op≤1→b8 (eR m cf) o st'=some (v,h')→h'=st'.h:=by
    intro o st' v h' hcl e;unfold b8 at e;split at e
    ·split at e
     ·have:gw o.op=0∨gw o.op=1:=by omega
      rcases this with q|q
      ·exact ne q e
      ·exact (dV (wd _) q e).1
     ·simp only[sI,pI] at e;rw[← e.2]
    ·cases e
   have hcc:gw x.op≤1∨gw y.op≤1:=by
    simp only[gJ,Bool.or_eq_true,bT,beq_iff_eq] at hc;omega
   refine⟨hy',?_,g1,?_,g2⟩
   ·by_cases q:gw x.op≤1
    ·rw[gk q h1] at ty;exact ty
    ·exact two (hcc.resolve_left q) _
   ·by_cases q:gw y.op≤1
    ·rw[gk q g1];exact tx
    ·exact two (hcc.resolve_right q) _
def CN (xs:List XOper) (j i:Nat):Bool :=
 match xs[j]?,xs[i]? with
 | some x,some y=>zZ x y
 | _,_=>false
def qv (ops:List Oper) (xs:List XOper):Bool :=
 (List.range ops.length).all fun i=>match ops[i]? with
  | some o=>eC i o&&(List.range i).all fun j=>((ej ops []).getD i 0).testBit j||CN xs j i
  | none=>false
theorem dr {m:Nat}{cf:av}{x:XOper}{st st1:St}(h:ee m cf x st=some st1):aI (eR m cf) x st=some st1:=by
 unfold ee at h;split at h
 ·exact h
 ·cases h
theorem gI (m:Nat) (cf:av) (o:XOper) (st:St):ee m cf o st=if ik m st o.op then (b8 (eR m cf) o st).map fun r=>{ st with tm:=bH st.tm o.d r.1,h:=r.2 } else none:=by
 unfold ee;rw[bX]
theorem tY {m:Nat}{st:St}{tm':List V}{op:XOp}(h:Agr op.rd st.tm tm'):ik m { st with tm:=tm' } op=ik m st op:=by
 cases op
 case append al z b rw x y =>
  have h1:ev st.tm x=ev tm' x:=bv (by simp only[XOp.rd] at h;exact h.left);simp only[ik,h1]
 all_goals rfl
theorem sT {m:Nat}{cf:av}{x y:XOper}(hc:zZ x y=true){st s1 s2:St}(hm:m≤st.h.length) (h1:ee m cf x st=some s1) (h2:ee m cf y s1=some s2) :
  ∃s1',ee m cf y st=some s1'∧ee m cf x s1'=some s2:=by
 simp only[zZ,cC,bT] at hc;obtain⟨⟨hx,hy⟩,hcl⟩:=hc;have x1:∀d,x.d=some d→d ∉ y.rd∧y.d≠some d:=by
  intro d hd;rw[hd] at hx;simpa using hx
 have y1:∀d,y.d=some d→d ∉ x.rd:=by
  intro d hd;rw[hd] at hy;simpa using hy
 rw[gI] at h1 h2;split at h1;rotate_left
 ·cases h1
 split at h2;rotate_left
 ·cases h2
 rename_i ox oy;simp only[mS] at h1 h2;obtain⟨⟨vx,hx'⟩,g1,rfl⟩:=h1;obtain⟨⟨vy,hy'⟩,g2,rfl⟩:=h2;simp only at g2 oy;have agy:Agr y.rd st.tm (bH st.tm x.d vx):=Agr.put fun d hd=>(x1 d hd).1
 have oy':ik m { st with h:=hx' } y.op=true:=by
  rw[← oy];exact (tY (st:={ st with h:=hx' }) (Agr.left (by unfold XOper.rd at agy;exact agy))).symm
 have a1:b8 (eR m cf) y { st with h:=hx' }=some (vy,hy'):=by
  rw[eK (st:={ st with h:=hx' }) (tm':=bH st.tm x.d vx) agy];exact g2
 obtain⟨hq,b0,b1,b4,b2⟩:=Cy hm ox oy' hcl g1 a1;refine⟨{ st with tm:=bH st.tm y.d vy,h:=hq },by rw[gI,if_pos b0,b1];rfl,?_⟩;have agx:Agr x.rd st.tm (bH st.tm y.d vy):=Agr.put fun d hd=>y1 d hd
 have b3:b8 (eR m cf) x { st with tm:=bH st.tm y.d vy,h:=hq }=some (vx,hy'):=by
  rw[← eK (st:={ st with h:=hq }) (tm':=bH st.tm y.d vy) agx];exact b2
 rw[gI];have ox':ik m { st with tm:=bH st.tm y.d vy,h:=hq } x.op=true:=by
  rw[tY (st:={ st with h:=hq }) (Agr.left (by unfold XOper.rd at agx;exact agx))];exact b4
 rw[if_pos ox'];simp only at b3 ⊢;rw[b3];simp only[Option.map_some,sI,St.mk.injEq,and_true];cases hxd:x.d with
 | none=>rfl
 | some d =>
  cases hyd:y.d with
  | none=>rfl
  | some e =>
   have hne:e≠d:=by
    intro q;exact (x1 d hxd).2 (by rw[hyd,q])
   simp only[bH];exact List.set_comm _ _ hne
theorem uG {m:Nat}{cf:av}{y:XOper}{r2:List XOper}{s':St}:∀(r1:List XOper) (st:St),m≤st.h.length→(∀x∈r1,zZ x y=true)→gt m cf (r1++y::r2) st=some s' →
  gt m cf (y::(r1++r2)) st=some s'
 | [],_,_,_,h=>h
 | x::r1,st,hm,hc,h=>by
  simp only[List.cons_append,gt] at h;cases h1:ee m cf x st with
  | none=>rw[h1] at h;cases h
  | some s1 =>
   rw[h1] at h;simp only at h;have ih:=uG r1 s1 (Nat.le_trans hm (db (dr h1))) (fun z hz=>hc z (by simp[hz])) h;simp only[gt] at ih;cases h2:ee m cf y s1 with
   | none=>rw[h2] at ih;cases ih
   | some s2 =>
    rw[h2] at ih;simp only at ih;obtain⟨s1',k1,k2⟩:=sT (hc x (by simp)) hm h1 h2;simp only[gt,List.cons_append,k1,k2,ih]
theorem mV {m:Nat}{cf:av}{x:XOper}{st st1:St}(h:ee m cf x st=some st1):st.h.length≤st1.h.length:=db (dr h)
theorem rz {m:Nat}{cf:av}{x:XOper}{st st1:St}(h:ee m cf x st=some st1):st1.rb=st.rb∧st1.base=st.base:=gY (dr h)
section
variable {P:Program}{ds:List Deferred}{ρ:Option Nat}{nn:Nat}
theorem B0 {m:Nat}{cf:av}(hcf:br P cf){ops:Array Oper}{xs:List XOper}{pres:List O}{tab:Nat→Nat × List O}{rw:Bool}(T:Tab P rw ops ops.toList 0 xs pres tab) (hd:qv ops.toList xs=true)
  {Q:Exit→Act→World→Prop}{st':St}{rb:Nat}(hmr:m≤rb) (d0:XOper):∀(fuel:Nat) (rem:List Nat) (listed:Array Bool) (g:Gh) (w:World) (a:Act) (st:St),
  rem.length=fuel→listed.size=ops.size→(∀i,i∈rem↔i<ops.size∧listed.getD i true=false)→rem.Pairwise (· < ·)→kB ops.toList (fun i=>listed.getD i false) →
  gt m cf (rem.map fun i=>xs.getD i d0) st=some st'→Sim ds g w a st→st.rb=rb→rb≤st.h.length→(∀i∈rem,oe g st.h (rb+(tab i).1) (tab i).2) →
  (∀a' w' g',Le g w g' w'→Sim ds g' w' a' st'→Quiet (Frb rb st.h) g st.h g' st'.h→Q .normal a' w')→wpAnyIn (FR ρ) nn P .any ops Q fuel listed a w:=by
 have hmask:jz ops.toList (ej ops.toList []):=eG ops.toList ops.toList [] [] (by simp) rfl (by intro i o j _ h;simp at h);have hdi:∀i o,ops.toList[i]?=some o→eC i o=true∧∀j,j<i→((ej ops.toList []).getD i 0).testBit j=true∨CN xs j i=true:=by
  intro i o ho;have hi:i<ops.toList.length:=(gS.1 ho).1;have:=List.all_eq_true.1 hd i (by simpa using hi);rw[ho] at this;simp only[bT,List.all_eq_true,List.mem_range,Bool.or_eq_true] at this;exact this
 have hget:∀(listed:Array Bool) i,listed.size=ops.size→i<ops.size→listed.getD i true=listed.getD i false:=by
  intro listed i hs hi;simp[Array.getD,hs,hi]
 intro fuel
 induction fuel with
 | zero =>
  intro rem listed g w a st hlen hls hmem _ _ hrun S _ _ _ hQ;have hnil:rem=[]:=List.eq_nil_of_length_eq_zero hlen;subst hnil;simp only[List.map_nil,gt,sI] at hrun;subst hrun;refine⟨?_,hQ _ _ _ (Le.refl _ _) S (Quiet.refl _ _ _)⟩;rw[List.eq_nil_iff_forall_not_mem];intro i hi;rw[mem_ready] at hi;obtain⟨h1,o,ho,_⟩:=hi;have:=(hmem i).2 ⟨(Array.getElem?_eq_some_iff.1 ho).1,h1⟩;simp at this
 | succ fuel ih =>
  intro rem listed g w a st hlen hls hmem hsort hcl hrun S hrb hrl hfr hQ;refine⟨fun hnil=>?_,fun i hi=>?_⟩
  ·exfalso;cases rem with
   | nil=>simp at hlen
   | cons i r =>
    have hi:=(hmem i).1 (by simp);have:i∈Region.ready .any ops listed:=by
     rw[mem_ready];refine⟨hi.2,ops[i],Array.getElem?_eq_getElem hi.1,fun e he hb=>?_⟩;have hl:=(hdi i ops[i] (by simp[hi.1])).1;simp only[eC,List.all_eq_true,Bool.or_eq_true,Bool.not_eq_true',dT] at hl;have hlt:e.on<i:=(hl e (by simpa using he)).resolve_left (by simp[hb]);cases hc:listed.getD e.on false with
     | true=>rfl
     | false =>
      have:e.on∈i::r:=(hmem e.on).2 ⟨by omega,by rw[hget listed e.on hls (by omega)];exact hc⟩;simp only[List.pairwise_cons] at hsort;rcases List.mem_cons.1 this with h|h
      ·omega
      ·have:=hsort.1 _ h;omega
    rw[hnil] at this;simp at this
  ·have hr:=mem_ready.1 hi;obtain⟨hun,o,ho,hpre⟩:=hr;have hilt:i<ops.size:=(Array.getElem?_eq_some_iff.1 ho).1;have hol:ops.toList[i]?=some o:=by simpa using ho
   have hir:=(hmem i).2 ⟨hilt,hun⟩;obtain⟨r1,r2,rfl⟩:=List.append_of_mem hir;have hs2:=List.pairwise_append.1 hsort;obtain⟨s1,s2,s3⟩:=hs2;simp only[List.pairwise_cons] at s2;obtain⟨x,hx,htr⟩:=T.op i o hol;have hxi:xs.getD i d0=x:=by rw[List.getD_eq_getElem?_getD,hx];rfl
   rw[List.map_append,List.map_cons,hxi] at hrun;have hbub:=uG (r1.map fun i=>xs.getD i d0) st (Nat.le_trans hmr hrl) (fun z hz=>by
    obtain⟨j,hj,rfl⟩:=List.mem_map.1 hz;have hji:j<i:=s3 j hj i (by simp);have hjm:=(hmem j).1 (by simp[hj]);rcases (hdi i o hol).2 j hji with h|h
    ·exfalso;have:=hmask i o j hol h _ hcl hpre;rw[← hget listed j hls hjm.1,hjm.2] at this;cases this
    ·unfold CN at h;split at h
     ·rename_i x1 x2 e1 e2;rw[hx] at e2;simp only[sI] at e2;subst e2;rw[List.getD_eq_getElem?_getD,e1];exact h
     ·cases h) hrun
   rw[← List.map_append] at hbub;simp only[gt] at hbub;split at hbub
   ·rename_i st1 hst1;have:=jq (ρ:=ρ) (nn:=nn) (K:=wpAnyIn (FR ρ) nn P .any ops Q fuel (listed.setIfInBounds i true)) (Q:=Q) htr (dr hst1) (Gk hcf) S (by rw[hrb];exact hfr i (by simp)) fun a' w' g' k1 k2 k3=>by
     refine ih (r1++r2) _ g' w' a' st1 (by simp at hlen ⊢;omega) (by simpa using hls) (fun j=>?_) ?_ ?_ hbub k2 ((rz hst1).1.trans hrb) (Nat.le_trans hrl (mV hst1)) (fun j hj=>?_) fun a'' w'' g'' m1 m2 m3=>hQ _ _ _ (k1.trans m1) m2 ((k3.mono (E':=Frb rb st.h) fun id hid=>hid.elim (fun h=>.inl (by have:=h.2;omega)) fun h=>h.imp (fun h=>Nat.le_trans hrl h) fun h=>h).transL k2.hk k1 m3)
     ·by_cases hji:i=j
      ·subst hji;constructor
       ·intro hj;exfalso;rcases List.mem_append.1 hj with h|h
        ·have:=s3 i h i (by simp);omega
        ·have:=s2.1 i h;omega
       ·rintro⟨_,h⟩;simp[Array.getD,hls,hilt] at h
      ·rw[getD_set_ne _ hji,← hmem j];simp only[List.mem_append,List.mem_cons];constructor
       ·rintro (h|h)
        ·exact .inl h
        ·exact .inr (.inr h)
       ·rintro (h|h|h)
        ·exact .inl h
        ·exact absurd h.symm hji
        ·exact .inr h
     ·exact List.pairwise_append.2 ⟨s1,s2.2,fun p hp' q hq=>s3 p hp' q (by simp[hq])⟩
     ·intro j o' ho' hj e he hb;simp only at hj ⊢;by_cases hji:i=j
      ·subst hji;have:o'=o:=by rw[hol] at ho';simpa using ho'.symm
       subst this;exact getD_set_true (hpre e he hb)
      ·rw[getD_set_ne _ hji] at hj;exact getD_set_true (hcl j o' ho' hj e he hb)
     ·intro hne;have hjm:j∈r1++i::r2:=by
       rcases List.mem_append.1 hj with h|h
       ·simp[h]
       ·simp[h]
      have hjs:=((hmem j).1 hjm).1;obtain⟨q1,q2,q3⟩:=hfr j hjm hne;have hin:rb+(tab j).1<st.h.length:=by
       obtain⟨p,hp'⟩:=List.exists_mem_of_ne_nil _ hne;exact (gS.1 (q3 p hp')).1
      have hslot:¬(((tab i).2≠[]∧rb+(tab j).1=st.rb+(tab i).1)∨Frb st.h.length st.h (rb+(tab j).1)):=by
       rintro (⟨n1,n2⟩|n3|n3);rotate_left
       ·omega
       ·obtain⟨p,hp'⟩:=List.exists_mem_of_ne_nil _ hne;have h1:=q3 p hp';rw[n3] at h1;simp only[sI] at h1;have h2:=List.all_eq_true.1 (T.own j (by simpa using hjs)) _ hp';rw[← h1] at h2;cases h2
       rw[hrb] at n2;rcases List.mem_append.1 hj with h|h
       ·have:=T.lt j i (s3 j h i (by simp)) (by simpa using hilt) hne;omega
       ·have:=T.lt i j (s2.1 j h) (by simpa using hjs) n1;omega
      have k:=k3 _ hslot;exact⟨k.1 q1,k.2.1 q2,fun p hp'=>(k.2.2 q1 q2).trans (q3 p hp')⟩
    unfold wpOpIn;rw[ho];simp only;split
    ·rename_i hw;rw[if_pos hw] at this;exact this
    ·rename_i hw;rw[if_neg hw] at this;exact⟨fun _ _=>trivial,this⟩
   ·cases hbub
theorem kn {m:Nat}{cf:av}(hcf:br P cf) (hm:P.follows .mixedOrders=true){id:Nat}{ops:Array Oper}{xs:List XOper}{pres:List O}{rw:Bool}(htr:ep P rw ops ops.toList 0=some (xs,pres))
  (hd:qv ops.toList xs=true){g:Gh}{w:World}{a:Act}{st st':St}(S:Sim ds g w a st) (hms:m≤st.h.length) (hrun:gt m cf xs { st with h:=st.h++pres,rb:=st.h.length }=some st')
  {Q:Exit→Act→World→Prop}(hQ:∀a' w' g',Le g w g' w'→Sim ds g' w' a' st'→Quiet (Frb st.h.length st.h) g st.h g' st'.h→Q .normal a' w'):(Code.region id ops true).wpIn (FR ρ) nn P Q a w:=by
 have hfr:∀j (hj:j<pres.length),g.blk (st.h.length+j)=none∧g.tok (st.h.length+j)=none∧(st.h++pres)[st.h.length+j]?=some pres[j]:=by
  intro j hj;refine⟨S.hk.blk_none (by omega),S.hk.tok_none (by omega),?_⟩;rw[aR (by omega)];simp[hj]
 have S':Sim ds g w a { st with h:=st.h++pres,rb:=st.h.length }:=⟨S.tm,S.hk.append _,S.df⟩
 have hq:∀{g':Gh}{h':List O},Quiet (Frb st.h.length (st.h++pres)) g (st.h++pres) g' h'→Quiet (Frb st.h.length st.h) g st.h g' h':=by
  intro g' h' k id hid;have hlt:id<st.h.length:=by
   by_cases h:id<st.h.length
   ·exact h
   ·exact absurd (.inl (by omega)) hid
  have:=k id (by
   rintro (h|h)
   ·exact hid (.inl h)
   ·rw[aL hlt] at h;exact hid (.inr h))
  rw[aL hlt] at this;exact this
 obtain⟨tab,T⟩:=mo _ _ _ _ htr;refine wpIn_region_any hm ?_;obtain⟨d1,d2⟩:=S'.hk.drew;have S2:Sim ds g w.drew a { st with h:=st.h++pres,rb:=st.h.length }:=⟨S'.tm.mono d1,d2,S.df⟩
 refine B0 (m:=m) hcf T hd (rb:=st.h.length) hms ⟨none,.mv (.k az),none⟩ ops.size (List.range ops.size) _ g w.drew a _ (by simp) (by simp) (fun i=>?_) List.pairwise_lt_range ?_ ?_ S2 rfl (by simp) (fun i hi=>?_) (fun a' w' g' k1 k2 k3=>hQ _ _ _ (d1.trans k1) k2 (hq k3))
 ·simp only[List.mem_range,Array.getD,Array.size_replicate];constructor
  ·intro h;exact⟨h,by simp[h]⟩
  ·exact fun h=>h.1
 ·intro i o ho h;simp only[Array.getD,Array.size_replicate] at h;split at h<;>simp at h
 ·have e:(List.range ops.size).map (fun i=>xs.getD i ⟨none,.mv (.k az),none⟩)=xs:=by
   apply List.ext_getElem
   ·simp[T.len]
   ·intro i h1 h2;simp[List.getD_eq_getElem?_getD,h2]
  rw[e];exact hrun
 ·intro hne;have hi':i<ops.toList.length:=by simpa using hi
  cases hpre:(tab i).2 with
  | nil=>exact absurd hpre hne
  | cons p r =>
   have h1:=T.at' i hi' p (by rw[hpre];simp);obtain⟨hlt,_⟩:=gS.1 h1;rw[Nat.sub_zero] at hlt;obtain⟨f1,f2,f3⟩:=hfr _ hlt;refine⟨f1,f2,fun q hq=>?_⟩;have h2:=T.at' i hi' q (by rw[hpre];exact hq);rw[Nat.sub_zero] at h2;rw[f3,← h2,gE hlt]
end
def Cf:Operand→List Nat
 | .tmp t=>[t]
 | _=>[]
def fc:Code→List Nat
 | .region _ ops _=>ops.toList.flatMap fun o=>o.op.operands.toList.flatMap Cf
 | .seq a b=>fc a++fc b
 | .cond c a b=>Cf c++(fc a++fc b)
 | .block _ c=>fc c
 | .loop c=>fc c
 | .rangeFunc f _ a b=>Cf f++(fc a++fc b)
 | _=>[]
def eW:Code→List Nat
 | .region _ ops _=>ops.toList.filterMap fun o=>o.dst
 | .seq a b=>eW a++eW b
 | .cond _ a b=>eW a++eW b
 | .block _ c=>eW c
 | .loop c=>eW c
 | .rangeFunc _ ps a b=>ps.toList++(eW a++eW b)
 | _=>[]
def q9 (l:List Oper):Bool:=l.any fun o=>match o.op with
 | .panic _=>true
 | _=>false
abbrev wg:XC:=.cond (.k az) .skip .skip
def AH (pf:Nat→Nat):XOp→Nat
 | .call (.k v) _=>match aT v with
  | some (f,_)=>if pf f=3 then 1 else if pf f=1 then 0 else 2
  | none=>2
 | .call _ _=>2
 | _=>0
def GT (pf:Nat→Nat) (xs:List XOper):Bool:=xs.any (fun o=>AH pf o.op==1)&&xs.all fun o=>AH pf o.op != 2
def trC (P:Program) (rw:Bool) (pf:Nat→Nat) (nt:Nat):Nat→Code→Option XC
 | _,.skip=>some .skip
 | _,.region _ ops drawn=>if q9 ops.toList=true then some wg else match ep P rw ops ops.toList 0 with
  | some (xs,pres)=>if drawn=true→cz pf ops.toList xs=true then some (.reg xs pres drawn) else if drawn=true∧(GT pf xs=true∧qv ops.toList xs=true) then some (.regr xs pres) else if drawn=true∧cz pf ops.toList (xs.map two)=true then some (.reg (xs.map two) pres drawn) else if drawn=true∧rG true pf ops.toList xs=true then some (.regm xs pres) else if drawn=true∧rG false pf ops.toList xs=true then some (.regw xs pres) else
    if drawn=true∧cz pf ops.toList (xs.map one)=true then some (.reg (xs.map one) pres drawn) else if drawn=true∧qv ops.toList xs=true then some (.regr xs pres) else some wg
  | none=>some wg
 | y,.seq a b=>match trC P rw pf nt y a,trC P rw pf nt (y+(aJ a).length) b with
  | some x,some z=>some (.seq x z)
  | _,_=>none
 | y,.cond c a b=>match trA c,trC P rw pf nt y a,trC P rw pf nt (y+(aJ a).length) b with
  | some c,some x,some z=>some (.cond c x z)
  | _,_,_=>none
 | y,.block id c=>(trC P rw pf nt y c).map (.block id)
 | y,.loop c=>(trC P rw pf nt y c).map .loop
 | _,.exit id=>some (.exit id)
 | _,.ret=>some .ret
 | y,.rangeFunc f ps a b=>(trA f).map fun f=>.rangeF f y ps.size nt ((fc a++fc b).filter fun i => !(eW a++eW b++ps.toList).contains i).eraseDups
 | _,_=>none
def l9:XC→Bool
 | .seq a b=>l9 a&&l9 b
 | .cond _ a b=>l9 a&&l9 b
 | .block _ c=>l9 c
 | .loop c=>l9 c
 | .rangeF _ _ _ _ _=>false
 | _=>true
def YcOk (y:Nat) (c:Code):Prop:=∀(j:Nat) (p:Array Tmp × Code × Code),(aJ c)[j]?=some p→yc (y+j)=some p
theorem YcOk.left {y:Nat}{l l':List (Array Tmp × Code × Code)}(h:∀(j:Nat) p,(l++l')[j]?=some p→yc (y+j)=some p):∀(j:Nat) p,l[j]?=some p→yc (y+j)=some p :=
 fun j p e=>h j p (by rw[aL (gS.1 e).1];exact e)
theorem YcOk.right {y:Nat}{l l':List (Array Tmp × Code × Code)}(h:∀(j:Nat) p,(l++l')[j]?=some p→yc (y+j)=some p):∀(j:Nat) p,l'[j]?=some p→yc (y+l.length+j)=some p :=
 fun j p e=>by
  have:=h (l.length+j) p (by rw[aR (by omega),Nat.add_sub_cancel_left];exact e);rw[Nat.add_assoc];exact this
def trR (P:Program):List ResultVar→Option (List XR)
 | []=>some []
 | .tmp t::r=>(trR P r).map (.t t :: ·)
 | .cell t ty::r=>match nT P ty,trR P r with
  | some n,some l=>some (.cell t n::l)
  | _,_=>none
def trF (P:Program) (pf:Nat→Nat) (y:Nat) (pu es rw:Bool) (fn:Func):Option XF :=
 if (fn.name == "runtime.NumGoroutine") = true then none else
 match fn.body with
 | some c=>if (aJ c).length≤100 then match trC P rw pf fn.ntmps y c,trR P fn.results.toList with
  | some xc,some rs=>some ⟨fn.ntmps,xc,rs,pu,es,rw,none⟩
  | _,_=>none
  else none
 | none=>none
structure Env (m:Nat) (ρ:Option Nat) (w:World) (ds:List Deferred):Prop where
 lo:m≤w.heap.size
 nd:ds.Nodup
 mks:∀d∈ds,∃D,d={ target:=.collected D,args:=#[] }∧m≤D∧w.heap[D]?=some (.deferred (some []))
 rho:∀l,ρ=some l→∃L,w.heap[l]?=some (.loop L)
theorem HOk.unowned {g:Gh}{w:World}{h:List O}(H:HOk g w h){b:Nat}{o:Obj}(e:w.heap[b]?=some o) (h1:jY o=false) (h2:∀L,o≠.loop L) (h3:∀es ck,o≠.map es ck):¬g.owns b:=by
 rintro (⟨id,k⟩|⟨k,l,c,q⟩)
 ·rcases H.obj _ _ k with⟨_,_,_,_,q,_⟩|⟨_,L,_,q,_⟩|⟨_,_,es,ck,_,q,_⟩
  ·rw[e] at q;cases q;cases h1
  ·rw[e] at q;cases q;exact h2 _ rfl
  ·rw[e] at q;cases q;exact h3 _ _ rfl
 ·obtain⟨_,_,_,_,q,_⟩:=H.tok _ _ _ _ q;rw[e] at q;cases q;cases h1
theorem Env.go {m:Nat}{ρ:Option Nat}{g g':Gh}{w w':World}{h:List O}{ds:List Deferred}(E:Env m ρ w ds) (H:HOk g w h) (hle:Le g w g' w'):Env m ρ w' ds where
 lo:=Nat.le_trans E.lo hle.size
 nd:=E.nd
 mks d hd:=by
  obtain⟨D,e,h1,h2⟩:=E.mks d hd;exact⟨D,e,h1,(hle.kept D (Array.getElem?_eq_some_iff.1 h2).1 (H.unowned h2 rfl (fun L=>by simp) (fun es ck=>by simp))).trans h2⟩
 rho l e:=by
  obtain⟨L,h1⟩:=E.rho l e;obtain⟨o',h2,_,⟨L',rfl,_⟩,_⟩:=hle.oth l _ h1 rfl;exact⟨L',h2⟩
theorem HOk.more {g:Gh}{w w':World}{h:List O}(H:HOk g w h){o:Obj}(hg:Grew w w' o):Le g w g w'∧HOk g w' h:=by
 have hle:Le g w g w':=Le.quiet (fun _ _ h=>h) (fun _ _ h=>h) (fun _ _ h=>h) H.al (fun _ h _=>h) (fun _ _ h _=>.inl h) (fun b hb=>hg.old hb) (by rw[hg.size];omega) hg.tape hg.os hg.output;refine⟨hle,fun id b e=>?_,fun id b n cap e=>?_,H.inj,H.tinj,H.bt,H.ag.go hle fun b o h=>by have:=H.al b o h;rw[hg.size];omega⟩
 ·have hlt:=(H.blk_lt e).2;rcases H.obj _ _ e with⟨cs,c,T,h1,h2,h3,h4,h5⟩|t
  ·exact .inl ⟨cs,c,T,h1,(hg.old hlt).trans h2,h3,fun j hj hc=>⟨(h4 j hj hc).1.mono hle,(h4 j hj hc).2⟩,h5⟩
  ·exact .inr (t.go hle rfl (hg.old hlt) fun _ h=>h)
 ·have hlt:=(H.tok_lt e).2;obtain⟨z,c,T,h1,h2,h3⟩:=H.tok _ _ _ _ e;exact⟨z,c,T,h1.go hle rfl (fun _ h=>h),(hg.old hlt).trans h2,h3⟩
def Ex.to:Ex→Exit
 | .normal=>.normal
 | .exit id=>.exit id
 | .ret=>.ret
section
variable {P:Program}
theorem zA {m:Nat}{ρ:Option Nat}{g:Gh}{w:World}{a:Act}{st:St}{ds:List Deferred}(S:Sim ds g w a st) (E:Env m ρ w ds) (fn:FuncId){y:Nat}{ps:Array Tmp}{asg body:Code}(hy:yc y=some (ps,asg,body)) :
  ∃l mark w2 g2,(Instr.enterLoop fn a.tmps ps asg body ρ).run P w=.ok (l,mark) w2∧Le g w g2 w2∧HOk g2 w2 (st.h++[.loop 0])∧g2.blk st.h.length=some l∧LoopAt w2 l y ps.size a.tmps ∧
   (∀id,id<st.h.length→g2.blk id=g.blk id∧g2.tok id=g.tok id)∧Env m ρ w2 (mark++ds):=by
 have hset:(st.h++[O.loop 0]).set st.h.length (.loop 0)=st.h++[.loop 0]:=by simp
 have fin:∀(w1:World) (L:Loop) (ms:List Deferred),Le g w g w1→HOk g w1 st.h→L.state=.ready→L.pending=none→L.tmps=a.tmps→L.params=ps→L.assign=asg→L.body=body→Env m ρ w1 (ms++ds) →
   ∃g2,Le g w g2 (w1.alloc (.loop L))∧HOk g2 (w1.alloc (.loop L)) (st.h++[.loop 0])∧g2.blk st.h.length=some w1.heap.size∧LoopAt (w1.alloc (.loop L)) w1.heap.size y ps.size a.tmps ∧
    (∀id,id<st.h.length→g2.blk id=g.blk id∧g2.tok id=g.tok id)∧Env m ρ (w1.alloc (.loop L)) (ms++ds):=by
  intro w1 L ms hle1 H1 e1 e2 e3 e4 e5 e6 E1;have H2:=H1.append [.loop 0];have hb:g.blk st.h.length=none:=H1.blk_none (nL _);have ht:g.tok st.h.length=none:=H1.tok_none (nL _);obtain⟨hle2,H3⟩:=H2.newOth (id:=st.h.length) (by simp) hb ht (ob:=.loop L) (x:=.loop 0) (Grew.alloc w1 _) (fun g' h' hf hx=>.inl ⟨0,L,hx,(Grew.alloc w1 _).new,⟨e1,e2⟩,hf⟩);rw[hset] at H3;refine⟨_,hle1.trans hle2,H3,by simp[Gh.setBlk],⟨L,(Grew.alloc w1 _).new,e3,by rw[e4,e5,e6];exact hy,by rw[e4]⟩,fun id hid=>?_,E1.go H2 hle2⟩;have:id≠st.h.length:=by omega
  simp[Gh.setBlk,this]
 cases ρ with
 | none =>
  obtain⟨hle1,H1⟩:=S.hk.more (Grew.alloc w (.deferred (some [])));have hD:(w.alloc (.deferred (some []))).heap[w.heap.size]?=some (.deferred (some [])):=(Grew.alloc w _).new;have E1:Env m none (w.alloc (.deferred (some []))) ([{ target:=.collected w.heap.size,args:=#[] }]++ds):=by
   have E0:=E.go S.hk hle1;refine⟨E0.lo,?_,fun d hd=>?_,E0.rho⟩
   ·simp only[List.cons_append,List.nil_append,List.nodup_cons];refine⟨fun hin=>?_,E.nd⟩;obtain⟨D,e,_,h2⟩:=E.mks _ hin;simp only[Deferred.mk.injEq,Target.collected.injEq,and_true] at e;have:=(Array.getElem?_eq_some_iff.1 h2).1;omega
   ·simp only[List.cons_append,List.nil_append,List.mem_cons] at hd;rcases hd with rfl|hd
    ·exact⟨_,rfl,E.lo,hD⟩
    ·exact E0.mks d hd
  obtain⟨g2,k1,k2,k3,k4,k5,k6⟩:=fin (w.alloc (.deferred (some []))) { state:=.ready,pending:=none,fn,tmps:=a.tmps,params:=ps,assign:=asg,body,defers:=w.heap.size } _ hle1 H1 rfl rfl rfl rfl rfl rfl E1;exact⟨_,_,_,g2,run_enterLoop_outer fn a.tmps ps asg body,k1,k2,by rw[k3];simp,by simpa using k4,k5,k6⟩
 | some l0 =>
  obtain⟨L0,hL0⟩:=E.rho l0 rfl;obtain⟨g2,k1,k2,k3,k4,k5,k6⟩:=fin w { state:=.ready,pending:=none,fn,tmps:=a.tmps,params:=ps,assign:=asg,body,defers:=L0.defers } [] (Le.refl _ _) S.hk rfl rfl rfl rfl rfl rfl (by simpa using E);refine⟨w.heap.size,[],_,g2,?_,k1,k2,k3,k4,k5,k6⟩;simp only[Instr.enterLoop,Sem.run_bind,run_getLoop hL0,Result.andThen_ok,Sem.run_pure,run_newObj_alloc]
theorem kV {rw:Bool}{pf:Nat→Nat}{cf:av}(hp:bQ pf cf) (hcf:br P cf) (hm:P.follows .mixedOrders=true){base m nn:Nat}{ρ:Option Nat}(n:Nat){nt:Nat}:∀(c:Code) (y:Nat) (xc:XC),trC P rw pf nt y c=some xc→YcOk y c→∀(ds:List Deferred) (g:Gh) (w:World) (a:Act) (st st':St) (e:Ex),
  aK cf n xc st=some (e,st')→Sim ds g w a st→base≤st.h.length→Env m ρ w ds→∀Q:Exit→Act→World→Prop,
  (∀ds' a' w' g',Le g w g' w'→Sim ds' g' w' a' st'→Quiet (Frb base st.h) g st.h g' st'.h→base≤st'.h.length→Env m ρ w' ds'→(l9 xc=true→ds'=ds)→Q e.to a' w')→c.wpIn (FR ρ) nn P Q a w:=by
 have hgrow:∀xs st st',aC cf xs st=some st'→st.h.length≤st'.h.length:=by
  intro xs
  induction xs with
  | nil=>intro st st' h;simp only[aC,sI] at h;rw[h];exact nL _
  | cons x xs ih =>
   intro st st' h;simp only[aC] at h;split at h
   ·rename_i s1 h1;exact Nat.le_trans (db h1) (ih _ _ h)
   ·cases h
 have hgrowW:∀(m:Nat) (lt:Bool) xs st st',ed m lt cf xs st=some st'→st.h.length≤st'.h.length:=by
  intro m lt xs
  induction xs with
  | nil=>intro st st' h;simp only[ed,sI] at h;rw[h];exact nL _
  | cons x xs ih =>
   intro st st' h;simp only[ed] at h;split at h
   ·rename_i s1 h1;exact Nat.le_trans (ml h1) (ih _ _ h)
   ·cases h
 have hgrowR:∀(m:Nat) xs st st',gt m cf xs st=some st'→st.h.length≤st'.h.length:=by
  intro m xs
  induction xs with
  | nil=>intro st st' h;simp only[gt,sI] at h;rw[h];exact nL _
  | cons x xs ih =>
   intro st st' h;simp only[gt] at h;split at h
   ·rename_i s1 h1;exact Nat.le_trans (mV h1) (ih _ _ h)
   ·cases h
 intro c
 induction c with
 | skip =>
  intro y xc htr hyc ds g w a st st' e hex S hb E Q hQ;simp only[trC,sI] at htr;subst htr;simp only[aK,sI,pI] at hex;obtain⟨rfl,rfl⟩:=hex;exact wpIn_skip (hQ _ _ _ _ (Le.refl _ _) S (Quiet.refl _ _ _) hb E fun _=>rfl)
 | region id ops drawn =>
  intro y xc htr hyc ds g w a st st' e hex S hb E Q hQ;simp only[trC] at htr;split at htr
  ·simp only[sI] at htr;subst htr;simp[aK,ev,az] at hex
  split at htr
  ·rename_i xs pres h1;split at htr
   ·rename_i hd;simp only[sI] at htr;subst htr;simp only[aK,mS,pI] at hex;obtain⟨s1,h2,rfl,rfl⟩:=hex;refine wY hp hcf hm h1 hd S h2 fun a' w' g' k1 k2 k3=>hQ _ _ _ _ k1 k2 (k3.mono fun id hid=>hid.imp (fun h=>Nat.le_trans hb h) fun h=>h) ?_ (E.go S.hk k1) fun _=>rfl
    have:=hgrow _ _ _ h2;simp only[lA] at this;omega
   ·split at htr
    ·rename_i hd;obtain⟨rfl,-,hd⟩:=hd;simp only[sI] at htr;subst htr;simp only[aK,mS,pI] at hex;obtain⟨s1,h2,rfl,rfl⟩:=hex;refine kn hcf hm h1 hd S (Nat.min_le_right _ _) h2 fun a' w' g' k1 k2 k3=>hQ _ _ _ _ k1 k2 (k3.mono fun id hid=>hid.imp (fun h=>Nat.le_trans hb h) fun h=>h) ?_ (E.go S.hk k1) fun _=>rfl
     have:=hgrowR _ _ _ _ h2;simp only[lA] at this;omega
    split at htr
    ·rename_i hd;obtain⟨rfl,hd⟩:=hd;simp only[sI] at htr;subst htr;simp only[aK,mS,pI] at hex;obtain⟨s1,h2,rfl,rfl⟩:=hex;refine gC hp hcf hm h1 two EP hd S h2 fun a' w' g' k1 k2 k3=>hQ _ _ _ _ k1 k2 (k3.mono fun id hid=>hid.imp (fun h=>Nat.le_trans hb h) fun h=>h) ?_ (E.go S.hk k1) fun _=>rfl
     have:=hgrow _ _ _ h2;simp only[lA] at this;omega
    split at htr
    ·rename_i hd;obtain⟨rfl,hd⟩:=hd;simp only[sI] at htr;subst htr;simp only[aK,mS,pI] at hex;obtain⟨s1,h2,rfl,rfl⟩:=hex;refine kI hcf hm h1 hd S h2 fun a' w' g' k1 k2 k3=>hQ _ _ _ _ k1 k2 (k3.mono fun id hid=>hid.imp (fun h=>Nat.le_trans hb h) fun h=>h) ?_ (E.go S.hk k1) fun _=>rfl
     have:=hgrowW _ _ _ _ _ h2;simp only[lA] at this;omega
    split at htr
    ·rename_i hd;obtain⟨rfl,hd⟩:=hd;simp only[sI] at htr;subst htr;simp only[aK,mS,pI] at hex;obtain⟨s1,h2,rfl,rfl⟩:=hex;refine kI hcf hm h1 hd S h2 fun a' w' g' k1 k2 k3=>hQ _ _ _ _ k1 k2 (k3.mono fun id hid=>hid.imp (fun h=>Nat.le_trans hb h) fun h=>h) ?_ (E.go S.hk k1) fun _=>rfl
     have:=hgrowW _ _ _ _ _ h2;simp only[lA] at this;omega
    ·split at htr
     ·rename_i hd;obtain⟨rfl,hd⟩:=hd;simp only[sI] at htr;subst htr;simp only[aK,mS,pI] at hex;obtain⟨s1,h2,rfl,rfl⟩:=hex;refine gC hp hcf hm h1 one EI hd S h2 fun a' w' g' k1 k2 k3=>hQ _ _ _ _ k1 k2 (k3.mono fun id hid=>hid.imp (fun h=>Nat.le_trans hb h) fun h=>h) ?_ (E.go S.hk k1) fun _=>rfl
      have:=hgrow _ _ _ h2;simp only[lA] at this;omega
     ·split at htr
      ·rename_i hd;obtain⟨rfl,hd⟩:=hd;simp only[sI] at htr;subst htr;simp only[aK,mS,pI] at hex;obtain⟨s1,h2,rfl,rfl⟩:=hex;refine kn hcf hm h1 hd S (Nat.min_le_right _ _) h2 fun a' w' g' k1 k2 k3=>hQ _ _ _ _ k1 k2 (k3.mono fun id hid=>hid.imp (fun h=>Nat.le_trans hb h) fun h=>h) ?_ (E.go S.hk k1) fun _=>rfl
       have:=hgrowR _ _ _ _ h2;simp only[lA] at this;omega
      ·simp only[sI] at htr;subst htr;simp[aK,ev,az] at hex
  ·simp only[sI] at htr;subst htr;simp[aK,ev,az] at hex
 | seq c1 c2 ih1 ih2 =>
  intro y xc htr hyc ds g w a st st' e hex S hb E Q hQ;simp only[trC] at htr;split at htr
  ·rename_i x z h1 h2;simp only[sI] at htr;subst htr;have hy1:YcOk y c1:=YcOk.left hyc;have hy2:YcOk (y+(aJ c1).length) c2:=YcOk.right hyc;simp only[aK] at hex;simp only[l9,bT] at hQ;split at hex
   ·rename_i s1 h3;refine wpIn_seq (ih1 _ _ h1 hy1 ds g w a st s1 _ h3 S hb E _ fun ds' a' w' g' k1 k2 k3 k4 k5 k6=>?_);exact ih2 _ _ h2 hy2 ds' g' w' a' s1 st' e hex k2 k4 k5 _ fun ds'' a'' w'' g'' m1 m2 m3 m4 m5 m6=>hQ _ _ _ _ (k1.trans m1) m2 (k3.transL k2.hk k1 m3) m4 m5 fun h=>(m6 h.2).trans (k6 h.1)
   ·rename_i hne;have hn:∀s,e≠.normal∨s≠st':=fun s=>by
     cases e with
     | normal=>exact .inr fun h=>by subst h;exact hne _ hex
     | exit id=>exact .inl (by simp)
     | ret=>exact .inl (by simp)
    refine wpIn_seq (ih1 _ _ h1 hy1 ds g w a st st' e hex S hb E _ fun ds' a' w' g' k1 k2 k3 k4 k5 k6=>?_);cases e with
    | normal=>exact absurd hex (hne _)
    | exit id=>exact hQ _ _ _ _ k1 k2 k3 k4 k5 fun h=>k6 h.1
    | ret=>exact hQ _ _ _ _ k1 k2 k3 k4 k5 fun h=>k6 h.1
  ·cases htr
 | cond cc c1 c2 ih1 ih2 =>
  intro y xc htr hyc ds g w a st st' e hex S hb E Q hQ;simp only[trC] at htr;split at htr
  ·rename_i xcc x z h0 h1 h2;simp only[sI] at htr;subst htr;have hy1:YcOk y c1:=YcOk.left hyc;have hy2:YcOk (y+(aJ c1).length) c2:=YcOk.right hyc;simp only[aK] at hex;simp only[l9,bT] at hQ;split at hex
   ·rename_i t ht;have hr:=aN S.tm h0;rw[ht] at hr;refine wpIn_cond hr.of_c ?_;cases t with
    | true=>exact ih1 _ _ h1 hy1 ds g w a st st' e (by simpa using hex) S hb E Q fun ds' a' w' g' k1 k2 k3 k4 k5 k6=>hQ _ _ _ _ k1 k2 k3 k4 k5 fun h=>k6 h.1
    | false=>exact ih2 _ _ h2 hy2 ds g w a st st' e (by simpa using hex) S hb E Q fun ds' a' w' g' k1 k2 k3 k4 k5 k6=>hQ _ _ _ _ k1 k2 k3 k4 k5 fun h=>k6 h.2
   ·cases hex
  ·cases htr
 | block id c ih =>
  intro y xc htr hyc ds g w a st st' e hex S hb E Q hQ;simp only[trC,mS] at htr;obtain⟨x,h1,rfl⟩:=htr;simp only[aK] at hex;simp only[l9] at hQ;split at hex
  ·rename_i id' s1 h2;refine wpIn_block (ih _ _ h1 hyc ds g w a st s1 _ h2 S hb E _ fun ds' a' w' g' k1 k2 k3 k4 k5 k6=>?_);simp only[Ex.to,Exit.inBlock];split at hex
   ·rename_i hid;simp only[sI,pI] at hex;obtain⟨rfl,rfl⟩:=hex;rw[if_pos hid];exact hQ _ _ _ _ k1 k2 k3 k4 k5 k6
   ·rename_i hid;simp only[sI,pI] at hex;obtain⟨rfl,rfl⟩:=hex;rw[if_neg hid];exact hQ _ _ _ _ k1 k2 k3 k4 k5 k6
  ·rename_i hne;refine wpIn_block (ih _ _ h1 hyc ds g w a st st' e hex S hb E _ fun ds' a' w' g' k1 k2 k3 k4 k5 k6=>?_);cases e with
   | normal=>exact hQ _ _ _ _ k1 k2 k3 k4 k5 k6
   | exit id=>exact absurd hex (hne _ _)
   | ret=>exact hQ _ _ _ _ k1 k2 k3 k4 k5 k6
 | loop c ih =>
  intro y xc htr hyc ds g w a st st' e hex S hb E Q hQ;simp only[trC,mS] at htr;obtain⟨x,h1,rfl⟩:=htr;simp only[aK] at hex;simp only[l9] at hQ;refine wpIn_loop_ghost (fun k a1 w1=>∃ds1 g1 s1,Le g w g1 w1∧Sim ds1 g1 w1 a1 s1∧Quiet (Frb base st.h) g st.h g1 s1.h∧base≤s1.h.length∧Env m ρ w1 ds1∧(l9 x=true→ds1=ds)∧iq (aK cf n x) k s1=some (e,st')) n ⟨ds,g,st,Le.refl _ _,S,Quiet.refl _ _ _,hb,E,fun _=>rfl,hex⟩ ?_;rintro k a1 w1 ⟨ds1,g1,s1,l1,S1,q1,b1,E1,d1,hit⟩;cases k with
  | zero=>simp[iq] at hit
  | succ k =>
   simp only[iq] at hit;split at hit
   ·rename_i s2 h2;exact ih _ _ h1 hyc ds1 g1 w1 a1 s1 s2 _ h2 S1 b1 E1 _ fun ds' a' w' g' k1 k2 k3 k4 k5 k6=>⟨k,Nat.lt_succ_self _,ds',g',s2,l1.trans k1,k2,q1.transL S1.hk l1 k3,k4,k5,fun h=>(k6 h).trans (d1 h),hit⟩
   ·rename_i hne;refine ih _ _ h1 hyc ds1 g1 w1 a1 s1 st' e hit S1 b1 E1 _ fun ds' a' w' g' k1 k2 k3 k4 k5 k6=>?_
    cases e with
    | normal=>exact absurd hit (hne _)
    | exit id=>exact hQ _ _ _ _ (l1.trans k1) k2 (q1.transL S1.hk l1 k3) k4 k5 fun h=>(k6 h).trans (d1 h)
    | ret=>exact hQ _ _ _ _ (l1.trans k1) k2 (q1.transL S1.hk l1 k3) k4 k5 fun h=>(k6 h).trans (d1 h)
 | exit id =>
  intro y xc htr hyc ds g w a st st' e hex S hb E Q hQ;simp only[trC,sI] at htr;subst htr;simp only[aK,sI,pI] at hex;obtain⟨rfl,rfl⟩:=hex;exact wpIn_exit (hQ _ _ _ _ (Le.refl _ _) S (Quiet.refl _ _ _) hb E fun _=>rfl)
 | ret =>
  intro y xc htr hyc ds g w a st st' e hex S hb E Q hQ;simp only[trC,sI] at htr;subst htr;simp only[aK,sI,pI] at hex;obtain⟨rfl,rfl⟩:=hex;exact wpIn_ret (hQ _ _ _ _ (Le.refl _ _) S (Quiet.refl _ _ _) hb E fun _=>rfl)
 | rangeFunc f ps asg body _ _ =>
  intro y xc htr hyc ds g w a st st' e hex S hb E Q hQ;simp only[trC,mS] at htr;obtain⟨fa,hfa,rfl⟩:=htr;have hy:yc y=some (ps,asg,body):=hyc 0 _ rfl;simp only[aK] at hex;split at hex;rotate_left
  ·cases hex
  rename_i gf lb hcal;split at hex;rotate_left
  ·cases hex
  rename_i hlt;split at hex;rotate_left
  ·cases hex
  rename_i r h1 hcall;split at hex;rotate_left
  ·cases hex
  rename_i s hs;simp only[mS,pI] at hex;obtain⟨e',he',rfl,rfl⟩:=hex;obtain⟨⟨fn0,hfn,hnm,hbody⟩,hat⟩:=(hcf _ _ _ _ _ hcall).1 hlt.1;have hFr:=aN S.tm hfa;obtain⟨cv,hFv,hcs,hcr⟩:∃cv:Array Value,a.eval f=.func (.func gf) #[] cv∧cv.size=lb.length∧∀i (hi:i<cv.size) (hj:i<lb.length),Rep g w cv[i] lb[i]:=by
   unfold aT at hcal;split at hcal
   ·rename_i heq;split at hcal
    ·rename_i hpq;simp only[sI,pI] at hcal;obtain⟨rfl,rfl⟩:=hcal;obtain⟨h1,h2⟩:=hpq;rw[heq,Array.eq_empty_of_size_eq_zero h1,Array.eq_empty_of_size_eq_zero h2] at hFr;exact⟨#[],hFr.of_c,rfl,fun i hi=>absurd hi (by simp)⟩
    ·cases hcal
   ·rename_i heq;simp only[sI,pI] at hcal;obtain⟨rfl,rfl⟩:=hcal;rw[heq] at hFr;exact hFr.of_clo
   ·cases hcal
  refine wpIn_rangeFunc fun fn _=>?_
  obtain⟨l,mark,w2,g2,hent,hle2,H2,hb2,hla,hsame,E2⟩:=zA (P:=P) S E fn hy;have hlen:st.h.length<(st.h++[O.loop 0]).length:=by simp
  refine⟨l,mark,w2,{ target:=.fn (.func gf) cv,args:=#[.func (.yield l) #[] #[]] },w2,gf,#[.func (.yield l) #[] #[]]++cv,w2,hent,?_,fun _ _=>trivial,?_,fun h=>by simp[FR,Fence.wide] at h,iF (Calls.mono (hat g2 w2 _ H2 (by simp[hcs];omega) fun i hi hj=>?_) ?_)⟩
  ·simp only[resolve,hFv];simp[go_sem]
  ·have n1 : ¬ fn0.name = "runtime.NumGoroutine" := by simpa using hnm
   have n2:¬fn0.body=none:=by intro h;rw[h] at hbody;simp at hbody
   simp[invoke,callFunc,hfn,n1,n2]
  ·cases i with
   | zero =>
    have e0:(#[Value.func (.yield l) #[] #[]]++cv)[0]=.func (.yield l) #[] #[]:=by simp[Array.getElem_append]
    rw[e0];refine .yld l _ y _ a.tmps _ hb2 hla (by simp[lO,S.tm.1,hlt.2.2]) fun i hi hj=>?_
    simp only[lO,List.getElem_map,List.getElem_range];split
    ·have hi2:i<st.tm.length:=by rw[← S.tm.1];exact hi
     have:=(S.tm.2 i hi hi2).mono hle2;simpa[List.getD,hi2] using this
    ·exact .top _
   | succ i =>
    have hi':i<cv.size:=by simp at hi;omega
    have hj':i<lb.length:=by simpa using hj
    have e1:(#[Value.func (.yield l) #[] #[]]++cv)[i+1]=cv[i]:=by simp[Array.getElem_append]
    rw[e1];simp only[List.getElem_cons_succ];exact (hcr i hi' hj').mono hle2
  ·rintro e w3 ⟨v,g3,rfl,hle3,H3,_,q3⟩;have hb3:g3.blk st.h.length=some l:=hle3.blk _ _ hb2;obtain⟨L3,hL3,hst3,hnf3⟩:∃L,w3.heap[l]?=some (.loop L)∧nU s L∧∀o,¬g3.fz l o:=by
    rcases H3.obj _ _ hb3 with⟨_,_,_,q,_⟩|⟨s',L,q,q2,q3,q4⟩|⟨_,_,_,_,q,_⟩<;>rw[hs] at q<;>simp only[sI,O.loop.injEq,reduceCtorEq] at q
    subst q;exact⟨L,q2,q3,q4⟩
   have hnb:L3.state≠.busy:=by
    match s,he',hst3 with
    | 0,_,h=>rw[h.1];simp
    | 1,h,_=>simp[Ex.ofNum] at h
    | 2,h,_=>simp[Ex.ofNum] at h
    | 3,_,h=>rw[h.1];simp
    | n+4,_,h=>rw[h.1];simp
   have hrun:=run_endLoop (P:=P) hL3 hnb;obtain⟨hle4,H4⟩:=H3.setOth hb3 hL3 rfl (ob':=.loop { L3 with state:=.exhausted }) rfl ⟨_,rfl,rfl,rfl,rfl,rfl,rfl,rfl⟩ (w':=w3.putObj l (.loop { L3 with state:=.exhausted })) rfl rfl rfl rfl (x:=.loop 2)
    (fun h' hx hb' t _=>.inl ⟨2,_,hx,hb',trivial,hnf3⟩)
   have hle:=(hle2.trans hle3).trans hle4;have S4:Sim (mark++ds) g3 (w3.putObj l (.loop { L3 with state:=.exhausted })) { a with defers:=mark++a.defers } { st with h:=h1.set st.h.length (.loop 2) } :=
    ⟨⟨S.tm.1,fun i hi hj=>(S.tm.2 i hi hj).mono hle,fun n v e=>(S.tm.3 n v e).mono hle⟩,H4,by simp[S.df]⟩
   have E4:=(E2.go H2 hle3).go H3 hle4;have hqq:Quiet (Frb base st.h) g st.h g3 (h1.set st.h.length (.loop 2)):=by
    intro id hid;have hidl:id<st.h.length:=Nat.lt_of_lt_of_le (Nat.lt_of_not_le fun h=>hid (.inl h)) hb;obtain⟨e1,e2⟩:=hsame id hidl;have hq:=q3 id (by
     rintro (h|h)
     ·simp at h;omega
     ·rw[aL hidl] at h;exact hid (.inr h))
    rw[aL hidl,e1,e2] at hq;refine⟨hq.1,hq.2.1,fun a1 a2=>?_⟩;rw[sN (by omega)];exact hq.2.2 a1 a2
   have hbl:base≤(h1.set st.h.length (O.loop 2)).length:=by
    have:=(gS.1 hs).1;rw[List.length_set];omega
   have done:=hQ _ _ _ _ hle S4 hqq hbl E4 (fun h=>by simp[l9] at h);refine⟨L3.pending,_,hrun,?_⟩
   match s,he',hst3 with
   | 0,he,h =>
    simp only[Ex.ofNum,sI] at he;subst he;rw[h.2] at done ⊢;exact done
   | 1,h,_=>simp[Ex.ofNum] at h
   | 2,h,_=>simp[Ex.ofNum] at h
   | 3,he,h =>
    simp only[Ex.ofNum,sI] at he;subst he;rw[h.2] at done ⊢;exact wpIn_ret done
   | n+4,he,h =>
    simp only[Ex.ofNum,sI] at he;subst he;rw[h.2] at done ⊢;exact wpIn_exit done
 | _=>intro y xc htr;simp[trC] at htr
theorem bZ {rw:Bool}{pf:Nat→Nat}{cf:av}(hp:bQ pf cf) (hcf:br P cf) (hm:P.follows .mixedOrders=true){base:Nat}(n:Nat) (c:Code) (xc:XC){nt:Nat}(y:Nat) (htr:trC P rw pf nt y c=some xc) (hy:aJ c=[]) (hn:l9 xc=true) (g:Gh) (w:World) (a:Act) (st st':St) (e:Ex)
  (hex:aK cf n xc st=some (e,st')) (S:Sim [] g w a st) (hb:base≤st.h.length) (Q:Exit→Act→World→Prop)
  (hQ:∀a' w' g',Le g w g' w'→Sim [] g' w' a' st'→Quiet (Frb base st.h) g st.h g' st'.h→base≤st'.h.length→Q e.to a' w'):c.wp P Q a w :=
 (wpIn_wide (n:=0)).1 (kV (m:=0) (ρ:=none) (nn:=0) hp hcf hm n c y xc htr (fun j p h=>by rw[hy] at h;simp at h) [] g w a st st' e hex S hb ⟨Nat.zero_le _,List.nodup_nil,fun d hd=>by simp at hd,fun l h=>by cases h⟩ Q
  fun ds' a' w' g' k1 k2 k3 k4 k5 k6=>hQ a' w' g' k1 (by rw[← k6 hn];exact k2) k3 k4)
theorem wq {g:Gh}{w:World}{a:Act}{st:St}{ds:List Deferred}(S:Sim ds g w a st):∀{l:List ResultVar}{rs:List XR}{vs:List V},trR P l=some rs→cE st rs=some vs →
  ∃xs:List Value,(l.mapM fun|.tmp t=>pure (a.tmps.getD t undef)|.cell b t=>do loadVar t (← asAddr (a.tmps.getD b undef)):Sem (List Value)).run P w=.ok xs w∧xs.length=vs.length∧∀i (hi:i<xs.length) (hj:i<vs.length),Rep g w xs[i] vs[i]
 | [],rs,vs,h1,h2=>by
  simp only[trR,sI] at h1;subst h1;simp only[cE,sI] at h2;subst h2;exact⟨[],by simp,rfl,fun i hi=>absurd hi (by simp)⟩
 | .tmp t::l,rs,vs,h1,h2=>by
  simp only[trR,mS] at h1;obtain⟨rs',h3,rfl⟩:=h1;simp only[cE,xI] at h2;split at h2
  ·rename_i v vs' k1 k2;simp only[sI] at h2;subst h2;obtain⟨xs,r1,r2,r3⟩:=wq S h3 k2;obtain⟨hlt,rfl⟩:=gS.1 k1;have hlt':t<a.tmps.size:=by rw[S.tm.1];exact hlt
   refine⟨a.tmps[t]::xs,?_,by simp[r2],fun i hi hj=>?_⟩
   ·simp only[List.mapM_cons,Sem.run_bind,Sem.run_pure,Result.andThen_ok,r1,Array.getD,hlt',dif_pos];rfl
   ·cases i with
    | zero=>exact S.tm.2 t hlt' hlt
    | succ i=>exact r3 i (by simpa using hi) (by simpa using hj)
  ·cases h2
 | .cell t ty::l,rs,vs,h1,h2=>by
  simp only[trR] at h1;split at h1
  ·rename_i n rs' hn h3;simp only[sI] at h1;subst h1;simp only[cE,xI] at h2;split at h2
   ·rename_i v vs' k1 k2;simp only[sI] at h2;subst h2;obtain⟨xs,r1,r2,r3⟩:=wq S h3 k2;split at k1
    ·rename_i id o hid;split at k1
     ·rename_i cs hcs;obtain⟨hlt,he⟩:=gS.1 hid;have hlt':t<a.tmps.size:=by rw[S.tm.1];exact hlt
      have hr:=S.tm.2 t hlt' hlt;rw[he] at hr;obtain⟨b,hX,hb⟩:=hr.of_ref;obtain⟨cs0,c,T,c1,c2,c3,c4,c5⟩:=S.hk.cellsOf hb hcs;have hcs0:cs0=cs:=by rw[hcs] at c1;simp at c1;exact c1.symm
      subst hcs0;obtain⟨y,h6,h7⟩:=dL (P:=P) (b:=b) (o0:=0) hn (f:=fun j=>c.getD j undef) (fun j hj=>by
       have hj2:j<c.size:=by omega
       have e1:c.getD j undef=c[j]:=by simp[Array.getD,hj2]
       rw[Nat.zero_add,bW c2];simp only[e1];exact⟨by simp[hj2],(c4 j hj hj2).2⟩) (fun j hj=>by
       have hj2:j<c.size:=by omega
       have e1:c.getD j undef=c[j]:=by simp[Array.getD,hj2]
       simp only[e1];exact (c4 j hj hj2).1) k1
      rw[Nat.zero_add] at h6;refine⟨y::xs,?_,by simp[r2],fun i hi hj=>?_⟩
      ·have e2:a.tmps.getD t undef=.pointer (some ⟨b,o,none⟩):=by simp[Array.getD,hlt',hX]
       have e3:(asAddr (a.tmps.getD t undef)).run P w=.ok ⟨b,o,none⟩ w:=by rw[e2];rfl
       simp only[List.mapM_cons,Sem.run_bind,e3,Sem.run_pure,Result.andThen_ok,h6,r1]
      ·cases i with
       | zero=>exact h7
       | succ i=>exact r3 i (by simpa using hi) (by simpa using hj)
     ·cases k1
    ·cases k1
   ·cases h2
  ·cases h1
theorem jW {g:Gh}{w:World}{a:Act}{st:St}{ds:List Deferred}(S:Sim ds g w a st){fn:Func}{rs:List XR}{vs:List V}(h1:trR P fn.results.toList=some rs) (h2:cE st rs=some vs) :
  ∃x,(results fn a.tmps).run P w=.ok x w∧Rep g w x (bk vs):=by
 obtain⟨xs,r1,r2,r3⟩:=wq S h1 h2;have e:(results fn a.tmps).run P w=.ok (if h:xs.toArray.size=1 then xs.toArray[0] else .tuple xs.toArray) w:=by
  unfold results;rw[Array.mapM_eq_mapM_toList];simp only[map_eq_pure_bind,bind_assoc,pure_bind,Sem.run_bind]
  erw [r1]
  rfl
 refine⟨_,e,?_⟩;cases xs with
 | nil =>
  cases vs with
  | nil=>exact .tup _ _ rfl (fun i hi=>absurd hi (by simp))
  | cons v vs=>simp at r2
 | cons x xs =>
  cases vs with
  | nil=>simp at r2
  | cons v vs =>
   cases xs with
   | nil =>
    cases vs with
    | nil=>exact r3 0 (by simp) (by simp)
    | cons v2 vs=>simp at r2
   | cons x2 xs =>
    cases vs with
    | nil=>simp at r2
    | cons v2 vs =>
     simp only[List.size_toArray,lC,bk];rw[dif_neg (by omega)];exact .tup _ _ (by simpa using r2) (fun i hi hj=>by simpa using r3 i (by simpa using hi) (by simpa using hj))
end
def Gh.frz (g:Gh) (lo:Nat) (h:List O):Gh :=
 ⟨fun id=>if id<lo then g.blk id else none,fun id=>if id<lo then g.tok id else none,fun b o=>g.fz b o∨(∃(id:Nat) (cs:List V),lo≤id∧g.blk id=some b∧h[id]?=some (O.cells cs)∧o<cs.length)∨∃(id n cap n' z:Nat) (cs:List V),lo≤id∧g.tok id=some (b,n,cap)∧h[id]?=some (O.tokc n' z cs)∧o<cs.length⟩
section
variable {g:Gh}{w:World}{h:List O}{lo:Nat}
def CL (g:Gh) (w:World) (G:Gh) (cs cs':List V):Prop:=cs'.length=cs.length∧∀i (hi:i<cs.length) (hj:i<cs'.length) (x:Value),Rep g w x cs[i]→Rep G w x cs'[i]
def d7 (g:Gh) (w:World) (G:Gh) (v v':V):Prop:=(∀x,Rep g w x v→Rep G w x v')∧CL g w G v.cells v'.cells
theorem CL.append {G:Gh}{a b a' b':List V}(h1:CL g w G a a') (h2:CL g w G b b'):CL g w G (a++b) (a'++b'):=by
 refine⟨by simp[h1.1,h2.1],fun i hi hj x hx=>?_⟩;rw[List.getElem_append] at hx ⊢;by_cases c:i<a.length
 ·have c':i<a'.length:=by rw[h1.1];exact c
  simp only[c,c',dif_pos] at hx ⊢;exact h1.2 i c c' x hx
 ·have c':¬i<a'.length:=by rw[h1.1];exact c
  simp only[c,c',dif_neg,not_false_eq_true] at hx ⊢;have e:i-a'.length=i-a.length:=by rw[h1.1]
  simp only[lA] at hi hj;have:=h2.2 (i-a.length) (by omega) (by rw[h2.1];omega) x hx;simp only[e];exact this
theorem CL.one {G:Gh}{v v':V}(h1:v.cells=[v]) (h2:v'.cells=[v']) (h3:∀x,Rep g w x v→Rep G w x v'):d7 g w G v v':=by
 refine⟨h3,?_⟩;rw[h1,h2];refine⟨rfl,fun i hi hj x hx=>?_⟩;have:i=0:=by simp at hi;omega
 subst this;exact h3 x hx
theorem CL.flats {G:Gh}:∀{us us':List V},us'.length=us.length→(∀i (hi:i<us.length) (hj:i<us'.length),d7 g w G us[i] us'[i])→CL g w G (aG us) (aG us')
 | [],[],_,_=>⟨rfl,fun i hi=>by simp[Ab.aG] at hi⟩
 | u::us,u'::us',hl,hp=>by
  have h0:=(hp 0 (by simp) (by simp)).2;have ih:=CL.flats (us:=us) (us':=us') (by simpa using hl) fun i hi hj=>hp (i+1) (by simpa using hi) (by simpa using hj)
  have e:∀(a:V) (l:List V),Ab.aG (a::l)=a.cells++Ab.aG l:=fun a l=>by simp[Ab.aG]
  rw[e,e];exact CL.append h0 ih
 | [],_::_,hl,_=>by simp at hl
 | _::_,[],hl,_=>by simp at hl
theorem CL.fz {G:Gh}{us us':List V}(hl:us'.length=us.length) (hp:∀i (hi:i<us.length) (hj:i<us'.length),d7 g w G us[i] us'[i]){z:Nat}(hz:∀u∈us,u.cells.length=z):∀u∈us',u.cells.length=z:=by
 intro u hu;obtain⟨i,hi,rfl⟩:=List.getElem_of_mem hu;have hi':i<us.length:=by omega
 rw[(hp i hi' hi).2.1];exact hz _ (List.getElem_mem hi')
theorem jd {f:V→Option V}{Q:V→V→Prop}(hf:∀u u',f u=some u'→Q u u'):∀{us us':List V},lk f us=some us'→us'.length=us.length∧∀i (hi:i<us.length) (hj:i<us'.length),Q us[i] us'[i]
 | [],us',h=>by
  simp only[lk,sI] at h;subst h;exact⟨rfl,fun i hi=>by simp at hi⟩
 | u::us,us',h=>by
  simp only[lk] at h;split at h
  ·rename_i u1 us1 h1 h2;simp only[sI] at h;subst h;obtain⟨k1,k2⟩:=jd hf h2;refine⟨by simp[k1],fun i hi hj=>?_⟩;cases i with
   | zero=>exact hf _ _ h1
   | succ i=>exact k2 i (by simpa using hi) (by simpa using hj)
  ·cases h
mutual
theorem qE (H:HOk g w h){f:V→Option V}(hf:∀u u',f u=some u'→d7 g w (g.frz lo h) u u'):∀(v v':V),bx lo f h v=some v'→d7 g w (g.frz lo h) v v'
 | .c x,v',e=>by
  simp only[bx,sI] at e;subst e;exact CL.one rfl rfl fun y hy=>by rw[hy.of_c];exact .c _
 | .agg cs,v',e=>by
  simp only[bx,mS] at e;obtain⟨cs',e,rfl⟩:=e;obtain⟨k1,k2⟩:=dv H hf cs cs' e;refine⟨fun x hx=>?_,k1,fun i hi hj x hx=>(k2 i hi hj).1 x hx⟩;obtain⟨xs,rfl,hn,h1,h2⟩:=hx.of_agg;exact .agg xs _ (by rw[hn,k1]) h1 fun i hi hj=>(k2 i (by omega) hj).1 _ (h2 i hi (by omega))
 | .tup cs,v',e=>by
  simp only[bx,mS] at e;obtain⟨cs',e,rfl⟩:=e;obtain⟨k1,k2⟩:=dv H hf cs cs' e;refine CL.one rfl rfl fun x hx=>?_
  obtain⟨xs,rfl,hn,h2⟩:=hx.of_tup;exact .tup xs _ (by rw[hn,k1]) fun i hi hj=>(k2 i (by omega) hj).1 _ (h2 i hi (by omega))
 | .sl us i,v',e=>by
  simp only[bx,mS] at e;obtain⟨us',e,rfl⟩:=e;obtain⟨k1,k2⟩:=dv H hf us us' e;refine CL.one rfl rfl fun x hx=>?_
  obtain⟨A,cap,z,cv,rfl,hc,hzz,hA,hr,hi⟩:=hx.of_sl;have hcl:=CL.flats k1 k2;refine .sl _ _ _ _ _ z cv k1.symm hc (CL.fz k1 k2 hzz) (fun hne=>?_) (fun j hj=>?_) trivial
  ·obtain⟨b,o,e1,h3⟩:=hA (by intro e;subst e;cases us' with|nil=>exact hne rfl|cons q r=>simp at k1);rw[k1];exact⟨b,o,e1,fun j hj=>⟨.inl (h3 j hj).1,(h3 j hj).2⟩⟩
  ·exact hcl.2 j (by rw[← hcl.1];exact hj) hj _ (hr j (by rw[← hcl.1];exact hj))
 | .ptr cs o,v',e=>by
  simp only[bx,mS] at e;obtain⟨cs',e,rfl⟩:=e;obtain⟨k1,k2⟩:=dv H hf cs cs' e;refine CL.one rfl rfl fun x hx=>?_
  obtain⟨b,o0,cv,rfl,h1,h2⟩:=hx.of_ptr;exact .ptr b o0 _ _ _ cv rfl (fun j hj=>⟨.inl (h1 j (by omega)).1,(h1 j (by omega)).2⟩) fun j hj=>(k2 j (by omega) hj).1 _ (h2 j (by omega))
 | .ref id o,v',e=>by
  simp only[bx] at e;split at e
  ·rename_i hid;simp only[sI] at e;subst e;refine CL.one rfl rfl fun x hx=>?_
   obtain⟨b,rfl,hb⟩:=hx.of_ref;exact .ref id b o (by simp[Gh.frz,hid,hb])
  ·cases e
 | .bnd fn id o,v',e=>by
  simp only[bx] at e;split at e
  ·rename_i hid;simp only[sI] at e;subst e;refine CL.one rfl rfl fun x hx=>?_
   obtain⟨b,rfl,hb⟩:=hx.of_bnd;exact .bnd fn id b o (by simp[Gh.frz,hid,hb])
  ·cases e
 | .clo fn cs,v',e=>by
  simp only[bx,mS] at e;obtain⟨cs',e,rfl⟩:=e;obtain⟨k1,k2⟩:=dv H hf cs cs' e;refine CL.one rfl rfl fun x hx=>?_
  obtain⟨xs,rfl,hn,h2⟩:=hx.of_clo;exact .clo _ xs _ (by rw[hn,k1]) fun i hi hj=>(k2 i (by omega) hj).1 _ (h2 i hi (by omega))
 | .row id off n z,v',e=>by
  simp only[bx] at e;split at e
  ·rename_i hid;simp only[sI] at e;subst e;refine CL.one rfl rfl fun x hx=>?_
   cases hx with
   | row A _ cap _ _ _ hc hA=>exact .row A n cap id off z hc fun hn=>(hA hn).imp fun b hb=>⟨hb.1,by simp[Gh.frz,hid,hb.2]⟩
  ·rename_i hid;split at e
   ·rename_i cs hcs;split at e
    ·rename_i us hus;simp only[mS] at e;obtain⟨us',e,rfl⟩:=e;obtain⟨k1,k2⟩:=jd (Q:=d7 g w (g.frz lo h)) hf e;refine CL.one rfl rfl fun x hx=>?_
     cases hx with
     | row A _ cap _ _ _ hc hA =>
      by_cases hn:n=0
      ·subst hn;simp only[elems,sI] at hus;subst hus;have:us'=[]:=List.eq_nil_of_length_eq_zero (by simpa using k1);subst this;exact .sl A 0 cap [] .any 0 (fun _=>undef) rfl hc (by simp) (by simp) (by simp[Ab.aG]) trivial
      ·obtain⟨b,rfl,hb⟩:=hA hn;obtain⟨cs0,c,T,h1,h2,h3,h4,h5⟩:=H.cellsOf hb hcs;have hcs0:cs0=cs:=by rw[hcs] at h1;simp at h1;exact h1.symm
       subst hcs0;have hone:∀u∈cs0,u.cells=[u]:=by
        intro u hu;obtain⟨j,hj,rfl⟩:=List.getElem_of_mem hu;have:=h4 j hj (by omega);exact oj this.1 this.2
       obtain⟨q1,q2,q3,q4⟩:=iC (fun u hu=>hone u (List.mem_of_mem_drop hu)) hus;simp only[List.length_drop] at q4;have hcl:=CL.flats k1 k2;have hfl:=aO q2;refine .sl _ n cap us' _ (zc z) (fun j=>c.getD (off+j) undef) (by omega) hc (CL.fz k1 k2 q2) (fun _=>⟨b,off,rfl,fun j hj=>?_⟩) (fun j hj=>?_) trivial
       ·have hj2:off+j<cs0.length:=by rw[k1,q1] at hj;omega
        have hj3:off+j<c.size:=by omega
        refine⟨.inr (.inl ⟨id,cs0,by omega,hb,hcs,hj2⟩),?_,?_⟩
        ·rw[bW h2];simp[Array.getD,hj3]
        ·have:=(h4 (off+j) hj2 hj3).2;simpa[Array.getD,hj3] using this
       ·have hj1:j<(Ab.aG us).length:=by rw[← hcl.1];exact hj
        have hj0:j<n*zc z:=by rw[hfl,q1] at hj1;exact hj1
        have hj2:off+j<cs0.length:=by omega
        have hj3:off+j<c.size:=by omega
        refine hcl.2 j hj1 hj _ ?_;have e1:(Ab.aG us)[j]?=(cs0.drop off)[j]?:=by rw[q3,List.getElem?_take,if_pos hj0]
        rw[List.getElem?_drop,gE hj1,gE hj2] at e1;rw[Option.some.inj e1];have:=(h4 (off+j) hj2 hj3).1;simpa[Array.getD,hj3] using this
    ·cases e
   ·cases e
 | .tref k n o,v',e=>by
  simp only[bx] at e;split at e
  ·rename_i hid;simp only[sI] at e;subst e;refine CL.one rfl rfl fun x hx=>?_
   cases hx with
   | tref A _ _ _ h =>
    obtain⟨b,l,c,h1,h2⟩:=h;exact .tref A k n o ⟨b,l,c,by simp[Gh.frz,hid,h1],h2⟩
  ·cases e
 | .tsl k n z,v',e=>by
  simp only[bx] at e;split at e
  ·rename_i hid;simp only[sI] at e;subst e;refine CL.one rfl rfl fun x hx=>?_
   cases hx with
   | tsl A _ cap _ _ hc hA h =>
    obtain⟨b,l,c,h1,h2⟩:=h;exact .tsl A n cap k z hc hA ⟨b,l,c,by simp[Gh.frz,hid,h1],h2⟩
  ·rename_i hid;split at e
   ·rename_i n' z' cs hcs;split at e;rotate_left
    ·cases e
    rename_i hnz;obtain⟨rfl,rfl⟩:=hnz;split at e
    ·rename_i us hus;simp only[mS] at e;obtain⟨us',e,rfl⟩:=e;obtain⟨k1,k2⟩:=jd (Q:=d7 g w (g.frz lo h)) hf e;refine CL.one rfl rfl fun x hx=>?_
     cases hx with
     | tsl A _ cap _ _ hc hA hT =>
      obtain⟨b,l,c1,hkt,hnl,hlat⟩:=hT;obtain⟨z0,c,T,h1,h2,h3,h3',h5⟩:=H.tok _ _ _ _ hkt;have hl0:(l=n'∧z0=zc z)∧cs.length=n'*zc z∧∀j (hj:j<cs.length) (hc:j<c.size),Rep g w c[j] cs[j]∧(c[j]).oneCell'=true:=by
       rcases h1 with h1|⟨cs1,h1,h6,h7,h8⟩<;>rw[hcs] at h1
       ·simp at h1
       ·simp only[sI,O.tokc.injEq] at h1;obtain⟨rfl,rfl,rfl⟩:=h1;exact⟨⟨rfl,rfl⟩,h6,h7⟩
      obtain⟨⟨rfl,rfl⟩,hcsl,h4⟩:=hl0;obtain⟨rfl,_⟩:=hlat rfl;have hcl0:cs.length≤c.size:=by rw[hcsl];exact Nat.le_trans (Nat.mul_le_mul_right _ h3) h3'
      have hone:∀u∈cs,u.cells=[u]:=by
       intro u hu;obtain⟨j,hj,rfl⟩:=List.getElem_of_mem hu;have:=h4 j hj (by omega);exact oj this.1 this.2
      obtain⟨q1,q2,q3,q4⟩:=iC hone hus;have hcl:=CL.flats k1 k2;have hfl:=aO q2;refine .sl _ l cap us' _ (zc z) (fun j=>c.getD j undef) (by omega) hc (CL.fz k1 k2 q2) (fun _=>⟨b,0,rfl,fun j hj=>?_⟩) (fun j hj=>?_) trivial
      ·have hj2:j<cs.length:=by rw[k1,q1] at hj;omega
       have hj3:j<c.size:=by omega
       refine⟨.inr (.inr ⟨k,l,c1,l,zc z,cs,by omega,hkt,hcs,by omega⟩),?_,?_⟩
       ·rw[Nat.zero_add,bW h2];simp[Array.getD,hj3]
       ·have:=(h4 j hj2 hj3).2;simpa[Array.getD,hj3] using this
      ·have hj1:j<(Ab.aG us).length:=by rw[← hcl.1];exact hj
       have hj0:j<l*zc z:=by rw[hfl,q1] at hj1;exact hj1
       have hj2:j<cs.length:=by omega
       have hj3:j<c.size:=by omega
       refine hcl.2 j hj1 hj _ ?_;have e1:(Ab.aG us)[j]?=cs[j]?:=by rw[q3,List.getElem?_take,if_pos hj0]
       rw[gE hj1,gE hj2] at e1;rw[Option.some.inj e1];have:=(h4 j hj2 hj3).1;simpa[Array.getD,hj3] using this
    ·cases e
   ·cases e
 | .buf id n,v',e=>by
  simp only[bx] at e;split at e
  ·rename_i hid;simp only[sI] at e;subst e;refine CL.one rfl rfl fun x hx=>?_
   cases hx with
   | buf A _ cap _ hc hA =>
    obtain⟨b,cc,T,h1,h2,h3,h4⟩:=hA;exact .buf A n cap id hc ⟨b,cc,T,h1,by simp[Gh.frz,hid,h2],h3,h4⟩
  ·cases e
 | .top,v',e=>by
  simp only[bx,sI] at e;subst e;exact CL.one rfl rfl fun x _=>.top x
 | .fmp ks vs,v',e=>by
  simp only[bx,mS] at e;obtain⟨vs',e,rfl⟩:=e;obtain⟨k1,k2⟩:=dv H hf vs vs' e;refine CL.one rfl rfl fun x hx=>?_
  cases hx with
  | fmp b es ck _ _ h1 h2 h3 h4 h5=>exact .fmp b es ck ks _ h1 (.inl h2) h3 (by omega) fun i hi hj=>(k2 i (by omega) hj).1 _ (h5 i hi (by omega))
 | .mref id,v',e=>by
  simp only[bx] at e;split at e
  ·rename_i hid;simp only[sI] at e;subst e;refine CL.one rfl rfl fun x hx=>?_
   cases hx with
   | mref _ b hb=>exact .mref id b (by simp[Gh.frz,hid,hb])
  ·cases e
 | .yld k y m caps,v',e=>by
  simp only[bx] at e;split at e
  ·rename_i hid;simp only[mS] at e;obtain⟨caps',e,rfl⟩:=e;obtain⟨k1,k2⟩:=dv H hf caps caps' e;refine CL.one rfl rfl fun x hx=>?_
   cases hx with
   | yld l _ _ _ tmps _ h1 h2 h3 h4=>exact .yld l k y m tmps _ (by simp[Gh.frz,hid,h1]) h2 (by omega) fun i hi hj=>(k2 i (by omega) hj).1 _ (h4 i hi (by omega))
  ·cases e
theorem dv (H:HOk g w h){f:V→Option V}(hf:∀u u',f u=some u'→d7 g w (g.frz lo h) u u'):∀(vs vs':List V),dI lo f h vs=some vs' →
  vs'.length=vs.length∧∀i (hi:i<vs.length) (hj:i<vs'.length),d7 g w (g.frz lo h) vs[i] vs'[i]
 | [],vs',e=>by
  simp only[dI,sI] at e;subst e;exact⟨rfl,fun i hi=>by simp at hi⟩
 | v::vs,vs',e=>by
  simp only[dI] at e;split at e
  ·rename_i u us h1 h2;simp only[sI] at e;subst e;have k0:=qE H hf v u h1;obtain⟨k1,k2⟩:=dv H hf vs us h2;refine⟨by simp[k1],fun i hi hj=>?_⟩;cases i with
   | zero=>exact k0
   | succ i=>exact k2 i (by simpa using hi) (by simpa using hj)
  ·cases e
end
theorem lW (H:HOk g w h):∀(k:Nat) (v v':V),fV lo h k v=some v'→d7 g w (g.frz lo h) v v'
 | 0,_,_,e=>by simp[fV] at e
 | k+1,v,v',e=>qE H (lW H k) v v' e
theorem HOk.frz (H:HOk g w h) (hl:(h.take lo).all (O.low lo)=true):HOk (g.frz lo h) w (h.take lo):=by
 have hb:∀id b,(g.frz lo h).blk id=some b→id<lo∧g.blk id=some b:=by
  intro id b e;simp only[Gh.frz] at e;split at e
  ·exact⟨‹_›,e⟩
  ·cases e
 have ht:∀id b,(g.frz lo h).tok id=some b→id<lo∧g.tok id=some b:=by
  intro id b e;simp only[Gh.frz] at e;split at e
  ·exact⟨‹_›,e⟩
  ·cases e
 have hr:∀{x:Value}{v:V},Rep g w x v→V.low lo v=true→Rep (g.frz lo h) w x v:=by
  intro x v hx hv;refine Rep.of_frz (hx.res hv) (fun b o h=>.inl h) (fun id b e=>?_) (fun id p e=>?_)
  ·simpa[Gh.frz,Gh.res] using e
  ·simpa[Gh.frz,Gh.res] using e
 refine⟨fun id b e=>?_,fun id b n cap e=>?_,fun id id' b e e'=>H.inj id id' b (hb _ _ e).2 (hb _ _ e').2,fun id id' b n c n' c' e e'=>H.tinj id id' b n c n' c' (ht _ _ e).2 (ht _ _ e').2,
  fun id id' b n c e e'=>H.bt id id' b n c (hb _ _ e).2 (ht _ _ e').2,H.ag.fzs (fun b o e=>.inl e) fun b o e=>?_⟩
 ·obtain⟨hid,e'⟩:=hb _ _ e;have hfz:∀o,(g.frz lo h).fz b o→g.fz b o:=by
   intro o ho;rcases ho with ho|⟨id',cs',q1,q2,q3,q4⟩|⟨id',n',cap',n2,z',cs',q1,q2,q3,q4⟩
   ·exact ho
   ·have:=H.inj _ _ _ e' q2;omega
   ·exact (H.bt _ _ _ _ _ e' q2).elim
  have hh:(h.take lo)[id]?=h[id]?:=by rw[List.getElem?_take,if_pos hid]
  rcases H.obj _ _ e' with⟨cs,c,T,h1,h2,h3,h4,h5⟩|q
  ·have h6:=hh.trans h1;have h7:=List.all_eq_true.1 hl _ (List.mem_of_getElem? h6);exact .inl ⟨cs,c,T,h6,h2,h3,fun j hj hc=>⟨hr (h4 j hj hc).1 (aU h7 j hj),(h4 j hj hc).2⟩,fun o ho=>h5 o (hfz o ho)⟩
  ·exact .inr (q.mapL hh rfl (fun r hv=>hr r hv) (fun o ho=>List.all_eq_true.1 hl _ (List.mem_of_getElem? (hh.trans ho))) hfz)
 ·obtain⟨hid,e'⟩:=ht _ _ e;obtain⟨z,c,T,h1,h2,h3,h4,h5⟩:=H.tok _ _ _ _ e';have hfz:∀o,(g.frz lo h).fz b o→g.fz b o:=by
   intro o ho;rcases ho with ho|⟨id',cs',q1,q2,q3,q4⟩|⟨id',n',cap',n2,z',cs',q1,q2,q3,q4⟩
   ·exact ho
   ·exact (H.bt _ _ _ _ _ q2 e').elim
   ·have:=H.tinj _ _ _ _ _ _ _ e' q2;omega
  have hh:(h.take lo)[id]?=h[id]?:=by rw[List.getElem?_take,if_pos hid]
  refine⟨z,c,T,?_,h2,h3,h4,fun o ho=>h5 o (hfz o ho)⟩;rcases h1 with h1|⟨cs,h1,h6,h7,h8⟩
  ·exact .inl (hh.trans h1)
  ·have h9:=hh.trans h1;have h10:=List.all_eq_true.1 hl _ (List.mem_of_getElem? h9);exact .inr ⟨cs,h9,h6,fun j hj hc=>⟨hr (h7 j hj hc).1 (aU h10 j hj),(h7 j hj hc).2⟩,fun o ho=>h8 o (hfz o ho)⟩
 ·rcases e with e|⟨id',cs',q1,q2,q3,q4⟩|⟨id',n',cap',n2,z',cs',q1,q2,q3,q4⟩
  ·exact H.al b o e
  ·exact (H.blk_lt q2).2
  ·exact (H.tok_lt q2).2
theorem Le.frz {g0:Gh}{w0:World}(hle:Le g0 w0 g w) (hb:∀id b,g0.blk id=some b→id<lo) (ht:∀id p,g0.tok id=some p→id<lo):Le g0 w0 (g.frz lo h) w where
 blk id b e:=by simp only[Gh.frz,hb id b e,if_true];exact hle.blk id b e
 tok k b l c e:=by
  obtain⟨b',l',c',e1,e2⟩:=hle.tok k b l c e;exact⟨b',l',c',by simp only[Gh.frz,ht k _ e,if_true];exact e1,e2⟩
 fz b o e:=⟨.inl (hle.fz b o e).1,(hle.fz b o e).2⟩
 own b ho hlt:=by
  refine hle.own b ?_ hlt;rcases ho with⟨id,e⟩|⟨k,l,c,e⟩
  ·refine .inl ⟨id,?_⟩;simp only[Gh.frz] at e;split at e
   ·exact e
   ·cases e
  ·refine .inr ⟨k,l,c,?_⟩;simp only[Gh.frz] at e;split at e
   ·exact e
   ·cases e
 fzn b o e hlt:=by
  rcases e with e|⟨id,cs,q1,q2,q3,q4⟩|⟨id',n',cap',n2,z',cs',q1,q2,q3,q4⟩
  ·exact hle.fzn b o e hlt
  ·exact .inr (hle.own b (.inl ⟨id,q2⟩) hlt)
  ·exact .inr (hle.own b (.inr ⟨id',n',cap',q2⟩) hlt)
 kept:=hle.kept
 size:=hle.size
 tape:=hle.tape
 os:=hle.os
 output:=hle.output
 sz:=hle.sz
 oth:=hle.oth
mutual
theorem qA {g':Gh}{w':World}:∀(v:V),v.flat=true→∀x,Rep g w x v→Rep g' w' x v
 | .c y,_,x,hx=>by rw[hx.of_c];exact .c _
 | .agg cs,hv,x,hx=>by
  simp only[V.flat] at hv;obtain⟨xs,rfl,hn,h1,h2⟩:=hx.of_agg;exact .agg xs _ hn h1 fun i hi hj=>jf cs hv i hj _ (h2 i hi hj)
 | .tup cs,hv,x,hx=>by
  simp only[V.flat] at hv;obtain⟨xs,rfl,hn,h2⟩:=hx.of_tup;exact .tup xs _ hn fun i hi hj=>jf cs hv i hj _ (h2 i hi hj)
 | .sl _ _,hv,_,_=>by simp[V.flat] at hv
 | .ptr _ _,hv,_,_=>by simp[V.flat] at hv
 | .ref _ _,hv,_,_=>by simp[V.flat] at hv
 | .bnd _ _ _,hv,_,_=>by simp[V.flat] at hv
 | .clo _ _,hv,_,_=>by simp[V.flat] at hv
 | .row _ _ _ _,hv,_,_=>by simp[V.flat] at hv
 | .buf _ _,hv,_,_=>by simp[V.flat] at hv
 | .top,hv,_,_=>by simp[V.flat] at hv
 | .fmp _ _,hv,_,_=>by simp[V.flat] at hv
 | .mref _,hv,_,_=>by simp[V.flat] at hv
 | .yld _ _ _ _,hv,_,_=>by simp[V.flat] at hv
theorem jf {g':Gh}{w':World}:∀(vs:List V),V.flatl vs=true→∀i (hi:i<vs.length),∀x,Rep g w x vs[i]→Rep g' w' x vs[i]
 | [],_,i,hi,_,_=>absurd hi (by simp)
 | v::vs,hv,i,hi,x,hx=>by
  simp only[V.flatl,bT] at hv;cases i with
  | zero=>exact qA v hv.1 x hx
  | succ i=>exact jf vs hv.2 i (by simpa using hi) x hx
end
theorem jl {f f':V→Option V}(hf:∀v v',f v=some v'→f' v=some v'):∀(us us':List V),lk f us=some us'→lk f' us=some us'
 | [],_,e=>e
 | u::us,us',e=>by
  simp only[lk] at e ⊢;split at e
  ·rename_i u1 us1 h1 h2;rw[hf _ _ h1,jl hf _ _ h2];exact e
  ·cases e
mutual
theorem lI {h2:List O}(hh:CellsLe h h2){f f':V→Option V}(hf:∀v v',f v=some v'→f' v=some v'):∀(v v':V),bx lo f h v=some v'→bx lo f' h2 v=some v'
 | .c x,v',e=>e
 | .agg cs,v',e=>by
  simp only[bx,mS] at e ⊢;obtain⟨cs',e,rfl⟩:=e;exact⟨cs',dw hh hf cs cs' e,rfl⟩
 | .tup cs,v',e=>by
  simp only[bx,mS] at e ⊢;obtain⟨cs',e,rfl⟩:=e;exact⟨cs',dw hh hf cs cs' e,rfl⟩
 | .sl cs _,v',e=>by
  simp only[bx,mS] at e ⊢;obtain⟨cs',e,rfl⟩:=e;exact⟨cs',dw hh hf cs cs' e,rfl⟩
 | .ptr cs o,v',e=>by
  simp only[bx,mS] at e ⊢;obtain⟨cs',e,rfl⟩:=e;exact⟨cs',dw hh hf cs cs' e,rfl⟩
 | .ref id o,v',e=>by simpa only[bx] using e
 | .bnd fn id o,v',e=>by simpa only[bx] using e
 | .clo fn cs,v',e=>by
  simp only[bx,mS] at e ⊢;obtain⟨cs',e,rfl⟩:=e;exact⟨cs',dw hh hf cs cs' e,rfl⟩
 | .row id off n z,v',e=>by
  simp only[bx] at e ⊢;split at e
  ·rename_i hid;rw[if_pos hid];exact e
  ·rename_i hid;rw[if_neg hid];split at e
   ·rename_i cs hcs;rw[hh _ (O.cells _) trivial hcs];simp only;split at e
    ·rename_i us hus;simp only[hus,mS] at e ⊢;obtain⟨us',e,rfl⟩:=e;exact⟨us',jl hf _ _ e,rfl⟩
    ·cases e
   ·cases e
 | .buf id n,v',e=>by simpa only[bx] using e
 | .tref k n o,v',e=>by simpa only[bx] using e
 | .tsl k n z,v',e=>by
  simp only[bx] at e ⊢;split at e
  ·rename_i hid;rw[if_pos hid];exact e
  ·rename_i hid;rw[if_neg hid];split at e
   ·rename_i n' z' cs hcs;rw[hh _ (O.tokc _ _ _) trivial hcs];simp only;split at e
    ·rename_i hnz;rw[if_pos hnz];split at e
     ·rename_i us hus;simp only[hus,mS] at e ⊢;obtain⟨us',e,rfl⟩:=e;exact⟨us',jl hf _ _ e,rfl⟩
     ·cases e
    ·cases e
   ·cases e
 | .top,v',e=>e
 | .fmp ks vs,v',e=>by
  simp only[bx,mS] at e ⊢;obtain⟨cs',e,rfl⟩:=e;exact⟨cs',dw hh hf vs cs' e,rfl⟩
 | .mref id,v',e=>by simpa only[bx] using e
 | .yld k y m caps,v',e=>by
  simp only[bx] at e ⊢;split at e
  ·rename_i hid;rw[if_pos hid];simp only[mS] at e ⊢;obtain⟨cs',e,rfl⟩:=e;exact⟨cs',dw hh hf caps cs' e,rfl⟩
  ·cases e
theorem dw {h2:List O}(hh:CellsLe h h2){f f':V→Option V}(hf:∀v v',f v=some v'→f' v=some v'):∀(vs vs':List V),dI lo f h vs=some vs'→dI lo f' h2 vs=some vs'
 | [],_,e=>e
 | v::vs,vs',e=>by
  simp only[dI] at e ⊢;split at e
  ·rename_i u us h1 h2;rw[lI hh hf _ _ h1,dw hh hf _ _ h2];exact e
  ·cases e
end
theorem uJ {h2:List O}(hh:CellsLe h h2):∀(k:Nat) (v v':V),fV lo h k v=some v'→fV lo h2 k v=some v'
 | 0,_,_,e=>by simp[fV] at e
 | k+1,v,v',e=>lI hh (uJ hh k) v v' e
end
def Ep (P:Program) (pf:Nat→Nat) (E:Ext):Prop:=∀f e,E f=some e→f<rid∧∀n cf,br P cf→bQ pf cf →
 (∀args h r h',e n cf args h=some (r,h')→jC P f∧mn P f args h r h')∧(∀args h r h',e n cf args h=some (r,h')→(pf f=1→h'=h∧∀h2,CellsLe h h2→e n cf args h2=some (r,h2))∧(pf f=2→CellsLe h h'∧CellsGe h h')∧(pf f=4→pQ h h'))
def vZ (P:Program) (pf:Nat→Nat) (y:Nat) (xf:XF):Prop:=∃tps asg body xa,yc y=some (tps,asg,body)∧xf.asg=some (tps.toList,xa) ∧
 trC P xf.rw pf xf.ntm (y+1) asg=some xa∧trC P xf.rw pf xf.ntm (y+1+(aJ asg).length) body=some xf.body∧YcOk (y+1) asg∧YcOk (y+1+(aJ asg).length) body
def Laid (P:Program) (pf:Nat→Nat) (X:Nat→Option XF):Prop:=∀f xf,X f=some xf→(f<rid∧xf.asg=none∧∃fn,P.funcs[f]?=some fn∧trF P pf (rid+100*f) xf.pure xf.esc xf.rw fn=some xf)∨(rid≤f∧vZ P pf f xf)
def Cc (P:Program):Prop:=∀f fn c,P.funcs[f]?=some fn→fn.body=some c→(aJ c).length≤100→YcOk (rid+100*f) c
def Fc (pf:Nat→Nat) (X:Nat→Option XF) (E:Ext):Prop:=∀f,E f=none→∀xf,X f=some xf→(pf f=1→(xf.pure=true∧xf.esc=false)∧xf.asg=none)∧(pf f=2→(xf.pure=true∧xf.esc=true)∧xf.asg=none)∧pf f≠4
section
variable {P:Program}
theorem rj {pf:Nat→Nat}{y:Nat}{pu es rw:Bool}{fn:Func}{xf:XF}(h:trF P pf y pu es rw fn=some xf) :
  (fn.name == "runtime.NumGoroutine") = false ∧ ∃ c, fn.body = some c ∧ trC P rw pf fn.ntmps y c = some xf.body ∧ trR P fn.results.toList = some xf.res ∧ xf.ntm = fn.ntmps ∧ xf.pure = pu ∧ (aJ c).length ≤ 100 := by
 unfold trF at h;split at h
 ·cases h
 ·rename_i hn;split at h
  ·rename_i c hc;split at h
   ·rename_i hlen;split at h
    ·rename_i xc rs h1 h2;simp only[sI] at h;subst h;exact⟨by simpa using hn,c,hc,h1,h2,rfl,rfl,hlen⟩
    ·cases h
   ·cases h
  ·cases h
theorem eH {g:Gh}{w:World}(hgl:GP g w){cargs:Array Value}{args:List V}(hl:cargs.size=args.length) (hr:∀i (hi:i<cargs.size) (hj:i<args.length),Rep g w cargs[i] args[i]) (n:Nat) (ds:List Deferred) :
  Tm g w { tmps:=cargs++Array.replicate (n-cargs.size) undef,defers:=ds } (args++List.replicate (n-args.length) az):=by
 refine⟨by simp[hl],fun i hi hj=>?_,hgl⟩;simp only;rw[Array.getElem_append,List.getElem_append];simp only[hl];split
 ·rename_i hlt;exact hr i (by omega) hlt
 ·simp only[Array.getElem_replicate,List.getElem_replicate];exact .c _
def Fx (esc:Bool) (n base:Nat) (s:List O) (r0 r:V) (h':List O):Prop :=
 (esc=true∧r=r0∧h'=s) ∨
 ((s.take base).all (O.low base)=true∧h'=s.take base∧r.low base=true∧(r=r0∨fV base s n r0=some r))
theorem HOk.shut {g:Gh}{w:World}{h:List O}(H:HOk g w h){D:Nat}{q:Option (List Deferred)}(h0:w.heap[D]?=some (.deferred q)) :
  HOk g (w.putObj D (.deferred none)) h∧LeV g w g (w.putObj D (.deferred none))∧∀{g0:Gh}{w0:World},Le g0 w0 g w→(∀b o,g0.fz b o→b<w0.heap.size)→w0.heap.size≤D→Le g0 w0 g (w.putObj D (.deferred none)):=by
 have hoth:∀b,b≠D→(w.putObj D (.deferred none)).heap[b]?=w.heap[b]?:=fun b hb=>World.putObj_heap_other hb
 have hself:(w.putObj D (.deferred none)).heap[D]?=some (.deferred none):=World.putObj_heap_same (Array.getElem?_eq_some_iff.1 h0).1;have hcell:∀b o,(w.putObj D (.deferred none)).cell? ⟨b,o,none⟩=w.cell? ⟨b,o,none⟩:=by
  intro b o;by_cases hb:b=D
  ·subst hb;simp[World.cell?,hself,h0]
  ·exact cW (hoth b hb)
 have hv:LeV g w g (w.putObj D (.deferred none)):=by
  refine⟨fun _ _ h=>h,fun k b l c h=>⟨b,l,c,h,nL _,fun _=>⟨rfl,rfl⟩⟩,fun b o hf=>⟨hf,hcell b o⟩,fun b c T e=>⟨c,(hoth b fun hb=>?_).trans e,rfl⟩,fun b o e hc=>?_⟩
  ·rw[hb,h0] at e;cases e
  ·by_cases hb:b=D
   ·subst hb;rw[h0] at e;cases e;exact⟨_,hself,rfl,trivial,fun es ck q=>by cases q⟩
   ·exact⟨o,(hoth b hb).trans e,hc,Goes.refl o,fun _ _ _ _=>rfl⟩
 refine⟨⟨fun id b e=>?_,fun id b n cap e=>?_,H.inj,H.tinj,H.bt,⟨fun b o h=>by have:=H.al b o h;simpa using this,fun n v e=>(H.ag.gl n v e).monoV hv⟩⟩,hv,fun {g0 w0} hle hal hD=>?_⟩
 ·rcases H.obj _ _ e with⟨cs,c,T,h1,h2,h3,h4,h5⟩|t
  ·exact .inl ⟨cs,c,T,h1,(hoth b fun hb=>by rw[hb,h0] at h2;cases h2).trans h2,h3,fun j hj hc=>⟨(h4 j hj hc).1.monoV hv,(h4 j hj hc).2⟩,h5⟩
  ·refine .inr (t.map rfl (hoth b fun hb=>?_) (fun r=>r.monoV hv) fun _ h=>h);rcases t with⟨s,L,_,t,_⟩|⟨ks,vs,es,ck,_,t,_⟩<;>rw[hb,h0] at t<;>cases t
 ·obtain⟨z,c,T,h1,h2,h3⟩:=H.tok _ _ _ _ e;exact⟨z,c,T,h1.map rfl (fun r=>r.monoV hv) (fun _ h=>h),(hoth b fun hb=>by rw[hb,h0] at h2;cases h2).trans h2,h3⟩
 ·exact {
   blk:=hle.blk
   tok:=hle.tok
   fz:=fun b o h=>⟨(hle.fz b o h).1,(hcell b o).trans (hle.fz b o h).2⟩
   own:=hle.own
   fzn:=hle.fzn
   kept:=fun b hlt hn=>(hoth b (by omega)).trans (hle.kept b hlt hn)
   size:=by simpa using hle.size
   tape:=hle.tape
   os:=hle.os
   output:=hle.output
   sz:=fun b c T e=>by
    obtain⟨c1,h1,h2⟩:=hle.sz b c T e;exact⟨c1,(hoth b (by have:=(Array.getElem?_eq_some_iff.1 e).1;omega)).trans h1,h2⟩
   oth:=fun b o e hc=>by
    obtain⟨o',h1,h2⟩:=hle.oth b o e hc;exact⟨o',(hoth b (by have:=(Array.getElem?_eq_some_iff.1 e).1;omega)).trans h1,h2⟩ }
theorem mJ {fn:Func}{tmps:Array Value}{R:Ending→World→Prop}{g g':Gh}{w:World}{s:List O}{tm:List V}(hal:∀b o,g.fz b o→b<w.heap.size)
  (hfin:∀w1,Le g w g' w1→HOk g' w1 s→Tm g' w1 { tmps:=tmps,defers:=[] } tm→∃v,(results fn tmps).run P w1=.ok v w1∧R (.returned v) w1):∀(ds:List Deferred) (w':World),Le g w g' w'→HOk g' w' s→Tm g' w' { tmps:=tmps,defers:=[] } tm →
  Env w.heap.size none w' ds→LeavesInM Fence.wide 0 P fn tmps R ds .returning w'
 | [],w',hle,H,ht,E=>hfin w' hle H ht
 | d::ds,w',hle,H,ht,E=>by
  obtain⟨D,rfl,hD,hk⟩:=E.mks d (by simp);obtain⟨H2,hv,hle2⟩:=H.shut hk;refine⟨by simp,.inl ⟨D,_,rfl,run_takeDeferred hk,mJ hal hfin ds _ (hle2 hle hal hD) H2 ⟨ht.1,fun i hi hj=>(ht.2 i hi hj).monoV hv,H2.ag.gl⟩ ⟨by simpa using E.lo,(List.nodup_cons.1 E.nd).2,fun d' hd'=>?_,fun l h=>by cases h⟩⟩⟩;obtain⟨D',rfl,hD',hk'⟩:=E.mks d' (by simp[hd']);refine⟨D',rfl,hD',(World.putObj_heap_other fun e=>?_).trans hk'⟩;subst e;exact (List.nodup_cons.1 E.nd).1 hd'
theorem i8 {rw:Bool}{pf:Nat→Nat}{cf:av}(hp:bQ pf cf) (hcf:br P cf) (hm:P.follows .mixedOrders=true){f:Nat}{fn:Func}(hf:P.funcs[f]?=some fn){c:Code}(hb:fn.body=some c){y:Nat}(hyc:YcOk y c){xc:XC}(hc:trC P rw pf fn.ntmps y c=some xc)
  {rs:List XR}(hrs:trR P fn.results.toList=some rs){n:Nat}{st:St}{esc:Bool}{r:V}{h':List O}(hrun:fin esc n rs (aK cf n xc st)=some (r,h')) (hbase:st.base=st.h.length) (hbk:∀e s,aK cf n xc st=some (e,s)→s.base=st.base)
  {g:Gh}{w:World}{cargs:Array Value}(S:Sim [] g w { tmps:=cargs++Array.replicate (fn.ntmps-cargs.size) undef,defers:=[] } st) :
  Calls P f cargs w (fun e w'=>∃v g' s r0,e=.returned v∧Le g w g' w'∧HOk g' w' s∧Quiet (Frb st.base st.h) g st.h g' s∧st.base≤s.length∧Rep g' w' v r0∧Fx esc n st.base s r0 r h'):=by
 cases he:aK cf n xc st with
 | none=>rw[he] at hrun;simp[fin] at hrun
 | some p =>
  obtain⟨e,s⟩:=p;rw[he] at hrun;have hbs:=hbk e s he;have hfin:∃vs v0,cE s rs=some vs∧(v0=(bk vs).vw∨v0=(bk vs).vwr)∧Fx esc n st.base s.h v0 r h'∧(e=.normal∨e=.ret):=by
   have main:∀{o:Option (V × List O)},o=some (r,h')→o=(match cE s rs with
     | some vs =>
      if esc then some ((bk vs).vwr,s.h) else
      if (bk vs).vw.low s.base then if (s.h.take s.base).all (O.low s.base) then some ((bk vs).vw,s.h.take s.base) else none
      else match fV s.base s.h n (bk vs).vw with
       | some r=>if r.low s.base&&(s.h.take s.base).all (O.low s.base) then some (r,s.h.take s.base) else none
       | none=>none
     | none=>none)→∃vs v0,cE s rs=some vs∧(v0=(bk vs).vw∨v0=(bk vs).vwr)∧Fx esc n st.base s.h v0 r h':=by
    intro o ho ho2;rw[ho,hbs] at ho2;split at ho2
    ·rename_i vs hvs;split at ho2
     ·rename_i hesc;simp only[sI,pI] at ho2;exact⟨vs,_,hvs,.inr rfl,.inl ⟨hesc,ho2.1,ho2.2⟩⟩
     ·split at ho2
      ·rename_i hlow;split at ho2
       ·rename_i hall;simp only[sI,pI] at ho2;exact⟨vs,_,hvs,.inl rfl,.inr ⟨hall,ho2.2,by rw[ho2.1];exact hlow,.inl ho2.1⟩⟩
       ·cases ho2
      ·split at ho2
       ·rename_i r' hsn;split at ho2
        ·rename_i hcond;simp only[sI,pI] at ho2;simp only[bT] at hcond;obtain⟨rfl,rfl⟩:=ho2;exact⟨vs,_,hvs,.inl rfl,.inr ⟨hcond.2,rfl,hcond.1,.inr hsn⟩⟩
        ·cases ho2
       ·cases ho2
    ·cases ho2
   cases e with
   | exit id=>simp[fin] at hrun
   | normal =>
    obtain⟨vs,v0,a1,a3,a2⟩:=main hrun rfl;exact⟨vs,v0,a1,a3,a2,.inl rfl⟩
   | ret =>
    obtain⟨vs,v0,a1,a3,a2⟩:=main hrun rfl;exact⟨vs,v0,a1,a3,a2,.inr rfl⟩
  obtain⟨vs,v0,a1,a3,a2,a6⟩:=hfin;refine callsIn_wide.1 (callsIn_of_wp_marks (F:=Fence.wide) (n:=0) hf hb trivial (kV (ρ:=none) (m:=w.heap.size) (nn:=0) hp hcf hm n c y xc hc hyc [] g w _ st s e he S (Nat.le_of_eq hbase) ⟨nL _,List.nodup_nil,fun d hd=>by simp at hd,fun l h=>by cases h⟩ _ fun ds' a' w' g' k1 k2 k3 k4 k5 _=>?_));have hpost:LeavesInM Fence.wide 0 P fn a'.tmps (fun e w'=>∃v g' s r0,e=.returned v∧Le g w g' w'∧HOk g' w' s∧Quiet (Frb st.base st.h) g st.h g' s∧st.base≤s.length∧Rep g' w' v r0∧Fx esc n st.base s r0 r h') a'.defers .returning w':=by
   rw[k2.df];refine mJ (fun b o h=>S.hk.al b o h) (fun w1 l1 l2 l3=>?_) ds' w' k1 k2.hk ⟨k2.tm.1,k2.tm.2,k2.tm.3⟩ k5;obtain⟨x,r1,r2⟩:=jW (P:=P) (ds:=[]) (a:={ tmps:=a'.tmps,defers:=[] }) (st:=s) ⟨l3,l2,rfl⟩ hrs a1;have r3:Rep g' w1 x v0:=by
    rcases a3 with rfl|rfl
    ·exact r2.vw
    ·exact r2.vwr
   exact⟨x,r1,x,g',s.h,_,rfl,l1,l2,k3,k4,r3,a2⟩
  rcases a6 with rfl|rfl
  ·exact hpost
  ·exact hpost
theorem Le.res {g g':Gh}{w w':World}(h:Le g w g' w'){n:Nat}(hb:∀id b,g.blk id=some b→id<n) (ht:∀id p,g.tok id=some p→id<n):Le g w (g'.res n) w' where
 blk id b e:=by simp only[Gh.res,hb id b e,if_true];exact h.blk id b e
 tok k b l c e:=by
  obtain⟨b',l',c',e1,e2⟩:=h.tok k b l c e;exact⟨b',l',c',by simp only[Gh.res,ht k _ e,if_true];exact e1,e2⟩
 fz:=h.fz
 own b ho hlt:=by
  refine h.own b ?_ hlt;rcases ho with⟨id,e⟩|⟨k,l,c,e⟩
  ·refine .inl ⟨id,?_⟩;simp only[Gh.res] at e;split at e
   ·exact e
   ·cases e
  ·refine .inr ⟨k,l,c,?_⟩;simp only[Gh.res] at e;split at e
   ·exact e
   ·cases e
 fzn:=h.fzn
 kept:=h.kept
 size:=h.size
 tape:=h.tape
 os:=h.os
 output:=h.output
 sz:=h.sz
 oth:=h.oth
theorem rY {cf:av}{xs:List XOper}:∀{st s:St},aC cf xs st=some s→s.base=st.base:=by
 induction xs with
 | nil=>intro st s h;simp only[aC,sI] at h;rw[h]
 | cons x xs ih =>
  intro st s h;simp only[aC] at h;split at h
  ·rename_i s1 h1;rw[ih h,(gY h1).2]
  ·cases h
theorem j4 {m:Nat}{lt:Bool}{cf:av}{xs:List XOper}:∀{st s:St},ed m lt cf xs st=some s→s.base=st.base:=by
 induction xs with
 | nil=>intro st s h;simp only[ed,sI] at h;rw[h]
 | cons x xs ih =>
  intro st s h;simp only[ed] at h;split at h
  ·rename_i s1 h1;rw[ih h,(rt h1).2]
  ·cases h
theorem sJ {m:Nat}{cf:av}{xs:List XOper}:∀{st s:St},gt m cf xs st=some s→s.base=st.base:=by
 induction xs with
 | nil=>intro st s h;simp only[gt,sI] at h;rw[h]
 | cons x xs ih =>
  intro st s h;simp only[gt] at h;split at h
  ·rename_i s1 h1;rw[ih h,(rz h1).2]
  ·cases h
theorem ef {cf:av}{n:Nat}:∀(xc:XC) (st s:St) (e:Ex),aK cf n xc st=some (e,s)→s.base=st.base:=by
 intro xc
 induction xc with
 | skip=>intro st s e h;simp only[aK,sI,pI] at h;rw[← h.2]
 | reg ops pre d =>
  intro st s e h;simp only[aK,mS,pI] at h;obtain⟨s1,h1,_,rfl⟩:=h;rw[rY h1]
 | regw ops pre =>
  intro st s e h;simp only[aK,mS,pI] at h;obtain⟨s1,h1,_,rfl⟩:=h;rw[j4 h1]
 | regm ops pre =>
  intro st s e h;simp only[aK,mS,pI] at h;obtain⟨s1,h1,_,rfl⟩:=h;rw[j4 h1]
 | regr ops pre =>
  intro st s e h;simp only[aK,mS,pI] at h;obtain⟨s1,h1,_,rfl⟩:=h;rw[sJ h1]
 | seq a b ih1 ih2 =>
  intro st s e h;simp only[aK] at h;split at h
  ·rename_i s1 h1;rw[ih2 _ _ _ h,ih1 _ _ _ h1]
  ·exact ih1 _ _ _ h
 | cond c a b ih1 ih2 =>
  intro st s e h;simp only[aK] at h;split at h
  ·split at h
   ·exact ih1 _ _ _ h
   ·exact ih2 _ _ _ h
  ·cases h
 | block id c ih =>
  intro st s e h;simp only[aK] at h;split at h
  ·rename_i h1;split at h
   ·simp only[sI,pI] at h;rw[← h.2];exact ih _ _ _ h1
   ·simp only[sI,pI] at h;rw[← h.2];exact ih _ _ _ h1
  ·exact ih _ _ _ h
 | loop c ih =>
  intro st s e h;simp only[aK] at h;have:∀k st,iq (aK cf n c) k st=some (e,s)→s.base=st.base:=by
   intro k
   induction k with
   | zero=>intro st h;simp[iq] at h
   | succ k ihk =>
    intro st h;simp only[iq] at h;split at h
    ·rename_i s1 h1;rw[ihk _ h,ih _ _ _ h1]
    ·exact ih _ _ _ h
  exact this _ _ h
 | exit id=>intro st s e h;simp only[aK,sI,pI] at h;rw[← h.2]
 | ret=>intro st s e h;simp only[aK,sI,pI] at h;rw[← h.2]
 | rangeF f y m nt us =>
  intro st s e h;simp only[aK] at h
  repeat' split at h
  all_goals first|(cases h;done)|skip
  simp only[mS,pI] at h;obtain⟨_,_,_,rfl⟩:=h;rfl
theorem mM {g g1:Gh}{w w':World}{h s:List O}{esc:Bool}{n:Nat}{v:Value}{r0 r:V}{h':List O}(H:HOk g w h) (hle:Le g w g1 w') (hs:HOk g1 w' s) (hq:Quiet (Frb h.length h) g h g1 s) (hrep:Rep g1 w' v r0) (hf:Fx esc n h.length s r0 r h') :
  ∃g2,Le g w g2 w'∧HOk g2 w' h'∧Rep g2 w' v r∧Quiet (Frb h.length h) g h g2 h'∧(esc=false→r.low h.length=true):=by
 have hb:∀id b,g.blk id=some b→id<h.length:=fun id b e=>(H.blk_lt e).1
 have ht:∀id p,g.tok id=some p→id<h.length:=fun id p e=>by obtain⟨b,n,c⟩:=p;exact (H.tok_lt e).1
 rcases hf with⟨hesc,rfl,rfl⟩|⟨hall,rfl,hlow,hr⟩
 ·exact⟨g1,hle,hs,hrep,hq,fun e=>by rw[hesc] at e;cases e⟩
 ·have hquiet:∀g2:Gh,(∀id,id<h.length→g2.blk id=g1.blk id∧g2.tok id=g1.tok id)→Quiet (Frb h.length h) g h g2 (s.take h.length):=by
   intro g2 hg2 id hid;have hid':id<h.length:=Nat.lt_of_not_le fun h=>hid (.inl h)
   obtain⟨q1,q2,q3⟩:=hq id hid;obtain⟨e1,e2⟩:=hg2 id hid';refine⟨fun e=>by rw[e1];exact q1 e,fun e=>by rw[e2];exact q2 e,fun e e'=>?_⟩;rw[List.getElem?_take,if_pos hid'];exact q3 e e'
  rcases hr with rfl|hsn
  ·exact⟨g1.res h.length,hle.res hb ht,hs.res _ hall,hrep.res hlow,hquiet _ fun id hid=>by simp[Gh.res,hid],fun _=>hlow⟩
  ·exact⟨g1.frz h.length s,hle.frz hb ht,hs.frz hall,(lW hs n _ _ hsn).1 _ hrep,hquiet _ fun id hid=>by simp[Gh.frz,hid],fun _=>hlow⟩
def Gh.comb (g g1:Gh) (k:Nat):Gh:=⟨fun id=>if id<k then g.blk id else g1.blk (id-k),fun id=>if id<k then g.tok id else g1.tok (id-k),g1.fz⟩
theorem aS (k:Nat):∀l:List V,V.shifts k l=l.map (V.shift k)
 | []=>rfl
 | v::l=>by simp[V.shifts,aS k l]
theorem iY (k:Nat) (v:V):(v.shift k).cells=v.cells.map (V.shift k):=by
 cases v<;>simp[V.shift,V.cells,aS]
theorem fq (k:Nat):∀l:List V,aG (V.shifts k l)=(aG l).map (V.shift k)
 | []=>rfl
 | v::l=>by
  have e:∀(a:V) (l:List V),aG (a::l)=a.cells++aG l:=fun a l=>by simp[aG]
  rw[V.shifts,e,e,iY,fq k l,List.map_append]
theorem Rep.shift {g g1:Gh}{w:World}{k:Nat}{x:Value}{v:V}(h:Rep g1 w x v):Rep (g.comb g1 k) w x (v.shift k):=by
 induction h with
 | c x=>exact .c x
 | agg xs cs hn h1 _ ih=>rw[V.shift,aS];exact .agg xs _ (by simpa using hn) h1 fun i hi hj=>by rw[List.getElem_map];exact ih i hi (by simpa using hj)
 | tup xs cs hn _ ih=>rw[V.shift,aS];exact .tup xs _ (by simpa using hn) fun i hi hj=>by rw[List.getElem_map];exact ih i hi (by simpa using hj)
 | sl A n cap us i z cv hn hc hzz hA _ hi ih =>
  have hl:(V.shifts k us).length=us.length:=by rw[aS,List.length_map]
  rw[V.shift];refine .sl A n cap _ _ z cv (by rw[hl];exact hn) hc (fun u hu=>?_) (fun hne=>?_) (fun j hj=>?_) ?_
  ·rw[aS] at hu;obtain⟨u0,hu0,rfl⟩:=List.mem_map.1 hu;rw[iY,List.length_map];exact hzz u0 hu0
  ·obtain⟨b,o,e,h2⟩:=hA (by intro e;subst e;exact hne rfl);rw[hl];exact⟨b,o,e,h2⟩
  ·have hj':j<(aG us).length:=by rw[fq,List.length_map] at hj;exact hj
   have:(aG (V.shifts k us))[j]=((aG us)[j]).shift k:=by
    have e:(aG (V.shifts k us))[j]?=((aG us).map (V.shift k))[j]?:=by rw[fq]
    rw[gE hj,List.getElem?_map,gE hj'] at e;exact Option.some.inj e
   rw[this];exact ih j hj'
  ·cases i with
   | any=>trivial
   | nil=>exact hi
   | full=>exact hi
   | isn=>exact hi
   | nz=>exact hi
   | tok t =>
    obtain⟨b,l,c,h1,h2⟩:=hi;exact⟨b,l,c,by have:¬t+k<k:=(by omega);simp[Gh.comb,SI.shift,h1,this],h2⟩
 | ptr b o o' cs off cv ho hA _ ih =>
  rw[V.shift,aS];exact .ptr b o o' _ off cv ho (fun j hj=>hA j (by simpa using hj)) fun j hj=>by rw[List.getElem_map];exact ih j (by simpa using hj)
 | ref id b o h=>exact .ref (id+k) b o (by have:¬ id+k<k:=(by omega);simp[Gh.comb,h,this])
 | bnd f id b o h=>exact .bnd f (id+k) b o (by have:¬ id+k<k:=(by omega);simp[Gh.comb,h,this])
 | clo f xs cs hn _ ih=>rw[V.shift,aS];exact .clo f xs _ (by simpa using hn) fun i hi hj=>by rw[List.getElem_map];exact ih i hi (by simpa using hj)
 | row A n cap id off z hc h=>exact .row A n cap (id+k) off z hc fun hn=>(h hn).imp fun b e=>⟨e.1,by have:¬ id+k<k:=(by omega);simp[Gh.comb,e.2,this]⟩
 | buf A n cap id hc h =>
  obtain⟨b,cc,T,h1,h2,h3,h4⟩:=h;have:¬id+k<k:=by omega
  exact .buf A n cap (id+k) hc ⟨b,cc,T,h1,by simp[Gh.comb,h2,this],h3,h4⟩
 | tsl A n cap t z hc hA h =>
  obtain⟨b,l,c,h1,h2⟩:=h;have:¬t+k<k:=by omega
  exact .tsl A n cap (t+k) z hc hA ⟨b,l,c,by simp[Gh.comb,h1,this],h2⟩
 | tref A t n o h =>
  obtain⟨b,l,c,h1,h2⟩:=h;have:¬t+k<k:=by omega
  exact .tref A (t+k) n o ⟨b,l,c,by simp[Gh.comb,h1,this],h2⟩
 | top x=>exact .top x
 | fmp b es ck ks vs h1 h2 hk hn _ ih =>
  rw[V.shift,aS];exact .fmp b es ck ks _ h1 h2 hk (by simpa using hn) fun i hi hj=>by rw[List.getElem_map];exact ih i hi (by simpa using hj)
 | mref id b h=>exact .mref (id+k) b (by have:¬ id+k<k:=(by omega);simp[Gh.comb,h,this])
 | yld l t y m tmps caps h1 hl hn _ ih =>
  rw[V.shift,aS];exact .yld l (t+k) y m tmps _ (by have:¬t+k<k:=(by omega);simp[Gh.comb,h1,this]) hl (by simpa using hn) fun i hi hj=>by rw[List.getElem_map];exact ih i hi (by simpa using hj)
theorem Bx {g g1:Gh}{w w1:World}{h s:List O}(H:HOk g w h) (hle:Le ⟨fun _=>none,fun _=>none,g.fz⟩ w g1 w1) (hs:HOk g1 w1 s) :
  Le g w (g.comb g1 h.length) w1∧HOk (g.comb g1 h.length) w1 (h++s.map (O.shift h.length))∧Quiet (Frb h.length h) g h (g.comb g1 h.length) (h++s.map (O.shift h.length)):=by
 have hno:∀b,¬(Gh.owns ⟨fun _=>none,fun _=>none,g.fz⟩ b):=by
  rintro b (⟨id,e⟩|⟨k,l,c,e⟩)<;>simp at e
 have hnew:∀b,g1.owns b→w.heap.size≤b:=fun b hb=>Nat.le_of_not_lt fun hlt=>hno b (hle.own b hb hlt)
 have hblk:∀id b,(g.comb g1 h.length).blk id=some b→(id<h.length∧g.blk id=some b)∨(h.length≤id∧g1.blk (id-h.length)=some b):=by
  intro id b e;simp only[Gh.comb] at e;split at e
  ·exact .inl ⟨‹_›,e⟩
  ·exact .inr ⟨by omega,e⟩
 have htok:∀id p,(g.comb g1 h.length).tok id=some p→(id<h.length∧g.tok id=some p)∨(h.length≤id∧g1.tok (id-h.length)=some p):=by
  intro id b e;simp only[Gh.comb] at e;split at e
  ·exact .inl ⟨‹_›,e⟩
  ·exact .inr ⟨by omega,e⟩
 have hle':Le g w (g.comb g1 h.length) w1:={
  blk:=fun id b e=>by simp[Gh.comb,(H.blk_lt e).1,e]
  tok:=fun k b l c e=>⟨b,l,c,by simp[Gh.comb,(H.tok_lt e).1,e],nL _,fun _=>⟨rfl,rfl⟩⟩
  fz:=hle.fz
  own:=fun b ho hlt=>by
   rcases ho with⟨id,e⟩|⟨k,l,c,e⟩
   ·rcases hblk _ _ e with e|e
    ·exact .inl ⟨id,e.2⟩
    ·exact absurd (hnew b (.inl ⟨_,e.2⟩)) (by omega)
   ·rcases htok _ _ e with e|e
    ·exact .inr ⟨k,l,c,e.2⟩
    ·exact absurd (hnew b (.inr ⟨_,l,c,e.2⟩)) (by omega)
  fzn:=fun b o e hlt=>(hle.fzn b o e hlt).imp id fun e=>absurd e (hno b)
  kept:=fun b hlt _=>hle.kept b hlt (hno b)
  size:=hle.size
  tape:=hle.tape
  os:=hle.os
  output:=hle.output,sz:=hle.sz,oth:=hle.oth }
 have hnf:∀b o,g1.fz b o→b<w.heap.size→g.fz b o:=fun b o h hlt=>(hle.fzn b o h hlt).resolve_right (hno b)
 have hsget:∀id o,s[id-h.length]?=some o→h.length≤id→(h++s.map (O.shift h.length))[id]?=some (o.shift h.length):=by
  intro id o e hid;rw[aR hid,List.getElem?_map,e];rfl
 refine⟨hle',⟨fun id b e=>?_,fun id b n c e=>?_,fun id id' b e e'=>?_,fun id id' b n c n' c' e e'=>?_,fun id id' b n c e e'=>?_,hs.ag.eqv rfl⟩,fun id hid=>?_⟩
 ·rcases hblk _ _ e with⟨hid,e⟩|⟨hid,e⟩
  ·rcases H.obj id b e with⟨cs,c,T,c1,c2,c3,c4,c5⟩|q
   ·have hlt:=(Array.getElem?_eq_some_iff.1 c2).1;exact .inl ⟨cs,c,T,by rw[aL hid];exact c1,(hle.kept b hlt (hno b)).trans c2,c3,fun j hj hc=>⟨(c4 j hj hc).1.mono hle',(c4 j hj hc).2⟩,fun o ho=>c5 o (hnf b o ho hlt)⟩
   ·exact .inr (q.go hle' (aL hid) (hle.kept b q.lt.2 (hno b)) fun o ho=>hnf b o ho q.lt.2)
  ·rcases hs.obj _ _ e with⟨cs,c,T,c1,c2,c3,c4,c5⟩|q
   ·refine .inl ⟨V.shifts h.length cs,c,T,hsget _ _ c1 hid,c2,by rw[aS,List.length_map];exact c3,fun j hj hc=>?_,c5⟩;have hj':j<cs.length:=by rw[aS,List.length_map] at hj;exact hj
    have e1:(V.shifts h.length cs)[j]=(cs[j]).shift h.length:=by simp[aS]
    rw[e1];exact⟨(c4 j hj' hc).1.shift,(c4 j hj' hc).2⟩
   ·rcases q with⟨s',L,q1,q2,q3,q4⟩|⟨ks,vs,es,ck,q1,q2,q3,q4,q5,q6⟩
    ·exact .inr (.inl ⟨s',L,hsget _ _ q1 hid,q2,q3,q4⟩)
    ·refine .inr (.inr ⟨ks,V.shifts h.length vs,es,ck,hsget _ _ q1 hid,q2,q3,by rw[aS,List.length_map];exact q4,fun i hi hj=>?_,q6⟩);have hj':i<vs.length:=by rw[aS,List.length_map] at hj;exact hj
     have e1:(V.shifts h.length vs)[i]=(vs[i]).shift h.length:=by simp[aS]
     rw[e1];exact (q5 i hi hj').shift
 ·rcases htok _ _ e with⟨hid,e⟩|⟨hid,e⟩
  ·obtain⟨z,cc,T,c1,c2,c3,c4,c5⟩:=H.tok id b n c e;have hlt:=(Array.getElem?_eq_some_iff.1 c2).1;exact⟨z,cc,T,c1.map (aL hid) (fun r=>r.mono hle') (fun o ho=>hnf b o ho hlt),(hle.kept b hlt (hno b)).trans c2,c3,c4,fun o ho=>c5 o (hnf b o ho hlt)⟩
  ·obtain⟨z,cc,T,c1,c2,c3,c4,c5⟩:=hs.tok _ _ _ _ e;refine⟨z,cc,T,?_,c2,c3,c4,c5⟩;rcases c1 with c1|⟨cs,c1,c6,c7,c8⟩
   ·exact .inl (hsget _ _ c1 hid)
   ·refine .inr ⟨V.shifts h.length cs,hsget _ _ c1 hid,by rw[aS,List.length_map];exact c6,fun j hj hc=>?_,c8⟩;have hj':j<cs.length:=by rw[aS,List.length_map] at hj;exact hj
    have e1:(V.shifts h.length cs)[j]=(cs[j]).shift h.length:=by simp[aS]
    rw[e1];exact⟨(c7 j hj' hc).1.shift,(c7 j hj' hc).2⟩
 ·rcases hblk _ _ e with⟨hid,e⟩|⟨hid,e⟩<;>rcases hblk _ _ e' with⟨hid',e'⟩|⟨hid',e'⟩
  ·exact H.inj _ _ _ e e'
  ·have:=(H.blk_lt e).2;have:=hnew b (.inl ⟨_,e'⟩);omega
  ·have:=(H.blk_lt e').2;have:=hnew b (.inl ⟨_,e⟩);omega
  ·have:=hs.inj _ _ _ e e';omega
 ·rcases htok _ _ e with⟨hid,e⟩|⟨hid,e⟩<;>rcases htok _ _ e' with⟨hid',e'⟩|⟨hid',e'⟩
  ·exact H.tinj _ _ _ _ _ _ _ e e'
  ·have:=(H.tok_lt e).2;have:=hnew b (.inr ⟨_,_,_,e'⟩);omega
  ·have:=(H.tok_lt e').2;have:=hnew b (.inr ⟨_,_,_,e⟩);omega
  ·have:=hs.tinj _ _ _ _ _ _ _ e e';omega
 ·rcases hblk _ _ e with⟨hid,e⟩|⟨hid,e⟩<;>rcases htok _ _ e' with⟨hid',e'⟩|⟨hid',e'⟩
  ·exact H.bt _ _ _ _ _ e e'
  ·have:=(H.blk_lt e).2;have:=hnew b (.inr ⟨_,_,_,e'⟩);omega
  ·have:=(H.tok_lt e').2;have:=hnew b (.inl ⟨_,e⟩);omega
  ·exact hs.bt _ _ _ _ _ e e'
 ·have hid':id<h.length:=Nat.lt_of_not_le fun h=>hid (.inl h)
  refine⟨fun e=>by simp[Gh.comb,hid',e],fun e=>by simp[Gh.comb,hid',e],fun _ _=>?_⟩;rw[aL hid']
def Gh.only (g:Gh) (h:List O):Gh:=⟨fun id=>if nbO h[id]? then g.blk id else none,fun id=>if nbO h[id]? then g.tok id else none,g.fz⟩
theorem gn {g:Gh}{h:List O}{id b:Nat}(e:(g.only h).blk id=some b):nbO h[id]?=true∧g.blk id=some b:=by
 simp only[Gh.only] at e;split at e
 ·exact⟨‹_›,e⟩
 ·cases e
theorem gq {g:Gh}{h:List O}{id:Nat}{p:Nat × Nat × Nat}(e:(g.only h).tok id=some p):nbO h[id]?=true∧g.tok id=some p:=by
 simp only[Gh.only] at e;split at e
 ·exact⟨‹_›,e⟩
 ·cases e
theorem iI {g g':Gh}{w w':World}{x:Value}{v:V}(hv:BG v=true) (h:Rep g w x v):Rep g' w' x v∧∃y,x=.bool y:=by
 cases v with
 | c y =>
  rw[h.of_c];refine⟨.c _,?_⟩;simp only[BG] at hv;cases y<;>first|exact⟨_,rfl⟩|cases hv
 | _=>cases hv
theorem mU {cs:List V}(h:nbO (some (.cells cs))=true):∀j (hj:j<cs.length),BG cs[j]=true:=fun j hj=>List.all_eq_true.1 h _ (List.getElem_mem hj)
theorem rD {n z:Nat}{cs:List V}(h:nbO (some (.tokc n z cs))=true):∀j (hj:j<cs.length),BG cs[j]=true:=fun j hj=>List.all_eq_true.1 h _ (List.getElem_mem hj)
theorem HOk.only {g:Gh}{w:World}{h:List O}(H:HOk g w h):HOk (g.only h) w h:=by
 refine⟨fun id b e=>?_,fun id b n cap e=>?_,fun id id' b e e'=>H.inj id id' b (gn e).2 (gn e').2,fun id id' b n c n' c' e e'=>H.tinj id id' b n c n' c' (gq e).2 (gq e').2,
  fun id id' b n c e e'=>H.bt id id' b n c (gn e).2 (gq e').2,H.ag.eqv rfl⟩
 ·obtain⟨hn,e'⟩:=gn e;rcases H.obj _ _ e' with⟨cs,c,T,h1,h2,h3,h4,h5⟩|⟨s,L,h1,_⟩|⟨ks,vs,es,ck,h1,_⟩
  ·rw[h1] at hn;exact .inl ⟨cs,c,T,h1,h2,h3,fun j hj hc=>⟨(iI (mU hn j hj) (h4 j hj hc).1).1,(h4 j hj hc).2⟩,h5⟩
  ·rw[h1] at hn;cases hn
  ·rw[h1] at hn;cases hn
 ·obtain⟨hn,e'⟩:=gq e;obtain⟨z,c,T,h1,h2,h3,h4,h5⟩:=H.tok _ _ _ _ e';refine⟨z,c,T,?_,h2,h3,h4,h5⟩;rcases h1 with h1|⟨cs,h1,h6,h7,h8⟩
  ·rw[h1] at hn;cases hn
  ·rw[h1] at hn;exact .inr ⟨cs,h1,h6,fun j hj hc=>⟨(iI (rD hn j hj) (h7 j hj hc).1).1,(h7 j hj hc).2⟩,h8⟩
theorem yx {g:Gh}{w:World}{h:List O}{x:Value}{v:V}(hx:Rep g w x v) (hv:nbA h v=true):Rep (g.only h) w x v:=by
 simp only[nbA,Bool.or_eq_true] at hv;rcases hv with hv|hv
 ·exact hx.bare hv fun _ _ h=>h
 ·cases hx with
  | row A n cap id off z hc hA=>exact .row A n cap id off z hc fun hn=>(hA hn).imp fun b hb=>⟨hb.1,by simp only[Gh.only];rw[if_pos hv];exact hb.2⟩
  | tsl A n cap k z hc hA h=>exact .tsl A n cap k z hc hA (by simp only[Gh.only];rw[if_pos hv];exact h)
  | _=>cases hv
theorem ye {g:Gh}{w:World}{h:List O}(H:HOk g w h){b o:Nat}(e:((g.only h).frz 0 h).fz b o):g.fz b o∨∃y,w.cell? ⟨b,o,none⟩=some (.bool y):=by
 rcases e with e|⟨id,cs,_,q2,q3,q4⟩|⟨id,n,cap,n2,z,cs,_,q2,q3,q4⟩
 ·exact .inl e
 ·obtain⟨hn,e'⟩:=gn q2;rw[q3] at hn;obtain⟨cs0,c,T,h1,h2,h3,h4,h5⟩:=H.cellsOf e' q3;have hcs0:cs0=cs:=by rw[q3] at h1;simp at h1;exact h1.symm
  subst hcs0;have hj:o<c.size:=by omega
  obtain⟨y,hy⟩:=(iI (g':=g) (w':=w) (mU hn o q4) (h4 o q4 hj).1).2;refine .inr ⟨y,?_⟩;rw[bW h2,← hy];simp[hj]
 ·obtain⟨hn,e'⟩:=gq q2;rw[q3] at hn;obtain⟨z',c,T,h1,h2,h3,h4,h5⟩:=H.tok _ _ _ _ e';rcases h1 with h1|⟨cs0,h1,h6,h7,h8⟩
  ·rw[q3] at h1;cases h1
  ·rw[q3] at h1;simp only[sI,O.tokc.injEq] at h1;obtain⟨rfl,rfl,rfl⟩:=h1;have hj:o<c.size:=by
    have:=Nat.mul_le_mul_right z h3;omega
   obtain⟨y,hy⟩:=(iI (g':=g) (w':=w) (rD hn o q4) (h7 o q4 hj).1).2;refine .inr ⟨y,?_⟩;rw[bW h2,← hy];simp[hj]
theorem jw:∀{cs:List V},V.nbl cs=true→∀i (hi:i<cs.length),V.nb cs[i]=true
 | [],_,i,hi=>absurd hi (Nat.not_lt_zero _)
 | c::cs,h,i,hi=>by
  simp only[V.nbl,bT] at h;cases i with
  | zero=>exact h.1
  | succ i=>exact jw h.2 i (by simpa using hi)
theorem qB {us:List V}(h:V.nbl us=true):∀c∈aG us,V.nb c=true:=by
 intro c hc;obtain⟨u,hu,hcu⟩:=List.mem_flatMap.1 hc;obtain⟨i,hi,rfl⟩:=List.getElem_of_mem hu;have:=jw h i hi;generalize us[i]=u at *;cases u with
 | agg cs =>
  simp only[V.nb] at this;simp only[V.cells] at hcu;obtain⟨j,hj,rfl⟩:=List.getElem_of_mem hcu;exact jw this j hj
 | _=>simp only[V.cells,List.mem_singleton] at hcu;rw[hcu];exact this
theorem DE {g g':Gh}{w:World}(hf:∀b o,g.fz b o→g'.fz b o∨∃y,w.cell? ⟨b,o,none⟩=some (.bool y)){x:Value}{v:V}(h:Rep g w x v) (hv:v.nb=true) (hl:V.low 0 v=true):Rep g' w x v:=by
 induction h with
 | c x=>exact .c x
 | agg xs cs hn h1 _ ih =>
  simp only[V.low] at hl;simp only[V.nb] at hv;exact .agg xs cs hn h1 fun i hi hj=>ih i hi hj (jw hv i hj) (aU hl i hj)
 | tup xs cs hn _ ih =>
  simp only[V.low] at hl;simp only[V.nb] at hv;exact .tup xs cs hn fun i hi hj=>ih i hi hj (jw hv i hj) (aU hl i hj)
 | sl A m cap us i z cv hn hc hzz hA hr hi ih =>
  simp only[V.low,bT] at hl;simp only[V.nb] at hv;refine .sl A m cap us i z cv hn hc hzz (fun hne=>?_) (fun j hj=>ih j hj (qB hv _ (List.getElem_mem _)) (iU hl.1 _ (List.getElem_mem _))) ?_
  ·obtain⟨b,o,e,h2⟩:=hA hne;refine⟨b,o,e,fun j hj=>⟨?_,(h2 j hj).2⟩⟩;rcases hf _ _ (h2 j hj).1 with h3|⟨y,h3⟩
   ·exact h3
   ·have hj':j<(aG us).length:=by rw[aO hzz];exact hj
    have h4:=hr j hj';have h5:=(h2 j hj).2.1;rw[h3] at h5;have h6:=qB hv _ (List.getElem_mem hj');rw[← Option.some.inj h5] at h4;generalize (aG us)[j]=u at *;cases h4<;>simp[V.nb,EB] at h6
  ·cases i with
   | any=>trivial
   | nil=>exact hi
   | full=>exact hi
   | isn=>exact hi
   | nz=>exact hi
   | tok k=>simp[SI.low] at hl
 | _=>cases hv
theorem Fz {h h2:List O}(hh:CellsLe h h2){v:V}(hv:nbA h v=true):nbA h2 v=true:=by
 have key:∀(id:Nat),nbO h[id]?=true→nbO h2[id]?=true:=by
  intro id hn;cases e:h[id]? with
  | none=>rw[e] at hn;cases hn
  | some o =>
   rw[e] at hn;cases o with
   | cells cs=>rw[hh _ (O.cells _) trivial e];exact hn
   | tokc n z cs=>rw[hh _ (O.tokc _ _ _) trivial e];exact hn
   | _=>cases hn
 simp only[nbA,Bool.or_eq_true] at hv ⊢;refine hv.imp id fun q=>?_
 cases v with
 | row id o n z=>exact key id q
 | tsl k n z=>exact key k q
 | _=>exact q
theorem DN {rw:Bool}{pf:Nat→Nat}{cf:av}(hp:bQ pf cf) (hcf:br P cf) (hm:P.follows .mixedOrders=true) (hY:Cc P){f:Nat}{fn:Func}(hf:P.funcs[f]?=some fn){pu es:Bool}{xf:XF}(htr:trF P pf (rid+100*f) pu es rw fn=some xf){n:Nat}{args:List V}{h:List O}{r:V}{h':List O}
  (hrun:fE cf n xf args h=some (r,h')):jC P f∧mn P f args h r h':=by
 obtain⟨t1,c,t2,t3,t4,t5,t6,t7⟩:=rj htr;have hyc:=hY f fn c hf t2 t7;refine⟨⟨fn,hf,t1,by rw[t2];rfl⟩,fun g w cargs H hl hr=>?_⟩;have hrv:∀i (hi:i<cargs.size) (hj:i<(args.map V.vw2).length),Rep g w cargs[i] (args.map V.vw2)[i]:=fun i hi hj=>by rw[List.getElem_map];exact (hr i hi (by simpa using hj)).vw2
 have hlv:cargs.size=(args.map V.vw2).length:=by simpa using hl
 unfold fE at hrun;split at hrun
 ·split at hrun
  ·rename_i hlow
   let g0:Gh:=⟨fun _=>none,fun _=>none,g.fz⟩
   have hno:∀b,¬g0.owns b:=by
    rintro b (⟨id,e⟩|⟨k,l,c,e⟩)<;>simp[g0] at e
   have H0:HOk g0 w []:=⟨fun id b e=>by simp[g0] at e,fun id b n c e=>by simp[g0] at e,fun id id' b e=>by simp[g0] at e,fun id id' b n c n' c' e=>by simp[g0] at e,fun id id' b n c e=>by simp[g0] at e,H.ag.eqv rfl⟩
   split at hrun
   ·simp only[mS,pI] at hrun;obtain⟨⟨r0,h0⟩,hrun,rfl,rfl⟩:=hrun;have H0':HOk g0 w (Ce xf):=⟨fun id b e=>by simp[g0] at e,fun id b n c e=>by simp[g0] at e,fun id id' b e=>by simp[g0] at e,fun id id' b n c n' c' e=>by simp[g0] at e,fun id id' b n c e=>by simp[g0] at e,H.ag.eqv rfl⟩
    have S0:Sim [] g0 w { tmps:=cargs++Array.replicate (fn.ntmps-cargs.size) undef,defers:=[] } (cB xf (args.map V.vw2) (Ce xf)) :=
     ⟨by simp only[cB];rw[t5];exact eH (g:=g0) (AgOk.eqv (g':=g0) H.ag rfl).gl hlv (fun i hi hj=>(hrv i hi hj).bare (aU hlow i hj) fun _ _ h=>h) _ _,H0',rfl⟩
    refine Calls.mono (i8 hp hcf hm hf t2 hyc t3 t4 hrun rfl (fun e s he=>ef _ _ _ _ he) S0) ?_;rintro e w' ⟨v,g3,s,r1,rfl,hle3,hs3,hq3,_,hrep3,hfin⟩;obtain⟨g1,hle,hs,hrep,_,_⟩:=mM (h:=Ce xf) H0' hle3 hs3 hq3 hrep3 hfin;obtain⟨k1,k2,k3⟩:=Bx H hle hs;exact⟨v,_,rfl,k1,k2,hrep.shift,k3⟩
   simp only[mS,pI] at hrun;obtain⟨⟨r0,h0⟩,hrun,rfl,rfl⟩:=hrun;have S0:Sim [] g0 w { tmps:=cargs++Array.replicate (fn.ntmps-cargs.size) undef,defers:=[] } (cB xf (args.map V.vw2) []) :=
    ⟨by simp only[cB];rw[t5];exact eH (g:=g0) (AgOk.eqv (g':=g0) H.ag rfl).gl hlv (fun i hi hj=>(hrv i hi hj).bare (aU hlow i hj) fun _ _ h=>h) _ _,H0,rfl⟩
   refine Calls.mono (i8 hp hcf hm hf t2 hyc t3 t4 hrun rfl (fun e s he=>ef _ _ _ _ he) S0) ?_;rintro e w' ⟨v,g3,s,r1,rfl,hle3,hs3,hq3,_,hrep3,hfin⟩;obtain⟨g1,hle,hs,hrep,_,hlo⟩:=mM (h:=[]) H0 hle3 hs3 hq3 hrep3 hfin;have hlo:=hlo rfl;have hle':Le g w ⟨g.blk,g.tok,g1.fz⟩ w':={
    blk:=fun _ _ h=>h
    tok:=fun k b l c h=>⟨b,l,c,h,nL _,fun _=>⟨rfl,rfl⟩⟩
    fz:=hle.fz
    own:=fun _ h _=>h
    fzn:=fun b o h hlt=>(hle.fzn b o h hlt).imp id fun h=>absurd h (hno b)
    kept:=fun b hlt _=>hle.kept b hlt (hno b)
    size:=hle.size
    tape:=hle.tape
    os:=hle.os
    output:=hle.output,sz:=hle.sz,oth:=hle.oth }
   have hnf:∀b o,g1.fz b o→b<w.heap.size→g.fz b o:=fun b o h hlt=>(hle.fzn b o h hlt).resolve_right (hno b)
   refine⟨v,⟨g.blk,g.tok,g1.fz⟩,rfl,hle',⟨fun id b e=>?_,fun id b n c e=>?_,H.inj,H.tinj,H.bt,hs.ag.eqv rfl⟩,hrep.bare hlo fun _ _ h=>h,fun id hid=>⟨fun h=>h,fun h=>h,fun _ _=>rfl⟩⟩
   ·rcases H.obj id b e with⟨cs,c,T,c1,c2,c3,c4,c5⟩|q
    ·have hlt:=(Array.getElem?_eq_some_iff.1 c2).1;exact .inl ⟨cs,c,T,c1,(hle.kept b hlt (hno b)).trans c2,c3,fun j hj hc=>⟨(c4 j hj hc).1.mono hle',(c4 j hj hc).2⟩,fun o ho=>c5 o (hnf b o ho hlt)⟩
    ·exact .inr (q.go hle' rfl (hle.kept b q.lt.2 (hno b)) fun o ho=>hnf b o ho q.lt.2)
   ·obtain⟨z,cc,T,c1,c2,c3,c4,c5⟩:=H.tok id b n c e;have hlt:=(Array.getElem?_eq_some_iff.1 c2).1;exact⟨z,cc,T,c1.map rfl (fun r=>r.mono hle') (fun o ho=>hnf b o ho hlt),(hle.kept b hlt (hno b)).trans c2,c3,c4,fun o ho=>c5 o (hnf b o ho hlt)⟩
  ·split at hrun
   ·cases hrun
   split at hrun
   ·rename_i bs hbs;split at hrun
    ·rename_i hlow;split at hrun
     ·rename_i r' hh hrun2;split at hrun
      ·rename_i hcond;simp only[sI,pI] at hrun;obtain⟨rfl,rfl⟩:=hrun;rcases (Bool.or_eq_true _ _ ▸ hcond:_∨_) with hflat|hnbs
       rotate_left
       ·simp only[bT] at hnbs;obtain⟨hnb,hna⟩:=hnbs;have H':=H.only;have hrv':∀i (hi:i<cargs.size) (hj:i<(args.map V.vw2).length),Rep (g.only h) w cargs[i] (args.map V.vw2)[i]:=fun i hi hj =>
         yx (hrv i hi hj) (List.all_eq_true.1 hna _ (List.getElem_mem hj))
        have H0:=H'.frz (lo:=0) (by simp);simp only[List.take_zero] at H0;have hno:∀b,¬((g.only h).frz 0 h).owns b:=by
         rintro b (⟨id,e⟩|⟨k,l,c,e⟩)<;>simp[Gh.frz] at e
        obtain⟨m1,m2⟩:=jd (Q:=d7 (g.only h) w ((g.only h).frz 0 h)) (lW H' n) hbs;have S0:Sim [] ((g.only h).frz 0 h) w { tmps:=cargs++Array.replicate (fn.ntmps-cargs.size) undef,defers:=[] } (cB xf bs []) :=
         ⟨by simp only[cB];rw[t5];exact eH H0.ag.gl (by omega) (fun i hi hj=>(m2 i (by omega) hj).1 _ (hrv' i hi (by omega))) _ _,H0,rfl⟩
        refine Calls.mono (i8 hp hcf hm hf t2 hyc t3 t4 hrun2 rfl (fun e s he=>ef _ _ _ _ he) S0) ?_;rintro e w' ⟨v,g3,s,r1,rfl,hle3,hs3,hq3,_,hrep3,hfin⟩;obtain⟨g1,hle,hs,hrep,_,hlo⟩:=mM (h:=[]) H0 hle3 hs3 hq3 hrep3 hfin;have hlo:=hlo rfl
        let gF:Gh:=⟨g.blk,g.tok,fun b o=>g.fz b o∨(g1.fz b o∧w.heap.size≤b)⟩
        have hle':Le g w gF w':={
         blk:=fun _ _ h=>h
         tok:=fun k b l c h=>⟨b,l,c,h,nL _,fun _=>⟨rfl,rfl⟩⟩
         fz:=fun b o h=>⟨.inl h,(hle.fz b o (.inl h)).2⟩
         own:=fun _ h _=>h
         fzn:=fun b o h hlt=>by
          rcases h with h|⟨_,h⟩
          ·exact .inl h
          ·omega
         kept:=fun b hlt _=>hle.kept b hlt (hno b)
         size:=hle.size
         tape:=hle.tape
         os:=hle.os
         output:=hle.output,sz:=hle.sz,oth:=hle.oth.fzs fun b o h=>.inl h }
        have hnf:∀b o,gF.fz b o→b<w.heap.size→g.fz b o:=by
         rintro b o (h|⟨_,h⟩) hlt
         ·exact h
         ·omega
        refine⟨v,gF,rfl,hle',⟨fun id b e=>?_,fun id b n c e=>?_,H.inj,H.tinj,H.bt,H.ag.go hle' fun b o h=>?_⟩,DE (fun b o hfz=>?_) hrep hnb hlo,fun id hid=>⟨fun h=>h,fun h=>h,fun _ _=>rfl⟩⟩
        ·rcases H.obj id b e with⟨cs,c,T,c1,c2,c3,c4,c5⟩|q
         ·have hlt:=(Array.getElem?_eq_some_iff.1 c2).1;exact .inl ⟨cs,c,T,c1,(hle.kept b hlt (hno b)).trans c2,c3,fun j hj hc=>⟨(c4 j hj hc).1.mono hle',(c4 j hj hc).2⟩,fun o ho=>c5 o (hnf b o ho hlt)⟩
         ·exact .inr (q.go hle' rfl (hle.kept b q.lt.2 (hno b)) fun o ho=>hnf b o ho q.lt.2)
        ·obtain⟨z,cc,T,c1,c2,c3,c4,c5⟩:=H.tok id b n c e;have hlt:=(Array.getElem?_eq_some_iff.1 c2).1;exact⟨z,cc,T,c1.go hle' rfl (fun o ho=>hnf b o ho hlt),(hle.kept b hlt (hno b)).trans c2,c3,c4,fun o ho=>c5 o (hnf b o ho hlt)⟩
        ·rcases h with h|⟨h,_⟩
         ·exact Nat.lt_of_lt_of_le (H.al b o h) hle.size
         ·exact hs.ag.al b o h
        ·by_cases hlt:b<w.heap.size
         ·rcases hle.fzn b o hfz hlt with h1|h1
          ·rcases ye H h1 with h2|⟨y,h2⟩
           ·exact .inl (.inl h2)
           ·exact .inr ⟨y,(hle.fz b o h1).2.trans h2⟩
          ·exact absurd h1 (hno b)
         ·exact .inl (.inr ⟨hfz,by omega⟩)
       have H0:=H.frz (lo:=0) (by simp);simp only[List.take_zero] at H0;have hno:∀b,¬(g.frz 0 h).owns b:=by
        rintro b (⟨id,e⟩|⟨k,l,c,e⟩)<;>simp[Gh.frz] at e
       obtain⟨m1,m2⟩:=jd (Q:=d7 g w (g.frz 0 h)) (lW H n) hbs;have S0:Sim [] (g.frz 0 h) w { tmps:=cargs++Array.replicate (fn.ntmps-cargs.size) undef,defers:=[] } (cB xf bs []) :=
        ⟨by simp only[cB];rw[t5];exact eH H0.ag.gl (by omega) (fun i hi hj=>(m2 i (by omega) hj).1 _ (hrv i hi (by omega))) _ _,H0,rfl⟩
       refine Calls.mono (i8 hp hcf hm hf t2 hyc t3 t4 hrun2 rfl (fun e s he=>ef _ _ _ _ he) S0) ?_;rintro e w' ⟨v,g3,s,r1,rfl,hle3,hs3,hq3,_,hrep3,hfin⟩;obtain⟨g1,hle,hs,hrep,_,hlo⟩:=mM (h:=[]) H0 hle3 hs3 hq3 hrep3 hfin;have hle':Le g w g w':={
        blk:=fun _ _ h=>h
        tok:=fun k b l c h=>⟨b,l,c,h,nL _,fun _=>⟨rfl,rfl⟩⟩
        fz:=fun b o h=>⟨h,(hle.fz b o (.inl h)).2⟩
        own:=fun _ h _=>h
        fzn:=fun b o h hlt=>.inl h
        kept:=fun b hlt _=>hle.kept b hlt (hno b)
        size:=hle.size
        tape:=hle.tape
        os:=hle.os
        output:=hle.output,sz:=hle.sz,oth:=hle.oth.fzs fun b o h=>.inl h }
       refine⟨v,g,rfl,hle',⟨fun id b e=>?_,fun id b n c e=>?_,H.inj,H.tinj,H.bt,H.ag.go hle' fun b o h=>Nat.lt_of_lt_of_le (H.al b o h) hle.size⟩,qA _ hflat _ hrep,fun id hid=>⟨fun h=>h,fun h=>h,fun _ _=>rfl⟩⟩
       ·rcases H.obj id b e with⟨cs,c,T,c1,c2,c3,c4,c5⟩|q
        ·have hlt:=(Array.getElem?_eq_some_iff.1 c2).1;exact .inl ⟨cs,c,T,c1,(hle.kept b hlt (hno b)).trans c2,c3,fun j hj hc=>⟨(c4 j hj hc).1.mono hle',(c4 j hj hc).2⟩,c5⟩
        ·exact .inr (q.go hle' rfl (hle.kept b q.lt.2 (hno b)) fun _ h=>h)
       ·obtain⟨z,cc,T,c1,c2,c3,c4,c5⟩:=H.tok id b n c e;have hlt:=(Array.getElem?_eq_some_iff.1 c2).1;exact⟨z,cc,T,c1.go hle' rfl (fun _ h=>h),(hle.kept b hlt (hno b)).trans c2,c3,c4,c5⟩
      ·cases hrun
     ·cases hrun
    ·cases hrun
   ·cases hrun
 ·have hrt:∀i (hi:i<cargs.size) (hj:i<(args.map (if xf.esc then V.vwt else V.vw2)).length),Rep g w cargs[i] (args.map (if xf.esc then V.vwt else V.vw2))[i]:=fun i hi hj=>by
   rw[List.getElem_map];split
   ·exact (hr i hi (by simpa using hj)).vwt
   ·exact (hr i hi (by simpa using hj)).vw2
  have S:Sim [] g w { tmps:=cargs++Array.replicate (fn.ntmps-cargs.size) undef,defers:=[] } (cB xf (args.map (if xf.esc then V.vwt else V.vw2)) h):=⟨by simp only[cB];rw[t5];exact eH H.ag.gl (by simpa using hl) hrt _ _,H,rfl⟩
  refine Calls.mono (i8 hp hcf hm hf t2 hyc t3 t4 hrun rfl (fun e s he=>ef _ _ _ _ he) S) ?_;rintro e w' ⟨v,g3,s,r1,rfl,hle3,hs3,hq3,_,hrep3,hfin⟩;obtain⟨g2,k1,k2,k3,k4,_⟩:=mM H hle3 hs3 hq3 hrep3 hfin;exact⟨v,g2,rfl,k1,k2,k3,k4⟩
theorem mr {g:Gh}{w:World}:∀(ps:List Nat) (vs tm tm':List V) (xs:List Value) (cs:Array Value),eZ ps vs tm=some tm'→xs.length=vs.length→(∀i (hi:i<xs.length) (hj:i<vs.length),Rep g w xs[i] vs[i]) →
  cs.size=tm.length→(∀i (hi:i<cs.size) (hj:i<tm.length),Rep g w cs[i] tm[i]) →
  ((ps.zip xs).foldl (fun t (q:Nat × Value)=>t.setIfInBounds q.1 q.2) cs).size=tm'.length∧∀i (hi:i<((ps.zip xs).foldl (fun t (q:Nat × Value)=>t.setIfInBounds q.1 q.2) cs).size) (hj:i<tm'.length),Rep g w ((ps.zip xs).foldl (fun t (q:Nat × Value)=>t.setIfInBounds q.1 q.2) cs)[i] tm'[i]
 | [],[],tm,tm',xs,cs,h,_,_,hn,hr=>by
  simp only[eZ,sI] at h;subst h;exact⟨hn,hr⟩
 | p::ps,v::vs,tm,tm',xs,cs,h,hl,hx,hn,hr=>by
  cases xs with
  | nil=>simp at hl
  | cons x xs =>
   simp only[eZ] at h;simp only[List.zip_cons_cons,List.foldl_cons];refine mr ps vs (tm.set p v) tm' xs (cs.setIfInBounds p x) h (by simpa using hl) (fun i hi hj=>hx (i+1) (by simpa using hi) (by simpa using hj)) (by simpa using hn) fun i hi hj=>?_
   rw[Array.getElem_setIfInBounds,List.getElem_set];split
   ·exact hx 0 (by simp) (by simp)
   ·exact hr i (by simpa using hi) (by simpa using hj)
 | [],_::_,_,_,_,_,h,_,_,_,_=>by simp[eZ] at h
 | _::_,[],_,_,_,_,h,_,_,_,_=>by simp[eZ] at h
theorem HOk.backTo {g g1:Gh}{w w1:World}{h s:List O}(H:HOk g w h) (hle:Le g w g1 w1) (hs:HOk g1 w1 s) (hq:Quiet (Frb h.length h) g h g1 s) (hall:(s.take h.length).all (O.low h.length)=true) :
  Le g w (g1.res h.length) w1∧HOk (g1.res h.length) w1 (s.take h.length)∧Quiet (Frb h.length h) g h (g1.res h.length) (s.take h.length):=by
 have hb:∀id b,g.blk id=some b→id<h.length:=fun id b e=>(H.blk_lt e).1
 have ht:∀id p,g.tok id=some p→id<h.length:=fun id p e=>by obtain⟨b,n,c⟩:=p;exact (H.tok_lt e).1
 refine⟨hle.res hb ht,hs.res _ hall,fun id hid=>?_⟩;have hid':id<h.length:=Nat.lt_of_not_le fun h=>hid (.inl h)
 obtain⟨q1,q2,q3⟩:=hq id hid;refine⟨fun e=>by simp only[Gh.res,hid',if_true];exact q1 e,fun e=>by simp only[Gh.res,hid',if_true];exact q2 e,fun e e'=>?_⟩;rw[List.getElem?_take,if_pos hid'];exact q3 e e'
theorem HOk.loopOf {g:Gh}{w:World}{h:List O}(H:HOk g w h){k l s:Nat}(hb:g.blk k=some l) (hk:h[k]?=some (.loop s)):∃L,w.heap[l]?=some (.loop L)∧nU s L∧∀o,¬g.fz l o:=by
 rcases H.obj _ _ hb with⟨_,_,_,q,_⟩|⟨s',L,q,q2,q3,q4⟩|⟨_,_,_,_,q,_⟩<;>rw[hk] at q<;>simp only[sI,O.loop.injEq,reduceCtorEq] at q
 subst q;exact⟨L,q2,q3,q4⟩
theorem HOk.loopTo {g:Gh}{w:World}{h:List O}(H:HOk g w h){k l s s':Nat}(hb:g.blk k=some l) (hk:h[k]?=some (.loop s)){L L':Loop}(hL:w.heap[l]?=some (.loop L)) (hsame:LSame L L') (hst:nU s' L') :
  Le g w g (w.putObj l (.loop L'))∧HOk g (w.putObj l (.loop L')) (h.set k (.loop s')):=by
 obtain⟨_,_,_,hnf⟩:=H.loopOf hb hk;exact H.setOth hb hL rfl (ob':=.loop L') rfl ⟨_,rfl,hsame⟩ (w':=w.putObj l (.loop L')) rfl rfl rfl rfl (x:=.loop s') fun h' hx hb' t _=>.inl ⟨s',_,hx,hb',hst,hnf⟩
theorem nF {g:Gh}{h0 h:List O}{g0:Gh}{B:Nat→Prop}{k l:Nat}{x:O}(hq:Quiet B g0 h0 g h) (hb:g0.blk k=some l):Quiet B g0 h0 g (h.set k x):=by
 intro id hid;obtain⟨q1,q2,q3⟩:=hq id hid;refine⟨q1,q2,fun e e'=>?_⟩;rw[sN (fun h=>by subst h;rw[hb] at e;cases e)];exact q3 e e'
theorem yM {rw:Bool}{pf:Nat→Nat}{cf:av}(hp:bQ pf cf) (hcf:br P cf) (hm:P.follows .mixedOrders=true){y:Nat}{tps:Array Tmp}{asg body:Code}{xa xb:XC}(hy:yc y=some (tps,asg,body))
  {y1 y2 nt:Nat}(ha:trC P rw pf nt y1 asg=some xa) (hya:YcOk y1 asg) (hb:trC P rw pf nt y2 body=some xb) (hyb:YcOk y2 body){n:Nat}{as0:List V}{h:List O}{r:V}{h':List O}{k0:Int}
  (hrun:(if k0.toNat<h.length then cN cf n tps.toList xa xb k0.toNat (as0.take tps.toList.length) (as0.drop tps.toList.length) h else none)=some (r,h')):vk P y (.c (.int .i64 k0)::as0) h r h':=by
 intro k vs caps hargs g w l tmps cvs H hblk hla hn htm hcn hcv;simp only[cI,V.c.injEq,Value.int.injEq,true_and] at hargs;obtain⟨rfl,rfl⟩:=hargs;simp only[Int.toNat_natCast] at hrun;split at hrun;rotate_left
 ·cases hrun
 rename_i hkl;obtain⟨L,hL,hLt,hLy,hLn⟩:=hla;rw[hy] at hLy;simp only[sI,pI] at hLy;obtain⟨hLp,hLa,hLb⟩:=hLy;have hps:vs.length=tps.toList.length:=by rw[← hLn,hLp];simp
 rw[hps.symm,List.take_left' rfl,List.drop_left' rfl] at hrun;unfold cN at hrun;split at hrun;rotate_left
 ·cases hrun
 rename_i tm0 hput;split at hrun;rotate_left
 ·cases hrun
 rename_i st1 hex1;split at hrun;rotate_left
 ·cases hrun
 rename_i hk1;split at hrun;rotate_left
 ·cases hrun
 rename_i e st2 hex2;split at hrun;rotate_left
 ·cases hrun
 rename_i hk2;simp only at hrun;split at hrun;rotate_left
 ·cases hrun
 rename_i hall;simp only[sI,pI] at hrun;obtain⟨rfl,rfl⟩:=hrun;have hyl:=run_yield (P:=P) (args:=cvs) hL (by rw[hcn,hLn]);refine⟨_,_,_,_,hyl,?_⟩;rw[← hLa,← hLb];refine roundIn_of_wpIn (F:=Fence.wide) trivial ?_;have hzip:(L.params.zip cvs).foldl (fun tmps (q:Tmp × Value)=>tmps.setIfInBounds q.1 q.2) L.tmps=(tps.toList.zip cvs.toList).foldl (fun t (q:Nat × Value)=>t.setIfInBounds q.1 q.2) tmps:=by
  rw[← hLp,hLt,← Array.foldl_toList,Array.toList_zip]
 obtain⟨z1,z2⟩:=mr (g:=g) (w:=w) tps.toList vs caps tm0 cvs.toList tmps hput (by simpa using hcn) (fun i hi hj=>by simpa using hcv i (by simpa using hi) hj) hn htm;have S0:Sim [] g w { tmps:=(L.params.zip cvs).foldl (fun tmps (q:Tmp × Value)=>tmps.setIfInBounds q.1 q.2) L.tmps,defers:=[] } { tm:=tm0,h:=h,base:=h.length,rb:=0 }:=by
  refine⟨?_,H,rfl⟩;rw[hzip];exact⟨z1,z2,H.ag.gl⟩
 refine kV (ρ:=some l) (m:=0) (nn:=0) (base:=h.length) hp hcf hm n asg y1 xa ha hya [] g w _ _ st1 .normal hex1 S0 (nL _) ⟨Nat.zero_le _,List.nodup_nil,fun d hd=>by simp at hd,fun l' e=>by cases e;exact⟨L,hL⟩⟩ _ fun ds1 a1 w1 g1 k1 k2 k3 k4 k5 _=>?_
 have hb1:=k1.blk _ _ hblk;obtain⟨L1,hL1,hs1,_⟩:=k2.hk.loopOf hb1 hk1;obtain⟨l1,l2⟩:=k2.hk.loopTo hb1 hk1 hL1 (L':={ L1 with state:=.busy }) ⟨rfl,rfl,rfl,rfl,rfl,rfl⟩ (s':=1) rfl;refine⟨_,run_beginRound hL1 hs1.1,?_⟩;have q1:Quiet (Frb h.length h) g h g1 (st1.h.set k (.loop 1)):=nF k3 hblk;refine kV (ρ:=some l) (m:=0) (nn:=0) (base:=h.length) hp hcf hm n body y2 xb hb hyb ds1 g1 _ a1 { st1 with h:=st1.h.set k (.loop 1) } st2 e hex2 ⟨⟨k2.tm.1,fun i hi hj=>(k2.tm.2 i hi hj).mono l1,l2.ag.gl⟩,l2,k2.df⟩ (by simpa using k4) (k5.go k2.hk l1) _ fun ds2 a2 w2 g2 m1 m2 m3 m4 m5 _=>?_
 have hb2:=m1.blk _ _ hb1;obtain⟨L2,hL2,_,_⟩:=m2.hk.loopOf hb2 hk2;have hq2:Quiet (Frb h.length h) g h g2 st2.h:=q1.transL l2 (k1.trans l1) m3;have fin:∀(jump:Option Code) (s':Nat),nU s' { L2 with state:=if jump.isNone then .ready else .done,pending:=jump }→e.num=s'→jump.isNone=(e.num==0)→∃v w',(Instr.endRound l jump).run P w2=.ok v w' ∧
   ∃v' g',Ending.returned v=.returned v'∧Le g w g' w'∧HOk g' w' ((st2.h.set k (.loop e.num)).take h.length)∧Rep g' w' v' (.c (.bool (e.num==0)))∧Quiet (Frb h.length h) g h g' ((st2.h.set k (.loop e.num)).take h.length):=by
  intro jump s' hst hes hjn;obtain⟨n1,n2⟩:=m2.hk.loopTo hb2 hk2 hL2 (L':={ L2 with state:=if jump.isNone then .ready else .done,pending:=jump }) ⟨rfl,rfl,rfl,rfl,rfl,rfl⟩ (s':=s') hst;rw[← hes] at n2;obtain⟨o1,o2,o3⟩:=H.backTo (((k1.trans l1).trans m1).trans n1) n2 (nF hq2 hblk) hall;exact⟨_,_,run_endRound jump hL2,_,_,rfl,o1,o2,by rw[hjn];exact .c _,o3⟩
 cases e with
 | normal =>
  obtain⟨v,w',f1,v',g',f0,f2⟩:=fin none 0 ⟨rfl,rfl⟩ rfl rfl;exact⟨v,w',f1,v',g',f0,f2⟩
 | ret =>
  obtain⟨v,w',f1,v',g',f0,f2⟩:=fin (some .ret) 3 ⟨rfl,rfl⟩ rfl rfl;exact⟨v,w',f1,v',g',f0,f2⟩
 | exit id =>
  obtain⟨v,w',f1,v',g',f0,f2⟩:=fin (some (.exit id)) (id+4) ⟨rfl,rfl⟩ rfl (by simp[Ex.num]);exact⟨v,w',f1,v',g',f0,f2⟩
theorem C2 {cf:av}{n:Nat}{xf:XF}(hpu:xf.pure=true∧xf.esc=true){args:List V}{h:List O}{r:V}{h':List O}(hrun:fE cf n xf args h=some (r,h')):∃e,h'=h++e:=by
 unfold fE at hrun;simp only[hpu.1,hpu.2,if_true] at hrun;split at hrun
 ·simp only[mS,pI] at hrun;obtain⟨_,_,_,rfl⟩:=hrun;exact⟨_,rfl⟩
 ·cases hrun
theorem yq {cf:av}{n:Nat}{xf:XF}(hpu:xf.pure=true∧xf.esc=false){args:List V}{h:List O}{r:V}{h':List O}(hrun:fE cf n xf args h=some (r,h')):h'=h∧∀h2,CellsLe h h2→fE cf n xf args h2=some (r,h2):=by
 unfold fE at hrun ⊢;simp only[hpu.1,hpu.2,if_true,Bool.false_eq_true,if_false] at hrun ⊢;split at hrun
 ·rename_i hlow;simp only[mS,pI] at hrun;obtain⟨q,hq,rfl,rfl⟩:=hrun;exact⟨rfl,fun h2 hh=>by simp[hlow,hq]⟩
 ·rename_i hlow;split at hrun
  ·rename_i bs hbs;split at hrun
   ·rename_i hlow2;split at hrun
    ·rename_i r' hh hrun2;split at hrun
     ·rename_i hcond;simp only[sI,pI] at hrun;obtain⟨rfl,rfl⟩:=hrun;refine⟨rfl,fun h2 hh2=>?_⟩;have hcond2:(r'.flat||(r'.nb&&(args.map V.vw2).all (nbA h2)))=true:=by
       simp only[Bool.or_eq_true,bT] at hcond ⊢;exact hcond.imp id fun q=>⟨q.1,List.all_eq_true.2 fun v hv=>Fz hh2 (List.all_eq_true.1 q.2 v hv)⟩
      simp only[if_neg hlow,jl (uJ hh2 n) _ _ hbs,if_pos hlow2,hrun2,if_pos hcond2]
     ·cases hrun
    ·cases hrun
   ·cases hrun
  ·cases hrun
theorem oq {pf:Nat→Nat}{X:Nat→Option XF}{E:Ext}(hE:Ep P pf E) (hX:Laid P pf X) (hY:Cc P) (hpu:Fc pf X E) (hm:P.follows .mixedOrders=true):∀n,br P (call X E n)∧bQ pf (call X E n):=by
 intro n
 induction n with
 | zero=>exact⟨fun f args h r h' e=>by simp[call] at e,fun f args h r h' e=>by simp[call] at e⟩
 | succ n ih =>
  constructor
  ·intro f args h r h' e;simp only[call] at e;split at e
   ·rename_i ex hex;obtain⟨hf,hx⟩:=hE f ex hex;exact⟨fun _=>(hx n _ ih.1 ih.2).1 _ _ _ _ e,fun hy=>absurd hf (Nat.not_lt.2 hy)⟩
   ·split at e
    ·cases e
    ·rename_i xf hxf;rcases hX f xf hxf with⟨hf,ha,fn,hfn,htr⟩|⟨hf,tps,asg,body,xa,h1,h2,h3,h4,h5,h6⟩
     ·rw[ha] at e;exact⟨fun _=>DN ih.2 ih.1 hm hY hfn htr e,fun hy=>absurd hf (Nat.not_lt.2 hy)⟩
     ·rw[h2] at e;refine⟨fun hy=>absurd hy (Nat.not_lt.2 hf),fun _=>?_⟩;simp only at e;split at e
      ·exact fun k vs caps hargs=>by
        simp only[cI,V.c.injEq,Value.int.injEq] at hargs;obtain⟨⟨rfl,rfl⟩,rfl⟩:=hargs;exact yM ih.2 ih.1 hm h1 h3 h5 h4 h6 e k vs caps rfl
      ·cases e
  ·intro f args h r h' e;simp only[call] at e ⊢;cases hex:E f with
   | some ex =>
    rw[hex] at e;exact ((hE f ex hex).2 n _ ih.1 ih.2).2 args h r h' e
   | none =>
    rw[hex] at e;cases hxf:X f with
    | none=>rw[hxf] at e;cases e
    | some xf =>
     rw[hxf] at e;have hpf:=hpu f hex xf hxf;cases ha:xf.asg with
     | none =>
      simp only[ha] at e ⊢;exact⟨fun hf=>yq (hpf.1 hf).1 e,fun hf=>(by obtain⟨e2,rfl⟩:=C2 (hpf.2.1 hf).1 e;exact⟨CellsLe.app _ _,CellsGe.app _ _⟩),fun hf=>absurd hf hpf.2.2⟩
     | some p =>
      exact⟨fun hf=>absurd ((hpf.1 hf).2.symm.trans ha) (by simp),fun hf=>absurd ((hpf.2.1 hf).2.symm.trans ha) (by simp),fun hf=>absurd hf hpf.2.2⟩
end
section
variable {P:Program}
end
section
variable {P:Program}{ρ:Option Nat}{nn:Nat}
theorem BD {pf:Nat→Nat}{cf:av}(hp:bQ pf cf){ops:Array Oper}{xs:List XOper}(hlen:xs.length=ops.size) (hd:cz pf ops.toList xs=true)
  {Q:Exit→Act→World→Prop}{st':St}(d0:XOper) (R:Array Bool→St→Act→World→Prop)
  (hsound:∀(i:Nat) (o:Oper) (x:XOper),ops[i]?=some o→xs[i]?=some x→∀listed:Array Bool,listed.size=ops.size→listed.getD i true=false→kB ops.toList (fun j=>listed.getD j false) →
   (∀j,j<i→((ej ops.toList []).getD i 0).testBit j=true→listed.getD j false=true) →
   ∀st st1 a w,aI cf x st=some st1→R listed st a w→∀K:Act→World→Prop,(∀a' w',R (listed.setIfInBounds i true) st1 a' w'→K a' w') →
   if Region.wanted o (yielded ops a.tmps) then o.wpIn (FR ρ) nn P a w K Q else K (a.put o.dst undef) w)
  (hend:∀listed a w,listed.size=ops.size→(∀i,i<ops.size→listed.getD i false=true)→R listed st' a w→Q .normal a w):∀(fuel:Nat) (rem:List Nat) (listed:Array Bool) (w:World) (a:Act) (st:St),
  rem.length=fuel→listed.size=ops.size→(∀i,i∈rem↔i<ops.size∧listed.getD i true=false)→rem.Pairwise (· < ·)→kB ops.toList (fun i=>listed.getD i false) →
  aC cf (rem.map fun i=>xs.getD i d0) st=some st'→st.rb≤st.h.length→R listed st a w→wpAnyIn (FR ρ) nn P .any ops Q fuel listed a w:=by
 have hmask:jz ops.toList (ej ops.toList []):=eG ops.toList ops.toList [] [] (by simp) rfl (by intro i o j _ h;simp at h);have hdi:∀i o,ops.toList[i]?=some o→eC i o=true∧∀j,j<i→((ej ops.toList []).getD i 0).testBit j=true∨dJ pf xs j i=true:=by
  intro i o ho;have hi:i<ops.toList.length:=(gS.1 ho).1;have:=List.all_eq_true.1 hd i (by simpa using hi);rw[ho] at this;simp only[bT,List.all_eq_true,List.mem_range,Bool.or_eq_true] at this;exact this
 have hget:∀(listed:Array Bool) i,listed.size=ops.size→i<ops.size→listed.getD i true=listed.getD i false:=by
  intro listed i hs hi;simp[Array.getD,hs,hi]
 intro fuel
 induction fuel with
 | zero =>
  intro rem listed w a st hlen hls hmem _ _ hrun _ S;have hnil:rem=[]:=List.eq_nil_of_length_eq_zero hlen;subst hnil;simp only[List.map_nil,aC,sI] at hrun;subst hrun;refine⟨?_,hend _ _ _ hls (fun i hi=>?_) S⟩;rotate_left
  ·cases hc:listed.getD i false with
   | true=>rfl
   | false =>
    have:=(hmem i).2 ⟨hi,by rw[hget listed i hls hi];exact hc⟩;simp at this
  rw[List.eq_nil_iff_forall_not_mem];intro i hi;rw[mem_ready] at hi;obtain⟨h1,o,ho,_⟩:=hi;have:=(hmem i).2 ⟨(Array.getElem?_eq_some_iff.1 ho).1,h1⟩;simp at this
 | succ fuel ih =>
  intro rem listed w a st hlen hls hmem hsort hcl hrun hrl S;refine⟨fun hnil=>?_,fun i hi=>?_⟩
  ·exfalso;cases rem with
   | nil=>simp at hlen
   | cons i r =>
    have hi:=(hmem i).1 (by simp);have:i∈Region.ready .any ops listed:=by
     rw[mem_ready];refine⟨hi.2,ops[i],Array.getElem?_eq_getElem hi.1,fun e he hb=>?_⟩;have hl:=(hdi i ops[i] (by simp[hi.1])).1;simp only[eC,List.all_eq_true,Bool.or_eq_true,Bool.not_eq_true',dT] at hl;have hlt:e.on<i:=(hl e (by simpa using he)).resolve_left (by simp[hb]);cases hc:listed.getD e.on false with
     | true=>rfl
     | false =>
      have:e.on∈i::r:=(hmem e.on).2 ⟨by omega,by rw[hget listed e.on hls (by omega)];exact hc⟩;simp only[List.pairwise_cons] at hsort;rcases List.mem_cons.1 this with h|h
      ·omega
      ·have:=hsort.1 _ h;omega
    rw[hnil] at this;simp at this
  ·have hr:=mem_ready.1 hi;obtain⟨hun,o,ho,hpre⟩:=hr;have hilt:i<ops.size:=(Array.getElem?_eq_some_iff.1 ho).1;have hol:ops.toList[i]?=some o:=by simpa using ho
   have hir:=(hmem i).2 ⟨hilt,hun⟩;obtain⟨r1,r2,rfl⟩:=List.append_of_mem hir;have hs2:=List.pairwise_append.1 hsort;obtain⟨s1,s2,s3⟩:=hs2;simp only[List.pairwise_cons] at s2;obtain⟨x,hx⟩:∃x,xs[i]?=some x:=⟨_,gE (by omega)⟩
   have hxi:xs.getD i d0=x:=by rw[List.getD_eq_getElem?_getD,hx];rfl
   rw[List.map_append,List.map_cons,hxi] at hrun;have hbub:=vE hp (r1.map fun i=>xs.getD i d0) st hrl (fun z hz=>by
    obtain⟨j,hj,rfl⟩:=List.mem_map.1 hz;have hji:j<i:=s3 j hj i (by simp);have hjm:=(hmem j).1 (by simp[hj]);rcases (hdi i o hol).2 j hji with h|h
    ·exfalso;have:=hmask i o j hol h _ hcl hpre;rw[← hget listed j hls hjm.1,hjm.2] at this;cases this
    ·unfold dJ at h;split at h
     ·rename_i x1 x2 e1 e2;rw[hx] at e2;simp only[sI] at e2;subst e2;rw[List.getD_eq_getElem?_getD,e1];exact h
     ·cases h) hrun
   rw[← List.map_append] at hbub;simp only[aC] at hbub;split at hbub
   ·rename_i st1 hst1;have hbits:∀j,j<i→((ej ops.toList []).getD i 0).testBit j=true→listed.getD j false=true:=fun j _ h=>hmask i o j hol h _ hcl hpre
    have:=hsound i o x ho hx listed hls hun hcl hbits st st1 a w hst1 S (wpAnyIn (FR ρ) nn P .any ops Q fuel (listed.setIfInBounds i true)) fun a' w' k2=>by
     refine ih (r1++r2) _ w' a' st1 (by simp at hlen ⊢;omega) (by simpa using hls) (fun j=>?_) ?_ ?_ hbub (by rw[rh hst1];exact Nat.le_trans hrl (db hst1)) k2
     ·by_cases hji:i=j
      ·subst hji;constructor
       ·intro hj;exfalso;rcases List.mem_append.1 hj with h|h
        ·have:=s3 i h i (by simp);omega
        ·have:=s2.1 i h;omega
       ·rintro⟨_,h⟩;simp[Array.getD,hls,hilt] at h
      ·rw[getD_set_ne _ hji,← hmem j];simp only[List.mem_append,List.mem_cons];constructor
       ·rintro (h|h)
        ·exact .inl h
        ·exact .inr (.inr h)
       ·rintro (h|h|h)
        ·exact .inl h
        ·exact absurd h.symm hji
        ·exact .inr h
     ·exact List.pairwise_append.2 ⟨s1,s2.2,fun p hp' q hq=>s3 p hp' q (by simp[hq])⟩
     ·intro j o' ho' hj e he hb;simp only at hj ⊢;by_cases hji:i=j
      ·subst hji;have:o'=o:=by rw[hol] at ho';simpa using ho'.symm
       subst this;exact getD_set_true (hpre e he hb)
      ·rw[getD_set_ne _ hji] at hj;exact getD_set_true (hcl j o' ho' hj e he hb)
    unfold wpOpIn;rw[ho];simp only;split
    ·rename_i hw;rw[if_pos hw] at this;exact this
    ·rename_i hw;rw[if_neg hw] at this;exact⟨fun _ _=>trivial,this⟩
   ·cases hbub
end
def I64 (n:Int):V:=.c (.int .i64 n)
def CA:List V→Option (List Int)
 | []=>some []
 | .c (.int .i64 n)::r=>(CA r).map (n :: ·)
 | _=>none
theorem vD:∀{cs:List V}{ps:List Int},CA cs=some ps→cs=ps.map I64
 | [],ps,h=>by simp only[CA,sI] at h;subst h;rfl
 | v::r,ps,h=>by
  unfold CA at h;split at h
  ·simp only[sI] at h;subst h;simp_all
  ·rename_i n r' hv;simp only[cI] at hv;obtain⟨rfl,rfl⟩:=hv;simp only[mS] at h;obtain⟨ps',h1,rfl⟩:=h;rw[vD h1];rfl
  ·cases h
theorem pP:∀ps:List Int,CA (ps.map I64)=some ps
 | []=>rfl
 | p::ps=>by simp only[List.map_cons,I64,CA];rw[pP ps];rfl
def aE (ps:List Int):O:=.cells (ps.map I64)
def dF (ps:List Int):Option O→Bool
 | some (.cells cs)=>CA cs==some ps
 | _=>false
theorem dZ {ps:List Int}{o:Option O}(h:dF ps o=true):o=some (aE ps):=by
 unfold dF at h;split at h
 ·simp only[beq_iff_eq] at h;rw[aE,vD h]
 ·cases h
theorem dh (ps:List Int):dF ps (some (aE ps))=true:=by simp[dF,aE,pP]
def cA (cf:av) (f:Nat) (caps:List V) (d:V) (ps:List Int) (h:List O):Option (Bool × List O) :=
 match aF (h.length+1) cf f (d::.row h.length 0 ps.length none::caps) (h++[aE ps]) with
 | some (.c (.bool b),h1)=>if dF ps h1[h.length]?=true∧(h1.take h.length).all (O.low h.length)=true then some (b,h1.take h.length) else none
 | _=>none
def fw (rec:V→List Int→List O→Option (Bool × List O)) (ps:List Int):Nat→List V→List O→Option (Bool × List O)
 | _,[],h=>some (true,h)
 | i,u::us,h=>match rec u (ps++[(i:Int)]) h with
  | some (true,h')=>fw rec ps (i+1) us h'
  | some (false,h')=>some (false,h')
  | none=>none
def cV (cf:av) (f:Nat) (caps:List V):Nat→V→List Int→List O→Option (Bool × List O)
 | 0,_,_,_=>none
 | k+1,d,ps,h=>match d with
  | .agg [a1,a2,a3,.sl us si] =>
   if us.all (fun u=>u.cells.length==4&&V.low h.length u)=true∧us.length≤1099511627776∧ps.length≤1099511627776∧V.lows h.length caps=true∧okc a1=true∧okc a2=true∧okc a3=true then
    match cA cf f caps (.agg [a1,a2,a3,.sl us si]) ps h with
    | some (true,h')=>fw (cV cf f caps k) ps 0 us h'
    | some (false,h')=>some (false,h')
    | none=>none
   else none
  | _=>none
theorem ig {m:Nat}{cf:av}{f:Nat}{args:List V}{H:List O}{r:V}{H1:List O}(h:aF m cf f args H=some (r,H1)):m≤H.length∧H1.length=H.length:=by
 unfold aF at h;generalize (if V.lows m args=true then args else args.map V.vw2)=args' at h;unfold b9 at h;split at h
 ·rename_i hc;split at h
  ·split at h
   ·rename_i hl;simp only[sI,pI] at h;rw[← h.2];simp only[lA,List.length_drop,hl];omega
   ·cases h
  ·cases h
 ·cases h
theorem iP {m:Nat}{cf:av}{f:Nat}{args:List V}{H:List O}{r:V}{H1:List O}(h:aF m cf f args H=some (r,H1)):f<rid:=by
 unfold aF at h;generalize (if V.lows m args=true then args else args.map V.vw2)=args' at h;unfold b9 at h;split at h
 ·rename_i hc;exact hc.1
 ·cases h
theorem pl {m:Nat}{cf:av}{f:Nat}{args:List V}{H:List O}{r:V}{H1:List O}(h:aF m cf f args H=some (r,H1)) (e:List O):aF m cf f args (H++e)=some (r,H1++e):=by
 have hm:=(ig h).1;unfold aF at h ⊢;generalize (if V.lows m args=true then args else args.map V.vw2)=args' at h ⊢;unfold b9 at h ⊢;rw[List.take_append_of_le_length hm,List.drop_append_of_le_length hm];split at h
 ·rename_i hc;rw[if_pos ⟨hc.1,by simp;omega,hc.2.2⟩];split at h
  ·rename_i r' h1 hcall;split at h
   ·rename_i hl;simp only[sI,pI] at h;obtain⟨rfl,rfl⟩:=h;simp[hcall,hl]
   ·cases h
  ·cases h
 ·cases h
theorem cF {cf:av}{f:Nat}{caps:List V}{d:V}{ps:List Int}{h:List O}{b:Bool}{h':List O}(e:cA cf f caps d ps h=some (b,h')) :
  aF (h.length+1) cf f (d::.row h.length 0 ps.length none::caps) (h++[aE ps])=some (.c (.bool b),h'++[aE ps])∧h'.length=h.length∧h'.all (O.low h.length)=true:=by
 unfold cA at e;split at e
 ·rename_i b1 h1 hf;split at e
  ·rename_i hc;simp only[sI,pI] at e;obtain⟨rfl,rfl⟩:=e;have hl:=(ig hf).2;simp only[lA,lC,List.length_nil] at hl;have hlast:=dZ hc.1;have:h1=h1.take h.length++[aE ps]:=by
    apply List.ext_getElem?;intro i;rw[List.getElem?_append,List.length_take,List.getElem?_take];have e1:min h.length h1.length=h.length:=by omega
    rw[e1];by_cases c:i<h.length
    ·simp[c]
    ·by_cases c2:i=h.length
     ·subst c2;simp[hlast]
     ·simp only[c,if_false];rw[List.getElem?_eq_none (by omega),List.getElem?_eq_none (by simp;omega)]
   exact⟨by rw[hf,← this],by simp;omega,hc.2⟩
  ·cases e
 ·cases e
theorem dK {cf:av}{f:Nat}{caps:List V}:∀{k:Nat}{d:V}{ps:List Int}{h:List O}{b:Bool}{h':List O},cV cf f caps k d ps h=some (b,h')→h'.length=h.length∧h'.all (O.low h.length)=true
 | 0,_,_,_,_,_,e=>by simp[cV] at e
 | k+1,d,ps,h,b,h',e=>by
  have hL:∀(us:List V) (i:Nat) (h1:List O),h1.length=h.length→h1.all (O.low h.length)=true→fw (cV cf f caps k) ps i us h1=some (b,h')→h'.length=h.length∧h'.all (O.low h.length)=true:=by
   intro us
   induction us with
   | nil=>intro i h1 h2 h3 e;simp only[fw,sI,pI] at e;rw[← e.2];exact⟨h2,h3⟩
   | cons u us ih =>
    intro i h1 h2 h3 e;simp only[fw] at e;split at e
    ·rename_i h4 e1;have:=dK e1;exact ih _ _ (by omega) (by rw[← h2];exact this.2) e
    ·rename_i h4 e1;have:=dK e1;simp only[sI,pI] at e;rw[← e.2,← h2];exact⟨by omega,this.2⟩
    ·cases e
  unfold cV at e;split at e
  ·split at e
   ·split at e
    ·rename_i h1 e1;obtain⟨k1,k2,k3⟩:=cF e1;exact hL _ _ _ k2 k3 e
    ·rename_i h1 e1;obtain⟨k1,k2,k3⟩:=cF e1;simp only[sI,pI] at e;rw[← e.2];exact⟨k2,k3⟩
    ·cases e
   ·cases e
  ·cases e
def PV (m:Nat) (ps:List Int) (pv:V):Prop:=pv=.buf m ps.length∨(pv=.sl [] .nil∧ps=[])
def xV (m:Nat):V→V
 | .buf id n=>.row id 0 n none
 | .sl [] .nil=>.row m 0 0 none
 | v=>v
def FT (m:Nat) (cf:av):av:=fun f args H=>match args with
 | d::p::caps=>aF (m+1) cf f (d::xV m p::caps) H
 | _=>none
theorem ug {g:Gh}{w:World}{x:Value}{m:Nat}{v:V}(h:Rep g w x v):Rep g w x (xV m v):=by
 unfold xV;split
 ·cases h with
  | buf A n cap id hc hA =>
   obtain⟨b,cc,T,h1,h2,h3,h4⟩:=hA;exact .row A _ cap _ 0 none hc fun _=>⟨b,h1,h2⟩
 ·cases h with
  | sl A n cap us i z cv hn hc hzz hA hr hi =>
   have:n=0:=by simpa using hn
   subst this;exact .row A 0 cap m 0 none hc fun h=>absurd rfl h
 ·exact h
theorem uW {P:Program}{m:Nat}{cf:av}(hcf:br P cf):br P (FT m cf):=by
 intro f args h r h' e;unfold FT at e;split at e
 ·rename_i d p caps;have hfr:=iP e;obtain⟨k1,k2⟩:=(kS (m:=m+1) hcf _ _ _ _ _ e).1 hfr;refine⟨fun _=>⟨k1,fun g w cargs H hl hr=>k2 g w cargs H (by simpa using hl) fun i hi hj=>?_⟩,fun hy=>absurd hfr (Nat.not_lt.2 hy)⟩
  match i,hi,hj with
  | 0,hi,hj=>exact hr 0 hi (by simp)
  | 1,hi,hj=>exact ug (hr 1 hi (by simp))
  | i+2,hi,hj=>exact hr (i+2) hi (by simpa using hj)
 ·cases e
def wD (P:Program) (F:Nat) (cf:av) (f:Nat) (caps:List V) (k:Nat):Prop:=∀d ps h b h',cV cf f caps k d ps h=some (b,h')→∀g w xd xp xf fv pv,aT fv=some (f,caps)→HOk g w (h++[aE ps])→Rep g w xd d→PV h.length ps pv→Rep g w xp pv→Rep g w xf fv →
 Calls P F #[xd,xp,xf] w (fun e w'=>∃g',e=.returned (.bool b)∧Le g w g' w'∧HOk g' w' (h'++[aE ps])∧Quiet (Frb h.length (h++[aE ps])) g (h++[aE ps]) g' (h'++[aE ps]))
def gz (F m:Nat) (cf:av) (k:Nat) (ps:List Int) (i:Nat):av:=fun g args H =>
 if g=F then match args with
  | [u,fv]=>match aT fv with
   | some (f,caps) =>
    if m+1≤H.length∧dF ps H[m]?=true∧(H.take m).all (O.low m)=true∧V.low m u=true∧V.lows m caps=true then
     match cV cf f caps k u (ps++[(i:Int)]) (H.take m) with
     | some (b,h1)=>some (.c (.bool b),h1++H.drop m)
     | none=>none
    else none
   | none=>none
  | _=>none
 else if g=F+1 then match args with
  | [.buf m' n,.sl [.c (.int .i64 i')] _]=>if (m'=m∧n=ps.length∧i'=i)∧dF ps H[m]?=true then some (.top,H) else none
  | [.sl [] .nil,.sl [.c (.int .i64 i')] _]=>if ps=[]∧i'=i then some (.top,H) else none
  | _=>none
 else none
def jT (F:Nat):Nat→Nat:=fun g=>if g=F+1 then 1 else 0
theorem y4 {F m:Nat}{cf:av}{k:Nat}{ps:List Int}{i:Nat}:bQ (jT F) (gz F m cf k ps i):=by
 intro g args H r H' e;refine⟨fun hg=>?_,fun hg=>?_,fun hg=>?_⟩
 ·have hg':g=F+1:=by
   unfold jT at hg;split at hg
   ·assumption
   ·cases hg
  subst hg';unfold gz at e ⊢;rw[if_neg (by omega),if_pos rfl] at e;split at e
  ·split at e
   ·rename_i hc;simp only[sI,pI] at e;obtain⟨rfl,rfl⟩:=e;exact⟨rfl,fun h2 hh=>by rw[if_neg (by omega),if_pos rfl,if_pos ⟨hc.1,by rw[hh _ (aE ps) trivial (dZ hc.2)];exact dh ps⟩]⟩
   ·cases e
  ·split at e
   ·rename_i hc;simp only[sI,pI] at e;obtain⟨rfl,rfl⟩:=e;exact⟨rfl,fun h2 _=>by rw[if_neg (by omega),if_pos rfl,if_pos hc]⟩
   ·cases e
  ·cases e
 ·unfold jT at hg;split at hg<;>cases hg
 ·unfold jT at hg;split at hg<;>cases hg
def bq (F:Nat):List XOper:=[⟨(some 22),(.load (some 4) (.t 8)),none⟩,⟨(some 23),(.mv (.t 1)),none⟩,⟨(some 24),(.mv (.t 7)),none⟩,⟨(some 25),(.bslice 0 1 [(.t 24)]),none⟩,⟨(some 26),(.append 1 none 8 false (.t 23) (.t 25)),none⟩,⟨(some 27),(.mv (.t 2)),none⟩,⟨(some 28),(.call (.k (.c (.func (.func F) #[] #[]))) [(.t 22),(.t 26),(.t 27)]),none⟩,⟨(some 29),(.un .not (.t 28)),none⟩]
def bM (F:Nat):List XOper:=[⟨(some 22),(.load (some 4) (.t 8)),none⟩,⟨(some 23),(.mv (.t 1)),none⟩,⟨(some 24),(.mv (.t 7)),none⟩,⟨(some 25),(.bslice 0 1 [(.t 24)]),none⟩,⟨(some 26),(.call (.k (.c (.func (.func (F+1)) #[] #[]))) [(.t 23),(.t 25)]),none⟩,⟨(some 27),(.mv (.t 2)),none⟩,⟨(some 28),(.call (.k (.c (.func (.func F) #[] #[]))) [(.t 22),(.t 27)]),none⟩,⟨(some 29),(.un .not (.t 28)),none⟩]
theorem wK (pf:Nat→Nat) (F:Nat) (hF:pf F=0):∀i j,j<i→i<8→dJ pf (bq F) j i=true→dJ (jT F) (bM F) j i=true:=by
 intro i j hji hi;have h1:jT F (F+1)=1:=by simp[jT]
 have h2:jT F F=0:=by simp[jT]
 match i,j with
 | 0,j=>omega
 | 1,0=>simp[dJ,bq,bM,eS,mk2,cC,XOper.rd,XOp.rd,A.rd,gJ,cls,aT,hF,h1,h2]
 | 2,0 | 2,1=>simp[dJ,bq,bM,eS,mk2,cC,XOper.rd,XOp.rd,A.rd,gJ,cls,aT,hF,h1,h2]
 | 3,0 | 3,1 | 3,2=>simp[dJ,bq,bM,eS,mk2,cC,XOper.rd,XOp.rd,A.rd,gJ,cls,aT,hF,h1,h2]
 | 4,0 | 4,1 | 4,2 | 4,3=>simp[dJ,bq,bM,eS,mk2,cC,XOper.rd,XOp.rd,A.rd,gJ,cls,aT,hF,h1,h2]
 | 5,0 | 5,1 | 5,2 | 5,3 | 5,4=>simp[dJ,bq,bM,eS,mk2,cC,XOper.rd,XOp.rd,A.rd,gJ,cls,aT,hF,h1,h2]
 | 6,0 | 6,1 | 6,2 | 6,3 | 6,4 | 6,5=>simp[dJ,bq,bM,eS,mk2,cC,XOper.rd,XOp.rd,A.rd,gJ,cls,aT,hF,h1,h2]
 | 7,0 | 7,1 | 7,2 | 7,3 | 7,4 | 7,5 | 7,6=>simp[dJ,bq,bM,eS,mk2,cC,XOper.rd,XOp.rd,A.rd,gJ,cls,aT,hF,h1,h2]
 | i+8,j=>omega
theorem Rep.mono_w {g g':Gh}{w w':World}(hblk:∀id b,g.blk id=some b→g'.blk id=some b)
  (htok:∀k b l c,g.tok k=some (b,l,c)→∃b' l' c',g'.tok k=some (b',l',c')∧l≤l'∧(l=l'→b=b'∧c=c'))
  (hfz:∀b o,g.fz b o→g'.fz b o∧w'.cell? ⟨b,o,none⟩=w.cell? ⟨b,o,none⟩)
  (hsz:∀(b:Nat) (c:Array Value) (T:TypeId),w.heap[b]?=some (.cells c T (0,0))→∃c',w'.heap[b]?=some (.cells c' T (0,0))∧c'.size=c.size) (hoth:Oth g w w'){x:Value}{v:V}(h:Rep g w x v):Rep g' w' x v :=
 h.monoV ⟨hblk,htok,hfz,hsz,hoth⟩
theorem HOk.grew {g:Gh}{w w':World}{h:List O}{o:Obj}(H:HOk g w h) (hg:Grew w w' o):Le g w g w'∧HOk g w' h:=by
 have hle:Le g w g w':=Le.quiet (fun _ _ h=>h) (fun _ _ h=>h) (fun _ _ h=>h) H.al (fun _ h _=>h) (fun _ _ h _=>.inl h) (fun b hb=>hg.old hb) (by rw[hg.size];omega) hg.tape hg.os hg.output;refine⟨hle,fun id b e=>?_,fun id b n c e=>?_,H.inj,H.tinj,H.bt,H.ag.go hle fun b o h=>by have:=H.al b o h;rw[hg.size];omega⟩
 ·rcases H.obj _ _ e with⟨cs,c,T,h1,h2,h3,h4,h5⟩|q
  ·exact .inl ⟨cs,c,T,h1,by rw[hg.old (H.blk_lt e).2];exact h2,h3,fun j hj hc=>⟨(h4 j hj hc).1.mono hle,(h4 j hj hc).2⟩,h5⟩
  ·exact .inr (q.go hle rfl (hg.old (H.blk_lt e).2) fun _ h=>h)
 ·obtain⟨z,cc,T,h1,h2,h3⟩:=H.tok _ _ _ _ e;exact⟨z,cc,T,h1.go hle rfl (fun _ h=>h),by rw[hg.old (H.tok_lt e).2];exact h2,h3⟩
def Gh.kid (g:Gh) (m b:Nat):Gh:=⟨fun id=>if id<m then g.blk id else if id=m then some b else none,fun id=>if id<m then g.tok id else none,g.fz⟩
theorem fA {g:Gh}{m b id b2:Nat}(e:(g.kid m b).blk id=some b2):(id<m∧g.blk id=some b2)∨(id=m∧b=b2):=by
 simp only[Gh.kid] at e;split at e
 ·exact .inl ⟨‹_›,e⟩
 ·split at e
  ·simp only[sI] at e;exact .inr ⟨‹_›,e⟩
  ·cases e
theorem fh {g:Gh}{m b id:Nat}{p:Nat × Nat × Nat}(e:(g.kid m b).tok id=some p):id<m∧g.tok id=some p:=by
 simp only[Gh.kid] at e;split at e
 ·exact⟨‹_›,e⟩
 ·cases e
theorem xZ {g:Gh}{m b b2:Nat}(e:(g.kid m b).owns b2):g.owns b2∨b2=b:=by
 rcases e with⟨id,e⟩|⟨k,l,c,e⟩
 ·rcases fA e with⟨_,e⟩|⟨_,e⟩
  ·exact .inl (.inl ⟨id,e⟩)
  ·exact .inr e.symm
 ·exact .inl (.inr ⟨k,l,c,(fh e).2⟩)
def z6 (g:Gh) (w0:World) (m b:Nat):Prop:=g.blk m=some b∨(w0.heap.size≤b∧¬g.owns b∧∀o,¬g.fz b o)
theorem pe {g:Gh}{w:World}{x:Value}{n:Int}(h:Rep g w x (I64 n)):x=.int .i64 n:=h.of_c
theorem jy {g:Gh}{w:World}{m b:Nat}{x:Value}{v:V}(h:Rep g w x v) (hl:V.low m v=true):Rep (g.kid m b) w x v :=
 (h.res hl).of_frz (fun _ _ h=>h) (fun id b2 e=>by obtain⟨a1,a2⟩:=jM e;simp[Gh.kid,a1,a2]) (fun id p e=>by obtain⟨a1,a2⟩:=jN e;simp[Gh.kid,a1,a2])
theorem uX {g:Gh}{w w0:World}{hm e:List O}(H:HOk g w (hm++e)) (hl:hm.all (O.low hm.length)=true){b:Nat}(hw:z6 g w0 hm.length b){c:Array Value}{T:TypeId}(hb:w.heap[b]?=some (.cells c T (0,0))){ps:List Int}
  (hn:ps.length≤c.size) (hc:∀j (hj:j<ps.length),c[j]?=some (.int .i64 ps[j])):HOk (g.kid hm.length b) w (hm++[aE ps]):=by
 have hfar:∀id,id<hm.length→g.blk id=some b→False:=by
  intro id hid e;rcases hw with hw|⟨_,hw,_⟩
  ·have:=H.inj _ _ _ e hw;omega
  ·exact hw (.inl ⟨id,e⟩)
 have hfart:∀id l c,g.tok id=some (b,l,c)→False:=by
  intro id l c e;rcases hw with hw|⟨_,hw,_⟩
  ·exact H.bt _ _ _ _ _ hw e
  ·exact hw (.inr ⟨id,l,c,e⟩)
 refine⟨fun id b2 e=>?_,fun id b2 n cap e=>?_,fun id id' b2 e e'=>?_,fun id id' b2 n c n' c' e e'=>H.tinj _ _ _ _ _ _ _ (fh e).2 (fh e').2,fun id id' b2 n c e e'=>?_,H.ag.eqv rfl⟩
 ·rcases fA e with⟨hid,e⟩|⟨rfl,rfl⟩
  ·rcases H.obj _ _ e with⟨cs,c,T,c1,c2,c3,c4,c5⟩|q
   ·rw[aL hid] at c1;have h7:=List.all_eq_true.1 hl _ (List.mem_of_getElem? c1);exact .inl ⟨cs,c,T,by rw[aL hid];exact c1,c2,c3,fun j hj hc=>⟨jy (c4 j hj hc).1 (aU h7 j hj),(c4 j hj hc).2⟩,c5⟩
   ·refine .inr (q.mapL (m:=hm.length) (by rw[aL hid,aL hid]) rfl (fun r hv=>jy r hv) (fun o ho=>?_) fun _ h=>h);rw[aL hid] at ho;exact List.all_eq_true.1 hl _ (List.mem_of_getElem? ho)
  ·refine .inl ⟨ps.map I64,c,T,by simp[aE],hb,by simpa using hn,fun j hj hk=>?_,fun o ho=>?_⟩
   ·have hj':j<ps.length:=by simpa using hj
    have:=hc j hj';rw[Array.getElem?_eq_getElem hk] at this;rw[Option.some.inj this,List.getElem_map];exact⟨.c _,rfl⟩
   ·rcases hw with hw|⟨_,_,hw⟩
    ·exact H.noFz hw o ho
    ·exact hw o ho
 ·obtain⟨hid,e⟩:=fh e;obtain⟨z,cc,T,c1,c2⟩:=H.tok _ _ _ _ e;refine⟨z,cc,T,c1.mapL (m:=hm.length) (by rw[aL hid,aL hid]) (fun r hl=>jy r hl) (fun o ho=>?_) (fun _ h=>h),c2⟩;rw[aL hid] at ho;exact List.all_eq_true.1 hl _ (List.mem_of_getElem? ho)
 ·rcases fA e with⟨hid,e⟩|⟨rfl,rfl⟩<;>rcases fA e' with⟨hid',e'⟩|⟨hid',e'⟩
  ·exact H.inj _ _ _ e e'
  ·subst e';exact (hfar _ hid e).elim
  ·exact (hfar _ hid' e').elim
  ·exact hid'.symm
 ·obtain⟨hid',e'⟩:=fh e';rcases fA e with⟨hid,e⟩|⟨_,rfl⟩
  ·exact H.bt _ _ _ _ _ e e'
  ·exact hfart _ _ _ e'
theorem vK {g g0 g1:Gh}{w w0 w1:World}{hm h1 e:List O}{ps:List Int}{i:Int}(H:HOk g w (hm++e)) (he:e[0]?=some (aE ps)) (hle0:Le g0 w0 g w){b:Nat}(hw:z6 g w0 hm.length b)
  (hle:Le (g.kid hm.length b) w g1 w1) (hs:HOk g1 w1 (h1++[aE (ps++[i])])) (hl:h1.length=hm.length) (hlow:h1.all (O.low hm.length)=true) (hq:Quiet (Frb hm.length (hm++[aE (ps++[i])])) (g.kid hm.length b) (hm++[aE (ps++[i])]) g1 (h1++[aE (ps++[i])])) :
  Le g0 w0 (g1.glue g hm.length) w1∧HOk (g1.glue g hm.length) w1 (h1++e)∧Quiet (Frb hm.length (hm++e)) g (hm++e) (g1.glue g hm.length) (h1++e)∧∀{x:Value}{v:V},Rep g w x v→Rep (g1.glue g hm.length) w1 x v:=by
 have hkown:∀b2,(g.kid hm.length b).owns b2→b2<w0.heap.size→g.owns b2:=by
  intro b2 ho hlt;rcases xZ ho with h|rfl
  ·exact h
  ·rcases hw with hw|⟨hw,_⟩
   ·exact .inl ⟨_,hw⟩
   ·omega
 have hblk:∀id b,g.blk id=some b→(g1.glue g hm.length).blk id=some b:=fun id b2 e=>by
  by_cases hid:id<hm.length
  ·simp only[Gh.glue,hid,if_true];exact hle.blk id b2 (by simp[Gh.kid,hid,e])
  ·simp only[Gh.glue,hid,if_false];exact e
 have htok:∀k b l c,g.tok k=some (b,l,c)→∃b' l' c',(g1.glue g hm.length).tok k=some (b',l',c')∧l≤l'∧(l=l'→b=b'∧c=c'):=fun k b2 l c e=>by
  by_cases hid:k<hm.length
  ·simp only[Gh.glue,hid,if_true];exact hle.tok k b2 l c (by simp[Gh.kid,hid,e])
  ·simp only[Gh.glue,hid,if_false];exact⟨b2,l,c,e,nL _,fun _=>⟨rfl,rfl⟩⟩
 have hrepg:∀{x:Value}{v:V},Rep g w x v→Rep (g1.glue g hm.length) w1 x v:=fun r=>r.mono_w hblk htok hle.fz hle.sz hle.oth
 have hrep1:∀{x:Value}{v:V},Rep g1 w1 x v→V.low hm.length v=true→Rep (g1.glue g hm.length) w1 x v:=fun r hlow =>
  (r.res hlow).of_frz (fun _ _ h=>h) (fun id b2 e=>by obtain⟨a1,a2⟩:=jM e;simp[Gh.glue,a1,a2]) (fun id p e=>by obtain⟨a1,a2⟩:=jN e;simp[Gh.glue,a1,a2])
 have hks:∀b2,g1.owns b2→b2<w.heap.size→(g.kid hm.length b).owns b2:=fun b2 e hlt=>hle.own b2 e hlt
 have hfar:∀id b2,hm.length≤id→g.blk id=some b2→b2≠b→¬(g.kid hm.length b).owns b2:=by
  rintro id b2 hid e hne (⟨id',e'⟩|⟨k,l,c,e'⟩)
  ·rcases fA e' with⟨a1,a2⟩|⟨_,a2⟩
   ·have:=H.inj _ _ _ e a2;omega
   ·exact hne a2.symm
  ·exact (H.bt _ _ _ _ _ e (fh e').2).elim
 have hfart:∀id b2 l c,hm.length≤id→g.tok id=some (b2,l,c)→¬(g.kid hm.length b).owns b2:=by
  rintro id b2 l c hid e ho;rcases ho with⟨id',e'⟩|⟨k,l',c',e'⟩
  ·rcases fA e' with⟨a1,a2⟩|⟨_,rfl⟩
   ·exact (H.bt _ _ _ _ _ a2 e).elim
   ·rcases hw with hw|⟨_,hw,_⟩
    ·exact H.bt _ _ _ _ _ hw e
    ·exact hw (.inr ⟨_,_,_,e⟩)
  ·obtain⟨a1,a2⟩:=fh e';have:=H.tinj _ _ _ _ _ _ _ e a2;omega
 have hbne:∀id b2,hm.length<id→g.blk id=some b2→b2≠b:=by
  rintro id b2 hid e rfl;rcases hw with hw|⟨_,hw,_⟩
  ·have:=H.inj _ _ _ e hw;omega
  ·exact hw (.inl ⟨_,e⟩)
 have hnf:∀b2 o,g1.fz b2 o→b2<w.heap.size→¬(g.kid hm.length b).owns b2→g.fz b2 o:=fun b2 o e hlt hn=>(hle.fzn b2 o e hlt).resolve_right hn
 have hle':Le g0 w0 (g1.glue g hm.length) w1:={
  blk:=fun id b2 e=>hblk _ _ (hle0.blk _ _ e)
  tok:=fun k b2 l c e=>by
   obtain⟨b3,l3,c3,k1,k2,k3⟩:=hle0.tok _ _ _ _ e;obtain⟨b4,l4,c4,m1,m2,m3⟩:=htok _ _ _ _ k1;refine⟨b4,l4,c4,m1,by omega,fun e2=>?_⟩;have e3:l=l3:=by omega
   have e4:l3=l4:=by omega
   exact⟨(k3 e3).1.trans (m3 e4).1,(k3 e3).2.trans (m3 e4).2⟩
  fz:=fun b2 o e=>⟨(hle.fz b2 o (hle0.fz b2 o e).1).1,(hle.fz b2 o (hle0.fz b2 o e).1).2.trans (hle0.fz b2 o e).2⟩
  own:=fun b2 ho hlt=>by
   have hlt2:=Nat.lt_of_lt_of_le hlt hle0.size;refine hle0.own b2 ?_ hlt;rcases ho with⟨id,e⟩|⟨k,l,c,e⟩
   ·rcases cK e with⟨_,e⟩|⟨_,e⟩
    ·exact hkown b2 (hks b2 (.inl ⟨id,e⟩) hlt2) hlt
    ·exact .inl ⟨id,e⟩
   ·rcases cQ e with⟨_,e⟩|⟨_,e⟩
    ·exact hkown b2 (hks b2 (.inr ⟨k,l,c,e⟩) hlt2) hlt
    ·exact .inr ⟨k,l,c,e⟩
  fzn:=fun b2 o e hlt=>by
   have hlt2:=Nat.lt_of_lt_of_le hlt hle0.size;rcases hle.fzn b2 o e hlt2 with h|h
   ·exact hle0.fzn b2 o h hlt
   ·exact .inr (hle0.own b2 (hkown b2 h hlt) hlt)
  kept:=fun b2 hlt hn=>by
   have hlt2:=Nat.lt_of_lt_of_le hlt hle0.size;exact (hle.kept b2 hlt2 fun ho=>hn (hle0.own b2 (hkown b2 ho hlt) hlt)).trans (hle0.kept b2 hlt hn)
  size:=Nat.le_trans hle0.size hle.size
  tape:=hle.tape.trans hle0.tape
  os:=hle.os.trans hle0.os
  output:=hle.output.trans hle0.output
  sz:=fun b2 c T e=>by
   obtain⟨c1,k1,k2⟩:=hle0.sz _ _ _ e;obtain⟨c2,m1,m2⟩:=hle.sz _ _ _ k1;exact⟨c2,m1,m2.trans k2⟩
  oth:=fun b2 o e hc=>by
   obtain⟨o1,a1,a2,a3,a4⟩:=hle0.oth b2 o e hc;obtain⟨o2,b1,b2',b3,b4⟩:=hle.oth b2 o1 a1 a2;exact⟨o2,b1,b2',a3.trans b3,fun es ck q f=>by have h9:=a4 es ck q f;exact (b4 es ck (h9.trans q) (hle0.fz _ 0 f).1).trans h9⟩ }
 refine⟨hle',⟨fun id b2 e'=>?_,fun id b2 n c e'=>?_,fun id id' b2 e1 e2=>?_,fun id id' b2 n c n' c' e1 e2=>?_,fun id id' b2 n c e1 e2=>?_,hs.ag.eqv rfl⟩,fun id hid=>?_,hrepg⟩
 ·rcases cK e' with⟨hid,e'⟩|⟨hid,e'⟩
  ·rcases hs.obj id b2 e' with⟨cs,c,T,c1,c2,c3,c4,c5⟩|q
   ·rw[aL (by omega)] at c1;have h7:=List.all_eq_true.1 hlow _ (List.mem_of_getElem? c1);exact .inl ⟨cs,c,T,by rw[aL (by omega)];exact c1,c2,c3,fun j hj hc=>⟨hrep1 (c4 j hj hc).1 (aU h7 j hj),(c4 j hj hc).2⟩,c5⟩
   ·refine .inr (q.mapL (m:=hm.length) (by rw[aL (by omega),aL (by omega)]) rfl hrep1 (fun o ho=>?_) fun _ h=>h);rw[aL (by omega)] at ho;exact List.all_eq_true.1 hlow _ (List.mem_of_getElem? ho)
  ·rcases H.obj id b2 e' with⟨cs,c,T,c1,c2,c3,c4,c5⟩|q
   rotate_left
   ·have hlt:=q.lt.2;have hbb:b2≠b:=by
     rintro rfl;rcases hw with hw|⟨_,hw,_⟩
     ·have:=H.inj _ _ _ e' hw;subst this;exact q.not_cells (cs:=ps.map I64) (by rw[aR (nL _),Nat.sub_self];exact he)
     ·exact hw (.inl ⟨_,e'⟩)
    exact .inr (q.map (by rw[aR (by omega),aR hid,hl]) (hle.kept b2 hlt (hfar _ _ hid e' hbb)) hrepg fun o ho=>hnf b2 o ho hlt (hfar _ _ hid e' hbb))
   have hlt:=(Array.getElem?_eq_some_iff.1 c2).1;rw[aR hid] at c1;have hget:(h1++e)[id]?=some (.cells cs):=by rw[aR (by omega),hl];exact c1
   by_cases hbb:b2=b
   ·-- the path,longer by one
    subst hbb;have hidm:id=hm.length:=by
     rcases Nat.lt_or_ge hm.length id with h|h
     ·exact absurd rfl (hbne _ _ h e')
     ·omega
    subst hidm;have hblkm:g1.blk hm.length=some b2:=hle.blk _ _ (by simp[Gh.kid]);obtain⟨cs1,c1',T1,d1,d2,d3,d4,d5⟩:=hs.cellsOf hblkm (cs:=(ps++[i]).map I64) (by rw[aR (by omega),hl];simp[aE]);rw[aR (by omega),hl] at d1;simp only[Nat.sub_self,List.getElem?_cons_zero,sI,aE,O.cells.injEq] at d1;subst d1;rw[Nat.sub_self,he] at c1;simp only[sI,aE,O.cells.injEq] at c1;subst c1;simp only[List.length_map,lA,lC,List.length_nil] at d3;refine .inl ⟨_,c1',T1,hget,d2,by simp;omega,fun j hj hc=>?_,d5⟩;have hj':j<ps.length:=by simpa using hj
    have:=(d4 j (by simp;omega) hc).1;rw[List.getElem_map,List.getElem_append_left hj'] at this;rw[pe this,List.getElem_map];exact⟨.c _,rfl⟩
   ·exact .inl ⟨cs,c,T,hget,(hle.kept b2 hlt (hfar _ _ hid e' hbb)).trans c2,c3,fun j hj hc=>⟨hrepg (c4 j hj hc).1,(c4 j hj hc).2⟩,fun o ho=>c5 o (hnf b2 o ho hlt (hfar _ _ hid e' hbb))⟩
 ·rcases cQ e' with⟨hid,e'⟩|⟨hid,e'⟩
  ·obtain⟨z,cc,T,c1,c2,c3⟩:=hs.tok id b2 n c e';refine⟨z,cc,T,c1.mapL (m:=hm.length) (by rw[aL (by omega),aL (by omega)]) hrep1 (fun o ho=>?_) (fun _ h=>h),c2,c3⟩;rw[aL (by omega)] at ho;exact List.all_eq_true.1 hlow _ (List.mem_of_getElem? ho)
  ·obtain⟨z,cc,T,c1,c2,c3,c4,c5⟩:=H.tok id b2 n c e';have hlt:=(Array.getElem?_eq_some_iff.1 c2).1;exact⟨z,cc,T,c1.map (by rw[aR (by omega),aR hid,hl]) hrepg (fun o ho=>hnf b2 o ho hlt (hfart _ _ _ _ hid e')),(hle.kept b2 hlt (hfart _ _ _ _ hid e')).trans c2,c3,c4,fun o ho=>c5 o (hnf b2 o ho hlt (hfart _ _ _ _ hid e'))⟩
 ·rcases cK e1 with⟨hid,e1⟩|⟨hid,e1⟩<;>rcases cK e2 with⟨hid',e2⟩|⟨hid',e2⟩
  ·exact hs.inj _ _ _ e1 e2
  ·by_cases hbb:b2=b
   ·subst hbb;have:=hs.inj _ _ _ e1 (hle.blk hm.length b2 (by simp[Gh.kid]));omega
   ·exact absurd (hks b2 (.inl ⟨_,e1⟩) (H.blk_lt e2).2) (hfar _ _ hid' e2 hbb)
  ·by_cases hbb:b2=b
   ·subst hbb;have:=hs.inj _ _ _ e2 (hle.blk hm.length b2 (by simp[Gh.kid]));omega
   ·exact absurd (hks b2 (.inl ⟨_,e2⟩) (H.blk_lt e1).2) (hfar _ _ hid e1 hbb)
  ·exact H.inj _ _ _ e1 e2
 ·rcases cQ e1 with⟨hid,e1⟩|⟨hid,e1⟩<;>rcases cQ e2 with⟨hid',e2⟩|⟨hid',e2⟩
  ·exact hs.tinj _ _ _ _ _ _ _ e1 e2
  ·exact absurd (hks b2 (.inr ⟨_,_,_,e1⟩) (H.tok_lt e2).2) (hfart _ _ _ _ hid' e2)
  ·exact absurd (hks b2 (.inr ⟨_,_,_,e2⟩) (H.tok_lt e1).2) (hfart _ _ _ _ hid e1)
  ·exact H.tinj _ _ _ _ _ _ _ e1 e2
 ·rcases cK e1 with⟨hid,e1⟩|⟨hid,e1⟩<;>rcases cQ e2 with⟨hid',e2⟩|⟨hid',e2⟩
  ·exact hs.bt _ _ _ _ _ e1 e2
  ·exact absurd (hks b2 (.inl ⟨_,e1⟩) (H.tok_lt e2).2) (hfart _ _ _ _ hid' e2)
  ·by_cases hbb:b2=b
   ·subst hbb;exact hs.bt _ _ _ _ _ (hle.blk hm.length b2 (by simp[Gh.kid])) e2
   ·exact absurd (hks b2 (.inr ⟨_,_,_,e2⟩) (H.blk_lt e1).2) (hfar _ _ hid e1 hbb)
  ·exact H.bt _ _ _ _ _ e1 e2
 ·have hlt:id<hm.length:=Nat.lt_of_not_le fun h=>hid (.inl h)
  obtain⟨q1,q2,q3⟩:=hq id (fun h=>h.elim (fun h=>by omega) fun h=>hid (.inr (by rw[aL hlt] at h ⊢;exact h)));refine⟨fun e=>by simp only[Gh.glue,hlt,if_true];exact q1 (by simp[Gh.kid,hlt,e]),fun e=>by simp only[Gh.glue,hlt,if_true];exact q2 (by simp[Gh.kid,hlt,e]),fun e e'=>?_⟩;rw[aL (by omega),aL hlt];have:=q3 (by simp[Gh.kid,hlt,e]) (by simp[Gh.kid,hlt,e']);rw[aL (by omega),aL hlt] at this;exact this
def GJ (g:Gh) (w0 w:World) (m:Nat) (ps:List Int) (x:Value):Prop :=
 ∃b cap c T,x=.slice (some ⟨b,0,none⟩) ps.length cap∧ps.length≤cap∧w.heap[b]?=some (.cells c T (0,0))∧cap≤c.size∧(∀j (hj:j<ps.length),c[j]?=some (.int .i64 ps[j]))∧z6 g w0 m b
section
variable {P:Program}
theorem sA {rw rw':Bool}{al al':Nat}{op:Op}{z:Option Nat}{by':Nat}{x y:A}{pre:List O}(h:bG P rw al op=some (.append al' z by' rw' x y,pre)) :
    ∃t u e e2 X Y i zz,op=.call ⟨.builtin .append,#[X,Y],#[t,u]⟩∧P.underlying t=some (.slice e)∧P.underlying u=some (.slice e2)∧trA X=some x∧trA Y=some y∧P.info? e=some i∧gD P e=some zz∧zc z=i.size∧by'=i.bytes:=by
  have key:∀c,op=.call c→∃t u e e2 X Y i zz,op=.call ⟨.builtin .append,#[X,Y],#[t,u]⟩∧P.underlying t=some (.slice e)∧P.underlying u=some (.slice e2)∧trA X=some x∧trA Y=some y∧P.info? e=some i∧gD P e=some zz∧zc z=i.size∧by'=i.bytes:=by
    rintro⟨cal,args,tys⟩ rfl;simp only[bG] at h;cases cal with
    | invoke r m=>simp[bj] at h
    | value F =>
      simp only[bj] at h;split at h
      · simp at h
      · cases h
    | builtin b =>
      cases b
      case append =>
        simp only[bj] at h;split at h
        · rename_i X Y t u h1 h2
          have hX:args=#[X,Y]:=Array.ext' h1;have hT:tys=#[t,u]:=Array.ext' h2;subst hX hT;simp only[lh] at h;split at h
          · rename_i e e2 x' y' hu1 hu2 hx' hy'
            split at h
            · rename_i i zz zn hi hzz hzn
              split at h
              · rename_i hzi
                simp only[sI,pI,XOp.append.injEq] at h;obtain⟨⟨rfl,rfl,rfl,rfl,rfl,rfl⟩,_⟩:=h;exact⟨t,u,e,e2,X,Y,i,zz,rfl,hu1,hu2,hx',hy',hi,hzz,hzi,rfl⟩
              · cases h
            · cases h
          · cases h
        · cases h
      all_goals (first
        | (simp only[bj] at h;cases h;done)
        | (simp only[bj,mS,pI,reduceCtorEq,false_and,and_false,exists_false] at h;done)
        | (exfalso;simp only[bj,oh] at h
           repeat' split at h
           all_goals simp[mS] at h))
  cases op
  case call c=>exact key c rfl
  case makeMap t r=>exfalso;cases r<;>simp[bG] at h
  case makeFunc fn first caps =>
    exfalso;cases fn<;>simp only[bG] at h
    all_goals (repeat' split at h)
    all_goals simp[mS] at h
  all_goals (exfalso;try simp only[bG,jQ,iM] at h)
  all_goals (first
    | (cases h;done)
    | (simp only[mS,pI,reduceCtorEq,false_and,and_false,exists_false] at h;done)
    | (repeat' split at h
       all_goals simp[mS] at h))
theorem rV {rw rw':Bool}{al al':Nat}{o:Oper}{by':Nat}{x y:A}{pre:List O}(htr:bG P rw al o.op=some (.append al' none by' rw' x y,pre)){g:Gh}{w w0:World}{a:Act}{tm:List V}{h:List O}(ht:Tm g w a tm) (H:HOk g w h)
  (hsz:w0.heap.size≤w.heap.size){m:Nat}{ps:List Int}{i:Int}{si:SI}(hx:PV m ps (ev tm x)) (hy:ev tm y=.sl [I64 i] si) (hm:ev tm x=.buf m ps.length→h[m]?=some (aE ps)) (hby:(ps.length+1)*by'≤140737488355328) (h63:ps.length+1≤9223372036854775807) :
  ∃val w',(execOp a.eval o).run P w=.ok (.value val) w'∧Le g w g w'∧HOk g w' h∧GJ g w0 w' m (ps++[i]) val:=by
 obtain⟨t,u,e,e2,X,Y,inf,zz,hop,hu1,hu2,hX,hY,hi,hzz,hz,rfl⟩:=sA htr;simp only[zc] at hz;obtain⟨zv,i',hi',hz0,hzs,_,_⟩:=gQ (P:=P) (g:=g) (w:=w) hzz;have hii:i'=inf:=by rw[hi] at hi';exact (Option.some.inj hi').symm
 subst hii;have hxr:=aN ht hX;have hyr:=aN ht hY;rw[hy] at hyr;obtain⟨A2,cap2,z2,cw,hye,_,hz2,hA2,hrw,_⟩:=hyr.of_sl;have hz2':z2=1:=by have:=hz2 (I64 i) (by simp);simpa[I64,V.cells] using this.symm
 subst hz2';obtain⟨sw,ow⟩:=vg hz2 hA2;have hcw:cw 0=.int .i64 i:=pe (hrw 0 (by simp[aG,I64,V.cells]));have hnews:(List.range ([I64 i].length*1)).map cw=[.int .i64 i]:=by simp[hcw]
 rw[hnews] at sw ow;simp only[lC,List.length_nil] at hye;have hrun:∀{A:Option Addr}{n cap:Nat}{r w'},a.eval X=.slice A n cap→(Builtin.append_ #[t,u] o.type #[.slice A n cap,.slice A2 1 cap2]).run P w=.ok r w'→(execOp a.eval o).run P w=.ok (.value r) w':=by
  intro A n cap r w' he hr;simp only[execOp,hop,resolve,invoke,builtin,Sem.run_bind,Sem.run_pure,Result.andThen_ok,List.map_toArray,List.map_cons,List.map_nil,he,hye];rw[hr];rfl
 have hln:([.int .i64 i]:List Value).length=1*i'.size:=by rw[← hz];rfl
 have grows:∀{A:Option Addr}{cap:Nat},a.eval X=.slice A ps.length cap→cap<ps.length+1→∀olds:List Value,olds=ps.map (fun p=>Value.int .i64 p)→Src w A olds →
   ∃val w',(execOp a.eval o).run P w=.ok (.value val) w'∧Le g w g w'∧HOk g w' h∧GJ g w0 w' m (ps++[i]) val:=by
  intro A cap he hgc olds holds so;have hlo:olds.length=ps.length*i'.size:=by rw[holds,← hz];simp
  have hr:=gb (P:=P) (w:=w) (ty:=o.type) (c2:=cap2) hu1 hu2 hi hz0 hlo so hln sw hgc hby h63;have hgcap:=grownCap_ge w (ps.length+1) cap e;obtain⟨k1,k2⟩:=H.grew (Grew.drewAlloc w (.cells (olds++[Value.int .i64 i]++(Builtin.zeroCells zv.cells (grownCap w (ps.length+1) cap e-(ps.length+1))).toList).toArray e));refine⟨_,_,hrun he hr,k1,k2,w.heap.size,grownCap w (ps.length+1) cap e,_,_,by simp,by simpa using hgcap,(Grew.new (Grew.drewAlloc w _)),?_,fun j hj=>?_,.inr ⟨hsz,fun ho=>?_,fun o' ho=>?_⟩⟩
  ·simp only[List.size_toArray,lA,hlo,lC,List.length_nil,Array.length_toList,size_zeroCells,hzs,← hz];omega
  ·have hj':j<ps.length+1:=by simpa using hj
   rw[List.getElem?_toArray,aL (by rw[holds];simpa using hj'),holds,List.getElem?_append];simp only[List.length_map];by_cases c:j<ps.length
   ·simp[c,List.getElem_append_left c]
   ·have:j=ps.length:=by omega
    subst this;simp
  ·have:=H.owns_lt ho;omega
  ·have:=H.al _ _ ho;omega
 rcases hx with hx|⟨hx,hps⟩
 ·rw[hx] at hxr;have hm:=hm hx;generalize hE:a.eval X=ex at hxr;cases hxr with
  | buf A _ cap _ hc hA =>
   obtain⟨b,cc,T,rfl,hb,hheap,hcap⟩:=hA;obtain⟨cs0,c0,T0,h1,h2,h3,h4,h5⟩:=H.cellsOf hb hm;have hcs0:cs0=ps.map I64:=by rw[hm] at h1;simp only[sI,aE,O.cells.injEq] at h1;exact h1.symm
   have hc0:c0=cc∧T0=T:=by rw[hheap] at h2;simp at h2;exact⟨h2.1.symm,h2.2.symm⟩
   obtain⟨rfl,rfl⟩:=hc0;subst hcs0;have hcell:∀j (hj:j<ps.length),c0[j]?=some (Value.int .i64 ps[j]):=by
    intro j hj;have hj2:j<c0.size:=by simp at h3;omega
    have:=(h4 j (by simpa using hj) hj2).1;rw[List.getElem_map] at this;rw[Array.getElem?_eq_getElem hj2,pe this]
   by_cases hroom:ps.length+1≤cap
   ·have hfit:ps.length*i'.size+([.int .i64 i]:List Value).length≤c0.size:=by rw[← hz];simp;omega
    have hr:=po (P:=P) (w:=w) (ty:=o.type) (c2:=cap2) hu1 hu2 hi hheap hln sw ow hroom hfit;rw[← hz,Nat.mul_one] at hr;have hsz2:(c0.toList.take ps.length++[Value.int .i64 i]++c0.toList.drop (ps.length+([.int .i64 i]:List Value).length)).length=c0.size:=by
     simp only[lA,List.length_take,List.length_drop,Array.length_toList,lC,List.length_nil];omega
    have hnew:∀j (hj:j<(ps++[i]).length),(c0.toList.take ps.length++[Value.int .i64 i]++c0.toList.drop (ps.length+([.int .i64 i]:List Value).length)).toArray[j]?=some (Value.int .i64 (ps++[i])[j]):=by
     intro j hj;have hj':j<ps.length+1:=by simpa using hj
     have hlen:(c0.toList.take ps.length).length=ps.length:=by simp;omega
     rw[List.getElem?_toArray,List.append_assoc,List.getElem?_append,hlen];by_cases c:j<ps.length
     ·simp only[c,if_true,List.getElem?_take,List.getElem_append_left c];have:=hcell j c;simpa using this
     ·have:j=ps.length:=by omega
      subst this;simp
    obtain⟨k1,k2⟩:=H.storeCells hb hm hheap (c':=(c0.toList.take ps.length++[Value.int .i64 i]++c0.toList.drop (ps.length+([.int .i64 i]:List Value).length)).toArray) (cs':=ps.map I64) (by simpa using hsz2) rfl (fun j hj hk=>by
     have hj':j<ps.length:=by simpa using hj
     have:=hnew j (by simp;omega);rw[Array.getElem?_eq_getElem hk] at this;rw[Option.some.inj this,List.getElem_map,List.getElem_append_left hj'];exact⟨.c _,rfl⟩)
    rw[show O.cells (ps.map I64)=aE ps from rfl,k8 hm] at k2;refine⟨_,_,hrun hE hr,k1,k2,b,cap,_,T0,by simp,by simpa using hroom,setRow_heap w _ _ _ _ _ hheap,by simp only[List.size_toArray,hsz2];exact hcap,hnew,.inl hb⟩
   ·refine grows hE (by omega) _ rfl (.inr ⟨_,rfl,fun j v hj=>?_⟩);rw[List.getElem?_map] at hj;obtain⟨p,hp,rfl⟩:=mS.1 hj;obtain⟨hj',rfl⟩:=gS.1 hp;rw[Addr.add_lit,Nat.zero_add,bW hheap];exact hcell j hj'
 ·subst hps;rw[hx] at hxr;generalize hE:a.eval X=ex at hxr;cases hxr with
  | sl A n cap _ _ z cv hn hc hzz hA hr hsi =>
   obtain⟨rfl,rfl⟩:=hsi;have:n=0:=by simpa using hn
   subst this;exact grows (cap:=0) hE (by simp) [] rfl (.inl rfl)
end
section
variable {P:Program}{ds:List Deferred}
theorem vT {rw:Bool}{al:Nat}{o:Oper}{n:Option Nat}{x:A}{pre:List O}(htr:bG P rw al o.op=some (.load n x,pre)){g:Gh}{w:World}{a:Act}{st:St}(ht:Tm g w a st.tm) (H:HOk g w st.h){cf:av}{v:V}{h':List O}
    (hact:act cf st (.load n x)=some (v,h')):h'=st.h∧PureOk P g w a o v:=by
  obtain⟨t,X,ho,hn,hx⟩:∃t X,o.op=.load t X∧nT P t=some n∧trA X=some x:=by
    cases hop:o.op<;>rw[hop] at htr<;>(try simp only[bG,jQ,iM] at htr)
    case load t X =>
      split at htr
      · rename_i n' x' hn hx
        simp only[sI,pI,XOp.load.injEq] at htr;obtain⟨⟨rfl,rfl⟩,_⟩:=htr;exact⟨t,X,rfl,hn,hx⟩
      · cases htr
    case call c =>
      exfalso;obtain⟨cal,args,tys⟩:=c;cases cal with
      | invoke r m=>simp[bj] at htr
      | value F=>simp only[bj] at htr;split at htr <;> simp at htr
      | builtin b =>
        cases b<;>simp only[bj,oh,lh] at htr
        all_goals (first
          | (cases htr;done)
          | (simp only[mS,pI,reduceCtorEq,false_and,and_false,exists_false] at htr;done)
          | (repeat' split at htr
             all_goals simp[mS] at htr))
    case makeMap t r=>exfalso;cases r<;>simp[bG] at htr
    case makeFunc fn first caps =>
      exfalso;cases fn<;>simp only[bG] at htr
      all_goals (repeat' split at htr)
      all_goals simp[mS] at htr
    all_goals (exfalso;first
      | (cases htr;done)
      | (simp only[mS,pI,reduceCtorEq,false_and,and_false,exists_false] at htr;done)
      | (repeat' split at htr
         all_goals simp[mS] at htr))
  simp only[act] at hact;have hr:=aN ht hx;cases he:ev st.tm x with
  | ref id off =>
    rw[he] at hr hact;simp only at hact;split at hact
    · rename_i cs hcs
      simp only[mS,pI] at hact;obtain⟨v',hv,rfl,rfl⟩:=hact;obtain⟨b,hX,hb⟩:=hr.of_ref;obtain⟨cs0,c,T,h1,h2,h3,h4,h5⟩:=H.cellsOf hb hcs;have hcs0:cs0=cs:=by rw[hcs] at h1;simp at h1;exact h1.symm
      subst hcs0;obtain⟨y,h6,h7⟩:=dL (P:=P) (b:=b) (o0:=0) hn (f:=fun j=>c.getD j undef) (fun j hj=>by
        have hj2:j<c.size:=by omega
        have e1:c.getD j undef=c[j]:=by simp[Array.getD,hj2]
        rw[Nat.zero_add,bW h2];simp only[e1];exact⟨by simp[hj2],(h4 j hj hj2).2⟩) (fun j hj=>by
        have hj2:j<c.size:=by omega
        have e1:c.getD j undef=c[j]:=by simp[Array.getD,hj2]
        simp only[e1];exact (h4 j hj hj2).1) hv
      rw[Nat.zero_add] at h6;exact⟨rfl,y,by simp[execOp,ho,Instr.loadAt,Instr.sureAddr,hX,h6],h7⟩
    · cases hact
  | ptr cs off =>
    rw[he] at hr hact;simp only[mS,pI] at hact;obtain⟨v',hv,rfl,rfl⟩:=hact;obtain⟨b,o0,cv,hX,h1,h2⟩:=hr.of_ptr;obtain⟨y,h6,h7⟩:=dL (P:=P) (b:=b) (o0:=o0) hn (f:=cv) (fun j hj=>⟨(h1 j hj).2.1,(h1 j hj).2.2⟩) h2 hv;exact⟨rfl,y,by simp[execOp,ho,Instr.loadAt,Instr.sureAddr,hX,h6],h7⟩
  | _=>rw[he] at hact;simp at hact
theorem yL {rw:Bool}{al:Nat}{op:Op}{fa:A}{xas:List A}{pre:List O}(h:bG P rw al op=some (.call fa xas,pre)):∃F args tys,op=.call ⟨.value F,args,tys⟩∧trA F=some fa∧kD args.toList=some xas:=by
  have key:∀c,op=.call c→∃F args tys,op=.call ⟨.value F,args,tys⟩∧trA F=some fa∧kD args.toList=some xas:=by
    rintro⟨cal,args,tys⟩ rfl;simp only[bG] at h;cases cal with
    | invoke r m=>simp[bj] at h
    | value F =>
      simp only[bj] at h;split at h
      · rename_i f' xas' h1 h2
        simp only[sI,pI,XOp.call.injEq] at h;obtain⟨⟨rfl,rfl⟩,_⟩:=h;exact⟨F,args,tys,rfl,h1,h2⟩
      · cases h
    | builtin b =>
      exfalso;cases b<;>simp only[bj,oh,lh] at h
      all_goals (first
        | (cases h;done)
        | (simp only[mS,pI,reduceCtorEq,false_and,and_false,exists_false] at h;done)
        | (repeat' split at h
           all_goals simp[mS] at h))
  cases op
  case call c=>exact key c rfl
  case makeMap t r=>exfalso;cases r<;>simp[bG] at h
  case makeFunc fn first caps =>
    exfalso;cases fn<;>simp only[bG] at h
    all_goals (repeat' split at h)
    all_goals simp[mS] at h
  all_goals (exfalso;try simp only[bG,jQ,iM] at h)
  all_goals (first
    | (cases h;done)
    | (simp only[mS,pI,reduceCtorEq,false_and,and_false,exists_false] at h;done)
    | (repeat' split at h
       all_goals simp[mS] at h))
theorem Di {X:Operand}{t:Nat}(h:trA X=some (.t t)):X=.tmp t:=by
 cases X with
 | tmp u=>simp only[trA,sI,A.t.injEq] at h;rw[h]
 | const v=>simp only[trA] at h;split at h <;> simp at h
 | func f=>simp[trA] at h
 | global n=>simp[trA] at h
theorem ju {l:List Operand}{a:A}{xas:List A}(h:kD l=some (a::xas)):∃x r,l=x::r∧trA x=some a∧kD r=some xas:=by
 cases l with
 | nil=>simp[kD] at h
 | cons x r =>
  simp only[kD] at h;split at h
  ·rename_i a' l' h1 h2;simp only[sI,cI] at h;obtain⟨rfl,rfl⟩:=h;exact⟨x,r,rfl,h1,h2⟩
  ·cases h
theorem yk {l:List Operand}(h:kD l=some []):l=[]:=by
 cases l with
 | nil=>rfl
 | cons x r =>
  simp only[kD] at h;split at h
  ·simp at h
  ·cases h
theorem eP {cf:av}{x:XOper}{st st1:St}(h:aI cf x st=some st1):st1.tm.length=st.tm.length:=by
 rw[bX] at h;simp only[mS] at h;obtain⟨r,_,rfl⟩:=h;cases x.d<;>simp[bH]
theorem iw {rw:Bool}{ops:Array Oper}{al:Nat}{o:Oper}{d:Option Nat}{x:XOp}{pre:List O}(h:j0 P rw ops al o=some (⟨d,x,none⟩,pre)):o.dst=d∧o.guard=none∧bG P rw al o.op=some (x,pre):=by
 unfold j0 at h;split at h
 ·rename_i x' pre' gd h1 h2;simp only[sI,pI,XOper.mk.injEq] at h;obtain⟨⟨rfl,rfl,rfl⟩,rfl⟩:=h;refine⟨rfl,?_,h1⟩;cases hg:o.guard with
  | none=>rfl
  | some p =>
   obtain⟨j,b⟩:=p;rw[hg] at h2;simp only[trG] at h2;split at h2<;>simp at h2
 ·cases h
theorem vV {pf:Nat→Nat}{F:Nat}(hF:pf F=0){l:List Oper}(hl:l.length=8) (hd:cz pf l (bq F)=true):cz (jT F) l (bM F)=true:=by
 unfold cz at hd ⊢;rw[List.all_eq_true] at hd ⊢;intro i hi;have:=hd i hi;rw[List.mem_range,hl] at hi;split at this
 ·rename_i o ho;simp only[bT,List.all_eq_true,List.mem_range,Bool.or_eq_true] at this ⊢;exact⟨this.1,fun j hj=>(this.2 j hj).imp id (wK pf F hF i j hj hi)⟩
 ·cases this
theorem jE {pf:Nat→Nat}{F:Nat}{l:List Oper}(hl:l.length=8) (hd:cz pf l (bq F)=true){i j:Nat}(hi:i<8) (hj:j<i) (hn:dJ pf (bq F) j i=false):((ej l []).getD i 0).testBit j=true:=by
 unfold cz at hd;rw[List.all_eq_true] at hd;have:=hd i (by rw[List.mem_range,hl];exact hi);split at this
 ·simp only[bT,List.all_eq_true,List.mem_range,Bool.or_eq_true] at this;rcases this.2 j hj with h|h
  ·exact h
  ·rw[hn] at h;cases h
 ·cases this
theorem sL {rw:Bool}{pf:Nat→Nat}{cf:av}(hm:P.follows .mixedOrders=true){F k:Nat}(hF:pf F=0) (IH:∀f caps,wD P F cf f caps k) (hW:jC P F){rid:Nat}{ops:Array Oper}(htr:ep P rw ops ops.toList 0=some (bq F,[.tok 1 1,.dead]))
  (hd:cz pf ops.toList (bq F)=true){m:Nat}{ps:List Int}{i:Nat}{st st':St}{g:Gh}{w:World}{a:Act}(S:Sim ds g w a st) (hml:m+1≤st.h.length) (htl:26<st.tm.length)
  (hrun:aC (gz F m cf k ps i) (bM F) { st with h:=st.h++[.tok 1 1,.dead],rb:=st.h.length }=some st') (hps:(ps.length+1)*8≤140737488355328)
  {Q:Exit→Act→World→Prop}(hQ:∀a' w' g',Le g w g' w'→Sim ds g' w' a' st'→Quiet (Frb m st.h) g st.h g' st'.h→st.h.length≤st'.h.length→Q .normal a' w'):(Code.region rid ops true).wp P Q a w:=by
 obtain⟨tab,T⟩:=mo _ _ _ _ htr;have hol:ops.toList.length=8:=by rw[← T.len];rfl
 have hos:ops.size=8:=by simpa using hol
 have hd':=vV hF hol hd;refine (wpIn_wide (n:=0)).1 (wpIn_region_any (F:=FR none) hm ?_)
 let h0:=st.h++[O.tok 1 1,O.dead]
 have hfr0:∀j (hj:j<([.tok 1 1,.dead]:List O).length),g.blk (st.h.length+j)=none∧g.tok (st.h.length+j)=none∧(st.h++[.tok 1 1,.dead])[st.h.length+j]?=some ([.tok 1 1,.dead]:List O)[j]:=by
  intro j hj;refine⟨S.hk.blk_none (by omega),S.hk.tok_none (by omega),?_⟩;rw[aR (by omega)];simp[hj]
 obtain⟨d1,d2⟩:=(S.hk.append [.tok 1 1,.dead]).drew;have S0:Sim ds g w.drew a { st with h:=st.h++[.tok 1 1,.dead],rb:=st.h.length }:=⟨S.tm.mono d1,d2,S.df⟩
 let R:Array Bool→St→Act→World→Prop:=fun listed s a1 w1=>∃g1,Le g w g1 w1∧Sim ds g1 w1 a1 s∧Quiet (Frb m st.h) g st.h g1 s.h∧s.rb=st.h.length∧st.h.length≤s.h.length ∧
  (∀j,j<8→listed.getD j false=false→j≠4→oe g1 s.h (st.h.length+(tab j).1) (tab j).2) ∧
  (listed.getD 4 false=true→listed.getD 6 false=false→∃x,a1.tmps[26]?=some x∧GJ g1 w w1 m (ps++[(i:Int)]) x)∧26<s.tm.length
 have hmask:jz ops.toList (ej ops.toList []):=eG ops.toList ops.toList [] [] (by simp) rfl (by intro i o j _ h;simp at h);have hget:∀(listed:Array Bool) i,listed.size=ops.size→i<8→listed.getD i true=listed.getD i false:=by
  intro listed i hs hi;simp[Array.getD,hs,hos,hi]
 have hsetne:∀(listed:Array Bool) (i j:Nat),i≠j→(listed.setIfInBounds i true).getD j false=listed.getD j false:=fun listed i j h=>getD_set_ne _ h
 refine BD (y4 (F:=F) (m:=m) (cf:=cf) (k:=k) (ps:=ps) (i:=i)) (xs:=bM F) (by rw[hos];rfl) hd' (st':=st') ⟨none,.mv (.k az),none⟩ R ?_ ?_ ops.size (List.range ops.size) _ w.drew a { st with h:=st.h++[.tok 1 1,.dead],rb:=st.h.length } (by simp) (by simp) (fun i=>?_) List.pairwise_lt_range ?_ ?_ (by simp) ?_
 ·-- one operation
  intro q o x ho hx listed hls hun hcl hbits s s1 a1 w1 hst hR K hK;obtain⟨g1,r1,r2,r3,r4,r5,r6,r7,r8⟩:=hR;have hq:q<8:=by rw[← hos];exact (Array.getElem?_eq_some_iff.1 ho).1
  have hunf:listed.getD q false=false:=by rw[← hget listed q hls hq];exact hun
  have hol':ops.toList[q]?=some o:=by simpa using ho
  obtain⟨x0,hx0,htro⟩:=T.op q o hol';have h41:listed.getD 4 false=true→listed.getD 1 false=true∧listed.getD 3 false=true:=by
   intro h4;have ho4:ops.toList[4]?=some (ops[4]'(by omega)):=by simp[hos]
   have hpre:=hcl 4 _ ho4 h4;exact⟨hmask 4 _ 1 ho4 (jE hol hd (by omega) (by omega) (by simp[dJ,bq,eS,mk2,cC,XOper.rd,XOp.rd,A.rd])) _ hcl hpre,
    hmask 4 _ 3 ho4 (jE hol hd (by omega) (by omega) (by simp[dJ,bq,eS,mk2,cC,XOper.rd,XOp.rd,A.rd])) _ hcl hpre⟩
  have h32:listed.getD 3 false=true→listed.getD 2 false=true:=by
   intro h3;have ho3:ops.toList[3]?=some (ops[3]'(by omega)):=by simp[hos]
   exact hmask 3 _ 2 ho3 (jE hol hd (by omega) (by omega) (by simp[dJ,bq,eS,mk2,cC,XOper.rd,XOp.rd,A.rd])) _ hcl (hcl 3 _ ho3 h3)
  have same:∀{d:Option Nat}{xo:XOp},x=⟨d,xo,none⟩→o.dst=d→o.guard=none→(∀v h',act (gz F m cf k ps i) s xo=some (v,h')→h'=s.h∧PureOk P g1 w1 a1 o v) →
    (∀r v,Rep g1 w1 r v→s1={ s with tm:=bH s.tm d v }→K (a1.put d r) w1)→if Region.wanted o (yielded ops a1.tmps) then o.wpIn (FR none) 0 P a1 w1 K Q else K (a1.put o.dst undef) w1:=by
   intro d xo hxe hdst hgd hact hk;subst hxe;rw[bX] at hst;simp only[b8,aZ,aY,if_true,mS] at hst;obtain⟨⟨v,h'⟩,ha,rfl⟩:=hst;obtain⟨rfl,r,hrun',hrep⟩:=hact v h' ha;rw[if_pos (by simp[Region.wanted,hgd])];unfold Oper.wpIn;refine⟨fun _ _=>trivial,?_⟩;rw[show Oper.semAt (FR none).round a1.eval o=execOp a1.eval o from rfl,hrun',Oper.uponIn_value,hdst];exact hk r v hrep rfl
  by_cases h4:q=4
  ·-- the path is made longer
   subst h4;simp only[bq,List.getElem?_cons_succ,List.getElem?_cons_zero,sI] at hx0;simp only[bM,List.getElem?_cons_succ,List.getElem?_cons_zero,sI] at hx;subst hx0;subst hx;obtain⟨i1,i2,i3⟩:=iw htro;have hlen:=eP hst;rw[bX] at hst;simp only[b8,aZ,aY,if_true,mS] at hst;obtain⟨⟨v,h'⟩,ha,rfl⟩:=hst;obtain⟨rfl,rfl,si,hx,hy,hm'⟩:v=.top∧h'=s.h∧∃si,PV m ps (ev s.tm (.t 23))∧ev s.tm (.t 25)=.sl [I64 i] si∧(ev s.tm (.t 23)=.buf m ps.length→s.h[m]?=some (aE ps)):=by
    simp only[act] at ha;rw[show ev s.tm (.k (.c (.func (.func (F+1)) #[] #[])))=.c (.func (.func (F+1)) #[] #[]) from rfl,di (f:=F+1) (caps:=[]) (by simp[aT])] at ha;simp only[List.append_nil,List.map_cons,List.map_nil] at ha;split at ha;rotate_left
    ·cases ha
    obtain⟨hk,_⟩:=bd ha;unfold gz at hk;rw[if_neg (by omega),if_pos rfl] at hk;split at hk
    ·rename_i m' n i' sj heq;simp only[cI,and_true] at heq;split at hk
     ·rename_i hc;simp only[sI,pI] at hk;obtain⟨⟨rfl,rfl,rfl⟩,hc2⟩:=hc;exact⟨hk.1.symm,hk.2.symm,sj,.inl heq.1,heq.2,fun _=>dZ hc2⟩
     ·cases hk
    ·rename_i i' sj heq;simp only[cI,and_true] at heq;split at hk
     ·rename_i hc;simp only[sI,pI] at hk;obtain⟨hps0,rfl⟩:=hc;exact⟨hk.1.symm,hk.2.symm,sj,.inr ⟨heq.1,hps0⟩,heq.2,fun e=>by rw[heq.1] at e;cases e⟩
     ·cases hk
    ·cases hk
   obtain⟨val,w2,e1,e2,e3,e4⟩:=rV (w0:=w) i3 r2.tm r2.hk r1.size hx hy hm' hps (by omega);rw[if_pos (by simp[Region.wanted,i2])];unfold Oper.wpIn;refine⟨fun _ _=>trivial,?_⟩;rw[show Oper.semAt (FR none).round a1.eval o=execOp a1.eval o from rfl,e1,Oper.uponIn_value,i1];refine hK _ _ ⟨g1,r1.trans e2,⟨(r2.tm.mono e2).put (.top val),e3,r2.df⟩,r3,r4,r5,fun j hj hjl hj4=>?_,fun _ _=>⟨val,?_,e4⟩,by rw[hlen];exact r8⟩
   ·rw[hsetne _ _ _ (Ne.symm hj4)] at hjl;exact r6 j hj hjl hj4
   ·have:26<a1.tmps.size:=by rw[r2.tm.1];exact r8
    simp[Act.put,this]
  by_cases h6:q=6
  ·-- the call
   subst h6;simp only[bq,List.getElem?_cons_succ,List.getElem?_cons_zero,sI] at hx0;simp only[bM,List.getElem?_cons_succ,List.getElem?_cons_zero,sI] at hx;subst hx0;subst hx;obtain⟨i1,i2,i3⟩:=iw htro;have hlen:=eP hst;have l4:=hbits 4 (by omega) (jE hol hd (by omega) (by omega) (by simp[dJ,bq,eS,mk2,cC,XOper.rd,XOp.rd,A.rd]));obtain⟨xv,hxv,b',cap',c',T',hxe,hcap,hheap,hcs,hcells,hwh⟩:=r7 l4 hunf;rw[bX] at hst;simp only[b8,aZ,aY,if_true,mS] at hst;obtain⟨⟨v,h'⟩,ha,rfl⟩:=hst;obtain⟨f',caps',b,h1,hcal,hc,hev,rfl,rfl⟩:∃f' caps' b h1,aT (ev s.tm (.t 27))=some (f',caps')∧(m+1≤s.h.length∧dF ps s.h[m]?=true∧(s.h.take m).all (O.low m)=true∧V.low m (ev s.tm (.t 22))=true∧V.lows m caps'=true) ∧
     cV cf f' caps' k (ev s.tm (.t 22)) (ps++[(i:Int)]) (s.h.take m)=some (b,h1)∧v=.c (.bool b)∧h'=h1++s.h.drop m:=by
    simp only[act] at ha;rw[show ev s.tm (.k (.c (.func (.func F) #[] #[])))=.c (.func (.func F) #[] #[]) from rfl,di (f:=F) (caps:=[]) (by simp[aT])] at ha;simp only[List.append_nil,List.map_cons,List.map_nil] at ha;split at ha;rotate_left
    ·cases ha
    obtain⟨hk,_⟩:=bd ha;unfold gz at hk;rw[if_pos rfl] at hk;cases hcal:aT (ev s.tm (.t 27)) with
    | none=>simp[hcal] at hk
    | some p =>
     obtain⟨f',caps'⟩:=p;simp only[hcal] at hk;split at hk
     ·rename_i hc;split at hk
      ·rename_i b h1 hev;simp only[sI,pI] at hk;exact⟨f',caps',b,h1,rfl,hc,hev,hk.1.symm,hk.2.symm⟩
      ·cases hk
     ·cases hk
   obtain⟨c1,c2,c3,c4,c5⟩:=hc;obtain⟨F',args,tys,hop,hF',has⟩:=yL i3;have hargs:∃X Z,args=#[X,.tmp 26,Z]∧trA X=some (.t 22)∧trA Z=some (.t 27):=by
    obtain⟨l⟩:=args;obtain⟨X,l1,rfl,hX,has⟩:=ju has;obtain⟨Y,l2,rfl,hY,has⟩:=ju has;obtain⟨Z,l3,rfl,hZ,has⟩:=ju has;rw[yk has,Di hY];exact⟨X,Z,rfl,hX,hZ⟩
   obtain⟨X,Z,rfl,hX,hZ⟩:=hargs;have hFv:a1.eval F'=.func (.func F) #[] #[]:=(aN r2.tm hF').of_c;have hux:=aN r2.tm hX;have hzx:=aN r2.tm hZ;have hxv':a1.eval (.tmp 26)=xv:=by
    obtain⟨hlt,he⟩:=Array.getElem?_eq_some_iff.1 hxv;simp[Act.eval,Array.getD,hlt,← he]
   obtain⟨fn,hfn,hnm,hbody⟩:=hW;have hrun':(execOp a1.eval o).run P w1=.ok (.enter F #[a1.eval X,xv,a1.eval Z]) w1:=by
    simp only[execOp,hop,resolve,Sem.run_bind,hFv,Deferred.ofValue,Sem.run_pure,Result.andThen_ok,invoke,callFunc]
    have n1 : ¬ fn.name = "runtime.NumGoroutine" := by simpa using hnm
    have n2:¬fn.body=none:=by intro h;rw[h] at hbody;simp at hbody
    simp[hfn,n1,n2,hxv']
   rw[if_pos (by simp[Region.wanted,i2])];unfold Oper.wpIn;refine⟨fun _ _=>trivial,?_⟩;rw[show Oper.semAt (FR none).round a1.eval o=execOp a1.eval o from rfl,hrun',Oper.uponIn_enter,i1];refine⟨fun h=>absurd h (by simp[FR,Fence.wide]),iF ?_⟩;have hmlen:(s.h.take m).length=m:=by simp;omega
   have H1:HOk g1 w1 (s.h.take m++s.h.drop m):=by rw[List.take_append_drop];exact r2.hk
   have hwh':z6 g1 w (s.h.take m).length b':=by rw[hmlen];exact hwh
   have hent:=uX H1 (by rw[hmlen];exact c3) hwh' hheap (by omega) hcells;rw[hmlen] at hent;have hfvlow:V.low m (ev s.tm (.t 27))=true:=by
    unfold aT at hcal;split at hcal
    ·rename_i p q e;rw[e];rfl
    ·rename_i f2 caps2 e;simp only[sI,pI] at hcal;rw[e,hcal.2];exact c5
    ·cases hcal
   have hel:=dK hev;rw[hmlen] at hel;refine Calls.mono (IH f' caps' _ _ _ _ _ hev (g1.kid m b') w1 (a1.eval X) xv (a1.eval Z) (ev s.tm (.t 27)) (.buf m (ps++[(i:Int)]).length) hcal hent (jy hux c4) (.inl (by rw[hmlen])) ?_ (jy hzx hfvlow)) ?_
   ·rw[hxe];exact .buf _ _ _ _ hcap ⟨b',c',T',rfl,by simp[Gh.kid],hheap,hcs⟩
   ·rintro e w2 ⟨g2,rfl,k1,k2,k3⟩;obtain⟨m1,m2,m3,m4⟩:=vK (g0:=g) (w0:=w) (g1:=g2) (w1:=w2) (h1:=h1) (ps:=ps) (i:=(i:Int)) H1 (by rw[List.getElem?_drop,Nat.add_zero];exact dZ c2) r1 hwh' (by rw[hmlen];exact k1) k2 (by rw[hmlen];exact hel.1) (by rw[hmlen];exact hel.2) (by rw[hmlen];rw[hmlen] at k3;exact k3);rw[hmlen] at m1 m2 m3 m4;rw[List.take_append_drop] at m3;have hl2:(h1++s.h.drop m).length=s.h.length:=by simp only[lA,List.length_drop,hel.1];omega
    refine hK _ _ ⟨_,m1,⟨Tm.put ⟨r2.tm.1,fun j hj hj2=>m4 (r2.tm.2 j hj hj2),m2.ag.gl⟩ (.c _),m2,r2.df⟩,r3.transL r2.hk r1 m3,r4,by simp only[hl2];exact r5,fun j hj hjl hj4=>?_,fun e1 e2=>?_,by rw[hlen];exact r8⟩
    ·have hj6:j≠6:=by
      intro e;subst e;simp[Array.getD,hls,hos] at hjl
     rw[hsetne _ _ _ (Ne.symm hj6)] at hjl;intro hne;obtain⟨q1,q2,q3⟩:=r6 j hj hjl hj4 hne;have hge:¬st.h.length+(tab j).1<m:=by omega
     refine⟨by simp only[Gh.glue,hge,if_false];exact q1,by simp only[Gh.glue,hge,if_false];exact q2,fun p hp'=>?_⟩;have:=q3 p hp';simp only;rw[aR (by omega),hel.1,List.getElem?_drop,show m+(st.h.length+(tab j).1-m)=st.h.length+(tab j).1 by omega];exact this
    ·simp[Array.getD,hls,hos] at e2
  have hxx:x0=x:=by
   have e:(bq F)[q]?=(bM F)[q]?:=by
    match q,hq,h4,h6 with
    | 0,_,_,_=>rfl
    | 1,_,_,_=>rfl
    | 2,_,_,_=>rfl
    | 3,_,_,_=>rfl
    | 4,_,h,_=>exact absurd rfl h
    | 5,_,_,_=>rfl
    | 6,_,_,h=>exact absurd rfl h
    | 7,_,_,_=>rfl
   rw[hx0,hx] at e;exact Option.some.inj e
  subst hxx;by_cases hph:listed.getD 4 false=true∧listed.getD 6 false=false
  ·-- between the two: only what leaves the world alone
   obtain⟨xv,hxv,hap⟩:=r7 hph.1 hph.2;obtain⟨l1,l3⟩:=h41 hph.1;have l2:=h32 l3;have hcase:q=0∨q=5:=by
    match q,hq with
    | 0,_=>exact .inl rfl
    | 1,_=>rw[l1] at hunf;cases hunf
    | 2,_=>rw[l2] at hunf;cases hunf
    | 3,_=>rw[l3] at hunf;cases hunf
    | 4,_=>exact absurd rfl h4
    | 5,_=>exact .inr rfl
    | 6,_=>exact absurd rfl h6
    | 7,_ =>
     have:=hbits 6 (by omega) (jE hol hd (by omega) (by omega) (by simp[dJ,bq,eS,mk2,cC,XOper.rd,XOp.rd,A.rd]));rw[hph.2] at this;cases this
   have fin:∀(d:Nat),d≠26→∀r v,Rep g1 w1 r v→s1={ s with tm:=bH s.tm (some d) v }→K (a1.put (some d) r) w1:=by
    intro d hd26 r v hrep hs1;refine hK _ _ ⟨g1,r1,?_,by rw[hs1];exact r3,by rw[hs1];exact r4,by rw[hs1];exact r5,fun j hj hjl hj4=>?_,fun _ _=>⟨xv,?_,hap⟩,by rw[eP hst];exact r8⟩
    ·rw[hs1];exact⟨r2.tm.put hrep,r2.hk,r2.df⟩
    ·rw[hs1];by_cases hqj:q=j
     ·subst hqj;simp[Array.getD,hls,hos,hj] at hjl
     ·rw[hsetne _ _ _ hqj] at hjl;exact r6 j hj hjl hj4
    ·simp only[Act.put];rw[Array.getElem?_setIfInBounds_ne hd26];exact hxv
   rcases hcase with rfl|rfl
   ·simp only[bq,List.getElem?_cons_zero,sI] at hx0;subst hx0;obtain⟨i1,i2,i3⟩:=iw htro;exact same rfl i1 i2 (fun v h' ha=>vT i3 r2.tm r2.hk ha) (fin 22 (by decide))
   ·simp only[bq,List.getElem?_cons_succ,List.getElem?_cons_zero,sI] at hx0;subst hx0;obtain⟨i1,i2,i3⟩:=iw htro;refine same rfl i1 i2 (fun v h' ha=>?_) (fin 27 (by decide));obtain⟨e1,e2⟩:=iH (cf:=gz F m cf k ps i) (show (aB s.tm s.rb (.mv (.t 2))).map (·,s.h)=some (v,h') from ha);exact⟨e2,xB i3 r2.tm e1 rfl⟩
  ·-- any other time
   have hnc:∀f args,x0.op≠.call f args:=by
    intro f args
    match q,hq,h4,h6 with
    | 0,_,_,_=>simp only[bq,List.getElem?_cons_zero,sI] at hx0;subst hx0;simp
    | 1,_,_,_=>simp only[bq,List.getElem?_cons_succ,List.getElem?_cons_zero,sI] at hx0;subst hx0;simp
    | 2,_,_,_=>simp only[bq,List.getElem?_cons_succ,List.getElem?_cons_zero,sI] at hx0;subst hx0;simp
    | 3,_,_,_=>simp only[bq,List.getElem?_cons_succ,List.getElem?_cons_zero,sI] at hx0;subst hx0;simp
    | 4,_,h,_=>exact absurd rfl h
    | 5,_,_,_=>simp only[bq,List.getElem?_cons_succ,List.getElem?_cons_zero,sI] at hx0;subst hx0;simp
    | 6,_,_,h=>exact absurd rfl h
    | 7,_,_,_=>simp only[bq,List.getElem?_cons_succ,List.getElem?_cons_zero,sI] at hx0;subst hx0;simp
   have hst2:aI (fun _ _ _=>none) x0 s=some s1:=by
    have:∀cf',act cf' s x0.op=act (gz F m cf k ps i) s x0.op:=by
     intro cf';cases hop:x0.op<;>first|rfl|exact absurd hop (hnc _ _)
    unfold aI at hst ⊢;rw[this];exact hst
   refine jq (ρ:=none) (nn:=0) (cf:=fun _ _ _=>none) htro hst2 (fun f args h r h' e=>by cases e) r2 (by rw[r4];exact r6 q hq hunf h4) fun a' w' g' k1 k2 k3=>hK a' w' ?_
   refine⟨g',r1.trans k1,k2,r3.transL r2.hk r1 (k3.mono (E':=Frb m s.h) fun id hid=>hid.elim (fun h=>.inl (by have:=h.2;omega)) fun h=>h.imp (fun h=>by omega) fun h=>h),(gY hst2).1.trans r4,Nat.le_trans r5 (db hst2),fun j hj hjl hj4=>?_,fun e1 e2=>?_,by rw[eP hst];exact r8⟩
   ·by_cases hqj:q=j
    ·subst hqj;simp[Array.getD,hls,hos,hj] at hjl
    ·rw[hsetne _ _ _ hqj] at hjl;intro hne;obtain⟨q1,q2,q3⟩:=r6 j hj hjl hj4 hne;have hin:st.h.length+(tab j).1<s.h.length:=by
      obtain⟨p,hp'⟩:=List.exists_mem_of_ne_nil _ hne;exact (gS.1 (q3 p hp')).1
     have hslot:¬(((tab q).2≠[]∧st.h.length+(tab j).1=s.rb+(tab q).1)∨Frb s.h.length s.h (st.h.length+(tab j).1)):=by
      rintro (⟨n1,n2⟩|n3|n3)
      ·rw[r4] at n2;rcases Nat.lt_or_ge j q with h|h
       ·have:=T.lt j q h (by rw[hol];exact hq) hne;omega
       ·have:=T.lt q j (by omega) (by rw[hol];exact hj) n1;omega
      ·omega
      ·obtain⟨p,hp'⟩:=List.exists_mem_of_ne_nil _ hne;have h1:=q3 p hp';rw[n3] at h1;simp only[sI] at h1;have h2:=List.all_eq_true.1 (T.own j (by rw[hol];exact hj)) _ hp';rw[← h1] at h2;cases h2
     have kk:=k3 _ hslot;exact⟨kk.1 q1,kk.2.1 q2,fun p hp'=>(kk.2.2 q1 q2).trans (q3 p hp')⟩
   ·exfalso;rw[hsetne _ _ _ h4] at e1;rw[hsetne _ _ _ h6] at e2;exact hph ⟨e1,e2⟩
 ·intro listed a1 w1 hls hall hR;obtain⟨g1,r1,r2,r3,r4,r5,r6,r7,r8⟩:=hR;exact hQ _ _ _ r1 r2 r3 r5
 ·simp only[List.mem_range,Array.getD,Array.size_replicate];constructor
  ·intro h;exact⟨h,by simp[h]⟩
  ·exact fun h=>h.1
 ·intro i o ho h;simp only[Array.getD,Array.size_replicate] at h;split at h<;>simp at h
 ·have e:(List.range ops.size).map (fun i=>(bM F).getD i ⟨none,.mv (.k az),none⟩)=bM F:=by rw[hos];rfl
  rw[e];exact hrun
 ·refine⟨g,d1,S0,fun id hid=>⟨fun h=>h,fun h=>h,fun _ _=>?_⟩,rfl,by simp,fun j hj _ _ hne=>?_,fun h=>?_,htl⟩
  ·have:id<st.h.length:=Nat.lt_of_not_le fun h=>hid (.inl (by omega))
   simp only;rw[aL this]
  ·cases hpre:(tab j).2 with
   | nil=>exact absurd hpre hne
   | cons p r =>
    have h1:=T.at' j (by rw[hol];exact hj) p (by rw[hpre];simp);obtain⟨hlt,_⟩:=gS.1 h1;rw[Nat.sub_zero] at hlt;obtain⟨f1,f2,f3⟩:=hfr0 _ hlt;refine⟨f1,f2,fun q hq=>?_⟩;have h2:=T.at' j (by rw[hol];exact hj) q (by rw[hpre];exact hq);rw[Nat.sub_zero] at h2;simp only;rw[f3,← h2,gE hlt]
  ·simp only[Array.getD,Array.size_replicate,hos] at h;simp at h
end
end Go.Proofs.YtjhffhmokcogkaaGreatDoor.Ab
