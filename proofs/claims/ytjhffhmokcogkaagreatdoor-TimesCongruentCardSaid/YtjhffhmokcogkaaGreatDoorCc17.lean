/- TimesCongruent: with any argument made dynamic no time becomes earlier; with all given none is dynamic; with none given the main one's are. Conditions: those of the given row alone. -/
import Derived.Test.YtjhffhmokcogkaaGreatDoorCc16
import Derived.ProofKit
import Derived.ChangeMaps5
import Derived.Carry
import Derived.WideKeyElems2
import Derived.ChangeArms
import Derived.Test.YtjhffhmokcogkaaGreatDoorRows
import Derived.LaidMore
import Derived.OpenShut
import Derived.Stop.Joined
import Derived.Test.YtjhffhmokcogkaaGreatDoorCards
import Derived.Test.YtjhffhmokcogkaaGreatDoorTie
import Derived.SevenTiedAt
set_option linter.unusedVariables false
set_option linter.unusedSimpArgs false
set_option linter.defProp false
set_option maxRecDepth 20000
set_option maxHeartbeats 8000000
noncomputable section
namespace Go.Proofs.YtjhffhmokcogkaaGreatDoor.Ab
open Go
theorem xr {n f:Nat}{xf:XF}{a b:List V}{h:List O}(hE:E f=none) (hX:X f=some xf) (ha:xf.asg=none) (hp:xf.pure=true) (e:a.map V.vw2=b.map V.vw2):call X E (n+1) f a h=call X E (n+1) f b h:=by
 rw[cR hE hX ha,cR hE hX ha];unfold fE;rw[if_pos hp,if_pos hp,e]
theorem yQ:call X E 59 24 [aliveT,aliveT] []=some (.c (.bool true),[]):=dM eE (by kernel_rfl)
theorem vM:call X E 59 26 [aliveP,.sl [.c (.bool false),.c (.bool true)] .full] []=some (.tup [aliveT,.c (.int .i64 0)],[]):=by
 have h1:call X E (58+1) 26 [aliveP,.sl [.c (.bool false),.c (.bool true)] .full] []=call X E (58+1) 26 [aliveP,.sl [.c (.bool false),.c (.bool true)] .any] []:=xr (xf:=x26) rfl rfl rfl rfl (by simp only[List.map_cons,List.map_nil,aM]);have h2:=yR;generalize aliveP=P at *;generalize aliveT=T at *;rw[show 59=58+1 from rfl] at h2 ⊢;rw[h1];exact h2
theorem uF:call X E 59 9 [aliveP,.sl [.c (.bool false),.c (.bool true)] .full] []=some (.tup [.sl [.sl [.c (.int .i64 (-2)),.c (.int .i64 (-1))] .any] .any,.c (.int .i64 0)],[]):=by
 have h1:call X E (58+1) 9 [aliveP,.sl [.c (.bool false),.c (.bool true)] .full] []=call X E (58+1) 9 [aliveP,.sl [.c (.bool false),.c (.bool true)] .any] []:=xr (xf:=x9) rfl rfl rfl rfl (by simp only[List.map_cons,List.map_nil,aM]);have h2:=yt;generalize aliveP=P at *;rw[show 59=58+1 from rfl] at h2 ⊢;rw[h1];exact h2
theorem tN:bg 60 10 [] (.c (.bool true)):=by
 have c1:∀h,call X E 59 35 [wA] h=some (aliveP,h):=cX rfl C5;have c2:∀h,call X E 59 35 [wh] h=some (aliveT,h):=cX rfl B1;have c3:∀h,call X E 59 26 [aliveP,.sl [.c (.bool false),.c (.bool true)] .full] h=_:=cX rfl vM;have c4:∀h,call X E 59 9 [aliveP,.sl [.c (.bool false),.c (.bool true)] .full] h=_:=cX rfl uF;have c5:∀h,call X E 59 14 [aliveT] h=_:=cX rfl zp;have c6:∀h,call X E 59 24 [aliveT,aliveT] h=_:=cX rfl yQ;have p1:okc aliveP=true∧aliveP.cells.length=4:=⟨rfl,rfl⟩
 have p2:okc aliveT=true∧aliveT.cells.length=4:=⟨rfl,rfl⟩
 have p3:rdV aliveP.cells 0 (some 4)=some aliveP:=rfl;have p4:rdV aliveT.cells 0 (some 4)=some aliveT:=rfl;refine aA rfl rfl rfl (by kernel_rfl) ⟨rfl,rfl⟩ (by simp[V.lows]) ?_;unfold wA at c1;unfold wh at c2;generalize call X E 59=cf at *;generalize aliveP=P at *;generalize aliveT=T at *;simp -implicitDefEqProofs [x10_w,x10_r,c1,c2,c3,c4,c5,c6,p1,p2,p3,p4]
 try rfl
theorem H5 (d:D) (g:List Bool) (w:{n:Int // 0≤n∧n≤255}):call X E 130003 3 [d.v,.sl (bvs g) .any,.c (.int .u8 w.1)] []=some (.c (.bool true),[]):=by
 have h1:(d.cut 3000 1005).1.sz≤3000:=D.cut_small d 3000 1005 (by omega);exact HY d _ g _ w.1 (n:=130000) rfl rfl w.2 (by omega) (by omega) (fun h=>up (by omega) (tN h)) []
open Go.ChangeMaps Go.ChangeShapes Go.WideShapes Go.ChangeAt Go.RowKit
section
variable {W:World}{g:Gh}
theorem uI {a:Addr}{n:Nat}(h:a.spot=none):a.add n=⟨a.block,a.off+n,none⟩:=by
 unfold Addr.add;split
 ·rename_i h0;subst h0;obtain⟨b,o,s⟩:=a;simp only at h;subst h;rfl
 ·rfl
theorem tW {a:Addr}{v:Value}(h:W.cell? a=some v):a.spot=none∧a.block<W.heap.size:=by
 unfold World.cell? at h;split at h
 ·rename_i c t m hb;split at h
  ·cases h
  ·rename_i hs;refine⟨by simpa using hs,(Array.getElem?_eq_some_iff.1 hb).1⟩
 ·cases h
def fj (g:Gh) (W:World) (cs:List Value) (vs:List V):Prop:=cs.length=vs.length∧∀r (h1:r<cs.length) (h2:r<vs.length),Rep g W cs[r] vs[r]∧(cs[r]).oneCell'=true
theorem fK {a:Addr}{len cap z:Nat}{us:List V}(hfz:∀b o,b<W.heap.size→g.fz b o) (hz:∀u∈us,u.cells.length=z) (hz0:0<z) (hl:us.length=len) (hlc:len≤cap)
  (hc:∀i (hi:i<us.length),∃cs:List Value,W.cells? 0 (a.add (i*z)) z=some cs∧fj g W cs (us[i]).cells):Rep g W (.slice (some a) len cap) (.sl us .any):=by
 have hget:∀i (hi:i<us.length),∃cs:List Value,fj g W cs (us[i]).cells∧∀r (h:r<cs.length),W.cell? ((a.add (i*z)).add r)=some cs[r]:=by
  intro i hi;obtain⟨cs,h1,h2⟩:=hc i hi;refine⟨cs,h2,fun r hr=>?_⟩;unfold World.cells? at h1;split at h1
  ·have hzl:r<z:=by rw[← hz _ (List.getElem_mem hi),← h2.1];exact hr
   have:=mapM_some_get h1 r r (by simp[hzl]);rw[this,gE hr]
  ·cases h1
 have hsp:us≠[]→a.spot=none∧a.block<W.heap.size:=by
  intro hne;have hp:0<us.length:=List.length_pos_iff.2 hne;obtain⟨cs,h2,h3⟩:=hget 0 hp;have h4:=h3 0 (by rw[h2.1,hz _ (List.getElem_mem hp)];exact hz0);have:=tW h4;simpa[Addr.add] using this
 have hcell:∀i (hi:i<us.length) r (hr:r<(us[i]).cells.length),∃v,W.cell? ⟨a.block,a.off+(i*z+r),none⟩=some v∧Rep g W v (us[i]).cells[r]∧v.oneCell'=true:=by
  intro i hi r hr;obtain⟨hs,hb⟩:=hsp (by intro e;rw[e] at hi;simp at hi);obtain⟨cs,h2,h3⟩:=hget i hi;have hr':r<cs.length:=by rw[h2.1];exact hr
  have h4:=h3 r hr';have e:(a.add (i*z)).add r=⟨a.block,a.off+(i*z+r),none⟩:=by
   rw[uI hs,uI rfl];simp only[Nat.add_assoc]
  rw[e] at h4;exact⟨_,h4,h2.2 r hr' hr⟩
 have hidx:∀j,j<us.length*z→∃i r,∃(hi:i<us.length) (hr:r<(us[i]).cells.length),j=i*z+r:=by
  intro j hj;refine⟨j / z,j % z,?_,?_,?_⟩
  ·exact (Nat.div_lt_iff_lt_mul hz0).2 hj
  ·rw[hz _ (List.getElem_mem _)];exact Nat.mod_lt _ hz0
  ·rw[Nat.mul_comm];exact (Nat.div_add_mod j z).symm
 refine .sl (some a) len cap us .any z (fun j=>(W.cell? ⟨a.block,a.off+j,none⟩).getD undef) hl.symm hlc hz (fun hne=>?_) (fun j hj=>?_) trivial
 ·obtain⟨hs,hb⟩:=hsp hne;refine⟨a.block,a.off,?_,fun j hj=>?_⟩
  ·obtain⟨b,o,s⟩:=a;simp only at hs;subst hs;rfl
  ·obtain⟨i,r,hi,hr,rfl⟩:=hidx j hj;obtain⟨v,h1,_,h3⟩:=hcell i hi r hr;refine⟨hfz _ _ hb,?_⟩;simp only[h1,Option.getD_some,h3,and_self]
 ·have hj':=hj;rw[aO hz] at hj';obtain⟨i,r,hi,hr,rfl⟩:=hidx j hj';obtain⟨v,h1,h2,_⟩:=hcell i hi r hr;have h5:=kK hz i hi r hr;rw[gE hj] at h5;simp only[sI] at h5;rw[h5];simp only[h1,Option.getD_some];exact h2
variable {H:Type}{enc:TypeId × Value→H}{sp:Nat→Bool}{held:Bool}
theorem xi:Tryz.prog.cellsOf 24=4:=by kernel_rfl
theorem Ck:Tryz.prog.cellsOf 22=1:=by kernel_rfl
theorem Ea:Tryz.prog.cellsOf 3=1:=by kernel_rfl
theorem DF:Tryz.prog.cellsOf 2=1:=by kernel_rfl
theorem Fa:Tryz.prog.cellsOf 9=1:=by kernel_rfl
theorem sM (hfz:∀b o,b<W.heap.size→g.fz b o):∀(fuel:Nat) (cs:List Value) (x:DataW H × List MemPlace),DataW.trod enc Tryz.prog W 0 sp held fuel 24 cs=some x→∃d:D,fj g W cs d.v.cells:=by
 intro fuel
 induction fuel using Nat.strongRecOn with
 | _ fuel ih =>
  intro cs x h;obtain⟨xs,n,rfl,rfl,hlen,hxl,hf⟩:=DataW.trod_struct Tryz.underlying24 h;rw[xi] at hlen;obtain⟨a0,a1,a2,a3,rfl⟩:∃a0 a1 a2 a3,cs=[a0,a1,a2,a3]:=by
   match cs,hlen with
   | [a0,a1,a2,a3],_=>exact⟨_,_,_,_,rfl⟩
  have h0:DataW.trod enc Tryz.prog W 0 sp held n 3 (([a0,a1,a2,a3].drop 0).take (Tryz.prog.cellsOf 3))=xs[0]?:=hf 0 _ rfl;have h1:DataW.trod enc Tryz.prog W 0 sp held n 2 (([a0,a1,a2,a3].drop 1).take (Tryz.prog.cellsOf 2))=xs[1]?:=hf 1 _ rfl;have h2:DataW.trod enc Tryz.prog W 0 sp held n 9 (([a0,a1,a2,a3].drop 2).take (Tryz.prog.cellsOf 9))=xs[2]?:=hf 2 _ rfl;have h3:DataW.trod enc Tryz.prog W 0 sp held n 22 (([a0,a1,a2,a3].drop 3).take (Tryz.prog.cellsOf 22))=xs[3]?:=hf 3 _ rfl;simp only[Ea,DF,Fa,Ck,List.drop_zero,List.drop_succ_cons,List.take_succ_cons,List.take_zero] at h0 h1 h2 h3;have hxl:xs.length=4:=hxl;rw[gE (by omega)] at h0 h1 h2 h3;obtain⟨k,e0,_⟩:=DataW.trod_int Tryz.underlying3 h0;obtain⟨m,e1,_⟩:=DataW.trod_int Tryz.underlying2 h1;obtain⟨t,e2,_⟩:=DataW.trod_string Tryz.underlying9 h2;simp only[cI,and_true] at e0 e1 e2;subst e0 e1 e2;have key:∃l:List D,Rep g W a3 (.sl (D.vs l) .any)∧a3.oneCell'=true:=by
   rcases DataW.trod_slice Tryz.underlying22 h3 with⟨e3,_⟩|⟨a,len,cap,elems,rest,n',e4,e3,_,_,hlc,_,hel,hget,_⟩
   ·simp only[cI,and_true] at e3;subst e3;exact⟨[],.sl none 0 0 [] .any 4 (fun _=>undef) rfl (nL _) (by simp) (fun h=>absurd rfl h) (fun j hj=>by simp[aG] at hj) trivial,rfl⟩
   ·simp only[cI,and_true] at e3;subst e3 e4;rw[xi] at hget;have hex:∀i,i<len→∃d:D,∃cs,W.cells? 0 (a.add (i*4)) 4=some cs∧fj g W cs d.v.cells:=by
     intro i hi;have:=hget i hi;rw[gE (by omega)] at this;simp only[bS] at this;obtain⟨cs,hc,ht⟩:=this;obtain⟨d,hd⟩:=ih n' (by omega) cs _ ht;exact⟨d,cs,hc,hd⟩
    have hl:∀m,m≤len→∃l:List D,l.length=m∧∀i (hi:i<l.length),∃cs,W.cells? 0 (a.add (i*4)) 4=some cs∧fj g W cs (l[i]).v.cells:=by
     intro m
     induction m with
     | zero=>exact fun _=>⟨[],rfl,fun i hi=>by simp at hi⟩
     | succ m ihm =>
      intro hm;obtain⟨l,h1,h2⟩:=ihm (by omega);obtain⟨d,hd⟩:=hex m (by omega);refine⟨l++[d],by simp[h1],fun i hi=>?_⟩;rcases Nat.lt_or_ge i l.length with h3|h3
      ·rw[List.getElem_append_left h3];exact h2 i h3
      ·have hi':i=l.length:=by simp at hi;omega
       subst hi';rw[List.getElem_append_right (nL _)];simp only[Nat.sub_self,List.getElem_cons_zero];rw[h1];exact hd
    obtain⟨l,h1,h2⟩:=hl len (nL _);refine⟨l,fK (z:=4) hfz (fun u hu=>?_) (by omega) (by rw[aa,h1]) hlc (fun i hi=>?_),rfl⟩
    ·rw[ar] at hu;obtain⟨d,_,rfl⟩:=List.mem_map.1 hu;exact ab d
    ·rw[ac];exact h2 i _
  obtain⟨l,hr,ho⟩:=key;refine⟨.mk k m t l,rfl,fun r h1 h2=>?_⟩;simp only[lC,List.length_nil] at h1
  match r,h1 with
  | 0,_=>exact⟨.c _,rfl⟩
  | 1,_=>exact⟨.c _,rfl⟩
  | 2,_=>exact⟨.c _,rfl⟩
  | 3,_=>exact⟨hr,ho⟩
theorem DB {r:Reach}{b0:Nat}{v:Value}{dd:DataW H}{ps:List MemPlace}(hfz:∀b o,b<W.heap.size→g.fz b o) (hval:Value.okWide Tryz.prog W r b0 24 v) (hd:DataW.Trod enc Tryz.prog W 0 sp held 24 v dd ps):∃d:D,Rep g W v d.v:=by
 obtain⟨cs,rfl,hn⟩:=okWide_struct Tryz.underlying24 hval;obtain⟨fuel,hf⟩:=hd;obtain⟨d,h1,h2⟩:=sM hfz fuel _ _ hf;refine⟨d,?_⟩;obtain⟨k,n,t,l⟩:=d;simp only[Value.cells] at h1 h2;have h1':cs.size=4:=by simpa[D.v,V.cells] using h1
 refine .agg cs _ (by simp[h1']) (fun i hi=>?_) (fun i hi hj=>?_)
 ·have:=h2 i (by simpa using hi) (by simp[D.v,V.cells];omega);simpa using this.2
 ·have:=h2 i (by simpa using hi) (by simpa[D.v,V.cells] using hj);simpa[D.v,V.cells] using this.1
end
open Go.ChangeMaps Go.ChangeShapes Go.WideShapes Go.ChangeAt Go.RowKit
section
variable {W:World}{g:Gh}{P:Program}{enc:TypeId × Value→Unit}{spr:Nat→Bool}{held:Bool}
theorem qh {s:ByteArray}{l:List UInt8}(h:s.data.toList=l):s=⟨l.toArray⟩:=by
 subst h;cases s;rfl
theorem Ft {T e:TypeId}(hT:P.underlying T=some (.slice e)) (he:P.underlying e=some .string) (hc:P.cellsOf e=1) (hfz:∀b o,b<W.heap.size→g.fz b o)
  {fuel:Nat}{cs:List Value}{ls:List (List UInt8)}{sp:List (DataW Unit)}{p:List MemPlace}(h:DataW.trod enc P W 0 spr held fuel T cs=some (.slice (ls.map fun s=>.lit (.string s)) sp,p)) :
  ∃v,cs=[v]∧v.oneCell'=true∧Rep g W v (.sl (ls.map fun s=>.c (.string ⟨s.toArray⟩)) .any):=by
 rcases DataW.trod_slice hT h with⟨_,hx⟩|⟨a,len,cap,elems,rest,n,_,rfl,hx,_,hlc,_,hel,hget,_⟩
 ·simp at hx
 simp only[pI,DataW.slice.injEq] at hx;obtain⟨⟨hx,_⟩,_⟩:=hx;have hlen:ls.length=elems.length:=by
  have:=congrArg List.length hx;simpa using this
 rw[hc] at hget;refine⟨_,rfl,rfl,fK (z:=1) hfz (fun u hu=>?_) (by omega) (by rw[List.length_map,hlen,hel]) hlc fun i hi=>?_⟩
 ·obtain⟨s,_,rfl⟩:=List.mem_map.1 hu;rfl
 have hi':i<ls.length:=by simpa using hi
 have h1:=hget i (by omega);rw[gE (by omega)] at h1;simp only[bS] at h1;obtain⟨c,h2,h3⟩:=h1;obtain⟨s,rfl,h4,_⟩:=DataW.trod_string he h3;have h5:(ls.map fun s=>(DataW.lit (.string s):DataW Unit))[i]'(by simpa using hi')=(elems.map (·.1))[i]'(by simp;omega):=by simp only[hx]
 rw[List.getElem_map,List.getElem_map,h4] at h5;simp only[DataW.lit.injEq,Lit.string.injEq] at h5;have hs:=qh h5.symm;subst hs;rw[List.getElem_map];refine⟨_,h2,rfl,fun r h1 h2=>?_⟩;simp only[lC,List.length_nil] at h1;obtain rfl:r=0:=by omega
 exact⟨.c _,rfl⟩
theorem Dw {T e te ti:TypeId}{f0 f1:Field}(hT:P.underlying T=some (.slice e)) (he:P.underlying e=some (.struct #[f0,f1])) (hc:P.cellsOf e=2) (h0:f0.type=te) (h1:f1.type=ti) (o0:f0.offset=0) (o1:f1.offset=1)
  (hte:P.underlying te=some .string) (hti:P.underlying ti=some (.int .i64)) (c0:P.cellsOf te=1) (c1:P.cellsOf ti=1) (hfz:∀b o,b<W.heap.size→g.fz b o)
  {fuel:Nat}{cs:List Value}{ls:List (List UInt8 × Int)}{sp:List (DataW Unit)}{p:List MemPlace}(h:DataW.trod enc P W 0 spr held fuel T cs=some (.slice (ls.map fun s=>.agg [.lit (.string s.1),.lit (.int .i64 s.2)]) sp,p)) :
  ∃v,cs=[v]∧v.oneCell'=true∧Rep g W v (.sl (ls.map fun s=>.agg [.c (.string ⟨s.1.toArray⟩),.c (.int .i64 s.2)]) .any):=by
 rcases DataW.trod_slice hT h with⟨_,hx⟩|⟨a,len,cap,elems,rest,n,_,rfl,hx,_,hlc,_,hel,hget,_⟩
 ·simp at hx
 simp only[pI,DataW.slice.injEq] at hx;obtain⟨⟨hx,_⟩,_⟩:=hx;have hlen:ls.length=elems.length:=by
  have:=congrArg List.length hx;simpa using this
 rw[hc] at hget;refine⟨_,rfl,rfl,fK (z:=2) hfz (fun u hu=>?_) (by omega) (by rw[List.length_map,hlen,hel]) hlc fun i hi=>?_⟩
 ·obtain⟨s,_,rfl⟩:=List.mem_map.1 hu;rfl
 have hi':i<ls.length:=by simpa using hi
 have h1':=hget i (by omega);rw[gE (by omega)] at h1';simp only[bS] at h1';obtain⟨c,h2,h3⟩:=h1';obtain⟨xs,n',_,h4,hcl,hxl,hf⟩:=DataW.trod_struct he h3;rw[hc] at hcl;obtain⟨a0,a1,rfl⟩:∃a0 a1,c=[a0,a1]:=by
  match c,hcl with
  | [a0,a1],_=>exact⟨_,_,rfl⟩
 have k0:=hf 0 f0 rfl;have k1:=hf 1 f1 rfl;rw[h0,o0,c0] at k0;rw[h1,o1,c1] at k1;simp only[List.drop_zero,List.drop_succ_cons,List.take_succ_cons,List.take_zero] at k0 k1;have hxl:xs.length=2:=hxl;obtain⟨y0,y1,rfl⟩:∃y0 y1,xs=[y0,y1]:=by
  match xs,hxl with
  | [y0,y1],_=>exact⟨_,_,rfl⟩
 simp only[List.getElem?_cons_zero,List.getElem?_cons_succ] at k0 k1;obtain⟨s,e0,e1,_⟩:=DataW.trod_string hte k0;obtain⟨m,e2,e3,_⟩:=DataW.trod_int hti k1;simp only[cI,and_true] at e0 e2;subst e0 e2;have h5:(ls.map fun s=>(DataW.agg [.lit (.string s.1),.lit (.int .i64 s.2)]:DataW Unit))[i]'(by simpa using hi')=(elems.map (·.1))[i]'(by simp;omega):=by simp only[hx]
 rw[List.getElem_map,List.getElem_map,h4] at h5;simp only[e1,e3,List.map_cons,List.map_nil,DataW.agg.injEq,cI,DataW.lit.injEq,Lit.string.injEq,Lit.int.injEq,true_and,and_true] at h5;have hs:=qh h5.1.symm;have hm:=h5.2;subst hs;rw[List.getElem_map];refine⟨_,h2,rfl,fun r h1 h2=>?_⟩;simp only[lC,List.length_nil] at h1
 match r,h1 with
 | 0,_=>exact⟨.c _,rfl⟩
 | 1,_=>rw[← hm];exact⟨.c _,rfl⟩
theorem pZ {H:Type}{y:Lit × DataW H}:∀l:List (Lit × DataW H),y∈l.foldr DataW.insert []↔y∈l
 | []=>Iff.rfl
 | x::l=>by rw[List.foldr_cons,mem_insert_iff,pZ l,List.mem_cons]
theorem AO:∀{l:List MapEntry},l.Pairwise (fun a b=>a.key≠b.key)→∀e∈l,∀e'∈l,e.key=e'.key→e=e'
 | [],_,e,h,_,_,_=>by simp at h
 | a::l,hp,e,h,e',h',hk=>by
  rw[List.pairwise_cons] at hp;rcases List.mem_cons.1 h with h1|h1<;>rcases List.mem_cons.1 h' with h2|h2
  ·rw[h1,h2]
  ·subst h1;exact absurd hk (hp.1 _ h2)
  ·subst h2;exact absurd hk.symm (hp.1 _ h1)
  ·exact AO hp.2 _ h1 _ h2 hk
theorem jL {l:List MapEntry}:∀(wl:List (List UInt8 × Bool)),(∀p∈wl,∃e∈l,e.key=.string ⟨p.1.toArray⟩∧e.val=.bool p.2) →
  ∃l':List MapEntry,l'.map (·.key)=wl.map (fun p=>.string ⟨p.1.toArray⟩)∧l'.map (·.val)=wl.map (fun p=>.bool p.2)∧∀e∈l',e∈l
 | [],_=>⟨[],rfl,rfl,by simp⟩
 | p::wl,h=>by
  obtain⟨e,h1,h2,h3⟩:=h p (by simp);obtain⟨l',k1,k2,k3⟩:=jL wl fun p hp=>h p (by simp[hp])
  refine⟨e::l',by simp[h2,k1],by simp[h3,k2],fun x hx=>?_⟩;rcases List.mem_cons.1 hx with rfl|hx
  ·exact h1
  ·exact k3 x hx
theorem Dx {T k e:TypeId}(hT:P.underlying T=some (.map k e)) (hk:P.underlying k=some .string) (he:P.underlying e=some .bool) (K:WideMaps.KeyLaw P k)
  {fuel:Nat}{cs:List Value}{wl:List (List UInt8 × Bool)}(hwl:∀p∈wl,(ByteArray.mk p.1.toArray).size≤maxLen){p:List MemPlace}(h:DataW.trod enc P W 0 spr held fuel T cs=some (.map (wl.map fun p=>(.string p.1,.lit (.bool p.2))),p)) :
  ∃bm es ck,cs=[.map (some bm)]∧Ey W bm es ck∧es.toList.map (·.key)=wl.map (fun p=>.string ⟨p.1.toArray⟩)∧es.toList.map (·.val)=wl.map (fun p=>.bool p.2):=by
 rcases WideElems.open_map hT h with⟨_,hx⟩|⟨bm,es,clock,n,_,hcs,hb,_,F,hx⟩
 ·simp at hx
 simp only[pI,DataW.map.injEq] at hx;obtain⟨hx,_⟩:=hx;generalize hR:WideElems.elemAt enc P W 0 spr held n e=R at hx F;have hmem:∀y,y∈(wl.map fun p=>((.string p.1,.lit (.bool p.2)):Lit × DataW Unit))↔y∈es.toList.map (WideElems.rg P k R):=fun y=>by
  rw[hx,pZ]
 have hkv:∀(e:MapEntry) (p:List UInt8 × Bool),p∈wl→e∈es.toList→WideElems.rg P k R e=(.string p.1,.lit (.bool p.2))→e.key=.string ⟨p.1.toArray⟩∧e.val=.bool p.2:=by
  intro x p hp hx hr;obtain⟨y,hy⟩:=F.reads x hx;rw[WideElems.rg_of hy] at hr;subst hr;have h1:=WideElems.rd_key hy;obtain⟨z,h2,h3⟩:=WideElems.rd_val hy;rw[← hR] at h2;unfold WideElems.elemAt at h2;split at h2;rotate_left
  ·cases h2
  rename_i hform;obtain⟨b,e1,e2⟩:=DataW.trod_bool he h2;rw[e2] at h3;simp only[DataW.lit.injEq,Lit.bool.injEq] at h3;have h4:keyOf P k (.string ⟨p.1.toArray⟩)=some (.string p.1):=by
   have:=WideMaps.keyOf_string_mk (s:=⟨p.1.toArray⟩) hk (hwl p hp);simpa using this
  refine⟨K.inj h1 h4,?_⟩;rw[h3];have h6:∀v:Value,v.formed P e=true→v.cells.toList=[.bool b]→v=.bool b:=by
   intro v hv hcv;cases v with
   | agg cs0=>exact absurd hv (by simp[Value.formed,he])
   | bool b'=>simp[Value.cells] at hcv;rw[hcv]
   | _=>simp[Value.cells] at hcv
  exact h6 _ (by simpa using hform) e1
 have huniq:=AO ((MapKept.stamped_iff es clock).1 F.stamped).2.2;obtain⟨l',k1,k2,k3⟩:=jL (l:=es.toList) wl fun p hp=>by
  have:=(hmem (.string p.1,.lit (.bool p.2))).1 (List.mem_map.2 ⟨p,hp,rfl⟩);obtain⟨e,he,hr⟩:=List.mem_map.1 this;exact⟨e,he,hkv e p hp he hr⟩
 have hkeys:∀e∈l',∃s,e.key=.string s:=fun e he=>by
  have:e.key∈l'.map (·.key):=List.mem_map.2 ⟨e,he,rfl⟩;rw[k1] at this;obtain⟨p,_,hp⟩:=List.mem_map.1 this;exact⟨_,hp.symm⟩
 refine⟨bm,⟨l'⟩,clock,hcs,⟨es,hb,fun e=>⟨fun he=>?_,fun he=>k3 e he⟩,hkeys,fun e he e' he'=>huniq e (k3 e he) e' (k3 e' he')⟩,k1,k2⟩;have h1:WideElems.rg P k R e∈(wl.map fun p=>((.string p.1,.lit (.bool p.2)):Lit × DataW Unit)):=(hmem _).2 (List.mem_map.2 ⟨e,he,rfl⟩);obtain⟨p,hp,hr⟩:=List.mem_map.1 h1;obtain⟨h2,_⟩:=hkv e p hp he hr.symm;have h3:e.key∈l'.map (·.key):=by rw[k1,h2];exact List.mem_map.2 ⟨p,hp,rfl⟩
 obtain⟨e',he',hk'⟩:=List.mem_map.1 h3;have:=huniq e he e' (k3 e' he') hk'.symm;subst this;exact he'
end
open Go.ChangeMaps Go.ChangeShapes Go.WideShapes Go.ChangeAt Go.RowKit
section
variable {W:World}{g:Gh}{H:Type}{enc:TypeId × Value→H}{sp:Nat→Bool}{held:Bool}
theorem sF {t e:TypeId}(hT:Tryz.prog.underlying t=some (.slice e)) (he:Tryz.prog.underlying e=some .bool) (hc:Tryz.prog.cellsOf e=1){r:Reach}{b0:Nat}{v:Value}{dd:DataW H}{ps:List MemPlace}(hfz:∀b o,b<W.heap.size→g.fz b o) (hval:Value.okWide Tryz.prog W r b0 t v) (hd:DataW.Trod enc Tryz.prog W 0 sp held t v dd ps):∃l:List Bool,Rep g W v (.sl (bvs l) .any):=by
 obtain⟨a9,len9,cap9,rfl⟩:=okWide_slice hT hval;obtain⟨fuel,hf⟩:=hd;rcases DataW.trod_slice hT hf with⟨e3,_⟩|⟨a,len,cap,elems,rest,n',e4,e3,_,_,hlc,_,hel,hget,_⟩
 ·have e3':Value.slice a9 len9 cap9=.slice none 0 0:=by simpa[Value.cells] using e3
  rw[e3'];exact⟨[],.sl none 0 0 [] .any 1 (fun _=>undef) rfl (nL _) (by simp) (fun h=>absurd rfl h) (fun j hj=>by simp[aG] at hj) trivial⟩
 ·have e3':=e3;simp only[Value.cells] at e3';have e3'':Value.slice a9 len9 cap9=.slice (some a) len cap:=by simpa using e3'
  rw[e3''];rw[hc] at hget;have hex:∀i,i<len→∃d:Bool,∃cs,W.cells? 0 (a.add (i*1)) 1=some cs∧fj g W cs (V.c (.bool d)).cells:=by
   intro i hi;have:=hget i hi;rw[gE (by omega)] at this;simp only[bS] at this;obtain⟨cs,hcs,ht⟩:=this;obtain⟨b,rfl,_⟩:=DataW.trod_bool he ht;refine⟨b,_,hcs,rfl,fun r h1 h2=>?_⟩;simp only[lC,List.length_nil] at h1;obtain rfl:r=0:=by omega
   exact⟨.c _,rfl⟩
  have hl:∀m,m≤len→∃l:List Bool,l.length=m∧∀i (hi:i<l.length),∃cs,W.cells? 0 (a.add (i*1)) 1=some cs∧fj g W cs (V.c (.bool l[i])).cells:=by
   intro m
   induction m with
   | zero=>exact fun _=>⟨[],rfl,fun i hi=>by simp at hi⟩
   | succ m ihm =>
    intro hm;obtain⟨l,h1,h2⟩:=ihm (by omega);obtain⟨d,hd⟩:=hex m (by omega);refine⟨l++[d],by simp[h1],fun i hi=>?_⟩;rcases Nat.lt_or_ge i l.length with h3|h3
    ·rw[List.getElem_append_left h3];exact h2 i h3
    ·have hi':i=l.length:=by simp at hi;omega
     subst hi';rw[List.getElem_append_right (nL _)];simp only[Nat.sub_self,List.getElem_cons_zero];rw[h1];exact hd
  obtain⟨l,h1,h2⟩:=hl len (nL _);refine⟨l,fK (z:=1) hfz (fun u hu=>?_) (by omega) (by rw[cd,h1]) hlc (fun i hi=>?_)⟩
  ·obtain⟨d,_,rfl⟩:=List.mem_map.1 hu;rfl
  ·have hi':i<l.length:=by rw[cd] at hi;exact hi
   obtain⟨cs,k1,k2⟩:=h2 i hi';rw[n8];exact⟨cs,k1,k2⟩
theorem sD {t:TypeId}(hT:Tryz.prog.underlying t=some (.int .u8)){r:Reach}{b0:Nat}{v:Value}{dd:DataW H}{ps:List MemPlace}(hval:Value.okWide Tryz.prog W r b0 t v) (hd:DataW.Trod enc Tryz.prog W 0 sp held t v dd ps):∃n:Int,(0≤n∧n≤255)∧Rep g W v (.c (.int .u8 n)):=by
 obtain⟨n,rfl,_,_,hw⟩:=Go.ChangeShapes.open_int hT hval hd;refine⟨n,?_,.c _⟩;unfold Lit.wf at hw;simp at hw;have h1:IntKind.u8.min=0:=rfl;have h2:IntKind.u8.max=255:=rfl;omega
theorem yJ:Tryz.prog.cellsOf 4=1:=by kernel_rfl
theorem FJ {r:Reach}{b0:Nat}{v:Value}{dd:DataW H}{ps:List MemPlace}(hfz:∀b o,b<W.heap.size→g.fz b o) (hval:Value.okWide Tryz.prog W r b0 25 v) (hd:DataW.Trod enc Tryz.prog W 0 sp held 25 v dd ps):∃l:List Bool,Rep g W v (.sl (bvs l) .any) :=
 sF Tryz.underlying25 Tryz.underlying4 yJ hfz hval hd
theorem GC {r:Reach}{b0:Nat}{v:Value}{dd:DataW H}{ps:List MemPlace}(hfz:∀b o,b<W.heap.size→g.fz b o) (hval:Value.okWide Tryz.prog W r b0 5 v) (hd:DataW.Trod enc Tryz.prog W 0 sp held 5 v dd ps):∃n:{n:Int // 0≤n∧n≤255},Rep g W v (.c (.int .u8 n.1)):=by
 obtain⟨n,h1,h2⟩:=sD Tryz.underlying5 hval hd;exact⟨⟨n,h1⟩,h2⟩
end
end Go.Proofs.YtjhffhmokcogkaaGreatDoor.Ab
namespace Go.Proofs.YtjhffhmokcogkaaGreatDoor
open Go
open Go.ChangeMaps Go.ChangeShapes Go.WideShapes Go.ChangeAt Go.RowKit
theorem own:ownKnob Tryz.prog.godebug=none:=by kernel_rfl
theorem Cz:laidOutB Tryz.prog=true:=by kernel_rfl
theorem gSlows : Tryz.prog.globalNamed "pagoda/times.slows" = some 0 := by kernel_rfl
theorem gReserved : Tryz.prog.globalNamed "pagoda/node.reserved" = some 1 := by kernel_rfl
theorem gNames : Tryz.prog.globalNamed "pagoda/prim.names" = some 2 := by kernel_rfl
theorem tSlows:(Tryz.prog.globals[0]?).map (·.type)=some 67:=by kernel_rfl
theorem tReserved:(Tryz.prog.globals[1]?).map (·.type)=some 121:=by kernel_rfl
theorem tNames:(Tryz.prog.globals[2]?).map (·.type)=some 215:=by kernel_rfl
theorem u67:Tryz.prog.underlying 67=some (.slice 9):=by kernel_rfl
theorem H8:Tryz.prog.underlying 121=some (.map 9 4):=by kernel_rfl
theorem HP:Tryz.prog.underlying 215=some (.slice 216):=by kernel_rfl
theorem FB:∀{l:List Field},l.map (fun f=>(f.type,f.offset))=[(9,0),(3,1)]→∃f0 f1,l=[f0,f1]∧f0.type=9∧f1.type=3∧f0.offset=0∧f1.offset=1
 | [],h=>by simp at h
 | [_],h=>by simp at h
 | [f0,f1],h=>by
  simp only[List.map_cons,List.map_nil,List.cons.injEq,Prod.mk.injEq,and_true] at h;exact⟨f0,f1,rfl,h.1.1,h.2.1,h.1.2,h.2.2⟩
 | _::_::_::_,h=>by simp at h
noncomputable def iE:Option TypeDesc→Option (List Field)
 | some (.struct fs)=>some fs.toList
 | _=>none
theorem lV {o:Option TypeDesc}{l:List Field}(h:iE o=some l):o=some (.struct ⟨l⟩):=by
 unfold iE at h;split at h
 ·simp only[Option.some.injEq] at h;subst h;rfl
 ·cases h
theorem GD:(iE (Tryz.prog.underlying 216)).map (fun l=>l.map fun f=>(f.type,f.offset))=some [(9,0),(3,1)]:=by kernel_rfl
theorem Ic:∃f0 f1:Field,Tryz.prog.underlying 216=some (.struct #[f0,f1])∧f0.type=9∧f1.type=3∧f0.offset=0∧f1.offset=1:=by
 have h:=GD;generalize hu:Tryz.prog.underlying 216=o at h;cases hf:iE o with
 | none=>rw[hf] at h;cases h
 | some l =>
  rw[hf] at h;simp only[Option.map_some,Option.some.injEq] at h;obtain⟨f0,f1,rfl,r⟩:=FB h;exact⟨f0,f1,lV hf,r⟩
theorem HT:Tryz.prog.cellsOf 216=2:=by kernel_rfl
theorem u4:Tryz.prog.underlying 4=some .bool:=by kernel_rfl
theorem HI:WideMaps.KeyLaw Tryz.prog 9:=WideMaps.string_law Tryz.underlying9
def rR : List (String × DataW Unit) := [("pagoda/node.reserved", Rows.laid_pagoda_node_reserved), ("pagoda/prim.names", Rows.laid_pagoda_prim_names), ("pagoda/times.slows", Rows.laid_pagoda_times_slows)]
theorem Ai (os:Os) (args:Array Value):laidMetH Tryz.prog rR ((World.doorLaid Tryz.prog 400 os).forCall (fun _ _=>0) ⟨#[],args,[]⟩).memory :=
 laidMetH_of_parts3 (fuel:=8) (laidMet_of_run' 8 (by kernel_rfl) (by kernel_rfl)) (by kernel_rfl) (by kernel_rfl)
def slL:List (List UInt8):=[[110,97,109,101],[108,105,102,116],[115,105,102],[100,105,102],[115,108,101,116],[100,108,101,116],[100,112,114,105,109],[100,99,97,108,108]]
def rsL:List (List UInt8 × Bool):=[([99,97,108,108],true),([102,110],true),([105,102],true),([108,101,116],true),([113,117,111,116,101],true),([114,101,99],true),([115,101,113],true),([117,112],true)]
def nmL:List (List UInt8 × Int):=[([43],2),([45],2),([42],2),([113,117,111,116],2),([114,101,109],2),([60],2),([61],2),([99,111,110,115],2),([102,105,114,115,116],1),([114,101,115,116],1),([99,111,117,110,116],1),([108,105,115,116,63],1),([110,117,109,63],1),([115,121,109,63],1),([109,97,114,107],2),([115,116,111,112],1)]
theorem CH:Rows.laid_pagoda_times_slows (H:=Unit)=.slice (slL.map fun s=>.lit (.string s)) []:=rfl
theorem Dc:Rows.laid_pagoda_node_reserved (H:=Unit)=.map (rsL.map fun p=>(.string p.1,.lit (.bool p.2))):=rfl
theorem Bt:Rows.laid_pagoda_prim_names (H:=Unit)=.slice (nmL.map fun p=>.agg [.lit (.string p.1),.lit (.int .i64 p.2)]) []:=rfl
def old (W:World):Nat→Nat→Prop:=fun b _=>b<W.heap.size
theorem CF {W:World}(h:laidMetH Tryz.prog rR W) :
  (∃v,W.cell? ⟨0,0,none⟩=some v∧v.oneCell'=true∧Ab.Rep ⟨fun _=>none,fun _=>none,old W⟩ W v (.sl (slL.map fun s=>.c (.string ⟨s.toArray⟩)) .any)) ∧
  (∃bm es ck,W.cell? ⟨1,0,none⟩=some (.map (some bm))∧Ab.Ey W bm es ck∧es.toList.map (·.key)=rsL.map (fun p=>.string ⟨p.1.toArray⟩)∧es.toList.map (·.val)=rsL.map (fun p=>.bool p.2)) ∧
  (∃v,W.cell? ⟨2,0,none⟩=some v∧v.oneCell'=true∧Ab.Rep ⟨fun _=>none,fun _=>none,old W⟩ W v (.sl (nmL.map fun s=>.agg [.c (.string ⟨s.1.toArray⟩),.c (.int .i64 s.2)]) .any)):=by
 rw[MakeChecks.laidMetH_plain _ _ _ (by kernel_rfl)] at h;obtain⟨ps,⟨g0,t0,cs0,f0,p0,q0,hg0,ht0,hv0,hd0,⟨g1,t1,cs1,f1,p1,q1,hg1,ht1,hv1,hd1,⟨g2,t2,cs2,f2,p2,q2,hg2,ht2,hv2,hd2,_,_⟩,_⟩,_⟩,_,_⟩:=h;obtain rfl:=Option.some.inj (gReserved.symm.trans hg0);obtain rfl:=Option.some.inj (tReserved.symm.trans ht0);obtain rfl:=Option.some.inj (gNames.symm.trans hg1);obtain rfl:=Option.some.inj (tNames.symm.trans ht1);obtain rfl:=Option.some.inj (gSlows.symm.trans hg2);obtain rfl:=Option.some.inj (tSlows.symm.trans ht2);rw[Dc] at hd0;rw[Bt] at hd1;rw[CH] at hd2;obtain⟨a0,a1,e216,ta,tb,oa,ob⟩:=Ic;have hfz:∀b o,b<W.heap.size→(⟨fun _=>none,fun _=>none,old W⟩:Ab.Gh).fz b o:=fun b o hb=>hb
 obtain⟨v2,hc2,ho2,hr2⟩:=Ab.Ft (g:=⟨fun _=>none,fun _=>none,old W⟩) u67 Tryz.underlying9 Ab.Fa hfz hd2;obtain⟨v1,hc1,ho1,hr1⟩:=Ab.Dw (g:=⟨fun _=>none,fun _=>none,old W⟩) HP e216 HT ta tb oa ob Tryz.underlying9 Tryz.underlying3 Ab.Fa Ab.Ea hfz hd1;obtain⟨bm,es,ck,hc0,hm,hk,hv⟩:=Ab.Dx H8 Tryz.underlying9 u4 HI (by decide) hd0;have cell:∀{nm:String}{g:Nat}{cs:Array Value}{v:Value},Tryz.prog.globalNamed nm=some g→W.var? Tryz.prog nm=some cs→cs.toList=[v]→W.cell? ⟨g,0,none⟩=some v:=by
  intro nm g cs v hg hv hcs;have:=World.var?_cell hg hv 0;rw[Array.eq_one_of_toList hcs] at this;simpa using this
 exact⟨⟨v2,cell hg2 hv2 hc2,ho2,hr2⟩,⟨bm,es,ck,cell hg0 hv0 hc0,hm,hk,hv⟩,⟨v1,cell hg1 hv1 hc1,ho1,hr1⟩⟩
theorem sr {W:World}(h:laidMetH Tryz.prog rR W):Ab.GP ⟨fun _=>none,fun _=>none,old W⟩ W:=by
 obtain⟨⟨v0,k0,o0,r0⟩,⟨bm,es,ck,k1,hm,hk,hv⟩,⟨v2,k2,o2,r2⟩⟩:=CF h;have hsz:∀{b:Nat}{v:Value},W.cell? ⟨b,0,none⟩=some v→b<W.heap.size:=fun {b v} hc=>by
  unfold World.cell? at hc;cases hh:W.heap[b]? with
  | none=>simp[hh] at hc
  | some o=>exact (Array.getElem?_eq_some_iff.1 hh).1
 have one:∀{b:Nat}{v:Value}{u:Ab.V},W.cell? ⟨b,0,none⟩=some v→v.oneCell'=true→Ab.Rep ⟨fun _=>none,fun _=>none,old W⟩ W v u→Ab.Rep ⟨fun _=>none,fun _=>none,old W⟩ W (.pointer (some ⟨b,0,none⟩)) (.ptr [u] 0):=fun {b v u} hc ho hr=>by
  refine .ptr b 0 0 _ 0 (fun _=>v) rfl (fun j hj=>?_) fun j hj=>?_
  ·have:j=0:=by simp at hj;omega
   subst this;exact⟨hsz hc,hc,ho⟩
  ·have:j=0:=by simp at hj;omega
   subst this;exact hr
 intro n v hn;unfold Ab.gvs at hn;split at hn
 ·simp only[Option.some.injEq] at hn;subst hn;exact one k0 o0 r0
 ·simp only[Option.some.injEq] at hn;subst hn;have hbm:bm<W.heap.size:=by
   obtain⟨es0,h1,_⟩:=hm;exact (Array.getElem?_eq_some_iff.1 h1).1
  have hlen:es.size=8:=by
   have:=congrArg List.length hk;simpa[rsL] using this
  have hv2:∀(i:Nat) (hi:i<es.size) (hj:i<(rsL.map fun p=>(Ab.V.c (.bool p.2))).length),Ab.Rep ⟨fun _=>none,fun _=>none,old W⟩ W (es[i]'hi).val ((rsL.map fun p=>(Ab.V.c (.bool p.2)))[i]):=by
   intro i hi hj;have hj':i<rsL.length:=by simpa using hj
   have h1:(es.toList.map (·.val))[i]'(by simpa using hi)=(rsL.map fun p=>Value.bool p.2)[i]'(by simpa using hj'):=by simp only[hv]
   simp only[List.getElem_map,Array.getElem_toList] at h1;rw[List.getElem_map,h1];exact .c _
  refine one k1 rfl ?_;refine .fmp bm es ck _ _ hm hbm (by rw[hk];rfl) (by rw[hlen];rfl) fun i hi hj=>hv2 i hi hj
 ·simp only[Option.some.injEq] at hn;subst hn;exact one k2 o2 r2
 ·cases hn
theorem Ab.law_calls {f:Nat}{args:List Ab.V}{n:Nat}(hfr:f<Ab.rid) (h:Ab.call Ab.X Ab.E n f args []=some (.c (.bool true),[])){W:World}{cargs:Array Value}(hgl:Ab.GP ⟨fun _=>none,fun _=>none,old W⟩ W) (hl:cargs.size=args.length)
  (hr:∀i (hi:i<cargs.size) (hj:i<args.length),Ab.Rep ⟨fun _=>none,fun _=>none,old W⟩ W cargs[i] args[i]) :
  Calls Tryz.prog f cargs W (fun e W'=>e=.returned (.bool true)∧Below W.heap.size W W'):=by
 have H:Ab.HOk ⟨fun _=>none,fun _=>none,old W⟩ W []:=⟨(fun _ _ e=>by simp at e),(fun _ _ _ _ e=>by simp at e),(fun _ _ _ e=>by simp at e),(fun _ _ _ _ _ _ _ e=>by simp at e),(fun _ _ _ _ _ e=>by simp at e),⟨fun _ _ h=>h,hgl⟩⟩
 refine Calls.mono (((Ab.GF n _ _ _ _ _ h).1 hfr).2 _ W cargs H hl hr) ?_;rintro e W' ⟨v,g',rfl,hle,_,hrep,_⟩;have hv:v=.bool true:=hrep.of_c;subst hv;refine⟨rfl,⟨hle.os,hle.tape,hle.output,hle.size,fun b hb=>hle.kept b hb ?_⟩⟩;rintro (⟨id,e⟩|⟨k,l,c,e⟩)<;>simp at e
theorem CG {H:Type}{enc:TypeId × Value→H}{t:TypeId}(hr:Tryz.prog.readableRec t=true) (hrow:t<Tryz.prog.types.size){W W':World}{v:Value}{d:DataW H}{ps:List MemPlace}
  (h:DataW.Trod enc Tryz.prog W 0 (fun _=>true) true t v d ps) (hb:Below W.heap.size W W'):DataW.Trod enc Tryz.prog W' 0 (fun b=>decide (b<W.heap.size)) true t v d ps:=by
 refine hb.trod Cz hr hrow h fun x hx=>?_
 obtain⟨fuel,hf⟩:=h;exact DataW.trod_lt fuel _ _ _ hf x hx
end Go.Proofs.YtjhffhmokcogkaaGreatDoor
namespace Go.Proofs.YtjhffhmokcogkaaGreatDoor
open Go
open Go.ChangeMaps Go.ChangeShapes Go.WideShapes Go.ChangeAt Go.RowKit
set_option maxRecDepth 100000 in
theorem er (os:Os) (started:os.Started) (H:Type) (enc:TypeId × Value→H) :
  ReturnsInHanded {} Tryz.checked os 3 .any (fun w args=>(Rows.timesCongruentSpec.pre enc Tryz.prog Tryz.f3 [] false w args∧laidMetH Tryz.prog rR w)∧sizedMet enc Tryz.prog Tryz.f3 (OpenSpec.ofChange Rows.timesCongruentSpec) false w args)
   (Rows.timesCongruentSpec.post enc Tryz.prog Tryz.f3 false true false false):=by
 refine returnsInHanded_of_change_and (C:=Tryz.checked) (X:=fun w _=>laidMetH Tryz.prog rR w) (fun _ _ _ hh h=>h.of_heap hh) own started (by kernel_rfl) Tryz.func3
  (ChangeSpec.witness_shaped (enc:=enc) (C:=Tryz.checked) (os:=os) (X:=fun w _=>laidMetH Tryz.prog rR w) false (World.doorLaid Tryz.prog 400 os) #[.agg #[.int .i64 0,.int .i64 0,.string ⟨#[]⟩,.slice none 0 0],.slice none 0 0,.int .u8 0] 8 rfl (World.shaped_of_RefB (by kernel_rfl) (by kernel_rfl)) (by kernel_rfl) (by kernel_rfl) (by kernel_rfl) (Ai os _)) ?_
 intro W base args ds gs before hval0 hW _ _ hL _;have hval:∀(j:Nat) t v,Tryz.f3.params[j]?=some t→args[j]?=some v→Value.okWide Tryz.prog W .any base t v:=hval0;have hW':=hW;obtain⟨p,q,hA0,hV,rfl,hfz,hnd⟩:=hW;have hA:DataW.TrodAll enc Tryz.prog W 0 (fun _=>true) true Tryz.f3.params.toList args.toList ds p:=hA0;rw[Tryz.params3] at hA hval;obtain⟨v0,v1,v2,d0,d1,d2,p0,p1,p2,rfl,rfl,rfl,h0,h1,h2⟩:=trodAll_three hA;obtain⟨rfl,rfl⟩:=trodVars_none hV;obtain⟨x0,r0⟩:=Ab.DB (g:=⟨fun _=>none,fun _=>none,old W⟩) (fun _ _ h=>h) (hval 0 24 v0 rfl rfl) h0;obtain⟨x1,r1⟩:=Ab.FJ (g:=⟨fun _=>none,fun _=>none,old W⟩) (fun _ _ h=>h) (hval 1 25 v1 rfl rfl) h1;obtain⟨x2,r2⟩:=Ab.GC (g:=⟨fun _=>none,fun _=>none,old W⟩) (fun _ _ h=>h) (hval 2 5 v2 rfl rfl) h2;simp only[List.append_nil] at hW';refine (Ab.law_calls (n:=130003) (by decide) (args:=[x0.v,.sl (Ab.bvs x1) .any,.c (.int .u8 x2.1)]) (Ab.H5 x0 x1 x2) (W:=W) (cargs:=#[v0,v1,v2]) (sr hL) rfl (fun i hi hj=>by
  match i,hj with
  | 0,_=>exact r0
  | 1,_=>exact r1
  | 2,_=>exact r2)).mono fun e W' ⟨he,hB⟩=>?_
 subst he;exact⟨_,rfl,_,_,_,[],_,[],hW',trodAll_mk1 (shut_bool Tryz.underlying4 true),trodAll_mk3 (CG (by kernel_rfl) (by decide +kernel) h0 hB) (CG (by kernel_rfl) (by decide +kernel) h1 hB) (CG (by kernel_rfl) (by decide +kernel) h2 hB),rfl,hB.frame _,fun h=>by cases h⟩
theorem fH:Rows.TimesCongruentSaid :=
 OpenClaim.holds_of_wide 3 Tryz.f3 rfl rfl rfl rfl rfl rfl rfl ⟨rfl,rfl,rfl,rfl,rfl⟩ rfl rfl rfl rfl rfl (by kernel_rfl) Tryz.func3 (by kernel_rfl)
  (of_decide_eq_true (by kernel_rfl)) (by unfold Func.isWrapper;first|(rw[if_pos (by decide +kernel)];kernel_rfl)|(rw[if_neg (by decide +kernel)];exact⟨rfl,rfl⟩))
  (fun os started H enc _=>er os started H enc)
theorem timesCongruent_holds:Rows.TimesCongruentCardSaid :=
 Claim7.holds_tied_plain_at .later [] [.mapped, .data, .widerDeep] true (true, "48f77a1d60d6dad6b69001a43086d6576c7b647b61920e322346647034d40804") false
  fH (fun _ h=>by cases h) (by kernel_rfl) (fun _ h=>by cases h) timesCongruent_row_tie rfl ⟨rfl,rfl⟩ (by kernel_rfl) rfl
  (fun f fn hf hfn=>by
   obtain rfl : f = 3 := Option.some.inj ((show Tryz.prog.funcNamed "pagoda/pagodalaw20.TimesCongruent" = some 3 by kernel_rfl).symm.trans hf) |>.symm
   obtain rfl:fn=Tryz.f3:=(Option.some.inj (Tryz.func3.symm.trans hfn)).symm;exact⟨by kernel_rfl,fun j t ht=>by
    rw[Tryz.params3] at ht;have h3:t=24∨t=25∨t=5:=by
     match j,ht with
     | 0,ht=>exact .inl (by simpa using ht.symm)
     | 1,ht=>exact .inr (.inl (by simpa using ht.symm))
     | 2,ht=>exact .inr (.inr (by simpa using ht.symm))
     | j+3,ht=>simp at ht
    rcases h3 with rfl|rfl|rfl
    ·exact (show Tryz.prog.wantsStandIn 24=false by kernel_rfl)
    ·exact (show Tryz.prog.wantsStandIn 25=false by kernel_rfl)
    ·exact (show Tryz.prog.wantsStandIn 5=false by kernel_rfl)⟩)
  (by kernel_rfl)
end Go.Proofs.YtjhffhmokcogkaaGreatDoor
