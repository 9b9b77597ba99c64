/- A part. -/
import Derived.Test.YtjhffhmokcogkaaGreatDoorCc0
import Derived.MapKept
import Derived.Laws.MakeOwn
import Derived.Carry
import Derived.RangeFuncLeaves
import Derived.RangeFuncRecord
import Derived.TacticsIn
import Derived.OrdersIn
import Derived.Sort.LoopGhostIn
set_option linter.unusedVariables false
set_option linter.unusedSimpArgs false
set_option linter.defProp false
set_option maxRecDepth 20000
set_option maxHeartbeats 8000000
namespace Go.Proofs.YtjhffhmokcogkaaGreatDoor.Ab
open Go
def Quiet (E:Nat→Prop) (g:Gh) (h:List O) (g':Gh) (h':List O):Prop :=
 ∀id,¬E id→(g.blk id=none→g'.blk id=none)∧(g.tok id=none→g'.tok id=none)∧(g.blk id=none→g.tok id=none→h'[id]?=h[id]?)
theorem Quiet.refl (E:Nat→Prop) (g:Gh) (h:List O):Quiet E g h g h:=fun _ _=>⟨fun h=>h,fun h=>h,fun _ _=>rfl⟩
theorem Quiet.trans {E:Nat→Prop}{g g' g'':Gh}{h h' h'':List O}(a:Quiet E g h g' h') (b:Quiet E g' h' g'' h''):Quiet E g h g'' h'' :=
 fun id hid=>⟨fun e=>(b id hid).1 ((a id hid).1 e),fun e=>(b id hid).2.1 ((a id hid).2.1 e),fun e e'=>((b id hid).2.2 ((a id hid).1 e) ((a id hid).2.1 e')).trans ((a id hid).2.2 e e')⟩
theorem Quiet.mono {E E':Nat→Prop}{g g':Gh}{h h':List O}(a:Quiet E g h g' h') (hE:∀id,E id→E' id):Quiet E' g h g' h':=fun id hid=>a id fun e=>hid (hE id e)
def Frb (b:Nat) (h:List O):Nat→Prop:=fun id=>b≤id∨h[id]?=some .free
theorem Quiet.transF {b:Nat}{g g' g'':Gh}{w':World}{h h' h'':List O}(a:Quiet (Frb b h) g h g' h') (H:HOk g' w' h') (hb:∀id x,g.blk id=some x→∃y,g'.blk id=some y) (ht:∀id x,g.tok id=some x→∃y,g'.tok id=some y) (c:Quiet (Frb b h') g' h' g'' h''):Quiet (Frb b h) g h g'' h'':=by
 refine Quiet.trans a fun id hid=>c id ?_
 rintro (h1|h1)
 ·exact hid (.inl h1)
 ·refine hid (.inr ?_);cases e:g.blk id with
  | some x =>
   obtain⟨y,e1⟩:=hb _ _ e;rcases H.obj _ _ e1 with⟨cs,_,_,e2,_⟩|⟨s,L,e2,_⟩|⟨ks,vs,es,ck,e2,_⟩<;>rw[h1] at e2<;>simp at e2
  | none =>
   cases e':g.tok id with
   | some x =>
    obtain⟨⟨b',n',c'⟩,e1⟩:=ht _ _ e';obtain⟨z,cc,T,e2,_⟩:=H.tok _ _ _ _ e1;rcases e2 with e2|⟨cs,e2,_⟩<;>rw[h1] at e2<;>simp at e2
   | none=>rw[← (a id hid).2.2 e e'];exact h1
theorem Quiet.transL {b:Nat}{g g' g'':Gh}{w w':World}{h h' h'':List O}(a:Quiet (Frb b h) g h g' h') (H:HOk g' w' h') (hle:Le g w g' w') (c:Quiet (Frb b h') g' h' g'' h''):Quiet (Frb b h) g h g'' h'' :=
 a.transF H (fun id x e=>⟨x,hle.blk _ _ e⟩) (fun id x e=>by obtain⟨b,l,c⟩:=x;obtain⟨b',l',c',e',_⟩:=hle.tok _ _ _ _ e;exact⟨_,e'⟩) c
def Src (w:World) (A:Option Addr) (cs:List Value):Prop:=cs=[]∨∃a,A=some a∧∀j v,cs[j]?=some v→w.cell? (a.add j)=some v
section
variable {P:Program}{w:World}
theorem l5 {A:Option Addr}{n c size:Nat}{cs:List Value}(hl:cs.length=n*size) (h:Src w A cs):(Builtin.firstCells size n (.slice A n c)).run P w=.ok cs.toArray w:=by
 rcases h with rfl|⟨a,rfl,h⟩
 ·cases A with
  | none=>exact run_firstCells_none w size n n c
  | some a=>exact run_firstCells_some w size n a n c [] hl (by simp)
 ·exact run_firstCells_some w size n a n c cs hl h
theorem Src.drew {A:Option Addr}{cs:List Value}(h:Src w A cs):Src w.drew A cs:=by
 rcases h with h|⟨a,e,h⟩
 ·exact .inl h
 ·exact .inr ⟨a,e,fun j v hj=>by simpa using h j v hj⟩
theorem po {t u e e2 T ty:TypeId}{i:TypeInfo}(ht:P.underlying t=some (.slice e)) (hu:P.underlying u=some (.slice e2)) (hi:P.info? e=some i)
  {b n cap m c2:Nat}{cur:Array Value}(hb:w.heap[b]?=some (.cells cur T (0,0))){A:Option Addr}{news:List Value}(hl:news.length=m*i.size) (hs:Src w A news)
  (h1:∀v∈news,v.oneCell'=true) (hroom:n+m≤cap) (hfit:n*i.size+news.length≤cur.size) :
  (Builtin.append_ #[t,u] ty #[.slice (some ⟨b,0,none⟩) n cap,.slice A m c2]).run P w =
   .ok (.slice (some ⟨b,0,none⟩) (n+m) cap) (w.setRow b (cur.toList.take (n*i.size)++news++cur.toList.drop (n*i.size+news.length)).toArray):=by
 have hf:=l5 (P:=P) (c:=c2) hl hs;have hst:=run_storeCells_at P b (n*i.size) T news 0 cur w hb (by simpa using hfit) h1;simp only[Nat.add_zero] at hst;simp[Builtin.append_,run_underlying ht,run_underlying hu,sizeOf,typeInfo,hi,Builtin.lenOf,hroom,hf,Addr.add_lit,hst]
theorem gb {t u e e2 ty:TypeId}{i:TypeInfo}{z:Value}(ht:P.underlying t=some (.slice e)) (hu:P.underlying u=some (.slice e2)) (hi:P.info? e=some i) (hz:i.zero=some z)
  {n cap m c2:Nat}{B A:Option Addr}{olds news:List Value}(hlo:olds.length=n*i.size) (hso:Src w B olds) (hl:news.length=m*i.size) (hs:Src w A news)
  (hg:cap<n+m) (hbytes:(n+m)*i.bytes≤140737488355328) (h63:n+m≤9223372036854775807) :
  (Builtin.append_ #[t,u] ty #[.slice B n cap,.slice A m c2]).run P w =
   .ok (.slice (some ⟨w.heap.size,0,none⟩) (n+m) (grownCap w (n+m) cap e))
    (w.drew.alloc (.cells (olds++news++(Builtin.zeroCells z.cells (grownCap w (n+m) cap e-(n+m))).toList).toArray e)):=by
 have hn:¬(n+m≤cap):=by omega
 have h63':¬(9223372036854775807<((n:Int)+(m:Int))):=by omega
 have hfit:=growslice_fits hg hbytes;have h48':¬(281474976710656<Builtin.nextslicecap (n+m) cap*i.bytes):=by omega
 have hf:=l5 (P:=P) (w:=w.drew) (c:=c2) hl hs.drew;have hfo:=l5 (P:=P) (w:=w.drew) (c:=cap) hlo hso.drew;simp[Builtin.append_,run_underlying ht,run_underlying hu,sizeOf,typeInfo,zeroValue,hi,hz,Builtin.lenOf,hn,h63',h48',Question.forced,hf,hfo,newRow,grownCap];congr 2;apply Array.ext';simp[List.append_assoc]
theorem ql {t u e e2 ty:TypeId}{i:TypeInfo}(ht:P.underlying t=some (.slice e)) (hu:P.underlying u=some (.slice e2)) (hi:P.info? e=some i)
  {n cap c2:Nat}{B A:Option Addr}(hc:n≤cap) :
  (Builtin.append_ #[t,u] ty #[.slice B n cap,.slice A 0 c2]).run P w=.ok (.slice B n cap) w:=by
 have hf:=l5 (P:=P) (w:=w) (A:=A) (n:=0) (c:=c2) (size:=i.size) (cs:=[]) (by simp) (.inl rfl);cases B<;>simp[Builtin.append_,run_underlying ht,run_underlying hu,sizeOf,typeInfo,hi,Builtin.lenOf,hc,hf,storeCells]
end
section
variable {P:Program}{g:Gh}{w:World}{a:Act}{tm:List V}
theorem vg {A:Option Addr}{z:Nat}{cv:Nat→Value}{us:List V}(hzz:∀u∈us,u.cells.length=z)
  (hA:us≠[]→∃b o,A=some ⟨b,o,none⟩∧∀j,j<us.length*z→g.fz b (o+j)∧w.cell? ⟨b,o+j,none⟩=some (cv j)∧(cv j).oneCell'=true) :
  Src w A ((List.range (us.length*z)).map cv)∧∀v∈(List.range (us.length*z)).map cv,v.oneCell'=true:=by
 by_cases hne:us=[]
 ·subst hne;exact⟨.inl (by simp),by simp⟩
 ·obtain⟨b,o,e,hc⟩:=hA hne;refine⟨.inr ⟨_,e,fun j v hj=>?_⟩,fun v hv=>?_⟩
  ·rw[List.getElem?_map] at hj;obtain⟨k,hk,rfl⟩:=mS.1 hj;obtain⟨hlt,rfl⟩:=gS.1 hk;simp only[List.getElem_range] at *;simp only[List.length_range] at hlt;rw[Addr.add_lit];exact (hc j hlt).2.1
  ·obtain⟨j,hj,rfl⟩:=List.mem_map.1 hv;exact (hc j (List.mem_range.1 hj)).2.2
theorem oj {x:Value}{v:V}(h:Rep g w x v) (ho:x.oneCell'=true):v.cells=[v]:=by
 cases h with
 | agg xs cs hn h1 h=>simp[Value.oneCell'] at ho
 | _=>rfl
theorem iC {z:Option Nat}:∀{n:Nat}{cs us:List V},(∀c∈cs,c.cells=[c])→elems z n cs=some us →
  us.length=n∧(∀u∈us,u.cells.length=zc z)∧aG us=cs.take (n*zc z)∧n*zc z≤cs.length
 | 0,cs,us,hc,h=>by
  simp only[elems,sI] at h;subst h;simp[aG]
 | n+1,cs,us,hc,h=>by
  simp only[elems] at h;split at h
  ·rename_i u us' h1 h2;simp only[sI] at h;subst h;obtain⟨k1,k2,k3,k4⟩:=iC (fun c hm=>hc c (List.mem_of_mem_drop hm)) h2;have hu:u.cells.length=zc z∧zc z≤cs.length∧u.cells=cs.take (zc z):=by
    cases z with
    | none =>
     simp only[rdV] at h1;cases cs with
     | nil=>simp at h1
     | cons c r =>
      simp only[List.getElem?_cons_zero,sI] at h1;subst h1;have:=hc c (by simp);rw[this];simp[zc]
    | some k =>
     simp only[rdV] at h1;split at h1
     ·rename_i hk;simp only[sI] at h1;subst h1;refine⟨?_,?_,?_⟩
      ·simp only[V.cells,zc,List.drop_zero,List.length_take];omega
      ·simp only[zc];omega
      ·simp only[V.cells,zc,List.drop_zero]
     ·cases h1
   obtain⟨u1,u2,u3⟩:=hu;simp only[List.length_drop] at k4;refine⟨by simp[k1],fun v hv=>?_,?_,by rw[Nat.succ_mul];omega⟩
   ·rcases List.mem_cons.1 hv with rfl|hv
    ·exact u1
    ·exact k2 v hv
   ·have e:aG (u::us')=u.cells++aG us':=by simp[aG]
    rw[e,k3,u3,Nat.succ_mul,Nat.add_comm (n*zc z) (zc z),List.take_add]
  ·cases h
theorem A0 {h:List O}(H:HOk g w h){y:Value}{v:V}(hy:Rep g w y v){ws:List V}(hs:sK h v=some ws):∃(A:Option Addr) (cap z:Nat) (cv:Nat→Value),y=.slice A ws.length cap∧(∀u∈ws,u.cells.length=z) ∧
  Src w A ((List.range (ws.length*z)).map cv)∧(∀v∈(List.range (ws.length*z)).map cv,v.oneCell'=true)∧∀j (hj:j<(aG ws).length),Rep g w (cv j) (aG ws)[j]:=by
 unfold sK at hs;split at hs
 ·simp only[sI] at hs;subst hs;obtain⟨A2,cap2,z2,cw,hye,hcap2,hz2,hA2,hrw,hsj⟩:=hy.of_sl;obtain⟨sw,ow⟩:=vg hz2 hA2;exact⟨A2,cap2,z2,cw,hye,hz2,sw,ow,hrw⟩
 ·rename_i id off n z;split at hs
  ·rename_i cs hcs;cases hy with
   | row A _ cap _ _ _ hc hA =>
    by_cases hn:n=0
    ·subst hn;simp only[elems,sI] at hs;subst hs;exact⟨A,cap,0,fun _=>undef,rfl,by simp,.inl (by simp),by simp,fun j hj=>by simp[aG] at hj⟩
    ·obtain⟨b,rfl,hb⟩:=hA hn;obtain⟨cs0,c,T,h1,h2,h3,h4,h5⟩:=H.cellsOf hb hcs;have hcs0:cs0=cs:=by rw[hcs] at h1;simp at h1;exact h1.symm
     subst hcs0;have hone:∀u∈cs0,u.cells=[u]:=by
      intro u hu;obtain⟨j,hj,rfl⟩:=List.getElem_of_mem hu;have:=h4 j hj (by omega);exact oj this.1 this.2
     obtain⟨k1,k2,k3,k4⟩:=iC (fun u hu=>hone u (List.mem_of_mem_drop hu)) hs;simp only[List.length_drop] at k4;subst k1;have hj1:∀j,j<ws.length*zc z→off+j<cs0.length:=fun j hj=>by omega
     refine⟨_,cap,zc z,fun j=>c.getD (off+j) undef,rfl,k2,.inr ⟨_,rfl,fun j v hj=>?_⟩,fun v hv=>?_,fun j hj=>?_⟩
     ·rw[List.getElem?_map] at hj;obtain⟨k,hk,rfl⟩:=mS.1 hj;obtain⟨hlt,rfl⟩:=gS.1 hk;simp only[List.getElem_range] at *;simp only[List.length_range] at hlt;have:=hj1 j hlt;have hlt2:off+j<c.size:=by omega
      rw[Addr.add_lit,bW h2];simp[Array.getD,hlt2]
     ·obtain⟨j,hj,rfl⟩:=List.mem_map.1 hv;have:=hj1 j (List.mem_range.1 hj);have hlt2:off+j<c.size:=by omega
      have h6:=(h4 (off+j) this hlt2).2;simpa[Array.getD,hlt2] using h6
     ·have hj':j<ws.length*zc z:=by rw[aO k2] at hj;exact hj
      have:=hj1 j hj';have hlt2:off+j<c.size:=by omega
      have h6:=(h4 (off+j) this hlt2).1;have e:(aG ws)[j]=cs0[off+j]:=by
       have e1:(aG ws)[j]?=(cs0.drop off)[j]?:=by rw[k3,List.getElem?_take,if_pos hj']
       rw[List.getElem?_drop,gE hj,gE this] at e1;exact Option.some.inj e1
      rw[e];simpa[Array.getD,hlt2] using h6
  ·cases hs
 ·cases hs
theorem Ba {g':Gh}{w':World}(hle:Le g w g' w'){b z:Nat}{us ws:List V}{cu cw:Nat→Value}(hu:∀u∈us,u.cells.length=z) (hw:∀u∈ws,u.cells.length=z)
  (hru:∀j (hj:j<(aG us).length),Rep g w (cu j) (aG us)[j]) (hrw:∀j (hj:j<(aG ws).length),Rep g w (cw j) (aG ws)[j])
  (ou:∀v∈(List.range (us.length*z)).map cu,v.oneCell'=true) (ow:∀v∈(List.range (ws.length*z)).map cw,v.oneCell'=true)
  {cap:Nat}(hcap:us.length+ws.length≤cap)
  (hc:∀j v,(((List.range (us.length*z)).map cu)++((List.range (ws.length*z)).map cw))[j]?=some v→w'.cell? ⟨b,j,none⟩=some v)
  (hf:∀j,j<(us.length+ws.length)*z→g'.fz b j){i:SI}(hi:SIok g' (some ⟨b,0,none⟩) (us.length+ws.length) cap i) :
  Rep g' w' (.slice (some ⟨b,0,none⟩) (us.length+ws.length) cap) (.sl (us++ws) i):=by
 have hall:∀u∈us++ws,u.cells.length=z:=fun u h=>(List.mem_append.1 h).elim (hu u) (hw u)
 let cs:=((List.range (us.length*z)).map cu)++((List.range (ws.length*z)).map cw)
 have hcl:cs.length=(us.length+ws.length)*z:=by simp[cs,Nat.add_mul]
 have hget:∀j,j<(us.length+ws.length)*z→cs[j]?=some (cs.getD j undef):=fun j hj=>by
  rw[List.getD_eq_getElem?_getD,gE (by rw[hcl];exact hj)];rfl
 have hone:∀j,j<(us.length+ws.length)*z→(cs.getD j undef).oneCell'=true:=fun j hj=>by
  have hm:=List.mem_of_getElem? (hget j hj);rcases List.mem_append.1 hm with h1|h1
  ·exact ou _ h1
  ·exact ow _ h1
 refine .sl _ _ _ _ _ z (fun j=>cs.getD j undef) (by simp) hcap hall (fun _=>⟨b,0,rfl,fun j hj=>?_⟩) (fun j hj=>?_) hi
 ·rw[lA] at hj;rw[Nat.zero_add];exact⟨hf j hj,hc j _ (hget j hj),hone j hj⟩
 ·have hj':=hj;rw[aO hall,lA] at hj';have hlu:=aO hu;have hlw:=aO hw;show Rep g' w' (cs.getD j undef) _;obtain⟨q,hq⟩:∃q,q=(aG (us++ws))[j]:=⟨_,rfl⟩
  have e1:(aG (us++ws))[j]?=some q:=by rw[hq];exact gE hj
  rw[ew,List.getElem?_append,hlu] at e1;rw[← hq];have e2:=hget j hj';simp only[cs] at e2;rw[List.getElem?_append] at e2;simp only[List.length_map,List.length_range] at e2;by_cases c1:j<us.length*z
  ·simp only[c1,if_true] at e1 e2;rw[List.getElem?_map,List.getElem?_range c1] at e2;simp only[Option.map_some,sI] at e2;obtain⟨hlt,e3⟩:=gS.1 e1;rw[← e2,← e3];exact (hru j hlt).mono hle
  ·simp only[c1,if_false] at e1 e2;have c2:j-us.length*z<ws.length*z:=by rw[Nat.add_mul] at hj';omega
   rw[List.getElem?_map,List.getElem?_range c2] at e2;simp only[Option.map_some,sI] at e2;obtain⟨hlt,e3⟩:=gS.1 e1;rw[← e2,← e3];exact (hrw _ hlt).mono hle
end
def ActOk (P:Program) (g:Gh) (w:World) (a:Act) (o:Oper) (E:Nat→Prop) (h:List O) (v:V) (h':List O):Prop :=
 ∃val w' g',((execOp a.eval o).run P w=.ok (.value val) w'∨((execOp a.eval o).run P w=.ok .skip w'∧val=undef))∧Le g w g' w'∧HOk g' w' h'∧Rep g' w' val v∧Quiet E g h g' h'
theorem ActOk.mono {P:Program}{g:Gh}{w:World}{a:Act}{o:Oper}{E E':Nat→Prop}{h h':List O}{v:V}(k:ActOk P g w a o E h v h') (hE:∀id,E id→E' id):ActOk P g w a o E' h v h':=by
 obtain⟨val,w',g',h1,h2,h3,h4,h5⟩:=k;exact⟨val,w',g',h1,h2,h3,h4,h5.mono hE⟩
theorem dY (h:List O) (b d:Nat):bp h b d=d∨h[bp h b d]?=some .free:=by
 unfold bp;cases e:(List.range b).find? fun i=>pS h[i]? with
 | none=>exact .inl rfl
 | some i =>
  have:=List.find?_some e;simp only[Option.getD_some];cases e2:h[i]? with
  | none=>rw[e2] at this;simp[pS] at this
  | some o =>
   rw[e2] at this;cases o<;>simp[pS] at this
   exact .inr rfl
theorem HOk.free_none {g:Gh}{w:World}{h:List O}(H:HOk g w h){s:Nat}(e:h[s]?=some .free):g.blk s=none∧g.tok s=none:=by
 refine⟨?_,?_⟩
 ·cases e1:g.blk s with
  | none=>rfl
  | some b =>
   rcases H.obj _ _ e1 with⟨cs,_,_,e2,_⟩|⟨s,L,e2,_⟩|⟨ks,vs,es,ck,e2,_⟩<;>rw[e] at e2<;>simp at e2
 ·cases e1:g.tok s with
  | none=>rfl
  | some p =>
   obtain⟨b,n,c⟩:=p;obtain⟨z,cc,T,e2,_⟩:=H.tok _ _ _ _ e1;rcases e2 with e2|⟨cs,e2,_⟩<;>rw[e] at e2<;>simp at e2
section
variable {P:Program}{g:Gh}{w:World}{a:Act}
theorem PureOk.act {o:Oper}{v:V}(h:PureOk P g w a o v){hs:List O}(H:HOk g w hs) (E:Nat→Prop):ActOk P g w a o E hs v hs:=by
 obtain⟨r,h1,h2⟩:=h;exact⟨r,w,g,.inl h1,Le.refl _ _,H,h2,Quiet.refl _ _ _⟩
theorem sQ {o:Oper}{t u e e2:TypeId}{X Y:Operand}(ho:o.op=.call ⟨.builtin .append,#[X,Y],#[t,u]⟩) (hu1:P.underlying t=some (.slice e)) (hu2:P.underlying u=some (.slice e2)){i:TypeInfo}(hi:P.info? e=some i){zv:Value}(hz0:i.zero=some zv) (hzs:zv.cells.size=i.size){zn:Option Nat}(hzi:zc zn=i.size)
  {x' y':A}{al:Nat}{rw:Bool}{st:St}(hx:Rep g w (a.eval X) (ev st.tm x')){k n:Nat}{zz:Option Nat}(hex:ev st.tm x'=.tsl k n zz) (hy:Rep g w (a.eval Y) (ev st.tm y')) (H:HOk g w st.h){v:V}{h':List O}
  {cf:av}(hact:act cf st (.append al zn i.bytes rw x' y')=some (v,h')) :
  ActOk P g w a o (fun id=>id=st.rb+al) st.h v h':=by
 simp only[act] at hact;rw[hex] at hx hact;obtain⟨ws,hey⟩:∃ws,sK st.h (ev st.tm y')=some ws:=by
  cases hey:sK st.h (ev st.tm y') with
  | some ws=>exact⟨ws,rfl⟩
  | none=>rw[hey] at hact;simp at hact
 rw[hey,hzi] at hact;simp only at hact;split at hact;rotate_left
 ·cases hact
 rename_i hcond;obtain⟨_,rfl,hbytes,hmany,hzw⟩:=hcond;obtain⟨A2,cap2,z2,cw,hye,hz2,sw,ow,hrw⟩:=A0 H hy hey;have hx0:=hx;generalize hX:a.eval X=xv at hx;cases hx with
 | tsl A _ cap _ _ hcap hA hT =>
 rw[hX] at hx0;have hrun:∀r w',(Builtin.append_ #[t,u] o.type #[.slice A n cap,.slice A2 ws.length cap2]).run P w=.ok r w'→(execOp a.eval o).run P w=.ok (.value r) w':=by
  intro r w' hr;simp only[execOp,ho,resolve,invoke,builtin,Sem.run_bind,Sem.run_pure,Result.andThen_ok,List.map_toArray,List.map_cons,List.map_nil,hX,hye];rw[hr];rfl
 cases ws with
 | nil =>
  simp only[sI,pI] at hact;obtain⟨rfl,rfl⟩:=hact;exact⟨.slice A n cap,w,g,.inl (hrun _ _ (ql hu1 hu2 hi hcap)),Le.refl _ _,H,hx0,Quiet.refl _ _ _⟩
 | cons w0 wr =>
  have hz2':z2=i.size:=qp hzw hz2 (by simp);subst hz2';simp only at hact;split at hact;rotate_left
  ·cases hact
  rename_i m z1 cs hk;split at hact;rotate_left
  ·cases hact
  rename_i hmz;obtain⟨rfl,rfl⟩:=hmz;simp only[sI,pI] at hact;obtain⟨rfl,rfl⟩:=hact;obtain⟨b,l,c,hkt,hnl,hlat⟩:=hT;obtain⟨z0,c0,T0,h1,h2,h3,h4,h5⟩:=H.tok _ _ _ _ hkt;have hl0:(l=m∧z0=i.size)∧cs.length=m*i.size∧∀j (hj:j<cs.length) (hc:j<c0.size),Rep g w c0[j] cs[j]∧(c0[j]).oneCell'=true:=by
   rcases h1 with h1|⟨cs1,h1,h6,h7,h8⟩<;>rw[hk] at h1
   ·simp at h1
   ·simp only[sI,O.tokc.injEq] at h1;obtain⟨rfl,rfl,rfl⟩:=h1;exact⟨⟨rfl,rfl⟩,h6,h7⟩
  obtain⟨⟨rfl,rfl⟩,hcs,hrep⟩:=hl0;obtain⟨rfl,rfl⟩:=hlat rfl;have hbn:g.blk k=none:=by
   cases hbk:g.blk k with
   | none=>rfl
   | some b' =>
    exact absurd hk (H.not_tokc hbk)
  have hfw:=aO hz2;have hln:((List.range ((w0::wr).length*i.size)).map cw).length=(w0::wr).length*i.size:=by simp
  have hcl:cs.length≤c0.size:=by rw[hcs];exact Nat.le_trans (Nat.mul_le_mul_right _ h3) h4
  have hcsl:(cs++aG (w0::wr)).length=(l+(w0::wr).length)*i.size:=by rw[lA,hcs,hfw,Nat.add_mul]
  have hpos:0<(w0::wr).length:=by simp
  have cells:∀(c':List Value) (hpre:∀(j:Nat) (v:Value),(c0.toList.take (l*i.size)++(List.range ((w0::wr).length*i.size)).map cw)[j]?=some v→c'[j]?=some v),
    ∀j (hj:j<(cs++aG (w0::wr)).length) (hk:j<c'.toArray.size),Rep g w c'.toArray[j] (cs++aG (w0::wr))[j]∧(c'.toArray[j]).oneCell'=true:=by
   intro c' hpre j hj hk;have htl:(c0.toList.take (l*i.size)).length=l*i.size:=by simp;omega
   by_cases c1:j<cs.length
   ·have hj0:j<c0.size:=by omega
    have e1:(c0.toList.take (l*i.size)++(List.range ((w0::wr).length*i.size)).map cw)[j]?=some c0[j]:=by
     rw[aL (by omega),List.getElem?_take,if_pos (by omega)];simp[hj0]
    have e2:=hpre j _ e1;have e3:c'.toArray[j]=c0[j]:=by
     have:c'[j]?=some (c'.toArray[j]):=by simp
     rw[this] at e2;exact Option.some.inj e2
    rw[e3,List.getElem_append_left c1];exact hrep j c1 hj0
   ·have hjw:j-cs.length<(w0::wr).length*i.size:=by rw[lA,hfw] at hj;omega
    have e1:(c0.toList.take (l*i.size)++(List.range ((w0::wr).length*i.size)).map cw)[j]?=some (cw (j-cs.length)):=by
     rw[aR (by omega),htl,← hcs,List.getElem?_map,List.getElem?_range hjw];rfl
    have e2:=hpre j _ e1;have e3:c'.toArray[j]=cw (j-cs.length):=by
     have:c'[j]?=some (c'.toArray[j]):=by simp
     rw[this] at e2;exact Option.some.inj e2
    rw[e3,List.getElem_append_right (by omega)];exact⟨hrw _ _,ow _ (List.mem_map.2 ⟨_,List.mem_range.2 hjw,rfl⟩)⟩
  by_cases hroom:l+(w0::wr).length≤cap
  ·have hfit:l*i.size+((List.range ((w0::wr).length*i.size)).map cw).length≤c0.size:=by
    rw[hln,← Nat.add_mul];exact Nat.le_trans (Nat.mul_le_mul_right _ hroom) h4
   have hr:=po (P:=P) (w:=w) (ty:=o.type) (c2:=cap2) hu1 hu2 hi h2 hln sw ow hroom hfit;have hsz:(c0.toList.take (l*i.size)++((List.range ((w0::wr).length*i.size)).map cw)++c0.toList.drop (l*i.size+((List.range ((w0::wr).length*i.size)).map cw).length)).length=c0.size:=by
    simp only[lA,List.length_take,List.length_drop,Array.length_toList];omega
   obtain⟨hle,hok⟩:=H.growRowC hkt hk (n':=l+(w0::wr).length) (by omega) hroom h2 (c':=(c0.toList.take (l*i.size)++((List.range ((w0::wr).length*i.size)).map cw)++c0.toList.drop (l*i.size+((List.range ((w0::wr).length*i.size)).map cw).length)).toArray) (by simpa using hsz) hcsl
    (cells _ fun j v hj=>by rw[aL (gS.1 hj).1];exact hj)
   refine⟨_,_,_,.inl (hrun _ _ hr),hle,hok,.tsl _ _ _ _ _ hroom (fun _=>⟨_,rfl⟩) ⟨b,l+(w0::wr).length,_,by simp[Gh.setTok],nL _,fun _=>⟨rfl,rfl⟩⟩,fun id _=>?_⟩;refine⟨fun h=>h,fun h=>?_,fun hb ht=>?_⟩
   ·by_cases hid:id=k
    ·rw[hid,hkt] at h;cases h
    ·simp[Gh.setTok,hid,h]
   ·by_cases hid:id=k
    ·rw[hid,hkt] at ht;cases ht
    ·rw[sN (Ne.symm hid)]
  ·have hgc:cap<l+(w0::wr).length:=by omega
   have su:Src w (some ⟨b,0,none⟩) (c0.toList.take (l*i.size)):=by
    refine .inr ⟨_,rfl,fun j v hj=>?_⟩;rw[Addr.add_lit,Nat.zero_add,bW h2];rw[List.getElem?_take] at hj;split at hj
    ·simpa using hj
    ·cases hj
   have hlo:(c0.toList.take (l*i.size)).length=l*i.size:=by simp;omega
   have hr:=gb (P:=P) (w:=w) (ty:=o.type) (c2:=cap2) hu1 hu2 hi hz0 hlo su hln sw hgc hbytes (by omega);have hgcap:=grownCap_ge w (l+(w0::wr).length) cap e;obtain⟨hle,hok⟩:=H.newRowC (z:=i.size) (gS.1 hk).1 hbn (fun b' n' c' h=>by rw[hkt] at h;simp at h;omega) (Grew.drewAlloc w (.cells ((c0.toList.take (l*i.size))++((List.range ((w0::wr).length*i.size)).map cw)++(Builtin.zeroCells zv.cells (grownCap w (l+(w0::wr).length) cap e-(l+(w0::wr).length))).toList).toArray e)) hgcap
    (by simp only[List.size_toArray,lA,hlo,hln,Array.length_toList,size_zeroCells,hzs,← Nat.add_mul];exact Nat.mul_le_mul_right _ (by omega)) hcsl
    (cells _ fun j v hj=>by rw[aL (gS.1 hj).1];exact hj)
   refine⟨_,_,_,.inl (hrun _ _ hr),hle,hok,.tsl _ _ _ _ _ hgcap (fun _=>⟨_,rfl⟩) ⟨w.heap.size,l+(w0::wr).length,_,by simp[Gh.setTok],nL _,fun _=>⟨rfl,rfl⟩⟩,fun id _=>?_⟩;refine⟨fun h=>h,fun h=>?_,fun hb ht=>?_⟩
   ·by_cases hid:id=k
    ·rw[hid,hkt] at h;cases h
    ·simp[Gh.setTok,hid,h]
   ·by_cases hid:id=k
    ·rw[hid,hkt] at ht;cases ht
    ·rw[sN (Ne.symm hid)]
theorem ut {o:Oper}{args:Array Operand}{t u:TypeId}{X Y:Operand}(ho:o.op=.call ⟨.builtin .append,#[X,Y],#[t,u]⟩){al:Nat}{x:XOp}{pre:List O}{rw:Bool}(htr:lh P rw al t u X Y=some (x,pre))
  {st:St}(ht:Tm g w a st.tm) (H:HOk g w st.h){cf:av}{v:V}{h':List O}(hact:act cf st x=some (v,h')) (hsl:g.blk (st.rb+al)=none∧g.tok (st.rb+al)=none) :
  ActOk P g w a o (fun id=>id=st.rb+al∨st.h[id]?=some .free) st.h v h':=by
 unfold lh at htr;split at htr
 ·rename_i e e2 x' y' hu1 hu2 hx' hy';split at htr
  ·rename_i i zz zn hi hzz hzn;split at htr;rotate_left
   ·cases htr
   rename_i hzi;simp only[sI,pI] at htr;obtain⟨rfl,rfl⟩:=htr;obtain⟨zv,i',hi',hz0,hzs,_,_⟩:=gQ (P:=P) (g:=g) (w:=w) hzz;have hii:i'=i:=by rw[hi] at hi';exact (Option.some.inj hi').symm
   subst hii;have hx:=aN ht hx';have hy:=aN ht hy';have hact0:=hact;simp only[act] at hact;obtain⟨us,si,hex⟩|⟨k,n,zz',hex⟩:(∃us si,ev st.tm x'=.sl us si)∨∃k n zz',ev st.tm x'=.tsl k n zz':=by
    cases hex:ev st.tm x' with
    | sl us si=>exact .inl ⟨us,si,rfl⟩
    | tsl k n zz'=>exact .inr ⟨k,n,zz',rfl⟩
    | _=>rw[hex] at hact;simp at hact
   rotate_left
   ·exact (sQ ho hu1 hu2 hi hz0 hzs hzi hx hex hy H hact0).mono fun _ h=>.inl h
   obtain⟨ws,hey⟩:∃ws,sK st.h (ev st.tm y')=some ws:=by
    cases hey:sK st.h (ev st.tm y') with
    | some ws=>exact⟨ws,rfl⟩
    | none=>rw[hex,hey] at hact;simp at hact
   ·rw[hex] at hx hact;rw[hey,hzi] at hact;simp only at hact;split at hact
    ·rename_i hcond;obtain⟨hbytes,hmany,hzu,hzw⟩:=hcond;obtain⟨A,cap,z1,cu,hxe,hcap,hz1,hA,hru,hsi⟩:=hx.of_sl;obtain⟨A2,cap2,z2,cw,hye,hz2,sw,ow,hrw⟩:=A0 H hy hey;have hrun:∀r w',(Builtin.append_ #[t,u] o.type #[.slice A us.length cap,.slice A2 ws.length cap2]).run P w=.ok r w'→(execOp a.eval o).run P w=.ok (.value r) w':=by
      intro r w' hr;simp only[execOp,ho,resolve,invoke,builtin,Sem.run_bind,Sem.run_pure,Result.andThen_ok,List.map_toArray,List.map_cons,List.map_nil,hxe,hye];rw[hr];rfl
     cases ws with
     | nil =>
      simp only[sI,pI] at hact;obtain⟨rfl,rfl⟩:=hact;refine⟨.slice A us.length cap,w,g,.inl (hrun _ _ (ql hu1 hu2 hi hcap)),Le.refl _ _,H,?_,Quiet.refl _ _ _⟩;rw[← hxe];exact hx
     | cons w0 wr =>
      have hz2':z2=i'.size:=qp hzw hz2 (by simp);subst hz2';obtain⟨hz1',hA'⟩:(∀q∈us,q.cells.length=i'.size)∧(us≠[]→∃b o,A=some ⟨b,o,none⟩∧∀j,j<us.length*i'.size→g.fz b (o+j)∧w.cell? ⟨b,o+j,none⟩=some (cu j)∧(cu j).oneCell'=true):=by
       by_cases hne:us=[]
       ·subst hne;exact⟨by simp,fun h=>absurd rfl h⟩
       ·have:=qp hzu hz1 hne;subst this;exact⟨hz1,hA⟩
      obtain⟨su,ou⟩:=vg hz1' hA';have hlo:((List.range (us.length*i'.size)).map cu).length=us.length*i'.size:=by simp
      have hln:((List.range ((w0::wr).length*i'.size)).map cw).length=(w0::wr).length*i'.size:=by simp
      have grows:cap<us.length+(w0::wr).length→∀(k:Nat) (hk:k<st.h.length) (hbk:g.blk k=none) (hold:∀b' n' c',g.tok k=some (b',n',c')→n'<us.length+(w0::wr).length),
        ∃val w' g',(execOp a.eval o).run P w=.ok (.value val) w'∧Le g w g' w'∧HOk g' w' (st.h.set k (.tok (us.length+(w0::wr).length) i'.size))∧Rep g' w' val (.sl (us++(w0::wr)) (.tok k))∧Quiet (fun id=>id=k) g st.h g' (st.h.set k (.tok (us.length+(w0::wr).length) i'.size)):=by
       intro hgc k hk hbk hold;have hr:=gb (P:=P) (w:=w) (ty:=o.type) (c2:=cap2) hu1 hu2 hi hz0 hlo su hln sw hgc hbytes (by omega);have hgcap:=grownCap_ge w (us.length+(w0::wr).length) cap e;obtain⟨hle,hok⟩:=H.newRow (z:=i'.size) hk hbk hold (Grew.drewAlloc w (.cells (((List.range (us.length*i'.size)).map cu)++((List.range ((w0::wr).length*i'.size)).map cw)++(Builtin.zeroCells zv.cells (grownCap w (us.length+(w0::wr).length) cap e-(us.length+(w0::wr).length))).toList).toArray e)) hgcap
        (by simp only[List.size_toArray,lA,hlo,hln,Array.length_toList,size_zeroCells,hzs,← Nat.add_mul];exact Nat.mul_le_mul_right _ (by omega))
       refine⟨_,_,_,hrun _ _ hr,hle,hok,?_,?_⟩
       ·refine Ba hle hz1' hz2 hru hrw ou ow hgcap (fun j v hj=>?_) (fun j hj=>.inr ⟨rfl,hj⟩) ⟨w.heap.size,us.length+(w0::wr).length,_,by simp[Gh.setTok],nL _,fun _=>⟨rfl,rfl⟩⟩;rw[bW (Grew.new (Grew.drewAlloc w _))];rw[List.getElem?_toArray,aL]
        ·exact hj
        ·exact (gS.1 hj).1
       ·intro id hid;exact⟨fun h=>h,fun h=>by simp[Gh.setTok,hid,h],fun _ _=>by rw[sN (Ne.symm hid)]⟩
      have fresh:∀b,cap<us.length+(w0::wr).length→st.h[st.rb+al]?=some b→some (V.sl (us++(w0::wr)) (.tok (st.rb+al)),st.h.set (st.rb+al) (.tok (us.length+(w0::wr).length) i'.size))=some (v,h') →
        ActOk P g w a o (fun id=>id=st.rb+al∨st.h[id]?=some .free) st.h v h':=by
       intro b hgc hdead hact;simp only[sI,pI] at hact;obtain⟨rfl,rfl⟩:=hact;obtain⟨val,w',g',q1,q2,q3,q4,q5⟩:=grows hgc (st.rb+al) (gS.1 hdead).1 hsl.1 (fun b' n' c' h=>by rw[hsl.2] at h;cases h);exact⟨val,w',g',.inl q1,q2,q3,q4,q5.mono fun _ h=>.inl h⟩
      have freshW:cap<us.length+(w0::wr).length→st.h[st.rb+al]?=some .want→some (V.sl (us++(w0::wr)) (.tok (bp st.h st.base (st.rb+al))),st.h.set (bp st.h st.base (st.rb+al)) (.tok (us.length+(w0::wr).length) i'.size))=some (v,h') →
        ActOk P g w a o (fun id=>id=st.rb+al∨st.h[id]?=some .free) st.h v h':=by
       intro hgc hwant hact;simp only[sI,pI] at hact;obtain⟨rfl,rfl⟩:=hact;rcases dY st.h st.base (st.rb+al) with hs|hs
       ·rw[hs];obtain⟨val,w',g',q1,q2,q3,q4,q5⟩:=grows hgc (st.rb+al) (gS.1 hwant).1 hsl.1 (fun b' n' c' h=>by rw[hsl.2] at h;cases h);exact⟨val,w',g',.inl q1,q2,q3,q4,q5.mono fun _ h=>.inl h⟩
       ·obtain⟨n1,n2⟩:=H.free_none hs;obtain⟨val,w',g',q1,q2,q3,q4,q5⟩:=grows hgc _ (gS.1 hs).1 n1 (fun b' n' c' h=>by rw[n2] at h;cases h);exact⟨val,w',g',.inl q1,q2,q3,q4,q5.mono fun id h=>.inr (by rw[h];exact hs)⟩
      have freshR:∀b,cap<us.length+(w0::wr).length→st.h[st.rb+al]?=some b→some (V.row (st.rb+al) 0 (us.length+(w0::wr).length) zn,st.h.set (st.rb+al) (.cells (aG (us++(w0::wr)))))=some (v,h') →
        ActOk P g w a o (fun id=>id=st.rb+al∨st.h[id]?=some .free) st.h v h':=by
       intro b hgc hdead hact;simp only[sI,pI] at hact;obtain⟨rfl,rfl⟩:=hact;have hr:=gb (P:=P) (w:=w) (ty:=o.type) (c2:=cap2) hu1 hu2 hi hz0 hlo su hln sw hgc hbytes (by omega);have hgcap:=grownCap_ge w (us.length+(w0::wr).length) cap e;have hfl:(aG (us++(w0::wr))).length=(us.length+(w0::wr).length)*i'.size:=by
        rw[aO (z:=i'.size) fun q hq=>(List.mem_append.1 hq).elim (hz1' q) (hz2 q),lA]
       have hfu:=aO hz1';have hfw:=aO hz2;obtain⟨hle,hok⟩:=H.newCells (gS.1 hdead).1 hsl.1 hsl.2 (cs:=aG (us++(w0::wr))) (Grew.drewAlloc w (.cells (((List.range (us.length*i'.size)).map cu)++((List.range ((w0::wr).length*i'.size)).map cw)++(Builtin.zeroCells zv.cells (grownCap w (us.length+(w0::wr).length) cap e-(us.length+(w0::wr).length))).toList).toArray e))
        (by rw[hfl];simp only[List.size_toArray,lA,hlo,hln,Array.length_toList,size_zeroCells,hzs,← Nat.add_mul];exact Nat.mul_le_mul_right _ (by omega))
        (fun j hj hk=>by
         rw[hfl,Nat.add_mul] at hj;obtain⟨q,hq⟩:∃q,q=(aG (us++(w0::wr)))[j]'(by rw[hfl,Nat.add_mul];exact hj):=⟨_,rfl⟩
         have e1:(aG (us++(w0::wr)))[j]?=some q:=by rw[hq];exact gE _
         rw[← hq];rw[List.getElem_toArray];obtain⟨p,hp⟩:∃p,p=(((List.range (us.length*i'.size)).map cu)++((List.range ((w0::wr).length*i'.size)).map cw)++(Builtin.zeroCells zv.cells (grownCap w (us.length+(w0::wr).length) cap e-(us.length+(w0::wr).length))).toList)[j]'(by simpa using hk):=⟨_,rfl⟩
         have e2:(((List.range (us.length*i'.size)).map cu)++((List.range ((w0::wr).length*i'.size)).map cw)++(Builtin.zeroCells zv.cells (grownCap w (us.length+(w0::wr).length) cap e-(us.length+(w0::wr).length))).toList)[j]?=some p:=by rw[hp];exact gE _
         rw[← hp];rw[aL (by simp only[lA,hlo,hln];exact hj),List.getElem?_append,hlo] at e2;rw[ew,List.getElem?_append,hfu] at e1;by_cases c1:j<us.length*i'.size
         ·simp only[c1,if_true] at e1 e2;have hm:=ou _ (List.mem_of_getElem? e2);rw[List.getElem?_map,List.getElem?_range c1] at e2;simp only[Option.map_some,sI] at e2;obtain⟨hlt,e3⟩:=gS.1 e1;rw[← e3];exact⟨by rw[← e2];exact hru j hlt,hm⟩
         ·simp only[c1,if_false] at e1 e2;have hm:=ow _ (List.mem_of_getElem? e2);rw[List.getElem?_map,List.getElem?_range (by omega)] at e2;simp only[Option.map_some,sI] at e2;obtain⟨hlt,e3⟩:=gS.1 e1;rw[← e3];exact⟨by rw[← e2];exact hrw _ hlt,hm⟩)
       refine⟨_,_,_,.inl (hrun _ _ hr),hle,hok,.row _ _ _ _ _ _ hgcap fun _=>⟨w.heap.size,rfl,by simp[Gh.setBlk]⟩,Quiet.mono (E:=fun id=>id=st.rb+al) (fun id hid=>?_) fun _ h=>.inl h⟩;exact⟨fun h=>by simp[Gh.setBlk,hid,h],fun h=>h,fun _ _=>by rw[sN (Ne.symm hid)]⟩
      have freshC:∀b,cap<us.length+(w0::wr).length→st.h[st.rb+al]?=some b→some (V.tsl (st.rb+al) (us.length+(w0::wr).length) zn,st.h.set (st.rb+al) (.tokc (us.length+(w0::wr).length) i'.size (aG (us++(w0::wr)))))=some (v,h') →
        ActOk P g w a o (fun id=>id=st.rb+al∨st.h[id]?=some .free) st.h v h':=by
       intro b hgc hdead hact;simp only[sI,pI] at hact;obtain⟨rfl,rfl⟩:=hact;have hr:=gb (P:=P) (w:=w) (ty:=o.type) (c2:=cap2) hu1 hu2 hi hz0 hlo su hln sw hgc hbytes (by omega);have hgcap:=grownCap_ge w (us.length+(w0::wr).length) cap e;have hfl:(aG (us++(w0::wr))).length=(us.length+(w0::wr).length)*i'.size:=by
        rw[aO (z:=i'.size) fun q hq=>(List.mem_append.1 hq).elim (hz1' q) (hz2 q),lA]
       have hfu:=aO hz1';have hfw:=aO hz2;obtain⟨hle,hok⟩:=H.newRowC (z:=i'.size) (gS.1 hdead).1 hsl.1 (fun b' n' c' h=>by rw[hsl.2] at h;cases h) (Grew.drewAlloc w (.cells (((List.range (us.length*i'.size)).map cu)++((List.range ((w0::wr).length*i'.size)).map cw)++(Builtin.zeroCells zv.cells (grownCap w (us.length+(w0::wr).length) cap e-(us.length+(w0::wr).length))).toList).toArray e))
        hgcap (by simp only[List.size_toArray,lA,hlo,hln,Array.length_toList,size_zeroCells,hzs,← Nat.add_mul];exact Nat.mul_le_mul_right _ (by omega))
        hfl (fun j hj hk=>by
         rw[hfl,Nat.add_mul] at hj;obtain⟨q,hq⟩:∃q,q=(aG (us++(w0::wr)))[j]'(by rw[hfl,Nat.add_mul];exact hj):=⟨_,rfl⟩
         have e1:(aG (us++(w0::wr)))[j]?=some q:=by rw[hq];exact gE _
         rw[← hq];rw[List.getElem_toArray];obtain⟨p,hp⟩:∃p,p=(((List.range (us.length*i'.size)).map cu)++((List.range ((w0::wr).length*i'.size)).map cw)++(Builtin.zeroCells zv.cells (grownCap w (us.length+(w0::wr).length) cap e-(us.length+(w0::wr).length))).toList)[j]'(by simpa using hk):=⟨_,rfl⟩
         have e2:(((List.range (us.length*i'.size)).map cu)++((List.range ((w0::wr).length*i'.size)).map cw)++(Builtin.zeroCells zv.cells (grownCap w (us.length+(w0::wr).length) cap e-(us.length+(w0::wr).length))).toList)[j]?=some p:=by rw[hp];exact gE _
         rw[← hp];rw[aL (by simp only[lA,hlo,hln];exact hj),List.getElem?_append,hlo] at e2;rw[ew,List.getElem?_append,hfu] at e1;by_cases c1:j<us.length*i'.size
         ·simp only[c1,if_true] at e1 e2;have hm:=ou _ (List.mem_of_getElem? e2);rw[List.getElem?_map,List.getElem?_range c1] at e2;simp only[Option.map_some,sI] at e2;obtain⟨hlt,e3⟩:=gS.1 e1;rw[← e3];exact⟨by rw[← e2];exact hru j hlt,hm⟩
         ·simp only[c1,if_false] at e1 e2;have hm:=ow _ (List.mem_of_getElem? e2);rw[List.getElem?_map,List.getElem?_range (by omega)] at e2;simp only[Option.map_some,sI] at e2;obtain⟨hlt,e3⟩:=gS.1 e1;rw[← e3];exact⟨by rw[← e2];exact hrw _ hlt,hm⟩)
       refine⟨_,_,_,.inl (hrun _ _ hr),hle,hok,.tsl _ _ _ _ _ hgcap (fun _=>⟨_,rfl⟩) ⟨w.heap.size,us.length+(w0::wr).length,_,by simp[Gh.setTok],nL _,fun _=>⟨rfl,rfl⟩⟩,Quiet.mono (E:=fun id=>id=st.rb+al) (fun id hid=>?_) fun _ h=>.inl h⟩;exact⟨fun h=>h,fun h=>by simp[Gh.setTok,hid,h],fun _ _=>by rw[sN (Ne.symm hid)]⟩
      have hpos:0<(w0::wr).length:=by simp
      cases si with
      | any=>simp at hact
      | isn=>simp at hact
      | nz=>simp at hact
      | nil =>
       simp only at hact;split at hact
       ·rename_i hdead;split at hact
        ·exact freshC _ (by have h0:cap=0:=hsi.2;omega) hdead hact
        ·exact fresh _ (by have h0:cap=0:=hsi.2;omega) hdead hact
       ·rename_i hwant;split at hact
        ·cases hact
        ·exact freshW (by have h0:cap=0:=hsi.2;omega) hwant hact
       ·cases hact
      | full =>
       simp only at hact;split at hact
       ·rename_i hdead;split at hact
        ·split at hact
         ·exact freshR _ (by have h0:cap=([]:List V).length:=hsi;simp only[List.length_nil] at *;omega) hdead hact
         ·exact freshC _ (by have h0:cap=_:=hsi;omega) hdead hact
        ·exact fresh _ (by have h0:cap=us.length:=hsi;omega) hdead hact
       ·rename_i hwant;split at hact
        ·cases hact
        ·exact freshW (by have h0:cap=us.length:=hsi;omega) hwant hact
       ·cases hact
      | tok k =>
       simp only at hact;split at hact
       ·rename_i n z' hk;split at hact
        ·rename_i hnz;obtain⟨rfl,rfl⟩:=hnz;simp only[sI,pI] at hact;obtain⟨rfl,rfl⟩:=hact;obtain⟨b,l,c,hkt,hnl,hlat⟩:=hsi;obtain⟨z0,c0,T0,h1,h2,h3,h4,h5⟩:=H.tok _ _ _ _ hkt;have hl0:l=us.length∧z0=i'.size:=⟨(h1.tok hk).1.symm,(h1.tok hk).2.symm⟩
         obtain⟨rfl,rfl⟩:=hl0;obtain⟨rfl,rfl⟩:=hlat rfl;have hbn:g.blk k=none:=by
          cases hbk:g.blk k with
          | none=>rfl
          | some b' =>
           exact absurd hk (H.not_tok hbk)
         by_cases hroom:us.length+(w0::wr).length≤cap
         ·have hfit:us.length*i'.size+((List.range ((w0::wr).length*i'.size)).map cw).length≤c0.size:=by
           rw[hln,← Nat.add_mul];exact Nat.le_trans (Nat.mul_le_mul_right _ hroom) h4
          have hr:=po (P:=P) (w:=w) (ty:=o.type) (c2:=cap2) hu1 hu2 hi h2 hln sw ow hroom hfit;have hsz:(c0.toList.take (us.length*i'.size)++((List.range ((w0::wr).length*i'.size)).map cw)++c0.toList.drop (us.length*i'.size+((List.range ((w0::wr).length*i'.size)).map cw).length)).length=c0.size:=by
           simp only[lA,List.length_take,List.length_drop,Array.length_toList];omega
          have hold:∀j,j<us.length*i'.size→(c0.toList.take (us.length*i'.size)++((List.range ((w0::wr).length*i'.size)).map cw)++c0.toList.drop (us.length*i'.size+((List.range ((w0::wr).length*i'.size)).map cw).length)).toArray[j]?=c0[j]?:=by
           intro j hj;rw[List.getElem?_toArray,List.append_assoc,aL (by simp;omega),List.getElem?_take,if_pos hj];simp
          obtain⟨hle,hok⟩:=H.growRow hkt hk (n':=us.length+(w0::wr).length) (by omega) hroom h2 (c':=(c0.toList.take (us.length*i'.size)++((List.range ((w0::wr).length*i'.size)).map cw)++c0.toList.drop (us.length*i'.size+((List.range ((w0::wr).length*i'.size)).map cw).length)).toArray) (by simpa using hsz) hold;refine⟨_,_,_,.inl (hrun _ _ hr),hle,hok,?_,?_⟩
          ·refine Ba hle hz1' hz2 hru hrw ou ow hroom (fun j v hj=>?_) (fun j hj=>.inr ⟨rfl,hj⟩) ⟨b,us.length+(w0::wr).length,_,by simp[Gh.setTok],nL _,fun _=>⟨rfl,rfl⟩⟩;rw[bW (setRow_heap w b c0 _ _ _ h2),List.getElem?_toArray];rw[List.getElem?_append] at hj;rw[hlo] at hj;by_cases c1:j<us.length*i'.size
           ·simp only[c1,if_true] at hj;have:=hold j c1;rw[List.getElem?_toArray] at this;rw[this];rcases su with h0|⟨ad,he,hcell⟩
            ·rw[h0] at hj;simp at hj
            ·simp only[sI] at he;subst he;have:=hcell j v hj;rw[Addr.add_lit,Nat.zero_add,bW h2] at this;exact this
           ·simp only[c1,if_false] at hj;have hlt:=(gS.1 hj).1;have hle2:us.length*i'.size≤c0.size:=by omega
            rw[List.append_assoc,aR (by simp;omega)];have:(c0.toList.take (us.length*i'.size)).length=us.length*i'.size:=by simp;omega
            rw[this,aL hlt];exact hj
          ·intro id _;refine⟨fun h=>h,fun h=>?_,fun hb ht=>?_⟩
           ·by_cases hid:id=k
            ·rw[hid,hkt] at h;cases h
            ·simp[Gh.setTok,hid,h]
           ·by_cases hid:id=k
            ·rw[hid,hkt] at ht;cases ht
            ·rw[sN (Ne.symm hid)]
         ·obtain⟨val,w',g',q1,q2,q3,q4,q5⟩:=grows (by omega) k (gS.1 hk).1 hbn (fun b' n' c' h=>by rw[hkt] at h;simp at h;omega);refine⟨val,w',g',.inl q1,q2,q3,q4,fun id _=>?_⟩;by_cases hid:id=k
          ·subst hid;refine⟨fun h=>?_,(fun h=>by rw[hkt] at h;cases h),(fun _ h=>by rw[hkt] at h;cases h)⟩;cases hb':g'.blk id with
           | none=>rfl
           | some b' =>
            exact absurd (sS (gS.1 hk).1) (q3.not_tok hb')
          ·exact q5 id hid
        ·cases hact
       ·cases hact
    ·cases hact
  ·cases htr
 ·cases htr
end
theorem k8 {h:List O}{i:Nat}{x:O}(e:h[i]?=some x):h.set i x=h:=by
 obtain⟨hlt,rfl⟩:=gS.1 e;exact List.set_getElem_self hlt
section
variable {P:Program}{g:Gh}{w:World}{a:Act}
theorem du (g:Gh) (id b:Nat) (h h':List O) (hh:∀i,i≠id→h'[i]?=h[i]?):Quiet (fun i=>i=id) g h (g.setBlk id b) h' :=
 fun i hi=>⟨fun e=>by simp[Gh.setBlk,hi,e],fun e=>e,fun _ _=>hh i hi⟩
theorem mh (g:Gh) (k b n c m:Nat) (h h':List O) (hh:∀i,i≠k→h'[i]?=h[i]?):Quiet (fun i=>i=k) g h (g.setTok k b n c m) h' :=
 fun i hi=>⟨fun e=>e,fun e=>by simp[Gh.setTok,hi,e],fun _ _=>hh i hi⟩
theorem Aa {o:Oper}{e:TypeId}(ho:o.op=.alloc e){z:List V}(hz:gD P e=some z){id:Nat}{h:List O}(H:HOk g w h) (hp:h[id]?=some (.cells z)) (hsl:g.blk id=none∧g.tok id=none) :
  ActOk P g w a o (fun i=>i=id) h (.ref id 0) h:=by
 obtain⟨v,i,hi,hv,hsz,hrun,hcr⟩:=gQ (P:=P) (g:=g) (w:=w) hz;obtain⟨hle,hok⟩:=H.newCells (gS.1 hp).1 hsl.1 hsl.2 (c:=v.cells) (T:=e) (cs:=z) (Grew.alloc w _) (by rw[hcr.1];exact nL _) (fun j hj hk=>hcr.2 j hk hj);rw[k8 hp] at hok;refine⟨.pointer (some ⟨w.heap.size,0,none⟩),_,_,.inl ?_,hle,hok,.ref id _ 0 (by simp[Gh.setBlk]),du _ _ _ _ _ fun _ _=>rfl⟩;simp only[execOp,ho,Instr.alloc,Sem.run_bind,hrun,Result.andThen_ok,newVar,newRow,run_newObj,Sem.run_pure];rfl
theorem FD {o:Oper}{e:TypeId}{X:Operand}(ho:o.op=.box e X){tm:List V}(ht:Tm g w a tm){x:A}(hx:trA X=some x){id:Nat}{h:List O}(H:HOk g w h) (hid:id<h.length)
  (hokc:okc (ev tm x)=true) (hsl:g.blk id=none∧g.tok id=none) :
  ActOk P g w a o (fun i=>i=id) h (.ref id 0) (h.set id (.cells (ev tm x).cells)):=by
 have hcr:=CR.cells (aN ht hx) hokc;obtain⟨hle,hok⟩:=H.newCells hid hsl.1 hsl.2 (c:=(a.eval X).cells) (T:=e) (cs:=(ev tm x).cells) (Grew.alloc w _) (by rw[hcr.1];exact nL _) (fun j hj hk=>hcr.2 j hk hj);refine⟨.pointer (some ⟨w.heap.size,0,none⟩),_,_,.inl ?_,hle,hok,.ref id _ 0 (by simp[Gh.setBlk]),du _ _ _ _ _ fun i hi=>by rw[sN (Ne.symm hi)]⟩;simp only[execOp,ho,Instr.box,Sem.run_bind,newVar,newRow,run_newObj,Sem.run_pure,Result.andThen_ok];rfl
theorem qM (size:Nat):∀(parts:List (Nat × Value)) (k:Nat) (cells:Array Value),parts.map (·.1)=List.range' k parts.length→(∀p∈parts,p.2.cells.size=size)→(k+parts.length)*size≤cells.size →
  ∃cells',Instr.fill (fun i=>some (i*size,size)) cells parts=some cells'∧cells'.toList=cells.toList.take (k*size)++(parts.flatMap (fun p=>p.2.cells.toList)++cells.toList.drop ((k+parts.length)*size))
 | [],k,cells,_,_,_=>⟨cells,rfl,by simp⟩
 | (i,v)::r,k,cells,hi,hs,hl=>by
  simp only[List.map_cons,lC,List.range'_succ,cI] at hi;obtain⟨rfl,hi⟩:=hi;have hv:=hs (i,v) (by simp);simp only at hv;simp only[lC] at hl;have h1:(i+1)*size≤cells.size:=Nat.le_trans (Nat.mul_le_mul_right _ (by omega)) hl;have h1':i*size+v.cells.size≤cells.size:=by rw[hv];rw[Nat.succ_mul] at h1;exact h1
  have hfo:=j8 (i*size) v.cells cells h1';obtain⟨c1,hc1⟩:∃c1,c1=v.cells.zipIdx.foldl (fun cs (x:Value × Nat)=>match x with|(c,j)=>cs.setIfInBounds (i*size+j) c) cells:=⟨_,rfl⟩
  rw[← hc1] at hfo;have hc1s:c1.size=cells.size:=by
   have:=congrArg List.length hfo;simp only[Array.length_toList,lA,List.length_take,List.length_drop] at this;omega
  obtain⟨c2,h2,h3⟩:=qM size r (i+1) c1 hi (fun p hp=>hs p (by simp[hp])) (by rw[hc1s,show i+1+r.length=i+(r.length+1) by omega];exact hl);refine⟨c2,?_,?_⟩
  ·simp only[Instr.fill];rw[if_neg (by simp[hv];omega),← hc1];exact h2
  ·rw[h3,hfo];have e1:(i+1)*size=i*size+v.cells.toList.length:=by simp[Nat.succ_mul,hv]
   have e2:(cells.toList.take (i*size)).length=i*size:=by simp;omega
   have hK:i*size+v.cells.toList.length≤(i+(r.length+1))*size:=by rw[← e1];exact Nat.mul_le_mul_right _ (by omega)
   have e3:v.cells.size=v.cells.toList.length:=by simp
   rw[e1,show i+1+r.length=i+(r.length+1) by omega];simp only[List.flatMap_cons,lC,List.append_assoc];generalize (i+(r.length+1))*size=K at hK;rw[e3];generalize v.cells.toList=B at hK;generalize hA:cells.toList.take (i*size)=A at e2;generalize i*size=q at hK e2;rw[List.take_append,e2,List.take_of_length_le (l:=A) (by omega)];rw[show q+B.length-q=B.length by omega,List.take_append,List.take_of_length_le (nL _)];rw[Nat.sub_self,List.take_zero,List.append_nil,List.append_assoc];congr 2;rw[List.drop_append,e2,List.drop_eq_nil_of_le («as»:=A) (by omega),List.nil_append];rw[List.drop_append,List.drop_eq_nil_of_le («as»:=B) (by omega),List.nil_append,List.drop_drop];congr 2;omega
theorem th:∀(vs:List Value) (us:List V),vs.length=us.length→(∀i (hi:i<vs.length) (hj:i<us.length),CR g w (vs[i]).cells (us[i]).cells)→CR g w (vs.flatMap (fun v=>v.cells.toList)).toArray (aG us)
 | [],[],_,_=>⟨by simp[aG],fun j hi hj=>by simp[aG] at hj⟩
 | v::vs,u::us,hl,h=>by
  have h0:=h 0 (by simp) (by simp);simp only[List.getElem_cons_zero] at h0;have ih:=th vs us (by simpa using hl) fun i hi hj=>by have:=h (i+1) (by simpa using hi) (by simpa using hj);simpa only[List.getElem_cons_succ] using this
  have i1:=ih.1;simp only[List.size_toArray] at i1;have h01:=h0.1;refine CR.of (by simp only[List.size_toArray,List.flatMap_cons,lA,aG,Array.length_toList] at *;omega) fun j x y hx hy=>?_
  simp only[List.flatMap_cons] at hx;simp only[aG,List.flatMap_cons] at hy;rw[List.getElem?_append] at hx hy;rw[Array.length_toList,h01] at hx;by_cases c1:j<u.cells.length
  ·simp only[c1,if_true] at hx hy;obtain⟨y',hy',r⟩:=h0.get? hx;rw[hy] at hy';simp only[sI] at hy';subst hy';exact r
  ·simp only[c1,if_false] at hx hy;obtain⟨y',hy',r⟩:=ih.get? (by simpa using hx);simp only[aG] at hy';rw[hy] at hy';simp only[sI] at hy';subst hy';exact r
 | [],_::_,hl,_=>by simp at hl
 | _::_,[],hl,_=>by simp at hl
theorem tF {o:Oper}{t e:TypeId}{n:Nat}{parts:Array (Nat × Operand)}(ho:o.op=.buildSlice t n parts) (hu:P.underlying t=some (.slice e)){z:Nat}(hz:szT P e=some z){zz:List V}(hzz:gD P e=some zz)
  {xas:List A}(has:kD (parts.toList.map (·.2))=some xas) (hidx:parts.toList.map (·.1)=List.range n) (hn:n*z≤16777216){tm:List V}(ht:Tm g w a tm)
  (hall:∀u∈xas.map (fun x=>(ev tm x).vw2),okc u=true∧u.cells.length=z){id:Nat}{h:List O}(H:HOk g w h) (hp:h[id]?=some (.tok n z)) (hsl:g.blk id=none∧g.tok id=none) :
  ActOk P g w a o (fun i=>i=id) h (.sl (xas.map fun x=>(ev tm x).vw2) .full) h:=by
 obtain⟨hl,hr⟩:=fO ht has;simp only[List.length_map] at hl;have hlen:parts.toList.length=n:=by have:=congrArg List.length hidx;simpa using this
 obtain⟨zv,i',hi',hz0,hzs,hzrun,_⟩:=gQ (P:=P) (g:=g) (w:=w) hzz
 let us:=xas.map fun x=>(ev tm x).vw2
 let vs:=parts.toList.map fun p=>a.eval p.2
 have husl:us.length=n:=by simp[us];omega
 have hcrs:∀i (hi:i<vs.length) (hj:i<us.length),CR g w (vs[i]).cells (us[i]).cells:=by
  intro i hi hj;have h1:=hr i (by simpa[vs] using hi) (by simpa[us] using hj);have h2:=hall us[i] (List.getElem_mem hj);have e1:us[i]=(ev tm xas[i]).vw2:=by simp[us]
  have e2:vs[i]=a.eval ((parts.toList.map (·.2))[i]'(by simpa[vs] using hi)):=by simp[vs]
  rw[e1,e2];rw[e1] at h2;exact CR.cells h1.vw2 h2.1
 have hcr:=th vs us (by simp[vs,us];omega) hcrs;have hvsz:∀p∈(parts.map fun (x:Nat × Operand)=>match x with|(i,x)=>(i,a.eval x)).toList,p.2.cells.size=z:=by
  intro p hp';rw[Array.toList_map] at hp';obtain⟨q,hq,rfl⟩:=List.mem_map.1 hp';obtain⟨i,hi,rfl⟩:=List.getElem_of_mem hq;have h1:=hcrs i (by simpa[vs] using hi) (by omega);have h2:=(hall us[i] (List.getElem_mem _)).2;have h3:=h1.1;simp only[vs,List.getElem_map] at h3;rw[h2] at h3;exact h3
 let zero:Array Value:=if n*z=0 then #[] else zv.cells
 obtain⟨cells',hf,hcl⟩:=qM z (parts.map fun (x:Nat × Operand)=>match x with|(i,x)=>(i,a.eval x)).toList 0 ((Array.range (n*z)).map (zero[· % zero.size]!))
  (by rw[Array.toList_map,List.map_map];simp only[List.length_map,hlen];rw[← List.range_eq_range',← hidx];rfl) hvsz (by rw[Array.toList_map,List.length_map,hlen];simp)
 have hplen:(parts.map fun (x:Nat × Operand)=>match x with|(i,x)=>(i,a.eval x)).toList.length=n:=by simp;omega
 rw[hplen] at hcl;simp only[Nat.zero_mul,List.take_zero,List.nil_append,Nat.zero_add] at hcl;rw[List.drop_eq_nil_of_le (by simp),List.append_nil] at hcl;have hcl2:cells'.toList=vs.flatMap fun v=>v.cells.toList:=by
  rw[hcl,Array.toList_map];simp only[vs,List.flatMap_map]
 have hcr2:CR g w cells' (aG us):=by
  have:cells'=(vs.flatMap fun v=>v.cells.toList).toArray:=by rw[← hcl2]
  rw[this];exact hcr
 have hfl:(aG us).length=n*z:=by rw[aO (z:=z) fun u hu=>(hall u hu).2,husl]
 obtain⟨hle,hok⟩:=H.newRow (n:=n) (cap:=n) (z:=z) (gS.1 hp).1 hsl.1 (fun b' n' c' h=>by rw[hsl.2] at h;cases h) (Grew.alloc w (.cells cells' e)) (nL _) (by rw[hcr2.1,hfl];exact nL _);rw[k8 hp] at hok;refine⟨.slice (some ⟨w.heap.size,0,none⟩) n n,_,_,.inl ?_,hle,hok,?_,mh _ _ _ _ _ _ _ _ fun _ _=>rfl⟩
 ·have hzrun2:((if n*z=0 then pure #[] else do pure (← zeroValue e).cells:Sem (Array Value))).run P w=.ok zero w:=by
   by_cases c0:n*z=0
   ·simp[c0,zero]
   ·simp[c0,zero,hzrun]
  simp only[execOp,ho,Instr.buildSlice,Sem.run_bind,cD hu,bN hz,Result.andThen_ok];rw[if_neg (by omega)];by_cases c0:n*z=0
  ·simp only[c0,if_true,zero,↓reduceIte] at hf ⊢;simp only[c0,↓reduceIte,Sem.run_bind,Sem.run_pure,Result.andThen_ok,hf,newRow,run_newObj];rfl
  ·simp only[c0,↓reduceIte,zero] at hf ⊢;simp only[Sem.run_bind,Sem.run_pure,Result.andThen_ok,hzrun,hf,newRow,run_newObj];rfl
 ·refine .sl _ _ _ _ _ z (fun j=>cells'.getD j undef) husl.symm (nL _) (fun u hu=>(hall u hu).2) (fun _=>⟨w.heap.size,0,rfl,fun j hj=>?_⟩) (fun j hj=>?_) rfl
  ·rw[show (xas.map fun x=>(ev tm x).vw2)=us from rfl,husl] at hj;have hj2:j<cells'.size:=by rw[hcr2.1,hfl];exact hj
   rw[Nat.zero_add];have e1:cells'.getD j undef=cells'[j]:=by simp[Array.getD,hj2]
   refine⟨.inr ⟨rfl,hj⟩,?_,?_⟩
   ·rw[bW (Grew.new (Grew.alloc w _)),e1];simp[hj2]
   ·rw[e1];exact (hcr2.2 j hj2 (by rw[hfl];exact hj)).2
  ·have hj2:j<cells'.size:=by rw[hcr2.1];exact hj
   have e1:cells'.getD j undef=cells'[j]:=by simp[Array.getD,hj2]
   show Rep _ _ (cells'.getD j undef) _;rw[e1];exact ((hcr2.2 j hj2 hj).1).mono hle
theorem dL {t:TypeId}{n:Option Nat}(hn:nT P t=some n){b o0 off:Nat}{cs:List V}{f:Nat→Value}(hc:∀j,j<cs.length→w.cell? ⟨b,o0+j,none⟩=some (f j)∧(f j).oneCell'=true)
  (hr:∀j (hj:j<cs.length),Rep g w (f j) cs[j]){v:V}(hv:rdV cs off n=some v):∃x,(loadVar t ⟨b,o0+off,none⟩).run P w=.ok x w∧Rep g w x v:=by
 cases n with
 | some n =>
  obtain⟨k1,k2⟩:=xj hn;simp only[rdV] at hv;split at hv
  ·rename_i hle;simp only[sI] at hv;subst hv;have hl:=run_loadCells (P:=P) w ⟨b,o0+off,none⟩ n (fun j=>f (off+j)) (fun j hj=>by rw[Addr.add_lit,Nat.add_assoc];exact (hc _ (by omega)).1);refine⟨.agg ((List.range n).map fun j=>f (off+j)).toArray,by simp[loadVar,i4 k1,bN k2,hl],?_⟩;refine .agg _ _ (by simp;omega) (fun i hi=>?_) (fun i hi hj=>?_)
   ·simp only[List.getElem_toArray,List.getElem_map,List.getElem_range];simp at hi;exact (hc _ (by omega)).2
   ·simp only[List.getElem_toArray,List.getElem_map,List.getElem_range,List.getElem_take,List.getElem_drop];simp at hi;exact hr _ (by omega)
  ·cases hv
 | none =>
  have k1:=ol hn;simp only[rdV] at hv;obtain⟨hlt,rfl⟩:=gS.1 hv;exact⟨f off,by simp[loadVar,i4 k1,(hc off hlt).1],hr off hlt⟩
theorem C0 {o:Oper}{t:TypeId}{X:Operand}(ho:o.op=.load t X){n:Option Nat}(hn:nT P t=some n){x:A}(hx:trA X=some x){st:St}(ht:Tm g w a st.tm) (H:HOk g w st.h){cf:av}{v:V}{h':List O}
  (hact:act cf st (.load n x)=some (v,h')) (E:Nat→Prop):ActOk P g w a o E st.h v h':=by
 simp only[act] at hact;have hr:=aN ht hx;cases he:ev st.tm x with
 | ref id off =>
  rw[he] at hr hact;simp only at hact;split at hact
  ·rename_i cs hcs;simp only[mS,pI] at hact;obtain⟨v',hv,rfl,rfl⟩:=hact;obtain⟨b,hX,hb⟩:=hr.of_ref;obtain⟨cs0,c,T,h1,h2,h3,h4,h5⟩:=H.cellsOf hb hcs;have hcs0:cs0=cs:=by rw[hcs] at h1;simp at h1;exact h1.symm
   subst hcs0;obtain⟨y,h6,h7⟩:=dL (P:=P) (b:=b) (o0:=0) hn (f:=fun j=>c.getD j undef) (fun j hj=>by
    have hj2:j<c.size:=by omega
    have e1:c.getD j undef=c[j]:=by simp[Array.getD,hj2]
    rw[Nat.zero_add,bW h2];simp only[e1];exact⟨by simp[hj2],(h4 j hj hj2).2⟩) (fun j hj=>by
    have hj2:j<c.size:=by omega
    have e1:c.getD j undef=c[j]:=by simp[Array.getD,hj2]
    simp only[e1];exact (h4 j hj hj2).1) hv
   rw[Nat.zero_add] at h6;refine⟨y,w,g,.inl ?_,Le.refl _ _,H,h7,Quiet.refl _ _ _⟩;simp[execOp,ho,Instr.loadAt,Instr.sureAddr,hX,h6]
  ·cases hact
 | ptr cs off =>
  rw[he] at hr hact;simp only[mS,pI] at hact;obtain⟨v',hv,rfl,rfl⟩:=hact;obtain⟨b,o0,cv,hX,h1,h2⟩:=hr.of_ptr;obtain⟨y,h6,h7⟩:=dL (P:=P) (b:=b) (o0:=o0) hn (f:=cv) (fun j hj=>⟨(h1 j hj).2.1,(h1 j hj).2.2⟩) h2 hv;refine⟨y,w,g,.inl ?_,Le.refl _ _,H,h7,Quiet.refl _ _ _⟩;simp[execOp,ho,Instr.loadAt,Instr.sureAddr,hX,h6]
 | _=>rw[he] at hact;simp at hact
theorem yy {o:Oper}{t:TypeId}{X Y:Operand}(ho:o.op=.store t X Y){n:Nat}(hn:szT P t=some n){x y:A}(hx:trA X=some x) (hy:trA Y=some y){st:St}(ht:Tm g w a st.tm) (H:HOk g w st.h){cf:av}{v:V}{h':List O}
  (hact:act cf st (.store n x y)=some (v,h')) (E:Nat→Prop):ActOk P g w a o E st.h v h':=by
 simp only[act] at hact;have hr:=aN ht hx;cases he:ev st.tm x with
 | ref id off =>
  rw[he] at hr hact;simp only at hact;split at hact
  ·rename_i cs hcs;split at hact
   ·rename_i hcond;obtain⟨hokc,hlen,hle0⟩:=hcond;simp only[sI,pI] at hact;obtain⟨rfl,rfl⟩:=hact;obtain⟨b,hX,hb⟩:=hr.of_ref;obtain⟨cs0,c,T,h1,h2,h3,h4,h5⟩:=H.cellsOf hb hcs;have hcs0:cs0=cs:=by rw[hcs] at h1;simp at h1;exact h1.symm
    subst hcs0;have hcr:=CR.cells (aN ht hy) hokc;have hys:(a.eval Y).cells.size=n:=by rw[hcr.1];exact hlen
    have h6:=run_storeCells_at P b off T (a.eval Y).cells.toList 0 c w h2 (by simp;omega) (fun v hv=>by
     obtain⟨i,hi,rfl⟩:=List.getElem_of_mem hv;have:=(hcr.2 i (by simpa using hi) (by rw[← hcr.1];simpa using hi)).2;simpa using this)
    simp only[Nat.add_zero] at h6;have hsz:(c.toList.take off++(a.eval Y).cells.toList++c.toList.drop (off+(a.eval Y).cells.toList.length)).length=c.size:=by
     simp only[lA,List.length_take,List.length_drop,Array.length_toList];omega
    obtain⟨hle,hok⟩:=H.storeCells hb hcs h2 (c':=(c.toList.take off++(a.eval Y).cells.toList++c.toList.drop (off+(a.eval Y).cells.toList.length)).toArray) (cs':=bF cs0 off (ev st.tm y).cells)
     (by simpa using hsz) (by simp only[bF,lA,List.length_take,List.length_drop];omega) (fun j hj hk=>by
      have hj':j<cs0.length:=by simp only[bF,lA,List.length_take,List.length_drop] at hj;omega
      have hjc:j<c.size:=by omega
      have e1:(c.toList.take off++(a.eval Y).cells.toList++c.toList.drop (off+(a.eval Y).cells.toList.length)).toArray[j]?=some ((c.toList.take off++(a.eval Y).cells.toList++c.toList.drop (off+(a.eval Y).cells.toList.length)).toArray[j]):=by simp
      have e2:(bF cs0 off (ev st.tm y).cells)[j]?=some (bF cs0 off (ev st.tm y).cells)[j]:=gE hj;generalize (c.toList.take off++(a.eval Y).cells.toList++c.toList.drop (off+(a.eval Y).cells.toList.length)).toArray[j]=q1 at e1;generalize (bF cs0 off (ev st.tm y).cells)[j]=q2 at e2;rw[List.getElem?_toArray,List.append_assoc,List.getElem?_append] at e1;unfold bF at e2;rw[List.getElem?_append] at e2;have t1:(c.toList.take off).length=off:=by simp;omega
      have t2:(cs0.take off).length=off:=by simp;omega
      rw[t1] at e1;rw[t2] at e2;have old:∀i:Nat,c.toList[i]?=some q1→cs0[i]?=some q2→Rep g w q1 q2∧q1.oneCell'=true:=by
       intro i a1 a2;obtain⟨b1,rfl⟩:=gS.1 a1;obtain⟨b2,rfl⟩:=gS.1 a2;have:=h4 i b2 (by simpa using b1);simpa using this
      by_cases c1:j<off
      ·simp only[c1,if_true,List.getElem?_take] at e1 e2;exact old j e1 e2
      ·simp only[c1,if_false] at e1 e2;rw[List.getElem?_append] at e1 e2;rw[Array.length_toList,hcr.1] at e1;by_cases c2:j-off<(ev st.tm y).cells.length
       ·simp only[c2,if_true] at e1 e2;obtain⟨v',hv',r⟩:=hcr.get? e1;rw[e2] at hv';simp only[sI] at hv';subst hv';exact r
       ·simp only[c2,if_false,List.getElem?_drop] at e1 e2;exact old _ e1 e2)
    refine⟨undef,_,g,.inr ⟨?_,rfl⟩,hle,hok,.c _,fun i _=>⟨fun h=>h,fun h=>h,fun hbn _=>?_⟩⟩
    ·have e3:(execOp a.eval o)=(do Instr.storeAt t (a.eval X) (a.eval Y);pure .skip):=by simp only[execOp,ho]
     rw[e3];simp only[Instr.storeAt,Instr.sureAddr,hX,storeVar,Sem.run_bind,Sem.run_pure,Result.andThen_ok,bN hn];rw[if_neg (by simp[hys]),h6];rfl
    ·by_cases hid:i=id
     ·rw[hid,hb] at hbn;cases hbn
     ·rw[sN (Ne.symm hid)]
   ·cases hact
  ·cases hact
 | tref k m off =>
  rw[he] at hr hact;simp only at hact;split at hact
  ·rename_i m' z cs hcs;split at hact
   ·rename_i hcond;obtain⟨rfl,hokc,hlen,hle0⟩:=hcond;simp only[sI,pI] at hact;obtain⟨rfl,rfl⟩:=hact;obtain⟨A,hX,b,l,cap,hkt,hnl,hlat⟩:∃A,a.eval X=.pointer (some A)∧∃b l c,g.tok k=some (b,l,c)∧m'≤l∧(m'=l→A=⟨b,off,none⟩):=by
     generalize hX:a.eval X=xv at hr;cases hr with
     | tref A _ _ _ h=>exact⟨A,rfl,h⟩
    obtain⟨z0,c,T,h1,h2,h3,h3',h5⟩:=H.tok _ _ _ _ hkt;have hl0:(l=m'∧z0=z)∧cs.length=m'*z∧∀j (hj:j<cs.length) (hc:j<c.size),Rep g w c[j] cs[j]∧(c[j]).oneCell'=true:=by
     rcases h1 with h1|⟨cs1,h1,h6,h7,h8⟩<;>rw[hcs] at h1
     ·simp at h1
     ·simp only[sI,O.tokc.injEq] at h1;obtain⟨rfl,rfl,rfl⟩:=h1;exact⟨⟨rfl,rfl⟩,h6,h7⟩
    obtain⟨⟨rfl,rfl⟩,hcsl,h4⟩:=hl0;have hA:=hlat rfl;subst hA;have hcl:cs.length≤c.size:=by rw[hcsl];exact Nat.le_trans (Nat.mul_le_mul_right _ h3) h3'
    obtain⟨cs0,rfl⟩:∃cs0,cs0=cs:=⟨_,rfl⟩
    have hcr:=CR.cells (aN ht hy) hokc;have hys:(a.eval Y).cells.size=n:=by rw[hcr.1];exact hlen
    have h6:=run_storeCells_at P b off T (a.eval Y).cells.toList 0 c w h2 (by simp;omega) (fun v hv=>by
     obtain⟨i,hi,rfl⟩:=List.getElem_of_mem hv;have:=(hcr.2 i (by simpa using hi) (by rw[← hcr.1];simpa using hi)).2;simpa using this)
    simp only[Nat.add_zero] at h6;have hsz:(c.toList.take off++(a.eval Y).cells.toList++c.toList.drop (off+(a.eval Y).cells.toList.length)).length=c.size:=by
     simp only[lA,List.length_take,List.length_drop,Array.length_toList];omega
    obtain⟨hle,hok⟩:=H.growRowC hkt hcs (nL _) h3 h2 (c':=(c.toList.take off++(a.eval Y).cells.toList++c.toList.drop (off+(a.eval Y).cells.toList.length)).toArray) (cs':=bF cs0 off (ev st.tm y).cells)
     (by simpa using hsz) (by rw[← hcsl];simp only[bF,lA,List.length_take,List.length_drop];omega) (fun j hj hk=>by
      have hj':j<cs0.length:=by simp only[bF,lA,List.length_take,List.length_drop] at hj;omega
      have hjc:j<c.size:=by omega
      have e1:(c.toList.take off++(a.eval Y).cells.toList++c.toList.drop (off+(a.eval Y).cells.toList.length)).toArray[j]?=some ((c.toList.take off++(a.eval Y).cells.toList++c.toList.drop (off+(a.eval Y).cells.toList.length)).toArray[j]):=by simp
      have e2:(bF cs0 off (ev st.tm y).cells)[j]?=some (bF cs0 off (ev st.tm y).cells)[j]:=gE hj;generalize (c.toList.take off++(a.eval Y).cells.toList++c.toList.drop (off+(a.eval Y).cells.toList.length)).toArray[j]=q1 at e1;generalize (bF cs0 off (ev st.tm y).cells)[j]=q2 at e2;rw[List.getElem?_toArray,List.append_assoc,List.getElem?_append] at e1;unfold bF at e2;rw[List.getElem?_append] at e2;have t1:(c.toList.take off).length=off:=by simp;omega
      have t2:(cs0.take off).length=off:=by simp;omega
      rw[t1] at e1;rw[t2] at e2;have old:∀i:Nat,c.toList[i]?=some q1→cs0[i]?=some q2→Rep g w q1 q2∧q1.oneCell'=true:=by
       intro i a1 a2;obtain⟨b1,rfl⟩:=gS.1 a1;obtain⟨b2,rfl⟩:=gS.1 a2;have:=h4 i b2 (by simpa using b1);simpa using this
      by_cases c1:j<off
      ·simp only[c1,if_true,List.getElem?_take] at e1 e2;exact old j e1 e2
      ·simp only[c1,if_false] at e1 e2;rw[List.getElem?_append] at e1 e2;rw[Array.length_toList,hcr.1] at e1;by_cases c2:j-off<(ev st.tm y).cells.length
       ·simp only[c2,if_true] at e1 e2;obtain⟨v',hv',r⟩:=hcr.get? e1;rw[e2] at hv';simp only[sI] at hv';subst hv';exact r
       ·simp only[c2,if_false,List.getElem?_drop] at e1 e2;exact old _ e1 e2)
    refine⟨undef,_,_,.inr ⟨?_,rfl⟩,hle,hok,.c _,fun i _=>⟨fun h=>h,fun h=>?_,fun _ hbn=>?_⟩⟩
    ·have e3:(execOp a.eval o)=(do Instr.storeAt t (a.eval X) (a.eval Y);pure .skip):=by simp only[execOp,ho]
     rw[e3];simp only[Instr.storeAt,Instr.sureAddr,hX,storeVar,Sem.run_bind,Sem.run_pure,Result.andThen_ok,bN hn];rw[if_neg (by simp[hys]),h6];rfl
    ·by_cases hid:i=k
     ·rw[hid,hkt] at h;cases h
     ·simp[Gh.setTok,hid,h]
    ·by_cases hid:i=k
     ·rw[hid,hkt] at hbn;cases hbn
     ·rw[sN (Ne.symm hid)]
   ·cases hact
  ·cases hact
 | _=>rw[he] at hact;simp at hact
theorem lH {kd:Option (List Nat)}{k:Value}:∀{es:List MapEntry}{ks:List Value}{vs:List V}{r:Option V}(i:Nat),eT kd ks vs k=some r→es.map (·.key)=ks→es.length=vs.length →
  match r with
  | none=>Fnd kd k es i none
  | some v=>∃(j:Nat) (e:MapEntry),es[j]?=some e∧vs[j]?=some v∧e.key=k∧Fnd kd k es i (some (i+j,e.val))
 | [],ks,vs,r,i,h,hk,hl=>by
  obtain rfl:vs=[]:=by cases vs with|nil=>rfl|cons v vs=>simp at hl
  simp only[List.map_nil] at hk;subst hk;simp only[eT,sI] at h;subst h;exact .no i
 | e::es,ks,vs,r,i,h,hk,hl=>by
  cases vs with
  | nil=>simp at hl
  | cons v vs =>
   simp only[List.map_cons] at hk;subst hk;simp only[eT] at h;split at h
   ·rename_i hs;simp only[sI] at h;subst h;exact⟨0,e,rfl,rfl,(lE hs).symm,.here e es i hs⟩
   ·rename_i hs;have ih:=lH (i+1) h rfl (by simpa using hl);cases r with
    | none=>exact .there e es i none hs ih
    | some u =>
     obtain⟨j,e',h1,h2,h3,h4⟩:=ih;refine⟨j+1,e',by simpa using h1,by simpa using h2,h3,.there e es i _ hs ?_⟩;rw[show i+(j+1)=i+1+j by omega];exact h4
   ·cases h
theorem vO {kd:Option (List Nat)}{k:Value}{u:V}:∀{es:List MapEntry}{ks ks':List Value}{vs vs':List V}(i:Nat),sW kd ks vs k u=some (ks',vs')→es.map (·.key)=ks→es.length=vs.length →
  (Fnd kd k es i none∧ks'=ks++[k]∧vs'=vs++[u]) ∨
  ∃(j:Nat) (e:MapEntry),es[j]?=some e∧e.key=k∧Fnd kd k es i (some (i+j,e.val))∧ks'=ks∧vs'=vs.set j u
 | [],ks,ks',vs,vs',i,h,hk,hl=>by
  obtain rfl:vs=[]:=by cases vs with|nil=>rfl|cons v vs=>simp at hl
  simp only[List.map_nil] at hk;subst hk;simp only[sW,sI,pI] at h;obtain⟨rfl,rfl⟩:=h;exact .inl ⟨.no i,rfl,rfl⟩
 | e::es,ks,ks',vs,vs',i,h,hk,hl=>by
  cases vs with
  | nil=>simp at hl
  | cons v vs =>
   simp only[List.map_cons] at hk;subst hk;simp only[sW] at h;split at h
   ·rename_i hs;simp only[sI,pI] at h;obtain⟨rfl,rfl⟩:=h;exact .inr ⟨0,e,rfl,(lE hs).symm,.here e es i hs,by rw[← lE hs],rfl⟩
   ·rename_i hs;rw[mS] at h;obtain⟨⟨k2,v2⟩,h,h9⟩:=h;simp only[pI] at h9;obtain⟨rfl,rfl⟩:=h9;rcases vO (i+1) h rfl (by simpa using hl) with⟨h1,h2,h3⟩|⟨j,e',h1,h2,h3,h4,h5⟩
    ·exact .inl ⟨.there e es i none hs h1,by rw[h2];rfl,by rw[h3];rfl⟩
    ·refine .inr ⟨j+1,e',by simpa using h1,h2,.there e es i _ hs ?_,by rw[h4],by rw[h5];rfl⟩;rw[show i+(j+1)=i+1+j by omega];exact h3
   ·cases h
theorem oz {l c:Operand}(h:rE l c=true) (a:Act):∀{k:IntKind}{n:Int},a.eval l=.int k n→∃k',a.eval c=.int k' n:=by
 intro k n hl;unfold rE at h;split at h
 ·simp only[beq_iff_eq] at h;subst h;exact⟨k,hl⟩
 ·rename_i k1 a1 k2 a2;simp only[bT,beq_iff_eq] at h;simp only[Act.eval,Value.int.injEq] at hl;obtain⟨rfl,rfl⟩:=hl;exact⟨k2,by rw[Act.eval,h.2]⟩
 ·cases h
theorem rB (z:List V):∀(n j:Nat),j<n*z.length→((List.replicate n z).flatten)[j]?=z[j % z.length]?
 | 0,j,h=>by simp at h
 | n+1,j,h=>by
  rw[List.replicate_succ,List.flatten_cons,List.getElem?_append];split
  ·rename_i hj;rw[Nat.mod_eq_of_lt hj]
  ·rename_i hj;rw[Nat.succ_mul] at h;rw[rB z n (j-z.length) (by omega),← Nat.mod_eq_sub_mod (by omega)]
theorem dA (z:List V) (n:Nat):((List.replicate n z).flatten).length=n*z.length:=by
 induction n with
 | zero=>simp
 | succ n ih=>rw[List.replicate_succ,List.flatten_cons,lA,ih,Nat.succ_mul,Nat.add_comm]
theorem kO {v:Value}{z:List V}(hcr:CR g w v.cells z) (n:Nat) :
  (madeCells v.cells (n*z.length)).size=((List.replicate n z).flatten).length∧∀j (hj:j<((List.replicate n z).flatten).length) (hk:j<(madeCells v.cells (n*z.length)).size),Rep g w (madeCells v.cells (n*z.length))[j] ((List.replicate n z).flatten)[j]∧((madeCells v.cells (n*z.length))[j]).oneCell'=true:=by
 refine⟨by rw[size_madeCells,dA],fun j hj hk=>?_⟩;rw[dA] at hj;have hz:0<z.length:=by
  rcases Nat.eq_zero_or_pos z.length with e|e
  ·rw[e] at hj;simp at hj
  ·exact e
 have hm:=Nat.mod_lt j hz;have h1:=hcr.2 (j % z.length) (by rw[hcr.1];exact hm) hm;have e1:(madeCells v.cells (n*z.length))[j]=v.cells[j % z.length]'(by rw[hcr.1];exact hm):=by
  simp only[madeCells,Array.getElem_map,Array.getElem_range,hcr.1];rw[getElem!_pos v.cells (j % z.length) (by rw[hcr.1];exact hm)]
 have e2:((List.replicate n z).flatten)[j]'(by rw[dA];exact hj)=z[j % z.length]:=by
  have:=rB z n j hj;rw[gE (by rw[dA];exact hj),gE hm] at this;exact Option.some.inj this
 rw[e1,e2];exact h1
theorem D1 {v:V}{k:Int}(h:idx v=some k):∃kd,v=.c (.int kd k):=by
 unfold idx at h;split at h
 ·simp only[sI] at h;subst h;exact⟨_,rfl⟩
 all_goals cases h
theorem B3 {o:Oper}{t e:TypeId}{l c:Operand}(ho:o.op=.makeSlice t l c) (hu:P.underlying t=some (.slice e)){i:TypeInfo}(hi:P.info? e=some i){z:List V}(hz:gD P e=some z) (hlc:rE l c=true){zz:Option Nat}(_hzz:zc zz=i.size) (hby:i.bytes≤4096)
  {x:A}(hx:trA l=some x){tm:List V}{k:Int}(hidx:idx (ev tm x)=some k) (hb:0≤k∧k≤1048576∧k.toNat*z.length≤16777216) (ht:Tm g w a tm){id:Nat}{h:List O}(H:HOk g w h) (hid:id<h.length) (hsl:g.blk id=none∧g.tok id=none) :
  ActOk P g w a o (fun i=>i=id) h (.row id 0 k.toNat zz) (h.set id (.cells (List.replicate k.toNat z).flatten)):=by
 obtain⟨kd,hev⟩:=D1 hidx;have hr:=aN ht hx;rw[hev] at hr;have h1:a.eval l=.int kd k:=by
  generalize a.eval l=q at hr;cases hr;rfl
 obtain⟨kc,h2⟩:=oz hlc a h1;obtain⟨v,i',hi',hv,hsz,-,hcr⟩:=gQ (P:=P) (g:=g) (w:=w) hz;rw[hi] at hi';simp only[sI] at hi';subst hi';have hzl:i.size=z.length:=by rw[← hsz,hcr.1]
 obtain⟨m1,m2⟩:=kO hcr k.toNat;have hrun:=run_makeSlice (P:=P) w t e i v hu hi hv kd kc k k hb.1 (Int.le_refl _) (by rw[hzl];exact hb.2.2) (by
  have:(i.bytes:Int)*k≤4096*1048576:=Int.mul_le_mul (by omega) hb.2.1 hb.1 (by omega);omega) (by omega)
 rw[hzl] at hrun;obtain⟨hle,hok⟩:=H.newCells hid hsl.1 hsl.2 (c:=madeCells v.cells (k.toNat*z.length)) (T:=e) (cs:=(List.replicate k.toNat z).flatten) (Grew.alloc w _) (by rw[m1];exact nL _) m2;refine⟨.slice (some ⟨w.heap.size,0,none⟩) k.toNat k.toNat,_,_,.inl ?_,hle,hok,.row _ _ _ id 0 zz (nL _) fun _=>⟨w.heap.size,rfl,by simp[Gh.setBlk]⟩,du _ _ _ _ _ fun i hi=>by rw[sN (Ne.symm hi)]⟩;simp only[execOp,ho,h1,h2,Sem.run_bind,hrun,Result.andThen_ok,Sem.run_pure]
theorem sm {o:Oper}{t:TypeId}(ho:o.op=.makeMap t none){id:Nat}{h:List O}(H:HOk g w h) (hid:id<h.length) (hsl:g.blk id=none∧g.tok id=none) :
  ActOk P g w a o (fun i=>i=id) h (.mref id) (h.set id (.mapo [] [])):=by
 obtain⟨hle,hok⟩:=H.newOth hid hsl.1 hsl.2 (ob:=.map #[] 0) (x:=.mapo [] []) (Grew.alloc w _) (fun g' h' hf hx=>.inr ⟨[],[],#[],0,hx,(Grew.alloc w _).new,rfl,rfl,fun i hi=>by simp at hi,hf⟩);refine⟨.map (some w.heap.size),_,_,.inl ?_,hle,hok,.mref id _ (by simp[Gh.setBlk]),du _ _ _ _ _ fun i hi=>by rw[sN (Ne.symm hi)]⟩;simp only[execOp,ho,Option.map_none,Sem.run_bind,RowKit.run_makeMap,Result.andThen_ok,Sem.run_pure]
def pH (z:Value) (ok:Bool):Option (Nat × Value)→Value
 | some (_,v)=>if ok then .tuple #[v,.bool true] else v
 | none=>if ok then .tuple #[z,.bool false] else z
theorem zG {t kt et:TypeId}(ht:P.underlying t=some (.map kt et)){kd:Option (List Nat)}(hk:lS P kt=some kd){z:Value}{i:TypeInfo}(hi:P.info? et=some i) (hz:i.zero=some z){b:Nat}{es:Array MapEntry}{ck:Nat}
  (hb:w.heap[b]?=some (.map es ck)){k:Value}(hs:cS kd k k=some true){ok:Bool}{r:Option (Nat × Value)}(hf:Fnd kd k es.toList 0 r) :
  (Instr.lookup t (.map (some b)) k ok).run P w=.ok (pH z ok r) w:=by
 have hzr:(zeroValue et).run P w=.ok z w:=by simp[zeroValue,typeInfo,hi,hz]
 have h1:=fun e=>ii (P:=P) (w:=w) hk hs e 9998
 have h2:=hf.run (P:=P) (w:=w) hk;simp only[Instr.lookup,Sem.run_bind,run_underlying ht,Result.andThen_ok,MapKept.run_getObj_map hb,Sem.run_pure,h1,h2];cases r with
 | none=>cases ok <;> simp[hzr,Result.andThen,pH]
 | some p=>cases ok <;> rfl
def rl (g:Gh) (w:World):Option (Nat × Value)→Option V→Prop
 | some (_,x),some v=>Rep g w x v
 | none,none=>True
 | _,_=>False
theorem yr {z:Value}(hc:g9 z=true){ok:Bool}{r:Option (Nat × Value)}{q:Option V}(h:rl g w r q) :
  Rep g w (pH z ok r) (l7 (toV z) ok q):=by
 have tup:∀{x:Value}{v:V}(b:Bool),Rep g w x v→Rep g w (.tuple #[x,.bool b]) (.tup [v,.c (.bool b)]):=fun b hr=>.tup _ _ rfl fun i hi hj=>by
  match i,hj with
  | 0,_=>exact hr
  | 1,_=>exact .c _
 cases r with
 | none =>
  cases q with
  | none =>
   cases ok
   ·exact pj g w z hc
   ·exact tup false (pj g w z hc)
  | some v=>exact h.elim
 | some p =>
  obtain⟨_,x⟩:=p;cases q with
  | none=>exact h.elim
  | some v =>
   cases ok
   ·exact h
   ·exact tup true h
theorem ly {s:ByteArray}:∀(es:List MapEntry) (i:Nat),(∀e∈es,∃s,e.key=.string s) →
  (∃e∈es,e.key=.string s∧∃j,Fnd none (.string s) es i (some (j,e.val)))∨((∀e∈es,e.key≠.string s)∧Fnd none (.string s) es i none)
 | [],i,_=>.inr ⟨by simp,.no i⟩
 | e::es,i,h=>by
  obtain⟨s',hk⟩:=h e (by simp);by_cases hs:s=s'
  ·subst hs;exact .inl ⟨e,by simp,hk,i,.here e es i (by simp[cS,ea,hk])⟩
  ·rcases ly es (i+1) (fun x hx=>h x (by simp[hx])) with⟨x,h1,h2,j,h3⟩|⟨h1,h2⟩
   ·exact .inl ⟨x,by simp[h1],h2,j,.there e es i _ (by simp[cS,ea,hk,hs]) h3⟩
   ·refine .inr ⟨fun x hx=>?_,.there e es i _ (by simp[cS,ea,hk,hs]) h2⟩;simp only[List.mem_cons] at hx;rcases hx with rfl|hx
    ·rw[hk];simp;exact fun e=>hs e.symm
    ·exact h1 x hx
theorem Fnd.uniq {kd:Option (List Nat)}{k:Value}{es:List MapEntry}{i:Nat}{r r':Option (Nat × Value)}(h:Fnd kd k es i r) (h':Fnd kd k es i r'):r=r':=by
 induction h with
 | no i=>cases h';rfl
 | here e es i h=>cases h' with
  | here=>rfl
  | there _ _ _ _ h2 _=>rw[h] at h2;simp at h2
 | there e es i r h _ ih=>cases h' with
  | here _ _ _ h2=>rw[h] at h2;simp at h2
  | there _ _ _ _ _ hr=>exact ih hr
theorem vR {o:Oper}{t kt et:TypeId}{X K:Operand}{ok:Bool}(ho:o.op=.lookup t X K ok) (hu:P.underlying t=some (.map kt et)){kd:Option (List Nat)}(hk:lS P kt=some kd){z:Value}(hz:(P.info? et).bind (·.zero)=some z) (hc:g9 z=true)
  {x k:A}(hx:trA X=some x) (hkk:trA K=some k){st:St}(ht:Tm g w a st.tm) (H:HOk g w st.h){cf:av}{v:V}{h':List O}
  (hact:act cf st (.lookup kd (toV z) ok x k)=some (v,h')) (E:Nat→Prop):ActOk P g w a o E st.h v h':=by
 obtain⟨i,hi,hz⟩:=bS.1 hz;have hr:=aN ht hx;have hkr:=aN ht hkk;simp only[act] at hact;split at hact;rotate_left
 ·cases hact
 rename_i kv hkv;have hself:=ny hkv;have hK:=rI hkr hkv;have main0:∀{b:Nat}{es:Array MapEntry}{ck:Nat}{q:Option V}{r:Option (Nat × Value)},a.eval X=.map (some b)→w.heap[b]?=some (.map es ck)→Fnd kd kv es.toList 0 r→rl g w r q →
   v=l7 (toV z) ok q→h'=st.h→ActOk P g w a o E st.h v h':=by
  intro b es ck q r hX hb hf1 hf2 hv hh;subst hv hh;have hrun:=zG (P:=P) hu hk hi hz hb hself (ok:=ok) hf1;refine⟨_,w,g,.inl ?_,Le.refl _ _,H,yr hc hf2,Quiet.refl _ _ _⟩;simp only[execOp,ho,hX,hK,Sem.run_bind,hrun,Result.andThen_ok,Sem.run_pure]
 have main:∀{b:Nat}{es:Array MapEntry}{ck:Nat}{ks:List Value}{vs:List V}{q:Option V},a.eval X=.map (some b)→w.heap[b]?=some (.map es ck)→es.toList.map (·.key)=ks→es.size=vs.length →
   (∀i (hi:i<es.size) (hj:i<vs.length),Rep g w (es[i]).val vs[i])→eT kd ks vs kv=some q→v=l7 (toV z) ok q→h'=st.h→ActOk P g w a o E st.h v h':=by
  intro b es ck ks vs q hX hb hks hn hrep hq hv hh;have hf:=lH (es:=es.toList) 0 hq hks (by simpa using hn);obtain⟨r,hf1,hf2⟩:∃r,Fnd kd kv es.toList 0 r∧rl g w r q:=by
   cases q with
   | none=>exact⟨none,hf,trivial⟩
   | some u =>
    obtain⟨j,e,h1,h2,h3,h4⟩:=hf;refine⟨_,h4,?_⟩;obtain⟨hj1,rfl⟩:=gS.1 h1;obtain⟨hj2,rfl⟩:=gS.1 h2;have:=hrep j (by simpa using hj1) hj2;simpa[rl] using this
  exact main0 hX hb hf1 hf2 hv hh
 split at hact
 ·rename_i ks vs he;rw[he] at hr;split at hact;rotate_left
  ·cases hact
  simp only[mS,pI] at hact;obtain⟨q,hq,h1,h2⟩:=hact;obtain⟨s,rfl⟩:∃s,kv=.string s:=by
   cases kv<;>simp only[cS,ea,reduceCtorEq] at hself
   exact⟨_,rfl⟩
  obtain⟨x0,hx0⟩:∃x0,a.eval X=x0:=⟨_,rfl⟩
  rw[hx0] at hr;cases hr with
  | fmp b es ck _ _ hb hf hks hn hrep =>
   obtain⟨es0,hb,hp,hstr,huniq⟩:=hb;have hf:=lH (es:=es.toList) 0 hq hks (by simpa using hn);rcases ly (s:=s) es0.toList 0 (fun e he=>hstr e ((hp e).1 he)) with⟨e,he,hke1,j,hj⟩|⟨hno,hj⟩
   ·refine main0 hx0 hb hj (q:=q) ?_ h1.symm h2.symm;cases q with
    | none =>
     rcases ly (s:=s) es.toList 0 hstr with⟨e',_,_,j',hj'⟩|⟨hno,_⟩
     ·have:=Fnd.uniq hf hj';simp at this
     ·exact absurd hke1 (hno e ((hp e).1 he))
    | some u =>
     obtain⟨j',e',k1,k2,k3,k4⟩:=hf;have:e=e':=huniq e ((hp e).1 he) e' (List.mem_of_getElem? k1) (hke1.trans k3.symm);subst this;obtain⟨hj1,hj1'⟩:=gS.1 k1;obtain⟨hj2,hj2'⟩:=gS.1 k2;have:=hrep j' (by simpa using hj1) hj2;rw[hj2'] at this;have h3:es[j']'(by simpa using hj1)=e:=by simpa using hj1'
     rw[h3] at this;exact this
   ·refine main0 hx0 hb hj (q:=q) ?_ h1.symm h2.symm;cases q with
    | none=>trivial
    | some u =>
     obtain⟨j',e',k1,k2,k3,k4⟩:=hf;exact absurd k3 (hno e' ((hp e').2 (List.mem_of_getElem? k1)))
 ·rename_i id he;rw[he] at hr;split at hact
  ·rename_i ks vs hid;simp only[mS,pI] at hact;obtain⟨q,hq,h1,h2⟩:=hact;obtain⟨x0,hx0⟩:∃x0,a.eval X=x0:=⟨_,rfl⟩
   rw[hx0] at hr;cases hr with
   | mref _ b hb =>
    rcases H.obj _ _ hb with⟨_,_,_,e2,_⟩|⟨s,L,e2,_⟩|⟨ks',vs',es,ck,e2,hhb,hks,hn,hrep,_⟩
    ·rw[hid] at e2;simp at e2
    ·rw[hid] at e2;simp at e2
    ·rw[hid] at e2;simp only[sI,O.mapo.injEq] at e2;obtain⟨rfl,rfl⟩:=e2;exact main hx0 hhb hks hn hrep hq h1.symm h2.symm
  ·cases hact
 ·cases hact
theorem mt {o:Oper}{t kt et:TypeId}{M K U:Operand}(ho:o.op=.mapUpdate t M K U∨o.op=.insert t M K U) (hu:P.underlying t=some (.map kt et)){kd:Option (List Nat)}(hk:lS P kt=some kd)
  {m k u:A}(hm:trA M=some m) (hkk:trA K=some k) (huu:trA U=some u){st:St}(ht:Tm g w a st.tm) (H:HOk g w st.h){cf:av}{v:V}{h':List O}
  (hact:act cf st (.mapUpd kd m k u)=some (v,h')) (E:Nat→Prop):ActOk P g w a o E st.h v h':=by
 have hr:=aN ht hm;have hkr:=aN ht hkk;have hur:=aN ht huu;simp only[act] at hact;split at hact;rotate_left
 ·cases hact
 rename_i kv hkv;have hself:=ny hkv;have hK:=rI hkr hkv;split at hact
 ·rename_i id he;rw[he] at hr;split at hact
  ·rename_i ks vs hid;simp only[mS,pI] at hact;obtain⟨⟨ks',vs'⟩,hq,rfl,rfl⟩:=hact;obtain⟨x0,hx0⟩:∃x0,a.eval M=x0:=⟨_,rfl⟩
   rw[hx0] at hr;cases hr with
   | mref _ b hb =>
    rcases H.obj _ _ hb with⟨_,_,_,e2,_⟩|⟨s,L,e2,_⟩|⟨ks0,vs0,es,ck,e2,hhb,hks,hn,hrep,hnf⟩
    ·rw[hid] at e2;simp at e2
    ·rw[hid] at e2;simp at e2
    ·rw[hid] at e2;simp only[sI,O.mapo.injEq] at e2;obtain⟨rfl,rfl⟩:=e2;have h1:=ii (P:=P) (w:=w) hk hself false 9998;obtain⟨es',ck',hrun,hks',hn',hrep'⟩:∃es' ck',(Instr.mapUpdate t (.map (some b)) kv (a.eval U)).run P w=.ok () { w with heap:=w.heap.setIfInBounds b (.map es' ck') }∧es'.toList.map (·.key)=ks'∧es'.size=vs'.length ∧
       ∀i (hi:i<es'.size) (hj:i<vs'.length),Rep g w (es'[i]).val vs'[i]:=by
      rcases vO (es:=es.toList) 0 hq hks (by simpa using hn) with⟨f1,rfl,rfl⟩|⟨j,e,f1,f2,f3,rfl,rfl⟩
      ·refine⟨es.push { key:=kv,val:=a.eval U,born:=ck },ck+1,?_,by simp[hks],by simp[hn],fun i hi hj=>?_⟩
       ·simp only[Instr.mapUpdate,Sem.run_bind,run_underlying hu,Result.andThen_ok,MapKept.run_getObj_map hhb,h1,f1.run (P:=P) (w:=w) hk,MapKept.run_setObj_map _ hhb]
       ·rw[Array.getElem_push,List.getElem_append];by_cases hlt:i<es.size
        ·have hlt':i<vs.length:=by omega
         simp only[hlt,hlt',dif_pos];exact hrep i hlt hlt'
        ·have hlt':¬i<vs.length:=by omega
         simp only[hlt,hlt',dif_neg,not_false_eq_true,List.getElem_singleton];exact hur
      ·have hj1:es[j]?=some e:=by simpa using f1
       have hjl:j<es.size:=(Array.getElem?_eq_some_iff.1 hj1).1;refine⟨es.modify j fun e=>{ e with key:=kv,val:=a.eval U },ck,?_,?_,by simp[hn],fun i hi hj=>?_⟩
       ·have hst:=tf (P:=P) (w:=w) hself;simp only[Instr.mapUpdate,Sem.run_bind,run_underlying hu,Result.andThen_ok,MapKept.run_getObj_map hhb,h1,f3.run (P:=P) (w:=w) hk,Nat.zero_add,hj1,Option.map_some,Option.getD_some,f2,hst,MapKept.run_setObj_map _ hhb]
       ·rw[MapKept.modify_keys j _ fun e' he'=>by rw[hj1] at he';cases he';exact f2.symm];exact hks
       ·rw[List.getElem_set];simp only[Array.size_modify] at hi;rw[Array.getElem_modify];by_cases hij:j=i
        ·subst hij;simp only[if_true];exact hur
        ·simp only[hij,if_false];exact hrep i hi (by omega)
     obtain⟨hle,hok⟩:=H.setOth hb hhb rfl (ob':=.map es' ck') rfl trivial (w':={ w with heap:=w.heap.setIfInBounds b (.map es' ck') }) rfl rfl rfl rfl (x:=.mapo ks' vs')
      (fun h2 hx2 hb2 _ hmono=>.inr ⟨ks',vs',es',ck',hx2,hb2,hks',hn',fun i hi hj=>hmono (hrep' i hi hj),hnf⟩)
     refine⟨undef,_,g,.inr ⟨?_,rfl⟩,hle,hok,.c _,fun i hi=>⟨fun h=>h,fun h=>h,fun e1 _=>?_⟩⟩
     ·rcases ho with ho|ho<;>simp only[execOp,ho,hx0,hK,Sem.run_bind,hrun,Result.andThen_ok,Sem.run_pure]
     ·rw[sN];rintro rfl;rw[e1] at hb;cases hb
  ·cases hact
 ·cases hact
def cT:XOp→Bool
 | .call _ _=>true
 | _=>false
def GE (st:St) (al:Nat) (x:XOp) (pre:List O):Prop:=E7 x=true→∀p∈pre,st.h[st.rb+al]?=some p
theorem iH {cf:av}{st:St}{x:XOp}{v:V}{h':List O}(hact:(aB st.tm st.rb x).map (·,st.h)=some (v,h')):aB st.tm st.rb x=some v∧h'=st.h:=by
 simp only[mS,pI] at hact;obtain⟨v',h1,rfl,rfl⟩:=hact;exact⟨h1,rfl⟩
theorem E3 {o:Oper}{al:Nat}{x:XOp}{pre:List O}{rw:Bool}(htr:bG P rw al o.op=some (x,pre)){st:St}(ht:Tm g w a st.tm) (H:HOk g w st.h){cf:av}{v:V}{h':List O}(hact:act cf st x=some (v,h'))
  (hnc:cT x=false) (hsl:pre≠[]→g.blk (st.rb+al)=none∧g.tok (st.rb+al)=none) (hpre:GE st al x pre) :
  ActOk P g w a o (fun id=>(pre≠[]∧id=st.rb+al)∨st.h[id]?=some .free) st.h v h':=by
 have htr':=htr;have weak:∀{E:Nat→Prop}{h h':List O}{v:V},ActOk P g w a o E h v h'→(∀id,E id→(pre≠[]∧id=st.rb+al)∨st.h[id]?=some .free)→ActOk P g w a o (fun id=>(pre≠[]∧id=st.rb+al)∨st.h[id]?=some .free) h v h':=by
  rintro E h h' v ⟨val,w',g',h1,h2,h3,h4,h5⟩ hE;exact⟨val,w',g',h1,h2,h3,h4,h5.mono hE⟩
 have pureCase:act cf st x=(aB st.tm st.rb x).map (·,st.h)→E7 x=false→ActOk P g w a o (fun id=>(pre≠[]∧id=st.rb+al)∨st.h[id]?=some .free) st.h v h':=by
  intro he hna;rw[he] at hact;obtain⟨h1,rfl⟩:=iH (cf:=cf) hact;exact (xB htr' ht h1 hna).act H _
 cases hop:o.op with
 | alloc e =>
  rw[hop] at htr;simp only[bG,mS,pI] at htr;obtain⟨z,hz,rfl,rfl⟩:=htr;obtain⟨h1,rfl⟩:=iH (cf:=cf) (show (aB st.tm st.rb (.alloc al z)).map (·,st.h)=some (v,h') from hact);simp only[aB,sI] at h1;subst h1;exact weak (Aa hop hz H (hpre rfl _ (by simp)) (hsl (by simp))) (fun id h=>.inl ⟨by simp,h⟩)
 | box e X =>
  rw[hop] at htr;simp only[bG,mS,pI] at htr;obtain⟨x',hx,rfl,rfl⟩:=htr;simp only[act] at hact;split at hact
  ·rename_i hd;split at hact
   ·rename_i hokc;simp only[sI,pI] at hact;obtain⟨rfl,rfl⟩:=hact;exact weak (FD hop ht hx H (gS.1 hd).1 hokc (hsl (by simp))) (fun id h=>.inl ⟨by simp,h⟩)
   ·cases hact
  ·cases hact
 | buildSlice t n parts =>
  rw[hop] at htr;simp only[bG] at htr;split at htr
  ·rename_i e hu;split at htr
   ·rename_i z zz xas hz hzz has;split at htr
    ·rename_i hcond;simp only[sI,pI] at htr;obtain⟨rfl,rfl⟩:=htr;obtain⟨h1,rfl⟩:=iH (cf:=cf) (show (aB st.tm st.rb (.bslice al z xas)).map (·,st.h)=some (v,h') from hact);simp only[aB] at h1;split at h1
     ·rename_i hall;simp only[sI] at h1;subst h1;refine weak (tF hop hu hz hzz has hcond.1 hcond.2 ht (fun u hu'=>?_) H (hpre rfl _ (by simp)) (hsl (by simp))) (fun id h=>.inl ⟨by simp,h⟩);have:=List.all_eq_true.1 hall u hu';simpa using this
     ·cases h1
    ·cases htr
   ·cases htr
  ·cases htr
 | load t X =>
  rw[hop] at htr;simp only[bG] at htr;split at htr
  ·rename_i n' x' hn hx;simp only[sI,pI] at htr;obtain⟨rfl,rfl⟩:=htr;exact C0 hop hn hx ht H hact _
  ·cases htr
 | store t X Y =>
  rw[hop] at htr;simp only[bG] at htr;split at htr
  ·rename_i n' x' y' hn hx hy;simp only[sI,pI] at htr;obtain⟨rfl,rfl⟩:=htr;exact yy hop hn hx hy ht H hact _
  ·cases htr
 | call c =>
  rw[hop] at htr;simp only[bG] at htr;obtain⟨cal,args,tys⟩:=c;cases cal with
  | invoke r m=>simp[bj] at htr
  | value f =>
   simp only[bj] at htr;split at htr
   ·simp only[sI,pI] at htr;obtain⟨rfl,rfl⟩:=htr;simp[cT] at hnc
   ·cases htr
  | builtin b =>
   cases b
   case len =>
    simp only[bj] at htr;split at htr
    ·simp only[oh] at htr;split at htr
     ·simp only[sI,pI] at htr;obtain⟨rfl,rfl⟩:=htr;exact pureCase rfl rfl
     ·simp only[sI,pI] at htr;obtain⟨rfl,rfl⟩:=htr;exact pureCase rfl rfl
     ·cases htr
    ·cases htr
   case append =>
    simp only[bj] at htr;split at htr
    ·rename_i X Y t u h1 h2;have hX:args=#[X,Y]:=Array.ext' h1;have hT:tys=#[t,u]:=Array.ext' h2;subst hX hT;have hp:pre≠[]:=by
      simp only[lh] at htr;split at htr
      ·split at htr
       ·split at htr
        ·simp only[sI,pI] at htr;rw[← htr.2];simp
        ·cases htr
       ·cases htr
      ·cases htr
     exact weak (ut (args:=#[X,Y]) hop htr ht H hact (hsl hp)) (fun id h=>h.imp (fun h=>⟨hp,h⟩) fun h=>h)
    ·cases htr
   case min =>
    simp only[bj,mS,pI] at htr;obtain⟨xas,has,rfl,rfl⟩:=htr;exact pureCase rfl rfl
   case max =>
    simp only[bj,mS,pI] at htr;obtain⟨xas,has,rfl,rfl⟩:=htr;exact pureCase rfl rfl
   all_goals simp[bj] at htr
 | move X =>
  rw[hop] at htr;simp only[bG,mS,pI] at htr;obtain⟨x',hx',rfl,rfl⟩:=htr;exact pureCase rfl rfl
 | assign X =>
  rw[hop] at htr;simp only[bG,mS,pI] at htr;obtain⟨x',hx',rfl,rfl⟩:=htr;exact pureCase rfl rfl
 | unOp op t X =>
  rw[hop] at htr;simp only[bG,mS,pI] at htr;obtain⟨x',hx',rfl,rfl⟩:=htr;exact pureCase rfl rfl
 | extract X i =>
  rw[hop] at htr;simp only[bG,mS,pI] at htr;obtain⟨x',hx',rfl,rfl⟩:=htr;exact pureCase rfl rfl
 | nilCheck X =>
  rw[hop] at htr;simp only[bG,mS,pI] at htr;obtain⟨x',hx',rfl,rfl⟩:=htr;exact pureCase rfl rfl
 | makeFunc fn first caps =>
  rw[hop] at htr;cases fn with
  | func f =>
   simp only[bG] at htr;split at htr
   ·simp only[mS,pI] at htr;obtain⟨cs,hcs,rfl,rfl⟩:=htr;exact pureCase rfl rfl
   ·split at htr
    ·simp only[mS,pI] at htr;obtain⟨cs,hcs,rfl,rfl⟩:=htr;exact pureCase rfl rfl
    ·cases htr
  | _=>simp[bG] at htr
 | pick C X Y =>
  rw[hop] at htr;simp only[bG] at htr;split at htr
  ·simp only[sI,pI] at htr;obtain⟨rfl,rfl⟩:=htr;exact pureCase rfl rfl
  ·cases htr
 | binOp op t X Y ty =>
  rw[hop] at htr;simp only[bG] at htr;split at htr
  ·simp only[sI,pI] at htr;obtain⟨rfl,rfl⟩:=htr;exact pureCase rfl rfl
  ·split at htr
   ·simp only[sI,pI] at htr;obtain⟨rfl,rfl⟩:=htr;exact pureCase rfl rfl
   ·simp only[sI,pI] at htr;obtain⟨rfl,rfl⟩:=htr;exact pureCase rfl rfl
   ·cases htr
  ·cases htr
 | convert s d X =>
  rw[hop] at htr;simp only[bG] at htr;split at htr
  ·simp only[sI,pI] at htr;obtain⟨rfl,rfl⟩:=htr;exact pureCase rfl rfl
  ·cases htr
 | build t parts =>
  rw[hop] at htr;simp only[bG] at htr;split at htr
  ·split at htr
   ·simp only[mS,pI] at htr;obtain⟨l,hl,rfl,rfl⟩:=htr;exact pureCase rfl rfl
   ·cases htr
  ·cases htr
 | fieldAddr s X f =>
  rw[hop] at htr;simp only[bG] at htr;split at htr
  ·split at htr
   ·split at htr
    ·simp only[sI,pI] at htr;obtain⟨rfl,rfl⟩:=htr;exact pureCase rfl rfl
    ·cases htr
   ·cases htr
  ·cases htr
 | field s X f =>
  rw[hop] at htr;simp only[bG] at htr;split at htr
  ·split at htr
   ·simp only[mS,pI] at htr;obtain⟨n,hn,rfl,rfl⟩:=htr;exact pureCase rfl rfl
   ·cases htr
  ·cases htr
 | indexAddr t X I =>
  rw[hop] at htr;simp only[bG] at htr;split at htr
  ·simp only[mS,pI] at htr;obtain⟨n,hn,rfl,rfl⟩:=htr;exact pureCase rfl rfl
  ·cases htr
 | index t X I =>
  rw[hop] at htr;simp only[bG] at htr;split at htr
  ·simp only[sI,pI] at htr;obtain⟨rfl,rfl⟩:=htr;exact pureCase rfl rfl
  ·cases htr
 | slice t X lo hi mx =>
  rw[hop] at htr;simp only[bG] at htr;split at htr
  ·simp only[mS,pI] at htr;obtain⟨n,hn,rfl,rfl⟩:=htr;exact pureCase rfl rfl
  ·simp only[sI,pI] at htr;obtain⟨rfl,rfl⟩:=htr;exact pureCase rfl rfl
  ·cases htr
 | makeMap t r =>
  rw[hop] at htr;cases r with
  | some r=>simp[bG] at htr
  | none =>
   simp only[bG,sI,pI] at htr;obtain⟨rfl,rfl⟩:=htr;simp only[act] at hact;split at hact
   ·rename_i hd;simp only[sI,pI] at hact;obtain⟨rfl,rfl⟩:=hact;exact weak (sm hop H (gS.1 hd).1 (hsl (by simp))) (fun id h=>.inl ⟨by simp,h⟩)
   ·cases hact
 | lookup t X K ok =>
  rw[hop] at htr;simp only[bG] at htr;split at htr
  ·rename_i kt et hu;split at htr
   ·rename_i kd z x' k' h1 h2 h3 h4;split at htr
    ·rename_i hc;simp only[sI,pI] at htr;obtain⟨rfl,rfl⟩:=htr;exact vR hop hu h1 h2 hc h3 h4 ht H hact _
    ·cases htr
   ·cases htr
  ·cases htr
 | mapUpdate t M K U =>
  rw[hop] at htr;simp only[bG,jQ] at htr;split at htr
  ·rename_i kt et hu;split at htr
   ·rename_i kd m' k' u' h1 h2 h3 h4;simp only[sI,pI] at htr;obtain⟨rfl,rfl⟩:=htr;exact mt (.inl hop) hu h1 h2 h3 h4 ht H hact _
   ·cases htr
  ·cases htr
 | insert t M K U =>
  rw[hop] at htr;simp only[bG,jQ] at htr;split at htr
  ·rename_i kt et hu;split at htr
   ·rename_i kd m' k' u' h1 h2 h3 h4;simp only[sI,pI] at htr;obtain⟨rfl,rfl⟩:=htr;exact mt (.inr hop) hu h1 h2 h3 h4 ht H hact _
   ·cases htr
  ·cases htr
 | makeSlice t l c =>
  rw[hop] at htr;simp only[bG,iM] at htr;split at htr
  ·rename_i e hu;split at htr
   ·rename_i i z zz x' h1 h2 h3 h4;split at htr
    ·rename_i hc;simp only[sI,pI] at htr;obtain⟨rfl,rfl⟩:=htr;simp only[act] at hact;split at hact
     ·rename_i k hidx;split at hact
      ·rename_i hb;split at hact
       ·rename_i hd;simp only[sI,pI] at hact;obtain⟨rfl,rfl⟩:=hact;exact weak (B3 hop hu h1 h2 hc.1 hc.2.1 hc.2.2 h4 hidx ⟨hb.1,hb.2.1,hb.2.2⟩ ht H (gS.1 hd).1 (hsl (by simp))) (fun id h=>.inl ⟨by simp,h⟩)
       ·cases hact
      ·cases hact
     ·cases hact
    ·cases htr
   ·cases htr
  ·cases htr
 | _=>rw[hop] at htr;simp[bG] at htr
end
def mn (P:Program) (f:Nat) (args:List V) (h:List O) (r:V) (h':List O):Prop :=
 ∀g w (cargs:Array Value),HOk g w h→cargs.size=args.length→(∀i (hi:i<cargs.size) (hj:i<args.length),Rep g w cargs[i] args[i]) →
  Calls P f cargs w (fun e w'=>∃v g',e=.returned v∧Le g w g' w'∧HOk g' w' h'∧Rep g' w' v r∧Quiet (Frb h.length h) g h g' h')
def jC (P : Program) (f : Nat) : Prop := ∃ fn, P.funcs[f]? = some fn ∧ (fn.name == "runtime.NumGoroutine") = false ∧ fn.body.isNone = false
def vk (P:Program) (y:Nat) (args:List V) (h:List O) (r:V) (h':List O):Prop :=
 ∀(k:Nat) (vs caps:List V),args=.c (.int .i64 k)::(vs++caps)→∀g w l (tmps cvs:Array Value),HOk g w h→g.blk k=some l→LoopAt w l y vs.length tmps→tmps.size=caps.length →
  (∀i (hi:i<tmps.size) (hj:i<caps.length),Rep g w tmps[i] caps[i])→cvs.size=vs.length→(∀i (hi:i<cvs.size) (hj:i<vs.length),Rep g w cvs[i] vs[i]) →
  ∃fn tm' asg body,(Instr.yield l cvs).run P w=.ok (.round l fn tm' asg body) w∧RoundIn Fence.wide 0 P l fn tm' asg body w
   (fun e w'=>∃v g',e=.returned v∧Le g w g' w'∧HOk g' w' h'∧Rep g' w' v r∧Quiet (Frb h.length h) g h g' h')
def br (P:Program) (cf:av):Prop:=∀f args h r h',cf f args h=some (r,h')→(f<rid→jC P f∧mn P f args h r h')∧(rid≤f→vk P f args h r h')
def FR (ρ:Option Nat):Fence:={ Fence.wide with round:=ρ }
theorem iF {P:Program}{ρ:Option Nat}{n f:Nat}{args:Array Value}{w:World}{R:Ending→World→Prop}(h:Calls P f args w R):CallsIn (FR ρ) n P f args w R :=
 (callsIn_wide (n:=n)).2 h
theorem yC {P:Program}{ρ:Option Nat}{n m l f:Nat}{tmps:Array Value}{a b:Code}{w:World}{R:Ending→World→Prop}(h:RoundIn Fence.wide m P l f tmps a b w R):RoundIn (FR ρ) n P l f tmps a b w R :=
 ⟨trivial,fun c cs _=>h.2 c cs (room_wide _)⟩
def trG (ops:Array Oper):Option (Nat × Bool)→Option (Option (Nat × Bool))
 | none=>some none
 | some (j,b)=>match (ops[j]?).bind (·.dst) with
  | some t=>some (some (t,b))
  | none=>none
def j0 (P:Program) (rw:Bool) (ops:Array Oper) (al:Nat) (o:Oper):Option (XOper × List O) :=
 match bG P rw al o.op,trG ops o.guard with
 | some (x,pre),some g=>some (⟨o.dst,x,g⟩,pre)
 | _,_=>none
structure Sim (ds:List Deferred) (g:Gh) (w:World) (a:Act) (st:St):Prop where
 tm:Tm g w a st.tm
 hk:HOk g w st.h
 df:a.defers=ds
def oe (g:Gh) (h:List O) (s:Nat) (pre:List O):Prop:=pre≠[]→g.blk s=none∧g.tok s=none∧∀p∈pre,h[s]?=some p
section
variable {P:Program}{g g':Gh}{w w':World}{a:Act}{tm:List V}{ds:List Deferred}{ρ:Option Nat}{nn:Nat}
theorem Tm.mono (hle:Le g w g' w') (ht:Tm g w a tm):Tm g' w' a tm:=⟨ht.1,fun i hi hj=>(ht.2 i hi hj).mono hle,fun n v e=>(ht.3 n v e).mono hle⟩
theorem Tm.put (ht:Tm g w a tm){d:Option Nat}{x:Value}{v:V}(hr:Rep g w x v):Tm g w (a.put d x) (bH tm d v):=by
 cases d with
 | none=>exact ht
 | some d =>
  refine⟨by simp[Act.put,bH,ht.1],fun i hi hj=>?_,ht.3⟩;simp only[Act.put,bH] at hi hj ⊢;rw[Array.getElem_setIfInBounds,List.getElem_set];split
  ·exact hr
  ·exact ht.2 i (by simpa using hi) (by simpa using hj)
theorem xJ (ht:Tm g w a tm){ops:Array Oper}{o:Oper}{gd:Option (Nat × Bool)}(hg:trG ops o.guard=some gd) (hk:aZ tm gd=true):Region.wanted o (yielded ops a.tmps)=aY tm gd:=by
 unfold Region.wanted;cases hgd:o.guard with
 | none=>rw[hgd] at hg;simp only[trG,sI] at hg;subst hg;rfl
 | some p =>
  obtain⟨j,b⟩:=p;rw[hgd] at hg;simp only[trG] at hg;split at hg
  ·rename_i t hdst;simp only[sI] at hg;subst hg;simp only[aY,yielded,hdst,Option.bind_some];by_cases hi:t<tm.length
   ·have hi':t<a.tmps.size:=by rw[ht.1];exact hi
    have hr:=ht.2 t hi' hi;simp only[aZ] at hk;rw[gE hi] at hk ⊢;rw[Array.getElem?_eq_getElem hi'];generalize a.tmps[t]=x at hr;generalize tm[t]=v at hr hk;cases hr with
    | c x=>cases x <;> simp
    | top x=>simp at hk
    | _=>simp
   ·have hi':¬t<a.tmps.size:=by rw[ht.1];exact hi
    rw[List.getElem?_eq_none (Nat.le_of_not_lt hi),Array.getElem?_eq_none (Nat.le_of_not_lt hi')];simp
  ·cases hg
theorem ui {o:Oper}{al:Nat}{x:XOp}{pre:List O}{rw:Bool}(htr:bG P rw al o.op=some (x,pre)){st:St}(ht:Tm g w a st.tm) (H:HOk g w st.h){cf:av}{v:V}{h':List O}(hact:act cf st x=some (v,h'))
    (hcf:br P cf) (hfr:oe g st.h (st.rb+al) pre){K:Act→World→Prop}{Q:Exit→Act→World→Prop}
    (hK:∀val w' g',Le g w g' w'→HOk g' w' h'→Rep g' w' val v→Quiet (fun id=>(pre≠[]∧id=st.rb+al)∨Frb st.h.length st.h id) g st.h g' h'→K (a.put o.dst val) w'):o.wpIn (FR ρ) nn P a w K Q:=by
  have hsem:Oper.semAt (FR ρ).round a.eval o=execOp a.eval o:=Oper.semAt_eq _ _ _ fun c hc=>by rw[hc] at htr;simp[bG] at htr
  have hdep:¬(FR ρ).depth.isSome=true:=by simp[FR,Fence.wide]
  cases hc:cT x with
  | false =>
    obtain⟨val,w',g',h1,h2,h3,h4,h5⟩:=E3 htr ht H hact hc (fun hne=>⟨(hfr hne).1,(hfr hne).2.1⟩) (fun _ p hp=>(hfr (List.ne_nil_of_mem hp)).2.2 p hp);unfold Oper.wpIn;refine⟨fun _ _=>trivial,?_⟩;rw[hsem];rcases h1 with h1|⟨h1,rfl⟩
    · rw[h1];exact hK _ _ _ h2 h3 h4 (h5.mono fun _ h=>h.imp (fun h=>h) .inr)
    · rw[h1];exact hK _ _ _ h2 h3 h4 (h5.mono fun _ h=>h.imp (fun h=>h) .inr)
  | true =>
    cases x with
    | call fa xas =>
      obtain⟨c,hop,hval⟩:∃c,o.op=.call c∧bj P rw al c=some (.call fa xas,pre):=by
        cases hop:o.op<;>rw[hop] at htr<;>(try simp only[bG,jQ,iM] at htr)
        case call c=>exact⟨c,rfl,htr⟩
        case makeMap t r =>
          exfalso;cases r<;>simp[bG] at htr
        case makeFunc fn first caps =>
          exfalso;cases fn<;>simp only[bG] at htr
          all_goals (repeat' split at htr)
          all_goals simp[mS] at htr
        all_goals (first
          | (cases htr;done)
          | (simp only[mS,pI,reduceCtorEq,false_and,and_false,exists_false] at htr;done)
          | (exfalso;repeat' split at htr
             all_goals simp[mS] at htr))
      obtain⟨cal,args,tys⟩:=c;have hv:∃F,cal=.value F∧trA F=some fa∧kD args.toList=some xas:=by
        cases cal with
        | value F =>
          simp only[bj] at hval;split at hval
          · rename_i f' xas' h1 h2
            simp only[sI,pI,XOp.call.injEq] at hval;obtain⟨⟨rfl,rfl⟩,_⟩:=hval;exact⟨F,rfl,h1,h2⟩
          · cases hval
        | invoke r m=>simp[bj] at hval
        | builtin b =>
          exfalso;cases b<;>simp only[bj] at hval
          all_goals (first
            | (cases hval;done)
            | (simp only[mS,pI,reduceCtorEq,false_and,and_false,exists_false] at hval;done)
            | (simp only[oh,lh] at hval
               repeat' split at hval
               all_goals simp[mS] at hval))
      obtain⟨F,rfl,hF,has⟩:=hv;obtain⟨hl,hr⟩:=fO ht has;have hFr:=aN ht hF;simp only[act] at hact;have fnCase:∀(fv:V),ev st.tm fa=fv→fU cf fv (xas.map (ev st.tm)) st.h=some (v,h')→o.wpIn (FR ρ) nn P a w K Q:=by
        intro fv hfv hact;rw[hfv] at hFr;unfold fU at hact;split at hact
        · rename_i f caps hcal
          split at hact;rotate_left
          · cases hact
          rename_i hfr0;obtain⟨hcall,hlen⟩:=bd hact;obtain⟨⟨fn,hfn,hnm,hbody⟩,hat⟩:=(hcf _ _ _ _ _ hcall).1 hfr0;obtain⟨cv,hFv,hcs,hcr⟩:∃cv:Array Value,a.eval F=.func (.func f) #[] cv∧cv.size=caps.length∧∀i (hi:i<cv.size) (hj:i<caps.length),Rep g w cv[i] caps[i]:=by
            unfold aT at hcal;split at hcal
            · split at hcal
              · rename_i hpq
                simp only[sI,pI] at hcal;obtain⟨rfl,rfl⟩:=hcal;obtain⟨h1,h2⟩:=hpq;rw[Array.eq_empty_of_size_eq_zero h1,Array.eq_empty_of_size_eq_zero h2] at hFr;exact⟨#[],hFr.of_c,rfl,fun i hi=>absurd hi (by simp)⟩
              · cases hcal
            · simp only[sI,pI] at hcal
              obtain⟨rfl,rfl⟩:=hcal;exact hFr.of_clo
            · cases hcal
          have hrun:(execOp a.eval o).run P w=.ok (.enter f (args.map a.eval++cv)) w:=by
            simp only[execOp,hop,resolve,Sem.run_bind,hFv,Deferred.ofValue,Sem.run_pure,Result.andThen_ok,invoke,callFunc]
            have n1 : ¬ fn.name = "runtime.NumGoroutine" := by simpa using hnm
            have n2:¬fn.body=none:=by intro h;rw[h] at hbody;simp at hbody
            simp[hfn,n1,n2]
          unfold Oper.wpIn;refine⟨fun _ _=>trivial,?_⟩;rw[hsem,hrun,Oper.uponIn_enter];refine⟨fun h=>absurd h hdep,iF (Calls.mono (hat g w _ H (by simp[hcs];simpa using hl) fun i hi hj=>?_) ?_)⟩
          · rw[Array.getElem_append,List.getElem_append]
            have e1:(args.map a.eval).size=(xas.map (ev st.tm)).length:=by simpa using hl
            simp only[e1];split
            · rename_i hlt
              have h1:i<args.toList.length:=by rw[hl];simpa using hlt
              have:=hr i h1 (by simpa using hlt);simpa using this
            · exact hcr _ _ _
          · rintro e w' ⟨v,g',rfl,h1,h2,h3,h4⟩
            exact hK _ _ _ h1 h2 h3 (h4.mono fun _ h=>.inr h)
        · cases hact
      unfold eb at hact;split at hact
      · rename_i k y m caps hfv
        split at hact;rotate_left
        · cases hact
        rename_i hyr;obtain⟨hyr,hym⟩:=hyr;obtain⟨hcall,hlen⟩:=bd hact;have hat:=(hcf _ _ _ _ _ hcall).2 hyr;rw[hfv] at hFr;obtain⟨x0,hx0⟩:∃x0,a.eval F=x0:=⟨_,rfl⟩
        rw[hx0] at hFr;cases hFr with
        | yld l _ _ _ tmps _ hb hla hn hrep =>
          obtain⟨fn,tm',asg,body,hy,hR⟩:=hat k (xas.map (ev st.tm)) caps rfl g w l tmps (args.map a.eval) H hb (by rw[hym];exact hla) hn hrep (by simpa using hl) (fun i hi hj=>by
            have h1:i<args.toList.length:=by simpa using hi
            have:=hr i h1 (by simpa using hj);simpa using this)
          have hrun:(execOp a.eval o).run P w=.ok (.round l fn tm' asg body) w:=by
            simp only[execOp,hop,resolve,Sem.run_bind,hx0,Deferred.ofValue,Sem.run_pure,Result.andThen_ok,invoke,Array.empty_append,hy]
          unfold Oper.wpIn;refine⟨fun _ _=>trivial,?_⟩;rw[hsem,hrun,Oper.uponIn_round];refine⟨fun h=>absurd h hdep,yC (RoundIn.mono hR ?_)⟩;rintro e w' ⟨v,g',rfl,h1,h2,h3,h4⟩;exact hK _ _ _ h1 h2 h3 (h4.mono fun _ h=>.inr h)
      · rename_i f id o' hfv
        split at hact;rotate_left
        · cases hact
        rename_i hfr0;obtain⟨hcall,hlen⟩:=bd hact;obtain⟨⟨fn,hfn,hnm,hbody⟩,hat⟩:=(hcf _ _ _ _ _ hcall).1 hfr0;rw[hfv] at hFr;obtain⟨b,hFv,hb⟩:=hFr.of_bnd;have hrun:(execOp a.eval o).run P w=.ok (.enter f (#[.pointer (some ⟨b,o',none⟩)]++args.map a.eval)) w:=by
          simp only[execOp,hop,resolve,Sem.run_bind,hFv,Deferred.ofValue,Sem.run_pure,Result.andThen_ok,invoke,callFunc]
          have n1 : ¬ fn.name = "runtime.NumGoroutine" := by simpa using hnm
          have n2:¬fn.body=none:=by intro h;rw[h] at hbody;simp at hbody
          simp[hfn,n1,n2]
        unfold Oper.wpIn;refine⟨fun _ _=>trivial,?_⟩;rw[hsem,hrun,Oper.uponIn_enter];refine⟨fun h=>absurd h hdep,iF (Calls.mono (hat g w _ H (by simp;have:=hl;simp at this;omega) fun i hi hj=>?_) ?_)⟩
        · cases i with
          | zero=>simpa using Rep.ref id b o' hb
          | succ i =>
            have h1:i<args.toList.length:=by simp at hi ⊢;omega
            have:=hr i h1 (by simp at hj ⊢;omega);rw[Array.getElem_append_right (by simp)];simpa using this
        · rintro e w' ⟨v,g',rfl,h1,h2,h3,h4⟩
          exact hK _ _ _ h1 h2 h3 (h4.mono fun _ h=>.inr h)
      · exact fnCase _ rfl hact
    | _=>simp[cT] at hc
theorem jq {ops:Array Oper}{o:Oper}{al:Nat}{x:XOper}{pre:List O}{rw:Bool}(htr:j0 P rw ops al o=some (x,pre)){st st':St}{cf:av}(hs:aI cf x st=some st') (hcf:br P cf) (S:Sim ds g w a st) (hfr:oe g st.h (st.rb+al) pre)
  {K:Act→World→Prop}{Q:Exit→Act→World→Prop}
  (hK:∀a' w' g',Le g w g' w'→Sim ds g' w' a' st'→Quiet (fun id=>(pre≠[]∧id=st.rb+al)∨Frb st.h.length st.h id) g st.h g' st'.h→K a' w') :
  if Region.wanted o (yielded ops a.tmps) then o.wpIn (FR ρ) nn P a w K Q else K (a.put o.dst undef) w:=by
 unfold j0 at htr;split at htr
 ·rename_i x' pre' gd h1 h2;simp only[sI,pI] at htr;obtain⟨rfl,rfl⟩:=htr;unfold aI at hs;simp only at hs;split at hs;rotate_left
  ·cases hs
  rename_i hkn;rw[xJ S.tm h2 hkn];split at hs
  ·rename_i hw;rw[if_pos hw];split at hs
   ·rename_i v h' hact;simp only[sI] at hs;subst hs;refine ui h1 S.tm S.hk hact hcf hfr fun val w' g' k1 k2 k3 k4=>hK _ _ _ k1 ⟨(S.tm.mono k1).put k3,k2,?_⟩ k4
    cases o.dst<;>exact S.df
   ·cases hs
  ·rename_i hw;rw[if_neg hw];simp only[sI] at hs;subst hs;refine hK _ _ _ (Le.refl _ _) ⟨S.tm.put (.c _),S.hk,?_⟩ (Quiet.refl _ _ _);cases o.dst<;>exact S.df
 ·cases htr
theorem uU {cf:av}{st:St}{x:XOp}{v:V}{h':List O}(hact:act cf st x=some (v,h')):st.h.length≤h'.length:=by
  cases x
  case load n x =>
    simp only[act] at hact;split at hact
    · split at hact
      · simp only[mS,pI] at hact
        obtain⟨_,_,_,rfl⟩:=hact;exact nL _
      · cases hact
    · simp only[mS,pI] at hact
      obtain⟨_,_,_,rfl⟩:=hact;exact nL _
    · cases hact
  case store n a x =>
    simp only[act] at hact;split at hact
    · split at hact
      · split at hact
        · simp only[sI,pI] at hact;rw[← hact.2];simp
        · cases hact
      · cases hact
    · split at hact
      · split at hact
        · simp only[sI,pI] at hact;rw[← hact.2];simp
        · cases hact
      · cases hact
    · cases hact
  case box al x =>
    simp only[act] at hact;split at hact
    · split at hact
      · simp only[sI,pI] at hact;rw[← hact.2];simp
      · cases hact
    · cases hact
  case append al z b rw x y =>
    simp only[act] at hact;split at hact
    · split at hact
      · split at hact
        · simp only[sI,pI] at hact;rw[← hact.2];exact nL _
        · split at hact
          · split at hact
            · split at hact
              · simp only[sI,pI] at hact;rw[← hact.2];simp
              · simp only[sI,pI] at hact;rw[← hact.2];simp
            · split at hact
              · cases hact
              · simp only[sI,pI] at hact;rw[← hact.2];simp
            · cases hact
          · split at hact
            · split at hact
              · split at hact<;>(simp only[sI,pI] at hact;rw[← hact.2];simp)
              · simp only[sI,pI] at hact;rw[← hact.2];simp
            · split at hact
              · cases hact
              · simp only[sI,pI] at hact;rw[← hact.2];simp
            · cases hact
          · split at hact
            · split at hact
              · simp only[sI,pI] at hact;rw[← hact.2];simp
              · cases hact
            · cases hact
          all_goals cases hact
      · cases hact
    · split at hact
      · split at hact
        · simp only[sI,pI] at hact;rw[← hact.2];exact nL _
        · split at hact
          · split at hact
            · simp only[sI,pI] at hact;rw[← hact.2];simp
            · cases hact
          · cases hact
      · cases hact
    · cases hact
  case makeMap al =>
    simp only[act] at hact;split at hact
    · simp only[sI,pI] at hact;rw[← hact.2];simp
    · cases hact
  case lookup kd z ok x k =>
    simp only[act] at hact
    repeat' split at hact
    all_goals first
      | (cases hact;done)
      | (simp only[mS,pI] at hact
         obtain⟨_,_,_,rfl⟩:=hact;exact nL _)
  case mapUpd kd m k u =>
    simp only[act] at hact
    repeat' split at hact
    all_goals first
      | (cases hact;done)
      | (simp only[mS,pI] at hact
         obtain⟨_,_,_,rfl⟩:=hact;simp)
  case mksl al z zero n =>
    simp only[act] at hact
    repeat' split at hact
    all_goals first
      | (cases hact;done)
      | (simp only[sI,pI] at hact
         rw[← hact.2];simp)
  case load2 n x =>
    simp only[act] at hact
    repeat' split at hact
    all_goals first
      | (cases hact;done)
      | (simp only[mS,pI] at hact
         obtain⟨_,_,_,rfl⟩:=hact;exact nL _)
  case load1 x =>
    simp only[act] at hact
    repeat' split at hact
    all_goals first|(cases hact;done)|(simp only[sI,pI] at hact;rw[← hact.2];exact nL _)
  case call f args =>
    simp only[act,eb,fU] at hact
    repeat' split at hact
    all_goals first|(cases hact;done)|exact (bd hact).2
  all_goals
    simp only[act,mS,pI] at hact;obtain⟨_,_,_,rfl⟩:=hact;exact nL _
theorem db {cf:av}{x:XOper}{st st1:St}(h:aI cf x st=some st1):st.h.length≤st1.h.length:=by
 unfold aI at h;split at h;rotate_left
 ·cases h
 split at h
 ·split at h
  ·rename_i hact;simp only[sI] at h;rw[← h];exact uU hact
  ·cases h
 ·simp only[sI] at h;rw[← h];exact nL _
def O.owned:O→Bool
 | .free=>false
 | _=>true
def ep (P:Program) (rw:Bool) (ops:Array Oper):List Oper→Nat→Option (List XOper × List O)
 | [],_=>some ([],[])
 | o::r,al=>match j0 P rw ops al o with
  | some (x,pre)=>if pre.length≤1∧pre.all O.owned=true then match ep P rw ops r (al+pre.length) with
    | some (xs,pres)=>some (x::xs,pre++pres)
    | none=>none
   else none
  | none=>none
theorem iT {rw:Bool}{ops:Array Oper}:∀(l:List Oper) (al:Nat) (xs:List XOper) (pres:List O),ep P rw ops l al=some (xs,pres)→pres.all O.owned=true
 | [],al,xs,pres,h=>by
  simp only[ep,sI,pI] at h;rw[← h.2];rfl
 | o::l,al,xs,pres,h=>by
  simp only[ep] at h;split at h
  ·split at h
   ·rename_i hpl;split at h
    ·rename_i xs' pres' h2;simp only[sI,pI] at h;rw[← h.2,List.all_append,hpl.2,iT l _ _ _ h2];rfl
    ·cases h
   ·cases h
  ·cases h
theorem vl {rw:Bool}{ops:Array Oper}{cf:av}(hcf:br P cf){Q:Exit→Act→World→Prop}{st':St}:∀(l:List Oper) (al:Nat) (xs:List XOper) (pres:List O) (g:Gh) (w:World) (a:Act) (st:St),
  ep P rw ops l al=some (xs,pres)→aC cf xs st=some st'→Sim ds g w a st→(∀j (hj:j<pres.length),g.blk (st.rb+al+j)=none∧g.tok (st.rb+al+j)=none∧st.h[st.rb+al+j]?=some pres[j]) →
  st.rb≤st.h.length→(∀a' w' g',Le g w g' w'→Sim ds g' w' a' st'→Quiet (Frb st.rb st.h) g st.h g' st'.h→Q .normal a' w')→wpListIn (FR ρ) nn P ops Q l a w
 | [],al,xs,pres,g,w,a,st,htr,hs,S,hfr,hrl,hQ=>by
  simp only[ep,sI,pI] at htr;obtain⟨rfl,rfl⟩:=htr;simp only[aC,sI] at hs;subst hs;exact hQ _ _ _ (Le.refl _ _) S (Quiet.refl _ _ _)
 | o::l,al,xs,pres,g,w,a,st,htr,hs,S,hfr,hrl,hQ=>by
  simp only[ep] at htr;split at htr
  ·rename_i x pre h1;split at htr
   ·rename_i hpl;split at htr
    ·rename_i xs' pres' h2;simp only[sI,pI] at htr;obtain⟨rfl,rfl⟩:=htr;simp only[aC] at hs;split at hs
     ·rename_i st1 hs1;have hrb:st1.rb=st.rb:=by
       unfold aI at hs1;split at hs1;rotate_left
       ·cases hs1
       split at hs1
       ·split at hs1
        ·simp only[sI] at hs1;rw[← hs1]
        ·cases hs1
       ·simp only[sI] at hs1;rw[← hs1]
      have hf0:oe g st.h (st.rb+al) pre:=by
       intro hne;cases pre with
       | nil=>exact absurd rfl hne
       | cons p r =>
        have hr:r=[]:=by cases r with
         | nil=>rfl
         | cons q r=>simp at hpl
        subst hr;have:=hfr 0 (by simp);simpa using this
      have:=jq (ρ:=ρ) (nn:=nn) (K:=wpListIn (FR ρ) nn P ops Q l) (Q:=Q) h1 hs1 hcf S hf0 fun a' w' g' k1 k2 k3=>by
       refine vl hcf l _ _ _ g' w' a' st1 h2 hs k2 (fun j hj=>?_) (by rw[hrb];exact Nat.le_trans hrl (db hs1)) fun a'' w'' g'' m1 m2 m3=>hQ _ _ _ (k1.trans m1) m2 ((k3.mono (E':=Frb st.rb st.h) fun id hid=>hid.elim (fun h=>.inl (by have:=h.2;omega)) fun h=>h.imp (fun h=>Nat.le_trans hrl h) fun h=>h).transL k2.hk k1 (by rw[← hrb];exact m3))
       have q:=hfr (pre.length+j) (by simp;omega);have e:st.rb+al+(pre.length+j)=st.rb+(al+pre.length)+j:=by omega
       rw[e] at q;have hin:=(gS.1 q.2.2).1;have hown:O.owned pres'[j]=true:=List.all_eq_true.1 (iT l _ _ _ h2) _ (List.getElem_mem hj);have hne:¬((pre≠[]∧st.rb+(al+pre.length)+j=st.rb+al)∨Frb st.h.length st.h (st.rb+(al+pre.length)+j)):=by
        rintro (⟨n1,n2⟩|n|n)
        ·cases pre with
         | nil=>exact n1 rfl
         | cons p r=>simp at n2;omega
        ·omega
        ·rw[q.2.2] at n;simp only[lA,hj,List.getElem_append_right,Nat.le_add_right,Nat.add_sub_cancel_left,sI] at n;rw[n] at hown;cases hown
       have k:=k3 _ hne;rw[hrb];refine⟨k.1 q.1,k.2.1 q.2.1,(k.2.2 q.1 q.2.1).trans ?_⟩;rw[q.2.2];simp
      unfold wpListIn;split
      ·rename_i hw;rw[if_pos hw] at this;exact this
      ·rename_i hw;rw[if_neg hw] at this;exact⟨fun _ _=>trivial,this⟩
     ·cases hs
    ·cases htr
   ·cases htr
  ·cases htr
end
def A.rd:A→List Nat
 | .t i=>[i]
 | .k _=>[]
def oRd:Option A→List Nat
 | some x=>x.rd
 | none=>[]
def XOp.rd:XOp→List Nat
 | .mv x=>x.rd
 | .pick c a b=>c.rd++(a.rd++b.rd)
 | .alloc _ _=>[]
 | .box _ x=>x.rd
 | .build _ parts=>parts.flatMap fun p=>p.2.2.rd
 | .bslice _ _ parts=>parts.flatMap A.rd
 | .load _ x=>x.rd
 | .store _ a x=>a.rd++x.rd
 | .bin _ _ x y=>x.rd++y.rd
 | .un _ x=>x.rd
 | .fieldAddr _ x=>x.rd
 | .field _ _ x=>x.rd
 | .indexAddr _ x i=>x.rd++i.rd
 | .index x i=>x.rd++i.rd
 | .slice _ _ x lo hi mx=>x.rd++(oRd lo++(oRd hi++oRd mx))
 | .extract x _=>x.rd
 | .len _ x=>x.rd
 | .append _ _ _ _ x y=>x.rd++y.rd
 | .mm _ args=>args.flatMap A.rd
 | .conv _ x=>x.rd
 | .call f args=>f.rd++args.flatMap A.rd
 | .clos _ caps=>caps.flatMap A.rd
 | .nilchk x=>x.rd
 | .makeMap _=>[]
 | .lookup _ _ _ x k=>x.rd++k.rd
 | .mapUpd _ m k v=>m.rd++(k.rd++v.rd)
 | .mksl _ _ _ n=>n.rd
 | .eqs _ _ x y=>x.rd++y.rd
 | .bndm _ x=>x.rd
 | .load1 x=>x.rd
 | .load2 _ x=>x.rd
def XOper.rd (o:XOper):List Nat:=o.op.rd++(match o.g with
 | some (t,_)=>[t]
 | none=>[])
def Agr (l:List Nat) (tm tm':List V):Prop:=∀t∈l,tm[t]?=tm'[t]?
theorem Agr.left {l l':List Nat}{tm tm':List V}(h:Agr (l++l') tm tm'):Agr l tm tm':=fun t ht=>h t (List.mem_append_left _ ht)
theorem Agr.right {l l':List Nat}{tm tm':List V}(h:Agr (l++l') tm tm'):Agr l' tm tm':=fun t ht=>h t (List.mem_append_right _ ht)
theorem bv {tm tm':List V}{x:A}(h:Agr x.rd tm tm'):ev tm x=ev tm' x:=by
 cases x with
 | t i=>simp only[ev,List.getD_eq_getElem?_getD,h i (by simp[A.rd])]
 | k v=>rfl
theorem jb {tm tm':List V}:∀{xs:List A},Agr (xs.flatMap A.rd) tm tm'→xs.map (ev tm)=xs.map (ev tm')
 | [],_=>rfl
 | x::xs,h=>by
  simp only[List.flatMap_cons] at h;simp only[List.map_cons,bv h.left,jb h.right]
theorem qo {tm tm':List V}:∀{parts:List (Nat × Nat × A)}{z:List V},Agr (parts.flatMap fun p=>p.2.2.rd) tm tm'→fQ z tm parts=fQ z tm' parts
 | [],_,_=>rfl
 | (off,n,x)::r,z,h=>by
  simp only[List.flatMap_cons] at h;simp only[fQ,bv h.left,qo h.right]
theorem rx {tm tm':List V}{d:Int}{x:Option A}(h:Agr (oRd x) tm tm'):bc tm d x=bc tm' d x:=by
 cases x with
 | none=>rfl
 | some x=>simp only[bc,bv h]
theorem vf {tm tm':List V}{rb:Nat}{op:XOp}(h:Agr op.rd tm tm'):aB tm rb op=aB tm' rb op:=by
 cases op<;>simp only[XOp.rd] at h
 case build z parts=>simp only[aB,qo h]
 case bslice al z parts =>
  have:(parts.map fun x=>(ev tm x).vw2)=parts.map fun x=>(ev tm' x).vw2:=by
   have:=jb h;have:=congrArg (List.map V.vw2) this;simpa[List.map_map] using this
  simp only[aB,this]
 case mm b args=>simp only[aB,jb h]
 case clos f caps=>simp only[aB,jb h]
 case slice str z x lo hi mx =>
  have e1:=bv h.left;have e2:=fun d=>rx (d:=d) h.right.left
  have e3:=fun d=>rx (d:=d) h.right.right.left
  have h4:=h.right.right.right;have e5:∀s,stV tm s lo hi mx=stV tm' s lo hi mx:=by
   intro s;simp only[stV,e2,e3]
  have e6:∀us,slV tm us z lo hi mx=slV tm' us z lo hi mx:=by
   intro us;simp only[slV,e2,e3];cases bc tm' 0 lo with
   | none=>rfl
   | some l=>cases bc tm' (us.length:Int) hi with
    | none=>rfl
    | some k=>cases mx with
     | none=>rfl
     | some m=>simp only[oRd] at h4;simp only[bv h4]
  have e7:∀id off n zz,xD tm id off n zz z lo hi mx=xD tm' id off n zz z lo hi mx:=by
   intro id off n zz;simp only[xD,e2,e3];split
   ·cases bc tm' 0 lo with
    | none=>rfl
    | some l=>cases bc tm' (n:Int) hi with
     | none=>rfl
     | some k=>cases mx with
      | none=>rfl
      | some m=>simp only[oRd] at h4;simp only[bv h4]
   ·rfl
  simp only[aB,e1,e5,e6,e7]
 case pick c a b=>simp only[aB,bv h.left,bv h.right.left,bv h.right.right]
 all_goals first
  | (simp only[aB];done)
  | (simp only[aB,bv h];done)
  | (simp only[aB,bv h.left,bv h.right];done)
theorem Bj {cf:av}{st:St}{tm':List V}{op:XOp}(h:Agr op.rd st.tm tm'):act cf st op=act cf { st with tm:=tm' } op:=by
 cases op
 case load n x=>simp only[XOp.rd] at h;simp only[act,bv h]
 case store n a x=>simp only[XOp.rd] at h;simp only[act,bv h.left,bv h.right]
 case box al x=>simp only[XOp.rd] at h;simp only[act,bv h]
 case append al z b rw x y=>simp only[XOp.rd] at h;simp only[act,bv h.left,bv h.right]
 case call f args=>simp only[XOp.rd] at h;simp only[act,bv h.left,jb h.right]
 case makeMap al=>simp only[act]
 case lookup kd z ok x k=>simp only[XOp.rd] at h;simp only[act,bv h.left,bv h.right]
 case mksl al z zero n=>simp only[XOp.rd] at h;simp only[act,bv h]
 case mapUpd kd m k u=>simp only[XOp.rd] at h;simp only[act,bv h.left,bv h.right.left,bv h.right.right]
 case load1 x=>simp only[XOp.rd] at h;simp only[act,bv h]
 case load2 n x=>simp only[XOp.rd] at h;simp only[act,bv h]
 all_goals (simp only[act];rw[vf h])
def cls (pf:Nat→Nat):XOp→Nat
 | .load _ _=>1
 | .append _ _ _ rw _ _=>if rw then 3 else 2
 | .store _ _ _=>3
 | .box _ _=>3
 | .call (.k v) _=>match aT v with
  | some (f,_)=>if pf f=1 then 1 else if pf f=2 then 4 else if pf f=4 then 8 else 3
  | none=>3
 | .call _ _=>3
 | .makeMap _=>3
 | .lookup _ _ _ _ _=>1
 | .mapUpd _ _ _ _=>3
 | .mksl _ _ _ _=>3
 | .load1 _=>1
 | .load2 _ _=>1
 | _=>0
def O.isC:O→Prop
 | .cells _=>True
 | .tokc _ _ _=>True
 | .mapo _ _=>True
 | _=>False
def CellsLe (h h2:List O):Prop:=∀(id:Nat) (o:O),O.isC o→h[id]?=some o→h2[id]?=some o
def CellsGe (h h2:List O):Prop:=∀(id:Nat) (o:O),id<h.length→O.isC o→h2[id]?=some o→h[id]?=some o
theorem CellsGe.app (h e:List O):CellsGe h (h++e):=fun id o hid _ k=>by rw[aL hid] at k;exact k
def pQ (h h2:List O):Prop:=∀(id:Nat) (cs:List V),(h[id]?=some (.cells cs)→h2[id]?=some (.cells cs))∧(id<h.length→h2[id]?=some (.cells cs)→h[id]?=some (.cells cs))
def bQ (pf:Nat→Nat) (cf:av):Prop:=∀f args h r h',cf f args h=some (r,h')→(pf f=1→h'=h∧∀h2,CellsLe h h2→cf f args h2=some (r,h2))∧(pf f=2→CellsLe h h'∧CellsGe h h')∧(pf f=4→pQ h h')
theorem dg {pf:Nat→Nat}{cf:av}{st:St}{op:XOp}(hc:cls pf op=0) (h2:List O):act cf { st with h:=h2 } op=(act cf st op).map fun r=>(r.1,h2):=by
 cases op
 case load n x=>simp[cls] at hc
 case store n a x=>simp[cls] at hc
 case box al x=>simp[cls] at hc
 case makeMap al=>simp[cls] at hc
 case lookup kd z ok x k=>simp[cls] at hc
 case mapUpd kd m k u=>simp[cls] at hc
 case mksl al z zero n=>simp[cls] at hc
 case load1 x=>simp[cls] at hc
 case load2 n x=>simp[cls] at hc
 case append al z b rw x y=>simp only[cls] at hc;split at hc<;>cases hc
 case call f args =>
  cases f with
  | t i=>simp[cls] at hc
  | k v =>
   simp only[cls] at hc;split at hc
   ·split at hc
    ·cases hc
    ·split at hc
     ·cases hc
     ·split at hc<;>cases hc
   ·cases hc
 all_goals (simp only[act,Option.map_map];rfl)
theorem dV {pf:Nat→Nat}{cf:av}(hp:bQ pf cf){st:St}{op:XOp}(hc:cls pf op=1){v:V}{h':List O}(e:act cf st op=some (v,h')) :
  h'=st.h∧∀h2:List O,CellsLe st.h h2→act cf { st with h:=h2 } op=some (v,h2):=by
 cases op
 case load n x =>
  simp only[act] at e ⊢;cases hx:ev st.tm x with
  | ref id o =>
   rw[hx] at e;simp only at e;split at e
   ·rename_i cs hcs;simp only[mS,pI] at e;obtain⟨v',hv,rfl,rfl⟩:=e;exact⟨rfl,fun h2 hh=>by simp only[hh _ (O.cells _) trivial hcs,hv,Option.map_some]⟩
   ·cases e
  | ptr cs o =>
   rw[hx] at e;simp only[mS,pI] at e;obtain⟨v',hv,rfl,rfl⟩:=e;exact⟨rfl,fun h2 hh=>by simp only[hv,Option.map_some]⟩
  | _=>rw[hx] at e;simp at e
 case load1 x =>
  simp only[act] at e ⊢;split at e
  ·split at e
   ·rename_i c hcs;simp only[sI,pI] at e;obtain⟨rfl,rfl⟩:=e;exact⟨rfl,fun h2 hh=>by simp only[hh _ (O.cells _) trivial hcs]⟩
   ·cases e
  ·cases e
 case load2 n x =>
  simp only[act] at e ⊢;cases hx:ev st.tm x with
  | ref id o =>
   rw[hx] at e;simp only at e;split at e;rotate_left
   ·cases e
   rename_i hid;split at e
   ·rename_i cs hcs;simp only[mS,pI] at e;obtain⟨v',hv,rfl,rfl⟩:=e;exact⟨rfl,fun h2 hh=>by simp only[if_pos hid,hh _ (O.cells _) trivial hcs,hv,Option.map_some]⟩
   ·cases e
  | ptr cs o =>
   rw[hx] at e;simp only[mS,pI] at e;obtain⟨v',hv,rfl,rfl⟩:=e;exact⟨rfl,fun h2 hh=>by simp only[hv,Option.map_some]⟩
  | _=>rw[hx] at e;simp at e
 case lookup kd z ok x k =>
  simp only[act] at e ⊢;cases hk:l6 kd (ev st.tm k) with
  | none=>rw[hk] at e;cases e
  | some kv =>
   rw[hk] at e;simp only at e ⊢;split at e
   ·split at e
    ·simp only[mS,pI] at e;obtain⟨q,hq,rfl,rfl⟩:=e;exact⟨rfl,fun h2 hh=>by simp only[hq,Option.map_some]⟩
    ·cases e
   ·split at e
    ·rename_i ks vs hid;simp only[mS,pI] at e;obtain⟨q,hq,rfl,rfl⟩:=e;exact⟨rfl,fun h2 hh=>by simp only[hh _ (O.mapo _ _) trivial hid,hq,Option.map_some]⟩
    ·cases e
   ·cases e
 case append al z b rw x y=>simp only[cls] at hc;split at hc<;>cases hc
 case call f args =>
  cases f with
  | t i=>simp[cls] at hc
  | k v =>
   simp only[cls] at hc;simp only[act,ev] at e ⊢;cases hv:aT v with
   | none=>rw[hv] at hc;simp at hc
   | some p =>
    obtain⟨f,caps⟩:=p;rw[hv] at hc;simp only at hc;rw[di hv] at e;simp only[di hv];have hpf:pf f=1:=by
     split at hc
     ·assumption
     ·split at hc
      ·cases hc
      ·split at hc<;>cases hc
    split at e;rotate_left
    ·cases e
    rename_i hfr;obtain⟨hcf,hlen⟩:=bd e;obtain⟨rfl,k⟩:=(hp f _ _ _ _ hcf).1 hpf;exact⟨rfl,fun h2 hh=>by simp[hfr,longer,k h2 hh]⟩
 all_goals simp[cls] at hc
theorem kf {cf:av}{st:St}{al b:Nat}{z:Option Nat}{x y:A}{v:V}{h':List O}(e:act cf st (.append al z b false x y)=some (v,h')) :
  (h'=st.h∨∃(s n z':Nat),h'=st.h.set s (O.tok n z')∧∀o:O,O.isC o→st.h[s]?≠some o):=by
 simp only[act] at e;split at e
 ·split at e
  ·split at e
   ·simp only[sI,pI] at e;exact .inl e.2.symm
   ·split at e
    ·split at e
     ·rename_i hd;simp only[Bool.false_eq_true,if_false,sI,pI] at e;exact .inr ⟨_,_,_,e.2.symm,fun o ho=>by rw[hd];rintro⟨⟩;exact ho⟩
     ·rename_i hd;simp only[Bool.false_eq_true,if_false,sI,pI] at e;refine .inr ⟨_,_,_,e.2.symm,fun o ho=>?_⟩;rcases dY st.h st.base (st.rb+al) with hs|hs
      ·rw[hs,hd];rintro⟨⟩;exact ho
      ·rw[hs];rintro⟨⟩;exact ho
     ·cases e
    ·split at e
     ·rename_i hd;simp only[Bool.false_eq_true,if_false,sI,pI] at e;exact .inr ⟨_,_,_,e.2.symm,fun o ho=>by rw[hd];rintro⟨⟩;exact ho⟩
     ·rename_i hd;simp only[Bool.false_eq_true,if_false,sI,pI] at e;refine .inr ⟨_,_,_,e.2.symm,fun o ho=>?_⟩;rcases dY st.h st.base (st.rb+al) with hs|hs
      ·rw[hs,hd];rintro⟨⟩;exact ho
      ·rw[hs];rintro⟨⟩;exact ho
     ·cases e
    ·split at e
     ·rename_i hd;split at e
      ·simp only[sI,pI] at e;exact .inr ⟨_,_,_,e.2.symm,fun o ho=>by rw[hd];rintro⟨⟩;exact ho⟩
      ·cases e
     ·cases e
    all_goals cases e
  ·cases e
 ·split at e
  ·rename_i hc;exact absurd hc.1 (by simp)
  ·cases e
 ·cases e
def b8 (cf:av) (o:XOper) (st:St):Option (V × List O):=if aZ st.tm o.g then if aY st.tm o.g then act cf st o.op else some (az,st.h) else none
theorem bX (cf:av) (o:XOper) (st:St):aI cf o st=(b8 cf o st).map fun r=>{ st with tm:=bH st.tm o.d r.1,h:=r.2 }:=by
 unfold aI b8;split
 ·split
  ·cases act cf st o.op<;>rfl
  ·rfl
 ·rfl
theorem tq {tm tm':List V}{gd:Option (Nat × Bool)}(h:Agr (match gd with|some (t,_)=>[t]|none=>[]) tm tm'):aY tm gd=aY tm' gd:=by
 cases gd with
 | none=>rfl
 | some p=>obtain⟨t,b⟩:=p;simp only[aY,h t (by simp)]
theorem xg {tm tm':List V}{gd:Option (Nat × Bool)}(h:Agr (match gd with|some (t,_)=>[t]|none=>[]) tm tm'):aZ tm gd=aZ tm' gd:=by
 cases gd with
 | none=>rfl
 | some p=>obtain⟨t,b⟩:=p;simp only[aZ,h t (by simp)]
theorem eK {cf:av}{o:XOper}{st:St}{tm':List V}(h:Agr o.rd st.tm tm'):b8 cf o st=b8 cf o { st with tm:=tm' }:=by
 unfold b8;unfold XOper.rd at h;rw[tq h.right,xg h.right,Bj h.left]
def cC (x y:XOper):Bool :=
  (match x.d with
   | some d => !y.rd.contains d&&y.d != some d
   | none=>true) &&
  (match y.d with
   | some d => !x.rd.contains d
   | none=>true)
def gJ (i j:Nat):Bool:=i==0||j==0||(i==1&&j==1)||(i==1&&j==2)||(i==2&&j==1)||(i==1&&j==4)
def Gz:XOp→XOp→Bool
 | .load1 _,.store n _ _=>decide (2≤n)
 | _,_=>false
def F5:XOp→Bool
 | .load2 _ _=>true
 | _=>false
def ldC (pf:Nat→Nat) (x y:XOp):Bool:=(cls pf x==4||cls pf x==8)&&F5 y
def ldD (pf:Nat→Nat) (x y:XOp):Bool:=F5 x&&cls pf y==8
theorem wL {x:XOp}(h:F5 x=true):∃n q,x=.load2 n q:=by
 cases x<;>first|(cases h;done)|exact⟨_,_,rfl⟩
def mk2:XOp→XOp→Bool
 | .mksl a _ _ _,.mksl b _ _ _=>a != b
 | _,_=>false
def eS (pf:Nat→Nat) (x y:XOper):Bool:=cC x y&&(gJ (cls pf x.op) (cls pf y.op)||(Gz x.op y.op||(ldC pf x.op y.op||(ldD pf x.op y.op||mk2 x.op y.op))))
def two (o:XOper):XOper:=match o.op with
 | .load n x=>{ o with op:=.load2 n x }
 | _=>o
theorem EP (cf:av) (st st1:St) (x:XOper) (h:aI cf (two x) st=some st1):aI cf x st=some st1:=by
 unfold two at h;split at h
 ·rename_i n y hy;obtain⟨d,op,gd⟩:=x;simp only at hy h;subst hy;unfold aI at h ⊢;simp only at h ⊢;split at h
  ·rename_i h1;rw[if_pos h1];split at h
   ·rename_i h2;rw[if_pos h2];cases ha:act cf st (.load2 n y) with
    | none=>rw[ha] at h;cases h
    | some r =>
     rw[ha] at h;have:act cf st (.load n y)=some r:=by
      simp only[act] at ha ⊢;split at ha
      ·rename_i id o hid;split at ha
       ·exact ha
       ·cases ha
      ·exact ha
      ·cases ha
     rw[this];exact h
   ·rename_i h2;rw[if_neg h2];exact h
  ·cases h
 ·exact h
def one (o:XOper):XOper:=match o.op with
 | .load none x=>{ o with op:=.load1 x }
 | _=>o
theorem EI (cf:av) (st st1:St) (x:XOper) (h:aI cf (one x) st=some st1):aI cf x st=some st1:=by
 unfold one at h;split at h
 ·rename_i y hy;obtain⟨d,op,gd⟩:=x;simp only at hy h;subst hy;unfold aI at h ⊢;simp only at h ⊢;split at h
  ·rename_i h1;rw[if_pos h1];split at h
   ·rename_i h2;rw[if_pos h2];cases ha:act cf st (.load1 y) with
    | none=>rw[ha] at h;cases h
    | some r =>
     rw[ha] at h;have:act cf st (.load none y)=some r:=by
      simp only[act] at ha ⊢;split at ha
      ·rename_i id hid;split at ha
       ·rename_i c hc;rw[hid];simp only[hc];simpa[rdV] using ha
       ·cases ha
      ·cases ha
     rw[this];exact h
   ·rename_i h2;rw[if_neg h2];exact h
  ·cases h
 ·exact h
theorem mH {cf:av}{st:St}{n:Nat}{a x:A}{v:V}{h':List O}(hn:2≤n) (e:act cf st (.store n a x)=some (v,h')) (id:Nat) (c:V) :
  (st.h[id]?=some (.cells [c])↔h'[id]?=some (.cells [c])):=by
 simp only[act] at e;split at e
 ·rename_i id' o hid;split at e
  ·rename_i cs hcs;split at e
   ·rename_i hk;simp only[sI,pI] at e;obtain⟨_,rfl⟩:=e;obtain⟨k1,k2,k3⟩:=hk;obtain⟨hlt,_⟩:=gS.1 hcs;by_cases hi:id'=id
    ·subst hi;rw[hcs,sS hlt];simp only[sI,O.cells.injEq];constructor
     ·rintro rfl;simp only[List.length_singleton] at k3;omega
     ·intro h;have:=congrArg List.length h;simp only[bF,lA,List.length_take,List.length_drop,List.length_singleton] at this;omega
    ·rw[sN hi]
   ·cases e
  ·cases e
 ·rename_i k m o hid;split at e
  ·rename_i m' z cs hcs;split at e
   ·simp only[sI,pI] at e;obtain⟨_,rfl⟩:=e;obtain⟨hlt,_⟩:=gS.1 hcs;by_cases hi:k=id
    ·subst hi;rw[hcs,sS hlt];simp
    ·rw[sN hi]
   ·cases e
  ·cases e
 ·cases e
theorem Agr.put {l:List Nat}{tm:List V}{d:Option Nat}{v:V}(h:∀e,d=some e→e ∉ l):Agr l tm (bH tm d v):=by
 intro t ht;cases d with
 | none=>rfl
 | some d =>
  have:d≠t:=fun e=>h d rfl (e ▸ ht)
  simp only[bH,sN this]
theorem Hw {pf:Nat→Nat}{o:XOp}(ho:cls pf o=2):∃al z b p q,o=.append al z b false p q:=by
 cases o
 case append al z b rw p q =>
  simp only[cls] at ho;split at ho
  ·cases ho
  ·rename_i h;exact⟨al,z,b,p,q,by simpa using h⟩
 case call f args =>
  cases f with
  | t i=>simp[cls] at ho
  | k v =>
   simp only[cls] at ho;split at ho
   ·split at ho
    ·simp at ho
    ·split at ho
     ·simp at ho
     ·split at ho<;>simp at ho
   ·simp at ho
 all_goals simp[cls] at ho
theorem CellsLe.app (h e:List O):CellsLe h (h++e):=by
 intro id cs _ hid;rw[aL (gS.1 hid).1];exact hid
theorem qd {pf:Nat→Nat}{cf:av}(hp:bQ pf cf){st:St}{op:XOp}(hc:cls pf op=4){v:V}{h':List O}(e:act cf st op=some (v,h')):CellsLe st.h h'∧CellsGe st.h h':=by
 cases op
 case append al z b rw x y=>simp only[cls] at hc;split at hc<;>cases hc
 case call f args =>
  cases f with
  | t i=>simp[cls] at hc
  | k v =>
   simp only[cls] at hc;simp only[act,ev] at e;cases hv:aT v with
   | none=>rw[hv] at hc;simp at hc
   | some p =>
    obtain⟨f,caps⟩:=p;rw[hv] at hc;simp only at hc;rw[di hv] at e;have hpf:pf f=2:=by
     split at hc
     ·cases hc
     ·split at hc
      ·assumption
      ·split at hc<;>cases hc
    split at e
    ·exact (hp f _ _ _ _ (bd e).1).2.1 hpf
    ·cases e
 all_goals simp[cls] at hc
theorem qO {pf:Nat→Nat}{cf:av}(hp:bQ pf cf){st:St}{op:XOp}(hc:cls pf op=8){v:V}{h':List O}(e:act cf st op=some (v,h')):pQ st.h h':=by
 cases op
 case append al z b rw x y=>simp only[cls] at hc;split at hc<;>cases hc
 case call f args =>
  cases f with
  | t i=>simp[cls] at hc
  | k v =>
   simp only[cls] at hc;simp only[act,ev] at e;cases hv:aT v with
   | none=>rw[hv] at hc;simp at hc
   | some p =>
    obtain⟨f,caps⟩:=p;rw[hv] at hc;simp only at hc;rw[di hv] at e;have hpf:pf f=4:=by
     split at hc
     ·cases hc
     ·split at hc
      ·cases hc
      ·split at hc
       ·assumption
       ·cases hc
    split at e
    ·exact (hp f _ _ _ _ (bd e).1).2.2 hpf
    ·cases e
 all_goals simp[cls] at hc
theorem CellsLe.set {h:List O}{s n z:Nat}(hs:∀o:O,O.isC o→h[s]?≠some o):CellsLe h (h.set s (O.tok n z)):=by
 intro id cs hc hid;by_cases hsid:s=id
 ·subst hsid;exact absurd hid (hs cs hc)
 ·rw[sN hsid];exact hid
theorem CellsLe.unset {h:List O}{s n z:Nat}:CellsLe (h.set s (O.tok n z)) h:=by
 intro id cs hc hid;by_cases hsid:s=id
 ·subst hsid;rw[List.getElem?_set] at hid;simp only[if_true] at hid;split at hid
  ·simp only[sI] at hid;subst hid;exact hc.elim
  ·cases hid
 ·rw[sN hsid] at hid;exact hid
theorem mY {pf:Nat→Nat}{cf:av}(hp:bQ pf cf){x y:XOper}{st:St}(hc:gJ (cls pf x.op) (cls pf y.op)=true){vx vy:V}{hx hy:List O}
  (h1:b8 cf x st=some (vx,hx)) (h2:b8 cf y { st with h:=hx }=some (vy,hy)):∃hy',b8 cf y st=some (vy,hy')∧b8 cf x { st with h:=hy' }=some (vx,hy):=by
 unfold b8 at *;by_cases kx:aZ st.tm x.g=true;rotate_left
 ·rw[if_neg kx] at h1;cases h1
 by_cases ky:aZ st.tm y.g=true;rotate_left
 ·rw[if_neg ky] at h2;cases h2
 rw[if_pos kx] at h1;rw[if_pos ky] at h2;simp only[if_pos kx,if_pos ky];by_cases wx:aY st.tm x.g=true
 ·by_cases wy:aY st.tm y.g=true
  ·simp only[wx,wy,if_true] at h1 h2 ⊢;by_cases cx:cls pf x.op=0
   ·-- x does not look
    have e:hx=st.h:=by
     have:=dg (st:=st) (cf:=cf) cx st.h;rw[show ({ st with h:=st.h }:St)=st from rfl,h1] at this;simp only[Option.map_some,sI,pI] at this;exact this.2
    rw[e] at h2;exact⟨hy,h2,by rw[dg cx hy,h1];rfl⟩
   ·by_cases cy:cls pf y.op=0
    ·have h3:=dg (st:=st) (cf:=cf) cy hx;rw[h2] at h3;cases h4:act cf st y.op with
     | none=>rw[h4] at h3;simp at h3
     | some r =>
      obtain⟨v,h'⟩:=r;rw[h4] at h3;simp only[Option.map_some,sI,pI] at h3;obtain⟨rfl,rfl⟩:=h3;have h5:=dg (st:=st) (cf:=cf) cy st.h;rw[show ({ st with h:=st.h }:St)=st from rfl,h4] at h5;simp only[Option.map_some,sI,pI] at h5;obtain⟨_,rfl⟩:=h5;exact⟨st.h,rfl,h1⟩
    ·simp only[gJ,Bool.or_eq_true,bT,beq_iff_eq,cx,cy,false_or] at hc;rcases hc with ((⟨a1,a2⟩|⟨a1,a2⟩)|⟨a1,a2⟩)|⟨a1,a2⟩
     ·obtain⟨rfl,k1⟩:=dV hp a1 h1;have k2:=(dV hp a2 h2).1;simp only at k2;subst k2;exact⟨_,h2,h1⟩
     ·obtain⟨al,z',b,p,q,ey⟩:=Hw a2;rw[ey] at h2 ⊢;obtain⟨rfl,k1⟩:=dV hp a1 h1;refine⟨_,h2,k1 _ ?_⟩;rcases kf h2 with e|⟨s,m,z2,e,hs⟩
      ·rw[e];exact fun _ _ _ h=>h
      ·rw[e];exact CellsLe.set hs
     ·obtain⟨al,z',b,p,q,ex⟩:=Hw a1;rw[ex] at h1 ⊢;obtain⟨e,k1⟩:=dV hp a2 h2;simp only at e;subst e;have k2:=k1 st.h (by
       simp only;rcases kf h1 with e|⟨s,m,z2,e,hs⟩
       ·rw[e];exact fun _ _ _ h=>h
       ·rw[e];exact CellsLe.unset)
      exact⟨st.h,k2,h1⟩
     ·obtain⟨rfl,k1⟩:=dV hp a1 h1;exact⟨_,h2,k1 _ (qd hp a2 h2).1⟩
  ·simp only[wx,wy,if_true,Bool.false_eq_true,if_false,sI,pI] at h1 h2 ⊢;exact⟨st.h,⟨h2.1,rfl⟩,by rw[← h2.2];exact h1⟩
 ·by_cases wy:aY st.tm y.g=true
  ·simp only[wx,wy,if_true,Bool.false_eq_true,if_false,sI,pI] at h1 h2 ⊢;obtain⟨rfl,rfl⟩:=h1;exact⟨hy,h2,rfl,rfl⟩
  ·simp only[wx,wy,Bool.false_eq_true,if_false,sI,pI] at h1 h2 ⊢;exact⟨st.h,⟨h2.1,rfl⟩,h1.1,by rw[← h2.2];exact h1.2⟩
theorem rU {cf:av}{x y:XOper}{st:St}(hc:Gz x.op y.op=true){vx vy:V}{hx hy:List O}
  (h1:b8 cf x st=some (vx,hx)) (h2:b8 cf y { st with h:=hx }=some (vy,hy)):∃hy',b8 cf y st=some (vy,hy')∧b8 cf x { st with h:=hy' }=some (vx,hy):=by
 obtain⟨dx,ox,gx⟩:=x;obtain⟨dy,oy,gy⟩:=y;simp only at hc;unfold Gz at hc;split at hc;rotate_left
 ·cases hc
 rename_i a n p q;simp only[dT] at hc;have e:hx=st.h:=by
  unfold b8 at h1;simp only at h1;split at h1
  ·split at h1
   ·simp only[act] at h1;split at h1
    ·split at h1
     ·simp only[sI,pI] at h1;exact h1.2.symm
     ·cases h1
    ·cases h1
   ·simp only[sI,pI] at h1;exact h1.2.symm
  ·cases h1
 subst e;refine⟨hy,h2,?_⟩;unfold b8 at h1 h2 ⊢;simp only at h1 h2 ⊢;split at h1;rotate_left
 ·cases h1
 rename_i kx;rw[if_pos kx];split at h1
 ·rename_i wx;rw[if_pos wx];simp only[act] at h1 ⊢;split at h1
  ·rename_i id hid;split at h1
   ·rename_i c hcs;simp only[sI,pI] at h1;obtain⟨rfl,_⟩:=h1;have:hy[id]?=some (.cells [c]):=by
     split at h2
     ·split at h2
      ·exact (mH hc h2 id c).1 hcs
      ·simp only[sI,pI] at h2;rw[← h2.2];exact hcs
     ·cases h2
    simp only[this]
   ·cases h1
  ·cases h1
 ·rename_i wx;rw[if_neg wx];simp only[sI,pI,and_true] at h1 ⊢;exact h1
theorem se {pf:Nat→Nat}{cf:av}(hp:bQ pf cf){x y:XOper}{st:St}(hrl:st.rb≤st.h.length) (hc:ldC pf x.op y.op=true){vx vy:V}{hx hy:List O}
  (h1:b8 cf x st=some (vx,hx)) (h2:b8 cf y { st with h:=hx }=some (vy,hy)):∃hy',b8 cf y st=some (vy,hy')∧b8 cf x { st with h:=hy' }=some (vx,hy):=by
 obtain⟨dx,ox,gx⟩:=x;obtain⟨dy,oy,gy⟩:=y;simp only[ldC,bT,Bool.or_eq_true,beq_iff_eq] at hc;obtain⟨c4,hc⟩:=hc;obtain⟨n,q,rfl⟩:=wL hc;have hge:∀(id:Nat) (cs:List V),id<st.h.length→hx[id]?=some (O.cells cs)→st.h[id]?=some (O.cells cs):=by
  unfold b8 at h1;simp only at h1;split at h1
  ·split at h1
   ·rcases c4 with c4|c4
    ·exact fun id cs hid h=>(qd hp c4 h1).2 id _ hid trivial h
    ·exact fun id cs hid h=>(qO hp c4 h1 id cs).2 hid h
   ·simp only[sI,pI] at h1;rw[← h1.2];exact fun _ _ _ h=>h
  ·cases h1
 have key:∃v,hy=hx∧vy=v∧b8 cf ⟨dy,.load2 n q,gy⟩ st=some (v,st.h):=by
  unfold b8 at h2 ⊢;simp only at h2 ⊢;split at h2;rotate_left
  ·cases h2
  rename_i k2;rw[if_pos k2];split at h2;rotate_left
  ·rename_i w2;rw[if_neg w2];simp only[sI,pI] at h2;exact⟨_,h2.2.symm,h2.1.symm,rfl⟩
  rename_i w2;rw[if_pos w2];simp only[act] at h2 ⊢;split at h2
  ·rename_i id o hid;split at h2;rotate_left
   ·cases h2
   rename_i hlt;rw[if_pos hlt];split at h2;rotate_left
   ·cases h2
   rename_i cs hcs;simp only[mS,pI] at h2;obtain⟨v',hv,rfl,rfl⟩:=h2;have:st.h[id]?=some (.cells cs):=hge id cs (by omega) hcs;exact⟨_,rfl,rfl,by simp only[this,hv,Option.map_some]⟩
  ·simp only[mS,pI] at h2;obtain⟨v',hv,rfl,rfl⟩:=h2;exact⟨_,rfl,rfl,by simp only[hv,Option.map_some]⟩
  ·cases h2
 obtain⟨v,rfl,rfl,hg⟩:=key;exact⟨st.h,hg,h1⟩
theorem rZ {pf:Nat→Nat}{cf:av}(hp:bQ pf cf){x y:XOper}{st:St}(hc:ldD pf x.op y.op=true){vx vy:V}{hx hy:List O}
  (h1:b8 cf x st=some (vx,hx)) (h2:b8 cf y { st with h:=hx }=some (vy,hy)):∃hy',b8 cf y st=some (vy,hy')∧b8 cf x { st with h:=hy' }=some (vx,hy):=by
 obtain⟨dx,ox,gx⟩:=x;obtain⟨dy,oy,gy⟩:=y;simp only[ldD,bT,beq_iff_eq] at hc;obtain⟨hc,c5⟩:=hc;obtain⟨n,q,rfl⟩:=wL hc;have hxe:hx=st.h:=by
  unfold b8 at h1;simp only at h1;split at h1
  ·split at h1
   ·simp only[act] at h1;split at h1
    ·split at h1
     ·split at h1
      ·simp only[mS,pI] at h1;obtain⟨_,_,_,h1⟩:=h1;exact h1.symm
      ·cases h1
     ·cases h1
    ·simp only[mS,pI] at h1;obtain⟨_,_,_,h1⟩:=h1;exact h1.symm
    ·cases h1
   ·simp only[sI,pI] at h1;exact h1.2.symm
  ·cases h1
 subst hxe;refine⟨hy,h2,?_⟩;have hle:∀(id:Nat) (cs:List V),st.h[id]?=some (O.cells cs)→hy[id]?=some (O.cells cs):=by
  unfold b8 at h2;simp only at h2;split at h2
  ·split at h2
   ·exact fun id cs h=>(qO hp c5 h2 id cs).1 h
   ·simp only[sI,pI] at h2;rw[← h2.2];exact fun _ _ h=>h
  ·cases h2
 unfold b8 at h1 ⊢;simp only at h1 ⊢;split at h1;rotate_left
 ·cases h1
 rename_i k1;rw[if_pos k1];split at h1;rotate_left
 ·rename_i w1;rw[if_neg w1];simp only[sI,pI] at h1;rw[h1.1]
 rename_i w1;rw[if_pos w1];simp only[act] at h1 ⊢;split at h1
 ·rename_i id o hid;split at h1;rotate_left
  ·cases h1
  rename_i hlt;rw[if_pos hlt];split at h1;rotate_left
  ·cases h1
  rename_i cs hcs;simp only[mS,pI] at h1;obtain⟨v',hv,rfl,_⟩:=h1;simp only[hle id cs hcs,hv,Option.map_some]
 ·simp only[mS,pI] at h1;obtain⟨v',hv,rfl,_⟩:=h1;simp only[hv,Option.map_some]
 ·cases h1
theorem rT {cf:av}{x y:XOper}{st:St}(hc:mk2 x.op y.op=true){vx vy:V}{hx hy:List O}
  (h1:b8 cf x st=some (vx,hx)) (h2:b8 cf y { st with h:=hx }=some (vy,hy)):∃hy',b8 cf y st=some (vy,hy')∧b8 cf x { st with h:=hy' }=some (vx,hy):=by
 obtain⟨dx,ox,gx⟩:=x;obtain⟨dy,oy,gy⟩:=y;simp only at hc;unfold mk2 at hc;split at hc;rotate_left
 ·cases hc
 rename_i a z1 q1 n1 b z2 q2 n2;have hne:st.rb+a≠st.rb+b:=by
  intro e;have:a=b:=by omega
  simp[this] at hc
 unfold b8 at h1 h2 ⊢;simp only at h1 h2 ⊢;split at h1;rotate_left
 ·cases h1
 rename_i k1;split at h2;rotate_left
 ·cases h2
 rename_i k2;simp only[if_pos k1,if_pos k2];split at h1
 ·rename_i w1;simp only[if_pos w1];simp only[act] at h1;split at h1;rotate_left
  ·cases h1
  rename_i i1 e1;split at h1;rotate_left
  ·cases h1
  rename_i c1;split at h1;rotate_left
  ·cases h1
  rename_i d1;simp only[sI,pI] at h1;obtain⟨rfl,rfl⟩:=h1;split at h2
  ·rename_i w2;simp only[if_pos w2];simp only[act] at h2;split at h2;rotate_left
   ·cases h2
   rename_i i2 e2;split at h2;rotate_left
   ·cases h2
   rename_i c2;split at h2;rotate_left
   ·cases h2
   rename_i d2;simp only[sI,pI] at h2;obtain⟨rfl,rfl⟩:=h2;rw[sN hne] at d2;refine⟨st.h.set (st.rb+b) (.cells (List.replicate i2.toNat q2).flatten),by simp only[act,e2,if_pos c2,d2],?_⟩;simp only[act,e1,if_pos c1,sN (Ne.symm hne),d1];rw[List.set_comm _ _ hne]
  ·rename_i w2;simp only[if_neg w2];simp only[sI,pI] at h2;obtain⟨rfl,rfl⟩:=h2;exact⟨st.h,rfl,by simp only[act,e1,if_pos c1,d1]⟩
 ·rename_i w1;simp only[if_neg w1];simp only[sI,pI] at h1;obtain⟨rfl,rfl⟩:=h1;exact⟨hy,h2,rfl⟩
theorem vX {pf:Nat→Nat}{cf:av}(hp:bQ pf cf){x y:XOper}(hc:eS pf x y=true){st s1 s2:St}(hrl:st.rb≤st.h.length) (h1:aI cf x st=some s1) (h2:aI cf y s1=some s2) :
  ∃s1',aI cf y st=some s1'∧aI cf x s1'=some s2:=by
 simp only[eS,cC,bT] at hc;obtain⟨⟨hx,hy⟩,hcl⟩:=hc;have x1:∀d,x.d=some d→d ∉ y.rd∧y.d≠some d:=by
  intro d hd;rw[hd] at hx;simpa using hx
 have y1:∀d,y.d=some d→d ∉ x.rd:=by
  intro d hd;rw[hd] at hy;simpa using hy
 rw[bX] at h1 h2;simp only[mS] at h1 h2;obtain⟨⟨vx,hx'⟩,g1,rfl⟩:=h1;obtain⟨⟨vy,hy'⟩,g2,rfl⟩:=h2;simp only at g2;have a1:b8 cf y { st with h:=hx' }=some (vy,hy'):=by
  rw[eK (st:={ st with h:=hx' }) (tm':=bH st.tm x.d vx) (Agr.put fun d hd=>(x1 d hd).1)];exact g2
 obtain⟨hm,b1,b2⟩:=(Bool.or_eq_true _ _ ▸ hcl:_∨_).elim (fun hcl=>mY hp hcl g1 a1) fun hcl=>(Bool.or_eq_true _ _ ▸ hcl:_∨_).elim (fun hcl=>rU hcl g1 a1) fun hcl=>(Bool.or_eq_true _ _ ▸ hcl:_∨_).elim (fun hcl=>se hp hrl hcl g1 a1) fun hcl=>(Bool.or_eq_true _ _ ▸ hcl:_∨_).elim (fun hcl=>rZ hp hcl g1 a1) fun hcl=>rT hcl g1 a1
 refine⟨{ st with tm:=bH st.tm y.d vy,h:=hm },by rw[bX,b1];rfl,?_⟩;have b3:b8 cf x { st with tm:=bH st.tm y.d vy,h:=hm }=some (vx,hy'):=by
  rw[← eK (st:={ st with h:=hm }) (tm':=bH st.tm y.d vy) (Agr.put fun d hd=>y1 d hd)];exact b2
 rw[bX,b3];simp only[Option.map_some,sI,St.mk.injEq,and_true];cases hxd:x.d with
 | none=>rfl
 | some d =>
  cases hyd:y.d with
  | none=>rfl
  | some e =>
   have hne:e≠d:=by
    intro q;exact (x1 d hxd).2 (by rw[hyd,q])
   simp only[bH];exact List.set_comm _ _ hne
theorem rh {cf:av}{x:XOper}{st st1:St}(h:aI cf x st=some st1):st1.rb=st.rb:=by
 rw[bX] at h;simp only[mS] at h;obtain⟨r,_,rfl⟩:=h;rfl
theorem vE {pf:Nat→Nat}{cf:av}(hp:bQ pf cf){y:XOper}{r2:List XOper}{s':St}:∀(r1:List XOper) (st:St),st.rb≤st.h.length→(∀x∈r1,eS pf x y=true)→aC cf (r1++y::r2) st=some s' →
  aC cf (y::(r1++r2)) st=some s'
 | [],_,_,_,h=>h
 | x::r1,st,hrl,hc,h=>by
  simp only[List.cons_append,aC] at h;cases h1:aI cf x st with
  | none=>rw[h1] at h;cases h
  | some s1 =>
   rw[h1] at h;simp only at h;have ih:=vE hp r1 s1 (by rw[rh h1];exact Nat.le_trans hrl (db h1)) (fun z hz=>hc z (by simp[hz])) h;simp only[aC] at ih;cases h2:aI cf y s1 with
   | none=>rw[h2] at ih;cases ih
   | some s2 =>
    rw[h2] at ih;simp only at ih;obtain⟨s1',k1,k2⟩:=vX hp (hc x (by simp)) hrl h1 h2;simp only[aC,List.cons_append,k1,k2,ih]
def DS (ms:List Nat) (o:Oper):Nat:=o.after.toList.foldl (fun s e=>if Region.binds .any e then s ||| (2 ^ e.on ||| ms.getD e.on 0) else s) 0
def ej:List Oper→List Nat→List Nat
 | [],ms=>ms
 | o::r,ms=>ej r (ms++[DS ms o])
def eC (i:Nat) (o:Oper):Bool:=o.after.toList.all fun e => !Region.binds .any e||decide (e.on<i)
def dJ (pf:Nat→Nat) (xs:List XOper) (j i:Nat):Bool :=
 match xs[j]?,xs[i]? with
 | some x,some y=>eS pf x y
 | _,_=>false
def cz (pf:Nat→Nat) (ops:List Oper) (xs:List XOper):Bool :=
 (List.range ops.length).all fun i=>match ops[i]? with
  | some o=>eC i o&&(List.range i).all fun j=>((ej ops []).getD i 0).testBit j||dJ pf xs j i
  | none=>false
def kB (ops:List Oper) (L:Nat→Bool):Prop:=∀i o,ops[i]?=some o→L i=true→∀e∈o.after,Region.binds .any e=true→L e.on=true
theorem zW (ms:List Nat) (es:List Edge) (j:Nat):∀s,(es.foldl (fun s e=>if Region.binds .any e then s ||| (2 ^ e.on ||| ms.getD e.on 0) else s) s).testBit j=true →
  s.testBit j=true∨∃e∈es,Region.binds .any e=true∧(j=e.on∨(ms.getD e.on 0).testBit j=true):=by
 induction es with
 | nil=>intro s h;exact .inl h
 | cons e es ih =>
  intro s h;simp only[List.foldl_cons] at h;rcases ih _ h with h1|⟨e',he,hb⟩
  ·by_cases hb:Region.binds .any e=true
   ·simp only[hb,if_true,Nat.testBit_or,Bool.or_eq_true] at h1;rcases h1 with h1|h1|h1
    ·exact .inl h1
    ·refine .inr ⟨e,by simp,hb,.inl ?_⟩;rw[Nat.testBit_two_pow] at h1;exact (by simpa using h1:e.on=j).symm
    ·exact .inr ⟨e,by simp,hb,.inr h1⟩
   ·simp only[hb,Bool.false_eq_true,if_false] at h1;exact .inl h1
  ·exact .inr ⟨e',by simp[he],hb⟩
def jz (ops:List Oper) (ms:List Nat):Prop:=∀i o j,ops[i]?=some o→(ms.getD i 0).testBit j=true→∀L,kB ops L→(∀e∈o.after,Region.binds .any e=true→L e.on=true)→L j=true
theorem eG (ops:List Oper):∀(r:List Oper) (ms:List Nat) (pre:List Oper),ops=pre++r→ms.length=pre.length→jz ops ms→jz ops (ej r ms)
 | [],ms,pre,_,_,h=>h
 | o::r,ms,pre,e,hl,h=>by
  refine eG ops r _ (pre++[o]) (by simp[e]) (by simp[hl]) ?_;intro i o' j ho hbit L hL hpre;have hms:∀k,(ms.getD k 0).testBit j=true→L k=true→L j=true:=by
   intro k hk hLk;have hkl:k<ms.length:=by
    rcases Nat.lt_or_ge k ms.length with h1|h1
    ·exact h1
    ·rw[List.getD_eq_getElem?_getD,List.getElem?_eq_none h1] at hk;simp at hk
   have hko:k<ops.length:=by rw[e];simp;omega
   exact h k _ j (gE hko) hk L hL (hL k _ (gE hko) hLk)
  rcases Nat.lt_or_ge i ms.length with h1|h1
  ·rw[List.getD_eq_getElem?_getD,aL h1,← List.getD_eq_getElem?_getD] at hbit;exact h i o' j ho hbit L hL hpre
  ·by_cases h2:i=ms.length
   ·subst h2;have ho2:o'=o:=by
     rw[e,aR (by omega),hl] at ho;simpa using ho.symm
    subst ho2;rw[List.getD_eq_getElem?_getD,aR (nL _)] at hbit;simp only[Nat.sub_self,List.getElem?_cons_zero,Option.getD_some] at hbit;rcases zW ms _ j 0 hbit with h3|⟨e',he,hb,h3|h3⟩
    ·simp at h3
    ·rw[h3];exact hpre e' (by simpa using he) hb
    ·exact hms e'.on h3 (hpre e' (by simpa using he) hb)
   ·rw[List.getD_eq_getElem?_getD,List.getElem?_eq_none (by simp;omega)] at hbit;simp at hbit
theorem gY {cf:av}{x:XOper}{st st1:St}(h:aI cf x st=some st1):st1.rb=st.rb∧st1.base=st.base:=by
 unfold aI at h;split at h;rotate_left
 ·cases h
 split at h
 ·split at h
  ·simp only[sI] at h;rw[← h];exact⟨rfl,rfl⟩
  ·cases h
 ·simp only[sI] at h;rw[← h];exact⟨rfl,rfl⟩
section
variable {P:Program}{ds:List Deferred}{ρ:Option Nat}{nn:Nat}
structure Tab (P:Program) (rw:Bool) (ops:Array Oper) (l:List Oper) (al:Nat) (xs:List XOper) (pres:List O) (tab:Nat→Nat × List O):Prop where
 op:∀i o,l[i]?=some o→∃x,xs[i]?=some x∧j0 P rw ops (tab i).1 o=some (x,(tab i).2)
 at':∀i,i<l.length→∀p∈(tab i).2,pres[(tab i).1-al]?=some p
 ge:∀i,i<l.length→al≤(tab i).1
 lt:∀i j,i<j→j<l.length→(tab i).2≠[]→(tab i).1<(tab j).1
 len:xs.length=l.length
 own:∀i,i<l.length→(tab i).2.all O.owned=true
theorem mo {rw:Bool}{ops:Array Oper}:∀(l:List Oper) (al:Nat) (xs:List XOper) (pres:List O),ep P rw ops l al=some (xs,pres)→∃tab,Tab P rw ops l al xs pres tab
 | [],al,xs,pres,h=>by
  simp only[ep,sI,pI] at h;obtain⟨rfl,rfl⟩:=h;exact⟨fun _=>(0,[]),fun i o h=>by simp at h,fun i h=>by simp at h,fun i h=>by simp at h,fun i j _ h=>by simp at h,rfl,fun i h=>by simp at h⟩
 | o::l,al,xs,pres,h=>by
  simp only[ep] at h;split at h
  ·rename_i x pre h1;split at h
   ·rename_i hpl;split at h
    ·rename_i xs' pres' h2;simp only[sI,pI] at h;obtain⟨rfl,rfl⟩:=h;obtain⟨tab,T⟩:=mo l _ _ _ h2;refine⟨fun i=>match i with|0=>(al,pre)|i+1=>tab i,?_,?_,?_,?_,by simp[T.len],fun i hi=>?_⟩
     ·intro i o' ho;cases i with
      | zero =>
       simp only[List.getElem?_cons_zero,sI] at ho;subst ho;exact⟨x,rfl,h1⟩
      | succ i =>
       simp only[List.getElem?_cons_succ] at ho ⊢;exact T.op i o' ho
     ·intro i hi p hp;cases i with
      | zero =>
       simp only at hp ⊢;cases pre with
       | nil=>simp at hp
       | cons q r =>
        cases r with
        | nil=>simp only[List.mem_singleton] at hp;subst hp;simp
        | cons q2 r=>have:=hpl.1;simp at this
      | succ i =>
       simp only at hp ⊢;have:=T.at' i (by simpa using hi) p hp;have hg:=T.ge i (by simpa using hi);rw[aR (by omega)];rw[show (tab i).1-al-pre.length=(tab i).1-(al+pre.length) by omega];exact this
     ·intro i hi;cases i with
      | zero=>exact nL _
      | succ i=>have:=T.ge i (by simpa using hi);simp only;omega
     ·intro i j hij hj hne;cases j with
      | zero=>omega
      | succ j =>
       cases i with
       | zero =>
        simp only at hne ⊢;have:=T.ge j (by simpa using hj);cases pre with
        | nil=>exact absurd rfl hne
        | cons q r=>simp only[lC] at this;omega
       | succ i=>exact T.lt i j (by omega) (by simpa using hj) hne
     ·cases i with
      | zero=>exact hpl.2
      | succ i=>exact T.own i (by simpa using hi)
    ·cases h
   ·cases h
  ·cases h
theorem Eu {pf:Nat→Nat}{cf:av}(hp:bQ pf cf) (hcf:br P cf){ops:Array Oper}{xs:List XOper}{pres:List O}{tab:Nat→Nat × List O}{rw:Bool}(T:Tab P rw ops ops.toList 0 xs pres tab) (fx:XOper→XOper) (hfx:∀cf st st1 x,aI cf (fx x) st=some st1→aI cf x st=some st1) (hd:cz pf ops.toList (xs.map fx)=true)
  {Q:Exit→Act→World→Prop}{st':St}{rb:Nat}(d0:XOper):∀(fuel:Nat) (rem:List Nat) (listed:Array Bool) (g:Gh) (w:World) (a:Act) (st:St),
  rem.length=fuel→listed.size=ops.size→(∀i,i∈rem↔i<ops.size∧listed.getD i true=false)→rem.Pairwise (· < ·)→kB ops.toList (fun i=>listed.getD i false) →
  aC cf (rem.map fun i=>(xs.map fx).getD i d0) st=some st'→Sim ds g w a st→st.rb=rb→rb≤st.h.length→(∀i∈rem,oe g st.h (rb+(tab i).1) (tab i).2) →
  (∀a' w' g',Le g w g' w'→Sim ds g' w' a' st'→Quiet (Frb rb st.h) g st.h g' st'.h→Q .normal a' w')→wpAnyIn (FR ρ) nn P .any ops Q fuel listed a w:=by
 have hmask:jz ops.toList (ej ops.toList []):=eG ops.toList ops.toList [] [] (by simp) rfl (by intro i o j _ h;simp at h);have hdi:∀i o,ops.toList[i]?=some o→eC i o=true∧∀j,j<i→((ej ops.toList []).getD i 0).testBit j=true∨dJ pf (xs.map fx) j i=true:=by
  intro i o ho;have hi:i<ops.toList.length:=(gS.1 ho).1;have:=List.all_eq_true.1 hd i (by simpa using hi);rw[ho] at this;simp only[bT,List.all_eq_true,List.mem_range,Bool.or_eq_true] at this;exact this
 have hget:∀(listed:Array Bool) i,listed.size=ops.size→i<ops.size→listed.getD i true=listed.getD i false:=by
  intro listed i hs hi;simp[Array.getD,hs,hi]
 intro fuel
 induction fuel with
 | zero =>
  intro rem listed g w a st hlen hls hmem _ _ hrun S _ _ _ hQ;have hnil:rem=[]:=List.eq_nil_of_length_eq_zero hlen;subst hnil;simp only[List.map_nil,aC,sI] at hrun;subst hrun;refine⟨?_,hQ _ _ _ (Le.refl _ _) S (Quiet.refl _ _ _)⟩;rw[List.eq_nil_iff_forall_not_mem];intro i hi;rw[mem_ready] at hi;obtain⟨h1,o,ho,_⟩:=hi;have:=(hmem i).2 ⟨(Array.getElem?_eq_some_iff.1 ho).1,h1⟩;simp at this
 | succ fuel ih =>
  intro rem listed g w a st hlen hls hmem hsort hcl hrun S hrb hrl hfr hQ;refine⟨fun hnil=>?_,fun i hi=>?_⟩
  ·exfalso;cases rem with
   | nil=>simp at hlen
   | cons i r =>
    have hi:=(hmem i).1 (by simp);have:i∈Region.ready .any ops listed:=by
     rw[mem_ready];refine⟨hi.2,ops[i],Array.getElem?_eq_getElem hi.1,fun e he hb=>?_⟩;have hl:=(hdi i ops[i] (by simp[hi.1])).1;simp only[eC,List.all_eq_true,Bool.or_eq_true,Bool.not_eq_true',dT] at hl;have hlt:e.on<i:=(hl e (by simpa using he)).resolve_left (by simp[hb]);cases hc:listed.getD e.on false with
     | true=>rfl
     | false =>
      have:e.on∈i::r:=(hmem e.on).2 ⟨by omega,by rw[hget listed e.on hls (by omega)];exact hc⟩;simp only[List.pairwise_cons] at hsort;rcases List.mem_cons.1 this with h|h
      ·omega
      ·have:=hsort.1 _ h;omega
    rw[hnil] at this;simp at this
  ·have hr:=mem_ready.1 hi;obtain⟨hun,o,ho,hpre⟩:=hr;have hilt:i<ops.size:=(Array.getElem?_eq_some_iff.1 ho).1;have hol:ops.toList[i]?=some o:=by simpa using ho
   have hir:=(hmem i).2 ⟨hilt,hun⟩;obtain⟨r1,r2,rfl⟩:=List.append_of_mem hir;have hs2:=List.pairwise_append.1 hsort;obtain⟨s1,s2,s3⟩:=hs2;simp only[List.pairwise_cons] at s2;obtain⟨x,hx0,htr⟩:=T.op i o hol;have hx:(xs.map fx)[i]?=some (fx x):=by rw[List.getElem?_map,hx0];rfl
   have hxi:(xs.map fx).getD i d0=fx x:=by rw[List.getD_eq_getElem?_getD,hx];rfl
   rw[List.map_append,List.map_cons,hxi] at hrun;have hbub:=vE hp (r1.map fun i=>(xs.map fx).getD i d0) st (by rw[hrb];exact hrl) (fun z hz=>by
    obtain⟨j,hj,rfl⟩:=List.mem_map.1 hz;have hji:j<i:=s3 j hj i (by simp);have hjm:=(hmem j).1 (by simp[hj]);rcases (hdi i o hol).2 j hji with h|h
    ·exfalso;have:=hmask i o j hol h _ hcl hpre;rw[← hget listed j hls hjm.1,hjm.2] at this;cases this
    ·unfold dJ at h;split at h
     ·rename_i x1 x2 e1 e2;rw[hx] at e2;simp only[sI] at e2;subst e2;rw[List.getD_eq_getElem?_getD,e1];exact h
     ·cases h) hrun
   rw[← List.map_append] at hbub;simp only[aC] at hbub;split at hbub
   ·rename_i st1 hst1;have:=jq (ρ:=ρ) (nn:=nn) (K:=wpAnyIn (FR ρ) nn P .any ops Q fuel (listed.setIfInBounds i true)) (Q:=Q) htr (hfx _ _ _ _ hst1) hcf S (by rw[hrb];exact hfr i (by simp)) fun a' w' g' k1 k2 k3=>by
     refine ih (r1++r2) _ g' w' a' st1 (by simp at hlen ⊢;omega) (by simpa using hls) (fun j=>?_) ?_ ?_ hbub k2 ((gY hst1).1.trans hrb) (Nat.le_trans hrl (db hst1)) (fun j hj=>?_) fun a'' w'' g'' m1 m2 m3=>hQ _ _ _ (k1.trans m1) m2 ((k3.mono (E':=Frb rb st.h) fun id hid=>hid.elim (fun h=>.inl (by have:=h.2;omega)) fun h=>h.imp (fun h=>Nat.le_trans hrl h) fun h=>h).transL k2.hk k1 m3)
     ·by_cases hji:i=j
      ·subst hji;constructor
       ·intro hj;exfalso;rcases List.mem_append.1 hj with h|h
        ·have:=s3 i h i (by simp);omega
        ·have:=s2.1 i h;omega
       ·rintro⟨_,h⟩;simp[Array.getD,hls,hilt] at h
      ·rw[getD_set_ne _ hji,← hmem j];simp only[List.mem_append,List.mem_cons];constructor
       ·rintro (h|h)
        ·exact .inl h
        ·exact .inr (.inr h)
       ·rintro (h|h|h)
        ·exact .inl h
        ·exact absurd h.symm hji
        ·exact .inr h
     ·exact List.pairwise_append.2 ⟨s1,s2.2,fun p hp' q hq=>s3 p hp' q (by simp[hq])⟩
     ·intro j o' ho' hj e he hb;simp only at hj ⊢;by_cases hji:i=j
      ·subst hji;have:o'=o:=by rw[hol] at ho';simpa using ho'.symm
       subst this;exact getD_set_true (hpre e he hb)
      ·rw[getD_set_ne _ hji] at hj;exact getD_set_true (hcl j o' ho' hj e he hb)
     ·intro hne;have hjm:j∈r1++i::r2:=by
       rcases List.mem_append.1 hj with h|h
       ·simp[h]
       ·simp[h]
      have hjs:=((hmem j).1 hjm).1;obtain⟨q1,q2,q3⟩:=hfr j hjm hne;have hin:rb+(tab j).1<st.h.length:=by
       obtain⟨p,hp'⟩:=List.exists_mem_of_ne_nil _ hne;exact (gS.1 (q3 p hp')).1
      have hslot:¬(((tab i).2≠[]∧rb+(tab j).1=st.rb+(tab i).1)∨Frb st.h.length st.h (rb+(tab j).1)):=by
       rintro (⟨n1,n2⟩|n3|n3);rotate_left
       ·omega
       ·obtain⟨p,hp'⟩:=List.exists_mem_of_ne_nil _ hne;have h1:=q3 p hp';rw[n3] at h1;simp only[sI] at h1;have h2:=List.all_eq_true.1 (T.own j (by simpa using hjs)) _ hp';rw[← h1] at h2;cases h2
       rw[hrb] at n2;rcases List.mem_append.1 hj with h|h
       ·have:=T.lt j i (s3 j h i (by simp)) (by simpa using hilt) hne;omega
       ·have:=T.lt i j (s2.1 j h) (by simpa using hjs) n1;omega
      have k:=k3 _ hslot;exact⟨k.1 q1,k.2.1 q2,fun p hp'=>(k.2.2 q1 q2).trans (q3 p hp')⟩
    unfold wpOpIn;rw[ho];simp only;split
    ·rename_i hw;rw[if_pos hw] at this;exact this
    ·rename_i hw;rw[if_neg hw] at this;exact⟨fun _ _=>trivial,this⟩
   ·cases hbub
theorem gC {pf:Nat→Nat}{cf:av}(hp:bQ pf cf) (hcf:br P cf) (hm:P.follows .mixedOrders=true){id:Nat}{ops:Array Oper}{xs:List XOper}{pres:List O}{rw:Bool}(htr:ep P rw ops ops.toList 0=some (xs,pres))
  (fx:XOper→XOper) (hfx:∀cf st st1 x,aI cf (fx x) st=some st1→aI cf x st=some st1) (hd:cz pf ops.toList (xs.map fx)=true){g:Gh}{w:World}{a:Act}{st st':St}(S:Sim ds g w a st) (hrun:aC cf (xs.map fx) { st with h:=st.h++pres,rb:=st.h.length }=some st')
  {Q:Exit→Act→World→Prop}(hQ:∀a' w' g',Le g w g' w'→Sim ds g' w' a' st'→Quiet (Frb st.h.length st.h) g st.h g' st'.h→Q .normal a' w'):(Code.region id ops true).wpIn (FR ρ) nn P Q a w:=by
 have hfr:∀j (hj:j<pres.length),g.blk (st.h.length+j)=none∧g.tok (st.h.length+j)=none∧(st.h++pres)[st.h.length+j]?=some pres[j]:=by
  intro j hj;refine⟨S.hk.blk_none (by omega),S.hk.tok_none (by omega),?_⟩;rw[aR (by omega)];simp[hj]
 have S':Sim ds g w a { st with h:=st.h++pres,rb:=st.h.length }:=⟨S.tm,S.hk.append _,S.df⟩
 have hq:∀{g':Gh}{h':List O},Quiet (Frb st.h.length (st.h++pres)) g (st.h++pres) g' h'→Quiet (Frb st.h.length st.h) g st.h g' h':=by
  intro g' h' k id hid;have hlt:id<st.h.length:=by
   by_cases h:id<st.h.length
   ·exact h
   ·exact absurd (.inl (by omega)) hid
  have:=k id (by
   rintro (h|h)
   ·exact hid (.inl h)
   ·rw[aL hlt] at h;exact hid (.inr h))
  rw[aL hlt] at this;exact this
 obtain⟨tab,T⟩:=mo _ _ _ _ htr;refine wpIn_region_any hm ?_;obtain⟨d1,d2⟩:=S'.hk.drew;have S2:Sim ds g w.drew a { st with h:=st.h++pres,rb:=st.h.length }:=⟨S'.tm.mono d1,d2,S.df⟩
 refine Eu hp hcf T fx hfx hd (rb:=st.h.length) ⟨none,.mv (.k az),none⟩ ops.size (List.range ops.size) _ g w.drew a _ (by simp) (by simp) (fun i=>?_) List.pairwise_lt_range ?_ ?_ S2 rfl (by simp) (fun i hi=>?_) (fun a' w' g' k1 k2 k3=>hQ _ _ _ (d1.trans k1) k2 (hq k3))
 ·simp only[List.mem_range,Array.getD,Array.size_replicate];constructor
  ·intro h;exact⟨h,by simp[h]⟩
  ·exact fun h=>h.1
 ·intro i o ho h;simp only[Array.getD,Array.size_replicate] at h;split at h<;>simp at h
 ·have e:(List.range ops.size).map (fun i=>(xs.map fx).getD i ⟨none,.mv (.k az),none⟩)=xs.map fx:=by
   apply List.ext_getElem
   ·simp[T.len]
   ·intro i h1 h2;have h3:i<xs.length:=by simpa using h2
    simp[List.getD_eq_getElem?_getD,gE h3]
  rw[e];exact hrun
 ·intro hne;have hi':i<ops.toList.length:=by simpa using hi
  cases hpre:(tab i).2 with
  | nil=>exact absurd hpre hne
  | cons p r =>
   have h1:=T.at' i hi' p (by rw[hpre];simp);obtain⟨hlt,_⟩:=gS.1 h1;rw[Nat.sub_zero] at hlt;obtain⟨f1,f2,f3⟩:=hfr _ hlt;refine⟨f1,f2,fun q hq=>?_⟩;have h2:=T.at' i hi' q (by rw[hpre];exact hq);rw[Nat.sub_zero] at h2;rw[f3,← h2,gE hlt]
theorem wY {pf:Nat→Nat}{cf:av}(hp:bQ pf cf) (hcf:br P cf) (hm:P.follows .mixedOrders=true){rid:Nat}{ops:Array Oper}{drawn:Bool}{xs:List XOper}{pres:List O}{rw:Bool}(htr:ep P rw ops ops.toList 0=some (xs,pres))
  (hd:drawn=true→cz pf ops.toList xs=true){g:Gh}{w:World}{a:Act}{st st':St}(S:Sim ds g w a st) (hrun:aC cf xs { st with h:=st.h++pres,rb:=st.h.length }=some st')
  {Q:Exit→Act→World→Prop}(hQ:∀a' w' g',Le g w g' w'→Sim ds g' w' a' st'→Quiet (Frb st.h.length st.h) g st.h g' st'.h→Q .normal a' w'):(Code.region rid ops drawn).wpIn (FR ρ) nn P Q a w:=by
 have hfr:∀j (hj:j<pres.length),g.blk (st.h.length+j)=none∧g.tok (st.h.length+j)=none∧(st.h++pres)[st.h.length+j]?=some pres[j]:=by
  intro j hj;refine⟨S.hk.blk_none (by omega),S.hk.tok_none (by omega),?_⟩;rw[aR (by omega)];simp[hj]
 have S':Sim ds g w a { st with h:=st.h++pres,rb:=st.h.length }:=⟨S.tm,S.hk.append _,S.df⟩
 have hq:∀{g':Gh}{h':List O},Quiet (Frb st.h.length (st.h++pres)) g (st.h++pres) g' h'→Quiet (Frb st.h.length st.h) g st.h g' h':=by
  intro g' h' k id hid;have hlt:id<st.h.length:=by
   by_cases h:id<st.h.length
   ·exact h
   ·exact absurd (.inl (by omega)) hid
  have:=k id (by
   rintro (h|h)
   ·exact hid (.inl h)
   ·rw[aL hlt] at h;exact hid (.inr h))
  rw[aL hlt] at this;exact this
 cases drawn with
 | false=>exact wpIn_region_list (vl hcf ops.toList 0 xs pres g w a _ htr hrun S' (by simpa using hfr) (by simp) fun a' w' g' k1 k2 k3=>hQ _ _ _ k1 k2 (hq k3))
 | true=>exact gC hp hcf hm htr id (fun _ _ _ _ h=>h) (by rw[List.map_id];exact hd rfl) S (by rw[List.map_id];exact hrun) hQ
end
theorem Rep.of_frz {g g':Gh}{w:World}{x:Value}{v:V}(h:Rep g w x v) (hf:∀b o,g.fz b o→g'.fz b o) (hb:∀id b,g.blk id=some b→g'.blk id=some b) (ht:∀id p,g.tok id=some p→g'.tok id=some p):Rep g' w x v:=by
 induction h with
 | c x=>exact .c x
 | agg xs cs hn h1 _ ih=>exact .agg xs cs hn h1 ih
 | tup xs cs hn _ ih=>exact .tup xs cs hn ih
 | sl A n cap us i z cv hn hc hzz hA _ hi ih =>
  refine .sl A n cap us i z cv hn hc hzz (fun hne=>?_) ih ?_
  ·obtain⟨b,o,e,h2⟩:=hA hne;exact⟨b,o,e,fun j hj=>⟨hf _ _ (h2 j hj).1,(h2 j hj).2⟩⟩
  ·cases i with
   | any=>trivial
   | nil=>exact hi
   | full=>exact hi
   | isn=>exact hi
   | nz=>exact hi
   | tok k =>
    obtain⟨b,l,c,h1,h2⟩:=hi;exact⟨b,l,c,ht _ _ h1,h2⟩
 | ptr b o o' cs off cv ho hA _ ih=>exact .ptr b o o' cs off cv ho (fun j hj=>⟨hf _ _ (hA j hj).1,(hA j hj).2⟩) ih
 | ref id b o h=>exact .ref id b o (hb _ _ h)
 | bnd f id b o h=>exact .bnd f id b o (hb _ _ h)
 | clo f xs cs hn _ ih=>exact .clo f xs cs hn ih
 | row A n cap id off z hc h=>exact .row A n cap id off z hc fun hn=>(h hn).imp fun b e=>⟨e.1,hb _ _ e.2⟩
 | buf A n cap id hc h =>
  obtain⟨b,cc,T,h1,h2,h3,h4⟩:=h;exact .buf A n cap id hc ⟨b,cc,T,h1,hb _ _ h2,h3,h4⟩
 | tsl A n cap k z hc hA h =>
  obtain⟨b,l,c,h1,h2⟩:=h;exact .tsl A n cap k z hc hA ⟨b,l,c,ht _ _ h1,h2⟩
 | tref A k n o h =>
  obtain⟨b,l,c,h1,h2⟩:=h;exact .tref A k n o ⟨b,l,c,ht _ _ h1,h2⟩
 | top x=>exact .top x
 | fmp b es ck ks vs h1 h2 hk hn _ ih=>exact .fmp b es ck ks vs h1 (hf _ _ h2) hk hn ih
 | mref id b h=>exact .mref id b (hb _ _ h)
 | yld l k y m tmps caps h1 hl hn _ ih=>exact .yld l k y m tmps caps (hb _ _ h1) hl hn ih
def Gh.glue (g1 g:Gh) (n:Nat):Gh:=⟨fun id=>if id<n then g1.blk id else g.blk id,fun id=>if id<n then g1.tok id else g.tok id,g1.fz⟩
theorem jM {g:Gh}{n id b:Nat}(e:(g.res n).blk id=some b):id<n∧g.blk id=some b:=by
 simp only[Gh.res] at e;split at e
 ·exact⟨‹_›,e⟩
 ·cases e
theorem jN {g:Gh}{n id:Nat}{p:Nat × Nat × Nat}(e:(g.res n).tok id=some p):id<n∧g.tok id=some p:=by
 simp only[Gh.res] at e;split at e
 ·exact⟨‹_›,e⟩
 ·cases e
theorem iz {g:Gh}{n b:Nat}(e:(g.res n).owns b):g.owns b:=by
 rcases e with⟨id,e⟩|⟨k,l,c,e⟩
 ·exact .inl ⟨id,(jM e).2⟩
 ·exact .inr ⟨k,l,c,(jN e).2⟩
theorem cK {g1 g:Gh}{n id b:Nat}(e:(g1.glue g n).blk id=some b):(id<n∧g1.blk id=some b)∨(n≤id∧g.blk id=some b):=by
 simp only[Gh.glue] at e;split at e
 ·exact .inl ⟨‹_›,e⟩
 ·exact .inr ⟨by omega,e⟩
theorem cQ {g1 g:Gh}{n id:Nat}{p:Nat × Nat × Nat}(e:(g1.glue g n).tok id=some p):(id<n∧g1.tok id=some p)∨(n≤id∧g.tok id=some p):=by
 simp only[Gh.glue] at e;split at e
 ·exact .inl ⟨‹_›,e⟩
 ·exact .inr ⟨by omega,e⟩
theorem HOk.cut {g:Gh}{w:World}{h e:List O}(H:HOk g w (h++e)) (hl:h.all (O.low h.length)=true):HOk (g.res h.length) w h:=by
 have:=H.res h.length (by rw[List.take_left'];exact hl;rfl)
 rwa [List.take_left'] at this
 rfl
theorem C1 {g g1:Gh}{w w1:World}{h h1 e:List O}(H:HOk g w (h++e)) (hle:Le (g.res h.length) w g1 w1) (hs:HOk g1 w1 h1) (hq:Quiet (Frb h.length h) (g.res h.length) h g1 h1) (hl:h1.length=h.length) :
  Le g w (g1.glue g h.length) w1∧HOk (g1.glue g h.length) w1 (h1++e)∧Quiet (Frb (h++e).length (h++e)) g (h++e) (g1.glue g h.length) (h1++e)∧∀{x:Value}{v:V},Rep g1 w1 x v→Rep (g1.glue g h.length) w1 x v:=by
 have hfar:∀id b,h.length≤id→g.blk id=some b→¬(g.res h.length).owns b:=by
  rintro id b hid e (⟨id',e'⟩|⟨k,l,c,e'⟩)
  ·obtain⟨a1,a2⟩:=jM e';have:=H.inj _ _ _ e a2;omega
  ·exact (H.bt _ _ _ _ _ e (jN e').2).elim
 have hfart:∀id b l c,h.length≤id→g.tok id=some (b,l,c)→¬(g.res h.length).owns b:=by
  rintro id b l c hid e (⟨id',e'⟩|⟨k,l',c',e'⟩)
  ·exact (H.bt _ _ _ _ _ (jM e').2 e).elim
  ·obtain⟨a1,a2⟩:=jN e';have:=H.tinj _ _ _ _ _ _ _ e a2;omega
 have hrep:∀{x:Value}{v:V},Rep g1 w1 x v→Rep (g1.glue g h.length) w1 x v:=fun r =>
  r.of_frz (fun _ _ h=>h) (fun id b e=>by have:=(hs.blk_lt e).1;simp[Gh.glue,show id<h.length by omega,e]) (fun id p e=>by
   obtain⟨b,l,c⟩:=p;have:=(hs.tok_lt e).1;simp[Gh.glue,show id<h.length by omega,e])
 have hle':Le g w (g1.glue g h.length) w1:={
  blk:=fun id b e=>by
   by_cases hid:id<h.length
   ·simp only[Gh.glue,hid,if_true];exact hle.blk id b (by simp[Gh.res,hid,e])
   ·simp only[Gh.glue,hid,if_false];exact e
  tok:=fun k b l c e=>by
   by_cases hid:k<h.length
   ·simp only[Gh.glue,hid,if_true];exact hle.tok k b l c (by simp[Gh.res,hid,e])
   ·simp only[Gh.glue,hid,if_false];exact⟨b,l,c,e,nL _,fun _=>⟨rfl,rfl⟩⟩
  fz:=hle.fz
  own:=fun b ho hlt=>by
   rcases ho with⟨id,e⟩|⟨k,l,c,e⟩
   ·rcases cK e with⟨_,e⟩|⟨_,e⟩
    ·exact iz (hle.own b (.inl ⟨id,e⟩) hlt)
    ·exact .inl ⟨id,e⟩
   ·rcases cQ e with⟨_,e⟩|⟨_,e⟩
    ·exact iz (hle.own b (.inr ⟨k,l,c,e⟩) hlt)
    ·exact .inr ⟨k,l,c,e⟩
  fzn:=fun b o e hlt=>(hle.fzn b o e hlt).imp id iz
  kept:=fun b hlt hn=>hle.kept b hlt fun ho=>hn (iz ho)
  size:=hle.size
  tape:=hle.tape
  os:=hle.os
  output:=hle.output
  sz:=hle.sz
  oth:=hle.oth }
 have hnf:∀b o,g1.fz b o→b<w.heap.size→¬(g.res h.length).owns b→g.fz b o:=fun b o e hlt hn=>(hle.fzn b o e hlt).resolve_right hn
 have hold:∀b,g1.owns b→b<w.heap.size→(g.res h.length).owns b:=fun b e hlt=>hle.own b e hlt
 refine⟨hle',⟨fun id b e=>?_,fun id b n c e=>?_,fun id id' b e e'=>?_,fun id id' b n c n' c' e e'=>?_,fun id id' b n c e e'=>?_,hs.ag.eqv rfl⟩,fun id hid=>?_,hrep⟩
 ·rcases cK e with⟨hid,e⟩|⟨hid,e⟩
  ·rcases hs.obj id b e with⟨cs,c,T,c1,c2,c3,c4,c5⟩|q
   ·exact .inl ⟨cs,c,T,by rw[aL (by have:=(hs.blk_lt e).1;omega)];exact c1,c2,c3,fun j hj hc=>⟨hrep (c4 j hj hc).1,(c4 j hj hc).2⟩,c5⟩
   ·exact .inr (q.map (aL (hs.blk_lt e).1) rfl hrep fun _ h=>h)
  ·rcases H.obj id b e with⟨cs,c,T,c1,c2,c3,c4,c5⟩|q
   ·have hlt:=(Array.getElem?_eq_some_iff.1 c2).1;rw[aR hid] at c1;exact .inl ⟨cs,c,T,by rw[aR (by omega),hl];exact c1,(hle.kept b hlt (hfar _ _ hid e)).trans c2,c3,fun j hj hc=>⟨(c4 j hj hc).1.mono hle',(c4 j hj hc).2⟩,fun o ho=>c5 o (hnf b o ho hlt (hfar _ _ hid e))⟩
   ·have hlt:=q.lt.2;exact .inr (q.map (by rw[aR (by omega),aR hid,hl]) (hle.kept b hlt (hfar _ _ hid e)) (fun r=>r.mono hle') fun o ho=>hnf b o ho hlt (hfar _ _ hid e))
 ·rcases cQ e with⟨hid,e⟩|⟨hid,e⟩
  ·obtain⟨z,cc,T,c1,c2,c3⟩:=hs.tok id b n c e;exact⟨z,cc,T,c1.map (aL (by omega)) hrep (fun _ h=>h),c2,c3⟩
  ·obtain⟨z,cc,T,c1,c2,c3,c4,c5⟩:=H.tok id b n c e;have hlt:=(Array.getElem?_eq_some_iff.1 c2).1;exact⟨z,cc,T,c1.map (by rw[aR (by omega),aR hid,hl]) (fun r=>r.mono hle') (fun o ho=>hnf b o ho hlt (hfart _ _ _ _ hid e)),(hle.kept b hlt (hfart _ _ _ _ hid e)).trans c2,c3,c4,fun o ho=>c5 o (hnf b o ho hlt (hfart _ _ _ _ hid e))⟩
 ·rcases cK e with⟨hid,e⟩|⟨hid,e⟩<;>rcases cK e' with⟨hid',e'⟩|⟨hid',e'⟩
  ·exact hs.inj _ _ _ e e'
  ·exact absurd (hold b (.inl ⟨_,e⟩) (H.blk_lt e').2) (hfar _ _ hid' e')
  ·exact absurd (hold b (.inl ⟨_,e'⟩) (H.blk_lt e).2) (hfar _ _ hid e)
  ·exact H.inj _ _ _ e e'
 ·rcases cQ e with⟨hid,e⟩|⟨hid,e⟩<;>rcases cQ e' with⟨hid',e'⟩|⟨hid',e'⟩
  ·exact hs.tinj _ _ _ _ _ _ _ e e'
  ·exact absurd (hold b (.inr ⟨_,_,_,e⟩) (H.tok_lt e').2) (hfart _ _ _ _ hid' e')
  ·exact absurd (hold b (.inr ⟨_,_,_,e'⟩) (H.tok_lt e).2) (hfart _ _ _ _ hid e)
  ·exact H.tinj _ _ _ _ _ _ _ e e'
 ·rcases cK e with⟨hid,e⟩|⟨hid,e⟩<;>rcases cQ e' with⟨hid',e'⟩|⟨hid',e'⟩
  ·exact hs.bt _ _ _ _ _ e e'
  ·exact absurd (hold b (.inl ⟨_,e⟩) (H.tok_lt e').2) (hfart _ _ _ _ hid' e')
  ·exact absurd (hold b (.inr ⟨_,_,_,e'⟩) (H.blk_lt e).2) (hfar _ _ hid e)
  ·exact H.bt _ _ _ _ _ e e'
 ·by_cases hlt:id<h.length
  ·obtain⟨q1,q2,q3⟩:=hq id (by
    rintro (h1|h1)
    ·omega
    ·exact hid (.inr (by rw[aL hlt];exact h1)))
   refine⟨fun e=>by simp only[Gh.glue,hlt,if_true];exact q1 (by simp[Gh.res,hlt,e]),fun e=>by simp only[Gh.glue,hlt,if_true];exact q2 (by simp[Gh.res,hlt,e]),fun e e'=>?_⟩;rw[aL (by omega),aL hlt];exact q3 (by simp[Gh.res,hlt,e]) (by simp[Gh.res,hlt,e'])
  ·refine⟨fun e=>by simp only[Gh.glue,hlt,if_false];exact e,fun e=>by simp only[Gh.glue,hlt,if_false];exact e,fun _ _=>?_⟩;rw[aR (by omega),aR (by omega),hl]
theorem mu {P:Program}{m:Nat}{cf:av}(hcf:br P cf):br P (b9 m cf):=by
 intro f args hh r hh' e;unfold b9 at e;split at e
 ·rename_i hc;obtain⟨hfr,hm,hlow,hall⟩:=hc;refine⟨fun _=>?_,fun hy=>absurd hfr (Nat.not_lt.2 hy)⟩;split at e
  ·rename_i r' h1 hcall;split at e
   ·rename_i hl;simp only[sI,pI] at e;obtain⟨rfl,rfl⟩:=e;obtain⟨k1,k2⟩:=(hcf _ _ _ _ _ hcall).1 hfr;refine⟨k1,fun g w cargs H hla hr=>?_⟩;have hlen:(hh.take m).length=m:=by simp;omega
    have H2:HOk g w (hh.take m++hh.drop m):=by rw[List.take_append_drop];exact H
    have H3:=H2.cut (by rw[hlen];exact hall);rw[hlen] at H3;refine Calls.mono (k2 (g.res m) w cargs H3 hla fun i hi hj=>(hr i hi hj).res (aU hlow i hj)) ?_;rintro e w' ⟨v,g1,rfl,q1,q2,q3,q4⟩;have:=C1 (g1:=g1) (h1:=h1) H2 (by rw[hlen];exact q1) q2 (by rw[hlen];rw[hlen] at q4;exact q4) (by rw[hlen];exact hl);rw[hlen] at this;obtain⟨m1,m2,m3,m4⟩:=this;rw[List.take_append_drop] at m3;exact⟨v,_,rfl,m1,m2,m4 q3,m3⟩
   ·cases e
  ·cases e
 ·cases e
theorem kS {P:Program}{m:Nat}{cf:av}(hcf:br P cf):br P (aF m cf):=by
 intro f args hh r hh' e;unfold aF at e;by_cases hl:V.lows m args=true
 ·rw[if_pos hl] at e;exact mu hcf _ _ _ _ _ e
 ·rw[if_neg hl] at e;have hfr:f<rid:=by
   unfold b9 at e;split at e
   ·rename_i hc;exact hc.1
   ·cases e
  obtain⟨k1,k2⟩:=(mu hcf _ _ _ _ _ e).1 hfr;refine⟨fun _=>⟨k1,fun g w cargs H hla hr=>k2 g w cargs H (by rw[hla,List.length_map]) fun i hi hj=>?_⟩,fun hy=>absurd hfr (Nat.not_lt.2 hy)⟩;simp only[List.getElem_map];exact (hr i hi (by simpa using hj)).vw2
theorem wd (cf:av):bQ (fun _=>0) cf:=fun f args h r h' _=>⟨fun h=>by simp at h,fun h=>by simp at h,fun h=>by simp at h⟩
def sa (lt:Bool) (pf:Nat→Nat) (o:XOper):Nat :=
 match o.op with
 | .load _ _=>if eU lt o then 7 else 6
 | .call _ _=>5
 | op=>cls pf op
def wo (i j:Nat):Bool:=i==0||j==0||(i==6&&j==6)||(i==5&&j==6)||(i==6&&j==5)||(i==7&&j==7)||(i==6&&j==7)||(i==7&&j==6)
def ze (lt:Bool) (pf:Nat→Nat) (x y:XOper):Bool:=cC x y&&wo (sa lt pf x) (sa lt pf y)
def Bz (lt:Bool) (pf:Nat→Nat) (xs:List XOper) (j i:Nat):Bool :=
 match xs[j]?,xs[i]? with
 | some x,some y=>ze lt pf x y
 | _,_=>false
def rG (lt:Bool) (pf:Nat→Nat) (ops:List Oper) (xs:List XOper):Bool :=
 (List.range ops.length).all fun i=>match ops[i]? with
  | some o=>eC i o&&(List.range i).all fun j=>((ej ops []).getD i 0).testBit j||Bz lt pf xs j i
  | none=>false
theorem eN {lt:Bool}{pf:Nat→Nat}(o:XOper):(∃n x,o.op=.load n x∧sa lt pf o=if eU lt o then 7 else 6)∨(∃f args,o.op=.call f args∧sa lt pf o=5)∨((∀n x,o.op≠.load n x)∧(∀f args,o.op≠.call f args)∧sa lt pf o=cls pf o.op):=by
 obtain⟨d,op,g⟩:=o;cases op
 case load n x=>exact .inl ⟨n,x,rfl,rfl⟩
 case call f args=>exact .inr (.inl ⟨f,args,rfl,rfl⟩)
 all_goals exact .inr (.inr ⟨fun _ _ h=>(by cases h),fun _ _ h=>(by cases h),rfl⟩)
theorem pw {pf:Nat→Nat}(op:XOp):cls pf op<5∨cls pf op=8:=by
 unfold cls
 repeat' split
 all_goals decide
theorem Ee {lt:Bool}{pf:Nat→Nat}{o:XOper}(h:sa lt pf o=0):cls pf o.op=0:=by
 rcases eN (lt:=lt) (pf:=pf) o with⟨n,x,h1,h2⟩|⟨f,args,h1,h2⟩|⟨_,_,h2⟩
 ·rw[h2] at h;split at h<;>cases h
 ·rw[h2] at h;cases h
 ·rw[← h2];exact h
theorem Eh {lt:Bool}{pf:Nat→Nat}{o:XOper}(h:sa lt pf o=5):∃f args,o.op=.call f args:=by
 rcases eN (lt:=lt) (pf:=pf) o with⟨n,x,h1,h2⟩|⟨f,args,h1,h2⟩|⟨_,_,h2⟩
 ·rw[h2] at h;split at h<;>cases h
 ·exact⟨f,args,h1⟩
 ·have:=pw (pf:=pf) o.op;omega
theorem sG {lt:Bool}{pf:Nat→Nat}{o:XOper}(h:sa lt pf o=6):eU lt o=false∧∃n x,o.op=.load n x:=by
 rcases eN (lt:=lt) (pf:=pf) o with⟨n,x,h1,h2⟩|⟨f,args,h1,h2⟩|⟨_,_,h2⟩
 ·rw[h2] at h;split at h
  ·cases h
  ·rename_i hl;exact⟨by simpa using hl,n,x,h1⟩
 ·rw[h2] at h;cases h
 ·have:=pw (pf:=pf) o.op;omega
theorem Ae {lt:Bool}{pf:Nat→Nat}{o:XOper}(h:sa lt pf o=7):∃n x,o.op=.load n x:=by
 rcases eN (lt:=lt) (pf:=pf) o with⟨n,x,h1,h2⟩|⟨f,args,h1,h2⟩|⟨_,_,h2⟩
 ·exact⟨n,x,h1⟩
 ·rw[h2] at h;cases h
 ·have:=pw (pf:=pf) o.op;omega
theorem nQ {cf:av}{st:St}{n:Option Nat}{x:A}{v:V}{h':List O}(e:act cf st (.load n x)=some (v,h')):h'=st.h:=by
 simp only[act] at e;cases hx:ev st.tm x with
 | ref id o =>
  rw[hx] at e;simp only at e;split at e
  ·simp only[mS,pI] at e;obtain⟨_,_,_,rfl⟩:=e;rfl
  ·cases e
 | ptr cs o =>
  rw[hx] at e;simp only[mS,pI] at e;obtain⟨_,_,_,rfl⟩:=e;rfl
 | _=>rw[hx] at e;simp at e
theorem qa {m:Nat}{cf:av}{st:St}{n:Option Nat}{x:A}{v:V}{h':List O}(ho:ir m st (.load n x)=true) (e:act cf st (.load n x)=some (v,h')) :
  h'=st.h∧∀h2:List O,(∀id,m≤id→h2[id]?=st.h[id]?)→act cf { st with h:=h2 } (.load n x)=some (v,h2):=by
 simp only[act,ir] at e ho ⊢;cases hx:ev st.tm x with
 | ref id o =>
  rw[hx] at e ho;simp only[dT] at ho;simp only at e;split at e
  ·rename_i cs hcs;simp only[mS,pI] at e;obtain⟨v',hv,rfl,rfl⟩:=e;exact⟨rfl,fun h2 hh=>by simp only[hh _ ho,hcs,hv,Option.map_some]⟩
  ·cases e
 | ptr cs o =>
  rw[hx] at e;simp only[mS,pI] at e;obtain⟨v',hv,rfl,rfl⟩:=e;exact⟨rfl,fun h2 hh=>by simp only[hv,Option.map_some]⟩
 | _=>rw[hx] at e;simp at e
theorem qj {m:Nat}{cf:av}{st:St}{f:A}{args:List A}{v:V}{h':List O}(e:act (aF m cf) st (.call f args)=some (v,h')):∀id,m≤id→h'[id]?=st.h[id]?:=by
 have main:∀{f:Nat}{vs:List V}{r:V}{h1:List O},aF m cf f vs st.h=some (r,h1)→∀id,m≤id→h1[id]?=st.h[id]?:=by
  intro f vs r h1 hc;unfold aF at hc;generalize (if V.lows m vs=true then vs else vs.map V.vw2)=vs' at hc;unfold b9 at hc;split at hc
  ·rename_i hcond;split at hc
   ·rename_i r' h2 hcall;split at hc
    ·rename_i hl;simp only[sI,pI] at hc;obtain⟨rfl,rfl⟩:=hc;intro id hid;rw[aR (by omega),List.getElem?_drop,hl];congr 1;omega
    ·cases hc
   ·cases hc
  ·cases hc
 simp only[act,eb,fU] at e
 repeat' split at e
 all_goals first|(cases e;done)|exact main (bd e).1
theorem xH {m:Nat}{lt:Bool}{pf:Nat→Nat}{cf:av}{x y:XOper}{st:St}(ox:(eU lt x||ir m st x.op)=true) (oy:(eU lt y||ir m st y.op)=true) (hc:wo (sa lt pf x) (sa lt pf y)=true){vx vy:V}{hx hy:List O}
  (h1:b8 (aF m cf) x st=some (vx,hx)) (h2:b8 (aF m cf) y { st with h:=hx }=some (vy,hy)):∃hy',b8 (aF m cf) y st=some (vy,hy')∧b8 (aF m cf) x { st with h:=hy' }=some (vx,hy):=by
 generalize hcf:aF m cf=cg at *;unfold b8 at *;by_cases kx:aZ st.tm x.g=true;rotate_left
 ·rw[if_neg kx] at h1;cases h1
 by_cases ky:aZ st.tm y.g=true;rotate_left
 ·rw[if_neg ky] at h2;cases h2
 rw[if_pos kx] at h1;rw[if_pos ky] at h2;simp only[if_pos kx,if_pos ky];by_cases wx:aY st.tm x.g=true
 ·by_cases wy:aY st.tm y.g=true
  ·simp only[wx,wy,if_true] at h1 h2 ⊢;by_cases cx:sa lt pf x=0
   ·have cx:=Ee cx;have e:hx=st.h:=by
     have:=dg (st:=st) (cf:=cg) cx st.h;rw[show ({ st with h:=st.h }:St)=st from rfl,h1] at this;simp only[Option.map_some,sI,pI] at this;exact this.2
    rw[e] at h2;exact⟨hy,h2,by rw[dg cx hy,h1];rfl⟩
   ·by_cases cy:sa lt pf y=0
    ·have cy:=Ee cy;have h3:=dg (st:=st) (cf:=cg) cy hx;rw[h2] at h3;cases h4:act cg st y.op with
     | none=>rw[h4] at h3;simp at h3
     | some r =>
      obtain⟨v,h'⟩:=r;rw[h4] at h3;simp only[Option.map_some,sI,pI] at h3;obtain⟨rfl,rfl⟩:=h3;have h5:=dg (st:=st) (cf:=cg) cy st.h;rw[show ({ st with h:=st.h }:St)=st from rfl,h4] at h5;simp only[Option.map_some,sI,pI] at h5;obtain⟨_,rfl⟩:=h5;exact⟨st.h,rfl,h1⟩
    ·simp only[wo,Bool.or_eq_true,bT,beq_iff_eq,cx,cy,false_or] at hc;have loads:∀{n n':Option Nat}{p p':A},x.op=.load n p→y.op=.load n' p'→∃hy',act cg st y.op=some (vy,hy')∧act cg { st with h:=hy' } x.op=some (vx,hy):=by
      intro n n' p p' ex ey;rw[ex] at h1 ⊢;rw[ey] at h2 ⊢;have k1:=nQ h1;subst k1;have k2:=nQ (st:={ st with h:=st.h }) h2
      try simp only at k2
      subst k2;exact⟨_,h2,h1⟩
     rcases hc with ((((⟨a1,a2⟩|⟨a1,a2⟩)|⟨a1,a2⟩)|⟨a1,a2⟩)|⟨a1,a2⟩)|⟨a1,a2⟩
     ·obtain⟨_,n,p,ex⟩:=sG a1;obtain⟨_,n',p',ey⟩:=sG a2;exact loads ex ey
     ·obtain⟨f,args,ex⟩:=Eh a1;obtain⟨l2,n',p',ey⟩:=sG a2;rw[l2,Bool.false_or] at oy;rw[ex] at h1 ⊢;rw[ey] at h2 oy ⊢;have hk:=qj (m:=m) (cf:=cf) (by rw[hcf];exact h1);obtain⟨k2,k3⟩:=qa (st:={ st with h:=hx }) oy h2;simp only at k2;subst k2;exact⟨st.h,k3 st.h (fun id hid=>(hk id hid).symm),h1⟩
     ·obtain⟨l1,n,p,ex⟩:=sG a1;obtain⟨f,args,ey⟩:=Eh a2;rw[l1,Bool.false_or] at ox;rw[ex] at h1 ox ⊢;rw[ey] at h2 ⊢;obtain⟨rfl,k1⟩:=qa ox h1;have hk:=qj (m:=m) (cf:=cf) (by rw[hcf];exact h2);exact⟨hy,h2,k1 _ hk⟩
     ·obtain⟨n,p,ex⟩:=Ae a1;obtain⟨n',p',ey⟩:=Ae a2;exact loads ex ey
     ·obtain⟨_,n,p,ex⟩:=sG a1;obtain⟨n',p',ey⟩:=Ae a2;exact loads ex ey
     ·obtain⟨n,p,ex⟩:=Ae a1;obtain⟨_,n',p',ey⟩:=sG a2;exact loads ex ey
  ·simp only[wx,wy,if_true,Bool.false_eq_true,if_false,sI,pI] at h1 h2 ⊢;exact⟨st.h,⟨h2.1,rfl⟩,by rw[← h2.2];exact h1⟩
 ·by_cases wy:aY st.tm y.g=true
  ·simp only[wx,wy,if_true,Bool.false_eq_true,if_false,sI,pI] at h1 h2 ⊢;obtain⟨rfl,rfl⟩:=h1;exact⟨hy,h2,rfl,rfl⟩
  ·simp only[wx,wy,Bool.false_eq_true,if_false,sI,pI] at h1 h2 ⊢;exact⟨st.h,⟨h2.1,rfl⟩,h1.1,by rw[← h2.2];exact h1.2⟩
theorem pO {m:Nat}{st:St}{tm':List V}{h':List O}{op:XOp}(h:Agr op.rd st.tm tm'):ir m { st with tm:=tm',h:=h' } op=ir m st op:=by
 cases op
 case load n x =>
  have:ev st.tm x=ev tm' x:=bv (by simpa[XOp.rd] using h);simp only[ir,this]
 all_goals rfl
theorem dn {m:Nat}{lt:Bool}{cf:av}{x:XOper}{st st1:St}(h:d8 m lt cf x st=some st1):aI (aF m cf) x st=some st1:=by
 unfold d8 at h;split at h
 ·exact h
 ·cases h
theorem ib (m:Nat) (lt:Bool) (cf:av) (o:XOper) (st:St):d8 m lt cf o st=if eU lt o||ir m st o.op then (b8 (aF m cf) o st).map fun r=>{ st with tm:=bH st.tm o.d r.1,h:=r.2 } else none:=by
 unfold d8;rw[bX]
theorem sR {m:Nat}{lt:Bool}{pf:Nat→Nat}{cf:av}{x y:XOper}(hc:ze lt pf x y=true){st s1 s2:St}(h1:d8 m lt cf x st=some s1) (h2:d8 m lt cf y s1=some s2) :
  ∃s1',d8 m lt cf y st=some s1'∧d8 m lt cf x s1'=some s2:=by
 simp only[ze,cC,bT] at hc;obtain⟨⟨hx,hy⟩,hcl⟩:=hc;have x1:∀d,x.d=some d→d ∉ y.rd∧y.d≠some d:=by
  intro d hd;rw[hd] at hx;simpa using hx
 have y1:∀d,y.d=some d→d ∉ x.rd:=by
  intro d hd;rw[hd] at hy;simpa using hy
 rw[ib] at h1 h2;split at h1;rotate_left
 ·cases h1
 split at h2;rotate_left
 ·cases h2
 rename_i ox oy;simp only[mS] at h1 h2;obtain⟨⟨vx,hx'⟩,g1,rfl⟩:=h1;obtain⟨⟨vy,hy'⟩,g2,rfl⟩:=h2;simp only at g2 oy;have agy:Agr y.rd st.tm (bH st.tm x.d vx):=Agr.put fun d hd=>(x1 d hd).1
 have oy':(eU lt y||ir m st y.op)=true:=by
  rw[← oy];exact congrArg (eU lt y || ·) (pO (h':=hx') (Agr.left (by unfold XOper.rd at agy;exact agy))).symm
 have a1:b8 (aF m cf) y { st with h:=hx' }=some (vy,hy'):=by
  rw[eK (st:={ st with h:=hx' }) (tm':=bH st.tm x.d vx) agy];exact g2
 obtain⟨hm',b1,b2⟩:=xH ox oy' hcl g1 a1;refine⟨{ st with tm:=bH st.tm y.d vy,h:=hm' },by rw[ib,if_pos oy',b1];rfl,?_⟩;have agx:Agr x.rd st.tm (bH st.tm y.d vy):=Agr.put fun d hd=>y1 d hd
 have b3:b8 (aF m cf) x { st with tm:=bH st.tm y.d vy,h:=hm' }=some (vx,hy'):=by
  rw[← eK (st:={ st with h:=hm' }) (tm':=bH st.tm y.d vy) agx];exact b2
 rw[ib];have ox':(eU lt x||ir m { st with tm:=bH st.tm y.d vy,h:=hm' } x.op)=true:=by
  rw[pO (h':=hm') (Agr.left (by unfold XOper.rd at agx;exact agx))];exact ox
 rw[if_pos ox'];simp only at b3 ⊢;rw[b3];simp only[Option.map_some,sI,St.mk.injEq,and_true];cases hxd:x.d with
 | none=>rfl
 | some d =>
  cases hyd:y.d with
  | none=>rfl
  | some e =>
   have hne:e≠d:=by
    intro q;exact (x1 d hxd).2 (by rw[hyd,q])
   simp only[bH];exact List.set_comm _ _ hne
theorem uj {m:Nat}{lt:Bool}{pf:Nat→Nat}{cf:av}{y:XOper}{r2:List XOper}{s':St}:∀(r1:List XOper) (st:St),(∀x∈r1,ze lt pf x y=true)→ed m lt cf (r1++y::r2) st=some s' →
  ed m lt cf (y::(r1++r2)) st=some s'
 | [],_,_,h=>h
 | x::r1,st,hc,h=>by
  simp only[List.cons_append,ed] at h;cases h1:d8 m lt cf x st with
  | none=>rw[h1] at h;cases h
  | some s1 =>
   rw[h1] at h;simp only at h;have ih:=uj r1 s1 (fun z hz=>hc z (by simp[hz])) h;simp only[ed] at ih;cases h2:d8 m lt cf y s1 with
   | none=>rw[h2] at ih;cases ih
   | some s2 =>
    rw[h2] at ih;simp only at ih;obtain⟨s1',k1,k2⟩:=sR (hc x (by simp)) h1 h2;simp only[ed,List.cons_append,k1,k2,ih]
theorem ml {m:Nat}{lt:Bool}{cf:av}{x:XOper}{st st1:St}(h:d8 m lt cf x st=some st1):st.h.length≤st1.h.length:=db (dn h)
theorem rt {m:Nat}{lt:Bool}{cf:av}{x:XOper}{st st1:St}(h:d8 m lt cf x st=some st1):st1.rb=st.rb∧st1.base=st.base:=gY (dn h)
section
variable {P:Program}{ds:List Deferred}{ρ:Option Nat}{nn:Nat}
theorem Dj {m:Nat}{lt:Bool}{pf:Nat→Nat}{cf:av}(hcf:br P cf){ops:Array Oper}{xs:List XOper}{pres:List O}{tab:Nat→Nat × List O}{rw:Bool}(T:Tab P rw ops ops.toList 0 xs pres tab) (hd:rG lt pf ops.toList xs=true)
  {Q:Exit→Act→World→Prop}{st':St}{rb:Nat}(d0:XOper):∀(fuel:Nat) (rem:List Nat) (listed:Array Bool) (g:Gh) (w:World) (a:Act) (st:St),
  rem.length=fuel→listed.size=ops.size→(∀i,i∈rem↔i<ops.size∧listed.getD i true=false)→rem.Pairwise (· < ·)→kB ops.toList (fun i=>listed.getD i false) →
  ed m lt cf (rem.map fun i=>xs.getD i d0) st=some st'→Sim ds g w a st→st.rb=rb→rb≤st.h.length→(∀i∈rem,oe g st.h (rb+(tab i).1) (tab i).2) →
  (∀a' w' g',Le g w g' w'→Sim ds g' w' a' st'→Quiet (Frb rb st.h) g st.h g' st'.h→Q .normal a' w')→wpAnyIn (FR ρ) nn P .any ops Q fuel listed a w:=by
 have hmask:jz ops.toList (ej ops.toList []):=eG ops.toList ops.toList [] [] (by simp) rfl (by intro i o j _ h;simp at h);have hdi:∀i o,ops.toList[i]?=some o→eC i o=true∧∀j,j<i→((ej ops.toList []).getD i 0).testBit j=true∨Bz lt pf xs j i=true:=by
  intro i o ho;have hi:i<ops.toList.length:=(gS.1 ho).1;have:=List.all_eq_true.1 hd i (by simpa using hi);rw[ho] at this;simp only[bT,List.all_eq_true,List.mem_range,Bool.or_eq_true] at this;exact this
 have hget:∀(listed:Array Bool) i,listed.size=ops.size→i<ops.size→listed.getD i true=listed.getD i false:=by
  intro listed i hs hi;simp[Array.getD,hs,hi]
 intro fuel
 induction fuel with
 | zero =>
  intro rem listed g w a st hlen hls hmem _ _ hrun S _ _ _ hQ;have hnil:rem=[]:=List.eq_nil_of_length_eq_zero hlen;subst hnil;simp only[List.map_nil,ed,sI] at hrun;subst hrun;refine⟨?_,hQ _ _ _ (Le.refl _ _) S (Quiet.refl _ _ _)⟩;rw[List.eq_nil_iff_forall_not_mem];intro i hi;rw[mem_ready] at hi;obtain⟨h1,o,ho,_⟩:=hi;have:=(hmem i).2 ⟨(Array.getElem?_eq_some_iff.1 ho).1,h1⟩;simp at this
 | succ fuel ih =>
  intro rem listed g w a st hlen hls hmem hsort hcl hrun S hrb hrl hfr hQ;refine⟨fun hnil=>?_,fun i hi=>?_⟩
  ·exfalso;cases rem with
   | nil=>simp at hlen
   | cons i r =>
    have hi:=(hmem i).1 (by simp);have:i∈Region.ready .any ops listed:=by
     rw[mem_ready];refine⟨hi.2,ops[i],Array.getElem?_eq_getElem hi.1,fun e he hb=>?_⟩;have hl:=(hdi i ops[i] (by simp[hi.1])).1;simp only[eC,List.all_eq_true,Bool.or_eq_true,Bool.not_eq_true',dT] at hl;have hlt:e.on<i:=(hl e (by simpa using he)).resolve_left (by simp[hb]);cases hc:listed.getD e.on false with
     | true=>rfl
     | false =>
      have:e.on∈i::r:=(hmem e.on).2 ⟨by omega,by rw[hget listed e.on hls (by omega)];exact hc⟩;simp only[List.pairwise_cons] at hsort;rcases List.mem_cons.1 this with h|h
      ·omega
      ·have:=hsort.1 _ h;omega
    rw[hnil] at this;simp at this
  ·have hr:=mem_ready.1 hi;obtain⟨hun,o,ho,hpre⟩:=hr;have hilt:i<ops.size:=(Array.getElem?_eq_some_iff.1 ho).1;have hol:ops.toList[i]?=some o:=by simpa using ho
   have hir:=(hmem i).2 ⟨hilt,hun⟩;obtain⟨r1,r2,rfl⟩:=List.append_of_mem hir;have hs2:=List.pairwise_append.1 hsort;obtain⟨s1,s2,s3⟩:=hs2;simp only[List.pairwise_cons] at s2;obtain⟨x,hx,htr⟩:=T.op i o hol;have hxi:xs.getD i d0=x:=by rw[List.getD_eq_getElem?_getD,hx];rfl
   rw[List.map_append,List.map_cons,hxi] at hrun;have hbub:=uj (r1.map fun i=>xs.getD i d0) st (fun z hz=>by
    obtain⟨j,hj,rfl⟩:=List.mem_map.1 hz;have hji:j<i:=s3 j hj i (by simp);have hjm:=(hmem j).1 (by simp[hj]);rcases (hdi i o hol).2 j hji with h|h
    ·exfalso;have:=hmask i o j hol h _ hcl hpre;rw[← hget listed j hls hjm.1,hjm.2] at this;cases this
    ·unfold Bz at h;split at h
     ·rename_i x1 x2 e1 e2;rw[hx] at e2;simp only[sI] at e2;subst e2;rw[List.getD_eq_getElem?_getD,e1];exact h
     ·cases h) hrun
   rw[← List.map_append] at hbub;simp only[ed] at hbub;split at hbub
   ·rename_i st1 hst1;have:=jq (ρ:=ρ) (nn:=nn) (K:=wpAnyIn (FR ρ) nn P .any ops Q fuel (listed.setIfInBounds i true)) (Q:=Q) htr (dn hst1) (kS hcf) S (by rw[hrb];exact hfr i (by simp)) fun a' w' g' k1 k2 k3=>by
     refine ih (r1++r2) _ g' w' a' st1 (by simp at hlen ⊢;omega) (by simpa using hls) (fun j=>?_) ?_ ?_ hbub k2 ((rt hst1).1.trans hrb) (Nat.le_trans hrl (ml hst1)) (fun j hj=>?_) fun a'' w'' g'' m1 m2 m3=>hQ _ _ _ (k1.trans m1) m2 ((k3.mono (E':=Frb rb st.h) fun id hid=>hid.elim (fun h=>.inl (by have:=h.2;omega)) fun h=>h.imp (fun h=>Nat.le_trans hrl h) fun h=>h).transL k2.hk k1 m3)
     ·by_cases hji:i=j
      ·subst hji;constructor
       ·intro hj;exfalso;rcases List.mem_append.1 hj with h|h
        ·have:=s3 i h i (by simp);omega
        ·have:=s2.1 i h;omega
       ·rintro⟨_,h⟩;simp[Array.getD,hls,hilt] at h
      ·rw[getD_set_ne _ hji,← hmem j];simp only[List.mem_append,List.mem_cons];constructor
       ·rintro (h|h)
        ·exact .inl h
        ·exact .inr (.inr h)
       ·rintro (h|h|h)
        ·exact .inl h
        ·exact absurd h.symm hji
        ·exact .inr h
     ·exact List.pairwise_append.2 ⟨s1,s2.2,fun p hp' q hq=>s3 p hp' q (by simp[hq])⟩
     ·intro j o' ho' hj e he hb;simp only at hj ⊢;by_cases hji:i=j
      ·subst hji;have:o'=o:=by rw[hol] at ho';simpa using ho'.symm
       subst this;exact getD_set_true (hpre e he hb)
      ·rw[getD_set_ne _ hji] at hj;exact getD_set_true (hcl j o' ho' hj e he hb)
     ·intro hne;have hjm:j∈r1++i::r2:=by
       rcases List.mem_append.1 hj with h|h
       ·simp[h]
       ·simp[h]
      have hjs:=((hmem j).1 hjm).1;obtain⟨q1,q2,q3⟩:=hfr j hjm hne;have hin:rb+(tab j).1<st.h.length:=by
       obtain⟨p,hp'⟩:=List.exists_mem_of_ne_nil _ hne;exact (gS.1 (q3 p hp')).1
      have hslot:¬(((tab i).2≠[]∧rb+(tab j).1=st.rb+(tab i).1)∨Frb st.h.length st.h (rb+(tab j).1)):=by
       rintro (⟨n1,n2⟩|n3|n3);rotate_left
       ·omega
       ·obtain⟨p,hp'⟩:=List.exists_mem_of_ne_nil _ hne;have h1:=q3 p hp';rw[n3] at h1;simp only[sI] at h1;have h2:=List.all_eq_true.1 (T.own j (by simpa using hjs)) _ hp';rw[← h1] at h2;cases h2
       rw[hrb] at n2;rcases List.mem_append.1 hj with h|h
       ·have:=T.lt j i (s3 j h i (by simp)) (by simpa using hilt) hne;omega
       ·have:=T.lt i j (s2.1 j h) (by simpa using hjs) n1;omega
      have k:=k3 _ hslot;exact⟨k.1 q1,k.2.1 q2,fun p hp'=>(k.2.2 q1 q2).trans (q3 p hp')⟩
    unfold wpOpIn;rw[ho];simp only;split
    ·rename_i hw;rw[if_pos hw] at this;exact this
    ·rename_i hw;rw[if_neg hw] at this;exact⟨fun _ _=>trivial,this⟩
   ·cases hbub
theorem kI {m:Nat}{lt:Bool}{pf:Nat→Nat}{cf:av}(hcf:br P cf) (hm:P.follows .mixedOrders=true){id:Nat}{ops:Array Oper}{xs:List XOper}{pres:List O}{rw:Bool}(htr:ep P rw ops ops.toList 0=some (xs,pres))
  (hd:rG lt pf ops.toList xs=true){g:Gh}{w:World}{a:Act}{st st':St}(S:Sim ds g w a st) (hrun:ed m lt cf xs { st with h:=st.h++pres,rb:=st.h.length }=some st')
  {Q:Exit→Act→World→Prop}(hQ:∀a' w' g',Le g w g' w'→Sim ds g' w' a' st'→Quiet (Frb st.h.length st.h) g st.h g' st'.h→Q .normal a' w'):(Code.region id ops true).wpIn (FR ρ) nn P Q a w:=by
 have hfr:∀j (hj:j<pres.length),g.blk (st.h.length+j)=none∧g.tok (st.h.length+j)=none∧(st.h++pres)[st.h.length+j]?=some pres[j]:=by
  intro j hj;refine⟨S.hk.blk_none (by omega),S.hk.tok_none (by omega),?_⟩;rw[aR (by omega)];simp[hj]
 have S':Sim ds g w a { st with h:=st.h++pres,rb:=st.h.length }:=⟨S.tm,S.hk.append _,S.df⟩
 have hq:∀{g':Gh}{h':List O},Quiet (Frb st.h.length (st.h++pres)) g (st.h++pres) g' h'→Quiet (Frb st.h.length st.h) g st.h g' h':=by
  intro g' h' k id hid;have hlt:id<st.h.length:=by
   by_cases h:id<st.h.length
   ·exact h
   ·exact absurd (.inl (by omega)) hid
  have:=k id (by
   rintro (h|h)
   ·exact hid (.inl h)
   ·rw[aL hlt] at h;exact hid (.inr h))
  rw[aL hlt] at this;exact this
 obtain⟨tab,T⟩:=mo _ _ _ _ htr;refine wpIn_region_any hm ?_;obtain⟨d1,d2⟩:=S'.hk.drew;have S2:Sim ds g w.drew a { st with h:=st.h++pres,rb:=st.h.length }:=⟨S'.tm.mono d1,d2,S.df⟩
 refine Dj (m:=m) hcf T hd (rb:=st.h.length) ⟨none,.mv (.k az),none⟩ ops.size (List.range ops.size) _ g w.drew a _ (by simp) (by simp) (fun i=>?_) List.pairwise_lt_range ?_ ?_ S2 rfl (by simp) (fun i hi=>?_) (fun a' w' g' k1 k2 k3=>hQ _ _ _ (d1.trans k1) k2 (hq k3))
 ·simp only[List.mem_range,Array.getD,Array.size_replicate];constructor
  ·intro h;exact⟨h,by simp[h]⟩
  ·exact fun h=>h.1
 ·intro i o ho h;simp only[Array.getD,Array.size_replicate] at h;split at h<;>simp at h
 ·have e:(List.range ops.size).map (fun i=>xs.getD i ⟨none,.mv (.k az),none⟩)=xs:=by
   apply List.ext_getElem
   ·simp[T.len]
   ·intro i h1 h2;simp[List.getD_eq_getElem?_getD,h2]
  rw[e];exact hrun
 ·intro hne;have hi':i<ops.toList.length:=by simpa using hi
  cases hpre:(tab i).2 with
  | nil=>exact absurd hpre hne
  | cons p r =>
   have h1:=T.at' i hi' p (by rw[hpre];simp);obtain⟨hlt,_⟩:=gS.1 h1;rw[Nat.sub_zero] at hlt;obtain⟨f1,f2,f3⟩:=hfr _ hlt;refine⟨f1,f2,fun q hq=>?_⟩;have h2:=T.at' i hi' q (by rw[hpre];exact hq);rw[Nat.sub_zero] at h2;rw[f3,← h2,gE hlt]
end
end Go.Proofs.YtjhffhmokcogkaaGreatDoor.Ab
