/- Part 4 of 19: the interpreter. -/
import Derived.Test.YtjhffhmokcogkaaGreatDoorCa2
set_option linter.unusedVariables false
set_option linter.unusedSimpArgs false
set_option linter.defProp false
namespace Go.Proofs.YtjhffhmokcogkaaGreatDoor.Ab
open Go
def Appd (g:Gh) (w0 w:World) (m:Nat) (ps:List Int) (x:Value):Prop :=
 ∃b cap c T,x=.slice (some ⟨b,0,none⟩) ps.length cap∧ps.length≤cap∧w.heap[b]?=some (.cells c T (0,0))∧cap≤c.size∧(∀j (hj:j<ps.length),c[j]?=some (.int .i64 ps[j]))∧Whose g w0 m b
section
variable {P:Program}
theorem append_inv {rw rw':Bool}{al al':Nat}{op:Op}{z:Option Nat}{by':Nat}{x y:A}{pre:List O}(h:trOp P rw al op=some (.append al' z by' rw' x y,pre)) :
    ∃t u e e2 X Y i zz,op=.call ⟨.builtin .append,#[X,Y],#[t,u]⟩∧P.underlying t=some (.slice e)∧P.underlying u=some (.slice e2)∧trA X=some x∧trA Y=some y∧P.info? e=some i∧zeroT P e=some zz∧zc z=i.size∧by'=i.bytes:=by
  have key:∀c,op=.call c→∃t u e e2 X Y i zz,op=.call ⟨.builtin .append,#[X,Y],#[t,u]⟩∧P.underlying t=some (.slice e)∧P.underlying u=some (.slice e2)∧trA X=some x∧trA Y=some y∧P.info? e=some i∧zeroT P e=some zz∧zc z=i.size∧by'=i.bytes:=by
    rintro⟨cal,args,tys⟩ rfl
    simp only [trOp] at h
    cases cal with
    | invoke r m=>simp [trCall] at h
    | value F =>
      simp only [trCall] at h
      split at h
      · simp at h
      · cases h
    | builtin b =>
      cases b
      case append =>
        simp only [trCall] at h
        split at h
        · rename_i X Y t u h1 h2
          have hX:args=#[X,Y]:=Array.ext' h1
          have hT:tys=#[t,u]:=Array.ext' h2
          subst hX hT
          simp only [trApp] at h
          split at h
          · rename_i e e2 x' y' hu1 hu2 hx' hy'
            split at h
            · rename_i i zz zn hi hzz hzn
              split at h
              · rename_i hzi
                simp only [sI,pI,XOp.append.injEq] at h
                obtain⟨⟨rfl,rfl,rfl,rfl,rfl,rfl⟩,_⟩:=h
                exact⟨t,u,e,e2,X,Y,i,zz,rfl,hu1,hu2,hx',hy',hi,hzz,hzi,rfl⟩
              · cases h
            · cases h
          · cases h
        · cases h
      all_goals (first
        | (simp only [trCall] at h;cases h;done)
        | (simp only [trCall,mS,pI,reduceCtorEq,false_and,and_false,exists_false] at h;done)
        | (exfalso;simp only [trCall,trLen] at h
           repeat' split at h
           all_goals simp [mS] at h))
  cases op
  case call c=>exact key c rfl
  case makeMap t r=>exfalso;cases r<;>simp [trOp] at h
  case makeFunc fn first caps =>
    exfalso
    cases fn<;>simp only [trOp] at h
    all_goals (repeat' split at h)
    all_goals simp [mS] at h
  all_goals (exfalso;try simp only [trOp,trUpd,trMake] at h)
  all_goals (first
    | (cases h;done)
    | (simp only [mS,pI,reduceCtorEq,false_and,and_false,exists_false] at h;done)
    | (repeat' split at h
       all_goals simp [mS] at h))
theorem append_kid {rw rw':Bool}{al al':Nat}{o:Oper}{by':Nat}{x y:A}{pre:List O}(htr:trOp P rw al o.op=some (.append al' none by' rw' x y,pre)){g:Gh}{w w0:World}{a:Act}{tm:List V}{h:List O}(ht:Tm g w a tm) (H:HOk g w h)
  (hsz:w0.heap.size≤w.heap.size){m:Nat}{ps:List Int}{i:Int}{si:SI}(hx:PV m ps (ev tm x)) (hy:ev tm y=.sl [I64 i] si) (hm:ev tm x=.buf m ps.length→h[m]?=some (pcell ps)) (hby:(ps.length+1)*by'≤140737488355328) (h63:ps.length+1≤9223372036854775807) :
  ∃val w',(execOp a.eval o).run P w=.ok (.value val) w'∧Le g w g w'∧HOk g w' h∧Appd g w0 w' m (ps++[i]) val:=by
 obtain⟨t,u,e,e2,X,Y,inf,zz,hop,hu1,hu2,hX,hY,hi,hzz,hz,rfl⟩:=append_inv htr
 simp only [zc] at hz
 obtain⟨zv,i',hi',hz0,hzs,_,_⟩:=zero_ok (P:=P) (g:=g) (w:=w) hzz
 have hii:i'=inf:=by rw [hi] at hi';exact (Option.some.inj hi').symm
 subst hii
 have hxr:=ev_rep ht hX
 have hyr:=ev_rep ht hY
 rw [hy] at hyr
 obtain⟨A2,cap2,z2,cw,hye,_,hz2,hA2,hrw,_⟩:=hyr.of_sl
 have hz2':z2=1:=by have:=hz2 (I64 i) (by simp);simpa [I64,V.cells] using this.symm
 subst hz2'
 obtain⟨sw,ow⟩:=sl_src hz2 hA2
 have hcw:cw 0=.int .i64 i:=rep_I64 (hrw 0 (by simp [flats,I64,V.cells]))
 have hnews:(List.range ([I64 i].length*1)).map cw=[.int .i64 i]:=by simp [hcw]
 rw [hnews] at sw ow
 simp only [lC,List.length_nil] at hye
 have hrun:∀{A:Option Addr}{n cap:Nat}{r w'},a.eval X=.slice A n cap→(Builtin.append_ #[t,u] o.type #[.slice A n cap,.slice A2 1 cap2]).run P w=.ok r w'→(execOp a.eval o).run P w=.ok (.value r) w':=by
  intro A n cap r w' he hr
  simp only [execOp,hop,resolve,invoke,builtin,Sem.run_bind,Sem.run_pure,Result.andThen_ok,List.map_toArray,List.map_cons,List.map_nil,he,hye]
  rw [hr]
  rfl
 have hln:([.int .i64 i]:List Value).length=1*i'.size:=by rw [← hz];rfl
 have grows:∀{A:Option Addr}{cap:Nat},a.eval X=.slice A ps.length cap→cap<ps.length+1→∀olds:List Value,olds=ps.map (fun p=>Value.int .i64 p)→Src w A olds →
   ∃val w',(execOp a.eval o).run P w=.ok (.value val) w'∧Le g w g w'∧HOk g w' h∧Appd g w0 w' m (ps++[i]) val:=by
  intro A cap he hgc olds holds so
  have hlo:olds.length=ps.length*i'.size:=by rw [holds,← hz];simp
  have hr:=app_grow (P:=P) (w:=w) (ty:=o.type) (c2:=cap2) hu1 hu2 hi hz0 hlo so hln sw hgc hby h63
  have hgcap:=grownCap_ge w (ps.length+1) cap e
  obtain⟨k1,k2⟩:=H.grew (Grew.drewAlloc w (.cells (olds++[Value.int .i64 i]++(Builtin.zeroCells zv.cells (grownCap w (ps.length+1) cap e-(ps.length+1))).toList).toArray e))
  refine⟨_,_,hrun he hr,k1,k2,w.heap.size,grownCap w (ps.length+1) cap e,_,_,by simp,by simpa using hgcap,(Grew.new (Grew.drewAlloc w _)),?_,fun j hj=>?_,.inr ⟨hsz,fun ho=>?_,fun o' ho=>?_⟩⟩
  ·simp only [List.size_toArray,lA,hlo,lC,List.length_nil,Array.length_toList,size_zeroCells,hzs,← hz];omega
  ·have hj':j<ps.length+1:=by simpa using hj
   rw [List.getElem?_toArray,aL (by rw [holds];simpa using hj'),holds,List.getElem?_append]
   simp only [List.length_map]
   by_cases c:j<ps.length
   ·simp [c,List.getElem_append_left c]
   ·have:j=ps.length:=by omega
    subst this
    simp
  ·have:=H.owns_lt ho;omega
  ·have:=H.al _ _ ho;omega
 rcases hx with hx|⟨hx,hps⟩
 ·rw [hx] at hxr
  have hm:=hm hx
  generalize hE:a.eval X=ex at hxr
  cases hxr with
  | buf A _ cap _ hc hA =>
   obtain⟨b,cc,T,rfl,hb,hheap,hcap⟩:=hA
   obtain⟨cs0,c0,T0,h1,h2,h3,h4,h5⟩:=H.cellsOf hb hm
   have hcs0:cs0=ps.map I64:=by rw [hm] at h1;simp only [sI,pcell,O.cells.injEq] at h1;exact h1.symm
   have hc0:c0=cc∧T0=T:=by rw [hheap] at h2;simp at h2;exact⟨h2.1.symm,h2.2.symm⟩
   obtain⟨rfl,rfl⟩:=hc0
   subst hcs0
   have hcell:∀j (hj:j<ps.length),c0[j]?=some (Value.int .i64 ps[j]):=by
    intro j hj
    have hj2:j<c0.size:=by simp at h3;omega
    have:=(h4 j (by simpa using hj) hj2).1
    rw [List.getElem_map] at this
    rw [Array.getElem?_eq_getElem hj2,rep_I64 this]
   by_cases hroom:ps.length+1≤cap
   ·have hfit:ps.length*i'.size+([.int .i64 i]:List Value).length≤c0.size:=by rw [← hz];simp;omega
    have hr:=app_fit (P:=P) (w:=w) (ty:=o.type) (c2:=cap2) hu1 hu2 hi hheap hln sw ow hroom hfit
    rw [← hz,Nat.mul_one] at hr
    have hsz2:(c0.toList.take ps.length++[Value.int .i64 i]++c0.toList.drop (ps.length+([.int .i64 i]:List Value).length)).length=c0.size:=by
     simp only [lA,List.length_take,List.length_drop,Array.length_toList,lC,List.length_nil];omega
    have hnew:∀j (hj:j<(ps++[i]).length),(c0.toList.take ps.length++[Value.int .i64 i]++c0.toList.drop (ps.length+([.int .i64 i]:List Value).length)).toArray[j]?=some (Value.int .i64 (ps++[i])[j]):=by
     intro j hj
     have hj':j<ps.length+1:=by simpa using hj
     have hlen:(c0.toList.take ps.length).length=ps.length:=by simp;omega
     rw [List.getElem?_toArray,List.append_assoc,List.getElem?_append,hlen]
     by_cases c:j<ps.length
     ·simp only [c,if_true,List.getElem?_take,List.getElem_append_left c]
      have:=hcell j c
      simpa using this
     ·have:j=ps.length:=by omega
      subst this
      simp
    obtain⟨k1,k2⟩:=H.storeCells hb hm hheap (c':=(c0.toList.take ps.length++[Value.int .i64 i]++c0.toList.drop (ps.length+([.int .i64 i]:List Value).length)).toArray) (cs':=ps.map I64) (by simpa using hsz2) rfl (fun j hj hk=>by
     have hj':j<ps.length:=by simpa using hj
     have:=hnew j (by simp;omega)
     rw [Array.getElem?_eq_getElem hk] at this
     rw [Option.some.inj this,List.getElem_map,List.getElem_append_left hj']
     exact⟨.c _,rfl⟩)
    rw [show O.cells (ps.map I64)=pcell ps from rfl,set_same hm] at k2
    refine⟨_,_,hrun hE hr,k1,k2,b,cap,_,T0,by simp,by simpa using hroom,setRow_heap w _ _ _ _ _ hheap,by simp only [List.size_toArray,hsz2];exact hcap,hnew,.inl hb⟩
   ·refine grows hE (by omega) _ rfl (.inr ⟨_,rfl,fun j v hj=>?_⟩)
    rw [List.getElem?_map] at hj
    obtain⟨p,hp,rfl⟩:=mS.1 hj
    obtain⟨hj',rfl⟩:=gS.1 hp
    rw [Addr.add_lit,Nat.zero_add,cell_of hheap]
    exact hcell j hj'
 ·subst hps
  rw [hx] at hxr
  generalize hE:a.eval X=ex at hxr
  cases hxr with
  | sl A n cap _ _ z cv hn hc hzz hA hr hsi =>
   obtain⟨rfl,rfl⟩:=hsi
   have:n=0:=by simpa using hn
   subst this
   exact grows (cap:=0) hE (by simp) [] rfl (.inl rfl)
end
section
variable {P:Program}{ds:List Deferred}
theorem load_same {rw:Bool}{al:Nat}{o:Oper}{n:Option Nat}{x:A}{pre:List O}(htr:trOp P rw al o.op=some (.load n x,pre)){g:Gh}{w:World}{a:Act}{st:St}(ht:Tm g w a st.tm) (H:HOk g w st.h){cf:CallF}{v:V}{h':List O}
    (hact:act cf st (.load n x)=some (v,h')):h'=st.h∧PureOk P g w a o v:=by
  obtain⟨t,X,ho,hn,hx⟩:∃t X,o.op=.load t X∧nT P t=some n∧trA X=some x:=by
    cases hop:o.op<;>rw [hop] at htr<;>(try simp only [trOp,trUpd,trMake] at htr)
    case load t X =>
      split at htr
      · rename_i n' x' hn hx
        simp only [sI,pI,XOp.load.injEq] at htr
        obtain⟨⟨rfl,rfl⟩,_⟩:=htr
        exact⟨t,X,rfl,hn,hx⟩
      · cases htr
    case call c =>
      exfalso
      obtain⟨cal,args,tys⟩:=c
      cases cal with
      | invoke r m=>simp [trCall] at htr
      | value F=>simp only [trCall] at htr;split at htr <;> simp at htr
      | builtin b =>
        cases b<;>simp only [trCall,trLen,trApp] at htr
        all_goals (first
          | (cases htr;done)
          | (simp only [mS,pI,reduceCtorEq,false_and,and_false,exists_false] at htr;done)
          | (repeat' split at htr
             all_goals simp [mS] at htr))
    case makeMap t r=>exfalso;cases r<;>simp [trOp] at htr
    case makeFunc fn first caps =>
      exfalso
      cases fn<;>simp only [trOp] at htr
      all_goals (repeat' split at htr)
      all_goals simp [mS] at htr
    all_goals (exfalso;first
      | (cases htr;done)
      | (simp only [mS,pI,reduceCtorEq,false_and,and_false,exists_false] at htr;done)
      | (repeat' split at htr
         all_goals simp [mS] at htr))
  simp only [act] at hact
  have hr:=ev_rep ht hx
  cases he:ev st.tm x with
  | ref id off =>
    rw [he] at hr hact
    simp only at hact
    split at hact
    · rename_i cs hcs
      simp only [mS,pI] at hact
      obtain⟨v',hv,rfl,rfl⟩:=hact
      obtain⟨b,hX,hb⟩:=hr.of_ref
      obtain⟨cs0,c,T,h1,h2,h3,h4,h5⟩:=H.cellsOf hb hcs
      have hcs0:cs0=cs:=by rw [hcs] at h1;simp at h1;exact h1.symm
      subst hcs0
      obtain⟨y,h6,h7⟩:=load_cells (P:=P) (b:=b) (o0:=0) hn (f:=fun j=>c.getD j undef) (fun j hj=>by
        have hj2:j<c.size:=by omega
        have e1:c.getD j undef=c[j]:=by simp [Array.getD,hj2]
        rw [Nat.zero_add,cell_of h2]
        simp only [e1]
        exact⟨by simp [hj2],(h4 j hj hj2).2⟩) (fun j hj=>by
        have hj2:j<c.size:=by omega
        have e1:c.getD j undef=c[j]:=by simp [Array.getD,hj2]
        simp only [e1]
        exact (h4 j hj hj2).1) hv
      rw [Nat.zero_add] at h6
      exact⟨rfl,y,by simp [execOp,ho,Instr.loadAt,Instr.sureAddr,hX,h6],h7⟩
    · cases hact
  | ptr cs off =>
    rw [he] at hr hact
    simp only [mS,pI] at hact
    obtain⟨v',hv,rfl,rfl⟩:=hact
    obtain⟨b,o0,cv,hX,h1,h2⟩:=hr.of_ptr
    obtain⟨y,h6,h7⟩:=load_cells (P:=P) (b:=b) (o0:=o0) hn (f:=cv) (fun j hj=>⟨(h1 j hj).2.1,(h1 j hj).2.2⟩) h2 hv
    exact⟨rfl,y,by simp [execOp,ho,Instr.loadAt,Instr.sureAddr,hX,h6],h7⟩
  | _=>rw [he] at hact;simp at hact
theorem call_inv {rw:Bool}{al:Nat}{op:Op}{fa:A}{xas:List A}{pre:List O}(h:trOp P rw al op=some (.call fa xas,pre)):∃F args tys,op=.call ⟨.value F,args,tys⟩∧trA F=some fa∧trAL args.toList=some xas:=by
  have key:∀c,op=.call c→∃F args tys,op=.call ⟨.value F,args,tys⟩∧trA F=some fa∧trAL args.toList=some xas:=by
    rintro⟨cal,args,tys⟩ rfl
    simp only [trOp] at h
    cases cal with
    | invoke r m=>simp [trCall] at h
    | value F =>
      simp only [trCall] at h
      split at h
      · rename_i f' xas' h1 h2
        simp only [sI,pI,XOp.call.injEq] at h
        obtain⟨⟨rfl,rfl⟩,_⟩:=h
        exact⟨F,args,tys,rfl,h1,h2⟩
      · cases h
    | builtin b =>
      exfalso
      cases b<;>simp only [trCall,trLen,trApp] at h
      all_goals (first
        | (cases h;done)
        | (simp only [mS,pI,reduceCtorEq,false_and,and_false,exists_false] at h;done)
        | (repeat' split at h
           all_goals simp [mS] at h))
  cases op
  case call c=>exact key c rfl
  case makeMap t r=>exfalso;cases r<;>simp [trOp] at h
  case makeFunc fn first caps =>
    exfalso
    cases fn<;>simp only [trOp] at h
    all_goals (repeat' split at h)
    all_goals simp [mS] at h
  all_goals (exfalso;try simp only [trOp,trUpd,trMake] at h)
  all_goals (first
    | (cases h;done)
    | (simp only [mS,pI,reduceCtorEq,false_and,and_false,exists_false] at h;done)
    | (repeat' split at h
       all_goals simp [mS] at h))
theorem trA_tmp {X:Operand}{t:Nat}(h:trA X=some (.t t)):X=.tmp t:=by
 cases X with
 | tmp u=>simp only [trA,sI,A.t.injEq] at h;rw [h]
 | const v=>simp only [trA] at h;split at h <;> simp at h
 | func f=>simp [trA] at h
 | global n=>simp [trA] at h
theorem trAL_cons {l:List Operand}{a:A}{xas:List A}(h:trAL l=some (a::xas)):∃x r,l=x::r∧trA x=some a∧trAL r=some xas:=by
 cases l with
 | nil=>simp [trAL] at h
 | cons x r =>
  simp only [trAL] at h
  split at h
  ·rename_i a' l' h1 h2
   simp only [sI,cI] at h
   obtain⟨rfl,rfl⟩:=h
   exact⟨x,r,rfl,h1,h2⟩
  ·cases h
theorem trAL_nil {l:List Operand}(h:trAL l=some []):l=[]:=by
 cases l with
 | nil=>rfl
 | cons x r =>
  simp only [trAL] at h
  split at h
  ·simp at h
  ·cases h
theorem step_tmlen {cf:CallF}{x:XOper}{st st1:St}(h:stepO cf x st=some st1):st1.tm.length=st.tm.length:=by
 rw [step_give] at h
 simp only [mS] at h
 obtain⟨r,_,rfl⟩:=h
 cases x.d<;>simp [putV]
theorem oper_inv {rw:Bool}{ops:Array Oper}{al:Nat}{o:Oper}{d:Option Nat}{x:XOp}{pre:List O}(h:trOper P rw ops al o=some (⟨d,x,none⟩,pre)):o.dst=d∧o.guard=none∧trOp P rw al o.op=some (x,pre):=by
 unfold trOper at h
 split at h
 ·rename_i x' pre' gd h1 h2
  simp only [sI,pI,XOper.mk.injEq] at h
  obtain⟨⟨rfl,rfl,rfl⟩,rfl⟩:=h
  refine⟨rfl,?_,h1⟩
  cases hg:o.guard with
  | none=>rfl
  | some p =>
   obtain⟨j,b⟩:=p
   rw [hg] at h2
   simp only [trG] at h2
   split at h2<;>simp at h2
 ·cases h
theorem kid_drawn {pf:Nat→Nat}{F:Nat}(hF:pf F=0){l:List Oper}(hl:l.length=8) (hd:drawnOk pf l (kidOps F)=true):drawnOk (kidPf F) l (kidOps' F)=true:=by
 unfold drawnOk at hd ⊢
 rw [List.all_eq_true] at hd ⊢
 intro i hi
 have:=hd i hi
 rw [List.mem_range,hl] at hi
 split at this
 ·rename_i o ho
  simp only [bT,List.all_eq_true,List.mem_range,Bool.or_eq_true] at this ⊢
  exact⟨this.1,fun j hj=>(this.2 j hj).imp id (kid_pairs pf F hF i j hj hi)⟩
 ·cases this
theorem kid_bit {pf:Nat→Nat}{F:Nat}{l:List Oper}(hl:l.length=8) (hd:drawnOk pf l (kidOps F)=true){i j:Nat}(hi:i<8) (hj:j<i) (hn:pairB pf (kidOps F) j i=false):((masks l []).getD i 0).testBit j=true:=by
 unfold drawnOk at hd
 rw [List.all_eq_true] at hd
 have:=hd i (by rw [List.mem_range,hl];exact hi)
 split at this
 ·simp only [bT,List.all_eq_true,List.mem_range,Bool.or_eq_true] at this
  rcases this.2 j hj with h|h
  ·exact h
  ·rw [hn] at h;cases h
 ·cases this
theorem kid_region {rw:Bool}{pf:Nat→Nat}{cf:CallF}(hm:P.follows .mixedOrders=true){F k:Nat}(hF:pf F=0) (IH:∀f caps,EachAt P F cf f caps k) (hW:Walked P F){rid:Nat}{ops:Array Oper}(htr:trOps P rw ops ops.toList 0=some (kidOps F,[.tok 1 1,.dead]))
  (hd:drawnOk pf ops.toList (kidOps F)=true){m:Nat}{ps:List Int}{i:Nat}{st st':St}{g:Gh}{w:World}{a:Act}(S:Sim ds g w a st) (hml:m+1≤st.h.length) (htl:26<st.tm.length)
  (hrun:runOps (kidCf F m cf k ps i) (kidOps' F) { st with h:=st.h++[.tok 1 1,.dead],rb:=st.h.length }=some st') (hps:(ps.length+1)*8≤140737488355328)
  {Q:Exit→Act→World→Prop}(hQ:∀a' w' g',Le g w g' w'→Sim ds g' w' a' st'→Quiet (Frb m st.h) g st.h g' st'.h→st.h.length≤st'.h.length→Q .normal a' w'):(Code.region rid ops true).wp P Q a w:=by
 obtain⟨tab,T⟩:=tab_of _ _ _ _ htr
 have hol:ops.toList.length=8:=by rw [← T.len];rfl
 have hos:ops.size=8:=by simpa using hol
 have hd':=kid_drawn hF hol hd
 refine (wpIn_wide (n:=0)).1 (wpIn_region_any (F:=FR none) hm ?_)
 let h0:=st.h++[O.tok 1 1,O.dead]
 have hfr0:∀j (hj:j<([.tok 1 1,.dead]:List O).length),g.blk (st.h.length+j)=none∧g.tok (st.h.length+j)=none∧(st.h++[.tok 1 1,.dead])[st.h.length+j]?=some ([.tok 1 1,.dead]:List O)[j]:=by
  intro j hj
  refine⟨S.hk.blk_none (by omega),S.hk.tok_none (by omega),?_⟩
  rw [aR (by omega)]
  simp [hj]
 obtain⟨d1,d2⟩:=(S.hk.append [.tok 1 1,.dead]).drew
 have S0:Sim ds g w.drew a { st with h:=st.h++[.tok 1 1,.dead],rb:=st.h.length }:=⟨S.tm.mono d1,d2,S.df⟩
 let R:Array Bool→St→Act→World→Prop:=fun listed s a1 w1=>∃g1,Le g w g1 w1∧Sim ds g1 w1 a1 s∧Quiet (Frb m st.h) g st.h g1 s.h∧s.rb=st.h.length∧st.h.length≤s.h.length ∧
  (∀j,j<8→listed.getD j false=false→j≠4→Fresh g1 s.h (st.h.length+(tab j).1) (tab j).2) ∧
  (listed.getD 4 false=true→listed.getD 6 false=false→∃x,a1.tmps[26]?=some x∧Appd g1 w w1 m (ps++[(i:Int)]) x)∧26<s.tm.length
 have hmask:MaskOk ops.toList (masks ops.toList []):=masks_ok ops.toList ops.toList [] [] (by simp) rfl (by intro i o j _ h;simp at h)
 have hget:∀(listed:Array Bool) i,listed.size=ops.size→i<8→listed.getD i true=listed.getD i false:=by
  intro listed i hs hi
  simp [Array.getD,hs,hos,hi]
 have hsetne:∀(listed:Array Bool) (i j:Nat),i≠j→(listed.setIfInBounds i true).getD j false=listed.getD j false:=fun listed i j h=>getD_set_ne _ h
 refine any_gen (kid_pure (F:=F) (m:=m) (cf:=cf) (k:=k) (ps:=ps) (i:=i)) (xs:=kidOps' F) (by rw [hos];rfl) hd' (st':=st') ⟨none,.mv (.k undefV),none⟩ R ?_ ?_ ops.size (List.range ops.size) _ w.drew a { st with h:=st.h++[.tok 1 1,.dead],rb:=st.h.length } (by simp) (by simp) (fun i=>?_) List.pairwise_lt_range ?_ ?_ (by simp) ?_
 ·-- one operation
  intro q o x ho hx listed hls hun hcl hbits s s1 a1 w1 hst hR K hK
  obtain⟨g1,r1,r2,r3,r4,r5,r6,r7,r8⟩:=hR
  have hq:q<8:=by rw [← hos];exact (Array.getElem?_eq_some_iff.1 ho).1
  have hunf:listed.getD q false=false:=by rw [← hget listed q hls hq];exact hun
  have hol':ops.toList[q]?=some o:=by simpa using ho
  obtain⟨x0,hx0,htro⟩:=T.op q o hol'
  have h41:listed.getD 4 false=true→listed.getD 1 false=true∧listed.getD 3 false=true:=by
   intro h4
   have ho4:ops.toList[4]?=some (ops[4]'(by omega)):=by simp [hos]
   have hpre:=hcl 4 _ ho4 h4
   exact⟨hmask 4 _ 1 ho4 (kid_bit hol hd (by omega) (by omega) (by simp [pairB,kidOps,commB,apartB,XOper.rd,XOp.rd,A.rd])) _ hcl hpre,
    hmask 4 _ 3 ho4 (kid_bit hol hd (by omega) (by omega) (by simp [pairB,kidOps,commB,apartB,XOper.rd,XOp.rd,A.rd])) _ hcl hpre⟩
  have h32:listed.getD 3 false=true→listed.getD 2 false=true:=by
   intro h3
   have ho3:ops.toList[3]?=some (ops[3]'(by omega)):=by simp [hos]
   exact hmask 3 _ 2 ho3 (kid_bit hol hd (by omega) (by omega) (by simp [pairB,kidOps,commB,apartB,XOper.rd,XOp.rd,A.rd])) _ hcl (hcl 3 _ ho3 h3)
  have same:∀{d:Option Nat}{xo:XOp},x=⟨d,xo,none⟩→o.dst=d→o.guard=none→(∀v h',act (kidCf F m cf k ps i) s xo=some (v,h')→h'=s.h∧PureOk P g1 w1 a1 o v) →
    (∀r v,Rep g1 w1 r v→s1={ s with tm:=putV s.tm d v }→K (a1.put d r) w1)→if Region.wanted o (yielded ops a1.tmps) then o.wpIn (FR none) 0 P a1 w1 K Q else K (a1.put o.dst undef) w1:=by
   intro d xo hxe hdst hgd hact hk
   subst hxe
   rw [step_give] at hst
   simp only [give,known,wants,if_true,mS] at hst
   obtain⟨⟨v,h'⟩,ha,rfl⟩:=hst
   obtain⟨rfl,r,hrun',hrep⟩:=hact v h' ha
   rw [if_pos (by simp [Region.wanted,hgd])]
   unfold Oper.wpIn
   refine⟨fun _ _=>trivial,?_⟩
   rw [show Oper.semAt (FR none).round a1.eval o=execOp a1.eval o from rfl,hrun',Oper.uponIn_value,hdst]
   exact hk r v hrep rfl
  by_cases h4:q=4
  ·-- the path is made longer
   subst h4
   simp only [kidOps,List.getElem?_cons_succ,List.getElem?_cons_zero,sI] at hx0
   simp only [kidOps',List.getElem?_cons_succ,List.getElem?_cons_zero,sI] at hx
   subst hx0
   subst hx
   obtain⟨i1,i2,i3⟩:=oper_inv htro
   have hlen:=step_tmlen hst
   rw [step_give] at hst
   simp only [give,known,wants,if_true,mS] at hst
   obtain⟨⟨v,h'⟩,ha,rfl⟩:=hst
   obtain⟨rfl,rfl,si,hx,hy,hm'⟩:v=.top∧h'=s.h∧∃si,PV m ps (ev s.tm (.t 23))∧ev s.tm (.t 25)=.sl [I64 i] si∧(ev s.tm (.t 23)=.buf m ps.length→s.h[m]?=some (pcell ps)):=by
    simp only [act] at ha
    rw [show ev s.tm (.k (.c (.func (.func (F+1)) #[] #[])))=.c (.func (.func (F+1)) #[] #[]) from rfl,callV_fn (f:=F+1) (caps:=[]) (by simp [callee])] at ha
    simp only [List.append_nil,List.map_cons,List.map_nil] at ha
    split at ha
    rotate_left
    ·cases ha
    obtain⟨hk,_⟩:=longer_some ha
    unfold kidCf at hk
    rw [if_neg (by omega),if_pos rfl] at hk
    split at hk
    ·rename_i m' n i' sj heq
     simp only [cI,and_true] at heq
     split at hk
     ·rename_i hc
      simp only [sI,pI] at hk
      obtain⟨⟨rfl,rfl,rfl⟩,hc2⟩:=hc
      exact⟨hk.1.symm,hk.2.symm,sj,.inl heq.1,heq.2,fun _=>samePath_eq hc2⟩
     ·cases hk
    ·rename_i i' sj heq
     simp only [cI,and_true] at heq
     split at hk
     ·rename_i hc
      simp only [sI,pI] at hk
      obtain⟨hps0,rfl⟩:=hc
      exact⟨hk.1.symm,hk.2.symm,sj,.inr ⟨heq.1,hps0⟩,heq.2,fun e=>by rw [heq.1] at e;cases e⟩
     ·cases hk
    ·cases hk
   obtain⟨val,w2,e1,e2,e3,e4⟩:=append_kid (w0:=w) i3 r2.tm r2.hk r1.size hx hy hm' hps (by omega)
   rw [if_pos (by simp [Region.wanted,i2])]
   unfold Oper.wpIn
   refine⟨fun _ _=>trivial,?_⟩
   rw [show Oper.semAt (FR none).round a1.eval o=execOp a1.eval o from rfl,e1,Oper.uponIn_value,i1]
   refine hK _ _ ⟨g1,r1.trans e2,⟨(r2.tm.mono e2).put (.top val),e3,r2.df⟩,r3,r4,r5,fun j hj hjl hj4=>?_,fun _ _=>⟨val,?_,e4⟩,by rw [hlen];exact r8⟩
   ·rw [hsetne _ _ _ (Ne.symm hj4)] at hjl
    exact r6 j hj hjl hj4
   ·have:26<a1.tmps.size:=by rw [r2.tm.1];exact r8
    simp [Act.put,this]
  by_cases h6:q=6
  ·-- the call
   subst h6
   simp only [kidOps,List.getElem?_cons_succ,List.getElem?_cons_zero,sI] at hx0
   simp only [kidOps',List.getElem?_cons_succ,List.getElem?_cons_zero,sI] at hx
   subst hx0
   subst hx
   obtain⟨i1,i2,i3⟩:=oper_inv htro
   have hlen:=step_tmlen hst
   have l4:=hbits 4 (by omega) (kid_bit hol hd (by omega) (by omega) (by simp [pairB,kidOps,commB,apartB,XOper.rd,XOp.rd,A.rd]))
   obtain⟨xv,hxv,b',cap',c',T',hxe,hcap,hheap,hcs,hcells,hwh⟩:=r7 l4 hunf
   rw [step_give] at hst
   simp only [give,known,wants,if_true,mS] at hst
   obtain⟨⟨v,h'⟩,ha,rfl⟩:=hst
   obtain⟨f',caps',b,h1,hcal,hc,hev,rfl,rfl⟩:∃f' caps' b h1,callee (ev s.tm (.t 27))=some (f',caps')∧(m+1≤s.h.length∧samePath ps s.h[m]?=true∧(s.h.take m).all (O.low m)=true∧V.low m (ev s.tm (.t 22))=true∧V.lows m caps'=true) ∧
     eachV cf f' caps' k (ev s.tm (.t 22)) (ps++[(i:Int)]) (s.h.take m)=some (b,h1)∧v=.c (.bool b)∧h'=h1++s.h.drop m:=by
    simp only [act] at ha
    rw [show ev s.tm (.k (.c (.func (.func F) #[] #[])))=.c (.func (.func F) #[] #[]) from rfl,callV_fn (f:=F) (caps:=[]) (by simp [callee])] at ha
    simp only [List.append_nil,List.map_cons,List.map_nil] at ha
    split at ha
    rotate_left
    ·cases ha
    obtain⟨hk,_⟩:=longer_some ha
    unfold kidCf at hk
    rw [if_pos rfl] at hk
    cases hcal:callee (ev s.tm (.t 27)) with
    | none=>simp [hcal] at hk
    | some p =>
     obtain⟨f',caps'⟩:=p
     simp only [hcal] at hk
     split at hk
     ·rename_i hc
      split at hk
      ·rename_i b h1 hev
       simp only [sI,pI] at hk
       exact⟨f',caps',b,h1,rfl,hc,hev,hk.1.symm,hk.2.symm⟩
      ·cases hk
     ·cases hk
   obtain⟨c1,c2,c3,c4,c5⟩:=hc
   obtain⟨F',args,tys,hop,hF',has⟩:=call_inv i3
   have hargs:∃X Z,args=#[X,.tmp 26,Z]∧trA X=some (.t 22)∧trA Z=some (.t 27):=by
    obtain⟨l⟩:=args
    obtain⟨X,l1,rfl,hX,has⟩:=trAL_cons has
    obtain⟨Y,l2,rfl,hY,has⟩:=trAL_cons has
    obtain⟨Z,l3,rfl,hZ,has⟩:=trAL_cons has
    rw [trAL_nil has,trA_tmp hY]
    exact⟨X,Z,rfl,hX,hZ⟩
   obtain⟨X,Z,rfl,hX,hZ⟩:=hargs
   have hFv:a1.eval F'=.func (.func F) #[] #[]:=(ev_rep r2.tm hF').of_c
   have hux:=ev_rep r2.tm hX
   have hzx:=ev_rep r2.tm hZ
   have hxv':a1.eval (.tmp 26)=xv:=by
    obtain⟨hlt,he⟩:=Array.getElem?_eq_some_iff.1 hxv
    simp [Act.eval,Array.getD,hlt,← he]
   obtain⟨fn,hfn,hnm,hbody⟩:=hW
   have hrun':(execOp a1.eval o).run P w1=.ok (.enter F #[a1.eval X,xv,a1.eval Z]) w1:=by
    simp only [execOp,hop,resolve,Sem.run_bind,hFv,Deferred.ofValue,Sem.run_pure,Result.andThen_ok,invoke,callFunc]
    have n1 : ¬ fn.name = "runtime.NumGoroutine" := by simpa using hnm
    have n2:¬fn.body=none:=by intro h;rw [h] at hbody;simp at hbody
    simp [hfn,n1,n2,hxv']
   rw [if_pos (by simp [Region.wanted,i2])]
   unfold Oper.wpIn
   refine⟨fun _ _=>trivial,?_⟩
   rw [show Oper.semAt (FR none).round a1.eval o=execOp a1.eval o from rfl,hrun',Oper.uponIn_enter,i1]
   refine⟨fun h=>absurd h (by simp [FR,Fence.wide]),calls_FR ?_⟩
   have hmlen:(s.h.take m).length=m:=by simp;omega
   have H1:HOk g1 w1 (s.h.take m++s.h.drop m):=by rw [List.take_append_drop];exact r2.hk
   have hwh':Whose g1 w (s.h.take m).length b':=by rw [hmlen];exact hwh
   have hent:=kid_enter H1 (by rw [hmlen];exact c3) hwh' hheap (by omega) hcells
   rw [hmlen] at hent
   have hfvlow:V.low m (ev s.tm (.t 27))=true:=by
    unfold callee at hcal
    split at hcal
    ·rename_i p q e;rw [e];rfl
    ·rename_i f2 caps2 e
     simp only [sI,pI] at hcal
     rw [e,hcal.2];exact c5
    ·cases hcal
   have hel:=eachV_len hev
   rw [hmlen] at hel
   refine Calls.mono (IH f' caps' _ _ _ _ _ hev (g1.kid m b') w1 (a1.eval X) xv (a1.eval Z) (ev s.tm (.t 27)) (.buf m (ps++[(i:Int)]).length) hcal hent (low_kid hux c4) (.inl (by rw [hmlen])) ?_ (low_kid hzx hfvlow)) ?_
   ·rw [hxe]
    exact .buf _ _ _ _ hcap ⟨b',c',T',rfl,by simp [Gh.kid],hheap,hcs⟩
   ·rintro e w2 ⟨g2,rfl,k1,k2,k3⟩
    obtain⟨m1,m2,m3,m4⟩:=kid_leave (g0:=g) (w0:=w) (g1:=g2) (w1:=w2) (h1:=h1) (ps:=ps) (i:=(i:Int)) H1 (by rw [List.getElem?_drop,Nat.add_zero];exact samePath_eq c2) r1 hwh' (by rw [hmlen];exact k1) k2 (by rw [hmlen];exact hel.1) (by rw [hmlen];exact hel.2) (by rw [hmlen];rw [hmlen] at k3;exact k3)
    rw [hmlen] at m1 m2 m3 m4
    rw [List.take_append_drop] at m3
    have hl2:(h1++s.h.drop m).length=s.h.length:=by simp only [lA,List.length_drop,hel.1];omega
    refine hK _ _ ⟨_,m1,⟨Tm.put ⟨r2.tm.1,fun j hj hj2=>m4 (r2.tm.2 j hj hj2),m2.ag.gl⟩ (.c _),m2,r2.df⟩,r3.transL r2.hk r1 m3,r4,by simp only [hl2];exact r5,fun j hj hjl hj4=>?_,fun e1 e2=>?_,by rw [hlen];exact r8⟩
    ·have hj6:j≠6:=by
      intro e
      subst e
      simp [Array.getD,hls,hos] at hjl
     rw [hsetne _ _ _ (Ne.symm hj6)] at hjl
     intro hne
     obtain⟨q1,q2,q3⟩:=r6 j hj hjl hj4 hne
     have hge:¬st.h.length+(tab j).1<m:=by omega
     refine⟨by simp only [Gh.glue,hge,if_false];exact q1,by simp only [Gh.glue,hge,if_false];exact q2,fun p hp'=>?_⟩
     have:=q3 p hp'
     simp only
     rw [aR (by omega),hel.1,List.getElem?_drop,show m+(st.h.length+(tab j).1-m)=st.h.length+(tab j).1 by omega]
     exact this
    ·simp [Array.getD,hls,hos] at e2
  have hxx:x0=x:=by
   have e:(kidOps F)[q]?=(kidOps' F)[q]?:=by
    match q,hq,h4,h6 with
    | 0,_,_,_=>rfl
    | 1,_,_,_=>rfl
    | 2,_,_,_=>rfl
    | 3,_,_,_=>rfl
    | 4,_,h,_=>exact absurd rfl h
    | 5,_,_,_=>rfl
    | 6,_,_,h=>exact absurd rfl h
    | 7,_,_,_=>rfl
   rw [hx0,hx] at e
   exact Option.some.inj e
  subst hxx
  by_cases hph:listed.getD 4 false=true∧listed.getD 6 false=false
  ·-- between the two: only what leaves the world alone
   obtain⟨xv,hxv,hap⟩:=r7 hph.1 hph.2
   obtain⟨l1,l3⟩:=h41 hph.1
   have l2:=h32 l3
   have hcase:q=0∨q=5:=by
    match q,hq with
    | 0,_=>exact .inl rfl
    | 1,_=>rw [l1] at hunf;cases hunf
    | 2,_=>rw [l2] at hunf;cases hunf
    | 3,_=>rw [l3] at hunf;cases hunf
    | 4,_=>exact absurd rfl h4
    | 5,_=>exact .inr rfl
    | 6,_=>exact absurd rfl h6
    | 7,_ =>
     have:=hbits 6 (by omega) (kid_bit hol hd (by omega) (by omega) (by simp [pairB,kidOps,commB,apartB,XOper.rd,XOp.rd,A.rd]))
     rw [hph.2] at this;cases this
   have fin:∀(d:Nat),d≠26→∀r v,Rep g1 w1 r v→s1={ s with tm:=putV s.tm (some d) v }→K (a1.put (some d) r) w1:=by
    intro d hd26 r v hrep hs1
    refine hK _ _ ⟨g1,r1,?_,by rw [hs1];exact r3,by rw [hs1];exact r4,by rw [hs1];exact r5,fun j hj hjl hj4=>?_,fun _ _=>⟨xv,?_,hap⟩,by rw [step_tmlen hst];exact r8⟩
    ·rw [hs1];exact⟨r2.tm.put hrep,r2.hk,r2.df⟩
    ·rw [hs1]
     by_cases hqj:q=j
     ·subst hqj
      simp [Array.getD,hls,hos,hj] at hjl
     ·rw [hsetne _ _ _ hqj] at hjl
      exact r6 j hj hjl hj4
    ·simp only [Act.put]
     rw [Array.getElem?_setIfInBounds_ne hd26]
     exact hxv
   rcases hcase with rfl|rfl
   ·simp only [kidOps,List.getElem?_cons_zero,sI] at hx0
    subst hx0
    obtain⟨i1,i2,i3⟩:=oper_inv htro
    exact same rfl i1 i2 (fun v h' ha=>load_same i3 r2.tm r2.hk ha) (fin 22 (by decide))
   ·simp only [kidOps,List.getElem?_cons_succ,List.getElem?_cons_zero,sI] at hx0
    subst hx0
    obtain⟨i1,i2,i3⟩:=oper_inv htro
    refine same rfl i1 i2 (fun v h' ha=>?_) (fin 27 (by decide))
    obtain⟨e1,e2⟩:=act_pure (cf:=kidCf F m cf k ps i) (show (pureV s.tm s.rb (.mv (.t 2))).map (·,s.h)=some (v,h') from ha)
    exact⟨e2,pure_ok i3 r2.tm e1 rfl⟩
  ·-- any other time
   have hnc:∀f args,x0.op≠.call f args:=by
    intro f args
    match q,hq,h4,h6 with
    | 0,_,_,_=>simp only [kidOps,List.getElem?_cons_zero,sI] at hx0;subst hx0;simp
    | 1,_,_,_=>simp only [kidOps,List.getElem?_cons_succ,List.getElem?_cons_zero,sI] at hx0;subst hx0;simp
    | 2,_,_,_=>simp only [kidOps,List.getElem?_cons_succ,List.getElem?_cons_zero,sI] at hx0;subst hx0;simp
    | 3,_,_,_=>simp only [kidOps,List.getElem?_cons_succ,List.getElem?_cons_zero,sI] at hx0;subst hx0;simp
    | 4,_,h,_=>exact absurd rfl h
    | 5,_,_,_=>simp only [kidOps,List.getElem?_cons_succ,List.getElem?_cons_zero,sI] at hx0;subst hx0;simp
    | 6,_,_,h=>exact absurd rfl h
    | 7,_,_,_=>simp only [kidOps,List.getElem?_cons_succ,List.getElem?_cons_zero,sI] at hx0;subst hx0;simp
   have hst2:stepO (fun _ _ _=>none) x0 s=some s1:=by
    have:∀cf',act cf' s x0.op=act (kidCf F m cf k ps i) s x0.op:=by
     intro cf'
     cases hop:x0.op<;>first|rfl|exact absurd hop (hnc _ _)
    unfold stepO at hst ⊢
    rw [this]
    exact hst
   refine step_op (ρ:=none) (nn:=0) (cf:=fun _ _ _=>none) htro hst2 (fun f args h r h' e=>by cases e) r2 (by rw [r4];exact r6 q hq hunf h4) fun a' w' g' k1 k2 k3=>hK a' w' ?_
   refine⟨g',r1.trans k1,k2,r3.transL r2.hk r1 (k3.mono (E':=Frb m s.h) fun id hid=>hid.elim (fun h=>.inl (by have:=h.2;omega)) fun h=>h.imp (fun h=>by omega) fun h=>h),(step_rb hst2).1.trans r4,Nat.le_trans r5 (step_len hst2),fun j hj hjl hj4=>?_,fun e1 e2=>?_,by rw [step_tmlen hst];exact r8⟩
   ·by_cases hqj:q=j
    ·subst hqj
     simp [Array.getD,hls,hos,hj] at hjl
    ·rw [hsetne _ _ _ hqj] at hjl
     intro hne
     obtain⟨q1,q2,q3⟩:=r6 j hj hjl hj4 hne
     have hin:st.h.length+(tab j).1<s.h.length:=by
      obtain⟨p,hp'⟩:=List.exists_mem_of_ne_nil _ hne
      exact (gS.1 (q3 p hp')).1
     have hslot:¬(((tab q).2≠[]∧st.h.length+(tab j).1=s.rb+(tab q).1)∨Frb s.h.length s.h (st.h.length+(tab j).1)):=by
      rintro (⟨n1,n2⟩|n3|n3)
      ·rw [r4] at n2
       rcases Nat.lt_or_ge j q with h|h
       ·have:=T.lt j q h (by rw [hol];exact hq) hne
        omega
       ·have:=T.lt q j (by omega) (by rw [hol];exact hj) n1
        omega
      ·omega
      ·obtain⟨p,hp'⟩:=List.exists_mem_of_ne_nil _ hne
       have h1:=q3 p hp'
       rw [n3] at h1
       simp only [sI] at h1
       have h2:=List.all_eq_true.1 (T.own j (by rw [hol];exact hj)) _ hp'
       rw [← h1] at h2
       cases h2
     have kk:=k3 _ hslot
     exact⟨kk.1 q1,kk.2.1 q2,fun p hp'=>(kk.2.2 q1 q2).trans (q3 p hp')⟩
   ·exfalso
    rw [hsetne _ _ _ h4] at e1
    rw [hsetne _ _ _ h6] at e2
    exact hph ⟨e1,e2⟩
 ·intro listed a1 w1 hls hall hR
  obtain⟨g1,r1,r2,r3,r4,r5,r6,r7,r8⟩:=hR
  exact hQ _ _ _ r1 r2 r3 r5
 ·simp only [List.mem_range,Array.getD,Array.size_replicate]
  constructor
  ·intro h;exact⟨h,by simp [h]⟩
  ·exact fun h=>h.1
 ·intro i o ho h
  simp only [Array.getD,Array.size_replicate] at h
  split at h<;>simp at h
 ·have e:(List.range ops.size).map (fun i=>(kidOps' F).getD i ⟨none,.mv (.k undefV),none⟩)=kidOps' F:=by rw [hos];rfl
  rw [e];exact hrun
 ·refine⟨g,d1,S0,fun id hid=>⟨fun h=>h,fun h=>h,fun _ _=>?_⟩,rfl,by simp,fun j hj _ _ hne=>?_,fun h=>?_,htl⟩
  ·have:id<st.h.length:=Nat.lt_of_not_le fun h=>hid (.inl (by omega))
   simp only
   rw [aL this]
  ·cases hpre:(tab j).2 with
   | nil=>exact absurd hpre hne
   | cons p r =>
    have h1:=T.at' j (by rw [hol];exact hj) p (by rw [hpre];simp)
    obtain⟨hlt,_⟩:=gS.1 h1
    rw [Nat.sub_zero] at hlt
    obtain⟨f1,f2,f3⟩:=hfr0 _ hlt
    refine⟨f1,f2,fun q hq=>?_⟩
    have h2:=T.at' j (by rw [hol];exact hj) q (by rw [hpre];exact hq)
    rw [Nat.sub_zero] at h2
    simp only
    rw [f3,← h2,gE hlt]
  ·simp only [Array.getD,Array.size_replicate,hos] at h
   simp at h
end
mutual
theorem low_mono {n n':Nat}(hn:n≤n'):∀v:V,V.low n v=true→V.low n' v=true
 | .c _,_=>rfl
 | .agg cs,h=>lows_mono hn cs h
 | .tup cs,h=>lows_mono hn cs h
 | .sl us i,h=>by
  simp only [V.low,bT] at h ⊢
  refine⟨lows_mono hn us h.1,?_⟩
  cases i with
  | tok k=>simp only [SI.low,dT] at h ⊢;omega
  | _=>rfl
 | .ptr cs _,h=>lows_mono hn cs h
 | .ref id _,h=>by simp only [V.low,dT] at h ⊢;omega
 | .bnd _ id _,h=>by simp only [V.low,dT] at h ⊢;omega
 | .clo _ cs,h=>lows_mono hn cs h
 | .row i _ m _,h=>by simp only [V.low,Bool.or_eq_true,dT] at h ⊢;exact h.imp (fun h=>by omega) fun h=>h
 | .buf id _,h=>by simp only [V.low,dT] at h ⊢;omega
 | .tsl k _ _,h=>by simp only [V.low,dT] at h ⊢;omega
 | .tref k _ _,h=>by simp only [V.low,dT] at h ⊢;omega
 | .top,_=>rfl
 | .fmp _ vs,h=>lows_mono hn vs h
 | .mref id,h=>by simp only [V.low,dT] at h ⊢;omega
 | .yld k _ _ cs,h=>by
  simp only [V.low,bT,dT] at h ⊢
  exact⟨by omega,lows_mono hn cs h.2⟩
theorem lows_mono {n n':Nat}(hn:n≤n'):∀vs:List V,V.lows n vs=true→V.lows n' vs=true
 | [],_=>rfl
 | v::vs,h=>by
  simp only [V.lows,bT] at h ⊢
  exact⟨low_mono hn v h.1,lows_mono hn vs h.2⟩
end
theorem olow_mono {n n':Nat}(hn:n≤n'){h:List O}(hl:h.all (O.low n)=true):h.all (O.low n')=true:=by
 rw [List.all_eq_true] at hl ⊢
 intro o ho
 have:=hl o ho
 cases o with
 | cells cs=>exact lows_mono hn cs this
 | tokc _ _ cs=>exact lows_mono hn cs this
 | mapo _ vs=>exact lows_mono hn vs this
 | _=>rfl
section
variable {P:Program}{rw:Bool}{pf:Nat→Nat}{nt q:Nat}
theorem trC_seq {c:Code}{x y:XC}(h:trC P rw pf nt q c=some (.seq x y)):∃a b,c=.seq a b∧trC P rw pf nt q a=some x∧trC P rw pf nt (q+(rangesOf a).length) b=some y:=by
  cases c<;>simp only [trC] at h
  case seq a b =>
    split at h
    · rename_i x' y' h1 h2
      simp only [sI,XC.seq.injEq] at h
      obtain⟨rfl,rfl⟩:=h
      exact⟨a,b,rfl,h1,h2⟩
    · cases h
  all_goals (first
    | (cases h;done)
    | (simp only [mS,reduceCtorEq,and_false,exists_false,sI] at h;done)
    | (repeat' split at h
       all_goals simp at h))
def noOne (xs:List XOper):Bool:=xs.all fun o=>match o.op with
 | .load1 _=>false
 | .load2 _ _=>false
 | _=>true
theorem noOne_map:∀{xs:List XOper},noOne (xs.map one)=true→xs.map one=xs
 | [],_=>rfl
 | x::xs,h=>by
  simp only [noOne,List.map_cons,List.all_cons,bT] at h
  have ih:=noOne_map (xs:=xs) h.2
  rw [List.map_cons,ih]
  congr 1
  have h1:=h.1
  unfold one at h1 ⊢
  split
  ·rename_i y hy
   rw [hy] at h1
   simp at h1
  ·rfl
theorem noTwo_map:∀{xs:List XOper},noOne (xs.map two)=true→xs.map two=xs
 | [],_=>rfl
 | x::xs,h=>by
  simp only [noOne,List.map_cons,List.all_cons,bT] at h
  have ih:=noTwo_map (xs:=xs) h.2
  rw [List.map_cons,ih]
  congr 1
  have h1:=h.1
  unfold two at h1 ⊢
  split
  ·rename_i n y hy
   rw [hy] at h1
   simp at h1
  ·rfl
theorem trC_reg {c:Code}{xs:List XOper}{pre:List O}{d:Bool}(h:trC P rw pf nt q c=some (.reg xs pre d)) (hno:noOne xs=true:=by rfl):∃id ops,c=.region id ops d∧trOps P rw ops ops.toList 0=some (xs,pre)∧(d=true→drawnOk pf ops.toList xs=true):=by
  cases c<;>simp only [trC] at h
  case region id ops d' =>
    split at h
    · cases h
    split at h
    · rename_i xs' pre' h1
      split at h
      · rename_i h2
        simp only [sI,XC.reg.injEq] at h
        obtain⟨rfl,rfl,rfl⟩:=h
        exact⟨id,ops,rfl,h1,h2⟩
      · split at h
        · simp at h
        · split at h
          · rename_i h2
            simp only [sI,XC.reg.injEq] at h
            obtain⟨rfl,rfl,rfl⟩:=h
            rw [noTwo_map hno] at h2 ⊢
            exact⟨id,ops,rfl,h1,fun _=>h2.2⟩
          split at h
          · simp at h
          split at h
          · simp at h
          split at h
          · rename_i h2
            simp only [sI,XC.reg.injEq] at h
            obtain⟨rfl,rfl,rfl⟩:=h
            rw [noOne_map hno] at h2 ⊢
            exact⟨id,ops,rfl,h1,fun _=>h2.2⟩
          · split at h<;>simp [failX] at h
    · cases h
  all_goals (first
    | (cases h;done)
    | (simp only [mS,reduceCtorEq,and_false,exists_false,sI] at h;done)
    | (repeat' split at h
       all_goals simp at h))
theorem trC_block {c:Code}{id:Nat}{x:XC}(h:trC P rw pf nt q c=some (.block id x)):∃a,c=.block id a∧trC P rw pf nt q a=some x:=by
  cases c<;>simp only [trC] at h
  case block id' a =>
    simp only [mS,XC.block.injEq] at h
    obtain⟨x',h1,rfl,rfl⟩:=h
    exact⟨a,rfl,h1⟩
  all_goals (first
    | (cases h;done)
    | (simp only [mS,reduceCtorEq,and_false,exists_false,sI] at h;done)
    | (repeat' split at h
       all_goals simp at h))
theorem trC_loop {c:Code}{x:XC}(h:trC P rw pf nt q c=some (.loop x)):∃a,c=.loop a∧trC P rw pf nt q a=some x:=by
  cases c<;>simp only [trC] at h
  case loop a =>
    simp only [mS,XC.loop.injEq] at h
    obtain⟨x',h1,rfl⟩:=h
    exact⟨a,rfl,h1⟩
  all_goals (first
    | (cases h;done)
    | (simp only [mS,reduceCtorEq,and_false,exists_false,sI] at h;done)
    | (repeat' split at h
       all_goals simp at h))
theorem noRF_ranges:∀(c:Code) (q:Nat) (x:XC),noRF x=true→trC P rw pf nt q c=some x→rangesOf c=[]:=by
 intro c
 induction c with
 | seq a b iha ihb =>
  intro q x hx h
  simp only [trC] at h
  split at h
  ·rename_i x1 x2 h1 h2
   simp only [sI] at h
   subst h
   simp only [noRF,bT] at hx
   simp only [rangesOf,iha _ _ hx.1 h1,ihb _ _ hx.2 h2,List.append_nil]
  ·cases h
 | cond cc a b iha ihb =>
  intro q x hx h
  simp only [trC] at h
  split at h
  ·rename_i x0 x1 x2 h0 h1 h2
   simp only [sI] at h
   subst h
   simp only [noRF,bT] at hx
   simp only [rangesOf,iha _ _ hx.1 h1,ihb _ _ hx.2 h2,List.append_nil]
  ·cases h
 | block id c ih =>
  intro q x hx h
  simp only [trC,mS] at h
  obtain⟨y,h1,rfl⟩:=h
  exact ih q y hx h1
 | loop c ih =>
  intro q x hx h
  simp only [trC,mS] at h
  obtain⟨y,h1,rfl⟩:=h
  exact ih q y hx h1
 | rangeFunc f ps a b _ _ =>
  intro q x hx h
  simp only [trC,mS] at h
  obtain⟨y,h1,rfl⟩:=h
  simp [noRF] at hx
 | _=>intro q x hx h;rfl
end
def eR1:XC:=.reg [⟨(some 3),(.box 0 (.t 0)),none⟩,⟨(some 6),(.mv (.k (.c (.bool false)))),none⟩] [.dead] false
def eR2:XC:=.reg [⟨(some 9),(.mv (.t 2)),none⟩,⟨(some 10),(.load (some 4) (.t 3)),none⟩,⟨(some 11),(.mv (.t 1)),none⟩,⟨(some 12),(.call (.t 9) [(.t 10),(.t 11)]),none⟩,⟨(some 13),(.un .not (.t 12)),none⟩] [] false
def eR3:XC:=.reg [⟨(some 6),(.mv (.k (.c (.bool false)))),none⟩] [] false
def eR4:XC:=.reg [⟨(some 14),(.fieldAddr 3 (.t 3)),none⟩,⟨(some 15),(.load none (.t 14)),none⟩,⟨(some 16),(.len false (.t 15)),none⟩,⟨(some 17),(.mv (.k (.c (.int .i64 0)))),none⟩] [] false
def eR5:XC:=.reg [⟨(some 18),(.bin .lss 0 (.t 17) (.t 16)),none⟩] [] false
def eR6:XC:=.reg [⟨(some 19),(.mv (.t 17)),none⟩,⟨(some 20),(.indexAddr 4 (.t 15) (.t 17)),none⟩,⟨(some 21),(.load (some 4) (.t 20)),none⟩,⟨(some 8),(.alloc 0 [(.c (.int .i64 0)),(.c (.int .i64 0)),(.c (.string ⟨#[]⟩)),(.sl [] .nil)]),none⟩,⟨(some 7),(.mv (.t 19)),none⟩,⟨none,(.store 4 (.t 8) (.t 21)),none⟩] [(.cells [(.c (.int .i64 0)),(.c (.int .i64 0)),(.c (.string ⟨#[]⟩)),(.sl [] .nil)])] false
def eR7 (F:Nat):XC:=.reg (kidOps F) [(.tok 1 1),.dead] true
def eR9:XC:=.reg [⟨(some 30),(.bin .add 0 (.t 17) (.k (.c (.int .i64 1)))),none⟩,⟨(some 17),(.mv (.t 30)),none⟩] [] false
def eR11:XC:=.reg [⟨(some 6),(.mv (.k (.c (.bool true)))),none⟩] [] false
def eL (F:Nat):XC:=(.seq eR5 (.seq (.cond (.t 18) .skip (.exit 0)) (.seq (.block 1 (.seq eR6 (.seq (eR7 F) (.cond (.t 29) (.seq eR3 .ret) .skip)))) eR9)))
def eachX (F:Nat):XC:=(.seq eR1 (.seq (.seq eR2 (.cond (.t 13) (.seq eR3 .ret) .skip)) (.seq (.seq eR4 (.block 0 (.loop (eL F)))) (.seq eR11 .ret))))
structure InL (m:Nat) (ps:List Int) (pv fv:V) (us:List V) (si:SI) (i:Nat) (tm:List V):Prop where
 len:tm.length=31
 t1:tm[1]?=some pv
 t2:tm[2]?=some fv
 t15:tm[15]?=some (.sl us si)
 t16:tm[16]?=some (I64 us.length)
 t17:tm[17]?=some (I64 i)
theorem ev_t {tm:List V}{i:Nat}{v:V}(h:tm[i]?=some v):ev tm (.t i)=v:=by simp [ev,h]
theorem run5 {cf:CallF}{n m:Nat}{ps:List Int}{pv fv:V}{us:List V}{si:SI}{i:Nat}{tm:List V}(I:InL m ps pv fv us si i tm) (h:List O) (base rb:Nat) :
  exec cf n eR5 ⟨tm,h,base,rb⟩=some (.normal,⟨tm.set 18 (.c (.bool (decide ((i:Int)<us.length)))),h,base,h.length⟩):=by
 simp [eR5,exec,runOps,stepO,known,wants,act,pureV,putV,ev,I.t17,I.t16,I64,binV,binI]
theorem InL.set {m:Nat}{ps:List Int}{pv fv:V}{us:List V}{si:SI}{i:Nat}{tm:List V}(I:InL m ps pv fv us si i tm){d:Nat}(hd:d ∉ [1,2,15,16,17]) (v:V):InL m ps pv fv us si i (tm.set d v):=by
 simp only [List.mem_cons,List.not_mem_nil,or_false,not_or] at hd
 obtain⟨h1,h2,h3,h4,h5⟩:=hd
 exact⟨by rw [List.length_set];exact I.len,by rw [sN h1];exact I.t1,by rw [sN h2];exact I.t2,by rw [sN h3];exact I.t15,by rw [sN h4];exact I.t16,by rw [sN h5];exact I.t17⟩
theorem run6 {cf:CallF}{n m:Nat}{ps:List Int}{pv fv:V}{us:List V}{si:SI}{i:Nat}{tm:List V}(I:InL m ps pv fv us si i tm){c1 c2 c3 c4:V}(hu:us[i]?=some (.agg [c1,c2,c3,c4])) (h:List O) (base rb:Nat) :
  exec cf n eR6 ⟨tm,h,base,rb⟩=some (.normal,⟨(((((tm.set 19 (I64 i)).set 20 (.ptr [c1,c2,c3,c4] 0)).set 21 (.agg [c1,c2,c3,c4])).set 8 (.ref h.length 0)).set 7 (I64 i)),h++[.cells [c1,c2,c3,c4]],base,h.length⟩):=by
 have hi:i<us.length:=(gS.1 hu).1
 have l:=I.len
 have g15:tm[15]'(by omega)=.sl us si:=(gS.1 I.t15).2
 have g17:tm[17]'(by omega)=.c (.int .i64 i):=(gS.1 I.t17).2
 have gu:us[i]'hi=.agg [c1,c2,c3,c4]:=(gS.1 hu).2
 simp [eR6,exec,runOps,stepO,known,wants,act,pureV,putV,ev,g15,g17,I64,idx,hi,gu,V.cells,rdV,l,okc,splice]
theorem run7 {cf:CallF}{F m k i:Nat}{ps:List Int}{pv fv:V}{f:Nat}{caps:List V}{tm:List V}(hFr:F+1<rid) (hl:tm.length=31) (h1:tm[1]?=some pv) (h2:tm[2]?=some fv) (h7:tm[7]?=some (I64 i)){j:Nat}(h8:tm[8]?=some (.ref j 0))
  (hpv:PV m ps pv) (hfv:callee fv=some (f,caps)){H:List O}{c1 c2 c3 c4:V}(hj:H[j]?=some (.cells [c1,c2,c3,c4])) (hm:H[m]?=some (pcell ps)) (hlow:(H.take m).all (O.low m)=true) (hu:V.low m (.agg [c1,c2,c3,c4])=true) (hcaps:V.lows m caps=true)
  {b:Bool}{h':List O}(he:eachV cf f caps k (.agg [c1,c2,c3,c4]) (ps++[(i:Int)]) (H.take m)=some (b,h')) (hh:h'.length=m) (base:Nat) :
  runOps (kidCf F m cf k ps i) (kidOps' F) ⟨tm,H++[O.tok 1 1,O.dead],base,H.length⟩ =
   some ⟨(((((((tm.set 22 (.agg [c1,c2,c3,c4])).set 23 pv).set 24 (I64 i)).set 25 (.sl [I64 i] .full)).set 26 .top).set 27 fv).set 28 (.c (.bool b))).set 29 (.c (.bool !b)),h'++(H++[O.tok 1 1,O.dead]).drop m,base,H.length⟩:=by
 have hml:m<H.length:=(gS.1 hm).1
 have g1:tm[1]'(by omega)=pv:=(gS.1 h1).2
 have g2:tm[2]'(by omega)=fv:=(gS.1 h2).2
 have g7:tm[7]'(by omega)=I64 i:=(gS.1 h7).2
 have g8:tm[8]'(by omega)=.ref j 0:=(gS.1 h8).2
 have hj':(H++[O.tok 1 1,O.dead])[j]?=some (.cells [c1,c2,c3,c4]):=by rw [aL (gS.1 hj).1];exact hj
 have hm':(H++[O.tok 1 1,O.dead])[m]?=some (pcell ps):=by rw [aL hml];exact hm
 have ht':(H++[O.tok 1 1,O.dead]).take m=H.take m:=List.take_append_of_le_length (by omega)
 have hk1:kidCf F m cf k ps i (F+1) [pv,.sl [I64 i] .full] (H++[O.tok 1 1,O.dead])=some (.top,H++[O.tok 1 1,O.dead]):=by
  unfold kidCf
  rw [if_neg (by omega),if_pos rfl]
  rcases hpv with rfl|⟨rfl,rfl⟩
  ·simp only [I64]
   rw [if_pos ⟨by simp,by rw [hm'];exact samePath_self ps⟩]
  ·simp only [I64]
   rw [if_pos (by simp)]
 have hk2:kidCf F m cf k ps i F [.agg [c1,c2,c3,c4],fv] (H++[O.tok 1 1,O.dead])=some (.c (.bool b),h'++(H++[O.tok 1 1,O.dead]).drop m):=by
  unfold kidCf
  rw [if_pos rfl]
  simp only [hfv]
  rw [if_pos ⟨by simp;omega,by rw [hm'];exact samePath_self ps,by rw [ht'];exact hlow,hu,hcaps⟩,ht',he]
 have hcF:F<rid:=by omega
 have hlen:H.length+2≤h'.length+(H.length+2-m):=by omega
 simp [kidOps',runOps,stepO,known,wants,act,pureV,putV,ev,hl,g1,g2,g7,g8,hj',rdV,V.vw2,V.vw1,I64,okc,Value.oneCell',V.cells,callV_c hFr,callV_c hcF]
 simp only [I64] at hk1
 rw [hk1,longer_of (nL _)]
 simp [hl,g1,g2,g7,g8]
 rw [hk2,longer_of (by simpa using hlen)]
 simp [hl,g1,g2,g7,g8]
theorem run9 {cf:CallF}{n i:Nat}{tm:List V}(hl:tm.length=31) (h17:tm[17]?=some (I64 i)) (hi:i≤1099511627776) (H:List O) (base rb:Nat) :
  exec cf n eR9 ⟨tm,H,base,rb⟩=some (.normal,⟨(tm.set 30 (I64 (i+1:Nat))).set 17 (I64 (i+1:Nat)),H,base,H.length⟩):=by
 have g17:tm[17]'(by omega)=.c (.int .i64 i):=(gS.1 h17).2
 have hw:IntKind.i64.wrap ((i:Int)+1)=(i:Int)+1:=by
  simp only [IntKind.wrap,IntKind.signed,IntKind.bits]
  simp
  omega
 simp [eR9,exec,runOps,stepO,known,wants,act,pureV,putV,ev,hl,g17,binV,binI,hw,I64]
def cfN:CallF:=fun _ _ _=>none
theorem cfN_ok {P:Program}:CallOk P cfN:=fun f args h r h' e=>by cases e
theorem cfN_pure (pf:Nat→Nat):PureCf pf cfN:=fun f args h r h' e=>by cases e
def AtL (g:Gh) (w:World) (h0:List O) (m:Nat) (ps:List Int) (h':List O) (a':Act) (w':World) (st':St):Prop :=
 ∃g',Le g w g' w'∧Sim [] g' w' a' st'∧Quiet (Frb m h0) g h0 g' st'.h∧(∃e,st'.h=h'++(pcell ps::e))∧st'.tm.length=31
theorem cells4 {u:V}(h:u.cells.length=4):∃c1 c2 c3 c4,u=.agg [c1,c2,c3,c4]:=by
 cases u with
 | agg cs =>
  simp only [V.cells] at h
  match cs,h with
  | [c1,c2,c3,c4],_=>exact⟨c1,c2,c3,c4,rfl⟩
 | _=>simp [V.cells] at h
theorem each_loop {P:Program}{rw:Bool}{pf:Nat→Nat}{cf:CallF}(hm:P.follows .mixedOrders=true){F k:Nat}(hF:pf F=0) (hFr:F+1<rid) (IH:∀f caps,EachAt P F cf f caps k) (hW:Walked P F){cL:Code}{nt q:Nat}(hL:trC P rw pf nt q cL=some (eL F))
  {m:Nat}{ps:List Int}{pv fv:V}{f:Nat}{caps us:List V}{si:SI}(hpv:PV m ps pv) (hfv:callee fv=some (f,caps)) (hus:∀u∈us,u.cells.length=4∧V.low m u=true) (hul:us.length≤1099511627776) (hpl:ps.length≤1099511627776) (hcaps:V.lows m caps=true)
  {b:Bool}{h0 h':List O}{g:Gh}{w:World}{Q:Exit→Act→World→Prop}(hex:∀a' w' st',b=true→AtL g w h0 m ps h' a' w' st'→Q (.exit 0) a' w') (hret:∀a' w' st',b=false→AtL g w h0 m ps h' a' w' st'→st'.tm[6]?=some (.c (.bool false))→Q .ret a' w')
  {h1 e:List O}{tm:List V}{g1:Gh}{w1:World}{a1:Act}{base rb:Nat}(hev:eachL (eachV cf f caps k) ps 0 us h1=some (b,h')) (hh1:h1.length=m) (hlow:h1.all (O.low m)=true) (hle:Le g w g1 w1) (S:Sim [] g1 w1 a1 ⟨tm,h1++(pcell ps::e),base,rb⟩)
  (hq:Quiet (Frb m h0) g h0 g1 (h1++(pcell ps::e))) (I:InL m ps pv fv us si 0 tm):(Code.loop cL).wp P Q a1 w1:=by
 obtain⟨c5,cr5,rfl,h5,hL⟩:=trC_seq hL
 obtain⟨cc,cr6,rfl,hcc,hL⟩:=trC_seq hL
 obtain⟨cb,c9,rfl,hcb,h9⟩:=trC_seq hL
 obtain⟨cbb,rfl,hcb2⟩:=trC_block hcb
 obtain⟨c6,cr7,rfl,h6,hcb3⟩:=trC_seq hcb2
 obtain⟨c7,cr,rfl,h7,hcr⟩:=trC_seq hcb3
 obtain⟨rid,ops,rfl,h7o,h7d⟩:=trC_reg h7
 refine wp_loop_ghost (fun n a2 w2=>∃i h2 e2 tm2 g2 base2 rb2,n=us.length-i∧i≤us.length∧eachL (eachV cf f caps k) ps i (us.drop i) h2=some (b,h')∧h2.length=m∧h2.all (O.low m)=true∧Le g w g2 w2 ∧
  Sim [] g2 w2 a2 ⟨tm2,h2++(pcell ps::e2),base2,rb2⟩∧Quiet (Frb m h0) g h0 g2 (h2++(pcell ps::e2))∧InL m ps pv fv us si i tm2) us.length ⟨0,h1,e,tm,g1,base,rb,rfl,Nat.zero_le _,hev,hh1,hlow,hle,S,hq,I⟩ ?_
 rintro n a2 w2 ⟨i,h2,e2,tm2,g2,base2,rb2,rfl,hi,hev2,hh2,hlow2,hle2,S2,hq2,I2⟩
 have hbase:m≤(h2++(pcell ps::e2)).length:=by simp;omega
 refine wp_seq (exec_ok0 (cfN_pure pf) cfN_ok hm (base:=m) 0 c5 _ _ h5 (noRF_ranges _ _ _ rfl h5) rfl g2 w2 a2 _ _ _ (run5 I2 _ _ _) S2 hbase _ fun a3 w3 g3 k1 k2 k3 k4=>?_)
 have I3:=I2.set (d:=18) (by simp) (.c (.bool (decide ((i:Int)<us.length))))
 rcases Nat.lt_or_ge i us.length with hlt|hge
 ·-- one more kid
  have hdrop:us.drop i=us[i]::us.drop (i+1):=by rw [dC hlt]
  obtain⟨hu4,hulow⟩:=hus us[i] (List.getElem_mem hlt)
  obtain⟨u1,u2,u3,u4,hu⟩:=cells4 hu4
  rw [hdrop] at hev2
  have hcond:exec cfN 0 (.cond (.t 18) .skip (.exit 0)) ⟨tm2.set 18 (.c (.bool (decide ((i:Int)<us.length)))),h2++(pcell ps::e2),base2,(h2++(pcell ps::e2)).length⟩=some (.normal,⟨tm2.set 18 (.c (.bool (decide ((i:Int)<us.length)))),h2++(pcell ps::e2),base2,(h2++(pcell ps::e2)).length⟩):=by
   have:(i:Int)<us.length:=by omega
   simp [exec,ev,I2.len,this]
  refine wp_seq (exec_ok0 (cfN_pure pf) cfN_ok hm (base:=m) 0 cc _ _ hcc (noRF_ranges _ _ _ rfl hcc) rfl g3 w3 a3 _ _ _ hcond k2 k4 _ fun a4 w4 g4 l1 l2 l3 l4=>?_)
  refine wp_seq (wp_block (wp_seq (exec_ok0 (cfN_pure pf) cfN_ok hm (base:=m) 0 c6 _ _ h6 (noRF_ranges _ _ _ rfl h6) rfl g4 w4 a4 _ _ _ (run6 I3 (by rw [gE hlt,hu]) _ _ _) l2 l4 _ fun a5 w5 g5 m1 m2 m3 m4=>?_)))
  generalize htm3:tm2.set 18 (.c (.bool (decide ((i:Int)<us.length))))=tm3 at *
  have I6:InL m ps pv fv us si i (((((tm3.set 19 (I64 i)).set 20 (.ptr [u1,u2,u3,u4] 0)).set 21 (.agg [u1,u2,u3,u4])).set 8 (.ref (h2++(pcell ps::e2)).length 0)).set 7 (I64 i)) :=
   ((((I3.set (by simp) _).set (by simp) _).set (by simp) _).set (by simp) _).set (by simp) _
  have t7:(((((tm3.set 19 (I64 i)).set 20 (.ptr [u1,u2,u3,u4] 0)).set 21 (.agg [u1,u2,u3,u4])).set 8 (.ref (h2++(pcell ps::e2)).length 0)).set 7 (I64 i))[7]?=some (I64 i):=by
   rw [sS]
   simp [I3.len]
  have t8:(((((tm3.set 19 (I64 i)).set 20 (.ptr [u1,u2,u3,u4] 0)).set 21 (.agg [u1,u2,u3,u4])).set 8 (.ref (h2++(pcell ps::e2)).length 0)).set 7 (I64 i))[8]?=some (.ref (h2++(pcell ps::e2)).length 0):=by
   rw [sN (by decide),sS]
   simp [I3.len]
  generalize (((((tm3.set 19 (I64 i)).set 20 (.ptr [u1,u2,u3,u4] 0)).set 21 (.agg [u1,u2,u3,u4])).set 8 (.ref (h2++(pcell ps::e2)).length 0)).set 7 (I64 i))=tm6 at *
  have hH1:(h2++(pcell ps::e2)++[O.cells [u1,u2,u3,u4]])[(h2++(pcell ps::e2)).length]?=some (.cells [u1,u2,u3,u4]):=by simp
  have hH2:(h2++(pcell ps::e2)++[O.cells [u1,u2,u3,u4]])[m]?=some (pcell ps):=by rw [← hh2];simp
  have hH3:(h2++(pcell ps::e2)++[O.cells [u1,u2,u3,u4]]).take m=h2:=by rw [← hh2];simp
  have hH4:(h2++(pcell ps::e2)++[O.cells [u1,u2,u3,u4]]++[O.tok 1 1,O.dead]).drop m=pcell ps::(e2++[O.cells [u1,u2,u3,u4]]++[O.tok 1 1,O.dead]):=by rw [← hh2];simp
  simp only [eachL] at hev2
  cases hkid:eachV cf f caps k us[i] (ps++[(i:Int)]) h2 with
  | none=>rw [hkid] at hev2;cases hev2
  | some p =>
   obtain⟨b1,h3⟩:=p
   have hkl:=eachV_len hkid
   rw [hh2] at hkl
   have hr7:=run7 (cf:=cf) (F:=F) (i:=i) hFr I6.len I6.t1 I6.t2 t7 t8 hpv hfv hH1 hH2 (by rw [hH3];exact hlow2) (by rw [← hu];exact hulow) hcaps (b:=b1) (h':=h3) (by rw [hH3,← hu];exact hkid) hkl.1 base2
   rw [hH4] at hr7
   refine wp_seq (kid_region hm hF IH hW h7o (h7d rfl) m2 (by simp;omega) (by rw [I6.len];omega) hr7 (by omega) fun a6 w6 g6 n1 n2 n3 n4=>?_)
   have I7:InL m ps pv fv us si i ((((((((tm6.set 22 (.agg [u1,u2,u3,u4])).set 23 pv).set 24 (I64 i)).set 25 (.sl [I64 i] .full)).set 26 .top).set 27 fv).set 28 (.c (.bool b1))).set 29 (.c (.bool !b1))) :=
    (((((((I6.set (by simp) _).set (by simp) _).set (by simp) _).set (by simp) _).set (by simp) _).set (by simp) _).set (by simp) _).set (by simp) _
   have t29:((((((((tm6.set 22 (.agg [u1,u2,u3,u4])).set 23 pv).set 24 (I64 i)).set 25 (.sl [I64 i] .full)).set 26 .top).set 27 fv).set 28 (.c (.bool b1))).set 29 (.c (.bool !b1)))[29]?=some (.c (.bool !b1)):=by
    rw [sS]
    simp [I6.len]
   generalize ((((((((tm6.set 22 (.agg [u1,u2,u3,u4])).set 23 pv).set 24 (I64 i)).set 25 (.sl [I64 i] .full)).set 26 .top).set 27 fv).set 28 (.c (.bool b1))).set 29 (.c (.bool !b1)))=tm7 at *
   have hle7:Le g w g6 w6:=hle2.trans (k1.trans (l1.trans (m1.trans n1)))
   have hq7:Quiet (Frb m h0) g h0 g6 (h3++pcell ps::(e2++[O.cells [u1,u2,u3,u4]]++[O.tok 1 1,O.dead])):=hq2.transL S2.hk hle2 (k3.transL k2.hk k1 (l3.transL l2.hk l1 (m3.transL m2.hk m1 n3)))
   have hl7:m≤(h3++pcell ps::(e2++[O.cells [u1,u2,u3,u4]]++[O.tok 1 1,O.dead])).length:=by simp;omega
   have hev29:=ev_t t29
   rw [hkid] at hev2
   cases b1 with
   | false =>
    simp only [sI,pI] at hev2
    obtain⟨rfl,rfl⟩:=hev2
    have hcr2:exec cfN 0 (.cond (.t 29) (.seq eR3 .ret) .skip) ⟨tm7,h3++pcell ps::(e2++[O.cells [u1,u2,u3,u4]]++[O.tok 1 1,O.dead]),base2,(h2++(pcell ps::e2)++[O.cells [u1,u2,u3,u4]]).length⟩ =
      some (.ret,⟨tm7.set 6 (.c (.bool false)),h3++pcell ps::(e2++[O.cells [u1,u2,u3,u4]]++[O.tok 1 1,O.dead]),base2,(h3++pcell ps::(e2++[O.cells [u1,u2,u3,u4]]++[O.tok 1 1,O.dead])).length⟩):=by
     simp only [exec,hev29,Bool.not_false,if_true]
     simp [eR3,exec,runOps,stepO,known,wants,act,pureV,putV,ev]
    refine exec_ok0 (cfN_pure pf) cfN_ok hm (base:=m) 0 cr _ _ hcr (noRF_ranges _ _ _ rfl hcr) rfl g6 w6 a6 _ _ _ hcr2 n2 hl7 _ fun a7 w7 g7 o1 o2 o3 o4=>?_
    refine hret a7 w7 _ rfl ⟨g7,hle7.trans o1,o2,hq7.transL n2.hk hle7 o3,⟨_,rfl⟩,by simp [I7.len]⟩ ?_
    simp [I7.len]
   | true =>
    simp only at hev2
    have hcr2:exec cfN 0 (.cond (.t 29) (.seq eR3 .ret) .skip) ⟨tm7,h3++pcell ps::(e2++[O.cells [u1,u2,u3,u4]]++[O.tok 1 1,O.dead]),base2,(h2++(pcell ps::e2)++[O.cells [u1,u2,u3,u4]]).length⟩ =
      some (.normal,⟨tm7,h3++pcell ps::(e2++[O.cells [u1,u2,u3,u4]]++[O.tok 1 1,O.dead]),base2,(h2++(pcell ps::e2)++[O.cells [u1,u2,u3,u4]]).length⟩):=by
     simp [exec,hev29]
    refine exec_ok0 (cfN_pure pf) cfN_ok hm (base:=m) 0 cr _ _ hcr (noRF_ranges _ _ _ rfl hcr) rfl g6 w6 a6 _ _ _ hcr2 n2 hl7 _ fun a7 w7 g7 o1 o2 o3 o4=>?_
    refine exec_ok0 (cfN_pure pf) cfN_ok hm (base:=m) 0 c9 _ _ h9 (noRF_ranges _ _ _ rfl h9) rfl g7 w7 a7 _ _ _ (run9 I7.len I7.t17 (by omega) _ _ _) o2 o4 _ fun a8 w8 g8 p1 p2 p3 p4=>?_
    refine⟨us.length-(i+1),by omega,i+1,h3,_,_,g8,_,_,rfl,by omega,hev2,hkl.1,hkl.2,hle7.trans (o1.trans p1),p2,hq7.transL n2.hk hle7 (o3.transL o2.hk o1 p3),?_⟩
    have I8:=I7.set (d:=30) (by simp) (I64 (i+1:Nat))
    exact⟨by simp [I7.len],by rw [sN (by decide)];exact I8.t1,by rw [sN (by decide)];exact I8.t2,by rw [sN (by decide)];exact I8.t15,by rw [sN (by decide)];exact I8.t16,by rw [sS];simp [I7.len]⟩
 ·-- no more
  have hie:i=us.length:=by omega
  subst hie
  rw [List.drop_length] at hev2
  simp only [eachL,sI,pI] at hev2
  obtain⟨rfl,rfl⟩:=hev2
  have hcond:exec cfN 0 (.cond (.t 18) .skip (.exit 0)) ⟨tm2.set 18 (.c (.bool (decide ((us.length:Int)<us.length)))),h2++(pcell ps::e2),base2,(h2++(pcell ps::e2)).length⟩=some (.exit 0,⟨tm2.set 18 (.c (.bool (decide ((us.length:Int)<us.length)))),h2++(pcell ps::e2),base2,(h2++(pcell ps::e2)).length⟩):=by
   simp [exec,ev,I2.len]
  refine wp_seq (exec_ok0 (cfN_pure pf) cfN_ok hm (base:=m) 0 cc _ _ hcc (noRF_ranges _ _ _ rfl hcc) rfl g3 w3 a3 _ _ _ hcond k2 k4 _ fun a4 w4 g4 l1 l2 l3 l4=>?_)
  exact hex a4 w4 _ rfl ⟨g4,hle2.trans (k1.trans l1),l2,hq2.transL S2.hk hle2 (k3.transL k2.hk k1 l3),⟨e2,rfl⟩,by simp [I2.len]⟩
theorem runA {cf:CallF}{n:Nat}{a1 a2 a3 a4 pv fv:V}(H:List O) (base rb:Nat) :
  exec cf n eR1 ⟨[.agg [a1,a2,a3,a4],pv,fv]++List.replicate 28 undefV,H,base,rb⟩ =
   some (.normal,⟨[.agg [a1,a2,a3,a4],pv,fv,.ref H.length 0,undefV,undefV,.c (.bool false)]++List.replicate 24 undefV,H++[.cells [a1,a2,a3,a4]],base,H.length⟩):=by
 simp [eR1,exec,runOps,stepO,known,wants,act,pureV,putV,ev,okc,V.cells,List.replicate]
theorem runB {cf:CallF}{n:Nat}{d a1 a2 a3 a4 pv fv:V}{f:Nat}{caps:List V}(hfv:callee fv=some (f,caps)) (hfr:f<rid){H H2:List O}{j base rb:Nat}(hj:H[j]?=some (.cells [a1,a2,a3,a4])){b:Bool}
  (hy:cf f (.agg [a1,a2,a3,a4]::pv::caps) H=some (.c (.bool b),H2)) (hl:H.length≤H2.length) :
  exec cf n (.seq eR2 (.cond (.t 13) (.seq eR3 .ret) .skip)) ⟨[d,pv,fv,.ref j 0,undefV,undefV,.c (.bool false)]++List.replicate 24 undefV,H,base,rb⟩ =
   if b then some (.normal,⟨[d,pv,fv,.ref j 0,undefV,undefV,.c (.bool false),undefV,undefV,fv,.agg [a1,a2,a3,a4],pv,.c (.bool true),.c (.bool false)]++List.replicate 17 undefV,H2,base,H.length⟩)
   else some (.ret,⟨[d,pv,fv,.ref j 0,undefV,undefV,.c (.bool false),undefV,undefV,fv,.agg [a1,a2,a3,a4],pv,.c (.bool false),.c (.bool true)]++List.replicate 17 undefV,H2,base,H2.length⟩):=by
 cases b<;>simp [eR2,eR3,exec,runOps,stepO,known,wants,act,pureV,putV,ev,callV_f hfv hfr,longer_of hl,hj,rdV,hy,List.replicate]
theorem runC {cf:CallF}{n:Nat}{d x10 a1 a2 a3 pv fv:V}{us:List V}{si:SI}{H:List O}{j base rb:Nat}(hj:H[j]?=some (.cells [a1,a2,a3,.sl us si])) :
  ∃tm,exec cf n eR4 ⟨[d,pv,fv,.ref j 0,undefV,undefV,.c (.bool false),undefV,undefV,fv,x10,pv,.c (.bool true),.c (.bool false)]++List.replicate 17 undefV,H,base,rb⟩=some (.normal,⟨tm,H,base,H.length⟩) ∧
   ∀m ps,InL m ps pv fv us si 0 tm:=by
 refine⟨[d,pv,fv,.ref j 0,undefV,undefV,.c (.bool false),undefV,undefV,fv,x10,pv,.c (.bool true),.c (.bool false),.ref j 3,.sl us si,I64 us.length,I64 0]++List.replicate 13 undefV,?_,fun m ps=>⟨rfl,rfl,rfl,rfl,rfl,rfl⟩⟩
 simp [eR4,exec,runOps,stepO,known,wants,act,pureV,putV,ev,hj,rdV,I64,List.replicate]
def noDraw:XC→Bool
 | .reg _ _ d => !d
 | .regw _ _=>false
 | .regm _ _=>false
 | .regr _ _=>false
 | .seq a b=>noDraw a&&noDraw b
 | .cond (.t _) a b=>noDraw a&&noDraw b
 | .cond (.k _) a b=>false
 | .block _ c=>noDraw c
 | .loop c=>noDraw c
 | _=>true
theorem trC_pf {P:Program}{rw:Bool}{pf pf':Nat→Nat}{nt:Nat}:∀(c:Code) (q:Nat) (x:XC),noDraw x=true→trC P rw pf nt q c=some x→trC P rw pf' nt q c=some x:=by
 intro c
 induction c with
 | region id ops d =>
  intro q x hx h
  obtain⟨id',ops',e,h1,h2⟩:∃id' ops',Code.region id ops d=.region id' ops' d∧True∧True:=⟨id,ops,rfl,trivial,trivial⟩
  simp only [trC] at h ⊢
  by_cases hpn:hasPanic ops.toList=true
  ·rw [if_pos hpn] at h ⊢
   exact h
  have hfl:some failX=some x→False:=fun e=>by
   simp only [sI] at e
   subst e
   simp [noDraw] at hx
  rw [if_neg hpn] at h ⊢
  split at h
  ·rename_i xs pre h1
   split at h
   ·simp only [sI] at h
    subst h
    simp only [noDraw,Bool.not_eq_true'] at hx
    subst hx
    simp [h1]
   ·split at h
    ·simp only [sI] at h
     subst h
     simp [noDraw] at hx
    split at h
    ·rename_i hd
     obtain⟨rfl,hd⟩:=hd
     simp only [sI] at h
     subst h
     simp [noDraw] at hx
    split at h
    ·simp only [sI] at h
     subst h
     simp [noDraw] at hx
    split at h
    ·simp only [sI] at h
     subst h
     simp [noDraw] at hx
    ·split at h
     ·rename_i hd
      obtain⟨rfl,hd⟩:=hd
      simp only [sI] at h
      subst h
      simp [noDraw] at hx
     ·split at h
      ·simp only [sI] at h
       subst h
       simp [noDraw] at hx
      ·exact absurd h hfl
  ·exact absurd h hfl
 | seq a b iha ihb =>
  intro q x hx h
  simp only [trC] at h ⊢
  split at h
  ·rename_i x1 x2 h1 h2
   simp only [sI] at h
   subst h
   simp only [noDraw,bT] at hx
   rw [iha _ _ hx.1 h1,ihb _ _ hx.2 h2]
  ·cases h
 | cond cc a b iha ihb =>
  intro q x hx h
  simp only [trC] at h ⊢
  split at h
  ·rename_i x0 x1 x2 h0 h1 h2
   simp only [sI] at h
   subst h
   cases x0 with
   | k v=>simp [noDraw] at hx
   | t i =>
   simp only [noDraw,bT] at hx
   simp only [h0,iha _ _ hx.1 h1,ihb _ _ hx.2 h2]
  ·cases h
 | block id c ih =>
  intro q x hx h
  simp only [trC,mS] at h ⊢
  obtain⟨y,h1,rfl⟩:=h
  exact⟨y,ih _ _ hx h1,rfl⟩
 | loop c ih =>
  intro q x hx h
  simp only [trC,mS] at h ⊢
  obtain⟨y,h1,rfl⟩:=h
  exact⟨y,ih _ _ hx h1,rfl⟩
 | _=>intro q x hx h;exact h
theorem each_at {P : Program} {rw : Bool} {pf : Nat → Nat} {cf : CallF} (hcf : CallOk P cf) (hm : P.follows .mixedOrders = true) {F : Nat} {fn : Func} {c : Code} (hF : pf F = 0) (hFr : F + 1 < rid) (hf : P.funcs[F]? = some fn) (hnm : (fn.name == "runtime.NumGoroutine") = false) (hb : fn.body = some c)
  {nt q:Nat}(hc:trC P rw pf nt q c=some (eachX F)) (hrs:trR P fn.results.toList=some [.t 6]) (hn:fn.ntmps=31):∀k f caps,EachAt P F cf f caps k:=by
 have hW:Walked P F:=⟨fn,hf,hnm,by rw [hb];rfl⟩
 intro k
 induction k with
 | zero=>intro f caps d ps h b h' e;simp [eachV] at e
 | succ k ih =>
  intro f caps d ps h b h' e g w xd xp xf fv pv hfv H hd hpv hp hfr
  obtain⟨c1,cr1,rfl,h1c,hc⟩:=trC_seq hc
  obtain⟨c2,cr2,rfl,h2c,hc⟩:=trC_seq hc
  obtain⟨c34,c5,rfl,h34,h5c⟩:=trC_seq hc
  obtain⟨c3,cbl,rfl,h3c,hbl⟩:=trC_seq h34
  obtain⟨clp,rfl,hlp⟩:=trC_block hbl
  obtain⟨cL,rfl,hL⟩:=trC_loop hlp
  simp only [eachV] at e
  split at e
  rotate_left
  ·cases e
  rename_i a1 a2 a3 us si
  split at e
  rotate_left
  ·cases e
  rename_i hcond
  obtain⟨q1,q2,q3,q4,q5,q6,q7⟩:=hcond
  have hus:∀u∈us,u.cells.length=4∧V.low h.length u=true:=by
   intro u hu
   have:=List.all_eq_true.1 q1 u hu
   simpa using this
  obtain⟨b1,h1,hy,hrest⟩:∃b1 h1,yieldV cf f caps (.agg [a1,a2,a3,.sl us si]) ps h=some (b1,h1)∧((b1=true∧eachL (eachV cf f caps k) ps 0 us h1=some (b,h'))∨(b1=false∧b=false∧h'=h1)):=by
   split at e
   ·rename_i h1 hy;exact⟨true,h1,hy,.inl ⟨rfl,e⟩⟩
   ·rename_i h1 hy
    simp only [sI,pI] at e
    exact⟨false,h1,hy,.inr ⟨rfl,e.1.symm,e.2.symm⟩⟩
   ·cases e
  obtain⟨y1,y2,y3⟩:=yieldV_spec hy
  have hin:inCf h.length cf f (.agg [a1,a2,a3,.sl us si]::pv::caps) (h++[pcell ps]++[.cells [a1,a2,a3,.sl us si]])=some (.c (.bool b1),h1++[pcell ps]++[.cells [a1,a2,a3,.sl us si]]):=by
   have:unbuf h.length pv=.row h.length 0 ps.length none:=by
    rcases hpv with rfl|⟨rfl,rfl⟩<;>rfl
   simp only [inCf,this]
   exact frameCf_app y1 _
  have hS:Sim [] g w { tmps:=#[xd,xp,xf]++Array.replicate (fn.ntmps-3) undef,defers:=[] } ⟨[.agg [a1,a2,a3,.sl us si],pv,fv]++List.replicate 28 undefV,h++[pcell ps],0,0⟩:=by
   refine⟨?_,H,rfl⟩
   have h3:∀i (hi:i<#[xd,xp,xf].size) (hj:i<[V.agg [a1,a2,a3,.sl us si],pv,fv].length),Rep g w #[xd,xp,xf][i] [V.agg [a1,a2,a3,.sl us si],pv,fv][i]:=by
    intro i hi hj
    match i,hi with
    | 0,_=>exact hd
    | 1,_=>exact hp
    | 2,_=>exact hfr
   have:=start_tm (g:=g) (w:=w) H.ag.gl (cargs:=#[xd,xp,xf]) rfl h3 fn.ntmps []
   rw [hn] at this ⊢
   exact this
  have fin:∀a' w' st',AtL g w (h++[pcell ps]) h.length ps h' a' w' st'→h'.length=h.length→h'.all (O.low h.length)=true→st'.tm[6]?=some (.c (.bool b)) →
    a'.defers=[]∧∃v,(results fn a'.tmps).run P w'=.ok v w'∧(∃g',Ending.returned v=.returned (.bool b)∧Le g w g' w'∧HOk g' w' (h'++[pcell ps])∧Quiet (Frb h.length (h++[pcell ps])) g (h++[pcell ps]) g' (h'++[pcell ps])):=by
   rintro a' w' st' ⟨g',k1,k2,k3,⟨e',he'⟩,k5⟩ hl hlow h6
   obtain⟨x,r1,r2⟩:=results_ok k2 hrs (vs:=[.c (.bool b)]) (by simp [resAll,resV,h6])
   have hx:x=.bool b:=r2.of_c
   subst hx
   refine⟨k2.df,_,r1,g'.res (h.length+1),rfl,?_,?_,fun id hid=>?_⟩
   ·exact k1.res (fun id b e=>by have:=(H.blk_lt e).1;simpa using this) (fun id p e=>by obtain⟨b,n,c⟩:=p;have:=(H.tok_lt e).1;simpa using this)
   ·have hH:HOk g' w' ((h'++[pcell ps])++e'):=by
     have:=k2.hk
     rw [he'] at this
     simpa using this
    have:=hH.cut (by
     rw [List.all_append]
     simp only [lA,lC,List.length_nil,hl,bT]
     refine⟨olow_mono (Nat.le_succ _) hlow,?_⟩
     simp only [List.all_cons,List.all_nil,Bool.and_true,pcell,O.low]
     exact lows_of fun v hv=>by
      obtain⟨i,_,rfl⟩:=List.mem_map.1 hv
      rfl)
    simpa [hl] using this
   ·have hid':id<h.length:=Nat.lt_of_not_le fun h=>hid (.inl h)
    obtain⟨z1,z2,z3⟩:=k3 id hid
    have hid2:id<h.length+1:=by omega
    refine⟨fun e=>by simp only [Gh.res,hid2,if_true];exact z1 e,fun e=>by simp only [Gh.res,hid2,if_true];exact z2 e,fun e e2=>?_⟩
    have:=z3 e e2
    rw [he',aL (by omega)] at this
    rw [aL (by omega)]
    exact this
  have hbase:h.length≤(h++[pcell ps]).length:=by simp
  refine calls_of_wp hf hb ?_
  refine wp_seq (exec_ok0 (cfN_pure pf) cfN_ok hm (base:=h.length) 0 c1 _ _ h1c (noRF_ranges _ _ _ rfl h1c) rfl g w _ _ _ _ (runA _ _ _) hS hbase _ fun a1' w1' g1' k1 k2 k3 k4=>?_)
  have hj:(h++[pcell ps]++[O.cells [a1,a2,a3,.sl us si]])[(h++[pcell ps]).length]?=some (.cells [a1,a2,a3,.sl us si]):=by simp
  have h2c':=trC_pf (pf':=fun _=>0) c2 _ _ (by simp [noDraw,eR2,eR3]) h2c
  have hB:=runB (n:=0) (d:=.agg [a1,a2,a3,.sl us si]) (base:=0) (rb:=(h++[pcell ps]).length) hfv (frameCf_rid y1) hj hin (by simp;omega)
  cases b1 with
  | false =>
   simp only [Bool.false_eq_true,if_false] at hB
   rcases hrest with⟨hh,_⟩|⟨_,rfl,rfl⟩
   ·cases hh
   refine wp_seq (exec_ok0 (pure0 _) (inCf_ok hcf) hm (base:=h.length) 0 c2 _ _ h2c' (noRF_ranges _ _ _ rfl h2c') rfl g1' w1' a1' _ _ _ hB k2 k4 _ fun a2' w2' g2' l1 l2 l3 l4=>?_)
   exact fin a2' w2' _ ⟨g2',k1.trans l1,l2,k3.transL k2.hk k1 l3,⟨[O.cells [a1,a2,a3,.sl us si]],by simp⟩,by simp⟩ y2 y3 rfl
  | true =>
   simp only [if_true] at hB
   rcases hrest with⟨_,hev⟩|⟨hh,_⟩
   rotate_left
   ·cases hh
   refine wp_seq (exec_ok0 (pure0 _) (inCf_ok hcf) hm (base:=h.length) 0 c2 _ _ h2c' (noRF_ranges _ _ _ rfl h2c') rfl g1' w1' a1' _ _ _ hB k2 k4 _ fun a2' w2' g2' l1 l2 l3 l4=>?_)
   have hj2:(h1++[pcell ps]++[O.cells [a1,a2,a3,.sl us si]])[(h++[pcell ps]).length]?=some (.cells [a1,a2,a3,.sl us si]):=by
    have:(h++[pcell ps]).length=(h1++[pcell ps]).length:=by simp [y2]
    rw [this];simp
   obtain⟨tm,hC,hI⟩:=runC (cf:=cfN) (n:=0) (d:=.agg [a1,a2,a3,.sl us si]) (x10:=.agg [a1,a2,a3,.sl us si]) (pv:=pv) (fv:=fv) (base:=0) (rb:=(h++[pcell ps]++[O.cells [a1,a2,a3,.sl us si]]).length) hj2
   refine wp_seq (wp_seq (exec_ok0 (cfN_pure pf) cfN_ok hm (base:=h.length) 0 c3 _ _ h3c (noRF_ranges _ _ _ rfl h3c) rfl g2' w2' a2' _ _ _ hC l2 l4 _ fun a3' w3' g3' m1 m2 m3 m4=>?_))
   have hHe:h1++[pcell ps]++[O.cells [a1,a2,a3,.sl us si]]=h1++(pcell ps::[O.cells [a1,a2,a3,.sl us si]]):=by simp
   rw [hHe] at m2 m3
   have hel:h'.length=h.length∧h'.all (O.low h.length)=true:=by
    have:=eachV_len (cf:=cf) (f:=f) (caps:=caps) (k:=k+1) (d:=.agg [a1,a2,a3,.sl us si]) (ps:=ps) (h:=h) (b:=b) (h':=h') (by
     simp only [eachV]
     rw [if_pos ⟨q1,q2,q3,q4,q5,q6,q7⟩,hy]
     exact hev)
    exact this
   have hq3:Quiet (Frb h.length (h++[pcell ps])) g (h++[pcell ps]) g3' (h1++(pcell ps::[O.cells [a1,a2,a3,.sl us si]])):=by
    have:=k3.transL k2.hk k1 l3
    rw [hHe] at this
    exact this.transL (by have:=l2.hk;rw [hHe] at this;exact this) (k1.trans l1) m3
   refine wp_block (each_loop (m:=h.length) (ps:=ps) hm hF hFr ih hW hL hpv hfv hus q2 q3 q4 (b:=b) (h':=h') (g:=g) (w:=w) (h0:=h++[pcell ps]) (fun a' w' st' hb' hat=>?_) (fun a' w' st' hb' hat h6=>?_) hev y2 y3 (k1.trans (l1.trans m1)) m2 hq3 (hI _ _))
   ·subst hb'
    simp only [Exit.inBlock,if_true,Exit.then]
    obtain⟨g4,n1,n2,n3,⟨e',he'⟩,n5⟩:=hat
    have hD:exec cfN 0 (.seq eR11 .ret) st'=some (.ret,{ st' with tm:=st'.tm.set 6 (.c (.bool true)),h:=st'.h,rb:=st'.h.length }):=by
     simp [eR11,exec,runOps,stepO,known,wants,act,pureV,putV,ev]
    refine exec_ok0 (cfN_pure pf) cfN_ok hm (base:=h.length) 0 c5 _ _ h5c (noRF_ranges _ _ _ rfl h5c) rfl g4 w' a' _ _ _ hD n2 (by rw [he'];simp;omega) _ fun a5 w5 g5 o1 o2 o3 o4=>?_
    exact fin a5 w5 _ ⟨g5,n1.trans o1,o2,n3.transL n2.hk n1 o3,⟨e',he'⟩,by simp [n5]⟩ hel.1 hel.2 (by simp [n5])
   ·subst hb'
    exact fin a' w' st' hat hel.1 hel.2 h6
def eachE:Nat→CallF→List V→List O→Option (V × List O):=fun n cf args h=>match args with
 | [d,.sl [] .nil,fv]=>match callee fv with
  | some (f,caps)=>(eachV cf f caps n d [] h).map fun r=>(.c (.bool r.1),r.2)
  | none=>none
 | _=>none
theorem each_ext {P:Program}{rw:Bool}{pf:Nat→Nat}{cf:CallF}(hcf:CallOk P cf) (hm:P.follows .mixedOrders=true){F:Nat}{fn:Func}(hF:pf F=0) (hFr:F+1<rid) (hf:P.funcs[F]?=some fn){q:Nat}(htr:trF P pf q false false rw fn=some ⟨31,eachX F,[.t 6],false,false,rw,none⟩)
  {n:Nat}{args:List V}{h:List O}{r:V}{h':List O}(e:eachE n cf args h=some (r,h')):Walked P F∧CallAt P F args h r h':=by
 obtain⟨t1,c,t2,t3,t4,t5,t6,t7⟩:=trF_spec htr
 refine⟨⟨fn,hf,t1,by rw [t2];rfl⟩,fun g w cargs H hl hr=>?_⟩
 unfold eachE at e
 split at e
 rotate_left
 ·cases e
 rename_i d fv
 split at e
 rotate_left
 ·cases e
 rename_i f caps hfv
 simp only [mS,pI] at e
 obtain⟨⟨b,h1⟩,hev,rfl,rfl⟩:=e
 obtain⟨xd,xp,xf,rfl⟩:∃a b c,cargs=#[a,b,c]:=by
  obtain⟨l⟩:=cargs
  match l,hl with
  | [a,b,c],_=>exact⟨a,b,c,rfl⟩
 have hd:Rep g w xd d:=hr 0 (by simp) (by simp)
 have hp:Rep g w xp (.sl [] .nil):=hr 1 (by simp) (by simp)
 have hx:Rep g w xf fv:=hr 2 (by simp) (by simp)
 have hel:=eachV_len hev
 refine Calls.mono (each_at (rw:=rw) hcf hm hF hFr hf t1 t2 t3 t4 t5.symm n f caps d [] h b h1 hev g w xd xp xf fv (.sl [] .nil) hfv (H.append _) hd (.inr ⟨rfl,rfl⟩) hp hx) ?_
 rintro e w' ⟨g',rfl,k1,k2,k3⟩
 have hcut:=k2.cut (h:=h1) (by rw [hel.1];exact hel.2)
 rw [hel.1] at hcut
 refine⟨.bool b,g'.res h.length,rfl,k1.res (fun id b e=>(H.blk_lt e).1) (fun id p e=>by obtain⟨b,n,c⟩:=p;exact (H.tok_lt e).1),hcut,.c _,fun id hid=>?_⟩
 have hid':id<h.length:=Nat.lt_of_not_le fun h=>hid (.inl h)
 obtain⟨z1,z2,z3⟩:=k3 id (fun h=>h.elim (fun h=>by omega) fun h=>hid (.inr (by rw [aL hid'] at h;exact h)))
 refine⟨fun e=>by simp only [Gh.res,hid',if_true];exact z1 e,fun e=>by simp only [Gh.res,hid',if_true];exact z2 e,fun e e2=>?_⟩
 have:=z3 e e2
 rw [aL (by omega),aL (by omega)] at this
 exact this
def CfLe (cf cf':CallF):Prop:=∀f args h r,cf f args h=some r→cf' f args h=some r
theorem act_mono {cf cf':CallF}(hc:CfLe cf cf'){st:St}{op:XOp}{r:V × List O}(h:act cf st op=some r):act cf' st op=some r:=by
 cases op
 case call f args =>
  have lo:∀{f:Nat}{vs:List V}{r:V × List O},longer st.h (cf f vs st.h)=some r→longer st.h (cf' f vs st.h)=some r:=by
   intro f vs r e
   obtain⟨r1,r2⟩:=r
   obtain⟨e1,e2⟩:=longer_some e
   rw [hc _ _ _ _ e1,longer_of e2]
  simp only [act,callV,callFn] at h ⊢
  split at h
  ·split at h
   ·rename_i hq;rw [if_pos hq];exact lo h
   ·cases h
  ·split at h
   ·rename_i hq;rw [if_pos hq];exact lo h
   ·cases h
  ·split at h
   ·split at h
    ·rename_i hq;rw [if_pos hq];exact lo h
    ·cases h
   ·cases h
 all_goals exact h
theorem step_mono {cf cf':CallF}(hc:CfLe cf cf'){o:XOper}{st st1:St}(h:stepO cf o st=some st1):stepO cf' o st=some st1:=by
 unfold stepO at h ⊢
 split at h
 ·rename_i hk
  rw [if_pos hk]
  split at h
  ·rename_i hw
   rw [if_pos hw]
   split at h
   ·rename_i v hh ha
    rw [act_mono hc ha]
    exact h
   ·cases h
  ·rename_i hw
   rw [if_neg hw]
   exact h
 ·cases h
theorem ops_mono {cf cf':CallF}(hc:CfLe cf cf'):∀{ops:List XOper}{st st1:St},runOps cf ops st=some st1→runOps cf' ops st=some st1
 | [],st,st1,h=>h
 | o::r,st,st1,h=>by
  simp only [runOps] at h ⊢
  split at h
  ·rename_i s1 h1
   rw [step_mono hc h1]
   exact ops_mono hc h
  ·cases h
theorem frame_mono {m:Nat}{cf cf':CallF}(hc:CfLe cf cf'):CfLe (frameCf m cf) (frameCf m cf'):=by
 intro f args h r e
 unfold frameCf at e ⊢
 generalize (if V.lows m args=true then args else args.map V.vw2)=args' at e ⊢
 unfold frameC0 at e ⊢
 split at e
 ·rename_i hcond
  rw [if_pos hcond]
  split at e
  ·rename_i r' h1 hcall
   rw [hc _ _ _ _ hcall]
   exact e
  ·cases e
 ·cases e
theorem opsW_mono {m:Nat}{lt:Bool}{cf cf':CallF}(hc:CfLe cf cf'):∀{ops:List XOper}{st st1:St},runW m lt cf ops st=some st1→runW m lt cf' ops st=some st1
 | [],st,st1,h=>h
 | o::r,st,st1,h=>by
  simp only [runW] at h ⊢
  split at h
  ·rename_i s1 h1
   have:stepW m lt cf' o st=some s1:=by
    unfold stepW at h1 ⊢
    split at h1
    ·rename_i hb
     rw [if_pos hb]
     exact step_mono (frame_mono hc) h1
    ·cases h1
   rw [this]
   exact opsW_mono hc h
  ·cases h
theorem ro_mono {m:Nat}{cf cf':CallF}(hc:CfLe cf cf'):CfLe (roCf m cf) (roCf m cf'):=by
 intro f args H r e
 unfold roCf at e ⊢
 split at e
 ·rename_i h
  rw [if_pos h]
  split at e
  ·rename_i r' h1 hcall
   rw [hc _ _ _ _ hcall]
   exact e
  ·cases e
 ·cases e
theorem opsR_mono {m:Nat}{cf cf':CallF}(hc:CfLe cf cf'):∀{ops:List XOper}{st st1:St},runR m cf ops st=some st1→runR m cf' ops st=some st1
 | [],st,st1,h=>h
 | o::r,st,st1,h=>by
  simp only [runR] at h ⊢
  split at h
  ·rename_i s1 h1
   have:stepR m cf' o st=some s1:=by
    unfold stepR at h1 ⊢
    split at h1
    ·rename_i hb
     rw [if_pos hb]
     exact step_mono (ro_mono hc) h1
    ·cases h1
   rw [this]
   exact opsR_mono hc h
  ·cases h
theorem iter_mono {f f':St→Option (Ex × St)}(hf:∀st r,f st=some r→f' st=some r):∀{n n':Nat}{st:St}{r:Ex × St},n≤n'→iter f n st=some r→iter f' n' st=some r
 | 0,n',st,r,_,h=>by simp [iter] at h
 | n+1,0,st,r,hn,h=>by omega
 | n+1,n'+1,st,r,hn,h=>by
  simp only [iter] at h ⊢
  split at h
  ·rename_i s1 h1
   rw [hf _ _ h1]
   exact iter_mono hf (by omega) h
  ·rename_i hne
   cases h1:f st with
   | none=>rw [h1] at h;cases h
   | some p =>
    rw [h1] at h
    simp only [sI] at h
    subst h
    rw [hf _ _ h1]
    obtain⟨e,s⟩:=p
    cases e with
    | normal=>exact absurd h1 (hne s)
    | exit id=>rfl
    | ret=>rfl
theorem exec_mono {cf cf':CallF}(hc:CfLe cf cf'){n n':Nat}(hn:n≤n'):∀(xc:XC) (st:St) (r:Ex × St),exec cf n xc st=some r→exec cf' n' xc st=some r:=by
 intro xc
 induction xc with
 | skip=>intro st r h;exact h
 | reg ops pre d =>
  intro st r h
  simp only [exec,mS] at h ⊢
  obtain⟨s,h1,h2⟩:=h
  exact⟨s,ops_mono hc h1,h2⟩
 | regw ops pre =>
  intro st r h
  simp only [exec,mS] at h ⊢
  obtain⟨s,h1,h2⟩:=h
  exact⟨s,opsW_mono hc h1,h2⟩
 | regm ops pre =>
  intro st r h
  simp only [exec,mS] at h ⊢
  obtain⟨s,h1,h2⟩:=h
  exact⟨s,opsW_mono hc h1,h2⟩
 | regr ops pre =>
  intro st r h
  simp only [exec,mS] at h ⊢
  obtain⟨s,h1,h2⟩:=h
  exact⟨s,opsR_mono hc h1,h2⟩
 | seq a b iha ihb =>
  intro st r h
  simp only [exec] at h ⊢
  split at h
  ·rename_i s1 h1
   rw [iha _ _ h1]
   exact ihb _ _ h
  ·rename_i hne
   obtain⟨e,s⟩:=r
   rw [iha _ _ h]
   cases e with
   | normal=>exact absurd h (hne s)
   | exit id=>rfl
   | ret=>rfl
 | cond c a b iha ihb =>
  intro st r h
  simp only [exec] at h ⊢
  split at h
  ·rename_i t ht
   split at h
   ·rename_i ht2;rw [if_pos ht2];exact iha _ _ h
   ·rename_i ht2;rw [if_neg ht2];exact ihb _ _ h
  ·cases h
 | block id c ih =>
  intro st r h
  simp only [exec] at h ⊢
  split at h
  ·rename_i id' s1 h1
   rw [ih _ _ h1]
   exact h
  ·rename_i hne
   obtain⟨e,s⟩:=r
   rw [ih _ _ h]
   cases e with
   | exit id=>exact absurd h (hne _ s)
   | normal=>rfl
   | ret=>rfl
 | loop c ih =>
  intro st r h
  simp only [exec] at h ⊢
  exact iter_mono (fun st r=>ih st r) hn h
 | exit id=>intro st r h;exact h
 | ret=>intro st r h;exact h
 | rangeF f y m nt us =>
  intro st r h
  simp only [exec] at h ⊢
  split at h
  ·split at h
   ·rename_i hq
    rw [if_pos hq]
    split at h
    ·rename_i h1
     rw [hc _ _ _ _ h1]
     exact h
    ·cases h
   ·cases h
  ·cases h
theorem snap_mono {lo:Nat}{h:List O}:∀{k k':Nat}{v v':V},k≤k'→snap lo h k v=some v'→snap lo h k' v=some v'
 | 0,_,v,v',_,e=>by simp [snap] at e
 | k+1,0,v,v',hk,e=>by omega
 | k+1,k'+1,v,v',hk,e=>snapV_le (fun _ _ _ h=>h) (fun v v' e=>snap_mono (by omega) e) v v' e
theorem fin_mono {esc:Bool}{n n':Nat}(hn:n≤n'){res:List XR}{o o':Option (Ex × St)}(ho:∀r,o=some r→o'=some r){r:V × List O}(h:fin esc n res o=some r):fin esc n' res o'=some r:=by
 cases o with
 | none=>simp [fin] at h
 | some p =>
  rw [ho p rfl]
  obtain⟨e,s⟩:=p
  have main:∀e,e≠.normal∧e≠.ret→fin esc n res (some (e,s))=none:=by
   intro e he
   cases e with
   | normal=>exact absurd rfl he.1
   | ret=>exact absurd rfl he.2
   | exit id=>rfl
  have key:∀q,(match resAll s res with
    | some vs =>
     if esc then some ((resOf vs).vwr,s.h) else
     if (resOf vs).vw.low s.base then if (s.h.take s.base).all (O.low s.base) then some ((resOf vs).vw,s.h.take s.base) else none
     else match snap s.base s.h n (resOf vs).vw with
      | some r=>if r.low s.base&&(s.h.take s.base).all (O.low s.base) then some (r,s.h.take s.base) else none
      | none=>none
    | none=>none)=some q→(match resAll s res with
    | some vs =>
     if esc then some ((resOf vs).vwr,s.h) else
     if (resOf vs).vw.low s.base then if (s.h.take s.base).all (O.low s.base) then some ((resOf vs).vw,s.h.take s.base) else none
     else match snap s.base s.h n' (resOf vs).vw with
      | some r=>if r.low s.base&&(s.h.take s.base).all (O.low s.base) then some (r,s.h.take s.base) else none
      | none=>none
    | none=>none)=some q:=by
   intro q hq
   split at hq
   ·split at hq
    ·rename_i he;simp only [he,if_true];exact hq
    ·rename_i he
     simp only [he,Bool.false_eq_true,if_false]
     split at hq
     ·rename_i hl;simp only [hl,if_true];exact hq
     ·rename_i hl
      simp only [hl,Bool.false_eq_true,if_false]
      split at hq
      ·rename_i r' hsn
       rw [snap_mono hn hsn]
       exact hq
      ·cases hq
   ·cases hq
  cases e with
  | exit id=>simp [fin] at h
  | normal=>exact key r h
  | ret=>exact key r h
theorem mapO_mono {f f':V→Option V}(hf:∀v v',f v=some v'→f' v=some v'){us us':List V}(h:mapO f us=some us'):mapO f' us=some us':=mapO_le hf us us' h
theorem runF_mono {cf cf':CallF}(hc:CfLe cf cf'){n n':Nat}(hn:n≤n'){xf:XF}{args:List V}{h:List O}{r:V × List O}(e:runF cf n xf args h=some r):runF cf' n' xf args h=some r:=by
 have hex:∀st r,exec cf n xf.body st=some r→exec cf' n' xf.body st=some r:=exec_mono hc hn xf.body
 unfold runF at e ⊢
 split at e
 ·rename_i hp
  rw [if_pos hp]
  split at e
  ·rename_i hl
   rw [if_pos hl]
   split at e
   ·rename_i hes
    rw [if_pos hes]
    simp only [mS] at e ⊢
    obtain⟨q,hq,rfl⟩:=e
    exact⟨q,fin_mono hn (hex _) hq,rfl⟩
   ·rename_i hes
    rw [if_neg hes]
    simp only [mS] at e ⊢
    obtain⟨q,hq,rfl⟩:=e
    exact⟨q,fin_mono hn (hex _) hq,rfl⟩
  ·rename_i hl
   rw [if_neg hl]
   split at e
   ·cases e
   ·rename_i hes
    rw [if_neg hes]
    split at e
    ·rename_i bs hbs
     rw [mapO_mono (fun v v'=>snap_mono hn) hbs]
     simp only
     split at e
     ·rename_i hl2
      rw [if_pos hl2]
      split at e
      ·rename_i q hh hq
       rw [fin_mono hn (hex _) hq]
       exact e
      ·cases e
     ·cases e
    ·cases e
 ·rename_i hp
  rw [if_neg hp]
  exact fin_mono hn (hex _) e
def ExtMono (E:Ext):Prop:=∀f e,E f=some e→∀n n' cf cf',n≤n'→CfLe cf cf'→∀args h r,e n cf args h=some r→e n' cf' args h=some r
theorem round_mono {cf cf':CallF}(hc:CfLe cf cf'){n n':Nat}(hn:n≤n'){ps:List Nat}{asg body:XC}{k:Nat}{vs caps:List V}{h:List O}{r:V × List O}(e:runRound cf n ps asg body k vs caps h=some r):runRound cf' n' ps asg body k vs caps h=some r:=by
 unfold runRound at e ⊢
 split at e
 rotate_left
 ·cases e
 rename_i tm hp
 split at e
 rotate_left
 ·cases e
 rename_i st1 h1
 rw [exec_mono hc hn _ _ _ h1]
 simp only
 split at e
 rotate_left
 ·cases e
 rename_i hk
 split at e
 rotate_left
 ·cases e
 rename_i e2 st2 h2
 simp only [hk,exec_mono hc hn _ _ _ h2]
 exact e
theorem call_mono {X:Nat→Option XF}{E:Ext}(hE:ExtMono E):∀{n n':Nat},n≤n'→CfLe (call X E n) (call X E n')
 | 0,_,_=>fun f args h r e=>by simp [call] at e
 | n+1,0,hn=>by omega
 | n+1,n'+1,hn=>fun f args h r e=>by
  have ih:=call_mono (X:=X) hE (n:=n) (n':=n') (by omega)
  simp only [call] at e ⊢
  split at e
  ·rename_i ex hex
   exact hE f ex hex n n' _ _ (by omega) ih args h r e
  ·rename_i hex
   split at e
   ·cases e
   ·rename_i xf hxf
    split at e
    ·split at e
     ·split at e
      ·rename_i hk
       rw [if_pos hk]
       exact round_mono ih (by omega) e
      ·cases e
     ·cases e
    ·exact runF_mono ih (by omega) e
theorem yield_mono {cf cf':CallF}(hc:CfLe cf cf'){f:Nat}{caps:List V}{d:V}{ps:List Int}{h:List O}{r:Bool × List O}(e:yieldV cf f caps d ps h=some r):yieldV cf' f caps d ps h=some r:=by
 unfold yieldV at e ⊢
 split at e
 ·rename_i b h1 hf
  rw [frame_mono hc _ _ _ _ hf]
  exact e
 ·cases e
theorem eachV_mono {cf cf':CallF}(hc:CfLe cf cf'){f:Nat}{caps:List V}:∀{k k':Nat},k≤k'→∀{d:V}{ps:List Int}{h:List O}{r:Bool × List O},eachV cf f caps k d ps h=some r→eachV cf' f caps k' d ps h=some r
 | 0,_,_,d,ps,h,r,e=>by simp [eachV] at e
 | k+1,0,hk,_,_,_,_,_=>by omega
 | k+1,k'+1,hk,d,ps,h,r,e=>by
  have hL:∀(us:List V) (i:Nat) (h1:List O),eachL (eachV cf f caps k) ps i us h1=some r→eachL (eachV cf' f caps k') ps i us h1=some r:=by
   intro us
   induction us with
   | nil=>intro i h1 e;exact e
   | cons u us ih =>
    intro i h1 e
    simp only [eachL] at e ⊢
    split at e
    ·rename_i h2 e1
     rw [eachV_mono hc (by omega) e1]
     exact ih _ _ e
    ·rename_i h2 e1
     rw [eachV_mono hc (by omega) e1]
     exact e
    ·cases e
  unfold eachV at e ⊢
  split at e
  ·split at e
   ·rename_i hcond
    simp only [if_pos hcond]
    split at e
    ·rename_i h1 e1
     rw [yield_mono hc e1]
     exact hL _ _ _ e
    ·rename_i h1 e1
     rw [yield_mono hc e1]
     exact e
    ·cases e
   ·cases e
  ·cases e
theorem eachE_mono {n n':Nat}{cf cf':CallF}(hn:n≤n') (hc:CfLe cf cf'){args:List V}{h:List O}{r:V × List O}(e:eachE n cf args h=some r):eachE n' cf' args h=some r:=by
 unfold eachE at e ⊢
 split at e
 ·split at e
  ·rename_i f caps hfv
   simp only [mS] at e ⊢
   obtain⟨q,hq,rfl⟩:=e
   exact⟨q,eachV_mono hc hn hq,rfl⟩
  ·cases e
 ·cases e
structure SF where
 e:Nat→V
 h:List O
 base:Nat
 rb:Nat
def A.sub (e:Nat→V):A→A
 | .t i=>.k (e i)
 | .k v=>.k v
def A.val (e:Nat→V):A→V
 | .t i=>e i
 | .k v=>v
def XOp.sub (e:Nat→V):XOp→XOp
 | .mv x=>.mv (x.sub e)
 | .pick c a b=>.pick (c.sub e) (a.sub e) (b.sub e)
 | .alloc al z=>.alloc al z
 | .box al x=>.box al (x.sub e)
 | .build z ps=>.build z (ps.map fun p=>(p.1,p.2.1,p.2.2.sub e))
 | .bslice al z ps=>.bslice al z (ps.map (A.sub e))
 | .load n x=>.load n (x.sub e)
 | .store n a x=>.store n (a.sub e) (x.sub e)
 | .bin op q x y=>.bin op q (x.sub e) (y.sub e)
 | .un op x=>.un op (x.sub e)
 | .fieldAddr o x=>.fieldAddr o (x.sub e)
 | .field o n x=>.field o n (x.sub e)
 | .indexAddr z x i=>.indexAddr z (x.sub e) (i.sub e)
 | .index x i=>.index (x.sub e) (i.sub e)
 | .slice s z x lo hi mx=>.slice s z (x.sub e) (lo.map (A.sub e)) (hi.map (A.sub e)) (mx.map (A.sub e))
 | .extract x i=>.extract (x.sub e) i
 | .len s x=>.len s (x.sub e)
 | .append al z b rw x y=>.append al z b rw (x.sub e) (y.sub e)
 | .mm m ps=>.mm m (ps.map (A.sub e))
 | .conv k x=>.conv k (x.sub e)
 | .call f ps=>.call (f.sub e) (ps.map (A.sub e))
 | .clos f ps=>.clos f (ps.map (A.sub e))
 | .nilchk x=>.nilchk (x.sub e)
 | .makeMap al=>.makeMap al
 | .lookup kd z ok x k=>.lookup kd z ok (x.sub e) (k.sub e)
 | .mapUpd kd m k v=>.mapUpd kd (m.sub e) (k.sub e) (v.sub e)
 | .mksl al z zero n=>.mksl al z zero (n.sub e)
 | .eqs neg kd x y=>.eqs neg kd (x.sub e) (y.sub e)
 | .bndm f x=>.bndm f (x.sub e)
 | .load1 x=>.load1 (x.sub e)
 | .load2 n x=>.load2 n (x.sub e)
def toE (tm:List V):Nat→V:=fun i=>tm.getD i undefV
def upd (e:Nat→V) (d:Nat) (v:V):Nat→V:=fun t=>if t=d then v else e t
def updO (e:Nat→V):Option Nat→V→Nat→V
 | none,_=>e
 | some d,v=>upd e d v
theorem ev_sub (tm tm':List V) (x:A):ev tm' (x.sub (toE tm))=ev tm x:=by cases x<;>rfl
theorem ev_subs (tm tm':List V) (xs:List A):(xs.map (A.sub (toE tm))).map (ev tm')=xs.map (ev tm):=by
 rw [List.map_map]
 exact List.map_congr_left fun x _=>ev_sub tm tm' x
theorem fill_sub (tm tm':List V):∀(ps:List (Nat × Nat × A)) (z:List V),fillV z tm' (ps.map fun p=>(p.1,p.2.1,p.2.2.sub (toE tm)))=fillV z tm ps
 | [],z=>rfl
 | (o,n,x)::r,z=>by
  simp only [List.map_cons,fillV,ev_sub]
  split
  ·exact fill_sub tm tm' r _
  ·rfl
theorem oidx_sub (tm tm':List V) (d:Int) (x:Option A):optIdx tm' d (x.map (A.sub (toE tm)))=optIdx tm d x:=by
 cases x with
 | none=>rfl
 | some x=>simp only [Option.map_some,optIdx,ev_sub]
theorem slV_sub (tm tm' us:List V) (z:Nat) (lo hi mx:Option A):slV tm' us z (lo.map (A.sub (toE tm))) (hi.map (A.sub (toE tm))) (mx.map (A.sub (toE tm)))=slV tm us z lo hi mx:=by
 unfold slV
 have e1:(hi.map (A.sub (toE tm))).isSome=hi.isSome:=by cases hi<;>rfl
 simp only [oidx_sub,e1]
 generalize optIdx tm 0 lo=a
 generalize optIdx tm us.length hi=b
 cases mx<;>cases a<;>cases b<;>simp [ev_sub]
theorem rowV_sub (tm tm':List V) (id off n:Nat) (zz:Option Nat) (z:Nat) (lo hi mx:Option A):rowV tm' id off n zz z (lo.map (A.sub (toE tm))) (hi.map (A.sub (toE tm))) (mx.map (A.sub (toE tm)))=rowV tm id off n zz z lo hi mx:=by
 unfold rowV
 have e1:(hi.map (A.sub (toE tm))).isSome=hi.isSome:=by cases hi<;>rfl
 simp only [oidx_sub,e1]
 generalize optIdx tm 0 lo=a
 generalize optIdx tm n hi=b
 cases mx<;>cases a<;>cases b<;>simp [ev_sub]
theorem stV_sub (tm tm':List V) (s:ByteArray) (lo hi mx:Option A):stV tm' s (lo.map (A.sub (toE tm))) (hi.map (A.sub (toE tm))) (mx.map (A.sub (toE tm)))=stV tm s lo hi mx:=by
 unfold stV
 simp only [oidx_sub]
 cases mx<;>simp
theorem slice_sub (tm tm':List V) (rb:Nat) (s:Bool) (z:Nat) (x:A) (lo hi mx:Option A):pureV tm' rb (XOp.sub (toE tm) (.slice s z x lo hi mx))=pureV tm rb (.slice s z x lo hi mx):=by
 simp only [XOp.sub,pureV,ev_sub,slV_sub,rowV_sub,stV_sub]
theorem act_sub {cf:CallF}{st:St}{op:XOp}:act cf { st with tm:=[] } (op.sub (toE st.tm))=act cf st op:=by
 cases op
 case slice s z x lo hi mx =>
  have:=slice_sub st.tm [] st.rb s z x lo hi mx
  simp only [XOp.sub] at this
  simp only [act,XOp.sub,this]
 case build z ps=>simp only [act,XOp.sub,pureV,fill_sub]
 case bslice al z ps=>simp only [act,XOp.sub,pureV,List.map_map,Function.comp_def,ev_sub]
 case mm m ps=>simp only [act,XOp.sub,pureV,ev_subs]
 case clos f ps=>simp only [act,XOp.sub,pureV,ev_subs]
 case call f ps=>simp only [act,XOp.sub,ev_sub,ev_subs]
 all_goals simp only [act,XOp.sub,pureV,ev_sub]
theorem own_sub {m:Nat}{st:St}{op:XOp}:ownB m { st with tm:=[] } (op.sub (toE st.tm))=ownB m st op:=by
 cases op<;>simp only [ownB,XOp.sub,ev_sub]
def knownF (e:Nat→V):Option (Nat × Bool)→Bool
 | none=>true
 | some (t,_)=>match e t with
  | .top=>false
  | _=>true
def wantsF (e:Nat→V):Option (Nat × Bool)→Bool
 | none=>true
 | some (t,b)=>match e t with
  | .c (.bool x)=>x==b
  | _=>false
theorem known_F (tm:List V) (g:Option (Nat × Bool)):knownF (toE tm) g=known tm g:=by
 cases g with
 | none=>rfl
 | some p =>
  obtain⟨t,b⟩:=p
  simp only [knownF,known,toE,List.getD_eq_getElem?_getD]
  cases tm[t]? with
  | none=>rfl
  | some v=>cases v <;> rfl
theorem wants_F (tm:List V) (g:Option (Nat × Bool)):wantsF (toE tm) g=wants tm g:=by
 cases g with
 | none=>rfl
 | some p =>
  obtain⟨t,b⟩:=p
  simp only [wantsF,wants,toE,List.getD_eq_getElem?_getD]
  cases tm[t]? with
  | none=>rfl
  | some v =>
   cases v with
   | c x=>cases x <;> rfl
   | _=>rfl
def bindO {α:Type}:Option α→(α→Prop)→Prop
 | none,_=>False
 | some a,k=>k a
theorem bindO_some {α:Type}(a:α) (k:α→Prop):bindO (some a) k=k a:=rfl
def actF (cf:CallF) (s:SF) (op:XOp):Option (V × List O):=act cf ⟨[],s.h,s.base,s.rb⟩ (op.sub s.e)
def wps (cf:CallF) (o:XOper) (s:SF) (k:SF→Prop):Prop :=
 if knownF s.e o.g=true then if wantsF s.e o.g=true then bindO (actF cf s o.op) fun r=>k ⟨updO s.e o.d r.1,r.2,s.base,s.rb⟩ else k ⟨updO s.e o.d undefV,s.h,s.base,s.rb⟩ else False
def wpOps (cf:CallF):List XOper→SF→(SF→Prop)→Prop
 | [],s,k=>k s
 | o::r,s,k=>wps cf o s fun s=>wpOps cf r s k
def ownF (s:SF) (op:XOp):Bool:=ownB s.base ⟨[],s.h,s.base,s.rb⟩ (op.sub s.e)
def wpOpsW (cf:CallF):List XOper→SF→(SF→Prop)→Prop
 | [],s,k=>k s
 | o::r,s,k=>ownF s o.op=true∧wps (frameCf s.base cf) o s fun s=>wpOpsW cf r s k
def condK (v:V) (p q:Prop):Prop:=match v with
 | .c (.bool t)=>if t=true then p else q
 | _=>False
def wpIter (f:SF→(Ex→SF→Prop)→Prop):Nat→SF→(Ex→SF→Prop)→Prop
 | 0,_,_=>False
 | n+1,s,Q=>f s fun e s=>match e with
  | .normal=>wpIter f n s Q
  | e=>Q e s
def keepE (nt:Nat) (us:List Nat) (e:Nat→V):List V:=(List.range nt).map fun i=>if us.contains i then e i else .top
def loopEnd:Option O→Option Ex
 | some (.loop s)=>Ex.ofNum s
 | _=>none
def cands (all:List XOper):List XOper→List Nat
 | []=>[]
 | o::r=>match o.op,o.d with
  | .mv (.t x),some d=>if isArg d all then x::cands all r else cands all r
  | _,_=>cands all r
def isOwnV (b:Nat):V→Bool
 | .ref id _=>decide (b≤id)
 | _=>false
def mids:List XOper→List Nat
 | []=>[]
 | o::r=>match o.g,o.op with
  | none,.fieldAddr _ (.t i)=>i::mids r
  | none,.load _ (.t i)=>i::mids r
  | _,_=>mids r
def ownIdV (b:Nat):V→Nat→Nat
 | .ref id _,m=>if b≤id∧id<m then id else m
 | _,m=>m
def thrF (s:SF) (ops:List XOper):Nat:=if (cands ops ops).any (fun x=>isOwnV s.base (s.e x))=true then (mids ops).foldl (fun m i=>ownIdV s.base (s.e i) m) s.h.length else s.base
def lateF (m:Nat) (s:SF) (o:XOper):Bool:=o.g.isSome||ownB m ⟨[],s.h,s.base,s.rb⟩ (o.op.sub s.e)
def tokF (m:Nat) (s:SF) (o:XOper):Bool:=tokB m ⟨[],s.h,s.base,s.rb⟩ (o.op.sub s.e)
def wpOpsC (cf:CallF) (p:SF→XOper→Bool):List XOper→SF→(SF→Prop)→Prop
 | [],s,k=>k s
 | o::r,s,k=>p s o=true∧wps cf o s fun s=>wpOpsC cf p r s k
def wpx (cf:CallF) (n:Nat):XC→SF→(Ex→SF→Prop)→Prop
 | .skip,s,Q=>Q .normal s
 | .reg ops pre _,s,Q=>wpOps cf ops ⟨s.e,s.h++pre,s.base,s.h.length⟩ (Q .normal)
 | .regw ops pre,s,Q=>wpOpsW cf ops ⟨s.e,s.h++pre,s.base,s.h.length⟩ (Q .normal)
 | .regr ops pre,s,Q=>wpOpsC (roCf (min s.base s.h.length) cf) (tokF (min s.base s.h.length)) ops ⟨s.e,s.h++pre,s.base,s.h.length⟩ (Q .normal)
 | .regm ops pre,s,Q=>wpOpsC (frameCf (thrF s ops) cf) (lateF (thrF s ops)) ops ⟨s.e,s.h++pre,s.base,s.h.length⟩ (Q .normal)
 | .seq a b,s,Q=>wpx cf n a s fun e s=>match e with
  | .normal=>wpx cf n b s Q
  | e=>Q e s
 | .cond c a b,s,Q=>condK (c.val s.e) (wpx cf n a s Q) (wpx cf n b s Q)
 | .block id c,s,Q=>wpx cf n c s fun e s=>match e with
  | .exit id'=>if id'=id then Q .normal s else Q (.exit id') s
  | e=>Q e s
 | .loop c,s,Q=>wpIter (wpx cf n c) n s Q
 | .exit id,s,Q=>Q (.exit id) s
 | .ret,s,Q=>Q .ret s
 | .rangeF f y m nt us,s,Q=>match callee (f.val s.e) with
  | some (g,lb)=>if g<rid∧rid≤y then bindO (cf g (.yld s.h.length y m (keepE nt us s.e)::lb) (s.h++[.loop 0])) fun r=>bindO (loopEnd r.2[s.h.length]?) fun e=>Q e ⟨s.e,r.2.set s.h.length (.loop 2),s.base,s.rb⟩ else False
  | none=>False
def dOk (m:Nat) (ops:List XOper):Bool:=ops.all fun o=>match o.d with
 | some d=>decide (d<m)
 | none=>true
def dstOk (m:Nat):XC→Bool
 | .reg ops _ _=>dOk m ops
 | .regw ops _=>dOk m ops
 | .regm ops _=>dOk m ops
 | .regr ops _=>dOk m ops
 | .seq a b=>dstOk m a&&dstOk m b
 | .cond _ a b=>dstOk m a&&dstOk m b
 | .block _ c=>dstOk m c
 | .loop c=>dstOk m c
 | .rangeF _ _ _ nt _=>m==nt
 | _=>true
def toS (st:St):SF:=⟨toE st.tm,st.h,st.base,st.rb⟩
theorem toE_put (tm:List V) (d:Option Nat) (v:V) (hd:(match d with|some d=>decide (d<tm.length)|none=>true)=true):toE (putV tm d v)=updO (toE tm) d v:=by
 cases d with
 | none=>rfl
 | some d =>
  simp only [dT] at hd
  funext t
  simp only [toE,putV,updO,upd,List.getD_eq_getElem?_getD,List.getElem?_set]
  by_cases h:t=d
  ·subst h;simp [hd]
  ·have:¬d=t:=fun e=>h e.symm
   simp [h,this]
theorem putV_len (tm:List V) (d:Option Nat) (v:V):(putV tm d v).length=tm.length:=by cases d<;>simp [putV]
theorem wps_ok {cf:CallF}{o:XOper}{st:St}{k:SF→Prop}(hd:(match o.d with|some d=>decide (d<st.tm.length)|none=>true)=true) (h:wps cf o (toS st) k) :
  ∃st1,stepO cf o st=some st1∧st1.tm.length=st.tm.length∧st1.base=st.base∧st1.rb=st.rb∧k (toS st1):=by
 unfold wps at h
 split at h
 ·rename_i h1
  simp only [toS] at h1
  rw [known_F] at h1
  split at h
  ·rename_i h2
   simp only [toS] at h2
   rw [wants_F] at h2
   unfold actF at h
   have he:act cf ⟨[],(toS st).h,(toS st).base,(toS st).rb⟩ (o.op.sub (toS st).e)=act cf st o.op:=act_sub (st:=st)
   rw [he] at h
   cases ha:act cf st o.op with
   | none=>rw [ha] at h;exact h.elim
   | some r =>
    rw [ha] at h
    obtain⟨v,h'⟩:=r
    refine⟨{ st with tm:=putV st.tm o.d v,h:=h' },by simp [stepO,h1,h2,ha],putV_len _ _ _,rfl,rfl,?_⟩
    simp only [bindO_some,toS] at h ⊢
    rw [toE_put _ _ _ hd]
    exact h
  ·rename_i h2
   simp only [toS] at h2
   rw [wants_F] at h2
   refine⟨{ st with tm:=putV st.tm o.d undefV },by simp [stepO,h1,h2],putV_len _ _ _,rfl,rfl,?_⟩
   simp only [toS] at h ⊢
   rw [toE_put _ _ _ hd]
   exact h
 ·exact h.elim
theorem wpOps_ok {cf:CallF}:∀{ops:List XOper}{st:St}{k:SF→Prop},dOk st.tm.length ops=true→wpOps cf ops (toS st) k →
  ∃st1,runOps cf ops st=some st1∧st1.tm.length=st.tm.length∧st1.base=st.base∧k (toS st1)
 | [],st,k,_,h=>⟨st,rfl,rfl,rfl,h⟩
 | o::r,st,k,hd,h=>by
  simp only [dOk,List.all_cons,bT] at hd
  obtain⟨s1,h1,h2,h3,h4,h5⟩:=wps_ok hd.1 h
  obtain⟨s2,k1,k2,k3,k4⟩:=wpOps_ok (st:=s1) (by rw [h2];exact hd.2) h5
  exact⟨s2,by simp [runOps,h1,k1],k2.trans h2,k3.trans h3,k4⟩
theorem wpOpsW_ok {cf:CallF}:∀{ops:List XOper}{st:St}{k:SF→Prop},dOk st.tm.length ops=true→wpOpsW cf ops (toS st) k →
  ∃st1,runW st.base false cf ops st=some st1∧st1.tm.length=st.tm.length∧st1.base=st.base∧k (toS st1)
 | [],st,k,_,h=>⟨st,rfl,rfl,rfl,h⟩
 | o::r,st,k,hd,h=>by
  simp only [dOk,List.all_cons,bT] at hd
  obtain⟨ho,h⟩:=h
  have ho':ownB st.base st o.op=true:=by
   rw [← ho]
   exact (own_sub (st:=st)).symm
  obtain⟨s1,h1,h2,h3,h4,h5⟩:=wps_ok hd.1 h
  obtain⟨s2,k1,k2,k3,k4⟩:=wpOpsW_ok (st:=s1) (by rw [h2];exact hd.2) h5
  have h1':stepO (frameCf st.base cf) o st=some s1:=h1
  rw [h3] at k1
  exact⟨s2,by simp [runW,stepW,ho',h1',k1],k2.trans h2,k3.trans h3,k4⟩
theorem any_cands (tm:List V) (b:Nat) (all:List XOper):∀ops:List XOper,(cands all ops).any (fun x=>isOwnV b (toE tm x))=ops.any fun o=>match o.op,o.d with
  | .mv (.t x),some d=>(match ev tm (.t x) with
   | .ref id _=>decide (b≤id)
   | _=>false)&&isArg d all
  | _,_=>false
 | []=>rfl
 | o::r=>by
  have ih:=any_cands tm b all r
  rw [List.any_cons,← ih]
  obtain⟨d,op,g⟩:=o
  cases op with
  | mv x =>
   cases x with
   | t x =>
    cases d with
    | some d =>
     show ((if isArg d all then x::cands all r else cands all r).any fun x=>isOwnV b (toE tm x))=(isOwnV b (toE tm x)&&isArg d all||(cands all r).any fun x=>isOwnV b (toE tm x))
     by_cases hd:isArg d all=true
     ·rw [if_pos hd,List.any_cons,hd,Bool.and_true]
     ·rw [if_neg hd]
      have:isArg d all=false:=by simpa using hd
      rw [this,Bool.and_false,Bool.false_or]
    | none=>rfl
   | k v=>cases d <;> rfl
  | _=>rfl
theorem fold_mids (st:St):∀(ops:List XOper) (m:Nat),(mids ops).foldl (fun m i=>ownIdV st.base (toE st.tm i) m) m=minOwn st ops m
 | [],m=>rfl
 | o::r,m=>by
  have key:∀i m,ownIdV st.base (toE st.tm i) m=ownId st (.t i) m:=fun i m=>by
   simp only [ownIdV,ownId,toE,List.getD_eq_getElem?_getD]
   cases st.tm[i]? with
   | none=>rfl
   | some v=>cases v <;> rfl
  unfold mids minOwn
  obtain⟨d,op,g⟩:=o
  cases g with
  | some g=>exact fold_mids st r m
  | none =>
   simp only [Option.isSome_none,Bool.false_eq_true,if_false]
   cases op with
   | fieldAddr k x =>
    cases x with
    | t i=>rw [List.foldl_cons,key];exact fold_mids st r _
    | k v=>exact fold_mids st r m
   | load k x =>
    cases x with
    | t i=>rw [List.foldl_cons,key];exact fold_mids st r _
    | k v=>exact fold_mids st r m
   | _=>exact fold_mids st r m
theorem thr_F (st:St) (ops:List XOper):thrF (toS st) ops=thr st ops:=by
 have h1:(cands ops ops).any (fun x=>isOwnV st.base (toE st.tm x))=ownArg st ops:=any_cands st.tm st.base ops ops
 have h2:=fold_mids st ops st.h.length
 unfold thrF thr
 rw [← h1,← h2]
 rfl
theorem tok_sub {m:Nat}{st:St}{op:XOp}:tokB m { st with tm:=[] } (op.sub (toE st.tm))=tokB m st op:=by
 cases op<;>simp only [tokB,XOp.sub,ev_sub]
theorem wpOpsM_ok {cf:CallF}{m:Nat}:∀{ops:List XOper}{st:St}{k:SF→Prop},dOk st.tm.length ops=true→wpOpsC (frameCf m cf) (lateF m) ops (toS st) k →
  ∃st1,runW m true cf ops st=some st1∧st1.tm.length=st.tm.length∧st1.base=st.base∧k (toS st1)
 | [],st,k,_,h=>⟨st,rfl,rfl,rfl,h⟩
 | o::r,st,k,hd,h=>by
  simp only [dOk,List.all_cons,bT] at hd
  obtain⟨ho,h⟩:=h
  have ho':(lateB true o||ownB m st o.op)=true:=by
   have h1:lateF m (toS st) o=(lateB true o||ownB m st o.op):=by
    simp only [lateB,lateF,Bool.true_and]
    exact congrArg (o.g.isSome || ·) (own_sub (st:=st))
   rw [← h1]
   exact ho
  obtain⟨s1,h1,h2,h3,h4,h5⟩:=wps_ok hd.1 h
  obtain⟨s2,k1,k2,k3,k4⟩:=wpOpsM_ok (st:=s1) (by rw [h2];exact hd.2) h5
  have h1':stepO (frameCf m cf) o st=some s1:=h1
  exact⟨s2,by simp [runW,stepW,ho',h1',k1],k2.trans h2,k3.trans h3,k4⟩
theorem wpOpsR_ok {cf:CallF}{m:Nat}:∀{ops:List XOper}{st:St}{k:SF→Prop},dOk st.tm.length ops=true→wpOpsC (roCf m cf) (tokF m) ops (toS st) k →
  ∃st1,runR m cf ops st=some st1∧st1.tm.length=st.tm.length∧st1.base=st.base∧k (toS st1)
 | [],st,k,_,h=>⟨st,rfl,rfl,rfl,h⟩
 | o::r,st,k,hd,h=>by
  simp only [dOk,List.all_cons,bT] at hd
  obtain⟨ho,h⟩:=h
  have ho':tokB m st o.op=true:=by
   rw [← ho]
   exact (tok_sub (st:=st)).symm
  obtain⟨s1,h1,h2,h3,h4,h5⟩:=wps_ok hd.1 h
  obtain⟨s2,k1,k2,k3,k4⟩:=wpOpsR_ok (st:=s1) (by rw [h2];exact hd.2) h5
  have h1':stepO (roCf m cf) o st=some s1:=h1
  exact⟨s2,by simp [runR,stepR,ho',h1',k1],k2.trans h2,k3.trans h3,k4⟩
theorem wpx_ok {cf:CallF}{n:Nat}:∀(c:XC){st:St}{Q:Ex→SF→Prop},dstOk st.tm.length c=true→wpx cf n c (toS st) Q →
  ∃e st1,exec cf n c st=some (e,st1)∧st1.tm.length=st.tm.length∧st1.base=st.base∧Q e (toS st1):=by
 intro c
 induction c with
 | skip=>intro st Q _ h;exact⟨_,st,rfl,rfl,rfl,h⟩
 | reg ops pre d =>
  intro st Q hd h
  obtain⟨s1,h1,h2,h3,h4⟩:=wpOps_ok (st:={ st with h:=st.h++pre,rb:=st.h.length }) hd h
  exact⟨_,s1,by simp only [exec,h1,Option.map_some],h2,h3,h4⟩
 | regw ops pre =>
  intro st Q hd h
  obtain⟨s1,h1,h2,h3,h4⟩:=wpOpsW_ok (st:={ st with h:=st.h++pre,rb:=st.h.length }) hd h
  exact⟨_,s1,by simp only [exec];rw [show runW st.base false cf ops { st with h:=st.h++pre,rb:=st.h.length }=some s1 from h1];rfl,h2,h3,h4⟩
 | regr ops pre =>
  intro st Q hd h
  obtain⟨s1,h1,h2,h3,h4⟩:=wpOpsR_ok (m:=min st.base st.h.length) (st:={ st with h:=st.h++pre,rb:=st.h.length }) hd h
  exact⟨_,s1,by simp only [exec];rw [h1];rfl,h2,h3,h4⟩
 | regm ops pre =>
  intro st Q hd h
  have h':wpOpsC (frameCf (thr st ops) cf) (lateF (thr st ops)) ops (toS { st with h:=st.h++pre,rb:=st.h.length }) (Q .normal):=by
   rw [← thr_F]
   exact h
  obtain⟨s1,h1,h2,h3,h4⟩:=wpOpsM_ok (st:={ st with h:=st.h++pre,rb:=st.h.length }) hd h'
  exact⟨_,s1,by simp only [exec];rw [h1];rfl,h2,h3,h4⟩
 | seq a b iha ihb =>
  intro st Q hd h
  simp only [dstOk,bT] at hd
  obtain⟨e,s1,h1,h2,h3,h4⟩:=iha hd.1 h
  cases e with
  | normal =>
   obtain⟨e2,s2,k1,k2,k3,k4⟩:=ihb (st:=s1) (by rw [h2];exact hd.2) h4
   exact⟨e2,s2,by simp [exec,h1,k1],k2.trans h2,k3.trans h3,k4⟩
  | exit id=>exact⟨_,s1,by simp [exec,h1],h2,h3,h4⟩
  | ret=>exact⟨_,s1,by simp [exec,h1],h2,h3,h4⟩
 | cond c a b iha ihb =>
  intro st Q hd h
  simp only [dstOk,bT] at hd
  have he:c.val (toS st).e=ev st.tm c:=by cases c<;>rfl
  unfold wpx condK at h
  rw [he] at h
  split at h
  ·rename_i t ht
   split at h
   ·rename_i htt
    obtain⟨e,s1,h1,h2⟩:=iha hd.1 h
    exact⟨e,s1,by simp [exec,ht,htt,h1],h2⟩
   ·rename_i htt
    obtain⟨e,s1,h1,h2⟩:=ihb hd.2 h
    exact⟨e,s1,by simp [exec,ht,htt,h1],h2⟩
  ·exact h.elim
 | block id c ih =>
  intro st Q hd h
  obtain⟨e,s1,h1,h2,h3,h4⟩:=ih hd h
  cases e with
  | normal=>exact⟨_,s1,by simp [exec,h1],h2,h3,h4⟩
  | ret=>exact⟨_,s1,by simp [exec,h1],h2,h3,h4⟩
  | exit id' =>
   simp only at h4
   split at h4
   ·rename_i hid;exact⟨_,s1,by simp [exec,h1,hid],h2,h3,h4⟩
   ·rename_i hid;exact⟨_,s1,by simp [exec,h1,hid],h2,h3,h4⟩
 | loop c ih =>
  intro st Q hd h
  have key:∀k (st:St),dstOk st.tm.length c=true→wpIter (wpx cf n c) k (toS st) Q→∃e st1,iter (exec cf n c) k st=some (e,st1)∧st1.tm.length=st.tm.length∧st1.base=st.base∧Q e (toS st1):=by
   intro k
   induction k with
   | zero=>intro st _ h;exact h.elim
   | succ k ihk =>
    intro st hd h
    obtain⟨e,s1,h1,h2,h3,h4⟩:=ih hd h
    cases e with
    | normal =>
     obtain⟨e2,s2,k1,k2,k3,k4⟩:=ihk s1 (by rw [h2];exact hd) h4
     exact⟨e2,s2,by simp [iter,h1,k1],k2.trans h2,k3.trans h3,k4⟩
    | exit id=>exact⟨_,s1,by simp [iter,h1],h2,h3,h4⟩
    | ret=>exact⟨_,s1,by simp [iter,h1],h2,h3,h4⟩
  exact key n st hd h
 | exit id=>intro st Q _ h;exact⟨_,st,rfl,rfl,rfl,h⟩
 | ret=>intro st Q _ h;exact⟨_,st,rfl,rfl,rfl,h⟩
 | rangeF f y m nt us =>
  intro st Q hd h
  have he:f.val (toS st).e=ev st.tm f:=by cases f<;>rfl
  have hk:keepE nt us (toS st).e=keepV nt us st.tm:=rfl
  have hd':st.tm.length=nt:=by simpa [dstOk] using hd
  unfold wpx at h
  rw [he,hk] at h
  split at h
  ·rename_i g lb hcal
   split at h
   ·rename_i hlt
    cases hcf:cf g (.yld (toS st).h.length y m (keepV nt us st.tm)::lb) ((toS st).h++[.loop 0]) with
    | none=>rw [hcf] at h;exact h.elim
    | some r =>
     rw [hcf] at h
     obtain⟨r,h'⟩:=r
     simp only [bindO_some] at h
     cases hle:loopEnd h'[(toS st).h.length]? with
     | none=>rw [hle] at h;exact h.elim
     | some e =>
      rw [hle] at h
      simp only [bindO_some] at h
      obtain⟨s,hs,hn⟩:∃s,h'[(toS st).h.length]?=some (.loop s)∧Ex.ofNum s=some e:=by
       unfold loopEnd at hle
       split at hle
       ·rename_i s hs;exact⟨s,hs,hle⟩
       ·cases hle
      refine⟨e,{ st with h:=h'.set st.h.length (.loop 2) },?_,rfl,rfl,h⟩
      have hcf':cf g (.yld st.h.length y m (keepV nt us st.tm)::lb) (st.h++[.loop 0])=some (r,h'):=hcf
      have hs':h'[st.h.length]?=some (.loop s):=hs
      simp only [exec,hcal]
      rw [if_pos ⟨hlt.1,hlt.2,hd'⟩,hcf']
      simp only [hs',hn,Option.map_some]
   ·exact h.elim
  ·exact h.elim
theorem wpIter_mono {f:SF→(Ex→SF→Prop)→Prop}{Q:Ex→SF→Prop}(I:Nat→SF→Prop) (hf:∀s Q Q',(∀e s,Q e s→Q' e s)→f s Q→f s Q')
  (hI:∀k s,I k s→f s fun e s'=>match e with|.normal=>∃k',k'<k∧I k' s'|e=>Q e s'):∀(n k:Nat) (s:SF),k<n→I k s→wpIter f n s Q
 | 0,k,s,hk,_=>by omega
 | n+1,k,s,hk,h=>by
  refine hf _ _ _ ?_ (hI k s h)
  intro e s' h'
  cases e with
  | normal =>
   obtain⟨k',hk',h2⟩:=h'
   exact wpIter_mono I hf hI n k' s' (by omega) h2
  | exit id=>exact h'
  | ret=>exact h'
theorem bindO_imp {α:Type}{o:Option α}{k k':α→Prop}(hk:∀a,k a→k' a) (h:bindO o k):bindO o k':=by
 cases o with
 | none=>exact h
 | some a=>exact hk a h
theorem wps_imp {cf:CallF}{o:XOper}{s:SF}{k k':SF→Prop}(hk:∀s,k s→k' s) (h:wps cf o s k):wps cf o s k':=by
 unfold wps at h ⊢
 split at h
 ·rename_i h1
  rw [if_pos h1]
  split at h
  ·rename_i h2;rw [if_pos h2];exact bindO_imp (fun r hr=>hk _ hr) h
  ·rename_i h2;rw [if_neg h2];exact hk _ h
 ·exact h.elim
theorem wpOps_imp {cf:CallF}:∀{ops:List XOper}{s:SF}{k k':SF→Prop},(∀s,k s→k' s)→wpOps cf ops s k→wpOps cf ops s k'
 | [],s,k,k',hk,h=>hk s h
 | o::r,s,k,k',hk,h=>wps_imp (fun s h=>wpOps_imp hk h) h
theorem wpOpsW_imp {cf:CallF}:∀{ops:List XOper}{s:SF}{k k':SF→Prop},(∀s,k s→k' s)→wpOpsW cf ops s k→wpOpsW cf ops s k'
 | [],s,k,k',hk,h=>hk s h
 | o::r,s,k,k',hk,h=>⟨h.1,wps_imp (fun s h=>wpOpsW_imp hk h) h.2⟩
theorem wpOpsC_imp {cf:CallF}{p:SF→XOper→Bool}:∀{ops:List XOper}{s:SF}{k k':SF→Prop},(∀s,k s→k' s)→wpOpsC cf p ops s k→wpOpsC cf p ops s k'
 | [],s,k,k',hk,h=>hk s h
 | o::r,s,k,k',hk,h=>⟨h.1,wps_imp (fun s h=>wpOpsC_imp hk h) h.2⟩
theorem wpx_imp {cf:CallF}{n:Nat}:∀(c:XC){s:SF}{Q Q':Ex→SF→Prop},(∀e s,Q e s→Q' e s)→wpx cf n c s Q→wpx cf n c s Q':=by
 intro c
 induction c with
 | skip=>intro s Q Q' hQ h;exact hQ _ _ h
 | reg ops pre d=>intro s Q Q' hQ h;exact wpOps_imp (fun s h=>hQ _ _ h) h
 | regw ops pre=>intro s Q Q' hQ h;exact wpOpsW_imp (fun s h=>hQ _ _ h) h
 | regr ops pre=>intro s Q Q' hQ h;exact wpOpsC_imp (fun s h=>hQ _ _ h) h
 | regm ops pre=>intro s Q Q' hQ h;exact wpOpsC_imp (fun s h=>hQ _ _ h) h
 | seq a b iha ihb =>
  intro s Q Q' hQ h
  refine iha (fun e s h=>?_) h
  cases e with
  | normal=>exact ihb hQ h
  | exit id=>exact hQ _ _ h
  | ret=>exact hQ _ _ h
 | cond c a b iha ihb =>
  intro s Q Q' hQ h
  unfold wpx condK at h ⊢
  split at h
  ·split at h
   ·rename_i t ht htt;simp only [htt,if_true];exact iha hQ h
   ·rename_i t ht htt;simp only [htt];exact ihb hQ h
  ·exact h.elim
 | block id c ih =>
  intro s Q Q' hQ h
  refine ih (fun e s h=>?_) h
  cases e with
  | normal=>exact hQ _ _ h
  | ret=>exact hQ _ _ h
  | exit id' =>
   simp only at h ⊢
   split at h
   ·rename_i hid;rw [if_pos hid];exact hQ _ _ h
   ·rename_i hid;rw [if_neg hid];exact hQ _ _ h
 | loop c ih =>
  intro s Q Q' hQ h
  have key:∀k (s:SF),wpIter (wpx cf n c) k s Q→wpIter (wpx cf n c) k s Q':=by
   intro k
   induction k with
   | zero=>intro s h;exact h
   | succ k ihk =>
    intro s h
    refine ih (fun e s h=>?_) h
    cases e with
    | normal=>exact ihk s h
    | exit id=>exact hQ _ _ h
    | ret=>exact hQ _ _ h
  exact key n s h
 | exit id=>intro s Q Q' hQ h;exact hQ _ _ h
 | ret=>intro s Q Q' hQ h;exact hQ _ _ h
 | rangeF f y m nt us =>
  intro s Q Q' hQ h
  unfold wpx at h ⊢
  split at h
  ·split at h
   ·rename_i hlt
    simp only [if_pos hlt]
    exact bindO_imp (fun r hr=>bindO_imp (fun e he=>hQ _ _ he) hr) h
   ·exact h.elim
  ·exact h.elim
theorem wpx_loop {cf:CallF}{n:Nat}{c:XC}{s:SF}{Q:Ex→SF→Prop}(I:Nat→SF→Prop) (k:Nat) (hk:k<n) (h0:I k s)
  (hI:∀k s,I k s→wpx cf n c s fun e s'=>match e with|.normal=>∃k',k'<k∧I k' s'|e=>Q e s'):wpx cf n (.loop c) s Q :=
 wpIter_mono (f:=wpx cf n c) I (fun s Q Q' h hw=>wpx_imp c h hw) hI n k s hk h0
theorem wpx_iter {cf:CallF}{n:Nat}{c:XC}{s:SF}{Q:Ex→SF→Prop}(I:Nat→SF→Prop) (k:Nat) (hk:k<n) (h0:I k s)
  (hI:∀k s,I k s→wpx cf n c s fun e s'=>match e with|.normal=>∃k',k'<k∧I k' s'|e=>Q e s'):wpIter (wpx cf n c) n s Q:=wpx_loop I k hk h0 hI
def resF (s:SF):XR→Option V
 | .t i=>some (s.e i)
 | .cell i n=>match s.e i with
  | .ref id o=>match s.h[id]? with
   | some (.cells cs)=>rdV cs o n
   | _=>none
  | _=>none
def resFs (s:SF):List XR→Option (List V)
 | []=>some []
 | r::rs=>match resF s r,resFs s rs with
  | some v,some vs=>some (v::vs)
  | _,_=>none
def rOk (m:Nat):XR→Bool
 | .t i=>decide (i<m)
 | .cell i _=>decide (i<m)
theorem resF_ok {st:St}{rs:List XR}(hr:rs.all (rOk st.tm.length)=true):resAll st rs=resFs (toS st) rs:=by
 induction rs with
 | nil=>rfl
 | cons r rs ih =>
  simp only [List.all_cons,bT] at hr
  have e:resV st r=resF (toS st) r:=by
   cases r with
   | t i =>
    have hi:i<st.tm.length:=by simpa [rOk] using hr.1
    simp [resV,resF,toS,toE,gE hi]
   | cell i n =>
    have hi:i<st.tm.length:=by simpa [rOk] using hr.1
    simp only [resV,resF,toS,toE,List.getD_eq_getElem?_getD,gE hi,Option.getD_some]
    generalize st.tm[i]=v
    cases v<;>rfl
  simp only [resAll,resFs,e,ih hr.2]
  cases resF (toS st) r<;>cases resFs (toS st) rs<;>rfl
def arg0 (args:List V):Nat→V:=fun i=>args.getD i undefV
theorem toE_start (xf:XF) (args:List V) (h:List O):toS (start xf args h)=⟨arg0 args,h,h.length,0⟩:=by
 simp only [toS,start]
 congr 1
 funext i
 simp only [toE,arg0,List.getD_eq_getElem?_getD,List.getElem?_append,List.getElem?_replicate]
 split
 ·rfl
 ·rename_i hi
  rw [List.getElem?_eq_none (by omega)]
  split<;>rfl
def xfOk (xf:XF) (k:Nat):Bool:=decide (k≤xf.ntm)&&dstOk xf.ntm xf.body&&xf.res.all (rOk xf.ntm)
def Fin (P:List V→List O→Prop) (xf:XF):Ex→SF→Prop
 | .exit _,_=>False
 | _,s=>bindO (resFs s xf.res) fun vs=>P vs s.h
theorem exec_of {cf:CallF}{n:Nat}{xf:XF}{args:List V}{h:List O}(hx:xfOk xf args.length=true){P:List V→List O→Prop}(hw:wpx cf n xf.body ⟨arg0 args,h,h.length,0⟩ (Fin P xf)) :
  ∃e s vs,exec cf n xf.body (start xf args h)=some (e,s)∧(∀id,e≠.exit id)∧resAll s xf.res=some vs∧s.base=h.length∧P vs s.h:=by
 simp only [xfOk,bT,dT] at hx
 have hl:(start xf args h).tm.length=xf.ntm:=by simp [start];omega
 rw [← toE_start xf args h] at hw
 obtain⟨e,s,h1,h2,h3,h4⟩:=wpx_ok xf.body (st:=start xf args h) (by rw [hl];exact hx.1.2) hw
 have hr:=resF_ok (st:=s) (rs:=xf.res) (by rw [h2,hl];exact hx.2)
 cases e with
 | exit id=>exact h4.elim
 | normal =>
  simp only [Fin] at h4
  cases hv:resFs (toS s) xf.res with
  | none=>rw [hv] at h4;exact h4.elim
  | some vs=>rw [hv] at h4;exact⟨_,s,vs,h1,by simp,by rw [hr,hv],h3,h4⟩
 | ret =>
  simp only [Fin] at h4
  cases hv:resFs (toS s) xf.res with
  | none=>rw [hv] at h4;exact h4.elim
  | some vs=>rw [hv] at h4;exact⟨_,s,vs,h1,by simp,by rw [hr,hv],h3,h4⟩
theorem runF_pure {cf:CallF}{n:Nat}{xf:XF}{args:List V}{h:List O}{r:V}(hx:xfOk xf args.length=true) (hp:xf.pure=true) (he:xf.esc=false) (hl:V.lows 0 (args.map V.vw2)=true)
  (hw:wpx cf n xf.body ⟨arg0 (args.map V.vw2),[],0,0⟩ (Fin (fun vs _=>(resOf vs).vw=r∧r.low 0=true) xf)):runF cf n xf args h=some (r,h):=by
 have:=exec_of (cf:=cf) (n:=n) (xf:=xf) (args:=args.map V.vw2) (h:=[]) (by simpa using hx) hw
 obtain⟨e,s,vs,h1,h2,h3,h4,h5,h6⟩:=this
 unfold runF
 rw [if_pos hp,if_pos hl,if_neg (by simp [he]),h1]
 simp only [List.length_nil] at h4
 cases e with
 | exit id=>exact absurd rfl (h2 id)
 | normal=>simp [fin,h3,h5,h6,h4]
 | ret=>simp [fin,h3,h5,h6,h4]
theorem runF_at {cf:CallF}{n:Nat}{xf:XF}{args:List V}{h h':List O}{r:V}(hx:xfOk xf args.length=true) (hp:xf.pure=false) (he:xf.esc=false)
  (hw:wpx cf n xf.body ⟨arg0 (args.map V.vw2),h,h.length,0⟩ (Fin (fun vs s=>(resOf vs).vw=r∧r.low h.length=true∧s.take h.length=h'∧h'.all (O.low h.length)=true) xf)):runF cf n xf args h=some (r,h'):=by
 have:=exec_of (cf:=cf) (n:=n) (xf:=xf) (args:=args.map V.vw2) (h:=h) (by simpa using hx) hw
 obtain⟨e,s,vs,h1,h2,h3,h4,h5,h6,h7,h8⟩:=this
 unfold runF
 rw [if_neg (by simp [hp]),if_neg (show ¬xf.esc=true by simp [he]),h1]
 cases e with
 | exit id=>exact absurd rfl (h2 id)
 | normal =>
  subst h7
  simp only [fin,h3,he,Bool.false_eq_true,if_false,h5,h4,h6,if_true]
  rw [if_pos h8]
 | ret =>
  subst h7
  simp only [fin,h3,he,Bool.false_eq_true,if_false,h5,h4,h6,if_true]
  rw [if_pos h8]
theorem round_at {cf:CallF}{n:Nat}{ps:List Nat}{asg body:XC}{k:Nat}{vs caps tm:List V}{h h':List O}{b:Bool}(hp:putAll ps vs caps=some tm) (ha:dstOk tm.length asg=true) (hb:dstOk tm.length body=true)
  (hw:wpx cf n asg ⟨toE tm,h,h.length,0⟩ fun e s=>e=.normal∧s.h[k]?=some (.loop 0)∧wpx cf n body ⟨s.e,s.h.set k (.loop 1),s.base,s.rb⟩ fun e s =>
   s.h[k]?=some (.loop 1)∧(s.h.set k (.loop e.num)).take h.length=h'∧(h'.all (O.low h.length))=true∧(e.num==0)=b):runRound cf n ps asg body k vs caps h=some (.c (.bool b),h'):=by
 obtain⟨e,s1,h1,h2,h3,rfl,h5,h6⟩:=wpx_ok asg (st:={ tm:=tm,h:=h,base:=h.length,rb:=0 }) ha hw
 obtain⟨e2,s2,k1,k2,k3,k4,k5,k6,k7⟩:=wpx_ok body (st:={ s1 with h:=s1.h.set k (.loop 1) }) (by simp only;rw [h2];exact hb) h6
 have h5':s1.h[k]?=some (.loop 0):=h5
 have k4':s2.h[k]?=some (.loop 1):=k4
 have k5':(s2.h.set k (.loop e2.num)).take h.length=h':=k5
 unfold runRound
 simp only [hp,h1,h5',k1,k4',k5',k6,k7,if_true]
theorem upd_at (e:Nat→V) (d:Nat) (v:V) (t:Nat):upd e d v t=if t=d then v else e t:=rfl
theorem arg0_at (args:List V) (i:Nat):arg0 args i=args.getD i undefV:=rfl
theorem cells_agg (cs:List V):V.cells (.agg cs)=cs:=rfl
theorem cells_c (x:Value):V.cells (.c x)=[.c x]:=rfl
theorem cells_sl (us:List V) (i:SI):V.cells (.sl us i)=[.sl us i]:=rfl
theorem cells_clo (f:Nat) (cs:List V):V.cells (.clo f cs)=[.clo f cs]:=rfl
theorem rd_none (a:V) (cs:List V) (o:Nat):rdV (a::cs) o none=(a::cs)[o]?:=rfl
theorem rd_some (a:V) (cs:List V) (o n:Nat):rdV (a::cs) o (some n)=if o+n≤(a::cs).length then some (.agg (((a::cs).drop o).take n)) else none:=rfl
theorem okc_agg (cs:List V):okc (.agg cs)=true:=rfl
theorem okc_sl (us:List V) (i:SI):okc (.sl us i)=true:=rfl
theorem okc_clo (f:Nat) (cs:List V):okc (.clo f cs)=true:=rfl
theorem okc_int (k:IntKind) (n:Int):okc (.c (.int k n))=true:=rfl
theorem okc_bool (b:Bool):okc (.c (.bool b))=true:=rfl
theorem okc_str (s:ByteArray):okc (.c (.string s))=true:=rfl
theorem vw1_c (x:Value):(V.c x).vw1=.c x:=rfl
theorem vw1_sl (us:List V) (i:SI):(V.sl us i).vw1=.sl us .any:=rfl
theorem vw2_c (x:Value):(V.c x).vw2=.c x:=rfl
theorem vw2_sl (us:List V) (i:SI):(V.sl us i).vw2=.sl us .any:=rfl
theorem vw2_agg (cs:List V):(V.agg cs).vw2=.agg (cs.map V.vw1):=rfl
theorem vw2_ref (i o:Nat):(V.ref i o).vw2=.ref i o:=rfl
theorem vw2_row (i o n:Nat) (z:Option Nat):(V.row i o n z).vw2=.row i o n z:=rfl
theorem vw_c (x:Value):(V.c x).vw=.c x:=rfl
theorem vw_full (us:List V):(V.sl us .full).vw=.sl us .full:=rfl
theorem vw_any (us:List V):(V.sl us .any).vw=.sl us .any:=rfl
theorem vw_nil (us:List V):(V.sl us .nil).vw=.sl us .nil:=rfl
theorem vw_tok (us:List V) (k:Nat):(V.sl us (.tok k)).vw=.sl us .any:=rfl
theorem vw_agg (cs:List V):(V.agg cs).vw=.agg (cs.map V.vw1):=rfl
theorem vw_tup (vs:List V):(V.tup vs).vw=.tup (vs.map V.vw2):=rfl
theorem res_one (v:V):resOf [v]=v:=rfl
theorem res_two (a b:V) (l:List V):resOf (a::b::l)=.tup (a::b::l):=rfl
theorem low_c (m:Nat) (x:Value):V.low m (.c x)=true:=by simp [V.low]
theorem callee_f (q:Nat):callee (.c (.func (.func q) #[] #[]))=some (q,[]):=by simp [callee]
theorem callee_clo (q:Nat) (cs:List V):callee (.clo q cs)=some (q,cs):=rfl
theorem binV_int (op:BinOp) (k:IntKind) (a b:Int):binV op 0 (.c (.int k a)) (.c (.int k b))=binI op k a b:=by simp [binV]
theorem binV_str (op:BinOp) (a b:ByteArray):binV op 0 (.c (.string a)) (.c (.string b))=binS op a b:=rfl
theorem binV_beq (a b:Bool):binV .eql 1 (.c (.bool a)) (.c (.bool b))=some (.c (.bool (a==b))):=rfl
theorem binV_bne (a b:Bool):binV .neq 1 (.c (.bool a)) (.c (.bool b))=some (.c (.bool !(a==b))):=rfl
theorem int_beq0 (n:Nat):((n:Int)==0)=(n==0):=by
 cases n<;>rfl
def empB (t:ByteArray):Bool:=t.toList==ByteArray.toList ⟨#[]⟩
theorem binS_emp (t:ByteArray):binS .eql t ⟨#[]⟩=some (.c (.bool (empB t))):=rfl
theorem ev_val (e:Nat→V) (tm:List V) (x:A):ev tm (x.sub e)=x.val e:=by cases x<;>rfl
theorem ev_vals (e:Nat→V) (tm:List V) (xs:List A):(xs.map (A.sub e)).map (ev tm)=xs.map (A.val e):=by
 rw [List.map_map]
 exact List.map_congr_left fun x _=>ev_val e tm x
def fillE (e:Nat→V):List V→List (Nat × Nat × A)→Option (List V)
 | z,[]=>some z
 | z,(o,n,x)::r=>if okc (x.val e).vwf=true∧(x.val e).vwf.cells.length=n∧o+n≤z.length then fillE e (splice z o (x.val e).vwf.cells) r else none
theorem fill_val (e:Nat→V) (tm:List V):∀(ps:List (Nat × Nat × A)) (z:List V),fillV z tm (ps.map fun p=>(p.1,p.2.1,p.2.2.sub e))=fillE e z ps
 | [],z=>rfl
 | (o,n,x)::r,z=>by
  simp only [List.map_cons,fillV,ev_val,fillE]
  split
  ·exact fill_val e tm r _
  ·rfl
def optE (e:Nat→V) (d:Int):Option A→Option Int
 | none=>some d
 | some x=>idx (x.val e)
theorem optE_val (e:Nat→V) (tm:List V) (d:Int) (x:Option A):optIdx tm d (x.map (A.sub e))=optE e d x:=by
 cases x with
 | none=>rfl
 | some x=>simp only [Option.map_some,optIdx,optE,ev_val]
abbrev R2:=Option (V × List O)
def pickF:V→V→V→List O→R2
 | .c (.bool t),a,b,h=>some (if t=true then a else b,h)
 | _,_,_,_=>none
theorem pickF_b (t:Bool) (a b:V) (h:List O):pickF (.c (.bool t)) a b h=some (if t=true then a else b,h):=rfl
def boxF:Option O→Bool→V × List O→R2
 | some .dead,true,r=>some r
 | _,_,_=>none
theorem boxF_dead (r:V × List O):boxF (some .dead) true r=some r:=rfl
def loadO:Option O→Nat→Option Nat→List O→R2
 | some (.cells cs),o,n,h=>(rdV cs o n).map fun v=>(v,h)
 | _,_,_,_=>none
theorem loadO_cells (cs:List V) (o:Nat) (n:Option Nat) (h:List O):loadO (some (.cells cs)) o n h=(rdV cs o n).map fun v=>(v,h):=rfl
def loadF:V→Option Nat→List O→R2
 | .ref id o,n,h=>loadO h[id]? o n h
 | .ptr cs o,n,h=>(rdV cs o n).map fun v=>(v,h)
 | _,_,_=>none
theorem loadF_ref (id o:Nat) (n:Option Nat) (h:List O):loadF (.ref id o) n h=loadO h[id]? o n h:=rfl
theorem loadF_ptr (cs:List V) (o:Nat) (n:Option Nat) (h:List O):loadF (.ptr cs o) n h=(rdV cs o n).map fun v=>(v,h):=rfl
def storeO:Option O→Nat→Nat→Nat→V→List O→R2
 | some (.cells cs),id,o,n,v,h=>if okc v=true∧v.cells.length=n∧o+n≤cs.length then some (undefV,h.set id (.cells (splice cs o v.cells))) else none
 | _,_,_,_,_,_=>none
theorem storeO_cells (cs:List V) (id o n:Nat) (v:V) (h:List O):storeO (some (.cells cs)) id o n v h=if okc v=true∧v.cells.length=n∧o+n≤cs.length then some (undefV,h.set id (.cells (splice cs o v.cells))) else none:=rfl
def storeT:Option O→Nat→Nat→Nat→Nat→V→List O→R2
 | some (.tokc m' z cs),k,m,o,n,v,h=>if m'=m∧okc v=true∧v.cells.length=n∧o+n≤cs.length then some (undefV,h.set k (.tokc m z (splice cs o v.cells))) else none
 | _,_,_,_,_,_,_=>none
theorem storeT_tokc (m' z:Nat) (cs:List V) (k m o n:Nat) (v:V) (h:List O):storeT (some (.tokc m' z cs)) k m o n v h=if m'=m∧okc v=true∧v.cells.length=n∧o+n≤cs.length then some (undefV,h.set k (.tokc m z (splice cs o v.cells))) else none:=rfl
def storeF:V→Nat→V→List O→R2
 | .ref id o,n,v,h=>storeO h[id]? id o n v h
 | .tref k m o,n,v,h=>storeT h[k]? k m o n v h
 | _,_,_,_=>none
theorem storeF_tref (k m o n:Nat) (v:V) (h:List O):storeF (.tref k m o) n v h=storeT h[k]? k m o n v h:=rfl
theorem storeF_ref (id o n:Nat) (v:V) (h:List O):storeF (.ref id o) n v h=storeO h[id]? id o n v h:=rfl
def notF:V→List O→R2
 | .c (.bool b),h=>some (.c (.bool !b),h)
 | _,_=>none
theorem notF_b (b:Bool) (h:List O):notF (.c (.bool b)) h=some (.c (.bool !b),h):=rfl
def negF:V→List O→R2
 | .c (.int k n),h=>some (.c (.int k (k.wrap (0-n))),h)
 | _,_=>none
def faF:Nat→V→List O→R2
 | o,.ref id p,h=>some (.ref id (p+o),h)
 | o,.ptr cs p,h=>some (.ptr cs (p+o),h)
 | o,.tref k n p,h=>some (.tref k n (p+o),h)
 | _,_,_=>none
theorem faF_tref (o k n p:Nat) (h:List O):faF o (.tref k n p) h=some (.tref k n (p+o),h):=rfl
theorem faF_ref (o id p:Nat) (h:List O):faF o (.ref id p) h=some (.ref id (p+o),h):=rfl
theorem faF_ptr (o:Nat) (cs:List V) (p:Nat) (h:List O):faF o (.ptr cs p) h=some (.ptr cs (p+o),h):=rfl
def fieldF:Nat→Option Nat→V→List O→R2
 | o,n,.agg cs,h=>(rdV cs o n).map fun v=>(v,h)
 | _,_,_,_=>none
def elF:Nat→Option V→List O→R2
 | z,some u,h=>if u.cells.length=z then some (.ptr u.cells 0,h) else none
 | _,none,_=>none
theorem elF_some (z:Nat) (u:V) (h:List O):elF z (some u) h=if u.cells.length=z then some (.ptr u.cells 0,h) else none:=rfl
def iaF:Nat→V→Option Int→List O→R2
 | z,.sl us _,some n,h=>if 0≤n∧n<us.length then elF z us[n.toNat]? h else none
 | z,.row id off n zz,some k,h=>if 0≤k∧k<n∧zc zz=z then some (.ref id (off+k.toNat*z),h) else none
 | z,.tsl t n zz,some k,h=>if 0≤k∧k<n∧zc zz=z then some (.tref t n (k.toNat*z),h) else none
 | _,_,_,_=>none
theorem iaF_sl (z:Nat) (us:List V) (i:SI) (n:Int) (h:List O):iaF z (.sl us i) (some n) h=if 0≤n∧n<us.length then elF z us[n.toNat]? h else none:=rfl
theorem iaF_tsl (z t n:Nat) (zz:Option Nat) (k:Int) (h:List O):iaF z (.tsl t n zz) (some k) h=if 0≤k∧k<n∧zc zz=z then some (.tref t n (k.toNat*z),h) else none:=rfl
theorem iaF_row (z id off n:Nat) (zz:Option Nat) (k:Int) (h:List O):iaF z (.row id off n zz) (some k) h=if 0≤k∧k<n∧zc zz=z then some (.ref id (off+k.toNat*z),h) else none:=rfl
def ixF:V→Option Int→List O→R2
 | .c (.string t),some n,h=>if 0≤n then (t[n.toNat]?).map fun b=>(.c (.int .u8 b.toNat),h) else none
 | _,_,_=>none
theorem ixF_s (t:ByteArray) (n:Int) (h:List O):ixF (.c (.string t)) (some n) h=if 0≤n then (t[n.toNat]?).map fun b=>(.c (.int .u8 b.toNat),h) else none:=rfl
def ssF:V→(ByteArray→Option V)→List O→R2
 | .c (.string t),f,h=>(f t).map fun v=>(v,h)
 | _,_,_=>none
theorem ssF_s (t:ByteArray) (f:ByteArray→Option V) (h:List O):ssF (.c (.string t)) f h=(f t).map fun v=>(v,h):=rfl
def cutS:ByteArray→Option Int→Option Int→Option V
 | s,some l,some h=>if 0≤l∧l≤h∧h≤s.size then some (.c (.string (s.extract l.toNat h.toNat))) else none
 | _,_,_=>none
theorem cutS_s (s:ByteArray) (l h:Int):cutS s (some l) (some h)=if 0≤l∧l≤h∧h≤s.size then some (.c (.string (s.extract l.toNat h.toNat))) else none:=rfl
def cutL:List V→Nat→Option Int→Option Int→Option V
 | us,z,some l,some h=>if 0≤l∧l≤h∧h≤us.length∧hz z us=true then some (.sl ((us.take h.toNat).drop l.toNat) .any) else none
 | _,_,_,_=>none
theorem cutL_s (us:List V) (z:Nat) (l h:Int):cutL us z (some l) (some h)=if 0≤l∧l≤h∧h≤us.length∧hz z us=true then some (.sl ((us.take h.toNat).drop l.toNat) .any) else none:=rfl
def cutR:Nat→Nat→Nat→Option Nat→Nat→Option Int→Option Int→Option V
 | id,off,n,zz,z,some l,some h=>if zc zz=z then if 0≤l∧l≤h∧h≤n then some (.row id (off+l.toNat*z) (h.toNat-l.toNat) zz) else none else none
 | _,_,_,_,_,_,_=>none
def slF:V→Nat→(Int→Option Int)→Option Int→List O→R2
 | .sl us _,z,hi,lo,h=>(cutL us z lo (hi us.length)).map fun v=>(v,h)
 | .row id off n zz,z,hi,lo,h=>(cutR id off n zz z lo (hi n)).map fun v=>(v,h)
 | _,_,_,_,_=>none
theorem slF_sl (us:List V) (i:SI) (z:Nat) (hi:Int→Option Int) (lo:Option Int) (h:List O):slF (.sl us i) z hi lo h=(cutL us z lo (hi us.length)).map fun v=>(v,h):=rfl
theorem slF_row (id off n:Nat) (zz:Option Nat) (z:Nat) (hi:Int→Option Int) (lo:Option Int) (h:List O):slF (.row id off n zz) z hi lo h=(cutR id off n zz z lo (hi n)).map fun v=>(v,h):=rfl
def extF:V→Nat→List O→R2
 | .tup vs,i,h=>(vs[i]?).map fun v=>(v,h)
 | _,_,_=>none
theorem extF_t (vs:List V) (i:Nat) (h:List O):extF (.tup vs) i h=(vs[i]?).map fun v=>(v,h):=rfl
def lenF:V→List O→R2
 | .sl us _,h=>some (.c (.int .i64 us.length),h)
 | .row _ _ n _,h=>some (.c (.int .i64 n),h)
 | .tsl _ n _,h=>some (.c (.int .i64 n),h)
 | _,_=>none
theorem lenF_sl (us:List V) (i:SI) (h:List O):lenF (.sl us i) h=some (.c (.int .i64 us.length),h):=rfl
theorem lenF_row (id off n:Nat) (zz:Option Nat) (h:List O):lenF (.row id off n zz) h=some (.c (.int .i64 n),h):=rfl
def lenS:V→List O→R2
 | .c (.string t),h=>some (.c (.int .i64 t.size),h)
 | _,_=>none
theorem lenS_s (t:ByteArray) (h:List O):lenS (.c (.string t)) h=some (.c (.int .i64 t.size),h):=rfl
def grow (sb al b:Nat) (z:Option Nat) (rw:Bool) (h:List O) (us:List V):SI→List V→R2
 | i,[]=>some (.sl us i,h)
 | .nil,ws=>match h[al]? with
  | some .dead=>if rw then some (.tsl al (us.length+ws.length) z,h.set al (.tokc (us.length+ws.length) (zc z) (flats (us++ws)))) else some (.sl (us++ws) (.tok al),h.set al (.tok (us.length+ws.length) (zc z)))
  | some .want=>if rw then none else some (.sl (us++ws) (.tok (freeSlot h sb al)),h.set (freeSlot h sb al) (.tok (us.length+ws.length) (zc z)))
  | _=>none
 | .full,ws=>match h[al]? with
  | some .dead=>if rw then (match us with
    | []=>some (.row al 0 (us.length+ws.length) z,h.set al (.cells (flats (us++ws))))
    | _::_=>some (.tsl al (us.length+ws.length) z,h.set al (.tokc (us.length+ws.length) (zc z) (flats (us++ws))))) else some (.sl (us++ws) (.tok al),h.set al (.tok (us.length+ws.length) (zc z)))
  | some .want=>if rw then none else some (.sl (us++ws) (.tok (freeSlot h sb al)),h.set (freeSlot h sb al) (.tok (us.length+ws.length) (zc z)))
  | _=>none
 | .tok k,ws=>match h[k]? with
  | some (.tok n z')=>if n=us.length∧z'=zc z then some (.sl (us++ws) (.tok k),h.set k (.tok (us.length+ws.length) (zc z))) else none
  | _=>none
 | _,_=>none
def growT (k n:Nat) (z:Option Nat) (h:List O):List V→R2
 | []=>some (.tsl k n z,h)
 | ws=>match h[k]? with
  | some (.tokc m zz cs)=>if m=n∧zz=zc z then some (.tsl k (n+ws.length) z,h.set k (.tokc (n+ws.length) (zc z) (cs++flats ws))) else none
  | _=>none
def appF (sb al b:Nat) (z:Option Nat) (rw:Bool) (h:List O):V→Option (List V)→R2
 | .tsl k n zz,some ws=>if rw=true∧zz=z∧(n+ws.length)*b≤140737488355328∧n+ws.length≤140737488355328∧hz (zc z) ws=true then growT k n z h ws else none
 | .sl us i,some ws=>if (us.length+ws.length)*b≤140737488355328∧us.length+ws.length≤140737488355328∧hz (zc z) us=true∧hz (zc z) ws=true then grow sb al b z rw h us i ws else none
 | _,_=>none
theorem appF_sl (sb al b:Nat) (z:Option Nat) (rw:Bool) (h:List O) (us ws:List V) (i:SI):appF sb al b z rw h (.sl us i) (some ws)=if (us.length+ws.length)*b≤140737488355328∧us.length+ws.length≤140737488355328∧hz (zc z) us=true∧hz (zc z) ws=true then grow sb al b z rw h us i ws else none:=rfl
theorem appF_tsl (sb al b:Nat) (z:Option Nat) (rw:Bool) (h:List O) (k n:Nat) (zz:Option Nat) (ws:List V):appF sb al b z rw h (.tsl k n zz) (some ws)=if rw=true∧zz=z∧(n+ws.length)*b≤140737488355328∧n+ws.length≤140737488355328∧hz (zc z) ws=true then growT k n z h ws else none:=rfl
theorem growT_cons (k n:Nat) (z:Option Nat) (h:List O) (w:V) (ws:List V) (cs:List V) (hk:h[k]?=some (.tokc n (zc z) cs)):growT k n z h (w::ws)=some (.tsl k (n+(w::ws).length) z,h.set k (.tokc (n+(w::ws).length) (zc z) (cs++flats (w::ws)))):=by simp [growT,hk]
theorem grow_none (sb al b:Nat) (z:Option Nat) (rw:Bool) (h:List O) (us:List V) (i:SI):grow sb al b z rw h us i []=some (.sl us i,h):=by cases i<;>rfl
theorem grow_nil (sb al b:Nat) (z:Option Nat) (h:List O) (us ws:List V) (w:V) (hd:h[al]?=some .dead):grow sb al b z false h us .nil (w::ws)=some (.sl (us++w::ws) (.tok al),h.set al (.tok (us.length+(w::ws).length) (zc z))):=by simp [grow,hd]
theorem grow_full (sb al b:Nat) (z:Option Nat) (h:List O) (us ws:List V) (w:V) (hd:h[al]?=some .dead):grow sb al b z false h us .full (w::ws)=some (.sl (us++w::ws) (.tok al),h.set al (.tok (us.length+(w::ws).length) (zc z))):=by simp [grow,hd]
theorem grow_tnil (sb al b:Nat) (z:Option Nat) (h:List O) (us ws:List V) (w:V) (hd:h[al]?=some .dead):grow sb al b z true h us .nil (w::ws)=some (.tsl al (us.length+(w::ws).length) z,h.set al (.tokc (us.length+(w::ws).length) (zc z) (flats (us++w::ws)))):=by simp [grow,hd]
theorem grow_nilW (sb al b:Nat) (z:Option Nat) (h:List O) (us ws:List V) (w:V) (hd:h[al]?=some .want):grow sb al b z false h us .nil (w::ws)=some (.sl (us++w::ws) (.tok (freeSlot h sb al)),h.set (freeSlot h sb al) (.tok (us.length+(w::ws).length) (zc z))):=by simp [grow,hd]
theorem grow_fullW (sb al b:Nat) (z:Option Nat) (h:List O) (us ws:List V) (w:V) (hd:h[al]?=some .want):grow sb al b z false h us .full (w::ws)=some (.sl (us++w::ws) (.tok (freeSlot h sb al)),h.set (freeSlot h sb al) (.tok (us.length+(w::ws).length) (zc z))):=by simp [grow,hd]
theorem grow_tok (sb al b k:Nat) (z:Option Nat) (rw:Bool) (h:List O) (us ws:List V) (w:V) (hk:h[k]?=some (.tok us.length (zc z))):grow sb al b z rw h us (.tok k) (w::ws)=some (.sl (us++w::ws) (.tok k),h.set k (.tok (us.length+(w::ws).length) (zc z))):=by simp [grow,hk]
def convF:IntKind→V→List O→R2
 | k,.c (.int _ n),h=>some (.c (.int k (k.wrap n)),h)
 | _,_,_=>none
def calR:R2→Nat→R2
 | some (r,h'),m=>if m≤h'.length then some (r,h') else none
 | none,_=>none
theorem calR_s (r:V) (h':List O) (m:Nat):calR (some (r,h')) m=if m≤h'.length then some (r,h') else none:=rfl
theorem longer_calR (h:List O) (o:R2):longer h o=calR o h.length:=by
 cases o with
 | none=>rfl
 | some r=>rfl
theorem calV_f (cf:CallF) (q:Nat) (args:List V) (h:List O):callV cf (.c (.func (.func q) #[] #[])) args h=if q<rid then calR (cf q args h) h.length else none:=by
 rw [callV_fn (f:=q) (caps:=[]) (by simp [callee]),List.append_nil,longer_calR]
theorem calV_clo (cf:CallF) (q:Nat) (caps args:List V) (h:List O):callV cf (.clo q caps) args h=if q<rid then calR (cf q (args++caps) h) h.length else none:=by
 rw [callV_fn (f:=q) (caps:=caps) rfl,longer_calR]
theorem calV_yld (cf:CallF) (k y m:Nat) (caps args:List V) (h:List O):callV cf (.yld k y m caps) args h=if rid≤y∧args.length=m then calR (cf y (.c (.int .i64 k)::(args++caps)) h) h.length else none:=by
 simp only [callV,longer_calR]
@[simp] theorem rid_eq:rid=1000000:=rfl
def mmkF:Option O→V × List O→R2
 | some .dead,r=>some r
 | _,_=>none
theorem mmkF_dead (r:V × List O):mmkF (some .dead) r=some r:=rfl
def lookO:Option O→Option (List Nat)→Value→V→Bool→List O→R2
 | some (.mapo ks vs),kd,t,z,ok,h=>(mlook kd ks vs t).map fun r=>(mres z ok r,h)
 | _,_,_,_,_,_=>none
theorem lookO_m (ks:List Value) (vs:List V) (kd:Option (List Nat)) (t:Value) (z:V) (ok:Bool) (h:List O):lookO (some (.mapo ks vs)) kd t z ok h=(mlook kd ks vs t).map fun r=>(mres z ok r,h):=rfl
def lookX:V→Option (List Nat)→Value→V→Bool→List O→R2
 | .fmp ks vs,none,t,z,ok,h=>(mlook none ks vs t).map fun r=>(mres z ok r,h)
 | .mref id,kd,t,z,ok,h=>lookO h[id]? kd t z ok h
 | _,_,_,_,_,_=>none
def keyF:Option Value→(Value→R2)→R2
 | some t,f=>f t
 | none,_=>none
theorem keyF_some (t:Value) (f:Value→R2):keyF (some t) f=f t:=rfl
def lookF (x:V) (kd:Option (List Nat)) (k:V) (z:V) (ok:Bool) (h:List O):R2:=keyF (keyV kd k) fun t=>lookX x kd t z ok h
theorem keyV_str (t:ByteArray):keyV none (.c (.string t))=some (.string t):=rfl
theorem keyV_agg (l:List Nat) (cs:List V) (xs:List Value) (h:cellsV cs=some xs) (h2:lSame l xs xs=some true):keyV (some l) (.agg cs)=some (.agg xs.toArray):=by simp only [keyV,h,h2,if_true]
theorem lookF_fmp (ks:List Value) (vs:List V) (k:V) (z:V) (ok:Bool) (h:List O):lookF (.fmp ks vs) none k z ok h=keyF (keyV none k) fun t=>(mlook none ks vs t).map fun r=>(mres z ok r,h):=rfl
theorem lookF_mref (id:Nat) (kd:Option (List Nat)) (k:V) (z:V) (ok:Bool) (h:List O):lookF (.mref id) kd k z ok h=keyF (keyV kd k) fun t=>lookO h[id]? kd t z ok h:=by
 simp only [lookF]
 cases kd<;>rfl
def updM:Option O→Nat→Option (List Nat)→Value→V→List O→R2
 | some (.mapo ks vs),id,kd,t,v,h=>(mput kd ks vs t v).map fun r=>(undefV,h.set id (.mapo r.1 r.2))
 | _,_,_,_,_,_=>none
theorem updM_m (ks:List Value) (vs:List V) (id:Nat) (kd:Option (List Nat)) (t:Value) (v:V) (h:List O):updM (some (.mapo ks vs)) id kd t v h=(mput kd ks vs t v).map fun r=>(undefV,h.set id (.mapo r.1 r.2)):=rfl
def updX:V→Option (List Nat)→Value→V→List O→R2
 | .mref id,kd,t,v,h=>updM h[id]? id kd t v h
 | _,_,_,_,_=>none
def updF (m:V) (kd:Option (List Nat)) (k v:V) (h:List O):R2:=keyF (keyV kd k) fun t=>updX m kd t v h
theorem updF_m (id:Nat) (kd:Option (List Nat)) (k v:V) (h:List O):updF (.mref id) kd k v h=keyF (keyV kd k) fun t=>updM h[id]? id kd t v h:=rfl
def nckF:V→List O→R2
 | .ref id o,h=>some (.ref id o,h)
 | .ptr cs o,h=>some (.ptr cs o,h)
 | .clo f caps,h=>some (.clo f caps,h)
 | .bnd f id o,h=>some (.bnd f id o,h)
 | .c (.func (.func f) a b),h=>some (.c (.func (.func f) a b),h)
 | _,_=>none
theorem nckF_ref (id o:Nat) (h:List O):nckF (.ref id o) h=some (.ref id o,h):=rfl
theorem idx_int (k:IntKind) (n:Int):idx (.c (.int k n))=some n:=rfl
theorem mmS_int (m:Bool) (k k':IntKind) (a b:Int):mmStep m (some (.c (.int k a))) (.c (.int k' b))=some (.c (.int k (if m then (if b > a then b else a) else (if b<a then b else a)))):=rfl
theorem mmV_two (m:Bool) (v w:V):mmV m [v,w]=mmStep m (some v) w:=rfl
theorem srcV_sl (h:List O) (us:List V) (i:SI):srcV h (.sl us i)=some us:=rfl
theorem hz_nil (z:Nat):hz z []=true:=rfl
theorem hz_cons (z:Nat) (u:V) (us:List V):hz z (u::us)=(u.cells.length==z):=rfl
theorem zc_some (k:Nat):zc (some k)=k:=rfl
theorem zc_none:zc none=1:=rfl
section
variable {cf:CallF}{s:SF}
theorem actF_mv (x:A):actF cf s (.mv x)=some (x.val s.e,s.h):=by simp only [actF,XOp.sub,act,pureV,ev_val,Option.map_some]
theorem actF_pick (c a b:A):actF cf s (.pick c a b)=pickF (c.val s.e) (a.val s.e) (b.val s.e) s.h:=by
 simp only [actF,XOp.sub,act,pureV,ev_val]
 cases c.val s.e with
 | c y=>cases y <;> rfl
 | _=>rfl
theorem actF_alloc (al:Nat) (z:List V):actF cf s (.alloc al z)=some (.ref (s.rb+al) 0,s.h):=rfl
theorem actF_box (al:Nat) (x:A):actF cf s (.box al x)=boxF s.h[s.rb+al]? (okc (x.val s.e)) (.ref (s.rb+al) 0,s.h.set (s.rb+al) (.cells (x.val s.e).cells)):=by
 simp only [actF,XOp.sub,act,ev_val]
 cases s.h[s.rb+al]? with
 | none=>cases okc (x.val s.e) <;> rfl
 | some o=>cases o <;> cases okc (x.val s.e) <;> rfl
theorem actF_build (z:List V) (ps:List (Nat × Nat × A)):actF cf s (.build z ps)=(fillE s.e z ps).map fun cs=>(.agg cs,s.h):=by
 simp only [actF,XOp.sub,act,pureV,fill_val,Option.map_map]
 rfl
theorem actF_bslice (al z:Nat) (ps:List A):actF cf s (.bslice al z ps)=if (ps.map fun x=>(x.val s.e).vw2).all (fun u=>okc u&&u.cells.length==z)=true then some (.sl (ps.map fun x=>(x.val s.e).vw2) .full,s.h) else none:=by
 simp only [actF,XOp.sub,act,pureV,List.map_map,Function.comp_def,ev_val]
 split<;>rfl
theorem actF_load (n:Option Nat) (x:A):actF cf s (.load n x)=loadF (x.val s.e) n s.h:=by
 simp only [actF,XOp.sub,act,ev_val]
 cases x.val s.e with
 | ref id o =>
  simp only [loadF_ref]
  cases s.h[id]? with
  | none=>rfl
  | some o=>cases o <;> rfl
 | _=>rfl
theorem actF_store (n:Nat) (a x:A):actF cf s (.store n a x)=storeF (a.val s.e) n (x.val s.e) s.h:=by
 simp only [actF,XOp.sub,act,ev_val]
 cases a.val s.e with
 | ref id o =>
  simp only [storeF_ref]
  cases s.h[id]? with
  | none=>rfl
  | some o=>cases o <;> rfl
 | tref k m o =>
  simp only [storeF_tref]
  cases s.h[k]? with
  | none=>rfl
  | some o=>cases o <;> rfl
 | _=>rfl
theorem actF_bin (op:BinOp) (q:Nat) (x y:A):actF cf s (.bin op q x y)=(binV op q (x.val s.e) (y.val s.e)).map fun v=>(v,s.h):=by
 simp only [actF,XOp.sub,act,pureV,ev_val]
theorem actF_not (x:A):actF cf s (.un .not x)=notF (x.val s.e) s.h:=by
 simp only [actF,XOp.sub,act,pureV,ev_val]
 cases x.val s.e with
 | c y=>cases y <;> rfl
 | _=>rfl
theorem actF_fieldAddr (o:Nat) (x:A):actF cf s (.fieldAddr o x)=faF o (x.val s.e) s.h:=by
 simp only [actF,XOp.sub,act,pureV,ev_val]
 cases x.val s.e<;>rfl
theorem actF_field (o:Nat) (n:Option Nat) (x:A):actF cf s (.field o n x)=fieldF o n (x.val s.e) s.h:=by
 simp only [actF,XOp.sub,act,pureV,ev_val]
 cases x.val s.e<;>rfl
theorem actF_indexAddr (z:Nat) (x i:A):actF cf s (.indexAddr z x i)=iaF z (x.val s.e) (idx (i.val s.e)) s.h:=by
 simp only [actF,XOp.sub,act,pureV,ev_val]
 cases x.val s.e<;>cases idx (i.val s.e)<;>try rfl
 ·rename_i us _ v
  simp only [iaF_sl]
  split
  ·cases us[v.toNat]? with
   | none=>rfl
   | some u=>by_cases hu:u.cells.length=z <;> simp [hu,elF]
  ·rfl
 ·simp only [iaF_row]
  split<;>rfl
 ·simp only [iaF_tsl]
  split<;>rfl
theorem actF_index (x i:A):actF cf s (.index x i)=ixF (x.val s.e) (idx (i.val s.e)) s.h:=by
 simp only [actF,XOp.sub,act,pureV,ev_val]
 cases x.val s.e with
 | c y =>
  cases y<;>cases idx (i.val s.e)<;>try rfl
  simp only [ixF_s]
  split
  ·rw [Option.map_map];rfl
  ·rfl
 | _=>cases idx (i.val s.e) <;> rfl
theorem actF_sliceS (z:Nat) (x:A) (lo hi:Option A):actF cf s (.slice true z x lo hi none)=ssF (x.val s.e) (fun t=>cutS t (optE s.e 0 lo) (optE s.e t.size hi)) s.h:=by
 simp only [actF,XOp.sub,act,pureV,ev_val,stV,optE_val,Option.map_none]
 cases x.val s.e with
 | c y =>
  cases y<;>try rfl
  simp only [ssF_s]
  cases optE s.e 0 lo<;>cases optE s.e _ hi<;>rfl
 | _=>rfl
theorem actF_sliceL (z:Nat) (x:A) (lo hi:Option A):actF cf s (.slice false z x lo hi none)=slF (x.val s.e) z (fun n=>optE s.e n hi) (optE s.e 0 lo) s.h:=by
 simp only [actF,XOp.sub,act,pureV,ev_val,slV,rowV,optE_val,Option.map_none]
 cases x.val s.e with
 | c y=>cases y <;> rfl
 | sl us i =>
  simp only [slF_sl]
  cases optE s.e 0 lo<;>cases optE s.e _ hi<;>rfl
 | row id off n zz =>
  simp only [slF_row]
  cases optE s.e 0 lo<;>cases optE s.e _ hi<;>simp only [cutR]<;>split<;>rfl
 | _=>rfl
theorem actF_extract (x:A) (i:Nat):actF cf s (.extract x i)=extF (x.val s.e) i s.h:=by
 simp only [actF,XOp.sub,act,pureV,ev_val]
 cases x.val s.e<;>rfl
theorem actF_len (x:A):actF cf s (.len false x)=lenF (x.val s.e) s.h:=by
 simp only [actF,XOp.sub,act,pureV,ev_val]
 cases x.val s.e<;>rfl
theorem actF_lenS (x:A):actF cf s (.len true x)=lenS (x.val s.e) s.h:=by
 simp only [actF,XOp.sub,act,pureV,ev_val]
 cases x.val s.e with
 | c y=>cases y <;> rfl
 | _=>rfl
theorem actF_append (al b:Nat) (z:Option Nat) (rw:Bool) (x y:A):actF cf s (.append al z b rw x y)=appF s.base (s.rb+al) b z rw s.h (x.val s.e) (srcV s.h (y.val s.e)):=by
 simp only [actF,XOp.sub,act,ev_val]
 cases x.val s.e with
 | sl us i =>
  cases srcV s.h (y.val s.e) with
  | none=>rfl
  | some ws =>
   simp only [appF_sl]
   split
   ·cases ws with
    | nil=>simp only [grow_none]
    | cons w ws =>
     cases i<;>try rfl
     all_goals simp only [grow]
     all_goals rfl
   ·rfl
 | tsl k n zz =>
  cases srcV s.h (y.val s.e) with
  | none=>rfl
  | some ws =>
   simp only [appF_tsl]
   split
   ·rename_i hc
    obtain⟨_,rfl,_⟩:=hc
    cases ws<;>rfl
   ·rfl
 | _=>cases srcV s.h (y.val s.e) <;> rfl
theorem actF_mm (m:Bool) (ps:List A):actF cf s (.mm m ps)=(mmV m (ps.map (A.val s.e))).map fun v=>(v,s.h):=by
 simp only [actF,XOp.sub,act,pureV,ev_vals]
theorem actF_conv (k:IntKind) (x:A):actF cf s (.conv k x)=convF k (x.val s.e) s.h:=by
 simp only [actF,XOp.sub,act,pureV,ev_val]
 cases x.val s.e with
 | c y=>cases y <;> rfl
 | _=>rfl
theorem actF_call (f:A) (ps:List A):actF cf s (.call f ps)=callV cf (f.val s.e) (ps.map (A.val s.e)) s.h:=by
 simp only [actF,XOp.sub,act,ev_val,ev_vals]
theorem actF_makeMap (al:Nat):actF cf s (.makeMap al)=mmkF s.h[s.rb+al]? (.mref (s.rb+al),s.h.set (s.rb+al) (.mapo [] [])):=by
 simp only [actF,XOp.sub,act]
 cases s.h[s.rb+al]? with
 | none=>rfl
 | some o=>cases o <;> rfl
theorem actF_lookup (kd:Option (List Nat)) (z:V) (ok:Bool) (x k:A):actF cf s (.lookup kd z ok x k)=lookF (x.val s.e) kd (k.val s.e) z ok s.h:=by
 simp only [actF,XOp.sub,act,ev_val,lookF]
 cases keyV kd (k.val s.e) with
 | none=>rfl
 | some t =>
  simp only [keyF]
  cases x.val s.e with
  | fmp ks vs=>cases kd <;> rfl
  | mref id =>
   simp only [lookX]
   cases s.h[id]? with
   | none=>rfl
   | some o=>cases o <;> rfl
  | _=>rfl
theorem actF_mapUpd (kd:Option (List Nat)) (m k v:A):actF cf s (.mapUpd kd m k v)=updF (m.val s.e) kd (k.val s.e) (v.val s.e) s.h:=by
 simp only [actF,XOp.sub,act,ev_val,updF]
 cases keyV kd (k.val s.e) with
 | none=>rfl
 | some t =>
  simp only [keyF]
  cases m.val s.e with
  | mref id =>
   simp only [updX]
   cases s.h[id]? with
   | none=>rfl
   | some o=>cases o <;> rfl
  | _=>rfl
theorem actF_clos (f:Nat) (ps:List A):actF cf s (.clos f ps)=some (.clo f (ps.map (A.val s.e)),s.h):=by
 simp only [actF,XOp.sub,act,pureV,ev_vals,Option.map_some]
def bndF (f:Nat):V→List O→R2
 | .ref id o,h=>some (.bnd f id o,h)
 | _,_=>none
theorem actF_bndm (f:Nat) (x:A):actF cf s (.bndm f x)=bndF f (x.val s.e) s.h:=by
 simp only [actF,XOp.sub,act,pureV,ev_val]
 cases x.val s.e<;>rfl
theorem actF_nilchk (x:A):actF cf s (.nilchk x)=nckF (x.val s.e) s.h:=by
 simp only [actF,XOp.sub,act,pureV,ev_val]
 cases x.val s.e with
 | c y =>
  cases y with
  | func f a b=>cases f <;> rfl
  | _=>rfl
 | _=>rfl
def ownV (b:Nat):V→Bool
 | .ref id _=>decide (b≤id)
 | _=>true
theorem ownV_ref (b id o:Nat):ownV b (.ref id o)=decide (b≤id):=rfl
theorem ownV_ptr (b:Nat) (cs:List V) (o:Nat):ownV b (.ptr cs o)=true:=rfl
def knownV:V→Bool
 | .top=>false
 | _=>true
def wantsV:V→Bool→Bool
 | .c (.bool x),b=>x==b
 | _,_=>false
theorem knownF_some (e:Nat→V) (t:Nat) (b:Bool):knownF e (some (t,b))=knownV (e t):=rfl
theorem wantsF_some (e:Nat→V) (t:Nat) (b:Bool):wantsF e (some (t,b))=wantsV (e t) b:=by
 simp only [wantsF]
 cases e t with
 | c y=>cases y <;> rfl
 | _=>rfl
def cellR:V→List O→Option Nat→Option V
 | .ref id o,h,n=>cellO h[id]? o n
 | _,_,_=>none
where cellO:Option O→Nat→Option Nat→Option V
 | some (.cells cs),o,n=>rdV cs o n
 | _,_,_=>none
theorem cellR_ref (id o:Nat) (h:List O) (n:Option Nat):cellR (.ref id o) h n=cellR.cellO h[id]? o n:=rfl
theorem cellO_s (cs:List V) (o:Nat) (n:Option Nat):cellR.cellO (some (.cells cs)) o n=rdV cs o n:=rfl
theorem resF_t (i:Nat):resF s (.t i)=some (s.e i):=rfl
theorem resF_cell (i:Nat) (n:Option Nat):resF s (.cell i n)=cellR (s.e i) s.h n:=by
 simp only [resF]
 cases s.e i with
 | ref id o =>
  simp only [cellR_ref]
  cases s.h[id]? with
  | none=>rfl
  | some x=>cases x <;> rfl
 | _=>rfl
def consO:Option V→Option (List V)→Option (List V)
 | some v,some vs=>some (v::vs)
 | _,_=>none
theorem consO_s (v:V) (vs:List V):consO (some v) (some vs)=some (v::vs):=rfl
theorem resFs_nil:resFs s []=some []:=rfl
theorem resFs_cons (r:XR) (rs:List XR):resFs s (r::rs)=consO (resF s r) (resFs s rs):=by
 simp only [resFs]
 cases resF s r<;>cases resFs s rs<;>rfl
theorem Fin_n (P:List V→List O→Prop) (xf:XF) (s:SF):Fin P xf .normal s=bindO (resFs s xf.res) fun vs=>P vs s.h:=rfl
theorem Fin_r (P:List V→List O→Prop) (xf:XF) (s:SF):Fin P xf .ret s=bindO (resFs s xf.res) fun vs=>P vs s.h:=rfl
end
inductive Fr where
 | seq (b:XC)
 | blk (id:Nat)
 | loop (c:XC) (k:Nat)
section
variable (cf:CallF) (n:Nat)
def den:List Fr→(Ex→SF→Prop)→Ex→SF→Prop
 | [],Q=>Q
 | .seq b::K,Q=>fun e s=>match e with
  | .normal=>wpx cf n b s (den K Q)
  | e=>den K Q e s
 | .blk id::K,Q=>fun e s=>match e with
  | .exit id'=>if id'=id then den K Q .normal s else den K Q (.exit id') s
  | e=>den K Q e s
 | .loop c k::K,Q=>fun e s=>match e with
  | .normal=>wpIter (wpx cf n c) k s (den K Q)
  | e=>den K Q e s
def wpk (c:XC) (K:List Fr) (Q:Ex→SF→Prop) (s:SF):Prop:=wpx cf n c s (den cf n K Q)
def retk (K:List Fr) (Q:Ex→SF→Prop) (e:Ex) (s:SF):Prop:=den cf n K Q e s
def lpk (c:XC) (K:List Fr) (Q:Ex→SF→Prop) (s:SF):Prop:=wpIter (wpx cf n c) n s (den cf n K Q)
def cndk (v:V) (a b:XC) (K:List Fr) (Q:Ex→SF→Prop) (s:SF):Prop:=condK v (wpk cf n a K Q s) (wpk cf n b K Q s)
def opsk (ops:List XOper) (K:List Fr) (Q:Ex→SF→Prop) (s:SF):Prop:=wpOps cf ops s (den cf n K Q .normal)
def giveF (o:XOper) (s:SF):R2:=if knownF s.e o.g=true then if wantsF s.e o.g=true then actF cf s o.op else some (undefV,s.h) else none
def gvk:R2→Option Nat→List XOper→List Fr→(Ex→SF→Prop)→SF→Prop
 | some (v,h),d,r,K,Q,s=>opsk cf n r K Q ⟨updO s.e d v,h,s.base,s.rb⟩
 | none,_,_,_,_,_=>False
def opsc (p:SF→XOper→Bool) (ops:List XOper) (K:List Fr) (Q:Ex→SF→Prop) (cf':CallF) (s:SF):Prop:=wpOpsC cf' p ops s (den cf n K Q .normal)
def gvc (p:SF→XOper→Bool) (cf':CallF):R2→Option Nat→List XOper→List Fr→(Ex→SF→Prop)→SF→Prop
 | some (v,h),d,r,K,Q,s=>opsc cf n p r K Q cf' ⟨updO s.e d v,h,s.base,s.rb⟩
 | none,_,_,_,_,_=>False
variable {cf n}{K:List Fr}{Q:Ex→SF→Prop}{s:SF}
theorem opsc_nil (p:SF→XOper→Bool) (cf':CallF):opsc cf n p [] K Q cf' s=retk cf n K Q .normal s:=rfl
theorem opsc_cons (p:SF→XOper→Bool) (cf':CallF) (o:XOper) (r:List XOper):opsc cf n p (o::r) K Q cf' s=(p s o=true∧gvc cf n p cf' (giveF cf' o s) o.d r K Q s):=by
 simp only [opsc,wpOpsC,wps,giveF]
 congr 1
 split
 ·split
  ·cases actF cf' s o.op<;>rfl
  ·rfl
 ·rfl
theorem gvc_some (p:SF→XOper→Bool) (cf':CallF) (v:V) (h:List O) (d:Option Nat) (r:List XOper):gvc cf n p cf' (some (v,h)) d r K Q s=opsc cf n p r K Q cf' ⟨updO s.e d v,h,s.base,s.rb⟩:=rfl
theorem gvc_ite (p:SF→XOper→Bool) (cf':CallF) (c:Prop) [Decidable c] (a:R2) (d:Option Nat) (r:List XOper):gvc cf n p cf' (if c then a else none) d r K Q s=(c∧gvc cf n p cf' a d r K Q s):=by
 by_cases h:c<;>simp [h,gvc]
theorem wpk_seq (a b:XC):wpk cf n (.seq a b) K Q s=wpk cf n a (.seq b::K) Q s:=rfl
theorem wpk_skip:wpk cf n .skip K Q s=retk cf n K Q .normal s:=rfl
theorem wpk_cond (c:A) (a b:XC):wpk cf n (.cond c a b) K Q s=cndk cf n (c.val s.e) a b K Q s:=rfl
theorem cndk_t (a b:XC):cndk cf n (.c (.bool true)) a b K Q s=wpk cf n a K Q s:=rfl
theorem cndk_f (a b:XC):cndk cf n (.c (.bool false)) a b K Q s=wpk cf n b K Q s:=by simp [cndk,condK]
theorem wpk_block (id:Nat) (c:XC):wpk cf n (.block id c) K Q s=wpk cf n c (.blk id::K) Q s:=rfl
theorem wpk_loop (c:XC):wpk cf n (.loop c) K Q s=lpk cf n c K Q s:=rfl
theorem wpk_range (f:A) (y m nt:Nat) (us:List Nat){g:Nat}{lb:List V}{r:V}{h':List O}{e:Ex}(hc:callee (f.val s.e)=some (g,lb)) (hg:g<rid) (hy:rid≤y)
  (hcf:cf g (.yld s.h.length y m (keepE nt us s.e)::lb) (s.h++[.loop 0])=some (r,h')) (he:loopEnd h'[s.h.length]?=some e) (hq:retk cf n K Q e ⟨s.e,h'.set s.h.length (.loop 2),s.base,s.rb⟩):wpk cf n (.rangeF f y m nt us) K Q s:=by
 show wpx cf n (.rangeF f y m nt us) s (den cf n K Q)
 unfold wpx
 rw [hc]
 simp only
 rw [if_pos ⟨hg,hy⟩,hcf]
 simp only [bindO_some,he]
 exact hq
theorem wpk_exit (id:Nat):wpk cf n (.exit id) K Q s=retk cf n K Q (.exit id) s:=rfl
theorem wpk_ret:wpk cf n .ret K Q s=retk cf n K Q .ret s:=rfl
theorem retk_nil (e:Ex):retk cf n [] Q e s=Q e s:=rfl
theorem retk_seq (b:XC):retk cf n (.seq b::K) Q .normal s=wpk cf n b K Q s:=rfl
theorem retk_seq_r (b:XC):retk cf n (.seq b::K) Q .ret s=retk cf n K Q .ret s:=rfl
theorem retk_seq_e (b:XC) (i:Nat):retk cf n (.seq b::K) Q (.exit i) s=retk cf n K Q (.exit i) s:=rfl
theorem retk_blk (i:Nat):retk cf n (.blk i::K) Q .normal s=retk cf n K Q .normal s:=rfl
theorem retk_blk_r (i:Nat):retk cf n (.blk i::K) Q .ret s=retk cf n K Q .ret s:=rfl
theorem retk_blk_e (i:Nat):retk cf n (.blk i::K) Q (.exit i) s=retk cf n K Q .normal s:=by
 show (if i=i then den cf n K Q .normal s else den cf n K Q (.exit i) s)=_
 rw [if_pos rfl]
 rfl
theorem retk_blk_n (i j:Nat) (h:¬j=i):retk cf n (.blk i::K) Q (.exit j) s=retk cf n K Q (.exit j) s:=by
 show (if j=i then den cf n K Q .normal s else den cf n K Q (.exit j) s)=_
 rw [if_neg h]
 rfl
theorem opsk_nil:opsk cf n [] K Q s=retk cf n K Q .normal s:=rfl
theorem opsk_cons (o:XOper) (r:List XOper):opsk cf n (o::r) K Q s=gvk cf n (giveF cf o s) o.d r K Q s:=by
 simp only [opsk,wpOps,wps,giveF]
 split
 ·split
  ·cases actF cf s o.op<;>rfl
  ·rfl
 ·rfl
theorem gvk_some (v:V) (h:List O) (d:Option Nat) (r:List XOper):gvk cf n (some (v,h)) d r K Q s=opsk cf n r K Q ⟨updO s.e d v,h,s.base,s.rb⟩:=rfl
theorem gvk_ite (c:Prop) [Decidable c] (a:R2) (d:Option Nat) (r:List XOper):gvk cf n (if c then a else none) d r K Q s=(c∧gvk cf n a d r K Q s):=by
 by_cases h:c<;>simp [h,gvk]
theorem give_n (d:Option Nat) (op:XOp):giveF cf ⟨d,op,none⟩ s=actF cf s op:=by simp [giveF,knownF,wantsF]
def guardF (cf:CallF) (v:V) (b:Bool) (op:XOp) (s:SF):R2:=if knownV v=true then if wantsV v b=true then actF cf s op else some (undefV,s.h) else none
theorem give_g (d:Option Nat) (op:XOp) (t:Nat) (b:Bool):giveF cf ⟨d,op,some (t,b)⟩ s=guardF cf (s.e t) b op s:=by
 simp only [giveF,guardF,knownF_some,wantsF_some]
theorem guardF_tt (op:XOp):guardF cf (.c (.bool true)) true op s=actF cf s op:=rfl
theorem guardF_ff (op:XOp):guardF cf (.c (.bool false)) false op s=actF cf s op:=rfl
theorem guardF_tf (op:XOp):guardF cf (.c (.bool true)) false op s=some (undefV,s.h):=by simp [guardF,knownV,wantsV]
theorem guardF_ft (op:XOp):guardF cf (.c (.bool false)) true op s=some (undefV,s.h):=by simp [guardF,knownV,wantsV]
theorem wpk_of {c:XC}(h:wpk cf n c [] Q s):wpx cf n c s Q:=h
theorem lpk_of {c:XC}(I:Nat→SF→Prop) (k:Nat) (hk:k<n) (h0:I k s)
  (hI:∀k s,I k s→wpk cf n c [] (fun e s'=>match e with|.normal=>∃k',k'<k∧I k' s'|e=>retk cf n K Q e s') s):lpk cf n c K Q s:=wpx_iter I k hk h0 hI
end
theorem set_last (h:List O) (x y:O):(h++[x]).set h.length y=h++[y]:=by
 rw [List.set_append_right _ _ (nL _)]
 simp
theorem get_last (h:List O) (x:O):(h++[x])[h.length]?=some x:=by simp
theorem okc_mref (k:Nat):okc (.mref k)=true:=rfl
theorem cells_mref (k:Nat):V.cells (.mref k)=[.mref k]:=rfl
attribute [simp] okc_mref cells_mref
theorem vwf_c (x:Value):(V.c x).vwf=.c x:=rfl
attribute [simp] vwf_c
attribute [simp] grow_nilW grow_fullW storeF_tref faF_tref storeT_tokc iaF_tsl appF_tsl growT_cons grow_tnil
attribute [simp] wpk_seq wpk_skip wpk_cond cndk_t cndk_f wpk_block wpk_loop wpk_exit wpk_ret retk_nil retk_seq retk_seq_r retk_seq_e retk_blk retk_blk_r retk_blk_e retk_blk_n opsk_nil opsk_cons gvk_some gvk_ite give_n give_g guardF_tt guardF_ff guardF_tf guardF_ft bindO_some actF_mv actF_pick pickF_b actF_alloc actF_box boxF_dead actF_build fillE actF_bslice actF_load loadF_ref loadF_ptr loadO_cells actF_store storeF_ref storeO_cells actF_bin actF_not notF_b actF_fieldAddr faF_ref faF_ptr actF_field actF_indexAddr iaF_sl iaF_row elF_some actF_index ixF_s actF_sliceS ssF_s cutS_s actF_sliceL slF_sl slF_row cutL_s optE actF_extract extF_t actF_len lenF_sl lenF_row actF_lenS lenS_s actF_append appF_sl grow_none grow_nil grow_full grow_tok srcV_sl hz_nil hz_cons zc_some zc_none actF_mm mmV_two mmS_int actF_conv actF_call calV_f calV_clo calV_yld calR_s actF_makeMap mmkF_dead actF_lookup lookF_fmp lookF_mref lookO_m actF_mapUpd updF_m updM_m keyF_some keyV_str actF_bndm actF_clos actF_nilchk nckF_ref A.val updO upd_at arg0_at callee_f callee_clo idx_int rd_none rd_some okc_agg okc_sl okc_clo okc_int okc_bool okc_str cells_agg cells_c cells_sl cells_clo vw1_c vw1_sl vw2_c vw2_sl vw2_agg vw2_ref vw2_row splice binV_int binV_str binV_beq binV_bne binS_emp int_beq0 binI Fin_n Fin_r resFs_nil resFs_cons resF_t resF_cell cellR_ref cellO_s consO_s res_one res_two vw_c vw_full vw_any vw_nil vw_tok vw_agg vw_tup low_c
end Go.Proofs.YtjhffhmokcogkaaGreatDoor.Ab

