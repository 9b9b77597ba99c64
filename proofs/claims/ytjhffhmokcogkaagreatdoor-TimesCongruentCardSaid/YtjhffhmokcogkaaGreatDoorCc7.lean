/- A part. -/
import Derived.Test.YtjhffhmokcogkaaGreatDoorCc6
set_option linter.unusedVariables false
set_option linter.unusedSimpArgs false
set_option linter.defProp false
set_option maxRecDepth 20000
set_option maxHeartbeats 8000000
namespace Go.Proofs.YtjhffhmokcogkaaGreatDoor.Ab
open Go
def A8:Nat→av→List V→List O→Option (V × List O):=fun _ _ args h=>match args with
 | [.c (.string s),.c (.int .u8 c)]=>some (.c (.int .i64 (Lib.indexByte s.data.toList c.toNat.toUInt8)),h)
 | _=>none
def X0:Nat→Option XF:=fun f=>if f=150 then some x150 else none
open Classical in
noncomputable def CW:Nat→av→List V→List O→Option (V × List O):=fun n _ args h=>match call X0 (fun _=>none) n 150 args h with
 | some (r,h')=>if pQ h h' then some (r,h') else none
 | none=>none
noncomputable def E:Ext:=fun f =>
 if f=150 then some CW else if f=153 then some mc else if f=122 then some (fun _ _=>uf) else if f=196 then some A8 else none
theorem mixed:Tryz.prog.follows .mixedOrders=true:=by kernel_rfl
theorem F9:Tryz.prog.funcs[153]?=some Tryz.f153:=by kernel_rfl
theorem GU : ∃ fn, Tryz.prog.funcs[122]? = some fn ∧ (fn.name == "runtime.NumGoroutine") = false ∧ fn.body.isNone = false := ⟨Tryz.f122, by kernel_rfl, by kernel_rfl, by kernel_rfl⟩
theorem FW : ∃ fn, Tryz.prog.funcs[196]? = some fn ∧ (fn.name == "runtime.NumGoroutine") = false ∧ fn.body.isNone = false := ⟨Tryz.f196, by kernel_rfl, by kernel_rfl, by kernel_rfl⟩
theorem DM:trF Tryz.prog pfl 1015300 false false false Tryz.f153=some ⟨31,De 153,[.t 6],false,false,false,none⟩:=by kernel_rfl
theorem G0 {y q j:Nat}(hq:(y-1000000) / 100=q) (hj:(y-1000000) % 100=j){fn:Func}{c:Code}(hf:Tryz.prog.funcs[q]?=some fn) (hb:fn.body=some c):yc y=(aJ c)[j]?:=by
 unfold yc;rw[hq,hj];unfold Hm;rw[hf];simp only[hb]
theorem Fg (r f j:Nat) (hj:j<100):(r+100*f+j-r) / 100=f∧(r+100*f+j-r) % 100=j:=by
 rw[Nat.add_assoc,Nat.add_sub_cancel_left];omega
theorem ul:Cc Tryz.prog:=by
 intro f fn c hf hb hl j p hp;have hj:j<100:=Nat.lt_of_lt_of_le (gS.1 hp).1 hl;have key:∀r,r=1000000→yc (r+100*f+j)=some p:=fun r hr=>by
  have h:=Fg r f j hj;exact (G0 (y:=r+100*f+j) (by rw[← hr];exact h.1) (by rw[← hr];exact h.2) hf hb).trans hp
 exact key rid rfl
theorem GY:Laid Tryz.prog (fun _=>0) X0:=by
 intro f xf h;unfold X0 at h;split at h
 ·rename_i hf;subst hf;simp only[sI] at h;subst h;exact .inl ⟨by decide,rfl,_,Dm⟩
 ·cases h
theorem Cx (n:Nat):br Tryz.prog (call X0 (fun _=>none) n):=(oq (pf:=fun _=>0) (fun f e he=>by cases he) GY ul (fun f _ xf _=>⟨fun h=>absurd h (by simp),fun h=>absurd h (by simp),by simp⟩) mixed n).1
theorem AI:Ep Tryz.prog pfl E:=by
 intro f e he;unfold E at he;split at he
 ·rename_i hf;subst hf;simp only[sI] at he;subst he;refine⟨by decide,fun n cf hcf hp=>⟨fun args h r h' e=>?_,fun args h r h' e=>⟨fun h=>absurd h (by decide),fun h=>absurd h (by decide),fun _=>?_⟩⟩⟩
  all_goals
   unfold CW at e;split at e;rotate_left
   ·cases e
   split at e;rotate_left
   ·cases e
   rename_i hce hle;simp only[sI,pI] at e;obtain⟨rfl,rfl⟩:=e
   first|exact hle|exact (Cx n _ _ _ _ _ hce).1 (by decide)
 split at he
 ·rename_i hf;subst hf;simp only[sI] at he;subst he;exact⟨by decide,fun n cf hcf hp=>⟨fun args h r h' e=>zF hcf mixed (by decide) (by decide) F9 DM e,fun args h r h' e=>⟨fun h=>absurd h (by decide),fun h=>absurd h (by decide),fun h=>absurd h (by decide)⟩⟩⟩
 ·split at he
  ·rename_i hf;subst hf;simp only[sI] at he;subst he;refine⟨by decide,fun n cf hcf hp=>⟨fun args h r h' e=>⟨GU,Cg e⟩,fun args h r h' e=>⟨fun h=>absurd h (by decide),fun _=>?_,fun h=>absurd h (by decide)⟩⟩⟩;have e:uf args h=some (r,h'):=e;unfold uf at e;split at e
   ·split at e
    ·simp only[sI,pI] at e;rw[← e.2];exact⟨fun _ _ _ h=>h,fun _ _ _ _ h=>h⟩
    ·split at e
     ·simp only[sI,pI] at e;rw[← e.2];exact⟨CellsLe.app _ _,CellsGe.app _ _⟩
     ·cases e
   ·cases e
  ·split at he
   ·rename_i hf;subst hf;simp only[sI] at he;subst he;refine⟨by decide,fun n cf hcf hp=>⟨fun args h r h' e=>⟨FW,fun g w cargs H hl hr=>?_⟩,fun args h r h' e=>⟨fun h=>absurd h (by decide),fun h=>absurd h (by decide),fun h=>absurd h (by decide)⟩⟩⟩;unfold A8 at e;split at e
    ·rename_i s c;simp only[sI,pI] at e;obtain⟨rfl,rfl⟩:=e;obtain⟨l⟩:=cargs
     match l,hl with
     | [x,y],_ =>
      have h1:x=.string s:=(hr 0 (by simp) (by simp)).of_c;have h2:y=.int .u8 c:=(hr 1 (by simp) (by simp)).of_c;subst h1 h2;refine Calls.mono (nk s c w) ?_;rintro e w' ⟨rfl,rfl⟩;exact⟨_,g,rfl,Le.refl _ _,H,.c _,Quiet.refl _ _ _⟩
    ·cases e
   ·cases he
theorem kj {Q:Nat→XF→Prop}(f:Nat) (xf:XF):∀(l:List (Nat × XF)),(∀p∈l,Q p.1 p.2)→l.lookup f=some xf→Q f xf:=by
 intro l
 induction l with
 | nil=>intro _ h;simp at h
 | cons p l ih =>
  intro hl h;obtain⟨q,x⟩:=p;rw[List.lookup_cons] at h;split at h
  ·rename_i hq;simp only[sI] at h;subst h;have:f=q:=by simpa using hq
   subst this;exact hl (f,x) (by simp)
  ·exact ih (fun p hp=>hl p (by simp[hp])) h
def qN (f:Nat) (xf:XF):Prop:=(f<rid∧xf.asg=none∧∃fn,Tryz.prog.funcs[f]?=some fn∧trF Tryz.prog pfl (rid+100*f) xf.pure xf.esc xf.rw fn=some xf)∨(rid≤f∧vZ Tryz.prog pfl f xf)
theorem Eb {f:Nat}{xf:XF}{fn:Func}(hf:f<rid) (ha:xf.asg=none) (h:Tryz.prog.funcs[f]?=some fn∧trF Tryz.prog pfl (rid+100*f) xf.pure xf.esc xf.rw fn=some xf):qN f xf:=.inl ⟨hf,ha,fn,h⟩
theorem AZ {y:Nat}{xf:XF}(hy:rid≤y) (hrw:xf.rw=false){ps:List Nat}{xa:XC}(ha:xf.asg=some (ps,xa))
  (h:(match yc y with
 | some (ps,asg,body)=>some (ps.toList,trC Tryz.prog false pfl xf.ntm (y+1) asg,trC Tryz.prog false pfl xf.ntm (y+1+(aJ asg).length) body,(aJ asg).length,(aJ body).length)
 | none=>none)=some (ps,some xa,some xf.body,0,0)):qN y xf:=by
 split at h
 ·rename_i tps asg body hyc;simp only[sI,pI] at h;obtain⟨rfl,h1,h2,h3,h4⟩:=h;refine .inr ⟨hy,tps,asg,body,xa,hyc,ha,by rw[hrw];exact h1,by rw[hrw];exact h2,fun j p hp=>?_,fun j p hp=>?_⟩
  ·rw[List.eq_nil_of_length_eq_zero h3] at hp;simp at hp
  ·rw[List.eq_nil_of_length_eq_zero h4] at hp;simp at hp
 ·cases h
theorem lf {f:Nat}{xf:XF}(fn:Func) (h1:Tryz.prog.funcs[f]?=some fn) (h2:trF Tryz.prog pfl (rid+100*f) xf.pure xf.esc xf.rw fn=some xf) (hf:f<rid:=by decide) (ha:xf.asg=none:=by rfl):qN f xf:=Eb hf ha ⟨h1,h2⟩
theorem laid:Laid Tryz.prog pfl X:=by
 intro f xf h;unfold X at h;refine kj (Q:=qN) f xf xtab ?_ h;unfold xtab;simp only[List.forall_mem_cons];exact⟨lf Tryz.f3 (by kernel_rfl) (by kernel_rfl),lf Tryz.f8 (by kernel_rfl) (by kernel_rfl),lf Tryz.f9 (by kernel_rfl) (by kernel_rfl),lf Tryz.f10 (by kernel_rfl) (by kernel_rfl),lf Tryz.f11 (by kernel_rfl) (by kernel_rfl),lf Tryz.f12 (by kernel_rfl) (by kernel_rfl),lf Tryz.f14 (by kernel_rfl) (by kernel_rfl),lf Tryz.f16 (by kernel_rfl) (by kernel_rfl),lf Tryz.f23 (by kernel_rfl) (by kernel_rfl),lf Tryz.f24 (by kernel_rfl) (by kernel_rfl),lf Tryz.f26 (by kernel_rfl) (by kernel_rfl),lf Tryz.f32 (by kernel_rfl) (by kernel_rfl),lf Tryz.f33 (by kernel_rfl) (by kernel_rfl),lf Tryz.f34 (by kernel_rfl) (by kernel_rfl),lf Tryz.f35 (by kernel_rfl) (by kernel_rfl),lf Tryz.f43 (by kernel_rfl) (by kernel_rfl),lf Tryz.f44 (by kernel_rfl) (by kernel_rfl),lf Tryz.f45 (by kernel_rfl) (by kernel_rfl),lf Tryz.f46 (by kernel_rfl) (by kernel_rfl),lf Tryz.f47 (by kernel_rfl) (by kernel_rfl),lf Tryz.f48 (by kernel_rfl) (by kernel_rfl),lf Tryz.f49 (by kernel_rfl) (by kernel_rfl),lf Tryz.f50 (by kernel_rfl) (by kernel_rfl),lf Tryz.f51 (by kernel_rfl) (by kernel_rfl),lf Tryz.f52 (by kernel_rfl) (by kernel_rfl),lf Tryz.f53 (by kernel_rfl) (by kernel_rfl),lf Tryz.f54 (by kernel_rfl) (by kernel_rfl),lf Tryz.f58 (by kernel_rfl) (by kernel_rfl),lf Tryz.f59 (by kernel_rfl) (by kernel_rfl),lf Tryz.f61 (by kernel_rfl) (by kernel_rfl),lf Tryz.f63 (by kernel_rfl) (by kernel_rfl),lf Tryz.f70 (by kernel_rfl) (by kernel_rfl),lf Tryz.f71 (by kernel_rfl) (by kernel_rfl),lf Tryz.f72 (by kernel_rfl) (by kernel_rfl),lf Tryz.f73 (by kernel_rfl) (by kernel_rfl),lf Tryz.f74 (by kernel_rfl) (by kernel_rfl),lf Tryz.f86 (by kernel_rfl) (by kernel_rfl),lf Tryz.f87 (by kernel_rfl) (by kernel_rfl),lf Tryz.f88 (by kernel_rfl) (by kernel_rfl),lf Tryz.f89 (by kernel_rfl) (by kernel_rfl),lf Tryz.f90 (by kernel_rfl) (by kernel_rfl),lf Tryz.f91 (by kernel_rfl) (by kernel_rfl),lf Tryz.f92 (by kernel_rfl) (by kernel_rfl),lf Tryz.f93 (by kernel_rfl) (by kernel_rfl),lf Tryz.f99 (by kernel_rfl) (by kernel_rfl),lf Tryz.f100 (by kernel_rfl) (by kernel_rfl),lf Tryz.f101 (by kernel_rfl) (by kernel_rfl),lf Tryz.f102 (by kernel_rfl) (by kernel_rfl),lf Tryz.f103 (by kernel_rfl) (by kernel_rfl),lf Tryz.f104 (by kernel_rfl) (by kernel_rfl),lf Tryz.f105 (by kernel_rfl) (by kernel_rfl),lf Tryz.f106 (by kernel_rfl) (by kernel_rfl),lf Tryz.f107 (by kernel_rfl) (by kernel_rfl),lf Tryz.f108 (by kernel_rfl) (by kernel_rfl),lf Tryz.f109 (by kernel_rfl) (by kernel_rfl),lf Tryz.f110 (by kernel_rfl) (by kernel_rfl),lf Tryz.f111 (by kernel_rfl) (by kernel_rfl),lf Tryz.f112 (by kernel_rfl) (by kernel_rfl),lf Tryz.f113 (by kernel_rfl) (by kernel_rfl),lf Tryz.f114 (by kernel_rfl) (by kernel_rfl),lf Tryz.f115 (by kernel_rfl) (by kernel_rfl),lf Tryz.f116 (by kernel_rfl) (by kernel_rfl),lf Tryz.f117 (by kernel_rfl) (by kernel_rfl),lf Tryz.f119 (by kernel_rfl) (by kernel_rfl),lf Tryz.f123 (by kernel_rfl) (by kernel_rfl),lf Tryz.f125 (by kernel_rfl) (by kernel_rfl),lf Tryz.f126 (by kernel_rfl) (by kernel_rfl),lf Tryz.f127 (by kernel_rfl) (by kernel_rfl),lf Tryz.f137 (by kernel_rfl) (by kernel_rfl),lf Tryz.f138 (by kernel_rfl) (by kernel_rfl),lf Tryz.f139 (by kernel_rfl) (by kernel_rfl),lf Tryz.f140 (by kernel_rfl) (by kernel_rfl),lf Tryz.f141 (by kernel_rfl) (by kernel_rfl),lf Tryz.f142 (by kernel_rfl) (by kernel_rfl),lf Tryz.f143 (by kernel_rfl) (by kernel_rfl),lf Tryz.f144 (by kernel_rfl) (by kernel_rfl),lf Tryz.f145 (by kernel_rfl) (by kernel_rfl),lf Tryz.f146 (by kernel_rfl) (by kernel_rfl),lf Tryz.f151 (by kernel_rfl) (by kernel_rfl),lf Tryz.f152 (by kernel_rfl) (by kernel_rfl),lf Tryz.f154 (by kernel_rfl) (by kernel_rfl),lf Tryz.f155 (by kernel_rfl) (by kernel_rfl),lf Tryz.f156 (by kernel_rfl) (by kernel_rfl),lf Tryz.f157 (by kernel_rfl) (by kernel_rfl),lf Tryz.f158 (by kernel_rfl) (by kernel_rfl),lf Tryz.f159 (by kernel_rfl) (by kernel_rfl),lf Tryz.f162 (by kernel_rfl) (by kernel_rfl),lf Tryz.f163 (by kernel_rfl) (by kernel_rfl),lf Tryz.f164 (by kernel_rfl) (by kernel_rfl),lf Tryz.f165 (by kernel_rfl) (by kernel_rfl),lf Tryz.f166 (by kernel_rfl) (by kernel_rfl),lf Tryz.f169 (by kernel_rfl) (by kernel_rfl),lf Tryz.f170 (by kernel_rfl) (by kernel_rfl),lf Tryz.f171 (by kernel_rfl) (by kernel_rfl),lf Tryz.f172 (by kernel_rfl) (by kernel_rfl),lf Tryz.f173 (by kernel_rfl) (by kernel_rfl),lf Tryz.f174 (by kernel_rfl) (by kernel_rfl),lf Tryz.f175 (by kernel_rfl) (by kernel_rfl),lf Tryz.f176 (by kernel_rfl) (by kernel_rfl),lf Tryz.f177 (by kernel_rfl) (by kernel_rfl),lf Tryz.f178 (by kernel_rfl) (by kernel_rfl),lf Tryz.f180 (by kernel_rfl) (by kernel_rfl),lf Tryz.f181 (by kernel_rfl) (by kernel_rfl),lf Tryz.f182 (by kernel_rfl) (by kernel_rfl),lf Tryz.f187 (by kernel_rfl) (by kernel_rfl),lf Tryz.f188 (by kernel_rfl) (by kernel_rfl),lf Tryz.f189 (by kernel_rfl) (by kernel_rfl),lf Tryz.f190 (by kernel_rfl) (by kernel_rfl),lf Tryz.f191 (by kernel_rfl) (by kernel_rfl),lf Tryz.f192 (by kernel_rfl) (by kernel_rfl),lf Tryz.f193 (by kernel_rfl) (by kernel_rfl),lf Tryz.f194 (by kernel_rfl) (by kernel_rfl),lf Tryz.f202 (by kernel_rfl) (by kernel_rfl),AZ (by decide) rfl rfl o7,AZ (by decide) rfl rfl od,fun _ h=>absurd h (by simp)⟩
def Aw (f:Nat) (xf:XF):Prop:=(pfl f=1→(xf.pure=true∧xf.esc=false)∧xf.asg=none)∧(pfl f=2→(xf.pure=true∧xf.esc=true)∧xf.asg=none)∧pfl f≠4
theorem aw {f:Nat}{xf:XF}(h:(match pfl f,xf.pure,xf.esc,xf.asg.isNone with
 | 1,true,false,true=>true
 | 2,true,true,true=>true
 | 0,_,_,_=>true
 | 3,_,_,_=>true
 | _,_,_,_=>false)=true):Aw f xf:=by
 constructor
 ·intro h1;rw[h1] at h;split at h<;>first|(cases h;done)|simp_all
 constructor
 ·intro h1;rw[h1] at h;split at h<;>first|(cases h;done)|simp_all
 ·intro h1;rw[h1] at h;split at h<;>first|(cases h;done)|simp_all
theorem Fs:Fc pfl X E:=by
 intro f hE xf h;unfold X at h;refine kj (Q:=Aw) f xf xtab ?_ h;unfold xtab;simp only[List.forall_mem_cons];exact⟨aw rfl,aw rfl,aw rfl,aw rfl,aw rfl,aw rfl,aw rfl,aw rfl,aw rfl,aw rfl,aw rfl,aw rfl,aw rfl,aw rfl,aw rfl,aw rfl,aw rfl,aw rfl,aw rfl,aw rfl,aw rfl,aw rfl,aw rfl,aw rfl,aw rfl,aw rfl,aw rfl,aw rfl,aw rfl,aw rfl,aw rfl,aw rfl,aw rfl,aw rfl,aw rfl,aw rfl,aw rfl,aw rfl,aw rfl,aw rfl,aw rfl,aw rfl,aw rfl,aw rfl,aw rfl,aw rfl,aw rfl,aw rfl,aw rfl,aw rfl,aw rfl,aw rfl,aw rfl,aw rfl,aw rfl,aw rfl,aw rfl,aw rfl,aw rfl,aw rfl,aw rfl,aw rfl,aw rfl,aw rfl,aw rfl,aw rfl,aw rfl,aw rfl,aw rfl,aw rfl,aw rfl,aw rfl,aw rfl,aw rfl,aw rfl,aw rfl,aw rfl,aw rfl,aw rfl,aw rfl,aw rfl,aw rfl,aw rfl,aw rfl,aw rfl,aw rfl,aw rfl,aw rfl,aw rfl,aw rfl,aw rfl,aw rfl,aw rfl,aw rfl,aw rfl,aw rfl,aw rfl,aw rfl,aw rfl,aw rfl,aw rfl,aw rfl,aw rfl,aw rfl,aw rfl,aw rfl,aw rfl,aw rfl,aw rfl,aw rfl,aw rfl,aw rfl,aw rfl,aw rfl,aw rfl,fun _ h=>absurd h (by simp)⟩
theorem GF (n:Nat):br Tryz.prog (call X E n):=(oq AI laid ul Fs mixed n).1
end Go.Proofs.YtjhffhmokcogkaaGreatDoor.Ab
