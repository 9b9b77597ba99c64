/- Part 9 of 19: what the functions do. -/
import Derived.Test.YtjhffhmokcogkaaGreatDoorCa7
set_option linter.unusedVariables false
set_option linter.unusedSimpArgs false
set_option linter.defProp false
namespace Go.Proofs.YtjhffhmokcogkaaGreatDoor.Ab
open Go
def indexE:Nat→CallF→List V→List O→Option (V × List O):=fun _ _ args h=>match args with
 | [.c (.string s),.c (.int .u8 c)]=>some (.c (.int .i64 (Lib.indexByte s.data.toList c.toNat.toUInt8)),h)
 | _=>none
def X0:Nat→Option XF:=fun f=>if f=150 then some x150 else none
open Classical in
noncomputable def moreE:Nat→CallF→List V→List O→Option (V × List O):=fun n _ args h=>match call X0 (fun _=>none) n 150 args h with
 | some (r,h')=>if CellEq h h' then some (r,h') else none
 | none=>none
noncomputable def E:Ext:=fun f =>
 if f=150 then some moreE else if f=153 then some eachE else if f=122 then some (fun _ _=>growE) else if f=196 then some indexE else none
theorem mixed:Tryz.prog.follows .mixedOrders=true:=by kernel_rfl
theorem fn153:Tryz.prog.funcs[153]?=some Tryz.f153:=by kernel_rfl
theorem fn122 : ∃ fn, Tryz.prog.funcs[122]? = some fn ∧ (fn.name == "runtime.NumGoroutine") = false ∧ fn.body.isNone = false := ⟨Tryz.f122, by kernel_rfl, by kernel_rfl, by kernel_rfl⟩
theorem fn196 : ∃ fn, Tryz.prog.funcs[196]? = some fn ∧ (fn.name == "runtime.NumGoroutine") = false ∧ fn.body.isNone = false := ⟨Tryz.f196, by kernel_rfl, by kernel_rfl, by kernel_rfl⟩
theorem tie153:trF Tryz.prog pfl 1015300 false false false Tryz.f153=some ⟨31,eachX 153,[.t 6],false,false,false,none⟩:=by kernel_rfl
theorem yc_of {y q j:Nat}(hq:(y-1000000) / 100=q) (hj:(y-1000000) % 100=j){fn:Func}{c:Code}(hf:Tryz.prog.funcs[q]?=some fn) (hb:fn.body=some c):yc y=(rangesOf c)[j]?:=by
 unfold yc
 rw [hq,hj]
 unfold ycAt
 rw [hf]
 simp only [hb]
theorem yc_num (r f j:Nat) (hj:j<100):(r+100*f+j-r) / 100=f∧(r+100*f+j-r) % 100=j:=by
 rw [Nat.add_assoc,Nat.add_sub_cancel_left]
 omega
theorem yc_all:YcAll Tryz.prog:=by
 intro f fn c hf hb hl j p hp
 have hj:j<100:=Nat.lt_of_lt_of_le (gS.1 hp).1 hl
 have key:∀r,r=1000000→yc (r+100*f+j)=some p:=fun r hr=>by
  have h:=yc_num r f j hj
  exact (yc_of (y:=r+100*f+j) (by rw [← hr];exact h.1) (by rw [← hr];exact h.2) hf hb).trans hp
 exact key rid rfl
theorem laid0:Laid Tryz.prog (fun _=>0) X0:=by
 intro f xf h
 unfold X0 at h
 split at h
 ·rename_i hf
  subst hf
  simp only [sI] at h
  subst h
  exact .inl ⟨by decide,rfl,_,tieE150⟩
 ·cases h
theorem more_ok (n:Nat):CallOk Tryz.prog (call X0 (fun _=>none) n):=(call_ok (pf:=fun _=>0) (fun f e he=>by cases he) laid0 yc_all (fun f _ xf _=>⟨fun h=>absurd h (by simp),fun h=>absurd h (by simp),by simp⟩) mixed n).1
theorem ext_ok:ExtOk Tryz.prog pfl E:=by
 intro f e he
 unfold E at he
 split at he
 ·rename_i hf
  subst hf
  simp only [sI] at he
  subst he
  refine⟨by decide,fun n cf hcf hp=>⟨fun args h r h' e=>?_,fun args h r h' e=>⟨fun h=>absurd h (by decide),fun h=>absurd h (by decide),fun _=>?_⟩⟩⟩
  all_goals
   unfold moreE at e
   split at e
   rotate_left
   ·cases e
   split at e
   rotate_left
   ·cases e
   rename_i hce hle
   simp only [sI,pI] at e
   obtain⟨rfl,rfl⟩:=e
   first|exact hle|exact (more_ok n _ _ _ _ _ hce).1 (by decide)
 split at he
 ·rename_i hf
  subst hf
  simp only [sI] at he
  subst he
  exact⟨by decide,fun n cf hcf hp=>⟨fun args h r h' e=>each_ext hcf mixed (by decide) (by decide) fn153 tie153 e,fun args h r h' e=>⟨fun h=>absurd h (by decide),fun h=>absurd h (by decide),fun h=>absurd h (by decide)⟩⟩⟩
 ·split at he
  ·rename_i hf
   subst hf
   simp only [sI] at he
   subst he
   refine⟨by decide,fun n cf hcf hp=>⟨fun args h r h' e=>⟨fn122,grow_at e⟩,fun args h r h' e=>⟨fun h=>absurd h (by decide),fun _=>?_,fun h=>absurd h (by decide)⟩⟩⟩
   have e:growE args h=some (r,h'):=e
   unfold growE at e
   split at e
   ·split at e
    ·simp only [sI,pI] at e;rw [← e.2];exact⟨fun _ _ _ h=>h,fun _ _ _ _ h=>h⟩
    ·split at e
     ·simp only [sI,pI] at e;rw [← e.2];exact⟨CellsLe.app _ _,CellsGe.app _ _⟩
     ·cases e
   ·cases e
  ·split at he
   ·rename_i hf
    subst hf
    simp only [sI] at he
    subst he
    refine⟨by decide,fun n cf hcf hp=>⟨fun args h r h' e=>⟨fn196,fun g w cargs H hl hr=>?_⟩,fun args h r h' e=>⟨fun h=>absurd h (by decide),fun h=>absurd h (by decide),fun h=>absurd h (by decide)⟩⟩⟩
    unfold indexE at e
    split at e
    ·rename_i s c
     simp only [sI,pI] at e
     obtain⟨rfl,rfl⟩:=e
     obtain⟨l⟩:=cargs
     match l,hl with
     | [x,y],_ =>
      have h1:x=.string s:=(hr 0 (by simp) (by simp)).of_c
      have h2:y=.int .u8 c:=(hr 1 (by simp) (by simp)).of_c
      subst h1 h2
      refine Calls.mono (indexByte_at s c w) ?_
      rintro e w' ⟨rfl,rfl⟩
      exact⟨_,g,rfl,Le.refl _ _,H,.c _,Quiet.refl _ _ _⟩
    ·cases e
   ·cases he
set_option maxRecDepth 20000
theorem lookup_key {Q:Nat→XF→Prop}(f:Nat) (xf:XF):∀(l:List (Nat × XF)),(∀p∈l,Q p.1 p.2)→l.lookup f=some xf→Q f xf:=by
 intro l
 induction l with
 | nil=>intro _ h;simp at h
 | cons p l ih =>
  intro hl h
  obtain⟨q,x⟩:=p
  rw [List.lookup_cons] at h
  split at h
  ·rename_i hq
   simp only [sI] at h
   subst h
   have:f=q:=by simpa using hq
   subst this
   exact hl (f,x) (by simp)
  ·exact ih (fun p hp=>hl p (by simp [hp])) h
def LaidAt (f:Nat) (xf:XF):Prop:=(f<rid∧xf.asg=none∧∃fn,Tryz.prog.funcs[f]?=some fn∧trF Tryz.prog pfl (rid+100*f) xf.pure xf.esc xf.rw fn=some xf)∨(rid≤f∧RoundTr Tryz.prog pfl f xf)
theorem laid_f {f:Nat}{xf:XF}{fn:Func}(hf:f<rid) (ha:xf.asg=none) (h:Tryz.prog.funcs[f]?=some fn∧trF Tryz.prog pfl (rid+100*f) xf.pure xf.esc xf.rw fn=some xf):LaidAt f xf:=.inl ⟨hf,ha,fn,h⟩
theorem laid_r {y:Nat}{xf:XF}(hy:rid≤y) (hrw:xf.rw=false){ps:List Nat}{xa:XC}(ha:xf.asg=some (ps,xa))
  (h:(match yc y with
 | some (ps,asg,body)=>some (ps.toList,trC Tryz.prog false pfl xf.ntm (y+1) asg,trC Tryz.prog false pfl xf.ntm (y+1+(rangesOf asg).length) body,(rangesOf asg).length,(rangesOf body).length)
 | none=>none)=some (ps,some xa,some xf.body,0,0)):LaidAt y xf:=by
 split at h
 ·rename_i tps asg body hyc
  simp only [sI,pI] at h
  obtain⟨rfl,h1,h2,h3,h4⟩:=h
  refine .inr ⟨hy,tps,asg,body,xa,hyc,ha,by rw [hrw];exact h1,by rw [hrw];exact h2,fun j p hp=>?_,fun j p hp=>?_⟩
  ·rw [List.eq_nil_of_length_eq_zero h3] at hp;simp at hp
  ·rw [List.eq_nil_of_length_eq_zero h4] at hp;simp at hp
 ·cases h
theorem laid:Laid Tryz.prog pfl X:=by
 intro f xf h
 unfold X at h
 refine lookup_key (Q:=LaidAt) f xf xtab ?_ h
 unfold xtab
 simp only [List.forall_mem_cons]
 exact⟨laid_f (by decide) rfl tie4,laid_f (by decide) rfl tie8,laid_f (by decide) rfl tie9,laid_f (by decide) rfl tie10,laid_f (by decide) rfl tie13,laid_f (by decide) rfl tie14,laid_f (by decide) rfl tie15,laid_f (by decide) rfl tie16,laid_f (by decide) rfl tie17,laid_f (by decide) rfl tie18,laid_f (by decide) rfl tie23,laid_f (by decide) rfl tie24,laid_f (by decide) rfl tie26,laid_f (by decide) rfl tie32,laid_f (by decide) rfl tie33,laid_f (by decide) rfl tie34,laid_f (by decide) rfl tie35,laid_f (by decide) rfl tie36,laid_f (by decide) rfl tie37,laid_f (by decide) rfl tie38,laid_f (by decide) rfl tie39,laid_f (by decide) rfl tie40,laid_f (by decide) rfl tie41,laid_f (by decide) rfl tie42,laid_f (by decide) rfl tie43,laid_f (by decide) rfl tie44,laid_f (by decide) rfl tie45,laid_f (by decide) rfl tie46,laid_f (by decide) rfl tie47,laid_f (by decide) rfl tie48,laid_f (by decide) rfl tie49,laid_f (by decide) rfl tie50,laid_f (by decide) rfl tie51,laid_f (by decide) rfl tie52,laid_f (by decide) rfl tie53,laid_f (by decide) rfl tie54,laid_f (by decide) rfl tie55,laid_f (by decide) rfl tie56,laid_f (by decide) rfl tie58,laid_f (by decide) rfl tie59,laid_f (by decide) rfl tie61,laid_f (by decide) rfl tie63,laid_f (by decide) rfl tie70,laid_f (by decide) rfl tie71,laid_f (by decide) rfl tie72,laid_f (by decide) rfl tie73,laid_f (by decide) rfl tie74,laid_f (by decide) rfl tie86,laid_f (by decide) rfl tie87,laid_f (by decide) rfl tie88,laid_f (by decide) rfl tie89,laid_f (by decide) rfl tie90,laid_f (by decide) rfl tie91,laid_f (by decide) rfl tie92,laid_f (by decide) rfl tie93,laid_f (by decide) rfl tie94,laid_f (by decide) rfl tie95,laid_f (by decide) rfl tie96,laid_f (by decide) rfl tie97,laid_f (by decide) rfl tie98,laid_f (by decide) rfl tie99,laid_f (by decide) rfl tie100,laid_f (by decide) rfl tie101,laid_f (by decide) rfl tie102,laid_f (by decide) rfl tie103,laid_f (by decide) rfl tie104,laid_f (by decide) rfl tie105,laid_f (by decide) rfl tie106,laid_f (by decide) rfl tie107,laid_f (by decide) rfl tie108,laid_f (by decide) rfl tie109,laid_f (by decide) rfl tie110,laid_f (by decide) rfl tie111,laid_f (by decide) rfl tie112,laid_f (by decide) rfl tie113,laid_f (by decide) rfl tie114,laid_f (by decide) rfl tie115,laid_f (by decide) rfl tie116,laid_f (by decide) rfl tie117,laid_f (by decide) rfl tie119,laid_f (by decide) rfl tie123,laid_f (by decide) rfl tie125,laid_f (by decide) rfl tie126,laid_f (by decide) rfl tie127,laid_f (by decide) rfl tie137,laid_f (by decide) rfl tie138,laid_f (by decide) rfl tie139,laid_f (by decide) rfl tie140,laid_f (by decide) rfl tie141,laid_f (by decide) rfl tie142,laid_f (by decide) rfl tie143,laid_f (by decide) rfl tie144,laid_f (by decide) rfl tie145,laid_f (by decide) rfl tie146,laid_f (by decide) rfl tie147,laid_f (by decide) rfl tie148,laid_f (by decide) rfl tie149,laid_f (by decide) rfl tie151,laid_f (by decide) rfl tie152,laid_f (by decide) rfl tie154,laid_f (by decide) rfl tie155,laid_f (by decide) rfl tie156,laid_f (by decide) rfl tie157,laid_f (by decide) rfl tie158,laid_f (by decide) rfl tie159,laid_f (by decide) rfl tie162,laid_f (by decide) rfl tie163,laid_f (by decide) rfl tie164,laid_f (by decide) rfl tie165,laid_f (by decide) rfl tie166,laid_f (by decide) rfl tie169,laid_f (by decide) rfl tie170,laid_f (by decide) rfl tie171,laid_f (by decide) rfl tie172,laid_f (by decide) rfl tie173,laid_f (by decide) rfl tie174,laid_f (by decide) rfl tie175,laid_f (by decide) rfl tie176,laid_f (by decide) rfl tie177,laid_f (by decide) rfl tie178,laid_f (by decide) rfl tie179,laid_f (by decide) rfl tie180,laid_f (by decide) rfl tie181,laid_f (by decide) rfl tie182,laid_f (by decide) rfl tie187,laid_f (by decide) rfl tie188,laid_f (by decide) rfl tie189,laid_f (by decide) rfl tie190,laid_f (by decide) rfl tie191,laid_f (by decide) rfl tie192,laid_f (by decide) rfl tie193,laid_f (by decide) rfl tie194,laid_f (by decide) rfl tie195,laid_f (by decide) rfl tie202,laid_r (by decide) rfl rfl rtie1011300,laid_r (by decide) rfl rfl rtie1014000,fun _ h=>absurd h (by simp)⟩
def PureAt (f:Nat) (xf:XF):Prop:=(pfl f=1→(xf.pure=true∧xf.esc=false)∧xf.asg=none)∧(pfl f=2→(xf.pure=true∧xf.esc=true)∧xf.asg=none)∧pfl f≠4
theorem pure_of {f:Nat}{xf:XF}(h:(match pfl f,xf.pure,xf.esc,xf.asg.isNone with
 | 1,true,false,true=>true
 | 2,true,true,true=>true
 | 0,_,_,_=>true
 | 3,_,_,_=>true
 | _,_,_,_=>false)=true):PureAt f xf:=by
 constructor
 ·intro h1
  rw [h1] at h
  split at h<;>first|(cases h;done)|simp_all
 constructor
 ·intro h1
  rw [h1] at h
  split at h<;>first|(cases h;done)|simp_all
 ·intro h1
  rw [h1] at h
  split at h<;>first|(cases h;done)|simp_all
theorem pures:Pures pfl X E:=by
 intro f hE xf h
 unfold X at h
 refine lookup_key (Q:=PureAt) f xf xtab ?_ h
 unfold xtab
 simp only [List.forall_mem_cons]
 exact⟨pure_of rfl,pure_of rfl,pure_of rfl,pure_of rfl,pure_of rfl,pure_of rfl,pure_of rfl,pure_of rfl,pure_of rfl,pure_of rfl,pure_of rfl,pure_of rfl,pure_of rfl,pure_of rfl,pure_of rfl,pure_of rfl,pure_of rfl,pure_of rfl,pure_of rfl,pure_of rfl,pure_of rfl,pure_of rfl,pure_of rfl,pure_of rfl,pure_of rfl,pure_of rfl,pure_of rfl,pure_of rfl,pure_of rfl,pure_of rfl,pure_of rfl,pure_of rfl,pure_of rfl,pure_of rfl,pure_of rfl,pure_of rfl,pure_of rfl,pure_of rfl,pure_of rfl,pure_of rfl,pure_of rfl,pure_of rfl,pure_of rfl,pure_of rfl,pure_of rfl,pure_of rfl,pure_of rfl,pure_of rfl,pure_of rfl,pure_of rfl,pure_of rfl,pure_of rfl,pure_of rfl,pure_of rfl,pure_of rfl,pure_of rfl,pure_of rfl,pure_of rfl,pure_of rfl,pure_of rfl,pure_of rfl,pure_of rfl,pure_of rfl,pure_of rfl,pure_of rfl,pure_of rfl,pure_of rfl,pure_of rfl,pure_of rfl,pure_of rfl,pure_of rfl,pure_of rfl,pure_of rfl,pure_of rfl,pure_of rfl,pure_of rfl,pure_of rfl,pure_of rfl,pure_of rfl,pure_of rfl,pure_of rfl,pure_of rfl,pure_of rfl,pure_of rfl,pure_of rfl,pure_of rfl,pure_of rfl,pure_of rfl,pure_of rfl,pure_of rfl,pure_of rfl,pure_of rfl,pure_of rfl,pure_of rfl,pure_of rfl,pure_of rfl,pure_of rfl,pure_of rfl,pure_of rfl,pure_of rfl,pure_of rfl,pure_of rfl,pure_of rfl,pure_of rfl,pure_of rfl,pure_of rfl,pure_of rfl,pure_of rfl,pure_of rfl,pure_of rfl,pure_of rfl,pure_of rfl,pure_of rfl,pure_of rfl,pure_of rfl,pure_of rfl,pure_of rfl,pure_of rfl,pure_of rfl,pure_of rfl,pure_of rfl,pure_of rfl,pure_of rfl,pure_of rfl,pure_of rfl,pure_of rfl,pure_of rfl,pure_of rfl,pure_of rfl,pure_of rfl,pure_of rfl,pure_of rfl,pure_of rfl,pure_of rfl,pure_of rfl,pure_of rfl,fun _ h=>absurd h (by simp)⟩
theorem seat_ok (n:Nat):CallOk Tryz.prog (call X E n):=(call_ok ext_ok laid yc_all pures mixed n).1
end Go.Proofs.YtjhffhmokcogkaaGreatDoor.Ab

