/- Part 14 of 19: what the functions do. -/
import Derived.Test.YtjhffhmokcogkaaGreatDoorCa12
set_option linter.unusedVariables false
set_option linter.unusedSimpArgs false
set_option linter.defProp false
namespace Go.Proofs.YtjhffhmokcogkaaGreatDoor.Ab
open Go
noncomputable section
set_option maxRecDepth 8000
set_option maxHeartbeats 8000000
theorem szs_drop:∀(l:List D) (j:Nat),D.szs (l.drop j)≤D.szs l
 | l,0=>by simp
 | [],j+1=>by simp
 | d::l,j+1=>by
  have:=szs_drop l j
  simp only [List.drop_succ_cons,D.szs]
  omega
theorem szs_app:∀(a b:List D),D.szs (a++b)=D.szs a+D.szs b
 | [],b=>by simp [D.szs]
 | d::a,b=>by simp only [List.cons_append,D.szs,szs_app a b];omega
theorem sz_kids (d:D):D.szs d.kids+1=d.sz:=by
 obtain⟨k,n,t,l⟩:=d
 simp only [D.kids,D.sz]
 omega
def psz (ps:List (D × Bool × Bool)):Nat:=(ps.map fun p=>p.1.sz).sum
theorem psz_map (b:Bool) (l:List D):psz (l.map (mk3 b))=D.szs l:=by
 induction l with
 | nil=>rfl
 | cons d l ih =>
  simp only [psz,List.map_cons,List.sum_cons,mk3,D.szs] at ih ⊢
  rw [ih]
theorem psz_app (a b:List (D × Bool × Bool)):psz (a++b)=psz a+psz b:=by simp [psz]
theorem len4 {l:List D}(h:l.length=4):∃a b c e,l=[a,b,c,e]:=by
 match l,h with
 | [a,b,c,e],_=>exact⟨a,b,c,e,rfl⟩
theorem pr_sum {d:D}(hf:fmW (wn d.wd) d=true):psz (prP d)+1≤d.sz:=by
 have h0:=sz_kids d
 have hd:=szs_drop d.kids
 unfold prP
 split
 ·rw [psz_map];have:=hd 1;omega
 split
 ·rw [psz_map];have:=hd 1;omega
 split
 ·rename_i _ _ hw
  have h4:d.kids.length=4:=by
   unfold fmW at hf
   rw [if_neg (by omega),if_neg (by omega),if_neg (by omega),if_pos (by omega)] at hf
   simpa using hf
  obtain⟨a,b,c,e,hk⟩:=len4 h4
  rw [psz_app,psz_map,psz_map,hk]
  rw [hk] at h0
  simp [D.szs] at h0 ⊢
  omega
 split
 ·rename_i _ _ _ hw
  have h4:d.kids.length=4:=by
   unfold fmW at hf
   rw [if_neg (by omega),if_neg (by omega),if_neg (by omega),if_neg (by omega),if_pos hw] at hf
   simp at hf
   exact hf.1
  obtain⟨a,b,c,e,hk⟩:=len4 h4
  have k2:d.kid 2=c:=by simp [D.kid,hk]
  have k3:d.kid 3=e:=by simp [D.kid,hk]
  rw [hk] at h0
  simp [psz,k2,k3,D.szs] at h0 ⊢
  omega
 split
 ·rw [psz_map];have:=hd 2;omega
 split
 ·rw [psz_map];have:=hd 2;omega
 split
 ·rename_i _ _ _ _ _ _ hw
  have h4:d.kids.length=4:=by
   unfold fmW at hf
   rw [if_neg (by omega),if_neg (by omega),if_neg (by omega),if_neg (by omega),if_neg (by omega),if_neg (by omega),if_neg (by omega),if_pos hw] at hf
   simp at hf
   exact hf.1
  obtain⟨a,b,c,e,hk⟩:=len4 h4
  have k2:d.kid 2=c:=by simp [D.kid,hk]
  have k3:d.kid 3=e:=by simp [D.kid,hk]
  have s2:=sz_kids c
  have s3:=sz_kids e
  rw [psz_app,psz_map,psz_map,k2,k3]
  rw [hk] at h0
  simp [D.szs] at h0
  omega
 ·simp [psz]
  have:=D.sz_pos d
  omega
theorem fl_len {g:D→List D}:∀{ps:List (D × Bool × Bool)},(∀p∈ps,(g p.1).length≤p.1.sz)→(ps.flatMap fun p=>g p.1).length≤psz ps
 | [],_=>by simp [psz]
 | p::ps,h=>by
  have h1:=h p (.head _)
  have h2:=fl_len (ps:=ps) fun q hq=>h q (.tail _ hq)
  simp only [List.flatMap_cons,lA,psz,List.map_cons,List.sum_cons] at h2 ⊢
  omega
theorem prE_len:∀(f:Nat) (d:D),okE f d→(prE f d).length≤d.sz
 | 0,d,_=>by simp [prE]
 | f+1,d,h=>by
  have h1:=fl_len (g:=prE f) (ps:=prP d) fun p hp=>prE_len f p.1 (h.2 p hp)
  have h2:=pr_sum h.1
  simp only [prE,lC]
  omega
theorem pr_szs {d:D}(hf:fmW (wn d.wd) d=true){p:D × Bool × Bool}(hp:p∈prP d):p.1.sz<d.sz:=by
 rcases (pr_mem hf p hp).1 with hx|⟨j,hj,hx⟩
 ·exact kid_szs hx
 ·have a:=kid_szs hx
  have b:=kid_szs (kid_mem hj)
  omega
theorem go55:∀(f:Nat) (d:D),d.sz≤f→okE f d→∀m,3*f+20≤m→f<1000000000→Gives m 55 [d.v] (.sl (D.vs (prE f d)) (if prP d=[] then .full else .any))
 | 0,d,h,_,_,_,_=>by have:=D.sz_pos d;omega
 | f+1,d,hf,hok,m,hm,hb=>by
  obtain⟨m,rfl⟩:∃m',m=m'+2:=⟨m-2,by omega⟩
  have c98:∀h,call X E (m+1) 98 [d.v] h=some (ptR (prP d),h):=go98 d hok.1 (by omega) (by omega)
  have c55:∀p∈prP d,∀h,call X E (m+1) 55 [p.1.v] h=some (.sl (D.vs (prE f p.1)) (if prP p.1=[] then .full else .any),h):=fun p hp=>go55 f p.1 (by have:=pr_szs hok.1 hp;omega) (hok.2 p hp) (m+1) (by omega) (by omega)
  have hpl:=pr_len hok.1
  have hlenE:∀j,(d::((prP d).take j).flatMap fun p=>prE f p.1).length≤d.sz:=fun j=>by
   have h1:∀p∈(prP d).take j,(prE f p.1).length≤p.1.sz:=fun p hp=>prE_len f p.1 (hok.2 p (List.mem_of_mem_take hp))
   have h2:=fl_len (g:=prE f) h1
   have h3:=pr_sum hok.1
   have h4:psz ((prP d).take j)≤psz (prP d):=by
    have h5:=psz_app ((prP d).take j) ((prP d).drop j)
    rw [List.take_append_drop] at h5
    omega
   simp only [lC]
   omega
  have hlenP:∀p∈prP d,(prE f p.1).length≤d.sz:=fun p hp=>by
   have h1:=prE_len f p.1 (hok.2 p hp)
   have:=pr_szs hok.1 hp
   omega
  have hsl:=D.vs_len
  have hz:=D.hz
  have hlow:=D.lows 0 (prE (f+1) d)
  have hlow2:(V.sl (D.vs (prE (f+1) d)) (if prP d=[] then .full else .any)).low 0=true:=by
   simp only [V.low,hlow,Bool.true_and]
   split<;>rfl
  have hne:∀p∈prP d,∃r,prE f p.1=p.1::r:=fun p hp=>by
   have h1:=pr_szs hok.1 hp
   have h2:=D.sz_pos p.1
   obtain⟨f',rfl⟩:∃f',f=f'+1:=⟨f-1,by omega⟩
   exact⟨_,rfl⟩
  refine gives_of rfl rfl rfl (by kernel_rfl) ⟨rfl,rfl⟩ (by simp [V.lows]) ?_
  generalize call X E (m+1)=cf at *
  obtain⟨i,hi⟩:=ptR_sl (prP d)
  rw [hi] at c98
  have hE:prE (f+1) d=d::(prP d).flatMap fun p=>prE f p.1:=rfl
  rw [hE] at hlow2 ⊢
  have hdz:=hf
  generalize prP d=ps at *
  clear hE
  simp -implicitDefEqProofs [x55_w,x55r1_w,x55r2_w,x55r3_w,x55r4_w,c98]
  obtain⟨J,hJ⟩:∃J:Nat→SF→Prop,J=fun k s=>∃j si,j+k=ps.length∧s.e 5=.c (.int .i64 j)∧s.e 3=.sl (D.vs (d::(ps.take j).flatMap fun p=>prE f p.1)) si∧((j=0∧si=.full)∨(0<j∧∃q,si=.tok q∧s.h[q]?=some (.tok (d::(ps.take j).flatMap fun p=>prE f p.1).length 4))):=⟨_,rfl⟩
  refine lpk_fr J ps.length (by omega) (by rw [hJ];exact⟨0,.full,by simp,by simp [upd_at],by simp [upd_at,D.vs],.inl ⟨rfl,rfl⟩⟩) ?_
  rintro k ⟨e,h',base,rb⟩ hj he hb2
  rw [hJ] at hj
  obtain⟨j,si,hj,e5,e3,hsi⟩:=hj
  have e4:=he 4 rfl
  simp [upd_at,arg0] at e4 hb2
  simp only at e5 e3 hsi
  subst hb2
  by_cases hm:j<ps.length
  rotate_left
  ·have hlt:¬(j:Int)<ps.length:=by omega
   obtain rfl:j=ps.length:=by omega
   rw [List.take_of_length_le (nL _)] at e3 hsi
   have hr:(V.sl (D.vs (d::ps.flatMap fun p=>prE f p.1)) si).vw=.sl (D.vs (d::ps.flatMap fun p=>prE f p.1)) (if ps=[] then .full else .any):=by
    rcases hsi with⟨h1,rfl⟩|⟨h1,q,rfl,_⟩
    ·rw [if_pos (List.length_eq_zero_iff.1 h1)]
     rfl
    ·rw [if_neg (by rintro rfl;simp at h1)]
     rfl
   generalize D.vs (d::ps.flatMap fun p=>prE f p.1)=U at *
   simp -implicitDefEqProofs [x55l8_w,x55_r,x55r5_w,x55r9_w,e3,e4,e5,hlt]
   exact⟨hr,hlow2⟩
  have hlt:(j:Int)<ps.length:=by omega
  have hw:IntKind.i64.wrap ((j:Int)+1)=(j:Int)+1:=wrap_in (by omega)
  have hvg:(ptV ps)[j]'(by rw [ptV_len];exact hm)=.agg (ptC ps[j]):=ptV_get _
  have hmem:=List.getElem_mem hm
  have c55x:=c55 _ hmem
  have hl1:=hlenE j
  have hl2:=hlenP _ hmem
  obtain⟨r,hr⟩:=hne _ hmem
  have htk:(ps.take (j+1)).flatMap (fun p=>prE f p.1)=(ps.take j).flatMap (fun p=>prE f p.1)++prE f (ps[j]).1:=by
   rw [List.take_add_one,gE hm,List.flatMap_append]
   simp
  generalize ps[j]=p at *
  rw [hr] at c55x hl2 htk
  generalize (if prP p.1=[] then SI.full else SI.any)=i2 at *
  have hvs:D.vs (d::(ps.take (j+1)).flatMap fun p=>prE f p.1)=D.vs (d::(ps.take j).flatMap fun p=>prE f p.1)++(p.1.v::D.vs r):=by
   rw [htk,← List.cons_append,D.vs_app]
   rfl
  have hle:(d::(ps.take (j+1)).flatMap fun p=>prE f p.1).length=(d::(ps.take j).flatMap fun p=>prE f p.1).length+(r.length+1):=by
   rw [htk]
   simp
   omega
  have z1:=hz (d::(ps.take j).flatMap fun p=>prE f p.1)
  have z2:=hz (p.1::r)
  have n1:=hsl (d::(ps.take j).flatMap fun p=>prE f p.1)
  have n2:=hsl r
  have hvc:D.vs (p.1::r)=p.1.v::D.vs r:=rfl
  rw [hvc] at c55x z2
  generalize hLL:(d::(ps.take j).flatMap fun p=>prE f p.1)=L at *
  obtain⟨L2,hL3⟩:∃L2,L2=(d::(ps.take (j+1)).flatMap fun p=>prE f p.1):=⟨_,rfl⟩
  rw [← hL3] at hvs hle
  have hL2:D.vs (d::(ps.take (j+1)).flatMap fun p=>prE f p.1)=D.vs L++(p.1.v::D.vs r):=by rw [← hL3];exact hvs
  generalize D.vs L=U at *
  have b1:(L.length+(r.length+1))*56≤140737488355328:=by simp only [lC] at hl2;omega
  have b2:L.length+(r.length+1)≤140737488355328:=by omega
  simp -implicitDefEqProofs [x55l8_w,x55r5_w,x55r6_w,x55r7_w,e3,e4,e5,hlt,hm,hvg,c55x,z1,z2,n1,n2,b1,b2]
  have hzc:zc (some 4)=4:=rfl
  rcases hsi with⟨hj0,rfl⟩|⟨hj0,q,rfl,hq⟩
  ·rw [grow_full 0 h'.length 56 (some 4) _ U (D.vs r) p.1.v (get_l1 ..),gvk_some]
   simp -implicitDefEqProofs [x55r7_w,e5]
   refine⟨k-1,by omega,?_⟩
   rw [hJ]
   refine⟨j+1,.tok h'.length,by omega,by simp [upd_at,hw],by simp [upd_at,hL2],.inr ⟨by omega,h'.length,rfl,?_⟩⟩
   rw [← hL3,hle]
   simp [hzc,n1,n2]
  ·rw [← n1] at hq
   rw [grow_tok 0 h'.length 56 q (some 4) false _ U (D.vs r) p.1.v (appE hq _),gvk_some]
   have hql:q<h'.length:=(gS.1 hq).1
   simp -implicitDefEqProofs [x55r7_w,e5]
   refine⟨k-1,by omega,?_⟩
   rw [hJ]
   refine⟨j+1,.tok q,by omega,by simp [upd_at,hw],by simp [upd_at,hL2],.inr ⟨by omega,q,rfl,?_⟩⟩
   rw [← hL3,hle]
   simp only
   rw [sS (by simp;omega)]
   simp [hzc,n1,n2]
end
noncomputable section
set_option maxRecDepth 8000
set_option maxHeartbeats 8000000
def cn (w:Nat) (l:List D):Nat:=l.countP fun x=>wn x.wd==w
theorem cn_app (w:Nat) (a b:List D):cn w (a++b)=cn w a+cn w b:=List.countP_append
theorem cn_take (w:Nat){l:List D}{j:Nat}(h:j<l.length):cn w (l.take (j+1))=cn w (l.take j)+if wn (l[j]).wd=w then 1 else 0:=by
 rw [List.take_add_one,gE h,cn_app]
 congr 1
 simp [cn]
theorem cn_le (w:Nat) (l:List D):cn w l≤l.length:=List.countP_le_length
theorem fm_take {T:List D}(g:D→List D){j:Nat}(h:j<T.length):(T.take (j+1)).flatMap g=(T.take j).flatMap g++g T[j]:=by
 rw [List.take_add_one,gE h,List.flatMap_append]
 simp
def zz26:=And.intro x17l14_w <| And.intro x17r7_w <| And.intro x17r8_w <| And.intro x17r9_w <| x17r13_w
theorem loop17 {cf:CallF}{n:Nat}{K:List Fr}{Q:Ex→SF→Prop}{s:SF}{l:List D}{i:SI}{a b:Nat}
  (c56:∀(x:D) h,cf 56 [x.v] h=some (.c (.string x.wd),h)) (hn:l.length<n) (hl:l.length<1000000000) (ha:a<1000000000000) (hb:b<1000000000000)
  (e4:s.e 4=.c (.int .i64 a)) (e5:s.e 5=.c (.int .i64 b)) (e7:s.e 7=.sl (D.vs l) i) (e8:s.e 8=.c (.int .i64 0))
  (hq:∀e rb,(∀t,(modT x17l14).contains t=false→e t=s.e t)→e 4=.c (.int .i64 (a+cn 9 l:Nat))→e 5=.c (.int .i64 (b+cn 15 l:Nat))→retk cf n K Q (.exit 2) ⟨e,s.h,s.base,rb⟩):lpk cf n x17l14 K Q s:=by
 obtain⟨J,hJ⟩:∃J:Nat→SF→Prop,J=fun k s'=>∃j,j+k=l.length∧s'.e 8=.c (.int .i64 j)∧s'.e 4=.c (.int .i64 (a+cn 9 (l.take j):Nat))∧s'.e 5=.c (.int .i64 (b+cn 15 (l.take j):Nat))∧s'.h=s.h:=⟨_,rfl⟩
 refine lpk_fr J l.length hn (by rw [hJ];exact⟨0,by simp,by simpa using e8,by simpa [cn] using e4,by simpa [cn] using e5,rfl⟩) ?_
 rintro k ⟨e,h',base,rb⟩ hj he hb2
 rw [hJ] at hj
 obtain⟨j,hj,f8,f4,f5,hh⟩:=hj
 have f7:e 7=_:=(he 7 rfl).trans e7
 simp only at f8 f4 f5 hh hb2
 subst hh hb2
 by_cases hm:j<l.length
 rotate_left
 ·have hlt:¬(j:Int)<l.length:=by omega
  obtain rfl:j=l.length:=by omega
  rw [List.take_of_length_le (nL _)] at f4 f5
  simp -implicitDefEqProofs [x17l14_w,x17r7_w,f7,f8,hlt]
  refine hq _ _ (fun t ht=>?_) (by simp [upd_at,f4]) (by simp [upd_at,f5])
  have hne:∀k,(modT x17l14).contains k=true→t≠k:=fun k hk e=>by rw [e,hk] at ht;cases ht
  simp only [upd_at,if_neg (hne 27 rfl),if_neg (hne 28 rfl),if_neg (hne 29 rfl),if_neg (hne 30 rfl)]
  exact he t ht
 have hlt:(j:Int)<l.length:=by omega
 have hw:IntKind.i64.wrap ((j:Int)+1)=(j:Int)+1:=wrap_in (by omega)
 have hvg:(D.vs l)[j]'(by rw [D.vs_len];omega)=(l[j]).v:=D.vs_getE _
 have t4:=cn_take 9 hm
 have t5:=cn_take 15 hm
 have l4:=cn_le 9 (l.take j)
 have l5:=cn_le 15 (l.take j)
 have hlt2:(l.take j).length≤l.length:=by simp;omega
 have hw4:IntKind.i64.wrap ((a+cn 9 (l.take j):Nat)+1:Int)=((a+(cn 9 (l.take j)+1):Nat):Int):=by
  rw [wrap_in (by omega)]
  omega
 have hw5:IntKind.i64.wrap ((b+cn 15 (l.take j):Nat)+1:Int)=((b+(cn 15 (l.take j)+1):Nat):Int):=by
  rw [wrap_in (by omega)]
  omega
 have c56x:=c56 l[j]
 generalize l[j]=x at *
 generalize hA:(a+cn 9 (l.take j):Nat)=A at *
 generalize hB:(b+cn 15 (l.take j):Nat)=B at *
 by_cases h9:wn x.wd=9
 ·rw [if_pos h9] at t4
  rw [if_neg (by omega)] at t5
  simp -implicitDefEqProofs [zz26,x17r10_w,f7,f8,f4,f5,hlt,hm,hvg,c56x,h9]
  refine⟨k-1,by omega,?_⟩
  rw [hJ]
  exact⟨j+1,by omega,by simp [upd_at,hw],by simp [upd_at,hw4,t4],by simp [upd_at,f5,t5,hB],rfl⟩
 have b9:(wn x.wd==9)=false:=beq_false_of_ne h9
 rw [if_neg h9] at t4
 by_cases h15:wn x.wd=15
 ·rw [if_pos h15] at t5
  simp -implicitDefEqProofs [zz26,x17r11_w,x17r12_w,f7,f8,f4,f5,hlt,hm,hvg,c56x,h15]
  refine⟨k-1,by omega,?_⟩
  rw [hJ]
  exact⟨j+1,by omega,by simp [upd_at,hw],by simp [upd_at,f4,t4,hA],by simp [upd_at,hw5,t5],rfl⟩
 have b15:(wn x.wd==15)=false:=beq_false_of_ne h15
 rw [if_neg h15] at t5
 simp -implicitDefEqProofs [zz26,x17r11_w,f7,f8,f4,f5,hlt,hm,hvg,c56x,b9,b15]
 refine⟨k-1,by omega,?_⟩
 rw [hJ]
 exact⟨j+1,by omega,by simp [upd_at,hw],by simp [upd_at,f4,t4,hA],by simp [upd_at,f5,t5,hB],rfl⟩
theorem go17 {h:List O}{id:Nat}{U:List V}{s1 s2:SI}{T:List D}(ht:TwoAt h id U s1 T s2) (hh:lowH h){g:D→List D}{is:D→SI}{n:Nat}(c55:∀x∈T,∀h,call X E (n+1) 55 [(x.kid 3).v] h=some (.sl (D.vs (g x)) (is x),h))
  (hg:∀x∈T,(g x).length<n) (hb:∀j,((T.take j).flatMap g).length<1000000000) (hn:T.length<n) (hl:T.length<1000000000) :
  call X E (n+2) 17 [.ref id 0] h=some (.tup [.c (.int .i64 (cn 9 (T.flatMap g))),.c (.int .i64 (cn 15 (T.flatMap g)))],h):=by
 have c56:∀(x:D) h,call X E (n+1) 56 [x.v] h=some (.c (.string x.wd),h):=fun x=>go56 x
 refine at_of rfl rfl rfl (by kernel_rfl) ⟨rfl,rfl⟩ (by simp [V.low,V.lows]) hh ?_
 generalize call X E (n+1)=cf at *
 have hr2:(V.ref id 0).vw2=.ref id 0:=rfl
 have hta:∀R,(h++R)[id]?=some (.cells [.sl U s1,.sl (dfV T) s2]):=fun R=>appE ht R
 have hta0:h[id]?=some (.cells [.sl U s1,.sl (dfV T) s2]):=ht
 simp -implicitDefEqProofs [x17_w,x17r1_w,x17r2_w,x17r3_w]
 obtain⟨J,hJ⟩:∃J:Nat→SF→Prop,J=fun k s'=>∃j,j+k=T.length∧s'.e 6=.c (.int .i64 j)∧s'.e 4=.c (.int .i64 (cn 9 ((T.take j).flatMap g):Nat))∧s'.e 5=.c (.int .i64 (cn 15 ((T.take j).flatMap g):Nat))∧s'.h=h:=⟨_,rfl⟩
 refine lpk_fr J T.length (by omega) (by rw [hJ];exact⟨0,by simp,by simp [upd_at],by simp [upd_at,cn],by simp [upd_at,cn],rfl⟩) ?_
 rintro k ⟨e,h',base,rb⟩ hj he hb2
 rw [hJ] at hj
 obtain⟨j,hj,f6,f4,f5,hh'⟩:=hj
 have f0:=he 0 rfl
 simp [upd_at,arg0] at f0 hb2
 simp only at f6 f4 f5 hh'
 subst hh' hb2
 by_cases hm:j<T.length
 rotate_left
 ·have hlt:¬(j:Int)<T.length:=by omega
  obtain rfl:j=T.length:=by omega
  rw [List.take_of_length_le (nL _)] at f4 f5
  simp -implicitDefEqProofs [x17l16_w,x17_r,x17r4_w,x17r17_w,f0,f4,f5,f6,hta0,hlt]
 have hlt:(j:Int)<T.length:=by omega
 have hw:IntKind.i64.wrap ((j:Int)+1)=(j:Int)+1:=wrap_in (by omega)
 have hvg:=dfV_at hm
 have hmem:=List.getElem_mem hm
 have c55x:=c55 _ hmem
 have hgx:=hg _ hmem
 have hbj:=hb j
 have hbj2:=hb (j+1)
 have hft:=fm_take g hm
 have l4:=cn_le 9 ((T.take j).flatMap g)
 have l5:=cn_le 15 ((T.take j).flatMap g)
 rw [hft,lA] at hbj2
 generalize T[j]=x at *
 simp -implicitDefEqProofs [x17l16_w,x17r4_w,x17r5_w,x17r6_w,f0,f4,f5,f6,hta0,hlt,hm,hvg,c55x]
 refine loop17 (l:=g x) (i:=is x) (a:=cn 9 ((T.take j).flatMap g)) (b:=cn 15 ((T.take j).flatMap g)) c56 (by omega) (by omega) (by omega) (by omega) (by simp [upd_at,f4]) (by simp [upd_at,f5]) (by simp [upd_at]) (by simp [upd_at]) ?_
 intro e1 rb1 hk g4 g5
 have g6:e1 6=.c (.int .i64 j):=by
  have:=hk 6 rfl
  simpa [upd_at,f6] using this
 simp -implicitDefEqProofs [x17r15_w,g6]
 refine⟨k-1,by omega,?_⟩
 rw [hJ]
 refine⟨j+1,by omega,by simp [upd_at,hw],?_,?_,rfl⟩
 ·rw [hft,cn_app]
  simp [upd_at,g4]
 ·rw [hft,cn_app]
  simp [upd_at,g5]
end
noncomputable section
set_option maxRecDepth 8000
set_option maxHeartbeats 8000000
def mxI (m:Int) (v:Int):Int:=if m<v then v else m
def mxF (m:Int) (l:List D):Int:=l.foldl (fun m x=>mxI m (x.nu+1)) m
def mxA1 (m:Int) (x:D):Int:=if wn x.wd=6 then mxI m ((x.kid 1).nu+1) else m
def mxA (m:Int) (l:List D):Int:=l.foldl mxA1 m
def okX (x:D):Prop:=fmW (wn x.wd) x=true
theorem okX_arg {x:D}(h:okX x) (hw:wn x.wd=6):x.kids.length=2∧0≤(x.kid 1).nu∧(x.kid 1).nu<8:=by
 unfold okX fmW at h
 rw [hw] at h
 simp [D.sml] at h
 exact⟨h.1,h.2.2⟩
theorem okE_mem:∀(f:Nat) (d:D),okE f d→∀x∈prE f d,okX x
 | 0,d,_,x,hx=>by cases hx
 | f+1,d,h,x,hx=>by
  rcases List.mem_cons.1 hx with rfl|hx
  ·exact h.1
  ·obtain⟨p,hp,hx⟩:=List.mem_flatMap.1 hx
   exact okE_mem f p.1 (h.2 p hp) x hx
theorem mxA_snoc (m:Int) (l:List D) (x:D):mxA m (l++[x])=mxA1 (mxA m l) x:=by simp [mxA]
theorem mxA_app (m:Int) (a b:List D):mxA m (a++b)=mxA (mxA m a) b:=by simp [mxA]
theorem mxF_snoc (m:Int) (l:List D) (x:D):mxF m (l++[x])=mxI (mxF m l) (x.nu+1):=by simp [mxF]
theorem tk_snoc {l:List D}{j:Nat}(h:j<l.length):l.take (j+1)=l.take j++[l[j]]:=by
 rw [List.take_add_one,gE h]
 rfl
theorem loop18 {cf:CallF}{n:Nat}{K:List Fr}{Q:Ex→SF→Prop}{s:SF}{l:List D}{i:SI}{a:Int}
  (c56:∀(x:D) h,cf 56 [x.v] h=some (.c (.string x.wd),h)) (hn:l.length<n) (hl:l.length<1000000000) (hok:∀x∈l,okX x)
  (e3:s.e 3=.c (.int .i64 a)) (e6:s.e 6=.sl (D.vs l) i) (e7:s.e 7=.c (.int .i64 0))
  (hq:∀e rb,(∀t,(modT x18l16).contains t=false→e t=s.e t)→e 3=.c (.int .i64 (mxA a l))→retk cf n K Q (.exit 4) ⟨e,s.h,s.base,rb⟩):lpk cf n x18l16 K Q s:=by
 obtain⟨J,hJ⟩:∃J:Nat→SF→Prop,J=fun k s'=>∃j,j+k=l.length∧s'.e 7=.c (.int .i64 j)∧s'.e 3=.c (.int .i64 (mxA a (l.take j)))∧s'.h=s.h:=⟨_,rfl⟩
 refine lpk_fr J l.length hn (by rw [hJ];exact⟨0,by simp,by simpa using e7,by simpa [mxA] using e3,rfl⟩) ?_
 rintro k ⟨e,h',base,rb⟩ hj he hb2
 rw [hJ] at hj
 obtain⟨j,hj,f7,f3,hh⟩:=hj
 have f6:e 6=_:=(he 6 rfl).trans e6
 simp only at f7 f3 hh hb2
 subst hh hb2
 by_cases hm:j<l.length
 rotate_left
 ·have hlt:¬(j:Int)<l.length:=by omega
  obtain rfl:j=l.length:=by omega
  rw [List.take_of_length_le (nL _)] at f3
  simp -implicitDefEqProofs [x18l16_w,x18r12_w,f6,f7,hlt]
  refine hq _ _ (fun t ht=>?_) (by simp [upd_at,f3])
  have hne:∀k,(modT x18l16).contains k=true→t≠k:=fun k hk e=>by rw [e,hk] at ht;cases ht
  simp only [upd_at,if_neg (hne 45 rfl),if_neg (hne 46 rfl),if_neg (hne 47 rfl),if_neg (hne 48 rfl)]
  exact he t ht
 have hlt:(j:Int)<l.length:=by omega
 have hw:IntKind.i64.wrap ((j:Int)+1)=(j:Int)+1:=wrap_in (by omega)
 have hvg:(D.vs l)[j]'(by rw [D.vs_len];omega)=(l[j]).v:=D.vs_getE _
 have ht:=tk_snoc hm
 have hox:=hok _ (List.getElem_mem hm)
 have c56x:=c56 l[j]
 generalize l[j]=x at *
 have htx:=mxA_snoc a (l.take j) x
 rw [← ht] at htx
 generalize mxA a (l.take j)=A at *
 unfold mxA1 at htx
 by_cases h6:wn x.wd=6
 ·rw [if_pos h6] at htx
  obtain⟨o1,o2,o3⟩:=okX_arg hox h6
  have l1:1<x.kids.length:=by omega
  have l1i:(1:Int)<x.kids.length:=by omega
  have v1:((D.vs x.kids)[1]'(by rw [D.vs_len];exact l1))=(x.kid 1).v:=D.vs_kid _
  have hw2:IntKind.i64.wrap ((x.kid 1).nu+1)=(x.kid 1).nu+1:=wrap_in (by omega)
  simp -implicitDefEqProofs [x18l16_w,x18r12_w,x18r13_w,x18r14_w,x18r15_w,f6,f7,f3,hlt,hm,hvg,c56x,h6,l1,l1i,v1,hw2]
  refine⟨k-1,by omega,?_⟩
  rw [hJ]
  refine⟨j+1,by omega,by simp [upd_at,hw],?_,rfl⟩
  rw [htx]
  simp [upd_at,mxI]
 have b6:(wn x.wd==6)=false:=beq_false_of_ne h6
 rw [if_neg h6] at htx
 simp -implicitDefEqProofs [x18l16_w,x18r12_w,x18r13_w,x18r15_w,f6,f7,f3,hlt,hm,hvg,c56x,b6]
 refine⟨k-1,by omega,?_⟩
 rw [hJ]
 exact⟨j+1,by omega,by simp [upd_at,hw],by rw [htx];simp [upd_at,f3],rfl⟩
end
noncomputable section
set_option maxRecDepth 8000
set_option maxHeartbeats 8000000
theorem ints_get {l:List D}{j:Nat}(h:j<l.length):(ints l)[j]'(by rw [ints_len];exact h)=.c (.int .i64 (l[j]).nu):=by simp [ints]
theorem go18 {h:List O}{id:Nat}{F:List D}{s1 s2:SI}{T:List D}(ht:TwoAt h id (ints F) s1 T s2) (hh:lowH h){g:D→List D}{is:D→SI}{n:Nat}(c55:∀x∈T,∀h,call X E (n+1) 55 [(x.kid 3).v] h=some (.sl (D.vs (g x)) (is x),h))
  (hg:∀x∈T,(g x).length<n∧(g x).length<1000000000∧∀y∈g x,okX y) (hn:T.length<n) (hl:T.length<1000000000) (hF:F.length<n∧F.length<1000000000) (hFn:∀x∈F,0≤x.nu∧x.nu<8) :
  call X E (n+2) 18 [.ref id 0] h=some (.c (.int .i64 (mxA (mxF 0 F) (T.flatMap g))),h):=by
 have c56:∀(x:D) h,call X E (n+1) 56 [x.v] h=some (.c (.string x.wd),h):=fun x=>go56 x
 refine at_of rfl rfl rfl (by kernel_rfl) ⟨rfl,rfl⟩ (by simp [V.low]) hh ?_
 generalize call X E (n+1)=cf at *
 have hr2:(V.ref id 0).vw2=.ref id 0:=rfl
 have hta0:h[id]?=some (.cells [.sl (ints F) s1,.sl (dfV T) s2]):=ht
 have hil:=ints_len F
 simp -implicitDefEqProofs [x18_w,x18r1_w,x18r2_w,x18r3_w]
 obtain⟨J,hJ⟩:∃J:Nat→SF→Prop,J=fun k s'=>∃j,j+k=F.length∧s'.e 4=.c (.int .i64 j)∧s'.e 3=.c (.int .i64 (mxF 0 (F.take j)))∧s'.h=h:=⟨_,rfl⟩
 refine lpk_fr J F.length (by omega) (by rw [hJ];exact⟨0,by simp,by simp [upd_at],by simp [upd_at,mxF],rfl⟩) ?_
 rintro k ⟨e,h',base,rb⟩ hj he hb2
 rw [hJ] at hj
 obtain⟨j,hj,f4,f3,hh'⟩:=hj
 have f0:=he 0 rfl
 simp [upd_at,arg0] at f0 hb2
 simp only at f4 f3 hh'
 subst hh' hb2
 by_cases hm:j<F.length
 ·have hlt:(j:Int)<F.length:=by omega
  have hw:IntKind.i64.wrap ((j:Int)+1)=(j:Int)+1:=wrap_in (by omega)
  have hvg:=ints_get hm
  have ht:=tk_snoc hm
  have hox:=hFn _ (List.getElem_mem hm)
  generalize F[j]=x at *
  have htx:=mxF_snoc 0 (F.take j) x
  rw [← ht] at htx
  generalize mxF 0 (F.take j)=A at *
  have hw2:IntKind.i64.wrap (x.nu+1)=x.nu+1:=wrap_in (by omega)
  simp -implicitDefEqProofs [x18l7_w,x18r4_w,x18r5_w,x18r6_w,f0,f4,f3,hta0,hil,hlt,hm,hvg,hw2]
  refine⟨k-1,by omega,?_⟩
  rw [hJ]
  refine⟨j+1,by omega,by simp [upd_at,hw],?_,rfl⟩
  rw [htx]
  simp [upd_at,mxI]
 have hlt:¬(j:Int)<F.length:=by omega
 obtain rfl:j=F.length:=by omega
 rw [List.take_of_length_le (nL _)] at f3
 simp -implicitDefEqProofs [x18l7_w,x18r4_w,x18r8_w,f0,f4,f3,hta0,hil,hlt]
 clear hj he
 generalize mxF 0 F=A at *
 obtain⟨J2,hJ2⟩:∃J2:Nat→SF→Prop,J2=fun k s'=>∃j,j+k=T.length∧s'.e 5=.c (.int .i64 j)∧s'.e 3=.c (.int .i64 (mxA A ((T.take j).flatMap g)))∧s'.h=h':=⟨_,rfl⟩
 refine lpk_fr J2 T.length (by omega) (by rw [hJ2];exact⟨0,by simp,by simp [upd_at],by simp [upd_at,mxA,f3],rfl⟩) ?_
 rintro k2 ⟨e2,h2,base2,rb2⟩ hj he hb2
 rw [hJ2] at hj
 obtain⟨j,hj,g5,g3,hh'⟩:=hj
 have g0:=he 0 rfl
 simp [upd_at,f0] at g0 hb2
 simp only at g5 g3 hh'
 subst hh' hb2
 by_cases hm:j<T.length
 rotate_left
 ·have hlt:¬(j:Int)<T.length:=by omega
  obtain rfl:j=T.length:=by omega
  rw [List.take_of_length_le (nL _)] at g3
  simp -implicitDefEqProofs [x18l18_w,x18_r,x18r9_w,x18r19_w,g0,g3,g5,hta0,hlt]
 have hlt:(j:Int)<T.length:=by omega
 have hw:IntKind.i64.wrap ((j:Int)+1)=(j:Int)+1:=wrap_in (by omega)
 have hvg:=dfV_at hm
 have hmem:=List.getElem_mem hm
 have c55x:=c55 _ hmem
 obtain⟨hg1,hg2,hg3⟩:=hg _ hmem
 have hft:=fm_take g hm
 generalize T[j]=x at *
 simp -implicitDefEqProofs [x18l18_w,x18r9_w,x18r10_w,x18r11_w,g0,g3,g5,hta0,hlt,hm,hvg,c55x]
 refine loop18 (l:=g x) (i:=is x) (a:=mxA A ((T.take j).flatMap g)) c56 (by omega) (by omega) hg3 (by simp [upd_at,g3]) (by simp [upd_at]) (by simp [upd_at]) ?_
 intro e1 rb1 hk k3
 have k5:e1 5=.c (.int .i64 j):=by
  have:=hk 5 rfl
  simpa [upd_at,g5] using this
 simp -implicitDefEqProofs [x18r17_w,k5]
 refine⟨k2-1,by omega,?_⟩
 rw [hJ2]
 refine⟨j+1,by omega,by simp [upd_at,hw],?_,rfl⟩
 rw [hft,mxA_app]
 simp [upd_at,k3]
end
noncomputable section
set_option maxRecDepth 8000
set_option maxHeartbeats 8000000
theorem call122 (n:Nat) (args:List V) (h:List O):call X E (n+1) 122 args h=growE args h:=rfl
theorem go61 (A B:List D) (hb:A.length+B.length<1000000000){n:Nat}(hn:3<n){i:SI}:∃si,(si=.nil∨si=.any)∧Gives (n+2) 61 [.sl [.sl (D.vs A) .any,.sl (D.vs B) .any] i] (.sl (D.vs (A++B)) si):=by
 have c122:∀args h,call X E (n+1) 122 args h=growE args h:=fun args h=>call122 n args h
 have hsl:=D.vs_len
 have hz:=D.hz
 have hlA:=D.lows 0 A
 have hlB:=D.lows 0 B
 have hAB:=D.vs_app A B
 rw [hAB]
 refine⟨if A++B=[] then .nil else .any,by split<;>simp,?_⟩
 have hi0:i.low 0=true∨i.low 0=false:=by cases i.low 0<;>simp
 refine gives_of rfl rfl rfl (by kernel_rfl) ⟨rfl,rfl⟩ (by simp [V.lows,V.low,SI.low,vw2_sl,hlA,hlB]) ?_
 generalize call X E (n+1)=cf at *
 have hw0:IntKind.i64.wrap ((A.length:Int))=A.length:=wrap_in (by omega)
 have hw1:IntKind.i64.wrap ((A.length:Int)+B.length)=(A.length:Int)+B.length:=wrap_in (by omega)
 have n0:¬((A.length:Int)<0):=by omega
 have n1:¬((A.length:Int)+B.length<0):=by omega
 have sA:=hsl A
 have sB:=hsl B
 simp -implicitDefEqProofs [x61_w,x61r1_w,x61r2_w,x61r3_w]
 obtain⟨RR,hRR⟩:∃RR:V,RR=.sl (D.vs A++D.vs B) (if A=[]∧B=[] then SI.nil else SI.any):=⟨_,rfl⟩
 have hRl:RR.low 0=true:=by
  rw [hRR]
  simp only [V.low,lows_cat,hlA,hlB,Bool.true_and]
  split<;>rfl
 rw [← hRR]
 obtain⟨J,hJ⟩:∃J:Nat→SF→Prop,J=fun k s=>k≤2∧s.e 11=.c (.int .i64 (2-(k:Int)))∧s.e 3=.c (.int .i64 (if k=2 then 0 else if k=1 then (A.length:Int) else (A.length:Int)+B.length))∧s.h=[]:=⟨_,rfl⟩
 refine lpk_fr J 2 (by omega) (by rw [hJ];exact⟨nL _,by simp [upd_at],by simp [upd_at],rfl⟩) ?_
 rintro k ⟨e,h',base,rb⟩ hj he hb2
 rw [hJ] at hj
 obtain⟨hk,f11,f3,hh⟩:=hj
 have f0:=he 0 rfl
 have f9:=he 9 rfl
 have f10:=he 10 rfl
 simp [upd_at,arg0] at f0 f9 f10 hb2
 simp only at f11 f3 hh
 subst hh hb2
 match k,hk with
 | 2,_ =>
  have f11':e 11=.c (.int .i64 0):=by simpa using f11
  simp only [if_true] at f3
  simp -implicitDefEqProofs [x61l9_w,x61r4_w,x61r5_w,x61r6_w,x61r7_w,x61r8_w,f0,f9,f10,f11',f3,sA,sB,hw0,n0]
  refine⟨1,by omega,?_⟩
  rw [hJ]
  exact⟨by omega,by simp [upd_at];rfl,by simp [upd_at],rfl⟩
 | 1,_ =>
  have f11':e 11=.c (.int .i64 1):=by simpa using f11
  simp only [Nat.reduceEqDiff,if_false,if_true] at f3
  simp -implicitDefEqProofs [x61l9_w,x61r4_w,x61r5_w,x61r6_w,x61r7_w,x61r8_w,f0,f9,f10,f11',f3,sA,sB,hw1,n1]
  rw [hJ]
  exact⟨by omega,by simp [upd_at];rfl,by simp [upd_at],rfl⟩
 | 0,_ =>
 have f11':e 11=.c (.int .i64 2):=by simpa using f11
 simp only [Nat.reduceEqDiff,if_false] at f3
 by_cases hz0:(A.length:Int)+B.length=0
 ·have hA:A=[]:=List.length_eq_zero_iff.1 (by omega)
  have hB:B=[]:=List.length_eq_zero_iff.1 (by omega)
  subst hA hB
  have hR2:RR=.sl [] .nil:=by rw [hRR];rfl
  rw [hR2] at hRl ⊢
  have c0:∀h,cf 122 [.sl [] .nil,.c (.int .i64 0)] h=some (.sl [] .nil,h):=fun h=>by rw [c122];simp [growE]
  simp only [List.length_nil,Int.ofNat_zero,Int.add_zero] at f3
  have f3':e 3=.c (.int .i64 0):=by simpa using f3
  simp -implicitDefEqProofs [x61l9_w,x61r4_w,x61r10_w,x61r11_w,f0,f9,f10,f11',f3',c0]
  obtain⟨J2,hJ2⟩:∃J:Nat→SF→Prop,J=fun k s=>k≤2∧s.e 27=.c (.int .i64 (2-(k:Int)))∧s.e 6=.sl [] .nil:=⟨_,rfl⟩
  refine lpk_fr J2 2 (by omega) (by rw [hJ2];exact⟨nL _,by simp [upd_at],by simp [upd_at]⟩) ?_
  rintro k2 ⟨e2,h2,base2,rb2⟩ hj he2 hb3
  rw [hJ2] at hj
  obtain⟨hk2,g27,g6⟩:=hj
  have g25:=he2 25 rfl
  have g26:=he2 26 rfl
  simp [upd_at,f0,D.vs] at g25 g26 hb3
  simp only at g27 g6
  match k2,hk2 with
  | 2,_ =>
   have g27':e2 27=.c (.int .i64 0):=by simpa using g27
   simp -implicitDefEqProofs [x61l16_w,x61r12_w,x61r13_w,x61r14_w,x61r15_w,g25,g26,g27',g6]
   refine⟨1,by omega,?_⟩
   rw [hJ2]
   exact⟨by omega,by simp [upd_at];rfl,by simp [upd_at]⟩
  | 1,_ =>
   have g27':e2 27=.c (.int .i64 1):=by simpa using g27
   simp -implicitDefEqProofs [x61l16_w,x61r12_w,x61r13_w,x61r14_w,x61r15_w,g25,g26,g27',g6]
   rw [hJ2]
   exact⟨by omega,by simp [upd_at];rfl,by simp [upd_at]⟩
  | 0,_ =>
   have g27':e2 27=.c (.int .i64 2):=by simpa using g27
   simp -implicitDefEqProofs [x61l16_w,x61_r,x61r12_w,x61r17_w,g25,g26,g27',g6]
   exact hRl
 have hpos:0<(A.length:Int)+B.length:=by omega
 have hRR2:RR=.sl (D.vs A++D.vs B) .any:=by
  rw [hRR,if_neg]
  rintro⟨rfl,rfl⟩
  exact hz0 rfl
 have c0:∀h,cf 122 [.sl [] .nil,.c (.int .i64 ((A.length:Int)+B.length))] h=some (.sl [] (.tok h.length),h++[.tok 0 4]):=fun h=>by
  rw [c122]
  simp only [growE]
  rw [if_neg hz0,if_pos ⟨hpos,by omega⟩]
 simp -implicitDefEqProofs [x61l9_w,x61r4_w,x61r10_w,x61r11_w,f0,f9,f10,f11',f3,c0]
 obtain⟨J2,hJ2⟩:∃J:Nat→SF→Prop,J=fun k s=>k≤2∧s.e 27=.c (.int .i64 (2-(k:Int)))∧∃si,s.e 6=.sl (if k=2 then [] else if k=1 then D.vs A else D.vs A++D.vs B) si∧(∃q,si=.tok q)∧Grows 4 (if k=2 then [] else if k=1 then D.vs A else D.vs A++D.vs B) si s.h:=⟨_,rfl⟩
 have hzA:=hz A
 have hzB:=hz B
 have b1:A.length*56≤140737488355328:=by omega
 have b2:A.length≤140737488355328:=by omega
 have b3:(A.length+B.length)*56≤140737488355328:=by omega
 have b4:A.length+B.length≤140737488355328:=by omega
 have gtok:∀{us ws:List V}{q al:Nat}{h:List O},Grows 4 us (.tok q) h→∃h',grow 0 al 56 (some 4) false h us (.tok q) ws=some (.sl (us++ws) (.tok q),h')∧Grows 4 (us++ws) (.tok q) h':=by
  intro us ws q al h hG
  rcases hG with⟨_,h1|h1⟩|⟨q',h1,h2⟩
  ·cases h1
  ·cases h1
  ·cases h1
   cases ws with
   | nil=>exact⟨h,by rw [grow_none,List.append_nil],by rw [List.append_nil];exact .inr ⟨q,rfl,h2⟩⟩
   | cons w ws =>
    refine⟨_,grow_tok 0 al 56 q (some 4) false h us ws w h2,.inr ⟨q,rfl,?_⟩⟩
    rw [sS (gS.1 h2).1]
    simp [zc]
 refine lpk_fr J2 2 (by omega) (by rw [hJ2];exact⟨nL _,by simp [upd_at],.tok 0,by simp [upd_at],⟨0,rfl⟩,.inr ⟨0,rfl,rfl⟩⟩) ?_
 rintro k2 ⟨e2,h2,base2,rb2⟩ hj he2 hb3
 rw [hJ2] at hj
 obtain⟨hk2,g27,si,g6,⟨q,rfl⟩,hG⟩:=hj
 have g25:=he2 25 rfl
 have g26:=he2 26 rfl
 simp [upd_at,f0] at g25 g26 hb3
 simp only at g27 g6 hG
 subst hb3
 match k2,hk2 with
 | 2,_ =>
  have g27':e2 27=.c (.int .i64 0):=by simpa using g27
  simp only [if_true] at g6 hG
  obtain⟨h3,q1,q2⟩:=gtok (ws:=D.vs A) (al:=h2.length) (hG.app [.dead])
  rw [List.nil_append] at q1 q2
  simp -implicitDefEqProofs [x61l16_w,x61r12_w,x61r13_w,x61r14_w,x61r15_w,g25,g26,g27',g6,sA,hzA,b1,b2,q1]
  refine⟨1,by omega,?_⟩
  rw [hJ2]
  exact⟨by omega,by simp [upd_at];rfl,.tok q,by simp [upd_at],⟨q,rfl⟩,by simpa using q2⟩
 | 1,_ =>
  have g27':e2 27=.c (.int .i64 1):=by simpa using g27
  simp only [Nat.reduceEqDiff,if_false,if_true] at g6 hG
  obtain⟨h3,q1,q2⟩:=gtok (ws:=D.vs B) (al:=h2.length) (hG.app [.dead])
  simp -implicitDefEqProofs [x61l16_w,x61r12_w,x61r13_w,x61r14_w,x61r15_w,g25,g26,g27',g6,sA,sB,hzA,hzB,b3,b4,q1]
  rw [hJ2]
  exact⟨by omega,by simp [upd_at];rfl,.tok q,by simp [upd_at],⟨q,rfl⟩,by simpa using q2⟩
 | 0,_ =>
  have g27':e2 27=.c (.int .i64 2):=by simpa using g27
  simp only [Nat.reduceEqDiff,if_false] at g6
  rw [hRR2] at hRl ⊢
  simp -implicitDefEqProofs [x61l16_w,x61_r,x61r12_w,x61r17_w,g25,g26,g27',g6]
  exact hRl
end
noncomputable section
set_option maxRecDepth 8000
set_option maxHeartbeats 8000000
theorem okX_wd {y:D}(h:okX y):y.wd=(y.kid 0).tx∧1≤y.kids.length:=by
 have h99:wn y.wd≠99:=fun e=>by
  unfold okX fmW at h
  rw [e] at h
  simp at h
 refine⟨?_,wd_len h99⟩
 unfold D.wd at h99 ⊢
 split
 ·rfl
 ·rename_i hc
  rw [if_neg hc] at h99
  exact absurd wd_nil h99
def inn (y:D):List D:=(prP y).map fun p=>p.1
theorem inn_map (b:Bool) (l:List D):(l.map (mk3 b)).map (fun p=>p.1)=l:=by
 rw [List.map_map]
 exact List.map_id' l
def zz27:=And.intro x101_r <| And.intro x101r1_w <| And.intro x101r2_w <| And.intro x101r3_w <| And.intro x101r4_w <| And.intro x101r5_w <| And.intro x101r6_w <| And.intro x101r7_w <| And.intro x101r8_w <| And.intro x101r9_w <| And.intro x101r10_w <| And.intro x101r11_w <| And.intro x101r12_w <| And.intro x101r13_w <| And.intro x101r14_w <| And.intro x101r15_w <| And.intro x101r16_w <| And.intro x101r17_w <| x101_w
theorem go101 {y:D}(hok:okX y) (hb:y.sz<100000000){n:Nat}(hn:3<n):∃i,Gives (n+3) 101 [y.v] (.sl (D.vs (inn y)) i):=by
 obtain⟨hwd,hl1⟩:=okX_wd hok
 unfold okX at hok
 have hl0i:(0:Int)<y.kids.length:=by omega
 have hl0:0<y.kids.length:=by omega
 have v0:((D.vs y.kids)[0]'(by rw [D.vs_len];exact hl0))=(y.kid 0).v:=D.vs_kid _
 have hlow:=D.lows 0
 have hsl:=D.vs_len y.kids
 have hkl:=kids_lt y
 unfold fmW at hok
 by_cases h4:wn y.wd=4
 ·have hT:wn (y.kid 0).tx=4:=by rw [← hwd];exact h4
  rw [h4] at hok
  have hI:inn y=[]:=by simp [inn,prP,h4]
  rw [hI]
  refine⟨.nil,?_⟩
  have hlo:=hlow ([])
  refine gives_of rfl rfl rfl (by kernel_rfl) ⟨rfl,rfl⟩ (by simp [V.lows]) ?_
  generalize call X E (n+2)=cf at *
  simp -implicitDefEqProofs [zz27,v0,hl0,hl0i,hT]
  exact⟨rfl,rfl⟩
 by_cases h5:wn y.wd=5
 ·have hT:wn (y.kid 0).tx=5:=by rw [← hwd];exact h5
  rw [h5] at hok
  have hI:inn y=[]:=by simp [inn,prP,h5]
  rw [hI]
  refine⟨.nil,?_⟩
  have hlo:=hlow ([])
  refine gives_of rfl rfl rfl (by kernel_rfl) ⟨rfl,rfl⟩ (by simp [V.lows]) ?_
  generalize call X E (n+2)=cf at *
  simp -implicitDefEqProofs [zz27,v0,hl0,hl0i,hT]
  exact⟨rfl,rfl⟩
 by_cases h6:wn y.wd=6
 ·have hT:wn (y.kid 0).tx=6:=by rw [← hwd];exact h6
  rw [h6] at hok
  have hI:inn y=[]:=by simp [inn,prP,h6]
  rw [hI]
  refine⟨.nil,?_⟩
  have hlo:=hlow ([])
  refine gives_of rfl rfl rfl (by kernel_rfl) ⟨rfl,rfl⟩ (by simp [V.lows]) ?_
  generalize call X E (n+2)=cf at *
  simp -implicitDefEqProofs [zz27,v0,hl0,hl0i,hT]
  exact⟨rfl,rfl⟩
 by_cases h8:wn y.wd=8
 ·have hT:wn (y.kid 0).tx=8:=by rw [← hwd];exact h8
  rw [h8] at hok
  have hI:inn y=[]:=by simp [inn,prP,h8]
  rw [hI]
  refine⟨.nil,?_⟩
  have hlo:=hlow ([])
  refine gives_of rfl rfl rfl (by kernel_rfl) ⟨rfl,rfl⟩ (by simp [V.lows]) ?_
  generalize call X E (n+2)=cf at *
  simp -implicitDefEqProofs [zz27,v0,hl0,hl0i,hT]
  exact⟨rfl,rfl⟩
 by_cases h2:wn y.wd=2
 ·have hT:wn (y.kid 0).tx=2:=by rw [← hwd];exact h2
  rw [h2] at hok
  have hl4:y.kids.length=4:=by
   simp at hok
   exact hok.1
  have h2i:(2:Int)≤y.kids.length:=by omega
  have h2l:2≤y.kids.length:=by omega
  have hI:inn y=y.kids.drop 2:=by
   obtain⟨a,b,c,e,hk⟩:=len4 hl4
   have k2:y.kid 2=c:=by simp [D.kid,hk]
   have k3:y.kid 3=e:=by simp [D.kid,hk]
   simp [inn,prP,h2,k2,k3,hk]
  rw [hI]
  refine⟨.any,?_⟩
  have hlo:=hlow (y.kids.drop 2)
  refine gives_of rfl rfl rfl (by kernel_rfl) ⟨rfl,rfl⟩ (by simp [V.lows]) ?_
  generalize call X E (n+2)=cf at *
  simp -implicitDefEqProofs [zz27,v0,hl0,hl0i,hT,h2i,h2l,hsl]
  exact⟨D.hz _,by simp [V.low,hlow,SI.low]⟩
 by_cases h12:wn y.wd=12
 ·have hT:wn (y.kid 0).tx=12:=by rw [← hwd];exact h12
  rw [h12] at hok
  have hl4:y.kids.length=4:=by
   simp at hok
   exact hok.1
  have h2i:(2:Int)≤y.kids.length:=by omega
  have h2l:2≤y.kids.length:=by omega
  have hI:inn y=y.kids.drop 2:=by
   obtain⟨a,b,c,e,hk⟩:=len4 hl4
   have k2:y.kid 2=c:=by simp [D.kid,hk]
   have k3:y.kid 3=e:=by simp [D.kid,hk]
   simp [inn,prP,h12,k2,k3,hk]
  rw [hI]
  refine⟨.any,?_⟩
  have hlo:=hlow (y.kids.drop 2)
  refine gives_of rfl rfl rfl (by kernel_rfl) ⟨rfl,rfl⟩ (by simp [V.lows]) ?_
  generalize call X E (n+2)=cf at *
  simp -implicitDefEqProofs [zz27,v0,hl0,hl0i,hT,h2i,h2l,hsl]
  exact⟨D.hz _,by simp [V.low,hlow,SI.low]⟩
 by_cases h13:wn y.wd=13
 ·have hT:wn (y.kid 0).tx=13:=by rw [← hwd];exact h13
  rw [h13] at hok
  have hl4:y.kids.length=4:=by
   simp at hok
   exact hok.1
  have h2i:(2:Int)≤y.kids.length:=by omega
  have h2l:2≤y.kids.length:=by omega
  have hI:inn y=y.kids.drop 2:=by
   obtain⟨a,b,c,e,hk⟩:=len4 hl4
   have k2:y.kid 2=c:=by simp [D.kid,hk]
   have k3:y.kid 3=e:=by simp [D.kid,hk]
   simp [inn,prP,h13,k2,k3,hk]
  rw [hI]
  refine⟨.any,?_⟩
  have hlo:=hlow (y.kids.drop 2)
  refine gives_of rfl rfl rfl (by kernel_rfl) ⟨rfl,rfl⟩ (by simp [V.lows]) ?_
  generalize call X E (n+2)=cf at *
  simp -implicitDefEqProofs [zz27,v0,hl0,hl0i,hT,h2i,h2l,hsl]
  exact⟨D.hz _,by simp [V.low,hlow,SI.low]⟩
 by_cases h7:wn y.wd=7
 ·have hT:wn (y.kid 0).tx=7:=by rw [← hwd];exact h7
  rw [h7] at hok
  have h2l:2≤y.kids.length:=by
   simp at hok
   exact hok.1
  have h2i:(2:Int)≤y.kids.length:=by omega
  have hI:inn y=y.kids.drop 2:=by
   unfold inn prP
   rw [h7]
   exact inn_map false _
  rw [hI]
  refine⟨.any,?_⟩
  have hlo:=hlow (y.kids.drop 2)
  refine gives_of rfl rfl rfl (by kernel_rfl) ⟨rfl,rfl⟩ (by simp [V.lows]) ?_
  generalize call X E (n+2)=cf at *
  simp -implicitDefEqProofs [zz27,v0,hl0,hl0i,hT,h2i,h2l,hsl]
  exact⟨D.hz _,by simp [V.low,hlow,SI.low]⟩
 by_cases h14:wn y.wd=14
 ·have hT:wn (y.kid 0).tx=14:=by rw [← hwd];exact h14
  rw [h14] at hok
  have h2l:2≤y.kids.length:=by
   simp at hok
   exact hok.1
  have h2i:(2:Int)≤y.kids.length:=by omega
  have hI:inn y=y.kids.drop 2:=by
   unfold inn prP
   rw [h14]
   exact inn_map true _
  rw [hI]
  refine⟨.any,?_⟩
  have hlo:=hlow (y.kids.drop 2)
  refine gives_of rfl rfl rfl (by kernel_rfl) ⟨rfl,rfl⟩ (by simp [V.lows]) ?_
  generalize call X E (n+2)=cf at *
  simp -implicitDefEqProofs [zz27,v0,hl0,hl0i,hT,h2i,h2l,hsl]
  exact⟨D.hz _,by simp [V.low,hlow,SI.low]⟩
 by_cases h3:wn y.wd=3
 ·have hT:wn (y.kid 0).tx=3:=by rw [← hwd];exact h3
  rw [h3] at hok
  have h2l:2≤y.kids.length:=by
   simp at hok
   exact hok.1
  have h2i:(2:Int)≤y.kids.length:=by omega
  have hI:inn y=y.kids.drop 2:=by
   unfold inn prP
   rw [h3]
   exact inn_map false _
  rw [hI]
  refine⟨.any,?_⟩
  have hlo:=hlow (y.kids.drop 2)
  refine gives_of rfl rfl rfl (by kernel_rfl) ⟨rfl,rfl⟩ (by simp [V.lows]) ?_
  generalize call X E (n+2)=cf at *
  simp -implicitDefEqProofs [zz27,v0,hl0,hl0i,hT,h2i,h2l,hsl]
  exact⟨D.hz _,by simp [V.low,hlow,SI.low]⟩
 by_cases h9:wn y.wd=9
 ·have hT:wn (y.kid 0).tx=9:=by rw [← hwd];exact h9
  rw [h9] at hok
  have h1i:(1:Int)≤y.kids.length:=by omega
  have hI:inn y=y.kids.drop 1:=by
   unfold inn prP
   rw [h9]
   exact inn_map false _
  rw [hI]
  refine⟨.any,?_⟩
  have hlo:=hlow (y.kids.drop 1)
  refine gives_of rfl rfl rfl (by kernel_rfl) ⟨rfl,rfl⟩ (by simp [V.lows]) ?_
  generalize call X E (n+2)=cf at *
  simp -implicitDefEqProofs [zz27,v0,hl0,hl0i,hT,h1i,hl1,hsl]
  exact⟨D.hz _,by simp [V.low,hlow,SI.low]⟩
 by_cases h1:wn y.wd=1
 ·have hT:wn (y.kid 0).tx=1:=by rw [← hwd];exact h1
  rw [h1] at hok
  have h1i:(1:Int)≤y.kids.length:=by omega
  have hI:inn y=y.kids.drop 1:=by
   unfold inn prP
   rw [h1]
   exact inn_map false _
  rw [hI]
  refine⟨.any,?_⟩
  have hlo:=hlow (y.kids.drop 1)
  refine gives_of rfl rfl rfl (by kernel_rfl) ⟨rfl,rfl⟩ (by simp [V.lows]) ?_
  generalize call X E (n+2)=cf at *
  simp -implicitDefEqProofs [zz27,v0,hl0,hl0i,hT,h1i,hl1,hsl]
  exact⟨D.hz _,by simp [V.low,hlow,SI.low]⟩
 by_cases h11:wn y.wd=11
 ·have hT:wn (y.kid 0).tx=11:=by rw [← hwd];exact h11
  rw [h11] at hok
  have h1i:(1:Int)≤y.kids.length:=by omega
  have hI:inn y=y.kids.drop 1:=by
   unfold inn prP
   rw [h11]
   exact inn_map true _
  rw [hI]
  refine⟨.any,?_⟩
  have hlo:=hlow (y.kids.drop 1)
  refine gives_of rfl rfl rfl (by kernel_rfl) ⟨rfl,rfl⟩ (by simp [V.lows]) ?_
  generalize call X E (n+2)=cf at *
  simp -implicitDefEqProofs [zz27,v0,hl0,hl0i,hT,h1i,hl1,hsl]
  exact⟨D.hz _,by simp [V.low,hlow,SI.low]⟩
 by_cases h10:wn y.wd=10
 ·have hT:wn (y.kid 0).tx=10:=by rw [← hwd];exact h10
  rw [h10] at hok
  have h1i:(1:Int)≤y.kids.length:=by omega
  have hI:inn y=y.kids.drop 1:=by
   have hl4:y.kids.length=4:=by simpa using hok
   obtain⟨a,b,c,e,hk⟩:=len4 hl4
   simp [inn,prP,h10,hk,mk3]
  rw [hI]
  refine⟨.any,?_⟩
  have hlo:=hlow (y.kids.drop 1)
  refine gives_of rfl rfl rfl (by kernel_rfl) ⟨rfl,rfl⟩ (by simp [V.lows]) ?_
  generalize call X E (n+2)=cf at *
  simp -implicitDefEqProofs [zz27,v0,hl0,hl0i,hT,h1i,hl1,hsl]
  exact⟨D.hz _,by simp [V.low,hlow,SI.low]⟩
 by_cases h15:wn y.wd=15
 ·have hT:wn (y.kid 0).tx=15:=by rw [← hwd];exact h15
  rw [h15] at hok
  have hl4:y.kids.length=4:=by
   simp at hok
   exact hok.1
  have p2l:2<y.kids.length:=by omega
  have p3l:3<y.kids.length:=by omega
  have p2i:(2:Int)<y.kids.length:=by omega
  have p3i:(3:Int)<y.kids.length:=by omega
  have v2:((D.vs y.kids)[2]'(by rw [D.vs_len];exact p2l))=(y.kid 2).v:=D.vs_kid _
  have v3:((D.vs y.kids)[3]'(by rw [D.vs_len];exact p3l))=(y.kid 3).v:=D.vs_kid _
  have s2:=kid_szs (kid_mem p2l)
  have s3:=kid_szs (kid_mem p3l)
  have k2:=kids_lt (y.kid 2)
  have k3:=kids_lt (y.kid 3)
  have hI:inn y=(y.kid 2).kids++(y.kid 3).kids:=by
   unfold inn prP
   rw [h15]
   show ((y.kid 2).kids.map (mk3 false)++(y.kid 3).kids.map (mk3 true)).map (fun p=>p.1)=_
   rw [List.map_append,inn_map,inn_map]
  rw [hI]
  have hlo:=hlow ((y.kid 2).kids++(y.kid 3).kids)
  obtain⟨i2,hi2,c61f⟩:=go61 (y.kid 2).kids (y.kid 3).kids (by omega) (n:=n) hn (i:=.full)
  refine⟨i2,?_⟩
  refine gives_of rfl rfl rfl (by kernel_rfl) ⟨rfl,rfl⟩ (by simp [V.lows]) ?_
  have c61f':∀h,call X E (n+2) 61 [.sl [.sl (D.vs (y.kid 2).kids) .any,.sl (D.vs (y.kid 3).kids) .any] .full] h=_:=c61f
  generalize call X E (n+2)=cf at *
  simp -implicitDefEqProofs [zz27,v0,hl0,hl0i,hT,p2l,p3l,p2i,p3i,v2,v3,hsl,c61f']
  rcases hi2 with rfl|rfl
  ·exact⟨rfl,by simp only [V.low,hlo];rfl⟩
  ·exact⟨rfl,by simp only [V.low,hlo];rfl⟩
 exfalso
 rw [if_neg (by omega),if_neg (by omega),if_neg (by omega),if_neg (by omega),if_neg (by omega),if_neg (by omega),if_neg (by omega),if_neg (by omega)] at hok
 cases hok
end
noncomputable section
set_option maxRecDepth 8000
set_option maxHeartbeats 8000000
structure Vis {σ:Type}(hst:σ→List O) (nx:σ→D→σ) (fv:V) (n0 L0:Nat):Prop where
 vw:fv.vw2=fv
 ok:okc fv=true
 len:fv.cells.length=1
 one:fv.cells=[fv]
 low:fv.low L0=true
 size:∀s,(hst s).length=L0
 keep:∀s R,lowH (hst s++R)→∀s',lowH (hst s'++R)
 call:∀x,okX x→∀n,n0≤n→∀s R,lowH (hst s++R)→callV (Ab.call X E n) fv [x.v] (hst s++R)=some (.tup [],hst (nx s x)++R)
theorem fl_inn (f:Nat) (y:D):((prP y).flatMap fun p=>prE f p.1)=(inn y).flatMap (prE f):=by
 unfold inn
 rw [List.flatMap_map]
theorem go100 {σ:Type}{hst:σ→List O}{nx:σ→D→σ}{fv:V}{n0 L0:Nat}(hV:Vis hst nx fv n0 L0):∀(f:Nat) (y:D),y.sz≤f→okE f y→y.sz<100000000→∀m,n0+3*f+10≤m→∀(s:σ) (R:List O) (p q:Nat),R[p]?=some (.cells [fv])→R[q]?=some (.cells [.clo 100 [.ref (L0+p) 0,.ref (L0+q) 0]])→lowH (hst s++R) →
  call X E m 100 [y.v,.ref (L0+p) 0,.ref (L0+q) 0] (hst s++R)=some (.tup [],hst ((prE f y).foldl nx s)++R)
 | 0,y,h,_,_,_,_,_,_,_,_,_,_,_=>by have:=D.sz_pos y;omega
 | f+1,y,hf,hok,hb,m,hm,s,R,p,q,hp,hq,hlo=>by
  obtain⟨m,rfl⟩:∃m',m=m'+4:=⟨m-4,by omega⟩
  have hX:okX y:=hok.1
  obtain⟨i,c101⟩:=go101 hX hb (n:=m) (by omega)
  have c101:∀h,call X E (m+3) 101 [y.v] h=some (.sl (D.vs (inn y)) i,h):=c101
  have cv:=hV.call y hX (m+3) (by omega) s
  have hin:∀x∈inn y,x.sz<y.sz∧okE f x:=fun x hx=>by
   obtain⟨pp,hpp,rfl⟩:=List.mem_map.1 hx
   exact⟨pr_szs hok.1 hpp,hok.2 pp hpp⟩
  have c100:∀x∈inn y,∀(s:σ) (R:List O),R[p]?=some (.cells [fv])→R[q]?=some (.cells [.clo 100 [.ref (L0+p) 0,.ref (L0+q) 0]])→lowH (hst s++R)→call X E (m+3) 100 [x.v,.ref (L0+p) 0,.ref (L0+q) 0] (hst s++R)=some (.tup [],hst ((prE f x).foldl nx s)++R):=fun x hx s R a b c =>
   go100 hV f x (by have:=(hin x hx).1;omega) (hin x hx).2 (by have:=(hin x hx).1;omega) (m+3) (by omega) s R p q a b c
  have hE:prE (f+1) y=y::(inn y).flatMap (prE f):=by rw [← fl_inn];rfl
  have hlen:(inn y).length<m+3∧(inn y).length<1000000000:=by
   have h1:=pr_len hok.1
   have h2:(inn y).length=(prP y).length:=by simp [inn]
   constructor<;>omega
  rw [hE,List.foldl_cons,call_run (xf:=x100) rfl rfl rfl]
  have hgp:∀s' R',(hst s'++(R++R'))[L0+p]?=some (.cells [fv]):=fun s' R'=>by
   rw [aR (by rw [hV.size];omega),hV.size,Nat.add_sub_cancel_left]
   exact appE hp _
  have hgq:∀s' R',(hst s'++(R++R'))[L0+q]?=some (.cells [.clo 100 [.ref (L0+p) 0,.ref (L0+q) 0]]):=fun s' R'=>by
   rw [aR (by rw [hV.size];omega),hV.size,Nat.add_sub_cancel_left]
   exact appE hq _
  refine runF_at (by kernel_rfl) rfl rfl (wpk_of ?_)
  have hsl:=D.vs_len (inn y)
  have hs0:=hV.size
  have hkeep:=hV.keep
  generalize hm3:m+3=M at *
  generalize call X E M=cf at *
  have hlo1:lowH (hst s++(R++[O.cells y.v.cells])):=by
   rw [← List.append_assoc]
   exact lowD hlo y
  have cv1:=cv _ hlo1
  have hle:∀a b:σ,∀Z,(hst a++Z).length=(hst b++Z).length:=fun a b Z=>by simp [hs0]
  simp -implicitDefEqProofs [x100_w,x100r1_w,x100r2_w,x100r3_w,↓hgp,↓hgq,cv1,hs0,c101]
  have h102:(100:Nat)<rid:=by decide
  obtain⟨J,hJ⟩:∃J:Nat→SF→Prop,J=fun k s'=>∃j R',j+k=(inn y).length∧s'.e 12=.c (.int .i64 j)∧s'.h=hst ((((inn y).take j).flatMap (prE f)).foldl nx (nx s y))++(R++R')∧lowH (hst (nx s y)++(R++R')):=⟨_,rfl⟩
  refine lpk_fr J (inn y).length hlen.1 (by rw [hJ];exact⟨0,[O.cells y.v.cells],by simp,by simp [upd_at],by simp,hkeep _ _ hlo1 _⟩) ?_
  rintro k ⟨e,h',base,rb⟩ hj he hb2
  rw [hJ] at hj
  obtain⟨j,R',hj,f12,hh',hlR⟩:=hj
  have g1:=he 1 rfl
  have g2:=he 2 rfl
  have g10:=he 10 rfl
  have g11:=he 11 rfl
  simp [upd_at,arg0] at g1 g2 g10 g11 hb2
  simp only at f12 hh'
  subst hh' hb2
  by_cases hm2:j<(inn y).length
  rotate_left
  ·have hlt:¬(j:Int)<(inn y).length:=by omega
   obtain rfl:j=(inn y).length:=by omega
   rw [List.take_of_length_le (nL _)]
   have hlF:=hkeep s R hlo ((((inn y).flatMap (prE f))).foldl nx (nx s y))
   unfold lowH at hlF
   rw [lA,hs0,List.all_append,bT] at hlF
   simp -implicitDefEqProofs [x100l8_w,x100_r,x100r4_w,f12,g11,hlt]
   refine⟨rfl,rfl,?_,fun x hx=>List.all_eq_true.1 hlF.1 x hx,fun x hx=>List.all_eq_true.1 hlF.2 x hx⟩
   rw [← List.append_assoc]
   exact List.take_left' (by rw [lA,hs0])
  have hlt:(j:Int)<(inn y).length:=by omega
  have hw:IntKind.i64.wrap ((j:Int)+1)=(j:Int)+1:=wrap_in (by omega)
  have hvg:(D.vs (inn y))[j]'(by rw [D.vs_len];omega)=((inn y)[j]).v:=D.vs_getE _
  have hmem:=List.getElem_mem hm2
  have hft:=fm_take (prE f) hm2
  have c100x:=c100 _ hmem
  generalize (inn y)[j]=x at *
  obtain⟨S,hS⟩:∃S,S=(((inn y).take j).flatMap (prE f)).foldl nx (nx s y):=⟨_,rfl⟩
  rw [← hS]
  have hlR2:lowH (hst (nx s y)++(R++(R'++[O.cells x.v.cells]))):=by
   have h3:=lowD hlR x
   simpa using h3
  have cx:=c100x S (R++(R'++[O.cells x.v.cells])) (appE hp _) (appE hq _) (hkeep _ _ hlR2 _)
  simp -implicitDefEqProofs [x100l8_w,x100r4_w,x100r5_w,x100r6_w,x100r7_w,f12,g1,g2,g10,g11,hlt,hm2,hsl,hvg,D.spl,↓hgq,h102,hs0,cx]
  refine⟨k-1,by omega,?_⟩
  rw [hJ]
  refine⟨j+1,R'++[O.cells x.v.cells],by omega,by simp [upd_at,hw],?_,hlR2⟩
  rw [hft,List.foldl_append,← hS]
end
noncomputable section
set_option maxRecDepth 8000
set_option maxHeartbeats 8000000
theorem go44 {σ:Type}{hst:σ→List O}{nx:σ→D→σ}{fv:V}{n0 L0:Nat}(hV:Vis hst nx fv n0 L0) (hfv:fv.vwf=fv){f:Nat}{t:D}(hb:t.sz<100000000) (hl1:2≤t.kids.length){T:List D}(hT:t.kids.drop 1=T)
  (hT4:∀x∈T,x.kids.length=4∧okE f (x.kid 3)) (hf:t.sz≤f){m:Nat}(hm:n0+3*f+20≤m) (s:σ) (R:List O) (hlo:lowH (hst s++R)) :
  call X E m 44 [t.v,fv] (hst s++R)=some (.tup [],hst ((T.flatMap fun x=>prE f (x.kid 3)).foldl nx s)++R):=by
 obtain⟨m,rfl⟩:∃m',m=m'+1:=⟨m-1,by omega⟩
 have hTl:T.length=t.kids.length-1:=by rw [← hT];simp
 have hkl:=kids_lt t
 have h1i:(1:Int)≤t.kids.length:=by omega
 have h1l:1≤t.kids.length:=by omega
 have hTm:∀x∈T,x∈t.kids:=fun x hx=>drop_mem (by rw [← hT] at hx;exact hx)
 obtain⟨W,hW⟩:∃W,W=[O.cells t.v.cells,O.cells [fv],O.cells [.clo 100 [.ref (L0+(R.length+1)) 0,.ref (L0+(R.length+2)) 0]]]:=⟨_,rfl⟩
 have hp:∀R',(R++(W++R'))[R.length+1]?=some (.cells [fv]):=fun R'=>by
  rw [aR (by omega),Nat.add_sub_cancel_left,hW]
  rfl
 have hq:∀R',(R++(W++R'))[R.length+2]?=some (.cells [.clo 100 [.ref (L0+(R.length+1)) 0,.ref (L0+(R.length+2)) 0]]):=fun R'=>by
  rw [aR (by omega),Nat.add_sub_cancel_left,hW]
  rfl
 have c100:∀x∈T,∀(s:σ) (R':List O),lowH (hst s++(R++(W++R')))→call X E m 100 [(x.kid 3).v,.ref (L0+(R.length+1)) 0,.ref (L0+(R.length+2)) 0] (hst s++(R++(W++R')))=some (.tup [],hst ((prE f (x.kid 3)).foldl nx s)++(R++(W++R'))):=fun x hx s R' hl=>by
  obtain⟨h4,hok⟩:=hT4 x hx
  have k1:=kid_szs (hTm x hx)
  have k2:=kid_szs (kid_mem (d:=x) (j:=3) (by omega))
  exact go100 hV f (x.kid 3) (by omega) hok (by omega) m (by omega) s _ _ _ (hp R') (hq R') hl
 rw [call_run (xf:=x44) rfl rfl rfl]
 refine runF_at (by kernel_rfl) rfl rfl (wpk_of ?_)
 have hsl:=D.vs_len t.kids
 have hs0:=hV.size
 have hkeep:=hV.keep
 have hfw:=hV.vw
 have hfo:=hV.ok
 have hfl:=hV.len
 have hfc:=hV.one
 have hvsl:=D.vs_len T
 have hT1:t.kids.tail=T:=by rw [← List.drop_one];exact hT
 have hz:=D.hz t.kids
 have hfL:fv.low L0=true:=hV.low
 have hlW:lowH (hst s++(R++W)):=by
  rw [← List.append_assoc]
  refine lowS hlo ?_
  have h1:=D.lowBox ((hst s++R).length+W.length) t
  have h2:fv.low ((hst s++R).length+W.length)=true:=low_mono (by rw [lA,hs0];omega) fv hfL
  have h3:(hst s++R).length=L0+R.length:=by rw [lA,hs0]
  rw [hW] at h1 h2 ⊢
  rw [h3] at h1 h2 ⊢
  simp only [lC,List.length_nil] at h1 h2 ⊢
  simp [h1,olow_cells,V.lows,V.low,h2]
  omega
 generalize call X E m=cf at *
 have hg:∀(u:σ) (R':List O) (k:Nat),(hst u++R')[L0+k]?=R'[k]?:=fun u R' k=>by
  rw [aR (by rw [hs0];omega),hs0,Nat.add_sub_cancel_left]
 have hall:∀u:σ,(∀o∈hst u,O.low (L0+R.length) o=true)∧∀o∈R,O.low (L0+R.length) o=true:=fun u=>by
  have h1:=hkeep s R hlo u
  unfold lowH at h1
  rw [lA,hs0,List.all_append,bT] at h1
  exact⟨List.all_eq_true.1 h1.1,List.all_eq_true.1 h1.2⟩
 obtain⟨P,hP⟩:∃P,P=hst s++R:=⟨_,rfl⟩
 have hPl:P.length=L0+R.length:=by rw [hP,lA,hs0]
 rw [← hP]
 simp -implicitDefEqProofs [x44_w,x44r1_w,x44r2_w,x44r3_w,x44r4_w,hfw,hfo,hfl,hfc,hfv,hsl,h1i,h1l,hT1,hz]
 have h102:(100:Nat)<rid:=by decide
 have hb1:P.length+1=L0+(R.length+1):=by omega
 have hb2:P.length+2=L0+(R.length+2):=by omega
 have hPW:P++[O.cells t.v.cells,O.cells [fv],O.cells [V.clo 100 [V.ref (P.length+1) 0,V.ref (P.length+2) 0]]]=hst s++(R++(W++[])):=by
  rw [hb1,hb2,hW,hP]
  simp
 obtain⟨J,hJ⟩:∃J:Nat→SF→Prop,J=fun k s'=>∃j R',j+k=T.length∧s'.e 12=.c (.int .i64 j)∧s'.h=hst (((T.take j).flatMap fun x=>prE f (x.kid 3)).foldl nx s)++(R++(W++R'))∧lowH (hst s++(R++(W++R'))):=⟨_,rfl⟩
 refine lpk_fr J T.length (by omega) (by rw [hJ];exact⟨0,[],by simp,by simp [upd_at],hPW,by simpa using hlW⟩) ?_
 rintro k ⟨e,h',base,rb⟩ hj he hb2'
 rw [hJ] at hj
 obtain⟨j,R',hj,f12,hh',hlR⟩:=hj
 have g4:=he 4 rfl
 have g10:=he 10 rfl
 have g11:=he 11 rfl
 simp [upd_at,arg0] at g4 g10 g11 hb2'
 rw [hb2] at g4
 simp only at f12 hh'
 subst hh' hb2'
 by_cases hm2:j<T.length
 rotate_left
 ·have hlt:¬(j:Int)<T.length:=by omega
  obtain rfl:j=T.length:=by omega
  rw [List.take_of_length_le (nL _)]
  have hA:=hall ((T.flatMap fun x=>prE f (x.kid 3)).foldl nx s)
  simp -implicitDefEqProofs [x44l9_w,x44_r,x44r5_w,f12,g11,hlt]
  refine⟨rfl,rfl,?_,by rw [hPl];exact hA.1,by rw [hPl];exact hA.2⟩
  rw [← List.append_assoc]
  exact List.take_left' (by rw [lA,hs0,hPl])
 have hlt:(j:Int)<T.length:=by omega
 have hw:IntKind.i64.wrap ((j:Int)+1)=(j:Int)+1:=wrap_in (by omega)
 have hvg:(D.vs T)[j]'(by rw [D.vs_len];omega)=(T[j]).v:=D.vs_getE _
 have hmem:=List.getElem_mem hm2
 have hft:=fm_take (fun x=>prE f (x.kid 3)) hm2
 have c100x:=c100 _ hmem
 have hx4:=(hT4 _ hmem).1
 generalize T[j]=x at *
 obtain⟨S,hS⟩:∃S,S=((T.take j).flatMap fun x=>prE f (x.kid 3)).foldl nx s:=⟨_,rfl⟩
 rw [← hS]
 have p3l:3<x.kids.length:=by omega
 have p3i:(3:Int)<x.kids.length:=by omega
 have v3:((D.vs x.kids)[3]'(by rw [D.vs_len];exact p3l))=(x.kid 3).v:=D.vs_kid _
 have hlR2:lowH (hst s++(R++(W++(R'++[O.cells x.v.cells])))):=by
  have h3:=lowD hlR x
  simpa using h3
 have cx:=c100x S (R'++[O.cells x.v.cells]) (hkeep _ _ hlR2 _)
 have hgq:∀R',(hst S++(R++(W++R')))[L0+(R.length+2)]?=some (.cells [.clo 100 [.ref (L0+(R.length+1)) 0,.ref (L0+(R.length+2)) 0]]):=fun R'=>by
  rw [hg]
  exact hq R'
 have hWl:W.length=3:=by rw [hW];rfl
 clear hW hPW
 simp -implicitDefEqProofs [x44l9_w,x44r5_w,x44r6_w,x44r7_w,x44r8_w,f12,g4,g10,g11,hlt,hm2,hvsl,hvg,D.spl,↓hgq,h102,hs0,hWl,p3l,p3i,v3,cx]
 refine⟨k-1,by omega,?_⟩
 rw [hJ]
 refine⟨j+1,R'++[O.cells x.v.cells],by omega,by simp [upd_at,hw],?_,hlR2⟩
 rw [hft,List.foldl_append,← hS]
end
set_option linter.defProp false
section
variable (cf:CallF) (n:Nat) (s:SF) (K:List Fr) (Q:Ex→SF→Prop)
def x4r1_w:=rK' x4r1 rfl
def x4r2_w:=rK' x4r2 rfl
def x4r3_w:=rK' x4r3 rfl
def x4r4_w:=rK' x4r4 rfl
def x4r5_w:=rK' x4r5 rfl
def x4r6_w:=rK' x4r6 rfl
def x4r8_w:=rK' x4r8 rfl
def x4r9_w:=rK' x4r9 rfl
def x4r10_w:=rK' x4r10 rfl
def x4r11_w:=rK' x4r11 rfl
def x4_w:=bK' x4 rfl
def x4_r:=bR x4 rfl
def x10r1_w:=rK' x10r1 rfl
def x10r2_w:=rK' x10r2 rfl
def x10r3_w:=rK' x10r3 rfl
def x10r4_w:=rK' x10r4 rfl
def x10r5_w:=rK' x10r5 rfl
def x10r6_w:=rK' x10r6 rfl
def x10_w:=bK' x10 rfl
def x10_r:=bR x10 rfl
def x45r1_w:=rK' x45r1 rfl
def x45r2_w:=rK' x45r2 rfl
def x45r3_w:=rK' x45r3 rfl
def x45r4_w:=rK' x45r4 rfl
def x45r5_w:=rK' x45r5 rfl
def x45r6_w:=rK' x45r6 rfl
def x45_w:=bK' x45 rfl
def x45_r:=bR x45 rfl
end
noncomputable section
set_option maxRecDepth 8000
set_option maxHeartbeats 8000000
def hst45 (t:D) (s:Int × Int):List O:=[O.cells t.v.cells,.cells [.c (.int .i64 s.1)],.cells [.c (.int .i64 s.2)]]
def nx45 (s:Int × Int) (x:D):Int × Int:=if wn x.wd=9 then (IntKind.i64.wrap (s.1+1),s.2) else if wn x.wd=15 then (s.1,IntKind.i64.wrap (s.2+1)) else s
def zz28:=And.intro x45_r <| And.intro x45r1_w <| And.intro x45r2_w <| And.intro x45r3_w <| x45_w
theorem go45 (t:D){x:D}(hx:okX x) (n:Nat) (s:Int × Int) (R:List O) (hlo:lowH (hst45 t s++R)) (hlo':lowH (hst45 t (nx45 s x)++R)) :
  call X E (n+1) 45 [x.v,.ref 1 0,.ref 2 0] (hst45 t s++R)=some (.tup [],hst45 t (nx45 s x)++R):=by
 obtain⟨hwd,hl1⟩:=okX_wd hx
 have l0i:(0:Int)<x.kids.length:=by omega
 have l0:0<x.kids.length:=by omega
 have v0:((D.vs x.kids)[0]'(by rw [D.vs_len];exact l0))=(x.kid 0).v:=D.vs_kid _
 have hsl:=D.vs_len x.kids
 obtain⟨a,b⟩:=s
 have hall:∀o∈hst45 t (nx45 (a,b) x)++R,O.low (hst45 t (a,b)++R).length o=true:=by
  unfold lowH at hlo'
  rw [List.all_eq_true] at hlo'
  intro o ho
  exact hlo' o ho
 rw [call_run (xf:=x45) rfl rfl rfl]
 refine runF_at (by kernel_rfl) rfl rfl (wpk_of ?_)
 generalize call X E n=cf at *
 unfold nx45 at hall ⊢
 rw [hwd] at hall ⊢
 unfold hst45 at hall ⊢
 by_cases h9:wn (x.kid 0).tx=9
 ·simp only [h9,if_true] at hall ⊢
  simp -implicitDefEqProofs [zz28,x45r4_w,l0,l0i,v0,hsl,h9]
  refine⟨rfl,rfl,?_⟩
  simpa using hall
 have b9:(wn (x.kid 0).tx==9)=false:=beq_false_of_ne h9
 by_cases h15:wn (x.kid 0).tx=15
 ·simp only [if_neg h9,h15,if_true] at hall ⊢
  simp -implicitDefEqProofs [zz28,x45r5_w,x45r6_w,l0,l0i,v0,hsl,h15,b9]
  refine⟨rfl,rfl,?_⟩
  simpa using hall
 have b15:(wn (x.kid 0).tx==15)=false:=beq_false_of_ne h15
 simp only [if_neg h9,if_neg h15] at hall ⊢
 simp -implicitDefEqProofs [zz28,x45r5_w,l0,l0i,v0,hsl,b15,b9]
 refine⟨rfl,rfl,?_⟩
 simpa using hall
theorem low_cell {m:Nat}(x:Value):O.low m (.cells [.c x])=true:=rfl
theorem keep_of {A B R:List O}(hA:A.length=B.length) (hB:∀m,B.all (O.low m)=true) (h:lowH (A++R)):lowH (B++R):=by
 unfold lowH at h ⊢
 rw [List.all_append,bT,lA] at h ⊢
 rw [hA] at h
 exact⟨hB _,h.2⟩
theorem hst45_low (t:D) (s:Int × Int) (m:Nat):(hst45 t s).all (O.low m)=true:=by
 simp only [hst45,List.all_cons,List.all_nil,D.lowBox,low_cell,Bool.and_self]
theorem vis45 (t:D):Vis (hst45 t) nx45 (.clo 45 [.ref 1 0,.ref 2 0]) 1 3 where
 vw:=rfl
 ok:=rfl
 len:=rfl
 one:=rfl
 low:=rfl
 size:=fun _=>rfl
 keep:=fun s R h s'=>keep_of rfl (hst45_low t s') h
 call:=fun x hx n hn s R h=>by
  obtain⟨n,rfl⟩:∃n',n=n'+1:=⟨n-1,by omega⟩
  rw [calV_clo,if_pos (by decide),List.singleton_append,go45 t hx n s R h (keep_of rfl (hst45_low t _) h),calR_s,if_pos (by simp [hst45])]
def hst99 (t:D) (m:Int):List O:=[O.cells t.v.cells,.cells [.c (.int .i64 m)]]
theorem hst99_low (t:D) (s:Int) (m:Nat):(hst99 t s).all (O.low m)=true:=by
 simp only [hst99,List.all_cons,List.all_nil,D.lowBox,low_cell,Bool.and_self]
theorem go99 (t:D){x:D}(hx:okX x) (n:Nat) (s:Int) (R:List O) (hlo':lowH (hst99 t (mxA1 s x)++R)) :
  call X E (n+1) 99 [x.v,.ref 1 0] (hst99 t s++R)=some (.tup [],hst99 t (mxA1 s x)++R):=by
 obtain⟨hwd,hl1⟩:=okX_wd hx
 have l0i:(0:Int)<x.kids.length:=by omega
 have l0:0<x.kids.length:=by omega
 have v0:((D.vs x.kids)[0]'(by rw [D.vs_len];exact l0))=(x.kid 0).v:=D.vs_kid _
 have hsl:=D.vs_len x.kids
 have hall:∀o∈hst99 t (mxA1 s x)++R,O.low (hst99 t s++R).length o=true:=by
  unfold lowH at hlo'
  rw [List.all_eq_true] at hlo'
  intro o ho
  exact hlo' o ho
 have harg:=okX_arg hx
 rw [call_run (xf:=x99) rfl rfl rfl]
 refine runF_at (by kernel_rfl) rfl rfl (wpk_of ?_)
 generalize call X E n=cf at *
 unfold mxA1 at hall ⊢
 rw [hwd] at hall harg ⊢
 unfold hst99 at hall ⊢
 by_cases h6:wn (x.kid 0).tx=6
 ·obtain⟨o1,o2,o3⟩:=harg h6
  have l1i:(1:Int)<x.kids.length:=by omega
  have l1:1<x.kids.length:=by omega
  have v1:((D.vs x.kids)[1]'(by rw [D.vs_len];exact l1))=(x.kid 1).v:=D.vs_kid _
  have hw:IntKind.i64.wrap ((x.kid 1).nu+1)=(x.kid 1).nu+1:=wrap_in (by omega)
  rw [if_pos h6] at hall ⊢
  unfold mxI at hall ⊢
  simp -implicitDefEqProofs [x99_w,x99_r,x99r1_w,x99r2_w,x99r3_w,l0,l0i,v0,l1,l1i,v1,hsl,h6,hw]
  refine⟨rfl,rfl,?_⟩
  simpa using hall
 have b6:(wn (x.kid 0).tx==6)=false:=beq_false_of_ne h6
 rw [if_neg h6] at hall ⊢
 simp -implicitDefEqProofs [x99_w,x99_r,x99r1_w,x99r2_w,l0,l0i,v0,hsl,b6]
 refine⟨rfl,rfl,?_⟩
 simpa using hall
theorem vis99 (t:D):Vis (hst99 t) mxA1 (.clo 99 [.ref 1 0]) 1 2 where
 vw:=rfl
 ok:=rfl
 len:=rfl
 one:=rfl
 low:=rfl
 size:=fun _=>rfl
 keep:=fun s R h s'=>keep_of rfl (hst99_low t s') h
 call:=fun x hx n hn s R h=>by
  obtain⟨n,rfl⟩:∃n',n=n'+1:=⟨n-1,by omega⟩
  rw [calV_clo,if_pos (by decide),List.singleton_append,go99 t hx n s R (keep_of rfl (hst99_low t _) h),calR_s,if_pos (by simp [hst99])]
end
noncomputable section
set_option maxRecDepth 8000
set_option maxHeartbeats 8000000
theorem fl2_len {g:D→List D}:∀{T:List D},(∀x∈T,(g x).length≤x.sz)→(T.flatMap g).length≤D.szs T
 | [],_=>by simp [D.szs]
 | x::T,h=>by
  have h1:=h x (.head _)
  have h2:=fl2_len (T:=T) fun y hy=>h y (.tail _ hy)
  simp only [List.flatMap_cons,lA,D.szs]
  omega
def exs (t:D):List D:=(t.kids.drop 1).flatMap fun x=>prE t.sz (x.kid 3)
theorem exs_len {t:D}(h:t.tck=0):(exs t).length≤t.sz:=by
 obtain⟨h1,h2,h3,h4,h5,h6⟩:=tck_zero h
 have h7:(exs t).length≤D.szs (t.kids.drop 1):=fl2_len fun x hx=>by
  obtain⟨a,b⟩:=h6 x hx
  have:=prE_len t.sz (x.kid 3) b
  have:=kid_szs (kid_mem (d:=x) (j:=3) (by omega))
  omega
 have h8:=szs_drop t.kids 1
 have h9:=sz_kids t
 omega
theorem cn_cons (w:Nat) (x:D) (l:List D):cn w (x::l)=(if wn x.wd=w then 1 else 0)+cn w l:=by
 simp only [cn,List.countP_cons,beq_iff_eq]
 omega
theorem fold45:∀(l:List D) (a b:Nat),a+b+l.length<1000000000000→l.foldl nx45 ((a:Int),(b:Int))=(((a+cn 9 l:Nat):Int),((b+cn 15 l:Nat):Int))
 | [],a,b,_=>by simp [cn]
 | x::l,a,b,h=>by
  simp only [lC] at h
  rw [List.foldl_cons,cn_cons,cn_cons]
  have e1:IntKind.i64.wrap ((a:Int)+1)=((a+1:Nat):Int):=by rw [wrap_in (by omega)];omega
  have e2:IntKind.i64.wrap ((b:Int)+1)=((b+1:Nat):Int):=by rw [wrap_in (by omega)];omega
  by_cases h9:wn x.wd=9
  ·rw [if_pos h9,if_neg (by omega),show nx45 ((a:Int),(b:Int)) x=(((a+1:Nat):Int),(b:Int)) by unfold nx45;rw [if_pos h9,e1],fold45 l (a+1) b (by omega)]
   congr 2<;>omega
  ·rw [if_neg h9]
   by_cases h15:wn x.wd=15
   ·rw [if_pos h15,show nx45 ((a:Int),(b:Int)) x=((a:Int),((b+1:Nat):Int)) by unfold nx45;rw [if_neg h9,if_pos h15,e2],fold45 l a (b+1) (by omega)]
    congr 2<;>omega
   ·rw [if_neg h15,show nx45 ((a:Int),(b:Int)) x=((a:Int),(b:Int)) by unfold nx45;rw [if_neg h9,if_neg h15],fold45 l a b (by omega)]
    congr 2<;>omega
theorem go15 (t:D) (hs:t.sz<1000000000){n:Nat}(hn:12*t.sz+410≤n):Gives (n+1) 15 [t.v] (.tup [.c (.int .i64 (if t.tck=0 then (cn 9 (exs t):Int) else 0)),.c (.int .i64 (if t.tck=0 then (cn 15 (exs t):Int) else 0)),.c (.int .i64 t.tck)]):=by
 obtain⟨n,rfl⟩:∃n',n=n'+1:=⟨n-1,by omega⟩
 have c16:∀h,call X E (n+1) 16 [t.v] h=some (.c (.int .i64 t.tck),h):=go16 t hs (by omega)
 by_cases h0:t.tck=0
 rotate_left
 ·have h0b:(t.tck != 0)=true:=by simp [h0]
  rw [if_neg h0,if_neg h0]
  refine gives_of rfl rfl rfl (by kernel_rfl) ⟨rfl,rfl⟩ (by simp [V.lows,V.low]) ?_
  generalize call X E (n+1)=cf at *
  simp -implicitDefEqProofs [x15_w,x15_r,x15r1_w,x15r2_w,x15r3_w,x15r4_w,c16,h0b]
  try rfl
 rw [if_pos h0,if_pos h0]
 have hlen:=exs_len h0
 obtain⟨h1,h2,h3,h4,h5,h6⟩:=tck_zero h0
 have hlo:lowH (hst45 t (0,0)++[]):=by
  rw [List.append_nil]
  exact hst45_low t _ _
 have c44:=go44 (vis45 t) rfl (f:=t.sz) (t:=t) (by omega) h3 rfl h6 (nL _) (m:=n+1) (by omega) (0,0) [] hlo
 have hfold:=fold45 (exs t) 0 0 (by omega)
 rw [show ((t.kids.drop 1).flatMap fun x=>prE t.sz (x.kid 3))=exs t from rfl] at c44
 rw [show ((0,0):Int × Int)=(((0:Nat):Int),((0:Nat):Int)) from rfl,hfold] at c44
 rw [List.append_nil,List.append_nil,Nat.zero_add,Nat.zero_add] at c44
 rw [h0] at c16 ⊢
 generalize cn 9 (exs t)=A at *
 generalize cn 15 (exs t)=B at *
 unfold hst45 at c44
 simp only [Int.ofNat_zero] at c44
 refine gives_of rfl rfl rfl (by kernel_rfl) ⟨rfl,rfl⟩ (by simp [V.lows,V.low]) ?_
 generalize call X E (n+1)=cf at *
 simp -implicitDefEqProofs [x15_w,x15_r,x15r1_w,x15r2_w,x15r3_w,x15r5_w,x15r6_w,x15r7_w,c16,c44]
 rfl
end
noncomputable section
set_option maxRecDepth 8000
set_option maxHeartbeats 8000000
theorem go43 (t:D) (h0:t.tck=0){n:Nat}(hn:12*t.sz+410≤n):Gives (n+1) 43 [t.v] (.c (.int .i64 (mxA (mxF 0 (t.kid 0).kids) (exs t)))):=by
 obtain⟨h1,h2,h3,h4,h5,h6⟩:=tck_zero h0
 have hkl:=kids_lt t
 have l0:0<t.kids.length:=by omega
 have l0i:(0:Int)<t.kids.length:=by omega
 have v0:((D.vs t.kids)[0]'(by rw [D.vs_len];exact l0))=(t.kid 0).v:=D.vs_kid _
 have k0:=kid_szs (kid_mem l0)
 have y0:=kids_lt (t.kid 0)
 have c44:∀(m:Int) (R:List O),lowH (hst99 t m++R)→call X E n 44 [t.v,.clo 99 [.ref 1 0]] (hst99 t m++R)=some (.tup [],hst99 t (mxA m (exs t))++R):=fun m R hlo =>
  go44 (vis99 t) rfl (f:=t.sz) (t:=t) (by omega) h3 rfl h6 (nL _) (m:=n) (by omega) m R hlo
 generalize hF:(t.kid 0).kids=F at *
 have hsl:=D.vs_len F
 have hslt:=D.vs_len t.kids
 refine gives_of rfl rfl rfl (by kernel_rfl) ⟨rfl,rfl⟩ (by simp [V.lows,V.low]) ?_
 have hFn:F.length<n:=by omega
 generalize call X E n=cf at *
 simp -implicitDefEqProofs [x43_w,x43r1_w,x43r2_w,x43r3_w,l0,l0i,v0,hsl,hslt,hF]
 obtain⟨J,hJ⟩:∃J:Nat→SF→Prop,J=fun k s'=>∃j R',j+k=F.length∧s'.e 12=.c (.int .i64 j)∧s'.h=hst99 t (mxF 0 (F.take j))++R'∧lowH (hst99 t 0++R'):=⟨_,rfl⟩
 refine lpk_fr J F.length hFn (by rw [hJ];exact⟨0,[],by simp,by simp [upd_at],rfl,by rw [List.append_nil];exact hst99_low t _ _⟩) ?_
 rintro k ⟨e,h',base,rb⟩ hj he hb2
 rw [hJ] at hj
 obtain⟨j,R',hj,f12,hh',hlR⟩:=hj
 have g1:=he 1 rfl
 have g3:=he 3 rfl
 have g10:=he 10 rfl
 have g11:=he 11 rfl
 simp [upd_at,arg0] at g1 g3 g10 g11 hb2
 simp only at f12 hh'
 subst hh' hb2
 by_cases hm2:j<F.length
 rotate_left
 ·have hlt:¬(j:Int)<F.length:=by omega
  obtain rfl:j=F.length:=by omega
  rw [List.take_of_length_le (nL _)]
  have cx:=c44 (mxF 0 F) R' (keep_of rfl (hst99_low t _) hlR)
  generalize mxF 0 F=A at *
  generalize mxA A (exs t)=B at *
  unfold hst99 at cx ⊢
  simp only [List.cons_append,List.nil_append] at cx
  simp -implicitDefEqProofs [x43l8_w,x43_r,x43r4_w,x43r9_w,x43r10_w,f12,g1,g3,g10,g11,hlt,cx]
  try rfl
 have hlt:(j:Int)<F.length:=by omega
 have hw:IntKind.i64.wrap ((j:Int)+1)=(j:Int)+1:=wrap_in (by omega)
 have hvg:(D.vs F)[j]'(by rw [D.vs_len];omega)=(F[j]).v:=D.vs_getE _
 have hox:=h5 _ (List.getElem_mem hm2)
 have ht:=tk_snoc hm2
 generalize F[j]=x at *
 have htx:=mxF_snoc 0 (F.take j) x
 rw [← ht] at htx
 have hw2:IntKind.i64.wrap (x.nu+1)=x.nu+1:=wrap_in (by omega)
 have hlR2:lowH (hst99 t 0++(R'++[O.cells x.v.cells])):=by
  have h3:=lowD hlR x
  simpa using h3
 generalize mxF 0 (F.take j)=A at *
 unfold hst99
 simp -implicitDefEqProofs [x43l8_w,x43r4_w,x43r5_w,x43r6_w,x43r7_w,f12,g1,g3,g10,g11,hlt,hm2,hsl,hvg,D.spl,hw2]
 refine⟨k-1,by omega,?_⟩
 rw [hJ]
 refine⟨j+1,R'++[O.cells x.v.cells],by omega,by simp [upd_at,hw],?_,hlR2⟩
 rw [htx]
 simp [hst99,mxI]
theorem go14 (t:D) (hs:t.sz<1000000000){n:Nat}(hn:12*t.sz+420≤n):Gives (n+1) 14 [t.v] (.tup [.c (.int .i64 (if t.tck=0 then mxA (mxF 0 (t.kid 0).kids) (exs t) else 0)),.c (.int .i64 t.tck)]):=by
 obtain⟨n,rfl⟩:∃n',n=n'+1:=⟨n-1,by omega⟩
 have c16:∀h,call X E (n+1) 16 [t.v] h=some (.c (.int .i64 t.tck),h):=go16 t hs (by omega)
 by_cases h0:t.tck=0
 rotate_left
 ·have h0b:(t.tck != 0)=true:=by simp [h0]
  rw [if_neg h0]
  refine gives_of rfl rfl rfl (by kernel_rfl) ⟨rfl,rfl⟩ (by simp [V.lows,V.low]) ?_
  generalize call X E (n+1)=cf at *
  simp -implicitDefEqProofs [x14_w,x14_r,x14r1_w,x14r2_w,x14r3_w,x14r4_w,c16,h0b]
  try rfl
 have c43:∀h,call X E (n+1) 43 [t.v] h=some (.c (.int .i64 (mxA (mxF 0 (t.kid 0).kids) (exs t))),h):=go43 t h0 (by omega)
 rw [if_pos h0]
 rw [h0] at c16 ⊢
 refine gives_of rfl rfl rfl (by kernel_rfl) ⟨rfl,rfl⟩ (by simp [V.lows,V.low]) ?_
 generalize call X E (n+1)=cf at *
 simp -implicitDefEqProofs [x14_w,x14_r,x14r1_w,x14r2_w,x14r3_w,x14r5_w,c16,c43]
 try rfl
end
noncomputable section
set_option maxRecDepth 8000
set_option maxHeartbeats 8000000
theorem law4 (d x:D){n:Nat}(hx:(d.cut 3000 1005).1=x) (hs:x.sz<1000000) (hn:12*x.sz+5000≤n) (h10:∀h,call X E n 10 [] h=some (.c (.bool true),h)):Gives (n+1) 4 [d.v] (.c (.bool true)):=by
 obtain⟨n,rfl⟩:∃n',n=n'+2:=⟨n-2,by omega⟩
 have c8:∀h,call X E (n+2) 8 [d.v] h=some (x.v,h):=by
  rw [← hx]
  exact run14 d (n+1) (by omega)
 have c14:∀h,call X E (n+2) 14 [x.v] h=some (.tup [.c (.int .i64 (if x.tck=0 then mxA (mxF 0 (x.kid 0).kids) (exs x) else 0)),.c (.int .i64 x.tck)],h):=go14 x (by omega) (by omega)
 have c15:∀h,call X E (n+2) 15 [x.v] h=some (.tup [.c (.int .i64 (if x.tck=0 then (cn 9 (exs x):Int) else 0)),.c (.int .i64 (if x.tck=0 then (cn 15 (exs x):Int) else 0)),.c (.int .i64 x.tck)],h):=go15 x (by omega) (by omega)
 have c16:∀h,call X E (n+2) 16 [x.v] h=some (.c (.int .i64 x.tck),h):=go16 x (by omega) (by omega)
 have hlo:lowH [O.cells d.v.cells,O.cells x.v.cells]:=by
  have h1:=D.lowBox 2 d
  have h2:=D.lowBox 2 x
  simp [lowH,h1,h2]
 obtain⟨e,c13⟩:=go13 x (by omega) (n:=n+1) (by omega) hlo
 refine gives_of rfl rfl rfl (by kernel_rfl) ⟨rfl,rfl⟩ (by simp [V.lows]) ?_
 have hvf:x.v.vwf=x.v:=by obtain⟨k,i,t,l⟩:=x;rfl
 rcases c13 with⟨h0,c13⟩|⟨h0,c13,hlo2,s1,s2,hta⟩
 ·have h0b:(x.tck != 0)=true:=by simp [h0]
  rw [if_neg h0] at c14
  rw [if_neg h0,if_neg h0] at c15
  have hself:(x.tck != x.tck)=false:=by simp
  have hz:((0:Int)==0)=true:=rfl
  generalize x.tck=r at *
  generalize call X E (n+2)=cf at *
  simp -implicitDefEqProofs [x4_w,x4_r,x4r1_w,x4r2_w,x4r3_w,x4r4_w,x4r5_w,x4r6_w,x4r8_w,x4r9_w,c8,D.spl,c13,c14,c15,c16,h0b,hself,hz,h10]
  try rfl
 ·obtain⟨t1,t2,t3,t4,t5,t6⟩:=tck_zero h0
  rw [h0] at c14 c15 c16
  simp only [if_true] at c14 c15
  have hz:=sz_kids x
  have hd:=szs_drop x.kids 1
  have hkl:=kids_lt x
  have k0:=kid_szs (kid_mem (d:=x) (j:=0) (by omega))
  have y0:=kids_lt (x.kid 0)
  have hTl:(x.kids.drop 1).length=x.kids.length-1:=by simp
  have hg:∀y∈x.kids.drop 1,(prE x.sz (y.kid 3)).length≤x.sz:=fun y hy=>by
   obtain⟨a,b⟩:=t6 y hy
   have:=prE_len x.sz (y.kid 3) b
   have:=kid_szs (kid_mem (d:=y) (j:=3) (by omega))
   have:=kid_szs (drop_mem hy)
   omega
  have c55:∀y∈x.kids.drop 1,∀h,call X E (n+1) 55 [(y.kid 3).v] h=some (.sl (D.vs (prE x.sz (y.kid 3))) (if prP (y.kid 3)=[] then .full else .any),h):=fun y hy=>by
   obtain⟨a,b⟩:=t6 y hy
   have k1:=kid_szs (kid_mem (d:=y) (j:=3) (by omega))
   have k2:=kid_szs (drop_mem hy)
   exact go55 x.sz (y.kid 3) (by omega) b (n+1) (by omega) (by omega)
  have hb:∀j,(((x.kids.drop 1).take j).flatMap fun y=>prE x.sz (y.kid 3)).length<1000000000:=fun j=>by
   have h1:(((x.kids.drop 1).take j).flatMap fun y=>prE x.sz (y.kid 3)).length≤D.szs ((x.kids.drop 1).take j):=fl2_len fun y hy=>by
    have hy:=List.mem_of_mem_take hy
    obtain⟨a,b⟩:=t6 y hy
    have:=prE_len x.sz (y.kid 3) b
    have:=kid_szs (kid_mem (d:=y) (j:=3) (by omega))
    omega
   have h2:=szs_app ((x.kids.drop 1).take j) ((x.kids.drop 1).drop j)
   rw [List.take_append_drop] at h2
   omega
  have c17:=go17 (g:=fun y=>prE x.sz (y.kid 3)) (n:=n) hta hlo2 c55 (fun y hy=>by have:=hg y hy;omega) hb (by omega) (by omega)
  have c18:=go18 (g:=fun y=>prE x.sz (y.kid 3)) (n:=n) hta hlo2 c55 (fun y hy=>by
   have:=hg y hy
   exact⟨by omega,by omega,okE_mem _ _ (t6 y hy).2⟩) (by omega) (by omega) ⟨by omega,by omega⟩ t5
  rw [show ((x.kids.drop 1).flatMap fun y=>prE x.sz (y.kid 3))=exs x from rfl] at c17 c18
  generalize mxA (mxF 0 (x.kid 0).kids) (exs x)=A at *
  generalize cn 9 (exs x)=B at *
  generalize cn 15 (exs x)=C at *
  have e1:(A==A)=true:=by simp
  have e2:((B:Int)==B)=true:=by simp
  have e3:((C:Int)==C)=true:=by simp
  generalize call X E (n+2)=cf at *
  simp only [List.cons_append,List.nil_append,lC,List.length_nil] at c13 c17 c18
  simp -implicitDefEqProofs [x4_w,x4_r,x4r1_w,x4r2_w,x4r3_w,x4r4_w,x4r5_w,x4r6_w,x4r8_w,x4r10_w,x4r11_w,c8,D.spl,c13,c14,c15,c16,c17,c18,e1,e2,e3,h10]
  try rfl
end
end Go.Proofs.YtjhffhmokcogkaaGreatDoor.Ab

