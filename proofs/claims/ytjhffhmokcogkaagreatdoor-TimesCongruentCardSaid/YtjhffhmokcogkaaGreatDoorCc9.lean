/- A part. -/
import Derived.Test.YtjhffhmokcogkaaGreatDoorCc8
set_option linter.unusedVariables false
set_option linter.unusedSimpArgs false
set_option linter.defProp false
set_option maxRecDepth 20000
set_option maxHeartbeats 8000000
noncomputable section
namespace Go.Proofs.YtjhffhmokcogkaaGreatDoor.Ab
open Go
def bB (f c:Nat):Option Bool:=match call X E 16 f [.c (.int .u8 c)] [] with
 | some (.c (.bool b),[])=>some b
 | _=>none
theorem qX {f c:Nat}{b:Bool}(h:bB f c=some b):call X E 16 f [.c (.int .u8 c)] []=some (.c (.bool b),[]):=by
 unfold bB at h;split at h
 ·rename_i b' e;simp only[sI] at h;rw[e,h]
 ·cases h
def dP (f f' c:Nat):Bool:=match bB f c,bB f' c with
 | some a,some b=>a==b
 | _,_=>false
theorem zT:(List.range 8).all (fun i=>dP 181 163 (0+i))=true:=by kernel_rfl
theorem Ah:(List.range 8).all (fun i=>dP 181 163 (8+i))=true:=by kernel_rfl
theorem yw:(List.range 8).all (fun i=>dP 181 163 (16+i))=true:=by kernel_rfl
theorem zX:(List.range 8).all (fun i=>dP 181 163 (24+i))=true:=by kernel_rfl
theorem xY:(List.range 8).all (fun i=>dP 181 163 (32+i))=true:=by kernel_rfl
theorem xM:(List.range 8).all (fun i=>dP 181 163 (40+i))=true:=by kernel_rfl
theorem zV:(List.range 8).all (fun i=>dP 181 163 (48+i))=true:=by kernel_rfl
theorem yj:(List.range 8).all (fun i=>dP 181 163 (56+i))=true:=by kernel_rfl
theorem yI:(List.range 8).all (fun i=>dP 181 163 (64+i))=true:=by kernel_rfl
theorem yF:(List.range 8).all (fun i=>dP 181 163 (72+i))=true:=by kernel_rfl
theorem vo:(List.range 8).all (fun i=>dP 181 163 (80+i))=true:=by kernel_rfl
theorem vi:(List.range 8).all (fun i=>dP 181 163 (88+i))=true:=by kernel_rfl
theorem wU:(List.range 8).all (fun i=>dP 181 163 (96+i))=true:=by kernel_rfl
theorem tg:(List.range 8).all (fun i=>dP 181 163 (104+i))=true:=by kernel_rfl
theorem ud:(List.range 8).all (fun i=>dP 181 163 (112+i))=true:=by kernel_rfl
theorem vz:(List.range 8).all (fun i=>dP 181 163 (120+i))=true:=by kernel_rfl
theorem tu:(List.range 8).all (fun i=>dP 181 163 (128+i))=true:=by kernel_rfl
theorem tZ:(List.range 8).all (fun i=>dP 181 163 (136+i))=true:=by kernel_rfl
theorem xk:(List.range 8).all (fun i=>dP 181 163 (144+i))=true:=by kernel_rfl
theorem tC:(List.range 8).all (fun i=>dP 181 163 (152+i))=true:=by kernel_rfl
theorem wc:(List.range 8).all (fun i=>dP 181 163 (160+i))=true:=by kernel_rfl
theorem tJ:(List.range 8).all (fun i=>dP 181 163 (168+i))=true:=by kernel_rfl
theorem wu:(List.range 8).all (fun i=>dP 181 163 (176+i))=true:=by kernel_rfl
theorem tk:(List.range 8).all (fun i=>dP 181 163 (184+i))=true:=by kernel_rfl
theorem uk:(List.range 8).all (fun i=>dP 181 163 (192+i))=true:=by kernel_rfl
theorem s8:(List.range 8).all (fun i=>dP 181 163 (200+i))=true:=by kernel_rfl
theorem sY:(List.range 8).all (fun i=>dP 181 163 (208+i))=true:=by kernel_rfl
theorem tr:(List.range 8).all (fun i=>dP 181 163 (216+i))=true:=by kernel_rfl
theorem tQ:(List.range 8).all (fun i=>dP 181 163 (224+i))=true:=by kernel_rfl
theorem wR:(List.range 8).all (fun i=>dP 181 163 (232+i))=true:=by kernel_rfl
theorem xe:(List.range 8).all (fun i=>dP 181 163 (240+i))=true:=by kernel_rfl
theorem vH:(List.range 8).all (fun i=>dP 181 163 (248+i))=true:=by kernel_rfl
theorem C8:(List.range 64).all (fun i=>dP 180 162 (0+i))=true:=by kernel_rfl
theorem CT:(List.range 64).all (fun i=>dP 180 162 (64+i))=true:=by kernel_rfl
theorem BZ:(List.range 64).all (fun i=>dP 180 162 (128+i))=true:=by kernel_rfl
theorem BO:(List.range 64).all (fun i=>dP 180 162 (192+i))=true:=by kernel_rfl
theorem Ap {f f' c:Nat}(h:dP f f' c=true):∃b,bB f c=some b∧bB f' c=some b:=by
 unfold dP at h;split at h
 ·rename_i a b h1 h2;have:a=b:=by simpa using h
  exact⟨a,h1,by rw[h2,this]⟩
 ·cases h
theorem ba {f f' n m:Nat}(h:(List.range n).all (fun i=>dP f f' (m+i))=true){c:Nat}(h1:m≤c) (h2:c<m+n):dP f f' c=true:=by
 have:=List.all_eq_true.1 h (c-m) (by simp;omega)
 rwa [show m+(c-m)=c by omega] at this
theorem mW {c:Nat}(hc:c<256):∃b,bB 181 c=some b∧bB 163 c=some b:=by
 refine Ap ?_;by_cases c0:c<8
 ·exact ba zT (by omega) (by omega)
 by_cases c1:c<16
 ·exact ba Ah (by omega) (by omega)
 by_cases c2:c<24
 ·exact ba yw (by omega) (by omega)
 by_cases c3:c<32
 ·exact ba zX (by omega) (by omega)
 by_cases c4:c<40
 ·exact ba xY (by omega) (by omega)
 by_cases c5:c<48
 ·exact ba xM (by omega) (by omega)
 by_cases c6:c<56
 ·exact ba zV (by omega) (by omega)
 by_cases c7:c<64
 ·exact ba yj (by omega) (by omega)
 by_cases c8:c<72
 ·exact ba yI (by omega) (by omega)
 by_cases c9:c<80
 ·exact ba yF (by omega) (by omega)
 by_cases c10:c<88
 ·exact ba vo (by omega) (by omega)
 by_cases c11:c<96
 ·exact ba vi (by omega) (by omega)
 by_cases c12:c<104
 ·exact ba wU (by omega) (by omega)
 by_cases c13:c<112
 ·exact ba tg (by omega) (by omega)
 by_cases c14:c<120
 ·exact ba ud (by omega) (by omega)
 by_cases c15:c<128
 ·exact ba vz (by omega) (by omega)
 by_cases c16:c<136
 ·exact ba tu (by omega) (by omega)
 by_cases c17:c<144
 ·exact ba tZ (by omega) (by omega)
 by_cases c18:c<152
 ·exact ba xk (by omega) (by omega)
 by_cases c19:c<160
 ·exact ba tC (by omega) (by omega)
 by_cases c20:c<168
 ·exact ba wc (by omega) (by omega)
 by_cases c21:c<176
 ·exact ba tJ (by omega) (by omega)
 by_cases c22:c<184
 ·exact ba wu (by omega) (by omega)
 by_cases c23:c<192
 ·exact ba tk (by omega) (by omega)
 by_cases c24:c<200
 ·exact ba uk (by omega) (by omega)
 by_cases c25:c<208
 ·exact ba s8 (by omega) (by omega)
 by_cases c26:c<216
 ·exact ba sY (by omega) (by omega)
 by_cases c27:c<224
 ·exact ba tr (by omega) (by omega)
 by_cases c28:c<232
 ·exact ba tQ (by omega) (by omega)
 by_cases c29:c<240
 ·exact ba wR (by omega) (by omega)
 by_cases c30:c<248
 ·exact ba xe (by omega) (by omega)
 by_cases c31:c<256
 ·exact ba vH (by omega) (by omega)
 omega
theorem pW {c:Nat}(hc:c<256):∃b,bB 180 c=some b∧bB 162 c=some b:=by
 refine Ap ?_;by_cases c0:c<64
 ·exact ba C8 (by omega) (by omega)
 by_cases c1:c<128
 ·exact ba CT (by omega) (by omega)
 by_cases c2:c<192
 ·exact ba BZ (by omega) (by omega)
 by_cases c3:c<256
 ·exact ba BO (by omega) (by omega)
 omega
theorem vY:ph (fun _=>none):=fun f e he=>by cases he
theorem zw:ph E:=by
 intro f e he n n' cf cf' hn hc args h r hr;unfold E at he;split at he
 ·simp only[sI] at he;subst he;unfold CW at hr ⊢;split at hr;rotate_left
  ·cases hr
  rename_i r1 h1 hce;rw[jK vY hn 150 args h _ hce];exact hr
 split at he
 ·simp only[sI] at he;subst he;exact sg hn hc hr
 ·split at he
  ·simp only[sI] at he;subst he;exact hr
  ·split at he
   ·simp only[sI] at he;subst he;exact hr
   ·cases he
theorem up {n n':Nat}(hn:n≤n'){f:Nat}{args:List V}{h:List O}{r:V × List O}(e:call X E n f args h=some r):call X E n' f args h=some r:=jK zw hn f args h r e
end Go.Proofs.YtjhffhmokcogkaaGreatDoor.Ab
