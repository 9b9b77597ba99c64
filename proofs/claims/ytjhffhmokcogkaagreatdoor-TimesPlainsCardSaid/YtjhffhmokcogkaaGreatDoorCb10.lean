/- A part. -/
import Derived.Test.YtjhffhmokcogkaaGreatDoorCb9
set_option linter.unusedVariables false
set_option linter.unusedSimpArgs false
set_option linter.defProp false
set_option maxRecDepth 20000
set_option maxHeartbeats 8000000
noncomputable section
namespace Go.Proofs.YtjhffhmokcogkaaGreatDoor.Ab
open Go
def bB (f c:Nat):Option Bool:=match call X E 16 f [.c (.int .u8 c)] [] with
 | some (.c (.bool b),[])=>some b
 | _=>none
theorem qS {f c:Nat}{b:Bool}(h:bB f c=some b):call X E 16 f [.c (.int .u8 c)] []=some (.c (.bool b),[]):=by
 unfold bB at h;split at h
 ·rename_i b' e;simp only[sI] at h;rw[e,h]
 ·cases h
def dS (f f' c:Nat):Bool:=match bB f c,bB f' c with
 | some a,some b=>a==b
 | _,_=>false
theorem yr:(List.range 8).all (fun i=>dS 181 163 (0+i))=true:=by kernel_rfl
theorem yG:(List.range 8).all (fun i=>dS 181 163 (8+i))=true:=by kernel_rfl
theorem yJ:(List.range 8).all (fun i=>dS 181 163 (16+i))=true:=by kernel_rfl
theorem xh:(List.range 8).all (fun i=>dS 181 163 (24+i))=true:=by kernel_rfl
theorem yF:(List.range 8).all (fun i=>dS 181 163 (32+i))=true:=by kernel_rfl
theorem wR:(List.range 8).all (fun i=>dS 181 163 (40+i))=true:=by kernel_rfl
theorem ww:(List.range 8).all (fun i=>dS 181 163 (48+i))=true:=by kernel_rfl
theorem yA:(List.range 8).all (fun i=>dS 181 163 (56+i))=true:=by kernel_rfl
theorem yU:(List.range 8).all (fun i=>dS 181 163 (64+i))=true:=by kernel_rfl
theorem xG:(List.range 8).all (fun i=>dS 181 163 (72+i))=true:=by kernel_rfl
theorem vB:(List.range 8).all (fun i=>dS 181 163 (80+i))=true:=by kernel_rfl
theorem uv:(List.range 8).all (fun i=>dS 181 163 (88+i))=true:=by kernel_rfl
theorem vG:(List.range 8).all (fun i=>dS 181 163 (96+i))=true:=by kernel_rfl
theorem uI:(List.range 8).all (fun i=>dS 181 163 (104+i))=true:=by kernel_rfl
theorem tN:(List.range 8).all (fun i=>dS 181 163 (112+i))=true:=by kernel_rfl
theorem vr:(List.range 8).all (fun i=>dS 181 163 (120+i))=true:=by kernel_rfl
theorem uk:(List.range 8).all (fun i=>dS 181 163 (128+i))=true:=by kernel_rfl
theorem uL:(List.range 8).all (fun i=>dS 181 163 (136+i))=true:=by kernel_rfl
theorem tX:(List.range 8).all (fun i=>dS 181 163 (144+i))=true:=by kernel_rfl
theorem vU:(List.range 8).all (fun i=>dS 181 163 (152+i))=true:=by kernel_rfl
theorem sJ:(List.range 8).all (fun i=>dS 181 163 (160+i))=true:=by kernel_rfl
theorem vE:(List.range 8).all (fun i=>dS 181 163 (168+i))=true:=by kernel_rfl
theorem vT:(List.range 8).all (fun i=>dS 181 163 (176+i))=true:=by kernel_rfl
theorem uV:(List.range 8).all (fun i=>dS 181 163 (184+i))=true:=by kernel_rfl
theorem tH:(List.range 8).all (fun i=>dS 181 163 (192+i))=true:=by kernel_rfl
theorem vJ:(List.range 8).all (fun i=>dS 181 163 (200+i))=true:=by kernel_rfl
theorem ui:(List.range 8).all (fun i=>dS 181 163 (208+i))=true:=by kernel_rfl
theorem tq:(List.range 8).all (fun i=>dS 181 163 (216+i))=true:=by kernel_rfl
theorem vv:(List.range 8).all (fun i=>dS 181 163 (224+i))=true:=by kernel_rfl
theorem uS:(List.range 8).all (fun i=>dS 181 163 (232+i))=true:=by kernel_rfl
theorem sT:(List.range 8).all (fun i=>dS 181 163 (240+i))=true:=by kernel_rfl
theorem we:(List.range 8).all (fun i=>dS 181 163 (248+i))=true:=by kernel_rfl
theorem BY:(List.range 64).all (fun i=>dS 180 162 (0+i))=true:=by kernel_rfl
theorem Be:(List.range 64).all (fun i=>dS 180 162 (64+i))=true:=by kernel_rfl
theorem A1:(List.range 64).all (fun i=>dS 180 162 (128+i))=true:=by kernel_rfl
theorem Bs:(List.range 64).all (fun i=>dS 180 162 (192+i))=true:=by kernel_rfl
theorem zu {f f' c:Nat}(h:dS f f' c=true):∃b,bB f c=some b∧bB f' c=some b:=by
 unfold dS at h;split at h
 ·rename_i a b h1 h2;have:a=b:=by simpa using h
  exact⟨a,h1,by rw[h2,this]⟩
 ·cases h
theorem bk {f f' n m:Nat}(h:(List.range n).all (fun i=>dS f f' (m+i))=true){c:Nat}(h1:m≤c) (h2:c<m+n):dS f f' c=true:=by
 have:=List.all_eq_true.1 h (c-m) (by simp;omega)
 rwa [show m+(c-m)=c by omega] at this
theorem mg {c:Nat}(hc:c<256):∃b,bB 181 c=some b∧bB 163 c=some b:=by
 refine zu ?_;by_cases c0:c<8
 ·exact bk yr (by omega) (by omega)
 by_cases c1:c<16
 ·exact bk yG (by omega) (by omega)
 by_cases c2:c<24
 ·exact bk yJ (by omega) (by omega)
 by_cases c3:c<32
 ·exact bk xh (by omega) (by omega)
 by_cases c4:c<40
 ·exact bk yF (by omega) (by omega)
 by_cases c5:c<48
 ·exact bk wR (by omega) (by omega)
 by_cases c6:c<56
 ·exact bk ww (by omega) (by omega)
 by_cases c7:c<64
 ·exact bk yA (by omega) (by omega)
 by_cases c8:c<72
 ·exact bk yU (by omega) (by omega)
 by_cases c9:c<80
 ·exact bk xG (by omega) (by omega)
 by_cases c10:c<88
 ·exact bk vB (by omega) (by omega)
 by_cases c11:c<96
 ·exact bk uv (by omega) (by omega)
 by_cases c12:c<104
 ·exact bk vG (by omega) (by omega)
 by_cases c13:c<112
 ·exact bk uI (by omega) (by omega)
 by_cases c14:c<120
 ·exact bk tN (by omega) (by omega)
 by_cases c15:c<128
 ·exact bk vr (by omega) (by omega)
 by_cases c16:c<136
 ·exact bk uk (by omega) (by omega)
 by_cases c17:c<144
 ·exact bk uL (by omega) (by omega)
 by_cases c18:c<152
 ·exact bk tX (by omega) (by omega)
 by_cases c19:c<160
 ·exact bk vU (by omega) (by omega)
 by_cases c20:c<168
 ·exact bk sJ (by omega) (by omega)
 by_cases c21:c<176
 ·exact bk vE (by omega) (by omega)
 by_cases c22:c<184
 ·exact bk vT (by omega) (by omega)
 by_cases c23:c<192
 ·exact bk uV (by omega) (by omega)
 by_cases c24:c<200
 ·exact bk tH (by omega) (by omega)
 by_cases c25:c<208
 ·exact bk vJ (by omega) (by omega)
 by_cases c26:c<216
 ·exact bk ui (by omega) (by omega)
 by_cases c27:c<224
 ·exact bk tq (by omega) (by omega)
 by_cases c28:c<232
 ·exact bk vv (by omega) (by omega)
 by_cases c29:c<240
 ·exact bk uS (by omega) (by omega)
 by_cases c30:c<248
 ·exact bk sT (by omega) (by omega)
 by_cases c31:c<256
 ·exact bk we (by omega) (by omega)
 omega
theorem qr {c:Nat}(hc:c<256):∃b,bB 180 c=some b∧bB 162 c=some b:=by
 refine zu ?_;by_cases c0:c<64
 ·exact bk BY (by omega) (by omega)
 by_cases c1:c<128
 ·exact bk Be (by omega) (by omega)
 by_cases c2:c<192
 ·exact bk A1 (by omega) (by omega)
 by_cases c3:c<256
 ·exact bk Bs (by omega) (by omega)
 omega
theorem tR:o8 (fun _=>none):=fun f e he=>by cases he
theorem xW:o8 E:=by
 intro f e he n n' cf cf' hn hc args h r hr;unfold E at he;split at he
 ·simp only[sI] at he;subst he;unfold uG at hr ⊢;split at hr;rotate_left
  ·cases hr
  rename_i r1 h1 hce;rw[iY tR hn 150 args h _ hce];exact hr
 split at he
 ·simp only[sI] at he;subst he;exact rD hn hc hr
 ·split at he
  ·simp only[sI] at he;subst he;exact hr
  ·split at he
   ·simp only[sI] at he;subst he;exact hr
   ·cases he
theorem up {n n':Nat}(hn:n≤n'){f:Nat}{args:List V}{h:List O}{r:V × List O}(e:call X E n f args h=some r):call X E n' f args h=some r:=iY xW hn f args h r e
end Go.Proofs.YtjhffhmokcogkaaGreatDoor.Ab
