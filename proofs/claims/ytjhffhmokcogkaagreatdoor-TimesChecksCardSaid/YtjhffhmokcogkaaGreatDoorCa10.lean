/- Part 11 of 19: what the functions do. -/
import Derived.Test.YtjhffhmokcogkaaGreatDoorCa9
set_option linter.unusedVariables false
set_option linter.unusedSimpArgs false
set_option linter.defProp false
namespace Go.Proofs.YtjhffhmokcogkaaGreatDoor.Ab
open Go
noncomputable section
def bB (f c:Nat):Option Bool:=match call X E 16 f [.c (.int .u8 c)] [] with
 | some (.c (.bool b),[])=>some b
 | _=>none
theorem bB_run {f c:Nat}{b:Bool}(h:bB f c=some b):call X E 16 f [.c (.int .u8 c)] []=some (.c (.bool b),[]):=by
 unfold bB at h
 split at h
 ·rename_i b' e
  simp only [sI] at h
  rw [e,h]
 ·cases h
def chkB (f f' c:Nat):Bool:=match bB f c,bB f' c with
 | some a,some b=>a==b
 | _,_=>false
theorem letters0:(List.range 8).all (fun i=>chkB 181 163 (0+i))=true:=by kernel_rfl
theorem letters1:(List.range 8).all (fun i=>chkB 181 163 (8+i))=true:=by kernel_rfl
theorem letters2:(List.range 8).all (fun i=>chkB 181 163 (16+i))=true:=by kernel_rfl
theorem letters3:(List.range 8).all (fun i=>chkB 181 163 (24+i))=true:=by kernel_rfl
theorem letters4:(List.range 8).all (fun i=>chkB 181 163 (32+i))=true:=by kernel_rfl
theorem letters5:(List.range 8).all (fun i=>chkB 181 163 (40+i))=true:=by kernel_rfl
theorem letters6:(List.range 8).all (fun i=>chkB 181 163 (48+i))=true:=by kernel_rfl
theorem letters7:(List.range 8).all (fun i=>chkB 181 163 (56+i))=true:=by kernel_rfl
theorem letters8:(List.range 8).all (fun i=>chkB 181 163 (64+i))=true:=by kernel_rfl
theorem letters9:(List.range 8).all (fun i=>chkB 181 163 (72+i))=true:=by kernel_rfl
theorem letters10:(List.range 8).all (fun i=>chkB 181 163 (80+i))=true:=by kernel_rfl
theorem letters11:(List.range 8).all (fun i=>chkB 181 163 (88+i))=true:=by kernel_rfl
theorem letters12:(List.range 8).all (fun i=>chkB 181 163 (96+i))=true:=by kernel_rfl
theorem letters13:(List.range 8).all (fun i=>chkB 181 163 (104+i))=true:=by kernel_rfl
theorem letters14:(List.range 8).all (fun i=>chkB 181 163 (112+i))=true:=by kernel_rfl
theorem letters15:(List.range 8).all (fun i=>chkB 181 163 (120+i))=true:=by kernel_rfl
theorem letters16:(List.range 8).all (fun i=>chkB 181 163 (128+i))=true:=by kernel_rfl
theorem letters17:(List.range 8).all (fun i=>chkB 181 163 (136+i))=true:=by kernel_rfl
theorem letters18:(List.range 8).all (fun i=>chkB 181 163 (144+i))=true:=by kernel_rfl
theorem letters19:(List.range 8).all (fun i=>chkB 181 163 (152+i))=true:=by kernel_rfl
theorem letters20:(List.range 8).all (fun i=>chkB 181 163 (160+i))=true:=by kernel_rfl
theorem letters21:(List.range 8).all (fun i=>chkB 181 163 (168+i))=true:=by kernel_rfl
theorem letters22:(List.range 8).all (fun i=>chkB 181 163 (176+i))=true:=by kernel_rfl
theorem letters23:(List.range 8).all (fun i=>chkB 181 163 (184+i))=true:=by kernel_rfl
theorem letters24:(List.range 8).all (fun i=>chkB 181 163 (192+i))=true:=by kernel_rfl
theorem letters25:(List.range 8).all (fun i=>chkB 181 163 (200+i))=true:=by kernel_rfl
theorem letters26:(List.range 8).all (fun i=>chkB 181 163 (208+i))=true:=by kernel_rfl
theorem letters27:(List.range 8).all (fun i=>chkB 181 163 (216+i))=true:=by kernel_rfl
theorem letters28:(List.range 8).all (fun i=>chkB 181 163 (224+i))=true:=by kernel_rfl
theorem letters29:(List.range 8).all (fun i=>chkB 181 163 (232+i))=true:=by kernel_rfl
theorem letters30:(List.range 8).all (fun i=>chkB 181 163 (240+i))=true:=by kernel_rfl
theorem letters31:(List.range 8).all (fun i=>chkB 181 163 (248+i))=true:=by kernel_rfl
theorem digits0:(List.range 64).all (fun i=>chkB 180 162 (0+i))=true:=by kernel_rfl
theorem digits1:(List.range 64).all (fun i=>chkB 180 162 (64+i))=true:=by kernel_rfl
theorem digits2:(List.range 64).all (fun i=>chkB 180 162 (128+i))=true:=by kernel_rfl
theorem digits3:(List.range 64).all (fun i=>chkB 180 162 (192+i))=true:=by kernel_rfl
theorem of_chk {f f' c:Nat}(h:chkB f f' c=true):∃b,bB f c=some b∧bB f' c=some b:=by
 unfold chkB at h
 split at h
 ·rename_i a b h1 h2
  have:a=b:=by simpa using h
  exact⟨a,h1,by rw [h2,this]⟩
 ·cases h
theorem of_all {f f' n m:Nat}(h:(List.range n).all (fun i=>chkB f f' (m+i))=true){c:Nat}(h1:m≤c) (h2:c<m+n):chkB f f' c=true:=by
 have:=List.all_eq_true.1 h (c-m) (by simp;omega)
 rwa [show m+(c-m)=c by omega] at this
theorem letter_of {c:Nat}(hc:c<256):∃b,bB 181 c=some b∧bB 163 c=some b:=by
 refine of_chk ?_
 by_cases c0:c<8
 ·exact of_all letters0 (by omega) (by omega)
 by_cases c1:c<16
 ·exact of_all letters1 (by omega) (by omega)
 by_cases c2:c<24
 ·exact of_all letters2 (by omega) (by omega)
 by_cases c3:c<32
 ·exact of_all letters3 (by omega) (by omega)
 by_cases c4:c<40
 ·exact of_all letters4 (by omega) (by omega)
 by_cases c5:c<48
 ·exact of_all letters5 (by omega) (by omega)
 by_cases c6:c<56
 ·exact of_all letters6 (by omega) (by omega)
 by_cases c7:c<64
 ·exact of_all letters7 (by omega) (by omega)
 by_cases c8:c<72
 ·exact of_all letters8 (by omega) (by omega)
 by_cases c9:c<80
 ·exact of_all letters9 (by omega) (by omega)
 by_cases c10:c<88
 ·exact of_all letters10 (by omega) (by omega)
 by_cases c11:c<96
 ·exact of_all letters11 (by omega) (by omega)
 by_cases c12:c<104
 ·exact of_all letters12 (by omega) (by omega)
 by_cases c13:c<112
 ·exact of_all letters13 (by omega) (by omega)
 by_cases c14:c<120
 ·exact of_all letters14 (by omega) (by omega)
 by_cases c15:c<128
 ·exact of_all letters15 (by omega) (by omega)
 by_cases c16:c<136
 ·exact of_all letters16 (by omega) (by omega)
 by_cases c17:c<144
 ·exact of_all letters17 (by omega) (by omega)
 by_cases c18:c<152
 ·exact of_all letters18 (by omega) (by omega)
 by_cases c19:c<160
 ·exact of_all letters19 (by omega) (by omega)
 by_cases c20:c<168
 ·exact of_all letters20 (by omega) (by omega)
 by_cases c21:c<176
 ·exact of_all letters21 (by omega) (by omega)
 by_cases c22:c<184
 ·exact of_all letters22 (by omega) (by omega)
 by_cases c23:c<192
 ·exact of_all letters23 (by omega) (by omega)
 by_cases c24:c<200
 ·exact of_all letters24 (by omega) (by omega)
 by_cases c25:c<208
 ·exact of_all letters25 (by omega) (by omega)
 by_cases c26:c<216
 ·exact of_all letters26 (by omega) (by omega)
 by_cases c27:c<224
 ·exact of_all letters27 (by omega) (by omega)
 by_cases c28:c<232
 ·exact of_all letters28 (by omega) (by omega)
 by_cases c29:c<240
 ·exact of_all letters29 (by omega) (by omega)
 by_cases c30:c<248
 ·exact of_all letters30 (by omega) (by omega)
 by_cases c31:c<256
 ·exact of_all letters31 (by omega) (by omega)
 omega
theorem digit_of {c:Nat}(hc:c<256):∃b,bB 180 c=some b∧bB 162 c=some b:=by
 refine of_chk ?_
 by_cases c0:c<64
 ·exact of_all digits0 (by omega) (by omega)
 by_cases c1:c<128
 ·exact of_all digits1 (by omega) (by omega)
 by_cases c2:c<192
 ·exact of_all digits2 (by omega) (by omega)
 by_cases c3:c<256
 ·exact of_all digits3 (by omega) (by omega)
 omega
theorem more_mono:ExtMono (fun _=>none):=fun f e he=>by cases he
theorem ext_mono:ExtMono E:=by
 intro f e he n n' cf cf' hn hc args h r hr
 unfold E at he
 split at he
 ·simp only [sI] at he
  subst he
  unfold moreE at hr ⊢
  split at hr
  rotate_left
  ·cases hr
  rename_i r1 h1 hce
  rw [call_mono more_mono hn 150 args h _ hce]
  exact hr
 split at he
 ·simp only [sI] at he;subst he;exact eachE_mono hn hc hr
 ·split at he
  ·simp only [sI] at he;subst he;exact hr
  ·split at he
   ·simp only [sI] at he;subst he;exact hr
   ·cases he
theorem up {n n':Nat}(hn:n≤n'){f:Nat}{args:List V}{h:List O}{r:V × List O}(e:call X E n f args h=some r):call X E n' f args h=some r:=call_mono ext_mono hn f args h r e
end
end Go.Proofs.YtjhffhmokcogkaaGreatDoor.Ab

