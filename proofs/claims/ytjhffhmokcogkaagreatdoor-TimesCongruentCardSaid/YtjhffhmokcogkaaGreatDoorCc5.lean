/- A part. -/
import Derived.Test.YtjhffhmokcogkaaGreatDoorCc4
import Derived.KernelRfl
set_option linter.unusedVariables false
set_option linter.unusedSimpArgs false
set_option linter.defProp false
set_option maxRecDepth 20000
set_option maxHeartbeats 8000000
namespace Go.Proofs.YtjhffhmokcogkaaGreatDoor.Ab
open Go
def pfl:Nat→Nat:=fun f=>if [34,28,13,158,174,122,169,171].contains f then 2 else if [3,4,5,6,7,8,9,10,11,12,13,14,15,16,19,20,21,23,24,25,26,27,28,29,30,31,32,33,34,35,36,37,39,40,41,43,46,47,50,52,54,55,56,57,58,59,60,61,62,63,64,65,66,67,68,69,70,71,72,73,75,76,82,84,85,87,88,89,92,93,94,95,97,98,101,102,103,104,106,107,110,111,113,115,118,119,121,123,124,125,128,129,130,131,134,135,136,137,138,139,140,141,142,144,145,146,147,148,149,151,157,159,162,163,168,169,171,172,175,179,180,181,183,184,185,186,189,191,192,195,197,198,199,200,201,202,204,205].contains f then 1 else if [91].contains f then 3 else if [150].contains f then 4 else 0
theorem Dm:Tryz.prog.funcs[150]?=some Tryz.f150∧trF Tryz.prog (fun _=>0) 1015000 false true true Tryz.f150=some x150:=⟨by kernel_rfl,by kernel_rfl⟩
noncomputable def tE:Option (List Nat × Option XC × Option XC × Nat × Nat):=match yc 1011300 with
 | some (ps,asg,body)=>some (ps.toList,trC Tryz.prog false pfl x1011300.ntm 1011301 asg,trC Tryz.prog false pfl x1011300.ntm (1011301+(aJ asg).length) body,(aJ asg).length,(aJ body).length)
 | none=>none
theorem o7:tE=some ((x1011300.asg.getD ([],.skip)).1,some (x1011300.asg.getD ([],.skip)).2,some x1011300.body,0,0):=by kernel_rfl
noncomputable def uB:Option (List Nat × Option XC × Option XC × Nat × Nat):=match yc 1014000 with
 | some (ps,asg,body)=>some (ps.toList,trC Tryz.prog false pfl x1014000.ntm 1014001 asg,trC Tryz.prog false pfl x1014000.ntm (1014001+(aJ asg).length) body,(aJ asg).length,(aJ body).length)
 | none=>none
theorem od:uB=some ((x1014000.asg.getD ([],.skip)).1,some (x1014000.asg.getD ([],.skip)).2,some x1014000.body,0,0):=by kernel_rfl
def xtab:List (Nat × XF):=[(3,x3),(8,x8),(9,x9),(10,x10),(11,x11),(12,x12),(14,x14),(16,x16),(23,x23),(24,x24),(26,x26),(32,x32),(33,x33),(34,x34),(35,x35),(43,x43),(44,x44),(45,x45),(46,x46),(47,x47),(48,x48),(49,x49),(50,x50),(51,x51),(52,x52),(53,x53),(54,x54),(58,x58),(59,x59),(61,x61),(63,x63),(70,x70),(71,x71),(72,x72),(73,x73),(74,x74),(86,x86),(87,x87),(88,x88),(89,x89),(90,x90),(91,x91),(92,x92),(93,x93),(99,x99),(100,x100),(101,x101),(102,x102),(103,x103),(104,x104),(105,x105),(106,x106),(107,x107),(108,x108),(109,x109),(110,x110),(111,x111),(112,x112),(113,x113),(114,x114),(115,x115),(116,x116),(117,x117),(119,x119),(123,x123),(125,x125),(126,x126),(127,x127),(137,x137),(138,x138),(139,x139),(140,x140),(141,x141),(142,x142),(143,x143),(144,x144),(145,x145),(146,x146),(151,x151),(152,x152),(154,x154),(155,x155),(156,x156),(157,x157),(158,x158),(159,x159),(162,x162),(163,x163),(164,x164),(165,x165),(166,x166),(169,x169),(170,x170),(171,x171),(172,x172),(173,x173),(174,x174),(175,x175),(176,x176),(177,x177),(178,x178),(180,x180),(181,x181),(182,x182),(187,x187),(188,x188),(189,x189),(190,x190),(191,x191),(192,x192),(193,x193),(194,x194),(202,x202),(1011300,x1011300),(1014000,x1014000)]
def X:Nat→Option XF:=fun f=>xtab.lookup f
end Go.Proofs.YtjhffhmokcogkaaGreatDoor.Ab
