/- Part 7 of 19: what the functions do. -/
import Derived.Test.YtjhffhmokcogkaaGreatDoorCa5
import Derived.KernelRfl
set_option linter.unusedVariables false
set_option linter.unusedSimpArgs false
set_option linter.defProp false
namespace Go.Proofs.YtjhffhmokcogkaaGreatDoor.Ab
open Go
def pfl:Nat→Nat:=fun f=>if [34,28,13,158,174,122,169,171].contains f then 2 else if [3,4,5,6,7,8,9,10,11,12,13,14,15,16,19,20,21,23,24,25,26,27,28,29,30,31,32,33,34,35,36,37,39,40,41,43,46,47,50,52,54,55,56,57,58,59,60,61,62,63,64,65,66,67,68,69,70,71,72,73,75,76,82,84,85,87,88,89,92,93,94,95,97,98,101,102,103,104,106,107,110,111,113,115,118,119,121,123,124,125,128,129,130,131,134,135,136,137,138,139,140,141,142,144,145,146,147,148,149,151,157,159,162,163,168,169,171,172,175,179,180,181,183,184,185,186,189,191,192,195,197,198,199,200,201,202,204,205].contains f then 1 else if [91].contains f then 3 else if [150].contains f then 4 else 0
def TI (k:Nat) (f:Func) (p e w:Bool) (x:XF):Prop:=Tryz.prog.funcs[k]?=some f∧trF Tryz.prog pfl (1000000+100*k) p e w f=some x
theorem tieE150:Tryz.prog.funcs[150]?=some Tryz.f150∧trF Tryz.prog (fun _=>0) 1015000 false true true Tryz.f150=some x150:=⟨by kernel_rfl,by kernel_rfl⟩
theorem tie4:TI 4 Tryz.f4 true false false x4:=⟨by kernel_rfl,by kernel_rfl⟩
theorem tie8:TI 8 Tryz.f8 true false false x8:=⟨by kernel_rfl,by kernel_rfl⟩
theorem tie9:TI 9 Tryz.f9 true false false x9:=⟨by kernel_rfl,by kernel_rfl⟩
theorem tie10:TI 10 Tryz.f10 true false false x10:=⟨by kernel_rfl,by kernel_rfl⟩
theorem tie13:TI 13 Tryz.f13 true true false x13:=⟨by kernel_rfl,by kernel_rfl⟩
theorem tie14:TI 14 Tryz.f14 true false false x14:=⟨by kernel_rfl,by kernel_rfl⟩
theorem tie15:TI 15 Tryz.f15 true false false x15:=⟨by kernel_rfl,by kernel_rfl⟩
theorem tie16:TI 16 Tryz.f16 true false false x16:=⟨by kernel_rfl,by kernel_rfl⟩
theorem tie17:TI 17 Tryz.f17 false false false x17:=⟨by kernel_rfl,by kernel_rfl⟩
theorem tie18:TI 18 Tryz.f18 false false false x18:=⟨by kernel_rfl,by kernel_rfl⟩
theorem tie23:TI 23 Tryz.f23 true false false x23:=⟨by kernel_rfl,by kernel_rfl⟩
theorem tie24:TI 24 Tryz.f24 true false false x24:=⟨by kernel_rfl,by kernel_rfl⟩
theorem tie26:TI 26 Tryz.f26 true false false x26:=⟨by kernel_rfl,by kernel_rfl⟩
theorem tie32:TI 32 Tryz.f32 true false false x32:=⟨by kernel_rfl,by kernel_rfl⟩
theorem tie33:TI 33 Tryz.f33 true false false x33:=⟨by kernel_rfl,by kernel_rfl⟩
theorem tie34:TI 34 Tryz.f34 true true false x34:=⟨by kernel_rfl,by kernel_rfl⟩
theorem tie35:TI 35 Tryz.f35 true false false x35:=⟨by kernel_rfl,by kernel_rfl⟩
theorem tie36:TI 36 Tryz.f36 true false false x36:=⟨by kernel_rfl,by kernel_rfl⟩
theorem tie37:TI 37 Tryz.f37 true false false x37:=⟨by kernel_rfl,by kernel_rfl⟩
theorem tie38:TI 38 Tryz.f38 false false false x38:=⟨by kernel_rfl,by kernel_rfl⟩
theorem tie39:TI 39 Tryz.f39 true false false x39:=⟨by kernel_rfl,by kernel_rfl⟩
theorem tie40:TI 40 Tryz.f40 true false false x40:=⟨by kernel_rfl,by kernel_rfl⟩
theorem tie41:TI 41 Tryz.f41 true false false x41:=⟨by kernel_rfl,by kernel_rfl⟩
theorem tie42:TI 42 Tryz.f42 false false false x42:=⟨by kernel_rfl,by kernel_rfl⟩
theorem tie43:TI 43 Tryz.f43 true false false x43:=⟨by kernel_rfl,by kernel_rfl⟩
theorem tie44:TI 44 Tryz.f44 false false false x44:=⟨by kernel_rfl,by kernel_rfl⟩
theorem tie45:TI 45 Tryz.f45 false false false x45:=⟨by kernel_rfl,by kernel_rfl⟩
theorem tie46:TI 46 Tryz.f46 true false false x46:=⟨by kernel_rfl,by kernel_rfl⟩
theorem tie47:TI 47 Tryz.f47 true false false x47:=⟨by kernel_rfl,by kernel_rfl⟩
theorem tie48:TI 48 Tryz.f48 false false false x48:=⟨by kernel_rfl,by kernel_rfl⟩
theorem tie49:TI 49 Tryz.f49 false false false x49:=⟨by kernel_rfl,by kernel_rfl⟩
theorem tie50:TI 50 Tryz.f50 true false false x50:=⟨by kernel_rfl,by kernel_rfl⟩
theorem tie51:TI 51 Tryz.f51 false false false x51:=⟨by kernel_rfl,by kernel_rfl⟩
theorem tie52:TI 52 Tryz.f52 true false false x52:=⟨by kernel_rfl,by kernel_rfl⟩
theorem tie53:TI 53 Tryz.f53 false false false x53:=⟨by kernel_rfl,by kernel_rfl⟩
theorem tie54:TI 54 Tryz.f54 true false false x54:=⟨by kernel_rfl,by kernel_rfl⟩
theorem tie55:TI 55 Tryz.f55 true false false x55:=⟨by kernel_rfl,by kernel_rfl⟩
theorem tie56:TI 56 Tryz.f56 true false false x56:=⟨by kernel_rfl,by kernel_rfl⟩
theorem tie58:TI 58 Tryz.f58 true false false x58:=⟨by kernel_rfl,by kernel_rfl⟩
theorem tie59:TI 59 Tryz.f59 true false false x59:=⟨by kernel_rfl,by kernel_rfl⟩
theorem tie61:TI 61 Tryz.f61 true false false x61:=⟨by kernel_rfl,by kernel_rfl⟩
theorem tie63:TI 63 Tryz.f63 true false false x63:=⟨by kernel_rfl,by kernel_rfl⟩
theorem tie70:TI 70 Tryz.f70 true false false x70:=⟨by kernel_rfl,by kernel_rfl⟩
theorem tie71:TI 71 Tryz.f71 true false false x71:=⟨by kernel_rfl,by kernel_rfl⟩
theorem tie72:TI 72 Tryz.f72 true false false x72:=⟨by kernel_rfl,by kernel_rfl⟩
theorem tie73:TI 73 Tryz.f73 true false false x73:=⟨by kernel_rfl,by kernel_rfl⟩
theorem tie74:TI 74 Tryz.f74 false false false x74:=⟨by kernel_rfl,by kernel_rfl⟩
theorem tie86:TI 86 Tryz.f86 false false false x86:=⟨by kernel_rfl,by kernel_rfl⟩
theorem tie87:TI 87 Tryz.f87 true false false x87:=⟨by kernel_rfl,by kernel_rfl⟩
theorem tie88:TI 88 Tryz.f88 true false false x88:=⟨by kernel_rfl,by kernel_rfl⟩
theorem tie89:TI 89 Tryz.f89 true false false x89:=⟨by kernel_rfl,by kernel_rfl⟩
theorem tie90:TI 90 Tryz.f90 false false false x90:=⟨by kernel_rfl,by kernel_rfl⟩
theorem tie91:TI 91 Tryz.f91 false false false x91:=⟨by kernel_rfl,by kernel_rfl⟩
theorem tie92:TI 92 Tryz.f92 true false false x92:=⟨by kernel_rfl,by kernel_rfl⟩
theorem tie93:TI 93 Tryz.f93 true false false x93:=⟨by kernel_rfl,by kernel_rfl⟩
theorem tie94:TI 94 Tryz.f94 true false false x94:=⟨by kernel_rfl,by kernel_rfl⟩
theorem tie95:TI 95 Tryz.f95 true false false x95:=⟨by kernel_rfl,by kernel_rfl⟩
theorem tie96:TI 96 Tryz.f96 false false false x96:=⟨by kernel_rfl,by kernel_rfl⟩
theorem tie97:TI 97 Tryz.f97 true false false x97:=⟨by kernel_rfl,by kernel_rfl⟩
theorem tie98:TI 98 Tryz.f98 true false false x98:=⟨by kernel_rfl,by kernel_rfl⟩
theorem tie99:TI 99 Tryz.f99 false false false x99:=⟨by kernel_rfl,by kernel_rfl⟩
theorem tie100:TI 100 Tryz.f100 false false false x100:=⟨by kernel_rfl,by kernel_rfl⟩
theorem tie101:TI 101 Tryz.f101 true false false x101:=⟨by kernel_rfl,by kernel_rfl⟩
theorem tie102:TI 102 Tryz.f102 true false false x102:=⟨by kernel_rfl,by kernel_rfl⟩
theorem tie103:TI 103 Tryz.f103 true false false x103:=⟨by kernel_rfl,by kernel_rfl⟩
theorem tie104:TI 104 Tryz.f104 true false false x104:=⟨by kernel_rfl,by kernel_rfl⟩
theorem tie105:TI 105 Tryz.f105 false false false x105:=⟨by kernel_rfl,by kernel_rfl⟩
theorem tie106:TI 106 Tryz.f106 true false false x106:=⟨by kernel_rfl,by kernel_rfl⟩
theorem tie107:TI 107 Tryz.f107 true false false x107:=⟨by kernel_rfl,by kernel_rfl⟩
theorem tie108:TI 108 Tryz.f108 false false false x108:=⟨by kernel_rfl,by kernel_rfl⟩
theorem tie109:TI 109 Tryz.f109 false false false x109:=⟨by kernel_rfl,by kernel_rfl⟩
theorem tie110:TI 110 Tryz.f110 true false false x110:=⟨by kernel_rfl,by kernel_rfl⟩
theorem tie111:TI 111 Tryz.f111 true false false x111:=⟨by kernel_rfl,by kernel_rfl⟩
theorem tie112:TI 112 Tryz.f112 false false false x112:=⟨by kernel_rfl,by kernel_rfl⟩
theorem tie113:TI 113 Tryz.f113 true false false x113:=⟨by kernel_rfl,by kernel_rfl⟩
theorem tie114:TI 114 Tryz.f114 false false false x114:=⟨by kernel_rfl,by kernel_rfl⟩
theorem tie115:TI 115 Tryz.f115 true false false x115:=⟨by kernel_rfl,by kernel_rfl⟩
theorem tie116:TI 116 Tryz.f116 false false false x116:=⟨by kernel_rfl,by kernel_rfl⟩
theorem tie117:TI 117 Tryz.f117 false false false x117:=⟨by kernel_rfl,by kernel_rfl⟩
theorem tie119:TI 119 Tryz.f119 true false false x119:=⟨by kernel_rfl,by kernel_rfl⟩
theorem tie123:TI 123 Tryz.f123 true false false x123:=⟨by kernel_rfl,by kernel_rfl⟩
theorem tie125:TI 125 Tryz.f125 true false false x125:=⟨by kernel_rfl,by kernel_rfl⟩
theorem tie126:TI 126 Tryz.f126 false false false x126:=⟨by kernel_rfl,by kernel_rfl⟩
theorem tie127:TI 127 Tryz.f127 false false false x127:=⟨by kernel_rfl,by kernel_rfl⟩
theorem tie137:TI 137 Tryz.f137 true false false x137:=⟨by kernel_rfl,by kernel_rfl⟩
theorem tie138:TI 138 Tryz.f138 true false false x138:=⟨by kernel_rfl,by kernel_rfl⟩
theorem tie139:TI 139 Tryz.f139 true false false x139:=⟨by kernel_rfl,by kernel_rfl⟩
theorem tie140:TI 140 Tryz.f140 true false false x140:=⟨by kernel_rfl,by kernel_rfl⟩
theorem tie141:TI 141 Tryz.f141 true false false x141:=⟨by kernel_rfl,by kernel_rfl⟩
theorem tie142:TI 142 Tryz.f142 true false false x142:=⟨by kernel_rfl,by kernel_rfl⟩
theorem tie143:TI 143 Tryz.f143 false false false x143:=⟨by kernel_rfl,by kernel_rfl⟩
theorem tie144:TI 144 Tryz.f144 true false false x144:=⟨by kernel_rfl,by kernel_rfl⟩
theorem tie145:TI 145 Tryz.f145 true false false x145:=⟨by kernel_rfl,by kernel_rfl⟩
theorem tie146:TI 146 Tryz.f146 true false false x146:=⟨by kernel_rfl,by kernel_rfl⟩
theorem tie147:TI 147 Tryz.f147 true false false x147:=⟨by kernel_rfl,by kernel_rfl⟩
theorem tie148:TI 148 Tryz.f148 true false false x148:=⟨by kernel_rfl,by kernel_rfl⟩
theorem tie149:TI 149 Tryz.f149 true false false x149:=⟨by kernel_rfl,by kernel_rfl⟩
theorem tie151:TI 151 Tryz.f151 true false false x151:=⟨by kernel_rfl,by kernel_rfl⟩
theorem tie152:TI 152 Tryz.f152 false false false x152:=⟨by kernel_rfl,by kernel_rfl⟩
theorem tie154:TI 154 Tryz.f154 false false false x154:=⟨by kernel_rfl,by kernel_rfl⟩
theorem tie155:TI 155 Tryz.f155 false false false x155:=⟨by kernel_rfl,by kernel_rfl⟩
theorem tie156:TI 156 Tryz.f156 false false false x156:=⟨by kernel_rfl,by kernel_rfl⟩
theorem tie157:TI 157 Tryz.f157 true false false x157:=⟨by kernel_rfl,by kernel_rfl⟩
theorem tie158:TI 158 Tryz.f158 true true false x158:=⟨by kernel_rfl,by kernel_rfl⟩
theorem tie159:TI 159 Tryz.f159 true false false x159:=⟨by kernel_rfl,by kernel_rfl⟩
theorem tie162:TI 162 Tryz.f162 true false false x162:=⟨by kernel_rfl,by kernel_rfl⟩
theorem tie163:TI 163 Tryz.f163 true false false x163:=⟨by kernel_rfl,by kernel_rfl⟩
theorem tie164:TI 164 Tryz.f164 false false false x164:=⟨by kernel_rfl,by kernel_rfl⟩
theorem tie165:TI 165 Tryz.f165 false false false x165:=⟨by kernel_rfl,by kernel_rfl⟩
theorem tie166:TI 166 Tryz.f166 false false false x166:=⟨by kernel_rfl,by kernel_rfl⟩
theorem tie169:TI 169 Tryz.f169 true true false x169:=⟨by kernel_rfl,by kernel_rfl⟩
theorem tie170:TI 170 Tryz.f170 false false false x170:=⟨by kernel_rfl,by kernel_rfl⟩
theorem tie171:TI 171 Tryz.f171 true true false x171:=⟨by kernel_rfl,by kernel_rfl⟩
theorem tie172:TI 172 Tryz.f172 true false false x172:=⟨by kernel_rfl,by kernel_rfl⟩
theorem tie173:TI 173 Tryz.f173 false true false x173:=⟨by kernel_rfl,by kernel_rfl⟩
theorem tie174:TI 174 Tryz.f174 true true false x174:=⟨by kernel_rfl,by kernel_rfl⟩
theorem tie175:TI 175 Tryz.f175 true false false x175:=⟨by kernel_rfl,by kernel_rfl⟩
theorem tie176:TI 176 Tryz.f176 false false false x176:=⟨by kernel_rfl,by kernel_rfl⟩
theorem tie177:TI 177 Tryz.f177 false false false x177:=⟨by kernel_rfl,by kernel_rfl⟩
theorem tie178:TI 178 Tryz.f178 false false false x178:=⟨by kernel_rfl,by kernel_rfl⟩
theorem tie179:TI 179 Tryz.f179 true false false x179:=⟨by kernel_rfl,by kernel_rfl⟩
theorem tie180:TI 180 Tryz.f180 true false false x180:=⟨by kernel_rfl,by kernel_rfl⟩
theorem tie181:TI 181 Tryz.f181 true false false x181:=⟨by kernel_rfl,by kernel_rfl⟩
theorem tie182:TI 182 Tryz.f182 false false false x182:=⟨by kernel_rfl,by kernel_rfl⟩
theorem tie187:TI 187 Tryz.f187 false false false x187:=⟨by kernel_rfl,by kernel_rfl⟩
theorem tie188:TI 188 Tryz.f188 false false false x188:=⟨by kernel_rfl,by kernel_rfl⟩
theorem tie189:TI 189 Tryz.f189 true false false x189:=⟨by kernel_rfl,by kernel_rfl⟩
theorem tie190:TI 190 Tryz.f190 false false false x190:=⟨by kernel_rfl,by kernel_rfl⟩
theorem tie191:TI 191 Tryz.f191 true false false x191:=⟨by kernel_rfl,by kernel_rfl⟩
theorem tie192:TI 192 Tryz.f192 true false false x192:=⟨by kernel_rfl,by kernel_rfl⟩
theorem tie193:TI 193 Tryz.f193 false false false x193:=⟨by kernel_rfl,by kernel_rfl⟩
theorem tie194:TI 194 Tryz.f194 false false false x194:=⟨by kernel_rfl,by kernel_rfl⟩
theorem tie195:TI 195 Tryz.f195 true false false x195:=⟨by kernel_rfl,by kernel_rfl⟩
theorem tie202:TI 202 Tryz.f202 true false false x202:=⟨by kernel_rfl,by kernel_rfl⟩
noncomputable def rt1011300:Option (List Nat × Option XC × Option XC × Nat × Nat):=match yc 1011300 with
 | some (ps,asg,body)=>some (ps.toList,trC Tryz.prog false pfl x1011300.ntm 1011301 asg,trC Tryz.prog false pfl x1011300.ntm (1011301+(rangesOf asg).length) body,(rangesOf asg).length,(rangesOf body).length)
 | none=>none
theorem rtie1011300:rt1011300=some ((x1011300.asg.getD ([],.skip)).1,some (x1011300.asg.getD ([],.skip)).2,some x1011300.body,0,0):=by kernel_rfl
noncomputable def rt1014000:Option (List Nat × Option XC × Option XC × Nat × Nat):=match yc 1014000 with
 | some (ps,asg,body)=>some (ps.toList,trC Tryz.prog false pfl x1014000.ntm 1014001 asg,trC Tryz.prog false pfl x1014000.ntm (1014001+(rangesOf asg).length) body,(rangesOf asg).length,(rangesOf body).length)
 | none=>none
theorem rtie1014000:rt1014000=some ((x1014000.asg.getD ([],.skip)).1,some (x1014000.asg.getD ([],.skip)).2,some x1014000.body,0,0):=by kernel_rfl
def xtab:List (Nat × XF):=[(4,x4),(8,x8),(9,x9),(10,x10),(13,x13),(14,x14),(15,x15),(16,x16),(17,x17),(18,x18),(23,x23),(24,x24),(26,x26),(32,x32),(33,x33),(34,x34),(35,x35),(36,x36),(37,x37),(38,x38),(39,x39),(40,x40),(41,x41),(42,x42),(43,x43),(44,x44),(45,x45),(46,x46),(47,x47),(48,x48),(49,x49),(50,x50),(51,x51),(52,x52),(53,x53),(54,x54),(55,x55),(56,x56),(58,x58),(59,x59),(61,x61),(63,x63),(70,x70),(71,x71),(72,x72),(73,x73),(74,x74),(86,x86),(87,x87),(88,x88),(89,x89),(90,x90),(91,x91),(92,x92),(93,x93),(94,x94),(95,x95),(96,x96),(97,x97),(98,x98),(99,x99),(100,x100),(101,x101),(102,x102),(103,x103),(104,x104),(105,x105),(106,x106),(107,x107),(108,x108),(109,x109),(110,x110),(111,x111),(112,x112),(113,x113),(114,x114),(115,x115),(116,x116),(117,x117),(119,x119),(123,x123),(125,x125),(126,x126),(127,x127),(137,x137),(138,x138),(139,x139),(140,x140),(141,x141),(142,x142),(143,x143),(144,x144),(145,x145),(146,x146),(147,x147),(148,x148),(149,x149),(151,x151),(152,x152),(154,x154),(155,x155),(156,x156),(157,x157),(158,x158),(159,x159),(162,x162),(163,x163),(164,x164),(165,x165),(166,x166),(169,x169),(170,x170),(171,x171),(172,x172),(173,x173),(174,x174),(175,x175),(176,x176),(177,x177),(178,x178),(179,x179),(180,x180),(181,x181),(182,x182),(187,x187),(188,x188),(189,x189),(190,x190),(191,x191),(192,x192),(193,x193),(194,x194),(195,x195),(202,x202),(1011300,x1011300),(1014000,x1014000)]
def X:Nat→Option XF:=fun f=>xtab.lookup f
end Go.Proofs.YtjhffhmokcogkaaGreatDoor.Ab

