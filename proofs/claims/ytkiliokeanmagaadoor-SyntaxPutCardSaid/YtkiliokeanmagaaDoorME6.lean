/- Part 7 of 14: what the functions do. -/
import Derived.Test.YtkiliokeanmagaaDoorME5
import Derived.KernelRfl
namespace Go.Proofs.YtkiliokeanmagaaDoor.Ab
open Go
set_option linter.unusedVariables false
set_option linter.unusedSimpArgs false
def pfl : Nat → Nat := fun f => if [26, 45, 83].contains f then 2 else if [3, 4, 5, 6, 7, 8, 9, 10, 11, 12, 13, 14, 15, 16, 17, 18, 19, 20, 21, 22, 23, 24, 25, 27, 28, 29, 30, 31, 32, 33, 34, 35, 36, 37, 38, 39, 40, 41, 42, 44, 46, 47, 48, 49, 50, 54, 55, 56, 57, 58, 59, 60, 61, 62, 63, 64, 65, 66, 67, 68, 69, 70, 71, 73, 74, 75, 76, 77, 84, 85, 87, 95].contains f then 1 else 0
theorem tie3 : Tryd.prog.funcs[3]? = some Tryd.f3 ∧ trF Tryd.prog pfl 1000300 true false false Tryd.f3 = some x3 := ⟨by kernel_rfl, by kernel_rfl⟩
theorem tie4 : Tryd.prog.funcs[4]? = some Tryd.f4 ∧ trF Tryd.prog pfl 1000400 true false false Tryd.f4 = some x4 := ⟨by kernel_rfl, by kernel_rfl⟩
theorem tie5 : Tryd.prog.funcs[5]? = some Tryd.f5 ∧ trF Tryd.prog pfl 1000500 true false false Tryd.f5 = some x5 := ⟨by kernel_rfl, by kernel_rfl⟩
theorem tie6 : Tryd.prog.funcs[6]? = some Tryd.f6 ∧ trF Tryd.prog pfl 1000600 true false false Tryd.f6 = some x6 := ⟨by kernel_rfl, by kernel_rfl⟩
theorem tie7 : Tryd.prog.funcs[7]? = some Tryd.f7 ∧ trF Tryd.prog pfl 1000700 true false false Tryd.f7 = some x7 := ⟨by kernel_rfl, by kernel_rfl⟩
theorem tie8 : Tryd.prog.funcs[8]? = some Tryd.f8 ∧ trF Tryd.prog pfl 1000800 true false false Tryd.f8 = some x8 := ⟨by kernel_rfl, by kernel_rfl⟩
theorem tie9 : Tryd.prog.funcs[9]? = some Tryd.f9 ∧ trF Tryd.prog pfl 1000900 true false false Tryd.f9 = some x9 := ⟨by kernel_rfl, by kernel_rfl⟩
theorem tie10 : Tryd.prog.funcs[10]? = some Tryd.f10 ∧ trF Tryd.prog pfl 1001000 true false false Tryd.f10 = some x10 := ⟨by kernel_rfl, by kernel_rfl⟩
theorem tie11 : Tryd.prog.funcs[11]? = some Tryd.f11 ∧ trF Tryd.prog pfl 1001100 true false false Tryd.f11 = some x11 := ⟨by kernel_rfl, by kernel_rfl⟩
theorem tie12 : Tryd.prog.funcs[12]? = some Tryd.f12 ∧ trF Tryd.prog pfl 1001200 true false false Tryd.f12 = some x12 := ⟨by kernel_rfl, by kernel_rfl⟩
theorem tie13 : Tryd.prog.funcs[13]? = some Tryd.f13 ∧ trF Tryd.prog pfl 1001300 true false false Tryd.f13 = some x13 := ⟨by kernel_rfl, by kernel_rfl⟩
theorem tie14 : Tryd.prog.funcs[14]? = some Tryd.f14 ∧ trF Tryd.prog pfl 1001400 true false false Tryd.f14 = some x14 := ⟨by kernel_rfl, by kernel_rfl⟩
theorem tie15 : Tryd.prog.funcs[15]? = some Tryd.f15 ∧ trF Tryd.prog pfl 1001500 true false false Tryd.f15 = some x15 := ⟨by kernel_rfl, by kernel_rfl⟩
theorem tie16 : Tryd.prog.funcs[16]? = some Tryd.f16 ∧ trF Tryd.prog pfl 1001600 true false false Tryd.f16 = some x16 := ⟨by kernel_rfl, by kernel_rfl⟩
theorem tie17 : Tryd.prog.funcs[17]? = some Tryd.f17 ∧ trF Tryd.prog pfl 1001700 true false false Tryd.f17 = some x17 := ⟨by kernel_rfl, by kernel_rfl⟩
theorem tie18 : Tryd.prog.funcs[18]? = some Tryd.f18 ∧ trF Tryd.prog pfl 1001800 true false false Tryd.f18 = some x18 := ⟨by kernel_rfl, by kernel_rfl⟩
theorem tie19 : Tryd.prog.funcs[19]? = some Tryd.f19 ∧ trF Tryd.prog pfl 1001900 true false false Tryd.f19 = some x19 := ⟨by kernel_rfl, by kernel_rfl⟩
theorem tie20 : Tryd.prog.funcs[20]? = some Tryd.f20 ∧ trF Tryd.prog pfl 1002000 true false false Tryd.f20 = some x20 := ⟨by kernel_rfl, by kernel_rfl⟩
theorem tie21 : Tryd.prog.funcs[21]? = some Tryd.f21 ∧ trF Tryd.prog pfl 1002100 true false false Tryd.f21 = some x21 := ⟨by kernel_rfl, by kernel_rfl⟩
theorem tie22 : Tryd.prog.funcs[22]? = some Tryd.f22 ∧ trF Tryd.prog pfl 1002200 true false false Tryd.f22 = some x22 := ⟨by kernel_rfl, by kernel_rfl⟩
theorem tie23 : Tryd.prog.funcs[23]? = some Tryd.f23 ∧ trF Tryd.prog pfl 1002300 true false false Tryd.f23 = some x23 := ⟨by kernel_rfl, by kernel_rfl⟩
theorem tie24 : Tryd.prog.funcs[24]? = some Tryd.f24 ∧ trF Tryd.prog pfl 1002400 true false false Tryd.f24 = some x24 := ⟨by kernel_rfl, by kernel_rfl⟩
theorem tie25 : Tryd.prog.funcs[25]? = some Tryd.f25 ∧ trF Tryd.prog pfl 1002500 true false false Tryd.f25 = some x25 := ⟨by kernel_rfl, by kernel_rfl⟩
theorem tie26 : Tryd.prog.funcs[26]? = some Tryd.f26 ∧ trF Tryd.prog pfl 1002600 true true true Tryd.f26 = some x26 := ⟨by kernel_rfl, by kernel_rfl⟩
theorem tie27 : Tryd.prog.funcs[27]? = some Tryd.f27 ∧ trF Tryd.prog pfl 1002700 true false false Tryd.f27 = some x27 := ⟨by kernel_rfl, by kernel_rfl⟩
theorem tie28 : Tryd.prog.funcs[28]? = some Tryd.f28 ∧ trF Tryd.prog pfl 1002800 true false false Tryd.f28 = some x28 := ⟨by kernel_rfl, by kernel_rfl⟩
theorem tie29 : Tryd.prog.funcs[29]? = some Tryd.f29 ∧ trF Tryd.prog pfl 1002900 true false false Tryd.f29 = some x29 := ⟨by kernel_rfl, by kernel_rfl⟩
theorem tie30 : Tryd.prog.funcs[30]? = some Tryd.f30 ∧ trF Tryd.prog pfl 1003000 true false false Tryd.f30 = some x30 := ⟨by kernel_rfl, by kernel_rfl⟩
theorem tie31 : Tryd.prog.funcs[31]? = some Tryd.f31 ∧ trF Tryd.prog pfl 1003100 true false false Tryd.f31 = some x31 := ⟨by kernel_rfl, by kernel_rfl⟩
theorem tie32 : Tryd.prog.funcs[32]? = some Tryd.f32 ∧ trF Tryd.prog pfl 1003200 true false false Tryd.f32 = some x32 := ⟨by kernel_rfl, by kernel_rfl⟩
theorem tie33 : Tryd.prog.funcs[33]? = some Tryd.f33 ∧ trF Tryd.prog pfl 1003300 true false false Tryd.f33 = some x33 := ⟨by kernel_rfl, by kernel_rfl⟩
theorem tie34 : Tryd.prog.funcs[34]? = some Tryd.f34 ∧ trF Tryd.prog pfl 1003400 true false false Tryd.f34 = some x34 := ⟨by kernel_rfl, by kernel_rfl⟩
theorem tie35 : Tryd.prog.funcs[35]? = some Tryd.f35 ∧ trF Tryd.prog pfl 1003500 true false false Tryd.f35 = some x35 := ⟨by kernel_rfl, by kernel_rfl⟩
theorem tie36 : Tryd.prog.funcs[36]? = some Tryd.f36 ∧ trF Tryd.prog pfl 1003600 true false false Tryd.f36 = some x36 := ⟨by kernel_rfl, by kernel_rfl⟩
theorem tie37 : Tryd.prog.funcs[37]? = some Tryd.f37 ∧ trF Tryd.prog pfl 1003700 true false false Tryd.f37 = some x37 := ⟨by kernel_rfl, by kernel_rfl⟩
theorem tie38 : Tryd.prog.funcs[38]? = some Tryd.f38 ∧ trF Tryd.prog pfl 1003800 true false false Tryd.f38 = some x38 := ⟨by kernel_rfl, by kernel_rfl⟩
theorem tie39 : Tryd.prog.funcs[39]? = some Tryd.f39 ∧ trF Tryd.prog pfl 1003900 true false false Tryd.f39 = some x39 := ⟨by kernel_rfl, by kernel_rfl⟩
theorem tie40 : Tryd.prog.funcs[40]? = some Tryd.f40 ∧ trF Tryd.prog pfl 1004000 true false false Tryd.f40 = some x40 := ⟨by kernel_rfl, by kernel_rfl⟩
theorem tie41 : Tryd.prog.funcs[41]? = some Tryd.f41 ∧ trF Tryd.prog pfl 1004100 true false false Tryd.f41 = some x41 := ⟨by kernel_rfl, by kernel_rfl⟩
theorem tie42 : Tryd.prog.funcs[42]? = some Tryd.f42 ∧ trF Tryd.prog pfl 1004200 true false false Tryd.f42 = some x42 := ⟨by kernel_rfl, by kernel_rfl⟩
theorem tie43 : Tryd.prog.funcs[43]? = some Tryd.f43 ∧ trF Tryd.prog pfl 1004300 false false false Tryd.f43 = some x43 := ⟨by kernel_rfl, by kernel_rfl⟩
theorem tie44 : Tryd.prog.funcs[44]? = some Tryd.f44 ∧ trF Tryd.prog pfl 1004400 true false false Tryd.f44 = some x44 := ⟨by kernel_rfl, by kernel_rfl⟩
theorem tie45 : Tryd.prog.funcs[45]? = some Tryd.f45 ∧ trF Tryd.prog pfl 1004500 true true false Tryd.f45 = some x45 := ⟨by kernel_rfl, by kernel_rfl⟩
theorem tie46 : Tryd.prog.funcs[46]? = some Tryd.f46 ∧ trF Tryd.prog pfl 1004600 true false false Tryd.f46 = some x46 := ⟨by kernel_rfl, by kernel_rfl⟩
theorem tie47 : Tryd.prog.funcs[47]? = some Tryd.f47 ∧ trF Tryd.prog pfl 1004700 true false false Tryd.f47 = some x47 := ⟨by kernel_rfl, by kernel_rfl⟩
theorem tie48 : Tryd.prog.funcs[48]? = some Tryd.f48 ∧ trF Tryd.prog pfl 1004800 true false false Tryd.f48 = some x48 := ⟨by kernel_rfl, by kernel_rfl⟩
theorem tie49 : Tryd.prog.funcs[49]? = some Tryd.f49 ∧ trF Tryd.prog pfl 1004900 true false false Tryd.f49 = some x49 := ⟨by kernel_rfl, by kernel_rfl⟩
theorem tie50 : Tryd.prog.funcs[50]? = some Tryd.f50 ∧ trF Tryd.prog pfl 1005000 true false false Tryd.f50 = some x50 := ⟨by kernel_rfl, by kernel_rfl⟩
theorem tie51 : Tryd.prog.funcs[51]? = some Tryd.f51 ∧ trF Tryd.prog pfl 1005100 false false false Tryd.f51 = some x51 := ⟨by kernel_rfl, by kernel_rfl⟩
theorem tie52 : Tryd.prog.funcs[52]? = some Tryd.f52 ∧ trF Tryd.prog pfl 1005200 false false false Tryd.f52 = some x52 := ⟨by kernel_rfl, by kernel_rfl⟩
theorem tie53 : Tryd.prog.funcs[53]? = some Tryd.f53 ∧ trF Tryd.prog pfl 1005300 false false false Tryd.f53 = some x53 := ⟨by kernel_rfl, by kernel_rfl⟩
theorem tie54 : Tryd.prog.funcs[54]? = some Tryd.f54 ∧ trF Tryd.prog pfl 1005400 true false false Tryd.f54 = some x54 := ⟨by kernel_rfl, by kernel_rfl⟩
theorem tie55 : Tryd.prog.funcs[55]? = some Tryd.f55 ∧ trF Tryd.prog pfl 1005500 true false false Tryd.f55 = some x55 := ⟨by kernel_rfl, by kernel_rfl⟩
theorem tie56 : Tryd.prog.funcs[56]? = some Tryd.f56 ∧ trF Tryd.prog pfl 1005600 true false false Tryd.f56 = some x56 := ⟨by kernel_rfl, by kernel_rfl⟩
theorem tie57 : Tryd.prog.funcs[57]? = some Tryd.f57 ∧ trF Tryd.prog pfl 1005700 true false false Tryd.f57 = some x57 := ⟨by kernel_rfl, by kernel_rfl⟩
theorem tie58 : Tryd.prog.funcs[58]? = some Tryd.f58 ∧ trF Tryd.prog pfl 1005800 true false false Tryd.f58 = some x58 := ⟨by kernel_rfl, by kernel_rfl⟩
theorem tie59 : Tryd.prog.funcs[59]? = some Tryd.f59 ∧ trF Tryd.prog pfl 1005900 true false false Tryd.f59 = some x59 := ⟨by kernel_rfl, by kernel_rfl⟩
theorem tie60 : Tryd.prog.funcs[60]? = some Tryd.f60 ∧ trF Tryd.prog pfl 1006000 true false false Tryd.f60 = some x60 := ⟨by kernel_rfl, by kernel_rfl⟩
theorem tie61 : Tryd.prog.funcs[61]? = some Tryd.f61 ∧ trF Tryd.prog pfl 1006100 true false false Tryd.f61 = some x61 := ⟨by kernel_rfl, by kernel_rfl⟩
theorem tie62 : Tryd.prog.funcs[62]? = some Tryd.f62 ∧ trF Tryd.prog pfl 1006200 true false false Tryd.f62 = some x62 := ⟨by kernel_rfl, by kernel_rfl⟩
theorem tie63 : Tryd.prog.funcs[63]? = some Tryd.f63 ∧ trF Tryd.prog pfl 1006300 true false false Tryd.f63 = some x63 := ⟨by kernel_rfl, by kernel_rfl⟩
theorem tie64 : Tryd.prog.funcs[64]? = some Tryd.f64 ∧ trF Tryd.prog pfl 1006400 true false false Tryd.f64 = some x64 := ⟨by kernel_rfl, by kernel_rfl⟩
theorem tie65 : Tryd.prog.funcs[65]? = some Tryd.f65 ∧ trF Tryd.prog pfl 1006500 true false false Tryd.f65 = some x65 := ⟨by kernel_rfl, by kernel_rfl⟩
theorem tie66 : Tryd.prog.funcs[66]? = some Tryd.f66 ∧ trF Tryd.prog pfl 1006600 true false false Tryd.f66 = some x66 := ⟨by kernel_rfl, by kernel_rfl⟩
theorem tie67 : Tryd.prog.funcs[67]? = some Tryd.f67 ∧ trF Tryd.prog pfl 1006700 true false false Tryd.f67 = some x67 := ⟨by kernel_rfl, by kernel_rfl⟩
theorem tie68 : Tryd.prog.funcs[68]? = some Tryd.f68 ∧ trF Tryd.prog pfl 1006800 true false false Tryd.f68 = some x68 := ⟨by kernel_rfl, by kernel_rfl⟩
theorem tie69 : Tryd.prog.funcs[69]? = some Tryd.f69 ∧ trF Tryd.prog pfl 1006900 true false false Tryd.f69 = some x69 := ⟨by kernel_rfl, by kernel_rfl⟩
theorem tie70 : Tryd.prog.funcs[70]? = some Tryd.f70 ∧ trF Tryd.prog pfl 1007000 true false false Tryd.f70 = some x70 := ⟨by kernel_rfl, by kernel_rfl⟩
theorem tie71 : Tryd.prog.funcs[71]? = some Tryd.f71 ∧ trF Tryd.prog pfl 1007100 true false false Tryd.f71 = some x71 := ⟨by kernel_rfl, by kernel_rfl⟩
theorem tie72 : Tryd.prog.funcs[72]? = some Tryd.f72 ∧ trF Tryd.prog pfl 1007200 false false false Tryd.f72 = some x72 := ⟨by kernel_rfl, by kernel_rfl⟩
theorem tie73 : Tryd.prog.funcs[73]? = some Tryd.f73 ∧ trF Tryd.prog pfl 1007300 true false false Tryd.f73 = some x73 := ⟨by kernel_rfl, by kernel_rfl⟩
theorem tie74 : Tryd.prog.funcs[74]? = some Tryd.f74 ∧ trF Tryd.prog pfl 1007400 true false false Tryd.f74 = some x74 := ⟨by kernel_rfl, by kernel_rfl⟩
theorem tie75 : Tryd.prog.funcs[75]? = some Tryd.f75 ∧ trF Tryd.prog pfl 1007500 true false false Tryd.f75 = some x75 := ⟨by kernel_rfl, by kernel_rfl⟩
theorem tie76 : Tryd.prog.funcs[76]? = some Tryd.f76 ∧ trF Tryd.prog pfl 1007600 true false false Tryd.f76 = some x76 := ⟨by kernel_rfl, by kernel_rfl⟩
theorem tie77 : Tryd.prog.funcs[77]? = some Tryd.f77 ∧ trF Tryd.prog pfl 1007700 true false false Tryd.f77 = some x77 := ⟨by kernel_rfl, by kernel_rfl⟩
theorem tie78 : Tryd.prog.funcs[78]? = some Tryd.f78 ∧ trF Tryd.prog pfl 1007800 false false false Tryd.f78 = some x78 := ⟨by kernel_rfl, by kernel_rfl⟩
theorem tie79 : Tryd.prog.funcs[79]? = some Tryd.f79 ∧ trF Tryd.prog pfl 1007900 false false false Tryd.f79 = some x79 := ⟨by kernel_rfl, by kernel_rfl⟩
theorem tie81 : Tryd.prog.funcs[81]? = some Tryd.f81 ∧ trF Tryd.prog pfl 1008100 false false false Tryd.f81 = some x81 := ⟨by kernel_rfl, by kernel_rfl⟩
theorem tie82 : Tryd.prog.funcs[82]? = some Tryd.f82 ∧ trF Tryd.prog pfl 1008200 false false false Tryd.f82 = some x82 := ⟨by kernel_rfl, by kernel_rfl⟩
theorem tie84 : Tryd.prog.funcs[84]? = some Tryd.f84 ∧ trF Tryd.prog pfl 1008400 true false false Tryd.f84 = some x84 := ⟨by kernel_rfl, by kernel_rfl⟩
theorem tie85 : Tryd.prog.funcs[85]? = some Tryd.f85 ∧ trF Tryd.prog pfl 1008500 true false false Tryd.f85 = some x85 := ⟨by kernel_rfl, by kernel_rfl⟩
theorem tie87 : Tryd.prog.funcs[87]? = some Tryd.f87 ∧ trF Tryd.prog pfl 1008700 true false false Tryd.f87 = some x87 := ⟨by kernel_rfl, by kernel_rfl⟩
theorem tie88 : Tryd.prog.funcs[88]? = some Tryd.f88 ∧ trF Tryd.prog pfl 1008800 false false false Tryd.f88 = some x88 := ⟨by kernel_rfl, by kernel_rfl⟩
theorem tie89 : Tryd.prog.funcs[89]? = some Tryd.f89 ∧ trF Tryd.prog pfl 1008900 false false false Tryd.f89 = some x89 := ⟨by kernel_rfl, by kernel_rfl⟩
theorem tie90 : Tryd.prog.funcs[90]? = some Tryd.f90 ∧ trF Tryd.prog pfl 1009000 false false false Tryd.f90 = some x90 := ⟨by kernel_rfl, by kernel_rfl⟩
theorem tie91 : Tryd.prog.funcs[91]? = some Tryd.f91 ∧ trF Tryd.prog pfl 1009100 false false false Tryd.f91 = some x91 := ⟨by kernel_rfl, by kernel_rfl⟩
theorem tie93 : Tryd.prog.funcs[93]? = some Tryd.f93 ∧ trF Tryd.prog pfl 1009300 false false false Tryd.f93 = some x93 := ⟨by kernel_rfl, by kernel_rfl⟩
theorem tie95 : Tryd.prog.funcs[95]? = some Tryd.f95 ∧ trF Tryd.prog pfl 1009500 true false false Tryd.f95 = some x95 := ⟨by kernel_rfl, by kernel_rfl⟩
noncomputable def rt1001800 : Option (List Nat × Option XC × Option XC × Nat × Nat) := match yc 1001800 with
  | some (ps, asg, body) => some (ps.toList, trC Tryd.prog false pfl x1001800.ntm 1001801 asg, trC Tryd.prog false pfl x1001800.ntm (1001801 + (rangesOf asg).length) body, (rangesOf asg).length, (rangesOf body).length)
  | none => none
theorem rtie1001800 : rt1001800 = some ((x1001800.asg.getD ([], .skip)).1, some (x1001800.asg.getD ([], .skip)).2, some x1001800.body, 0, 0) := by kernel_rfl
noncomputable def rt1002600 : Option (List Nat × Option XC × Option XC × Nat × Nat) := match yc 1002600 with
  | some (ps, asg, body) => some (ps.toList, trC Tryd.prog false pfl x1002600.ntm 1002601 asg, trC Tryd.prog false pfl x1002600.ntm (1002601 + (rangesOf asg).length) body, (rangesOf asg).length, (rangesOf body).length)
  | none => none
theorem rtie1002600 : rt1002600 = some ((x1002600.asg.getD ([], .skip)).1, some (x1002600.asg.getD ([], .skip)).2, some x1002600.body, 0, 0) := by kernel_rfl
noncomputable def rt1003600 : Option (List Nat × Option XC × Option XC × Nat × Nat) := match yc 1003600 with
  | some (ps, asg, body) => some (ps.toList, trC Tryd.prog false pfl x1003600.ntm 1003601 asg, trC Tryd.prog false pfl x1003600.ntm (1003601 + (rangesOf asg).length) body, (rangesOf asg).length, (rangesOf body).length)
  | none => none
theorem rtie1003600 : rt1003600 = some ((x1003600.asg.getD ([], .skip)).1, some (x1003600.asg.getD ([], .skip)).2, some x1003600.body, 0, 0) := by kernel_rfl
noncomputable def rt1005100 : Option (List Nat × Option XC × Option XC × Nat × Nat) := match yc 1005100 with
  | some (ps, asg, body) => some (ps.toList, trC Tryd.prog false pfl x1005100.ntm 1005101 asg, trC Tryd.prog false pfl x1005100.ntm (1005101 + (rangesOf asg).length) body, (rangesOf asg).length, (rangesOf body).length)
  | none => none
theorem rtie1005100 : rt1005100 = some ((x1005100.asg.getD ([], .skip)).1, some (x1005100.asg.getD ([], .skip)).2, some x1005100.body, 0, 0) := by kernel_rfl
def xtab : List (Nat × XF) := [(3, x3), (4, x4), (5, x5), (6, x6), (7, x7), (8, x8), (9, x9), (10, x10), (11, x11), (12, x12), (13, x13), (14, x14), (15, x15), (16, x16), (17, x17), (18, x18), (19, x19), (20, x20), (21, x21), (22, x22), (23, x23), (24, x24), (25, x25), (26, x26), (27, x27), (28, x28), (29, x29), (30, x30), (31, x31), (32, x32), (33, x33), (34, x34), (35, x35), (36, x36), (37, x37), (38, x38), (39, x39), (40, x40), (41, x41), (42, x42), (43, x43), (44, x44), (45, x45), (46, x46), (47, x47), (48, x48), (49, x49), (50, x50), (51, x51), (52, x52), (53, x53), (54, x54), (55, x55), (56, x56), (57, x57), (58, x58), (59, x59), (60, x60), (61, x61), (62, x62), (63, x63), (64, x64), (65, x65), (66, x66), (67, x67), (68, x68), (69, x69), (70, x70), (71, x71), (72, x72), (73, x73), (74, x74), (75, x75), (76, x76), (77, x77), (78, x78), (79, x79), (81, x81), (82, x82), (84, x84), (85, x85), (87, x87), (88, x88), (89, x89), (90, x90), (91, x91), (93, x93), (95, x95), (1001800, x1001800), (1002600, x1002600), (1003600, x1003600), (1005100, x1005100)]
def X : Nat → Option XF := fun f => xtab.lookup f
end Go.Proofs.YtkiliokeanmagaaDoor.Ab

