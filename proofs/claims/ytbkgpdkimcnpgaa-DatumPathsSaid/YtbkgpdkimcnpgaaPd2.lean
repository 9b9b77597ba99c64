/- The printed functions are the program's. Printed by program (tools/gen_rd.sh). -/
import Derived.Test.YtbkgpdkimcnpgaaPd1
import Derived.Test.YtbkgpdkimcnpgaaPd0
import Derived.KernelRfl
namespace Go.Proofs.Ytbkgpdkimcnpgaa.Ab
open Go
set_option linter.unusedVariables false
set_option linter.unusedSimpArgs false

/-- 1: it keeps to itself; 2: it adds objects alone. -/
def pfl : Nat → Nat := fun f => if [60, 73, 29, 56].contains f then 2 else if [3, 4, 5, 6, 7, 8, 9, 10, 11, 12, 13, 14, 15, 16, 17, 18, 19, 20, 21, 22, 23, 24, 25, 26, 27, 28, 30, 31, 32, 33, 34, 35, 36, 37, 38, 39, 40, 41, 42, 43, 44, 48, 49, 50, 51, 52, 53, 54, 58, 61, 63, 64, 65, 66, 67, 68, 69, 74, 75, 76].contains f then 1 else 0
theorem tie3 : Try.prog.funcs[3]? = some Try.f3 ∧ trF Try.prog pfl true false false Try.f3 = some x3 := ⟨by kernel_rfl, by kernel_rfl⟩
theorem tie4 : Try.prog.funcs[4]? = some Try.f4 ∧ trF Try.prog pfl true false false Try.f4 = some x4 := ⟨by kernel_rfl, by kernel_rfl⟩
theorem tie5 : Try.prog.funcs[5]? = some Try.f5 ∧ trF Try.prog pfl true false false Try.f5 = some x5 := ⟨by kernel_rfl, by kernel_rfl⟩
theorem tie6 : Try.prog.funcs[6]? = some Try.f6 ∧ trF Try.prog pfl true false false Try.f6 = some x6 := ⟨by kernel_rfl, by kernel_rfl⟩
theorem tie7 : Try.prog.funcs[7]? = some Try.f7 ∧ trF Try.prog pfl true false false Try.f7 = some x7 := ⟨by kernel_rfl, by kernel_rfl⟩
theorem tie8 : Try.prog.funcs[8]? = some Try.f8 ∧ trF Try.prog pfl true false false Try.f8 = some x8 := ⟨by kernel_rfl, by kernel_rfl⟩
theorem tie9 : Try.prog.funcs[9]? = some Try.f9 ∧ trF Try.prog pfl true false false Try.f9 = some x9 := ⟨by kernel_rfl, by kernel_rfl⟩
theorem tie10 : Try.prog.funcs[10]? = some Try.f10 ∧ trF Try.prog pfl true false false Try.f10 = some x10 := ⟨by kernel_rfl, by kernel_rfl⟩
theorem tie11 : Try.prog.funcs[11]? = some Try.f11 ∧ trF Try.prog pfl true false false Try.f11 = some x11 := ⟨by kernel_rfl, by kernel_rfl⟩
theorem tie12 : Try.prog.funcs[12]? = some Try.f12 ∧ trF Try.prog pfl true false false Try.f12 = some x12 := ⟨by kernel_rfl, by kernel_rfl⟩
theorem tie13 : Try.prog.funcs[13]? = some Try.f13 ∧ trF Try.prog pfl true false false Try.f13 = some x13 := ⟨by kernel_rfl, by kernel_rfl⟩
theorem tie14 : Try.prog.funcs[14]? = some Try.f14 ∧ trF Try.prog pfl true false false Try.f14 = some x14 := ⟨by kernel_rfl, by kernel_rfl⟩
theorem tie15 : Try.prog.funcs[15]? = some Try.f15 ∧ trF Try.prog pfl true false false Try.f15 = some x15 := ⟨by kernel_rfl, by kernel_rfl⟩
theorem tie16 : Try.prog.funcs[16]? = some Try.f16 ∧ trF Try.prog pfl true false false Try.f16 = some x16 := ⟨by kernel_rfl, by kernel_rfl⟩
theorem tie17 : Try.prog.funcs[17]? = some Try.f17 ∧ trF Try.prog pfl true false false Try.f17 = some x17 := ⟨by kernel_rfl, by kernel_rfl⟩
theorem tie18 : Try.prog.funcs[18]? = some Try.f18 ∧ trF Try.prog pfl true false false Try.f18 = some x18 := ⟨by kernel_rfl, by kernel_rfl⟩
theorem tie19 : Try.prog.funcs[19]? = some Try.f19 ∧ trF Try.prog pfl true false false Try.f19 = some x19 := ⟨by kernel_rfl, by kernel_rfl⟩
theorem tie20 : Try.prog.funcs[20]? = some Try.f20 ∧ trF Try.prog pfl true false false Try.f20 = some x20 := ⟨by kernel_rfl, by kernel_rfl⟩
theorem tie21 : Try.prog.funcs[21]? = some Try.f21 ∧ trF Try.prog pfl true false false Try.f21 = some x21 := ⟨by kernel_rfl, by kernel_rfl⟩
theorem tie22 : Try.prog.funcs[22]? = some Try.f22 ∧ trF Try.prog pfl true false false Try.f22 = some x22 := ⟨by kernel_rfl, by kernel_rfl⟩
theorem tie23 : Try.prog.funcs[23]? = some Try.f23 ∧ trF Try.prog pfl true false false Try.f23 = some x23 := ⟨by kernel_rfl, by kernel_rfl⟩
theorem tie24 : Try.prog.funcs[24]? = some Try.f24 ∧ trF Try.prog pfl true false false Try.f24 = some x24 := ⟨by kernel_rfl, by kernel_rfl⟩
theorem tie25 : Try.prog.funcs[25]? = some Try.f25 ∧ trF Try.prog pfl true false true Try.f25 = some x25 := ⟨by kernel_rfl, by kernel_rfl⟩
theorem tie26 : Try.prog.funcs[26]? = some Try.f26 ∧ trF Try.prog pfl true false false Try.f26 = some x26 := ⟨by kernel_rfl, by kernel_rfl⟩
theorem tie27 : Try.prog.funcs[27]? = some Try.f27 ∧ trF Try.prog pfl true false false Try.f27 = some x27 := ⟨by kernel_rfl, by kernel_rfl⟩
theorem tie28 : Try.prog.funcs[28]? = some Try.f28 ∧ trF Try.prog pfl true false false Try.f28 = some x28 := ⟨by kernel_rfl, by kernel_rfl⟩
theorem tie29 : Try.prog.funcs[29]? = some Try.f29 ∧ trF Try.prog pfl true true true Try.f29 = some x29 := ⟨by kernel_rfl, by kernel_rfl⟩
theorem tie30 : Try.prog.funcs[30]? = some Try.f30 ∧ trF Try.prog pfl true false false Try.f30 = some x30 := ⟨by kernel_rfl, by kernel_rfl⟩
theorem tie31 : Try.prog.funcs[31]? = some Try.f31 ∧ trF Try.prog pfl true false false Try.f31 = some x31 := ⟨by kernel_rfl, by kernel_rfl⟩
theorem tie32 : Try.prog.funcs[32]? = some Try.f32 ∧ trF Try.prog pfl true false false Try.f32 = some x32 := ⟨by kernel_rfl, by kernel_rfl⟩
theorem tie33 : Try.prog.funcs[33]? = some Try.f33 ∧ trF Try.prog pfl true false false Try.f33 = some x33 := ⟨by kernel_rfl, by kernel_rfl⟩
theorem tie34 : Try.prog.funcs[34]? = some Try.f34 ∧ trF Try.prog pfl true false false Try.f34 = some x34 := ⟨by kernel_rfl, by kernel_rfl⟩
theorem tie35 : Try.prog.funcs[35]? = some Try.f35 ∧ trF Try.prog pfl true false false Try.f35 = some x35 := ⟨by kernel_rfl, by kernel_rfl⟩
theorem tie36 : Try.prog.funcs[36]? = some Try.f36 ∧ trF Try.prog pfl true false false Try.f36 = some x36 := ⟨by kernel_rfl, by kernel_rfl⟩
theorem tie37 : Try.prog.funcs[37]? = some Try.f37 ∧ trF Try.prog pfl true false false Try.f37 = some x37 := ⟨by kernel_rfl, by kernel_rfl⟩
theorem tie38 : Try.prog.funcs[38]? = some Try.f38 ∧ trF Try.prog pfl true false false Try.f38 = some x38 := ⟨by kernel_rfl, by kernel_rfl⟩
theorem tie39 : Try.prog.funcs[39]? = some Try.f39 ∧ trF Try.prog pfl true false false Try.f39 = some x39 := ⟨by kernel_rfl, by kernel_rfl⟩
theorem tie40 : Try.prog.funcs[40]? = some Try.f40 ∧ trF Try.prog pfl true false false Try.f40 = some x40 := ⟨by kernel_rfl, by kernel_rfl⟩
theorem tie41 : Try.prog.funcs[41]? = some Try.f41 ∧ trF Try.prog pfl true false false Try.f41 = some x41 := ⟨by kernel_rfl, by kernel_rfl⟩
theorem tie42 : Try.prog.funcs[42]? = some Try.f42 ∧ trF Try.prog pfl true false false Try.f42 = some x42 := ⟨by kernel_rfl, by kernel_rfl⟩
theorem tie43 : Try.prog.funcs[43]? = some Try.f43 ∧ trF Try.prog pfl true false false Try.f43 = some x43 := ⟨by kernel_rfl, by kernel_rfl⟩
theorem tie44 : Try.prog.funcs[44]? = some Try.f44 ∧ trF Try.prog pfl true false false Try.f44 = some x44 := ⟨by kernel_rfl, by kernel_rfl⟩
theorem tie46 : Try.prog.funcs[46]? = some Try.f46 ∧ trF Try.prog pfl false false false Try.f46 = some x46 := ⟨by kernel_rfl, by kernel_rfl⟩
theorem tie47 : Try.prog.funcs[47]? = some Try.f47 ∧ trF Try.prog pfl false false false Try.f47 = some x47 := ⟨by kernel_rfl, by kernel_rfl⟩
theorem tie48 : Try.prog.funcs[48]? = some Try.f48 ∧ trF Try.prog pfl true false false Try.f48 = some x48 := ⟨by kernel_rfl, by kernel_rfl⟩
theorem tie49 : Try.prog.funcs[49]? = some Try.f49 ∧ trF Try.prog pfl true false false Try.f49 = some x49 := ⟨by kernel_rfl, by kernel_rfl⟩
theorem tie50 : Try.prog.funcs[50]? = some Try.f50 ∧ trF Try.prog pfl true false false Try.f50 = some x50 := ⟨by kernel_rfl, by kernel_rfl⟩
theorem tie51 : Try.prog.funcs[51]? = some Try.f51 ∧ trF Try.prog pfl true false false Try.f51 = some x51 := ⟨by kernel_rfl, by kernel_rfl⟩
theorem tie52 : Try.prog.funcs[52]? = some Try.f52 ∧ trF Try.prog pfl true false false Try.f52 = some x52 := ⟨by kernel_rfl, by kernel_rfl⟩
theorem tie53 : Try.prog.funcs[53]? = some Try.f53 ∧ trF Try.prog pfl true false false Try.f53 = some x53 := ⟨by kernel_rfl, by kernel_rfl⟩
theorem tie54 : Try.prog.funcs[54]? = some Try.f54 ∧ trF Try.prog pfl true false false Try.f54 = some x54 := ⟨by kernel_rfl, by kernel_rfl⟩
theorem tie55 : Try.prog.funcs[55]? = some Try.f55 ∧ trF Try.prog pfl false false false Try.f55 = some x55 := ⟨by kernel_rfl, by kernel_rfl⟩
theorem tie57 : Try.prog.funcs[57]? = some Try.f57 ∧ trF Try.prog pfl false false false Try.f57 = some x57 := ⟨by kernel_rfl, by kernel_rfl⟩
theorem tie58 : Try.prog.funcs[58]? = some Try.f58 ∧ trF Try.prog pfl true false false Try.f58 = some x58 := ⟨by kernel_rfl, by kernel_rfl⟩
theorem tie59 : Try.prog.funcs[59]? = some Try.f59 ∧ trF Try.prog pfl false false false Try.f59 = some x59 := ⟨by kernel_rfl, by kernel_rfl⟩
theorem tie60 : Try.prog.funcs[60]? = some Try.f60 ∧ trF Try.prog pfl true true false Try.f60 = some x60 := ⟨by kernel_rfl, by kernel_rfl⟩
theorem tie61 : Try.prog.funcs[61]? = some Try.f61 ∧ trF Try.prog pfl true false false Try.f61 = some x61 := ⟨by kernel_rfl, by kernel_rfl⟩
theorem tie62 : Try.prog.funcs[62]? = some Try.f62 ∧ trF Try.prog pfl false false false Try.f62 = some x62 := ⟨by kernel_rfl, by kernel_rfl⟩
theorem tie63 : Try.prog.funcs[63]? = some Try.f63 ∧ trF Try.prog pfl true false false Try.f63 = some x63 := ⟨by kernel_rfl, by kernel_rfl⟩
theorem tie64 : Try.prog.funcs[64]? = some Try.f64 ∧ trF Try.prog pfl true false false Try.f64 = some x64 := ⟨by kernel_rfl, by kernel_rfl⟩
theorem tie65 : Try.prog.funcs[65]? = some Try.f65 ∧ trF Try.prog pfl true false false Try.f65 = some x65 := ⟨by kernel_rfl, by kernel_rfl⟩
theorem tie66 : Try.prog.funcs[66]? = some Try.f66 ∧ trF Try.prog pfl true false false Try.f66 = some x66 := ⟨by kernel_rfl, by kernel_rfl⟩
theorem tie67 : Try.prog.funcs[67]? = some Try.f67 ∧ trF Try.prog pfl true false false Try.f67 = some x67 := ⟨by kernel_rfl, by kernel_rfl⟩
theorem tie68 : Try.prog.funcs[68]? = some Try.f68 ∧ trF Try.prog pfl true false false Try.f68 = some x68 := ⟨by kernel_rfl, by kernel_rfl⟩
theorem tie69 : Try.prog.funcs[69]? = some Try.f69 ∧ trF Try.prog pfl true false false Try.f69 = some x69 := ⟨by kernel_rfl, by kernel_rfl⟩
theorem tie70 : Try.prog.funcs[70]? = some Try.f70 ∧ trF Try.prog pfl false false false Try.f70 = some x70 := ⟨by kernel_rfl, by kernel_rfl⟩
theorem tie71 : Try.prog.funcs[71]? = some Try.f71 ∧ trF Try.prog pfl false false false Try.f71 = some x71 := ⟨by kernel_rfl, by kernel_rfl⟩
theorem tie74 : Try.prog.funcs[74]? = some Try.f74 ∧ trF Try.prog pfl true false false Try.f74 = some x74 := ⟨by kernel_rfl, by kernel_rfl⟩
theorem tie75 : Try.prog.funcs[75]? = some Try.f75 ∧ trF Try.prog pfl true false false Try.f75 = some x75 := ⟨by kernel_rfl, by kernel_rfl⟩
theorem tie76 : Try.prog.funcs[76]? = some Try.f76 ∧ trF Try.prog pfl true false false Try.f76 = some x76 := ⟨by kernel_rfl, by kernel_rfl⟩
theorem tie77 : Try.prog.funcs[77]? = some Try.f77 ∧ trF Try.prog pfl false false false Try.f77 = some x77 := ⟨by kernel_rfl, by kernel_rfl⟩
def xtab : List (Nat × XF) := [(3, x3), (4, x4), (5, x5), (6, x6), (7, x7), (8, x8), (9, x9), (10, x10), (11, x11), (12, x12), (13, x13), (14, x14), (15, x15), (16, x16), (17, x17), (18, x18), (19, x19), (20, x20), (21, x21), (22, x22), (23, x23), (24, x24), (25, x25), (26, x26), (27, x27), (28, x28), (29, x29), (30, x30), (31, x31), (32, x32), (33, x33), (34, x34), (35, x35), (36, x36), (37, x37), (38, x38), (39, x39), (40, x40), (41, x41), (42, x42), (43, x43), (44, x44), (46, x46), (47, x47), (48, x48), (49, x49), (50, x50), (51, x51), (52, x52), (53, x53), (54, x54), (55, x55), (57, x57), (58, x58), (59, x59), (60, x60), (61, x61), (62, x62), (63, x63), (64, x64), (65, x65), (66, x66), (67, x67), (68, x68), (69, x69), (70, x70), (71, x71), (74, x74), (75, x75), (76, x76), (77, x77)]
def X : Nat → Option XF := fun f => xtab.lookup f
end Go.Proofs.Ytbkgpdkimcnpgaa.Ab
