/- The evaluator's code is that of the program. -/
import Derived.Test.YtiejbjajbehcfaaDoorC2
import Derived.Test.YtiejbjajbehcfaaDoorC3
import Derived.Test.YtiejbjajbehcfaaDoorProg
import Derived.KernelRfl
set_option linter.unusedVariables false
set_option maxRecDepth 20000
set_option maxHeartbeats 4000000
namespace Go.Abs
open Go.Proofs
def hintOf (l : List (Nat × List Nat)) (n : Nat) : List Nat := (l.lookup n).getD []
def tabF : List (Nat × IFn) := [(16, c16), (17, c17), (18, c18), (19, c19), (20, c20), (21, c21), (22, c22), (23, c23), (24, c24), (25, c25), (26, c26), (27, c27), (28, c28), (29, c29), (30, c30), (31, c31), (32, c32), (33, c33), (34, c34), (35, c35), (36, c36), (37, c37), (38, c38), (39, c39), (40, c40), (41, c41), (42, c42), (43, c43), (44, c44), (45, c45), (46, c46), (47, c47), (48, c48), (49, c49), (50, c50), (51, c51), (52, c52), (53, c53), (54, c54), (55, c55), (56, c56), (57, c57), (58, c58), (59, c59), (60, c60), (61, c61), (62, c62), (63, c63), (64, c64), (65, c65), (66, c66), (67, c67), (68, c68), (69, c69), (70, c70), (71, c71), (72, c72), (73, c73), (74, c74), (75, c75), (76, c76), (77, c77), (78, c78), (79, c79), (80, c80), (81, c81), (82, c82), (83, c83), (84, c84), (85, c85), (86, c86), (87, c87), (88, c88), (89, c89), (90, c90), (91, c91), (92, c92), (93, c93), (94, c94), (95, c95), (96, c96), (97, c97), (98, c98), (99, c99), (100, c100), (101, c101), (102, c102)]
def F (n : Nat) : Option IFn := tabF.lookup n
theorem ok16 : cfn Tryd.prog [0, 1] (hintOf h16) Tryd.f16 = some c16 := by kernel_rfl
theorem F16 : F 16 = some c16 := by kernel_rfl
theorem ok17 : cfn Tryd.prog [0, 1] (hintOf h17) Tryd.f17 = some c17 := by kernel_rfl
theorem F17 : F 17 = some c17 := by kernel_rfl
theorem ok18 : cfn Tryd.prog [0, 1] (hintOf h18) Tryd.f18 = some c18 := by kernel_rfl
theorem F18 : F 18 = some c18 := by kernel_rfl
theorem ok19 : cfn Tryd.prog [0, 1] (hintOf h19) Tryd.f19 = some c19 := by kernel_rfl
theorem F19 : F 19 = some c19 := by kernel_rfl
theorem ok20 : cfn Tryd.prog [0, 1] (hintOf h20) Tryd.f20 = some c20 := by kernel_rfl
theorem F20 : F 20 = some c20 := by kernel_rfl
theorem ok21 : cfn Tryd.prog [0, 1] (hintOf h21) Tryd.f21 = some c21 := by kernel_rfl
theorem F21 : F 21 = some c21 := by kernel_rfl
theorem ok22 : cfn Tryd.prog [0, 1] (hintOf h22) Tryd.f22 = some c22 := by kernel_rfl
theorem F22 : F 22 = some c22 := by kernel_rfl
theorem ok23 : cfn Tryd.prog [0, 1] (hintOf h23) Tryd.f23 = some c23 := by kernel_rfl
theorem F23 : F 23 = some c23 := by kernel_rfl
theorem ok24 : cfn Tryd.prog [0, 1] (hintOf h24) Tryd.f24 = some c24 := by kernel_rfl
theorem F24 : F 24 = some c24 := by kernel_rfl
theorem ok25 : cfn Tryd.prog [0, 1] (hintOf h25) Tryd.f25 = some c25 := by kernel_rfl
theorem F25 : F 25 = some c25 := by kernel_rfl
theorem ok26 : cfn Tryd.prog [0, 1] (hintOf h26) Tryd.f26 = some c26 := by kernel_rfl
theorem F26 : F 26 = some c26 := by kernel_rfl
theorem ok27 : cfn Tryd.prog [0, 1] (hintOf h27) Tryd.f27 = some c27 := by kernel_rfl
theorem F27 : F 27 = some c27 := by kernel_rfl
theorem ok28 : cfn Tryd.prog [0, 1] (hintOf h28) Tryd.f28 = some c28 := by kernel_rfl
theorem F28 : F 28 = some c28 := by kernel_rfl
theorem ok29 : cfn Tryd.prog [0, 1] (hintOf h29) Tryd.f29 = some c29 := by kernel_rfl
theorem F29 : F 29 = some c29 := by kernel_rfl
theorem ok30 : cfn Tryd.prog [0, 1] (hintOf h30) Tryd.f30 = some c30 := by kernel_rfl
theorem F30 : F 30 = some c30 := by kernel_rfl
theorem ok31 : cfn Tryd.prog [0, 1] (hintOf h31) Tryd.f31 = some c31 := by kernel_rfl
theorem F31 : F 31 = some c31 := by kernel_rfl
theorem ok32 : cfn Tryd.prog [0, 1] (hintOf h32) Tryd.f32 = some c32 := by kernel_rfl
theorem F32 : F 32 = some c32 := by kernel_rfl
theorem ok33 : cfn Tryd.prog [0, 1] (hintOf h33) Tryd.f33 = some c33 := by kernel_rfl
theorem F33 : F 33 = some c33 := by kernel_rfl
theorem ok34 : cfn Tryd.prog [0, 1] (hintOf h34) Tryd.f34 = some c34 := by kernel_rfl
theorem F34 : F 34 = some c34 := by kernel_rfl
theorem ok35 : cfn Tryd.prog [0, 1] (hintOf h35) Tryd.f35 = some c35 := by kernel_rfl
theorem F35 : F 35 = some c35 := by kernel_rfl
theorem ok36 : cfn Tryd.prog [0, 1] (hintOf h36) Tryd.f36 = some c36 := by kernel_rfl
theorem F36 : F 36 = some c36 := by kernel_rfl
theorem ok37 : cfn Tryd.prog [0, 1] (hintOf h37) Tryd.f37 = some c37 := by kernel_rfl
theorem F37 : F 37 = some c37 := by kernel_rfl
theorem ok38 : cfn Tryd.prog [0, 1] (hintOf h38) Tryd.f38 = some c38 := by kernel_rfl
theorem F38 : F 38 = some c38 := by kernel_rfl
theorem ok39 : cfn Tryd.prog [0, 1] (hintOf h39) Tryd.f39 = some c39 := by kernel_rfl
theorem F39 : F 39 = some c39 := by kernel_rfl
theorem ok40 : cfn Tryd.prog [0, 1] (hintOf h40) Tryd.f40 = some c40 := by kernel_rfl
theorem F40 : F 40 = some c40 := by kernel_rfl
theorem ok41 : cfn Tryd.prog [0, 1] (hintOf h41) Tryd.f41 = some c41 := by kernel_rfl
theorem F41 : F 41 = some c41 := by kernel_rfl
theorem ok42 : cfn Tryd.prog [0, 1] (hintOf h42) Tryd.f42 = some c42 := by kernel_rfl
theorem F42 : F 42 = some c42 := by kernel_rfl
theorem ok43 : cfn Tryd.prog [0, 1] (hintOf h43) Tryd.f43 = some c43 := by kernel_rfl
theorem F43 : F 43 = some c43 := by kernel_rfl
theorem ok44 : cfn Tryd.prog [0, 1] (hintOf h44) Tryd.f44 = some c44 := by kernel_rfl
theorem F44 : F 44 = some c44 := by kernel_rfl
theorem ok45 : cfn Tryd.prog [0, 1] (hintOf h45) Tryd.f45 = some c45 := by kernel_rfl
theorem F45 : F 45 = some c45 := by kernel_rfl
theorem ok46 : cfn Tryd.prog [0, 1] (hintOf h46) Tryd.f46 = some c46 := by kernel_rfl
theorem F46 : F 46 = some c46 := by kernel_rfl
theorem ok47 : cfn Tryd.prog [0, 1] (hintOf h47) Tryd.f47 = some c47 := by kernel_rfl
theorem F47 : F 47 = some c47 := by kernel_rfl
theorem ok48 : cfn Tryd.prog [0, 1] (hintOf h48) Tryd.f48 = some c48 := by kernel_rfl
theorem F48 : F 48 = some c48 := by kernel_rfl
theorem ok49 : cfn Tryd.prog [0, 1] (hintOf h49) Tryd.f49 = some c49 := by kernel_rfl
theorem F49 : F 49 = some c49 := by kernel_rfl
theorem ok50 : cfn Tryd.prog [0, 1] (hintOf h50) Tryd.f50 = some c50 := by kernel_rfl
theorem F50 : F 50 = some c50 := by kernel_rfl
theorem ok51 : cfn Tryd.prog [0, 1] (hintOf h51) Tryd.f51 = some c51 := by kernel_rfl
theorem F51 : F 51 = some c51 := by kernel_rfl
theorem ok52 : cfn Tryd.prog [0, 1] (hintOf h52) Tryd.f52 = some c52 := by kernel_rfl
theorem F52 : F 52 = some c52 := by kernel_rfl
theorem ok53 : cfn Tryd.prog [0, 1] (hintOf h53) Tryd.f53 = some c53 := by kernel_rfl
theorem F53 : F 53 = some c53 := by kernel_rfl
theorem ok54 : cfn Tryd.prog [0, 1] (hintOf h54) Tryd.f54 = some c54 := by kernel_rfl
theorem F54 : F 54 = some c54 := by kernel_rfl
theorem ok55 : cfn Tryd.prog [0, 1] (hintOf h55) Tryd.f55 = some c55 := by kernel_rfl
theorem F55 : F 55 = some c55 := by kernel_rfl
theorem ok56 : cfn Tryd.prog [0, 1] (hintOf h56) Tryd.f56 = some c56 := by kernel_rfl
theorem F56 : F 56 = some c56 := by kernel_rfl
theorem ok57 : cfn Tryd.prog [0, 1] (hintOf h57) Tryd.f57 = some c57 := by kernel_rfl
theorem F57 : F 57 = some c57 := by kernel_rfl
theorem ok58 : cfn Tryd.prog [0, 1] (hintOf h58) Tryd.f58 = some c58 := by kernel_rfl
theorem F58 : F 58 = some c58 := by kernel_rfl
theorem ok59 : cfn Tryd.prog [0, 1] (hintOf h59) Tryd.f59 = some c59 := by kernel_rfl
theorem F59 : F 59 = some c59 := by kernel_rfl
theorem ok60 : cfn Tryd.prog [0, 1] (hintOf h60) Tryd.f60 = some c60 := by kernel_rfl
theorem F60 : F 60 = some c60 := by kernel_rfl
theorem ok61 : cfn Tryd.prog [0, 1] (hintOf h61) Tryd.f61 = some c61 := by kernel_rfl
theorem F61 : F 61 = some c61 := by kernel_rfl
theorem ok62 : cfn Tryd.prog [0, 1] (hintOf h62) Tryd.f62 = some c62 := by kernel_rfl
theorem F62 : F 62 = some c62 := by kernel_rfl
theorem ok63 : cfn Tryd.prog [0, 1] (hintOf h63) Tryd.f63 = some c63 := by kernel_rfl
theorem F63 : F 63 = some c63 := by kernel_rfl
theorem ok64 : cfn Tryd.prog [0, 1] (hintOf h64) Tryd.f64 = some c64 := by kernel_rfl
theorem F64 : F 64 = some c64 := by kernel_rfl
theorem ok65 : cfn Tryd.prog [0, 1] (hintOf h65) Tryd.f65 = some c65 := by kernel_rfl
theorem F65 : F 65 = some c65 := by kernel_rfl
theorem ok66 : cfn Tryd.prog [0, 1] (hintOf h66) Tryd.f66 = some c66 := by kernel_rfl
theorem F66 : F 66 = some c66 := by kernel_rfl
theorem ok67 : cfn Tryd.prog [0, 1] (hintOf h67) Tryd.f67 = some c67 := by kernel_rfl
theorem F67 : F 67 = some c67 := by kernel_rfl
theorem ok68 : cfn Tryd.prog [0, 1] (hintOf h68) Tryd.f68 = some c68 := by kernel_rfl
theorem F68 : F 68 = some c68 := by kernel_rfl
theorem ok69 : cfn Tryd.prog [0, 1] (hintOf h69) Tryd.f69 = some c69 := by kernel_rfl
theorem F69 : F 69 = some c69 := by kernel_rfl
theorem ok70 : cfn Tryd.prog [0, 1] (hintOf h70) Tryd.f70 = some c70 := by kernel_rfl
theorem F70 : F 70 = some c70 := by kernel_rfl
theorem ok71 : cfn Tryd.prog [0, 1] (hintOf h71) Tryd.f71 = some c71 := by kernel_rfl
theorem F71 : F 71 = some c71 := by kernel_rfl
theorem ok72 : cfn Tryd.prog [0, 1] (hintOf h72) Tryd.f72 = some c72 := by kernel_rfl
theorem F72 : F 72 = some c72 := by kernel_rfl
theorem ok73 : cfn Tryd.prog [0, 1] (hintOf h73) Tryd.f73 = some c73 := by kernel_rfl
theorem F73 : F 73 = some c73 := by kernel_rfl
theorem ok74 : cfn Tryd.prog [0, 1] (hintOf h74) Tryd.f74 = some c74 := by kernel_rfl
theorem F74 : F 74 = some c74 := by kernel_rfl
theorem ok75 : cfn Tryd.prog [0, 1] (hintOf h75) Tryd.f75 = some c75 := by kernel_rfl
theorem F75 : F 75 = some c75 := by kernel_rfl
theorem ok76 : cfn Tryd.prog [0, 1] (hintOf h76) Tryd.f76 = some c76 := by kernel_rfl
theorem F76 : F 76 = some c76 := by kernel_rfl
theorem ok77 : cfn Tryd.prog [0, 1] (hintOf h77) Tryd.f77 = some c77 := by kernel_rfl
theorem F77 : F 77 = some c77 := by kernel_rfl
theorem ok78 : cfn Tryd.prog [0, 1] (hintOf h78) Tryd.f78 = some c78 := by kernel_rfl
theorem F78 : F 78 = some c78 := by kernel_rfl
theorem ok79 : cfn Tryd.prog [0, 1] (hintOf h79) Tryd.f79 = some c79 := by kernel_rfl
theorem F79 : F 79 = some c79 := by kernel_rfl
theorem ok80 : cfn Tryd.prog [0, 1] (hintOf h80) Tryd.f80 = some c80 := by kernel_rfl
theorem F80 : F 80 = some c80 := by kernel_rfl
theorem ok81 : cfn Tryd.prog [0, 1] (hintOf h81) Tryd.f81 = some c81 := by kernel_rfl
theorem F81 : F 81 = some c81 := by kernel_rfl
theorem ok82 : cfn Tryd.prog [0, 1] (hintOf h82) Tryd.f82 = some c82 := by kernel_rfl
theorem F82 : F 82 = some c82 := by kernel_rfl
theorem ok83 : cfn Tryd.prog [0, 1] (hintOf h83) Tryd.f83 = some c83 := by kernel_rfl
theorem F83 : F 83 = some c83 := by kernel_rfl
theorem ok84 : cfn Tryd.prog [0, 1] (hintOf h84) Tryd.f84 = some c84 := by kernel_rfl
theorem F84 : F 84 = some c84 := by kernel_rfl
theorem ok85 : cfn Tryd.prog [0, 1] (hintOf h85) Tryd.f85 = some c85 := by kernel_rfl
theorem F85 : F 85 = some c85 := by kernel_rfl
theorem ok86 : cfn Tryd.prog [0, 1] (hintOf h86) Tryd.f86 = some c86 := by kernel_rfl
theorem F86 : F 86 = some c86 := by kernel_rfl
theorem ok87 : cfn Tryd.prog [0, 1] (hintOf h87) Tryd.f87 = some c87 := by kernel_rfl
theorem F87 : F 87 = some c87 := by kernel_rfl
theorem ok88 : cfn Tryd.prog [0, 1] (hintOf h88) Tryd.f88 = some c88 := by kernel_rfl
theorem F88 : F 88 = some c88 := by kernel_rfl
theorem ok89 : cfn Tryd.prog [0, 1] (hintOf h89) Tryd.f89 = some c89 := by kernel_rfl
theorem F89 : F 89 = some c89 := by kernel_rfl
theorem ok90 : cfn Tryd.prog [0, 1] (hintOf h90) Tryd.f90 = some c90 := by kernel_rfl
theorem F90 : F 90 = some c90 := by kernel_rfl
theorem ok91 : cfn Tryd.prog [0, 1] (hintOf h91) Tryd.f91 = some c91 := by kernel_rfl
theorem F91 : F 91 = some c91 := by kernel_rfl
theorem ok92 : cfn Tryd.prog [0, 1] (hintOf h92) Tryd.f92 = some c92 := by kernel_rfl
theorem F92 : F 92 = some c92 := by kernel_rfl
theorem ok93 : cfn Tryd.prog [0, 1] (hintOf h93) Tryd.f93 = some c93 := by kernel_rfl
theorem F93 : F 93 = some c93 := by kernel_rfl
theorem ok94 : cfn Tryd.prog [0, 1] (hintOf h94) Tryd.f94 = some c94 := by kernel_rfl
theorem F94 : F 94 = some c94 := by kernel_rfl
theorem ok95 : cfn Tryd.prog [0, 1] (hintOf h95) Tryd.f95 = some c95 := by kernel_rfl
theorem F95 : F 95 = some c95 := by kernel_rfl
theorem ok96 : cfn Tryd.prog [0, 1] (hintOf h96) Tryd.f96 = some c96 := by kernel_rfl
theorem F96 : F 96 = some c96 := by kernel_rfl
theorem ok97 : cfn Tryd.prog [0, 1] (hintOf h97) Tryd.f97 = some c97 := by kernel_rfl
theorem F97 : F 97 = some c97 := by kernel_rfl
theorem ok98 : cfn Tryd.prog [0, 1] (hintOf h98) Tryd.f98 = some c98 := by kernel_rfl
theorem F98 : F 98 = some c98 := by kernel_rfl
theorem ok99 : cfn Tryd.prog [0, 1] (hintOf h99) Tryd.f99 = some c99 := by kernel_rfl
theorem F99 : F 99 = some c99 := by kernel_rfl
theorem ok100 : cfn Tryd.prog [0, 1] (hintOf h100) Tryd.f100 = some c100 := by kernel_rfl
theorem F100 : F 100 = some c100 := by kernel_rfl
theorem ok101 : cfn Tryd.prog [0, 1] (hintOf h101) Tryd.f101 = some c101 := by kernel_rfl
theorem F101 : F 101 = some c101 := by kernel_rfl
theorem ok102 : cfn Tryd.prog [0, 1] (hintOf h102) Tryd.f102 = some c102 := by kernel_rfl
theorem F102 : F 102 = some c102 := by kernel_rfl
def OKp (p : Nat × IFn) : Prop := ∃ func hint, Tryd.prog.funcs[p.1]? = some func ∧ cfn Tryd.prog [0, 1] hint func = some p.2 ∧ (func.name == "runtime.NumGoroutine") = false
theorem okp16 : OKp (16, c16) := ⟨_, _, Tryd.func16, ok16, by kernel_rfl⟩
theorem okp17 : OKp (17, c17) := ⟨_, _, Tryd.func17, ok17, by kernel_rfl⟩
theorem okp18 : OKp (18, c18) := ⟨_, _, Tryd.func18, ok18, by kernel_rfl⟩
theorem okp19 : OKp (19, c19) := ⟨_, _, Tryd.func19, ok19, by kernel_rfl⟩
theorem okp20 : OKp (20, c20) := ⟨_, _, Tryd.func20, ok20, by kernel_rfl⟩
theorem okp21 : OKp (21, c21) := ⟨_, _, Tryd.func21, ok21, by kernel_rfl⟩
theorem okp22 : OKp (22, c22) := ⟨_, _, Tryd.func22, ok22, by kernel_rfl⟩
theorem okp23 : OKp (23, c23) := ⟨_, _, Tryd.func23, ok23, by kernel_rfl⟩
theorem okp24 : OKp (24, c24) := ⟨_, _, Tryd.func24, ok24, by kernel_rfl⟩
theorem okp25 : OKp (25, c25) := ⟨_, _, Tryd.func25, ok25, by kernel_rfl⟩
theorem okp26 : OKp (26, c26) := ⟨_, _, Tryd.func26, ok26, by kernel_rfl⟩
theorem okp27 : OKp (27, c27) := ⟨_, _, Tryd.func27, ok27, by kernel_rfl⟩
theorem okp28 : OKp (28, c28) := ⟨_, _, Tryd.func28, ok28, by kernel_rfl⟩
theorem okp29 : OKp (29, c29) := ⟨_, _, Tryd.func29, ok29, by kernel_rfl⟩
theorem okp30 : OKp (30, c30) := ⟨_, _, Tryd.func30, ok30, by kernel_rfl⟩
theorem okp31 : OKp (31, c31) := ⟨_, _, Tryd.func31, ok31, by kernel_rfl⟩
theorem okp32 : OKp (32, c32) := ⟨_, _, Tryd.func32, ok32, by kernel_rfl⟩
theorem okp33 : OKp (33, c33) := ⟨_, _, Tryd.func33, ok33, by kernel_rfl⟩
theorem okp34 : OKp (34, c34) := ⟨_, _, Tryd.func34, ok34, by kernel_rfl⟩
theorem okp35 : OKp (35, c35) := ⟨_, _, Tryd.func35, ok35, by kernel_rfl⟩
theorem okp36 : OKp (36, c36) := ⟨_, _, Tryd.func36, ok36, by kernel_rfl⟩
theorem okp37 : OKp (37, c37) := ⟨_, _, Tryd.func37, ok37, by kernel_rfl⟩
theorem okp38 : OKp (38, c38) := ⟨_, _, Tryd.func38, ok38, by kernel_rfl⟩
theorem okp39 : OKp (39, c39) := ⟨_, _, Tryd.func39, ok39, by kernel_rfl⟩
theorem okp40 : OKp (40, c40) := ⟨_, _, Tryd.func40, ok40, by kernel_rfl⟩
theorem okp41 : OKp (41, c41) := ⟨_, _, Tryd.func41, ok41, by kernel_rfl⟩
theorem okp42 : OKp (42, c42) := ⟨_, _, Tryd.func42, ok42, by kernel_rfl⟩
theorem okp43 : OKp (43, c43) := ⟨_, _, Tryd.func43, ok43, by kernel_rfl⟩
theorem okp44 : OKp (44, c44) := ⟨_, _, Tryd.func44, ok44, by kernel_rfl⟩
theorem okp45 : OKp (45, c45) := ⟨_, _, Tryd.func45, ok45, by kernel_rfl⟩
theorem okp46 : OKp (46, c46) := ⟨_, _, Tryd.func46, ok46, by kernel_rfl⟩
theorem okp47 : OKp (47, c47) := ⟨_, _, Tryd.func47, ok47, by kernel_rfl⟩
theorem okp48 : OKp (48, c48) := ⟨_, _, Tryd.func48, ok48, by kernel_rfl⟩
theorem okp49 : OKp (49, c49) := ⟨_, _, Tryd.func49, ok49, by kernel_rfl⟩
theorem okp50 : OKp (50, c50) := ⟨_, _, Tryd.func50, ok50, by kernel_rfl⟩
theorem okp51 : OKp (51, c51) := ⟨_, _, Tryd.func51, ok51, by kernel_rfl⟩
theorem okp52 : OKp (52, c52) := ⟨_, _, Tryd.func52, ok52, by kernel_rfl⟩
theorem okp53 : OKp (53, c53) := ⟨_, _, Tryd.func53, ok53, by kernel_rfl⟩
theorem okp54 : OKp (54, c54) := ⟨_, _, Tryd.func54, ok54, by kernel_rfl⟩
theorem okp55 : OKp (55, c55) := ⟨_, _, Tryd.func55, ok55, by kernel_rfl⟩
theorem okp56 : OKp (56, c56) := ⟨_, _, Tryd.func56, ok56, by kernel_rfl⟩
theorem okp57 : OKp (57, c57) := ⟨_, _, Tryd.func57, ok57, by kernel_rfl⟩
theorem okp58 : OKp (58, c58) := ⟨_, _, Tryd.func58, ok58, by kernel_rfl⟩
theorem okp59 : OKp (59, c59) := ⟨_, _, Tryd.func59, ok59, by kernel_rfl⟩
theorem okp60 : OKp (60, c60) := ⟨_, _, Tryd.func60, ok60, by kernel_rfl⟩
theorem okp61 : OKp (61, c61) := ⟨_, _, Tryd.func61, ok61, by kernel_rfl⟩
theorem okp62 : OKp (62, c62) := ⟨_, _, Tryd.func62, ok62, by kernel_rfl⟩
theorem okp63 : OKp (63, c63) := ⟨_, _, Tryd.func63, ok63, by kernel_rfl⟩
theorem okp64 : OKp (64, c64) := ⟨_, _, Tryd.func64, ok64, by kernel_rfl⟩
theorem okp65 : OKp (65, c65) := ⟨_, _, Tryd.func65, ok65, by kernel_rfl⟩
theorem okp66 : OKp (66, c66) := ⟨_, _, Tryd.func66, ok66, by kernel_rfl⟩
theorem okp67 : OKp (67, c67) := ⟨_, _, Tryd.func67, ok67, by kernel_rfl⟩
theorem okp68 : OKp (68, c68) := ⟨_, _, Tryd.func68, ok68, by kernel_rfl⟩
theorem okp69 : OKp (69, c69) := ⟨_, _, Tryd.func69, ok69, by kernel_rfl⟩
theorem okp70 : OKp (70, c70) := ⟨_, _, Tryd.func70, ok70, by kernel_rfl⟩
theorem okp71 : OKp (71, c71) := ⟨_, _, Tryd.func71, ok71, by kernel_rfl⟩
theorem okp72 : OKp (72, c72) := ⟨_, _, Tryd.func72, ok72, by kernel_rfl⟩
theorem okp73 : OKp (73, c73) := ⟨_, _, Tryd.func73, ok73, by kernel_rfl⟩
theorem okp74 : OKp (74, c74) := ⟨_, _, Tryd.func74, ok74, by kernel_rfl⟩
theorem okp75 : OKp (75, c75) := ⟨_, _, Tryd.func75, ok75, by kernel_rfl⟩
theorem okp76 : OKp (76, c76) := ⟨_, _, Tryd.func76, ok76, by kernel_rfl⟩
theorem okp77 : OKp (77, c77) := ⟨_, _, Tryd.func77, ok77, by kernel_rfl⟩
theorem okp78 : OKp (78, c78) := ⟨_, _, Tryd.func78, ok78, by kernel_rfl⟩
theorem okp79 : OKp (79, c79) := ⟨_, _, Tryd.func79, ok79, by kernel_rfl⟩
theorem okp80 : OKp (80, c80) := ⟨_, _, Tryd.func80, ok80, by kernel_rfl⟩
theorem okp81 : OKp (81, c81) := ⟨_, _, Tryd.func81, ok81, by kernel_rfl⟩
theorem okp82 : OKp (82, c82) := ⟨_, _, Tryd.func82, ok82, by kernel_rfl⟩
theorem okp83 : OKp (83, c83) := ⟨_, _, Tryd.func83, ok83, by kernel_rfl⟩
theorem okp84 : OKp (84, c84) := ⟨_, _, Tryd.func84, ok84, by kernel_rfl⟩
theorem okp85 : OKp (85, c85) := ⟨_, _, Tryd.func85, ok85, by kernel_rfl⟩
theorem okp86 : OKp (86, c86) := ⟨_, _, Tryd.func86, ok86, by kernel_rfl⟩
theorem okp87 : OKp (87, c87) := ⟨_, _, Tryd.func87, ok87, by kernel_rfl⟩
theorem okp88 : OKp (88, c88) := ⟨_, _, Tryd.func88, ok88, by kernel_rfl⟩
theorem okp89 : OKp (89, c89) := ⟨_, _, Tryd.func89, ok89, by kernel_rfl⟩
theorem okp90 : OKp (90, c90) := ⟨_, _, Tryd.func90, ok90, by kernel_rfl⟩
theorem okp91 : OKp (91, c91) := ⟨_, _, Tryd.func91, ok91, by kernel_rfl⟩
theorem okp92 : OKp (92, c92) := ⟨_, _, Tryd.func92, ok92, by kernel_rfl⟩
theorem okp93 : OKp (93, c93) := ⟨_, _, Tryd.func93, ok93, by kernel_rfl⟩
theorem okp94 : OKp (94, c94) := ⟨_, _, Tryd.func94, ok94, by kernel_rfl⟩
theorem okp95 : OKp (95, c95) := ⟨_, _, Tryd.func95, ok95, by kernel_rfl⟩
theorem okp96 : OKp (96, c96) := ⟨_, _, Tryd.func96, ok96, by kernel_rfl⟩
theorem okp97 : OKp (97, c97) := ⟨_, _, Tryd.func97, ok97, by kernel_rfl⟩
theorem okp98 : OKp (98, c98) := ⟨_, _, Tryd.func98, ok98, by kernel_rfl⟩
theorem okp99 : OKp (99, c99) := ⟨_, _, Tryd.func99, ok99, by kernel_rfl⟩
theorem okp100 : OKp (100, c100) := ⟨_, _, Tryd.func100, ok100, by kernel_rfl⟩
theorem okp101 : OKp (101, c101) := ⟨_, _, Tryd.func101, ok101, by kernel_rfl⟩
theorem okp102 : OKp (102, c102) := ⟨_, _, Tryd.func102, ok102, by kernel_rfl⟩
theorem okAll : ∀ p ∈ tabF, OKp p := by
  unfold tabF
  exact List.forall_mem_cons.2 ⟨okp16, List.forall_mem_cons.2 ⟨okp17, List.forall_mem_cons.2 ⟨okp18, List.forall_mem_cons.2 ⟨okp19, List.forall_mem_cons.2 ⟨okp20, List.forall_mem_cons.2 ⟨okp21, List.forall_mem_cons.2 ⟨okp22, List.forall_mem_cons.2 ⟨okp23, List.forall_mem_cons.2 ⟨okp24, List.forall_mem_cons.2 ⟨okp25, List.forall_mem_cons.2 ⟨okp26, List.forall_mem_cons.2 ⟨okp27, List.forall_mem_cons.2 ⟨okp28, List.forall_mem_cons.2 ⟨okp29, List.forall_mem_cons.2 ⟨okp30, List.forall_mem_cons.2 ⟨okp31, List.forall_mem_cons.2 ⟨okp32, List.forall_mem_cons.2 ⟨okp33, List.forall_mem_cons.2 ⟨okp34, List.forall_mem_cons.2 ⟨okp35, List.forall_mem_cons.2 ⟨okp36, List.forall_mem_cons.2 ⟨okp37, List.forall_mem_cons.2 ⟨okp38, List.forall_mem_cons.2 ⟨okp39, List.forall_mem_cons.2 ⟨okp40, List.forall_mem_cons.2 ⟨okp41, List.forall_mem_cons.2 ⟨okp42, List.forall_mem_cons.2 ⟨okp43, List.forall_mem_cons.2 ⟨okp44, List.forall_mem_cons.2 ⟨okp45, List.forall_mem_cons.2 ⟨okp46, List.forall_mem_cons.2 ⟨okp47, List.forall_mem_cons.2 ⟨okp48, List.forall_mem_cons.2 ⟨okp49, List.forall_mem_cons.2 ⟨okp50, List.forall_mem_cons.2 ⟨okp51, List.forall_mem_cons.2 ⟨okp52, List.forall_mem_cons.2 ⟨okp53, List.forall_mem_cons.2 ⟨okp54, List.forall_mem_cons.2 ⟨okp55, List.forall_mem_cons.2 ⟨okp56, List.forall_mem_cons.2 ⟨okp57, List.forall_mem_cons.2 ⟨okp58, List.forall_mem_cons.2 ⟨okp59, List.forall_mem_cons.2 ⟨okp60, List.forall_mem_cons.2 ⟨okp61, List.forall_mem_cons.2 ⟨okp62, List.forall_mem_cons.2 ⟨okp63, List.forall_mem_cons.2 ⟨okp64, List.forall_mem_cons.2 ⟨okp65, List.forall_mem_cons.2 ⟨okp66, List.forall_mem_cons.2 ⟨okp67, List.forall_mem_cons.2 ⟨okp68, List.forall_mem_cons.2 ⟨okp69, List.forall_mem_cons.2 ⟨okp70, List.forall_mem_cons.2 ⟨okp71, List.forall_mem_cons.2 ⟨okp72, List.forall_mem_cons.2 ⟨okp73, List.forall_mem_cons.2 ⟨okp74, List.forall_mem_cons.2 ⟨okp75, List.forall_mem_cons.2 ⟨okp76, List.forall_mem_cons.2 ⟨okp77, List.forall_mem_cons.2 ⟨okp78, List.forall_mem_cons.2 ⟨okp79, List.forall_mem_cons.2 ⟨okp80, List.forall_mem_cons.2 ⟨okp81, List.forall_mem_cons.2 ⟨okp82, List.forall_mem_cons.2 ⟨okp83, List.forall_mem_cons.2 ⟨okp84, List.forall_mem_cons.2 ⟨okp85, List.forall_mem_cons.2 ⟨okp86, List.forall_mem_cons.2 ⟨okp87, List.forall_mem_cons.2 ⟨okp88, List.forall_mem_cons.2 ⟨okp89, List.forall_mem_cons.2 ⟨okp90, List.forall_mem_cons.2 ⟨okp91, List.forall_mem_cons.2 ⟨okp92, List.forall_mem_cons.2 ⟨okp93, List.forall_mem_cons.2 ⟨okp94, List.forall_mem_cons.2 ⟨okp95, List.forall_mem_cons.2 ⟨okp96, List.forall_mem_cons.2 ⟨okp97, List.forall_mem_cons.2 ⟨okp98, List.forall_mem_cons.2 ⟨okp99, List.forall_mem_cons.2 ⟨okp100, List.forall_mem_cons.2 ⟨okp101, List.forall_mem_cons.2 ⟨okp102, (fun _ h => nomatch h)⟩⟩⟩⟩⟩⟩⟩⟩⟩⟩⟩⟩⟩⟩⟩⟩⟩⟩⟩⟩⟩⟩⟩⟩⟩⟩⟩⟩⟩⟩⟩⟩⟩⟩⟩⟩⟩⟩⟩⟩⟩⟩⟩⟩⟩⟩⟩⟩⟩⟩⟩⟩⟩⟩⟩⟩⟩⟩⟩⟩⟩⟩⟩⟩⟩⟩⟩⟩⟩⟩⟩⟩⟩⟩⟩⟩⟩⟩⟩⟩⟩⟩⟩⟩⟩⟩⟩
end Go.Abs
