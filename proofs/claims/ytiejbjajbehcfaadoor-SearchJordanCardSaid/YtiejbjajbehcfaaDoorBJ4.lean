/- The texts that the row uses, part 4. -/
import Derived.Test.YtiejbjajbehcfaaDoorBJ3
import Derived.AtR
import Derived.Orders
import Derived.KernelRfl
import Derived.Laws.Cells
import Derived.Laws.CopyRow
import Derived.Laws.Append
import Derived.Laws.AppendOwn
import Derived.Laws.Entries
import Derived.ArgAppend
import Derived.ChangeKeysEq
import Derived.WideLaws
import Derived.Laws.Small
import Derived.Laws.StructEq
import Derived.Laws.Cover3
import Derived.Laws.Tables
import Derived.Laws.Rows
import Derived.Below
import Derived.Laws.IdiomCopy
import Derived.RangeFuncNested
import Derived.Test.YtiejbjajbehcfaaDoorProg
import Derived.Test.YtiejbjajbehcfaaDoorRows
import Derived.ProofKit
import Derived.LaidMore
import Derived.OpenShut
import Derived.Stop.Joined
import Derived.ChangeSlices
import Derived.SizedLaws
import Derived.SevenTiedAt
import Derived.WalkKit
import Derived.ShutString
import Derived.ChangeOld
import Derived.Carry
set_option linter.unusedVariables false
set_option maxRecDepth 20000
set_option maxHeartbeats 4000000
namespace Go.Abs
open Go.Proofs
def hintOf (l : List (Nat × List Nat)) (n : Nat) : List Nat := (l.lookup n).getD []
def tabF : List (Nat × IFn) := [(16, c16), (17, c17), (18, c18), (19, c19), (20, c20), (21, c21), (22, c22), (23, c23), (24, c24), (25, c25), (26, c26), (27, c27), (28, c28), (29, c29), (30, c30), (31, c31), (32, c32), (33, c33), (34, c34), (35, c35), (36, c36), (37, c37), (38, c38), (39, c39), (40, c40), (41, c41), (42, c42), (43, c43), (44, c44), (45, c45), (46, c46), (47, c47), (48, c48), (49, c49), (50, c50), (51, c51), (52, c52), (53, c53), (54, c54), (55, c55), (56, c56), (57, c57), (58, c58), (59, c59), (60, c60), (61, c61), (62, c62), (63, c63), (64, c64), (65, c65), (66, c66), (67, c67), (68, c68), (69, c69), (70, c70), (71, c71), (72, c72), (73, c73), (74, c74), (75, c75), (76, c76), (77, c77), (78, c78), (79, c79), (80, c80), (81, c81), (82, c82), (83, c83), (84, c84), (85, c85), (86, c86), (87, c87), (88, c88), (89, c89), (90, c90), (91, c91), (92, c92), (93, c93), (94, c94), (95, c95), (96, c96), (97, c97), (98, c98), (99, c99), (100, c100), (101, c101), (102, c102)]
def F (n : Nat) : Option IFn := tabF.lookup n
theorem ok16 : cfn Tryd.prog [0, 1] (hintOf h16) Tryd.f16 = some c16 := by kernel_rfl
theorem F16 : F 16 = some c16 := by kernel_rfl
theorem ok17 : cfn Tryd.prog [0, 1] (hintOf h17) Tryd.f17 = some c17 := by kernel_rfl
theorem ok18 : cfn Tryd.prog [0, 1] (hintOf h18) Tryd.f18 = some c18 := by kernel_rfl
theorem F18 : F 18 = some c18 := by kernel_rfl
theorem ok19 : cfn Tryd.prog [0, 1] (hintOf h19) Tryd.f19 = some c19 := by kernel_rfl
theorem F19 : F 19 = some c19 := by kernel_rfl
theorem ok20 : cfn Tryd.prog [0, 1] (hintOf h20) Tryd.f20 = some c20 := by kernel_rfl
theorem ok21 : cfn Tryd.prog [0, 1] (hintOf h21) Tryd.f21 = some c21 := by kernel_rfl
theorem ok22 : cfn Tryd.prog [0, 1] (hintOf h22) Tryd.f22 = some c22 := by kernel_rfl
theorem F22 : F 22 = some c22 := by kernel_rfl
theorem ok23 : cfn Tryd.prog [0, 1] (hintOf h23) Tryd.f23 = some c23 := by kernel_rfl
theorem ok24 : cfn Tryd.prog [0, 1] (hintOf h24) Tryd.f24 = some c24 := by kernel_rfl
theorem ok25 : cfn Tryd.prog [0, 1] (hintOf h25) Tryd.f25 = some c25 := by kernel_rfl
theorem ok26 : cfn Tryd.prog [0, 1] (hintOf h26) Tryd.f26 = some c26 := by kernel_rfl
theorem ok27 : cfn Tryd.prog [0, 1] (hintOf h27) Tryd.f27 = some c27 := by kernel_rfl
theorem ok28 : cfn Tryd.prog [0, 1] (hintOf h28) Tryd.f28 = some c28 := by kernel_rfl
theorem ok29 : cfn Tryd.prog [0, 1] (hintOf h29) Tryd.f29 = some c29 := by kernel_rfl
theorem ok30 : cfn Tryd.prog [0, 1] (hintOf h30) Tryd.f30 = some c30 := by kernel_rfl
theorem ok31 : cfn Tryd.prog [0, 1] (hintOf h31) Tryd.f31 = some c31 := by kernel_rfl
theorem ok32 : cfn Tryd.prog [0, 1] (hintOf h32) Tryd.f32 = some c32 := by kernel_rfl
theorem ok33 : cfn Tryd.prog [0, 1] (hintOf h33) Tryd.f33 = some c33 := by kernel_rfl
theorem ok34 : cfn Tryd.prog [0, 1] (hintOf h34) Tryd.f34 = some c34 := by kernel_rfl
theorem ok35 : cfn Tryd.prog [0, 1] (hintOf h35) Tryd.f35 = some c35 := by kernel_rfl
theorem ok36 : cfn Tryd.prog [0, 1] (hintOf h36) Tryd.f36 = some c36 := by kernel_rfl
theorem ok37 : cfn Tryd.prog [0, 1] (hintOf h37) Tryd.f37 = some c37 := by kernel_rfl
theorem ok38 : cfn Tryd.prog [0, 1] (hintOf h38) Tryd.f38 = some c38 := by kernel_rfl
theorem ok39 : cfn Tryd.prog [0, 1] (hintOf h39) Tryd.f39 = some c39 := by kernel_rfl
theorem F39 : F 39 = some c39 := by kernel_rfl
theorem ok40 : cfn Tryd.prog [0, 1] (hintOf h40) Tryd.f40 = some c40 := by kernel_rfl
theorem F40 : F 40 = some c40 := by kernel_rfl
theorem ok41 : cfn Tryd.prog [0, 1] (hintOf h41) Tryd.f41 = some c41 := by kernel_rfl
theorem ok42 : cfn Tryd.prog [0, 1] (hintOf h42) Tryd.f42 = some c42 := by kernel_rfl
theorem F42 : F 42 = some c42 := by kernel_rfl
theorem ok43 : cfn Tryd.prog [0, 1] (hintOf h43) Tryd.f43 = some c43 := by kernel_rfl
theorem ok44 : cfn Tryd.prog [0, 1] (hintOf h44) Tryd.f44 = some c44 := by kernel_rfl
theorem ok45 : cfn Tryd.prog [0, 1] (hintOf h45) Tryd.f45 = some c45 := by kernel_rfl
theorem ok46 : cfn Tryd.prog [0, 1] (hintOf h46) Tryd.f46 = some c46 := by kernel_rfl
theorem ok47 : cfn Tryd.prog [0, 1] (hintOf h47) Tryd.f47 = some c47 := by kernel_rfl
theorem ok48 : cfn Tryd.prog [0, 1] (hintOf h48) Tryd.f48 = some c48 := by kernel_rfl
theorem F48 : F 48 = some c48 := by kernel_rfl
theorem ok49 : cfn Tryd.prog [0, 1] (hintOf h49) Tryd.f49 = some c49 := by kernel_rfl
theorem F49 : F 49 = some c49 := by kernel_rfl
theorem ok50 : cfn Tryd.prog [0, 1] (hintOf h50) Tryd.f50 = some c50 := by kernel_rfl
theorem ok51 : cfn Tryd.prog [0, 1] (hintOf h51) Tryd.f51 = some c51 := by kernel_rfl
theorem ok52 : cfn Tryd.prog [0, 1] (hintOf h52) Tryd.f52 = some c52 := by kernel_rfl
theorem ok53 : cfn Tryd.prog [0, 1] (hintOf h53) Tryd.f53 = some c53 := by kernel_rfl
theorem ok54 : cfn Tryd.prog [0, 1] (hintOf h54) Tryd.f54 = some c54 := by kernel_rfl
theorem ok55 : cfn Tryd.prog [0, 1] (hintOf h55) Tryd.f55 = some c55 := by kernel_rfl
theorem F55 : F 55 = some c55 := by kernel_rfl
theorem ok56 : cfn Tryd.prog [0, 1] (hintOf h56) Tryd.f56 = some c56 := by kernel_rfl
theorem F56 : F 56 = some c56 := by kernel_rfl
theorem ok57 : cfn Tryd.prog [0, 1] (hintOf h57) Tryd.f57 = some c57 := by kernel_rfl
theorem ok58 : cfn Tryd.prog [0, 1] (hintOf h58) Tryd.f58 = some c58 := by kernel_rfl
theorem ok59 : cfn Tryd.prog [0, 1] (hintOf h59) Tryd.f59 = some c59 := by kernel_rfl
theorem ok60 : cfn Tryd.prog [0, 1] (hintOf h60) Tryd.f60 = some c60 := by kernel_rfl
theorem ok61 : cfn Tryd.prog [0, 1] (hintOf h61) Tryd.f61 = some c61 := by kernel_rfl
theorem ok62 : cfn Tryd.prog [0, 1] (hintOf h62) Tryd.f62 = some c62 := by kernel_rfl
theorem ok63 : cfn Tryd.prog [0, 1] (hintOf h63) Tryd.f63 = some c63 := by kernel_rfl
theorem ok64 : cfn Tryd.prog [0, 1] (hintOf h64) Tryd.f64 = some c64 := by kernel_rfl
theorem ok65 : cfn Tryd.prog [0, 1] (hintOf h65) Tryd.f65 = some c65 := by kernel_rfl
theorem ok66 : cfn Tryd.prog [0, 1] (hintOf h66) Tryd.f66 = some c66 := by kernel_rfl
theorem ok67 : cfn Tryd.prog [0, 1] (hintOf h67) Tryd.f67 = some c67 := by kernel_rfl
theorem ok68 : cfn Tryd.prog [0, 1] (hintOf h68) Tryd.f68 = some c68 := by kernel_rfl
theorem F68 : F 68 = some c68 := by kernel_rfl
theorem ok69 : cfn Tryd.prog [0, 1] (hintOf h69) Tryd.f69 = some c69 := by kernel_rfl
theorem F69 : F 69 = some c69 := by kernel_rfl
theorem ok70 : cfn Tryd.prog [0, 1] (hintOf h70) Tryd.f70 = some c70 := by kernel_rfl
theorem F70 : F 70 = some c70 := by kernel_rfl
theorem ok71 : cfn Tryd.prog [0, 1] (hintOf h71) Tryd.f71 = some c71 := by kernel_rfl
theorem ok72 : cfn Tryd.prog [0, 1] (hintOf h72) Tryd.f72 = some c72 := by kernel_rfl
theorem ok73 : cfn Tryd.prog [0, 1] (hintOf h73) Tryd.f73 = some c73 := by kernel_rfl
theorem F73 : F 73 = some c73 := by kernel_rfl
theorem ok74 : cfn Tryd.prog [0, 1] (hintOf h74) Tryd.f74 = some c74 := by kernel_rfl
theorem F74 : F 74 = some c74 := by kernel_rfl
theorem ok75 : cfn Tryd.prog [0, 1] (hintOf h75) Tryd.f75 = some c75 := by kernel_rfl
theorem F75 : F 75 = some c75 := by kernel_rfl
theorem ok76 : cfn Tryd.prog [0, 1] (hintOf h76) Tryd.f76 = some c76 := by kernel_rfl
theorem F76 : F 76 = some c76 := by kernel_rfl
theorem ok77 : cfn Tryd.prog [0, 1] (hintOf h77) Tryd.f77 = some c77 := by kernel_rfl
theorem F77 : F 77 = some c77 := by kernel_rfl
theorem ok78 : cfn Tryd.prog [0, 1] (hintOf h78) Tryd.f78 = some c78 := by kernel_rfl
theorem F78 : F 78 = some c78 := by kernel_rfl
theorem ok79 : cfn Tryd.prog [0, 1] (hintOf h79) Tryd.f79 = some c79 := by kernel_rfl
theorem ok80 : cfn Tryd.prog [0, 1] (hintOf h80) Tryd.f80 = some c80 := by kernel_rfl
theorem F80 : F 80 = some c80 := by kernel_rfl
theorem ok81 : cfn Tryd.prog [0, 1] (hintOf h81) Tryd.f81 = some c81 := by kernel_rfl
theorem F81 : F 81 = some c81 := by kernel_rfl
theorem ok82 : cfn Tryd.prog [0, 1] (hintOf h82) Tryd.f82 = some c82 := by kernel_rfl
theorem F82 : F 82 = some c82 := by kernel_rfl
theorem ok83 : cfn Tryd.prog [0, 1] (hintOf h83) Tryd.f83 = some c83 := by kernel_rfl
theorem ok84 : cfn Tryd.prog [0, 1] (hintOf h84) Tryd.f84 = some c84 := by kernel_rfl
theorem ok85 : cfn Tryd.prog [0, 1] (hintOf h85) Tryd.f85 = some c85 := by kernel_rfl
theorem ok86 : cfn Tryd.prog [0, 1] (hintOf h86) Tryd.f86 = some c86 := by kernel_rfl
theorem ok87 : cfn Tryd.prog [0, 1] (hintOf h87) Tryd.f87 = some c87 := by kernel_rfl
theorem ok88 : cfn Tryd.prog [0, 1] (hintOf h88) Tryd.f88 = some c88 := by kernel_rfl
theorem ok89 : cfn Tryd.prog [0, 1] (hintOf h89) Tryd.f89 = some c89 := by kernel_rfl
theorem ok90 : cfn Tryd.prog [0, 1] (hintOf h90) Tryd.f90 = some c90 := by kernel_rfl
theorem ok91 : cfn Tryd.prog [0, 1] (hintOf h91) Tryd.f91 = some c91 := by kernel_rfl
theorem F91 : F 91 = some c91 := by kernel_rfl
theorem ok92 : cfn Tryd.prog [0, 1] (hintOf h92) Tryd.f92 = some c92 := by kernel_rfl
theorem F92 : F 92 = some c92 := by kernel_rfl
theorem ok93 : cfn Tryd.prog [0, 1] (hintOf h93) Tryd.f93 = some c93 := by kernel_rfl
theorem F93 : F 93 = some c93 := by kernel_rfl
theorem ok94 : cfn Tryd.prog [0, 1] (hintOf h94) Tryd.f94 = some c94 := by kernel_rfl
theorem ok95 : cfn Tryd.prog [0, 1] (hintOf h95) Tryd.f95 = some c95 := by kernel_rfl
theorem F95 : F 95 = some c95 := by kernel_rfl
theorem ok96 : cfn Tryd.prog [0, 1] (hintOf h96) Tryd.f96 = some c96 := by kernel_rfl
theorem F96 : F 96 = some c96 := by kernel_rfl
theorem ok97 : cfn Tryd.prog [0, 1] (hintOf h97) Tryd.f97 = some c97 := by kernel_rfl
theorem ok98 : cfn Tryd.prog [0, 1] (hintOf h98) Tryd.f98 = some c98 := by kernel_rfl
theorem ok99 : cfn Tryd.prog [0, 1] (hintOf h99) Tryd.f99 = some c99 := by kernel_rfl
theorem F99 : F 99 = some c99 := by kernel_rfl
theorem ok100 : cfn Tryd.prog [0, 1] (hintOf h100) Tryd.f100 = some c100 := by kernel_rfl
theorem ok101 : cfn Tryd.prog [0, 1] (hintOf h101) Tryd.f101 = some c101 := by kernel_rfl
theorem F101 : F 101 = some c101 := by kernel_rfl
theorem ok102 : cfn Tryd.prog [0, 1] (hintOf h102) Tryd.f102 = some c102 := by kernel_rfl
theorem F102 : F 102 = some c102 := by kernel_rfl
def OKp (p : Nat × IFn) : Prop := ∃ func hint, Tryd.prog.funcs[p.1]? = some func ∧ cfn Tryd.prog [0, 1] hint func = some p.2 ∧ (func.name == "runtime.NumGoroutine") = false
theorem okp16 : OKp (16, c16) := ⟨_, _, Tryd.func16, ok16, by kernel_rfl⟩
theorem okp17 : OKp (17, c17) := ⟨_, _, Tryd.func17, ok17, by kernel_rfl⟩
theorem okp18 : OKp (18, c18) := ⟨_, _, Tryd.func18, ok18, by kernel_rfl⟩
theorem okp19 : OKp (19, c19) := ⟨_, _, Tryd.func19, ok19, by kernel_rfl⟩
theorem okp20 : OKp (20, c20) := ⟨_, _, Tryd.func20, ok20, by kernel_rfl⟩
theorem okp21 : OKp (21, c21) := ⟨_, _, Tryd.func21, ok21, by kernel_rfl⟩
theorem okp22 : OKp (22, c22) := ⟨_, _, Tryd.func22, ok22, by kernel_rfl⟩
theorem okp23 : OKp (23, c23) := ⟨_, _, Tryd.func23, ok23, by kernel_rfl⟩
theorem okp24 : OKp (24, c24) := ⟨_, _, Tryd.func24, ok24, by kernel_rfl⟩
theorem okp25 : OKp (25, c25) := ⟨_, _, Tryd.func25, ok25, by kernel_rfl⟩
theorem okp26 : OKp (26, c26) := ⟨_, _, Tryd.func26, ok26, by kernel_rfl⟩
theorem okp27 : OKp (27, c27) := ⟨_, _, Tryd.func27, ok27, by kernel_rfl⟩
theorem okp28 : OKp (28, c28) := ⟨_, _, Tryd.func28, ok28, by kernel_rfl⟩
theorem okp29 : OKp (29, c29) := ⟨_, _, Tryd.func29, ok29, by kernel_rfl⟩
theorem okp30 : OKp (30, c30) := ⟨_, _, Tryd.func30, ok30, by kernel_rfl⟩
theorem okp31 : OKp (31, c31) := ⟨_, _, Tryd.func31, ok31, by kernel_rfl⟩
theorem okp32 : OKp (32, c32) := ⟨_, _, Tryd.func32, ok32, by kernel_rfl⟩
theorem okp33 : OKp (33, c33) := ⟨_, _, Tryd.func33, ok33, by kernel_rfl⟩
theorem okp34 : OKp (34, c34) := ⟨_, _, Tryd.func34, ok34, by kernel_rfl⟩
theorem okp35 : OKp (35, c35) := ⟨_, _, Tryd.func35, ok35, by kernel_rfl⟩
theorem okp36 : OKp (36, c36) := ⟨_, _, Tryd.func36, ok36, by kernel_rfl⟩
theorem okp37 : OKp (37, c37) := ⟨_, _, Tryd.func37, ok37, by kernel_rfl⟩
theorem okp38 : OKp (38, c38) := ⟨_, _, Tryd.func38, ok38, by kernel_rfl⟩
theorem okp39 : OKp (39, c39) := ⟨_, _, Tryd.func39, ok39, by kernel_rfl⟩
theorem okp40 : OKp (40, c40) := ⟨_, _, Tryd.func40, ok40, by kernel_rfl⟩
theorem okp41 : OKp (41, c41) := ⟨_, _, Tryd.func41, ok41, by kernel_rfl⟩
theorem okp42 : OKp (42, c42) := ⟨_, _, Tryd.func42, ok42, by kernel_rfl⟩
theorem okp43 : OKp (43, c43) := ⟨_, _, Tryd.func43, ok43, by kernel_rfl⟩
theorem okp44 : OKp (44, c44) := ⟨_, _, Tryd.func44, ok44, by kernel_rfl⟩
theorem okp45 : OKp (45, c45) := ⟨_, _, Tryd.func45, ok45, by kernel_rfl⟩
theorem okp46 : OKp (46, c46) := ⟨_, _, Tryd.func46, ok46, by kernel_rfl⟩
theorem okp47 : OKp (47, c47) := ⟨_, _, Tryd.func47, ok47, by kernel_rfl⟩
theorem okp48 : OKp (48, c48) := ⟨_, _, Tryd.func48, ok48, by kernel_rfl⟩
theorem okp49 : OKp (49, c49) := ⟨_, _, Tryd.func49, ok49, by kernel_rfl⟩
theorem okp50 : OKp (50, c50) := ⟨_, _, Tryd.func50, ok50, by kernel_rfl⟩
theorem okp51 : OKp (51, c51) := ⟨_, _, Tryd.func51, ok51, by kernel_rfl⟩
theorem okp52 : OKp (52, c52) := ⟨_, _, Tryd.func52, ok52, by kernel_rfl⟩
theorem okp53 : OKp (53, c53) := ⟨_, _, Tryd.func53, ok53, by kernel_rfl⟩
theorem okp54 : OKp (54, c54) := ⟨_, _, Tryd.func54, ok54, by kernel_rfl⟩
theorem okp55 : OKp (55, c55) := ⟨_, _, Tryd.func55, ok55, by kernel_rfl⟩
theorem okp56 : OKp (56, c56) := ⟨_, _, Tryd.func56, ok56, by kernel_rfl⟩
theorem okp57 : OKp (57, c57) := ⟨_, _, Tryd.func57, ok57, by kernel_rfl⟩
theorem okp58 : OKp (58, c58) := ⟨_, _, Tryd.func58, ok58, by kernel_rfl⟩
theorem okp59 : OKp (59, c59) := ⟨_, _, Tryd.func59, ok59, by kernel_rfl⟩
theorem okp60 : OKp (60, c60) := ⟨_, _, Tryd.func60, ok60, by kernel_rfl⟩
theorem okp61 : OKp (61, c61) := ⟨_, _, Tryd.func61, ok61, by kernel_rfl⟩
theorem okp62 : OKp (62, c62) := ⟨_, _, Tryd.func62, ok62, by kernel_rfl⟩
theorem okp63 : OKp (63, c63) := ⟨_, _, Tryd.func63, ok63, by kernel_rfl⟩
theorem okp64 : OKp (64, c64) := ⟨_, _, Tryd.func64, ok64, by kernel_rfl⟩
theorem okp65 : OKp (65, c65) := ⟨_, _, Tryd.func65, ok65, by kernel_rfl⟩
theorem okp66 : OKp (66, c66) := ⟨_, _, Tryd.func66, ok66, by kernel_rfl⟩
theorem okp67 : OKp (67, c67) := ⟨_, _, Tryd.func67, ok67, by kernel_rfl⟩
theorem okp68 : OKp (68, c68) := ⟨_, _, Tryd.func68, ok68, by kernel_rfl⟩
theorem okp69 : OKp (69, c69) := ⟨_, _, Tryd.func69, ok69, by kernel_rfl⟩
theorem okp70 : OKp (70, c70) := ⟨_, _, Tryd.func70, ok70, by kernel_rfl⟩
theorem okp71 : OKp (71, c71) := ⟨_, _, Tryd.func71, ok71, by kernel_rfl⟩
theorem okp72 : OKp (72, c72) := ⟨_, _, Tryd.func72, ok72, by kernel_rfl⟩
theorem okp73 : OKp (73, c73) := ⟨_, _, Tryd.func73, ok73, by kernel_rfl⟩
theorem okp74 : OKp (74, c74) := ⟨_, _, Tryd.func74, ok74, by kernel_rfl⟩
theorem okp75 : OKp (75, c75) := ⟨_, _, Tryd.func75, ok75, by kernel_rfl⟩
theorem okp76 : OKp (76, c76) := ⟨_, _, Tryd.func76, ok76, by kernel_rfl⟩
theorem okp77 : OKp (77, c77) := ⟨_, _, Tryd.func77, ok77, by kernel_rfl⟩
theorem okp78 : OKp (78, c78) := ⟨_, _, Tryd.func78, ok78, by kernel_rfl⟩
theorem okp79 : OKp (79, c79) := ⟨_, _, Tryd.func79, ok79, by kernel_rfl⟩
theorem okp80 : OKp (80, c80) := ⟨_, _, Tryd.func80, ok80, by kernel_rfl⟩
theorem okp81 : OKp (81, c81) := ⟨_, _, Tryd.func81, ok81, by kernel_rfl⟩
theorem okp82 : OKp (82, c82) := ⟨_, _, Tryd.func82, ok82, by kernel_rfl⟩
theorem okp83 : OKp (83, c83) := ⟨_, _, Tryd.func83, ok83, by kernel_rfl⟩
theorem okp84 : OKp (84, c84) := ⟨_, _, Tryd.func84, ok84, by kernel_rfl⟩
theorem okp85 : OKp (85, c85) := ⟨_, _, Tryd.func85, ok85, by kernel_rfl⟩
theorem okp86 : OKp (86, c86) := ⟨_, _, Tryd.func86, ok86, by kernel_rfl⟩
theorem okp87 : OKp (87, c87) := ⟨_, _, Tryd.func87, ok87, by kernel_rfl⟩
theorem okp88 : OKp (88, c88) := ⟨_, _, Tryd.func88, ok88, by kernel_rfl⟩
theorem okp89 : OKp (89, c89) := ⟨_, _, Tryd.func89, ok89, by kernel_rfl⟩
theorem okp90 : OKp (90, c90) := ⟨_, _, Tryd.func90, ok90, by kernel_rfl⟩
theorem okp91 : OKp (91, c91) := ⟨_, _, Tryd.func91, ok91, by kernel_rfl⟩
theorem okp92 : OKp (92, c92) := ⟨_, _, Tryd.func92, ok92, by kernel_rfl⟩
theorem okp93 : OKp (93, c93) := ⟨_, _, Tryd.func93, ok93, by kernel_rfl⟩
theorem okp94 : OKp (94, c94) := ⟨_, _, Tryd.func94, ok94, by kernel_rfl⟩
theorem okp95 : OKp (95, c95) := ⟨_, _, Tryd.func95, ok95, by kernel_rfl⟩
theorem okp96 : OKp (96, c96) := ⟨_, _, Tryd.func96, ok96, by kernel_rfl⟩
theorem okp97 : OKp (97, c97) := ⟨_, _, Tryd.func97, ok97, by kernel_rfl⟩
theorem okp98 : OKp (98, c98) := ⟨_, _, Tryd.func98, ok98, by kernel_rfl⟩
theorem okp99 : OKp (99, c99) := ⟨_, _, Tryd.func99, ok99, by kernel_rfl⟩
theorem okp100 : OKp (100, c100) := ⟨_, _, Tryd.func100, ok100, by kernel_rfl⟩
theorem okp101 : OKp (101, c101) := ⟨_, _, Tryd.func101, ok101, by kernel_rfl⟩
theorem okp102 : OKp (102, c102) := ⟨_, _, Tryd.func102, ok102, by kernel_rfl⟩
theorem okAll : ∀ p ∈ tabF, OKp p := by
  unfold tabF
  exact List.forall_mem_cons.2 ⟨okp16, List.forall_mem_cons.2 ⟨okp17, List.forall_mem_cons.2 ⟨okp18, List.forall_mem_cons.2 ⟨okp19, List.forall_mem_cons.2 ⟨okp20, List.forall_mem_cons.2 ⟨okp21, List.forall_mem_cons.2 ⟨okp22, List.forall_mem_cons.2 ⟨okp23, List.forall_mem_cons.2 ⟨okp24, List.forall_mem_cons.2 ⟨okp25, List.forall_mem_cons.2 ⟨okp26, List.forall_mem_cons.2 ⟨okp27, List.forall_mem_cons.2 ⟨okp28, List.forall_mem_cons.2 ⟨okp29, List.forall_mem_cons.2 ⟨okp30, List.forall_mem_cons.2 ⟨okp31, List.forall_mem_cons.2 ⟨okp32, List.forall_mem_cons.2 ⟨okp33, List.forall_mem_cons.2 ⟨okp34, List.forall_mem_cons.2 ⟨okp35, List.forall_mem_cons.2 ⟨okp36, List.forall_mem_cons.2 ⟨okp37, List.forall_mem_cons.2 ⟨okp38, List.forall_mem_cons.2 ⟨okp39, List.forall_mem_cons.2 ⟨okp40, List.forall_mem_cons.2 ⟨okp41, List.forall_mem_cons.2 ⟨okp42, List.forall_mem_cons.2 ⟨okp43, List.forall_mem_cons.2 ⟨okp44, List.forall_mem_cons.2 ⟨okp45, List.forall_mem_cons.2 ⟨okp46, List.forall_mem_cons.2 ⟨okp47, List.forall_mem_cons.2 ⟨okp48, List.forall_mem_cons.2 ⟨okp49, List.forall_mem_cons.2 ⟨okp50, List.forall_mem_cons.2 ⟨okp51, List.forall_mem_cons.2 ⟨okp52, List.forall_mem_cons.2 ⟨okp53, List.forall_mem_cons.2 ⟨okp54, List.forall_mem_cons.2 ⟨okp55, List.forall_mem_cons.2 ⟨okp56, List.forall_mem_cons.2 ⟨okp57, List.forall_mem_cons.2 ⟨okp58, List.forall_mem_cons.2 ⟨okp59, List.forall_mem_cons.2 ⟨okp60, List.forall_mem_cons.2 ⟨okp61, List.forall_mem_cons.2 ⟨okp62, List.forall_mem_cons.2 ⟨okp63, List.forall_mem_cons.2 ⟨okp64, List.forall_mem_cons.2 ⟨okp65, List.forall_mem_cons.2 ⟨okp66, List.forall_mem_cons.2 ⟨okp67, List.forall_mem_cons.2 ⟨okp68, List.forall_mem_cons.2 ⟨okp69, List.forall_mem_cons.2 ⟨okp70, List.forall_mem_cons.2 ⟨okp71, List.forall_mem_cons.2 ⟨okp72, List.forall_mem_cons.2 ⟨okp73, List.forall_mem_cons.2 ⟨okp74, List.forall_mem_cons.2 ⟨okp75, List.forall_mem_cons.2 ⟨okp76, List.forall_mem_cons.2 ⟨okp77, List.forall_mem_cons.2 ⟨okp78, List.forall_mem_cons.2 ⟨okp79, List.forall_mem_cons.2 ⟨okp80, List.forall_mem_cons.2 ⟨okp81, List.forall_mem_cons.2 ⟨okp82, List.forall_mem_cons.2 ⟨okp83, List.forall_mem_cons.2 ⟨okp84, List.forall_mem_cons.2 ⟨okp85, List.forall_mem_cons.2 ⟨okp86, List.forall_mem_cons.2 ⟨okp87, List.forall_mem_cons.2 ⟨okp88, List.forall_mem_cons.2 ⟨okp89, List.forall_mem_cons.2 ⟨okp90, List.forall_mem_cons.2 ⟨okp91, List.forall_mem_cons.2 ⟨okp92, List.forall_mem_cons.2 ⟨okp93, List.forall_mem_cons.2 ⟨okp94, List.forall_mem_cons.2 ⟨okp95, List.forall_mem_cons.2 ⟨okp96, List.forall_mem_cons.2 ⟨okp97, List.forall_mem_cons.2 ⟨okp98, List.forall_mem_cons.2 ⟨okp99, List.forall_mem_cons.2 ⟨okp100, List.forall_mem_cons.2 ⟨okp101, List.forall_mem_cons.2 ⟨okp102, (fun _ h => nomatch h)⟩⟩⟩⟩⟩⟩⟩⟩⟩⟩⟩⟩⟩⟩⟩⟩⟩⟩⟩⟩⟩⟩⟩⟩⟩⟩⟩⟩⟩⟩⟩⟩⟩⟩⟩⟩⟩⟩⟩⟩⟩⟩⟩⟩⟩⟩⟩⟩⟩⟩⟩⟩⟩⟩⟩⟩⟩⟩⟩⟩⟩⟩⟩⟩⟩⟩⟩⟩⟩⟩⟩⟩⟩⟩⟩⟩⟩⟩⟩⟩⟩⟩⟩⟩⟩⟩⟩
end Go.Abs

set_option linter.unusedVariables false
set_option linter.unusedSimpArgs false
namespace Go.Abs
open Go.Proofs Go.RowKit
theorem lookup_mem {α : Type} {n : Nat} {c : α} : ∀ {l : List (Nat × α)}, l.lookup n = some c → (n, c) ∈ l
  | [], h => by simp at h
  | (m, d) :: l, h => by
    rw [List.lookup_cons] at h
    split at h
    · rename_i e
      injection h with h
      subst h
      rw [beq_iff_eq] at e
      subst e
      exact List.mem_cons_self
    · exact List.mem_cons_of_mem _ (lookup_mem h)
theorem fnOK_F : FnOK Tryd.prog [0, 1] F := fun f fn h => okAll (f, fn) (lookup_mem h)
theorem fnOK_more {i : Nat} {c : IFn} (h : OKp (i, c)) : FnOK Tryd.prog [0, 1] (more F i c) := by
  intro f fn e
  unfold more at e
  by_cases e2 : f = i
  · rw [if_pos e2] at e
    have e3 := Option.some.inj e
    rw [← e3, e2]
    exact h
  · rw [if_neg e2] at e
    exact fnOK_F f fn e

/-- A call out of the evaluator's word: memory that was there is as it was. -/
theorem calls_below {G : Nat → Option IFn} (hG : FnOK Tryd.prog [0, 1] G) {f : Nat} {vs : List AV} {rows : List Row} (h : Ret G f vs rows = some (.bool true, rows, none)) {θ : Th} {w : World} {args : Array Value} (hr : HRel (KP Tryd.prog [0, 1]) θ rows w) (hg : GRel θ [0, 1]) (hv : VL θ vs args.toList) :
    Calls Tryd.prog f args w fun e w' => e = .returned (.bool true) ∧ Below w.heap.size w w' := by
  obtain ⟨n, hn⟩ := Ret_iff.1 h
  refine (call_sound hG (n := n) hn hr hg hv).mono ?_
  rintro e w' ⟨θ', v', rfl, hV, fr⟩
  cases hV
  refine ⟨rfl, fr.os, fr.tape, fr.output, fr.size, fun b hb => ?_⟩
  refine fr.keepB b hb fun id r L hr _ hle _ => ?_
  have := rows_lt hr
  simp only [lowO] at hle
  omega
end Go.Abs

set_option linter.unusedVariables false
set_option linter.unusedSimpArgs false
set_option maxRecDepth 10000
namespace Go.Abs
open Go.Proofs Go.RowKit Go.ChangeShapes Go.WideShapes Go.ChangeAt Go.WideElems
open Go.Proofs.YtiejbjajbehcfaaDoor (Rows.laid_math_bits_deBruijn32tab Rows.laid_math_bits_deBruijn64tab)

def t32 : List Int := [0, 1, 28, 2, 29, 14, 24, 3, 30, 22, 20, 15, 25, 17, 4, 8, 31, 27, 13, 23, 21, 19, 16, 7, 26, 12, 18, 6, 11, 5, 10, 9]
def t64 : List Int := [0, 1, 56, 2, 57, 49, 28, 3, 61, 58, 42, 50, 38, 29, 17, 4, 62, 47, 59, 36, 45, 43, 51, 22, 53, 39, 33, 30, 24, 18, 12, 5, 63, 55, 48, 27, 60, 41, 37, 16, 46, 35, 44, 21, 52, 32, 23, 11, 54, 26, 40, 15, 34, 20, 31, 10, 25, 14, 19, 9, 13, 8, 7, 6]
def laidL : List (String × DataW Unit) := [("math/bits.deBruijn32tab", Rows.laid_math_bits_deBruijn32tab), ("math/bits.deBruijn64tab", Rows.laid_math_bits_deBruijn64tab)]
/-- The tables' rows. -/
def gRows : List Row := [.ro (nums .u8 t32), .ro (nums .u8 t64)]

theorem g0 : Tryd.prog.globalNamed "math/bits.deBruijn32tab" = some 0 := by kernel_rfl
theorem g1 : Tryd.prog.globalNamed "math/bits.deBruijn64tab" = some 1 := by kernel_rfl
theorem ty0 : (Tryd.prog.globals[0]?).map (·.type) = some 134 := by kernel_rfl
theorem ty1 : (Tryd.prog.globals[1]?).map (·.type) = some 135 := by kernel_rfl

/-- The cells of a table. -/
theorem table_cells {P : Program} {W : World} {H : Type} {enc : TypeId × Value → H} {base : Nat} {spare held : _} {fuel t e n : Nat} {cs : List Value} {l : List Int} {q : _} (ht : P.underlying t = some (.array n e)) (he : P.underlying e = some (.int .u8)) (hc : P.cellsOf e = 1)
    (h : DataW.trod enc P W base spare held fuel t cs = some (.agg (l.map fun n => .lit (.int .u8 n)), q)) {i : Nat} (hi : i < n) {x : Int} (hx : l[i]? = some x) : cs[i]? = some (.int .u8 x) := by
  obtain ⟨xs, m, rfl, hx1, hlen, hn, hel⟩ := DataW.trod_array ht h
  have h0 := hel i hi
  rw [hc, Nat.mul_one] at h0
  simp only [Prod.mk.injEq, DataW.agg.injEq] at hx1
  have hxi : i < xs.length := by omega
  rw [List.getElem?_eq_getElem hxi] at h0
  obtain ⟨k, e1, e2, _⟩ := DataW.trod_int he h0
  have e3 : (xs.map (·.1))[i]? = (l.map fun n => DataW.lit (.int .u8 n))[i]? := by rw [← hx1.1]
  rw [List.getElem?_map, List.getElem?_map, List.getElem?_eq_getElem hxi, e2, hx] at e3
  simp only [Option.map_some, Option.some.injEq, DataW.lit.injEq, Lit.int.injEq, true_and] at e3
  subst e3
  have e4 : (cs.drop i)[0]? = some (.int .u8 k) := by
    cases hd : cs.drop i with
    | nil => rw [hd] at e1; simp at e1
    | cons a b => rw [hd] at e1; simp at e1; simp [e1]
  rw [List.getElem?_drop] at e4
  simpa using e4

/-- What the laid variables give. -/
theorem of_laid {W : World} (h : laidMetH Tryd.prog laidL W) : (∀ (i : Nat) (x : Int), t32[i]? = some x → W.cell? ⟨0, i, none⟩ = some (.int .u8 x)) ∧ (∀ (i : Nat) (x : Int), t64[i]? = some x → W.cell? ⟨1, i, none⟩ = some (.int .u8 x)) ∧ 1 < W.heap.size := by
  rw [MakeChecks.laidMetH_plain _ _ _ (by kernel_rfl)] at h
  obtain ⟨ps, ⟨b0, u0, cs0, f0, p0, q0, hg0, ht0, hv0, hd0, ⟨b1, u1, cs1, f1, p1, q1, hg1, ht1, hv1, hd1, _, _⟩, _⟩, _, _⟩ := h
  obtain rfl := Option.some.inj (g0.symm.trans hg0)
  obtain rfl := Option.some.inj (g1.symm.trans hg1)
  obtain rfl := Option.some.inj (ty0.symm.trans ht0)
  obtain rfl := Option.some.inj (ty1.symm.trans ht1)
  have r1 : ∀ (i : Nat) (x : Int), t64[i]? = some x → W.cell? ⟨1, i, none⟩ = some (.int .u8 x) := by
    intro i x hx
    have hi : i < 64 := (List.getElem?_eq_some_iff.1 hx).1
    have := table_cells (l := t64) Tryd.underlying135 Tryd.underlying6 (by kernel_rfl) hd1 hi hx
    rw [World.var?_cell hg1 hv1 i]
    simpa using this
  refine ⟨?_, r1, ?_⟩
  · intro i x hx
    have hi : i < 32 := (List.getElem?_eq_some_iff.1 hx).1
    have := table_cells (l := t32) Tryd.underlying134 Tryd.underlying6 (by kernel_rfl) hd0 hi hx
    rw [World.var?_cell hg0 hv0 i]
    simpa using this
  · have h0 := r1 0 0 rfl
    unfold World.cell? at h0
    by_cases h : 1 < W.heap.size
    · exact h
    · rw [show W.heap[1]? = none from Array.getElem?_eq_none (by omega)] at h0
      simp at h0

/-- Where the tables lie. -/
def gTh : Th := fun id => if id = 0 then some ⟨0, 0, 0⟩ else if id = 1 then some ⟨1, 0, 0⟩ else none
theorem gHRel {κ : KRel} {W : World} (h : laidMetH Tryd.prog laidL W) : HRel κ gTh gRows W := by
  obtain ⟨h0, h1, hs⟩ := of_laid h
  refine ⟨?_, ?_, ?_, ?_⟩
  · intro id L e
    unfold gTh at e
    simp only [gRows, List.length_cons, List.length_nil]
    split at e
    · omega
    · split at e
      · omega
      · simp at e
  · intro id L e
    unfold gTh at e
    split at e
    · injection e with e; subst e; show 0 < _; omega
    · split at e
      · injection e with e; subst e; exact hs
      · simp at e
  · intro id r e
    match id, e with
    | 0, e =>
      injection e with e; subst e
      refine ⟨⟨0, 0, 0⟩, rfl, fun j x hx => ?_⟩
      rw [nums_get] at hx
      obtain ⟨n, hn, rfl⟩ := Option.map_eq_some_iff.1 hx
      exact ⟨_, by rw [Nat.zero_add]; exact h0 j n hn, .int _ _, rfl⟩
    | 1, e =>
      injection e with e; subst e
      refine ⟨⟨1, 0, 0⟩, rfl, fun j x hx => ?_⟩
      rw [nums_get] at hx
      obtain ⟨n, hn, rfl⟩ := Option.map_eq_some_iff.1 hx
      exact ⟨_, by rw [Nat.zero_add]; exact h1 j n hn, .int _ _, rfl⟩
    | n + 2, e => simp [gRows] at e
  · intro i j r s L L' hij hr ho
    match i, hr with
    | 0, hr => injection hr with hr; subst hr; simp [Row.owned] at ho
    | 1, hr => injection hr with hr; subst hr; simp [Row.owned] at ho
    | n + 2, hr => simp [gRows] at hr
/-- The door's own heap meets the condition. -/
theorem door_met (os : Os) (args : Array Value) : laidMetH Tryd.prog laidL ((World.doorLaid Tryd.prog 400 os).forCall (fun _ _ => 0) ⟨#[], args, []⟩).memory :=
  laidMetH_of_parts3 (fuel := 8) (laidMet_of_run' 8 (by kernel_rfl) (by kernel_rfl)) (by kernel_rfl) (by kernel_rfl)
end Go.Abs

set_option maxRecDepth 100000
set_option linter.unusedVariables false
namespace Go.Abs
theorem aw28 : cF F 4000 28 [.slice 2 0 2 (.at_ 2)] (gRows ++ [.cells [.int .i64 5, .int .i64 1]]) = some (.tup [.int .i64 6, .slice 3 0 2 (.op 1), .int .i64 0], gRows ++ [.cells [.int .i64 5, .int .i64 1], .cells [.int .i64 0, .int .i64 1]], none) := by kernel_rfl
end Go.Abs

set_option maxRecDepth 100000
set_option linter.unusedVariables false
namespace Go.Abs
theorem aw29 : cF F 4000 29 [.slice 4 0 2 (.at_ 2), .slice 5 0 2 (.at_ 2)] (gRows ++ [.cells [.int .i64 5, .int .i64 1], .cells [.int .i64 0, .int .i64 1], .cells [.int .i64 5, .int .i64 1], .cells [.int .i64 1, .int .i64 0]]) = some (.tup [.slice 6 0 3 (.at_ 3), .int .i64 0], gRows ++ [.cells [.int .i64 5, .int .i64 1], .cells [.int .i64 0, .int .i64 1], .cells [.int .i64 5, .int .i64 1], .cells [.int .i64 1, .int .i64 0], .cells [.int .i64 6, .int .i64 6, .int .i64 1]], none) := by kernel_rfl
theorem aw32 : cF F 4000 32 [.slice 6 0 3 (.at_ 3), .slice 8 0 3 (.at_ 3)] (gRows ++ [.cells [.int .i64 5, .int .i64 1], .cells [.int .i64 0, .int .i64 1], .cells [.int .i64 5, .int .i64 1], .cells [.int .i64 1, .int .i64 0], .cells [.int .i64 6, .int .i64 6, .int .i64 1], .cells [.int .i64 0, .int .i64 1, .int .i64 1, .int .i64 2], .cells [.int .i64 6, .int .i64 6, .int .i64 1]]) = some (.bool true, gRows ++ [.cells [.int .i64 5, .int .i64 1], .cells [.int .i64 0, .int .i64 1], .cells [.int .i64 5, .int .i64 1], .cells [.int .i64 1, .int .i64 0], .cells [.int .i64 6, .int .i64 6, .int .i64 1], .cells [.int .i64 0, .int .i64 1, .int .i64 1, .int .i64 2], .cells [.int .i64 6, .int .i64 6, .int .i64 1]], none) := by kernel_rfl
theorem aw46 : cF F 4000 46 [.slice 9 0 1 (.at_ 1)] (gRows ++ [.cells [.int .i64 5, .int .i64 1], .cells [.int .i64 0, .int .i64 1], .cells [.int .i64 5, .int .i64 1], .cells [.int .i64 1, .int .i64 0], .cells [.int .i64 6, .int .i64 6, .int .i64 1], .cells [.int .i64 0, .int .i64 1, .int .i64 1, .int .i64 2], .cells [.int .i64 6, .int .i64 6, .int .i64 1], .cells [.int .i64 0]]) = some (.int .i64 80, gRows ++ [.cells [.int .i64 5, .int .i64 1], .cells [.int .i64 0, .int .i64 1], .cells [.int .i64 5, .int .i64 1], .cells [.int .i64 1, .int .i64 0], .cells [.int .i64 6, .int .i64 6, .int .i64 1], .cells [.int .i64 0, .int .i64 1, .int .i64 1, .int .i64 2], .cells [.int .i64 6, .int .i64 6, .int .i64 1], .cells [.int .i64 0]], none) := by kernel_rfl
end Go.Abs

set_option maxRecDepth 100000
set_option linter.unusedVariables false
namespace Go.Abs
theorem aw48 : cF F 4000 48 [.int .i64 3, .slice 7 0 2 (.at_ 2)] (gRows ++ [.cells [.int .i64 5, .int .i64 1], .cells [.int .i64 0, .int .i64 1], .cells [.int .i64 5, .int .i64 1], .cells [.int .i64 1, .int .i64 0], .cells [.int .i64 6, .int .i64 6, .int .i64 1], .cells [.int .i64 0, .int .i64 1, .int .i64 1, .int .i64 2]]) = some (.tup [.int .i64 1, .int .i64 0], gRows ++ [.cells [.int .i64 5, .int .i64 1], .cells [.int .i64 0, .int .i64 1], .cells [.int .i64 5, .int .i64 1], .cells [.int .i64 1, .int .i64 0], .cells [.int .i64 6, .int .i64 6, .int .i64 1], .cells [.int .i64 0, .int .i64 1, .int .i64 1, .int .i64 2]], none) := by kernel_rfl
end Go.Abs

set_option linter.unusedVariables false
set_option maxRecDepth 20000
set_option maxHeartbeats 4000000
namespace Go.Abs
variable {F : Nat → Option IFn} {cx : Ctx} {k : List Itm} {s : St} {l : List (Nat × AV)} {rows : List Row} {low : Nat} {r : AV × List Row × Nat → Prop}
@[simp] theorem uc16k0 : Ex F cx (.code c16k0 :: k) ⟨mk 19 l, rows, low⟩ r ↔ bnd (Ret F 56 [lk l 0, lk l 1] rows) fun q0 => Ex F cx k ⟨mk 19 [(5, (.int .i64 0)), (4, q0.1), (18, q0.1), (17, lk l 1), (16, lk l 0), (0, lk l 0), (1, lk l 1)], q0.2.1, (lowO low q0.2.2)⟩ r := reg (keep := [0, 1]) (ops := c16r0) rfl (by kernel_rfl) (by kernel_rfl)
@[simp] theorem uc16s1 : Ex F cx (.code c16s1 :: k) s r ↔ Ex F cx (.code (.seq c16k0 .ret) :: k) s r := Iff.rfl
@[simp] theorem uc16k2 : Ex F cx (.code c16k2 :: k) ⟨mk 19 l, rows, low⟩ r ↔ Ex F cx k ⟨mk 19 [(5, (.int .i64 1)), (4, (.int .i64 0))], rows, low⟩ r := reg (keep := []) (ops := c16r2) rfl (by kernel_rfl) (by kernel_rfl)
@[simp] theorem uc16s3 : Ex F cx (.code c16s3 :: k) s r ↔ Ex F cx (.code (.cond (.t 15) (.seq c16k2 .ret) .skip) :: k) s r := Iff.rfl
@[simp] theorem uc16k4 : Ex F cx (.code c16k4 :: k) ⟨mk 19 l, rows, low⟩ r ↔ bnd (evE rows low (.mkslice 1 [.int .i64 0] [(0, 1, (.c (lk l 0)))])) fun q0 => bnd (Ret F 55 [(.int .i64 0), (.int .i64 20), q0.1] q0.2.1) fun q1 => bnd (evP q1.2.1 (.un .not (.c q1.1))) fun v2 => bnd (gv v2 false (evP q1.2.1 (.mv (.c (lk l 1))))) fun v3 => geff v2 false q1.2.1 (lowO q0.2.2 q1.2.2) (.mkslice 1 [.int .i64 0] [(0, 1, (.c v3))]) fun v4 R4 L4 => gcall F v2 false R4 L4 [(.int .i64 0), (.int .i64 60), v4] (.func 55 []) fun v5 R5 L5 => bnd (gv v2 false (evP R5 (.un .not (.c v5)))) fun v6 => bnd (evP R5 (.pick (.c v2) (.c (.bool true)) (.c v6))) fun v7 => Ex F cx k ⟨mk 19 [(15, v7), (14, v6), (13, v5), (12, v4), (11, v3), (10, v2), (9, v2), (8, q1.1), (7, q0.1), (6, lk l 0), (0, lk l 0), (1, lk l 1)], R5, L5⟩ r := reg (keep := [0, 1]) (ops := c16r4) rfl (by kernel_rfl) (by kernel_rfl)
@[simp] theorem uc16s5 : Ex F cx (.code c16s5 :: k) s r ↔ Ex F cx (.code (.seq (.seq c16k4 c16s3) c16s1) :: k) s r := Iff.rfl
@[simp] theorem uc16k6 : Ex F cx (.code c16k6 :: k) ⟨mk 19 l, rows, low⟩ r ↔ Ex F cx k ⟨mk 19 [(5, (.int .i64 0)), (4, (.int .i64 0)), (0, lk l 0), (1, lk l 1)], rows, low⟩ r := reg (keep := [0, 1]) (ops := c16r6) rfl (by kernel_rfl) (by kernel_rfl)
def Jc16s1 (F : Nat → Option IFn) (cx : Ctx) (x0 x1 : AV) (rows : List Row) (low : Nat) (r : AV × List Row × Nat → Prop) : Prop := Ex F cx (.code c16s1 :: []) ⟨mk 19 [(0, x0), (1, x1)], rows, low⟩ r
theorem jc16s1 : Ex F cx (.code c16s1 :: []) ⟨mk 19 l, rows, low⟩ r ↔ Jc16s1 F cx (lk l 0) (lk l 1) rows low r := Ex_canon (keep := [0, 1]) (by kernel_rfl)
@[simp] theorem uc16b : Ex F cx (.code c16b :: k) s r ↔ Ex F cx (.code (.seq c16k6 c16s5) :: k) s r := Iff.rfl
theorem i16 {x0 x1 : AV} (hF : F 16 = some c16) {q : AV × List Row × Option Nat} (h : Ex F (.fn [.t 4, .t 5]) [.code c16b] ⟨mk 19 [(0, x0), (1, x1)], rows, rows.length⟩ fun r => fin rows r.1 r.2.1 r.2.2 = q) : Ret F 16 [x0, x1] rows = some q := Ret_mk hF h
@[simp] theorem uc18k0 : Ex F cx (.code c18k0 :: k) ⟨mk 29 l, rows, low⟩ r ↔ Ex F cx k ⟨mk 29 [(5, (.int .i64 8)), (4, (.int .i64 0))], rows, low⟩ r := reg (keep := []) (ops := c18r0) rfl (by kernel_rfl) (by kernel_rfl)
@[simp] theorem uc18s1 : Ex F cx (.code c18s1 :: k) s r ↔ Ex F cx (.code (.seq c18k0 .ret) :: k) s r := Iff.rfl
@[simp] theorem uc18k3 : Ex F cx (.code c18k3 :: k) ⟨mk 29 l, rows, low⟩ r ↔ bnd (evP rows (.bin .add (.c (lk l 19)) (.c (.int .i64 1)))) fun v0 => Ex F cx k ⟨mk 29 [(19, v0), (28, v0), (0, lk l 0), (1, lk l 1), (19, lk l 19)], rows, low⟩ r := reg (keep := [0, 1, 19]) (ops := c18r3) rfl (by kernel_rfl) (by kernel_rfl)
@[simp] theorem uc18k4 : Ex F cx (.code c18k4 :: k) ⟨mk 29 l, rows, low⟩ r ↔ Ex F cx k ⟨mk 29 [(5, (.int .i64 0)), (4, lk l 6), (27, lk l 6), (6, lk l 6)], rows, low⟩ r := reg (keep := [6]) (ops := c18r4) rfl (by kernel_rfl) (by kernel_rfl)
@[simp] theorem uc18s5 : Ex F cx (.code c18s5 :: k) s r ↔ Ex F cx (.code (.cond (.t 26) (.seq c18k4 .ret) .skip) :: k) s r := Iff.rfl
@[simp] theorem uc18k6 : Ex F cx (.code c18k6 :: k) ⟨mk 29 l, rows, low⟩ r ↔ bnd (Ret F 56 [lk l 0, lk l 6] rows) fun q0 => bnd (evP q0.2.1 (.bin .geq (.c q0.1) (.c (lk l 1)))) fun v1 => Ex F cx k ⟨mk 29 [(26, v1), (25, lk l 1), (24, q0.1), (23, lk l 6), (22, lk l 0), (0, lk l 0), (1, lk l 1), (6, lk l 6), (19, lk l 19)], q0.2.1, (lowO low q0.2.2)⟩ r := reg (keep := [0, 1, 6, 19]) (ops := c18r6) rfl (by kernel_rfl) (by kernel_rfl)
@[simp] theorem uc18s7 : Ex F cx (.code c18s7 :: k) s r ↔ Ex F cx (.code (.seq c18k6 c18s5) :: k) s r := Iff.rfl
@[simp] theorem uc18k8 : Ex F cx (.code c18k8 :: k) ⟨mk 29 l, rows, low⟩ r ↔ Ex F cx k ⟨mk 29 [(6, lk l 19), (21, lk l 19), (0, lk l 0), (1, lk l 1), (19, lk l 19)], rows, low⟩ r := reg (keep := [0, 1, 19]) (ops := c18r8) rfl (by kernel_rfl) (by kernel_rfl)
@[simp] theorem uc18s9 : Ex F cx (.code c18s9 :: k) s r ↔ Ex F cx (.code (.seq (.block 1 (.seq c18k8 c18s7)) c18k3) :: k) s r := Iff.rfl
@[simp] theorem uc18s10 : Ex F cx (.code c18s10 :: k) s r ↔ Ex F cx (.code (.seq (.cond (.t 20) .skip (.exit 0)) c18s9) :: k) s r := Iff.rfl
@[simp] theorem uc18k11 : Ex F cx (.code c18k11 :: k) ⟨mk 29 l, rows, low⟩ r ↔ bnd (evP rows (.bin .lss (.c (lk l 19)) (.c (.int .i64 61)))) fun v0 => Ex F cx k ⟨mk 29 [(20, v0), (0, lk l 0), (1, lk l 1), (19, lk l 19)], rows, low⟩ r := reg (keep := [0, 1, 19]) (ops := c18r11) rfl (by kernel_rfl) (by kernel_rfl)
@[simp] theorem uc18s12 : Ex F cx (.code c18s12 :: k) s r ↔ Ex F cx (.code (.block 0 (.loop c18l2)) :: k) s r := Iff.rfl
@[simp] theorem uc18k13 : Ex F cx (.code c18k13 :: k) ⟨mk 29 l, rows, low⟩ r ↔ Ex F cx k ⟨mk 29 [(19, (.int .i64 0)), (0, lk l 0), (1, lk l 1)], rows, low⟩ r := reg (keep := [0, 1]) (ops := c18r13) rfl (by kernel_rfl) (by kernel_rfl)
@[simp] theorem uc18s14 : Ex F cx (.code c18s14 :: k) s r ↔ Ex F cx (.code (.seq (.seq c18k13 c18s12) c18s1) :: k) s r := Iff.rfl
@[simp] theorem uc18k15 : Ex F cx (.code c18k15 :: k) ⟨mk 29 l, rows, low⟩ r ↔ Ex F cx k ⟨mk 29 [(5, (.int .i64 1)), (4, (.int .i64 0))], rows, low⟩ r := reg (keep := []) (ops := c18r15) rfl (by kernel_rfl) (by kernel_rfl)
@[simp] theorem uc18s16 : Ex F cx (.code c18s16 :: k) s r ↔ Ex F cx (.code (.cond (.t 18) (.seq c18k15 .ret) .skip) :: k) s r := Iff.rfl
@[simp] theorem uc18k17 : Ex F cx (.code c18k17 :: k) ⟨mk 29 l, rows, low⟩ r ↔ bnd (evE rows low (.mkslice 1 [.int .i64 0] [(0, 1, (.c (lk l 0)))])) fun q0 => bnd (Ret F 55 [(.int .i64 1), (.int .i64 20), q0.1] q0.2.1) fun q1 => bnd (evP q1.2.1 (.un .not (.c q1.1))) fun v2 => bnd (gv v2 false (evP q1.2.1 (.mv (.c (lk l 1))))) fun v3 => bnd (gv v2 false (evP q1.2.1 (.bin .lss (.c v3) (.c (.int .i64 0))))) fun v4 => bnd (evP q1.2.1 (.pick (.c v2) (.c (.bool true)) (.c v4))) fun v5 => bnd (gv v5 false (evP q1.2.1 (.mv (.c (lk l 1))))) fun v6 => bnd (gv v5 false (evP q1.2.1 (.bin .gtr (.c v6) (.c (.int .i64 1000000000000))))) fun v7 => bnd (evP q1.2.1 (.pick (.c v5) (.c (.bool true)) (.c v7))) fun v8 => Ex F cx k ⟨mk 29 [(18, v8), (17, v7), (16, v6), (15, v5), (14, v5), (13, v4), (12, v3), (11, v2), (10, v2), (9, q1.1), (8, q0.1), (7, lk l 0), (0, lk l 0), (1, lk l 1)], q1.2.1, (lowO q0.2.2 q1.2.2)⟩ r := reg (keep := [0, 1]) (ops := c18r17) rfl (by kernel_rfl) (by kernel_rfl)
@[simp] theorem uc18s18 : Ex F cx (.code c18s18 :: k) s r ↔ Ex F cx (.code (.seq (.seq c18k17 c18s16) c18s14) :: k) s r := Iff.rfl
@[simp] theorem uc18k19 : Ex F cx (.code c18k19 :: k) ⟨mk 29 l, rows, low⟩ r ↔ Ex F cx k ⟨mk 29 [(5, (.int .i64 0)), (4, (.int .i64 0)), (0, lk l 0), (1, lk l 1)], rows, low⟩ r := reg (keep := [0, 1]) (ops := c18r19) rfl (by kernel_rfl) (by kernel_rfl)
def Jc18s9 (F : Nat → Option IFn) (cx : Ctx) (x0 x1 x19 : AV) (rows : List Row) (low : Nat) (r : AV × List Row × Nat → Prop) : Prop := Ex F cx (.code c18s9 :: .inLoop c18l2 :: .inBlock 0 :: .code c18s1 :: []) ⟨mk 29 [(0, x0), (1, x1), (19, x19)], rows, low⟩ r
theorem jc18s9 : Ex F cx (.code c18s9 :: .inLoop c18l2 :: .inBlock 0 :: .code c18s1 :: []) ⟨mk 29 l, rows, low⟩ r ↔ Jc18s9 F cx (lk l 0) (lk l 1) (lk l 19) rows low r := Ex_canon (keep := [0, 1, 19]) (by kernel_rfl)
def Lc18l2 (F : Nat → Option IFn) (cx : Ctx) (x0 x1 x19 : AV) (rows : List Row) (low : Nat) (r : AV × List Row × Nat → Prop) : Prop := Ex F cx (.code c18l2 :: .inLoop c18l2 :: .inBlock 0 :: .code c18s1 :: []) ⟨mk 29 [(0, x0), (1, x1), (19, x19)], rows, low⟩ r
@[simp] theorem nc18l2 : Ex F cx (.inLoop c18l2 :: .inBlock 0 :: .code c18s1 :: []) ⟨mk 29 l, rows, low⟩ r ↔ Lc18l2 F cx (lk l 0) (lk l 1) (lk l 19) rows low r := loopN (keep := [0, 1, 19]) (by kernel_rfl)
@[simp] theorem ec18l2 : Ex F cx (.code (.loop c18l2) :: .inBlock 0 :: .code c18s1 :: []) ⟨mk 29 l, rows, low⟩ r ↔ Lc18l2 F cx (lk l 0) (lk l 1) (lk l 19) rows low r := loopE (keep := [0, 1, 19]) (by kernel_rfl)
@[simp] theorem uc18l2 : Ex F cx (.code c18l2 :: k) s r ↔ Ex F cx (.code (.seq c18k11 c18s10) :: k) s r := Iff.rfl
def Jc18s14 (F : Nat → Option IFn) (cx : Ctx) (x0 x1 : AV) (rows : List Row) (low : Nat) (r : AV × List Row × Nat → Prop) : Prop := Ex F cx (.code c18s14 :: []) ⟨mk 29 [(0, x0), (1, x1)], rows, low⟩ r
theorem jc18s14 : Ex F cx (.code c18s14 :: []) ⟨mk 29 l, rows, low⟩ r ↔ Jc18s14 F cx (lk l 0) (lk l 1) rows low r := Ex_canon (keep := [0, 1]) (by kernel_rfl)
@[simp] theorem uc18b : Ex F cx (.code c18b :: k) s r ↔ Ex F cx (.code (.seq c18k19 c18s18) :: k) s r := Iff.rfl
theorem i18 {x0 x1 : AV} (hF : F 18 = some c18) {q : AV × List Row × Option Nat} (h : Ex F (.fn [.t 4, .t 5]) [.code c18b] ⟨mk 29 [(0, x0), (1, x1)], rows, rows.length⟩ fun r => fin rows r.1 r.2.1 r.2.2 = q) : Ret F 18 [x0, x1] rows = some q := Ret_mk hF h
@[simp] theorem uc19k0 : Ex F cx (.code c19k0 :: k) ⟨mk 26 l, rows, low⟩ r ↔ bnd (evP rows (.bin .sub (.c (lk l 6)) (.c (.int .i64 1)))) fun v0 => bnd (Ret F 56 [lk l 0, v0] rows) fun q1 => bnd (evP q1.2.1 (.bin .sub (.c (lk l 1)) (.c q1.1))) fun v2 => bnd (evP q1.2.1 (.mx [(.c (.int .i64 1)), (.c v2)])) fun v3 => Ex F cx k ⟨mk 26 [(5, (.int .i64 0)), (4, v3), (25, v3), (24, v2), (23, q1.1), (22, v0), (21, lk l 6), (20, lk l 0), (19, lk l 1), (0, lk l 0), (1, lk l 1), (6, lk l 6)], q1.2.1, (lowO low q1.2.2)⟩ r := reg (keep := [0, 1, 6]) (ops := c19r0) rfl (by kernel_rfl) (by kernel_rfl)
@[simp] theorem uc19s1 : Ex F cx (.code c19s1 :: k) s r ↔ Ex F cx (.code (.seq c19k0 .ret) :: k) s r := Iff.rfl
@[simp] theorem uc19k2 : Ex F cx (.code c19k2 :: k) ⟨mk 26 l, rows, low⟩ r ↔ Ex F cx k ⟨mk 26 [(5, lk l 7), (4, (.int .i64 0)), (18, lk l 7), (7, lk l 7)], rows, low⟩ r := reg (keep := [7]) (ops := c19r2) rfl (by kernel_rfl) (by kernel_rfl)
@[simp] theorem uc19s3 : Ex F cx (.code c19s3 :: k) s r ↔ Ex F cx (.code (.cond (.t 17) (.seq c19k2 .ret) .skip) :: k) s r := Iff.rfl
@[simp] theorem uc19k4 : Ex F cx (.code c19k4 :: k) ⟨mk 26 l, rows, low⟩ r ↔ bnd (evP rows (.bin .neq (.c (lk l 7)) (.c (.int .i64 0)))) fun v0 => Ex F cx k ⟨mk 26 [(17, v0), (16, lk l 7), (0, lk l 0), (1, lk l 1), (6, lk l 6), (7, lk l 7)], rows, low⟩ r := reg (keep := [0, 1, 6, 7]) (ops := c19r4) rfl (by kernel_rfl) (by kernel_rfl)
@[simp] theorem uc19s5 : Ex F cx (.code c19s5 :: k) s r ↔ Ex F cx (.code (.seq (.seq c19k4 c19s3) c19s1) :: k) s r := Iff.rfl
@[simp] theorem uc19k6 : Ex F cx (.code c19k6 :: k) ⟨mk 26 l, rows, low⟩ r ↔ Ex F cx k ⟨mk 26 [(5, (.int .i64 1)), (4, (.int .i64 0))], rows, low⟩ r := reg (keep := []) (ops := c19r6) rfl (by kernel_rfl) (by kernel_rfl)
@[simp] theorem uc19s7 : Ex F cx (.code c19s7 :: k) s r ↔ Ex F cx (.code (.cond (.t 15) (.seq c19k6 .ret) .skip) :: k) s r := Iff.rfl
@[simp] theorem uc19k8 : Ex F cx (.code c19k8 :: k) ⟨mk 26 l, rows, low⟩ r ↔ bnd (evP rows (.bin .eql (.c (lk l 1)) (.c (.int .i64 0)))) fun v0 => Ex F cx k ⟨mk 26 [(15, v0), (14, lk l 1), (0, lk l 0), (1, lk l 1), (6, lk l 6), (7, lk l 7)], rows, low⟩ r := reg (keep := [0, 1, 6, 7]) (ops := c19r8) rfl (by kernel_rfl) (by kernel_rfl)
@[simp] theorem uc19s9 : Ex F cx (.code c19s9 :: k) s r ↔ Ex F cx (.code (.seq (.seq c19k8 c19s7) c19s5) :: k) s r := Iff.rfl
@[simp] theorem uc19k10 : Ex F cx (.code c19k10 :: k) ⟨mk 26 l, rows, low⟩ r ↔ bnd (Ret F 18 [lk l 0, lk l 1] rows) fun q0 => bnd (evP q0.2.1 (.ext (.c q0.1) 0)) fun v1 => bnd (evP q0.2.1 (.ext (.c q0.1) 1)) fun v2 => Ex F cx k ⟨mk 26 [(7, v2), (6, v1), (13, v2), (12, v1), (8, q0.1), (11, q0.1), (10, lk l 1), (9, lk l 0), (0, lk l 0), (1, lk l 1)], q0.2.1, (lowO low q0.2.2)⟩ r := reg (keep := [0, 1]) (ops := c19r10) rfl (by kernel_rfl) (by kernel_rfl)
@[simp] theorem uc19s11 : Ex F cx (.code c19s11 :: k) s r ↔ Ex F cx (.code (.seq c19k10 c19s9) :: k) s r := Iff.rfl
@[simp] theorem uc19k12 : Ex F cx (.code c19k12 :: k) ⟨mk 26 l, rows, low⟩ r ↔ Ex F cx k ⟨mk 26 [(5, (.int .i64 0)), (4, (.int .i64 0)), (0, lk l 0), (1, lk l 1)], rows, low⟩ r := reg (keep := [0, 1]) (ops := c19r12) rfl (by kernel_rfl) (by kernel_rfl)
def Jc19s1 (F : Nat → Option IFn) (cx : Ctx) (x0 x1 x6 : AV) (rows : List Row) (low : Nat) (r : AV × List Row × Nat → Prop) : Prop := Ex F cx (.code c19s1 :: []) ⟨mk 26 [(0, x0), (1, x1), (6, x6)], rows, low⟩ r
theorem jc19s1 : Ex F cx (.code c19s1 :: []) ⟨mk 26 l, rows, low⟩ r ↔ Jc19s1 F cx (lk l 0) (lk l 1) (lk l 6) rows low r := Ex_canon (keep := [0, 1, 6]) (by kernel_rfl)
def Jc19s5 (F : Nat → Option IFn) (cx : Ctx) (x0 x1 x6 x7 : AV) (rows : List Row) (low : Nat) (r : AV × List Row × Nat → Prop) : Prop := Ex F cx (.code c19s5 :: []) ⟨mk 26 [(0, x0), (1, x1), (6, x6), (7, x7)], rows, low⟩ r
theorem jc19s5 : Ex F cx (.code c19s5 :: []) ⟨mk 26 l, rows, low⟩ r ↔ Jc19s5 F cx (lk l 0) (lk l 1) (lk l 6) (lk l 7) rows low r := Ex_canon (keep := [0, 1, 6, 7]) (by kernel_rfl)
@[simp] theorem uc19b : Ex F cx (.code c19b :: k) s r ↔ Ex F cx (.code (.seq c19k12 c19s11) :: k) s r := Iff.rfl
theorem i19 {x0 x1 : AV} (hF : F 19 = some c19) {q : AV × List Row × Option Nat} (h : Ex F (.fn [.t 4, .t 5]) [.code c19b] ⟨mk 26 [(0, x0), (1, x1)], rows, rows.length⟩ fun r => fin rows r.1 r.2.1 r.2.2 = q) : Ret F 19 [x0, x1] rows = some q := Ret_mk hF h
@[simp] theorem uc22k0 : Ex F cx (.code c22k0 :: k) ⟨mk 102 l, rows, low⟩ r ↔ bnd (evP rows (.bin .eql (.c (lk l 3)) (.c (.int .i64 0)))) fun v0 => bnd (gv v0 true (evP rows (.mv (.c (lk l 1))))) fun v1 => bnd (gv v0 true (evP rows (.bin .eql (.c v1) (.c (.int .i64 6))))) fun v2 => bnd (evP rows (.pick (.c v0) (.c v2) (.c (.bool false)))) fun v3 => bnd (gv v3 true (evP rows (.mv (.c (lk l 2))))) fun v4 => bnd (gv v3 true (evP rows (.len 0 (.c v4)))) fun v5 => bnd (gv v3 true (evP rows (.bin .eql (.c v5) (.c (.int .i64 2))))) fun v6 => bnd (evP rows (.pick (.c v3) (.c v6) (.c (.bool false)))) fun v7 => bnd (gv v7 true (evP rows (.mv (.c (lk l 5))))) fun v8 => bnd (gv v7 true (evP rows (.bin .eql (.c v8) (.c (.int .i64 0))))) fun v9 => bnd (evP rows (.pick (.c v7) (.c v9) (.c (.bool false)))) fun v10 => bnd (gv v10 true (evP rows (.mv (.c (lk l 4))))) fun v11 => geff v10 true rows low (.mkslice 3 [.int .i64 0, .int .i64 0, .int .i64 0] [(0, 1, (.c (.int .i64 6))), (1, 1, (.c (.int .i64 6))), (2, 1, (.c (.int .i64 1)))]) fun v12 R12 L12 => gcall F v10 true R12 L12 [v11, v12] (.func 32 []) fun v13 R13 L13 => bnd (evP R13 (.pick (.c v10) (.c v13) (.c (.bool false)))) fun v14 => bnd (gv v14 true (evP R13 (.mv (.c (lk l 7))))) fun v15 => bnd (gv v14 true (evP R13 (.bin .eql (.c v15) (.c (.int .i64 0))))) fun v16 => bnd (evP R13 (.pick (.c v14) (.c v16) (.c (.bool false)))) fun v17 => bnd (gv v17 true (evP R13 (.mv (.c (lk l 6))))) fun v18 => bnd (gv v17 true (evP R13 (.bin .eql (.c v18) (.c (.int .i64 1))))) fun v19 => bnd (evP R13 (.pick (.c v17) (.c v19) (.c (.bool false)))) fun v20 => bnd (gv v20 true (evP R13 (.mv (.c (lk l 9))))) fun v21 => bnd (gv v20 true (evP R13 (.bin .eql (.c v21) (.c (.int .i64 0))))) fun v22 => bnd (evP R13 (.pick (.c v20) (.c v22) (.c (.bool false)))) fun v23 => bnd (gv v23 true (evP R13 (.mv (.c (lk l 8))))) fun v24 => bnd (gv v23 true (evP R13 (.bin .eql (.c v24) (.c (.int .i64 10))))) fun v25 => bnd (evP R13 (.pick (.c v23) (.c v25) (.c (.bool false)))) fun v26 => bnd (gv v26 true (evP R13 (.mv (.c (lk l 11))))) fun v27 => bnd (gv v26 true (evP R13 (.bin .eql (.c v27) (.c (.int .i64 0))))) fun v28 => bnd (evP R13 (.pick (.c v26) (.c v28) (.c (.bool false)))) fun v29 => bnd (gv v29 true (evP R13 (.mv (.c (lk l 10))))) fun v30 => bnd (gv v29 true (evP R13 (.bin .eql (.c v30) (.c (.int .i64 14))))) fun v31 => bnd (evP R13 (.pick (.c v29) (.c v31) (.c (.bool false)))) fun v32 => bnd (gv v32 true (evP R13 (.mv (.c (lk l 13))))) fun v33 => bnd (gv v32 true (evP R13 (.bin .eql (.c v33) (.c (.int .i64 0))))) fun v34 => bnd (evP R13 (.pick (.c v32) (.c v34) (.c (.bool false)))) fun v35 => bnd (gv v35 true (evP R13 (.mv (.c (lk l 12))))) fun v36 => bnd (gv v35 true (evP R13 (.bin .eql (.c v36) (.c (.int .i64 9))))) fun v37 => bnd (evP R13 (.pick (.c v35) (.c v37) (.c (.bool false)))) fun v38 => geff v38 true R13 L13 (.mkslice 1 [.int .i64 0] [(0, 1, (.c (.int .i64 0)))]) fun v39 R39 L39 => gcall F v38 true R39 L39 [v39] (.func 46 []) fun v40 R40 L40 => bnd (gv v38 true (evP R40 (.bin .eql (.c v40) (.c (.int .i64 80))))) fun v41 => bnd (evP R40 (.pick (.c v38) (.c v41) (.c (.bool false)))) fun v42 => Ex F cx k ⟨mk 102 [(0, v42), (101, v42), (100, v41), (99, v40), (98, v39), (97, v38), (96, v38), (95, v37), (94, v36), (93, v35), (92, v35), (91, v34), (90, v33), (89, v32), (88, v32), (87, v31), (86, v30), (85, v29), (84, v29), (83, v28), (82, v27), (81, v26), (80, v26), (79, v25), (78, v24), (77, v23), (76, v23), (75, v22), (74, v21), (73, v20), (72, v20), (71, v19), (70, v18), (69, v17), (68, v17), (67, v16), (66, v15), (65, v14), (64, v14), (63, v13), (62, v12), (61, v11), (60, v10), (59, v10), (58, v9), (57, v8), (56, v7), (55, v7), (54, v6), (53, v5), (52, v4), (51, v3), (50, v3), (49, v2), (48, v1), (47, v0), (46, v0), (45, lk l 3), (1, lk l 1), (2, lk l 2), (3, lk l 3), (4, lk l 4), (5, lk l 5), (6, lk l 6), (7, lk l 7), (8, lk l 8), (9, lk l 9), (10, lk l 10), (11, lk l 11), (12, lk l 12), (13, lk l 13)], R40, L40⟩ r := reg (keep := [1, 2, 3, 4, 5, 6, 7, 8, 9, 10, 11, 12, 13]) (ops := c22r0) rfl (by kernel_rfl) (by kernel_rfl)
@[simp] theorem uc22s1 : Ex F cx (.code c22s1 :: k) s r ↔ Ex F cx (.code (.seq c22k0 .ret) :: k) s r := Iff.rfl
@[simp] theorem uc22k2 : Ex F cx (.code c22k2 :: k) ⟨mk 102 l, rows, low⟩ r ↔ bnd (Ret F 19 [(.int .i64 2), (.int .i64 100)] rows) fun q0 => bnd (evP q0.2.1 (.ext (.c q0.1) 0)) fun v1 => bnd (evP q0.2.1 (.ext (.c q0.1) 1)) fun v2 => Ex F cx k ⟨mk 102 [(13, v2), (12, v1), (44, v2), (43, v1), (41, q0.1), (42, q0.1), (1, lk l 1), (2, lk l 2), (3, lk l 3), (4, lk l 4), (5, lk l 5), (6, lk l 6), (7, lk l 7), (8, lk l 8), (9, lk l 9), (10, lk l 10), (11, lk l 11)], q0.2.1, (lowO low q0.2.2)⟩ r := reg (keep := [1, 2, 3, 4, 5, 6, 7, 8, 9, 10, 11]) (ops := c22r2) rfl (by kernel_rfl) (by kernel_rfl)
@[simp] theorem uc22s3 : Ex F cx (.code c22s3 :: k) s r ↔ Ex F cx (.code (.seq c22k2 c22s1) :: k) s r := Iff.rfl
@[simp] theorem uc22k4 : Ex F cx (.code c22k4 :: k) ⟨mk 102 l, rows, low⟩ r ↔ bnd (Ret F 18 [(.int .i64 2), (.int .i64 100)] rows) fun q0 => bnd (evP q0.2.1 (.ext (.c q0.1) 0)) fun v1 => bnd (evP q0.2.1 (.ext (.c q0.1) 1)) fun v2 => Ex F cx k ⟨mk 102 [(11, v2), (10, v1), (40, v2), (39, v1), (37, q0.1), (38, q0.1), (1, lk l 1), (2, lk l 2), (3, lk l 3), (4, lk l 4), (5, lk l 5), (6, lk l 6), (7, lk l 7), (8, lk l 8), (9, lk l 9)], q0.2.1, (lowO low q0.2.2)⟩ r := reg (keep := [1, 2, 3, 4, 5, 6, 7, 8, 9]) (ops := c22r4) rfl (by kernel_rfl) (by kernel_rfl)
@[simp] theorem uc22s5 : Ex F cx (.code c22s5 :: k) s r ↔ Ex F cx (.code (.seq c22k4 c22s3) :: k) s r := Iff.rfl
@[simp] theorem uc22k6 : Ex F cx (.code c22k6 :: k) ⟨mk 102 l, rows, low⟩ r ↔ bnd (Ret F 16 [(.int .i64 2), (.int .i64 4)] rows) fun q0 => bnd (evP q0.2.1 (.ext (.c q0.1) 0)) fun v1 => bnd (evP q0.2.1 (.ext (.c q0.1) 1)) fun v2 => Ex F cx k ⟨mk 102 [(9, v2), (8, v1), (36, v2), (35, v1), (33, q0.1), (34, q0.1), (1, lk l 1), (2, lk l 2), (3, lk l 3), (4, lk l 4), (5, lk l 5), (6, lk l 6), (7, lk l 7)], q0.2.1, (lowO low q0.2.2)⟩ r := reg (keep := [1, 2, 3, 4, 5, 6, 7]) (ops := c22r6) rfl (by kernel_rfl) (by kernel_rfl)
@[simp] theorem uc22s7 : Ex F cx (.code c22s7 :: k) s r ↔ Ex F cx (.code (.seq c22k6 c22s5) :: k) s r := Iff.rfl
@[simp] theorem uc22k8 : Ex F cx (.code c22k8 :: k) ⟨mk 102 l, rows, low⟩ r ↔ bnd (evP rows (.mkagg [.int .i64 0, .int .i64 0] [(0, 1, (.c (.int .i64 0))), (1, 1, (.c (.int .i64 1)))])) fun v0 => bnd (evP rows (.mkagg [.int .i64 0, .int .i64 0] [(0, 1, (.c (.int .i64 1))), (1, 1, (.c (.int .i64 2)))])) fun v1 => bnd (evE rows low (.mkslice 2 [.int .i64 0, .int .i64 0, .int .i64 0, .int .i64 0] [(0, 2, (.c v0)), (2, 2, (.c v1))])) fun q2 => bnd (Ret F 48 [(.int .i64 3), q2.1] q2.2.1) fun q3 => bnd (evP q3.2.1 (.ext (.c q3.1) 0)) fun v4 => bnd (evP q3.2.1 (.ext (.c q3.1) 1)) fun v5 => Ex F cx k ⟨mk 102 [(7, v5), (6, v4), (32, v5), (31, v4), (26, q3.1), (30, q3.1), (29, q2.1), (28, v1), (27, v0), (1, lk l 1), (2, lk l 2), (3, lk l 3), (4, lk l 4), (5, lk l 5)], q3.2.1, (lowO q2.2.2 q3.2.2)⟩ r := reg (keep := [1, 2, 3, 4, 5]) (ops := c22r8) rfl (by kernel_rfl) (by kernel_rfl)
@[simp] theorem uc22s9 : Ex F cx (.code c22s9 :: k) s r ↔ Ex F cx (.code (.seq c22k8 c22s7) :: k) s r := Iff.rfl
@[simp] theorem uc22k10 : Ex F cx (.code c22k10 :: k) ⟨mk 102 l, rows, low⟩ r ↔ bnd (evE rows low (.mkslice 2 [.int .i64 0, .int .i64 0] [(0, 1, (.c (.int .i64 5))), (1, 1, (.c (.int .i64 1)))])) fun q0 => bnd (evE q0.2.1 q0.2.2 (.mkslice 2 [.int .i64 0, .int .i64 0] [(0, 1, (.c (.int .i64 1))), (1, 1, (.c (.int .i64 0)))])) fun q1 => bnd (Ret F 29 [q0.1, q1.1] q1.2.1) fun q2 => bnd (evP q2.2.1 (.ext (.c q2.1) 0)) fun v3 => bnd (evP q2.2.1 (.ext (.c q2.1) 1)) fun v4 => Ex F cx k ⟨mk 102 [(5, v4), (4, v3), (25, v4), (24, v3), (20, q2.1), (23, q2.1), (22, q1.1), (21, q0.1), (1, lk l 1), (2, lk l 2), (3, lk l 3)], q2.2.1, (lowO q1.2.2 q2.2.2)⟩ r := reg (keep := [1, 2, 3]) (ops := c22r10) rfl (by kernel_rfl) (by kernel_rfl)
@[simp] theorem uc22s11 : Ex F cx (.code c22s11 :: k) s r ↔ Ex F cx (.code (.seq c22k10 c22s9) :: k) s r := Iff.rfl
@[simp] theorem uc22k12 : Ex F cx (.code c22k12 :: k) ⟨mk 102 l, rows, low⟩ r ↔ bnd (evE rows low (.mkslice 2 [.int .i64 0, .int .i64 0] [(0, 1, (.c (.int .i64 5))), (1, 1, (.c (.int .i64 1)))])) fun q0 => bnd (Ret F 28 [q0.1] q0.2.1) fun q1 => bnd (evP q1.2.1 (.ext (.c q1.1) 0)) fun v2 => bnd (evP q1.2.1 (.ext (.c q1.1) 1)) fun v3 => bnd (evP q1.2.1 (.ext (.c q1.1) 2)) fun v4 => Ex F cx k ⟨mk 102 [(3, v4), (2, v3), (1, v2), (19, v4), (18, v3), (17, v2), (14, q1.1), (16, q1.1), (15, q0.1)], q1.2.1, (lowO q0.2.2 q1.2.2)⟩ r := reg (keep := []) (ops := c22r12) rfl (by kernel_rfl) (by kernel_rfl)
@[simp] theorem uc22s13 : Ex F cx (.code c22s13 :: k) s r ↔ Ex F cx (.code (.seq c22k12 c22s11) :: k) s r := Iff.rfl
@[simp] theorem uc22k14 : Ex F cx (.code c22k14 :: k) ⟨mk 102 l, rows, low⟩ r ↔ Ex F cx k ⟨mk 102 [(0, (.bool false))], rows, low⟩ r := reg (keep := []) (ops := c22r14) rfl (by kernel_rfl) (by kernel_rfl)
@[simp] theorem uc22b : Ex F cx (.code c22b :: k) s r ↔ Ex F cx (.code (.seq c22k14 c22s13) :: k) s r := Iff.rfl
theorem i22 (hF : F 22 = some c22) {q : AV × List Row × Option Nat} (h : Ex F (.fn [.t 0]) [.code c22b] ⟨mk 102 [], rows, rows.length⟩ fun r => fin rows r.1 r.2.1 r.2.2 = q) : Ret F 22 [] rows = some q := Ret_mk hF h
@[simp] theorem uc55k0 : Ex F cx (.code c55k0 :: k) ⟨mk 11 l, rows, low⟩ r ↔ bnd (evP rows (.mkfn 82 [(.c (lk l 3)), (.c (lk l 4))])) fun v0 => bnd (Ret F 81 [lk l 2, v0] rows) fun q1 => bnd (evP q1.2.1 (.un .not (.c q1.1))) fun v2 => Ex F cx k ⟨mk 11 [(6, v2), (10, v2), (9, q1.1), (8, v0), (7, lk l 2), (2, lk l 2), (3, lk l 3), (4, lk l 4)], q1.2.1, (lowO low q1.2.2)⟩ r := reg (keep := [2, 3, 4]) (ops := c55r0) rfl (by kernel_rfl) (by kernel_rfl)
@[simp] theorem uc55s1 : Ex F cx (.code c55s1 :: k) s r ↔ Ex F cx (.code (.seq c55k0 .ret) :: k) s r := Iff.rfl
@[simp] theorem uc55k2 : Ex F cx (.code c55k2 :: k) ⟨mk 11 l, rows, low⟩ r ↔ bnd (evE rows low (.box (.c (lk l 0)))) fun q0 => bnd (evE q0.2.1 q0.2.2 (.box (.c (lk l 1)))) fun q1 => Ex F cx k ⟨mk 11 [(6, (.bool false)), (4, q1.1), (3, q0.1), (0, lk l 0), (1, lk l 1), (2, lk l 2)], q1.2.1, q1.2.2⟩ r := reg (keep := [0, 1, 2]) (ops := c55r2) rfl (by kernel_rfl) (by kernel_rfl)
@[simp] theorem uc55b : Ex F cx (.code c55b :: k) s r ↔ Ex F cx (.code (.seq c55k2 c55s1) :: k) s r := Iff.rfl
theorem i55 {x0 x1 x2 : AV} (hF : F 55 = some c55) {q : AV × List Row × Option Nat} (h : Ex F (.fn [.t 6]) [.code c55b] ⟨mk 11 [(0, x0), (1, x1), (2, x2)], rows, rows.length⟩ fun r => fin rows r.1 r.2.1 r.2.2 = q) : Ret F 55 [x0, x1, x2] rows = some q := Ret_mk hF h
@[simp] theorem uc56k0 : Ex F cx (.code c56k0 :: k) ⟨mk 33 l, rows, low⟩ r ↔ bnd (evP rows (.idxA 21 1 (.c (lk l 5)) (.c (lk l 0)))) fun v0 => bnd (evP rows (.load1 (.c v0))) fun v1 => Ex F cx k ⟨mk 33 [(4, v1), (32, v1), (31, v0), (30, lk l 0), (0, lk l 0), (5, lk l 5)], rows, low⟩ r := reg (keep := [0, 5]) (ops := c56r0) rfl (by kernel_rfl) (by kernel_rfl)
@[simp] theorem uc56s1 : Ex F cx (.code c56s1 :: k) s r ↔ Ex F cx (.code (.seq c56k0 .ret) :: k) s r := Iff.rfl
@[simp] theorem uc56k3 : Ex F cx (.code c56k3 :: k) ⟨mk 33 l, rows, low⟩ r ↔ bnd (evP rows (.bin .add (.c (lk l 9)) (.c (.int .i64 1)))) fun v0 => Ex F cx k ⟨mk 33 [(9, v0), (29, v0), (0, lk l 0), (5, lk l 5), (8, lk l 8), (9, lk l 9)], rows, low⟩ r := reg (keep := [0, 5, 8, 9]) (ops := c56r3) rfl (by kernel_rfl) (by kernel_rfl)
@[simp] theorem uc56k4 : Ex F cx (.code c56k4 :: k) ⟨mk 33 l, rows, low⟩ r ↔ bnd (evP rows (.loadN 21 (.c (lk l 6)))) fun v0 => bnd (evE rows low (.storeN 21 (.c (lk l 5)) (.c v0))) fun q1 => Ex F cx k ⟨mk 33 [(28, v0), (0, lk l 0), (5, lk l 5), (6, lk l 6), (8, lk l 8), (9, lk l 9)], q1.2.1, q1.2.2⟩ r := reg (keep := [0, 5, 6, 8, 9]) (ops := c56r4) rfl (by kernel_rfl) (by kernel_rfl)
@[simp] theorem uc56k6 : Ex F cx (.code c56k6 :: k) ⟨mk 33 l, rows, low⟩ r ↔ bnd (evP rows (.bin .add (.c (lk l 7)) (.c (.int .i64 1)))) fun v0 => Ex F cx k ⟨mk 33 [(7, v0), (16, v0), (15, lk l 7), (0, lk l 0), (5, lk l 5), (6, lk l 6), (7, lk l 7), (8, lk l 8), (9, lk l 9)], rows, low⟩ r := reg (keep := [0, 5, 6, 7, 8, 9]) (ops := c56r6) rfl (by kernel_rfl) (by kernel_rfl)
@[simp] theorem uc56k7 : Ex F cx (.code c56k7 :: k) ⟨mk 33 l, rows, low⟩ r ↔ bnd (evP rows (.bin .sub (.c (lk l 7)) (.c (.int .i64 1)))) fun v0 => bnd (evP rows (.idxA 21 1 (.c (lk l 5)) (.c v0))) fun v1 => bnd (evP rows (.load1 (.c v1))) fun v2 => bnd (evP rows (.bin .add (.c v2) (.c (.int .i64 1)))) fun v3 => bnd (evP rows (.idxA 21 1 (.c (lk l 5)) (.c (lk l 7)))) fun v4 => bnd (evP rows (.load1 (.c v4))) fun v5 => bnd (evP rows (.bin .add (.c v3) (.c v5))) fun v6 => bnd (evP rows (.idxA 21 1 (.c (lk l 6)) (.c (lk l 7)))) fun v7 => bnd (evE rows low (.store1 (.c v7) (.c v6))) fun q8 => Ex F cx k ⟨mk 33 [(27, v7), (26, v6), (25, v5), (24, v4), (23, lk l 7), (22, v3), (21, v2), (20, v1), (19, v0), (18, lk l 7), (17, lk l 7), (0, lk l 0), (5, lk l 5), (6, lk l 6), (7, lk l 7), (8, lk l 8), (9, lk l 9)], q8.2.1, q8.2.2⟩ r := reg (keep := [0, 5, 6, 7, 8, 9]) (ops := c56r7) rfl (by kernel_rfl) (by kernel_rfl)
@[simp] theorem uc56s8 : Ex F cx (.code c56s8 :: k) s r ↔ Ex F cx (.code (.seq (.block 3 c56k7) c56k6) :: k) s r := Iff.rfl
@[simp] theorem uc56s9 : Ex F cx (.code c56s9 :: k) s r ↔ Ex F cx (.code (.cond (.t 14) .skip (.exit 2)) :: k) s r := Iff.rfl
@[simp] theorem uc56k10 : Ex F cx (.code c56k10 :: k) ⟨mk 33 l, rows, low⟩ r ↔ bnd (evP rows (.bin .leq (.c (lk l 7)) (.c (lk l 0)))) fun v0 => Ex F cx k ⟨mk 33 [(14, v0), (13, lk l 0), (12, lk l 7), (0, lk l 0), (5, lk l 5), (6, lk l 6), (7, lk l 7), (8, lk l 8), (9, lk l 9)], rows, low⟩ r := reg (keep := [0, 5, 6, 7, 8, 9]) (ops := c56r10) rfl (by kernel_rfl) (by kernel_rfl)
@[simp] theorem uc56s11 : Ex F cx (.code c56s11 :: k) s r ↔ Ex F cx (.code (.block 2 (.loop c56l5)) :: k) s r := Iff.rfl
@[simp] theorem uc56k12 : Ex F cx (.code c56k12 :: k) ⟨mk 33 l, rows, low⟩ r ↔ Ex F cx k ⟨mk 33 [(7, (.int .i64 1)), (0, lk l 0), (5, lk l 5), (6, lk l 6), (8, lk l 8), (9, lk l 9)], rows, low⟩ r := reg (keep := [0, 5, 6, 8, 9]) (ops := c56r12) rfl (by kernel_rfl) (by kernel_rfl)
@[simp] theorem uc56s13 : Ex F cx (.code c56s13 :: k) s r ↔ Ex F cx (.code (.seq (.seq c56k12 c56s11) c56k4) :: k) s r := Iff.rfl
@[simp] theorem uc56k14 : Ex F cx (.code c56k14 :: k) ⟨mk 33 l, rows, low⟩ r ↔ bnd (evP rows (.loadN 21 (.c (lk l 5)))) fun v0 => bnd (evE rows low (.box (.c (.agg (List.replicate 21 (.int .i64 0)))))) fun q1 => bnd (evE q1.2.1 q1.2.2 (.storeN 21 (.c q1.1) (.c v0))) fun q2 => Ex F cx k ⟨mk 33 [(6, q1.1), (11, v0), (0, lk l 0), (5, lk l 5), (8, lk l 8), (9, lk l 9)], q2.2.1, q2.2.2⟩ r := reg (keep := [0, 5, 8, 9]) (ops := c56r14) rfl (by kernel_rfl) (by kernel_rfl)
@[simp] theorem uc56s15 : Ex F cx (.code c56s15 :: k) s r ↔ Ex F cx (.code (.seq (.block 1 (.seq c56k14 c56s13)) c56k3) :: k) s r := Iff.rfl
@[simp] theorem uc56s16 : Ex F cx (.code c56s16 :: k) s r ↔ Ex F cx (.code (.seq (.cond (.t 10) .skip (.exit 0)) c56s15) :: k) s r := Iff.rfl
@[simp] theorem uc56k17 : Ex F cx (.code c56k17 :: k) ⟨mk 33 l, rows, low⟩ r ↔ bnd (evP rows (.bin .lss (.c (lk l 9)) (.c (lk l 8)))) fun v0 => Ex F cx k ⟨mk 33 [(10, v0), (0, lk l 0), (5, lk l 5), (8, lk l 8), (9, lk l 9)], rows, low⟩ r := reg (keep := [0, 5, 8, 9]) (ops := c56r17) rfl (by kernel_rfl) (by kernel_rfl)
@[simp] theorem uc56s18 : Ex F cx (.code c56s18 :: k) s r ↔ Ex F cx (.code (.block 0 (.loop c56l2)) :: k) s r := Iff.rfl
@[simp] theorem uc56k19 : Ex F cx (.code c56k19 :: k) ⟨mk 33 l, rows, low⟩ r ↔ Ex F cx k ⟨mk 33 [(9, (.int .i64 0)), (8, lk l 1), (0, lk l 0), (1, lk l 1), (5, lk l 5)], rows, low⟩ r := reg (keep := [0, 1, 5]) (ops := c56r19) rfl (by kernel_rfl) (by kernel_rfl)
@[simp] theorem uc56s20 : Ex F cx (.code c56s20 :: k) s r ↔ Ex F cx (.code (.seq (.seq c56k19 c56s18) c56s1) :: k) s r := Iff.rfl
@[simp] theorem uc56k21 : Ex F cx (.code c56k21 :: k) ⟨mk 33 l, rows, low⟩ r ↔ bnd (evE rows low (.box (.c (.agg (List.replicate 21 (.int .i64 0)))))) fun q0 => Ex F cx k ⟨mk 33 [(5, q0.1), (0, lk l 0), (1, lk l 1)], q0.2.1, q0.2.2⟩ r := reg (keep := [0, 1]) (ops := c56r21) rfl (by kernel_rfl) (by kernel_rfl)
@[simp] theorem uc56s22 : Ex F cx (.code c56s22 :: k) s r ↔ Ex F cx (.code (.seq c56k21 c56s20) :: k) s r := Iff.rfl
@[simp] theorem uc56k23 : Ex F cx (.code c56k23 :: k) ⟨mk 33 l, rows, low⟩ r ↔ Ex F cx k ⟨mk 33 [(4, (.int .i64 0)), (0, lk l 0), (1, lk l 1)], rows, low⟩ r := reg (keep := [0, 1]) (ops := c56r23) rfl (by kernel_rfl) (by kernel_rfl)
def Jc56s8 (F : Nat → Option IFn) (cx : Ctx) (x0 x5 x6 x7 x8 x9 : AV) (rows : List Row) (low : Nat) (r : AV × List Row × Nat → Prop) : Prop := Ex F cx (.code c56s8 :: .inLoop c56l5 :: .inBlock 2 :: .code c56k4 :: .inBlock 1 :: .code c56k3 :: .inLoop c56l2 :: .inBlock 0 :: .code c56s1 :: []) ⟨mk 33 [(0, x0), (5, x5), (6, x6), (7, x7), (8, x8), (9, x9)], rows, low⟩ r
theorem jc56s8 : Ex F cx (.code c56s8 :: .inLoop c56l5 :: .inBlock 2 :: .code c56k4 :: .inBlock 1 :: .code c56k3 :: .inLoop c56l2 :: .inBlock 0 :: .code c56s1 :: []) ⟨mk 33 l, rows, low⟩ r ↔ Jc56s8 F cx (lk l 0) (lk l 5) (lk l 6) (lk l 7) (lk l 8) (lk l 9) rows low r := Ex_canon (keep := [0, 5, 6, 7, 8, 9]) (by kernel_rfl)
def Lc56l5 (F : Nat → Option IFn) (cx : Ctx) (x0 x5 x6 x7 x8 x9 : AV) (rows : List Row) (low : Nat) (r : AV × List Row × Nat → Prop) : Prop := Ex F cx (.code c56l5 :: .inLoop c56l5 :: .inBlock 2 :: .code c56k4 :: .inBlock 1 :: .code c56k3 :: .inLoop c56l2 :: .inBlock 0 :: .code c56s1 :: []) ⟨mk 33 [(0, x0), (5, x5), (6, x6), (7, x7), (8, x8), (9, x9)], rows, low⟩ r
@[simp] theorem nc56l5 : Ex F cx (.inLoop c56l5 :: .inBlock 2 :: .code c56k4 :: .inBlock 1 :: .code c56k3 :: .inLoop c56l2 :: .inBlock 0 :: .code c56s1 :: []) ⟨mk 33 l, rows, low⟩ r ↔ Lc56l5 F cx (lk l 0) (lk l 5) (lk l 6) (lk l 7) (lk l 8) (lk l 9) rows low r := loopN (keep := [0, 5, 6, 7, 8, 9]) (by kernel_rfl)
@[simp] theorem ec56l5 : Ex F cx (.code (.loop c56l5) :: .inBlock 2 :: .code c56k4 :: .inBlock 1 :: .code c56k3 :: .inLoop c56l2 :: .inBlock 0 :: .code c56s1 :: []) ⟨mk 33 l, rows, low⟩ r ↔ Lc56l5 F cx (lk l 0) (lk l 5) (lk l 6) (lk l 7) (lk l 8) (lk l 9) rows low r := loopE (keep := [0, 5, 6, 7, 8, 9]) (by kernel_rfl)
@[simp] theorem uc56l5 : Ex F cx (.code c56l5 :: k) s r ↔ Ex F cx (.code (.seq (.seq c56k10 c56s9) c56s8) :: k) s r := Iff.rfl
def Jc56s15 (F : Nat → Option IFn) (cx : Ctx) (x0 x5 x8 x9 : AV) (rows : List Row) (low : Nat) (r : AV × List Row × Nat → Prop) : Prop := Ex F cx (.code c56s15 :: .inLoop c56l2 :: .inBlock 0 :: .code c56s1 :: []) ⟨mk 33 [(0, x0), (5, x5), (8, x8), (9, x9)], rows, low⟩ r
theorem jc56s15 : Ex F cx (.code c56s15 :: .inLoop c56l2 :: .inBlock 0 :: .code c56s1 :: []) ⟨mk 33 l, rows, low⟩ r ↔ Jc56s15 F cx (lk l 0) (lk l 5) (lk l 8) (lk l 9) rows low r := Ex_canon (keep := [0, 5, 8, 9]) (by kernel_rfl)
def Lc56l2 (F : Nat → Option IFn) (cx : Ctx) (x0 x5 x8 x9 : AV) (rows : List Row) (low : Nat) (r : AV × List Row × Nat → Prop) : Prop := Ex F cx (.code c56l2 :: .inLoop c56l2 :: .inBlock 0 :: .code c56s1 :: []) ⟨mk 33 [(0, x0), (5, x5), (8, x8), (9, x9)], rows, low⟩ r
@[simp] theorem nc56l2 : Ex F cx (.inLoop c56l2 :: .inBlock 0 :: .code c56s1 :: []) ⟨mk 33 l, rows, low⟩ r ↔ Lc56l2 F cx (lk l 0) (lk l 5) (lk l 8) (lk l 9) rows low r := loopN (keep := [0, 5, 8, 9]) (by kernel_rfl)
@[simp] theorem ec56l2 : Ex F cx (.code (.loop c56l2) :: .inBlock 0 :: .code c56s1 :: []) ⟨mk 33 l, rows, low⟩ r ↔ Lc56l2 F cx (lk l 0) (lk l 5) (lk l 8) (lk l 9) rows low r := loopE (keep := [0, 5, 8, 9]) (by kernel_rfl)
@[simp] theorem uc56l2 : Ex F cx (.code c56l2 :: k) s r ↔ Ex F cx (.code (.seq c56k17 c56s16) :: k) s r := Iff.rfl
@[simp] theorem uc56b : Ex F cx (.code c56b :: k) s r ↔ Ex F cx (.code (.seq c56k23 c56s22) :: k) s r := Iff.rfl
theorem i56 {x0 x1 : AV} (hF : F 56 = some c56) {q : AV × List Row × Option Nat} (h : Ex F (.fn [.t 4]) [.code c56b] ⟨mk 33 [(0, x0), (1, x1)], rows, rows.length⟩ fun r => fin rows r.1 r.2.1 r.2.2 = q) : Ret F 56 [x0, x1] rows = some q := Ret_mk hF h
@[simp] theorem uc81k0 : Ex F cx (.code c81k0 :: k) ⟨mk 9 l, rows, low⟩ r ↔ bnd (Ret F 96 [lk l 0, lk l 1] rows) fun q0 => bnd (evP q0.2.1 (.bin .geq (.c q0.1) (.c (.int .i64 0)))) fun v1 => Ex F cx k ⟨mk 9 [(4, v1), (8, v1), (7, q0.1), (6, lk l 1), (5, lk l 0), (0, lk l 0), (1, lk l 1)], q0.2.1, (lowO low q0.2.2)⟩ r := reg (keep := [0, 1]) (ops := c81r0) rfl (by kernel_rfl) (by kernel_rfl)
@[simp] theorem uc81s1 : Ex F cx (.code c81s1 :: k) s r ↔ Ex F cx (.code (.seq c81k0 .ret) :: k) s r := Iff.rfl
@[simp] theorem uc81k2 : Ex F cx (.code c81k2 :: k) ⟨mk 9 l, rows, low⟩ r ↔ Ex F cx k ⟨mk 9 [(4, (.bool false)), (0, lk l 0), (1, lk l 1)], rows, low⟩ r := reg (keep := [0, 1]) (ops := c81r2) rfl (by kernel_rfl) (by kernel_rfl)
@[simp] theorem uc81b : Ex F cx (.code c81b :: k) s r ↔ Ex F cx (.code (.seq c81k2 c81s1) :: k) s r := Iff.rfl
theorem i81 {x0 x1 : AV} (hF : F 81 = some c81) {q : AV × List Row × Option Nat} (h : Ex F (.fn [.t 4]) [.code c81b] ⟨mk 9 [(0, x0), (1, x1)], rows, rows.length⟩ fun r => fin rows r.1 r.2.1 r.2.2 = q) : Ret F 81 [x0, x1] rows = some q := Ret_mk hF h
@[simp] theorem uc82k0 : Ex F cx (.code c82k0 :: k) ⟨mk 13 l, rows, low⟩ r ↔ bnd (evP rows (.load1 (.c (lk l 1)))) fun v0 => bnd (evP rows (.bin .lss (.c (lk l 0)) (.c v0))) fun v1 => bnd (gv v1 false (evP rows (.mv (.c (lk l 0))))) fun v2 => bnd (gv v1 false (evP rows (.load1 (.c (lk l 2))))) fun v3 => bnd (gv v1 false (evP rows (.bin .gtr (.c v2) (.c v3)))) fun v4 => bnd (evP rows (.pick (.c v1) (.c (.bool true)) (.c v4))) fun v5 => Ex F cx k ⟨mk 13 [(4, v5), (12, v5), (11, v4), (10, v3), (9, v2), (8, v1), (7, v1), (6, v0), (5, lk l 0), (0, lk l 0), (1, lk l 1), (2, lk l 2)], rows, low⟩ r := reg (keep := [0, 1, 2]) (ops := c82r0) rfl (by kernel_rfl) (by kernel_rfl)
@[simp] theorem uc82s1 : Ex F cx (.code c82s1 :: k) s r ↔ Ex F cx (.code (.seq c82k0 .ret) :: k) s r := Iff.rfl
@[simp] theorem uc82k2 : Ex F cx (.code c82k2 :: k) ⟨mk 13 l, rows, low⟩ r ↔ Ex F cx k ⟨mk 13 [(4, (.bool false)), (0, lk l 0), (1, lk l 1), (2, lk l 2)], rows, low⟩ r := reg (keep := [0, 1, 2]) (ops := c82r2) rfl (by kernel_rfl) (by kernel_rfl)
@[simp] theorem uc82b : Ex F cx (.code c82b :: k) s r ↔ Ex F cx (.code (.seq c82k2 c82s1) :: k) s r := Iff.rfl
theorem i82 {x0 x1 x2 : AV} (hF : F 82 = some c82) {q : AV × List Row × Option Nat} (h : Ex F (.fn [.t 4]) [.code c82b] ⟨mk 13 [(0, x0), (1, x1), (2, x2)], rows, rows.length⟩ fun r => fin rows r.1 r.2.1 r.2.2 = q) : Ret F 82 [x0, x1, x2] rows = some q := Ret_mk hF h
@[simp] theorem uc96k0 : Ex F cx (.code c96k0 :: k) ⟨mk 19 l, rows, low⟩ r ↔ Ex F cx k ⟨mk 19 [(4, (.int .i64 (-1)))], rows, low⟩ r := reg (keep := []) (ops := c96r0) rfl (by kernel_rfl) (by kernel_rfl)
@[simp] theorem uc96s1 : Ex F cx (.code c96s1 :: k) s r ↔ Ex F cx (.code (.seq c96k0 .ret) :: k) s r := Iff.rfl
@[simp] theorem uc96k3 : Ex F cx (.code c96k3 :: k) ⟨mk 19 l, rows, low⟩ r ↔ bnd (evP rows (.bin .add (.c (lk l 8)) (.c (.int .i64 1)))) fun v0 => Ex F cx k ⟨mk 19 [(8, v0), (18, v0), (0, lk l 0), (1, lk l 1), (7, lk l 7), (8, lk l 8)], rows, low⟩ r := reg (keep := [0, 1, 7, 8]) (ops := c96r3) rfl (by kernel_rfl) (by kernel_rfl)
@[simp] theorem uc96k4 : Ex F cx (.code c96k4 :: k) ⟨mk 19 l, rows, low⟩ r ↔ Ex F cx k ⟨mk 19 [(4, lk l 5), (17, lk l 5), (5, lk l 5)], rows, low⟩ r := reg (keep := [5]) (ops := c96r4) rfl (by kernel_rfl) (by kernel_rfl)
@[simp] theorem uc96s5 : Ex F cx (.code c96s5 :: k) s r ↔ Ex F cx (.code (.cond (.t 16) (.seq c96k4 .ret) .skip) :: k) s r := Iff.rfl
@[simp] theorem uc96k6 : Ex F cx (.code c96k6 :: k) ⟨mk 19 l, rows, low⟩ r ↔ bnd (evP rows (.idxS 1 (.c (lk l 0)) (.c (lk l 5)))) fun v0 => bnd (evP rows (.load1 (.c v0))) fun v1 => callK F rows low [v1] (fun v2 R2 L2 => Ex F cx k ⟨mk 19 [(16, v2), (15, v1), (14, v0), (13, lk l 5), (12, lk l 0), (11, lk l 1), (0, lk l 0), (1, lk l 1), (5, lk l 5), (7, lk l 7), (8, lk l 8)], R2, L2⟩ r) (lk l 1) := reg (keep := [0, 1, 5, 7, 8]) (ops := c96r6) rfl (by kernel_rfl) (by kernel_rfl)
@[simp] theorem uc96s7 : Ex F cx (.code c96s7 :: k) s r ↔ Ex F cx (.code (.seq c96k6 c96s5) :: k) s r := Iff.rfl
@[simp] theorem uc96k8 : Ex F cx (.code c96k8 :: k) ⟨mk 19 l, rows, low⟩ r ↔ Ex F cx k ⟨mk 19 [(5, lk l 8), (10, lk l 8), (0, lk l 0), (1, lk l 1), (7, lk l 7), (8, lk l 8)], rows, low⟩ r := reg (keep := [0, 1, 7, 8]) (ops := c96r8) rfl (by kernel_rfl) (by kernel_rfl)
@[simp] theorem uc96s9 : Ex F cx (.code c96s9 :: k) s r ↔ Ex F cx (.code (.seq (.block 1 (.seq c96k8 c96s7)) c96k3) :: k) s r := Iff.rfl
@[simp] theorem uc96s10 : Ex F cx (.code c96s10 :: k) s r ↔ Ex F cx (.code (.seq (.cond (.t 9) .skip (.exit 0)) c96s9) :: k) s r := Iff.rfl
@[simp] theorem uc96k11 : Ex F cx (.code c96k11 :: k) ⟨mk 19 l, rows, low⟩ r ↔ bnd (evP rows (.bin .lss (.c (lk l 8)) (.c (lk l 7)))) fun v0 => Ex F cx k ⟨mk 19 [(9, v0), (0, lk l 0), (1, lk l 1), (7, lk l 7), (8, lk l 8)], rows, low⟩ r := reg (keep := [0, 1, 7, 8]) (ops := c96r11) rfl (by kernel_rfl) (by kernel_rfl)
@[simp] theorem uc96s12 : Ex F cx (.code c96s12 :: k) s r ↔ Ex F cx (.code (.block 0 (.loop c96l2)) :: k) s r := Iff.rfl
@[simp] theorem uc96k13 : Ex F cx (.code c96k13 :: k) ⟨mk 19 l, rows, low⟩ r ↔ bnd (evP rows (.len 0 (.c (lk l 0)))) fun v0 => Ex F cx k ⟨mk 19 [(8, (.int .i64 0)), (7, v0), (6, lk l 0), (0, lk l 0), (1, lk l 1)], rows, low⟩ r := reg (keep := [0, 1]) (ops := c96r13) rfl (by kernel_rfl) (by kernel_rfl)
@[simp] theorem uc96s14 : Ex F cx (.code c96s14 :: k) s r ↔ Ex F cx (.code (.seq (.seq c96k13 c96s12) c96s1) :: k) s r := Iff.rfl
@[simp] theorem uc96k15 : Ex F cx (.code c96k15 :: k) ⟨mk 19 l, rows, low⟩ r ↔ Ex F cx k ⟨mk 19 [(4, (.int .i64 0)), (0, lk l 0), (1, lk l 1)], rows, low⟩ r := reg (keep := [0, 1]) (ops := c96r15) rfl (by kernel_rfl) (by kernel_rfl)
def Jc96s9 (F : Nat → Option IFn) (cx : Ctx) (x0 x1 x7 x8 : AV) (rows : List Row) (low : Nat) (r : AV × List Row × Nat → Prop) : Prop := Ex F cx (.code c96s9 :: .inLoop c96l2 :: .inBlock 0 :: .code c96s1 :: []) ⟨mk 19 [(0, x0), (1, x1), (7, x7), (8, x8)], rows, low⟩ r
theorem jc96s9 : Ex F cx (.code c96s9 :: .inLoop c96l2 :: .inBlock 0 :: .code c96s1 :: []) ⟨mk 19 l, rows, low⟩ r ↔ Jc96s9 F cx (lk l 0) (lk l 1) (lk l 7) (lk l 8) rows low r := Ex_canon (keep := [0, 1, 7, 8]) (by kernel_rfl)
def Lc96l2 (F : Nat → Option IFn) (cx : Ctx) (x0 x1 x7 x8 : AV) (rows : List Row) (low : Nat) (r : AV × List Row × Nat → Prop) : Prop := Ex F cx (.code c96l2 :: .inLoop c96l2 :: .inBlock 0 :: .code c96s1 :: []) ⟨mk 19 [(0, x0), (1, x1), (7, x7), (8, x8)], rows, low⟩ r
@[simp] theorem nc96l2 : Ex F cx (.inLoop c96l2 :: .inBlock 0 :: .code c96s1 :: []) ⟨mk 19 l, rows, low⟩ r ↔ Lc96l2 F cx (lk l 0) (lk l 1) (lk l 7) (lk l 8) rows low r := loopN (keep := [0, 1, 7, 8]) (by kernel_rfl)
@[simp] theorem ec96l2 : Ex F cx (.code (.loop c96l2) :: .inBlock 0 :: .code c96s1 :: []) ⟨mk 19 l, rows, low⟩ r ↔ Lc96l2 F cx (lk l 0) (lk l 1) (lk l 7) (lk l 8) rows low r := loopE (keep := [0, 1, 7, 8]) (by kernel_rfl)
@[simp] theorem uc96l2 : Ex F cx (.code c96l2 :: k) s r ↔ Ex F cx (.code (.seq c96k11 c96s10) :: k) s r := Iff.rfl
@[simp] theorem uc96b : Ex F cx (.code c96b :: k) s r ↔ Ex F cx (.code (.seq c96k15 c96s14) :: k) s r := Iff.rfl
theorem i96 {x0 x1 : AV} (hF : F 96 = some c96) {q : AV × List Row × Option Nat} (h : Ex F (.fn [.t 4]) [.code c96b] ⟨mk 19 [(0, x0), (1, x1)], rows, rows.length⟩ fun r => fin rows r.1 r.2.1 r.2.2 = q) : Ret F 96 [x0, x1] rows = some q := Ret_mk hF h
end Go.Abs

set_option linter.unusedVariables false
set_option linter.unusedSimpArgs false
namespace Go.Abs
/-- A list by its places. -/
def tab (n : Nat) (f : Nat → Int) : List Int := (List.range n).map f
@[simp] theorem tab_len {n : Nat} {f : Nat → Int} : (tab n f).length = n := by simp [tab]
@[simp] theorem tab_get? {n : Nat} {f : Nat → Int} {i : Nat} : (tab n f)[i]? = if i < n then some (f i) else none := by
  by_cases h : i < n <;> simp [tab, h]
@[simp] theorem tab_getE {n : Nat} {f : Nat → Int} {i : Nat} (h : i < (tab n f).length) : (tab n f)[i] = f i := by simp [tab]
theorem tab_set {n : Nat} {f : Nat → Int} {i : Nat} {v : Int} : (tab n f).set i v = tab n (fun k => if k = i then v else f k) := by
  apply List.ext_getElem?
  intro j
  simp only [tab, List.getElem?_set, List.getElem?_map, List.length_map, List.length_range]
  by_cases h : i = j
  · subst h
    by_cases hi : i < n <;> simp [hi]
  · rw [if_neg h]
    by_cases hj : j < n
    · have e : j ≠ i := fun e => h e.symm
      simp [List.getElem?_range hj, e]
    · simp [hj]
theorem tab_congr {n : Nat} {f g : Nat → Int} (h : ∀ i, i < n → f i = g i) : tab n f = tab n g := by
  unfold tab; exact List.map_congr_left fun i hi => h i (by simpa using hi)

/-- The greatest number of steps. -/
def stp : Nat → Nat → Int
  | 0, _ => 0
  | _ + 1, 0 => 0
  | k + 1, i + 1 => stp k i + 1 + stp (k + 1) i
theorem stp_0 (k : Nat) : stp k 0 = 0 := by cases k <;> rfl
theorem stp_lo : ∀ (k i : Nat), 0 ≤ stp k i
  | 0, _ => by simp [stp]
  | _ + 1, 0 => by simp [stp]
  | k + 1, i + 1 => by
    have := stp_lo k i
    have := stp_lo (k + 1) i
    simp only [stp]; omega
theorem stp_hi : ∀ (k i : Nat), stp k i ≤ 2 ^ i - 1
  | 0, i => by simp [stp]; exact Int.pow_pos (by omega)
  | _ + 1, 0 => by simp [stp]
  | k + 1, i + 1 => by
    have := stp_hi k i
    have := stp_hi (k + 1) i
    simp only [stp]
    have : (2 : Int) ^ (i + 1) = 2 ^ i * 2 := by rw [Int.pow_succ]
    omega
def stpRow (c i : Nat) (k : Nat) : Int := if k ≤ c then stp k i else 0
theorem stpRow_ok {c i : Nat} (hi : i ≤ 59) (k : Nat) : -1000000000000000000 ≤ stpRow c i k ∧ stpRow c i k ≤ 2000000000000000000 := by
  unfold stpRow
  split
  · have h1 := stp_lo k i
    have h2 := stp_hi k i
    have h3 : (2 : Int) ^ i ≤ 2 ^ 59 := by
      have : (2 : Nat) ^ i ≤ 2 ^ 59 := Nat.pow_le_pow_right (by omega) hi
      exact_mod_cast this
    have : (2 : Int) ^ 59 = 576460752303423488 := by rfl
    omega
  · omega


section
variable {cx : Ctx} {rows : List Row} {low : Nat} {r : AV × List Row × Nat → Prop}
set_option maxHeartbeats 2000000 in
theorem steps_in {c i : Nat} (hc : c ≤ 20) (hi : i ≤ 60) {A : Nat → Int} (hA : ∀ i, -1000000000000000000 ≤ A i ∧ A i ≤ 2000000000000000000) {x8 : AV} : ∀ (n : Nat) (j : Nat) (B : Nat → Int) (H : List Row), c + 1 - j = n → 1 ≤ j → j ≤ c + 1 →
    (∀ H, Lc56l2 F cx (.int .i64 c) (.ptr rows.length 0) x8 (.int .i64 (i + 1)) (rows ++ .cells (nums .i64 (tab 21 fun i => if j ≤ i ∧ i ≤ c then A (i - 1) + 1 + A i else B i)) :: H) rows.length r) →
    Lc56l5 F cx (.int .i64 c) (.ptr rows.length 0) (.ptr (rows.length + (H.length + 1)) 0) (.int .i64 j) x8 (.int .i64 i) (rows ++ .cells (nums .i64 (tab 21 A)) :: (H ++ [.cells (nums .i64 (tab 21 B))])) rows.length r := by
  intro n
  induction n with
  | zero =>
    intro j B H hn h1 h2 h
    have hj : j = c + 1 := by omega
    subst hj
    have hB : (tab 21 fun i => if c + 1 ≤ i ∧ i ≤ c then A (i - 1) + 1 + A i else B i) = tab 21 B := tab_congr fun i _ => by rw [if_neg (by omega)]
    rw [hB] at h
    have hd : ¬ ((c : Int) + 1 ≤ c) := by omega
    unfold Lc56l5
    simp (disch := first | omega | (simp; done) | fail) [hd, nums_all, wrap64, splice_all]
    exact h _
  | succ n ih =>
    intro j B H hn h1 h2 h
    have hd : (j : Int) ≤ c := by omega
    have b1 := hA (j - 1)
    have b2 := hA j
    have i1 : idx? ((j : Int) - 1) 21 = some (j - 1) := by rw [idx?_ok (by omega) (by omega)]; congr 1; omega
    have hlt : j < 21 := by omega
    have hlt1 : j - 1 < 21 := by omega
    unfold Lc56l5
    simp (disch := first | omega | (simp; done) | fail) [hd, nums_all, wrap64, splice_all, i1, hlt, hlt1]
    have hB : (tab 21 fun i => if j + 1 ≤ i ∧ i ≤ c then A (i - 1) + 1 + A i else if i = j then A (j - 1) + 1 + A j else B i) = tab 21 fun i => if j ≤ i ∧ i ≤ c then A (i - 1) + 1 + A i else B i := tab_congr fun i _ => by
      by_cases e : i = j
      · subst e; rw [if_neg (by omega), if_pos rfl, if_pos (by omega)]
      · rw [if_neg e]
        by_cases e2 : j + 1 ≤ i ∧ i ≤ c
        · rw [if_pos e2, if_pos (by omega)]
        · rw [if_neg e2, if_neg (by omega)]
    rw [tab_set]
    refine ih (j + 1) _ H (by omega) (by omega) (by omega) ?_
    rw [hB]
    exact h

theorem steps_out {c t : Nat} (hc : c ≤ 20) (ht : t ≤ 60) {q : AV × List Row × Option Nat} (hq : q = (.int .i64 (stp c t), rows, none)) : ∀ (n i : Nat) (H : List Row), t - i = n → i ≤ t →
    Lc56l2 F (.fn [.t 4]) (.int .i64 c) (.ptr rows.length 0) (.int .i64 t) (.int .i64 i) (rows ++ .cells (nums .i64 (tab 21 (stpRow c i))) :: H) rows.length (fun r => fin rows r.1 r.2.1 r.2.2 = q) := by
  intro n
  induction n with
  | zero =>
    intro i H hn h1
    have hj : i = t := by omega
    subst hj
    unfold Lc56l2
    simp (disch := first | omega | (simp; done) | fail) [show c < 21 from by omega, hq, stpRow]
  | succ n ih =>
    intro i H hn h1
    have hd : (i : Int) < t := by omega
    unfold Lc56l2
    simp (disch := first | omega | (simp; done) | fail) [hd, nums_all, splice_all, nums_rep]
    have e1 : ∀ H, Lc56l2 F (.fn [.t 4]) (.int .i64 c) (.ptr rows.length 0) (.int .i64 t) (.int .i64 (i + 1)) (rows ++ .cells (nums .i64 (tab 21 fun j => if 1 ≤ j ∧ j ≤ c then stpRow c i (j - 1) + 1 + stpRow c i j else stpRow c i j)) :: H) rows.length (fun r => fin rows r.1 r.2.1 r.2.2 = q) := by
      intro H
      have e1 : (tab 21 fun j => if 1 ≤ j ∧ j ≤ c then stpRow c i (j - 1) + 1 + stpRow c i j else stpRow c i j) = tab 21 (stpRow c (i + 1)) := tab_congr fun j _ => by
        unfold stpRow
        by_cases e : 1 ≤ j ∧ j ≤ c
        · obtain ⟨q, rfl⟩ : ∃ q, j = q + 1 := ⟨j - 1, by omega⟩
          rw [if_pos e, if_pos (by omega), if_pos (by omega), if_pos (by omega)]
          simp [stp]
        · rw [if_neg e]
          by_cases e2 : j ≤ c
          · have : j = 0 := by omega
            subst this
            simp [stp]
          · rw [if_neg e2, if_neg e2]
      rw [e1]
      exact ih (i + 1) H (by omega) (by omega)
    exact steps_in hc (by omega) (stpRow_ok (by omega)) _ 1 _ H rfl (by omega) (by omega) e1

theorem steps_ret {c t : Nat} (hc : c ≤ 20) (ht : t ≤ 60) : Ret F 56 [.int .i64 c, .int .i64 t] rows = some (.int .i64 (stp c t), rows, none) := by
  refine i56 F56 ?_
  have e0 : tab 21 (stpRow c 0) = List.replicate 21 0 := by
    rw [tab_congr (g := fun _ => 0) fun i _ => by simp [stpRow, stp_0]]
    rfl
  have h := steps_out (rows := rows) hc ht rfl _ 0 [] rfl (by omega)
  rw [e0] at h
  simp [nums_rep, -List.reduceReplicate]
  exact h
end
end Go.Abs

set_option linter.unusedVariables false
set_option linter.unusedSimpArgs false
namespace Go.Abs
section
variable {cx : Ctx} {rows : List Row} {low : Nat} {r : AV × List Row × Nat → Prop}

theorem idx_loop {v : AV} {l : List Int} (h : IsL rows v l) (hl : l.length < 4611686018427387904) {fid : Nat} {cs : List AV} {p : Int → Bool} (hp : ∀ x ∈ l, Ret F fid (.int .i64 x :: cs) rows = some (.bool (p x), rows, none)) {q : AV × List Row × Option Nat} (hq : q = (.int .i64 (match l.findIdx? p with | some i => (i : Int) | none => -1), rows, none)) : ∀ (n i : Nat), l.length - i = n → i ≤ l.length → (∀ j, j < i → p (gI l j) = false) →
    Lc96l2 F (.fn [.t 4]) v (.func fid cs) (.int .i64 l.length) (.int .i64 i) rows rows.length (fun r => fin rows r.1 r.2.1 r.2.2 = q) := by
  intro n
  induction n with
  | zero =>
    intro i hn h1 hf
    have hi : i = l.length := by omega
    subst hi
    have hnone : l.findIdx? p = none := by
      rw [List.findIdx?_eq_none_iff]
      intro x hx
      obtain ⟨j, hj, rfl⟩ := List.mem_iff_getElem.1 hx
      have := hf j hj
      rwa [gI_eq hj] at this
    unfold Lc96l2
    simp [hq, hnone]
  | succ n ih =>
    intro i hn h1 hf
    have hi : i < l.length := by omega
    have hr := hp (gI l i) (gI_mem hi)
    unfold Lc96l2
    simp (disch := first | omega | (simp; done) | fail) [hi, idxL0 h, loadL0 h, hr]
    cases hpi : p (gI l i) with
    | true =>
      have hsome : l.findIdx? p = some i := by
        rw [List.findIdx?_eq_some_iff_getElem]
        refine ⟨hi, ?_, ?_⟩
        · rwa [gI_eq hi] at hpi
        · intro j hj
          have := hf j hj
          rw [gI_eq (by omega)] at this
          simpa using this
      simp [hq, hsome]
    | false =>
      simp (disch := first | omega | (simp; done) | fail) [wrap64]
      refine ih (i + 1) (by omega) (by omega) fun j hj => ?_
      by_cases e : j = i
      · subst e; exact hpi
      · exact hf j (by omega)

theorem contains_ret {v : AV} {l : List Int} (h : IsL rows v l) (hl : l.length < 4611686018427387904) {fid : Nat} {cs : List AV} {p : Int → Bool} (hp : ∀ x ∈ l, Ret F fid (.int .i64 x :: cs) rows = some (.bool (p x), rows, none)) : Ret F 81 [v, .func fid cs] rows = some (.bool (l.any p), rows, none) := by
  have h96 : Ret F 96 [v, .func fid cs] rows = some (.int .i64 (match l.findIdx? p with | some i => (i : Int) | none => -1), rows, none) := by
    refine i96 F96 ?_
    simp [lenL0 h]
    exact idx_loop h hl hp rfl _ 0 rfl (by omega) (fun j hj => absurd hj (by omega))
  refine i81 F81 ?_
  simp [h96]
  cases e : l.findIdx? p with
  | none =>
    simp only
    rw [List.findIdx?_eq_none_iff] at e
    simp
    exact e
  | some i =>
    have hi := (List.findIdx?_eq_some_iff_getElem.1 e)
    obtain ⟨h1, h2, _⟩ := hi
    simp
    exact ⟨_, List.getElem_mem h1, h2⟩

theorem are1_ret {a b : Nat} {x lo hi : Int} (ha : row? rows a = some [.int .i64 lo]) (hb : row? rows b = some [.int .i64 hi]) : Ret F 82 [.int .i64 x, .ptr a 0, .ptr b 0] rows = some (.bool (decide (x < lo ∨ hi < x)), rows, none) := by
  refine i82 F82 ?_
  by_cases h : x < lo <;> simp [h, ha, hb]

theorem any_all {lo hi : Int} : ∀ (l : List Int), (l.any fun x => decide (x < lo ∨ hi < x)) = !(l.all fun x => decide (lo ≤ x ∧ x ≤ hi))
  | [] => rfl
  | x :: l => by
    rw [List.any_cons, List.all_cons, any_all l, Bool.not_and]
    congr 1
    by_cases h : lo ≤ x ∧ x ≤ hi
    · rw [decide_eq_false (by omega), decide_eq_true h]; rfl
    · rw [decide_eq_true (by omega), decide_eq_false h]; rfl
/-- are: all numbers are in a range. -/
theorem are_ret {v : AV} {l : List Int} (h : IsL rows v l) (hl : l.length < 4611686018427387904) {lo hi : Int} : Ret F 55 [.int .i64 lo, .int .i64 hi, v] rows = some (.bool (l.all fun x => decide (lo ≤ x ∧ x ≤ hi)), rows, none) := by
  have hc := contains_ret (IsL_app h [.cells [.int .i64 lo], .cells [.int .i64 hi]]) hl (fid := 82) (cs := [.ptr rows.length 0, .ptr (rows.length + 1) 0]) (p := fun x => decide (x < lo ∨ hi < x)) (fun x _ => are1_ret (by simp) (by simp))
  refine i55 F55 ?_
  rw [show (l.any fun x => decide (x < lo ∨ hi < x)) = !(l.all fun x => decide (lo ≤ x ∧ x ≤ hi)) from any_all l] at hc
  simp [hc]

theorem are_one {a b x : Int} : Ret F 55 [.int .i64 a, .int .i64 b, .slice rows.length 0 1 (.at_ 1)] (rows ++ [.cells [.int .i64 x]]) = some (.bool (decide (a ≤ x ∧ x ≤ b)), rows ++ [.cells [.int .i64 x]], none) := by
  have h := are_ret (rows := rows ++ [.cells (nums .i64 [x])]) (v := .slice rows.length 0 1 (.at_ 1)) (l := [x]) (lo := a) (hi := b) (IsL_new (L := []) rfl) (by simp)
  simpa [nums] using h
theorem are_one1 {a b x : Int} {y : Row} : Ret F 55 [.int .i64 a, .int .i64 b, .slice (rows.length + 1) 0 1 (.at_ 1)] (rows ++ [y, .cells [.int .i64 x]]) = some (.bool (decide (a ≤ x ∧ x ≤ b)), rows ++ [y, .cells [.int .i64 x]], none) := by
  have := are_one (rows := rows ++ [y]) (a := a) (b := b) (x := x)
  simpa using this

/-- search.Steps. -/
theorem Steps_ret {c t : Int} : Ret F 16 [.int .i64 c, .int .i64 t] rows = some (if 0 ≤ c ∧ c ≤ 20 ∧ 0 ≤ t ∧ t ≤ 60 then .tup [.int .i64 (stp c.toNat t.toNat), .int .i64 0] else .tup [.int .i64 0, .int .i64 1], rows, none) := by
  refine i16 F16 ?_
  by_cases h : 0 ≤ c ∧ c ≤ 20
  · by_cases h2 : 0 ≤ t ∧ t ≤ 60
    · have hs := fun rows => steps_ret (rows := rows) (c := c.toNat) (t := t.toNat) (by omega) (by omega)
      rw [show (c.toNat : Int) = c from by omega, show (t.toNat : Int) = t from by omega] at hs
      simp [fillA, splice, are_one, are_one1, h, h2, hs]
    · rw [if_neg (by omega)]
      simp [fillA, splice, are_one, are_one1, h, h2]
  · rw [if_neg (by omega)]
    simp [fillA, splice, are_one, are_one1, h]
end
end Go.Abs

set_option linter.unusedVariables false
set_option linter.unusedSimpArgs false
namespace Go.Abs
/-- The least number of tries, if 60 are enough. -/
def tri (c : Nat) (s : Int) : Option Nat := (List.range 61).find? fun t => decide (s ≤ stp c t)
theorem tri_some {c : Nat} {s : Int} {i : Nat} (hi : i ≤ 60) (h : s ≤ stp c i) (hf : ∀ j, j < i → stp c j < s) : tri c s = some i := by
  unfold tri
  rw [List.find?_range_eq_some]
  refine ⟨by simpa using h, by simp; omega, fun j hj => ?_⟩
  have := hf j hj
  simp; omega
theorem tri_none {c : Nat} {s : Int} (hf : ∀ j, j < 61 → stp c j < s) : tri c s = none := by
  unfold tri
  rw [List.find?_range_eq_none]
  intro j hj
  have := hf j hj
  simp; omega
theorem tri_spec {c : Nat} {s : Int} {i : Nat} (h : tri c s = some i) : i ≤ 60 ∧ s ≤ stp c i ∧ ∀ j, j < i → stp c j < s := by
  unfold tri at h
  rw [List.find?_range_eq_some] at h
  obtain ⟨h1, h2, h3⟩ := h
  refine ⟨by simp at h2; omega, by simpa using h1, fun j hj => ?_⟩
  have := h3 j hj
  simp at this; omega

section
variable {cx : Ctx} {rows : List Row} {low : Nat} {r : AV × List Row × Nat → Prop}
theorem tries_loop {H : List Row} {c : Nat} (hc : c ≤ 20) {s : Int} {q : AV × List Row × Option Nat} (hq : q = (.tup (match tri c s with | some t => [.int .i64 t, .int .i64 0] | none => [.int .i64 0, .int .i64 8]), rows, none)) : ∀ (n i : Nat), 61 - i = n → i ≤ 61 → (∀ j, j < i → stp c j < s) →
    Lc18l2 F (.fn [.t 4, .t 5]) (.int .i64 c) (.int .i64 s) (.int .i64 i) (rows ++ H) rows.length (fun r => fin rows r.1 r.2.1 r.2.2 = q) := by
  intro n
  induction n with
  | zero =>
    intro i hn h1 hf
    have hj : i = 61 := by omega
    subst hj
    unfold Lc18l2
    simp [hq, tri_none hf]
  | succ n ih =>
    intro i hn h1 hf
    have hd : (i : Int) < 61 := by omega
    unfold Lc18l2
    by_cases hs : s ≤ stp c i
    · simp (disch := first | omega | (simp; done) | fail) [hd, steps_ret hc (show i ≤ 60 by omega), hs, hq, tri_some (show i ≤ 60 by omega) hs hf]
    · simp (disch := first | omega | (simp; done) | fail) [hd, steps_ret hc (show i ≤ 60 by omega), hs, wrap64]
      refine ih (i + 1) (by omega) (by omega) fun j hj => ?_
      by_cases e : j = i
      · subst e; omega
      · exact hf j (by omega)

/-- search.Tries. -/
theorem Tries_ret {c s : Int} : Ret F 18 [.int .i64 c, .int .i64 s] rows = some (if 1 ≤ c ∧ c ≤ 20 ∧ 0 ≤ s ∧ s ≤ 1000000000000 then .tup (match tri c.toNat s with | some t => [.int .i64 t, .int .i64 0] | none => [.int .i64 0, .int .i64 8]) else .tup [.int .i64 0, .int .i64 1], rows, none) := by
  refine i18 F18 ?_
  by_cases h : 1 ≤ c ∧ c ≤ 20
  · by_cases h1 : s < 0
    · rw [if_neg (by omega)]
      simp [fillA, splice, are_one, h, h1]
    · by_cases h2 : s ≤ 1000000000000
      · rw [if_pos (by omega)]
        simp [fillA, splice, are_one, h, h1, h2, show ¬ (1000000000000 < s) from by omega]
        have hh := tries_loop (rows := rows) (H := [.cells [.int .i64 c]]) (c := c.toNat) (s := s) (by omega) rfl _ 0 rfl (by omega) (fun j hj => absurd hj (by omega))
        have e : ((c.toNat : Nat) : Int) = c := by omega
        rw [e] at hh
        exact hh
      · rw [if_neg (by omega)]
        simp [fillA, splice, are_one, h, h1, h2, show (1000000000000 < s) from by omega]
  · rw [if_neg (by omega)]
    simp [fillA, splice, are_one, h]

theorem stp_int {c t : Int} (hc : 0 ≤ c ∧ c ≤ 20) (ht : 0 ≤ t ∧ t ≤ 60) : Ret F 56 [.int .i64 c, .int .i64 t] rows = some (.int .i64 (stp c.toNat t.toNat), rows, none) := by
  have h := steps_ret (rows := rows) (c := c.toNat) (t := t.toNat) (by omega) (by omega)
  rwa [show ((c.toNat : Nat) : Int) = c from by omega, show ((t.toNat : Nat) : Int) = t from by omega] at h
theorem stp_le (k i : Nat) (hi : i ≤ 60) : stp k i ≤ 1152921504606846975 := by
  have h2 := stp_hi k i
  have h3 : (2 : Int) ^ i ≤ 2 ^ 60 := by
    have : (2 : Nat) ^ i ≤ 2 ^ 60 := Nat.pow_le_pow_right (by omega) hi
    exact_mod_cast this
  have : (2 : Int) ^ 60 = 1152921504606846976 := by rfl
  omega

/-- What Drop returns. -/
def dropV (c s : Int) : AV :=
  if s = 0 then .tup [.int .i64 0, .int .i64 1]
  else if 1 ≤ c ∧ c ≤ 20 ∧ 0 ≤ s ∧ s ≤ 1000000000000 then
    match tri c.toNat s with
    | some t => .tup [.int .i64 (max 1 (s - stp c.toNat (t - 1))), .int .i64 0]
    | none => .tup [.int .i64 0, .int .i64 8]
  else .tup [.int .i64 0, .int .i64 1]

/-- search.Drop. -/
theorem Drop_ret {c s : Int} : Ret F 19 [.int .i64 c, .int .i64 s] rows = some (dropV c s, rows, none) := by
  refine i19 F19 ?_
  unfold dropV
  by_cases h0 : s = 0
  · subst h0
    by_cases h : 1 ≤ c ∧ c ≤ 20
    · cases ht : tri c.toNat 0 <;> simp [Tries_ret, h, ht]
    · simp [Tries_ret, h, show ¬ (1 ≤ c ∧ c ≤ 20 ∧ True) from by simpa using h]
  · by_cases h : 1 ≤ c ∧ c ≤ 20 ∧ 0 ≤ s ∧ s ≤ 1000000000000
    · cases ht : tri c.toNat s with
      | none => simp [Tries_ret, h, h0, ht]
      | some t =>
        have hs := tri_spec ht
        have h1 : 1 ≤ t := by
          rcases Nat.eq_zero_or_pos t with e | e
          · subst e
            have := hs.2.1
            rw [stp_0] at this
            omega
          · exact e
        have hb := stp_le c.toNat (t - 1) (by omega)
        have hb0 := stp_lo c.toNat (t - 1)
        have e1 : ((t : Int) - 1).toNat = t - 1 := by omega
        simp (disch := first | omega | (simp; done) | fail) [Tries_ret, h, h0, ht, wrap64, stp_int, e1]
    · simp [Tries_ret, h, h0]

end
end Go.Abs

set_option linter.unusedVariables false
set_option linter.unusedSimpArgs false
namespace Go.Abs
/-- awake is true. -/
theorem awake_g : Ret F 22 [] gRows = some (.bool true, gRows, none) := by
  have h28 := Ret_of aw28
  have h29 := Ret_of aw29
  have h32 := Ret_of aw32
  have h46 := Ret_of aw46
  have h48 := Ret_of aw48
  have h16 := fun (rows : List Row) => Steps_ret (rows := rows) (c := 2) (t := 4)
  have h18 := fun rows => Tries_ret (rows := rows) (c := 2) (s := 100)
  have h19 := fun rows => Drop_ret (rows := rows) (c := 2) (s := 100)
  have t14 : tri 2 100 = some 14 := by decide +kernel
  have e24 : stp 2 4 = 10 := by decide
  have e13 : dropV 2 100 = .tup [.int .i64 9, .int .i64 0] := by
    have : stp 2 13 = 91 := by decide +kernel
    simp [dropV, t14, this]
    omega
  have hg : gRows.length = 2 := rfl
  have hf : ∀ rows', fin gRows (.bool true) rows' 2 = (.bool true, gRows, none) := fun rows' => fin_val (rows := gRows) (by simp)
  refine i22 F22 ?_
  simp [fillA, splice, hg, h28, h29, h32, h46, h48, h16, h18, h19, t14, e24, e13, hf]
end Go.Abs

set_option linter.unusedVariables false
set_option linter.unusedSimpArgs false
namespace Go.Abs
/-- Rows are put behind the first ones. -/
structure Sh where
  g : Nat
  X : List Row
namespace Sh
variable (S : Sh)
def n (i : Nat) : Nat := if i < S.g then i else i + S.X.length
def v : AV → AV
  | .ptr id off => .ptr (S.n id) off
  | .slice id off len c => .slice (S.n id) off len c
  | .map id => .map (S.n id)
  | .yield id => .yield (S.n id)
  | .func f cs => .func f (vL cs)
  | .iface t x => .iface t (v x)
  | .agg l => .agg (vL l)
  | .tup l => .tup (vL l)
  | x => x
where vL : List AV → List AV
  | [] => []
  | x :: l => v x :: vL l
theorem vL_map : ∀ l : List AV, v.vL S l = l.map S.v
  | [] => rfl
  | x :: l => by simp [v.vL, vL_map l]
theorem v_func (f : Nat) (cs : List AV) : S.v (.func f cs) = .func f (cs.map S.v) := by simp [v, vL_map]
theorem v_agg (l : List AV) : S.v (.agg l) = .agg (l.map S.v) := by simp [v, vL_map]
theorem v_tup (l : List AV) : S.v (.tup l) = .tup (l.map S.v) := by simp [v, vL_map]
theorem n_lt {i j : Nat} : S.n i < S.n j ↔ i < j := by unfold n; split <;> split <;> omega
theorem n_inj {i j : Nat} : S.n i = S.n j ↔ i = j := by unfold n; split <;> split <;> omega
theorem n_ge {i : Nat} (h : S.g ≤ i) : S.n i = i + S.X.length := by unfold n; rw [if_neg (by omega)]
theorem n_lo {i : Nat} (h : i < S.g) : S.n i = i := by unfold n; rw [if_pos h]
mutual
theorem ids : ∀ x : AV, (S.v x).ids = x.ids.map S.n
  | .ptr .. => by simp [v, AV.ids]
  | .slice .. => by simp [v, AV.ids]
  | .map .. => by simp [v, AV.ids]
  | .yield .. => by simp [v, AV.ids]
  | .func f cs => by simp only [v, AV.ids]; exact idsL cs
  | .iface t x => by simp only [v, AV.ids]; exact ids x
  | .agg l => by simp only [v, AV.ids]; exact idsL l
  | .tup l => by simp only [v, AV.ids]; exact idsL l
  | .bool _ => by simp [v, AV.ids]
  | .int .. => by simp [v, AV.ids]
  | .str _ => by simp [v, AV.ids]
  | .nilptr => by simp [v, AV.ids]
  | .nilslice => by simp [v, AV.ids]
  | .nilmap => by simp [v, AV.ids]
  | .nilfunc => by simp [v, AV.ids]
  | .niliface => by simp [v, AV.ids]
  | .any => by simp [v, AV.ids]
theorem idsL : ∀ l : List AV, AV.ids.idsL (v.vL S l) = (AV.ids.idsL l).map S.n
  | [] => by simp [v.vL, AV.ids.idsL]
  | x :: l => by simp only [v.vL, AV.ids.idsL, List.map_append, ids x, idsL l]
end
@[simp] theorem one (x : AV) : (S.v x).one = x.one := by cases x <;> simp [v, AV.one]
@[simp] theorem cells (x : AV) : (S.v x).cells = x.cells.map S.v := by cases x <;> simp [v, AV.cells, vL_map]
theorem all_one (l : List AV) : (l.map S.v).all AV.one = l.all AV.one := by simp [List.all_map, Function.comp_def]

def o : Opd → Opd
  | .t i => .t i
  | .c x => .c (S.v x)
def oo (x : Option Opd) : Option Opd := x.map S.o
def ps (l : List (Nat × Nat × Opd)) : List (Nat × Nat × Opd) := l.map fun p => (p.1, p.2.1, S.o p.2.2)
def i : IOp → IOp
  | .mv x => .mv (S.o x)
  | .pick c a b => .pick (S.o c) (S.o a) (S.o b)
  | .box x => .box (S.o x)
  | .load1 a => .load1 (S.o a)
  | .loadN k a => .loadN k (S.o a)
  | .store1 a x => .store1 (S.o a) (S.o x)
  | .storeN k a x => .storeN k (S.o a) (S.o x)
  | .nilck x => .nilck (S.o x)
  | .bin op x y => .bin op (S.o x) (S.o y)
  | .eqv neg kd x y => .eqv neg kd (S.o x) (S.o y)
  | .un op x => .un op (S.o x)
  | .conv k x => .conv k (S.o x)
  | .part1 off x => .part1 off (S.o x)
  | .partN off k x => .partN off k (S.o x)
  | .idxV len sz ag x j => .idxV len sz ag (S.o x) (S.o j)
  | .fieldA off x => .fieldA off (S.o x)
  | .idxA len sz x j => .idxA len sz (S.o x) (S.o j)
  | .idxS sz x j => .idxS sz (S.o x) (S.o j)
  | .mkagg zero l => .mkagg (zero.map S.v) (S.ps l)
  | .mkslice len zero l => .mkslice len (zero.map S.v) (S.ps l)
  | .make zero b l c => .make (zero.map S.v) b (S.o l) (S.o c)
  | .sliceS sz x lo hi mx => .sliceS sz (S.o x) (S.oo lo) (S.oo hi) (S.oo mx)
  | .sliceA k sz x lo hi mx => .sliceA k sz (S.o x) (S.oo lo) (S.oo hi) (S.oo mx)
  | .mkfn f cs => .mkfn f (cs.map S.o)
  | .mkmap => .mkmap
  | .look z ok m k => .look (S.v z) ok (S.o m) (S.o k)
  | .mset m k x => .mset (S.o m) (S.o k) (S.o x)
  | .lenc k => .lenc k
  | .len kd x => .len kd (S.o x)
  | .cap x => .cap (S.o x)
  | .mx xs => .mx (xs.map S.o)
  | .mn xs => .mn (xs.map S.o)
  | .app sz b s x => .app sz b (S.o s) (S.o x)
  | .appz z s x => .appz (z.map S.v) (S.o s) (S.o x)
  | .ext x j => .ext (S.o x) j
  | .mkif t x => .mkif t (S.o x)
  | .call f args => .call (S.o f) (args.map S.o)
  | .bad => .bad
def x (a : IOpx) : IOpx := ⟨a.dst, S.i a.op, a.g⟩
def gl (l : List (IOpx × Nat)) : List (IOpx × Nat) := l.map fun p => (S.x p.1, p.2)
def s : Seg → Seg
  | .one a => .one (S.x a)
  | .grp l => .grp (S.gl l)
  | .grpw a y k l => .grpw (S.o a) (S.o y) k (S.gl l)
  | .stop => .stop
def c : ICode → ICode
  | .skip => .skip
  | .ret => .ret
  | .exit id => .exit id
  | .seq a b => .seq (c a) (c b)
  | .cond y a b => .cond (S.o y) (c a) (c b)
  | .block id a => .block id (c a)
  | .loop a => .loop (c a)
  | .scope a => .scope (c a)
  | .ops l => .ops (l.map S.s)
  | .rf f pl a b => .rf (S.o f) pl (c a) (c b)
  | .kill l a => .kill l (c a)
  | .stop => .stop
def t : Itm → Itm
  | .code a => .code (S.c a)
  | .inBlock id => .inBlock id
  | .inLoop a => .inLoop (S.c a)
  | .inScope a => .inScope (S.c a)
  | .ops l => .ops (l.map S.s)
  | .rfBegin => .rfBegin
def e (p : AV × AV) : AV × AV := (S.v p.1, S.v p.2)
def r : Row → Row
  | .cells vs => .cells (vs.map S.v)
  | .ro vs => .ro (vs.map S.v)
  | .mp es => .mp (es.map S.e)
  | .loop st pend sl pl asg body => .loop st pend (sl.map S.v) pl (S.c asg) (S.c body)
  | .mark => .mark
  | .dead => .dead
def h (rows : List Row) : List Row := (rows.take S.g).map S.r ++ S.X ++ (rows.drop S.g).map S.r
def x3 (q : AV × List Row × Nat) : AV × List Row × Nat := (S.v q.1, S.h q.2.1, S.n q.2.2)
def x3o (q : AV × List Row × Option Nat) : AV × List Row × Option Nat := (S.v q.1, S.h q.2.1, q.2.2.map S.n)

variable {S}
theorem h_len {rows : List Row} (hg : S.g ≤ rows.length) : (S.h rows).length = S.n rows.length := by
  rw [S.n_ge hg]
  simp [h]
  omega
theorem h_get {rows : List Row} (hg : S.g ≤ rows.length) (id : Nat) : (S.h rows)[S.n id]? = (rows[id]?).map S.r := by
  unfold h
  have hl : ((rows.take S.g).map S.r).length = S.g := by simp; omega
  by_cases hid : id < S.g
  · rw [S.n_lo hid, List.append_assoc, List.getElem?_append_left (by omega), List.getElem?_map, List.getElem?_take, if_pos hid]
  · rw [S.n_ge (by omega), List.getElem?_append_right (by simp; omega), List.getElem?_map, List.getElem?_drop]
    simp only [List.length_append, hl]
    congr 2
    omega
theorem h_set {rows : List Row} (hg : S.g ≤ rows.length) (id : Nat) (x : Row) : (S.h rows).set (S.n id) (S.r x) = S.h (rows.set id x) := by
  unfold h
  have hl : ((rows.take S.g).map S.r).length = S.g := by simp; omega
  by_cases hid : id < S.g
  · rw [S.n_lo hid, List.append_assoc, List.set_append_left _ _ (by omega), ← List.map_set, List.take_set, List.drop_set_of_lt hid, List.append_assoc]
  · rw [S.n_ge (by omega), List.set_append_right _ _ (by simp; omega), ← List.map_set]
    simp only [List.length_append, hl]
    rw [List.take_set_of_le (by omega), List.drop_set, if_neg (by omega)]
    congr 3
    omega
theorem h_app {rows L : List Row} (hg : S.g ≤ rows.length) : S.h (rows ++ L) = S.h rows ++ L.map S.r := by
  unfold h
  rw [List.take_append_of_le_length hg, List.drop_append_of_le_length hg, List.map_append]
  simp only [List.append_assoc]
theorem h_row? {rows : List Row} (hg : S.g ≤ rows.length) (id : Nat) : row? (S.h rows) (S.n id) = (row? rows id).map (·.map S.v) := by
  unfold row?
  rw [h_get hg]
  cases rows[id]? with
  | none => rfl
  | some y => cases y <;> rfl

variable (S)
theorem getO_ok (sl : List AV) (x : Opd) : getO (sl.map S.v) (S.o x) = S.v (getO sl x) := by
  cases x with
  | t i =>
    simp only [o, getO, List.getD_eq_getElem?_getD, List.getElem?_map]
    cases sl[i]? <;> simp [v]
  | c y => rfl
theorem seg_ok (l : List AV) (a b : Nat) : seg (l.map S.v) a b = (seg l a b).map (·.map S.v) := by
  unfold seg
  rw [List.length_map]
  split <;> simp
theorem splice_ok (l m : List AV) (a : Nat) : splice (l.map S.v) a (m.map S.v) = (splice l a m).map S.v := by simp [splice]
theorem fill_ok {gg gg' : Opd → AV} (hgg : ∀ x, gg' (S.o x) = S.v (gg x)) : ∀ (l : List (Nat × Nat × Opd)) (cs : List AV), fillA gg' (S.ps l) (cs.map S.v) = (fillA gg l cs).map (·.map S.v)
  | [], cs => rfl
  | (a, b, x) :: l, cs => by
    simp only [ps, List.map_cons, fillA, hgg, cells, List.length_map, all_one]
    split
    · rw [splice_ok]
      exact fill_ok hgg l _
    · rfl
theorem bin_ok (op : BinOp) (a b : AV) : binA op (S.v a) (S.v b) = (binA op a b).map S.v := by
  cases a <;> first
    | (simp only [v, binA]; rfl)
    | (cases b <;> first
        | (simp only [v, binA]; rfl)
        | (simp only [v, binA]
           split
           · cases op <;> simp [shiftI] <;> split <;> simp [v]
           · split
             · cases op <;> simp only [binI] <;> first | rfl | (split <;> rfl)
             · rfl))
theorem eqInts_ok : ∀ xs ys : List AV, eqInts (xs.map S.v) (ys.map S.v) = eqInts xs ys
  | [], [] => rfl
  | [], _ :: _ => by simp [eqInts]
  | _ :: _, [] => by simp [eqInts]
  | a :: xs, b :: ys => by
    cases a <;> cases b <;> simp only [List.map_cons, v, eqInts]
    rw [eqInts_ok xs ys]
theorem eq_ok (kd : EqK) (a b : AV) : eqA kd (S.v a) (S.v b) = eqA kd a b := by
  cases kd <;> cases a <;> cases b <;> first | rfl | simp only [v, eqA]
  simp only [vL_map, List.length_map, eqInts_ok]
theorem un_ok (op : UnOp) (a : AV) : unA op (S.v a) = (unA op a).map S.v := by
  cases a <;> cases op <;> simp only [v, unA] <;> rfl
theorem fold_ok {f : AV → AV → Option AV} (hf : ∀ a b, f (S.v a) (S.v b) = (f a b).map S.v) : ∀ (l : List AV) (a : AV), foldA f (S.v a) (l.map S.v) = (foldA f a l).map S.v
  | [], a => rfl
  | x :: l, a => by
    simp only [List.map_cons, foldA, hf]
    cases f a x with
    | none => rfl
    | some b => exact fold_ok hf l b
theorem mx_ok (a b : AV) : mxA (S.v a) (S.v b) = (mxA a b).map S.v := by
  cases a <;> cases b <;> first | rfl | (simp only [v, mxA]; split <;> rfl)
theorem mn_ok (a b : AV) : mnA (S.v a) (S.v b) = (mnA a b).map S.v := by
  cases a <;> cases b <;> first | rfl | (simp only [v, mnA]; split <;> rfl)
theorem bound_ok (y : Option AV) (d k : Nat) : bound? (y.map S.v) d k = bound? y d k := by
  cases y with
  | none => rfl
  | some a => cases a <;> rfl
theorem slice_ok (sz : Nat) (a : AV) (lo hi mx : Option AV) : sliceV sz (S.v a) (lo.map S.v) (hi.map S.v) (mx.map S.v) = (sliceV sz a lo hi mx).map S.v := by
  have e1 : ∀ y : Option AV, (y.map S.v).isSome = y.isSome := fun y => by cases y <;> rfl
  have e2 : ∀ y : Option AV, (y.map S.v).isNone = y.isNone := fun y => by cases y <;> rfl
  cases a <;> try rfl
  case slice id off len cp =>
    cases cp with
    | at_ k =>
      simp only [v, sliceV, bound_ok, e1, e2]
      cases bound? mx k k with
      | none => rfl
      | some q =>
        simp only
        cases bound? hi len q with
        | none => rfl
        | some w =>
          simp only
          cases bound? lo 0 w with
          | none => rfl
          | some u => simp only; split <;> rfl
    | op k =>
      cases mx with
      | none =>
        simp only [v, sliceV, bound_ok, e1, e2, Option.map_none]
        cases bound? hi len len with
        | none => rfl
        | some w =>
          simp only
          cases bound? lo 0 w with
          | none => rfl
          | some u => simp only; split <;> rfl
      | some y =>
        have e3 := bound_ok S (some y) len len
        simp only [Option.map_some] at e3
        simp only [v, sliceV, bound_ok, e1, e2, Option.map_some, e3]
        cases bound? (some y) len len with
        | none => rfl
        | some q =>
          simp only
          cases bound? hi len q with
          | none => rfl
          | some w =>
            simp only
            cases bound? lo 0 w with
            | none => rfl
            | some u =>
              simp only
              by_cases z1 : hi.isNone = true
              · simp [z1]
              · by_cases z2 : k = sz <;> simp [z1, z2, v]
  case nilslice =>
    simp only [v, sliceV, bound_ok, e1, e2]
    cases bound? mx 0 0 <;> cases bound? hi 0 0 <;> cases bound? lo 0 0 <;> simp only <;> first | rfl | (split <;> rfl)
theorem key_ok (a b : AV) : keyEq (S.v a) (S.v b) = keyEq a b := by cases a <;> cases b <;> rfl
theorem find_ok (k : AV) : ∀ (es : List (AV × AV)) (j : Nat), findK (S.v k) (es.map S.e) j = (findK k es j).map fun q => q.map fun p => (p.1, S.v p.2)
  | [], j => rfl
  | p :: es, j => by
    simp only [List.map_cons, findK, e, key_ok]
    cases keyEq k p.1 with
    | none => rfl
    | some b =>
      cases b
      · exact find_ok k es (j + 1)
      · rfl
end Sh
end Go.Abs
namespace Go.Abs
namespace Sh
variable (S : Sh)
theorem map_ok {gg gg' : Opd → AV} (hgg : ∀ y, gg' (S.o y) = S.v (gg y)) (l : List Opd) : (l.map S.o).map gg' = (l.map gg).map S.v := by
  simp [hgg, Function.comp_def]
theorem mapo_ok {gg gg' : Opd → AV} (hgg : ∀ y, gg' (S.o y) = S.v (gg y)) (l : Option Opd) : (S.oo l).map gg' = (l.map gg).map S.v := by
  cases l <;> simp [oo, hgg]
theorem evalP_ok {gg gg' : Opd → AV} (hgg : ∀ y, gg' (S.o y) = S.v (gg y)) {rows : List Row} (hg : S.g ≤ rows.length) (op : IOp) : evalP (S.h rows) gg' (S.i op) = (evalP rows gg op).map S.v := by
  cases op with
  | mv y => simp only [i, evalP, hgg, Option.map_some]
  | pick y a b =>
    simp only [i, evalP, hgg]
    cases gg y <;> try rfl
    simp only [v, Option.map_some]; split <;> rfl
  | load1 a =>
    simp only [i, evalP, hgg]
    cases gg a <;> try rfl
    simp only [v, h_row? hg]
    cases row? rows _ with
    | none => rfl
    | some vs => simp
  | loadN k a =>
    simp only [i, evalP, hgg]
    cases gg a <;> try rfl
    simp only [v, h_row? hg]
    cases row? rows _ with
    | none => rfl
    | some vs =>
      simp only [Option.map_some, seg_ok]
      cases seg vs _ _ <;> simp [v_agg]
  | nilck y =>
    simp only [i, evalP, hgg]
    cases gg y <;> rfl
  | bin op a b => simp only [i, evalP, hgg, bin_ok]
  | eqv neg kd a b =>
    simp only [i, evalP, hgg, eq_ok]
    cases eqA kd (gg a) (gg b) <;> rfl
  | un op a => simp only [i, evalP, hgg, un_ok]
  | conv k a =>
    simp only [i, evalP, hgg]
    cases gg a <;> rfl
  | part1 off a =>
    simp only [i, evalP, hgg]
    cases gg a <;> try rfl
    simp [v_agg]
  | partN off k a =>
    simp only [i, evalP, hgg]
    cases gg a <;> try rfl
    simp only [v_agg, seg_ok]
    cases seg _ off k <;> simp [v_agg]
  | idxV len sz ag a j =>
    simp only [i, evalP, hgg]
    cases gg a <;> try rfl
    cases gg j <;> try rfl
    simp only [v_agg, v, vL_map]
    cases idx? _ len with
    | none => rfl
    | some q =>
      simp only
      split
      · rw [seg_ok]; cases seg _ _ _ <;> simp [v_agg]
      · simp
  | fieldA off a =>
    simp only [i, evalP, hgg]
    cases gg a <;> rfl
  | idxA len sz a j =>
    simp only [i, evalP, hgg]
    cases gg a <;> try rfl
    cases gg j <;> try rfl
    simp only [v]
    cases idx? _ len <;> rfl
  | idxS sz a j =>
    simp only [i, evalP, hgg]
    cases gg a <;> try rfl
    cases gg j <;> try rfl
    simp only [v]
    cases idx? _ _ <;> rfl
  | mkagg z l =>
    simp only [i, evalP, fill_ok S hgg]
    cases fillA gg l z <;> simp [v_agg]
  | sliceS sz a lo hi mx => simp only [i, evalP, hgg, mapo_ok S hgg, slice_ok]
  | sliceA k sz a lo hi mx =>
    simp only [i, evalP, hgg, mapo_ok S hgg]
    cases gg a <;> try rfl
    rename_i id off
    exact slice_ok S sz (.slice id off k (.at_ k)) (lo.map gg) (hi.map gg) (mx.map gg)
  | mkfn f cs => simp only [i, evalP, map_ok S hgg, Option.map_some, v_func]
  | look z ok a b =>
    simp only [i, evalP, hgg]
    cases gg a <;> try rfl
    · rename_i id
      simp only [v, h_get hg]
      cases rows[id]? with
      | none => rfl
      | some y =>
        cases y <;> try rfl
        simp only [Option.map_some, r, find_ok]
        cases findK (gg b) _ 0 with
        | none => rfl
        | some q =>
          cases q with
          | none => simp only [Option.map_some, Option.map_none]; cases ok <;> simp [v_tup, v]
          | some p => simp only [Option.map_some]; cases ok <;> simp [v_tup, v]
    · simp only [v, key_ok]
      cases keyEq (gg b) (gg b) with
      | none => rfl
      | some q => simp only; cases ok <;> simp [v, vL_map]
  | lenc k => rfl
  | len kd a =>
    simp only [i, evalP, hgg]
    cases gg a <;> (try (rcases kd with _ | _ | _ | kd <;> rfl))
    rcases kd with _ | _ | _ | kd <;> try rfl
    rename_i id
    simp only [v, h_get hg]
    cases rows[id]? with
    | none => rfl
    | some y => cases y <;> simp [r, v]
  | cap a =>
    simp only [i, evalP, hgg]
    cases gg a <;> try rfl
    rename_i c
    cases c <;> rfl
  | mx xs =>
    simp only [i, evalP, map_ok S hgg]
    cases xs.map gg with
    | nil => rfl
    | cons a l => exact fold_ok S (mx_ok S) l a
  | mn xs =>
    simp only [i, evalP, map_ok S hgg]
    cases xs.map gg with
    | nil => rfl
    | cons a l => exact fold_ok S (mn_ok S) l a
  | ext a j =>
    simp only [i, evalP, hgg]
    cases gg a <;> try rfl
    simp [v_tup]
  | mkif ty a => simp [i, evalP, hgg, v]
  | _ => rfl

theorem lower_ok (low id : Nat) : lower (S.n low) (S.n id) = S.n (lower low id) := by
  unfold lower
  by_cases h : id < low
  · rw [if_pos h, if_pos (S.n_lt.2 h)]
  · rw [if_neg h, if_neg (fun e => h (S.n_lt.1 e))]
theorem elems_ok {rows : List Row} (hg : S.g ≤ rows.length) (sz : Nat) (a : AV) : elems (S.h rows) sz (S.v a) = (elems rows sz a).map fun p => (p.1.map S.v, p.2) := by
  cases a <;> try rfl
  simp only [v, elems, h_row? hg]
  cases row? rows _ with
  | none => rfl
  | some vs =>
    simp only [Option.map_some, seg_ok]
    cases seg vs _ _ <;> simp
theorem rep_ok (k : Nat) (z : List AV) : (List.replicate k (z.map S.v)).flatten = ((List.replicate k z).flatten).map S.v := by
  induction k with
  | zero => rfl
  | succ k ih => rw [List.replicate_succ, List.replicate_succ, List.flatten_cons, List.flatten_cons, ih, List.map_append]
theorem cells_ok (l : List AV) : S.r (.cells l) = .cells (l.map S.v) := rfl
theorem tup0 : S.v (.tup []) = .tup [] := by rw [v_tup]; rfl

/-- An operation that makes or writes; the heap never loses its first rows. -/
theorem evalE_ok {gg gg' : Opd → AV} (hgg : ∀ y, gg' (S.o y) = S.v (gg y)) {rows : List Row} (hg : S.g ≤ rows.length) (low : Nat) (op : IOp) : evalE gg' (S.h rows) (S.n low) (S.i op) = (evalE gg rows low op).map S.x3 ∧ ∀ q, evalE gg rows low op = some q → rows.length ≤ q.2.1.length := by
  have hP : ∀ op : IOp, (evalP (S.h rows) gg' (S.i op)).map (fun w => (w, S.h rows, S.n low)) = ((evalP rows gg op).map fun w => (w, rows, low)).map S.x3 := by
    intro op
    rw [evalP_ok S hgg hg]
    cases evalP rows gg op <;> rfl
  have hP2 : ∀ op : IOp, ∀ q, ((evalP rows gg op).map fun w => (w, rows, low)) = some q → rows.length ≤ q.2.1.length := by
    intro op q e
    rw [Option.map_eq_some_iff] at e
    obtain ⟨w, _, rfl⟩ := e
    exact Nat.le_refl _
  have hlen : (S.h rows).length = S.n rows.length := h_len hg
  cases op with
  | box y =>
    simp only [i, evalE, hgg, cells, all_one]
    by_cases h1 : (gg y).cells.all AV.one = true
    · rw [if_pos h1, if_pos h1]
      refine ⟨?_, fun q e => ?_⟩
      · simp only [Option.map_some, x3, v, hlen, h_app hg, List.map_cons, List.map_nil, cells_ok, List.map_append]
      · injection e with e; subst e; simp
    · rw [if_neg h1, if_neg h1]
      exact ⟨rfl, fun q e => by simp at e⟩
  | store1 a y =>
    simp only [i, evalE, hgg]
    cases gg a <;> try exact ⟨rfl, fun q e => by simp at e⟩
    rename_i id off
    simp only [v, h_get hg]
    cases hr : rows[id]? with
    | none => exact ⟨rfl, fun q e => by simp at e⟩
    | some w =>
      cases w <;> try exact ⟨rfl, fun q e => by simp at e⟩
      rename_i vs
      simp only [Option.map_some, r, List.length_map, one]
      by_cases h1 : off < vs.length ∧ (gg y).one = true
      · rw [if_pos h1, if_pos h1]
        refine ⟨?_, fun q e => ?_⟩
        · simp only [Option.map_some, x3, tup0, lower_ok, ← h_set hg, cells_ok, List.map_set]
        · injection e with e; subst e; simp
      · rw [if_neg h1, if_neg h1]
        exact ⟨rfl, fun q e => by simp at e⟩
  | storeN k a y =>
    simp only [i, evalE, hgg]
    cases gg a <;> try exact ⟨rfl, fun q e => by simp at e⟩
    rename_i id off
    cases gg y <;> try exact ⟨rfl, fun q e => by simp at e⟩
    rename_i l
    simp only [v, vL_map, h_get hg]
    cases hr : rows[id]? with
    | none => exact ⟨rfl, fun q e => by simp at e⟩
    | some w =>
      cases w <;> try exact ⟨rfl, fun q e => by simp at e⟩
      rename_i vs
      simp only [Option.map_some, r, List.length_map, all_one]
      by_cases h1 : l.length = k ∧ off + k ≤ vs.length ∧ l.all AV.one = true
      · rw [if_pos h1, if_pos h1]
        refine ⟨?_, fun q e => ?_⟩
        · simp only [Option.map_some, x3, tup0, lower_ok, ← h_set hg, cells_ok, splice_ok]
        · injection e with e; subst e; simp
      · rw [if_neg h1, if_neg h1]
        exact ⟨rfl, fun q e => by simp at e⟩
  | mkslice k z l =>
    simp only [i, evalE, fill_ok S hgg]
    cases fillA gg l z with
    | none => exact ⟨rfl, fun q e => by simp at e⟩
    | some cs =>
      refine ⟨?_, fun q e => ?_⟩
      · simp only [Option.map_some, x3, v, hlen, h_app hg, List.map_cons, List.map_nil, cells_ok, List.map_append]
      · simp only [Option.some.injEq] at e; subst e; simp
  | make z b l cp =>
    simp only [i, evalE, hgg]
    cases gg l <;> try exact ⟨rfl, fun q e => by simp at e⟩
    cases gg cp <;> try exact ⟨rfl, fun q e => by simp at e⟩
    simp only [v]
    split
    · refine ⟨?_, fun q e => ?_⟩
      · simp only [Option.map_some, x3, v, hlen, h_app hg, List.map_cons, List.map_nil, cells_ok, rep_ok]
      · injection e with e; subst e; simp
    · exact ⟨rfl, fun q e => by simp at e⟩
  | appz z a y =>
    simp only [i, evalE, hgg]
    cases gg a <;> try exact ⟨rfl, fun q e => by simp at e⟩
    cases gg y <;> try exact ⟨rfl, fun q e => by simp at e⟩
    simp only [v]
    split
    · refine ⟨?_, fun q e => ?_⟩
      · simp only [Option.map_some, x3, v, hlen, h_app hg, List.map_cons, List.map_nil, cells_ok, rep_ok]
      · injection e with e; subst e; simp
    · exact ⟨rfl, fun q e => by simp at e⟩
  | mkmap =>
    refine ⟨?_, fun q e => ?_⟩
    · simp [i, evalE, x3, v, hlen, h_app hg, r]
    · simp only [evalE, Option.some.injEq] at e; subst e; simp
  | mset a k y =>
    simp only [i, evalE, hgg]
    cases gg a <;> try exact ⟨rfl, fun q e => by simp at e⟩
    rename_i id
    simp only [v, h_get hg]
    cases hr : rows[id]? with
    | none => exact ⟨rfl, fun q e => by simp at e⟩
    | some w =>
      cases w <;> try exact ⟨rfl, fun q e => by simp at e⟩
      rename_i es
      simp only [Option.map_some, r, find_ok]
      cases findK (gg k) es 0 with
      | none => exact ⟨rfl, fun q e => by simp at e⟩
      | some q =>
        cases q with
        | none =>
          simp only [Option.map_some, Option.map_none, key_ok]
          split
          · refine ⟨?_, fun q e => ?_⟩
            · simp only [Option.map_some, x3, tup0, lower_ok, ← h_set hg, r, List.map_append, List.map_cons, List.map_nil, Sh.e]
            · injection e with e; subst e; simp
          · exact ⟨rfl, fun q e => by simp at e⟩
        | some p =>
          obtain ⟨j, w⟩ := p
          simp only [Option.map_some]
          refine ⟨?_, fun q e => ?_⟩
          · simp only [x3, tup0, lower_ok, ← h_set hg, r, List.map_set, Sh.e]
          · injection e with e; subst e; simp
  | app sz b a y =>
    simp only [i, evalE, hgg, elems_ok S hg]
    cases elems rows sz (gg y) with
    | none => exact ⟨rfl, fun q e => by simp at e⟩
    | some p =>
      obtain ⟨ys, m⟩ := p
      simp only [Option.map_some]
      by_cases hm : m = 0
      · rw [if_pos hm, if_pos hm]
        cases hga : gg a with
        | nilslice => exact ⟨rfl, fun q e => by injection e with e; subst e; exact Nat.le_refl _⟩
        | slice => exact ⟨rfl, fun q e => by injection e with e; subst e; exact Nat.le_refl _⟩
        | _ => exact ⟨rfl, fun q e => by simp at e⟩
      · rw [if_neg hm, if_neg hm]
        by_cases hm2 : lim < m
        · rw [if_pos hm2, if_pos hm2]; exact ⟨rfl, fun q e => by simp at e⟩
        · rw [if_neg hm2, if_neg hm2]
          cases gg a <;> try exact ⟨rfl, fun q e => by simp at e⟩
          · rename_i id off k cp
            cases cp with
            | at_ c =>
              simp only [v]
              by_cases h1 : lim < k + m
              · rw [if_pos h1, if_pos h1]; exact ⟨rfl, fun q e => by simp at e⟩
              · rw [if_neg h1, if_neg h1]
                by_cases h2 : k + m ≤ c
                · rw [if_pos h2, if_pos h2, h_get hg]
                  cases hr : rows[id]? with
                  | none => exact ⟨rfl, fun q e => by simp at e⟩
                  | some w =>
                    cases w <;> try exact ⟨rfl, fun q e => by simp at e⟩
                    rename_i vs
                    simp only [Option.map_some, r, List.length_map]
                    split
                    · refine ⟨?_, fun q e => ?_⟩
                      · simp only [Option.map_some, x3, lower_ok, ← h_set hg, cells_ok, splice_ok, v]
                      · injection e with e; subst e; simp
                    · exact ⟨rfl, fun q e => by simp at e⟩
                · rw [if_neg h2, if_neg h2, h_row? hg]
                  cases row? rows id with
                  | none => exact ⟨rfl, fun q e => by simp at e⟩
                  | some vs =>
                    simp only [Option.map_some, seg_ok]
                    cases seg vs off (k * sz) with
                    | none => exact ⟨rfl, fun q e => by simp at e⟩
                    | some xs =>
                      refine ⟨?_, fun q e => ?_⟩
                      · simp only [Option.map_some, x3, v, hlen, h_app hg, List.map_cons, List.map_nil, cells_ok, List.map_append]
                      · injection e with e; subst e; simp
            | op sz' =>
              simp only [v]
              by_cases h1 : lim < k + m ∨ sz' ≠ sz
              · rw [if_pos h1, if_pos h1]; exact ⟨rfl, fun q e => by simp at e⟩
              · rw [if_neg h1, if_neg h1, h_get hg]
                cases hr : rows[id]? with
                | none => exact ⟨rfl, fun q e => by simp at e⟩
                | some w =>
                  cases w <;> try exact ⟨rfl, fun q e => by simp at e⟩
                  rename_i vs
                  simp only [Option.map_some, r, seg_ok]
                  cases seg vs off (k * sz) with
                  | none => exact ⟨rfl, fun q e => by simp at e⟩
                  | some xs =>
                    refine ⟨?_, fun q e => ?_⟩
                    · have hg' : S.g ≤ (rows.set id .dead).length := by simpa using hg
                      have e1 : (S.h rows).set (S.n id) .dead = S.h (rows.set id .dead) := h_set (S := S) hg id .dead
                      simp only [Option.map_some, x3, lower_ok, e1, v, hlen, h_app hg', List.map_cons, List.map_nil, cells_ok, List.map_append]
                    · injection e with e; subst e; simp
          · refine ⟨?_, fun q e => ?_⟩
            · simp only [Option.map_some, x3, v, hlen, h_app hg, List.map_cons, List.map_nil, cells_ok, List.map_append]
            · injection e with e; subst e; simp
  | call f args => exact ⟨rfl, fun q e => by simp [evalE, evalP] at e⟩
  | bad => exact ⟨rfl, fun q e => by simp [evalE, evalP] at e⟩
  | mv y => exact ⟨hP (.mv y), hP2 (.mv y)⟩
  | mkfn f cs => exact ⟨hP (.mkfn f cs), hP2 (.mkfn f cs)⟩
  | lenc k => exact ⟨hP (.lenc k), hP2 (.lenc k)⟩
  | mkif ty y => exact ⟨hP (.mkif ty y), hP2 (.mkif ty y)⟩
  | _ => exact ⟨hP _, hP2 _⟩
end Sh
end Go.Abs
namespace Go.Abs
namespace Sh
variable (S : Sh)
theorem any_ok : S.v .any = .any := by simp [v]
theorem getT (sl : List AV) (t : Nat) : (sl.map S.v).getD t .any = S.v (sl.getD t .any) := getO_ok S sl (.t t)
theorem h_take {rows : List Row} {b : Nat} (h1 : S.g ≤ b) (h2 : b ≤ rows.length) : (S.h rows).take (S.n b) = S.h (rows.take b) := by
  have hg : S.g ≤ rows.length := by omega
  have e := h_app (S := S) (rows := rows.take b) (L := rows.drop b) (by simp; omega)
  rw [List.take_append_drop] at e
  have hl : (S.h (rows.take b)).length = S.n b := by
    rw [h_len (by simp; omega)]; congr 1; simp; omega
  rw [e, List.take_append_of_le_length (by omega), List.take_of_length_le (by omega)]
theorem h_drop {rows : List Row} {b : Nat} (h1 : S.g ≤ b) (h2 : b ≤ rows.length) : (S.h rows).drop (S.n b) = (rows.drop b).map S.r := by
  have e := h_app (S := S) (rows := rows.take b) (L := rows.drop b) (by simp; omega)
  rw [List.take_append_drop] at e
  have hl : (S.h (rows.take b)).length = S.n b := by
    rw [h_len (by simp; omega)]; congr 1; simp; omega
  rw [e, List.drop_append_of_le_length (by omega), List.drop_of_length_le (by omega), List.nil_append]
theorem lt_ok (b : Nat) (l : List Nat) : (l.map S.n).all (fun i => decide (i < S.n b)) = l.all fun i => decide (i < b) := by
  simp only [List.all_map, Function.comp_def, S.n_lt]
theorem under_ok (b : Nat) (a : AV) : (S.v a).under (S.n b) = a.under b := by
  unfold AV.under
  rw [ids]
  exact lt_ok S b a.ids
theorem underL_ok (b : Nat) (l : List AV) : (l.map S.v).all (AV.under (S.n b)) = l.all (AV.under b) := by
  simp only [List.all_map, Function.comp_def, under_ok]
theorem runder_ok (b : Nat) (y : Row) : (S.r y).under (S.n b) = y.under b := by
  cases y <;> simp only [r, Row.under, underL_ok]
  rename_i es
  simp only [List.all_map, Function.comp_def, Sh.e, under_ok]
theorem runders_ok (b : Nat) (l : List Row) : (l.map S.r).all (Row.under (S.n b)) = l.all (Row.under b) := by
  simp only [List.all_map, Function.comp_def, runder_ok]
theorem under_mono {b b' : Nat} (h : b ≤ b') {a : AV} (ha : a.under b = true) : a.under b' = true := by
  unfold AV.under at *
  rw [List.all_eq_true] at *
  intro x hx
  have := ha x hx
  simp at *
  omega
theorem runder_mono {b b' : Nat} (h : b ≤ b') {y : Row} (hy : y.under b = true) : y.under b' = true := by
  have hL : ∀ l : List AV, l.all (AV.under b) = true → l.all (AV.under b') = true := by
    intro l hl
    rw [List.all_eq_true] at *
    exact fun x hx => under_mono h (hl x hx)
  cases y <;> simp only [Row.under] at * <;> try exact hL _ hy
  rw [List.all_eq_true] at *
  intro x hx
  have := hy x hx
  rw [Bool.and_eq_true] at *
  exact ⟨under_mono h this.1, under_mono h this.2⟩

variable (hX : ∀ y ∈ S.X, y.under (S.g + S.X.length) = true)
include hX in
theorem gc_ok {b low : Nat} {a : AV} {rows : List Row} (h1 : S.g ≤ b) (h2 : b ≤ rows.length) : gc (S.n b) (S.n low) (S.v a) (S.h rows) = S.h (gc b low a rows) ∧ b ≤ (gc b low a rows).length := by
  have hall : (((S.h rows).take (S.n b)).drop (S.n low)).all (Row.under (S.n b)) = ((rows.take b).drop low).all (Row.under b) := by
    rw [h_take S h1 h2]
    have hl : S.g ≤ (rows.take b).length := by simp; omega
    generalize rows.take b = R at hl ⊢
    by_cases hlow : S.g ≤ low
    · by_cases hlR : low ≤ R.length
      · rw [h_drop S hlow hlR, runders_ok]
      · rw [List.drop_of_length_le (by rw [h_len hl, S.n_ge hl, S.n_ge hlow]; omega), List.drop_of_length_le (by omega)]
        rfl
    · rw [S.n_lo (by omega)]
      unfold h
      rw [List.append_assoc, List.drop_append_of_le_length (by simp; omega), ← List.map_drop, List.all_append, List.all_append, runders_ok, runders_ok]
      have hx : S.X.all (Row.under (S.n b)) = true := by
        rw [List.all_eq_true]
        exact fun y hy => runder_mono (by rw [S.n_ge h1]; omega) (hX y hy)
      rw [hx, Bool.true_and, ← List.all_append]
      congr 1
      rw [← List.drop_append_of_le_length (by simp; omega), List.take_append_drop]
  unfold gc
  rw [under_ok, hall]
  split
  · rw [h_take S h1 h2]
    exact ⟨rfl, by simp; omega⟩
  · exact ⟨rfl, h2⟩
theorem plain_ok (a : AV) : (S.v a).plain = a.plain := by
  cases a <;> simp only [v, AV.plain] <;> first
    | rfl
    | (rename_i x; have := ids S (.func _ x); simp only [v] at this; simp [this])
    | skip
  all_goals
    first
    | (rename_i f cs; have e := ids S (.func f cs); simp only [v] at e; rw [e]; simp)
    | (rename_i f cs; have e := ids S (.iface f cs); simp only [v] at e; rw [e]; simp)
    | (rename_i f; have e := ids S (.map f); simp only [v] at e; rw [e]; simp)
    | (rename_i f; have e := ids S (.yield f); simp only [v] at e; rw [e]; simp)
    | (rename_i f; have e := ids S (.agg f); simp only [v] at e; rw [e]; simp)
    | (rename_i f; have e := ids S (.tup f); simp only [v] at e; rw [e]; simp)
theorem ntup {a : AV} (h : ∀ l, a ≠ .tup l) : ∀ l, S.v a ≠ .tup l := by
  intro l
  cases a <;> simp [v]
  exact absurd rfl (h _)
theorem plain1_eq {a : AV} (h : ∀ l, a ≠ .tup l) : a.plain1 = a.plain := by
  cases a <;> first | rfl | exact absurd rfl (h _)
theorem ren1_eq {a : AV} (p q : Nat) (h : ∀ l, a ≠ .tup l) : a.ren1 p q = a.ren p q := by
  cases a <;> first | rfl | exact absurd rfl (h _)
theorem plain1_ok (a : AV) : (S.v a).plain1 = a.plain1 := by
  by_cases ht : ∃ l, a = .tup l
  · obtain ⟨l, rfl⟩ := ht
    rw [v_tup]; simp only [AV.plain1, List.all_map, Function.comp_def, plain_ok]
  · have h1 : ∀ l, a ≠ .tup l := fun l e => ht ⟨l, e⟩
    rw [plain1_eq h1, plain1_eq (ntup S h1), plain_ok]
theorem ren_ok (p q : Nat) (a : AV) : (S.v a).ren (S.n p) (S.n q) = S.v (a.ren p q) := by
  cases a <;> simp only [v, AV.ren, S.n_inj] <;> first | rfl | (split <;> rfl)
theorem ren1_ok (p q : Nat) (a : AV) : (S.v a).ren1 (S.n p) (S.n q) = S.v (a.ren1 p q) := by
  by_cases ht : ∃ l, a = .tup l
  · obtain ⟨l, rfl⟩ := ht
    rw [v_tup]
    simp only [AV.ren1, v_tup, List.map_map]
    congr 1
    apply List.map_congr_left
    intro x _
    exact ren_ok S p q x
  · have h1 : ∀ l, a ≠ .tup l := fun l e => ht ⟨l, e⟩
    rw [ren1_eq _ _ h1, ren1_eq _ _ (ntup S h1), ren_ok]
include hX in
theorem fin_ok {rows rows' : List Row} {low : Nat} {a : AV} (h1 : S.g ≤ rows.length) (h2 : rows.length ≤ rows'.length) : fin (S.h rows) (S.v a) (S.h rows') (S.n low) = S.x3o (fin rows a rows' low) ∧ rows.length ≤ (fin rows a rows' low).2.1.length := by
  have hlen : (S.h rows).length = S.n rows.length := h_len h1
  unfold fin
  rw [hlen]
  simp only [S.n_inj]
  by_cases hl : low = rows.length
  · rw [if_pos hl, if_pos hl, ids, lt_ok]
    by_cases ha : (a.ids.all fun x => decide (x < rows.length)) = true
    · rw [if_pos ha, if_pos ha]
      exact ⟨rfl, Nat.le_refl _⟩
    · rw [if_neg ha, if_neg ha]
      cases hi : a.ids with
      | nil => exact ⟨rfl, h2⟩
      | cons p l =>
        cases l with
        | cons _ _ => exact ⟨rfl, h2⟩
        | nil =>
          simp only [List.map_cons, List.map_nil, h_get (Nat.le_trans h1 h2)]
          cases rows'[p]? with
          | none => exact ⟨rfl, h2⟩
          | some y =>
            cases y <;> try exact ⟨rfl, h2⟩
            rename_i vs
            simp only [Option.map_some, r, plain1_ok]
            have e : (vs.map S.v).all (fun x => x.ids.isEmpty) = vs.all fun x => x.ids.isEmpty := by
              simp only [List.all_map, Function.comp_def, ids, List.isEmpty_map]
            rw [e]
            split
            · refine ⟨?_, by simp⟩
              simp only [x3o, ren1_ok, h_app h1, List.map_cons, List.map_nil, cells_ok, Option.map_none]
            · exact ⟨rfl, h2⟩
  · rw [if_neg hl, if_neg hl]
    have := gc_ok S hX (low := low) (a := a) h1 h2
    refine ⟨?_, this.2⟩
    simp only [x3o, this.1, Option.map_some]

theorem resV_ok {rows : List Row} (hg : S.g ≤ rows.length) (sl : List AV) (y : RV) : resV (S.h rows) (sl.map S.v) y = (resV rows sl y).map S.v := by
  cases y with
  | t k => simp only [resV, getT, Option.map_some]
  | cell1 k => exact evalP_ok S (getO_ok S sl) hg (.load1 (.t k))
  | cellN k sz => exact evalP_ok S (getO_ok S sl) hg (.loadN sz (.t k))
theorem resVs_ok {rows : List Row} (hg : S.g ≤ rows.length) (sl : List AV) : ∀ l : List RV, resVs (S.h rows) (sl.map S.v) l = (resVs rows sl l).map (·.map S.v)
  | [] => rfl
  | y :: l => by
    simp only [resVs, resV_ok S hg, resVs_ok hg sl l]
    cases resV rows sl y <;> cases resVs rows sl l <;> simp
theorem results_ok {rows : List Row} (hg : S.g ≤ rows.length) (sl : List AV) (l : List RV) : results (S.h rows) (sl.map S.v) l = (results rows sl l).map S.v := by
  unfold results
  rw [resVs_ok S hg]
  cases resVs rows sl l with
  | none => rfl
  | some q =>
    match q with
    | [] => simp [tup0]
    | [a] => rfl
    | a :: b :: l => simp [v_tup]

def cx : Ctx → Ctx
  | .fn res => .fn res
  | .round id => .round (S.n id)
theorem leave_ok {cx : Ctx} {j : Option Jump} {sl : List AV} {rows : List Row} {low : Nat} (hg : S.g ≤ rows.length) {q : AV × List Row × Nat} (h : leaveV cx j ⟨sl, rows, low⟩ = some q) : leaveV (S.cx cx) j ⟨sl.map S.v, S.h rows, S.n low⟩ = some (S.x3 q) ∧ rows.length ≤ q.2.1.length := by
  cases cx with
  | fn res =>
    simp only [leaveV, Sh.cx] at h ⊢
    split at h
    · simp at h
    · rename_i hj
      rw [Option.map_eq_some_iff] at h
      obtain ⟨w, hw, rfl⟩ := h
      rw [results_ok S hg, hw]
      exact ⟨rfl, Nat.le_refl _⟩
  | round id =>
    simp only [leaveV, Sh.cx] at h ⊢
    rw [h_get hg]
    split at h
    · rename_i hr
      rw [hr]
      injection h with h
      subst h
      simp only [Option.map_some, r]
      refine ⟨?_, by simp⟩
      simp only [x3, v, lower_ok, ← h_set hg, r]
    · simp at h

theorem want_ok (sl : List AV) (gd : Option (Nat × Bool)) : want (sl.map S.v) gd = want sl gd := by
  cases gd with
  | none => rfl
  | some p =>
    obtain ⟨t, b⟩ := p
    simp only [want, getT]
    generalize sl.getD t AV.any = y
    cases y <;> simp only [v]
    rename_i l
    cases l <;> simp [v.vL]

/-- A way to call, and the same at the longer heap. -/
def CallSh (call call' : CallF) : Prop := ∀ f vs rows q, call f vs rows = some q → S.g ≤ rows.length → call' f (vs.map S.v) (S.h rows) = some (S.x3o q) ∧ rows.length ≤ q.2.1.length

theorem target_ok (a : AV) (args : List AV) : target (S.v a) (args.map S.v) = (target a args).map fun p => (p.1, p.2.map S.v) := by
  cases a <;> simp only [v, target] <;> try rfl
  simp [vL_map]
theorem lowO_ok (low : Nat) (d : Option Nat) : lowO (S.n low) (d.map S.n) = S.n (lowO low d) := by
  cases d with
  | none => rfl
  | some k => exact lower_ok S low k
theorem put_ok (sl : List AV) (d : Option Nat) (a : AV) : putO (sl.map S.v) d (S.v a) = (putO sl d a).map S.v := by
  cases d <;> simp [putO]

theorem opR_ok {call call' : CallF} (hc : S.CallSh call call') {sl : List AV} {rows : List Row} {low : Nat} {o : IOpx} (hg : S.g ≤ rows.length) {q : AV × List Row × Nat} (h : opR call sl rows low o = some q) : opR call' (sl.map S.v) (S.h rows) (S.n low) (S.x o) = some (S.x3 q) ∧ rows.length ≤ q.2.1.length := by
  unfold opR at h ⊢
  simp only [Sh.x, want_ok]
  split at h
  · simp at h
  · injection h with h
    subst h
    exact ⟨by simp only [x3, tup0], Nat.le_refl _⟩
  · split at h
    · rename_i f args ho
      rw [ho]
      simp only [i, getO_ok, map_ok S (getO_ok S sl), target_ok]
      split at h
      · rename_i fid vs ht
        rw [ht]
        simp only [Option.map_some]
        split at h
        · rename_i a rows' d hcall
          injection h with h
          subst h
          obtain ⟨e1, e2⟩ := hc _ _ _ _ hcall hg
          simp only [e1, x3o, x3, lowO_ok]
          exact ⟨trivial, e2⟩
        · simp at h
      · simp at h
    · rename_i op hne
      have e := evalE_ok S (getO_ok S sl) hg low o.op
      have e2 := e.2 q h
      have e1 := e.1
      rw [h] at e1
      refine ⟨?_, e2⟩
      cases hop : o.op <;> first
        | (rw [hop] at e1; exact e1)
        | (exact absurd hop (hne _ _))

def ge (ext : List (Nat × Row)) : List (Nat × Row) := ext.map fun p => (p.1, S.r p.2)
theorem mask_ok (b : Nat) (ext : List (Nat × Row)) : maskE b (S.ge ext) = (maskE b ext).map S.r := by
  simp only [maskE, ge, List.map_map]
  apply List.map_congr_left
  intro p _
  simp only [Function.comp_def]
  split <;> rfl
theorem evalG_ok {call call' : CallF} (hc : S.CallSh call call') {rows : List Row} (hg : S.g ≤ rows.length) : ∀ (l : List (IOpx × Nat)) (j : Nat) (sl : List AV) (ext : List (Nat × Row)) (q : List AV × List (Nat × Row)), evalG call rows j l sl ext = some q → evalG call' (S.h rows) j (S.gl l) (sl.map S.v) (S.ge ext) = some (q.1.map S.v, S.ge q.2)
  | [], j, sl, ext, q, h => by
    simp only [evalG, Option.some.injEq] at h
    subst h
    rfl
  | (o, b) :: l, j, sl, ext, q, h => by
    simp only [evalG] at h
    simp only [gl, List.map_cons, evalG, mask_ok]
    have hgl : (S.ge ext).length = ext.length := by simp [ge]
    have hlen : (rows ++ maskE b ext).length = rows.length + ext.length := by simp [maskE]
    have e0 : S.h rows ++ (maskE b ext).map S.r = S.h (rows ++ maskE b ext) := (h_app hg).symm
    have e1 : (S.h rows).length + (S.ge ext).length = S.n (rows.length + ext.length) := by
      rw [h_len hg, hgl, S.n_ge hg, S.n_ge (by omega)]; omega
    rw [e0, e1]
    split at h
    · rename_i a rows' low' hop
      obtain ⟨r1, r2⟩ := opR_ok S hc (by omega) hop
      rw [r1]
      simp only [x3, S.n_inj]
      split at h
      · rename_i hl
        rw [if_pos hl]
        have e2 : (S.h rows').drop (S.n (rows.length + ext.length)) = (rows'.drop (rows.length + ext.length)).map S.r := h_drop S (by omega) (by simp only at r2; omega)
        rw [e2]
        have := evalG_ok hc hg l (j + 1) _ _ q h
        simp only [gl, put_ok, ge, List.map_append, List.map_map, Function.comp_def] at this ⊢
        simpa [Sh.x, put_ok, Function.comp_def] using this
      · simp at h
    · simp at h

theorem rowV_ok {rows : List Row} (hg : S.g ≤ rows.length) (sl : List AV) (l : List (IOpx × Nat)) : ∀ (k : Nat) (y : Opd), rowV (S.h rows) (sl.map S.v) (S.gl l) k (S.o y) = S.v (rowV rows sl l k y)
  | 0, y => by simp only [rowV, getO_ok]
  | k + 1, .c y => rfl
  | k + 1, .t t => by
    have ih := rowV_ok hg sl l k
    have hf : (S.gl l).find? (fun o => o.1.dst == some t) = (l.find? fun o => o.1.dst == some t).map fun p => (S.x p.1, p.2) := by
      simp only [gl, List.find?_map, Function.comp_def, Sh.x]
    show rowV (S.h rows) (sl.map S.v) (S.gl l) (k + 1) (.t t) = _
    simp only [rowV, hf]
    cases l.find? (fun o => o.1.dst == some t) with
    | none => exact getO_ok S sl (.t t)
    | some p =>
      obtain ⟨o, b⟩ := p
      simp only [Option.map_some, Sh.x]
      cases o.op <;> simp only [i] <;> try exact any_ok S
      · exact ih _
      · rw [ih]
        cases rowV rows sl l k _ <;> simp only [v] <;> try exact any_ok S
        rename_i id off
        rw [h_row? hg]
        cases row? rows id with
        | none => simp [v]
        | some vs =>
          simp only [Option.map_some, Option.bind_some, List.getElem?_map]
          cases vs[off]? <;> simp [v]
      · exact ih _
      · rw [ih]; cases rowV rows sl l k _ <;> rfl
      · exact ih _
      · rw [ih]; cases rowV rows sl l k _ <;> rfl
theorem rowOf_ok {rows : List Row} (hg : S.g ≤ rows.length) (sl : List AV) (l : List (IOpx × Nat)) (y : Opd) : rowOf (S.h rows) (sl.map S.v) (S.gl l) (S.o y) = S.n (rowOf rows sl l y) := by
  unfold rowOf
  rw [show (S.gl l).length = l.length from by simp [gl], rowV_ok S hg]
  cases rowV rows sl l l.length y <;> first | exact h_len hg | rfl
theorem stored_ok {rows : List Row} (hg : S.g ≤ rows.length) (sl : List AV) (R : Nat) (a y : Opd) (k : Option Nat) : stored (sl.map S.v) (S.h rows) (S.n R) (S.o a) (S.o y) k = (stored sl rows R a y k).map S.r := by
  unfold stored
  rw [getO_ok]
  cases getO sl a <;> try rfl
  rename_i id off
  simp only [v, S.n_inj, h_get hg]
  split
  · cases rows[id]? with
    | none => rfl
    | some w =>
      cases w <;> try rfl
      rename_i vs
      simp only [Option.map_some, r]
      cases k with
      | none =>
        simp only [getO_ok, one, List.length_map]
        split
        · simp [r]
        · rfl
      | some m =>
        simp only [getO_ok]
        cases getO sl y <;> try rfl
        rename_i ll
        simp only [v, vL_map, List.length_map, all_one]
        split
        · simp [r, splice_ok]
        · rfl
  · rfl
end Sh
end Go.Abs
namespace Go.Abs
namespace Sh
variable (S : Sh) {F : Nat → Option IFn}
def f (fn : IFn) : IFn := ⟨fn.ns, fn.res, S.c fn.body⟩
def F' (F : Nat → Option IFn) : Nat → Option IFn := fun k => (F k).map S.f
theorem pop_ok (id : Nat) : ∀ k : List Itm, popTo id (k.map S.t) = (popTo id k).map (·.map S.t)
  | [] => rfl
  | .inBlock j :: k => by
    simp only [List.map_cons, t, popTo]
    split
    · rfl
    · exact pop_ok id k
  | .code _ :: k => by simp only [List.map_cons, t, popTo]; exact pop_ok id k
  | .inLoop _ :: k => by simp only [List.map_cons, t, popTo]; exact pop_ok id k
  | .inScope _ :: k => by simp only [List.map_cons, t, popTo]; exact pop_ok id k
  | .ops _ :: k => by simp only [List.map_cons, t, popTo]; exact pop_ok id k
  | .rfBegin :: k => by simp only [List.map_cons, t, popTo]; exact pop_ok id k
theorem yield_ok (sl : List AV) (o : IOpx) : yieldOf (sl.map S.v) (S.x o) = (yieldOf sl o).map fun p => (S.n p.1, p.2.map S.v) := by
  obtain ⟨d, op, gd⟩ := o
  cases op <;> try rfl
  rename_i fo args
  simp only [yieldOf, Sh.x, i, getO_ok, want_ok, map_ok S (getO_ok S sl)]
  cases getO sl fo <;> simp only [v] <;> first
    | (cases want sl gd with
       | none => rfl
       | some b => cases b <;> rfl)
theorem putL_ok (ps : List Nat) : ∀ (sl vs : List AV), putL (sl.map S.v) ps (vs.map S.v) = (putL sl ps vs).map S.v := by
  unfold putL
  induction ps with
  | nil => intro sl vs; simp
  | cons p ps ih =>
    intro sl vs
    cases vs with
    | nil => simp
    | cons a vs =>
      simp only [List.map_cons, List.zip_cons_cons, List.foldl_cons]
      rw [← List.map_set]
      exact ih _ _
theorem rfOk_ok {rows : List Row} (hg : S.g ≤ rows.length) (cx : Ctx) : rfOk (S.cx cx) (S.h rows) = rfOk cx rows := by
  cases cx with
  | fn res => rfl
  | round id =>
    simp only [rfOk, Sh.cx, h_get hg]
    cases rows[id]? with
    | none => rfl
    | some y => cases y <;> rfl
theorem kill_ok : ∀ (l : List Nat) (sl : List AV), killS (sl.map S.v) l = (killS sl l).map S.v
  | [], sl => rfl
  | d :: l, sl => by
    simp only [killS]
    rw [← kill_ok l, List.map_set, any_ok]
theorem init_ok (fn : IFn) (vs : List AV) {rows : List Row} (hg : S.g ≤ rows.length) : init (S.f fn) (vs.map S.v) (S.h rows) = ⟨(init fn vs rows).sl.map S.v, S.h rows, S.n rows.length⟩ := by
  simp [init, f, any_ok, h_len hg]
theorem jump_ok (j : Option Jump) : (jumpI j).map S.t = jumpI j := by
  cases j with
  | none => rfl
  | some j => cases j <;> rfl
variable (hX : ∀ y ∈ S.X, y.under (S.g + S.X.length) = true)
include hX in
theorem after_ok {b low : Nat} {rows : List Row} {d : Option Nat} (h1 : S.g ≤ b) (h2 : b ≤ rows.length) {q : List Itm × List Row × Nat} (h : afterLoop b low rows d = some q) : afterLoop (S.n b) (S.n low) (S.h rows) (d.map S.n) = some (q.1.map S.t, S.h q.2.1, S.n q.2.2) ∧ b ≤ q.2.1.length := by
  unfold afterLoop at h ⊢
  rw [h_get (by omega)]
  split at h
  · rename_i hr
    rw [hr]
    simp only [Option.map_some, r]
    split at h
    · simp at h
    · rename_i hb
      rw [if_neg hb]
      injection h with h
      subst h
      have e : (S.h rows).set (S.n b) .dead = S.h (rows.set b .dead) := h_set (S := S) (by omega) b .dead
      have := gc_ok S hX (b := b) (low := lowO low d) (a := .tup []) (rows := rows.set b .dead) h1 (by simpa using h2)
      rw [tup0] at this
      rw [e, lowO_ok, this.1]
      exact ⟨by simp only [jump_ok], this.2⟩
  · simp at h
include hX in
theorem call_ok {n : Nat} (ih : ∀ (cx : Ctx) (k : List Itm) (s : St) (q : AV × List Row × Nat), exec F n cx k s = some q → S.g ≤ s.rows.length → exec (S.F' F) n (S.cx cx) (k.map S.t) ⟨s.sl.map S.v, S.h s.rows, S.n s.low⟩ = some (S.x3 q) ∧ s.rows.length ≤ q.2.1.length) : S.CallSh (callBy F (exec F n)) (callBy (S.F' F) (exec (S.F' F) n)) := by
  intro fid vs rows q h hg
  unfold callBy at h ⊢
  unfold Sh.F'
  split at h
  · rename_i fn hfn
    rw [hfn]
    simp only [Option.map_some]
    unfold callR at h
    split at h
    · rename_i a rows' low' hx
      obtain ⟨e1, e2⟩ := ih _ _ _ _ hx (by simpa [init] using hg)
      injection h with h
      subst h
      have e3 := fin_ok S hX (low := low') (a := a) hg (by simpa [init] using e2)
      refine ⟨?_, e3.2⟩
      rw [init_ok S fn vs hg]
      have e4 : exec (S.F' F) n (.fn (S.f fn).res) [.code (S.f fn).body] ⟨(init fn vs rows).sl.map S.v, S.h rows, S.n rows.length⟩ = some (S.x3 (a, rows', low')) := e1
      unfold Sh.F' at e4
      rw [e4]
      simp only [callR, x3, e3.1]
    · simp at h
  · simp at h

include hX in
theorem exec_ok : ∀ (n : Nat) (cx : Ctx) (k : List Itm) (s : St) (q : AV × List Row × Nat), exec F n cx k s = some q → S.g ≤ s.rows.length → exec (S.F' F) n (S.cx cx) (k.map S.t) ⟨s.sl.map S.v, S.h s.rows, S.n s.low⟩ = some (S.x3 q) ∧ s.rows.length ≤ q.2.1.length := by
  intro n
  induction n with
  | zero => intro cx k s q h; simp [exec] at h
  | succ n ih =>
    intro cx k s q h hg
    have hc := call_ok S hX ih
    obtain ⟨sl, rows, low⟩ := s
    replace hg : S.g ≤ rows.length := hg
    cases k with
    | nil =>
      rw [exec] at h
      rw [List.map_nil, exec]
      exact leave_ok S hg h
    | cons y k =>
      rw [List.map_cons]
      cases y with
      | inBlock id => rw [exec] at h; rw [t, exec]; exact ih _ _ _ _ h hg
      | inScope c => rw [exec] at h; rw [t, exec]; exact ih _ _ _ _ h hg
      | inLoop c => rw [exec, St.force_eq] at h; rw [t, exec, St.force_eq]; exact ih _ _ _ _ h hg
      | rfBegin =>
        cases cx with
        | fn res => simp [exec] at h
        | round id =>
          rw [exec] at h
          rw [t, Sh.cx, exec]
          simp only [h_get hg] at h ⊢
          cases hr : rows[id]? with
          | none => simp [hr] at h
          | some w =>
            simp only [hr] at h
            cases w <;> try (simp at h; done)
            rename_i st pend sl1 ps asg body
            cases st <;> try (simp at h; done)
            simp only at h
            obtain ⟨e1, e2⟩ := ih _ _ _ _ h (by simpa using hg)
            refine ⟨?_, by simpa using e2⟩
            simp only [Option.map_some, r, lower_ok]
            rw [← h_set hg] at e1
            exact e1
      | ops l =>
        cases l with
        | nil => rw [exec] at h; rw [t, List.map_nil, exec]; exact ih _ _ _ _ h hg
        | cons sg l =>
          cases sg with
          | one o =>
            rw [exec] at h
            rw [t, List.map_cons, s, exec]
            simp only [yield_ok] at h ⊢
            cases hy : yieldOf sl o with
            | some p =>
              obtain ⟨id, vs⟩ := p
              rw [hy] at h
              simp only [Option.map_some, h_get hg] at h ⊢
              cases hr : rows[id]? with
              | none => rw [hr] at h; simp at h
              | some w =>
                rw [hr] at h
                cases w <;> try (simp at h; done)
                rename_i st pend sl1 ps asg body
                simp only [Option.map_some, r, List.length_map] at h ⊢
                split at h
                · rename_i hl
                  rw [if_pos hl]
                  split at h
                  · rename_i a rows' low' hx
                    obtain ⟨e1, e2⟩ := ih _ _ _ _ hx hg
                    simp only at e2
                    have e3 := gc_ok S hX (b := rows.length) (low := lower low low') (a := a) (rows := rows') hg e2
                    obtain ⟨e4, e5⟩ := ih _ _ _ _ h (by simp only; omega)
                    simp only at e4 e5
                    refine ⟨?_, by omega⟩
                    have e6 : exec (S.F' F) n (.round (S.n id)) [.code (S.c asg), .rfBegin, .code (S.c body)] ⟨putL (sl1.map S.v) ps (vs.map S.v), S.h rows, (S.h rows).length⟩ = some (S.x3 (a, rows', low')) := by
                      rw [putL_ok, h_len hg]
                      exact e1
                    rw [e6]
                    simp only [x3, h_len hg, lower_ok, e3.1, put_ok]
                    exact e4
                  · simp at h
                · simp at h
            | none =>
              rw [hy] at h
              simp only [Option.map_none] at h ⊢
              split at h
              · rename_i a rows' low' hop
                obtain ⟨e1, e2⟩ := opR_ok S hc hg hop
                rw [e1]
                simp only [x3] at e2 ⊢
                obtain ⟨e4, e5⟩ := ih _ _ _ _ h (by simp only; omega)
                simp only at e4 e5
                refine ⟨?_, by omega⟩
                rw [show (S.x o).dst = o.dst from rfl, put_ok]
                exact e4
              · simp at h
          | grp g =>
            rw [exec] at h
            rw [t, List.map_cons, s, exec]
            simp only at h ⊢
            split at h
            · rename_i sl' ext hop
              have e1 := evalG_ok S hc hg _ _ _ _ _ hop
              rw [show S.ge [] = [] from rfl] at e1
              rw [e1]
              obtain ⟨e4, e5⟩ := ih _ _ _ _ h (by simp; omega)
              simp only at e4 e5
              refine ⟨?_, by simp at e5; omega⟩
              rw [h_app hg, List.map_map] at e4
              simp only [ge, List.map_map]
              exact e4
            · simp at h
          | grpw a w z g =>
            rw [exec] at h
            rw [t, List.map_cons, s, exec]
            simp only [rowOf_ok S hg] at h ⊢
            have e0 : (S.h rows).set (S.n (rowOf rows sl g a)) .dead = S.h (rows.set (rowOf rows sl g a) .dead) := h_set (S := S) hg _ .dead
            rw [e0]
            split at h
            · rename_i sl' ext hop
              have e1 := evalG_ok S hc (by simpa using hg) _ _ _ _ _ hop
              rw [show S.ge [] = [] from rfl] at e1
              rw [e1]
              simp only [stored_ok S hg]
              split at h
              · rename_i r' hr
                rw [hr]
                simp only [Option.map_some]
                obtain ⟨e4, e5⟩ := ih _ _ _ _ h (by simp; omega)
                simp only at e4 e5
                refine ⟨?_, by simp at e5; omega⟩
                rw [h_app (by simpa using hg), ← h_set hg, List.map_map] at e4
                simp only [ge, List.map_map, lower_ok]
                exact e4
              · simp at h
            · simp at h
          | stop => simp [exec] at h
      | code cc =>
        rw [t]
        cases cc with
        | skip => rw [exec] at h; rw [c, exec]; exact ih _ _ _ _ h hg
        | ret => rw [exec] at h; rw [c, exec]; exact leave_ok S hg h
        | exit id =>
          rw [exec] at h
          rw [c, exec]
          simp only [pop_ok] at h ⊢
          cases hp : popTo id k with
          | some k' => rw [hp] at h; simp only [Option.map_some] at h ⊢; exact ih _ _ _ _ h hg
          | none => rw [hp] at h; simp only [Option.map_none] at h ⊢; exact leave_ok S hg h
        | seq a b => rw [exec] at h; rw [c, exec]; exact ih _ _ _ _ h hg
        | cond y a b =>
          rw [exec] at h
          rw [c, exec]
          simp only [getO_ok] at h ⊢
          cases hy : getO sl y <;> rw [hy] at h <;> try (simp at h; done)
          rename_i tt
          simp only [v] at h ⊢
          have e := ih _ _ _ _ h hg
          cases tt <;> exact e
        | block id a => rw [exec] at h; rw [c, exec]; exact ih _ _ _ _ h hg
        | loop a => rw [exec] at h; rw [c, exec]; exact ih _ _ _ _ h hg
        | scope a => rw [exec] at h; rw [c, exec]; exact ih _ _ _ _ h hg
        | ops l => simp only [exec, St.forceS_eq] at h; simp only [c, exec, St.forceS_eq]; exact ih _ _ _ _ h hg
        | rf fo ps a b =>
          rw [exec] at h
          rw [c, exec]
          simp only [rfOk_ok S hg] at h ⊢
          split at h
          · rename_i hok
            rw [if_pos hok]
            split at h
            · rename_i fid vs ht
              have e0 : target (getO (sl.map S.v) (S.o fo)) [.yield (S.h rows).length] = some (fid, vs.map S.v) := by
                have := target_ok S (getO sl fo) [.yield rows.length]
                rw [ht] at this
                rw [getO_ok, h_len hg]
                exact this
              rw [e0]
              simp only
              split at h
              · rename_i a' rows' d hop
                obtain ⟨e1, e2⟩ := hc _ _ _ _ hop (by simp; omega)
                rw [h_app hg] at e1
                have e1' : callBy (S.F' F) (exec (S.F' F) n) fid (vs.map S.v) (S.h rows ++ [.loop .ready none (sl.map S.v) ps (c S a) (c S b)]) = some (S.x3o (a', rows', d)) := e1
                rw [e1']
                simp only [x3o]
                split at h
                · rename_i k0 rows2 low2 ha
                  simp at e2
                  obtain ⟨e3, e4⟩ := after_ok S hX hg (by omega) ha
                  rw [h_len hg, e3]
                  simp only
                  obtain ⟨e5, e6⟩ := ih _ _ _ _ h (by simp only at e4 ⊢; omega)
                  simp only at e4 e5 e6
                  refine ⟨?_, by omega⟩
                  rw [List.map_append] at e5
                  exact e5
                · simp at h
              · simp at h
            · simp at h
          · simp at h
        | kill l a =>
          rw [exec] at h
          rw [c, exec]
          obtain ⟨e1, e2⟩ := ih _ _ _ _ h hg
          refine ⟨?_, e2⟩
          simp only [kill_ok]
          exact e1
        | stop => simp [exec] at h

include hX in
/-- A call at a heap with more rows. -/
theorem ret_ok (hF : S.F' F = F) {fid : Nat} {vs : List AV} {rows : List Row} {q : AV × List Row × Option Nat} (hg : S.g ≤ rows.length) (h : Ret F fid vs rows = some q) : Ret F fid (vs.map S.v) (S.h rows) = some (S.x3o q) := by
  obtain ⟨n, hn⟩ := Ret_iff.1 h
  obtain ⟨e1, _⟩ := call_ok S hX (exec_ok S hX n) _ _ _ _ hn hg
  rw [hF] at e1
  exact Ret_of (n := n) e1
end Sh
end Go.Abs

set_option linter.unusedVariables false
set_option linter.unusedSimpArgs false
namespace Go.Abs
def shX (X : List Row) : Sh := ⟨2, X⟩
set_option maxRecDepth 100000 in
theorem tab_sh (X : List Row) : tabF.map (fun p => (p.1, (shX X).f p.2)) = tabF := by kernel_rfl
theorem lookup_map {α : Type} (g : α → α) (k : Nat) : ∀ l : List (Nat × α), (l.map fun p => (p.1, g p.2)).lookup k = (l.lookup k).map g
  | [] => rfl
  | (a, b) :: l => by
    simp only [List.map_cons, List.lookup_cons]
    split
    · rfl
    · exact lookup_map g k l
theorem F_sh (X : List Row) : (shX X).F' F = F := by
  funext k
  unfold Sh.F' F
  rw [← lookup_map, tab_sh]
/-- awake is true. -/
theorem awake_any {X : List Row} (hX : X.all (Row.under (2 + X.length)) = true) : Ret F 22 [] (gRows ++ X) = some (.bool true, gRows ++ X, none) := by
  have h := Sh.ret_ok (shX X) (fun y hy => List.all_eq_true.1 hX y hy) (F_sh X) (rows := gRows) (Nat.le_refl 2) awake_g
  have e1 : (shX X).h gRows = gRows ++ X := by
    have e : ∀ l : List Int, (nums .u8 l).map (shX X).v = nums .u8 l := fun l => by simp [nums, Sh.v, Function.comp_def]
    simp [Sh.h, shX, gRows]
    simp [Sh.r]
    exact ⟨e _, e _⟩
  rw [e1] at h
  simpa [Sh.x3o, e1, Sh.v] using h
end Go.Abs

set_option linter.unusedVariables false
set_option linter.unusedSimpArgs false
set_option maxRecDepth 10000
namespace Go.Abs
open Go.Proofs Go.RowKit Go.ChangeShapes Go.WideShapes Go.ChangeAt Go.WideElems
/-- A slice that was handed in: where it lies, its length and capacity, its numbers. -/
structure ArgS where
  b : Nat
  o : Nat
  len : Nat
  cap : Nat
  zs : List Int
def ArgS.ok (W : World) (a : ArgS) : Prop := a.len ≤ a.cap ∧ a.cap ≤ maxLen ∧ a.zs.length = a.cap ∧ (∀ (i : Nat) (x : Int), a.zs[i]? = some x → W.cell? ⟨a.b, a.o + i, none⟩ = some (.int .i64 x)) ∧ a.b < W.heap.size
def argOK (W : World) : Option ArgS → Prop
  | none => True
  | some a => a.ok W
def argRow : Option ArgS → Row
  | none => .dead
  | some a => .ro (nums .i64 a.zs)
def argAV (k : Nat) : Option ArgS → AV
  | none => .nilslice
  | some a => .slice k 0 a.len (.at_ a.cap)
def argVal : Option ArgS → Value
  | none => .slice none 0 0
  | some a => .slice (some ⟨a.b, a.o, none⟩) a.len a.cap
def argList : Option ArgS → List Int
  | none => []
  | some a => a.zs.take a.len
def argLoc : Option ArgS → Option Loc
  | none => none
  | some a => some ⟨a.b, a.o, 0⟩
def aRows (l : List (Option ArgS)) : List Row := gRows ++ l.map argRow
def aTh (l : List (Option ArgS)) : Th := fun id => if id < 2 then gTh id else (l[id - 2]?).bind argLoc

/-- The numbers that are read, as a datum. -/
def argD {H : Type} (d : DataW H) : Option ArgS → Prop
  | none => True
  | some a => ∃ es sp, d = .slice es sp ∧ es.length + sp.length = a.zs.length
def argSmall : Option ArgS → Prop
  | none => True
  | some a => a.zs.length ≤ 17592186044416
theorem slice_arg {P : Program} {W : World} {H : Type} {enc : TypeId × Value → H} {base : Nat} {spare held : _} {fuel : Nat} {t e : TypeId} {v : Value} {x : _} {b0 : Nat} (ht : P.underlying t = some (.slice e)) (he : P.underlying e = some (.int .i64)) (hc : P.cellsOf e = 1) (hv : Value.okWide P W .any b0 t v)
    (hs : ∀ b, spare b = true) (h : DataW.trod enc P W base spare held fuel t [v] = some x) : ∃ a : Option ArgS, v = argVal a ∧ argOK W a ∧ argD x.1 a := by
  obtain ⟨ad, len, cap, rfl⟩ := okWide_slice ht hv
  rcases open_ints ht he hc h with ⟨hcs, _⟩ | ⟨y, l, c, zs, hcs, _, hl, hm, hz, hxx, hcell, _⟩
  · simp at hcs
    obtain ⟨rfl, rfl, rfl⟩ := hcs
    exact ⟨none, rfl, trivial, trivial⟩
  · simp at hcs
    obtain ⟨rfl, rfl, rfl⟩ := hcs
    rw [hs, if_pos rfl] at hz
    have hsp : y.spot = none ∧ y.block < W.heap.size := by
      simp only [Value.okWide, ht, Cell.okWide, Cell.ok] at hv
      obtain ⟨_, _, _, hsp, row, cells, hsh, _⟩ := hv
      refine ⟨hsp, ?_⟩
      unfold World.shape? at hsh
      by_cases hlt : y.block < W.heap.size
      · exact hlt
      · rw [show W.heap[y.block]? = none from Array.getElem?_eq_none (by omega)] at hsh
        simp at hsh
    obtain ⟨b, o, sp⟩ := y
    obtain ⟨rfl, hb⟩ := hsp
    refine ⟨some ⟨b, o, len, cap, zs⟩, rfl, ⟨hl, hm, hz, ?_, hb⟩, ⟨_, _, by rw [hxx], by simp [lits]; omega⟩⟩
    intro i n hn
    have hi : i < zs.length := (List.getElem?_eq_some_iff.1 hn).1
    have := hcell i hi
    have e1 : (⟨b, o, none⟩ : Addr).add i = ⟨b, o + i, none⟩ := by
      unfold Addr.add
      split
      · rename_i h0; subst h0; rfl
      · rfl
    rw [e1] at this
    rw [this, List.getD_eq_getElem?_getD, hn]
    rfl

theorem aHRel {κ : KRel} {W : World} {l : List (Option ArgS)} (h : laidMetH Tryd.prog laidL W) (hl : ∀ a ∈ l, argOK W a) : HRel κ (aTh l) (aRows l) W := by
  have hg := gHRel (κ := κ) h
  have hge : ∀ id L, 2 ≤ id → aTh l id = some L → ∃ a, l[id - 2]? = some (some a) ∧ L = ⟨a.b, a.o, 0⟩ := by
    intro id L h2 e
    unfold aTh at e
    rw [if_neg (by omega)] at e
    cases hx : l[id - 2]? with
    | none => rw [hx] at e; simp at e
    | some y =>
      rw [hx] at e
      cases y with
      | none => simp [argLoc] at e
      | some a => simp [argLoc] at e; exact ⟨a, rfl, e.symm⟩
  refine ⟨?_, ?_, ?_, ?_⟩
  · intro id L e
    simp only [aRows, gRows, List.length_append, List.length_cons, List.length_nil, List.length_map]
    by_cases h2 : id < 2
    · omega
    · obtain ⟨a, ha, _⟩ := hge id L (by omega) e
      have := (List.getElem?_eq_some_iff.1 ha).1
      omega
  · intro id L e
    by_cases h2 : id < 2
    · unfold aTh at e
      rw [if_pos h2] at e
      exact hg.blk id L e
    · obtain ⟨a, ha, rfl⟩ := hge id L (by omega) e
      exact (hl _ (List.mem_of_getElem? ha)).2.2.2.2
  · intro id r e
    by_cases h2 : id < 2
    · have e2 : gRows[id]? = some r := by
        unfold aRows at e
        rwa [List.getElem?_append_left (by simp [gRows]; omega)] at e
      have := hg.row id r e2
      have ht : aTh l id = gTh id := by unfold aTh; rw [if_pos h2]
      match id, h2 with
      | 0, _ =>
        injection e2 with e2; subst e2
        obtain ⟨L, hL, hc⟩ := this
        refine ⟨L, ht.trans hL, fun j x hx => ?_⟩
        rw [nums_get] at hx
        obtain ⟨n, hn, rfl⟩ := Option.map_eq_some_iff.1 hx
        obtain ⟨x', h1, h3, h4⟩ := hc j (.int .u8 n) (by rw [nums_get, hn]; rfl)
        cases h3
        exact ⟨_, h1, .int _ _, h4⟩
      | 1, _ =>
        injection e2 with e2; subst e2
        obtain ⟨L, hL, hc⟩ := this
        refine ⟨L, ht.trans hL, fun j x hx => ?_⟩
        rw [nums_get] at hx
        obtain ⟨n, hn, rfl⟩ := Option.map_eq_some_iff.1 hx
        obtain ⟨x', h1, h3, h4⟩ := hc j (.int .u8 n) (by rw [nums_get, hn]; rfl)
        cases h3
        exact ⟨_, h1, .int _ _, h4⟩
    · unfold aRows at e
      rw [List.getElem?_append_right (by simp [gRows]; omega), show gRows.length = 2 from rfl, List.getElem?_map] at e
      obtain ⟨y, hy, rfl⟩ := Option.map_eq_some_iff.1 e
      cases y with
      | none => trivial
      | some a =>
        refine ⟨⟨a.b, a.o, 0⟩, ?_, fun j x hx => ?_⟩
        · unfold aTh
          rw [if_neg (by omega), hy]
          rfl
        · rw [nums_get] at hx
          obtain ⟨n, hn, rfl⟩ := Option.map_eq_some_iff.1 hx
          exact ⟨_, (hl _ (List.mem_of_getElem? hy)).2.2.2.1 j n hn, .int _ _, rfl⟩
  · intro i j r s L L' hij hr ho
    exfalso
    have hm := List.mem_of_getElem? hr
    unfold aRows at hm
    rw [List.mem_append] at hm
    rcases hm with hm | hm
    · simp [gRows] at hm
      rcases hm with rfl | rfl <;> simp [Row.owned] at ho
    · obtain ⟨y, _, rfl⟩ := List.mem_map.1 hm
      cases y <;> simp [argRow, Row.owned] at ho
theorem aGRel {l : List (Option ArgS)} : GRel (aTh l) [0, 1] := by
  intro i g e
  match i, e with
  | 0, e => injection e with e; subst e; exact ⟨⟨0, 0, 0⟩, rfl, rfl, rfl⟩
  | 1, e => injection e with e; subst e; exact ⟨⟨1, 0, 0⟩, rfl, rfl, rfl⟩
  | n + 2, e => simp at e
theorem aV {l : List (Option ArgS)} {W : World} {k : Nat} {a : Option ArgS} (ha : l[k]? = some a) (hok : argOK W a) : V (aTh l) (argAV (2 + k) a) (argVal a) := by
  cases a with
  | none => exact .nilslice
  | some a =>
    have e : aTh l (2 + k) = some ⟨a.b, a.o, 0⟩ := by
      unfold aTh
      rw [if_neg (by omega), show 2 + k - 2 = k from by omega, ha]
      rfl
    exact .sliceAt e (fun _ => rfl) hok.1
theorem aIsL {l : List (Option ArgS)} {W : World} {k : Nat} {a : Option ArgS} (ha : l[k]? = some a) (hok : argOK W a) (hsm : argSmall a) : IsL (aRows l) (argAV (2 + k) a) (argList a) ∧ (argList a).length < 4611686018427387904 := by
  cases a with
  | none => exact ⟨IsL_nil, by simp [argList]⟩
  | some a =>
    obtain ⟨h1, h2, h3, _⟩ := hok
    have hr : row? (aRows l) (2 + k) = some (nums .i64 a.zs) := by
      unfold row? aRows
      rw [List.getElem?_append_right (by simp [gRows]), show 2 + k - gRows.length = k from by simp [gRows], List.getElem?_map, ha]
      rfl
    have hlen : (a.zs.take a.len).length = a.len := by simp; omega
    refine ⟨?_, ?_⟩
    · have := IsL_mk (n := 0) (id := 2 + k) (off := 0) (c := .at_ a.cap) (l := a.zs.take a.len) hr (by
        rw [hlen, nums_seg, if_pos (by omega)]
        simp)
      rw [hlen] at this
      exact this
    · simp only [argList]
      rw [hlen]
      have : a.zs.length ≤ 17592186044416 := hsm
      omega
/-- awake, at a law's heap. -/
theorem awake_a (l : List (Option ArgS)) : ∀ H, H.all (Row.under 0) = true → Ret F 22 [] (aRows l ++ H) = some (.bool true, aRows l ++ H, none) := by
  intro H hH
  have := awake_any (X := l.map argRow ++ H) (by
    rw [List.all_eq_true]
    intro y hy
    refine Sh.runder_mono (Nat.zero_le _) ?_
    rw [List.mem_append] at hy
    rcases hy with hy | hy
    · obtain ⟨a, _, rfl⟩ := List.mem_map.1 hy
      cases a <;> simp [argRow, Row.under, AV.under, nums]
    · exact List.all_eq_true.1 hH y hy)
  simpa [aRows] using this
theorem small_arg {P : Program} {H : Type} {ts : List TypeId} {ds : List (DataW H)} (h : (DataW.weightsEach P ts ds).all (· ≤ reachBytes) = true) {j : Nat} {t e : TypeId} {d : DataW H} (ht : ts[j]? = some t) (hd : ds[j]? = some d) (hu : P.underlying t = some (.slice e)) (hb : P.bytesOf e = 8) {a : Option ArgS} (ha : argD d a) : argSmall a := by
  cases a with
  | none => trivial
  | some a =>
    obtain ⟨es, sp, rfl, hl⟩ := ha
    have := sized_slice h ht hd hu
    rw [hb, hl] at this
    have h2 : reachBytes = 140737488351232 - 4096 + 0 ∨ reachBytes ≤ 140737488355328 := by right; decide
    show a.zs.length ≤ 17592186044416
    rcases h2 with h2 | h2 <;> omega
end Go.Abs

set_option linter.unusedVariables false
set_option linter.unusedSimpArgs false
namespace Go.Abs
/-- The rows behind an append. -/
def appH (c : Cap) (H : List Row) (kd : IntKind) (l : List Int) (x : Int) : List Row :=
  match c with
  | .at_ _ => H ++ [.cells (nums kd l), .cells [.int kd x]]
  | .op _ => H ++ [.dead, .cells [.int kd x]]
@[simp] theorem appH_len {c : Cap} {H : List Row} {kd : IntKind} {l : List Int} {x : Int} : (appH c H kd l x).length = H.length + 2 := by cases c <;> simp [appH]
theorem app_own {rows H : List Row} {kd : IntKind} {l : List Int} {x : Int} {c : Cap} {low b n m : Nat} (hn : n = l.length) (hm : m = 1) (hc : c = .at_ l.length ∨ c = .op 1) (hlow : low ≤ rows.length) (hl : l.length < 1000000000) :
    evE (rows ++ (H ++ [.cells (nums kd l), .cells [.int kd x]])) low (.app 1 b (.c (.slice (rows.length + H.length) 0 n c)) (.c (.slice (rows.length + (H.length + 1)) 0 m (.at_ m)))) =
      some (.slice (rows.length + (H.length + 2)) 0 (l.length + 1) (.op 1), rows ++ (appH c H kd l x ++ [.cells (nums kd (l ++ [x]))]), low) := by
  subst hn hm
  have e1 : row? (rows ++ (H ++ [.cells (nums kd l), .cells [.int kd x]])) (rows.length + (H.length + 1)) = some [.int kd x] := by
    unfold row?; simp
  have e2 : row? (rows ++ (H ++ [.cells (nums kd l), .cells [.int kd x]])) (rows.length + H.length) = some (nums kd l) := by
    unfold row?; simp
  have e3 : (rows ++ (H ++ [.cells (nums kd l), .cells [.int kd x]]))[rows.length + H.length]? = some (.cells (nums kd l)) := by simp
  have s1 : seg (nums kd l) 0 (l.length * 1) = some (nums kd l) := by rw [Nat.mul_one]; exact nums_all rfl
  have hx : elems (rows ++ (H ++ [.cells (nums kd l), .cells [.int kd x]])) 1 (.slice (rows.length + (H.length + 1)) 0 1 (.at_ 1)) = some ([.int kd x], 1) := by
    unfold elems
    simp only [e1]
    rfl
  have hlw : lower low (rows.length + H.length) = low := lower_ge (by omega)
  have a1 : nums kd l ++ [.int kd x] = nums kd (l ++ [x]) := by simp [nums]
  rcases hc with rfl | rfl
  · simp only [evE, evalE, getO, hx]
    rw [if_neg (by omega), if_neg (by simp [lim])]
    rw [if_neg (by simp [lim]; omega), if_neg (by omega)]
    simp only [e2, s1, a1]
    simp [appH]
  · simp only [evE, evalE, getO, hx]
    rw [if_neg (by omega), if_neg (by simp [lim])]
    rw [if_neg (by simp [lim]; omega)]
    simp only [e3, s1, a1, hlw]
    simp [appH]

def conv (l : List Int) (k : Nat) : Nat → Int
  | 0 => 0
  | j + 1 => conv l k j + gI l j * gI l (k - 1 - j)
section
variable {rows : List Row}
end
end Go.Abs

set_option linter.unusedVariables false
set_option linter.unusedSimpArgs false
namespace Go.Abs
section
variable {rows : List Row}
end

/-- What 'read' is given: 'each' in the heap, and what it does. -/
structure Rd (τ σ : Type) where
  R0 : List Row
  E : σ → List Row
  eN : Nat
  nb : Nat
  lo : Nat
  own : σ → List Nat
  fid : Nat
  cs : List AV
  st : τ → Int → Int → Int → τ
  P : τ → σ → List Row → Prop
  B : τ → Nat → Prop
variable {τ σ : Type}
namespace Rd
variable (D : Rd τ σ)
def A : Nat := D.R0.length + D.eN
def Q (pv w : AV) : List Row := [.cells [pv], .cells w.cells, .cells [.func D.fid D.cs], .cells [.func 89 [.ptr D.A 0, .ptr (D.A + 2) 0, .ptr (D.A + 3) 0]]]
def H (s : σ) (pv w : AV) (G : List Row) : List Row := (D.R0 ++ D.E s) ++ (D.Q pv w ++ G)
/-- What stays as it is: the rows behind that nobody owns. -/
def Fr (s : σ) (h : List Row) (s' : σ) (h' : List Row) : Prop := h.length ≤ h'.length ∧ (∀ i, i < h.length → D.A + 4 ≤ i → i ∉ D.own s → h'[i]? = h[i]?) ∧ ∀ i, i ∈ D.own s' → i ∈ D.own s ∨ h.length ≤ i
variable {D}
/-- A slice's capacity is right. -/
def Cp (sz : Nat) : AV → Prop
  | .slice _ _ n (.at_ c) => n ≤ c
  | .slice _ _ _ (.op s) => s = sz
  | _ => True
theorem IsL_tail {rows : List Row} {v : AV} {x : Int} {l : List Int} (h : IsL rows v (x :: l)) (hc : Cp 1 v) : ∃ v', sliceV 1 v (some (.int .i64 1)) none none = some v' ∧ IsL rows v' l ∧ Cp 1 v' := by
  rcases El_cases h with ⟨_, _, h0⟩ | ⟨id, off, c, vs, rfl, hr, hs⟩
  · simp at h0
  · have hl := seg_len hs
    simp only [List.length_cons, Nat.mul_one] at hl
    have hs' : seg vs (off + 1) l.length = some (nums .i64 l) := by
      rw [seg_seg (m := l.length) hs (by simp; omega)]
      unfold seg
      rw [if_pos (by simp; omega)]
      simp [nums, List.take_of_length_le]
    cases c with
    | at_ k =>
      simp only [Cp, List.length_cons] at hc
      have e : sliceV 1 (.slice id off (l.length + 1) (.at_ k)) (some (.int .i64 1)) none none = some (.slice id (if k = 1 then off else off + 1) l.length (.at_ (k - 1))) := by
        simp only [sliceV, bound?]
        rw [if_pos (by omega)]
        simp
      refine ⟨_, e, ?_, by simp only [Cp]; omega⟩
      by_cases hk : k = 1
      · subst hk
        have : l = [] := by
          cases l with
          | nil => rfl
          | cons _ _ => simp at hc
        subst this
        rw [if_pos rfl]
        exact IsL_mk (n := 0) hr (by unfold seg; rw [if_pos (by simp; omega)]; simp [nums])
      · rw [if_neg hk]
        exact IsL_mk (n := 0) hr hs'
    | op sz =>
      simp only [Cp] at hc
      subst hc
      have e : sliceV 1 (.slice id off (l.length + 1) (.op 1)) (some (.int .i64 1)) none none = some (.slice id (off + 1) l.length (.op 1)) := by
        simp only [sliceV, bound?]
        rw [if_pos (by omega)]
        simp
      exact ⟨_, e, IsL_mk (n := 0) hr hs', rfl⟩

theorem Fr.refl {D : Rd τ σ} {s : σ} {h : List Row} : D.Fr s h s h := ⟨Nat.le_refl _, fun _ _ _ _ => rfl, fun _ h => .inl h⟩
theorem Fr.trans {D : Rd τ σ} {s s' s'' : σ} {h h' h'' : List Row} (a : D.Fr s h s' h') (b : D.Fr s' h' s'' h'') : D.Fr s h s'' h'' := by
  obtain ⟨a1, a2, a3⟩ := a
  obtain ⟨b1, b2, b3⟩ := b
  refine ⟨by omega, fun i h1 h2 h3 => ?_, fun i hi => ?_⟩
  · have : i ∉ D.own s' := fun e => by
      rcases a3 i e with e | e
      · exact h3 e
      · omega
    rw [b2 i (by omega) h2 this, a2 i h1 h2 h3]
  · rcases b3 i hi with e | e
    · rcases a3 i e with e | e
      · exact .inl e
      · exact .inr e
    · exact .inr (by omega)

theorem IsL_one {rows : List Row} {v : AV} {l : List Int} (h : IsL rows v l) : v.one = true := by
  rcases El_cases h with ⟨rfl, _, _⟩ | ⟨id, off, c, vs, rfl, _, _⟩ <;> rfl
theorem lowO_n {n : Nat} : lowO n none = n := rfl
end Rd
end Go.Abs

set_option linter.unusedVariables false
set_option linter.unusedSimpArgs false
namespace Go.Abs
namespace Rd
variable {τ σ : Type} {D : Rd τ σ}
theorem IsL_cells {rows : List Row} {v : AV} {l : List Int} (h : IsL rows v l) : v.cells = [v] := by
  rcases El_cases h with ⟨rfl, _, _⟩ | ⟨id, off, c, vs, rfl, _, _⟩ <;> rfl
end Rd
end Go.Abs

set_option linter.unusedVariables false
set_option linter.unusedSimpArgs false
namespace Go.Abs
open Rd (Cp IsL_one IsL_cells IsL_tail lowO_n)
/-- int(uint(x) % m) -/
theorem umodI {x m : Int} (h : 0 < m) (hm : m ≤ 9223372036854775807) : ∃ r : Nat, IntKind.i64.wrap ((IntKind.u64.wrap x).tmod m) = r ∧ (r : Int) < m := by
  have h0 : 0 ≤ IntKind.u64.wrap x := by
    simp [IntKind.wrap, IntKind.min, IntKind.max, IntKind.signed, IntKind.bits]
    omega
  have h1 := Int.tmod_lt_of_pos (IntKind.u64.wrap x) h
  have h2 := Int.tmod_nonneg m h0
  refine ⟨((IntKind.u64.wrap x).tmod m).toNat, ?_, ?_⟩
  · rw [wrap64 (by omega) (by omega)]; omega
  · omega
section
variable {rows : List Row}
/-- A new list: nothing, or a row of its own. -/
def newL (rows : List Row) (l : List Int) : AV × List Row × Option Nat :=
  match l with
  | [] => (.nilslice, rows, none)
  | x :: l => (.slice rows.length 0 (l.length + 1) (.op 1), rows ++ [.cells (nums .i64 (x :: l))], none)
/-- A list that is being made: in the last row. -/
def accV (rows H : List Row) (l : List Int) : AV :=
  match l with
  | [] => .nilslice
  | _ => .slice (rows.length + H.length) 0 l.length (.op 1)
def accR (H : List Row) (l : List Int) : List Row :=
  match l with
  | [] => H
  | _ => H ++ [.cells (nums .i64 l)]
theorem acc_app {H : List Row} {l : List Int} {x : Int} (hl : l.length < 1000000000) : ∃ H', evE (rows ++ (accR H l ++ [.cells [.int .i64 x]])) rows.length (.app 1 8 (.c (accV rows H l)) (.c (.slice (rows.length + (accR H l).length) 0 1 (.at_ 1)))) = some (accV rows H' (l ++ [x]), rows ++ accR H' (l ++ [x]), rows.length) := by
  cases l with
  | nil =>
    have htmp : El (rows ++ (H ++ [.cells [.int .i64 x]])) 1 (.slice (rows.length + H.length) 0 1 (.at_ 1)) (nums .i64 [x]) 1 := by
      have : row? (rows ++ (H ++ [.cells [.int .i64 x]])) (rows.length + H.length) = some [.int .i64 x] := by unfold row?; simp
      unfold El elems
      simp only [this]
      rfl
    refine ⟨H ++ [.cells [.int .i64 x]], ?_⟩
    have := app_nil (b := 8) (low := rows.length) htmp (by omega) (by simp [lim])
    simp only [accR, accV, List.nil_append]
    rw [this]
    simp
  | cons y l =>
    have h := app_own (rows := rows) (H := H) (kd := .i64) (l := y :: l) (x := x) (c := .op 1) (low := rows.length) (b := 8) rfl rfl (.inr rfl) (Nat.le_refl _) hl
    refine ⟨appH (.op 1) H .i64 (y :: l) x, ?_⟩
    simpa [accR, accV] using h
theorem acc_fin {H : List Row} {l : List Int} : fin rows (accV rows H l) (rows ++ accR H l) rows.length = newL rows l := by
  cases l with
  | nil => simp [accV, accR, newL]
  | cons y l =>
    simp only [accV, accR, newL]
    have := fin_slice (rows := rows) (L := H ++ [.cells (nums .i64 (y :: l))]) (k := H.length) (o := 0) (n := (y :: l).length) (c := .op 1) (vs := nums .i64 (y :: l)) (by simp) nums_ids
    simpa using this

/-- A list that is a plan for the pieces from a to b. -/
inductive Pl : Int → Int → List Int → Prop
  | nil (a : Int) : Pl a a []
  | node {a b g : Int} {L R : List Int} : a ≤ g → g < b → Pl a g L → Pl (g + 1) b R → Pl a b (g :: (L ++ R))
theorem Pl.le {a b : Int} {q : List Int} (h : Pl a b q) : a ≤ b := by
  induction h with
  | nil a => omega
  | node h1 h2 _ _ _ _ => omega
theorem Pl.len {a b : Int} {q : List Int} (h : Pl a b q) : (q.length : Int) = b - a := by
  induction h with
  | nil a => simp
  | node h1 h2 _ _ i1 i2 => simp; omega

end
end Go.Abs

set_option linter.unusedVariables false
set_option linter.unusedSimpArgs false
namespace Go.Abs
open Rd (Cp IsL_one IsL_cells IsL_tail lowO_n)
/-- A new list's value, and its row. -/
def nlV (n : Nat) (l : List Int) : AV := match l with
  | [] => .nilslice
  | x :: l => .slice n 0 (l.length + 1) (.op 1)
def nlK (l : List Int) : List Row := match l with
  | [] => []
  | x :: l => [.cells (nums .i64 (x :: l))]
theorem newL_eq (rows : List Row) (l : List Int) : newL rows l = (nlV rows.length l, rows ++ nlK l, none) := by
  cases l <;> simp [newL, nlV, nlK]
theorem nlV_IsL (B : List Row) (l : List Int) (L : List Row) : IsL (B ++ (nlK l ++ L)) (nlV B.length l) l := by
  cases l with
  | nil => exact IsL_nil
  | cons x l =>
    rw [← List.append_assoc]
    exact IsL_app (IsL_new (L := []) rfl) L
theorem nlK_under (l : List Int) : (nlK l).all (Row.under 0) = true := by
  cases l with
  | nil => rfl
  | cons x l => simp [nlK, Row.under, AV.under, nums]
theorem drop_app {rows L : List Row} {k : Nat} : List.drop (rows.length + k) (rows ++ L) = L.drop k := by simp [List.drop_append]
theorem drop_mapp {α : Type} {rows : List Row} {f : Row → α} {L : List α} {k : Nat} : List.drop (rows.length + k) (List.map f rows ++ L) = L.drop k := by
  rw [List.drop_append]; simp
end Go.Abs

set_option linter.unusedVariables false
set_option linter.unusedSimpArgs false
namespace Go.Abs
open Rd (Cp IsL_one IsL_cells IsL_tail lowO_n)
def Und (B H : List Row) : Prop := ∀ y ∈ H, y.under (B.length + H.length) = true
theorem und_mono {y : Row} {a b : Nat} (h : y.under a = true) (hab : a ≤ b) : y.under b = true := Sh.runder_mono hab h
end Go.Abs

set_option linter.unusedVariables false
set_option linter.unusedSimpArgs false
namespace Go.Abs
open Rd (Cp IsL_one IsL_cells IsL_tail lowO_n)
/-- What 'filled' holds while it works. -/
def TB (rows : List Row) (pv : AV) (T : List Int) (B : List Row) : Prop := ∃ G, B = rows ++ (.cells [pv] :: .cells (nums .i64 T) :: .cells [.ptr (rows.length + 1) 0] :: G)
section
variable {rows B : List Row} {pv : AV} {T T' : List Int}
theorem TB.len (h : TB rows pv T B) : rows.length + 3 ≤ B.length := by obtain ⟨G, rfl⟩ := h; simp <;> omega
theorem TB.app (h : TB rows pv T B) (L : List Row) : TB rows pv T (B ++ L) := by obtain ⟨G, rfl⟩ := h; exact ⟨G ++ L, by simp⟩
theorem TB.g0 (h : TB rows pv T B) : row? B rows.length = some [pv] := by obtain ⟨G, rfl⟩ := h; simp
theorem TB.g1 (h : TB rows pv T B) : row? B (rows.length + 1) = some (nums .i64 T) := by obtain ⟨G, rfl⟩ := h; rw [row?_at]; rfl
theorem TB.g2 (h : TB rows pv T B) : row? B (rows.length + 2) = some [.ptr (rows.length + 1) 0] := by obtain ⟨G, rfl⟩ := h; rw [row?_at]; rfl
theorem TB.c1 (h : TB rows pv T B) : B[rows.length + 1]? = some (.cells (nums .i64 T)) := by obtain ⟨G, rfl⟩ := h; rw [rows_at]; rfl
theorem TB.set (h : TB rows pv T B) : TB rows pv T' (B.set (rows.length + 1) (.cells (nums .i64 T'))) := by obtain ⟨G, rfl⟩ := h; exact ⟨G, by rw [rows_set]; rfl⟩
theorem TB.take (h : TB rows pv T B) {n : Nat} (hn : rows.length + 3 ≤ n) : TB rows pv T (B.take n) := by
  obtain ⟨G, rfl⟩ := h
  obtain ⟨m, rfl⟩ : ∃ m, n = rows.length + (m + 3) := ⟨n - rows.length - 3, by omega⟩
  exact ⟨G.take m, by rw [List.take_append, List.take_of_length_le (by omega)]; simp⟩
theorem row?_ne {i j : Nat} {x : Row} (h : i ≠ j) : row? (B.set j x) i = row? B i := by
  unfold row?; rw [List.getElem?_set_ne (fun e => h e.symm)]
end
end Go.Abs

set_option linter.unusedVariables false
set_option maxRecDepth 20000
set_option maxHeartbeats 4000000
namespace Go.Abs
variable {F : Nat → Option IFn} {cx : Ctx} {k : List Itm} {s : St} {l : List (Nat × AV)} {rows : List Row} {low : Nat} {r : AV × List Row × Nat → Prop}
@[simp] theorem uc91k0 : Ex F cx (.code c91k0 :: k) ⟨mk 36 l, rows, low⟩ r ↔ Ex F cx k ⟨mk 36 [(4, (.int .i64 0))], rows, low⟩ r := reg (keep := []) (ops := c91r0) rfl (by kernel_rfl) (by kernel_rfl)
@[simp] theorem uc91s1 : Ex F cx (.code c91s1 :: k) s r ↔ Ex F cx (.code (.seq c91k0 .ret) :: k) s r := Iff.rfl
@[simp] theorem uc91k2 : Ex F cx (.code c91k2 :: k) ⟨mk 36 l, rows, low⟩ r ↔ Ex F cx k ⟨mk 36 [(4, (.int .i64 (-1)))], rows, low⟩ r := reg (keep := []) (ops := c91r2) rfl (by kernel_rfl) (by kernel_rfl)
@[simp] theorem uc91s3 : Ex F cx (.code c91s3 :: k) s r ↔ Ex F cx (.code (.cond (.t 35) (.seq c91k2 .ret) .skip) :: k) s r := Iff.rfl
@[simp] theorem uc91k4 : Ex F cx (.code c91k4 :: k) ⟨mk 36 l, rows, low⟩ r ↔ bnd (evP rows (.len 0 (.c (lk l 0)))) fun v0 => bnd (evP rows (.len 0 (.c (lk l 1)))) fun v1 => bnd (evP rows (.bin .lss (.c v0) (.c v1))) fun v2 => Ex F cx k ⟨mk 36 [(35, v2), (34, v1), (33, lk l 1), (32, v0), (31, lk l 0), (0, lk l 0), (1, lk l 1)], rows, low⟩ r := reg (keep := [0, 1]) (ops := c91r4) rfl (by kernel_rfl) (by kernel_rfl)
@[simp] theorem uc91s5 : Ex F cx (.code c91s5 :: k) s r ↔ Ex F cx (.code (.seq (.seq c91k4 c91s3) c91s1) :: k) s r := Iff.rfl
@[simp] theorem uc91k7 : Ex F cx (.code c91k7 :: k) ⟨mk 36 l, rows, low⟩ r ↔ bnd (evP rows (.bin .add (.c (lk l 11)) (.c (.int .i64 1)))) fun v0 => Ex F cx k ⟨mk 36 [(11, v0), (30, v0), (0, lk l 0), (1, lk l 1), (9, lk l 9), (10, lk l 10), (11, lk l 11)], rows, low⟩ r := reg (keep := [0, 1, 9, 10, 11]) (ops := c91r7) rfl (by kernel_rfl) (by kernel_rfl)
@[simp] theorem uc91k8 : Ex F cx (.code c91k8 :: k) ⟨mk 36 l, rows, low⟩ r ↔ Ex F cx k ⟨mk 36 [(4, lk l 8), (29, lk l 8), (8, lk l 8)], rows, low⟩ r := reg (keep := [8]) (ops := c91r8) rfl (by kernel_rfl) (by kernel_rfl)
@[simp] theorem uc91s9 : Ex F cx (.code c91s9 :: k) s r ↔ Ex F cx (.code (.cond (.t 28) (.seq c91k8 .ret) .skip) :: k) s r := Iff.rfl
@[simp] theorem uc91k10 : Ex F cx (.code c91k10 :: k) ⟨mk 36 l, rows, low⟩ r ↔ bnd (evP rows (.bin .neq (.c (lk l 8)) (.c (.int .i64 0)))) fun v0 => Ex F cx k ⟨mk 36 [(28, v0), (27, lk l 8), (0, lk l 0), (1, lk l 1), (8, lk l 8), (9, lk l 9), (10, lk l 10), (11, lk l 11)], rows, low⟩ r := reg (keep := [0, 1, 8, 9, 10, 11]) (ops := c91r10) rfl (by kernel_rfl) (by kernel_rfl)
@[simp] theorem uc91s11 : Ex F cx (.code c91s11 :: k) s r ↔ Ex F cx (.code (.seq c91k10 c91s9) :: k) s r := Iff.rfl
@[simp] theorem uc91k12 : Ex F cx (.code c91k12 :: k) ⟨mk 36 l, rows, low⟩ r ↔ bnd (Ret F 99 [lk l 6, lk l 7] rows) fun q0 => Ex F cx k ⟨mk 36 [(8, q0.1), (26, q0.1), (25, lk l 7), (24, lk l 6), (0, lk l 0), (1, lk l 1), (6, lk l 6), (7, lk l 7), (9, lk l 9), (10, lk l 10), (11, lk l 11)], q0.2.1, (lowO low q0.2.2)⟩ r := reg (keep := [0, 1, 6, 7, 9, 10, 11]) (ops := c91r12) rfl (by kernel_rfl) (by kernel_rfl)
@[simp] theorem uc91s13 : Ex F cx (.code c91s13 :: k) s r ↔ Ex F cx (.code (.seq c91k12 c91s11) :: k) s r := Iff.rfl
@[simp] theorem uc91k14 : Ex F cx (.code c91k14 :: k) ⟨mk 36 l, rows, low⟩ r ↔ bnd (evP rows (.idxS 1 (.c (lk l 1)) (.c (lk l 5)))) fun v0 => bnd (evP rows (.load1 (.c v0))) fun v1 => Ex F cx k ⟨mk 36 [(7, v1), (23, v1), (22, v0), (21, lk l 5), (20, lk l 1), (0, lk l 0), (1, lk l 1), (5, lk l 5), (6, lk l 6), (9, lk l 9), (10, lk l 10), (11, lk l 11)], rows, low⟩ r := reg (keep := [0, 1, 5, 6, 9, 10, 11]) (ops := c91r14) rfl (by kernel_rfl) (by kernel_rfl)
@[simp] theorem uc91s15 : Ex F cx (.code c91s15 :: k) s r ↔ Ex F cx (.code (.seq c91k14 c91s13) :: k) s r := Iff.rfl
@[simp] theorem uc91k16 : Ex F cx (.code c91k16 :: k) ⟨mk 36 l, rows, low⟩ r ↔ Ex F cx k ⟨mk 36 [(4, (.int .i64 1))], rows, low⟩ r := reg (keep := []) (ops := c91r16) rfl (by kernel_rfl) (by kernel_rfl)
@[simp] theorem uc91s17 : Ex F cx (.code c91s17 :: k) s r ↔ Ex F cx (.code (.cond (.t 19) (.seq c91k16 .ret) .skip) :: k) s r := Iff.rfl
@[simp] theorem uc91k18 : Ex F cx (.code c91k18 :: k) ⟨mk 36 l, rows, low⟩ r ↔ bnd (evP rows (.len 0 (.c (lk l 1)))) fun v0 => bnd (evP rows (.bin .geq (.c (lk l 5)) (.c v0))) fun v1 => Ex F cx k ⟨mk 36 [(19, v1), (18, v0), (17, lk l 1), (16, lk l 5), (0, lk l 0), (1, lk l 1), (5, lk l 5), (6, lk l 6), (9, lk l 9), (10, lk l 10), (11, lk l 11)], rows, low⟩ r := reg (keep := [0, 1, 5, 6, 9, 10, 11]) (ops := c91r18) rfl (by kernel_rfl) (by kernel_rfl)
@[simp] theorem uc91s19 : Ex F cx (.code c91s19 :: k) s r ↔ Ex F cx (.code (.seq (.seq c91k18 c91s17) c91s15) :: k) s r := Iff.rfl
@[simp] theorem uc91k20 : Ex F cx (.code c91k20 :: k) ⟨mk 36 l, rows, low⟩ r ↔ bnd (evP rows (.idxS 1 (.c (lk l 9)) (.c (lk l 11)))) fun v0 => bnd (evP rows (.load1 (.c v0))) fun v1 => Ex F cx k ⟨mk 36 [(6, v1), (5, lk l 11), (15, v1), (14, v0), (13, lk l 11), (0, lk l 0), (1, lk l 1), (9, lk l 9), (10, lk l 10), (11, lk l 11)], rows, low⟩ r := reg (keep := [0, 1, 9, 10, 11]) (ops := c91r20) rfl (by kernel_rfl) (by kernel_rfl)
@[simp] theorem uc91s21 : Ex F cx (.code c91s21 :: k) s r ↔ Ex F cx (.code (.seq (.block 1 (.seq c91k20 c91s19)) c91k7) :: k) s r := Iff.rfl
@[simp] theorem uc91s22 : Ex F cx (.code c91s22 :: k) s r ↔ Ex F cx (.code (.seq (.cond (.t 12) .skip (.exit 0)) c91s21) :: k) s r := Iff.rfl
@[simp] theorem uc91k23 : Ex F cx (.code c91k23 :: k) ⟨mk 36 l, rows, low⟩ r ↔ bnd (evP rows (.bin .lss (.c (lk l 11)) (.c (lk l 10)))) fun v0 => Ex F cx k ⟨mk 36 [(12, v0), (0, lk l 0), (1, lk l 1), (9, lk l 9), (10, lk l 10), (11, lk l 11)], rows, low⟩ r := reg (keep := [0, 1, 9, 10, 11]) (ops := c91r23) rfl (by kernel_rfl) (by kernel_rfl)
@[simp] theorem uc91s24 : Ex F cx (.code c91s24 :: k) s r ↔ Ex F cx (.code (.block 0 (.loop c91l6)) :: k) s r := Iff.rfl
@[simp] theorem uc91k25 : Ex F cx (.code c91k25 :: k) ⟨mk 36 l, rows, low⟩ r ↔ bnd (evP rows (.len 0 (.c (lk l 0)))) fun v0 => Ex F cx k ⟨mk 36 [(11, (.int .i64 0)), (10, v0), (9, lk l 0), (0, lk l 0), (1, lk l 1)], rows, low⟩ r := reg (keep := [0, 1]) (ops := c91r25) rfl (by kernel_rfl) (by kernel_rfl)
@[simp] theorem uc91s26 : Ex F cx (.code c91s26 :: k) s r ↔ Ex F cx (.code (.seq (.seq c91k25 c91s24) c91s5) :: k) s r := Iff.rfl
@[simp] theorem uc91k27 : Ex F cx (.code c91k27 :: k) ⟨mk 36 l, rows, low⟩ r ↔ Ex F cx k ⟨mk 36 [(4, (.int .i64 0)), (0, lk l 0), (1, lk l 1)], rows, low⟩ r := reg (keep := [0, 1]) (ops := c91r27) rfl (by kernel_rfl) (by kernel_rfl)
def Jc91s1 (F : Nat → Option IFn) (cx : Ctx) (rows : List Row) (low : Nat) (r : AV × List Row × Nat → Prop) : Prop := Ex F cx (.code c91s1 :: []) ⟨mk 36 [], rows, low⟩ r
theorem jc91s1 : Ex F cx (.code c91s1 :: []) ⟨mk 36 l, rows, low⟩ r ↔ Jc91s1 F cx  rows low r := Ex_canon (keep := []) (by kernel_rfl)
def Jc91s15 (F : Nat → Option IFn) (cx : Ctx) (x0 x1 x5 x6 x9 x10 x11 : AV) (rows : List Row) (low : Nat) (r : AV × List Row × Nat → Prop) : Prop := Ex F cx (.code c91s15 :: .inBlock 1 :: .code c91k7 :: .inLoop c91l6 :: .inBlock 0 :: .code c91s5 :: []) ⟨mk 36 [(0, x0), (1, x1), (5, x5), (6, x6), (9, x9), (10, x10), (11, x11)], rows, low⟩ r
theorem jc91s15 : Ex F cx (.code c91s15 :: .inBlock 1 :: .code c91k7 :: .inLoop c91l6 :: .inBlock 0 :: .code c91s5 :: []) ⟨mk 36 l, rows, low⟩ r ↔ Jc91s15 F cx (lk l 0) (lk l 1) (lk l 5) (lk l 6) (lk l 9) (lk l 10) (lk l 11) rows low r := Ex_canon (keep := [0, 1, 5, 6, 9, 10, 11]) (by kernel_rfl)
def Jc91s21 (F : Nat → Option IFn) (cx : Ctx) (x0 x1 x9 x10 x11 : AV) (rows : List Row) (low : Nat) (r : AV × List Row × Nat → Prop) : Prop := Ex F cx (.code c91s21 :: .inLoop c91l6 :: .inBlock 0 :: .code c91s5 :: []) ⟨mk 36 [(0, x0), (1, x1), (9, x9), (10, x10), (11, x11)], rows, low⟩ r
theorem jc91s21 : Ex F cx (.code c91s21 :: .inLoop c91l6 :: .inBlock 0 :: .code c91s5 :: []) ⟨mk 36 l, rows, low⟩ r ↔ Jc91s21 F cx (lk l 0) (lk l 1) (lk l 9) (lk l 10) (lk l 11) rows low r := Ex_canon (keep := [0, 1, 9, 10, 11]) (by kernel_rfl)
def Lc91l6 (F : Nat → Option IFn) (cx : Ctx) (x0 x1 x9 x10 x11 : AV) (rows : List Row) (low : Nat) (r : AV × List Row × Nat → Prop) : Prop := Ex F cx (.code c91l6 :: .inLoop c91l6 :: .inBlock 0 :: .code c91s5 :: []) ⟨mk 36 [(0, x0), (1, x1), (9, x9), (10, x10), (11, x11)], rows, low⟩ r
@[simp] theorem nc91l6 : Ex F cx (.inLoop c91l6 :: .inBlock 0 :: .code c91s5 :: []) ⟨mk 36 l, rows, low⟩ r ↔ Lc91l6 F cx (lk l 0) (lk l 1) (lk l 9) (lk l 10) (lk l 11) rows low r := loopN (keep := [0, 1, 9, 10, 11]) (by kernel_rfl)
@[simp] theorem ec91l6 : Ex F cx (.code (.loop c91l6) :: .inBlock 0 :: .code c91s5 :: []) ⟨mk 36 l, rows, low⟩ r ↔ Lc91l6 F cx (lk l 0) (lk l 1) (lk l 9) (lk l 10) (lk l 11) rows low r := loopE (keep := [0, 1, 9, 10, 11]) (by kernel_rfl)
@[simp] theorem uc91l6 : Ex F cx (.code c91l6 :: k) s r ↔ Ex F cx (.code (.seq c91k23 c91s22) :: k) s r := Iff.rfl
@[simp] theorem uc91b : Ex F cx (.code c91b :: k) s r ↔ Ex F cx (.code (.seq c91k27 c91s26) :: k) s r := Iff.rfl
theorem i91 {x0 x1 : AV} (hF : F 91 = some c91) {q : AV × List Row × Option Nat} (h : Ex F (.fn [.t 4]) [.code c91b] ⟨mk 36 [(0, x0), (1, x1)], rows, rows.length⟩ fun r => fin rows r.1 r.2.1 r.2.2 = q) : Ret F 91 [x0, x1] rows = some q := Ret_mk hF h
@[simp] theorem uc93k0 : Ex F cx (.code c93k0 :: k) ⟨mk 10 l, rows, low⟩ r ↔ Ex F cx k ⟨mk 10 [(4, lk l 0), (9, lk l 0), (0, lk l 0)], rows, low⟩ r := reg (keep := [0]) (ops := c93r0) rfl (by kernel_rfl) (by kernel_rfl)
@[simp] theorem uc93s1 : Ex F cx (.code c93s1 :: k) s r ↔ Ex F cx (.code (.seq c93k0 .ret) :: k) s r := Iff.rfl
@[simp] theorem uc93k2 : Ex F cx (.code c93k2 :: k) ⟨mk 10 l, rows, low⟩ r ↔ Ex F cx k ⟨mk 10 [(4, lk l 1), (8, lk l 1), (1, lk l 1)], rows, low⟩ r := reg (keep := [1]) (ops := c93r2) rfl (by kernel_rfl) (by kernel_rfl)
@[simp] theorem uc93s3 : Ex F cx (.code c93s3 :: k) s r ↔ Ex F cx (.code (.cond (.t 7) (.seq c93k2 .ret) .skip) :: k) s r := Iff.rfl
@[simp] theorem uc93k4 : Ex F cx (.code c93k4 :: k) ⟨mk 10 l, rows, low⟩ r ↔ bnd (evP rows (.bin .lss (.c (lk l 1)) (.c (lk l 0)))) fun v0 => Ex F cx k ⟨mk 10 [(7, v0), (6, lk l 0), (5, lk l 1), (0, lk l 0), (1, lk l 1)], rows, low⟩ r := reg (keep := [0, 1]) (ops := c93r4) rfl (by kernel_rfl) (by kernel_rfl)
@[simp] theorem uc93s5 : Ex F cx (.code c93s5 :: k) s r ↔ Ex F cx (.code (.seq (.seq c93k4 c93s3) c93s1) :: k) s r := Iff.rfl
@[simp] theorem uc93k6 : Ex F cx (.code c93k6 :: k) ⟨mk 10 l, rows, low⟩ r ↔ Ex F cx k ⟨mk 10 [(4, (.int .i64 0)), (0, lk l 0), (1, lk l 1)], rows, low⟩ r := reg (keep := [0, 1]) (ops := c93r6) rfl (by kernel_rfl) (by kernel_rfl)
def Jc93s1 (F : Nat → Option IFn) (cx : Ctx) (x0 : AV) (rows : List Row) (low : Nat) (r : AV × List Row × Nat → Prop) : Prop := Ex F cx (.code c93s1 :: []) ⟨mk 10 [(0, x0)], rows, low⟩ r
theorem jc93s1 : Ex F cx (.code c93s1 :: []) ⟨mk 10 l, rows, low⟩ r ↔ Jc93s1 F cx (lk l 0) rows low r := Ex_canon (keep := [0]) (by kernel_rfl)
@[simp] theorem uc93b : Ex F cx (.code c93b :: k) s r ↔ Ex F cx (.code (.seq c93k6 c93s5) :: k) s r := Iff.rfl
theorem i93 {x0 x1 : AV} (hF : F 93 = some c93) {q : AV × List Row × Option Nat} (h : Ex F (.fn [.t 4]) [.code c93b] ⟨mk 10 [(0, x0), (1, x1)], rows, rows.length⟩ fun r => fin rows r.1 r.2.1 r.2.2 = q) : Ret F 93 [x0, x1] rows = some q := Ret_mk hF h
@[simp] theorem uc99k0 : Ex F cx (.code c99k0 :: k) ⟨mk 20 l, rows, low⟩ r ↔ Ex F cx k ⟨mk 20 [(4, (.int .i64 0))], rows, low⟩ r := reg (keep := []) (ops := c99r0) rfl (by kernel_rfl) (by kernel_rfl)
@[simp] theorem uc99s1 : Ex F cx (.code c99s1 :: k) s r ↔ Ex F cx (.code (.seq c99k0 .ret) :: k) s r := Iff.rfl
@[simp] theorem uc99k2 : Ex F cx (.code c99k2 :: k) ⟨mk 20 l, rows, low⟩ r ↔ Ex F cx k ⟨mk 20 [(4, (.int .i64 1))], rows, low⟩ r := reg (keep := []) (ops := c99r2) rfl (by kernel_rfl) (by kernel_rfl)
@[simp] theorem uc99s3 : Ex F cx (.code c99s3 :: k) s r ↔ Ex F cx (.code (.cond (.t 19) (.seq c99k2 .ret) .skip) :: k) s r := Iff.rfl
@[simp] theorem uc99k4 : Ex F cx (.code c99k4 :: k) ⟨mk 20 l, rows, low⟩ r ↔ bnd (evP rows (.bin .gtr (.c (lk l 0)) (.c (lk l 1)))) fun v0 => Ex F cx k ⟨mk 20 [(19, v0), (18, lk l 1), (17, lk l 0), (0, lk l 0), (1, lk l 1)], rows, low⟩ r := reg (keep := [0, 1]) (ops := c99r4) rfl (by kernel_rfl) (by kernel_rfl)
@[simp] theorem uc99s5 : Ex F cx (.code c99s5 :: k) s r ↔ Ex F cx (.code (.seq (.seq c99k4 c99s3) c99s1) :: k) s r := Iff.rfl
@[simp] theorem uc99k6 : Ex F cx (.code c99k6 :: k) ⟨mk 20 l, rows, low⟩ r ↔ Ex F cx k ⟨mk 20 [(4, (.int .i64 (-1)))], rows, low⟩ r := reg (keep := []) (ops := c99r6) rfl (by kernel_rfl) (by kernel_rfl)
@[simp] theorem uc99s7 : Ex F cx (.code c99s7 :: k) s r ↔ Ex F cx (.code (.cond (.t 16) (.seq c99k6 .ret) .skip) :: k) s r := Iff.rfl
@[simp] theorem uc99k8 : Ex F cx (.code c99k8 :: k) ⟨mk 20 l, rows, low⟩ r ↔ bnd (evP rows (.bin .lss (.c (lk l 0)) (.c (lk l 1)))) fun v0 => Ex F cx k ⟨mk 20 [(16, v0), (15, lk l 1), (14, lk l 0), (0, lk l 0), (1, lk l 1)], rows, low⟩ r := reg (keep := [0, 1]) (ops := c99r8) rfl (by kernel_rfl) (by kernel_rfl)
@[simp] theorem uc99s9 : Ex F cx (.code c99s9 :: k) s r ↔ Ex F cx (.code (.seq (.seq c99k8 c99s7) c99s5) :: k) s r := Iff.rfl
@[simp] theorem uc99k10 : Ex F cx (.code c99k10 :: k) ⟨mk 20 l, rows, low⟩ r ↔ Ex F cx k ⟨mk 20 [(4, (.int .i64 1))], rows, low⟩ r := reg (keep := []) (ops := c99r10) rfl (by kernel_rfl) (by kernel_rfl)
@[simp] theorem uc99s11 : Ex F cx (.code c99s11 :: k) s r ↔ Ex F cx (.code (.cond (.t 13) (.seq c99k10 .ret) .skip) :: k) s r := Iff.rfl
@[simp] theorem uc99k12 : Ex F cx (.code c99k12 :: k) ⟨mk 20 l, rows, low⟩ r ↔ Ex F cx k ⟨mk 20 [(13, lk l 6), (0, lk l 0), (1, lk l 1), (6, lk l 6)], rows, low⟩ r := reg (keep := [0, 1, 6]) (ops := c99r12) rfl (by kernel_rfl) (by kernel_rfl)
@[simp] theorem uc99s13 : Ex F cx (.code c99s13 :: k) s r ↔ Ex F cx (.code (.seq (.seq c99k12 c99s11) c99s9) :: k) s r := Iff.rfl
@[simp] theorem uc99k14 : Ex F cx (.code c99k14 :: k) ⟨mk 20 l, rows, low⟩ r ↔ Ex F cx k ⟨mk 20 [(4, (.int .i64 (-1)))], rows, low⟩ r := reg (keep := []) (ops := c99r14) rfl (by kernel_rfl) (by kernel_rfl)
@[simp] theorem uc99s15 : Ex F cx (.code c99s15 :: k) s r ↔ Ex F cx (.code (.seq c99k14 .ret) :: k) s r := Iff.rfl
@[simp] theorem uc99k16 : Ex F cx (.code c99k16 :: k) ⟨mk 20 l, rows, low⟩ r ↔ Ex F cx k ⟨mk 20 [(4, (.int .i64 0))], rows, low⟩ r := reg (keep := []) (ops := c99r16) rfl (by kernel_rfl) (by kernel_rfl)
@[simp] theorem uc99s17 : Ex F cx (.code c99s17 :: k) s r ↔ Ex F cx (.code (.cond (.t 12) (.seq c99k16 .ret) .skip) :: k) s r := Iff.rfl
@[simp] theorem uc99k18 : Ex F cx (.code c99k18 :: k) ⟨mk 20 l, rows, low⟩ r ↔ Ex F cx k ⟨mk 20 [(12, lk l 6), (6, lk l 6)], rows, low⟩ r := reg (keep := [6]) (ops := c99r18) rfl (by kernel_rfl) (by kernel_rfl)
@[simp] theorem uc99s19 : Ex F cx (.code c99s19 :: k) s r ↔ Ex F cx (.code (.cond (.t 11) (.seq (.seq c99k18 c99s17) c99s15) .skip) :: k) s r := Iff.rfl
@[simp] theorem uc99k20 : Ex F cx (.code c99k20 :: k) ⟨mk 20 l, rows, low⟩ r ↔ Ex F cx k ⟨mk 20 [(11, lk l 5), (0, lk l 0), (1, lk l 1), (5, lk l 5), (6, lk l 6)], rows, low⟩ r := reg (keep := [0, 1, 5, 6]) (ops := c99r20) rfl (by kernel_rfl) (by kernel_rfl)
@[simp] theorem uc99s21 : Ex F cx (.code c99s21 :: k) s r ↔ Ex F cx (.code (.seq (.seq c99k20 c99s19) c99s13) :: k) s r := Iff.rfl
@[simp] theorem uc99k22 : Ex F cx (.code c99k22 :: k) ⟨mk 20 l, rows, low⟩ r ↔ bnd (Ret F 102 [lk l 1] rows) fun q0 => Ex F cx k ⟨mk 20 [(6, q0.1), (10, q0.1), (9, lk l 1), (0, lk l 0), (1, lk l 1), (5, lk l 5)], q0.2.1, (lowO low q0.2.2)⟩ r := reg (keep := [0, 1, 5]) (ops := c99r22) rfl (by kernel_rfl) (by kernel_rfl)
@[simp] theorem uc99s23 : Ex F cx (.code c99s23 :: k) s r ↔ Ex F cx (.code (.seq c99k22 c99s21) :: k) s r := Iff.rfl
@[simp] theorem uc99k24 : Ex F cx (.code c99k24 :: k) ⟨mk 20 l, rows, low⟩ r ↔ bnd (Ret F 102 [lk l 0] rows) fun q0 => Ex F cx k ⟨mk 20 [(5, q0.1), (8, q0.1), (7, lk l 0), (0, lk l 0), (1, lk l 1)], q0.2.1, (lowO low q0.2.2)⟩ r := reg (keep := [0, 1]) (ops := c99r24) rfl (by kernel_rfl) (by kernel_rfl)
@[simp] theorem uc99s25 : Ex F cx (.code c99s25 :: k) s r ↔ Ex F cx (.code (.seq c99k24 c99s23) :: k) s r := Iff.rfl
@[simp] theorem uc99k26 : Ex F cx (.code c99k26 :: k) ⟨mk 20 l, rows, low⟩ r ↔ Ex F cx k ⟨mk 20 [(4, (.int .i64 0)), (0, lk l 0), (1, lk l 1)], rows, low⟩ r := reg (keep := [0, 1]) (ops := c99r26) rfl (by kernel_rfl) (by kernel_rfl)
def Jc99s1 (F : Nat → Option IFn) (cx : Ctx) (rows : List Row) (low : Nat) (r : AV × List Row × Nat → Prop) : Prop := Ex F cx (.code c99s1 :: []) ⟨mk 20 [], rows, low⟩ r
theorem jc99s1 : Ex F cx (.code c99s1 :: []) ⟨mk 20 l, rows, low⟩ r ↔ Jc99s1 F cx  rows low r := Ex_canon (keep := []) (by kernel_rfl)
def Jc99s5 (F : Nat → Option IFn) (cx : Ctx) (x0 x1 : AV) (rows : List Row) (low : Nat) (r : AV × List Row × Nat → Prop) : Prop := Ex F cx (.code c99s5 :: []) ⟨mk 20 [(0, x0), (1, x1)], rows, low⟩ r
theorem jc99s5 : Ex F cx (.code c99s5 :: []) ⟨mk 20 l, rows, low⟩ r ↔ Jc99s5 F cx (lk l 0) (lk l 1) rows low r := Ex_canon (keep := [0, 1]) (by kernel_rfl)
def Jc99s9 (F : Nat → Option IFn) (cx : Ctx) (x0 x1 : AV) (rows : List Row) (low : Nat) (r : AV × List Row × Nat → Prop) : Prop := Ex F cx (.code c99s9 :: []) ⟨mk 20 [(0, x0), (1, x1)], rows, low⟩ r
theorem jc99s9 : Ex F cx (.code c99s9 :: []) ⟨mk 20 l, rows, low⟩ r ↔ Jc99s9 F cx (lk l 0) (lk l 1) rows low r := Ex_canon (keep := [0, 1]) (by kernel_rfl)
def Jc99s13 (F : Nat → Option IFn) (cx : Ctx) (x0 x1 x6 : AV) (rows : List Row) (low : Nat) (r : AV × List Row × Nat → Prop) : Prop := Ex F cx (.code c99s13 :: []) ⟨mk 20 [(0, x0), (1, x1), (6, x6)], rows, low⟩ r
theorem jc99s13 : Ex F cx (.code c99s13 :: []) ⟨mk 20 l, rows, low⟩ r ↔ Jc99s13 F cx (lk l 0) (lk l 1) (lk l 6) rows low r := Ex_canon (keep := [0, 1, 6]) (by kernel_rfl)
def Jc99s15 (F : Nat → Option IFn) (cx : Ctx) (rows : List Row) (low : Nat) (r : AV × List Row × Nat → Prop) : Prop := Ex F cx (.code c99s15 :: .code c99s13 :: []) ⟨mk 20 [], rows, low⟩ r
theorem jc99s15 : Ex F cx (.code c99s15 :: .code c99s13 :: []) ⟨mk 20 l, rows, low⟩ r ↔ Jc99s15 F cx  rows low r := Ex_canon (keep := []) (by kernel_rfl)
@[simp] theorem uc99b : Ex F cx (.code c99b :: k) s r ↔ Ex F cx (.code (.seq c99k26 c99s25) :: k) s r := Iff.rfl
theorem i99 {x0 x1 : AV} (hF : F 99 = some c99) {q : AV × List Row × Option Nat} (h : Ex F (.fn [.t 4]) [.code c99b] ⟨mk 20 [(0, x0), (1, x1)], rows, rows.length⟩ fun r => fin rows r.1 r.2.1 r.2.2 = q) : Ret F 99 [x0, x1] rows = some q := Ret_mk hF h
@[simp] theorem uc102k0 : Ex F cx (.code c102k0 :: k) ⟨mk 6 l, rows, low⟩ r ↔ bnd (evP rows (.bin .neq (.c (lk l 0)) (.c (lk l 0)))) fun v0 => Ex F cx k ⟨mk 6 [(2, v0), (5, v0), (4, lk l 0), (3, lk l 0), (0, lk l 0)], rows, low⟩ r := reg (keep := [0]) (ops := c102r0) rfl (by kernel_rfl) (by kernel_rfl)
@[simp] theorem uc102s1 : Ex F cx (.code c102s1 :: k) s r ↔ Ex F cx (.code (.seq c102k0 .ret) :: k) s r := Iff.rfl
@[simp] theorem uc102k2 : Ex F cx (.code c102k2 :: k) ⟨mk 6 l, rows, low⟩ r ↔ Ex F cx k ⟨mk 6 [(2, (.bool false)), (0, lk l 0)], rows, low⟩ r := reg (keep := [0]) (ops := c102r2) rfl (by kernel_rfl) (by kernel_rfl)
@[simp] theorem uc102b : Ex F cx (.code c102b :: k) s r ↔ Ex F cx (.code (.seq c102k2 c102s1) :: k) s r := Iff.rfl
theorem i102 {x0 : AV} (hF : F 102 = some c102) {q : AV × List Row × Option Nat} (h : Ex F (.fn [.t 2]) [.code c102b] ⟨mk 6 [(0, x0)], rows, rows.length⟩ fun r => fin rows r.1 r.2.1 r.2.2 = q) : Ret F 102 [x0] rows = some q := Ret_mk hF h
end Go.Abs

set_option linter.unusedVariables false
set_option linter.unusedSimpArgs false
namespace Go.Abs
open Rd (Cp IsL_one IsL_cells IsL_tail lowO_n)
section
variable {rows : List Row}
/-- The greatest number of a list. -/
def fmax (l : List Int) : Int := l.foldl max (gI l 0)
/-- Weights that are right. -/
def wOK (n : Nat) (u : List Int) : Prop := u.length = n + 1 ∧ (u.all fun x => decide (0 ≤ x ∧ x ≤ 1000)) = true ∧ fmax u ≠ 0
instance (n : Nat) (u : List Int) : Decidable (wOK n u) := by unfold wOK; infer_instance
end
end Go.Abs

set_option linter.unusedVariables false
set_option linter.unusedSimpArgs false
namespace Go.Abs
open Rd (Cp IsL_one IsL_cells IsL_tail lowO_n)
def wst (x : Int) : Int := IntKind.i64.wrap ((IntKind.u64.wrap x).tmod 1001)
/-- The weight at a place. -/
def wAt (l : List Int) (i : Nat) : Int := if i < l.length then wst (gI l i) else 0
def wl (l : List Int) (k : Nat) : List Int := (List.range k).map (wAt l)
@[simp] theorem wl_len {l : List Int} {k : Nat} : (wl l k).length = k := by simp [wl]
section
variable {rows : List Row}
end
end Go.Abs

set_option linter.unusedVariables false
set_option linter.unusedSimpArgs false
namespace Go.Abs
open Rd (Cp IsL_one IsL_cells IsL_tail lowO_n)
def oR (base n i : Nat) : List AV := (List.range n).map fun j => if j < i then .nilslice else .slice (base + (n - j)) 0 n (.at_ n)
def Rw (n i : Nat) (f : Nat → Nat → Int) : List Row := (List.range (n - i)).map fun t => .cells (nums .i64 (tab n (f (n - 1 - t))))
def LR (rows : List Row) (n i : Nat) (f : Nat → Nat → Int) : List Row := rows ++ (.cells (oR rows.length n i) :: Rw n i f)
section
variable {rows : List Row} {n i j k : Nat} {f : Nat → Nat → Int}
@[simp] theorem oR_len {base : Nat} : (oR base n i).length = n := by simp [oR]
end
end Go.Abs

set_option linter.unusedVariables false
set_option linter.unusedSimpArgs false
namespace Go.Abs
open Rd (Cp IsL_one IsL_cells IsL_tail lowO_n)
/-- The least worst price with costs 1. -/
def hK (n : Nat) : Int := [0, 1, 2, 2, 3, 3, 3, 3, 4, 4, 4, 4, 4].getD n 0
section
variable {c u T T2 : List Int} {n : Nat}
end
end Go.Abs

set_option linter.unusedVariables false
set_option linter.unusedSimpArgs false
namespace Go.Abs
open Rd (Cp IsL_one IsL_cells IsL_tail lowO_n)
theorem Und_0 {rows H : List Row} (h : H.all (Row.under 0) = true) : Und rows H := fun y hy => und_mono (List.all_eq_true.1 h y hy) (Nat.zero_le _)
end Go.Abs

