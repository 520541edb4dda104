/- The texts that the row uses, part 3. -/
import Derived.Test.YtichbmhjgbjiiaaDoorBH2
import Derived.AtR
import Derived.Orders
import Derived.KernelRfl
import Derived.Laws.Cells
import Derived.Laws.CopyRow
import Derived.Laws.Append
import Derived.Laws.AppendOwn
import Derived.Laws.Entries
import Derived.ArgAppend
import Derived.ChangeKeysEq
import Derived.WideLaws
import Derived.Laws.Small
import Derived.Laws.StructEq
import Derived.Laws.Cover3
import Derived.Laws.Tables
import Derived.Laws.Rows
import Derived.Below
import Derived.Laws.IdiomCopy
import Derived.RangeFuncNested
import Derived.Test.YtichbmhjgbjiiaaDoorProg
import Derived.Test.YtichbmhjgbjiiaaDoorRows
import Derived.ProofKit
import Derived.LaidMore
import Derived.OpenShut
import Derived.Stop.Joined
import Derived.ChangeSlices
import Derived.SizedLaws
import Derived.SevenTiedAt
import Derived.WalkKit
import Derived.ShutString
import Derived.ChangeOld
import Derived.Carry
set_option linter.unusedVariables false
set_option maxRecDepth 20000
set_option maxHeartbeats 4000000
namespace Go.Abs
def c15r0 : List Seg := [
 zo 163 (.loadN 3 (.t 3)),
 .one ⟨none, .storeN 3 (.t 2) (.t 163), none⟩]
def c15k0 : ICode := .kill 164 [2, 3] (.ops c15r0)
def c15s1 : ICode := (.seq c15k0 .ret)
def c15r3 : List Seg := [
 zm 101 12,
 zo 102 (.bin .add (.t 101) (.c (.int .i64 1))),
 zm 12 102]
def c15k3 : ICode := .kill 164 [1, 2, 3, 12] (.ops c15r3)
def c15r5 : List Seg := [
 zm 109 13,
 zo 110 (.bin .add (.t 109) (.c (.int .i64 1))),
 zm 13 110]
def c15k5 : ICode := .kill 164 [1, 2, 3, 12, 13] (.ops c15r5)
def c15r7 : List Seg := [
 zm 117 14,
 zo 118 (.bin .add (.t 117) (.c (.int .i64 1))),
 zm 14 118]
def c15k7 : ICode := .kill 164 [1, 2, 3, 12, 13, 14] (.ops c15r7)
def c15r8 : List Seg := [
 zm 155 15,
 zm 156 12,
 zm 157 13,
 zm 158 14,
 zo 159 (.mkagg [.int .i64 0, .int .i64 0, .int .i64 0] [(0, 1, (.t 156)), (1, 1, (.t 157)), (2, 1, (.t 158))]),
 zo 160 (.mkslice 1 [.int .i64 0, .int .i64 0, .int .i64 0] [(0, 3, (.t 159))]),
 zo 161 (.app 3 24 (.t 155) (.t 160)),
 zo 162 (.fieldA 2 (.t 3)),
 .one ⟨none, .store1 (.t 162) (.t 161), none⟩]
def c15k8 : ICode := .kill 164 [1, 2, 3, 12, 13, 14, 15] (.ops c15r8)
def c15s9 : ICode := (.cond (.t 154) c15k8 .skip)
def c15r10 : List Seg := [
 zo 121 (.loadN 3 (.t 3)),
 zm 122 12,
 zm 123 13,
 zo 124 (.call [] (.c (.func 60 [])) [(.t 121), (.t 122), (.t 123)]),
 zo 125 (.bin .geq (.t 124) (.c (.int .i64 0))),
 zm 126 125,
 .one ⟨some 127, .loadN 3 (.t 3), some (126, true)⟩,
 .one ⟨some 128, .mv (.t 12), some (126, true)⟩,
 .one ⟨some 129, .mv (.t 14), some (126, true)⟩,
 .one ⟨some 130, .call [] (.c (.func 60 [])) [(.t 127), (.t 128), (.t 129)], some (126, true)⟩,
 .one ⟨some 131, .bin .geq (.t 130) (.c (.int .i64 0)), some (126, true)⟩,
 zo 132 (.pick (.t 126) (.t 131) (.c (.bool false))),
 zm 133 132,
 .one ⟨some 134, .loadN 3 (.t 3), some (133, true)⟩,
 .one ⟨some 135, .mv (.t 13), some (133, true)⟩,
 .one ⟨some 136, .mv (.t 14), some (133, true)⟩,
 .one ⟨some 137, .call [] (.c (.func 60 [])) [(.t 134), (.t 135), (.t 136)], some (133, true)⟩,
 .one ⟨some 138, .bin .geq (.t 137) (.c (.int .i64 0)), some (133, true)⟩,
 zo 139 (.pick (.t 133) (.t 138) (.c (.bool false))),
 zm 140 139,
 .one ⟨some 141, .mv (.t 15), some (140, true)⟩,
 .one ⟨some 142, .len 0 (.t 141), some (140, true)⟩,
 .one ⟨some 143, .bin .lss (.t 142) (.c (.int .i64 6)), some (140, true)⟩,
 zo 144 (.pick (.t 140) (.t 143) (.c (.bool false))),
 zm 145 144,
 .one ⟨some 146, .fieldA 2 (.t 1), some (145, true)⟩,
 .one ⟨some 147, .load1 (.t 146), some (145, true)⟩,
 .one ⟨some 148, .mv (.t 12), some (145, true)⟩,
 .one ⟨some 149, .mv (.t 13), some (145, true)⟩,
 .one ⟨some 150, .bin .add (.t 148) (.t 149), some (145, true)⟩,
 .one ⟨some 151, .mv (.t 14), some (145, true)⟩,
 .one ⟨some 152, .bin .add (.t 150) (.t 151), some (145, true)⟩,
 .one ⟨some 153, .call [] (.c (.func 61 [])) [(.t 147), (.t 152)], some (145, true)⟩,
 zo 154 (.pick (.t 145) (.t 153) (.c (.bool false)))]
def c15k10 : ICode := .kill 164 [1, 2, 3, 12, 13, 14, 15] (.ops c15r10)
def c15s11 : ICode := (.seq c15k10 c15s9)
def c15r12 : List Seg := [
 zo 119 (.fieldA 2 (.t 3)),
 zo 120 (.load1 (.t 119)),
 zm 15 120]
def c15k12 : ICode := .kill 164 [1, 2, 3, 12, 13, 14] (.ops c15r12)
def c15s13 : ICode := (.seq (.block 9 (.seq c15k12 c15s11)) c15k7)
def c15s14 : ICode := (.cond (.t 116) .skip (.exit 8))
def c15r15 : List Seg := [
 zm 113 14,
 zo 114 (.fieldA 0 (.t 3)),
 zo 115 (.load1 (.t 114)),
 zo 116 (.bin .lss (.t 113) (.t 115))]
def c15k15 : ICode := .kill 164 [1, 2, 3, 12, 13, 14] (.ops c15r15)
def c15l6 : ICode := (.seq (.seq c15k15 c15s14) c15s13)
def c15s16 : ICode := (.block 8 (.loop c15l6))
def c15r17 : List Seg := [
 zm 111 13,
 zo 112 (.bin .add (.t 111) (.c (.int .i64 1))),
 zm 14 112]
def c15k17 : ICode := .kill 164 [1, 2, 3, 12, 13] (.ops c15r17)
def c15s18 : ICode := (.seq (.block 7 (.seq c15k17 c15s16)) c15k5)
def c15s19 : ICode := (.cond (.t 108) .skip (.exit 6))
def c15r20 : List Seg := [
 zm 105 13,
 zo 106 (.fieldA 0 (.t 3)),
 zo 107 (.load1 (.t 106)),
 zo 108 (.bin .lss (.t 105) (.t 107))]
def c15k20 : ICode := .kill 164 [1, 2, 3, 12, 13] (.ops c15r20)
def c15l4 : ICode := (.seq (.seq c15k20 c15s19) c15s18)
def c15s21 : ICode := (.block 6 (.loop c15l4))
def c15r22 : List Seg := [
 zm 103 12,
 zo 104 (.bin .add (.t 103) (.c (.int .i64 1))),
 zm 13 104]
def c15k22 : ICode := .kill 164 [1, 2, 3, 12] (.ops c15r22)
def c15s23 : ICode := (.seq (.block 5 (.seq c15k22 c15s21)) c15k3)
def c15s24 : ICode := (.cond (.t 100) .skip (.exit 4))
def c15r25 : List Seg := [
 zm 97 12,
 zo 98 (.fieldA 0 (.t 3)),
 zo 99 (.load1 (.t 98)),
 zo 100 (.bin .lss (.t 97) (.t 99))]
def c15k25 : ICode := .kill 164 [1, 2, 3, 12] (.ops c15r25)
def c15l2 : ICode := (.seq (.seq c15k25 c15s24) c15s23)
def c15s26 : ICode := (.block 4 (.loop c15l2))
def c15r27 : List Seg := [
 zo 12 (.mv (.c (.int .i64 0)))]
def c15k27 : ICode := .kill 164 [1, 2, 3] (.ops c15r27)
def c15s28 : ICode := (.seq (.seq c15k27 c15s26) c15s1)
def c15r30 : List Seg := [
 zm 81 10,
 zo 82 (.bin .add (.t 81) (.c (.int .i64 1))),
 zm 10 82]
def c15k30 : ICode := .kill 164 [1, 2, 3, 4, 10] (.ops c15r30)
def c15r31 : List Seg := [
 zm 88 11,
 zm 89 10,
 zo 90 (.bin .quo (.t 89) (.c (.int .i64 6))),
 zm 91 10,
 zo 92 (.bin .rem (.t 91) (.c (.int .i64 6))),
 zo 93 (.mkagg [.int .i64 0, .int .i64 0] [(0, 1, (.t 90)), (1, 1, (.t 92))]),
 zo 94 (.mkslice 1 [.int .i64 0, .int .i64 0] [(0, 2, (.t 93))]),
 zo 95 (.app 2 16 (.t 88) (.t 94)),
 zo 96 (.fieldA 1 (.t 3)),
 .one ⟨none, .store1 (.t 96) (.t 95), none⟩]
def c15k31 : ICode := .kill 164 [1, 2, 3, 4, 10, 11] (.ops c15r31)
def c15s32 : ICode := (.cond (.t 87) c15k31 .skip)
def c15r33 : List Seg := [
 zm 85 10,
 zo 86 (.idxA 36 1 (.t 4) (.t 85)),
 zo 87 (.load1 (.t 86))]
def c15k33 : ICode := .kill 164 [1, 2, 3, 4, 10, 11] (.ops c15r33)
def c15s34 : ICode := (.seq c15k33 c15s32)
def c15r35 : List Seg := [
 zo 83 (.fieldA 1 (.t 3)),
 zo 84 (.load1 (.t 83)),
 zm 11 84]
def c15k35 : ICode := .kill 164 [1, 2, 3, 4, 10] (.ops c15r35)
def c15s36 : ICode := (.seq (.block 3 (.seq c15k35 c15s34)) c15k30)
def c15s37 : ICode := (.cond (.t 80) .skip (.exit 2))
def c15r38 : List Seg := [
 zm 79 10,
 zo 80 (.bin .lss (.t 79) (.c (.int .i64 36)))]
def c15k38 : ICode := .kill 164 [1, 2, 3, 4, 10] (.ops c15r38)
def c15l29 : ICode := (.seq (.seq c15k38 c15s37) c15s36)
def c15s39 : ICode := (.block 2 (.loop c15l29))
def c15r40 : List Seg := [
 zo 10 (.mv (.c (.int .i64 0)))]
def c15k40 : ICode := .kill 164 [1, 2, 3, 4] (.ops c15r40)
def c15s41 : ICode := (.seq (.seq c15k40 c15s39) c15s28)
def c15r43 : List Seg := [
 zm 32 6,
 zo 33 (.bin .add (.t 32) (.c (.int .i64 1))),
 zm 6 33]
def c15k43 : ICode := .kill 164 [1, 2, 3, 4, 5, 6] (.ops c15r43)
def c15r44 : List Seg := [
 zm 77 5,
 zo 78 (.bin .add (.t 77) (.c (.int .i64 1))),
 zm 5 78]
def c15k44 : ICode := .kill 164 [1, 2, 3, 4, 5, 6] (.ops c15r44)
def c15r45 : List Seg := [
 zm 75 9,
 zo 76 (.idxA 36 1 (.t 4) (.t 75)),
 .one ⟨none, .store1 (.t 76) (.c (.bool true)), none⟩]
def c15k45 : ICode := .kill 164 [1, 2, 3, 4, 5, 6, 9] (.ops c15r45)
def c15s46 : ICode := (.cond (.t 74) (.seq c15k45 c15k44) .skip)
def c15r47 : List Seg := [
 zm 66 7,
 zm 67 8,
 zo 68 (.bin .neq (.t 66) (.t 67)),
 zm 69 68,
 .one ⟨some 70, .mv (.t 9), some (69, true)⟩,
 .one ⟨some 71, .idxA 36 1 (.t 4) (.t 70), some (69, true)⟩,
 .one ⟨some 72, .load1 (.t 71), some (69, true)⟩,
 .one ⟨some 73, .un .not (.t 72), some (69, true)⟩,
 zo 74 (.pick (.t 69) (.t 73) (.c (.bool false)))]
def c15k47 : ICode := .kill 164 [1, 2, 3, 4, 5, 6, 7, 8, 9] (.ops c15r47)
def c15s48 : ICode := (.seq c15k47 c15s46)
def c15r49 : List Seg := [
 zm 58 7,
 zm 59 8,
 zo 60 (.mn [(.t 58), (.t 59)]),
 zo 61 (.bin .mul (.t 60) (.c (.int .i64 6))),
 zm 62 7,
 zm 63 8,
 zo 64 (.mx [(.t 62), (.t 63)]),
 zo 65 (.bin .add (.t 61) (.t 64)),
 zm 9 65]
def c15k49 : ICode := .kill 164 [1, 2, 3, 4, 5, 6, 7, 8] (.ops c15r49)
def c15s50 : ICode := (.seq c15k49 c15s48)
def c15r51 : List Seg := [
 .grp [(zp 34 (.fieldA 1 (.t 1)), 0), (zp 35 (.load1 (.t 34)), 1), (zn 36 6, 0), (zp 37 (.idxS 2 (.t 35) (.t 36)), 7), (zp 38 (.idxA 2 1 (.t 37) (.c (.int .i64 0))), 15), (zp 39 (.load1 (.t 38)), 31), (zp 40 (.conv .u64 (.t 39)), 63), (zp 41 (.fieldA 0 (.t 3)), 0), (zp 42 (.load1 (.t 41)), 128), (zp 43 (.conv .u64 (.t 42)), 384), (zp 44 (.bin .rem (.t 40) (.t 43)), 1023), (zp 45 (.conv .i64 (.t 44)), 2047), (zp 46 (.fieldA 1 (.t 1)), 0), (zp 47 (.load1 (.t 46)), 4096), (zn 48 6, 0), (zp 49 (.idxS 2 (.t 47) (.t 48)), 28672), (zp 50 (.idxA 2 1 (.t 49) (.c (.int .i64 1))), 61440), (zp 51 (.load1 (.t 50)), 126976), (zp 52 (.conv .u64 (.t 51)), 258048), (zp 53 (.fieldA 0 (.t 3)), 0), (zp 54 (.load1 (.t 53)), 524288), (zp 55 (.conv .u64 (.t 54)), 1572864), (zp 56 (.bin .rem (.t 52) (.t 55)), 4190208), (zp 57 (.conv .i64 (.t 56)), 8384512), (zn 7 45, 4095)],
 zm 8 57]
def c15k51 : ICode := .kill 164 [1, 2, 3, 4, 5, 6] (.ops c15r51)
def c15s52 : ICode := (.seq (.block 1 (.seq c15k51 c15s50)) c15k43)
def c15s53 : ICode := (.cond (.t 31) .skip (.exit 0))
def c15r54 : List Seg := [
 zm 23 6,
 zo 24 (.fieldA 1 (.t 1)),
 zo 25 (.load1 (.t 24)),
 zo 26 (.len 0 (.t 25)),
 zo 27 (.bin .lss (.t 23) (.t 26)),
 zm 28 27,
 .one ⟨some 29, .mv (.t 5), some (28, true)⟩,
 .one ⟨some 30, .bin .lss (.t 29) (.c (.int .i64 10)), some (28, true)⟩,
 zo 31 (.pick (.t 28) (.t 30) (.c (.bool false)))]
def c15k54 : ICode := .kill 164 [1, 2, 3, 4, 5, 6] (.ops c15r54)
def c15l42 : ICode := (.seq (.seq c15k54 c15s53) c15s52)
def c15s55 : ICode := (.block 0 (.loop c15l42))
def c15r56 : List Seg := [
 zo 6 (.mv (.c (.int .i64 0)))]
def c15k56 : ICode := .kill 164 [1, 2, 3, 4, 5] (.ops c15r56)
def c15s57 : ICode := (.seq (.seq c15k56 c15s55) c15s41)
def c15r58 : List Seg := [
 zo 5 (.mv (.c (.int .i64 0)))]
def c15k58 : ICode := .kill 164 [1, 2, 3, 4] (.ops c15r58)
def c15s59 : ICode := (.seq c15k58 c15s57)
def c15r60 : List Seg := [
 zo 4 (.box (.c (.agg (List.replicate 36 (.bool false)))))]
def c15k60 : ICode := .kill 164 [1, 2, 3] (.ops c15r60)
def c15s61 : ICode := (.seq c15k60 c15s59)
def c15r62 : List Seg := [
 zo 16 (.fieldA 0 (.t 1)),
 zo 17 (.load1 (.t 16)),
 zo 18 (.conv .u64 (.t 17)),
 zo 19 (.bin .rem (.t 18) (.c (.int .u64 6))),
 zo 20 (.conv .i64 (.t 19)),
 zo 21 (.bin .add (.c (.int .i64 1)) (.t 20)),
 zo 22 (.mkagg [.int .i64 0, .nilslice, .nilslice] [(0, 1, (.t 21))]),
 zo 3 (.box (.c (.agg [.int .i64 0, .nilslice, .nilslice]))),
 .one ⟨none, .storeN 3 (.t 3) (.t 22), none⟩]
def c15k62 : ICode := .kill 164 [1, 2] (.ops c15r62)
def c15s63 : ICode := (.seq c15k62 c15s61)
def c15r64 : List Seg := [
 zo 1 (.box (.t 0)),
 zo 2 (.box (.c (.agg [.int .i64 0, .nilslice, .nilslice])))]
def c15k64 : ICode := .kill 164 [0] (.ops c15r64)
def c15b : ICode := (.seq c15k64 c15s63)
def c15 : IFn := ⟨164, [.cellN 2 3], c15b⟩
def h15 : List (Nat × Nat × List Nat) := [(0, (164, [0])), (1, (164, [1, 2])), (2, (164, [1, 2, 3])), (3, (164, [1, 2, 3, 4])), (4, (164, [1, 2, 3, 4, 5])), (5, (164, [1, 2, 3, 4, 5, 6])), (7, (164, [1, 2, 3, 4, 5, 6])), (8, (164, [1, 2, 3, 4, 5, 6, 7, 8])), (9, (164, [1, 2, 3, 4, 5, 6, 7, 8, 9])), (10, (164, [1, 2, 3, 4, 5, 6, 9])), (11, (164, [1, 2, 3, 4, 5, 6])), (6, (164, [1, 2, 3, 4, 5, 6])), (12, (164, [1, 2, 3, 4])), (13, (164, [1, 2, 3, 4, 10])), (15, (164, [1, 2, 3, 4, 10])), (16, (164, [1, 2, 3, 4, 10, 11])), (17, (164, [1, 2, 3, 4, 10, 11])), (14, (164, [1, 2, 3, 4, 10])), (18, (164, [1, 2, 3])), (19, (164, [1, 2, 3, 12])), (21, (164, [1, 2, 3, 12])), (22, (164, [1, 2, 3, 12, 13])), (24, (164, [1, 2, 3, 12, 13])), (25, (164, [1, 2, 3, 12, 13, 14])), (27, (164, [1, 2, 3, 12, 13, 14])), (28, (164, [1, 2, 3, 12, 13, 14, 15])), (29, (164, [1, 2, 3, 12, 13, 14, 15])), (26, (164, [1, 2, 3, 12, 13, 14])), (23, (164, [1, 2, 3, 12, 13])), (20, (164, [1, 2, 3, 12])), (30, (164, [2, 3]))]
def c16r0 : List Seg := [
 zo 77 (.fieldA 1 (.t 1)),
 zo 78 (.load1 (.t 77)),
 zo 79 (.len 0 (.t 78)),
 zo 80 (.fieldA 0 (.t 1)),
 zo 81 (.load1 (.t 80)),
 zm 82 14,
 zo 83 (.bin .sub (.t 81) (.t 82)),
 zo 84 (.bin .sub (.t 79) (.t 83)),
 zm 85 11,
 zo 86 (.bin .sub (.t 84) (.t 85)),
 zm 2 86,
 zo 3 (.mv (.c (.int .i64 0)))]
def c16k0 : ICode := .kill 87 [1, 11, 14] (.ops c16r0)
def c16s1 : ICode := (.seq c16k0 .ret)
def c16r2 : List Seg := [
 zo 73 (.loadN 3 (.t 1)),
 zo 74 (.call [] (.c (.func 50 [])) [(.t 73)]),
 zm 72 74,
 zo 75 (.ext (.t 72) 0),
 zo 76 (.ext (.t 72) 1),
 zm 14 75,
 zm 15 76]
def c16k2 : ICode := .kill 87 [1, 11] (.ops c16r2)
def c16s3 : ICode := (.seq c16k2 c16s1)
def c16r5 : List Seg := [
 zo 71 (.bin .add (.t 63) (.c (.int .i64 1))),
 zm 63 71]
def c16k5 : ICode := .kill 87 [1, 11, 61, 62, 63] (.ops c16r5)
def c16r6 : List Seg := [
 zm 69 11,
 zo 70 (.bin .add (.t 69) (.c (.int .i64 1))),
 zm 11 70]
def c16k6 : ICode := .kill 87 [1, 11, 61, 62, 63] (.ops c16r6)
def c16s7 : ICode := (.cond (.t 68) c16k6 .skip)
def c16r8 : List Seg := [
 zm 67 13,
 zo 68 (.bin .geq (.t 67) (.c (.int .i64 0)))]
def c16k8 : ICode := .kill 87 [1, 11, 13, 61, 62, 63] (.ops c16r8)
def c16s9 : ICode := (.seq c16k8 c16s7)
def c16r10 : List Seg := [
 zo 65 (.idxS 1 (.t 61) (.t 63)),
 zo 66 (.load1 (.t 65)),
 zm 13 66]
def c16k10 : ICode := .kill 87 [1, 11, 61, 62, 63] (.ops c16r10)
def c16s11 : ICode := (.seq (.block 7 (.seq c16k10 c16s9)) c16k5)
def c16s12 : ICode := (.seq (.cond (.t 64) .skip (.exit 6)) c16s11)
def c16r13 : List Seg := [
 zo 64 (.bin .lss (.t 63) (.t 62))]
def c16k13 : ICode := .kill 87 [1, 11, 61, 62, 63] (.ops c16r13)
def c16l4 : ICode := (.seq c16k13 c16s12)
def c16s14 : ICode := (.block 6 (.loop c16l4))
def c16r15 : List Seg := [
 zm 56 5,
 zo 57 (.fieldA 1 (.t 1)),
 zo 58 (.load1 (.t 57)),
 zo 59 (.len 0 (.t 58)),
 zo 60 (.loadN 2 (.c (.ptr 0 0))),
 zo 61 (.call [] (.c (.func 64 [])) [(.t 56), (.t 59), (.t 60)]),
 zo 62 (.len 0 (.t 61)),
 zo 63 (.mv (.c (.int .i64 0)))]
def c16k15 : ICode := .kill 87 [1, 5, 11] (.ops c16r15)
def c16s16 : ICode := (.seq (.seq c16k15 c16s14) c16s3)
def c16r17 : List Seg := [
 zo 11 (.mv (.c (.int .i64 0)))]
def c16k17 : ICode := .kill 87 [1, 5] (.ops c16r17)
def c16s18 : ICode := (.seq c16k17 c16s16)
def c16r20 : List Seg := [
 zo 55 (.bin .add (.t 24) (.c (.int .i64 1))),
 zm 24 55]
def c16k20 : ICode := .kill 87 [1, 2, 3, 5, 23, 24] (.ops c16r20)
def c16r21 : List Seg := [
 zm 51 5,
 zo 52 (.load1 (.t 7)),
 zo 53 (.mkslice 1 [.nilslice] [(0, 1, (.t 52))]),
 zo 54 (.app 1 24 (.t 51) (.t 53)),
 zm 5 54]
def c16k21 : ICode := .kill 87 [1, 2, 3, 5, 7, 23, 24] (.ops c16r21)
def c16r23 : List Seg := [
 .grp [(zp 46 (.load1 (.t 7)), 0), (zn 47 9, 0), (zn 48 10, 0), (zp 49 (.call [] (.c (.func 63 [])) [(.t 48)]), 4)],
 zo 50 (.idxS 2 (.t 46) (.t 47)),
 .one ⟨none, .storeN 2 (.t 50) (.t 49), none⟩]
def c16k23 : ICode := .kill 87 [7, 9, 10] (.ops c16r23)
def c16r24 : List Seg := [
 zm 10 45]
def c16k24 : ICode := .kill 87 [7, 9, 45] (.ops c16r24)
def c16r25 : List Seg := [
 zm 9 44]
def c16k25 : ICode := .kill 87 [7, 44, 45] (.ops c16r25)
def c16f22a : ICode := (.seq c16k25 c16k24)
def c16f22b : ICode := (.block 5 c16k23)
def c16s26 : ICode := (.block 4 (.rf (.t 43) [44, 45] c16f22a c16f22b))
def c16r27 : List Seg := [
 zo 41 (.loadN 3 (.t 1)),
 zm 42 6,
 zo 43 (.call [] (.c (.func 62 [])) [(.t 41), (.t 42)])]
def c16k27 : ICode := .kill 87 [1, 2, 3, 5, 6, 7, 23, 24] (.ops c16r27)
def c16s28 : ICode := (.seq (.seq c16k27 c16s26) c16k21)
def c16r30 : List Seg := [
 zo 40 (.bin .add (.t 33) (.c (.int .i64 1))),
 zm 33 40]
def c16k30 : ICode := .kill 87 [1, 2, 3, 5, 6, 7, 23, 24, 32, 33] (.ops c16r30)
def c16r31 : List Seg := [
 zo 36 (.load1 (.t 7)),
 zm 37 8,
 zo 38 (.loadN 2 (.c (.ptr 0 0))),
 zo 39 (.idxS 2 (.t 36) (.t 37)),
 .one ⟨none, .storeN 2 (.t 39) (.t 38), none⟩]
def c16k31 : ICode := .kill 87 [1, 2, 3, 5, 6, 7, 8, 23, 24, 32, 33] (.ops c16r31)
def c16r32 : List Seg := [
 zm 35 33,
 zm 8 35]
def c16k32 : ICode := .kill 87 [1, 2, 3, 5, 6, 7, 23, 24, 32, 33] (.ops c16r32)
def c16s33 : ICode := (.seq (.block 3 (.seq c16k32 c16k31)) c16k30)
def c16s34 : ICode := (.seq (.cond (.t 34) .skip (.exit 2)) c16s33)
def c16r35 : List Seg := [
 zo 34 (.bin .lss (.t 33) (.t 32))]
def c16k35 : ICode := .kill 87 [1, 2, 3, 5, 6, 7, 23, 24, 32, 33] (.ops c16r35)
def c16l29 : ICode := (.seq c16k35 c16s34)
def c16s36 : ICode := (.block 2 (.loop c16l29))
def c16r37 : List Seg := [
 zo 31 (.load1 (.t 7)),
 zo 32 (.len 0 (.t 31)),
 zo 33 (.mv (.c (.int .i64 0)))]
def c16k37 : ICode := .kill 87 [1, 2, 3, 5, 6, 7, 23, 24] (.ops c16r37)
def c16s38 : ICode := (.seq (.seq c16k37 c16s36) c16s28)
def c16r39 : List Seg := [
 zo 27 (.fieldA 1 (.t 1)),
 zo 28 (.load1 (.t 27)),
 zo 29 (.len 0 (.t 28)),
 zo 30 (.make [.int .i64 0, .int .i64 0] 16 (.t 29) (.t 29)),
 zo 7 (.box (.c .nilslice)),
 .one ⟨none, .store1 (.t 7) (.t 30), none⟩]
def c16k39 : ICode := .kill 87 [1, 2, 3, 5, 6, 23, 24] (.ops c16r39)
def c16s40 : ICode := (.seq c16k39 c16s38)
def c16r41 : List Seg := [
 zm 26 24,
 zm 6 26]
def c16k41 : ICode := .kill 87 [1, 2, 3, 5, 23, 24] (.ops c16r41)
def c16s42 : ICode := (.seq (.block 1 (.seq c16k41 c16s40)) c16k20)
def c16s43 : ICode := (.seq (.cond (.t 25) .skip (.exit 0)) c16s42)
def c16r44 : List Seg := [
 zo 25 (.bin .lss (.t 24) (.t 23))]
def c16k44 : ICode := .kill 87 [1, 2, 3, 5, 23, 24] (.ops c16r44)
def c16l19 : ICode := (.seq c16k44 c16s43)
def c16s45 : ICode := (.block 0 (.loop c16l19))
def c16r46 : List Seg := [
 zo 21 (.fieldA 2 (.t 1)),
 zo 22 (.load1 (.t 21)),
 zo 23 (.len 0 (.t 22)),
 zo 24 (.mv (.c (.int .i64 0)))]
def c16k46 : ICode := .kill 87 [1, 2, 3, 5] (.ops c16r46)
def c16s47 : ICode := (.seq (.seq c16k46 c16s45) c16s18)
def c16r48 : List Seg := [
 zo 5 (.mv (.c .nilslice))]
def c16k48 : ICode := .kill 87 [1, 2, 3] (.ops c16r48)
def c16s49 : ICode := (.seq c16k48 c16s47)
def c16r50 : List Seg := [
 zm 20 4,
 zo 2 (.mv (.c (.int .i64 0))),
 zm 3 20]
def c16k50 : ICode := .kill 87 [4] (.ops c16r50)
def c16s51 : ICode := (.cond (.t 19) (.seq c16k50 .ret) .skip)
def c16r52 : List Seg := [
 zm 18 4,
 zo 19 (.bin .neq (.t 18) (.c (.int .i64 0)))]
def c16k52 : ICode := .kill 87 [1, 2, 3, 4] (.ops c16r52)
def c16s53 : ICode := (.seq c16k52 c16s51)
def c16r54 : List Seg := [
 zo 16 (.loadN 3 (.t 1)),
 zo 17 (.call [] (.c (.func 59 [])) [(.t 16)]),
 zm 4 17]
def c16k54 : ICode := .kill 87 [1, 2, 3] (.ops c16r54)
def c16s55 : ICode := (.seq (.seq c16k54 c16s53) c16s49)
def c16r56 : List Seg := [
 zo 1 (.box (.t 0)),
 zo 2 (.mv (.c (.int .i64 0))),
 zo 3 (.mv (.c (.int .i64 0)))]
def c16k56 : ICode := .kill 87 [0] (.ops c16r56)
def c16b : ICode := (.seq c16k56 c16s55)
def c16 : IFn := ⟨87, [.t 2, .t 3], c16b⟩
def h16 : List (Nat × Nat × List Nat) := [(0, (87, [0])), (1, (87, [1, 2, 3])), (2, (87, [1, 2, 3, 4])), (3, (87, [4])), (4, (87, [1, 2, 3])), (5, (87, [1, 2, 3, 5])), (6, (87, [1, 2, 3, 5, 23, 24])), (7, (87, [1, 2, 3, 5, 23, 24])), (8, (87, [1, 2, 3, 5, 6, 23, 24])), (9, (87, [1, 2, 3, 5, 6, 7, 23, 24])), (10, (87, [1, 2, 3, 5, 6, 7, 23, 24, 32, 33])), (11, (87, [1, 2, 3, 5, 6, 7, 23, 24, 32, 33])), (12, (87, [1, 2, 3, 5, 6, 7, 8, 23, 24, 32, 33])), (13, (87, [1, 2, 3, 5, 6, 7, 23, 24, 32, 33])), (14, (87, [1, 2, 3, 5, 6, 7, 23, 24])), (15, (87, [7, 44, 45])), (16, (87, [7, 9, 45])), (17, (87, [7, 9, 10])), (18, (87, [1, 2, 3, 5, 7, 23, 24])), (19, (87, [1, 2, 3, 5, 23, 24])), (20, (87, [1, 5])), (21, (87, [1, 5, 11])), (22, (87, [1, 11, 61, 62, 63])), (23, (87, [1, 11, 61, 62, 63])), (24, (87, [1, 11, 13, 61, 62, 63])), (25, (87, [1, 11, 61, 62, 63])), (26, (87, [1, 11, 61, 62, 63])), (27, (87, [1, 11])), (28, (87, [1, 11, 14]))]
def c17r0 : List Seg := [
 .grp [(zp 5 (.fieldA 0 (.t 1)), 0), (zp 6 (.load1 (.t 5)), 1), (zn 7 3, 0), (zp 8 (.fieldA 1 (.t 1)), 0), (zp 9 (.load1 (.t 8)), 8), (zp 10 (.app 2 16 (.t 7) (.t 9)), 28), (zn 11 4, 0), (zp 12 (.fieldA 2 (.t 1)), 0), (zp 13 (.load1 (.t 12)), 128), (zp 14 (.app 3 24 (.t 11) (.t 13)), 508)],
 zo 15 (.mkagg [.int .i64 0, .nilslice, .nilslice] [(0, 1, (.t 6)), (1, 1, (.t 10)), (2, 1, (.t 14))]),
 .one ⟨none, .storeN 3 (.t 2) (.t 15), none⟩]
def c17k0 : ICode := .kill 16 [1, 2, 3, 4] (.ops c17r0)
def c17s1 : ICode := (.seq c17k0 .ret)
def c17r2 : List Seg := [
 zo 4 (.mv (.c .nilslice))]
def c17k2 : ICode := .kill 16 [1, 2, 3] (.ops c17r2)
def c17s3 : ICode := (.seq c17k2 c17s1)
def c17r4 : List Seg := [
 zo 3 (.mv (.c .nilslice))]
def c17k4 : ICode := .kill 16 [1, 2] (.ops c17r4)
def c17s5 : ICode := (.seq c17k4 c17s3)
def c17r6 : List Seg := [
 zo 1 (.box (.t 0)),
 zo 2 (.box (.c (.agg [.int .i64 0, .nilslice, .nilslice])))]
def c17k6 : ICode := .kill 16 [0] (.ops c17r6)
def c17b : ICode := (.seq c17k6 c17s5)
def c17 : IFn := ⟨16, [.cellN 2 3], c17b⟩
def h17 : List (Nat × Nat × List Nat) := [(0, (16, [0])), (1, (16, [1, 2])), (2, (16, [1, 2, 3])), (3, (16, [1, 2, 3, 4]))]
def c19r0 : List Seg := [
 zm 62 3,
 zo 63 (.bin .eql (.t 62) (.c (.int .i64 0))),
 zm 64 63,
 .one ⟨some 65, .idxA 3 1 (.t 2) (.c (.int .i64 0)), some (64, true)⟩,
 .one ⟨some 66, .load1 (.t 65), some (64, true)⟩,
 .one ⟨some 67, .mkagg [.int .i64 0, .int .i64 0] [(0, 1, (.c (.int .i64 2))), (1, 1, (.c (.int .i64 3)))], some (64, true)⟩,
 .one ⟨some 68, .mkagg [.int .i64 0, .int .i64 0] [(0, 1, (.c (.int .i64 4))), (1, 1, (.c (.int .i64 3)))], some (64, true)⟩,
 .one ⟨some 69, .mkagg [.int .i64 0, .int .i64 0] [(0, 1, (.c (.int .i64 2))), (1, 1, (.c (.int .i64 3)))], some (64, true)⟩,
 .one ⟨some 70, .mkslice 3 [.int .i64 0, .int .i64 0, .int .i64 0, .int .i64 0, .int .i64 0, .int .i64 0] [(0, 2, (.t 67)), (2, 2, (.t 68)), (4, 2, (.t 69))], some (64, true)⟩,
 .one ⟨some 71, .call [] (.c (.func 28 [])) [(.t 66), (.t 70)], some (64, true)⟩,
 zo 72 (.pick (.t 64) (.t 71) (.c (.bool false))),
 zm 73 72,
 .one ⟨some 74, .idxA 3 1 (.t 2) (.c (.int .i64 2)), some (73, true)⟩,
 .one ⟨some 75, .load1 (.t 74), some (73, true)⟩,
 .one ⟨some 76, .mkagg [.int .i64 0, .int .i64 0] [(0, 1, (.c (.int .i64 1))), (1, 1, (.c (.int .i64 3)))], some (73, true)⟩,
 .one ⟨some 77, .mkagg [.int .i64 0, .int .i64 0] [(0, 1, (.c (.int .i64 (-1)))), (1, 1, (.c (.int .i64 3)))], some (73, true)⟩,
 .one ⟨some 78, .mkagg [.int .i64 0, .int .i64 0] [(0, 1, (.c (.int .i64 1))), (1, 1, (.c (.int .i64 3)))], some (73, true)⟩,
 .one ⟨some 79, .mkslice 3 [.int .i64 0, .int .i64 0, .int .i64 0, .int .i64 0, .int .i64 0, .int .i64 0] [(0, 2, (.t 76)), (2, 2, (.t 77)), (4, 2, (.t 78))], some (73, true)⟩,
 .one ⟨some 80, .call [] (.c (.func 28 [])) [(.t 75), (.t 79)], some (73, true)⟩,
 zo 81 (.pick (.t 73) (.t 80) (.c (.bool false))),
 zm 82 81,
 .one ⟨some 83, .mv (.t 6), some (82, true)⟩,
 .one ⟨some 84, .bin .eql (.t 83) (.c (.int .i64 0)), some (82, true)⟩,
 zo 85 (.pick (.t 82) (.t 84) (.c (.bool false))),
 zm 86 85,
 .one ⟨some 87, .mv (.t 5), some (86, true)⟩,
 .one ⟨some 88, .un .not (.t 87), some (86, true)⟩,
 zo 89 (.pick (.t 86) (.t 88) (.c (.bool false))),
 zm 90 89,
 .one ⟨some 91, .mv (.t 9), some (90, true)⟩,
 .one ⟨some 92, .bin .eql (.t 91) (.c (.int .i64 0)), some (90, true)⟩,
 zo 93 (.pick (.t 90) (.t 92) (.c (.bool false))),
 zm 94 93,
 .one ⟨some 95, .mv (.t 8), some (94, true)⟩,
 zo 96 (.pick (.t 94) (.t 95) (.c (.bool false))),
 zm 97 96,
 .one ⟨some 98, .mv (.t 7), some (97, true)⟩,
 .one ⟨some 99, .mkslice 2 [.int .i64 0, .int .i64 0] [(0, 1, (.c (.int .i64 0))), (1, 1, (.c (.int .i64 7)))], some (97, true)⟩,
 .one ⟨some 100, .call [] (.c (.func 27 [])) [(.t 98), (.t 99)], some (97, true)⟩,
 zo 101 (.pick (.t 97) (.t 100) (.c (.bool false))),
 zm 102 101,
 .one ⟨some 103, .mv (.t 11), some (102, true)⟩,
 .one ⟨some 104, .bin .eql (.t 103) (.c (.int .i64 0)), some (102, true)⟩,
 zo 105 (.pick (.t 102) (.t 104) (.c (.bool false))),
 zm 106 105,
 .one ⟨some 107, .mv (.t 10), some (106, true)⟩,
 .one ⟨some 108, .bin .eql (.t 107) (.c (.int .i64 1)), some (106, true)⟩,
 zo 109 (.pick (.t 106) (.t 108) (.c (.bool false))),
 zm 110 109,
 .one ⟨some 111, .mv (.t 14), some (110, true)⟩,
 .one ⟨some 112, .bin .eql (.t 111) (.c (.int .i64 0)), some (110, true)⟩,
 zo 113 (.pick (.t 110) (.t 112) (.c (.bool false))),
 zm 114 113,
 .one ⟨some 115, .mv (.t 13), some (114, true)⟩,
 .one ⟨some 116, .bin .eql (.t 115) (.c (.int .i64 0)), some (114, true)⟩,
 zo 117 (.pick (.t 114) (.t 116) (.c (.bool false))),
 zm 118 117,
 .one ⟨some 119, .mkagg [.int .i64 0, .nilslice, .nilslice] [], some (118, true)⟩,
 .one ⟨some 120, .call [] (.c (.func 59 [])) [(.t 119)], some (118, true)⟩,
 .one ⟨some 121, .bin .eql (.t 120) (.c (.int .i64 30)), some (118, true)⟩,
 zo 122 (.pick (.t 118) (.t 121) (.c (.bool false))),
 zm 0 122]
def c19k0 : ICode := .kill 123 [2, 3, 5, 6, 7, 8, 9, 10, 11, 13, 14] (.ops c19r0)
def c19s1 : ICode := (.seq c19k0 .ret)
def c19r2 : List Seg := [
 zo 58 (.loadN 3 (.t 12)),
 zo 59 (.call [] (.c (.func 16 [])) [(.t 58)]),
 zm 57 59,
 zo 60 (.ext (.t 57) 0),
 zo 61 (.ext (.t 57) 1),
 zm 13 60,
 zm 14 61]
def c19k2 : ICode := .kill 123 [2, 3, 5, 6, 7, 8, 9, 10, 11, 12] (.ops c19r2)
def c19s3 : ICode := (.seq c19k2 c19s1)
def c19r4 : List Seg := [
 zo 52 (.fieldA 1 (.t 1)),
 zo 53 (.load1 (.t 52)),
 zo 54 (.mkagg [.int .i64 0, .int .i64 0, .int .i64 0] [(0, 1, (.c (.int .i64 0))), (1, 1, (.c (.int .i64 1))), (2, 1, (.c (.int .i64 2)))]),
 zo 55 (.mkslice 1 [.int .i64 0, .int .i64 0, .int .i64 0] [(0, 3, (.t 54))]),
 zo 56 (.mkagg [.int .i64 0, .nilslice, .nilslice] [(0, 1, (.c (.int .i64 3))), (1, 1, (.t 53)), (2, 1, (.t 55))]),
 zo 12 (.box (.c (.agg [.int .i64 0, .nilslice, .nilslice]))),
 .one ⟨none, .storeN 3 (.t 12) (.t 56), none⟩]
def c19k4 : ICode := .kill 123 [1, 2, 3, 5, 6, 7, 8, 9, 10, 11] (.ops c19r4)
def c19s5 : ICode := (.seq c19k4 c19s3)
def c19r6 : List Seg := [
 zo 43 (.mkagg [.int .i64 0, .int .i64 0] [(0, 1, (.c (.int .i64 0))), (1, 1, (.c (.int .i64 1)))]),
 zo 44 (.mkagg [.int .i64 0, .int .i64 0] [(0, 1, (.c (.int .i64 0))), (1, 1, (.c (.int .i64 3)))]),
 zo 45 (.mkagg [.int .i64 0, .int .i64 0] [(0, 1, (.c (.int .i64 1))), (1, 1, (.c (.int .i64 2)))]),
 zo 46 (.mkagg [.int .i64 0, .int .i64 0] [(0, 1, (.c (.int .i64 2))), (1, 1, (.c (.int .i64 3)))]),
 zo 47 (.mkslice 4 [.int .i64 0, .int .i64 0, .int .i64 0, .int .i64 0, .int .i64 0, .int .i64 0, .int .i64 0, .int .i64 0] [(0, 2, (.t 43)), (2, 2, (.t 44)), (4, 2, (.t 45)), (6, 2, (.t 46))]),
 zo 48 (.mkagg [.int .i64 0, .nilslice, .nilslice] [(0, 1, (.c (.int .i64 4))), (1, 1, (.t 47))]),
 zo 49 (.call [] (.c (.func 16 [])) [(.t 48)]),
 zm 42 49,
 zo 50 (.ext (.t 42) 0),
 zo 51 (.ext (.t 42) 1),
 zm 10 50,
 zm 11 51]
def c19k6 : ICode := .kill 123 [1, 2, 3, 5, 6, 7, 8, 9] (.ops c19r6)
def c19s7 : ICode := (.seq c19k6 c19s5)
def c19r8 : List Seg := [
 zo 34 (.mkagg [.int .i64 0, .int .i64 0] [(0, 1, (.c (.int .i64 0))), (1, 1, (.c (.int .i64 1)))]),
 zo 35 (.mkslice 1 [.int .i64 0, .int .i64 0] [(0, 2, (.t 34))]),
 zo 36 (.mkagg [.int .i64 0, .nilslice, .nilslice] [(0, 1, (.c (.int .i64 2))), (1, 1, (.t 35))]),
 zo 37 (.mkslice 1 [.int .i64 0] [(0, 1, (.c (.int .i64 7)))]),
 zo 38 (.call [] (.c (.func 41 [])) [(.t 36), (.t 37)]),
 zm 33 38,
 zo 39 (.ext (.t 33) 0),
 zo 40 (.ext (.t 33) 1),
 zo 41 (.ext (.t 33) 2),
 zm 7 39,
 zm 8 40,
 zm 9 41]
def c19k8 : ICode := .kill 123 [1, 2, 3, 5, 6] (.ops c19r8)
def c19s9 : ICode := (.seq c19k8 c19s7)
def c19r10 : List Seg := [
 zo 27 (.loadN 3 (.t 1)),
 zo 28 (.mkslice 3 [.int .i64 0, .int .i64 0, .int .i64 0] [(0, 1, (.c (.int .i64 1))), (1, 1, (.c (.int .i64 1))), (2, 1, (.c (.int .i64 1)))]),
 zo 29 (.call [] (.c (.func 41 [])) [(.t 27), (.t 28)]),
 zm 26 29,
 zo 30 (.ext (.t 26) 0),
 zo 31 (.ext (.t 26) 1),
 zo 32 (.ext (.t 26) 2),
 zm 4 30,
 zm 5 31,
 zm 6 32]
def c19k10 : ICode := .kill 123 [1, 2, 3] (.ops c19r10)
def c19s11 : ICode := (.seq c19k10 c19s9)
def c19r12 : List Seg := [
 zo 21 (.loadN 3 (.t 1)),
 zo 22 (.mkslice 3 [.int .i64 0, .int .i64 0, .int .i64 0] [(0, 1, (.c (.int .i64 1))), (1, 1, (.c (.int .i64 1))), (2, 1, (.c (.int .i64 1)))]),
 zo 23 (.call [] (.c (.func 23 [])) [(.t 21), (.t 22)]),
 zm 20 23,
 zo 24 (.ext (.t 20) 0),
 zo 25 (.ext (.t 20) 1),
 zo 2 (.box (.c (.agg [.nilslice, .nilslice, .nilslice]))),
 .one ⟨none, .storeN 3 (.t 2) (.t 24), none⟩,
 zm 3 25]
def c19k12 : ICode := .kill 123 [1] (.ops c19r12)
def c19s13 : ICode := (.seq c19k12 c19s11)
def c19r14 : List Seg := [
 zo 15 (.mkagg [.int .i64 0, .int .i64 0] [(0, 1, (.c (.int .i64 0))), (1, 1, (.c (.int .i64 1)))]),
 zo 16 (.mkagg [.int .i64 0, .int .i64 0] [(0, 1, (.c (.int .i64 0))), (1, 1, (.c (.int .i64 2)))]),
 zo 17 (.mkagg [.int .i64 0, .int .i64 0] [(0, 1, (.c (.int .i64 1))), (1, 1, (.c (.int .i64 2)))]),
 zo 18 (.mkslice 3 [.int .i64 0, .int .i64 0, .int .i64 0, .int .i64 0, .int .i64 0, .int .i64 0] [(0, 2, (.t 15)), (2, 2, (.t 16)), (4, 2, (.t 17))]),
 zo 19 (.mkagg [.int .i64 0, .nilslice, .nilslice] [(0, 1, (.c (.int .i64 3))), (1, 1, (.t 18))]),
 zo 1 (.box (.c (.agg [.int .i64 0, .nilslice, .nilslice]))),
 .one ⟨none, .storeN 3 (.t 1) (.t 19), none⟩]
def c19k14 : ICode := .kill 123 [] (.ops c19r14)
def c19s15 : ICode := (.seq c19k14 c19s13)
def c19r16 : List Seg := [
 zo 0 (.mv (.c (.bool false)))]
def c19k16 : ICode := .kill 123 [] (.ops c19r16)
def c19b : ICode := (.seq c19k16 c19s15)
def c19 : IFn := ⟨123, [.t 0], c19b⟩
def h19 : List (Nat × Nat × List Nat) := [(0, (123, [])), (1, (123, [])), (2, (123, [1])), (3, (123, [1, 2, 3])), (4, (123, [1, 2, 3, 5, 6])), (5, (123, [1, 2, 3, 5, 6, 7, 8, 9])), (6, (123, [1, 2, 3, 5, 6, 7, 8, 9, 10, 11])), (7, (123, [2, 3, 5, 6, 7, 8, 9, 10, 11, 12])), (8, (123, [2, 3, 5, 6, 7, 8, 9, 10, 11, 13, 14]))]
def c20r0 : List Seg := [
 zm 29 5,
 zm 4 29]
def c20k0 : ICode := .kill 30 [5] (.ops c20r0)
def c20s1 : ICode := (.seq c20k0 .ret)
def c20r3 : List Seg := [
 zm 11 6,
 zo 12 (.bin .add (.t 11) (.c (.int .i64 1))),
 zm 6 12]
def c20k3 : ICode := .kill 30 [0, 1, 5, 6] (.ops c20r3)
def c20r4 : List Seg := [
 zm 25 5,
 zm 26 7,
 zo 27 (.mkslice 1 [.int .i64 0] [(0, 1, (.t 26))]),
 zo 28 (.app 1 8 (.t 25) (.t 27)),
 zm 5 28]
def c20k4 : ICode := .kill 30 [0, 1, 5, 6, 7] (.ops c20r4)
def c20r5 : List Seg := [
 zm 17 0,
 zm 18 6,
 zo 19 (.idxS 1 (.t 17) (.t 18)),
 zo 20 (.load1 (.t 19)),
 zo 21 (.conv .u64 (.t 20)),
 zo 22 (.bin .rem (.t 21) (.c (.int .u64 201))),
 zo 23 (.conv .i64 (.t 22)),
 zo 24 (.bin .sub (.t 23) (.c (.int .i64 100))),
 zm 7 24]
def c20k5 : ICode := .kill 30 [0, 1, 5, 6] (.ops c20r5)
def c20s6 : ICode := (.cond (.t 16) c20k5 .skip)
def c20r7 : List Seg := [
 zm 13 6,
 zm 14 0,
 zo 15 (.len 0 (.t 14)),
 zo 16 (.bin .lss (.t 13) (.t 15))]
def c20k7 : ICode := .kill 30 [0, 1, 5, 6, 7] (.ops c20r7)
def c20s8 : ICode := (.seq (.seq c20k7 c20s6) c20k4)
def c20r9 : List Seg := [
 zo 7 (.mv (.c (.int .i64 0)))]
def c20k9 : ICode := .kill 30 [0, 1, 5, 6] (.ops c20r9)
def c20s10 : ICode := (.seq (.block 1 (.seq c20k9 c20s8)) c20k3)
def c20s11 : ICode := (.cond (.t 10) .skip (.exit 0))
def c20r12 : List Seg := [
 zm 8 6,
 zm 9 1,
 zo 10 (.bin .lss (.t 8) (.t 9))]
def c20k12 : ICode := .kill 30 [0, 1, 5, 6] (.ops c20r12)
def c20l2 : ICode := (.seq (.seq c20k12 c20s11) c20s10)
def c20s13 : ICode := (.block 0 (.loop c20l2))
def c20r14 : List Seg := [
 zo 6 (.mv (.c (.int .i64 0)))]
def c20k14 : ICode := .kill 30 [0, 1, 5] (.ops c20r14)
def c20s15 : ICode := (.seq (.seq c20k14 c20s13) c20s1)
def c20r16 : List Seg := [
 zo 5 (.mv (.c .nilslice))]
def c20k16 : ICode := .kill 30 [0, 1] (.ops c20r16)
def c20s17 : ICode := (.seq c20k16 c20s15)
def c20r18 : List Seg := [
 zo 4 (.mv (.c .nilslice))]
def c20k18 : ICode := .kill 30 [0, 1] (.ops c20r18)
def c20b : ICode := (.seq c20k18 c20s17)
def c20 : IFn := ⟨30, [.t 4], c20b⟩
def h20 : List (Nat × Nat × List Nat) := [(0, (30, [0, 1])), (1, (30, [0, 1])), (2, (30, [0, 1, 5])), (3, (30, [0, 1, 5, 6])), (5, (30, [0, 1, 5, 6])), (6, (30, [0, 1, 5, 6, 7])), (7, (30, [0, 1, 5, 6])), (8, (30, [0, 1, 5, 6, 7])), (4, (30, [0, 1, 5, 6])), (9, (30, [5]))]
def c22r0 : List Seg := [
 zm 52 7,
 zm 4 52,
 zo 5 (.mv (.c (.int .i64 0)))]
def c22k0 : ICode := .kill 53 [7] (.ops c22r0)
def c22s1 : ICode := (.seq c22k0 .ret)
def c22r3 : List Seg := [
 zo 51 (.bin .add (.t 24) (.c (.int .i64 1))),
 zm 24 51]
def c22k3 : ICode := .kill 53 [1, 7, 22, 23, 24] (.ops c22r3)
def c22r4 : List Seg := [
 .grp [(zn 40 7, 0), (zp 41 (.idxA 2 1 (.t 9) (.c (.int .i64 1))), 0), (zp 42 (.load1 (.t 41)), 2), (zp 43 (.idxS 1 (.t 40) (.t 42)), 7), (zp 44 (.load1 (.t 43)), 15), (zn 45 1, 0), (zn 46 8, 0), (zp 47 (.idxS 1 (.t 45) (.t 46)), 96), (zp 48 (.load1 (.t 47)), 224)],
 zo 49 (.bin .add (.t 44) (.t 48)),
 zo 50 (.idxS 1 (.t 40) (.t 42)),
 .one ⟨none, .store1 (.t 50) (.t 49), none⟩]
def c22k4 : ICode := .kill 53 [1, 7, 8, 9, 22, 23, 24] (.ops c22r4)
def c22r5 : List Seg := [
 .grp [(zn 29 7, 0), (zp 30 (.idxA 2 1 (.t 9) (.c (.int .i64 0))), 0), (zp 31 (.load1 (.t 30)), 2), (zp 32 (.idxS 1 (.t 29) (.t 31)), 7), (zp 33 (.load1 (.t 32)), 15), (zn 34 1, 0), (zn 35 8, 0), (zp 36 (.idxS 1 (.t 34) (.t 35)), 96), (zp 37 (.load1 (.t 36)), 224)],
 zo 38 (.bin .sub (.t 33) (.t 37)),
 zo 39 (.idxS 1 (.t 29) (.t 31)),
 .one ⟨none, .store1 (.t 39) (.t 38), none⟩]
def c22k5 : ICode := .kill 53 [1, 7, 8, 9, 22, 23, 24] (.ops c22r5)
def c22s6 : ICode := (.seq c22k5 c22k4)
def c22r7 : List Seg := [
 zm 26 24,
 zo 27 (.idxS 2 (.t 22) (.t 24)),
 zo 28 (.loadN 2 (.t 27)),
 zo 9 (.box (.c (.agg [.int .i64 0, .int .i64 0]))),
 zm 8 26,
 .one ⟨none, .storeN 2 (.t 9) (.t 28), none⟩]
def c22k7 : ICode := .kill 53 [1, 7, 22, 23, 24] (.ops c22r7)
def c22s8 : ICode := (.seq (.block 1 (.seq c22k7 c22s6)) c22k3)
def c22s9 : ICode := (.seq (.cond (.t 25) .skip (.exit 0)) c22s8)
def c22r10 : List Seg := [
 zo 25 (.bin .lss (.t 24) (.t 23))]
def c22k10 : ICode := .kill 53 [1, 7, 22, 23, 24] (.ops c22r10)
def c22l2 : ICode := (.seq c22k10 c22s9)
def c22s11 : ICode := (.block 0 (.loop c22l2))
def c22r12 : List Seg := [
 zo 21 (.fieldA 1 (.t 2)),
 zo 22 (.load1 (.t 21)),
 zo 23 (.len 0 (.t 22)),
 zo 24 (.mv (.c (.int .i64 0)))]
def c22k12 : ICode := .kill 53 [1, 2, 7] (.ops c22r12)
def c22s13 : ICode := (.seq (.seq c22k12 c22s11) c22s1)
def c22r14 : List Seg := [
 zo 18 (.fieldA 0 (.t 2)),
 zo 19 (.load1 (.t 18)),
 zo 20 (.make [.int .i64 0] 8 (.t 19) (.t 19)),
 zm 7 20]
def c22k14 : ICode := .kill 53 [1, 2] (.ops c22r14)
def c22s15 : ICode := (.seq c22k14 c22s13)
def c22r16 : List Seg := [
 zm 17 6,
 zo 4 (.mv (.c .nilslice)),
 zm 5 17]
def c22k16 : ICode := .kill 53 [6] (.ops c22r16)
def c22s17 : ICode := (.cond (.t 16) (.seq c22k16 .ret) .skip)
def c22r18 : List Seg := [
 zm 15 6,
 zo 16 (.bin .neq (.t 15) (.c (.int .i64 0)))]
def c22k18 : ICode := .kill 53 [1, 2, 6] (.ops c22r18)
def c22s19 : ICode := (.seq c22k18 c22s17)
def c22r20 : List Seg := [
 zo 10 (.loadN 3 (.t 2)),
 zm 11 1,
 zo 12 (.loadN 3 (.t 2)),
 zo 13 (.bind 67 [(.t 12)]),
 zo 14 (.call [] (.c (.func 66 [])) [(.t 10), (.t 11), (.t 13)]),
 zm 6 14]
def c22k20 : ICode := .kill 53 [1, 2] (.ops c22r20)
def c22s21 : ICode := (.seq (.seq c22k20 c22s19) c22s15)
def c22r22 : List Seg := [
 zo 2 (.box (.t 0)),
 zo 4 (.mv (.c .nilslice)),
 zo 5 (.mv (.c (.int .i64 0)))]
def c22k22 : ICode := .kill 53 [0, 1] (.ops c22r22)
def c22b : ICode := (.seq c22k22 c22s21)
def c22 : IFn := ⟨53, [.t 4, .t 5], c22b⟩
def h22 : List (Nat × Nat × List Nat) := [(0, (53, [0, 1])), (1, (53, [1, 2])), (2, (53, [1, 2, 6])), (3, (53, [6])), (4, (53, [1, 2])), (5, (53, [1, 2, 7])), (6, (53, [1, 7, 22, 23, 24])), (7, (53, [1, 7, 22, 23, 24])), (8, (53, [1, 7, 8, 9, 22, 23, 24])), (9, (53, [1, 7, 8, 9, 22, 23, 24])), (10, (53, [1, 7, 22, 23, 24])), (11, (53, [7]))]
def c23r0 : List Seg := [
 zo 31 (.loadN 3 (.t 7)),
 .one ⟨none, .storeN 3 (.t 4) (.t 31), none⟩,
 zo 5 (.mv (.c (.int .i64 0)))]
def c23k0 : ICode := .kill 32 [4, 7] (.ops c23r0)
def c23s1 : ICode := (.seq c23k0 .ret)
def c23r3 : List Seg := [
 zo 30 (.bin .add (.t 22) (.c (.int .i64 1))),
 zm 22 30]
def c23k3 : ICode := .kill 32 [4, 7, 21, 22] (.ops c23r3)
def c23r4 : List Seg := [
 zm 26 8,
 zm 27 9,
 zo 28 (.call [] (.c (.func 69 [])) [(.t 27)]),
 zo 29 (.idxA 3 1 (.t 7) (.t 26)),
 .one ⟨none, .store1 (.t 29) (.t 28), none⟩]
def c23k4 : ICode := .kill 32 [4, 7, 8, 9, 21, 22] (.ops c23r4)
def c23r5 : List Seg := [
 zm 24 22,
 zo 25 (.idxV 3 1 false (.t 21) (.t 22)),
 zm 8 24,
 zm 9 25]
def c23k5 : ICode := .kill 32 [4, 7, 21, 22] (.ops c23r5)
def c23s6 : ICode := (.seq (.block 1 (.seq c23k5 c23k4)) c23k3)
def c23s7 : ICode := (.seq (.cond (.t 23) .skip (.exit 0)) c23s6)
def c23r8 : List Seg := [
 zo 23 (.bin .lss (.t 22) (.c (.int .i64 3)))]
def c23k8 : ICode := .kill 32 [4, 7, 21, 22] (.ops c23r8)
def c23l2 : ICode := (.seq c23k8 c23s7)
def c23s9 : ICode := (.block 0 (.loop c23l2))
def c23r10 : List Seg := [
 zo 19 (.loadN 3 (.t 2)),
 zm 20 1,
 zo 21 (.call [] (.c (.func 68 [])) [(.t 19), (.t 20)]),
 zo 22 (.mv (.c (.int .i64 0)))]
def c23k10 : ICode := .kill 32 [1, 2, 4, 7] (.ops c23r10)
def c23s11 : ICode := (.seq (.seq c23k10 c23s9) c23s1)
def c23r12 : List Seg := [
 zo 7 (.box (.c (.agg [.nilslice, .nilslice, .nilslice])))]
def c23k12 : ICode := .kill 32 [1, 2, 4] (.ops c23r12)
def c23s13 : ICode := (.seq c23k12 c23s11)
def c23r14 : List Seg := [
 zo 17 (.mkagg [.nilslice, .nilslice, .nilslice] []),
 zm 18 6,
 .one ⟨none, .storeN 3 (.t 4) (.t 17), none⟩,
 zm 5 18]
def c23k14 : ICode := .kill 32 [4, 6] (.ops c23r14)
def c23s15 : ICode := (.cond (.t 16) (.seq c23k14 .ret) .skip)
def c23r16 : List Seg := [
 zm 15 6,
 zo 16 (.bin .neq (.t 15) (.c (.int .i64 0)))]
def c23k16 : ICode := .kill 32 [1, 2, 4, 6] (.ops c23r16)
def c23s17 : ICode := (.seq c23k16 c23s15)
def c23r18 : List Seg := [
 zo 10 (.loadN 3 (.t 2)),
 zm 11 1,
 zo 12 (.loadN 3 (.t 2)),
 zo 13 (.bind 67 [(.t 12)]),
 zo 14 (.call [] (.c (.func 66 [])) [(.t 10), (.t 11), (.t 13)]),
 zm 6 14]
def c23k18 : ICode := .kill 32 [1, 2, 4] (.ops c23r18)
def c23s19 : ICode := (.seq (.seq c23k18 c23s17) c23s13)
def c23r20 : List Seg := [
 zo 2 (.box (.t 0)),
 zo 4 (.box (.c (.agg [.nilslice, .nilslice, .nilslice]))),
 zo 5 (.mv (.c (.int .i64 0)))]
def c23k20 : ICode := .kill 32 [0, 1] (.ops c23r20)
def c23b : ICode := (.seq c23k20 c23s19)
def c23 : IFn := ⟨32, [.cellN 4 3, .t 5], c23b⟩
def h23 : List (Nat × Nat × List Nat) := [(0, (32, [0, 1])), (1, (32, [1, 2, 4])), (2, (32, [1, 2, 4, 6])), (3, (32, [4, 6])), (4, (32, [1, 2, 4])), (5, (32, [1, 2, 4, 7])), (6, (32, [4, 7, 21, 22])), (7, (32, [4, 7, 21, 22])), (8, (32, [4, 7, 8, 9, 21, 22])), (9, (32, [4, 7, 21, 22])), (10, (32, [4, 7]))]
def c27r0 : List Seg := [
 zo 4 (.mv (.c (.bool true)))]
def c27k0 : ICode := .kill 26 [] (.ops c27r0)
def c27s1 : ICode := (.seq c27k0 .ret)
def c27r3 : List Seg := [
 zm 15 5,
 zo 16 (.bin .add (.t 15) (.c (.int .i64 1))),
 zm 5 16]
def c27k3 : ICode := .kill 26 [0, 1, 5] (.ops c27r3)
def c27r4 : List Seg := [
 zo 4 (.mv (.c (.bool false)))]
def c27k4 : ICode := .kill 26 [] (.ops c27r4)
def c27s5 : ICode := (.cond (.t 25) (.seq c27k4 .ret) .skip)
def c27r6 : List Seg := [
 .grp [(zn 17 0, 0), (zn 18 5, 0), (zp 19 (.idxS 1 (.t 17) (.t 18)), 3), (zp 20 (.load1 (.t 19)), 7), (zn 21 1, 0), (zn 22 5, 0), (zp 23 (.idxS 1 (.t 21) (.t 22)), 48), (zp 24 (.load1 (.t 23)), 112)],
 zo 25 (.bin .neq (.t 20) (.t 24))]
def c27k6 : ICode := .kill 26 [0, 1, 5] (.ops c27r6)
def c27s7 : ICode := (.seq (.block 1 (.seq c27k6 c27s5)) c27k3)
def c27s8 : ICode := (.cond (.t 14) .skip (.exit 0))
def c27r9 : List Seg := [
 zm 11 5,
 zm 12 0,
 zo 13 (.len 0 (.t 12)),
 zo 14 (.bin .lss (.t 11) (.t 13))]
def c27k9 : ICode := .kill 26 [0, 1, 5] (.ops c27r9)
def c27l2 : ICode := (.seq (.seq c27k9 c27s8) c27s7)
def c27s10 : ICode := (.block 0 (.loop c27l2))
def c27r11 : List Seg := [
 zo 5 (.mv (.c (.int .i64 0)))]
def c27k11 : ICode := .kill 26 [0, 1] (.ops c27r11)
def c27s12 : ICode := (.seq (.seq c27k11 c27s10) c27s1)
def c27r13 : List Seg := [
 zo 4 (.mv (.c (.bool false)))]
def c27k13 : ICode := .kill 26 [] (.ops c27r13)
def c27s14 : ICode := (.cond (.t 10) (.seq c27k13 .ret) .skip)
def c27r15 : List Seg := [
 zm 6 0,
 zo 7 (.len 0 (.t 6)),
 zm 8 1,
 zo 9 (.len 0 (.t 8)),
 zo 10 (.bin .neq (.t 7) (.t 9))]
def c27k15 : ICode := .kill 26 [0, 1] (.ops c27r15)
def c27s16 : ICode := (.seq (.seq c27k15 c27s14) c27s12)
def c27r17 : List Seg := [
 zo 4 (.mv (.c (.bool false)))]
def c27k17 : ICode := .kill 26 [0, 1] (.ops c27r17)
def c27b : ICode := (.seq c27k17 c27s16)
def c27 : IFn := ⟨26, [.t 4], c27b⟩
def h27 : List (Nat × Nat × List Nat) := [(0, (26, [0, 1])), (1, (26, [0, 1])), (2, (26, [])), (3, (26, [0, 1])), (4, (26, [0, 1, 5])), (6, (26, [0, 1, 5])), (7, (26, [])), (5, (26, [0, 1, 5])), (8, (26, []))]
def c28r0 : List Seg := [
 zo 4 (.mv (.c (.bool true)))]
def c28k0 : ICode := .kill 26 [] (.ops c28r0)
def c28s1 : ICode := (.seq c28k0 .ret)
def c28r3 : List Seg := [
 zm 15 5,
 zo 16 (.bin .add (.t 15) (.c (.int .i64 1))),
 zm 5 16]
def c28k3 : ICode := .kill 26 [0, 1, 5] (.ops c28r3)
def c28r4 : List Seg := [
 zo 4 (.mv (.c (.bool false)))]
def c28k4 : ICode := .kill 26 [] (.ops c28r4)
def c28s5 : ICode := (.cond (.t 25) (.seq c28k4 .ret) .skip)
def c28r6 : List Seg := [
 .grp [(zn 17 0, 0), (zn 18 5, 0), (zp 19 (.idxS 2 (.t 17) (.t 18)), 3), (zp 20 (.loadN 2 (.t 19)), 7), (zn 21 1, 0), (zn 22 5, 0), (zp 23 (.idxS 2 (.t 21) (.t 22)), 48), (zp 24 (.loadN 2 (.t 23)), 112)],
 zo 25 (.eqv true (.ints 2) (.t 20) (.t 24))]
def c28k6 : ICode := .kill 26 [0, 1, 5] (.ops c28r6)
def c28s7 : ICode := (.seq (.block 1 (.seq c28k6 c28s5)) c28k3)
def c28s8 : ICode := (.cond (.t 14) .skip (.exit 0))
def c28r9 : List Seg := [
 zm 11 5,
 zm 12 0,
 zo 13 (.len 0 (.t 12)),
 zo 14 (.bin .lss (.t 11) (.t 13))]
def c28k9 : ICode := .kill 26 [0, 1, 5] (.ops c28r9)
def c28l2 : ICode := (.seq (.seq c28k9 c28s8) c28s7)
def c28s10 : ICode := (.block 0 (.loop c28l2))
def c28r11 : List Seg := [
 zo 5 (.mv (.c (.int .i64 0)))]
def c28k11 : ICode := .kill 26 [0, 1] (.ops c28r11)
def c28s12 : ICode := (.seq (.seq c28k11 c28s10) c28s1)
def c28r13 : List Seg := [
 zo 4 (.mv (.c (.bool false)))]
def c28k13 : ICode := .kill 26 [] (.ops c28r13)
def c28s14 : ICode := (.cond (.t 10) (.seq c28k13 .ret) .skip)
def c28r15 : List Seg := [
 zm 6 0,
 zo 7 (.len 0 (.t 6)),
 zm 8 1,
 zo 9 (.len 0 (.t 8)),
 zo 10 (.bin .neq (.t 7) (.t 9))]
def c28k15 : ICode := .kill 26 [0, 1] (.ops c28r15)
def c28s16 : ICode := (.seq (.seq c28k15 c28s14) c28s12)
def c28r17 : List Seg := [
 zo 4 (.mv (.c (.bool false)))]
def c28k17 : ICode := .kill 26 [0, 1] (.ops c28r17)
def c28b : ICode := (.seq c28k17 c28s16)
def c28 : IFn := ⟨26, [.t 4], c28b⟩
def h28 : List (Nat × Nat × List Nat) := [(0, (26, [0, 1])), (1, (26, [0, 1])), (2, (26, [])), (3, (26, [0, 1])), (4, (26, [0, 1, 5])), (6, (26, [0, 1, 5])), (7, (26, [])), (5, (26, [0, 1, 5])), (8, (26, []))]
def c31r0 : List Seg := [
 zm 62 3,
 zm 2 62]
def c31k0 : ICode := .kill 63 [3] (.ops c31r0)
def c31s1 : ICode := (.seq c31k0 .ret)
def c31r3 : List Seg := [
 zm 24 5,
 zo 25 (.bin .add (.t 24) (.c (.int .i64 1))),
 zm 5 25]
def c31k3 : ICode := .kill 63 [1, 3, 5] (.ops c31r3)
def c31r5 : List Seg := [
 zm 31 6,
 zo 32 (.bin .add (.t 31) (.c (.int .i64 1))),
 zm 6 32]
def c31k5 : ICode := .kill 63 [1, 3, 5, 6] (.ops c31r5)
def c31r6 : List Seg := [
 zm 58 3,
 zm 59 8,
 zm 60 9,
 zo 61 (.idxS 1 (.t 58) (.t 59)),
 .one ⟨none, .store1 (.t 61) (.t 60), none⟩]
def c31k6 : ICode := .kill 63 [1, 3, 5, 6, 8, 9] (.ops c31r6)
def c31r7 : List Seg := [
 zm 54 3,
 zm 55 7,
 zm 56 9,
 zo 57 (.idxS 1 (.t 54) (.t 55)),
 .one ⟨none, .store1 (.t 57) (.t 56), none⟩]
def c31k7 : ICode := .kill 63 [1, 3, 5, 6, 7, 8, 9] (.ops c31r7)
def c31s8 : ICode := (.seq c31k7 c31k6)
def c31r9 : List Seg := [
 .grp [(zn 45 3, 0), (zn 46 7, 0), (zp 47 (.idxS 1 (.t 45) (.t 46)), 3), (zp 48 (.load1 (.t 47)), 7), (zn 49 3, 0), (zn 50 8, 0), (zp 51 (.idxS 1 (.t 49) (.t 50)), 48), (zp 52 (.load1 (.t 51)), 112)],
 zo 53 (.mn [(.t 48), (.t 52)]),
 zm 9 53]
def c31k9 : ICode := .kill 63 [1, 3, 5, 6, 7, 8] (.ops c31r9)
def c31s10 : ICode := (.seq c31k9 c31s8)
def c31r11 : List Seg := [
 .grp [(zp 33 (.fieldA 1 (.t 1)), 0), (zp 34 (.load1 (.t 33)), 1), (zn 35 6, 0), (zp 36 (.idxS 2 (.t 34) (.t 35)), 7), (zp 37 (.idxA 2 1 (.t 36) (.c (.int .i64 0))), 15), (zp 38 (.load1 (.t 37)), 31), (zp 39 (.fieldA 1 (.t 1)), 0), (zp 40 (.load1 (.t 39)), 64), (zn 41 6, 0), (zp 42 (.idxS 2 (.t 40) (.t 41)), 448), (zp 43 (.idxA 2 1 (.t 42) (.c (.int .i64 1))), 960), (zp 44 (.load1 (.t 43)), 1984), (zn 7 38, 63)],
 zm 8 44]
def c31k11 : ICode := .kill 63 [1, 3, 5, 6] (.ops c31r11)
def c31s12 : ICode := (.seq (.block 5 (.seq c31k11 c31s10)) c31k5)
def c31s13 : ICode := (.cond (.t 30) .skip (.exit 4))
def c31r14 : List Seg := [
 zm 26 6,
 zo 27 (.fieldA 1 (.t 1)),
 zo 28 (.load1 (.t 27)),
 zo 29 (.len 0 (.t 28)),
 zo 30 (.bin .lss (.t 26) (.t 29))]
def c31k14 : ICode := .kill 63 [1, 3, 5, 6] (.ops c31r14)
def c31l4 : ICode := (.seq (.seq c31k14 c31s13) c31s12)
def c31s15 : ICode := (.block 4 (.loop c31l4))
def c31r16 : List Seg := [
 zo 6 (.mv (.c (.int .i64 0)))]
def c31k16 : ICode := .kill 63 [1, 3, 5] (.ops c31r16)
def c31s17 : ICode := (.seq (.block 3 (.seq c31k16 c31s15)) c31k3)
def c31s18 : ICode := (.cond (.t 23) .skip (.exit 2))
def c31r19 : List Seg := [
 zm 20 5,
 zo 21 (.fieldA 0 (.t 1)),
 zo 22 (.load1 (.t 21)),
 zo 23 (.bin .lss (.t 20) (.t 22))]
def c31k19 : ICode := .kill 63 [1, 3, 5] (.ops c31r19)
def c31l2 : ICode := (.seq (.seq c31k19 c31s18) c31s17)
def c31s20 : ICode := (.block 2 (.loop c31l2))
def c31r21 : List Seg := [
 zo 5 (.mv (.c (.int .i64 0)))]
def c31k21 : ICode := .kill 63 [1, 3] (.ops c31r21)
def c31s22 : ICode := (.seq (.seq c31k21 c31s20) c31s1)
def c31r24 : List Seg := [
 zm 14 4,
 zo 15 (.bin .add (.t 14) (.c (.int .i64 1))),
 zm 4 15]
def c31k24 : ICode := .kill 63 [1, 3, 4] (.ops c31r24)
def c31r25 : List Seg := [
 zm 16 3,
 zm 17 4,
 zo 18 (.mkslice 1 [.int .i64 0] [(0, 1, (.t 17))]),
 zo 19 (.app 1 8 (.t 16) (.t 18)),
 zm 3 19]
def c31k25 : ICode := .kill 63 [1, 3, 4] (.ops c31r25)
def c31s26 : ICode := (.seq (.block 1 c31k25) c31k24)
def c31s27 : ICode := (.cond (.t 13) .skip (.exit 0))
def c31r28 : List Seg := [
 zm 10 4,
 zo 11 (.fieldA 0 (.t 1)),
 zo 12 (.load1 (.t 11)),
 zo 13 (.bin .lss (.t 10) (.t 12))]
def c31k28 : ICode := .kill 63 [1, 3, 4] (.ops c31r28)
def c31l23 : ICode := (.seq (.seq c31k28 c31s27) c31s26)
def c31s29 : ICode := (.block 0 (.loop c31l23))
def c31r30 : List Seg := [
 zo 4 (.mv (.c (.int .i64 0)))]
def c31k30 : ICode := .kill 63 [1, 3] (.ops c31r30)
def c31s31 : ICode := (.seq (.seq c31k30 c31s29) c31s22)
def c31r32 : List Seg := [
 zo 3 (.mv (.c .nilslice))]
def c31k32 : ICode := .kill 63 [1] (.ops c31r32)
def c31s33 : ICode := (.seq c31k32 c31s31)
def c31r34 : List Seg := [
 zo 1 (.box (.t 0)),
 zo 2 (.mv (.c .nilslice))]
def c31k34 : ICode := .kill 63 [0] (.ops c31r34)
def c31b : ICode := (.seq c31k34 c31s33)
def c31 : IFn := ⟨63, [.t 2], c31b⟩
def h31 : List (Nat × Nat × List Nat) := [(0, (63, [0])), (1, (63, [1])), (2, (63, [1, 3])), (3, (63, [1, 3, 4])), (5, (63, [1, 3, 4])), (4, (63, [1, 3, 4])), (6, (63, [1, 3])), (7, (63, [1, 3, 5])), (9, (63, [1, 3, 5])), (10, (63, [1, 3, 5, 6])), (12, (63, [1, 3, 5, 6])), (13, (63, [1, 3, 5, 6, 7, 8])), (14, (63, [1, 3, 5, 6, 7, 8, 9])), (15, (63, [1, 3, 5, 6, 8, 9])), (11, (63, [1, 3, 5, 6])), (8, (63, [1, 3, 5])), (16, (63, [3]))]
def c37r0 : List Seg := [
 zm 75 9,
 zm 6 75,
 zo 7 (.mv (.c (.bool true)))]
def c37k0 : ICode := .kill 76 [9] (.ops c37r0)
def c37s1 : ICode := (.seq c37k0 .ret)
def c37r3 : List Seg := [
 zm 28 10,
 zo 29 (.bin .add (.t 28) (.c (.int .i64 1))),
 zm 10 29]
def c37k3 : ICode := .kill 76 [1, 2, 3, 8, 9, 10] (.ops c37r3)
def c37r4 : List Seg := [
 zo 6 (.mv (.c (.int .i64 0))),
 zo 7 (.mv (.c (.bool false)))]
def c37k4 : ICode := .kill 76 [] (.ops c37r4)
def c37r5 : List Seg := [
 zm 69 9,
 zm 70 1,
 zm 71 14,
 zo 72 (.idxS 1 (.t 70) (.t 71)),
 zo 73 (.load1 (.t 72)),
 zo 74 (.bin .add (.t 69) (.t 73)),
 zm 9 74]
def c37k5 : ICode := .kill 76 [1, 2, 3, 8, 9, 10, 14] (.ops c37r5)
def c37r6 : List Seg := [
 zm 56 9,
 zm 57 1,
 zm 58 14,
 zo 59 (.idxS 1 (.t 57) (.t 58)),
 zo 60 (.load1 (.t 59)),
 zo 61 (.bin .sub (.t 56) (.t 60)),
 zm 9 61]
def c37k6 : ICode := .kill 76 [1, 2, 3, 8, 9, 10, 14] (.ops c37r6)
def c37s7 : ICode := (.cond (.t 65) c37k5 c37k6)
def c37r8 : List Seg := [
 zm 66 11,
 zm 67 12,
 zo 68 (.bin .lss (.t 66) (.t 67)),
 zm 65 68]
def c37k8 : ICode := .kill 76 [1, 2, 3, 8, 9, 10, 11, 12, 14] (.ops c37r8)
def c37s9 : ICode := (.cond (.t 62) (.seq c37k4 .ret) (.seq c37k8 c37s7))
def c37r10 : List Seg := [
 zm 63 14,
 zo 64 (.bin .lss (.t 63) (.c (.int .i64 0))),
 zm 62 64]
def c37k10 : ICode := .kill 76 [1, 2, 3, 8, 9, 10, 11, 12, 14] (.ops c37r10)
def c37s11 : ICode := (.block 4 (.seq c37k10 c37s9))
def c37r12 : List Seg := [
 zo 52 (.loadN 3 (.t 3)),
 zm 53 11,
 zm 54 12,
 zo 55 (.call [] (.c (.func 60 [])) [(.t 52), (.t 53), (.t 54)]),
 zm 14 55]
def c37k12 : ICode := .kill 76 [1, 2, 3, 8, 9, 10, 11, 12] (.ops c37r12)
def c37s13 : ICode := (.seq c37k12 c37s11)
def c37r15 : List Seg := [
 zm 44 13,
 zo 45 (.bin .add (.t 44) (.c (.int .i64 1))),
 zm 13 45]
def c37k15 : ICode := .kill 76 [1, 2, 3, 8, 9, 10, 11, 12, 13] (.ops c37r15)
def c37r16 : List Seg := [
 zo 6 (.mv (.c (.int .i64 0))),
 zo 7 (.mv (.c (.bool false)))]
def c37k16 : ICode := .kill 76 [] (.ops c37r16)
def c37s17 : ICode := (.cond (.t 51) (.seq c37k16 .ret) .skip)
def c37r18 : List Seg := [
 zm 46 2,
 zm 47 13,
 zo 48 (.idxS 1 (.t 46) (.t 47)),
 zo 49 (.load1 (.t 48)),
 zm 50 11,
 zo 51 (.bin .eql (.t 49) (.t 50))]
def c37k18 : ICode := .kill 76 [1, 2, 3, 8, 9, 10, 11, 12, 13] (.ops c37r18)
def c37s19 : ICode := (.seq (.block 3 (.seq c37k18 c37s17)) c37k15)
def c37s20 : ICode := (.cond (.t 43) .skip (.exit 2))
def c37r21 : List Seg := [
 zm 41 13,
 zm 42 10,
 zo 43 (.bin .lss (.t 41) (.t 42))]
def c37k21 : ICode := .kill 76 [1, 2, 3, 8, 9, 10, 11, 12, 13] (.ops c37r21)
def c37l14 : ICode := (.seq (.seq c37k21 c37s20) c37s19)
def c37s22 : ICode := (.block 2 (.loop c37l14))
def c37r23 : List Seg := [
 zo 13 (.mv (.c (.int .i64 0)))]
def c37k23 : ICode := .kill 76 [1, 2, 3, 8, 9, 10, 11, 12] (.ops c37r23)
def c37s24 : ICode := (.seq (.seq c37k23 c37s22) c37s13)
def c37r25 : List Seg := [
 .grp [(zn 30 2, 0), (zn 31 10, 0), (zp 32 (.idxS 1 (.t 30) (.t 31)), 3), (zp 33 (.load1 (.t 32)), 7), (zn 34 2, 0), (zn 35 10, 0), (zp 36 (.bin .add (.t 35) (.c (.int .i64 1))), 32), (zn 37 8, 0), (zp 38 (.bin .rem (.t 36) (.t 37)), 224), (zp 39 (.idxS 1 (.t 34) (.t 38)), 496), (zp 40 (.load1 (.t 39)), 1008), (zn 11 33, 15)],
 zm 12 40]
def c37k25 : ICode := .kill 76 [1, 2, 3, 8, 9, 10] (.ops c37r25)
def c37s26 : ICode := (.seq (.block 1 (.seq c37k25 c37s24)) c37k3)
def c37s27 : ICode := (.cond (.t 27) .skip (.exit 0))
def c37r28 : List Seg := [
 zm 25 10,
 zm 26 8,
 zo 27 (.bin .lss (.t 25) (.t 26))]
def c37k28 : ICode := .kill 76 [1, 2, 3, 8, 9, 10] (.ops c37r28)
def c37l2 : ICode := (.seq (.seq c37k28 c37s27) c37s26)
def c37s29 : ICode := (.block 0 (.loop c37l2))
def c37r30 : List Seg := [
 zo 10 (.mv (.c (.int .i64 0)))]
def c37k30 : ICode := .kill 76 [1, 2, 3, 8, 9] (.ops c37r30)
def c37s31 : ICode := (.seq (.seq c37k30 c37s29) c37s1)
def c37r32 : List Seg := [
 zo 9 (.mv (.c (.int .i64 0)))]
def c37k32 : ICode := .kill 76 [1, 2, 3, 8] (.ops c37r32)
def c37s33 : ICode := (.seq c37k32 c37s31)
def c37r34 : List Seg := [
 zo 6 (.mv (.c (.int .i64 0))),
 zo 7 (.mv (.c (.bool false)))]
def c37k34 : ICode := .kill 76 [] (.ops c37r34)
def c37s35 : ICode := (.cond (.t 24) (.seq c37k34 .ret) .skip)
def c37r36 : List Seg := [
 zm 17 8,
 zo 18 (.bin .lss (.t 17) (.c (.int .i64 3))),
 zm 19 18,
 .one ⟨some 20, .mv (.t 8), some (19, false)⟩,
 .one ⟨some 21, .fieldA 0 (.t 3), some (19, false)⟩,
 .one ⟨some 22, .load1 (.t 21), some (19, false)⟩,
 .one ⟨some 23, .bin .gtr (.t 20) (.t 22), some (19, false)⟩,
 zo 24 (.pick (.t 19) (.c (.bool true)) (.t 23))]
def c37k36 : ICode := .kill 76 [1, 2, 3, 8] (.ops c37r36)
def c37s37 : ICode := (.seq (.seq c37k36 c37s35) c37s33)
def c37r38 : List Seg := [
 zm 15 2,
 zo 16 (.len 0 (.t 15)),
 zm 8 16]
def c37k38 : ICode := .kill 76 [1, 2, 3] (.ops c37r38)
def c37s39 : ICode := (.seq c37k38 c37s37)
def c37r40 : List Seg := [
 zo 3 (.box (.t 0)),
 zo 6 (.mv (.c (.int .i64 0))),
 zo 7 (.mv (.c (.bool false)))]
def c37k40 : ICode := .kill 76 [0, 1, 2] (.ops c37r40)
def c37b : ICode := (.seq c37k40 c37s39)
def c37 : IFn := ⟨76, [.t 6, .t 7], c37b⟩
def h37 : List (Nat × Nat × List Nat) := [(0, (76, [0, 1, 2])), (1, (76, [1, 2, 3])), (2, (76, [1, 2, 3, 8])), (3, (76, [])), (4, (76, [1, 2, 3, 8])), (5, (76, [1, 2, 3, 8, 9])), (6, (76, [1, 2, 3, 8, 9, 10])), (8, (76, [1, 2, 3, 8, 9, 10])), (9, (76, [1, 2, 3, 8, 9, 10, 11, 12])), (10, (76, [1, 2, 3, 8, 9, 10, 11, 12, 13])), (12, (76, [1, 2, 3, 8, 9, 10, 11, 12, 13])), (13, (76, [])), (11, (76, [1, 2, 3, 8, 9, 10, 11, 12, 13])), (14, (76, [1, 2, 3, 8, 9, 10, 11, 12])), (16, (76, [1, 2, 3, 8, 9, 10, 11, 12, 14])), (17, (76, [])), (18, (76, [1, 2, 3, 8, 9, 10, 11, 12, 14])), (19, (76, [1, 2, 3, 8, 9, 10, 14])), (15, (76, [1, 2, 3, 8, 9, 10, 14])), (7, (76, [1, 2, 3, 8, 9, 10])), (20, (76, [9]))]
def c40r0 : List Seg := [
 zm 44 7,
 zm 4 44,
 zo 5 (.mv (.c (.int .i64 0)))]
def c40k0 : ICode := .kill 45 [7] (.ops c40r0)
def c40s1 : ICode := (.seq c40k0 .ret)
def c40r3 : List Seg := [
 zo 43 (.bin .add (.t 23) (.c (.int .i64 1))),
 zm 23 43]
def c40k3 : ICode := .kill 45 [2, 3, 4, 5, 7, 22, 23] (.ops c40r3)
def c40r4 : List Seg := [
 zm 39 7,
 zo 40 (.load1 (.t 9)),
 zo 41 (.mkslice 1 [.int .i64 0] [(0, 1, (.t 40))]),
 zo 42 (.app 1 8 (.t 39) (.t 41)),
 zm 7 42]
def c40k4 : ICode := .kill 45 [2, 3, 4, 5, 7, 9, 22, 23] (.ops c40r4)
def c40r6 : List Seg := [
 .grp [(zp 31 (.load1 (.t 9)), 0), (zn 32 11, 0), (zp 33 (.load1 (.t 3)), 0), (zn 34 10, 0), (zp 35 (.idxS 1 (.t 33) (.t 34)), 12), (zp 36 (.load1 (.t 35)), 28), (zp 37 (.bin .mul (.t 32) (.t 36)), 62)],
 zo 38 (.bin .add (.t 31) (.t 37)),
 .one ⟨none, .store1 (.t 9) (.t 38), none⟩]
def c40k6 : ICode := .kill 45 [3, 9, 10, 11] (.ops c40r6)
def c40r7 : List Seg := [
 zm 11 30]
def c40k7 : ICode := .kill 45 [3, 9, 10, 30] (.ops c40r7)
def c40r8 : List Seg := [
 zm 10 29]
def c40k8 : ICode := .kill 45 [3, 9, 29, 30] (.ops c40r8)
def c40f5a : ICode := (.seq c40k8 c40k7)
def c40f5b : ICode := (.block 3 c40k6)
def c40s9 : ICode := (.block 2 (.rf (.t 28) [29, 30] c40f5a c40f5b))
def c40r10 : List Seg := [
 zo 26 (.loadN 3 (.t 2)),
 zm 27 8,
 zo 28 (.call [] (.c (.func 62 [])) [(.t 26), (.t 27)])]
def c40k10 : ICode := .kill 45 [2, 3, 4, 5, 7, 8, 9, 22, 23] (.ops c40r10)
def c40s11 : ICode := (.seq (.seq c40k10 c40s9) c40k4)
def c40r12 : List Seg := [
 zo 9 (.box (.c (.int .i64 0))),
 .one ⟨none, .store1 (.t 9) (.c (.int .i64 0)), none⟩]
def c40k12 : ICode := .kill 45 [2, 3, 4, 5, 7, 8, 22, 23] (.ops c40r12)
def c40s13 : ICode := (.seq c40k12 c40s11)
def c40r14 : List Seg := [
 zm 25 23,
 zm 8 25]
def c40k14 : ICode := .kill 45 [2, 3, 4, 5, 7, 22, 23] (.ops c40r14)
def c40s15 : ICode := (.seq (.block 1 (.seq c40k14 c40s13)) c40k3)
def c40s16 : ICode := (.seq (.cond (.t 24) .skip (.exit 0)) c40s15)
def c40r17 : List Seg := [
 zo 24 (.bin .lss (.t 23) (.t 22))]
def c40k17 : ICode := .kill 45 [2, 3, 4, 5, 7, 22, 23] (.ops c40r17)
def c40l2 : ICode := (.seq c40k17 c40s16)
def c40s18 : ICode := (.block 0 (.loop c40l2))
def c40r19 : List Seg := [
 zo 20 (.fieldA 2 (.t 2)),
 zo 21 (.load1 (.t 20)),
 zo 22 (.len 0 (.t 21)),
 zo 23 (.mv (.c (.int .i64 0)))]
def c40k19 : ICode := .kill 45 [2, 3, 4, 5, 7] (.ops c40r19)
def c40s20 : ICode := (.seq (.seq c40k19 c40s18) c40s1)
def c40r21 : List Seg := [
 zo 7 (.mv (.c .nilslice))]
def c40k21 : ICode := .kill 45 [2, 3, 4, 5] (.ops c40r21)
def c40s22 : ICode := (.seq c40k21 c40s20)
def c40r23 : List Seg := [
 zm 19 6,
 zo 4 (.mv (.c .nilslice)),
 zm 5 19]
def c40k23 : ICode := .kill 45 [6] (.ops c40r23)
def c40s24 : ICode := (.cond (.t 18) (.seq c40k23 .ret) .skip)
def c40r25 : List Seg := [
 zm 17 6,
 zo 18 (.bin .neq (.t 17) (.c (.int .i64 0)))]
def c40k25 : ICode := .kill 45 [2, 3, 4, 5, 6] (.ops c40r25)
def c40s26 : ICode := (.seq c40k25 c40s24)
def c40r27 : List Seg := [
 zo 12 (.loadN 3 (.t 2)),
 zo 13 (.load1 (.t 3)),
 zo 14 (.loadN 3 (.t 2)),
 zo 15 (.bind 67 [(.t 14)]),
 zo 16 (.call [] (.c (.func 66 [])) [(.t 12), (.t 13), (.t 15)]),
 zm 6 16]
def c40k27 : ICode := .kill 45 [2, 3, 4, 5] (.ops c40r27)
def c40s28 : ICode := (.seq (.seq c40k27 c40s26) c40s22)
def c40r29 : List Seg := [
 zo 2 (.box (.t 0)),
 zo 3 (.box (.t 1)),
 zo 4 (.mv (.c .nilslice)),
 zo 5 (.mv (.c (.int .i64 0)))]
def c40k29 : ICode := .kill 45 [0, 1] (.ops c40r29)
def c40b : ICode := (.seq c40k29 c40s28)
def c40 : IFn := ⟨45, [.t 4, .t 5], c40b⟩
def h40 : List (Nat × Nat × List Nat) := [(0, (45, [0, 1])), (1, (45, [2, 3, 4, 5])), (2, (45, [2, 3, 4, 5, 6])), (3, (45, [6])), (4, (45, [2, 3, 4, 5])), (5, (45, [2, 3, 4, 5, 7])), (6, (45, [2, 3, 4, 5, 7, 22, 23])), (7, (45, [2, 3, 4, 5, 7, 22, 23])), (8, (45, [2, 3, 4, 5, 7, 8, 22, 23])), (9, (45, [2, 3, 4, 5, 7, 8, 9, 22, 23])), (10, (45, [3, 9, 29, 30])), (11, (45, [3, 9, 10, 30])), (12, (45, [3, 9, 10, 11])), (13, (45, [2, 3, 4, 5, 7, 9, 22, 23])), (14, (45, [2, 3, 4, 5, 7, 22, 23])), (15, (45, [7]))]
def c41r0 : List Seg := [
 .grp [(zn 51 8, 0), (zp 52 (.nilck (.t 51)), 1), (zp 53 (.fieldA 6 (.t 52)), 3), (zp 54 (.fieldA 0 (.t 2)), 0), (zp 55 (.load1 (.t 54)), 8)],
 zo 56 (.sliceA 6 1 (.t 53) none (some (.t 55)) none),
 zo 57 (.call [] (.c (.func 79 [])) [(.t 56)]),
 zm 4 57,
 zo 5 (.mv (.c (.bool true))),
 zo 6 (.mv (.c (.int .i64 0)))]
def c41k0 : ICode := .kill 58 [2, 8] (.ops c41r0)
def c41s1 : ICode := (.seq c41k0 .ret)
def c41r3 : List Seg := [
 zo 50 (.bin .add (.t 25) (.c (.int .i64 1))),
 zm 25 50]
def c41k3 : ICode := .kill 58 [1, 2, 8, 23, 24, 25] (.ops c41r3)
def c41r4 : List Seg := [
 zo 4 (.mv (.c .nilslice)),
 zo 5 (.mv (.c (.bool false))),
 zo 6 (.mv (.c (.int .i64 0)))]
def c41k4 : ICode := .kill 58 [] (.ops c41r4)
def c41s5 : ICode := (.cond (.t 49) (.seq c41k4 .ret) .skip)
def c41r6 : List Seg := [
 .grp [(zn 30 8, 0), (zp 31 (.idxA 2 1 (.t 10) (.c (.int .i64 1))), 0), (zp 32 (.load1 (.t 31)), 2), (zp 33 (.nilck (.t 30)), 1), (zp 34 (.fieldA 6 (.t 33)), 9), (zp 35 (.idxA 6 1 (.t 34) (.t 32)), 31), (zp 36 (.load1 (.t 35)), 63), (zn 37 8, 0), (zp 38 (.idxA 2 1 (.t 10) (.c (.int .i64 0))), 0), (zp 39 (.load1 (.t 38)), 256), (zp 40 (.nilck (.t 37)), 128), (zp 41 (.fieldA 6 (.t 40)), 1152), (zp 42 (.idxA 6 1 (.t 41) (.t 39)), 3968), (zp 43 (.load1 (.t 42)), 8064), (zp 44 (.bin .sub (.t 36) (.t 43)), 16383), (zn 45 1, 0), (zn 46 9, 0), (zp 47 (.idxS 1 (.t 45) (.t 46)), 98304), (zp 48 (.load1 (.t 47)), 229376)],
 zo 49 (.bin .neq (.t 44) (.t 48))]
def c41k6 : ICode := .kill 58 [1, 2, 8, 9, 10, 23, 24, 25] (.ops c41r6)
def c41s7 : ICode := (.seq c41k6 c41s5)
def c41r8 : List Seg := [
 zm 27 25,
 zo 28 (.idxS 2 (.t 23) (.t 25)),
 zo 29 (.loadN 2 (.t 28)),
 zo 10 (.box (.c (.agg [.int .i64 0, .int .i64 0]))),
 zm 9 27,
 .one ⟨none, .storeN 2 (.t 10) (.t 29), none⟩]
def c41k8 : ICode := .kill 58 [1, 2, 8, 23, 24, 25] (.ops c41r8)
def c41s9 : ICode := (.seq (.block 1 (.seq c41k8 c41s7)) c41k3)
def c41s10 : ICode := (.seq (.cond (.t 26) .skip (.exit 0)) c41s9)
def c41r11 : List Seg := [
 zo 26 (.bin .lss (.t 25) (.t 24))]
def c41k11 : ICode := .kill 58 [1, 2, 8, 23, 24, 25] (.ops c41r11)
def c41l2 : ICode := (.seq c41k11 c41s10)
def c41s12 : ICode := (.block 0 (.loop c41l2))
def c41r13 : List Seg := [
 zo 22 (.fieldA 1 (.t 2)),
 zo 23 (.load1 (.t 22)),
 zo 24 (.len 0 (.t 23)),
 zo 25 (.mv (.c (.int .i64 0)))]
def c41k13 : ICode := .kill 58 [1, 2, 8] (.ops c41r13)
def c41s14 : ICode := (.seq (.seq c41k13 c41s12) c41s1)
def c41r15 : List Seg := [
 zo 19 (.loadN 3 (.t 2)),
 zm 20 1,
 zo 21 (.call [] (.c (.func 78 [])) [(.t 19), (.t 20)]),
 zm 8 21]
def c41k15 : ICode := .kill 58 [1, 2] (.ops c41r15)
def c41s16 : ICode := (.seq c41k15 c41s14)
def c41r17 : List Seg := [
 zm 18 7,
 zo 4 (.mv (.c .nilslice)),
 zo 5 (.mv (.c (.bool false))),
 zm 6 18]
def c41k17 : ICode := .kill 58 [7] (.ops c41r17)
def c41s18 : ICode := (.cond (.t 17) (.seq c41k17 .ret) .skip)
def c41r19 : List Seg := [
 zm 16 7,
 zo 17 (.bin .neq (.t 16) (.c (.int .i64 0)))]
def c41k19 : ICode := .kill 58 [1, 2, 7] (.ops c41r19)
def c41s20 : ICode := (.seq c41k19 c41s18)
def c41r21 : List Seg := [
 zo 11 (.loadN 3 (.t 2)),
 zm 12 1,
 zo 13 (.loadN 3 (.t 2)),
 zo 14 (.bind 67 [(.t 13)]),
 zo 15 (.call [] (.c (.func 66 [])) [(.t 11), (.t 12), (.t 14)]),
 zm 7 15]
def c41k21 : ICode := .kill 58 [1, 2] (.ops c41r21)
def c41s22 : ICode := (.seq (.seq c41k21 c41s20) c41s16)
def c41r23 : List Seg := [
 zo 2 (.box (.t 0)),
 zo 4 (.mv (.c .nilslice)),
 zo 5 (.mv (.c (.bool false))),
 zo 6 (.mv (.c (.int .i64 0)))]
def c41k23 : ICode := .kill 58 [0, 1] (.ops c41r23)
def c41b : ICode := (.seq c41k23 c41s22)
def c41 : IFn := ⟨58, [.t 4, .t 5, .t 6], c41b⟩
def h41 : List (Nat × Nat × List Nat) := [(0, (58, [0, 1])), (1, (58, [1, 2])), (2, (58, [1, 2, 7])), (3, (58, [7])), (4, (58, [1, 2])), (5, (58, [1, 2, 8])), (6, (58, [1, 2, 8, 23, 24, 25])), (7, (58, [1, 2, 8, 23, 24, 25])), (8, (58, [1, 2, 8, 9, 10, 23, 24, 25])), (9, (58, [])), (10, (58, [1, 2, 8, 23, 24, 25])), (11, (58, [2, 8]))]
def c47r1 : List Seg := [
 zm 103 10,
 zm 104 10,
 zo 105 (.eqv true .slice (.t 104) (.c .nilslice)),
 zm 4 103,
 zm 5 105,
 zo 6 (.mv (.c (.int .i64 0)))]
def c47k1 : ICode := .kill 106 [10] (.ops c47r1)
def c47s2 : ICode := (.seq c47k1 .ret)
def c47r4 : List Seg := [
 zo 102 (.bin .add (.t 30) (.c (.int .i64 1))),
 zm 30 102]
def c47k4 : ICode := .kill 106 [1, 8, 9, 10, 28, 29, 30] (.ops c47r4)
def c47r5 : List Seg := [
 zm 98 13,
 zm 99 14,
 zo 100 (.sliceS 1 (.t 99) (some (.c (.int .i64 1))) none none),
 zo 101 (.app 1 8 (.t 98) (.t 100)),
 zm 10 101]
def c47k5 : ICode := .kill 106 [13, 14] (.ops c47r5)
def c47s6 : ICode := (.seq c47k5 (.exit 0))
def c47r7 : List Seg := [
 zm 96 14,
 zo 97 (.call [] (.c (.func 82 [])) [(.t 96)])]
def c47k7 : ICode := .kill 106 [13, 14] (.ops c47r7)
def c47s8 : ICode := (.seq c47k7 c47s6)
def c47r10 : List Seg := [
 .grp [(zn 86 13, 0), (zn 87 13, 0), (zp 88 (.len 0 (.t 87)), 2), (zp 89 (.bin .sub (.t 88) (.c (.int .i64 1))), 6), (zp 90 (.sliceS 1 (.t 86) none (some (.t 89)) none), 15), (zn 91 14, 0), (zn 92 14, 0), (zp 93 (.len 0 (.t 92)), 64), (zp 94 (.bin .sub (.t 93) (.c (.int .i64 1))), 192), (zp 95 (.sliceS 1 (.t 91) none (some (.t 94)) none), 480), (zn 13 90, 31)],
 zm 14 95]
def c47k10 : ICode := .kill 106 [13, 14] (.ops c47r10)
def c47s11 : ICode := (.block 3 c47k10)
def c47s12 : ICode := (.cond (.t 85) .skip (.exit 2))
def c47r13 : List Seg := [
 zm 63 13,
 zo 64 (.len 0 (.t 63)),
 zo 65 (.bin .gtr (.t 64) (.c (.int .i64 1))),
 zm 66 65,
 .one ⟨some 67, .mv (.t 14), some (66, true)⟩,
 .one ⟨some 68, .len 0 (.t 67), some (66, true)⟩,
 .one ⟨some 69, .bin .gtr (.t 68) (.c (.int .i64 1)), some (66, true)⟩,
 zo 70 (.pick (.t 66) (.t 69) (.c (.bool false))),
 zm 71 70,
 .grp [(⟨some 72, .mv (.t 13), some (71, true)⟩, 0), (⟨some 73, .mv (.t 13), some (71, true)⟩, 0), (⟨some 74, .len 0 (.t 73), some (71, true)⟩, 2), (⟨some 75, .bin .sub (.t 74) (.c (.int .i64 2)), some (71, true)⟩, 6), (⟨some 76, .idxS 1 (.t 72) (.t 75), some (71, true)⟩, 15), (⟨some 77, .load1 (.t 76), some (71, true)⟩, 31), (⟨some 78, .mv (.t 14), some (71, true)⟩, 0), (⟨some 79, .mv (.t 14), some (71, true)⟩, 0), (⟨some 80, .len 0 (.t 79), some (71, true)⟩, 128), (⟨some 81, .bin .sub (.t 80) (.c (.int .i64 2)), some (71, true)⟩, 384), (⟨some 82, .idxS 1 (.t 78) (.t 81), some (71, true)⟩, 960), (⟨some 83, .load1 (.t 82), some (71, true)⟩, 1984)],
 .one ⟨some 84, .bin .eql (.t 77) (.t 83), some (71, true)⟩,
 zo 85 (.pick (.t 71) (.t 84) (.c (.bool false)))]
def c47k13 : ICode := .kill 106 [13, 14] (.ops c47r13)
def c47l9 : ICode := (.seq (.seq c47k13 c47s12) c47s11)
def c47s14 : ICode := (.seq (.block 2 (.loop c47l9)) c47s8)
def c47r15 : List Seg := [
 .grp [(zp 55 (.load1 (.t 9)), 0), (zp 56 (.idxA 2 1 (.t 12) (.c (.int .i64 0))), 0), (zp 57 (.load1 (.t 56)), 2), (zp 58 (.call [] (.t 55) [(.t 57)]), 7), (zp 59 (.load1 (.t 9)), 0), (zp 60 (.idxA 2 1 (.t 12) (.c (.int .i64 1))), 0), (zp 61 (.load1 (.t 60)), 32)],
 zo 62 (.call [] (.t 59) [(.t 61)]),
 zm 13 58,
 zm 14 62]
def c47k15 : ICode := .kill 106 [9, 12] (.ops c47r15)
def c47s16 : ICode := (.seq c47k15 c47s14)
def c47s17 : ICode := (.cond (.t 54) (.exit 1) .skip)
def c47r18 : List Seg := [
 .grp [(zp 35 (.load1 (.t 8)), 0), (zp 36 (.idxA 2 1 (.t 12) (.c (.int .i64 1))), 0), (zp 37 (.load1 (.t 36)), 2), (zp 38 (.nilck (.t 35)), 1), (zp 39 (.fieldA 6 (.t 38)), 9), (zp 40 (.idxA 6 1 (.t 39) (.t 37)), 31), (zp 41 (.load1 (.t 40)), 63), (zp 42 (.load1 (.t 8)), 0), (zp 43 (.idxA 2 1 (.t 12) (.c (.int .i64 0))), 0), (zp 44 (.load1 (.t 43)), 256), (zp 45 (.nilck (.t 42)), 128), (zp 46 (.fieldA 6 (.t 45)), 1152), (zp 47 (.idxA 6 1 (.t 46) (.t 44)), 3968), (zp 48 (.load1 (.t 47)), 8064), (zp 49 (.bin .sub (.t 41) (.t 48)), 16383), (zn 50 1, 0), (zn 51 11, 0), (zp 52 (.idxS 1 (.t 50) (.t 51)), 98304), (zp 53 (.load1 (.t 52)), 229376)],
 zo 54 (.bin .eql (.t 49) (.t 53))]
def c47k18 : ICode := .kill 106 [1, 8, 9, 10, 11, 12, 28, 29, 30] (.ops c47r18)
def c47s19 : ICode := (.seq (.seq c47k18 c47s17) c47s16)
def c47r20 : List Seg := [
 zm 32 30,
 zo 33 (.idxS 2 (.t 28) (.t 30)),
 zo 34 (.loadN 2 (.t 33)),
 zo 12 (.box (.c (.agg [.int .i64 0, .int .i64 0]))),
 zm 11 32,
 .one ⟨none, .storeN 2 (.t 12) (.t 34), none⟩]
def c47k20 : ICode := .kill 106 [1, 8, 9, 10, 28, 29, 30] (.ops c47r20)
def c47s21 : ICode := (.seq (.block 1 (.seq c47k20 c47s19)) c47k4)
def c47s22 : ICode := (.seq (.cond (.t 31) .skip (.exit 0)) c47s21)
def c47r23 : List Seg := [
 zo 31 (.bin .lss (.t 30) (.t 29))]
def c47k23 : ICode := .kill 106 [1, 8, 9, 10, 28, 29, 30] (.ops c47r23)
def c47l3 : ICode := (.seq c47k23 c47s22)
def c47s24 : ICode := (.block 0 (.loop c47l3))
def c47r25 : List Seg := [
 zo 27 (.fieldA 1 (.t 2)),
 zo 28 (.load1 (.t 27)),
 zo 29 (.len 0 (.t 28)),
 zo 30 (.mv (.c (.int .i64 0)))]
def c47k25 : ICode := .kill 106 [1, 2, 8, 9, 10] (.ops c47r25)
def c47s26 : ICode := (.seq (.seq c47k25 c47s24) c47s2)
def c47s27 : ICode := (.seq .skip c47s26)
def c47r28 : List Seg := [
 zo 10 (.mv (.c .nilslice))]
def c47k28 : ICode := .kill 106 [1, 2, 8, 9] (.ops c47r28)
def c47s29 : ICode := (.seq c47k28 c47s27)
def c47r30 : List Seg := [
 zo 26 (.mkfn 81 [(.t 8), (.t 9)]),
 .one ⟨none, .store1 (.t 9) (.t 26), none⟩]
def c47k30 : ICode := .kill 106 [1, 2, 8, 9] (.ops c47r30)
def c47s31 : ICode := (.seq c47k30 c47s29)
def c47r32 : List Seg := [
 zo 9 (.box (.c .nilfunc))]
def c47k32 : ICode := .kill 106 [1, 2, 8] (.ops c47r32)
def c47s33 : ICode := (.seq c47k32 c47s31)
def c47r34 : List Seg := [
 zo 23 (.loadN 3 (.t 2)),
 zm 24 1,
 zo 25 (.call [] (.c (.func 78 [])) [(.t 23), (.t 24)]),
 zo 8 (.box (.c .nilptr)),
 .one ⟨none, .store1 (.t 8) (.t 25), none⟩]
def c47k34 : ICode := .kill 106 [1, 2] (.ops c47r34)
def c47s35 : ICode := (.seq c47k34 c47s33)
def c47r36 : List Seg := [
 zm 22 7,
 zo 4 (.mv (.c .nilslice)),
 zo 5 (.mv (.c (.bool false))),
 zm 6 22]
def c47k36 : ICode := .kill 106 [7] (.ops c47r36)
def c47s37 : ICode := (.cond (.t 21) (.seq c47k36 .ret) .skip)
def c47r38 : List Seg := [
 zm 20 7,
 zo 21 (.bin .neq (.t 20) (.c (.int .i64 0)))]
def c47k38 : ICode := .kill 106 [1, 2, 7] (.ops c47r38)
def c47s39 : ICode := (.seq c47k38 c47s37)
def c47r40 : List Seg := [
 zo 15 (.loadN 3 (.t 2)),
 zm 16 1,
 zo 17 (.loadN 3 (.t 2)),
 zo 18 (.bind 67 [(.t 17)]),
 zo 19 (.call [] (.c (.func 66 [])) [(.t 15), (.t 16), (.t 18)]),
 zm 7 19]
def c47k40 : ICode := .kill 106 [1, 2] (.ops c47r40)
def c47p0 : ICode := (.seq (.seq c47k40 c47s39) c47s35)
def c47s41 : ICode := (.scope c47p0)
def c47r42 : List Seg := [
 zo 2 (.box (.t 0)),
 zo 4 (.mv (.c .nilslice)),
 zo 5 (.mv (.c (.bool false))),
 zo 6 (.mv (.c (.int .i64 0)))]
def c47k42 : ICode := .kill 106 [0, 1] (.ops c47r42)
def c47b : ICode := (.seq c47k42 c47s41)
def c47 : IFn := ⟨106, [.t 4, .t 5, .t 6], c47b⟩
def h47 : List (Nat × Nat × List Nat) := [(0, (106, [0, 1])), (1, (106, [1, 2])), (2, (106, [1, 2, 7])), (3, (106, [7])), (4, (106, [1, 2])), (5, (106, [1, 2, 8])), (6, (106, [1, 2, 8, 9])), (7, (106, [1, 2, 8, 9])), (8, (106, [1, 2, 8, 9, 10])), (9, (106, [1, 8, 9, 10, 28, 29, 30])), (10, (106, [1, 8, 9, 10, 28, 29, 30])), (11, (106, [1, 8, 9, 10, 11, 12, 28, 29, 30])), (12, (106, [9, 12])), (13, (106, [13, 14])), (14, (106, [13, 14])), (15, (106, [13, 14])), (16, (106, [13, 14])), (17, (106, [1, 8, 9, 10, 28, 29, 30])), (18, (106, [10]))]
def c48r0 : List Seg := [
 zm 134 6,
 zm 4 134,
 zo 5 (.mv (.c (.bool true)))]
def c48k0 : ICode := .kill 135 [6] (.ops c48r0)
def c48s1 : ICode := (.seq c48k0 .ret)
def c48r3 : List Seg := [
 zm 123 15,
 zo 124 (.bin .add (.t 123) (.c (.int .i64 1))),
 zm 15 124]
def c48k3 : ICode := .kill 135 [1, 6, 14, 15] (.ops c48r3)
def c48r4 : List Seg := [
 zo 4 (.mv (.c .nilslice)),
 zo 5 (.mv (.c (.bool false)))]
def c48k4 : ICode := .kill 135 [] (.ops c48r4)
def c48s5 : ICode := (.cond (.t 133) (.seq c48k4 .ret) .skip)
def c48r6 : List Seg := [
 .grp [(zn 125 14, 0), (zn 126 15, 0), (zp 127 (.idxS 1 (.t 125) (.t 126)), 3), (zp 128 (.load1 (.t 127)), 7), (zn 129 1, 0), (zn 130 15, 0), (zp 131 (.idxS 1 (.t 129) (.t 130)), 48), (zp 132 (.load1 (.t 131)), 112)],
 zo 133 (.bin .neq (.t 128) (.t 132))]
def c48k6 : ICode := .kill 135 [1, 6, 14, 15] (.ops c48r6)
def c48s7 : ICode := (.seq (.block 7 (.seq c48k6 c48s5)) c48k3)
def c48s8 : ICode := (.cond (.t 122) .skip (.exit 6))
def c48r9 : List Seg := [
 zm 119 15,
 zm 120 14,
 zo 121 (.len 0 (.t 120)),
 zo 122 (.bin .lss (.t 119) (.t 121))]
def c48k9 : ICode := .kill 135 [1, 6, 14, 15] (.ops c48r9)
def c48l2 : ICode := (.seq (.seq c48k9 c48s8) c48s7)
def c48s10 : ICode := (.block 6 (.loop c48l2))
def c48r11 : List Seg := [
 zo 15 (.mv (.c (.int .i64 0)))]
def c48k11 : ICode := .kill 135 [1, 6, 14] (.ops c48r11)
def c48s12 : ICode := (.seq (.seq c48k11 c48s10) c48s1)
def c48r13 : List Seg := [
 zo 116 (.loadN 3 (.t 2)),
 zm 117 6,
 zo 118 (.call [] (.c (.func 49 [])) [(.t 116), (.t 117)]),
 zm 14 118]
def c48k13 : ICode := .kill 135 [1, 2, 6] (.ops c48r13)
def c48s14 : ICode := (.seq c48k13 c48s12)
def c48r16 : List Seg := [
 zm 43 10,
 zo 44 (.bin .add (.t 43) (.c (.int .i64 1))),
 zm 10 44]
def c48k16 : ICode := .kill 135 [1, 2, 6, 7, 10] (.ops c48r16)
def c48r18 : List Seg := [
 zm 50 11,
 zo 51 (.bin .add (.t 50) (.c (.int .i64 1))),
 zm 11 51]
def c48k18 : ICode := .kill 135 [1, 2, 6, 7, 10, 11] (.ops c48r18)
def c48r19 : List Seg := [
 zm 113 7,
 zm 114 12,
 zo 115 (.idxS 1 (.t 113) (.t 114)),
 .one ⟨none, .store1 (.t 115) (.c (.bool true)), none⟩]
def c48k19 : ICode := .kill 135 [1, 2, 6, 7, 10, 11, 12] (.ops c48r19)
def c48r20 : List Seg := [
 .grp [(zn 101 6, 0), (zn 102 12, 0), (zn 103 6, 0), (zn 104 13, 0), (zp 105 (.idxS 1 (.t 103) (.t 104)), 12), (zp 106 (.load1 (.t 105)), 28), (zn 107 1, 0), (zn 108 11, 0), (zp 109 (.idxS 1 (.t 107) (.t 108)), 192), (zp 110 (.load1 (.t 109)), 448), (zp 111 (.bin .sub (.t 106) (.t 110)), 1020)],
 zo 112 (.idxS 1 (.t 101) (.t 102)),
 .one ⟨none, .store1 (.t 112) (.t 111), none⟩]
def c48k20 : ICode := .kill 135 [1, 2, 6, 7, 10, 11, 12, 13] (.ops c48r20)
def c48s21 : ICode := (.cond (.t 100) (.seq c48k20 c48k19) .skip)
def c48r22 : List Seg := [
 zm 90 7,
 zm 91 13,
 zo 92 (.idxS 1 (.t 90) (.t 91)),
 zo 93 (.load1 (.t 92)),
 zm 94 93,
 .one ⟨some 95, .mv (.t 7), some (94, true)⟩,
 .one ⟨some 96, .mv (.t 12), some (94, true)⟩,
 .one ⟨some 97, .idxS 1 (.t 95) (.t 96), some (94, true)⟩,
 .one ⟨some 98, .load1 (.t 97), some (94, true)⟩,
 .one ⟨some 99, .un .not (.t 98), some (94, true)⟩,
 zo 100 (.pick (.t 94) (.t 99) (.c (.bool false)))]
def c48k22 : ICode := .kill 135 [1, 2, 6, 7, 10, 11, 12, 13] (.ops c48r22)
def c48s23 : ICode := (.seq c48k22 c48s21)
def c48r24 : List Seg := [
 zm 87 7,
 zm 88 13,
 zo 89 (.idxS 1 (.t 87) (.t 88)),
 .one ⟨none, .store1 (.t 89) (.c (.bool true)), none⟩]
def c48k24 : ICode := .kill 135 [1, 2, 6, 7, 10, 11, 12, 13] (.ops c48r24)
def c48r25 : List Seg := [
 .grp [(zn 75 6, 0), (zn 76 13, 0), (zn 77 6, 0), (zn 78 12, 0), (zp 79 (.idxS 1 (.t 77) (.t 78)), 12), (zp 80 (.load1 (.t 79)), 28), (zn 81 1, 0), (zn 82 11, 0), (zp 83 (.idxS 1 (.t 81) (.t 82)), 192), (zp 84 (.load1 (.t 83)), 448), (zp 85 (.bin .add (.t 80) (.t 84)), 1020)],
 zo 86 (.idxS 1 (.t 75) (.t 76)),
 .one ⟨none, .store1 (.t 86) (.t 85), none⟩]
def c48k25 : ICode := .kill 135 [1, 2, 6, 7, 10, 11, 12, 13] (.ops c48r25)
def c48s26 : ICode := (.cond (.t 74) (.seq c48k25 c48k24) .skip)
def c48r27 : List Seg := [
 zm 64 7,
 zm 65 12,
 zo 66 (.idxS 1 (.t 64) (.t 65)),
 zo 67 (.load1 (.t 66)),
 zm 68 67,
 .one ⟨some 69, .mv (.t 7), some (68, true)⟩,
 .one ⟨some 70, .mv (.t 13), some (68, true)⟩,
 .one ⟨some 71, .idxS 1 (.t 69) (.t 70), some (68, true)⟩,
 .one ⟨some 72, .load1 (.t 71), some (68, true)⟩,
 .one ⟨some 73, .un .not (.t 72), some (68, true)⟩,
 zo 74 (.pick (.t 68) (.t 73) (.c (.bool false)))]
def c48k27 : ICode := .kill 135 [1, 2, 6, 7, 10, 11, 12, 13] (.ops c48r27)
def c48s28 : ICode := (.seq (.seq c48k27 c48s26) c48s23)
def c48r29 : List Seg := [
 .grp [(zp 52 (.fieldA 1 (.t 2)), 0), (zp 53 (.load1 (.t 52)), 1), (zn 54 11, 0), (zp 55 (.idxS 2 (.t 53) (.t 54)), 7), (zp 56 (.idxA 2 1 (.t 55) (.c (.int .i64 0))), 15), (zp 57 (.load1 (.t 56)), 31), (zp 58 (.fieldA 1 (.t 2)), 0), (zp 59 (.load1 (.t 58)), 64), (zn 60 11, 0), (zp 61 (.idxS 2 (.t 59) (.t 60)), 448), (zp 62 (.idxA 2 1 (.t 61) (.c (.int .i64 1))), 960), (zp 63 (.load1 (.t 62)), 1984), (zn 12 57, 63)],
 zm 13 63]
def c48k29 : ICode := .kill 135 [1, 2, 6, 7, 10, 11] (.ops c48r29)
def c48s30 : ICode := (.seq (.block 5 (.seq c48k29 c48s28)) c48k18)
def c48s31 : ICode := (.cond (.t 49) .skip (.exit 4))
def c48r32 : List Seg := [
 zm 45 11,
 zo 46 (.fieldA 1 (.t 2)),
 zo 47 (.load1 (.t 46)),
 zo 48 (.len 0 (.t 47)),
 zo 49 (.bin .lss (.t 45) (.t 48))]
def c48k32 : ICode := .kill 135 [1, 2, 6, 7, 10, 11] (.ops c48r32)
def c48l17 : ICode := (.seq (.seq c48k32 c48s31) c48s30)
def c48s33 : ICode := (.block 4 (.loop c48l17))
def c48r34 : List Seg := [
 zo 11 (.mv (.c (.int .i64 0)))]
def c48k34 : ICode := .kill 135 [1, 2, 6, 7, 10] (.ops c48r34)
def c48s35 : ICode := (.seq (.block 3 (.seq c48k34 c48s33)) c48k16)
def c48s36 : ICode := (.cond (.t 42) .skip (.exit 2))
def c48r37 : List Seg := [
 zm 39 10,
 zo 40 (.fieldA 0 (.t 2)),
 zo 41 (.load1 (.t 40)),
 zo 42 (.bin .lss (.t 39) (.t 41))]
def c48k37 : ICode := .kill 135 [1, 2, 6, 7, 10] (.ops c48r37)
def c48l15 : ICode := (.seq (.seq c48k37 c48s36) c48s35)
def c48s38 : ICode := (.block 2 (.loop c48l15))
def c48r39 : List Seg := [
 zo 10 (.mv (.c (.int .i64 0)))]
def c48k39 : ICode := .kill 135 [1, 2, 6, 7] (.ops c48r39)
def c48s40 : ICode := (.seq (.seq c48k39 c48s38) c48s14)
def c48r42 : List Seg := [
 zm 28 9,
 zo 29 (.bin .add (.t 28) (.c (.int .i64 1))),
 zm 9 29]
def c48k42 : ICode := .kill 135 [1, 2, 6, 7, 8, 9] (.ops c48r42)
def c48r43 : List Seg := [
 zm 30 7,
 zm 31 9,
 zm 32 8,
 zm 33 9,
 zo 34 (.idxS 1 (.t 32) (.t 33)),
 zo 35 (.load1 (.t 34)),
 zm 36 9,
 zo 37 (.bin .eql (.t 35) (.t 36)),
 zo 38 (.idxS 1 (.t 30) (.t 31)),
 .one ⟨none, .store1 (.t 38) (.t 37), none⟩]
def c48k43 : ICode := .kill 135 [1, 2, 6, 7, 8, 9] (.ops c48r43)
def c48s44 : ICode := (.seq (.block 1 c48k43) c48k42)
def c48s45 : ICode := (.cond (.t 27) .skip (.exit 0))
def c48r46 : List Seg := [
 zm 24 9,
 zo 25 (.fieldA 0 (.t 2)),
 zo 26 (.load1 (.t 25)),
 zo 27 (.bin .lss (.t 24) (.t 26))]
def c48k46 : ICode := .kill 135 [1, 2, 6, 7, 8, 9] (.ops c48r46)
def c48l41 : ICode := (.seq (.seq c48k46 c48s45) c48s44)
def c48s47 : ICode := (.block 0 (.loop c48l41))
def c48r48 : List Seg := [
 zo 9 (.mv (.c (.int .i64 0)))]
def c48k48 : ICode := .kill 135 [1, 2, 6, 7, 8] (.ops c48r48)
def c48s49 : ICode := (.seq (.seq c48k48 c48s47) c48s40)
def c48r50 : List Seg := [
 zo 22 (.loadN 3 (.t 2)),
 zo 23 (.call [] (.c (.func 31 [])) [(.t 22)]),
 zm 8 23]
def c48k50 : ICode := .kill 135 [1, 2, 6, 7] (.ops c48r50)
def c48s51 : ICode := (.seq c48k50 c48s49)
def c48r52 : List Seg := [
 zo 19 (.fieldA 0 (.t 2)),
 zo 20 (.load1 (.t 19)),
 zo 21 (.make [.bool false] 1 (.t 20) (.t 20)),
 zm 7 21]
def c48k52 : ICode := .kill 135 [1, 2, 6] (.ops c48r52)
def c48s53 : ICode := (.seq c48k52 c48s51)
def c48r54 : List Seg := [
 zo 16 (.fieldA 0 (.t 2)),
 zo 17 (.load1 (.t 16)),
 zo 18 (.make [.int .i64 0] 8 (.t 17) (.t 17)),
 zm 6 18]
def c48k54 : ICode := .kill 135 [1, 2] (.ops c48r54)
def c48s55 : ICode := (.seq c48k54 c48s53)
def c48r56 : List Seg := [
 zo 2 (.box (.t 0)),
 zo 4 (.mv (.c .nilslice)),
 zo 5 (.mv (.c (.bool false)))]
def c48k56 : ICode := .kill 135 [0, 1] (.ops c48r56)
def c48b : ICode := (.seq c48k56 c48s55)
def c48 : IFn := ⟨135, [.t 4, .t 5], c48b⟩
def h48 : List (Nat × Nat × List Nat) := [(0, (135, [0, 1])), (1, (135, [1, 2])), (2, (135, [1, 2, 6])), (3, (135, [1, 2, 6, 7])), (4, (135, [1, 2, 6, 7, 8])), (5, (135, [1, 2, 6, 7, 8, 9])), (7, (135, [1, 2, 6, 7, 8, 9])), (6, (135, [1, 2, 6, 7, 8, 9])), (8, (135, [1, 2, 6, 7])), (9, (135, [1, 2, 6, 7, 10])), (11, (135, [1, 2, 6, 7, 10])), (12, (135, [1, 2, 6, 7, 10, 11])), (14, (135, [1, 2, 6, 7, 10, 11])), (15, (135, [1, 2, 6, 7, 10, 11, 12, 13])), (16, (135, [1, 2, 6, 7, 10, 11, 12, 13])), (17, (135, [1, 2, 6, 7, 10, 11, 12, 13])), (18, (135, [1, 2, 6, 7, 10, 11, 12, 13])), (19, (135, [1, 2, 6, 7, 10, 11, 12, 13])), (20, (135, [1, 2, 6, 7, 10, 11, 12])), (13, (135, [1, 2, 6, 7, 10, 11])), (10, (135, [1, 2, 6, 7, 10])), (21, (135, [1, 2, 6])), (22, (135, [1, 6, 14])), (23, (135, [1, 6, 14, 15])), (25, (135, [1, 6, 14, 15])), (26, (135, [])), (24, (135, [1, 6, 14, 15])), (27, (135, [6]))]
def c49r0 : List Seg := [
 zm 40 5,
 zm 4 40]
def c49k0 : ICode := .kill 41 [5] (.ops c49r0)
def c49s1 : ICode := (.seq c49k0 .ret)
def c49r3 : List Seg := [
 zm 16 6,
 zo 17 (.bin .add (.t 16) (.c (.int .i64 1))),
 zm 6 17]
def c49k3 : ICode := .kill 41 [1, 2, 5, 6] (.ops c49r3)
def c49r4 : List Seg := [
 .grp [(zn 18 5, 0), (zn 19 6, 0), (zn 20 1, 0), (zp 21 (.fieldA 1 (.t 2)), 0), (zp 22 (.load1 (.t 21)), 8), (zn 23 6, 0), (zp 24 (.idxS 2 (.t 22) (.t 23)), 56), (zp 25 (.idxA 2 1 (.t 24) (.c (.int .i64 1))), 120), (zp 26 (.load1 (.t 25)), 248), (zp 27 (.idxS 1 (.t 20) (.t 26)), 508), (zp 28 (.load1 (.t 27)), 1020), (zn 29 1, 0), (zp 30 (.fieldA 1 (.t 2)), 0), (zp 31 (.load1 (.t 30)), 4096), (zn 32 6, 0), (zp 33 (.idxS 2 (.t 31) (.t 32)), 28672), (zp 34 (.idxA 2 1 (.t 33) (.c (.int .i64 0))), 61440), (zp 35 (.load1 (.t 34)), 126976), (zp 36 (.idxS 1 (.t 29) (.t 35)), 260096), (zp 37 (.load1 (.t 36)), 522240), (zp 38 (.bin .sub (.t 28) (.t 37)), 1048572)],
 zo 39 (.idxS 1 (.t 18) (.t 19)),
 .one ⟨none, .store1 (.t 39) (.t 38), none⟩]
def c49k4 : ICode := .kill 41 [1, 2, 5, 6] (.ops c49r4)
def c49s5 : ICode := (.seq (.block 1 c49k4) c49k3)
def c49s6 : ICode := (.cond (.t 15) .skip (.exit 0))
def c49r7 : List Seg := [
 zm 11 6,
 zo 12 (.fieldA 1 (.t 2)),
 zo 13 (.load1 (.t 12)),
 zo 14 (.len 0 (.t 13)),
 zo 15 (.bin .lss (.t 11) (.t 14))]
def c49k7 : ICode := .kill 41 [1, 2, 5, 6] (.ops c49r7)
def c49l2 : ICode := (.seq (.seq c49k7 c49s6) c49s5)
def c49s8 : ICode := (.block 0 (.loop c49l2))
def c49r9 : List Seg := [
 zo 6 (.mv (.c (.int .i64 0)))]
def c49k9 : ICode := .kill 41 [1, 2, 5] (.ops c49r9)
def c49s10 : ICode := (.seq (.seq c49k9 c49s8) c49s1)
def c49r11 : List Seg := [
 zo 7 (.fieldA 1 (.t 2)),
 zo 8 (.load1 (.t 7)),
 zo 9 (.len 0 (.t 8)),
 zo 10 (.make [.int .i64 0] 8 (.t 9) (.t 9)),
 zm 5 10]
def c49k11 : ICode := .kill 41 [1, 2] (.ops c49r11)
def c49s12 : ICode := (.seq c49k11 c49s10)
def c49r13 : List Seg := [
 zo 2 (.box (.t 0)),
 zo 4 (.mv (.c .nilslice))]
def c49k13 : ICode := .kill 41 [0, 1] (.ops c49r13)
def c49b : ICode := (.seq c49k13 c49s12)
def c49 : IFn := ⟨41, [.t 4], c49b⟩
def h49 : List (Nat × Nat × List Nat) := [(0, (41, [0, 1])), (1, (41, [1, 2])), (2, (41, [1, 2, 5])), (3, (41, [1, 2, 5, 6])), (5, (41, [1, 2, 5, 6])), (4, (41, [1, 2, 5, 6])), (6, (41, [5]))]
def c50r0 : List Seg := [
 .grp [(zp 10 (.loadN 3 (.t 1)), 0), (zp 11 (.fieldA 1 (.t 1)), 0), (zp 12 (.load1 (.t 11)), 2), (zp 13 (.len 0 (.t 12)), 6), (zp 14 (.make [.int .i64 0] 8 (.t 13) (.t 13)), 14)],
 zo 15 (.call [] (.c (.func 78 [])) [(.t 10), (.t 14)]),
 zo 16 (.nilck (.t 15)),
 zo 17 (.fieldA 12 (.t 16)),
 zo 18 (.load1 (.t 17)),
 zm 2 18,
 zo 3 (.mv (.c (.int .i64 0)))]
def c50k0 : ICode := .kill 19 [1] (.ops c50r0)
def c50s1 : ICode := (.seq c50k0 .ret)
def c50r2 : List Seg := [
 zm 9 4,
 zo 2 (.mv (.c (.int .i64 0))),
 zm 3 9]
def c50k2 : ICode := .kill 19 [4] (.ops c50r2)
def c50s3 : ICode := (.cond (.t 8) (.seq c50k2 .ret) .skip)
def c50r4 : List Seg := [
 zm 7 4,
 zo 8 (.bin .neq (.t 7) (.c (.int .i64 0)))]
def c50k4 : ICode := .kill 19 [1, 4] (.ops c50r4)
def c50s5 : ICode := (.seq c50k4 c50s3)
def c50r6 : List Seg := [
 zo 5 (.loadN 3 (.t 1)),
 zo 6 (.call [] (.c (.func 59 [])) [(.t 5)]),
 zm 4 6]
def c50k6 : ICode := .kill 19 [1] (.ops c50r6)
def c50s7 : ICode := (.seq (.seq c50k6 c50s5) c50s1)
def c50r8 : List Seg := [
 zo 1 (.box (.t 0)),
 zo 2 (.mv (.c (.int .i64 0))),
 zo 3 (.mv (.c (.int .i64 0)))]
def c50k8 : ICode := .kill 19 [0] (.ops c50r8)
def c50b : ICode := (.seq c50k8 c50s7)
def c50 : IFn := ⟨19, [.t 2, .t 3], c50b⟩
def h50 : List (Nat × Nat × List Nat) := [(0, (19, [0])), (1, (19, [1])), (2, (19, [1, 4])), (3, (19, [4])), (4, (19, [1]))]
def c59r0 : List Seg := [
 zo 2 (.mv (.c (.int .i64 0)))]
def c59k0 : ICode := .kill 133 [] (.ops c59r0)
def c59s1 : ICode := (.seq c59k0 .ret)
def c59r3 : List Seg := [
 zo 132 (.bin .add (.t 73) (.c (.int .i64 1))),
 zm 73 132]
def c59k3 : ICode := .kill 133 [1, 71, 72, 73] (.ops c59r3)
def c59r5 : List Seg := [
 zo 131 (.bin .add (.t 122) (.c (.int .i64 1))),
 zm 122 131]
def c59k5 : ICode := .kill 133 [1, 71, 72, 73, 120, 121, 122] (.ops c59r5)
def c59r6 : List Seg := [
 zo 2 (.mv (.c (.int .i64 30)))]
def c59k6 : ICode := .kill 133 [] (.ops c59r6)
def c59s7 : ICode := (.cond (.t 130) (.seq c59k6 .ret) .skip)
def c59r8 : List Seg := [
 zo 126 (.fieldA 1 (.t 1)),
 zo 127 (.load1 (.t 126)),
 zo 128 (.loadN 2 (.t 8)),
 zo 129 (.call [] (.c (.func 92 [])) [(.t 127), (.t 128)]),
 zo 130 (.un .not (.t 129))]
def c59k8 : ICode := .kill 133 [1, 8, 71, 72, 73, 120, 121, 122] (.ops c59r8)
def c59s9 : ICode := (.seq c59k8 c59s7)
def c59r10 : List Seg := [
 zo 124 (.idxS 2 (.t 120) (.t 122)),
 zo 125 (.loadN 2 (.t 124)),
 zo 8 (.box (.c (.agg [.int .i64 0, .int .i64 0]))),
 .one ⟨none, .storeN 2 (.t 8) (.t 125), none⟩]
def c59k10 : ICode := .kill 133 [1, 71, 72, 73, 120, 121, 122] (.ops c59r10)
def c59s11 : ICode := (.seq (.block 5 (.seq c59k10 c59s9)) c59k5)
def c59s12 : ICode := (.seq (.cond (.t 123) .skip (.exit 4)) c59s11)
def c59r13 : List Seg := [
 zo 123 (.bin .lss (.t 122) (.t 121))]
def c59k13 : ICode := .kill 133 [1, 71, 72, 73, 120, 121, 122] (.ops c59r13)
def c59l4 : ICode := (.seq c59k13 c59s12)
def c59s14 : ICode := (.block 4 (.loop c59l4))
def c59r15 : List Seg := [
 zo 105 (.idxA 3 1 (.t 6) (.c (.int .i64 0))),
 zo 106 (.load1 (.t 105)),
 zo 107 (.idxA 3 1 (.t 6) (.c (.int .i64 1))),
 zo 108 (.load1 (.t 107)),
 zo 109 (.mkagg [.int .i64 0, .int .i64 0] [(0, 1, (.t 106)), (1, 1, (.t 108))]),
 zo 110 (.idxA 3 1 (.t 6) (.c (.int .i64 0))),
 zo 111 (.load1 (.t 110)),
 zo 112 (.idxA 3 1 (.t 6) (.c (.int .i64 2))),
 zo 113 (.load1 (.t 112)),
 zo 114 (.mkagg [.int .i64 0, .int .i64 0] [(0, 1, (.t 111)), (1, 1, (.t 113))]),
 zo 115 (.idxA 3 1 (.t 6) (.c (.int .i64 1))),
 zo 116 (.load1 (.t 115)),
 zo 117 (.idxA 3 1 (.t 6) (.c (.int .i64 2))),
 zo 118 (.load1 (.t 117)),
 zo 119 (.mkagg [.int .i64 0, .int .i64 0] [(0, 1, (.t 116)), (1, 1, (.t 118))]),
 zo 120 (.mkslice 3 [.int .i64 0, .int .i64 0, .int .i64 0, .int .i64 0, .int .i64 0, .int .i64 0] [(0, 2, (.t 109)), (2, 2, (.t 114)), (4, 2, (.t 119))]),
 zo 121 (.len 0 (.t 120)),
 zo 122 (.mv (.c (.int .i64 0)))]
def c59k15 : ICode := .kill 133 [1, 6, 71, 72, 73] (.ops c59r15)
def c59s16 : ICode := (.seq c59k15 c59s14)
def c59r17 : List Seg := [
 zo 2 (.mv (.c (.int .i64 30)))]
def c59k17 : ICode := .kill 133 [] (.ops c59r17)
def c59s18 : ICode := (.cond (.t 104) (.seq c59k17 .ret) .skip)
def c59r19 : List Seg := [
 .grp [(zp 78 (.idxA 3 1 (.t 6) (.c (.int .i64 0))), 0), (zp 79 (.load1 (.t 78)), 1), (zp 80 (.idxA 3 1 (.t 6) (.c (.int .i64 1))), 0), (zp 81 (.load1 (.t 80)), 4)],
 zo 82 (.bin .geq (.t 79) (.t 81)),
 zm 83 82,
 .grp [(⟨some 84, .idxA 3 1 (.t 6) (.c (.int .i64 1)), some (83, false)⟩, 0), (⟨some 85, .load1 (.t 84), some (83, false)⟩, 1), (⟨some 86, .idxA 3 1 (.t 6) (.c (.int .i64 2)), some (83, false)⟩, 0), (⟨some 87, .load1 (.t 86), some (83, false)⟩, 4)],
 .one ⟨some 88, .bin .geq (.t 85) (.t 87), some (83, false)⟩,
 zo 89 (.pick (.t 83) (.c (.bool true)) (.t 88)),
 zm 90 89,
 .one ⟨some 91, .mv (.t 5), some (90, false)⟩,
 .one ⟨some 92, .bin .gtr (.t 91) (.c (.int .i64 0)), some (90, false)⟩,
 .one ⟨some 93, .mv (.t 92), some (90, false)⟩,
 .grp [(⟨some 94, .fieldA 2 (.t 1), some (93, true)⟩, 0), (⟨some 95, .load1 (.t 94), some (93, true)⟩, 1), (⟨some 96, .mv (.t 5), some (93, true)⟩, 0), (⟨some 97, .bin .sub (.t 96) (.c (.int .i64 1)), some (93, true)⟩, 4), (⟨some 98, .idxS 3 (.t 95) (.t 97), some (93, true)⟩, 15), (⟨some 99, .sliceA 3 1 (.t 98) none none none, some (93, true)⟩, 31), (⟨some 100, .sliceA 3 1 (.t 6) none none none, some (93, true)⟩, 0)],
 .one ⟨some 101, .call [] (.c (.func 91 [])) [(.t 99), (.t 100)], some (93, true)⟩,
 .one ⟨some 102, .bin .geq (.t 101) (.c (.int .i64 0)), some (93, true)⟩,
 .one ⟨some 103, .pick (.t 93) (.t 102) (.c (.bool false)), some (90, false)⟩,
 zo 104 (.pick (.t 90) (.c (.bool true)) (.t 103))]
def c59k19 : ICode := .kill 133 [1, 5, 6, 71, 72, 73] (.ops c59r19)
def c59s20 : ICode := (.seq (.seq c59k19 c59s18) c59s16)
def c59r21 : List Seg := [
 zm 75 73,
 zo 76 (.idxS 3 (.t 71) (.t 73)),
 zo 77 (.loadN 3 (.t 76)),
 zo 6 (.box (.c (.agg [.int .i64 0, .int .i64 0, .int .i64 0]))),
 zm 5 75,
 .one ⟨none, .storeN 3 (.t 6) (.t 77), none⟩]
def c59k21 : ICode := .kill 133 [1, 71, 72, 73] (.ops c59r21)
def c59s22 : ICode := (.seq (.block 3 (.seq c59k21 c59s20)) c59k3)
def c59s23 : ICode := (.seq (.cond (.t 74) .skip (.exit 2)) c59s22)
def c59r24 : List Seg := [
 zo 74 (.bin .lss (.t 73) (.t 72))]
def c59k24 : ICode := .kill 133 [1, 71, 72, 73] (.ops c59r24)
def c59l2 : ICode := (.seq c59k24 c59s23)
def c59s25 : ICode := (.block 2 (.loop c59l2))
def c59r26 : List Seg := [
 zo 70 (.fieldA 2 (.t 1)),
 zo 71 (.load1 (.t 70)),
 zo 72 (.len 0 (.t 71)),
 zo 73 (.mv (.c (.int .i64 0)))]
def c59k26 : ICode := .kill 133 [1] (.ops c59r26)
def c59s27 : ICode := (.seq (.seq c59k26 c59s25) c59s1)
def c59r29 : List Seg := [
 zo 69 (.bin .add (.t 32) (.c (.int .i64 1))),
 zm 32 69]
def c59k29 : ICode := .kill 133 [1, 30, 31, 32] (.ops c59r29)
def c59r30 : List Seg := [
 zo 2 (.mv (.c (.int .i64 30)))]
def c59k30 : ICode := .kill 133 [] (.ops c59r30)
def c59s31 : ICode := (.cond (.t 68) (.seq c59k30 .ret) .skip)
def c59r32 : List Seg := [
 zo 37 (.idxA 2 1 (.t 4) (.c (.int .i64 0))),
 zo 38 (.load1 (.t 37)),
 zo 39 (.bin .lss (.t 38) (.c (.int .i64 0))),
 zm 40 39,
 .grp [(⟨some 41, .idxA 2 1 (.t 4) (.c (.int .i64 0)), some (40, false)⟩, 0), (⟨some 42, .load1 (.t 41), some (40, false)⟩, 1), (⟨some 43, .idxA 2 1 (.t 4) (.c (.int .i64 1)), some (40, false)⟩, 0), (⟨some 44, .load1 (.t 43), some (40, false)⟩, 4)],
 .one ⟨some 45, .bin .geq (.t 42) (.t 44), some (40, false)⟩,
 zo 46 (.pick (.t 40) (.c (.bool true)) (.t 45)),
 zm 47 46,
 .grp [(⟨some 48, .idxA 2 1 (.t 4) (.c (.int .i64 1)), some (47, false)⟩, 0), (⟨some 49, .load1 (.t 48), some (47, false)⟩, 1), (⟨some 50, .fieldA 0 (.t 1), some (47, false)⟩, 0), (⟨some 51, .load1 (.t 50), some (47, false)⟩, 4)],
 .one ⟨some 52, .bin .geq (.t 49) (.t 51), some (47, false)⟩,
 zo 53 (.pick (.t 47) (.c (.bool true)) (.t 52)),
 zm 54 53,
 .one ⟨some 55, .mv (.t 3), some (54, false)⟩,
 .one ⟨some 56, .bin .gtr (.t 55) (.c (.int .i64 0)), some (54, false)⟩,
 .one ⟨some 57, .mv (.t 56), some (54, false)⟩,
 .grp [(⟨some 58, .fieldA 1 (.t 1), some (57, true)⟩, 0), (⟨some 59, .load1 (.t 58), some (57, true)⟩, 1), (⟨some 60, .mv (.t 3), some (57, true)⟩, 0), (⟨some 61, .bin .sub (.t 60) (.c (.int .i64 1)), some (57, true)⟩, 4), (⟨some 62, .idxS 2 (.t 59) (.t 61), some (57, true)⟩, 15), (⟨some 63, .sliceA 2 1 (.t 62) none none none, some (57, true)⟩, 31), (⟨some 64, .sliceA 2 1 (.t 4) none none none, some (57, true)⟩, 0)],
 .one ⟨some 65, .call [] (.c (.func 91 [])) [(.t 63), (.t 64)], some (57, true)⟩,
 .one ⟨some 66, .bin .geq (.t 65) (.c (.int .i64 0)), some (57, true)⟩,
 .one ⟨some 67, .pick (.t 57) (.t 66) (.c (.bool false)), some (54, false)⟩,
 zo 68 (.pick (.t 54) (.c (.bool true)) (.t 67))]
def c59k32 : ICode := .kill 133 [1, 3, 4, 30, 31, 32] (.ops c59r32)
def c59s33 : ICode := (.seq c59k32 c59s31)
def c59r34 : List Seg := [
 zm 34 32,
 zo 35 (.idxS 2 (.t 30) (.t 32)),
 zo 36 (.loadN 2 (.t 35)),
 zo 4 (.box (.c (.agg [.int .i64 0, .int .i64 0]))),
 zm 3 34,
 .one ⟨none, .storeN 2 (.t 4) (.t 36), none⟩]
def c59k34 : ICode := .kill 133 [1, 30, 31, 32] (.ops c59r34)
def c59s35 : ICode := (.seq (.block 1 (.seq c59k34 c59s33)) c59k29)
def c59s36 : ICode := (.seq (.cond (.t 33) .skip (.exit 0)) c59s35)
def c59r37 : List Seg := [
 zo 33 (.bin .lss (.t 32) (.t 31))]
def c59k37 : ICode := .kill 133 [1, 30, 31, 32] (.ops c59r37)
def c59l28 : ICode := (.seq c59k37 c59s36)
def c59s38 : ICode := (.block 0 (.loop c59l28))
def c59r39 : List Seg := [
 zo 29 (.fieldA 1 (.t 1)),
 zo 30 (.load1 (.t 29)),
 zo 31 (.len 0 (.t 30)),
 zo 32 (.mv (.c (.int .i64 0)))]
def c59k39 : ICode := .kill 133 [1] (.ops c59r39)
def c59s40 : ICode := (.seq (.seq c59k39 c59s38) c59s27)
def c59r41 : List Seg := [
 zo 2 (.mv (.c (.int .i64 30)))]
def c59k41 : ICode := .kill 133 [] (.ops c59r41)
def c59s42 : ICode := (.cond (.t 28) (.seq c59k41 .ret) .skip)
def c59r43 : List Seg := [
 zo 9 (.fieldA 0 (.t 1)),
 zo 10 (.load1 (.t 9)),
 zo 11 (.bin .lss (.t 10) (.c (.int .i64 1))),
 zm 12 11,
 .one ⟨some 13, .fieldA 0 (.t 1), some (12, false)⟩,
 .one ⟨some 14, .load1 (.t 13), some (12, false)⟩,
 .one ⟨some 15, .bin .gtr (.t 14) (.c (.int .i64 6)), some (12, false)⟩,
 zo 16 (.pick (.t 12) (.c (.bool true)) (.t 15)),
 zm 17 16,
 .one ⟨some 18, .fieldA 1 (.t 1), some (17, false)⟩,
 .one ⟨some 19, .load1 (.t 18), some (17, false)⟩,
 .one ⟨some 20, .len 0 (.t 19), some (17, false)⟩,
 .one ⟨some 21, .bin .gtr (.t 20) (.c (.int .i64 10)), some (17, false)⟩,
 zo 22 (.pick (.t 17) (.c (.bool true)) (.t 21)),
 zm 23 22,
 .one ⟨some 24, .fieldA 2 (.t 1), some (23, false)⟩,
 .one ⟨some 25, .load1 (.t 24), some (23, false)⟩,
 .one ⟨some 26, .len 0 (.t 25), some (23, false)⟩,
 .one ⟨some 27, .bin .gtr (.t 26) (.c (.int .i64 6)), some (23, false)⟩,
 zo 28 (.pick (.t 23) (.c (.bool true)) (.t 27))]
def c59k43 : ICode := .kill 133 [1] (.ops c59r43)
def c59s44 : ICode := (.seq (.seq c59k43 c59s42) c59s40)
def c59r45 : List Seg := [
 zo 1 (.box (.t 0)),
 zo 2 (.mv (.c (.int .i64 0)))]
def c59k45 : ICode := .kill 133 [0] (.ops c59r45)
def c59b : ICode := (.seq c59k45 c59s44)
def c59 : IFn := ⟨133, [.t 2], c59b⟩
def h59 : List (Nat × Nat × List Nat) := [(0, (133, [0])), (1, (133, [1])), (2, (133, [])), (3, (133, [1])), (4, (133, [1, 30, 31, 32])), (5, (133, [1, 30, 31, 32])), (6, (133, [1, 3, 4, 30, 31, 32])), (7, (133, [])), (8, (133, [1, 30, 31, 32])), (9, (133, [1])), (10, (133, [1, 71, 72, 73])), (11, (133, [1, 71, 72, 73])), (12, (133, [1, 5, 6, 71, 72, 73])), (13, (133, [])), (14, (133, [1, 6, 71, 72, 73])), (15, (133, [1, 71, 72, 73, 120, 121, 122])), (16, (133, [1, 71, 72, 73, 120, 121, 122])), (17, (133, [1, 8, 71, 72, 73, 120, 121, 122])), (18, (133, [])), (19, (133, [1, 71, 72, 73, 120, 121, 122])), (20, (133, [1, 71, 72, 73])), (21, (133, []))]
end Go.Abs

set_option maxRecDepth 20000
set_option maxHeartbeats 4000000
namespace Go.Abs
def c60r0 : List Seg := [
 zo 6 (.mv (.c (.int .i64 (-1))))]
def c60k0 : ICode := .kill 29 [] (.ops c60r0)
def c60s1 : ICode := (.seq c60k0 .ret)
def c60r3 : List Seg := [
 zm 13 7,
 zo 14 (.bin .add (.t 13) (.c (.int .i64 1))),
 zm 7 14]
def c60k3 : ICode := .kill 29 [1, 2, 3, 7] (.ops c60r3)
def c60r4 : List Seg := [
 zm 28 7,
 zm 6 28]
def c60k4 : ICode := .kill 29 [7] (.ops c60r4)
def c60s5 : ICode := (.cond (.t 27) (.seq c60k4 .ret) .skip)
def c60r6 : List Seg := [
 zo 15 (.fieldA 1 (.t 3)),
 zo 16 (.load1 (.t 15)),
 zm 17 7,
 zo 18 (.idxS 2 (.t 16) (.t 17)),
 zo 19 (.loadN 2 (.t 18)),
 zm 20 1,
 zm 21 2,
 zo 22 (.mn [(.t 20), (.t 21)]),
 zm 23 1,
 zm 24 2,
 zo 25 (.mx [(.t 23), (.t 24)]),
 zo 26 (.mkagg [.int .i64 0, .int .i64 0] [(0, 1, (.t 22)), (1, 1, (.t 25))]),
 zo 27 (.eqv false (.ints 2) (.t 19) (.t 26))]
def c60k6 : ICode := .kill 29 [1, 2, 3, 7] (.ops c60r6)
def c60s7 : ICode := (.seq (.block 1 (.seq c60k6 c60s5)) c60k3)
def c60s8 : ICode := (.cond (.t 12) .skip (.exit 0))
def c60r9 : List Seg := [
 zm 8 7,
 zo 9 (.fieldA 1 (.t 3)),
 zo 10 (.load1 (.t 9)),
 zo 11 (.len 0 (.t 10)),
 zo 12 (.bin .lss (.t 8) (.t 11))]
def c60k9 : ICode := .kill 29 [1, 2, 3, 7] (.ops c60r9)
def c60l2 : ICode := (.seq (.seq c60k9 c60s8) c60s7)
def c60s10 : ICode := (.block 0 (.loop c60l2))
def c60r11 : List Seg := [
 zo 7 (.mv (.c (.int .i64 0)))]
def c60k11 : ICode := .kill 29 [1, 2, 3] (.ops c60r11)
def c60s12 : ICode := (.seq (.seq c60k11 c60s10) c60s1)
def c60r13 : List Seg := [
 zo 3 (.box (.t 0)),
 zo 6 (.mv (.c (.int .i64 0)))]
def c60k13 : ICode := .kill 29 [0, 1, 2] (.ops c60r13)
def c60b : ICode := (.seq c60k13 c60s12)
def c60 : IFn := ⟨29, [.t 6], c60b⟩
def h60 : List (Nat × Nat × List Nat) := [(0, (29, [0, 1, 2])), (1, (29, [1, 2, 3])), (2, (29, [1, 2, 3, 7])), (4, (29, [1, 2, 3, 7])), (5, (29, [7])), (3, (29, [1, 2, 3, 7])), (6, (29, []))]
def c61r0 : List Seg := [
 zo 4 (.mv (.c (.bool false)))]
def c61k0 : ICode := .kill 39 [] (.ops c61r0)
def c61s1 : ICode := (.seq c61k0 .ret)
def c61r3 : List Seg := [
 zm 14 5,
 zo 15 (.bin .add (.t 14) (.c (.int .i64 1))),
 zm 5 15]
def c61k3 : ICode := .kill 39 [0, 1, 5] (.ops c61r3)
def c61r4 : List Seg := [
 zo 4 (.mv (.c (.bool true)))]
def c61k4 : ICode := .kill 39 [] (.ops c61r4)
def c61s5 : ICode := (.cond (.t 38) (.seq c61k4 .ret) .skip)
def c61r6 : List Seg := [
 .grp [(zn 16 0, 0), (zn 17 5, 0), (zp 18 (.idxS 3 (.t 16) (.t 17)), 3), (zp 19 (.idxA 3 1 (.t 18) (.c (.int .i64 0))), 7), (zp 20 (.load1 (.t 19)), 15), (zn 21 0, 0), (zn 22 5, 0), (zp 23 (.idxS 3 (.t 21) (.t 22)), 96), (zp 24 (.idxA 3 1 (.t 23) (.c (.int .i64 1))), 224), (zp 25 (.load1 (.t 24)), 480), (zp 26 (.bin .add (.t 20) (.t 25)), 1023), (zn 27 0, 0), (zn 28 5, 0), (zp 29 (.idxS 3 (.t 27) (.t 28)), 6144), (zp 30 (.idxA 3 1 (.t 29) (.c (.int .i64 2))), 14336), (zp 31 (.load1 (.t 30)), 30720), (zp 32 (.bin .add (.t 26) (.t 31)), 65535), (zp 33 (.conv .u64 (.t 32)), 131071), (zp 34 (.bin .rem (.t 33) (.c (.int .u64 4))), 262143), (zn 35 1, 0), (zp 36 (.conv .u64 (.t 35)), 524288), (zp 37 (.bin .rem (.t 36) (.c (.int .u64 4))), 1572864)],
 zo 38 (.bin .eql (.t 34) (.t 37))]
def c61k6 : ICode := .kill 39 [0, 1, 5] (.ops c61r6)
def c61s7 : ICode := (.seq (.block 1 (.seq c61k6 c61s5)) c61k3)
def c61s8 : ICode := (.cond (.t 13) .skip (.exit 0))
def c61r9 : List Seg := [
 zm 6 5,
 zm 7 0,
 zo 8 (.len 0 (.t 7)),
 zo 9 (.bin .lss (.t 6) (.t 8)),
 zm 10 9,
 .one ⟨some 11, .mv (.t 5), some (10, true)⟩,
 .one ⟨some 12, .bin .lss (.t 11) (.c (.int .i64 10)), some (10, true)⟩,
 zo 13 (.pick (.t 10) (.t 12) (.c (.bool false)))]
def c61k9 : ICode := .kill 39 [0, 1, 5] (.ops c61r9)
def c61l2 : ICode := (.seq (.seq c61k9 c61s8) c61s7)
def c61s10 : ICode := (.block 0 (.loop c61l2))
def c61r11 : List Seg := [
 zo 5 (.mv (.c (.int .i64 0)))]
def c61k11 : ICode := .kill 39 [0, 1] (.ops c61r11)
def c61s12 : ICode := (.seq (.seq c61k11 c61s10) c61s1)
def c61r13 : List Seg := [
 zo 4 (.mv (.c (.bool false)))]
def c61k13 : ICode := .kill 39 [0, 1] (.ops c61r13)
def c61b : ICode := (.seq c61k13 c61s12)
def c61 : IFn := ⟨39, [.t 4], c61b⟩
def h61 : List (Nat × Nat × List Nat) := [(0, (39, [0, 1])), (1, (39, [0, 1])), (2, (39, [0, 1, 5])), (4, (39, [0, 1, 5])), (5, (39, [])), (3, (39, [0, 1, 5])), (6, (39, []))]
def c62r0 : List Seg := [
 zo 5 (.mkfn 93 [(.t 2), (.t 3)]),
 zm 4 5]
def c62k0 : ICode := .kill 6 [2, 3] (.ops c62r0)
def c62s1 : ICode := (.seq c62k0 .ret)
def c62r2 : List Seg := [
 zo 2 (.box (.t 0)),
 zo 3 (.box (.t 1)),
 zo 4 (.mv (.c .nilfunc))]
def c62k2 : ICode := .kill 6 [0, 1] (.ops c62r2)
def c62b : ICode := (.seq c62k2 c62s1)
def c62 : IFn := ⟨6, [.t 4], c62b⟩
def h62 : List (Nat × Nat × List Nat) := [(0, (6, [0, 1])), (1, (6, [2, 3]))]
def c63r0 : List Seg := [
 zm 3 0,
 zo 4 (.mkagg [.int .i64 0, .int .i64 0] [(0, 1, (.t 3)), (1, 1, (.c (.int .i64 1)))]),
 .one ⟨none, .storeN 2 (.t 2) (.t 4), none⟩]
def c63k0 : ICode := .kill 5 [0, 2] (.ops c63r0)
def c63s1 : ICode := (.seq c63k0 .ret)
def c63r2 : List Seg := [
 zo 2 (.box (.c (.agg [.int .i64 0, .int .i64 0])))]
def c63k2 : ICode := .kill 5 [0] (.ops c63r2)
def c63b : ICode := (.seq c63k2 c63s1)
def c63 : IFn := ⟨5, [.cellN 2 2], c63b⟩
def h63 : List (Nat × Nat × List Nat) := [(0, (5, [0])), (1, (5, [0, 2]))]
def c64r1 : List Seg := [
 zm 147 7,
 zm 6 147]
def c64k1 : ICode := .kill 148 [7] (.ops c64r1)
def c64s2 : ICode := (.seq c64k1 .ret)
def c64r4 : List Seg := [
 zo 146 (.bin .add (.t 32) (.c (.int .i64 1))),
 zm 32 146]
def c64k4 : ICode := .kill 148 [0, 5, 7, 9, 31, 32] (.ops c64r4)
def c64r5 : List Seg := [
 zm 144 9,
 zo 145 (.bin .add (.t 144) (.c (.int .i64 1))),
 zm 9 145]
def c64k5 : ICode := .kill 148 [0, 5, 7, 9, 31, 32] (.ops c64r5)
def c64r6 : List Seg := [
 zm 140 7,
 zm 141 9,
 zm 142 10,
 zo 143 (.idxS 1 (.t 140) (.t 141)),
 .one ⟨none, .store1 (.t 143) (.t 142), none⟩]
def c64k6 : ICode := .kill 148 [0, 5, 7, 9, 10, 31, 32] (.ops c64r6)
def c64s7 : ICode := (.seq c64k6 c64k5)
def c64r9 : List Seg := [
 zo 139 (.bin .add (.t 97) (.c (.int .i64 1))),
 zm 97 139]
def c64k9 : ICode := .kill 148 [0, 5, 7, 9, 10, 12, 31, 32, 95, 96, 97] (.ops c64r9)
def c64r11 : List Seg := [
 zo 138 (.bin .add (.t 119) (.c (.int .i64 1))),
 zm 119 138]
def c64k11 : ICode := .kill 148 [0, 5, 7, 9, 10, 12, 16, 17, 31, 32, 95, 96, 97, 118, 119] (.ops c64r11)
def c64r12 : List Seg := [
 .grp [(zn 122 16, 0), (zn 123 18, 0), (zn 124 16, 0), (zn 125 18, 0), (zp 126 (.idxS 2 (.t 124) (.t 125)), 12), (zp 127 (.loadN 2 (.t 126)), 28), (zp 128 (.mkif 86 (.t 127)), 60), (zn 129 12, 0), (zn 130 18, 0), (zp 131 (.idxS 2 (.t 129) (.t 130)), 384), (zp 132 (.loadN 2 (.t 131)), 896), (zp 133 (.mkif 86 (.t 132)), 1920), (zp 134 (.loadN 2 (.t 17)), 0), (zp 135 (.call [(86, 99)] (.t 133) [(.t 134)]), 8064), (zp 136 (.call [(86, 95)] (.t 128) [(.t 135)]), 16380)],
 zo 137 (.idxS 2 (.t 122) (.t 123)),
 .one ⟨none, .storeN 2 (.t 137) (.t 136), none⟩]
def c64k12 : ICode := .kill 148 [0, 5, 7, 9, 10, 12, 16, 17, 18, 31, 32, 95, 96, 97, 118, 119] (.ops c64r12)
def c64r13 : List Seg := [
 zm 121 119,
 zm 18 121]
def c64k13 : ICode := .kill 148 [0, 5, 7, 9, 10, 12, 16, 17, 31, 32, 95, 96, 97, 118, 119] (.ops c64r13)
def c64s14 : ICode := (.seq (.block 11 (.seq c64k13 c64k12)) c64k11)
def c64s15 : ICode := (.seq (.cond (.t 120) .skip (.exit 10)) c64s14)
def c64r16 : List Seg := [
 zo 120 (.bin .lss (.t 119) (.t 118))]
def c64k16 : ICode := .kill 148 [0, 5, 7, 9, 10, 12, 16, 17, 31, 32, 95, 96, 97, 118, 119] (.ops c64r16)
def c64l10 : ICode := (.seq c64k16 c64s15)
def c64s17 : ICode := (.block 10 (.loop c64l10))
def c64r18 : List Seg := [
 zm 117 16,
 zo 118 (.len 0 (.t 117)),
 zo 119 (.mv (.c (.int .i64 0)))]
def c64k18 : ICode := .kill 148 [0, 5, 7, 9, 10, 12, 16, 17, 31, 32, 95, 96, 97] (.ops c64r18)
def c64s19 : ICode := (.seq c64k18 c64s17)
def c64r20 : List Seg := [
 zm 113 16,
 zm 114 10,
 zo 115 (.idxS 2 (.t 113) (.t 114)),
 zo 116 (.loadN 2 (.t 115)),
 zo 17 (.box (.c (.agg [.int .i64 0, .int .i64 0]))),
 .one ⟨none, .storeN 2 (.t 17) (.t 116), none⟩]
def c64k20 : ICode := .kill 148 [0, 5, 7, 9, 10, 12, 16, 31, 32, 95, 96, 97] (.ops c64r20)
def c64s21 : ICode := (.seq c64k20 c64s19)
def c64s22 : ICode := (.cond (.t 112) (.exit 9) .skip)
def c64r23 : List Seg := [
 .grp [(zn 102 15, 0), (zn 103 9, 0)],
 zo 104 (.bin .eql (.t 102) (.t 103)),
 zm 105 104,
 .grp [(⟨some 106, .mv (.t 16), some (105, false)⟩, 0), (⟨some 107, .mv (.t 10), some (105, false)⟩, 0), (⟨some 108, .idxS 2 (.t 106) (.t 107), some (105, false)⟩, 3), (⟨some 109, .loadN 2 (.t 108), some (105, false)⟩, 7), (⟨some 110, .loadN 2 (.t 5), some (105, false)⟩, 0)],
 .one ⟨some 111, .eqv false (.ints 2) (.t 109) (.t 110), some (105, false)⟩,
 zo 112 (.pick (.t 105) (.c (.bool true)) (.t 111))]
def c64k23 : ICode := .kill 148 [0, 5, 7, 9, 10, 12, 15, 16, 31, 32, 95, 96, 97] (.ops c64r23)
def c64s24 : ICode := (.seq (.seq c64k23 c64s22) c64s21)
def c64r25 : List Seg := [
 zm 99 97,
 zo 100 (.idxS 1 (.t 95) (.t 97)),
 zo 101 (.load1 (.t 100)),
 zm 15 99,
 zm 16 101]
def c64k25 : ICode := .kill 148 [0, 5, 7, 9, 10, 12, 31, 32, 95, 96, 97] (.ops c64r25)
def c64s26 : ICode := (.seq (.block 9 (.seq c64k25 c64s24)) c64k9)
def c64s27 : ICode := (.seq (.cond (.t 98) .skip (.exit 8)) c64s26)
def c64r28 : List Seg := [
 zo 98 (.bin .lss (.t 97) (.t 96))]
def c64k28 : ICode := .kill 148 [0, 5, 7, 9, 10, 12, 31, 32, 95, 96, 97] (.ops c64r28)
def c64l8 : ICode := (.seq c64k28 c64s27)
def c64s29 : ICode := (.block 8 (.loop c64l8))
def c64r30 : List Seg := [
 zm 95 0,
 zo 96 (.len 0 (.t 95)),
 zo 97 (.mv (.c (.int .i64 0)))]
def c64k30 : ICode := .kill 148 [0, 5, 7, 9, 10, 12, 31, 32] (.ops c64r30)
def c64s31 : ICode := (.seq (.seq c64k30 c64s29) c64s7)
def c64r33 : List Seg := [
 zo 94 (.bin .add (.t 81) (.c (.int .i64 1))),
 zm 81 94]
def c64k33 : ICode := .kill 148 [0, 5, 7, 9, 10, 12, 13, 31, 32, 80, 81] (.ops c64r33)
def c64r34 : List Seg := [
 .grp [(zn 84 12, 0), (zn 85 14, 0), (zn 86 12, 0), (zn 87 14, 0), (zp 88 (.idxS 2 (.t 86) (.t 87)), 12), (zp 89 (.loadN 2 (.t 88)), 28), (zp 90 (.mkif 86 (.t 89)), 60), (zp 91 (.loadN 2 (.t 13)), 0), (zp 92 (.call [(86, 123)] (.t 90) [(.t 91)]), 252)],
 zo 93 (.idxS 2 (.t 84) (.t 85)),
 .one ⟨none, .storeN 2 (.t 93) (.t 92), none⟩]
def c64k34 : ICode := .kill 148 [0, 5, 7, 9, 10, 12, 13, 14, 31, 32, 80, 81] (.ops c64r34)
def c64r35 : List Seg := [
 zm 83 81,
 zm 14 83]
def c64k35 : ICode := .kill 148 [0, 5, 7, 9, 10, 12, 13, 31, 32, 80, 81] (.ops c64r35)
def c64s36 : ICode := (.seq (.block 7 (.seq c64k35 c64k34)) c64k33)
def c64s37 : ICode := (.seq (.cond (.t 82) .skip (.exit 6)) c64s36)
def c64r38 : List Seg := [
 zo 82 (.bin .lss (.t 81) (.t 80))]
def c64k38 : ICode := .kill 148 [0, 5, 7, 9, 10, 12, 13, 31, 32, 80, 81] (.ops c64r38)
def c64l32 : ICode := (.seq c64k38 c64s37)
def c64s39 : ICode := (.block 6 (.loop c64l32))
def c64r40 : List Seg := [
 zm 79 12,
 zo 80 (.len 0 (.t 79)),
 zo 81 (.mv (.c (.int .i64 0)))]
def c64k40 : ICode := .kill 148 [0, 5, 7, 9, 10, 12, 13, 31, 32] (.ops c64r40)
def c64s41 : ICode := (.seq (.seq c64k40 c64s39) c64s31)
def c64r42 : List Seg := [
 zm 75 12,
 zm 76 10,
 zo 77 (.idxS 2 (.t 75) (.t 76)),
 zo 78 (.loadN 2 (.t 77)),
 zo 13 (.box (.c (.agg [.int .i64 0, .int .i64 0]))),
 .one ⟨none, .storeN 2 (.t 13) (.t 78), none⟩]
def c64k42 : ICode := .kill 148 [0, 5, 7, 9, 10, 12, 31, 32] (.ops c64r42)
def c64s43 : ICode := (.seq c64k42 c64s41)
def c64r44 : List Seg := [
 zm 71 0,
 zm 72 9,
 zo 73 (.idxS 1 (.t 71) (.t 72)),
 zo 74 (.load1 (.t 73)),
 zm 12 74]
def c64k44 : ICode := .kill 148 [0, 5, 7, 9, 10, 31, 32] (.ops c64r44)
def c64s45 : ICode := (.seq c64k44 c64s43)
def c64r46 : List Seg := [
 .grpw (.t 69) (.t 64) none 8179 [(zn 57 0, 0), (zn 58 9, 0), (zn 59 0, 0), (zn 60 11, 0), (zn 61 0, 0), (zn 62 11, 0), (zp 63 (.idxS 1 (.t 61) (.t 62)), 48), (zp 64 (.load1 (.t 63)), 112), (zn 65 0, 0), (zn 66 9, 0), (zp 67 (.idxS 1 (.t 65) (.t 66)), 768), (zp 68 (.load1 (.t 67)), 1792), (zp 69 (.idxS 1 (.t 57) (.t 58)), 4083), (⟨none, .lenc 0, none⟩, 8179)],
 zo 70 (.idxS 1 (.t 59) (.t 60)),
 .one ⟨none, .store1 (.t 70) (.t 68), none⟩]
def c64k46 : ICode := .kill 148 [0, 5, 7, 9, 10, 11, 31, 32] (.ops c64r46)
def c64s47 : ICode := (.seq c64k46 c64s45)
def c64s48 : ICode := (.cond (.t 56) (.exit 3) .skip)
def c64r49 : List Seg := [
 zm 53 11,
 zm 54 0,
 zo 55 (.len 0 (.t 54)),
 zo 56 (.bin .eql (.t 53) (.t 55))]
def c64k49 : ICode := .kill 148 [0, 5, 7, 9, 10, 11, 31, 32] (.ops c64r49)
def c64s50 : ICode := (.seq (.seq c64k49 c64s48) c64s47)
def c64r52 : List Seg := [
 zm 51 11,
 zo 52 (.bin .add (.t 51) (.c (.int .i64 1))),
 zm 11 52]
def c64k52 : ICode := .kill 148 [0, 5, 7, 9, 10, 11, 31, 32] (.ops c64r52)
def c64s53 : ICode := (.block 5 c64k52)
def c64s54 : ICode := (.cond (.t 50) .skip (.exit 4))
def c64r55 : List Seg := [
 .grp [(zn 36 11, 0), (zn 37 0, 0), (zp 38 (.len 0 (.t 37)), 2)],
 zo 39 (.bin .lss (.t 36) (.t 38)),
 zm 40 39,
 .grp [(⟨some 41, .mv (.t 0), some (40, true)⟩, 0), (⟨some 42, .mv (.t 11), some (40, true)⟩, 0), (⟨some 43, .idxS 1 (.t 41) (.t 42), some (40, true)⟩, 3), (⟨some 44, .load1 (.t 43), some (40, true)⟩, 7), (⟨some 45, .mv (.t 10), some (40, true)⟩, 0), (⟨some 46, .idxS 2 (.t 44) (.t 45), some (40, true)⟩, 31), (⟨some 47, .loadN 2 (.t 46), some (40, true)⟩, 63), (⟨some 48, .loadN 2 (.t 5), some (40, true)⟩, 0)],
 .one ⟨some 49, .eqv false (.ints 2) (.t 47) (.t 48), some (40, true)⟩,
 zo 50 (.pick (.t 40) (.t 49) (.c (.bool false)))]
def c64k55 : ICode := .kill 148 [0, 5, 7, 9, 10, 11, 31, 32] (.ops c64r55)
def c64l51 : ICode := (.seq (.seq c64k55 c64s54) c64s53)
def c64s56 : ICode := (.seq (.block 4 (.loop c64l51)) c64s50)
def c64r57 : List Seg := [
 zm 35 9,
 zm 11 35]
def c64k57 : ICode := .kill 148 [0, 5, 7, 9, 10, 31, 32] (.ops c64r57)
def c64s58 : ICode := (.seq c64k57 c64s56)
def c64r59 : List Seg := [
 zm 34 32,
 zm 10 34]
def c64k59 : ICode := .kill 148 [0, 5, 7, 9, 31, 32] (.ops c64r59)
def c64s60 : ICode := (.seq (.block 3 (.seq c64k59 c64s58)) c64k4)
def c64s61 : ICode := (.seq (.cond (.t 33) .skip (.exit 2)) c64s60)
def c64r62 : List Seg := [
 zo 33 (.bin .lss (.t 32) (.t 31))]
def c64k62 : ICode := .kill 148 [0, 5, 7, 9, 31, 32] (.ops c64r62)
def c64l3 : ICode := (.seq c64k62 c64s61)
def c64s63 : ICode := (.block 2 (.loop c64l3))
def c64r64 : List Seg := [
 zm 31 1,
 zo 32 (.mv (.c (.int .i64 0)))]
def c64k64 : ICode := .kill 148 [0, 1, 5, 7, 9] (.ops c64r64)
def c64s65 : ICode := (.seq (.seq c64k64 c64s63) c64s2)
def c64s66 : ICode := (.seq .skip c64s65)
def c64r67 : List Seg := [
 zo 9 (.mv (.c (.int .i64 0)))]
def c64k67 : ICode := .kill 148 [0, 1, 5, 7] (.ops c64r67)
def c64s68 : ICode := (.seq c64k67 c64s66)
def c64r70 : List Seg := [
 zo 30 (.bin .add (.t 24) (.c (.int .i64 1))),
 zm 24 30]
def c64k70 : ICode := .kill 148 [0, 1, 5, 7, 23, 24] (.ops c64r70)
def c64r71 : List Seg := [
 zm 27 7,
 zm 28 8,
 zo 29 (.idxS 1 (.t 27) (.t 28)),
 .one ⟨none, .store1 (.t 29) (.c (.int .i64 (-1))), none⟩]
def c64k71 : ICode := .kill 148 [0, 1, 5, 7, 8, 23, 24] (.ops c64r71)
def c64r72 : List Seg := [
 zm 26 24,
 zm 8 26]
def c64k72 : ICode := .kill 148 [0, 1, 5, 7, 23, 24] (.ops c64r72)
def c64s73 : ICode := (.seq (.block 1 (.seq c64k72 c64k71)) c64k70)
def c64s74 : ICode := (.seq (.cond (.t 25) .skip (.exit 0)) c64s73)
def c64r75 : List Seg := [
 zo 25 (.bin .lss (.t 24) (.t 23))]
def c64k75 : ICode := .kill 148 [0, 1, 5, 7, 23, 24] (.ops c64r75)
def c64l69 : ICode := (.seq c64k75 c64s74)
def c64s76 : ICode := (.block 0 (.loop c64l69))
def c64r77 : List Seg := [
 zm 22 7,
 zo 23 (.len 0 (.t 22)),
 zo 24 (.mv (.c (.int .i64 0)))]
def c64k77 : ICode := .kill 148 [0, 1, 5, 7] (.ops c64r77)
def c64s78 : ICode := (.seq (.seq c64k77 c64s76) c64s68)
def c64r79 : List Seg := [
 zm 19 0,
 zo 20 (.len 0 (.t 19)),
 zo 21 (.make [.int .i64 0] 8 (.t 20) (.t 20)),
 zm 7 21]
def c64k79 : ICode := .kill 148 [0, 1, 5] (.ops c64r79)
def c64p0 : ICode := (.seq c64k79 c64s78)
def c64s80 : ICode := (.scope c64p0)
def c64r81 : List Seg := [
 zo 5 (.box (.t 2)),
 zo 6 (.mv (.c .nilslice))]
def c64k81 : ICode := .kill 148 [0, 1, 2] (.ops c64r81)
def c64b : ICode := (.seq c64k81 c64s80)
def c64 : IFn := ⟨148, [.t 6], c64b⟩
def h64 : List (Nat × Nat × List Nat) := [(0, (148, [0, 1, 2])), (1, (148, [0, 1, 5])), (2, (148, [0, 1, 5, 7])), (3, (148, [0, 1, 5, 7, 23, 24])), (4, (148, [0, 1, 5, 7, 23, 24])), (5, (148, [0, 1, 5, 7, 8, 23, 24])), (6, (148, [0, 1, 5, 7, 23, 24])), (7, (148, [0, 1, 5, 7])), (8, (148, [0, 1, 5, 7, 9])), (9, (148, [0, 5, 7, 9, 31, 32])), (10, (148, [0, 5, 7, 9, 31, 32])), (11, (148, [0, 5, 7, 9, 10, 31, 32])), (12, (148, [0, 5, 7, 9, 10, 11, 31, 32])), (13, (148, [0, 5, 7, 9, 10, 11, 31, 32])), (14, (148, [0, 5, 7, 9, 10, 11, 31, 32])), (15, (148, [0, 5, 7, 9, 10, 11, 31, 32])), (16, (148, [0, 5, 7, 9, 10, 31, 32])), (17, (148, [0, 5, 7, 9, 10, 12, 31, 32])), (18, (148, [0, 5, 7, 9, 10, 12, 13, 31, 32])), (19, (148, [0, 5, 7, 9, 10, 12, 13, 31, 32, 80, 81])), (20, (148, [0, 5, 7, 9, 10, 12, 13, 31, 32, 80, 81])), (21, (148, [0, 5, 7, 9, 10, 12, 13, 14, 31, 32, 80, 81])), (22, (148, [0, 5, 7, 9, 10, 12, 13, 31, 32, 80, 81])), (23, (148, [0, 5, 7, 9, 10, 12, 31, 32])), (24, (148, [0, 5, 7, 9, 10, 12, 31, 32, 95, 96, 97])), (25, (148, [0, 5, 7, 9, 10, 12, 31, 32, 95, 96, 97])), (26, (148, [0, 5, 7, 9, 10, 12, 15, 16, 31, 32, 95, 96, 97])), (27, (148, [0, 5, 7, 9, 10, 12, 16, 31, 32, 95, 96, 97])), (28, (148, [0, 5, 7, 9, 10, 12, 16, 17, 31, 32, 95, 96, 97])), (29, (148, [0, 5, 7, 9, 10, 12, 16, 17, 31, 32, 95, 96, 97, 118, 119])), (30, (148, [0, 5, 7, 9, 10, 12, 16, 17, 31, 32, 95, 96, 97, 118, 119])), (31, (148, [0, 5, 7, 9, 10, 12, 16, 17, 18, 31, 32, 95, 96, 97, 118, 119])), (32, (148, [0, 5, 7, 9, 10, 12, 16, 17, 31, 32, 95, 96, 97, 118, 119])), (33, (148, [0, 5, 7, 9, 10, 12, 31, 32, 95, 96, 97])), (34, (148, [0, 5, 7, 9, 10, 31, 32])), (35, (148, [0, 5, 7, 9, 31, 32])), (36, (148, [0, 5, 7, 9, 31, 32])), (37, (148, [7]))]
def c66r0 : List Seg := [
 zo 6 (.mv (.c (.int .i64 0)))]
def c66k0 : ICode := .kill 22 [] (.ops c66r0)
def c66s1 : ICode := (.seq c66k0 .ret)
def c66r2 : List Seg := [
 zo 6 (.mv (.c (.int .i64 1)))]
def c66k2 : ICode := .kill 22 [] (.ops c66r2)
def c66s3 : ICode := (.cond (.t 21) (.seq c66k2 .ret) .skip)
def c66r4 : List Seg := [
 zm 13 1,
 zo 14 (.len 0 (.t 13)),
 zm 15 2,
 zo 16 (.call [] (.t 15) []),
 zo 17 (.bin .neq (.t 14) (.t 16)),
 zm 18 17,
 .one ⟨some 19, .mv (.t 1), some (18, false)⟩,
 .one ⟨some 20, .call [] (.c (.func 83 [])) [(.t 19), (.c (.func 94 []))], some (18, false)⟩,
 zo 21 (.pick (.t 18) (.c (.bool true)) (.t 20))]
def c66k4 : ICode := .kill 22 [1, 2] (.ops c66r4)
def c66s5 : ICode := (.seq (.seq c66k4 c66s3) c66s1)
def c66r6 : List Seg := [
 zm 12 7,
 zm 6 12]
def c66k6 : ICode := .kill 22 [7] (.ops c66r6)
def c66s7 : ICode := (.cond (.t 11) (.seq c66k6 .ret) .skip)
def c66r8 : List Seg := [
 zm 10 7,
 zo 11 (.bin .neq (.t 10) (.c (.int .i64 0)))]
def c66k8 : ICode := .kill 22 [1, 2, 7] (.ops c66r8)
def c66s9 : ICode := (.seq c66k8 c66s7)
def c66r10 : List Seg := [
 zo 8 (.loadN 3 (.t 3)),
 zo 9 (.call [] (.c (.func 59 [])) [(.t 8)]),
 zm 7 9]
def c66k10 : ICode := .kill 22 [1, 2, 3] (.ops c66r10)
def c66s11 : ICode := (.seq (.seq c66k10 c66s9) c66s5)
def c66r12 : List Seg := [
 zo 3 (.box (.t 0)),
 zo 6 (.mv (.c (.int .i64 0)))]
def c66k12 : ICode := .kill 22 [0, 1, 2] (.ops c66r12)
def c66b : ICode := (.seq c66k12 c66s11)
def c66 : IFn := ⟨22, [.t 6], c66b⟩
def h66 : List (Nat × Nat × List Nat) := [(0, (22, [0, 1, 2])), (1, (22, [1, 2, 3])), (2, (22, [1, 2, 7])), (3, (22, [7])), (4, (22, [1, 2])), (5, (22, [])), (6, (22, []))]
def c67r0 : List Seg := [
 zo 3 (.fieldA 1 (.t 1)),
 zo 4 (.load1 (.t 3)),
 zo 5 (.len 0 (.t 4)),
 zm 2 5]
def c67k0 : ICode := .kill 6 [1] (.ops c67r0)
def c67s1 : ICode := (.seq c67k0 .ret)
def c67r2 : List Seg := [
 zo 1 (.box (.t 0)),
 zo 2 (.mv (.c (.int .i64 0)))]
def c67k2 : ICode := .kill 6 [0] (.ops c67r2)
def c67b : ICode := (.seq c67k2 c67s1)
def c67 : IFn := ⟨6, [.t 2], c67b⟩
def h67 : List (Nat × Nat × List Nat) := [(0, (6, [0])), (1, (6, [1]))]
def c68r0 : List Seg := [
 zo 179 (.loadN 3 (.t 5)),
 .one ⟨none, .storeN 3 (.t 4) (.t 179), none⟩]
def c68k0 : ICode := .kill 180 [4, 5] (.ops c68r0)
def c68s1 : ICode := (.seq c68k0 .ret)
def c68r3 : List Seg := [
 zo 178 (.bin .add (.t 155) (.c (.int .i64 1))),
 zm 155 178]
def c68k3 : ICode := .kill 180 [4, 5, 19, 153, 154, 155] (.ops c68r3)
def c68r4 : List Seg := [
 .grp [(zp 160 (.idxA 3 1 (.t 5) (.c (.int .i64 2))), 0), (zp 161 (.load1 (.t 160)), 1), (zn 162 26, 0), (zp 163 (.call [] (.c (.func 63 [])) [(.t 162)]), 4), (zp 164 (.idxA 3 1 (.t 5) (.c (.int .i64 0))), 0), (zp 165 (.load1 (.t 164)), 16), (zn 166 25, 0), (zp 167 (.idxS 2 (.t 165) (.t 166)), 112), (zp 168 (.loadN 2 (.t 167)), 240), (zp 169 (.call [] (.c (.func 95 [])) [(.t 163), (.t 168)]), 508), (zp 170 (.load1 (.t 19)), 0), (zn 171 25, 0), (zp 172 (.idxS 2 (.t 170) (.t 171)), 3072), (zp 173 (.loadN 2 (.t 172)), 7168), (zp 174 (.call [] (.c (.func 95 [])) [(.t 169), (.t 173)]), 16380), (zp 175 (.mkslice 1 [.int .i64 0, .int .i64 0] [(0, 2, (.t 174))]), 32764)],
 zo 176 (.app 2 16 (.t 161) (.t 175)),
 zo 177 (.idxA 3 1 (.t 5) (.c (.int .i64 2))),
 .one ⟨none, .store1 (.t 177) (.t 176), none⟩]
def c68k4 : ICode := .kill 180 [4, 5, 19, 25, 26, 153, 154, 155] (.ops c68r4)
def c68r5 : List Seg := [
 zm 157 155,
 zo 158 (.idxS 1 (.t 153) (.t 155)),
 zo 159 (.load1 (.t 158)),
 zm 25 157,
 zm 26 159]
def c68k5 : ICode := .kill 180 [4, 5, 19, 153, 154, 155] (.ops c68r5)
def c68s6 : ICode := (.seq (.block 17 (.seq c68k5 c68k4)) c68k3)
def c68s7 : ICode := (.seq (.cond (.t 156) .skip (.exit 16)) c68s6)
def c68r8 : List Seg := [
 zo 156 (.bin .lss (.t 155) (.t 154))]
def c68k8 : ICode := .kill 180 [4, 5, 19, 153, 154, 155] (.ops c68r8)
def c68l2 : ICode := (.seq c68k8 c68s7)
def c68s9 : ICode := (.block 16 (.loop c68l2))
def c68r10 : List Seg := [
 zm 153 1,
 zo 154 (.len 0 (.t 153)),
 zo 155 (.mv (.c (.int .i64 0)))]
def c68k10 : ICode := .kill 180 [1, 4, 5, 19] (.ops c68r10)
def c68s11 : ICode := (.seq (.seq c68k10 c68s9) c68s1)
def c68r12 : List Seg := [
 zo 151 (.load1 (.t 19)),
 zo 152 (.idxA 3 1 (.t 5) (.c (.int .i64 1))),
 .one ⟨none, .store1 (.t 152) (.t 151), none⟩]
def c68k12 : ICode := .kill 180 [1, 4, 5, 19] (.ops c68r12)
def c68s13 : ICode := (.seq c68k12 c68s11)
def c68r15 : List Seg := [
 zo 150 (.bin .add (.t 128) (.c (.int .i64 1))),
 zm 128 150]
def c68k15 : ICode := .kill 180 [1, 2, 4, 5, 19, 126, 127, 128] (.ops c68r15)
def c68r17 : List Seg := [
 .grp [(zp 138 (.load1 (.t 19)), 0), (zn 139 23, 0), (zp 140 (.load1 (.t 19)), 0), (zn 141 23, 0), (zp 142 (.idxS 2 (.t 140) (.t 141)), 12), (zp 143 (.loadN 2 (.t 142)), 28), (zp 144 (.loadN 2 (.t 22)), 0), (zn 145 24, 0), (zp 146 (.call [] (.c (.func 63 [])) [(.t 145)]), 128), (zp 147 (.call [] (.c (.func 99 [])) [(.t 144), (.t 146)]), 448), (zp 148 (.call [] (.c (.func 97 [])) [(.t 143), (.t 147)]), 1020)],
 zo 149 (.idxS 2 (.t 138) (.t 139)),
 .one ⟨none, .storeN 2 (.t 149) (.t 148), none⟩]
def c68k17 : ICode := .kill 180 [19, 22, 23, 24] (.ops c68r17)
def c68r18 : List Seg := [
 zm 24 137]
def c68k18 : ICode := .kill 180 [19, 22, 23, 137] (.ops c68r18)
def c68r19 : List Seg := [
 zm 23 136]
def c68k19 : ICode := .kill 180 [19, 22, 136, 137] (.ops c68r19)
def c68f16a : ICode := (.seq c68k19 c68k18)
def c68f16b : ICode := (.block 15 c68k17)
def c68s20 : ICode := (.block 14 (.rf (.t 135) [136, 137] c68f16a c68f16b))
def c68r21 : List Seg := [
 zo 133 (.loadN 3 (.t 2)),
 zm 134 21,
 zo 135 (.call [] (.c (.func 62 [])) [(.t 133), (.t 134)])]
def c68k21 : ICode := .kill 180 [1, 2, 4, 5, 19, 21, 22, 126, 127, 128] (.ops c68r21)
def c68s22 : ICode := (.seq c68k21 c68s20)
def c68r23 : List Seg := [
 zm 130 128,
 zo 131 (.idxS 2 (.t 126) (.t 128)),
 zo 132 (.loadN 2 (.t 131)),
 zo 22 (.box (.c (.agg [.int .i64 0, .int .i64 0]))),
 zm 21 130,
 .one ⟨none, .storeN 2 (.t 22) (.t 132), none⟩]
def c68k23 : ICode := .kill 180 [1, 2, 4, 5, 19, 126, 127, 128] (.ops c68r23)
def c68s24 : ICode := (.seq (.block 13 (.seq c68k23 c68s22)) c68k15)
def c68s25 : ICode := (.seq (.cond (.t 129) .skip (.exit 12)) c68s24)
def c68r26 : List Seg := [
 zo 129 (.bin .lss (.t 128) (.t 127))]
def c68k26 : ICode := .kill 180 [1, 2, 4, 5, 19, 126, 127, 128] (.ops c68r26)
def c68l14 : ICode := (.seq c68k26 c68s25)
def c68s27 : ICode := (.block 12 (.loop c68l14))
def c68r28 : List Seg := [
 zm 122 11,
 zo 123 (.fieldA 2 (.t 2)),
 zo 124 (.load1 (.t 123)),
 zo 125 (.len 0 (.t 124)),
 zo 126 (.call [] (.c (.func 98 [])) [(.t 122), (.t 125)]),
 zo 127 (.len 0 (.t 126)),
 zo 128 (.mv (.c (.int .i64 0)))]
def c68k28 : ICode := .kill 180 [1, 2, 4, 5, 11, 19] (.ops c68r28)
def c68s29 : ICode := (.seq (.seq c68k28 c68s27) c68s13)
def c68r31 : List Seg := [
 zo 121 (.bin .add (.t 114) (.c (.int .i64 1))),
 zm 114 121]
def c68k31 : ICode := .kill 180 [1, 2, 4, 5, 11, 19, 113, 114] (.ops c68r31)
def c68r32 : List Seg := [
 zo 117 (.load1 (.t 19)),
 zm 118 20,
 zo 119 (.loadN 2 (.c (.ptr 0 0))),
 zo 120 (.idxS 2 (.t 117) (.t 118)),
 .one ⟨none, .storeN 2 (.t 120) (.t 119), none⟩]
def c68k32 : ICode := .kill 180 [1, 2, 4, 5, 11, 19, 20, 113, 114] (.ops c68r32)
def c68r33 : List Seg := [
 zm 116 114,
 zm 20 116]
def c68k33 : ICode := .kill 180 [1, 2, 4, 5, 11, 19, 113, 114] (.ops c68r33)
def c68s34 : ICode := (.seq (.block 11 (.seq c68k33 c68k32)) c68k31)
def c68s35 : ICode := (.seq (.cond (.t 115) .skip (.exit 10)) c68s34)
def c68r36 : List Seg := [
 zo 115 (.bin .lss (.t 114) (.t 113))]
def c68k36 : ICode := .kill 180 [1, 2, 4, 5, 11, 19, 113, 114] (.ops c68r36)
def c68l30 : ICode := (.seq c68k36 c68s35)
def c68s37 : ICode := (.block 10 (.loop c68l30))
def c68r38 : List Seg := [
 zo 112 (.load1 (.t 19)),
 zo 113 (.len 0 (.t 112)),
 zo 114 (.mv (.c (.int .i64 0)))]
def c68k38 : ICode := .kill 180 [1, 2, 4, 5, 11, 19] (.ops c68r38)
def c68s39 : ICode := (.seq (.seq c68k38 c68s37) c68s29)
def c68r40 : List Seg := [
 zo 108 (.fieldA 1 (.t 2)),
 zo 109 (.load1 (.t 108)),
 zo 110 (.len 0 (.t 109)),
 zo 111 (.make [.int .i64 0, .int .i64 0] 16 (.t 110) (.t 110)),
 zo 19 (.box (.c .nilslice)),
 .one ⟨none, .store1 (.t 19) (.t 111), none⟩]
def c68k40 : ICode := .kill 180 [1, 2, 4, 5, 11] (.ops c68r40)
def c68s41 : ICode := (.seq c68k40 c68s39)
def c68r43 : List Seg := [
 zo 107 (.bin .add (.t 63) (.c (.int .i64 1))),
 zm 63 107]
def c68k43 : ICode := .kill 180 [1, 2, 4, 5, 9, 11, 62, 63] (.ops c68r43)
def c68r44 : List Seg := [
 zm 103 11,
 zo 104 (.loadN 22 (.t 13)),
 zo 105 (.mkslice 1 (List.replicate 22 (.int .i64 0)) [(0, 22, (.t 104))]),
 zo 106 (.app 22 176 (.t 103) (.t 105)),
 zm 11 106]
def c68k44 : ICode := .kill 180 [1, 2, 4, 5, 9, 11, 13, 62, 63] (.ops c68r44)
def c68r45 : List Seg := [
 zm 97 9,
 zm 98 12,
 zo 99 (.idxS 1 (.t 97) (.t 98)),
 zo 100 (.load1 (.t 99)),
 zo 101 (.call [] (.c (.func 63 [])) [(.t 100)]),
 zo 102 (.idxA 11 2 (.t 13) (.c (.int .i64 10))),
 .one ⟨none, .storeN 2 (.t 102) (.t 101), none⟩]
def c68k45 : ICode := .kill 180 [1, 2, 4, 5, 9, 11, 12, 13, 62, 63] (.ops c68r45)
def c68s46 : ICode := (.seq c68k45 c68k44)
def c68r49 : List Seg := [
 zo 96 (.bin .add (.t 75) (.c (.int .i64 1))),
 zm 75 96]
def c68k49 : ICode := .kill 180 [2, 13, 14, 15, 74, 75] (.ops c68r49)
def c68r51 : List Seg := [
 .grp [(zp 86 (.load1 (.t 16)), 0), (zp 87 (.load1 (.t 16)), 0), (zp 88 (.idxA 11 2 (.t 13) (.t 87)), 2), (zp 89 (.loadN 2 (.t 88)), 6), (zp 90 (.load1 (.t 15)), 0), (zn 91 18, 0), (zp 92 (.bin .mul (.t 90) (.t 91)), 48), (zp 93 (.call [] (.c (.func 63 [])) [(.t 92)]), 112), (zp 94 (.call [] (.c (.func 97 [])) [(.t 89), (.t 93)]), 254)],
 zo 95 (.idxA 11 2 (.t 13) (.t 86)),
 .one ⟨none, .storeN 2 (.t 95) (.t 94), none⟩]
def c68k51 : ICode := .kill 180 [13, 15, 16, 18] (.ops c68r51)
def c68s52 : ICode := (.cond (.t 85) c68k51 .skip)
def c68r53 : List Seg := [
 zm 83 17,
 zo 84 (.load1 (.t 14)),
 zo 85 (.bin .eql (.t 83) (.t 84))]
def c68k53 : ICode := .kill 180 [13, 14, 15, 16, 17, 18] (.ops c68r53)
def c68r54 : List Seg := [
 zm 18 82]
def c68k54 : ICode := .kill 180 [13, 14, 15, 16, 17, 82] (.ops c68r54)
def c68r55 : List Seg := [
 zm 17 81]
def c68k55 : ICode := .kill 180 [13, 14, 15, 16, 81, 82] (.ops c68r55)
def c68f50a : ICode := (.seq c68k55 c68k54)
def c68f50b : ICode := (.block 9 (.seq c68k53 c68s52))
def c68s56 : ICode := (.block 8 (.rf (.t 80) [81, 82] c68f50a c68f50b))
def c68r57 : List Seg := [
 zo 78 (.loadN 3 (.t 2)),
 zo 79 (.load1 (.t 16)),
 zo 80 (.call [] (.c (.func 62 [])) [(.t 78), (.t 79)])]
def c68k57 : ICode := .kill 180 [2, 13, 14, 15, 16, 74, 75] (.ops c68r57)
def c68s58 : ICode := (.seq c68k57 c68s56)
def c68r59 : List Seg := [
 zm 77 75,
 zo 16 (.box (.c (.int .i64 0))),
 .one ⟨none, .store1 (.t 16) (.t 77), none⟩]
def c68k59 : ICode := .kill 180 [2, 13, 14, 15, 74, 75] (.ops c68r59)
def c68s60 : ICode := (.seq (.block 7 (.seq c68k59 c68s58)) c68k49)
def c68s61 : ICode := (.seq (.cond (.t 76) .skip (.exit 6)) c68s60)
def c68r62 : List Seg := [
 zo 76 (.bin .lss (.t 75) (.t 74))]
def c68k62 : ICode := .kill 180 [2, 13, 14, 15, 74, 75] (.ops c68r62)
def c68l48 : ICode := (.seq c68k62 c68s61)
def c68s63 : ICode := (.block 6 (.loop c68l48))
def c68r64 : List Seg := [
 zo 72 (.fieldA 2 (.t 2)),
 zo 73 (.load1 (.t 72)),
 zo 74 (.len 0 (.t 73)),
 zo 75 (.mv (.c (.int .i64 0)))]
def c68k64 : ICode := .kill 180 [2, 13, 14, 15] (.ops c68r64)
def c68r65 : List Seg := [
 zo 15 (.box (.c (.int .i64 0))),
 .one ⟨none, .store1 (.t 15) (.t 71), none⟩]
def c68k65 : ICode := .kill 180 [2, 13, 14, 71] (.ops c68r65)
def c68r66 : List Seg := [
 zo 14 (.box (.c (.int .i64 0))),
 .one ⟨none, .store1 (.t 14) (.t 70), none⟩]
def c68k66 : ICode := .kill 180 [2, 13, 70, 71] (.ops c68r66)
def c68f47a : ICode := (.seq c68k66 c68k65)
def c68f47b : ICode := (.block 5 (.seq c68k64 c68s63))
def c68s67 : ICode := (.block 4 (.rf (.t 69) [70, 71] c68f47a c68f47b))
def c68r68 : List Seg := [
 zo 67 (.loadN 3 (.t 2)),
 zm 68 12,
 zo 69 (.call [] (.c (.func 62 [])) [(.t 67), (.t 68)])]
def c68k68 : ICode := .kill 180 [1, 2, 4, 5, 9, 11, 12, 13, 62, 63] (.ops c68r68)
def c68s69 : ICode := (.seq (.seq c68k68 c68s67) c68s46)
def c68r70 : List Seg := [
 zo 66 (.call [] (.c (.func 96 [])) []),
 zo 13 (.box (.c (.agg (List.replicate 22 (.int .i64 0))))),
 .one ⟨none, .storeN 22 (.t 13) (.t 66), none⟩]
def c68k70 : ICode := .kill 180 [1, 2, 4, 5, 9, 11, 12, 62, 63] (.ops c68r70)
def c68s71 : ICode := (.seq c68k70 c68s69)
def c68r72 : List Seg := [
 zm 65 63,
 zm 12 65]
def c68k72 : ICode := .kill 180 [1, 2, 4, 5, 9, 11, 62, 63] (.ops c68r72)
def c68s73 : ICode := (.seq (.block 3 (.seq c68k72 c68s71)) c68k43)
def c68s74 : ICode := (.seq (.cond (.t 64) .skip (.exit 2)) c68s73)
def c68r75 : List Seg := [
 zo 64 (.bin .lss (.t 63) (.t 62))]
def c68k75 : ICode := .kill 180 [1, 2, 4, 5, 9, 11, 62, 63] (.ops c68r75)
def c68l42 : ICode := (.seq c68k75 c68s74)
def c68s76 : ICode := (.block 2 (.loop c68l42))
def c68r77 : List Seg := [
 zo 60 (.fieldA 2 (.t 2)),
 zo 61 (.load1 (.t 60)),
 zo 62 (.len 0 (.t 61)),
 zo 63 (.mv (.c (.int .i64 0)))]
def c68k77 : ICode := .kill 180 [1, 2, 4, 5, 9, 11] (.ops c68r77)
def c68s78 : ICode := (.seq (.seq c68k77 c68s76) c68s41)
def c68r79 : List Seg := [
 zo 11 (.mv (.c .nilslice))]
def c68k79 : ICode := .kill 180 [1, 2, 4, 5, 9] (.ops c68r79)
def c68s80 : ICode := (.seq c68k79 c68s78)
def c68r81 : List Seg := [
 zo 55 (.loadN 3 (.t 2)),
 zm 56 1,
 zo 57 (.call [] (.c (.func 40 [])) [(.t 55), (.t 56)]),
 zm 54 57,
 zo 58 (.ext (.t 54) 0),
 zo 59 (.ext (.t 54) 1),
 zm 9 58,
 zm 10 59]
def c68k81 : ICode := .kill 180 [1, 2, 4, 5] (.ops c68r81)
def c68s82 : ICode := (.seq c68k81 c68s80)
def c68r84 : List Seg := [
 zo 53 (.bin .add (.t 33) (.c (.int .i64 1))),
 zm 33 53]
def c68k84 : ICode := .kill 180 [1, 2, 4, 5, 6, 31, 32, 33] (.ops c68r84)
def c68r85 : List Seg := [
 .grp [(zp 37 (.idxA 3 1 (.t 5) (.c (.int .i64 0))), 0), (zp 38 (.load1 (.t 37)), 1), (zn 39 6, 0), (zp 40 (.idxA 2 1 (.t 8) (.c (.int .i64 1))), 0), (zp 41 (.load1 (.t 40)), 8), (zp 42 (.idxS 2 (.t 39) (.t 41)), 28), (zp 43 (.loadN 2 (.t 42)), 60), (zn 44 6, 0), (zp 45 (.idxA 2 1 (.t 8) (.c (.int .i64 0))), 0), (zp 46 (.load1 (.t 45)), 256), (zp 47 (.idxS 2 (.t 44) (.t 46)), 896), (zp 48 (.loadN 2 (.t 47)), 1920), (zp 49 (.call [] (.c (.func 95 [])) [(.t 43), (.t 48)]), 4092), (zp 50 (.mkslice 1 [.int .i64 0, .int .i64 0] [(0, 2, (.t 49))]), 8188)],
 zo 51 (.app 2 16 (.t 38) (.t 50)),
 zo 52 (.idxA 3 1 (.t 5) (.c (.int .i64 0))),
 .one ⟨none, .store1 (.t 52) (.t 51), none⟩]
def c68k85 : ICode := .kill 180 [1, 2, 4, 5, 6, 8, 31, 32, 33] (.ops c68r85)
def c68r86 : List Seg := [
 zo 35 (.idxS 2 (.t 31) (.t 33)),
 zo 36 (.loadN 2 (.t 35)),
 zo 8 (.box (.c (.agg [.int .i64 0, .int .i64 0]))),
 .one ⟨none, .storeN 2 (.t 8) (.t 36), none⟩]
def c68k86 : ICode := .kill 180 [1, 2, 4, 5, 6, 31, 32, 33] (.ops c68r86)
def c68s87 : ICode := (.seq (.block 1 (.seq c68k86 c68k85)) c68k84)
def c68s88 : ICode := (.seq (.cond (.t 34) .skip (.exit 0)) c68s87)
def c68r89 : List Seg := [
 zo 34 (.bin .lss (.t 33) (.t 32))]
def c68k89 : ICode := .kill 180 [1, 2, 4, 5, 6, 31, 32, 33] (.ops c68r89)
def c68l83 : ICode := (.seq c68k89 c68s88)
def c68s90 : ICode := (.block 0 (.loop c68l83))
def c68r91 : List Seg := [
 zo 30 (.fieldA 1 (.t 2)),
 zo 31 (.load1 (.t 30)),
 zo 32 (.len 0 (.t 31)),
 zo 33 (.mv (.c (.int .i64 0)))]
def c68k91 : ICode := .kill 180 [1, 2, 4, 5, 6] (.ops c68r91)
def c68s92 : ICode := (.seq (.seq c68k91 c68s90) c68s82)
def c68r93 : List Seg := [
 zo 27 (.loadN 3 (.t 2)),
 zm 28 1,
 zo 29 (.call [] (.c (.func 70 [])) [(.t 27), (.t 28)]),
 zm 6 29]
def c68k93 : ICode := .kill 180 [1, 2, 4, 5] (.ops c68r93)
def c68s94 : ICode := (.seq c68k93 c68s92)
def c68r95 : List Seg := [
 zo 5 (.box (.c (.agg [.nilslice, .nilslice, .nilslice])))]
def c68k95 : ICode := .kill 180 [1, 2, 4] (.ops c68r95)
def c68s96 : ICode := (.seq c68k95 c68s94)
def c68r97 : List Seg := [
 zo 2 (.box (.t 0)),
 zo 4 (.box (.c (.agg [.nilslice, .nilslice, .nilslice])))]
def c68k97 : ICode := .kill 180 [0, 1] (.ops c68r97)
def c68b : ICode := (.seq c68k97 c68s96)
def c68 : IFn := ⟨180, [.cellN 4 3], c68b⟩
def h68 : List (Nat × Nat × List Nat) := [(0, (180, [0, 1])), (1, (180, [1, 2, 4])), (2, (180, [1, 2, 4, 5])), (3, (180, [1, 2, 4, 5, 6])), (4, (180, [1, 2, 4, 5, 6, 31, 32, 33])), (5, (180, [1, 2, 4, 5, 6, 31, 32, 33])), (6, (180, [1, 2, 4, 5, 6, 8, 31, 32, 33])), (7, (180, [1, 2, 4, 5, 6, 31, 32, 33])), (8, (180, [1, 2, 4, 5])), (9, (180, [1, 2, 4, 5, 9])), (10, (180, [1, 2, 4, 5, 9, 11])), (11, (180, [1, 2, 4, 5, 9, 11, 62, 63])), (12, (180, [1, 2, 4, 5, 9, 11, 62, 63])), (13, (180, [1, 2, 4, 5, 9, 11, 12, 62, 63])), (14, (180, [1, 2, 4, 5, 9, 11, 12, 13, 62, 63])), (15, (180, [2, 13, 70, 71])), (16, (180, [2, 13, 14, 71])), (17, (180, [2, 13, 14, 15])), (18, (180, [2, 13, 14, 15, 74, 75])), (19, (180, [2, 13, 14, 15, 74, 75])), (20, (180, [2, 13, 14, 15, 16, 74, 75])), (21, (180, [13, 14, 15, 16, 81, 82])), (22, (180, [13, 14, 15, 16, 17, 82])), (23, (180, [13, 14, 15, 16, 17, 18])), (24, (180, [13, 15, 16, 18])), (25, (180, [2, 13, 14, 15, 74, 75])), (26, (180, [1, 2, 4, 5, 9, 11, 12, 13, 62, 63])), (27, (180, [1, 2, 4, 5, 9, 11, 13, 62, 63])), (28, (180, [1, 2, 4, 5, 9, 11, 62, 63])), (29, (180, [1, 2, 4, 5, 11])), (30, (180, [1, 2, 4, 5, 11, 19])), (31, (180, [1, 2, 4, 5, 11, 19, 113, 114])), (32, (180, [1, 2, 4, 5, 11, 19, 113, 114])), (33, (180, [1, 2, 4, 5, 11, 19, 20, 113, 114])), (34, (180, [1, 2, 4, 5, 11, 19, 113, 114])), (35, (180, [1, 2, 4, 5, 11, 19])), (36, (180, [1, 2, 4, 5, 19, 126, 127, 128])), (37, (180, [1, 2, 4, 5, 19, 126, 127, 128])), (38, (180, [1, 2, 4, 5, 19, 21, 22, 126, 127, 128])), (39, (180, [19, 22, 136, 137])), (40, (180, [19, 22, 23, 137])), (41, (180, [19, 22, 23, 24])), (42, (180, [1, 2, 4, 5, 19, 126, 127, 128])), (43, (180, [1, 4, 5, 19])), (44, (180, [1, 4, 5, 19])), (45, (180, [4, 5, 19, 153, 154, 155])), (46, (180, [4, 5, 19, 153, 154, 155])), (47, (180, [4, 5, 19, 25, 26, 153, 154, 155])), (48, (180, [4, 5, 19, 153, 154, 155])), (49, (180, [4, 5]))]
def c69r0 : List Seg := [
 zm 21 3,
 zm 2 21]
def c69k0 : ICode := .kill 22 [3] (.ops c69r0)
def c69s1 : ICode := (.seq c69k0 .ret)
def c69r3 : List Seg := [
 zo 20 (.bin .add (.t 8) (.c (.int .i64 1))),
 zm 8 20]
def c69k3 : ICode := .kill 22 [3, 6, 7, 8] (.ops c69r3)
def c69r4 : List Seg := [
 zm 12 3,
 zo 13 (.fieldA 0 (.t 5)),
 zo 14 (.load1 (.t 13)),
 zo 15 (.fieldA 1 (.t 5)),
 zo 16 (.load1 (.t 15)),
 zo 17 (.mkagg [.int .i64 0, .int .i64 0] [(0, 1, (.t 14)), (1, 1, (.t 16))]),
 zo 18 (.mkslice 1 [.int .i64 0, .int .i64 0] [(0, 2, (.t 17))]),
 zo 19 (.app 2 16 (.t 12) (.t 18)),
 zm 3 19]
def c69k4 : ICode := .kill 22 [3, 5, 6, 7, 8] (.ops c69r4)
def c69r5 : List Seg := [
 zo 10 (.idxS 2 (.t 6) (.t 8)),
 zo 11 (.loadN 2 (.t 10)),
 zo 5 (.box (.c (.agg [.int .i64 0, .int .i64 0]))),
 .one ⟨none, .storeN 2 (.t 5) (.t 11), none⟩]
def c69k5 : ICode := .kill 22 [3, 6, 7, 8] (.ops c69r5)
def c69s6 : ICode := (.seq (.block 1 (.seq c69k5 c69k4)) c69k3)
def c69s7 : ICode := (.seq (.cond (.t 9) .skip (.exit 0)) c69s6)
def c69r8 : List Seg := [
 zo 9 (.bin .lss (.t 8) (.t 7))]
def c69k8 : ICode := .kill 22 [3, 6, 7, 8] (.ops c69r8)
def c69l2 : ICode := (.seq c69k8 c69s7)
def c69s9 : ICode := (.block 0 (.loop c69l2))
def c69r10 : List Seg := [
 zm 6 0,
 zo 7 (.len 0 (.t 6)),
 zo 8 (.mv (.c (.int .i64 0)))]
def c69k10 : ICode := .kill 22 [0, 3] (.ops c69r10)
def c69s11 : ICode := (.seq (.seq c69k10 c69s9) c69s1)
def c69r12 : List Seg := [
 zo 3 (.mv (.c .nilslice))]
def c69k12 : ICode := .kill 22 [0] (.ops c69r12)
def c69s13 : ICode := (.seq c69k12 c69s11)
def c69r14 : List Seg := [
 zo 2 (.mv (.c .nilslice))]
def c69k14 : ICode := .kill 22 [0] (.ops c69r14)
def c69b : ICode := (.seq c69k14 c69s13)
def c69 : IFn := ⟨22, [.t 2], c69b⟩
def h69 : List (Nat × Nat × List Nat) := [(0, (22, [0])), (1, (22, [0])), (2, (22, [0, 3])), (3, (22, [3, 6, 7, 8])), (4, (22, [3, 6, 7, 8])), (5, (22, [3, 5, 6, 7, 8])), (6, (22, [3, 6, 7, 8])), (7, (22, [3]))]
def c70r0 : List Seg := [
 zm 115 5,
 zo 116 (.fieldA 0 (.t 2)),
 zo 117 (.load1 (.t 116)),
 zo 118 (.call [] (.c (.func 98 [])) [(.t 115), (.t 117)]),
 zm 4 118]
def c70k0 : ICode := .kill 119 [2, 5] (.ops c70r0)
def c70s1 : ICode := (.seq c70k0 .ret)
def c70r3 : List Seg := [
 zo 114 (.bin .add (.t 87) (.c (.int .i64 1))),
 zm 87 114]
def c70k3 : ICode := .kill 119 [2, 5, 14, 86, 87] (.ops c70r3)
def c70r4 : List Seg := [
 zm 110 5,
 zo 111 (.loadN 22 (.t 16)),
 zo 112 (.mkslice 1 (List.replicate 22 (.int .i64 0)) [(0, 22, (.t 111))]),
 zo 113 (.app 22 176 (.t 110) (.t 112)),
 zm 5 113]
def c70k4 : ICode := .kill 119 [2, 5, 14, 16, 86, 87] (.ops c70r4)
def c70r6 : List Seg := [
 zo 109 (.bin .add (.t 98) (.c (.int .i64 1))),
 zm 98 109]
def c70k6 : ICode := .kill 119 [2, 5, 14, 15, 16, 86, 87, 97, 98] (.ops c70r6)
def c70r7 : List Seg := [
 zm 106 17,
 zo 107 (.call [] (.c (.func 63 [])) [(.c (.int .i64 1))]),
 zo 108 (.idxA 11 2 (.t 16) (.t 106)),
 .one ⟨none, .storeN 2 (.t 108) (.t 107), none⟩]
def c70k7 : ICode := .kill 119 [2, 5, 14, 15, 16, 17, 86, 87, 97, 98] (.ops c70r7)
def c70s8 : ICode := (.cond (.t 105) c70k7 .skip)
def c70r9 : List Seg := [
 zm 101 14,
 zm 102 17,
 zo 103 (.call [] (.t 101) [(.t 102)]),
 zm 104 15,
 zo 105 (.bin .eql (.t 103) (.t 104))]
def c70k9 : ICode := .kill 119 [2, 5, 14, 15, 16, 17, 86, 87, 97, 98] (.ops c70r9)
def c70s10 : ICode := (.seq c70k9 c70s8)
def c70r11 : List Seg := [
 zm 100 98,
 zm 17 100]
def c70k11 : ICode := .kill 119 [2, 5, 14, 15, 16, 86, 87, 97, 98] (.ops c70r11)
def c70s12 : ICode := (.seq (.block 9 (.seq c70k11 c70s10)) c70k6)
def c70s13 : ICode := (.seq (.cond (.t 99) .skip (.exit 8)) c70s12)
def c70r14 : List Seg := [
 zo 99 (.bin .lss (.t 98) (.t 97))]
def c70k14 : ICode := .kill 119 [2, 5, 14, 15, 16, 86, 87, 97, 98] (.ops c70r14)
def c70l5 : ICode := (.seq c70k14 c70s13)
def c70s15 : ICode := (.block 8 (.loop c70l5))
def c70r16 : List Seg := [
 zo 96 (.fieldA 0 (.t 2)),
 zo 97 (.load1 (.t 96)),
 zo 98 (.mv (.c (.int .i64 0)))]
def c70k16 : ICode := .kill 119 [2, 5, 14, 15, 16, 86, 87] (.ops c70r16)
def c70s17 : ICode := (.seq (.seq c70k16 c70s15) c70k4)
def c70r18 : List Seg := [
 zo 95 (.call [] (.c (.func 96 [])) []),
 zo 16 (.box (.c (.agg (List.replicate 22 (.int .i64 0))))),
 .one ⟨none, .storeN 22 (.t 16) (.t 95), none⟩]
def c70k18 : ICode := .kill 119 [2, 5, 14, 15, 86, 87] (.ops c70r18)
def c70s19 : ICode := (.seq c70k18 c70s17)
def c70s20 : ICode := (.cond (.t 94) (.exit 7) .skip)
def c70r21 : List Seg := [
 zm 90 14,
 zm 91 15,
 zo 92 (.call [] (.t 90) [(.t 91)]),
 zm 93 15,
 zo 94 (.bin .neq (.t 92) (.t 93))]
def c70k21 : ICode := .kill 119 [2, 5, 14, 15, 86, 87] (.ops c70r21)
def c70s22 : ICode := (.seq (.seq c70k21 c70s20) c70s19)
def c70r23 : List Seg := [
 zm 89 87,
 zm 15 89]
def c70k23 : ICode := .kill 119 [2, 5, 14, 86, 87] (.ops c70r23)
def c70s24 : ICode := (.seq (.block 7 (.seq c70k23 c70s22)) c70k3)
def c70s25 : ICode := (.seq (.cond (.t 88) .skip (.exit 6)) c70s24)
def c70r26 : List Seg := [
 zo 88 (.bin .lss (.t 87) (.t 86))]
def c70k26 : ICode := .kill 119 [2, 5, 14, 86, 87] (.ops c70r26)
def c70l2 : ICode := (.seq c70k26 c70s25)
def c70s27 : ICode := (.block 6 (.loop c70l2))
def c70r28 : List Seg := [
 zo 85 (.fieldA 0 (.t 2)),
 zo 86 (.load1 (.t 85)),
 zo 87 (.mv (.c (.int .i64 0)))]
def c70k28 : ICode := .kill 119 [2, 5, 14] (.ops c70r28)
def c70s29 : ICode := (.seq (.seq c70k28 c70s27) c70s1)
def c70r30 : List Seg := [
 zo 84 (.mkfn 100 [(.t 13)]),
 zm 14 84]
def c70k30 : ICode := .kill 119 [2, 5, 13] (.ops c70r30)
def c70s31 : ICode := (.seq c70k30 c70s29)
def c70r32 : List Seg := [
 .grp [(zp 78 (.loadN 3 (.t 2)), 0), (zp 79 (.fieldA 1 (.t 2)), 0), (zp 80 (.load1 (.t 79)), 2), (zp 81 (.len 0 (.t 80)), 6), (zp 82 (.make [.int .i64 0] 8 (.t 81) (.t 81)), 14), (zp 83 (.call [] (.c (.func 78 [])) [(.t 78), (.t 82)]), 31), (zp 13 (.box (.c .nilptr)), 0)],
 .one ⟨none, .store1 (.t 13) (.t 83), none⟩]
def c70k32 : ICode := .kill 119 [2, 5] (.ops c70r32)
def c70s33 : ICode := (.seq c70k32 c70s31)
def c70r35 : List Seg := [
 zo 77 (.bin .add (.t 26) (.c (.int .i64 1))),
 zm 26 77]
def c70k35 : ICode := .kill 119 [2, 5, 6, 25, 26] (.ops c70r35)
def c70r36 : List Seg := [
 zm 73 5,
 zo 74 (.loadN 22 (.t 9)),
 zo 75 (.mkslice 1 (List.replicate 22 (.int .i64 0)) [(0, 22, (.t 74))]),
 zo 76 (.app 22 176 (.t 73) (.t 75)),
 zm 5 76]
def c70k36 : ICode := .kill 119 [2, 5, 6, 9, 25, 26] (.ops c70r36)
def c70r37 : List Seg := [
 zm 67 6,
 zm 68 8,
 zo 69 (.idxS 1 (.t 67) (.t 68)),
 zo 70 (.load1 (.t 69)),
 zo 71 (.call [] (.c (.func 63 [])) [(.t 70)]),
 zo 72 (.idxA 11 2 (.t 9) (.c (.int .i64 10))),
 .one ⟨none, .storeN 2 (.t 72) (.t 71), none⟩]
def c70k37 : ICode := .kill 119 [2, 5, 6, 8, 9, 25, 26] (.ops c70r37)
def c70s38 : ICode := (.seq c70k37 c70k36)
def c70r40 : List Seg := [
 zo 66 (.bin .add (.t 33) (.c (.int .i64 1))),
 zm 33 66]
def c70k40 : ICode := .kill 119 [2, 5, 6, 8, 9, 25, 26, 31, 32, 33] (.ops c70r40)
def c70r42 : List Seg := [
 zo 65 (.bin .add (.t 37) (.c (.int .i64 1))),
 zm 37 65]
def c70k42 : ICode := .kill 119 [2, 5, 6, 8, 9, 11, 25, 26, 31, 32, 33, 37] (.ops c70r42)
def c70r43 : List Seg := [
 .grp [(zn 52 12, 0), (zp 53 (.bin .sub (.c (.int .i64 1)) (.t 52)), 1), (zp 54 (.idxA 2 1 (.t 11) (.t 53)), 3), (zp 55 (.load1 (.t 54)), 7), (zn 56 12, 0), (zp 57 (.bin .sub (.c (.int .i64 1)) (.t 56)), 16), (zp 58 (.idxA 2 1 (.t 11) (.t 57)), 48), (zp 59 (.load1 (.t 58)), 112), (zp 60 (.idxA 11 2 (.t 9) (.t 59)), 240), (zp 61 (.loadN 2 (.t 60)), 496), (zp 62 (.call [] (.c (.func 63 [])) [(.c (.int .i64 1))]), 0), (zp 63 (.call [] (.c (.func 95 [])) [(.t 61), (.t 62)]), 2032)],
 zo 64 (.idxA 11 2 (.t 9) (.t 55)),
 .one ⟨none, .storeN 2 (.t 64) (.t 63), none⟩]
def c70k43 : ICode := .kill 119 [2, 5, 6, 8, 9, 11, 12, 25, 26, 31, 32, 33, 37] (.ops c70r43)
def c70r44 : List Seg := [
 .grp [(zn 45 8, 0), (zn 46 8, 0), (zp 47 (.idxA 11 2 (.t 9) (.t 46)), 2), (zp 48 (.loadN 2 (.t 47)), 6), (zp 49 (.call [] (.c (.func 63 [])) [(.c (.int .i64 1))]), 0), (zp 50 (.call [] (.c (.func 97 [])) [(.t 48), (.t 49)]), 30)],
 zo 51 (.idxA 11 2 (.t 9) (.t 45)),
 .one ⟨none, .storeN 2 (.t 51) (.t 50), none⟩]
def c70k44 : ICode := .kill 119 [2, 5, 6, 8, 9, 11, 12, 25, 26, 31, 32, 33, 37] (.ops c70r44)
def c70s45 : ICode := (.cond (.t 44) (.seq c70k44 c70k43) .skip)
def c70r46 : List Seg := [
 zm 40 12,
 zo 41 (.idxA 2 1 (.t 11) (.t 40)),
 zo 42 (.load1 (.t 41)),
 zm 43 8,
 zo 44 (.bin .eql (.t 42) (.t 43))]
def c70k46 : ICode := .kill 119 [2, 5, 6, 8, 9, 11, 12, 25, 26, 31, 32, 33, 37] (.ops c70r46)
def c70s47 : ICode := (.seq c70k46 c70s45)
def c70r48 : List Seg := [
 zm 39 37,
 zm 12 39]
def c70k48 : ICode := .kill 119 [2, 5, 6, 8, 9, 11, 25, 26, 31, 32, 33, 37] (.ops c70r48)
def c70s49 : ICode := (.seq (.block 5 (.seq c70k48 c70s47)) c70k42)
def c70s50 : ICode := (.seq (.cond (.t 38) .skip (.exit 4)) c70s49)
def c70r51 : List Seg := [
 zo 38 (.bin .lss (.t 37) (.c (.int .i64 2)))]
def c70k51 : ICode := .kill 119 [2, 5, 6, 8, 9, 11, 25, 26, 31, 32, 33, 37] (.ops c70r51)
def c70l41 : ICode := (.seq c70k51 c70s50)
def c70s52 : ICode := (.block 4 (.loop c70l41))
def c70r53 : List Seg := [
 zo 37 (.mv (.c (.int .i64 0)))]
def c70k53 : ICode := .kill 119 [2, 5, 6, 8, 9, 11, 25, 26, 31, 32, 33] (.ops c70r53)
def c70s54 : ICode := (.seq c70k53 c70s52)
def c70r55 : List Seg := [
 zo 35 (.idxS 2 (.t 31) (.t 33)),
 zo 36 (.loadN 2 (.t 35)),
 zo 11 (.box (.c (.agg [.int .i64 0, .int .i64 0]))),
 .one ⟨none, .storeN 2 (.t 11) (.t 36), none⟩]
def c70k55 : ICode := .kill 119 [2, 5, 6, 8, 9, 25, 26, 31, 32, 33] (.ops c70r55)
def c70s56 : ICode := (.seq (.block 3 (.seq c70k55 c70s54)) c70k40)
def c70s57 : ICode := (.seq (.cond (.t 34) .skip (.exit 2)) c70s56)
def c70r58 : List Seg := [
 zo 34 (.bin .lss (.t 33) (.t 32))]
def c70k58 : ICode := .kill 119 [2, 5, 6, 8, 9, 25, 26, 31, 32, 33] (.ops c70r58)
def c70l39 : ICode := (.seq c70k58 c70s57)
def c70s59 : ICode := (.block 2 (.loop c70l39))
def c70r60 : List Seg := [
 zo 30 (.fieldA 1 (.t 2)),
 zo 31 (.load1 (.t 30)),
 zo 32 (.len 0 (.t 31)),
 zo 33 (.mv (.c (.int .i64 0)))]
def c70k60 : ICode := .kill 119 [2, 5, 6, 8, 9, 25, 26] (.ops c70r60)
def c70s61 : ICode := (.seq (.seq c70k60 c70s59) c70s38)
def c70r62 : List Seg := [
 zo 29 (.call [] (.c (.func 96 [])) []),
 zo 9 (.box (.c (.agg (List.replicate 22 (.int .i64 0))))),
 .one ⟨none, .storeN 22 (.t 9) (.t 29), none⟩]
def c70k62 : ICode := .kill 119 [2, 5, 6, 8, 25, 26] (.ops c70r62)
def c70s63 : ICode := (.seq c70k62 c70s61)
def c70r64 : List Seg := [
 zm 28 26,
 zm 8 28]
def c70k64 : ICode := .kill 119 [2, 5, 6, 25, 26] (.ops c70r64)
def c70s65 : ICode := (.seq (.block 1 (.seq c70k64 c70s63)) c70k35)
def c70s66 : ICode := (.seq (.cond (.t 27) .skip (.exit 0)) c70s65)
def c70r67 : List Seg := [
 zo 27 (.bin .lss (.t 26) (.t 25))]
def c70k67 : ICode := .kill 119 [2, 5, 6, 25, 26] (.ops c70r67)
def c70l34 : ICode := (.seq c70k67 c70s66)
def c70s68 : ICode := (.block 0 (.loop c70l34))
def c70r69 : List Seg := [
 zo 24 (.fieldA 0 (.t 2)),
 zo 25 (.load1 (.t 24)),
 zo 26 (.mv (.c (.int .i64 0)))]
def c70k69 : ICode := .kill 119 [2, 5, 6] (.ops c70r69)
def c70s70 : ICode := (.seq (.seq c70k69 c70s68) c70s33)
def c70r71 : List Seg := [
 zo 19 (.loadN 3 (.t 2)),
 zm 20 1,
 zo 21 (.call [] (.c (.func 22 [])) [(.t 19), (.t 20)]),
 zm 18 21,
 zo 22 (.ext (.t 18) 0),
 zo 23 (.ext (.t 18) 1),
 zm 6 22,
 zm 7 23]
def c70k71 : ICode := .kill 119 [1, 2, 5] (.ops c70r71)
def c70s72 : ICode := (.seq c70k71 c70s70)
def c70r73 : List Seg := [
 zo 5 (.mv (.c .nilslice))]
def c70k73 : ICode := .kill 119 [1, 2] (.ops c70r73)
def c70s74 : ICode := (.seq c70k73 c70s72)
def c70r75 : List Seg := [
 zo 2 (.box (.t 0)),
 zo 4 (.mv (.c .nilslice))]
def c70k75 : ICode := .kill 119 [0, 1] (.ops c70r75)
def c70b : ICode := (.seq c70k75 c70s74)
def c70 : IFn := ⟨119, [.t 4], c70b⟩
def h70 : List (Nat × Nat × List Nat) := [(0, (119, [0, 1])), (1, (119, [1, 2])), (2, (119, [1, 2, 5])), (3, (119, [2, 5, 6])), (4, (119, [2, 5, 6, 25, 26])), (5, (119, [2, 5, 6, 25, 26])), (6, (119, [2, 5, 6, 8, 25, 26])), (7, (119, [2, 5, 6, 8, 9, 25, 26])), (8, (119, [2, 5, 6, 8, 9, 25, 26, 31, 32, 33])), (9, (119, [2, 5, 6, 8, 9, 25, 26, 31, 32, 33])), (10, (119, [2, 5, 6, 8, 9, 11, 25, 26, 31, 32, 33])), (11, (119, [2, 5, 6, 8, 9, 11, 25, 26, 31, 32, 33, 37])), (12, (119, [2, 5, 6, 8, 9, 11, 25, 26, 31, 32, 33, 37])), (13, (119, [2, 5, 6, 8, 9, 11, 12, 25, 26, 31, 32, 33, 37])), (14, (119, [2, 5, 6, 8, 9, 11, 12, 25, 26, 31, 32, 33, 37])), (15, (119, [2, 5, 6, 8, 9, 11, 12, 25, 26, 31, 32, 33, 37])), (16, (119, [2, 5, 6, 8, 9, 11, 25, 26, 31, 32, 33, 37])), (17, (119, [2, 5, 6, 8, 9, 25, 26, 31, 32, 33])), (18, (119, [2, 5, 6, 8, 9, 25, 26])), (19, (119, [2, 5, 6, 9, 25, 26])), (20, (119, [2, 5, 6, 25, 26])), (21, (119, [2, 5])), (22, (119, [2, 5, 13])), (23, (119, [2, 5, 14])), (24, (119, [2, 5, 14, 86, 87])), (25, (119, [2, 5, 14, 86, 87])), (26, (119, [2, 5, 14, 15, 86, 87])), (27, (119, [2, 5, 14, 15, 86, 87])), (28, (119, [2, 5, 14, 15, 16, 86, 87])), (29, (119, [2, 5, 14, 15, 16, 86, 87, 97, 98])), (30, (119, [2, 5, 14, 15, 16, 86, 87, 97, 98])), (31, (119, [2, 5, 14, 15, 16, 17, 86, 87, 97, 98])), (32, (119, [2, 5, 14, 15, 16, 17, 86, 87, 97, 98])), (33, (119, [2, 5, 14, 15, 16, 86, 87, 97, 98])), (34, (119, [2, 5, 14, 16, 86, 87])), (35, (119, [2, 5, 14, 86, 87])), (36, (119, [2, 5]))]
def c75r0 : List Seg := [
 zo 4 (.mv (.c (.int .i64 (-1))))]
def c75k0 : ICode := .kill 19 [] (.ops c75r0)
def c75s1 : ICode := (.seq c75k0 .ret)
def c75r3 : List Seg := [
 zo 18 (.bin .add (.t 8) (.c (.int .i64 1))),
 zm 8 18]
def c75k3 : ICode := .kill 19 [0, 3, 7, 8] (.ops c75r3)
def c75r4 : List Seg := [
 zm 17 5,
 zm 4 17]
def c75k4 : ICode := .kill 19 [5] (.ops c75r4)
def c75s5 : ICode := (.cond (.t 16) (.seq c75k4 .ret) .skip)
def c75r6 : List Seg := [
 .grp [(zp 11 (.loadN 2 (.t 3)), 0), (zn 12 0, 0), (zn 13 5, 0), (zp 14 (.idxS 2 (.t 12) (.t 13)), 6), (zp 15 (.loadN 2 (.t 14)), 14)],
 zo 16 (.eqv false (.ints 2) (.t 11) (.t 15))]
def c75k6 : ICode := .kill 19 [0, 3, 5, 7, 8] (.ops c75r6)
def c75s7 : ICode := (.seq c75k6 c75s5)
def c75r8 : List Seg := [
 zm 10 8,
 zm 5 10]
def c75k8 : ICode := .kill 19 [0, 3, 7, 8] (.ops c75r8)
def c75s9 : ICode := (.seq (.block 1 (.seq c75k8 c75s7)) c75k3)
def c75s10 : ICode := (.seq (.cond (.t 9) .skip (.exit 0)) c75s9)
def c75r11 : List Seg := [
 zo 9 (.bin .lss (.t 8) (.t 7))]
def c75k11 : ICode := .kill 19 [0, 3, 7, 8] (.ops c75r11)
def c75l2 : ICode := (.seq c75k11 c75s10)
def c75s12 : ICode := (.block 0 (.loop c75l2))
def c75r13 : List Seg := [
 zm 6 0,
 zo 7 (.len 0 (.t 6)),
 zo 8 (.mv (.c (.int .i64 0)))]
def c75k13 : ICode := .kill 19 [0, 3] (.ops c75r13)
def c75s14 : ICode := (.seq (.seq c75k13 c75s12) c75s1)
def c75r15 : List Seg := [
 zo 3 (.box (.t 1)),
 zo 4 (.mv (.c (.int .i64 0)))]
def c75k15 : ICode := .kill 19 [0, 1] (.ops c75r15)
def c75b : ICode := (.seq c75k15 c75s14)
def c75 : IFn := ⟨19, [.t 4], c75b⟩
def h75 : List (Nat × Nat × List Nat) := [(0, (19, [0, 1])), (1, (19, [0, 3])), (2, (19, [0, 3, 7, 8])), (3, (19, [0, 3, 7, 8])), (4, (19, [0, 3, 5, 7, 8])), (5, (19, [5])), (6, (19, [0, 3, 7, 8])), (7, (19, []))]
def c78r0 : List Seg := [
 zm 115 5,
 zm 4 115]
def c78k0 : ICode := .kill 116 [5] (.ops c78r0)
def c78s1 : ICode := (.seq c78k0 .ret)
def c78r3 : List Seg := [
 zo 114 (.bin .add (.t 21) (.c (.int .i64 1))),
 zm 21 114]
def c78k3 : ICode := .kill 116 [1, 2, 5, 6, 20, 21] (.ops c78r3)
def c78r6 : List Seg := [
 zo 113 (.bin .add (.t 55) (.c (.int .i64 1))),
 zm 55 113]
def c78k6 : ICode := .kill 116 [1, 2, 5, 6, 8, 9, 20, 21, 53, 54, 55] (.ops c78r6)
def c78r8 : List Seg := [
 zo 112 (.bin .add (.t 60) (.c (.int .i64 1))),
 zm 60 112]
def c78k8 : ICode := .kill 116 [1, 2, 5, 6, 8, 9, 10, 11, 20, 21, 53, 54, 55, 60] (.ops c78r8)
def c78r9 : List Seg := [
 zm 108 8,
 zm 109 14,
 zo 110 (.mkslice 1 [.int .i64 0] [(0, 1, (.t 109))]),
 zo 111 (.app 1 8 (.t 108) (.t 110)),
 zm 8 111]
def c78k9 : ICode := .kill 116 [1, 2, 5, 6, 8, 9, 10, 11, 14, 20, 21, 53, 54, 55, 60] (.ops c78r9)
def c78r10 : List Seg := [
 .grpw (.t 104) (.t 93) none 59379 [(zn 89 5, 0), (zn 90 14, 0), (zn 91 5, 0), (zn 92 14, 0), (zn 93 9, 0), (zn 94 5, 0), (zn 95 9, 0), (zp 96 (.nilck (.t 94)), 32), (zp 97 (.fieldA 6 (.t 96)), 160), (zp 98 (.idxA 6 1 (.t 97) (.t 95)), 480), (zp 99 (.load1 (.t 98)), 992), (zn 100 15, 0), (zp 101 (.bin .add (.t 99) (.t 100)), 4064), (zp 102 (.nilck (.t 89)), 1), (zp 103 (.fieldA 0 (.t 102)), 8193), (zp 104 (.idxA 6 1 (.t 103) (.t 90)), 26611), (⟨none, .lenc 0, none⟩, 59379), (zp 105 (.nilck (.t 91)), 4), (zp 106 (.fieldA 6 (.t 105)), 131076)],
 zo 107 (.idxA 6 1 (.t 106) (.t 92)),
 .one ⟨none, .store1 (.t 107) (.t 101), none⟩]
def c78k10 : ICode := .kill 116 [1, 2, 5, 6, 8, 9, 10, 11, 14, 15, 20, 21, 53, 54, 55, 60] (.ops c78r10)
def c78s11 : ICode := (.seq c78k10 c78k9)
def c78r12 : List Seg := [
 zm 87 6,
 zm 88 14,
 .one ⟨none, .mset (.t 87) (.t 88) (.c (.bool true)), none⟩]
def c78k12 : ICode := .kill 116 [1, 2, 5, 6, 8, 9, 10, 11, 14, 15, 20, 21, 53, 54, 55, 60] (.ops c78r12)
def c78s13 : ICode := (.cond (.t 86) (.seq c78k12 c78s11) .skip)
def c78r14 : List Seg := [
 zm 78 13,
 zm 79 9,
 zo 80 (.bin .eql (.t 78) (.t 79)),
 zm 81 80,
 .one ⟨some 82, .mv (.t 6), some (81, true)⟩,
 .one ⟨some 83, .mv (.t 14), some (81, true)⟩,
 .one ⟨some 84, .look (.bool false) false (.t 82) (.t 83), some (81, true)⟩,
 .one ⟨some 85, .un .not (.t 84), some (81, true)⟩,
 zo 86 (.pick (.t 81) (.t 85) (.c (.bool false)))]
def c78k14 : ICode := .kill 116 [1, 2, 5, 6, 8, 9, 10, 11, 13, 14, 15, 20, 21, 53, 54, 55, 60] (.ops c78r14)
def c78s15 : ICode := (.seq c78k14 c78s13)
def c78r16 : List Seg := [
 zm 76 15,
 zo 77 (.un .neg (.t 76)),
 zm 15 77]
def c78k16 : ICode := .kill 116 [1, 2, 5, 6, 8, 9, 10, 11, 13, 14, 15, 20, 21, 53, 54, 55, 60] (.ops c78r16)
def c78s17 : ICode := (.cond (.t 75) c78k16 .skip)
def c78r18 : List Seg := [
 zm 74 12,
 zo 75 (.bin .eql (.t 74) (.c (.int .i64 1)))]
def c78k18 : ICode := .kill 116 [1, 2, 5, 6, 8, 9, 10, 11, 12, 13, 14, 15, 20, 21, 53, 54, 55, 60] (.ops c78r18)
def c78s19 : ICode := (.seq (.seq c78k18 c78s17) c78s15)
def c78r20 : List Seg := [
 .grp [(zn 63 12, 0), (zp 64 (.idxA 2 1 (.t 11) (.t 63)), 1), (zp 65 (.load1 (.t 64)), 3), (zn 66 12, 0), (zp 67 (.bin .sub (.c (.int .i64 1)) (.t 66)), 8), (zp 68 (.idxA 2 1 (.t 11) (.t 67)), 24), (zp 69 (.load1 (.t 68)), 56), (zn 70 1, 0), (zn 71 10, 0), (zp 72 (.idxS 1 (.t 70) (.t 71)), 384), (zp 73 (.load1 (.t 72)), 896), (zn 13 65, 7), (zn 14 69, 2175)],
 zm 15 73]
def c78k20 : ICode := .kill 116 [1, 2, 5, 6, 8, 9, 10, 11, 12, 20, 21, 53, 54, 55, 60] (.ops c78r20)
def c78s21 : ICode := (.seq c78k20 c78s19)
def c78r22 : List Seg := [
 zm 62 60,
 zm 12 62]
def c78k22 : ICode := .kill 116 [1, 2, 5, 6, 8, 9, 10, 11, 20, 21, 53, 54, 55, 60] (.ops c78r22)
def c78s23 : ICode := (.seq (.block 7 (.seq c78k22 c78s21)) c78k8)
def c78s24 : ICode := (.seq (.cond (.t 61) .skip (.exit 6)) c78s23)
def c78r25 : List Seg := [
 zo 61 (.bin .lss (.t 60) (.c (.int .i64 2)))]
def c78k25 : ICode := .kill 116 [1, 2, 5, 6, 8, 9, 10, 11, 20, 21, 53, 54, 55, 60] (.ops c78r25)
def c78l7 : ICode := (.seq c78k25 c78s24)
def c78s26 : ICode := (.block 6 (.loop c78l7))
def c78r27 : List Seg := [
 zo 60 (.mv (.c (.int .i64 0)))]
def c78k27 : ICode := .kill 116 [1, 2, 5, 6, 8, 9, 10, 11, 20, 21, 53, 54, 55] (.ops c78r27)
def c78s28 : ICode := (.seq c78k27 c78s26)
def c78r29 : List Seg := [
 zm 57 55,
 zo 58 (.idxS 2 (.t 53) (.t 55)),
 zo 59 (.loadN 2 (.t 58)),
 zo 11 (.box (.c (.agg [.int .i64 0, .int .i64 0]))),
 zm 10 57,
 .one ⟨none, .storeN 2 (.t 11) (.t 59), none⟩]
def c78k29 : ICode := .kill 116 [1, 2, 5, 6, 8, 9, 20, 21, 53, 54, 55] (.ops c78r29)
def c78s30 : ICode := (.seq (.block 5 (.seq c78k29 c78s28)) c78k6)
def c78s31 : ICode := (.seq (.cond (.t 56) .skip (.exit 4)) c78s30)
def c78r32 : List Seg := [
 zo 56 (.bin .lss (.t 55) (.t 54))]
def c78k32 : ICode := .kill 116 [1, 2, 5, 6, 8, 9, 20, 21, 53, 54, 55] (.ops c78r32)
def c78l5 : ICode := (.seq c78k32 c78s31)
def c78s33 : ICode := (.block 4 (.loop c78l5))
def c78r34 : List Seg := [
 zo 52 (.fieldA 1 (.t 2)),
 zo 53 (.load1 (.t 52)),
 zo 54 (.len 0 (.t 53)),
 zo 55 (.mv (.c (.int .i64 0)))]
def c78k34 : ICode := .kill 116 [1, 2, 5, 6, 8, 9, 20, 21] (.ops c78r34)
def c78s35 : ICode := (.seq c78k34 c78s33)
def c78r36 : List Seg := [
 zm 50 8,
 zo 51 (.sliceS 1 (.t 50) (some (.c (.int .i64 1))) none none),
 zm 8 51]
def c78k36 : ICode := .kill 116 [1, 2, 5, 6, 8, 9, 20, 21] (.ops c78r36)
def c78s37 : ICode := (.seq c78k36 c78s35)
def c78r38 : List Seg := [
 zm 47 8,
 zo 48 (.idxS 1 (.t 47) (.c (.int .i64 0))),
 zo 49 (.load1 (.t 48)),
 zm 9 49]
def c78k38 : ICode := .kill 116 [1, 2, 5, 6, 8, 20, 21] (.ops c78r38)
def c78s39 : ICode := (.block 3 (.seq c78k38 c78s37))
def c78s40 : ICode := (.cond (.t 46) .skip (.exit 2))
def c78r41 : List Seg := [
 zm 44 8,
 zo 45 (.len 0 (.t 44)),
 zo 46 (.bin .gtr (.t 45) (.c (.int .i64 0)))]
def c78k41 : ICode := .kill 116 [1, 2, 5, 6, 8, 20, 21] (.ops c78r41)
def c78l4 : ICode := (.seq (.seq c78k41 c78s40) c78s39)
def c78s42 : ICode := (.block 2 (.loop c78l4))
def c78r43 : List Seg := [
 zm 42 7,
 zo 43 (.mkslice 1 [.int .i64 0] [(0, 1, (.t 42))]),
 zm 8 43]
def c78k43 : ICode := .kill 116 [1, 2, 5, 6, 7, 20, 21] (.ops c78r43)
def c78s44 : ICode := (.seq c78k43 c78s42)
def c78r45 : List Seg := [
 zm 36 5,
 zm 37 7,
 zm 38 7,
 zo 39 (.nilck (.t 36)),
 zo 40 (.fieldA 0 (.t 39)),
 zo 41 (.idxA 6 1 (.t 40) (.t 37)),
 .one ⟨none, .store1 (.t 41) (.t 38), none⟩]
def c78k45 : ICode := .kill 116 [1, 2, 5, 6, 7, 20, 21] (.ops c78r45)
def c78s46 : ICode := (.seq c78k45 c78s44)
def c78r47 : List Seg := [
 zm 34 6,
 zm 35 7,
 .one ⟨none, .mset (.t 34) (.t 35) (.c (.bool true)), none⟩]
def c78k47 : ICode := .kill 116 [1, 2, 5, 6, 7, 20, 21] (.ops c78r47)
def c78s48 : ICode := (.seq c78k47 c78s46)
def c78r49 : List Seg := [
 zm 27 5,
 zo 28 (.nilck (.t 27)),
 zo 29 (.fieldA 12 (.t 28)),
 zo 30 (.load1 (.t 29)),
 zo 31 (.bin .add (.t 30) (.c (.int .i64 1))),
 zo 32 (.nilck (.t 27)),
 zo 33 (.fieldA 12 (.t 32)),
 .one ⟨none, .store1 (.t 33) (.t 31), none⟩]
def c78k49 : ICode := .kill 116 [1, 2, 5, 6, 7, 20, 21] (.ops c78r49)
def c78s50 : ICode := (.seq c78k49 c78s48)
def c78s51 : ICode := (.cond (.t 26) (.exit 1) .skip)
def c78r52 : List Seg := [
 zm 24 6,
 zm 25 7,
 zo 26 (.look (.bool false) false (.t 24) (.t 25))]
def c78k52 : ICode := .kill 116 [1, 2, 5, 6, 7, 20, 21] (.ops c78r52)
def c78s53 : ICode := (.seq (.seq c78k52 c78s51) c78s50)
def c78r54 : List Seg := [
 zm 23 21,
 zm 7 23]
def c78k54 : ICode := .kill 116 [1, 2, 5, 6, 20, 21] (.ops c78r54)
def c78s55 : ICode := (.seq (.block 1 (.seq c78k54 c78s53)) c78k3)
def c78s56 : ICode := (.seq (.cond (.t 22) .skip (.exit 0)) c78s55)
def c78r57 : List Seg := [
 zo 22 (.bin .lss (.t 21) (.t 20))]
def c78k57 : ICode := .kill 116 [1, 2, 5, 6, 20, 21] (.ops c78r57)
def c78l2 : ICode := (.seq c78k57 c78s56)
def c78s58 : ICode := (.block 0 (.loop c78l2))
def c78r59 : List Seg := [
 zo 19 (.fieldA 0 (.t 2)),
 zo 20 (.load1 (.t 19)),
 zo 21 (.mv (.c (.int .i64 0)))]
def c78k59 : ICode := .kill 116 [1, 2, 5, 6] (.ops c78r59)
def c78s60 : ICode := (.seq (.seq c78k59 c78s58) c78s1)
def c78r61 : List Seg := [
 zo 18 (.mkmap),
 zm 6 18]
def c78k61 : ICode := .kill 116 [1, 2, 5] (.ops c78r61)
def c78s62 : ICode := (.seq c78k61 c78s60)
def c78r63 : List Seg := [
 zo 16 (.mkagg (List.replicate 13 (.int .i64 0)) []),
 zo 17 (.box (.t 16)),
 zm 5 17]
def c78k63 : ICode := .kill 116 [1, 2] (.ops c78r63)
def c78s64 : ICode := (.seq c78k63 c78s62)
def c78r65 : List Seg := [
 zo 2 (.box (.t 0)),
 zo 4 (.mv (.c .nilptr))]
def c78k65 : ICode := .kill 116 [0, 1] (.ops c78r65)
def c78b : ICode := (.seq c78k65 c78s64)
def c78 : IFn := ⟨116, [.t 4], c78b⟩
def h78 : List (Nat × Nat × List Nat) := [(0, (116, [0, 1])), (1, (116, [1, 2])), (2, (116, [1, 2, 5])), (3, (116, [1, 2, 5, 6])), (4, (116, [1, 2, 5, 6, 20, 21])), (5, (116, [1, 2, 5, 6, 20, 21])), (6, (116, [1, 2, 5, 6, 7, 20, 21])), (7, (116, [1, 2, 5, 6, 7, 20, 21])), (8, (116, [1, 2, 5, 6, 7, 20, 21])), (9, (116, [1, 2, 5, 6, 7, 20, 21])), (10, (116, [1, 2, 5, 6, 7, 20, 21])), (11, (116, [1, 2, 5, 6, 8, 20, 21])), (12, (116, [1, 2, 5, 6, 8, 20, 21])), (13, (116, [1, 2, 5, 6, 8, 9, 20, 21])), (14, (116, [1, 2, 5, 6, 8, 9, 20, 21])), (15, (116, [1, 2, 5, 6, 8, 9, 20, 21, 53, 54, 55])), (16, (116, [1, 2, 5, 6, 8, 9, 20, 21, 53, 54, 55])), (17, (116, [1, 2, 5, 6, 8, 9, 10, 11, 20, 21, 53, 54, 55])), (18, (116, [1, 2, 5, 6, 8, 9, 10, 11, 20, 21, 53, 54, 55, 60])), (19, (116, [1, 2, 5, 6, 8, 9, 10, 11, 20, 21, 53, 54, 55, 60])), (20, (116, [1, 2, 5, 6, 8, 9, 10, 11, 12, 20, 21, 53, 54, 55, 60])), (21, (116, [1, 2, 5, 6, 8, 9, 10, 11, 12, 13, 14, 15, 20, 21, 53, 54, 55, 60])), (22, (116, [1, 2, 5, 6, 8, 9, 10, 11, 13, 14, 15, 20, 21, 53, 54, 55, 60])), (23, (116, [1, 2, 5, 6, 8, 9, 10, 11, 13, 14, 15, 20, 21, 53, 54, 55, 60])), (24, (116, [1, 2, 5, 6, 8, 9, 10, 11, 14, 15, 20, 21, 53, 54, 55, 60])), (25, (116, [1, 2, 5, 6, 8, 9, 10, 11, 14, 15, 20, 21, 53, 54, 55, 60])), (26, (116, [1, 2, 5, 6, 8, 9, 10, 11, 14, 20, 21, 53, 54, 55, 60])), (27, (116, [1, 2, 5, 6, 8, 9, 10, 11, 20, 21, 53, 54, 55, 60])), (28, (116, [1, 2, 5, 6, 8, 9, 20, 21, 53, 54, 55])), (29, (116, [1, 2, 5, 6, 20, 21])), (30, (116, [5]))]
def c79r0 : List Seg := [
 zo 5 (.mkslice 0 [] []),
 zm 6 0,
 zo 7 (.app 1 8 (.t 5) (.t 6)),
 zm 2 7]
def c79k0 : ICode := .kill 8 [0] (.ops c79r0)
def c79s1 : ICode := (.seq c79k0 .ret)
def c79r2 : List Seg := [
 zo 2 (.mv (.c .nilslice))]
def c79k2 : ICode := .kill 8 [] (.ops c79r2)
def c79s3 : ICode := (.cond (.t 4) (.seq c79k2 .ret) .skip)
def c79r4 : List Seg := [
 zm 3 0,
 zo 4 (.eqv false .slice (.t 3) (.c .nilslice))]
def c79k4 : ICode := .kill 8 [0] (.ops c79r4)
def c79s5 : ICode := (.seq (.seq c79k4 c79s3) c79s1)
def c79r6 : List Seg := [
 zo 2 (.mv (.c .nilslice))]
def c79k6 : ICode := .kill 8 [0] (.ops c79r6)
def c79b : ICode := (.seq c79k6 c79s5)
def c79 : IFn := ⟨8, [.t 2], c79b⟩
def h79 : List (Nat × Nat × List Nat) := [(0, (8, [0])), (1, (8, [0])), (2, (8, [])), (3, (8, [0]))]
def c81r0 : List Seg := [
 .grp [(zn 15 0, 0), (zp 16 (.mkslice 1 [.int .i64 0] [(0, 1, (.t 15))]), 1), (zp 17 (.load1 (.t 2)), 0), (zp 18 (.load1 (.t 1)), 0), (zn 19 0, 0), (zp 20 (.nilck (.t 18)), 8), (zp 21 (.fieldA 0 (.t 20)), 40), (zp 22 (.idxA 6 1 (.t 21) (.t 19)), 120), (zp 23 (.load1 (.t 22)), 248), (zp 24 (.call [] (.t 17) [(.t 23)]), 508)],
 zo 25 (.app 1 8 (.t 16) (.t 24)),
 zm 4 25]
def c81k0 : ICode := .kill 26 [0, 1, 2] (.ops c81r0)
def c81s1 : ICode := (.seq c81k0 .ret)
def c81r2 : List Seg := [
 zm 13 0,
 zo 14 (.mkslice 1 [.int .i64 0] [(0, 1, (.t 13))]),
 zm 4 14]
def c81k2 : ICode := .kill 26 [0] (.ops c81r2)
def c81s3 : ICode := (.cond (.t 12) (.seq c81k2 .ret) .skip)
def c81r4 : List Seg := [
 zo 5 (.load1 (.t 1)),
 zm 6 0,
 zo 7 (.nilck (.t 5)),
 zo 8 (.fieldA 0 (.t 7)),
 zo 9 (.idxA 6 1 (.t 8) (.t 6)),
 zo 10 (.load1 (.t 9)),
 zm 11 0,
 zo 12 (.bin .eql (.t 10) (.t 11))]
def c81k4 : ICode := .kill 26 [0, 1, 2] (.ops c81r4)
def c81s5 : ICode := (.seq (.seq c81k4 c81s3) c81s1)
def c81r6 : List Seg := [
 zo 4 (.mv (.c .nilslice))]
def c81k6 : ICode := .kill 26 [0, 1, 2] (.ops c81r6)
def c81b : ICode := (.seq c81k6 c81s5)
def c81 : IFn := ⟨26, [.t 4], c81b⟩
def h81 : List (Nat × Nat × List Nat) := [(0, (26, [0, 1, 2])), (1, (26, [0, 1, 2])), (2, (26, [0])), (3, (26, [0, 1, 2]))]
def c82r1 : List Seg := [
 zm 10 2,
 zo 11 (.bin .add (.t 10) (.c (.int .i64 1))),
 zm 12 3,
 zo 13 (.bin .sub (.t 12) (.c (.int .i64 1))),
 zm 2 11,
 zm 3 13]
def c82k1 : ICode := .kill 28 [0, 2, 3] (.ops c82r1)
def c82r2 : List Seg := [
 .grpw (.t 26) (.t 21) none 8179 [(zn 14 0, 0), (zn 15 2, 0), (zn 16 0, 0), (zn 17 3, 0), (zn 18 0, 0), (zn 19 3, 0), (zp 20 (.idxS 1 (.t 18) (.t 19)), 48), (zp 21 (.load1 (.t 20)), 112), (zn 22 0, 0), (zn 23 2, 0), (zp 24 (.idxS 1 (.t 22) (.t 23)), 768), (zp 25 (.load1 (.t 24)), 1792), (zp 26 (.idxS 1 (.t 14) (.t 15)), 4083), (⟨none, .lenc 0, none⟩, 8179)],
 zo 27 (.idxS 1 (.t 16) (.t 17)),
 .one ⟨none, .store1 (.t 27) (.t 25), none⟩]
def c82k2 : ICode := .kill 28 [0, 2, 3] (.ops c82r2)
def c82s3 : ICode := (.seq (.block 1 c82k2) c82k1)
def c82s4 : ICode := (.cond (.t 9) .skip (.exit 0))
def c82r5 : List Seg := [
 zm 7 2,
 zm 8 3,
 zo 9 (.bin .lss (.t 7) (.t 8))]
def c82k5 : ICode := .kill 28 [0, 2, 3] (.ops c82r5)
def c82l0 : ICode := (.seq (.seq c82k5 c82s4) c82s3)
def c82s6 : ICode := (.block 0 (.loop c82l0))
def c82r7 : List Seg := [
 zm 4 0,
 zo 5 (.len 0 (.t 4)),
 zo 6 (.bin .sub (.t 5) (.c (.int .i64 1))),
 zo 2 (.mv (.c (.int .i64 0))),
 zm 3 6]
def c82k7 : ICode := .kill 28 [0] (.ops c82r7)
def c82b : ICode := (.seq c82k7 c82s6)
def c82 : IFn := ⟨28, [], c82b⟩
def h82 : List (Nat × Nat × List Nat) := [(0, (28, [0])), (1, (28, [0, 2, 3])), (3, (28, [0, 2, 3])), (2, (28, [0, 2, 3]))]
def c83r0 : List Seg := [
 zm 5 0,
 zm 6 1,
 zo 7 (.call [] (.c (.func 103 [])) [(.t 5), (.t 6)]),
 zo 8 (.bin .geq (.t 7) (.c (.int .i64 0))),
 zm 4 8]
def c83k0 : ICode := .kill 9 [0, 1] (.ops c83r0)
def c83s1 : ICode := (.seq c83k0 .ret)
def c83r2 : List Seg := [
 zo 4 (.mv (.c (.bool false)))]
def c83k2 : ICode := .kill 9 [0, 1] (.ops c83r2)
def c83b : ICode := (.seq c83k2 c83s1)
def c83 : IFn := ⟨9, [.t 4], c83b⟩
def h83 : List (Nat × Nat × List Nat) := [(0, (9, [0, 1])), (1, (9, [0, 1]))]
def c91r0 : List Seg := [
 zo 4 (.mv (.c (.int .i64 0)))]
def c91k0 : ICode := .kill 36 [] (.ops c91r0)
def c91s1 : ICode := (.seq c91k0 .ret)
def c91r2 : List Seg := [
 zo 4 (.mv (.c (.int .i64 (-1))))]
def c91k2 : ICode := .kill 36 [] (.ops c91r2)
def c91s3 : ICode := (.cond (.t 35) (.seq c91k2 .ret) .skip)
def c91r4 : List Seg := [
 zm 31 0,
 zo 32 (.len 0 (.t 31)),
 zm 33 1,
 zo 34 (.len 0 (.t 33)),
 zo 35 (.bin .lss (.t 32) (.t 34))]
def c91k4 : ICode := .kill 36 [0, 1] (.ops c91r4)
def c91s5 : ICode := (.seq (.seq c91k4 c91s3) c91s1)
def c91r7 : List Seg := [
 zo 30 (.bin .add (.t 11) (.c (.int .i64 1))),
 zm 11 30]
def c91k7 : ICode := .kill 36 [0, 1, 9, 10, 11] (.ops c91r7)
def c91r8 : List Seg := [
 zm 29 8,
 zm 4 29]
def c91k8 : ICode := .kill 36 [8] (.ops c91r8)
def c91s9 : ICode := (.cond (.t 28) (.seq c91k8 .ret) .skip)
def c91r10 : List Seg := [
 zm 27 8,
 zo 28 (.bin .neq (.t 27) (.c (.int .i64 0)))]
def c91k10 : ICode := .kill 36 [0, 1, 8, 9, 10, 11] (.ops c91r10)
def c91s11 : ICode := (.seq c91k10 c91s9)
def c91r12 : List Seg := [
 zm 24 6,
 zm 25 7,
 zo 26 (.call [] (.c (.func 105 [])) [(.t 24), (.t 25)]),
 zm 8 26]
def c91k12 : ICode := .kill 36 [0, 1, 6, 7, 9, 10, 11] (.ops c91r12)
def c91s13 : ICode := (.seq c91k12 c91s11)
def c91r14 : List Seg := [
 zm 20 1,
 zm 21 5,
 zo 22 (.idxS 1 (.t 20) (.t 21)),
 zo 23 (.load1 (.t 22)),
 zm 7 23]
def c91k14 : ICode := .kill 36 [0, 1, 5, 6, 9, 10, 11] (.ops c91r14)
def c91s15 : ICode := (.seq c91k14 c91s13)
def c91r16 : List Seg := [
 zo 4 (.mv (.c (.int .i64 1)))]
def c91k16 : ICode := .kill 36 [] (.ops c91r16)
def c91s17 : ICode := (.cond (.t 19) (.seq c91k16 .ret) .skip)
def c91r18 : List Seg := [
 zm 16 5,
 zm 17 1,
 zo 18 (.len 0 (.t 17)),
 zo 19 (.bin .geq (.t 16) (.t 18))]
def c91k18 : ICode := .kill 36 [0, 1, 5, 6, 9, 10, 11] (.ops c91r18)
def c91s19 : ICode := (.seq (.seq c91k18 c91s17) c91s15)
def c91r20 : List Seg := [
 zm 13 11,
 zo 14 (.idxS 1 (.t 9) (.t 11)),
 zo 15 (.load1 (.t 14)),
 zm 5 13,
 zm 6 15]
def c91k20 : ICode := .kill 36 [0, 1, 9, 10, 11] (.ops c91r20)
def c91s21 : ICode := (.seq (.block 1 (.seq c91k20 c91s19)) c91k7)
def c91s22 : ICode := (.seq (.cond (.t 12) .skip (.exit 0)) c91s21)
def c91r23 : List Seg := [
 zo 12 (.bin .lss (.t 11) (.t 10))]
def c91k23 : ICode := .kill 36 [0, 1, 9, 10, 11] (.ops c91r23)
def c91l6 : ICode := (.seq c91k23 c91s22)
def c91s24 : ICode := (.block 0 (.loop c91l6))
def c91r25 : List Seg := [
 zm 9 0,
 zo 10 (.len 0 (.t 9)),
 zo 11 (.mv (.c (.int .i64 0)))]
def c91k25 : ICode := .kill 36 [0, 1] (.ops c91r25)
def c91s26 : ICode := (.seq (.seq c91k25 c91s24) c91s5)
def c91r27 : List Seg := [
 zo 4 (.mv (.c (.int .i64 0)))]
def c91k27 : ICode := .kill 36 [0, 1] (.ops c91r27)
def c91b : ICode := (.seq c91k27 c91s26)
def c91 : IFn := ⟨36, [.t 4], c91b⟩
def h91 : List (Nat × Nat × List Nat) := [(0, (36, [0, 1])), (1, (36, [0, 1])), (2, (36, [0, 1, 9, 10, 11])), (3, (36, [0, 1, 9, 10, 11])), (4, (36, [0, 1, 5, 6, 9, 10, 11])), (5, (36, [])), (6, (36, [0, 1, 5, 6, 9, 10, 11])), (7, (36, [0, 1, 6, 7, 9, 10, 11])), (8, (36, [0, 1, 8, 9, 10, 11])), (9, (36, [8])), (10, (36, [0, 1, 9, 10, 11])), (11, (36, [0, 1])), (12, (36, [])), (13, (36, []))]
def c92r0 : List Seg := [
 zm 5 0,
 zo 6 (.loadN 2 (.t 3)),
 zo 7 (.call [] (.c (.func 75 [])) [(.t 5), (.t 6)]),
 zo 8 (.bin .geq (.t 7) (.c (.int .i64 0))),
 zm 4 8]
def c92k0 : ICode := .kill 9 [0, 3] (.ops c92r0)
def c92s1 : ICode := (.seq c92k0 .ret)
def c92r2 : List Seg := [
 zo 3 (.box (.t 1)),
 zo 4 (.mv (.c (.bool false)))]
def c92k2 : ICode := .kill 9 [0, 1] (.ops c92r2)
def c92b : ICode := (.seq c92k2 c92s1)
def c92 : IFn := ⟨9, [.t 4], c92b⟩
def h92 : List (Nat × Nat × List Nat) := [(0, (9, [0, 1])), (1, (9, [0, 3]))]
def c93r1 : List Seg := [
 zo 51 (.bin .add (.t 16) (.c (.int .i64 1))),
 zm 16 51]
def c93k1 : ICode := .kill 52 [0, 4, 14, 15, 16] (.ops c93r1)
def c93s2 : ICode := (.cond (.t 50) .ret .skip)
def c93r3 : List Seg := [
 zm 42 7,
 zo 43 (.bin .neq (.t 42) (.c (.int .i64 0))),
 zm 44 43,
 .one ⟨some 45, .mv (.t 0), some (44, true)⟩,
 .one ⟨some 46, .mv (.t 5), some (44, true)⟩,
 .one ⟨some 47, .mv (.t 7), some (44, true)⟩,
 .one ⟨some 48, .call [] (.t 45) [(.t 46), (.t 47)], some (44, true)⟩,
 .one ⟨some 49, .un .not (.t 48), some (44, true)⟩,
 zo 50 (.pick (.t 44) (.t 49) (.c (.bool false)))]
def c93k3 : ICode := .kill 52 [0, 4, 5, 7, 14, 15, 16] (.ops c93r3)
def c93s4 : ICode := (.seq c93k3 c93s2)
def c93r5 : List Seg := [
 zo 7 (.mv (.c (.int .i64 1)))]
def c93k5 : ICode := .kill 52 [0, 4, 5, 14, 15, 16] (.ops c93r5)
def c93r6 : List Seg := [
 zo 7 (.mv (.c (.int .i64 (-1))))]
def c93k6 : ICode := .kill 52 [0, 4, 5, 14, 15, 16] (.ops c93r6)
def c93s7 : ICode := (.cond (.t 35) c93k6 .skip)
def c93r8 : List Seg := [
 zo 36 (.idxA 3 1 (.t 4) (.c (.int .i64 0))),
 zo 37 (.load1 (.t 36)),
 zo 38 (.idxA 3 1 (.t 4) (.c (.int .i64 2))),
 zo 39 (.load1 (.t 38)),
 zo 40 (.mkagg [.int .i64 0, .int .i64 0] [(0, 1, (.t 37)), (1, 1, (.t 39))]),
 zo 41 (.eqv false (.ints 2) (.t 21) (.t 40)),
 zm 35 41]
def c93k8 : ICode := .kill 52 [0, 4, 5, 7, 14, 15, 16, 21] (.ops c93r8)
def c93s9 : ICode := (.cond (.t 22) c93k5 (.seq c93k8 c93s7))
def c93r10 : List Seg := [
 zo 29 (.idxA 3 1 (.t 4) (.c (.int .i64 1))),
 zo 30 (.load1 (.t 29)),
 zo 31 (.idxA 3 1 (.t 4) (.c (.int .i64 2))),
 zo 32 (.load1 (.t 31)),
 zo 33 (.mkagg [.int .i64 0, .int .i64 0] [(0, 1, (.t 30)), (1, 1, (.t 32))]),
 zo 34 (.eqv false (.ints 2) (.t 21) (.t 33)),
 zm 22 34]
def c93k10 : ICode := .kill 52 [0, 4, 5, 7, 14, 15, 16, 21] (.ops c93r10)
def c93s11 : ICode := (.cond (.t 22) .skip c93k10)
def c93r12 : List Seg := [
 zo 23 (.idxA 3 1 (.t 4) (.c (.int .i64 0))),
 zo 24 (.load1 (.t 23)),
 zo 25 (.idxA 3 1 (.t 4) (.c (.int .i64 1))),
 zo 26 (.load1 (.t 25)),
 zo 27 (.mkagg [.int .i64 0, .int .i64 0] [(0, 1, (.t 24)), (1, 1, (.t 26))]),
 zo 28 (.eqv false (.ints 2) (.t 21) (.t 27)),
 zm 22 28]
def c93k12 : ICode := .kill 52 [0, 4, 5, 7, 14, 15, 16, 21] (.ops c93r12)
def c93s13 : ICode := (.block 2 (.seq (.seq c93k12 c93s11) c93s9))
def c93r14 : List Seg := [
 zo 21 (.loadN 2 (.t 6))]
def c93k14 : ICode := .kill 52 [0, 4, 5, 6, 7, 14, 15, 16] (.ops c93r14)
def c93s15 : ICode := (.seq (.seq c93k14 c93s13) c93s4)
def c93r16 : List Seg := [
 zo 7 (.mv (.c (.int .i64 0)))]
def c93k16 : ICode := .kill 52 [0, 4, 5, 6, 14, 15, 16] (.ops c93r16)
def c93s17 : ICode := (.seq c93k16 c93s15)
def c93r18 : List Seg := [
 zm 18 16,
 zo 19 (.idxS 2 (.t 14) (.t 16)),
 zo 20 (.loadN 2 (.t 19)),
 zo 6 (.box (.c (.agg [.int .i64 0, .int .i64 0]))),
 zm 5 18,
 .one ⟨none, .storeN 2 (.t 6) (.t 20), none⟩]
def c93k18 : ICode := .kill 52 [0, 4, 14, 15, 16] (.ops c93r18)
def c93s19 : ICode := (.seq (.block 1 (.seq c93k18 c93s17)) c93k1)
def c93s20 : ICode := (.seq (.cond (.t 17) .skip (.exit 0)) c93s19)
def c93r21 : List Seg := [
 zo 17 (.bin .lss (.t 16) (.t 15))]
def c93k21 : ICode := .kill 52 [0, 4, 14, 15, 16] (.ops c93r21)
def c93l0 : ICode := (.seq c93k21 c93s20)
def c93s22 : ICode := (.block 0 (.loop c93l0))
def c93r23 : List Seg := [
 zo 13 (.fieldA 1 (.t 1)),
 zo 14 (.load1 (.t 13)),
 zo 15 (.len 0 (.t 14)),
 zo 16 (.mv (.c (.int .i64 0)))]
def c93k23 : ICode := .kill 52 [0, 1, 4] (.ops c93r23)
def c93s24 : ICode := (.seq c93k23 c93s22)
def c93r25 : List Seg := [
 zo 8 (.fieldA 2 (.t 1)),
 zo 9 (.load1 (.t 8)),
 zo 10 (.load1 (.t 2)),
 zo 11 (.idxS 3 (.t 9) (.t 10)),
 zo 12 (.loadN 3 (.t 11)),
 zo 4 (.box (.c (.agg [.int .i64 0, .int .i64 0, .int .i64 0]))),
 .one ⟨none, .storeN 3 (.t 4) (.t 12), none⟩]
def c93k25 : ICode := .kill 52 [0, 1, 2] (.ops c93r25)
def c93b : ICode := (.seq c93k25 c93s24)
def c93 : IFn := ⟨52, [], c93b⟩
def h93 : List (Nat × Nat × List Nat) := [(0, (52, [0, 1, 2])), (1, (52, [0, 1, 4])), (2, (52, [0, 4, 14, 15, 16])), (3, (52, [0, 4, 14, 15, 16])), (4, (52, [0, 4, 5, 6, 14, 15, 16])), (5, (52, [0, 4, 5, 6, 7, 14, 15, 16])), (6, (52, [0, 4, 5, 7, 14, 15, 16, 21])), (7, (52, [0, 4, 5, 7, 14, 15, 16, 21])), (8, (52, [0, 4, 5, 14, 15, 16])), (9, (52, [0, 4, 5, 7, 14, 15, 16, 21])), (10, (52, [0, 4, 5, 14, 15, 16])), (11, (52, [0, 4, 5, 7, 14, 15, 16])), (12, (52, [0, 4, 14, 15, 16]))]
def c94r0 : List Seg := [
 zm 3 0,
 zo 4 (.bin .lss (.t 3) (.c (.int .i64 (-100)))),
 zm 5 4,
 .one ⟨some 6, .mv (.t 0), some (5, false)⟩,
 .one ⟨some 7, .bin .gtr (.t 6) (.c (.int .i64 100)), some (5, false)⟩,
 zo 8 (.pick (.t 5) (.c (.bool true)) (.t 7)),
 zm 2 8]
def c94k0 : ICode := .kill 9 [0] (.ops c94r0)
def c94s1 : ICode := (.seq c94k0 .ret)
def c94r2 : List Seg := [
 zo 2 (.mv (.c (.bool false)))]
def c94k2 : ICode := .kill 9 [0] (.ops c94r2)
def c94b : ICode := (.seq c94k2 c94s1)
def c94 : IFn := ⟨9, [.t 2], c94b⟩
def h94 : List (Nat × Nat × List Nat) := [(0, (9, [0])), (1, (9, [0]))]
def c95r0 : List Seg := [
 zo 5 (.loadN 2 (.t 2)),
 zo 6 (.fieldA 0 (.t 3)),
 zo 7 (.load1 (.t 6)),
 zo 8 (.un .neg (.t 7)),
 zo 9 (.fieldA 1 (.t 3)),
 zo 10 (.load1 (.t 9)),
 zo 11 (.mkagg [.int .i64 0, .int .i64 0] [(0, 1, (.t 8)), (1, 1, (.t 10))]),
 zo 12 (.call [] (.c (.func 97 [])) [(.t 5), (.t 11)]),
 .one ⟨none, .storeN 2 (.t 4) (.t 12), none⟩]
def c95k0 : ICode := .kill 13 [2, 3, 4] (.ops c95r0)
def c95s1 : ICode := (.seq c95k0 .ret)
def c95r2 : List Seg := [
 zo 2 (.box (.t 0)),
 zo 3 (.box (.t 1)),
 zo 4 (.box (.c (.agg [.int .i64 0, .int .i64 0])))]
def c95k2 : ICode := .kill 13 [0, 1] (.ops c95r2)
def c95b : ICode := (.seq c95k2 c95s1)
def c95 : IFn := ⟨13, [.cellN 4 2], c95b⟩
def h95 : List (Nat × Nat × List Nat) := [(0, (13, [0, 1])), (1, (13, [2, 3, 4]))]
def c96r0 : List Seg := [
 zo 10 (.loadN 22 (.t 1)),
 .one ⟨none, .storeN 22 (.t 0) (.t 10), none⟩]
def c96k0 : ICode := .kill 11 [0, 1] (.ops c96r0)
def c96s1 : ICode := (.seq c96k0 .ret)
def c96r3 : List Seg := [
 zo 9 (.bin .add (.t 3) (.c (.int .i64 1))),
 zm 3 9]
def c96k3 : ICode := .kill 11 [0, 1, 3] (.ops c96r3)
def c96r4 : List Seg := [
 zm 6 2,
 zo 7 (.loadN 2 (.c (.ptr 0 0))),
 zo 8 (.idxA 11 2 (.t 1) (.t 6)),
 .one ⟨none, .storeN 2 (.t 8) (.t 7), none⟩]
def c96k4 : ICode := .kill 11 [0, 1, 2, 3] (.ops c96r4)
def c96r5 : List Seg := [
 zm 5 3,
 zm 2 5]
def c96k5 : ICode := .kill 11 [0, 1, 3] (.ops c96r5)
def c96s6 : ICode := (.seq (.block 1 (.seq c96k5 c96k4)) c96k3)
def c96s7 : ICode := (.seq (.cond (.t 4) .skip (.exit 0)) c96s6)
def c96r8 : List Seg := [
 zo 4 (.bin .lss (.t 3) (.c (.int .i64 11)))]
def c96k8 : ICode := .kill 11 [0, 1, 3] (.ops c96r8)
def c96l2 : ICode := (.seq c96k8 c96s7)
def c96s9 : ICode := (.block 0 (.loop c96l2))
def c96r10 : List Seg := [
 zo 3 (.mv (.c (.int .i64 0)))]
def c96k10 : ICode := .kill 11 [0, 1] (.ops c96r10)
def c96s11 : ICode := (.seq (.seq c96k10 c96s9) c96s1)
def c96r12 : List Seg := [
 zo 1 (.box (.c (.agg (List.replicate 22 (.int .i64 0)))))]
def c96k12 : ICode := .kill 11 [0] (.ops c96r12)
def c96s13 : ICode := (.seq c96k12 c96s11)
def c96r14 : List Seg := [
 zo 0 (.box (.c (.agg (List.replicate 22 (.int .i64 0)))))]
def c96k14 : ICode := .kill 11 [] (.ops c96r14)
def c96b : ICode := (.seq c96k14 c96s13)
def c96 : IFn := ⟨11, [.cellN 0 22], c96b⟩
def h96 : List (Nat × Nat × List Nat) := [(0, (11, [])), (1, (11, [0])), (2, (11, [0, 1])), (3, (11, [0, 1, 3])), (4, (11, [0, 1, 3])), (5, (11, [0, 1, 2, 3])), (6, (11, [0, 1, 3])), (7, (11, [0, 1]))]
def c97r0 : List Seg := [
 zo 11 (.fieldA 0 (.t 2)),
 zo 12 (.load1 (.t 11)),
 zo 13 (.fieldA 1 (.t 5)),
 zo 14 (.load1 (.t 13)),
 zo 15 (.bin .mul (.t 12) (.t 14)),
 zo 16 (.fieldA 0 (.t 3)),
 zo 17 (.load1 (.t 16)),
 zo 18 (.fieldA 0 (.t 5)),
 zo 19 (.load1 (.t 18)),
 zo 20 (.bin .mul (.t 17) (.t 19)),
 zo 21 (.bin .add (.t 15) (.t 20)),
 zo 22 (.fieldA 1 (.t 2)),
 zo 23 (.load1 (.t 22)),
 zo 24 (.fieldA 1 (.t 5)),
 zo 25 (.load1 (.t 24)),
 zo 26 (.bin .mul (.t 23) (.t 25)),
 zo 27 (.call [] (.c (.func 106 [])) [(.t 21), (.t 26)]),
 .one ⟨none, .storeN 2 (.t 4) (.t 27), none⟩]
def c97k0 : ICode := .kill 28 [2, 3, 4, 5] (.ops c97r0)
def c97s1 : ICode := (.seq c97k0 .ret)
def c97r2 : List Seg := [
 zo 6 (.fieldA 1 (.t 2)),
 zo 7 (.load1 (.t 6)),
 zo 8 (.fieldA 1 (.t 3)),
 zo 9 (.load1 (.t 8)),
 zo 10 (.call [] (.c (.func 106 [])) [(.t 7), (.t 9)]),
 zo 5 (.box (.c (.agg [.int .i64 0, .int .i64 0]))),
 .one ⟨none, .storeN 2 (.t 5) (.t 10), none⟩]
def c97k2 : ICode := .kill 28 [2, 3, 4] (.ops c97r2)
def c97s3 : ICode := (.seq c97k2 c97s1)
def c97r4 : List Seg := [
 zo 2 (.box (.t 0)),
 zo 3 (.box (.t 1)),
 zo 4 (.box (.c (.agg [.int .i64 0, .int .i64 0])))]
def c97k4 : ICode := .kill 28 [0, 1] (.ops c97r4)
def c97b : ICode := (.seq c97k4 c97s3)
def c97 : IFn := ⟨28, [.cellN 4 2], c97b⟩
def h97 : List (Nat × Nat × List Nat) := [(0, (28, [0, 1])), (1, (28, [2, 3, 4])), (2, (28, [2, 3, 4, 5]))]
def c98r0 : List Seg := [
 zm 68 7,
 zm 4 68]
def c98k0 : ICode := .kill 69 [7] (.ops c98r0)
def c98s1 : ICode := (.seq c98k0 .ret)
def c98r3 : List Seg := [
 zo 67 (.bin .add (.t 50) (.c (.int .i64 1))),
 zm 50 67]
def c98k3 : ICode := .kill 69 [1, 5, 7, 48, 49, 50] (.ops c98r3)
def c98r4 : List Seg := [
 zm 57 7,
 zm 58 10,
 zm 59 5,
 zm 60 9,
 zo 61 (.idxS 1 (.t 59) (.t 60)),
 zo 62 (.load1 (.t 61)),
 zm 63 1,
 zo 64 (.idxS 2 (.t 62) (.t 63)),
 zo 65 (.loadN 2 (.t 64)),
 zo 66 (.idxS 2 (.t 57) (.t 58)),
 .one ⟨none, .storeN 2 (.t 66) (.t 65), none⟩]
def c98k4 : ICode := .kill 69 [1, 5, 7, 9, 10, 48, 49, 50] (.ops c98r4)
def c98s5 : ICode := (.cond (.t 56) c98k4 .skip)
def c98r6 : List Seg := [
 zm 55 10,
 zo 56 (.bin .geq (.t 55) (.c (.int .i64 0)))]
def c98k6 : ICode := .kill 69 [1, 5, 7, 9, 10, 48, 49, 50] (.ops c98r6)
def c98s7 : ICode := (.seq c98k6 c98s5)
def c98r8 : List Seg := [
 zm 52 50,
 zo 53 (.idxS 1 (.t 48) (.t 50)),
 zo 54 (.load1 (.t 53)),
 zm 9 52,
 zm 10 54]
def c98k8 : ICode := .kill 69 [1, 5, 7, 48, 49, 50] (.ops c98r8)
def c98s9 : ICode := (.seq (.block 5 (.seq c98k8 c98s7)) c98k3)
def c98s10 : ICode := (.seq (.cond (.t 51) .skip (.exit 4)) c98s9)
def c98r11 : List Seg := [
 zo 51 (.bin .lss (.t 50) (.t 49))]
def c98k11 : ICode := .kill 69 [1, 5, 7, 48, 49, 50] (.ops c98r11)
def c98l2 : ICode := (.seq c98k11 c98s10)
def c98s12 : ICode := (.block 4 (.loop c98l2))
def c98r13 : List Seg := [
 zm 45 5,
 zm 46 1,
 zo 47 (.loadN 2 (.c (.ptr 0 0))),
 zo 48 (.call [] (.c (.func 64 [])) [(.t 45), (.t 46), (.t 47)]),
 zo 49 (.len 0 (.t 48)),
 zo 50 (.mv (.c (.int .i64 0)))]
def c98k13 : ICode := .kill 69 [1, 5, 7] (.ops c98r13)
def c98s14 : ICode := (.seq (.seq c98k13 c98s12) c98s1)
def c98r16 : List Seg := [
 zo 44 (.bin .add (.t 37) (.c (.int .i64 1))),
 zm 37 44]
def c98k16 : ICode := .kill 69 [1, 5, 7, 36, 37] (.ops c98r16)
def c98r17 : List Seg := [
 zm 40 7,
 zm 41 8,
 zo 42 (.loadN 2 (.c (.ptr 0 0))),
 zo 43 (.idxS 2 (.t 40) (.t 41)),
 .one ⟨none, .storeN 2 (.t 43) (.t 42), none⟩]
def c98k17 : ICode := .kill 69 [1, 5, 7, 8, 36, 37] (.ops c98r17)
def c98r18 : List Seg := [
 zm 39 37,
 zm 8 39]
def c98k18 : ICode := .kill 69 [1, 5, 7, 36, 37] (.ops c98r18)
def c98s19 : ICode := (.seq (.block 3 (.seq c98k18 c98k17)) c98k16)
def c98s20 : ICode := (.seq (.cond (.t 38) .skip (.exit 2)) c98s19)
def c98r21 : List Seg := [
 zo 38 (.bin .lss (.t 37) (.t 36))]
def c98k21 : ICode := .kill 69 [1, 5, 7, 36, 37] (.ops c98r21)
def c98l15 : ICode := (.seq c98k21 c98s20)
def c98s22 : ICode := (.block 2 (.loop c98l15))
def c98r23 : List Seg := [
 zm 35 7,
 zo 36 (.len 0 (.t 35)),
 zo 37 (.mv (.c (.int .i64 0)))]
def c98k23 : ICode := .kill 69 [1, 5, 7] (.ops c98r23)
def c98s24 : ICode := (.seq (.seq c98k23 c98s22) c98s14)
def c98r25 : List Seg := [
 zm 33 1,
 zo 34 (.make [.int .i64 0, .int .i64 0] 16 (.t 33) (.t 33)),
 zm 7 34]
def c98k25 : ICode := .kill 69 [1, 5] (.ops c98r25)
def c98s26 : ICode := (.seq c98k25 c98s24)
def c98r28 : List Seg := [
 zo 32 (.bin .add (.t 13) (.c (.int .i64 1))),
 zm 13 32]
def c98k28 : ICode := .kill 69 [0, 1, 5, 12, 13] (.ops c98r28)
def c98r29 : List Seg := [
 .grp [(zn 16 5, 0), (zn 17 0, 0), (zn 18 6, 0), (zp 19 (.idxS 22 (.t 17) (.t 18)), 6), (zn 20 1, 0), (zn 21 1, 0), (zp 22 (.sliceA 11 2 (.t 19) none (some (.t 20)) (some (.t 21))), 62), (zn 23 0, 0), (zn 24 6, 0), (zp 25 (.idxS 22 (.t 23) (.t 24)), 384), (zp 26 (.idxA 11 2 (.t 25) (.c (.int .i64 10))), 896), (zp 27 (.loadN 2 (.t 26)), 1920), (zp 28 (.mkslice 1 [.int .i64 0, .int .i64 0] [(0, 2, (.t 27))]), 3968), (zp 29 (.app 2 16 (.t 22) (.t 28)), 8190), (zp 30 (.mkslice 1 [.nilslice] [(0, 1, (.t 29))]), 16382)],
 zo 31 (.app 1 24 (.t 16) (.t 30)),
 zm 5 31]
def c98k29 : ICode := .kill 69 [0, 1, 5, 6, 12, 13] (.ops c98r29)
def c98r30 : List Seg := [
 zm 15 13,
 zm 6 15]
def c98k30 : ICode := .kill 69 [0, 1, 5, 12, 13] (.ops c98r30)
def c98s31 : ICode := (.seq (.block 1 (.seq c98k30 c98k29)) c98k28)
def c98s32 : ICode := (.seq (.cond (.t 14) .skip (.exit 0)) c98s31)
def c98r33 : List Seg := [
 zo 14 (.bin .lss (.t 13) (.t 12))]
def c98k33 : ICode := .kill 69 [0, 1, 5, 12, 13] (.ops c98r33)
def c98l27 : ICode := (.seq c98k33 c98s32)
def c98s34 : ICode := (.block 0 (.loop c98l27))
def c98r35 : List Seg := [
 zm 11 0,
 zo 12 (.len 0 (.t 11)),
 zo 13 (.mv (.c (.int .i64 0)))]
def c98k35 : ICode := .kill 69 [0, 1, 5] (.ops c98r35)
def c98s36 : ICode := (.seq (.seq c98k35 c98s34) c98s26)
def c98r37 : List Seg := [
 zo 5 (.mv (.c .nilslice))]
def c98k37 : ICode := .kill 69 [0, 1] (.ops c98r37)
def c98s38 : ICode := (.seq c98k37 c98s36)
def c98r39 : List Seg := [
 zo 4 (.mv (.c .nilslice))]
def c98k39 : ICode := .kill 69 [0, 1] (.ops c98r39)
def c98b : ICode := (.seq c98k39 c98s38)
def c98 : IFn := ⟨69, [.t 4], c98b⟩
def h98 : List (Nat × Nat × List Nat) := [(0, (69, [0, 1])), (1, (69, [0, 1])), (2, (69, [0, 1, 5])), (3, (69, [0, 1, 5, 12, 13])), (4, (69, [0, 1, 5, 12, 13])), (5, (69, [0, 1, 5, 6, 12, 13])), (6, (69, [0, 1, 5, 12, 13])), (7, (69, [1, 5])), (8, (69, [1, 5, 7])), (9, (69, [1, 5, 7, 36, 37])), (10, (69, [1, 5, 7, 36, 37])), (11, (69, [1, 5, 7, 8, 36, 37])), (12, (69, [1, 5, 7, 36, 37])), (13, (69, [1, 5, 7])), (14, (69, [1, 5, 7, 48, 49, 50])), (15, (69, [1, 5, 7, 48, 49, 50])), (16, (69, [1, 5, 7, 9, 10, 48, 49, 50])), (17, (69, [1, 5, 7, 9, 10, 48, 49, 50])), (18, (69, [1, 5, 7, 48, 49, 50])), (19, (69, [7]))]
def c99r0 : List Seg := [
 zo 17 (.fieldA 0 (.t 5)),
 zo 18 (.load1 (.t 17)),
 zo 19 (.fieldA 0 (.t 6)),
 zo 20 (.load1 (.t 19)),
 zo 21 (.bin .mul (.t 18) (.t 20)),
 zo 22 (.fieldA 1 (.t 5)),
 zo 23 (.load1 (.t 22)),
 zo 24 (.fieldA 1 (.t 6)),
 zo 25 (.load1 (.t 24)),
 zo 26 (.bin .mul (.t 23) (.t 25)),
 zo 27 (.mkagg [.int .i64 0, .int .i64 0] [(0, 1, (.t 21)), (1, 1, (.t 26))]),
 .one ⟨none, .storeN 2 (.t 4) (.t 27), none⟩]
def c99k0 : ICode := .kill 28 [4, 5, 6] (.ops c99r0)
def c99s1 : ICode := (.seq c99k0 .ret)
def c99r2 : List Seg := [
 .grp [(zp 7 (.fieldA 0 (.t 2)), 0), (zp 8 (.load1 (.t 7)), 1), (zp 9 (.fieldA 1 (.t 3)), 0), (zp 10 (.load1 (.t 9)), 4), (zp 11 (.call [] (.c (.func 106 [])) [(.t 8), (.t 10)]), 15), (zp 12 (.fieldA 0 (.t 3)), 0), (zp 13 (.load1 (.t 12)), 32), (zp 14 (.fieldA 1 (.t 2)), 0), (zp 15 (.load1 (.t 14)), 128), (zp 16 (.call [] (.c (.func 106 [])) [(.t 13), (.t 15)]), 511), (zp 5 (.box (.c (.agg [.int .i64 0, .int .i64 0]))), 0), (zp 6 (.box (.c (.agg [.int .i64 0, .int .i64 0]))), 0)],
 .one ⟨none, .storeN 2 (.t 5) (.t 11), none⟩,
 .one ⟨none, .storeN 2 (.t 6) (.t 16), none⟩]
def c99k2 : ICode := .kill 28 [2, 3, 4] (.ops c99r2)
def c99s3 : ICode := (.seq c99k2 c99s1)
def c99r4 : List Seg := [
 zo 2 (.box (.t 0)),
 zo 3 (.box (.t 1)),
 zo 4 (.box (.c (.agg [.int .i64 0, .int .i64 0])))]
def c99k4 : ICode := .kill 28 [0, 1] (.ops c99r4)
def c99b : ICode := (.seq c99k4 c99s3)
def c99 : IFn := ⟨28, [.cellN 4 2], c99b⟩
def h99 : List (Nat × Nat × List Nat) := [(0, (28, [0, 1])), (1, (28, [2, 3, 4])), (2, (28, [4, 5, 6]))]
def c100r0 : List Seg := [
 zm 18 0,
 zm 3 18]
def c100k0 : ICode := .kill 19 [0] (.ops c100r0)
def c100s1 : ICode := (.seq c100k0 .ret)
def c100r3 : List Seg := [
 zo 12 (.load1 (.t 1)),
 zm 13 0,
 zo 14 (.nilck (.t 12)),
 zo 15 (.fieldA 0 (.t 14)),
 zo 16 (.idxA 6 1 (.t 15) (.t 13)),
 zo 17 (.load1 (.t 16)),
 zm 0 17]
def c100k3 : ICode := .kill 19 [0, 1] (.ops c100r3)
def c100s4 : ICode := (.block 1 c100k3)
def c100s5 : ICode := (.cond (.t 11) .skip (.exit 0))
def c100r6 : List Seg := [
 zo 4 (.load1 (.t 1)),
 zm 5 0,
 zo 6 (.nilck (.t 4)),
 zo 7 (.fieldA 0 (.t 6)),
 zo 8 (.idxA 6 1 (.t 7) (.t 5)),
 zo 9 (.load1 (.t 8)),
 zm 10 0,
 zo 11 (.bin .neq (.t 9) (.t 10))]
def c100k6 : ICode := .kill 19 [0, 1] (.ops c100r6)
def c100l2 : ICode := (.seq (.seq c100k6 c100s5) c100s4)
def c100s7 : ICode := (.seq (.block 0 (.loop c100l2)) c100s1)
def c100r8 : List Seg := [
 zo 3 (.mv (.c (.int .i64 0)))]
def c100k8 : ICode := .kill 19 [0, 1] (.ops c100r8)
def c100b : ICode := (.seq c100k8 c100s7)
def c100 : IFn := ⟨19, [.t 3], c100b⟩
def h100 : List (Nat × Nat × List Nat) := [(0, (19, [0, 1])), (1, (19, [0, 1])), (2, (19, [0, 1])), (3, (19, [0]))]
def c103r0 : List Seg := [
 zo 4 (.mv (.c (.int .i64 (-1))))]
def c103k0 : ICode := .kill 19 [] (.ops c103r0)
def c103s1 : ICode := (.seq c103k0 .ret)
def c103r3 : List Seg := [
 zo 18 (.bin .add (.t 8) (.c (.int .i64 1))),
 zm 8 18]
def c103k3 : ICode := .kill 19 [0, 1, 7, 8] (.ops c103r3)
def c103r4 : List Seg := [
 zm 17 5,
 zm 4 17]
def c103k4 : ICode := .kill 19 [5] (.ops c103r4)
def c103s5 : ICode := (.cond (.t 16) (.seq c103k4 .ret) .skip)
def c103r6 : List Seg := [
 zm 11 1,
 zm 12 0,
 zm 13 5,
 zo 14 (.idxS 1 (.t 12) (.t 13)),
 zo 15 (.load1 (.t 14)),
 zo 16 (.call [] (.t 11) [(.t 15)])]
def c103k6 : ICode := .kill 19 [0, 1, 5, 7, 8] (.ops c103r6)
def c103s7 : ICode := (.seq c103k6 c103s5)
def c103r8 : List Seg := [
 zm 10 8,
 zm 5 10]
def c103k8 : ICode := .kill 19 [0, 1, 7, 8] (.ops c103r8)
def c103s9 : ICode := (.seq (.block 1 (.seq c103k8 c103s7)) c103k3)
def c103s10 : ICode := (.seq (.cond (.t 9) .skip (.exit 0)) c103s9)
def c103r11 : List Seg := [
 zo 9 (.bin .lss (.t 8) (.t 7))]
def c103k11 : ICode := .kill 19 [0, 1, 7, 8] (.ops c103r11)
def c103l2 : ICode := (.seq c103k11 c103s10)
def c103s12 : ICode := (.block 0 (.loop c103l2))
def c103r13 : List Seg := [
 zm 6 0,
 zo 7 (.len 0 (.t 6)),
 zo 8 (.mv (.c (.int .i64 0)))]
def c103k13 : ICode := .kill 19 [0, 1] (.ops c103r13)
def c103s14 : ICode := (.seq (.seq c103k13 c103s12) c103s1)
def c103r15 : List Seg := [
 zo 4 (.mv (.c (.int .i64 0)))]
def c103k15 : ICode := .kill 19 [0, 1] (.ops c103r15)
def c103b : ICode := (.seq c103k15 c103s14)
def c103 : IFn := ⟨19, [.t 4], c103b⟩
def h103 : List (Nat × Nat × List Nat) := [(0, (19, [0, 1])), (1, (19, [0, 1])), (2, (19, [0, 1, 7, 8])), (3, (19, [0, 1, 7, 8])), (4, (19, [0, 1, 5, 7, 8])), (5, (19, [5])), (6, (19, [0, 1, 7, 8])), (7, (19, []))]
def c105r0 : List Seg := [
 zo 4 (.mv (.c (.int .i64 0)))]
def c105k0 : ICode := .kill 20 [] (.ops c105r0)
def c105s1 : ICode := (.seq c105k0 .ret)
def c105r2 : List Seg := [
 zo 4 (.mv (.c (.int .i64 1)))]
def c105k2 : ICode := .kill 20 [] (.ops c105r2)
def c105s3 : ICode := (.cond (.t 19) (.seq c105k2 .ret) .skip)
def c105r4 : List Seg := [
 zm 17 0,
 zm 18 1,
 zo 19 (.bin .gtr (.t 17) (.t 18))]
def c105k4 : ICode := .kill 20 [0, 1] (.ops c105r4)
def c105s5 : ICode := (.seq (.seq c105k4 c105s3) c105s1)
def c105r6 : List Seg := [
 zo 4 (.mv (.c (.int .i64 (-1))))]
def c105k6 : ICode := .kill 20 [] (.ops c105r6)
def c105s7 : ICode := (.cond (.t 16) (.seq c105k6 .ret) .skip)
def c105r8 : List Seg := [
 zm 14 0,
 zm 15 1,
 zo 16 (.bin .lss (.t 14) (.t 15))]
def c105k8 : ICode := .kill 20 [0, 1] (.ops c105r8)
def c105s9 : ICode := (.seq (.seq c105k8 c105s7) c105s5)
def c105r10 : List Seg := [
 zo 4 (.mv (.c (.int .i64 1)))]
def c105k10 : ICode := .kill 20 [] (.ops c105r10)
def c105s11 : ICode := (.cond (.t 13) (.seq c105k10 .ret) .skip)
def c105r12 : List Seg := [
 zm 13 6]
def c105k12 : ICode := .kill 20 [0, 1, 6] (.ops c105r12)
def c105s13 : ICode := (.seq (.seq c105k12 c105s11) c105s9)
def c105r14 : List Seg := [
 zo 4 (.mv (.c (.int .i64 (-1))))]
def c105k14 : ICode := .kill 20 [] (.ops c105r14)
def c105s15 : ICode := (.seq c105k14 .ret)
def c105r16 : List Seg := [
 zo 4 (.mv (.c (.int .i64 0)))]
def c105k16 : ICode := .kill 20 [] (.ops c105r16)
def c105s17 : ICode := (.cond (.t 12) (.seq c105k16 .ret) .skip)
def c105r18 : List Seg := [
 zm 12 6]
def c105k18 : ICode := .kill 20 [6] (.ops c105r18)
def c105s19 : ICode := (.cond (.t 11) (.seq (.seq c105k18 c105s17) c105s15) .skip)
def c105r20 : List Seg := [
 zm 11 5]
def c105k20 : ICode := .kill 20 [0, 1, 5, 6] (.ops c105r20)
def c105s21 : ICode := (.seq (.seq c105k20 c105s19) c105s13)
def c105r22 : List Seg := [
 zm 9 1,
 zo 10 (.call [] (.c (.func 107 [])) [(.t 9)]),
 zm 6 10]
def c105k22 : ICode := .kill 20 [0, 1, 5] (.ops c105r22)
def c105s23 : ICode := (.seq c105k22 c105s21)
def c105r24 : List Seg := [
 zm 7 0,
 zo 8 (.call [] (.c (.func 107 [])) [(.t 7)]),
 zm 5 8]
def c105k24 : ICode := .kill 20 [0, 1] (.ops c105r24)
def c105s25 : ICode := (.seq c105k24 c105s23)
def c105r26 : List Seg := [
 zo 4 (.mv (.c (.int .i64 0)))]
def c105k26 : ICode := .kill 20 [0, 1] (.ops c105r26)
def c105b : ICode := (.seq c105k26 c105s25)
def c105 : IFn := ⟨20, [.t 4], c105b⟩
def h105 : List (Nat × Nat × List Nat) := [(0, (20, [0, 1])), (1, (20, [0, 1])), (2, (20, [0, 1, 5])), (3, (20, [0, 1, 5, 6])), (4, (20, [6])), (5, (20, [])), (6, (20, [])), (7, (20, [0, 1, 6])), (8, (20, [])), (9, (20, [0, 1])), (10, (20, [])), (11, (20, [0, 1])), (12, (20, [])), (13, (20, []))]
def c106r0 : List Seg := [
 .grp [(zn 23 0, 0), (zn 24 5, 0), (zp 25 (.bin .quo (.t 23) (.t 24)), 3), (zn 26 1, 0), (zn 27 5, 0), (zp 28 (.bin .quo (.t 26) (.t 27)), 24)],
 zo 29 (.mkagg [.int .i64 0, .int .i64 0] [(0, 1, (.t 25)), (1, 1, (.t 28))]),
 .one ⟨none, .storeN 2 (.t 4) (.t 29), none⟩]
def c106k0 : ICode := .kill 30 [0, 1, 4, 5] (.ops c106r0)
def c106s1 : ICode := (.seq c106k0 .ret)
def c106r2 : List Seg := [
 zm 21 5,
 zo 22 (.un .neg (.t 21)),
 zm 5 22]
def c106k2 : ICode := .kill 30 [0, 1, 4, 5] (.ops c106r2)
def c106s3 : ICode := (.cond (.t 20) c106k2 .skip)
def c106r4 : List Seg := [
 zm 19 1,
 zo 20 (.bin .lss (.t 19) (.c (.int .i64 0)))]
def c106k4 : ICode := .kill 30 [0, 1, 4, 5] (.ops c106r4)
def c106s5 : ICode := (.seq (.seq c106k4 c106s3) c106s1)
def c106r6 : List Seg := [
 zm 17 5,
 zo 18 (.un .neg (.t 17)),
 zm 5 18]
def c106k6 : ICode := .kill 30 [0, 1, 4, 5] (.ops c106r6)
def c106s7 : ICode := (.cond (.t 16) c106k6 .skip)
def c106r8 : List Seg := [
 zm 15 5,
 zo 16 (.bin .lss (.t 15) (.c (.int .i64 0)))]
def c106k8 : ICode := .kill 30 [0, 1, 4, 5] (.ops c106r8)
def c106s9 : ICode := (.seq (.seq c106k8 c106s7) c106s5)
def c106r11 : List Seg := [
 .grp [(zn 11 6, 0), (zn 12 5, 0), (zn 13 6, 0), (zp 14 (.bin .rem (.t 12) (.t 13)), 6), (zn 5 11, 3)],
 zm 6 14]
def c106k11 : ICode := .kill 30 [0, 1, 4, 5, 6] (.ops c106r11)
def c106s12 : ICode := (.block 1 c106k11)
def c106s13 : ICode := (.cond (.t 10) .skip (.exit 0))
def c106r14 : List Seg := [
 zm 9 6,
 zo 10 (.bin .neq (.t 9) (.c (.int .i64 0)))]
def c106k14 : ICode := .kill 30 [0, 1, 4, 5, 6] (.ops c106r14)
def c106l10 : ICode := (.seq (.seq c106k14 c106s13) c106s12)
def c106s15 : ICode := (.seq (.block 0 (.loop c106l10)) c106s9)
def c106r16 : List Seg := [
 zm 7 0,
 zm 8 1,
 zm 5 7,
 zm 6 8]
def c106k16 : ICode := .kill 30 [0, 1, 4] (.ops c106r16)
def c106s17 : ICode := (.seq c106k16 c106s15)
def c106r18 : List Seg := [
 zo 4 (.box (.c (.agg [.int .i64 0, .int .i64 0])))]
def c106k18 : ICode := .kill 30 [0, 1] (.ops c106r18)
def c106b : ICode := (.seq c106k18 c106s17)
def c106 : IFn := ⟨30, [.cellN 4 2], c106b⟩
def h106 : List (Nat × Nat × List Nat) := [(0, (30, [0, 1])), (1, (30, [0, 1, 4])), (2, (30, [0, 1, 4, 5, 6])), (3, (30, [0, 1, 4, 5, 6])), (4, (30, [0, 1, 4, 5])), (5, (30, [0, 1, 4, 5])), (6, (30, [0, 1, 4, 5])), (7, (30, [0, 1, 4, 5])), (8, (30, [0, 1, 4, 5]))]
def c107r0 : List Seg := [
 zm 3 0,
 zm 4 0,
 zo 5 (.bin .neq (.t 3) (.t 4)),
 zm 2 5]
def c107k0 : ICode := .kill 6 [0] (.ops c107r0)
def c107s1 : ICode := (.seq c107k0 .ret)
def c107r2 : List Seg := [
 zo 2 (.mv (.c (.bool false)))]
def c107k2 : ICode := .kill 6 [0] (.ops c107r2)
def c107b : ICode := (.seq c107k2 c107s1)
def c107 : IFn := ⟨6, [.t 2], c107b⟩
def h107 : List (Nat × Nat × List Nat) := [(0, (6, [0])), (1, (6, [0]))]
def c123r0 : List Seg := [
 zo 17 (.loadN 2 (.t 2)),
 zo 18 (.fieldA 1 (.t 3)),
 zo 19 (.load1 (.t 18)),
 zo 20 (.fieldA 0 (.t 3)),
 zo 21 (.load1 (.t 20)),
 zo 22 (.mkagg [.int .i64 0, .int .i64 0] [(0, 1, (.t 19)), (1, 1, (.t 21))]),
 zo 23 (.call [] (.c (.func 99 [])) [(.t 17), (.t 22)]),
 .one ⟨none, .storeN 2 (.t 4) (.t 23), none⟩]
def c123k0 : ICode := .kill 24 [2, 3, 4] (.ops c123r0)
def c123s1 : ICode := (.seq c123k0 .ret)
def c123r2 : List Seg := [
 zo 8 (.loadN 2 (.t 2)),
 zo 9 (.fieldA 1 (.t 3)),
 zo 10 (.load1 (.t 9)),
 zo 11 (.un .neg (.t 10)),
 zo 12 (.fieldA 0 (.t 3)),
 zo 13 (.load1 (.t 12)),
 zo 14 (.un .neg (.t 13)),
 zo 15 (.mkagg [.int .i64 0, .int .i64 0] [(0, 1, (.t 11)), (1, 1, (.t 14))]),
 zo 16 (.call [] (.c (.func 99 [])) [(.t 8), (.t 15)]),
 .one ⟨none, .storeN 2 (.t 4) (.t 16), none⟩]
def c123k2 : ICode := .kill 24 [2, 3, 4] (.ops c123r2)
def c123s3 : ICode := (.cond (.t 7) (.seq c123k2 .ret) .skip)
def c123r4 : List Seg := [
 zo 5 (.fieldA 0 (.t 3)),
 zo 6 (.load1 (.t 5)),
 zo 7 (.bin .lss (.t 6) (.c (.int .i64 0)))]
def c123k4 : ICode := .kill 24 [2, 3, 4] (.ops c123r4)
def c123s5 : ICode := (.seq (.seq c123k4 c123s3) c123s1)
def c123r6 : List Seg := [
 zo 2 (.box (.t 0)),
 zo 3 (.box (.t 1)),
 zo 4 (.box (.c (.agg [.int .i64 0, .int .i64 0])))]
def c123k6 : ICode := .kill 24 [0, 1] (.ops c123r6)
def c123b : ICode := (.seq c123k6 c123s5)
def c123 : IFn := ⟨24, [.cellN 4 2], c123b⟩
def h123 : List (Nat × Nat × List Nat) := [(0, (24, [0, 1])), (1, (24, [2, 3, 4])), (2, (24, [2, 3, 4])), (3, (24, [2, 3, 4]))]
end Go.Abs

set_option maxRecDepth 20000
set_option maxHeartbeats 4000000
namespace Go.Abs
open Go.Proofs
def hintOf (l : List (Nat × Nat × List Nat)) (n : Nat) : Option (Nat × List Nat) := l.lookup n
def tabF : List (Nat × IFn) := [(15, c15), (16, c16), (17, c17), (19, c19), (20, c20), (22, c22), (23, c23), (27, c27), (28, c28), (31, c31), (37, c37), (40, c40), (41, c41), (47, c47), (48, c48), (49, c49), (50, c50), (59, c59), (60, c60), (61, c61), (62, c62), (63, c63), (64, c64), (66, c66), (67, c67), (68, c68), (69, c69), (70, c70), (75, c75), (78, c78), (79, c79), (81, c81), (82, c82), (83, c83), (91, c91), (92, c92), (93, c93), (94, c94), (95, c95), (96, c96), (97, c97), (98, c98), (99, c99), (100, c100), (103, c103), (105, c105), (106, c106), (107, c107), (123, c123)]
def F (n : Nat) : Option IFn := tabF.lookup n
theorem ok15 : cfn Tryd.prog [0] (hintOf h15) Tryd.f15 = some c15 := by kernel_rfl
theorem F15 : F 15 = some c15 := by kernel_rfl
theorem ok16 : cfn Tryd.prog [0] (hintOf h16) Tryd.f16 = some c16 := by kernel_rfl
theorem ok17 : cfn Tryd.prog [0] (hintOf h17) Tryd.f17 = some c17 := by kernel_rfl
theorem F17 : F 17 = some c17 := by kernel_rfl
theorem ok19 : cfn Tryd.prog [0] (hintOf h19) Tryd.f19 = some c19 := by kernel_rfl
theorem ok20 : cfn Tryd.prog [0] (hintOf h20) Tryd.f20 = some c20 := by kernel_rfl
theorem F20 : F 20 = some c20 := by kernel_rfl
theorem ok22 : cfn Tryd.prog [0] (hintOf h22) Tryd.f22 = some c22 := by kernel_rfl
theorem ok23 : cfn Tryd.prog [0] (hintOf h23) Tryd.f23 = some c23 := by kernel_rfl
theorem ok27 : cfn Tryd.prog [0] (hintOf h27) Tryd.f27 = some c27 := by kernel_rfl
theorem F27 : F 27 = some c27 := by kernel_rfl
theorem ok28 : cfn Tryd.prog [0] (hintOf h28) Tryd.f28 = some c28 := by kernel_rfl
theorem ok31 : cfn Tryd.prog [0] (hintOf h31) Tryd.f31 = some c31 := by kernel_rfl
theorem F31 : F 31 = some c31 := by kernel_rfl
theorem ok37 : cfn Tryd.prog [0] (hintOf h37) Tryd.f37 = some c37 := by kernel_rfl
theorem F37 : F 37 = some c37 := by kernel_rfl
theorem ok40 : cfn Tryd.prog [0] (hintOf h40) Tryd.f40 = some c40 := by kernel_rfl
theorem ok41 : cfn Tryd.prog [0] (hintOf h41) Tryd.f41 = some c41 := by kernel_rfl
theorem F41 : F 41 = some c41 := by kernel_rfl
theorem ok47 : cfn Tryd.prog [0] (hintOf h47) Tryd.f47 = some c47 := by kernel_rfl
theorem F47 : F 47 = some c47 := by kernel_rfl
theorem ok48 : cfn Tryd.prog [0] (hintOf h48) Tryd.f48 = some c48 := by kernel_rfl
theorem F48 : F 48 = some c48 := by kernel_rfl
theorem ok49 : cfn Tryd.prog [0] (hintOf h49) Tryd.f49 = some c49 := by kernel_rfl
theorem F49 : F 49 = some c49 := by kernel_rfl
theorem ok50 : cfn Tryd.prog [0] (hintOf h50) Tryd.f50 = some c50 := by kernel_rfl
theorem ok59 : cfn Tryd.prog [0] (hintOf h59) Tryd.f59 = some c59 := by kernel_rfl
theorem F59 : F 59 = some c59 := by kernel_rfl
theorem ok60 : cfn Tryd.prog [0] (hintOf h60) Tryd.f60 = some c60 := by kernel_rfl
theorem F60 : F 60 = some c60 := by kernel_rfl
theorem ok61 : cfn Tryd.prog [0] (hintOf h61) Tryd.f61 = some c61 := by kernel_rfl
theorem F61 : F 61 = some c61 := by kernel_rfl
theorem ok62 : cfn Tryd.prog [0] (hintOf h62) Tryd.f62 = some c62 := by kernel_rfl
theorem ok63 : cfn Tryd.prog [0] (hintOf h63) Tryd.f63 = some c63 := by kernel_rfl
theorem ok64 : cfn Tryd.prog [0] (hintOf h64) Tryd.f64 = some c64 := by kernel_rfl
theorem ok66 : cfn Tryd.prog [0] (hintOf h66) Tryd.f66 = some c66 := by kernel_rfl
theorem F66 : F 66 = some c66 := by kernel_rfl
theorem ok67 : cfn Tryd.prog [0] (hintOf h67) Tryd.f67 = some c67 := by kernel_rfl
theorem F67 : F 67 = some c67 := by kernel_rfl
theorem ok68 : cfn Tryd.prog [0] (hintOf h68) Tryd.f68 = some c68 := by kernel_rfl
theorem ok69 : cfn Tryd.prog [0] (hintOf h69) Tryd.f69 = some c69 := by kernel_rfl
theorem ok70 : cfn Tryd.prog [0] (hintOf h70) Tryd.f70 = some c70 := by kernel_rfl
theorem ok75 : cfn Tryd.prog [0] (hintOf h75) Tryd.f75 = some c75 := by kernel_rfl
theorem F75 : F 75 = some c75 := by kernel_rfl
theorem ok78 : cfn Tryd.prog [0] (hintOf h78) Tryd.f78 = some c78 := by kernel_rfl
theorem F78 : F 78 = some c78 := by kernel_rfl
theorem ok79 : cfn Tryd.prog [0] (hintOf h79) Tryd.f79 = some c79 := by kernel_rfl
theorem F79 : F 79 = some c79 := by kernel_rfl
theorem ok81 : cfn Tryd.prog [0] (hintOf h81) Tryd.f81 = some c81 := by kernel_rfl
theorem F81 : F 81 = some c81 := by kernel_rfl
theorem ok82 : cfn Tryd.prog [0] (hintOf h82) Tryd.f82 = some c82 := by kernel_rfl
theorem F82 : F 82 = some c82 := by kernel_rfl
theorem ok83 : cfn Tryd.prog [0] (hintOf h83) Tryd.f83 = some c83 := by kernel_rfl
theorem F83 : F 83 = some c83 := by kernel_rfl
theorem ok91 : cfn Tryd.prog [0] (hintOf h91) Tryd.f91 = some c91 := by kernel_rfl
theorem F91 : F 91 = some c91 := by kernel_rfl
theorem ok92 : cfn Tryd.prog [0] (hintOf h92) Tryd.f92 = some c92 := by kernel_rfl
theorem F92 : F 92 = some c92 := by kernel_rfl
theorem ok93 : cfn Tryd.prog [0] (hintOf h93) Tryd.f93 = some c93 := by kernel_rfl
theorem ok94 : cfn Tryd.prog [0] (hintOf h94) Tryd.f94 = some c94 := by kernel_rfl
theorem F94 : F 94 = some c94 := by kernel_rfl
theorem ok95 : cfn Tryd.prog [0] (hintOf h95) Tryd.f95 = some c95 := by kernel_rfl
theorem ok96 : cfn Tryd.prog [0] (hintOf h96) Tryd.f96 = some c96 := by kernel_rfl
theorem ok97 : cfn Tryd.prog [0] (hintOf h97) Tryd.f97 = some c97 := by kernel_rfl
theorem ok98 : cfn Tryd.prog [0] (hintOf h98) Tryd.f98 = some c98 := by kernel_rfl
theorem ok99 : cfn Tryd.prog [0] (hintOf h99) Tryd.f99 = some c99 := by kernel_rfl
theorem ok100 : cfn Tryd.prog [0] (hintOf h100) Tryd.f100 = some c100 := by kernel_rfl
theorem ok103 : cfn Tryd.prog [0] (hintOf h103) Tryd.f103 = some c103 := by kernel_rfl
theorem F103 : F 103 = some c103 := by kernel_rfl
theorem ok105 : cfn Tryd.prog [0] (hintOf h105) Tryd.f105 = some c105 := by kernel_rfl
theorem F105 : F 105 = some c105 := by kernel_rfl
theorem ok106 : cfn Tryd.prog [0] (hintOf h106) Tryd.f106 = some c106 := by kernel_rfl
theorem ok107 : cfn Tryd.prog [0] (hintOf h107) Tryd.f107 = some c107 := by kernel_rfl
theorem F107 : F 107 = some c107 := by kernel_rfl
theorem ok123 : cfn Tryd.prog [0] (hintOf h123) Tryd.f123 = some c123 := by kernel_rfl
def OKp (p : Nat × IFn) : Prop := ∃ func hint, Tryd.prog.funcs[p.1]? = some func ∧ cfn Tryd.prog [0] hint func = some p.2 ∧ (func.name == "runtime.NumGoroutine") = false
theorem okp15 : OKp (15, c15) := ⟨_, _, Tryd.func15, ok15, by kernel_rfl⟩
theorem okp16 : OKp (16, c16) := ⟨_, _, Tryd.func16, ok16, by kernel_rfl⟩
theorem okp17 : OKp (17, c17) := ⟨_, _, Tryd.func17, ok17, by kernel_rfl⟩
theorem okp19 : OKp (19, c19) := ⟨_, _, Tryd.func19, ok19, by kernel_rfl⟩
theorem okp20 : OKp (20, c20) := ⟨_, _, Tryd.func20, ok20, by kernel_rfl⟩
theorem okp22 : OKp (22, c22) := ⟨_, _, Tryd.func22, ok22, by kernel_rfl⟩
theorem okp23 : OKp (23, c23) := ⟨_, _, Tryd.func23, ok23, by kernel_rfl⟩
theorem okp27 : OKp (27, c27) := ⟨_, _, Tryd.func27, ok27, by kernel_rfl⟩
theorem okp28 : OKp (28, c28) := ⟨_, _, Tryd.func28, ok28, by kernel_rfl⟩
theorem okp31 : OKp (31, c31) := ⟨_, _, Tryd.func31, ok31, by kernel_rfl⟩
theorem okp37 : OKp (37, c37) := ⟨_, _, Tryd.func37, ok37, by kernel_rfl⟩
theorem okp40 : OKp (40, c40) := ⟨_, _, Tryd.func40, ok40, by kernel_rfl⟩
theorem okp41 : OKp (41, c41) := ⟨_, _, Tryd.func41, ok41, by kernel_rfl⟩
theorem okp47 : OKp (47, c47) := ⟨_, _, Tryd.func47, ok47, by kernel_rfl⟩
theorem okp48 : OKp (48, c48) := ⟨_, _, Tryd.func48, ok48, by kernel_rfl⟩
theorem okp49 : OKp (49, c49) := ⟨_, _, Tryd.func49, ok49, by kernel_rfl⟩
theorem okp50 : OKp (50, c50) := ⟨_, _, Tryd.func50, ok50, by kernel_rfl⟩
theorem okp59 : OKp (59, c59) := ⟨_, _, Tryd.func59, ok59, by kernel_rfl⟩
theorem okp60 : OKp (60, c60) := ⟨_, _, Tryd.func60, ok60, by kernel_rfl⟩
theorem okp61 : OKp (61, c61) := ⟨_, _, Tryd.func61, ok61, by kernel_rfl⟩
theorem okp62 : OKp (62, c62) := ⟨_, _, Tryd.func62, ok62, by kernel_rfl⟩
theorem okp63 : OKp (63, c63) := ⟨_, _, Tryd.func63, ok63, by kernel_rfl⟩
theorem okp64 : OKp (64, c64) := ⟨_, _, Tryd.func64, ok64, by kernel_rfl⟩
theorem okp66 : OKp (66, c66) := ⟨_, _, Tryd.func66, ok66, by kernel_rfl⟩
theorem okp67 : OKp (67, c67) := ⟨_, _, Tryd.func67, ok67, by kernel_rfl⟩
theorem okp68 : OKp (68, c68) := ⟨_, _, Tryd.func68, ok68, by kernel_rfl⟩
theorem okp69 : OKp (69, c69) := ⟨_, _, Tryd.func69, ok69, by kernel_rfl⟩
theorem okp70 : OKp (70, c70) := ⟨_, _, Tryd.func70, ok70, by kernel_rfl⟩
theorem okp75 : OKp (75, c75) := ⟨_, _, Tryd.func75, ok75, by kernel_rfl⟩
theorem okp78 : OKp (78, c78) := ⟨_, _, Tryd.func78, ok78, by kernel_rfl⟩
theorem okp79 : OKp (79, c79) := ⟨_, _, Tryd.func79, ok79, by kernel_rfl⟩
theorem okp81 : OKp (81, c81) := ⟨_, _, Tryd.func81, ok81, by kernel_rfl⟩
theorem okp82 : OKp (82, c82) := ⟨_, _, Tryd.func82, ok82, by kernel_rfl⟩
theorem okp83 : OKp (83, c83) := ⟨_, _, Tryd.func83, ok83, by kernel_rfl⟩
theorem okp91 : OKp (91, c91) := ⟨_, _, Tryd.func91, ok91, by kernel_rfl⟩
theorem okp92 : OKp (92, c92) := ⟨_, _, Tryd.func92, ok92, by kernel_rfl⟩
theorem okp93 : OKp (93, c93) := ⟨_, _, Tryd.func93, ok93, by kernel_rfl⟩
theorem okp94 : OKp (94, c94) := ⟨_, _, Tryd.func94, ok94, by kernel_rfl⟩
theorem okp95 : OKp (95, c95) := ⟨_, _, Tryd.func95, ok95, by kernel_rfl⟩
theorem okp96 : OKp (96, c96) := ⟨_, _, Tryd.func96, ok96, by kernel_rfl⟩
theorem okp97 : OKp (97, c97) := ⟨_, _, Tryd.func97, ok97, by kernel_rfl⟩
theorem okp98 : OKp (98, c98) := ⟨_, _, Tryd.func98, ok98, by kernel_rfl⟩
theorem okp99 : OKp (99, c99) := ⟨_, _, Tryd.func99, ok99, by kernel_rfl⟩
theorem okp100 : OKp (100, c100) := ⟨_, _, Tryd.func100, ok100, by kernel_rfl⟩
theorem okp103 : OKp (103, c103) := ⟨_, _, Tryd.func103, ok103, by kernel_rfl⟩
theorem okp105 : OKp (105, c105) := ⟨_, _, Tryd.func105, ok105, by kernel_rfl⟩
theorem okp106 : OKp (106, c106) := ⟨_, _, Tryd.func106, ok106, by kernel_rfl⟩
theorem okp107 : OKp (107, c107) := ⟨_, _, Tryd.func107, ok107, by kernel_rfl⟩
theorem okp123 : OKp (123, c123) := ⟨_, _, Tryd.func123, ok123, by kernel_rfl⟩
theorem okAll : ∀ p ∈ tabF, OKp p := by
 unfold tabF
 exact List.forall_mem_cons.2 ⟨okp15, List.forall_mem_cons.2 ⟨okp16, List.forall_mem_cons.2 ⟨okp17, List.forall_mem_cons.2 ⟨okp19, List.forall_mem_cons.2 ⟨okp20, List.forall_mem_cons.2 ⟨okp22, List.forall_mem_cons.2 ⟨okp23, List.forall_mem_cons.2 ⟨okp27, List.forall_mem_cons.2 ⟨okp28, List.forall_mem_cons.2 ⟨okp31, List.forall_mem_cons.2 ⟨okp37, List.forall_mem_cons.2 ⟨okp40, List.forall_mem_cons.2 ⟨okp41, List.forall_mem_cons.2 ⟨okp47, List.forall_mem_cons.2 ⟨okp48, List.forall_mem_cons.2 ⟨okp49, List.forall_mem_cons.2 ⟨okp50, List.forall_mem_cons.2 ⟨okp59, List.forall_mem_cons.2 ⟨okp60, List.forall_mem_cons.2 ⟨okp61, List.forall_mem_cons.2 ⟨okp62, List.forall_mem_cons.2 ⟨okp63, List.forall_mem_cons.2 ⟨okp64, List.forall_mem_cons.2 ⟨okp66, List.forall_mem_cons.2 ⟨okp67, List.forall_mem_cons.2 ⟨okp68, List.forall_mem_cons.2 ⟨okp69, List.forall_mem_cons.2 ⟨okp70, List.forall_mem_cons.2 ⟨okp75, List.forall_mem_cons.2 ⟨okp78, List.forall_mem_cons.2 ⟨okp79, List.forall_mem_cons.2 ⟨okp81, List.forall_mem_cons.2 ⟨okp82, List.forall_mem_cons.2 ⟨okp83, List.forall_mem_cons.2 ⟨okp91, List.forall_mem_cons.2 ⟨okp92, List.forall_mem_cons.2 ⟨okp93, List.forall_mem_cons.2 ⟨okp94, List.forall_mem_cons.2 ⟨okp95, List.forall_mem_cons.2 ⟨okp96, List.forall_mem_cons.2 ⟨okp97, List.forall_mem_cons.2 ⟨okp98, List.forall_mem_cons.2 ⟨okp99, List.forall_mem_cons.2 ⟨okp100, List.forall_mem_cons.2 ⟨okp103, List.forall_mem_cons.2 ⟨okp105, List.forall_mem_cons.2 ⟨okp106, List.forall_mem_cons.2 ⟨okp107, List.forall_mem_cons.2 ⟨okp123, (fun _ h => nomatch h)⟩⟩⟩⟩⟩⟩⟩⟩⟩⟩⟩⟩⟩⟩⟩⟩⟩⟩⟩⟩⟩⟩⟩⟩⟩⟩⟩⟩⟩⟩⟩⟩⟩⟩⟩⟩⟩⟩⟩⟩⟩⟩⟩⟩⟩⟩⟩⟩⟩
end Go.Abs

set_option linter.unusedSimpArgs false
namespace Go.Abs
open Go.Proofs Go.RowKit
theorem lookup_mem {α : Type} {n : Nat} {c : α} : ∀ {l : List (Nat × α)}, l.lookup n = some c → (n, c) ∈ l
 | [], h => by simp at h
 |
  (m, d) :: l, h => by
  rw [List.lookup_cons] at h
  split at h
  ·rename_i e
   injection h with h
   subst h
   rw [beq_iff_eq] at e
   subst e
   exact List.mem_cons_self
  ·exact List.mem_cons_of_mem _ (lookup_mem h)
theorem fnOK_F : FnOK Tryd.prog [0] F := fun f fn h => okAll (f, fn) (lookup_mem h)
theorem fnOK_more {i : Nat} {c : IFn} (h : OKp (i, c)) : FnOK Tryd.prog [0] (more F i c) := by
 intro f fn e
 unfold more at e
 by_cases e2 : f = i
 ·rw [if_pos e2] at e
  have e3 := Option.some.inj e
  rw [← e3, e2]
  exact h
 ·rw [if_neg e2] at e
  exact fnOK_F f fn e

theorem calls_below {G : Nat → Option IFn} (hG : FnOK Tryd.prog [0] G) {f : Nat} {vs : List AV} {rows : List Row} (h : Ret G f vs rows = some (.bool true, rows, none)) {θ : Th} {w : World} {args : Array Value} (hr : HRel (KP Tryd.prog [0]) θ rows w) (hg : GRel θ [0]) (hv : VL θ vs args.toList) :
  Calls Tryd.prog f args w fun e w' => e = .returned (.bool true) ∧ Below w.heap.size w w' := by
 obtain ⟨n, hn⟩ := Ret_iff.1 h
 refine (call_sound hG (n := n) hn hr hg hv).mono ?_
 rintro e w' ⟨θ', v', rfl, hV, fr⟩
 cases hV
 refine ⟨rfl, fr.os, fr.tape, fr.output, fr.size, fun b hb => ?_⟩
 refine fr.keepB b hb fun id r L hr _ hle _ => ?_
 have := rows_lt hr
 simp only [lowO] at hle
 omega
end Go.Abs

set_option maxRecDepth 10000
namespace Go.Abs
open Go.Proofs Go.RowKit Go.ChangeShapes Go.WideShapes Go.ChangeAt Go.WideElems
open Go.Proofs.YtichbmhjgbjiiaaDoor (Rows.laid_tosher_slope_none)
def laidL : List (String × DataW Unit) := [("tosher/slope.none", Rows.laid_tosher_slope_none)]
def gRows : List Row := [.ro (nums .i64 [0, 1])]
theorem g0 : Tryd.prog.globalNamed "tosher/slope.none" = some 0 := by kernel_rfl
theorem ty0 : (Tryd.prog.globals[0]?).map (·.type) = some 86 := by kernel_rfl
theorem frac_cells {P : Program} {W : World} {H : Type} {enc : TypeId × Value → H} {base : Nat} {spare held : _} {fuel t : Nat} {fs : Array Field} {a b : Field} {cs : List Value} {x y : Int} {q : _} (ht : P.underlying t = some (.struct fs)) (hf0 : fs[0]? = some a) (hf1 : fs[1]? = some b) (ha : P.underlying a.type = some (.int .i64)) (hb : P.underlying b.type = some (.int .i64)) (hca : P.cellsOf a.type = 1) (hcb : P.cellsOf b.type = 1) (hoa : a.offset = 0) (hob : b.offset = 1)
  (h : DataW.trod enc P W base spare held fuel t cs = some (.agg [.lit (.int .i64 x), .lit (.int .i64 y)], q)) : cs[0]? = some (.int .i64 x) ∧ cs[1]? = some (.int .i64 y) := by
 obtain ⟨xs, m, rfl, hx1, hlen, hn, hel⟩ := DataW.trod_struct ht h
 have h0 := hel 0 a hf0
 have h1 := hel 1 b hf1
 rw [hca, hoa] at h0
 rw [hcb, hob] at h1
 simp only [Prod.mk.injEq, DataW.agg.injEq] at hx1
 have e : xs.map (·.1) = [.lit (.int .i64 x), .lit (.int .i64 y)] := hx1.1.symm
 have e0 : (xs.map (·.1))[0]? = some (.lit (.int .i64 x)) := by rw [e]; rfl
 have e1 : (xs.map (·.1))[1]? = some (.lit (.int .i64 y)) := by rw [e]; rfl
 rw [List.getElem?_map] at e0 e1
 obtain ⟨u, hu, hu2⟩ := Option.map_eq_some_iff.1 e0
 obtain ⟨v, hv, hv2⟩ := Option.map_eq_some_iff.1 e1
 rw [hu] at h0
 rw [hv] at h1
 obtain ⟨k0, c0, d0, _⟩ := DataW.trod_int ha h0
 obtain ⟨k1, c1, d1, _⟩ := DataW.trod_int hb h1
 rw [d0] at hu2
 rw [d1] at hv2
 simp only [DataW.lit.injEq, Lit.int.injEq, true_and] at hu2 hv2
 subst hu2 hv2
 cases cs with
 | nil => simp at c0
 |
  cons z cs =>
  cases cs with
  | nil => simp at c1
  |
   cons w cs =>
   simp at c0 c1
   subst c0 c1
   exact ⟨rfl, rfl⟩
theorem of_laid {W : World} (h : laidMetH Tryd.prog laidL W) : W.cell? ⟨0, 0, none⟩ = some (.int .i64 0) ∧ W.cell? ⟨0, 1, none⟩ = some (.int .i64 1) ∧ 0 < W.heap.size := by
 rw [MakeChecks.laidMetH_plain _ _ _ (by kernel_rfl)] at h
 obtain ⟨ps, ⟨b0, u0, cs0, f0, p0, q0, hg0, ht0, hv0, hd0, _, _⟩, _, _⟩ := h
 obtain rfl := Option.some.inj (g0.symm.trans hg0)
 obtain rfl := Option.some.inj (ty0.symm.trans ht0)
 obtain ⟨k0, k1⟩ := frac_cells Tryd.underlying86 rfl rfl Tryd.underlying2 Tryd.underlying2 (by kernel_rfl) (by kernel_rfl) rfl rfl hd0
 have h0 : W.cell? ⟨0, 0, none⟩ = some (.int .i64 0) := by
  rw [World.var?_cell hg0 hv0 0]
  simpa using k0
 refine ⟨h0, ?_, ?_⟩
 ·rw [World.var?_cell hg0 hv0 1]
  simpa using k1
 ·unfold World.cell? at h0
  by_cases h : 0 < W.heap.size
  ·exact h
  ·rw [show W.heap[0]? = none from Array.getElem?_eq_none (by omega)] at h0
   simp at h0
def gTh : Th := fun id => if id = 0 then some ⟨0, 0, 0⟩ else none
theorem gHRel {κ : KRel} {W : World} (h : laidMetH Tryd.prog laidL W) : HRel κ gTh gRows W := by
 obtain ⟨h0, h1, hs⟩ := of_laid h
 refine ⟨?_, ?_, ?_, ?_⟩
 ·intro id L e
  unfold gTh at e
  simp only [gRows, List.length_cons, List.length_nil]
  split at e
  ·omega
  ·simp at e
 ·intro id L e
  unfold gTh at e
  split at e
  ·injection e with e; subst e; exact hs
  ·simp at e
 ·intro id r e
  match id, e with
  |
   0, e =>
   injection e with e; subst e
   refine ⟨⟨0, 0, 0⟩, rfl, fun j x hx => ?_⟩
   match j, hx with
   | 0, hx => injection hx with hx; subst hx; exact ⟨_, h0, .int _ _, rfl⟩
   | 1, hx => injection hx with hx; subst hx; exact ⟨_, h1, .int _ _, rfl⟩
   | j + 2, hx => simp [nums] at hx
  | n + 1, e => simp [gRows] at e
 ·intro i j r s L L' hij hr ho
  match i, hr with
  | 0, hr => injection hr with hr; subst hr; simp [Row.owned] at ho
  | n + 1, hr => simp [gRows] at hr
theorem door_met (os : Os) (args : Array Value) : laidMetH Tryd.prog laidL ((World.doorLaid Tryd.prog 400 os).forCall (fun _ _ => 0) ⟨#[], args, []⟩).memory :=
 laidMetH_of_parts3 (fuel := 8) (laidMet_of_run' 8 (by kernel_rfl) (by kernel_rfl)) (by kernel_rfl) (by kernel_rfl)
end Go.Abs

namespace Go.Abs
section
variable {β : Type}
def frcC (c : Cap) (k : Cap → β) : β := match c with
 | .at_ n => forceN n fun n => k (.at_ n)
 | .op n => forceN n fun n => k (.op n)
def frcV (v : AV) (k : AV → β) : β := match v with
 | .bool b => forceB b fun b => k (.bool b)
 | .int kd n => forceI n fun n => k (.int kd n)
 | .ptr i o => forceN i fun i => forceN o fun o => k (.ptr i o)
 | .slice i o l c => forceN i fun i => forceN o fun o => forceN l fun l => frcC c fun c => k (.slice i o l c)
 | .map i => forceN i fun i => k (.map i)
 | .yield i => forceN i fun i => k (.yield i)
 | v => k v
def frcL (l : List AV) (k : List AV → β) : β := match l with
 | [] => k []
 | v :: l => frcV v fun v => frcL l fun l => k (v :: l)
def frcW (v : AV) (k : AV → β) : β := match v with
 | .agg l => frcL l fun l => k (.agg l)
 | .tup l => frcL l fun l => k (.tup l)
 | .func f l => frcL l fun l => k (.func f l)
 |
  .iface t v => frcV v fun v => match v with
  | .agg l => frcL l fun l => k (.iface t (.agg l))
  | v => k (.iface t v)
 | v => frcV v k
def frcWs (l : List AV) (k : List AV → β) : β := match l with
 | [] => k []
 | v :: l => frcW v fun v => frcWs l fun l => k (v :: l)
def frcE (l : List (AV × AV)) (k : List (AV × AV) → β) : β := match l with
 | [] => k []
 |
  p :: l => match p with
  | (a, b) => frcV a fun a => frcW b fun b => frcE l fun l => k ((a, b) :: l)
def frcR (r : Row) (k : Row → β) : β := match r with
 | .cells vs => frcL vs fun vs => k (.cells vs)
 | .mp es => frcE es fun es => k (.mp es)
 | .loop st pd sl ps a b => frcWs sl fun sl => k (.loop st pd sl ps a b)
 | r => k r
theorem frcC_eq (c : Cap) (k : Cap → β) : frcC c k = k c := by cases c <;> simp [frcC, forceN_eq]
theorem frcV_eq (v : AV) (k : AV → β) : frcV v k = k v := by cases v <;> simp [frcV, forceN_eq, forceI_eq, forceB_eq, frcC_eq]
theorem frcL_eq : ∀ (l : List AV) (k : List AV → β), frcL l k = k l
 | [], k => rfl
 | v :: l, k => by simp [frcL, frcV_eq, frcL_eq l]
theorem frcW_eq (v : AV) (k : AV → β) : frcW v k = k v := by
 cases v <;> simp [frcW, frcL_eq, frcV_eq]
 rename_i t v
 cases v <;> simp [frcL_eq]
theorem frcWs_eq : ∀ (l : List AV) (k : List AV → β), frcWs l k = k l
 | [], k => rfl
 | v :: l, k => by simp [frcWs, frcW_eq, frcWs_eq l]
theorem frcE_eq : ∀ (l : List (AV × AV)) (k : List (AV × AV) → β), frcE l k = k l
 | [], k => rfl
 | (a, b) :: l, k => by simp [frcE, frcV_eq, frcW_eq, frcE_eq l]
theorem frcR_eq (r : Row) (k : Row → β) : frcR r k = k r := by cases r <;> simp [frcR, frcL_eq, frcE_eq, frcWs_eq]
def setK (rows : List Row) (i : Nat) (r : Row) (k : List Row → β) : β := match rows with
 | [] => k []
 |
  x :: xs => match i with
  | 0 => k (r :: xs)
  | i + 1 => setK xs i r fun ys => k (x :: ys)
def pushK (rows : List Row) (r : Row) (k : List Row → β) : β := match rows with
 | [] => k [r]
 | x :: xs => pushK xs r fun ys => k (x :: ys)
def spK (rows : List Row) (k : List Row → β) : β := match rows with
 | [] => k []
 | x :: xs => spK xs fun ys => k (x :: ys)
theorem setK_eq : ∀ (rows : List Row) (i : Nat) (r : Row) (k : List Row → β), setK rows i r k = k (rows.set i r)
 | [], _, _, _ => by simp [setK]
 | x :: xs, 0, r, k => by simp [setK]
 | x :: xs, i + 1, r, k => by simp [setK, setK_eq xs i r]
theorem pushK_eq : ∀ (rows : List Row) (r : Row) (k : List Row → β), pushK rows r k = k (rows ++ [r])
 | [], _, _ => by simp [pushK]
 | x :: xs, r, k => by simp [pushK, pushK_eq xs r]
theorem spK_eq : ∀ (rows : List Row) (k : List Row → β), spK rows k = k rows
 | [], _ => by simp [spK]
 | x :: xs, k => by simp [spK, spK_eq xs]
end

inductive Dl where
 | keep
 | set (id : Nat) (r : Row)
 | push (r : Row)
 | kp (id : Nat) (r : Row)
def Dl.app (rows : List Row) : Dl → List Row
 | .keep => rows
 | .set id r => rows.set id r
 | .push r => rows ++ [r]
 | .kp id r => rows.set id .dead ++ [r]
def Dl.run {β : Type} (rows : List Row) (d : Dl) (k : List Row → β) : β := match d with
 | .keep => k rows
 | .set id r => forceN id fun id => frcR r fun r => setK rows id r k
 | .push r => frcR r fun r => pushK rows r k
 | .kp id r => forceN id fun id => frcR r fun r => setK rows id .dead fun rows => pushK rows r k
theorem Dl.run_eq {β : Type} (rows : List Row) (d : Dl) (k : List Row → β) : d.run rows k = k (d.app rows) := by
 cases d <;> simp [Dl.run, Dl.app, forceN_eq, frcR_eq, setK_eq, pushK_eq]

def evalD (g : Opd → AV) (rows : List Row) (low : Nat) : IOp → Option (AV × Dl × Nat)
 | .box x => if (g x).cells.all AV.one then some (.ptr rows.length 0, .push (.cells (g x).cells), low) else none
 |
  .store1 a x => match g a with
  |
   .ptr id off => match rows[id]? with
   | some (.cells vs) => if off < vs.length ∧ (g x).one then some (.tup [], .set id (.cells (vs.set off (g x))), lower low id) else none
   | _ => none
  | _ => none
 |
  .storeN n a x => match g a, g x with
  |
   .ptr id off, .agg l => match rows[id]? with
   | some (.cells vs) => if l.length = n ∧ off + n ≤ vs.length ∧ l.all AV.one then some (.tup [], .set id (.cells (splice vs off l)), lower low id) else none
   | _ => none
  | _, _ => none
 |
  .mkslice len zero ps => match fillA g ps zero with
  | some cs => some (.slice rows.length 0 len (.at_ len), .push (.cells cs), low)
  | none => none
 |
  .make zero _ len cap => match g len, g cap with
  | .int _ l, .int _ c => if 0 ≤ l ∧ l ≤ c ∧ c ≤ lim then
    some (.slice rows.length 0 l.toNat (.at_ c.toNat), .push (.cells ((List.replicate c.toNat zero).flatten)), low) else none
  | _, _ => none
 |
  .appz zero s x => match g s, g x with
  | .nilslice, .int _ n => if 0 < n ∧ n ≤ lim then some (.slice rows.length 0 n.toNat (.op 1), .push (.cells ((List.replicate n.toNat zero).flatten)), low) else none
  | _, _ => none
 | .mkmap => some (.map rows.length, .push (.mp []), low)
 |
  .mset m k v => match g m with
  |
   .map id => match rows[id]? with
   |
    some (.mp es) => match findK (g k) es 0 with
    | some (some (i, _)) => some (.tup [], .set id (.mp (es.set i (g k, g v))), lower low id)
    | some none => if (keyEq (g k) (g k)).isSome then some (.tup [], .set id (.mp (es ++ [(g k, g v)])), lower low id) else none
    | none => none
   | _ => none
  | _ => none
 |
  .app sz _ s x => match elems rows sz (g x) with
  | none => none
  |
   some (ys, m) =>
   if m = 0 then (match g s with
    | .nilslice => some (.nilslice, .keep, low)
    | .slice id off n c => some (.slice id off n c, .keep, low)
    | _ => none)
   else if lim < m then none
   else match g s with
    | .nilslice => some (.slice rows.length 0 m (.op sz), .push (.cells ys), low)
    |
     .slice id off n (.at_ c) =>
     if lim < n + m then none
     else if n + m ≤ c then match rows[id]? with
      | some (.cells vs) => if off + n * sz + ys.length ≤ vs.length then some (.slice id off (n + m) (.at_ c), .set id (.cells (splice vs (off + n * sz) ys)), lower low id) else none
      | _ => none
     else match row? rows id with
      |
       some vs => match seg vs off (n * sz) with
       | some xs => some (.slice rows.length 0 (n + m) (.op sz), .push (.cells (xs ++ ys)), low)
       | none => none
      | none => none
    |
     .slice id off n (.op sz') =>
     if lim < n + m ∨ sz' ≠ sz then none
     else match rows[id]? with
      |
       some (.cells vs) => match seg vs off (n * sz) with
       | some xs => some (.slice rows.length 0 (n + m) (.op sz), .kp id (.cells (xs ++ ys)), lower low id)
       | none => none
      | _ => none
    | _ => none
 | o => (evalP rows g o).map fun v => (v, .keep, low)

theorem evalD_ok (g : Opd → AV) (rows : List Row) (low : Nat) (o : IOp) {v : AV} {d : Dl} {lw : Nat} (h : evalD g rows low o = some (v, d, lw)) : evalE g rows low o = some (v, d.app rows, lw) := by
 cases o <;> simp only [evalD, evalE] at h ⊢
 case app =>
  split at h
  ·simp at h
  ·rename_i e
   rw [e]
   simp only
   split at h
   ·rename_i hm
    rw [if_pos hm]
    split at h <;> first | (simp at h; done) | (injection h with h; simp only [Prod.mk.injEq] at h; obtain ⟨rfl, rfl, rfl⟩ := h; simp_all [Dl.app])
   ·rename_i hm
    rw [if_neg hm]
    split at h
    ·simp at h
    ·rename_i hl
     rw [if_neg hl]
     split at h
     ·rename_i e2
      injection h with h; simp only [Prod.mk.injEq] at h; obtain ⟨rfl, rfl, rfl⟩ := h; simp [e2, Dl.app]
     ·rename_i e2
      rw [e2]
      simp only
      split at h
      ·simp at h
      rename_i h1
      rw [if_neg h1]
      split at h
      ·rename_i h2
       rw [if_pos h2]
       split at h <;> try (simp at h; done)
       rename_i e3
       split at h
       ·rename_i h3
        injection h with h; simp only [Prod.mk.injEq] at h; obtain ⟨rfl, rfl, rfl⟩ := h; simp only [e3, if_pos h3, Dl.app]
       ·simp at h
      ·rename_i h2
       rw [if_neg h2]
       split at h <;> try (simp at h; done)
       rename_i e3
       rw [e3]
       simp only
       split at h <;> try (simp at h; done)
       rename_i e4
       rw [e4]
       injection h with h; simp only [Prod.mk.injEq] at h; obtain ⟨rfl, rfl, rfl⟩ := h; rfl
     ·rename_i e2
      rw [e2]
      simp only
      split at h
      ·simp at h
      rename_i h1
      rw [if_neg h1]
      split at h <;> try (simp at h; done)
      rename_i e3
      rw [e3]
      simp only
      split at h <;> try (simp at h; done)
      rename_i e4
      rw [e4]
      injection h with h; simp only [Prod.mk.injEq] at h; obtain ⟨rfl, rfl, rfl⟩ := h; rfl
     ·simp at h
 all_goals first
  | (
    repeat' split at h
    all_goals first
     | (simp at h; done)
     | (injection h with h; simp only [Prod.mk.injEq] at h; obtain ⟨rfl, rfl, rfl⟩ := h; simp_all [Dl.app]; done))
  | (injection h with h; simp only [Prod.mk.injEq] at h; obtain ⟨rfl, rfl, rfl⟩ := h; simp_all [Dl.app]; done)
  | (
    simp only [Option.map_eq_some_iff, Prod.mk.injEq] at h ⊢
    obtain ⟨v0, e, rfl, rfl, rfl⟩ := h
    exact ⟨_, e, rfl, rfl, rfl⟩)

def wantG (g : Opd → AV) : Option (Nat × Bool) → Option Bool
 | none => some true
 |
  some (t, b) => match g (.t t) with
  | .bool c => some (c == b)
  | .tup [] => some false
  | _ => none
theorem wantG_ok (sl : List AV) (gd : Option (Nat × Bool)) : want sl gd = wantG (getO sl) gd := by
 cases gd <;> rfl
def opD (call : CallF) (g : Opd → AV) (rows : List Row) (low : Nat) (o : IOpx) : Option (AV × List Row × Nat) :=
 match wantG g o.g with
 | none => none
 | some false => some (.tup [], rows, low)
 |
  some true =>
  match o.op with
  |
   .call tab f args => match targetC tab (g f) (args.map g) with
   |
    some (fid, vs) => match frcWs vs fun vs => call fid vs rows with
    | some (v, rows', d) => some (v, rows', lowO low d)
    | none => none
   | none => none
  |
   op => match evalD g rows low op with
   | some (v, d, lw) => d.run rows fun rows => some (v, rows, lw)
   | none => none
theorem opD_ok {call call' : CallF} (hc : LeC call call') {sl : List AV} {rows : List Row} {low : Nat} {o : IOpx} {q : AV × List Row × Nat} (h : opD call (getO sl) rows low o = some q) : opR call' sl rows low o = some q := by
 unfold opD at h
 unfold opR
 rw [wantG_ok]
 split at h
 ·simp at h
 ·rename_i hw; rw [hw]; exact h
 ·rename_i hw
  rw [hw]
  simp only
  split at h
  ·rename_i tab f args e
   rw [e]
   simp only
   split at h
   ·rename_i fid vs ht
    rw [ht]
    simp only
    split at h
    ·rename_i v rows' d hcall
     rw [frcWs_eq] at hcall
     rw [hc _ _ _ _ hcall]
     exact h
    ·simp at h
   ·simp at h
  ·rename_i op hne
   split at h
   ·rename_i v d lw he
    rw [Dl.run_eq] at h
    injection h with h
    subst h
    have := evalD_ok _ _ _ _ he
    split
    ·rename_i e; exact absurd e (hne _ _ _)
    ·exact this
   ·simp at h

def frcX {β : Type} (l : List (Nat × Row)) (k : List (Nat × Row) → β) : β := match l with
 | [] => k []
 |
  p :: l => match p with
  | (a, b) => forceN a fun a => frcR b fun b => frcX l fun l => k ((a, b) :: l)
theorem frcX_eq {β : Type} : ∀ (l : List (Nat × Row)) (k : List (Nat × Row) → β), frcX l k = k l
 | [], k => rfl
 | (a, b) :: l, k => by simp [frcX, forceN_eq, frcR_eq, frcX_eq l]
def baseX (rows : List Row) (b : Nat) (ext : List (Nat × Row)) : List Row := match ext with
 | [] => rows
 | _ => rows ++ maskE b ext
theorem baseX_eq (rows : List Row) (b : Nat) (ext : List (Nat × Row)) : baseX rows b ext = rows ++ maskE b ext := by
 cases ext with
 | nil => simp [baseX, maskE]
 | cons => rfl
def iniK {β : Type} (vs : List AV) (i : Nat) (k : List (Nat × AV) → β) : β := match vs with
 | [] => k []
 | v :: vs => forceN i fun i => iniK vs (i + 1) fun l => k ((i, v) :: l)
def ini : Nat → List AV → List (Nat × AV)
 | _, [] => []
 | i, v :: vs => (i, v) :: ini (i + 1) vs
theorem iniK_eq {β : Type} : ∀ (vs : List AV) (i : Nat) (k : List (Nat × AV) → β), iniK vs i k = k (ini i vs)
 | [], i, k => rfl
 | v :: vs, i, k => by simp [iniK, forceN_eq, iniK_eq vs, ini]
theorem lk_ini : ∀ (vs : List AV) (i j : Nat), lk (ini i vs) j = if i ≤ j then (vs[j - i]?).getD .any else .any
 | [], i, j => by simp [ini]
 |
  v :: vs, i, j => by
  rw [ini, lk_cons, lk_ini vs]
  rcases Nat.lt_trichotomy i j with h | h | h
  ·rw [if_neg (by omega), if_pos (by omega), if_pos (by omega), show j - i = (j - (i + 1)) + 1 from by omega]
   rfl
  ·subst h; simp
  ·rw [if_neg (by omega), if_neg (by omega), if_neg (by omega)]
theorem mk_ini {n : Nat} {vs : List AV} (h : vs.length ≤ n) : mk n (ini 0 vs) = vs ++ List.replicate (n - vs.length) .any := by
 apply List.ext_getElem?
 intro j
 rw [mk_get, lk_ini, if_pos (Nat.zero_le _), Nat.sub_zero]
 by_cases hj : j < vs.length
 ·rw [List.getElem?_append_left hj, if_pos (by omega), List.getElem?_eq_getElem hj]; rfl
 ·rw [List.getElem?_append_right (by omega), List.getElem?_eq_none (l := vs) (by omega), List.getElem?_replicate]
  by_cases hn : j < n
  ·rw [if_pos hn, if_pos (by omega)]; rfl
  ·rw [if_neg hn, if_neg (by omega)]
def AV.isAny : AV → Bool
 | .any => true
 | _ => false
def ofL : Nat → List AV → List (Nat × AV)
 | _, [] => []
 | i, v :: vs => if v.isAny then ofL (i + 1) vs else (i, v) :: ofL (i + 1) vs
def ofK {β : Type} (vs : List AV) (i : Nat) (k : List (Nat × AV) → β) : β := match vs with
 | [] => k []
 |
  v :: vs => forceN i fun i => match v.isAny with
  | true => ofK vs (i + 1) k
  | false => ofK vs (i + 1) fun l => k ((i, v) :: l)
theorem ofK_eq {β : Type} : ∀ (vs : List AV) (i : Nat) (k : List (Nat × AV) → β), ofK vs i k = k (ofL i vs)
 | [], i, k => rfl
 |
  v :: vs, i, k => by
  rw [ofK, forceN_eq, ofL]
  cases v.isAny <;> simp [ofK_eq vs]
theorem lk_ofL : ∀ (vs : List AV) (i j : Nat), lk (ofL i vs) j = if i ≤ j then (vs[j - i]?).getD .any else .any
 | [], i, j => by simp [ofL]
 |
  v :: vs, i, j => by
  rw [ofL]
  have step : (if i ≤ j then ((v :: vs)[j - i]?).getD AV.any else .any) = if i = j then v else if i + 1 ≤ j then (vs[j - (i + 1)]?).getD .any else .any := by
   rcases Nat.lt_trichotomy i j with h | h | h
   ·rw [if_pos (by omega), if_neg (by omega), if_pos (by omega), show j - i = (j - (i + 1)) + 1 from by omega]
    rfl
   ·subst h; simp
   ·rw [if_neg (by omega), if_neg (by omega), if_neg (by omega)]
  rw [step]
  split
  ·rename_i ha
   have hv : v = .any := by cases v <;> first | rfl | simp [AV.isAny] at ha
   rw [lk_ofL vs, hv]
   by_cases e : i = j
   ·rw [if_pos e, if_neg (by omega)]
   ·rw [if_neg e]
  ·rw [lk_cons, lk_ofL vs]
theorem mk_ofL (vs : List AV) : mk vs.length (ofL 0 vs) = vs := by
 apply List.ext_getElem?
 intro j
 rw [mk_get, lk_ofL, if_pos (Nat.zero_le _), Nat.sub_zero]
 by_cases hj : j < vs.length
 ·rw [if_pos hj, List.getElem?_eq_getElem hj]; rfl
 ·rw [if_neg hj, List.getElem?_eq_none (by omega)]

def resVG (rows : List Row) (g : Opd → AV) : RV → Option AV
 | .t n => some (g (.t n))
 | .cell1 n => evalP rows g (.load1 (.t n))
 | .cellN n sz => evalP rows g (.loadN sz (.t n))
def resVsG (rows : List Row) (g : Opd → AV) : List RV → Option (List AV)
 | [] => some []
 |
  r :: rs => match resVG rows g r, resVsG rows g rs with
  | some v, some vs => some (v :: vs)
  | _, _ => none
def resultsG (rows : List Row) (g : Opd → AV) (res : List RV) : Option AV :=
 match resVsG rows g res with
 | some [v] => some v
 | some vs => some (.tup vs)
 | none => none
theorem resVsG_ok (rows : List Row) (sl : List AV) : ∀ res : List RV, resVs rows sl res = resVsG rows (getO sl) res
 | [] => rfl
 |
  r :: rs => by
  have : resV rows sl r = resVG rows (getO sl) r := by cases r <;> rfl
  rw [resVs, resVsG, this, resVsG_ok rows sl rs]
  rfl
theorem resultsG_ok (rows : List Row) (sl : List AV) (res : List RV) : results rows sl res = resultsG rows (getO sl) res := by
 unfold results resultsG
 rw [resVsG_ok]
 rfl
def leaveD (ns : Nat) (cx : Ctx) (j : Option Jump) (l : List (Nat × AV)) (rows : List Row) (low : Nat) : Option (AV × List Row × Nat) :=
 match cx with
 |
  .fn res => match j with
  | some (.exit _) => none
  | _ => (resultsG rows (gO ns l) res).map fun v => (v, rows, low)
 |
  .round id => match rows[id]? with
  | some (.loop .busy _ sl ps asg body) => some (.bool j.isNone, rows.set id (.loop (if j.isNone then .ready else .done) j sl ps asg body), lower low id)
  | _ => none
theorem leaveD_ok (ns : Nat) (cx : Ctx) (j : Option Jump) (l : List (Nat × AV)) (rows : List Row) (low : Nat) : leaveV cx j ⟨mk ns l, rows, low⟩ = leaveD ns cx j l rows low := by
 unfold leaveV leaveD
 cases cx <;> simp only [resultsG_ok, gO_ok] <;> rfl
def callD2 (rows : List Row) : Option (AV × List Row × Nat) → Option (AV × List Row × Option Nat)
 |
  some (v, rows', low') => match fin rows v rows' low' with
  | (v, rows2, d) => frcW v fun v => spK rows2 fun rows2 => some (v, rows2, d)
 | none => none
theorem callD2_ok (rows : List Row) (o : Option (AV × List Row × Nat)) : callD2 rows o = callR rows o := by
 cases o with
 | none => rfl
 |
  some q =>
  obtain ⟨v, rows', low'⟩ := q
  simp only [callD2, callR, frcW_eq, spK_eq]
noncomputable def bq {β : Type} (b : Bool) (x y : β) : β := Bool.rec (motive := fun _ => β) y x b
@[simp] theorem bq_true {β : Type} (x y : β) : bq true x y = x := rfl
@[simp] theorem bq_false {β : Type} (x y : β) : bq false x y = y := rfl
section
variable {β : Type}
noncomputable def qN (n : Nat) (k : Nat → β) : β := Nat.rec (motive := fun _ => β) (k Nat.zero) (fun m _ => k (Nat.succ m)) n
theorem qN_eq (n : Nat) (k : Nat → β) : qN n k = k n := by cases n <;> rfl
noncomputable def qI (n : Int) (k : Int → β) : β := Int.rec (motive := fun _ => β) (fun m => qN m fun m => k (.ofNat m)) (fun m => qN m fun m => k (.negSucc m)) n
theorem qI_eq (n : Int) (k : Int → β) : qI n k = k n := by cases n <;> simp [qI, qN_eq]
noncomputable def qB (b : Bool) (k : Bool → β) : β := Bool.rec (motive := fun _ => β) (k false) (k true) b
theorem qB_eq (b : Bool) (k : Bool → β) : qB b k = k b := by cases b <;> rfl
noncomputable def lkK (l : List (Nat × AV)) (j : Nat) (k : AV → β) : β := List.rec (motive := fun _ => β) (k .any) (fun p _ ih => Bool.rec (motive := fun _ => β) ih (k p.2) (Nat.beq p.1 j)) l
theorem lkK_eq : ∀ (l : List (Nat × AV)) (j : Nat) (k : AV → β), lkK l j k = k (lk l j)
 | [], j, k => rfl
 |
  (i, v) :: l, j, k => by
  show Bool.rec (motive := fun _ => β) (lkK l j k) (k v) (Nat.beq i j) = k (lk ((i, v) :: l) j)
  rw [lkK_eq l, lk]
  cases Nat.beq i j <;> rfl
noncomputable def gK (ns : Nat) (l : List (Nat × AV)) (x : Opd) (k : AV → β) : β := Opd.rec (motive := fun _ => β) (fun i => Bool.rec (motive := fun _ => β) (k .any) (lkK l i k) (Nat.ble (Nat.succ i) ns)) (fun v => k v) x
theorem gK_eq (ns : Nat) (l : List (Nat × AV)) (x : Opd) (k : AV → β) : gK ns l x k = k (gO ns l x) := by
 cases x with
 |
  t i =>
  show Bool.rec (motive := fun _ => β) (k .any) (lkK l i k) (Nat.ble (i + 1) ns) = _
  rw [lkK_eq]
  simp only [gO]
  cases Nat.ble (i + 1) ns <;> rfl
 | c v => rfl
noncomputable def gsK (ns : Nat) (l : List (Nat × AV)) (xs : List Opd) (k : List AV → β) : β := List.rec (motive := fun _ => (List AV → β) → β) (fun k => k []) (fun x _ ih k => gK ns l x fun v => ih fun vs => k (v :: vs)) xs k
theorem gsK_eq (ns : Nat) (l : List (Nat × AV)) : ∀ (xs : List Opd) (k : List AV → β), gsK ns l xs k = k (xs.map (gO ns l))
 | [], k => rfl
 |
  x :: xs, k => by
  show gK ns l x (fun v => gsK ns l xs fun vs => k (v :: vs)) = _
  rw [gK_eq, gsK_eq ns l xs]
  rfl
noncomputable def onlyQ (l : List (Nat × AV)) (ks : List Nat) (k : List (Nat × AV) → β) : β := List.rec (motive := fun _ => (List (Nat × AV) → β) → β) (fun k => k []) (fun i _ ih k => lkK l i fun v => ih fun r => k ((i, v) :: r)) ks k
theorem onlyQ_eq (l : List (Nat × AV)) : ∀ (ks : List Nat) (k : List (Nat × AV) → β), onlyQ l ks k = k (only l ks)
 | [], k => rfl
 |
  i :: is, k => by
  show lkK l i (fun v => onlyQ l is fun r => k ((i, v) :: r)) = _
  rw [lkK_eq, onlyQ_eq l is]
  rfl
noncomputable def rowK (rows : List Row) (i : Nat) (k : Row → Option β) : Option β := List.rec (motive := fun _ => Nat → Option β) (fun _ => none) (fun r _ ih i => Nat.rec (motive := fun _ => Option β) (k r) (fun m _ => ih m) i) rows i
theorem rowK_eq : ∀ (rows : List Row) (i : Nat) (k : Row → Option β), rowK rows i k = (rows[i]?).bind k
 | [], i, k => by simp [rowK]
 | r :: rows, 0, k => rfl
 |
  r :: rows, i + 1, k => by
  show rowK rows i k = _
  rw [rowK_eq rows i]
  simp
noncomputable def celK (vs : List AV) (i : Nat) (k : AV → Option β) : Option β := List.rec (motive := fun _ => Nat → Option β) (fun _ => none) (fun v _ ih i => Nat.rec (motive := fun _ => Option β) (k v) (fun m _ => ih m) i) vs i
theorem celK_eq : ∀ (vs : List AV) (i : Nat) (k : AV → Option β), celK vs i k = (vs[i]?).bind k
 | [], i, k => by simp [celK]
 | r :: rows, 0, k => rfl
 |
  r :: rows, i + 1, k => by
  show celK rows i k = _
  rw [celK_eq rows i]
  simp
noncomputable def takK (vs : List AV) (n : Nat) (k : List AV → Option β) : Option β := List.rec (motive := fun _ => Nat → (List AV → Option β) → Option β) (fun n k => Nat.rec (motive := fun _ => Option β) (k []) (fun _ _ => none) n) (fun v _ ih n k => Nat.rec (motive := fun _ => Option β) (k []) (fun m _ => ih m fun l => k (v :: l)) n) vs n k
theorem takK_eq : ∀ (vs : List AV) (n : Nat) (k : List AV → Option β), takK vs n k = if n ≤ vs.length then k (vs.take n) else none
 | [], 0, k => rfl
 | [], n + 1, k => rfl
 |
  v :: vs, 0, k => by
  show k [] = _
  rw [if_pos (Nat.zero_le _)]; rfl
 |
  v :: vs, n + 1, k => by
  show takK vs n (fun l => k (v :: l)) = _
  rw [takK_eq vs n]
  simp
noncomputable def drpK (vs : List AV) (n : Nat) (k : List AV → Option β) : Option β := List.rec (motive := fun _ => Nat → Option β) (fun n => Nat.rec (motive := fun _ => Option β) (k []) (fun _ _ => none) n) (fun v vs ih n => Nat.rec (motive := fun _ => Option β) (k (v :: vs)) (fun m _ => ih m) n) vs n
theorem drpK_eq : ∀ (vs : List AV) (n : Nat) (k : List AV → Option β), drpK vs n k = if n ≤ vs.length then k (vs.drop n) else none
 | [], 0, k => rfl
 | [], n + 1, k => rfl
 |
  v :: vs, 0, k => by
  show k (v :: vs) = _
  rw [if_pos (Nat.zero_le _)]; rfl
 |
  v :: vs, n + 1, k => by
  show drpK vs n k = _
  rw [drpK_eq vs n]
  simp
noncomputable def segK (vs : List AV) (off n : Nat) (k : List AV → Option β) : Option β := drpK vs off fun vs => takK vs n k
theorem segK_eq (vs : List AV) (off n : Nat) (k : List AV → Option β) : segK vs off n k = (seg vs off n).bind k := by
 unfold segK seg
 rw [drpK_eq]
 split
 ·rw [takK_eq]
  simp only [List.length_drop]
  by_cases h : off + n ≤ vs.length
  ·rw [if_pos (by omega), if_pos h]; rfl
  ·rw [if_neg (by omega), if_neg h]; rfl
 ·rw [if_neg (by omega)]; rfl
noncomputable def setQ (rows : List Row) (i : Nat) (r : Row) (k : List Row → β) : β := List.rec (motive := fun _ => Nat → (List Row → β) → β) (fun _ k => k []) (fun x xs ih i k => Nat.rec (motive := fun _ => β) (k (r :: xs)) (fun m _ => ih m fun ys => k (x :: ys)) i) rows i k
theorem setQ_eq (r : Row) : ∀ (rows : List Row) (i : Nat) (k : List Row → β), setQ rows i r k = k (rows.set i r)
 | [], i, k => by simp [setQ]
 | x :: xs, 0, k => rfl
 |
  x :: xs, i + 1, k => by
  show setQ xs i r (fun ys => k (x :: ys)) = _
  rw [setQ_eq r xs]
  simp
noncomputable def setCQ (vs : List AV) (i : Nat) (v : AV) (k : List AV → Option β) : Option β := List.rec (motive := fun _ => Nat → (List AV → Option β) → Option β) (fun _ _ => none) (fun x xs ih i k => Nat.rec (motive := fun _ => Option β) (k (v :: xs)) (fun m _ => ih m fun ys => k (x :: ys)) i) vs i k
theorem setCQ_eq (v : AV) : ∀ (vs : List AV) (i : Nat) (k : List AV → Option β), setCQ vs i v k = if i < vs.length then k (vs.set i v) else none
 | [], i, k => by simp [setCQ]
 |
  x :: xs, 0, k => by
  show k (v :: xs) = _
  rw [if_pos (by simp)]; rfl
 |
  x :: xs, i + 1, k => by
  show setCQ xs i v (fun ys => k (x :: ys)) = _
  rw [setCQ_eq v xs]
  simp
noncomputable def ovrK (l : List AV) (vs : List AV) (k : List AV → Option β) : Option β := List.rec (motive := fun _ => List AV → (List AV → Option β) → Option β) (fun vs k => k vs) (fun y _ ih vs k => List.rec (motive := fun _ => Option β) none (fun _ vs _ => ih vs fun r => k (y :: r)) vs) l vs k
theorem ovrK_eq : ∀ (l vs : List AV) (k : List AV → Option β), ovrK l vs k = if l.length ≤ vs.length then k (l ++ vs.drop l.length) else none
 | [], vs, k => by simp [ovrK]
 | y :: l, [], k => by simp [ovrK]
 |
  y :: l, v :: vs, k => by
  show ovrK l vs (fun r => k (y :: r)) = _
  rw [ovrK_eq l vs]
  simp
noncomputable def splK (vs : List AV) (off : Nat) (l : List AV) (k : List AV → Option β) : Option β := List.rec (motive := fun _ => Nat → (List AV → Option β) → Option β) (fun n k => Nat.rec (motive := fun _ => Option β) (ovrK l [] k) (fun _ _ => none) n) (fun x xs ih i k => Nat.rec (motive := fun _ => Option β) (ovrK l (x :: xs) k) (fun m _ => ih m fun ys => k (x :: ys)) i) vs off k
theorem splK_eq (l : List AV) : ∀ (vs : List AV) (off : Nat) (k : List AV → Option β), splK vs off l k = if off + l.length ≤ vs.length then k (splice vs off l) else none
 |
  [], 0, k => by
  show ovrK l [] k = _
  rw [ovrK_eq]; simp [splice]
 |
  [], n + 1, k => by
  show none = _
  rw [if_neg (by simp only [List.length_nil]; omega)]
 |
  x :: xs, 0, k => by
  show ovrK l (x :: xs) k = _
  rw [ovrK_eq]; simp [splice]
 |
  x :: xs, i + 1, k => by
  show splK xs i l (fun ys => k (x :: ys)) = _
  rw [splK_eq l xs]
  have : i + 1 + l.length = i + l.length + 1 := by omega
  by_cases h : i + l.length ≤ xs.length
  ·rw [if_pos h, if_pos (by simp; omega)]
   simp [splice, this]
  ·rw [if_neg h, if_neg (by simp; omega)]
noncomputable def pushQ (rows : List Row) (r : Row) (k : List Row → β) : β := List.rec (motive := fun _ => (List Row → β) → β) (fun k => k [r]) (fun x _ ih k => ih fun ys => k (x :: ys)) rows k
theorem pushQ_eq (r : Row) : ∀ (rows : List Row) (k : List Row → β), pushQ rows r k = k (rows ++ [r])
 | [], k => rfl
 |
  x :: xs, k => by
  show pushQ xs r (fun ys => k (x :: ys)) = _
  rw [pushQ_eq r xs]; rfl
noncomputable def spQ (rows : List Row) (k : List Row → β) : β := List.rec (motive := fun _ => (List Row → β) → β) (fun k => k []) (fun x _ ih k => ih fun ys => k (x :: ys)) rows k
theorem spQ_eq : ∀ (rows : List Row) (k : List Row → β), spQ rows k = k rows
 | [], k => rfl
 |
  x :: xs, k => by
  show spQ xs (fun ys => k (x :: ys)) = _
  rw [spQ_eq xs]
noncomputable def pQ (l : List (Nat × AV)) (d : Option Nat) (v : AV) (k : List (Nat × AV) → β) : β := Option.rec (motive := fun _ => β) (k l) (fun d => k ((d, v) :: l)) d
theorem pQ_eq (l : List (Nat × AV)) (d : Option Nat) (v : AV) (k : List (Nat × AV) → β) : pQ l d v k = k (pO l d v) := by cases d <;> rfl
end

def wrapQ (k : IntKind) (n : Int) : Int := match k, n with
 | .i64, .ofNat m => cond (Nat.ble m 9223372036854775807) (.ofNat m) (IntKind.wrap .i64 (.ofNat m))
 | .i64, .negSucc m => cond (Nat.ble m 9223372036854775807) (.negSucc m) (IntKind.wrap .i64 (.negSucc m))
 | .u64, .ofNat m => cond (Nat.ble m 18446744073709551615) (.ofNat m) (IntKind.wrap .u64 (.ofNat m))
 | k, n => k.wrap n
theorem cond_ble {m n : Nat} {x y : Int} (h : m ≤ n → y = x) : cond (Nat.ble m n) x y = y := by
 cases e : Nat.ble m n with
 | false => rfl
 | true => rw [cond_true, h (Nat.le_of_ble_eq_true e)]
theorem wrapQ_eq (k : IntKind) (n : Int) : wrapQ k n = k.wrap n := by
 unfold wrapQ
 split
 ·rename_i m
  refine cond_ble fun h => wrap64 ?_ ?_ <;> (show _ ≤ _; simp only [Int.ofNat_eq_natCast]; omega)
 ·rename_i m
  refine cond_ble fun h => wrap64 ?_ ?_ <;> (simp only [Int.negSucc_eq]; omega)
 ·rename_i m
  refine cond_ble fun h => wrapU64 ?_ ?_ <;> (simp only [Int.ofNat_eq_natCast]; omega)
 ·rfl
def binQ (op : BinOp) (x y : AV) : Option AV := match x, y with
 |
  .int k a, .int k' b => match op with
  | .add => if k = k' then some (.int k (wrapQ k (a + b))) else none
  | .sub => if k = k' then some (.int k (wrapQ k (a - b))) else none
  | .mul => if k = k' then some (.int k (wrapQ k (a * b))) else none
  | .quo => if k = k' then (if b = 0 then none else some (.int k (wrapQ k (a.tdiv b)))) else none
  | op => binA op (.int k a) (.int k' b)
 | x, y => binA op x y
theorem binQ_eq (op : BinOp) (x y : AV) : binQ op x y = binA op x y := by
 unfold binQ
 split
 ·split <;> simp only [wrapQ_eq] <;> rfl
 ·rfl
section
variable {β : Type}
noncomputable def qV (v : AV) (k : AV → β) : β := match v with
 | .int kd n => qI n fun n => k (.int kd n)
 | .bool b => qB b fun b => k (.bool b)
 | .ptr i o => qN i fun i => qN o fun o => k (.ptr i o)
 | v => frcW v k
theorem qV_eq (v : AV) (k : AV → β) : qV v k = k v := by
 unfold qV
 split <;> simp [qI_eq, qB_eq, qN_eq, frcW_eq]
end

section
variable {β : Type}
noncomputable def ldQ (rows : List Row) (a : AV) (k : List AV → Nat → Option β) : Option β := match a with
 |
  .ptr id off => rowK rows id fun r => match r with
  | .cells vs => k vs off
  | .ro vs => k vs off
  | _ => none
 | _ => none
theorem ldQ_eq (rows : List Row) (a : AV) (k : List AV → Nat → Option β) : ldQ rows a k = match a with | .ptr id off => (row? rows id).bind fun vs => k vs off | _ => none := by
 unfold ldQ
 split
 ·rename_i id off
  rw [rowK_eq]
  unfold row?
  cases rows[id]? with
  | none => rfl
  | some r => cases r <;> rfl
 ·rfl
noncomputable def someK (o : Option AV) (k : AV → Option β) : Option β := match o with
 | some v => qV v k
 | none => none
theorem someK_eq (o : Option AV) (k : AV → Option β) : someK o k = o.bind k := by
 cases o <;> simp [someK, qV_eq]
noncomputable def idxSQ (sz : Nat) (x i : AV) (k : AV → Option β) : Option β := match x with
 |
  .slice id off len _ => match i with
  |
   .int _ n => match n with
   | .ofNat j => bq (Nat.ble (Nat.succ j) len) (qN (Nat.add off (Nat.mul j sz)) fun o => k (.ptr id o)) none
   | .negSucc _ => none
  | _ => none
 | _ => none
noncomputable def idxAQ (len sz : Nat) (x i : AV) (k : AV → Option β) : Option β := match x with
 |
  .ptr id off => match i with
  |
   .int _ n => match n with
   | .ofNat j => bq (Nat.ble (Nat.succ j) len) (qN (Nat.add off (Nat.mul j sz)) fun o => k (.ptr id o)) none
   | .negSucc _ => none
  | _ => none
 | _ => none
noncomputable def fieldQ (d : Nat) (x : AV) (k : AV → Option β) : Option β := match x with
 | .ptr id off => qN (Nat.add off d) fun o => k (.ptr id o)
 | _ => none
noncomputable def lenQ (x : AV) (k : AV → Option β) : Option β := match x with
 | .slice _ _ n _ => k (.int .i64 (.ofNat n))
 | .nilslice => k (.int .i64 (.ofNat Nat.zero))
 | _ => none
noncomputable def pureQ (ns : Nat) (op : IOp) (l : List (Nat × AV)) (rows : List Row) (k : AV → Option β) : Option β := match op with
 | .mv x => gK ns l x k
 | .load1 a => gK ns l a fun a => ldQ rows a fun vs off => celK vs off k
 | .loadN n a => gK ns l a fun a => ldQ rows a fun vs off => segK vs off n fun m => k (.agg m)
 | .bin op x y => gK ns l x fun x => gK ns l y fun y => someK (binQ op x y) k
 | .idxS sz x i => gK ns l x fun x => gK ns l i fun i => idxSQ sz x i k
 | .idxA len sz x i => gK ns l x fun x => gK ns l i fun i => idxAQ len sz x i k
 | .fieldA d x => gK ns l x fun x => fieldQ d x k
 | .len 0 x => gK ns l x fun x => lenQ x k
 | op => someK (evalP rows (gO ns l) op) k
theorem pureQ_eq (ns : Nat) (op : IOp) (l : List (Nat × AV)) (rows : List Row) (k : AV → Option β) : pureQ ns op l rows k = (evalP rows (gO ns l) op).bind k := by
 have hidx : ∀ (j len : Nat) (K K' : Option β), bq (Nat.ble (Nat.succ j) len) K K' = if j < len then K else K' := fun j len K K' => by
  cases e : Nat.ble (Nat.succ j) len with
  | true => have := Nat.le_of_ble_eq_true e; rw [if_pos (by omega)]; rfl
  | false => rw [if_neg (fun h => by rw [Nat.ble_eq_true_of_le (by omega)] at e; simp at e)]; rfl
 unfold pureQ
 split
 ·rw [gK_eq]; rfl
 ·rename_i a
  rw [gK_eq, ldQ_eq]
  simp only [evalP]
  cases gO ns l a <;> try rfl
  simp only
  cases row? rows _ <;> simp [celK_eq]
 ·rename_i n a
  rw [gK_eq, ldQ_eq]
  simp only [evalP]
  cases gO ns l a <;> try rfl
  simp only
  cases row? rows _ with
  | none => rfl
  | some vs => simp only [Option.bind_some, segK_eq]; cases seg vs _ _ <;> rfl
 ·rw [gK_eq, gK_eq, someK_eq, binQ_eq]; rfl
 ·rename_i sz x i
  rw [gK_eq, gK_eq]
  simp only [evalP, idxSQ]
  cases gO ns l x <;> try rfl
  cases gO ns l i <;> try rfl
  rename_i id off len c kd n
  cases n with
  |
   ofNat j =>
   simp only [hidx, qN_eq, idx?]
   by_cases h : j < len
   ·rw [if_pos h, if_pos (by simp only [Int.ofNat_eq_natCast]; omega)]; rfl
   ·rw [if_neg h, if_neg (by simp only [Int.ofNat_eq_natCast]; omega)]; rfl
  | negSucc j => rfl
 ·rename_i len sz x i
  rw [gK_eq, gK_eq]
  simp only [evalP, idxAQ]
  cases gO ns l x <;> try rfl
  cases gO ns l i <;> try rfl
  rename_i id off kd n
  cases n with
  |
   ofNat j =>
   simp only [hidx, qN_eq, idx?]
   by_cases h : j < len
   ·rw [if_pos h, if_pos (by simp only [Int.ofNat_eq_natCast]; omega)]; rfl
   ·rw [if_neg h, if_neg (by simp only [Int.ofNat_eq_natCast]; omega)]; rfl
  | negSucc j => rfl
 ·rename_i d x
  rw [gK_eq]
  simp only [evalP, fieldQ]
  cases gO ns l x <;> try rfl
  simp only [qN_eq]; rfl
 ·rename_i x
  rw [gK_eq]
  simp only [evalP, lenQ]
  cases gO ns l x <;> rfl
 ·rw [someK_eq]
end

abbrev RR := Option (AV × List Row × Nat)
abbrev KK := List (Nat × AV) → List Row → Nat → RR
abbrev EX := Nat → Ctx → List Itm → List (Nat × AV) → List Row → Nat → RR
section
variable (F : Nat → Option IFn) (ex : EX) (ns : Nat)
noncomputable def store1Q (d : Option Nat) (a x : AV) (K : KK) (l : List (Nat × AV)) (rows : List Row) (low : Nat) : RR := match a with
 |
  .ptr id off => bq x.one (rowK rows id fun r => match r with
  | .cells vs => setCQ vs off x fun vs => setQ rows id (.cells vs) fun rows => qN (lower low id) fun low => pQ l d (.tup []) fun l => K l rows low
  | _ => none) none
 | _ => none
noncomputable def storeNQ (d : Option Nat) (n : Nat) (a x : AV) (K : KK) (l : List (Nat × AV)) (rows : List Row) (low : Nat) : RR := match a with
 |
  .ptr id off => match x with
  |
   .agg m => bq (Nat.beq m.length n && m.all AV.one) (rowK rows id fun r => match r with
   | .cells vs => splK vs off m fun vs => setQ rows id (.cells vs) fun rows => qN (lower low id) fun low => pQ l d (.tup []) fun l => K l rows low
   | _ => none) none
  | _ => none
 | _ => none
noncomputable def boxQ (d : Option Nat) (x : AV) (K : KK) (l : List (Nat × AV)) (rows : List Row) (low : Nat) : RR := bq (x.cells.all AV.one) (frcR (.cells x.cells) fun r => qN rows.length fun n => pushQ rows r fun rows => pQ l d (.ptr n 0) fun l => K l rows low) none
noncomputable def restQ (d : Option Nat) (o : Option (AV × Dl × Nat)) (K : KK) (l : List (Nat × AV)) (rows : List Row) (low : Nat) : RR := match o with
 | some (v, dl, lw) => qV v fun v => dl.run rows fun rows => qN lw fun low => pQ l d v fun l => K l rows low
 | none => none
noncomputable def enterQ (fid : Nat) (vs : List AV) (rows : List Row) (low : Nat) (K : AV → List Row → Nat → RR) : RR := match F fid with
 |
  some fn => bq (Nat.ble vs.length fn.ns) (match iniK vs 0 fun l => ex fn.ns (.fn fn.res) [.code fn.body] l rows rows.length with
  |
   some (v, rows', low') => match fin rows v rows' low' with
   | (v, rows2, dd) => frcW v fun v => spQ rows2 fun rows2 => qN (lowO low dd) fun low => K v rows2 low
  | none => none) none
 | none => none
noncomputable def roundQ (id : Nat) (vs : List AV) (rows : List Row) (low : Nat) (K : AV → List Row → Nat → RR) : RR := rowK rows id fun r => match r with
 |
  .loop _ _ sl ps asg body => bq (Nat.beq ps.length vs.length) (match frcWs (putL sl ps vs) fun sl => ofK sl 0 fun l1 => ex sl.length (.round id) [.code asg, .rfBegin, .code body] l1 rows rows.length with
  | some (v, rows', low') => qN (lower low low') fun lw => spQ (gc rows.length lw v rows') fun rows2 => qV v fun v => K v rows2 lw
  | none => none) none
 | _ => none
noncomputable def callQ (d : Option Nat) (tab : List (Nat × Nat)) (f : AV) (vs : List AV) (K : KK) (l : List (Nat × AV)) (rows : List Row) (low : Nat) : RR := match tab with
 |
  [] => match f with
  | .func fid [] => enterQ F ex fid vs rows low fun v rows low => pQ l d v fun l => K l rows low
  | .func fid cs => frcWs (vs ++ cs) fun vs => enterQ F ex fid vs rows low fun v rows low => pQ l d v fun l => K l rows low
  |
   .iface t v => match boundOf t v with
   | some p => frcWs (p.2 ++ vs) fun vs => enterQ F ex p.1 vs rows low fun v rows low => pQ l d v fun l => K l rows low
   | none => none
  | .yield id => roundQ ex id vs rows low fun v rows low => pQ l d v fun l => K l rows low
  | _ => none
 |
  p :: tab => match f with
  |
   .iface t v => bq (Nat.beq t bd) none (match (p :: tab).lookup t with
   | some fid => enterQ F ex fid (v :: vs) rows low fun v rows low => pQ l d v fun l => K l rows low
   | none => none)
  | _ => none
noncomputable def runD (d : Option Nat) (op : IOp) (K : KK) (l : List (Nat × AV)) (rows : List Row) (low : Nat) : RR := match op with
 | .call tab f args => gK ns l f fun f => gsK ns l args fun vs => callQ F ex d tab f vs K l rows low
 | .store1 a x => gK ns l a fun a => gK ns l x fun x => store1Q d a x K l rows low
 | .storeN n a x => gK ns l a fun a => gK ns l x fun x => storeNQ d n a x K l rows low
 | .box x => gK ns l x fun x => boxQ d x K l rows low
 | op => bq op.pure (pureQ ns op l rows fun v => pQ l d v fun l => K l rows low) (restQ d (evalD (gO ns l) rows low op) K l rows low)
noncomputable def beqB (a b : Bool) : Bool := Bool.rec (motive := fun _ => Bool) (Bool.rec (motive := fun _ => Bool) true false b) b a
theorem beqB_eq (a b : Bool) : beqB a b = (a == b) := by cases a <;> cases b <;> rfl
noncomputable def oneQ (o : IOpx) (K : KK) (l : List (Nat × AV)) (rows : List Row) (low : Nat) : RR := match o with
 |
  ⟨d, op, gd⟩ => match gd with
  | none => runD F ex ns d op K l rows low
  |
   some p => gK ns l (.t p.1) fun g => match g with
   | .bool c => bq (beqB c p.2) (runD F ex ns d op K l rows low) (pQ l d (.tup []) fun l => K l rows low)
   | .tup [] => pQ l d (.tup []) fun l => K l rows low
   | _ => none
noncomputable def callF : CallF := fun f vs rows => match F f with
 | some fn => if vs.length ≤ fn.ns then callD2 rows (iniK vs 0 fun l => ex fn.ns (.fn fn.res) [.code fn.body] l rows rows.length) else none
 | none => none
noncomputable def addX {β : Type} (ext : List (Nat × Row)) (i : Nat) (rs : List Row) (k : List (Nat × Row) → β) : β := match rs with
 | [] => k ext
 | r :: rs => frcX (ext ++ (r :: rs).map fun x => (i, x)) k
theorem addX_eq {β : Type} (ext : List (Nat × Row)) (i : Nat) (rs : List Row) (k : List (Nat × Row) → β) : addX ext i rs k = k (ext ++ rs.map fun x => (i, x)) := by
 cases rs with
 | nil => simp [addX]
 | cons r rs => simp only [addX, frcX_eq]
noncomputable def gop1Q (B : Nat → List Row) (b : Nat) (d : Option Nat) (op : IOp) (i : Nat) (l : List (Nat × AV)) (ext : List (Nat × Row)) (K : List (Nat × AV) → List (Nat × Row) → RR) : RR :=
 bq op.pure (pureQ ns op l (baseX (B i) b ext) fun v => pQ l d v fun l => K l ext) (match opD (callF F ex) (gO ns l) (baseX (B i) b ext) ((B i).length + ext.length) ⟨d, op, none⟩ with
  | some (v, rows', low') => bq (Nat.beq low' ((B i).length + ext.length)) (frcW v fun v => addX ext i (rows'.drop ((B i).length + ext.length)) fun ext => pQ l d v fun l => K l ext) none
  | none => none)
noncomputable def gopQ (B : Nat → List Row) (p : IOpx × Nat) (i : Nat) (l : List (Nat × AV)) (ext : List (Nat × Row)) (K : List (Nat × AV) → List (Nat × Row) → RR) : RR := match p with
 |
  (o, b) => match o with
  |
   ⟨d, op, gd⟩ => match gd with
   | none => gop1Q F ex ns B b d op i l ext K
   |
    some q => gK ns l (.t q.1) fun g => match g with
    | .bool c => bq (beqB c q.2) (gop1Q F ex ns B b d op i l ext K) (pQ l d (.tup []) fun l => K l ext)
    | .tup [] => pQ l d (.tup []) fun l => K l ext
    | _ => none
noncomputable def grpR (B : Nat → List Row) (g : List (IOpx × Nat)) : Nat → List (Nat × AV) → List (Nat × Row) → (List (Nat × AV) → List (Nat × Row) → RR) → RR :=
 List.rec (motive := fun _ => Nat → List (Nat × AV) → List (Nat × Row) → (List (Nat × AV) → List (Nat × Row) → RR) → RR) (fun _ l ext K => K l ext) (fun p _ ih i l ext K => gopQ F ex ns B p i l ext fun l ext => ih (Nat.succ i) l ext K) g
noncomputable def putX (rows : List Row) (ext : List (Nat × Row)) (k : List Row → RR) : RR := match ext with
 | [] => k rows
 | e :: ext => spQ (rows ++ (e :: ext).map (·.2)) k
theorem putX_eq (rows : List Row) (ext : List (Nat × Row)) (k : List Row → RR) : putX rows ext k = k (rows ++ ext.map (·.2)) := by
 cases ext with
 | nil => simp [putX]
 | cons e ext => simp only [putX, spQ_eq]
noncomputable def grpQ (g : List (IOpx × Nat)) (K : KK) (l : List (Nat × AV)) (rows : List Row) (low : Nat) : RR := grpR F ex ns (fun _ => rows) g Nat.zero l [] fun l ext => putX rows ext fun rows => K l rows low
noncomputable def grpwQ (a y : Opd) (sz : Option Nat) (b : Nat) (g : List (IOpx × Nat)) (K : KK) (l : List (Nat × AV)) (rows : List Row) (low : Nat) : RR :=
 grpR F ex ns (fun _ => rows) g Nat.zero l [] fun l0 _ => gK ns l0 a fun a0 => match a0 with
  |
   .ptr R off => spQ (maskR rows R off (sz.getD 1)) fun rm => grpR F ex ns (baseW rows rm b) g Nat.zero l [] fun l' ext => match stored (mk ns l') rows R off a y sz with
   | some r' => frcR r' fun r' => setQ rows R r' fun rows => putX rows ext fun rows => qN (lower low R) fun low => K l' rows low
   | none => none
  | _ => none
noncomputable def segQ (sg : Seg) (K : KK) (l : List (Nat × AV)) (rows : List Row) (low : Nat) : RR := match sg with
 | .one o => oneQ F ex ns o K l rows low
 | .grp g => grpQ F ex ns g K l rows low
 | .grpw a y sz b g => grpwQ F ex ns a y sz b g K l rows low
 | .stop => none
noncomputable def segsQ (K : KK) (s : List Seg) : KK := List.rec (motive := fun _ => KK) K (fun sg _ ih => segQ F ex ns sg ih) s
noncomputable def rfQ (cx : Ctx) (f : Opd) (ps : List Nat) (asg body : ICode) (k : List Itm) (l : List (Nat × AV)) (rows : List Row) (low : Nat) : RR :=
 bq (rfOk cx rows) (match target (gO ns l f) [.yield rows.length] with
  |
   some (fid, vs) => match frcR (.loop .ready none (mk ns l) ps asg body) fun r => pushQ rows r fun rows1 => frcWs vs fun vs => callF F ex fid vs rows1 with
   |
    some (_, rows', d) => match afterLoop rows.length low rows' d with
    | some (k0, rows2, low2) => spQ rows2 fun rows2 => qN low2 fun low2 => ex ns cx (k0 ++ k) l rows2 low2
    | none => none
   | none => none
  | none => none) none
noncomputable def begQ (cx : Ctx) (k : List Itm) (l : List (Nat × AV)) (rows : List Row) (low : Nat) : RR := match cx with
 |
  .round id => rowK rows id fun r => match r with
  | .loop .ready pend sl ps asg body => setQ rows id (.loop .busy pend sl ps asg body) fun rows => qN (lower low id) fun low => ex ns cx k l rows low
  | _ => none
 | _ => none
noncomputable def exitQ (cx : Ctx) (id : Nat) (k : List Itm) (l : List (Nat × AV)) (rows : List Row) (low : Nat) : RR := match popTo id k with
 | some k' => ex ns cx k' l rows low
 | none => leaveD ns cx (some (.exit id)) l rows low
noncomputable def condQ (cx : Ctx) (c : Opd) (a b : ICode) (k : List Itm) (l : List (Nat × AV)) (rows : List Row) (low : Nat) : RR := gK ns l c fun c => match c with
 | .bool t => Bool.rec (motive := fun _ => RR) (ex ns cx (.code b :: k) l rows low) (ex ns cx (.code a :: k) l rows low) t
 | _ => none
noncomputable def codeQ (cx : Ctx) (c : ICode) (k : List Itm) (l : List (Nat × AV)) (rows : List Row) (low : Nat) : RR := ICode.casesOn (motive := fun _ => RR) c
 (ex ns cx k l rows low)
 (leaveD ns cx (some .ret) l rows low)
 (fun id => exitQ ex ns cx id k l rows low)
 (fun a b => ex ns cx (.code a :: .code b :: k) l rows low)
 (fun c a b => condQ ex ns cx c a b k l rows low)
 (fun id c => ex ns cx (.code c :: .inBlock id :: k) l rows low)
 (fun c => ex ns cx (.code c :: .inLoop c :: k) l rows low)
 (fun c => ex ns cx (.code c :: .inScope c :: k) l rows low)
 (fun s => segsQ F ex ns (fun l rows low => ex ns cx k l rows low) s l rows low)
 (fun f ps asg body => rfQ F ex ns cx f ps asg body k l rows low)
 (fun m ks c => bq (Nat.beq m ns) (onlyQ l ks fun l => ex ns cx (.code c :: k) l rows low) none)
 none
noncomputable def itmQ (cx : Ctx) (x : Itm) (k : List Itm) (l : List (Nat × AV)) (rows : List Row) (low : Nat) : RR := Itm.rec (motive := fun _ => RR)
 (fun c => codeQ F ex ns cx c k l rows low)
 (fun _ => ex ns cx k l rows low)
 (fun c => ex ns cx (.code c :: .inLoop c :: k) l rows low)
 (fun _ => ex ns cx k l rows low)
 (fun s => segsQ F ex ns (fun l rows low => ex ns cx k l rows low) s l rows low)
 (begQ ex ns cx k l rows low) x
noncomputable def stepQ : EX := fun ns cx k l rows low => List.rec (motive := fun _ => RR) (leaveD ns cx none l rows low) (fun x k _ => itmQ F ex ns cx x k l rows low) k
end
noncomputable def execQ (F : Nat → Option IFn) (n : Nat) : EX := Nat.rec (motive := fun _ => EX) (fun _ _ _ _ _ _ => none) (fun _ ih => stepQ F ih) n
noncomputable def cQ (F : Nat → Option IFn) (n : Nat) : CallF := callF F (execQ F n)

def SD (F : Nat → Option IFn) (ex : EX) : Prop := ∀ (ns : Nat) (cx : Ctx) (k : List Itm) (l : List (Nat × AV)) (rows : List Row) (low : Nat) (r : AV × List Row × Nat), ex ns cx k l rows low = some r → Ex F cx k ⟨mk ns l, rows, low⟩ fun q => q = r
section
variable {F : Nat → Option IFn} {ex : EX} (hS : SD F ex) {ns : Nat} {cx : Ctx} {k : List Itm}
include hS
theorem entered {fid : Nat} {fn : IFn} (hF : F fid = some fn) {vs : List AV} (hl : vs.length ≤ fn.ns) {rows : List Row} {q : AV × List Row × Nat} (h : ex fn.ns (.fn fn.res) [.code fn.body] (ini 0 vs) rows rows.length = some q) : Ret F fid vs rows = some (fin rows q.1 q.2.1 q.2.2) := by
 obtain ⟨n, x, e, rfl⟩ := hS _ _ _ _ _ _ _ h
 refine Ret_of (n := n) ?_
 unfold cF callBy
 simp only [hF]
 rw [mk_ini hl] at e
 rw [show exec F n (.fn fn.res) [.code fn.body] (init fn vs rows) = _ from e]
 rfl
theorem callF_ok : LeC (callF F ex) (Ret F) := by
 intro f vs rows q h
 unfold callF at h
 split at h
 ·rename_i fn hfn
  split at h
  ·rename_i hlen
   rw [callD2_ok, iniK_eq] at h
   unfold callR at h
   split at h
   ·rename_i v rows' low' he
    rw [entered hS hfn hlen he]
    exact h
   ·simp at h
  ·simp at h
 ·simp at h
theorem enterQ_ok {fid : Nat} {vs : List AV} {rows : List Row} {low : Nat} {K : AV → List Row → Nat → RR} {r : AV × List Row × Nat} (h : enterQ F ex fid vs rows low K = some r) : ∃ q, Ret F fid vs rows = some q ∧ K q.1 q.2.1 (lowO low q.2.2) = some r := by
 unfold enterQ at h
 split at h
 ·rename_i fn hfn
  cases hb : Nat.ble vs.length fn.ns with
  | false => rw [hb] at h; simp at h
  |
   true =>
   rw [hb, bq_true, iniK_eq] at h
   split at h
   ·rename_i v rows' low' he
    simp only [frcW_eq, spQ_eq, qN_eq] at h
    exact ⟨_, entered hS hfn (Nat.le_of_ble_eq_true hb) he, h⟩
   ·simp at h
 ·simp at h
theorem roundQ_ok {id : Nat} {vs : List AV} {rows : List Row} {low : Nat} {K : AV → List Row → Nat → RR} {r : AV × List Row × Nat} (h : roundQ ex id vs rows low K = some r) : ∃ st pd sl ps asg body, rows[id]? = some (.loop st pd sl ps asg body) ∧ ps.length = vs.length ∧
  Ex F (.round id) [.code asg, .rfBegin, .code body] ⟨putL sl ps vs, rows, rows.length⟩ fun q => K q.1 (gc rows.length (lower low q.2.2) q.1 q.2.1) (lower low q.2.2) = some r := by
 unfold roundQ at h
 rw [rowK_eq] at h
 cases hr : rows[id]? with
 | none => rw [hr] at h; simp at h
 |
  some w =>
  rw [hr] at h
  simp only [Option.bind_some] at h
  split at h
  ·rename_i st pd sl ps asg body
   cases hb : Nat.beq ps.length vs.length with
   | false => rw [hb] at h; simp at h
   |
    true =>
    rw [hb, bq_true, frcWs_eq, ofK_eq] at h
    split at h
    ·rename_i v rows' low' he
     simp only [qN_eq, spQ_eq, qV_eq] at h
     refine ⟨st, pd, sl, ps, asg, body, rfl, Nat.eq_of_beq_eq_true hb, ?_⟩
     have := hS _ _ _ _ _ _ _ he
     rw [mk_ofL] at this
     exact this.imp fun q hq => by subst hq; exact h
    ·simp at h
  ·simp at h
theorem callQ_ok {d : Option Nat} {tab : List (Nat × Nat)} {f : AV} {vs : List AV} {K : KK} {l : List (Nat × AV)} {rows : List Row} {low : Nat} {s : List Seg} {r : AV × List Row × Nat} (hK : ∀ l rows low, K l rows low = some r → Ex F cx (.ops s :: k) ⟨mk ns l, rows, low⟩ fun q => q = r)
  (h : callQ F ex d tab f vs K l rows low = some r) : callD F cx d s k (mk ns l) rows low (fun q => q = r) vs tab f := by
 unfold callQ at h
 split at h
 ·split at h
  ·obtain ⟨q, e, h⟩ := enterQ_ok hS h
   rw [pQ_eq] at h
   refine ⟨q, by simpa using e, ?_⟩
   rw [pO_ok]; exact hK _ _ _ h
  ·rw [frcWs_eq] at h
   obtain ⟨q, e, h⟩ := enterQ_ok hS h
   rw [pQ_eq] at h
   refine ⟨q, e, ?_⟩
   rw [pO_ok]; exact hK _ _ _ h
  ·split at h
   ·rename_i p hp
    rw [frcWs_eq] at h
    obtain ⟨q, e, h⟩ := enterQ_ok hS h
    rw [pQ_eq] at h
    refine ⟨p, hp, q, e, ?_⟩
    rw [pO_ok]; exact hK _ _ _ h
   ·simp at h
  ·obtain ⟨st, pd, sl, ps, asg, body, h1, h2, h3⟩ := roundQ_ok hS h
   refine ⟨st, pd, sl, ps, asg, body, h1, h2, h3.imp fun q hq => ?_⟩
   rw [pQ_eq] at hq
   rw [pO_ok]; exact hK _ _ _ hq
  ·simp at h
 ·split at h
  ·rename_i p tab t v
   cases hb : Nat.beq t bd with
   | true => rw [hb] at h; simp at h
   |
    false =>
    rw [hb, bq_false] at h
    split at h
    ·rename_i fid hl
     obtain ⟨q, e, h⟩ := enterQ_ok hS h
     rw [pQ_eq] at h
     refine ⟨fun e => ?_, fid, hl, q, e, ?_⟩
     ·subst e
      rw [Nat.beq_refl] at hb
      simp at hb
     ·rw [pO_ok]; exact hK _ _ _ h
    ·simp at h
  ·simp at h
theorem runD_ok {d : Option Nat} {op : IOp} {K : KK} {l : List (Nat × AV)} {rows : List Row} {low : Nat} {s : List Seg} {r : AV × List Row × Nat} (hK : ∀ l rows low, K l rows low = some r → Ex F cx (.ops s :: k) ⟨mk ns l, rows, low⟩ fun q => q = r)
  (h : runD F ex ns d op K l rows low = some r) : Ex F cx (.ops (.one ⟨d, op, none⟩ :: s) :: k) ⟨mk ns l, rows, low⟩ fun q => q = r := by
 -- an operation that is no call
 have plainOp : ∀ (o : IOp), o.plain = true → (∃ v rows' low', evalE (gO ns l) rows low o = some (v, rows', low') ∧ K (pO l d v) rows' low' = some r) → Ex F cx (.ops (.one ⟨d, o, none⟩ :: s) :: k) ⟨mk ns l, rows, low⟩ fun q => q = r := by
  rintro o ho ⟨v, rows', low', e, hk⟩
  rw [Ex_op ho]
  refine ⟨true, rfl, ?_⟩
  rw [if_pos rfl]
  refine ⟨v, rows', low', ?_, ?_⟩
  ·rw [gO_ok]; exact e
  ·rw [pO_ok]; exact hK _ _ _ hk
 unfold runD at h
 split at h
 ·rename_i tab f args
  rw [gK_eq, gsK_eq] at h
  rw [Ex_callD]
  rw [gO_ok]
  exact callQ_ok hS hK h
 ·rename_i a x
  rw [gK_eq, gK_eq] at h
  refine plainOp _ rfl ?_
  unfold store1Q at h
  simp only [evalE]
  split at h
  ·rename_i id off e
   rw [e]
   cases hx : (gO ns l x).one with
   | false => rw [hx] at h; simp at h
   |
    true =>
    rw [hx, bq_true, rowK_eq] at h
    simp only
    cases hr : rows[id]? with
    | none => rw [hr] at h; simp at h
    |
     some w =>
     rw [hr] at h
     simp only [Option.bind_some] at h
     split at h
     ·rename_i vs
      rw [setCQ_eq] at h
      split at h
      ·rename_i ho
       simp only [setQ_eq, qN_eq, pQ_eq] at h
       simp only [ho, true_and, and_self, if_true]
       exact ⟨_, _, _, rfl, h⟩
      ·simp at h
     ·simp at h
  ·simp at h
 ·rename_i n a x
  rw [gK_eq, gK_eq] at h
  refine plainOp _ rfl ?_
  unfold storeNQ at h
  simp only [evalE]
  split at h
  ·rename_i id off e
   rw [e]
   split at h
   ·rename_i m em
    rw [em]
    cases hx : (Nat.beq m.length n && m.all AV.one) with
    | false => rw [hx] at h; simp at h
    |
     true =>
     rw [hx, bq_true, rowK_eq] at h
     simp only [Bool.and_eq_true] at hx
     have hn := Nat.eq_of_beq_eq_true hx.1
     simp only
     cases hr : rows[id]? with
     | none => rw [hr] at h; simp at h
     |
      some w =>
      rw [hr] at h
      simp only [Option.bind_some] at h
      split at h
      ·rename_i vs
       rw [splK_eq] at h
       split at h
       ·rename_i ho
        simp only [setQ_eq, qN_eq, pQ_eq] at h
        rw [hn] at ho
        simp only [hn, ho, hx.2, true_and, and_self, if_true]
        exact ⟨_, _, _, rfl, h⟩
       ·simp at h
      ·simp at h
   ·simp at h
  ·simp at h
 ·rename_i x
  rw [gK_eq] at h
  refine plainOp _ rfl ?_
  unfold boxQ at h
  simp only [evalE]
  cases hx : (gO ns l x).cells.all AV.one with
  | false => rw [hx] at h; simp at h
  |
   true =>
   rw [hx, bq_true] at h
   simp only [frcR_eq, qN_eq, pushQ_eq, pQ_eq] at h
   simp only [if_true]
   exact ⟨_, _, _, rfl, h⟩
 ·rename_i h1 h2 h3 h4
  have hpl : op.plain = true := by
   cases op <;> first | rfl | exact absurd rfl (h1 _ _ _)
  refine plainOp _ hpl ?_
  cases hp : op.pure with
  |
   true =>
   rw [hp, bq_true, pureQ_eq] at h
   rw [evalE_pure hp]
   cases he : evalP rows (gO ns l) op with
   | none => rw [he] at h; simp at h
   |
    some v =>
    rw [he] at h
    simp only [Option.bind_some, pQ_eq] at h
    exact ⟨v, rows, low, rfl, h⟩
  |
   false =>
   rw [hp, bq_false] at h
   unfold restQ at h
   split at h
   ·rename_i v dl lw he
    rw [qV_eq, Dl.run_eq, qN_eq, pQ_eq] at h
    exact ⟨v, _, _, evalD_ok _ _ _ _ he, h⟩
   ·simp at h
theorem oneQ_ok {o : IOpx} {K : KK} {l : List (Nat × AV)} {rows : List Row} {low : Nat} {s : List Seg} {r : AV × List Row × Nat} (hK : ∀ l rows low, K l rows low = some r → Ex F cx (.ops s :: k) ⟨mk ns l, rows, low⟩ fun q => q = r)
  (h : oneQ F ex ns o K l rows low = some r) : Ex F cx (.ops (.one o :: s) :: k) ⟨mk ns l, rows, low⟩ fun q => q = r := by
 obtain ⟨d, op, gd⟩ := o
 unfold oneQ at h
 simp only at h
 cases gd with
 | none => exact runD_ok hS hK h
 |
  some p =>
  obtain ⟨t, b⟩ := p
  simp only [gK_eq] at h
  rw [Ex_guard]
  have hw : want (mk ns l) (some (t, b)) = wantG (gO ns l) (some (t, b)) := by rw [wantG_ok, gO_ok]
  rw [hw]
  simp only [wantG]
  split at h
  ·rename_i c e
   first | rw [e] | skip
   try simp only
   rw [beqB_eq] at h
   refine ⟨_, rfl, ?_⟩
   cases hcb : (c == b) with
   |
    true =>
    rw [hcb, bq_true] at h
    rw [if_pos rfl]
    exact runD_ok hS hK h
   |
    false =>
    rw [hcb, bq_false, pQ_eq] at h
    rw [if_neg (by simp), pO_ok]
    exact hK _ _ _ h
  ·rename_i e
   first | rw [e] | skip
   try simp only
   refine ⟨_, rfl, ?_⟩
   rw [pQ_eq] at h
   rw [if_neg (by simp), pO_ok]
   exact hK _ _ _ h
  ·simp at h
theorem gop_ok {B : Nat → List Row} {o : IOpx} {b i : Nat} {l : List (Nat × AV)} {ext : List (Nat × Row)} {K : List (Nat × AV) → List (Nat × Row) → RR} {r : AV × List Row × Nat} (h : gopQ F ex ns B (o, b) i l ext K = some r) :
  ∃ v rows', opR (Ret F) (mk ns l) (B i ++ maskE b ext) ((B i).length + ext.length) o = some (v, rows', (B i).length + ext.length) ∧ K (pO l o.dst v) (ext ++ (rows'.drop ((B i).length + ext.length)).map fun x => (i, x)) = some r := by
 obtain ⟨d, op, gd⟩ := o
 have hdrop : ((B i ++ maskE b ext).drop ((B i).length + ext.length)).map (fun x => (i, x)) = [] := by
  rw [List.drop_of_length_le (by simp [maskE])]; rfl
 have one : ∀ gd : Option (Nat × Bool), want (mk ns l) gd = some true → gop1Q F ex ns B b d op i l ext K = some r →
   ∃ v rows', opR (Ret F) (mk ns l) (B i ++ maskE b ext) ((B i).length + ext.length) ⟨d, op, gd⟩ = some (v, rows', (B i).length + ext.length) ∧ K (pO l d v) (ext ++ (rows'.drop ((B i).length + ext.length)).map fun x => (i, x)) = some r := by
  intro gd hw h
  unfold gop1Q at h
  rw [baseX_eq] at h
  cases hp : op.pure with
  |
   true =>
   rw [hp, bq_true, pureQ_eq] at h
   cases he : evalP (B i ++ maskE b ext) (gO ns l) op with
   | none => rw [he] at h; simp at h
   |
    some v =>
    rw [he] at h
    simp only [Option.bind_some, pQ_eq] at h
    refine ⟨v, B i ++ maskE b ext, ?_, by rw [hdrop, List.append_nil]; exact h⟩
    unfold opR
    rw [hw]
    simp only
    split
    ·simp [IOp.pure] at hp
    ·rw [gO_ok, evalE_pure hp, he]; rfl
  |
   false =>
   rw [hp, bq_false] at h
   split at h
   ·rename_i v rows' low' ho
    cases hb : Nat.beq low' ((B i).length + ext.length) with
    | false => rw [hb] at h; simp at h
    |
     true =>
     rw [hb, bq_true] at h
     have hl := Nat.eq_of_beq_eq_true hb
     subst hl
     rw [frcW_eq, addX_eq, pQ_eq] at h
     refine ⟨v, rows', ?_, h⟩
     rw [← gO_ok] at ho
     have := opD_ok (callF_ok hS) ho
     unfold opR at this ⊢
     rw [hw]
     exact this
   ·simp at h
 unfold gopQ at h
 simp only at h
 cases gd with
 | none => exact one none rfl h
 |
  some p =>
  obtain ⟨t, b'⟩ := p
  simp only [gK_eq] at h
  have hw : want (mk ns l) (some (t, b')) = wantG (gO ns l) (some (t, b')) := by rw [wantG_ok, gO_ok]
  have no : want (mk ns l) (some (t, b')) = some false → pQ l d (.tup []) (fun l => K l ext) = some r →
    ∃ v rows', opR (Ret F) (mk ns l) (B i ++ maskE b ext) ((B i).length + ext.length) ⟨d, op, some (t, b')⟩ = some (v, rows', (B i).length + ext.length) ∧ K (pO l d v) (ext ++ (rows'.drop ((B i).length + ext.length)).map fun x => (i, x)) = some r := by
   intro hw h
   rw [pQ_eq] at h
   refine ⟨.tup [], B i ++ maskE b ext, ?_, by rw [hdrop, List.append_nil]; exact h⟩
   unfold opR
   rw [hw]
  split at h
  ·rename_i c e
   rw [beqB_eq] at h
   have hw2 : want (mk ns l) (some (t, b')) = some (c == b') := by rw [hw]; simp only [wantG, e]
   cases hcb : (c == b') with
   |
    true =>
    rw [hcb, bq_true] at h
    rw [hcb] at hw2
    exact one _ hw2 h
   |
    false =>
    rw [hcb, bq_false] at h
    rw [hcb] at hw2
    exact no hw2 h
  ·rename_i e
   have hw2 : want (mk ns l) (some (t, b')) = some false := by rw [hw]; simp only [wantG, e]
   exact no hw2 h
  ·simp at h
theorem grpR_ok {B : Nat → List Row} : ∀ (g : List (IOpx × Nat)) (i : Nat) (l : List (Nat × AV)) (ext : List (Nat × Row)) {K : List (Nat × AV) → List (Nat × Row) → RR} {r : AV × List Row × Nat}, grpR F ex ns B g i l ext K = some r →
  ∃ l' ext', evalG (Ret F) B i g (mk ns l) ext = some (mk ns l', ext') ∧ K l' ext' = some r
 | [], i, l, ext, K, r, h => ⟨l, ext, rfl, h⟩
 |
  (o, b) :: g, i, l, ext, K, r, h => by
  obtain ⟨v, rows', e1, e2⟩ := gop_ok hS h
  obtain ⟨l', ext', e3, e4⟩ := grpR_ok g (i + 1) _ _ e2
  refine ⟨l', ext', ?_, e4⟩
  simp only [evalG, e1, if_true, pO_ok]
  exact e3
theorem segQ_ok {sg : Seg} {K : KK} {l : List (Nat × AV)} {rows : List Row} {low : Nat} {s : List Seg} {r : AV × List Row × Nat} (hK : ∀ l rows low, K l rows low = some r → Ex F cx (.ops s :: k) ⟨mk ns l, rows, low⟩ fun q => q = r)
  (h : segQ F ex ns sg K l rows low = some r) : Ex F cx (.ops (sg :: s) :: k) ⟨mk ns l, rows, low⟩ fun q => q = r := by
 unfold segQ at h
 split at h
 ·exact oneQ_ok hS hK h
 ·rename_i g
  unfold grpQ at h
  obtain ⟨l', ext, e1, e2⟩ := grpR_ok hS g 0 l [] h
  rw [putX_eq] at e2
  rw [Ex_grpR]
  exact ⟨_, e1, hK _ _ _ e2⟩
 ·rename_i a y sz b g
  unfold grpwQ at h
  obtain ⟨l0, ext0, e1, e2⟩ := grpR_ok hS g 0 l [] h
  rw [gK_eq] at e2
  rw [Ex_grpwR]
  split at e2
  ·rename_i R off eR
   rw [spQ_eq] at e2
   obtain ⟨l', ext, e3, e4⟩ := grpR_ok hS g 0 l [] e2
   refine ⟨_, e1, R, off, by rw [gO_ok]; exact eR, _, e3, ?_⟩
   split at e4
   ·rename_i r' hr
    simp only [frcR_eq, setQ_eq, putX_eq, qN_eq] at e4
    exact ⟨r', hr, hK _ _ _ e4⟩
   ·simp at e4
  ·simp at e2
 ·simp at h
theorem segsQ_ok {K : KK} {r : AV × List Row × Nat} (hK : ∀ l rows low, K l rows low = some r → Ex F cx k ⟨mk ns l, rows, low⟩ fun q => q = r) : ∀ (s : List Seg) (l : List (Nat × AV)) (rows : List Row) (low : Nat), segsQ F ex ns K s l rows low = some r → Ex F cx (.ops s :: k) ⟨mk ns l, rows, low⟩ fun q => q = r
 | [], l, rows, low, h => by rw [Ex_opsNil]; exact hK _ _ _ h
 | sg :: s, l, rows, low, h => segQ_ok hS (fun l rows low h => segsQ_ok hK s l rows low h) h
omit hS in
theorem leave_ok' {j : Option Jump} {l : List (Nat × AV)} {rows : List Row} {low : Nat} {r : AV × List Row × Nat} (h : leaveD ns cx j l rows low = some r) : leaveV cx j ⟨mk ns l, rows, low⟩ = some r := by rw [leaveD_ok]; exact h
theorem codeQ_ok {c : ICode} {l : List (Nat × AV)} {rows : List Row} {low : Nat} {r : AV × List Row × Nat} (h : codeQ F ex ns cx c k l rows low = some r) : Ex F cx (.code c :: k) ⟨mk ns l, rows, low⟩ fun q => q = r := by
 cases c with
 | skip => rw [Ex_skip]; exact hS _ _ _ _ _ _ _ h
 | ret => rw [Ex_ret]; exact ⟨r, leave_ok' h, rfl⟩
 |
  exit id =>
  rw [Ex_exit]
  have h : exitQ ex ns cx id k l rows low = some r := h
  unfold exitQ at h
  split at h
  ·rename_i k' e; rw [e]; exact hS _ _ _ _ _ _ _ h
  ·rename_i e; rw [e]; exact ⟨r, leave_ok' h, rfl⟩
 | seq a b => rw [Ex_seq]; exact hS _ _ _ _ _ _ _ h
 |
  cond c a b =>
  rw [Ex_cond]
  have h : condQ ex ns cx c a b k l rows low = some r := h
  unfold condQ at h
  rw [gK_eq] at h
  split at h
  ·rename_i t e
   refine ⟨t, by rw [gO_ok]; exact e, ?_⟩
   cases t
   ·exact hS _ _ _ _ _ _ _ h
   ·exact hS _ _ _ _ _ _ _ h
  ·simp at h
 | block id c => rw [Ex_block]; exact hS _ _ _ _ _ _ _ h
 | loop c => rw [Ex_loop]; exact hS _ _ _ _ _ _ _ h
 | scope c => rw [Ex_scope]; exact hS _ _ _ _ _ _ _ h
 | ops s => rw [Ex_ops]; exact segsQ_ok hS (fun l rows low h => hS _ _ _ _ _ _ _ h) s l rows low h
 |
  rf f ps asg body =>
  have h : rfQ F ex ns cx f ps asg body k l rows low = some r := h
  unfold rfQ at h
  rw [Ex_rf]
  cases hb : rfOk cx rows with
  | false => rw [hb] at h; simp at h
  |
   true =>
   rw [hb, bq_true] at h
   refine ⟨rfl, ?_⟩
   split at h
   ·rename_i fid vs ht
    refine ⟨(fid, vs), by rw [gO_ok]; exact ht, ?_⟩
    simp only [frcR_eq, pushQ_eq, frcWs_eq] at h
    split at h
    ·rename_i v rows' d hx
     refine ⟨_, callF_ok hS _ _ _ _ hx, ?_⟩
     split at h
     ·rename_i k0 rows2 low2 ha
      simp only [spQ_eq, qN_eq] at h
      exact ⟨_, ha, hS _ _ _ _ _ _ _ h⟩
     ·simp at h
    ·simp at h
   ·simp at h
 |
  kill m ks c =>
  have h : bq (Nat.beq m ns) (onlyQ l ks fun l => ex ns cx (.code c :: k) l rows low) none = some r := h
  rw [Ex_kill]
  cases hb : Nat.beq m ns with
  | false => rw [hb] at h; simp at h
  |
   true =>
   rw [hb, bq_true, onlyQ_eq] at h
   have hm := Nat.eq_of_beq_eq_true hb
   subst hm
   rw [kill_dead]
   exact hS _ _ _ _ _ _ _ h
 | stop => have h : (none : RR) = some r := h; simp at h
theorem stepQ_ok : SD F (stepQ F ex) := by
 intro ns cx k l rows low r h
 cases k with
 | nil => rw [Ex_nil]; exact ⟨r, leave_ok' h, rfl⟩
 |
  cons x k =>
  cases x with
  | code c => exact codeQ_ok hS h
  | inBlock id => rw [Ex_inBlock]; exact hS _ _ _ _ _ _ _ h
  | inLoop c => rw [Ex_inLoop]; exact hS _ _ _ _ _ _ _ h
  | inScope c => rw [Ex_inScope]; exact hS _ _ _ _ _ _ _ h
  | ops s => exact segsQ_ok hS (fun l rows low h => hS _ _ _ _ _ _ _ h) s l rows low h
  |
   rfBegin =>
   have h2 : begQ ex ns cx k l rows low = some r := h
   clear h
   unfold begQ at h2
   split at h2
   ·rename_i id
    rw [rowK_eq] at h2
    cases hr : rows[id]? with
    | none => rw [hr] at h2; simp at h2
    |
     some w =>
     rw [hr] at h2
     simp only [Option.bind_some] at h2
     split at h2
     ·rename_i pd sl ps asg body
      simp only [setQ_eq, qN_eq] at h2
      rw [Ex_rfBegin]
      exact ⟨_, _, _, _, _, hr, hS _ _ _ _ _ _ _ h2⟩
     ·simp at h2
   ·simp at h2
end
theorem execQ_ok (F : Nat → Option IFn) : ∀ n, SD F (execQ F n)
 |
  0 => fun ns cx k l rows low r h => by
  have h : (none : RR) = some r := h
  simp at h
 | n + 1 => stepQ_ok (execQ_ok F n)
theorem Ret_Q {F : Nat → Option IFn} {n f : Nat} {vs : List AV} {rows : List Row} {q : AV × List Row × Option Nat} (h : cQ F n f vs rows = some q) : Ret F f vs rows = some q := callF_ok (execQ_ok F n) _ _ _ _ h
def okQ : Option (AV × List Row × Option Nat) → Bool
 | some (.bool true, _, none) => true
 | _ => false
theorem fin_true {rows rows' R : List Row} {v : AV} {low : Nat} (h : fin rows v rows' low = (.bool true, R, none)) : R = rows := by
 unfold fin at h
 split at h
 ·split at h
  ·simp only [Prod.mk.injEq] at h
   exact h.2.1.symm
  ·rename_i hn
   split at h
   ·split at h
    ·split at h
     ·simp only [Prod.mk.injEq] at h
      cases v <;> simp_all [AV.ids, AV.ids.idsL, AV.ren1, AV.ren]
     ·simp only [Prod.mk.injEq] at h
      obtain ⟨rfl, _⟩ := h
      simp [AV.ids] at hn
    ·simp only [Prod.mk.injEq] at h
     obtain ⟨rfl, _⟩ := h
     simp [AV.ids] at hn
   ·simp only [Prod.mk.injEq] at h
    obtain ⟨rfl, _⟩ := h
    simp [AV.ids] at hn
 ·simp at h
theorem Ret_okQ {F : Nat → Option IFn} {n f : Nat} {vs : List AV} {rows : List Row} (h : okQ (cQ F n f vs rows) = true) : Ret F f vs rows = some (.bool true, rows, none) := by
 unfold okQ at h
 split at h
 ·rename_i R e
  have e2 := Ret_Q e
  obtain ⟨m, hm⟩ := Ret_iff.1 e2
  unfold cF callBy at hm
  split at hm
  ·unfold callR at hm
   split at hm
   ·injection hm with hm
    rw [fin_true hm] at e2
    exact e2
   ·simp at hm
  ·simp at hm
 ·simp at h
end Go.Abs

set_option maxRecDepth 100000
namespace Go.Abs
theorem awT : okQ (cQ F 20000 19 [] gRows) = true := by kernel_rfl
theorem awake_g : Ret F 19 [] gRows = some (.bool true, gRows, none) := Ret_okQ awT
end Go.Abs

