/- The texts that the row uses, part 3. -/
import Derived.Test.YtichbmhjgbjiiaaDoorBK2
import Derived.AtR
import Derived.Orders
import Derived.KernelRfl
import Derived.Laws.Cells
import Derived.Laws.CopyRow
import Derived.Laws.Append
import Derived.Laws.AppendOwn
import Derived.Laws.Entries
import Derived.ArgAppend
import Derived.ChangeKeysEq
import Derived.WideLaws
import Derived.Laws.Small
import Derived.Laws.StructEq
import Derived.Laws.Cover3
import Derived.Laws.Tables
import Derived.Laws.Rows
import Derived.Below
import Derived.Laws.IdiomCopy
import Derived.RangeFuncNested
import Derived.Test.YtichbmhjgbjiiaaDoorProg
import Derived.Test.YtichbmhjgbjiiaaDoorRows
import Derived.ProofKit
import Derived.LaidMore
import Derived.OpenShut
import Derived.Stop.Joined
import Derived.ChangeSlices
import Derived.SizedLaws
import Derived.SevenTiedAt
import Derived.WalkKit
import Derived.ShutString
import Derived.ChangeOld
import Derived.Carry
set_option linter.unusedVariables false
set_option maxRecDepth 20000
set_option maxHeartbeats 4000000
namespace Go.Abs
def c16r0 : List Seg := [
 zo 77 (.fieldA 1 (.t 1)),
 zo 78 (.load1 (.t 77)),
 zo 79 (.len 0 (.t 78)),
 zo 80 (.fieldA 0 (.t 1)),
 zo 81 (.load1 (.t 80)),
 zm 82 14,
 zo 83 (.bin .sub (.t 81) (.t 82)),
 zo 84 (.bin .sub (.t 79) (.t 83)),
 zm 85 11,
 zo 86 (.bin .sub (.t 84) (.t 85)),
 zm 2 86,
 zo 3 (.mv (.c (.int .i64 0)))]
def c16k0 : ICode := .kill 87 [1, 11, 14] (.ops c16r0)
def c16s1 : ICode := (.seq c16k0 .ret)
def c16r2 : List Seg := [
 zo 73 (.loadN 3 (.t 1)),
 zo 74 (.call [] (.c (.func 50 [])) [(.t 73)]),
 zm 72 74,
 zo 75 (.ext (.t 72) 0),
 zo 76 (.ext (.t 72) 1),
 zm 14 75,
 zm 15 76]
def c16k2 : ICode := .kill 87 [1, 11] (.ops c16r2)
def c16s3 : ICode := (.seq c16k2 c16s1)
def c16r5 : List Seg := [
 zo 71 (.bin .add (.t 63) (.c (.int .i64 1))),
 zm 63 71]
def c16k5 : ICode := .kill 87 [1, 11, 61, 62, 63] (.ops c16r5)
def c16r6 : List Seg := [
 zm 69 11,
 zo 70 (.bin .add (.t 69) (.c (.int .i64 1))),
 zm 11 70]
def c16k6 : ICode := .kill 87 [1, 11, 61, 62, 63] (.ops c16r6)
def c16s7 : ICode := (.cond (.t 68) c16k6 .skip)
def c16r8 : List Seg := [
 zm 67 13,
 zo 68 (.bin .geq (.t 67) (.c (.int .i64 0)))]
def c16k8 : ICode := .kill 87 [1, 11, 13, 61, 62, 63] (.ops c16r8)
def c16s9 : ICode := (.seq c16k8 c16s7)
def c16r10 : List Seg := [
 zo 65 (.idxS 1 (.t 61) (.t 63)),
 zo 66 (.load1 (.t 65)),
 zm 13 66]
def c16k10 : ICode := .kill 87 [1, 11, 61, 62, 63] (.ops c16r10)
def c16s11 : ICode := (.seq (.block 7 (.seq c16k10 c16s9)) c16k5)
def c16s12 : ICode := (.seq (.cond (.t 64) .skip (.exit 6)) c16s11)
def c16r13 : List Seg := [
 zo 64 (.bin .lss (.t 63) (.t 62))]
def c16k13 : ICode := .kill 87 [1, 11, 61, 62, 63] (.ops c16r13)
def c16l4 : ICode := (.seq c16k13 c16s12)
def c16s14 : ICode := (.block 6 (.loop c16l4))
def c16r15 : List Seg := [
 zm 56 5,
 zo 57 (.fieldA 1 (.t 1)),
 zo 58 (.load1 (.t 57)),
 zo 59 (.len 0 (.t 58)),
 zo 60 (.loadN 2 (.c (.ptr 0 0))),
 zo 61 (.call [] (.c (.func 64 [])) [(.t 56), (.t 59), (.t 60)]),
 zo 62 (.len 0 (.t 61)),
 zo 63 (.mv (.c (.int .i64 0)))]
def c16k15 : ICode := .kill 87 [1, 5, 11] (.ops c16r15)
def c16s16 : ICode := (.seq (.seq c16k15 c16s14) c16s3)
def c16r17 : List Seg := [
 zo 11 (.mv (.c (.int .i64 0)))]
def c16k17 : ICode := .kill 87 [1, 5] (.ops c16r17)
def c16s18 : ICode := (.seq c16k17 c16s16)
def c16r20 : List Seg := [
 zo 55 (.bin .add (.t 24) (.c (.int .i64 1))),
 zm 24 55]
def c16k20 : ICode := .kill 87 [1, 2, 3, 5, 23, 24] (.ops c16r20)
def c16r21 : List Seg := [
 zm 51 5,
 zo 52 (.load1 (.t 7)),
 zo 53 (.mkslice 1 [.nilslice] [(0, 1, (.t 52))]),
 zo 54 (.app 1 24 (.t 51) (.t 53)),
 zm 5 54]
def c16k21 : ICode := .kill 87 [1, 2, 3, 5, 7, 23, 24] (.ops c16r21)
def c16r23 : List Seg := [
 .grp [(zp 46 (.load1 (.t 7)), 0), (zn 47 9, 0), (zn 48 10, 0), (zp 49 (.call [] (.c (.func 63 [])) [(.t 48)]), 4)],
 zo 50 (.idxS 2 (.t 46) (.t 47)),
 .one ⟨none, .storeN 2 (.t 50) (.t 49), none⟩]
def c16k23 : ICode := .kill 87 [7, 9, 10] (.ops c16r23)
def c16r24 : List Seg := [
 zm 10 45]
def c16k24 : ICode := .kill 87 [7, 9, 45] (.ops c16r24)
def c16r25 : List Seg := [
 zm 9 44]
def c16k25 : ICode := .kill 87 [7, 44, 45] (.ops c16r25)
def c16f22a : ICode := (.seq c16k25 c16k24)
def c16f22b : ICode := (.block 5 c16k23)
def c16s26 : ICode := (.block 4 (.rf (.t 43) [44, 45] c16f22a c16f22b))
def c16r27 : List Seg := [
 zo 41 (.loadN 3 (.t 1)),
 zm 42 6,
 zo 43 (.call [] (.c (.func 62 [])) [(.t 41), (.t 42)])]
def c16k27 : ICode := .kill 87 [1, 2, 3, 5, 6, 7, 23, 24] (.ops c16r27)
def c16s28 : ICode := (.seq (.seq c16k27 c16s26) c16k21)
def c16r30 : List Seg := [
 zo 40 (.bin .add (.t 33) (.c (.int .i64 1))),
 zm 33 40]
def c16k30 : ICode := .kill 87 [1, 2, 3, 5, 6, 7, 23, 24, 32, 33] (.ops c16r30)
def c16r31 : List Seg := [
 zo 36 (.load1 (.t 7)),
 zm 37 8,
 zo 38 (.loadN 2 (.c (.ptr 0 0))),
 zo 39 (.idxS 2 (.t 36) (.t 37)),
 .one ⟨none, .storeN 2 (.t 39) (.t 38), none⟩]
def c16k31 : ICode := .kill 87 [1, 2, 3, 5, 6, 7, 8, 23, 24, 32, 33] (.ops c16r31)
def c16r32 : List Seg := [
 zm 35 33,
 zm 8 35]
def c16k32 : ICode := .kill 87 [1, 2, 3, 5, 6, 7, 23, 24, 32, 33] (.ops c16r32)
def c16s33 : ICode := (.seq (.block 3 (.seq c16k32 c16k31)) c16k30)
def c16s34 : ICode := (.seq (.cond (.t 34) .skip (.exit 2)) c16s33)
def c16r35 : List Seg := [
 zo 34 (.bin .lss (.t 33) (.t 32))]
def c16k35 : ICode := .kill 87 [1, 2, 3, 5, 6, 7, 23, 24, 32, 33] (.ops c16r35)
def c16l29 : ICode := (.seq c16k35 c16s34)
def c16s36 : ICode := (.block 2 (.loop c16l29))
def c16r37 : List Seg := [
 zo 31 (.load1 (.t 7)),
 zo 32 (.len 0 (.t 31)),
 zo 33 (.mv (.c (.int .i64 0)))]
def c16k37 : ICode := .kill 87 [1, 2, 3, 5, 6, 7, 23, 24] (.ops c16r37)
def c16s38 : ICode := (.seq (.seq c16k37 c16s36) c16s28)
def c16r39 : List Seg := [
 zo 27 (.fieldA 1 (.t 1)),
 zo 28 (.load1 (.t 27)),
 zo 29 (.len 0 (.t 28)),
 zo 30 (.make [.int .i64 0, .int .i64 0] 16 (.t 29) (.t 29)),
 zo 7 (.box (.c .nilslice)),
 .one ⟨none, .store1 (.t 7) (.t 30), none⟩]
def c16k39 : ICode := .kill 87 [1, 2, 3, 5, 6, 23, 24] (.ops c16r39)
def c16s40 : ICode := (.seq c16k39 c16s38)
def c16r41 : List Seg := [
 zm 26 24,
 zm 6 26]
def c16k41 : ICode := .kill 87 [1, 2, 3, 5, 23, 24] (.ops c16r41)
def c16s42 : ICode := (.seq (.block 1 (.seq c16k41 c16s40)) c16k20)
def c16s43 : ICode := (.seq (.cond (.t 25) .skip (.exit 0)) c16s42)
def c16r44 : List Seg := [
 zo 25 (.bin .lss (.t 24) (.t 23))]
def c16k44 : ICode := .kill 87 [1, 2, 3, 5, 23, 24] (.ops c16r44)
def c16l19 : ICode := (.seq c16k44 c16s43)
def c16s45 : ICode := (.block 0 (.loop c16l19))
def c16r46 : List Seg := [
 zo 21 (.fieldA 2 (.t 1)),
 zo 22 (.load1 (.t 21)),
 zo 23 (.len 0 (.t 22)),
 zo 24 (.mv (.c (.int .i64 0)))]
def c16k46 : ICode := .kill 87 [1, 2, 3, 5] (.ops c16r46)
def c16s47 : ICode := (.seq (.seq c16k46 c16s45) c16s18)
def c16r48 : List Seg := [
 zo 5 (.mv (.c .nilslice))]
def c16k48 : ICode := .kill 87 [1, 2, 3] (.ops c16r48)
def c16s49 : ICode := (.seq c16k48 c16s47)
def c16r50 : List Seg := [
 zm 20 4,
 zo 2 (.mv (.c (.int .i64 0))),
 zm 3 20]
def c16k50 : ICode := .kill 87 [4] (.ops c16r50)
def c16s51 : ICode := (.cond (.t 19) (.seq c16k50 .ret) .skip)
def c16r52 : List Seg := [
 zm 18 4,
 zo 19 (.bin .neq (.t 18) (.c (.int .i64 0)))]
def c16k52 : ICode := .kill 87 [1, 2, 3, 4] (.ops c16r52)
def c16s53 : ICode := (.seq c16k52 c16s51)
def c16r54 : List Seg := [
 zo 16 (.loadN 3 (.t 1)),
 zo 17 (.call [] (.c (.func 59 [])) [(.t 16)]),
 zm 4 17]
def c16k54 : ICode := .kill 87 [1, 2, 3] (.ops c16r54)
def c16s55 : ICode := (.seq (.seq c16k54 c16s53) c16s49)
def c16r56 : List Seg := [
 zo 1 (.box (.t 0)),
 zo 2 (.mv (.c (.int .i64 0))),
 zo 3 (.mv (.c (.int .i64 0)))]
def c16k56 : ICode := .kill 87 [0] (.ops c16r56)
def c16b : ICode := (.seq c16k56 c16s55)
def c16 : IFn := ⟨87, [.t 2, .t 3], c16b⟩
def h16 : List (Nat × Nat × List Nat) := [(0, (87, [0])), (1, (87, [1, 2, 3])), (2, (87, [1, 2, 3, 4])), (3, (87, [4])), (4, (87, [1, 2, 3])), (5, (87, [1, 2, 3, 5])), (6, (87, [1, 2, 3, 5, 23, 24])), (7, (87, [1, 2, 3, 5, 23, 24])), (8, (87, [1, 2, 3, 5, 6, 23, 24])), (9, (87, [1, 2, 3, 5, 6, 7, 23, 24])), (10, (87, [1, 2, 3, 5, 6, 7, 23, 24, 32, 33])), (11, (87, [1, 2, 3, 5, 6, 7, 23, 24, 32, 33])), (12, (87, [1, 2, 3, 5, 6, 7, 8, 23, 24, 32, 33])), (13, (87, [1, 2, 3, 5, 6, 7, 23, 24, 32, 33])), (14, (87, [1, 2, 3, 5, 6, 7, 23, 24])), (15, (87, [7, 44, 45])), (16, (87, [7, 9, 45])), (17, (87, [7, 9, 10])), (18, (87, [1, 2, 3, 5, 7, 23, 24])), (19, (87, [1, 2, 3, 5, 23, 24])), (20, (87, [1, 5])), (21, (87, [1, 5, 11])), (22, (87, [1, 11, 61, 62, 63])), (23, (87, [1, 11, 61, 62, 63])), (24, (87, [1, 11, 13, 61, 62, 63])), (25, (87, [1, 11, 61, 62, 63])), (26, (87, [1, 11, 61, 62, 63])), (27, (87, [1, 11])), (28, (87, [1, 11, 14]))]
def c17r0 : List Seg := [
 .grp [(zp 5 (.fieldA 0 (.t 1)), 0), (zp 6 (.load1 (.t 5)), 1), (zn 7 3, 0), (zp 8 (.fieldA 1 (.t 1)), 0), (zp 9 (.load1 (.t 8)), 8), (zp 10 (.app 2 16 (.t 7) (.t 9)), 28), (zn 11 4, 0), (zp 12 (.fieldA 2 (.t 1)), 0), (zp 13 (.load1 (.t 12)), 128), (zp 14 (.app 3 24 (.t 11) (.t 13)), 508)],
 zo 15 (.mkagg [.int .i64 0, .nilslice, .nilslice] [(0, 1, (.t 6)), (1, 1, (.t 10)), (2, 1, (.t 14))]),
 .one ⟨none, .storeN 3 (.t 2) (.t 15), none⟩]
def c17k0 : ICode := .kill 16 [1, 2, 3, 4] (.ops c17r0)
def c17s1 : ICode := (.seq c17k0 .ret)
def c17r2 : List Seg := [
 zo 4 (.mv (.c .nilslice))]
def c17k2 : ICode := .kill 16 [1, 2, 3] (.ops c17r2)
def c17s3 : ICode := (.seq c17k2 c17s1)
def c17r4 : List Seg := [
 zo 3 (.mv (.c .nilslice))]
def c17k4 : ICode := .kill 16 [1, 2] (.ops c17r4)
def c17s5 : ICode := (.seq c17k4 c17s3)
def c17r6 : List Seg := [
 zo 1 (.box (.t 0)),
 zo 2 (.box (.c (.agg [.int .i64 0, .nilslice, .nilslice])))]
def c17k6 : ICode := .kill 16 [0] (.ops c17r6)
def c17b : ICode := (.seq c17k6 c17s5)
def c17 : IFn := ⟨16, [.cellN 2 3], c17b⟩
def h17 : List (Nat × Nat × List Nat) := [(0, (16, [0])), (1, (16, [1, 2])), (2, (16, [1, 2, 3])), (3, (16, [1, 2, 3, 4]))]
def c19r0 : List Seg := [
 zm 62 3,
 zo 63 (.bin .eql (.t 62) (.c (.int .i64 0))),
 zm 64 63,
 .one ⟨some 65, .idxA 3 1 (.t 2) (.c (.int .i64 0)), some (64, true)⟩,
 .one ⟨some 66, .load1 (.t 65), some (64, true)⟩,
 .one ⟨some 67, .mkagg [.int .i64 0, .int .i64 0] [(0, 1, (.c (.int .i64 2))), (1, 1, (.c (.int .i64 3)))], some (64, true)⟩,
 .one ⟨some 68, .mkagg [.int .i64 0, .int .i64 0] [(0, 1, (.c (.int .i64 4))), (1, 1, (.c (.int .i64 3)))], some (64, true)⟩,
 .one ⟨some 69, .mkagg [.int .i64 0, .int .i64 0] [(0, 1, (.c (.int .i64 2))), (1, 1, (.c (.int .i64 3)))], some (64, true)⟩,
 .one ⟨some 70, .mkslice 3 [.int .i64 0, .int .i64 0, .int .i64 0, .int .i64 0, .int .i64 0, .int .i64 0] [(0, 2, (.t 67)), (2, 2, (.t 68)), (4, 2, (.t 69))], some (64, true)⟩,
 .one ⟨some 71, .call [] (.c (.func 28 [])) [(.t 66), (.t 70)], some (64, true)⟩,
 zo 72 (.pick (.t 64) (.t 71) (.c (.bool false))),
 zm 73 72,
 .one ⟨some 74, .idxA 3 1 (.t 2) (.c (.int .i64 2)), some (73, true)⟩,
 .one ⟨some 75, .load1 (.t 74), some (73, true)⟩,
 .one ⟨some 76, .mkagg [.int .i64 0, .int .i64 0] [(0, 1, (.c (.int .i64 1))), (1, 1, (.c (.int .i64 3)))], some (73, true)⟩,
 .one ⟨some 77, .mkagg [.int .i64 0, .int .i64 0] [(0, 1, (.c (.int .i64 (-1)))), (1, 1, (.c (.int .i64 3)))], some (73, true)⟩,
 .one ⟨some 78, .mkagg [.int .i64 0, .int .i64 0] [(0, 1, (.c (.int .i64 1))), (1, 1, (.c (.int .i64 3)))], some (73, true)⟩,
 .one ⟨some 79, .mkslice 3 [.int .i64 0, .int .i64 0, .int .i64 0, .int .i64 0, .int .i64 0, .int .i64 0] [(0, 2, (.t 76)), (2, 2, (.t 77)), (4, 2, (.t 78))], some (73, true)⟩,
 .one ⟨some 80, .call [] (.c (.func 28 [])) [(.t 75), (.t 79)], some (73, true)⟩,
 zo 81 (.pick (.t 73) (.t 80) (.c (.bool false))),
 zm 82 81,
 .one ⟨some 83, .mv (.t 6), some (82, true)⟩,
 .one ⟨some 84, .bin .eql (.t 83) (.c (.int .i64 0)), some (82, true)⟩,
 zo 85 (.pick (.t 82) (.t 84) (.c (.bool false))),
 zm 86 85,
 .one ⟨some 87, .mv (.t 5), some (86, true)⟩,
 .one ⟨some 88, .un .not (.t 87), some (86, true)⟩,
 zo 89 (.pick (.t 86) (.t 88) (.c (.bool false))),
 zm 90 89,
 .one ⟨some 91, .mv (.t 9), some (90, true)⟩,
 .one ⟨some 92, .bin .eql (.t 91) (.c (.int .i64 0)), some (90, true)⟩,
 zo 93 (.pick (.t 90) (.t 92) (.c (.bool false))),
 zm 94 93,
 .one ⟨some 95, .mv (.t 8), some (94, true)⟩,
 zo 96 (.pick (.t 94) (.t 95) (.c (.bool false))),
 zm 97 96,
 .one ⟨some 98, .mv (.t 7), some (97, true)⟩,
 .one ⟨some 99, .mkslice 2 [.int .i64 0, .int .i64 0] [(0, 1, (.c (.int .i64 0))), (1, 1, (.c (.int .i64 7)))], some (97, true)⟩,
 .one ⟨some 100, .call [] (.c (.func 27 [])) [(.t 98), (.t 99)], some (97, true)⟩,
 zo 101 (.pick (.t 97) (.t 100) (.c (.bool false))),
 zm 102 101,
 .one ⟨some 103, .mv (.t 11), some (102, true)⟩,
 .one ⟨some 104, .bin .eql (.t 103) (.c (.int .i64 0)), some (102, true)⟩,
 zo 105 (.pick (.t 102) (.t 104) (.c (.bool false))),
 zm 106 105,
 .one ⟨some 107, .mv (.t 10), some (106, true)⟩,
 .one ⟨some 108, .bin .eql (.t 107) (.c (.int .i64 1)), some (106, true)⟩,
 zo 109 (.pick (.t 106) (.t 108) (.c (.bool false))),
 zm 110 109,
 .one ⟨some 111, .mv (.t 14), some (110, true)⟩,
 .one ⟨some 112, .bin .eql (.t 111) (.c (.int .i64 0)), some (110, true)⟩,
 zo 113 (.pick (.t 110) (.t 112) (.c (.bool false))),
 zm 114 113,
 .one ⟨some 115, .mv (.t 13), some (114, true)⟩,
 .one ⟨some 116, .bin .eql (.t 115) (.c (.int .i64 0)), some (114, true)⟩,
 zo 117 (.pick (.t 114) (.t 116) (.c (.bool false))),
 zm 118 117,
 .one ⟨some 119, .mkagg [.int .i64 0, .nilslice, .nilslice] [], some (118, true)⟩,
 .one ⟨some 120, .call [] (.c (.func 59 [])) [(.t 119)], some (118, true)⟩,
 .one ⟨some 121, .bin .eql (.t 120) (.c (.int .i64 30)), some (118, true)⟩,
 zo 122 (.pick (.t 118) (.t 121) (.c (.bool false))),
 zm 0 122]
def c19k0 : ICode := .kill 123 [2, 3, 5, 6, 7, 8, 9, 10, 11, 13, 14] (.ops c19r0)
def c19s1 : ICode := (.seq c19k0 .ret)
def c19r2 : List Seg := [
 zo 58 (.loadN 3 (.t 12)),
 zo 59 (.call [] (.c (.func 16 [])) [(.t 58)]),
 zm 57 59,
 zo 60 (.ext (.t 57) 0),
 zo 61 (.ext (.t 57) 1),
 zm 13 60,
 zm 14 61]
def c19k2 : ICode := .kill 123 [2, 3, 5, 6, 7, 8, 9, 10, 11, 12] (.ops c19r2)
def c19s3 : ICode := (.seq c19k2 c19s1)
def c19r4 : List Seg := [
 zo 52 (.fieldA 1 (.t 1)),
 zo 53 (.load1 (.t 52)),
 zo 54 (.mkagg [.int .i64 0, .int .i64 0, .int .i64 0] [(0, 1, (.c (.int .i64 0))), (1, 1, (.c (.int .i64 1))), (2, 1, (.c (.int .i64 2)))]),
 zo 55 (.mkslice 1 [.int .i64 0, .int .i64 0, .int .i64 0] [(0, 3, (.t 54))]),
 zo 56 (.mkagg [.int .i64 0, .nilslice, .nilslice] [(0, 1, (.c (.int .i64 3))), (1, 1, (.t 53)), (2, 1, (.t 55))]),
 zo 12 (.box (.c (.agg [.int .i64 0, .nilslice, .nilslice]))),
 .one ⟨none, .storeN 3 (.t 12) (.t 56), none⟩]
def c19k4 : ICode := .kill 123 [1, 2, 3, 5, 6, 7, 8, 9, 10, 11] (.ops c19r4)
def c19s5 : ICode := (.seq c19k4 c19s3)
def c19r6 : List Seg := [
 zo 43 (.mkagg [.int .i64 0, .int .i64 0] [(0, 1, (.c (.int .i64 0))), (1, 1, (.c (.int .i64 1)))]),
 zo 44 (.mkagg [.int .i64 0, .int .i64 0] [(0, 1, (.c (.int .i64 0))), (1, 1, (.c (.int .i64 3)))]),
 zo 45 (.mkagg [.int .i64 0, .int .i64 0] [(0, 1, (.c (.int .i64 1))), (1, 1, (.c (.int .i64 2)))]),
 zo 46 (.mkagg [.int .i64 0, .int .i64 0] [(0, 1, (.c (.int .i64 2))), (1, 1, (.c (.int .i64 3)))]),
 zo 47 (.mkslice 4 [.int .i64 0, .int .i64 0, .int .i64 0, .int .i64 0, .int .i64 0, .int .i64 0, .int .i64 0, .int .i64 0] [(0, 2, (.t 43)), (2, 2, (.t 44)), (4, 2, (.t 45)), (6, 2, (.t 46))]),
 zo 48 (.mkagg [.int .i64 0, .nilslice, .nilslice] [(0, 1, (.c (.int .i64 4))), (1, 1, (.t 47))]),
 zo 49 (.call [] (.c (.func 16 [])) [(.t 48)]),
 zm 42 49,
 zo 50 (.ext (.t 42) 0),
 zo 51 (.ext (.t 42) 1),
 zm 10 50,
 zm 11 51]
def c19k6 : ICode := .kill 123 [1, 2, 3, 5, 6, 7, 8, 9] (.ops c19r6)
def c19s7 : ICode := (.seq c19k6 c19s5)
def c19r8 : List Seg := [
 zo 34 (.mkagg [.int .i64 0, .int .i64 0] [(0, 1, (.c (.int .i64 0))), (1, 1, (.c (.int .i64 1)))]),
 zo 35 (.mkslice 1 [.int .i64 0, .int .i64 0] [(0, 2, (.t 34))]),
 zo 36 (.mkagg [.int .i64 0, .nilslice, .nilslice] [(0, 1, (.c (.int .i64 2))), (1, 1, (.t 35))]),
 zo 37 (.mkslice 1 [.int .i64 0] [(0, 1, (.c (.int .i64 7)))]),
 zo 38 (.call [] (.c (.func 41 [])) [(.t 36), (.t 37)]),
 zm 33 38,
 zo 39 (.ext (.t 33) 0),
 zo 40 (.ext (.t 33) 1),
 zo 41 (.ext (.t 33) 2),
 zm 7 39,
 zm 8 40,
 zm 9 41]
def c19k8 : ICode := .kill 123 [1, 2, 3, 5, 6] (.ops c19r8)
def c19s9 : ICode := (.seq c19k8 c19s7)
def c19r10 : List Seg := [
 zo 27 (.loadN 3 (.t 1)),
 zo 28 (.mkslice 3 [.int .i64 0, .int .i64 0, .int .i64 0] [(0, 1, (.c (.int .i64 1))), (1, 1, (.c (.int .i64 1))), (2, 1, (.c (.int .i64 1)))]),
 zo 29 (.call [] (.c (.func 41 [])) [(.t 27), (.t 28)]),
 zm 26 29,
 zo 30 (.ext (.t 26) 0),
 zo 31 (.ext (.t 26) 1),
 zo 32 (.ext (.t 26) 2),
 zm 4 30,
 zm 5 31,
 zm 6 32]
def c19k10 : ICode := .kill 123 [1, 2, 3] (.ops c19r10)
def c19s11 : ICode := (.seq c19k10 c19s9)
def c19r12 : List Seg := [
 zo 21 (.loadN 3 (.t 1)),
 zo 22 (.mkslice 3 [.int .i64 0, .int .i64 0, .int .i64 0] [(0, 1, (.c (.int .i64 1))), (1, 1, (.c (.int .i64 1))), (2, 1, (.c (.int .i64 1)))]),
 zo 23 (.call [] (.c (.func 23 [])) [(.t 21), (.t 22)]),
 zm 20 23,
 zo 24 (.ext (.t 20) 0),
 zo 25 (.ext (.t 20) 1),
 zo 2 (.box (.c (.agg [.nilslice, .nilslice, .nilslice]))),
 .one ⟨none, .storeN 3 (.t 2) (.t 24), none⟩,
 zm 3 25]
def c19k12 : ICode := .kill 123 [1] (.ops c19r12)
def c19s13 : ICode := (.seq c19k12 c19s11)
def c19r14 : List Seg := [
 zo 15 (.mkagg [.int .i64 0, .int .i64 0] [(0, 1, (.c (.int .i64 0))), (1, 1, (.c (.int .i64 1)))]),
 zo 16 (.mkagg [.int .i64 0, .int .i64 0] [(0, 1, (.c (.int .i64 0))), (1, 1, (.c (.int .i64 2)))]),
 zo 17 (.mkagg [.int .i64 0, .int .i64 0] [(0, 1, (.c (.int .i64 1))), (1, 1, (.c (.int .i64 2)))]),
 zo 18 (.mkslice 3 [.int .i64 0, .int .i64 0, .int .i64 0, .int .i64 0, .int .i64 0, .int .i64 0] [(0, 2, (.t 15)), (2, 2, (.t 16)), (4, 2, (.t 17))]),
 zo 19 (.mkagg [.int .i64 0, .nilslice, .nilslice] [(0, 1, (.c (.int .i64 3))), (1, 1, (.t 18))]),
 zo 1 (.box (.c (.agg [.int .i64 0, .nilslice, .nilslice]))),
 .one ⟨none, .storeN 3 (.t 1) (.t 19), none⟩]
def c19k14 : ICode := .kill 123 [] (.ops c19r14)
def c19s15 : ICode := (.seq c19k14 c19s13)
def c19r16 : List Seg := [
 zo 0 (.mv (.c (.bool false)))]
def c19k16 : ICode := .kill 123 [] (.ops c19r16)
def c19b : ICode := (.seq c19k16 c19s15)
def c19 : IFn := ⟨123, [.t 0], c19b⟩
def h19 : List (Nat × Nat × List Nat) := [(0, (123, [])), (1, (123, [])), (2, (123, [1])), (3, (123, [1, 2, 3])), (4, (123, [1, 2, 3, 5, 6])), (5, (123, [1, 2, 3, 5, 6, 7, 8, 9])), (6, (123, [1, 2, 3, 5, 6, 7, 8, 9, 10, 11])), (7, (123, [2, 3, 5, 6, 7, 8, 9, 10, 11, 12])), (8, (123, [2, 3, 5, 6, 7, 8, 9, 10, 11, 13, 14]))]
def c21r0 : List Seg := [
 zm 6 5,
 zm 7 0,
 zm 8 0,
 zo 9 (.len 0 (.t 8)),
 zm 10 1,
 zo 11 (.mn [(.t 9), (.t 10)]),
 zo 12 (.sliceS 1 (.t 7) none (some (.t 11)) none),
 zo 13 (.app 1 8 (.t 6) (.t 12)),
 zm 4 13]
def c21k0 : ICode := .kill 14 [0, 1, 5] (.ops c21r0)
def c21s1 : ICode := (.seq c21k0 .ret)
def c21r2 : List Seg := [
 zo 5 (.mv (.c .nilslice))]
def c21k2 : ICode := .kill 14 [0, 1] (.ops c21r2)
def c21s3 : ICode := (.seq c21k2 c21s1)
def c21r4 : List Seg := [
 zo 4 (.mv (.c .nilslice))]
def c21k4 : ICode := .kill 14 [0, 1] (.ops c21r4)
def c21b : ICode := (.seq c21k4 c21s3)
def c21 : IFn := ⟨14, [.t 4], c21b⟩
def h21 : List (Nat × Nat × List Nat) := [(0, (14, [0, 1])), (1, (14, [0, 1])), (2, (14, [0, 1, 5]))]
def c22r0 : List Seg := [
 zm 52 7,
 zm 4 52,
 zo 5 (.mv (.c (.int .i64 0)))]
def c22k0 : ICode := .kill 53 [7] (.ops c22r0)
def c22s1 : ICode := (.seq c22k0 .ret)
def c22r3 : List Seg := [
 zo 51 (.bin .add (.t 24) (.c (.int .i64 1))),
 zm 24 51]
def c22k3 : ICode := .kill 53 [1, 7, 22, 23, 24] (.ops c22r3)
def c22r4 : List Seg := [
 .grp [(zn 40 7, 0), (zp 41 (.idxA 2 1 (.t 9) (.c (.int .i64 1))), 0), (zp 42 (.load1 (.t 41)), 2), (zp 43 (.idxS 1 (.t 40) (.t 42)), 7), (zp 44 (.load1 (.t 43)), 15), (zn 45 1, 0), (zn 46 8, 0), (zp 47 (.idxS 1 (.t 45) (.t 46)), 96), (zp 48 (.load1 (.t 47)), 224)],
 zo 49 (.bin .add (.t 44) (.t 48)),
 zo 50 (.idxS 1 (.t 40) (.t 42)),
 .one ⟨none, .store1 (.t 50) (.t 49), none⟩]
def c22k4 : ICode := .kill 53 [1, 7, 8, 9, 22, 23, 24] (.ops c22r4)
def c22r5 : List Seg := [
 .grp [(zn 29 7, 0), (zp 30 (.idxA 2 1 (.t 9) (.c (.int .i64 0))), 0), (zp 31 (.load1 (.t 30)), 2), (zp 32 (.idxS 1 (.t 29) (.t 31)), 7), (zp 33 (.load1 (.t 32)), 15), (zn 34 1, 0), (zn 35 8, 0), (zp 36 (.idxS 1 (.t 34) (.t 35)), 96), (zp 37 (.load1 (.t 36)), 224)],
 zo 38 (.bin .sub (.t 33) (.t 37)),
 zo 39 (.idxS 1 (.t 29) (.t 31)),
 .one ⟨none, .store1 (.t 39) (.t 38), none⟩]
def c22k5 : ICode := .kill 53 [1, 7, 8, 9, 22, 23, 24] (.ops c22r5)
def c22s6 : ICode := (.seq c22k5 c22k4)
def c22r7 : List Seg := [
 zm 26 24,
 zo 27 (.idxS 2 (.t 22) (.t 24)),
 zo 28 (.loadN 2 (.t 27)),
 zo 9 (.box (.c (.agg [.int .i64 0, .int .i64 0]))),
 zm 8 26,
 .one ⟨none, .storeN 2 (.t 9) (.t 28), none⟩]
def c22k7 : ICode := .kill 53 [1, 7, 22, 23, 24] (.ops c22r7)
def c22s8 : ICode := (.seq (.block 1 (.seq c22k7 c22s6)) c22k3)
def c22s9 : ICode := (.seq (.cond (.t 25) .skip (.exit 0)) c22s8)
def c22r10 : List Seg := [
 zo 25 (.bin .lss (.t 24) (.t 23))]
def c22k10 : ICode := .kill 53 [1, 7, 22, 23, 24] (.ops c22r10)
def c22l2 : ICode := (.seq c22k10 c22s9)
def c22s11 : ICode := (.block 0 (.loop c22l2))
def c22r12 : List Seg := [
 zo 21 (.fieldA 1 (.t 2)),
 zo 22 (.load1 (.t 21)),
 zo 23 (.len 0 (.t 22)),
 zo 24 (.mv (.c (.int .i64 0)))]
def c22k12 : ICode := .kill 53 [1, 2, 7] (.ops c22r12)
def c22s13 : ICode := (.seq (.seq c22k12 c22s11) c22s1)
def c22r14 : List Seg := [
 zo 18 (.fieldA 0 (.t 2)),
 zo 19 (.load1 (.t 18)),
 zo 20 (.make [.int .i64 0] 8 (.t 19) (.t 19)),
 zm 7 20]
def c22k14 : ICode := .kill 53 [1, 2] (.ops c22r14)
def c22s15 : ICode := (.seq c22k14 c22s13)
def c22r16 : List Seg := [
 zm 17 6,
 zo 4 (.mv (.c .nilslice)),
 zm 5 17]
def c22k16 : ICode := .kill 53 [6] (.ops c22r16)
def c22s17 : ICode := (.cond (.t 16) (.seq c22k16 .ret) .skip)
def c22r18 : List Seg := [
 zm 15 6,
 zo 16 (.bin .neq (.t 15) (.c (.int .i64 0)))]
def c22k18 : ICode := .kill 53 [1, 2, 6] (.ops c22r18)
def c22s19 : ICode := (.seq c22k18 c22s17)
def c22r20 : List Seg := [
 zo 10 (.loadN 3 (.t 2)),
 zm 11 1,
 zo 12 (.loadN 3 (.t 2)),
 zo 13 (.bind 67 [(.t 12)]),
 zo 14 (.call [] (.c (.func 66 [])) [(.t 10), (.t 11), (.t 13)]),
 zm 6 14]
def c22k20 : ICode := .kill 53 [1, 2] (.ops c22r20)
def c22s21 : ICode := (.seq (.seq c22k20 c22s19) c22s15)
def c22r22 : List Seg := [
 zo 2 (.box (.t 0)),
 zo 4 (.mv (.c .nilslice)),
 zo 5 (.mv (.c (.int .i64 0)))]
def c22k22 : ICode := .kill 53 [0, 1] (.ops c22r22)
def c22b : ICode := (.seq c22k22 c22s21)
def c22 : IFn := ⟨53, [.t 4, .t 5], c22b⟩
def h22 : List (Nat × Nat × List Nat) := [(0, (53, [0, 1])), (1, (53, [1, 2])), (2, (53, [1, 2, 6])), (3, (53, [6])), (4, (53, [1, 2])), (5, (53, [1, 2, 7])), (6, (53, [1, 7, 22, 23, 24])), (7, (53, [1, 7, 22, 23, 24])), (8, (53, [1, 7, 8, 9, 22, 23, 24])), (9, (53, [1, 7, 8, 9, 22, 23, 24])), (10, (53, [1, 7, 22, 23, 24])), (11, (53, [7]))]
def c23r0 : List Seg := [
 zo 31 (.loadN 3 (.t 7)),
 .one ⟨none, .storeN 3 (.t 4) (.t 31), none⟩,
 zo 5 (.mv (.c (.int .i64 0)))]
def c23k0 : ICode := .kill 32 [4, 7] (.ops c23r0)
def c23s1 : ICode := (.seq c23k0 .ret)
def c23r3 : List Seg := [
 zo 30 (.bin .add (.t 22) (.c (.int .i64 1))),
 zm 22 30]
def c23k3 : ICode := .kill 32 [4, 7, 21, 22] (.ops c23r3)
def c23r4 : List Seg := [
 zm 26 8,
 zm 27 9,
 zo 28 (.call [] (.c (.func 69 [])) [(.t 27)]),
 zo 29 (.idxA 3 1 (.t 7) (.t 26)),
 .one ⟨none, .store1 (.t 29) (.t 28), none⟩]
def c23k4 : ICode := .kill 32 [4, 7, 8, 9, 21, 22] (.ops c23r4)
def c23r5 : List Seg := [
 zm 24 22,
 zo 25 (.idxV 3 1 false (.t 21) (.t 22)),
 zm 8 24,
 zm 9 25]
def c23k5 : ICode := .kill 32 [4, 7, 21, 22] (.ops c23r5)
def c23s6 : ICode := (.seq (.block 1 (.seq c23k5 c23k4)) c23k3)
def c23s7 : ICode := (.seq (.cond (.t 23) .skip (.exit 0)) c23s6)
def c23r8 : List Seg := [
 zo 23 (.bin .lss (.t 22) (.c (.int .i64 3)))]
def c23k8 : ICode := .kill 32 [4, 7, 21, 22] (.ops c23r8)
def c23l2 : ICode := (.seq c23k8 c23s7)
def c23s9 : ICode := (.block 0 (.loop c23l2))
def c23r10 : List Seg := [
 zo 19 (.loadN 3 (.t 2)),
 zm 20 1,
 zo 21 (.call [] (.c (.func 68 [])) [(.t 19), (.t 20)]),
 zo 22 (.mv (.c (.int .i64 0)))]
def c23k10 : ICode := .kill 32 [1, 2, 4, 7] (.ops c23r10)
def c23s11 : ICode := (.seq (.seq c23k10 c23s9) c23s1)
def c23r12 : List Seg := [
 zo 7 (.box (.c (.agg [.nilslice, .nilslice, .nilslice])))]
def c23k12 : ICode := .kill 32 [1, 2, 4] (.ops c23r12)
def c23s13 : ICode := (.seq c23k12 c23s11)
def c23r14 : List Seg := [
 zo 17 (.mkagg [.nilslice, .nilslice, .nilslice] []),
 zm 18 6,
 .one ⟨none, .storeN 3 (.t 4) (.t 17), none⟩,
 zm 5 18]
def c23k14 : ICode := .kill 32 [4, 6] (.ops c23r14)
def c23s15 : ICode := (.cond (.t 16) (.seq c23k14 .ret) .skip)
def c23r16 : List Seg := [
 zm 15 6,
 zo 16 (.bin .neq (.t 15) (.c (.int .i64 0)))]
def c23k16 : ICode := .kill 32 [1, 2, 4, 6] (.ops c23r16)
def c23s17 : ICode := (.seq c23k16 c23s15)
def c23r18 : List Seg := [
 zo 10 (.loadN 3 (.t 2)),
 zm 11 1,
 zo 12 (.loadN 3 (.t 2)),
 zo 13 (.bind 67 [(.t 12)]),
 zo 14 (.call [] (.c (.func 66 [])) [(.t 10), (.t 11), (.t 13)]),
 zm 6 14]
def c23k18 : ICode := .kill 32 [1, 2, 4] (.ops c23r18)
def c23s19 : ICode := (.seq (.seq c23k18 c23s17) c23s13)
def c23r20 : List Seg := [
 zo 2 (.box (.t 0)),
 zo 4 (.box (.c (.agg [.nilslice, .nilslice, .nilslice]))),
 zo 5 (.mv (.c (.int .i64 0)))]
def c23k20 : ICode := .kill 32 [0, 1] (.ops c23r20)
def c23b : ICode := (.seq c23k20 c23s19)
def c23 : IFn := ⟨32, [.cellN 4 3, .t 5], c23b⟩
def h23 : List (Nat × Nat × List Nat) := [(0, (32, [0, 1])), (1, (32, [1, 2, 4])), (2, (32, [1, 2, 4, 6])), (3, (32, [4, 6])), (4, (32, [1, 2, 4])), (5, (32, [1, 2, 4, 7])), (6, (32, [4, 7, 21, 22])), (7, (32, [4, 7, 21, 22])), (8, (32, [4, 7, 8, 9, 21, 22])), (9, (32, [4, 7, 21, 22])), (10, (32, [4, 7]))]
def c24r0 : List Seg := [
 zo 15 (.loadN 3 (.t 2)),
 zm 16 1,
 zo 17 (.call [] (.c (.func 70 [])) [(.t 15), (.t 16)]),
 zo 18 (.call [] (.c (.func 69 [])) [(.t 17)]),
 zm 4 18,
 zo 5 (.mv (.c (.int .i64 0)))]
def c24k0 : ICode := .kill 19 [1, 2] (.ops c24r0)
def c24s1 : ICode := (.seq c24k0 .ret)
def c24r2 : List Seg := [
 zm 14 6,
 zo 4 (.mv (.c .nilslice)),
 zm 5 14]
def c24k2 : ICode := .kill 19 [6] (.ops c24r2)
def c24s3 : ICode := (.cond (.t 13) (.seq c24k2 .ret) .skip)
def c24r4 : List Seg := [
 zm 12 6,
 zo 13 (.bin .neq (.t 12) (.c (.int .i64 0)))]
def c24k4 : ICode := .kill 19 [1, 2, 6] (.ops c24r4)
def c24s5 : ICode := (.seq c24k4 c24s3)
def c24r6 : List Seg := [
 zo 7 (.loadN 3 (.t 2)),
 zm 8 1,
 zo 9 (.loadN 3 (.t 2)),
 zo 10 (.bind 67 [(.t 9)]),
 zo 11 (.call [] (.c (.func 66 [])) [(.t 7), (.t 8), (.t 10)]),
 zm 6 11]
def c24k6 : ICode := .kill 19 [1, 2] (.ops c24r6)
def c24s7 : ICode := (.seq (.seq c24k6 c24s5) c24s1)
def c24r8 : List Seg := [
 zo 2 (.box (.t 0)),
 zo 4 (.mv (.c .nilslice)),
 zo 5 (.mv (.c (.int .i64 0)))]
def c24k8 : ICode := .kill 19 [0, 1] (.ops c24r8)
def c24b : ICode := (.seq c24k8 c24s7)
def c24 : IFn := ⟨19, [.t 4, .t 5], c24b⟩
def h24 : List (Nat × Nat × List Nat) := [(0, (19, [0, 1])), (1, (19, [1, 2])), (2, (19, [1, 2, 6])), (3, (19, [6])), (4, (19, [1, 2]))]
def c26r0 : List Seg := [
 .grp [(zp 5 (.fieldA 0 (.t 1)), 0), (zp 6 (.load1 (.t 5)), 1), (zn 7 3, 0), (zp 8 (.fieldA 1 (.t 1)), 0), (zp 9 (.load1 (.t 8)), 8), (zp 10 (.fieldA 1 (.t 1)), 0), (zp 11 (.load1 (.t 10)), 32), (zp 12 (.len 0 (.t 11)), 96), (zp 13 (.mn [(.t 12), (.c (.int .i64 11))]), 224), (zp 14 (.sliceS 2 (.t 9) none (some (.t 13)) none), 504), (zp 15 (.app 2 16 (.t 7) (.t 14)), 1020), (zn 16 4, 0), (zp 17 (.fieldA 2 (.t 1)), 0), (zp 18 (.load1 (.t 17)), 4096), (zp 19 (.fieldA 2 (.t 1)), 0), (zp 20 (.load1 (.t 19)), 16384), (zp 21 (.len 0 (.t 20)), 49152), (zp 22 (.mn [(.t 21), (.c (.int .i64 7))]), 114688), (zp 23 (.sliceS 3 (.t 18) none (some (.t 22)) none), 258048), (zp 24 (.app 3 24 (.t 16) (.t 23)), 524284)],
 zo 25 (.mkagg [.int .i64 0, .nilslice, .nilslice] [(0, 1, (.t 6)), (1, 1, (.t 15)), (2, 1, (.t 24))]),
 .one ⟨none, .storeN 3 (.t 2) (.t 25), none⟩]
def c26k0 : ICode := .kill 26 [1, 2, 3, 4] (.ops c26r0)
def c26s1 : ICode := (.seq c26k0 .ret)
def c26r2 : List Seg := [
 zo 4 (.mv (.c .nilslice))]
def c26k2 : ICode := .kill 26 [1, 2, 3] (.ops c26r2)
def c26s3 : ICode := (.seq c26k2 c26s1)
def c26r4 : List Seg := [
 zo 3 (.mv (.c .nilslice))]
def c26k4 : ICode := .kill 26 [1, 2] (.ops c26r4)
def c26s5 : ICode := (.seq c26k4 c26s3)
def c26r6 : List Seg := [
 zo 1 (.box (.t 0)),
 zo 2 (.box (.c (.agg [.int .i64 0, .nilslice, .nilslice])))]
def c26k6 : ICode := .kill 26 [0] (.ops c26r6)
def c26b : ICode := (.seq c26k6 c26s5)
def c26 : IFn := ⟨26, [.cellN 2 3], c26b⟩
def h26 : List (Nat × Nat × List Nat) := [(0, (26, [0])), (1, (26, [1, 2])), (2, (26, [1, 2, 3])), (3, (26, [1, 2, 3, 4]))]
def c27r0 : List Seg := [
 zo 4 (.mv (.c (.bool true)))]
def c27k0 : ICode := .kill 26 [] (.ops c27r0)
def c27s1 : ICode := (.seq c27k0 .ret)
def c27r3 : List Seg := [
 zm 15 5,
 zo 16 (.bin .add (.t 15) (.c (.int .i64 1))),
 zm 5 16]
def c27k3 : ICode := .kill 26 [0, 1, 5] (.ops c27r3)
def c27r4 : List Seg := [
 zo 4 (.mv (.c (.bool false)))]
def c27k4 : ICode := .kill 26 [] (.ops c27r4)
def c27s5 : ICode := (.cond (.t 25) (.seq c27k4 .ret) .skip)
def c27r6 : List Seg := [
 .grp [(zn 17 0, 0), (zn 18 5, 0), (zp 19 (.idxS 1 (.t 17) (.t 18)), 3), (zp 20 (.load1 (.t 19)), 7), (zn 21 1, 0), (zn 22 5, 0), (zp 23 (.idxS 1 (.t 21) (.t 22)), 48), (zp 24 (.load1 (.t 23)), 112)],
 zo 25 (.bin .neq (.t 20) (.t 24))]
def c27k6 : ICode := .kill 26 [0, 1, 5] (.ops c27r6)
def c27s7 : ICode := (.seq (.block 1 (.seq c27k6 c27s5)) c27k3)
def c27s8 : ICode := (.cond (.t 14) .skip (.exit 0))
def c27r9 : List Seg := [
 zm 11 5,
 zm 12 0,
 zo 13 (.len 0 (.t 12)),
 zo 14 (.bin .lss (.t 11) (.t 13))]
def c27k9 : ICode := .kill 26 [0, 1, 5] (.ops c27r9)
def c27l2 : ICode := (.seq (.seq c27k9 c27s8) c27s7)
def c27s10 : ICode := (.block 0 (.loop c27l2))
def c27r11 : List Seg := [
 zo 5 (.mv (.c (.int .i64 0)))]
def c27k11 : ICode := .kill 26 [0, 1] (.ops c27r11)
def c27s12 : ICode := (.seq (.seq c27k11 c27s10) c27s1)
def c27r13 : List Seg := [
 zo 4 (.mv (.c (.bool false)))]
def c27k13 : ICode := .kill 26 [] (.ops c27r13)
def c27s14 : ICode := (.cond (.t 10) (.seq c27k13 .ret) .skip)
def c27r15 : List Seg := [
 zm 6 0,
 zo 7 (.len 0 (.t 6)),
 zm 8 1,
 zo 9 (.len 0 (.t 8)),
 zo 10 (.bin .neq (.t 7) (.t 9))]
def c27k15 : ICode := .kill 26 [0, 1] (.ops c27r15)
def c27s16 : ICode := (.seq (.seq c27k15 c27s14) c27s12)
def c27r17 : List Seg := [
 zo 4 (.mv (.c (.bool false)))]
def c27k17 : ICode := .kill 26 [0, 1] (.ops c27r17)
def c27b : ICode := (.seq c27k17 c27s16)
def c27 : IFn := ⟨26, [.t 4], c27b⟩
def h27 : List (Nat × Nat × List Nat) := [(0, (26, [0, 1])), (1, (26, [0, 1])), (2, (26, [])), (3, (26, [0, 1])), (4, (26, [0, 1, 5])), (6, (26, [0, 1, 5])), (7, (26, [])), (5, (26, [0, 1, 5])), (8, (26, []))]
def c28r0 : List Seg := [
 zo 4 (.mv (.c (.bool true)))]
def c28k0 : ICode := .kill 26 [] (.ops c28r0)
def c28s1 : ICode := (.seq c28k0 .ret)
def c28r3 : List Seg := [
 zm 15 5,
 zo 16 (.bin .add (.t 15) (.c (.int .i64 1))),
 zm 5 16]
def c28k3 : ICode := .kill 26 [0, 1, 5] (.ops c28r3)
def c28r4 : List Seg := [
 zo 4 (.mv (.c (.bool false)))]
def c28k4 : ICode := .kill 26 [] (.ops c28r4)
def c28s5 : ICode := (.cond (.t 25) (.seq c28k4 .ret) .skip)
def c28r6 : List Seg := [
 .grp [(zn 17 0, 0), (zn 18 5, 0), (zp 19 (.idxS 2 (.t 17) (.t 18)), 3), (zp 20 (.loadN 2 (.t 19)), 7), (zn 21 1, 0), (zn 22 5, 0), (zp 23 (.idxS 2 (.t 21) (.t 22)), 48), (zp 24 (.loadN 2 (.t 23)), 112)],
 zo 25 (.eqv true (.ints 2) (.t 20) (.t 24))]
def c28k6 : ICode := .kill 26 [0, 1, 5] (.ops c28r6)
def c28s7 : ICode := (.seq (.block 1 (.seq c28k6 c28s5)) c28k3)
def c28s8 : ICode := (.cond (.t 14) .skip (.exit 0))
def c28r9 : List Seg := [
 zm 11 5,
 zm 12 0,
 zo 13 (.len 0 (.t 12)),
 zo 14 (.bin .lss (.t 11) (.t 13))]
def c28k9 : ICode := .kill 26 [0, 1, 5] (.ops c28r9)
def c28l2 : ICode := (.seq (.seq c28k9 c28s8) c28s7)
def c28s10 : ICode := (.block 0 (.loop c28l2))
def c28r11 : List Seg := [
 zo 5 (.mv (.c (.int .i64 0)))]
def c28k11 : ICode := .kill 26 [0, 1] (.ops c28r11)
def c28s12 : ICode := (.seq (.seq c28k11 c28s10) c28s1)
def c28r13 : List Seg := [
 zo 4 (.mv (.c (.bool false)))]
def c28k13 : ICode := .kill 26 [] (.ops c28r13)
def c28s14 : ICode := (.cond (.t 10) (.seq c28k13 .ret) .skip)
def c28r15 : List Seg := [
 zm 6 0,
 zo 7 (.len 0 (.t 6)),
 zm 8 1,
 zo 9 (.len 0 (.t 8)),
 zo 10 (.bin .neq (.t 7) (.t 9))]
def c28k15 : ICode := .kill 26 [0, 1] (.ops c28r15)
def c28s16 : ICode := (.seq (.seq c28k15 c28s14) c28s12)
def c28r17 : List Seg := [
 zo 4 (.mv (.c (.bool false)))]
def c28k17 : ICode := .kill 26 [0, 1] (.ops c28r17)
def c28b : ICode := (.seq c28k17 c28s16)
def c28 : IFn := ⟨26, [.t 4], c28b⟩
def h28 : List (Nat × Nat × List Nat) := [(0, (26, [0, 1])), (1, (26, [0, 1])), (2, (26, [])), (3, (26, [0, 1])), (4, (26, [0, 1, 5])), (6, (26, [0, 1, 5])), (7, (26, [])), (5, (26, [0, 1, 5])), (8, (26, []))]
def c33r0 : List Seg := [
 zm 40 7,
 zm 4 40,
 zo 5 (.mv (.c (.int .i64 0)))]
def c33k0 : ICode := .kill 41 [7] (.ops c33r0)
def c33s1 : ICode := (.seq c33k0 .ret)
def c33r3 : List Seg := [
 zo 39 (.bin .add (.t 21) (.c (.int .i64 1))),
 zm 21 39]
def c33k3 : ICode := .kill 41 [1, 7, 19, 20, 21] (.ops c33r3)
def c33r4 : List Seg := [
 .grp [(zn 25 7, 0), (zn 26 1, 0), (zp 27 (.idxA 2 1 (.t 9) (.c (.int .i64 1))), 0), (zp 28 (.load1 (.t 27)), 4), (zp 29 (.idxS 1 (.t 26) (.t 28)), 14), (zp 30 (.load1 (.t 29)), 30), (zn 31 1, 0), (zp 32 (.idxA 2 1 (.t 9) (.c (.int .i64 0))), 0), (zp 33 (.load1 (.t 32)), 128), (zp 34 (.idxS 1 (.t 31) (.t 33)), 448), (zp 35 (.load1 (.t 34)), 960), (zp 36 (.bin .sub (.t 30) (.t 35)), 2046), (zp 37 (.mkslice 1 [.int .i64 0] [(0, 1, (.t 36))]), 4094)],
 zo 38 (.app 1 8 (.t 25) (.t 37)),
 zm 7 38]
def c33k4 : ICode := .kill 41 [1, 7, 9, 19, 20, 21] (.ops c33r4)
def c33r5 : List Seg := [
 zo 23 (.idxS 2 (.t 19) (.t 21)),
 zo 24 (.loadN 2 (.t 23)),
 zo 9 (.box (.c (.agg [.int .i64 0, .int .i64 0]))),
 .one ⟨none, .storeN 2 (.t 9) (.t 24), none⟩]
def c33k5 : ICode := .kill 41 [1, 7, 19, 20, 21] (.ops c33r5)
def c33s6 : ICode := (.seq (.block 1 (.seq c33k5 c33k4)) c33k3)
def c33s7 : ICode := (.seq (.cond (.t 22) .skip (.exit 0)) c33s6)
def c33r8 : List Seg := [
 zo 22 (.bin .lss (.t 21) (.t 20))]
def c33k8 : ICode := .kill 41 [1, 7, 19, 20, 21] (.ops c33r8)
def c33l2 : ICode := (.seq c33k8 c33s7)
def c33s9 : ICode := (.block 0 (.loop c33l2))
def c33r10 : List Seg := [
 zo 18 (.fieldA 1 (.t 2)),
 zo 19 (.load1 (.t 18)),
 zo 20 (.len 0 (.t 19)),
 zo 21 (.mv (.c (.int .i64 0)))]
def c33k10 : ICode := .kill 41 [1, 2, 7] (.ops c33r10)
def c33s11 : ICode := (.seq (.seq c33k10 c33s9) c33s1)
def c33r12 : List Seg := [
 zo 7 (.mv (.c .nilslice))]
def c33k12 : ICode := .kill 41 [1, 2] (.ops c33r12)
def c33s13 : ICode := (.seq c33k12 c33s11)
def c33r14 : List Seg := [
 zm 17 6,
 zo 4 (.mv (.c .nilslice)),
 zm 5 17]
def c33k14 : ICode := .kill 41 [6] (.ops c33r14)
def c33s15 : ICode := (.cond (.t 16) (.seq c33k14 .ret) .skip)
def c33r16 : List Seg := [
 zm 15 6,
 zo 16 (.bin .neq (.t 15) (.c (.int .i64 0)))]
def c33k16 : ICode := .kill 41 [1, 2, 6] (.ops c33r16)
def c33s17 : ICode := (.seq c33k16 c33s15)
def c33r18 : List Seg := [
 zo 10 (.loadN 3 (.t 2)),
 zm 11 1,
 zo 12 (.loadN 3 (.t 2)),
 zo 13 (.bind 74 [(.t 12)]),
 zo 14 (.call [] (.c (.func 66 [])) [(.t 10), (.t 11), (.t 13)]),
 zm 6 14]
def c33k18 : ICode := .kill 41 [1, 2] (.ops c33r18)
def c33s19 : ICode := (.seq (.seq c33k18 c33s17) c33s13)
def c33r20 : List Seg := [
 zo 2 (.box (.t 0)),
 zo 4 (.mv (.c .nilslice)),
 zo 5 (.mv (.c (.int .i64 0)))]
def c33k20 : ICode := .kill 41 [0, 1] (.ops c33r20)
def c33b : ICode := (.seq c33k20 c33s19)
def c33 : IFn := ⟨41, [.t 4, .t 5], c33b⟩
def h33 : List (Nat × Nat × List Nat) := [(0, (41, [0, 1])), (1, (41, [1, 2])), (2, (41, [1, 2, 6])), (3, (41, [6])), (4, (41, [1, 2])), (5, (41, [1, 2, 7])), (6, (41, [1, 7, 19, 20, 21])), (7, (41, [1, 7, 19, 20, 21])), (8, (41, [1, 7, 9, 19, 20, 21])), (9, (41, [1, 7, 19, 20, 21])), (10, (41, [7]))]
def c36r0 : List Seg := [
 zm 76 10,
 zm 6 76,
 zo 7 (.mv (.c (.bool true))),
 zo 8 (.mv (.c (.int .i64 0)))]
def c36k0 : ICode := .kill 77 [10] (.ops c36r0)
def c36s1 : ICode := (.seq c36k0 .ret)
def c36r3 : List Seg := [
 zo 75 (.bin .add (.t 28) (.c (.int .i64 1))),
 zm 28 75]
def c36k3 : ICode := .kill 77 [1, 2, 3, 10, 26, 27, 28] (.ops c36r3)
def c36r4 : List Seg := [
 zm 63 10,
 zm 64 1,
 zm 65 14,
 zo 66 (.idxS 1 (.t 64) (.t 65)),
 zo 67 (.load1 (.t 66)),
 zo 68 (.bin .add (.t 63) (.t 67)),
 zm 10 68]
def c36k4 : ICode := .kill 77 [1, 2, 3, 10, 14, 26, 27, 28] (.ops c36r4)
def c36r5 : List Seg := [
 zm 69 10,
 zm 70 1,
 zm 71 14,
 zo 72 (.idxS 1 (.t 70) (.t 71)),
 zo 73 (.load1 (.t 72)),
 zo 74 (.bin .sub (.t 69) (.t 73)),
 zm 10 74]
def c36k5 : ICode := .kill 77 [1, 2, 3, 10, 14, 26, 27, 28] (.ops c36r5)
def c36s6 : ICode := (.cond (.t 62) c36k4 c36k5)
def c36r7 : List Seg := [
 zm 60 12,
 zm 61 13,
 zo 62 (.bin .lss (.t 60) (.t 61))]
def c36k7 : ICode := .kill 77 [1, 2, 3, 10, 12, 13, 14, 26, 27, 28] (.ops c36r7)
def c36s8 : ICode := (.seq c36k7 c36s6)
def c36r9 : List Seg := [
 zo 6 (.mv (.c (.int .i64 0))),
 zo 7 (.mv (.c (.bool false))),
 zo 8 (.mv (.c (.int .i64 0)))]
def c36k9 : ICode := .kill 77 [] (.ops c36r9)
def c36s10 : ICode := (.cond (.t 59) (.seq c36k9 .ret) .skip)
def c36r11 : List Seg := [
 zm 51 14,
 zo 52 (.bin .lss (.t 51) (.c (.int .i64 0))),
 zm 53 52,
 .one ⟨some 54, .mv (.t 2), some (53, false)⟩,
 .one ⟨some 55, .mv (.t 11), some (53, false)⟩,
 .one ⟨some 56, .sliceS 1 (.t 54) none (some (.t 55)) none, some (53, false)⟩,
 .one ⟨some 57, .mv (.t 12), some (53, false)⟩,
 .one ⟨some 58, .call [] (.c (.func 76 [])) [(.t 56), (.t 57)], some (53, false)⟩,
 zo 59 (.pick (.t 53) (.c (.bool true)) (.t 58))]
def c36k11 : ICode := .kill 77 [1, 2, 3, 10, 11, 12, 13, 14, 26, 27, 28] (.ops c36r11)
def c36s12 : ICode := (.seq (.seq c36k11 c36s10) c36s8)
def c36r13 : List Seg := [
 zo 41 (.fieldA 1 (.t 3)),
 zo 42 (.load1 (.t 41)),
 zm 43 12,
 zm 44 13,
 zo 45 (.mn [(.t 43), (.t 44)]),
 zm 46 12,
 zm 47 13,
 zo 48 (.mx [(.t 46), (.t 47)]),
 zo 49 (.mkagg [.int .i64 0, .int .i64 0] [(0, 1, (.t 45)), (1, 1, (.t 48))]),
 zo 50 (.call [] (.c (.func 75 [])) [(.t 42), (.t 49)]),
 zm 14 50]
def c36k13 : ICode := .kill 77 [1, 2, 3, 10, 11, 12, 13, 26, 27, 28] (.ops c36r13)
def c36s14 : ICode := (.seq c36k13 c36s12)
def c36r15 : List Seg := [
 zm 33 2,
 zm 34 11,
 zo 35 (.bin .add (.t 34) (.c (.int .i64 1))),
 zm 36 2,
 zo 37 (.len 0 (.t 36)),
 zo 38 (.bin .rem (.t 35) (.t 37)),
 zo 39 (.idxS 1 (.t 33) (.t 38)),
 zo 40 (.load1 (.t 39)),
 zm 13 40]
def c36k15 : ICode := .kill 77 [1, 2, 3, 10, 11, 12, 26, 27, 28] (.ops c36r15)
def c36s16 : ICode := (.seq c36k15 c36s14)
def c36r17 : List Seg := [
 zm 30 28,
 zo 31 (.idxS 1 (.t 26) (.t 28)),
 zo 32 (.load1 (.t 31)),
 zm 11 30,
 zm 12 32]
def c36k17 : ICode := .kill 77 [1, 2, 3, 10, 26, 27, 28] (.ops c36r17)
def c36s18 : ICode := (.seq (.block 1 (.seq c36k17 c36s16)) c36k3)
def c36s19 : ICode := (.seq (.cond (.t 29) .skip (.exit 0)) c36s18)
def c36r20 : List Seg := [
 zo 29 (.bin .lss (.t 28) (.t 27))]
def c36k20 : ICode := .kill 77 [1, 2, 3, 10, 26, 27, 28] (.ops c36r20)
def c36l2 : ICode := (.seq c36k20 c36s19)
def c36s21 : ICode := (.block 0 (.loop c36l2))
def c36r22 : List Seg := [
 zm 26 2,
 zo 27 (.len 0 (.t 26)),
 zo 28 (.mv (.c (.int .i64 0)))]
def c36k22 : ICode := .kill 77 [1, 2, 3, 10] (.ops c36r22)
def c36s23 : ICode := (.seq (.seq c36k22 c36s21) c36s1)
def c36r24 : List Seg := [
 zo 10 (.mv (.c (.int .i64 0)))]
def c36k24 : ICode := .kill 77 [1, 2, 3] (.ops c36r24)
def c36s25 : ICode := (.seq c36k24 c36s23)
def c36r26 : List Seg := [
 zo 6 (.mv (.c (.int .i64 0))),
 zo 7 (.mv (.c (.bool false))),
 zo 8 (.mv (.c (.int .i64 0)))]
def c36k26 : ICode := .kill 77 [] (.ops c36r26)
def c36s27 : ICode := (.cond (.t 25) (.seq c36k26 .ret) .skip)
def c36r28 : List Seg := [
 zm 23 2,
 zo 24 (.len 0 (.t 23)),
 zo 25 (.bin .lss (.t 24) (.c (.int .i64 3)))]
def c36k28 : ICode := .kill 77 [1, 2, 3] (.ops c36r28)
def c36s29 : ICode := (.seq (.seq c36k28 c36s27) c36s25)
def c36r30 : List Seg := [
 zm 22 9,
 zo 6 (.mv (.c (.int .i64 0))),
 zo 7 (.mv (.c (.bool false))),
 zm 8 22]
def c36k30 : ICode := .kill 77 [9] (.ops c36r30)
def c36s31 : ICode := (.cond (.t 21) (.seq c36k30 .ret) .skip)
def c36r32 : List Seg := [
 zm 20 9,
 zo 21 (.bin .neq (.t 20) (.c (.int .i64 0)))]
def c36k32 : ICode := .kill 77 [1, 2, 3, 9] (.ops c36r32)
def c36s33 : ICode := (.seq c36k32 c36s31)
def c36r34 : List Seg := [
 zo 15 (.loadN 3 (.t 3)),
 zm 16 1,
 zo 17 (.loadN 3 (.t 3)),
 zo 18 (.bind 67 [(.t 17)]),
 zo 19 (.call [] (.c (.func 66 [])) [(.t 15), (.t 16), (.t 18)]),
 zm 9 19]
def c36k34 : ICode := .kill 77 [1, 2, 3] (.ops c36r34)
def c36s35 : ICode := (.seq (.seq c36k34 c36s33) c36s29)
def c36r36 : List Seg := [
 zo 3 (.box (.t 0)),
 zo 6 (.mv (.c (.int .i64 0))),
 zo 7 (.mv (.c (.bool false))),
 zo 8 (.mv (.c (.int .i64 0)))]
def c36k36 : ICode := .kill 77 [0, 1, 2] (.ops c36r36)
def c36b : ICode := (.seq c36k36 c36s35)
def c36 : IFn := ⟨77, [.t 6, .t 7, .t 8], c36b⟩
def h36 : List (Nat × Nat × List Nat) := [(0, (77, [0, 1, 2])), (1, (77, [1, 2, 3])), (2, (77, [1, 2, 3, 9])), (3, (77, [9])), (4, (77, [1, 2, 3])), (5, (77, [])), (6, (77, [1, 2, 3])), (7, (77, [1, 2, 3, 10])), (8, (77, [1, 2, 3, 10, 26, 27, 28])), (9, (77, [1, 2, 3, 10, 26, 27, 28])), (10, (77, [1, 2, 3, 10, 11, 12, 26, 27, 28])), (11, (77, [1, 2, 3, 10, 11, 12, 13, 26, 27, 28])), (12, (77, [1, 2, 3, 10, 11, 12, 13, 14, 26, 27, 28])), (13, (77, [])), (14, (77, [1, 2, 3, 10, 12, 13, 14, 26, 27, 28])), (15, (77, [1, 2, 3, 10, 14, 26, 27, 28])), (16, (77, [1, 2, 3, 10, 14, 26, 27, 28])), (17, (77, [1, 2, 3, 10, 26, 27, 28])), (18, (77, [10]))]
def c38r0 : List Seg := [
 zo 46 (.load1 (.t 7)),
 zm 4 46,
 zo 5 (.mv (.c (.int .i64 0)))]
def c38k0 : ICode := .kill 47 [7] (.ops c38r0)
def c38s1 : ICode := (.seq c38k0 .ret)
def c38r3 : List Seg := [
 zo 45 (.bin .add (.t 26) (.c (.int .i64 1))),
 zm 26 45]
def c38k3 : ICode := .kill 47 [2, 4, 5, 7, 24, 25, 26] (.ops c38r3)
def c38r5 : List Seg := [
 .grp [(zp 36 (.load1 (.t 7)), 0), (zn 37 10, 0), (zp 38 (.idxS 1 (.t 36) (.t 37)), 3), (zp 39 (.load1 (.t 38)), 7), (zn 40 11, 0), (zp 41 (.load1 (.t 9)), 0), (zp 42 (.bin .mul (.t 40) (.t 41)), 48)],
 zo 43 (.bin .add (.t 39) (.t 42)),
 zo 44 (.idxS 1 (.t 36) (.t 37)),
 .one ⟨none, .store1 (.t 44) (.t 43), none⟩]
def c38k5 : ICode := .kill 47 [7, 9, 10, 11] (.ops c38r5)
def c38r6 : List Seg := [
 zm 11 35]
def c38k6 : ICode := .kill 47 [7, 9, 10, 35] (.ops c38r6)
def c38r7 : List Seg := [
 zm 10 34]
def c38k7 : ICode := .kill 47 [7, 9, 34, 35] (.ops c38r7)
def c38f4a : ICode := (.seq c38k7 c38k6)
def c38f4b : ICode := (.block 3 c38k5)
def c38s8 : ICode := (.block 2 (.rf (.t 33) [34, 35] c38f4a c38f4b))
def c38r9 : List Seg := [
 zo 31 (.loadN 3 (.t 2)),
 zm 32 8,
 zo 33 (.call [] (.c (.func 62 [])) [(.t 31), (.t 32)])]
def c38k9 : ICode := .kill 47 [2, 4, 5, 7, 8, 9, 24, 25, 26] (.ops c38r9)
def c38s10 : ICode := (.seq c38k9 c38s8)
def c38r11 : List Seg := [
 zm 28 26,
 zo 29 (.idxS 1 (.t 24) (.t 26)),
 zo 30 (.load1 (.t 29)),
 zo 9 (.box (.c (.int .i64 0))),
 zm 8 28,
 .one ⟨none, .store1 (.t 9) (.t 30), none⟩]
def c38k11 : ICode := .kill 47 [2, 4, 5, 7, 24, 25, 26] (.ops c38r11)
def c38s12 : ICode := (.seq (.block 1 (.seq c38k11 c38s10)) c38k3)
def c38s13 : ICode := (.seq (.cond (.t 27) .skip (.exit 0)) c38s12)
def c38r14 : List Seg := [
 zo 27 (.bin .lss (.t 26) (.t 25))]
def c38k14 : ICode := .kill 47 [2, 4, 5, 7, 24, 25, 26] (.ops c38r14)
def c38l2 : ICode := (.seq c38k14 c38s13)
def c38s15 : ICode := (.block 0 (.loop c38l2))
def c38r16 : List Seg := [
 zm 24 1,
 zo 25 (.len 0 (.t 24)),
 zo 26 (.mv (.c (.int .i64 0)))]
def c38k16 : ICode := .kill 47 [1, 2, 4, 5, 7] (.ops c38r16)
def c38s17 : ICode := (.seq (.seq c38k16 c38s15) c38s1)
def c38r18 : List Seg := [
 zo 20 (.fieldA 1 (.t 2)),
 zo 21 (.load1 (.t 20)),
 zo 22 (.len 0 (.t 21)),
 zo 23 (.make [.int .i64 0] 8 (.t 22) (.t 22)),
 zo 7 (.box (.c .nilslice)),
 .one ⟨none, .store1 (.t 7) (.t 23), none⟩]
def c38k18 : ICode := .kill 47 [1, 2, 4, 5] (.ops c38r18)
def c38s19 : ICode := (.seq c38k18 c38s17)
def c38r20 : List Seg := [
 zm 19 6,
 zo 4 (.mv (.c .nilslice)),
 zm 5 19]
def c38k20 : ICode := .kill 47 [6] (.ops c38r20)
def c38s21 : ICode := (.cond (.t 18) (.seq c38k20 .ret) .skip)
def c38r22 : List Seg := [
 zm 17 6,
 zo 18 (.bin .neq (.t 17) (.c (.int .i64 0)))]
def c38k22 : ICode := .kill 47 [1, 2, 4, 5, 6] (.ops c38r22)
def c38s23 : ICode := (.seq c38k22 c38s21)
def c38r24 : List Seg := [
 zo 12 (.loadN 3 (.t 2)),
 zm 13 1,
 zo 14 (.loadN 3 (.t 2)),
 zo 15 (.bind 77 [(.t 14)]),
 zo 16 (.call [] (.c (.func 66 [])) [(.t 12), (.t 13), (.t 15)]),
 zm 6 16]
def c38k24 : ICode := .kill 47 [1, 2, 4, 5] (.ops c38r24)
def c38s25 : ICode := (.seq (.seq c38k24 c38s23) c38s19)
def c38r26 : List Seg := [
 zo 2 (.box (.t 0)),
 zo 4 (.mv (.c .nilslice)),
 zo 5 (.mv (.c (.int .i64 0)))]
def c38k26 : ICode := .kill 47 [0, 1] (.ops c38r26)
def c38b : ICode := (.seq c38k26 c38s25)
def c38 : IFn := ⟨47, [.t 4, .t 5], c38b⟩
def h38 : List (Nat × Nat × List Nat) := [(0, (47, [0, 1])), (1, (47, [1, 2, 4, 5])), (2, (47, [1, 2, 4, 5, 6])), (3, (47, [6])), (4, (47, [1, 2, 4, 5])), (5, (47, [1, 2, 4, 5, 7])), (6, (47, [2, 4, 5, 7, 24, 25, 26])), (7, (47, [2, 4, 5, 7, 24, 25, 26])), (8, (47, [2, 4, 5, 7, 8, 9, 24, 25, 26])), (9, (47, [7, 9, 34, 35])), (10, (47, [7, 9, 10, 35])), (11, (47, [7, 9, 10, 11])), (12, (47, [2, 4, 5, 7, 24, 25, 26])), (13, (47, [7]))]
def c39r0 : List Seg := [
 zm 24 0,
 zo 25 (.len 0 (.t 24)),
 zm 26 1,
 zo 27 (.bin .eql (.t 25) (.t 26)),
 zm 4 27]
def c39k0 : ICode := .kill 28 [0, 1] (.ops c39r0)
def c39s1 : ICode := (.seq c39k0 .ret)
def c39r3 : List Seg := [
 zm 10 5,
 zo 11 (.bin .add (.t 10) (.c (.int .i64 1))),
 zm 5 11]
def c39k3 : ICode := .kill 28 [0, 1, 5] (.ops c39r3)
def c39r4 : List Seg := [
 zo 4 (.mv (.c (.bool false)))]
def c39k4 : ICode := .kill 28 [] (.ops c39r4)
def c39s5 : ICode := (.cond (.t 23) (.seq c39k4 .ret) .skip)
def c39r6 : List Seg := [
 zm 12 0,
 zm 13 5,
 zo 14 (.idxS 1 (.t 12) (.t 13)),
 zo 15 (.load1 (.t 14)),
 zo 16 (.bin .lss (.t 15) (.c (.int .i64 (-100)))),
 zm 17 16,
 .one ⟨some 18, .mv (.t 0), some (17, false)⟩,
 .one ⟨some 19, .mv (.t 5), some (17, false)⟩,
 .one ⟨some 20, .idxS 1 (.t 18) (.t 19), some (17, false)⟩,
 .one ⟨some 21, .load1 (.t 20), some (17, false)⟩,
 .one ⟨some 22, .bin .gtr (.t 21) (.c (.int .i64 100)), some (17, false)⟩,
 zo 23 (.pick (.t 17) (.c (.bool true)) (.t 22))]
def c39k6 : ICode := .kill 28 [0, 1, 5] (.ops c39r6)
def c39s7 : ICode := (.seq (.block 1 (.seq c39k6 c39s5)) c39k3)
def c39s8 : ICode := (.cond (.t 9) .skip (.exit 0))
def c39r9 : List Seg := [
 zm 6 5,
 zm 7 0,
 zo 8 (.len 0 (.t 7)),
 zo 9 (.bin .lss (.t 6) (.t 8))]
def c39k9 : ICode := .kill 28 [0, 1, 5] (.ops c39r9)
def c39l2 : ICode := (.seq (.seq c39k9 c39s8) c39s7)
def c39s10 : ICode := (.block 0 (.loop c39l2))
def c39r11 : List Seg := [
 zo 5 (.mv (.c (.int .i64 0)))]
def c39k11 : ICode := .kill 28 [0, 1] (.ops c39r11)
def c39s12 : ICode := (.seq (.seq c39k11 c39s10) c39s1)
def c39r13 : List Seg := [
 zo 4 (.mv (.c (.bool false)))]
def c39k13 : ICode := .kill 28 [0, 1] (.ops c39r13)
def c39b : ICode := (.seq c39k13 c39s12)
def c39 : IFn := ⟨28, [.t 4], c39b⟩
def h39 : List (Nat × Nat × List Nat) := [(0, (28, [0, 1])), (1, (28, [0, 1])), (2, (28, [0, 1, 5])), (4, (28, [0, 1, 5])), (5, (28, [])), (3, (28, [0, 1, 5])), (6, (28, [0, 1]))]
def c40r0 : List Seg := [
 zm 44 7,
 zm 4 44,
 zo 5 (.mv (.c (.int .i64 0)))]
def c40k0 : ICode := .kill 45 [7] (.ops c40r0)
def c40s1 : ICode := (.seq c40k0 .ret)
def c40r3 : List Seg := [
 zo 43 (.bin .add (.t 23) (.c (.int .i64 1))),
 zm 23 43]
def c40k3 : ICode := .kill 45 [2, 3, 4, 5, 7, 22, 23] (.ops c40r3)
def c40r4 : List Seg := [
 zm 39 7,
 zo 40 (.load1 (.t 9)),
 zo 41 (.mkslice 1 [.int .i64 0] [(0, 1, (.t 40))]),
 zo 42 (.app 1 8 (.t 39) (.t 41)),
 zm 7 42]
def c40k4 : ICode := .kill 45 [2, 3, 4, 5, 7, 9, 22, 23] (.ops c40r4)
def c40r6 : List Seg := [
 .grp [(zp 31 (.load1 (.t 9)), 0), (zn 32 11, 0), (zp 33 (.load1 (.t 3)), 0), (zn 34 10, 0), (zp 35 (.idxS 1 (.t 33) (.t 34)), 12), (zp 36 (.load1 (.t 35)), 28), (zp 37 (.bin .mul (.t 32) (.t 36)), 62)],
 zo 38 (.bin .add (.t 31) (.t 37)),
 .one ⟨none, .store1 (.t 9) (.t 38), none⟩]
def c40k6 : ICode := .kill 45 [3, 9, 10, 11] (.ops c40r6)
def c40r7 : List Seg := [
 zm 11 30]
def c40k7 : ICode := .kill 45 [3, 9, 10, 30] (.ops c40r7)
def c40r8 : List Seg := [
 zm 10 29]
def c40k8 : ICode := .kill 45 [3, 9, 29, 30] (.ops c40r8)
def c40f5a : ICode := (.seq c40k8 c40k7)
def c40f5b : ICode := (.block 3 c40k6)
def c40s9 : ICode := (.block 2 (.rf (.t 28) [29, 30] c40f5a c40f5b))
def c40r10 : List Seg := [
 zo 26 (.loadN 3 (.t 2)),
 zm 27 8,
 zo 28 (.call [] (.c (.func 62 [])) [(.t 26), (.t 27)])]
def c40k10 : ICode := .kill 45 [2, 3, 4, 5, 7, 8, 9, 22, 23] (.ops c40r10)
def c40s11 : ICode := (.seq (.seq c40k10 c40s9) c40k4)
def c40r12 : List Seg := [
 zo 9 (.box (.c (.int .i64 0))),
 .one ⟨none, .store1 (.t 9) (.c (.int .i64 0)), none⟩]
def c40k12 : ICode := .kill 45 [2, 3, 4, 5, 7, 8, 22, 23] (.ops c40r12)
def c40s13 : ICode := (.seq c40k12 c40s11)
def c40r14 : List Seg := [
 zm 25 23,
 zm 8 25]
def c40k14 : ICode := .kill 45 [2, 3, 4, 5, 7, 22, 23] (.ops c40r14)
def c40s15 : ICode := (.seq (.block 1 (.seq c40k14 c40s13)) c40k3)
def c40s16 : ICode := (.seq (.cond (.t 24) .skip (.exit 0)) c40s15)
def c40r17 : List Seg := [
 zo 24 (.bin .lss (.t 23) (.t 22))]
def c40k17 : ICode := .kill 45 [2, 3, 4, 5, 7, 22, 23] (.ops c40r17)
def c40l2 : ICode := (.seq c40k17 c40s16)
def c40s18 : ICode := (.block 0 (.loop c40l2))
def c40r19 : List Seg := [
 zo 20 (.fieldA 2 (.t 2)),
 zo 21 (.load1 (.t 20)),
 zo 22 (.len 0 (.t 21)),
 zo 23 (.mv (.c (.int .i64 0)))]
def c40k19 : ICode := .kill 45 [2, 3, 4, 5, 7] (.ops c40r19)
def c40s20 : ICode := (.seq (.seq c40k19 c40s18) c40s1)
def c40r21 : List Seg := [
 zo 7 (.mv (.c .nilslice))]
def c40k21 : ICode := .kill 45 [2, 3, 4, 5] (.ops c40r21)
def c40s22 : ICode := (.seq c40k21 c40s20)
def c40r23 : List Seg := [
 zm 19 6,
 zo 4 (.mv (.c .nilslice)),
 zm 5 19]
def c40k23 : ICode := .kill 45 [6] (.ops c40r23)
def c40s24 : ICode := (.cond (.t 18) (.seq c40k23 .ret) .skip)
def c40r25 : List Seg := [
 zm 17 6,
 zo 18 (.bin .neq (.t 17) (.c (.int .i64 0)))]
def c40k25 : ICode := .kill 45 [2, 3, 4, 5, 6] (.ops c40r25)
def c40s26 : ICode := (.seq c40k25 c40s24)
def c40r27 : List Seg := [
 zo 12 (.loadN 3 (.t 2)),
 zo 13 (.load1 (.t 3)),
 zo 14 (.loadN 3 (.t 2)),
 zo 15 (.bind 67 [(.t 14)]),
 zo 16 (.call [] (.c (.func 66 [])) [(.t 12), (.t 13), (.t 15)]),
 zm 6 16]
def c40k27 : ICode := .kill 45 [2, 3, 4, 5] (.ops c40r27)
def c40s28 : ICode := (.seq (.seq c40k27 c40s26) c40s22)
def c40r29 : List Seg := [
 zo 2 (.box (.t 0)),
 zo 3 (.box (.t 1)),
 zo 4 (.mv (.c .nilslice)),
 zo 5 (.mv (.c (.int .i64 0)))]
def c40k29 : ICode := .kill 45 [0, 1] (.ops c40r29)
def c40b : ICode := (.seq c40k29 c40s28)
def c40 : IFn := ⟨45, [.t 4, .t 5], c40b⟩
def h40 : List (Nat × Nat × List Nat) := [(0, (45, [0, 1])), (1, (45, [2, 3, 4, 5])), (2, (45, [2, 3, 4, 5, 6])), (3, (45, [6])), (4, (45, [2, 3, 4, 5])), (5, (45, [2, 3, 4, 5, 7])), (6, (45, [2, 3, 4, 5, 7, 22, 23])), (7, (45, [2, 3, 4, 5, 7, 22, 23])), (8, (45, [2, 3, 4, 5, 7, 8, 22, 23])), (9, (45, [2, 3, 4, 5, 7, 8, 9, 22, 23])), (10, (45, [3, 9, 29, 30])), (11, (45, [3, 9, 10, 30])), (12, (45, [3, 9, 10, 11])), (13, (45, [2, 3, 4, 5, 7, 9, 22, 23])), (14, (45, [2, 3, 4, 5, 7, 22, 23])), (15, (45, [7]))]
def c41r0 : List Seg := [
 .grp [(zn 51 8, 0), (zp 52 (.nilck (.t 51)), 1), (zp 53 (.fieldA 6 (.t 52)), 3), (zp 54 (.fieldA 0 (.t 2)), 0), (zp 55 (.load1 (.t 54)), 8)],
 zo 56 (.sliceA 6 1 (.t 53) none (some (.t 55)) none),
 zo 57 (.call [] (.c (.func 79 [])) [(.t 56)]),
 zm 4 57,
 zo 5 (.mv (.c (.bool true))),
 zo 6 (.mv (.c (.int .i64 0)))]
def c41k0 : ICode := .kill 58 [2, 8] (.ops c41r0)
def c41s1 : ICode := (.seq c41k0 .ret)
def c41r3 : List Seg := [
 zo 50 (.bin .add (.t 25) (.c (.int .i64 1))),
 zm 25 50]
def c41k3 : ICode := .kill 58 [1, 2, 8, 23, 24, 25] (.ops c41r3)
def c41r4 : List Seg := [
 zo 4 (.mv (.c .nilslice)),
 zo 5 (.mv (.c (.bool false))),
 zo 6 (.mv (.c (.int .i64 0)))]
def c41k4 : ICode := .kill 58 [] (.ops c41r4)
def c41s5 : ICode := (.cond (.t 49) (.seq c41k4 .ret) .skip)
def c41r6 : List Seg := [
 .grp [(zn 30 8, 0), (zp 31 (.idxA 2 1 (.t 10) (.c (.int .i64 1))), 0), (zp 32 (.load1 (.t 31)), 2), (zp 33 (.nilck (.t 30)), 1), (zp 34 (.fieldA 6 (.t 33)), 9), (zp 35 (.idxA 6 1 (.t 34) (.t 32)), 31), (zp 36 (.load1 (.t 35)), 63), (zn 37 8, 0), (zp 38 (.idxA 2 1 (.t 10) (.c (.int .i64 0))), 0), (zp 39 (.load1 (.t 38)), 256), (zp 40 (.nilck (.t 37)), 128), (zp 41 (.fieldA 6 (.t 40)), 1152), (zp 42 (.idxA 6 1 (.t 41) (.t 39)), 3968), (zp 43 (.load1 (.t 42)), 8064), (zp 44 (.bin .sub (.t 36) (.t 43)), 16383), (zn 45 1, 0), (zn 46 9, 0), (zp 47 (.idxS 1 (.t 45) (.t 46)), 98304), (zp 48 (.load1 (.t 47)), 229376)],
 zo 49 (.bin .neq (.t 44) (.t 48))]
def c41k6 : ICode := .kill 58 [1, 2, 8, 9, 10, 23, 24, 25] (.ops c41r6)
def c41s7 : ICode := (.seq c41k6 c41s5)
def c41r8 : List Seg := [
 zm 27 25,
 zo 28 (.idxS 2 (.t 23) (.t 25)),
 zo 29 (.loadN 2 (.t 28)),
 zo 10 (.box (.c (.agg [.int .i64 0, .int .i64 0]))),
 zm 9 27,
 .one ⟨none, .storeN 2 (.t 10) (.t 29), none⟩]
def c41k8 : ICode := .kill 58 [1, 2, 8, 23, 24, 25] (.ops c41r8)
def c41s9 : ICode := (.seq (.block 1 (.seq c41k8 c41s7)) c41k3)
def c41s10 : ICode := (.seq (.cond (.t 26) .skip (.exit 0)) c41s9)
def c41r11 : List Seg := [
 zo 26 (.bin .lss (.t 25) (.t 24))]
def c41k11 : ICode := .kill 58 [1, 2, 8, 23, 24, 25] (.ops c41r11)
def c41l2 : ICode := (.seq c41k11 c41s10)
def c41s12 : ICode := (.block 0 (.loop c41l2))
def c41r13 : List Seg := [
 zo 22 (.fieldA 1 (.t 2)),
 zo 23 (.load1 (.t 22)),
 zo 24 (.len 0 (.t 23)),
 zo 25 (.mv (.c (.int .i64 0)))]
def c41k13 : ICode := .kill 58 [1, 2, 8] (.ops c41r13)
def c41s14 : ICode := (.seq (.seq c41k13 c41s12) c41s1)
def c41r15 : List Seg := [
 zo 19 (.loadN 3 (.t 2)),
 zm 20 1,
 zo 21 (.call [] (.c (.func 78 [])) [(.t 19), (.t 20)]),
 zm 8 21]
def c41k15 : ICode := .kill 58 [1, 2] (.ops c41r15)
def c41s16 : ICode := (.seq c41k15 c41s14)
def c41r17 : List Seg := [
 zm 18 7,
 zo 4 (.mv (.c .nilslice)),
 zo 5 (.mv (.c (.bool false))),
 zm 6 18]
def c41k17 : ICode := .kill 58 [7] (.ops c41r17)
def c41s18 : ICode := (.cond (.t 17) (.seq c41k17 .ret) .skip)
def c41r19 : List Seg := [
 zm 16 7,
 zo 17 (.bin .neq (.t 16) (.c (.int .i64 0)))]
def c41k19 : ICode := .kill 58 [1, 2, 7] (.ops c41r19)
def c41s20 : ICode := (.seq c41k19 c41s18)
def c41r21 : List Seg := [
 zo 11 (.loadN 3 (.t 2)),
 zm 12 1,
 zo 13 (.loadN 3 (.t 2)),
 zo 14 (.bind 67 [(.t 13)]),
 zo 15 (.call [] (.c (.func 66 [])) [(.t 11), (.t 12), (.t 14)]),
 zm 7 15]
def c41k21 : ICode := .kill 58 [1, 2] (.ops c41r21)
def c41s22 : ICode := (.seq (.seq c41k21 c41s20) c41s16)
def c41r23 : List Seg := [
 zo 2 (.box (.t 0)),
 zo 4 (.mv (.c .nilslice)),
 zo 5 (.mv (.c (.bool false))),
 zo 6 (.mv (.c (.int .i64 0)))]
def c41k23 : ICode := .kill 58 [0, 1] (.ops c41r23)
def c41b : ICode := (.seq c41k23 c41s22)
def c41 : IFn := ⟨58, [.t 4, .t 5, .t 6], c41b⟩
def h41 : List (Nat × Nat × List Nat) := [(0, (58, [0, 1])), (1, (58, [1, 2])), (2, (58, [1, 2, 7])), (3, (58, [7])), (4, (58, [1, 2])), (5, (58, [1, 2, 8])), (6, (58, [1, 2, 8, 23, 24, 25])), (7, (58, [1, 2, 8, 23, 24, 25])), (8, (58, [1, 2, 8, 9, 10, 23, 24, 25])), (9, (58, [])), (10, (58, [1, 2, 8, 23, 24, 25])), (11, (58, [2, 8]))]
def c44r0 : List Seg := [
 zo 63 (.loadN 8 (.t 11)),
 .one ⟨none, .storeN 8 (.t 4) (.t 63), none⟩,
 zo 5 (.mv (.c (.int .i64 0)))]
def c44k0 : ICode := .kill 64 [4, 11] (.ops c44r0)
def c44s1 : ICode := (.seq c44k0 .ret)
def c44r3 : List Seg := [
 zo 62 (.bin .add (.t 48) (.c (.int .i64 1))),
 zm 48 62]
def c44k3 : ICode := .kill 64 [4, 11, 46, 47, 48] (.ops c44r3)
def c44r4 : List Seg := [
 zm 55 12,
 zo 56 (.fieldA 0 (.t 14)),
 zo 57 (.load1 (.t 56)),
 zo 58 (.fieldA 1 (.t 14)),
 zo 59 (.load1 (.t 58)),
 zo 60 (.mkagg [.int .i64 0, .int .i64 0] [(0, 1, (.t 57)), (1, 1, (.t 59))]),
 zo 61 (.idxA 4 2 (.t 11) (.t 55)),
 .one ⟨none, .storeN 2 (.t 61) (.t 60), none⟩]
def c44k4 : ICode := .kill 64 [4, 11, 12, 14, 46, 47, 48] (.ops c44r4)
def c44r5 : List Seg := [
 zm 53 13,
 zo 54 (.call [] (.c (.func 80 [])) [(.t 53)]),
 zo 14 (.box (.c (.agg [.int .i64 0, .int .i64 0]))),
 .one ⟨none, .storeN 2 (.t 14) (.t 54), none⟩]
def c44k5 : ICode := .kill 64 [4, 11, 12, 13, 46, 47, 48] (.ops c44r5)
def c44s6 : ICode := (.seq c44k5 c44k4)
def c44r7 : List Seg := [
 zm 50 48,
 zo 51 (.idxS 1 (.t 46) (.t 48)),
 zo 52 (.load1 (.t 51)),
 zm 12 50,
 zm 13 52]
def c44k7 : ICode := .kill 64 [4, 11, 46, 47, 48] (.ops c44r7)
def c44s8 : ICode := (.seq (.block 3 (.seq c44k7 c44s6)) c44k3)
def c44s9 : ICode := (.seq (.cond (.t 49) .skip (.exit 2)) c44s8)
def c44r10 : List Seg := [
 zo 49 (.bin .lss (.t 48) (.t 47))]
def c44k10 : ICode := .kill 64 [4, 11, 46, 47, 48] (.ops c44r10)
def c44l2 : ICode := (.seq c44k10 c44s9)
def c44s11 : ICode := (.block 2 (.loop c44l2))
def c44r12 : List Seg := [
 zm 39 7,
 zo 40 (.idxA 3 1 (.t 10) (.c (.int .i64 0))),
 zo 41 (.load1 (.t 40)),
 zo 42 (.idxA 3 1 (.t 10) (.c (.int .i64 1))),
 zo 43 (.load1 (.t 42)),
 zo 44 (.idxA 3 1 (.t 10) (.c (.int .i64 2))),
 zo 45 (.load1 (.t 44)),
 zo 46 (.mkslice 4 [.nilslice, .nilslice, .nilslice, .nilslice] [(0, 1, (.t 39)), (1, 1, (.t 41)), (2, 1, (.t 43)), (3, 1, (.t 45))]),
 zo 47 (.len 0 (.t 46)),
 zo 48 (.mv (.c (.int .i64 0)))]
def c44k12 : ICode := .kill 64 [4, 7, 10, 11] (.ops c44r12)
def c44s13 : ICode := (.seq (.seq c44k12 c44s11) c44s1)
def c44r14 : List Seg := [
 zo 11 (.box (.c (.agg [.int .i64 0, .int .i64 0, .int .i64 0, .int .i64 0, .int .i64 0, .int .i64 0, .int .i64 0, .int .i64 0])))]
def c44k14 : ICode := .kill 64 [4, 7, 10] (.ops c44r14)
def c44s15 : ICode := (.seq c44k14 c44s13)
def c44r16 : List Seg := [
 zo 36 (.loadN 3 (.t 2)),
 zm 37 1,
 zo 38 (.call [] (.c (.func 68 [])) [(.t 36), (.t 37)]),
 zo 10 (.box (.c (.agg [.nilslice, .nilslice, .nilslice]))),
 .one ⟨none, .storeN 3 (.t 10) (.t 38), none⟩]
def c44k16 : ICode := .kill 64 [1, 2, 4, 7] (.ops c44r16)
def c44s17 : ICode := (.seq c44k16 c44s15)
def c44r19 : List Seg := [
 zo 35 (.bin .add (.t 26) (.c (.int .i64 1))),
 zm 26 35]
def c44k19 : ICode := .kill 64 [1, 2, 4, 7, 24, 25, 26] (.ops c44r19)
def c44r20 : List Seg := [
 zm 30 7,
 zm 31 9,
 zo 32 (.call [] (.c (.func 63 [])) [(.t 31)]),
 zo 33 (.mkslice 1 [.int .i64 0, .int .i64 0] [(0, 2, (.t 32))]),
 zo 34 (.app 2 16 (.t 30) (.t 33)),
 zm 7 34]
def c44k20 : ICode := .kill 64 [1, 2, 4, 7, 9, 24, 25, 26] (.ops c44r20)
def c44r21 : List Seg := [
 zo 28 (.idxS 1 (.t 24) (.t 26)),
 zo 29 (.load1 (.t 28)),
 zm 9 29]
def c44k21 : ICode := .kill 64 [1, 2, 4, 7, 24, 25, 26] (.ops c44r21)
def c44s22 : ICode := (.seq (.block 1 (.seq c44k21 c44k20)) c44k19)
def c44s23 : ICode := (.seq (.cond (.t 27) .skip (.exit 0)) c44s22)
def c44r24 : List Seg := [
 zo 27 (.bin .lss (.t 26) (.t 25))]
def c44k24 : ICode := .kill 64 [1, 2, 4, 7, 24, 25, 26] (.ops c44r24)
def c44l18 : ICode := (.seq c44k24 c44s23)
def c44s25 : ICode := (.block 0 (.loop c44l18))
def c44r26 : List Seg := [
 zm 24 1,
 zo 25 (.len 0 (.t 24)),
 zo 26 (.mv (.c (.int .i64 0)))]
def c44k26 : ICode := .kill 64 [1, 2, 4, 7] (.ops c44r26)
def c44s27 : ICode := (.seq (.seq c44k26 c44s25) c44s17)
def c44r28 : List Seg := [
 zo 7 (.mv (.c .nilslice))]
def c44k28 : ICode := .kill 64 [1, 2, 4] (.ops c44r28)
def c44s29 : ICode := (.seq c44k28 c44s27)
def c44r30 : List Seg := [
 zo 22 (.mkagg [.int .i64 0, .int .i64 0, .int .i64 0, .int .i64 0, .int .i64 0, .int .i64 0, .int .i64 0, .int .i64 0] []),
 zm 23 6,
 .one ⟨none, .storeN 8 (.t 4) (.t 22), none⟩,
 zm 5 23]
def c44k30 : ICode := .kill 64 [4, 6] (.ops c44r30)
def c44s31 : ICode := (.cond (.t 21) (.seq c44k30 .ret) .skip)
def c44r32 : List Seg := [
 zm 20 6,
 zo 21 (.bin .neq (.t 20) (.c (.int .i64 0)))]
def c44k32 : ICode := .kill 64 [1, 2, 4, 6] (.ops c44r32)
def c44s33 : ICode := (.seq c44k32 c44s31)
def c44r34 : List Seg := [
 zo 15 (.loadN 3 (.t 2)),
 zm 16 1,
 zo 17 (.loadN 3 (.t 2)),
 zo 18 (.bind 67 [(.t 17)]),
 zo 19 (.call [] (.c (.func 66 [])) [(.t 15), (.t 16), (.t 18)]),
 zm 6 19]
def c44k34 : ICode := .kill 64 [1, 2, 4] (.ops c44r34)
def c44s35 : ICode := (.seq (.seq c44k34 c44s33) c44s29)
def c44r36 : List Seg := [
 zo 2 (.box (.t 0)),
 zo 4 (.box (.c (.agg [.int .i64 0, .int .i64 0, .int .i64 0, .int .i64 0, .int .i64 0, .int .i64 0, .int .i64 0, .int .i64 0]))),
 zo 5 (.mv (.c (.int .i64 0)))]
def c44k36 : ICode := .kill 64 [0, 1] (.ops c44r36)
def c44b : ICode := (.seq c44k36 c44s35)
def c44 : IFn := ⟨64, [.cellN 4 8, .t 5], c44b⟩
def h44 : List (Nat × Nat × List Nat) := [(0, (64, [0, 1])), (1, (64, [1, 2, 4])), (2, (64, [1, 2, 4, 6])), (3, (64, [4, 6])), (4, (64, [1, 2, 4])), (5, (64, [1, 2, 4, 7])), (6, (64, [1, 2, 4, 7, 24, 25, 26])), (7, (64, [1, 2, 4, 7, 24, 25, 26])), (8, (64, [1, 2, 4, 7, 9, 24, 25, 26])), (9, (64, [1, 2, 4, 7, 24, 25, 26])), (10, (64, [1, 2, 4, 7])), (11, (64, [4, 7, 10])), (12, (64, [4, 7, 10, 11])), (13, (64, [4, 11, 46, 47, 48])), (14, (64, [4, 11, 46, 47, 48])), (15, (64, [4, 11, 12, 13, 46, 47, 48])), (16, (64, [4, 11, 12, 14, 46, 47, 48])), (17, (64, [4, 11, 46, 47, 48])), (18, (64, [4, 11]))]
def c47r1 : List Seg := [
 zm 103 10,
 zm 104 10,
 zo 105 (.eqv true .slice (.t 104) (.c .nilslice)),
 zm 4 103,
 zm 5 105,
 zo 6 (.mv (.c (.int .i64 0)))]
def c47k1 : ICode := .kill 106 [10] (.ops c47r1)
def c47s2 : ICode := (.seq c47k1 .ret)
def c47r4 : List Seg := [
 zo 102 (.bin .add (.t 30) (.c (.int .i64 1))),
 zm 30 102]
def c47k4 : ICode := .kill 106 [1, 8, 9, 10, 28, 29, 30] (.ops c47r4)
def c47r5 : List Seg := [
 zm 98 13,
 zm 99 14,
 zo 100 (.sliceS 1 (.t 99) (some (.c (.int .i64 1))) none none),
 zo 101 (.app 1 8 (.t 98) (.t 100)),
 zm 10 101]
def c47k5 : ICode := .kill 106 [13, 14] (.ops c47r5)
def c47s6 : ICode := (.seq c47k5 (.exit 0))
def c47r7 : List Seg := [
 zm 96 14,
 zo 97 (.call [] (.c (.func 82 [])) [(.t 96)])]
def c47k7 : ICode := .kill 106 [13, 14] (.ops c47r7)
def c47s8 : ICode := (.seq c47k7 c47s6)
def c47r10 : List Seg := [
 .grp [(zn 86 13, 0), (zn 87 13, 0), (zp 88 (.len 0 (.t 87)), 2), (zp 89 (.bin .sub (.t 88) (.c (.int .i64 1))), 6), (zp 90 (.sliceS 1 (.t 86) none (some (.t 89)) none), 15), (zn 91 14, 0), (zn 92 14, 0), (zp 93 (.len 0 (.t 92)), 64), (zp 94 (.bin .sub (.t 93) (.c (.int .i64 1))), 192), (zp 95 (.sliceS 1 (.t 91) none (some (.t 94)) none), 480), (zn 13 90, 31)],
 zm 14 95]
def c47k10 : ICode := .kill 106 [13, 14] (.ops c47r10)
def c47s11 : ICode := (.block 3 c47k10)
def c47s12 : ICode := (.cond (.t 85) .skip (.exit 2))
def c47r13 : List Seg := [
 zm 63 13,
 zo 64 (.len 0 (.t 63)),
 zo 65 (.bin .gtr (.t 64) (.c (.int .i64 1))),
 zm 66 65,
 .one ⟨some 67, .mv (.t 14), some (66, true)⟩,
 .one ⟨some 68, .len 0 (.t 67), some (66, true)⟩,
 .one ⟨some 69, .bin .gtr (.t 68) (.c (.int .i64 1)), some (66, true)⟩,
 zo 70 (.pick (.t 66) (.t 69) (.c (.bool false))),
 zm 71 70,
 .grp [(⟨some 72, .mv (.t 13), some (71, true)⟩, 0), (⟨some 73, .mv (.t 13), some (71, true)⟩, 0), (⟨some 74, .len 0 (.t 73), some (71, true)⟩, 2), (⟨some 75, .bin .sub (.t 74) (.c (.int .i64 2)), some (71, true)⟩, 6), (⟨some 76, .idxS 1 (.t 72) (.t 75), some (71, true)⟩, 15), (⟨some 77, .load1 (.t 76), some (71, true)⟩, 31), (⟨some 78, .mv (.t 14), some (71, true)⟩, 0), (⟨some 79, .mv (.t 14), some (71, true)⟩, 0), (⟨some 80, .len 0 (.t 79), some (71, true)⟩, 128), (⟨some 81, .bin .sub (.t 80) (.c (.int .i64 2)), some (71, true)⟩, 384), (⟨some 82, .idxS 1 (.t 78) (.t 81), some (71, true)⟩, 960), (⟨some 83, .load1 (.t 82), some (71, true)⟩, 1984)],
 .one ⟨some 84, .bin .eql (.t 77) (.t 83), some (71, true)⟩,
 zo 85 (.pick (.t 71) (.t 84) (.c (.bool false)))]
def c47k13 : ICode := .kill 106 [13, 14] (.ops c47r13)
def c47l9 : ICode := (.seq (.seq c47k13 c47s12) c47s11)
def c47s14 : ICode := (.seq (.block 2 (.loop c47l9)) c47s8)
def c47r15 : List Seg := [
 .grp [(zp 55 (.load1 (.t 9)), 0), (zp 56 (.idxA 2 1 (.t 12) (.c (.int .i64 0))), 0), (zp 57 (.load1 (.t 56)), 2), (zp 58 (.call [] (.t 55) [(.t 57)]), 7), (zp 59 (.load1 (.t 9)), 0), (zp 60 (.idxA 2 1 (.t 12) (.c (.int .i64 1))), 0), (zp 61 (.load1 (.t 60)), 32)],
 zo 62 (.call [] (.t 59) [(.t 61)]),
 zm 13 58,
 zm 14 62]
def c47k15 : ICode := .kill 106 [9, 12] (.ops c47r15)
def c47s16 : ICode := (.seq c47k15 c47s14)
def c47s17 : ICode := (.cond (.t 54) (.exit 1) .skip)
def c47r18 : List Seg := [
 .grp [(zp 35 (.load1 (.t 8)), 0), (zp 36 (.idxA 2 1 (.t 12) (.c (.int .i64 1))), 0), (zp 37 (.load1 (.t 36)), 2), (zp 38 (.nilck (.t 35)), 1), (zp 39 (.fieldA 6 (.t 38)), 9), (zp 40 (.idxA 6 1 (.t 39) (.t 37)), 31), (zp 41 (.load1 (.t 40)), 63), (zp 42 (.load1 (.t 8)), 0), (zp 43 (.idxA 2 1 (.t 12) (.c (.int .i64 0))), 0), (zp 44 (.load1 (.t 43)), 256), (zp 45 (.nilck (.t 42)), 128), (zp 46 (.fieldA 6 (.t 45)), 1152), (zp 47 (.idxA 6 1 (.t 46) (.t 44)), 3968), (zp 48 (.load1 (.t 47)), 8064), (zp 49 (.bin .sub (.t 41) (.t 48)), 16383), (zn 50 1, 0), (zn 51 11, 0), (zp 52 (.idxS 1 (.t 50) (.t 51)), 98304), (zp 53 (.load1 (.t 52)), 229376)],
 zo 54 (.bin .eql (.t 49) (.t 53))]
def c47k18 : ICode := .kill 106 [1, 8, 9, 10, 11, 12, 28, 29, 30] (.ops c47r18)
def c47s19 : ICode := (.seq (.seq c47k18 c47s17) c47s16)
def c47r20 : List Seg := [
 zm 32 30,
 zo 33 (.idxS 2 (.t 28) (.t 30)),
 zo 34 (.loadN 2 (.t 33)),
 zo 12 (.box (.c (.agg [.int .i64 0, .int .i64 0]))),
 zm 11 32,
 .one ⟨none, .storeN 2 (.t 12) (.t 34), none⟩]
def c47k20 : ICode := .kill 106 [1, 8, 9, 10, 28, 29, 30] (.ops c47r20)
def c47s21 : ICode := (.seq (.block 1 (.seq c47k20 c47s19)) c47k4)
def c47s22 : ICode := (.seq (.cond (.t 31) .skip (.exit 0)) c47s21)
def c47r23 : List Seg := [
 zo 31 (.bin .lss (.t 30) (.t 29))]
def c47k23 : ICode := .kill 106 [1, 8, 9, 10, 28, 29, 30] (.ops c47r23)
def c47l3 : ICode := (.seq c47k23 c47s22)
def c47s24 : ICode := (.block 0 (.loop c47l3))
def c47r25 : List Seg := [
 zo 27 (.fieldA 1 (.t 2)),
 zo 28 (.load1 (.t 27)),
 zo 29 (.len 0 (.t 28)),
 zo 30 (.mv (.c (.int .i64 0)))]
def c47k25 : ICode := .kill 106 [1, 2, 8, 9, 10] (.ops c47r25)
def c47s26 : ICode := (.seq (.seq c47k25 c47s24) c47s2)
def c47s27 : ICode := (.seq .skip c47s26)
def c47r28 : List Seg := [
 zo 10 (.mv (.c .nilslice))]
def c47k28 : ICode := .kill 106 [1, 2, 8, 9] (.ops c47r28)
def c47s29 : ICode := (.seq c47k28 c47s27)
def c47r30 : List Seg := [
 zo 26 (.mkfn 81 [(.t 8), (.t 9)]),
 .one ⟨none, .store1 (.t 9) (.t 26), none⟩]
def c47k30 : ICode := .kill 106 [1, 2, 8, 9] (.ops c47r30)
def c47s31 : ICode := (.seq c47k30 c47s29)
def c47r32 : List Seg := [
 zo 9 (.box (.c .nilfunc))]
def c47k32 : ICode := .kill 106 [1, 2, 8] (.ops c47r32)
def c47s33 : ICode := (.seq c47k32 c47s31)
def c47r34 : List Seg := [
 zo 23 (.loadN 3 (.t 2)),
 zm 24 1,
 zo 25 (.call [] (.c (.func 78 [])) [(.t 23), (.t 24)]),
 zo 8 (.box (.c .nilptr)),
 .one ⟨none, .store1 (.t 8) (.t 25), none⟩]
def c47k34 : ICode := .kill 106 [1, 2] (.ops c47r34)
def c47s35 : ICode := (.seq c47k34 c47s33)
def c47r36 : List Seg := [
 zm 22 7,
 zo 4 (.mv (.c .nilslice)),
 zo 5 (.mv (.c (.bool false))),
 zm 6 22]
def c47k36 : ICode := .kill 106 [7] (.ops c47r36)
def c47s37 : ICode := (.cond (.t 21) (.seq c47k36 .ret) .skip)
def c47r38 : List Seg := [
 zm 20 7,
 zo 21 (.bin .neq (.t 20) (.c (.int .i64 0)))]
def c47k38 : ICode := .kill 106 [1, 2, 7] (.ops c47r38)
def c47s39 : ICode := (.seq c47k38 c47s37)
def c47r40 : List Seg := [
 zo 15 (.loadN 3 (.t 2)),
 zm 16 1,
 zo 17 (.loadN 3 (.t 2)),
 zo 18 (.bind 67 [(.t 17)]),
 zo 19 (.call [] (.c (.func 66 [])) [(.t 15), (.t 16), (.t 18)]),
 zm 7 19]
def c47k40 : ICode := .kill 106 [1, 2] (.ops c47r40)
def c47p0 : ICode := (.seq (.seq c47k40 c47s39) c47s35)
def c47s41 : ICode := (.scope c47p0)
def c47r42 : List Seg := [
 zo 2 (.box (.t 0)),
 zo 4 (.mv (.c .nilslice)),
 zo 5 (.mv (.c (.bool false))),
 zo 6 (.mv (.c (.int .i64 0)))]
def c47k42 : ICode := .kill 106 [0, 1] (.ops c47r42)
def c47b : ICode := (.seq c47k42 c47s41)
def c47 : IFn := ⟨106, [.t 4, .t 5, .t 6], c47b⟩
def h47 : List (Nat × Nat × List Nat) := [(0, (106, [0, 1])), (1, (106, [1, 2])), (2, (106, [1, 2, 7])), (3, (106, [7])), (4, (106, [1, 2])), (5, (106, [1, 2, 8])), (6, (106, [1, 2, 8, 9])), (7, (106, [1, 2, 8, 9])), (8, (106, [1, 2, 8, 9, 10])), (9, (106, [1, 8, 9, 10, 28, 29, 30])), (10, (106, [1, 8, 9, 10, 28, 29, 30])), (11, (106, [1, 8, 9, 10, 11, 12, 28, 29, 30])), (12, (106, [9, 12])), (13, (106, [13, 14])), (14, (106, [13, 14])), (15, (106, [13, 14])), (16, (106, [13, 14])), (17, (106, [1, 8, 9, 10, 28, 29, 30])), (18, (106, [10]))]
def c50r0 : List Seg := [
 .grp [(zp 10 (.loadN 3 (.t 1)), 0), (zp 11 (.fieldA 1 (.t 1)), 0), (zp 12 (.load1 (.t 11)), 2), (zp 13 (.len 0 (.t 12)), 6), (zp 14 (.make [.int .i64 0] 8 (.t 13) (.t 13)), 14)],
 zo 15 (.call [] (.c (.func 78 [])) [(.t 10), (.t 14)]),
 zo 16 (.nilck (.t 15)),
 zo 17 (.fieldA 12 (.t 16)),
 zo 18 (.load1 (.t 17)),
 zm 2 18,
 zo 3 (.mv (.c (.int .i64 0)))]
def c50k0 : ICode := .kill 19 [1] (.ops c50r0)
def c50s1 : ICode := (.seq c50k0 .ret)
def c50r2 : List Seg := [
 zm 9 4,
 zo 2 (.mv (.c (.int .i64 0))),
 zm 3 9]
def c50k2 : ICode := .kill 19 [4] (.ops c50r2)
def c50s3 : ICode := (.cond (.t 8) (.seq c50k2 .ret) .skip)
def c50r4 : List Seg := [
 zm 7 4,
 zo 8 (.bin .neq (.t 7) (.c (.int .i64 0)))]
def c50k4 : ICode := .kill 19 [1, 4] (.ops c50r4)
def c50s5 : ICode := (.seq c50k4 c50s3)
def c50r6 : List Seg := [
 zo 5 (.loadN 3 (.t 1)),
 zo 6 (.call [] (.c (.func 59 [])) [(.t 5)]),
 zm 4 6]
def c50k6 : ICode := .kill 19 [1] (.ops c50r6)
def c50s7 : ICode := (.seq (.seq c50k6 c50s5) c50s1)
def c50r8 : List Seg := [
 zo 1 (.box (.t 0)),
 zo 2 (.mv (.c (.int .i64 0))),
 zo 3 (.mv (.c (.int .i64 0)))]
def c50k8 : ICode := .kill 19 [0] (.ops c50r8)
def c50b : ICode := (.seq c50k8 c50s7)
def c50 : IFn := ⟨19, [.t 2, .t 3], c50b⟩
def h50 : List (Nat × Nat × List Nat) := [(0, (19, [0])), (1, (19, [1])), (2, (19, [1, 4])), (3, (19, [4])), (4, (19, [1]))]
def c51r0 : List Seg := [
 zm 24 6,
 zm 25 8,
 zo 26 (.mkslice 2 [.nilslice, .nilslice] [(0, 1, (.t 24)), (1, 1, (.t 25))]),
 zo 27 (.call [] (.c (.func 84 [])) [(.t 26)]),
 zo 28 (.call [] (.c (.func 83 [])) [(.t 27), (.c (.func 85 []))]),
 zo 29 (.un .not (.t 28)),
 zm 30 7,
 zm 4 29,
 zm 5 30]
def c51k0 : ICode := .kill 31 [6, 7, 8] (.ops c51r0)
def c51s1 : ICode := (.seq c51k0 .ret)
def c51r2 : List Seg := [
 zo 19 (.loadN 3 (.t 2)),
 zm 20 1,
 zo 21 (.call [] (.c (.func 40 [])) [(.t 19), (.t 20)]),
 zm 18 21,
 zo 22 (.ext (.t 18) 0),
 zo 23 (.ext (.t 18) 1),
 zm 8 22,
 zm 7 23]
def c51k2 : ICode := .kill 31 [1, 2, 6] (.ops c51r2)
def c51s3 : ICode := (.seq c51k2 c51s1)
def c51r4 : List Seg := [
 zm 17 7,
 zo 4 (.mv (.c (.bool false))),
 zm 5 17]
def c51k4 : ICode := .kill 31 [7] (.ops c51r4)
def c51s5 : ICode := (.cond (.t 16) (.seq c51k4 .ret) .skip)
def c51r6 : List Seg := [
 zm 15 7,
 zo 16 (.bin .neq (.t 15) (.c (.int .i64 0)))]
def c51k6 : ICode := .kill 31 [1, 2, 6, 7] (.ops c51r6)
def c51s7 : ICode := (.seq (.seq c51k6 c51s5) c51s3)
def c51r8 : List Seg := [
 zo 10 (.loadN 3 (.t 2)),
 zm 11 1,
 zo 12 (.call [] (.c (.func 22 [])) [(.t 10), (.t 11)]),
 zm 9 12,
 zo 13 (.ext (.t 9) 0),
 zo 14 (.ext (.t 9) 1),
 zm 6 13,
 zm 7 14]
def c51k8 : ICode := .kill 31 [1, 2] (.ops c51r8)
def c51s9 : ICode := (.seq c51k8 c51s7)
def c51r10 : List Seg := [
 zo 2 (.box (.t 0)),
 zo 4 (.mv (.c (.bool false))),
 zo 5 (.mv (.c (.int .i64 0)))]
def c51k10 : ICode := .kill 31 [0, 1] (.ops c51r10)
def c51b : ICode := (.seq c51k10 c51s9)
def c51 : IFn := ⟨31, [.t 4, .t 5], c51b⟩
def h51 : List (Nat × Nat × List Nat) := [(0, (31, [0, 1])), (1, (31, [1, 2])), (2, (31, [1, 2, 6, 7])), (3, (31, [7])), (4, (31, [1, 2, 6])), (5, (31, [6, 7, 8]))]
def c58r0 : List Seg := [
 zo 2 (.mv (.c (.bool true)))]
def c58k0 : ICode := .kill 163 [] (.ops c58r0)
def c58s1 : ICode := (.seq c58k0 .ret)
def c58r3 : List Seg := [
 zm 102 6,
 zo 103 (.bin .add (.t 102) (.c (.int .i64 1))),
 zm 6 103]
def c58k3 : ICode := .kill 163 [1, 6] (.ops c58r3)
def c58r4 : List Seg := [
 zo 2 (.mv (.c (.bool false)))]
def c58k4 : ICode := .kill 163 [] (.ops c58r4)
def c58s5 : ICode := (.cond (.t 162) (.seq c58k4 .ret) .skip)
def c58r6 : List Seg := [
 .grp [(zp 109 (.idxA 3 1 (.t 7) (.c (.int .i64 0))), 0), (zp 110 (.load1 (.t 109)), 1), (zp 111 (.idxA 3 1 (.t 7) (.c (.int .i64 1))), 0), (zp 112 (.load1 (.t 111)), 4)],
 zo 113 (.bin .geq (.t 110) (.t 112)),
 zm 114 113,
 .grp [(⟨some 115, .idxA 3 1 (.t 7) (.c (.int .i64 1)), some (114, false)⟩, 0), (⟨some 116, .load1 (.t 115), some (114, false)⟩, 1), (⟨some 117, .idxA 3 1 (.t 7) (.c (.int .i64 2)), some (114, false)⟩, 0), (⟨some 118, .load1 (.t 117), some (114, false)⟩, 4)],
 .one ⟨some 119, .bin .geq (.t 116) (.t 118), some (114, false)⟩,
 zo 120 (.pick (.t 114) (.c (.bool true)) (.t 119)),
 zm 121 120,
 .grp [(⟨some 122, .loadN 3 (.t 1), some (121, false)⟩, 0), (⟨some 123, .idxA 3 1 (.t 7) (.c (.int .i64 0)), some (121, false)⟩, 0), (⟨some 124, .load1 (.t 123), some (121, false)⟩, 2), (⟨some 125, .idxA 3 1 (.t 7) (.c (.int .i64 1)), some (121, false)⟩, 0), (⟨some 126, .load1 (.t 125), some (121, false)⟩, 8)],
 .one ⟨some 127, .call [] (.c (.func 60 [])) [(.t 122), (.t 124), (.t 126)], some (121, false)⟩,
 .one ⟨some 128, .bin .lss (.t 127) (.c (.int .i64 0)), some (121, false)⟩,
 zo 129 (.pick (.t 121) (.c (.bool true)) (.t 128)),
 zm 130 129,
 .grp [(⟨some 131, .loadN 3 (.t 1), some (130, false)⟩, 0), (⟨some 132, .idxA 3 1 (.t 7) (.c (.int .i64 0)), some (130, false)⟩, 0), (⟨some 133, .load1 (.t 132), some (130, false)⟩, 2), (⟨some 134, .idxA 3 1 (.t 7) (.c (.int .i64 2)), some (130, false)⟩, 0), (⟨some 135, .load1 (.t 134), some (130, false)⟩, 8)],
 .one ⟨some 136, .call [] (.c (.func 60 [])) [(.t 131), (.t 133), (.t 135)], some (130, false)⟩,
 .one ⟨some 137, .bin .lss (.t 136) (.c (.int .i64 0)), some (130, false)⟩,
 zo 138 (.pick (.t 130) (.c (.bool true)) (.t 137)),
 zm 139 138,
 .grp [(⟨some 140, .loadN 3 (.t 1), some (139, false)⟩, 0), (⟨some 141, .idxA 3 1 (.t 7) (.c (.int .i64 1)), some (139, false)⟩, 0), (⟨some 142, .load1 (.t 141), some (139, false)⟩, 2), (⟨some 143, .idxA 3 1 (.t 7) (.c (.int .i64 2)), some (139, false)⟩, 0), (⟨some 144, .load1 (.t 143), some (139, false)⟩, 8)],
 .one ⟨some 145, .call [] (.c (.func 60 [])) [(.t 140), (.t 142), (.t 144)], some (139, false)⟩,
 .one ⟨some 146, .bin .lss (.t 145) (.c (.int .i64 0)), some (139, false)⟩,
 zo 147 (.pick (.t 139) (.c (.bool true)) (.t 146)),
 zm 148 147,
 .one ⟨some 149, .mv (.t 6), some (148, false)⟩,
 .one ⟨some 150, .bin .gtr (.t 149) (.c (.int .i64 0)), some (148, false)⟩,
 .one ⟨some 151, .mv (.t 150), some (148, false)⟩,
 .grp [(⟨some 152, .fieldA 2 (.t 1), some (151, true)⟩, 0), (⟨some 153, .load1 (.t 152), some (151, true)⟩, 1), (⟨some 154, .mv (.t 6), some (151, true)⟩, 0), (⟨some 155, .bin .sub (.t 154) (.c (.int .i64 1)), some (151, true)⟩, 4), (⟨some 156, .idxS 3 (.t 153) (.t 155), some (151, true)⟩, 15), (⟨some 157, .loadN 3 (.t 156), some (151, true)⟩, 31), (⟨some 158, .loadN 3 (.t 7), some (151, true)⟩, 0)],
 .one ⟨some 159, .call [] (.c (.func 90 [])) [(.t 157), (.t 158)], some (151, true)⟩,
 .one ⟨some 160, .un .not (.t 159), some (151, true)⟩,
 .one ⟨some 161, .pick (.t 151) (.t 160) (.c (.bool false)), some (148, false)⟩,
 zo 162 (.pick (.t 148) (.c (.bool true)) (.t 161))]
def c58k6 : ICode := .kill 163 [1, 6, 7] (.ops c58r6)
def c58s7 : ICode := (.seq c58k6 c58s5)
def c58r8 : List Seg := [
 zo 104 (.fieldA 2 (.t 1)),
 zo 105 (.load1 (.t 104)),
 zm 106 6,
 zo 107 (.idxS 3 (.t 105) (.t 106)),
 zo 108 (.loadN 3 (.t 107)),
 zo 7 (.box (.c (.agg [.int .i64 0, .int .i64 0, .int .i64 0]))),
 .one ⟨none, .storeN 3 (.t 7) (.t 108), none⟩]
def c58k8 : ICode := .kill 163 [1, 6] (.ops c58r8)
def c58s9 : ICode := (.seq (.block 3 (.seq c58k8 c58s7)) c58k3)
def c58s10 : ICode := (.cond (.t 101) .skip (.exit 2))
def c58r11 : List Seg := [
 zm 97 6,
 zo 98 (.fieldA 2 (.t 1)),
 zo 99 (.load1 (.t 98)),
 zo 100 (.len 0 (.t 99)),
 zo 101 (.bin .lss (.t 97) (.t 100))]
def c58k11 : ICode := .kill 163 [1, 6] (.ops c58r11)
def c58l2 : ICode := (.seq (.seq c58k11 c58s10) c58s9)
def c58s12 : ICode := (.block 2 (.loop c58l2))
def c58r13 : List Seg := [
 zo 6 (.mv (.c (.int .i64 0)))]
def c58k13 : ICode := .kill 163 [1] (.ops c58r13)
def c58s14 : ICode := (.seq (.seq c58k13 c58s12) c58s1)
def c58r16 : List Seg := [
 zm 33 3,
 zo 34 (.bin .add (.t 33) (.c (.int .i64 1))),
 zm 3 34]
def c58k16 : ICode := .kill 163 [1, 3] (.ops c58r16)
def c58r17 : List Seg := [
 zo 2 (.mv (.c (.bool false)))]
def c58k17 : ICode := .kill 163 [] (.ops c58r17)
def c58s18 : ICode := (.cond (.t 96) (.seq c58k17 .ret) .skip)
def c58r19 : List Seg := [
 zm 47 4,
 zo 48 (.bin .lss (.t 47) (.c (.int .i64 0))),
 zm 49 48,
 .one ⟨some 50, .mv (.t 4), some (49, false)⟩,
 .one ⟨some 51, .mv (.t 5), some (49, false)⟩,
 .one ⟨some 52, .bin .geq (.t 50) (.t 51), some (49, false)⟩,
 zo 53 (.pick (.t 49) (.c (.bool true)) (.t 52)),
 zm 54 53,
 .one ⟨some 55, .mv (.t 5), some (54, false)⟩,
 .one ⟨some 56, .fieldA 0 (.t 1), some (54, false)⟩,
 .one ⟨some 57, .load1 (.t 56), some (54, false)⟩,
 .one ⟨some 58, .bin .geq (.t 55) (.t 57), some (54, false)⟩,
 zo 59 (.pick (.t 54) (.c (.bool true)) (.t 58)),
 zm 60 59,
 .one ⟨some 61, .mv (.t 3), some (60, false)⟩,
 .one ⟨some 62, .bin .gtr (.t 61) (.c (.int .i64 0)), some (60, false)⟩,
 .one ⟨some 63, .mv (.t 62), some (60, false)⟩,
 .one ⟨some 64, .fieldA 1 (.t 1), some (63, true)⟩,
 .one ⟨some 65, .load1 (.t 64), some (63, true)⟩,
 .one ⟨some 66, .mv (.t 3), some (63, true)⟩,
 .one ⟨some 67, .bin .sub (.t 66) (.c (.int .i64 1)), some (63, true)⟩,
 .one ⟨some 68, .idxS 2 (.t 65) (.t 67), some (63, true)⟩,
 .one ⟨some 69, .idxA 2 1 (.t 68) (.c (.int .i64 0)), some (63, true)⟩,
 .one ⟨some 70, .load1 (.t 69), some (63, true)⟩,
 .one ⟨some 71, .mv (.t 4), some (63, true)⟩,
 .one ⟨some 72, .bin .gtr (.t 70) (.t 71), some (63, true)⟩,
 .one ⟨some 73, .mv (.t 72), some (63, true)⟩,
 .one ⟨some 74, .fieldA 1 (.t 1), some (73, false)⟩,
 .one ⟨some 75, .load1 (.t 74), some (73, false)⟩,
 .one ⟨some 76, .mv (.t 3), some (73, false)⟩,
 .one ⟨some 77, .bin .sub (.t 76) (.c (.int .i64 1)), some (73, false)⟩,
 .one ⟨some 78, .idxS 2 (.t 75) (.t 77), some (73, false)⟩,
 .one ⟨some 79, .idxA 2 1 (.t 78) (.c (.int .i64 0)), some (73, false)⟩,
 .one ⟨some 80, .load1 (.t 79), some (73, false)⟩,
 .one ⟨some 81, .mv (.t 4), some (73, false)⟩,
 .one ⟨some 82, .bin .eql (.t 80) (.t 81), some (73, false)⟩,
 .one ⟨some 83, .mv (.t 82), some (73, false)⟩,
 .one ⟨some 84, .fieldA 1 (.t 1), some (83, true)⟩,
 .one ⟨some 85, .load1 (.t 84), some (83, true)⟩,
 .one ⟨some 86, .mv (.t 3), some (83, true)⟩,
 .one ⟨some 87, .bin .sub (.t 86) (.c (.int .i64 1)), some (83, true)⟩,
 .one ⟨some 88, .idxS 2 (.t 85) (.t 87), some (83, true)⟩,
 .one ⟨some 89, .idxA 2 1 (.t 88) (.c (.int .i64 1)), some (83, true)⟩,
 .one ⟨some 90, .load1 (.t 89), some (83, true)⟩,
 .one ⟨some 91, .mv (.t 5), some (83, true)⟩,
 .one ⟨some 92, .bin .geq (.t 90) (.t 91), some (83, true)⟩,
 .one ⟨some 93, .pick (.t 83) (.t 92) (.c (.bool false)), some (73, false)⟩,
 .one ⟨some 94, .pick (.t 73) (.c (.bool true)) (.t 93), some (63, true)⟩,
 .one ⟨some 95, .pick (.t 63) (.t 94) (.c (.bool false)), some (60, false)⟩,
 zo 96 (.pick (.t 60) (.c (.bool true)) (.t 95))]
def c58k19 : ICode := .kill 163 [1, 3, 4, 5] (.ops c58r19)
def c58s20 : ICode := (.seq c58k19 c58s18)
def c58r21 : List Seg := [
 .grp [(zp 35 (.fieldA 1 (.t 1)), 0), (zp 36 (.load1 (.t 35)), 1), (zn 37 3, 0), (zp 38 (.idxS 2 (.t 36) (.t 37)), 7), (zp 39 (.idxA 2 1 (.t 38) (.c (.int .i64 0))), 15), (zp 40 (.load1 (.t 39)), 31), (zp 41 (.fieldA 1 (.t 1)), 0), (zp 42 (.load1 (.t 41)), 64), (zn 43 3, 0), (zp 44 (.idxS 2 (.t 42) (.t 43)), 448), (zp 45 (.idxA 2 1 (.t 44) (.c (.int .i64 1))), 960), (zp 46 (.load1 (.t 45)), 1984), (zn 4 40, 63)],
 zm 5 46]
def c58k21 : ICode := .kill 163 [1, 3] (.ops c58r21)
def c58s22 : ICode := (.seq (.block 1 (.seq c58k21 c58s20)) c58k16)
def c58s23 : ICode := (.cond (.t 32) .skip (.exit 0))
def c58r24 : List Seg := [
 zm 28 3,
 zo 29 (.fieldA 1 (.t 1)),
 zo 30 (.load1 (.t 29)),
 zo 31 (.len 0 (.t 30)),
 zo 32 (.bin .lss (.t 28) (.t 31))]
def c58k24 : ICode := .kill 163 [1, 3] (.ops c58r24)
def c58l15 : ICode := (.seq (.seq c58k24 c58s23) c58s22)
def c58s25 : ICode := (.block 0 (.loop c58l15))
def c58r26 : List Seg := [
 zo 3 (.mv (.c (.int .i64 0)))]
def c58k26 : ICode := .kill 163 [1] (.ops c58r26)
def c58s27 : ICode := (.seq (.seq c58k26 c58s25) c58s14)
def c58r28 : List Seg := [
 zo 2 (.mv (.c (.bool false)))]
def c58k28 : ICode := .kill 163 [] (.ops c58r28)
def c58s29 : ICode := (.cond (.t 27) (.seq c58k28 .ret) .skip)
def c58r30 : List Seg := [
 zo 8 (.fieldA 0 (.t 1)),
 zo 9 (.load1 (.t 8)),
 zo 10 (.bin .lss (.t 9) (.c (.int .i64 1))),
 zm 11 10,
 .one ⟨some 12, .fieldA 0 (.t 1), some (11, false)⟩,
 .one ⟨some 13, .load1 (.t 12), some (11, false)⟩,
 .one ⟨some 14, .bin .gtr (.t 13) (.c (.int .i64 6)), some (11, false)⟩,
 zo 15 (.pick (.t 11) (.c (.bool true)) (.t 14)),
 zm 16 15,
 .one ⟨some 17, .fieldA 1 (.t 1), some (16, false)⟩,
 .one ⟨some 18, .load1 (.t 17), some (16, false)⟩,
 .one ⟨some 19, .len 0 (.t 18), some (16, false)⟩,
 .one ⟨some 20, .bin .gtr (.t 19) (.c (.int .i64 10)), some (16, false)⟩,
 zo 21 (.pick (.t 16) (.c (.bool true)) (.t 20)),
 zm 22 21,
 .one ⟨some 23, .fieldA 2 (.t 1), some (22, false)⟩,
 .one ⟨some 24, .load1 (.t 23), some (22, false)⟩,
 .one ⟨some 25, .len 0 (.t 24), some (22, false)⟩,
 .one ⟨some 26, .bin .gtr (.t 25) (.c (.int .i64 6)), some (22, false)⟩,
 zo 27 (.pick (.t 22) (.c (.bool true)) (.t 26))]
def c58k30 : ICode := .kill 163 [1] (.ops c58r30)
def c58s31 : ICode := (.seq (.seq c58k30 c58s29) c58s27)
def c58r32 : List Seg := [
 zo 1 (.box (.t 0)),
 zo 2 (.mv (.c (.bool false)))]
def c58k32 : ICode := .kill 163 [0] (.ops c58r32)
def c58b : ICode := (.seq c58k32 c58s31)
def c58 : IFn := ⟨163, [.t 2], c58b⟩
def h58 : List (Nat × Nat × List Nat) := [(0, (163, [0])), (1, (163, [1])), (2, (163, [])), (3, (163, [1])), (4, (163, [1, 3])), (6, (163, [1, 3])), (7, (163, [1, 3, 4, 5])), (8, (163, [])), (5, (163, [1, 3])), (9, (163, [1])), (10, (163, [1, 6])), (12, (163, [1, 6])), (13, (163, [1, 6, 7])), (14, (163, [])), (11, (163, [1, 6])), (15, (163, []))]
def c59r0 : List Seg := [
 zo 2 (.mv (.c (.int .i64 0)))]
def c59k0 : ICode := .kill 133 [] (.ops c59r0)
def c59s1 : ICode := (.seq c59k0 .ret)
def c59r3 : List Seg := [
 zo 132 (.bin .add (.t 73) (.c (.int .i64 1))),
 zm 73 132]
def c59k3 : ICode := .kill 133 [1, 71, 72, 73] (.ops c59r3)
def c59r5 : List Seg := [
 zo 131 (.bin .add (.t 122) (.c (.int .i64 1))),
 zm 122 131]
def c59k5 : ICode := .kill 133 [1, 71, 72, 73, 120, 121, 122] (.ops c59r5)
def c59r6 : List Seg := [
 zo 2 (.mv (.c (.int .i64 30)))]
def c59k6 : ICode := .kill 133 [] (.ops c59r6)
def c59s7 : ICode := (.cond (.t 130) (.seq c59k6 .ret) .skip)
def c59r8 : List Seg := [
 zo 126 (.fieldA 1 (.t 1)),
 zo 127 (.load1 (.t 126)),
 zo 128 (.loadN 2 (.t 8)),
 zo 129 (.call [] (.c (.func 92 [])) [(.t 127), (.t 128)]),
 zo 130 (.un .not (.t 129))]
def c59k8 : ICode := .kill 133 [1, 8, 71, 72, 73, 120, 121, 122] (.ops c59r8)
def c59s9 : ICode := (.seq c59k8 c59s7)
def c59r10 : List Seg := [
 zo 124 (.idxS 2 (.t 120) (.t 122)),
 zo 125 (.loadN 2 (.t 124)),
 zo 8 (.box (.c (.agg [.int .i64 0, .int .i64 0]))),
 .one ⟨none, .storeN 2 (.t 8) (.t 125), none⟩]
def c59k10 : ICode := .kill 133 [1, 71, 72, 73, 120, 121, 122] (.ops c59r10)
def c59s11 : ICode := (.seq (.block 5 (.seq c59k10 c59s9)) c59k5)
def c59s12 : ICode := (.seq (.cond (.t 123) .skip (.exit 4)) c59s11)
def c59r13 : List Seg := [
 zo 123 (.bin .lss (.t 122) (.t 121))]
def c59k13 : ICode := .kill 133 [1, 71, 72, 73, 120, 121, 122] (.ops c59r13)
def c59l4 : ICode := (.seq c59k13 c59s12)
def c59s14 : ICode := (.block 4 (.loop c59l4))
def c59r15 : List Seg := [
 zo 105 (.idxA 3 1 (.t 6) (.c (.int .i64 0))),
 zo 106 (.load1 (.t 105)),
 zo 107 (.idxA 3 1 (.t 6) (.c (.int .i64 1))),
 zo 108 (.load1 (.t 107)),
 zo 109 (.mkagg [.int .i64 0, .int .i64 0] [(0, 1, (.t 106)), (1, 1, (.t 108))]),
 zo 110 (.idxA 3 1 (.t 6) (.c (.int .i64 0))),
 zo 111 (.load1 (.t 110)),
 zo 112 (.idxA 3 1 (.t 6) (.c (.int .i64 2))),
 zo 113 (.load1 (.t 112)),
 zo 114 (.mkagg [.int .i64 0, .int .i64 0] [(0, 1, (.t 111)), (1, 1, (.t 113))]),
 zo 115 (.idxA 3 1 (.t 6) (.c (.int .i64 1))),
 zo 116 (.load1 (.t 115)),
 zo 117 (.idxA 3 1 (.t 6) (.c (.int .i64 2))),
 zo 118 (.load1 (.t 117)),
 zo 119 (.mkagg [.int .i64 0, .int .i64 0] [(0, 1, (.t 116)), (1, 1, (.t 118))]),
 zo 120 (.mkslice 3 [.int .i64 0, .int .i64 0, .int .i64 0, .int .i64 0, .int .i64 0, .int .i64 0] [(0, 2, (.t 109)), (2, 2, (.t 114)), (4, 2, (.t 119))]),
 zo 121 (.len 0 (.t 120)),
 zo 122 (.mv (.c (.int .i64 0)))]
def c59k15 : ICode := .kill 133 [1, 6, 71, 72, 73] (.ops c59r15)
def c59s16 : ICode := (.seq c59k15 c59s14)
def c59r17 : List Seg := [
 zo 2 (.mv (.c (.int .i64 30)))]
def c59k17 : ICode := .kill 133 [] (.ops c59r17)
def c59s18 : ICode := (.cond (.t 104) (.seq c59k17 .ret) .skip)
def c59r19 : List Seg := [
 .grp [(zp 78 (.idxA 3 1 (.t 6) (.c (.int .i64 0))), 0), (zp 79 (.load1 (.t 78)), 1), (zp 80 (.idxA 3 1 (.t 6) (.c (.int .i64 1))), 0), (zp 81 (.load1 (.t 80)), 4)],
 zo 82 (.bin .geq (.t 79) (.t 81)),
 zm 83 82,
 .grp [(⟨some 84, .idxA 3 1 (.t 6) (.c (.int .i64 1)), some (83, false)⟩, 0), (⟨some 85, .load1 (.t 84), some (83, false)⟩, 1), (⟨some 86, .idxA 3 1 (.t 6) (.c (.int .i64 2)), some (83, false)⟩, 0), (⟨some 87, .load1 (.t 86), some (83, false)⟩, 4)],
 .one ⟨some 88, .bin .geq (.t 85) (.t 87), some (83, false)⟩,
 zo 89 (.pick (.t 83) (.c (.bool true)) (.t 88)),
 zm 90 89,
 .one ⟨some 91, .mv (.t 5), some (90, false)⟩,
 .one ⟨some 92, .bin .gtr (.t 91) (.c (.int .i64 0)), some (90, false)⟩,
 .one ⟨some 93, .mv (.t 92), some (90, false)⟩,
 .grp [(⟨some 94, .fieldA 2 (.t 1), some (93, true)⟩, 0), (⟨some 95, .load1 (.t 94), some (93, true)⟩, 1), (⟨some 96, .mv (.t 5), some (93, true)⟩, 0), (⟨some 97, .bin .sub (.t 96) (.c (.int .i64 1)), some (93, true)⟩, 4), (⟨some 98, .idxS 3 (.t 95) (.t 97), some (93, true)⟩, 15), (⟨some 99, .sliceA 3 1 (.t 98) none none none, some (93, true)⟩, 31), (⟨some 100, .sliceA 3 1 (.t 6) none none none, some (93, true)⟩, 0)],
 .one ⟨some 101, .call [] (.c (.func 91 [])) [(.t 99), (.t 100)], some (93, true)⟩,
 .one ⟨some 102, .bin .geq (.t 101) (.c (.int .i64 0)), some (93, true)⟩,
 .one ⟨some 103, .pick (.t 93) (.t 102) (.c (.bool false)), some (90, false)⟩,
 zo 104 (.pick (.t 90) (.c (.bool true)) (.t 103))]
def c59k19 : ICode := .kill 133 [1, 5, 6, 71, 72, 73] (.ops c59r19)
def c59s20 : ICode := (.seq (.seq c59k19 c59s18) c59s16)
def c59r21 : List Seg := [
 zm 75 73,
 zo 76 (.idxS 3 (.t 71) (.t 73)),
 zo 77 (.loadN 3 (.t 76)),
 zo 6 (.box (.c (.agg [.int .i64 0, .int .i64 0, .int .i64 0]))),
 zm 5 75,
 .one ⟨none, .storeN 3 (.t 6) (.t 77), none⟩]
def c59k21 : ICode := .kill 133 [1, 71, 72, 73] (.ops c59r21)
def c59s22 : ICode := (.seq (.block 3 (.seq c59k21 c59s20)) c59k3)
def c59s23 : ICode := (.seq (.cond (.t 74) .skip (.exit 2)) c59s22)
def c59r24 : List Seg := [
 zo 74 (.bin .lss (.t 73) (.t 72))]
def c59k24 : ICode := .kill 133 [1, 71, 72, 73] (.ops c59r24)
def c59l2 : ICode := (.seq c59k24 c59s23)
def c59s25 : ICode := (.block 2 (.loop c59l2))
def c59r26 : List Seg := [
 zo 70 (.fieldA 2 (.t 1)),
 zo 71 (.load1 (.t 70)),
 zo 72 (.len 0 (.t 71)),
 zo 73 (.mv (.c (.int .i64 0)))]
def c59k26 : ICode := .kill 133 [1] (.ops c59r26)
def c59s27 : ICode := (.seq (.seq c59k26 c59s25) c59s1)
def c59r29 : List Seg := [
 zo 69 (.bin .add (.t 32) (.c (.int .i64 1))),
 zm 32 69]
def c59k29 : ICode := .kill 133 [1, 30, 31, 32] (.ops c59r29)
def c59r30 : List Seg := [
 zo 2 (.mv (.c (.int .i64 30)))]
def c59k30 : ICode := .kill 133 [] (.ops c59r30)
def c59s31 : ICode := (.cond (.t 68) (.seq c59k30 .ret) .skip)
def c59r32 : List Seg := [
 zo 37 (.idxA 2 1 (.t 4) (.c (.int .i64 0))),
 zo 38 (.load1 (.t 37)),
 zo 39 (.bin .lss (.t 38) (.c (.int .i64 0))),
 zm 40 39,
 .grp [(⟨some 41, .idxA 2 1 (.t 4) (.c (.int .i64 0)), some (40, false)⟩, 0), (⟨some 42, .load1 (.t 41), some (40, false)⟩, 1), (⟨some 43, .idxA 2 1 (.t 4) (.c (.int .i64 1)), some (40, false)⟩, 0), (⟨some 44, .load1 (.t 43), some (40, false)⟩, 4)],
 .one ⟨some 45, .bin .geq (.t 42) (.t 44), some (40, false)⟩,
 zo 46 (.pick (.t 40) (.c (.bool true)) (.t 45)),
 zm 47 46,
 .grp [(⟨some 48, .idxA 2 1 (.t 4) (.c (.int .i64 1)), some (47, false)⟩, 0), (⟨some 49, .load1 (.t 48), some (47, false)⟩, 1), (⟨some 50, .fieldA 0 (.t 1), some (47, false)⟩, 0), (⟨some 51, .load1 (.t 50), some (47, false)⟩, 4)],
 .one ⟨some 52, .bin .geq (.t 49) (.t 51), some (47, false)⟩,
 zo 53 (.pick (.t 47) (.c (.bool true)) (.t 52)),
 zm 54 53,
 .one ⟨some 55, .mv (.t 3), some (54, false)⟩,
 .one ⟨some 56, .bin .gtr (.t 55) (.c (.int .i64 0)), some (54, false)⟩,
 .one ⟨some 57, .mv (.t 56), some (54, false)⟩,
 .grp [(⟨some 58, .fieldA 1 (.t 1), some (57, true)⟩, 0), (⟨some 59, .load1 (.t 58), some (57, true)⟩, 1), (⟨some 60, .mv (.t 3), some (57, true)⟩, 0), (⟨some 61, .bin .sub (.t 60) (.c (.int .i64 1)), some (57, true)⟩, 4), (⟨some 62, .idxS 2 (.t 59) (.t 61), some (57, true)⟩, 15), (⟨some 63, .sliceA 2 1 (.t 62) none none none, some (57, true)⟩, 31), (⟨some 64, .sliceA 2 1 (.t 4) none none none, some (57, true)⟩, 0)],
 .one ⟨some 65, .call [] (.c (.func 91 [])) [(.t 63), (.t 64)], some (57, true)⟩,
 .one ⟨some 66, .bin .geq (.t 65) (.c (.int .i64 0)), some (57, true)⟩,
 .one ⟨some 67, .pick (.t 57) (.t 66) (.c (.bool false)), some (54, false)⟩,
 zo 68 (.pick (.t 54) (.c (.bool true)) (.t 67))]
def c59k32 : ICode := .kill 133 [1, 3, 4, 30, 31, 32] (.ops c59r32)
def c59s33 : ICode := (.seq c59k32 c59s31)
def c59r34 : List Seg := [
 zm 34 32,
 zo 35 (.idxS 2 (.t 30) (.t 32)),
 zo 36 (.loadN 2 (.t 35)),
 zo 4 (.box (.c (.agg [.int .i64 0, .int .i64 0]))),
 zm 3 34,
 .one ⟨none, .storeN 2 (.t 4) (.t 36), none⟩]
def c59k34 : ICode := .kill 133 [1, 30, 31, 32] (.ops c59r34)
def c59s35 : ICode := (.seq (.block 1 (.seq c59k34 c59s33)) c59k29)
def c59s36 : ICode := (.seq (.cond (.t 33) .skip (.exit 0)) c59s35)
def c59r37 : List Seg := [
 zo 33 (.bin .lss (.t 32) (.t 31))]
def c59k37 : ICode := .kill 133 [1, 30, 31, 32] (.ops c59r37)
def c59l28 : ICode := (.seq c59k37 c59s36)
def c59s38 : ICode := (.block 0 (.loop c59l28))
def c59r39 : List Seg := [
 zo 29 (.fieldA 1 (.t 1)),
 zo 30 (.load1 (.t 29)),
 zo 31 (.len 0 (.t 30)),
 zo 32 (.mv (.c (.int .i64 0)))]
def c59k39 : ICode := .kill 133 [1] (.ops c59r39)
def c59s40 : ICode := (.seq (.seq c59k39 c59s38) c59s27)
def c59r41 : List Seg := [
 zo 2 (.mv (.c (.int .i64 30)))]
def c59k41 : ICode := .kill 133 [] (.ops c59r41)
def c59s42 : ICode := (.cond (.t 28) (.seq c59k41 .ret) .skip)
def c59r43 : List Seg := [
 zo 9 (.fieldA 0 (.t 1)),
 zo 10 (.load1 (.t 9)),
 zo 11 (.bin .lss (.t 10) (.c (.int .i64 1))),
 zm 12 11,
 .one ⟨some 13, .fieldA 0 (.t 1), some (12, false)⟩,
 .one ⟨some 14, .load1 (.t 13), some (12, false)⟩,
 .one ⟨some 15, .bin .gtr (.t 14) (.c (.int .i64 6)), some (12, false)⟩,
 zo 16 (.pick (.t 12) (.c (.bool true)) (.t 15)),
 zm 17 16,
 .one ⟨some 18, .fieldA 1 (.t 1), some (17, false)⟩,
 .one ⟨some 19, .load1 (.t 18), some (17, false)⟩,
 .one ⟨some 20, .len 0 (.t 19), some (17, false)⟩,
 .one ⟨some 21, .bin .gtr (.t 20) (.c (.int .i64 10)), some (17, false)⟩,
 zo 22 (.pick (.t 17) (.c (.bool true)) (.t 21)),
 zm 23 22,
 .one ⟨some 24, .fieldA 2 (.t 1), some (23, false)⟩,
 .one ⟨some 25, .load1 (.t 24), some (23, false)⟩,
 .one ⟨some 26, .len 0 (.t 25), some (23, false)⟩,
 .one ⟨some 27, .bin .gtr (.t 26) (.c (.int .i64 6)), some (23, false)⟩,
 zo 28 (.pick (.t 23) (.c (.bool true)) (.t 27))]
def c59k43 : ICode := .kill 133 [1] (.ops c59r43)
def c59s44 : ICode := (.seq (.seq c59k43 c59s42) c59s40)
def c59r45 : List Seg := [
 zo 1 (.box (.t 0)),
 zo 2 (.mv (.c (.int .i64 0)))]
def c59k45 : ICode := .kill 133 [0] (.ops c59r45)
def c59b : ICode := (.seq c59k45 c59s44)
def c59 : IFn := ⟨133, [.t 2], c59b⟩
def h59 : List (Nat × Nat × List Nat) := [(0, (133, [0])), (1, (133, [1])), (2, (133, [])), (3, (133, [1])), (4, (133, [1, 30, 31, 32])), (5, (133, [1, 30, 31, 32])), (6, (133, [1, 3, 4, 30, 31, 32])), (7, (133, [])), (8, (133, [1, 30, 31, 32])), (9, (133, [1])), (10, (133, [1, 71, 72, 73])), (11, (133, [1, 71, 72, 73])), (12, (133, [1, 5, 6, 71, 72, 73])), (13, (133, [])), (14, (133, [1, 6, 71, 72, 73])), (15, (133, [1, 71, 72, 73, 120, 121, 122])), (16, (133, [1, 71, 72, 73, 120, 121, 122])), (17, (133, [1, 8, 71, 72, 73, 120, 121, 122])), (18, (133, [])), (19, (133, [1, 71, 72, 73, 120, 121, 122])), (20, (133, [1, 71, 72, 73])), (21, (133, []))]
end Go.Abs

set_option maxRecDepth 20000
set_option maxHeartbeats 4000000
namespace Go.Abs
def c60r0 : List Seg := [
 zo 6 (.mv (.c (.int .i64 (-1))))]
def c60k0 : ICode := .kill 29 [] (.ops c60r0)
def c60s1 : ICode := (.seq c60k0 .ret)
def c60r3 : List Seg := [
 zm 13 7,
 zo 14 (.bin .add (.t 13) (.c (.int .i64 1))),
 zm 7 14]
def c60k3 : ICode := .kill 29 [1, 2, 3, 7] (.ops c60r3)
def c60r4 : List Seg := [
 zm 28 7,
 zm 6 28]
def c60k4 : ICode := .kill 29 [7] (.ops c60r4)
def c60s5 : ICode := (.cond (.t 27) (.seq c60k4 .ret) .skip)
def c60r6 : List Seg := [
 zo 15 (.fieldA 1 (.t 3)),
 zo 16 (.load1 (.t 15)),
 zm 17 7,
 zo 18 (.idxS 2 (.t 16) (.t 17)),
 zo 19 (.loadN 2 (.t 18)),
 zm 20 1,
 zm 21 2,
 zo 22 (.mn [(.t 20), (.t 21)]),
 zm 23 1,
 zm 24 2,
 zo 25 (.mx [(.t 23), (.t 24)]),
 zo 26 (.mkagg [.int .i64 0, .int .i64 0] [(0, 1, (.t 22)), (1, 1, (.t 25))]),
 zo 27 (.eqv false (.ints 2) (.t 19) (.t 26))]
def c60k6 : ICode := .kill 29 [1, 2, 3, 7] (.ops c60r6)
def c60s7 : ICode := (.seq (.block 1 (.seq c60k6 c60s5)) c60k3)
def c60s8 : ICode := (.cond (.t 12) .skip (.exit 0))
def c60r9 : List Seg := [
 zm 8 7,
 zo 9 (.fieldA 1 (.t 3)),
 zo 10 (.load1 (.t 9)),
 zo 11 (.len 0 (.t 10)),
 zo 12 (.bin .lss (.t 8) (.t 11))]
def c60k9 : ICode := .kill 29 [1, 2, 3, 7] (.ops c60r9)
def c60l2 : ICode := (.seq (.seq c60k9 c60s8) c60s7)
def c60s10 : ICode := (.block 0 (.loop c60l2))
def c60r11 : List Seg := [
 zo 7 (.mv (.c (.int .i64 0)))]
def c60k11 : ICode := .kill 29 [1, 2, 3] (.ops c60r11)
def c60s12 : ICode := (.seq (.seq c60k11 c60s10) c60s1)
def c60r13 : List Seg := [
 zo 3 (.box (.t 0)),
 zo 6 (.mv (.c (.int .i64 0)))]
def c60k13 : ICode := .kill 29 [0, 1, 2] (.ops c60r13)
def c60b : ICode := (.seq c60k13 c60s12)
def c60 : IFn := ⟨29, [.t 6], c60b⟩
def h60 : List (Nat × Nat × List Nat) := [(0, (29, [0, 1, 2])), (1, (29, [1, 2, 3])), (2, (29, [1, 2, 3, 7])), (4, (29, [1, 2, 3, 7])), (5, (29, [7])), (3, (29, [1, 2, 3, 7])), (6, (29, []))]
def c62r0 : List Seg := [
 zo 5 (.mkfn 93 [(.t 2), (.t 3)]),
 zm 4 5]
def c62k0 : ICode := .kill 6 [2, 3] (.ops c62r0)
def c62s1 : ICode := (.seq c62k0 .ret)
def c62r2 : List Seg := [
 zo 2 (.box (.t 0)),
 zo 3 (.box (.t 1)),
 zo 4 (.mv (.c .nilfunc))]
def c62k2 : ICode := .kill 6 [0, 1] (.ops c62r2)
def c62b : ICode := (.seq c62k2 c62s1)
def c62 : IFn := ⟨6, [.t 4], c62b⟩
def h62 : List (Nat × Nat × List Nat) := [(0, (6, [0, 1])), (1, (6, [2, 3]))]
def c63r0 : List Seg := [
 zm 3 0,
 zo 4 (.mkagg [.int .i64 0, .int .i64 0] [(0, 1, (.t 3)), (1, 1, (.c (.int .i64 1)))]),
 .one ⟨none, .storeN 2 (.t 2) (.t 4), none⟩]
def c63k0 : ICode := .kill 5 [0, 2] (.ops c63r0)
def c63s1 : ICode := (.seq c63k0 .ret)
def c63r2 : List Seg := [
 zo 2 (.box (.c (.agg [.int .i64 0, .int .i64 0])))]
def c63k2 : ICode := .kill 5 [0] (.ops c63r2)
def c63b : ICode := (.seq c63k2 c63s1)
def c63 : IFn := ⟨5, [.cellN 2 2], c63b⟩
def h63 : List (Nat × Nat × List Nat) := [(0, (5, [0])), (1, (5, [0, 2]))]
def c64r1 : List Seg := [
 zm 147 7,
 zm 6 147]
def c64k1 : ICode := .kill 148 [7] (.ops c64r1)
def c64s2 : ICode := (.seq c64k1 .ret)
def c64r4 : List Seg := [
 zo 146 (.bin .add (.t 32) (.c (.int .i64 1))),
 zm 32 146]
def c64k4 : ICode := .kill 148 [0, 5, 7, 9, 31, 32] (.ops c64r4)
def c64r5 : List Seg := [
 zm 144 9,
 zo 145 (.bin .add (.t 144) (.c (.int .i64 1))),
 zm 9 145]
def c64k5 : ICode := .kill 148 [0, 5, 7, 9, 31, 32] (.ops c64r5)
def c64r6 : List Seg := [
 zm 140 7,
 zm 141 9,
 zm 142 10,
 zo 143 (.idxS 1 (.t 140) (.t 141)),
 .one ⟨none, .store1 (.t 143) (.t 142), none⟩]
def c64k6 : ICode := .kill 148 [0, 5, 7, 9, 10, 31, 32] (.ops c64r6)
def c64s7 : ICode := (.seq c64k6 c64k5)
def c64r9 : List Seg := [
 zo 139 (.bin .add (.t 97) (.c (.int .i64 1))),
 zm 97 139]
def c64k9 : ICode := .kill 148 [0, 5, 7, 9, 10, 12, 31, 32, 95, 96, 97] (.ops c64r9)
def c64r11 : List Seg := [
 zo 138 (.bin .add (.t 119) (.c (.int .i64 1))),
 zm 119 138]
def c64k11 : ICode := .kill 148 [0, 5, 7, 9, 10, 12, 16, 17, 31, 32, 95, 96, 97, 118, 119] (.ops c64r11)
def c64r12 : List Seg := [
 .grp [(zn 122 16, 0), (zn 123 18, 0), (zn 124 16, 0), (zn 125 18, 0), (zp 126 (.idxS 2 (.t 124) (.t 125)), 12), (zp 127 (.loadN 2 (.t 126)), 28), (zp 128 (.mkif 86 (.t 127)), 60), (zn 129 12, 0), (zn 130 18, 0), (zp 131 (.idxS 2 (.t 129) (.t 130)), 384), (zp 132 (.loadN 2 (.t 131)), 896), (zp 133 (.mkif 86 (.t 132)), 1920), (zp 134 (.loadN 2 (.t 17)), 0), (zp 135 (.call [(86, 99)] (.t 133) [(.t 134)]), 8064), (zp 136 (.call [(86, 95)] (.t 128) [(.t 135)]), 16380)],
 zo 137 (.idxS 2 (.t 122) (.t 123)),
 .one ⟨none, .storeN 2 (.t 137) (.t 136), none⟩]
def c64k12 : ICode := .kill 148 [0, 5, 7, 9, 10, 12, 16, 17, 18, 31, 32, 95, 96, 97, 118, 119] (.ops c64r12)
def c64r13 : List Seg := [
 zm 121 119,
 zm 18 121]
def c64k13 : ICode := .kill 148 [0, 5, 7, 9, 10, 12, 16, 17, 31, 32, 95, 96, 97, 118, 119] (.ops c64r13)
def c64s14 : ICode := (.seq (.block 11 (.seq c64k13 c64k12)) c64k11)
def c64s15 : ICode := (.seq (.cond (.t 120) .skip (.exit 10)) c64s14)
def c64r16 : List Seg := [
 zo 120 (.bin .lss (.t 119) (.t 118))]
def c64k16 : ICode := .kill 148 [0, 5, 7, 9, 10, 12, 16, 17, 31, 32, 95, 96, 97, 118, 119] (.ops c64r16)
def c64l10 : ICode := (.seq c64k16 c64s15)
def c64s17 : ICode := (.block 10 (.loop c64l10))
def c64r18 : List Seg := [
 zm 117 16,
 zo 118 (.len 0 (.t 117)),
 zo 119 (.mv (.c (.int .i64 0)))]
def c64k18 : ICode := .kill 148 [0, 5, 7, 9, 10, 12, 16, 17, 31, 32, 95, 96, 97] (.ops c64r18)
def c64s19 : ICode := (.seq c64k18 c64s17)
def c64r20 : List Seg := [
 zm 113 16,
 zm 114 10,
 zo 115 (.idxS 2 (.t 113) (.t 114)),
 zo 116 (.loadN 2 (.t 115)),
 zo 17 (.box (.c (.agg [.int .i64 0, .int .i64 0]))),
 .one ⟨none, .storeN 2 (.t 17) (.t 116), none⟩]
def c64k20 : ICode := .kill 148 [0, 5, 7, 9, 10, 12, 16, 31, 32, 95, 96, 97] (.ops c64r20)
def c64s21 : ICode := (.seq c64k20 c64s19)
def c64s22 : ICode := (.cond (.t 112) (.exit 9) .skip)
def c64r23 : List Seg := [
 .grp [(zn 102 15, 0), (zn 103 9, 0)],
 zo 104 (.bin .eql (.t 102) (.t 103)),
 zm 105 104,
 .grp [(⟨some 106, .mv (.t 16), some (105, false)⟩, 0), (⟨some 107, .mv (.t 10), some (105, false)⟩, 0), (⟨some 108, .idxS 2 (.t 106) (.t 107), some (105, false)⟩, 3), (⟨some 109, .loadN 2 (.t 108), some (105, false)⟩, 7), (⟨some 110, .loadN 2 (.t 5), some (105, false)⟩, 0)],
 .one ⟨some 111, .eqv false (.ints 2) (.t 109) (.t 110), some (105, false)⟩,
 zo 112 (.pick (.t 105) (.c (.bool true)) (.t 111))]
def c64k23 : ICode := .kill 148 [0, 5, 7, 9, 10, 12, 15, 16, 31, 32, 95, 96, 97] (.ops c64r23)
def c64s24 : ICode := (.seq (.seq c64k23 c64s22) c64s21)
def c64r25 : List Seg := [
 zm 99 97,
 zo 100 (.idxS 1 (.t 95) (.t 97)),
 zo 101 (.load1 (.t 100)),
 zm 15 99,
 zm 16 101]
def c64k25 : ICode := .kill 148 [0, 5, 7, 9, 10, 12, 31, 32, 95, 96, 97] (.ops c64r25)
def c64s26 : ICode := (.seq (.block 9 (.seq c64k25 c64s24)) c64k9)
def c64s27 : ICode := (.seq (.cond (.t 98) .skip (.exit 8)) c64s26)
def c64r28 : List Seg := [
 zo 98 (.bin .lss (.t 97) (.t 96))]
def c64k28 : ICode := .kill 148 [0, 5, 7, 9, 10, 12, 31, 32, 95, 96, 97] (.ops c64r28)
def c64l8 : ICode := (.seq c64k28 c64s27)
def c64s29 : ICode := (.block 8 (.loop c64l8))
def c64r30 : List Seg := [
 zm 95 0,
 zo 96 (.len 0 (.t 95)),
 zo 97 (.mv (.c (.int .i64 0)))]
def c64k30 : ICode := .kill 148 [0, 5, 7, 9, 10, 12, 31, 32] (.ops c64r30)
def c64s31 : ICode := (.seq (.seq c64k30 c64s29) c64s7)
def c64r33 : List Seg := [
 zo 94 (.bin .add (.t 81) (.c (.int .i64 1))),
 zm 81 94]
def c64k33 : ICode := .kill 148 [0, 5, 7, 9, 10, 12, 13, 31, 32, 80, 81] (.ops c64r33)
def c64r34 : List Seg := [
 .grp [(zn 84 12, 0), (zn 85 14, 0), (zn 86 12, 0), (zn 87 14, 0), (zp 88 (.idxS 2 (.t 86) (.t 87)), 12), (zp 89 (.loadN 2 (.t 88)), 28), (zp 90 (.mkif 86 (.t 89)), 60), (zp 91 (.loadN 2 (.t 13)), 0), (zp 92 (.call [(86, 123)] (.t 90) [(.t 91)]), 252)],
 zo 93 (.idxS 2 (.t 84) (.t 85)),
 .one ⟨none, .storeN 2 (.t 93) (.t 92), none⟩]
def c64k34 : ICode := .kill 148 [0, 5, 7, 9, 10, 12, 13, 14, 31, 32, 80, 81] (.ops c64r34)
def c64r35 : List Seg := [
 zm 83 81,
 zm 14 83]
def c64k35 : ICode := .kill 148 [0, 5, 7, 9, 10, 12, 13, 31, 32, 80, 81] (.ops c64r35)
def c64s36 : ICode := (.seq (.block 7 (.seq c64k35 c64k34)) c64k33)
def c64s37 : ICode := (.seq (.cond (.t 82) .skip (.exit 6)) c64s36)
def c64r38 : List Seg := [
 zo 82 (.bin .lss (.t 81) (.t 80))]
def c64k38 : ICode := .kill 148 [0, 5, 7, 9, 10, 12, 13, 31, 32, 80, 81] (.ops c64r38)
def c64l32 : ICode := (.seq c64k38 c64s37)
def c64s39 : ICode := (.block 6 (.loop c64l32))
def c64r40 : List Seg := [
 zm 79 12,
 zo 80 (.len 0 (.t 79)),
 zo 81 (.mv (.c (.int .i64 0)))]
def c64k40 : ICode := .kill 148 [0, 5, 7, 9, 10, 12, 13, 31, 32] (.ops c64r40)
def c64s41 : ICode := (.seq (.seq c64k40 c64s39) c64s31)
def c64r42 : List Seg := [
 zm 75 12,
 zm 76 10,
 zo 77 (.idxS 2 (.t 75) (.t 76)),
 zo 78 (.loadN 2 (.t 77)),
 zo 13 (.box (.c (.agg [.int .i64 0, .int .i64 0]))),
 .one ⟨none, .storeN 2 (.t 13) (.t 78), none⟩]
def c64k42 : ICode := .kill 148 [0, 5, 7, 9, 10, 12, 31, 32] (.ops c64r42)
def c64s43 : ICode := (.seq c64k42 c64s41)
def c64r44 : List Seg := [
 zm 71 0,
 zm 72 9,
 zo 73 (.idxS 1 (.t 71) (.t 72)),
 zo 74 (.load1 (.t 73)),
 zm 12 74]
def c64k44 : ICode := .kill 148 [0, 5, 7, 9, 10, 31, 32] (.ops c64r44)
def c64s45 : ICode := (.seq c64k44 c64s43)
def c64r46 : List Seg := [
 .grpw (.t 69) (.t 64) none 8179 [(zn 57 0, 0), (zn 58 9, 0), (zn 59 0, 0), (zn 60 11, 0), (zn 61 0, 0), (zn 62 11, 0), (zp 63 (.idxS 1 (.t 61) (.t 62)), 48), (zp 64 (.load1 (.t 63)), 112), (zn 65 0, 0), (zn 66 9, 0), (zp 67 (.idxS 1 (.t 65) (.t 66)), 768), (zp 68 (.load1 (.t 67)), 1792), (zp 69 (.idxS 1 (.t 57) (.t 58)), 4083), (⟨none, .lenc 0, none⟩, 8179)],
 zo 70 (.idxS 1 (.t 59) (.t 60)),
 .one ⟨none, .store1 (.t 70) (.t 68), none⟩]
def c64k46 : ICode := .kill 148 [0, 5, 7, 9, 10, 11, 31, 32] (.ops c64r46)
def c64s47 : ICode := (.seq c64k46 c64s45)
def c64s48 : ICode := (.cond (.t 56) (.exit 3) .skip)
def c64r49 : List Seg := [
 zm 53 11,
 zm 54 0,
 zo 55 (.len 0 (.t 54)),
 zo 56 (.bin .eql (.t 53) (.t 55))]
def c64k49 : ICode := .kill 148 [0, 5, 7, 9, 10, 11, 31, 32] (.ops c64r49)
def c64s50 : ICode := (.seq (.seq c64k49 c64s48) c64s47)
def c64r52 : List Seg := [
 zm 51 11,
 zo 52 (.bin .add (.t 51) (.c (.int .i64 1))),
 zm 11 52]
def c64k52 : ICode := .kill 148 [0, 5, 7, 9, 10, 11, 31, 32] (.ops c64r52)
def c64s53 : ICode := (.block 5 c64k52)
def c64s54 : ICode := (.cond (.t 50) .skip (.exit 4))
def c64r55 : List Seg := [
 .grp [(zn 36 11, 0), (zn 37 0, 0), (zp 38 (.len 0 (.t 37)), 2)],
 zo 39 (.bin .lss (.t 36) (.t 38)),
 zm 40 39,
 .grp [(⟨some 41, .mv (.t 0), some (40, true)⟩, 0), (⟨some 42, .mv (.t 11), some (40, true)⟩, 0), (⟨some 43, .idxS 1 (.t 41) (.t 42), some (40, true)⟩, 3), (⟨some 44, .load1 (.t 43), some (40, true)⟩, 7), (⟨some 45, .mv (.t 10), some (40, true)⟩, 0), (⟨some 46, .idxS 2 (.t 44) (.t 45), some (40, true)⟩, 31), (⟨some 47, .loadN 2 (.t 46), some (40, true)⟩, 63), (⟨some 48, .loadN 2 (.t 5), some (40, true)⟩, 0)],
 .one ⟨some 49, .eqv false (.ints 2) (.t 47) (.t 48), some (40, true)⟩,
 zo 50 (.pick (.t 40) (.t 49) (.c (.bool false)))]
def c64k55 : ICode := .kill 148 [0, 5, 7, 9, 10, 11, 31, 32] (.ops c64r55)
def c64l51 : ICode := (.seq (.seq c64k55 c64s54) c64s53)
def c64s56 : ICode := (.seq (.block 4 (.loop c64l51)) c64s50)
def c64r57 : List Seg := [
 zm 35 9,
 zm 11 35]
def c64k57 : ICode := .kill 148 [0, 5, 7, 9, 10, 31, 32] (.ops c64r57)
def c64s58 : ICode := (.seq c64k57 c64s56)
def c64r59 : List Seg := [
 zm 34 32,
 zm 10 34]
def c64k59 : ICode := .kill 148 [0, 5, 7, 9, 31, 32] (.ops c64r59)
def c64s60 : ICode := (.seq (.block 3 (.seq c64k59 c64s58)) c64k4)
def c64s61 : ICode := (.seq (.cond (.t 33) .skip (.exit 2)) c64s60)
def c64r62 : List Seg := [
 zo 33 (.bin .lss (.t 32) (.t 31))]
def c64k62 : ICode := .kill 148 [0, 5, 7, 9, 31, 32] (.ops c64r62)
def c64l3 : ICode := (.seq c64k62 c64s61)
def c64s63 : ICode := (.block 2 (.loop c64l3))
def c64r64 : List Seg := [
 zm 31 1,
 zo 32 (.mv (.c (.int .i64 0)))]
def c64k64 : ICode := .kill 148 [0, 1, 5, 7, 9] (.ops c64r64)
def c64s65 : ICode := (.seq (.seq c64k64 c64s63) c64s2)
def c64s66 : ICode := (.seq .skip c64s65)
def c64r67 : List Seg := [
 zo 9 (.mv (.c (.int .i64 0)))]
def c64k67 : ICode := .kill 148 [0, 1, 5, 7] (.ops c64r67)
def c64s68 : ICode := (.seq c64k67 c64s66)
def c64r70 : List Seg := [
 zo 30 (.bin .add (.t 24) (.c (.int .i64 1))),
 zm 24 30]
def c64k70 : ICode := .kill 148 [0, 1, 5, 7, 23, 24] (.ops c64r70)
def c64r71 : List Seg := [
 zm 27 7,
 zm 28 8,
 zo 29 (.idxS 1 (.t 27) (.t 28)),
 .one ⟨none, .store1 (.t 29) (.c (.int .i64 (-1))), none⟩]
def c64k71 : ICode := .kill 148 [0, 1, 5, 7, 8, 23, 24] (.ops c64r71)
def c64r72 : List Seg := [
 zm 26 24,
 zm 8 26]
def c64k72 : ICode := .kill 148 [0, 1, 5, 7, 23, 24] (.ops c64r72)
def c64s73 : ICode := (.seq (.block 1 (.seq c64k72 c64k71)) c64k70)
def c64s74 : ICode := (.seq (.cond (.t 25) .skip (.exit 0)) c64s73)
def c64r75 : List Seg := [
 zo 25 (.bin .lss (.t 24) (.t 23))]
def c64k75 : ICode := .kill 148 [0, 1, 5, 7, 23, 24] (.ops c64r75)
def c64l69 : ICode := (.seq c64k75 c64s74)
def c64s76 : ICode := (.block 0 (.loop c64l69))
def c64r77 : List Seg := [
 zm 22 7,
 zo 23 (.len 0 (.t 22)),
 zo 24 (.mv (.c (.int .i64 0)))]
def c64k77 : ICode := .kill 148 [0, 1, 5, 7] (.ops c64r77)
def c64s78 : ICode := (.seq (.seq c64k77 c64s76) c64s68)
def c64r79 : List Seg := [
 zm 19 0,
 zo 20 (.len 0 (.t 19)),
 zo 21 (.make [.int .i64 0] 8 (.t 20) (.t 20)),
 zm 7 21]
def c64k79 : ICode := .kill 148 [0, 1, 5] (.ops c64r79)
def c64p0 : ICode := (.seq c64k79 c64s78)
def c64s80 : ICode := (.scope c64p0)
def c64r81 : List Seg := [
 zo 5 (.box (.t 2)),
 zo 6 (.mv (.c .nilslice))]
def c64k81 : ICode := .kill 148 [0, 1, 2] (.ops c64r81)
def c64b : ICode := (.seq c64k81 c64s80)
def c64 : IFn := ⟨148, [.t 6], c64b⟩
def h64 : List (Nat × Nat × List Nat) := [(0, (148, [0, 1, 2])), (1, (148, [0, 1, 5])), (2, (148, [0, 1, 5, 7])), (3, (148, [0, 1, 5, 7, 23, 24])), (4, (148, [0, 1, 5, 7, 23, 24])), (5, (148, [0, 1, 5, 7, 8, 23, 24])), (6, (148, [0, 1, 5, 7, 23, 24])), (7, (148, [0, 1, 5, 7])), (8, (148, [0, 1, 5, 7, 9])), (9, (148, [0, 5, 7, 9, 31, 32])), (10, (148, [0, 5, 7, 9, 31, 32])), (11, (148, [0, 5, 7, 9, 10, 31, 32])), (12, (148, [0, 5, 7, 9, 10, 11, 31, 32])), (13, (148, [0, 5, 7, 9, 10, 11, 31, 32])), (14, (148, [0, 5, 7, 9, 10, 11, 31, 32])), (15, (148, [0, 5, 7, 9, 10, 11, 31, 32])), (16, (148, [0, 5, 7, 9, 10, 31, 32])), (17, (148, [0, 5, 7, 9, 10, 12, 31, 32])), (18, (148, [0, 5, 7, 9, 10, 12, 13, 31, 32])), (19, (148, [0, 5, 7, 9, 10, 12, 13, 31, 32, 80, 81])), (20, (148, [0, 5, 7, 9, 10, 12, 13, 31, 32, 80, 81])), (21, (148, [0, 5, 7, 9, 10, 12, 13, 14, 31, 32, 80, 81])), (22, (148, [0, 5, 7, 9, 10, 12, 13, 31, 32, 80, 81])), (23, (148, [0, 5, 7, 9, 10, 12, 31, 32])), (24, (148, [0, 5, 7, 9, 10, 12, 31, 32, 95, 96, 97])), (25, (148, [0, 5, 7, 9, 10, 12, 31, 32, 95, 96, 97])), (26, (148, [0, 5, 7, 9, 10, 12, 15, 16, 31, 32, 95, 96, 97])), (27, (148, [0, 5, 7, 9, 10, 12, 16, 31, 32, 95, 96, 97])), (28, (148, [0, 5, 7, 9, 10, 12, 16, 17, 31, 32, 95, 96, 97])), (29, (148, [0, 5, 7, 9, 10, 12, 16, 17, 31, 32, 95, 96, 97, 118, 119])), (30, (148, [0, 5, 7, 9, 10, 12, 16, 17, 31, 32, 95, 96, 97, 118, 119])), (31, (148, [0, 5, 7, 9, 10, 12, 16, 17, 18, 31, 32, 95, 96, 97, 118, 119])), (32, (148, [0, 5, 7, 9, 10, 12, 16, 17, 31, 32, 95, 96, 97, 118, 119])), (33, (148, [0, 5, 7, 9, 10, 12, 31, 32, 95, 96, 97])), (34, (148, [0, 5, 7, 9, 10, 31, 32])), (35, (148, [0, 5, 7, 9, 31, 32])), (36, (148, [0, 5, 7, 9, 31, 32])), (37, (148, [7]))]
def c66r0 : List Seg := [
 zo 6 (.mv (.c (.int .i64 0)))]
def c66k0 : ICode := .kill 22 [] (.ops c66r0)
def c66s1 : ICode := (.seq c66k0 .ret)
def c66r2 : List Seg := [
 zo 6 (.mv (.c (.int .i64 1)))]
def c66k2 : ICode := .kill 22 [] (.ops c66r2)
def c66s3 : ICode := (.cond (.t 21) (.seq c66k2 .ret) .skip)
def c66r4 : List Seg := [
 zm 13 1,
 zo 14 (.len 0 (.t 13)),
 zm 15 2,
 zo 16 (.call [] (.t 15) []),
 zo 17 (.bin .neq (.t 14) (.t 16)),
 zm 18 17,
 .one ⟨some 19, .mv (.t 1), some (18, false)⟩,
 .one ⟨some 20, .call [] (.c (.func 83 [])) [(.t 19), (.c (.func 94 []))], some (18, false)⟩,
 zo 21 (.pick (.t 18) (.c (.bool true)) (.t 20))]
def c66k4 : ICode := .kill 22 [1, 2] (.ops c66r4)
def c66s5 : ICode := (.seq (.seq c66k4 c66s3) c66s1)
def c66r6 : List Seg := [
 zm 12 7,
 zm 6 12]
def c66k6 : ICode := .kill 22 [7] (.ops c66r6)
def c66s7 : ICode := (.cond (.t 11) (.seq c66k6 .ret) .skip)
def c66r8 : List Seg := [
 zm 10 7,
 zo 11 (.bin .neq (.t 10) (.c (.int .i64 0)))]
def c66k8 : ICode := .kill 22 [1, 2, 7] (.ops c66r8)
def c66s9 : ICode := (.seq c66k8 c66s7)
def c66r10 : List Seg := [
 zo 8 (.loadN 3 (.t 3)),
 zo 9 (.call [] (.c (.func 59 [])) [(.t 8)]),
 zm 7 9]
def c66k10 : ICode := .kill 22 [1, 2, 3] (.ops c66r10)
def c66s11 : ICode := (.seq (.seq c66k10 c66s9) c66s5)
def c66r12 : List Seg := [
 zo 3 (.box (.t 0)),
 zo 6 (.mv (.c (.int .i64 0)))]
def c66k12 : ICode := .kill 22 [0, 1, 2] (.ops c66r12)
def c66b : ICode := (.seq c66k12 c66s11)
def c66 : IFn := ⟨22, [.t 6], c66b⟩
def h66 : List (Nat × Nat × List Nat) := [(0, (22, [0, 1, 2])), (1, (22, [1, 2, 3])), (2, (22, [1, 2, 7])), (3, (22, [7])), (4, (22, [1, 2])), (5, (22, [])), (6, (22, []))]
def c67r0 : List Seg := [
 zo 3 (.fieldA 1 (.t 1)),
 zo 4 (.load1 (.t 3)),
 zo 5 (.len 0 (.t 4)),
 zm 2 5]
def c67k0 : ICode := .kill 6 [1] (.ops c67r0)
def c67s1 : ICode := (.seq c67k0 .ret)
def c67r2 : List Seg := [
 zo 1 (.box (.t 0)),
 zo 2 (.mv (.c (.int .i64 0)))]
def c67k2 : ICode := .kill 6 [0] (.ops c67r2)
def c67b : ICode := (.seq c67k2 c67s1)
def c67 : IFn := ⟨6, [.t 2], c67b⟩
def h67 : List (Nat × Nat × List Nat) := [(0, (6, [0])), (1, (6, [1]))]
def c68r0 : List Seg := [
 zo 179 (.loadN 3 (.t 5)),
 .one ⟨none, .storeN 3 (.t 4) (.t 179), none⟩]
def c68k0 : ICode := .kill 180 [4, 5] (.ops c68r0)
def c68s1 : ICode := (.seq c68k0 .ret)
def c68r3 : List Seg := [
 zo 178 (.bin .add (.t 155) (.c (.int .i64 1))),
 zm 155 178]
def c68k3 : ICode := .kill 180 [4, 5, 19, 153, 154, 155] (.ops c68r3)
def c68r4 : List Seg := [
 .grp [(zp 160 (.idxA 3 1 (.t 5) (.c (.int .i64 2))), 0), (zp 161 (.load1 (.t 160)), 1), (zn 162 26, 0), (zp 163 (.call [] (.c (.func 63 [])) [(.t 162)]), 4), (zp 164 (.idxA 3 1 (.t 5) (.c (.int .i64 0))), 0), (zp 165 (.load1 (.t 164)), 16), (zn 166 25, 0), (zp 167 (.idxS 2 (.t 165) (.t 166)), 112), (zp 168 (.loadN 2 (.t 167)), 240), (zp 169 (.call [] (.c (.func 95 [])) [(.t 163), (.t 168)]), 508), (zp 170 (.load1 (.t 19)), 0), (zn 171 25, 0), (zp 172 (.idxS 2 (.t 170) (.t 171)), 3072), (zp 173 (.loadN 2 (.t 172)), 7168), (zp 174 (.call [] (.c (.func 95 [])) [(.t 169), (.t 173)]), 16380), (zp 175 (.mkslice 1 [.int .i64 0, .int .i64 0] [(0, 2, (.t 174))]), 32764)],
 zo 176 (.app 2 16 (.t 161) (.t 175)),
 zo 177 (.idxA 3 1 (.t 5) (.c (.int .i64 2))),
 .one ⟨none, .store1 (.t 177) (.t 176), none⟩]
def c68k4 : ICode := .kill 180 [4, 5, 19, 25, 26, 153, 154, 155] (.ops c68r4)
def c68r5 : List Seg := [
 zm 157 155,
 zo 158 (.idxS 1 (.t 153) (.t 155)),
 zo 159 (.load1 (.t 158)),
 zm 25 157,
 zm 26 159]
def c68k5 : ICode := .kill 180 [4, 5, 19, 153, 154, 155] (.ops c68r5)
def c68s6 : ICode := (.seq (.block 17 (.seq c68k5 c68k4)) c68k3)
def c68s7 : ICode := (.seq (.cond (.t 156) .skip (.exit 16)) c68s6)
def c68r8 : List Seg := [
 zo 156 (.bin .lss (.t 155) (.t 154))]
def c68k8 : ICode := .kill 180 [4, 5, 19, 153, 154, 155] (.ops c68r8)
def c68l2 : ICode := (.seq c68k8 c68s7)
def c68s9 : ICode := (.block 16 (.loop c68l2))
def c68r10 : List Seg := [
 zm 153 1,
 zo 154 (.len 0 (.t 153)),
 zo 155 (.mv (.c (.int .i64 0)))]
def c68k10 : ICode := .kill 180 [1, 4, 5, 19] (.ops c68r10)
def c68s11 : ICode := (.seq (.seq c68k10 c68s9) c68s1)
def c68r12 : List Seg := [
 zo 151 (.load1 (.t 19)),
 zo 152 (.idxA 3 1 (.t 5) (.c (.int .i64 1))),
 .one ⟨none, .store1 (.t 152) (.t 151), none⟩]
def c68k12 : ICode := .kill 180 [1, 4, 5, 19] (.ops c68r12)
def c68s13 : ICode := (.seq c68k12 c68s11)
def c68r15 : List Seg := [
 zo 150 (.bin .add (.t 128) (.c (.int .i64 1))),
 zm 128 150]
def c68k15 : ICode := .kill 180 [1, 2, 4, 5, 19, 126, 127, 128] (.ops c68r15)
def c68r17 : List Seg := [
 .grp [(zp 138 (.load1 (.t 19)), 0), (zn 139 23, 0), (zp 140 (.load1 (.t 19)), 0), (zn 141 23, 0), (zp 142 (.idxS 2 (.t 140) (.t 141)), 12), (zp 143 (.loadN 2 (.t 142)), 28), (zp 144 (.loadN 2 (.t 22)), 0), (zn 145 24, 0), (zp 146 (.call [] (.c (.func 63 [])) [(.t 145)]), 128), (zp 147 (.call [] (.c (.func 99 [])) [(.t 144), (.t 146)]), 448), (zp 148 (.call [] (.c (.func 97 [])) [(.t 143), (.t 147)]), 1020)],
 zo 149 (.idxS 2 (.t 138) (.t 139)),
 .one ⟨none, .storeN 2 (.t 149) (.t 148), none⟩]
def c68k17 : ICode := .kill 180 [19, 22, 23, 24] (.ops c68r17)
def c68r18 : List Seg := [
 zm 24 137]
def c68k18 : ICode := .kill 180 [19, 22, 23, 137] (.ops c68r18)
def c68r19 : List Seg := [
 zm 23 136]
def c68k19 : ICode := .kill 180 [19, 22, 136, 137] (.ops c68r19)
def c68f16a : ICode := (.seq c68k19 c68k18)
def c68f16b : ICode := (.block 15 c68k17)
def c68s20 : ICode := (.block 14 (.rf (.t 135) [136, 137] c68f16a c68f16b))
def c68r21 : List Seg := [
 zo 133 (.loadN 3 (.t 2)),
 zm 134 21,
 zo 135 (.call [] (.c (.func 62 [])) [(.t 133), (.t 134)])]
def c68k21 : ICode := .kill 180 [1, 2, 4, 5, 19, 21, 22, 126, 127, 128] (.ops c68r21)
def c68s22 : ICode := (.seq c68k21 c68s20)
def c68r23 : List Seg := [
 zm 130 128,
 zo 131 (.idxS 2 (.t 126) (.t 128)),
 zo 132 (.loadN 2 (.t 131)),
 zo 22 (.box (.c (.agg [.int .i64 0, .int .i64 0]))),
 zm 21 130,
 .one ⟨none, .storeN 2 (.t 22) (.t 132), none⟩]
def c68k23 : ICode := .kill 180 [1, 2, 4, 5, 19, 126, 127, 128] (.ops c68r23)
def c68s24 : ICode := (.seq (.block 13 (.seq c68k23 c68s22)) c68k15)
def c68s25 : ICode := (.seq (.cond (.t 129) .skip (.exit 12)) c68s24)
def c68r26 : List Seg := [
 zo 129 (.bin .lss (.t 128) (.t 127))]
def c68k26 : ICode := .kill 180 [1, 2, 4, 5, 19, 126, 127, 128] (.ops c68r26)
def c68l14 : ICode := (.seq c68k26 c68s25)
def c68s27 : ICode := (.block 12 (.loop c68l14))
def c68r28 : List Seg := [
 zm 122 11,
 zo 123 (.fieldA 2 (.t 2)),
 zo 124 (.load1 (.t 123)),
 zo 125 (.len 0 (.t 124)),
 zo 126 (.call [] (.c (.func 98 [])) [(.t 122), (.t 125)]),
 zo 127 (.len 0 (.t 126)),
 zo 128 (.mv (.c (.int .i64 0)))]
def c68k28 : ICode := .kill 180 [1, 2, 4, 5, 11, 19] (.ops c68r28)
def c68s29 : ICode := (.seq (.seq c68k28 c68s27) c68s13)
def c68r31 : List Seg := [
 zo 121 (.bin .add (.t 114) (.c (.int .i64 1))),
 zm 114 121]
def c68k31 : ICode := .kill 180 [1, 2, 4, 5, 11, 19, 113, 114] (.ops c68r31)
def c68r32 : List Seg := [
 zo 117 (.load1 (.t 19)),
 zm 118 20,
 zo 119 (.loadN 2 (.c (.ptr 0 0))),
 zo 120 (.idxS 2 (.t 117) (.t 118)),
 .one ⟨none, .storeN 2 (.t 120) (.t 119), none⟩]
def c68k32 : ICode := .kill 180 [1, 2, 4, 5, 11, 19, 20, 113, 114] (.ops c68r32)
def c68r33 : List Seg := [
 zm 116 114,
 zm 20 116]
def c68k33 : ICode := .kill 180 [1, 2, 4, 5, 11, 19, 113, 114] (.ops c68r33)
def c68s34 : ICode := (.seq (.block 11 (.seq c68k33 c68k32)) c68k31)
def c68s35 : ICode := (.seq (.cond (.t 115) .skip (.exit 10)) c68s34)
def c68r36 : List Seg := [
 zo 115 (.bin .lss (.t 114) (.t 113))]
def c68k36 : ICode := .kill 180 [1, 2, 4, 5, 11, 19, 113, 114] (.ops c68r36)
def c68l30 : ICode := (.seq c68k36 c68s35)
def c68s37 : ICode := (.block 10 (.loop c68l30))
def c68r38 : List Seg := [
 zo 112 (.load1 (.t 19)),
 zo 113 (.len 0 (.t 112)),
 zo 114 (.mv (.c (.int .i64 0)))]
def c68k38 : ICode := .kill 180 [1, 2, 4, 5, 11, 19] (.ops c68r38)
def c68s39 : ICode := (.seq (.seq c68k38 c68s37) c68s29)
def c68r40 : List Seg := [
 zo 108 (.fieldA 1 (.t 2)),
 zo 109 (.load1 (.t 108)),
 zo 110 (.len 0 (.t 109)),
 zo 111 (.make [.int .i64 0, .int .i64 0] 16 (.t 110) (.t 110)),
 zo 19 (.box (.c .nilslice)),
 .one ⟨none, .store1 (.t 19) (.t 111), none⟩]
def c68k40 : ICode := .kill 180 [1, 2, 4, 5, 11] (.ops c68r40)
def c68s41 : ICode := (.seq c68k40 c68s39)
def c68r43 : List Seg := [
 zo 107 (.bin .add (.t 63) (.c (.int .i64 1))),
 zm 63 107]
def c68k43 : ICode := .kill 180 [1, 2, 4, 5, 9, 11, 62, 63] (.ops c68r43)
def c68r44 : List Seg := [
 zm 103 11,
 zo 104 (.loadN 22 (.t 13)),
 zo 105 (.mkslice 1 (List.replicate 22 (.int .i64 0)) [(0, 22, (.t 104))]),
 zo 106 (.app 22 176 (.t 103) (.t 105)),
 zm 11 106]
def c68k44 : ICode := .kill 180 [1, 2, 4, 5, 9, 11, 13, 62, 63] (.ops c68r44)
def c68r45 : List Seg := [
 zm 97 9,
 zm 98 12,
 zo 99 (.idxS 1 (.t 97) (.t 98)),
 zo 100 (.load1 (.t 99)),
 zo 101 (.call [] (.c (.func 63 [])) [(.t 100)]),
 zo 102 (.idxA 11 2 (.t 13) (.c (.int .i64 10))),
 .one ⟨none, .storeN 2 (.t 102) (.t 101), none⟩]
def c68k45 : ICode := .kill 180 [1, 2, 4, 5, 9, 11, 12, 13, 62, 63] (.ops c68r45)
def c68s46 : ICode := (.seq c68k45 c68k44)
def c68r49 : List Seg := [
 zo 96 (.bin .add (.t 75) (.c (.int .i64 1))),
 zm 75 96]
def c68k49 : ICode := .kill 180 [2, 13, 14, 15, 74, 75] (.ops c68r49)
def c68r51 : List Seg := [
 .grp [(zp 86 (.load1 (.t 16)), 0), (zp 87 (.load1 (.t 16)), 0), (zp 88 (.idxA 11 2 (.t 13) (.t 87)), 2), (zp 89 (.loadN 2 (.t 88)), 6), (zp 90 (.load1 (.t 15)), 0), (zn 91 18, 0), (zp 92 (.bin .mul (.t 90) (.t 91)), 48), (zp 93 (.call [] (.c (.func 63 [])) [(.t 92)]), 112), (zp 94 (.call [] (.c (.func 97 [])) [(.t 89), (.t 93)]), 254)],
 zo 95 (.idxA 11 2 (.t 13) (.t 86)),
 .one ⟨none, .storeN 2 (.t 95) (.t 94), none⟩]
def c68k51 : ICode := .kill 180 [13, 15, 16, 18] (.ops c68r51)
def c68s52 : ICode := (.cond (.t 85) c68k51 .skip)
def c68r53 : List Seg := [
 zm 83 17,
 zo 84 (.load1 (.t 14)),
 zo 85 (.bin .eql (.t 83) (.t 84))]
def c68k53 : ICode := .kill 180 [13, 14, 15, 16, 17, 18] (.ops c68r53)
def c68r54 : List Seg := [
 zm 18 82]
def c68k54 : ICode := .kill 180 [13, 14, 15, 16, 17, 82] (.ops c68r54)
def c68r55 : List Seg := [
 zm 17 81]
def c68k55 : ICode := .kill 180 [13, 14, 15, 16, 81, 82] (.ops c68r55)
def c68f50a : ICode := (.seq c68k55 c68k54)
def c68f50b : ICode := (.block 9 (.seq c68k53 c68s52))
def c68s56 : ICode := (.block 8 (.rf (.t 80) [81, 82] c68f50a c68f50b))
def c68r57 : List Seg := [
 zo 78 (.loadN 3 (.t 2)),
 zo 79 (.load1 (.t 16)),
 zo 80 (.call [] (.c (.func 62 [])) [(.t 78), (.t 79)])]
def c68k57 : ICode := .kill 180 [2, 13, 14, 15, 16, 74, 75] (.ops c68r57)
def c68s58 : ICode := (.seq c68k57 c68s56)
def c68r59 : List Seg := [
 zm 77 75,
 zo 16 (.box (.c (.int .i64 0))),
 .one ⟨none, .store1 (.t 16) (.t 77), none⟩]
def c68k59 : ICode := .kill 180 [2, 13, 14, 15, 74, 75] (.ops c68r59)
def c68s60 : ICode := (.seq (.block 7 (.seq c68k59 c68s58)) c68k49)
def c68s61 : ICode := (.seq (.cond (.t 76) .skip (.exit 6)) c68s60)
def c68r62 : List Seg := [
 zo 76 (.bin .lss (.t 75) (.t 74))]
def c68k62 : ICode := .kill 180 [2, 13, 14, 15, 74, 75] (.ops c68r62)
def c68l48 : ICode := (.seq c68k62 c68s61)
def c68s63 : ICode := (.block 6 (.loop c68l48))
def c68r64 : List Seg := [
 zo 72 (.fieldA 2 (.t 2)),
 zo 73 (.load1 (.t 72)),
 zo 74 (.len 0 (.t 73)),
 zo 75 (.mv (.c (.int .i64 0)))]
def c68k64 : ICode := .kill 180 [2, 13, 14, 15] (.ops c68r64)
def c68r65 : List Seg := [
 zo 15 (.box (.c (.int .i64 0))),
 .one ⟨none, .store1 (.t 15) (.t 71), none⟩]
def c68k65 : ICode := .kill 180 [2, 13, 14, 71] (.ops c68r65)
def c68r66 : List Seg := [
 zo 14 (.box (.c (.int .i64 0))),
 .one ⟨none, .store1 (.t 14) (.t 70), none⟩]
def c68k66 : ICode := .kill 180 [2, 13, 70, 71] (.ops c68r66)
def c68f47a : ICode := (.seq c68k66 c68k65)
def c68f47b : ICode := (.block 5 (.seq c68k64 c68s63))
def c68s67 : ICode := (.block 4 (.rf (.t 69) [70, 71] c68f47a c68f47b))
def c68r68 : List Seg := [
 zo 67 (.loadN 3 (.t 2)),
 zm 68 12,
 zo 69 (.call [] (.c (.func 62 [])) [(.t 67), (.t 68)])]
def c68k68 : ICode := .kill 180 [1, 2, 4, 5, 9, 11, 12, 13, 62, 63] (.ops c68r68)
def c68s69 : ICode := (.seq (.seq c68k68 c68s67) c68s46)
def c68r70 : List Seg := [
 zo 66 (.call [] (.c (.func 96 [])) []),
 zo 13 (.box (.c (.agg (List.replicate 22 (.int .i64 0))))),
 .one ⟨none, .storeN 22 (.t 13) (.t 66), none⟩]
def c68k70 : ICode := .kill 180 [1, 2, 4, 5, 9, 11, 12, 62, 63] (.ops c68r70)
def c68s71 : ICode := (.seq c68k70 c68s69)
def c68r72 : List Seg := [
 zm 65 63,
 zm 12 65]
def c68k72 : ICode := .kill 180 [1, 2, 4, 5, 9, 11, 62, 63] (.ops c68r72)
def c68s73 : ICode := (.seq (.block 3 (.seq c68k72 c68s71)) c68k43)
def c68s74 : ICode := (.seq (.cond (.t 64) .skip (.exit 2)) c68s73)
def c68r75 : List Seg := [
 zo 64 (.bin .lss (.t 63) (.t 62))]
def c68k75 : ICode := .kill 180 [1, 2, 4, 5, 9, 11, 62, 63] (.ops c68r75)
def c68l42 : ICode := (.seq c68k75 c68s74)
def c68s76 : ICode := (.block 2 (.loop c68l42))
def c68r77 : List Seg := [
 zo 60 (.fieldA 2 (.t 2)),
 zo 61 (.load1 (.t 60)),
 zo 62 (.len 0 (.t 61)),
 zo 63 (.mv (.c (.int .i64 0)))]
def c68k77 : ICode := .kill 180 [1, 2, 4, 5, 9, 11] (.ops c68r77)
def c68s78 : ICode := (.seq (.seq c68k77 c68s76) c68s41)
def c68r79 : List Seg := [
 zo 11 (.mv (.c .nilslice))]
def c68k79 : ICode := .kill 180 [1, 2, 4, 5, 9] (.ops c68r79)
def c68s80 : ICode := (.seq c68k79 c68s78)
def c68r81 : List Seg := [
 zo 55 (.loadN 3 (.t 2)),
 zm 56 1,
 zo 57 (.call [] (.c (.func 40 [])) [(.t 55), (.t 56)]),
 zm 54 57,
 zo 58 (.ext (.t 54) 0),
 zo 59 (.ext (.t 54) 1),
 zm 9 58,
 zm 10 59]
def c68k81 : ICode := .kill 180 [1, 2, 4, 5] (.ops c68r81)
def c68s82 : ICode := (.seq c68k81 c68s80)
def c68r84 : List Seg := [
 zo 53 (.bin .add (.t 33) (.c (.int .i64 1))),
 zm 33 53]
def c68k84 : ICode := .kill 180 [1, 2, 4, 5, 6, 31, 32, 33] (.ops c68r84)
def c68r85 : List Seg := [
 .grp [(zp 37 (.idxA 3 1 (.t 5) (.c (.int .i64 0))), 0), (zp 38 (.load1 (.t 37)), 1), (zn 39 6, 0), (zp 40 (.idxA 2 1 (.t 8) (.c (.int .i64 1))), 0), (zp 41 (.load1 (.t 40)), 8), (zp 42 (.idxS 2 (.t 39) (.t 41)), 28), (zp 43 (.loadN 2 (.t 42)), 60), (zn 44 6, 0), (zp 45 (.idxA 2 1 (.t 8) (.c (.int .i64 0))), 0), (zp 46 (.load1 (.t 45)), 256), (zp 47 (.idxS 2 (.t 44) (.t 46)), 896), (zp 48 (.loadN 2 (.t 47)), 1920), (zp 49 (.call [] (.c (.func 95 [])) [(.t 43), (.t 48)]), 4092), (zp 50 (.mkslice 1 [.int .i64 0, .int .i64 0] [(0, 2, (.t 49))]), 8188)],
 zo 51 (.app 2 16 (.t 38) (.t 50)),
 zo 52 (.idxA 3 1 (.t 5) (.c (.int .i64 0))),
 .one ⟨none, .store1 (.t 52) (.t 51), none⟩]
def c68k85 : ICode := .kill 180 [1, 2, 4, 5, 6, 8, 31, 32, 33] (.ops c68r85)
def c68r86 : List Seg := [
 zo 35 (.idxS 2 (.t 31) (.t 33)),
 zo 36 (.loadN 2 (.t 35)),
 zo 8 (.box (.c (.agg [.int .i64 0, .int .i64 0]))),
 .one ⟨none, .storeN 2 (.t 8) (.t 36), none⟩]
def c68k86 : ICode := .kill 180 [1, 2, 4, 5, 6, 31, 32, 33] (.ops c68r86)
def c68s87 : ICode := (.seq (.block 1 (.seq c68k86 c68k85)) c68k84)
def c68s88 : ICode := (.seq (.cond (.t 34) .skip (.exit 0)) c68s87)
def c68r89 : List Seg := [
 zo 34 (.bin .lss (.t 33) (.t 32))]
def c68k89 : ICode := .kill 180 [1, 2, 4, 5, 6, 31, 32, 33] (.ops c68r89)
def c68l83 : ICode := (.seq c68k89 c68s88)
def c68s90 : ICode := (.block 0 (.loop c68l83))
def c68r91 : List Seg := [
 zo 30 (.fieldA 1 (.t 2)),
 zo 31 (.load1 (.t 30)),
 zo 32 (.len 0 (.t 31)),
 zo 33 (.mv (.c (.int .i64 0)))]
def c68k91 : ICode := .kill 180 [1, 2, 4, 5, 6] (.ops c68r91)
def c68s92 : ICode := (.seq (.seq c68k91 c68s90) c68s82)
def c68r93 : List Seg := [
 zo 27 (.loadN 3 (.t 2)),
 zm 28 1,
 zo 29 (.call [] (.c (.func 70 [])) [(.t 27), (.t 28)]),
 zm 6 29]
def c68k93 : ICode := .kill 180 [1, 2, 4, 5] (.ops c68r93)
def c68s94 : ICode := (.seq c68k93 c68s92)
def c68r95 : List Seg := [
 zo 5 (.box (.c (.agg [.nilslice, .nilslice, .nilslice])))]
def c68k95 : ICode := .kill 180 [1, 2, 4] (.ops c68r95)
def c68s96 : ICode := (.seq c68k95 c68s94)
def c68r97 : List Seg := [
 zo 2 (.box (.t 0)),
 zo 4 (.box (.c (.agg [.nilslice, .nilslice, .nilslice])))]
def c68k97 : ICode := .kill 180 [0, 1] (.ops c68r97)
def c68b : ICode := (.seq c68k97 c68s96)
def c68 : IFn := ⟨180, [.cellN 4 3], c68b⟩
def h68 : List (Nat × Nat × List Nat) := [(0, (180, [0, 1])), (1, (180, [1, 2, 4])), (2, (180, [1, 2, 4, 5])), (3, (180, [1, 2, 4, 5, 6])), (4, (180, [1, 2, 4, 5, 6, 31, 32, 33])), (5, (180, [1, 2, 4, 5, 6, 31, 32, 33])), (6, (180, [1, 2, 4, 5, 6, 8, 31, 32, 33])), (7, (180, [1, 2, 4, 5, 6, 31, 32, 33])), (8, (180, [1, 2, 4, 5])), (9, (180, [1, 2, 4, 5, 9])), (10, (180, [1, 2, 4, 5, 9, 11])), (11, (180, [1, 2, 4, 5, 9, 11, 62, 63])), (12, (180, [1, 2, 4, 5, 9, 11, 62, 63])), (13, (180, [1, 2, 4, 5, 9, 11, 12, 62, 63])), (14, (180, [1, 2, 4, 5, 9, 11, 12, 13, 62, 63])), (15, (180, [2, 13, 70, 71])), (16, (180, [2, 13, 14, 71])), (17, (180, [2, 13, 14, 15])), (18, (180, [2, 13, 14, 15, 74, 75])), (19, (180, [2, 13, 14, 15, 74, 75])), (20, (180, [2, 13, 14, 15, 16, 74, 75])), (21, (180, [13, 14, 15, 16, 81, 82])), (22, (180, [13, 14, 15, 16, 17, 82])), (23, (180, [13, 14, 15, 16, 17, 18])), (24, (180, [13, 15, 16, 18])), (25, (180, [2, 13, 14, 15, 74, 75])), (26, (180, [1, 2, 4, 5, 9, 11, 12, 13, 62, 63])), (27, (180, [1, 2, 4, 5, 9, 11, 13, 62, 63])), (28, (180, [1, 2, 4, 5, 9, 11, 62, 63])), (29, (180, [1, 2, 4, 5, 11])), (30, (180, [1, 2, 4, 5, 11, 19])), (31, (180, [1, 2, 4, 5, 11, 19, 113, 114])), (32, (180, [1, 2, 4, 5, 11, 19, 113, 114])), (33, (180, [1, 2, 4, 5, 11, 19, 20, 113, 114])), (34, (180, [1, 2, 4, 5, 11, 19, 113, 114])), (35, (180, [1, 2, 4, 5, 11, 19])), (36, (180, [1, 2, 4, 5, 19, 126, 127, 128])), (37, (180, [1, 2, 4, 5, 19, 126, 127, 128])), (38, (180, [1, 2, 4, 5, 19, 21, 22, 126, 127, 128])), (39, (180, [19, 22, 136, 137])), (40, (180, [19, 22, 23, 137])), (41, (180, [19, 22, 23, 24])), (42, (180, [1, 2, 4, 5, 19, 126, 127, 128])), (43, (180, [1, 4, 5, 19])), (44, (180, [1, 4, 5, 19])), (45, (180, [4, 5, 19, 153, 154, 155])), (46, (180, [4, 5, 19, 153, 154, 155])), (47, (180, [4, 5, 19, 25, 26, 153, 154, 155])), (48, (180, [4, 5, 19, 153, 154, 155])), (49, (180, [4, 5]))]
def c69r0 : List Seg := [
 zm 21 3,
 zm 2 21]
def c69k0 : ICode := .kill 22 [3] (.ops c69r0)
def c69s1 : ICode := (.seq c69k0 .ret)
def c69r3 : List Seg := [
 zo 20 (.bin .add (.t 8) (.c (.int .i64 1))),
 zm 8 20]
def c69k3 : ICode := .kill 22 [3, 6, 7, 8] (.ops c69r3)
def c69r4 : List Seg := [
 zm 12 3,
 zo 13 (.fieldA 0 (.t 5)),
 zo 14 (.load1 (.t 13)),
 zo 15 (.fieldA 1 (.t 5)),
 zo 16 (.load1 (.t 15)),
 zo 17 (.mkagg [.int .i64 0, .int .i64 0] [(0, 1, (.t 14)), (1, 1, (.t 16))]),
 zo 18 (.mkslice 1 [.int .i64 0, .int .i64 0] [(0, 2, (.t 17))]),
 zo 19 (.app 2 16 (.t 12) (.t 18)),
 zm 3 19]
def c69k4 : ICode := .kill 22 [3, 5, 6, 7, 8] (.ops c69r4)
def c69r5 : List Seg := [
 zo 10 (.idxS 2 (.t 6) (.t 8)),
 zo 11 (.loadN 2 (.t 10)),
 zo 5 (.box (.c (.agg [.int .i64 0, .int .i64 0]))),
 .one ⟨none, .storeN 2 (.t 5) (.t 11), none⟩]
def c69k5 : ICode := .kill 22 [3, 6, 7, 8] (.ops c69r5)
def c69s6 : ICode := (.seq (.block 1 (.seq c69k5 c69k4)) c69k3)
def c69s7 : ICode := (.seq (.cond (.t 9) .skip (.exit 0)) c69s6)
def c69r8 : List Seg := [
 zo 9 (.bin .lss (.t 8) (.t 7))]
def c69k8 : ICode := .kill 22 [3, 6, 7, 8] (.ops c69r8)
def c69l2 : ICode := (.seq c69k8 c69s7)
def c69s9 : ICode := (.block 0 (.loop c69l2))
def c69r10 : List Seg := [
 zm 6 0,
 zo 7 (.len 0 (.t 6)),
 zo 8 (.mv (.c (.int .i64 0)))]
def c69k10 : ICode := .kill 22 [0, 3] (.ops c69r10)
def c69s11 : ICode := (.seq (.seq c69k10 c69s9) c69s1)
def c69r12 : List Seg := [
 zo 3 (.mv (.c .nilslice))]
def c69k12 : ICode := .kill 22 [0] (.ops c69r12)
def c69s13 : ICode := (.seq c69k12 c69s11)
def c69r14 : List Seg := [
 zo 2 (.mv (.c .nilslice))]
def c69k14 : ICode := .kill 22 [0] (.ops c69r14)
def c69b : ICode := (.seq c69k14 c69s13)
def c69 : IFn := ⟨22, [.t 2], c69b⟩
def h69 : List (Nat × Nat × List Nat) := [(0, (22, [0])), (1, (22, [0])), (2, (22, [0, 3])), (3, (22, [3, 6, 7, 8])), (4, (22, [3, 6, 7, 8])), (5, (22, [3, 5, 6, 7, 8])), (6, (22, [3, 6, 7, 8])), (7, (22, [3]))]
def c70r0 : List Seg := [
 zm 115 5,
 zo 116 (.fieldA 0 (.t 2)),
 zo 117 (.load1 (.t 116)),
 zo 118 (.call [] (.c (.func 98 [])) [(.t 115), (.t 117)]),
 zm 4 118]
def c70k0 : ICode := .kill 119 [2, 5] (.ops c70r0)
def c70s1 : ICode := (.seq c70k0 .ret)
def c70r3 : List Seg := [
 zo 114 (.bin .add (.t 87) (.c (.int .i64 1))),
 zm 87 114]
def c70k3 : ICode := .kill 119 [2, 5, 14, 86, 87] (.ops c70r3)
def c70r4 : List Seg := [
 zm 110 5,
 zo 111 (.loadN 22 (.t 16)),
 zo 112 (.mkslice 1 (List.replicate 22 (.int .i64 0)) [(0, 22, (.t 111))]),
 zo 113 (.app 22 176 (.t 110) (.t 112)),
 zm 5 113]
def c70k4 : ICode := .kill 119 [2, 5, 14, 16, 86, 87] (.ops c70r4)
def c70r6 : List Seg := [
 zo 109 (.bin .add (.t 98) (.c (.int .i64 1))),
 zm 98 109]
def c70k6 : ICode := .kill 119 [2, 5, 14, 15, 16, 86, 87, 97, 98] (.ops c70r6)
def c70r7 : List Seg := [
 zm 106 17,
 zo 107 (.call [] (.c (.func 63 [])) [(.c (.int .i64 1))]),
 zo 108 (.idxA 11 2 (.t 16) (.t 106)),
 .one ⟨none, .storeN 2 (.t 108) (.t 107), none⟩]
def c70k7 : ICode := .kill 119 [2, 5, 14, 15, 16, 17, 86, 87, 97, 98] (.ops c70r7)
def c70s8 : ICode := (.cond (.t 105) c70k7 .skip)
def c70r9 : List Seg := [
 zm 101 14,
 zm 102 17,
 zo 103 (.call [] (.t 101) [(.t 102)]),
 zm 104 15,
 zo 105 (.bin .eql (.t 103) (.t 104))]
def c70k9 : ICode := .kill 119 [2, 5, 14, 15, 16, 17, 86, 87, 97, 98] (.ops c70r9)
def c70s10 : ICode := (.seq c70k9 c70s8)
def c70r11 : List Seg := [
 zm 100 98,
 zm 17 100]
def c70k11 : ICode := .kill 119 [2, 5, 14, 15, 16, 86, 87, 97, 98] (.ops c70r11)
def c70s12 : ICode := (.seq (.block 9 (.seq c70k11 c70s10)) c70k6)
def c70s13 : ICode := (.seq (.cond (.t 99) .skip (.exit 8)) c70s12)
def c70r14 : List Seg := [
 zo 99 (.bin .lss (.t 98) (.t 97))]
def c70k14 : ICode := .kill 119 [2, 5, 14, 15, 16, 86, 87, 97, 98] (.ops c70r14)
def c70l5 : ICode := (.seq c70k14 c70s13)
def c70s15 : ICode := (.block 8 (.loop c70l5))
def c70r16 : List Seg := [
 zo 96 (.fieldA 0 (.t 2)),
 zo 97 (.load1 (.t 96)),
 zo 98 (.mv (.c (.int .i64 0)))]
def c70k16 : ICode := .kill 119 [2, 5, 14, 15, 16, 86, 87] (.ops c70r16)
def c70s17 : ICode := (.seq (.seq c70k16 c70s15) c70k4)
def c70r18 : List Seg := [
 zo 95 (.call [] (.c (.func 96 [])) []),
 zo 16 (.box (.c (.agg (List.replicate 22 (.int .i64 0))))),
 .one ⟨none, .storeN 22 (.t 16) (.t 95), none⟩]
def c70k18 : ICode := .kill 119 [2, 5, 14, 15, 86, 87] (.ops c70r18)
def c70s19 : ICode := (.seq c70k18 c70s17)
def c70s20 : ICode := (.cond (.t 94) (.exit 7) .skip)
def c70r21 : List Seg := [
 zm 90 14,
 zm 91 15,
 zo 92 (.call [] (.t 90) [(.t 91)]),
 zm 93 15,
 zo 94 (.bin .neq (.t 92) (.t 93))]
def c70k21 : ICode := .kill 119 [2, 5, 14, 15, 86, 87] (.ops c70r21)
def c70s22 : ICode := (.seq (.seq c70k21 c70s20) c70s19)
def c70r23 : List Seg := [
 zm 89 87,
 zm 15 89]
def c70k23 : ICode := .kill 119 [2, 5, 14, 86, 87] (.ops c70r23)
def c70s24 : ICode := (.seq (.block 7 (.seq c70k23 c70s22)) c70k3)
def c70s25 : ICode := (.seq (.cond (.t 88) .skip (.exit 6)) c70s24)
def c70r26 : List Seg := [
 zo 88 (.bin .lss (.t 87) (.t 86))]
def c70k26 : ICode := .kill 119 [2, 5, 14, 86, 87] (.ops c70r26)
def c70l2 : ICode := (.seq c70k26 c70s25)
def c70s27 : ICode := (.block 6 (.loop c70l2))
def c70r28 : List Seg := [
 zo 85 (.fieldA 0 (.t 2)),
 zo 86 (.load1 (.t 85)),
 zo 87 (.mv (.c (.int .i64 0)))]
def c70k28 : ICode := .kill 119 [2, 5, 14] (.ops c70r28)
def c70s29 : ICode := (.seq (.seq c70k28 c70s27) c70s1)
def c70r30 : List Seg := [
 zo 84 (.mkfn 100 [(.t 13)]),
 zm 14 84]
def c70k30 : ICode := .kill 119 [2, 5, 13] (.ops c70r30)
def c70s31 : ICode := (.seq c70k30 c70s29)
def c70r32 : List Seg := [
 .grp [(zp 78 (.loadN 3 (.t 2)), 0), (zp 79 (.fieldA 1 (.t 2)), 0), (zp 80 (.load1 (.t 79)), 2), (zp 81 (.len 0 (.t 80)), 6), (zp 82 (.make [.int .i64 0] 8 (.t 81) (.t 81)), 14), (zp 83 (.call [] (.c (.func 78 [])) [(.t 78), (.t 82)]), 31), (zp 13 (.box (.c .nilptr)), 0)],
 .one ⟨none, .store1 (.t 13) (.t 83), none⟩]
def c70k32 : ICode := .kill 119 [2, 5] (.ops c70r32)
def c70s33 : ICode := (.seq c70k32 c70s31)
def c70r35 : List Seg := [
 zo 77 (.bin .add (.t 26) (.c (.int .i64 1))),
 zm 26 77]
def c70k35 : ICode := .kill 119 [2, 5, 6, 25, 26] (.ops c70r35)
def c70r36 : List Seg := [
 zm 73 5,
 zo 74 (.loadN 22 (.t 9)),
 zo 75 (.mkslice 1 (List.replicate 22 (.int .i64 0)) [(0, 22, (.t 74))]),
 zo 76 (.app 22 176 (.t 73) (.t 75)),
 zm 5 76]
def c70k36 : ICode := .kill 119 [2, 5, 6, 9, 25, 26] (.ops c70r36)
def c70r37 : List Seg := [
 zm 67 6,
 zm 68 8,
 zo 69 (.idxS 1 (.t 67) (.t 68)),
 zo 70 (.load1 (.t 69)),
 zo 71 (.call [] (.c (.func 63 [])) [(.t 70)]),
 zo 72 (.idxA 11 2 (.t 9) (.c (.int .i64 10))),
 .one ⟨none, .storeN 2 (.t 72) (.t 71), none⟩]
def c70k37 : ICode := .kill 119 [2, 5, 6, 8, 9, 25, 26] (.ops c70r37)
def c70s38 : ICode := (.seq c70k37 c70k36)
def c70r40 : List Seg := [
 zo 66 (.bin .add (.t 33) (.c (.int .i64 1))),
 zm 33 66]
def c70k40 : ICode := .kill 119 [2, 5, 6, 8, 9, 25, 26, 31, 32, 33] (.ops c70r40)
def c70r42 : List Seg := [
 zo 65 (.bin .add (.t 37) (.c (.int .i64 1))),
 zm 37 65]
def c70k42 : ICode := .kill 119 [2, 5, 6, 8, 9, 11, 25, 26, 31, 32, 33, 37] (.ops c70r42)
def c70r43 : List Seg := [
 .grp [(zn 52 12, 0), (zp 53 (.bin .sub (.c (.int .i64 1)) (.t 52)), 1), (zp 54 (.idxA 2 1 (.t 11) (.t 53)), 3), (zp 55 (.load1 (.t 54)), 7), (zn 56 12, 0), (zp 57 (.bin .sub (.c (.int .i64 1)) (.t 56)), 16), (zp 58 (.idxA 2 1 (.t 11) (.t 57)), 48), (zp 59 (.load1 (.t 58)), 112), (zp 60 (.idxA 11 2 (.t 9) (.t 59)), 240), (zp 61 (.loadN 2 (.t 60)), 496), (zp 62 (.call [] (.c (.func 63 [])) [(.c (.int .i64 1))]), 0), (zp 63 (.call [] (.c (.func 95 [])) [(.t 61), (.t 62)]), 2032)],
 zo 64 (.idxA 11 2 (.t 9) (.t 55)),
 .one ⟨none, .storeN 2 (.t 64) (.t 63), none⟩]
def c70k43 : ICode := .kill 119 [2, 5, 6, 8, 9, 11, 12, 25, 26, 31, 32, 33, 37] (.ops c70r43)
def c70r44 : List Seg := [
 .grp [(zn 45 8, 0), (zn 46 8, 0), (zp 47 (.idxA 11 2 (.t 9) (.t 46)), 2), (zp 48 (.loadN 2 (.t 47)), 6), (zp 49 (.call [] (.c (.func 63 [])) [(.c (.int .i64 1))]), 0), (zp 50 (.call [] (.c (.func 97 [])) [(.t 48), (.t 49)]), 30)],
 zo 51 (.idxA 11 2 (.t 9) (.t 45)),
 .one ⟨none, .storeN 2 (.t 51) (.t 50), none⟩]
def c70k44 : ICode := .kill 119 [2, 5, 6, 8, 9, 11, 12, 25, 26, 31, 32, 33, 37] (.ops c70r44)
def c70s45 : ICode := (.cond (.t 44) (.seq c70k44 c70k43) .skip)
def c70r46 : List Seg := [
 zm 40 12,
 zo 41 (.idxA 2 1 (.t 11) (.t 40)),
 zo 42 (.load1 (.t 41)),
 zm 43 8,
 zo 44 (.bin .eql (.t 42) (.t 43))]
def c70k46 : ICode := .kill 119 [2, 5, 6, 8, 9, 11, 12, 25, 26, 31, 32, 33, 37] (.ops c70r46)
def c70s47 : ICode := (.seq c70k46 c70s45)
def c70r48 : List Seg := [
 zm 39 37,
 zm 12 39]
def c70k48 : ICode := .kill 119 [2, 5, 6, 8, 9, 11, 25, 26, 31, 32, 33, 37] (.ops c70r48)
def c70s49 : ICode := (.seq (.block 5 (.seq c70k48 c70s47)) c70k42)
def c70s50 : ICode := (.seq (.cond (.t 38) .skip (.exit 4)) c70s49)
def c70r51 : List Seg := [
 zo 38 (.bin .lss (.t 37) (.c (.int .i64 2)))]
def c70k51 : ICode := .kill 119 [2, 5, 6, 8, 9, 11, 25, 26, 31, 32, 33, 37] (.ops c70r51)
def c70l41 : ICode := (.seq c70k51 c70s50)
def c70s52 : ICode := (.block 4 (.loop c70l41))
def c70r53 : List Seg := [
 zo 37 (.mv (.c (.int .i64 0)))]
def c70k53 : ICode := .kill 119 [2, 5, 6, 8, 9, 11, 25, 26, 31, 32, 33] (.ops c70r53)
def c70s54 : ICode := (.seq c70k53 c70s52)
def c70r55 : List Seg := [
 zo 35 (.idxS 2 (.t 31) (.t 33)),
 zo 36 (.loadN 2 (.t 35)),
 zo 11 (.box (.c (.agg [.int .i64 0, .int .i64 0]))),
 .one ⟨none, .storeN 2 (.t 11) (.t 36), none⟩]
def c70k55 : ICode := .kill 119 [2, 5, 6, 8, 9, 25, 26, 31, 32, 33] (.ops c70r55)
def c70s56 : ICode := (.seq (.block 3 (.seq c70k55 c70s54)) c70k40)
def c70s57 : ICode := (.seq (.cond (.t 34) .skip (.exit 2)) c70s56)
def c70r58 : List Seg := [
 zo 34 (.bin .lss (.t 33) (.t 32))]
def c70k58 : ICode := .kill 119 [2, 5, 6, 8, 9, 25, 26, 31, 32, 33] (.ops c70r58)
def c70l39 : ICode := (.seq c70k58 c70s57)
def c70s59 : ICode := (.block 2 (.loop c70l39))
def c70r60 : List Seg := [
 zo 30 (.fieldA 1 (.t 2)),
 zo 31 (.load1 (.t 30)),
 zo 32 (.len 0 (.t 31)),
 zo 33 (.mv (.c (.int .i64 0)))]
def c70k60 : ICode := .kill 119 [2, 5, 6, 8, 9, 25, 26] (.ops c70r60)
def c70s61 : ICode := (.seq (.seq c70k60 c70s59) c70s38)
def c70r62 : List Seg := [
 zo 29 (.call [] (.c (.func 96 [])) []),
 zo 9 (.box (.c (.agg (List.replicate 22 (.int .i64 0))))),
 .one ⟨none, .storeN 22 (.t 9) (.t 29), none⟩]
def c70k62 : ICode := .kill 119 [2, 5, 6, 8, 25, 26] (.ops c70r62)
def c70s63 : ICode := (.seq c70k62 c70s61)
def c70r64 : List Seg := [
 zm 28 26,
 zm 8 28]
def c70k64 : ICode := .kill 119 [2, 5, 6, 25, 26] (.ops c70r64)
def c70s65 : ICode := (.seq (.block 1 (.seq c70k64 c70s63)) c70k35)
def c70s66 : ICode := (.seq (.cond (.t 27) .skip (.exit 0)) c70s65)
def c70r67 : List Seg := [
 zo 27 (.bin .lss (.t 26) (.t 25))]
def c70k67 : ICode := .kill 119 [2, 5, 6, 25, 26] (.ops c70r67)
def c70l34 : ICode := (.seq c70k67 c70s66)
def c70s68 : ICode := (.block 0 (.loop c70l34))
def c70r69 : List Seg := [
 zo 24 (.fieldA 0 (.t 2)),
 zo 25 (.load1 (.t 24)),
 zo 26 (.mv (.c (.int .i64 0)))]
def c70k69 : ICode := .kill 119 [2, 5, 6] (.ops c70r69)
def c70s70 : ICode := (.seq (.seq c70k69 c70s68) c70s33)
def c70r71 : List Seg := [
 zo 19 (.loadN 3 (.t 2)),
 zm 20 1,
 zo 21 (.call [] (.c (.func 22 [])) [(.t 19), (.t 20)]),
 zm 18 21,
 zo 22 (.ext (.t 18) 0),
 zo 23 (.ext (.t 18) 1),
 zm 6 22,
 zm 7 23]
def c70k71 : ICode := .kill 119 [1, 2, 5] (.ops c70r71)
def c70s72 : ICode := (.seq c70k71 c70s70)
def c70r73 : List Seg := [
 zo 5 (.mv (.c .nilslice))]
def c70k73 : ICode := .kill 119 [1, 2] (.ops c70r73)
def c70s74 : ICode := (.seq c70k73 c70s72)
def c70r75 : List Seg := [
 zo 2 (.box (.t 0)),
 zo 4 (.mv (.c .nilslice))]
def c70k75 : ICode := .kill 119 [0, 1] (.ops c70r75)
def c70b : ICode := (.seq c70k75 c70s74)
def c70 : IFn := ⟨119, [.t 4], c70b⟩
def h70 : List (Nat × Nat × List Nat) := [(0, (119, [0, 1])), (1, (119, [1, 2])), (2, (119, [1, 2, 5])), (3, (119, [2, 5, 6])), (4, (119, [2, 5, 6, 25, 26])), (5, (119, [2, 5, 6, 25, 26])), (6, (119, [2, 5, 6, 8, 25, 26])), (7, (119, [2, 5, 6, 8, 9, 25, 26])), (8, (119, [2, 5, 6, 8, 9, 25, 26, 31, 32, 33])), (9, (119, [2, 5, 6, 8, 9, 25, 26, 31, 32, 33])), (10, (119, [2, 5, 6, 8, 9, 11, 25, 26, 31, 32, 33])), (11, (119, [2, 5, 6, 8, 9, 11, 25, 26, 31, 32, 33, 37])), (12, (119, [2, 5, 6, 8, 9, 11, 25, 26, 31, 32, 33, 37])), (13, (119, [2, 5, 6, 8, 9, 11, 12, 25, 26, 31, 32, 33, 37])), (14, (119, [2, 5, 6, 8, 9, 11, 12, 25, 26, 31, 32, 33, 37])), (15, (119, [2, 5, 6, 8, 9, 11, 12, 25, 26, 31, 32, 33, 37])), (16, (119, [2, 5, 6, 8, 9, 11, 25, 26, 31, 32, 33, 37])), (17, (119, [2, 5, 6, 8, 9, 25, 26, 31, 32, 33])), (18, (119, [2, 5, 6, 8, 9, 25, 26])), (19, (119, [2, 5, 6, 9, 25, 26])), (20, (119, [2, 5, 6, 25, 26])), (21, (119, [2, 5])), (22, (119, [2, 5, 13])), (23, (119, [2, 5, 14])), (24, (119, [2, 5, 14, 86, 87])), (25, (119, [2, 5, 14, 86, 87])), (26, (119, [2, 5, 14, 15, 86, 87])), (27, (119, [2, 5, 14, 15, 86, 87])), (28, (119, [2, 5, 14, 15, 16, 86, 87])), (29, (119, [2, 5, 14, 15, 16, 86, 87, 97, 98])), (30, (119, [2, 5, 14, 15, 16, 86, 87, 97, 98])), (31, (119, [2, 5, 14, 15, 16, 17, 86, 87, 97, 98])), (32, (119, [2, 5, 14, 15, 16, 17, 86, 87, 97, 98])), (33, (119, [2, 5, 14, 15, 16, 86, 87, 97, 98])), (34, (119, [2, 5, 14, 16, 86, 87])), (35, (119, [2, 5, 14, 86, 87])), (36, (119, [2, 5]))]
def c74r0 : List Seg := [
 zo 3 (.fieldA 0 (.t 1)),
 zo 4 (.load1 (.t 3)),
 zm 2 4]
def c74k0 : ICode := .kill 5 [1] (.ops c74r0)
def c74s1 : ICode := (.seq c74k0 .ret)
def c74r2 : List Seg := [
 zo 1 (.box (.t 0)),
 zo 2 (.mv (.c (.int .i64 0)))]
def c74k2 : ICode := .kill 5 [0] (.ops c74r2)
def c74b : ICode := (.seq c74k2 c74s1)
def c74 : IFn := ⟨5, [.t 2], c74b⟩
def h74 : List (Nat × Nat × List Nat) := [(0, (5, [0])), (1, (5, [1]))]
def c75r0 : List Seg := [
 zo 4 (.mv (.c (.int .i64 (-1))))]
def c75k0 : ICode := .kill 19 [] (.ops c75r0)
def c75s1 : ICode := (.seq c75k0 .ret)
def c75r3 : List Seg := [
 zo 18 (.bin .add (.t 8) (.c (.int .i64 1))),
 zm 8 18]
def c75k3 : ICode := .kill 19 [0, 3, 7, 8] (.ops c75r3)
def c75r4 : List Seg := [
 zm 17 5,
 zm 4 17]
def c75k4 : ICode := .kill 19 [5] (.ops c75r4)
def c75s5 : ICode := (.cond (.t 16) (.seq c75k4 .ret) .skip)
def c75r6 : List Seg := [
 .grp [(zp 11 (.loadN 2 (.t 3)), 0), (zn 12 0, 0), (zn 13 5, 0), (zp 14 (.idxS 2 (.t 12) (.t 13)), 6), (zp 15 (.loadN 2 (.t 14)), 14)],
 zo 16 (.eqv false (.ints 2) (.t 11) (.t 15))]
def c75k6 : ICode := .kill 19 [0, 3, 5, 7, 8] (.ops c75r6)
def c75s7 : ICode := (.seq c75k6 c75s5)
def c75r8 : List Seg := [
 zm 10 8,
 zm 5 10]
def c75k8 : ICode := .kill 19 [0, 3, 7, 8] (.ops c75r8)
def c75s9 : ICode := (.seq (.block 1 (.seq c75k8 c75s7)) c75k3)
def c75s10 : ICode := (.seq (.cond (.t 9) .skip (.exit 0)) c75s9)
def c75r11 : List Seg := [
 zo 9 (.bin .lss (.t 8) (.t 7))]
def c75k11 : ICode := .kill 19 [0, 3, 7, 8] (.ops c75r11)
def c75l2 : ICode := (.seq c75k11 c75s10)
def c75s12 : ICode := (.block 0 (.loop c75l2))
def c75r13 : List Seg := [
 zm 6 0,
 zo 7 (.len 0 (.t 6)),
 zo 8 (.mv (.c (.int .i64 0)))]
def c75k13 : ICode := .kill 19 [0, 3] (.ops c75r13)
def c75s14 : ICode := (.seq (.seq c75k13 c75s12) c75s1)
def c75r15 : List Seg := [
 zo 3 (.box (.t 1)),
 zo 4 (.mv (.c (.int .i64 0)))]
def c75k15 : ICode := .kill 19 [0, 1] (.ops c75r15)
def c75b : ICode := (.seq c75k15 c75s14)
def c75 : IFn := ⟨19, [.t 4], c75b⟩
def h75 : List (Nat × Nat × List Nat) := [(0, (19, [0, 1])), (1, (19, [0, 3])), (2, (19, [0, 3, 7, 8])), (3, (19, [0, 3, 7, 8])), (4, (19, [0, 3, 5, 7, 8])), (5, (19, [5])), (6, (19, [0, 3, 7, 8])), (7, (19, []))]
def c76r0 : List Seg := [
 zm 5 0,
 zm 6 1,
 zo 7 (.call [] (.c (.func 101 [])) [(.t 5), (.t 6)]),
 zo 8 (.bin .geq (.t 7) (.c (.int .i64 0))),
 zm 4 8]
def c76k0 : ICode := .kill 9 [0, 1] (.ops c76r0)
def c76s1 : ICode := (.seq c76k0 .ret)
def c76r2 : List Seg := [
 zo 4 (.mv (.c (.bool false)))]
def c76k2 : ICode := .kill 9 [0, 1] (.ops c76r2)
def c76b : ICode := (.seq c76k2 c76s1)
def c76 : IFn := ⟨9, [.t 4], c76b⟩
def h76 : List (Nat × Nat × List Nat) := [(0, (9, [0, 1])), (1, (9, [0, 1]))]
def c77r0 : List Seg := [
 zo 3 (.fieldA 2 (.t 1)),
 zo 4 (.load1 (.t 3)),
 zo 5 (.len 0 (.t 4)),
 zm 2 5]
def c77k0 : ICode := .kill 6 [1] (.ops c77r0)
def c77s1 : ICode := (.seq c77k0 .ret)
def c77r2 : List Seg := [
 zo 1 (.box (.t 0)),
 zo 2 (.mv (.c (.int .i64 0)))]
def c77k2 : ICode := .kill 6 [0] (.ops c77r2)
def c77b : ICode := (.seq c77k2 c77s1)
def c77 : IFn := ⟨6, [.t 2], c77b⟩
def h77 : List (Nat × Nat × List Nat) := [(0, (6, [0])), (1, (6, [1]))]
def c78r0 : List Seg := [
 zm 115 5,
 zm 4 115]
def c78k0 : ICode := .kill 116 [5] (.ops c78r0)
def c78s1 : ICode := (.seq c78k0 .ret)
def c78r3 : List Seg := [
 zo 114 (.bin .add (.t 21) (.c (.int .i64 1))),
 zm 21 114]
def c78k3 : ICode := .kill 116 [1, 2, 5, 6, 20, 21] (.ops c78r3)
def c78r6 : List Seg := [
 zo 113 (.bin .add (.t 55) (.c (.int .i64 1))),
 zm 55 113]
def c78k6 : ICode := .kill 116 [1, 2, 5, 6, 8, 9, 20, 21, 53, 54, 55] (.ops c78r6)
def c78r8 : List Seg := [
 zo 112 (.bin .add (.t 60) (.c (.int .i64 1))),
 zm 60 112]
def c78k8 : ICode := .kill 116 [1, 2, 5, 6, 8, 9, 10, 11, 20, 21, 53, 54, 55, 60] (.ops c78r8)
def c78r9 : List Seg := [
 zm 108 8,
 zm 109 14,
 zo 110 (.mkslice 1 [.int .i64 0] [(0, 1, (.t 109))]),
 zo 111 (.app 1 8 (.t 108) (.t 110)),
 zm 8 111]
def c78k9 : ICode := .kill 116 [1, 2, 5, 6, 8, 9, 10, 11, 14, 20, 21, 53, 54, 55, 60] (.ops c78r9)
def c78r10 : List Seg := [
 .grpw (.t 104) (.t 93) none 59379 [(zn 89 5, 0), (zn 90 14, 0), (zn 91 5, 0), (zn 92 14, 0), (zn 93 9, 0), (zn 94 5, 0), (zn 95 9, 0), (zp 96 (.nilck (.t 94)), 32), (zp 97 (.fieldA 6 (.t 96)), 160), (zp 98 (.idxA 6 1 (.t 97) (.t 95)), 480), (zp 99 (.load1 (.t 98)), 992), (zn 100 15, 0), (zp 101 (.bin .add (.t 99) (.t 100)), 4064), (zp 102 (.nilck (.t 89)), 1), (zp 103 (.fieldA 0 (.t 102)), 8193), (zp 104 (.idxA 6 1 (.t 103) (.t 90)), 26611), (⟨none, .lenc 0, none⟩, 59379), (zp 105 (.nilck (.t 91)), 4), (zp 106 (.fieldA 6 (.t 105)), 131076)],
 zo 107 (.idxA 6 1 (.t 106) (.t 92)),
 .one ⟨none, .store1 (.t 107) (.t 101), none⟩]
def c78k10 : ICode := .kill 116 [1, 2, 5, 6, 8, 9, 10, 11, 14, 15, 20, 21, 53, 54, 55, 60] (.ops c78r10)
def c78s11 : ICode := (.seq c78k10 c78k9)
def c78r12 : List Seg := [
 zm 87 6,
 zm 88 14,
 .one ⟨none, .mset (.t 87) (.t 88) (.c (.bool true)), none⟩]
def c78k12 : ICode := .kill 116 [1, 2, 5, 6, 8, 9, 10, 11, 14, 15, 20, 21, 53, 54, 55, 60] (.ops c78r12)
def c78s13 : ICode := (.cond (.t 86) (.seq c78k12 c78s11) .skip)
def c78r14 : List Seg := [
 zm 78 13,
 zm 79 9,
 zo 80 (.bin .eql (.t 78) (.t 79)),
 zm 81 80,
 .one ⟨some 82, .mv (.t 6), some (81, true)⟩,
 .one ⟨some 83, .mv (.t 14), some (81, true)⟩,
 .one ⟨some 84, .look (.bool false) false (.t 82) (.t 83), some (81, true)⟩,
 .one ⟨some 85, .un .not (.t 84), some (81, true)⟩,
 zo 86 (.pick (.t 81) (.t 85) (.c (.bool false)))]
def c78k14 : ICode := .kill 116 [1, 2, 5, 6, 8, 9, 10, 11, 13, 14, 15, 20, 21, 53, 54, 55, 60] (.ops c78r14)
def c78s15 : ICode := (.seq c78k14 c78s13)
def c78r16 : List Seg := [
 zm 76 15,
 zo 77 (.un .neg (.t 76)),
 zm 15 77]
def c78k16 : ICode := .kill 116 [1, 2, 5, 6, 8, 9, 10, 11, 13, 14, 15, 20, 21, 53, 54, 55, 60] (.ops c78r16)
def c78s17 : ICode := (.cond (.t 75) c78k16 .skip)
def c78r18 : List Seg := [
 zm 74 12,
 zo 75 (.bin .eql (.t 74) (.c (.int .i64 1)))]
def c78k18 : ICode := .kill 116 [1, 2, 5, 6, 8, 9, 10, 11, 12, 13, 14, 15, 20, 21, 53, 54, 55, 60] (.ops c78r18)
def c78s19 : ICode := (.seq (.seq c78k18 c78s17) c78s15)
def c78r20 : List Seg := [
 .grp [(zn 63 12, 0), (zp 64 (.idxA 2 1 (.t 11) (.t 63)), 1), (zp 65 (.load1 (.t 64)), 3), (zn 66 12, 0), (zp 67 (.bin .sub (.c (.int .i64 1)) (.t 66)), 8), (zp 68 (.idxA 2 1 (.t 11) (.t 67)), 24), (zp 69 (.load1 (.t 68)), 56), (zn 70 1, 0), (zn 71 10, 0), (zp 72 (.idxS 1 (.t 70) (.t 71)), 384), (zp 73 (.load1 (.t 72)), 896), (zn 13 65, 7), (zn 14 69, 2175)],
 zm 15 73]
def c78k20 : ICode := .kill 116 [1, 2, 5, 6, 8, 9, 10, 11, 12, 20, 21, 53, 54, 55, 60] (.ops c78r20)
def c78s21 : ICode := (.seq c78k20 c78s19)
def c78r22 : List Seg := [
 zm 62 60,
 zm 12 62]
def c78k22 : ICode := .kill 116 [1, 2, 5, 6, 8, 9, 10, 11, 20, 21, 53, 54, 55, 60] (.ops c78r22)
def c78s23 : ICode := (.seq (.block 7 (.seq c78k22 c78s21)) c78k8)
def c78s24 : ICode := (.seq (.cond (.t 61) .skip (.exit 6)) c78s23)
def c78r25 : List Seg := [
 zo 61 (.bin .lss (.t 60) (.c (.int .i64 2)))]
def c78k25 : ICode := .kill 116 [1, 2, 5, 6, 8, 9, 10, 11, 20, 21, 53, 54, 55, 60] (.ops c78r25)
def c78l7 : ICode := (.seq c78k25 c78s24)
def c78s26 : ICode := (.block 6 (.loop c78l7))
def c78r27 : List Seg := [
 zo 60 (.mv (.c (.int .i64 0)))]
def c78k27 : ICode := .kill 116 [1, 2, 5, 6, 8, 9, 10, 11, 20, 21, 53, 54, 55] (.ops c78r27)
def c78s28 : ICode := (.seq c78k27 c78s26)
def c78r29 : List Seg := [
 zm 57 55,
 zo 58 (.idxS 2 (.t 53) (.t 55)),
 zo 59 (.loadN 2 (.t 58)),
 zo 11 (.box (.c (.agg [.int .i64 0, .int .i64 0]))),
 zm 10 57,
 .one ⟨none, .storeN 2 (.t 11) (.t 59), none⟩]
def c78k29 : ICode := .kill 116 [1, 2, 5, 6, 8, 9, 20, 21, 53, 54, 55] (.ops c78r29)
def c78s30 : ICode := (.seq (.block 5 (.seq c78k29 c78s28)) c78k6)
def c78s31 : ICode := (.seq (.cond (.t 56) .skip (.exit 4)) c78s30)
def c78r32 : List Seg := [
 zo 56 (.bin .lss (.t 55) (.t 54))]
def c78k32 : ICode := .kill 116 [1, 2, 5, 6, 8, 9, 20, 21, 53, 54, 55] (.ops c78r32)
def c78l5 : ICode := (.seq c78k32 c78s31)
def c78s33 : ICode := (.block 4 (.loop c78l5))
def c78r34 : List Seg := [
 zo 52 (.fieldA 1 (.t 2)),
 zo 53 (.load1 (.t 52)),
 zo 54 (.len 0 (.t 53)),
 zo 55 (.mv (.c (.int .i64 0)))]
def c78k34 : ICode := .kill 116 [1, 2, 5, 6, 8, 9, 20, 21] (.ops c78r34)
def c78s35 : ICode := (.seq c78k34 c78s33)
def c78r36 : List Seg := [
 zm 50 8,
 zo 51 (.sliceS 1 (.t 50) (some (.c (.int .i64 1))) none none),
 zm 8 51]
def c78k36 : ICode := .kill 116 [1, 2, 5, 6, 8, 9, 20, 21] (.ops c78r36)
def c78s37 : ICode := (.seq c78k36 c78s35)
def c78r38 : List Seg := [
 zm 47 8,
 zo 48 (.idxS 1 (.t 47) (.c (.int .i64 0))),
 zo 49 (.load1 (.t 48)),
 zm 9 49]
def c78k38 : ICode := .kill 116 [1, 2, 5, 6, 8, 20, 21] (.ops c78r38)
def c78s39 : ICode := (.block 3 (.seq c78k38 c78s37))
def c78s40 : ICode := (.cond (.t 46) .skip (.exit 2))
def c78r41 : List Seg := [
 zm 44 8,
 zo 45 (.len 0 (.t 44)),
 zo 46 (.bin .gtr (.t 45) (.c (.int .i64 0)))]
def c78k41 : ICode := .kill 116 [1, 2, 5, 6, 8, 20, 21] (.ops c78r41)
def c78l4 : ICode := (.seq (.seq c78k41 c78s40) c78s39)
def c78s42 : ICode := (.block 2 (.loop c78l4))
def c78r43 : List Seg := [
 zm 42 7,
 zo 43 (.mkslice 1 [.int .i64 0] [(0, 1, (.t 42))]),
 zm 8 43]
def c78k43 : ICode := .kill 116 [1, 2, 5, 6, 7, 20, 21] (.ops c78r43)
def c78s44 : ICode := (.seq c78k43 c78s42)
def c78r45 : List Seg := [
 zm 36 5,
 zm 37 7,
 zm 38 7,
 zo 39 (.nilck (.t 36)),
 zo 40 (.fieldA 0 (.t 39)),
 zo 41 (.idxA 6 1 (.t 40) (.t 37)),
 .one ⟨none, .store1 (.t 41) (.t 38), none⟩]
def c78k45 : ICode := .kill 116 [1, 2, 5, 6, 7, 20, 21] (.ops c78r45)
def c78s46 : ICode := (.seq c78k45 c78s44)
def c78r47 : List Seg := [
 zm 34 6,
 zm 35 7,
 .one ⟨none, .mset (.t 34) (.t 35) (.c (.bool true)), none⟩]
def c78k47 : ICode := .kill 116 [1, 2, 5, 6, 7, 20, 21] (.ops c78r47)
def c78s48 : ICode := (.seq c78k47 c78s46)
def c78r49 : List Seg := [
 zm 27 5,
 zo 28 (.nilck (.t 27)),
 zo 29 (.fieldA 12 (.t 28)),
 zo 30 (.load1 (.t 29)),
 zo 31 (.bin .add (.t 30) (.c (.int .i64 1))),
 zo 32 (.nilck (.t 27)),
 zo 33 (.fieldA 12 (.t 32)),
 .one ⟨none, .store1 (.t 33) (.t 31), none⟩]
def c78k49 : ICode := .kill 116 [1, 2, 5, 6, 7, 20, 21] (.ops c78r49)
def c78s50 : ICode := (.seq c78k49 c78s48)
def c78s51 : ICode := (.cond (.t 26) (.exit 1) .skip)
def c78r52 : List Seg := [
 zm 24 6,
 zm 25 7,
 zo 26 (.look (.bool false) false (.t 24) (.t 25))]
def c78k52 : ICode := .kill 116 [1, 2, 5, 6, 7, 20, 21] (.ops c78r52)
def c78s53 : ICode := (.seq (.seq c78k52 c78s51) c78s50)
def c78r54 : List Seg := [
 zm 23 21,
 zm 7 23]
def c78k54 : ICode := .kill 116 [1, 2, 5, 6, 20, 21] (.ops c78r54)
def c78s55 : ICode := (.seq (.block 1 (.seq c78k54 c78s53)) c78k3)
def c78s56 : ICode := (.seq (.cond (.t 22) .skip (.exit 0)) c78s55)
def c78r57 : List Seg := [
 zo 22 (.bin .lss (.t 21) (.t 20))]
def c78k57 : ICode := .kill 116 [1, 2, 5, 6, 20, 21] (.ops c78r57)
def c78l2 : ICode := (.seq c78k57 c78s56)
def c78s58 : ICode := (.block 0 (.loop c78l2))
def c78r59 : List Seg := [
 zo 19 (.fieldA 0 (.t 2)),
 zo 20 (.load1 (.t 19)),
 zo 21 (.mv (.c (.int .i64 0)))]
def c78k59 : ICode := .kill 116 [1, 2, 5, 6] (.ops c78r59)
def c78s60 : ICode := (.seq (.seq c78k59 c78s58) c78s1)
def c78r61 : List Seg := [
 zo 18 (.mkmap),
 zm 6 18]
def c78k61 : ICode := .kill 116 [1, 2, 5] (.ops c78r61)
def c78s62 : ICode := (.seq c78k61 c78s60)
def c78r63 : List Seg := [
 zo 16 (.mkagg (List.replicate 13 (.int .i64 0)) []),
 zo 17 (.box (.t 16)),
 zm 5 17]
def c78k63 : ICode := .kill 116 [1, 2] (.ops c78r63)
def c78s64 : ICode := (.seq c78k63 c78s62)
def c78r65 : List Seg := [
 zo 2 (.box (.t 0)),
 zo 4 (.mv (.c .nilptr))]
def c78k65 : ICode := .kill 116 [0, 1] (.ops c78r65)
def c78b : ICode := (.seq c78k65 c78s64)
def c78 : IFn := ⟨116, [.t 4], c78b⟩
def h78 : List (Nat × Nat × List Nat) := [(0, (116, [0, 1])), (1, (116, [1, 2])), (2, (116, [1, 2, 5])), (3, (116, [1, 2, 5, 6])), (4, (116, [1, 2, 5, 6, 20, 21])), (5, (116, [1, 2, 5, 6, 20, 21])), (6, (116, [1, 2, 5, 6, 7, 20, 21])), (7, (116, [1, 2, 5, 6, 7, 20, 21])), (8, (116, [1, 2, 5, 6, 7, 20, 21])), (9, (116, [1, 2, 5, 6, 7, 20, 21])), (10, (116, [1, 2, 5, 6, 7, 20, 21])), (11, (116, [1, 2, 5, 6, 8, 20, 21])), (12, (116, [1, 2, 5, 6, 8, 20, 21])), (13, (116, [1, 2, 5, 6, 8, 9, 20, 21])), (14, (116, [1, 2, 5, 6, 8, 9, 20, 21])), (15, (116, [1, 2, 5, 6, 8, 9, 20, 21, 53, 54, 55])), (16, (116, [1, 2, 5, 6, 8, 9, 20, 21, 53, 54, 55])), (17, (116, [1, 2, 5, 6, 8, 9, 10, 11, 20, 21, 53, 54, 55])), (18, (116, [1, 2, 5, 6, 8, 9, 10, 11, 20, 21, 53, 54, 55, 60])), (19, (116, [1, 2, 5, 6, 8, 9, 10, 11, 20, 21, 53, 54, 55, 60])), (20, (116, [1, 2, 5, 6, 8, 9, 10, 11, 12, 20, 21, 53, 54, 55, 60])), (21, (116, [1, 2, 5, 6, 8, 9, 10, 11, 12, 13, 14, 15, 20, 21, 53, 54, 55, 60])), (22, (116, [1, 2, 5, 6, 8, 9, 10, 11, 13, 14, 15, 20, 21, 53, 54, 55, 60])), (23, (116, [1, 2, 5, 6, 8, 9, 10, 11, 13, 14, 15, 20, 21, 53, 54, 55, 60])), (24, (116, [1, 2, 5, 6, 8, 9, 10, 11, 14, 15, 20, 21, 53, 54, 55, 60])), (25, (116, [1, 2, 5, 6, 8, 9, 10, 11, 14, 15, 20, 21, 53, 54, 55, 60])), (26, (116, [1, 2, 5, 6, 8, 9, 10, 11, 14, 20, 21, 53, 54, 55, 60])), (27, (116, [1, 2, 5, 6, 8, 9, 10, 11, 20, 21, 53, 54, 55, 60])), (28, (116, [1, 2, 5, 6, 8, 9, 20, 21, 53, 54, 55])), (29, (116, [1, 2, 5, 6, 20, 21])), (30, (116, [5]))]
def c79r0 : List Seg := [
 zo 5 (.mkslice 0 [] []),
 zm 6 0,
 zo 7 (.app 1 8 (.t 5) (.t 6)),
 zm 2 7]
def c79k0 : ICode := .kill 8 [0] (.ops c79r0)
def c79s1 : ICode := (.seq c79k0 .ret)
def c79r2 : List Seg := [
 zo 2 (.mv (.c .nilslice))]
def c79k2 : ICode := .kill 8 [] (.ops c79r2)
def c79s3 : ICode := (.cond (.t 4) (.seq c79k2 .ret) .skip)
def c79r4 : List Seg := [
 zm 3 0,
 zo 4 (.eqv false .slice (.t 3) (.c .nilslice))]
def c79k4 : ICode := .kill 8 [0] (.ops c79r4)
def c79s5 : ICode := (.seq (.seq c79k4 c79s3) c79s1)
def c79r6 : List Seg := [
 zo 2 (.mv (.c .nilslice))]
def c79k6 : ICode := .kill 8 [0] (.ops c79r6)
def c79b : ICode := (.seq c79k6 c79s5)
def c79 : IFn := ⟨8, [.t 2], c79b⟩
def h79 : List (Nat × Nat × List Nat) := [(0, (8, [0])), (1, (8, [0])), (2, (8, [])), (3, (8, [0]))]
def c80r0 : List Seg := [
 zm 19 3,
 zo 20 (.call [] (.c (.func 102 [])) [(.t 19)]),
 .one ⟨none, .storeN 2 (.t 2) (.t 20), none⟩]
def c80k0 : ICode := .kill 21 [2, 3] (.ops c80r0)
def c80s1 : ICode := (.seq c80k0 .ret)
def c80r3 : List Seg := [
 zo 18 (.bin .add (.t 8) (.c (.int .i64 1))),
 zm 8 18]
def c80k3 : ICode := .kill 21 [2, 3, 6, 7, 8] (.ops c80r3)
def c80r4 : List Seg := [
 zm 12 3,
 zo 13 (.loadN 2 (.t 5)),
 zo 14 (.loadN 2 (.t 5)),
 zo 15 (.call [] (.c (.func 99 [])) [(.t 13), (.t 14)]),
 zo 16 (.mkslice 1 [.int .i64 0, .int .i64 0] [(0, 2, (.t 15))]),
 zo 17 (.app 2 16 (.t 12) (.t 16)),
 zm 3 17]
def c80k4 : ICode := .kill 21 [2, 3, 5, 6, 7, 8] (.ops c80r4)
def c80r5 : List Seg := [
 zo 10 (.idxS 2 (.t 6) (.t 8)),
 zo 11 (.loadN 2 (.t 10)),
 zo 5 (.box (.c (.agg [.int .i64 0, .int .i64 0]))),
 .one ⟨none, .storeN 2 (.t 5) (.t 11), none⟩]
def c80k5 : ICode := .kill 21 [2, 3, 6, 7, 8] (.ops c80r5)
def c80s6 : ICode := (.seq (.block 1 (.seq c80k5 c80k4)) c80k3)
def c80s7 : ICode := (.seq (.cond (.t 9) .skip (.exit 0)) c80s6)
def c80r8 : List Seg := [
 zo 9 (.bin .lss (.t 8) (.t 7))]
def c80k8 : ICode := .kill 21 [2, 3, 6, 7, 8] (.ops c80r8)
def c80l2 : ICode := (.seq c80k8 c80s7)
def c80s9 : ICode := (.block 0 (.loop c80l2))
def c80r10 : List Seg := [
 zm 6 0,
 zo 7 (.len 0 (.t 6)),
 zo 8 (.mv (.c (.int .i64 0)))]
def c80k10 : ICode := .kill 21 [0, 2, 3] (.ops c80r10)
def c80s11 : ICode := (.seq (.seq c80k10 c80s9) c80s1)
def c80r12 : List Seg := [
 zo 3 (.mv (.c .nilslice))]
def c80k12 : ICode := .kill 21 [0, 2] (.ops c80r12)
def c80s13 : ICode := (.seq c80k12 c80s11)
def c80r14 : List Seg := [
 zo 2 (.box (.c (.agg [.int .i64 0, .int .i64 0])))]
def c80k14 : ICode := .kill 21 [0] (.ops c80r14)
def c80b : ICode := (.seq c80k14 c80s13)
def c80 : IFn := ⟨21, [.cellN 2 2], c80b⟩
def h80 : List (Nat × Nat × List Nat) := [(0, (21, [0])), (1, (21, [0, 2])), (2, (21, [0, 2, 3])), (3, (21, [2, 3, 6, 7, 8])), (4, (21, [2, 3, 6, 7, 8])), (5, (21, [2, 3, 5, 6, 7, 8])), (6, (21, [2, 3, 6, 7, 8])), (7, (21, [2, 3]))]
def c81r0 : List Seg := [
 .grp [(zn 15 0, 0), (zp 16 (.mkslice 1 [.int .i64 0] [(0, 1, (.t 15))]), 1), (zp 17 (.load1 (.t 2)), 0), (zp 18 (.load1 (.t 1)), 0), (zn 19 0, 0), (zp 20 (.nilck (.t 18)), 8), (zp 21 (.fieldA 0 (.t 20)), 40), (zp 22 (.idxA 6 1 (.t 21) (.t 19)), 120), (zp 23 (.load1 (.t 22)), 248), (zp 24 (.call [] (.t 17) [(.t 23)]), 508)],
 zo 25 (.app 1 8 (.t 16) (.t 24)),
 zm 4 25]
def c81k0 : ICode := .kill 26 [0, 1, 2] (.ops c81r0)
def c81s1 : ICode := (.seq c81k0 .ret)
def c81r2 : List Seg := [
 zm 13 0,
 zo 14 (.mkslice 1 [.int .i64 0] [(0, 1, (.t 13))]),
 zm 4 14]
def c81k2 : ICode := .kill 26 [0] (.ops c81r2)
def c81s3 : ICode := (.cond (.t 12) (.seq c81k2 .ret) .skip)
def c81r4 : List Seg := [
 zo 5 (.load1 (.t 1)),
 zm 6 0,
 zo 7 (.nilck (.t 5)),
 zo 8 (.fieldA 0 (.t 7)),
 zo 9 (.idxA 6 1 (.t 8) (.t 6)),
 zo 10 (.load1 (.t 9)),
 zm 11 0,
 zo 12 (.bin .eql (.t 10) (.t 11))]
def c81k4 : ICode := .kill 26 [0, 1, 2] (.ops c81r4)
def c81s5 : ICode := (.seq (.seq c81k4 c81s3) c81s1)
def c81r6 : List Seg := [
 zo 4 (.mv (.c .nilslice))]
def c81k6 : ICode := .kill 26 [0, 1, 2] (.ops c81r6)
def c81b : ICode := (.seq c81k6 c81s5)
def c81 : IFn := ⟨26, [.t 4], c81b⟩
def h81 : List (Nat × Nat × List Nat) := [(0, (26, [0, 1, 2])), (1, (26, [0, 1, 2])), (2, (26, [0])), (3, (26, [0, 1, 2]))]
def c82r1 : List Seg := [
 zm 10 2,
 zo 11 (.bin .add (.t 10) (.c (.int .i64 1))),
 zm 12 3,
 zo 13 (.bin .sub (.t 12) (.c (.int .i64 1))),
 zm 2 11,
 zm 3 13]
def c82k1 : ICode := .kill 28 [0, 2, 3] (.ops c82r1)
def c82r2 : List Seg := [
 .grpw (.t 26) (.t 21) none 8179 [(zn 14 0, 0), (zn 15 2, 0), (zn 16 0, 0), (zn 17 3, 0), (zn 18 0, 0), (zn 19 3, 0), (zp 20 (.idxS 1 (.t 18) (.t 19)), 48), (zp 21 (.load1 (.t 20)), 112), (zn 22 0, 0), (zn 23 2, 0), (zp 24 (.idxS 1 (.t 22) (.t 23)), 768), (zp 25 (.load1 (.t 24)), 1792), (zp 26 (.idxS 1 (.t 14) (.t 15)), 4083), (⟨none, .lenc 0, none⟩, 8179)],
 zo 27 (.idxS 1 (.t 16) (.t 17)),
 .one ⟨none, .store1 (.t 27) (.t 25), none⟩]
def c82k2 : ICode := .kill 28 [0, 2, 3] (.ops c82r2)
def c82s3 : ICode := (.seq (.block 1 c82k2) c82k1)
def c82s4 : ICode := (.cond (.t 9) .skip (.exit 0))
def c82r5 : List Seg := [
 zm 7 2,
 zm 8 3,
 zo 9 (.bin .lss (.t 7) (.t 8))]
def c82k5 : ICode := .kill 28 [0, 2, 3] (.ops c82r5)
def c82l0 : ICode := (.seq (.seq c82k5 c82s4) c82s3)
def c82s6 : ICode := (.block 0 (.loop c82l0))
def c82r7 : List Seg := [
 zm 4 0,
 zo 5 (.len 0 (.t 4)),
 zo 6 (.bin .sub (.t 5) (.c (.int .i64 1))),
 zo 2 (.mv (.c (.int .i64 0))),
 zm 3 6]
def c82k7 : ICode := .kill 28 [0] (.ops c82r7)
def c82b : ICode := (.seq c82k7 c82s6)
def c82 : IFn := ⟨28, [], c82b⟩
def h82 : List (Nat × Nat × List Nat) := [(0, (28, [0])), (1, (28, [0, 2, 3])), (3, (28, [0, 2, 3])), (2, (28, [0, 2, 3]))]
def c83r0 : List Seg := [
 zm 5 0,
 zm 6 1,
 zo 7 (.call [] (.c (.func 103 [])) [(.t 5), (.t 6)]),
 zo 8 (.bin .geq (.t 7) (.c (.int .i64 0))),
 zm 4 8]
def c83k0 : ICode := .kill 9 [0, 1] (.ops c83r0)
def c83s1 : ICode := (.seq c83k0 .ret)
def c83r2 : List Seg := [
 zo 4 (.mv (.c (.bool false)))]
def c83k2 : ICode := .kill 9 [0, 1] (.ops c83r2)
def c83b : ICode := (.seq c83k2 c83s1)
def c83 : IFn := ⟨9, [.t 4], c83b⟩
def h83 : List (Nat × Nat × List Nat) := [(0, (9, [0, 1])), (1, (9, [0, 1]))]
def c84r0 : List Seg := [
 zm 35 6,
 zm 2 35]
def c84k0 : ICode := .kill 36 [6] (.ops c84r0)
def c84s1 : ICode := (.seq c84k0 .ret)
def c84r3 : List Seg := [
 zo 34 (.bin .add (.t 27) (.c (.int .i64 1))),
 zm 27 34]
def c84k3 : ICode := .kill 36 [6, 25, 26, 27] (.ops c84r3)
def c84r4 : List Seg := [
 zm 31 6,
 zm 32 8,
 zo 33 (.app 1 8 (.t 31) (.t 32)),
 zm 6 33]
def c84k4 : ICode := .kill 36 [6, 8, 25, 26, 27] (.ops c84r4)
def c84r5 : List Seg := [
 zo 29 (.idxS 1 (.t 25) (.t 27)),
 zo 30 (.load1 (.t 29)),
 zm 8 30]
def c84k5 : ICode := .kill 36 [6, 25, 26, 27] (.ops c84r5)
def c84s6 : ICode := (.seq (.block 3 (.seq c84k5 c84k4)) c84k3)
def c84s7 : ICode := (.seq (.cond (.t 28) .skip (.exit 2)) c84s6)
def c84r8 : List Seg := [
 zo 28 (.bin .lss (.t 27) (.t 26))]
def c84k8 : ICode := .kill 36 [6, 25, 26, 27] (.ops c84r8)
def c84l2 : ICode := (.seq c84k8 c84s7)
def c84s9 : ICode := (.block 2 (.loop c84l2))
def c84r10 : List Seg := [
 zm 25 0,
 zo 26 (.len 0 (.t 25)),
 zo 27 (.mv (.c (.int .i64 0)))]
def c84k10 : ICode := .kill 36 [0, 6] (.ops c84r10)
def c84s11 : ICode := (.seq (.seq c84k10 c84s9) c84s1)
def c84r12 : List Seg := [
 zm 23 3,
 zo 24 (.call [] (.c (.func 104 [])) [(.c .nilslice), (.t 23)]),
 zm 6 24]
def c84k12 : ICode := .kill 36 [0, 3] (.ops c84r12)
def c84s13 : ICode := (.seq c84k12 c84s11)
def c84r15 : List Seg := [
 zo 22 (.bin .add (.t 11) (.c (.int .i64 1))),
 zm 11 22]
def c84k15 : ICode := .kill 36 [0, 3, 9, 10, 11] (.ops c84r15)
def c84r16 : List Seg := [
 .one ⟨some 21, .mkif 9 (.c (.str ⟨#[108, 101, 110, 32, 111, 117, 116, 32, 111, 102, 32, 114, 97, 110, 103, 101]⟩)), none⟩,
 .one ⟨none, .bad, none⟩]
def c84k16 : ICode := .kill 36 [0, 3, 9, 10, 11] (.ops c84r16)
def c84s17 : ICode := (.cond (.t 20) c84k16 .skip)
def c84r18 : List Seg := [
 zm 19 3,
 zo 20 (.bin .lss (.t 19) (.c (.int .i64 0)))]
def c84k18 : ICode := .kill 36 [0, 3, 9, 10, 11] (.ops c84r18)
def c84s19 : ICode := (.seq c84k18 c84s17)
def c84r20 : List Seg := [
 zm 15 3,
 zm 16 5,
 zo 17 (.len 0 (.t 16)),
 zo 18 (.bin .add (.t 15) (.t 17)),
 zm 3 18]
def c84k20 : ICode := .kill 36 [0, 3, 5, 9, 10, 11] (.ops c84r20)
def c84s21 : ICode := (.seq c84k20 c84s19)
def c84r22 : List Seg := [
 zo 13 (.idxS 1 (.t 9) (.t 11)),
 zo 14 (.load1 (.t 13)),
 zm 5 14]
def c84k22 : ICode := .kill 36 [0, 3, 9, 10, 11] (.ops c84r22)
def c84s23 : ICode := (.seq (.block 1 (.seq c84k22 c84s21)) c84k15)
def c84s24 : ICode := (.seq (.cond (.t 12) .skip (.exit 0)) c84s23)
def c84r25 : List Seg := [
 zo 12 (.bin .lss (.t 11) (.t 10))]
def c84k25 : ICode := .kill 36 [0, 3, 9, 10, 11] (.ops c84r25)
def c84l14 : ICode := (.seq c84k25 c84s24)
def c84s26 : ICode := (.block 0 (.loop c84l14))
def c84r27 : List Seg := [
 zm 9 0,
 zo 10 (.len 0 (.t 9)),
 zo 11 (.mv (.c (.int .i64 0)))]
def c84k27 : ICode := .kill 36 [0, 3] (.ops c84r27)
def c84s28 : ICode := (.seq (.seq c84k27 c84s26) c84s13)
def c84r29 : List Seg := [
 zo 3 (.mv (.c (.int .i64 0)))]
def c84k29 : ICode := .kill 36 [0] (.ops c84r29)
def c84s30 : ICode := (.seq c84k29 c84s28)
def c84r31 : List Seg := [
 zo 2 (.mv (.c .nilslice))]
def c84k31 : ICode := .kill 36 [0] (.ops c84r31)
def c84b : ICode := (.seq c84k31 c84s30)
def c84 : IFn := ⟨36, [.t 2], c84b⟩
def h84 : List (Nat × Nat × List Nat) := [(0, (36, [0])), (1, (36, [0])), (2, (36, [0, 3])), (3, (36, [0, 3, 9, 10, 11])), (4, (36, [0, 3, 9, 10, 11])), (5, (36, [0, 3, 5, 9, 10, 11])), (6, (36, [0, 3, 9, 10, 11])), (7, (36, [0, 3, 9, 10, 11])), (8, (36, [0, 3, 9, 10, 11])), (9, (36, [0, 3])), (10, (36, [0, 6])), (11, (36, [6, 25, 26, 27])), (12, (36, [6, 25, 26, 27])), (13, (36, [6, 8, 25, 26, 27])), (14, (36, [6, 25, 26, 27])), (15, (36, [6]))]
def c85r0 : List Seg := [
 zm 3 0,
 zo 4 (.bin .neq (.t 3) (.c (.int .i64 0))),
 zm 2 4]
def c85k0 : ICode := .kill 5 [0] (.ops c85r0)
def c85s1 : ICode := (.seq c85k0 .ret)
def c85r2 : List Seg := [
 zo 2 (.mv (.c (.bool false)))]
def c85k2 : ICode := .kill 5 [0] (.ops c85r2)
def c85b : ICode := (.seq c85k2 c85s1)
def c85 : IFn := ⟨5, [.t 2], c85b⟩
def h85 : List (Nat × Nat × List Nat) := [(0, (5, [0])), (1, (5, [0]))]
def c90r0 : List Seg := [
 zo 4 (.mv (.c (.bool false)))]
def c90k0 : ICode := .kill 24 [] (.ops c90r0)
def c90s1 : ICode := (.seq c90k0 .ret)
def c90r3 : List Seg := [
 zm 8 5,
 zo 9 (.bin .add (.t 8) (.c (.int .i64 1))),
 zm 5 9]
def c90k3 : ICode := .kill 24 [2, 3, 5] (.ops c90r3)
def c90r4 : List Seg := [
 .grp [(zn 17 5, 0), (zp 18 (.idxA 3 1 (.t 2) (.t 17)), 1), (zp 19 (.load1 (.t 18)), 3), (zn 20 5, 0), (zp 21 (.idxA 3 1 (.t 3) (.t 20)), 8), (zp 22 (.load1 (.t 21)), 24)],
 zo 23 (.bin .lss (.t 19) (.t 22)),
 zm 4 23]
def c90k4 : ICode := .kill 24 [2, 3, 5] (.ops c90r4)
def c90s5 : ICode := (.cond (.t 16) (.seq c90k4 .ret) .skip)
def c90r6 : List Seg := [
 .grp [(zn 10 5, 0), (zp 11 (.idxA 3 1 (.t 2) (.t 10)), 1), (zp 12 (.load1 (.t 11)), 3), (zn 13 5, 0), (zp 14 (.idxA 3 1 (.t 3) (.t 13)), 8), (zp 15 (.load1 (.t 14)), 24)],
 zo 16 (.bin .neq (.t 12) (.t 15))]
def c90k6 : ICode := .kill 24 [2, 3, 5] (.ops c90r6)
def c90s7 : ICode := (.seq (.block 1 (.seq c90k6 c90s5)) c90k3)
def c90s8 : ICode := (.cond (.t 7) .skip (.exit 0))
def c90r9 : List Seg := [
 zm 6 5,
 zo 7 (.bin .lss (.t 6) (.c (.int .i64 3)))]
def c90k9 : ICode := .kill 24 [2, 3, 5] (.ops c90r9)
def c90l2 : ICode := (.seq (.seq c90k9 c90s8) c90s7)
def c90s10 : ICode := (.block 0 (.loop c90l2))
def c90r11 : List Seg := [
 zo 5 (.mv (.c (.int .i64 0)))]
def c90k11 : ICode := .kill 24 [2, 3] (.ops c90r11)
def c90s12 : ICode := (.seq (.seq c90k11 c90s10) c90s1)
def c90r13 : List Seg := [
 zo 2 (.box (.t 0)),
 zo 3 (.box (.t 1)),
 zo 4 (.mv (.c (.bool false)))]
def c90k13 : ICode := .kill 24 [0, 1] (.ops c90r13)
def c90b : ICode := (.seq c90k13 c90s12)
def c90 : IFn := ⟨24, [.t 4], c90b⟩
def h90 : List (Nat × Nat × List Nat) := [(0, (24, [0, 1])), (1, (24, [2, 3])), (2, (24, [2, 3, 5])), (4, (24, [2, 3, 5])), (5, (24, [2, 3, 5])), (3, (24, [2, 3, 5])), (6, (24, []))]
def c91r0 : List Seg := [
 zo 4 (.mv (.c (.int .i64 0)))]
def c91k0 : ICode := .kill 36 [] (.ops c91r0)
def c91s1 : ICode := (.seq c91k0 .ret)
def c91r2 : List Seg := [
 zo 4 (.mv (.c (.int .i64 (-1))))]
def c91k2 : ICode := .kill 36 [] (.ops c91r2)
def c91s3 : ICode := (.cond (.t 35) (.seq c91k2 .ret) .skip)
def c91r4 : List Seg := [
 zm 31 0,
 zo 32 (.len 0 (.t 31)),
 zm 33 1,
 zo 34 (.len 0 (.t 33)),
 zo 35 (.bin .lss (.t 32) (.t 34))]
def c91k4 : ICode := .kill 36 [0, 1] (.ops c91r4)
def c91s5 : ICode := (.seq (.seq c91k4 c91s3) c91s1)
def c91r7 : List Seg := [
 zo 30 (.bin .add (.t 11) (.c (.int .i64 1))),
 zm 11 30]
def c91k7 : ICode := .kill 36 [0, 1, 9, 10, 11] (.ops c91r7)
def c91r8 : List Seg := [
 zm 29 8,
 zm 4 29]
def c91k8 : ICode := .kill 36 [8] (.ops c91r8)
def c91s9 : ICode := (.cond (.t 28) (.seq c91k8 .ret) .skip)
def c91r10 : List Seg := [
 zm 27 8,
 zo 28 (.bin .neq (.t 27) (.c (.int .i64 0)))]
def c91k10 : ICode := .kill 36 [0, 1, 8, 9, 10, 11] (.ops c91r10)
def c91s11 : ICode := (.seq c91k10 c91s9)
def c91r12 : List Seg := [
 zm 24 6,
 zm 25 7,
 zo 26 (.call [] (.c (.func 105 [])) [(.t 24), (.t 25)]),
 zm 8 26]
def c91k12 : ICode := .kill 36 [0, 1, 6, 7, 9, 10, 11] (.ops c91r12)
def c91s13 : ICode := (.seq c91k12 c91s11)
def c91r14 : List Seg := [
 zm 20 1,
 zm 21 5,
 zo 22 (.idxS 1 (.t 20) (.t 21)),
 zo 23 (.load1 (.t 22)),
 zm 7 23]
def c91k14 : ICode := .kill 36 [0, 1, 5, 6, 9, 10, 11] (.ops c91r14)
def c91s15 : ICode := (.seq c91k14 c91s13)
def c91r16 : List Seg := [
 zo 4 (.mv (.c (.int .i64 1)))]
def c91k16 : ICode := .kill 36 [] (.ops c91r16)
def c91s17 : ICode := (.cond (.t 19) (.seq c91k16 .ret) .skip)
def c91r18 : List Seg := [
 zm 16 5,
 zm 17 1,
 zo 18 (.len 0 (.t 17)),
 zo 19 (.bin .geq (.t 16) (.t 18))]
def c91k18 : ICode := .kill 36 [0, 1, 5, 6, 9, 10, 11] (.ops c91r18)
def c91s19 : ICode := (.seq (.seq c91k18 c91s17) c91s15)
def c91r20 : List Seg := [
 zm 13 11,
 zo 14 (.idxS 1 (.t 9) (.t 11)),
 zo 15 (.load1 (.t 14)),
 zm 5 13,
 zm 6 15]
def c91k20 : ICode := .kill 36 [0, 1, 9, 10, 11] (.ops c91r20)
def c91s21 : ICode := (.seq (.block 1 (.seq c91k20 c91s19)) c91k7)
def c91s22 : ICode := (.seq (.cond (.t 12) .skip (.exit 0)) c91s21)
def c91r23 : List Seg := [
 zo 12 (.bin .lss (.t 11) (.t 10))]
def c91k23 : ICode := .kill 36 [0, 1, 9, 10, 11] (.ops c91r23)
def c91l6 : ICode := (.seq c91k23 c91s22)
def c91s24 : ICode := (.block 0 (.loop c91l6))
def c91r25 : List Seg := [
 zm 9 0,
 zo 10 (.len 0 (.t 9)),
 zo 11 (.mv (.c (.int .i64 0)))]
def c91k25 : ICode := .kill 36 [0, 1] (.ops c91r25)
def c91s26 : ICode := (.seq (.seq c91k25 c91s24) c91s5)
def c91r27 : List Seg := [
 zo 4 (.mv (.c (.int .i64 0)))]
def c91k27 : ICode := .kill 36 [0, 1] (.ops c91r27)
def c91b : ICode := (.seq c91k27 c91s26)
def c91 : IFn := ⟨36, [.t 4], c91b⟩
def h91 : List (Nat × Nat × List Nat) := [(0, (36, [0, 1])), (1, (36, [0, 1])), (2, (36, [0, 1, 9, 10, 11])), (3, (36, [0, 1, 9, 10, 11])), (4, (36, [0, 1, 5, 6, 9, 10, 11])), (5, (36, [])), (6, (36, [0, 1, 5, 6, 9, 10, 11])), (7, (36, [0, 1, 6, 7, 9, 10, 11])), (8, (36, [0, 1, 8, 9, 10, 11])), (9, (36, [8])), (10, (36, [0, 1, 9, 10, 11])), (11, (36, [0, 1])), (12, (36, [])), (13, (36, []))]
def c92r0 : List Seg := [
 zm 5 0,
 zo 6 (.loadN 2 (.t 3)),
 zo 7 (.call [] (.c (.func 75 [])) [(.t 5), (.t 6)]),
 zo 8 (.bin .geq (.t 7) (.c (.int .i64 0))),
 zm 4 8]
def c92k0 : ICode := .kill 9 [0, 3] (.ops c92r0)
def c92s1 : ICode := (.seq c92k0 .ret)
def c92r2 : List Seg := [
 zo 3 (.box (.t 1)),
 zo 4 (.mv (.c (.bool false)))]
def c92k2 : ICode := .kill 9 [0, 1] (.ops c92r2)
def c92b : ICode := (.seq c92k2 c92s1)
def c92 : IFn := ⟨9, [.t 4], c92b⟩
def h92 : List (Nat × Nat × List Nat) := [(0, (9, [0, 1])), (1, (9, [0, 3]))]
def c93r1 : List Seg := [
 zo 51 (.bin .add (.t 16) (.c (.int .i64 1))),
 zm 16 51]
def c93k1 : ICode := .kill 52 [0, 4, 14, 15, 16] (.ops c93r1)
def c93s2 : ICode := (.cond (.t 50) .ret .skip)
def c93r3 : List Seg := [
 zm 42 7,
 zo 43 (.bin .neq (.t 42) (.c (.int .i64 0))),
 zm 44 43,
 .one ⟨some 45, .mv (.t 0), some (44, true)⟩,
 .one ⟨some 46, .mv (.t 5), some (44, true)⟩,
 .one ⟨some 47, .mv (.t 7), some (44, true)⟩,
 .one ⟨some 48, .call [] (.t 45) [(.t 46), (.t 47)], some (44, true)⟩,
 .one ⟨some 49, .un .not (.t 48), some (44, true)⟩,
 zo 50 (.pick (.t 44) (.t 49) (.c (.bool false)))]
def c93k3 : ICode := .kill 52 [0, 4, 5, 7, 14, 15, 16] (.ops c93r3)
def c93s4 : ICode := (.seq c93k3 c93s2)
def c93r5 : List Seg := [
 zo 7 (.mv (.c (.int .i64 1)))]
def c93k5 : ICode := .kill 52 [0, 4, 5, 14, 15, 16] (.ops c93r5)
def c93r6 : List Seg := [
 zo 7 (.mv (.c (.int .i64 (-1))))]
def c93k6 : ICode := .kill 52 [0, 4, 5, 14, 15, 16] (.ops c93r6)
def c93s7 : ICode := (.cond (.t 35) c93k6 .skip)
def c93r8 : List Seg := [
 zo 36 (.idxA 3 1 (.t 4) (.c (.int .i64 0))),
 zo 37 (.load1 (.t 36)),
 zo 38 (.idxA 3 1 (.t 4) (.c (.int .i64 2))),
 zo 39 (.load1 (.t 38)),
 zo 40 (.mkagg [.int .i64 0, .int .i64 0] [(0, 1, (.t 37)), (1, 1, (.t 39))]),
 zo 41 (.eqv false (.ints 2) (.t 21) (.t 40)),
 zm 35 41]
def c93k8 : ICode := .kill 52 [0, 4, 5, 7, 14, 15, 16, 21] (.ops c93r8)
def c93s9 : ICode := (.cond (.t 22) c93k5 (.seq c93k8 c93s7))
def c93r10 : List Seg := [
 zo 29 (.idxA 3 1 (.t 4) (.c (.int .i64 1))),
 zo 30 (.load1 (.t 29)),
 zo 31 (.idxA 3 1 (.t 4) (.c (.int .i64 2))),
 zo 32 (.load1 (.t 31)),
 zo 33 (.mkagg [.int .i64 0, .int .i64 0] [(0, 1, (.t 30)), (1, 1, (.t 32))]),
 zo 34 (.eqv false (.ints 2) (.t 21) (.t 33)),
 zm 22 34]
def c93k10 : ICode := .kill 52 [0, 4, 5, 7, 14, 15, 16, 21] (.ops c93r10)
def c93s11 : ICode := (.cond (.t 22) .skip c93k10)
def c93r12 : List Seg := [
 zo 23 (.idxA 3 1 (.t 4) (.c (.int .i64 0))),
 zo 24 (.load1 (.t 23)),
 zo 25 (.idxA 3 1 (.t 4) (.c (.int .i64 1))),
 zo 26 (.load1 (.t 25)),
 zo 27 (.mkagg [.int .i64 0, .int .i64 0] [(0, 1, (.t 24)), (1, 1, (.t 26))]),
 zo 28 (.eqv false (.ints 2) (.t 21) (.t 27)),
 zm 22 28]
def c93k12 : ICode := .kill 52 [0, 4, 5, 7, 14, 15, 16, 21] (.ops c93r12)
def c93s13 : ICode := (.block 2 (.seq (.seq c93k12 c93s11) c93s9))
def c93r14 : List Seg := [
 zo 21 (.loadN 2 (.t 6))]
def c93k14 : ICode := .kill 52 [0, 4, 5, 6, 7, 14, 15, 16] (.ops c93r14)
def c93s15 : ICode := (.seq (.seq c93k14 c93s13) c93s4)
def c93r16 : List Seg := [
 zo 7 (.mv (.c (.int .i64 0)))]
def c93k16 : ICode := .kill 52 [0, 4, 5, 6, 14, 15, 16] (.ops c93r16)
def c93s17 : ICode := (.seq c93k16 c93s15)
def c93r18 : List Seg := [
 zm 18 16,
 zo 19 (.idxS 2 (.t 14) (.t 16)),
 zo 20 (.loadN 2 (.t 19)),
 zo 6 (.box (.c (.agg [.int .i64 0, .int .i64 0]))),
 zm 5 18,
 .one ⟨none, .storeN 2 (.t 6) (.t 20), none⟩]
def c93k18 : ICode := .kill 52 [0, 4, 14, 15, 16] (.ops c93r18)
def c93s19 : ICode := (.seq (.block 1 (.seq c93k18 c93s17)) c93k1)
def c93s20 : ICode := (.seq (.cond (.t 17) .skip (.exit 0)) c93s19)
def c93r21 : List Seg := [
 zo 17 (.bin .lss (.t 16) (.t 15))]
def c93k21 : ICode := .kill 52 [0, 4, 14, 15, 16] (.ops c93r21)
def c93l0 : ICode := (.seq c93k21 c93s20)
def c93s22 : ICode := (.block 0 (.loop c93l0))
def c93r23 : List Seg := [
 zo 13 (.fieldA 1 (.t 1)),
 zo 14 (.load1 (.t 13)),
 zo 15 (.len 0 (.t 14)),
 zo 16 (.mv (.c (.int .i64 0)))]
def c93k23 : ICode := .kill 52 [0, 1, 4] (.ops c93r23)
def c93s24 : ICode := (.seq c93k23 c93s22)
def c93r25 : List Seg := [
 zo 8 (.fieldA 2 (.t 1)),
 zo 9 (.load1 (.t 8)),
 zo 10 (.load1 (.t 2)),
 zo 11 (.idxS 3 (.t 9) (.t 10)),
 zo 12 (.loadN 3 (.t 11)),
 zo 4 (.box (.c (.agg [.int .i64 0, .int .i64 0, .int .i64 0]))),
 .one ⟨none, .storeN 3 (.t 4) (.t 12), none⟩]
def c93k25 : ICode := .kill 52 [0, 1, 2] (.ops c93r25)
def c93b : ICode := (.seq c93k25 c93s24)
def c93 : IFn := ⟨52, [], c93b⟩
def h93 : List (Nat × Nat × List Nat) := [(0, (52, [0, 1, 2])), (1, (52, [0, 1, 4])), (2, (52, [0, 4, 14, 15, 16])), (3, (52, [0, 4, 14, 15, 16])), (4, (52, [0, 4, 5, 6, 14, 15, 16])), (5, (52, [0, 4, 5, 6, 7, 14, 15, 16])), (6, (52, [0, 4, 5, 7, 14, 15, 16, 21])), (7, (52, [0, 4, 5, 7, 14, 15, 16, 21])), (8, (52, [0, 4, 5, 14, 15, 16])), (9, (52, [0, 4, 5, 7, 14, 15, 16, 21])), (10, (52, [0, 4, 5, 14, 15, 16])), (11, (52, [0, 4, 5, 7, 14, 15, 16])), (12, (52, [0, 4, 14, 15, 16]))]
def c94r0 : List Seg := [
 zm 3 0,
 zo 4 (.bin .lss (.t 3) (.c (.int .i64 (-100)))),
 zm 5 4,
 .one ⟨some 6, .mv (.t 0), some (5, false)⟩,
 .one ⟨some 7, .bin .gtr (.t 6) (.c (.int .i64 100)), some (5, false)⟩,
 zo 8 (.pick (.t 5) (.c (.bool true)) (.t 7)),
 zm 2 8]
def c94k0 : ICode := .kill 9 [0] (.ops c94r0)
def c94s1 : ICode := (.seq c94k0 .ret)
def c94r2 : List Seg := [
 zo 2 (.mv (.c (.bool false)))]
def c94k2 : ICode := .kill 9 [0] (.ops c94r2)
def c94b : ICode := (.seq c94k2 c94s1)
def c94 : IFn := ⟨9, [.t 2], c94b⟩
def h94 : List (Nat × Nat × List Nat) := [(0, (9, [0])), (1, (9, [0]))]
def c95r0 : List Seg := [
 zo 5 (.loadN 2 (.t 2)),
 zo 6 (.fieldA 0 (.t 3)),
 zo 7 (.load1 (.t 6)),
 zo 8 (.un .neg (.t 7)),
 zo 9 (.fieldA 1 (.t 3)),
 zo 10 (.load1 (.t 9)),
 zo 11 (.mkagg [.int .i64 0, .int .i64 0] [(0, 1, (.t 8)), (1, 1, (.t 10))]),
 zo 12 (.call [] (.c (.func 97 [])) [(.t 5), (.t 11)]),
 .one ⟨none, .storeN 2 (.t 4) (.t 12), none⟩]
def c95k0 : ICode := .kill 13 [2, 3, 4] (.ops c95r0)
def c95s1 : ICode := (.seq c95k0 .ret)
def c95r2 : List Seg := [
 zo 2 (.box (.t 0)),
 zo 3 (.box (.t 1)),
 zo 4 (.box (.c (.agg [.int .i64 0, .int .i64 0])))]
def c95k2 : ICode := .kill 13 [0, 1] (.ops c95r2)
def c95b : ICode := (.seq c95k2 c95s1)
def c95 : IFn := ⟨13, [.cellN 4 2], c95b⟩
def h95 : List (Nat × Nat × List Nat) := [(0, (13, [0, 1])), (1, (13, [2, 3, 4]))]
def c96r0 : List Seg := [
 zo 10 (.loadN 22 (.t 1)),
 .one ⟨none, .storeN 22 (.t 0) (.t 10), none⟩]
def c96k0 : ICode := .kill 11 [0, 1] (.ops c96r0)
def c96s1 : ICode := (.seq c96k0 .ret)
def c96r3 : List Seg := [
 zo 9 (.bin .add (.t 3) (.c (.int .i64 1))),
 zm 3 9]
def c96k3 : ICode := .kill 11 [0, 1, 3] (.ops c96r3)
def c96r4 : List Seg := [
 zm 6 2,
 zo 7 (.loadN 2 (.c (.ptr 0 0))),
 zo 8 (.idxA 11 2 (.t 1) (.t 6)),
 .one ⟨none, .storeN 2 (.t 8) (.t 7), none⟩]
def c96k4 : ICode := .kill 11 [0, 1, 2, 3] (.ops c96r4)
def c96r5 : List Seg := [
 zm 5 3,
 zm 2 5]
def c96k5 : ICode := .kill 11 [0, 1, 3] (.ops c96r5)
def c96s6 : ICode := (.seq (.block 1 (.seq c96k5 c96k4)) c96k3)
def c96s7 : ICode := (.seq (.cond (.t 4) .skip (.exit 0)) c96s6)
def c96r8 : List Seg := [
 zo 4 (.bin .lss (.t 3) (.c (.int .i64 11)))]
def c96k8 : ICode := .kill 11 [0, 1, 3] (.ops c96r8)
def c96l2 : ICode := (.seq c96k8 c96s7)
def c96s9 : ICode := (.block 0 (.loop c96l2))
def c96r10 : List Seg := [
 zo 3 (.mv (.c (.int .i64 0)))]
def c96k10 : ICode := .kill 11 [0, 1] (.ops c96r10)
def c96s11 : ICode := (.seq (.seq c96k10 c96s9) c96s1)
def c96r12 : List Seg := [
 zo 1 (.box (.c (.agg (List.replicate 22 (.int .i64 0)))))]
def c96k12 : ICode := .kill 11 [0] (.ops c96r12)
def c96s13 : ICode := (.seq c96k12 c96s11)
def c96r14 : List Seg := [
 zo 0 (.box (.c (.agg (List.replicate 22 (.int .i64 0)))))]
def c96k14 : ICode := .kill 11 [] (.ops c96r14)
def c96b : ICode := (.seq c96k14 c96s13)
def c96 : IFn := ⟨11, [.cellN 0 22], c96b⟩
def h96 : List (Nat × Nat × List Nat) := [(0, (11, [])), (1, (11, [0])), (2, (11, [0, 1])), (3, (11, [0, 1, 3])), (4, (11, [0, 1, 3])), (5, (11, [0, 1, 2, 3])), (6, (11, [0, 1, 3])), (7, (11, [0, 1]))]
def c97r0 : List Seg := [
 zo 11 (.fieldA 0 (.t 2)),
 zo 12 (.load1 (.t 11)),
 zo 13 (.fieldA 1 (.t 5)),
 zo 14 (.load1 (.t 13)),
 zo 15 (.bin .mul (.t 12) (.t 14)),
 zo 16 (.fieldA 0 (.t 3)),
 zo 17 (.load1 (.t 16)),
 zo 18 (.fieldA 0 (.t 5)),
 zo 19 (.load1 (.t 18)),
 zo 20 (.bin .mul (.t 17) (.t 19)),
 zo 21 (.bin .add (.t 15) (.t 20)),
 zo 22 (.fieldA 1 (.t 2)),
 zo 23 (.load1 (.t 22)),
 zo 24 (.fieldA 1 (.t 5)),
 zo 25 (.load1 (.t 24)),
 zo 26 (.bin .mul (.t 23) (.t 25)),
 zo 27 (.call [] (.c (.func 106 [])) [(.t 21), (.t 26)]),
 .one ⟨none, .storeN 2 (.t 4) (.t 27), none⟩]
def c97k0 : ICode := .kill 28 [2, 3, 4, 5] (.ops c97r0)
def c97s1 : ICode := (.seq c97k0 .ret)
def c97r2 : List Seg := [
 zo 6 (.fieldA 1 (.t 2)),
 zo 7 (.load1 (.t 6)),
 zo 8 (.fieldA 1 (.t 3)),
 zo 9 (.load1 (.t 8)),
 zo 10 (.call [] (.c (.func 106 [])) [(.t 7), (.t 9)]),
 zo 5 (.box (.c (.agg [.int .i64 0, .int .i64 0]))),
 .one ⟨none, .storeN 2 (.t 5) (.t 10), none⟩]
def c97k2 : ICode := .kill 28 [2, 3, 4] (.ops c97r2)
def c97s3 : ICode := (.seq c97k2 c97s1)
def c97r4 : List Seg := [
 zo 2 (.box (.t 0)),
 zo 3 (.box (.t 1)),
 zo 4 (.box (.c (.agg [.int .i64 0, .int .i64 0])))]
def c97k4 : ICode := .kill 28 [0, 1] (.ops c97r4)
def c97b : ICode := (.seq c97k4 c97s3)
def c97 : IFn := ⟨28, [.cellN 4 2], c97b⟩
def h97 : List (Nat × Nat × List Nat) := [(0, (28, [0, 1])), (1, (28, [2, 3, 4])), (2, (28, [2, 3, 4, 5]))]
def c98r0 : List Seg := [
 zm 68 7,
 zm 4 68]
def c98k0 : ICode := .kill 69 [7] (.ops c98r0)
def c98s1 : ICode := (.seq c98k0 .ret)
def c98r3 : List Seg := [
 zo 67 (.bin .add (.t 50) (.c (.int .i64 1))),
 zm 50 67]
def c98k3 : ICode := .kill 69 [1, 5, 7, 48, 49, 50] (.ops c98r3)
def c98r4 : List Seg := [
 zm 57 7,
 zm 58 10,
 zm 59 5,
 zm 60 9,
 zo 61 (.idxS 1 (.t 59) (.t 60)),
 zo 62 (.load1 (.t 61)),
 zm 63 1,
 zo 64 (.idxS 2 (.t 62) (.t 63)),
 zo 65 (.loadN 2 (.t 64)),
 zo 66 (.idxS 2 (.t 57) (.t 58)),
 .one ⟨none, .storeN 2 (.t 66) (.t 65), none⟩]
def c98k4 : ICode := .kill 69 [1, 5, 7, 9, 10, 48, 49, 50] (.ops c98r4)
def c98s5 : ICode := (.cond (.t 56) c98k4 .skip)
def c98r6 : List Seg := [
 zm 55 10,
 zo 56 (.bin .geq (.t 55) (.c (.int .i64 0)))]
def c98k6 : ICode := .kill 69 [1, 5, 7, 9, 10, 48, 49, 50] (.ops c98r6)
def c98s7 : ICode := (.seq c98k6 c98s5)
def c98r8 : List Seg := [
 zm 52 50,
 zo 53 (.idxS 1 (.t 48) (.t 50)),
 zo 54 (.load1 (.t 53)),
 zm 9 52,
 zm 10 54]
def c98k8 : ICode := .kill 69 [1, 5, 7, 48, 49, 50] (.ops c98r8)
def c98s9 : ICode := (.seq (.block 5 (.seq c98k8 c98s7)) c98k3)
def c98s10 : ICode := (.seq (.cond (.t 51) .skip (.exit 4)) c98s9)
def c98r11 : List Seg := [
 zo 51 (.bin .lss (.t 50) (.t 49))]
def c98k11 : ICode := .kill 69 [1, 5, 7, 48, 49, 50] (.ops c98r11)
def c98l2 : ICode := (.seq c98k11 c98s10)
def c98s12 : ICode := (.block 4 (.loop c98l2))
def c98r13 : List Seg := [
 zm 45 5,
 zm 46 1,
 zo 47 (.loadN 2 (.c (.ptr 0 0))),
 zo 48 (.call [] (.c (.func 64 [])) [(.t 45), (.t 46), (.t 47)]),
 zo 49 (.len 0 (.t 48)),
 zo 50 (.mv (.c (.int .i64 0)))]
def c98k13 : ICode := .kill 69 [1, 5, 7] (.ops c98r13)
def c98s14 : ICode := (.seq (.seq c98k13 c98s12) c98s1)
def c98r16 : List Seg := [
 zo 44 (.bin .add (.t 37) (.c (.int .i64 1))),
 zm 37 44]
def c98k16 : ICode := .kill 69 [1, 5, 7, 36, 37] (.ops c98r16)
def c98r17 : List Seg := [
 zm 40 7,
 zm 41 8,
 zo 42 (.loadN 2 (.c (.ptr 0 0))),
 zo 43 (.idxS 2 (.t 40) (.t 41)),
 .one ⟨none, .storeN 2 (.t 43) (.t 42), none⟩]
def c98k17 : ICode := .kill 69 [1, 5, 7, 8, 36, 37] (.ops c98r17)
def c98r18 : List Seg := [
 zm 39 37,
 zm 8 39]
def c98k18 : ICode := .kill 69 [1, 5, 7, 36, 37] (.ops c98r18)
def c98s19 : ICode := (.seq (.block 3 (.seq c98k18 c98k17)) c98k16)
def c98s20 : ICode := (.seq (.cond (.t 38) .skip (.exit 2)) c98s19)
def c98r21 : List Seg := [
 zo 38 (.bin .lss (.t 37) (.t 36))]
def c98k21 : ICode := .kill 69 [1, 5, 7, 36, 37] (.ops c98r21)
def c98l15 : ICode := (.seq c98k21 c98s20)
def c98s22 : ICode := (.block 2 (.loop c98l15))
def c98r23 : List Seg := [
 zm 35 7,
 zo 36 (.len 0 (.t 35)),
 zo 37 (.mv (.c (.int .i64 0)))]
def c98k23 : ICode := .kill 69 [1, 5, 7] (.ops c98r23)
def c98s24 : ICode := (.seq (.seq c98k23 c98s22) c98s14)
def c98r25 : List Seg := [
 zm 33 1,
 zo 34 (.make [.int .i64 0, .int .i64 0] 16 (.t 33) (.t 33)),
 zm 7 34]
def c98k25 : ICode := .kill 69 [1, 5] (.ops c98r25)
def c98s26 : ICode := (.seq c98k25 c98s24)
def c98r28 : List Seg := [
 zo 32 (.bin .add (.t 13) (.c (.int .i64 1))),
 zm 13 32]
def c98k28 : ICode := .kill 69 [0, 1, 5, 12, 13] (.ops c98r28)
def c98r29 : List Seg := [
 .grp [(zn 16 5, 0), (zn 17 0, 0), (zn 18 6, 0), (zp 19 (.idxS 22 (.t 17) (.t 18)), 6), (zn 20 1, 0), (zn 21 1, 0), (zp 22 (.sliceA 11 2 (.t 19) none (some (.t 20)) (some (.t 21))), 62), (zn 23 0, 0), (zn 24 6, 0), (zp 25 (.idxS 22 (.t 23) (.t 24)), 384), (zp 26 (.idxA 11 2 (.t 25) (.c (.int .i64 10))), 896), (zp 27 (.loadN 2 (.t 26)), 1920), (zp 28 (.mkslice 1 [.int .i64 0, .int .i64 0] [(0, 2, (.t 27))]), 3968), (zp 29 (.app 2 16 (.t 22) (.t 28)), 8190), (zp 30 (.mkslice 1 [.nilslice] [(0, 1, (.t 29))]), 16382)],
 zo 31 (.app 1 24 (.t 16) (.t 30)),
 zm 5 31]
def c98k29 : ICode := .kill 69 [0, 1, 5, 6, 12, 13] (.ops c98r29)
def c98r30 : List Seg := [
 zm 15 13,
 zm 6 15]
def c98k30 : ICode := .kill 69 [0, 1, 5, 12, 13] (.ops c98r30)
def c98s31 : ICode := (.seq (.block 1 (.seq c98k30 c98k29)) c98k28)
def c98s32 : ICode := (.seq (.cond (.t 14) .skip (.exit 0)) c98s31)
def c98r33 : List Seg := [
 zo 14 (.bin .lss (.t 13) (.t 12))]
def c98k33 : ICode := .kill 69 [0, 1, 5, 12, 13] (.ops c98r33)
def c98l27 : ICode := (.seq c98k33 c98s32)
def c98s34 : ICode := (.block 0 (.loop c98l27))
def c98r35 : List Seg := [
 zm 11 0,
 zo 12 (.len 0 (.t 11)),
 zo 13 (.mv (.c (.int .i64 0)))]
def c98k35 : ICode := .kill 69 [0, 1, 5] (.ops c98r35)
def c98s36 : ICode := (.seq (.seq c98k35 c98s34) c98s26)
def c98r37 : List Seg := [
 zo 5 (.mv (.c .nilslice))]
def c98k37 : ICode := .kill 69 [0, 1] (.ops c98r37)
def c98s38 : ICode := (.seq c98k37 c98s36)
def c98r39 : List Seg := [
 zo 4 (.mv (.c .nilslice))]
def c98k39 : ICode := .kill 69 [0, 1] (.ops c98r39)
def c98b : ICode := (.seq c98k39 c98s38)
def c98 : IFn := ⟨69, [.t 4], c98b⟩
def h98 : List (Nat × Nat × List Nat) := [(0, (69, [0, 1])), (1, (69, [0, 1])), (2, (69, [0, 1, 5])), (3, (69, [0, 1, 5, 12, 13])), (4, (69, [0, 1, 5, 12, 13])), (5, (69, [0, 1, 5, 6, 12, 13])), (6, (69, [0, 1, 5, 12, 13])), (7, (69, [1, 5])), (8, (69, [1, 5, 7])), (9, (69, [1, 5, 7, 36, 37])), (10, (69, [1, 5, 7, 36, 37])), (11, (69, [1, 5, 7, 8, 36, 37])), (12, (69, [1, 5, 7, 36, 37])), (13, (69, [1, 5, 7])), (14, (69, [1, 5, 7, 48, 49, 50])), (15, (69, [1, 5, 7, 48, 49, 50])), (16, (69, [1, 5, 7, 9, 10, 48, 49, 50])), (17, (69, [1, 5, 7, 9, 10, 48, 49, 50])), (18, (69, [1, 5, 7, 48, 49, 50])), (19, (69, [7]))]
def c99r0 : List Seg := [
 zo 17 (.fieldA 0 (.t 5)),
 zo 18 (.load1 (.t 17)),
 zo 19 (.fieldA 0 (.t 6)),
 zo 20 (.load1 (.t 19)),
 zo 21 (.bin .mul (.t 18) (.t 20)),
 zo 22 (.fieldA 1 (.t 5)),
 zo 23 (.load1 (.t 22)),
 zo 24 (.fieldA 1 (.t 6)),
 zo 25 (.load1 (.t 24)),
 zo 26 (.bin .mul (.t 23) (.t 25)),
 zo 27 (.mkagg [.int .i64 0, .int .i64 0] [(0, 1, (.t 21)), (1, 1, (.t 26))]),
 .one ⟨none, .storeN 2 (.t 4) (.t 27), none⟩]
def c99k0 : ICode := .kill 28 [4, 5, 6] (.ops c99r0)
def c99s1 : ICode := (.seq c99k0 .ret)
def c99r2 : List Seg := [
 .grp [(zp 7 (.fieldA 0 (.t 2)), 0), (zp 8 (.load1 (.t 7)), 1), (zp 9 (.fieldA 1 (.t 3)), 0), (zp 10 (.load1 (.t 9)), 4), (zp 11 (.call [] (.c (.func 106 [])) [(.t 8), (.t 10)]), 15), (zp 12 (.fieldA 0 (.t 3)), 0), (zp 13 (.load1 (.t 12)), 32), (zp 14 (.fieldA 1 (.t 2)), 0), (zp 15 (.load1 (.t 14)), 128), (zp 16 (.call [] (.c (.func 106 [])) [(.t 13), (.t 15)]), 511), (zp 5 (.box (.c (.agg [.int .i64 0, .int .i64 0]))), 0), (zp 6 (.box (.c (.agg [.int .i64 0, .int .i64 0]))), 0)],
 .one ⟨none, .storeN 2 (.t 5) (.t 11), none⟩,
 .one ⟨none, .storeN 2 (.t 6) (.t 16), none⟩]
def c99k2 : ICode := .kill 28 [2, 3, 4] (.ops c99r2)
def c99s3 : ICode := (.seq c99k2 c99s1)
def c99r4 : List Seg := [
 zo 2 (.box (.t 0)),
 zo 3 (.box (.t 1)),
 zo 4 (.box (.c (.agg [.int .i64 0, .int .i64 0])))]
def c99k4 : ICode := .kill 28 [0, 1] (.ops c99r4)
def c99b : ICode := (.seq c99k4 c99s3)
def c99 : IFn := ⟨28, [.cellN 4 2], c99b⟩
def h99 : List (Nat × Nat × List Nat) := [(0, (28, [0, 1])), (1, (28, [2, 3, 4])), (2, (28, [4, 5, 6]))]
def c100r0 : List Seg := [
 zm 18 0,
 zm 3 18]
def c100k0 : ICode := .kill 19 [0] (.ops c100r0)
def c100s1 : ICode := (.seq c100k0 .ret)
def c100r3 : List Seg := [
 zo 12 (.load1 (.t 1)),
 zm 13 0,
 zo 14 (.nilck (.t 12)),
 zo 15 (.fieldA 0 (.t 14)),
 zo 16 (.idxA 6 1 (.t 15) (.t 13)),
 zo 17 (.load1 (.t 16)),
 zm 0 17]
def c100k3 : ICode := .kill 19 [0, 1] (.ops c100r3)
def c100s4 : ICode := (.block 1 c100k3)
def c100s5 : ICode := (.cond (.t 11) .skip (.exit 0))
def c100r6 : List Seg := [
 zo 4 (.load1 (.t 1)),
 zm 5 0,
 zo 6 (.nilck (.t 4)),
 zo 7 (.fieldA 0 (.t 6)),
 zo 8 (.idxA 6 1 (.t 7) (.t 5)),
 zo 9 (.load1 (.t 8)),
 zm 10 0,
 zo 11 (.bin .neq (.t 9) (.t 10))]
def c100k6 : ICode := .kill 19 [0, 1] (.ops c100r6)
def c100l2 : ICode := (.seq (.seq c100k6 c100s5) c100s4)
def c100s7 : ICode := (.seq (.block 0 (.loop c100l2)) c100s1)
def c100r8 : List Seg := [
 zo 3 (.mv (.c (.int .i64 0)))]
def c100k8 : ICode := .kill 19 [0, 1] (.ops c100r8)
def c100b : ICode := (.seq c100k8 c100s7)
def c100 : IFn := ⟨19, [.t 3], c100b⟩
def h100 : List (Nat × Nat × List Nat) := [(0, (19, [0, 1])), (1, (19, [0, 1])), (2, (19, [0, 1])), (3, (19, [0]))]
def c101r0 : List Seg := [
 zo 4 (.mv (.c (.int .i64 (-1))))]
def c101k0 : ICode := .kill 19 [] (.ops c101r0)
def c101s1 : ICode := (.seq c101k0 .ret)
def c101r3 : List Seg := [
 zo 18 (.bin .add (.t 8) (.c (.int .i64 1))),
 zm 8 18]
def c101k3 : ICode := .kill 19 [0, 1, 7, 8] (.ops c101r3)
def c101r4 : List Seg := [
 zm 17 5,
 zm 4 17]
def c101k4 : ICode := .kill 19 [5] (.ops c101r4)
def c101s5 : ICode := (.cond (.t 16) (.seq c101k4 .ret) .skip)
def c101r6 : List Seg := [
 zm 11 1,
 zm 12 0,
 zm 13 5,
 zo 14 (.idxS 1 (.t 12) (.t 13)),
 zo 15 (.load1 (.t 14)),
 zo 16 (.bin .eql (.t 11) (.t 15))]
def c101k6 : ICode := .kill 19 [0, 1, 5, 7, 8] (.ops c101r6)
def c101s7 : ICode := (.seq c101k6 c101s5)
def c101r8 : List Seg := [
 zm 10 8,
 zm 5 10]
def c101k8 : ICode := .kill 19 [0, 1, 7, 8] (.ops c101r8)
def c101s9 : ICode := (.seq (.block 1 (.seq c101k8 c101s7)) c101k3)
def c101s10 : ICode := (.seq (.cond (.t 9) .skip (.exit 0)) c101s9)
def c101r11 : List Seg := [
 zo 9 (.bin .lss (.t 8) (.t 7))]
def c101k11 : ICode := .kill 19 [0, 1, 7, 8] (.ops c101r11)
def c101l2 : ICode := (.seq c101k11 c101s10)
def c101s12 : ICode := (.block 0 (.loop c101l2))
def c101r13 : List Seg := [
 zm 6 0,
 zo 7 (.len 0 (.t 6)),
 zo 8 (.mv (.c (.int .i64 0)))]
def c101k13 : ICode := .kill 19 [0, 1] (.ops c101r13)
def c101s14 : ICode := (.seq (.seq c101k13 c101s12) c101s1)
def c101r15 : List Seg := [
 zo 4 (.mv (.c (.int .i64 0)))]
def c101k15 : ICode := .kill 19 [0, 1] (.ops c101r15)
def c101b : ICode := (.seq c101k15 c101s14)
def c101 : IFn := ⟨19, [.t 4], c101b⟩
def h101 : List (Nat × Nat × List Nat) := [(0, (19, [0, 1])), (1, (19, [0, 1])), (2, (19, [0, 1, 7, 8])), (3, (19, [0, 1, 7, 8])), (4, (19, [0, 1, 5, 7, 8])), (5, (19, [5])), (6, (19, [0, 1, 7, 8])), (7, (19, []))]
def c102r0 : List Seg := [
 zo 17 (.loadN 2 (.t 3)),
 .one ⟨none, .storeN 2 (.t 2) (.t 17), none⟩]
def c102k0 : ICode := .kill 18 [2, 3] (.ops c102r0)
def c102s1 : ICode := (.seq c102k0 .ret)
def c102r3 : List Seg := [
 zo 16 (.bin .add (.t 9) (.c (.int .i64 1))),
 zm 9 16]
def c102k3 : ICode := .kill 18 [2, 3, 7, 8, 9] (.ops c102r3)
def c102r4 : List Seg := [
 zo 13 (.loadN 2 (.t 3)),
 zo 14 (.loadN 2 (.t 5)),
 zo 15 (.call [] (.c (.func 97 [])) [(.t 13), (.t 14)]),
 .one ⟨none, .storeN 2 (.t 3) (.t 15), none⟩]
def c102k4 : ICode := .kill 18 [2, 3, 5, 7, 8, 9] (.ops c102r4)
def c102r5 : List Seg := [
 zo 11 (.idxS 2 (.t 7) (.t 9)),
 zo 12 (.loadN 2 (.t 11)),
 zo 5 (.box (.c (.agg [.int .i64 0, .int .i64 0]))),
 .one ⟨none, .storeN 2 (.t 5) (.t 12), none⟩]
def c102k5 : ICode := .kill 18 [2, 3, 7, 8, 9] (.ops c102r5)
def c102s6 : ICode := (.seq (.block 1 (.seq c102k5 c102k4)) c102k3)
def c102s7 : ICode := (.seq (.cond (.t 10) .skip (.exit 0)) c102s6)
def c102r8 : List Seg := [
 zo 10 (.bin .lss (.t 9) (.t 8))]
def c102k8 : ICode := .kill 18 [2, 3, 7, 8, 9] (.ops c102r8)
def c102l2 : ICode := (.seq c102k8 c102s7)
def c102s9 : ICode := (.block 0 (.loop c102l2))
def c102r10 : List Seg := [
 zm 7 0,
 zo 8 (.len 0 (.t 7)),
 zo 9 (.mv (.c (.int .i64 0)))]
def c102k10 : ICode := .kill 18 [0, 2, 3] (.ops c102r10)
def c102s11 : ICode := (.seq (.seq c102k10 c102s9) c102s1)
def c102r12 : List Seg := [
 zo 6 (.loadN 2 (.c (.ptr 0 0))),
 zo 3 (.box (.c (.agg [.int .i64 0, .int .i64 0]))),
 .one ⟨none, .storeN 2 (.t 3) (.t 6), none⟩]
def c102k12 : ICode := .kill 18 [0, 2] (.ops c102r12)
def c102s13 : ICode := (.seq c102k12 c102s11)
def c102r14 : List Seg := [
 zo 2 (.box (.c (.agg [.int .i64 0, .int .i64 0])))]
def c102k14 : ICode := .kill 18 [0] (.ops c102r14)
def c102b : ICode := (.seq c102k14 c102s13)
def c102 : IFn := ⟨18, [.cellN 2 2], c102b⟩
def h102 : List (Nat × Nat × List Nat) := [(0, (18, [0])), (1, (18, [0, 2])), (2, (18, [0, 2, 3])), (3, (18, [2, 3, 7, 8, 9])), (4, (18, [2, 3, 7, 8, 9])), (5, (18, [2, 3, 5, 7, 8, 9])), (6, (18, [2, 3, 7, 8, 9])), (7, (18, [2, 3]))]
def c103r0 : List Seg := [
 zo 4 (.mv (.c (.int .i64 (-1))))]
def c103k0 : ICode := .kill 19 [] (.ops c103r0)
def c103s1 : ICode := (.seq c103k0 .ret)
def c103r3 : List Seg := [
 zo 18 (.bin .add (.t 8) (.c (.int .i64 1))),
 zm 8 18]
def c103k3 : ICode := .kill 19 [0, 1, 7, 8] (.ops c103r3)
def c103r4 : List Seg := [
 zm 17 5,
 zm 4 17]
def c103k4 : ICode := .kill 19 [5] (.ops c103r4)
def c103s5 : ICode := (.cond (.t 16) (.seq c103k4 .ret) .skip)
def c103r6 : List Seg := [
 zm 11 1,
 zm 12 0,
 zm 13 5,
 zo 14 (.idxS 1 (.t 12) (.t 13)),
 zo 15 (.load1 (.t 14)),
 zo 16 (.call [] (.t 11) [(.t 15)])]
def c103k6 : ICode := .kill 19 [0, 1, 5, 7, 8] (.ops c103r6)
def c103s7 : ICode := (.seq c103k6 c103s5)
def c103r8 : List Seg := [
 zm 10 8,
 zm 5 10]
def c103k8 : ICode := .kill 19 [0, 1, 7, 8] (.ops c103r8)
def c103s9 : ICode := (.seq (.block 1 (.seq c103k8 c103s7)) c103k3)
def c103s10 : ICode := (.seq (.cond (.t 9) .skip (.exit 0)) c103s9)
def c103r11 : List Seg := [
 zo 9 (.bin .lss (.t 8) (.t 7))]
def c103k11 : ICode := .kill 19 [0, 1, 7, 8] (.ops c103r11)
def c103l2 : ICode := (.seq c103k11 c103s10)
def c103s12 : ICode := (.block 0 (.loop c103l2))
def c103r13 : List Seg := [
 zm 6 0,
 zo 7 (.len 0 (.t 6)),
 zo 8 (.mv (.c (.int .i64 0)))]
def c103k13 : ICode := .kill 19 [0, 1] (.ops c103r13)
def c103s14 : ICode := (.seq (.seq c103k13 c103s12) c103s1)
def c103r15 : List Seg := [
 zo 4 (.mv (.c (.int .i64 0)))]
def c103k15 : ICode := .kill 19 [0, 1] (.ops c103r15)
def c103b : ICode := (.seq c103k15 c103s14)
def c103 : IFn := ⟨19, [.t 4], c103b⟩
def h103 : List (Nat × Nat × List Nat) := [(0, (19, [0, 1])), (1, (19, [0, 1])), (2, (19, [0, 1, 7, 8])), (3, (19, [0, 1, 7, 8])), (4, (19, [0, 1, 5, 7, 8])), (5, (19, [5])), (6, (19, [0, 1, 7, 8])), (7, (19, []))]
def c104r0 : List Seg := [
 zm 26 0,
 zm 4 26]
def c104k0 : ICode := .kill 27 [0] (.ops c104r0)
def c104s1 : ICode := (.seq c104k0 .ret)
def c104r2 : List Seg := [
 zm 17 0,
 zm 18 0,
 zo 19 (.cap (.t 18)),
 zo 20 (.sliceS 1 (.t 17) none (some (.t 19)) none),
 zm 21 1,
 zo 22 (.appz [.int .i64 0] (.t 20) (.t 21)),
 zm 23 0,
 zo 24 (.len 0 (.t 23)),
 zo 25 (.sliceS 1 (.t 22) none (some (.t 24)) none),
 zm 0 25]
def c104k2 : ICode := .kill 27 [0, 1] (.ops c104r2)
def c104s3 : ICode := (.cond (.t 16) c104k2 .skip)
def c104r4 : List Seg := [
 zm 15 1,
 zo 16 (.bin .gtr (.t 15) (.c (.int .i64 0)))]
def c104k4 : ICode := .kill 27 [0, 1] (.ops c104r4)
def c104s5 : ICode := (.seq c104k4 c104s3)
def c104r6 : List Seg := [
 zm 8 1,
 zm 9 0,
 zo 10 (.cap (.t 9)),
 zm 11 0,
 zo 12 (.len 0 (.t 11)),
 zo 13 (.bin .sub (.t 10) (.t 12)),
 zo 14 (.bin .sub (.t 8) (.t 13)),
 zm 1 14]
def c104k6 : ICode := .kill 27 [0, 1] (.ops c104r6)
def c104s7 : ICode := (.seq (.seq c104k6 c104s5) c104s1)
def c104r8 : List Seg := [
 .one ⟨some 7, .mkif 9 (.c (.str ⟨#[99, 97, 110, 110, 111, 116, 32, 98, 101, 32, 110, 101, 103, 97, 116, 105, 118, 101]⟩)), none⟩,
 .one ⟨none, .bad, none⟩]
def c104k8 : ICode := .kill 27 [0, 1] (.ops c104r8)
def c104s9 : ICode := (.cond (.t 6) c104k8 .skip)
def c104r10 : List Seg := [
 zm 5 1,
 zo 6 (.bin .lss (.t 5) (.c (.int .i64 0)))]
def c104k10 : ICode := .kill 27 [0, 1] (.ops c104r10)
def c104s11 : ICode := (.seq (.seq c104k10 c104s9) c104s7)
def c104r12 : List Seg := [
 zo 4 (.mv (.c .nilslice))]
def c104k12 : ICode := .kill 27 [0, 1] (.ops c104r12)
def c104b : ICode := (.seq c104k12 c104s11)
def c104 : IFn := ⟨27, [.t 4], c104b⟩
def h104 : List (Nat × Nat × List Nat) := [(0, (27, [0, 1])), (1, (27, [0, 1])), (2, (27, [0, 1])), (3, (27, [0, 1])), (4, (27, [0, 1])), (5, (27, [0, 1])), (6, (27, [0]))]
def c105r0 : List Seg := [
 zo 4 (.mv (.c (.int .i64 0)))]
def c105k0 : ICode := .kill 20 [] (.ops c105r0)
def c105s1 : ICode := (.seq c105k0 .ret)
def c105r2 : List Seg := [
 zo 4 (.mv (.c (.int .i64 1)))]
def c105k2 : ICode := .kill 20 [] (.ops c105r2)
def c105s3 : ICode := (.cond (.t 19) (.seq c105k2 .ret) .skip)
def c105r4 : List Seg := [
 zm 17 0,
 zm 18 1,
 zo 19 (.bin .gtr (.t 17) (.t 18))]
def c105k4 : ICode := .kill 20 [0, 1] (.ops c105r4)
def c105s5 : ICode := (.seq (.seq c105k4 c105s3) c105s1)
def c105r6 : List Seg := [
 zo 4 (.mv (.c (.int .i64 (-1))))]
def c105k6 : ICode := .kill 20 [] (.ops c105r6)
def c105s7 : ICode := (.cond (.t 16) (.seq c105k6 .ret) .skip)
def c105r8 : List Seg := [
 zm 14 0,
 zm 15 1,
 zo 16 (.bin .lss (.t 14) (.t 15))]
def c105k8 : ICode := .kill 20 [0, 1] (.ops c105r8)
def c105s9 : ICode := (.seq (.seq c105k8 c105s7) c105s5)
def c105r10 : List Seg := [
 zo 4 (.mv (.c (.int .i64 1)))]
def c105k10 : ICode := .kill 20 [] (.ops c105r10)
def c105s11 : ICode := (.cond (.t 13) (.seq c105k10 .ret) .skip)
def c105r12 : List Seg := [
 zm 13 6]
def c105k12 : ICode := .kill 20 [0, 1, 6] (.ops c105r12)
def c105s13 : ICode := (.seq (.seq c105k12 c105s11) c105s9)
def c105r14 : List Seg := [
 zo 4 (.mv (.c (.int .i64 (-1))))]
def c105k14 : ICode := .kill 20 [] (.ops c105r14)
def c105s15 : ICode := (.seq c105k14 .ret)
def c105r16 : List Seg := [
 zo 4 (.mv (.c (.int .i64 0)))]
def c105k16 : ICode := .kill 20 [] (.ops c105r16)
def c105s17 : ICode := (.cond (.t 12) (.seq c105k16 .ret) .skip)
def c105r18 : List Seg := [
 zm 12 6]
def c105k18 : ICode := .kill 20 [6] (.ops c105r18)
def c105s19 : ICode := (.cond (.t 11) (.seq (.seq c105k18 c105s17) c105s15) .skip)
def c105r20 : List Seg := [
 zm 11 5]
def c105k20 : ICode := .kill 20 [0, 1, 5, 6] (.ops c105r20)
def c105s21 : ICode := (.seq (.seq c105k20 c105s19) c105s13)
def c105r22 : List Seg := [
 zm 9 1,
 zo 10 (.call [] (.c (.func 107 [])) [(.t 9)]),
 zm 6 10]
def c105k22 : ICode := .kill 20 [0, 1, 5] (.ops c105r22)
def c105s23 : ICode := (.seq c105k22 c105s21)
def c105r24 : List Seg := [
 zm 7 0,
 zo 8 (.call [] (.c (.func 107 [])) [(.t 7)]),
 zm 5 8]
def c105k24 : ICode := .kill 20 [0, 1] (.ops c105r24)
def c105s25 : ICode := (.seq c105k24 c105s23)
def c105r26 : List Seg := [
 zo 4 (.mv (.c (.int .i64 0)))]
def c105k26 : ICode := .kill 20 [0, 1] (.ops c105r26)
def c105b : ICode := (.seq c105k26 c105s25)
def c105 : IFn := ⟨20, [.t 4], c105b⟩
def h105 : List (Nat × Nat × List Nat) := [(0, (20, [0, 1])), (1, (20, [0, 1])), (2, (20, [0, 1, 5])), (3, (20, [0, 1, 5, 6])), (4, (20, [6])), (5, (20, [])), (6, (20, [])), (7, (20, [0, 1, 6])), (8, (20, [])), (9, (20, [0, 1])), (10, (20, [])), (11, (20, [0, 1])), (12, (20, [])), (13, (20, []))]
def c106r0 : List Seg := [
 .grp [(zn 23 0, 0), (zn 24 5, 0), (zp 25 (.bin .quo (.t 23) (.t 24)), 3), (zn 26 1, 0), (zn 27 5, 0), (zp 28 (.bin .quo (.t 26) (.t 27)), 24)],
 zo 29 (.mkagg [.int .i64 0, .int .i64 0] [(0, 1, (.t 25)), (1, 1, (.t 28))]),
 .one ⟨none, .storeN 2 (.t 4) (.t 29), none⟩]
def c106k0 : ICode := .kill 30 [0, 1, 4, 5] (.ops c106r0)
def c106s1 : ICode := (.seq c106k0 .ret)
def c106r2 : List Seg := [
 zm 21 5,
 zo 22 (.un .neg (.t 21)),
 zm 5 22]
def c106k2 : ICode := .kill 30 [0, 1, 4, 5] (.ops c106r2)
def c106s3 : ICode := (.cond (.t 20) c106k2 .skip)
def c106r4 : List Seg := [
 zm 19 1,
 zo 20 (.bin .lss (.t 19) (.c (.int .i64 0)))]
def c106k4 : ICode := .kill 30 [0, 1, 4, 5] (.ops c106r4)
def c106s5 : ICode := (.seq (.seq c106k4 c106s3) c106s1)
def c106r6 : List Seg := [
 zm 17 5,
 zo 18 (.un .neg (.t 17)),
 zm 5 18]
def c106k6 : ICode := .kill 30 [0, 1, 4, 5] (.ops c106r6)
def c106s7 : ICode := (.cond (.t 16) c106k6 .skip)
def c106r8 : List Seg := [
 zm 15 5,
 zo 16 (.bin .lss (.t 15) (.c (.int .i64 0)))]
def c106k8 : ICode := .kill 30 [0, 1, 4, 5] (.ops c106r8)
def c106s9 : ICode := (.seq (.seq c106k8 c106s7) c106s5)
def c106r11 : List Seg := [
 .grp [(zn 11 6, 0), (zn 12 5, 0), (zn 13 6, 0), (zp 14 (.bin .rem (.t 12) (.t 13)), 6), (zn 5 11, 3)],
 zm 6 14]
def c106k11 : ICode := .kill 30 [0, 1, 4, 5, 6] (.ops c106r11)
def c106s12 : ICode := (.block 1 c106k11)
def c106s13 : ICode := (.cond (.t 10) .skip (.exit 0))
def c106r14 : List Seg := [
 zm 9 6,
 zo 10 (.bin .neq (.t 9) (.c (.int .i64 0)))]
def c106k14 : ICode := .kill 30 [0, 1, 4, 5, 6] (.ops c106r14)
def c106l10 : ICode := (.seq (.seq c106k14 c106s13) c106s12)
def c106s15 : ICode := (.seq (.block 0 (.loop c106l10)) c106s9)
def c106r16 : List Seg := [
 zm 7 0,
 zm 8 1,
 zm 5 7,
 zm 6 8]
def c106k16 : ICode := .kill 30 [0, 1, 4] (.ops c106r16)
def c106s17 : ICode := (.seq c106k16 c106s15)
def c106r18 : List Seg := [
 zo 4 (.box (.c (.agg [.int .i64 0, .int .i64 0])))]
def c106k18 : ICode := .kill 30 [0, 1] (.ops c106r18)
def c106b : ICode := (.seq c106k18 c106s17)
def c106 : IFn := ⟨30, [.cellN 4 2], c106b⟩
def h106 : List (Nat × Nat × List Nat) := [(0, (30, [0, 1])), (1, (30, [0, 1, 4])), (2, (30, [0, 1, 4, 5, 6])), (3, (30, [0, 1, 4, 5, 6])), (4, (30, [0, 1, 4, 5])), (5, (30, [0, 1, 4, 5])), (6, (30, [0, 1, 4, 5])), (7, (30, [0, 1, 4, 5])), (8, (30, [0, 1, 4, 5]))]
def c107r0 : List Seg := [
 zm 3 0,
 zm 4 0,
 zo 5 (.bin .neq (.t 3) (.t 4)),
 zm 2 5]
def c107k0 : ICode := .kill 6 [0] (.ops c107r0)
def c107s1 : ICode := (.seq c107k0 .ret)
def c107r2 : List Seg := [
 zo 2 (.mv (.c (.bool false)))]
def c107k2 : ICode := .kill 6 [0] (.ops c107r2)
def c107b : ICode := (.seq c107k2 c107s1)
def c107 : IFn := ⟨6, [.t 2], c107b⟩
def h107 : List (Nat × Nat × List Nat) := [(0, (6, [0])), (1, (6, [0]))]
def c123r0 : List Seg := [
 zo 17 (.loadN 2 (.t 2)),
 zo 18 (.fieldA 1 (.t 3)),
 zo 19 (.load1 (.t 18)),
 zo 20 (.fieldA 0 (.t 3)),
 zo 21 (.load1 (.t 20)),
 zo 22 (.mkagg [.int .i64 0, .int .i64 0] [(0, 1, (.t 19)), (1, 1, (.t 21))]),
 zo 23 (.call [] (.c (.func 99 [])) [(.t 17), (.t 22)]),
 .one ⟨none, .storeN 2 (.t 4) (.t 23), none⟩]
def c123k0 : ICode := .kill 24 [2, 3, 4] (.ops c123r0)
def c123s1 : ICode := (.seq c123k0 .ret)
def c123r2 : List Seg := [
 zo 8 (.loadN 2 (.t 2)),
 zo 9 (.fieldA 1 (.t 3)),
 zo 10 (.load1 (.t 9)),
 zo 11 (.un .neg (.t 10)),
 zo 12 (.fieldA 0 (.t 3)),
 zo 13 (.load1 (.t 12)),
 zo 14 (.un .neg (.t 13)),
 zo 15 (.mkagg [.int .i64 0, .int .i64 0] [(0, 1, (.t 11)), (1, 1, (.t 14))]),
 zo 16 (.call [] (.c (.func 99 [])) [(.t 8), (.t 15)]),
 .one ⟨none, .storeN 2 (.t 4) (.t 16), none⟩]
def c123k2 : ICode := .kill 24 [2, 3, 4] (.ops c123r2)
def c123s3 : ICode := (.cond (.t 7) (.seq c123k2 .ret) .skip)
def c123r4 : List Seg := [
 zo 5 (.fieldA 0 (.t 3)),
 zo 6 (.load1 (.t 5)),
 zo 7 (.bin .lss (.t 6) (.c (.int .i64 0)))]
def c123k4 : ICode := .kill 24 [2, 3, 4] (.ops c123r4)
def c123s5 : ICode := (.seq (.seq c123k4 c123s3) c123s1)
def c123r6 : List Seg := [
 zo 2 (.box (.t 0)),
 zo 3 (.box (.t 1)),
 zo 4 (.box (.c (.agg [.int .i64 0, .int .i64 0])))]
def c123k6 : ICode := .kill 24 [0, 1] (.ops c123r6)
def c123b : ICode := (.seq c123k6 c123s5)
def c123 : IFn := ⟨24, [.cellN 4 2], c123b⟩
def h123 : List (Nat × Nat × List Nat) := [(0, (24, [0, 1])), (1, (24, [2, 3, 4])), (2, (24, [2, 3, 4])), (3, (24, [2, 3, 4]))]
end Go.Abs

set_option maxRecDepth 20000
set_option maxHeartbeats 4000000
namespace Go.Abs
open Go.Proofs
def hintOf (l : List (Nat × Nat × List Nat)) (n : Nat) : Option (Nat × List Nat) := l.lookup n
def tabF : List (Nat × IFn) := [(16, c16), (17, c17), (19, c19), (21, c21), (22, c22), (23, c23), (24, c24), (26, c26), (27, c27), (28, c28), (33, c33), (36, c36), (38, c38), (39, c39), (40, c40), (41, c41), (44, c44), (47, c47), (50, c50), (51, c51), (58, c58), (59, c59), (60, c60), (62, c62), (63, c63), (64, c64), (66, c66), (67, c67), (68, c68), (69, c69), (70, c70), (74, c74), (75, c75), (76, c76), (77, c77), (78, c78), (79, c79), (80, c80), (81, c81), (82, c82), (83, c83), (84, c84), (85, c85), (90, c90), (91, c91), (92, c92), (93, c93), (94, c94), (95, c95), (96, c96), (97, c97), (98, c98), (99, c99), (100, c100), (101, c101), (102, c102), (103, c103), (104, c104), (105, c105), (106, c106), (107, c107), (123, c123)]
def F (n : Nat) : Option IFn := tabF.lookup n
theorem ok16 : cfn Tryd.prog [0] (hintOf h16) Tryd.f16 = some c16 := by kernel_rfl
theorem F16 : F 16 = some c16 := by kernel_rfl
theorem ok17 : cfn Tryd.prog [0] (hintOf h17) Tryd.f17 = some c17 := by kernel_rfl
theorem F17 : F 17 = some c17 := by kernel_rfl
theorem ok19 : cfn Tryd.prog [0] (hintOf h19) Tryd.f19 = some c19 := by kernel_rfl
theorem ok21 : cfn Tryd.prog [0] (hintOf h21) Tryd.f21 = some c21 := by kernel_rfl
theorem F21 : F 21 = some c21 := by kernel_rfl
theorem ok22 : cfn Tryd.prog [0] (hintOf h22) Tryd.f22 = some c22 := by kernel_rfl
theorem F22 : F 22 = some c22 := by kernel_rfl
theorem ok23 : cfn Tryd.prog [0] (hintOf h23) Tryd.f23 = some c23 := by kernel_rfl
theorem F23 : F 23 = some c23 := by kernel_rfl
theorem ok24 : cfn Tryd.prog [0] (hintOf h24) Tryd.f24 = some c24 := by kernel_rfl
theorem F24 : F 24 = some c24 := by kernel_rfl
theorem ok26 : cfn Tryd.prog [0] (hintOf h26) Tryd.f26 = some c26 := by kernel_rfl
theorem F26 : F 26 = some c26 := by kernel_rfl
theorem ok27 : cfn Tryd.prog [0] (hintOf h27) Tryd.f27 = some c27 := by kernel_rfl
theorem ok28 : cfn Tryd.prog [0] (hintOf h28) Tryd.f28 = some c28 := by kernel_rfl
theorem ok33 : cfn Tryd.prog [0] (hintOf h33) Tryd.f33 = some c33 := by kernel_rfl
theorem F33 : F 33 = some c33 := by kernel_rfl
theorem ok36 : cfn Tryd.prog [0] (hintOf h36) Tryd.f36 = some c36 := by kernel_rfl
theorem F36 : F 36 = some c36 := by kernel_rfl
theorem ok38 : cfn Tryd.prog [0] (hintOf h38) Tryd.f38 = some c38 := by kernel_rfl
theorem F38 : F 38 = some c38 := by kernel_rfl
theorem ok39 : cfn Tryd.prog [0] (hintOf h39) Tryd.f39 = some c39 := by kernel_rfl
theorem F39 : F 39 = some c39 := by kernel_rfl
theorem ok40 : cfn Tryd.prog [0] (hintOf h40) Tryd.f40 = some c40 := by kernel_rfl
theorem F40 : F 40 = some c40 := by kernel_rfl
theorem ok41 : cfn Tryd.prog [0] (hintOf h41) Tryd.f41 = some c41 := by kernel_rfl
theorem F41 : F 41 = some c41 := by kernel_rfl
theorem ok44 : cfn Tryd.prog [0] (hintOf h44) Tryd.f44 = some c44 := by kernel_rfl
theorem F44 : F 44 = some c44 := by kernel_rfl
theorem ok47 : cfn Tryd.prog [0] (hintOf h47) Tryd.f47 = some c47 := by kernel_rfl
theorem F47 : F 47 = some c47 := by kernel_rfl
theorem ok50 : cfn Tryd.prog [0] (hintOf h50) Tryd.f50 = some c50 := by kernel_rfl
theorem F50 : F 50 = some c50 := by kernel_rfl
theorem ok51 : cfn Tryd.prog [0] (hintOf h51) Tryd.f51 = some c51 := by kernel_rfl
theorem F51 : F 51 = some c51 := by kernel_rfl
theorem ok58 : cfn Tryd.prog [0] (hintOf h58) Tryd.f58 = some c58 := by kernel_rfl
theorem F58 : F 58 = some c58 := by kernel_rfl
theorem ok59 : cfn Tryd.prog [0] (hintOf h59) Tryd.f59 = some c59 := by kernel_rfl
theorem F59 : F 59 = some c59 := by kernel_rfl
theorem ok60 : cfn Tryd.prog [0] (hintOf h60) Tryd.f60 = some c60 := by kernel_rfl
theorem F60 : F 60 = some c60 := by kernel_rfl
theorem ok62 : cfn Tryd.prog [0] (hintOf h62) Tryd.f62 = some c62 := by kernel_rfl
theorem F62 : F 62 = some c62 := by kernel_rfl
theorem ok63 : cfn Tryd.prog [0] (hintOf h63) Tryd.f63 = some c63 := by kernel_rfl
theorem ok64 : cfn Tryd.prog [0] (hintOf h64) Tryd.f64 = some c64 := by kernel_rfl
theorem ok66 : cfn Tryd.prog [0] (hintOf h66) Tryd.f66 = some c66 := by kernel_rfl
theorem F66 : F 66 = some c66 := by kernel_rfl
theorem ok67 : cfn Tryd.prog [0] (hintOf h67) Tryd.f67 = some c67 := by kernel_rfl
theorem F67 : F 67 = some c67 := by kernel_rfl
theorem ok68 : cfn Tryd.prog [0] (hintOf h68) Tryd.f68 = some c68 := by kernel_rfl
theorem ok69 : cfn Tryd.prog [0] (hintOf h69) Tryd.f69 = some c69 := by kernel_rfl
theorem ok70 : cfn Tryd.prog [0] (hintOf h70) Tryd.f70 = some c70 := by kernel_rfl
theorem ok74 : cfn Tryd.prog [0] (hintOf h74) Tryd.f74 = some c74 := by kernel_rfl
theorem F74 : F 74 = some c74 := by kernel_rfl
theorem ok75 : cfn Tryd.prog [0] (hintOf h75) Tryd.f75 = some c75 := by kernel_rfl
theorem F75 : F 75 = some c75 := by kernel_rfl
theorem ok76 : cfn Tryd.prog [0] (hintOf h76) Tryd.f76 = some c76 := by kernel_rfl
theorem ok77 : cfn Tryd.prog [0] (hintOf h77) Tryd.f77 = some c77 := by kernel_rfl
theorem F77 : F 77 = some c77 := by kernel_rfl
theorem ok78 : cfn Tryd.prog [0] (hintOf h78) Tryd.f78 = some c78 := by kernel_rfl
theorem ok79 : cfn Tryd.prog [0] (hintOf h79) Tryd.f79 = some c79 := by kernel_rfl
theorem ok80 : cfn Tryd.prog [0] (hintOf h80) Tryd.f80 = some c80 := by kernel_rfl
theorem ok81 : cfn Tryd.prog [0] (hintOf h81) Tryd.f81 = some c81 := by kernel_rfl
theorem ok82 : cfn Tryd.prog [0] (hintOf h82) Tryd.f82 = some c82 := by kernel_rfl
theorem ok83 : cfn Tryd.prog [0] (hintOf h83) Tryd.f83 = some c83 := by kernel_rfl
theorem F83 : F 83 = some c83 := by kernel_rfl
theorem ok84 : cfn Tryd.prog [0] (hintOf h84) Tryd.f84 = some c84 := by kernel_rfl
theorem ok85 : cfn Tryd.prog [0] (hintOf h85) Tryd.f85 = some c85 := by kernel_rfl
theorem ok90 : cfn Tryd.prog [0] (hintOf h90) Tryd.f90 = some c90 := by kernel_rfl
theorem F90 : F 90 = some c90 := by kernel_rfl
theorem ok91 : cfn Tryd.prog [0] (hintOf h91) Tryd.f91 = some c91 := by kernel_rfl
theorem F91 : F 91 = some c91 := by kernel_rfl
theorem ok92 : cfn Tryd.prog [0] (hintOf h92) Tryd.f92 = some c92 := by kernel_rfl
theorem F92 : F 92 = some c92 := by kernel_rfl
theorem ok93 : cfn Tryd.prog [0] (hintOf h93) Tryd.f93 = some c93 := by kernel_rfl
theorem F93 : F 93 = some c93 := by kernel_rfl
theorem ok94 : cfn Tryd.prog [0] (hintOf h94) Tryd.f94 = some c94 := by kernel_rfl
theorem F94 : F 94 = some c94 := by kernel_rfl
theorem ok95 : cfn Tryd.prog [0] (hintOf h95) Tryd.f95 = some c95 := by kernel_rfl
theorem ok96 : cfn Tryd.prog [0] (hintOf h96) Tryd.f96 = some c96 := by kernel_rfl
theorem ok97 : cfn Tryd.prog [0] (hintOf h97) Tryd.f97 = some c97 := by kernel_rfl
theorem ok98 : cfn Tryd.prog [0] (hintOf h98) Tryd.f98 = some c98 := by kernel_rfl
theorem ok99 : cfn Tryd.prog [0] (hintOf h99) Tryd.f99 = some c99 := by kernel_rfl
theorem ok100 : cfn Tryd.prog [0] (hintOf h100) Tryd.f100 = some c100 := by kernel_rfl
theorem ok101 : cfn Tryd.prog [0] (hintOf h101) Tryd.f101 = some c101 := by kernel_rfl
theorem ok102 : cfn Tryd.prog [0] (hintOf h102) Tryd.f102 = some c102 := by kernel_rfl
theorem ok103 : cfn Tryd.prog [0] (hintOf h103) Tryd.f103 = some c103 := by kernel_rfl
theorem F103 : F 103 = some c103 := by kernel_rfl
theorem ok104 : cfn Tryd.prog [0] (hintOf h104) Tryd.f104 = some c104 := by kernel_rfl
theorem ok105 : cfn Tryd.prog [0] (hintOf h105) Tryd.f105 = some c105 := by kernel_rfl
theorem F105 : F 105 = some c105 := by kernel_rfl
theorem ok106 : cfn Tryd.prog [0] (hintOf h106) Tryd.f106 = some c106 := by kernel_rfl
theorem ok107 : cfn Tryd.prog [0] (hintOf h107) Tryd.f107 = some c107 := by kernel_rfl
theorem F107 : F 107 = some c107 := by kernel_rfl
theorem ok123 : cfn Tryd.prog [0] (hintOf h123) Tryd.f123 = some c123 := by kernel_rfl
def OKp (p : Nat × IFn) : Prop := ∃ func hint, Tryd.prog.funcs[p.1]? = some func ∧ cfn Tryd.prog [0] hint func = some p.2 ∧ (func.name == "runtime.NumGoroutine") = false
theorem okp16 : OKp (16, c16) := ⟨_, _, Tryd.func16, ok16, by kernel_rfl⟩
theorem okp17 : OKp (17, c17) := ⟨_, _, Tryd.func17, ok17, by kernel_rfl⟩
theorem okp19 : OKp (19, c19) := ⟨_, _, Tryd.func19, ok19, by kernel_rfl⟩
theorem okp21 : OKp (21, c21) := ⟨_, _, Tryd.func21, ok21, by kernel_rfl⟩
theorem okp22 : OKp (22, c22) := ⟨_, _, Tryd.func22, ok22, by kernel_rfl⟩
theorem okp23 : OKp (23, c23) := ⟨_, _, Tryd.func23, ok23, by kernel_rfl⟩
theorem okp24 : OKp (24, c24) := ⟨_, _, Tryd.func24, ok24, by kernel_rfl⟩
theorem okp26 : OKp (26, c26) := ⟨_, _, Tryd.func26, ok26, by kernel_rfl⟩
theorem okp27 : OKp (27, c27) := ⟨_, _, Tryd.func27, ok27, by kernel_rfl⟩
theorem okp28 : OKp (28, c28) := ⟨_, _, Tryd.func28, ok28, by kernel_rfl⟩
theorem okp33 : OKp (33, c33) := ⟨_, _, Tryd.func33, ok33, by kernel_rfl⟩
theorem okp36 : OKp (36, c36) := ⟨_, _, Tryd.func36, ok36, by kernel_rfl⟩
theorem okp38 : OKp (38, c38) := ⟨_, _, Tryd.func38, ok38, by kernel_rfl⟩
theorem okp39 : OKp (39, c39) := ⟨_, _, Tryd.func39, ok39, by kernel_rfl⟩
theorem okp40 : OKp (40, c40) := ⟨_, _, Tryd.func40, ok40, by kernel_rfl⟩
theorem okp41 : OKp (41, c41) := ⟨_, _, Tryd.func41, ok41, by kernel_rfl⟩
theorem okp44 : OKp (44, c44) := ⟨_, _, Tryd.func44, ok44, by kernel_rfl⟩
theorem okp47 : OKp (47, c47) := ⟨_, _, Tryd.func47, ok47, by kernel_rfl⟩
theorem okp50 : OKp (50, c50) := ⟨_, _, Tryd.func50, ok50, by kernel_rfl⟩
theorem okp51 : OKp (51, c51) := ⟨_, _, Tryd.func51, ok51, by kernel_rfl⟩
theorem okp58 : OKp (58, c58) := ⟨_, _, Tryd.func58, ok58, by kernel_rfl⟩
theorem okp59 : OKp (59, c59) := ⟨_, _, Tryd.func59, ok59, by kernel_rfl⟩
theorem okp60 : OKp (60, c60) := ⟨_, _, Tryd.func60, ok60, by kernel_rfl⟩
theorem okp62 : OKp (62, c62) := ⟨_, _, Tryd.func62, ok62, by kernel_rfl⟩
theorem okp63 : OKp (63, c63) := ⟨_, _, Tryd.func63, ok63, by kernel_rfl⟩
theorem okp64 : OKp (64, c64) := ⟨_, _, Tryd.func64, ok64, by kernel_rfl⟩
theorem okp66 : OKp (66, c66) := ⟨_, _, Tryd.func66, ok66, by kernel_rfl⟩
theorem okp67 : OKp (67, c67) := ⟨_, _, Tryd.func67, ok67, by kernel_rfl⟩
theorem okp68 : OKp (68, c68) := ⟨_, _, Tryd.func68, ok68, by kernel_rfl⟩
theorem okp69 : OKp (69, c69) := ⟨_, _, Tryd.func69, ok69, by kernel_rfl⟩
theorem okp70 : OKp (70, c70) := ⟨_, _, Tryd.func70, ok70, by kernel_rfl⟩
theorem okp74 : OKp (74, c74) := ⟨_, _, Tryd.func74, ok74, by kernel_rfl⟩
theorem okp75 : OKp (75, c75) := ⟨_, _, Tryd.func75, ok75, by kernel_rfl⟩
theorem okp76 : OKp (76, c76) := ⟨_, _, Tryd.func76, ok76, by kernel_rfl⟩
theorem okp77 : OKp (77, c77) := ⟨_, _, Tryd.func77, ok77, by kernel_rfl⟩
theorem okp78 : OKp (78, c78) := ⟨_, _, Tryd.func78, ok78, by kernel_rfl⟩
theorem okp79 : OKp (79, c79) := ⟨_, _, Tryd.func79, ok79, by kernel_rfl⟩
theorem okp80 : OKp (80, c80) := ⟨_, _, Tryd.func80, ok80, by kernel_rfl⟩
theorem okp81 : OKp (81, c81) := ⟨_, _, Tryd.func81, ok81, by kernel_rfl⟩
theorem okp82 : OKp (82, c82) := ⟨_, _, Tryd.func82, ok82, by kernel_rfl⟩
theorem okp83 : OKp (83, c83) := ⟨_, _, Tryd.func83, ok83, by kernel_rfl⟩
theorem okp84 : OKp (84, c84) := ⟨_, _, Tryd.func84, ok84, by kernel_rfl⟩
theorem okp85 : OKp (85, c85) := ⟨_, _, Tryd.func85, ok85, by kernel_rfl⟩
theorem okp90 : OKp (90, c90) := ⟨_, _, Tryd.func90, ok90, by kernel_rfl⟩
theorem okp91 : OKp (91, c91) := ⟨_, _, Tryd.func91, ok91, by kernel_rfl⟩
theorem okp92 : OKp (92, c92) := ⟨_, _, Tryd.func92, ok92, by kernel_rfl⟩
theorem okp93 : OKp (93, c93) := ⟨_, _, Tryd.func93, ok93, by kernel_rfl⟩
theorem okp94 : OKp (94, c94) := ⟨_, _, Tryd.func94, ok94, by kernel_rfl⟩
theorem okp95 : OKp (95, c95) := ⟨_, _, Tryd.func95, ok95, by kernel_rfl⟩
theorem okp96 : OKp (96, c96) := ⟨_, _, Tryd.func96, ok96, by kernel_rfl⟩
theorem okp97 : OKp (97, c97) := ⟨_, _, Tryd.func97, ok97, by kernel_rfl⟩
theorem okp98 : OKp (98, c98) := ⟨_, _, Tryd.func98, ok98, by kernel_rfl⟩
theorem okp99 : OKp (99, c99) := ⟨_, _, Tryd.func99, ok99, by kernel_rfl⟩
theorem okp100 : OKp (100, c100) := ⟨_, _, Tryd.func100, ok100, by kernel_rfl⟩
theorem okp101 : OKp (101, c101) := ⟨_, _, Tryd.func101, ok101, by kernel_rfl⟩
theorem okp102 : OKp (102, c102) := ⟨_, _, Tryd.func102, ok102, by kernel_rfl⟩
theorem okp103 : OKp (103, c103) := ⟨_, _, Tryd.func103, ok103, by kernel_rfl⟩
theorem okp104 : OKp (104, c104) := ⟨_, _, Tryd.func104, ok104, by kernel_rfl⟩
theorem okp105 : OKp (105, c105) := ⟨_, _, Tryd.func105, ok105, by kernel_rfl⟩
theorem okp106 : OKp (106, c106) := ⟨_, _, Tryd.func106, ok106, by kernel_rfl⟩
theorem okp107 : OKp (107, c107) := ⟨_, _, Tryd.func107, ok107, by kernel_rfl⟩
theorem okp123 : OKp (123, c123) := ⟨_, _, Tryd.func123, ok123, by kernel_rfl⟩
theorem okAll : ∀ p ∈ tabF, OKp p := by
 unfold tabF
 exact List.forall_mem_cons.2 ⟨okp16, List.forall_mem_cons.2 ⟨okp17, List.forall_mem_cons.2 ⟨okp19, List.forall_mem_cons.2 ⟨okp21, List.forall_mem_cons.2 ⟨okp22, List.forall_mem_cons.2 ⟨okp23, List.forall_mem_cons.2 ⟨okp24, List.forall_mem_cons.2 ⟨okp26, List.forall_mem_cons.2 ⟨okp27, List.forall_mem_cons.2 ⟨okp28, List.forall_mem_cons.2 ⟨okp33, List.forall_mem_cons.2 ⟨okp36, List.forall_mem_cons.2 ⟨okp38, List.forall_mem_cons.2 ⟨okp39, List.forall_mem_cons.2 ⟨okp40, List.forall_mem_cons.2 ⟨okp41, List.forall_mem_cons.2 ⟨okp44, List.forall_mem_cons.2 ⟨okp47, List.forall_mem_cons.2 ⟨okp50, List.forall_mem_cons.2 ⟨okp51, List.forall_mem_cons.2 ⟨okp58, List.forall_mem_cons.2 ⟨okp59, List.forall_mem_cons.2 ⟨okp60, List.forall_mem_cons.2 ⟨okp62, List.forall_mem_cons.2 ⟨okp63, List.forall_mem_cons.2 ⟨okp64, List.forall_mem_cons.2 ⟨okp66, List.forall_mem_cons.2 ⟨okp67, List.forall_mem_cons.2 ⟨okp68, List.forall_mem_cons.2 ⟨okp69, List.forall_mem_cons.2 ⟨okp70, List.forall_mem_cons.2 ⟨okp74, List.forall_mem_cons.2 ⟨okp75, List.forall_mem_cons.2 ⟨okp76, List.forall_mem_cons.2 ⟨okp77, List.forall_mem_cons.2 ⟨okp78, List.forall_mem_cons.2 ⟨okp79, List.forall_mem_cons.2 ⟨okp80, List.forall_mem_cons.2 ⟨okp81, List.forall_mem_cons.2 ⟨okp82, List.forall_mem_cons.2 ⟨okp83, List.forall_mem_cons.2 ⟨okp84, List.forall_mem_cons.2 ⟨okp85, List.forall_mem_cons.2 ⟨okp90, List.forall_mem_cons.2 ⟨okp91, List.forall_mem_cons.2 ⟨okp92, List.forall_mem_cons.2 ⟨okp93, List.forall_mem_cons.2 ⟨okp94, List.forall_mem_cons.2 ⟨okp95, List.forall_mem_cons.2 ⟨okp96, List.forall_mem_cons.2 ⟨okp97, List.forall_mem_cons.2 ⟨okp98, List.forall_mem_cons.2 ⟨okp99, List.forall_mem_cons.2 ⟨okp100, List.forall_mem_cons.2 ⟨okp101, List.forall_mem_cons.2 ⟨okp102, List.forall_mem_cons.2 ⟨okp103, List.forall_mem_cons.2 ⟨okp104, List.forall_mem_cons.2 ⟨okp105, List.forall_mem_cons.2 ⟨okp106, List.forall_mem_cons.2 ⟨okp107, List.forall_mem_cons.2 ⟨okp123, (fun _ h => nomatch h)⟩⟩⟩⟩⟩⟩⟩⟩⟩⟩⟩⟩⟩⟩⟩⟩⟩⟩⟩⟩⟩⟩⟩⟩⟩⟩⟩⟩⟩⟩⟩⟩⟩⟩⟩⟩⟩⟩⟩⟩⟩⟩⟩⟩⟩⟩⟩⟩⟩⟩⟩⟩⟩⟩⟩⟩⟩⟩⟩⟩⟩⟩
end Go.Abs

set_option linter.unusedSimpArgs false
namespace Go.Abs
open Go.Proofs Go.RowKit
theorem lookup_mem {α : Type} {n : Nat} {c : α} : ∀ {l : List (Nat × α)}, l.lookup n = some c → (n, c) ∈ l
 | [], h => by simp at h
 |
  (m, d) :: l, h => by
  rw [List.lookup_cons] at h
  split at h
  ·rename_i e
   injection h with h
   subst h
   rw [beq_iff_eq] at e
   subst e
   exact List.mem_cons_self
  ·exact List.mem_cons_of_mem _ (lookup_mem h)
theorem fnOK_F : FnOK Tryd.prog [0] F := fun f fn h => okAll (f, fn) (lookup_mem h)
theorem fnOK_more {i : Nat} {c : IFn} (h : OKp (i, c)) : FnOK Tryd.prog [0] (more F i c) := by
 intro f fn e
 unfold more at e
 by_cases e2 : f = i
 ·rw [if_pos e2] at e
  have e3 := Option.some.inj e
  rw [← e3, e2]
  exact h
 ·rw [if_neg e2] at e
  exact fnOK_F f fn e

theorem calls_below {G : Nat → Option IFn} (hG : FnOK Tryd.prog [0] G) {f : Nat} {vs : List AV} {rows : List Row} (h : Ret G f vs rows = some (.bool true, rows, none)) {θ : Th} {w : World} {args : Array Value} (hr : HRel (KP Tryd.prog [0]) θ rows w) (hg : GRel θ [0]) (hv : VL θ vs args.toList) :
  Calls Tryd.prog f args w fun e w' => e = .returned (.bool true) ∧ Below w.heap.size w w' := by
 obtain ⟨n, hn⟩ := Ret_iff.1 h
 refine (call_sound hG (n := n) hn hr hg hv).mono ?_
 rintro e w' ⟨θ', v', rfl, hV, fr⟩
 cases hV
 refine ⟨rfl, fr.os, fr.tape, fr.output, fr.size, fun b hb => ?_⟩
 refine fr.keepB b hb fun id r L hr _ hle _ => ?_
 have := rows_lt hr
 simp only [lowO] at hle
 omega
end Go.Abs

set_option maxRecDepth 10000
namespace Go.Abs
open Go.Proofs Go.RowKit Go.ChangeShapes Go.WideShapes Go.ChangeAt Go.WideElems
open Go.Proofs.YtichbmhjgbjiiaaDoor (Rows.laid_tosher_slope_none)
def laidL : List (String × DataW Unit) := [("tosher/slope.none", Rows.laid_tosher_slope_none)]
def gRows : List Row := [.ro (nums .i64 [0, 1])]
theorem g0 : Tryd.prog.globalNamed "tosher/slope.none" = some 0 := by kernel_rfl
theorem ty0 : (Tryd.prog.globals[0]?).map (·.type) = some 86 := by kernel_rfl
theorem frac_cells {P : Program} {W : World} {H : Type} {enc : TypeId × Value → H} {base : Nat} {spare held : _} {fuel t : Nat} {fs : Array Field} {a b : Field} {cs : List Value} {x y : Int} {q : _} (ht : P.underlying t = some (.struct fs)) (hf0 : fs[0]? = some a) (hf1 : fs[1]? = some b) (ha : P.underlying a.type = some (.int .i64)) (hb : P.underlying b.type = some (.int .i64)) (hca : P.cellsOf a.type = 1) (hcb : P.cellsOf b.type = 1) (hoa : a.offset = 0) (hob : b.offset = 1)
  (h : DataW.trod enc P W base spare held fuel t cs = some (.agg [.lit (.int .i64 x), .lit (.int .i64 y)], q)) : cs[0]? = some (.int .i64 x) ∧ cs[1]? = some (.int .i64 y) := by
 obtain ⟨xs, m, rfl, hx1, hlen, hn, hel⟩ := DataW.trod_struct ht h
 have h0 := hel 0 a hf0
 have h1 := hel 1 b hf1
 rw [hca, hoa] at h0
 rw [hcb, hob] at h1
 simp only [Prod.mk.injEq, DataW.agg.injEq] at hx1
 have e : xs.map (·.1) = [.lit (.int .i64 x), .lit (.int .i64 y)] := hx1.1.symm
 have e0 : (xs.map (·.1))[0]? = some (.lit (.int .i64 x)) := by rw [e]; rfl
 have e1 : (xs.map (·.1))[1]? = some (.lit (.int .i64 y)) := by rw [e]; rfl
 rw [List.getElem?_map] at e0 e1
 obtain ⟨u, hu, hu2⟩ := Option.map_eq_some_iff.1 e0
 obtain ⟨v, hv, hv2⟩ := Option.map_eq_some_iff.1 e1
 rw [hu] at h0
 rw [hv] at h1
 obtain ⟨k0, c0, d0, _⟩ := DataW.trod_int ha h0
 obtain ⟨k1, c1, d1, _⟩ := DataW.trod_int hb h1
 rw [d0] at hu2
 rw [d1] at hv2
 simp only [DataW.lit.injEq, Lit.int.injEq, true_and] at hu2 hv2
 subst hu2 hv2
 cases cs with
 | nil => simp at c0
 |
  cons z cs =>
  cases cs with
  | nil => simp at c1
  |
   cons w cs =>
   simp at c0 c1
   subst c0 c1
   exact ⟨rfl, rfl⟩
theorem of_laid {W : World} (h : laidMetH Tryd.prog laidL W) : W.cell? ⟨0, 0, none⟩ = some (.int .i64 0) ∧ W.cell? ⟨0, 1, none⟩ = some (.int .i64 1) ∧ 0 < W.heap.size := by
 rw [MakeChecks.laidMetH_plain _ _ _ (by kernel_rfl)] at h
 obtain ⟨ps, ⟨b0, u0, cs0, f0, p0, q0, hg0, ht0, hv0, hd0, _, _⟩, _, _⟩ := h
 obtain rfl := Option.some.inj (g0.symm.trans hg0)
 obtain rfl := Option.some.inj (ty0.symm.trans ht0)
 obtain ⟨k0, k1⟩ := frac_cells Tryd.underlying86 rfl rfl Tryd.underlying2 Tryd.underlying2 (by kernel_rfl) (by kernel_rfl) rfl rfl hd0
 have h0 : W.cell? ⟨0, 0, none⟩ = some (.int .i64 0) := by
  rw [World.var?_cell hg0 hv0 0]
  simpa using k0
 refine ⟨h0, ?_, ?_⟩
 ·rw [World.var?_cell hg0 hv0 1]
  simpa using k1
 ·unfold World.cell? at h0
  by_cases h : 0 < W.heap.size
  ·exact h
  ·rw [show W.heap[0]? = none from Array.getElem?_eq_none (by omega)] at h0
   simp at h0
def gTh : Th := fun id => if id = 0 then some ⟨0, 0, 0⟩ else none
theorem gHRel {κ : KRel} {W : World} (h : laidMetH Tryd.prog laidL W) : HRel κ gTh gRows W := by
 obtain ⟨h0, h1, hs⟩ := of_laid h
 refine ⟨?_, ?_, ?_, ?_⟩
 ·intro id L e
  unfold gTh at e
  simp only [gRows, List.length_cons, List.length_nil]
  split at e
  ·omega
  ·simp at e
 ·intro id L e
  unfold gTh at e
  split at e
  ·injection e with e; subst e; exact hs
  ·simp at e
 ·intro id r e
  match id, e with
  |
   0, e =>
   injection e with e; subst e
   refine ⟨⟨0, 0, 0⟩, rfl, fun j x hx => ?_⟩
   match j, hx with
   | 0, hx => injection hx with hx; subst hx; exact ⟨_, h0, .int _ _, rfl⟩
   | 1, hx => injection hx with hx; subst hx; exact ⟨_, h1, .int _ _, rfl⟩
   | j + 2, hx => simp [nums] at hx
  | n + 1, e => simp [gRows] at e
 ·intro i j r s L L' hij hr ho
  match i, hr with
  | 0, hr => injection hr with hr; subst hr; simp [Row.owned] at ho
  | n + 1, hr => simp [gRows] at hr
theorem door_met (os : Os) (args : Array Value) : laidMetH Tryd.prog laidL ((World.doorLaid Tryd.prog 400 os).forCall (fun _ _ => 0) ⟨#[], args, []⟩).memory :=
 laidMetH_of_parts3 (fuel := 8) (laidMet_of_run' 8 (by kernel_rfl) (by kernel_rfl)) (by kernel_rfl) (by kernel_rfl)
end Go.Abs

