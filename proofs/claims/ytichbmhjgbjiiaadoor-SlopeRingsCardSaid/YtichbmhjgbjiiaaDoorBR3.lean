/- The texts that the row uses, part 3. -/
import Derived.Test.YtichbmhjgbjiiaaDoorBR2
import Derived.AtR
import Derived.Orders
import Derived.KernelRfl
import Derived.Laws.Cells
import Derived.Laws.CopyRow
import Derived.Laws.Append
import Derived.Laws.AppendOwn
import Derived.Laws.Entries
import Derived.ArgAppend
import Derived.ChangeKeysEq
import Derived.WideLaws
import Derived.Laws.Small
import Derived.Laws.StructEq
import Derived.Laws.Cover3
import Derived.Laws.Tables
import Derived.Laws.Rows
import Derived.Below
import Derived.Laws.IdiomCopy
import Derived.RangeFuncNested
import Derived.Test.YtichbmhjgbjiiaaDoorProg
import Derived.Test.YtichbmhjgbjiiaaDoorRows
import Derived.ProofKit
import Derived.LaidMore
import Derived.OpenShut
import Derived.Stop.Joined
import Derived.ChangeSlices
import Derived.SizedLaws
import Derived.SevenTiedAt
import Derived.WalkKit
import Derived.ShutString
import Derived.ChangeOld
import Derived.Carry
set_option linter.unusedVariables false
set_option maxRecDepth 20000
set_option maxHeartbeats 4000000
namespace Go.Abs
def c15r0 : List Seg := [
  .one ⟨some 163, .loadN 3 (.t 3), none⟩,
  .one ⟨none, .storeN 3 (.t 2) (.t 163), none⟩]
def c15k0 : ICode := .kill 164 [2, 3] (.ops c15r0)
def c15s1 : ICode := (.seq c15k0 .ret)
def c15r3 : List Seg := [
  .one ⟨some 101, .mv (.t 12), none⟩,
  .one ⟨some 102, .bin .add (.t 101) (.c (.int .i64 1)), none⟩,
  .one ⟨some 12, .mv (.t 102), none⟩]
def c15k3 : ICode := .kill 164 [1, 2, 3, 12] (.ops c15r3)
def c15r5 : List Seg := [
  .one ⟨some 109, .mv (.t 13), none⟩,
  .one ⟨some 110, .bin .add (.t 109) (.c (.int .i64 1)), none⟩,
  .one ⟨some 13, .mv (.t 110), none⟩]
def c15k5 : ICode := .kill 164 [1, 2, 3, 12, 13] (.ops c15r5)
def c15r7 : List Seg := [
  .one ⟨some 117, .mv (.t 14), none⟩,
  .one ⟨some 118, .bin .add (.t 117) (.c (.int .i64 1)), none⟩,
  .one ⟨some 14, .mv (.t 118), none⟩]
def c15k7 : ICode := .kill 164 [1, 2, 3, 12, 13, 14] (.ops c15r7)
def c15r8 : List Seg := [
  .one ⟨some 155, .mv (.t 15), none⟩,
  .one ⟨some 156, .mv (.t 12), none⟩,
  .one ⟨some 157, .mv (.t 13), none⟩,
  .one ⟨some 158, .mv (.t 14), none⟩,
  .one ⟨some 159, .mkagg [.int .i64 0, .int .i64 0, .int .i64 0] [(0, 1, (.t 156)), (1, 1, (.t 157)), (2, 1, (.t 158))], none⟩,
  .one ⟨some 160, .mkslice 1 [.int .i64 0, .int .i64 0, .int .i64 0] [(0, 3, (.t 159))], none⟩,
  .one ⟨some 161, .app 3 24 (.t 155) (.t 160), none⟩,
  .one ⟨some 162, .fieldA 2 (.t 3), none⟩,
  .one ⟨none, .store1 (.t 162) (.t 161), none⟩]
def c15k8 : ICode := .kill 164 [1, 2, 3, 12, 13, 14, 15] (.ops c15r8)
def c15s9 : ICode := (.cond (.t 154) c15k8 .skip)
def c15r10 : List Seg := [
  .one ⟨some 121, .loadN 3 (.t 3), none⟩,
  .one ⟨some 122, .mv (.t 12), none⟩,
  .one ⟨some 123, .mv (.t 13), none⟩,
  .one ⟨some 124, .call [] (.c (.func 60 [])) [(.t 121), (.t 122), (.t 123)], none⟩,
  .one ⟨some 125, .bin .geq (.t 124) (.c (.int .i64 0)), none⟩,
  .one ⟨some 126, .mv (.t 125), none⟩,
  .one ⟨some 127, .loadN 3 (.t 3), some (126, true)⟩,
  .one ⟨some 128, .mv (.t 12), some (126, true)⟩,
  .one ⟨some 129, .mv (.t 14), some (126, true)⟩,
  .one ⟨some 130, .call [] (.c (.func 60 [])) [(.t 127), (.t 128), (.t 129)], some (126, true)⟩,
  .one ⟨some 131, .bin .geq (.t 130) (.c (.int .i64 0)), some (126, true)⟩,
  .one ⟨some 132, .pick (.t 126) (.t 131) (.c (.bool false)), none⟩,
  .one ⟨some 133, .mv (.t 132), none⟩,
  .one ⟨some 134, .loadN 3 (.t 3), some (133, true)⟩,
  .one ⟨some 135, .mv (.t 13), some (133, true)⟩,
  .one ⟨some 136, .mv (.t 14), some (133, true)⟩,
  .one ⟨some 137, .call [] (.c (.func 60 [])) [(.t 134), (.t 135), (.t 136)], some (133, true)⟩,
  .one ⟨some 138, .bin .geq (.t 137) (.c (.int .i64 0)), some (133, true)⟩,
  .one ⟨some 139, .pick (.t 133) (.t 138) (.c (.bool false)), none⟩,
  .one ⟨some 140, .mv (.t 139), none⟩,
  .one ⟨some 141, .mv (.t 15), some (140, true)⟩,
  .one ⟨some 142, .len 0 (.t 141), some (140, true)⟩,
  .one ⟨some 143, .bin .lss (.t 142) (.c (.int .i64 6)), some (140, true)⟩,
  .one ⟨some 144, .pick (.t 140) (.t 143) (.c (.bool false)), none⟩,
  .one ⟨some 145, .mv (.t 144), none⟩,
  .one ⟨some 146, .fieldA 2 (.t 1), some (145, true)⟩,
  .one ⟨some 147, .load1 (.t 146), some (145, true)⟩,
  .one ⟨some 148, .mv (.t 12), some (145, true)⟩,
  .one ⟨some 149, .mv (.t 13), some (145, true)⟩,
  .one ⟨some 150, .bin .add (.t 148) (.t 149), some (145, true)⟩,
  .one ⟨some 151, .mv (.t 14), some (145, true)⟩,
  .one ⟨some 152, .bin .add (.t 150) (.t 151), some (145, true)⟩,
  .one ⟨some 153, .call [] (.c (.func 61 [])) [(.t 147), (.t 152)], some (145, true)⟩,
  .one ⟨some 154, .pick (.t 145) (.t 153) (.c (.bool false)), none⟩]
def c15k10 : ICode := .kill 164 [1, 2, 3, 12, 13, 14, 15] (.ops c15r10)
def c15s11 : ICode := (.seq c15k10 c15s9)
def c15r12 : List Seg := [
  .one ⟨some 119, .fieldA 2 (.t 3), none⟩,
  .one ⟨some 120, .load1 (.t 119), none⟩,
  .one ⟨some 15, .mv (.t 120), none⟩]
def c15k12 : ICode := .kill 164 [1, 2, 3, 12, 13, 14] (.ops c15r12)
def c15s13 : ICode := (.seq (.block 9 (.seq c15k12 c15s11)) c15k7)
def c15s14 : ICode := (.cond (.t 116) .skip (.exit 8))
def c15r15 : List Seg := [
  .one ⟨some 113, .mv (.t 14), none⟩,
  .one ⟨some 114, .fieldA 0 (.t 3), none⟩,
  .one ⟨some 115, .load1 (.t 114), none⟩,
  .one ⟨some 116, .bin .lss (.t 113) (.t 115), none⟩]
def c15k15 : ICode := .kill 164 [1, 2, 3, 12, 13, 14] (.ops c15r15)
def c15l6 : ICode := (.seq (.seq c15k15 c15s14) c15s13)
def c15s16 : ICode := (.block 8 (.loop c15l6))
def c15r17 : List Seg := [
  .one ⟨some 111, .mv (.t 13), none⟩,
  .one ⟨some 112, .bin .add (.t 111) (.c (.int .i64 1)), none⟩,
  .one ⟨some 14, .mv (.t 112), none⟩]
def c15k17 : ICode := .kill 164 [1, 2, 3, 12, 13] (.ops c15r17)
def c15s18 : ICode := (.seq (.block 7 (.seq c15k17 c15s16)) c15k5)
def c15s19 : ICode := (.cond (.t 108) .skip (.exit 6))
def c15r20 : List Seg := [
  .one ⟨some 105, .mv (.t 13), none⟩,
  .one ⟨some 106, .fieldA 0 (.t 3), none⟩,
  .one ⟨some 107, .load1 (.t 106), none⟩,
  .one ⟨some 108, .bin .lss (.t 105) (.t 107), none⟩]
def c15k20 : ICode := .kill 164 [1, 2, 3, 12, 13] (.ops c15r20)
def c15l4 : ICode := (.seq (.seq c15k20 c15s19) c15s18)
def c15s21 : ICode := (.block 6 (.loop c15l4))
def c15r22 : List Seg := [
  .one ⟨some 103, .mv (.t 12), none⟩,
  .one ⟨some 104, .bin .add (.t 103) (.c (.int .i64 1)), none⟩,
  .one ⟨some 13, .mv (.t 104), none⟩]
def c15k22 : ICode := .kill 164 [1, 2, 3, 12] (.ops c15r22)
def c15s23 : ICode := (.seq (.block 5 (.seq c15k22 c15s21)) c15k3)
def c15s24 : ICode := (.cond (.t 100) .skip (.exit 4))
def c15r25 : List Seg := [
  .one ⟨some 97, .mv (.t 12), none⟩,
  .one ⟨some 98, .fieldA 0 (.t 3), none⟩,
  .one ⟨some 99, .load1 (.t 98), none⟩,
  .one ⟨some 100, .bin .lss (.t 97) (.t 99), none⟩]
def c15k25 : ICode := .kill 164 [1, 2, 3, 12] (.ops c15r25)
def c15l2 : ICode := (.seq (.seq c15k25 c15s24) c15s23)
def c15s26 : ICode := (.block 4 (.loop c15l2))
def c15r27 : List Seg := [
  .one ⟨some 12, .mv (.c (.int .i64 0)), none⟩]
def c15k27 : ICode := .kill 164 [1, 2, 3] (.ops c15r27)
def c15s28 : ICode := (.seq (.seq c15k27 c15s26) c15s1)
def c15r30 : List Seg := [
  .one ⟨some 81, .mv (.t 10), none⟩,
  .one ⟨some 82, .bin .add (.t 81) (.c (.int .i64 1)), none⟩,
  .one ⟨some 10, .mv (.t 82), none⟩]
def c15k30 : ICode := .kill 164 [1, 2, 3, 4, 10] (.ops c15r30)
def c15r31 : List Seg := [
  .one ⟨some 88, .mv (.t 11), none⟩,
  .one ⟨some 89, .mv (.t 10), none⟩,
  .one ⟨some 90, .bin .quo (.t 89) (.c (.int .i64 6)), none⟩,
  .one ⟨some 91, .mv (.t 10), none⟩,
  .one ⟨some 92, .bin .rem (.t 91) (.c (.int .i64 6)), none⟩,
  .one ⟨some 93, .mkagg [.int .i64 0, .int .i64 0] [(0, 1, (.t 90)), (1, 1, (.t 92))], none⟩,
  .one ⟨some 94, .mkslice 1 [.int .i64 0, .int .i64 0] [(0, 2, (.t 93))], none⟩,
  .one ⟨some 95, .app 2 16 (.t 88) (.t 94), none⟩,
  .one ⟨some 96, .fieldA 1 (.t 3), none⟩,
  .one ⟨none, .store1 (.t 96) (.t 95), none⟩]
def c15k31 : ICode := .kill 164 [1, 2, 3, 4, 10, 11] (.ops c15r31)
def c15s32 : ICode := (.cond (.t 87) c15k31 .skip)
def c15r33 : List Seg := [
  .one ⟨some 85, .mv (.t 10), none⟩,
  .one ⟨some 86, .idxA 36 1 (.t 4) (.t 85), none⟩,
  .one ⟨some 87, .load1 (.t 86), none⟩]
def c15k33 : ICode := .kill 164 [1, 2, 3, 4, 10, 11] (.ops c15r33)
def c15s34 : ICode := (.seq c15k33 c15s32)
def c15r35 : List Seg := [
  .one ⟨some 83, .fieldA 1 (.t 3), none⟩,
  .one ⟨some 84, .load1 (.t 83), none⟩,
  .one ⟨some 11, .mv (.t 84), none⟩]
def c15k35 : ICode := .kill 164 [1, 2, 3, 4, 10] (.ops c15r35)
def c15s36 : ICode := (.seq (.block 3 (.seq c15k35 c15s34)) c15k30)
def c15s37 : ICode := (.cond (.t 80) .skip (.exit 2))
def c15r38 : List Seg := [
  .one ⟨some 79, .mv (.t 10), none⟩,
  .one ⟨some 80, .bin .lss (.t 79) (.c (.int .i64 36)), none⟩]
def c15k38 : ICode := .kill 164 [1, 2, 3, 4, 10] (.ops c15r38)
def c15l29 : ICode := (.seq (.seq c15k38 c15s37) c15s36)
def c15s39 : ICode := (.block 2 (.loop c15l29))
def c15r40 : List Seg := [
  .one ⟨some 10, .mv (.c (.int .i64 0)), none⟩]
def c15k40 : ICode := .kill 164 [1, 2, 3, 4] (.ops c15r40)
def c15s41 : ICode := (.seq (.seq c15k40 c15s39) c15s28)
def c15r43 : List Seg := [
  .one ⟨some 32, .mv (.t 6), none⟩,
  .one ⟨some 33, .bin .add (.t 32) (.c (.int .i64 1)), none⟩,
  .one ⟨some 6, .mv (.t 33), none⟩]
def c15k43 : ICode := .kill 164 [1, 2, 3, 4, 5, 6] (.ops c15r43)
def c15r44 : List Seg := [
  .one ⟨some 77, .mv (.t 5), none⟩,
  .one ⟨some 78, .bin .add (.t 77) (.c (.int .i64 1)), none⟩,
  .one ⟨some 5, .mv (.t 78), none⟩]
def c15k44 : ICode := .kill 164 [1, 2, 3, 4, 5, 6] (.ops c15r44)
def c15r45 : List Seg := [
  .one ⟨some 75, .mv (.t 9), none⟩,
  .one ⟨some 76, .idxA 36 1 (.t 4) (.t 75), none⟩,
  .one ⟨none, .store1 (.t 76) (.c (.bool true)), none⟩]
def c15k45 : ICode := .kill 164 [1, 2, 3, 4, 5, 6, 9] (.ops c15r45)
def c15s46 : ICode := (.cond (.t 74) (.seq c15k45 c15k44) .skip)
def c15r47 : List Seg := [
  .one ⟨some 66, .mv (.t 7), none⟩,
  .one ⟨some 67, .mv (.t 8), none⟩,
  .one ⟨some 68, .bin .neq (.t 66) (.t 67), none⟩,
  .one ⟨some 69, .mv (.t 68), none⟩,
  .one ⟨some 70, .mv (.t 9), some (69, true)⟩,
  .one ⟨some 71, .idxA 36 1 (.t 4) (.t 70), some (69, true)⟩,
  .one ⟨some 72, .load1 (.t 71), some (69, true)⟩,
  .one ⟨some 73, .un .not (.t 72), some (69, true)⟩,
  .one ⟨some 74, .pick (.t 69) (.t 73) (.c (.bool false)), none⟩]
def c15k47 : ICode := .kill 164 [1, 2, 3, 4, 5, 6, 7, 8, 9] (.ops c15r47)
def c15s48 : ICode := (.seq c15k47 c15s46)
def c15r49 : List Seg := [
  .one ⟨some 58, .mv (.t 7), none⟩,
  .one ⟨some 59, .mv (.t 8), none⟩,
  .one ⟨some 60, .mn [(.t 58), (.t 59)], none⟩,
  .one ⟨some 61, .bin .mul (.t 60) (.c (.int .i64 6)), none⟩,
  .one ⟨some 62, .mv (.t 7), none⟩,
  .one ⟨some 63, .mv (.t 8), none⟩,
  .one ⟨some 64, .mx [(.t 62), (.t 63)], none⟩,
  .one ⟨some 65, .bin .add (.t 61) (.t 64), none⟩,
  .one ⟨some 9, .mv (.t 65), none⟩]
def c15k49 : ICode := .kill 164 [1, 2, 3, 4, 5, 6, 7, 8] (.ops c15r49)
def c15s50 : ICode := (.seq c15k49 c15s48)
def c15r51 : List Seg := [
  .grp [(⟨some 34, .fieldA 1 (.t 1), none⟩, 0), (⟨some 35, .load1 (.t 34), none⟩, 1), (⟨some 36, .mv (.t 6), none⟩, 0), (⟨some 37, .idxS 2 (.t 35) (.t 36), none⟩, 7), (⟨some 38, .idxA 2 1 (.t 37) (.c (.int .i64 0)), none⟩, 15), (⟨some 39, .load1 (.t 38), none⟩, 31), (⟨some 40, .conv .u64 (.t 39), none⟩, 63), (⟨some 41, .fieldA 0 (.t 3), none⟩, 0), (⟨some 42, .load1 (.t 41), none⟩, 128), (⟨some 43, .conv .u64 (.t 42), none⟩, 384), (⟨some 44, .bin .rem (.t 40) (.t 43), none⟩, 1023), (⟨some 45, .conv .i64 (.t 44), none⟩, 2047), (⟨some 46, .fieldA 1 (.t 1), none⟩, 0), (⟨some 47, .load1 (.t 46), none⟩, 4096), (⟨some 48, .mv (.t 6), none⟩, 0), (⟨some 49, .idxS 2 (.t 47) (.t 48), none⟩, 28672), (⟨some 50, .idxA 2 1 (.t 49) (.c (.int .i64 1)), none⟩, 61440), (⟨some 51, .load1 (.t 50), none⟩, 126976), (⟨some 52, .conv .u64 (.t 51), none⟩, 258048), (⟨some 53, .fieldA 0 (.t 3), none⟩, 0), (⟨some 54, .load1 (.t 53), none⟩, 524288), (⟨some 55, .conv .u64 (.t 54), none⟩, 1572864), (⟨some 56, .bin .rem (.t 52) (.t 55), none⟩, 4190208), (⟨some 57, .conv .i64 (.t 56), none⟩, 8384512), (⟨some 7, .mv (.t 45), none⟩, 4095)],
  .one ⟨some 8, .mv (.t 57), none⟩]
def c15k51 : ICode := .kill 164 [1, 2, 3, 4, 5, 6] (.ops c15r51)
def c15s52 : ICode := (.seq (.block 1 (.seq c15k51 c15s50)) c15k43)
def c15s53 : ICode := (.cond (.t 31) .skip (.exit 0))
def c15r54 : List Seg := [
  .one ⟨some 23, .mv (.t 6), none⟩,
  .one ⟨some 24, .fieldA 1 (.t 1), none⟩,
  .one ⟨some 25, .load1 (.t 24), none⟩,
  .one ⟨some 26, .len 0 (.t 25), none⟩,
  .one ⟨some 27, .bin .lss (.t 23) (.t 26), none⟩,
  .one ⟨some 28, .mv (.t 27), none⟩,
  .one ⟨some 29, .mv (.t 5), some (28, true)⟩,
  .one ⟨some 30, .bin .lss (.t 29) (.c (.int .i64 10)), some (28, true)⟩,
  .one ⟨some 31, .pick (.t 28) (.t 30) (.c (.bool false)), none⟩]
def c15k54 : ICode := .kill 164 [1, 2, 3, 4, 5, 6] (.ops c15r54)
def c15l42 : ICode := (.seq (.seq c15k54 c15s53) c15s52)
def c15s55 : ICode := (.block 0 (.loop c15l42))
def c15r56 : List Seg := [
  .one ⟨some 6, .mv (.c (.int .i64 0)), none⟩]
def c15k56 : ICode := .kill 164 [1, 2, 3, 4, 5] (.ops c15r56)
def c15s57 : ICode := (.seq (.seq c15k56 c15s55) c15s41)
def c15r58 : List Seg := [
  .one ⟨some 5, .mv (.c (.int .i64 0)), none⟩]
def c15k58 : ICode := .kill 164 [1, 2, 3, 4] (.ops c15r58)
def c15s59 : ICode := (.seq c15k58 c15s57)
def c15r60 : List Seg := [
  .one ⟨some 4, .box (.c (.agg (List.replicate 36 (.bool false)))), none⟩]
def c15k60 : ICode := .kill 164 [1, 2, 3] (.ops c15r60)
def c15s61 : ICode := (.seq c15k60 c15s59)
def c15r62 : List Seg := [
  .one ⟨some 16, .fieldA 0 (.t 1), none⟩,
  .one ⟨some 17, .load1 (.t 16), none⟩,
  .one ⟨some 18, .conv .u64 (.t 17), none⟩,
  .one ⟨some 19, .bin .rem (.t 18) (.c (.int .u64 6)), none⟩,
  .one ⟨some 20, .conv .i64 (.t 19), none⟩,
  .one ⟨some 21, .bin .add (.c (.int .i64 1)) (.t 20), none⟩,
  .one ⟨some 22, .mkagg [.int .i64 0, .nilslice, .nilslice] [(0, 1, (.t 21))], none⟩,
  .one ⟨some 3, .box (.c (.agg [.int .i64 0, .nilslice, .nilslice])), none⟩,
  .one ⟨none, .storeN 3 (.t 3) (.t 22), none⟩]
def c15k62 : ICode := .kill 164 [1, 2] (.ops c15r62)
def c15s63 : ICode := (.seq c15k62 c15s61)
def c15r64 : List Seg := [
  .one ⟨some 1, .box (.t 0), none⟩,
  .one ⟨some 2, .box (.c (.agg [.int .i64 0, .nilslice, .nilslice])), none⟩]
def c15k64 : ICode := .kill 164 [0] (.ops c15r64)
def c15b : ICode := (.seq c15k64 c15s63)
def c15 : IFn := ⟨164, [.cellN 2 3], c15b⟩
def h15 : List (Nat × Nat × List Nat) := [(0, (164, [0])), (1, (164, [1, 2])), (2, (164, [1, 2, 3])), (3, (164, [1, 2, 3, 4])), (4, (164, [1, 2, 3, 4, 5])), (5, (164, [1, 2, 3, 4, 5, 6])), (7, (164, [1, 2, 3, 4, 5, 6])), (8, (164, [1, 2, 3, 4, 5, 6, 7, 8])), (9, (164, [1, 2, 3, 4, 5, 6, 7, 8, 9])), (10, (164, [1, 2, 3, 4, 5, 6, 9])), (11, (164, [1, 2, 3, 4, 5, 6])), (6, (164, [1, 2, 3, 4, 5, 6])), (12, (164, [1, 2, 3, 4])), (13, (164, [1, 2, 3, 4, 10])), (15, (164, [1, 2, 3, 4, 10])), (16, (164, [1, 2, 3, 4, 10, 11])), (17, (164, [1, 2, 3, 4, 10, 11])), (14, (164, [1, 2, 3, 4, 10])), (18, (164, [1, 2, 3])), (19, (164, [1, 2, 3, 12])), (21, (164, [1, 2, 3, 12])), (22, (164, [1, 2, 3, 12, 13])), (24, (164, [1, 2, 3, 12, 13])), (25, (164, [1, 2, 3, 12, 13, 14])), (27, (164, [1, 2, 3, 12, 13, 14])), (28, (164, [1, 2, 3, 12, 13, 14, 15])), (29, (164, [1, 2, 3, 12, 13, 14, 15])), (26, (164, [1, 2, 3, 12, 13, 14])), (23, (164, [1, 2, 3, 12, 13])), (20, (164, [1, 2, 3, 12])), (30, (164, [2, 3]))]
def c16r0 : List Seg := [
  .one ⟨some 77, .fieldA 1 (.t 1), none⟩,
  .one ⟨some 78, .load1 (.t 77), none⟩,
  .one ⟨some 79, .len 0 (.t 78), none⟩,
  .one ⟨some 80, .fieldA 0 (.t 1), none⟩,
  .one ⟨some 81, .load1 (.t 80), none⟩,
  .one ⟨some 82, .mv (.t 14), none⟩,
  .one ⟨some 83, .bin .sub (.t 81) (.t 82), none⟩,
  .one ⟨some 84, .bin .sub (.t 79) (.t 83), none⟩,
  .one ⟨some 85, .mv (.t 11), none⟩,
  .one ⟨some 86, .bin .sub (.t 84) (.t 85), none⟩,
  .one ⟨some 2, .mv (.t 86), none⟩,
  .one ⟨some 3, .mv (.c (.int .i64 0)), none⟩]
def c16k0 : ICode := .kill 87 [1, 11, 14] (.ops c16r0)
def c16s1 : ICode := (.seq c16k0 .ret)
def c16r2 : List Seg := [
  .one ⟨some 73, .loadN 3 (.t 1), none⟩,
  .one ⟨some 74, .call [] (.c (.func 50 [])) [(.t 73)], none⟩,
  .one ⟨some 72, .mv (.t 74), none⟩,
  .one ⟨some 75, .ext (.t 72) 0, none⟩,
  .one ⟨some 76, .ext (.t 72) 1, none⟩,
  .one ⟨some 14, .mv (.t 75), none⟩,
  .one ⟨some 15, .mv (.t 76), none⟩]
def c16k2 : ICode := .kill 87 [1, 11] (.ops c16r2)
def c16s3 : ICode := (.seq c16k2 c16s1)
def c16r5 : List Seg := [
  .one ⟨some 71, .bin .add (.t 63) (.c (.int .i64 1)), none⟩,
  .one ⟨some 63, .mv (.t 71), none⟩]
def c16k5 : ICode := .kill 87 [1, 11, 61, 62, 63] (.ops c16r5)
def c16r6 : List Seg := [
  .one ⟨some 69, .mv (.t 11), none⟩,
  .one ⟨some 70, .bin .add (.t 69) (.c (.int .i64 1)), none⟩,
  .one ⟨some 11, .mv (.t 70), none⟩]
def c16k6 : ICode := .kill 87 [1, 11, 61, 62, 63] (.ops c16r6)
def c16s7 : ICode := (.cond (.t 68) c16k6 .skip)
def c16r8 : List Seg := [
  .one ⟨some 67, .mv (.t 13), none⟩,
  .one ⟨some 68, .bin .geq (.t 67) (.c (.int .i64 0)), none⟩]
def c16k8 : ICode := .kill 87 [1, 11, 13, 61, 62, 63] (.ops c16r8)
def c16s9 : ICode := (.seq c16k8 c16s7)
def c16r10 : List Seg := [
  .one ⟨some 65, .idxS 1 (.t 61) (.t 63), none⟩,
  .one ⟨some 66, .load1 (.t 65), none⟩,
  .one ⟨some 13, .mv (.t 66), none⟩]
def c16k10 : ICode := .kill 87 [1, 11, 61, 62, 63] (.ops c16r10)
def c16s11 : ICode := (.seq (.block 7 (.seq c16k10 c16s9)) c16k5)
def c16s12 : ICode := (.seq (.cond (.t 64) .skip (.exit 6)) c16s11)
def c16r13 : List Seg := [
  .one ⟨some 64, .bin .lss (.t 63) (.t 62), none⟩]
def c16k13 : ICode := .kill 87 [1, 11, 61, 62, 63] (.ops c16r13)
def c16l4 : ICode := (.seq c16k13 c16s12)
def c16s14 : ICode := (.block 6 (.loop c16l4))
def c16r15 : List Seg := [
  .one ⟨some 56, .mv (.t 5), none⟩,
  .one ⟨some 57, .fieldA 1 (.t 1), none⟩,
  .one ⟨some 58, .load1 (.t 57), none⟩,
  .one ⟨some 59, .len 0 (.t 58), none⟩,
  .one ⟨some 60, .loadN 2 (.c (.ptr 0 0)), none⟩,
  .one ⟨some 61, .call [] (.c (.func 64 [])) [(.t 56), (.t 59), (.t 60)], none⟩,
  .one ⟨some 62, .len 0 (.t 61), none⟩,
  .one ⟨some 63, .mv (.c (.int .i64 0)), none⟩]
def c16k15 : ICode := .kill 87 [1, 5, 11] (.ops c16r15)
def c16s16 : ICode := (.seq (.seq c16k15 c16s14) c16s3)
def c16r17 : List Seg := [
  .one ⟨some 11, .mv (.c (.int .i64 0)), none⟩]
def c16k17 : ICode := .kill 87 [1, 5] (.ops c16r17)
def c16s18 : ICode := (.seq c16k17 c16s16)
def c16r20 : List Seg := [
  .one ⟨some 55, .bin .add (.t 24) (.c (.int .i64 1)), none⟩,
  .one ⟨some 24, .mv (.t 55), none⟩]
def c16k20 : ICode := .kill 87 [1, 2, 3, 5, 23, 24] (.ops c16r20)
def c16r21 : List Seg := [
  .one ⟨some 51, .mv (.t 5), none⟩,
  .one ⟨some 52, .load1 (.t 7), none⟩,
  .one ⟨some 53, .mkslice 1 [.nilslice] [(0, 1, (.t 52))], none⟩,
  .one ⟨some 54, .app 1 24 (.t 51) (.t 53), none⟩,
  .one ⟨some 5, .mv (.t 54), none⟩]
def c16k21 : ICode := .kill 87 [1, 2, 3, 5, 7, 23, 24] (.ops c16r21)
def c16r23 : List Seg := [
  .grp [(⟨some 46, .load1 (.t 7), none⟩, 0), (⟨some 47, .mv (.t 9), none⟩, 0), (⟨some 48, .mv (.t 10), none⟩, 0), (⟨some 49, .call [] (.c (.func 63 [])) [(.t 48)], none⟩, 4)],
  .one ⟨some 50, .idxS 2 (.t 46) (.t 47), none⟩,
  .one ⟨none, .storeN 2 (.t 50) (.t 49), none⟩]
def c16k23 : ICode := .kill 87 [7, 9, 10] (.ops c16r23)
def c16r24 : List Seg := [
  .one ⟨some 10, .mv (.t 45), none⟩]
def c16k24 : ICode := .kill 87 [7, 9, 45] (.ops c16r24)
def c16r25 : List Seg := [
  .one ⟨some 9, .mv (.t 44), none⟩]
def c16k25 : ICode := .kill 87 [7, 44, 45] (.ops c16r25)
def c16f22a : ICode := (.seq c16k25 c16k24)
def c16f22b : ICode := (.block 5 c16k23)
def c16s26 : ICode := (.block 4 (.rf (.t 43) [44, 45] c16f22a c16f22b))
def c16r27 : List Seg := [
  .one ⟨some 41, .loadN 3 (.t 1), none⟩,
  .one ⟨some 42, .mv (.t 6), none⟩,
  .one ⟨some 43, .call [] (.c (.func 62 [])) [(.t 41), (.t 42)], none⟩]
def c16k27 : ICode := .kill 87 [1, 2, 3, 5, 6, 7, 23, 24] (.ops c16r27)
def c16s28 : ICode := (.seq (.seq c16k27 c16s26) c16k21)
def c16r30 : List Seg := [
  .one ⟨some 40, .bin .add (.t 33) (.c (.int .i64 1)), none⟩,
  .one ⟨some 33, .mv (.t 40), none⟩]
def c16k30 : ICode := .kill 87 [1, 2, 3, 5, 6, 7, 23, 24, 32, 33] (.ops c16r30)
def c16r31 : List Seg := [
  .one ⟨some 36, .load1 (.t 7), none⟩,
  .one ⟨some 37, .mv (.t 8), none⟩,
  .one ⟨some 38, .loadN 2 (.c (.ptr 0 0)), none⟩,
  .one ⟨some 39, .idxS 2 (.t 36) (.t 37), none⟩,
  .one ⟨none, .storeN 2 (.t 39) (.t 38), none⟩]
def c16k31 : ICode := .kill 87 [1, 2, 3, 5, 6, 7, 8, 23, 24, 32, 33] (.ops c16r31)
def c16r32 : List Seg := [
  .one ⟨some 35, .mv (.t 33), none⟩,
  .one ⟨some 8, .mv (.t 35), none⟩]
def c16k32 : ICode := .kill 87 [1, 2, 3, 5, 6, 7, 23, 24, 32, 33] (.ops c16r32)
def c16s33 : ICode := (.seq (.block 3 (.seq c16k32 c16k31)) c16k30)
def c16s34 : ICode := (.seq (.cond (.t 34) .skip (.exit 2)) c16s33)
def c16r35 : List Seg := [
  .one ⟨some 34, .bin .lss (.t 33) (.t 32), none⟩]
def c16k35 : ICode := .kill 87 [1, 2, 3, 5, 6, 7, 23, 24, 32, 33] (.ops c16r35)
def c16l29 : ICode := (.seq c16k35 c16s34)
def c16s36 : ICode := (.block 2 (.loop c16l29))
def c16r37 : List Seg := [
  .one ⟨some 31, .load1 (.t 7), none⟩,
  .one ⟨some 32, .len 0 (.t 31), none⟩,
  .one ⟨some 33, .mv (.c (.int .i64 0)), none⟩]
def c16k37 : ICode := .kill 87 [1, 2, 3, 5, 6, 7, 23, 24] (.ops c16r37)
def c16s38 : ICode := (.seq (.seq c16k37 c16s36) c16s28)
def c16r39 : List Seg := [
  .one ⟨some 27, .fieldA 1 (.t 1), none⟩,
  .one ⟨some 28, .load1 (.t 27), none⟩,
  .one ⟨some 29, .len 0 (.t 28), none⟩,
  .one ⟨some 30, .make [.int .i64 0, .int .i64 0] 16 (.t 29) (.t 29), none⟩,
  .one ⟨some 7, .box (.c .nilslice), none⟩,
  .one ⟨none, .store1 (.t 7) (.t 30), none⟩]
def c16k39 : ICode := .kill 87 [1, 2, 3, 5, 6, 23, 24] (.ops c16r39)
def c16s40 : ICode := (.seq c16k39 c16s38)
def c16r41 : List Seg := [
  .one ⟨some 26, .mv (.t 24), none⟩,
  .one ⟨some 6, .mv (.t 26), none⟩]
def c16k41 : ICode := .kill 87 [1, 2, 3, 5, 23, 24] (.ops c16r41)
def c16s42 : ICode := (.seq (.block 1 (.seq c16k41 c16s40)) c16k20)
def c16s43 : ICode := (.seq (.cond (.t 25) .skip (.exit 0)) c16s42)
def c16r44 : List Seg := [
  .one ⟨some 25, .bin .lss (.t 24) (.t 23), none⟩]
def c16k44 : ICode := .kill 87 [1, 2, 3, 5, 23, 24] (.ops c16r44)
def c16l19 : ICode := (.seq c16k44 c16s43)
def c16s45 : ICode := (.block 0 (.loop c16l19))
def c16r46 : List Seg := [
  .one ⟨some 21, .fieldA 2 (.t 1), none⟩,
  .one ⟨some 22, .load1 (.t 21), none⟩,
  .one ⟨some 23, .len 0 (.t 22), none⟩,
  .one ⟨some 24, .mv (.c (.int .i64 0)), none⟩]
def c16k46 : ICode := .kill 87 [1, 2, 3, 5] (.ops c16r46)
def c16s47 : ICode := (.seq (.seq c16k46 c16s45) c16s18)
def c16r48 : List Seg := [
  .one ⟨some 5, .mv (.c .nilslice), none⟩]
def c16k48 : ICode := .kill 87 [1, 2, 3] (.ops c16r48)
def c16s49 : ICode := (.seq c16k48 c16s47)
def c16r50 : List Seg := [
  .one ⟨some 20, .mv (.t 4), none⟩,
  .one ⟨some 2, .mv (.c (.int .i64 0)), none⟩,
  .one ⟨some 3, .mv (.t 20), none⟩]
def c16k50 : ICode := .kill 87 [4] (.ops c16r50)
def c16s51 : ICode := (.cond (.t 19) (.seq c16k50 .ret) .skip)
def c16r52 : List Seg := [
  .one ⟨some 18, .mv (.t 4), none⟩,
  .one ⟨some 19, .bin .neq (.t 18) (.c (.int .i64 0)), none⟩]
def c16k52 : ICode := .kill 87 [1, 2, 3, 4] (.ops c16r52)
def c16s53 : ICode := (.seq c16k52 c16s51)
def c16r54 : List Seg := [
  .one ⟨some 16, .loadN 3 (.t 1), none⟩,
  .one ⟨some 17, .call [] (.c (.func 59 [])) [(.t 16)], none⟩,
  .one ⟨some 4, .mv (.t 17), none⟩]
def c16k54 : ICode := .kill 87 [1, 2, 3] (.ops c16r54)
def c16s55 : ICode := (.seq (.seq c16k54 c16s53) c16s49)
def c16r56 : List Seg := [
  .one ⟨some 1, .box (.t 0), none⟩,
  .one ⟨some 2, .mv (.c (.int .i64 0)), none⟩,
  .one ⟨some 3, .mv (.c (.int .i64 0)), none⟩]
def c16k56 : ICode := .kill 87 [0] (.ops c16r56)
def c16b : ICode := (.seq c16k56 c16s55)
def c16 : IFn := ⟨87, [.t 2, .t 3], c16b⟩
def h16 : List (Nat × Nat × List Nat) := [(0, (87, [0])), (1, (87, [1, 2, 3])), (2, (87, [1, 2, 3, 4])), (3, (87, [4])), (4, (87, [1, 2, 3])), (5, (87, [1, 2, 3, 5])), (6, (87, [1, 2, 3, 5, 23, 24])), (7, (87, [1, 2, 3, 5, 23, 24])), (8, (87, [1, 2, 3, 5, 6, 23, 24])), (9, (87, [1, 2, 3, 5, 6, 7, 23, 24])), (10, (87, [1, 2, 3, 5, 6, 7, 23, 24, 32, 33])), (11, (87, [1, 2, 3, 5, 6, 7, 23, 24, 32, 33])), (12, (87, [1, 2, 3, 5, 6, 7, 8, 23, 24, 32, 33])), (13, (87, [1, 2, 3, 5, 6, 7, 23, 24, 32, 33])), (14, (87, [1, 2, 3, 5, 6, 7, 23, 24])), (15, (87, [7, 44, 45])), (16, (87, [7, 9, 45])), (17, (87, [7, 9, 10])), (18, (87, [1, 2, 3, 5, 7, 23, 24])), (19, (87, [1, 2, 3, 5, 23, 24])), (20, (87, [1, 5])), (21, (87, [1, 5, 11])), (22, (87, [1, 11, 61, 62, 63])), (23, (87, [1, 11, 61, 62, 63])), (24, (87, [1, 11, 13, 61, 62, 63])), (25, (87, [1, 11, 61, 62, 63])), (26, (87, [1, 11, 61, 62, 63])), (27, (87, [1, 11])), (28, (87, [1, 11, 14]))]
def c17r0 : List Seg := [
  .grp [(⟨some 5, .fieldA 0 (.t 1), none⟩, 0), (⟨some 6, .load1 (.t 5), none⟩, 1), (⟨some 7, .mv (.t 3), none⟩, 0), (⟨some 8, .fieldA 1 (.t 1), none⟩, 0), (⟨some 9, .load1 (.t 8), none⟩, 8), (⟨some 10, .app 2 16 (.t 7) (.t 9), none⟩, 28), (⟨some 11, .mv (.t 4), none⟩, 0), (⟨some 12, .fieldA 2 (.t 1), none⟩, 0), (⟨some 13, .load1 (.t 12), none⟩, 128), (⟨some 14, .app 3 24 (.t 11) (.t 13), none⟩, 508)],
  .one ⟨some 15, .mkagg [.int .i64 0, .nilslice, .nilslice] [(0, 1, (.t 6)), (1, 1, (.t 10)), (2, 1, (.t 14))], none⟩,
  .one ⟨none, .storeN 3 (.t 2) (.t 15), none⟩]
def c17k0 : ICode := .kill 16 [1, 2, 3, 4] (.ops c17r0)
def c17s1 : ICode := (.seq c17k0 .ret)
def c17r2 : List Seg := [
  .one ⟨some 4, .mv (.c .nilslice), none⟩]
def c17k2 : ICode := .kill 16 [1, 2, 3] (.ops c17r2)
def c17s3 : ICode := (.seq c17k2 c17s1)
def c17r4 : List Seg := [
  .one ⟨some 3, .mv (.c .nilslice), none⟩]
def c17k4 : ICode := .kill 16 [1, 2] (.ops c17r4)
def c17s5 : ICode := (.seq c17k4 c17s3)
def c17r6 : List Seg := [
  .one ⟨some 1, .box (.t 0), none⟩,
  .one ⟨some 2, .box (.c (.agg [.int .i64 0, .nilslice, .nilslice])), none⟩]
def c17k6 : ICode := .kill 16 [0] (.ops c17r6)
def c17b : ICode := (.seq c17k6 c17s5)
def c17 : IFn := ⟨16, [.cellN 2 3], c17b⟩
def h17 : List (Nat × Nat × List Nat) := [(0, (16, [0])), (1, (16, [1, 2])), (2, (16, [1, 2, 3])), (3, (16, [1, 2, 3, 4]))]
def c18r0 : List Seg := [
  .grp [(⟨some 14, .fieldA 1 (.t 1), none⟩, 0), (⟨some 15, .load1 (.t 14), none⟩, 1), (⟨some 16, .len 0 (.t 15), none⟩, 3), (⟨some 17, .fieldA 0 (.t 1), none⟩, 0), (⟨some 18, .load1 (.t 17), none⟩, 8), (⟨some 19, .loadN 3 (.t 1), none⟩, 0), (⟨some 20, .call [] (.c (.func 56 [])) [(.t 19)], none⟩, 32), (⟨some 21, .bin .sub (.t 18) (.t 20), none⟩, 120), (⟨some 22, .bin .sub (.t 16) (.t 21), none⟩, 255), (⟨some 23, .mv (.t 4), none⟩, 0)],
  .one ⟨some 24, .bin .sub (.t 22) (.t 23), none⟩,
  .one ⟨some 2, .mv (.t 24), none⟩]
def c18k0 : ICode := .kill 25 [1, 4] (.ops c18r0)
def c18s1 : ICode := (.seq c18k0 .ret)
def c18r2 : List Seg := [
  .grp [(⟨some 6, .loadN 3 (.t 1), none⟩, 0), (⟨some 7, .fieldA 1 (.t 1), none⟩, 0), (⟨some 8, .load1 (.t 7), none⟩, 2), (⟨some 9, .len 0 (.t 8), none⟩, 6), (⟨some 10, .make [.int .i64 0] 8 (.t 9) (.t 9), none⟩, 14)],
  .one ⟨some 11, .call [] (.c (.func 65 [])) [(.t 6), (.t 10)], none⟩,
  .one ⟨some 5, .mv (.t 11), none⟩,
  .grp [(⟨some 12, .ext (.t 5) 0, none⟩, 0), (⟨some 13, .ext (.t 5) 1, none⟩, 0), (⟨some 3, .mv (.t 12), none⟩, 1)],
  .one ⟨some 4, .mv (.t 13), none⟩]
def c18k2 : ICode := .kill 25 [1] (.ops c18r2)
def c18s3 : ICode := (.seq c18k2 c18s1)
def c18r4 : List Seg := [
  .one ⟨some 1, .box (.t 0), none⟩,
  .one ⟨some 2, .mv (.c (.int .i64 0)), none⟩]
def c18k4 : ICode := .kill 25 [0] (.ops c18r4)
def c18b : ICode := (.seq c18k4 c18s3)
def c18 : IFn := ⟨25, [.t 2], c18b⟩
def h18 : List (Nat × Nat × List Nat) := [(0, (25, [0])), (1, (25, [1])), (2, (25, [1, 4]))]
def c19r0 : List Seg := [
  .one ⟨some 62, .mv (.t 3), none⟩,
  .one ⟨some 63, .bin .eql (.t 62) (.c (.int .i64 0)), none⟩,
  .one ⟨some 64, .mv (.t 63), none⟩,
  .one ⟨some 65, .idxA 3 1 (.t 2) (.c (.int .i64 0)), some (64, true)⟩,
  .one ⟨some 66, .load1 (.t 65), some (64, true)⟩,
  .one ⟨some 67, .mkagg [.int .i64 0, .int .i64 0] [(0, 1, (.c (.int .i64 2))), (1, 1, (.c (.int .i64 3)))], some (64, true)⟩,
  .one ⟨some 68, .mkagg [.int .i64 0, .int .i64 0] [(0, 1, (.c (.int .i64 4))), (1, 1, (.c (.int .i64 3)))], some (64, true)⟩,
  .one ⟨some 69, .mkagg [.int .i64 0, .int .i64 0] [(0, 1, (.c (.int .i64 2))), (1, 1, (.c (.int .i64 3)))], some (64, true)⟩,
  .one ⟨some 70, .mkslice 3 [.int .i64 0, .int .i64 0, .int .i64 0, .int .i64 0, .int .i64 0, .int .i64 0] [(0, 2, (.t 67)), (2, 2, (.t 68)), (4, 2, (.t 69))], some (64, true)⟩,
  .one ⟨some 71, .call [] (.c (.func 28 [])) [(.t 66), (.t 70)], some (64, true)⟩,
  .one ⟨some 72, .pick (.t 64) (.t 71) (.c (.bool false)), none⟩,
  .one ⟨some 73, .mv (.t 72), none⟩,
  .one ⟨some 74, .idxA 3 1 (.t 2) (.c (.int .i64 2)), some (73, true)⟩,
  .one ⟨some 75, .load1 (.t 74), some (73, true)⟩,
  .one ⟨some 76, .mkagg [.int .i64 0, .int .i64 0] [(0, 1, (.c (.int .i64 1))), (1, 1, (.c (.int .i64 3)))], some (73, true)⟩,
  .one ⟨some 77, .mkagg [.int .i64 0, .int .i64 0] [(0, 1, (.c (.int .i64 (-1)))), (1, 1, (.c (.int .i64 3)))], some (73, true)⟩,
  .one ⟨some 78, .mkagg [.int .i64 0, .int .i64 0] [(0, 1, (.c (.int .i64 1))), (1, 1, (.c (.int .i64 3)))], some (73, true)⟩,
  .one ⟨some 79, .mkslice 3 [.int .i64 0, .int .i64 0, .int .i64 0, .int .i64 0, .int .i64 0, .int .i64 0] [(0, 2, (.t 76)), (2, 2, (.t 77)), (4, 2, (.t 78))], some (73, true)⟩,
  .one ⟨some 80, .call [] (.c (.func 28 [])) [(.t 75), (.t 79)], some (73, true)⟩,
  .one ⟨some 81, .pick (.t 73) (.t 80) (.c (.bool false)), none⟩,
  .one ⟨some 82, .mv (.t 81), none⟩,
  .one ⟨some 83, .mv (.t 6), some (82, true)⟩,
  .one ⟨some 84, .bin .eql (.t 83) (.c (.int .i64 0)), some (82, true)⟩,
  .one ⟨some 85, .pick (.t 82) (.t 84) (.c (.bool false)), none⟩,
  .one ⟨some 86, .mv (.t 85), none⟩,
  .one ⟨some 87, .mv (.t 5), some (86, true)⟩,
  .one ⟨some 88, .un .not (.t 87), some (86, true)⟩,
  .one ⟨some 89, .pick (.t 86) (.t 88) (.c (.bool false)), none⟩,
  .one ⟨some 90, .mv (.t 89), none⟩,
  .one ⟨some 91, .mv (.t 9), some (90, true)⟩,
  .one ⟨some 92, .bin .eql (.t 91) (.c (.int .i64 0)), some (90, true)⟩,
  .one ⟨some 93, .pick (.t 90) (.t 92) (.c (.bool false)), none⟩,
  .one ⟨some 94, .mv (.t 93), none⟩,
  .one ⟨some 95, .mv (.t 8), some (94, true)⟩,
  .one ⟨some 96, .pick (.t 94) (.t 95) (.c (.bool false)), none⟩,
  .one ⟨some 97, .mv (.t 96), none⟩,
  .one ⟨some 98, .mv (.t 7), some (97, true)⟩,
  .one ⟨some 99, .mkslice 2 [.int .i64 0, .int .i64 0] [(0, 1, (.c (.int .i64 0))), (1, 1, (.c (.int .i64 7)))], some (97, true)⟩,
  .one ⟨some 100, .call [] (.c (.func 27 [])) [(.t 98), (.t 99)], some (97, true)⟩,
  .one ⟨some 101, .pick (.t 97) (.t 100) (.c (.bool false)), none⟩,
  .one ⟨some 102, .mv (.t 101), none⟩,
  .one ⟨some 103, .mv (.t 11), some (102, true)⟩,
  .one ⟨some 104, .bin .eql (.t 103) (.c (.int .i64 0)), some (102, true)⟩,
  .one ⟨some 105, .pick (.t 102) (.t 104) (.c (.bool false)), none⟩,
  .one ⟨some 106, .mv (.t 105), none⟩,
  .one ⟨some 107, .mv (.t 10), some (106, true)⟩,
  .one ⟨some 108, .bin .eql (.t 107) (.c (.int .i64 1)), some (106, true)⟩,
  .one ⟨some 109, .pick (.t 106) (.t 108) (.c (.bool false)), none⟩,
  .one ⟨some 110, .mv (.t 109), none⟩,
  .one ⟨some 111, .mv (.t 14), some (110, true)⟩,
  .one ⟨some 112, .bin .eql (.t 111) (.c (.int .i64 0)), some (110, true)⟩,
  .one ⟨some 113, .pick (.t 110) (.t 112) (.c (.bool false)), none⟩,
  .one ⟨some 114, .mv (.t 113), none⟩,
  .one ⟨some 115, .mv (.t 13), some (114, true)⟩,
  .one ⟨some 116, .bin .eql (.t 115) (.c (.int .i64 0)), some (114, true)⟩,
  .one ⟨some 117, .pick (.t 114) (.t 116) (.c (.bool false)), none⟩,
  .one ⟨some 118, .mv (.t 117), none⟩,
  .one ⟨some 119, .mkagg [.int .i64 0, .nilslice, .nilslice] [], some (118, true)⟩,
  .one ⟨some 120, .call [] (.c (.func 59 [])) [(.t 119)], some (118, true)⟩,
  .one ⟨some 121, .bin .eql (.t 120) (.c (.int .i64 30)), some (118, true)⟩,
  .one ⟨some 122, .pick (.t 118) (.t 121) (.c (.bool false)), none⟩,
  .one ⟨some 0, .mv (.t 122), none⟩]
def c19k0 : ICode := .kill 123 [2, 3, 5, 6, 7, 8, 9, 10, 11, 13, 14] (.ops c19r0)
def c19s1 : ICode := (.seq c19k0 .ret)
def c19r2 : List Seg := [
  .one ⟨some 58, .loadN 3 (.t 12), none⟩,
  .one ⟨some 59, .call [] (.c (.func 16 [])) [(.t 58)], none⟩,
  .one ⟨some 57, .mv (.t 59), none⟩,
  .one ⟨some 60, .ext (.t 57) 0, none⟩,
  .one ⟨some 61, .ext (.t 57) 1, none⟩,
  .one ⟨some 13, .mv (.t 60), none⟩,
  .one ⟨some 14, .mv (.t 61), none⟩]
def c19k2 : ICode := .kill 123 [2, 3, 5, 6, 7, 8, 9, 10, 11, 12] (.ops c19r2)
def c19s3 : ICode := (.seq c19k2 c19s1)
def c19r4 : List Seg := [
  .one ⟨some 52, .fieldA 1 (.t 1), none⟩,
  .one ⟨some 53, .load1 (.t 52), none⟩,
  .one ⟨some 54, .mkagg [.int .i64 0, .int .i64 0, .int .i64 0] [(0, 1, (.c (.int .i64 0))), (1, 1, (.c (.int .i64 1))), (2, 1, (.c (.int .i64 2)))], none⟩,
  .one ⟨some 55, .mkslice 1 [.int .i64 0, .int .i64 0, .int .i64 0] [(0, 3, (.t 54))], none⟩,
  .one ⟨some 56, .mkagg [.int .i64 0, .nilslice, .nilslice] [(0, 1, (.c (.int .i64 3))), (1, 1, (.t 53)), (2, 1, (.t 55))], none⟩,
  .one ⟨some 12, .box (.c (.agg [.int .i64 0, .nilslice, .nilslice])), none⟩,
  .one ⟨none, .storeN 3 (.t 12) (.t 56), none⟩]
def c19k4 : ICode := .kill 123 [1, 2, 3, 5, 6, 7, 8, 9, 10, 11] (.ops c19r4)
def c19s5 : ICode := (.seq c19k4 c19s3)
def c19r6 : List Seg := [
  .one ⟨some 43, .mkagg [.int .i64 0, .int .i64 0] [(0, 1, (.c (.int .i64 0))), (1, 1, (.c (.int .i64 1)))], none⟩,
  .one ⟨some 44, .mkagg [.int .i64 0, .int .i64 0] [(0, 1, (.c (.int .i64 0))), (1, 1, (.c (.int .i64 3)))], none⟩,
  .one ⟨some 45, .mkagg [.int .i64 0, .int .i64 0] [(0, 1, (.c (.int .i64 1))), (1, 1, (.c (.int .i64 2)))], none⟩,
  .one ⟨some 46, .mkagg [.int .i64 0, .int .i64 0] [(0, 1, (.c (.int .i64 2))), (1, 1, (.c (.int .i64 3)))], none⟩,
  .one ⟨some 47, .mkslice 4 [.int .i64 0, .int .i64 0, .int .i64 0, .int .i64 0, .int .i64 0, .int .i64 0, .int .i64 0, .int .i64 0] [(0, 2, (.t 43)), (2, 2, (.t 44)), (4, 2, (.t 45)), (6, 2, (.t 46))], none⟩,
  .one ⟨some 48, .mkagg [.int .i64 0, .nilslice, .nilslice] [(0, 1, (.c (.int .i64 4))), (1, 1, (.t 47))], none⟩,
  .one ⟨some 49, .call [] (.c (.func 16 [])) [(.t 48)], none⟩,
  .one ⟨some 42, .mv (.t 49), none⟩,
  .one ⟨some 50, .ext (.t 42) 0, none⟩,
  .one ⟨some 51, .ext (.t 42) 1, none⟩,
  .one ⟨some 10, .mv (.t 50), none⟩,
  .one ⟨some 11, .mv (.t 51), none⟩]
def c19k6 : ICode := .kill 123 [1, 2, 3, 5, 6, 7, 8, 9] (.ops c19r6)
def c19s7 : ICode := (.seq c19k6 c19s5)
def c19r8 : List Seg := [
  .one ⟨some 34, .mkagg [.int .i64 0, .int .i64 0] [(0, 1, (.c (.int .i64 0))), (1, 1, (.c (.int .i64 1)))], none⟩,
  .one ⟨some 35, .mkslice 1 [.int .i64 0, .int .i64 0] [(0, 2, (.t 34))], none⟩,
  .one ⟨some 36, .mkagg [.int .i64 0, .nilslice, .nilslice] [(0, 1, (.c (.int .i64 2))), (1, 1, (.t 35))], none⟩,
  .one ⟨some 37, .mkslice 1 [.int .i64 0] [(0, 1, (.c (.int .i64 7)))], none⟩,
  .one ⟨some 38, .call [] (.c (.func 41 [])) [(.t 36), (.t 37)], none⟩,
  .one ⟨some 33, .mv (.t 38), none⟩,
  .one ⟨some 39, .ext (.t 33) 0, none⟩,
  .one ⟨some 40, .ext (.t 33) 1, none⟩,
  .one ⟨some 41, .ext (.t 33) 2, none⟩,
  .one ⟨some 7, .mv (.t 39), none⟩,
  .one ⟨some 8, .mv (.t 40), none⟩,
  .one ⟨some 9, .mv (.t 41), none⟩]
def c19k8 : ICode := .kill 123 [1, 2, 3, 5, 6] (.ops c19r8)
def c19s9 : ICode := (.seq c19k8 c19s7)
def c19r10 : List Seg := [
  .one ⟨some 27, .loadN 3 (.t 1), none⟩,
  .one ⟨some 28, .mkslice 3 [.int .i64 0, .int .i64 0, .int .i64 0] [(0, 1, (.c (.int .i64 1))), (1, 1, (.c (.int .i64 1))), (2, 1, (.c (.int .i64 1)))], none⟩,
  .one ⟨some 29, .call [] (.c (.func 41 [])) [(.t 27), (.t 28)], none⟩,
  .one ⟨some 26, .mv (.t 29), none⟩,
  .one ⟨some 30, .ext (.t 26) 0, none⟩,
  .one ⟨some 31, .ext (.t 26) 1, none⟩,
  .one ⟨some 32, .ext (.t 26) 2, none⟩,
  .one ⟨some 4, .mv (.t 30), none⟩,
  .one ⟨some 5, .mv (.t 31), none⟩,
  .one ⟨some 6, .mv (.t 32), none⟩]
def c19k10 : ICode := .kill 123 [1, 2, 3] (.ops c19r10)
def c19s11 : ICode := (.seq c19k10 c19s9)
def c19r12 : List Seg := [
  .one ⟨some 21, .loadN 3 (.t 1), none⟩,
  .one ⟨some 22, .mkslice 3 [.int .i64 0, .int .i64 0, .int .i64 0] [(0, 1, (.c (.int .i64 1))), (1, 1, (.c (.int .i64 1))), (2, 1, (.c (.int .i64 1)))], none⟩,
  .one ⟨some 23, .call [] (.c (.func 23 [])) [(.t 21), (.t 22)], none⟩,
  .one ⟨some 20, .mv (.t 23), none⟩,
  .one ⟨some 24, .ext (.t 20) 0, none⟩,
  .one ⟨some 25, .ext (.t 20) 1, none⟩,
  .one ⟨some 2, .box (.c (.agg [.nilslice, .nilslice, .nilslice])), none⟩,
  .one ⟨none, .storeN 3 (.t 2) (.t 24), none⟩,
  .one ⟨some 3, .mv (.t 25), none⟩]
def c19k12 : ICode := .kill 123 [1] (.ops c19r12)
def c19s13 : ICode := (.seq c19k12 c19s11)
def c19r14 : List Seg := [
  .one ⟨some 15, .mkagg [.int .i64 0, .int .i64 0] [(0, 1, (.c (.int .i64 0))), (1, 1, (.c (.int .i64 1)))], none⟩,
  .one ⟨some 16, .mkagg [.int .i64 0, .int .i64 0] [(0, 1, (.c (.int .i64 0))), (1, 1, (.c (.int .i64 2)))], none⟩,
  .one ⟨some 17, .mkagg [.int .i64 0, .int .i64 0] [(0, 1, (.c (.int .i64 1))), (1, 1, (.c (.int .i64 2)))], none⟩,
  .one ⟨some 18, .mkslice 3 [.int .i64 0, .int .i64 0, .int .i64 0, .int .i64 0, .int .i64 0, .int .i64 0] [(0, 2, (.t 15)), (2, 2, (.t 16)), (4, 2, (.t 17))], none⟩,
  .one ⟨some 19, .mkagg [.int .i64 0, .nilslice, .nilslice] [(0, 1, (.c (.int .i64 3))), (1, 1, (.t 18))], none⟩,
  .one ⟨some 1, .box (.c (.agg [.int .i64 0, .nilslice, .nilslice])), none⟩,
  .one ⟨none, .storeN 3 (.t 1) (.t 19), none⟩]
def c19k14 : ICode := .kill 123 [] (.ops c19r14)
def c19s15 : ICode := (.seq c19k14 c19s13)
def c19r16 : List Seg := [
  .one ⟨some 0, .mv (.c (.bool false)), none⟩]
def c19k16 : ICode := .kill 123 [] (.ops c19r16)
def c19b : ICode := (.seq c19k16 c19s15)
def c19 : IFn := ⟨123, [.t 0], c19b⟩
def h19 : List (Nat × Nat × List Nat) := [(0, (123, [])), (1, (123, [])), (2, (123, [1])), (3, (123, [1, 2, 3])), (4, (123, [1, 2, 3, 5, 6])), (5, (123, [1, 2, 3, 5, 6, 7, 8, 9])), (6, (123, [1, 2, 3, 5, 6, 7, 8, 9, 10, 11])), (7, (123, [2, 3, 5, 6, 7, 8, 9, 10, 11, 12])), (8, (123, [2, 3, 5, 6, 7, 8, 9, 10, 11, 13, 14]))]
def c20r0 : List Seg := [
  .one ⟨some 29, .mv (.t 5), none⟩,
  .one ⟨some 4, .mv (.t 29), none⟩]
def c20k0 : ICode := .kill 30 [5] (.ops c20r0)
def c20s1 : ICode := (.seq c20k0 .ret)
def c20r3 : List Seg := [
  .one ⟨some 11, .mv (.t 6), none⟩,
  .one ⟨some 12, .bin .add (.t 11) (.c (.int .i64 1)), none⟩,
  .one ⟨some 6, .mv (.t 12), none⟩]
def c20k3 : ICode := .kill 30 [0, 1, 5, 6] (.ops c20r3)
def c20r4 : List Seg := [
  .one ⟨some 25, .mv (.t 5), none⟩,
  .one ⟨some 26, .mv (.t 7), none⟩,
  .one ⟨some 27, .mkslice 1 [.int .i64 0] [(0, 1, (.t 26))], none⟩,
  .one ⟨some 28, .app 1 8 (.t 25) (.t 27), none⟩,
  .one ⟨some 5, .mv (.t 28), none⟩]
def c20k4 : ICode := .kill 30 [0, 1, 5, 6, 7] (.ops c20r4)
def c20r5 : List Seg := [
  .one ⟨some 17, .mv (.t 0), none⟩,
  .one ⟨some 18, .mv (.t 6), none⟩,
  .one ⟨some 19, .idxS 1 (.t 17) (.t 18), none⟩,
  .one ⟨some 20, .load1 (.t 19), none⟩,
  .one ⟨some 21, .conv .u64 (.t 20), none⟩,
  .one ⟨some 22, .bin .rem (.t 21) (.c (.int .u64 201)), none⟩,
  .one ⟨some 23, .conv .i64 (.t 22), none⟩,
  .one ⟨some 24, .bin .sub (.t 23) (.c (.int .i64 100)), none⟩,
  .one ⟨some 7, .mv (.t 24), none⟩]
def c20k5 : ICode := .kill 30 [0, 1, 5, 6] (.ops c20r5)
def c20s6 : ICode := (.cond (.t 16) c20k5 .skip)
def c20r7 : List Seg := [
  .one ⟨some 13, .mv (.t 6), none⟩,
  .one ⟨some 14, .mv (.t 0), none⟩,
  .one ⟨some 15, .len 0 (.t 14), none⟩,
  .one ⟨some 16, .bin .lss (.t 13) (.t 15), none⟩]
def c20k7 : ICode := .kill 30 [0, 1, 5, 6, 7] (.ops c20r7)
def c20s8 : ICode := (.seq (.seq c20k7 c20s6) c20k4)
def c20r9 : List Seg := [
  .one ⟨some 7, .mv (.c (.int .i64 0)), none⟩]
def c20k9 : ICode := .kill 30 [0, 1, 5, 6] (.ops c20r9)
def c20s10 : ICode := (.seq (.block 1 (.seq c20k9 c20s8)) c20k3)
def c20s11 : ICode := (.cond (.t 10) .skip (.exit 0))
def c20r12 : List Seg := [
  .one ⟨some 8, .mv (.t 6), none⟩,
  .one ⟨some 9, .mv (.t 1), none⟩,
  .one ⟨some 10, .bin .lss (.t 8) (.t 9), none⟩]
def c20k12 : ICode := .kill 30 [0, 1, 5, 6] (.ops c20r12)
def c20l2 : ICode := (.seq (.seq c20k12 c20s11) c20s10)
def c20s13 : ICode := (.block 0 (.loop c20l2))
def c20r14 : List Seg := [
  .one ⟨some 6, .mv (.c (.int .i64 0)), none⟩]
def c20k14 : ICode := .kill 30 [0, 1, 5] (.ops c20r14)
def c20s15 : ICode := (.seq (.seq c20k14 c20s13) c20s1)
def c20r16 : List Seg := [
  .one ⟨some 5, .mv (.c .nilslice), none⟩]
def c20k16 : ICode := .kill 30 [0, 1] (.ops c20r16)
def c20s17 : ICode := (.seq c20k16 c20s15)
def c20r18 : List Seg := [
  .one ⟨some 4, .mv (.c .nilslice), none⟩]
def c20k18 : ICode := .kill 30 [0, 1] (.ops c20r18)
def c20b : ICode := (.seq c20k18 c20s17)
def c20 : IFn := ⟨30, [.t 4], c20b⟩
def h20 : List (Nat × Nat × List Nat) := [(0, (30, [0, 1])), (1, (30, [0, 1])), (2, (30, [0, 1, 5])), (3, (30, [0, 1, 5, 6])), (5, (30, [0, 1, 5, 6])), (6, (30, [0, 1, 5, 6, 7])), (7, (30, [0, 1, 5, 6])), (8, (30, [0, 1, 5, 6, 7])), (4, (30, [0, 1, 5, 6])), (9, (30, [5]))]
def c21r0 : List Seg := [
  .one ⟨some 6, .mv (.t 5), none⟩,
  .one ⟨some 7, .mv (.t 0), none⟩,
  .one ⟨some 8, .mv (.t 0), none⟩,
  .one ⟨some 9, .len 0 (.t 8), none⟩,
  .one ⟨some 10, .mv (.t 1), none⟩,
  .one ⟨some 11, .mn [(.t 9), (.t 10)], none⟩,
  .one ⟨some 12, .sliceS 1 (.t 7) none (some (.t 11)) none, none⟩,
  .one ⟨some 13, .app 1 8 (.t 6) (.t 12), none⟩,
  .one ⟨some 4, .mv (.t 13), none⟩]
def c21k0 : ICode := .kill 14 [0, 1, 5] (.ops c21r0)
def c21s1 : ICode := (.seq c21k0 .ret)
def c21r2 : List Seg := [
  .one ⟨some 5, .mv (.c .nilslice), none⟩]
def c21k2 : ICode := .kill 14 [0, 1] (.ops c21r2)
def c21s3 : ICode := (.seq c21k2 c21s1)
def c21r4 : List Seg := [
  .one ⟨some 4, .mv (.c .nilslice), none⟩]
def c21k4 : ICode := .kill 14 [0, 1] (.ops c21r4)
def c21b : ICode := (.seq c21k4 c21s3)
def c21 : IFn := ⟨14, [.t 4], c21b⟩
def h21 : List (Nat × Nat × List Nat) := [(0, (14, [0, 1])), (1, (14, [0, 1])), (2, (14, [0, 1, 5]))]
def c22r0 : List Seg := [
  .one ⟨some 52, .mv (.t 7), none⟩,
  .one ⟨some 4, .mv (.t 52), none⟩,
  .one ⟨some 5, .mv (.c (.int .i64 0)), none⟩]
def c22k0 : ICode := .kill 53 [7] (.ops c22r0)
def c22s1 : ICode := (.seq c22k0 .ret)
def c22r3 : List Seg := [
  .one ⟨some 51, .bin .add (.t 24) (.c (.int .i64 1)), none⟩,
  .one ⟨some 24, .mv (.t 51), none⟩]
def c22k3 : ICode := .kill 53 [1, 7, 22, 23, 24] (.ops c22r3)
def c22r4 : List Seg := [
  .grp [(⟨some 40, .mv (.t 7), none⟩, 0), (⟨some 41, .idxA 2 1 (.t 9) (.c (.int .i64 1)), none⟩, 0), (⟨some 42, .load1 (.t 41), none⟩, 2), (⟨some 43, .idxS 1 (.t 40) (.t 42), none⟩, 7), (⟨some 44, .load1 (.t 43), none⟩, 15), (⟨some 45, .mv (.t 1), none⟩, 0), (⟨some 46, .mv (.t 8), none⟩, 0), (⟨some 47, .idxS 1 (.t 45) (.t 46), none⟩, 96), (⟨some 48, .load1 (.t 47), none⟩, 224)],
  .one ⟨some 49, .bin .add (.t 44) (.t 48), none⟩,
  .one ⟨some 50, .idxS 1 (.t 40) (.t 42), none⟩,
  .one ⟨none, .store1 (.t 50) (.t 49), none⟩]
def c22k4 : ICode := .kill 53 [1, 7, 8, 9, 22, 23, 24] (.ops c22r4)
def c22r5 : List Seg := [
  .grp [(⟨some 29, .mv (.t 7), none⟩, 0), (⟨some 30, .idxA 2 1 (.t 9) (.c (.int .i64 0)), none⟩, 0), (⟨some 31, .load1 (.t 30), none⟩, 2), (⟨some 32, .idxS 1 (.t 29) (.t 31), none⟩, 7), (⟨some 33, .load1 (.t 32), none⟩, 15), (⟨some 34, .mv (.t 1), none⟩, 0), (⟨some 35, .mv (.t 8), none⟩, 0), (⟨some 36, .idxS 1 (.t 34) (.t 35), none⟩, 96), (⟨some 37, .load1 (.t 36), none⟩, 224)],
  .one ⟨some 38, .bin .sub (.t 33) (.t 37), none⟩,
  .one ⟨some 39, .idxS 1 (.t 29) (.t 31), none⟩,
  .one ⟨none, .store1 (.t 39) (.t 38), none⟩]
def c22k5 : ICode := .kill 53 [1, 7, 8, 9, 22, 23, 24] (.ops c22r5)
def c22s6 : ICode := (.seq c22k5 c22k4)
def c22r7 : List Seg := [
  .one ⟨some 26, .mv (.t 24), none⟩,
  .one ⟨some 27, .idxS 2 (.t 22) (.t 24), none⟩,
  .one ⟨some 28, .loadN 2 (.t 27), none⟩,
  .one ⟨some 9, .box (.c (.agg [.int .i64 0, .int .i64 0])), none⟩,
  .one ⟨some 8, .mv (.t 26), none⟩,
  .one ⟨none, .storeN 2 (.t 9) (.t 28), none⟩]
def c22k7 : ICode := .kill 53 [1, 7, 22, 23, 24] (.ops c22r7)
def c22s8 : ICode := (.seq (.block 1 (.seq c22k7 c22s6)) c22k3)
def c22s9 : ICode := (.seq (.cond (.t 25) .skip (.exit 0)) c22s8)
def c22r10 : List Seg := [
  .one ⟨some 25, .bin .lss (.t 24) (.t 23), none⟩]
def c22k10 : ICode := .kill 53 [1, 7, 22, 23, 24] (.ops c22r10)
def c22l2 : ICode := (.seq c22k10 c22s9)
def c22s11 : ICode := (.block 0 (.loop c22l2))
def c22r12 : List Seg := [
  .one ⟨some 21, .fieldA 1 (.t 2), none⟩,
  .one ⟨some 22, .load1 (.t 21), none⟩,
  .one ⟨some 23, .len 0 (.t 22), none⟩,
  .one ⟨some 24, .mv (.c (.int .i64 0)), none⟩]
def c22k12 : ICode := .kill 53 [1, 2, 7] (.ops c22r12)
def c22s13 : ICode := (.seq (.seq c22k12 c22s11) c22s1)
def c22r14 : List Seg := [
  .one ⟨some 18, .fieldA 0 (.t 2), none⟩,
  .one ⟨some 19, .load1 (.t 18), none⟩,
  .one ⟨some 20, .make [.int .i64 0] 8 (.t 19) (.t 19), none⟩,
  .one ⟨some 7, .mv (.t 20), none⟩]
def c22k14 : ICode := .kill 53 [1, 2] (.ops c22r14)
def c22s15 : ICode := (.seq c22k14 c22s13)
def c22r16 : List Seg := [
  .one ⟨some 17, .mv (.t 6), none⟩,
  .one ⟨some 4, .mv (.c .nilslice), none⟩,
  .one ⟨some 5, .mv (.t 17), none⟩]
def c22k16 : ICode := .kill 53 [6] (.ops c22r16)
def c22s17 : ICode := (.cond (.t 16) (.seq c22k16 .ret) .skip)
def c22r18 : List Seg := [
  .one ⟨some 15, .mv (.t 6), none⟩,
  .one ⟨some 16, .bin .neq (.t 15) (.c (.int .i64 0)), none⟩]
def c22k18 : ICode := .kill 53 [1, 2, 6] (.ops c22r18)
def c22s19 : ICode := (.seq c22k18 c22s17)
def c22r20 : List Seg := [
  .one ⟨some 10, .loadN 3 (.t 2), none⟩,
  .one ⟨some 11, .mv (.t 1), none⟩,
  .one ⟨some 12, .loadN 3 (.t 2), none⟩,
  .one ⟨some 13, .bind 67 [(.t 12)], none⟩,
  .one ⟨some 14, .call [] (.c (.func 66 [])) [(.t 10), (.t 11), (.t 13)], none⟩,
  .one ⟨some 6, .mv (.t 14), none⟩]
def c22k20 : ICode := .kill 53 [1, 2] (.ops c22r20)
def c22s21 : ICode := (.seq (.seq c22k20 c22s19) c22s15)
def c22r22 : List Seg := [
  .one ⟨some 2, .box (.t 0), none⟩,
  .one ⟨some 4, .mv (.c .nilslice), none⟩,
  .one ⟨some 5, .mv (.c (.int .i64 0)), none⟩]
def c22k22 : ICode := .kill 53 [0, 1] (.ops c22r22)
def c22b : ICode := (.seq c22k22 c22s21)
def c22 : IFn := ⟨53, [.t 4, .t 5], c22b⟩
def h22 : List (Nat × Nat × List Nat) := [(0, (53, [0, 1])), (1, (53, [1, 2])), (2, (53, [1, 2, 6])), (3, (53, [6])), (4, (53, [1, 2])), (5, (53, [1, 2, 7])), (6, (53, [1, 7, 22, 23, 24])), (7, (53, [1, 7, 22, 23, 24])), (8, (53, [1, 7, 8, 9, 22, 23, 24])), (9, (53, [1, 7, 8, 9, 22, 23, 24])), (10, (53, [1, 7, 22, 23, 24])), (11, (53, [7]))]
def c23r0 : List Seg := [
  .one ⟨some 31, .loadN 3 (.t 7), none⟩,
  .one ⟨none, .storeN 3 (.t 4) (.t 31), none⟩,
  .one ⟨some 5, .mv (.c (.int .i64 0)), none⟩]
def c23k0 : ICode := .kill 32 [4, 7] (.ops c23r0)
def c23s1 : ICode := (.seq c23k0 .ret)
def c23r3 : List Seg := [
  .one ⟨some 30, .bin .add (.t 22) (.c (.int .i64 1)), none⟩,
  .one ⟨some 22, .mv (.t 30), none⟩]
def c23k3 : ICode := .kill 32 [4, 7, 21, 22] (.ops c23r3)
def c23r4 : List Seg := [
  .one ⟨some 26, .mv (.t 8), none⟩,
  .one ⟨some 27, .mv (.t 9), none⟩,
  .one ⟨some 28, .call [] (.c (.func 69 [])) [(.t 27)], none⟩,
  .one ⟨some 29, .idxA 3 1 (.t 7) (.t 26), none⟩,
  .one ⟨none, .store1 (.t 29) (.t 28), none⟩]
def c23k4 : ICode := .kill 32 [4, 7, 8, 9, 21, 22] (.ops c23r4)
def c23r5 : List Seg := [
  .one ⟨some 24, .mv (.t 22), none⟩,
  .one ⟨some 25, .idxV 3 1 false (.t 21) (.t 22), none⟩,
  .one ⟨some 8, .mv (.t 24), none⟩,
  .one ⟨some 9, .mv (.t 25), none⟩]
def c23k5 : ICode := .kill 32 [4, 7, 21, 22] (.ops c23r5)
def c23s6 : ICode := (.seq (.block 1 (.seq c23k5 c23k4)) c23k3)
def c23s7 : ICode := (.seq (.cond (.t 23) .skip (.exit 0)) c23s6)
def c23r8 : List Seg := [
  .one ⟨some 23, .bin .lss (.t 22) (.c (.int .i64 3)), none⟩]
def c23k8 : ICode := .kill 32 [4, 7, 21, 22] (.ops c23r8)
def c23l2 : ICode := (.seq c23k8 c23s7)
def c23s9 : ICode := (.block 0 (.loop c23l2))
def c23r10 : List Seg := [
  .one ⟨some 19, .loadN 3 (.t 2), none⟩,
  .one ⟨some 20, .mv (.t 1), none⟩,
  .one ⟨some 21, .call [] (.c (.func 68 [])) [(.t 19), (.t 20)], none⟩,
  .one ⟨some 22, .mv (.c (.int .i64 0)), none⟩]
def c23k10 : ICode := .kill 32 [1, 2, 4, 7] (.ops c23r10)
def c23s11 : ICode := (.seq (.seq c23k10 c23s9) c23s1)
def c23r12 : List Seg := [
  .one ⟨some 7, .box (.c (.agg [.nilslice, .nilslice, .nilslice])), none⟩]
def c23k12 : ICode := .kill 32 [1, 2, 4] (.ops c23r12)
def c23s13 : ICode := (.seq c23k12 c23s11)
def c23r14 : List Seg := [
  .one ⟨some 17, .mkagg [.nilslice, .nilslice, .nilslice] [], none⟩,
  .one ⟨some 18, .mv (.t 6), none⟩,
  .one ⟨none, .storeN 3 (.t 4) (.t 17), none⟩,
  .one ⟨some 5, .mv (.t 18), none⟩]
def c23k14 : ICode := .kill 32 [4, 6] (.ops c23r14)
def c23s15 : ICode := (.cond (.t 16) (.seq c23k14 .ret) .skip)
def c23r16 : List Seg := [
  .one ⟨some 15, .mv (.t 6), none⟩,
  .one ⟨some 16, .bin .neq (.t 15) (.c (.int .i64 0)), none⟩]
def c23k16 : ICode := .kill 32 [1, 2, 4, 6] (.ops c23r16)
def c23s17 : ICode := (.seq c23k16 c23s15)
def c23r18 : List Seg := [
  .one ⟨some 10, .loadN 3 (.t 2), none⟩,
  .one ⟨some 11, .mv (.t 1), none⟩,
  .one ⟨some 12, .loadN 3 (.t 2), none⟩,
  .one ⟨some 13, .bind 67 [(.t 12)], none⟩,
  .one ⟨some 14, .call [] (.c (.func 66 [])) [(.t 10), (.t 11), (.t 13)], none⟩,
  .one ⟨some 6, .mv (.t 14), none⟩]
def c23k18 : ICode := .kill 32 [1, 2, 4] (.ops c23r18)
def c23s19 : ICode := (.seq (.seq c23k18 c23s17) c23s13)
def c23r20 : List Seg := [
  .one ⟨some 2, .box (.t 0), none⟩,
  .one ⟨some 4, .box (.c (.agg [.nilslice, .nilslice, .nilslice])), none⟩,
  .one ⟨some 5, .mv (.c (.int .i64 0)), none⟩]
def c23k20 : ICode := .kill 32 [0, 1] (.ops c23r20)
def c23b : ICode := (.seq c23k20 c23s19)
def c23 : IFn := ⟨32, [.cellN 4 3, .t 5], c23b⟩
def h23 : List (Nat × Nat × List Nat) := [(0, (32, [0, 1])), (1, (32, [1, 2, 4])), (2, (32, [1, 2, 4, 6])), (3, (32, [4, 6])), (4, (32, [1, 2, 4])), (5, (32, [1, 2, 4, 7])), (6, (32, [4, 7, 21, 22])), (7, (32, [4, 7, 21, 22])), (8, (32, [4, 7, 8, 9, 21, 22])), (9, (32, [4, 7, 21, 22])), (10, (32, [4, 7]))]
def c24r0 : List Seg := [
  .one ⟨some 15, .loadN 3 (.t 2), none⟩,
  .one ⟨some 16, .mv (.t 1), none⟩,
  .one ⟨some 17, .call [] (.c (.func 70 [])) [(.t 15), (.t 16)], none⟩,
  .one ⟨some 18, .call [] (.c (.func 69 [])) [(.t 17)], none⟩,
  .one ⟨some 4, .mv (.t 18), none⟩,
  .one ⟨some 5, .mv (.c (.int .i64 0)), none⟩]
def c24k0 : ICode := .kill 19 [1, 2] (.ops c24r0)
def c24s1 : ICode := (.seq c24k0 .ret)
def c24r2 : List Seg := [
  .one ⟨some 14, .mv (.t 6), none⟩,
  .one ⟨some 4, .mv (.c .nilslice), none⟩,
  .one ⟨some 5, .mv (.t 14), none⟩]
def c24k2 : ICode := .kill 19 [6] (.ops c24r2)
def c24s3 : ICode := (.cond (.t 13) (.seq c24k2 .ret) .skip)
def c24r4 : List Seg := [
  .one ⟨some 12, .mv (.t 6), none⟩,
  .one ⟨some 13, .bin .neq (.t 12) (.c (.int .i64 0)), none⟩]
def c24k4 : ICode := .kill 19 [1, 2, 6] (.ops c24r4)
def c24s5 : ICode := (.seq c24k4 c24s3)
def c24r6 : List Seg := [
  .one ⟨some 7, .loadN 3 (.t 2), none⟩,
  .one ⟨some 8, .mv (.t 1), none⟩,
  .one ⟨some 9, .loadN 3 (.t 2), none⟩,
  .one ⟨some 10, .bind 67 [(.t 9)], none⟩,
  .one ⟨some 11, .call [] (.c (.func 66 [])) [(.t 7), (.t 8), (.t 10)], none⟩,
  .one ⟨some 6, .mv (.t 11), none⟩]
def c24k6 : ICode := .kill 19 [1, 2] (.ops c24r6)
def c24s7 : ICode := (.seq (.seq c24k6 c24s5) c24s1)
def c24r8 : List Seg := [
  .one ⟨some 2, .box (.t 0), none⟩,
  .one ⟨some 4, .mv (.c .nilslice), none⟩,
  .one ⟨some 5, .mv (.c (.int .i64 0)), none⟩]
def c24k8 : ICode := .kill 19 [0, 1] (.ops c24r8)
def c24b : ICode := (.seq c24k8 c24s7)
def c24 : IFn := ⟨19, [.t 4, .t 5], c24b⟩
def h24 : List (Nat × Nat × List Nat) := [(0, (19, [0, 1])), (1, (19, [1, 2])), (2, (19, [1, 2, 6])), (3, (19, [6])), (4, (19, [1, 2]))]
def c25r0 : List Seg := [
  .one ⟨some 110, .loadN 3 (.t 8), none⟩,
  .one ⟨none, .storeN 3 (.t 4) (.t 110), none⟩]
def c25k0 : ICode := .kill 111 [4, 8] (.ops c25r0)
def c25s1 : ICode := (.seq c25k0 .ret)
def c25r3 : List Seg := [
  .one ⟨some 32, .mv (.t 9), none⟩,
  .one ⟨some 33, .bin .add (.t 32) (.c (.int .i64 1)), none⟩,
  .one ⟨some 9, .mv (.t 33), none⟩]
def c25k3 : ICode := .kill 111 [1, 2, 4, 5, 6, 8, 9] (.ops c25r3)
def c25r4 : List Seg := [
  .one ⟨some 105, .mv (.t 17), none⟩,
  .one ⟨some 106, .loadN 2 (.t 14), none⟩,
  .one ⟨some 107, .mkslice 1 [.int .i64 0, .int .i64 0] [(0, 2, (.t 106))], none⟩,
  .one ⟨some 108, .app 2 16 (.t 105) (.t 107), none⟩,
  .one ⟨some 109, .idxA 3 1 (.t 8) (.c (.int .i64 2)), none⟩,
  .one ⟨none, .store1 (.t 109) (.t 108), none⟩]
def c25k4 : ICode := .kill 111 [1, 2, 4, 5, 6, 8, 9, 14, 17] (.ops c25r4)
def c25r5 : List Seg := [
  .one ⟨some 100, .mv (.t 16), none⟩,
  .one ⟨some 101, .loadN 2 (.t 11), none⟩,
  .one ⟨some 102, .mkslice 1 [.int .i64 0, .int .i64 0] [(0, 2, (.t 101))], none⟩,
  .one ⟨some 103, .app 2 16 (.t 100) (.t 102), none⟩,
  .one ⟨some 104, .idxA 3 1 (.t 8) (.c (.int .i64 1)), none⟩,
  .one ⟨none, .store1 (.t 104) (.t 103), none⟩]
def c25k5 : ICode := .kill 111 [1, 2, 4, 5, 6, 8, 9, 11, 14, 16, 17] (.ops c25r5)
def c25s6 : ICode := (.seq c25k5 c25k4)
def c25r7 : List Seg := [
  .one ⟨some 95, .mv (.t 15), none⟩,
  .one ⟨some 96, .loadN 2 (.t 10), none⟩,
  .one ⟨some 97, .mkslice 1 [.int .i64 0, .int .i64 0] [(0, 2, (.t 96))], none⟩,
  .one ⟨some 98, .app 2 16 (.t 95) (.t 97), none⟩,
  .one ⟨some 99, .idxA 3 1 (.t 8) (.c (.int .i64 0)), none⟩,
  .one ⟨none, .store1 (.t 99) (.t 98), none⟩]
def c25k7 : ICode := .kill 111 [1, 2, 4, 5, 6, 8, 9, 10, 11, 14, 15, 16, 17] (.ops c25r7)
def c25s8 : ICode := (.seq c25k7 c25s6)
def c25r9 : List Seg := [
  .grp [(⟨some 89, .idxA 3 1 (.t 8) (.c (.int .i64 0)), none⟩, 0), (⟨some 90, .load1 (.t 89), none⟩, 1), (⟨some 91, .idxA 3 1 (.t 8) (.c (.int .i64 1)), none⟩, 0), (⟨some 92, .load1 (.t 91), none⟩, 4), (⟨some 93, .idxA 3 1 (.t 8) (.c (.int .i64 2)), none⟩, 0), (⟨some 94, .load1 (.t 93), none⟩, 16), (⟨some 15, .mv (.t 90), none⟩, 3), (⟨some 16, .mv (.t 92), none⟩, 79)],
  .one ⟨some 17, .mv (.t 94), none⟩]
def c25k9 : ICode := .kill 111 [1, 2, 4, 5, 6, 8, 9, 10, 11, 14] (.ops c25r9)
def c25s10 : ICode := (.seq c25k9 c25s8)
def c25r11 : List Seg := [
  .grp [(⟨some 80, .mv (.t 1), none⟩, 0), (⟨some 81, .mv (.t 9), none⟩, 0), (⟨some 82, .idxS 1 (.t 80) (.t 81), none⟩, 3), (⟨some 83, .load1 (.t 82), none⟩, 7), (⟨some 84, .mkagg [.int .i64 0, .int .i64 0] [(0, 1, (.t 83)), (1, 1, (.c (.int .i64 1)))], none⟩, 15), (⟨some 85, .loadN 2 (.t 10), none⟩, 0), (⟨some 86, .call [] (.c (.func 34 [])) [(.t 84), (.t 85)], none⟩, 63), (⟨some 87, .loadN 2 (.t 11), none⟩, 0), (⟨some 88, .call [] (.c (.func 34 [])) [(.t 86), (.t 87)], none⟩, 255), (⟨some 14, .box (.c (.agg [.int .i64 0, .int .i64 0])), none⟩, 0)],
  .one ⟨none, .storeN 2 (.t 14) (.t 88), none⟩]
def c25k11 : ICode := .kill 111 [1, 2, 4, 5, 6, 8, 9, 10, 11] (.ops c25r11)
def c25s12 : ICode := (.seq c25k11 c25s10)
def c25r14 : List Seg := [
  .one ⟨some 59, .mv (.t 12), none⟩,
  .one ⟨some 60, .bin .add (.t 59) (.c (.int .i64 1)), none⟩,
  .one ⟨some 12, .mv (.t 60), none⟩]
def c25k14 : ICode := .kill 111 [1, 2, 4, 5, 6, 8, 9, 10, 11, 12] (.ops c25r14)
def c25r15 : List Seg := [
  .grp [(⟨some 71, .loadN 2 (.t 11), none⟩, 0), (⟨some 72, .mv (.t 6), none⟩, 0), (⟨some 73, .mv (.t 12), none⟩, 0), (⟨some 74, .idxS 2 (.t 72) (.t 73), none⟩, 6), (⟨some 75, .loadN 2 (.t 74), none⟩, 14), (⟨some 76, .mv (.t 13), none⟩, 0), (⟨some 77, .mkagg [.int .i64 0, .int .i64 0] [(0, 1, (.t 76)), (1, 1, (.c (.int .i64 1)))], none⟩, 32), (⟨some 78, .call [] (.c (.func 35 [])) [(.t 75), (.t 77)], none⟩, 126)],
  .one ⟨some 79, .call [] (.c (.func 32 [])) [(.t 71), (.t 78)], none⟩,
  .one ⟨none, .storeN 2 (.t 11) (.t 79), none⟩]
def c25k15 : ICode := .kill 111 [1, 2, 4, 5, 6, 8, 9, 10, 11, 12, 13] (.ops c25r15)
def c25r16 : List Seg := [
  .grp [(⟨some 61, .loadN 3 (.t 2), none⟩, 0), (⟨some 62, .fieldA 2 (.t 2), none⟩, 0), (⟨some 63, .load1 (.t 62), none⟩, 2), (⟨some 64, .len 0 (.t 63), none⟩, 6), (⟨some 65, .mv (.t 12), none⟩, 0), (⟨some 66, .call [] (.c (.func 71 [])) [(.t 64), (.t 65)], none⟩, 30), (⟨some 67, .call [] (.c (.func 54 [])) [(.t 61), (.t 66)], none⟩, 63), (⟨some 68, .mv (.t 9), none⟩, 0)],
  .one ⟨some 69, .idxS 1 (.t 67) (.t 68), none⟩,
  .one ⟨some 70, .load1 (.t 69), none⟩,
  .one ⟨some 13, .mv (.t 70), none⟩]
def c25k16 : ICode := .kill 111 [1, 2, 4, 5, 6, 8, 9, 10, 11, 12] (.ops c25r16)
def c25s17 : ICode := (.seq (.block 3 (.seq c25k16 c25k15)) c25k14)
def c25s18 : ICode := (.cond (.t 58) .skip (.exit 2))
def c25r19 : List Seg := [
  .one ⟨some 54, .mv (.t 12), none⟩,
  .one ⟨some 55, .fieldA 2 (.t 2), none⟩,
  .one ⟨some 56, .load1 (.t 55), none⟩,
  .one ⟨some 57, .len 0 (.t 56), none⟩,
  .one ⟨some 58, .bin .lss (.t 54) (.t 57), none⟩]
def c25k19 : ICode := .kill 111 [1, 2, 4, 5, 6, 8, 9, 10, 11, 12] (.ops c25r19)
def c25l13 : ICode := (.seq (.seq c25k19 c25s18) c25s17)
def c25s20 : ICode := (.block 2 (.loop c25l13))
def c25r21 : List Seg := [
  .one ⟨some 12, .mv (.c (.int .i64 0)), none⟩]
def c25k21 : ICode := .kill 111 [1, 2, 4, 5, 6, 8, 9, 10, 11] (.ops c25r21)
def c25s22 : ICode := (.seq (.seq c25k21 c25s20) c25s12)
def c25r23 : List Seg := [
  .one ⟨some 53, .mkagg [.int .i64 0, .int .i64 0] [(0, 1, (.c (.int .i64 0))), (1, 1, (.c (.int .i64 1)))], none⟩,
  .one ⟨some 11, .box (.c (.agg [.int .i64 0, .int .i64 0])), none⟩,
  .one ⟨none, .storeN 2 (.t 11) (.t 53), none⟩]
def c25k23 : ICode := .kill 111 [1, 2, 4, 5, 6, 8, 9, 10] (.ops c25r23)
def c25s24 : ICode := (.seq c25k23 c25s22)
def c25r25 : List Seg := [
  .grp [(⟨some 34, .mv (.t 5), none⟩, 0), (⟨some 35, .fieldA 1 (.t 2), none⟩, 0), (⟨some 36, .load1 (.t 35), none⟩, 2), (⟨some 37, .mv (.t 9), none⟩, 0), (⟨some 38, .idxS 2 (.t 36) (.t 37), none⟩, 14), (⟨some 39, .idxA 2 1 (.t 38) (.c (.int .i64 1)), none⟩, 30), (⟨some 40, .load1 (.t 39), none⟩, 62), (⟨some 41, .idxS 2 (.t 34) (.t 40), none⟩, 127), (⟨some 42, .loadN 2 (.t 41), none⟩, 255), (⟨some 43, .mv (.t 5), none⟩, 0), (⟨some 44, .fieldA 1 (.t 2), none⟩, 0), (⟨some 45, .load1 (.t 44), none⟩, 1024), (⟨some 46, .mv (.t 9), none⟩, 0), (⟨some 47, .idxS 2 (.t 45) (.t 46), none⟩, 7168), (⟨some 48, .idxA 2 1 (.t 47) (.c (.int .i64 0)), none⟩, 15360), (⟨some 49, .load1 (.t 48), none⟩, 31744), (⟨some 50, .idxS 2 (.t 43) (.t 49), none⟩, 65024), (⟨some 51, .loadN 2 (.t 50), none⟩, 130560), (⟨some 52, .call [] (.c (.func 34 [])) [(.t 42), (.t 51)], none⟩, 262143), (⟨some 10, .box (.c (.agg [.int .i64 0, .int .i64 0])), none⟩, 0)],
  .one ⟨none, .storeN 2 (.t 10) (.t 52), none⟩]
def c25k25 : ICode := .kill 111 [1, 2, 4, 5, 6, 8, 9] (.ops c25r25)
def c25s26 : ICode := (.seq (.block 1 (.seq c25k25 c25s24)) c25k3)
def c25s27 : ICode := (.cond (.t 31) .skip (.exit 0))
def c25r28 : List Seg := [
  .one ⟨some 27, .mv (.t 9), none⟩,
  .one ⟨some 28, .fieldA 1 (.t 2), none⟩,
  .one ⟨some 29, .load1 (.t 28), none⟩,
  .one ⟨some 30, .len 0 (.t 29), none⟩,
  .one ⟨some 31, .bin .lss (.t 27) (.t 30), none⟩]
def c25k28 : ICode := .kill 111 [1, 2, 4, 5, 6, 8, 9] (.ops c25r28)
def c25l2 : ICode := (.seq (.seq c25k28 c25s27) c25s26)
def c25s29 : ICode := (.block 0 (.loop c25l2))
def c25r30 : List Seg := [
  .one ⟨some 9, .mv (.c (.int .i64 0)), none⟩]
def c25k30 : ICode := .kill 111 [1, 2, 4, 5, 6, 8] (.ops c25r30)
def c25s31 : ICode := (.seq (.seq c25k30 c25s29) c25s1)
def c25r32 : List Seg := [
  .one ⟨some 8, .box (.c (.agg [.nilslice, .nilslice, .nilslice])), none⟩]
def c25k32 : ICode := .kill 111 [1, 2, 4, 5, 6] (.ops c25r32)
def c25s33 : ICode := (.seq c25k32 c25s31)
def c25r34 : List Seg := [
  .one ⟨some 22, .loadN 3 (.t 2), none⟩,
  .one ⟨some 23, .mv (.t 1), none⟩,
  .one ⟨some 24, .call [] (.c (.func 65 [])) [(.t 22), (.t 23)], none⟩,
  .one ⟨some 21, .mv (.t 24), none⟩,
  .one ⟨some 25, .ext (.t 21) 0, none⟩,
  .one ⟨some 26, .ext (.t 21) 1, none⟩,
  .one ⟨some 6, .mv (.t 25), none⟩,
  .one ⟨some 7, .mv (.t 26), none⟩]
def c25k34 : ICode := .kill 111 [1, 2, 4, 5] (.ops c25r34)
def c25s35 : ICode := (.seq c25k34 c25s33)
def c25r36 : List Seg := [
  .one ⟨some 18, .loadN 3 (.t 2), none⟩,
  .one ⟨some 19, .mv (.t 1), none⟩,
  .one ⟨some 20, .call [] (.c (.func 52 [])) [(.t 18), (.t 19)], none⟩,
  .one ⟨some 5, .mv (.t 20), none⟩]
def c25k36 : ICode := .kill 111 [1, 2, 4] (.ops c25r36)
def c25s37 : ICode := (.seq c25k36 c25s35)
def c25r38 : List Seg := [
  .one ⟨some 2, .box (.t 0), none⟩,
  .one ⟨some 4, .box (.c (.agg [.nilslice, .nilslice, .nilslice])), none⟩]
def c25k38 : ICode := .kill 111 [0, 1] (.ops c25r38)
def c25b : ICode := (.seq c25k38 c25s37)
def c25 : IFn := ⟨111, [.cellN 4 3], c25b⟩
def h25 : List (Nat × Nat × List Nat) := [(0, (111, [0, 1])), (1, (111, [1, 2, 4])), (2, (111, [1, 2, 4, 5])), (3, (111, [1, 2, 4, 5, 6])), (4, (111, [1, 2, 4, 5, 6, 8])), (5, (111, [1, 2, 4, 5, 6, 8, 9])), (7, (111, [1, 2, 4, 5, 6, 8, 9])), (8, (111, [1, 2, 4, 5, 6, 8, 9, 10])), (9, (111, [1, 2, 4, 5, 6, 8, 9, 10, 11])), (10, (111, [1, 2, 4, 5, 6, 8, 9, 10, 11, 12])), (12, (111, [1, 2, 4, 5, 6, 8, 9, 10, 11, 12])), (13, (111, [1, 2, 4, 5, 6, 8, 9, 10, 11, 12, 13])), (11, (111, [1, 2, 4, 5, 6, 8, 9, 10, 11, 12])), (14, (111, [1, 2, 4, 5, 6, 8, 9, 10, 11])), (15, (111, [1, 2, 4, 5, 6, 8, 9, 10, 11, 14])), (16, (111, [1, 2, 4, 5, 6, 8, 9, 10, 11, 14, 15, 16, 17])), (17, (111, [1, 2, 4, 5, 6, 8, 9, 11, 14, 16, 17])), (18, (111, [1, 2, 4, 5, 6, 8, 9, 14, 17])), (6, (111, [1, 2, 4, 5, 6, 8, 9])), (19, (111, [4, 8]))]
def c26r0 : List Seg := [
  .grp [(⟨some 5, .fieldA 0 (.t 1), none⟩, 0), (⟨some 6, .load1 (.t 5), none⟩, 1), (⟨some 7, .mv (.t 3), none⟩, 0), (⟨some 8, .fieldA 1 (.t 1), none⟩, 0), (⟨some 9, .load1 (.t 8), none⟩, 8), (⟨some 10, .fieldA 1 (.t 1), none⟩, 0), (⟨some 11, .load1 (.t 10), none⟩, 32), (⟨some 12, .len 0 (.t 11), none⟩, 96), (⟨some 13, .mn [(.t 12), (.c (.int .i64 11))], none⟩, 224), (⟨some 14, .sliceS 2 (.t 9) none (some (.t 13)) none, none⟩, 504), (⟨some 15, .app 2 16 (.t 7) (.t 14), none⟩, 1020), (⟨some 16, .mv (.t 4), none⟩, 0), (⟨some 17, .fieldA 2 (.t 1), none⟩, 0), (⟨some 18, .load1 (.t 17), none⟩, 4096), (⟨some 19, .fieldA 2 (.t 1), none⟩, 0), (⟨some 20, .load1 (.t 19), none⟩, 16384), (⟨some 21, .len 0 (.t 20), none⟩, 49152), (⟨some 22, .mn [(.t 21), (.c (.int .i64 7))], none⟩, 114688), (⟨some 23, .sliceS 3 (.t 18) none (some (.t 22)) none, none⟩, 258048), (⟨some 24, .app 3 24 (.t 16) (.t 23), none⟩, 524284)],
  .one ⟨some 25, .mkagg [.int .i64 0, .nilslice, .nilslice] [(0, 1, (.t 6)), (1, 1, (.t 15)), (2, 1, (.t 24))], none⟩,
  .one ⟨none, .storeN 3 (.t 2) (.t 25), none⟩]
def c26k0 : ICode := .kill 26 [1, 2, 3, 4] (.ops c26r0)
def c26s1 : ICode := (.seq c26k0 .ret)
def c26r2 : List Seg := [
  .one ⟨some 4, .mv (.c .nilslice), none⟩]
def c26k2 : ICode := .kill 26 [1, 2, 3] (.ops c26r2)
def c26s3 : ICode := (.seq c26k2 c26s1)
def c26r4 : List Seg := [
  .one ⟨some 3, .mv (.c .nilslice), none⟩]
def c26k4 : ICode := .kill 26 [1, 2] (.ops c26r4)
def c26s5 : ICode := (.seq c26k4 c26s3)
def c26r6 : List Seg := [
  .one ⟨some 1, .box (.t 0), none⟩,
  .one ⟨some 2, .box (.c (.agg [.int .i64 0, .nilslice, .nilslice])), none⟩]
def c26k6 : ICode := .kill 26 [0] (.ops c26r6)
def c26b : ICode := (.seq c26k6 c26s5)
def c26 : IFn := ⟨26, [.cellN 2 3], c26b⟩
def h26 : List (Nat × Nat × List Nat) := [(0, (26, [0])), (1, (26, [1, 2])), (2, (26, [1, 2, 3])), (3, (26, [1, 2, 3, 4]))]
def c27r0 : List Seg := [
  .one ⟨some 4, .mv (.c (.bool true)), none⟩]
def c27k0 : ICode := .kill 26 [] (.ops c27r0)
def c27s1 : ICode := (.seq c27k0 .ret)
def c27r3 : List Seg := [
  .one ⟨some 15, .mv (.t 5), none⟩,
  .one ⟨some 16, .bin .add (.t 15) (.c (.int .i64 1)), none⟩,
  .one ⟨some 5, .mv (.t 16), none⟩]
def c27k3 : ICode := .kill 26 [0, 1, 5] (.ops c27r3)
def c27r4 : List Seg := [
  .one ⟨some 4, .mv (.c (.bool false)), none⟩]
def c27k4 : ICode := .kill 26 [] (.ops c27r4)
def c27s5 : ICode := (.cond (.t 25) (.seq c27k4 .ret) .skip)
def c27r6 : List Seg := [
  .grp [(⟨some 17, .mv (.t 0), none⟩, 0), (⟨some 18, .mv (.t 5), none⟩, 0), (⟨some 19, .idxS 1 (.t 17) (.t 18), none⟩, 3), (⟨some 20, .load1 (.t 19), none⟩, 7), (⟨some 21, .mv (.t 1), none⟩, 0), (⟨some 22, .mv (.t 5), none⟩, 0), (⟨some 23, .idxS 1 (.t 21) (.t 22), none⟩, 48), (⟨some 24, .load1 (.t 23), none⟩, 112)],
  .one ⟨some 25, .bin .neq (.t 20) (.t 24), none⟩]
def c27k6 : ICode := .kill 26 [0, 1, 5] (.ops c27r6)
def c27s7 : ICode := (.seq (.block 1 (.seq c27k6 c27s5)) c27k3)
def c27s8 : ICode := (.cond (.t 14) .skip (.exit 0))
def c27r9 : List Seg := [
  .one ⟨some 11, .mv (.t 5), none⟩,
  .one ⟨some 12, .mv (.t 0), none⟩,
  .one ⟨some 13, .len 0 (.t 12), none⟩,
  .one ⟨some 14, .bin .lss (.t 11) (.t 13), none⟩]
def c27k9 : ICode := .kill 26 [0, 1, 5] (.ops c27r9)
def c27l2 : ICode := (.seq (.seq c27k9 c27s8) c27s7)
def c27s10 : ICode := (.block 0 (.loop c27l2))
def c27r11 : List Seg := [
  .one ⟨some 5, .mv (.c (.int .i64 0)), none⟩]
def c27k11 : ICode := .kill 26 [0, 1] (.ops c27r11)
def c27s12 : ICode := (.seq (.seq c27k11 c27s10) c27s1)
def c27r13 : List Seg := [
  .one ⟨some 4, .mv (.c (.bool false)), none⟩]
def c27k13 : ICode := .kill 26 [] (.ops c27r13)
def c27s14 : ICode := (.cond (.t 10) (.seq c27k13 .ret) .skip)
def c27r15 : List Seg := [
  .one ⟨some 6, .mv (.t 0), none⟩,
  .one ⟨some 7, .len 0 (.t 6), none⟩,
  .one ⟨some 8, .mv (.t 1), none⟩,
  .one ⟨some 9, .len 0 (.t 8), none⟩,
  .one ⟨some 10, .bin .neq (.t 7) (.t 9), none⟩]
def c27k15 : ICode := .kill 26 [0, 1] (.ops c27r15)
def c27s16 : ICode := (.seq (.seq c27k15 c27s14) c27s12)
def c27r17 : List Seg := [
  .one ⟨some 4, .mv (.c (.bool false)), none⟩]
def c27k17 : ICode := .kill 26 [0, 1] (.ops c27r17)
def c27b : ICode := (.seq c27k17 c27s16)
def c27 : IFn := ⟨26, [.t 4], c27b⟩
def h27 : List (Nat × Nat × List Nat) := [(0, (26, [0, 1])), (1, (26, [0, 1])), (2, (26, [])), (3, (26, [0, 1])), (4, (26, [0, 1, 5])), (6, (26, [0, 1, 5])), (7, (26, [])), (5, (26, [0, 1, 5])), (8, (26, []))]
def c28r0 : List Seg := [
  .one ⟨some 4, .mv (.c (.bool true)), none⟩]
def c28k0 : ICode := .kill 26 [] (.ops c28r0)
def c28s1 : ICode := (.seq c28k0 .ret)
def c28r3 : List Seg := [
  .one ⟨some 15, .mv (.t 5), none⟩,
  .one ⟨some 16, .bin .add (.t 15) (.c (.int .i64 1)), none⟩,
  .one ⟨some 5, .mv (.t 16), none⟩]
def c28k3 : ICode := .kill 26 [0, 1, 5] (.ops c28r3)
def c28r4 : List Seg := [
  .one ⟨some 4, .mv (.c (.bool false)), none⟩]
def c28k4 : ICode := .kill 26 [] (.ops c28r4)
def c28s5 : ICode := (.cond (.t 25) (.seq c28k4 .ret) .skip)
def c28r6 : List Seg := [
  .grp [(⟨some 17, .mv (.t 0), none⟩, 0), (⟨some 18, .mv (.t 5), none⟩, 0), (⟨some 19, .idxS 2 (.t 17) (.t 18), none⟩, 3), (⟨some 20, .loadN 2 (.t 19), none⟩, 7), (⟨some 21, .mv (.t 1), none⟩, 0), (⟨some 22, .mv (.t 5), none⟩, 0), (⟨some 23, .idxS 2 (.t 21) (.t 22), none⟩, 48), (⟨some 24, .loadN 2 (.t 23), none⟩, 112)],
  .one ⟨some 25, .eqv true (.ints 2) (.t 20) (.t 24), none⟩]
def c28k6 : ICode := .kill 26 [0, 1, 5] (.ops c28r6)
def c28s7 : ICode := (.seq (.block 1 (.seq c28k6 c28s5)) c28k3)
def c28s8 : ICode := (.cond (.t 14) .skip (.exit 0))
def c28r9 : List Seg := [
  .one ⟨some 11, .mv (.t 5), none⟩,
  .one ⟨some 12, .mv (.t 0), none⟩,
  .one ⟨some 13, .len 0 (.t 12), none⟩,
  .one ⟨some 14, .bin .lss (.t 11) (.t 13), none⟩]
def c28k9 : ICode := .kill 26 [0, 1, 5] (.ops c28r9)
def c28l2 : ICode := (.seq (.seq c28k9 c28s8) c28s7)
def c28s10 : ICode := (.block 0 (.loop c28l2))
def c28r11 : List Seg := [
  .one ⟨some 5, .mv (.c (.int .i64 0)), none⟩]
def c28k11 : ICode := .kill 26 [0, 1] (.ops c28r11)
def c28s12 : ICode := (.seq (.seq c28k11 c28s10) c28s1)
def c28r13 : List Seg := [
  .one ⟨some 4, .mv (.c (.bool false)), none⟩]
def c28k13 : ICode := .kill 26 [] (.ops c28r13)
def c28s14 : ICode := (.cond (.t 10) (.seq c28k13 .ret) .skip)
def c28r15 : List Seg := [
  .one ⟨some 6, .mv (.t 0), none⟩,
  .one ⟨some 7, .len 0 (.t 6), none⟩,
  .one ⟨some 8, .mv (.t 1), none⟩,
  .one ⟨some 9, .len 0 (.t 8), none⟩,
  .one ⟨some 10, .bin .neq (.t 7) (.t 9), none⟩]
def c28k15 : ICode := .kill 26 [0, 1] (.ops c28r15)
def c28s16 : ICode := (.seq (.seq c28k15 c28s14) c28s12)
def c28r17 : List Seg := [
  .one ⟨some 4, .mv (.c (.bool false)), none⟩]
def c28k17 : ICode := .kill 26 [0, 1] (.ops c28r17)
def c28b : ICode := (.seq c28k17 c28s16)
def c28 : IFn := ⟨26, [.t 4], c28b⟩
def h28 : List (Nat × Nat × List Nat) := [(0, (26, [0, 1])), (1, (26, [0, 1])), (2, (26, [])), (3, (26, [0, 1])), (4, (26, [0, 1, 5])), (6, (26, [0, 1, 5])), (7, (26, [])), (5, (26, [0, 1, 5])), (8, (26, []))]
def c29r0 : List Seg := [
  .one ⟨some 55, .mv (.t 5), none⟩,
  .one ⟨some 4, .mv (.t 55), none⟩]
def c29k0 : ICode := .kill 56 [5] (.ops c29r0)
def c29s1 : ICode := (.seq c29k0 .ret)
def c29r3 : List Seg := [
  .one ⟨some 17, .mv (.t 6), none⟩,
  .one ⟨some 18, .bin .add (.t 17) (.c (.int .i64 1)), none⟩,
  .one ⟨some 6, .mv (.t 18), none⟩]
def c29k3 : ICode := .kill 56 [1, 2, 5, 6] (.ops c29r3)
def c29r4 : List Seg := [
  .grp [(⟨some 43, .mv (.t 5), none⟩, 0), (⟨some 44, .mv (.t 8), none⟩, 0), (⟨some 45, .mv (.t 5), none⟩, 0), (⟨some 46, .mv (.t 8), none⟩, 0), (⟨some 47, .idxS 1 (.t 45) (.t 46), none⟩, 12), (⟨some 48, .load1 (.t 47), none⟩, 28), (⟨some 49, .mv (.t 1), none⟩, 0), (⟨some 50, .mv (.t 6), none⟩, 0), (⟨some 51, .idxS 1 (.t 49) (.t 50), none⟩, 192), (⟨some 52, .load1 (.t 51), none⟩, 448), (⟨some 53, .bin .add (.t 48) (.t 52), none⟩, 1020)],
  .one ⟨some 54, .idxS 1 (.t 43) (.t 44), none⟩,
  .one ⟨none, .store1 (.t 54) (.t 53), none⟩]
def c29k4 : ICode := .kill 56 [1, 2, 5, 6, 8] (.ops c29r4)
def c29r5 : List Seg := [
  .grp [(⟨some 31, .mv (.t 5), none⟩, 0), (⟨some 32, .mv (.t 7), none⟩, 0), (⟨some 33, .mv (.t 5), none⟩, 0), (⟨some 34, .mv (.t 7), none⟩, 0), (⟨some 35, .idxS 1 (.t 33) (.t 34), none⟩, 12), (⟨some 36, .load1 (.t 35), none⟩, 28), (⟨some 37, .mv (.t 1), none⟩, 0), (⟨some 38, .mv (.t 6), none⟩, 0), (⟨some 39, .idxS 1 (.t 37) (.t 38), none⟩, 192), (⟨some 40, .load1 (.t 39), none⟩, 448), (⟨some 41, .bin .sub (.t 36) (.t 40), none⟩, 1020)],
  .one ⟨some 42, .idxS 1 (.t 31) (.t 32), none⟩,
  .one ⟨none, .store1 (.t 42) (.t 41), none⟩]
def c29k5 : ICode := .kill 56 [1, 2, 5, 6, 7, 8] (.ops c29r5)
def c29s6 : ICode := (.seq c29k5 c29k4)
def c29r7 : List Seg := [
  .grp [(⟨some 19, .fieldA 1 (.t 2), none⟩, 0), (⟨some 20, .load1 (.t 19), none⟩, 1), (⟨some 21, .mv (.t 6), none⟩, 0), (⟨some 22, .idxS 2 (.t 20) (.t 21), none⟩, 7), (⟨some 23, .idxA 2 1 (.t 22) (.c (.int .i64 0)), none⟩, 15), (⟨some 24, .load1 (.t 23), none⟩, 31), (⟨some 25, .fieldA 1 (.t 2), none⟩, 0), (⟨some 26, .load1 (.t 25), none⟩, 64), (⟨some 27, .mv (.t 6), none⟩, 0), (⟨some 28, .idxS 2 (.t 26) (.t 27), none⟩, 448), (⟨some 29, .idxA 2 1 (.t 28) (.c (.int .i64 1)), none⟩, 960), (⟨some 30, .load1 (.t 29), none⟩, 1984), (⟨some 7, .mv (.t 24), none⟩, 63)],
  .one ⟨some 8, .mv (.t 30), none⟩]
def c29k7 : ICode := .kill 56 [1, 2, 5, 6] (.ops c29r7)
def c29s8 : ICode := (.seq (.block 1 (.seq c29k7 c29s6)) c29k3)
def c29s9 : ICode := (.cond (.t 16) .skip (.exit 0))
def c29r10 : List Seg := [
  .one ⟨some 12, .mv (.t 6), none⟩,
  .one ⟨some 13, .fieldA 1 (.t 2), none⟩,
  .one ⟨some 14, .load1 (.t 13), none⟩,
  .one ⟨some 15, .len 0 (.t 14), none⟩,
  .one ⟨some 16, .bin .lss (.t 12) (.t 15), none⟩]
def c29k10 : ICode := .kill 56 [1, 2, 5, 6] (.ops c29r10)
def c29l2 : ICode := (.seq (.seq c29k10 c29s9) c29s8)
def c29s11 : ICode := (.block 0 (.loop c29l2))
def c29r12 : List Seg := [
  .one ⟨some 6, .mv (.c (.int .i64 0)), none⟩]
def c29k12 : ICode := .kill 56 [1, 2, 5] (.ops c29r12)
def c29s13 : ICode := (.seq (.seq c29k12 c29s11) c29s1)
def c29r14 : List Seg := [
  .one ⟨some 9, .fieldA 0 (.t 2), none⟩,
  .one ⟨some 10, .load1 (.t 9), none⟩,
  .one ⟨some 11, .make [.int .i64 0] 8 (.t 10) (.t 10), none⟩,
  .one ⟨some 5, .mv (.t 11), none⟩]
def c29k14 : ICode := .kill 56 [1, 2] (.ops c29r14)
def c29s15 : ICode := (.seq c29k14 c29s13)
def c29r16 : List Seg := [
  .one ⟨some 2, .box (.t 0), none⟩,
  .one ⟨some 4, .mv (.c .nilslice), none⟩]
def c29k16 : ICode := .kill 56 [0, 1] (.ops c29r16)
def c29b : ICode := (.seq c29k16 c29s15)
def c29 : IFn := ⟨56, [.t 4], c29b⟩
def h29 : List (Nat × Nat × List Nat) := [(0, (56, [0, 1])), (1, (56, [1, 2])), (2, (56, [1, 2, 5])), (3, (56, [1, 2, 5, 6])), (5, (56, [1, 2, 5, 6])), (6, (56, [1, 2, 5, 6, 7, 8])), (7, (56, [1, 2, 5, 6, 8])), (4, (56, [1, 2, 5, 6])), (8, (56, [5]))]
def c30r0 : List Seg := [
  .one ⟨some 49, .mv (.t 0), none⟩,
  .one ⟨some 50, .len 0 (.t 49), none⟩,
  .one ⟨some 51, .mv (.t 1), none⟩,
  .one ⟨some 52, .bin .eql (.t 50) (.t 51), none⟩,
  .one ⟨some 4, .mv (.t 52), none⟩]
def c30k0 : ICode := .kill 53 [0, 1] (.ops c30r0)
def c30s1 : ICode := (.seq c30k0 .ret)
def c30r3 : List Seg := [
  .one ⟨some 13, .mv (.t 6), none⟩,
  .one ⟨some 14, .bin .add (.t 13) (.c (.int .i64 1)), none⟩,
  .one ⟨some 6, .mv (.t 14), none⟩]
def c30k3 : ICode := .kill 53 [0, 1, 5, 6] (.ops c30r3)
def c30r4 : List Seg := [
  .one ⟨some 4, .mv (.c (.bool false)), none⟩]
def c30k4 : ICode := .kill 53 [] (.ops c30r4)
def c30s5 : ICode := (.cond (.t 48) (.seq c30k4 .ret) .skip)
def c30r6 : List Seg := [
  .one ⟨some 25, .mv (.t 7), none⟩,
  .one ⟨some 26, .mv (.t 5), none⟩,
  .one ⟨some 27, .un .neg (.t 26), none⟩,
  .one ⟨some 28, .bin .lss (.t 25) (.t 27), none⟩,
  .one ⟨some 29, .mv (.t 28), none⟩,
  .one ⟨some 30, .mv (.t 7), some (29, false)⟩,
  .one ⟨some 31, .mv (.t 5), some (29, false)⟩,
  .one ⟨some 32, .bin .gtr (.t 30) (.t 31), some (29, false)⟩,
  .one ⟨some 33, .pick (.t 29) (.c (.bool true)) (.t 32), none⟩,
  .one ⟨some 34, .mv (.t 33), none⟩,
  .one ⟨some 35, .mv (.t 8), some (34, false)⟩,
  .one ⟨some 36, .bin .lss (.t 35) (.c (.int .i64 1)), some (34, false)⟩,
  .one ⟨some 37, .pick (.t 34) (.c (.bool true)) (.t 36), none⟩,
  .one ⟨some 38, .mv (.t 37), none⟩,
  .one ⟨some 39, .mv (.t 8), some (38, false)⟩,
  .one ⟨some 40, .mv (.t 5), some (38, false)⟩,
  .one ⟨some 41, .bin .gtr (.t 39) (.t 40), some (38, false)⟩,
  .one ⟨some 42, .pick (.t 38) (.c (.bool true)) (.t 41), none⟩,
  .one ⟨some 43, .mv (.t 42), none⟩,
  .one ⟨some 44, .mv (.t 7), some (43, false)⟩,
  .one ⟨some 45, .mv (.t 8), some (43, false)⟩,
  .one ⟨some 46, .call [] (.c (.func 72 [])) [(.t 44), (.t 45)], some (43, false)⟩,
  .one ⟨some 47, .bin .neq (.t 46) (.c (.int .i64 1)), some (43, false)⟩,
  .one ⟨some 48, .pick (.t 43) (.c (.bool true)) (.t 47), none⟩]
def c30k6 : ICode := .kill 53 [0, 1, 5, 6, 7, 8] (.ops c30r6)
def c30s7 : ICode := (.seq c30k6 c30s5)
def c30r8 : List Seg := [
  .grp [(⟨some 15, .mv (.t 0), none⟩, 0), (⟨some 16, .mv (.t 6), none⟩, 0), (⟨some 17, .idxS 2 (.t 15) (.t 16), none⟩, 3), (⟨some 18, .idxA 2 1 (.t 17) (.c (.int .i64 0)), none⟩, 7), (⟨some 19, .load1 (.t 18), none⟩, 15), (⟨some 20, .mv (.t 0), none⟩, 0), (⟨some 21, .mv (.t 6), none⟩, 0), (⟨some 22, .idxS 2 (.t 20) (.t 21), none⟩, 96), (⟨some 23, .idxA 2 1 (.t 22) (.c (.int .i64 1)), none⟩, 224), (⟨some 24, .load1 (.t 23), none⟩, 480), (⟨some 7, .mv (.t 19), none⟩, 31)],
  .one ⟨some 8, .mv (.t 24), none⟩]
def c30k8 : ICode := .kill 53 [0, 1, 5, 6] (.ops c30r8)
def c30s9 : ICode := (.seq (.block 1 (.seq c30k8 c30s7)) c30k3)
def c30s10 : ICode := (.cond (.t 12) .skip (.exit 0))
def c30r11 : List Seg := [
  .one ⟨some 9, .mv (.t 6), none⟩,
  .one ⟨some 10, .mv (.t 0), none⟩,
  .one ⟨some 11, .len 0 (.t 10), none⟩,
  .one ⟨some 12, .bin .lss (.t 9) (.t 11), none⟩]
def c30k11 : ICode := .kill 53 [0, 1, 5, 6] (.ops c30r11)
def c30l2 : ICode := (.seq (.seq c30k11 c30s10) c30s9)
def c30s12 : ICode := (.block 0 (.loop c30l2))
def c30r13 : List Seg := [
  .one ⟨some 6, .mv (.c (.int .i64 0)), none⟩]
def c30k13 : ICode := .kill 53 [0, 1, 5] (.ops c30r13)
def c30s14 : ICode := (.seq (.seq c30k13 c30s12) c30s1)
def c30r15 : List Seg := [
  .one ⟨some 5, .mv (.c (.int .i64 1000000)), none⟩]
def c30k15 : ICode := .kill 53 [0, 1] (.ops c30r15)
def c30s16 : ICode := (.seq c30k15 c30s14)
def c30r17 : List Seg := [
  .one ⟨some 4, .mv (.c (.bool false)), none⟩]
def c30k17 : ICode := .kill 53 [0, 1] (.ops c30r17)
def c30b : ICode := (.seq c30k17 c30s16)
def c30 : IFn := ⟨53, [.t 4], c30b⟩
def h30 : List (Nat × Nat × List Nat) := [(0, (53, [0, 1])), (1, (53, [0, 1])), (2, (53, [0, 1, 5])), (3, (53, [0, 1, 5, 6])), (5, (53, [0, 1, 5, 6])), (6, (53, [0, 1, 5, 6, 7, 8])), (7, (53, [])), (4, (53, [0, 1, 5, 6])), (8, (53, [0, 1]))]
def c31r0 : List Seg := [
  .one ⟨some 62, .mv (.t 3), none⟩,
  .one ⟨some 2, .mv (.t 62), none⟩]
def c31k0 : ICode := .kill 63 [3] (.ops c31r0)
def c31s1 : ICode := (.seq c31k0 .ret)
def c31r3 : List Seg := [
  .one ⟨some 24, .mv (.t 5), none⟩,
  .one ⟨some 25, .bin .add (.t 24) (.c (.int .i64 1)), none⟩,
  .one ⟨some 5, .mv (.t 25), none⟩]
def c31k3 : ICode := .kill 63 [1, 3, 5] (.ops c31r3)
def c31r5 : List Seg := [
  .one ⟨some 31, .mv (.t 6), none⟩,
  .one ⟨some 32, .bin .add (.t 31) (.c (.int .i64 1)), none⟩,
  .one ⟨some 6, .mv (.t 32), none⟩]
def c31k5 : ICode := .kill 63 [1, 3, 5, 6] (.ops c31r5)
def c31r6 : List Seg := [
  .one ⟨some 58, .mv (.t 3), none⟩,
  .one ⟨some 59, .mv (.t 8), none⟩,
  .one ⟨some 60, .mv (.t 9), none⟩,
  .one ⟨some 61, .idxS 1 (.t 58) (.t 59), none⟩,
  .one ⟨none, .store1 (.t 61) (.t 60), none⟩]
def c31k6 : ICode := .kill 63 [1, 3, 5, 6, 8, 9] (.ops c31r6)
def c31r7 : List Seg := [
  .one ⟨some 54, .mv (.t 3), none⟩,
  .one ⟨some 55, .mv (.t 7), none⟩,
  .one ⟨some 56, .mv (.t 9), none⟩,
  .one ⟨some 57, .idxS 1 (.t 54) (.t 55), none⟩,
  .one ⟨none, .store1 (.t 57) (.t 56), none⟩]
def c31k7 : ICode := .kill 63 [1, 3, 5, 6, 7, 8, 9] (.ops c31r7)
def c31s8 : ICode := (.seq c31k7 c31k6)
def c31r9 : List Seg := [
  .grp [(⟨some 45, .mv (.t 3), none⟩, 0), (⟨some 46, .mv (.t 7), none⟩, 0), (⟨some 47, .idxS 1 (.t 45) (.t 46), none⟩, 3), (⟨some 48, .load1 (.t 47), none⟩, 7), (⟨some 49, .mv (.t 3), none⟩, 0), (⟨some 50, .mv (.t 8), none⟩, 0), (⟨some 51, .idxS 1 (.t 49) (.t 50), none⟩, 48), (⟨some 52, .load1 (.t 51), none⟩, 112)],
  .one ⟨some 53, .mn [(.t 48), (.t 52)], none⟩,
  .one ⟨some 9, .mv (.t 53), none⟩]
def c31k9 : ICode := .kill 63 [1, 3, 5, 6, 7, 8] (.ops c31r9)
def c31s10 : ICode := (.seq c31k9 c31s8)
def c31r11 : List Seg := [
  .grp [(⟨some 33, .fieldA 1 (.t 1), none⟩, 0), (⟨some 34, .load1 (.t 33), none⟩, 1), (⟨some 35, .mv (.t 6), none⟩, 0), (⟨some 36, .idxS 2 (.t 34) (.t 35), none⟩, 7), (⟨some 37, .idxA 2 1 (.t 36) (.c (.int .i64 0)), none⟩, 15), (⟨some 38, .load1 (.t 37), none⟩, 31), (⟨some 39, .fieldA 1 (.t 1), none⟩, 0), (⟨some 40, .load1 (.t 39), none⟩, 64), (⟨some 41, .mv (.t 6), none⟩, 0), (⟨some 42, .idxS 2 (.t 40) (.t 41), none⟩, 448), (⟨some 43, .idxA 2 1 (.t 42) (.c (.int .i64 1)), none⟩, 960), (⟨some 44, .load1 (.t 43), none⟩, 1984), (⟨some 7, .mv (.t 38), none⟩, 63)],
  .one ⟨some 8, .mv (.t 44), none⟩]
def c31k11 : ICode := .kill 63 [1, 3, 5, 6] (.ops c31r11)
def c31s12 : ICode := (.seq (.block 5 (.seq c31k11 c31s10)) c31k5)
def c31s13 : ICode := (.cond (.t 30) .skip (.exit 4))
def c31r14 : List Seg := [
  .one ⟨some 26, .mv (.t 6), none⟩,
  .one ⟨some 27, .fieldA 1 (.t 1), none⟩,
  .one ⟨some 28, .load1 (.t 27), none⟩,
  .one ⟨some 29, .len 0 (.t 28), none⟩,
  .one ⟨some 30, .bin .lss (.t 26) (.t 29), none⟩]
def c31k14 : ICode := .kill 63 [1, 3, 5, 6] (.ops c31r14)
def c31l4 : ICode := (.seq (.seq c31k14 c31s13) c31s12)
def c31s15 : ICode := (.block 4 (.loop c31l4))
def c31r16 : List Seg := [
  .one ⟨some 6, .mv (.c (.int .i64 0)), none⟩]
def c31k16 : ICode := .kill 63 [1, 3, 5] (.ops c31r16)
def c31s17 : ICode := (.seq (.block 3 (.seq c31k16 c31s15)) c31k3)
def c31s18 : ICode := (.cond (.t 23) .skip (.exit 2))
def c31r19 : List Seg := [
  .one ⟨some 20, .mv (.t 5), none⟩,
  .one ⟨some 21, .fieldA 0 (.t 1), none⟩,
  .one ⟨some 22, .load1 (.t 21), none⟩,
  .one ⟨some 23, .bin .lss (.t 20) (.t 22), none⟩]
def c31k19 : ICode := .kill 63 [1, 3, 5] (.ops c31r19)
def c31l2 : ICode := (.seq (.seq c31k19 c31s18) c31s17)
def c31s20 : ICode := (.block 2 (.loop c31l2))
def c31r21 : List Seg := [
  .one ⟨some 5, .mv (.c (.int .i64 0)), none⟩]
def c31k21 : ICode := .kill 63 [1, 3] (.ops c31r21)
def c31s22 : ICode := (.seq (.seq c31k21 c31s20) c31s1)
def c31r24 : List Seg := [
  .one ⟨some 14, .mv (.t 4), none⟩,
  .one ⟨some 15, .bin .add (.t 14) (.c (.int .i64 1)), none⟩,
  .one ⟨some 4, .mv (.t 15), none⟩]
def c31k24 : ICode := .kill 63 [1, 3, 4] (.ops c31r24)
def c31r25 : List Seg := [
  .one ⟨some 16, .mv (.t 3), none⟩,
  .one ⟨some 17, .mv (.t 4), none⟩,
  .one ⟨some 18, .mkslice 1 [.int .i64 0] [(0, 1, (.t 17))], none⟩,
  .one ⟨some 19, .app 1 8 (.t 16) (.t 18), none⟩,
  .one ⟨some 3, .mv (.t 19), none⟩]
def c31k25 : ICode := .kill 63 [1, 3, 4] (.ops c31r25)
def c31s26 : ICode := (.seq (.block 1 c31k25) c31k24)
def c31s27 : ICode := (.cond (.t 13) .skip (.exit 0))
def c31r28 : List Seg := [
  .one ⟨some 10, .mv (.t 4), none⟩,
  .one ⟨some 11, .fieldA 0 (.t 1), none⟩,
  .one ⟨some 12, .load1 (.t 11), none⟩,
  .one ⟨some 13, .bin .lss (.t 10) (.t 12), none⟩]
def c31k28 : ICode := .kill 63 [1, 3, 4] (.ops c31r28)
def c31l23 : ICode := (.seq (.seq c31k28 c31s27) c31s26)
def c31s29 : ICode := (.block 0 (.loop c31l23))
def c31r30 : List Seg := [
  .one ⟨some 4, .mv (.c (.int .i64 0)), none⟩]
def c31k30 : ICode := .kill 63 [1, 3] (.ops c31r30)
def c31s31 : ICode := (.seq (.seq c31k30 c31s29) c31s22)
def c31r32 : List Seg := [
  .one ⟨some 3, .mv (.c .nilslice), none⟩]
def c31k32 : ICode := .kill 63 [1] (.ops c31r32)
def c31s33 : ICode := (.seq c31k32 c31s31)
def c31r34 : List Seg := [
  .one ⟨some 1, .box (.t 0), none⟩,
  .one ⟨some 2, .mv (.c .nilslice), none⟩]
def c31k34 : ICode := .kill 63 [0] (.ops c31r34)
def c31b : ICode := (.seq c31k34 c31s33)
def c31 : IFn := ⟨63, [.t 2], c31b⟩
def h31 : List (Nat × Nat × List Nat) := [(0, (63, [0])), (1, (63, [1])), (2, (63, [1, 3])), (3, (63, [1, 3, 4])), (5, (63, [1, 3, 4])), (4, (63, [1, 3, 4])), (6, (63, [1, 3])), (7, (63, [1, 3, 5])), (9, (63, [1, 3, 5])), (10, (63, [1, 3, 5, 6])), (12, (63, [1, 3, 5, 6])), (13, (63, [1, 3, 5, 6, 7, 8])), (14, (63, [1, 3, 5, 6, 7, 8, 9])), (15, (63, [1, 3, 5, 6, 8, 9])), (11, (63, [1, 3, 5, 6])), (8, (63, [1, 3, 5])), (16, (63, [3]))]
def c32r0 : List Seg := [
  .grp [(⟨some 11, .idxA 2 1 (.t 2) (.c (.int .i64 0)), none⟩, 0), (⟨some 12, .load1 (.t 11), none⟩, 1), (⟨some 13, .idxA 2 1 (.t 3) (.c (.int .i64 1)), none⟩, 0), (⟨some 14, .load1 (.t 13), none⟩, 4), (⟨some 15, .mv (.t 5), none⟩, 0), (⟨some 16, .bin .quo (.t 14) (.t 15), none⟩, 28), (⟨some 17, .bin .mul (.t 12) (.t 16), none⟩, 63), (⟨some 18, .idxA 2 1 (.t 3) (.c (.int .i64 0)), none⟩, 0), (⟨some 19, .load1 (.t 18), none⟩, 128), (⟨some 20, .idxA 2 1 (.t 2) (.c (.int .i64 1)), none⟩, 0), (⟨some 21, .load1 (.t 20), none⟩, 512), (⟨some 22, .mv (.t 5), none⟩, 0), (⟨some 23, .bin .quo (.t 21) (.t 22), none⟩, 3584), (⟨some 24, .bin .mul (.t 19) (.t 23), none⟩, 8064), (⟨some 25, .bin .add (.t 17) (.t 24), none⟩, 16383), (⟨some 26, .idxA 2 1 (.t 2) (.c (.int .i64 1)), none⟩, 0), (⟨some 27, .load1 (.t 26), none⟩, 32768), (⟨some 28, .mv (.t 5), none⟩, 0), (⟨some 29, .bin .quo (.t 27) (.t 28), none⟩, 229376), (⟨some 30, .idxA 2 1 (.t 3) (.c (.int .i64 1)), none⟩, 0), (⟨some 31, .load1 (.t 30), none⟩, 524288), (⟨some 32, .bin .mul (.t 29) (.t 31), none⟩, 2064384)],
  .one ⟨some 33, .call [] (.c (.func 73 [])) [(.t 25), (.t 32)], none⟩,
  .one ⟨none, .storeN 2 (.t 4) (.t 33), none⟩]
def c32k0 : ICode := .kill 34 [2, 3, 4, 5] (.ops c32r0)
def c32s1 : ICode := (.seq c32k0 .ret)
def c32r2 : List Seg := [
  .one ⟨some 6, .idxA 2 1 (.t 2) (.c (.int .i64 1)), none⟩,
  .one ⟨some 7, .load1 (.t 6), none⟩,
  .one ⟨some 8, .idxA 2 1 (.t 3) (.c (.int .i64 1)), none⟩,
  .one ⟨some 9, .load1 (.t 8), none⟩,
  .one ⟨some 10, .call [] (.c (.func 72 [])) [(.t 7), (.t 9)], none⟩,
  .one ⟨some 5, .mv (.t 10), none⟩]
def c32k2 : ICode := .kill 34 [2, 3, 4] (.ops c32r2)
def c32s3 : ICode := (.seq c32k2 c32s1)
def c32r4 : List Seg := [
  .one ⟨some 2, .box (.t 0), none⟩,
  .one ⟨some 3, .box (.t 1), none⟩,
  .one ⟨some 4, .box (.c (.agg [.int .i64 0, .int .i64 0])), none⟩]
def c32k4 : ICode := .kill 34 [0, 1] (.ops c32r4)
def c32b : ICode := (.seq c32k4 c32s3)
def c32 : IFn := ⟨34, [.cellN 4 2], c32b⟩
def h32 : List (Nat × Nat × List Nat) := [(0, (34, [0, 1])), (1, (34, [2, 3, 4])), (2, (34, [2, 3, 4, 5]))]
def c33r0 : List Seg := [
  .one ⟨some 40, .mv (.t 7), none⟩,
  .one ⟨some 4, .mv (.t 40), none⟩,
  .one ⟨some 5, .mv (.c (.int .i64 0)), none⟩]
def c33k0 : ICode := .kill 41 [7] (.ops c33r0)
def c33s1 : ICode := (.seq c33k0 .ret)
def c33r3 : List Seg := [
  .one ⟨some 39, .bin .add (.t 21) (.c (.int .i64 1)), none⟩,
  .one ⟨some 21, .mv (.t 39), none⟩]
def c33k3 : ICode := .kill 41 [1, 7, 19, 20, 21] (.ops c33r3)
def c33r4 : List Seg := [
  .grp [(⟨some 25, .mv (.t 7), none⟩, 0), (⟨some 26, .mv (.t 1), none⟩, 0), (⟨some 27, .idxA 2 1 (.t 9) (.c (.int .i64 1)), none⟩, 0), (⟨some 28, .load1 (.t 27), none⟩, 4), (⟨some 29, .idxS 1 (.t 26) (.t 28), none⟩, 14), (⟨some 30, .load1 (.t 29), none⟩, 30), (⟨some 31, .mv (.t 1), none⟩, 0), (⟨some 32, .idxA 2 1 (.t 9) (.c (.int .i64 0)), none⟩, 0), (⟨some 33, .load1 (.t 32), none⟩, 128), (⟨some 34, .idxS 1 (.t 31) (.t 33), none⟩, 448), (⟨some 35, .load1 (.t 34), none⟩, 960), (⟨some 36, .bin .sub (.t 30) (.t 35), none⟩, 2046), (⟨some 37, .mkslice 1 [.int .i64 0] [(0, 1, (.t 36))], none⟩, 4094)],
  .one ⟨some 38, .app 1 8 (.t 25) (.t 37), none⟩,
  .one ⟨some 7, .mv (.t 38), none⟩]
def c33k4 : ICode := .kill 41 [1, 7, 9, 19, 20, 21] (.ops c33r4)
def c33r5 : List Seg := [
  .one ⟨some 23, .idxS 2 (.t 19) (.t 21), none⟩,
  .one ⟨some 24, .loadN 2 (.t 23), none⟩,
  .one ⟨some 9, .box (.c (.agg [.int .i64 0, .int .i64 0])), none⟩,
  .one ⟨none, .storeN 2 (.t 9) (.t 24), none⟩]
def c33k5 : ICode := .kill 41 [1, 7, 19, 20, 21] (.ops c33r5)
def c33s6 : ICode := (.seq (.block 1 (.seq c33k5 c33k4)) c33k3)
def c33s7 : ICode := (.seq (.cond (.t 22) .skip (.exit 0)) c33s6)
def c33r8 : List Seg := [
  .one ⟨some 22, .bin .lss (.t 21) (.t 20), none⟩]
def c33k8 : ICode := .kill 41 [1, 7, 19, 20, 21] (.ops c33r8)
def c33l2 : ICode := (.seq c33k8 c33s7)
def c33s9 : ICode := (.block 0 (.loop c33l2))
def c33r10 : List Seg := [
  .one ⟨some 18, .fieldA 1 (.t 2), none⟩,
  .one ⟨some 19, .load1 (.t 18), none⟩,
  .one ⟨some 20, .len 0 (.t 19), none⟩,
  .one ⟨some 21, .mv (.c (.int .i64 0)), none⟩]
def c33k10 : ICode := .kill 41 [1, 2, 7] (.ops c33r10)
def c33s11 : ICode := (.seq (.seq c33k10 c33s9) c33s1)
def c33r12 : List Seg := [
  .one ⟨some 7, .mv (.c .nilslice), none⟩]
def c33k12 : ICode := .kill 41 [1, 2] (.ops c33r12)
def c33s13 : ICode := (.seq c33k12 c33s11)
def c33r14 : List Seg := [
  .one ⟨some 17, .mv (.t 6), none⟩,
  .one ⟨some 4, .mv (.c .nilslice), none⟩,
  .one ⟨some 5, .mv (.t 17), none⟩]
def c33k14 : ICode := .kill 41 [6] (.ops c33r14)
def c33s15 : ICode := (.cond (.t 16) (.seq c33k14 .ret) .skip)
def c33r16 : List Seg := [
  .one ⟨some 15, .mv (.t 6), none⟩,
  .one ⟨some 16, .bin .neq (.t 15) (.c (.int .i64 0)), none⟩]
def c33k16 : ICode := .kill 41 [1, 2, 6] (.ops c33r16)
def c33s17 : ICode := (.seq c33k16 c33s15)
def c33r18 : List Seg := [
  .one ⟨some 10, .loadN 3 (.t 2), none⟩,
  .one ⟨some 11, .mv (.t 1), none⟩,
  .one ⟨some 12, .loadN 3 (.t 2), none⟩,
  .one ⟨some 13, .bind 74 [(.t 12)], none⟩,
  .one ⟨some 14, .call [] (.c (.func 66 [])) [(.t 10), (.t 11), (.t 13)], none⟩,
  .one ⟨some 6, .mv (.t 14), none⟩]
def c33k18 : ICode := .kill 41 [1, 2] (.ops c33r18)
def c33s19 : ICode := (.seq (.seq c33k18 c33s17) c33s13)
def c33r20 : List Seg := [
  .one ⟨some 2, .box (.t 0), none⟩,
  .one ⟨some 4, .mv (.c .nilslice), none⟩,
  .one ⟨some 5, .mv (.c (.int .i64 0)), none⟩]
def c33k20 : ICode := .kill 41 [0, 1] (.ops c33r20)
def c33b : ICode := (.seq c33k20 c33s19)
def c33 : IFn := ⟨41, [.t 4, .t 5], c33b⟩
def h33 : List (Nat × Nat × List Nat) := [(0, (41, [0, 1])), (1, (41, [1, 2])), (2, (41, [1, 2, 6])), (3, (41, [6])), (4, (41, [1, 2])), (5, (41, [1, 2, 7])), (6, (41, [1, 7, 19, 20, 21])), (7, (41, [1, 7, 19, 20, 21])), (8, (41, [1, 7, 9, 19, 20, 21])), (9, (41, [1, 7, 19, 20, 21])), (10, (41, [7]))]
def c34r0 : List Seg := [
  .one ⟨some 5, .loadN 2 (.t 2), none⟩,
  .one ⟨some 6, .idxA 2 1 (.t 3) (.c (.int .i64 0)), none⟩,
  .one ⟨some 7, .load1 (.t 6), none⟩,
  .one ⟨some 8, .un .neg (.t 7), none⟩,
  .one ⟨some 9, .idxA 2 1 (.t 3) (.c (.int .i64 1)), none⟩,
  .one ⟨some 10, .load1 (.t 9), none⟩,
  .one ⟨some 11, .mkagg [.int .i64 0, .int .i64 0] [(0, 1, (.t 8)), (1, 1, (.t 10))], none⟩,
  .one ⟨some 12, .call [] (.c (.func 32 [])) [(.t 5), (.t 11)], none⟩,
  .one ⟨none, .storeN 2 (.t 4) (.t 12), none⟩]
def c34k0 : ICode := .kill 13 [2, 3, 4] (.ops c34r0)
def c34s1 : ICode := (.seq c34k0 .ret)
def c34r2 : List Seg := [
  .one ⟨some 2, .box (.t 0), none⟩,
  .one ⟨some 3, .box (.t 1), none⟩,
  .one ⟨some 4, .box (.c (.agg [.int .i64 0, .int .i64 0])), none⟩]
def c34k2 : ICode := .kill 13 [0, 1] (.ops c34r2)
def c34b : ICode := (.seq c34k2 c34s1)
def c34 : IFn := ⟨13, [.cellN 4 2], c34b⟩
def h34 : List (Nat × Nat × List Nat) := [(0, (13, [0, 1])), (1, (13, [2, 3, 4]))]
def c35r0 : List Seg := [
  .one ⟨some 5, .idxA 2 1 (.t 2) (.c (.int .i64 0)), none⟩,
  .one ⟨some 6, .load1 (.t 5), none⟩,
  .one ⟨some 7, .idxA 2 1 (.t 3) (.c (.int .i64 0)), none⟩,
  .one ⟨some 8, .load1 (.t 7), none⟩,
  .one ⟨some 9, .bin .mul (.t 6) (.t 8), none⟩,
  .one ⟨some 10, .idxA 2 1 (.t 2) (.c (.int .i64 1)), none⟩,
  .one ⟨some 11, .load1 (.t 10), none⟩,
  .one ⟨some 12, .idxA 2 1 (.t 3) (.c (.int .i64 1)), none⟩,
  .one ⟨some 13, .load1 (.t 12), none⟩,
  .one ⟨some 14, .bin .mul (.t 11) (.t 13), none⟩,
  .one ⟨some 15, .call [] (.c (.func 73 [])) [(.t 9), (.t 14)], none⟩,
  .one ⟨none, .storeN 2 (.t 4) (.t 15), none⟩]
def c35k0 : ICode := .kill 16 [2, 3, 4] (.ops c35r0)
def c35s1 : ICode := (.seq c35k0 .ret)
def c35r2 : List Seg := [
  .one ⟨some 2, .box (.t 0), none⟩,
  .one ⟨some 3, .box (.t 1), none⟩,
  .one ⟨some 4, .box (.c (.agg [.int .i64 0, .int .i64 0])), none⟩]
def c35k2 : ICode := .kill 16 [0, 1] (.ops c35r2)
def c35b : ICode := (.seq c35k2 c35s1)
def c35 : IFn := ⟨16, [.cellN 4 2], c35b⟩
def h35 : List (Nat × Nat × List Nat) := [(0, (16, [0, 1])), (1, (16, [2, 3, 4]))]
def c36r0 : List Seg := [
  .one ⟨some 76, .mv (.t 10), none⟩,
  .one ⟨some 6, .mv (.t 76), none⟩,
  .one ⟨some 7, .mv (.c (.bool true)), none⟩,
  .one ⟨some 8, .mv (.c (.int .i64 0)), none⟩]
def c36k0 : ICode := .kill 77 [10] (.ops c36r0)
def c36s1 : ICode := (.seq c36k0 .ret)
def c36r3 : List Seg := [
  .one ⟨some 75, .bin .add (.t 28) (.c (.int .i64 1)), none⟩,
  .one ⟨some 28, .mv (.t 75), none⟩]
def c36k3 : ICode := .kill 77 [1, 2, 3, 10, 26, 27, 28] (.ops c36r3)
def c36r4 : List Seg := [
  .one ⟨some 63, .mv (.t 10), none⟩,
  .one ⟨some 64, .mv (.t 1), none⟩,
  .one ⟨some 65, .mv (.t 14), none⟩,
  .one ⟨some 66, .idxS 1 (.t 64) (.t 65), none⟩,
  .one ⟨some 67, .load1 (.t 66), none⟩,
  .one ⟨some 68, .bin .add (.t 63) (.t 67), none⟩,
  .one ⟨some 10, .mv (.t 68), none⟩]
def c36k4 : ICode := .kill 77 [1, 2, 3, 10, 14, 26, 27, 28] (.ops c36r4)
def c36r5 : List Seg := [
  .one ⟨some 69, .mv (.t 10), none⟩,
  .one ⟨some 70, .mv (.t 1), none⟩,
  .one ⟨some 71, .mv (.t 14), none⟩,
  .one ⟨some 72, .idxS 1 (.t 70) (.t 71), none⟩,
  .one ⟨some 73, .load1 (.t 72), none⟩,
  .one ⟨some 74, .bin .sub (.t 69) (.t 73), none⟩,
  .one ⟨some 10, .mv (.t 74), none⟩]
def c36k5 : ICode := .kill 77 [1, 2, 3, 10, 14, 26, 27, 28] (.ops c36r5)
def c36s6 : ICode := (.cond (.t 62) c36k4 c36k5)
def c36r7 : List Seg := [
  .one ⟨some 60, .mv (.t 12), none⟩,
  .one ⟨some 61, .mv (.t 13), none⟩,
  .one ⟨some 62, .bin .lss (.t 60) (.t 61), none⟩]
def c36k7 : ICode := .kill 77 [1, 2, 3, 10, 12, 13, 14, 26, 27, 28] (.ops c36r7)
def c36s8 : ICode := (.seq c36k7 c36s6)
def c36r9 : List Seg := [
  .one ⟨some 6, .mv (.c (.int .i64 0)), none⟩,
  .one ⟨some 7, .mv (.c (.bool false)), none⟩,
  .one ⟨some 8, .mv (.c (.int .i64 0)), none⟩]
def c36k9 : ICode := .kill 77 [] (.ops c36r9)
def c36s10 : ICode := (.cond (.t 59) (.seq c36k9 .ret) .skip)
def c36r11 : List Seg := [
  .one ⟨some 51, .mv (.t 14), none⟩,
  .one ⟨some 52, .bin .lss (.t 51) (.c (.int .i64 0)), none⟩,
  .one ⟨some 53, .mv (.t 52), none⟩,
  .one ⟨some 54, .mv (.t 2), some (53, false)⟩,
  .one ⟨some 55, .mv (.t 11), some (53, false)⟩,
  .one ⟨some 56, .sliceS 1 (.t 54) none (some (.t 55)) none, some (53, false)⟩,
  .one ⟨some 57, .mv (.t 12), some (53, false)⟩,
  .one ⟨some 58, .call [] (.c (.func 76 [])) [(.t 56), (.t 57)], some (53, false)⟩,
  .one ⟨some 59, .pick (.t 53) (.c (.bool true)) (.t 58), none⟩]
def c36k11 : ICode := .kill 77 [1, 2, 3, 10, 11, 12, 13, 14, 26, 27, 28] (.ops c36r11)
def c36s12 : ICode := (.seq (.seq c36k11 c36s10) c36s8)
def c36r13 : List Seg := [
  .one ⟨some 41, .fieldA 1 (.t 3), none⟩,
  .one ⟨some 42, .load1 (.t 41), none⟩,
  .one ⟨some 43, .mv (.t 12), none⟩,
  .one ⟨some 44, .mv (.t 13), none⟩,
  .one ⟨some 45, .mn [(.t 43), (.t 44)], none⟩,
  .one ⟨some 46, .mv (.t 12), none⟩,
  .one ⟨some 47, .mv (.t 13), none⟩,
  .one ⟨some 48, .mx [(.t 46), (.t 47)], none⟩,
  .one ⟨some 49, .mkagg [.int .i64 0, .int .i64 0] [(0, 1, (.t 45)), (1, 1, (.t 48))], none⟩,
  .one ⟨some 50, .call [] (.c (.func 75 [])) [(.t 42), (.t 49)], none⟩,
  .one ⟨some 14, .mv (.t 50), none⟩]
def c36k13 : ICode := .kill 77 [1, 2, 3, 10, 11, 12, 13, 26, 27, 28] (.ops c36r13)
def c36s14 : ICode := (.seq c36k13 c36s12)
def c36r15 : List Seg := [
  .one ⟨some 33, .mv (.t 2), none⟩,
  .one ⟨some 34, .mv (.t 11), none⟩,
  .one ⟨some 35, .bin .add (.t 34) (.c (.int .i64 1)), none⟩,
  .one ⟨some 36, .mv (.t 2), none⟩,
  .one ⟨some 37, .len 0 (.t 36), none⟩,
  .one ⟨some 38, .bin .rem (.t 35) (.t 37), none⟩,
  .one ⟨some 39, .idxS 1 (.t 33) (.t 38), none⟩,
  .one ⟨some 40, .load1 (.t 39), none⟩,
  .one ⟨some 13, .mv (.t 40), none⟩]
def c36k15 : ICode := .kill 77 [1, 2, 3, 10, 11, 12, 26, 27, 28] (.ops c36r15)
def c36s16 : ICode := (.seq c36k15 c36s14)
def c36r17 : List Seg := [
  .one ⟨some 30, .mv (.t 28), none⟩,
  .one ⟨some 31, .idxS 1 (.t 26) (.t 28), none⟩,
  .one ⟨some 32, .load1 (.t 31), none⟩,
  .one ⟨some 11, .mv (.t 30), none⟩,
  .one ⟨some 12, .mv (.t 32), none⟩]
def c36k17 : ICode := .kill 77 [1, 2, 3, 10, 26, 27, 28] (.ops c36r17)
def c36s18 : ICode := (.seq (.block 1 (.seq c36k17 c36s16)) c36k3)
def c36s19 : ICode := (.seq (.cond (.t 29) .skip (.exit 0)) c36s18)
def c36r20 : List Seg := [
  .one ⟨some 29, .bin .lss (.t 28) (.t 27), none⟩]
def c36k20 : ICode := .kill 77 [1, 2, 3, 10, 26, 27, 28] (.ops c36r20)
def c36l2 : ICode := (.seq c36k20 c36s19)
def c36s21 : ICode := (.block 0 (.loop c36l2))
def c36r22 : List Seg := [
  .one ⟨some 26, .mv (.t 2), none⟩,
  .one ⟨some 27, .len 0 (.t 26), none⟩,
  .one ⟨some 28, .mv (.c (.int .i64 0)), none⟩]
def c36k22 : ICode := .kill 77 [1, 2, 3, 10] (.ops c36r22)
def c36s23 : ICode := (.seq (.seq c36k22 c36s21) c36s1)
def c36r24 : List Seg := [
  .one ⟨some 10, .mv (.c (.int .i64 0)), none⟩]
def c36k24 : ICode := .kill 77 [1, 2, 3] (.ops c36r24)
def c36s25 : ICode := (.seq c36k24 c36s23)
def c36r26 : List Seg := [
  .one ⟨some 6, .mv (.c (.int .i64 0)), none⟩,
  .one ⟨some 7, .mv (.c (.bool false)), none⟩,
  .one ⟨some 8, .mv (.c (.int .i64 0)), none⟩]
def c36k26 : ICode := .kill 77 [] (.ops c36r26)
def c36s27 : ICode := (.cond (.t 25) (.seq c36k26 .ret) .skip)
def c36r28 : List Seg := [
  .one ⟨some 23, .mv (.t 2), none⟩,
  .one ⟨some 24, .len 0 (.t 23), none⟩,
  .one ⟨some 25, .bin .lss (.t 24) (.c (.int .i64 3)), none⟩]
def c36k28 : ICode := .kill 77 [1, 2, 3] (.ops c36r28)
def c36s29 : ICode := (.seq (.seq c36k28 c36s27) c36s25)
def c36r30 : List Seg := [
  .one ⟨some 22, .mv (.t 9), none⟩,
  .one ⟨some 6, .mv (.c (.int .i64 0)), none⟩,
  .one ⟨some 7, .mv (.c (.bool false)), none⟩,
  .one ⟨some 8, .mv (.t 22), none⟩]
def c36k30 : ICode := .kill 77 [9] (.ops c36r30)
def c36s31 : ICode := (.cond (.t 21) (.seq c36k30 .ret) .skip)
def c36r32 : List Seg := [
  .one ⟨some 20, .mv (.t 9), none⟩,
  .one ⟨some 21, .bin .neq (.t 20) (.c (.int .i64 0)), none⟩]
def c36k32 : ICode := .kill 77 [1, 2, 3, 9] (.ops c36r32)
def c36s33 : ICode := (.seq c36k32 c36s31)
def c36r34 : List Seg := [
  .one ⟨some 15, .loadN 3 (.t 3), none⟩,
  .one ⟨some 16, .mv (.t 1), none⟩,
  .one ⟨some 17, .loadN 3 (.t 3), none⟩,
  .one ⟨some 18, .bind 67 [(.t 17)], none⟩,
  .one ⟨some 19, .call [] (.c (.func 66 [])) [(.t 15), (.t 16), (.t 18)], none⟩,
  .one ⟨some 9, .mv (.t 19), none⟩]
def c36k34 : ICode := .kill 77 [1, 2, 3] (.ops c36r34)
def c36s35 : ICode := (.seq (.seq c36k34 c36s33) c36s29)
def c36r36 : List Seg := [
  .one ⟨some 3, .box (.t 0), none⟩,
  .one ⟨some 6, .mv (.c (.int .i64 0)), none⟩,
  .one ⟨some 7, .mv (.c (.bool false)), none⟩,
  .one ⟨some 8, .mv (.c (.int .i64 0)), none⟩]
def c36k36 : ICode := .kill 77 [0, 1, 2] (.ops c36r36)
def c36b : ICode := (.seq c36k36 c36s35)
def c36 : IFn := ⟨77, [.t 6, .t 7, .t 8], c36b⟩
def h36 : List (Nat × Nat × List Nat) := [(0, (77, [0, 1, 2])), (1, (77, [1, 2, 3])), (2, (77, [1, 2, 3, 9])), (3, (77, [9])), (4, (77, [1, 2, 3])), (5, (77, [])), (6, (77, [1, 2, 3])), (7, (77, [1, 2, 3, 10])), (8, (77, [1, 2, 3, 10, 26, 27, 28])), (9, (77, [1, 2, 3, 10, 26, 27, 28])), (10, (77, [1, 2, 3, 10, 11, 12, 26, 27, 28])), (11, (77, [1, 2, 3, 10, 11, 12, 13, 26, 27, 28])), (12, (77, [1, 2, 3, 10, 11, 12, 13, 14, 26, 27, 28])), (13, (77, [])), (14, (77, [1, 2, 3, 10, 12, 13, 14, 26, 27, 28])), (15, (77, [1, 2, 3, 10, 14, 26, 27, 28])), (16, (77, [1, 2, 3, 10, 14, 26, 27, 28])), (17, (77, [1, 2, 3, 10, 26, 27, 28])), (18, (77, [10]))]
def c37r0 : List Seg := [
  .one ⟨some 75, .mv (.t 9), none⟩,
  .one ⟨some 6, .mv (.t 75), none⟩,
  .one ⟨some 7, .mv (.c (.bool true)), none⟩]
def c37k0 : ICode := .kill 76 [9] (.ops c37r0)
def c37s1 : ICode := (.seq c37k0 .ret)
def c37r3 : List Seg := [
  .one ⟨some 28, .mv (.t 10), none⟩,
  .one ⟨some 29, .bin .add (.t 28) (.c (.int .i64 1)), none⟩,
  .one ⟨some 10, .mv (.t 29), none⟩]
def c37k3 : ICode := .kill 76 [1, 2, 3, 8, 9, 10] (.ops c37r3)
def c37r4 : List Seg := [
  .one ⟨some 6, .mv (.c (.int .i64 0)), none⟩,
  .one ⟨some 7, .mv (.c (.bool false)), none⟩]
def c37k4 : ICode := .kill 76 [] (.ops c37r4)
def c37r5 : List Seg := [
  .one ⟨some 69, .mv (.t 9), none⟩,
  .one ⟨some 70, .mv (.t 1), none⟩,
  .one ⟨some 71, .mv (.t 14), none⟩,
  .one ⟨some 72, .idxS 1 (.t 70) (.t 71), none⟩,
  .one ⟨some 73, .load1 (.t 72), none⟩,
  .one ⟨some 74, .bin .add (.t 69) (.t 73), none⟩,
  .one ⟨some 9, .mv (.t 74), none⟩]
def c37k5 : ICode := .kill 76 [1, 2, 3, 8, 9, 10, 14] (.ops c37r5)
def c37r6 : List Seg := [
  .one ⟨some 56, .mv (.t 9), none⟩,
  .one ⟨some 57, .mv (.t 1), none⟩,
  .one ⟨some 58, .mv (.t 14), none⟩,
  .one ⟨some 59, .idxS 1 (.t 57) (.t 58), none⟩,
  .one ⟨some 60, .load1 (.t 59), none⟩,
  .one ⟨some 61, .bin .sub (.t 56) (.t 60), none⟩,
  .one ⟨some 9, .mv (.t 61), none⟩]
def c37k6 : ICode := .kill 76 [1, 2, 3, 8, 9, 10, 14] (.ops c37r6)
def c37s7 : ICode := (.cond (.t 65) c37k5 c37k6)
def c37r8 : List Seg := [
  .one ⟨some 66, .mv (.t 11), none⟩,
  .one ⟨some 67, .mv (.t 12), none⟩,
  .one ⟨some 68, .bin .lss (.t 66) (.t 67), none⟩,
  .one ⟨some 65, .mv (.t 68), none⟩]
def c37k8 : ICode := .kill 76 [1, 2, 3, 8, 9, 10, 11, 12, 14] (.ops c37r8)
def c37s9 : ICode := (.cond (.t 62) (.seq c37k4 .ret) (.seq c37k8 c37s7))
def c37r10 : List Seg := [
  .one ⟨some 63, .mv (.t 14), none⟩,
  .one ⟨some 64, .bin .lss (.t 63) (.c (.int .i64 0)), none⟩,
  .one ⟨some 62, .mv (.t 64), none⟩]
def c37k10 : ICode := .kill 76 [1, 2, 3, 8, 9, 10, 11, 12, 14] (.ops c37r10)
def c37s11 : ICode := (.block 4 (.seq c37k10 c37s9))
def c37r12 : List Seg := [
  .one ⟨some 52, .loadN 3 (.t 3), none⟩,
  .one ⟨some 53, .mv (.t 11), none⟩,
  .one ⟨some 54, .mv (.t 12), none⟩,
  .one ⟨some 55, .call [] (.c (.func 60 [])) [(.t 52), (.t 53), (.t 54)], none⟩,
  .one ⟨some 14, .mv (.t 55), none⟩]
def c37k12 : ICode := .kill 76 [1, 2, 3, 8, 9, 10, 11, 12] (.ops c37r12)
def c37s13 : ICode := (.seq c37k12 c37s11)
def c37r15 : List Seg := [
  .one ⟨some 44, .mv (.t 13), none⟩,
  .one ⟨some 45, .bin .add (.t 44) (.c (.int .i64 1)), none⟩,
  .one ⟨some 13, .mv (.t 45), none⟩]
def c37k15 : ICode := .kill 76 [1, 2, 3, 8, 9, 10, 11, 12, 13] (.ops c37r15)
def c37r16 : List Seg := [
  .one ⟨some 6, .mv (.c (.int .i64 0)), none⟩,
  .one ⟨some 7, .mv (.c (.bool false)), none⟩]
def c37k16 : ICode := .kill 76 [] (.ops c37r16)
def c37s17 : ICode := (.cond (.t 51) (.seq c37k16 .ret) .skip)
def c37r18 : List Seg := [
  .one ⟨some 46, .mv (.t 2), none⟩,
  .one ⟨some 47, .mv (.t 13), none⟩,
  .one ⟨some 48, .idxS 1 (.t 46) (.t 47), none⟩,
  .one ⟨some 49, .load1 (.t 48), none⟩,
  .one ⟨some 50, .mv (.t 11), none⟩,
  .one ⟨some 51, .bin .eql (.t 49) (.t 50), none⟩]
def c37k18 : ICode := .kill 76 [1, 2, 3, 8, 9, 10, 11, 12, 13] (.ops c37r18)
def c37s19 : ICode := (.seq (.block 3 (.seq c37k18 c37s17)) c37k15)
def c37s20 : ICode := (.cond (.t 43) .skip (.exit 2))
def c37r21 : List Seg := [
  .one ⟨some 41, .mv (.t 13), none⟩,
  .one ⟨some 42, .mv (.t 10), none⟩,
  .one ⟨some 43, .bin .lss (.t 41) (.t 42), none⟩]
def c37k21 : ICode := .kill 76 [1, 2, 3, 8, 9, 10, 11, 12, 13] (.ops c37r21)
def c37l14 : ICode := (.seq (.seq c37k21 c37s20) c37s19)
def c37s22 : ICode := (.block 2 (.loop c37l14))
def c37r23 : List Seg := [
  .one ⟨some 13, .mv (.c (.int .i64 0)), none⟩]
def c37k23 : ICode := .kill 76 [1, 2, 3, 8, 9, 10, 11, 12] (.ops c37r23)
def c37s24 : ICode := (.seq (.seq c37k23 c37s22) c37s13)
def c37r25 : List Seg := [
  .grp [(⟨some 30, .mv (.t 2), none⟩, 0), (⟨some 31, .mv (.t 10), none⟩, 0), (⟨some 32, .idxS 1 (.t 30) (.t 31), none⟩, 3), (⟨some 33, .load1 (.t 32), none⟩, 7), (⟨some 34, .mv (.t 2), none⟩, 0), (⟨some 35, .mv (.t 10), none⟩, 0), (⟨some 36, .bin .add (.t 35) (.c (.int .i64 1)), none⟩, 32), (⟨some 37, .mv (.t 8), none⟩, 0), (⟨some 38, .bin .rem (.t 36) (.t 37), none⟩, 224), (⟨some 39, .idxS 1 (.t 34) (.t 38), none⟩, 496), (⟨some 40, .load1 (.t 39), none⟩, 1008), (⟨some 11, .mv (.t 33), none⟩, 15)],
  .one ⟨some 12, .mv (.t 40), none⟩]
def c37k25 : ICode := .kill 76 [1, 2, 3, 8, 9, 10] (.ops c37r25)
def c37s26 : ICode := (.seq (.block 1 (.seq c37k25 c37s24)) c37k3)
def c37s27 : ICode := (.cond (.t 27) .skip (.exit 0))
def c37r28 : List Seg := [
  .one ⟨some 25, .mv (.t 10), none⟩,
  .one ⟨some 26, .mv (.t 8), none⟩,
  .one ⟨some 27, .bin .lss (.t 25) (.t 26), none⟩]
def c37k28 : ICode := .kill 76 [1, 2, 3, 8, 9, 10] (.ops c37r28)
def c37l2 : ICode := (.seq (.seq c37k28 c37s27) c37s26)
def c37s29 : ICode := (.block 0 (.loop c37l2))
def c37r30 : List Seg := [
  .one ⟨some 10, .mv (.c (.int .i64 0)), none⟩]
def c37k30 : ICode := .kill 76 [1, 2, 3, 8, 9] (.ops c37r30)
def c37s31 : ICode := (.seq (.seq c37k30 c37s29) c37s1)
def c37r32 : List Seg := [
  .one ⟨some 9, .mv (.c (.int .i64 0)), none⟩]
def c37k32 : ICode := .kill 76 [1, 2, 3, 8] (.ops c37r32)
def c37s33 : ICode := (.seq c37k32 c37s31)
def c37r34 : List Seg := [
  .one ⟨some 6, .mv (.c (.int .i64 0)), none⟩,
  .one ⟨some 7, .mv (.c (.bool false)), none⟩]
def c37k34 : ICode := .kill 76 [] (.ops c37r34)
def c37s35 : ICode := (.cond (.t 24) (.seq c37k34 .ret) .skip)
def c37r36 : List Seg := [
  .one ⟨some 17, .mv (.t 8), none⟩,
  .one ⟨some 18, .bin .lss (.t 17) (.c (.int .i64 3)), none⟩,
  .one ⟨some 19, .mv (.t 18), none⟩,
  .one ⟨some 20, .mv (.t 8), some (19, false)⟩,
  .one ⟨some 21, .fieldA 0 (.t 3), some (19, false)⟩,
  .one ⟨some 22, .load1 (.t 21), some (19, false)⟩,
  .one ⟨some 23, .bin .gtr (.t 20) (.t 22), some (19, false)⟩,
  .one ⟨some 24, .pick (.t 19) (.c (.bool true)) (.t 23), none⟩]
def c37k36 : ICode := .kill 76 [1, 2, 3, 8] (.ops c37r36)
def c37s37 : ICode := (.seq (.seq c37k36 c37s35) c37s33)
def c37r38 : List Seg := [
  .one ⟨some 15, .mv (.t 2), none⟩,
  .one ⟨some 16, .len 0 (.t 15), none⟩,
  .one ⟨some 8, .mv (.t 16), none⟩]
def c37k38 : ICode := .kill 76 [1, 2, 3] (.ops c37r38)
def c37s39 : ICode := (.seq c37k38 c37s37)
def c37r40 : List Seg := [
  .one ⟨some 3, .box (.t 0), none⟩,
  .one ⟨some 6, .mv (.c (.int .i64 0)), none⟩,
  .one ⟨some 7, .mv (.c (.bool false)), none⟩]
def c37k40 : ICode := .kill 76 [0, 1, 2] (.ops c37r40)
def c37b : ICode := (.seq c37k40 c37s39)
def c37 : IFn := ⟨76, [.t 6, .t 7], c37b⟩
def h37 : List (Nat × Nat × List Nat) := [(0, (76, [0, 1, 2])), (1, (76, [1, 2, 3])), (2, (76, [1, 2, 3, 8])), (3, (76, [])), (4, (76, [1, 2, 3, 8])), (5, (76, [1, 2, 3, 8, 9])), (6, (76, [1, 2, 3, 8, 9, 10])), (8, (76, [1, 2, 3, 8, 9, 10])), (9, (76, [1, 2, 3, 8, 9, 10, 11, 12])), (10, (76, [1, 2, 3, 8, 9, 10, 11, 12, 13])), (12, (76, [1, 2, 3, 8, 9, 10, 11, 12, 13])), (13, (76, [])), (11, (76, [1, 2, 3, 8, 9, 10, 11, 12, 13])), (14, (76, [1, 2, 3, 8, 9, 10, 11, 12])), (16, (76, [1, 2, 3, 8, 9, 10, 11, 12, 14])), (17, (76, [])), (18, (76, [1, 2, 3, 8, 9, 10, 11, 12, 14])), (19, (76, [1, 2, 3, 8, 9, 10, 14])), (15, (76, [1, 2, 3, 8, 9, 10, 14])), (7, (76, [1, 2, 3, 8, 9, 10])), (20, (76, [9]))]
def c38r0 : List Seg := [
  .one ⟨some 46, .load1 (.t 7), none⟩,
  .one ⟨some 4, .mv (.t 46), none⟩,
  .one ⟨some 5, .mv (.c (.int .i64 0)), none⟩]
def c38k0 : ICode := .kill 47 [7] (.ops c38r0)
def c38s1 : ICode := (.seq c38k0 .ret)
def c38r3 : List Seg := [
  .one ⟨some 45, .bin .add (.t 26) (.c (.int .i64 1)), none⟩,
  .one ⟨some 26, .mv (.t 45), none⟩]
def c38k3 : ICode := .kill 47 [2, 4, 5, 7, 24, 25, 26] (.ops c38r3)
def c38r5 : List Seg := [
  .grp [(⟨some 36, .load1 (.t 7), none⟩, 0), (⟨some 37, .mv (.t 10), none⟩, 0), (⟨some 38, .idxS 1 (.t 36) (.t 37), none⟩, 3), (⟨some 39, .load1 (.t 38), none⟩, 7), (⟨some 40, .mv (.t 11), none⟩, 0), (⟨some 41, .load1 (.t 9), none⟩, 0), (⟨some 42, .bin .mul (.t 40) (.t 41), none⟩, 48)],
  .one ⟨some 43, .bin .add (.t 39) (.t 42), none⟩,
  .one ⟨some 44, .idxS 1 (.t 36) (.t 37), none⟩,
  .one ⟨none, .store1 (.t 44) (.t 43), none⟩]
def c38k5 : ICode := .kill 47 [7, 9, 10, 11] (.ops c38r5)
def c38r6 : List Seg := [
  .one ⟨some 11, .mv (.t 35), none⟩]
def c38k6 : ICode := .kill 47 [7, 9, 10, 35] (.ops c38r6)
def c38r7 : List Seg := [
  .one ⟨some 10, .mv (.t 34), none⟩]
def c38k7 : ICode := .kill 47 [7, 9, 34, 35] (.ops c38r7)
def c38f4a : ICode := (.seq c38k7 c38k6)
def c38f4b : ICode := (.block 3 c38k5)
def c38s8 : ICode := (.block 2 (.rf (.t 33) [34, 35] c38f4a c38f4b))
def c38r9 : List Seg := [
  .one ⟨some 31, .loadN 3 (.t 2), none⟩,
  .one ⟨some 32, .mv (.t 8), none⟩,
  .one ⟨some 33, .call [] (.c (.func 62 [])) [(.t 31), (.t 32)], none⟩]
def c38k9 : ICode := .kill 47 [2, 4, 5, 7, 8, 9, 24, 25, 26] (.ops c38r9)
def c38s10 : ICode := (.seq c38k9 c38s8)
def c38r11 : List Seg := [
  .one ⟨some 28, .mv (.t 26), none⟩,
  .one ⟨some 29, .idxS 1 (.t 24) (.t 26), none⟩,
  .one ⟨some 30, .load1 (.t 29), none⟩,
  .one ⟨some 9, .box (.c (.int .i64 0)), none⟩,
  .one ⟨some 8, .mv (.t 28), none⟩,
  .one ⟨none, .store1 (.t 9) (.t 30), none⟩]
def c38k11 : ICode := .kill 47 [2, 4, 5, 7, 24, 25, 26] (.ops c38r11)
def c38s12 : ICode := (.seq (.block 1 (.seq c38k11 c38s10)) c38k3)
def c38s13 : ICode := (.seq (.cond (.t 27) .skip (.exit 0)) c38s12)
def c38r14 : List Seg := [
  .one ⟨some 27, .bin .lss (.t 26) (.t 25), none⟩]
def c38k14 : ICode := .kill 47 [2, 4, 5, 7, 24, 25, 26] (.ops c38r14)
def c38l2 : ICode := (.seq c38k14 c38s13)
def c38s15 : ICode := (.block 0 (.loop c38l2))
def c38r16 : List Seg := [
  .one ⟨some 24, .mv (.t 1), none⟩,
  .one ⟨some 25, .len 0 (.t 24), none⟩,
  .one ⟨some 26, .mv (.c (.int .i64 0)), none⟩]
def c38k16 : ICode := .kill 47 [1, 2, 4, 5, 7] (.ops c38r16)
def c38s17 : ICode := (.seq (.seq c38k16 c38s15) c38s1)
def c38r18 : List Seg := [
  .one ⟨some 20, .fieldA 1 (.t 2), none⟩,
  .one ⟨some 21, .load1 (.t 20), none⟩,
  .one ⟨some 22, .len 0 (.t 21), none⟩,
  .one ⟨some 23, .make [.int .i64 0] 8 (.t 22) (.t 22), none⟩,
  .one ⟨some 7, .box (.c .nilslice), none⟩,
  .one ⟨none, .store1 (.t 7) (.t 23), none⟩]
def c38k18 : ICode := .kill 47 [1, 2, 4, 5] (.ops c38r18)
def c38s19 : ICode := (.seq c38k18 c38s17)
def c38r20 : List Seg := [
  .one ⟨some 19, .mv (.t 6), none⟩,
  .one ⟨some 4, .mv (.c .nilslice), none⟩,
  .one ⟨some 5, .mv (.t 19), none⟩]
def c38k20 : ICode := .kill 47 [6] (.ops c38r20)
def c38s21 : ICode := (.cond (.t 18) (.seq c38k20 .ret) .skip)
def c38r22 : List Seg := [
  .one ⟨some 17, .mv (.t 6), none⟩,
  .one ⟨some 18, .bin .neq (.t 17) (.c (.int .i64 0)), none⟩]
def c38k22 : ICode := .kill 47 [1, 2, 4, 5, 6] (.ops c38r22)
def c38s23 : ICode := (.seq c38k22 c38s21)
def c38r24 : List Seg := [
  .one ⟨some 12, .loadN 3 (.t 2), none⟩,
  .one ⟨some 13, .mv (.t 1), none⟩,
  .one ⟨some 14, .loadN 3 (.t 2), none⟩,
  .one ⟨some 15, .bind 77 [(.t 14)], none⟩,
  .one ⟨some 16, .call [] (.c (.func 66 [])) [(.t 12), (.t 13), (.t 15)], none⟩,
  .one ⟨some 6, .mv (.t 16), none⟩]
def c38k24 : ICode := .kill 47 [1, 2, 4, 5] (.ops c38r24)
def c38s25 : ICode := (.seq (.seq c38k24 c38s23) c38s19)
def c38r26 : List Seg := [
  .one ⟨some 2, .box (.t 0), none⟩,
  .one ⟨some 4, .mv (.c .nilslice), none⟩,
  .one ⟨some 5, .mv (.c (.int .i64 0)), none⟩]
def c38k26 : ICode := .kill 47 [0, 1] (.ops c38r26)
def c38b : ICode := (.seq c38k26 c38s25)
def c38 : IFn := ⟨47, [.t 4, .t 5], c38b⟩
def h38 : List (Nat × Nat × List Nat) := [(0, (47, [0, 1])), (1, (47, [1, 2, 4, 5])), (2, (47, [1, 2, 4, 5, 6])), (3, (47, [6])), (4, (47, [1, 2, 4, 5])), (5, (47, [1, 2, 4, 5, 7])), (6, (47, [2, 4, 5, 7, 24, 25, 26])), (7, (47, [2, 4, 5, 7, 24, 25, 26])), (8, (47, [2, 4, 5, 7, 8, 9, 24, 25, 26])), (9, (47, [7, 9, 34, 35])), (10, (47, [7, 9, 10, 35])), (11, (47, [7, 9, 10, 11])), (12, (47, [2, 4, 5, 7, 24, 25, 26])), (13, (47, [7]))]
def c39r0 : List Seg := [
  .one ⟨some 24, .mv (.t 0), none⟩,
  .one ⟨some 25, .len 0 (.t 24), none⟩,
  .one ⟨some 26, .mv (.t 1), none⟩,
  .one ⟨some 27, .bin .eql (.t 25) (.t 26), none⟩,
  .one ⟨some 4, .mv (.t 27), none⟩]
def c39k0 : ICode := .kill 28 [0, 1] (.ops c39r0)
def c39s1 : ICode := (.seq c39k0 .ret)
def c39r3 : List Seg := [
  .one ⟨some 10, .mv (.t 5), none⟩,
  .one ⟨some 11, .bin .add (.t 10) (.c (.int .i64 1)), none⟩,
  .one ⟨some 5, .mv (.t 11), none⟩]
def c39k3 : ICode := .kill 28 [0, 1, 5] (.ops c39r3)
def c39r4 : List Seg := [
  .one ⟨some 4, .mv (.c (.bool false)), none⟩]
def c39k4 : ICode := .kill 28 [] (.ops c39r4)
def c39s5 : ICode := (.cond (.t 23) (.seq c39k4 .ret) .skip)
def c39r6 : List Seg := [
  .one ⟨some 12, .mv (.t 0), none⟩,
  .one ⟨some 13, .mv (.t 5), none⟩,
  .one ⟨some 14, .idxS 1 (.t 12) (.t 13), none⟩,
  .one ⟨some 15, .load1 (.t 14), none⟩,
  .one ⟨some 16, .bin .lss (.t 15) (.c (.int .i64 (-100))), none⟩,
  .one ⟨some 17, .mv (.t 16), none⟩,
  .one ⟨some 18, .mv (.t 0), some (17, false)⟩,
  .one ⟨some 19, .mv (.t 5), some (17, false)⟩,
  .one ⟨some 20, .idxS 1 (.t 18) (.t 19), some (17, false)⟩,
  .one ⟨some 21, .load1 (.t 20), some (17, false)⟩,
  .one ⟨some 22, .bin .gtr (.t 21) (.c (.int .i64 100)), some (17, false)⟩,
  .one ⟨some 23, .pick (.t 17) (.c (.bool true)) (.t 22), none⟩]
def c39k6 : ICode := .kill 28 [0, 1, 5] (.ops c39r6)
def c39s7 : ICode := (.seq (.block 1 (.seq c39k6 c39s5)) c39k3)
def c39s8 : ICode := (.cond (.t 9) .skip (.exit 0))
def c39r9 : List Seg := [
  .one ⟨some 6, .mv (.t 5), none⟩,
  .one ⟨some 7, .mv (.t 0), none⟩,
  .one ⟨some 8, .len 0 (.t 7), none⟩,
  .one ⟨some 9, .bin .lss (.t 6) (.t 8), none⟩]
def c39k9 : ICode := .kill 28 [0, 1, 5] (.ops c39r9)
def c39l2 : ICode := (.seq (.seq c39k9 c39s8) c39s7)
def c39s10 : ICode := (.block 0 (.loop c39l2))
def c39r11 : List Seg := [
  .one ⟨some 5, .mv (.c (.int .i64 0)), none⟩]
def c39k11 : ICode := .kill 28 [0, 1] (.ops c39r11)
def c39s12 : ICode := (.seq (.seq c39k11 c39s10) c39s1)
def c39r13 : List Seg := [
  .one ⟨some 4, .mv (.c (.bool false)), none⟩]
def c39k13 : ICode := .kill 28 [0, 1] (.ops c39r13)
def c39b : ICode := (.seq c39k13 c39s12)
def c39 : IFn := ⟨28, [.t 4], c39b⟩
def h39 : List (Nat × Nat × List Nat) := [(0, (28, [0, 1])), (1, (28, [0, 1])), (2, (28, [0, 1, 5])), (4, (28, [0, 1, 5])), (5, (28, [])), (3, (28, [0, 1, 5])), (6, (28, [0, 1]))]
def c40r0 : List Seg := [
  .one ⟨some 44, .mv (.t 7), none⟩,
  .one ⟨some 4, .mv (.t 44), none⟩,
  .one ⟨some 5, .mv (.c (.int .i64 0)), none⟩]
def c40k0 : ICode := .kill 45 [7] (.ops c40r0)
def c40s1 : ICode := (.seq c40k0 .ret)
def c40r3 : List Seg := [
  .one ⟨some 43, .bin .add (.t 23) (.c (.int .i64 1)), none⟩,
  .one ⟨some 23, .mv (.t 43), none⟩]
def c40k3 : ICode := .kill 45 [2, 3, 4, 5, 7, 22, 23] (.ops c40r3)
def c40r4 : List Seg := [
  .one ⟨some 39, .mv (.t 7), none⟩,
  .one ⟨some 40, .load1 (.t 9), none⟩,
  .one ⟨some 41, .mkslice 1 [.int .i64 0] [(0, 1, (.t 40))], none⟩,
  .one ⟨some 42, .app 1 8 (.t 39) (.t 41), none⟩,
  .one ⟨some 7, .mv (.t 42), none⟩]
def c40k4 : ICode := .kill 45 [2, 3, 4, 5, 7, 9, 22, 23] (.ops c40r4)
def c40r6 : List Seg := [
  .grp [(⟨some 31, .load1 (.t 9), none⟩, 0), (⟨some 32, .mv (.t 11), none⟩, 0), (⟨some 33, .load1 (.t 3), none⟩, 0), (⟨some 34, .mv (.t 10), none⟩, 0), (⟨some 35, .idxS 1 (.t 33) (.t 34), none⟩, 12), (⟨some 36, .load1 (.t 35), none⟩, 28), (⟨some 37, .bin .mul (.t 32) (.t 36), none⟩, 62)],
  .one ⟨some 38, .bin .add (.t 31) (.t 37), none⟩,
  .one ⟨none, .store1 (.t 9) (.t 38), none⟩]
def c40k6 : ICode := .kill 45 [3, 9, 10, 11] (.ops c40r6)
def c40r7 : List Seg := [
  .one ⟨some 11, .mv (.t 30), none⟩]
def c40k7 : ICode := .kill 45 [3, 9, 10, 30] (.ops c40r7)
def c40r8 : List Seg := [
  .one ⟨some 10, .mv (.t 29), none⟩]
def c40k8 : ICode := .kill 45 [3, 9, 29, 30] (.ops c40r8)
def c40f5a : ICode := (.seq c40k8 c40k7)
def c40f5b : ICode := (.block 3 c40k6)
def c40s9 : ICode := (.block 2 (.rf (.t 28) [29, 30] c40f5a c40f5b))
def c40r10 : List Seg := [
  .one ⟨some 26, .loadN 3 (.t 2), none⟩,
  .one ⟨some 27, .mv (.t 8), none⟩,
  .one ⟨some 28, .call [] (.c (.func 62 [])) [(.t 26), (.t 27)], none⟩]
def c40k10 : ICode := .kill 45 [2, 3, 4, 5, 7, 8, 9, 22, 23] (.ops c40r10)
def c40s11 : ICode := (.seq (.seq c40k10 c40s9) c40k4)
def c40r12 : List Seg := [
  .one ⟨some 9, .box (.c (.int .i64 0)), none⟩,
  .one ⟨none, .store1 (.t 9) (.c (.int .i64 0)), none⟩]
def c40k12 : ICode := .kill 45 [2, 3, 4, 5, 7, 8, 22, 23] (.ops c40r12)
def c40s13 : ICode := (.seq c40k12 c40s11)
def c40r14 : List Seg := [
  .one ⟨some 25, .mv (.t 23), none⟩,
  .one ⟨some 8, .mv (.t 25), none⟩]
def c40k14 : ICode := .kill 45 [2, 3, 4, 5, 7, 22, 23] (.ops c40r14)
def c40s15 : ICode := (.seq (.block 1 (.seq c40k14 c40s13)) c40k3)
def c40s16 : ICode := (.seq (.cond (.t 24) .skip (.exit 0)) c40s15)
def c40r17 : List Seg := [
  .one ⟨some 24, .bin .lss (.t 23) (.t 22), none⟩]
def c40k17 : ICode := .kill 45 [2, 3, 4, 5, 7, 22, 23] (.ops c40r17)
def c40l2 : ICode := (.seq c40k17 c40s16)
def c40s18 : ICode := (.block 0 (.loop c40l2))
def c40r19 : List Seg := [
  .one ⟨some 20, .fieldA 2 (.t 2), none⟩,
  .one ⟨some 21, .load1 (.t 20), none⟩,
  .one ⟨some 22, .len 0 (.t 21), none⟩,
  .one ⟨some 23, .mv (.c (.int .i64 0)), none⟩]
def c40k19 : ICode := .kill 45 [2, 3, 4, 5, 7] (.ops c40r19)
def c40s20 : ICode := (.seq (.seq c40k19 c40s18) c40s1)
def c40r21 : List Seg := [
  .one ⟨some 7, .mv (.c .nilslice), none⟩]
def c40k21 : ICode := .kill 45 [2, 3, 4, 5] (.ops c40r21)
def c40s22 : ICode := (.seq c40k21 c40s20)
def c40r23 : List Seg := [
  .one ⟨some 19, .mv (.t 6), none⟩,
  .one ⟨some 4, .mv (.c .nilslice), none⟩,
  .one ⟨some 5, .mv (.t 19), none⟩]
def c40k23 : ICode := .kill 45 [6] (.ops c40r23)
def c40s24 : ICode := (.cond (.t 18) (.seq c40k23 .ret) .skip)
def c40r25 : List Seg := [
  .one ⟨some 17, .mv (.t 6), none⟩,
  .one ⟨some 18, .bin .neq (.t 17) (.c (.int .i64 0)), none⟩]
def c40k25 : ICode := .kill 45 [2, 3, 4, 5, 6] (.ops c40r25)
def c40s26 : ICode := (.seq c40k25 c40s24)
def c40r27 : List Seg := [
  .one ⟨some 12, .loadN 3 (.t 2), none⟩,
  .one ⟨some 13, .load1 (.t 3), none⟩,
  .one ⟨some 14, .loadN 3 (.t 2), none⟩,
  .one ⟨some 15, .bind 67 [(.t 14)], none⟩,
  .one ⟨some 16, .call [] (.c (.func 66 [])) [(.t 12), (.t 13), (.t 15)], none⟩,
  .one ⟨some 6, .mv (.t 16), none⟩]
def c40k27 : ICode := .kill 45 [2, 3, 4, 5] (.ops c40r27)
def c40s28 : ICode := (.seq (.seq c40k27 c40s26) c40s22)
def c40r29 : List Seg := [
  .one ⟨some 2, .box (.t 0), none⟩,
  .one ⟨some 3, .box (.t 1), none⟩,
  .one ⟨some 4, .mv (.c .nilslice), none⟩,
  .one ⟨some 5, .mv (.c (.int .i64 0)), none⟩]
def c40k29 : ICode := .kill 45 [0, 1] (.ops c40r29)
def c40b : ICode := (.seq c40k29 c40s28)
def c40 : IFn := ⟨45, [.t 4, .t 5], c40b⟩
def h40 : List (Nat × Nat × List Nat) := [(0, (45, [0, 1])), (1, (45, [2, 3, 4, 5])), (2, (45, [2, 3, 4, 5, 6])), (3, (45, [6])), (4, (45, [2, 3, 4, 5])), (5, (45, [2, 3, 4, 5, 7])), (6, (45, [2, 3, 4, 5, 7, 22, 23])), (7, (45, [2, 3, 4, 5, 7, 22, 23])), (8, (45, [2, 3, 4, 5, 7, 8, 22, 23])), (9, (45, [2, 3, 4, 5, 7, 8, 9, 22, 23])), (10, (45, [3, 9, 29, 30])), (11, (45, [3, 9, 10, 30])), (12, (45, [3, 9, 10, 11])), (13, (45, [2, 3, 4, 5, 7, 9, 22, 23])), (14, (45, [2, 3, 4, 5, 7, 22, 23])), (15, (45, [7]))]
def c41r0 : List Seg := [
  .grp [(⟨some 51, .mv (.t 8), none⟩, 0), (⟨some 52, .nilck (.t 51), none⟩, 1), (⟨some 53, .fieldA 6 (.t 52), none⟩, 3), (⟨some 54, .fieldA 0 (.t 2), none⟩, 0), (⟨some 55, .load1 (.t 54), none⟩, 8)],
  .one ⟨some 56, .sliceA 6 1 (.t 53) none (some (.t 55)) none, none⟩,
  .one ⟨some 57, .call [] (.c (.func 79 [])) [(.t 56)], none⟩,
  .one ⟨some 4, .mv (.t 57), none⟩,
  .one ⟨some 5, .mv (.c (.bool true)), none⟩,
  .one ⟨some 6, .mv (.c (.int .i64 0)), none⟩]
def c41k0 : ICode := .kill 58 [2, 8] (.ops c41r0)
def c41s1 : ICode := (.seq c41k0 .ret)
def c41r3 : List Seg := [
  .one ⟨some 50, .bin .add (.t 25) (.c (.int .i64 1)), none⟩,
  .one ⟨some 25, .mv (.t 50), none⟩]
def c41k3 : ICode := .kill 58 [1, 2, 8, 23, 24, 25] (.ops c41r3)
def c41r4 : List Seg := [
  .one ⟨some 4, .mv (.c .nilslice), none⟩,
  .one ⟨some 5, .mv (.c (.bool false)), none⟩,
  .one ⟨some 6, .mv (.c (.int .i64 0)), none⟩]
def c41k4 : ICode := .kill 58 [] (.ops c41r4)
def c41s5 : ICode := (.cond (.t 49) (.seq c41k4 .ret) .skip)
def c41r6 : List Seg := [
  .grp [(⟨some 30, .mv (.t 8), none⟩, 0), (⟨some 31, .idxA 2 1 (.t 10) (.c (.int .i64 1)), none⟩, 0), (⟨some 32, .load1 (.t 31), none⟩, 2), (⟨some 33, .nilck (.t 30), none⟩, 1), (⟨some 34, .fieldA 6 (.t 33), none⟩, 9), (⟨some 35, .idxA 6 1 (.t 34) (.t 32), none⟩, 31), (⟨some 36, .load1 (.t 35), none⟩, 63), (⟨some 37, .mv (.t 8), none⟩, 0), (⟨some 38, .idxA 2 1 (.t 10) (.c (.int .i64 0)), none⟩, 0), (⟨some 39, .load1 (.t 38), none⟩, 256), (⟨some 40, .nilck (.t 37), none⟩, 128), (⟨some 41, .fieldA 6 (.t 40), none⟩, 1152), (⟨some 42, .idxA 6 1 (.t 41) (.t 39), none⟩, 3968), (⟨some 43, .load1 (.t 42), none⟩, 8064), (⟨some 44, .bin .sub (.t 36) (.t 43), none⟩, 16383), (⟨some 45, .mv (.t 1), none⟩, 0), (⟨some 46, .mv (.t 9), none⟩, 0), (⟨some 47, .idxS 1 (.t 45) (.t 46), none⟩, 98304), (⟨some 48, .load1 (.t 47), none⟩, 229376)],
  .one ⟨some 49, .bin .neq (.t 44) (.t 48), none⟩]
def c41k6 : ICode := .kill 58 [1, 2, 8, 9, 10, 23, 24, 25] (.ops c41r6)
def c41s7 : ICode := (.seq c41k6 c41s5)
def c41r8 : List Seg := [
  .one ⟨some 27, .mv (.t 25), none⟩,
  .one ⟨some 28, .idxS 2 (.t 23) (.t 25), none⟩,
  .one ⟨some 29, .loadN 2 (.t 28), none⟩,
  .one ⟨some 10, .box (.c (.agg [.int .i64 0, .int .i64 0])), none⟩,
  .one ⟨some 9, .mv (.t 27), none⟩,
  .one ⟨none, .storeN 2 (.t 10) (.t 29), none⟩]
def c41k8 : ICode := .kill 58 [1, 2, 8, 23, 24, 25] (.ops c41r8)
def c41s9 : ICode := (.seq (.block 1 (.seq c41k8 c41s7)) c41k3)
def c41s10 : ICode := (.seq (.cond (.t 26) .skip (.exit 0)) c41s9)
def c41r11 : List Seg := [
  .one ⟨some 26, .bin .lss (.t 25) (.t 24), none⟩]
def c41k11 : ICode := .kill 58 [1, 2, 8, 23, 24, 25] (.ops c41r11)
def c41l2 : ICode := (.seq c41k11 c41s10)
def c41s12 : ICode := (.block 0 (.loop c41l2))
def c41r13 : List Seg := [
  .one ⟨some 22, .fieldA 1 (.t 2), none⟩,
  .one ⟨some 23, .load1 (.t 22), none⟩,
  .one ⟨some 24, .len 0 (.t 23), none⟩,
  .one ⟨some 25, .mv (.c (.int .i64 0)), none⟩]
def c41k13 : ICode := .kill 58 [1, 2, 8] (.ops c41r13)
def c41s14 : ICode := (.seq (.seq c41k13 c41s12) c41s1)
def c41r15 : List Seg := [
  .one ⟨some 19, .loadN 3 (.t 2), none⟩,
  .one ⟨some 20, .mv (.t 1), none⟩,
  .one ⟨some 21, .call [] (.c (.func 78 [])) [(.t 19), (.t 20)], none⟩,
  .one ⟨some 8, .mv (.t 21), none⟩]
def c41k15 : ICode := .kill 58 [1, 2] (.ops c41r15)
def c41s16 : ICode := (.seq c41k15 c41s14)
def c41r17 : List Seg := [
  .one ⟨some 18, .mv (.t 7), none⟩,
  .one ⟨some 4, .mv (.c .nilslice), none⟩,
  .one ⟨some 5, .mv (.c (.bool false)), none⟩,
  .one ⟨some 6, .mv (.t 18), none⟩]
def c41k17 : ICode := .kill 58 [7] (.ops c41r17)
def c41s18 : ICode := (.cond (.t 17) (.seq c41k17 .ret) .skip)
def c41r19 : List Seg := [
  .one ⟨some 16, .mv (.t 7), none⟩,
  .one ⟨some 17, .bin .neq (.t 16) (.c (.int .i64 0)), none⟩]
def c41k19 : ICode := .kill 58 [1, 2, 7] (.ops c41r19)
def c41s20 : ICode := (.seq c41k19 c41s18)
def c41r21 : List Seg := [
  .one ⟨some 11, .loadN 3 (.t 2), none⟩,
  .one ⟨some 12, .mv (.t 1), none⟩,
  .one ⟨some 13, .loadN 3 (.t 2), none⟩,
  .one ⟨some 14, .bind 67 [(.t 13)], none⟩,
  .one ⟨some 15, .call [] (.c (.func 66 [])) [(.t 11), (.t 12), (.t 14)], none⟩,
  .one ⟨some 7, .mv (.t 15), none⟩]
def c41k21 : ICode := .kill 58 [1, 2] (.ops c41r21)
def c41s22 : ICode := (.seq (.seq c41k21 c41s20) c41s16)
def c41r23 : List Seg := [
  .one ⟨some 2, .box (.t 0), none⟩,
  .one ⟨some 4, .mv (.c .nilslice), none⟩,
  .one ⟨some 5, .mv (.c (.bool false)), none⟩,
  .one ⟨some 6, .mv (.c (.int .i64 0)), none⟩]
def c41k23 : ICode := .kill 58 [0, 1] (.ops c41r23)
def c41b : ICode := (.seq c41k23 c41s22)
def c41 : IFn := ⟨58, [.t 4, .t 5, .t 6], c41b⟩
def h41 : List (Nat × Nat × List Nat) := [(0, (58, [0, 1])), (1, (58, [1, 2])), (2, (58, [1, 2, 7])), (3, (58, [7])), (4, (58, [1, 2])), (5, (58, [1, 2, 8])), (6, (58, [1, 2, 8, 23, 24, 25])), (7, (58, [1, 2, 8, 23, 24, 25])), (8, (58, [1, 2, 8, 9, 10, 23, 24, 25])), (9, (58, [])), (10, (58, [1, 2, 8, 23, 24, 25])), (11, (58, [2, 8]))]
def c42r0 : List Seg := [
  .one ⟨some 2, .mv (.c (.bool true)), none⟩]
def c42k0 : ICode := .kill 15 [] (.ops c42r0)
def c42s1 : ICode := (.seq c42k0 .ret)
def c42r3 : List Seg := [
  .one ⟨some 8, .mv (.t 3), none⟩,
  .one ⟨some 9, .bin .add (.t 8) (.c (.int .i64 1)), none⟩,
  .one ⟨some 3, .mv (.t 9), none⟩]
def c42k3 : ICode := .kill 15 [0, 3] (.ops c42r3)
def c42r4 : List Seg := [
  .one ⟨some 2, .mv (.c (.bool false)), none⟩]
def c42k4 : ICode := .kill 15 [] (.ops c42r4)
def c42s5 : ICode := (.cond (.t 14) (.seq c42k4 .ret) .skip)
def c42r6 : List Seg := [
  .one ⟨some 10, .mv (.t 0), none⟩,
  .one ⟨some 11, .mv (.t 3), none⟩,
  .one ⟨some 12, .idxS 1 (.t 10) (.t 11), none⟩,
  .one ⟨some 13, .load1 (.t 12), none⟩,
  .one ⟨some 14, .bin .neq (.t 13) (.c (.int .i64 0)), none⟩]
def c42k6 : ICode := .kill 15 [0, 3] (.ops c42r6)
def c42s7 : ICode := (.seq (.block 1 (.seq c42k6 c42s5)) c42k3)
def c42s8 : ICode := (.cond (.t 7) .skip (.exit 0))
def c42r9 : List Seg := [
  .one ⟨some 4, .mv (.t 3), none⟩,
  .one ⟨some 5, .mv (.t 0), none⟩,
  .one ⟨some 6, .len 0 (.t 5), none⟩,
  .one ⟨some 7, .bin .lss (.t 4) (.t 6), none⟩]
def c42k9 : ICode := .kill 15 [0, 3] (.ops c42r9)
def c42l2 : ICode := (.seq (.seq c42k9 c42s8) c42s7)
def c42s10 : ICode := (.block 0 (.loop c42l2))
def c42r11 : List Seg := [
  .one ⟨some 3, .mv (.c (.int .i64 0)), none⟩]
def c42k11 : ICode := .kill 15 [0] (.ops c42r11)
def c42s12 : ICode := (.seq (.seq c42k11 c42s10) c42s1)
def c42r13 : List Seg := [
  .one ⟨some 2, .mv (.c (.bool false)), none⟩]
def c42k13 : ICode := .kill 15 [0] (.ops c42r13)
def c42b : ICode := (.seq c42k13 c42s12)
def c42 : IFn := ⟨15, [.t 2], c42b⟩
def h42 : List (Nat × Nat × List Nat) := [(0, (15, [0])), (1, (15, [0])), (2, (15, [0, 3])), (4, (15, [0, 3])), (5, (15, [])), (3, (15, [0, 3])), (6, (15, []))]
def c43r0 : List Seg := [
  .one ⟨some 19, .mv (.t 3), none⟩,
  .one ⟨some 2, .mv (.t 19), none⟩]
def c43k0 : ICode := .kill 20 [3] (.ops c43r0)
def c43s1 : ICode := (.seq c43k0 .ret)
def c43r3 : List Seg := [
  .one ⟨some 9, .mv (.t 4), none⟩,
  .one ⟨some 10, .bin .add (.t 9) (.c (.int .i64 1)), none⟩,
  .one ⟨some 4, .mv (.t 10), none⟩]
def c43k3 : ICode := .kill 20 [0, 3, 4] (.ops c43r3)
def c43r4 : List Seg := [
  .one ⟨some 11, .mv (.t 3), none⟩,
  .one ⟨some 12, .mv (.t 0), none⟩,
  .one ⟨some 13, .mv (.t 4), none⟩,
  .one ⟨some 14, .idxS 1 (.t 12) (.t 13), none⟩,
  .one ⟨some 15, .load1 (.t 14), none⟩,
  .one ⟨some 16, .mkagg [.int .i64 0, .int .i64 0] [(0, 1, (.t 15)), (1, 1, (.c (.int .i64 1)))], none⟩,
  .one ⟨some 17, .mkslice 1 [.int .i64 0, .int .i64 0] [(0, 2, (.t 16))], none⟩,
  .one ⟨some 18, .app 2 16 (.t 11) (.t 17), none⟩,
  .one ⟨some 3, .mv (.t 18), none⟩]
def c43k4 : ICode := .kill 20 [0, 3, 4] (.ops c43r4)
def c43s5 : ICode := (.seq (.block 1 c43k4) c43k3)
def c43s6 : ICode := (.cond (.t 8) .skip (.exit 0))
def c43r7 : List Seg := [
  .one ⟨some 5, .mv (.t 4), none⟩,
  .one ⟨some 6, .mv (.t 0), none⟩,
  .one ⟨some 7, .len 0 (.t 6), none⟩,
  .one ⟨some 8, .bin .lss (.t 5) (.t 7), none⟩]
def c43k7 : ICode := .kill 20 [0, 3, 4] (.ops c43r7)
def c43l2 : ICode := (.seq (.seq c43k7 c43s6) c43s5)
def c43s8 : ICode := (.block 0 (.loop c43l2))
def c43r9 : List Seg := [
  .one ⟨some 4, .mv (.c (.int .i64 0)), none⟩]
def c43k9 : ICode := .kill 20 [0, 3] (.ops c43r9)
def c43s10 : ICode := (.seq (.seq c43k9 c43s8) c43s1)
def c43r11 : List Seg := [
  .one ⟨some 3, .mv (.c .nilslice), none⟩]
def c43k11 : ICode := .kill 20 [0] (.ops c43r11)
def c43s12 : ICode := (.seq c43k11 c43s10)
def c43r13 : List Seg := [
  .one ⟨some 2, .mv (.c .nilslice), none⟩]
def c43k13 : ICode := .kill 20 [0] (.ops c43r13)
def c43b : ICode := (.seq c43k13 c43s12)
def c43 : IFn := ⟨20, [.t 2], c43b⟩
def h43 : List (Nat × Nat × List Nat) := [(0, (20, [0])), (1, (20, [0])), (2, (20, [0, 3])), (3, (20, [0, 3, 4])), (5, (20, [0, 3, 4])), (4, (20, [0, 3, 4])), (6, (20, [3]))]
def c44r0 : List Seg := [
  .one ⟨some 63, .loadN 8 (.t 11), none⟩,
  .one ⟨none, .storeN 8 (.t 4) (.t 63), none⟩,
  .one ⟨some 5, .mv (.c (.int .i64 0)), none⟩]
def c44k0 : ICode := .kill 64 [4, 11] (.ops c44r0)
def c44s1 : ICode := (.seq c44k0 .ret)
def c44r3 : List Seg := [
  .one ⟨some 62, .bin .add (.t 48) (.c (.int .i64 1)), none⟩,
  .one ⟨some 48, .mv (.t 62), none⟩]
def c44k3 : ICode := .kill 64 [4, 11, 46, 47, 48] (.ops c44r3)
def c44r4 : List Seg := [
  .one ⟨some 55, .mv (.t 12), none⟩,
  .one ⟨some 56, .fieldA 0 (.t 14), none⟩,
  .one ⟨some 57, .load1 (.t 56), none⟩,
  .one ⟨some 58, .fieldA 1 (.t 14), none⟩,
  .one ⟨some 59, .load1 (.t 58), none⟩,
  .one ⟨some 60, .mkagg [.int .i64 0, .int .i64 0] [(0, 1, (.t 57)), (1, 1, (.t 59))], none⟩,
  .one ⟨some 61, .idxA 4 2 (.t 11) (.t 55), none⟩,
  .one ⟨none, .storeN 2 (.t 61) (.t 60), none⟩]
def c44k4 : ICode := .kill 64 [4, 11, 12, 14, 46, 47, 48] (.ops c44r4)
def c44r5 : List Seg := [
  .one ⟨some 53, .mv (.t 13), none⟩,
  .one ⟨some 54, .call [] (.c (.func 80 [])) [(.t 53)], none⟩,
  .one ⟨some 14, .box (.c (.agg [.int .i64 0, .int .i64 0])), none⟩,
  .one ⟨none, .storeN 2 (.t 14) (.t 54), none⟩]
def c44k5 : ICode := .kill 64 [4, 11, 12, 13, 46, 47, 48] (.ops c44r5)
def c44s6 : ICode := (.seq c44k5 c44k4)
def c44r7 : List Seg := [
  .one ⟨some 50, .mv (.t 48), none⟩,
  .one ⟨some 51, .idxS 1 (.t 46) (.t 48), none⟩,
  .one ⟨some 52, .load1 (.t 51), none⟩,
  .one ⟨some 12, .mv (.t 50), none⟩,
  .one ⟨some 13, .mv (.t 52), none⟩]
def c44k7 : ICode := .kill 64 [4, 11, 46, 47, 48] (.ops c44r7)
def c44s8 : ICode := (.seq (.block 3 (.seq c44k7 c44s6)) c44k3)
def c44s9 : ICode := (.seq (.cond (.t 49) .skip (.exit 2)) c44s8)
def c44r10 : List Seg := [
  .one ⟨some 49, .bin .lss (.t 48) (.t 47), none⟩]
def c44k10 : ICode := .kill 64 [4, 11, 46, 47, 48] (.ops c44r10)
def c44l2 : ICode := (.seq c44k10 c44s9)
def c44s11 : ICode := (.block 2 (.loop c44l2))
def c44r12 : List Seg := [
  .one ⟨some 39, .mv (.t 7), none⟩,
  .one ⟨some 40, .idxA 3 1 (.t 10) (.c (.int .i64 0)), none⟩,
  .one ⟨some 41, .load1 (.t 40), none⟩,
  .one ⟨some 42, .idxA 3 1 (.t 10) (.c (.int .i64 1)), none⟩,
  .one ⟨some 43, .load1 (.t 42), none⟩,
  .one ⟨some 44, .idxA 3 1 (.t 10) (.c (.int .i64 2)), none⟩,
  .one ⟨some 45, .load1 (.t 44), none⟩,
  .one ⟨some 46, .mkslice 4 [.nilslice, .nilslice, .nilslice, .nilslice] [(0, 1, (.t 39)), (1, 1, (.t 41)), (2, 1, (.t 43)), (3, 1, (.t 45))], none⟩,
  .one ⟨some 47, .len 0 (.t 46), none⟩,
  .one ⟨some 48, .mv (.c (.int .i64 0)), none⟩]
def c44k12 : ICode := .kill 64 [4, 7, 10, 11] (.ops c44r12)
def c44s13 : ICode := (.seq (.seq c44k12 c44s11) c44s1)
def c44r14 : List Seg := [
  .one ⟨some 11, .box (.c (.agg [.int .i64 0, .int .i64 0, .int .i64 0, .int .i64 0, .int .i64 0, .int .i64 0, .int .i64 0, .int .i64 0])), none⟩]
def c44k14 : ICode := .kill 64 [4, 7, 10] (.ops c44r14)
def c44s15 : ICode := (.seq c44k14 c44s13)
def c44r16 : List Seg := [
  .one ⟨some 36, .loadN 3 (.t 2), none⟩,
  .one ⟨some 37, .mv (.t 1), none⟩,
  .one ⟨some 38, .call [] (.c (.func 68 [])) [(.t 36), (.t 37)], none⟩,
  .one ⟨some 10, .box (.c (.agg [.nilslice, .nilslice, .nilslice])), none⟩,
  .one ⟨none, .storeN 3 (.t 10) (.t 38), none⟩]
def c44k16 : ICode := .kill 64 [1, 2, 4, 7] (.ops c44r16)
def c44s17 : ICode := (.seq c44k16 c44s15)
def c44r19 : List Seg := [
  .one ⟨some 35, .bin .add (.t 26) (.c (.int .i64 1)), none⟩,
  .one ⟨some 26, .mv (.t 35), none⟩]
def c44k19 : ICode := .kill 64 [1, 2, 4, 7, 24, 25, 26] (.ops c44r19)
def c44r20 : List Seg := [
  .one ⟨some 30, .mv (.t 7), none⟩,
  .one ⟨some 31, .mv (.t 9), none⟩,
  .one ⟨some 32, .call [] (.c (.func 63 [])) [(.t 31)], none⟩,
  .one ⟨some 33, .mkslice 1 [.int .i64 0, .int .i64 0] [(0, 2, (.t 32))], none⟩,
  .one ⟨some 34, .app 2 16 (.t 30) (.t 33), none⟩,
  .one ⟨some 7, .mv (.t 34), none⟩]
def c44k20 : ICode := .kill 64 [1, 2, 4, 7, 9, 24, 25, 26] (.ops c44r20)
def c44r21 : List Seg := [
  .one ⟨some 28, .idxS 1 (.t 24) (.t 26), none⟩,
  .one ⟨some 29, .load1 (.t 28), none⟩,
  .one ⟨some 9, .mv (.t 29), none⟩]
def c44k21 : ICode := .kill 64 [1, 2, 4, 7, 24, 25, 26] (.ops c44r21)
def c44s22 : ICode := (.seq (.block 1 (.seq c44k21 c44k20)) c44k19)
def c44s23 : ICode := (.seq (.cond (.t 27) .skip (.exit 0)) c44s22)
def c44r24 : List Seg := [
  .one ⟨some 27, .bin .lss (.t 26) (.t 25), none⟩]
def c44k24 : ICode := .kill 64 [1, 2, 4, 7, 24, 25, 26] (.ops c44r24)
def c44l18 : ICode := (.seq c44k24 c44s23)
def c44s25 : ICode := (.block 0 (.loop c44l18))
def c44r26 : List Seg := [
  .one ⟨some 24, .mv (.t 1), none⟩,
  .one ⟨some 25, .len 0 (.t 24), none⟩,
  .one ⟨some 26, .mv (.c (.int .i64 0)), none⟩]
def c44k26 : ICode := .kill 64 [1, 2, 4, 7] (.ops c44r26)
def c44s27 : ICode := (.seq (.seq c44k26 c44s25) c44s17)
def c44r28 : List Seg := [
  .one ⟨some 7, .mv (.c .nilslice), none⟩]
def c44k28 : ICode := .kill 64 [1, 2, 4] (.ops c44r28)
def c44s29 : ICode := (.seq c44k28 c44s27)
def c44r30 : List Seg := [
  .one ⟨some 22, .mkagg [.int .i64 0, .int .i64 0, .int .i64 0, .int .i64 0, .int .i64 0, .int .i64 0, .int .i64 0, .int .i64 0] [], none⟩,
  .one ⟨some 23, .mv (.t 6), none⟩,
  .one ⟨none, .storeN 8 (.t 4) (.t 22), none⟩,
  .one ⟨some 5, .mv (.t 23), none⟩]
def c44k30 : ICode := .kill 64 [4, 6] (.ops c44r30)
def c44s31 : ICode := (.cond (.t 21) (.seq c44k30 .ret) .skip)
def c44r32 : List Seg := [
  .one ⟨some 20, .mv (.t 6), none⟩,
  .one ⟨some 21, .bin .neq (.t 20) (.c (.int .i64 0)), none⟩]
def c44k32 : ICode := .kill 64 [1, 2, 4, 6] (.ops c44r32)
def c44s33 : ICode := (.seq c44k32 c44s31)
def c44r34 : List Seg := [
  .one ⟨some 15, .loadN 3 (.t 2), none⟩,
  .one ⟨some 16, .mv (.t 1), none⟩,
  .one ⟨some 17, .loadN 3 (.t 2), none⟩,
  .one ⟨some 18, .bind 67 [(.t 17)], none⟩,
  .one ⟨some 19, .call [] (.c (.func 66 [])) [(.t 15), (.t 16), (.t 18)], none⟩,
  .one ⟨some 6, .mv (.t 19), none⟩]
def c44k34 : ICode := .kill 64 [1, 2, 4] (.ops c44r34)
def c44s35 : ICode := (.seq (.seq c44k34 c44s33) c44s29)
def c44r36 : List Seg := [
  .one ⟨some 2, .box (.t 0), none⟩,
  .one ⟨some 4, .box (.c (.agg [.int .i64 0, .int .i64 0, .int .i64 0, .int .i64 0, .int .i64 0, .int .i64 0, .int .i64 0, .int .i64 0])), none⟩,
  .one ⟨some 5, .mv (.c (.int .i64 0)), none⟩]
def c44k36 : ICode := .kill 64 [0, 1] (.ops c44r36)
def c44b : ICode := (.seq c44k36 c44s35)
def c44 : IFn := ⟨64, [.cellN 4 8, .t 5], c44b⟩
def h44 : List (Nat × Nat × List Nat) := [(0, (64, [0, 1])), (1, (64, [1, 2, 4])), (2, (64, [1, 2, 4, 6])), (3, (64, [4, 6])), (4, (64, [1, 2, 4])), (5, (64, [1, 2, 4, 7])), (6, (64, [1, 2, 4, 7, 24, 25, 26])), (7, (64, [1, 2, 4, 7, 24, 25, 26])), (8, (64, [1, 2, 4, 7, 9, 24, 25, 26])), (9, (64, [1, 2, 4, 7, 24, 25, 26])), (10, (64, [1, 2, 4, 7])), (11, (64, [4, 7, 10])), (12, (64, [4, 7, 10, 11])), (13, (64, [4, 11, 46, 47, 48])), (14, (64, [4, 11, 46, 47, 48])), (15, (64, [4, 11, 12, 13, 46, 47, 48])), (16, (64, [4, 11, 12, 14, 46, 47, 48])), (17, (64, [4, 11, 46, 47, 48])), (18, (64, [4, 11]))]
def c45r0 : List Seg := [
  .one ⟨some 2, .mv (.c (.bool true)), none⟩]
def c45k0 : ICode := .kill 40 [] (.ops c45r0)
def c45s1 : ICode := (.seq c45k0 .ret)
def c45r3 : List Seg := [
  .one ⟨some 8, .mv (.t 3), none⟩,
  .one ⟨some 9, .bin .add (.t 8) (.c (.int .i64 1)), none⟩,
  .one ⟨some 3, .mv (.t 9), none⟩]
def c45k3 : ICode := .kill 40 [0, 3] (.ops c45r3)
def c45r4 : List Seg := [
  .one ⟨some 2, .mv (.c (.bool false)), none⟩]
def c45k4 : ICode := .kill 40 [] (.ops c45r4)
def c45s5 : ICode := (.cond (.t 39) (.seq c45k4 .ret) .skip)
def c45r6 : List Seg := [
  .one ⟨some 10, .mv (.t 0), none⟩,
  .one ⟨some 11, .mv (.t 3), none⟩,
  .one ⟨some 12, .idxS 2 (.t 10) (.t 11), none⟩,
  .one ⟨some 13, .idxA 2 1 (.t 12) (.c (.int .i64 0)), none⟩,
  .one ⟨some 14, .load1 (.t 13), none⟩,
  .one ⟨some 15, .bin .lss (.t 14) (.c (.int .i64 0)), none⟩,
  .one ⟨some 16, .mv (.t 15), none⟩,
  .one ⟨some 17, .mv (.t 0), some (16, false)⟩,
  .one ⟨some 18, .mv (.t 3), some (16, false)⟩,
  .one ⟨some 19, .idxS 2 (.t 17) (.t 18), some (16, false)⟩,
  .one ⟨some 20, .idxA 2 1 (.t 19) (.c (.int .i64 0)), some (16, false)⟩,
  .one ⟨some 21, .load1 (.t 20), some (16, false)⟩,
  .one ⟨some 22, .bin .gtr (.t 21) (.c (.int .i64 1000000000000)), some (16, false)⟩,
  .one ⟨some 23, .pick (.t 16) (.c (.bool true)) (.t 22), none⟩,
  .one ⟨some 24, .mv (.t 23), none⟩,
  .one ⟨some 25, .mv (.t 0), some (24, false)⟩,
  .one ⟨some 26, .mv (.t 3), some (24, false)⟩,
  .one ⟨some 27, .idxS 2 (.t 25) (.t 26), some (24, false)⟩,
  .one ⟨some 28, .idxA 2 1 (.t 27) (.c (.int .i64 1)), some (24, false)⟩,
  .one ⟨some 29, .load1 (.t 28), some (24, false)⟩,
  .one ⟨some 30, .bin .lss (.t 29) (.c (.int .i64 1)), some (24, false)⟩,
  .one ⟨some 31, .pick (.t 24) (.c (.bool true)) (.t 30), none⟩,
  .one ⟨some 32, .mv (.t 31), none⟩,
  .one ⟨some 33, .mv (.t 0), some (32, false)⟩,
  .one ⟨some 34, .mv (.t 3), some (32, false)⟩,
  .one ⟨some 35, .idxS 2 (.t 33) (.t 34), some (32, false)⟩,
  .one ⟨some 36, .idxA 2 1 (.t 35) (.c (.int .i64 1)), some (32, false)⟩,
  .one ⟨some 37, .load1 (.t 36), some (32, false)⟩,
  .one ⟨some 38, .bin .gtr (.t 37) (.c (.int .i64 100000000)), some (32, false)⟩,
  .one ⟨some 39, .pick (.t 32) (.c (.bool true)) (.t 38), none⟩]
def c45k6 : ICode := .kill 40 [0, 3] (.ops c45r6)
def c45s7 : ICode := (.seq (.block 1 (.seq c45k6 c45s5)) c45k3)
def c45s8 : ICode := (.cond (.t 7) .skip (.exit 0))
def c45r9 : List Seg := [
  .one ⟨some 4, .mv (.t 3), none⟩,
  .one ⟨some 5, .mv (.t 0), none⟩,
  .one ⟨some 6, .len 0 (.t 5), none⟩,
  .one ⟨some 7, .bin .lss (.t 4) (.t 6), none⟩]
def c45k9 : ICode := .kill 40 [0, 3] (.ops c45r9)
def c45l2 : ICode := (.seq (.seq c45k9 c45s8) c45s7)
def c45s10 : ICode := (.block 0 (.loop c45l2))
def c45r11 : List Seg := [
  .one ⟨some 3, .mv (.c (.int .i64 0)), none⟩]
def c45k11 : ICode := .kill 40 [0] (.ops c45r11)
def c45s12 : ICode := (.seq (.seq c45k11 c45s10) c45s1)
def c45r13 : List Seg := [
  .one ⟨some 2, .mv (.c (.bool false)), none⟩]
def c45k13 : ICode := .kill 40 [0] (.ops c45r13)
def c45b : ICode := (.seq c45k13 c45s12)
def c45 : IFn := ⟨40, [.t 2], c45b⟩
def h45 : List (Nat × Nat × List Nat) := [(0, (40, [0])), (1, (40, [0])), (2, (40, [0, 3])), (4, (40, [0, 3])), (5, (40, [])), (3, (40, [0, 3])), (6, (40, []))]
def c46r0 : List Seg := [
  .one ⟨some 23, .loadN 2 (.t 3), none⟩,
  .one ⟨none, .storeN 2 (.t 2) (.t 23), none⟩]
def c46k0 : ICode := .kill 24 [2, 3] (.ops c46r0)
def c46s1 : ICode := (.seq c46k0 .ret)
def c46r3 : List Seg := [
  .one ⟨some 10, .mv (.t 4), none⟩,
  .one ⟨some 11, .bin .add (.t 10) (.c (.int .i64 1)), none⟩,
  .one ⟨some 4, .mv (.t 11), none⟩]
def c46k3 : ICode := .kill 24 [0, 2, 3, 4] (.ops c46r3)
def c46r4 : List Seg := [
  .grp [(⟨some 12, .loadN 2 (.t 3), none⟩, 0), (⟨some 13, .mv (.t 0), none⟩, 0), (⟨some 14, .mv (.t 4), none⟩, 0), (⟨some 15, .idxS 2 (.t 13) (.t 14), none⟩, 6), (⟨some 16, .loadN 2 (.t 15), none⟩, 14), (⟨some 17, .mv (.t 0), none⟩, 0), (⟨some 18, .mv (.t 4), none⟩, 0), (⟨some 19, .idxS 2 (.t 17) (.t 18), none⟩, 96), (⟨some 20, .loadN 2 (.t 19), none⟩, 224), (⟨some 21, .call [] (.c (.func 35 [])) [(.t 16), (.t 20)], none⟩, 510)],
  .one ⟨some 22, .call [] (.c (.func 32 [])) [(.t 12), (.t 21)], none⟩,
  .one ⟨none, .storeN 2 (.t 3) (.t 22), none⟩]
def c46k4 : ICode := .kill 24 [0, 2, 3, 4] (.ops c46r4)
def c46s5 : ICode := (.seq (.block 1 c46k4) c46k3)
def c46s6 : ICode := (.cond (.t 9) .skip (.exit 0))
def c46r7 : List Seg := [
  .one ⟨some 6, .mv (.t 4), none⟩,
  .one ⟨some 7, .mv (.t 0), none⟩,
  .one ⟨some 8, .len 0 (.t 7), none⟩,
  .one ⟨some 9, .bin .lss (.t 6) (.t 8), none⟩]
def c46k7 : ICode := .kill 24 [0, 2, 3, 4] (.ops c46r7)
def c46l2 : ICode := (.seq (.seq c46k7 c46s6) c46s5)
def c46s8 : ICode := (.block 0 (.loop c46l2))
def c46r9 : List Seg := [
  .one ⟨some 4, .mv (.c (.int .i64 0)), none⟩]
def c46k9 : ICode := .kill 24 [0, 2, 3] (.ops c46r9)
def c46s10 : ICode := (.seq (.seq c46k9 c46s8) c46s1)
def c46r11 : List Seg := [
  .one ⟨some 5, .mkagg [.int .i64 0, .int .i64 0] [(0, 1, (.c (.int .i64 0))), (1, 1, (.c (.int .i64 1)))], none⟩,
  .one ⟨some 3, .box (.c (.agg [.int .i64 0, .int .i64 0])), none⟩,
  .one ⟨none, .storeN 2 (.t 3) (.t 5), none⟩]
def c46k11 : ICode := .kill 24 [0, 2] (.ops c46r11)
def c46s12 : ICode := (.seq c46k11 c46s10)
def c46r13 : List Seg := [
  .one ⟨some 2, .box (.c (.agg [.int .i64 0, .int .i64 0])), none⟩]
def c46k13 : ICode := .kill 24 [0] (.ops c46r13)
def c46b : ICode := (.seq c46k13 c46s12)
def c46 : IFn := ⟨24, [.cellN 2 2], c46b⟩
def h46 : List (Nat × Nat × List Nat) := [(0, (24, [0])), (1, (24, [0, 2])), (2, (24, [0, 2, 3])), (3, (24, [0, 2, 3, 4])), (5, (24, [0, 2, 3, 4])), (4, (24, [0, 2, 3, 4])), (6, (24, [2, 3]))]
def c47r1 : List Seg := [
  .one ⟨some 103, .mv (.t 10), none⟩,
  .one ⟨some 104, .mv (.t 10), none⟩,
  .one ⟨some 105, .eqv true .slice (.t 104) (.c .nilslice), none⟩,
  .one ⟨some 4, .mv (.t 103), none⟩,
  .one ⟨some 5, .mv (.t 105), none⟩,
  .one ⟨some 6, .mv (.c (.int .i64 0)), none⟩]
def c47k1 : ICode := .kill 106 [10] (.ops c47r1)
def c47s2 : ICode := (.seq c47k1 .ret)
def c47r4 : List Seg := [
  .one ⟨some 102, .bin .add (.t 30) (.c (.int .i64 1)), none⟩,
  .one ⟨some 30, .mv (.t 102), none⟩]
def c47k4 : ICode := .kill 106 [1, 8, 9, 10, 28, 29, 30] (.ops c47r4)
def c47r5 : List Seg := [
  .one ⟨some 98, .mv (.t 13), none⟩,
  .one ⟨some 99, .mv (.t 14), none⟩,
  .one ⟨some 100, .sliceS 1 (.t 99) (some (.c (.int .i64 1))) none none, none⟩,
  .one ⟨some 101, .app 1 8 (.t 98) (.t 100), none⟩,
  .one ⟨some 10, .mv (.t 101), none⟩]
def c47k5 : ICode := .kill 106 [13, 14] (.ops c47r5)
def c47s6 : ICode := (.seq c47k5 (.exit 0))
def c47r7 : List Seg := [
  .one ⟨some 96, .mv (.t 14), none⟩,
  .one ⟨some 97, .call [] (.c (.func 82 [])) [(.t 96)], none⟩]
def c47k7 : ICode := .kill 106 [13, 14] (.ops c47r7)
def c47s8 : ICode := (.seq c47k7 c47s6)
def c47r10 : List Seg := [
  .grp [(⟨some 86, .mv (.t 13), none⟩, 0), (⟨some 87, .mv (.t 13), none⟩, 0), (⟨some 88, .len 0 (.t 87), none⟩, 2), (⟨some 89, .bin .sub (.t 88) (.c (.int .i64 1)), none⟩, 6), (⟨some 90, .sliceS 1 (.t 86) none (some (.t 89)) none, none⟩, 15), (⟨some 91, .mv (.t 14), none⟩, 0), (⟨some 92, .mv (.t 14), none⟩, 0), (⟨some 93, .len 0 (.t 92), none⟩, 64), (⟨some 94, .bin .sub (.t 93) (.c (.int .i64 1)), none⟩, 192), (⟨some 95, .sliceS 1 (.t 91) none (some (.t 94)) none, none⟩, 480), (⟨some 13, .mv (.t 90), none⟩, 31)],
  .one ⟨some 14, .mv (.t 95), none⟩]
def c47k10 : ICode := .kill 106 [13, 14] (.ops c47r10)
def c47s11 : ICode := (.block 3 c47k10)
def c47s12 : ICode := (.cond (.t 85) .skip (.exit 2))
def c47r13 : List Seg := [
  .one ⟨some 63, .mv (.t 13), none⟩,
  .one ⟨some 64, .len 0 (.t 63), none⟩,
  .one ⟨some 65, .bin .gtr (.t 64) (.c (.int .i64 1)), none⟩,
  .one ⟨some 66, .mv (.t 65), none⟩,
  .one ⟨some 67, .mv (.t 14), some (66, true)⟩,
  .one ⟨some 68, .len 0 (.t 67), some (66, true)⟩,
  .one ⟨some 69, .bin .gtr (.t 68) (.c (.int .i64 1)), some (66, true)⟩,
  .one ⟨some 70, .pick (.t 66) (.t 69) (.c (.bool false)), none⟩,
  .one ⟨some 71, .mv (.t 70), none⟩,
  .grp [(⟨some 72, .mv (.t 13), some (71, true)⟩, 0), (⟨some 73, .mv (.t 13), some (71, true)⟩, 0), (⟨some 74, .len 0 (.t 73), some (71, true)⟩, 2), (⟨some 75, .bin .sub (.t 74) (.c (.int .i64 2)), some (71, true)⟩, 6), (⟨some 76, .idxS 1 (.t 72) (.t 75), some (71, true)⟩, 15), (⟨some 77, .load1 (.t 76), some (71, true)⟩, 31), (⟨some 78, .mv (.t 14), some (71, true)⟩, 0), (⟨some 79, .mv (.t 14), some (71, true)⟩, 0), (⟨some 80, .len 0 (.t 79), some (71, true)⟩, 128), (⟨some 81, .bin .sub (.t 80) (.c (.int .i64 2)), some (71, true)⟩, 384), (⟨some 82, .idxS 1 (.t 78) (.t 81), some (71, true)⟩, 960), (⟨some 83, .load1 (.t 82), some (71, true)⟩, 1984)],
  .one ⟨some 84, .bin .eql (.t 77) (.t 83), some (71, true)⟩,
  .one ⟨some 85, .pick (.t 71) (.t 84) (.c (.bool false)), none⟩]
def c47k13 : ICode := .kill 106 [13, 14] (.ops c47r13)
def c47l9 : ICode := (.seq (.seq c47k13 c47s12) c47s11)
def c47s14 : ICode := (.seq (.block 2 (.loop c47l9)) c47s8)
def c47r15 : List Seg := [
  .grp [(⟨some 55, .load1 (.t 9), none⟩, 0), (⟨some 56, .idxA 2 1 (.t 12) (.c (.int .i64 0)), none⟩, 0), (⟨some 57, .load1 (.t 56), none⟩, 2), (⟨some 58, .call [] (.t 55) [(.t 57)], none⟩, 7), (⟨some 59, .load1 (.t 9), none⟩, 0), (⟨some 60, .idxA 2 1 (.t 12) (.c (.int .i64 1)), none⟩, 0), (⟨some 61, .load1 (.t 60), none⟩, 32)],
  .one ⟨some 62, .call [] (.t 59) [(.t 61)], none⟩,
  .one ⟨some 13, .mv (.t 58), none⟩,
  .one ⟨some 14, .mv (.t 62), none⟩]
def c47k15 : ICode := .kill 106 [9, 12] (.ops c47r15)
def c47s16 : ICode := (.seq c47k15 c47s14)
def c47s17 : ICode := (.cond (.t 54) (.exit 1) .skip)
def c47r18 : List Seg := [
  .grp [(⟨some 35, .load1 (.t 8), none⟩, 0), (⟨some 36, .idxA 2 1 (.t 12) (.c (.int .i64 1)), none⟩, 0), (⟨some 37, .load1 (.t 36), none⟩, 2), (⟨some 38, .nilck (.t 35), none⟩, 1), (⟨some 39, .fieldA 6 (.t 38), none⟩, 9), (⟨some 40, .idxA 6 1 (.t 39) (.t 37), none⟩, 31), (⟨some 41, .load1 (.t 40), none⟩, 63), (⟨some 42, .load1 (.t 8), none⟩, 0), (⟨some 43, .idxA 2 1 (.t 12) (.c (.int .i64 0)), none⟩, 0), (⟨some 44, .load1 (.t 43), none⟩, 256), (⟨some 45, .nilck (.t 42), none⟩, 128), (⟨some 46, .fieldA 6 (.t 45), none⟩, 1152), (⟨some 47, .idxA 6 1 (.t 46) (.t 44), none⟩, 3968), (⟨some 48, .load1 (.t 47), none⟩, 8064), (⟨some 49, .bin .sub (.t 41) (.t 48), none⟩, 16383), (⟨some 50, .mv (.t 1), none⟩, 0), (⟨some 51, .mv (.t 11), none⟩, 0), (⟨some 52, .idxS 1 (.t 50) (.t 51), none⟩, 98304), (⟨some 53, .load1 (.t 52), none⟩, 229376)],
  .one ⟨some 54, .bin .eql (.t 49) (.t 53), none⟩]
def c47k18 : ICode := .kill 106 [1, 8, 9, 10, 11, 12, 28, 29, 30] (.ops c47r18)
def c47s19 : ICode := (.seq (.seq c47k18 c47s17) c47s16)
def c47r20 : List Seg := [
  .one ⟨some 32, .mv (.t 30), none⟩,
  .one ⟨some 33, .idxS 2 (.t 28) (.t 30), none⟩,
  .one ⟨some 34, .loadN 2 (.t 33), none⟩,
  .one ⟨some 12, .box (.c (.agg [.int .i64 0, .int .i64 0])), none⟩,
  .one ⟨some 11, .mv (.t 32), none⟩,
  .one ⟨none, .storeN 2 (.t 12) (.t 34), none⟩]
def c47k20 : ICode := .kill 106 [1, 8, 9, 10, 28, 29, 30] (.ops c47r20)
def c47s21 : ICode := (.seq (.block 1 (.seq c47k20 c47s19)) c47k4)
def c47s22 : ICode := (.seq (.cond (.t 31) .skip (.exit 0)) c47s21)
def c47r23 : List Seg := [
  .one ⟨some 31, .bin .lss (.t 30) (.t 29), none⟩]
def c47k23 : ICode := .kill 106 [1, 8, 9, 10, 28, 29, 30] (.ops c47r23)
def c47l3 : ICode := (.seq c47k23 c47s22)
def c47s24 : ICode := (.block 0 (.loop c47l3))
def c47r25 : List Seg := [
  .one ⟨some 27, .fieldA 1 (.t 2), none⟩,
  .one ⟨some 28, .load1 (.t 27), none⟩,
  .one ⟨some 29, .len 0 (.t 28), none⟩,
  .one ⟨some 30, .mv (.c (.int .i64 0)), none⟩]
def c47k25 : ICode := .kill 106 [1, 2, 8, 9, 10] (.ops c47r25)
def c47s26 : ICode := (.seq (.seq c47k25 c47s24) c47s2)
def c47s27 : ICode := (.seq .skip c47s26)
def c47r28 : List Seg := [
  .one ⟨some 10, .mv (.c .nilslice), none⟩]
def c47k28 : ICode := .kill 106 [1, 2, 8, 9] (.ops c47r28)
def c47s29 : ICode := (.seq c47k28 c47s27)
def c47r30 : List Seg := [
  .one ⟨some 26, .mkfn 81 [(.t 8), (.t 9)], none⟩,
  .one ⟨none, .store1 (.t 9) (.t 26), none⟩]
def c47k30 : ICode := .kill 106 [1, 2, 8, 9] (.ops c47r30)
def c47s31 : ICode := (.seq c47k30 c47s29)
def c47r32 : List Seg := [
  .one ⟨some 9, .box (.c .nilfunc), none⟩]
def c47k32 : ICode := .kill 106 [1, 2, 8] (.ops c47r32)
def c47s33 : ICode := (.seq c47k32 c47s31)
def c47r34 : List Seg := [
  .one ⟨some 23, .loadN 3 (.t 2), none⟩,
  .one ⟨some 24, .mv (.t 1), none⟩,
  .one ⟨some 25, .call [] (.c (.func 78 [])) [(.t 23), (.t 24)], none⟩,
  .one ⟨some 8, .box (.c .nilptr), none⟩,
  .one ⟨none, .store1 (.t 8) (.t 25), none⟩]
def c47k34 : ICode := .kill 106 [1, 2] (.ops c47r34)
def c47s35 : ICode := (.seq c47k34 c47s33)
def c47r36 : List Seg := [
  .one ⟨some 22, .mv (.t 7), none⟩,
  .one ⟨some 4, .mv (.c .nilslice), none⟩,
  .one ⟨some 5, .mv (.c (.bool false)), none⟩,
  .one ⟨some 6, .mv (.t 22), none⟩]
def c47k36 : ICode := .kill 106 [7] (.ops c47r36)
def c47s37 : ICode := (.cond (.t 21) (.seq c47k36 .ret) .skip)
def c47r38 : List Seg := [
  .one ⟨some 20, .mv (.t 7), none⟩,
  .one ⟨some 21, .bin .neq (.t 20) (.c (.int .i64 0)), none⟩]
def c47k38 : ICode := .kill 106 [1, 2, 7] (.ops c47r38)
def c47s39 : ICode := (.seq c47k38 c47s37)
def c47r40 : List Seg := [
  .one ⟨some 15, .loadN 3 (.t 2), none⟩,
  .one ⟨some 16, .mv (.t 1), none⟩,
  .one ⟨some 17, .loadN 3 (.t 2), none⟩,
  .one ⟨some 18, .bind 67 [(.t 17)], none⟩,
  .one ⟨some 19, .call [] (.c (.func 66 [])) [(.t 15), (.t 16), (.t 18)], none⟩,
  .one ⟨some 7, .mv (.t 19), none⟩]
def c47k40 : ICode := .kill 106 [1, 2] (.ops c47r40)
def c47p0 : ICode := (.seq (.seq c47k40 c47s39) c47s35)
def c47s41 : ICode := (.scope c47p0)
def c47r42 : List Seg := [
  .one ⟨some 2, .box (.t 0), none⟩,
  .one ⟨some 4, .mv (.c .nilslice), none⟩,
  .one ⟨some 5, .mv (.c (.bool false)), none⟩,
  .one ⟨some 6, .mv (.c (.int .i64 0)), none⟩]
def c47k42 : ICode := .kill 106 [0, 1] (.ops c47r42)
def c47b : ICode := (.seq c47k42 c47s41)
def c47 : IFn := ⟨106, [.t 4, .t 5, .t 6], c47b⟩
def h47 : List (Nat × Nat × List Nat) := [(0, (106, [0, 1])), (1, (106, [1, 2])), (2, (106, [1, 2, 7])), (3, (106, [7])), (4, (106, [1, 2])), (5, (106, [1, 2, 8])), (6, (106, [1, 2, 8, 9])), (7, (106, [1, 2, 8, 9])), (8, (106, [1, 2, 8, 9, 10])), (9, (106, [1, 8, 9, 10, 28, 29, 30])), (10, (106, [1, 8, 9, 10, 28, 29, 30])), (11, (106, [1, 8, 9, 10, 11, 12, 28, 29, 30])), (12, (106, [9, 12])), (13, (106, [13, 14])), (14, (106, [13, 14])), (15, (106, [13, 14])), (16, (106, [13, 14])), (17, (106, [1, 8, 9, 10, 28, 29, 30])), (18, (106, [10]))]
def c48r0 : List Seg := [
  .one ⟨some 134, .mv (.t 6), none⟩,
  .one ⟨some 4, .mv (.t 134), none⟩,
  .one ⟨some 5, .mv (.c (.bool true)), none⟩]
def c48k0 : ICode := .kill 135 [6] (.ops c48r0)
def c48s1 : ICode := (.seq c48k0 .ret)
def c48r3 : List Seg := [
  .one ⟨some 123, .mv (.t 15), none⟩,
  .one ⟨some 124, .bin .add (.t 123) (.c (.int .i64 1)), none⟩,
  .one ⟨some 15, .mv (.t 124), none⟩]
def c48k3 : ICode := .kill 135 [1, 6, 14, 15] (.ops c48r3)
def c48r4 : List Seg := [
  .one ⟨some 4, .mv (.c .nilslice), none⟩,
  .one ⟨some 5, .mv (.c (.bool false)), none⟩]
def c48k4 : ICode := .kill 135 [] (.ops c48r4)
def c48s5 : ICode := (.cond (.t 133) (.seq c48k4 .ret) .skip)
def c48r6 : List Seg := [
  .grp [(⟨some 125, .mv (.t 14), none⟩, 0), (⟨some 126, .mv (.t 15), none⟩, 0), (⟨some 127, .idxS 1 (.t 125) (.t 126), none⟩, 3), (⟨some 128, .load1 (.t 127), none⟩, 7), (⟨some 129, .mv (.t 1), none⟩, 0), (⟨some 130, .mv (.t 15), none⟩, 0), (⟨some 131, .idxS 1 (.t 129) (.t 130), none⟩, 48), (⟨some 132, .load1 (.t 131), none⟩, 112)],
  .one ⟨some 133, .bin .neq (.t 128) (.t 132), none⟩]
def c48k6 : ICode := .kill 135 [1, 6, 14, 15] (.ops c48r6)
def c48s7 : ICode := (.seq (.block 7 (.seq c48k6 c48s5)) c48k3)
def c48s8 : ICode := (.cond (.t 122) .skip (.exit 6))
def c48r9 : List Seg := [
  .one ⟨some 119, .mv (.t 15), none⟩,
  .one ⟨some 120, .mv (.t 14), none⟩,
  .one ⟨some 121, .len 0 (.t 120), none⟩,
  .one ⟨some 122, .bin .lss (.t 119) (.t 121), none⟩]
def c48k9 : ICode := .kill 135 [1, 6, 14, 15] (.ops c48r9)
def c48l2 : ICode := (.seq (.seq c48k9 c48s8) c48s7)
def c48s10 : ICode := (.block 6 (.loop c48l2))
def c48r11 : List Seg := [
  .one ⟨some 15, .mv (.c (.int .i64 0)), none⟩]
def c48k11 : ICode := .kill 135 [1, 6, 14] (.ops c48r11)
def c48s12 : ICode := (.seq (.seq c48k11 c48s10) c48s1)
def c48r13 : List Seg := [
  .one ⟨some 116, .loadN 3 (.t 2), none⟩,
  .one ⟨some 117, .mv (.t 6), none⟩,
  .one ⟨some 118, .call [] (.c (.func 49 [])) [(.t 116), (.t 117)], none⟩,
  .one ⟨some 14, .mv (.t 118), none⟩]
def c48k13 : ICode := .kill 135 [1, 2, 6] (.ops c48r13)
def c48s14 : ICode := (.seq c48k13 c48s12)
def c48r16 : List Seg := [
  .one ⟨some 43, .mv (.t 10), none⟩,
  .one ⟨some 44, .bin .add (.t 43) (.c (.int .i64 1)), none⟩,
  .one ⟨some 10, .mv (.t 44), none⟩]
def c48k16 : ICode := .kill 135 [1, 2, 6, 7, 10] (.ops c48r16)
def c48r18 : List Seg := [
  .one ⟨some 50, .mv (.t 11), none⟩,
  .one ⟨some 51, .bin .add (.t 50) (.c (.int .i64 1)), none⟩,
  .one ⟨some 11, .mv (.t 51), none⟩]
def c48k18 : ICode := .kill 135 [1, 2, 6, 7, 10, 11] (.ops c48r18)
def c48r19 : List Seg := [
  .one ⟨some 113, .mv (.t 7), none⟩,
  .one ⟨some 114, .mv (.t 12), none⟩,
  .one ⟨some 115, .idxS 1 (.t 113) (.t 114), none⟩,
  .one ⟨none, .store1 (.t 115) (.c (.bool true)), none⟩]
def c48k19 : ICode := .kill 135 [1, 2, 6, 7, 10, 11, 12] (.ops c48r19)
def c48r20 : List Seg := [
  .grp [(⟨some 101, .mv (.t 6), none⟩, 0), (⟨some 102, .mv (.t 12), none⟩, 0), (⟨some 103, .mv (.t 6), none⟩, 0), (⟨some 104, .mv (.t 13), none⟩, 0), (⟨some 105, .idxS 1 (.t 103) (.t 104), none⟩, 12), (⟨some 106, .load1 (.t 105), none⟩, 28), (⟨some 107, .mv (.t 1), none⟩, 0), (⟨some 108, .mv (.t 11), none⟩, 0), (⟨some 109, .idxS 1 (.t 107) (.t 108), none⟩, 192), (⟨some 110, .load1 (.t 109), none⟩, 448), (⟨some 111, .bin .sub (.t 106) (.t 110), none⟩, 1020)],
  .one ⟨some 112, .idxS 1 (.t 101) (.t 102), none⟩,
  .one ⟨none, .store1 (.t 112) (.t 111), none⟩]
def c48k20 : ICode := .kill 135 [1, 2, 6, 7, 10, 11, 12, 13] (.ops c48r20)
def c48s21 : ICode := (.cond (.t 100) (.seq c48k20 c48k19) .skip)
def c48r22 : List Seg := [
  .one ⟨some 90, .mv (.t 7), none⟩,
  .one ⟨some 91, .mv (.t 13), none⟩,
  .one ⟨some 92, .idxS 1 (.t 90) (.t 91), none⟩,
  .one ⟨some 93, .load1 (.t 92), none⟩,
  .one ⟨some 94, .mv (.t 93), none⟩,
  .one ⟨some 95, .mv (.t 7), some (94, true)⟩,
  .one ⟨some 96, .mv (.t 12), some (94, true)⟩,
  .one ⟨some 97, .idxS 1 (.t 95) (.t 96), some (94, true)⟩,
  .one ⟨some 98, .load1 (.t 97), some (94, true)⟩,
  .one ⟨some 99, .un .not (.t 98), some (94, true)⟩,
  .one ⟨some 100, .pick (.t 94) (.t 99) (.c (.bool false)), none⟩]
def c48k22 : ICode := .kill 135 [1, 2, 6, 7, 10, 11, 12, 13] (.ops c48r22)
def c48s23 : ICode := (.seq c48k22 c48s21)
def c48r24 : List Seg := [
  .one ⟨some 87, .mv (.t 7), none⟩,
  .one ⟨some 88, .mv (.t 13), none⟩,
  .one ⟨some 89, .idxS 1 (.t 87) (.t 88), none⟩,
  .one ⟨none, .store1 (.t 89) (.c (.bool true)), none⟩]
def c48k24 : ICode := .kill 135 [1, 2, 6, 7, 10, 11, 12, 13] (.ops c48r24)
def c48r25 : List Seg := [
  .grp [(⟨some 75, .mv (.t 6), none⟩, 0), (⟨some 76, .mv (.t 13), none⟩, 0), (⟨some 77, .mv (.t 6), none⟩, 0), (⟨some 78, .mv (.t 12), none⟩, 0), (⟨some 79, .idxS 1 (.t 77) (.t 78), none⟩, 12), (⟨some 80, .load1 (.t 79), none⟩, 28), (⟨some 81, .mv (.t 1), none⟩, 0), (⟨some 82, .mv (.t 11), none⟩, 0), (⟨some 83, .idxS 1 (.t 81) (.t 82), none⟩, 192), (⟨some 84, .load1 (.t 83), none⟩, 448), (⟨some 85, .bin .add (.t 80) (.t 84), none⟩, 1020)],
  .one ⟨some 86, .idxS 1 (.t 75) (.t 76), none⟩,
  .one ⟨none, .store1 (.t 86) (.t 85), none⟩]
def c48k25 : ICode := .kill 135 [1, 2, 6, 7, 10, 11, 12, 13] (.ops c48r25)
def c48s26 : ICode := (.cond (.t 74) (.seq c48k25 c48k24) .skip)
def c48r27 : List Seg := [
  .one ⟨some 64, .mv (.t 7), none⟩,
  .one ⟨some 65, .mv (.t 12), none⟩,
  .one ⟨some 66, .idxS 1 (.t 64) (.t 65), none⟩,
  .one ⟨some 67, .load1 (.t 66), none⟩,
  .one ⟨some 68, .mv (.t 67), none⟩,
  .one ⟨some 69, .mv (.t 7), some (68, true)⟩,
  .one ⟨some 70, .mv (.t 13), some (68, true)⟩,
  .one ⟨some 71, .idxS 1 (.t 69) (.t 70), some (68, true)⟩,
  .one ⟨some 72, .load1 (.t 71), some (68, true)⟩,
  .one ⟨some 73, .un .not (.t 72), some (68, true)⟩,
  .one ⟨some 74, .pick (.t 68) (.t 73) (.c (.bool false)), none⟩]
def c48k27 : ICode := .kill 135 [1, 2, 6, 7, 10, 11, 12, 13] (.ops c48r27)
def c48s28 : ICode := (.seq (.seq c48k27 c48s26) c48s23)
def c48r29 : List Seg := [
  .grp [(⟨some 52, .fieldA 1 (.t 2), none⟩, 0), (⟨some 53, .load1 (.t 52), none⟩, 1), (⟨some 54, .mv (.t 11), none⟩, 0), (⟨some 55, .idxS 2 (.t 53) (.t 54), none⟩, 7), (⟨some 56, .idxA 2 1 (.t 55) (.c (.int .i64 0)), none⟩, 15), (⟨some 57, .load1 (.t 56), none⟩, 31), (⟨some 58, .fieldA 1 (.t 2), none⟩, 0), (⟨some 59, .load1 (.t 58), none⟩, 64), (⟨some 60, .mv (.t 11), none⟩, 0), (⟨some 61, .idxS 2 (.t 59) (.t 60), none⟩, 448), (⟨some 62, .idxA 2 1 (.t 61) (.c (.int .i64 1)), none⟩, 960), (⟨some 63, .load1 (.t 62), none⟩, 1984), (⟨some 12, .mv (.t 57), none⟩, 63)],
  .one ⟨some 13, .mv (.t 63), none⟩]
def c48k29 : ICode := .kill 135 [1, 2, 6, 7, 10, 11] (.ops c48r29)
def c48s30 : ICode := (.seq (.block 5 (.seq c48k29 c48s28)) c48k18)
def c48s31 : ICode := (.cond (.t 49) .skip (.exit 4))
def c48r32 : List Seg := [
  .one ⟨some 45, .mv (.t 11), none⟩,
  .one ⟨some 46, .fieldA 1 (.t 2), none⟩,
  .one ⟨some 47, .load1 (.t 46), none⟩,
  .one ⟨some 48, .len 0 (.t 47), none⟩,
  .one ⟨some 49, .bin .lss (.t 45) (.t 48), none⟩]
def c48k32 : ICode := .kill 135 [1, 2, 6, 7, 10, 11] (.ops c48r32)
def c48l17 : ICode := (.seq (.seq c48k32 c48s31) c48s30)
def c48s33 : ICode := (.block 4 (.loop c48l17))
def c48r34 : List Seg := [
  .one ⟨some 11, .mv (.c (.int .i64 0)), none⟩]
def c48k34 : ICode := .kill 135 [1, 2, 6, 7, 10] (.ops c48r34)
def c48s35 : ICode := (.seq (.block 3 (.seq c48k34 c48s33)) c48k16)
def c48s36 : ICode := (.cond (.t 42) .skip (.exit 2))
def c48r37 : List Seg := [
  .one ⟨some 39, .mv (.t 10), none⟩,
  .one ⟨some 40, .fieldA 0 (.t 2), none⟩,
  .one ⟨some 41, .load1 (.t 40), none⟩,
  .one ⟨some 42, .bin .lss (.t 39) (.t 41), none⟩]
def c48k37 : ICode := .kill 135 [1, 2, 6, 7, 10] (.ops c48r37)
def c48l15 : ICode := (.seq (.seq c48k37 c48s36) c48s35)
def c48s38 : ICode := (.block 2 (.loop c48l15))
def c48r39 : List Seg := [
  .one ⟨some 10, .mv (.c (.int .i64 0)), none⟩]
def c48k39 : ICode := .kill 135 [1, 2, 6, 7] (.ops c48r39)
def c48s40 : ICode := (.seq (.seq c48k39 c48s38) c48s14)
def c48r42 : List Seg := [
  .one ⟨some 28, .mv (.t 9), none⟩,
  .one ⟨some 29, .bin .add (.t 28) (.c (.int .i64 1)), none⟩,
  .one ⟨some 9, .mv (.t 29), none⟩]
def c48k42 : ICode := .kill 135 [1, 2, 6, 7, 8, 9] (.ops c48r42)
def c48r43 : List Seg := [
  .one ⟨some 30, .mv (.t 7), none⟩,
  .one ⟨some 31, .mv (.t 9), none⟩,
  .one ⟨some 32, .mv (.t 8), none⟩,
  .one ⟨some 33, .mv (.t 9), none⟩,
  .one ⟨some 34, .idxS 1 (.t 32) (.t 33), none⟩,
  .one ⟨some 35, .load1 (.t 34), none⟩,
  .one ⟨some 36, .mv (.t 9), none⟩,
  .one ⟨some 37, .bin .eql (.t 35) (.t 36), none⟩,
  .one ⟨some 38, .idxS 1 (.t 30) (.t 31), none⟩,
  .one ⟨none, .store1 (.t 38) (.t 37), none⟩]
def c48k43 : ICode := .kill 135 [1, 2, 6, 7, 8, 9] (.ops c48r43)
def c48s44 : ICode := (.seq (.block 1 c48k43) c48k42)
def c48s45 : ICode := (.cond (.t 27) .skip (.exit 0))
def c48r46 : List Seg := [
  .one ⟨some 24, .mv (.t 9), none⟩,
  .one ⟨some 25, .fieldA 0 (.t 2), none⟩,
  .one ⟨some 26, .load1 (.t 25), none⟩,
  .one ⟨some 27, .bin .lss (.t 24) (.t 26), none⟩]
def c48k46 : ICode := .kill 135 [1, 2, 6, 7, 8, 9] (.ops c48r46)
def c48l41 : ICode := (.seq (.seq c48k46 c48s45) c48s44)
def c48s47 : ICode := (.block 0 (.loop c48l41))
def c48r48 : List Seg := [
  .one ⟨some 9, .mv (.c (.int .i64 0)), none⟩]
def c48k48 : ICode := .kill 135 [1, 2, 6, 7, 8] (.ops c48r48)
def c48s49 : ICode := (.seq (.seq c48k48 c48s47) c48s40)
def c48r50 : List Seg := [
  .one ⟨some 22, .loadN 3 (.t 2), none⟩,
  .one ⟨some 23, .call [] (.c (.func 31 [])) [(.t 22)], none⟩,
  .one ⟨some 8, .mv (.t 23), none⟩]
def c48k50 : ICode := .kill 135 [1, 2, 6, 7] (.ops c48r50)
def c48s51 : ICode := (.seq c48k50 c48s49)
def c48r52 : List Seg := [
  .one ⟨some 19, .fieldA 0 (.t 2), none⟩,
  .one ⟨some 20, .load1 (.t 19), none⟩,
  .one ⟨some 21, .make [.bool false] 1 (.t 20) (.t 20), none⟩,
  .one ⟨some 7, .mv (.t 21), none⟩]
def c48k52 : ICode := .kill 135 [1, 2, 6] (.ops c48r52)
def c48s53 : ICode := (.seq c48k52 c48s51)
def c48r54 : List Seg := [
  .one ⟨some 16, .fieldA 0 (.t 2), none⟩,
  .one ⟨some 17, .load1 (.t 16), none⟩,
  .one ⟨some 18, .make [.int .i64 0] 8 (.t 17) (.t 17), none⟩,
  .one ⟨some 6, .mv (.t 18), none⟩]
def c48k54 : ICode := .kill 135 [1, 2] (.ops c48r54)
def c48s55 : ICode := (.seq c48k54 c48s53)
def c48r56 : List Seg := [
  .one ⟨some 2, .box (.t 0), none⟩,
  .one ⟨some 4, .mv (.c .nilslice), none⟩,
  .one ⟨some 5, .mv (.c (.bool false)), none⟩]
def c48k56 : ICode := .kill 135 [0, 1] (.ops c48r56)
def c48b : ICode := (.seq c48k56 c48s55)
def c48 : IFn := ⟨135, [.t 4, .t 5], c48b⟩
def h48 : List (Nat × Nat × List Nat) := [(0, (135, [0, 1])), (1, (135, [1, 2])), (2, (135, [1, 2, 6])), (3, (135, [1, 2, 6, 7])), (4, (135, [1, 2, 6, 7, 8])), (5, (135, [1, 2, 6, 7, 8, 9])), (7, (135, [1, 2, 6, 7, 8, 9])), (6, (135, [1, 2, 6, 7, 8, 9])), (8, (135, [1, 2, 6, 7])), (9, (135, [1, 2, 6, 7, 10])), (11, (135, [1, 2, 6, 7, 10])), (12, (135, [1, 2, 6, 7, 10, 11])), (14, (135, [1, 2, 6, 7, 10, 11])), (15, (135, [1, 2, 6, 7, 10, 11, 12, 13])), (16, (135, [1, 2, 6, 7, 10, 11, 12, 13])), (17, (135, [1, 2, 6, 7, 10, 11, 12, 13])), (18, (135, [1, 2, 6, 7, 10, 11, 12, 13])), (19, (135, [1, 2, 6, 7, 10, 11, 12, 13])), (20, (135, [1, 2, 6, 7, 10, 11, 12])), (13, (135, [1, 2, 6, 7, 10, 11])), (10, (135, [1, 2, 6, 7, 10])), (21, (135, [1, 2, 6])), (22, (135, [1, 6, 14])), (23, (135, [1, 6, 14, 15])), (25, (135, [1, 6, 14, 15])), (26, (135, [])), (24, (135, [1, 6, 14, 15])), (27, (135, [6]))]
def c49r0 : List Seg := [
  .one ⟨some 40, .mv (.t 5), none⟩,
  .one ⟨some 4, .mv (.t 40), none⟩]
def c49k0 : ICode := .kill 41 [5] (.ops c49r0)
def c49s1 : ICode := (.seq c49k0 .ret)
def c49r3 : List Seg := [
  .one ⟨some 16, .mv (.t 6), none⟩,
  .one ⟨some 17, .bin .add (.t 16) (.c (.int .i64 1)), none⟩,
  .one ⟨some 6, .mv (.t 17), none⟩]
def c49k3 : ICode := .kill 41 [1, 2, 5, 6] (.ops c49r3)
def c49r4 : List Seg := [
  .grp [(⟨some 18, .mv (.t 5), none⟩, 0), (⟨some 19, .mv (.t 6), none⟩, 0), (⟨some 20, .mv (.t 1), none⟩, 0), (⟨some 21, .fieldA 1 (.t 2), none⟩, 0), (⟨some 22, .load1 (.t 21), none⟩, 8), (⟨some 23, .mv (.t 6), none⟩, 0), (⟨some 24, .idxS 2 (.t 22) (.t 23), none⟩, 56), (⟨some 25, .idxA 2 1 (.t 24) (.c (.int .i64 1)), none⟩, 120), (⟨some 26, .load1 (.t 25), none⟩, 248), (⟨some 27, .idxS 1 (.t 20) (.t 26), none⟩, 508), (⟨some 28, .load1 (.t 27), none⟩, 1020), (⟨some 29, .mv (.t 1), none⟩, 0), (⟨some 30, .fieldA 1 (.t 2), none⟩, 0), (⟨some 31, .load1 (.t 30), none⟩, 4096), (⟨some 32, .mv (.t 6), none⟩, 0), (⟨some 33, .idxS 2 (.t 31) (.t 32), none⟩, 28672), (⟨some 34, .idxA 2 1 (.t 33) (.c (.int .i64 0)), none⟩, 61440), (⟨some 35, .load1 (.t 34), none⟩, 126976), (⟨some 36, .idxS 1 (.t 29) (.t 35), none⟩, 260096), (⟨some 37, .load1 (.t 36), none⟩, 522240), (⟨some 38, .bin .sub (.t 28) (.t 37), none⟩, 1048572)],
  .one ⟨some 39, .idxS 1 (.t 18) (.t 19), none⟩,
  .one ⟨none, .store1 (.t 39) (.t 38), none⟩]
def c49k4 : ICode := .kill 41 [1, 2, 5, 6] (.ops c49r4)
def c49s5 : ICode := (.seq (.block 1 c49k4) c49k3)
def c49s6 : ICode := (.cond (.t 15) .skip (.exit 0))
def c49r7 : List Seg := [
  .one ⟨some 11, .mv (.t 6), none⟩,
  .one ⟨some 12, .fieldA 1 (.t 2), none⟩,
  .one ⟨some 13, .load1 (.t 12), none⟩,
  .one ⟨some 14, .len 0 (.t 13), none⟩,
  .one ⟨some 15, .bin .lss (.t 11) (.t 14), none⟩]
def c49k7 : ICode := .kill 41 [1, 2, 5, 6] (.ops c49r7)
def c49l2 : ICode := (.seq (.seq c49k7 c49s6) c49s5)
def c49s8 : ICode := (.block 0 (.loop c49l2))
def c49r9 : List Seg := [
  .one ⟨some 6, .mv (.c (.int .i64 0)), none⟩]
def c49k9 : ICode := .kill 41 [1, 2, 5] (.ops c49r9)
def c49s10 : ICode := (.seq (.seq c49k9 c49s8) c49s1)
def c49r11 : List Seg := [
  .one ⟨some 7, .fieldA 1 (.t 2), none⟩,
  .one ⟨some 8, .load1 (.t 7), none⟩,
  .one ⟨some 9, .len 0 (.t 8), none⟩,
  .one ⟨some 10, .make [.int .i64 0] 8 (.t 9) (.t 9), none⟩,
  .one ⟨some 5, .mv (.t 10), none⟩]
def c49k11 : ICode := .kill 41 [1, 2] (.ops c49r11)
def c49s12 : ICode := (.seq c49k11 c49s10)
def c49r13 : List Seg := [
  .one ⟨some 2, .box (.t 0), none⟩,
  .one ⟨some 4, .mv (.c .nilslice), none⟩]
def c49k13 : ICode := .kill 41 [0, 1] (.ops c49r13)
def c49b : ICode := (.seq c49k13 c49s12)
def c49 : IFn := ⟨41, [.t 4], c49b⟩
def h49 : List (Nat × Nat × List Nat) := [(0, (41, [0, 1])), (1, (41, [1, 2])), (2, (41, [1, 2, 5])), (3, (41, [1, 2, 5, 6])), (5, (41, [1, 2, 5, 6])), (4, (41, [1, 2, 5, 6])), (6, (41, [5]))]
def c50r0 : List Seg := [
  .grp [(⟨some 10, .loadN 3 (.t 1), none⟩, 0), (⟨some 11, .fieldA 1 (.t 1), none⟩, 0), (⟨some 12, .load1 (.t 11), none⟩, 2), (⟨some 13, .len 0 (.t 12), none⟩, 6), (⟨some 14, .make [.int .i64 0] 8 (.t 13) (.t 13), none⟩, 14)],
  .one ⟨some 15, .call [] (.c (.func 78 [])) [(.t 10), (.t 14)], none⟩,
  .one ⟨some 16, .nilck (.t 15), none⟩,
  .one ⟨some 17, .fieldA 12 (.t 16), none⟩,
  .one ⟨some 18, .load1 (.t 17), none⟩,
  .one ⟨some 2, .mv (.t 18), none⟩,
  .one ⟨some 3, .mv (.c (.int .i64 0)), none⟩]
def c50k0 : ICode := .kill 19 [1] (.ops c50r0)
def c50s1 : ICode := (.seq c50k0 .ret)
def c50r2 : List Seg := [
  .one ⟨some 9, .mv (.t 4), none⟩,
  .one ⟨some 2, .mv (.c (.int .i64 0)), none⟩,
  .one ⟨some 3, .mv (.t 9), none⟩]
def c50k2 : ICode := .kill 19 [4] (.ops c50r2)
def c50s3 : ICode := (.cond (.t 8) (.seq c50k2 .ret) .skip)
def c50r4 : List Seg := [
  .one ⟨some 7, .mv (.t 4), none⟩,
  .one ⟨some 8, .bin .neq (.t 7) (.c (.int .i64 0)), none⟩]
def c50k4 : ICode := .kill 19 [1, 4] (.ops c50r4)
def c50s5 : ICode := (.seq c50k4 c50s3)
def c50r6 : List Seg := [
  .one ⟨some 5, .loadN 3 (.t 1), none⟩,
  .one ⟨some 6, .call [] (.c (.func 59 [])) [(.t 5)], none⟩,
  .one ⟨some 4, .mv (.t 6), none⟩]
def c50k6 : ICode := .kill 19 [1] (.ops c50r6)
def c50s7 : ICode := (.seq (.seq c50k6 c50s5) c50s1)
def c50r8 : List Seg := [
  .one ⟨some 1, .box (.t 0), none⟩,
  .one ⟨some 2, .mv (.c (.int .i64 0)), none⟩,
  .one ⟨some 3, .mv (.c (.int .i64 0)), none⟩]
def c50k8 : ICode := .kill 19 [0] (.ops c50r8)
def c50b : ICode := (.seq c50k8 c50s7)
def c50 : IFn := ⟨19, [.t 2, .t 3], c50b⟩
def h50 : List (Nat × Nat × List Nat) := [(0, (19, [0])), (1, (19, [1])), (2, (19, [1, 4])), (3, (19, [4])), (4, (19, [1]))]
def c51r0 : List Seg := [
  .one ⟨some 24, .mv (.t 6), none⟩,
  .one ⟨some 25, .mv (.t 8), none⟩,
  .one ⟨some 26, .mkslice 2 [.nilslice, .nilslice] [(0, 1, (.t 24)), (1, 1, (.t 25))], none⟩,
  .one ⟨some 27, .call [] (.c (.func 84 [])) [(.t 26)], none⟩,
  .one ⟨some 28, .call [] (.c (.func 83 [])) [(.t 27), (.c (.func 85 []))], none⟩,
  .one ⟨some 29, .un .not (.t 28), none⟩,
  .one ⟨some 30, .mv (.t 7), none⟩,
  .one ⟨some 4, .mv (.t 29), none⟩,
  .one ⟨some 5, .mv (.t 30), none⟩]
def c51k0 : ICode := .kill 31 [6, 7, 8] (.ops c51r0)
def c51s1 : ICode := (.seq c51k0 .ret)
def c51r2 : List Seg := [
  .one ⟨some 19, .loadN 3 (.t 2), none⟩,
  .one ⟨some 20, .mv (.t 1), none⟩,
  .one ⟨some 21, .call [] (.c (.func 40 [])) [(.t 19), (.t 20)], none⟩,
  .one ⟨some 18, .mv (.t 21), none⟩,
  .one ⟨some 22, .ext (.t 18) 0, none⟩,
  .one ⟨some 23, .ext (.t 18) 1, none⟩,
  .one ⟨some 8, .mv (.t 22), none⟩,
  .one ⟨some 7, .mv (.t 23), none⟩]
def c51k2 : ICode := .kill 31 [1, 2, 6] (.ops c51r2)
def c51s3 : ICode := (.seq c51k2 c51s1)
def c51r4 : List Seg := [
  .one ⟨some 17, .mv (.t 7), none⟩,
  .one ⟨some 4, .mv (.c (.bool false)), none⟩,
  .one ⟨some 5, .mv (.t 17), none⟩]
def c51k4 : ICode := .kill 31 [7] (.ops c51r4)
def c51s5 : ICode := (.cond (.t 16) (.seq c51k4 .ret) .skip)
def c51r6 : List Seg := [
  .one ⟨some 15, .mv (.t 7), none⟩,
  .one ⟨some 16, .bin .neq (.t 15) (.c (.int .i64 0)), none⟩]
def c51k6 : ICode := .kill 31 [1, 2, 6, 7] (.ops c51r6)
def c51s7 : ICode := (.seq (.seq c51k6 c51s5) c51s3)
def c51r8 : List Seg := [
  .one ⟨some 10, .loadN 3 (.t 2), none⟩,
  .one ⟨some 11, .mv (.t 1), none⟩,
  .one ⟨some 12, .call [] (.c (.func 22 [])) [(.t 10), (.t 11)], none⟩,
  .one ⟨some 9, .mv (.t 12), none⟩,
  .one ⟨some 13, .ext (.t 9) 0, none⟩,
  .one ⟨some 14, .ext (.t 9) 1, none⟩,
  .one ⟨some 6, .mv (.t 13), none⟩,
  .one ⟨some 7, .mv (.t 14), none⟩]
def c51k8 : ICode := .kill 31 [1, 2] (.ops c51r8)
def c51s9 : ICode := (.seq c51k8 c51s7)
def c51r10 : List Seg := [
  .one ⟨some 2, .box (.t 0), none⟩,
  .one ⟨some 4, .mv (.c (.bool false)), none⟩,
  .one ⟨some 5, .mv (.c (.int .i64 0)), none⟩]
def c51k10 : ICode := .kill 31 [0, 1] (.ops c51r10)
def c51b : ICode := (.seq c51k10 c51s9)
def c51 : IFn := ⟨31, [.t 4, .t 5], c51b⟩
def h51 : List (Nat × Nat × List Nat) := [(0, (31, [0, 1])), (1, (31, [1, 2])), (2, (31, [1, 2, 6, 7])), (3, (31, [7])), (4, (31, [1, 2, 6])), (5, (31, [6, 7, 8]))]
def c52r0 : List Seg := [
  .one ⟨some 89, .mv (.t 10), none⟩,
  .one ⟨some 4, .mv (.t 89), none⟩]
def c52k0 : ICode := .kill 90 [10] (.ops c52r0)
def c52s1 : ICode := (.seq c52k0 .ret)
def c52r3 : List Seg := [
  .one ⟨some 51, .mv (.t 11), none⟩,
  .one ⟨some 52, .bin .add (.t 51) (.c (.int .i64 1)), none⟩,
  .one ⟨some 11, .mv (.t 52), none⟩]
def c52k3 : ICode := .kill 90 [2, 7, 9, 10, 11] (.ops c52r3)
def c52r4 : List Seg := [
  .grp [(⟨some 77, .mv (.t 10), none⟩, 0), (⟨some 78, .mv (.t 11), none⟩, 0), (⟨some 79, .mv (.t 7), none⟩, 0), (⟨some 80, .mv (.t 11), none⟩, 0), (⟨some 81, .idxS 2 (.t 79) (.t 80), none⟩, 12), (⟨some 82, .loadN 2 (.t 81), none⟩, 28), (⟨some 83, .loadN 2 (.t 12), none⟩, 0), (⟨some 84, .mv (.t 13), none⟩, 0), (⟨some 85, .mkagg [.int .i64 0, .int .i64 0] [(0, 1, (.t 84)), (1, 1, (.c (.int .i64 1)))], none⟩, 128), (⟨some 86, .call [] (.c (.func 88 [])) [(.t 83), (.t 85)], none⟩, 448), (⟨some 87, .call [] (.c (.func 34 [])) [(.t 82), (.t 86)], none⟩, 1020)],
  .one ⟨some 88, .idxS 2 (.t 77) (.t 78), none⟩,
  .one ⟨none, .storeN 2 (.t 88) (.t 87), none⟩]
def c52k4 : ICode := .kill 90 [2, 7, 9, 10, 11, 12, 13] (.ops c52r4)
def c52r6 : List Seg := [
  .one ⟨some 58, .mv (.t 14), none⟩,
  .one ⟨some 59, .bin .add (.t 58) (.c (.int .i64 1)), none⟩,
  .one ⟨some 14, .mv (.t 59), none⟩]
def c52k6 : ICode := .kill 90 [2, 7, 9, 10, 11, 12, 13, 14] (.ops c52r6)
def c52r7 : List Seg := [
  .one ⟨some 75, .mv (.t 13), none⟩,
  .one ⟨some 76, .bin .add (.t 75) (.c (.int .i64 1)), none⟩,
  .one ⟨some 13, .mv (.t 76), none⟩]
def c52k7 : ICode := .kill 90 [2, 7, 9, 10, 11, 12, 13, 14] (.ops c52r7)
def c52r8 : List Seg := [
  .grp [(⟨some 69, .loadN 2 (.t 12), none⟩, 0), (⟨some 70, .mv (.t 7), none⟩, 0), (⟨some 71, .mv (.t 14), none⟩, 0), (⟨some 72, .idxS 2 (.t 70) (.t 71), none⟩, 6), (⟨some 73, .loadN 2 (.t 72), none⟩, 14)],
  .one ⟨some 74, .call [] (.c (.func 32 [])) [(.t 69), (.t 73)], none⟩,
  .one ⟨none, .storeN 2 (.t 12) (.t 74), none⟩]
def c52k8 : ICode := .kill 90 [2, 7, 9, 10, 11, 12, 13, 14] (.ops c52r8)
def c52s9 : ICode := (.cond (.t 68) (.seq c52k8 c52k7) .skip)
def c52r10 : List Seg := [
  .grp [(⟨some 60, .mv (.t 9), none⟩, 0), (⟨some 61, .mv (.t 14), none⟩, 0), (⟨some 62, .idxS 1 (.t 60) (.t 61), none⟩, 3), (⟨some 63, .load1 (.t 62), none⟩, 7), (⟨some 64, .mv (.t 9), none⟩, 0), (⟨some 65, .mv (.t 11), none⟩, 0), (⟨some 66, .idxS 1 (.t 64) (.t 65), none⟩, 48), (⟨some 67, .load1 (.t 66), none⟩, 112)],
  .one ⟨some 68, .bin .eql (.t 63) (.t 67), none⟩]
def c52k10 : ICode := .kill 90 [2, 7, 9, 10, 11, 12, 13, 14] (.ops c52r10)
def c52s11 : ICode := (.seq (.block 5 (.seq c52k10 c52s9)) c52k6)
def c52s12 : ICode := (.cond (.t 57) .skip (.exit 4))
def c52r13 : List Seg := [
  .one ⟨some 54, .mv (.t 14), none⟩,
  .one ⟨some 55, .fieldA 0 (.t 2), none⟩,
  .one ⟨some 56, .load1 (.t 55), none⟩,
  .one ⟨some 57, .bin .lss (.t 54) (.t 56), none⟩]
def c52k13 : ICode := .kill 90 [2, 7, 9, 10, 11, 12, 13, 14] (.ops c52r13)
def c52l5 : ICode := (.seq (.seq c52k13 c52s12) c52s11)
def c52s14 : ICode := (.block 4 (.loop c52l5))
def c52r15 : List Seg := [
  .one ⟨some 14, .mv (.c (.int .i64 0)), none⟩]
def c52k15 : ICode := .kill 90 [2, 7, 9, 10, 11, 12, 13] (.ops c52r15)
def c52s16 : ICode := (.seq (.seq c52k15 c52s14) c52k4)
def c52r17 : List Seg := [
  .one ⟨some 53, .mkagg [.int .i64 0, .int .i64 0] [(0, 1, (.c (.int .i64 0))), (1, 1, (.c (.int .i64 1)))], none⟩,
  .one ⟨some 12, .box (.c (.agg [.int .i64 0, .int .i64 0])), none⟩,
  .one ⟨none, .storeN 2 (.t 12) (.t 53), none⟩,
  .one ⟨some 13, .mv (.c (.int .i64 0)), none⟩]
def c52k17 : ICode := .kill 90 [2, 7, 9, 10, 11] (.ops c52r17)
def c52s18 : ICode := (.seq (.block 3 (.seq c52k17 c52s16)) c52k3)
def c52s19 : ICode := (.cond (.t 50) .skip (.exit 2))
def c52r20 : List Seg := [
  .one ⟨some 47, .mv (.t 11), none⟩,
  .one ⟨some 48, .fieldA 0 (.t 2), none⟩,
  .one ⟨some 49, .load1 (.t 48), none⟩,
  .one ⟨some 50, .bin .lss (.t 47) (.t 49), none⟩]
def c52k20 : ICode := .kill 90 [2, 7, 9, 10, 11] (.ops c52r20)
def c52l2 : ICode := (.seq (.seq c52k20 c52s19) c52s18)
def c52s21 : ICode := (.block 2 (.loop c52l2))
def c52r22 : List Seg := [
  .one ⟨some 11, .mv (.c (.int .i64 0)), none⟩]
def c52k22 : ICode := .kill 90 [2, 7, 9, 10] (.ops c52r22)
def c52s23 : ICode := (.seq (.seq c52k22 c52s21) c52s1)
def c52r24 : List Seg := [
  .one ⟨some 44, .fieldA 0 (.t 2), none⟩,
  .one ⟨some 45, .load1 (.t 44), none⟩,
  .one ⟨some 46, .make [.int .i64 0, .int .i64 0] 16 (.t 45) (.t 45), none⟩,
  .one ⟨some 10, .mv (.t 46), none⟩]
def c52k24 : ICode := .kill 90 [2, 7, 9] (.ops c52r24)
def c52s25 : ICode := (.seq c52k24 c52s23)
def c52r26 : List Seg := [
  .one ⟨some 42, .loadN 3 (.t 2), none⟩,
  .one ⟨some 43, .call [] (.c (.func 31 [])) [(.t 42)], none⟩,
  .one ⟨some 9, .mv (.t 43), none⟩]
def c52k26 : ICode := .kill 90 [2, 7] (.ops c52r26)
def c52s27 : ICode := (.seq c52k26 c52s25)
def c52r28 : List Seg := [
  .grp [(⟨some 33, .mv (.t 5), none⟩, 0), (⟨some 34, .call [] (.c (.func 87 [])) [(.t 33)], none⟩, 1), (⟨some 35, .loadN 3 (.t 2), none⟩, 0), (⟨some 36, .mv (.t 1), none⟩, 0)],
  .one ⟨some 37, .call [] (.c (.func 29 [])) [(.t 35), (.t 36)], none⟩,
  .one ⟨some 38, .call [] (.c (.func 43 [])) [(.t 37)], none⟩,
  .one ⟨some 39, .call [] (.c (.func 86 [])) [(.t 34), (.t 38)], none⟩,
  .one ⟨some 32, .mv (.t 39), none⟩,
  .grp [(⟨some 40, .ext (.t 32) 0, none⟩, 0), (⟨some 41, .ext (.t 32) 1, none⟩, 0), (⟨some 7, .mv (.t 40), none⟩, 1)],
  .one ⟨some 8, .mv (.t 41), none⟩]
def c52k28 : ICode := .kill 90 [1, 2, 5] (.ops c52r28)
def c52s29 : ICode := (.seq c52k28 c52s27)
def c52r31 : List Seg := [
  .one ⟨some 19, .mv (.t 6), none⟩,
  .one ⟨some 20, .bin .add (.t 19) (.c (.int .i64 1)), none⟩,
  .one ⟨some 6, .mv (.t 20), none⟩]
def c52k31 : ICode := .kill 90 [1, 2, 5, 6] (.ops c52r31)
def c52r32 : List Seg := [
  .grp [(⟨some 21, .mv (.t 5), none⟩, 0), (⟨some 22, .loadN 3 (.t 2), none⟩, 0), (⟨some 23, .loadN 3 (.t 2), none⟩, 0), (⟨some 24, .fieldA 0 (.t 2), none⟩, 0), (⟨some 25, .load1 (.t 24), none⟩, 8), (⟨some 26, .mv (.t 6), none⟩, 0), (⟨some 27, .call [] (.c (.func 71 [])) [(.t 25), (.t 26)], none⟩, 56), (⟨some 28, .call [] (.c (.func 49 [])) [(.t 23), (.t 27)], none⟩, 124), (⟨some 29, .call [] (.c (.func 29 [])) [(.t 22), (.t 28)], none⟩, 254), (⟨some 30, .mkslice 1 [.nilslice] [(0, 1, (.t 29))], none⟩, 510)],
  .one ⟨some 31, .app 1 24 (.t 21) (.t 30), none⟩,
  .one ⟨some 5, .mv (.t 31), none⟩]
def c52k32 : ICode := .kill 90 [1, 2, 5, 6] (.ops c52r32)
def c52s33 : ICode := (.seq (.block 1 c52k32) c52k31)
def c52s34 : ICode := (.cond (.t 18) .skip (.exit 0))
def c52r35 : List Seg := [
  .one ⟨some 15, .mv (.t 6), none⟩,
  .one ⟨some 16, .fieldA 0 (.t 2), none⟩,
  .one ⟨some 17, .load1 (.t 16), none⟩,
  .one ⟨some 18, .bin .lss (.t 15) (.t 17), none⟩]
def c52k35 : ICode := .kill 90 [1, 2, 5, 6] (.ops c52r35)
def c52l30 : ICode := (.seq (.seq c52k35 c52s34) c52s33)
def c52s36 : ICode := (.block 0 (.loop c52l30))
def c52r37 : List Seg := [
  .one ⟨some 6, .mv (.c (.int .i64 0)), none⟩]
def c52k37 : ICode := .kill 90 [1, 2, 5] (.ops c52r37)
def c52s38 : ICode := (.seq (.seq c52k37 c52s36) c52s29)
def c52r39 : List Seg := [
  .one ⟨some 5, .mv (.c .nilslice), none⟩]
def c52k39 : ICode := .kill 90 [1, 2] (.ops c52r39)
def c52s40 : ICode := (.seq c52k39 c52s38)
def c52r41 : List Seg := [
  .one ⟨some 2, .box (.t 0), none⟩,
  .one ⟨some 4, .mv (.c .nilslice), none⟩]
def c52k41 : ICode := .kill 90 [0, 1] (.ops c52r41)
def c52b : ICode := (.seq c52k41 c52s40)
def c52 : IFn := ⟨90, [.t 4], c52b⟩
def h52 : List (Nat × Nat × List Nat) := [(0, (90, [0, 1])), (1, (90, [1, 2])), (2, (90, [1, 2, 5])), (3, (90, [1, 2, 5, 6])), (5, (90, [1, 2, 5, 6])), (4, (90, [1, 2, 5, 6])), (6, (90, [1, 2, 5])), (7, (90, [2, 7])), (8, (90, [2, 7, 9])), (9, (90, [2, 7, 9, 10])), (10, (90, [2, 7, 9, 10, 11])), (12, (90, [2, 7, 9, 10, 11])), (13, (90, [2, 7, 9, 10, 11, 12, 13])), (14, (90, [2, 7, 9, 10, 11, 12, 13, 14])), (16, (90, [2, 7, 9, 10, 11, 12, 13, 14])), (17, (90, [2, 7, 9, 10, 11, 12, 13, 14])), (18, (90, [2, 7, 9, 10, 11, 12, 13, 14])), (15, (90, [2, 7, 9, 10, 11, 12, 13, 14])), (19, (90, [2, 7, 9, 10, 11, 12, 13])), (11, (90, [2, 7, 9, 10, 11])), (20, (90, [10]))]
def c53r0 : List Seg := [
  .one ⟨some 4, .mv (.c (.bool true)), none⟩]
def c53k0 : ICode := .kill 42 [] (.ops c53r0)
def c53s1 : ICode := (.seq c53k0 .ret)
def c53r3 : List Seg := [
  .one ⟨some 15, .mv (.t 5), none⟩,
  .one ⟨some 16, .bin .add (.t 15) (.c (.int .i64 1)), none⟩,
  .one ⟨some 5, .mv (.t 16), none⟩]
def c53k3 : ICode := .kill 42 [0, 1, 5] (.ops c53r3)
def c53r4 : List Seg := [
  .one ⟨some 4, .mv (.c (.bool false)), none⟩]
def c53k4 : ICode := .kill 42 [] (.ops c53r4)
def c53s5 : ICode := (.cond (.t 41) (.seq c53k4 .ret) .skip)
def c53r6 : List Seg := [
  .grp [(⟨some 17, .mv (.t 0), none⟩, 0), (⟨some 18, .mv (.t 5), none⟩, 0), (⟨some 19, .idxS 2 (.t 17) (.t 18), none⟩, 3), (⟨some 20, .idxA 2 1 (.t 19) (.c (.int .i64 0)), none⟩, 7), (⟨some 21, .load1 (.t 20), none⟩, 15), (⟨some 22, .mv (.t 1), none⟩, 0), (⟨some 23, .mv (.t 5), none⟩, 0), (⟨some 24, .idxS 2 (.t 22) (.t 23), none⟩, 96), (⟨some 25, .idxA 2 1 (.t 24) (.c (.int .i64 0)), none⟩, 224), (⟨some 26, .load1 (.t 25), none⟩, 480), (⟨some 27, .un .neg (.t 26), none⟩, 992)],
  .one ⟨some 28, .bin .neq (.t 21) (.t 27), none⟩,
  .one ⟨some 29, .mv (.t 28), none⟩,
  .grp [(⟨some 30, .mv (.t 0), some (29, false)⟩, 0), (⟨some 31, .mv (.t 5), some (29, false)⟩, 0), (⟨some 32, .idxS 2 (.t 30) (.t 31), some (29, false)⟩, 3), (⟨some 33, .idxA 2 1 (.t 32) (.c (.int .i64 1)), some (29, false)⟩, 7), (⟨some 34, .load1 (.t 33), some (29, false)⟩, 15), (⟨some 35, .mv (.t 1), some (29, false)⟩, 0), (⟨some 36, .mv (.t 5), some (29, false)⟩, 0), (⟨some 37, .idxS 2 (.t 35) (.t 36), some (29, false)⟩, 96), (⟨some 38, .idxA 2 1 (.t 37) (.c (.int .i64 1)), some (29, false)⟩, 224), (⟨some 39, .load1 (.t 38), some (29, false)⟩, 480)],
  .one ⟨some 40, .bin .neq (.t 34) (.t 39), some (29, false)⟩,
  .one ⟨some 41, .pick (.t 29) (.c (.bool true)) (.t 40), none⟩]
def c53k6 : ICode := .kill 42 [0, 1, 5] (.ops c53r6)
def c53s7 : ICode := (.seq (.block 1 (.seq c53k6 c53s5)) c53k3)
def c53s8 : ICode := (.cond (.t 14) .skip (.exit 0))
def c53r9 : List Seg := [
  .one ⟨some 11, .mv (.t 5), none⟩,
  .one ⟨some 12, .mv (.t 0), none⟩,
  .one ⟨some 13, .len 0 (.t 12), none⟩,
  .one ⟨some 14, .bin .lss (.t 11) (.t 13), none⟩]
def c53k9 : ICode := .kill 42 [0, 1, 5] (.ops c53r9)
def c53l2 : ICode := (.seq (.seq c53k9 c53s8) c53s7)
def c53s10 : ICode := (.block 0 (.loop c53l2))
def c53r11 : List Seg := [
  .one ⟨some 5, .mv (.c (.int .i64 0)), none⟩]
def c53k11 : ICode := .kill 42 [0, 1] (.ops c53r11)
def c53s12 : ICode := (.seq (.seq c53k11 c53s10) c53s1)
def c53r13 : List Seg := [
  .one ⟨some 4, .mv (.c (.bool false)), none⟩]
def c53k13 : ICode := .kill 42 [] (.ops c53r13)
def c53s14 : ICode := (.cond (.t 10) (.seq c53k13 .ret) .skip)
def c53r15 : List Seg := [
  .one ⟨some 6, .mv (.t 0), none⟩,
  .one ⟨some 7, .len 0 (.t 6), none⟩,
  .one ⟨some 8, .mv (.t 1), none⟩,
  .one ⟨some 9, .len 0 (.t 8), none⟩,
  .one ⟨some 10, .bin .neq (.t 7) (.t 9), none⟩]
def c53k15 : ICode := .kill 42 [0, 1] (.ops c53r15)
def c53s16 : ICode := (.seq (.seq c53k15 c53s14) c53s12)
def c53r17 : List Seg := [
  .one ⟨some 4, .mv (.c (.bool false)), none⟩]
def c53k17 : ICode := .kill 42 [0, 1] (.ops c53r17)
def c53b : ICode := (.seq c53k17 c53s16)
def c53 : IFn := ⟨42, [.t 4], c53b⟩
def h53 : List (Nat × Nat × List Nat) := [(0, (42, [0, 1])), (1, (42, [0, 1])), (2, (42, [])), (3, (42, [0, 1])), (4, (42, [0, 1, 5])), (6, (42, [0, 1, 5])), (7, (42, [])), (5, (42, [0, 1, 5])), (8, (42, []))]
def c54r0 : List Seg := [
  .one ⟨some 64, .mv (.t 5), none⟩,
  .one ⟨some 4, .mv (.t 64), none⟩]
def c54k0 : ICode := .kill 65 [5] (.ops c54r0)
def c54s1 : ICode := (.seq c54k0 .ret)
def c54r3 : List Seg := [
  .one ⟨some 17, .mv (.t 6), none⟩,
  .one ⟨some 18, .bin .add (.t 17) (.c (.int .i64 1)), none⟩,
  .one ⟨some 6, .mv (.t 18), none⟩]
def c54k3 : ICode := .kill 65 [1, 2, 5, 6] (.ops c54r3)
def c54r4 : List Seg := [
  .grp [(⟨some 50, .mv (.t 5), none⟩, 0), (⟨some 51, .idxA 3 1 (.t 7) (.c (.int .i64 2)), none⟩, 0), (⟨some 52, .load1 (.t 51), none⟩, 2), (⟨some 53, .mv (.t 5), none⟩, 0), (⟨some 54, .idxA 3 1 (.t 7) (.c (.int .i64 2)), none⟩, 0), (⟨some 55, .load1 (.t 54), none⟩, 16), (⟨some 56, .idxS 1 (.t 53) (.t 55), none⟩, 56), (⟨some 57, .load1 (.t 56), none⟩, 120), (⟨some 58, .mv (.t 1), none⟩, 0), (⟨some 59, .mv (.t 6), none⟩, 0), (⟨some 60, .idxS 1 (.t 58) (.t 59), none⟩, 768), (⟨some 61, .load1 (.t 60), none⟩, 1792), (⟨some 62, .bin .sub (.t 57) (.t 61), none⟩, 4088)],
  .one ⟨some 63, .idxS 1 (.t 50) (.t 52), none⟩,
  .one ⟨none, .store1 (.t 63) (.t 62), none⟩]
def c54k4 : ICode := .kill 65 [1, 2, 5, 6, 7] (.ops c54r4)
def c54r5 : List Seg := [
  .grp [(⟨some 36, .mv (.t 5), none⟩, 0), (⟨some 37, .idxA 3 1 (.t 7) (.c (.int .i64 1)), none⟩, 0), (⟨some 38, .load1 (.t 37), none⟩, 2), (⟨some 39, .mv (.t 5), none⟩, 0), (⟨some 40, .idxA 3 1 (.t 7) (.c (.int .i64 1)), none⟩, 0), (⟨some 41, .load1 (.t 40), none⟩, 16), (⟨some 42, .idxS 1 (.t 39) (.t 41), none⟩, 56), (⟨some 43, .load1 (.t 42), none⟩, 120), (⟨some 44, .mv (.t 1), none⟩, 0), (⟨some 45, .mv (.t 6), none⟩, 0), (⟨some 46, .idxS 1 (.t 44) (.t 45), none⟩, 768), (⟨some 47, .load1 (.t 46), none⟩, 1792), (⟨some 48, .bin .add (.t 43) (.t 47), none⟩, 4088)],
  .one ⟨some 49, .idxS 1 (.t 36) (.t 38), none⟩,
  .one ⟨none, .store1 (.t 49) (.t 48), none⟩]
def c54k5 : ICode := .kill 65 [1, 2, 5, 6, 7] (.ops c54r5)
def c54s6 : ICode := (.seq c54k5 c54k4)
def c54r7 : List Seg := [
  .grp [(⟨some 22, .mv (.t 5), none⟩, 0), (⟨some 23, .idxA 3 1 (.t 7) (.c (.int .i64 0)), none⟩, 0), (⟨some 24, .load1 (.t 23), none⟩, 2), (⟨some 25, .mv (.t 5), none⟩, 0), (⟨some 26, .idxA 3 1 (.t 7) (.c (.int .i64 0)), none⟩, 0), (⟨some 27, .load1 (.t 26), none⟩, 16), (⟨some 28, .idxS 1 (.t 25) (.t 27), none⟩, 56), (⟨some 29, .load1 (.t 28), none⟩, 120), (⟨some 30, .mv (.t 1), none⟩, 0), (⟨some 31, .mv (.t 6), none⟩, 0), (⟨some 32, .idxS 1 (.t 30) (.t 31), none⟩, 768), (⟨some 33, .load1 (.t 32), none⟩, 1792), (⟨some 34, .bin .add (.t 29) (.t 33), none⟩, 4088)],
  .one ⟨some 35, .idxS 1 (.t 22) (.t 24), none⟩,
  .one ⟨none, .store1 (.t 35) (.t 34), none⟩]
def c54k7 : ICode := .kill 65 [1, 2, 5, 6, 7] (.ops c54r7)
def c54s8 : ICode := (.seq c54k7 c54s6)
def c54r9 : List Seg := [
  .one ⟨some 19, .loadN 3 (.t 2), none⟩,
  .one ⟨some 20, .mv (.t 6), none⟩,
  .one ⟨some 21, .call [] (.c (.func 89 [])) [(.t 19), (.t 20)], none⟩,
  .one ⟨some 7, .box (.c (.agg [.int .i64 0, .int .i64 0, .int .i64 0])), none⟩,
  .one ⟨none, .storeN 3 (.t 7) (.t 21), none⟩]
def c54k9 : ICode := .kill 65 [1, 2, 5, 6] (.ops c54r9)
def c54s10 : ICode := (.seq (.block 1 (.seq c54k9 c54s8)) c54k3)
def c54s11 : ICode := (.cond (.t 16) .skip (.exit 0))
def c54r12 : List Seg := [
  .one ⟨some 12, .mv (.t 6), none⟩,
  .one ⟨some 13, .fieldA 2 (.t 2), none⟩,
  .one ⟨some 14, .load1 (.t 13), none⟩,
  .one ⟨some 15, .len 0 (.t 14), none⟩,
  .one ⟨some 16, .bin .lss (.t 12) (.t 15), none⟩]
def c54k12 : ICode := .kill 65 [1, 2, 5, 6] (.ops c54r12)
def c54l2 : ICode := (.seq (.seq c54k12 c54s11) c54s10)
def c54s13 : ICode := (.block 0 (.loop c54l2))
def c54r14 : List Seg := [
  .one ⟨some 6, .mv (.c (.int .i64 0)), none⟩]
def c54k14 : ICode := .kill 65 [1, 2, 5] (.ops c54r14)
def c54s15 : ICode := (.seq (.seq c54k14 c54s13) c54s1)
def c54r16 : List Seg := [
  .one ⟨some 8, .fieldA 1 (.t 2), none⟩,
  .one ⟨some 9, .load1 (.t 8), none⟩,
  .one ⟨some 10, .len 0 (.t 9), none⟩,
  .one ⟨some 11, .make [.int .i64 0] 8 (.t 10) (.t 10), none⟩,
  .one ⟨some 5, .mv (.t 11), none⟩]
def c54k16 : ICode := .kill 65 [1, 2] (.ops c54r16)
def c54s17 : ICode := (.seq c54k16 c54s15)
def c54r18 : List Seg := [
  .one ⟨some 2, .box (.t 0), none⟩,
  .one ⟨some 4, .mv (.c .nilslice), none⟩]
def c54k18 : ICode := .kill 65 [0, 1] (.ops c54r18)
def c54b : ICode := (.seq c54k18 c54s17)
def c54 : IFn := ⟨65, [.t 4], c54b⟩
def h54 : List (Nat × Nat × List Nat) := [(0, (65, [0, 1])), (1, (65, [1, 2])), (2, (65, [1, 2, 5])), (3, (65, [1, 2, 5, 6])), (5, (65, [1, 2, 5, 6])), (6, (65, [1, 2, 5, 6, 7])), (7, (65, [1, 2, 5, 6, 7])), (8, (65, [1, 2, 5, 6, 7])), (4, (65, [1, 2, 5, 6])), (9, (65, [5]))]
def c55r0 : List Seg := [
  .one ⟨some 42, .mv (.t 5), none⟩,
  .one ⟨some 4, .mv (.t 42), none⟩]
def c55k0 : ICode := .kill 43 [5] (.ops c55r0)
def c55s1 : ICode := (.seq c55k0 .ret)
def c55r3 : List Seg := [
  .one ⟨some 17, .mv (.t 6), none⟩,
  .one ⟨some 18, .bin .add (.t 17) (.c (.int .i64 1)), none⟩,
  .one ⟨some 6, .mv (.t 18), none⟩]
def c55k3 : ICode := .kill 43 [1, 2, 5, 6] (.ops c55r3)
def c55r4 : List Seg := [
  .grp [(⟨some 22, .mv (.t 5), none⟩, 0), (⟨some 23, .mv (.t 6), none⟩, 0), (⟨some 24, .mv (.t 1), none⟩, 0), (⟨some 25, .idxA 3 1 (.t 7) (.c (.int .i64 0)), none⟩, 0), (⟨some 26, .load1 (.t 25), none⟩, 8), (⟨some 27, .idxS 1 (.t 24) (.t 26), none⟩, 28), (⟨some 28, .load1 (.t 27), none⟩, 60), (⟨some 29, .mv (.t 1), none⟩, 0), (⟨some 30, .idxA 3 1 (.t 7) (.c (.int .i64 1)), none⟩, 0), (⟨some 31, .load1 (.t 30), none⟩, 256), (⟨some 32, .idxS 1 (.t 29) (.t 31), none⟩, 896), (⟨some 33, .load1 (.t 32), none⟩, 1920), (⟨some 34, .bin .add (.t 28) (.t 33), none⟩, 4092), (⟨some 35, .mv (.t 1), none⟩, 0), (⟨some 36, .idxA 3 1 (.t 7) (.c (.int .i64 2)), none⟩, 0), (⟨some 37, .load1 (.t 36), none⟩, 16384), (⟨some 38, .idxS 1 (.t 35) (.t 37), none⟩, 57344), (⟨some 39, .load1 (.t 38), none⟩, 122880), (⟨some 40, .bin .sub (.t 34) (.t 39), none⟩, 262140)],
  .one ⟨some 41, .idxS 1 (.t 22) (.t 23), none⟩,
  .one ⟨none, .store1 (.t 41) (.t 40), none⟩]
def c55k4 : ICode := .kill 43 [1, 2, 5, 6, 7] (.ops c55r4)
def c55r5 : List Seg := [
  .one ⟨some 19, .loadN 3 (.t 2), none⟩,
  .one ⟨some 20, .mv (.t 6), none⟩,
  .one ⟨some 21, .call [] (.c (.func 89 [])) [(.t 19), (.t 20)], none⟩,
  .one ⟨some 7, .box (.c (.agg [.int .i64 0, .int .i64 0, .int .i64 0])), none⟩,
  .one ⟨none, .storeN 3 (.t 7) (.t 21), none⟩]
def c55k5 : ICode := .kill 43 [1, 2, 5, 6] (.ops c55r5)
def c55s6 : ICode := (.seq (.block 1 (.seq c55k5 c55k4)) c55k3)
def c55s7 : ICode := (.cond (.t 16) .skip (.exit 0))
def c55r8 : List Seg := [
  .one ⟨some 12, .mv (.t 6), none⟩,
  .one ⟨some 13, .fieldA 2 (.t 2), none⟩,
  .one ⟨some 14, .load1 (.t 13), none⟩,
  .one ⟨some 15, .len 0 (.t 14), none⟩,
  .one ⟨some 16, .bin .lss (.t 12) (.t 15), none⟩]
def c55k8 : ICode := .kill 43 [1, 2, 5, 6] (.ops c55r8)
def c55l2 : ICode := (.seq (.seq c55k8 c55s7) c55s6)
def c55s9 : ICode := (.block 0 (.loop c55l2))
def c55r10 : List Seg := [
  .one ⟨some 6, .mv (.c (.int .i64 0)), none⟩]
def c55k10 : ICode := .kill 43 [1, 2, 5] (.ops c55r10)
def c55s11 : ICode := (.seq (.seq c55k10 c55s9) c55s1)
def c55r12 : List Seg := [
  .one ⟨some 8, .fieldA 2 (.t 2), none⟩,
  .one ⟨some 9, .load1 (.t 8), none⟩,
  .one ⟨some 10, .len 0 (.t 9), none⟩,
  .one ⟨some 11, .make [.int .i64 0] 8 (.t 10) (.t 10), none⟩,
  .one ⟨some 5, .mv (.t 11), none⟩]
def c55k12 : ICode := .kill 43 [1, 2] (.ops c55r12)
def c55s13 : ICode := (.seq c55k12 c55s11)
def c55r14 : List Seg := [
  .one ⟨some 2, .box (.t 0), none⟩,
  .one ⟨some 4, .mv (.c .nilslice), none⟩]
def c55k14 : ICode := .kill 43 [0, 1] (.ops c55r14)
def c55b : ICode := (.seq c55k14 c55s13)
def c55 : IFn := ⟨43, [.t 4], c55b⟩
def h55 : List (Nat × Nat × List Nat) := [(0, (43, [0, 1])), (1, (43, [1, 2])), (2, (43, [1, 2, 5])), (3, (43, [1, 2, 5, 6])), (5, (43, [1, 2, 5, 6])), (6, (43, [1, 2, 5, 6, 7])), (4, (43, [1, 2, 5, 6])), (7, (43, [5]))]
def c56r0 : List Seg := [
  .one ⟨some 22, .mv (.t 3), none⟩,
  .one ⟨some 2, .mv (.t 22), none⟩]
def c56k0 : ICode := .kill 23 [3] (.ops c56r0)
def c56s1 : ICode := (.seq c56k0 .ret)
def c56r3 : List Seg := [
  .one ⟨some 12, .mv (.t 5), none⟩,
  .one ⟨some 13, .bin .add (.t 12) (.c (.int .i64 1)), none⟩,
  .one ⟨some 5, .mv (.t 13), none⟩]
def c56k3 : ICode := .kill 23 [1, 3, 4, 5] (.ops c56r3)
def c56r4 : List Seg := [
  .one ⟨some 20, .mv (.t 3), none⟩,
  .one ⟨some 21, .bin .add (.t 20) (.c (.int .i64 1)), none⟩,
  .one ⟨some 3, .mv (.t 21), none⟩]
def c56k4 : ICode := .kill 23 [1, 3, 4, 5] (.ops c56r4)
def c56s5 : ICode := (.cond (.t 19) c56k4 .skip)
def c56r6 : List Seg := [
  .one ⟨some 14, .mv (.t 4), none⟩,
  .one ⟨some 15, .mv (.t 5), none⟩,
  .one ⟨some 16, .idxS 1 (.t 14) (.t 15), none⟩,
  .one ⟨some 17, .load1 (.t 16), none⟩,
  .one ⟨some 18, .mv (.t 5), none⟩,
  .one ⟨some 19, .bin .eql (.t 17) (.t 18), none⟩]
def c56k6 : ICode := .kill 23 [1, 3, 4, 5] (.ops c56r6)
def c56s7 : ICode := (.seq (.block 1 (.seq c56k6 c56s5)) c56k3)
def c56s8 : ICode := (.cond (.t 11) .skip (.exit 0))
def c56r9 : List Seg := [
  .one ⟨some 8, .mv (.t 5), none⟩,
  .one ⟨some 9, .fieldA 0 (.t 1), none⟩,
  .one ⟨some 10, .load1 (.t 9), none⟩,
  .one ⟨some 11, .bin .lss (.t 8) (.t 10), none⟩]
def c56k9 : ICode := .kill 23 [1, 3, 4, 5] (.ops c56r9)
def c56l2 : ICode := (.seq (.seq c56k9 c56s8) c56s7)
def c56s10 : ICode := (.block 0 (.loop c56l2))
def c56r11 : List Seg := [
  .one ⟨some 5, .mv (.c (.int .i64 0)), none⟩]
def c56k11 : ICode := .kill 23 [1, 3, 4] (.ops c56r11)
def c56s12 : ICode := (.seq (.seq c56k11 c56s10) c56s1)
def c56r13 : List Seg := [
  .one ⟨some 6, .loadN 3 (.t 1), none⟩,
  .one ⟨some 7, .call [] (.c (.func 31 [])) [(.t 6)], none⟩,
  .one ⟨some 4, .mv (.t 7), none⟩]
def c56k13 : ICode := .kill 23 [1, 3] (.ops c56r13)
def c56s14 : ICode := (.seq c56k13 c56s12)
def c56r15 : List Seg := [
  .one ⟨some 3, .mv (.c (.int .i64 0)), none⟩]
def c56k15 : ICode := .kill 23 [1] (.ops c56r15)
def c56s16 : ICode := (.seq c56k15 c56s14)
def c56r17 : List Seg := [
  .one ⟨some 1, .box (.t 0), none⟩,
  .one ⟨some 2, .mv (.c (.int .i64 0)), none⟩]
def c56k17 : ICode := .kill 23 [0] (.ops c56r17)
def c56b : ICode := (.seq c56k17 c56s16)
def c56 : IFn := ⟨23, [.t 2], c56b⟩
def h56 : List (Nat × Nat × List Nat) := [(0, (23, [0])), (1, (23, [1])), (2, (23, [1, 3])), (3, (23, [1, 3, 4])), (4, (23, [1, 3, 4, 5])), (6, (23, [1, 3, 4, 5])), (7, (23, [1, 3, 4, 5])), (5, (23, [1, 3, 4, 5])), (8, (23, [3]))]
def c57r0 : List Seg := [
  .one ⟨some 4, .mv (.c (.bool true)), none⟩]
def c57k0 : ICode := .kill 25 [] (.ops c57r0)
def c57s1 : ICode := (.seq c57k0 .ret)
def c57r3 : List Seg := [
  .one ⟨some 18, .mv (.t 6), none⟩,
  .one ⟨some 19, .bin .add (.t 18) (.c (.int .i64 1)), none⟩,
  .one ⟨some 6, .mv (.t 19), none⟩]
def c57k3 : ICode := .kill 25 [5, 6] (.ops c57r3)
def c57r4 : List Seg := [
  .one ⟨some 4, .mv (.c (.bool false)), none⟩]
def c57k4 : ICode := .kill 25 [] (.ops c57r4)
def c57s5 : ICode := (.cond (.t 24) (.seq c57k4 .ret) .skip)
def c57r6 : List Seg := [
  .one ⟨some 20, .mv (.t 5), none⟩,
  .one ⟨some 21, .mv (.t 6), none⟩,
  .one ⟨some 22, .idxS 1 (.t 20) (.t 21), none⟩,
  .one ⟨some 23, .load1 (.t 22), none⟩,
  .one ⟨some 24, .bin .neq (.t 23) (.c (.int .i64 0)), none⟩]
def c57k6 : ICode := .kill 25 [5, 6] (.ops c57r6)
def c57s7 : ICode := (.seq (.block 1 (.seq c57k6 c57s5)) c57k3)
def c57s8 : ICode := (.cond (.t 17) .skip (.exit 0))
def c57r9 : List Seg := [
  .one ⟨some 14, .mv (.t 6), none⟩,
  .one ⟨some 15, .mv (.t 5), none⟩,
  .one ⟨some 16, .len 0 (.t 15), none⟩,
  .one ⟨some 17, .bin .lss (.t 14) (.t 16), none⟩]
def c57k9 : ICode := .kill 25 [5, 6] (.ops c57r9)
def c57l2 : ICode := (.seq (.seq c57k9 c57s8) c57s7)
def c57s10 : ICode := (.block 0 (.loop c57l2))
def c57r11 : List Seg := [
  .one ⟨some 6, .mv (.c (.int .i64 0)), none⟩]
def c57k11 : ICode := .kill 25 [5] (.ops c57r11)
def c57s12 : ICode := (.seq (.seq c57k11 c57s10) c57s1)
def c57r13 : List Seg := [
  .grp [(⟨some 7, .loadN 3 (.t 2), none⟩, 0), (⟨some 8, .mv (.t 1), none⟩, 0), (⟨some 9, .call [] (.c (.func 29 [])) [(.t 7), (.t 8)], none⟩, 3), (⟨some 10, .loadN 3 (.t 2), none⟩, 0), (⟨some 11, .mv (.t 1), none⟩, 0)],
  .one ⟨some 12, .call [] (.c (.func 55 [])) [(.t 10), (.t 11)], none⟩,
  .one ⟨some 13, .app 1 8 (.t 9) (.t 12), none⟩,
  .one ⟨some 5, .mv (.t 13), none⟩]
def c57k13 : ICode := .kill 25 [1, 2] (.ops c57r13)
def c57s14 : ICode := (.seq c57k13 c57s12)
def c57r15 : List Seg := [
  .one ⟨some 2, .box (.t 0), none⟩,
  .one ⟨some 4, .mv (.c (.bool false)), none⟩]
def c57k15 : ICode := .kill 25 [0, 1] (.ops c57r15)
def c57b : ICode := (.seq c57k15 c57s14)
def c57 : IFn := ⟨25, [.t 4], c57b⟩
def h57 : List (Nat × Nat × List Nat) := [(0, (25, [0, 1])), (1, (25, [1, 2])), (2, (25, [5])), (3, (25, [5, 6])), (5, (25, [5, 6])), (6, (25, [])), (4, (25, [5, 6])), (7, (25, []))]
def c58r0 : List Seg := [
  .one ⟨some 2, .mv (.c (.bool true)), none⟩]
def c58k0 : ICode := .kill 163 [] (.ops c58r0)
def c58s1 : ICode := (.seq c58k0 .ret)
def c58r3 : List Seg := [
  .one ⟨some 102, .mv (.t 6), none⟩,
  .one ⟨some 103, .bin .add (.t 102) (.c (.int .i64 1)), none⟩,
  .one ⟨some 6, .mv (.t 103), none⟩]
def c58k3 : ICode := .kill 163 [1, 6] (.ops c58r3)
def c58r4 : List Seg := [
  .one ⟨some 2, .mv (.c (.bool false)), none⟩]
def c58k4 : ICode := .kill 163 [] (.ops c58r4)
def c58s5 : ICode := (.cond (.t 162) (.seq c58k4 .ret) .skip)
def c58r6 : List Seg := [
  .grp [(⟨some 109, .idxA 3 1 (.t 7) (.c (.int .i64 0)), none⟩, 0), (⟨some 110, .load1 (.t 109), none⟩, 1), (⟨some 111, .idxA 3 1 (.t 7) (.c (.int .i64 1)), none⟩, 0), (⟨some 112, .load1 (.t 111), none⟩, 4)],
  .one ⟨some 113, .bin .geq (.t 110) (.t 112), none⟩,
  .one ⟨some 114, .mv (.t 113), none⟩,
  .grp [(⟨some 115, .idxA 3 1 (.t 7) (.c (.int .i64 1)), some (114, false)⟩, 0), (⟨some 116, .load1 (.t 115), some (114, false)⟩, 1), (⟨some 117, .idxA 3 1 (.t 7) (.c (.int .i64 2)), some (114, false)⟩, 0), (⟨some 118, .load1 (.t 117), some (114, false)⟩, 4)],
  .one ⟨some 119, .bin .geq (.t 116) (.t 118), some (114, false)⟩,
  .one ⟨some 120, .pick (.t 114) (.c (.bool true)) (.t 119), none⟩,
  .one ⟨some 121, .mv (.t 120), none⟩,
  .grp [(⟨some 122, .loadN 3 (.t 1), some (121, false)⟩, 0), (⟨some 123, .idxA 3 1 (.t 7) (.c (.int .i64 0)), some (121, false)⟩, 0), (⟨some 124, .load1 (.t 123), some (121, false)⟩, 2), (⟨some 125, .idxA 3 1 (.t 7) (.c (.int .i64 1)), some (121, false)⟩, 0), (⟨some 126, .load1 (.t 125), some (121, false)⟩, 8)],
  .one ⟨some 127, .call [] (.c (.func 60 [])) [(.t 122), (.t 124), (.t 126)], some (121, false)⟩,
  .one ⟨some 128, .bin .lss (.t 127) (.c (.int .i64 0)), some (121, false)⟩,
  .one ⟨some 129, .pick (.t 121) (.c (.bool true)) (.t 128), none⟩,
  .one ⟨some 130, .mv (.t 129), none⟩,
  .grp [(⟨some 131, .loadN 3 (.t 1), some (130, false)⟩, 0), (⟨some 132, .idxA 3 1 (.t 7) (.c (.int .i64 0)), some (130, false)⟩, 0), (⟨some 133, .load1 (.t 132), some (130, false)⟩, 2), (⟨some 134, .idxA 3 1 (.t 7) (.c (.int .i64 2)), some (130, false)⟩, 0), (⟨some 135, .load1 (.t 134), some (130, false)⟩, 8)],
  .one ⟨some 136, .call [] (.c (.func 60 [])) [(.t 131), (.t 133), (.t 135)], some (130, false)⟩,
  .one ⟨some 137, .bin .lss (.t 136) (.c (.int .i64 0)), some (130, false)⟩,
  .one ⟨some 138, .pick (.t 130) (.c (.bool true)) (.t 137), none⟩,
  .one ⟨some 139, .mv (.t 138), none⟩,
  .grp [(⟨some 140, .loadN 3 (.t 1), some (139, false)⟩, 0), (⟨some 141, .idxA 3 1 (.t 7) (.c (.int .i64 1)), some (139, false)⟩, 0), (⟨some 142, .load1 (.t 141), some (139, false)⟩, 2), (⟨some 143, .idxA 3 1 (.t 7) (.c (.int .i64 2)), some (139, false)⟩, 0), (⟨some 144, .load1 (.t 143), some (139, false)⟩, 8)],
  .one ⟨some 145, .call [] (.c (.func 60 [])) [(.t 140), (.t 142), (.t 144)], some (139, false)⟩,
  .one ⟨some 146, .bin .lss (.t 145) (.c (.int .i64 0)), some (139, false)⟩,
  .one ⟨some 147, .pick (.t 139) (.c (.bool true)) (.t 146), none⟩,
  .one ⟨some 148, .mv (.t 147), none⟩,
  .one ⟨some 149, .mv (.t 6), some (148, false)⟩,
  .one ⟨some 150, .bin .gtr (.t 149) (.c (.int .i64 0)), some (148, false)⟩,
  .one ⟨some 151, .mv (.t 150), some (148, false)⟩,
  .grp [(⟨some 152, .fieldA 2 (.t 1), some (151, true)⟩, 0), (⟨some 153, .load1 (.t 152), some (151, true)⟩, 1), (⟨some 154, .mv (.t 6), some (151, true)⟩, 0), (⟨some 155, .bin .sub (.t 154) (.c (.int .i64 1)), some (151, true)⟩, 4), (⟨some 156, .idxS 3 (.t 153) (.t 155), some (151, true)⟩, 15), (⟨some 157, .loadN 3 (.t 156), some (151, true)⟩, 31), (⟨some 158, .loadN 3 (.t 7), some (151, true)⟩, 0)],
  .one ⟨some 159, .call [] (.c (.func 90 [])) [(.t 157), (.t 158)], some (151, true)⟩,
  .one ⟨some 160, .un .not (.t 159), some (151, true)⟩,
  .one ⟨some 161, .pick (.t 151) (.t 160) (.c (.bool false)), some (148, false)⟩,
  .one ⟨some 162, .pick (.t 148) (.c (.bool true)) (.t 161), none⟩]
def c58k6 : ICode := .kill 163 [1, 6, 7] (.ops c58r6)
def c58s7 : ICode := (.seq c58k6 c58s5)
def c58r8 : List Seg := [
  .one ⟨some 104, .fieldA 2 (.t 1), none⟩,
  .one ⟨some 105, .load1 (.t 104), none⟩,
  .one ⟨some 106, .mv (.t 6), none⟩,
  .one ⟨some 107, .idxS 3 (.t 105) (.t 106), none⟩,
  .one ⟨some 108, .loadN 3 (.t 107), none⟩,
  .one ⟨some 7, .box (.c (.agg [.int .i64 0, .int .i64 0, .int .i64 0])), none⟩,
  .one ⟨none, .storeN 3 (.t 7) (.t 108), none⟩]
def c58k8 : ICode := .kill 163 [1, 6] (.ops c58r8)
def c58s9 : ICode := (.seq (.block 3 (.seq c58k8 c58s7)) c58k3)
def c58s10 : ICode := (.cond (.t 101) .skip (.exit 2))
def c58r11 : List Seg := [
  .one ⟨some 97, .mv (.t 6), none⟩,
  .one ⟨some 98, .fieldA 2 (.t 1), none⟩,
  .one ⟨some 99, .load1 (.t 98), none⟩,
  .one ⟨some 100, .len 0 (.t 99), none⟩,
  .one ⟨some 101, .bin .lss (.t 97) (.t 100), none⟩]
def c58k11 : ICode := .kill 163 [1, 6] (.ops c58r11)
def c58l2 : ICode := (.seq (.seq c58k11 c58s10) c58s9)
def c58s12 : ICode := (.block 2 (.loop c58l2))
def c58r13 : List Seg := [
  .one ⟨some 6, .mv (.c (.int .i64 0)), none⟩]
def c58k13 : ICode := .kill 163 [1] (.ops c58r13)
def c58s14 : ICode := (.seq (.seq c58k13 c58s12) c58s1)
def c58r16 : List Seg := [
  .one ⟨some 33, .mv (.t 3), none⟩,
  .one ⟨some 34, .bin .add (.t 33) (.c (.int .i64 1)), none⟩,
  .one ⟨some 3, .mv (.t 34), none⟩]
def c58k16 : ICode := .kill 163 [1, 3] (.ops c58r16)
def c58r17 : List Seg := [
  .one ⟨some 2, .mv (.c (.bool false)), none⟩]
def c58k17 : ICode := .kill 163 [] (.ops c58r17)
def c58s18 : ICode := (.cond (.t 96) (.seq c58k17 .ret) .skip)
def c58r19 : List Seg := [
  .one ⟨some 47, .mv (.t 4), none⟩,
  .one ⟨some 48, .bin .lss (.t 47) (.c (.int .i64 0)), none⟩,
  .one ⟨some 49, .mv (.t 48), none⟩,
  .one ⟨some 50, .mv (.t 4), some (49, false)⟩,
  .one ⟨some 51, .mv (.t 5), some (49, false)⟩,
  .one ⟨some 52, .bin .geq (.t 50) (.t 51), some (49, false)⟩,
  .one ⟨some 53, .pick (.t 49) (.c (.bool true)) (.t 52), none⟩,
  .one ⟨some 54, .mv (.t 53), none⟩,
  .one ⟨some 55, .mv (.t 5), some (54, false)⟩,
  .one ⟨some 56, .fieldA 0 (.t 1), some (54, false)⟩,
  .one ⟨some 57, .load1 (.t 56), some (54, false)⟩,
  .one ⟨some 58, .bin .geq (.t 55) (.t 57), some (54, false)⟩,
  .one ⟨some 59, .pick (.t 54) (.c (.bool true)) (.t 58), none⟩,
  .one ⟨some 60, .mv (.t 59), none⟩,
  .one ⟨some 61, .mv (.t 3), some (60, false)⟩,
  .one ⟨some 62, .bin .gtr (.t 61) (.c (.int .i64 0)), some (60, false)⟩,
  .one ⟨some 63, .mv (.t 62), some (60, false)⟩,
  .one ⟨some 64, .fieldA 1 (.t 1), some (63, true)⟩,
  .one ⟨some 65, .load1 (.t 64), some (63, true)⟩,
  .one ⟨some 66, .mv (.t 3), some (63, true)⟩,
  .one ⟨some 67, .bin .sub (.t 66) (.c (.int .i64 1)), some (63, true)⟩,
  .one ⟨some 68, .idxS 2 (.t 65) (.t 67), some (63, true)⟩,
  .one ⟨some 69, .idxA 2 1 (.t 68) (.c (.int .i64 0)), some (63, true)⟩,
  .one ⟨some 70, .load1 (.t 69), some (63, true)⟩,
  .one ⟨some 71, .mv (.t 4), some (63, true)⟩,
  .one ⟨some 72, .bin .gtr (.t 70) (.t 71), some (63, true)⟩,
  .one ⟨some 73, .mv (.t 72), some (63, true)⟩,
  .one ⟨some 74, .fieldA 1 (.t 1), some (73, false)⟩,
  .one ⟨some 75, .load1 (.t 74), some (73, false)⟩,
  .one ⟨some 76, .mv (.t 3), some (73, false)⟩,
  .one ⟨some 77, .bin .sub (.t 76) (.c (.int .i64 1)), some (73, false)⟩,
  .one ⟨some 78, .idxS 2 (.t 75) (.t 77), some (73, false)⟩,
  .one ⟨some 79, .idxA 2 1 (.t 78) (.c (.int .i64 0)), some (73, false)⟩,
  .one ⟨some 80, .load1 (.t 79), some (73, false)⟩,
  .one ⟨some 81, .mv (.t 4), some (73, false)⟩,
  .one ⟨some 82, .bin .eql (.t 80) (.t 81), some (73, false)⟩,
  .one ⟨some 83, .mv (.t 82), some (73, false)⟩,
  .one ⟨some 84, .fieldA 1 (.t 1), some (83, true)⟩,
  .one ⟨some 85, .load1 (.t 84), some (83, true)⟩,
  .one ⟨some 86, .mv (.t 3), some (83, true)⟩,
  .one ⟨some 87, .bin .sub (.t 86) (.c (.int .i64 1)), some (83, true)⟩,
  .one ⟨some 88, .idxS 2 (.t 85) (.t 87), some (83, true)⟩,
  .one ⟨some 89, .idxA 2 1 (.t 88) (.c (.int .i64 1)), some (83, true)⟩,
  .one ⟨some 90, .load1 (.t 89), some (83, true)⟩,
  .one ⟨some 91, .mv (.t 5), some (83, true)⟩,
  .one ⟨some 92, .bin .geq (.t 90) (.t 91), some (83, true)⟩,
  .one ⟨some 93, .pick (.t 83) (.t 92) (.c (.bool false)), some (73, false)⟩,
  .one ⟨some 94, .pick (.t 73) (.c (.bool true)) (.t 93), some (63, true)⟩,
  .one ⟨some 95, .pick (.t 63) (.t 94) (.c (.bool false)), some (60, false)⟩,
  .one ⟨some 96, .pick (.t 60) (.c (.bool true)) (.t 95), none⟩]
def c58k19 : ICode := .kill 163 [1, 3, 4, 5] (.ops c58r19)
def c58s20 : ICode := (.seq c58k19 c58s18)
def c58r21 : List Seg := [
  .grp [(⟨some 35, .fieldA 1 (.t 1), none⟩, 0), (⟨some 36, .load1 (.t 35), none⟩, 1), (⟨some 37, .mv (.t 3), none⟩, 0), (⟨some 38, .idxS 2 (.t 36) (.t 37), none⟩, 7), (⟨some 39, .idxA 2 1 (.t 38) (.c (.int .i64 0)), none⟩, 15), (⟨some 40, .load1 (.t 39), none⟩, 31), (⟨some 41, .fieldA 1 (.t 1), none⟩, 0), (⟨some 42, .load1 (.t 41), none⟩, 64), (⟨some 43, .mv (.t 3), none⟩, 0), (⟨some 44, .idxS 2 (.t 42) (.t 43), none⟩, 448), (⟨some 45, .idxA 2 1 (.t 44) (.c (.int .i64 1)), none⟩, 960), (⟨some 46, .load1 (.t 45), none⟩, 1984), (⟨some 4, .mv (.t 40), none⟩, 63)],
  .one ⟨some 5, .mv (.t 46), none⟩]
def c58k21 : ICode := .kill 163 [1, 3] (.ops c58r21)
def c58s22 : ICode := (.seq (.block 1 (.seq c58k21 c58s20)) c58k16)
def c58s23 : ICode := (.cond (.t 32) .skip (.exit 0))
def c58r24 : List Seg := [
  .one ⟨some 28, .mv (.t 3), none⟩,
  .one ⟨some 29, .fieldA 1 (.t 1), none⟩,
  .one ⟨some 30, .load1 (.t 29), none⟩,
  .one ⟨some 31, .len 0 (.t 30), none⟩,
  .one ⟨some 32, .bin .lss (.t 28) (.t 31), none⟩]
def c58k24 : ICode := .kill 163 [1, 3] (.ops c58r24)
def c58l15 : ICode := (.seq (.seq c58k24 c58s23) c58s22)
def c58s25 : ICode := (.block 0 (.loop c58l15))
def c58r26 : List Seg := [
  .one ⟨some 3, .mv (.c (.int .i64 0)), none⟩]
def c58k26 : ICode := .kill 163 [1] (.ops c58r26)
def c58s27 : ICode := (.seq (.seq c58k26 c58s25) c58s14)
def c58r28 : List Seg := [
  .one ⟨some 2, .mv (.c (.bool false)), none⟩]
def c58k28 : ICode := .kill 163 [] (.ops c58r28)
def c58s29 : ICode := (.cond (.t 27) (.seq c58k28 .ret) .skip)
def c58r30 : List Seg := [
  .one ⟨some 8, .fieldA 0 (.t 1), none⟩,
  .one ⟨some 9, .load1 (.t 8), none⟩,
  .one ⟨some 10, .bin .lss (.t 9) (.c (.int .i64 1)), none⟩,
  .one ⟨some 11, .mv (.t 10), none⟩,
  .one ⟨some 12, .fieldA 0 (.t 1), some (11, false)⟩,
  .one ⟨some 13, .load1 (.t 12), some (11, false)⟩,
  .one ⟨some 14, .bin .gtr (.t 13) (.c (.int .i64 6)), some (11, false)⟩,
  .one ⟨some 15, .pick (.t 11) (.c (.bool true)) (.t 14), none⟩,
  .one ⟨some 16, .mv (.t 15), none⟩,
  .one ⟨some 17, .fieldA 1 (.t 1), some (16, false)⟩,
  .one ⟨some 18, .load1 (.t 17), some (16, false)⟩,
  .one ⟨some 19, .len 0 (.t 18), some (16, false)⟩,
  .one ⟨some 20, .bin .gtr (.t 19) (.c (.int .i64 10)), some (16, false)⟩,
  .one ⟨some 21, .pick (.t 16) (.c (.bool true)) (.t 20), none⟩,
  .one ⟨some 22, .mv (.t 21), none⟩,
  .one ⟨some 23, .fieldA 2 (.t 1), some (22, false)⟩,
  .one ⟨some 24, .load1 (.t 23), some (22, false)⟩,
  .one ⟨some 25, .len 0 (.t 24), some (22, false)⟩,
  .one ⟨some 26, .bin .gtr (.t 25) (.c (.int .i64 6)), some (22, false)⟩,
  .one ⟨some 27, .pick (.t 22) (.c (.bool true)) (.t 26), none⟩]
def c58k30 : ICode := .kill 163 [1] (.ops c58r30)
def c58s31 : ICode := (.seq (.seq c58k30 c58s29) c58s27)
def c58r32 : List Seg := [
  .one ⟨some 1, .box (.t 0), none⟩,
  .one ⟨some 2, .mv (.c (.bool false)), none⟩]
def c58k32 : ICode := .kill 163 [0] (.ops c58r32)
def c58b : ICode := (.seq c58k32 c58s31)
def c58 : IFn := ⟨163, [.t 2], c58b⟩
def h58 : List (Nat × Nat × List Nat) := [(0, (163, [0])), (1, (163, [1])), (2, (163, [])), (3, (163, [1])), (4, (163, [1, 3])), (6, (163, [1, 3])), (7, (163, [1, 3, 4, 5])), (8, (163, [])), (5, (163, [1, 3])), (9, (163, [1])), (10, (163, [1, 6])), (12, (163, [1, 6])), (13, (163, [1, 6, 7])), (14, (163, [])), (11, (163, [1, 6])), (15, (163, []))]
def c59r0 : List Seg := [
  .one ⟨some 2, .mv (.c (.int .i64 0)), none⟩]
def c59k0 : ICode := .kill 133 [] (.ops c59r0)
def c59s1 : ICode := (.seq c59k0 .ret)
def c59r3 : List Seg := [
  .one ⟨some 132, .bin .add (.t 73) (.c (.int .i64 1)), none⟩,
  .one ⟨some 73, .mv (.t 132), none⟩]
def c59k3 : ICode := .kill 133 [1, 71, 72, 73] (.ops c59r3)
def c59r5 : List Seg := [
  .one ⟨some 131, .bin .add (.t 122) (.c (.int .i64 1)), none⟩,
  .one ⟨some 122, .mv (.t 131), none⟩]
def c59k5 : ICode := .kill 133 [1, 71, 72, 73, 120, 121, 122] (.ops c59r5)
def c59r6 : List Seg := [
  .one ⟨some 2, .mv (.c (.int .i64 30)), none⟩]
def c59k6 : ICode := .kill 133 [] (.ops c59r6)
def c59s7 : ICode := (.cond (.t 130) (.seq c59k6 .ret) .skip)
def c59r8 : List Seg := [
  .one ⟨some 126, .fieldA 1 (.t 1), none⟩,
  .one ⟨some 127, .load1 (.t 126), none⟩,
  .one ⟨some 128, .loadN 2 (.t 8), none⟩,
  .one ⟨some 129, .call [] (.c (.func 92 [])) [(.t 127), (.t 128)], none⟩,
  .one ⟨some 130, .un .not (.t 129), none⟩]
def c59k8 : ICode := .kill 133 [1, 8, 71, 72, 73, 120, 121, 122] (.ops c59r8)
def c59s9 : ICode := (.seq c59k8 c59s7)
def c59r10 : List Seg := [
  .one ⟨some 124, .idxS 2 (.t 120) (.t 122), none⟩,
  .one ⟨some 125, .loadN 2 (.t 124), none⟩,
  .one ⟨some 8, .box (.c (.agg [.int .i64 0, .int .i64 0])), none⟩,
  .one ⟨none, .storeN 2 (.t 8) (.t 125), none⟩]
def c59k10 : ICode := .kill 133 [1, 71, 72, 73, 120, 121, 122] (.ops c59r10)
def c59s11 : ICode := (.seq (.block 5 (.seq c59k10 c59s9)) c59k5)
def c59s12 : ICode := (.seq (.cond (.t 123) .skip (.exit 4)) c59s11)
def c59r13 : List Seg := [
  .one ⟨some 123, .bin .lss (.t 122) (.t 121), none⟩]
def c59k13 : ICode := .kill 133 [1, 71, 72, 73, 120, 121, 122] (.ops c59r13)
def c59l4 : ICode := (.seq c59k13 c59s12)
def c59s14 : ICode := (.block 4 (.loop c59l4))
def c59r15 : List Seg := [
  .one ⟨some 105, .idxA 3 1 (.t 6) (.c (.int .i64 0)), none⟩,
  .one ⟨some 106, .load1 (.t 105), none⟩,
  .one ⟨some 107, .idxA 3 1 (.t 6) (.c (.int .i64 1)), none⟩,
  .one ⟨some 108, .load1 (.t 107), none⟩,
  .one ⟨some 109, .mkagg [.int .i64 0, .int .i64 0] [(0, 1, (.t 106)), (1, 1, (.t 108))], none⟩,
  .one ⟨some 110, .idxA 3 1 (.t 6) (.c (.int .i64 0)), none⟩,
  .one ⟨some 111, .load1 (.t 110), none⟩,
  .one ⟨some 112, .idxA 3 1 (.t 6) (.c (.int .i64 2)), none⟩,
  .one ⟨some 113, .load1 (.t 112), none⟩,
  .one ⟨some 114, .mkagg [.int .i64 0, .int .i64 0] [(0, 1, (.t 111)), (1, 1, (.t 113))], none⟩,
  .one ⟨some 115, .idxA 3 1 (.t 6) (.c (.int .i64 1)), none⟩,
  .one ⟨some 116, .load1 (.t 115), none⟩,
  .one ⟨some 117, .idxA 3 1 (.t 6) (.c (.int .i64 2)), none⟩,
  .one ⟨some 118, .load1 (.t 117), none⟩,
  .one ⟨some 119, .mkagg [.int .i64 0, .int .i64 0] [(0, 1, (.t 116)), (1, 1, (.t 118))], none⟩,
  .one ⟨some 120, .mkslice 3 [.int .i64 0, .int .i64 0, .int .i64 0, .int .i64 0, .int .i64 0, .int .i64 0] [(0, 2, (.t 109)), (2, 2, (.t 114)), (4, 2, (.t 119))], none⟩,
  .one ⟨some 121, .len 0 (.t 120), none⟩,
  .one ⟨some 122, .mv (.c (.int .i64 0)), none⟩]
def c59k15 : ICode := .kill 133 [1, 6, 71, 72, 73] (.ops c59r15)
def c59s16 : ICode := (.seq c59k15 c59s14)
def c59r17 : List Seg := [
  .one ⟨some 2, .mv (.c (.int .i64 30)), none⟩]
def c59k17 : ICode := .kill 133 [] (.ops c59r17)
def c59s18 : ICode := (.cond (.t 104) (.seq c59k17 .ret) .skip)
def c59r19 : List Seg := [
  .grp [(⟨some 78, .idxA 3 1 (.t 6) (.c (.int .i64 0)), none⟩, 0), (⟨some 79, .load1 (.t 78), none⟩, 1), (⟨some 80, .idxA 3 1 (.t 6) (.c (.int .i64 1)), none⟩, 0), (⟨some 81, .load1 (.t 80), none⟩, 4)],
  .one ⟨some 82, .bin .geq (.t 79) (.t 81), none⟩,
  .one ⟨some 83, .mv (.t 82), none⟩,
  .grp [(⟨some 84, .idxA 3 1 (.t 6) (.c (.int .i64 1)), some (83, false)⟩, 0), (⟨some 85, .load1 (.t 84), some (83, false)⟩, 1), (⟨some 86, .idxA 3 1 (.t 6) (.c (.int .i64 2)), some (83, false)⟩, 0), (⟨some 87, .load1 (.t 86), some (83, false)⟩, 4)],
  .one ⟨some 88, .bin .geq (.t 85) (.t 87), some (83, false)⟩,
  .one ⟨some 89, .pick (.t 83) (.c (.bool true)) (.t 88), none⟩,
  .one ⟨some 90, .mv (.t 89), none⟩,
  .one ⟨some 91, .mv (.t 5), some (90, false)⟩,
  .one ⟨some 92, .bin .gtr (.t 91) (.c (.int .i64 0)), some (90, false)⟩,
  .one ⟨some 93, .mv (.t 92), some (90, false)⟩,
  .grp [(⟨some 94, .fieldA 2 (.t 1), some (93, true)⟩, 0), (⟨some 95, .load1 (.t 94), some (93, true)⟩, 1), (⟨some 96, .mv (.t 5), some (93, true)⟩, 0), (⟨some 97, .bin .sub (.t 96) (.c (.int .i64 1)), some (93, true)⟩, 4), (⟨some 98, .idxS 3 (.t 95) (.t 97), some (93, true)⟩, 15), (⟨some 99, .sliceA 3 1 (.t 98) none none none, some (93, true)⟩, 31), (⟨some 100, .sliceA 3 1 (.t 6) none none none, some (93, true)⟩, 0)],
  .one ⟨some 101, .call [] (.c (.func 91 [])) [(.t 99), (.t 100)], some (93, true)⟩,
  .one ⟨some 102, .bin .geq (.t 101) (.c (.int .i64 0)), some (93, true)⟩,
  .one ⟨some 103, .pick (.t 93) (.t 102) (.c (.bool false)), some (90, false)⟩,
  .one ⟨some 104, .pick (.t 90) (.c (.bool true)) (.t 103), none⟩]
def c59k19 : ICode := .kill 133 [1, 5, 6, 71, 72, 73] (.ops c59r19)
def c59s20 : ICode := (.seq (.seq c59k19 c59s18) c59s16)
def c59r21 : List Seg := [
  .one ⟨some 75, .mv (.t 73), none⟩,
  .one ⟨some 76, .idxS 3 (.t 71) (.t 73), none⟩,
  .one ⟨some 77, .loadN 3 (.t 76), none⟩,
  .one ⟨some 6, .box (.c (.agg [.int .i64 0, .int .i64 0, .int .i64 0])), none⟩,
  .one ⟨some 5, .mv (.t 75), none⟩,
  .one ⟨none, .storeN 3 (.t 6) (.t 77), none⟩]
def c59k21 : ICode := .kill 133 [1, 71, 72, 73] (.ops c59r21)
def c59s22 : ICode := (.seq (.block 3 (.seq c59k21 c59s20)) c59k3)
def c59s23 : ICode := (.seq (.cond (.t 74) .skip (.exit 2)) c59s22)
def c59r24 : List Seg := [
  .one ⟨some 74, .bin .lss (.t 73) (.t 72), none⟩]
def c59k24 : ICode := .kill 133 [1, 71, 72, 73] (.ops c59r24)
def c59l2 : ICode := (.seq c59k24 c59s23)
def c59s25 : ICode := (.block 2 (.loop c59l2))
def c59r26 : List Seg := [
  .one ⟨some 70, .fieldA 2 (.t 1), none⟩,
  .one ⟨some 71, .load1 (.t 70), none⟩,
  .one ⟨some 72, .len 0 (.t 71), none⟩,
  .one ⟨some 73, .mv (.c (.int .i64 0)), none⟩]
def c59k26 : ICode := .kill 133 [1] (.ops c59r26)
def c59s27 : ICode := (.seq (.seq c59k26 c59s25) c59s1)
def c59r29 : List Seg := [
  .one ⟨some 69, .bin .add (.t 32) (.c (.int .i64 1)), none⟩,
  .one ⟨some 32, .mv (.t 69), none⟩]
def c59k29 : ICode := .kill 133 [1, 30, 31, 32] (.ops c59r29)
def c59r30 : List Seg := [
  .one ⟨some 2, .mv (.c (.int .i64 30)), none⟩]
def c59k30 : ICode := .kill 133 [] (.ops c59r30)
def c59s31 : ICode := (.cond (.t 68) (.seq c59k30 .ret) .skip)
def c59r32 : List Seg := [
  .one ⟨some 37, .idxA 2 1 (.t 4) (.c (.int .i64 0)), none⟩,
  .one ⟨some 38, .load1 (.t 37), none⟩,
  .one ⟨some 39, .bin .lss (.t 38) (.c (.int .i64 0)), none⟩,
  .one ⟨some 40, .mv (.t 39), none⟩,
  .grp [(⟨some 41, .idxA 2 1 (.t 4) (.c (.int .i64 0)), some (40, false)⟩, 0), (⟨some 42, .load1 (.t 41), some (40, false)⟩, 1), (⟨some 43, .idxA 2 1 (.t 4) (.c (.int .i64 1)), some (40, false)⟩, 0), (⟨some 44, .load1 (.t 43), some (40, false)⟩, 4)],
  .one ⟨some 45, .bin .geq (.t 42) (.t 44), some (40, false)⟩,
  .one ⟨some 46, .pick (.t 40) (.c (.bool true)) (.t 45), none⟩,
  .one ⟨some 47, .mv (.t 46), none⟩,
  .grp [(⟨some 48, .idxA 2 1 (.t 4) (.c (.int .i64 1)), some (47, false)⟩, 0), (⟨some 49, .load1 (.t 48), some (47, false)⟩, 1), (⟨some 50, .fieldA 0 (.t 1), some (47, false)⟩, 0), (⟨some 51, .load1 (.t 50), some (47, false)⟩, 4)],
  .one ⟨some 52, .bin .geq (.t 49) (.t 51), some (47, false)⟩,
  .one ⟨some 53, .pick (.t 47) (.c (.bool true)) (.t 52), none⟩,
  .one ⟨some 54, .mv (.t 53), none⟩,
  .one ⟨some 55, .mv (.t 3), some (54, false)⟩,
  .one ⟨some 56, .bin .gtr (.t 55) (.c (.int .i64 0)), some (54, false)⟩,
  .one ⟨some 57, .mv (.t 56), some (54, false)⟩,
  .grp [(⟨some 58, .fieldA 1 (.t 1), some (57, true)⟩, 0), (⟨some 59, .load1 (.t 58), some (57, true)⟩, 1), (⟨some 60, .mv (.t 3), some (57, true)⟩, 0), (⟨some 61, .bin .sub (.t 60) (.c (.int .i64 1)), some (57, true)⟩, 4), (⟨some 62, .idxS 2 (.t 59) (.t 61), some (57, true)⟩, 15), (⟨some 63, .sliceA 2 1 (.t 62) none none none, some (57, true)⟩, 31), (⟨some 64, .sliceA 2 1 (.t 4) none none none, some (57, true)⟩, 0)],
  .one ⟨some 65, .call [] (.c (.func 91 [])) [(.t 63), (.t 64)], some (57, true)⟩,
  .one ⟨some 66, .bin .geq (.t 65) (.c (.int .i64 0)), some (57, true)⟩,
  .one ⟨some 67, .pick (.t 57) (.t 66) (.c (.bool false)), some (54, false)⟩,
  .one ⟨some 68, .pick (.t 54) (.c (.bool true)) (.t 67), none⟩]
def c59k32 : ICode := .kill 133 [1, 3, 4, 30, 31, 32] (.ops c59r32)
def c59s33 : ICode := (.seq c59k32 c59s31)
def c59r34 : List Seg := [
  .one ⟨some 34, .mv (.t 32), none⟩,
  .one ⟨some 35, .idxS 2 (.t 30) (.t 32), none⟩,
  .one ⟨some 36, .loadN 2 (.t 35), none⟩,
  .one ⟨some 4, .box (.c (.agg [.int .i64 0, .int .i64 0])), none⟩,
  .one ⟨some 3, .mv (.t 34), none⟩,
  .one ⟨none, .storeN 2 (.t 4) (.t 36), none⟩]
def c59k34 : ICode := .kill 133 [1, 30, 31, 32] (.ops c59r34)
def c59s35 : ICode := (.seq (.block 1 (.seq c59k34 c59s33)) c59k29)
def c59s36 : ICode := (.seq (.cond (.t 33) .skip (.exit 0)) c59s35)
def c59r37 : List Seg := [
  .one ⟨some 33, .bin .lss (.t 32) (.t 31), none⟩]
def c59k37 : ICode := .kill 133 [1, 30, 31, 32] (.ops c59r37)
def c59l28 : ICode := (.seq c59k37 c59s36)
def c59s38 : ICode := (.block 0 (.loop c59l28))
def c59r39 : List Seg := [
  .one ⟨some 29, .fieldA 1 (.t 1), none⟩,
  .one ⟨some 30, .load1 (.t 29), none⟩,
  .one ⟨some 31, .len 0 (.t 30), none⟩,
  .one ⟨some 32, .mv (.c (.int .i64 0)), none⟩]
def c59k39 : ICode := .kill 133 [1] (.ops c59r39)
def c59s40 : ICode := (.seq (.seq c59k39 c59s38) c59s27)
def c59r41 : List Seg := [
  .one ⟨some 2, .mv (.c (.int .i64 30)), none⟩]
def c59k41 : ICode := .kill 133 [] (.ops c59r41)
def c59s42 : ICode := (.cond (.t 28) (.seq c59k41 .ret) .skip)
def c59r43 : List Seg := [
  .one ⟨some 9, .fieldA 0 (.t 1), none⟩,
  .one ⟨some 10, .load1 (.t 9), none⟩,
  .one ⟨some 11, .bin .lss (.t 10) (.c (.int .i64 1)), none⟩,
  .one ⟨some 12, .mv (.t 11), none⟩,
  .one ⟨some 13, .fieldA 0 (.t 1), some (12, false)⟩,
  .one ⟨some 14, .load1 (.t 13), some (12, false)⟩,
  .one ⟨some 15, .bin .gtr (.t 14) (.c (.int .i64 6)), some (12, false)⟩,
  .one ⟨some 16, .pick (.t 12) (.c (.bool true)) (.t 15), none⟩,
  .one ⟨some 17, .mv (.t 16), none⟩,
  .one ⟨some 18, .fieldA 1 (.t 1), some (17, false)⟩,
  .one ⟨some 19, .load1 (.t 18), some (17, false)⟩,
  .one ⟨some 20, .len 0 (.t 19), some (17, false)⟩,
  .one ⟨some 21, .bin .gtr (.t 20) (.c (.int .i64 10)), some (17, false)⟩,
  .one ⟨some 22, .pick (.t 17) (.c (.bool true)) (.t 21), none⟩,
  .one ⟨some 23, .mv (.t 22), none⟩,
  .one ⟨some 24, .fieldA 2 (.t 1), some (23, false)⟩,
  .one ⟨some 25, .load1 (.t 24), some (23, false)⟩,
  .one ⟨some 26, .len 0 (.t 25), some (23, false)⟩,
  .one ⟨some 27, .bin .gtr (.t 26) (.c (.int .i64 6)), some (23, false)⟩,
  .one ⟨some 28, .pick (.t 23) (.c (.bool true)) (.t 27), none⟩]
def c59k43 : ICode := .kill 133 [1] (.ops c59r43)
def c59s44 : ICode := (.seq (.seq c59k43 c59s42) c59s40)
def c59r45 : List Seg := [
  .one ⟨some 1, .box (.t 0), none⟩,
  .one ⟨some 2, .mv (.c (.int .i64 0)), none⟩]
def c59k45 : ICode := .kill 133 [0] (.ops c59r45)
def c59b : ICode := (.seq c59k45 c59s44)
def c59 : IFn := ⟨133, [.t 2], c59b⟩
def h59 : List (Nat × Nat × List Nat) := [(0, (133, [0])), (1, (133, [1])), (2, (133, [])), (3, (133, [1])), (4, (133, [1, 30, 31, 32])), (5, (133, [1, 30, 31, 32])), (6, (133, [1, 3, 4, 30, 31, 32])), (7, (133, [])), (8, (133, [1, 30, 31, 32])), (9, (133, [1])), (10, (133, [1, 71, 72, 73])), (11, (133, [1, 71, 72, 73])), (12, (133, [1, 5, 6, 71, 72, 73])), (13, (133, [])), (14, (133, [1, 6, 71, 72, 73])), (15, (133, [1, 71, 72, 73, 120, 121, 122])), (16, (133, [1, 71, 72, 73, 120, 121, 122])), (17, (133, [1, 8, 71, 72, 73, 120, 121, 122])), (18, (133, [])), (19, (133, [1, 71, 72, 73, 120, 121, 122])), (20, (133, [1, 71, 72, 73])), (21, (133, []))]
end Go.Abs

