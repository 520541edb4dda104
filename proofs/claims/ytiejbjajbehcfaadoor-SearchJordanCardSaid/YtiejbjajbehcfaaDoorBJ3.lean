/- The texts that the row uses, part 3. -/
import Derived.Test.YtiejbjajbehcfaaDoorBJ2
import Derived.AtR
import Derived.Orders
import Derived.KernelRfl
import Derived.Laws.Cells
import Derived.Laws.CopyRow
import Derived.Laws.Append
import Derived.Laws.AppendOwn
import Derived.Laws.Entries
import Derived.ArgAppend
import Derived.ChangeKeysEq
import Derived.WideLaws
import Derived.Laws.Small
import Derived.Laws.StructEq
import Derived.Laws.Cover3
import Derived.Laws.Tables
import Derived.Laws.Rows
import Derived.Below
import Derived.Laws.IdiomCopy
import Derived.RangeFuncNested
import Derived.Test.YtiejbjajbehcfaaDoorProg
import Derived.Test.YtiejbjajbehcfaaDoorRows
import Derived.ProofKit
import Derived.LaidMore
import Derived.OpenShut
import Derived.Stop.Joined
import Derived.ChangeSlices
import Derived.SizedLaws
import Derived.SevenTiedAt
import Derived.WalkKit
import Derived.ShutString
import Derived.ChangeOld
import Derived.Carry
set_option linter.unusedVariables false
set_option maxRecDepth 20000
set_option maxHeartbeats 4000000
namespace Go.Abs
def c16r0 : List Seg := [
  .one ⟨some 16, .mv (.t 0), none⟩,
  .one ⟨some 17, .mv (.t 1), none⟩,
  .one ⟨some 18, .call (.c (.func 56 [])) [(.t 16), (.t 17)], none⟩,
  .one ⟨some 4, .mv (.t 18), none⟩,
  .one ⟨some 5, .mv (.c (.int .i64 0)), none⟩]
def c16k0 : ICode := .kill (dead 19 [0, 1]) (.ops c16r0)
def c16s1 : ICode := (.seq c16k0 .ret)
def c16r2 : List Seg := [
  .one ⟨some 4, .mv (.c (.int .i64 0)), none⟩,
  .one ⟨some 5, .mv (.c (.int .i64 1)), none⟩]
def c16k2 : ICode := .kill (dead 19 []) (.ops c16r2)
def c16s3 : ICode := (.cond (.t 15) (.seq c16k2 .ret) .skip)
def c16r4 : List Seg := [
  .one ⟨some 6, .mv (.t 0), none⟩,
  .one ⟨some 7, .mkslice 1 [.int .i64 0] [(0, 1, (.t 6))], none⟩,
  .one ⟨some 8, .call (.c (.func 55 [])) [(.c (.int .i64 0)), (.c (.int .i64 20)), (.t 7)], none⟩,
  .one ⟨some 9, .un .not (.t 8), none⟩,
  .one ⟨some 10, .mv (.t 9), none⟩,
  .one ⟨some 11, .mv (.t 1), some (10, false)⟩,
  .one ⟨some 12, .mkslice 1 [.int .i64 0] [(0, 1, (.t 11))], some (10, false)⟩,
  .one ⟨some 13, .call (.c (.func 55 [])) [(.c (.int .i64 0)), (.c (.int .i64 60)), (.t 12)], some (10, false)⟩,
  .one ⟨some 14, .un .not (.t 13), some (10, false)⟩,
  .one ⟨some 15, .pick (.t 10) (.c (.bool true)) (.t 14), none⟩]
def c16k4 : ICode := .kill (dead 19 [0, 1]) (.ops c16r4)
def c16s5 : ICode := (.seq (.seq c16k4 c16s3) c16s1)
def c16r6 : List Seg := [
  .one ⟨some 4, .mv (.c (.int .i64 0)), none⟩,
  .one ⟨some 5, .mv (.c (.int .i64 0)), none⟩]
def c16k6 : ICode := .kill (dead 19 [0, 1]) (.ops c16r6)
def c16b : ICode := (.seq c16k6 c16s5)
def c16 : IFn := ⟨19, [.t 4, .t 5], c16b⟩
def h16 : List (Nat × List Nat) := [(0, dead 19 [0, 1]), (1, dead 19 [0, 1]), (2, dead 19 []), (3, dead 19 [0, 1])]
def c17r0 : List Seg := [
  .one ⟨some 35, .mv (.t 5), none⟩,
  .one ⟨some 36, .mv (.t 0), none⟩,
  .one ⟨some 37, .idxS 1 (.t 35) (.t 36), none⟩,
  .one ⟨some 38, .load1 (.t 37), none⟩,
  .one ⟨some 4, .mv (.t 38), none⟩]
def c17k0 : ICode := .kill (dead 39 [0, 5]) (.ops c17r0)
def c17s1 : ICode := (.seq c17k0 .ret)
def c17r3 : List Seg := [
  .one ⟨some 14, .mv (.t 6), none⟩,
  .one ⟨some 15, .bin .add (.t 14) (.c (.int .i64 1)), none⟩,
  .one ⟨some 6, .mv (.t 15), none⟩]
def c17k3 : ICode := .kill (dead 39 [0, 1, 5, 6]) (.ops c17r3)
def c17r5 : List Seg := [
  .one ⟨some 19, .mv (.t 7), none⟩,
  .one ⟨some 20, .bin .sub (.t 19) (.c (.int .i64 1)), none⟩,
  .one ⟨some 7, .mv (.t 20), none⟩]
def c17k5 : ICode := .kill (dead 39 [0, 1, 5, 6, 7]) (.ops c17r5)
def c17r6 : List Seg := [
  .grp [(⟨some 21, .mv (.t 5), none⟩, 0), (⟨some 22, .mv (.t 7), none⟩, 0), (⟨some 23, .mv (.t 5), none⟩, 0), (⟨some 24, .mv (.t 7), none⟩, 0), (⟨some 25, .idxS 1 (.t 23) (.t 24), none⟩, 12), (⟨some 26, .load1 (.t 25), none⟩, 28), (⟨some 27, .bin .add (.t 26) (.c (.int .i64 1)), none⟩, 60), (⟨some 28, .mv (.t 5), none⟩, 0), (⟨some 29, .mv (.t 7), none⟩, 0), (⟨some 30, .bin .sub (.t 29) (.c (.int .i64 1)), none⟩, 256), (⟨some 31, .idxS 1 (.t 28) (.t 30), none⟩, 896), (⟨some 32, .load1 (.t 31), none⟩, 1920), (⟨some 33, .bin .add (.t 27) (.t 32), none⟩, 4092)],
  .one ⟨some 34, .idxS 1 (.t 21) (.t 22), none⟩,
  .one ⟨none, .store1 (.t 34) (.t 33), none⟩]
def c17k6 : ICode := .kill (dead 39 [0, 1, 5, 6, 7]) (.ops c17r6)
def c17s7 : ICode := (.seq (.block 3 c17k6) c17k5)
def c17s8 : ICode := (.cond (.t 18) .skip (.exit 2))
def c17r9 : List Seg := [
  .one ⟨some 17, .mv (.t 7), none⟩,
  .one ⟨some 18, .bin .geq (.t 17) (.c (.int .i64 1)), none⟩]
def c17k9 : ICode := .kill (dead 39 [0, 1, 5, 6, 7]) (.ops c17r9)
def c17l4 : ICode := (.seq (.seq c17k9 c17s8) c17s7)
def c17s10 : ICode := (.block 2 (.loop c17l4))
def c17r11 : List Seg := [
  .one ⟨some 16, .mv (.t 0), none⟩,
  .one ⟨some 7, .mv (.t 16), none⟩]
def c17k11 : ICode := .kill (dead 39 [0, 1, 5, 6]) (.ops c17r11)
def c17s12 : ICode := (.seq (.block 1 (.seq c17k11 c17s10)) c17k3)
def c17s13 : ICode := (.cond (.t 13) .skip (.exit 0))
def c17r14 : List Seg := [
  .one ⟨some 11, .mv (.t 6), none⟩,
  .one ⟨some 12, .mv (.t 1), none⟩,
  .one ⟨some 13, .bin .lss (.t 11) (.t 12), none⟩]
def c17k14 : ICode := .kill (dead 39 [0, 1, 5, 6]) (.ops c17r14)
def c17l2 : ICode := (.seq (.seq c17k14 c17s13) c17s12)
def c17s15 : ICode := (.block 0 (.loop c17l2))
def c17r16 : List Seg := [
  .one ⟨some 6, .mv (.c (.int .i64 0)), none⟩]
def c17k16 : ICode := .kill (dead 39 [0, 1, 5]) (.ops c17r16)
def c17s17 : ICode := (.seq (.seq c17k16 c17s15) c17s1)
def c17r18 : List Seg := [
  .one ⟨some 8, .mv (.t 0), none⟩,
  .one ⟨some 9, .bin .add (.t 8) (.c (.int .i64 1)), none⟩,
  .one ⟨some 10, .make [.int .i64 0] 8 (.t 9) (.t 9), none⟩,
  .one ⟨some 5, .mv (.t 10), none⟩]
def c17k18 : ICode := .kill (dead 39 [0, 1]) (.ops c17r18)
def c17s19 : ICode := (.seq c17k18 c17s17)
def c17r20 : List Seg := [
  .one ⟨some 4, .mv (.c (.int .i64 0)), none⟩]
def c17k20 : ICode := .kill (dead 39 [0, 1]) (.ops c17r20)
def c17b : ICode := (.seq c17k20 c17s19)
def c17 : IFn := ⟨39, [.t 4], c17b⟩
def h17 : List (Nat × List Nat) := [(0, dead 39 [0, 1]), (1, dead 39 [0, 1]), (2, dead 39 [0, 1, 5]), (3, dead 39 [0, 1, 5, 6]), (5, dead 39 [0, 1, 5, 6]), (6, dead 39 [0, 1, 5, 6, 7]), (8, dead 39 [0, 1, 5, 6, 7]), (7, dead 39 [0, 1, 5, 6, 7]), (4, dead 39 [0, 1, 5, 6]), (9, dead 39 [0, 5])]
def c18r0 : List Seg := [
  .one ⟨some 4, .mv (.c (.int .i64 0)), none⟩,
  .one ⟨some 5, .mv (.c (.int .i64 8)), none⟩]
def c18k0 : ICode := .kill (dead 29 []) (.ops c18r0)
def c18s1 : ICode := (.seq c18k0 .ret)
def c18r3 : List Seg := [
  .one ⟨some 28, .bin .add (.t 19) (.c (.int .i64 1)), none⟩,
  .one ⟨some 19, .mv (.t 28), none⟩]
def c18k3 : ICode := .kill (dead 29 [0, 1, 19]) (.ops c18r3)
def c18r4 : List Seg := [
  .one ⟨some 27, .mv (.t 6), none⟩,
  .one ⟨some 4, .mv (.t 27), none⟩,
  .one ⟨some 5, .mv (.c (.int .i64 0)), none⟩]
def c18k4 : ICode := .kill (dead 29 [6]) (.ops c18r4)
def c18s5 : ICode := (.cond (.t 26) (.seq c18k4 .ret) .skip)
def c18r6 : List Seg := [
  .one ⟨some 22, .mv (.t 0), none⟩,
  .one ⟨some 23, .mv (.t 6), none⟩,
  .one ⟨some 24, .call (.c (.func 56 [])) [(.t 22), (.t 23)], none⟩,
  .one ⟨some 25, .mv (.t 1), none⟩,
  .one ⟨some 26, .bin .geq (.t 24) (.t 25), none⟩]
def c18k6 : ICode := .kill (dead 29 [0, 1, 6, 19]) (.ops c18r6)
def c18s7 : ICode := (.seq c18k6 c18s5)
def c18r8 : List Seg := [
  .one ⟨some 21, .mv (.t 19), none⟩,
  .one ⟨some 6, .mv (.t 21), none⟩]
def c18k8 : ICode := .kill (dead 29 [0, 1, 19]) (.ops c18r8)
def c18s9 : ICode := (.seq (.block 1 (.seq c18k8 c18s7)) c18k3)
def c18s10 : ICode := (.seq (.cond (.t 20) .skip (.exit 0)) c18s9)
def c18r11 : List Seg := [
  .one ⟨some 20, .bin .lss (.t 19) (.c (.int .i64 61)), none⟩]
def c18k11 : ICode := .kill (dead 29 [0, 1, 19]) (.ops c18r11)
def c18l2 : ICode := (.seq c18k11 c18s10)
def c18s12 : ICode := (.block 0 (.loop c18l2))
def c18r13 : List Seg := [
  .one ⟨some 19, .mv (.c (.int .i64 0)), none⟩]
def c18k13 : ICode := .kill (dead 29 [0, 1]) (.ops c18r13)
def c18s14 : ICode := (.seq (.seq c18k13 c18s12) c18s1)
def c18r15 : List Seg := [
  .one ⟨some 4, .mv (.c (.int .i64 0)), none⟩,
  .one ⟨some 5, .mv (.c (.int .i64 1)), none⟩]
def c18k15 : ICode := .kill (dead 29 []) (.ops c18r15)
def c18s16 : ICode := (.cond (.t 18) (.seq c18k15 .ret) .skip)
def c18r17 : List Seg := [
  .one ⟨some 7, .mv (.t 0), none⟩,
  .one ⟨some 8, .mkslice 1 [.int .i64 0] [(0, 1, (.t 7))], none⟩,
  .one ⟨some 9, .call (.c (.func 55 [])) [(.c (.int .i64 1)), (.c (.int .i64 20)), (.t 8)], none⟩,
  .one ⟨some 10, .un .not (.t 9), none⟩,
  .one ⟨some 11, .mv (.t 10), none⟩,
  .one ⟨some 12, .mv (.t 1), some (11, false)⟩,
  .one ⟨some 13, .bin .lss (.t 12) (.c (.int .i64 0)), some (11, false)⟩,
  .one ⟨some 14, .pick (.t 11) (.c (.bool true)) (.t 13), none⟩,
  .one ⟨some 15, .mv (.t 14), none⟩,
  .one ⟨some 16, .mv (.t 1), some (15, false)⟩,
  .one ⟨some 17, .bin .gtr (.t 16) (.c (.int .i64 1000000000000)), some (15, false)⟩,
  .one ⟨some 18, .pick (.t 15) (.c (.bool true)) (.t 17), none⟩]
def c18k17 : ICode := .kill (dead 29 [0, 1]) (.ops c18r17)
def c18s18 : ICode := (.seq (.seq c18k17 c18s16) c18s14)
def c18r19 : List Seg := [
  .one ⟨some 4, .mv (.c (.int .i64 0)), none⟩,
  .one ⟨some 5, .mv (.c (.int .i64 0)), none⟩]
def c18k19 : ICode := .kill (dead 29 [0, 1]) (.ops c18r19)
def c18b : ICode := (.seq c18k19 c18s18)
def c18 : IFn := ⟨29, [.t 4, .t 5], c18b⟩
def h18 : List (Nat × List Nat) := [(0, dead 29 [0, 1]), (1, dead 29 [0, 1]), (2, dead 29 []), (3, dead 29 [0, 1]), (4, dead 29 [0, 1, 19]), (5, dead 29 [0, 1, 19]), (6, dead 29 [0, 1, 6, 19]), (7, dead 29 [6]), (8, dead 29 [0, 1, 19]), (9, dead 29 [])]
def c19r0 : List Seg := [
  .one ⟨some 19, .mv (.t 1), none⟩,
  .one ⟨some 20, .mv (.t 0), none⟩,
  .one ⟨some 21, .mv (.t 6), none⟩,
  .one ⟨some 22, .bin .sub (.t 21) (.c (.int .i64 1)), none⟩,
  .one ⟨some 23, .call (.c (.func 56 [])) [(.t 20), (.t 22)], none⟩,
  .one ⟨some 24, .bin .sub (.t 19) (.t 23), none⟩,
  .one ⟨some 25, .mx [(.c (.int .i64 1)), (.t 24)], none⟩,
  .one ⟨some 4, .mv (.t 25), none⟩,
  .one ⟨some 5, .mv (.c (.int .i64 0)), none⟩]
def c19k0 : ICode := .kill (dead 26 [0, 1, 6]) (.ops c19r0)
def c19s1 : ICode := (.seq c19k0 .ret)
def c19r2 : List Seg := [
  .one ⟨some 18, .mv (.t 7), none⟩,
  .one ⟨some 4, .mv (.c (.int .i64 0)), none⟩,
  .one ⟨some 5, .mv (.t 18), none⟩]
def c19k2 : ICode := .kill (dead 26 [7]) (.ops c19r2)
def c19s3 : ICode := (.cond (.t 17) (.seq c19k2 .ret) .skip)
def c19r4 : List Seg := [
  .one ⟨some 16, .mv (.t 7), none⟩,
  .one ⟨some 17, .bin .neq (.t 16) (.c (.int .i64 0)), none⟩]
def c19k4 : ICode := .kill (dead 26 [0, 1, 6, 7]) (.ops c19r4)
def c19s5 : ICode := (.seq (.seq c19k4 c19s3) c19s1)
def c19r6 : List Seg := [
  .one ⟨some 4, .mv (.c (.int .i64 0)), none⟩,
  .one ⟨some 5, .mv (.c (.int .i64 1)), none⟩]
def c19k6 : ICode := .kill (dead 26 []) (.ops c19r6)
def c19s7 : ICode := (.cond (.t 15) (.seq c19k6 .ret) .skip)
def c19r8 : List Seg := [
  .one ⟨some 14, .mv (.t 1), none⟩,
  .one ⟨some 15, .bin .eql (.t 14) (.c (.int .i64 0)), none⟩]
def c19k8 : ICode := .kill (dead 26 [0, 1, 6, 7]) (.ops c19r8)
def c19s9 : ICode := (.seq (.seq c19k8 c19s7) c19s5)
def c19r10 : List Seg := [
  .one ⟨some 9, .mv (.t 0), none⟩,
  .one ⟨some 10, .mv (.t 1), none⟩,
  .one ⟨some 11, .call (.c (.func 18 [])) [(.t 9), (.t 10)], none⟩,
  .one ⟨some 8, .mv (.t 11), none⟩,
  .one ⟨some 12, .ext (.t 8) 0, none⟩,
  .one ⟨some 13, .ext (.t 8) 1, none⟩,
  .one ⟨some 6, .mv (.t 12), none⟩,
  .one ⟨some 7, .mv (.t 13), none⟩]
def c19k10 : ICode := .kill (dead 26 [0, 1]) (.ops c19r10)
def c19s11 : ICode := (.seq c19k10 c19s9)
def c19r12 : List Seg := [
  .one ⟨some 4, .mv (.c (.int .i64 0)), none⟩,
  .one ⟨some 5, .mv (.c (.int .i64 0)), none⟩]
def c19k12 : ICode := .kill (dead 26 [0, 1]) (.ops c19r12)
def c19b : ICode := (.seq c19k12 c19s11)
def c19 : IFn := ⟨26, [.t 4, .t 5], c19b⟩
def h19 : List (Nat × List Nat) := [(0, dead 26 [0, 1]), (1, dead 26 [0, 1]), (2, dead 26 [0, 1, 6, 7]), (3, dead 26 []), (4, dead 26 [0, 1, 6, 7]), (5, dead 26 [7]), (6, dead 26 [0, 1, 6])]
def c20r0 : List Seg := [
  .one ⟨some 4, .mv (.c (.int .i64 (-1))), none⟩]
def c20k0 : ICode := .kill (dead 16 []) (.ops c20r0)
def c20s1 : ICode := (.seq c20k0 .ret)
def c20r3 : List Seg := [
  .one ⟨some 8, .mv (.t 5), none⟩,
  .one ⟨some 9, .bin .add (.t 8) (.c (.int .i64 1)), none⟩,
  .one ⟨some 5, .mv (.t 9), none⟩]
def c20k3 : ICode := .kill (dead 16 [0, 1, 5]) (.ops c20r3)
def c20r4 : List Seg := [
  .one ⟨some 15, .mv (.t 5), none⟩,
  .one ⟨some 4, .mv (.t 15), none⟩]
def c20k4 : ICode := .kill (dead 16 [5]) (.ops c20r4)
def c20s5 : ICode := (.cond (.t 14) (.seq c20k4 .ret) .skip)
def c20r6 : List Seg := [
  .one ⟨some 10, .mv (.t 0), none⟩,
  .one ⟨some 11, .mv (.t 5), none⟩,
  .one ⟨some 12, .call (.c (.func 17 [])) [(.t 10), (.t 11)], none⟩,
  .one ⟨some 13, .mv (.t 1), none⟩,
  .one ⟨some 14, .bin .geq (.t 12) (.t 13), none⟩]
def c20k6 : ICode := .kill (dead 16 [0, 1, 5]) (.ops c20r6)
def c20s7 : ICode := (.seq (.block 1 (.seq c20k6 c20s5)) c20k3)
def c20s8 : ICode := (.cond (.t 7) .skip (.exit 0))
def c20r9 : List Seg := [
  .one ⟨some 6, .mv (.t 5), none⟩,
  .one ⟨some 7, .bin .leq (.t 6) (.c (.int .i64 60)), none⟩]
def c20k9 : ICode := .kill (dead 16 [0, 1, 5]) (.ops c20r9)
def c20l2 : ICode := (.seq (.seq c20k9 c20s8) c20s7)
def c20s10 : ICode := (.block 0 (.loop c20l2))
def c20r11 : List Seg := [
  .one ⟨some 5, .mv (.c (.int .i64 0)), none⟩]
def c20k11 : ICode := .kill (dead 16 [0, 1]) (.ops c20r11)
def c20s12 : ICode := (.seq (.seq c20k11 c20s10) c20s1)
def c20r13 : List Seg := [
  .one ⟨some 4, .mv (.c (.int .i64 0)), none⟩]
def c20k13 : ICode := .kill (dead 16 [0, 1]) (.ops c20r13)
def c20b : ICode := (.seq c20k13 c20s12)
def c20 : IFn := ⟨16, [.t 4], c20b⟩
def h20 : List (Nat × List Nat) := [(0, dead 16 [0, 1]), (1, dead 16 [0, 1]), (2, dead 16 [0, 1, 5]), (4, dead 16 [0, 1, 5]), (5, dead 16 [5]), (3, dead 16 [0, 1, 5]), (6, dead 16 [])]
def c21r0 : List Seg := [
  .one ⟨some 9, .mv (.t 3), none⟩,
  .one ⟨some 10, .bin .geq (.t 9) (.c (.int .i64 1)), none⟩,
  .one ⟨some 11, .mv (.t 10), none⟩,
  .one ⟨some 12, .mv (.t 3), some (11, true)⟩,
  .one ⟨some 13, .mv (.t 2), some (11, true)⟩,
  .one ⟨some 14, .bin .leq (.t 12) (.t 13), some (11, true)⟩,
  .one ⟨some 15, .pick (.t 11) (.t 14) (.c (.bool false)), none⟩,
  .one ⟨some 16, .mv (.t 15), none⟩,
  .one ⟨some 17, .mv (.t 3), some (16, true)⟩,
  .one ⟨some 18, .bin .sub (.t 17) (.c (.int .i64 1)), some (16, true)⟩,
  .one ⟨some 19, .mv (.t 0), some (16, true)⟩,
  .one ⟨some 20, .bin .sub (.t 19) (.c (.int .i64 1)), some (16, true)⟩,
  .one ⟨some 21, .mv (.t 1), some (16, true)⟩,
  .one ⟨some 22, .bin .sub (.t 21) (.c (.int .i64 1)), some (16, true)⟩,
  .one ⟨some 23, .call (.c (.func 17 [])) [(.t 20), (.t 22)], some (16, true)⟩,
  .one ⟨some 24, .bin .leq (.t 18) (.t 23), some (16, true)⟩,
  .one ⟨some 25, .pick (.t 16) (.t 24) (.c (.bool false)), none⟩,
  .one ⟨some 26, .mv (.t 25), none⟩,
  .one ⟨some 27, .mv (.t 2), some (26, true)⟩,
  .one ⟨some 28, .mv (.t 3), some (26, true)⟩,
  .one ⟨some 29, .bin .sub (.t 27) (.t 28), some (26, true)⟩,
  .one ⟨some 30, .mv (.t 0), some (26, true)⟩,
  .one ⟨some 31, .mv (.t 1), some (26, true)⟩,
  .one ⟨some 32, .bin .sub (.t 31) (.c (.int .i64 1)), some (26, true)⟩,
  .one ⟨some 33, .call (.c (.func 17 [])) [(.t 30), (.t 32)], some (26, true)⟩,
  .one ⟨some 34, .bin .leq (.t 29) (.t 33), some (26, true)⟩,
  .one ⟨some 35, .pick (.t 26) (.t 34) (.c (.bool false)), none⟩,
  .one ⟨some 8, .mv (.t 35), none⟩]
def c21k0 : ICode := .kill (dead 36 [0, 1, 2, 3]) (.ops c21r0)
def c21s1 : ICode := (.seq c21k0 .ret)
def c21r2 : List Seg := [
  .one ⟨some 8, .mv (.c (.bool false)), none⟩]
def c21k2 : ICode := .kill (dead 36 [0, 1, 2, 3]) (.ops c21r2)
def c21b : ICode := (.seq c21k2 c21s1)
def c21 : IFn := ⟨36, [.t 8], c21b⟩
def h21 : List (Nat × List Nat) := [(0, dead 36 [0, 1, 2, 3]), (1, dead 36 [0, 1, 2, 3])]
def c22r0 : List Seg := [
  .one ⟨some 45, .mv (.t 3), none⟩,
  .one ⟨some 46, .bin .eql (.t 45) (.c (.int .i64 0)), none⟩,
  .one ⟨some 47, .mv (.t 46), none⟩,
  .one ⟨some 48, .mv (.t 1), some (47, true)⟩,
  .one ⟨some 49, .bin .eql (.t 48) (.c (.int .i64 6)), some (47, true)⟩,
  .one ⟨some 50, .pick (.t 47) (.t 49) (.c (.bool false)), none⟩,
  .one ⟨some 51, .mv (.t 50), none⟩,
  .one ⟨some 52, .mv (.t 2), some (51, true)⟩,
  .one ⟨some 53, .len 0 (.t 52), some (51, true)⟩,
  .one ⟨some 54, .bin .eql (.t 53) (.c (.int .i64 2)), some (51, true)⟩,
  .one ⟨some 55, .pick (.t 51) (.t 54) (.c (.bool false)), none⟩,
  .one ⟨some 56, .mv (.t 55), none⟩,
  .one ⟨some 57, .mv (.t 5), some (56, true)⟩,
  .one ⟨some 58, .bin .eql (.t 57) (.c (.int .i64 0)), some (56, true)⟩,
  .one ⟨some 59, .pick (.t 56) (.t 58) (.c (.bool false)), none⟩,
  .one ⟨some 60, .mv (.t 59), none⟩,
  .one ⟨some 61, .mv (.t 4), some (60, true)⟩,
  .one ⟨some 62, .mkslice 3 [.int .i64 0, .int .i64 0, .int .i64 0] [(0, 1, (.c (.int .i64 6))), (1, 1, (.c (.int .i64 6))), (2, 1, (.c (.int .i64 1)))], some (60, true)⟩,
  .one ⟨some 63, .call (.c (.func 32 [])) [(.t 61), (.t 62)], some (60, true)⟩,
  .one ⟨some 64, .pick (.t 60) (.t 63) (.c (.bool false)), none⟩,
  .one ⟨some 65, .mv (.t 64), none⟩,
  .one ⟨some 66, .mv (.t 7), some (65, true)⟩,
  .one ⟨some 67, .bin .eql (.t 66) (.c (.int .i64 0)), some (65, true)⟩,
  .one ⟨some 68, .pick (.t 65) (.t 67) (.c (.bool false)), none⟩,
  .one ⟨some 69, .mv (.t 68), none⟩,
  .one ⟨some 70, .mv (.t 6), some (69, true)⟩,
  .one ⟨some 71, .bin .eql (.t 70) (.c (.int .i64 1)), some (69, true)⟩,
  .one ⟨some 72, .pick (.t 69) (.t 71) (.c (.bool false)), none⟩,
  .one ⟨some 73, .mv (.t 72), none⟩,
  .one ⟨some 74, .mv (.t 9), some (73, true)⟩,
  .one ⟨some 75, .bin .eql (.t 74) (.c (.int .i64 0)), some (73, true)⟩,
  .one ⟨some 76, .pick (.t 73) (.t 75) (.c (.bool false)), none⟩,
  .one ⟨some 77, .mv (.t 76), none⟩,
  .one ⟨some 78, .mv (.t 8), some (77, true)⟩,
  .one ⟨some 79, .bin .eql (.t 78) (.c (.int .i64 10)), some (77, true)⟩,
  .one ⟨some 80, .pick (.t 77) (.t 79) (.c (.bool false)), none⟩,
  .one ⟨some 81, .mv (.t 80), none⟩,
  .one ⟨some 82, .mv (.t 11), some (81, true)⟩,
  .one ⟨some 83, .bin .eql (.t 82) (.c (.int .i64 0)), some (81, true)⟩,
  .one ⟨some 84, .pick (.t 81) (.t 83) (.c (.bool false)), none⟩,
  .one ⟨some 85, .mv (.t 84), none⟩,
  .one ⟨some 86, .mv (.t 10), some (85, true)⟩,
  .one ⟨some 87, .bin .eql (.t 86) (.c (.int .i64 14)), some (85, true)⟩,
  .one ⟨some 88, .pick (.t 85) (.t 87) (.c (.bool false)), none⟩,
  .one ⟨some 89, .mv (.t 88), none⟩,
  .one ⟨some 90, .mv (.t 13), some (89, true)⟩,
  .one ⟨some 91, .bin .eql (.t 90) (.c (.int .i64 0)), some (89, true)⟩,
  .one ⟨some 92, .pick (.t 89) (.t 91) (.c (.bool false)), none⟩,
  .one ⟨some 93, .mv (.t 92), none⟩,
  .one ⟨some 94, .mv (.t 12), some (93, true)⟩,
  .one ⟨some 95, .bin .eql (.t 94) (.c (.int .i64 9)), some (93, true)⟩,
  .one ⟨some 96, .pick (.t 93) (.t 95) (.c (.bool false)), none⟩,
  .one ⟨some 97, .mv (.t 96), none⟩,
  .one ⟨some 98, .mkslice 1 [.int .i64 0] [(0, 1, (.c (.int .i64 0)))], some (97, true)⟩,
  .one ⟨some 99, .call (.c (.func 46 [])) [(.t 98)], some (97, true)⟩,
  .one ⟨some 100, .bin .eql (.t 99) (.c (.int .i64 80)), some (97, true)⟩,
  .one ⟨some 101, .pick (.t 97) (.t 100) (.c (.bool false)), none⟩,
  .one ⟨some 0, .mv (.t 101), none⟩]
def c22k0 : ICode := .kill (dead 102 [1, 2, 3, 4, 5, 6, 7, 8, 9, 10, 11, 12, 13]) (.ops c22r0)
def c22s1 : ICode := (.seq c22k0 .ret)
def c22r2 : List Seg := [
  .one ⟨some 42, .call (.c (.func 19 [])) [(.c (.int .i64 2)), (.c (.int .i64 100))], none⟩,
  .one ⟨some 41, .mv (.t 42), none⟩,
  .one ⟨some 43, .ext (.t 41) 0, none⟩,
  .one ⟨some 44, .ext (.t 41) 1, none⟩,
  .one ⟨some 12, .mv (.t 43), none⟩,
  .one ⟨some 13, .mv (.t 44), none⟩]
def c22k2 : ICode := .kill (dead 102 [1, 2, 3, 4, 5, 6, 7, 8, 9, 10, 11]) (.ops c22r2)
def c22s3 : ICode := (.seq c22k2 c22s1)
def c22r4 : List Seg := [
  .one ⟨some 38, .call (.c (.func 18 [])) [(.c (.int .i64 2)), (.c (.int .i64 100))], none⟩,
  .one ⟨some 37, .mv (.t 38), none⟩,
  .one ⟨some 39, .ext (.t 37) 0, none⟩,
  .one ⟨some 40, .ext (.t 37) 1, none⟩,
  .one ⟨some 10, .mv (.t 39), none⟩,
  .one ⟨some 11, .mv (.t 40), none⟩]
def c22k4 : ICode := .kill (dead 102 [1, 2, 3, 4, 5, 6, 7, 8, 9]) (.ops c22r4)
def c22s5 : ICode := (.seq c22k4 c22s3)
def c22r6 : List Seg := [
  .one ⟨some 34, .call (.c (.func 16 [])) [(.c (.int .i64 2)), (.c (.int .i64 4))], none⟩,
  .one ⟨some 33, .mv (.t 34), none⟩,
  .one ⟨some 35, .ext (.t 33) 0, none⟩,
  .one ⟨some 36, .ext (.t 33) 1, none⟩,
  .one ⟨some 8, .mv (.t 35), none⟩,
  .one ⟨some 9, .mv (.t 36), none⟩]
def c22k6 : ICode := .kill (dead 102 [1, 2, 3, 4, 5, 6, 7]) (.ops c22r6)
def c22s7 : ICode := (.seq c22k6 c22s5)
def c22r8 : List Seg := [
  .one ⟨some 27, .mkagg [.int .i64 0, .int .i64 0] [(0, 1, (.c (.int .i64 0))), (1, 1, (.c (.int .i64 1)))], none⟩,
  .one ⟨some 28, .mkagg [.int .i64 0, .int .i64 0] [(0, 1, (.c (.int .i64 1))), (1, 1, (.c (.int .i64 2)))], none⟩,
  .one ⟨some 29, .mkslice 2 [.int .i64 0, .int .i64 0, .int .i64 0, .int .i64 0] [(0, 2, (.t 27)), (2, 2, (.t 28))], none⟩,
  .one ⟨some 30, .call (.c (.func 48 [])) [(.c (.int .i64 3)), (.t 29)], none⟩,
  .one ⟨some 26, .mv (.t 30), none⟩,
  .one ⟨some 31, .ext (.t 26) 0, none⟩,
  .one ⟨some 32, .ext (.t 26) 1, none⟩,
  .one ⟨some 6, .mv (.t 31), none⟩,
  .one ⟨some 7, .mv (.t 32), none⟩]
def c22k8 : ICode := .kill (dead 102 [1, 2, 3, 4, 5]) (.ops c22r8)
def c22s9 : ICode := (.seq c22k8 c22s7)
def c22r10 : List Seg := [
  .one ⟨some 21, .mkslice 2 [.int .i64 0, .int .i64 0] [(0, 1, (.c (.int .i64 5))), (1, 1, (.c (.int .i64 1)))], none⟩,
  .one ⟨some 22, .mkslice 2 [.int .i64 0, .int .i64 0] [(0, 1, (.c (.int .i64 1))), (1, 1, (.c (.int .i64 0)))], none⟩,
  .one ⟨some 23, .call (.c (.func 29 [])) [(.t 21), (.t 22)], none⟩,
  .one ⟨some 20, .mv (.t 23), none⟩,
  .one ⟨some 24, .ext (.t 20) 0, none⟩,
  .one ⟨some 25, .ext (.t 20) 1, none⟩,
  .one ⟨some 4, .mv (.t 24), none⟩,
  .one ⟨some 5, .mv (.t 25), none⟩]
def c22k10 : ICode := .kill (dead 102 [1, 2, 3]) (.ops c22r10)
def c22s11 : ICode := (.seq c22k10 c22s9)
def c22r12 : List Seg := [
  .one ⟨some 15, .mkslice 2 [.int .i64 0, .int .i64 0] [(0, 1, (.c (.int .i64 5))), (1, 1, (.c (.int .i64 1)))], none⟩,
  .one ⟨some 16, .call (.c (.func 28 [])) [(.t 15)], none⟩,
  .one ⟨some 14, .mv (.t 16), none⟩,
  .one ⟨some 17, .ext (.t 14) 0, none⟩,
  .one ⟨some 18, .ext (.t 14) 1, none⟩,
  .one ⟨some 19, .ext (.t 14) 2, none⟩,
  .one ⟨some 1, .mv (.t 17), none⟩,
  .one ⟨some 2, .mv (.t 18), none⟩,
  .one ⟨some 3, .mv (.t 19), none⟩]
def c22k12 : ICode := .kill (dead 102 []) (.ops c22r12)
def c22s13 : ICode := (.seq c22k12 c22s11)
def c22r14 : List Seg := [
  .one ⟨some 0, .mv (.c (.bool false)), none⟩]
def c22k14 : ICode := .kill (dead 102 []) (.ops c22r14)
def c22b : ICode := (.seq c22k14 c22s13)
def c22 : IFn := ⟨102, [.t 0], c22b⟩
def h22 : List (Nat × List Nat) := [(0, dead 102 []), (1, dead 102 []), (2, dead 102 [1, 2, 3]), (3, dead 102 [1, 2, 3, 4, 5]), (4, dead 102 [1, 2, 3, 4, 5, 6, 7]), (5, dead 102 [1, 2, 3, 4, 5, 6, 7, 8, 9]), (6, dead 102 [1, 2, 3, 4, 5, 6, 7, 8, 9, 10, 11]), (7, dead 102 [1, 2, 3, 4, 5, 6, 7, 8, 9, 10, 11, 12, 13])]
def c23r0 : List Seg := [
  .one ⟨some 24, .mv (.t 4), none⟩,
  .one ⟨some 2, .mv (.t 24), none⟩,
  .one ⟨some 3, .mv (.c (.int .i64 0)), none⟩]
def c23k0 : ICode := .kill (dead 25 [4]) (.ops c23r0)
def c23s1 : ICode := (.seq c23k0 .ret)
def c23r3 : List Seg := [
  .one ⟨some 23, .bin .add (.t 11) (.c (.int .i64 1)), none⟩,
  .one ⟨some 11, .mv (.t 23), none⟩]
def c23k3 : ICode := .kill (dead 25 [4, 10, 11]) (.ops c23r3)
def c23r4 : List Seg := [
  .one ⟨some 14, .mv (.t 4), none⟩,
  .one ⟨some 15, .bin .mul (.t 14) (.c (.int .i64 2)), none⟩,
  .one ⟨some 16, .mv (.t 5), none⟩,
  .one ⟨some 17, .bin .mul (.c (.int .i64 2)) (.t 16), none⟩,
  .one ⟨some 18, .bin .add (.t 17) (.c (.int .i64 1)), none⟩,
  .one ⟨some 19, .bin .mul (.t 15) (.t 18), none⟩,
  .one ⟨some 20, .mv (.t 5), none⟩,
  .one ⟨some 21, .bin .add (.t 20) (.c (.int .i64 2)), none⟩,
  .one ⟨some 22, .bin .quo (.t 19) (.t 21), none⟩,
  .one ⟨some 4, .mv (.t 22), none⟩]
def c23k4 : ICode := .kill (dead 25 [4, 5, 10, 11]) (.ops c23r4)
def c23r5 : List Seg := [
  .one ⟨some 13, .mv (.t 11), none⟩,
  .one ⟨some 5, .mv (.t 13), none⟩]
def c23k5 : ICode := .kill (dead 25 [4, 10, 11]) (.ops c23r5)
def c23s6 : ICode := (.seq (.block 1 (.seq c23k5 c23k4)) c23k3)
def c23s7 : ICode := (.seq (.cond (.t 12) .skip (.exit 0)) c23s6)
def c23r8 : List Seg := [
  .one ⟨some 12, .bin .lss (.t 11) (.t 10), none⟩]
def c23k8 : ICode := .kill (dead 25 [4, 10, 11]) (.ops c23r8)
def c23l2 : ICode := (.seq c23k8 c23s7)
def c23s9 : ICode := (.block 0 (.loop c23l2))
def c23r10 : List Seg := [
  .one ⟨some 10, .mv (.t 0), none⟩,
  .one ⟨some 11, .mv (.c (.int .i64 0)), none⟩]
def c23k10 : ICode := .kill (dead 25 [0, 4]) (.ops c23r10)
def c23s11 : ICode := (.seq (.seq c23k10 c23s9) c23s1)
def c23r12 : List Seg := [
  .one ⟨some 4, .mv (.c (.int .i64 1)), none⟩]
def c23k12 : ICode := .kill (dead 25 [0]) (.ops c23r12)
def c23s13 : ICode := (.seq c23k12 c23s11)
def c23r14 : List Seg := [
  .one ⟨some 2, .mv (.c (.int .i64 0)), none⟩,
  .one ⟨some 3, .mv (.c (.int .i64 1)), none⟩]
def c23k14 : ICode := .kill (dead 25 []) (.ops c23r14)
def c23s15 : ICode := (.cond (.t 9) (.seq c23k14 .ret) .skip)
def c23r16 : List Seg := [
  .one ⟨some 6, .mv (.t 0), none⟩,
  .one ⟨some 7, .mkslice 1 [.int .i64 0] [(0, 1, (.t 6))], none⟩,
  .one ⟨some 8, .call (.c (.func 55 [])) [(.c (.int .i64 0)), (.c (.int .i64 30)), (.t 7)], none⟩,
  .one ⟨some 9, .un .not (.t 8), none⟩]
def c23k16 : ICode := .kill (dead 25 [0]) (.ops c23r16)
def c23s17 : ICode := (.seq (.seq c23k16 c23s15) c23s13)
def c23r18 : List Seg := [
  .one ⟨some 2, .mv (.c (.int .i64 0)), none⟩,
  .one ⟨some 3, .mv (.c (.int .i64 0)), none⟩]
def c23k18 : ICode := .kill (dead 25 [0]) (.ops c23r18)
def c23b : ICode := (.seq c23k18 c23s17)
def c23 : IFn := ⟨25, [.t 2, .t 3], c23b⟩
def h23 : List (Nat × List Nat) := [(0, dead 25 [0]), (1, dead 25 [0]), (2, dead 25 []), (3, dead 25 [0]), (4, dead 25 [0, 4]), (5, dead 25 [4, 10, 11]), (6, dead 25 [4, 10, 11]), (7, dead 25 [4, 5, 10, 11]), (8, dead 25 [4, 10, 11]), (9, dead 25 [4])]
def c24r0 : List Seg := [
  .one ⟨some 36, .mv (.t 3), none⟩,
  .one ⟨some 37, .mv (.t 0), none⟩,
  .one ⟨some 38, .idxS 1 (.t 36) (.t 37), none⟩,
  .one ⟨some 39, .load1 (.t 38), none⟩,
  .one ⟨some 2, .mv (.t 39), none⟩]
def c24k0 : ICode := .kill (dead 40 [0, 3]) (.ops c24r0)
def c24s1 : ICode := (.seq c24k0 .ret)
def c24r3 : List Seg := [
  .one ⟨some 11, .mv (.t 4), none⟩,
  .one ⟨some 12, .bin .add (.t 11) (.c (.int .i64 1)), none⟩,
  .one ⟨some 4, .mv (.t 12), none⟩]
def c24k3 : ICode := .kill (dead 40 [0, 3, 4]) (.ops c24r3)
def c24r4 : List Seg := [
  .one ⟨some 32, .mv (.t 3), none⟩,
  .one ⟨some 33, .mv (.t 5), none⟩,
  .one ⟨some 34, .mkslice 1 [.int .i64 0] [(0, 1, (.t 33))], none⟩,
  .one ⟨some 35, .app 1 8 (.t 32) (.t 34), none⟩,
  .one ⟨some 3, .mv (.t 35), none⟩]
def c24k4 : ICode := .kill (dead 40 [0, 3, 4, 5]) (.ops c24r4)
def c24r6 : List Seg := [
  .one ⟨some 16, .mv (.t 6), none⟩,
  .one ⟨some 17, .bin .add (.t 16) (.c (.int .i64 1)), none⟩,
  .one ⟨some 6, .mv (.t 17), none⟩]
def c24k6 : ICode := .kill (dead 40 [0, 3, 4, 5, 6]) (.ops c24r6)
def c24r7 : List Seg := [
  .grp [(⟨some 18, .mv (.t 5), none⟩, 0), (⟨some 19, .mv (.t 3), none⟩, 0), (⟨some 20, .mv (.t 6), none⟩, 0), (⟨some 21, .idxS 1 (.t 19) (.t 20), none⟩, 6), (⟨some 22, .load1 (.t 21), none⟩, 14), (⟨some 23, .mv (.t 3), none⟩, 0), (⟨some 24, .mv (.t 4), none⟩, 0), (⟨some 25, .bin .sub (.t 24) (.c (.int .i64 1)), none⟩, 64), (⟨some 26, .mv (.t 6), none⟩, 0), (⟨some 27, .bin .sub (.t 25) (.t 26), none⟩, 448), (⟨some 28, .idxS 1 (.t 23) (.t 27), none⟩, 992), (⟨some 29, .load1 (.t 28), none⟩, 2016), (⟨some 30, .bin .mul (.t 22) (.t 29), none⟩, 4094)],
  .one ⟨some 31, .bin .add (.t 18) (.t 30), none⟩,
  .one ⟨some 5, .mv (.t 31), none⟩]
def c24k7 : ICode := .kill (dead 40 [0, 3, 4, 5, 6]) (.ops c24r7)
def c24s8 : ICode := (.seq (.block 3 c24k7) c24k6)
def c24s9 : ICode := (.cond (.t 15) .skip (.exit 2))
def c24r10 : List Seg := [
  .one ⟨some 13, .mv (.t 6), none⟩,
  .one ⟨some 14, .mv (.t 4), none⟩,
  .one ⟨some 15, .bin .lss (.t 13) (.t 14), none⟩]
def c24k10 : ICode := .kill (dead 40 [0, 3, 4, 5, 6]) (.ops c24r10)
def c24l5 : ICode := (.seq (.seq c24k10 c24s9) c24s8)
def c24s11 : ICode := (.block 2 (.loop c24l5))
def c24r12 : List Seg := [
  .one ⟨some 6, .mv (.c (.int .i64 0)), none⟩]
def c24k12 : ICode := .kill (dead 40 [0, 3, 4, 5]) (.ops c24r12)
def c24s13 : ICode := (.seq (.seq c24k12 c24s11) c24k4)
def c24r14 : List Seg := [
  .one ⟨some 5, .mv (.c (.int .i64 0)), none⟩]
def c24k14 : ICode := .kill (dead 40 [0, 3, 4]) (.ops c24r14)
def c24s15 : ICode := (.seq (.block 1 (.seq c24k14 c24s13)) c24k3)
def c24s16 : ICode := (.cond (.t 10) .skip (.exit 0))
def c24r17 : List Seg := [
  .one ⟨some 8, .mv (.t 4), none⟩,
  .one ⟨some 9, .mv (.t 0), none⟩,
  .one ⟨some 10, .bin .leq (.t 8) (.t 9), none⟩]
def c24k17 : ICode := .kill (dead 40 [0, 3, 4]) (.ops c24r17)
def c24l2 : ICode := (.seq (.seq c24k17 c24s16) c24s15)
def c24s18 : ICode := (.block 0 (.loop c24l2))
def c24r19 : List Seg := [
  .one ⟨some 4, .mv (.c (.int .i64 1)), none⟩]
def c24k19 : ICode := .kill (dead 40 [0, 3]) (.ops c24r19)
def c24s20 : ICode := (.seq (.seq c24k19 c24s18) c24s1)
def c24r21 : List Seg := [
  .one ⟨some 7, .mkslice 1 [.int .i64 0] [(0, 1, (.c (.int .i64 1)))], none⟩,
  .one ⟨some 3, .mv (.t 7), none⟩]
def c24k21 : ICode := .kill (dead 40 [0]) (.ops c24r21)
def c24s22 : ICode := (.seq c24k21 c24s20)
def c24r23 : List Seg := [
  .one ⟨some 2, .mv (.c (.int .i64 0)), none⟩]
def c24k23 : ICode := .kill (dead 40 [0]) (.ops c24r23)
def c24b : ICode := (.seq c24k23 c24s22)
def c24 : IFn := ⟨40, [.t 2], c24b⟩
def h24 : List (Nat × List Nat) := [(0, dead 40 [0]), (1, dead 40 [0]), (2, dead 40 [0, 3]), (3, dead 40 [0, 3, 4]), (5, dead 40 [0, 3, 4]), (6, dead 40 [0, 3, 4, 5]), (7, dead 40 [0, 3, 4, 5, 6]), (9, dead 40 [0, 3, 4, 5, 6]), (8, dead 40 [0, 3, 4, 5, 6]), (10, dead 40 [0, 3, 4, 5]), (4, dead 40 [0, 3, 4]), (11, dead 40 [0, 3])]
def c25r0 : List Seg := [
  .one ⟨some 26, .mv (.t 3), none⟩,
  .one ⟨some 2, .mv (.t 26), none⟩]
def c25k0 : ICode := .kill (dead 27 [3]) (.ops c25r0)
def c25s1 : ICode := (.seq c25k0 .ret)
def c25r3 : List Seg := [
  .one ⟨some 13, .mv (.t 4), none⟩,
  .one ⟨some 14, .bin .add (.t 13) (.c (.int .i64 1)), none⟩,
  .one ⟨some 4, .mv (.t 14), none⟩]
def c25k3 : ICode := .kill (dead 27 [0, 3, 4]) (.ops c25r3)
def c25r4 : List Seg := [
  .one ⟨some 15, .mv (.t 3), none⟩,
  .one ⟨some 16, .mv (.t 0), none⟩,
  .one ⟨some 17, .mv (.t 4), none⟩,
  .one ⟨some 18, .idxS 1 (.t 16) (.t 17), none⟩,
  .one ⟨some 19, .load1 (.t 18), none⟩,
  .one ⟨some 20, .conv .u64 (.t 19), none⟩,
  .one ⟨some 21, .bin .rem (.t 20) (.c (.int .u64 1000)), none⟩,
  .one ⟨some 22, .conv .i64 (.t 21), none⟩,
  .one ⟨some 23, .bin .add (.c (.int .i64 1)) (.t 22), none⟩,
  .one ⟨some 24, .mkslice 1 [.int .i64 0] [(0, 1, (.t 23))], none⟩,
  .one ⟨some 25, .app 1 8 (.t 15) (.t 24), none⟩,
  .one ⟨some 3, .mv (.t 25), none⟩]
def c25k4 : ICode := .kill (dead 27 [0, 3, 4]) (.ops c25r4)
def c25s5 : ICode := (.seq (.block 1 c25k4) c25k3)
def c25s6 : ICode := (.cond (.t 12) .skip (.exit 0))
def c25r7 : List Seg := [
  .one ⟨some 5, .mv (.t 4), none⟩,
  .one ⟨some 6, .mv (.t 0), none⟩,
  .one ⟨some 7, .len 0 (.t 6), none⟩,
  .one ⟨some 8, .bin .lss (.t 5) (.t 7), none⟩,
  .one ⟨some 9, .mv (.t 8), none⟩,
  .one ⟨some 10, .mv (.t 4), some (9, true)⟩,
  .one ⟨some 11, .bin .lss (.t 10) (.c (.int .i64 12)), some (9, true)⟩,
  .one ⟨some 12, .pick (.t 9) (.t 11) (.c (.bool false)), none⟩]
def c25k7 : ICode := .kill (dead 27 [0, 3, 4]) (.ops c25r7)
def c25l2 : ICode := (.seq (.seq c25k7 c25s6) c25s5)
def c25s8 : ICode := (.block 0 (.loop c25l2))
def c25r9 : List Seg := [
  .one ⟨some 4, .mv (.c (.int .i64 0)), none⟩]
def c25k9 : ICode := .kill (dead 27 [0, 3]) (.ops c25r9)
def c25s10 : ICode := (.seq (.seq c25k9 c25s8) c25s1)
def c25r11 : List Seg := [
  .one ⟨some 3, .mv (.c .nilslice), none⟩]
def c25k11 : ICode := .kill (dead 27 [0]) (.ops c25r11)
def c25s12 : ICode := (.seq c25k11 c25s10)
def c25r13 : List Seg := [
  .one ⟨some 2, .mv (.c .nilslice), none⟩]
def c25k13 : ICode := .kill (dead 27 [0]) (.ops c25r13)
def c25b : ICode := (.seq c25k13 c25s12)
def c25 : IFn := ⟨27, [.t 2], c25b⟩
def h25 : List (Nat × List Nat) := [(0, dead 27 [0]), (1, dead 27 [0]), (2, dead 27 [0, 3]), (3, dead 27 [0, 3, 4]), (5, dead 27 [0, 3, 4]), (4, dead 27 [0, 3, 4]), (6, dead 27 [3])]
def c26r0 : List Seg := [
  .one ⟨some 6, .mv (.t 5), none⟩,
  .one ⟨some 7, .mv (.t 0), none⟩,
  .one ⟨some 8, .mv (.t 0), none⟩,
  .one ⟨some 9, .len 0 (.t 8), none⟩,
  .one ⟨some 10, .mv (.t 1), none⟩,
  .one ⟨some 11, .mn [(.t 9), (.t 10)], none⟩,
  .one ⟨some 12, .sliceS 1 (.t 7) none (some (.t 11)) none, none⟩,
  .one ⟨some 13, .app 1 8 (.t 6) (.t 12), none⟩,
  .one ⟨some 4, .mv (.t 13), none⟩]
def c26k0 : ICode := .kill (dead 14 [0, 1, 5]) (.ops c26r0)
def c26s1 : ICode := (.seq c26k0 .ret)
def c26r2 : List Seg := [
  .one ⟨some 5, .mv (.c .nilslice), none⟩]
def c26k2 : ICode := .kill (dead 14 [0, 1]) (.ops c26r2)
def c26s3 : ICode := (.seq c26k2 c26s1)
def c26r4 : List Seg := [
  .one ⟨some 4, .mv (.c .nilslice), none⟩]
def c26k4 : ICode := .kill (dead 14 [0, 1]) (.ops c26r4)
def c26b : ICode := (.seq c26k4 c26s3)
def c26 : IFn := ⟨14, [.t 4], c26b⟩
def h26 : List (Nat × List Nat) := [(0, dead 14 [0, 1]), (1, dead 14 [0, 1]), (2, dead 14 [0, 1, 5])]
def c27r0 : List Seg := [
  .one ⟨some 41, .mv (.t 8), none⟩,
  .one ⟨some 42, .mv (.t 0), none⟩,
  .one ⟨some 43, .mv (.t 7), none⟩,
  .one ⟨some 44, .bin .add (.t 43) (.c (.int .i64 1)), none⟩,
  .one ⟨some 45, .mv (.t 2), none⟩,
  .one ⟨some 46, .call (.c (.func 27 [])) [(.t 42), (.t 44), (.t 45)], none⟩,
  .one ⟨some 47, .app 1 8 (.t 41) (.t 46), none⟩,
  .one ⟨some 6, .mv (.t 47), none⟩]
def c27k0 : ICode := .kill (dead 48 [0, 2, 7, 8]) (.ops c27r0)
def c27s1 : ICode := (.seq c27k0 .ret)
def c27r2 : List Seg := [
  .one ⟨some 34, .mv (.t 7), none⟩,
  .one ⟨some 35, .mkslice 1 [.int .i64 0] [(0, 1, (.t 34))], none⟩,
  .one ⟨some 36, .mv (.t 0), none⟩,
  .one ⟨some 37, .mv (.t 1), none⟩,
  .one ⟨some 38, .mv (.t 7), none⟩,
  .one ⟨some 39, .call (.c (.func 27 [])) [(.t 36), (.t 37), (.t 38)], none⟩,
  .one ⟨some 40, .app 1 8 (.t 35) (.t 39), none⟩,
  .one ⟨some 8, .mv (.t 40), none⟩]
def c27k2 : ICode := .kill (dead 48 [0, 1, 2, 7]) (.ops c27r2)
def c27s3 : ICode := (.seq c27k2 c27s1)
def c27r4 : List Seg := [
  .one ⟨some 16, .mv (.t 1), none⟩,
  .one ⟨some 17, .mv (.t 0), none⟩,
  .one ⟨some 18, .mv (.t 1), none⟩,
  .one ⟨some 19, .mv (.t 2), none⟩,
  .one ⟨some 20, .bin .add (.t 18) (.t 19), none⟩,
  .one ⟨some 21, .mv (.t 0), none⟩,
  .one ⟨some 22, .len 0 (.t 21), none⟩,
  .one ⟨some 23, .bin .rem (.t 20) (.t 22), none⟩,
  .one ⟨some 24, .idxS 1 (.t 17) (.t 23), none⟩,
  .one ⟨some 25, .load1 (.t 24), none⟩,
  .one ⟨some 26, .conv .u64 (.t 25), none⟩,
  .one ⟨some 27, .mv (.t 2), none⟩,
  .one ⟨some 28, .mv (.t 1), none⟩,
  .one ⟨some 29, .bin .sub (.t 27) (.t 28), none⟩,
  .one ⟨some 30, .conv .u64 (.t 29), none⟩,
  .one ⟨some 31, .bin .rem (.t 26) (.t 30), none⟩,
  .one ⟨some 32, .conv .i64 (.t 31), none⟩,
  .one ⟨some 33, .bin .add (.t 16) (.t 32), none⟩,
  .one ⟨some 7, .mv (.t 33), none⟩]
def c27k4 : ICode := .kill (dead 48 [0, 1, 2]) (.ops c27r4)
def c27s5 : ICode := (.cond (.t 15) c27k4 .skip)
def c27r6 : List Seg := [
  .one ⟨some 13, .mv (.t 0), none⟩,
  .one ⟨some 14, .len 0 (.t 13), none⟩,
  .one ⟨some 15, .bin .gtr (.t 14) (.c (.int .i64 0)), none⟩]
def c27k6 : ICode := .kill (dead 48 [0, 1, 2, 7]) (.ops c27r6)
def c27s7 : ICode := (.seq (.seq c27k6 c27s5) c27s3)
def c27r8 : List Seg := [
  .one ⟨some 12, .mv (.t 1), none⟩,
  .one ⟨some 7, .mv (.t 12), none⟩]
def c27k8 : ICode := .kill (dead 48 [0, 1, 2]) (.ops c27r8)
def c27s9 : ICode := (.seq c27k8 c27s7)
def c27r10 : List Seg := [
  .one ⟨some 6, .mv (.c .nilslice), none⟩]
def c27k10 : ICode := .kill (dead 48 []) (.ops c27r10)
def c27s11 : ICode := (.cond (.t 11) (.seq c27k10 .ret) .skip)
def c27r12 : List Seg := [
  .one ⟨some 9, .mv (.t 1), none⟩,
  .one ⟨some 10, .mv (.t 2), none⟩,
  .one ⟨some 11, .bin .eql (.t 9) (.t 10), none⟩]
def c27k12 : ICode := .kill (dead 48 [0, 1, 2]) (.ops c27r12)
def c27s13 : ICode := (.seq (.seq c27k12 c27s11) c27s9)
def c27r14 : List Seg := [
  .one ⟨some 6, .mv (.c .nilslice), none⟩]
def c27k14 : ICode := .kill (dead 48 [0, 1, 2]) (.ops c27r14)
def c27b : ICode := (.seq c27k14 c27s13)
def c27 : IFn := ⟨48, [.t 6], c27b⟩
def h27 : List (Nat × List Nat) := [(0, dead 48 [0, 1, 2]), (1, dead 48 [0, 1, 2]), (2, dead 48 []), (3, dead 48 [0, 1, 2]), (4, dead 48 [0, 1, 2, 7]), (5, dead 48 [0, 1, 2]), (6, dead 48 [0, 1, 2, 7]), (7, dead 48 [0, 2, 7, 8])]
def c28r0 : List Seg := [
  .grp [(⟨some 16, .mv (.t 6), none⟩, 0), (⟨some 17, .load1 (.t 1), none⟩, 0), (⟨some 18, .len 0 (.t 17), none⟩, 2), (⟨some 19, .nilck (.t 16), none⟩, 1), (⟨some 20, .fieldA 0 (.t 19), none⟩, 9), (⟨some 21, .idxA 13 13 (.t 20) (.c (.int .i64 0)), none⟩, 25), (⟨some 22, .idxA 13 1 (.t 21) (.t 18), none⟩, 63), (⟨some 23, .load1 (.t 22), none⟩, 127), (⟨some 24, .mv (.t 6), none⟩, 0), (⟨some 25, .load1 (.t 1), none⟩, 0), (⟨some 26, .call (.c (.func 60 [])) [(.t 25)], none⟩, 512), (⟨some 27, .call (.c (.func 59 [])) [(.t 24), (.t 26)], none⟩, 1792)],
  .one ⟨some 2, .mv (.t 23), none⟩,
  .one ⟨some 3, .mv (.t 27), none⟩,
  .one ⟨some 4, .mv (.c (.int .i64 0)), none⟩]
def c28k0 : ICode := .kill (dead 28 [1, 6]) (.ops c28r0)
def c28s1 : ICode := (.seq c28k0 .ret)
def c28r2 : List Seg := [
  .one ⟨some 12, .load1 (.t 1), none⟩,
  .one ⟨some 13, .len 0 (.t 12), none⟩,
  .one ⟨some 14, .mkfn 58 [(.t 1)], none⟩,
  .one ⟨some 15, .call (.c (.func 57 [])) [(.t 13), (.t 14)], none⟩,
  .one ⟨some 6, .mv (.t 15), none⟩]
def c28k2 : ICode := .kill (dead 28 [1]) (.ops c28r2)
def c28s3 : ICode := (.seq c28k2 c28s1)
def c28r4 : List Seg := [
  .one ⟨some 11, .mv (.t 5), none⟩,
  .one ⟨some 2, .mv (.c (.int .i64 0)), none⟩,
  .one ⟨some 3, .mv (.c .nilslice), none⟩,
  .one ⟨some 4, .mv (.t 11), none⟩]
def c28k4 : ICode := .kill (dead 28 [5]) (.ops c28r4)
def c28s5 : ICode := (.cond (.t 10) (.seq c28k4 .ret) .skip)
def c28r6 : List Seg := [
  .one ⟨some 9, .mv (.t 5), none⟩,
  .one ⟨some 10, .bin .neq (.t 9) (.c (.int .i64 0)), none⟩]
def c28k6 : ICode := .kill (dead 28 [1, 5]) (.ops c28r6)
def c28s7 : ICode := (.seq c28k6 c28s5)
def c28r8 : List Seg := [
  .one ⟨some 7, .load1 (.t 1), none⟩,
  .one ⟨some 8, .call (.c (.func 46 [])) [(.t 7)], none⟩,
  .one ⟨some 5, .mv (.t 8), none⟩]
def c28k8 : ICode := .kill (dead 28 [1]) (.ops c28r8)
def c28s9 : ICode := (.seq (.seq c28k8 c28s7) c28s3)
def c28r10 : List Seg := [
  .one ⟨some 1, .box (.t 0), none⟩,
  .one ⟨some 2, .mv (.c (.int .i64 0)), none⟩,
  .one ⟨some 3, .mv (.c .nilslice), none⟩,
  .one ⟨some 4, .mv (.c (.int .i64 0)), none⟩]
def c28k10 : ICode := .kill (dead 28 [0]) (.ops c28r10)
def c28b : ICode := (.seq c28k10 c28s9)
def c28 : IFn := ⟨28, [.t 2, .t 3, .t 4], c28b⟩
def h28 : List (Nat × List Nat) := [(0, dead 28 [0]), (1, dead 28 [1]), (2, dead 28 [1, 5]), (3, dead 28 [5]), (4, dead 28 [1]), (5, dead 28 [1, 6])]
def c29r0 : List Seg := [
  .one ⟨some 18, .mv (.t 7), none⟩,
  .one ⟨some 4, .mv (.t 18), none⟩,
  .one ⟨some 5, .mv (.c (.int .i64 0)), none⟩]
def c29k0 : ICode := .kill (dead 19 [7]) (.ops c29r0)
def c29s1 : ICode := (.seq c29k0 .ret)
def c29r2 : List Seg := [
  .one ⟨some 4, .mv (.c .nilslice), none⟩,
  .one ⟨some 5, .mv (.c (.int .i64 1)), none⟩]
def c29k2 : ICode := .kill (dead 19 []) (.ops c29r2)
def c29s3 : ICode := (.cond (.t 17) (.seq c29k2 .ret) .skip)
def c29r4 : List Seg := [
  .one ⟨some 16, .mv (.t 7), none⟩,
  .one ⟨some 17, .eqv false .slice (.t 16) (.c .nilslice), none⟩]
def c29k4 : ICode := .kill (dead 19 [7]) (.ops c29r4)
def c29s5 : ICode := (.seq (.seq c29k4 c29s3) c29s1)
def c29r6 : List Seg := [
  .one ⟨some 13, .mv (.t 0), none⟩,
  .one ⟨some 14, .mv (.t 1), none⟩,
  .one ⟨some 15, .call (.c (.func 61 [])) [(.t 13), (.t 14)], none⟩,
  .one ⟨some 7, .mv (.t 15), none⟩]
def c29k6 : ICode := .kill (dead 19 [0, 1]) (.ops c29r6)
def c29s7 : ICode := (.seq c29k6 c29s5)
def c29r8 : List Seg := [
  .one ⟨some 12, .mv (.t 6), none⟩,
  .one ⟨some 4, .mv (.c .nilslice), none⟩,
  .one ⟨some 5, .mv (.t 12), none⟩]
def c29k8 : ICode := .kill (dead 19 [6]) (.ops c29r8)
def c29s9 : ICode := (.cond (.t 11) (.seq c29k8 .ret) .skip)
def c29r10 : List Seg := [
  .one ⟨some 10, .mv (.t 6), none⟩,
  .one ⟨some 11, .bin .neq (.t 10) (.c (.int .i64 0)), none⟩]
def c29k10 : ICode := .kill (dead 19 [0, 1, 6]) (.ops c29r10)
def c29s11 : ICode := (.seq c29k10 c29s9)
def c29r12 : List Seg := [
  .one ⟨some 8, .mv (.t 0), none⟩,
  .one ⟨some 9, .call (.c (.func 46 [])) [(.t 8)], none⟩,
  .one ⟨some 6, .mv (.t 9), none⟩]
def c29k12 : ICode := .kill (dead 19 [0, 1]) (.ops c29r12)
def c29s13 : ICode := (.seq (.seq c29k12 c29s11) c29s7)
def c29r14 : List Seg := [
  .one ⟨some 4, .mv (.c .nilslice), none⟩,
  .one ⟨some 5, .mv (.c (.int .i64 0)), none⟩]
def c29k14 : ICode := .kill (dead 19 [0, 1]) (.ops c29r14)
def c29b : ICode := (.seq c29k14 c29s13)
def c29 : IFn := ⟨19, [.t 4, .t 5], c29b⟩
def h29 : List (Nat × List Nat) := [(0, dead 19 [0, 1]), (1, dead 19 [0, 1]), (2, dead 19 [0, 1, 6]), (3, dead 19 [6]), (4, dead 19 [0, 1]), (5, dead 19 [7]), (6, dead 19 []), (7, dead 19 [7])]
def c30r0 : List Seg := [
  .one ⟨some 33, .load1 (.t 9), none⟩,
  .one ⟨some 6, .mv (.t 33), none⟩,
  .one ⟨some 7, .mv (.c (.int .i64 0)), none⟩]
def c30k0 : ICode := .kill (dead 34 [9]) (.ops c30r0)
def c30s1 : ICode := (.seq c30k0 .ret)
def c30r2 : List Seg := [
  .one ⟨some 6, .mv (.c .nilslice), none⟩,
  .one ⟨some 7, .mv (.c (.int .i64 1)), none⟩]
def c30k2 : ICode := .kill (dead 34 []) (.ops c30r2)
def c30s3 : ICode := (.cond (.t 32) (.seq c30k2 .ret) .skip)
def c30r4 : List Seg := [
  .one ⟨some 21, .mv (.t 10), none⟩,
  .one ⟨some 22, .un .not (.t 21), none⟩,
  .one ⟨some 23, .mv (.t 22), none⟩,
  .one ⟨some 24, .load1 (.t 5), some (23, false)⟩,
  .one ⟨some 25, .bin .lss (.t 24) (.c (.int .i64 0)), some (23, false)⟩,
  .one ⟨some 26, .pick (.t 23) (.c (.bool true)) (.t 25), none⟩,
  .one ⟨some 27, .mv (.t 26), none⟩,
  .one ⟨some 28, .load1 (.t 5), some (27, false)⟩,
  .one ⟨some 29, .mv (.t 0), some (27, false)⟩,
  .one ⟨some 30, .len 0 (.t 29), some (27, false)⟩,
  .one ⟨some 31, .bin .gtr (.t 28) (.t 30), some (27, false)⟩,
  .one ⟨some 32, .pick (.t 27) (.c (.bool true)) (.t 31), none⟩]
def c30k4 : ICode := .kill (dead 34 [0, 5, 9, 10]) (.ops c30r4)
def c30s5 : ICode := (.seq (.seq c30k4 c30s3) c30s1)
def c30r6 : List Seg := [
  .one ⟨some 16, .mv (.t 1), none⟩,
  .one ⟨some 17, .mv (.t 0), none⟩,
  .one ⟨some 18, .call (.c (.func 60 [])) [(.t 17)], none⟩,
  .one ⟨some 19, .mkfn 63 [(.t 5), (.t 9)], none⟩,
  .one ⟨some 20, .call (.c (.func 62 [])) [(.t 16), (.t 18), (.t 19)], none⟩,
  .one ⟨some 10, .mv (.t 20), none⟩]
def c30k6 : ICode := .kill (dead 34 [0, 1, 5, 9]) (.ops c30r6)
def c30s7 : ICode := (.seq c30k6 c30s5)
def c30r8 : List Seg := [
  .one ⟨some 9, .box (.c .nilslice), none⟩]
def c30k8 : ICode := .kill (dead 34 [0, 1, 5]) (.ops c30r8)
def c30s9 : ICode := (.seq c30k8 c30s7)
def c30r10 : List Seg := [
  .one ⟨some 15, .mv (.t 8), none⟩,
  .one ⟨some 6, .mv (.c .nilslice), none⟩,
  .one ⟨some 7, .mv (.t 15), none⟩]
def c30k10 : ICode := .kill (dead 34 [8]) (.ops c30r10)
def c30s11 : ICode := (.cond (.t 14) (.seq c30k10 .ret) .skip)
def c30r12 : List Seg := [
  .one ⟨some 13, .mv (.t 8), none⟩,
  .one ⟨some 14, .bin .neq (.t 13) (.c (.int .i64 0)), none⟩]
def c30k12 : ICode := .kill (dead 34 [0, 1, 5, 8]) (.ops c30r12)
def c30s13 : ICode := (.seq c30k12 c30s11)
def c30r14 : List Seg := [
  .one ⟨some 11, .mv (.t 0), none⟩,
  .one ⟨some 12, .call (.c (.func 46 [])) [(.t 11)], none⟩,
  .one ⟨some 8, .mv (.t 12), none⟩]
def c30k14 : ICode := .kill (dead 34 [0, 1, 5]) (.ops c30r14)
def c30s15 : ICode := (.seq (.seq c30k14 c30s13) c30s9)
def c30r16 : List Seg := [
  .one ⟨some 5, .box (.t 2), none⟩,
  .one ⟨some 6, .mv (.c .nilslice), none⟩,
  .one ⟨some 7, .mv (.c (.int .i64 0)), none⟩]
def c30k16 : ICode := .kill (dead 34 [0, 1, 2]) (.ops c30r16)
def c30b : ICode := (.seq c30k16 c30s15)
def c30 : IFn := ⟨34, [.t 6, .t 7], c30b⟩
def h30 : List (Nat × List Nat) := [(0, dead 34 [0, 1, 2]), (1, dead 34 [0, 1, 5]), (2, dead 34 [0, 1, 5, 8]), (3, dead 34 [8]), (4, dead 34 [0, 1, 5]), (5, dead 34 [0, 1, 5, 9]), (6, dead 34 [0, 5, 9, 10]), (7, dead 34 []), (8, dead 34 [9])]
def c31r0 : List Seg := [
  .one ⟨some 16, .mv (.t 6), none⟩,
  .one ⟨some 17, .mv (.t 8), none⟩,
  .one ⟨some 18, .mv (.t 17), none⟩,
  .one ⟨some 19, .mv (.t 7), some (18, true)⟩,
  .one ⟨some 20, .mv (.t 1), some (18, true)⟩,
  .one ⟨some 21, .len 0 (.t 20), some (18, true)⟩,
  .one ⟨some 22, .bin .eql (.t 19) (.t 21), some (18, true)⟩,
  .one ⟨some 23, .pick (.t 18) (.t 22) (.c (.bool false)), none⟩,
  .one ⟨some 4, .mv (.t 16), none⟩,
  .one ⟨some 5, .mv (.t 23), none⟩]
def c31k0 : ICode := .kill (dead 24 [1, 6, 7, 8]) (.ops c31r0)
def c31s1 : ICode := (.seq c31k0 .ret)
def c31r2 : List Seg := [
  .one ⟨some 10, .mv (.t 1), none⟩,
  .one ⟨some 11, .mv (.t 0), none⟩,
  .one ⟨some 12, .call (.c (.func 64 [])) [(.t 10), (.c (.int .i64 0)), (.c (.int .i64 0)), (.t 11)], none⟩,
  .one ⟨some 9, .mv (.t 12), none⟩,
  .one ⟨some 13, .ext (.t 9) 0, none⟩,
  .one ⟨some 14, .ext (.t 9) 1, none⟩,
  .one ⟨some 15, .ext (.t 9) 2, none⟩,
  .one ⟨some 6, .mv (.t 13), none⟩,
  .one ⟨some 7, .mv (.t 14), none⟩,
  .one ⟨some 8, .mv (.t 15), none⟩]
def c31k2 : ICode := .kill (dead 24 [0, 1]) (.ops c31r2)
def c31s3 : ICode := (.seq c31k2 c31s1)
def c31r4 : List Seg := [
  .one ⟨some 4, .mv (.c .nilslice), none⟩,
  .one ⟨some 5, .mv (.c (.bool false)), none⟩]
def c31k4 : ICode := .kill (dead 24 [0, 1]) (.ops c31r4)
def c31b : ICode := (.seq c31k4 c31s3)
def c31 : IFn := ⟨24, [.t 4, .t 5], c31b⟩
def h31 : List (Nat × List Nat) := [(0, dead 24 [0, 1]), (1, dead 24 [0, 1]), (2, dead 24 [1, 6, 7, 8])]
def c32r0 : List Seg := [
  .one ⟨some 4, .mv (.c (.bool true)), none⟩]
def c32k0 : ICode := .kill (dead 26 []) (.ops c32r0)
def c32s1 : ICode := (.seq c32k0 .ret)
def c32r3 : List Seg := [
  .one ⟨some 15, .mv (.t 5), none⟩,
  .one ⟨some 16, .bin .add (.t 15) (.c (.int .i64 1)), none⟩,
  .one ⟨some 5, .mv (.t 16), none⟩]
def c32k3 : ICode := .kill (dead 26 [0, 1, 5]) (.ops c32r3)
def c32r4 : List Seg := [
  .one ⟨some 4, .mv (.c (.bool false)), none⟩]
def c32k4 : ICode := .kill (dead 26 []) (.ops c32r4)
def c32s5 : ICode := (.cond (.t 25) (.seq c32k4 .ret) .skip)
def c32r6 : List Seg := [
  .grp [(⟨some 17, .mv (.t 0), none⟩, 0), (⟨some 18, .mv (.t 5), none⟩, 0), (⟨some 19, .idxS 1 (.t 17) (.t 18), none⟩, 3), (⟨some 20, .load1 (.t 19), none⟩, 7), (⟨some 21, .mv (.t 1), none⟩, 0), (⟨some 22, .mv (.t 5), none⟩, 0), (⟨some 23, .idxS 1 (.t 21) (.t 22), none⟩, 48), (⟨some 24, .load1 (.t 23), none⟩, 112)],
  .one ⟨some 25, .bin .neq (.t 20) (.t 24), none⟩]
def c32k6 : ICode := .kill (dead 26 [0, 1, 5]) (.ops c32r6)
def c32s7 : ICode := (.seq (.block 1 (.seq c32k6 c32s5)) c32k3)
def c32s8 : ICode := (.cond (.t 14) .skip (.exit 0))
def c32r9 : List Seg := [
  .one ⟨some 11, .mv (.t 5), none⟩,
  .one ⟨some 12, .mv (.t 0), none⟩,
  .one ⟨some 13, .len 0 (.t 12), none⟩,
  .one ⟨some 14, .bin .lss (.t 11) (.t 13), none⟩]
def c32k9 : ICode := .kill (dead 26 [0, 1, 5]) (.ops c32r9)
def c32l2 : ICode := (.seq (.seq c32k9 c32s8) c32s7)
def c32s10 : ICode := (.block 0 (.loop c32l2))
def c32r11 : List Seg := [
  .one ⟨some 5, .mv (.c (.int .i64 0)), none⟩]
def c32k11 : ICode := .kill (dead 26 [0, 1]) (.ops c32r11)
def c32s12 : ICode := (.seq (.seq c32k11 c32s10) c32s1)
def c32r13 : List Seg := [
  .one ⟨some 4, .mv (.c (.bool false)), none⟩]
def c32k13 : ICode := .kill (dead 26 []) (.ops c32r13)
def c32s14 : ICode := (.cond (.t 10) (.seq c32k13 .ret) .skip)
def c32r15 : List Seg := [
  .one ⟨some 6, .mv (.t 0), none⟩,
  .one ⟨some 7, .len 0 (.t 6), none⟩,
  .one ⟨some 8, .mv (.t 1), none⟩,
  .one ⟨some 9, .len 0 (.t 8), none⟩,
  .one ⟨some 10, .bin .neq (.t 7) (.t 9), none⟩]
def c32k15 : ICode := .kill (dead 26 [0, 1]) (.ops c32r15)
def c32s16 : ICode := (.seq (.seq c32k15 c32s14) c32s12)
def c32r17 : List Seg := [
  .one ⟨some 4, .mv (.c (.bool false)), none⟩]
def c32k17 : ICode := .kill (dead 26 [0, 1]) (.ops c32r17)
def c32b : ICode := (.seq c32k17 c32s16)
def c32 : IFn := ⟨26, [.t 4], c32b⟩
def h32 : List (Nat × List Nat) := [(0, dead 26 [0, 1]), (1, dead 26 [0, 1]), (2, dead 26 []), (3, dead 26 [0, 1]), (4, dead 26 [0, 1, 5]), (6, dead 26 [0, 1, 5]), (7, dead 26 []), (5, dead 26 [0, 1, 5]), (8, dead 26 [])]
def c33r0 : List Seg := [
  .one ⟨some 40, .mv (.t 5), none⟩,
  .one ⟨some 4, .mv (.t 40), none⟩]
def c33k0 : ICode := .kill (dead 41 [5]) (.ops c33r0)
def c33s1 : ICode := (.seq c33k0 .ret)
def c33r3 : List Seg := [
  .one ⟨some 13, .mv (.t 6), none⟩,
  .one ⟨some 14, .bin .add (.t 13) (.c (.int .i64 1)), none⟩,
  .one ⟨some 6, .mv (.t 14), none⟩]
def c33k3 : ICode := .kill (dead 41 [0, 1, 5, 6]) (.ops c33r3)
def c33r4 : List Seg := [
  .one ⟨some 36, .mv (.t 5), none⟩,
  .one ⟨some 37, .mv (.t 7), none⟩,
  .one ⟨some 38, .mkslice 1 [.int .i64 0] [(0, 1, (.t 37))], none⟩,
  .one ⟨some 39, .app 1 8 (.t 36) (.t 38), none⟩,
  .one ⟨some 5, .mv (.t 39), none⟩]
def c33k4 : ICode := .kill (dead 41 [0, 1, 5, 6, 7]) (.ops c33r4)
def c33r6 : List Seg := [
  .one ⟨some 22, .mv (.t 8), none⟩,
  .one ⟨some 23, .bin .add (.t 22) (.c (.int .i64 1)), none⟩,
  .one ⟨some 8, .mv (.t 23), none⟩]
def c33k6 : ICode := .kill (dead 41 [0, 1, 5, 6, 7, 8]) (.ops c33r6)
def c33r7 : List Seg := [
  .one ⟨some 24, .mv (.t 7), none⟩,
  .one ⟨some 25, .mv (.t 0), none⟩,
  .one ⟨some 26, .mv (.t 1), none⟩,
  .one ⟨some 27, .mv (.t 6), none⟩,
  .one ⟨some 28, .idxS 1 (.t 26) (.t 27), none⟩,
  .one ⟨some 29, .load1 (.t 28), none⟩,
  .one ⟨some 30, .mv (.t 8), none⟩,
  .one ⟨some 31, .idxS 1 (.t 29) (.t 30), none⟩,
  .one ⟨some 32, .load1 (.t 31), none⟩,
  .one ⟨some 33, .idxS 1 (.t 25) (.t 32), none⟩,
  .one ⟨some 34, .load1 (.t 33), none⟩,
  .one ⟨some 35, .bin .add (.t 24) (.t 34), none⟩,
  .one ⟨some 7, .mv (.t 35), none⟩]
def c33k7 : ICode := .kill (dead 41 [0, 1, 5, 6, 7, 8]) (.ops c33r7)
def c33s8 : ICode := (.seq (.block 3 c33k7) c33k6)
def c33s9 : ICode := (.cond (.t 21) .skip (.exit 2))
def c33r10 : List Seg := [
  .one ⟨some 15, .mv (.t 8), none⟩,
  .one ⟨some 16, .mv (.t 1), none⟩,
  .one ⟨some 17, .mv (.t 6), none⟩,
  .one ⟨some 18, .idxS 1 (.t 16) (.t 17), none⟩,
  .one ⟨some 19, .load1 (.t 18), none⟩,
  .one ⟨some 20, .len 0 (.t 19), none⟩,
  .one ⟨some 21, .bin .lss (.t 15) (.t 20), none⟩]
def c33k10 : ICode := .kill (dead 41 [0, 1, 5, 6, 7, 8]) (.ops c33r10)
def c33l5 : ICode := (.seq (.seq c33k10 c33s9) c33s8)
def c33s11 : ICode := (.block 2 (.loop c33l5))
def c33r12 : List Seg := [
  .one ⟨some 8, .mv (.c (.int .i64 0)), none⟩]
def c33k12 : ICode := .kill (dead 41 [0, 1, 5, 6, 7]) (.ops c33r12)
def c33s13 : ICode := (.seq (.seq c33k12 c33s11) c33k4)
def c33r14 : List Seg := [
  .one ⟨some 7, .mv (.c (.int .i64 0)), none⟩]
def c33k14 : ICode := .kill (dead 41 [0, 1, 5, 6]) (.ops c33r14)
def c33s15 : ICode := (.seq (.block 1 (.seq c33k14 c33s13)) c33k3)
def c33s16 : ICode := (.cond (.t 12) .skip (.exit 0))
def c33r17 : List Seg := [
  .one ⟨some 9, .mv (.t 6), none⟩,
  .one ⟨some 10, .mv (.t 1), none⟩,
  .one ⟨some 11, .len 0 (.t 10), none⟩,
  .one ⟨some 12, .bin .lss (.t 9) (.t 11), none⟩]
def c33k17 : ICode := .kill (dead 41 [0, 1, 5, 6]) (.ops c33r17)
def c33l2 : ICode := (.seq (.seq c33k17 c33s16) c33s15)
def c33s18 : ICode := (.block 0 (.loop c33l2))
def c33r19 : List Seg := [
  .one ⟨some 6, .mv (.c (.int .i64 0)), none⟩]
def c33k19 : ICode := .kill (dead 41 [0, 1, 5]) (.ops c33r19)
def c33s20 : ICode := (.seq (.seq c33k19 c33s18) c33s1)
def c33r21 : List Seg := [
  .one ⟨some 5, .mv (.c .nilslice), none⟩]
def c33k21 : ICode := .kill (dead 41 [0, 1]) (.ops c33r21)
def c33s22 : ICode := (.seq c33k21 c33s20)
def c33r23 : List Seg := [
  .one ⟨some 4, .mv (.c .nilslice), none⟩]
def c33k23 : ICode := .kill (dead 41 [0, 1]) (.ops c33r23)
def c33b : ICode := (.seq c33k23 c33s22)
def c33 : IFn := ⟨41, [.t 4], c33b⟩
def h33 : List (Nat × List Nat) := [(0, dead 41 [0, 1]), (1, dead 41 [0, 1]), (2, dead 41 [0, 1, 5]), (3, dead 41 [0, 1, 5, 6]), (5, dead 41 [0, 1, 5, 6]), (6, dead 41 [0, 1, 5, 6, 7]), (7, dead 41 [0, 1, 5, 6, 7, 8]), (9, dead 41 [0, 1, 5, 6, 7, 8]), (8, dead 41 [0, 1, 5, 6, 7, 8]), (10, dead 41 [0, 1, 5, 6, 7]), (4, dead 41 [0, 1, 5, 6]), (11, dead 41 [5])]
def c34r0 : List Seg := [
  .one ⟨some 38, .mv (.t 5), none⟩,
  .one ⟨some 4, .mv (.t 38), none⟩]
def c34k0 : ICode := .kill (dead 39 [5]) (.ops c34r0)
def c34s1 : ICode := (.seq c34k0 .ret)
def c34r2 : List Seg := [
  .one ⟨some 36, .mv (.t 5), none⟩,
  .one ⟨some 37, .idxS 1 (.t 36) (.c (.int .i64 0)), none⟩,
  .one ⟨none, .store1 (.t 37) (.c (.int .i64 1)), none⟩]
def c34k2 : ICode := .kill (dead 39 [5]) (.ops c34r2)
def c34s3 : ICode := (.cond (.t 35) c34k2 .skip)
def c34r4 : List Seg := [
  .one ⟨some 34, .mv (.t 6), none⟩,
  .one ⟨some 35, .un .not (.t 34), none⟩]
def c34k4 : ICode := .kill (dead 39 [5, 6]) (.ops c34r4)
def c34s5 : ICode := (.seq (.seq c34k4 c34s3) c34s1)
def c34r7 : List Seg := [
  .one ⟨some 12, .mv (.t 7), none⟩,
  .one ⟨some 13, .bin .add (.t 12) (.c (.int .i64 1)), none⟩,
  .one ⟨some 7, .mv (.t 13), none⟩]
def c34k7 : ICode := .kill (dead 39 [0, 1, 5, 6, 7]) (.ops c34r7)
def c34r8 : List Seg := [
  .one ⟨some 30, .mv (.t 5), none⟩,
  .one ⟨some 31, .mv (.t 8), none⟩,
  .one ⟨some 32, .mkslice 1 [.int .i64 0] [(0, 1, (.t 31))], none⟩,
  .one ⟨some 33, .app 1 8 (.t 30) (.t 32), none⟩,
  .one ⟨some 5, .mv (.t 33), none⟩]
def c34k8 : ICode := .kill (dead 39 [0, 1, 5, 6, 7, 8]) (.ops c34r8)
def c34r9 : List Seg := [
  .one ⟨some 25, .mv (.t 6), none⟩,
  .one ⟨some 26, .mv (.t 25), none⟩,
  .one ⟨some 27, .mv (.t 8), some (26, false)⟩,
  .one ⟨some 28, .bin .gtr (.t 27) (.c (.int .i64 0)), some (26, false)⟩,
  .one ⟨some 29, .pick (.t 26) (.c (.bool true)) (.t 28), none⟩,
  .one ⟨some 6, .mv (.t 29), none⟩]
def c34k9 : ICode := .kill (dead 39 [0, 1, 5, 6, 7, 8]) (.ops c34r9)
def c34s10 : ICode := (.seq c34k9 c34k8)
def c34r11 : List Seg := [
  .one ⟨some 18, .mv (.t 0), none⟩,
  .one ⟨some 19, .mv (.t 7), none⟩,
  .one ⟨some 20, .idxS 1 (.t 18) (.t 19), none⟩,
  .one ⟨some 21, .load1 (.t 20), none⟩,
  .one ⟨some 22, .conv .u64 (.t 21), none⟩,
  .one ⟨some 23, .bin .rem (.t 22) (.c (.int .u64 1001)), none⟩,
  .one ⟨some 24, .conv .i64 (.t 23), none⟩,
  .one ⟨some 8, .mv (.t 24), none⟩]
def c34k11 : ICode := .kill (dead 39 [0, 1, 5, 6, 7]) (.ops c34r11)
def c34s12 : ICode := (.cond (.t 17) c34k11 .skip)
def c34r13 : List Seg := [
  .one ⟨some 14, .mv (.t 7), none⟩,
  .one ⟨some 15, .mv (.t 0), none⟩,
  .one ⟨some 16, .len 0 (.t 15), none⟩,
  .one ⟨some 17, .bin .lss (.t 14) (.t 16), none⟩]
def c34k13 : ICode := .kill (dead 39 [0, 1, 5, 6, 7, 8]) (.ops c34r13)
def c34s14 : ICode := (.seq (.seq c34k13 c34s12) c34s10)
def c34r15 : List Seg := [
  .one ⟨some 8, .mv (.c (.int .i64 0)), none⟩]
def c34k15 : ICode := .kill (dead 39 [0, 1, 5, 6, 7]) (.ops c34r15)
def c34s16 : ICode := (.seq (.block 1 (.seq c34k15 c34s14)) c34k7)
def c34s17 : ICode := (.cond (.t 11) .skip (.exit 0))
def c34r18 : List Seg := [
  .one ⟨some 9, .mv (.t 7), none⟩,
  .one ⟨some 10, .mv (.t 1), none⟩,
  .one ⟨some 11, .bin .leq (.t 9) (.t 10), none⟩]
def c34k18 : ICode := .kill (dead 39 [0, 1, 5, 6, 7]) (.ops c34r18)
def c34l6 : ICode := (.seq (.seq c34k18 c34s17) c34s16)
def c34s19 : ICode := (.block 0 (.loop c34l6))
def c34r20 : List Seg := [
  .one ⟨some 7, .mv (.c (.int .i64 0)), none⟩]
def c34k20 : ICode := .kill (dead 39 [0, 1, 5, 6]) (.ops c34r20)
def c34s21 : ICode := (.seq (.seq c34k20 c34s19) c34s5)
def c34r22 : List Seg := [
  .one ⟨some 6, .mv (.c (.bool false)), none⟩]
def c34k22 : ICode := .kill (dead 39 [0, 1, 5]) (.ops c34r22)
def c34s23 : ICode := (.seq c34k22 c34s21)
def c34r24 : List Seg := [
  .one ⟨some 5, .mv (.c .nilslice), none⟩]
def c34k24 : ICode := .kill (dead 39 [0, 1]) (.ops c34r24)
def c34s25 : ICode := (.seq c34k24 c34s23)
def c34r26 : List Seg := [
  .one ⟨some 4, .mv (.c .nilslice), none⟩]
def c34k26 : ICode := .kill (dead 39 [0, 1]) (.ops c34r26)
def c34b : ICode := (.seq c34k26 c34s25)
def c34 : IFn := ⟨39, [.t 4], c34b⟩
def h34 : List (Nat × List Nat) := [(0, dead 39 [0, 1]), (1, dead 39 [0, 1]), (2, dead 39 [0, 1, 5]), (3, dead 39 [0, 1, 5, 6]), (4, dead 39 [0, 1, 5, 6, 7]), (6, dead 39 [0, 1, 5, 6, 7]), (7, dead 39 [0, 1, 5, 6, 7, 8]), (8, dead 39 [0, 1, 5, 6, 7]), (9, dead 39 [0, 1, 5, 6, 7, 8]), (10, dead 39 [0, 1, 5, 6, 7, 8]), (5, dead 39 [0, 1, 5, 6, 7]), (11, dead 39 [5, 6]), (12, dead 39 [5]), (13, dead 39 [5])]
def c35r0 : List Seg := [
  .grp [(⟨some 19, .mv (.t 8), none⟩, 0), (⟨some 20, .load1 (.t 2), none⟩, 0), (⟨some 21, .len 0 (.t 20), none⟩, 2), (⟨some 22, .nilck (.t 19), none⟩, 1), (⟨some 23, .fieldA 0 (.t 22), none⟩, 9), (⟨some 24, .idxA 13 13 (.t 23) (.c (.int .i64 0)), none⟩, 25), (⟨some 25, .idxA 13 1 (.t 24) (.t 21), none⟩, 63), (⟨some 26, .load1 (.t 25), none⟩, 127), (⟨some 27, .mv (.t 8), none⟩, 0), (⟨some 28, .load1 (.t 2), none⟩, 0), (⟨some 29, .call (.c (.func 60 [])) [(.t 28)], none⟩, 512), (⟨some 30, .call (.c (.func 59 [])) [(.t 27), (.t 29)], none⟩, 1792)],
  .one ⟨some 4, .mv (.t 26), none⟩,
  .one ⟨some 5, .mv (.t 30), none⟩,
  .one ⟨some 6, .mv (.c (.int .i64 0)), none⟩]
def c35k0 : ICode := .kill (dead 31 [2, 8]) (.ops c35r0)
def c35s1 : ICode := (.seq c35k0 .ret)
def c35r2 : List Seg := [
  .one ⟨some 15, .load1 (.t 2), none⟩,
  .one ⟨some 16, .len 0 (.t 15), none⟩,
  .one ⟨some 17, .mkfn 66 [(.t 2), (.t 3)], none⟩,
  .one ⟨some 18, .call (.c (.func 57 [])) [(.t 16), (.t 17)], none⟩,
  .one ⟨some 8, .mv (.t 18), none⟩]
def c35k2 : ICode := .kill (dead 31 [2, 3]) (.ops c35r2)
def c35s3 : ICode := (.seq c35k2 c35s1)
def c35r4 : List Seg := [
  .one ⟨some 14, .mv (.t 7), none⟩,
  .one ⟨some 4, .mv (.c (.int .i64 0)), none⟩,
  .one ⟨some 5, .mv (.c .nilslice), none⟩,
  .one ⟨some 6, .mv (.t 14), none⟩]
def c35k4 : ICode := .kill (dead 31 [7]) (.ops c35r4)
def c35s5 : ICode := (.cond (.t 13) (.seq c35k4 .ret) .skip)
def c35r6 : List Seg := [
  .one ⟨some 12, .mv (.t 7), none⟩,
  .one ⟨some 13, .bin .neq (.t 12) (.c (.int .i64 0)), none⟩]
def c35k6 : ICode := .kill (dead 31 [2, 3, 7]) (.ops c35r6)
def c35s7 : ICode := (.seq c35k6 c35s5)
def c35r8 : List Seg := [
  .one ⟨some 9, .load1 (.t 2), none⟩,
  .one ⟨some 10, .load1 (.t 3), none⟩,
  .one ⟨some 11, .call (.c (.func 65 [])) [(.t 9), (.t 10)], none⟩,
  .one ⟨some 7, .mv (.t 11), none⟩]
def c35k8 : ICode := .kill (dead 31 [2, 3]) (.ops c35r8)
def c35s9 : ICode := (.seq (.seq c35k8 c35s7) c35s3)
def c35r10 : List Seg := [
  .one ⟨some 2, .box (.t 0), none⟩,
  .one ⟨some 3, .box (.t 1), none⟩,
  .one ⟨some 4, .mv (.c (.int .i64 0)), none⟩,
  .one ⟨some 5, .mv (.c .nilslice), none⟩,
  .one ⟨some 6, .mv (.c (.int .i64 0)), none⟩]
def c35k10 : ICode := .kill (dead 31 [0, 1]) (.ops c35r10)
def c35b : ICode := (.seq c35k10 c35s9)
def c35 : IFn := ⟨31, [.t 4, .t 5, .t 6], c35b⟩
def h35 : List (Nat × List Nat) := [(0, dead 31 [0, 1]), (1, dead 31 [2, 3]), (2, dead 31 [2, 3, 7]), (3, dead 31 [7]), (4, dead 31 [2, 3]), (5, dead 31 [2, 8])]
def c36r0 : List Seg := [
  .one ⟨some 135, .mv (.t 10), none⟩,
  .one ⟨some 136, .mv (.t 2), none⟩,
  .one ⟨some 137, .idxS 1 (.t 135) (.t 136), none⟩,
  .one ⟨some 138, .load1 (.t 137), none⟩,
  .one ⟨some 139, .mv (.t 3), none⟩,
  .one ⟨some 140, .idxS 1 (.t 138) (.t 139), none⟩,
  .one ⟨some 141, .load1 (.t 140), none⟩,
  .one ⟨some 8, .mv (.t 141), none⟩]
def c36k0 : ICode := .kill (dead 142 [2, 3, 10]) (.ops c36r0)
def c36s1 : ICode := (.seq c36k0 .ret)
def c36r3 : List Seg := [
  .one ⟨some 25, .mv (.t 11), none⟩,
  .one ⟨some 26, .bin .sub (.t 25) (.c (.int .i64 1)), none⟩,
  .one ⟨some 11, .mv (.t 26), none⟩]
def c36k3 : ICode := .kill (dead 142 [0, 1, 2, 3, 9, 10, 11]) (.ops c36r3)
def c36r5 : List Seg := [
  .one ⟨some 36, .mv (.t 13), none⟩,
  .one ⟨some 37, .bin .add (.t 36) (.c (.int .i64 1)), none⟩,
  .one ⟨some 13, .mv (.t 37), none⟩]
def c36k5 : ICode := .kill (dead 142 [0, 1, 2, 3, 9, 10, 11, 12, 13]) (.ops c36r5)
def c36r7 : List Seg := [
  .one ⟨some 60, .mv (.t 14), none⟩,
  .one ⟨some 61, .bin .add (.t 60) (.c (.int .i64 1)), none⟩,
  .one ⟨some 14, .mv (.t 61), none⟩]
def c36k7 : ICode := .kill (dead 142 [0, 1, 2, 3, 9, 10, 11, 12, 13, 14]) (.ops c36r7)
def c36r8 : List Seg := [
  .one ⟨some 128, .mv (.t 10), none⟩,
  .one ⟨some 129, .mv (.t 11), none⟩,
  .one ⟨some 130, .idxS 1 (.t 128) (.t 129), none⟩,
  .one ⟨some 131, .load1 (.t 130), none⟩,
  .one ⟨some 132, .mv (.t 13), none⟩,
  .one ⟨some 133, .mv (.t 15), none⟩,
  .one ⟨some 134, .idxS 1 (.t 131) (.t 132), none⟩,
  .one ⟨none, .store1 (.t 134) (.t 133), none⟩]
def c36k8 : ICode := .kill (dead 142 [0, 1, 2, 3, 9, 10, 11, 12, 13, 14, 15]) (.ops c36r8)
def c36s9 : ICode := (.cond (.t 127) c36k8 .skip)
def c36r10 : List Seg := [
  .one ⟨some 109, .mv (.t 10), none⟩,
  .one ⟨some 110, .mv (.t 11), none⟩,
  .one ⟨some 111, .idxS 1 (.t 109) (.t 110), none⟩,
  .one ⟨some 112, .load1 (.t 111), none⟩,
  .one ⟨some 113, .mv (.t 13), none⟩,
  .one ⟨some 114, .idxS 1 (.t 112) (.t 113), none⟩,
  .one ⟨some 115, .load1 (.t 114), none⟩,
  .one ⟨some 116, .bin .lss (.t 115) (.c (.int .i64 0)), none⟩,
  .one ⟨some 117, .mv (.t 116), none⟩,
  .one ⟨some 118, .mv (.t 15), some (117, false)⟩,
  .one ⟨some 119, .mv (.t 10), some (117, false)⟩,
  .one ⟨some 120, .mv (.t 11), some (117, false)⟩,
  .one ⟨some 121, .idxS 1 (.t 119) (.t 120), some (117, false)⟩,
  .one ⟨some 122, .load1 (.t 121), some (117, false)⟩,
  .one ⟨some 123, .mv (.t 13), some (117, false)⟩,
  .one ⟨some 124, .idxS 1 (.t 122) (.t 123), some (117, false)⟩,
  .one ⟨some 125, .load1 (.t 124), some (117, false)⟩,
  .one ⟨some 126, .bin .lss (.t 118) (.t 125), some (117, false)⟩,
  .one ⟨some 127, .pick (.t 117) (.c (.bool true)) (.t 126), none⟩]
def c36k10 : ICode := .kill (dead 142 [0, 1, 2, 3, 9, 10, 11, 12, 13, 14, 15]) (.ops c36r10)
def c36s11 : ICode := (.seq c36k10 c36s9)
def c36r12 : List Seg := [
  .grp [(⟨some 86, .mv (.t 12), none⟩, 0), (⟨some 87, .mv (.t 0), none⟩, 0), (⟨some 88, .mv (.t 14), none⟩, 0), (⟨some 89, .idxS 1 (.t 87) (.t 88), none⟩, 6), (⟨some 90, .load1 (.t 89), none⟩, 14), (⟨some 91, .bin .mul (.t 86) (.t 90), none⟩, 31), (⟨some 92, .mv (.t 10), none⟩, 0), (⟨some 93, .mv (.t 11), none⟩, 0), (⟨some 94, .idxS 1 (.t 92) (.t 93), none⟩, 192), (⟨some 95, .load1 (.t 94), none⟩, 448), (⟨some 96, .mv (.t 14), none⟩, 0), (⟨some 97, .idxS 1 (.t 95) (.t 96), none⟩, 1984), (⟨some 98, .load1 (.t 97), none⟩, 4032), (⟨some 99, .bin .add (.t 91) (.t 98), none⟩, 8191), (⟨some 100, .mv (.t 10), none⟩, 0), (⟨some 101, .mv (.t 14), none⟩, 0), (⟨some 102, .bin .add (.t 101) (.c (.int .i64 1)), none⟩, 32768), (⟨some 103, .idxS 1 (.t 100) (.t 102), none⟩, 114688), (⟨some 104, .load1 (.t 103), none⟩, 245760), (⟨some 105, .mv (.t 13), none⟩, 0), (⟨some 106, .idxS 1 (.t 104) (.t 105), none⟩, 1032192), (⟨some 107, .load1 (.t 106), none⟩, 2080768)],
  .one ⟨some 108, .bin .add (.t 99) (.t 107), none⟩,
  .one ⟨some 15, .mv (.t 108), none⟩]
def c36k12 : ICode := .kill (dead 142 [0, 1, 2, 3, 9, 10, 11, 12, 13, 14]) (.ops c36r12)
def c36s13 : ICode := (.cond (.t 85) c36k12 .skip)
def c36r14 : List Seg := [
  .one ⟨some 83, .mv (.t 1), none⟩,
  .one ⟨some 84, .len 0 (.t 83), none⟩,
  .one ⟨some 85, .bin .gtr (.t 84) (.c (.int .i64 0)), none⟩]
def c36k14 : ICode := .kill (dead 142 [0, 1, 2, 3, 9, 10, 11, 12, 13, 14, 15]) (.ops c36r14)
def c36s15 : ICode := (.seq (.seq c36k14 c36s13) c36s11)
def c36r16 : List Seg := [
  .grp [(⟨some 62, .mv (.t 0), none⟩, 0), (⟨some 63, .mv (.t 14), none⟩, 0), (⟨some 64, .idxS 1 (.t 62) (.t 63), none⟩, 3), (⟨some 65, .load1 (.t 64), none⟩, 7), (⟨some 66, .mv (.t 10), none⟩, 0), (⟨some 67, .mv (.t 11), none⟩, 0), (⟨some 68, .idxS 1 (.t 66) (.t 67), none⟩, 48), (⟨some 69, .load1 (.t 68), none⟩, 112), (⟨some 70, .mv (.t 14), none⟩, 0), (⟨some 71, .idxS 1 (.t 69) (.t 70), none⟩, 496), (⟨some 72, .load1 (.t 71), none⟩, 1008), (⟨some 73, .mv (.t 10), none⟩, 0), (⟨some 74, .mv (.t 14), none⟩, 0), (⟨some 75, .bin .add (.t 74) (.c (.int .i64 1)), none⟩, 4096), (⟨some 76, .idxS 1 (.t 73) (.t 75), none⟩, 14336), (⟨some 77, .load1 (.t 76), none⟩, 30720), (⟨some 78, .mv (.t 13), none⟩, 0), (⟨some 79, .idxS 1 (.t 77) (.t 78), none⟩, 129024), (⟨some 80, .load1 (.t 79), none⟩, 260096), (⟨some 81, .mx [(.t 72), (.t 80)], none⟩, 524272)],
  .one ⟨some 82, .bin .add (.t 65) (.t 81), none⟩,
  .one ⟨some 15, .mv (.t 82), none⟩]
def c36k16 : ICode := .kill (dead 142 [0, 1, 2, 3, 9, 10, 11, 12, 13, 14]) (.ops c36r16)
def c36s17 : ICode := (.seq (.block 5 (.seq c36k16 c36s15)) c36k7)
def c36s18 : ICode := (.cond (.t 59) .skip (.exit 4))
def c36r19 : List Seg := [
  .one ⟨some 57, .mv (.t 14), none⟩,
  .one ⟨some 58, .mv (.t 13), none⟩,
  .one ⟨some 59, .bin .lss (.t 57) (.t 58), none⟩]
def c36k19 : ICode := .kill (dead 142 [0, 1, 2, 3, 9, 10, 11, 12, 13, 14]) (.ops c36r19)
def c36l6 : ICode := (.seq (.seq c36k19 c36s18) c36s17)
def c36s20 : ICode := (.block 4 (.loop c36l6))
def c36r21 : List Seg := [
  .one ⟨some 56, .mv (.t 11), none⟩,
  .one ⟨some 14, .mv (.t 56), none⟩]
def c36k21 : ICode := .kill (dead 142 [0, 1, 2, 3, 9, 10, 11, 12, 13]) (.ops c36r21)
def c36s22 : ICode := (.seq c36k21 c36s20)
def c36r23 : List Seg := [
  .one ⟨some 50, .mv (.t 10), none⟩,
  .one ⟨some 51, .mv (.t 11), none⟩,
  .one ⟨some 52, .idxS 1 (.t 50) (.t 51), none⟩,
  .one ⟨some 53, .load1 (.t 52), none⟩,
  .one ⟨some 54, .mv (.t 13), none⟩,
  .one ⟨some 55, .idxS 1 (.t 53) (.t 54), none⟩,
  .one ⟨none, .store1 (.t 55) (.c (.int .i64 (-1))), none⟩]
def c36k23 : ICode := .kill (dead 142 [0, 1, 2, 3, 9, 10, 11, 12, 13]) (.ops c36r23)
def c36s24 : ICode := (.seq c36k23 c36s22)
def c36s25 : ICode := (.cond (.t 49) (.exit 3) .skip)
def c36r26 : List Seg := [
  .one ⟨some 47, .mv (.t 13), none⟩,
  .one ⟨some 48, .mv (.t 11), none⟩,
  .one ⟨some 49, .bin .eql (.t 47) (.t 48), none⟩]
def c36k26 : ICode := .kill (dead 142 [0, 1, 2, 3, 9, 10, 11, 12, 13]) (.ops c36r26)
def c36s27 : ICode := (.seq (.seq c36k26 c36s25) c36s24)
def c36r28 : List Seg := [
  .one ⟨some 41, .mv (.t 12), none⟩,
  .one ⟨some 42, .mv (.t 1), none⟩,
  .one ⟨some 43, .mv (.t 13), none⟩,
  .one ⟨some 44, .idxS 1 (.t 42) (.t 43), none⟩,
  .one ⟨some 45, .load1 (.t 44), none⟩,
  .one ⟨some 46, .bin .add (.t 41) (.t 45), none⟩,
  .one ⟨some 12, .mv (.t 46), none⟩]
def c36k28 : ICode := .kill (dead 142 [0, 1, 2, 3, 9, 10, 11, 12, 13]) (.ops c36r28)
def c36s29 : ICode := (.cond (.t 40) c36k28 .skip)
def c36r30 : List Seg := [
  .one ⟨some 38, .mv (.t 1), none⟩,
  .one ⟨some 39, .len 0 (.t 38), none⟩,
  .one ⟨some 40, .bin .gtr (.t 39) (.c (.int .i64 0)), none⟩]
def c36k30 : ICode := .kill (dead 142 [0, 1, 2, 3, 9, 10, 11, 12, 13]) (.ops c36r30)
def c36s31 : ICode := (.seq (.block 3 (.seq (.seq c36k30 c36s29) c36s27)) c36k5)
def c36s32 : ICode := (.cond (.t 35) .skip (.exit 2))
def c36r33 : List Seg := [
  .one ⟨some 33, .mv (.t 13), none⟩,
  .one ⟨some 34, .mv (.t 9), none⟩,
  .one ⟨some 35, .bin .lss (.t 33) (.t 34), none⟩]
def c36k33 : ICode := .kill (dead 142 [0, 1, 2, 3, 9, 10, 11, 12, 13]) (.ops c36r33)
def c36l4 : ICode := (.seq (.seq c36k33 c36s32) c36s31)
def c36s34 : ICode := (.block 2 (.loop c36l4))
def c36r35 : List Seg := [
  .one ⟨some 32, .mv (.t 11), none⟩,
  .one ⟨some 13, .mv (.t 32), none⟩]
def c36k35 : ICode := .kill (dead 142 [0, 1, 2, 3, 9, 10, 11, 12]) (.ops c36r35)
def c36s36 : ICode := (.seq c36k35 c36s34)
def c36r37 : List Seg := [
  .one ⟨some 12, .mv (.c (.int .i64 0)), none⟩]
def c36k37 : ICode := .kill (dead 142 [0, 1, 2, 3, 9, 10, 11]) (.ops c36r37)
def c36s38 : ICode := (.seq c36k37 c36s36)
def c36r39 : List Seg := [
  .one ⟨some 27, .mv (.t 10), none⟩,
  .one ⟨some 28, .mv (.t 11), none⟩,
  .one ⟨some 29, .mv (.t 9), none⟩,
  .one ⟨some 30, .make [.int .i64 0] 8 (.t 29) (.t 29), none⟩,
  .one ⟨some 31, .idxS 1 (.t 27) (.t 28), none⟩,
  .one ⟨none, .store1 (.t 31) (.t 30), none⟩]
def c36k39 : ICode := .kill (dead 142 [0, 1, 2, 3, 9, 10, 11]) (.ops c36r39)
def c36s40 : ICode := (.seq (.block 1 (.seq c36k39 c36s38)) c36k3)
def c36s41 : ICode := (.cond (.t 24) .skip (.exit 0))
def c36r42 : List Seg := [
  .one ⟨some 23, .mv (.t 11), none⟩,
  .one ⟨some 24, .bin .geq (.t 23) (.c (.int .i64 0)), none⟩]
def c36k42 : ICode := .kill (dead 142 [0, 1, 2, 3, 9, 10, 11]) (.ops c36r42)
def c36l2 : ICode := (.seq (.seq c36k42 c36s41) c36s40)
def c36s43 : ICode := (.block 0 (.loop c36l2))
def c36r44 : List Seg := [
  .one ⟨some 21, .mv (.t 9), none⟩,
  .one ⟨some 22, .bin .sub (.t 21) (.c (.int .i64 1)), none⟩,
  .one ⟨some 11, .mv (.t 22), none⟩]
def c36k44 : ICode := .kill (dead 142 [0, 1, 2, 3, 9, 10]) (.ops c36r44)
def c36s45 : ICode := (.seq (.seq c36k44 c36s43) c36s1)
def c36r46 : List Seg := [
  .one ⟨some 19, .mv (.t 9), none⟩,
  .one ⟨some 20, .make [.nilslice] 24 (.t 19) (.t 19), none⟩,
  .one ⟨some 10, .mv (.t 20), none⟩]
def c36k46 : ICode := .kill (dead 142 [0, 1, 2, 3, 9]) (.ops c36r46)
def c36s47 : ICode := (.seq c36k46 c36s45)
def c36r48 : List Seg := [
  .one ⟨some 16, .mv (.t 0), none⟩,
  .one ⟨some 17, .len 0 (.t 16), none⟩,
  .one ⟨some 18, .bin .add (.t 17) (.c (.int .i64 1)), none⟩,
  .one ⟨some 9, .mv (.t 18), none⟩]
def c36k48 : ICode := .kill (dead 142 [0, 1, 2, 3]) (.ops c36r48)
def c36s49 : ICode := (.seq c36k48 c36s47)
def c36r50 : List Seg := [
  .one ⟨some 8, .mv (.c (.int .i64 0)), none⟩]
def c36k50 : ICode := .kill (dead 142 [0, 1, 2, 3]) (.ops c36r50)
def c36b : ICode := (.seq c36k50 c36s49)
def c36 : IFn := ⟨142, [.t 8], c36b⟩
def h36 : List (Nat × List Nat) := [(0, dead 142 [0, 1, 2, 3]), (1, dead 142 [0, 1, 2, 3]), (2, dead 142 [0, 1, 2, 3, 9]), (3, dead 142 [0, 1, 2, 3, 9, 10]), (4, dead 142 [0, 1, 2, 3, 9, 10, 11]), (6, dead 142 [0, 1, 2, 3, 9, 10, 11]), (7, dead 142 [0, 1, 2, 3, 9, 10, 11]), (8, dead 142 [0, 1, 2, 3, 9, 10, 11, 12]), (9, dead 142 [0, 1, 2, 3, 9, 10, 11, 12, 13]), (11, dead 142 [0, 1, 2, 3, 9, 10, 11, 12, 13]), (12, dead 142 [0, 1, 2, 3, 9, 10, 11, 12, 13]), (13, dead 142 [0, 1, 2, 3, 9, 10, 11, 12, 13]), (14, dead 142 [0, 1, 2, 3, 9, 10, 11, 12, 13]), (15, dead 142 [0, 1, 2, 3, 9, 10, 11, 12, 13]), (16, dead 142 [0, 1, 2, 3, 9, 10, 11, 12, 13, 14]), (18, dead 142 [0, 1, 2, 3, 9, 10, 11, 12, 13, 14]), (19, dead 142 [0, 1, 2, 3, 9, 10, 11, 12, 13, 14, 15]), (20, dead 142 [0, 1, 2, 3, 9, 10, 11, 12, 13, 14]), (21, dead 142 [0, 1, 2, 3, 9, 10, 11, 12, 13, 14, 15]), (22, dead 142 [0, 1, 2, 3, 9, 10, 11, 12, 13, 14, 15]), (17, dead 142 [0, 1, 2, 3, 9, 10, 11, 12, 13, 14]), (10, dead 142 [0, 1, 2, 3, 9, 10, 11, 12, 13]), (5, dead 142 [0, 1, 2, 3, 9, 10, 11]), (23, dead 142 [2, 3, 10])]
def c37r0 : List Seg := [
  .one ⟨some 17, .mv (.t 3), none⟩,
  .one ⟨some 2, .mv (.t 17), none⟩]
def c37k0 : ICode := .kill (dead 18 [3]) (.ops c37r0)
def c37s1 : ICode := (.seq c37k0 .ret)
def c37r3 : List Seg := [
  .one ⟨some 9, .mv (.t 4), none⟩,
  .one ⟨some 10, .bin .add (.t 9) (.c (.int .i64 1)), none⟩,
  .one ⟨some 4, .mv (.t 10), none⟩]
def c37k3 : ICode := .kill (dead 18 [0, 3, 4]) (.ops c37r3)
def c37r4 : List Seg := [
  .one ⟨some 11, .mv (.t 3), none⟩,
  .one ⟨some 12, .mv (.t 0), none⟩,
  .one ⟨some 13, .mv (.t 4), none⟩,
  .one ⟨some 14, .idxS 1 (.t 12) (.t 13), none⟩,
  .one ⟨some 15, .load1 (.t 14), none⟩,
  .one ⟨some 16, .mx [(.t 11), (.t 15)], none⟩,
  .one ⟨some 3, .mv (.t 16), none⟩]
def c37k4 : ICode := .kill (dead 18 [0, 3, 4]) (.ops c37r4)
def c37s5 : ICode := (.seq (.block 1 c37k4) c37k3)
def c37s6 : ICode := (.cond (.t 8) .skip (.exit 0))
def c37r7 : List Seg := [
  .one ⟨some 5, .mv (.t 4), none⟩,
  .one ⟨some 6, .mv (.t 0), none⟩,
  .one ⟨some 7, .len 0 (.t 6), none⟩,
  .one ⟨some 8, .bin .lss (.t 5) (.t 7), none⟩]
def c37k7 : ICode := .kill (dead 18 [0, 3, 4]) (.ops c37r7)
def c37l2 : ICode := (.seq (.seq c37k7 c37s6) c37s5)
def c37s8 : ICode := (.block 0 (.loop c37l2))
def c37r9 : List Seg := [
  .one ⟨some 4, .mv (.c (.int .i64 0)), none⟩]
def c37k9 : ICode := .kill (dead 18 [0, 3]) (.ops c37r9)
def c37s10 : ICode := (.seq (.seq c37k9 c37s8) c37s1)
def c37r11 : List Seg := [
  .one ⟨some 3, .mv (.c (.int .i64 0)), none⟩]
def c37k11 : ICode := .kill (dead 18 [0]) (.ops c37r11)
def c37s12 : ICode := (.seq c37k11 c37s10)
def c37r13 : List Seg := [
  .one ⟨some 2, .mv (.c (.int .i64 0)), none⟩]
def c37k13 : ICode := .kill (dead 18 [0]) (.ops c37r13)
def c37b : ICode := (.seq c37k13 c37s12)
def c37 : IFn := ⟨18, [.t 2], c37b⟩
def h37 : List (Nat × List Nat) := [(0, dead 18 [0]), (1, dead 18 [0]), (2, dead 18 [0, 3]), (3, dead 18 [0, 3, 4]), (5, dead 18 [0, 3, 4]), (4, dead 18 [0, 3, 4]), (6, dead 18 [3])]
def c38r0 : List Seg := [
  .one ⟨some 24, .mv (.t 5), none⟩,
  .one ⟨some 4, .mv (.t 24), none⟩]
def c38k0 : ICode := .kill (dead 25 [5]) (.ops c38r0)
def c38s1 : ICode := (.seq c38k0 .ret)
def c38r3 : List Seg := [
  .one ⟨some 11, .mv (.t 6), none⟩,
  .one ⟨some 12, .bin .add (.t 11) (.c (.int .i64 1)), none⟩,
  .one ⟨some 6, .mv (.t 12), none⟩]
def c38k3 : ICode := .kill (dead 25 [0, 1, 5, 6]) (.ops c38r3)
def c38r4 : List Seg := [
  .grp [(⟨some 13, .mv (.t 5), none⟩, 0), (⟨some 14, .mv (.t 0), none⟩, 0), (⟨some 15, .mv (.t 6), none⟩, 0), (⟨some 16, .idxS 1 (.t 14) (.t 15), none⟩, 6), (⟨some 17, .load1 (.t 16), none⟩, 14), (⟨some 18, .mv (.t 1), none⟩, 0), (⟨some 19, .mv (.t 6), none⟩, 0), (⟨some 20, .idxS 1 (.t 18) (.t 19), none⟩, 96), (⟨some 21, .load1 (.t 20), none⟩, 224), (⟨some 22, .bin .mul (.t 17) (.t 21), none⟩, 510)],
  .one ⟨some 23, .bin .add (.t 13) (.t 22), none⟩,
  .one ⟨some 5, .mv (.t 23), none⟩]
def c38k4 : ICode := .kill (dead 25 [0, 1, 5, 6]) (.ops c38r4)
def c38s5 : ICode := (.seq (.block 1 c38k4) c38k3)
def c38s6 : ICode := (.cond (.t 10) .skip (.exit 0))
def c38r7 : List Seg := [
  .one ⟨some 7, .mv (.t 6), none⟩,
  .one ⟨some 8, .mv (.t 1), none⟩,
  .one ⟨some 9, .len 0 (.t 8), none⟩,
  .one ⟨some 10, .bin .lss (.t 7) (.t 9), none⟩]
def c38k7 : ICode := .kill (dead 25 [0, 1, 5, 6]) (.ops c38r7)
def c38l2 : ICode := (.seq (.seq c38k7 c38s6) c38s5)
def c38s8 : ICode := (.block 0 (.loop c38l2))
def c38r9 : List Seg := [
  .one ⟨some 6, .mv (.c (.int .i64 0)), none⟩]
def c38k9 : ICode := .kill (dead 25 [0, 1, 5]) (.ops c38r9)
def c38s10 : ICode := (.seq (.seq c38k9 c38s8) c38s1)
def c38r11 : List Seg := [
  .one ⟨some 5, .mv (.c (.int .i64 0)), none⟩]
def c38k11 : ICode := .kill (dead 25 [0, 1]) (.ops c38r11)
def c38s12 : ICode := (.seq c38k11 c38s10)
def c38r13 : List Seg := [
  .one ⟨some 4, .mv (.c (.int .i64 0)), none⟩]
def c38k13 : ICode := .kill (dead 25 [0, 1]) (.ops c38r13)
def c38b : ICode := (.seq c38k13 c38s12)
def c38 : IFn := ⟨25, [.t 4], c38b⟩
def h38 : List (Nat × List Nat) := [(0, dead 25 [0, 1]), (1, dead 25 [0, 1]), (2, dead 25 [0, 1, 5]), (3, dead 25 [0, 1, 5, 6]), (5, dead 25 [0, 1, 5, 6]), (4, dead 25 [0, 1, 5, 6]), (6, dead 25 [5])]
def c39r0 : List Seg := [
  .one ⟨some 70, .mv (.t 0), none⟩,
  .one ⟨some 71, .mv (.t 8), none⟩,
  .one ⟨some 4, .mv (.t 70), none⟩,
  .one ⟨some 5, .mv (.t 71), none⟩]
def c39k0 : ICode := .kill (dead 72 [0, 8]) (.ops c39r0)
def c39s1 : ICode := (.seq c39k0 .ret)
def c39r3 : List Seg := [
  .one ⟨some 49, .mv (.t 9), none⟩,
  .one ⟨some 50, .bin .add (.t 49) (.c (.int .i64 1)), none⟩,
  .one ⟨some 9, .mv (.t 50), none⟩]
def c39k3 : ICode := .kill (dead 72 [0, 6, 8, 9]) (.ops c39r3)
def c39r5 : List Seg := [
  .one ⟨some 56, .mv (.t 10), none⟩,
  .one ⟨some 57, .bin .add (.t 56) (.c (.int .i64 1)), none⟩,
  .one ⟨some 10, .mv (.t 57), none⟩]
def c39k5 : ICode := .kill (dead 72 [0, 6, 8, 9, 10]) (.ops c39r5)
def c39r6 : List Seg := [
  .one ⟨some 64, .mv (.t 8), none⟩,
  .one ⟨some 65, .mv (.t 9), none⟩,
  .one ⟨some 66, .mv (.t 10), none⟩,
  .one ⟨some 67, .mkagg [.int .i64 0, .int .i64 0] [(0, 1, (.t 65)), (1, 1, (.t 66))], none⟩,
  .one ⟨some 68, .mkslice 1 [.int .i64 0, .int .i64 0] [(0, 2, (.t 67))], none⟩,
  .one ⟨some 69, .app 2 16 (.t 64) (.t 68), none⟩,
  .one ⟨some 8, .mv (.t 69), none⟩]
def c39k6 : ICode := .kill (dead 72 [0, 6, 8, 9, 10]) (.ops c39r6)
def c39s7 : ICode := (.cond (.t 63) c39k6 .skip)
def c39r8 : List Seg := [
  .one ⟨some 58, .mv (.t 6), none⟩,
  .one ⟨some 59, .mv (.t 10), none⟩,
  .one ⟨some 60, .idxS 1 (.t 58) (.t 59), none⟩,
  .one ⟨some 61, .load1 (.t 60), none⟩,
  .one ⟨some 62, .mv (.t 9), none⟩,
  .one ⟨some 63, .bin .eql (.t 61) (.t 62), none⟩]
def c39k8 : ICode := .kill (dead 72 [0, 6, 8, 9, 10]) (.ops c39r8)
def c39s9 : ICode := (.seq (.block 5 (.seq c39k8 c39s7)) c39k5)
def c39s10 : ICode := (.cond (.t 55) .skip (.exit 4))
def c39r11 : List Seg := [
  .one ⟨some 53, .mv (.t 10), none⟩,
  .one ⟨some 54, .mv (.t 0), none⟩,
  .one ⟨some 55, .bin .lss (.t 53) (.t 54), none⟩]
def c39k11 : ICode := .kill (dead 72 [0, 6, 8, 9, 10]) (.ops c39r11)
def c39l4 : ICode := (.seq (.seq c39k11 c39s10) c39s9)
def c39s12 : ICode := (.block 4 (.loop c39l4))
def c39r13 : List Seg := [
  .one ⟨some 51, .mv (.t 9), none⟩,
  .one ⟨some 52, .bin .add (.t 51) (.c (.int .i64 1)), none⟩,
  .one ⟨some 10, .mv (.t 52), none⟩]
def c39k13 : ICode := .kill (dead 72 [0, 6, 8, 9]) (.ops c39r13)
def c39s14 : ICode := (.seq (.block 3 (.seq c39k13 c39s12)) c39k3)
def c39s15 : ICode := (.cond (.t 48) .skip (.exit 2))
def c39r16 : List Seg := [
  .one ⟨some 46, .mv (.t 9), none⟩,
  .one ⟨some 47, .mv (.t 0), none⟩,
  .one ⟨some 48, .bin .lss (.t 46) (.t 47), none⟩]
def c39k16 : ICode := .kill (dead 72 [0, 6, 8, 9]) (.ops c39r16)
def c39l2 : ICode := (.seq (.seq c39k16 c39s15) c39s14)
def c39s17 : ICode := (.block 2 (.loop c39l2))
def c39r18 : List Seg := [
  .one ⟨some 9, .mv (.c (.int .i64 0)), none⟩]
def c39k18 : ICode := .kill (dead 72 [0, 6, 8]) (.ops c39r18)
def c39s19 : ICode := (.seq (.seq c39k18 c39s17) c39s1)
def c39r20 : List Seg := [
  .one ⟨some 8, .mv (.c .nilslice), none⟩]
def c39k20 : ICode := .kill (dead 72 [0, 6]) (.ops c39r20)
def c39s21 : ICode := (.seq c39k20 c39s19)
def c39r23 : List Seg := [
  .one ⟨some 21, .mv (.t 7), none⟩,
  .one ⟨some 22, .bin .add (.t 21) (.c (.int .i64 1)), none⟩,
  .one ⟨some 7, .mv (.t 22), none⟩]
def c39k23 : ICode := .kill (dead 72 [0, 1, 6, 7]) (.ops c39r23)
def c39r24 : List Seg := [
  .one ⟨some 33, .mv (.t 6), none⟩,
  .one ⟨some 34, .mv (.t 7), none⟩,
  .one ⟨some 35, .mv (.t 1), none⟩,
  .one ⟨some 36, .mv (.t 7), none⟩,
  .one ⟨some 37, .bin .sub (.t 36) (.c (.int .i64 1)), none⟩,
  .one ⟨some 38, .idxS 1 (.t 35) (.t 37), none⟩,
  .one ⟨some 39, .load1 (.t 38), none⟩,
  .one ⟨some 40, .conv .u64 (.t 39), none⟩,
  .one ⟨some 41, .mv (.t 7), none⟩,
  .one ⟨some 42, .conv .u64 (.t 41), none⟩,
  .one ⟨some 43, .bin .rem (.t 40) (.t 42), none⟩,
  .one ⟨some 44, .conv .i64 (.t 43), none⟩,
  .one ⟨some 45, .idxS 1 (.t 33) (.t 34), none⟩,
  .one ⟨none, .store1 (.t 45) (.t 44), none⟩]
def c39k24 : ICode := .kill (dead 72 [0, 1, 6, 7]) (.ops c39r24)
def c39s25 : ICode := (.cond (.t 32) c39k24 .skip)
def c39r26 : List Seg := [
  .one ⟨some 28, .mv (.t 7), none⟩,
  .one ⟨some 29, .bin .sub (.t 28) (.c (.int .i64 1)), none⟩,
  .one ⟨some 30, .mv (.t 1), none⟩,
  .one ⟨some 31, .len 0 (.t 30), none⟩,
  .one ⟨some 32, .bin .lss (.t 29) (.t 31), none⟩]
def c39k26 : ICode := .kill (dead 72 [0, 1, 6, 7]) (.ops c39r26)
def c39s27 : ICode := (.seq c39k26 c39s25)
def c39r28 : List Seg := [
  .one ⟨some 23, .mv (.t 6), none⟩,
  .one ⟨some 24, .mv (.t 7), none⟩,
  .one ⟨some 25, .mv (.t 7), none⟩,
  .one ⟨some 26, .bin .sub (.t 25) (.c (.int .i64 1)), none⟩,
  .one ⟨some 27, .idxS 1 (.t 23) (.t 24), none⟩,
  .one ⟨none, .store1 (.t 27) (.t 26), none⟩]
def c39k28 : ICode := .kill (dead 72 [0, 1, 6, 7]) (.ops c39r28)
def c39s29 : ICode := (.seq (.block 1 (.seq c39k28 c39s27)) c39k23)
def c39s30 : ICode := (.cond (.t 20) .skip (.exit 0))
def c39r31 : List Seg := [
  .one ⟨some 18, .mv (.t 7), none⟩,
  .one ⟨some 19, .mv (.t 0), none⟩,
  .one ⟨some 20, .bin .lss (.t 18) (.t 19), none⟩]
def c39k31 : ICode := .kill (dead 72 [0, 1, 6, 7]) (.ops c39r31)
def c39l22 : ICode := (.seq (.seq c39k31 c39s30) c39s29)
def c39s32 : ICode := (.block 0 (.loop c39l22))
def c39r33 : List Seg := [
  .one ⟨some 7, .mv (.c (.int .i64 1)), none⟩]
def c39k33 : ICode := .kill (dead 72 [0, 1, 6]) (.ops c39r33)
def c39s34 : ICode := (.seq (.seq c39k33 c39s32) c39s21)
def c39r35 : List Seg := [
  .one ⟨some 16, .mv (.t 0), none⟩,
  .one ⟨some 17, .make [.int .i64 0] 8 (.t 16) (.t 16), none⟩,
  .one ⟨some 6, .mv (.t 17), none⟩]
def c39k35 : ICode := .kill (dead 72 [0, 1]) (.ops c39r35)
def c39s36 : ICode := (.seq c39k35 c39s34)
def c39r37 : List Seg := [
  .one ⟨some 11, .mv (.t 0), none⟩,
  .one ⟨some 12, .conv .u64 (.t 11), none⟩,
  .one ⟨some 13, .bin .rem (.t 12) (.c (.int .u64 10)), none⟩,
  .one ⟨some 14, .conv .i64 (.t 13), none⟩,
  .one ⟨some 15, .bin .add (.c (.int .i64 1)) (.t 14), none⟩,
  .one ⟨some 0, .mv (.t 15), none⟩]
def c39k37 : ICode := .kill (dead 72 [0, 1]) (.ops c39r37)
def c39s38 : ICode := (.seq c39k37 c39s36)
def c39r39 : List Seg := [
  .one ⟨some 4, .mv (.c (.int .i64 0)), none⟩,
  .one ⟨some 5, .mv (.c .nilslice), none⟩]
def c39k39 : ICode := .kill (dead 72 [0, 1]) (.ops c39r39)
def c39b : ICode := (.seq c39k39 c39s38)
def c39 : IFn := ⟨72, [.t 4, .t 5], c39b⟩
def h39 : List (Nat × List Nat) := [(0, dead 72 [0, 1]), (1, dead 72 [0, 1]), (2, dead 72 [0, 1]), (3, dead 72 [0, 1, 6]), (4, dead 72 [0, 1, 6, 7]), (6, dead 72 [0, 1, 6, 7]), (7, dead 72 [0, 1, 6, 7]), (8, dead 72 [0, 1, 6, 7]), (5, dead 72 [0, 1, 6, 7]), (9, dead 72 [0, 6]), (10, dead 72 [0, 6, 8]), (11, dead 72 [0, 6, 8, 9]), (13, dead 72 [0, 6, 8, 9]), (14, dead 72 [0, 6, 8, 9, 10]), (16, dead 72 [0, 6, 8, 9, 10]), (17, dead 72 [0, 6, 8, 9, 10]), (15, dead 72 [0, 6, 8, 9, 10]), (12, dead 72 [0, 6, 8, 9]), (18, dead 72 [0, 8])]
def c40r0 : List Seg := [
  .one ⟨some 6, .mv (.c (.bool true)), none⟩,
  .one ⟨some 7, .mv (.c (.int .i64 0)), none⟩]
def c40k0 : ICode := .kill (dead 81 []) (.ops c40r0)
def c40s1 : ICode := (.seq c40k0 .ret)
def c40r3 : List Seg := [
  .one ⟨some 80, .bin .add (.t 37) (.c (.int .i64 1)), none⟩,
  .one ⟨some 37, .mv (.t 80), none⟩]
def c40k3 : ICode := .kill (dead 81 [2, 8, 35, 36, 37]) (.ops c40r3)
def c40r5 : List Seg := [
  .one ⟨some 79, .bin .add (.t 64) (.c (.int .i64 1)), none⟩,
  .one ⟨some 64, .mv (.t 79), none⟩]
def c40k5 : ICode := .kill (dead 81 [2, 8, 10, 11, 35, 36, 37, 62, 63, 64]) (.ops c40r5)
def c40r6 : List Seg := [
  .one ⟨some 6, .mv (.c (.bool false)), none⟩,
  .one ⟨some 7, .mv (.c (.int .i64 0)), none⟩]
def c40k6 : ICode := .kill (dead 81 []) (.ops c40r6)
def c40s7 : ICode := (.cond (.t 78) (.seq c40k6 .ret) .skip)
def c40r8 : List Seg := [
  .one ⟨some 68, .mv (.t 16), none⟩,
  .one ⟨some 69, .mv (.t 10), none⟩,
  .one ⟨some 70, .bin .neq (.t 68) (.t 69), none⟩,
  .one ⟨some 71, .mv (.t 70), none⟩,
  .one ⟨some 72, .mv (.t 2), some (71, true)⟩,
  .one ⟨some 73, .mv (.t 16), some (71, true)⟩,
  .one ⟨some 74, .idxS 1 (.t 72) (.t 73), some (71, true)⟩,
  .one ⟨some 75, .load1 (.t 74), some (71, true)⟩,
  .one ⟨some 76, .mv (.t 11), some (71, true)⟩,
  .one ⟨some 77, .bin .eql (.t 75) (.t 76), some (71, true)⟩,
  .one ⟨some 78, .pick (.t 71) (.t 77) (.c (.bool false)), none⟩]
def c40k8 : ICode := .kill (dead 81 [2, 8, 10, 11, 16, 35, 36, 37, 62, 63, 64]) (.ops c40r8)
def c40s9 : ICode := (.seq c40k8 c40s7)
def c40r10 : List Seg := [
  .one ⟨some 66, .idxS 1 (.t 62) (.t 64), none⟩,
  .one ⟨some 67, .load1 (.t 66), none⟩,
  .one ⟨some 16, .mv (.t 67), none⟩]
def c40k10 : ICode := .kill (dead 81 [2, 8, 10, 11, 35, 36, 37, 62, 63, 64]) (.ops c40r10)
def c40s11 : ICode := (.seq (.block 5 (.seq c40k10 c40s9)) c40k5)
def c40s12 : ICode := (.seq (.cond (.t 65) .skip (.exit 4)) c40s11)
def c40r13 : List Seg := [
  .one ⟨some 65, .bin .lss (.t 64) (.t 63), none⟩]
def c40k13 : ICode := .kill (dead 81 [2, 8, 10, 11, 35, 36, 37, 62, 63, 64]) (.ops c40r13)
def c40l4 : ICode := (.seq c40k13 c40s12)
def c40s14 : ICode := (.block 4 (.loop c40l4))
def c40r15 : List Seg := [
  .one ⟨some 58, .mv (.t 8), none⟩,
  .one ⟨some 59, .mv (.t 10), none⟩,
  .one ⟨some 60, .mv (.t 12), none⟩,
  .one ⟨some 61, .call (.c (.func 70 [])) [(.t 58), (.t 59), (.t 60)], none⟩,
  .one ⟨some 62, .call (.c (.func 69 [])) [(.t 61)], none⟩,
  .one ⟨some 63, .len 0 (.t 62), none⟩,
  .one ⟨some 64, .mv (.c (.int .i64 0)), none⟩]
def c40k15 : ICode := .kill (dead 81 [2, 8, 10, 11, 12, 35, 36, 37]) (.ops c40r15)
def c40s16 : ICode := (.seq c40k15 c40s14)
def c40r18 : List Seg := [
  .one ⟨some 57, .bin .add (.t 44) (.c (.int .i64 1)), none⟩,
  .one ⟨some 44, .mv (.t 57), none⟩]
def c40k18 : ICode := .kill (dead 81 [2, 8, 10, 11, 12, 35, 36, 37, 42, 43, 44]) (.ops c40r18)
def c40r19 : List Seg := [
  .one ⟨some 52, .mv (.t 12), none⟩,
  .one ⟨some 53, .mv (.t 13), none⟩,
  .one ⟨some 54, .conv .u64 (.t 53), none⟩,
  .one ⟨some 55, .bin .shl (.c (.int .i64 1)) (.t 54), none⟩,
  .one ⟨some 56, .bin .or (.t 52) (.t 55), none⟩,
  .one ⟨some 12, .mv (.t 56), none⟩]
def c40k19 : ICode := .kill (dead 81 [2, 8, 10, 11, 12, 13, 35, 36, 37, 42, 43, 44]) (.ops c40r19)
def c40s20 : ICode := (.cond (.t 51) c40k19 .skip)
def c40r21 : List Seg := [
  .one ⟨some 49, .mv (.t 14), none⟩,
  .one ⟨some 50, .mv (.t 11), none⟩,
  .one ⟨some 51, .bin .leq (.t 49) (.t 50), none⟩]
def c40k21 : ICode := .kill (dead 81 [2, 8, 10, 11, 12, 13, 14, 35, 36, 37, 42, 43, 44]) (.ops c40r21)
def c40s22 : ICode := (.seq c40k21 c40s20)
def c40r23 : List Seg := [
  .one ⟨some 46, .mv (.t 44), none⟩,
  .one ⟨some 47, .idxS 1 (.t 42) (.t 44), none⟩,
  .one ⟨some 48, .load1 (.t 47), none⟩,
  .one ⟨some 13, .mv (.t 46), none⟩,
  .one ⟨some 14, .mv (.t 48), none⟩]
def c40k23 : ICode := .kill (dead 81 [2, 8, 10, 11, 12, 35, 36, 37, 42, 43, 44]) (.ops c40r23)
def c40s24 : ICode := (.seq (.block 3 (.seq c40k23 c40s22)) c40k18)
def c40s25 : ICode := (.seq (.cond (.t 45) .skip (.exit 2)) c40s24)
def c40r26 : List Seg := [
  .one ⟨some 45, .bin .lss (.t 44) (.t 43), none⟩]
def c40k26 : ICode := .kill (dead 81 [2, 8, 10, 11, 12, 35, 36, 37, 42, 43, 44]) (.ops c40r26)
def c40l17 : ICode := (.seq c40k26 c40s25)
def c40s27 : ICode := (.block 2 (.loop c40l17))
def c40r28 : List Seg := [
  .one ⟨some 42, .mv (.t 2), none⟩,
  .one ⟨some 43, .len 0 (.t 42), none⟩,
  .one ⟨some 44, .mv (.c (.int .i64 0)), none⟩]
def c40k28 : ICode := .kill (dead 81 [2, 8, 10, 11, 12, 35, 36, 37]) (.ops c40r28)
def c40s29 : ICode := (.seq (.seq c40k28 c40s27) c40s16)
def c40r30 : List Seg := [
  .one ⟨some 12, .mv (.c (.int .i64 0)), none⟩]
def c40k30 : ICode := .kill (dead 81 [2, 8, 10, 11, 35, 36, 37]) (.ops c40r30)
def c40s31 : ICode := (.seq c40k30 c40s29)
def c40r32 : List Seg := [
  .one ⟨some 39, .mv (.t 37), none⟩,
  .one ⟨some 40, .idxS 1 (.t 35) (.t 37), none⟩,
  .one ⟨some 41, .load1 (.t 40), none⟩,
  .one ⟨some 10, .mv (.t 39), none⟩,
  .one ⟨some 11, .mv (.t 41), none⟩]
def c40k32 : ICode := .kill (dead 81 [2, 8, 35, 36, 37]) (.ops c40r32)
def c40s33 : ICode := (.seq (.block 1 (.seq c40k32 c40s31)) c40k3)
def c40s34 : ICode := (.seq (.cond (.t 38) .skip (.exit 0)) c40s33)
def c40r35 : List Seg := [
  .one ⟨some 38, .bin .lss (.t 37) (.t 36), none⟩]
def c40k35 : ICode := .kill (dead 81 [2, 8, 35, 36, 37]) (.ops c40r35)
def c40l2 : ICode := (.seq c40k35 c40s34)
def c40s36 : ICode := (.block 0 (.loop c40l2))
def c40r37 : List Seg := [
  .one ⟨some 35, .mv (.t 2), none⟩,
  .one ⟨some 36, .len 0 (.t 35), none⟩,
  .one ⟨some 37, .mv (.c (.int .i64 0)), none⟩]
def c40k37 : ICode := .kill (dead 81 [2, 8]) (.ops c40r37)
def c40s38 : ICode := (.seq (.seq c40k37 c40s36) c40s1)
def c40r39 : List Seg := [
  .one ⟨some 6, .mv (.c (.bool false)), none⟩,
  .one ⟨some 7, .mv (.c (.int .i64 0)), none⟩]
def c40k39 : ICode := .kill (dead 81 []) (.ops c40r39)
def c40s40 : ICode := (.cond (.t 34) (.seq c40k39 .ret) .skip)
def c40r41 : List Seg := [
  .one ⟨some 26, .mv (.t 2), none⟩,
  .one ⟨some 27, .len 0 (.t 26), none⟩,
  .one ⟨some 28, .mv (.t 0), none⟩,
  .one ⟨some 29, .bin .neq (.t 27) (.t 28), none⟩,
  .one ⟨some 30, .mv (.t 29), none⟩,
  .one ⟨some 31, .mv (.t 2), some (30, false)⟩,
  .one ⟨some 32, .call (.c (.func 55 [])) [(.c (.int .i64 0)), (.c (.int .i64 10)), (.t 31)], some (30, false)⟩,
  .one ⟨some 33, .un .not (.t 32), some (30, false)⟩,
  .one ⟨some 34, .pick (.t 30) (.c (.bool true)) (.t 33), none⟩]
def c40k41 : ICode := .kill (dead 81 [0, 2, 8]) (.ops c40r41)
def c40s42 : ICode := (.seq (.seq c40k41 c40s40) c40s38)
def c40r43 : List Seg := [
  .one ⟨some 25, .mv (.t 9), none⟩,
  .one ⟨some 6, .mv (.c (.bool false)), none⟩,
  .one ⟨some 7, .mv (.t 25), none⟩]
def c40k43 : ICode := .kill (dead 81 [9]) (.ops c40r43)
def c40s44 : ICode := (.cond (.t 24) (.seq c40k43 .ret) .skip)
def c40r45 : List Seg := [
  .one ⟨some 23, .mv (.t 9), none⟩,
  .one ⟨some 24, .bin .neq (.t 23) (.c (.int .i64 0)), none⟩]
def c40k45 : ICode := .kill (dead 81 [0, 2, 8, 9]) (.ops c40r45)
def c40s46 : ICode := (.seq (.seq c40k45 c40s44) c40s42)
def c40r47 : List Seg := [
  .one ⟨some 18, .mv (.t 0), none⟩,
  .one ⟨some 19, .mv (.t 1), none⟩,
  .one ⟨some 20, .call (.c (.func 68 [])) [(.t 18), (.t 19)], none⟩,
  .one ⟨some 17, .mv (.t 20), none⟩,
  .one ⟨some 21, .ext (.t 17) 0, none⟩,
  .one ⟨some 22, .ext (.t 17) 1, none⟩,
  .one ⟨some 8, .mv (.t 21), none⟩,
  .one ⟨some 9, .mv (.t 22), none⟩]
def c40k47 : ICode := .kill (dead 81 [0, 1, 2]) (.ops c40r47)
def c40s48 : ICode := (.seq c40k47 c40s46)
def c40r49 : List Seg := [
  .one ⟨some 6, .mv (.c (.bool false)), none⟩,
  .one ⟨some 7, .mv (.c (.int .i64 0)), none⟩]
def c40k49 : ICode := .kill (dead 81 [0, 1, 2]) (.ops c40r49)
def c40b : ICode := (.seq c40k49 c40s48)
def c40 : IFn := ⟨81, [.t 6, .t 7], c40b⟩
def h40 : List (Nat × List Nat) := [(0, dead 81 [0, 1, 2]), (1, dead 81 [0, 1, 2]), (2, dead 81 [0, 2, 8, 9]), (3, dead 81 [9]), (4, dead 81 [0, 2, 8]), (5, dead 81 []), (6, dead 81 [2, 8]), (7, dead 81 [2, 8, 35, 36, 37]), (8, dead 81 [2, 8, 35, 36, 37]), (9, dead 81 [2, 8, 10, 11, 35, 36, 37]), (10, dead 81 [2, 8, 10, 11, 12, 35, 36, 37]), (11, dead 81 [2, 8, 10, 11, 12, 35, 36, 37, 42, 43, 44]), (12, dead 81 [2, 8, 10, 11, 12, 35, 36, 37, 42, 43, 44]), (13, dead 81 [2, 8, 10, 11, 12, 13, 14, 35, 36, 37, 42, 43, 44]), (14, dead 81 [2, 8, 10, 11, 12, 13, 35, 36, 37, 42, 43, 44]), (15, dead 81 [2, 8, 10, 11, 12, 35, 36, 37, 42, 43, 44]), (16, dead 81 [2, 8, 10, 11, 12, 35, 36, 37]), (17, dead 81 [2, 8, 10, 11, 35, 36, 37, 62, 63, 64]), (18, dead 81 [2, 8, 10, 11, 35, 36, 37, 62, 63, 64]), (19, dead 81 [2, 8, 10, 11, 16, 35, 36, 37, 62, 63, 64]), (20, dead 81 []), (21, dead 81 [2, 8, 10, 11, 35, 36, 37, 62, 63, 64]), (22, dead 81 [2, 8, 35, 36, 37]), (23, dead 81 [])]
def c41r0 : List Seg := [
  .one ⟨some 6, .mv (.c (.bool true)), none⟩]
def c41k0 : ICode := .kill (dead 82 []) (.ops c41r0)
def c41s1 : ICode := (.seq c41k0 .ret)
def c41r3 : List Seg := [
  .one ⟨some 37, .mv (.t 8), none⟩,
  .one ⟨some 38, .bin .add (.t 37) (.c (.int .i64 1)), none⟩,
  .one ⟨some 8, .mv (.t 38), none⟩]
def c41k3 : ICode := .kill (dead 82 [0, 1, 2, 8]) (.ops c41r3)
def c41r5 : List Seg := [
  .one ⟨some 72, .mv (.t 13), none⟩,
  .one ⟨some 73, .bin .add (.t 72) (.c (.int .i64 1)), none⟩,
  .one ⟨some 13, .mv (.t 73), none⟩]
def c41k5 : ICode := .kill (dead 82 [0, 1, 2, 8, 10, 12, 13]) (.ops c41r5)
def c41r6 : List Seg := [
  .one ⟨some 6, .mv (.c (.bool false)), none⟩]
def c41k6 : ICode := .kill (dead 82 []) (.ops c41r6)
def c41s7 : ICode := (.cond (.t 81) (.seq c41k6 .ret) .skip)
def c41r8 : List Seg := [
  .one ⟨some 74, .mv (.t 12), none⟩,
  .one ⟨some 75, .mv (.t 13), none⟩,
  .one ⟨some 76, .idxS 1 (.t 74) (.t 75), none⟩,
  .one ⟨some 77, .load1 (.t 76), none⟩,
  .one ⟨some 78, .mv (.t 10), none⟩,
  .one ⟨some 79, .bin .and (.t 77) (.t 78), none⟩,
  .one ⟨some 80, .call (.c (.func 72 [])) [(.t 79)], none⟩,
  .one ⟨some 81, .bin .gtr (.t 80) (.c (.int .i64 1)), none⟩]
def c41k8 : ICode := .kill (dead 82 [0, 1, 2, 8, 10, 12, 13]) (.ops c41r8)
def c41s9 : ICode := (.seq (.block 7 (.seq c41k8 c41s7)) c41k5)
def c41s10 : ICode := (.cond (.t 71) .skip (.exit 6))
def c41r11 : List Seg := [
  .one ⟨some 68, .mv (.t 13), none⟩,
  .one ⟨some 69, .mv (.t 12), none⟩,
  .one ⟨some 70, .len 0 (.t 69), none⟩,
  .one ⟨some 71, .bin .lss (.t 68) (.t 70), none⟩]
def c41k11 : ICode := .kill (dead 82 [0, 1, 2, 8, 10, 12, 13]) (.ops c41r11)
def c41l4 : ICode := (.seq (.seq c41k11 c41s10) c41s9)
def c41s12 : ICode := (.block 6 (.loop c41l4))
def c41r13 : List Seg := [
  .one ⟨some 13, .mv (.c (.int .i64 0)), none⟩]
def c41k13 : ICode := .kill (dead 82 [0, 1, 2, 8, 10, 12]) (.ops c41r13)
def c41s14 : ICode := (.seq c41k13 c41s12)
def c41r15 : List Seg := [
  .one ⟨some 64, .mv (.t 0), none⟩,
  .one ⟨some 65, .mv (.t 1), none⟩,
  .one ⟨some 66, .mv (.t 9), none⟩,
  .one ⟨some 67, .call (.c (.func 71 [])) [(.t 64), (.t 65), (.t 66)], none⟩,
  .one ⟨some 12, .mv (.t 67), none⟩]
def c41k15 : ICode := .kill (dead 82 [0, 1, 2, 8, 9, 10]) (.ops c41r15)
def c41s16 : ICode := (.seq c41k15 c41s14)
def c41r18 : List Seg := [
  .one ⟨some 42, .mv (.t 11), none⟩,
  .one ⟨some 43, .bin .add (.t 42) (.c (.int .i64 1)), none⟩,
  .one ⟨some 11, .mv (.t 43), none⟩]
def c41k18 : ICode := .kill (dead 82 [0, 1, 2, 8, 9, 10, 11]) (.ops c41r18)
def c41r19 : List Seg := [
  .one ⟨some 60, .mv (.t 10), none⟩,
  .one ⟨some 61, .mv (.t 11), none⟩,
  .one ⟨some 62, .bin .shl (.c (.int .i64 1)) (.t 61), none⟩,
  .one ⟨some 63, .bin .or (.t 60) (.t 62), none⟩,
  .one ⟨some 10, .mv (.t 63), none⟩]
def c41k19 : ICode := .kill (dead 82 [0, 1, 2, 8, 9, 10, 11]) (.ops c41r19)
def c41s20 : ICode := (.cond (.t 59) c41k19 .skip)
def c41r21 : List Seg := [
  .one ⟨some 54, .mv (.t 2), none⟩,
  .one ⟨some 55, .mv (.t 11), none⟩,
  .one ⟨some 56, .idxS 1 (.t 54) (.t 55), none⟩,
  .one ⟨some 57, .load1 (.t 56), none⟩,
  .one ⟨some 58, .mv (.t 8), none⟩,
  .one ⟨some 59, .bin .eql (.t 57) (.t 58), none⟩]
def c41k21 : ICode := .kill (dead 82 [0, 1, 2, 8, 9, 10, 11]) (.ops c41r21)
def c41s22 : ICode := (.seq c41k21 c41s20)
def c41r23 : List Seg := [
  .one ⟨some 50, .mv (.t 9), none⟩,
  .one ⟨some 51, .mv (.t 11), none⟩,
  .one ⟨some 52, .bin .shl (.c (.int .i64 1)) (.t 51), none⟩,
  .one ⟨some 53, .bin .or (.t 50) (.t 52), none⟩,
  .one ⟨some 9, .mv (.t 53), none⟩]
def c41k23 : ICode := .kill (dead 82 [0, 1, 2, 8, 9, 10, 11]) (.ops c41r23)
def c41s24 : ICode := (.cond (.t 49) c41k23 .skip)
def c41r25 : List Seg := [
  .one ⟨some 44, .mv (.t 2), none⟩,
  .one ⟨some 45, .mv (.t 11), none⟩,
  .one ⟨some 46, .idxS 1 (.t 44) (.t 45), none⟩,
  .one ⟨some 47, .load1 (.t 46), none⟩,
  .one ⟨some 48, .mv (.t 8), none⟩,
  .one ⟨some 49, .bin .leq (.t 47) (.t 48), none⟩]
def c41k25 : ICode := .kill (dead 82 [0, 1, 2, 8, 9, 10, 11]) (.ops c41r25)
def c41s26 : ICode := (.seq (.block 5 (.seq (.seq c41k25 c41s24) c41s22)) c41k18)
def c41s27 : ICode := (.cond (.t 41) .skip (.exit 4))
def c41r28 : List Seg := [
  .one ⟨some 39, .mv (.t 11), none⟩,
  .one ⟨some 40, .mv (.t 0), none⟩,
  .one ⟨some 41, .bin .lss (.t 39) (.t 40), none⟩]
def c41k28 : ICode := .kill (dead 82 [0, 1, 2, 8, 9, 10, 11]) (.ops c41r28)
def c41l17 : ICode := (.seq (.seq c41k28 c41s27) c41s26)
def c41s29 : ICode := (.block 4 (.loop c41l17))
def c41r30 : List Seg := [
  .one ⟨some 11, .mv (.c (.int .i64 0)), none⟩]
def c41k30 : ICode := .kill (dead 82 [0, 1, 2, 8, 9, 10]) (.ops c41r30)
def c41s31 : ICode := (.seq (.seq c41k30 c41s29) c41s16)
def c41r32 : List Seg := [
  .one ⟨some 9, .mv (.c (.int .i64 0)), none⟩,
  .one ⟨some 10, .mv (.c (.int .i64 0)), none⟩]
def c41k32 : ICode := .kill (dead 82 [0, 1, 2, 8]) (.ops c41r32)
def c41s33 : ICode := (.seq (.block 3 (.seq c41k32 c41s31)) c41k3)
def c41s34 : ICode := (.cond (.t 36) .skip (.exit 2))
def c41r35 : List Seg := [
  .one ⟨some 35, .mv (.t 8), none⟩,
  .one ⟨some 36, .bin .leq (.t 35) (.c (.int .i64 10)), none⟩]
def c41k35 : ICode := .kill (dead 82 [0, 1, 2, 8]) (.ops c41r35)
def c41l2 : ICode := (.seq (.seq c41k35 c41s34) c41s33)
def c41s36 : ICode := (.block 2 (.loop c41l2))
def c41r37 : List Seg := [
  .one ⟨some 8, .mv (.c (.int .i64 0)), none⟩]
def c41k37 : ICode := .kill (dead 82 [0, 1, 2]) (.ops c41r37)
def c41s38 : ICode := (.seq (.seq c41k37 c41s36) c41s1)
def c41r40 : List Seg := [
  .one ⟨some 21, .mv (.t 7), none⟩,
  .one ⟨some 22, .bin .add (.t 21) (.c (.int .i64 1)), none⟩,
  .one ⟨some 7, .mv (.t 22), none⟩]
def c41k40 : ICode := .kill (dead 82 [0, 1, 2, 7]) (.ops c41r40)
def c41r41 : List Seg := [
  .one ⟨some 6, .mv (.c (.bool false)), none⟩]
def c41k41 : ICode := .kill (dead 82 []) (.ops c41r41)
def c41s42 : ICode := (.cond (.t 34) (.seq c41k41 .ret) .skip)
def c41r43 : List Seg := [
  .one ⟨some 23, .mv (.t 2), none⟩,
  .one ⟨some 24, .mv (.t 7), none⟩,
  .one ⟨some 25, .idxS 1 (.t 23) (.t 24), none⟩,
  .one ⟨some 26, .load1 (.t 25), none⟩,
  .one ⟨some 27, .bin .lss (.t 26) (.c (.int .i64 0)), none⟩,
  .one ⟨some 28, .mv (.t 27), none⟩,
  .one ⟨some 29, .mv (.t 2), some (28, false)⟩,
  .one ⟨some 30, .mv (.t 7), some (28, false)⟩,
  .one ⟨some 31, .idxS 1 (.t 29) (.t 30), some (28, false)⟩,
  .one ⟨some 32, .load1 (.t 31), some (28, false)⟩,
  .one ⟨some 33, .bin .gtr (.t 32) (.c (.int .i64 10)), some (28, false)⟩,
  .one ⟨some 34, .pick (.t 28) (.c (.bool true)) (.t 33), none⟩]
def c41k43 : ICode := .kill (dead 82 [0, 1, 2, 7]) (.ops c41r43)
def c41s44 : ICode := (.seq (.block 1 (.seq c41k43 c41s42)) c41k40)
def c41s45 : ICode := (.cond (.t 20) .skip (.exit 0))
def c41r46 : List Seg := [
  .one ⟨some 18, .mv (.t 7), none⟩,
  .one ⟨some 19, .mv (.t 0), none⟩,
  .one ⟨some 20, .bin .lss (.t 18) (.t 19), none⟩]
def c41k46 : ICode := .kill (dead 82 [0, 1, 2, 7]) (.ops c41r46)
def c41l39 : ICode := (.seq (.seq c41k46 c41s45) c41s44)
def c41s47 : ICode := (.block 0 (.loop c41l39))
def c41r48 : List Seg := [
  .one ⟨some 7, .mv (.c (.int .i64 0)), none⟩]
def c41k48 : ICode := .kill (dead 82 [0, 1, 2]) (.ops c41r48)
def c41s49 : ICode := (.seq (.seq c41k48 c41s47) c41s38)
def c41r50 : List Seg := [
  .one ⟨some 6, .mv (.c (.bool false)), none⟩]
def c41k50 : ICode := .kill (dead 82 []) (.ops c41r50)
def c41s51 : ICode := (.cond (.t 17) (.seq c41k50 .ret) .skip)
def c41r52 : List Seg := [
  .one ⟨some 14, .mv (.t 2), none⟩,
  .one ⟨some 15, .len 0 (.t 14), none⟩,
  .one ⟨some 16, .mv (.t 0), none⟩,
  .one ⟨some 17, .bin .neq (.t 15) (.t 16), none⟩]
def c41k52 : ICode := .kill (dead 82 [0, 1, 2]) (.ops c41r52)
def c41s53 : ICode := (.seq (.seq c41k52 c41s51) c41s49)
def c41r54 : List Seg := [
  .one ⟨some 6, .mv (.c (.bool false)), none⟩]
def c41k54 : ICode := .kill (dead 82 [0, 1, 2]) (.ops c41r54)
def c41b : ICode := (.seq c41k54 c41s53)
def c41 : IFn := ⟨82, [.t 6], c41b⟩
def h41 : List (Nat × List Nat) := [(0, dead 82 [0, 1, 2]), (1, dead 82 [0, 1, 2]), (2, dead 82 []), (3, dead 82 [0, 1, 2]), (4, dead 82 [0, 1, 2, 7]), (6, dead 82 [0, 1, 2, 7]), (7, dead 82 []), (5, dead 82 [0, 1, 2, 7]), (8, dead 82 [0, 1, 2]), (9, dead 82 [0, 1, 2, 8]), (11, dead 82 [0, 1, 2, 8]), (12, dead 82 [0, 1, 2, 8, 9, 10]), (13, dead 82 [0, 1, 2, 8, 9, 10, 11]), (15, dead 82 [0, 1, 2, 8, 9, 10, 11]), (16, dead 82 [0, 1, 2, 8, 9, 10, 11]), (17, dead 82 [0, 1, 2, 8, 9, 10, 11]), (18, dead 82 [0, 1, 2, 8, 9, 10, 11]), (14, dead 82 [0, 1, 2, 8, 9, 10, 11]), (19, dead 82 [0, 1, 2, 8, 9, 10]), (20, dead 82 [0, 1, 2, 8, 10, 12]), (21, dead 82 [0, 1, 2, 8, 10, 12, 13]), (23, dead 82 [0, 1, 2, 8, 10, 12, 13]), (24, dead 82 []), (22, dead 82 [0, 1, 2, 8, 10, 12, 13]), (10, dead 82 [0, 1, 2, 8]), (25, dead 82 [])]
def c42r0 : List Seg := [
  .one ⟨some 29, .load1 (.t 9), none⟩,
  .one ⟨some 4, .mv (.t 29), none⟩,
  .one ⟨some 5, .mv (.c (.int .i64 0)), none⟩]
def c42k0 : ICode := .kill (dead 30 [9]) (.ops c42r0)
def c42s1 : ICode := (.seq c42k0 .ret)
def c42r2 : List Seg := [
  .grp [(⟨some 25, .load1 (.t 10), none⟩, 0), (⟨some 26, .load1 (.t 6), none⟩, 0), (⟨some 27, .call (.c (.func 78 [])) [(.t 26)], none⟩, 2)],
  .one ⟨some 28, .call (.t 25) [(.t 27)], none⟩]
def c42k2 : ICode := .kill (dead 30 [6, 9, 10]) (.ops c42r2)
def c42s3 : ICode := (.seq c42k2 c42s1)
def c42r4 : List Seg := [
  .one ⟨some 24, .mkfn 74 [(.t 8), (.t 9), (.t 6), (.t 10)], none⟩,
  .one ⟨none, .store1 (.t 10) (.t 24), none⟩]
def c42k4 : ICode := .kill (dead 30 [6, 8, 9, 10]) (.ops c42r4)
def c42s5 : ICode := (.seq c42k4 c42s3)
def c42r6 : List Seg := [
  .one ⟨some 10, .box (.c .nilfunc), none⟩]
def c42k6 : ICode := .kill (dead 30 [6, 8, 9]) (.ops c42r6)
def c42s7 : ICode := (.seq c42k6 c42s5)
def c42r8 : List Seg := [
  .one ⟨some 22, .mv (.t 0), none⟩,
  .one ⟨some 23, .make [.int .i64 0] 8 (.t 22) (.t 22), none⟩,
  .one ⟨some 9, .box (.c .nilslice), none⟩,
  .one ⟨none, .store1 (.t 9) (.t 23), none⟩]
def c42k8 : ICode := .kill (dead 30 [0, 6, 8]) (.ops c42r8)
def c42s9 : ICode := (.seq c42k8 c42s7)
def c42r10 : List Seg := [
  .one ⟨some 20, .load1 (.t 6), none⟩,
  .one ⟨some 21, .call (.c (.func 73 [])) [(.t 20)], none⟩,
  .one ⟨some 8, .box (.c .nilptr), none⟩,
  .one ⟨none, .store1 (.t 8) (.t 21), none⟩]
def c42k10 : ICode := .kill (dead 30 [0, 6]) (.ops c42r10)
def c42s11 : ICode := (.seq c42k10 c42s9)
def c42r12 : List Seg := [
  .one ⟨some 19, .mv (.t 7), none⟩,
  .one ⟨some 4, .mv (.c .nilslice), none⟩,
  .one ⟨some 5, .mv (.t 19), none⟩]
def c42k12 : ICode := .kill (dead 30 [7]) (.ops c42r12)
def c42s13 : ICode := (.cond (.t 18) (.seq c42k12 .ret) .skip)
def c42r14 : List Seg := [
  .one ⟨some 17, .mv (.t 7), none⟩,
  .one ⟨some 18, .bin .neq (.t 17) (.c (.int .i64 0)), none⟩]
def c42k14 : ICode := .kill (dead 30 [0, 6, 7]) (.ops c42r14)
def c42s15 : ICode := (.seq (.seq c42k14 c42s13) c42s11)
def c42r16 : List Seg := [
  .one ⟨some 12, .mv (.t 0), none⟩,
  .one ⟨some 13, .mv (.t 1), none⟩,
  .one ⟨some 14, .call (.c (.func 68 [])) [(.t 12), (.t 13)], none⟩,
  .one ⟨some 11, .mv (.t 14), none⟩,
  .one ⟨some 15, .ext (.t 11) 0, none⟩,
  .one ⟨some 16, .ext (.t 11) 1, none⟩,
  .one ⟨some 6, .box (.c .nilptr), none⟩,
  .one ⟨none, .store1 (.t 6) (.t 15), none⟩,
  .one ⟨some 7, .mv (.t 16), none⟩]
def c42k16 : ICode := .kill (dead 30 [0, 1]) (.ops c42r16)
def c42s17 : ICode := (.seq c42k16 c42s15)
def c42r18 : List Seg := [
  .one ⟨some 4, .mv (.c .nilslice), none⟩,
  .one ⟨some 5, .mv (.c (.int .i64 0)), none⟩]
def c42k18 : ICode := .kill (dead 30 [0, 1]) (.ops c42r18)
def c42b : ICode := (.seq c42k18 c42s17)
def c42 : IFn := ⟨30, [.t 4, .t 5], c42b⟩
def h42 : List (Nat × List Nat) := [(0, dead 30 [0, 1]), (1, dead 30 [0, 1]), (2, dead 30 [0, 6, 7]), (3, dead 30 [7]), (4, dead 30 [0, 6]), (5, dead 30 [0, 6, 8]), (6, dead 30 [6, 8, 9]), (7, dead 30 [6, 8, 9, 10]), (8, dead 30 [6, 9, 10]), (9, dead 30 [9])]
def c43r0 : List Seg := [
  .one ⟨some 12, .mv (.t 1), none⟩,
  .one ⟨some 13, .mv (.t 0), none⟩,
  .one ⟨some 14, .call (.c (.func 60 [])) [(.t 13)], none⟩,
  .one ⟨some 15, .call (.c (.func 62 [])) [(.t 12), (.t 14), (.c (.func 79 []))], none⟩,
  .one ⟨some 4, .mv (.t 15), none⟩,
  .one ⟨some 5, .mv (.c (.int .i64 0)), none⟩]
def c43k0 : ICode := .kill (dead 16 [0, 1]) (.ops c43r0)
def c43s1 : ICode := (.seq c43k0 .ret)
def c43r2 : List Seg := [
  .one ⟨some 11, .mv (.t 6), none⟩,
  .one ⟨some 4, .mv (.c (.bool false)), none⟩,
  .one ⟨some 5, .mv (.t 11), none⟩]
def c43k2 : ICode := .kill (dead 16 [6]) (.ops c43r2)
def c43s3 : ICode := (.cond (.t 10) (.seq c43k2 .ret) .skip)
def c43r4 : List Seg := [
  .one ⟨some 9, .mv (.t 6), none⟩,
  .one ⟨some 10, .bin .neq (.t 9) (.c (.int .i64 0)), none⟩]
def c43k4 : ICode := .kill (dead 16 [0, 1, 6]) (.ops c43r4)
def c43s5 : ICode := (.seq c43k4 c43s3)
def c43r6 : List Seg := [
  .one ⟨some 7, .mv (.t 0), none⟩,
  .one ⟨some 8, .call (.c (.func 46 [])) [(.t 7)], none⟩,
  .one ⟨some 6, .mv (.t 8), none⟩]
def c43k6 : ICode := .kill (dead 16 [0, 1]) (.ops c43r6)
def c43s7 : ICode := (.seq (.seq c43k6 c43s5) c43s1)
def c43r8 : List Seg := [
  .one ⟨some 4, .mv (.c (.bool false)), none⟩,
  .one ⟨some 5, .mv (.c (.int .i64 0)), none⟩]
def c43k8 : ICode := .kill (dead 16 [0, 1]) (.ops c43r8)
def c43b : ICode := (.seq c43k8 c43s7)
def c43 : IFn := ⟨16, [.t 4, .t 5], c43b⟩
def h43 : List (Nat × List Nat) := [(0, dead 16 [0, 1]), (1, dead 16 [0, 1]), (2, dead 16 [0, 1, 6]), (3, dead 16 [6]), (4, dead 16 [0, 1])]
def c44r0 : List Seg := [
  .one ⟨some 38, .mv (.t 9), none⟩,
  .one ⟨some 39, .call (.c (.func 67 [])) [(.t 38)], none⟩,
  .one ⟨some 6, .mv (.t 39), none⟩,
  .one ⟨some 7, .mv (.c (.int .i64 0)), none⟩]
def c44k0 : ICode := .kill (dead 40 [9]) (.ops c44r0)
def c44s1 : ICode := (.seq c44k0 .ret)
def c44r3 : List Seg := [
  .one ⟨some 37, .bin .add (.t 25) (.c (.int .i64 1)), none⟩,
  .one ⟨some 25, .mv (.t 37), none⟩]
def c44k3 : ICode := .kill (dead 40 [9, 23, 24, 25]) (.ops c44r3)
def c44r4 : List Seg := [
  .one ⟨some 30, .mv (.t 9), none⟩,
  .one ⟨some 31, .mv (.t 10), none⟩,
  .one ⟨some 32, .idxS 1 (.t 30) (.t 31), none⟩,
  .one ⟨some 33, .load1 (.t 32), none⟩,
  .one ⟨some 34, .mv (.t 11), none⟩,
  .one ⟨some 35, .bin .mul (.t 33) (.t 34), none⟩,
  .one ⟨some 36, .idxS 1 (.t 30) (.t 31), none⟩,
  .one ⟨none, .store1 (.t 36) (.t 35), none⟩]
def c44k4 : ICode := .kill (dead 40 [9, 10, 11, 23, 24, 25]) (.ops c44r4)
def c44r5 : List Seg := [
  .one ⟨some 27, .mv (.t 25), none⟩,
  .one ⟨some 28, .idxS 1 (.t 23) (.t 25), none⟩,
  .one ⟨some 29, .load1 (.t 28), none⟩,
  .one ⟨some 10, .mv (.t 27), none⟩,
  .one ⟨some 11, .mv (.t 29), none⟩]
def c44k5 : ICode := .kill (dead 40 [9, 23, 24, 25]) (.ops c44r5)
def c44s6 : ICode := (.seq (.block 1 (.seq c44k5 c44k4)) c44k3)
def c44s7 : ICode := (.seq (.cond (.t 26) .skip (.exit 0)) c44s6)
def c44r8 : List Seg := [
  .one ⟨some 26, .bin .lss (.t 25) (.t 24), none⟩]
def c44k8 : ICode := .kill (dead 40 [9, 23, 24, 25]) (.ops c44r8)
def c44l2 : ICode := (.seq c44k8 c44s7)
def c44s9 : ICode := (.block 0 (.loop c44l2))
def c44r10 : List Seg := [
  .one ⟨some 23, .mv (.t 1), none⟩,
  .one ⟨some 24, .len 0 (.t 23), none⟩,
  .one ⟨some 25, .mv (.c (.int .i64 0)), none⟩]
def c44k10 : ICode := .kill (dead 40 [1, 9]) (.ops c44r10)
def c44s11 : ICode := (.seq (.seq c44k10 c44s9) c44s1)
def c44r12 : List Seg := [
  .one ⟨some 6, .mv (.c (.int .i64 0)), none⟩,
  .one ⟨some 7, .mv (.c (.int .i64 1)), none⟩]
def c44k12 : ICode := .kill (dead 40 []) (.ops c44r12)
def c44s13 : ICode := (.cond (.t 22) (.seq c44k12 .ret) .skip)
def c44r14 : List Seg := [
  .one ⟨some 21, .mv (.t 9), none⟩,
  .one ⟨some 22, .eqv false .slice (.t 21) (.c .nilslice), none⟩]
def c44k14 : ICode := .kill (dead 40 [1, 9]) (.ops c44r14)
def c44s15 : ICode := (.seq (.seq c44k14 c44s13) c44s11)
def c44r16 : List Seg := [
  .one ⟨some 18, .mv (.t 0), none⟩,
  .one ⟨some 19, .mv (.t 2), none⟩,
  .one ⟨some 20, .call (.c (.func 61 [])) [(.t 18), (.t 19)], none⟩,
  .one ⟨some 9, .mv (.t 20), none⟩]
def c44k16 : ICode := .kill (dead 40 [0, 1, 2]) (.ops c44r16)
def c44s17 : ICode := (.seq c44k16 c44s15)
def c44r18 : List Seg := [
  .one ⟨some 17, .mv (.t 8), none⟩,
  .one ⟨some 6, .mv (.c (.int .i64 0)), none⟩,
  .one ⟨some 7, .mv (.t 17), none⟩]
def c44k18 : ICode := .kill (dead 40 [8]) (.ops c44r18)
def c44s19 : ICode := (.cond (.t 16) (.seq c44k18 .ret) .skip)
def c44r20 : List Seg := [
  .one ⟨some 15, .mv (.t 8), none⟩,
  .one ⟨some 16, .bin .neq (.t 15) (.c (.int .i64 0)), none⟩]
def c44k20 : ICode := .kill (dead 40 [0, 1, 2, 8]) (.ops c44r20)
def c44s21 : ICode := (.seq c44k20 c44s19)
def c44r22 : List Seg := [
  .one ⟨some 12, .mv (.t 0), none⟩,
  .one ⟨some 13, .mv (.t 1), none⟩,
  .one ⟨some 14, .call (.c (.func 65 [])) [(.t 12), (.t 13)], none⟩,
  .one ⟨some 8, .mv (.t 14), none⟩]
def c44k22 : ICode := .kill (dead 40 [0, 1, 2]) (.ops c44r22)
def c44s23 : ICode := (.seq (.seq c44k22 c44s21) c44s17)
def c44r24 : List Seg := [
  .one ⟨some 6, .mv (.c (.int .i64 0)), none⟩,
  .one ⟨some 7, .mv (.c (.int .i64 0)), none⟩]
def c44k24 : ICode := .kill (dead 40 [0, 1, 2]) (.ops c44r24)
def c44b : ICode := (.seq c44k24 c44s23)
def c44 : IFn := ⟨40, [.t 6, .t 7], c44b⟩
def h44 : List (Nat × List Nat) := [(0, dead 40 [0, 1, 2]), (1, dead 40 [0, 1, 2]), (2, dead 40 [0, 1, 2, 8]), (3, dead 40 [8]), (4, dead 40 [0, 1, 2]), (5, dead 40 [1, 9]), (6, dead 40 []), (7, dead 40 [1, 9]), (8, dead 40 [9, 23, 24, 25]), (9, dead 40 [9, 23, 24, 25]), (10, dead 40 [9, 10, 11, 23, 24, 25]), (11, dead 40 [9, 23, 24, 25]), (12, dead 40 [9])]
def c45r0 : List Seg := [
  .one ⟨some 22, .mv (.t 0), none⟩,
  .one ⟨some 23, .len 0 (.t 22), none⟩,
  .one ⟨some 24, .bin .leq (.t 23) (.c (.int .i64 12)), none⟩,
  .one ⟨some 2, .mv (.t 24), none⟩]
def c45k0 : ICode := .kill (dead 25 [0]) (.ops c45r0)
def c45s1 : ICode := (.seq c45k0 .ret)
def c45r3 : List Seg := [
  .one ⟨some 8, .mv (.t 3), none⟩,
  .one ⟨some 9, .bin .add (.t 8) (.c (.int .i64 1)), none⟩,
  .one ⟨some 3, .mv (.t 9), none⟩]
def c45k3 : ICode := .kill (dead 25 [0, 3]) (.ops c45r3)
def c45r4 : List Seg := [
  .one ⟨some 2, .mv (.c (.bool false)), none⟩]
def c45k4 : ICode := .kill (dead 25 []) (.ops c45r4)
def c45s5 : ICode := (.cond (.t 21) (.seq c45k4 .ret) .skip)
def c45r6 : List Seg := [
  .one ⟨some 10, .mv (.t 0), none⟩,
  .one ⟨some 11, .mv (.t 3), none⟩,
  .one ⟨some 12, .idxS 1 (.t 10) (.t 11), none⟩,
  .one ⟨some 13, .load1 (.t 12), none⟩,
  .one ⟨some 14, .bin .lss (.t 13) (.c (.int .i64 1)), none⟩,
  .one ⟨some 15, .mv (.t 14), none⟩,
  .one ⟨some 16, .mv (.t 0), some (15, false)⟩,
  .one ⟨some 17, .mv (.t 3), some (15, false)⟩,
  .one ⟨some 18, .idxS 1 (.t 16) (.t 17), some (15, false)⟩,
  .one ⟨some 19, .load1 (.t 18), some (15, false)⟩,
  .one ⟨some 20, .bin .gtr (.t 19) (.c (.int .i64 1000)), some (15, false)⟩,
  .one ⟨some 21, .pick (.t 15) (.c (.bool true)) (.t 20), none⟩]
def c45k6 : ICode := .kill (dead 25 [0, 3]) (.ops c45r6)
def c45s7 : ICode := (.seq (.block 1 (.seq c45k6 c45s5)) c45k3)
def c45s8 : ICode := (.cond (.t 7) .skip (.exit 0))
def c45r9 : List Seg := [
  .one ⟨some 4, .mv (.t 3), none⟩,
  .one ⟨some 5, .mv (.t 0), none⟩,
  .one ⟨some 6, .len 0 (.t 5), none⟩,
  .one ⟨some 7, .bin .lss (.t 4) (.t 6), none⟩]
def c45k9 : ICode := .kill (dead 25 [0, 3]) (.ops c45r9)
def c45l2 : ICode := (.seq (.seq c45k9 c45s8) c45s7)
def c45s10 : ICode := (.block 0 (.loop c45l2))
def c45r11 : List Seg := [
  .one ⟨some 3, .mv (.c (.int .i64 0)), none⟩]
def c45k11 : ICode := .kill (dead 25 [0]) (.ops c45r11)
def c45s12 : ICode := (.seq (.seq c45k11 c45s10) c45s1)
def c45r13 : List Seg := [
  .one ⟨some 2, .mv (.c (.bool false)), none⟩]
def c45k13 : ICode := .kill (dead 25 [0]) (.ops c45r13)
def c45b : ICode := (.seq c45k13 c45s12)
def c45 : IFn := ⟨25, [.t 2], c45b⟩
def h45 : List (Nat × List Nat) := [(0, dead 25 [0]), (1, dead 25 [0]), (2, dead 25 [0, 3]), (4, dead 25 [0, 3]), (5, dead 25 []), (3, dead 25 [0, 3]), (6, dead 25 [0])]
end Go.Abs

set_option linter.unusedVariables false
set_option maxRecDepth 20000
set_option maxHeartbeats 4000000
namespace Go.Abs
def c46r0 : List Seg := [
  .one ⟨some 2, .mv (.c (.int .i64 0)), none⟩]
def c46k0 : ICode := .kill (dead 11 []) (.ops c46r0)
def c46s1 : ICode := (.seq c46k0 .ret)
def c46r2 : List Seg := [
  .one ⟨some 2, .mv (.c (.int .i64 80)), none⟩]
def c46k2 : ICode := .kill (dead 11 []) (.ops c46r2)
def c46s3 : ICode := (.cond (.t 10) (.seq c46k2 .ret) .skip)
def c46r4 : List Seg := [
  .one ⟨some 3, .mv (.t 0), none⟩,
  .one ⟨some 4, .len 0 (.t 3), none⟩,
  .one ⟨some 5, .bin .gtr (.t 4) (.c (.int .i64 12)), none⟩,
  .one ⟨some 6, .mv (.t 5), none⟩,
  .one ⟨some 7, .mv (.t 0), some (6, false)⟩,
  .one ⟨some 8, .call (.c (.func 55 [])) [(.c (.int .i64 1)), (.c (.int .i64 1000)), (.t 7)], some (6, false)⟩,
  .one ⟨some 9, .un .not (.t 8), some (6, false)⟩,
  .one ⟨some 10, .pick (.t 6) (.c (.bool true)) (.t 9), none⟩]
def c46k4 : ICode := .kill (dead 11 [0]) (.ops c46r4)
def c46s5 : ICode := (.seq (.seq c46k4 c46s3) c46s1)
def c46r6 : List Seg := [
  .one ⟨some 2, .mv (.c (.int .i64 0)), none⟩]
def c46k6 : ICode := .kill (dead 11 [0]) (.ops c46r6)
def c46b : ICode := (.seq c46k6 c46s5)
def c46 : IFn := ⟨11, [.t 2], c46b⟩
def h46 : List (Nat × List Nat) := [(0, dead 11 [0]), (1, dead 11 [0]), (2, dead 11 []), (3, dead 11 [])]
def c47r0 : List Seg := [
  .one ⟨some 33, .mv (.t 5), none⟩,
  .one ⟨some 34, .mv (.t 33), none⟩,
  .one ⟨some 35, .mv (.t 1), some (34, true)⟩,
  .one ⟨some 36, .len 0 (.t 35), some (34, true)⟩,
  .one ⟨some 37, .mv (.t 0), some (34, true)⟩,
  .one ⟨some 38, .len 0 (.t 37), some (34, true)⟩,
  .one ⟨some 39, .bin .add (.t 38) (.c (.int .i64 1)), some (34, true)⟩,
  .one ⟨some 40, .bin .eql (.t 36) (.t 39), some (34, true)⟩,
  .one ⟨some 41, .pick (.t 34) (.t 40) (.c (.bool false)), none⟩,
  .one ⟨some 4, .mv (.t 41), none⟩]
def c47k0 : ICode := .kill (dead 42 [0, 1, 5]) (.ops c47r0)
def c47s1 : ICode := (.seq c47k0 .ret)
def c47r3 : List Seg := [
  .one ⟨some 11, .mv (.t 6), none⟩,
  .one ⟨some 12, .bin .add (.t 11) (.c (.int .i64 1)), none⟩,
  .one ⟨some 6, .mv (.t 12), none⟩]
def c47k3 : ICode := .kill (dead 42 [0, 1, 5, 6]) (.ops c47r3)
def c47r4 : List Seg := [
  .one ⟨some 25, .mv (.t 5), none⟩,
  .one ⟨some 26, .mv (.t 25), none⟩,
  .one ⟨some 27, .mv (.t 1), some (26, false)⟩,
  .one ⟨some 28, .mv (.t 6), some (26, false)⟩,
  .one ⟨some 29, .idxS 1 (.t 27) (.t 28), some (26, false)⟩,
  .one ⟨some 30, .load1 (.t 29), some (26, false)⟩,
  .one ⟨some 31, .bin .gtr (.t 30) (.c (.int .i64 0)), some (26, false)⟩,
  .one ⟨some 32, .pick (.t 26) (.c (.bool true)) (.t 31), none⟩,
  .one ⟨some 5, .mv (.t 32), none⟩]
def c47k4 : ICode := .kill (dead 42 [0, 1, 5, 6]) (.ops c47r4)
def c47r5 : List Seg := [
  .one ⟨some 4, .mv (.c (.bool false)), none⟩]
def c47k5 : ICode := .kill (dead 42 []) (.ops c47r5)
def c47s6 : ICode := (.cond (.t 24) (.seq c47k5 .ret) .skip)
def c47r7 : List Seg := [
  .one ⟨some 13, .mv (.t 1), none⟩,
  .one ⟨some 14, .mv (.t 6), none⟩,
  .one ⟨some 15, .idxS 1 (.t 13) (.t 14), none⟩,
  .one ⟨some 16, .load1 (.t 15), none⟩,
  .one ⟨some 17, .bin .lss (.t 16) (.c (.int .i64 0)), none⟩,
  .one ⟨some 18, .mv (.t 17), none⟩,
  .one ⟨some 19, .mv (.t 1), some (18, false)⟩,
  .one ⟨some 20, .mv (.t 6), some (18, false)⟩,
  .one ⟨some 21, .idxS 1 (.t 19) (.t 20), some (18, false)⟩,
  .one ⟨some 22, .load1 (.t 21), some (18, false)⟩,
  .one ⟨some 23, .bin .gtr (.t 22) (.c (.int .i64 1000)), some (18, false)⟩,
  .one ⟨some 24, .pick (.t 18) (.c (.bool true)) (.t 23), none⟩]
def c47k7 : ICode := .kill (dead 42 [0, 1, 5, 6]) (.ops c47r7)
def c47s8 : ICode := (.seq (.block 1 (.seq (.seq c47k7 c47s6) c47k4)) c47k3)
def c47s9 : ICode := (.cond (.t 10) .skip (.exit 0))
def c47r10 : List Seg := [
  .one ⟨some 7, .mv (.t 6), none⟩,
  .one ⟨some 8, .mv (.t 1), none⟩,
  .one ⟨some 9, .len 0 (.t 8), none⟩,
  .one ⟨some 10, .bin .lss (.t 7) (.t 9), none⟩]
def c47k10 : ICode := .kill (dead 42 [0, 1, 5, 6]) (.ops c47r10)
def c47l2 : ICode := (.seq (.seq c47k10 c47s9) c47s8)
def c47s11 : ICode := (.block 0 (.loop c47l2))
def c47r12 : List Seg := [
  .one ⟨some 6, .mv (.c (.int .i64 0)), none⟩]
def c47k12 : ICode := .kill (dead 42 [0, 1, 5]) (.ops c47r12)
def c47s13 : ICode := (.seq (.seq c47k12 c47s11) c47s1)
def c47r14 : List Seg := [
  .one ⟨some 5, .mv (.c (.bool false)), none⟩]
def c47k14 : ICode := .kill (dead 42 [0, 1]) (.ops c47r14)
def c47s15 : ICode := (.seq c47k14 c47s13)
def c47r16 : List Seg := [
  .one ⟨some 4, .mv (.c (.bool false)), none⟩]
def c47k16 : ICode := .kill (dead 42 [0, 1]) (.ops c47r16)
def c47b : ICode := (.seq c47k16 c47s15)
def c47 : IFn := ⟨42, [.t 4], c47b⟩
def h47 : List (Nat × List Nat) := [(0, dead 42 [0, 1]), (1, dead 42 [0, 1]), (2, dead 42 [0, 1, 5]), (3, dead 42 [0, 1, 5, 6]), (5, dead 42 [0, 1, 5, 6]), (6, dead 42 []), (7, dead 42 [0, 1, 5, 6]), (4, dead 42 [0, 1, 5, 6]), (8, dead 42 [0, 1, 5])]
def c48r0 : List Seg := [
  .one ⟨some 17, .mv (.t 6), none⟩,
  .one ⟨some 18, .call (.c (.func 73 [])) [(.t 17)], none⟩,
  .one ⟨some 19, .mv (.t 6), none⟩,
  .one ⟨some 20, .call (.c (.func 78 [])) [(.t 19)], none⟩,
  .one ⟨some 21, .call (.c (.func 75 [])) [(.t 18), (.t 20)], none⟩,
  .one ⟨some 4, .mv (.t 21), none⟩,
  .one ⟨some 5, .mv (.c (.int .i64 0)), none⟩]
def c48k0 : ICode := .kill (dead 22 [6]) (.ops c48r0)
def c48s1 : ICode := (.seq c48k0 .ret)
def c48r2 : List Seg := [
  .one ⟨some 16, .mv (.t 7), none⟩,
  .one ⟨some 4, .mv (.c (.int .i64 0)), none⟩,
  .one ⟨some 5, .mv (.t 16), none⟩]
def c48k2 : ICode := .kill (dead 22 [7]) (.ops c48r2)
def c48s3 : ICode := (.cond (.t 15) (.seq c48k2 .ret) .skip)
def c48r4 : List Seg := [
  .one ⟨some 14, .mv (.t 7), none⟩,
  .one ⟨some 15, .bin .neq (.t 14) (.c (.int .i64 0)), none⟩]
def c48k4 : ICode := .kill (dead 22 [6, 7]) (.ops c48r4)
def c48s5 : ICode := (.seq (.seq c48k4 c48s3) c48s1)
def c48r6 : List Seg := [
  .one ⟨some 9, .mv (.t 0), none⟩,
  .one ⟨some 10, .mv (.t 1), none⟩,
  .one ⟨some 11, .call (.c (.func 68 [])) [(.t 9), (.t 10)], none⟩,
  .one ⟨some 8, .mv (.t 11), none⟩,
  .one ⟨some 12, .ext (.t 8) 0, none⟩,
  .one ⟨some 13, .ext (.t 8) 1, none⟩,
  .one ⟨some 6, .mv (.t 12), none⟩,
  .one ⟨some 7, .mv (.t 13), none⟩]
def c48k6 : ICode := .kill (dead 22 [0, 1]) (.ops c48r6)
def c48s7 : ICode := (.seq c48k6 c48s5)
def c48r8 : List Seg := [
  .one ⟨some 4, .mv (.c (.int .i64 0)), none⟩,
  .one ⟨some 5, .mv (.c (.int .i64 0)), none⟩]
def c48k8 : ICode := .kill (dead 22 [0, 1]) (.ops c48r8)
def c48b : ICode := (.seq c48k8 c48s7)
def c48 : IFn := ⟨22, [.t 4, .t 5], c48b⟩
def h48 : List (Nat × List Nat) := [(0, dead 22 [0, 1]), (1, dead 22 [0, 1]), (2, dead 22 [6, 7]), (3, dead 22 [7]), (4, dead 22 [6])]
def c49r0 : List Seg := [
  .one ⟨some 51, .mv (.t 9), none⟩,
  .one ⟨some 52, .mv (.t 10), none⟩,
  .one ⟨some 4, .mv (.t 51), none⟩,
  .one ⟨some 5, .mv (.t 52), none⟩,
  .one ⟨some 6, .mv (.c (.int .i64 0)), none⟩]
def c49k0 : ICode := .kill (dead 53 [9, 10]) (.ops c49r0)
def c49s1 : ICode := (.seq c49k0 .ret)
def c49r3 : List Seg := [
  .one ⟨some 50, .bin .add (.t 26) (.c (.int .i64 1)), none⟩,
  .one ⟨some 26, .mv (.t 50), none⟩]
def c49k3 : ICode := .kill (dead 53 [7, 9, 10, 25, 26]) (.ops c49r3)
def c49r4 : List Seg := [
  .one ⟨some 48, .mv (.t 11), none⟩,
  .one ⟨some 49, .mv (.t 12), none⟩,
  .one ⟨some 9, .mv (.t 48), none⟩,
  .one ⟨some 10, .mv (.t 49), none⟩]
def c49k4 : ICode := .kill (dead 53 [7, 11, 12, 25, 26]) (.ops c49r4)
def c49s5 : ICode := (.cond (.t 47) c49k4 .skip)
def c49r6 : List Seg := [
  .one ⟨some 45, .mv (.t 12), none⟩,
  .one ⟨some 46, .mv (.t 10), none⟩,
  .one ⟨some 47, .bin .lss (.t 45) (.t 46), none⟩]
def c49k6 : ICode := .kill (dead 53 [7, 9, 10, 11, 12, 25, 26]) (.ops c49r6)
def c49s7 : ICode := (.seq c49k6 c49s5)
def c49r9 : List Seg := [
  .one ⟨some 44, .bin .add (.t 35) (.c (.int .i64 1)), none⟩,
  .one ⟨some 35, .mv (.t 44), none⟩]
def c49k9 : ICode := .kill (dead 53 [7, 9, 10, 11, 12, 25, 26, 33, 34, 35]) (.ops c49r9)
def c49r10 : List Seg := [
  .one ⟨some 39, .mv (.t 12), none⟩,
  .one ⟨some 40, .mv (.t 14), none⟩,
  .one ⟨some 41, .conv .u64 (.t 40), none⟩,
  .one ⟨some 42, .call (.c (.func 80 [])) [(.t 41)], none⟩,
  .one ⟨some 43, .mx [(.t 39), (.t 42)], none⟩,
  .one ⟨some 12, .mv (.t 43), none⟩]
def c49k10 : ICode := .kill (dead 53 [7, 9, 10, 11, 12, 14, 25, 26, 33, 34, 35]) (.ops c49r10)
def c49r11 : List Seg := [
  .one ⟨some 37, .idxS 1 (.t 33) (.t 35), none⟩,
  .one ⟨some 38, .load1 (.t 37), none⟩,
  .one ⟨some 14, .mv (.t 38), none⟩]
def c49k11 : ICode := .kill (dead 53 [7, 9, 10, 11, 12, 25, 26, 33, 34, 35]) (.ops c49r11)
def c49s12 : ICode := (.seq (.block 3 (.seq c49k11 c49k10)) c49k9)
def c49s13 : ICode := (.seq (.cond (.t 36) .skip (.exit 2)) c49s12)
def c49r14 : List Seg := [
  .one ⟨some 36, .bin .lss (.t 35) (.t 34), none⟩]
def c49k14 : ICode := .kill (dead 53 [7, 9, 10, 11, 12, 25, 26, 33, 34, 35]) (.ops c49r14)
def c49l8 : ICode := (.seq c49k14 c49s13)
def c49s15 : ICode := (.block 2 (.loop c49l8))
def c49r16 : List Seg := [
  .one ⟨some 29, .mv (.t 7), none⟩,
  .one ⟨some 30, .mv (.t 7), none⟩,
  .one ⟨some 31, .call (.c (.func 78 [])) [(.t 30)], none⟩,
  .one ⟨some 32, .mv (.t 11), none⟩,
  .one ⟨some 33, .call (.c (.func 77 [])) [(.t 29), (.t 31), (.t 32)], none⟩,
  .one ⟨some 34, .len 0 (.t 33), none⟩,
  .one ⟨some 35, .mv (.c (.int .i64 0)), none⟩]
def c49k16 : ICode := .kill (dead 53 [7, 9, 10, 11, 12, 25, 26]) (.ops c49r16)
def c49s17 : ICode := (.seq (.seq c49k16 c49s15) c49s7)
def c49r18 : List Seg := [
  .one ⟨some 12, .mv (.c (.int .i64 0)), none⟩]
def c49k18 : ICode := .kill (dead 53 [7, 9, 10, 11, 25, 26]) (.ops c49r18)
def c49s19 : ICode := (.seq c49k18 c49s17)
def c49r20 : List Seg := [
  .one ⟨some 28, .mv (.t 26), none⟩,
  .one ⟨some 11, .mv (.t 28), none⟩]
def c49k20 : ICode := .kill (dead 53 [7, 9, 10, 25, 26]) (.ops c49r20)
def c49s21 : ICode := (.seq (.block 1 (.seq c49k20 c49s19)) c49k3)
def c49s22 : ICode := (.seq (.cond (.t 27) .skip (.exit 0)) c49s21)
def c49r23 : List Seg := [
  .one ⟨some 27, .bin .lss (.t 26) (.t 25), none⟩]
def c49k23 : ICode := .kill (dead 53 [7, 9, 10, 25, 26]) (.ops c49r23)
def c49l2 : ICode := (.seq c49k23 c49s22)
def c49s24 : ICode := (.block 0 (.loop c49l2))
def c49r25 : List Seg := [
  .one ⟨some 25, .mv (.t 0), none⟩,
  .one ⟨some 26, .mv (.c (.int .i64 0)), none⟩]
def c49k25 : ICode := .kill (dead 53 [0, 7, 9, 10]) (.ops c49r25)
def c49s26 : ICode := (.seq (.seq c49k25 c49s24) c49s1)
def c49r27 : List Seg := [
  .one ⟨some 24, .mv (.t 0), none⟩,
  .one ⟨some 9, .mv (.c (.int .i64 0)), none⟩,
  .one ⟨some 10, .mv (.t 24), none⟩]
def c49k27 : ICode := .kill (dead 53 [0, 7]) (.ops c49r27)
def c49s28 : ICode := (.seq c49k27 c49s26)
def c49r29 : List Seg := [
  .one ⟨some 23, .mv (.t 8), none⟩,
  .one ⟨some 4, .mv (.c (.int .i64 0)), none⟩,
  .one ⟨some 5, .mv (.c (.int .i64 0)), none⟩,
  .one ⟨some 6, .mv (.t 23), none⟩]
def c49k29 : ICode := .kill (dead 53 [8]) (.ops c49r29)
def c49s30 : ICode := (.cond (.t 22) (.seq c49k29 .ret) .skip)
def c49r31 : List Seg := [
  .one ⟨some 21, .mv (.t 8), none⟩,
  .one ⟨some 22, .bin .neq (.t 21) (.c (.int .i64 0)), none⟩]
def c49k31 : ICode := .kill (dead 53 [0, 7, 8]) (.ops c49r31)
def c49s32 : ICode := (.seq (.seq c49k31 c49s30) c49s28)
def c49r33 : List Seg := [
  .one ⟨some 16, .mv (.t 0), none⟩,
  .one ⟨some 17, .mv (.t 1), none⟩,
  .one ⟨some 18, .call (.c (.func 68 [])) [(.t 16), (.t 17)], none⟩,
  .one ⟨some 15, .mv (.t 18), none⟩,
  .one ⟨some 19, .ext (.t 15) 0, none⟩,
  .one ⟨some 20, .ext (.t 15) 1, none⟩,
  .one ⟨some 7, .mv (.t 19), none⟩,
  .one ⟨some 8, .mv (.t 20), none⟩]
def c49k33 : ICode := .kill (dead 53 [0, 1]) (.ops c49r33)
def c49s34 : ICode := (.seq c49k33 c49s32)
def c49r35 : List Seg := [
  .one ⟨some 4, .mv (.c (.int .i64 0)), none⟩,
  .one ⟨some 5, .mv (.c (.int .i64 0)), none⟩,
  .one ⟨some 6, .mv (.c (.int .i64 0)), none⟩]
def c49k35 : ICode := .kill (dead 53 [0, 1]) (.ops c49r35)
def c49b : ICode := (.seq c49k35 c49s34)
def c49 : IFn := ⟨53, [.t 4, .t 5, .t 6], c49b⟩
def h49 : List (Nat × List Nat) := [(0, dead 53 [0, 1]), (1, dead 53 [0, 1]), (2, dead 53 [0, 7, 8]), (3, dead 53 [8]), (4, dead 53 [0, 7]), (5, dead 53 [0, 7, 9, 10]), (6, dead 53 [7, 9, 10, 25, 26]), (7, dead 53 [7, 9, 10, 25, 26]), (8, dead 53 [7, 9, 10, 11, 25, 26]), (9, dead 53 [7, 9, 10, 11, 12, 25, 26]), (10, dead 53 [7, 9, 10, 11, 12, 25, 26, 33, 34, 35]), (11, dead 53 [7, 9, 10, 11, 12, 25, 26, 33, 34, 35]), (12, dead 53 [7, 9, 10, 11, 12, 14, 25, 26, 33, 34, 35]), (13, dead 53 [7, 9, 10, 11, 12, 25, 26, 33, 34, 35]), (14, dead 53 [7, 9, 10, 11, 12, 25, 26]), (15, dead 53 [7, 11, 12, 25, 26]), (16, dead 53 [7, 9, 10, 25, 26]), (17, dead 53 [9, 10])]
def c50r0 : List Seg := [
  .one ⟨some 68, .mv (.t 11), none⟩,
  .one ⟨some 8, .mv (.t 68), none⟩]
def c50k0 : ICode := .kill (dead 69 [11]) (.ops c50r0)
def c50s1 : ICode := (.seq c50k0 .ret)
def c50r2 : List Seg := [
  .one ⟨some 65, .mv (.t 3), none⟩,
  .one ⟨some 66, .mv (.t 2), none⟩,
  .one ⟨some 67, .mv (.t 11), none⟩,
  .one ⟨none, .mset (.t 65) (.t 66) (.t 67), none⟩]
def c50k2 : ICode := .kill (dead 69 [2, 3, 11]) (.ops c50r2)
def c50s3 : ICode := (.seq c50k2 c50s1)
def c50r5 : List Seg := [
  .one ⟨some 31, .mv (.t 12), none⟩,
  .one ⟨some 32, .bin .add (.t 31) (.c (.int .i64 1)), none⟩,
  .one ⟨some 12, .mv (.t 32), none⟩]
def c50k5 : ICode := .kill (dead 69 [0, 1, 2, 3, 11, 12]) (.ops c50r5)
def c50r6 : List Seg := [
  .one ⟨some 61, .mv (.t 11), none⟩,
  .one ⟨some 62, .mv (.t 14), none⟩,
  .one ⟨some 63, .bin .add (.t 62) (.c (.int .i64 1)), none⟩,
  .one ⟨some 64, .mn [(.t 61), (.t 63)], none⟩,
  .one ⟨some 11, .mv (.t 64), none⟩]
def c50k6 : ICode := .kill (dead 69 [0, 1, 2, 3, 11, 12, 14]) (.ops c50r6)
def c50r8 : List Seg := [
  .one ⟨some 49, .mv (.t 15), none⟩,
  .one ⟨some 50, .bin .add (.t 49) (.c (.int .i64 1)), none⟩,
  .one ⟨some 15, .mv (.t 50), none⟩]
def c50k8 : ICode := .kill (dead 69 [0, 1, 2, 3, 11, 12, 13, 14, 15]) (.ops c50r8)
def c50r9 : List Seg := [
  .one ⟨some 51, .mv (.t 14), none⟩,
  .one ⟨some 52, .mv (.t 0), none⟩,
  .one ⟨some 53, .mv (.t 1), none⟩,
  .one ⟨some 54, .mv (.t 13), none⟩,
  .one ⟨some 55, .mv (.t 15), none⟩,
  .one ⟨some 56, .idxS 1 (.t 54) (.t 55), none⟩,
  .one ⟨some 57, .load1 (.t 56), none⟩,
  .one ⟨some 58, .mv (.t 3), none⟩,
  .one ⟨some 59, .call (.c (.func 50 [])) [(.t 52), (.t 53), (.t 57), (.t 58)], none⟩,
  .one ⟨some 60, .mx [(.t 51), (.t 59)], none⟩,
  .one ⟨some 14, .mv (.t 60), none⟩]
def c50k9 : ICode := .kill (dead 69 [0, 1, 2, 3, 11, 12, 13, 14, 15]) (.ops c50r9)
def c50s10 : ICode := (.seq (.block 3 c50k9) c50k8)
def c50s11 : ICode := (.cond (.t 48) .skip (.exit 2))
def c50r12 : List Seg := [
  .one ⟨some 45, .mv (.t 15), none⟩,
  .one ⟨some 46, .mv (.t 13), none⟩,
  .one ⟨some 47, .len 0 (.t 46), none⟩,
  .one ⟨some 48, .bin .lss (.t 45) (.t 47), none⟩]
def c50k12 : ICode := .kill (dead 69 [0, 1, 2, 3, 11, 12, 13, 14, 15]) (.ops c50r12)
def c50l7 : ICode := (.seq (.seq c50k12 c50s11) c50s10)
def c50s13 : ICode := (.block 2 (.loop c50l7))
def c50r14 : List Seg := [
  .one ⟨some 15, .mv (.c (.int .i64 0)), none⟩]
def c50k14 : ICode := .kill (dead 69 [0, 1, 2, 3, 11, 12, 13, 14]) (.ops c50r14)
def c50s15 : ICode := (.seq (.seq c50k14 c50s13) c50k6)
def c50r16 : List Seg := [
  .one ⟨some 14, .mv (.c (.int .i64 0)), none⟩]
def c50k16 : ICode := .kill (dead 69 [0, 1, 2, 3, 11, 12, 13]) (.ops c50r16)
def c50s17 : ICode := (.seq c50k16 c50s15)
def c50r18 : List Seg := [
  .one ⟨some 38, .mv (.t 0), none⟩,
  .one ⟨some 39, .mv (.t 1), none⟩,
  .one ⟨some 40, .mv (.t 2), none⟩,
  .one ⟨some 41, .mv (.t 12), none⟩,
  .one ⟨some 42, .bin .shl (.c (.int .i64 1)) (.t 41), none⟩,
  .one ⟨some 43, .bin .andNot (.t 40) (.t 42), none⟩,
  .one ⟨some 44, .call (.c (.func 71 [])) [(.t 38), (.t 39), (.t 43)], none⟩,
  .one ⟨some 13, .mv (.t 44), none⟩]
def c50k18 : ICode := .kill (dead 69 [0, 1, 2, 3, 11, 12]) (.ops c50r18)
def c50s19 : ICode := (.seq c50k18 c50s17)
def c50s20 : ICode := (.cond (.t 37) (.exit 1) .skip)
def c50r21 : List Seg := [
  .one ⟨some 33, .mv (.t 2), none⟩,
  .one ⟨some 34, .mv (.t 12), none⟩,
  .one ⟨some 35, .bin .shr (.t 33) (.t 34), none⟩,
  .one ⟨some 36, .bin .rem (.t 35) (.c (.int .i64 2)), none⟩,
  .one ⟨some 37, .bin .eql (.t 36) (.c (.int .i64 0)), none⟩]
def c50k21 : ICode := .kill (dead 69 [0, 1, 2, 3, 11, 12]) (.ops c50r21)
def c50s22 : ICode := (.seq (.block 1 (.seq (.seq c50k21 c50s20) c50s19)) c50k5)
def c50s23 : ICode := (.cond (.t 30) .skip (.exit 0))
def c50r24 : List Seg := [
  .one ⟨some 28, .mv (.t 12), none⟩,
  .one ⟨some 29, .mv (.t 0), none⟩,
  .one ⟨some 30, .bin .lss (.t 28) (.t 29), none⟩]
def c50k24 : ICode := .kill (dead 69 [0, 1, 2, 3, 11, 12]) (.ops c50r24)
def c50l4 : ICode := (.seq (.seq c50k24 c50s23) c50s22)
def c50s25 : ICode := (.block 0 (.loop c50l4))
def c50r26 : List Seg := [
  .one ⟨some 12, .mv (.c (.int .i64 0)), none⟩]
def c50k26 : ICode := .kill (dead 69 [0, 1, 2, 3, 11]) (.ops c50r26)
def c50s27 : ICode := (.seq (.seq c50k26 c50s25) c50s3)
def c50r28 : List Seg := [
  .one ⟨some 27, .mv (.t 0), none⟩,
  .one ⟨some 11, .mv (.t 27), none⟩]
def c50k28 : ICode := .kill (dead 69 [0, 1, 2, 3]) (.ops c50r28)
def c50s29 : ICode := (.seq c50k28 c50s27)
def c50r30 : List Seg := [
  .one ⟨some 26, .mv (.t 9), none⟩,
  .one ⟨some 8, .mv (.t 26), none⟩]
def c50k30 : ICode := .kill (dead 69 [9]) (.ops c50r30)
def c50s31 : ICode := (.cond (.t 25) (.seq c50k30 .ret) .skip)
def c50r32 : List Seg := [
  .one ⟨some 25, .mv (.t 10), none⟩]
def c50k32 : ICode := .kill (dead 69 [0, 1, 2, 3, 9, 10]) (.ops c50r32)
def c50s33 : ICode := (.seq c50k32 c50s31)
def c50r34 : List Seg := [
  .one ⟨some 20, .mv (.t 3), none⟩,
  .one ⟨some 21, .mv (.t 2), none⟩,
  .one ⟨some 22, .look (.int .i64 0) true (.t 20) (.t 21), none⟩,
  .one ⟨some 19, .mv (.t 22), none⟩,
  .one ⟨some 23, .ext (.t 19) 0, none⟩,
  .one ⟨some 24, .ext (.t 19) 1, none⟩,
  .one ⟨some 9, .mv (.t 23), none⟩,
  .one ⟨some 10, .mv (.t 24), none⟩]
def c50k34 : ICode := .kill (dead 69 [0, 1, 2, 3]) (.ops c50r34)
def c50s35 : ICode := (.seq (.seq c50k34 c50s33) c50s29)
def c50r36 : List Seg := [
  .one ⟨some 8, .mv (.c (.int .i64 0)), none⟩]
def c50k36 : ICode := .kill (dead 69 []) (.ops c50r36)
def c50s37 : ICode := (.cond (.t 18) (.seq c50k36 .ret) .skip)
def c50r38 : List Seg := [
  .one ⟨some 16, .mv (.t 2), none⟩,
  .one ⟨some 17, .call (.c (.func 72 [])) [(.t 16)], none⟩,
  .one ⟨some 18, .bin .eql (.t 17) (.c (.int .i64 1)), none⟩]
def c50k38 : ICode := .kill (dead 69 [0, 1, 2, 3]) (.ops c50r38)
def c50s39 : ICode := (.seq (.seq c50k38 c50s37) c50s35)
def c50r40 : List Seg := [
  .one ⟨some 8, .mv (.c (.int .i64 0)), none⟩]
def c50k40 : ICode := .kill (dead 69 [0, 1, 2, 3]) (.ops c50r40)
def c50b : ICode := (.seq c50k40 c50s39)
def c50 : IFn := ⟨69, [.t 8], c50b⟩
def h50 : List (Nat × List Nat) := [(0, dead 69 [0, 1, 2, 3]), (1, dead 69 [0, 1, 2, 3]), (2, dead 69 []), (3, dead 69 [0, 1, 2, 3]), (4, dead 69 [0, 1, 2, 3, 9, 10]), (5, dead 69 [9]), (6, dead 69 [0, 1, 2, 3]), (7, dead 69 [0, 1, 2, 3, 11]), (8, dead 69 [0, 1, 2, 3, 11, 12]), (10, dead 69 [0, 1, 2, 3, 11, 12]), (11, dead 69 [0, 1, 2, 3, 11, 12]), (12, dead 69 [0, 1, 2, 3, 11, 12, 13]), (13, dead 69 [0, 1, 2, 3, 11, 12, 13, 14]), (14, dead 69 [0, 1, 2, 3, 11, 12, 13, 14, 15]), (16, dead 69 [0, 1, 2, 3, 11, 12, 13, 14, 15]), (15, dead 69 [0, 1, 2, 3, 11, 12, 13, 14, 15]), (17, dead 69 [0, 1, 2, 3, 11, 12, 14]), (9, dead 69 [0, 1, 2, 3, 11, 12]), (18, dead 69 [2, 3, 11]), (19, dead 69 [11])]
def c51r0 : List Seg := [
  .one ⟨some 45, .mv (.t 6), none⟩,
  .one ⟨some 46, .mv (.t 7), none⟩,
  .one ⟨some 4, .mv (.t 45), none⟩,
  .one ⟨some 5, .mv (.t 46), none⟩]
def c51k0 : ICode := .kill (dead 47 [6, 7]) (.ops c51r0)
def c51s1 : ICode := (.seq c51k0 .ret)
def c51r3 : List Seg := [
  .one ⟨some 16, .mv (.t 8), none⟩,
  .one ⟨some 17, .bin .add (.t 16) (.c (.int .i64 1)), none⟩,
  .one ⟨some 8, .mv (.t 17), none⟩]
def c51k3 : ICode := .kill (dead 47 [0, 1, 6, 7, 8]) (.ops c51r3)
def c51r4 : List Seg := [
  .one ⟨some 44, .mv (.t 10), none⟩,
  .one ⟨some 7, .mv (.t 44), none⟩]
def c51k4 : ICode := .kill (dead 47 [0, 1, 6, 8, 10]) (.ops c51r4)
def c51r5 : List Seg := [
  .one ⟨some 43, .mv (.t 8), none⟩,
  .one ⟨some 6, .mv (.t 43), none⟩]
def c51k5 : ICode := .kill (dead 47 [0, 1, 8, 10]) (.ops c51r5)
def c51s6 : ICode := (.cond (.t 42) (.seq c51k5 c51k4) .skip)
def c51r7 : List Seg := [
  .one ⟨some 40, .mv (.t 10), none⟩,
  .one ⟨some 41, .mv (.t 7), none⟩,
  .one ⟨some 42, .bin .lss (.t 40) (.t 41), none⟩]
def c51k7 : ICode := .kill (dead 47 [0, 1, 6, 7, 8, 10]) (.ops c51r7)
def c51s8 : ICode := (.seq c51k7 c51s6)
def c51r10 : List Seg := [
  .one ⟨some 31, .mv (.t 11), none⟩,
  .one ⟨some 32, .bin .add (.t 31) (.c (.int .i64 1)), none⟩,
  .one ⟨some 11, .mv (.t 32), none⟩]
def c51k10 : ICode := .kill (dead 47 [0, 1, 6, 7, 8, 9, 10, 11]) (.ops c51r10)
def c51r11 : List Seg := [
  .one ⟨some 33, .mv (.t 10), none⟩,
  .one ⟨some 34, .mv (.t 9), none⟩,
  .one ⟨some 35, .mv (.t 11), none⟩,
  .one ⟨some 36, .idxS 1 (.t 34) (.t 35), none⟩,
  .one ⟨some 37, .load1 (.t 36), none⟩,
  .one ⟨some 38, .call (.c (.func 72 [])) [(.t 37)], none⟩,
  .one ⟨some 39, .mx [(.t 33), (.t 38)], none⟩,
  .one ⟨some 10, .mv (.t 39), none⟩]
def c51k11 : ICode := .kill (dead 47 [0, 1, 6, 7, 8, 9, 10, 11]) (.ops c51r11)
def c51s12 : ICode := (.seq (.block 3 c51k11) c51k10)
def c51s13 : ICode := (.cond (.t 30) .skip (.exit 2))
def c51r14 : List Seg := [
  .one ⟨some 27, .mv (.t 11), none⟩,
  .one ⟨some 28, .mv (.t 9), none⟩,
  .one ⟨some 29, .len 0 (.t 28), none⟩,
  .one ⟨some 30, .bin .lss (.t 27) (.t 29), none⟩]
def c51k14 : ICode := .kill (dead 47 [0, 1, 6, 7, 8, 9, 10, 11]) (.ops c51r14)
def c51l9 : ICode := (.seq (.seq c51k14 c51s13) c51s12)
def c51s15 : ICode := (.block 2 (.loop c51l9))
def c51r16 : List Seg := [
  .one ⟨some 11, .mv (.c (.int .i64 0)), none⟩]
def c51k16 : ICode := .kill (dead 47 [0, 1, 6, 7, 8, 9, 10]) (.ops c51r16)
def c51s17 : ICode := (.seq (.seq c51k16 c51s15) c51s8)
def c51r18 : List Seg := [
  .one ⟨some 10, .mv (.c (.int .i64 0)), none⟩]
def c51k18 : ICode := .kill (dead 47 [0, 1, 6, 7, 8, 9]) (.ops c51r18)
def c51s19 : ICode := (.seq c51k18 c51s17)
def c51r20 : List Seg := [
  .grp [(⟨some 18, .mv (.t 0), none⟩, 0), (⟨some 19, .mv (.t 1), none⟩, 0), (⟨some 20, .mv (.t 0), none⟩, 0), (⟨some 21, .bin .shl (.c (.int .i64 1)) (.t 20), none⟩, 4), (⟨some 22, .bin .sub (.t 21) (.c (.int .i64 1)), none⟩, 12), (⟨some 23, .mv (.t 8), none⟩, 0), (⟨some 24, .bin .shl (.c (.int .i64 1)) (.t 23), none⟩, 32), (⟨some 25, .bin .andNot (.t 22) (.t 24), none⟩, 124)],
  .one ⟨some 26, .call (.c (.func 71 [])) [(.t 18), (.t 19), (.t 25)], none⟩,
  .one ⟨some 9, .mv (.t 26), none⟩]
def c51k20 : ICode := .kill (dead 47 [0, 1, 6, 7, 8]) (.ops c51r20)
def c51s21 : ICode := (.seq (.block 1 (.seq c51k20 c51s19)) c51k3)
def c51s22 : ICode := (.cond (.t 15) .skip (.exit 0))
def c51r23 : List Seg := [
  .one ⟨some 13, .mv (.t 8), none⟩,
  .one ⟨some 14, .mv (.t 0), none⟩,
  .one ⟨some 15, .bin .lss (.t 13) (.t 14), none⟩]
def c51k23 : ICode := .kill (dead 47 [0, 1, 6, 7, 8]) (.ops c51r23)
def c51l2 : ICode := (.seq (.seq c51k23 c51s22) c51s21)
def c51s24 : ICode := (.block 0 (.loop c51l2))
def c51r25 : List Seg := [
  .one ⟨some 8, .mv (.c (.int .i64 0)), none⟩]
def c51k25 : ICode := .kill (dead 47 [0, 1, 6, 7]) (.ops c51r25)
def c51s26 : ICode := (.seq (.seq c51k25 c51s24) c51s1)
def c51r27 : List Seg := [
  .one ⟨some 12, .mv (.t 0), none⟩,
  .one ⟨some 6, .mv (.c (.int .i64 0)), none⟩,
  .one ⟨some 7, .mv (.t 12), none⟩]
def c51k27 : ICode := .kill (dead 47 [0, 1]) (.ops c51r27)
def c51s28 : ICode := (.seq c51k27 c51s26)
def c51r29 : List Seg := [
  .one ⟨some 4, .mv (.c (.int .i64 0)), none⟩,
  .one ⟨some 5, .mv (.c (.int .i64 0)), none⟩]
def c51k29 : ICode := .kill (dead 47 [0, 1]) (.ops c51r29)
def c51b : ICode := (.seq c51k29 c51s28)
def c51 : IFn := ⟨47, [.t 4, .t 5], c51b⟩
def h51 : List (Nat × List Nat) := [(0, dead 47 [0, 1]), (1, dead 47 [0, 1]), (2, dead 47 [0, 1, 6, 7]), (3, dead 47 [0, 1, 6, 7, 8]), (5, dead 47 [0, 1, 6, 7, 8]), (6, dead 47 [0, 1, 6, 7, 8, 9]), (7, dead 47 [0, 1, 6, 7, 8, 9, 10]), (8, dead 47 [0, 1, 6, 7, 8, 9, 10, 11]), (10, dead 47 [0, 1, 6, 7, 8, 9, 10, 11]), (9, dead 47 [0, 1, 6, 7, 8, 9, 10, 11]), (11, dead 47 [0, 1, 6, 7, 8, 10]), (12, dead 47 [0, 1, 8, 10]), (13, dead 47 [0, 1, 6, 8, 10]), (4, dead 47 [0, 1, 6, 7, 8]), (14, dead 47 [6, 7])]
def c52r0 : List Seg := [
  .one ⟨some 4, .mv (.t 3), none⟩,
  .one ⟨some 5, .mv (.t 0), none⟩,
  .one ⟨some 6, .mv (.t 0), none⟩,
  .one ⟨some 7, .len 0 (.t 6), none⟩,
  .one ⟨some 8, .mn [(.t 7), (.c (.int .i64 11))], none⟩,
  .one ⟨some 9, .sliceS 2 (.t 5) none (some (.t 8)) none, none⟩,
  .one ⟨some 10, .app 2 16 (.t 4) (.t 9), none⟩,
  .one ⟨some 2, .mv (.t 10), none⟩]
def c52k0 : ICode := .kill (dead 11 [0, 3]) (.ops c52r0)
def c52s1 : ICode := (.seq c52k0 .ret)
def c52r2 : List Seg := [
  .one ⟨some 3, .mv (.c .nilslice), none⟩]
def c52k2 : ICode := .kill (dead 11 [0]) (.ops c52r2)
def c52s3 : ICode := (.seq c52k2 c52s1)
def c52r4 : List Seg := [
  .one ⟨some 2, .mv (.c .nilslice), none⟩]
def c52k4 : ICode := .kill (dead 11 [0]) (.ops c52r4)
def c52b : ICode := (.seq c52k4 c52s3)
def c52 : IFn := ⟨11, [.t 2], c52b⟩
def h52 : List (Nat × List Nat) := [(0, dead 11 [0]), (1, dead 11 [0]), (2, dead 11 [0, 3])]
def c53r0 : List Seg := [
  .one ⟨some 4, .mv (.c (.int .i64 0)), none⟩]
def c53k0 : ICode := .kill (dead 91 []) (.ops c53r0)
def c53s1 : ICode := (.seq c53k0 .ret)
def c53r2 : List Seg := [
  .one ⟨some 4, .mv (.c (.int .i64 81)), none⟩]
def c53k2 : ICode := .kill (dead 91 []) (.ops c53r2)
def c53s3 : ICode := (.cond (.t 90) (.seq c53k2 .ret) .skip)
def c53r4 : List Seg := [
  .one ⟨some 76, .mv (.t 1), none⟩,
  .one ⟨some 77, .len 0 (.t 76), none⟩,
  .one ⟨some 78, .mv (.t 0), none⟩,
  .one ⟨some 79, .bin .sub (.t 78) (.c (.int .i64 1)), none⟩,
  .one ⟨some 80, .bin .neq (.t 77) (.t 79), none⟩,
  .one ⟨some 81, .mv (.t 80), none⟩,
  .one ⟨some 82, .mv (.t 0), some (81, false)⟩,
  .one ⟨some 83, .mv (.t 1), some (81, false)⟩,
  .one ⟨some 84, .mv (.t 0), some (81, false)⟩,
  .one ⟨some 85, .bin .shl (.c (.int .i64 1)) (.t 84), some (81, false)⟩,
  .one ⟨some 86, .bin .sub (.t 85) (.c (.int .i64 1)), some (81, false)⟩,
  .one ⟨some 87, .call (.c (.func 71 [])) [(.t 82), (.t 83), (.t 86)], some (81, false)⟩,
  .one ⟨some 88, .len 0 (.t 87), some (81, false)⟩,
  .one ⟨some 89, .bin .neq (.t 88) (.c (.int .i64 1)), some (81, false)⟩,
  .one ⟨some 90, .pick (.t 81) (.c (.bool true)) (.t 89), none⟩]
def c53k4 : ICode := .kill (dead 91 [0, 1]) (.ops c53r4)
def c53s5 : ICode := (.seq (.seq c53k4 c53s3) c53s1)
def c53r7 : List Seg := [
  .one ⟨some 18, .mv (.t 5), none⟩,
  .one ⟨some 19, .bin .add (.t 18) (.c (.int .i64 1)), none⟩,
  .one ⟨some 5, .mv (.t 19), none⟩]
def c53k7 : ICode := .kill (dead 91 [0, 1, 5]) (.ops c53r7)
def c53r8 : List Seg := [
  .one ⟨some 4, .mv (.c (.int .i64 81)), none⟩]
def c53k8 : ICode := .kill (dead 91 []) (.ops c53r8)
def c53s9 : ICode := (.cond (.t 75) (.seq c53k8 .ret) .skip)
def c53r10 : List Seg := [
  .one ⟨some 30, .mv (.t 6), none⟩,
  .one ⟨some 31, .bin .lss (.t 30) (.c (.int .i64 0)), none⟩,
  .one ⟨some 32, .mv (.t 31), none⟩,
  .one ⟨some 33, .mv (.t 6), some (32, false)⟩,
  .one ⟨some 34, .mv (.t 7), some (32, false)⟩,
  .one ⟨some 35, .bin .geq (.t 33) (.t 34), some (32, false)⟩,
  .one ⟨some 36, .pick (.t 32) (.c (.bool true)) (.t 35), none⟩,
  .one ⟨some 37, .mv (.t 36), none⟩,
  .one ⟨some 38, .mv (.t 7), some (37, false)⟩,
  .one ⟨some 39, .mv (.t 0), some (37, false)⟩,
  .one ⟨some 40, .bin .geq (.t 38) (.t 39), some (37, false)⟩,
  .one ⟨some 41, .pick (.t 37) (.c (.bool true)) (.t 40), none⟩,
  .one ⟨some 42, .mv (.t 41), none⟩,
  .one ⟨some 43, .mv (.t 5), some (42, false)⟩,
  .one ⟨some 44, .bin .gtr (.t 43) (.c (.int .i64 0)), some (42, false)⟩,
  .one ⟨some 45, .mv (.t 44), some (42, false)⟩,
  .one ⟨some 46, .mv (.t 1), some (45, true)⟩,
  .one ⟨some 47, .mv (.t 5), some (45, true)⟩,
  .one ⟨some 48, .bin .sub (.t 47) (.c (.int .i64 1)), some (45, true)⟩,
  .one ⟨some 49, .idxS 2 (.t 46) (.t 48), some (45, true)⟩,
  .one ⟨some 50, .idxA 2 1 (.t 49) (.c (.int .i64 0)), some (45, true)⟩,
  .one ⟨some 51, .load1 (.t 50), some (45, true)⟩,
  .one ⟨some 52, .mv (.t 6), some (45, true)⟩,
  .one ⟨some 53, .bin .gtr (.t 51) (.t 52), some (45, true)⟩,
  .one ⟨some 54, .mv (.t 53), some (45, true)⟩,
  .one ⟨some 55, .mv (.t 1), some (54, false)⟩,
  .one ⟨some 56, .mv (.t 5), some (54, false)⟩,
  .one ⟨some 57, .bin .sub (.t 56) (.c (.int .i64 1)), some (54, false)⟩,
  .one ⟨some 58, .idxS 2 (.t 55) (.t 57), some (54, false)⟩,
  .one ⟨some 59, .idxA 2 1 (.t 58) (.c (.int .i64 0)), some (54, false)⟩,
  .one ⟨some 60, .load1 (.t 59), some (54, false)⟩,
  .one ⟨some 61, .mv (.t 6), some (54, false)⟩,
  .one ⟨some 62, .bin .eql (.t 60) (.t 61), some (54, false)⟩,
  .one ⟨some 63, .mv (.t 62), some (54, false)⟩,
  .one ⟨some 64, .mv (.t 1), some (63, true)⟩,
  .one ⟨some 65, .mv (.t 5), some (63, true)⟩,
  .one ⟨some 66, .bin .sub (.t 65) (.c (.int .i64 1)), some (63, true)⟩,
  .one ⟨some 67, .idxS 2 (.t 64) (.t 66), some (63, true)⟩,
  .one ⟨some 68, .idxA 2 1 (.t 67) (.c (.int .i64 1)), some (63, true)⟩,
  .one ⟨some 69, .load1 (.t 68), some (63, true)⟩,
  .one ⟨some 70, .mv (.t 7), some (63, true)⟩,
  .one ⟨some 71, .bin .geq (.t 69) (.t 70), some (63, true)⟩,
  .one ⟨some 72, .pick (.t 63) (.t 71) (.c (.bool false)), some (54, false)⟩,
  .one ⟨some 73, .pick (.t 54) (.c (.bool true)) (.t 72), some (45, true)⟩,
  .one ⟨some 74, .pick (.t 45) (.t 73) (.c (.bool false)), some (42, false)⟩,
  .one ⟨some 75, .pick (.t 42) (.c (.bool true)) (.t 74), none⟩]
def c53k10 : ICode := .kill (dead 91 [0, 1, 5, 6, 7]) (.ops c53r10)
def c53s11 : ICode := (.seq c53k10 c53s9)
def c53r12 : List Seg := [
  .grp [(⟨some 20, .mv (.t 1), none⟩, 0), (⟨some 21, .mv (.t 5), none⟩, 0), (⟨some 22, .idxS 2 (.t 20) (.t 21), none⟩, 3), (⟨some 23, .idxA 2 1 (.t 22) (.c (.int .i64 0)), none⟩, 7), (⟨some 24, .load1 (.t 23), none⟩, 15), (⟨some 25, .mv (.t 1), none⟩, 0), (⟨some 26, .mv (.t 5), none⟩, 0), (⟨some 27, .idxS 2 (.t 25) (.t 26), none⟩, 96), (⟨some 28, .idxA 2 1 (.t 27) (.c (.int .i64 1)), none⟩, 224), (⟨some 29, .load1 (.t 28), none⟩, 480), (⟨some 6, .mv (.t 24), none⟩, 31)],
  .one ⟨some 7, .mv (.t 29), none⟩]
def c53k12 : ICode := .kill (dead 91 [0, 1, 5]) (.ops c53r12)
def c53s13 : ICode := (.seq (.block 1 (.seq c53k12 c53s11)) c53k7)
def c53s14 : ICode := (.cond (.t 17) .skip (.exit 0))
def c53r15 : List Seg := [
  .one ⟨some 14, .mv (.t 5), none⟩,
  .one ⟨some 15, .mv (.t 1), none⟩,
  .one ⟨some 16, .len 0 (.t 15), none⟩,
  .one ⟨some 17, .bin .lss (.t 14) (.t 16), none⟩]
def c53k15 : ICode := .kill (dead 91 [0, 1, 5]) (.ops c53r15)
def c53l6 : ICode := (.seq (.seq c53k15 c53s14) c53s13)
def c53s16 : ICode := (.block 0 (.loop c53l6))
def c53r17 : List Seg := [
  .one ⟨some 5, .mv (.c (.int .i64 0)), none⟩]
def c53k17 : ICode := .kill (dead 91 [0, 1]) (.ops c53r17)
def c53s18 : ICode := (.seq (.seq c53k17 c53s16) c53s5)
def c53r19 : List Seg := [
  .one ⟨some 4, .mv (.c (.int .i64 1)), none⟩]
def c53k19 : ICode := .kill (dead 91 []) (.ops c53r19)
def c53s20 : ICode := (.cond (.t 13) (.seq c53k19 .ret) .skip)
def c53r21 : List Seg := [
  .one ⟨some 8, .mv (.t 0), none⟩,
  .one ⟨some 9, .bin .lss (.t 8) (.c (.int .i64 1)), none⟩,
  .one ⟨some 10, .mv (.t 9), none⟩,
  .one ⟨some 11, .mv (.t 0), some (10, false)⟩,
  .one ⟨some 12, .bin .gtr (.t 11) (.c (.int .i64 10)), some (10, false)⟩,
  .one ⟨some 13, .pick (.t 10) (.c (.bool true)) (.t 12), none⟩]
def c53k21 : ICode := .kill (dead 91 [0, 1]) (.ops c53r21)
def c53s22 : ICode := (.seq (.seq c53k21 c53s20) c53s18)
def c53r23 : List Seg := [
  .one ⟨some 4, .mv (.c (.int .i64 0)), none⟩]
def c53k23 : ICode := .kill (dead 91 [0, 1]) (.ops c53r23)
def c53b : ICode := (.seq c53k23 c53s22)
def c53 : IFn := ⟨91, [.t 4], c53b⟩
def h53 : List (Nat × List Nat) := [(0, dead 91 [0, 1]), (1, dead 91 [0, 1]), (2, dead 91 []), (3, dead 91 [0, 1]), (4, dead 91 [0, 1, 5]), (6, dead 91 [0, 1, 5]), (7, dead 91 [0, 1, 5, 6, 7]), (8, dead 91 []), (5, dead 91 [0, 1, 5]), (9, dead 91 [0, 1]), (10, dead 91 []), (11, dead 91 [])]
def c54r0 : List Seg := [
  .one ⟨some 13, .mv (.t 6), none⟩,
  .one ⟨some 4, .mv (.t 13), none⟩]
def c54k0 : ICode := .kill (dead 14 [6]) (.ops c54r0)
def c54s1 : ICode := (.seq c54k0 .ret)
def c54r2 : List Seg := [
  .one ⟨some 8, .mv (.t 0), none⟩,
  .one ⟨some 9, .mv (.t 1), none⟩,
  .one ⟨some 10, .call (.c (.func 68 [])) [(.t 8), (.t 9)], none⟩,
  .one ⟨some 7, .mv (.t 10), none⟩,
  .one ⟨some 11, .ext (.t 7) 0, none⟩,
  .one ⟨some 12, .ext (.t 7) 1, none⟩,
  .one ⟨some 5, .mv (.t 11), none⟩,
  .one ⟨some 6, .mv (.t 12), none⟩]
def c54k2 : ICode := .kill (dead 14 [0, 1]) (.ops c54r2)
def c54s3 : ICode := (.seq c54k2 c54s1)
def c54r4 : List Seg := [
  .one ⟨some 4, .mv (.c (.int .i64 0)), none⟩]
def c54k4 : ICode := .kill (dead 14 [0, 1]) (.ops c54r4)
def c54b : ICode := (.seq c54k4 c54s3)
def c54 : IFn := ⟨14, [.t 4], c54b⟩
def h54 : List (Nat × List Nat) := [(0, dead 14 [0, 1]), (1, dead 14 [0, 1]), (2, dead 14 [6])]
def c55r0 : List Seg := [
  .one ⟨some 7, .mv (.t 2), none⟩,
  .one ⟨some 8, .mkfn 82 [(.t 3), (.t 4)], none⟩,
  .one ⟨some 9, .call (.c (.func 81 [])) [(.t 7), (.t 8)], none⟩,
  .one ⟨some 10, .un .not (.t 9), none⟩,
  .one ⟨some 6, .mv (.t 10), none⟩]
def c55k0 : ICode := .kill (dead 11 [2, 3, 4]) (.ops c55r0)
def c55s1 : ICode := (.seq c55k0 .ret)
def c55r2 : List Seg := [
  .one ⟨some 3, .box (.t 0), none⟩,
  .one ⟨some 4, .box (.t 1), none⟩,
  .one ⟨some 6, .mv (.c (.bool false)), none⟩]
def c55k2 : ICode := .kill (dead 11 [0, 1, 2]) (.ops c55r2)
def c55b : ICode := (.seq c55k2 c55s1)
def c55 : IFn := ⟨11, [.t 6], c55b⟩
def h55 : List (Nat × List Nat) := [(0, dead 11 [0, 1, 2]), (1, dead 11 [2, 3, 4])]
def c56r0 : List Seg := [
  .one ⟨some 30, .mv (.t 0), none⟩,
  .one ⟨some 31, .idxA 21 1 (.t 5) (.t 30), none⟩,
  .one ⟨some 32, .load1 (.t 31), none⟩,
  .one ⟨some 4, .mv (.t 32), none⟩]
def c56k0 : ICode := .kill (dead 33 [0, 5]) (.ops c56r0)
def c56s1 : ICode := (.seq c56k0 .ret)
def c56r3 : List Seg := [
  .one ⟨some 29, .bin .add (.t 9) (.c (.int .i64 1)), none⟩,
  .one ⟨some 9, .mv (.t 29), none⟩]
def c56k3 : ICode := .kill (dead 33 [0, 5, 8, 9]) (.ops c56r3)
def c56r4 : List Seg := [
  .one ⟨some 28, .loadN 21 (.t 6), none⟩,
  .one ⟨none, .storeN 21 (.t 5) (.t 28), none⟩]
def c56k4 : ICode := .kill (dead 33 [0, 5, 6, 8, 9]) (.ops c56r4)
def c56r6 : List Seg := [
  .one ⟨some 15, .mv (.t 7), none⟩,
  .one ⟨some 16, .bin .add (.t 15) (.c (.int .i64 1)), none⟩,
  .one ⟨some 7, .mv (.t 16), none⟩]
def c56k6 : ICode := .kill (dead 33 [0, 5, 6, 7, 8, 9]) (.ops c56r6)
def c56r7 : List Seg := [
  .grp [(⟨some 17, .mv (.t 7), none⟩, 0), (⟨some 18, .mv (.t 7), none⟩, 0), (⟨some 19, .bin .sub (.t 18) (.c (.int .i64 1)), none⟩, 2), (⟨some 20, .idxA 21 1 (.t 5) (.t 19), none⟩, 6), (⟨some 21, .load1 (.t 20), none⟩, 14), (⟨some 22, .bin .add (.t 21) (.c (.int .i64 1)), none⟩, 30), (⟨some 23, .mv (.t 7), none⟩, 0), (⟨some 24, .idxA 21 1 (.t 5) (.t 23), none⟩, 64), (⟨some 25, .load1 (.t 24), none⟩, 192), (⟨some 26, .bin .add (.t 22) (.t 25), none⟩, 510)],
  .one ⟨some 27, .idxA 21 1 (.t 6) (.t 17), none⟩,
  .one ⟨none, .store1 (.t 27) (.t 26), none⟩]
def c56k7 : ICode := .kill (dead 33 [0, 5, 6, 7, 8, 9]) (.ops c56r7)
def c56s8 : ICode := (.seq (.block 3 c56k7) c56k6)
def c56s9 : ICode := (.cond (.t 14) .skip (.exit 2))
def c56r10 : List Seg := [
  .one ⟨some 12, .mv (.t 7), none⟩,
  .one ⟨some 13, .mv (.t 0), none⟩,
  .one ⟨some 14, .bin .leq (.t 12) (.t 13), none⟩]
def c56k10 : ICode := .kill (dead 33 [0, 5, 6, 7, 8, 9]) (.ops c56r10)
def c56l5 : ICode := (.seq (.seq c56k10 c56s9) c56s8)
def c56s11 : ICode := (.block 2 (.loop c56l5))
def c56r12 : List Seg := [
  .one ⟨some 7, .mv (.c (.int .i64 1)), none⟩]
def c56k12 : ICode := .kill (dead 33 [0, 5, 6, 8, 9]) (.ops c56r12)
def c56s13 : ICode := (.seq (.seq c56k12 c56s11) c56k4)
def c56r14 : List Seg := [
  .one ⟨some 11, .loadN 21 (.t 5), none⟩,
  .one ⟨some 6, .box (.c (.agg (List.replicate 21 (.int .i64 0)))), none⟩,
  .one ⟨none, .storeN 21 (.t 6) (.t 11), none⟩]
def c56k14 : ICode := .kill (dead 33 [0, 5, 8, 9]) (.ops c56r14)
def c56s15 : ICode := (.seq (.block 1 (.seq c56k14 c56s13)) c56k3)
def c56s16 : ICode := (.seq (.cond (.t 10) .skip (.exit 0)) c56s15)
def c56r17 : List Seg := [
  .one ⟨some 10, .bin .lss (.t 9) (.t 8), none⟩]
def c56k17 : ICode := .kill (dead 33 [0, 5, 8, 9]) (.ops c56r17)
def c56l2 : ICode := (.seq c56k17 c56s16)
def c56s18 : ICode := (.block 0 (.loop c56l2))
def c56r19 : List Seg := [
  .one ⟨some 8, .mv (.t 1), none⟩,
  .one ⟨some 9, .mv (.c (.int .i64 0)), none⟩]
def c56k19 : ICode := .kill (dead 33 [0, 1, 5]) (.ops c56r19)
def c56s20 : ICode := (.seq (.seq c56k19 c56s18) c56s1)
def c56r21 : List Seg := [
  .one ⟨some 5, .box (.c (.agg (List.replicate 21 (.int .i64 0)))), none⟩]
def c56k21 : ICode := .kill (dead 33 [0, 1]) (.ops c56r21)
def c56s22 : ICode := (.seq c56k21 c56s20)
def c56r23 : List Seg := [
  .one ⟨some 4, .mv (.c (.int .i64 0)), none⟩]
def c56k23 : ICode := .kill (dead 33 [0, 1]) (.ops c56r23)
def c56b : ICode := (.seq c56k23 c56s22)
def c56 : IFn := ⟨33, [.t 4], c56b⟩
def h56 : List (Nat × List Nat) := [(0, dead 33 [0, 1]), (1, dead 33 [0, 1]), (2, dead 33 [0, 1, 5]), (3, dead 33 [0, 5, 8, 9]), (4, dead 33 [0, 5, 8, 9]), (5, dead 33 [0, 5, 6, 8, 9]), (6, dead 33 [0, 5, 6, 7, 8, 9]), (8, dead 33 [0, 5, 6, 7, 8, 9]), (7, dead 33 [0, 5, 6, 7, 8, 9]), (9, dead 33 [0, 5, 6, 8, 9]), (10, dead 33 [0, 5, 8, 9]), (11, dead 33 [0, 5])]
def c57r0 : List Seg := [
  .one ⟨some 101, .load1 (.t 5), none⟩,
  .one ⟨some 4, .mv (.t 101), none⟩]
def c57k0 : ICode := .kill (dead 102 [5]) (.ops c57r0)
def c57s1 : ICode := (.seq c57k0 .ret)
def c57r3 : List Seg := [
  .one ⟨some 19, .mv (.t 6), none⟩,
  .one ⟨some 20, .bin .add (.t 19) (.c (.int .i64 1)), none⟩,
  .one ⟨some 6, .mv (.t 20), none⟩]
def c57k3 : ICode := .kill (dead 102 [0, 3, 4, 5, 6]) (.ops c57r3)
def c57r5 : List Seg := [
  .one ⟨some 26, .mv (.t 7), none⟩,
  .one ⟨some 27, .bin .add (.t 26) (.c (.int .i64 1)), none⟩,
  .one ⟨some 7, .mv (.t 27), none⟩]
def c57k5 : ICode := .kill (dead 102 [0, 3, 4, 5, 6, 7]) (.ops c57r5)
def c57r7 : List Seg := [
  .one ⟨none, .store1 (.t 9) (.c (.bool false)), none⟩]
def c57k7 : ICode := .kill (dead 102 [9]) (.ops c57r7)
def c57r8 : List Seg := [
  .grpw (.t 96) (.t 91) none [(⟨some 81, .load1 (.t 5), none⟩, 0), (⟨some 82, .fieldA 0 (.t 8), none⟩, 0), (⟨some 83, .load1 (.t 82), none⟩, 2), (⟨some 84, .fieldA 1 (.t 8), none⟩, 0), (⟨some 85, .load1 (.t 84), none⟩, 8), (⟨some 86, .load1 (.t 5), none⟩, 0), (⟨some 87, .fieldA 0 (.t 8), none⟩, 0), (⟨some 88, .load1 (.t 87), none⟩, 64), (⟨some 89, .fieldA 1 (.t 8), none⟩, 0), (⟨some 90, .load1 (.t 89), none⟩, 256), (⟨some 91, .mv (.t 13), none⟩, 0), (⟨some 92, .mv (.t 10), none⟩, 0), (⟨some 93, .nilck (.t 81), none⟩, 1), (⟨some 94, .fieldA 0 (.t 93), none⟩, 4097), (⟨some 95, .idxA 13 13 (.t 94) (.t 83), none⟩, 12295), (⟨some 96, .idxA 13 1 (.t 95) (.t 85), none⟩, 29727), (⟨none, .lenc 0, none⟩, 62495), (⟨some 97, .nilck (.t 86), none⟩, 32), (⟨some 98, .fieldA 169 (.t 97), none⟩, 131104), (⟨some 99, .idxA 13 13 (.t 98) (.t 88), none⟩, 393440)],
  .one ⟨some 100, .idxA 13 1 (.t 99) (.t 90), none⟩,
  .one ⟨none, .store1 (.t 100) (.t 92), none⟩]
def c57k8 : ICode := .kill (dead 102 [5, 8, 9, 10, 13]) (.ops c57r8)
def c57s9 : ICode := (.cond (.t 80) c57k8 .skip)
def c57r10 : List Seg := [
  .one ⟨some 66, .load1 (.t 9), none⟩,
  .one ⟨some 67, .mv (.t 66), none⟩,
  .grp [(⟨some 68, .mv (.t 13), some (67, false)⟩, 0), (⟨some 69, .load1 (.t 5), some (67, false)⟩, 0), (⟨some 70, .fieldA 0 (.t 8), some (67, false)⟩, 0), (⟨some 71, .load1 (.t 70), some (67, false)⟩, 4), (⟨some 72, .fieldA 1 (.t 8), some (67, false)⟩, 0), (⟨some 73, .load1 (.t 72), some (67, false)⟩, 16), (⟨some 74, .nilck (.t 69), some (67, false)⟩, 2), (⟨some 75, .fieldA 0 (.t 74), some (67, false)⟩, 66), (⟨some 76, .idxA 13 13 (.t 75) (.t 71), some (67, false)⟩, 206), (⟨some 77, .idxA 13 1 (.t 76) (.t 73), some (67, false)⟩, 510), (⟨some 78, .load1 (.t 77), some (67, false)⟩, 1022)],
  .one ⟨some 79, .bin .lss (.t 68) (.t 78), some (67, false)⟩,
  .one ⟨some 80, .pick (.t 67) (.c (.bool true)) (.t 79), none⟩]
def c57k10 : ICode := .kill (dead 102 [5, 8, 9, 10, 13]) (.ops c57r10)
def c57s11 : ICode := (.seq (.seq c57k10 c57s9) c57k7)
def c57r12 : List Seg := [
  .grp [(⟨some 42, .load1 (.t 3), none⟩, 0), (⟨some 43, .loadN 2 (.t 8), none⟩, 0), (⟨some 44, .mv (.t 10), none⟩, 0), (⟨some 45, .load1 (.t 5), none⟩, 0), (⟨some 46, .fieldA 0 (.t 11), none⟩, 0), (⟨some 47, .load1 (.t 46), none⟩, 16), (⟨some 48, .fieldA 1 (.t 11), none⟩, 0), (⟨some 49, .load1 (.t 48), none⟩, 64), (⟨some 50, .nilck (.t 45), none⟩, 8), (⟨some 51, .fieldA 0 (.t 50), none⟩, 264), (⟨some 52, .idxA 13 13 (.t 51) (.t 47), none⟩, 824), (⟨some 53, .idxA 13 1 (.t 52) (.t 49), none⟩, 2040), (⟨some 54, .load1 (.t 53), none⟩, 4088), (⟨some 55, .load1 (.t 5), none⟩, 0), (⟨some 56, .fieldA 0 (.t 12), none⟩, 0), (⟨some 57, .load1 (.t 56), none⟩, 16384), (⟨some 58, .fieldA 1 (.t 12), none⟩, 0), (⟨some 59, .load1 (.t 58), none⟩, 65536), (⟨some 60, .nilck (.t 55), none⟩, 8192), (⟨some 61, .fieldA 0 (.t 60), none⟩, 270336), (⟨some 62, .idxA 13 13 (.t 61) (.t 57), none⟩, 843776), (⟨some 63, .idxA 13 1 (.t 62) (.t 59), none⟩, 2088960), (⟨some 64, .load1 (.t 63), none⟩, 4186112)],
  .one ⟨some 65, .call (.t 42) [(.t 43), (.t 44), (.t 54), (.t 64)], none⟩,
  .one ⟨some 13, .mv (.t 65), none⟩]
def c57k12 : ICode := .kill (dead 102 [3, 5, 8, 9, 10, 11, 12]) (.ops c57r12)
def c57s13 : ICode := (.seq c57k12 c57s11)
def c57r14 : List Seg := [
  .grp [(⟨some 36, .loadN 2 (.t 8), none⟩, 0), (⟨some 37, .mv (.t 10), none⟩, 0), (⟨some 38, .call (.c (.func 84 [])) [(.t 36), (.t 37)], none⟩, 3), (⟨some 39, .loadN 2 (.t 8), none⟩, 0), (⟨some 40, .mv (.t 10), none⟩, 0), (⟨some 41, .call (.c (.func 85 [])) [(.t 39), (.t 40)], none⟩, 31), (⟨some 11, .box (.c (.agg [.int .i64 0, .int .i64 0])), none⟩, 0), (⟨some 12, .box (.c (.agg [.int .i64 0, .int .i64 0])), none⟩, 0)],
  .one ⟨none, .storeN 2 (.t 11) (.t 38), none⟩,
  .one ⟨none, .storeN 2 (.t 12) (.t 41), none⟩]
def c57k14 : ICode := .kill (dead 102 [3, 5, 8, 9, 10]) (.ops c57r14)
def c57r15 : List Seg := [
  .one ⟨some 10, .mv (.t 35), none⟩]
def c57k15 : ICode := .kill (dead 102 [3, 5, 8, 9, 35]) (.ops c57r15)
def c57f6a : ICode := c57k15
def c57f6b : ICode := (.block 5 (.seq c57k14 c57s13))
def c57s16 : ICode := (.block 4 (.rf (.t 34) [35] c57f6a c57f6b))
def c57r17 : List Seg := [
  .one ⟨some 33, .loadN 2 (.t 8), none⟩,
  .one ⟨some 34, .call (.c (.func 83 [])) [(.t 33)], none⟩]
def c57k17 : ICode := .kill (dead 102 [0, 3, 4, 5, 6, 7, 8, 9]) (.ops c57r17)
def c57s18 : ICode := (.seq c57k17 c57s16)
def c57r19 : List Seg := [
  .one ⟨some 9, .box (.c (.bool false)), none⟩,
  .one ⟨none, .store1 (.t 9) (.c (.bool true)), none⟩]
def c57k19 : ICode := .kill (dead 102 [0, 3, 4, 5, 6, 7, 8]) (.ops c57r19)
def c57s20 : ICode := (.seq c57k19 c57s18)
def c57r21 : List Seg := [
  .one ⟨some 28, .mv (.t 7), none⟩,
  .one ⟨some 29, .mv (.t 7), none⟩,
  .one ⟨some 30, .mv (.t 6), none⟩,
  .one ⟨some 31, .bin .add (.t 29) (.t 30), none⟩,
  .one ⟨some 32, .mkagg [.int .i64 0, .int .i64 0] [(0, 1, (.t 28)), (1, 1, (.t 31))], none⟩,
  .one ⟨some 8, .box (.c (.agg [.int .i64 0, .int .i64 0])), none⟩,
  .one ⟨none, .storeN 2 (.t 8) (.t 32), none⟩]
def c57k21 : ICode := .kill (dead 102 [0, 3, 4, 5, 6, 7]) (.ops c57r21)
def c57s22 : ICode := (.seq (.block 3 (.seq c57k21 c57s20)) c57k5)
def c57s23 : ICode := (.cond (.t 25) .skip (.exit 2))
def c57r24 : List Seg := [
  .one ⟨some 21, .mv (.t 7), none⟩,
  .one ⟨some 22, .mv (.t 6), none⟩,
  .one ⟨some 23, .bin .add (.t 21) (.t 22), none⟩,
  .one ⟨some 24, .mv (.t 0), none⟩,
  .one ⟨some 25, .bin .leq (.t 23) (.t 24), none⟩]
def c57k24 : ICode := .kill (dead 102 [0, 3, 4, 5, 6, 7]) (.ops c57r24)
def c57l4 : ICode := (.seq (.seq c57k24 c57s23) c57s22)
def c57s25 : ICode := (.block 2 (.loop c57l4))
def c57r26 : List Seg := [
  .one ⟨some 7, .mv (.c (.int .i64 0)), none⟩]
def c57k26 : ICode := .kill (dead 102 [0, 3, 4, 5, 6]) (.ops c57r26)
def c57s27 : ICode := (.seq (.block 1 (.seq c57k26 c57s25)) c57k3)
def c57s28 : ICode := (.cond (.t 18) .skip (.exit 0))
def c57r29 : List Seg := [
  .one ⟨some 16, .mv (.t 6), none⟩,
  .one ⟨some 17, .mv (.t 0), none⟩,
  .one ⟨some 18, .bin .leq (.t 16) (.t 17), none⟩]
def c57k29 : ICode := .kill (dead 102 [0, 3, 4, 5, 6]) (.ops c57r29)
def c57l2 : ICode := (.seq (.seq c57k29 c57s28) c57s27)
def c57s30 : ICode := (.block 0 (.loop c57l2))
def c57r31 : List Seg := [
  .one ⟨some 6, .mv (.c (.int .i64 1)), none⟩]
def c57k31 : ICode := .kill (dead 102 [0, 3, 4, 5]) (.ops c57r31)
def c57s32 : ICode := (.seq (.seq c57k31 c57s30) c57s1)
def c57r33 : List Seg := [
  .one ⟨some 14, .mkagg (List.replicate 338 (.int .i64 0)) [], none⟩,
  .one ⟨some 15, .box (.t 14), none⟩,
  .one ⟨some 5, .box (.c .nilptr), none⟩,
  .one ⟨none, .store1 (.t 5) (.t 15), none⟩]
def c57k33 : ICode := .kill (dead 102 [0, 3, 4]) (.ops c57r33)
def c57s34 : ICode := (.seq c57k33 c57s32)
def c57r35 : List Seg := [
  .one ⟨some 3, .box (.t 1), none⟩,
  .one ⟨some 4, .mv (.c .nilptr), none⟩]
def c57k35 : ICode := .kill (dead 102 [0, 1]) (.ops c57r35)
def c57b : ICode := (.seq c57k35 c57s34)
def c57 : IFn := ⟨102, [.t 4], c57b⟩
def h57 : List (Nat × List Nat) := [(0, dead 102 [0, 1]), (1, dead 102 [0, 3, 4]), (2, dead 102 [0, 3, 4, 5]), (3, dead 102 [0, 3, 4, 5, 6]), (5, dead 102 [0, 3, 4, 5, 6]), (6, dead 102 [0, 3, 4, 5, 6, 7]), (8, dead 102 [0, 3, 4, 5, 6, 7]), (9, dead 102 [0, 3, 4, 5, 6, 7, 8]), (10, dead 102 [0, 3, 4, 5, 6, 7, 8, 9]), (11, dead 102 [3, 5, 8, 9, 35]), (12, dead 102 [3, 5, 8, 9, 10]), (13, dead 102 [3, 5, 8, 9, 10, 11, 12]), (14, dead 102 [5, 8, 9, 10, 13]), (15, dead 102 [5, 8, 9, 10, 13]), (16, dead 102 [9]), (7, dead 102 [0, 3, 4, 5, 6, 7]), (4, dead 102 [0, 3, 4, 5, 6]), (17, dead 102 [5])]
def c58r0 : List Seg := [
  .one ⟨some 10, .load1 (.t 4), none⟩,
  .one ⟨some 11, .mv (.t 1), none⟩,
  .one ⟨some 12, .idxS 1 (.t 10) (.t 11), none⟩,
  .one ⟨some 13, .load1 (.t 12), none⟩,
  .one ⟨some 14, .mv (.t 2), none⟩,
  .one ⟨some 15, .mv (.t 3), none⟩,
  .one ⟨some 16, .mx [(.t 14), (.t 15)], none⟩,
  .one ⟨some 17, .bin .add (.t 13) (.t 16), none⟩,
  .one ⟨some 9, .mv (.t 17), none⟩]
def c58k0 : ICode := .kill (dead 18 [1, 2, 3, 4]) (.ops c58r0)
def c58s1 : ICode := (.seq c58k0 .ret)
def c58r2 : List Seg := [
  .one ⟨some 5, .box (.t 0), none⟩,
  .one ⟨some 9, .mv (.c (.int .i64 0)), none⟩]
def c58k2 : ICode := .kill (dead 18 [0, 1, 2, 3, 4]) (.ops c58r2)
def c58b : ICode := (.seq c58k2 c58s1)
def c58 : IFn := ⟨18, [.t 9], c58b⟩
def h58 : List (Nat × List Nat) := [(0, dead 18 [0, 1, 2, 3, 4]), (1, dead 18 [1, 2, 3, 4])]
def c59r0 : List Seg := [
  .grp [(⟨some 18, .mv (.t 5), none⟩, 0), (⟨some 19, .mkslice 1 [.int .i64 0] [(0, 1, (.t 18))], none⟩, 1), (⟨some 20, .mv (.t 0), none⟩, 0), (⟨some 21, .loadN 2 (.t 3), none⟩, 0), (⟨some 22, .mv (.t 5), none⟩, 0), (⟨some 23, .call (.c (.func 84 [])) [(.t 21), (.t 22)], none⟩, 24), (⟨some 24, .call (.c (.func 59 [])) [(.t 20), (.t 23)], none⟩, 60), (⟨some 25, .mv (.t 0), none⟩, 0), (⟨some 26, .loadN 2 (.t 3), none⟩, 0), (⟨some 27, .mv (.t 5), none⟩, 0), (⟨some 28, .call (.c (.func 85 [])) [(.t 26), (.t 27)], none⟩, 892), (⟨some 29, .call (.c (.func 59 [])) [(.t 25), (.t 28)], none⟩, 2044)],
  .one ⟨some 30, .mkslice 3 [.nilslice, .nilslice, .nilslice] [(0, 1, (.t 19)), (1, 1, (.t 24)), (2, 1, (.t 29))], none⟩,
  .one ⟨some 31, .call (.c (.func 87 [])) [(.t 30)], none⟩,
  .one ⟨some 4, .mv (.t 31), none⟩]
def c59k0 : ICode := .kill (dead 32 [0, 3, 5]) (.ops c59r0)
def c59s1 : ICode := (.seq c59k0 .ret)
def c59r2 : List Seg := [
  .grp [(⟨some 8, .mv (.t 0), none⟩, 0), (⟨some 9, .fieldA 0 (.t 3), none⟩, 0), (⟨some 10, .load1 (.t 9), none⟩, 2), (⟨some 11, .fieldA 1 (.t 3), none⟩, 0), (⟨some 12, .load1 (.t 11), none⟩, 8), (⟨some 13, .nilck (.t 8), none⟩, 1), (⟨some 14, .fieldA 169 (.t 13), none⟩, 33), (⟨some 15, .idxA 13 13 (.t 14) (.t 10), none⟩, 103)],
  .one ⟨some 16, .idxA 13 1 (.t 15) (.t 12), none⟩,
  .one ⟨some 17, .load1 (.t 16), none⟩,
  .one ⟨some 5, .mv (.t 17), none⟩]
def c59k2 : ICode := .kill (dead 32 [0, 3]) (.ops c59r2)
def c59s3 : ICode := (.seq c59k2 c59s1)
def c59r4 : List Seg := [
  .one ⟨some 4, .mv (.c .nilslice), none⟩]
def c59k4 : ICode := .kill (dead 32 []) (.ops c59r4)
def c59s5 : ICode := (.cond (.t 7) (.seq c59k4 .ret) .skip)
def c59r6 : List Seg := [
  .one ⟨some 6, .loadN 2 (.t 3), none⟩,
  .one ⟨some 7, .call (.c (.func 86 [])) [(.t 6)], none⟩]
def c59k6 : ICode := .kill (dead 32 [0, 3]) (.ops c59r6)
def c59s7 : ICode := (.seq (.seq c59k6 c59s5) c59s3)
def c59r8 : List Seg := [
  .one ⟨some 3, .box (.t 1), none⟩,
  .one ⟨some 4, .mv (.c .nilslice), none⟩]
def c59k8 : ICode := .kill (dead 32 [0, 1]) (.ops c59r8)
def c59b : ICode := (.seq c59k8 c59s7)
def c59 : IFn := ⟨32, [.t 4], c59b⟩
def h59 : List (Nat × List Nat) := [(0, dead 32 [0, 1]), (1, dead 32 [0, 3]), (2, dead 32 []), (3, dead 32 [0, 3]), (4, dead 32 [0, 3, 5])]
def c60r0 : List Seg := [
  .one ⟨some 3, .mv (.t 0), none⟩,
  .one ⟨some 4, .len 0 (.t 3), none⟩,
  .one ⟨some 5, .mkagg [.int .i64 0, .int .i64 0] [(0, 1, (.c (.int .i64 0))), (1, 1, (.t 4))], none⟩,
  .one ⟨none, .storeN 2 (.t 2) (.t 5), none⟩]
def c60k0 : ICode := .kill (dead 6 [0, 2]) (.ops c60r0)
def c60s1 : ICode := (.seq c60k0 .ret)
def c60r2 : List Seg := [
  .one ⟨some 2, .box (.c (.agg [.int .i64 0, .int .i64 0])), none⟩]
def c60k2 : ICode := .kill (dead 6 [0]) (.ops c60r2)
def c60b : ICode := (.seq c60k2 c60s1)
def c60 : IFn := ⟨6, [.cellN 2 2], c60b⟩
def h60 : List (Nat × List Nat) := [(0, dead 6 [0]), (1, dead 6 [0, 2])]
def c61r0 : List Seg := [
  .one ⟨some 18, .load1 (.t 5), none⟩,
  .one ⟨some 4, .mv (.t 18), none⟩]
def c61k0 : ICode := .kill (dead 19 [5]) (.ops c61r0)
def c61s1 : ICode := (.seq c61k0 .ret)
def c61r2 : List Seg := [
  .one ⟨some 4, .mv (.c .nilslice), none⟩]
def c61k2 : ICode := .kill (dead 19 []) (.ops c61r2)
def c61s3 : ICode := (.cond (.t 17) (.seq c61k2 .ret) .skip)
def c61r4 : List Seg := [
  .one ⟨some 16, .mv (.t 6), none⟩,
  .one ⟨some 17, .un .not (.t 16), none⟩]
def c61k4 : ICode := .kill (dead 19 [5, 6]) (.ops c61r4)
def c61s5 : ICode := (.seq (.seq c61k4 c61s3) c61s1)
def c61r6 : List Seg := [
  .one ⟨some 11, .mv (.t 1), none⟩,
  .one ⟨some 12, .load1 (.t 2), none⟩,
  .one ⟨some 13, .call (.c (.func 60 [])) [(.t 12)], none⟩,
  .one ⟨some 14, .mkfn 88 [(.t 5), (.t 2)], none⟩,
  .one ⟨some 15, .call (.c (.func 62 [])) [(.t 11), (.t 13), (.t 14)], none⟩,
  .one ⟨some 6, .mv (.t 15), none⟩]
def c61k6 : ICode := .kill (dead 19 [1, 2, 5]) (.ops c61r6)
def c61s7 : ICode := (.seq c61k6 c61s5)
def c61r8 : List Seg := [
  .one ⟨some 7, .load1 (.t 2), none⟩,
  .one ⟨some 8, .len 0 (.t 7), none⟩,
  .one ⟨some 9, .bin .add (.t 8) (.c (.int .i64 1)), none⟩,
  .one ⟨some 10, .make [.int .i64 0] 8 (.t 9) (.t 9), none⟩,
  .one ⟨some 5, .box (.c .nilslice), none⟩,
  .one ⟨none, .store1 (.t 5) (.t 10), none⟩]
def c61k8 : ICode := .kill (dead 19 [1, 2]) (.ops c61r8)
def c61s9 : ICode := (.seq c61k8 c61s7)
def c61r10 : List Seg := [
  .one ⟨some 2, .box (.t 0), none⟩,
  .one ⟨some 4, .mv (.c .nilslice), none⟩]
def c61k10 : ICode := .kill (dead 19 [0, 1]) (.ops c61r10)
def c61b : ICode := (.seq c61k10 c61s9)
def c61 : IFn := ⟨19, [.t 4], c61b⟩
def h61 : List (Nat × List Nat) := [(0, dead 19 [0, 1]), (1, dead 19 [1, 2]), (2, dead 19 [1, 2, 5]), (3, dead 19 [5, 6]), (4, dead 19 []), (5, dead 19 [5])]
def c62r0 : List Seg := [
  .one ⟨some 9, .load1 (.t 7), none⟩,
  .one ⟨some 10, .loadN 2 (.t 4), none⟩,
  .one ⟨some 11, .call (.t 9) [(.t 10)], none⟩,
  .one ⟨some 12, .mv (.t 11), none⟩,
  .one ⟨some 13, .load1 (.t 3), some (12, true)⟩,
  .one ⟨some 14, .len 0 (.t 13), some (12, true)⟩,
  .one ⟨some 15, .bin .eql (.t 14) (.c (.int .i64 0)), some (12, true)⟩,
  .one ⟨some 16, .pick (.t 12) (.t 15) (.c (.bool false)), none⟩,
  .one ⟨some 6, .mv (.t 16), none⟩]
def c62k0 : ICode := .kill (dead 17 [3, 4, 7]) (.ops c62r0)
def c62s1 : ICode := (.seq c62k0 .ret)
def c62r2 : List Seg := [
  .one ⟨some 8, .mkfn 89 [(.t 3), (.t 5), (.t 7)], none⟩,
  .one ⟨none, .store1 (.t 7) (.t 8), none⟩]
def c62k2 : ICode := .kill (dead 17 [3, 4, 5, 7]) (.ops c62r2)
def c62s3 : ICode := (.seq c62k2 c62s1)
def c62r4 : List Seg := [
  .one ⟨some 7, .box (.c .nilfunc), none⟩]
def c62k4 : ICode := .kill (dead 17 [3, 4, 5]) (.ops c62r4)
def c62s5 : ICode := (.seq c62k4 c62s3)
def c62r6 : List Seg := [
  .one ⟨some 3, .box (.t 0), none⟩,
  .one ⟨some 4, .box (.t 1), none⟩,
  .one ⟨some 5, .box (.t 2), none⟩,
  .one ⟨some 6, .mv (.c (.bool false)), none⟩]
def c62k6 : ICode := .kill (dead 17 [0, 1, 2]) (.ops c62r6)
def c62b : ICode := (.seq c62k6 c62s5)
def c62 : IFn := ⟨17, [.t 6], c62b⟩
def h62 : List (Nat × List Nat) := [(0, dead 17 [0, 1, 2]), (1, dead 17 [3, 4, 5]), (2, dead 17 [3, 4, 5, 7]), (3, dead 17 [3, 4, 7])]
def c63r0 : List Seg := [
  .one ⟨some 16, .load1 (.t 3), none⟩,
  .one ⟨some 17, .mv (.t 0), none⟩,
  .one ⟨some 18, .mkslice 1 [.int .i64 0] [(0, 1, (.t 17))], none⟩,
  .one ⟨some 19, .app 1 8 (.t 16) (.t 18), none⟩,
  .one ⟨none, .store1 (.t 3) (.t 19), none⟩]
def c63k0 : ICode := .kill (dead 20 [0, 3]) (.ops c63r0)
def c63s1 : ICode := (.cond (.t 15) c63k0 .skip)
def c63r2 : List Seg := [
  .one ⟨some 6, .fieldA 0 (.t 5), none⟩,
  .one ⟨some 7, .load1 (.t 6), none⟩,
  .one ⟨some 8, .load1 (.t 2), none⟩,
  .one ⟨some 9, .bin .leq (.t 7) (.t 8), none⟩,
  .one ⟨some 10, .mv (.t 9), none⟩,
  .one ⟨some 11, .load1 (.t 2), some (10, true)⟩,
  .one ⟨some 12, .fieldA 1 (.t 5), some (10, true)⟩,
  .one ⟨some 13, .load1 (.t 12), some (10, true)⟩,
  .one ⟨some 14, .bin .leq (.t 11) (.t 13), some (10, true)⟩,
  .one ⟨some 15, .pick (.t 10) (.t 14) (.c (.bool false)), none⟩]
def c63k2 : ICode := .kill (dead 20 [0, 2, 3, 5]) (.ops c63r2)
def c63s3 : ICode := (.seq c63k2 c63s1)
def c63r4 : List Seg := [
  .one ⟨some 5, .box (.t 1), none⟩]
def c63k4 : ICode := .kill (dead 20 [0, 1, 2, 3]) (.ops c63r4)
def c63b : ICode := (.seq c63k4 c63s3)
def c63 : IFn := ⟨20, [], c63b⟩
def h63 : List (Nat × List Nat) := [(0, dead 20 [0, 1, 2, 3]), (1, dead 20 [0, 2, 3, 5]), (2, dead 20 [0, 3])]
def c64r0 : List Seg := [
  .one ⟨some 111, .mv (.t 18), none⟩,
  .one ⟨some 112, .mv (.t 16), none⟩,
  .one ⟨some 8, .mv (.t 111), none⟩,
  .one ⟨some 9, .mv (.t 112), none⟩,
  .one ⟨some 10, .mv (.c (.bool true)), none⟩]
def c64k0 : ICode := .kill (dead 113 [16, 18]) (.ops c64r0)
def c64s1 : ICode := (.seq c64k0 .ret)
def c64r3 : List Seg := [
  .one ⟨some 84, .mv (.t 19), none⟩,
  .one ⟨some 85, .bin .add (.t 84) (.c (.int .i64 1)), none⟩,
  .one ⟨some 19, .mv (.t 85), none⟩]
def c64k3 : ICode := .kill (dead 113 [11, 12, 15, 16, 18, 19]) (.ops c64r3)
def c64r4 : List Seg := [
  .one ⟨some 107, .mv (.t 18), none⟩,
  .one ⟨some 108, .mv (.t 20), none⟩,
  .one ⟨some 109, .mkslice 1 [.nilslice] [(0, 1, (.t 108))], none⟩,
  .one ⟨some 110, .app 1 24 (.t 107) (.t 109), none⟩,
  .one ⟨some 18, .mv (.t 110), none⟩]
def c64k4 : ICode := .kill (dead 113 [11, 12, 15, 16, 18, 19, 20]) (.ops c64r4)
def c64r5 : List Seg := [
  .one ⟨some 92, .mv (.t 20), none⟩,
  .one ⟨some 93, .mv (.t 12), none⟩,
  .one ⟨some 94, .mv (.t 19), none⟩,
  .one ⟨some 95, .idxS 1 (.t 93) (.t 94), none⟩,
  .one ⟨some 96, .load1 (.t 95), none⟩,
  .one ⟨some 97, .app 1 8 (.t 92) (.t 96), none⟩,
  .one ⟨some 20, .mv (.t 97), none⟩]
def c64k5 : ICode := .kill (dead 113 [11, 12, 15, 16, 18, 19, 20]) (.ops c64r5)
def c64r6 : List Seg := [
  .one ⟨some 98, .mv (.t 20), none⟩,
  .one ⟨some 99, .mv (.t 15), none⟩,
  .one ⟨some 100, .mv (.t 19), none⟩,
  .one ⟨some 101, .mv (.t 12), none⟩,
  .one ⟨some 102, .len 0 (.t 101), none⟩,
  .one ⟨some 103, .bin .sub (.t 100) (.t 102), none⟩,
  .one ⟨some 104, .idxS 1 (.t 99) (.t 103), none⟩,
  .one ⟨some 105, .load1 (.t 104), none⟩,
  .one ⟨some 106, .app 1 8 (.t 98) (.t 105), none⟩,
  .one ⟨some 20, .mv (.t 106), none⟩]
def c64k6 : ICode := .kill (dead 113 [11, 12, 15, 16, 18, 19, 20]) (.ops c64r6)
def c64s7 : ICode := (.cond (.t 91) c64k5 c64k6)
def c64r8 : List Seg := [
  .one ⟨some 88, .mv (.t 19), none⟩,
  .one ⟨some 89, .mv (.t 12), none⟩,
  .one ⟨some 90, .len 0 (.t 89), none⟩,
  .one ⟨some 91, .bin .lss (.t 88) (.t 90), none⟩]
def c64k8 : ICode := .kill (dead 113 [11, 12, 15, 16, 18, 19, 20]) (.ops c64r8)
def c64s9 : ICode := (.seq (.seq c64k8 c64s7) c64k4)
def c64r10 : List Seg := [
  .one ⟨some 86, .mv (.t 11), none⟩,
  .one ⟨some 87, .mkslice 1 [.int .i64 0] [(0, 1, (.t 86))], none⟩,
  .one ⟨some 20, .mv (.t 87), none⟩]
def c64k10 : ICode := .kill (dead 113 [11, 12, 15, 16, 18, 19]) (.ops c64r10)
def c64s11 : ICode := (.seq (.block 1 (.seq c64k10 c64s9)) c64k3)
def c64s12 : ICode := (.cond (.t 83) .skip (.exit 0))
def c64r13 : List Seg := [
  .one ⟨some 77, .mv (.t 19), none⟩,
  .one ⟨some 78, .mv (.t 12), none⟩,
  .one ⟨some 79, .len 0 (.t 78), none⟩,
  .one ⟨some 80, .mv (.t 15), none⟩,
  .one ⟨some 81, .len 0 (.t 80), none⟩,
  .one ⟨some 82, .bin .add (.t 79) (.t 81), none⟩,
  .one ⟨some 83, .bin .lss (.t 77) (.t 82), none⟩]
def c64k13 : ICode := .kill (dead 113 [11, 12, 15, 16, 18, 19]) (.ops c64r13)
def c64l2 : ICode := (.seq (.seq c64k13 c64s12) c64s11)
def c64s14 : ICode := (.block 0 (.loop c64l2))
def c64r15 : List Seg := [
  .one ⟨some 19, .mv (.c (.int .i64 0)), none⟩]
def c64k15 : ICode := .kill (dead 113 [11, 12, 15, 16, 18]) (.ops c64r15)
def c64s16 : ICode := (.seq (.seq c64k15 c64s14) c64s1)
def c64r17 : List Seg := [
  .one ⟨some 18, .mv (.c .nilslice), none⟩]
def c64k17 : ICode := .kill (dead 113 [11, 12, 15, 16]) (.ops c64r17)
def c64s18 : ICode := (.seq c64k17 c64s16)
def c64r19 : List Seg := [
  .one ⟨some 76, .mv (.t 1), none⟩,
  .one ⟨some 8, .mv (.c .nilslice), none⟩,
  .one ⟨some 9, .mv (.t 76), none⟩,
  .one ⟨some 10, .mv (.c (.bool false)), none⟩]
def c64k19 : ICode := .kill (dead 113 [1]) (.ops c64r19)
def c64s20 : ICode := (.cond (.t 75) (.seq c64k19 .ret) .skip)
def c64r21 : List Seg := [
  .one ⟨some 74, .mv (.t 17), none⟩,
  .one ⟨some 75, .un .not (.t 74), none⟩]
def c64k21 : ICode := .kill (dead 113 [1, 11, 12, 15, 16, 17]) (.ops c64r21)
def c64s22 : ICode := (.seq (.seq c64k21 c64s20) c64s18)
def c64r23 : List Seg := [
  .one ⟨some 65, .mv (.t 0), none⟩,
  .one ⟨some 66, .mv (.t 13), none⟩,
  .one ⟨some 67, .mv (.t 11), none⟩,
  .one ⟨some 68, .bin .add (.t 67) (.c (.int .i64 1)), none⟩,
  .one ⟨some 69, .mv (.t 3), none⟩,
  .one ⟨some 70, .call (.c (.func 64 [])) [(.t 65), (.t 66), (.t 68), (.t 69)], none⟩,
  .one ⟨some 64, .mv (.t 70), none⟩,
  .one ⟨some 71, .ext (.t 64) 0, none⟩,
  .one ⟨some 72, .ext (.t 64) 1, none⟩,
  .one ⟨some 73, .ext (.t 64) 2, none⟩,
  .one ⟨some 15, .mv (.t 71), none⟩,
  .one ⟨some 16, .mv (.t 72), none⟩,
  .one ⟨some 17, .mv (.t 73), none⟩]
def c64k23 : ICode := .kill (dead 113 [0, 1, 3, 11, 12, 13]) (.ops c64r23)
def c64s24 : ICode := (.seq c64k23 c64s22)
def c64r25 : List Seg := [
  .one ⟨some 63, .mv (.t 1), none⟩,
  .one ⟨some 8, .mv (.c .nilslice), none⟩,
  .one ⟨some 9, .mv (.t 63), none⟩,
  .one ⟨some 10, .mv (.c (.bool false)), none⟩]
def c64k25 : ICode := .kill (dead 113 [1]) (.ops c64r25)
def c64s26 : ICode := (.cond (.t 62) (.seq c64k25 .ret) .skip)
def c64r27 : List Seg := [
  .one ⟨some 61, .mv (.t 14), none⟩,
  .one ⟨some 62, .un .not (.t 61), none⟩]
def c64k27 : ICode := .kill (dead 113 [0, 1, 3, 11, 12, 13, 14]) (.ops c64r27)
def c64s28 : ICode := (.seq (.seq c64k27 c64s26) c64s24)
def c64r29 : List Seg := [
  .one ⟨some 52, .mv (.t 0), none⟩,
  .one ⟨some 53, .mv (.t 1), none⟩,
  .one ⟨some 54, .bin .add (.t 53) (.c (.int .i64 1)), none⟩,
  .one ⟨some 55, .mv (.t 2), none⟩,
  .one ⟨some 56, .mv (.t 11), none⟩,
  .one ⟨some 57, .call (.c (.func 64 [])) [(.t 52), (.t 54), (.t 55), (.t 56)], none⟩,
  .one ⟨some 51, .mv (.t 57), none⟩,
  .one ⟨some 58, .ext (.t 51) 0, none⟩,
  .one ⟨some 59, .ext (.t 51) 1, none⟩,
  .one ⟨some 60, .ext (.t 51) 2, none⟩,
  .one ⟨some 12, .mv (.t 58), none⟩,
  .one ⟨some 13, .mv (.t 59), none⟩,
  .one ⟨some 14, .mv (.t 60), none⟩]
def c64k29 : ICode := .kill (dead 113 [0, 1, 2, 3, 11]) (.ops c64r29)
def c64s30 : ICode := (.seq c64k29 c64s28)
def c64r31 : List Seg := [
  .one ⟨some 47, .mv (.t 0), none⟩,
  .one ⟨some 48, .mv (.t 1), none⟩,
  .one ⟨some 49, .idxS 1 (.t 47) (.t 48), none⟩,
  .one ⟨some 50, .load1 (.t 49), none⟩,
  .one ⟨some 11, .mv (.t 50), none⟩]
def c64k31 : ICode := .kill (dead 113 [0, 1, 2, 3]) (.ops c64r31)
def c64s32 : ICode := (.seq c64k31 c64s30)
def c64r33 : List Seg := [
  .one ⟨some 46, .mv (.t 1), none⟩,
  .one ⟨some 8, .mv (.c .nilslice), none⟩,
  .one ⟨some 9, .mv (.t 46), none⟩,
  .one ⟨some 10, .mv (.c (.bool false)), none⟩]
def c64k33 : ICode := .kill (dead 113 [1]) (.ops c64r33)
def c64s34 : ICode := (.cond (.t 45) (.seq c64k33 .ret) .skip)
def c64r35 : List Seg := [
  .one ⟨some 26, .mv (.t 1), none⟩,
  .one ⟨some 27, .mv (.t 0), none⟩,
  .one ⟨some 28, .len 0 (.t 27), none⟩,
  .one ⟨some 29, .bin .geq (.t 26) (.t 28), none⟩,
  .one ⟨some 30, .mv (.t 29), none⟩,
  .one ⟨some 31, .mv (.t 0), some (30, false)⟩,
  .one ⟨some 32, .mv (.t 1), some (30, false)⟩,
  .one ⟨some 33, .idxS 1 (.t 31) (.t 32), some (30, false)⟩,
  .one ⟨some 34, .load1 (.t 33), some (30, false)⟩,
  .one ⟨some 35, .mv (.t 2), some (30, false)⟩,
  .one ⟨some 36, .bin .lss (.t 34) (.t 35), some (30, false)⟩,
  .one ⟨some 37, .pick (.t 30) (.c (.bool true)) (.t 36), none⟩,
  .one ⟨some 38, .mv (.t 37), none⟩,
  .one ⟨some 39, .mv (.t 0), some (38, false)⟩,
  .one ⟨some 40, .mv (.t 1), some (38, false)⟩,
  .one ⟨some 41, .idxS 1 (.t 39) (.t 40), some (38, false)⟩,
  .one ⟨some 42, .load1 (.t 41), some (38, false)⟩,
  .one ⟨some 43, .mv (.t 3), some (38, false)⟩,
  .one ⟨some 44, .bin .geq (.t 42) (.t 43), some (38, false)⟩,
  .one ⟨some 45, .pick (.t 38) (.c (.bool true)) (.t 44), none⟩]
def c64k35 : ICode := .kill (dead 113 [0, 1, 2, 3]) (.ops c64r35)
def c64s36 : ICode := (.seq (.seq c64k35 c64s34) c64s32)
def c64r37 : List Seg := [
  .one ⟨some 24, .mkslice 1 [.nilslice] [(0, 1, (.c .nilslice))], none⟩,
  .one ⟨some 25, .mv (.t 1), none⟩,
  .one ⟨some 8, .mv (.t 24), none⟩,
  .one ⟨some 9, .mv (.t 25), none⟩,
  .one ⟨some 10, .mv (.c (.bool true)), none⟩]
def c64k37 : ICode := .kill (dead 113 [1]) (.ops c64r37)
def c64s38 : ICode := (.cond (.t 23) (.seq c64k37 .ret) .skip)
def c64r39 : List Seg := [
  .one ⟨some 21, .mv (.t 2), none⟩,
  .one ⟨some 22, .mv (.t 3), none⟩,
  .one ⟨some 23, .bin .eql (.t 21) (.t 22), none⟩]
def c64k39 : ICode := .kill (dead 113 [0, 1, 2, 3]) (.ops c64r39)
def c64s40 : ICode := (.seq (.seq c64k39 c64s38) c64s36)
def c64r41 : List Seg := [
  .one ⟨some 8, .mv (.c .nilslice), none⟩,
  .one ⟨some 9, .mv (.c (.int .i64 0)), none⟩,
  .one ⟨some 10, .mv (.c (.bool false)), none⟩]
def c64k41 : ICode := .kill (dead 113 [0, 1, 2, 3]) (.ops c64r41)
def c64b : ICode := (.seq c64k41 c64s40)
def c64 : IFn := ⟨113, [.t 8, .t 9, .t 10], c64b⟩
def h64 : List (Nat × List Nat) := [(0, dead 113 [0, 1, 2, 3]), (1, dead 113 [0, 1, 2, 3]), (2, dead 113 [1]), (3, dead 113 [0, 1, 2, 3]), (4, dead 113 [1]), (5, dead 113 [0, 1, 2, 3]), (6, dead 113 [0, 1, 2, 3, 11]), (7, dead 113 [0, 1, 3, 11, 12, 13, 14]), (8, dead 113 [1]), (9, dead 113 [0, 1, 3, 11, 12, 13]), (10, dead 113 [1, 11, 12, 15, 16, 17]), (11, dead 113 [1]), (12, dead 113 [11, 12, 15, 16]), (13, dead 113 [11, 12, 15, 16, 18]), (14, dead 113 [11, 12, 15, 16, 18, 19]), (16, dead 113 [11, 12, 15, 16, 18, 19]), (17, dead 113 [11, 12, 15, 16, 18, 19, 20]), (18, dead 113 [11, 12, 15, 16, 18, 19, 20]), (19, dead 113 [11, 12, 15, 16, 18, 19, 20]), (20, dead 113 [11, 12, 15, 16, 18, 19, 20]), (15, dead 113 [11, 12, 15, 16, 18, 19]), (21, dead 113 [16, 18])]
def c65r0 : List Seg := [
  .one ⟨some 4, .mv (.c (.int .i64 0)), none⟩]
def c65k0 : ICode := .kill (dead 27 []) (.ops c65r0)
def c65s1 : ICode := (.seq c65k0 .ret)
def c65r2 : List Seg := [
  .one ⟨some 4, .mv (.c (.int .i64 1)), none⟩]
def c65k2 : ICode := .kill (dead 27 []) (.ops c65r2)
def c65s3 : ICode := (.cond (.t 26) (.seq c65k2 .ret) .skip)
def c65r4 : List Seg := [
  .one ⟨some 11, .mv (.t 1), none⟩,
  .one ⟨some 12, .len 0 (.t 11), none⟩,
  .one ⟨some 13, .mv (.t 0), none⟩,
  .one ⟨some 14, .len 0 (.t 13), none⟩,
  .one ⟨some 15, .bin .add (.t 14) (.c (.int .i64 1)), none⟩,
  .one ⟨some 16, .bin .neq (.t 12) (.t 15), none⟩,
  .one ⟨some 17, .mv (.t 16), none⟩,
  .one ⟨some 18, .mv (.t 1), some (17, false)⟩,
  .one ⟨some 19, .call (.c (.func 55 [])) [(.c (.int .i64 0)), (.c (.int .i64 1000)), (.t 18)], some (17, false)⟩,
  .one ⟨some 20, .un .not (.t 19), some (17, false)⟩,
  .one ⟨some 21, .pick (.t 17) (.c (.bool true)) (.t 20), none⟩,
  .one ⟨some 22, .mv (.t 21), none⟩,
  .one ⟨some 23, .mv (.t 1), some (22, false)⟩,
  .one ⟨some 24, .call (.c (.func 90 [])) [(.t 23)], some (22, false)⟩,
  .one ⟨some 25, .bin .eql (.t 24) (.c (.int .i64 0)), some (22, false)⟩,
  .one ⟨some 26, .pick (.t 22) (.c (.bool true)) (.t 25), none⟩]
def c65k4 : ICode := .kill (dead 27 [0, 1]) (.ops c65r4)
def c65s5 : ICode := (.seq (.seq c65k4 c65s3) c65s1)
def c65r6 : List Seg := [
  .one ⟨some 10, .mv (.t 5), none⟩,
  .one ⟨some 4, .mv (.t 10), none⟩]
def c65k6 : ICode := .kill (dead 27 [5]) (.ops c65r6)
def c65s7 : ICode := (.cond (.t 9) (.seq c65k6 .ret) .skip)
def c65r8 : List Seg := [
  .one ⟨some 8, .mv (.t 5), none⟩,
  .one ⟨some 9, .bin .neq (.t 8) (.c (.int .i64 0)), none⟩]
def c65k8 : ICode := .kill (dead 27 [0, 1, 5]) (.ops c65r8)
def c65s9 : ICode := (.seq c65k8 c65s7)
def c65r10 : List Seg := [
  .one ⟨some 6, .mv (.t 0), none⟩,
  .one ⟨some 7, .call (.c (.func 46 [])) [(.t 6)], none⟩,
  .one ⟨some 5, .mv (.t 7), none⟩]
def c65k10 : ICode := .kill (dead 27 [0, 1]) (.ops c65r10)
def c65s11 : ICode := (.seq (.seq c65k10 c65s9) c65s5)
def c65r12 : List Seg := [
  .one ⟨some 4, .mv (.c (.int .i64 0)), none⟩]
def c65k12 : ICode := .kill (dead 27 [0, 1]) (.ops c65r12)
def c65b : ICode := (.seq c65k12 c65s11)
def c65 : IFn := ⟨27, [.t 4], c65b⟩
def h65 : List (Nat × List Nat) := [(0, dead 27 [0, 1]), (1, dead 27 [0, 1]), (2, dead 27 [0, 1, 5]), (3, dead 27 [5]), (4, dead 27 [0, 1]), (5, dead 27 []), (6, dead 27 [])]
def c66r0 : List Seg := [
  .grp [(⟨some 11, .load1 (.t 4), none⟩, 0), (⟨some 12, .mv (.t 1), none⟩, 0), (⟨some 13, .idxS 1 (.t 11) (.t 12), none⟩, 3), (⟨some 14, .load1 (.t 13), none⟩, 7), (⟨some 15, .load1 (.t 5), none⟩, 0), (⟨some 16, .fieldA 0 (.t 6), none⟩, 0), (⟨some 17, .load1 (.t 16), none⟩, 32), (⟨some 18, .fieldA 1 (.t 6), none⟩, 0), (⟨some 19, .load1 (.t 18), none⟩, 128), (⟨some 20, .bin .add (.t 19) (.c (.int .i64 1)), none⟩, 384), (⟨some 21, .sliceS 1 (.t 15) (some (.t 17)) (some (.t 20)) none, none⟩, 1008), (⟨some 22, .call (.c (.func 67 [])) [(.t 21)], none⟩, 2032), (⟨some 23, .bin .mul (.t 14) (.t 22), none⟩, 4095), (⟨some 24, .mv (.t 2), none⟩, 0), (⟨some 25, .bin .add (.t 23) (.t 24), none⟩, 16383), (⟨some 26, .mv (.t 3), none⟩, 0)],
  .one ⟨some 27, .bin .add (.t 25) (.t 26), none⟩,
  .one ⟨some 10, .mv (.t 27), none⟩]
def c66k0 : ICode := .kill (dead 28 [1, 2, 3, 4, 5, 6]) (.ops c66r0)
def c66s1 : ICode := (.seq c66k0 .ret)
def c66r2 : List Seg := [
  .one ⟨some 6, .box (.t 0), none⟩,
  .one ⟨some 10, .mv (.c (.int .i64 0)), none⟩]
def c66k2 : ICode := .kill (dead 28 [0, 1, 2, 3, 4, 5]) (.ops c66r2)
def c66b : ICode := (.seq c66k2 c66s1)
def c66 : IFn := ⟨28, [.t 10], c66b⟩
def h66 : List (Nat × List Nat) := [(0, dead 28 [0, 1, 2, 3, 4, 5]), (1, dead 28 [1, 2, 3, 4, 5, 6])]
def c67r0 : List Seg := [
  .one ⟨some 16, .mv (.t 3), none⟩,
  .one ⟨some 2, .mv (.t 16), none⟩]
def c67k0 : ICode := .kill (dead 17 [3]) (.ops c67r0)
def c67s1 : ICode := (.seq c67k0 .ret)
def c67r3 : List Seg := [
  .one ⟨some 15, .bin .add (.t 8) (.c (.int .i64 1)), none⟩,
  .one ⟨some 8, .mv (.t 15), none⟩]
def c67k3 : ICode := .kill (dead 17 [3, 6, 7, 8]) (.ops c67r3)
def c67r4 : List Seg := [
  .one ⟨some 12, .mv (.t 3), none⟩,
  .one ⟨some 13, .mv (.t 5), none⟩,
  .one ⟨some 14, .bin .add (.t 12) (.t 13), none⟩,
  .one ⟨some 3, .mv (.t 14), none⟩]
def c67k4 : ICode := .kill (dead 17 [3, 5, 6, 7, 8]) (.ops c67r4)
def c67r5 : List Seg := [
  .one ⟨some 10, .idxS 1 (.t 6) (.t 8), none⟩,
  .one ⟨some 11, .load1 (.t 10), none⟩,
  .one ⟨some 5, .mv (.t 11), none⟩]
def c67k5 : ICode := .kill (dead 17 [3, 6, 7, 8]) (.ops c67r5)
def c67s6 : ICode := (.seq (.block 1 (.seq c67k5 c67k4)) c67k3)
def c67s7 : ICode := (.seq (.cond (.t 9) .skip (.exit 0)) c67s6)
def c67r8 : List Seg := [
  .one ⟨some 9, .bin .lss (.t 8) (.t 7), none⟩]
def c67k8 : ICode := .kill (dead 17 [3, 6, 7, 8]) (.ops c67r8)
def c67l2 : ICode := (.seq c67k8 c67s7)
def c67s9 : ICode := (.block 0 (.loop c67l2))
def c67r10 : List Seg := [
  .one ⟨some 6, .mv (.t 0), none⟩,
  .one ⟨some 7, .len 0 (.t 6), none⟩,
  .one ⟨some 8, .mv (.c (.int .i64 0)), none⟩]
def c67k10 : ICode := .kill (dead 17 [0, 3]) (.ops c67r10)
def c67s11 : ICode := (.seq (.seq c67k10 c67s9) c67s1)
def c67r12 : List Seg := [
  .one ⟨some 3, .mv (.c (.int .i64 0)), none⟩]
def c67k12 : ICode := .kill (dead 17 [0]) (.ops c67r12)
def c67s13 : ICode := (.seq c67k12 c67s11)
def c67r14 : List Seg := [
  .one ⟨some 2, .mv (.c (.int .i64 0)), none⟩]
def c67k14 : ICode := .kill (dead 17 [0]) (.ops c67r14)
def c67b : ICode := (.seq c67k14 c67s13)
def c67 : IFn := ⟨17, [.t 2], c67b⟩
def h67 : List (Nat × List Nat) := [(0, dead 17 [0]), (1, dead 17 [0]), (2, dead 17 [0, 3]), (3, dead 17 [3, 6, 7, 8]), (4, dead 17 [3, 6, 7, 8]), (5, dead 17 [3, 5, 6, 7, 8]), (6, dead 17 [3, 6, 7, 8]), (7, dead 17 [3])]
def c68r0 : List Seg := [
  .one ⟨some 96, .mv (.t 6), none⟩,
  .one ⟨some 4, .mv (.t 96), none⟩,
  .one ⟨some 5, .mv (.c (.int .i64 0)), none⟩]
def c68k0 : ICode := .kill (dead 97 [6]) (.ops c68r0)
def c68s1 : ICode := (.seq c68k0 .ret)
def c68r2 : List Seg := [
  .one ⟨some 4, .mv (.c .nilptr), none⟩,
  .one ⟨some 5, .mv (.c (.int .i64 81)), none⟩]
def c68k2 : ICode := .kill (dead 97 []) (.ops c68r2)
def c68s3 : ICode := (.cond (.t 95) (.seq c68k2 .ret) .skip)
def c68r4 : List Seg := [
  .one ⟨some 89, .mv (.t 6), none⟩,
  .one ⟨some 90, .mv (.t 6), none⟩,
  .one ⟨some 91, .call (.c (.func 78 [])) [(.t 90)], none⟩,
  .one ⟨some 92, .call (.c (.func 70 [])) [(.t 89), (.c (.int .i64 0)), (.t 91)], none⟩,
  .one ⟨some 93, .mv (.t 6), none⟩,
  .one ⟨some 94, .call (.c (.func 78 [])) [(.t 93)], none⟩,
  .one ⟨some 95, .bin .neq (.t 92) (.t 94), none⟩]
def c68k4 : ICode := .kill (dead 97 [6]) (.ops c68r4)
def c68s5 : ICode := (.seq (.seq c68k4 c68s3) c68s1)
def c68r7 : List Seg := [
  .one ⟨some 88, .bin .add (.t 23) (.c (.int .i64 1)), none⟩,
  .one ⟨some 23, .mv (.t 88), none⟩]
def c68k7 : ICode := .kill (dead 97 [0, 1, 6, 21, 22, 23]) (.ops c68r7)
def c68r8 : List Seg := [
  .grp [(⟨some 73, .mv (.t 6), none⟩, 0), (⟨some 74, .idxA 2 1 (.t 8) (.c (.int .i64 1)), none⟩, 0), (⟨some 75, .load1 (.t 74), none⟩, 2), (⟨some 76, .nilck (.t 73), none⟩, 1), (⟨some 77, .fieldA 1 (.t 76), none⟩, 9), (⟨some 78, .idxA 10 1 (.t 77) (.t 75), none⟩, 31), (⟨some 79, .load1 (.t 78), none⟩, 63), (⟨some 80, .idxA 2 1 (.t 8) (.c (.int .i64 0)), none⟩, 0), (⟨some 81, .load1 (.t 80), none⟩, 128), (⟨some 82, .conv .u64 (.t 81), none⟩, 384), (⟨some 83, .bin .shl (.c (.int .i64 1)) (.t 82), none⟩, 896), (⟨some 84, .bin .or (.t 79) (.t 83), none⟩, 2047), (⟨some 85, .nilck (.t 73), none⟩, 1), (⟨some 86, .fieldA 1 (.t 85), none⟩, 4097)],
  .one ⟨some 87, .idxA 10 1 (.t 86) (.t 75), none⟩,
  .one ⟨none, .store1 (.t 87) (.t 84), none⟩]
def c68k8 : ICode := .kill (dead 97 [0, 1, 6, 8, 21, 22, 23]) (.ops c68r8)
def c68r9 : List Seg := [
  .grp [(⟨some 58, .mv (.t 6), none⟩, 0), (⟨some 59, .idxA 2 1 (.t 8) (.c (.int .i64 0)), none⟩, 0), (⟨some 60, .load1 (.t 59), none⟩, 2), (⟨some 61, .nilck (.t 58), none⟩, 1), (⟨some 62, .fieldA 1 (.t 61), none⟩, 9), (⟨some 63, .idxA 10 1 (.t 62) (.t 60), none⟩, 31), (⟨some 64, .load1 (.t 63), none⟩, 63), (⟨some 65, .idxA 2 1 (.t 8) (.c (.int .i64 1)), none⟩, 0), (⟨some 66, .load1 (.t 65), none⟩, 128), (⟨some 67, .conv .u64 (.t 66), none⟩, 384), (⟨some 68, .bin .shl (.c (.int .i64 1)) (.t 67), none⟩, 896), (⟨some 69, .bin .or (.t 64) (.t 68), none⟩, 2047), (⟨some 70, .nilck (.t 58), none⟩, 1), (⟨some 71, .fieldA 1 (.t 70), none⟩, 4097)],
  .one ⟨some 72, .idxA 10 1 (.t 71) (.t 60), none⟩,
  .one ⟨none, .store1 (.t 72) (.t 69), none⟩]
def c68k9 : ICode := .kill (dead 97 [0, 1, 6, 8, 21, 22, 23]) (.ops c68r9)
def c68s10 : ICode := (.seq c68k9 c68k8)
def c68r11 : List Seg := [
  .one ⟨some 4, .mv (.c .nilptr), none⟩,
  .one ⟨some 5, .mv (.c (.int .i64 81)), none⟩]
def c68k11 : ICode := .kill (dead 97 []) (.ops c68r11)
def c68s12 : ICode := (.cond (.t 57) (.seq c68k11 .ret) .skip)
def c68r13 : List Seg := [
  .one ⟨some 28, .idxA 2 1 (.t 8) (.c (.int .i64 0)), none⟩,
  .one ⟨some 29, .load1 (.t 28), none⟩,
  .one ⟨some 30, .bin .lss (.t 29) (.c (.int .i64 0)), none⟩,
  .one ⟨some 31, .mv (.t 30), none⟩,
  .grp [(⟨some 32, .idxA 2 1 (.t 8) (.c (.int .i64 0)), some (31, false)⟩, 0), (⟨some 33, .load1 (.t 32), some (31, false)⟩, 1), (⟨some 34, .idxA 2 1 (.t 8) (.c (.int .i64 1)), some (31, false)⟩, 0), (⟨some 35, .load1 (.t 34), some (31, false)⟩, 4)],
  .one ⟨some 36, .bin .geq (.t 33) (.t 35), some (31, false)⟩,
  .one ⟨some 37, .pick (.t 31) (.c (.bool true)) (.t 36), none⟩,
  .one ⟨some 38, .mv (.t 37), none⟩,
  .grp [(⟨some 39, .idxA 2 1 (.t 8) (.c (.int .i64 1)), some (38, false)⟩, 0), (⟨some 40, .load1 (.t 39), some (38, false)⟩, 1), (⟨some 41, .mv (.t 0), some (38, false)⟩, 0)],
  .one ⟨some 42, .bin .geq (.t 40) (.t 41), some (38, false)⟩,
  .one ⟨some 43, .pick (.t 38) (.c (.bool true)) (.t 42), none⟩,
  .one ⟨some 44, .mv (.t 43), none⟩,
  .one ⟨some 45, .mv (.t 7), some (44, false)⟩,
  .one ⟨some 46, .bin .gtr (.t 45) (.c (.int .i64 0)), some (44, false)⟩,
  .one ⟨some 47, .mv (.t 46), some (44, false)⟩,
  .grp [(⟨some 48, .mv (.t 1), some (47, true)⟩, 0), (⟨some 49, .mv (.t 7), some (47, true)⟩, 0), (⟨some 50, .bin .sub (.t 49) (.c (.int .i64 1)), some (47, true)⟩, 2), (⟨some 51, .idxS 2 (.t 48) (.t 50), some (47, true)⟩, 7), (⟨some 52, .sliceA 2 1 (.t 51) none none none, some (47, true)⟩, 15), (⟨some 53, .sliceA 2 1 (.t 8) none none none, some (47, true)⟩, 0)],
  .one ⟨some 54, .call (.c (.func 91 [])) [(.t 52), (.t 53)], some (47, true)⟩,
  .one ⟨some 55, .bin .geq (.t 54) (.c (.int .i64 0)), some (47, true)⟩,
  .one ⟨some 56, .pick (.t 47) (.t 55) (.c (.bool false)), some (44, false)⟩,
  .one ⟨some 57, .pick (.t 44) (.c (.bool true)) (.t 56), none⟩]
def c68k13 : ICode := .kill (dead 97 [0, 1, 6, 7, 8, 21, 22, 23]) (.ops c68r13)
def c68s14 : ICode := (.seq (.seq c68k13 c68s12) c68s10)
def c68r15 : List Seg := [
  .one ⟨some 25, .mv (.t 23), none⟩,
  .one ⟨some 26, .idxS 2 (.t 21) (.t 23), none⟩,
  .one ⟨some 27, .loadN 2 (.t 26), none⟩,
  .one ⟨some 8, .box (.c (.agg [.int .i64 0, .int .i64 0])), none⟩,
  .one ⟨some 7, .mv (.t 25), none⟩,
  .one ⟨none, .storeN 2 (.t 8) (.t 27), none⟩]
def c68k15 : ICode := .kill (dead 97 [0, 1, 6, 21, 22, 23]) (.ops c68r15)
def c68s16 : ICode := (.seq (.block 1 (.seq c68k15 c68s14)) c68k7)
def c68s17 : ICode := (.seq (.cond (.t 24) .skip (.exit 0)) c68s16)
def c68r18 : List Seg := [
  .one ⟨some 24, .bin .lss (.t 23) (.t 22), none⟩]
def c68k18 : ICode := .kill (dead 97 [0, 1, 6, 21, 22, 23]) (.ops c68r18)
def c68l6 : ICode := (.seq c68k18 c68s17)
def c68s19 : ICode := (.block 0 (.loop c68l6))
def c68r20 : List Seg := [
  .one ⟨some 21, .mv (.t 1), none⟩,
  .one ⟨some 22, .len 0 (.t 21), none⟩,
  .one ⟨some 23, .mv (.c (.int .i64 0)), none⟩]
def c68k20 : ICode := .kill (dead 97 [0, 1, 6]) (.ops c68r20)
def c68s21 : ICode := (.seq (.seq c68k20 c68s19) c68s5)
def c68r22 : List Seg := [
  .one ⟨some 4, .mv (.c .nilptr), none⟩,
  .one ⟨some 5, .mv (.c (.int .i64 81)), none⟩]
def c68k22 : ICode := .kill (dead 97 []) (.ops c68r22)
def c68s23 : ICode := (.cond (.t 20) (.seq c68k22 .ret) .skip)
def c68r24 : List Seg := [
  .one ⟨some 16, .mv (.t 1), none⟩,
  .one ⟨some 17, .len 0 (.t 16), none⟩,
  .one ⟨some 18, .mv (.t 0), none⟩,
  .one ⟨some 19, .bin .sub (.t 18) (.c (.int .i64 1)), none⟩,
  .one ⟨some 20, .bin .neq (.t 17) (.t 19), none⟩]
def c68k24 : ICode := .kill (dead 97 [0, 1, 6]) (.ops c68r24)
def c68s25 : ICode := (.seq (.seq c68k24 c68s23) c68s21)
def c68r26 : List Seg := [
  .one ⟨some 13, .mv (.t 0), none⟩,
  .one ⟨some 14, .mkagg (List.replicate 11 (.int .i64 0)) [(0, 1, (.t 13))], none⟩,
  .one ⟨some 15, .box (.t 14), none⟩,
  .one ⟨some 6, .mv (.t 15), none⟩]
def c68k26 : ICode := .kill (dead 97 [0, 1]) (.ops c68r26)
def c68s27 : ICode := (.seq c68k26 c68s25)
def c68r28 : List Seg := [
  .one ⟨some 4, .mv (.c .nilptr), none⟩,
  .one ⟨some 5, .mv (.c (.int .i64 1)), none⟩]
def c68k28 : ICode := .kill (dead 97 []) (.ops c68r28)
def c68s29 : ICode := (.cond (.t 12) (.seq c68k28 .ret) .skip)
def c68r30 : List Seg := [
  .one ⟨some 9, .mv (.t 0), none⟩,
  .one ⟨some 10, .mkslice 1 [.int .i64 0] [(0, 1, (.t 9))], none⟩,
  .one ⟨some 11, .call (.c (.func 55 [])) [(.c (.int .i64 1)), (.c (.int .i64 10)), (.t 10)], none⟩,
  .one ⟨some 12, .un .not (.t 11), none⟩]
def c68k30 : ICode := .kill (dead 97 [0, 1]) (.ops c68r30)
def c68s31 : ICode := (.seq (.seq c68k30 c68s29) c68s27)
def c68r32 : List Seg := [
  .one ⟨some 4, .mv (.c .nilptr), none⟩,
  .one ⟨some 5, .mv (.c (.int .i64 0)), none⟩]
def c68k32 : ICode := .kill (dead 97 [0, 1]) (.ops c68r32)
def c68b : ICode := (.seq c68k32 c68s31)
def c68 : IFn := ⟨97, [.t 4, .t 5], c68b⟩
def h68 : List (Nat × List Nat) := [(0, dead 97 [0, 1]), (1, dead 97 [0, 1]), (2, dead 97 []), (3, dead 97 [0, 1]), (4, dead 97 [0, 1, 6]), (5, dead 97 []), (6, dead 97 [0, 1, 6]), (7, dead 97 [0, 1, 6, 21, 22, 23]), (8, dead 97 [0, 1, 6, 21, 22, 23]), (9, dead 97 [0, 1, 6, 7, 8, 21, 22, 23]), (10, dead 97 []), (11, dead 97 [0, 1, 6, 8, 21, 22, 23]), (12, dead 97 [0, 1, 6, 8, 21, 22, 23]), (13, dead 97 [0, 1, 6, 21, 22, 23]), (14, dead 97 [6]), (15, dead 97 []), (16, dead 97 [6])]
def c69r0 : List Seg := [
  .one ⟨some 18, .mv (.t 3), none⟩,
  .one ⟨some 2, .mv (.t 18), none⟩]
def c69k0 : ICode := .kill (dead 19 [3]) (.ops c69r0)
def c69s1 : ICode := (.seq c69k0 .ret)
def c69r3 : List Seg := [
  .one ⟨some 9, .mv (.t 4), none⟩,
  .one ⟨some 10, .mv (.t 4), none⟩,
  .one ⟨some 11, .bin .sub (.t 10) (.c (.int .u64 1)), none⟩,
  .one ⟨some 12, .bin .and (.t 9) (.t 11), none⟩,
  .one ⟨some 4, .mv (.t 12), none⟩]
def c69k3 : ICode := .kill (dead 19 [3, 4]) (.ops c69r3)
def c69r4 : List Seg := [
  .one ⟨some 13, .mv (.t 3), none⟩,
  .one ⟨some 14, .mv (.t 4), none⟩,
  .one ⟨some 15, .call (.c (.func 92 [])) [(.t 14)], none⟩,
  .one ⟨some 16, .mkslice 1 [.int .i64 0] [(0, 1, (.t 15))], none⟩,
  .one ⟨some 17, .app 1 8 (.t 13) (.t 16), none⟩,
  .one ⟨some 3, .mv (.t 17), none⟩]
def c69k4 : ICode := .kill (dead 19 [3, 4]) (.ops c69r4)
def c69s5 : ICode := (.seq (.block 1 c69k4) c69k3)
def c69s6 : ICode := (.cond (.t 8) .skip (.exit 0))
def c69r7 : List Seg := [
  .one ⟨some 7, .mv (.t 4), none⟩,
  .one ⟨some 8, .bin .neq (.t 7) (.c (.int .u64 0)), none⟩]
def c69k7 : ICode := .kill (dead 19 [3, 4]) (.ops c69r7)
def c69l2 : ICode := (.seq (.seq c69k7 c69s6) c69s5)
def c69s8 : ICode := (.block 0 (.loop c69l2))
def c69r9 : List Seg := [
  .one ⟨some 5, .mv (.t 0), none⟩,
  .one ⟨some 6, .conv .u64 (.t 5), none⟩,
  .one ⟨some 4, .mv (.t 6), none⟩]
def c69k9 : ICode := .kill (dead 19 [0, 3]) (.ops c69r9)
def c69s10 : ICode := (.seq (.seq c69k9 c69s8) c69s1)
def c69r11 : List Seg := [
  .one ⟨some 3, .mv (.c .nilslice), none⟩]
def c69k11 : ICode := .kill (dead 19 [0]) (.ops c69r11)
def c69s12 : ICode := (.seq c69k11 c69s10)
def c69r13 : List Seg := [
  .one ⟨some 2, .mv (.c .nilslice), none⟩]
def c69k13 : ICode := .kill (dead 19 [0]) (.ops c69r13)
def c69b : ICode := (.seq c69k13 c69s12)
def c69 : IFn := ⟨19, [.t 2], c69b⟩
def h69 : List (Nat × List Nat) := [(0, dead 19 [0]), (1, dead 19 [0]), (2, dead 19 [0, 3]), (3, dead 19 [3, 4]), (5, dead 19 [3, 4]), (4, dead 19 [3, 4]), (6, dead 19 [3])]
def c70r0 : List Seg := [
  .one ⟨some 36, .mv (.t 7), none⟩,
  .one ⟨some 6, .mv (.t 36), none⟩]
def c70k0 : ICode := .kill (dead 37 [7]) (.ops c70r0)
def c70s1 : ICode := (.seq c70k0 .ret)
def c70r4 : List Seg := [
  .one ⟨some 35, .bin .add (.t 21) (.c (.int .i64 1)), none⟩,
  .one ⟨some 21, .mv (.t 35), none⟩]
def c70k4 : ICode := .kill (dead 37 [0, 2, 7, 8, 19, 20, 21]) (.ops c70r4)
def c70r5 : List Seg := [
  .one ⟨some 25, .mv (.t 7), none⟩,
  .one ⟨some 26, .mv (.t 0), none⟩,
  .one ⟨some 27, .mv (.t 10), none⟩,
  .one ⟨some 28, .nilck (.t 26), none⟩,
  .one ⟨some 29, .fieldA 1 (.t 28), none⟩,
  .one ⟨some 30, .idxA 10 1 (.t 29) (.t 27), none⟩,
  .one ⟨some 31, .load1 (.t 30), none⟩,
  .one ⟨some 32, .mv (.t 2), none⟩,
  .one ⟨some 33, .bin .and (.t 31) (.t 32), none⟩,
  .one ⟨some 34, .bin .or (.t 25) (.t 33), none⟩,
  .one ⟨some 7, .mv (.t 34), none⟩]
def c70k5 : ICode := .kill (dead 37 [0, 2, 7, 8, 10, 19, 20, 21]) (.ops c70r5)
def c70r6 : List Seg := [
  .one ⟨some 23, .idxS 1 (.t 19) (.t 21), none⟩,
  .one ⟨some 24, .load1 (.t 23), none⟩,
  .one ⟨some 10, .mv (.t 24), none⟩]
def c70k6 : ICode := .kill (dead 37 [0, 2, 7, 8, 19, 20, 21]) (.ops c70r6)
def c70s7 : ICode := (.seq (.block 3 (.seq c70k6 c70k5)) c70k4)
def c70s8 : ICode := (.seq (.cond (.t 22) .skip (.exit 2)) c70s7)
def c70r9 : List Seg := [
  .one ⟨some 22, .bin .lss (.t 21) (.t 20), none⟩]
def c70k9 : ICode := .kill (dead 37 [0, 2, 7, 8, 19, 20, 21]) (.ops c70r9)
def c70l3 : ICode := (.seq c70k9 c70s8)
def c70s10 : ICode := (.block 2 (.loop c70l3))
def c70r11 : List Seg := [
  .one ⟨some 18, .mv (.t 7), none⟩,
  .one ⟨some 19, .call (.c (.func 69 [])) [(.t 18)], none⟩,
  .one ⟨some 20, .len 0 (.t 19), none⟩,
  .one ⟨some 21, .mv (.c (.int .i64 0)), none⟩]
def c70k11 : ICode := .kill (dead 37 [0, 2, 7, 8]) (.ops c70r11)
def c70s12 : ICode := (.seq c70k11 c70s10)
def c70r13 : List Seg := [
  .one ⟨some 17, .mv (.t 7), none⟩,
  .one ⟨some 8, .mv (.t 17), none⟩]
def c70k13 : ICode := .kill (dead 37 [0, 2, 7]) (.ops c70r13)
def c70s14 : ICode := (.block 1 (.seq c70k13 c70s12))
def c70s15 : ICode := (.cond (.t 16) .skip (.exit 0))
def c70r16 : List Seg := [
  .one ⟨some 14, .mv (.t 8), none⟩,
  .one ⟨some 15, .mv (.t 7), none⟩,
  .one ⟨some 16, .bin .neq (.t 14) (.t 15), none⟩]
def c70k16 : ICode := .kill (dead 37 [0, 2, 7, 8]) (.ops c70r16)
def c70l2 : ICode := (.seq (.seq c70k16 c70s15) c70s14)
def c70s17 : ICode := (.block 0 (.loop c70l2))
def c70r18 : List Seg := [
  .one ⟨some 8, .mv (.c (.int .i64 0)), none⟩]
def c70k18 : ICode := .kill (dead 37 [0, 2, 7]) (.ops c70r18)
def c70s19 : ICode := (.seq (.seq c70k18 c70s17) c70s1)
def c70r20 : List Seg := [
  .one ⟨some 11, .mv (.t 1), none⟩,
  .one ⟨some 12, .conv .u64 (.t 11), none⟩,
  .one ⟨some 13, .bin .shl (.c (.int .i64 1)) (.t 12), none⟩,
  .one ⟨some 7, .mv (.t 13), none⟩]
def c70k20 : ICode := .kill (dead 37 [0, 1, 2]) (.ops c70r20)
def c70s21 : ICode := (.seq c70k20 c70s19)
def c70r22 : List Seg := [
  .one ⟨some 6, .mv (.c (.int .i64 0)), none⟩]
def c70k22 : ICode := .kill (dead 37 [0, 1, 2]) (.ops c70r22)
def c70b : ICode := (.seq c70k22 c70s21)
def c70 : IFn := ⟨37, [.t 6], c70b⟩
def h70 : List (Nat × List Nat) := [(0, dead 37 [0, 1, 2]), (1, dead 37 [0, 1, 2]), (2, dead 37 [0, 2, 7]), (3, dead 37 [0, 2, 7, 8]), (4, dead 37 [0, 2, 7]), (5, dead 37 [0, 2, 7, 8]), (6, dead 37 [0, 2, 7, 8, 19, 20, 21]), (7, dead 37 [0, 2, 7, 8, 19, 20, 21]), (8, dead 37 [0, 2, 7, 8, 10, 19, 20, 21]), (9, dead 37 [0, 2, 7, 8, 19, 20, 21]), (10, dead 37 [7])]
def c71r0 : List Seg := [
  .one ⟨some 79, .mv (.t 7), none⟩,
  .one ⟨some 6, .mv (.t 79), none⟩]
def c71k0 : ICode := .kill (dead 80 [7]) (.ops c71r0)
def c71s1 : ICode := (.seq c71k0 .ret)
def c71r3 : List Seg := [
  .one ⟨some 17, .mv (.t 8), none⟩,
  .one ⟨some 18, .bin .add (.t 17) (.c (.int .i64 1)), none⟩,
  .one ⟨some 8, .mv (.t 18), none⟩]
def c71k3 : ICode := .kill (dead 80 [0, 1, 2, 7, 8]) (.ops c71r3)
def c71r4 : List Seg := [
  .one ⟨some 76, .mv (.t 2), none⟩,
  .one ⟨some 77, .mv (.t 9), none⟩,
  .one ⟨some 78, .bin .andNot (.t 76) (.t 77), none⟩,
  .one ⟨some 2, .mv (.t 78), none⟩]
def c71k4 : ICode := .kill (dead 80 [0, 1, 2, 7, 8, 9]) (.ops c71r4)
def c71r5 : List Seg := [
  .one ⟨some 72, .mv (.t 7), none⟩,
  .one ⟨some 73, .mv (.t 9), none⟩,
  .one ⟨some 74, .mkslice 1 [.int .i64 0] [(0, 1, (.t 73))], none⟩,
  .one ⟨some 75, .app 1 8 (.t 72) (.t 74), none⟩,
  .one ⟨some 7, .mv (.t 75), none⟩]
def c71k5 : ICode := .kill (dead 80 [0, 1, 2, 7, 8, 9]) (.ops c71r5)
def c71s6 : ICode := (.seq c71k5 c71k4)
def c71r8 : List Seg := [
  .one ⟨some 29, .mv (.t 10), none⟩,
  .one ⟨some 30, .bin .add (.t 29) (.c (.int .i64 1)), none⟩,
  .one ⟨some 10, .mv (.t 30), none⟩]
def c71k8 : ICode := .kill (dead 80 [0, 1, 2, 7, 8, 9, 10]) (.ops c71r8)
def c71r10 : List Seg := [
  .one ⟨some 35, .mv (.t 11), none⟩,
  .one ⟨some 36, .bin .add (.t 35) (.c (.int .i64 1)), none⟩,
  .one ⟨some 11, .mv (.t 36), none⟩]
def c71k10 : ICode := .kill (dead 80 [0, 1, 2, 7, 8, 9, 10, 11]) (.ops c71r10)
def c71r11 : List Seg := [
  .one ⟨some 67, .mv (.t 9), none⟩,
  .one ⟨some 68, .mv (.t 12), none⟩,
  .one ⟨some 69, .bin .or (.t 67) (.t 68), none⟩,
  .one ⟨some 70, .mv (.t 13), none⟩,
  .one ⟨some 71, .bin .or (.t 69) (.t 70), none⟩,
  .one ⟨some 9, .mv (.t 71), none⟩]
def c71k11 : ICode := .kill (dead 80 [0, 1, 2, 7, 8, 9, 10, 11, 12, 13]) (.ops c71r11)
def c71s12 : ICode := (.cond (.t 66) c71k11 .skip)
def c71r13 : List Seg := [
  .one ⟨some 49, .mv (.t 2), none⟩,
  .one ⟨some 50, .mv (.t 12), none⟩,
  .one ⟨some 51, .bin .and (.t 49) (.t 50), none⟩,
  .one ⟨some 52, .bin .neq (.t 51) (.c (.int .i64 0)), none⟩,
  .one ⟨some 53, .mv (.t 52), none⟩,
  .one ⟨some 54, .mv (.t 2), some (53, true)⟩,
  .one ⟨some 55, .mv (.t 13), some (53, true)⟩,
  .one ⟨some 56, .bin .and (.t 54) (.t 55), some (53, true)⟩,
  .one ⟨some 57, .bin .neq (.t 56) (.c (.int .i64 0)), some (53, true)⟩,
  .one ⟨some 58, .pick (.t 53) (.t 57) (.c (.bool false)), none⟩,
  .one ⟨some 59, .mv (.t 58), none⟩,
  .one ⟨some 60, .mv (.t 9), some (59, true)⟩,
  .one ⟨some 61, .mv (.t 12), some (59, true)⟩,
  .one ⟨some 62, .mv (.t 13), some (59, true)⟩,
  .one ⟨some 63, .bin .or (.t 61) (.t 62), some (59, true)⟩,
  .one ⟨some 64, .bin .and (.t 60) (.t 63), some (59, true)⟩,
  .one ⟨some 65, .bin .neq (.t 64) (.c (.int .i64 0)), some (59, true)⟩,
  .one ⟨some 66, .pick (.t 59) (.t 65) (.c (.bool false)), none⟩]
def c71k13 : ICode := .kill (dead 80 [0, 1, 2, 7, 8, 9, 10, 11, 12, 13]) (.ops c71r13)
def c71s14 : ICode := (.seq c71k13 c71s12)
def c71r15 : List Seg := [
  .grp [(⟨some 37, .mv (.t 1), none⟩, 0), (⟨some 38, .mv (.t 11), none⟩, 0), (⟨some 39, .idxS 2 (.t 37) (.t 38), none⟩, 3), (⟨some 40, .idxA 2 1 (.t 39) (.c (.int .i64 0)), none⟩, 7), (⟨some 41, .load1 (.t 40), none⟩, 15), (⟨some 42, .bin .shl (.c (.int .i64 1)) (.t 41), none⟩, 31), (⟨some 43, .mv (.t 1), none⟩, 0), (⟨some 44, .mv (.t 11), none⟩, 0), (⟨some 45, .idxS 2 (.t 43) (.t 44), none⟩, 192), (⟨some 46, .idxA 2 1 (.t 45) (.c (.int .i64 1)), none⟩, 448), (⟨some 47, .load1 (.t 46), none⟩, 960), (⟨some 48, .bin .shl (.c (.int .i64 1)) (.t 47), none⟩, 1984), (⟨some 12, .mv (.t 42), none⟩, 63)],
  .one ⟨some 13, .mv (.t 48), none⟩]
def c71k15 : ICode := .kill (dead 80 [0, 1, 2, 7, 8, 9, 10, 11]) (.ops c71r15)
def c71s16 : ICode := (.seq (.block 5 (.seq c71k15 c71s14)) c71k10)
def c71s17 : ICode := (.cond (.t 34) .skip (.exit 4))
def c71r18 : List Seg := [
  .one ⟨some 31, .mv (.t 11), none⟩,
  .one ⟨some 32, .mv (.t 1), none⟩,
  .one ⟨some 33, .len 0 (.t 32), none⟩,
  .one ⟨some 34, .bin .lss (.t 31) (.t 33), none⟩]
def c71k18 : ICode := .kill (dead 80 [0, 1, 2, 7, 8, 9, 10, 11]) (.ops c71r18)
def c71l9 : ICode := (.seq (.seq c71k18 c71s17) c71s16)
def c71s19 : ICode := (.block 4 (.loop c71l9))
def c71r20 : List Seg := [
  .one ⟨some 11, .mv (.c (.int .i64 0)), none⟩]
def c71k20 : ICode := .kill (dead 80 [0, 1, 2, 7, 8, 9, 10]) (.ops c71r20)
def c71s21 : ICode := (.seq (.block 3 (.seq c71k20 c71s19)) c71k8)
def c71s22 : ICode := (.cond (.t 28) .skip (.exit 2))
def c71r23 : List Seg := [
  .one ⟨some 26, .mv (.t 10), none⟩,
  .one ⟨some 27, .mv (.t 0), none⟩,
  .one ⟨some 28, .bin .lss (.t 26) (.t 27), none⟩]
def c71k23 : ICode := .kill (dead 80 [0, 1, 2, 7, 8, 9, 10]) (.ops c71r23)
def c71l7 : ICode := (.seq (.seq c71k23 c71s22) c71s21)
def c71s24 : ICode := (.block 2 (.loop c71l7))
def c71r25 : List Seg := [
  .one ⟨some 10, .mv (.c (.int .i64 0)), none⟩]
def c71k25 : ICode := .kill (dead 80 [0, 1, 2, 7, 8, 9]) (.ops c71r25)
def c71s26 : ICode := (.seq (.seq c71k25 c71s24) c71s6)
def c71r27 : List Seg := [
  .one ⟨some 24, .mv (.t 8), none⟩,
  .one ⟨some 25, .bin .shl (.c (.int .i64 1)) (.t 24), none⟩,
  .one ⟨some 9, .mv (.t 25), none⟩]
def c71k27 : ICode := .kill (dead 80 [0, 1, 2, 7, 8]) (.ops c71r27)
def c71s28 : ICode := (.seq c71k27 c71s26)
def c71s29 : ICode := (.cond (.t 23) (.exit 1) .skip)
def c71r30 : List Seg := [
  .one ⟨some 19, .mv (.t 2), none⟩,
  .one ⟨some 20, .mv (.t 8), none⟩,
  .one ⟨some 21, .bin .shr (.t 19) (.t 20), none⟩,
  .one ⟨some 22, .bin .rem (.t 21) (.c (.int .i64 2)), none⟩,
  .one ⟨some 23, .bin .eql (.t 22) (.c (.int .i64 0)), none⟩]
def c71k30 : ICode := .kill (dead 80 [0, 1, 2, 7, 8]) (.ops c71r30)
def c71s31 : ICode := (.seq (.block 1 (.seq (.seq c71k30 c71s29) c71s28)) c71k3)
def c71s32 : ICode := (.cond (.t 16) .skip (.exit 0))
def c71r33 : List Seg := [
  .one ⟨some 14, .mv (.t 8), none⟩,
  .one ⟨some 15, .mv (.t 0), none⟩,
  .one ⟨some 16, .bin .lss (.t 14) (.t 15), none⟩]
def c71k33 : ICode := .kill (dead 80 [0, 1, 2, 7, 8]) (.ops c71r33)
def c71l2 : ICode := (.seq (.seq c71k33 c71s32) c71s31)
def c71s34 : ICode := (.block 0 (.loop c71l2))
def c71r35 : List Seg := [
  .one ⟨some 8, .mv (.c (.int .i64 0)), none⟩]
def c71k35 : ICode := .kill (dead 80 [0, 1, 2, 7]) (.ops c71r35)
def c71s36 : ICode := (.seq (.seq c71k35 c71s34) c71s1)
def c71r37 : List Seg := [
  .one ⟨some 7, .mv (.c .nilslice), none⟩]
def c71k37 : ICode := .kill (dead 80 [0, 1, 2]) (.ops c71r37)
def c71s38 : ICode := (.seq c71k37 c71s36)
def c71r39 : List Seg := [
  .one ⟨some 6, .mv (.c .nilslice), none⟩]
def c71k39 : ICode := .kill (dead 80 [0, 1, 2]) (.ops c71r39)
def c71b : ICode := (.seq c71k39 c71s38)
def c71 : IFn := ⟨80, [.t 6], c71b⟩
def h71 : List (Nat × List Nat) := [(0, dead 80 [0, 1, 2]), (1, dead 80 [0, 1, 2]), (2, dead 80 [0, 1, 2, 7]), (3, dead 80 [0, 1, 2, 7, 8]), (5, dead 80 [0, 1, 2, 7, 8]), (6, dead 80 [0, 1, 2, 7, 8]), (7, dead 80 [0, 1, 2, 7, 8, 9]), (8, dead 80 [0, 1, 2, 7, 8, 9, 10]), (10, dead 80 [0, 1, 2, 7, 8, 9, 10]), (11, dead 80 [0, 1, 2, 7, 8, 9, 10, 11]), (13, dead 80 [0, 1, 2, 7, 8, 9, 10, 11]), (14, dead 80 [0, 1, 2, 7, 8, 9, 10, 11, 12, 13]), (15, dead 80 [0, 1, 2, 7, 8, 9, 10, 11, 12, 13]), (12, dead 80 [0, 1, 2, 7, 8, 9, 10, 11]), (9, dead 80 [0, 1, 2, 7, 8, 9, 10]), (16, dead 80 [0, 1, 2, 7, 8, 9]), (17, dead 80 [0, 1, 2, 7, 8, 9]), (4, dead 80 [0, 1, 2, 7, 8]), (18, dead 80 [7])]
def c72r0 : List Seg := [
  .one ⟨some 17, .mv (.t 3), none⟩,
  .one ⟨some 2, .mv (.t 17), none⟩]
def c72k0 : ICode := .kill (dead 18 [3]) (.ops c72r0)
def c72s1 : ICode := (.seq c72k0 .ret)
def c72r3 : List Seg := [
  .one ⟨some 9, .mv (.t 4), none⟩,
  .one ⟨some 10, .bin .add (.t 9) (.c (.int .i64 1)), none⟩,
  .one ⟨some 4, .mv (.t 10), none⟩]
def c72k3 : ICode := .kill (dead 18 [0, 3, 4]) (.ops c72r3)
def c72r4 : List Seg := [
  .one ⟨some 11, .mv (.t 3), none⟩,
  .one ⟨some 12, .mv (.t 0), none⟩,
  .one ⟨some 13, .mv (.t 4), none⟩,
  .one ⟨some 14, .bin .shr (.t 12) (.t 13), none⟩,
  .one ⟨some 15, .bin .rem (.t 14) (.c (.int .i64 2)), none⟩,
  .one ⟨some 16, .bin .add (.t 11) (.t 15), none⟩,
  .one ⟨some 3, .mv (.t 16), none⟩]
def c72k4 : ICode := .kill (dead 18 [0, 3, 4]) (.ops c72r4)
def c72s5 : ICode := (.seq (.block 1 c72k4) c72k3)
def c72s6 : ICode := (.cond (.t 8) .skip (.exit 0))
def c72r7 : List Seg := [
  .one ⟨some 5, .mv (.t 0), none⟩,
  .one ⟨some 6, .mv (.t 4), none⟩,
  .one ⟨some 7, .bin .shr (.t 5) (.t 6), none⟩,
  .one ⟨some 8, .bin .gtr (.t 7) (.c (.int .i64 0)), none⟩]
def c72k7 : ICode := .kill (dead 18 [0, 3, 4]) (.ops c72r7)
def c72l2 : ICode := (.seq (.seq c72k7 c72s6) c72s5)
def c72s8 : ICode := (.block 0 (.loop c72l2))
def c72r9 : List Seg := [
  .one ⟨some 4, .mv (.c (.int .i64 0)), none⟩]
def c72k9 : ICode := .kill (dead 18 [0, 3]) (.ops c72r9)
def c72s10 : ICode := (.seq (.seq c72k9 c72s8) c72s1)
def c72r11 : List Seg := [
  .one ⟨some 3, .mv (.c (.int .i64 0)), none⟩]
def c72k11 : ICode := .kill (dead 18 [0]) (.ops c72r11)
def c72s12 : ICode := (.seq c72k11 c72s10)
def c72r13 : List Seg := [
  .one ⟨some 2, .mv (.c (.int .i64 0)), none⟩]
def c72k13 : ICode := .kill (dead 18 [0]) (.ops c72r13)
def c72b : ICode := (.seq c72k13 c72s12)
def c72 : IFn := ⟨18, [.t 2], c72b⟩
def h72 : List (Nat × List Nat) := [(0, dead 18 [0]), (1, dead 18 [0]), (2, dead 18 [0, 3]), (3, dead 18 [0, 3, 4]), (5, dead 18 [0, 3, 4]), (4, dead 18 [0, 3, 4]), (6, dead 18 [3])]
def c73r0 : List Seg := [
  .one ⟨some 3, .mv (.t 0), none⟩,
  .one ⟨some 4, .mkmap, none⟩,
  .one ⟨some 5, .mkagg [.nilptr, .nilmap] [(0, 1, (.t 3)), (1, 1, (.t 4))], none⟩,
  .one ⟨some 6, .box (.t 5), none⟩,
  .one ⟨some 2, .mv (.t 6), none⟩]
def c73k0 : ICode := .kill (dead 7 [0]) (.ops c73r0)
def c73s1 : ICode := (.seq c73k0 .ret)
def c73r2 : List Seg := [
  .one ⟨some 2, .mv (.c .nilptr), none⟩]
def c73k2 : ICode := .kill (dead 7 [0]) (.ops c73r2)
def c73b : ICode := (.seq c73k2 c73s1)
def c73 : IFn := ⟨7, [.t 2], c73b⟩
def h73 : List (Nat × List Nat) := [(0, dead 7 [0]), (1, dead 7 [0])]
def c74r2 : List Seg := [
  .one ⟨some 48, .bin .add (.t 17) (.c (.int .i64 1)), none⟩,
  .one ⟨some 17, .mv (.t 48), none⟩]
def c74k2 : ICode := .kill (dead 49 [0, 1, 2, 3, 4, 6, 15, 16, 17]) (.ops c74r2)
def c74r4 : List Seg := [
  .one ⟨some 47, .bin .add (.t 40) (.c (.int .i64 1)), none⟩,
  .one ⟨some 40, .mv (.t 47), none⟩]
def c74k4 : ICode := .kill (dead 49 [4, 38, 39, 40]) (.ops c74r4)
def c74r5 : List Seg := [
  .one ⟨some 44, .load1 (.t 4), none⟩,
  .one ⟨some 45, .mv (.t 10), none⟩,
  .one ⟨some 46, .call (.t 44) [(.t 45)], none⟩]
def c74k5 : ICode := .kill (dead 49 [4, 10, 38, 39, 40]) (.ops c74r5)
def c74r6 : List Seg := [
  .one ⟨some 42, .idxS 1 (.t 38) (.t 40), none⟩,
  .one ⟨some 43, .load1 (.t 42), none⟩,
  .one ⟨some 10, .mv (.t 43), none⟩]
def c74k6 : ICode := .kill (dead 49 [4, 38, 39, 40]) (.ops c74r6)
def c74s7 : ICode := (.seq (.block 3 (.seq c74k6 c74k5)) c74k4)
def c74s8 : ICode := (.seq (.cond (.t 41) .skip (.exit 2)) c74s7)
def c74r9 : List Seg := [
  .one ⟨some 41, .bin .lss (.t 40) (.t 39), none⟩]
def c74k9 : ICode := .kill (dead 49 [4, 38, 39, 40]) (.ops c74r9)
def c74l3 : ICode := (.seq c74k9 c74s8)
def c74s10 : ICode := (.block 2 (.loop c74l3))
def c74r11 : List Seg := [
  .one ⟨some 35, .load1 (.t 3), none⟩,
  .one ⟨some 36, .mv (.t 0), none⟩,
  .one ⟨some 37, .mv (.t 8), none⟩,
  .one ⟨some 38, .call (.c (.func 77 [])) [(.t 35), (.t 36), (.t 37)], none⟩,
  .one ⟨some 39, .len 0 (.t 38), none⟩,
  .one ⟨some 40, .mv (.c (.int .i64 0)), none⟩]
def c74k11 : ICode := .kill (dead 49 [0, 3, 4, 8]) (.ops c74r11)
def c74s12 : ICode := (.seq (.seq c74k11 c74s10) (.exit 0))
def c74r13 : List Seg := [
  .one ⟨some 31, .load1 (.t 2), none⟩,
  .one ⟨some 32, .mv (.t 8), none⟩,
  .one ⟨some 33, .mv (.t 6), none⟩,
  .one ⟨some 34, .idxS 1 (.t 31) (.t 32), none⟩,
  .one ⟨none, .store1 (.t 34) (.t 33), none⟩]
def c74k13 : ICode := .kill (dead 49 [0, 2, 3, 4, 6, 8]) (.ops c74r13)
def c74s14 : ICode := (.seq c74k13 c74s12)
def c74s15 : ICode := (.cond (.t 30) (.exit 1) .skip)
def c74r16 : List Seg := [
  .one ⟨some 21, .mv (.t 6), none⟩,
  .one ⟨some 22, .bin .gtr (.t 21) (.c (.int .i64 0)), none⟩,
  .one ⟨some 23, .mv (.t 22), none⟩,
  .one ⟨some 24, .load1 (.t 1), some (23, true)⟩,
  .one ⟨some 25, .mv (.t 0), some (23, true)⟩,
  .one ⟨some 26, .mv (.t 8), some (23, true)⟩,
  .one ⟨some 27, .call (.c (.func 76 [])) [(.t 24), (.t 25), (.t 26)], some (23, true)⟩,
  .one ⟨some 28, .mv (.t 6), some (23, true)⟩,
  .one ⟨some 29, .bin .gtr (.t 27) (.t 28), some (23, true)⟩,
  .one ⟨some 30, .pick (.t 23) (.t 29) (.c (.bool false)), none⟩]
def c74k16 : ICode := .kill (dead 49 [0, 1, 2, 3, 4, 6, 8, 15, 16, 17]) (.ops c74r16)
def c74s17 : ICode := (.seq (.seq c74k16 c74s15) c74s14)
def c74r18 : List Seg := [
  .one ⟨some 19, .idxS 1 (.t 15) (.t 17), none⟩,
  .one ⟨some 20, .load1 (.t 19), none⟩,
  .one ⟨some 8, .mv (.t 20), none⟩]
def c74k18 : ICode := .kill (dead 49 [0, 1, 2, 3, 4, 6, 15, 16, 17]) (.ops c74r18)
def c74s19 : ICode := (.seq (.block 1 (.seq c74k18 c74s17)) c74k2)
def c74s20 : ICode := (.seq (.cond (.t 18) .skip (.exit 0)) c74s19)
def c74r21 : List Seg := [
  .one ⟨some 18, .bin .lss (.t 17) (.t 16), none⟩]
def c74k21 : ICode := .kill (dead 49 [0, 1, 2, 3, 4, 6, 15, 16, 17]) (.ops c74r21)
def c74l1 : ICode := (.seq c74k21 c74s20)
def c74s22 : ICode := (.block 0 (.loop c74l1))
def c74r23 : List Seg := [
  .one ⟨some 14, .mv (.t 0), none⟩,
  .one ⟨some 15, .call (.c (.func 69 [])) [(.t 14)], none⟩,
  .one ⟨some 16, .len 0 (.t 15), none⟩,
  .one ⟨some 17, .mv (.c (.int .i64 0)), none⟩]
def c74k23 : ICode := .kill (dead 49 [0, 1, 2, 3, 4, 6]) (.ops c74r23)
def c74s24 : ICode := (.seq c74k23 c74s22)
def c74s25 : ICode := (.seq .skip c74s24)
def c74r26 : List Seg := [
  .one ⟨some 11, .load1 (.t 1), none⟩,
  .one ⟨some 12, .mv (.t 0), none⟩,
  .one ⟨some 13, .call (.c (.func 75 [])) [(.t 11), (.t 12)], none⟩,
  .one ⟨some 6, .mv (.t 13), none⟩]
def c74k26 : ICode := .kill (dead 49 [0, 1, 2, 3, 4]) (.ops c74r26)
def c74p0 : ICode := (.seq c74k26 c74s25)
def c74b : ICode := (.scope c74p0)
def c74 : IFn := ⟨49, [], c74b⟩
def h74 : List (Nat × List Nat) := [(0, dead 49 [0, 1, 2, 3, 4]), (1, dead 49 [0, 1, 2, 3, 4, 6]), (2, dead 49 [0, 1, 2, 3, 4, 6, 15, 16, 17]), (3, dead 49 [0, 1, 2, 3, 4, 6, 15, 16, 17]), (4, dead 49 [0, 1, 2, 3, 4, 6, 8, 15, 16, 17]), (5, dead 49 [0, 2, 3, 4, 6, 8]), (6, dead 49 [0, 3, 4, 8]), (7, dead 49 [4, 38, 39, 40]), (8, dead 49 [4, 38, 39, 40]), (9, dead 49 [4, 10, 38, 39, 40]), (10, dead 49 [4, 38, 39, 40]), (11, dead 49 [0, 1, 2, 3, 4, 6, 15, 16, 17])]
def c75r0 : List Seg := [
  .one ⟨some 53, .mv (.t 7), none⟩,
  .one ⟨some 4, .mv (.t 53), none⟩]
def c75k0 : ICode := .kill (dead 54 [7]) (.ops c75r0)
def c75s1 : ICode := (.seq c75k0 .ret)
def c75r2 : List Seg := [
  .one ⟨some 47, .mv (.t 0), none⟩,
  .one ⟨some 48, .nilck (.t 47), none⟩,
  .one ⟨some 49, .fieldA 1 (.t 48), none⟩,
  .one ⟨some 50, .load1 (.t 49), none⟩,
  .one ⟨some 51, .mv (.t 1), none⟩,
  .one ⟨some 52, .mv (.t 7), none⟩,
  .one ⟨none, .mset (.t 50) (.t 51) (.t 52), none⟩]
def c75k2 : ICode := .kill (dead 54 [0, 1, 7]) (.ops c75r2)
def c75s3 : ICode := (.seq c75k2 c75s1)
def c75r5 : List Seg := [
  .one ⟨some 46, .bin .add (.t 36) (.c (.int .i64 1)), none⟩,
  .one ⟨some 36, .mv (.t 46), none⟩]
def c75k5 : ICode := .kill (dead 54 [0, 1, 7, 34, 35, 36]) (.ops c75r5)
def c75r6 : List Seg := [
  .one ⟨some 40, .mv (.t 7), none⟩,
  .one ⟨some 41, .mv (.t 0), none⟩,
  .one ⟨some 42, .mv (.t 1), none⟩,
  .one ⟨some 43, .mv (.t 9), none⟩,
  .one ⟨some 44, .call (.c (.func 76 [])) [(.t 41), (.t 42), (.t 43)], none⟩,
  .one ⟨some 45, .call (.c (.func 93 [])) [(.t 40), (.t 44)], none⟩,
  .one ⟨some 7, .mv (.t 45), none⟩]
def c75k6 : ICode := .kill (dead 54 [0, 1, 7, 9, 34, 35, 36]) (.ops c75r6)
def c75r7 : List Seg := [
  .one ⟨some 38, .idxS 1 (.t 34) (.t 36), none⟩,
  .one ⟨some 39, .load1 (.t 38), none⟩,
  .one ⟨some 9, .mv (.t 39), none⟩]
def c75k7 : ICode := .kill (dead 54 [0, 1, 7, 34, 35, 36]) (.ops c75r7)
def c75s8 : ICode := (.seq (.block 1 (.seq c75k7 c75k6)) c75k5)
def c75s9 : ICode := (.seq (.cond (.t 37) .skip (.exit 0)) c75s8)
def c75r10 : List Seg := [
  .one ⟨some 37, .bin .lss (.t 36) (.t 35), none⟩]
def c75k10 : ICode := .kill (dead 54 [0, 1, 7, 34, 35, 36]) (.ops c75r10)
def c75l4 : ICode := (.seq c75k10 c75s9)
def c75s11 : ICode := (.block 0 (.loop c75l4))
def c75r12 : List Seg := [
  .one ⟨some 33, .mv (.t 1), none⟩,
  .one ⟨some 34, .call (.c (.func 69 [])) [(.t 33)], none⟩,
  .one ⟨some 35, .len 0 (.t 34), none⟩,
  .one ⟨some 36, .mv (.c (.int .i64 0)), none⟩]
def c75k12 : ICode := .kill (dead 54 [0, 1, 7]) (.ops c75r12)
def c75s13 : ICode := (.seq (.seq c75k12 c75s11) c75s3)
def c75r14 : List Seg := [
  .one ⟨some 26, .mv (.t 0), none⟩,
  .one ⟨some 27, .nilck (.t 26), none⟩,
  .one ⟨some 28, .fieldA 0 (.t 27), none⟩,
  .one ⟨some 29, .load1 (.t 28), none⟩,
  .one ⟨some 30, .nilck (.t 29), none⟩,
  .one ⟨some 31, .fieldA 0 (.t 30), none⟩,
  .one ⟨some 32, .load1 (.t 31), none⟩,
  .one ⟨some 7, .mv (.t 32), none⟩]
def c75k14 : ICode := .kill (dead 54 [0, 1]) (.ops c75r14)
def c75s15 : ICode := (.seq c75k14 c75s13)
def c75r16 : List Seg := [
  .one ⟨some 25, .mv (.t 5), none⟩,
  .one ⟨some 4, .mv (.t 25), none⟩]
def c75k16 : ICode := .kill (dead 54 [5]) (.ops c75r16)
def c75s17 : ICode := (.cond (.t 24) (.seq c75k16 .ret) .skip)
def c75r18 : List Seg := [
  .one ⟨some 24, .mv (.t 6), none⟩]
def c75k18 : ICode := .kill (dead 54 [0, 1, 5, 6]) (.ops c75r18)
def c75s19 : ICode := (.seq c75k18 c75s17)
def c75r20 : List Seg := [
  .one ⟨some 16, .mv (.t 0), none⟩,
  .one ⟨some 17, .nilck (.t 16), none⟩,
  .one ⟨some 18, .fieldA 1 (.t 17), none⟩,
  .one ⟨some 19, .load1 (.t 18), none⟩,
  .one ⟨some 20, .mv (.t 1), none⟩,
  .one ⟨some 21, .look (.int .i64 0) true (.t 19) (.t 20), none⟩,
  .one ⟨some 15, .mv (.t 21), none⟩,
  .one ⟨some 22, .ext (.t 15) 0, none⟩,
  .one ⟨some 23, .ext (.t 15) 1, none⟩,
  .one ⟨some 5, .mv (.t 22), none⟩,
  .one ⟨some 6, .mv (.t 23), none⟩]
def c75k20 : ICode := .kill (dead 54 [0, 1]) (.ops c75r20)
def c75s21 : ICode := (.seq (.seq c75k20 c75s19) c75s15)
def c75r22 : List Seg := [
  .one ⟨some 4, .mv (.c (.int .i64 0)), none⟩]
def c75k22 : ICode := .kill (dead 54 []) (.ops c75r22)
def c75s23 : ICode := (.cond (.t 14) (.seq c75k22 .ret) .skip)
def c75r24 : List Seg := [
  .one ⟨some 10, .mv (.t 1), none⟩,
  .one ⟨some 11, .mv (.t 1), none⟩,
  .one ⟨some 12, .bin .sub (.t 11) (.c (.int .i64 1)), none⟩,
  .one ⟨some 13, .bin .and (.t 10) (.t 12), none⟩,
  .one ⟨some 14, .bin .eql (.t 13) (.c (.int .i64 0)), none⟩]
def c75k24 : ICode := .kill (dead 54 [0, 1]) (.ops c75r24)
def c75s25 : ICode := (.seq (.seq c75k24 c75s23) c75s21)
def c75r26 : List Seg := [
  .one ⟨some 4, .mv (.c (.int .i64 0)), none⟩]
def c75k26 : ICode := .kill (dead 54 [0, 1]) (.ops c75r26)
def c75b : ICode := (.seq c75k26 c75s25)
def c75 : IFn := ⟨54, [.t 4], c75b⟩
def h75 : List (Nat × List Nat) := [(0, dead 54 [0, 1]), (1, dead 54 [0, 1]), (2, dead 54 []), (3, dead 54 [0, 1]), (4, dead 54 [0, 1, 5, 6]), (5, dead 54 [5]), (6, dead 54 [0, 1]), (7, dead 54 [0, 1, 7]), (8, dead 54 [0, 1, 7, 34, 35, 36]), (9, dead 54 [0, 1, 7, 34, 35, 36]), (10, dead 54 [0, 1, 7, 9, 34, 35, 36]), (11, dead 54 [0, 1, 7, 34, 35, 36]), (12, dead 54 [0, 1, 7]), (13, dead 54 [7])]
def c76r0 : List Seg := [
  .one ⟨some 28, .mv (.t 7), none⟩,
  .one ⟨some 29, .bin .add (.t 28) (.c (.int .i64 1)), none⟩,
  .one ⟨some 6, .mv (.t 29), none⟩]
def c76k0 : ICode := .kill (dead 30 [7]) (.ops c76r0)
def c76s1 : ICode := (.seq c76k0 .ret)
def c76r3 : List Seg := [
  .one ⟨some 27, .bin .add (.t 18) (.c (.int .i64 1)), none⟩,
  .one ⟨some 18, .mv (.t 27), none⟩]
def c76k3 : ICode := .kill (dead 30 [0, 7, 16, 17, 18]) (.ops c76r3)
def c76r4 : List Seg := [
  .one ⟨some 22, .mv (.t 7), none⟩,
  .one ⟨some 23, .mv (.t 0), none⟩,
  .one ⟨some 24, .mv (.t 9), none⟩,
  .one ⟨some 25, .call (.c (.func 75 [])) [(.t 23), (.t 24)], none⟩,
  .one ⟨some 26, .mx [(.t 22), (.t 25)], none⟩,
  .one ⟨some 7, .mv (.t 26), none⟩]
def c76k4 : ICode := .kill (dead 30 [0, 7, 9, 16, 17, 18]) (.ops c76r4)
def c76r5 : List Seg := [
  .one ⟨some 20, .idxS 1 (.t 16) (.t 18), none⟩,
  .one ⟨some 21, .load1 (.t 20), none⟩,
  .one ⟨some 9, .mv (.t 21), none⟩]
def c76k5 : ICode := .kill (dead 30 [0, 7, 16, 17, 18]) (.ops c76r5)
def c76s6 : ICode := (.seq (.block 1 (.seq c76k5 c76k4)) c76k3)
def c76s7 : ICode := (.seq (.cond (.t 19) .skip (.exit 0)) c76s6)
def c76r8 : List Seg := [
  .one ⟨some 19, .bin .lss (.t 18) (.t 17), none⟩]
def c76k8 : ICode := .kill (dead 30 [0, 7, 16, 17, 18]) (.ops c76r8)
def c76l2 : ICode := (.seq c76k8 c76s7)
def c76s9 : ICode := (.block 0 (.loop c76l2))
def c76r10 : List Seg := [
  .one ⟨some 10, .mv (.t 0), none⟩,
  .one ⟨some 11, .nilck (.t 10), none⟩,
  .one ⟨some 12, .fieldA 0 (.t 11), none⟩,
  .one ⟨some 13, .load1 (.t 12), none⟩,
  .one ⟨some 14, .mv (.t 1), none⟩,
  .one ⟨some 15, .mv (.t 2), none⟩,
  .one ⟨some 16, .call (.c (.func 77 [])) [(.t 13), (.t 14), (.t 15)], none⟩,
  .one ⟨some 17, .len 0 (.t 16), none⟩,
  .one ⟨some 18, .mv (.c (.int .i64 0)), none⟩]
def c76k10 : ICode := .kill (dead 30 [0, 1, 2, 7]) (.ops c76r10)
def c76s11 : ICode := (.seq (.seq c76k10 c76s9) c76s1)
def c76r12 : List Seg := [
  .one ⟨some 7, .mv (.c (.int .i64 0)), none⟩]
def c76k12 : ICode := .kill (dead 30 [0, 1, 2]) (.ops c76r12)
def c76s13 : ICode := (.seq c76k12 c76s11)
def c76r14 : List Seg := [
  .one ⟨some 6, .mv (.c (.int .i64 0)), none⟩]
def c76k14 : ICode := .kill (dead 30 [0, 1, 2]) (.ops c76r14)
def c76b : ICode := (.seq c76k14 c76s13)
def c76 : IFn := ⟨30, [.t 6], c76b⟩
def h76 : List (Nat × List Nat) := [(0, dead 30 [0, 1, 2]), (1, dead 30 [0, 1, 2]), (2, dead 30 [0, 1, 2, 7]), (3, dead 30 [0, 7, 16, 17, 18]), (4, dead 30 [0, 7, 16, 17, 18]), (5, dead 30 [0, 7, 9, 16, 17, 18]), (6, dead 30 [0, 7, 16, 17, 18]), (7, dead 30 [7])]
def c77r0 : List Seg := [
  .one ⟨some 30, .mv (.t 7), none⟩,
  .one ⟨some 6, .mv (.t 30), none⟩]
def c77k0 : ICode := .kill (dead 31 [7]) (.ops c77r0)
def c77s1 : ICode := (.seq c77k0 .ret)
def c77r3 : List Seg := [
  .one ⟨some 27, .mv (.t 8), none⟩,
  .one ⟨some 28, .mv (.t 9), none⟩,
  .one ⟨some 29, .bin .andNot (.t 27) (.t 28), none⟩,
  .one ⟨some 8, .mv (.t 29), none⟩]
def c77k3 : ICode := .kill (dead 31 [0, 7, 8, 9]) (.ops c77r3)
def c77r4 : List Seg := [
  .one ⟨some 23, .mv (.t 7), none⟩,
  .one ⟨some 24, .mv (.t 9), none⟩,
  .one ⟨some 25, .mkslice 1 [.int .i64 0] [(0, 1, (.t 24))], none⟩,
  .one ⟨some 26, .app 1 8 (.t 23) (.t 25), none⟩,
  .one ⟨some 7, .mv (.t 26), none⟩]
def c77k4 : ICode := .kill (dead 31 [0, 7, 8, 9]) (.ops c77r4)
def c77s5 : ICode := (.seq c77k4 c77k3)
def c77r6 : List Seg := [
  .one ⟨some 17, .mv (.t 0), none⟩,
  .one ⟨some 18, .mv (.t 8), none⟩,
  .one ⟨some 19, .conv .u64 (.t 18), none⟩,
  .one ⟨some 20, .call (.c (.func 92 [])) [(.t 19)], none⟩,
  .one ⟨some 21, .mv (.t 8), none⟩,
  .one ⟨some 22, .call (.c (.func 70 [])) [(.t 17), (.t 20), (.t 21)], none⟩,
  .one ⟨some 9, .mv (.t 22), none⟩]
def c77k6 : ICode := .kill (dead 31 [0, 7, 8]) (.ops c77r6)
def c77s7 : ICode := (.block 1 (.seq c77k6 c77s5))
def c77s8 : ICode := (.cond (.t 16) .skip (.exit 0))
def c77r9 : List Seg := [
  .one ⟨some 15, .mv (.t 8), none⟩,
  .one ⟨some 16, .bin .neq (.t 15) (.c (.int .i64 0)), none⟩]
def c77k9 : ICode := .kill (dead 31 [0, 7, 8]) (.ops c77r9)
def c77l2 : ICode := (.seq (.seq c77k9 c77s8) c77s7)
def c77s10 : ICode := (.block 0 (.loop c77l2))
def c77r11 : List Seg := [
  .one ⟨some 10, .mv (.t 1), none⟩,
  .one ⟨some 11, .mv (.t 2), none⟩,
  .one ⟨some 12, .conv .u64 (.t 11), none⟩,
  .one ⟨some 13, .bin .shl (.c (.int .i64 1)) (.t 12), none⟩,
  .one ⟨some 14, .bin .andNot (.t 10) (.t 13), none⟩,
  .one ⟨some 8, .mv (.t 14), none⟩]
def c77k11 : ICode := .kill (dead 31 [0, 1, 2, 7]) (.ops c77r11)
def c77s12 : ICode := (.seq (.seq c77k11 c77s10) c77s1)
def c77r13 : List Seg := [
  .one ⟨some 7, .mv (.c .nilslice), none⟩]
def c77k13 : ICode := .kill (dead 31 [0, 1, 2]) (.ops c77r13)
def c77s14 : ICode := (.seq c77k13 c77s12)
def c77r15 : List Seg := [
  .one ⟨some 6, .mv (.c .nilslice), none⟩]
def c77k15 : ICode := .kill (dead 31 [0, 1, 2]) (.ops c77r15)
def c77b : ICode := (.seq c77k15 c77s14)
def c77 : IFn := ⟨31, [.t 6], c77b⟩
def h77 : List (Nat × List Nat) := [(0, dead 31 [0, 1, 2]), (1, dead 31 [0, 1, 2]), (2, dead 31 [0, 1, 2, 7]), (3, dead 31 [0, 7, 8]), (4, dead 31 [0, 7, 8]), (5, dead 31 [0, 7, 8, 9]), (6, dead 31 [0, 7, 8, 9]), (7, dead 31 [7])]
def c78r0 : List Seg := [
  .one ⟨some 3, .mv (.t 0), none⟩,
  .one ⟨some 4, .nilck (.t 3), none⟩,
  .one ⟨some 5, .fieldA 0 (.t 4), none⟩,
  .one ⟨some 6, .load1 (.t 5), none⟩,
  .one ⟨some 7, .conv .u64 (.t 6), none⟩,
  .one ⟨some 8, .bin .shl (.c (.int .i64 1)) (.t 7), none⟩,
  .one ⟨some 9, .bin .sub (.t 8) (.c (.int .i64 1)), none⟩,
  .one ⟨some 2, .mv (.t 9), none⟩]
def c78k0 : ICode := .kill (dead 10 [0]) (.ops c78r0)
def c78s1 : ICode := (.seq c78k0 .ret)
def c78r2 : List Seg := [
  .one ⟨some 2, .mv (.c (.int .i64 0)), none⟩]
def c78k2 : ICode := .kill (dead 10 [0]) (.ops c78r2)
def c78b : ICode := (.seq c78k2 c78s1)
def c78 : IFn := ⟨10, [.t 2], c78b⟩
def h78 : List (Nat × List Nat) := [(0, dead 10 [0]), (1, dead 10 [0])]
def c79r0 : List Seg := [
  .one ⟨some 3, .box (.t 1), none⟩]
def c79k0 : ICode := .kill (dead 4 [1]) (.ops c79r0)
def c79b : ICode := c79k0
def c79 : IFn := ⟨4, [], c79b⟩
def h79 : List (Nat × List Nat) := [(0, dead 4 [1])]
def c80r0 : List Seg := [
  .one ⟨some 6, .mv (.t 0), none⟩,
  .one ⟨some 7, .call (.c (.func 95 [])) [(.t 6)], none⟩,
  .one ⟨some 2, .mv (.t 7), none⟩]
def c80k0 : ICode := .kill (dead 8 [0]) (.ops c80r0)
def c80s1 : ICode := (.seq c80k0 .ret)
def c80r2 : List Seg := [
  .one ⟨some 3, .mv (.t 0), none⟩,
  .one ⟨some 4, .conv .u32 (.t 3), none⟩,
  .one ⟨some 5, .call (.c (.func 94 [])) [(.t 4)], none⟩,
  .one ⟨some 2, .mv (.t 5), none⟩]
def c80k2 : ICode := .kill (dead 8 [0]) (.ops c80r2)
def c80s3 : ICode := (.seq (.cond (.c (.bool false)) (.seq c80k2 .ret) .skip) c80s1)
def c80r4 : List Seg := [
  .one ⟨some 2, .mv (.c (.int .i64 0)), none⟩]
def c80k4 : ICode := .kill (dead 8 [0]) (.ops c80r4)
def c80b : ICode := (.seq c80k4 c80s3)
def c80 : IFn := ⟨8, [.t 2], c80b⟩
def h80 : List (Nat × List Nat) := [(0, dead 8 [0]), (1, dead 8 [0]), (2, dead 8 [0])]
def c81r0 : List Seg := [
  .one ⟨some 5, .mv (.t 0), none⟩,
  .one ⟨some 6, .mv (.t 1), none⟩,
  .one ⟨some 7, .call (.c (.func 96 [])) [(.t 5), (.t 6)], none⟩,
  .one ⟨some 8, .bin .geq (.t 7) (.c (.int .i64 0)), none⟩,
  .one ⟨some 4, .mv (.t 8), none⟩]
def c81k0 : ICode := .kill (dead 9 [0, 1]) (.ops c81r0)
def c81s1 : ICode := (.seq c81k0 .ret)
def c81r2 : List Seg := [
  .one ⟨some 4, .mv (.c (.bool false)), none⟩]
def c81k2 : ICode := .kill (dead 9 [0, 1]) (.ops c81r2)
def c81b : ICode := (.seq c81k2 c81s1)
def c81 : IFn := ⟨9, [.t 4], c81b⟩
def h81 : List (Nat × List Nat) := [(0, dead 9 [0, 1]), (1, dead 9 [0, 1])]
def c82r0 : List Seg := [
  .one ⟨some 5, .mv (.t 0), none⟩,
  .one ⟨some 6, .load1 (.t 1), none⟩,
  .one ⟨some 7, .bin .lss (.t 5) (.t 6), none⟩,
  .one ⟨some 8, .mv (.t 7), none⟩,
  .one ⟨some 9, .mv (.t 0), some (8, false)⟩,
  .one ⟨some 10, .load1 (.t 2), some (8, false)⟩,
  .one ⟨some 11, .bin .gtr (.t 9) (.t 10), some (8, false)⟩,
  .one ⟨some 12, .pick (.t 8) (.c (.bool true)) (.t 11), none⟩,
  .one ⟨some 4, .mv (.t 12), none⟩]
def c82k0 : ICode := .kill (dead 13 [0, 1, 2]) (.ops c82r0)
def c82s1 : ICode := (.seq c82k0 .ret)
def c82r2 : List Seg := [
  .one ⟨some 4, .mv (.c (.bool false)), none⟩]
def c82k2 : ICode := .kill (dead 13 [0, 1, 2]) (.ops c82r2)
def c82b : ICode := (.seq c82k2 c82s1)
def c82 : IFn := ⟨13, [.t 4], c82b⟩
def h82 : List (Nat × List Nat) := [(0, dead 13 [0, 1, 2]), (1, dead 13 [0, 1, 2])]
def c83r0 : List Seg := [
  .one ⟨some 3, .mkfn 97 [(.t 1)], none⟩,
  .one ⟨some 2, .mv (.t 3), none⟩]
def c83k0 : ICode := .kill (dead 4 [1]) (.ops c83r0)
def c83s1 : ICode := (.seq c83k0 .ret)
def c83r2 : List Seg := [
  .one ⟨some 1, .box (.t 0), none⟩,
  .one ⟨some 2, .mv (.c .nilfunc), none⟩]
def c83k2 : ICode := .kill (dead 4 [0]) (.ops c83r2)
def c83b : ICode := (.seq c83k2 c83s1)
def c83 : IFn := ⟨4, [.t 2], c83b⟩
def h83 : List (Nat × List Nat) := [(0, dead 4 [0]), (1, dead 4 [1])]
def c84r0 : List Seg := [
  .one ⟨some 5, .fieldA 0 (.t 2), none⟩,
  .one ⟨some 6, .load1 (.t 5), none⟩,
  .one ⟨some 7, .mv (.t 1), none⟩,
  .one ⟨some 8, .mkagg [.int .i64 0, .int .i64 0] [(0, 1, (.t 6)), (1, 1, (.t 7))], none⟩,
  .one ⟨none, .storeN 2 (.t 4) (.t 8), none⟩]
def c84k0 : ICode := .kill (dead 9 [1, 2, 4]) (.ops c84r0)
def c84s1 : ICode := (.seq c84k0 .ret)
def c84r2 : List Seg := [
  .one ⟨some 2, .box (.t 0), none⟩,
  .one ⟨some 4, .box (.c (.agg [.int .i64 0, .int .i64 0])), none⟩]
def c84k2 : ICode := .kill (dead 9 [0, 1]) (.ops c84r2)
def c84b : ICode := (.seq c84k2 c84s1)
def c84 : IFn := ⟨9, [.cellN 4 2], c84b⟩
def h84 : List (Nat × List Nat) := [(0, dead 9 [0, 1]), (1, dead 9 [1, 2, 4])]
def c85r0 : List Seg := [
  .one ⟨some 5, .mv (.t 1), none⟩,
  .one ⟨some 6, .bin .add (.t 5) (.c (.int .i64 1)), none⟩,
  .one ⟨some 7, .fieldA 1 (.t 2), none⟩,
  .one ⟨some 8, .load1 (.t 7), none⟩,
  .one ⟨some 9, .mkagg [.int .i64 0, .int .i64 0] [(0, 1, (.t 6)), (1, 1, (.t 8))], none⟩,
  .one ⟨none, .storeN 2 (.t 4) (.t 9), none⟩]
def c85k0 : ICode := .kill (dead 10 [1, 2, 4]) (.ops c85r0)
def c85s1 : ICode := (.seq c85k0 .ret)
def c85r2 : List Seg := [
  .one ⟨some 2, .box (.t 0), none⟩,
  .one ⟨some 4, .box (.c (.agg [.int .i64 0, .int .i64 0])), none⟩]
def c85k2 : ICode := .kill (dead 10 [0, 1]) (.ops c85r2)
def c85b : ICode := (.seq c85k2 c85s1)
def c85 : IFn := ⟨10, [.cellN 4 2], c85b⟩
def h85 : List (Nat × List Nat) := [(0, dead 10 [0, 1]), (1, dead 10 [1, 2, 4])]
def c86r0 : List Seg := [
  .one ⟨some 3, .loadN 2 (.t 1), none⟩,
  .one ⟨some 4, .fieldA 0 (.t 1), none⟩,
  .one ⟨some 5, .load1 (.t 4), none⟩,
  .one ⟨some 6, .fieldA 0 (.t 1), none⟩,
  .one ⟨some 7, .load1 (.t 6), none⟩,
  .one ⟨some 8, .mkagg [.int .i64 0, .int .i64 0] [(0, 1, (.t 5)), (1, 1, (.t 7))], none⟩,
  .one ⟨some 9, .eqv false (.ints 2) (.t 3) (.t 8), none⟩,
  .one ⟨some 2, .mv (.t 9), none⟩]
def c86k0 : ICode := .kill (dead 10 [1]) (.ops c86r0)
def c86s1 : ICode := (.seq c86k0 .ret)
def c86r2 : List Seg := [
  .one ⟨some 1, .box (.t 0), none⟩,
  .one ⟨some 2, .mv (.c (.bool false)), none⟩]
def c86k2 : ICode := .kill (dead 10 [0]) (.ops c86r2)
def c86b : ICode := (.seq c86k2 c86s1)
def c86 : IFn := ⟨10, [.t 2], c86b⟩
def h86 : List (Nat × List Nat) := [(0, dead 10 [0]), (1, dead 10 [1])]
def c87r0 : List Seg := [
  .one ⟨some 35, .mv (.t 6), none⟩,
  .one ⟨some 2, .mv (.t 35), none⟩]
def c87k0 : ICode := .kill (dead 36 [6]) (.ops c87r0)
def c87s1 : ICode := (.seq c87k0 .ret)
def c87r3 : List Seg := [
  .one ⟨some 34, .bin .add (.t 27) (.c (.int .i64 1)), none⟩,
  .one ⟨some 27, .mv (.t 34), none⟩]
def c87k3 : ICode := .kill (dead 36 [6, 25, 26, 27]) (.ops c87r3)
def c87r4 : List Seg := [
  .one ⟨some 31, .mv (.t 6), none⟩,
  .one ⟨some 32, .mv (.t 8), none⟩,
  .one ⟨some 33, .app 1 8 (.t 31) (.t 32), none⟩,
  .one ⟨some 6, .mv (.t 33), none⟩]
def c87k4 : ICode := .kill (dead 36 [6, 8, 25, 26, 27]) (.ops c87r4)
def c87r5 : List Seg := [
  .one ⟨some 29, .idxS 1 (.t 25) (.t 27), none⟩,
  .one ⟨some 30, .load1 (.t 29), none⟩,
  .one ⟨some 8, .mv (.t 30), none⟩]
def c87k5 : ICode := .kill (dead 36 [6, 25, 26, 27]) (.ops c87r5)
def c87s6 : ICode := (.seq (.block 3 (.seq c87k5 c87k4)) c87k3)
def c87s7 : ICode := (.seq (.cond (.t 28) .skip (.exit 2)) c87s6)
def c87r8 : List Seg := [
  .one ⟨some 28, .bin .lss (.t 27) (.t 26), none⟩]
def c87k8 : ICode := .kill (dead 36 [6, 25, 26, 27]) (.ops c87r8)
def c87l2 : ICode := (.seq c87k8 c87s7)
def c87s9 : ICode := (.block 2 (.loop c87l2))
def c87r10 : List Seg := [
  .one ⟨some 25, .mv (.t 0), none⟩,
  .one ⟨some 26, .len 0 (.t 25), none⟩,
  .one ⟨some 27, .mv (.c (.int .i64 0)), none⟩]
def c87k10 : ICode := .kill (dead 36 [0, 6]) (.ops c87r10)
def c87s11 : ICode := (.seq (.seq c87k10 c87s9) c87s1)
def c87r12 : List Seg := [
  .one ⟨some 23, .mv (.t 3), none⟩,
  .one ⟨some 24, .call (.c (.func 98 [])) [(.c .nilslice), (.t 23)], none⟩,
  .one ⟨some 6, .mv (.t 24), none⟩]
def c87k12 : ICode := .kill (dead 36 [0, 3]) (.ops c87r12)
def c87s13 : ICode := (.seq c87k12 c87s11)
def c87r15 : List Seg := [
  .one ⟨some 22, .bin .add (.t 11) (.c (.int .i64 1)), none⟩,
  .one ⟨some 11, .mv (.t 22), none⟩]
def c87k15 : ICode := .kill (dead 36 [0, 3, 9, 10, 11]) (.ops c87r15)
def c87r16 : List Seg := [
  .one ⟨some 21, .mkif 9 (.c (.str ⟨#[108, 101, 110, 32, 111, 117, 116, 32, 111, 102, 32, 114, 97, 110, 103, 101]⟩)), none⟩,
  .one ⟨none, .bad, none⟩]
def c87k16 : ICode := .kill (dead 36 [0, 3, 9, 10, 11]) (.ops c87r16)
def c87s17 : ICode := (.cond (.t 20) c87k16 .skip)
def c87r18 : List Seg := [
  .one ⟨some 19, .mv (.t 3), none⟩,
  .one ⟨some 20, .bin .lss (.t 19) (.c (.int .i64 0)), none⟩]
def c87k18 : ICode := .kill (dead 36 [0, 3, 9, 10, 11]) (.ops c87r18)
def c87s19 : ICode := (.seq c87k18 c87s17)
def c87r20 : List Seg := [
  .one ⟨some 15, .mv (.t 3), none⟩,
  .one ⟨some 16, .mv (.t 5), none⟩,
  .one ⟨some 17, .len 0 (.t 16), none⟩,
  .one ⟨some 18, .bin .add (.t 15) (.t 17), none⟩,
  .one ⟨some 3, .mv (.t 18), none⟩]
def c87k20 : ICode := .kill (dead 36 [0, 3, 5, 9, 10, 11]) (.ops c87r20)
def c87s21 : ICode := (.seq c87k20 c87s19)
def c87r22 : List Seg := [
  .one ⟨some 13, .idxS 1 (.t 9) (.t 11), none⟩,
  .one ⟨some 14, .load1 (.t 13), none⟩,
  .one ⟨some 5, .mv (.t 14), none⟩]
def c87k22 : ICode := .kill (dead 36 [0, 3, 9, 10, 11]) (.ops c87r22)
def c87s23 : ICode := (.seq (.block 1 (.seq c87k22 c87s21)) c87k15)
def c87s24 : ICode := (.seq (.cond (.t 12) .skip (.exit 0)) c87s23)
def c87r25 : List Seg := [
  .one ⟨some 12, .bin .lss (.t 11) (.t 10), none⟩]
def c87k25 : ICode := .kill (dead 36 [0, 3, 9, 10, 11]) (.ops c87r25)
def c87l14 : ICode := (.seq c87k25 c87s24)
def c87s26 : ICode := (.block 0 (.loop c87l14))
def c87r27 : List Seg := [
  .one ⟨some 9, .mv (.t 0), none⟩,
  .one ⟨some 10, .len 0 (.t 9), none⟩,
  .one ⟨some 11, .mv (.c (.int .i64 0)), none⟩]
def c87k27 : ICode := .kill (dead 36 [0, 3]) (.ops c87r27)
def c87s28 : ICode := (.seq (.seq c87k27 c87s26) c87s13)
def c87r29 : List Seg := [
  .one ⟨some 3, .mv (.c (.int .i64 0)), none⟩]
def c87k29 : ICode := .kill (dead 36 [0]) (.ops c87r29)
def c87s30 : ICode := (.seq c87k29 c87s28)
def c87r31 : List Seg := [
  .one ⟨some 2, .mv (.c .nilslice), none⟩]
def c87k31 : ICode := .kill (dead 36 [0]) (.ops c87r31)
def c87b : ICode := (.seq c87k31 c87s30)
def c87 : IFn := ⟨36, [.t 2], c87b⟩
def h87 : List (Nat × List Nat) := [(0, dead 36 [0]), (1, dead 36 [0]), (2, dead 36 [0, 3]), (3, dead 36 [0, 3, 9, 10, 11]), (4, dead 36 [0, 3, 9, 10, 11]), (5, dead 36 [0, 3, 5, 9, 10, 11]), (6, dead 36 [0, 3, 9, 10, 11]), (7, dead 36 [0, 3, 9, 10, 11]), (8, dead 36 [0, 3, 9, 10, 11]), (9, dead 36 [0, 3]), (10, dead 36 [0, 6]), (11, dead 36 [6, 25, 26, 27]), (12, dead 36 [6, 25, 26, 27]), (13, dead 36 [6, 8, 25, 26, 27]), (14, dead 36 [6, 25, 26, 27]), (15, dead 36 [6])]
def c88r1 : List Seg := [
  .one ⟨some 13, .mv (.t 6), none⟩,
  .one ⟨some 14, .bin .add (.t 13) (.c (.int .i64 1)), none⟩,
  .one ⟨some 6, .mv (.t 14), none⟩]
def c88k1 : ICode := .kill (dead 25 [0, 2, 3, 5, 6]) (.ops c88r1)
def c88r2 : List Seg := [
  .grp [(⟨some 15, .load1 (.t 2), none⟩, 0), (⟨some 16, .mv (.t 6), none⟩, 0), (⟨some 17, .idxS 1 (.t 15) (.t 16), none⟩, 3), (⟨some 18, .load1 (.t 17), none⟩, 7), (⟨some 19, .load1 (.t 3), none⟩, 0), (⟨some 20, .mv (.t 0), none⟩, 0), (⟨some 21, .idxS 1 (.t 19) (.t 20), none⟩, 48), (⟨some 22, .load1 (.t 21), none⟩, 112)],
  .one ⟨some 23, .bin .add (.t 18) (.t 22), none⟩,
  .one ⟨some 24, .idxS 1 (.t 15) (.t 16), none⟩,
  .one ⟨none, .store1 (.t 24) (.t 23), none⟩]
def c88k2 : ICode := .kill (dead 25 [0, 2, 3, 5, 6]) (.ops c88r2)
def c88s3 : ICode := (.seq (.block 1 c88k2) c88k1)
def c88s4 : ICode := (.cond (.t 12) .skip (.exit 0))
def c88r5 : List Seg := [
  .one ⟨some 9, .mv (.t 6), none⟩,
  .one ⟨some 10, .fieldA 1 (.t 5), none⟩,
  .one ⟨some 11, .load1 (.t 10), none⟩,
  .one ⟨some 12, .bin .leq (.t 9) (.t 11), none⟩]
def c88k5 : ICode := .kill (dead 25 [0, 2, 3, 5, 6]) (.ops c88r5)
def c88l0 : ICode := (.seq (.seq c88k5 c88s4) c88s3)
def c88s6 : ICode := (.block 0 (.loop c88l0))
def c88r7 : List Seg := [
  .one ⟨some 7, .fieldA 0 (.t 5), none⟩,
  .one ⟨some 8, .load1 (.t 7), none⟩,
  .one ⟨some 6, .mv (.t 8), none⟩]
def c88k7 : ICode := .kill (dead 25 [0, 2, 3, 5]) (.ops c88r7)
def c88s8 : ICode := (.seq c88k7 c88s6)
def c88r9 : List Seg := [
  .one ⟨some 5, .box (.t 1), none⟩]
def c88k9 : ICode := .kill (dead 25 [0, 1, 2, 3]) (.ops c88r9)
def c88b : ICode := (.seq c88k9 c88s8)
def c88 : IFn := ⟨25, [], c88b⟩
def h88 : List (Nat × List Nat) := [(0, dead 25 [0, 1, 2, 3]), (1, dead 25 [0, 2, 3, 5]), (2, dead 25 [0, 2, 3, 5, 6]), (4, dead 25 [0, 2, 3, 5, 6]), (3, dead 25 [0, 2, 3, 5, 6])]
def c89r0 : List Seg := [
  .grp [(⟨some 37, .load1 (.t 3), none⟩, 0), (⟨some 38, .loadN 2 (.t 4), none⟩, 0), (⟨some 39, .mv (.t 6), none⟩, 0), (⟨some 40, .call (.c (.func 84 [])) [(.t 38), (.t 39)], none⟩, 6)],
  .one ⟨some 41, .call (.t 37) [(.t 40)], none⟩,
  .one ⟨some 42, .mv (.t 41), none⟩,
  .grp [(⟨some 43, .load1 (.t 3), some (42, true)⟩, 0), (⟨some 44, .loadN 2 (.t 4), some (42, true)⟩, 0), (⟨some 45, .mv (.t 6), some (42, true)⟩, 0), (⟨some 46, .call (.c (.func 85 [])) [(.t 44), (.t 45)], some (42, true)⟩, 6)],
  .one ⟨some 47, .call (.t 43) [(.t 46)], some (42, true)⟩,
  .one ⟨some 48, .pick (.t 42) (.t 47) (.c (.bool false)), none⟩,
  .one ⟨some 5, .mv (.t 48), none⟩]
def c89k0 : ICode := .kill (dead 49 [3, 4, 6]) (.ops c89r0)
def c89s1 : ICode := (.seq c89k0 .ret)
def c89r2 : List Seg := [
  .one ⟨some 33, .load1 (.t 2), none⟩,
  .one ⟨some 34, .mv (.t 6), none⟩,
  .one ⟨some 35, .loadN 2 (.t 4), none⟩,
  .one ⟨some 36, .call (.t 33) [(.t 34), (.t 35)], none⟩]
def c89k2 : ICode := .kill (dead 49 [2, 3, 4, 6]) (.ops c89r2)
def c89s3 : ICode := (.seq c89k2 c89s1)
def c89r4 : List Seg := [
  .one ⟨some 31, .load1 (.t 1), none⟩,
  .one ⟨some 32, .sliceS 1 (.t 31) (some (.c (.int .i64 1))) none none, none⟩,
  .one ⟨none, .store1 (.t 1) (.t 32), none⟩]
def c89k4 : ICode := .kill (dead 49 [1, 2, 3, 4, 6]) (.ops c89r4)
def c89s5 : ICode := (.seq c89k4 c89s3)
def c89r6 : List Seg := [
  .one ⟨some 28, .load1 (.t 1), none⟩,
  .one ⟨some 29, .idxS 1 (.t 28) (.c (.int .i64 0)), none⟩,
  .one ⟨some 30, .load1 (.t 29), none⟩,
  .one ⟨some 6, .mv (.t 30), none⟩]
def c89k6 : ICode := .kill (dead 49 [1, 2, 3, 4]) (.ops c89r6)
def c89s7 : ICode := (.seq c89k6 c89s5)
def c89r8 : List Seg := [
  .one ⟨some 5, .mv (.c (.bool false)), none⟩]
def c89k8 : ICode := .kill (dead 49 []) (.ops c89r8)
def c89s9 : ICode := (.cond (.t 27) (.seq c89k8 .ret) .skip)
def c89r10 : List Seg := [
  .one ⟨some 9, .load1 (.t 1), none⟩,
  .one ⟨some 10, .len 0 (.t 9), none⟩,
  .one ⟨some 11, .bin .eql (.t 10) (.c (.int .i64 0)), none⟩,
  .one ⟨some 12, .mv (.t 11), none⟩,
  .grp [(⟨some 13, .load1 (.t 1), some (12, false)⟩, 0), (⟨some 14, .idxS 1 (.t 13) (.c (.int .i64 0)), some (12, false)⟩, 1), (⟨some 15, .load1 (.t 14), some (12, false)⟩, 3), (⟨some 16, .fieldA 0 (.t 4), some (12, false)⟩, 0), (⟨some 17, .load1 (.t 16), some (12, false)⟩, 8)],
  .one ⟨some 18, .bin .lss (.t 15) (.t 17), some (12, false)⟩,
  .one ⟨some 19, .pick (.t 12) (.c (.bool true)) (.t 18), none⟩,
  .one ⟨some 20, .mv (.t 19), none⟩,
  .grp [(⟨some 21, .load1 (.t 1), some (20, false)⟩, 0), (⟨some 22, .idxS 1 (.t 21) (.c (.int .i64 0)), some (20, false)⟩, 1), (⟨some 23, .load1 (.t 22), some (20, false)⟩, 3), (⟨some 24, .fieldA 1 (.t 4), some (20, false)⟩, 0), (⟨some 25, .load1 (.t 24), some (20, false)⟩, 8)],
  .one ⟨some 26, .bin .geq (.t 23) (.t 25), some (20, false)⟩,
  .one ⟨some 27, .pick (.t 20) (.c (.bool true)) (.t 26), none⟩]
def c89k10 : ICode := .kill (dead 49 [1, 2, 3, 4]) (.ops c89r10)
def c89s11 : ICode := (.seq (.seq c89k10 c89s9) c89s7)
def c89r12 : List Seg := [
  .one ⟨some 5, .mv (.c (.bool true)), none⟩]
def c89k12 : ICode := .kill (dead 49 []) (.ops c89r12)
def c89s13 : ICode := (.cond (.t 8) (.seq c89k12 .ret) .skip)
def c89r14 : List Seg := [
  .one ⟨some 7, .loadN 2 (.t 4), none⟩,
  .one ⟨some 8, .call (.c (.func 86 [])) [(.t 7)], none⟩]
def c89k14 : ICode := .kill (dead 49 [1, 2, 3, 4]) (.ops c89r14)
def c89s15 : ICode := (.seq (.seq c89k14 c89s13) c89s11)
def c89r16 : List Seg := [
  .one ⟨some 4, .box (.t 0), none⟩,
  .one ⟨some 5, .mv (.c (.bool false)), none⟩]
def c89k16 : ICode := .kill (dead 49 [0, 1, 2, 3]) (.ops c89r16)
def c89b : ICode := (.seq c89k16 c89s15)
def c89 : IFn := ⟨49, [.t 5], c89b⟩
def h89 : List (Nat × List Nat) := [(0, dead 49 [0, 1, 2, 3]), (1, dead 49 [1, 2, 3, 4]), (2, dead 49 []), (3, dead 49 [1, 2, 3, 4]), (4, dead 49 []), (5, dead 49 [1, 2, 3, 4]), (6, dead 49 [1, 2, 3, 4, 6]), (7, dead 49 [2, 3, 4, 6]), (8, dead 49 [3, 4, 6])]
def c90r0 : List Seg := [
  .one ⟨some 24, .mv (.t 3), none⟩,
  .one ⟨some 2, .mv (.t 24), none⟩]
def c90k0 : ICode := .kill (dead 25 [3]) (.ops c90r0)
def c90s1 : ICode := (.seq c90k0 .ret)
def c90r3 : List Seg := [
  .one ⟨some 16, .mv (.t 4), none⟩,
  .one ⟨some 17, .bin .add (.t 16) (.c (.int .i64 1)), none⟩,
  .one ⟨some 4, .mv (.t 17), none⟩]
def c90k3 : ICode := .kill (dead 25 [0, 3, 4]) (.ops c90r3)
def c90r4 : List Seg := [
  .one ⟨some 18, .mv (.t 3), none⟩,
  .one ⟨some 19, .mv (.t 0), none⟩,
  .one ⟨some 20, .mv (.t 4), none⟩,
  .one ⟨some 21, .idxS 1 (.t 19) (.t 20), none⟩,
  .one ⟨some 22, .load1 (.t 21), none⟩,
  .one ⟨some 23, .mx [(.t 18), (.t 22)], none⟩,
  .one ⟨some 3, .mv (.t 23), none⟩]
def c90k4 : ICode := .kill (dead 25 [0, 3, 4]) (.ops c90r4)
def c90s5 : ICode := (.seq (.block 1 c90k4) c90k3)
def c90s6 : ICode := (.cond (.t 15) .skip (.exit 0))
def c90r7 : List Seg := [
  .one ⟨some 12, .mv (.t 4), none⟩,
  .one ⟨some 13, .mv (.t 0), none⟩,
  .one ⟨some 14, .len 0 (.t 13), none⟩,
  .one ⟨some 15, .bin .lss (.t 12) (.t 14), none⟩]
def c90k7 : ICode := .kill (dead 25 [0, 3, 4]) (.ops c90r7)
def c90l2 : ICode := (.seq (.seq c90k7 c90s6) c90s5)
def c90s8 : ICode := (.block 0 (.loop c90l2))
def c90r9 : List Seg := [
  .one ⟨some 4, .mv (.c (.int .i64 1)), none⟩]
def c90k9 : ICode := .kill (dead 25 [0, 3]) (.ops c90r9)
def c90s10 : ICode := (.seq (.seq c90k9 c90s8) c90s1)
def c90r11 : List Seg := [
  .one ⟨some 9, .mv (.t 0), none⟩,
  .one ⟨some 10, .idxS 1 (.t 9) (.c (.int .i64 0)), none⟩,
  .one ⟨some 11, .load1 (.t 10), none⟩,
  .one ⟨some 3, .mv (.t 11), none⟩]
def c90k11 : ICode := .kill (dead 25 [0]) (.ops c90r11)
def c90s12 : ICode := (.seq c90k11 c90s10)
def c90r13 : List Seg := [
  .one ⟨some 8, .mkif 9 (.c (.str ⟨#[115, 108, 105, 99, 101, 115, 46, 77, 97, 120, 58, 32, 101, 109, 112, 116, 121, 32, 108, 105, 115, 116]⟩)), none⟩,
  .one ⟨none, .bad, none⟩]
def c90k13 : ICode := .kill (dead 25 [0]) (.ops c90r13)
def c90s14 : ICode := (.cond (.t 7) c90k13 .skip)
def c90r15 : List Seg := [
  .one ⟨some 5, .mv (.t 0), none⟩,
  .one ⟨some 6, .len 0 (.t 5), none⟩,
  .one ⟨some 7, .bin .lss (.t 6) (.c (.int .i64 1)), none⟩]
def c90k15 : ICode := .kill (dead 25 [0]) (.ops c90r15)
def c90s16 : ICode := (.seq (.seq c90k15 c90s14) c90s12)
def c90r17 : List Seg := [
  .one ⟨some 2, .mv (.c (.int .i64 0)), none⟩]
def c90k17 : ICode := .kill (dead 25 [0]) (.ops c90r17)
def c90b : ICode := (.seq c90k17 c90s16)
def c90 : IFn := ⟨25, [.t 2], c90b⟩
def h90 : List (Nat × List Nat) := [(0, dead 25 [0]), (1, dead 25 [0]), (2, dead 25 [0]), (3, dead 25 [0]), (4, dead 25 [0, 3]), (5, dead 25 [0, 3, 4]), (7, dead 25 [0, 3, 4]), (6, dead 25 [0, 3, 4]), (8, dead 25 [3])]
def c91r0 : List Seg := [
  .one ⟨some 4, .mv (.c (.int .i64 0)), none⟩]
def c91k0 : ICode := .kill (dead 36 []) (.ops c91r0)
def c91s1 : ICode := (.seq c91k0 .ret)
def c91r2 : List Seg := [
  .one ⟨some 4, .mv (.c (.int .i64 (-1))), none⟩]
def c91k2 : ICode := .kill (dead 36 []) (.ops c91r2)
def c91s3 : ICode := (.cond (.t 35) (.seq c91k2 .ret) .skip)
def c91r4 : List Seg := [
  .one ⟨some 31, .mv (.t 0), none⟩,
  .one ⟨some 32, .len 0 (.t 31), none⟩,
  .one ⟨some 33, .mv (.t 1), none⟩,
  .one ⟨some 34, .len 0 (.t 33), none⟩,
  .one ⟨some 35, .bin .lss (.t 32) (.t 34), none⟩]
def c91k4 : ICode := .kill (dead 36 [0, 1]) (.ops c91r4)
def c91s5 : ICode := (.seq (.seq c91k4 c91s3) c91s1)
def c91r7 : List Seg := [
  .one ⟨some 30, .bin .add (.t 11) (.c (.int .i64 1)), none⟩,
  .one ⟨some 11, .mv (.t 30), none⟩]
def c91k7 : ICode := .kill (dead 36 [0, 1, 9, 10, 11]) (.ops c91r7)
def c91r8 : List Seg := [
  .one ⟨some 29, .mv (.t 8), none⟩,
  .one ⟨some 4, .mv (.t 29), none⟩]
def c91k8 : ICode := .kill (dead 36 [8]) (.ops c91r8)
def c91s9 : ICode := (.cond (.t 28) (.seq c91k8 .ret) .skip)
def c91r10 : List Seg := [
  .one ⟨some 27, .mv (.t 8), none⟩,
  .one ⟨some 28, .bin .neq (.t 27) (.c (.int .i64 0)), none⟩]
def c91k10 : ICode := .kill (dead 36 [0, 1, 8, 9, 10, 11]) (.ops c91r10)
def c91s11 : ICode := (.seq c91k10 c91s9)
def c91r12 : List Seg := [
  .one ⟨some 24, .mv (.t 6), none⟩,
  .one ⟨some 25, .mv (.t 7), none⟩,
  .one ⟨some 26, .call (.c (.func 99 [])) [(.t 24), (.t 25)], none⟩,
  .one ⟨some 8, .mv (.t 26), none⟩]
def c91k12 : ICode := .kill (dead 36 [0, 1, 6, 7, 9, 10, 11]) (.ops c91r12)
def c91s13 : ICode := (.seq c91k12 c91s11)
def c91r14 : List Seg := [
  .one ⟨some 20, .mv (.t 1), none⟩,
  .one ⟨some 21, .mv (.t 5), none⟩,
  .one ⟨some 22, .idxS 1 (.t 20) (.t 21), none⟩,
  .one ⟨some 23, .load1 (.t 22), none⟩,
  .one ⟨some 7, .mv (.t 23), none⟩]
def c91k14 : ICode := .kill (dead 36 [0, 1, 5, 6, 9, 10, 11]) (.ops c91r14)
def c91s15 : ICode := (.seq c91k14 c91s13)
def c91r16 : List Seg := [
  .one ⟨some 4, .mv (.c (.int .i64 1)), none⟩]
def c91k16 : ICode := .kill (dead 36 []) (.ops c91r16)
def c91s17 : ICode := (.cond (.t 19) (.seq c91k16 .ret) .skip)
def c91r18 : List Seg := [
  .one ⟨some 16, .mv (.t 5), none⟩,
  .one ⟨some 17, .mv (.t 1), none⟩,
  .one ⟨some 18, .len 0 (.t 17), none⟩,
  .one ⟨some 19, .bin .geq (.t 16) (.t 18), none⟩]
def c91k18 : ICode := .kill (dead 36 [0, 1, 5, 6, 9, 10, 11]) (.ops c91r18)
def c91s19 : ICode := (.seq (.seq c91k18 c91s17) c91s15)
def c91r20 : List Seg := [
  .one ⟨some 13, .mv (.t 11), none⟩,
  .one ⟨some 14, .idxS 1 (.t 9) (.t 11), none⟩,
  .one ⟨some 15, .load1 (.t 14), none⟩,
  .one ⟨some 5, .mv (.t 13), none⟩,
  .one ⟨some 6, .mv (.t 15), none⟩]
def c91k20 : ICode := .kill (dead 36 [0, 1, 9, 10, 11]) (.ops c91r20)
def c91s21 : ICode := (.seq (.block 1 (.seq c91k20 c91s19)) c91k7)
def c91s22 : ICode := (.seq (.cond (.t 12) .skip (.exit 0)) c91s21)
def c91r23 : List Seg := [
  .one ⟨some 12, .bin .lss (.t 11) (.t 10), none⟩]
def c91k23 : ICode := .kill (dead 36 [0, 1, 9, 10, 11]) (.ops c91r23)
def c91l6 : ICode := (.seq c91k23 c91s22)
def c91s24 : ICode := (.block 0 (.loop c91l6))
def c91r25 : List Seg := [
  .one ⟨some 9, .mv (.t 0), none⟩,
  .one ⟨some 10, .len 0 (.t 9), none⟩,
  .one ⟨some 11, .mv (.c (.int .i64 0)), none⟩]
def c91k25 : ICode := .kill (dead 36 [0, 1]) (.ops c91r25)
def c91s26 : ICode := (.seq (.seq c91k25 c91s24) c91s5)
def c91r27 : List Seg := [
  .one ⟨some 4, .mv (.c (.int .i64 0)), none⟩]
def c91k27 : ICode := .kill (dead 36 [0, 1]) (.ops c91r27)
def c91b : ICode := (.seq c91k27 c91s26)
def c91 : IFn := ⟨36, [.t 4], c91b⟩
def h91 : List (Nat × List Nat) := [(0, dead 36 [0, 1]), (1, dead 36 [0, 1]), (2, dead 36 [0, 1, 9, 10, 11]), (3, dead 36 [0, 1, 9, 10, 11]), (4, dead 36 [0, 1, 5, 6, 9, 10, 11]), (5, dead 36 []), (6, dead 36 [0, 1, 5, 6, 9, 10, 11]), (7, dead 36 [0, 1, 6, 7, 9, 10, 11]), (8, dead 36 [0, 1, 8, 9, 10, 11]), (9, dead 36 [8]), (10, dead 36 [0, 1, 9, 10, 11]), (11, dead 36 [0, 1]), (12, dead 36 []), (13, dead 36 [])]
def c92r0 : List Seg := [
  .one ⟨some 6, .mv (.t 0), none⟩,
  .one ⟨some 7, .call (.c (.func 101 [])) [(.t 6)], none⟩,
  .one ⟨some 2, .mv (.t 7), none⟩]
def c92k0 : ICode := .kill (dead 8 [0]) (.ops c92r0)
def c92s1 : ICode := (.seq c92k0 .ret)
def c92r2 : List Seg := [
  .one ⟨some 3, .mv (.t 0), none⟩,
  .one ⟨some 4, .conv .u32 (.t 3), none⟩,
  .one ⟨some 5, .call (.c (.func 100 [])) [(.t 4)], none⟩,
  .one ⟨some 2, .mv (.t 5), none⟩]
def c92k2 : ICode := .kill (dead 8 [0]) (.ops c92r2)
def c92s3 : ICode := (.seq (.cond (.c (.bool false)) (.seq c92k2 .ret) .skip) c92s1)
def c92r4 : List Seg := [
  .one ⟨some 2, .mv (.c (.int .i64 0)), none⟩]
def c92k4 : ICode := .kill (dead 8 [0]) (.ops c92r4)
def c92b : ICode := (.seq c92k4 c92s3)
def c92 : IFn := ⟨8, [.t 2], c92b⟩
def h92 : List (Nat × List Nat) := [(0, dead 8 [0]), (1, dead 8 [0]), (2, dead 8 [0])]
def c93r0 : List Seg := [
  .one ⟨some 9, .mv (.t 0), none⟩,
  .one ⟨some 4, .mv (.t 9), none⟩]
def c93k0 : ICode := .kill (dead 10 [0]) (.ops c93r0)
def c93s1 : ICode := (.seq c93k0 .ret)
def c93r2 : List Seg := [
  .one ⟨some 8, .mv (.t 1), none⟩,
  .one ⟨some 4, .mv (.t 8), none⟩]
def c93k2 : ICode := .kill (dead 10 [1]) (.ops c93r2)
def c93s3 : ICode := (.cond (.t 7) (.seq c93k2 .ret) .skip)
def c93r4 : List Seg := [
  .one ⟨some 5, .mv (.t 1), none⟩,
  .one ⟨some 6, .mv (.t 0), none⟩,
  .one ⟨some 7, .bin .lss (.t 5) (.t 6), none⟩]
def c93k4 : ICode := .kill (dead 10 [0, 1]) (.ops c93r4)
def c93s5 : ICode := (.seq (.seq c93k4 c93s3) c93s1)
def c93r6 : List Seg := [
  .one ⟨some 4, .mv (.c (.int .i64 0)), none⟩]
def c93k6 : ICode := .kill (dead 10 [0, 1]) (.ops c93r6)
def c93b : ICode := (.seq c93k6 c93s5)
def c93 : IFn := ⟨10, [.t 4], c93b⟩
def h93 : List (Nat × List Nat) := [(0, dead 10 [0, 1]), (1, dead 10 [0, 1]), (2, dead 10 [1]), (3, dead 10 [0])]
def c94r0 : List Seg := [
  .grp [(⟨some 3, .mv (.t 0), none⟩, 0), (⟨some 4, .bin .shr (.t 3) (.c (.int .u64 24)), none⟩, 1), (⟨some 5, .bad, none⟩, 3), (⟨some 6, .mv (.t 0), none⟩, 0), (⟨some 7, .bin .shr (.t 6) (.c (.int .u64 16)), none⟩, 8), (⟨some 8, .bin .and (.t 7) (.c (.int .u32 255)), none⟩, 24), (⟨some 9, .bad, none⟩, 56), (⟨some 10, .bin .add (.t 5) (.t 9), none⟩, 127), (⟨some 11, .mv (.t 0), none⟩, 0), (⟨some 12, .bin .shr (.t 11) (.c (.int .u64 8)), none⟩, 256), (⟨some 13, .bin .and (.t 12) (.c (.int .u32 255)), none⟩, 768), (⟨some 14, .bad, none⟩, 1792), (⟨some 15, .bin .add (.t 10) (.t 14), none⟩, 4095), (⟨some 16, .mv (.t 0), none⟩, 0), (⟨some 17, .bin .and (.t 16) (.c (.int .u32 255)), none⟩, 8192), (⟨some 18, .bad, none⟩, 24576)],
  .one ⟨some 19, .bin .add (.t 15) (.t 18), none⟩,
  .one ⟨some 20, .conv .i64 (.t 19), none⟩,
  .one ⟨some 2, .mv (.t 20), none⟩]
def c94k0 : ICode := .kill (dead 21 [0]) (.ops c94r0)
def c94s1 : ICode := (.seq c94k0 .ret)
def c94r2 : List Seg := [
  .one ⟨some 2, .mv (.c (.int .i64 0)), none⟩]
def c94k2 : ICode := .kill (dead 21 [0]) (.ops c94r2)
def c94b : ICode := (.seq c94k2 c94s1)
def c94 : IFn := ⟨21, [.t 2], c94b⟩
def h94 : List (Nat × List Nat) := [(0, dead 21 [0]), (1, dead 21 [0])]
def c95r0 : List Seg := [
  .one ⟨some 32, .mv (.t 0), none⟩,
  .one ⟨some 33, .conv .i64 (.t 32), none⟩,
  .one ⟨some 34, .bin .and (.t 33) (.c (.int .i64 127)), none⟩,
  .one ⟨some 2, .mv (.t 34), none⟩]
def c95k0 : ICode := .kill (dead 35 [0]) (.ops c95r0)
def c95s1 : ICode := (.seq c95k0 .ret)
def c95r2 : List Seg := [
  .one ⟨some 28, .mv (.t 0), none⟩,
  .one ⟨some 29, .mv (.t 0), none⟩,
  .one ⟨some 30, .bin .shr (.t 29) (.c (.int .u64 32)), none⟩,
  .one ⟨some 31, .bin .add (.t 28) (.t 30), none⟩,
  .one ⟨some 0, .mv (.t 31), none⟩]
def c95k2 : ICode := .kill (dead 35 [0]) (.ops c95r2)
def c95s3 : ICode := (.seq c95k2 c95s1)
def c95r4 : List Seg := [
  .one ⟨some 24, .mv (.t 0), none⟩,
  .one ⟨some 25, .mv (.t 0), none⟩,
  .one ⟨some 26, .bin .shr (.t 25) (.c (.int .u64 16)), none⟩,
  .one ⟨some 27, .bin .add (.t 24) (.t 26), none⟩,
  .one ⟨some 0, .mv (.t 27), none⟩]
def c95k4 : ICode := .kill (dead 35 [0]) (.ops c95r4)
def c95s5 : ICode := (.seq c95k4 c95s3)
def c95r6 : List Seg := [
  .one ⟨some 20, .mv (.t 0), none⟩,
  .one ⟨some 21, .mv (.t 0), none⟩,
  .one ⟨some 22, .bin .shr (.t 21) (.c (.int .u64 8)), none⟩,
  .one ⟨some 23, .bin .add (.t 20) (.t 22), none⟩,
  .one ⟨some 0, .mv (.t 23), none⟩]
def c95k6 : ICode := .kill (dead 35 [0]) (.ops c95r6)
def c95s7 : ICode := (.seq c95k6 c95s5)
def c95r8 : List Seg := [
  .one ⟨some 15, .mv (.t 0), none⟩,
  .one ⟨some 16, .bin .shr (.t 15) (.c (.int .u64 4)), none⟩,
  .one ⟨some 17, .mv (.t 0), none⟩,
  .one ⟨some 18, .bin .add (.t 16) (.t 17), none⟩,
  .one ⟨some 19, .bin .and (.t 18) (.c (.int .u64 1085102592571150095)), none⟩,
  .one ⟨some 0, .mv (.t 19), none⟩]
def c95k8 : ICode := .kill (dead 35 [0]) (.ops c95r8)
def c95s9 : ICode := (.seq c95k8 c95s7)
def c95r10 : List Seg := [
  .one ⟨some 9, .mv (.t 0), none⟩,
  .one ⟨some 10, .bin .shr (.t 9) (.c (.int .u64 2)), none⟩,
  .one ⟨some 11, .bin .and (.t 10) (.c (.int .u64 3689348814741910323)), none⟩,
  .one ⟨some 12, .mv (.t 0), none⟩,
  .one ⟨some 13, .bin .and (.t 12) (.c (.int .u64 3689348814741910323)), none⟩,
  .one ⟨some 14, .bin .add (.t 11) (.t 13), none⟩,
  .one ⟨some 0, .mv (.t 14), none⟩]
def c95k10 : ICode := .kill (dead 35 [0]) (.ops c95r10)
def c95s11 : ICode := (.seq c95k10 c95s9)
def c95r12 : List Seg := [
  .one ⟨some 3, .mv (.t 0), none⟩,
  .one ⟨some 4, .bin .shr (.t 3) (.c (.int .u64 1)), none⟩,
  .one ⟨some 5, .bin .and (.t 4) (.c (.int .u64 6148914691236517205)), none⟩,
  .one ⟨some 6, .mv (.t 0), none⟩,
  .one ⟨some 7, .bin .and (.t 6) (.c (.int .u64 6148914691236517205)), none⟩,
  .one ⟨some 8, .bin .add (.t 5) (.t 7), none⟩,
  .one ⟨some 0, .mv (.t 8), none⟩]
def c95k12 : ICode := .kill (dead 35 [0]) (.ops c95r12)
def c95s13 : ICode := (.seq c95k12 c95s11)
def c95r14 : List Seg := [
  .one ⟨some 2, .mv (.c (.int .i64 0)), none⟩]
def c95k14 : ICode := .kill (dead 35 [0]) (.ops c95r14)
def c95b : ICode := (.seq c95k14 c95s13)
def c95 : IFn := ⟨35, [.t 2], c95b⟩
def h95 : List (Nat × List Nat) := [(0, dead 35 [0]), (1, dead 35 [0]), (2, dead 35 [0]), (3, dead 35 [0]), (4, dead 35 [0]), (5, dead 35 [0]), (6, dead 35 [0]), (7, dead 35 [0])]
def c96r0 : List Seg := [
  .one ⟨some 4, .mv (.c (.int .i64 (-1))), none⟩]
def c96k0 : ICode := .kill (dead 19 []) (.ops c96r0)
def c96s1 : ICode := (.seq c96k0 .ret)
def c96r3 : List Seg := [
  .one ⟨some 18, .bin .add (.t 8) (.c (.int .i64 1)), none⟩,
  .one ⟨some 8, .mv (.t 18), none⟩]
def c96k3 : ICode := .kill (dead 19 [0, 1, 7, 8]) (.ops c96r3)
def c96r4 : List Seg := [
  .one ⟨some 17, .mv (.t 5), none⟩,
  .one ⟨some 4, .mv (.t 17), none⟩]
def c96k4 : ICode := .kill (dead 19 [5]) (.ops c96r4)
def c96s5 : ICode := (.cond (.t 16) (.seq c96k4 .ret) .skip)
def c96r6 : List Seg := [
  .one ⟨some 11, .mv (.t 1), none⟩,
  .one ⟨some 12, .mv (.t 0), none⟩,
  .one ⟨some 13, .mv (.t 5), none⟩,
  .one ⟨some 14, .idxS 1 (.t 12) (.t 13), none⟩,
  .one ⟨some 15, .load1 (.t 14), none⟩,
  .one ⟨some 16, .call (.t 11) [(.t 15)], none⟩]
def c96k6 : ICode := .kill (dead 19 [0, 1, 5, 7, 8]) (.ops c96r6)
def c96s7 : ICode := (.seq c96k6 c96s5)
def c96r8 : List Seg := [
  .one ⟨some 10, .mv (.t 8), none⟩,
  .one ⟨some 5, .mv (.t 10), none⟩]
def c96k8 : ICode := .kill (dead 19 [0, 1, 7, 8]) (.ops c96r8)
def c96s9 : ICode := (.seq (.block 1 (.seq c96k8 c96s7)) c96k3)
def c96s10 : ICode := (.seq (.cond (.t 9) .skip (.exit 0)) c96s9)
def c96r11 : List Seg := [
  .one ⟨some 9, .bin .lss (.t 8) (.t 7), none⟩]
def c96k11 : ICode := .kill (dead 19 [0, 1, 7, 8]) (.ops c96r11)
def c96l2 : ICode := (.seq c96k11 c96s10)
def c96s12 : ICode := (.block 0 (.loop c96l2))
def c96r13 : List Seg := [
  .one ⟨some 6, .mv (.t 0), none⟩,
  .one ⟨some 7, .len 0 (.t 6), none⟩,
  .one ⟨some 8, .mv (.c (.int .i64 0)), none⟩]
def c96k13 : ICode := .kill (dead 19 [0, 1]) (.ops c96r13)
def c96s14 : ICode := (.seq (.seq c96k13 c96s12) c96s1)
def c96r15 : List Seg := [
  .one ⟨some 4, .mv (.c (.int .i64 0)), none⟩]
def c96k15 : ICode := .kill (dead 19 [0, 1]) (.ops c96r15)
def c96b : ICode := (.seq c96k15 c96s14)
def c96 : IFn := ⟨19, [.t 4], c96b⟩
def h96 : List (Nat × List Nat) := [(0, dead 19 [0, 1]), (1, dead 19 [0, 1]), (2, dead 19 [0, 1, 7, 8]), (3, dead 19 [0, 1, 7, 8]), (4, dead 19 [0, 1, 5, 7, 8]), (5, dead 19 [5]), (6, dead 19 [0, 1, 7, 8]), (7, dead 19 [])]
def c97r1 : List Seg := [
  .one ⟨some 15, .mv (.t 3), none⟩,
  .one ⟨some 16, .bin .add (.t 15) (.c (.int .i64 1)), none⟩,
  .one ⟨some 3, .mv (.t 16), none⟩]
def c97k1 : ICode := .kill (dead 17 [0, 1, 3]) (.ops c97r1)
def c97s2 : ICode := (.seq (.block 1 .skip) c97k1)
def c97s3 : ICode := (.cond (.t 14) .skip (.exit 0))
def c97r4 : List Seg := [
  .one ⟨some 6, .mv (.t 3), none⟩,
  .one ⟨some 7, .fieldA 1 (.t 1), none⟩,
  .one ⟨some 8, .load1 (.t 7), none⟩,
  .one ⟨some 9, .bin .lss (.t 6) (.t 8), none⟩,
  .one ⟨some 10, .mv (.t 9), none⟩,
  .one ⟨some 11, .mv (.t 0), some (10, true)⟩,
  .one ⟨some 12, .mv (.t 3), some (10, true)⟩,
  .one ⟨some 13, .call (.t 11) [(.t 12)], some (10, true)⟩,
  .one ⟨some 14, .pick (.t 10) (.t 13) (.c (.bool false)), none⟩]
def c97k4 : ICode := .kill (dead 17 [0, 1, 3]) (.ops c97r4)
def c97l0 : ICode := (.seq (.seq c97k4 c97s3) c97s2)
def c97s5 : ICode := (.block 0 (.loop c97l0))
def c97r6 : List Seg := [
  .one ⟨some 4, .fieldA 0 (.t 1), none⟩,
  .one ⟨some 5, .load1 (.t 4), none⟩,
  .one ⟨some 3, .mv (.t 5), none⟩]
def c97k6 : ICode := .kill (dead 17 [0, 1]) (.ops c97r6)
def c97b : ICode := (.seq c97k6 c97s5)
def c97 : IFn := ⟨17, [], c97b⟩
def h97 : List (Nat × List Nat) := [(0, dead 17 [0, 1]), (1, dead 17 [0, 1, 3]), (2, dead 17 [0, 1, 3])]
def c98r0 : List Seg := [
  .one ⟨some 26, .mv (.t 0), none⟩,
  .one ⟨some 4, .mv (.t 26), none⟩]
def c98k0 : ICode := .kill (dead 27 [0]) (.ops c98r0)
def c98s1 : ICode := (.seq c98k0 .ret)
def c98r2 : List Seg := [
  .one ⟨some 17, .mv (.t 0), none⟩,
  .one ⟨some 18, .mv (.t 0), none⟩,
  .one ⟨some 19, .cap (.t 18), none⟩,
  .one ⟨some 20, .sliceS 1 (.t 17) none (some (.t 19)) none, none⟩,
  .one ⟨some 21, .mv (.t 1), none⟩,
  .one ⟨some 22, .appz [.int .i64 0] (.t 20) (.t 21), none⟩,
  .one ⟨some 23, .mv (.t 0), none⟩,
  .one ⟨some 24, .len 0 (.t 23), none⟩,
  .one ⟨some 25, .sliceS 1 (.t 22) none (some (.t 24)) none, none⟩,
  .one ⟨some 0, .mv (.t 25), none⟩]
def c98k2 : ICode := .kill (dead 27 [0, 1]) (.ops c98r2)
def c98s3 : ICode := (.cond (.t 16) c98k2 .skip)
def c98r4 : List Seg := [
  .one ⟨some 15, .mv (.t 1), none⟩,
  .one ⟨some 16, .bin .gtr (.t 15) (.c (.int .i64 0)), none⟩]
def c98k4 : ICode := .kill (dead 27 [0, 1]) (.ops c98r4)
def c98s5 : ICode := (.seq c98k4 c98s3)
def c98r6 : List Seg := [
  .one ⟨some 8, .mv (.t 1), none⟩,
  .one ⟨some 9, .mv (.t 0), none⟩,
  .one ⟨some 10, .cap (.t 9), none⟩,
  .one ⟨some 11, .mv (.t 0), none⟩,
  .one ⟨some 12, .len 0 (.t 11), none⟩,
  .one ⟨some 13, .bin .sub (.t 10) (.t 12), none⟩,
  .one ⟨some 14, .bin .sub (.t 8) (.t 13), none⟩,
  .one ⟨some 1, .mv (.t 14), none⟩]
def c98k6 : ICode := .kill (dead 27 [0, 1]) (.ops c98r6)
def c98s7 : ICode := (.seq (.seq c98k6 c98s5) c98s1)
def c98r8 : List Seg := [
  .one ⟨some 7, .mkif 9 (.c (.str ⟨#[99, 97, 110, 110, 111, 116, 32, 98, 101, 32, 110, 101, 103, 97, 116, 105, 118, 101]⟩)), none⟩,
  .one ⟨none, .bad, none⟩]
def c98k8 : ICode := .kill (dead 27 [0, 1]) (.ops c98r8)
def c98s9 : ICode := (.cond (.t 6) c98k8 .skip)
def c98r10 : List Seg := [
  .one ⟨some 5, .mv (.t 1), none⟩,
  .one ⟨some 6, .bin .lss (.t 5) (.c (.int .i64 0)), none⟩]
def c98k10 : ICode := .kill (dead 27 [0, 1]) (.ops c98r10)
def c98s11 : ICode := (.seq (.seq c98k10 c98s9) c98s7)
def c98r12 : List Seg := [
  .one ⟨some 4, .mv (.c .nilslice), none⟩]
def c98k12 : ICode := .kill (dead 27 [0, 1]) (.ops c98r12)
def c98b : ICode := (.seq c98k12 c98s11)
def c98 : IFn := ⟨27, [.t 4], c98b⟩
def h98 : List (Nat × List Nat) := [(0, dead 27 [0, 1]), (1, dead 27 [0, 1]), (2, dead 27 [0, 1]), (3, dead 27 [0, 1]), (4, dead 27 [0, 1]), (5, dead 27 [0, 1]), (6, dead 27 [0])]
def c99r0 : List Seg := [
  .one ⟨some 4, .mv (.c (.int .i64 0)), none⟩]
def c99k0 : ICode := .kill (dead 20 []) (.ops c99r0)
def c99s1 : ICode := (.seq c99k0 .ret)
def c99r2 : List Seg := [
  .one ⟨some 4, .mv (.c (.int .i64 1)), none⟩]
def c99k2 : ICode := .kill (dead 20 []) (.ops c99r2)
def c99s3 : ICode := (.cond (.t 19) (.seq c99k2 .ret) .skip)
def c99r4 : List Seg := [
  .one ⟨some 17, .mv (.t 0), none⟩,
  .one ⟨some 18, .mv (.t 1), none⟩,
  .one ⟨some 19, .bin .gtr (.t 17) (.t 18), none⟩]
def c99k4 : ICode := .kill (dead 20 [0, 1]) (.ops c99r4)
def c99s5 : ICode := (.seq (.seq c99k4 c99s3) c99s1)
def c99r6 : List Seg := [
  .one ⟨some 4, .mv (.c (.int .i64 (-1))), none⟩]
def c99k6 : ICode := .kill (dead 20 []) (.ops c99r6)
def c99s7 : ICode := (.cond (.t 16) (.seq c99k6 .ret) .skip)
def c99r8 : List Seg := [
  .one ⟨some 14, .mv (.t 0), none⟩,
  .one ⟨some 15, .mv (.t 1), none⟩,
  .one ⟨some 16, .bin .lss (.t 14) (.t 15), none⟩]
def c99k8 : ICode := .kill (dead 20 [0, 1]) (.ops c99r8)
def c99s9 : ICode := (.seq (.seq c99k8 c99s7) c99s5)
def c99r10 : List Seg := [
  .one ⟨some 4, .mv (.c (.int .i64 1)), none⟩]
def c99k10 : ICode := .kill (dead 20 []) (.ops c99r10)
def c99s11 : ICode := (.cond (.t 13) (.seq c99k10 .ret) .skip)
def c99r12 : List Seg := [
  .one ⟨some 13, .mv (.t 6), none⟩]
def c99k12 : ICode := .kill (dead 20 [0, 1, 6]) (.ops c99r12)
def c99s13 : ICode := (.seq (.seq c99k12 c99s11) c99s9)
def c99r14 : List Seg := [
  .one ⟨some 4, .mv (.c (.int .i64 (-1))), none⟩]
def c99k14 : ICode := .kill (dead 20 []) (.ops c99r14)
def c99s15 : ICode := (.seq c99k14 .ret)
def c99r16 : List Seg := [
  .one ⟨some 4, .mv (.c (.int .i64 0)), none⟩]
def c99k16 : ICode := .kill (dead 20 []) (.ops c99r16)
def c99s17 : ICode := (.cond (.t 12) (.seq c99k16 .ret) .skip)
def c99r18 : List Seg := [
  .one ⟨some 12, .mv (.t 6), none⟩]
def c99k18 : ICode := .kill (dead 20 [6]) (.ops c99r18)
def c99s19 : ICode := (.cond (.t 11) (.seq (.seq c99k18 c99s17) c99s15) .skip)
def c99r20 : List Seg := [
  .one ⟨some 11, .mv (.t 5), none⟩]
def c99k20 : ICode := .kill (dead 20 [0, 1, 5, 6]) (.ops c99r20)
def c99s21 : ICode := (.seq (.seq c99k20 c99s19) c99s13)
def c99r22 : List Seg := [
  .one ⟨some 9, .mv (.t 1), none⟩,
  .one ⟨some 10, .call (.c (.func 102 [])) [(.t 9)], none⟩,
  .one ⟨some 6, .mv (.t 10), none⟩]
def c99k22 : ICode := .kill (dead 20 [0, 1, 5]) (.ops c99r22)
def c99s23 : ICode := (.seq c99k22 c99s21)
def c99r24 : List Seg := [
  .one ⟨some 7, .mv (.t 0), none⟩,
  .one ⟨some 8, .call (.c (.func 102 [])) [(.t 7)], none⟩,
  .one ⟨some 5, .mv (.t 8), none⟩]
def c99k24 : ICode := .kill (dead 20 [0, 1]) (.ops c99r24)
def c99s25 : ICode := (.seq c99k24 c99s23)
def c99r26 : List Seg := [
  .one ⟨some 4, .mv (.c (.int .i64 0)), none⟩]
def c99k26 : ICode := .kill (dead 20 [0, 1]) (.ops c99r26)
def c99b : ICode := (.seq c99k26 c99s25)
def c99 : IFn := ⟨20, [.t 4], c99b⟩
def h99 : List (Nat × List Nat) := [(0, dead 20 [0, 1]), (1, dead 20 [0, 1]), (2, dead 20 [0, 1, 5]), (3, dead 20 [0, 1, 5, 6]), (4, dead 20 [6]), (5, dead 20 []), (6, dead 20 []), (7, dead 20 [0, 1, 6]), (8, dead 20 []), (9, dead 20 [0, 1]), (10, dead 20 []), (11, dead 20 [0, 1]), (12, dead 20 []), (13, dead 20 [])]
def c100r0 : List Seg := [
  .one ⟨some 5, .mv (.t 0), none⟩,
  .one ⟨some 6, .mv (.t 0), none⟩,
  .one ⟨some 7, .un .neg (.t 6), none⟩,
  .one ⟨some 8, .bin .and (.t 5) (.t 7), none⟩,
  .one ⟨some 9, .bin .mul (.t 8) (.c (.int .u32 125613361)), none⟩,
  .one ⟨some 10, .bin .shr (.t 9) (.c (.int .u64 27)), none⟩,
  .one ⟨some 11, .idxA 32 1 (.c (.ptr 0 0)) (.t 10), none⟩,
  .one ⟨some 12, .load1 (.t 11), none⟩,
  .one ⟨some 13, .conv .i64 (.t 12), none⟩,
  .one ⟨some 2, .mv (.t 13), none⟩]
def c100k0 : ICode := .kill (dead 14 [0]) (.ops c100r0)
def c100s1 : ICode := (.seq c100k0 .ret)
def c100r2 : List Seg := [
  .one ⟨some 2, .mv (.c (.int .i64 32)), none⟩]
def c100k2 : ICode := .kill (dead 14 []) (.ops c100r2)
def c100s3 : ICode := (.cond (.t 4) (.seq c100k2 .ret) .skip)
def c100r4 : List Seg := [
  .one ⟨some 3, .mv (.t 0), none⟩,
  .one ⟨some 4, .bin .eql (.t 3) (.c (.int .u32 0)), none⟩]
def c100k4 : ICode := .kill (dead 14 [0]) (.ops c100r4)
def c100s5 : ICode := (.seq (.seq c100k4 c100s3) c100s1)
def c100r6 : List Seg := [
  .one ⟨some 2, .mv (.c (.int .i64 0)), none⟩]
def c100k6 : ICode := .kill (dead 14 [0]) (.ops c100r6)
def c100b : ICode := (.seq c100k6 c100s5)
def c100 : IFn := ⟨14, [.t 2], c100b⟩
def h100 : List (Nat × List Nat) := [(0, dead 14 [0]), (1, dead 14 [0]), (2, dead 14 []), (3, dead 14 [0])]
def c101r0 : List Seg := [
  .one ⟨some 5, .mv (.t 0), none⟩,
  .one ⟨some 6, .mv (.t 0), none⟩,
  .one ⟨some 7, .un .neg (.t 6), none⟩,
  .one ⟨some 8, .bin .and (.t 5) (.t 7), none⟩,
  .one ⟨some 9, .bin .mul (.t 8) (.c (.int .u64 285870213051353865)), none⟩,
  .one ⟨some 10, .bin .shr (.t 9) (.c (.int .u64 58)), none⟩,
  .one ⟨some 11, .idxA 64 1 (.c (.ptr 1 0)) (.t 10), none⟩,
  .one ⟨some 12, .load1 (.t 11), none⟩,
  .one ⟨some 13, .conv .i64 (.t 12), none⟩,
  .one ⟨some 2, .mv (.t 13), none⟩]
def c101k0 : ICode := .kill (dead 14 [0]) (.ops c101r0)
def c101s1 : ICode := (.seq c101k0 .ret)
def c101r2 : List Seg := [
  .one ⟨some 2, .mv (.c (.int .i64 64)), none⟩]
def c101k2 : ICode := .kill (dead 14 []) (.ops c101r2)
def c101s3 : ICode := (.cond (.t 4) (.seq c101k2 .ret) .skip)
def c101r4 : List Seg := [
  .one ⟨some 3, .mv (.t 0), none⟩,
  .one ⟨some 4, .bin .eql (.t 3) (.c (.int .u64 0)), none⟩]
def c101k4 : ICode := .kill (dead 14 [0]) (.ops c101r4)
def c101s5 : ICode := (.seq (.seq c101k4 c101s3) c101s1)
def c101r6 : List Seg := [
  .one ⟨some 2, .mv (.c (.int .i64 0)), none⟩]
def c101k6 : ICode := .kill (dead 14 [0]) (.ops c101r6)
def c101b : ICode := (.seq c101k6 c101s5)
def c101 : IFn := ⟨14, [.t 2], c101b⟩
def h101 : List (Nat × List Nat) := [(0, dead 14 [0]), (1, dead 14 [0]), (2, dead 14 []), (3, dead 14 [0])]
def c102r0 : List Seg := [
  .one ⟨some 3, .mv (.t 0), none⟩,
  .one ⟨some 4, .mv (.t 0), none⟩,
  .one ⟨some 5, .bin .neq (.t 3) (.t 4), none⟩,
  .one ⟨some 2, .mv (.t 5), none⟩]
def c102k0 : ICode := .kill (dead 6 [0]) (.ops c102r0)
def c102s1 : ICode := (.seq c102k0 .ret)
def c102r2 : List Seg := [
  .one ⟨some 2, .mv (.c (.bool false)), none⟩]
def c102k2 : ICode := .kill (dead 6 [0]) (.ops c102r2)
def c102b : ICode := (.seq c102k2 c102s1)
def c102 : IFn := ⟨6, [.t 2], c102b⟩
def h102 : List (Nat × List Nat) := [(0, dead 6 [0]), (1, dead 6 [0])]
end Go.Abs

