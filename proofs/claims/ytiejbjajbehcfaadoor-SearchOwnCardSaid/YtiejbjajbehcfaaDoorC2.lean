/- The evaluator's code of the cut's functions. -/
import Derived.Test.YtiejbjajbehcfaaDoorM4
set_option linter.unusedVariables false
set_option maxRecDepth 20000
set_option maxHeartbeats 4000000
namespace Go.Abs
/-! tosher/search.Steps -/
def c16r0 : List Seg := [
  .one ⟨some 16, .mv (.t 0), none⟩,
  .one ⟨some 17, .mv (.t 1), none⟩,
  .one ⟨some 18, .call (.c (.func 56 [])) [(.t 16), (.t 17)], none⟩,
  .one ⟨some 4, .mv (.t 18), none⟩,
  .one ⟨some 5, .mv (.c (.int .i64 0)), none⟩]
def c16k0 : ICode := .kill (dead 19 [0, 1]) (.ops c16r0)
def c16s1 : ICode := (.seq c16k0 .ret)
def c16r2 : List Seg := [
  .one ⟨some 4, .mv (.c (.int .i64 0)), none⟩,
  .one ⟨some 5, .mv (.c (.int .i64 1)), none⟩]
def c16k2 : ICode := .kill (dead 19 []) (.ops c16r2)
def c16s3 : ICode := (.cond (.t 15) (.seq c16k2 .ret) .skip)
def c16r4 : List Seg := [
  .one ⟨some 6, .mv (.t 0), none⟩,
  .one ⟨some 7, .mkslice 1 [.int .i64 0] [(0, 1, (.t 6))], none⟩,
  .one ⟨some 8, .call (.c (.func 55 [])) [(.c (.int .i64 0)), (.c (.int .i64 20)), (.t 7)], none⟩,
  .one ⟨some 9, .un .not (.t 8), none⟩,
  .one ⟨some 10, .mv (.t 9), none⟩,
  .one ⟨some 11, .mv (.t 1), some (10, false)⟩,
  .one ⟨some 12, .mkslice 1 [.int .i64 0] [(0, 1, (.t 11))], some (10, false)⟩,
  .one ⟨some 13, .call (.c (.func 55 [])) [(.c (.int .i64 0)), (.c (.int .i64 60)), (.t 12)], some (10, false)⟩,
  .one ⟨some 14, .un .not (.t 13), some (10, false)⟩,
  .one ⟨some 15, .pick (.t 10) (.c (.bool true)) (.t 14), none⟩]
def c16k4 : ICode := .kill (dead 19 [0, 1]) (.ops c16r4)
def c16s5 : ICode := (.seq (.seq c16k4 c16s3) c16s1)
def c16r6 : List Seg := [
  .one ⟨some 4, .mv (.c (.int .i64 0)), none⟩,
  .one ⟨some 5, .mv (.c (.int .i64 0)), none⟩]
def c16k6 : ICode := .kill (dead 19 [0, 1]) (.ops c16r6)
def c16b : ICode := (.seq c16k6 c16s5)
def c16 : IFn := ⟨19, [.t 4, .t 5], c16b⟩
def h16 : List (Nat × List Nat) := [(0, dead 19 [0, 1]), (1, dead 19 [0, 1]), (2, dead 19 []), (3, dead 19 [0, 1])]
/-! tosher/tosherref08.Steps -/
def c17r0 : List Seg := [
  .one ⟨some 35, .mv (.t 5), none⟩,
  .one ⟨some 36, .mv (.t 0), none⟩,
  .one ⟨some 37, .idxS 1 (.t 35) (.t 36), none⟩,
  .one ⟨some 38, .load1 (.t 37), none⟩,
  .one ⟨some 4, .mv (.t 38), none⟩]
def c17k0 : ICode := .kill (dead 39 [0, 5]) (.ops c17r0)
def c17s1 : ICode := (.seq c17k0 .ret)
def c17r3 : List Seg := [
  .one ⟨some 14, .mv (.t 6), none⟩,
  .one ⟨some 15, .bin .add (.t 14) (.c (.int .i64 1)), none⟩,
  .one ⟨some 6, .mv (.t 15), none⟩]
def c17k3 : ICode := .kill (dead 39 [0, 1, 5, 6]) (.ops c17r3)
def c17r5 : List Seg := [
  .one ⟨some 19, .mv (.t 7), none⟩,
  .one ⟨some 20, .bin .sub (.t 19) (.c (.int .i64 1)), none⟩,
  .one ⟨some 7, .mv (.t 20), none⟩]
def c17k5 : ICode := .kill (dead 39 [0, 1, 5, 6, 7]) (.ops c17r5)
def c17r6 : List Seg := [
  .grp [(⟨some 21, .mv (.t 5), none⟩, 0), (⟨some 22, .mv (.t 7), none⟩, 0), (⟨some 23, .mv (.t 5), none⟩, 0), (⟨some 24, .mv (.t 7), none⟩, 0), (⟨some 25, .idxS 1 (.t 23) (.t 24), none⟩, 12), (⟨some 26, .load1 (.t 25), none⟩, 28), (⟨some 27, .bin .add (.t 26) (.c (.int .i64 1)), none⟩, 60), (⟨some 28, .mv (.t 5), none⟩, 0), (⟨some 29, .mv (.t 7), none⟩, 0), (⟨some 30, .bin .sub (.t 29) (.c (.int .i64 1)), none⟩, 256), (⟨some 31, .idxS 1 (.t 28) (.t 30), none⟩, 896), (⟨some 32, .load1 (.t 31), none⟩, 1920), (⟨some 33, .bin .add (.t 27) (.t 32), none⟩, 4092)],
  .one ⟨some 34, .idxS 1 (.t 21) (.t 22), none⟩,
  .one ⟨none, .store1 (.t 34) (.t 33), none⟩]
def c17k6 : ICode := .kill (dead 39 [0, 1, 5, 6, 7]) (.ops c17r6)
def c17s7 : ICode := (.seq (.block 3 c17k6) c17k5)
def c17s8 : ICode := (.cond (.t 18) .skip (.exit 2))
def c17r9 : List Seg := [
  .one ⟨some 17, .mv (.t 7), none⟩,
  .one ⟨some 18, .bin .geq (.t 17) (.c (.int .i64 1)), none⟩]
def c17k9 : ICode := .kill (dead 39 [0, 1, 5, 6, 7]) (.ops c17r9)
def c17l4 : ICode := (.seq (.seq c17k9 c17s8) c17s7)
def c17s10 : ICode := (.block 2 (.loop c17l4))
def c17r11 : List Seg := [
  .one ⟨some 16, .mv (.t 0), none⟩,
  .one ⟨some 7, .mv (.t 16), none⟩]
def c17k11 : ICode := .kill (dead 39 [0, 1, 5, 6]) (.ops c17r11)
def c17s12 : ICode := (.seq (.block 1 (.seq c17k11 c17s10)) c17k3)
def c17s13 : ICode := (.cond (.t 13) .skip (.exit 0))
def c17r14 : List Seg := [
  .one ⟨some 11, .mv (.t 6), none⟩,
  .one ⟨some 12, .mv (.t 1), none⟩,
  .one ⟨some 13, .bin .lss (.t 11) (.t 12), none⟩]
def c17k14 : ICode := .kill (dead 39 [0, 1, 5, 6]) (.ops c17r14)
def c17l2 : ICode := (.seq (.seq c17k14 c17s13) c17s12)
def c17s15 : ICode := (.block 0 (.loop c17l2))
def c17r16 : List Seg := [
  .one ⟨some 6, .mv (.c (.int .i64 0)), none⟩]
def c17k16 : ICode := .kill (dead 39 [0, 1, 5]) (.ops c17r16)
def c17s17 : ICode := (.seq (.seq c17k16 c17s15) c17s1)
def c17r18 : List Seg := [
  .one ⟨some 8, .mv (.t 0), none⟩,
  .one ⟨some 9, .bin .add (.t 8) (.c (.int .i64 1)), none⟩,
  .one ⟨some 10, .make [.int .i64 0] 8 (.t 9) (.t 9), none⟩,
  .one ⟨some 5, .mv (.t 10), none⟩]
def c17k18 : ICode := .kill (dead 39 [0, 1]) (.ops c17r18)
def c17s19 : ICode := (.seq c17k18 c17s17)
def c17r20 : List Seg := [
  .one ⟨some 4, .mv (.c (.int .i64 0)), none⟩]
def c17k20 : ICode := .kill (dead 39 [0, 1]) (.ops c17r20)
def c17b : ICode := (.seq c17k20 c17s19)
def c17 : IFn := ⟨39, [.t 4], c17b⟩
def h17 : List (Nat × List Nat) := [(0, dead 39 [0, 1]), (1, dead 39 [0, 1]), (2, dead 39 [0, 1, 5]), (3, dead 39 [0, 1, 5, 6]), (5, dead 39 [0, 1, 5, 6]), (6, dead 39 [0, 1, 5, 6, 7]), (8, dead 39 [0, 1, 5, 6, 7]), (7, dead 39 [0, 1, 5, 6, 7]), (4, dead 39 [0, 1, 5, 6]), (9, dead 39 [0, 5])]
/-! tosher/search.Tries -/
def c18r0 : List Seg := [
  .one ⟨some 4, .mv (.c (.int .i64 0)), none⟩,
  .one ⟨some 5, .mv (.c (.int .i64 8)), none⟩]
def c18k0 : ICode := .kill (dead 29 []) (.ops c18r0)
def c18s1 : ICode := (.seq c18k0 .ret)
def c18r3 : List Seg := [
  .one ⟨some 28, .bin .add (.t 19) (.c (.int .i64 1)), none⟩,
  .one ⟨some 19, .mv (.t 28), none⟩]
def c18k3 : ICode := .kill (dead 29 [0, 1, 19]) (.ops c18r3)
def c18r4 : List Seg := [
  .one ⟨some 27, .mv (.t 6), none⟩,
  .one ⟨some 4, .mv (.t 27), none⟩,
  .one ⟨some 5, .mv (.c (.int .i64 0)), none⟩]
def c18k4 : ICode := .kill (dead 29 [6]) (.ops c18r4)
def c18s5 : ICode := (.cond (.t 26) (.seq c18k4 .ret) .skip)
def c18r6 : List Seg := [
  .one ⟨some 22, .mv (.t 0), none⟩,
  .one ⟨some 23, .mv (.t 6), none⟩,
  .one ⟨some 24, .call (.c (.func 56 [])) [(.t 22), (.t 23)], none⟩,
  .one ⟨some 25, .mv (.t 1), none⟩,
  .one ⟨some 26, .bin .geq (.t 24) (.t 25), none⟩]
def c18k6 : ICode := .kill (dead 29 [0, 1, 6, 19]) (.ops c18r6)
def c18s7 : ICode := (.seq c18k6 c18s5)
def c18r8 : List Seg := [
  .one ⟨some 21, .mv (.t 19), none⟩,
  .one ⟨some 6, .mv (.t 21), none⟩]
def c18k8 : ICode := .kill (dead 29 [0, 1, 19]) (.ops c18r8)
def c18s9 : ICode := (.seq (.block 1 (.seq c18k8 c18s7)) c18k3)
def c18s10 : ICode := (.seq (.cond (.t 20) .skip (.exit 0)) c18s9)
def c18r11 : List Seg := [
  .one ⟨some 20, .bin .lss (.t 19) (.c (.int .i64 61)), none⟩]
def c18k11 : ICode := .kill (dead 29 [0, 1, 19]) (.ops c18r11)
def c18l2 : ICode := (.seq c18k11 c18s10)
def c18s12 : ICode := (.block 0 (.loop c18l2))
def c18r13 : List Seg := [
  .one ⟨some 19, .mv (.c (.int .i64 0)), none⟩]
def c18k13 : ICode := .kill (dead 29 [0, 1]) (.ops c18r13)
def c18s14 : ICode := (.seq (.seq c18k13 c18s12) c18s1)
def c18r15 : List Seg := [
  .one ⟨some 4, .mv (.c (.int .i64 0)), none⟩,
  .one ⟨some 5, .mv (.c (.int .i64 1)), none⟩]
def c18k15 : ICode := .kill (dead 29 []) (.ops c18r15)
def c18s16 : ICode := (.cond (.t 18) (.seq c18k15 .ret) .skip)
def c18r17 : List Seg := [
  .one ⟨some 7, .mv (.t 0), none⟩,
  .one ⟨some 8, .mkslice 1 [.int .i64 0] [(0, 1, (.t 7))], none⟩,
  .one ⟨some 9, .call (.c (.func 55 [])) [(.c (.int .i64 1)), (.c (.int .i64 20)), (.t 8)], none⟩,
  .one ⟨some 10, .un .not (.t 9), none⟩,
  .one ⟨some 11, .mv (.t 10), none⟩,
  .one ⟨some 12, .mv (.t 1), some (11, false)⟩,
  .one ⟨some 13, .bin .lss (.t 12) (.c (.int .i64 0)), some (11, false)⟩,
  .one ⟨some 14, .pick (.t 11) (.c (.bool true)) (.t 13), none⟩,
  .one ⟨some 15, .mv (.t 14), none⟩,
  .one ⟨some 16, .mv (.t 1), some (15, false)⟩,
  .one ⟨some 17, .bin .gtr (.t 16) (.c (.int .i64 1000000000000)), some (15, false)⟩,
  .one ⟨some 18, .pick (.t 15) (.c (.bool true)) (.t 17), none⟩]
def c18k17 : ICode := .kill (dead 29 [0, 1]) (.ops c18r17)
def c18s18 : ICode := (.seq (.seq c18k17 c18s16) c18s14)
def c18r19 : List Seg := [
  .one ⟨some 4, .mv (.c (.int .i64 0)), none⟩,
  .one ⟨some 5, .mv (.c (.int .i64 0)), none⟩]
def c18k19 : ICode := .kill (dead 29 [0, 1]) (.ops c18r19)
def c18b : ICode := (.seq c18k19 c18s18)
def c18 : IFn := ⟨29, [.t 4, .t 5], c18b⟩
def h18 : List (Nat × List Nat) := [(0, dead 29 [0, 1]), (1, dead 29 [0, 1]), (2, dead 29 []), (3, dead 29 [0, 1]), (4, dead 29 [0, 1, 19]), (5, dead 29 [0, 1, 19]), (6, dead 29 [0, 1, 6, 19]), (7, dead 29 [6]), (8, dead 29 [0, 1, 19]), (9, dead 29 [])]
/-! tosher/search.Drop -/
def c19r0 : List Seg := [
  .one ⟨some 19, .mv (.t 1), none⟩,
  .one ⟨some 20, .mv (.t 0), none⟩,
  .one ⟨some 21, .mv (.t 6), none⟩,
  .one ⟨some 22, .bin .sub (.t 21) (.c (.int .i64 1)), none⟩,
  .one ⟨some 23, .call (.c (.func 56 [])) [(.t 20), (.t 22)], none⟩,
  .one ⟨some 24, .bin .sub (.t 19) (.t 23), none⟩,
  .one ⟨some 25, .mx [(.c (.int .i64 1)), (.t 24)], none⟩,
  .one ⟨some 4, .mv (.t 25), none⟩,
  .one ⟨some 5, .mv (.c (.int .i64 0)), none⟩]
def c19k0 : ICode := .kill (dead 26 [0, 1, 6]) (.ops c19r0)
def c19s1 : ICode := (.seq c19k0 .ret)
def c19r2 : List Seg := [
  .one ⟨some 18, .mv (.t 7), none⟩,
  .one ⟨some 4, .mv (.c (.int .i64 0)), none⟩,
  .one ⟨some 5, .mv (.t 18), none⟩]
def c19k2 : ICode := .kill (dead 26 [7]) (.ops c19r2)
def c19s3 : ICode := (.cond (.t 17) (.seq c19k2 .ret) .skip)
def c19r4 : List Seg := [
  .one ⟨some 16, .mv (.t 7), none⟩,
  .one ⟨some 17, .bin .neq (.t 16) (.c (.int .i64 0)), none⟩]
def c19k4 : ICode := .kill (dead 26 [0, 1, 6, 7]) (.ops c19r4)
def c19s5 : ICode := (.seq (.seq c19k4 c19s3) c19s1)
def c19r6 : List Seg := [
  .one ⟨some 4, .mv (.c (.int .i64 0)), none⟩,
  .one ⟨some 5, .mv (.c (.int .i64 1)), none⟩]
def c19k6 : ICode := .kill (dead 26 []) (.ops c19r6)
def c19s7 : ICode := (.cond (.t 15) (.seq c19k6 .ret) .skip)
def c19r8 : List Seg := [
  .one ⟨some 14, .mv (.t 1), none⟩,
  .one ⟨some 15, .bin .eql (.t 14) (.c (.int .i64 0)), none⟩]
def c19k8 : ICode := .kill (dead 26 [0, 1, 6, 7]) (.ops c19r8)
def c19s9 : ICode := (.seq (.seq c19k8 c19s7) c19s5)
def c19r10 : List Seg := [
  .one ⟨some 9, .mv (.t 0), none⟩,
  .one ⟨some 10, .mv (.t 1), none⟩,
  .one ⟨some 11, .call (.c (.func 18 [])) [(.t 9), (.t 10)], none⟩,
  .one ⟨some 8, .mv (.t 11), none⟩,
  .one ⟨some 12, .ext (.t 8) 0, none⟩,
  .one ⟨some 13, .ext (.t 8) 1, none⟩,
  .one ⟨some 6, .mv (.t 12), none⟩,
  .one ⟨some 7, .mv (.t 13), none⟩]
def c19k10 : ICode := .kill (dead 26 [0, 1]) (.ops c19r10)
def c19s11 : ICode := (.seq c19k10 c19s9)
def c19r12 : List Seg := [
  .one ⟨some 4, .mv (.c (.int .i64 0)), none⟩,
  .one ⟨some 5, .mv (.c (.int .i64 0)), none⟩]
def c19k12 : ICode := .kill (dead 26 [0, 1]) (.ops c19r12)
def c19b : ICode := (.seq c19k12 c19s11)
def c19 : IFn := ⟨26, [.t 4, .t 5], c19b⟩
def h19 : List (Nat × List Nat) := [(0, dead 26 [0, 1]), (1, dead 26 [0, 1]), (2, dead 26 [0, 1, 6, 7]), (3, dead 26 []), (4, dead 26 [0, 1, 6, 7]), (5, dead 26 [7]), (6, dead 26 [0, 1, 6])]
/-! tosher/tosherref08.Tries -/
def c20r0 : List Seg := [
  .one ⟨some 4, .mv (.c (.int .i64 (-1))), none⟩]
def c20k0 : ICode := .kill (dead 16 []) (.ops c20r0)
def c20s1 : ICode := (.seq c20k0 .ret)
def c20r3 : List Seg := [
  .one ⟨some 8, .mv (.t 5), none⟩,
  .one ⟨some 9, .bin .add (.t 8) (.c (.int .i64 1)), none⟩,
  .one ⟨some 5, .mv (.t 9), none⟩]
def c20k3 : ICode := .kill (dead 16 [0, 1, 5]) (.ops c20r3)
def c20r4 : List Seg := [
  .one ⟨some 15, .mv (.t 5), none⟩,
  .one ⟨some 4, .mv (.t 15), none⟩]
def c20k4 : ICode := .kill (dead 16 [5]) (.ops c20r4)
def c20s5 : ICode := (.cond (.t 14) (.seq c20k4 .ret) .skip)
def c20r6 : List Seg := [
  .one ⟨some 10, .mv (.t 0), none⟩,
  .one ⟨some 11, .mv (.t 5), none⟩,
  .one ⟨some 12, .call (.c (.func 17 [])) [(.t 10), (.t 11)], none⟩,
  .one ⟨some 13, .mv (.t 1), none⟩,
  .one ⟨some 14, .bin .geq (.t 12) (.t 13), none⟩]
def c20k6 : ICode := .kill (dead 16 [0, 1, 5]) (.ops c20r6)
def c20s7 : ICode := (.seq (.block 1 (.seq c20k6 c20s5)) c20k3)
def c20s8 : ICode := (.cond (.t 7) .skip (.exit 0))
def c20r9 : List Seg := [
  .one ⟨some 6, .mv (.t 5), none⟩,
  .one ⟨some 7, .bin .leq (.t 6) (.c (.int .i64 60)), none⟩]
def c20k9 : ICode := .kill (dead 16 [0, 1, 5]) (.ops c20r9)
def c20l2 : ICode := (.seq (.seq c20k9 c20s8) c20s7)
def c20s10 : ICode := (.block 0 (.loop c20l2))
def c20r11 : List Seg := [
  .one ⟨some 5, .mv (.c (.int .i64 0)), none⟩]
def c20k11 : ICode := .kill (dead 16 [0, 1]) (.ops c20r11)
def c20s12 : ICode := (.seq (.seq c20k11 c20s10) c20s1)
def c20r13 : List Seg := [
  .one ⟨some 4, .mv (.c (.int .i64 0)), none⟩]
def c20k13 : ICode := .kill (dead 16 [0, 1]) (.ops c20r13)
def c20b : ICode := (.seq c20k13 c20s12)
def c20 : IFn := ⟨16, [.t 4], c20b⟩
def h20 : List (Nat × List Nat) := [(0, dead 16 [0, 1]), (1, dead 16 [0, 1]), (2, dead 16 [0, 1, 5]), (4, dead 16 [0, 1, 5]), (5, dead 16 [5]), (3, dead 16 [0, 1, 5]), (6, dead 16 [])]
/-! tosher/tosherref08.Drop -/
def c21r0 : List Seg := [
  .one ⟨some 9, .mv (.t 3), none⟩,
  .one ⟨some 10, .bin .geq (.t 9) (.c (.int .i64 1)), none⟩,
  .one ⟨some 11, .mv (.t 10), none⟩,
  .one ⟨some 12, .mv (.t 3), some (11, true)⟩,
  .one ⟨some 13, .mv (.t 2), some (11, true)⟩,
  .one ⟨some 14, .bin .leq (.t 12) (.t 13), some (11, true)⟩,
  .one ⟨some 15, .pick (.t 11) (.t 14) (.c (.bool false)), none⟩,
  .one ⟨some 16, .mv (.t 15), none⟩,
  .one ⟨some 17, .mv (.t 3), some (16, true)⟩,
  .one ⟨some 18, .bin .sub (.t 17) (.c (.int .i64 1)), some (16, true)⟩,
  .one ⟨some 19, .mv (.t 0), some (16, true)⟩,
  .one ⟨some 20, .bin .sub (.t 19) (.c (.int .i64 1)), some (16, true)⟩,
  .one ⟨some 21, .mv (.t 1), some (16, true)⟩,
  .one ⟨some 22, .bin .sub (.t 21) (.c (.int .i64 1)), some (16, true)⟩,
  .one ⟨some 23, .call (.c (.func 17 [])) [(.t 20), (.t 22)], some (16, true)⟩,
  .one ⟨some 24, .bin .leq (.t 18) (.t 23), some (16, true)⟩,
  .one ⟨some 25, .pick (.t 16) (.t 24) (.c (.bool false)), none⟩,
  .one ⟨some 26, .mv (.t 25), none⟩,
  .one ⟨some 27, .mv (.t 2), some (26, true)⟩,
  .one ⟨some 28, .mv (.t 3), some (26, true)⟩,
  .one ⟨some 29, .bin .sub (.t 27) (.t 28), some (26, true)⟩,
  .one ⟨some 30, .mv (.t 0), some (26, true)⟩,
  .one ⟨some 31, .mv (.t 1), some (26, true)⟩,
  .one ⟨some 32, .bin .sub (.t 31) (.c (.int .i64 1)), some (26, true)⟩,
  .one ⟨some 33, .call (.c (.func 17 [])) [(.t 30), (.t 32)], some (26, true)⟩,
  .one ⟨some 34, .bin .leq (.t 29) (.t 33), some (26, true)⟩,
  .one ⟨some 35, .pick (.t 26) (.t 34) (.c (.bool false)), none⟩,
  .one ⟨some 8, .mv (.t 35), none⟩]
def c21k0 : ICode := .kill (dead 36 [0, 1, 2, 3]) (.ops c21r0)
def c21s1 : ICode := (.seq c21k0 .ret)
def c21r2 : List Seg := [
  .one ⟨some 8, .mv (.c (.bool false)), none⟩]
def c21k2 : ICode := .kill (dead 36 [0, 1, 2, 3]) (.ops c21r2)
def c21b : ICode := (.seq c21k2 c21s1)
def c21 : IFn := ⟨36, [.t 8], c21b⟩
def h21 : List (Nat × List Nat) := [(0, dead 36 [0, 1, 2, 3]), (1, dead 36 [0, 1, 2, 3])]
/-! tosher/tosherlaw08.awake -/
def c22r0 : List Seg := [
  .one ⟨some 45, .mv (.t 3), none⟩,
  .one ⟨some 46, .bin .eql (.t 45) (.c (.int .i64 0)), none⟩,
  .one ⟨some 47, .mv (.t 46), none⟩,
  .one ⟨some 48, .mv (.t 1), some (47, true)⟩,
  .one ⟨some 49, .bin .eql (.t 48) (.c (.int .i64 6)), some (47, true)⟩,
  .one ⟨some 50, .pick (.t 47) (.t 49) (.c (.bool false)), none⟩,
  .one ⟨some 51, .mv (.t 50), none⟩,
  .one ⟨some 52, .mv (.t 2), some (51, true)⟩,
  .one ⟨some 53, .len 0 (.t 52), some (51, true)⟩,
  .one ⟨some 54, .bin .eql (.t 53) (.c (.int .i64 2)), some (51, true)⟩,
  .one ⟨some 55, .pick (.t 51) (.t 54) (.c (.bool false)), none⟩,
  .one ⟨some 56, .mv (.t 55), none⟩,
  .one ⟨some 57, .mv (.t 5), some (56, true)⟩,
  .one ⟨some 58, .bin .eql (.t 57) (.c (.int .i64 0)), some (56, true)⟩,
  .one ⟨some 59, .pick (.t 56) (.t 58) (.c (.bool false)), none⟩,
  .one ⟨some 60, .mv (.t 59), none⟩,
  .one ⟨some 61, .mv (.t 4), some (60, true)⟩,
  .one ⟨some 62, .mkslice 3 [.int .i64 0, .int .i64 0, .int .i64 0] [(0, 1, (.c (.int .i64 6))), (1, 1, (.c (.int .i64 6))), (2, 1, (.c (.int .i64 1)))], some (60, true)⟩,
  .one ⟨some 63, .call (.c (.func 32 [])) [(.t 61), (.t 62)], some (60, true)⟩,
  .one ⟨some 64, .pick (.t 60) (.t 63) (.c (.bool false)), none⟩,
  .one ⟨some 65, .mv (.t 64), none⟩,
  .one ⟨some 66, .mv (.t 7), some (65, true)⟩,
  .one ⟨some 67, .bin .eql (.t 66) (.c (.int .i64 0)), some (65, true)⟩,
  .one ⟨some 68, .pick (.t 65) (.t 67) (.c (.bool false)), none⟩,
  .one ⟨some 69, .mv (.t 68), none⟩,
  .one ⟨some 70, .mv (.t 6), some (69, true)⟩,
  .one ⟨some 71, .bin .eql (.t 70) (.c (.int .i64 1)), some (69, true)⟩,
  .one ⟨some 72, .pick (.t 69) (.t 71) (.c (.bool false)), none⟩,
  .one ⟨some 73, .mv (.t 72), none⟩,
  .one ⟨some 74, .mv (.t 9), some (73, true)⟩,
  .one ⟨some 75, .bin .eql (.t 74) (.c (.int .i64 0)), some (73, true)⟩,
  .one ⟨some 76, .pick (.t 73) (.t 75) (.c (.bool false)), none⟩,
  .one ⟨some 77, .mv (.t 76), none⟩,
  .one ⟨some 78, .mv (.t 8), some (77, true)⟩,
  .one ⟨some 79, .bin .eql (.t 78) (.c (.int .i64 10)), some (77, true)⟩,
  .one ⟨some 80, .pick (.t 77) (.t 79) (.c (.bool false)), none⟩,
  .one ⟨some 81, .mv (.t 80), none⟩,
  .one ⟨some 82, .mv (.t 11), some (81, true)⟩,
  .one ⟨some 83, .bin .eql (.t 82) (.c (.int .i64 0)), some (81, true)⟩,
  .one ⟨some 84, .pick (.t 81) (.t 83) (.c (.bool false)), none⟩,
  .one ⟨some 85, .mv (.t 84), none⟩,
  .one ⟨some 86, .mv (.t 10), some (85, true)⟩,
  .one ⟨some 87, .bin .eql (.t 86) (.c (.int .i64 14)), some (85, true)⟩,
  .one ⟨some 88, .pick (.t 85) (.t 87) (.c (.bool false)), none⟩,
  .one ⟨some 89, .mv (.t 88), none⟩,
  .one ⟨some 90, .mv (.t 13), some (89, true)⟩,
  .one ⟨some 91, .bin .eql (.t 90) (.c (.int .i64 0)), some (89, true)⟩,
  .one ⟨some 92, .pick (.t 89) (.t 91) (.c (.bool false)), none⟩,
  .one ⟨some 93, .mv (.t 92), none⟩,
  .one ⟨some 94, .mv (.t 12), some (93, true)⟩,
  .one ⟨some 95, .bin .eql (.t 94) (.c (.int .i64 9)), some (93, true)⟩,
  .one ⟨some 96, .pick (.t 93) (.t 95) (.c (.bool false)), none⟩,
  .one ⟨some 97, .mv (.t 96), none⟩,
  .one ⟨some 98, .mkslice 1 [.int .i64 0] [(0, 1, (.c (.int .i64 0)))], some (97, true)⟩,
  .one ⟨some 99, .call (.c (.func 46 [])) [(.t 98)], some (97, true)⟩,
  .one ⟨some 100, .bin .eql (.t 99) (.c (.int .i64 80)), some (97, true)⟩,
  .one ⟨some 101, .pick (.t 97) (.t 100) (.c (.bool false)), none⟩,
  .one ⟨some 0, .mv (.t 101), none⟩]
def c22k0 : ICode := .kill (dead 102 [1, 2, 3, 4, 5, 6, 7, 8, 9, 10, 11, 12, 13]) (.ops c22r0)
def c22s1 : ICode := (.seq c22k0 .ret)
def c22r2 : List Seg := [
  .one ⟨some 42, .call (.c (.func 19 [])) [(.c (.int .i64 2)), (.c (.int .i64 100))], none⟩,
  .one ⟨some 41, .mv (.t 42), none⟩,
  .one ⟨some 43, .ext (.t 41) 0, none⟩,
  .one ⟨some 44, .ext (.t 41) 1, none⟩,
  .one ⟨some 12, .mv (.t 43), none⟩,
  .one ⟨some 13, .mv (.t 44), none⟩]
def c22k2 : ICode := .kill (dead 102 [1, 2, 3, 4, 5, 6, 7, 8, 9, 10, 11]) (.ops c22r2)
def c22s3 : ICode := (.seq c22k2 c22s1)
def c22r4 : List Seg := [
  .one ⟨some 38, .call (.c (.func 18 [])) [(.c (.int .i64 2)), (.c (.int .i64 100))], none⟩,
  .one ⟨some 37, .mv (.t 38), none⟩,
  .one ⟨some 39, .ext (.t 37) 0, none⟩,
  .one ⟨some 40, .ext (.t 37) 1, none⟩,
  .one ⟨some 10, .mv (.t 39), none⟩,
  .one ⟨some 11, .mv (.t 40), none⟩]
def c22k4 : ICode := .kill (dead 102 [1, 2, 3, 4, 5, 6, 7, 8, 9]) (.ops c22r4)
def c22s5 : ICode := (.seq c22k4 c22s3)
def c22r6 : List Seg := [
  .one ⟨some 34, .call (.c (.func 16 [])) [(.c (.int .i64 2)), (.c (.int .i64 4))], none⟩,
  .one ⟨some 33, .mv (.t 34), none⟩,
  .one ⟨some 35, .ext (.t 33) 0, none⟩,
  .one ⟨some 36, .ext (.t 33) 1, none⟩,
  .one ⟨some 8, .mv (.t 35), none⟩,
  .one ⟨some 9, .mv (.t 36), none⟩]
def c22k6 : ICode := .kill (dead 102 [1, 2, 3, 4, 5, 6, 7]) (.ops c22r6)
def c22s7 : ICode := (.seq c22k6 c22s5)
def c22r8 : List Seg := [
  .one ⟨some 27, .mkagg [.int .i64 0, .int .i64 0] [(0, 1, (.c (.int .i64 0))), (1, 1, (.c (.int .i64 1)))], none⟩,
  .one ⟨some 28, .mkagg [.int .i64 0, .int .i64 0] [(0, 1, (.c (.int .i64 1))), (1, 1, (.c (.int .i64 2)))], none⟩,
  .one ⟨some 29, .mkslice 2 [.int .i64 0, .int .i64 0, .int .i64 0, .int .i64 0] [(0, 2, (.t 27)), (2, 2, (.t 28))], none⟩,
  .one ⟨some 30, .call (.c (.func 48 [])) [(.c (.int .i64 3)), (.t 29)], none⟩,
  .one ⟨some 26, .mv (.t 30), none⟩,
  .one ⟨some 31, .ext (.t 26) 0, none⟩,
  .one ⟨some 32, .ext (.t 26) 1, none⟩,
  .one ⟨some 6, .mv (.t 31), none⟩,
  .one ⟨some 7, .mv (.t 32), none⟩]
def c22k8 : ICode := .kill (dead 102 [1, 2, 3, 4, 5]) (.ops c22r8)
def c22s9 : ICode := (.seq c22k8 c22s7)
def c22r10 : List Seg := [
  .one ⟨some 21, .mkslice 2 [.int .i64 0, .int .i64 0] [(0, 1, (.c (.int .i64 5))), (1, 1, (.c (.int .i64 1)))], none⟩,
  .one ⟨some 22, .mkslice 2 [.int .i64 0, .int .i64 0] [(0, 1, (.c (.int .i64 1))), (1, 1, (.c (.int .i64 0)))], none⟩,
  .one ⟨some 23, .call (.c (.func 29 [])) [(.t 21), (.t 22)], none⟩,
  .one ⟨some 20, .mv (.t 23), none⟩,
  .one ⟨some 24, .ext (.t 20) 0, none⟩,
  .one ⟨some 25, .ext (.t 20) 1, none⟩,
  .one ⟨some 4, .mv (.t 24), none⟩,
  .one ⟨some 5, .mv (.t 25), none⟩]
def c22k10 : ICode := .kill (dead 102 [1, 2, 3]) (.ops c22r10)
def c22s11 : ICode := (.seq c22k10 c22s9)
def c22r12 : List Seg := [
  .one ⟨some 15, .mkslice 2 [.int .i64 0, .int .i64 0] [(0, 1, (.c (.int .i64 5))), (1, 1, (.c (.int .i64 1)))], none⟩,
  .one ⟨some 16, .call (.c (.func 28 [])) [(.t 15)], none⟩,
  .one ⟨some 14, .mv (.t 16), none⟩,
  .one ⟨some 17, .ext (.t 14) 0, none⟩,
  .one ⟨some 18, .ext (.t 14) 1, none⟩,
  .one ⟨some 19, .ext (.t 14) 2, none⟩,
  .one ⟨some 1, .mv (.t 17), none⟩,
  .one ⟨some 2, .mv (.t 18), none⟩,
  .one ⟨some 3, .mv (.t 19), none⟩]
def c22k12 : ICode := .kill (dead 102 []) (.ops c22r12)
def c22s13 : ICode := (.seq c22k12 c22s11)
def c22r14 : List Seg := [
  .one ⟨some 0, .mv (.c (.bool false)), none⟩]
def c22k14 : ICode := .kill (dead 102 []) (.ops c22r14)
def c22b : ICode := (.seq c22k14 c22s13)
def c22 : IFn := ⟨102, [.t 0], c22b⟩
def h22 : List (Nat × List Nat) := [(0, dead 102 []), (1, dead 102 []), (2, dead 102 [1, 2, 3]), (3, dead 102 [1, 2, 3, 4, 5]), (4, dead 102 [1, 2, 3, 4, 5, 6, 7]), (5, dead 102 [1, 2, 3, 4, 5, 6, 7, 8, 9]), (6, dead 102 [1, 2, 3, 4, 5, 6, 7, 8, 9, 10, 11]), (7, dead 102 [1, 2, 3, 4, 5, 6, 7, 8, 9, 10, 11, 12, 13])]
/-! tosher/search.CountPlans -/
def c23r0 : List Seg := [
  .one ⟨some 24, .mv (.t 4), none⟩,
  .one ⟨some 2, .mv (.t 24), none⟩,
  .one ⟨some 3, .mv (.c (.int .i64 0)), none⟩]
def c23k0 : ICode := .kill (dead 25 [4]) (.ops c23r0)
def c23s1 : ICode := (.seq c23k0 .ret)
def c23r3 : List Seg := [
  .one ⟨some 23, .bin .add (.t 11) (.c (.int .i64 1)), none⟩,
  .one ⟨some 11, .mv (.t 23), none⟩]
def c23k3 : ICode := .kill (dead 25 [4, 10, 11]) (.ops c23r3)
def c23r4 : List Seg := [
  .one ⟨some 14, .mv (.t 4), none⟩,
  .one ⟨some 15, .bin .mul (.t 14) (.c (.int .i64 2)), none⟩,
  .one ⟨some 16, .mv (.t 5), none⟩,
  .one ⟨some 17, .bin .mul (.c (.int .i64 2)) (.t 16), none⟩,
  .one ⟨some 18, .bin .add (.t 17) (.c (.int .i64 1)), none⟩,
  .one ⟨some 19, .bin .mul (.t 15) (.t 18), none⟩,
  .one ⟨some 20, .mv (.t 5), none⟩,
  .one ⟨some 21, .bin .add (.t 20) (.c (.int .i64 2)), none⟩,
  .one ⟨some 22, .bin .quo (.t 19) (.t 21), none⟩,
  .one ⟨some 4, .mv (.t 22), none⟩]
def c23k4 : ICode := .kill (dead 25 [4, 5, 10, 11]) (.ops c23r4)
def c23r5 : List Seg := [
  .one ⟨some 13, .mv (.t 11), none⟩,
  .one ⟨some 5, .mv (.t 13), none⟩]
def c23k5 : ICode := .kill (dead 25 [4, 10, 11]) (.ops c23r5)
def c23s6 : ICode := (.seq (.block 1 (.seq c23k5 c23k4)) c23k3)
def c23s7 : ICode := (.seq (.cond (.t 12) .skip (.exit 0)) c23s6)
def c23r8 : List Seg := [
  .one ⟨some 12, .bin .lss (.t 11) (.t 10), none⟩]
def c23k8 : ICode := .kill (dead 25 [4, 10, 11]) (.ops c23r8)
def c23l2 : ICode := (.seq c23k8 c23s7)
def c23s9 : ICode := (.block 0 (.loop c23l2))
def c23r10 : List Seg := [
  .one ⟨some 10, .mv (.t 0), none⟩,
  .one ⟨some 11, .mv (.c (.int .i64 0)), none⟩]
def c23k10 : ICode := .kill (dead 25 [0, 4]) (.ops c23r10)
def c23s11 : ICode := (.seq (.seq c23k10 c23s9) c23s1)
def c23r12 : List Seg := [
  .one ⟨some 4, .mv (.c (.int .i64 1)), none⟩]
def c23k12 : ICode := .kill (dead 25 [0]) (.ops c23r12)
def c23s13 : ICode := (.seq c23k12 c23s11)
def c23r14 : List Seg := [
  .one ⟨some 2, .mv (.c (.int .i64 0)), none⟩,
  .one ⟨some 3, .mv (.c (.int .i64 1)), none⟩]
def c23k14 : ICode := .kill (dead 25 []) (.ops c23r14)
def c23s15 : ICode := (.cond (.t 9) (.seq c23k14 .ret) .skip)
def c23r16 : List Seg := [
  .one ⟨some 6, .mv (.t 0), none⟩,
  .one ⟨some 7, .mkslice 1 [.int .i64 0] [(0, 1, (.t 6))], none⟩,
  .one ⟨some 8, .call (.c (.func 55 [])) [(.c (.int .i64 0)), (.c (.int .i64 30)), (.t 7)], none⟩,
  .one ⟨some 9, .un .not (.t 8), none⟩]
def c23k16 : ICode := .kill (dead 25 [0]) (.ops c23r16)
def c23s17 : ICode := (.seq (.seq c23k16 c23s15) c23s13)
def c23r18 : List Seg := [
  .one ⟨some 2, .mv (.c (.int .i64 0)), none⟩,
  .one ⟨some 3, .mv (.c (.int .i64 0)), none⟩]
def c23k18 : ICode := .kill (dead 25 [0]) (.ops c23r18)
def c23b : ICode := (.seq c23k18 c23s17)
def c23 : IFn := ⟨25, [.t 2, .t 3], c23b⟩
def h23 : List (Nat × List Nat) := [(0, dead 25 [0]), (1, dead 25 [0]), (2, dead 25 []), (3, dead 25 [0]), (4, dead 25 [0, 4]), (5, dead 25 [4, 10, 11]), (6, dead 25 [4, 10, 11]), (7, dead 25 [4, 5, 10, 11]), (8, dead 25 [4, 10, 11]), (9, dead 25 [4])]
/-! tosher/tosherref08.CountPlans -/
def c24r0 : List Seg := [
  .one ⟨some 36, .mv (.t 3), none⟩,
  .one ⟨some 37, .mv (.t 0), none⟩,
  .one ⟨some 38, .idxS 1 (.t 36) (.t 37), none⟩,
  .one ⟨some 39, .load1 (.t 38), none⟩,
  .one ⟨some 2, .mv (.t 39), none⟩]
def c24k0 : ICode := .kill (dead 40 [0, 3]) (.ops c24r0)
def c24s1 : ICode := (.seq c24k0 .ret)
def c24r3 : List Seg := [
  .one ⟨some 11, .mv (.t 4), none⟩,
  .one ⟨some 12, .bin .add (.t 11) (.c (.int .i64 1)), none⟩,
  .one ⟨some 4, .mv (.t 12), none⟩]
def c24k3 : ICode := .kill (dead 40 [0, 3, 4]) (.ops c24r3)
def c24r4 : List Seg := [
  .one ⟨some 32, .mv (.t 3), none⟩,
  .one ⟨some 33, .mv (.t 5), none⟩,
  .one ⟨some 34, .mkslice 1 [.int .i64 0] [(0, 1, (.t 33))], none⟩,
  .one ⟨some 35, .app 1 8 (.t 32) (.t 34), none⟩,
  .one ⟨some 3, .mv (.t 35), none⟩]
def c24k4 : ICode := .kill (dead 40 [0, 3, 4, 5]) (.ops c24r4)
def c24r6 : List Seg := [
  .one ⟨some 16, .mv (.t 6), none⟩,
  .one ⟨some 17, .bin .add (.t 16) (.c (.int .i64 1)), none⟩,
  .one ⟨some 6, .mv (.t 17), none⟩]
def c24k6 : ICode := .kill (dead 40 [0, 3, 4, 5, 6]) (.ops c24r6)
def c24r7 : List Seg := [
  .grp [(⟨some 18, .mv (.t 5), none⟩, 0), (⟨some 19, .mv (.t 3), none⟩, 0), (⟨some 20, .mv (.t 6), none⟩, 0), (⟨some 21, .idxS 1 (.t 19) (.t 20), none⟩, 6), (⟨some 22, .load1 (.t 21), none⟩, 14), (⟨some 23, .mv (.t 3), none⟩, 0), (⟨some 24, .mv (.t 4), none⟩, 0), (⟨some 25, .bin .sub (.t 24) (.c (.int .i64 1)), none⟩, 64), (⟨some 26, .mv (.t 6), none⟩, 0), (⟨some 27, .bin .sub (.t 25) (.t 26), none⟩, 448), (⟨some 28, .idxS 1 (.t 23) (.t 27), none⟩, 992), (⟨some 29, .load1 (.t 28), none⟩, 2016), (⟨some 30, .bin .mul (.t 22) (.t 29), none⟩, 4094)],
  .one ⟨some 31, .bin .add (.t 18) (.t 30), none⟩,
  .one ⟨some 5, .mv (.t 31), none⟩]
def c24k7 : ICode := .kill (dead 40 [0, 3, 4, 5, 6]) (.ops c24r7)
def c24s8 : ICode := (.seq (.block 3 c24k7) c24k6)
def c24s9 : ICode := (.cond (.t 15) .skip (.exit 2))
def c24r10 : List Seg := [
  .one ⟨some 13, .mv (.t 6), none⟩,
  .one ⟨some 14, .mv (.t 4), none⟩,
  .one ⟨some 15, .bin .lss (.t 13) (.t 14), none⟩]
def c24k10 : ICode := .kill (dead 40 [0, 3, 4, 5, 6]) (.ops c24r10)
def c24l5 : ICode := (.seq (.seq c24k10 c24s9) c24s8)
def c24s11 : ICode := (.block 2 (.loop c24l5))
def c24r12 : List Seg := [
  .one ⟨some 6, .mv (.c (.int .i64 0)), none⟩]
def c24k12 : ICode := .kill (dead 40 [0, 3, 4, 5]) (.ops c24r12)
def c24s13 : ICode := (.seq (.seq c24k12 c24s11) c24k4)
def c24r14 : List Seg := [
  .one ⟨some 5, .mv (.c (.int .i64 0)), none⟩]
def c24k14 : ICode := .kill (dead 40 [0, 3, 4]) (.ops c24r14)
def c24s15 : ICode := (.seq (.block 1 (.seq c24k14 c24s13)) c24k3)
def c24s16 : ICode := (.cond (.t 10) .skip (.exit 0))
def c24r17 : List Seg := [
  .one ⟨some 8, .mv (.t 4), none⟩,
  .one ⟨some 9, .mv (.t 0), none⟩,
  .one ⟨some 10, .bin .leq (.t 8) (.t 9), none⟩]
def c24k17 : ICode := .kill (dead 40 [0, 3, 4]) (.ops c24r17)
def c24l2 : ICode := (.seq (.seq c24k17 c24s16) c24s15)
def c24s18 : ICode := (.block 0 (.loop c24l2))
def c24r19 : List Seg := [
  .one ⟨some 4, .mv (.c (.int .i64 1)), none⟩]
def c24k19 : ICode := .kill (dead 40 [0, 3]) (.ops c24r19)
def c24s20 : ICode := (.seq (.seq c24k19 c24s18) c24s1)
def c24r21 : List Seg := [
  .one ⟨some 7, .mkslice 1 [.int .i64 0] [(0, 1, (.c (.int .i64 1)))], none⟩,
  .one ⟨some 3, .mv (.t 7), none⟩]
def c24k21 : ICode := .kill (dead 40 [0]) (.ops c24r21)
def c24s22 : ICode := (.seq c24k21 c24s20)
def c24r23 : List Seg := [
  .one ⟨some 2, .mv (.c (.int .i64 0)), none⟩]
def c24k23 : ICode := .kill (dead 40 [0]) (.ops c24r23)
def c24b : ICode := (.seq c24k23 c24s22)
def c24 : IFn := ⟨40, [.t 2], c24b⟩
def h24 : List (Nat × List Nat) := [(0, dead 40 [0]), (1, dead 40 [0]), (2, dead 40 [0, 3]), (3, dead 40 [0, 3, 4]), (5, dead 40 [0, 3, 4]), (6, dead 40 [0, 3, 4, 5]), (7, dead 40 [0, 3, 4, 5, 6]), (9, dead 40 [0, 3, 4, 5, 6]), (8, dead 40 [0, 3, 4, 5, 6]), (10, dead 40 [0, 3, 4, 5]), (4, dead 40 [0, 3, 4]), (11, dead 40 [0, 3])]
/-! tosher/tosherlaw08.costs -/
def c25r0 : List Seg := [
  .one ⟨some 26, .mv (.t 3), none⟩,
  .one ⟨some 2, .mv (.t 26), none⟩]
def c25k0 : ICode := .kill (dead 27 [3]) (.ops c25r0)
def c25s1 : ICode := (.seq c25k0 .ret)
def c25r3 : List Seg := [
  .one ⟨some 13, .mv (.t 4), none⟩,
  .one ⟨some 14, .bin .add (.t 13) (.c (.int .i64 1)), none⟩,
  .one ⟨some 4, .mv (.t 14), none⟩]
def c25k3 : ICode := .kill (dead 27 [0, 3, 4]) (.ops c25r3)
def c25r4 : List Seg := [
  .one ⟨some 15, .mv (.t 3), none⟩,
  .one ⟨some 16, .mv (.t 0), none⟩,
  .one ⟨some 17, .mv (.t 4), none⟩,
  .one ⟨some 18, .idxS 1 (.t 16) (.t 17), none⟩,
  .one ⟨some 19, .load1 (.t 18), none⟩,
  .one ⟨some 20, .conv .u64 (.t 19), none⟩,
  .one ⟨some 21, .bin .rem (.t 20) (.c (.int .u64 1000)), none⟩,
  .one ⟨some 22, .conv .i64 (.t 21), none⟩,
  .one ⟨some 23, .bin .add (.c (.int .i64 1)) (.t 22), none⟩,
  .one ⟨some 24, .mkslice 1 [.int .i64 0] [(0, 1, (.t 23))], none⟩,
  .one ⟨some 25, .app 1 8 (.t 15) (.t 24), none⟩,
  .one ⟨some 3, .mv (.t 25), none⟩]
def c25k4 : ICode := .kill (dead 27 [0, 3, 4]) (.ops c25r4)
def c25s5 : ICode := (.seq (.block 1 c25k4) c25k3)
def c25s6 : ICode := (.cond (.t 12) .skip (.exit 0))
def c25r7 : List Seg := [
  .one ⟨some 5, .mv (.t 4), none⟩,
  .one ⟨some 6, .mv (.t 0), none⟩,
  .one ⟨some 7, .len 0 (.t 6), none⟩,
  .one ⟨some 8, .bin .lss (.t 5) (.t 7), none⟩,
  .one ⟨some 9, .mv (.t 8), none⟩,
  .one ⟨some 10, .mv (.t 4), some (9, true)⟩,
  .one ⟨some 11, .bin .lss (.t 10) (.c (.int .i64 12)), some (9, true)⟩,
  .one ⟨some 12, .pick (.t 9) (.t 11) (.c (.bool false)), none⟩]
def c25k7 : ICode := .kill (dead 27 [0, 3, 4]) (.ops c25r7)
def c25l2 : ICode := (.seq (.seq c25k7 c25s6) c25s5)
def c25s8 : ICode := (.block 0 (.loop c25l2))
def c25r9 : List Seg := [
  .one ⟨some 4, .mv (.c (.int .i64 0)), none⟩]
def c25k9 : ICode := .kill (dead 27 [0, 3]) (.ops c25r9)
def c25s10 : ICode := (.seq (.seq c25k9 c25s8) c25s1)
def c25r11 : List Seg := [
  .one ⟨some 3, .mv (.c .nilslice), none⟩]
def c25k11 : ICode := .kill (dead 27 [0]) (.ops c25r11)
def c25s12 : ICode := (.seq c25k11 c25s10)
def c25r13 : List Seg := [
  .one ⟨some 2, .mv (.c .nilslice), none⟩]
def c25k13 : ICode := .kill (dead 27 [0]) (.ops c25r13)
def c25b : ICode := (.seq c25k13 c25s12)
def c25 : IFn := ⟨27, [.t 2], c25b⟩
def h25 : List (Nat × List Nat) := [(0, dead 27 [0]), (1, dead 27 [0]), (2, dead 27 [0, 3]), (3, dead 27 [0, 3, 4]), (5, dead 27 [0, 3, 4]), (4, dead 27 [0, 3, 4]), (6, dead 27 [3])]
/-! tosher/tosherlaw08.few -/
def c26r0 : List Seg := [
  .one ⟨some 6, .mv (.t 5), none⟩,
  .one ⟨some 7, .mv (.t 0), none⟩,
  .one ⟨some 8, .mv (.t 0), none⟩,
  .one ⟨some 9, .len 0 (.t 8), none⟩,
  .one ⟨some 10, .mv (.t 1), none⟩,
  .one ⟨some 11, .mn [(.t 9), (.t 10)], none⟩,
  .one ⟨some 12, .sliceS 1 (.t 7) none (some (.t 11)) none, none⟩,
  .one ⟨some 13, .app 1 8 (.t 6) (.t 12), none⟩,
  .one ⟨some 4, .mv (.t 13), none⟩]
def c26k0 : ICode := .kill (dead 14 [0, 1, 5]) (.ops c26r0)
def c26s1 : ICode := (.seq c26k0 .ret)
def c26r2 : List Seg := [
  .one ⟨some 5, .mv (.c .nilslice), none⟩]
def c26k2 : ICode := .kill (dead 14 [0, 1]) (.ops c26r2)
def c26s3 : ICode := (.seq c26k2 c26s1)
def c26r4 : List Seg := [
  .one ⟨some 4, .mv (.c .nilslice), none⟩]
def c26k4 : ICode := .kill (dead 14 [0, 1]) (.ops c26r4)
def c26b : ICode := (.seq c26k4 c26s3)
def c26 : IFn := ⟨14, [.t 4], c26b⟩
def h26 : List (Nat × List Nat) := [(0, dead 14 [0, 1]), (1, dead 14 [0, 1]), (2, dead 14 [0, 1, 5])]
/-! tosher/tosherlaw08.plan -/
def c27r0 : List Seg := [
  .one ⟨some 41, .mv (.t 8), none⟩,
  .one ⟨some 42, .mv (.t 0), none⟩,
  .one ⟨some 43, .mv (.t 7), none⟩,
  .one ⟨some 44, .bin .add (.t 43) (.c (.int .i64 1)), none⟩,
  .one ⟨some 45, .mv (.t 2), none⟩,
  .one ⟨some 46, .call (.c (.func 27 [])) [(.t 42), (.t 44), (.t 45)], none⟩,
  .one ⟨some 47, .app 1 8 (.t 41) (.t 46), none⟩,
  .one ⟨some 6, .mv (.t 47), none⟩]
def c27k0 : ICode := .kill (dead 48 [0, 2, 7, 8]) (.ops c27r0)
def c27s1 : ICode := (.seq c27k0 .ret)
def c27r2 : List Seg := [
  .one ⟨some 34, .mv (.t 7), none⟩,
  .one ⟨some 35, .mkslice 1 [.int .i64 0] [(0, 1, (.t 34))], none⟩,
  .one ⟨some 36, .mv (.t 0), none⟩,
  .one ⟨some 37, .mv (.t 1), none⟩,
  .one ⟨some 38, .mv (.t 7), none⟩,
  .one ⟨some 39, .call (.c (.func 27 [])) [(.t 36), (.t 37), (.t 38)], none⟩,
  .one ⟨some 40, .app 1 8 (.t 35) (.t 39), none⟩,
  .one ⟨some 8, .mv (.t 40), none⟩]
def c27k2 : ICode := .kill (dead 48 [0, 1, 2, 7]) (.ops c27r2)
def c27s3 : ICode := (.seq c27k2 c27s1)
def c27r4 : List Seg := [
  .one ⟨some 16, .mv (.t 1), none⟩,
  .one ⟨some 17, .mv (.t 0), none⟩,
  .one ⟨some 18, .mv (.t 1), none⟩,
  .one ⟨some 19, .mv (.t 2), none⟩,
  .one ⟨some 20, .bin .add (.t 18) (.t 19), none⟩,
  .one ⟨some 21, .mv (.t 0), none⟩,
  .one ⟨some 22, .len 0 (.t 21), none⟩,
  .one ⟨some 23, .bin .rem (.t 20) (.t 22), none⟩,
  .one ⟨some 24, .idxS 1 (.t 17) (.t 23), none⟩,
  .one ⟨some 25, .load1 (.t 24), none⟩,
  .one ⟨some 26, .conv .u64 (.t 25), none⟩,
  .one ⟨some 27, .mv (.t 2), none⟩,
  .one ⟨some 28, .mv (.t 1), none⟩,
  .one ⟨some 29, .bin .sub (.t 27) (.t 28), none⟩,
  .one ⟨some 30, .conv .u64 (.t 29), none⟩,
  .one ⟨some 31, .bin .rem (.t 26) (.t 30), none⟩,
  .one ⟨some 32, .conv .i64 (.t 31), none⟩,
  .one ⟨some 33, .bin .add (.t 16) (.t 32), none⟩,
  .one ⟨some 7, .mv (.t 33), none⟩]
def c27k4 : ICode := .kill (dead 48 [0, 1, 2]) (.ops c27r4)
def c27s5 : ICode := (.cond (.t 15) c27k4 .skip)
def c27r6 : List Seg := [
  .one ⟨some 13, .mv (.t 0), none⟩,
  .one ⟨some 14, .len 0 (.t 13), none⟩,
  .one ⟨some 15, .bin .gtr (.t 14) (.c (.int .i64 0)), none⟩]
def c27k6 : ICode := .kill (dead 48 [0, 1, 2, 7]) (.ops c27r6)
def c27s7 : ICode := (.seq (.seq c27k6 c27s5) c27s3)
def c27r8 : List Seg := [
  .one ⟨some 12, .mv (.t 1), none⟩,
  .one ⟨some 7, .mv (.t 12), none⟩]
def c27k8 : ICode := .kill (dead 48 [0, 1, 2]) (.ops c27r8)
def c27s9 : ICode := (.seq c27k8 c27s7)
def c27r10 : List Seg := [
  .one ⟨some 6, .mv (.c .nilslice), none⟩]
def c27k10 : ICode := .kill (dead 48 []) (.ops c27r10)
def c27s11 : ICode := (.cond (.t 11) (.seq c27k10 .ret) .skip)
def c27r12 : List Seg := [
  .one ⟨some 9, .mv (.t 1), none⟩,
  .one ⟨some 10, .mv (.t 2), none⟩,
  .one ⟨some 11, .bin .eql (.t 9) (.t 10), none⟩]
def c27k12 : ICode := .kill (dead 48 [0, 1, 2]) (.ops c27r12)
def c27s13 : ICode := (.seq (.seq c27k12 c27s11) c27s9)
def c27r14 : List Seg := [
  .one ⟨some 6, .mv (.c .nilslice), none⟩]
def c27k14 : ICode := .kill (dead 48 [0, 1, 2]) (.ops c27r14)
def c27b : ICode := (.seq c27k14 c27s13)
def c27 : IFn := ⟨48, [.t 6], c27b⟩
def h27 : List (Nat × List Nat) := [(0, dead 48 [0, 1, 2]), (1, dead 48 [0, 1, 2]), (2, dead 48 []), (3, dead 48 [0, 1, 2]), (4, dead 48 [0, 1, 2, 7]), (5, dead 48 [0, 1, 2]), (6, dead 48 [0, 1, 2, 7]), (7, dead 48 [0, 2, 7, 8])]
/-! tosher/search.Worst -/
def c28r0 : List Seg := [
  .grp [(⟨some 16, .mv (.t 6), none⟩, 0), (⟨some 17, .load1 (.t 1), none⟩, 0), (⟨some 18, .len 0 (.t 17), none⟩, 2), (⟨some 19, .nilck (.t 16), none⟩, 1), (⟨some 20, .fieldA 0 (.t 19), none⟩, 9), (⟨some 21, .idxA 13 13 (.t 20) (.c (.int .i64 0)), none⟩, 25), (⟨some 22, .idxA 13 1 (.t 21) (.t 18), none⟩, 63), (⟨some 23, .load1 (.t 22), none⟩, 127), (⟨some 24, .mv (.t 6), none⟩, 0), (⟨some 25, .load1 (.t 1), none⟩, 0), (⟨some 26, .call (.c (.func 60 [])) [(.t 25)], none⟩, 512), (⟨some 27, .call (.c (.func 59 [])) [(.t 24), (.t 26)], none⟩, 1792)],
  .one ⟨some 2, .mv (.t 23), none⟩,
  .one ⟨some 3, .mv (.t 27), none⟩,
  .one ⟨some 4, .mv (.c (.int .i64 0)), none⟩]
def c28k0 : ICode := .kill (dead 28 [1, 6]) (.ops c28r0)
def c28s1 : ICode := (.seq c28k0 .ret)
def c28r2 : List Seg := [
  .one ⟨some 12, .load1 (.t 1), none⟩,
  .one ⟨some 13, .len 0 (.t 12), none⟩,
  .one ⟨some 14, .mkfn 58 [(.t 1)], none⟩,
  .one ⟨some 15, .call (.c (.func 57 [])) [(.t 13), (.t 14)], none⟩,
  .one ⟨some 6, .mv (.t 15), none⟩]
def c28k2 : ICode := .kill (dead 28 [1]) (.ops c28r2)
def c28s3 : ICode := (.seq c28k2 c28s1)
def c28r4 : List Seg := [
  .one ⟨some 11, .mv (.t 5), none⟩,
  .one ⟨some 2, .mv (.c (.int .i64 0)), none⟩,
  .one ⟨some 3, .mv (.c .nilslice), none⟩,
  .one ⟨some 4, .mv (.t 11), none⟩]
def c28k4 : ICode := .kill (dead 28 [5]) (.ops c28r4)
def c28s5 : ICode := (.cond (.t 10) (.seq c28k4 .ret) .skip)
def c28r6 : List Seg := [
  .one ⟨some 9, .mv (.t 5), none⟩,
  .one ⟨some 10, .bin .neq (.t 9) (.c (.int .i64 0)), none⟩]
def c28k6 : ICode := .kill (dead 28 [1, 5]) (.ops c28r6)
def c28s7 : ICode := (.seq c28k6 c28s5)
def c28r8 : List Seg := [
  .one ⟨some 7, .load1 (.t 1), none⟩,
  .one ⟨some 8, .call (.c (.func 46 [])) [(.t 7)], none⟩,
  .one ⟨some 5, .mv (.t 8), none⟩]
def c28k8 : ICode := .kill (dead 28 [1]) (.ops c28r8)
def c28s9 : ICode := (.seq (.seq c28k8 c28s7) c28s3)
def c28r10 : List Seg := [
  .one ⟨some 1, .box (.t 0), none⟩,
  .one ⟨some 2, .mv (.c (.int .i64 0)), none⟩,
  .one ⟨some 3, .mv (.c .nilslice), none⟩,
  .one ⟨some 4, .mv (.c (.int .i64 0)), none⟩]
def c28k10 : ICode := .kill (dead 28 [0]) (.ops c28r10)
def c28b : ICode := (.seq c28k10 c28s9)
def c28 : IFn := ⟨28, [.t 2, .t 3, .t 4], c28b⟩
def h28 : List (Nat × List Nat) := [(0, dead 28 [0]), (1, dead 28 [1]), (2, dead 28 [1, 5]), (3, dead 28 [5]), (4, dead 28 [1]), (5, dead 28 [1, 6])]
/-! tosher/search.Prices -/
def c29r0 : List Seg := [
  .one ⟨some 18, .mv (.t 7), none⟩,
  .one ⟨some 4, .mv (.t 18), none⟩,
  .one ⟨some 5, .mv (.c (.int .i64 0)), none⟩]
def c29k0 : ICode := .kill (dead 19 [7]) (.ops c29r0)
def c29s1 : ICode := (.seq c29k0 .ret)
def c29r2 : List Seg := [
  .one ⟨some 4, .mv (.c .nilslice), none⟩,
  .one ⟨some 5, .mv (.c (.int .i64 1)), none⟩]
def c29k2 : ICode := .kill (dead 19 []) (.ops c29r2)
def c29s3 : ICode := (.cond (.t 17) (.seq c29k2 .ret) .skip)
def c29r4 : List Seg := [
  .one ⟨some 16, .mv (.t 7), none⟩,
  .one ⟨some 17, .eqv false .slice (.t 16) (.c .nilslice), none⟩]
def c29k4 : ICode := .kill (dead 19 [7]) (.ops c29r4)
def c29s5 : ICode := (.seq (.seq c29k4 c29s3) c29s1)
def c29r6 : List Seg := [
  .one ⟨some 13, .mv (.t 0), none⟩,
  .one ⟨some 14, .mv (.t 1), none⟩,
  .one ⟨some 15, .call (.c (.func 61 [])) [(.t 13), (.t 14)], none⟩,
  .one ⟨some 7, .mv (.t 15), none⟩]
def c29k6 : ICode := .kill (dead 19 [0, 1]) (.ops c29r6)
def c29s7 : ICode := (.seq c29k6 c29s5)
def c29r8 : List Seg := [
  .one ⟨some 12, .mv (.t 6), none⟩,
  .one ⟨some 4, .mv (.c .nilslice), none⟩,
  .one ⟨some 5, .mv (.t 12), none⟩]
def c29k8 : ICode := .kill (dead 19 [6]) (.ops c29r8)
def c29s9 : ICode := (.cond (.t 11) (.seq c29k8 .ret) .skip)
def c29r10 : List Seg := [
  .one ⟨some 10, .mv (.t 6), none⟩,
  .one ⟨some 11, .bin .neq (.t 10) (.c (.int .i64 0)), none⟩]
def c29k10 : ICode := .kill (dead 19 [0, 1, 6]) (.ops c29r10)
def c29s11 : ICode := (.seq c29k10 c29s9)
def c29r12 : List Seg := [
  .one ⟨some 8, .mv (.t 0), none⟩,
  .one ⟨some 9, .call (.c (.func 46 [])) [(.t 8)], none⟩,
  .one ⟨some 6, .mv (.t 9), none⟩]
def c29k12 : ICode := .kill (dead 19 [0, 1]) (.ops c29r12)
def c29s13 : ICode := (.seq (.seq c29k12 c29s11) c29s7)
def c29r14 : List Seg := [
  .one ⟨some 4, .mv (.c .nilslice), none⟩,
  .one ⟨some 5, .mv (.c (.int .i64 0)), none⟩]
def c29k14 : ICode := .kill (dead 19 [0, 1]) (.ops c29r14)
def c29b : ICode := (.seq c29k14 c29s13)
def c29 : IFn := ⟨19, [.t 4, .t 5], c29b⟩
def h29 : List (Nat × List Nat) := [(0, dead 19 [0, 1]), (1, dead 19 [0, 1]), (2, dead 19 [0, 1, 6]), (3, dead 19 [6]), (4, dead 19 [0, 1]), (5, dead 19 [7]), (6, dead 19 []), (7, dead 19 [7])]
/-! tosher/search.Answer -/
def c30r0 : List Seg := [
  .one ⟨some 33, .load1 (.t 9), none⟩,
  .one ⟨some 6, .mv (.t 33), none⟩,
  .one ⟨some 7, .mv (.c (.int .i64 0)), none⟩]
def c30k0 : ICode := .kill (dead 34 [9]) (.ops c30r0)
def c30s1 : ICode := (.seq c30k0 .ret)
def c30r2 : List Seg := [
  .one ⟨some 6, .mv (.c .nilslice), none⟩,
  .one ⟨some 7, .mv (.c (.int .i64 1)), none⟩]
def c30k2 : ICode := .kill (dead 34 []) (.ops c30r2)
def c30s3 : ICode := (.cond (.t 32) (.seq c30k2 .ret) .skip)
def c30r4 : List Seg := [
  .one ⟨some 21, .mv (.t 10), none⟩,
  .one ⟨some 22, .un .not (.t 21), none⟩,
  .one ⟨some 23, .mv (.t 22), none⟩,
  .one ⟨some 24, .load1 (.t 5), some (23, false)⟩,
  .one ⟨some 25, .bin .lss (.t 24) (.c (.int .i64 0)), some (23, false)⟩,
  .one ⟨some 26, .pick (.t 23) (.c (.bool true)) (.t 25), none⟩,
  .one ⟨some 27, .mv (.t 26), none⟩,
  .one ⟨some 28, .load1 (.t 5), some (27, false)⟩,
  .one ⟨some 29, .mv (.t 0), some (27, false)⟩,
  .one ⟨some 30, .len 0 (.t 29), some (27, false)⟩,
  .one ⟨some 31, .bin .gtr (.t 28) (.t 30), some (27, false)⟩,
  .one ⟨some 32, .pick (.t 27) (.c (.bool true)) (.t 31), none⟩]
def c30k4 : ICode := .kill (dead 34 [0, 5, 9, 10]) (.ops c30r4)
def c30s5 : ICode := (.seq (.seq c30k4 c30s3) c30s1)
def c30r6 : List Seg := [
  .one ⟨some 16, .mv (.t 1), none⟩,
  .one ⟨some 17, .mv (.t 0), none⟩,
  .one ⟨some 18, .call (.c (.func 60 [])) [(.t 17)], none⟩,
  .one ⟨some 19, .mkfn 63 [(.t 5), (.t 9)], none⟩,
  .one ⟨some 20, .call (.c (.func 62 [])) [(.t 16), (.t 18), (.t 19)], none⟩,
  .one ⟨some 10, .mv (.t 20), none⟩]
def c30k6 : ICode := .kill (dead 34 [0, 1, 5, 9]) (.ops c30r6)
def c30s7 : ICode := (.seq c30k6 c30s5)
def c30r8 : List Seg := [
  .one ⟨some 9, .box (.c .nilslice), none⟩]
def c30k8 : ICode := .kill (dead 34 [0, 1, 5]) (.ops c30r8)
def c30s9 : ICode := (.seq c30k8 c30s7)
def c30r10 : List Seg := [
  .one ⟨some 15, .mv (.t 8), none⟩,
  .one ⟨some 6, .mv (.c .nilslice), none⟩,
  .one ⟨some 7, .mv (.t 15), none⟩]
def c30k10 : ICode := .kill (dead 34 [8]) (.ops c30r10)
def c30s11 : ICode := (.cond (.t 14) (.seq c30k10 .ret) .skip)
def c30r12 : List Seg := [
  .one ⟨some 13, .mv (.t 8), none⟩,
  .one ⟨some 14, .bin .neq (.t 13) (.c (.int .i64 0)), none⟩]
def c30k12 : ICode := .kill (dead 34 [0, 1, 5, 8]) (.ops c30r12)
def c30s13 : ICode := (.seq c30k12 c30s11)
def c30r14 : List Seg := [
  .one ⟨some 11, .mv (.t 0), none⟩,
  .one ⟨some 12, .call (.c (.func 46 [])) [(.t 11)], none⟩,
  .one ⟨some 8, .mv (.t 12), none⟩]
def c30k14 : ICode := .kill (dead 34 [0, 1, 5]) (.ops c30r14)
def c30s15 : ICode := (.seq (.seq c30k14 c30s13) c30s9)
def c30r16 : List Seg := [
  .one ⟨some 5, .box (.t 2), none⟩,
  .one ⟨some 6, .mv (.c .nilslice), none⟩,
  .one ⟨some 7, .mv (.c (.int .i64 0)), none⟩]
def c30k16 : ICode := .kill (dead 34 [0, 1, 2]) (.ops c30r16)
def c30b : ICode := (.seq c30k16 c30s15)
def c30 : IFn := ⟨34, [.t 6, .t 7], c30b⟩
def h30 : List (Nat × List Nat) := [(0, dead 34 [0, 1, 2]), (1, dead 34 [0, 1, 5]), (2, dead 34 [0, 1, 5, 8]), (3, dead 34 [8]), (4, dead 34 [0, 1, 5]), (5, dead 34 [0, 1, 5, 9]), (6, dead 34 [0, 5, 9, 10]), (7, dead 34 []), (8, dead 34 [9])]
/-! tosher/tosherref08.Opened -/
def c31r0 : List Seg := [
  .one ⟨some 16, .mv (.t 6), none⟩,
  .one ⟨some 17, .mv (.t 8), none⟩,
  .one ⟨some 18, .mv (.t 17), none⟩,
  .one ⟨some 19, .mv (.t 7), some (18, true)⟩,
  .one ⟨some 20, .mv (.t 1), some (18, true)⟩,
  .one ⟨some 21, .len 0 (.t 20), some (18, true)⟩,
  .one ⟨some 22, .bin .eql (.t 19) (.t 21), some (18, true)⟩,
  .one ⟨some 23, .pick (.t 18) (.t 22) (.c (.bool false)), none⟩,
  .one ⟨some 4, .mv (.t 16), none⟩,
  .one ⟨some 5, .mv (.t 23), none⟩]
def c31k0 : ICode := .kill (dead 24 [1, 6, 7, 8]) (.ops c31r0)
def c31s1 : ICode := (.seq c31k0 .ret)
def c31r2 : List Seg := [
  .one ⟨some 10, .mv (.t 1), none⟩,
  .one ⟨some 11, .mv (.t 0), none⟩,
  .one ⟨some 12, .call (.c (.func 64 [])) [(.t 10), (.c (.int .i64 0)), (.c (.int .i64 0)), (.t 11)], none⟩,
  .one ⟨some 9, .mv (.t 12), none⟩,
  .one ⟨some 13, .ext (.t 9) 0, none⟩,
  .one ⟨some 14, .ext (.t 9) 1, none⟩,
  .one ⟨some 15, .ext (.t 9) 2, none⟩,
  .one ⟨some 6, .mv (.t 13), none⟩,
  .one ⟨some 7, .mv (.t 14), none⟩,
  .one ⟨some 8, .mv (.t 15), none⟩]
def c31k2 : ICode := .kill (dead 24 [0, 1]) (.ops c31r2)
def c31s3 : ICode := (.seq c31k2 c31s1)
def c31r4 : List Seg := [
  .one ⟨some 4, .mv (.c .nilslice), none⟩,
  .one ⟨some 5, .mv (.c (.bool false)), none⟩]
def c31k4 : ICode := .kill (dead 24 [0, 1]) (.ops c31r4)
def c31b : ICode := (.seq c31k4 c31s3)
def c31 : IFn := ⟨24, [.t 4, .t 5], c31b⟩
def h31 : List (Nat × List Nat) := [(0, dead 24 [0, 1]), (1, dead 24 [0, 1]), (2, dead 24 [1, 6, 7, 8])]
/-! tosher/tosherlaw08.ints -/
def c32r0 : List Seg := [
  .one ⟨some 4, .mv (.c (.bool true)), none⟩]
def c32k0 : ICode := .kill (dead 26 []) (.ops c32r0)
def c32s1 : ICode := (.seq c32k0 .ret)
def c32r3 : List Seg := [
  .one ⟨some 15, .mv (.t 5), none⟩,
  .one ⟨some 16, .bin .add (.t 15) (.c (.int .i64 1)), none⟩,
  .one ⟨some 5, .mv (.t 16), none⟩]
def c32k3 : ICode := .kill (dead 26 [0, 1, 5]) (.ops c32r3)
def c32r4 : List Seg := [
  .one ⟨some 4, .mv (.c (.bool false)), none⟩]
def c32k4 : ICode := .kill (dead 26 []) (.ops c32r4)
def c32s5 : ICode := (.cond (.t 25) (.seq c32k4 .ret) .skip)
def c32r6 : List Seg := [
  .grp [(⟨some 17, .mv (.t 0), none⟩, 0), (⟨some 18, .mv (.t 5), none⟩, 0), (⟨some 19, .idxS 1 (.t 17) (.t 18), none⟩, 3), (⟨some 20, .load1 (.t 19), none⟩, 7), (⟨some 21, .mv (.t 1), none⟩, 0), (⟨some 22, .mv (.t 5), none⟩, 0), (⟨some 23, .idxS 1 (.t 21) (.t 22), none⟩, 48), (⟨some 24, .load1 (.t 23), none⟩, 112)],
  .one ⟨some 25, .bin .neq (.t 20) (.t 24), none⟩]
def c32k6 : ICode := .kill (dead 26 [0, 1, 5]) (.ops c32r6)
def c32s7 : ICode := (.seq (.block 1 (.seq c32k6 c32s5)) c32k3)
def c32s8 : ICode := (.cond (.t 14) .skip (.exit 0))
def c32r9 : List Seg := [
  .one ⟨some 11, .mv (.t 5), none⟩,
  .one ⟨some 12, .mv (.t 0), none⟩,
  .one ⟨some 13, .len 0 (.t 12), none⟩,
  .one ⟨some 14, .bin .lss (.t 11) (.t 13), none⟩]
def c32k9 : ICode := .kill (dead 26 [0, 1, 5]) (.ops c32r9)
def c32l2 : ICode := (.seq (.seq c32k9 c32s8) c32s7)
def c32s10 : ICode := (.block 0 (.loop c32l2))
def c32r11 : List Seg := [
  .one ⟨some 5, .mv (.c (.int .i64 0)), none⟩]
def c32k11 : ICode := .kill (dead 26 [0, 1]) (.ops c32r11)
def c32s12 : ICode := (.seq (.seq c32k11 c32s10) c32s1)
def c32r13 : List Seg := [
  .one ⟨some 4, .mv (.c (.bool false)), none⟩]
def c32k13 : ICode := .kill (dead 26 []) (.ops c32r13)
def c32s14 : ICode := (.cond (.t 10) (.seq c32k13 .ret) .skip)
def c32r15 : List Seg := [
  .one ⟨some 6, .mv (.t 0), none⟩,
  .one ⟨some 7, .len 0 (.t 6), none⟩,
  .one ⟨some 8, .mv (.t 1), none⟩,
  .one ⟨some 9, .len 0 (.t 8), none⟩,
  .one ⟨some 10, .bin .neq (.t 7) (.t 9), none⟩]
def c32k15 : ICode := .kill (dead 26 [0, 1]) (.ops c32r15)
def c32s16 : ICode := (.seq (.seq c32k15 c32s14) c32s12)
def c32r17 : List Seg := [
  .one ⟨some 4, .mv (.c (.bool false)), none⟩]
def c32k17 : ICode := .kill (dead 26 [0, 1]) (.ops c32r17)
def c32b : ICode := (.seq c32k17 c32s16)
def c32 : IFn := ⟨26, [.t 4], c32b⟩
def h32 : List (Nat × List Nat) := [(0, dead 26 [0, 1]), (1, dead 26 [0, 1]), (2, dead 26 []), (3, dead 26 [0, 1]), (4, dead 26 [0, 1, 5]), (6, dead 26 [0, 1, 5]), (7, dead 26 []), (5, dead 26 [0, 1, 5]), (8, dead 26 [])]
/-! tosher/tosherref08.Prices -/
def c33r0 : List Seg := [
  .one ⟨some 40, .mv (.t 5), none⟩,
  .one ⟨some 4, .mv (.t 40), none⟩]
def c33k0 : ICode := .kill (dead 41 [5]) (.ops c33r0)
def c33s1 : ICode := (.seq c33k0 .ret)
def c33r3 : List Seg := [
  .one ⟨some 13, .mv (.t 6), none⟩,
  .one ⟨some 14, .bin .add (.t 13) (.c (.int .i64 1)), none⟩,
  .one ⟨some 6, .mv (.t 14), none⟩]
def c33k3 : ICode := .kill (dead 41 [0, 1, 5, 6]) (.ops c33r3)
def c33r4 : List Seg := [
  .one ⟨some 36, .mv (.t 5), none⟩,
  .one ⟨some 37, .mv (.t 7), none⟩,
  .one ⟨some 38, .mkslice 1 [.int .i64 0] [(0, 1, (.t 37))], none⟩,
  .one ⟨some 39, .app 1 8 (.t 36) (.t 38), none⟩,
  .one ⟨some 5, .mv (.t 39), none⟩]
def c33k4 : ICode := .kill (dead 41 [0, 1, 5, 6, 7]) (.ops c33r4)
def c33r6 : List Seg := [
  .one ⟨some 22, .mv (.t 8), none⟩,
  .one ⟨some 23, .bin .add (.t 22) (.c (.int .i64 1)), none⟩,
  .one ⟨some 8, .mv (.t 23), none⟩]
def c33k6 : ICode := .kill (dead 41 [0, 1, 5, 6, 7, 8]) (.ops c33r6)
def c33r7 : List Seg := [
  .one ⟨some 24, .mv (.t 7), none⟩,
  .one ⟨some 25, .mv (.t 0), none⟩,
  .one ⟨some 26, .mv (.t 1), none⟩,
  .one ⟨some 27, .mv (.t 6), none⟩,
  .one ⟨some 28, .idxS 1 (.t 26) (.t 27), none⟩,
  .one ⟨some 29, .load1 (.t 28), none⟩,
  .one ⟨some 30, .mv (.t 8), none⟩,
  .one ⟨some 31, .idxS 1 (.t 29) (.t 30), none⟩,
  .one ⟨some 32, .load1 (.t 31), none⟩,
  .one ⟨some 33, .idxS 1 (.t 25) (.t 32), none⟩,
  .one ⟨some 34, .load1 (.t 33), none⟩,
  .one ⟨some 35, .bin .add (.t 24) (.t 34), none⟩,
  .one ⟨some 7, .mv (.t 35), none⟩]
def c33k7 : ICode := .kill (dead 41 [0, 1, 5, 6, 7, 8]) (.ops c33r7)
def c33s8 : ICode := (.seq (.block 3 c33k7) c33k6)
def c33s9 : ICode := (.cond (.t 21) .skip (.exit 2))
def c33r10 : List Seg := [
  .one ⟨some 15, .mv (.t 8), none⟩,
  .one ⟨some 16, .mv (.t 1), none⟩,
  .one ⟨some 17, .mv (.t 6), none⟩,
  .one ⟨some 18, .idxS 1 (.t 16) (.t 17), none⟩,
  .one ⟨some 19, .load1 (.t 18), none⟩,
  .one ⟨some 20, .len 0 (.t 19), none⟩,
  .one ⟨some 21, .bin .lss (.t 15) (.t 20), none⟩]
def c33k10 : ICode := .kill (dead 41 [0, 1, 5, 6, 7, 8]) (.ops c33r10)
def c33l5 : ICode := (.seq (.seq c33k10 c33s9) c33s8)
def c33s11 : ICode := (.block 2 (.loop c33l5))
def c33r12 : List Seg := [
  .one ⟨some 8, .mv (.c (.int .i64 0)), none⟩]
def c33k12 : ICode := .kill (dead 41 [0, 1, 5, 6, 7]) (.ops c33r12)
def c33s13 : ICode := (.seq (.seq c33k12 c33s11) c33k4)
def c33r14 : List Seg := [
  .one ⟨some 7, .mv (.c (.int .i64 0)), none⟩]
def c33k14 : ICode := .kill (dead 41 [0, 1, 5, 6]) (.ops c33r14)
def c33s15 : ICode := (.seq (.block 1 (.seq c33k14 c33s13)) c33k3)
def c33s16 : ICode := (.cond (.t 12) .skip (.exit 0))
def c33r17 : List Seg := [
  .one ⟨some 9, .mv (.t 6), none⟩,
  .one ⟨some 10, .mv (.t 1), none⟩,
  .one ⟨some 11, .len 0 (.t 10), none⟩,
  .one ⟨some 12, .bin .lss (.t 9) (.t 11), none⟩]
def c33k17 : ICode := .kill (dead 41 [0, 1, 5, 6]) (.ops c33r17)
def c33l2 : ICode := (.seq (.seq c33k17 c33s16) c33s15)
def c33s18 : ICode := (.block 0 (.loop c33l2))
def c33r19 : List Seg := [
  .one ⟨some 6, .mv (.c (.int .i64 0)), none⟩]
def c33k19 : ICode := .kill (dead 41 [0, 1, 5]) (.ops c33r19)
def c33s20 : ICode := (.seq (.seq c33k19 c33s18) c33s1)
def c33r21 : List Seg := [
  .one ⟨some 5, .mv (.c .nilslice), none⟩]
def c33k21 : ICode := .kill (dead 41 [0, 1]) (.ops c33r21)
def c33s22 : ICode := (.seq c33k21 c33s20)
def c33r23 : List Seg := [
  .one ⟨some 4, .mv (.c .nilslice), none⟩]
def c33k23 : ICode := .kill (dead 41 [0, 1]) (.ops c33r23)
def c33b : ICode := (.seq c33k23 c33s22)
def c33 : IFn := ⟨41, [.t 4], c33b⟩
def h33 : List (Nat × List Nat) := [(0, dead 41 [0, 1]), (1, dead 41 [0, 1]), (2, dead 41 [0, 1, 5]), (3, dead 41 [0, 1, 5, 6]), (5, dead 41 [0, 1, 5, 6]), (6, dead 41 [0, 1, 5, 6, 7]), (7, dead 41 [0, 1, 5, 6, 7, 8]), (9, dead 41 [0, 1, 5, 6, 7, 8]), (8, dead 41 [0, 1, 5, 6, 7, 8]), (10, dead 41 [0, 1, 5, 6, 7]), (4, dead 41 [0, 1, 5, 6]), (11, dead 41 [5])]
/-! tosher/tosherlaw08.weights -/
def c34r0 : List Seg := [
  .one ⟨some 38, .mv (.t 5), none⟩,
  .one ⟨some 4, .mv (.t 38), none⟩]
def c34k0 : ICode := .kill (dead 39 [5]) (.ops c34r0)
def c34s1 : ICode := (.seq c34k0 .ret)
def c34r2 : List Seg := [
  .one ⟨some 36, .mv (.t 5), none⟩,
  .one ⟨some 37, .idxS 1 (.t 36) (.c (.int .i64 0)), none⟩,
  .one ⟨none, .store1 (.t 37) (.c (.int .i64 1)), none⟩]
def c34k2 : ICode := .kill (dead 39 [5]) (.ops c34r2)
def c34s3 : ICode := (.cond (.t 35) c34k2 .skip)
def c34r4 : List Seg := [
  .one ⟨some 34, .mv (.t 6), none⟩,
  .one ⟨some 35, .un .not (.t 34), none⟩]
def c34k4 : ICode := .kill (dead 39 [5, 6]) (.ops c34r4)
def c34s5 : ICode := (.seq (.seq c34k4 c34s3) c34s1)
def c34r7 : List Seg := [
  .one ⟨some 12, .mv (.t 7), none⟩,
  .one ⟨some 13, .bin .add (.t 12) (.c (.int .i64 1)), none⟩,
  .one ⟨some 7, .mv (.t 13), none⟩]
def c34k7 : ICode := .kill (dead 39 [0, 1, 5, 6, 7]) (.ops c34r7)
def c34r8 : List Seg := [
  .one ⟨some 30, .mv (.t 5), none⟩,
  .one ⟨some 31, .mv (.t 8), none⟩,
  .one ⟨some 32, .mkslice 1 [.int .i64 0] [(0, 1, (.t 31))], none⟩,
  .one ⟨some 33, .app 1 8 (.t 30) (.t 32), none⟩,
  .one ⟨some 5, .mv (.t 33), none⟩]
def c34k8 : ICode := .kill (dead 39 [0, 1, 5, 6, 7, 8]) (.ops c34r8)
def c34r9 : List Seg := [
  .one ⟨some 25, .mv (.t 6), none⟩,
  .one ⟨some 26, .mv (.t 25), none⟩,
  .one ⟨some 27, .mv (.t 8), some (26, false)⟩,
  .one ⟨some 28, .bin .gtr (.t 27) (.c (.int .i64 0)), some (26, false)⟩,
  .one ⟨some 29, .pick (.t 26) (.c (.bool true)) (.t 28), none⟩,
  .one ⟨some 6, .mv (.t 29), none⟩]
def c34k9 : ICode := .kill (dead 39 [0, 1, 5, 6, 7, 8]) (.ops c34r9)
def c34s10 : ICode := (.seq c34k9 c34k8)
def c34r11 : List Seg := [
  .one ⟨some 18, .mv (.t 0), none⟩,
  .one ⟨some 19, .mv (.t 7), none⟩,
  .one ⟨some 20, .idxS 1 (.t 18) (.t 19), none⟩,
  .one ⟨some 21, .load1 (.t 20), none⟩,
  .one ⟨some 22, .conv .u64 (.t 21), none⟩,
  .one ⟨some 23, .bin .rem (.t 22) (.c (.int .u64 1001)), none⟩,
  .one ⟨some 24, .conv .i64 (.t 23), none⟩,
  .one ⟨some 8, .mv (.t 24), none⟩]
def c34k11 : ICode := .kill (dead 39 [0, 1, 5, 6, 7]) (.ops c34r11)
def c34s12 : ICode := (.cond (.t 17) c34k11 .skip)
def c34r13 : List Seg := [
  .one ⟨some 14, .mv (.t 7), none⟩,
  .one ⟨some 15, .mv (.t 0), none⟩,
  .one ⟨some 16, .len 0 (.t 15), none⟩,
  .one ⟨some 17, .bin .lss (.t 14) (.t 16), none⟩]
def c34k13 : ICode := .kill (dead 39 [0, 1, 5, 6, 7, 8]) (.ops c34r13)
def c34s14 : ICode := (.seq (.seq c34k13 c34s12) c34s10)
def c34r15 : List Seg := [
  .one ⟨some 8, .mv (.c (.int .i64 0)), none⟩]
def c34k15 : ICode := .kill (dead 39 [0, 1, 5, 6, 7]) (.ops c34r15)
def c34s16 : ICode := (.seq (.block 1 (.seq c34k15 c34s14)) c34k7)
def c34s17 : ICode := (.cond (.t 11) .skip (.exit 0))
def c34r18 : List Seg := [
  .one ⟨some 9, .mv (.t 7), none⟩,
  .one ⟨some 10, .mv (.t 1), none⟩,
  .one ⟨some 11, .bin .leq (.t 9) (.t 10), none⟩]
def c34k18 : ICode := .kill (dead 39 [0, 1, 5, 6, 7]) (.ops c34r18)
def c34l6 : ICode := (.seq (.seq c34k18 c34s17) c34s16)
def c34s19 : ICode := (.block 0 (.loop c34l6))
def c34r20 : List Seg := [
  .one ⟨some 7, .mv (.c (.int .i64 0)), none⟩]
def c34k20 : ICode := .kill (dead 39 [0, 1, 5, 6]) (.ops c34r20)
def c34s21 : ICode := (.seq (.seq c34k20 c34s19) c34s5)
def c34r22 : List Seg := [
  .one ⟨some 6, .mv (.c (.bool false)), none⟩]
def c34k22 : ICode := .kill (dead 39 [0, 1, 5]) (.ops c34r22)
def c34s23 : ICode := (.seq c34k22 c34s21)
def c34r24 : List Seg := [
  .one ⟨some 5, .mv (.c .nilslice), none⟩]
def c34k24 : ICode := .kill (dead 39 [0, 1]) (.ops c34r24)
def c34s25 : ICode := (.seq c34k24 c34s23)
def c34r26 : List Seg := [
  .one ⟨some 4, .mv (.c .nilslice), none⟩]
def c34k26 : ICode := .kill (dead 39 [0, 1]) (.ops c34r26)
def c34b : ICode := (.seq c34k26 c34s25)
def c34 : IFn := ⟨39, [.t 4], c34b⟩
def h34 : List (Nat × List Nat) := [(0, dead 39 [0, 1]), (1, dead 39 [0, 1]), (2, dead 39 [0, 1, 5]), (3, dead 39 [0, 1, 5, 6]), (4, dead 39 [0, 1, 5, 6, 7]), (6, dead 39 [0, 1, 5, 6, 7]), (7, dead 39 [0, 1, 5, 6, 7, 8]), (8, dead 39 [0, 1, 5, 6, 7]), (9, dead 39 [0, 1, 5, 6, 7, 8]), (10, dead 39 [0, 1, 5, 6, 7, 8]), (5, dead 39 [0, 1, 5, 6, 7]), (11, dead 39 [5, 6]), (12, dead 39 [5]), (13, dead 39 [5])]
/-! tosher/search.Weighed -/
def c35r0 : List Seg := [
  .grp [(⟨some 19, .mv (.t 8), none⟩, 0), (⟨some 20, .load1 (.t 2), none⟩, 0), (⟨some 21, .len 0 (.t 20), none⟩, 2), (⟨some 22, .nilck (.t 19), none⟩, 1), (⟨some 23, .fieldA 0 (.t 22), none⟩, 9), (⟨some 24, .idxA 13 13 (.t 23) (.c (.int .i64 0)), none⟩, 25), (⟨some 25, .idxA 13 1 (.t 24) (.t 21), none⟩, 63), (⟨some 26, .load1 (.t 25), none⟩, 127), (⟨some 27, .mv (.t 8), none⟩, 0), (⟨some 28, .load1 (.t 2), none⟩, 0), (⟨some 29, .call (.c (.func 60 [])) [(.t 28)], none⟩, 512), (⟨some 30, .call (.c (.func 59 [])) [(.t 27), (.t 29)], none⟩, 1792)],
  .one ⟨some 4, .mv (.t 26), none⟩,
  .one ⟨some 5, .mv (.t 30), none⟩,
  .one ⟨some 6, .mv (.c (.int .i64 0)), none⟩]
def c35k0 : ICode := .kill (dead 31 [2, 8]) (.ops c35r0)
def c35s1 : ICode := (.seq c35k0 .ret)
def c35r2 : List Seg := [
  .one ⟨some 15, .load1 (.t 2), none⟩,
  .one ⟨some 16, .len 0 (.t 15), none⟩,
  .one ⟨some 17, .mkfn 66 [(.t 2), (.t 3)], none⟩,
  .one ⟨some 18, .call (.c (.func 57 [])) [(.t 16), (.t 17)], none⟩,
  .one ⟨some 8, .mv (.t 18), none⟩]
def c35k2 : ICode := .kill (dead 31 [2, 3]) (.ops c35r2)
def c35s3 : ICode := (.seq c35k2 c35s1)
def c35r4 : List Seg := [
  .one ⟨some 14, .mv (.t 7), none⟩,
  .one ⟨some 4, .mv (.c (.int .i64 0)), none⟩,
  .one ⟨some 5, .mv (.c .nilslice), none⟩,
  .one ⟨some 6, .mv (.t 14), none⟩]
def c35k4 : ICode := .kill (dead 31 [7]) (.ops c35r4)
def c35s5 : ICode := (.cond (.t 13) (.seq c35k4 .ret) .skip)
def c35r6 : List Seg := [
  .one ⟨some 12, .mv (.t 7), none⟩,
  .one ⟨some 13, .bin .neq (.t 12) (.c (.int .i64 0)), none⟩]
def c35k6 : ICode := .kill (dead 31 [2, 3, 7]) (.ops c35r6)
def c35s7 : ICode := (.seq c35k6 c35s5)
def c35r8 : List Seg := [
  .one ⟨some 9, .load1 (.t 2), none⟩,
  .one ⟨some 10, .load1 (.t 3), none⟩,
  .one ⟨some 11, .call (.c (.func 65 [])) [(.t 9), (.t 10)], none⟩,
  .one ⟨some 7, .mv (.t 11), none⟩]
def c35k8 : ICode := .kill (dead 31 [2, 3]) (.ops c35r8)
def c35s9 : ICode := (.seq (.seq c35k8 c35s7) c35s3)
def c35r10 : List Seg := [
  .one ⟨some 2, .box (.t 0), none⟩,
  .one ⟨some 3, .box (.t 1), none⟩,
  .one ⟨some 4, .mv (.c (.int .i64 0)), none⟩,
  .one ⟨some 5, .mv (.c .nilslice), none⟩,
  .one ⟨some 6, .mv (.c (.int .i64 0)), none⟩]
def c35k10 : ICode := .kill (dead 31 [0, 1]) (.ops c35r10)
def c35b : ICode := (.seq c35k10 c35s9)
def c35 : IFn := ⟨31, [.t 4, .t 5, .t 6], c35b⟩
def h35 : List (Nat × List Nat) := [(0, dead 31 [0, 1]), (1, dead 31 [2, 3]), (2, dead 31 [2, 3, 7]), (3, dead 31 [7]), (4, dead 31 [2, 3]), (5, dead 31 [2, 8])]
/-! tosher/tosherref08.Least -/
def c36r0 : List Seg := [
  .one ⟨some 135, .mv (.t 10), none⟩,
  .one ⟨some 136, .mv (.t 2), none⟩,
  .one ⟨some 137, .idxS 1 (.t 135) (.t 136), none⟩,
  .one ⟨some 138, .load1 (.t 137), none⟩,
  .one ⟨some 139, .mv (.t 3), none⟩,
  .one ⟨some 140, .idxS 1 (.t 138) (.t 139), none⟩,
  .one ⟨some 141, .load1 (.t 140), none⟩,
  .one ⟨some 8, .mv (.t 141), none⟩]
def c36k0 : ICode := .kill (dead 142 [2, 3, 10]) (.ops c36r0)
def c36s1 : ICode := (.seq c36k0 .ret)
def c36r3 : List Seg := [
  .one ⟨some 25, .mv (.t 11), none⟩,
  .one ⟨some 26, .bin .sub (.t 25) (.c (.int .i64 1)), none⟩,
  .one ⟨some 11, .mv (.t 26), none⟩]
def c36k3 : ICode := .kill (dead 142 [0, 1, 2, 3, 9, 10, 11]) (.ops c36r3)
def c36r5 : List Seg := [
  .one ⟨some 36, .mv (.t 13), none⟩,
  .one ⟨some 37, .bin .add (.t 36) (.c (.int .i64 1)), none⟩,
  .one ⟨some 13, .mv (.t 37), none⟩]
def c36k5 : ICode := .kill (dead 142 [0, 1, 2, 3, 9, 10, 11, 12, 13]) (.ops c36r5)
def c36r7 : List Seg := [
  .one ⟨some 60, .mv (.t 14), none⟩,
  .one ⟨some 61, .bin .add (.t 60) (.c (.int .i64 1)), none⟩,
  .one ⟨some 14, .mv (.t 61), none⟩]
def c36k7 : ICode := .kill (dead 142 [0, 1, 2, 3, 9, 10, 11, 12, 13, 14]) (.ops c36r7)
def c36r8 : List Seg := [
  .one ⟨some 128, .mv (.t 10), none⟩,
  .one ⟨some 129, .mv (.t 11), none⟩,
  .one ⟨some 130, .idxS 1 (.t 128) (.t 129), none⟩,
  .one ⟨some 131, .load1 (.t 130), none⟩,
  .one ⟨some 132, .mv (.t 13), none⟩,
  .one ⟨some 133, .mv (.t 15), none⟩,
  .one ⟨some 134, .idxS 1 (.t 131) (.t 132), none⟩,
  .one ⟨none, .store1 (.t 134) (.t 133), none⟩]
def c36k8 : ICode := .kill (dead 142 [0, 1, 2, 3, 9, 10, 11, 12, 13, 14, 15]) (.ops c36r8)
def c36s9 : ICode := (.cond (.t 127) c36k8 .skip)
def c36r10 : List Seg := [
  .one ⟨some 109, .mv (.t 10), none⟩,
  .one ⟨some 110, .mv (.t 11), none⟩,
  .one ⟨some 111, .idxS 1 (.t 109) (.t 110), none⟩,
  .one ⟨some 112, .load1 (.t 111), none⟩,
  .one ⟨some 113, .mv (.t 13), none⟩,
  .one ⟨some 114, .idxS 1 (.t 112) (.t 113), none⟩,
  .one ⟨some 115, .load1 (.t 114), none⟩,
  .one ⟨some 116, .bin .lss (.t 115) (.c (.int .i64 0)), none⟩,
  .one ⟨some 117, .mv (.t 116), none⟩,
  .one ⟨some 118, .mv (.t 15), some (117, false)⟩,
  .one ⟨some 119, .mv (.t 10), some (117, false)⟩,
  .one ⟨some 120, .mv (.t 11), some (117, false)⟩,
  .one ⟨some 121, .idxS 1 (.t 119) (.t 120), some (117, false)⟩,
  .one ⟨some 122, .load1 (.t 121), some (117, false)⟩,
  .one ⟨some 123, .mv (.t 13), some (117, false)⟩,
  .one ⟨some 124, .idxS 1 (.t 122) (.t 123), some (117, false)⟩,
  .one ⟨some 125, .load1 (.t 124), some (117, false)⟩,
  .one ⟨some 126, .bin .lss (.t 118) (.t 125), some (117, false)⟩,
  .one ⟨some 127, .pick (.t 117) (.c (.bool true)) (.t 126), none⟩]
def c36k10 : ICode := .kill (dead 142 [0, 1, 2, 3, 9, 10, 11, 12, 13, 14, 15]) (.ops c36r10)
def c36s11 : ICode := (.seq c36k10 c36s9)
def c36r12 : List Seg := [
  .grp [(⟨some 86, .mv (.t 12), none⟩, 0), (⟨some 87, .mv (.t 0), none⟩, 0), (⟨some 88, .mv (.t 14), none⟩, 0), (⟨some 89, .idxS 1 (.t 87) (.t 88), none⟩, 6), (⟨some 90, .load1 (.t 89), none⟩, 14), (⟨some 91, .bin .mul (.t 86) (.t 90), none⟩, 31), (⟨some 92, .mv (.t 10), none⟩, 0), (⟨some 93, .mv (.t 11), none⟩, 0), (⟨some 94, .idxS 1 (.t 92) (.t 93), none⟩, 192), (⟨some 95, .load1 (.t 94), none⟩, 448), (⟨some 96, .mv (.t 14), none⟩, 0), (⟨some 97, .idxS 1 (.t 95) (.t 96), none⟩, 1984), (⟨some 98, .load1 (.t 97), none⟩, 4032), (⟨some 99, .bin .add (.t 91) (.t 98), none⟩, 8191), (⟨some 100, .mv (.t 10), none⟩, 0), (⟨some 101, .mv (.t 14), none⟩, 0), (⟨some 102, .bin .add (.t 101) (.c (.int .i64 1)), none⟩, 32768), (⟨some 103, .idxS 1 (.t 100) (.t 102), none⟩, 114688), (⟨some 104, .load1 (.t 103), none⟩, 245760), (⟨some 105, .mv (.t 13), none⟩, 0), (⟨some 106, .idxS 1 (.t 104) (.t 105), none⟩, 1032192), (⟨some 107, .load1 (.t 106), none⟩, 2080768)],
  .one ⟨some 108, .bin .add (.t 99) (.t 107), none⟩,
  .one ⟨some 15, .mv (.t 108), none⟩]
def c36k12 : ICode := .kill (dead 142 [0, 1, 2, 3, 9, 10, 11, 12, 13, 14]) (.ops c36r12)
def c36s13 : ICode := (.cond (.t 85) c36k12 .skip)
def c36r14 : List Seg := [
  .one ⟨some 83, .mv (.t 1), none⟩,
  .one ⟨some 84, .len 0 (.t 83), none⟩,
  .one ⟨some 85, .bin .gtr (.t 84) (.c (.int .i64 0)), none⟩]
def c36k14 : ICode := .kill (dead 142 [0, 1, 2, 3, 9, 10, 11, 12, 13, 14, 15]) (.ops c36r14)
def c36s15 : ICode := (.seq (.seq c36k14 c36s13) c36s11)
def c36r16 : List Seg := [
  .grp [(⟨some 62, .mv (.t 0), none⟩, 0), (⟨some 63, .mv (.t 14), none⟩, 0), (⟨some 64, .idxS 1 (.t 62) (.t 63), none⟩, 3), (⟨some 65, .load1 (.t 64), none⟩, 7), (⟨some 66, .mv (.t 10), none⟩, 0), (⟨some 67, .mv (.t 11), none⟩, 0), (⟨some 68, .idxS 1 (.t 66) (.t 67), none⟩, 48), (⟨some 69, .load1 (.t 68), none⟩, 112), (⟨some 70, .mv (.t 14), none⟩, 0), (⟨some 71, .idxS 1 (.t 69) (.t 70), none⟩, 496), (⟨some 72, .load1 (.t 71), none⟩, 1008), (⟨some 73, .mv (.t 10), none⟩, 0), (⟨some 74, .mv (.t 14), none⟩, 0), (⟨some 75, .bin .add (.t 74) (.c (.int .i64 1)), none⟩, 4096), (⟨some 76, .idxS 1 (.t 73) (.t 75), none⟩, 14336), (⟨some 77, .load1 (.t 76), none⟩, 30720), (⟨some 78, .mv (.t 13), none⟩, 0), (⟨some 79, .idxS 1 (.t 77) (.t 78), none⟩, 129024), (⟨some 80, .load1 (.t 79), none⟩, 260096), (⟨some 81, .mx [(.t 72), (.t 80)], none⟩, 524272)],
  .one ⟨some 82, .bin .add (.t 65) (.t 81), none⟩,
  .one ⟨some 15, .mv (.t 82), none⟩]
def c36k16 : ICode := .kill (dead 142 [0, 1, 2, 3, 9, 10, 11, 12, 13, 14]) (.ops c36r16)
def c36s17 : ICode := (.seq (.block 5 (.seq c36k16 c36s15)) c36k7)
def c36s18 : ICode := (.cond (.t 59) .skip (.exit 4))
def c36r19 : List Seg := [
  .one ⟨some 57, .mv (.t 14), none⟩,
  .one ⟨some 58, .mv (.t 13), none⟩,
  .one ⟨some 59, .bin .lss (.t 57) (.t 58), none⟩]
def c36k19 : ICode := .kill (dead 142 [0, 1, 2, 3, 9, 10, 11, 12, 13, 14]) (.ops c36r19)
def c36l6 : ICode := (.seq (.seq c36k19 c36s18) c36s17)
def c36s20 : ICode := (.block 4 (.loop c36l6))
def c36r21 : List Seg := [
  .one ⟨some 56, .mv (.t 11), none⟩,
  .one ⟨some 14, .mv (.t 56), none⟩]
def c36k21 : ICode := .kill (dead 142 [0, 1, 2, 3, 9, 10, 11, 12, 13]) (.ops c36r21)
def c36s22 : ICode := (.seq c36k21 c36s20)
def c36r23 : List Seg := [
  .one ⟨some 50, .mv (.t 10), none⟩,
  .one ⟨some 51, .mv (.t 11), none⟩,
  .one ⟨some 52, .idxS 1 (.t 50) (.t 51), none⟩,
  .one ⟨some 53, .load1 (.t 52), none⟩,
  .one ⟨some 54, .mv (.t 13), none⟩,
  .one ⟨some 55, .idxS 1 (.t 53) (.t 54), none⟩,
  .one ⟨none, .store1 (.t 55) (.c (.int .i64 (-1))), none⟩]
def c36k23 : ICode := .kill (dead 142 [0, 1, 2, 3, 9, 10, 11, 12, 13]) (.ops c36r23)
def c36s24 : ICode := (.seq c36k23 c36s22)
def c36s25 : ICode := (.cond (.t 49) (.exit 3) .skip)
def c36r26 : List Seg := [
  .one ⟨some 47, .mv (.t 13), none⟩,
  .one ⟨some 48, .mv (.t 11), none⟩,
  .one ⟨some 49, .bin .eql (.t 47) (.t 48), none⟩]
def c36k26 : ICode := .kill (dead 142 [0, 1, 2, 3, 9, 10, 11, 12, 13]) (.ops c36r26)
def c36s27 : ICode := (.seq (.seq c36k26 c36s25) c36s24)
def c36r28 : List Seg := [
  .one ⟨some 41, .mv (.t 12), none⟩,
  .one ⟨some 42, .mv (.t 1), none⟩,
  .one ⟨some 43, .mv (.t 13), none⟩,
  .one ⟨some 44, .idxS 1 (.t 42) (.t 43), none⟩,
  .one ⟨some 45, .load1 (.t 44), none⟩,
  .one ⟨some 46, .bin .add (.t 41) (.t 45), none⟩,
  .one ⟨some 12, .mv (.t 46), none⟩]
def c36k28 : ICode := .kill (dead 142 [0, 1, 2, 3, 9, 10, 11, 12, 13]) (.ops c36r28)
def c36s29 : ICode := (.cond (.t 40) c36k28 .skip)
def c36r30 : List Seg := [
  .one ⟨some 38, .mv (.t 1), none⟩,
  .one ⟨some 39, .len 0 (.t 38), none⟩,
  .one ⟨some 40, .bin .gtr (.t 39) (.c (.int .i64 0)), none⟩]
def c36k30 : ICode := .kill (dead 142 [0, 1, 2, 3, 9, 10, 11, 12, 13]) (.ops c36r30)
def c36s31 : ICode := (.seq (.block 3 (.seq (.seq c36k30 c36s29) c36s27)) c36k5)
def c36s32 : ICode := (.cond (.t 35) .skip (.exit 2))
def c36r33 : List Seg := [
  .one ⟨some 33, .mv (.t 13), none⟩,
  .one ⟨some 34, .mv (.t 9), none⟩,
  .one ⟨some 35, .bin .lss (.t 33) (.t 34), none⟩]
def c36k33 : ICode := .kill (dead 142 [0, 1, 2, 3, 9, 10, 11, 12, 13]) (.ops c36r33)
def c36l4 : ICode := (.seq (.seq c36k33 c36s32) c36s31)
def c36s34 : ICode := (.block 2 (.loop c36l4))
def c36r35 : List Seg := [
  .one ⟨some 32, .mv (.t 11), none⟩,
  .one ⟨some 13, .mv (.t 32), none⟩]
def c36k35 : ICode := .kill (dead 142 [0, 1, 2, 3, 9, 10, 11, 12]) (.ops c36r35)
def c36s36 : ICode := (.seq c36k35 c36s34)
def c36r37 : List Seg := [
  .one ⟨some 12, .mv (.c (.int .i64 0)), none⟩]
def c36k37 : ICode := .kill (dead 142 [0, 1, 2, 3, 9, 10, 11]) (.ops c36r37)
def c36s38 : ICode := (.seq c36k37 c36s36)
def c36r39 : List Seg := [
  .one ⟨some 27, .mv (.t 10), none⟩,
  .one ⟨some 28, .mv (.t 11), none⟩,
  .one ⟨some 29, .mv (.t 9), none⟩,
  .one ⟨some 30, .make [.int .i64 0] 8 (.t 29) (.t 29), none⟩,
  .one ⟨some 31, .idxS 1 (.t 27) (.t 28), none⟩,
  .one ⟨none, .store1 (.t 31) (.t 30), none⟩]
def c36k39 : ICode := .kill (dead 142 [0, 1, 2, 3, 9, 10, 11]) (.ops c36r39)
def c36s40 : ICode := (.seq (.block 1 (.seq c36k39 c36s38)) c36k3)
def c36s41 : ICode := (.cond (.t 24) .skip (.exit 0))
def c36r42 : List Seg := [
  .one ⟨some 23, .mv (.t 11), none⟩,
  .one ⟨some 24, .bin .geq (.t 23) (.c (.int .i64 0)), none⟩]
def c36k42 : ICode := .kill (dead 142 [0, 1, 2, 3, 9, 10, 11]) (.ops c36r42)
def c36l2 : ICode := (.seq (.seq c36k42 c36s41) c36s40)
def c36s43 : ICode := (.block 0 (.loop c36l2))
def c36r44 : List Seg := [
  .one ⟨some 21, .mv (.t 9), none⟩,
  .one ⟨some 22, .bin .sub (.t 21) (.c (.int .i64 1)), none⟩,
  .one ⟨some 11, .mv (.t 22), none⟩]
def c36k44 : ICode := .kill (dead 142 [0, 1, 2, 3, 9, 10]) (.ops c36r44)
def c36s45 : ICode := (.seq (.seq c36k44 c36s43) c36s1)
def c36r46 : List Seg := [
  .one ⟨some 19, .mv (.t 9), none⟩,
  .one ⟨some 20, .make [.nilslice] 24 (.t 19) (.t 19), none⟩,
  .one ⟨some 10, .mv (.t 20), none⟩]
def c36k46 : ICode := .kill (dead 142 [0, 1, 2, 3, 9]) (.ops c36r46)
def c36s47 : ICode := (.seq c36k46 c36s45)
def c36r48 : List Seg := [
  .one ⟨some 16, .mv (.t 0), none⟩,
  .one ⟨some 17, .len 0 (.t 16), none⟩,
  .one ⟨some 18, .bin .add (.t 17) (.c (.int .i64 1)), none⟩,
  .one ⟨some 9, .mv (.t 18), none⟩]
def c36k48 : ICode := .kill (dead 142 [0, 1, 2, 3]) (.ops c36r48)
def c36s49 : ICode := (.seq c36k48 c36s47)
def c36r50 : List Seg := [
  .one ⟨some 8, .mv (.c (.int .i64 0)), none⟩]
def c36k50 : ICode := .kill (dead 142 [0, 1, 2, 3]) (.ops c36r50)
def c36b : ICode := (.seq c36k50 c36s49)
def c36 : IFn := ⟨142, [.t 8], c36b⟩
def h36 : List (Nat × List Nat) := [(0, dead 142 [0, 1, 2, 3]), (1, dead 142 [0, 1, 2, 3]), (2, dead 142 [0, 1, 2, 3, 9]), (3, dead 142 [0, 1, 2, 3, 9, 10]), (4, dead 142 [0, 1, 2, 3, 9, 10, 11]), (6, dead 142 [0, 1, 2, 3, 9, 10, 11]), (7, dead 142 [0, 1, 2, 3, 9, 10, 11]), (8, dead 142 [0, 1, 2, 3, 9, 10, 11, 12]), (9, dead 142 [0, 1, 2, 3, 9, 10, 11, 12, 13]), (11, dead 142 [0, 1, 2, 3, 9, 10, 11, 12, 13]), (12, dead 142 [0, 1, 2, 3, 9, 10, 11, 12, 13]), (13, dead 142 [0, 1, 2, 3, 9, 10, 11, 12, 13]), (14, dead 142 [0, 1, 2, 3, 9, 10, 11, 12, 13]), (15, dead 142 [0, 1, 2, 3, 9, 10, 11, 12, 13]), (16, dead 142 [0, 1, 2, 3, 9, 10, 11, 12, 13, 14]), (18, dead 142 [0, 1, 2, 3, 9, 10, 11, 12, 13, 14]), (19, dead 142 [0, 1, 2, 3, 9, 10, 11, 12, 13, 14, 15]), (20, dead 142 [0, 1, 2, 3, 9, 10, 11, 12, 13, 14]), (21, dead 142 [0, 1, 2, 3, 9, 10, 11, 12, 13, 14, 15]), (22, dead 142 [0, 1, 2, 3, 9, 10, 11, 12, 13, 14, 15]), (17, dead 142 [0, 1, 2, 3, 9, 10, 11, 12, 13, 14]), (10, dead 142 [0, 1, 2, 3, 9, 10, 11, 12, 13]), (5, dead 142 [0, 1, 2, 3, 9, 10, 11]), (23, dead 142 [2, 3, 10])]
/-! tosher/tosherref08.Worst -/
def c37r0 : List Seg := [
  .one ⟨some 17, .mv (.t 3), none⟩,
  .one ⟨some 2, .mv (.t 17), none⟩]
def c37k0 : ICode := .kill (dead 18 [3]) (.ops c37r0)
def c37s1 : ICode := (.seq c37k0 .ret)
def c37r3 : List Seg := [
  .one ⟨some 9, .mv (.t 4), none⟩,
  .one ⟨some 10, .bin .add (.t 9) (.c (.int .i64 1)), none⟩,
  .one ⟨some 4, .mv (.t 10), none⟩]
def c37k3 : ICode := .kill (dead 18 [0, 3, 4]) (.ops c37r3)
def c37r4 : List Seg := [
  .one ⟨some 11, .mv (.t 3), none⟩,
  .one ⟨some 12, .mv (.t 0), none⟩,
  .one ⟨some 13, .mv (.t 4), none⟩,
  .one ⟨some 14, .idxS 1 (.t 12) (.t 13), none⟩,
  .one ⟨some 15, .load1 (.t 14), none⟩,
  .one ⟨some 16, .mx [(.t 11), (.t 15)], none⟩,
  .one ⟨some 3, .mv (.t 16), none⟩]
def c37k4 : ICode := .kill (dead 18 [0, 3, 4]) (.ops c37r4)
def c37s5 : ICode := (.seq (.block 1 c37k4) c37k3)
def c37s6 : ICode := (.cond (.t 8) .skip (.exit 0))
def c37r7 : List Seg := [
  .one ⟨some 5, .mv (.t 4), none⟩,
  .one ⟨some 6, .mv (.t 0), none⟩,
  .one ⟨some 7, .len 0 (.t 6), none⟩,
  .one ⟨some 8, .bin .lss (.t 5) (.t 7), none⟩]
def c37k7 : ICode := .kill (dead 18 [0, 3, 4]) (.ops c37r7)
def c37l2 : ICode := (.seq (.seq c37k7 c37s6) c37s5)
def c37s8 : ICode := (.block 0 (.loop c37l2))
def c37r9 : List Seg := [
  .one ⟨some 4, .mv (.c (.int .i64 0)), none⟩]
def c37k9 : ICode := .kill (dead 18 [0, 3]) (.ops c37r9)
def c37s10 : ICode := (.seq (.seq c37k9 c37s8) c37s1)
def c37r11 : List Seg := [
  .one ⟨some 3, .mv (.c (.int .i64 0)), none⟩]
def c37k11 : ICode := .kill (dead 18 [0]) (.ops c37r11)
def c37s12 : ICode := (.seq c37k11 c37s10)
def c37r13 : List Seg := [
  .one ⟨some 2, .mv (.c (.int .i64 0)), none⟩]
def c37k13 : ICode := .kill (dead 18 [0]) (.ops c37r13)
def c37b : ICode := (.seq c37k13 c37s12)
def c37 : IFn := ⟨18, [.t 2], c37b⟩
def h37 : List (Nat × List Nat) := [(0, dead 18 [0]), (1, dead 18 [0]), (2, dead 18 [0, 3]), (3, dead 18 [0, 3, 4]), (5, dead 18 [0, 3, 4]), (4, dead 18 [0, 3, 4]), (6, dead 18 [3])]
/-! tosher/tosherref08.Weighed -/
def c38r0 : List Seg := [
  .one ⟨some 24, .mv (.t 5), none⟩,
  .one ⟨some 4, .mv (.t 24), none⟩]
def c38k0 : ICode := .kill (dead 25 [5]) (.ops c38r0)
def c38s1 : ICode := (.seq c38k0 .ret)
def c38r3 : List Seg := [
  .one ⟨some 11, .mv (.t 6), none⟩,
  .one ⟨some 12, .bin .add (.t 11) (.c (.int .i64 1)), none⟩,
  .one ⟨some 6, .mv (.t 12), none⟩]
def c38k3 : ICode := .kill (dead 25 [0, 1, 5, 6]) (.ops c38r3)
def c38r4 : List Seg := [
  .grp [(⟨some 13, .mv (.t 5), none⟩, 0), (⟨some 14, .mv (.t 0), none⟩, 0), (⟨some 15, .mv (.t 6), none⟩, 0), (⟨some 16, .idxS 1 (.t 14) (.t 15), none⟩, 6), (⟨some 17, .load1 (.t 16), none⟩, 14), (⟨some 18, .mv (.t 1), none⟩, 0), (⟨some 19, .mv (.t 6), none⟩, 0), (⟨some 20, .idxS 1 (.t 18) (.t 19), none⟩, 96), (⟨some 21, .load1 (.t 20), none⟩, 224), (⟨some 22, .bin .mul (.t 17) (.t 21), none⟩, 510)],
  .one ⟨some 23, .bin .add (.t 13) (.t 22), none⟩,
  .one ⟨some 5, .mv (.t 23), none⟩]
def c38k4 : ICode := .kill (dead 25 [0, 1, 5, 6]) (.ops c38r4)
def c38s5 : ICode := (.seq (.block 1 c38k4) c38k3)
def c38s6 : ICode := (.cond (.t 10) .skip (.exit 0))
def c38r7 : List Seg := [
  .one ⟨some 7, .mv (.t 6), none⟩,
  .one ⟨some 8, .mv (.t 1), none⟩,
  .one ⟨some 9, .len 0 (.t 8), none⟩,
  .one ⟨some 10, .bin .lss (.t 7) (.t 9), none⟩]
def c38k7 : ICode := .kill (dead 25 [0, 1, 5, 6]) (.ops c38r7)
def c38l2 : ICode := (.seq (.seq c38k7 c38s6) c38s5)
def c38s8 : ICode := (.block 0 (.loop c38l2))
def c38r9 : List Seg := [
  .one ⟨some 6, .mv (.c (.int .i64 0)), none⟩]
def c38k9 : ICode := .kill (dead 25 [0, 1, 5]) (.ops c38r9)
def c38s10 : ICode := (.seq (.seq c38k9 c38s8) c38s1)
def c38r11 : List Seg := [
  .one ⟨some 5, .mv (.c (.int .i64 0)), none⟩]
def c38k11 : ICode := .kill (dead 25 [0, 1]) (.ops c38r11)
def c38s12 : ICode := (.seq c38k11 c38s10)
def c38r13 : List Seg := [
  .one ⟨some 4, .mv (.c (.int .i64 0)), none⟩]
def c38k13 : ICode := .kill (dead 25 [0, 1]) (.ops c38r13)
def c38b : ICode := (.seq c38k13 c38s12)
def c38 : IFn := ⟨25, [.t 4], c38b⟩
def h38 : List (Nat × List Nat) := [(0, dead 25 [0, 1]), (1, dead 25 [0, 1]), (2, dead 25 [0, 1, 5]), (3, dead 25 [0, 1, 5, 6]), (5, dead 25 [0, 1, 5, 6]), (4, dead 25 [0, 1, 5, 6]), (6, dead 25 [5])]
/-! tosher/tosherlaw08.tree -/
def c39r0 : List Seg := [
  .one ⟨some 70, .mv (.t 0), none⟩,
  .one ⟨some 71, .mv (.t 8), none⟩,
  .one ⟨some 4, .mv (.t 70), none⟩,
  .one ⟨some 5, .mv (.t 71), none⟩]
def c39k0 : ICode := .kill (dead 72 [0, 8]) (.ops c39r0)
def c39s1 : ICode := (.seq c39k0 .ret)
def c39r3 : List Seg := [
  .one ⟨some 49, .mv (.t 9), none⟩,
  .one ⟨some 50, .bin .add (.t 49) (.c (.int .i64 1)), none⟩,
  .one ⟨some 9, .mv (.t 50), none⟩]
def c39k3 : ICode := .kill (dead 72 [0, 6, 8, 9]) (.ops c39r3)
def c39r5 : List Seg := [
  .one ⟨some 56, .mv (.t 10), none⟩,
  .one ⟨some 57, .bin .add (.t 56) (.c (.int .i64 1)), none⟩,
  .one ⟨some 10, .mv (.t 57), none⟩]
def c39k5 : ICode := .kill (dead 72 [0, 6, 8, 9, 10]) (.ops c39r5)
def c39r6 : List Seg := [
  .one ⟨some 64, .mv (.t 8), none⟩,
  .one ⟨some 65, .mv (.t 9), none⟩,
  .one ⟨some 66, .mv (.t 10), none⟩,
  .one ⟨some 67, .mkagg [.int .i64 0, .int .i64 0] [(0, 1, (.t 65)), (1, 1, (.t 66))], none⟩,
  .one ⟨some 68, .mkslice 1 [.int .i64 0, .int .i64 0] [(0, 2, (.t 67))], none⟩,
  .one ⟨some 69, .app 2 16 (.t 64) (.t 68), none⟩,
  .one ⟨some 8, .mv (.t 69), none⟩]
def c39k6 : ICode := .kill (dead 72 [0, 6, 8, 9, 10]) (.ops c39r6)
def c39s7 : ICode := (.cond (.t 63) c39k6 .skip)
def c39r8 : List Seg := [
  .one ⟨some 58, .mv (.t 6), none⟩,
  .one ⟨some 59, .mv (.t 10), none⟩,
  .one ⟨some 60, .idxS 1 (.t 58) (.t 59), none⟩,
  .one ⟨some 61, .load1 (.t 60), none⟩,
  .one ⟨some 62, .mv (.t 9), none⟩,
  .one ⟨some 63, .bin .eql (.t 61) (.t 62), none⟩]
def c39k8 : ICode := .kill (dead 72 [0, 6, 8, 9, 10]) (.ops c39r8)
def c39s9 : ICode := (.seq (.block 5 (.seq c39k8 c39s7)) c39k5)
def c39s10 : ICode := (.cond (.t 55) .skip (.exit 4))
def c39r11 : List Seg := [
  .one ⟨some 53, .mv (.t 10), none⟩,
  .one ⟨some 54, .mv (.t 0), none⟩,
  .one ⟨some 55, .bin .lss (.t 53) (.t 54), none⟩]
def c39k11 : ICode := .kill (dead 72 [0, 6, 8, 9, 10]) (.ops c39r11)
def c39l4 : ICode := (.seq (.seq c39k11 c39s10) c39s9)
def c39s12 : ICode := (.block 4 (.loop c39l4))
def c39r13 : List Seg := [
  .one ⟨some 51, .mv (.t 9), none⟩,
  .one ⟨some 52, .bin .add (.t 51) (.c (.int .i64 1)), none⟩,
  .one ⟨some 10, .mv (.t 52), none⟩]
def c39k13 : ICode := .kill (dead 72 [0, 6, 8, 9]) (.ops c39r13)
def c39s14 : ICode := (.seq (.block 3 (.seq c39k13 c39s12)) c39k3)
def c39s15 : ICode := (.cond (.t 48) .skip (.exit 2))
def c39r16 : List Seg := [
  .one ⟨some 46, .mv (.t 9), none⟩,
  .one ⟨some 47, .mv (.t 0), none⟩,
  .one ⟨some 48, .bin .lss (.t 46) (.t 47), none⟩]
def c39k16 : ICode := .kill (dead 72 [0, 6, 8, 9]) (.ops c39r16)
def c39l2 : ICode := (.seq (.seq c39k16 c39s15) c39s14)
def c39s17 : ICode := (.block 2 (.loop c39l2))
def c39r18 : List Seg := [
  .one ⟨some 9, .mv (.c (.int .i64 0)), none⟩]
def c39k18 : ICode := .kill (dead 72 [0, 6, 8]) (.ops c39r18)
def c39s19 : ICode := (.seq (.seq c39k18 c39s17) c39s1)
def c39r20 : List Seg := [
  .one ⟨some 8, .mv (.c .nilslice), none⟩]
def c39k20 : ICode := .kill (dead 72 [0, 6]) (.ops c39r20)
def c39s21 : ICode := (.seq c39k20 c39s19)
def c39r23 : List Seg := [
  .one ⟨some 21, .mv (.t 7), none⟩,
  .one ⟨some 22, .bin .add (.t 21) (.c (.int .i64 1)), none⟩,
  .one ⟨some 7, .mv (.t 22), none⟩]
def c39k23 : ICode := .kill (dead 72 [0, 1, 6, 7]) (.ops c39r23)
def c39r24 : List Seg := [
  .one ⟨some 33, .mv (.t 6), none⟩,
  .one ⟨some 34, .mv (.t 7), none⟩,
  .one ⟨some 35, .mv (.t 1), none⟩,
  .one ⟨some 36, .mv (.t 7), none⟩,
  .one ⟨some 37, .bin .sub (.t 36) (.c (.int .i64 1)), none⟩,
  .one ⟨some 38, .idxS 1 (.t 35) (.t 37), none⟩,
  .one ⟨some 39, .load1 (.t 38), none⟩,
  .one ⟨some 40, .conv .u64 (.t 39), none⟩,
  .one ⟨some 41, .mv (.t 7), none⟩,
  .one ⟨some 42, .conv .u64 (.t 41), none⟩,
  .one ⟨some 43, .bin .rem (.t 40) (.t 42), none⟩,
  .one ⟨some 44, .conv .i64 (.t 43), none⟩,
  .one ⟨some 45, .idxS 1 (.t 33) (.t 34), none⟩,
  .one ⟨none, .store1 (.t 45) (.t 44), none⟩]
def c39k24 : ICode := .kill (dead 72 [0, 1, 6, 7]) (.ops c39r24)
def c39s25 : ICode := (.cond (.t 32) c39k24 .skip)
def c39r26 : List Seg := [
  .one ⟨some 28, .mv (.t 7), none⟩,
  .one ⟨some 29, .bin .sub (.t 28) (.c (.int .i64 1)), none⟩,
  .one ⟨some 30, .mv (.t 1), none⟩,
  .one ⟨some 31, .len 0 (.t 30), none⟩,
  .one ⟨some 32, .bin .lss (.t 29) (.t 31), none⟩]
def c39k26 : ICode := .kill (dead 72 [0, 1, 6, 7]) (.ops c39r26)
def c39s27 : ICode := (.seq c39k26 c39s25)
def c39r28 : List Seg := [
  .one ⟨some 23, .mv (.t 6), none⟩,
  .one ⟨some 24, .mv (.t 7), none⟩,
  .one ⟨some 25, .mv (.t 7), none⟩,
  .one ⟨some 26, .bin .sub (.t 25) (.c (.int .i64 1)), none⟩,
  .one ⟨some 27, .idxS 1 (.t 23) (.t 24), none⟩,
  .one ⟨none, .store1 (.t 27) (.t 26), none⟩]
def c39k28 : ICode := .kill (dead 72 [0, 1, 6, 7]) (.ops c39r28)
def c39s29 : ICode := (.seq (.block 1 (.seq c39k28 c39s27)) c39k23)
def c39s30 : ICode := (.cond (.t 20) .skip (.exit 0))
def c39r31 : List Seg := [
  .one ⟨some 18, .mv (.t 7), none⟩,
  .one ⟨some 19, .mv (.t 0), none⟩,
  .one ⟨some 20, .bin .lss (.t 18) (.t 19), none⟩]
def c39k31 : ICode := .kill (dead 72 [0, 1, 6, 7]) (.ops c39r31)
def c39l22 : ICode := (.seq (.seq c39k31 c39s30) c39s29)
def c39s32 : ICode := (.block 0 (.loop c39l22))
def c39r33 : List Seg := [
  .one ⟨some 7, .mv (.c (.int .i64 1)), none⟩]
def c39k33 : ICode := .kill (dead 72 [0, 1, 6]) (.ops c39r33)
def c39s34 : ICode := (.seq (.seq c39k33 c39s32) c39s21)
def c39r35 : List Seg := [
  .one ⟨some 16, .mv (.t 0), none⟩,
  .one ⟨some 17, .make [.int .i64 0] 8 (.t 16) (.t 16), none⟩,
  .one ⟨some 6, .mv (.t 17), none⟩]
def c39k35 : ICode := .kill (dead 72 [0, 1]) (.ops c39r35)
def c39s36 : ICode := (.seq c39k35 c39s34)
def c39r37 : List Seg := [
  .one ⟨some 11, .mv (.t 0), none⟩,
  .one ⟨some 12, .conv .u64 (.t 11), none⟩,
  .one ⟨some 13, .bin .rem (.t 12) (.c (.int .u64 10)), none⟩,
  .one ⟨some 14, .conv .i64 (.t 13), none⟩,
  .one ⟨some 15, .bin .add (.c (.int .i64 1)) (.t 14), none⟩,
  .one ⟨some 0, .mv (.t 15), none⟩]
def c39k37 : ICode := .kill (dead 72 [0, 1]) (.ops c39r37)
def c39s38 : ICode := (.seq c39k37 c39s36)
def c39r39 : List Seg := [
  .one ⟨some 4, .mv (.c (.int .i64 0)), none⟩,
  .one ⟨some 5, .mv (.c .nilslice), none⟩]
def c39k39 : ICode := .kill (dead 72 [0, 1]) (.ops c39r39)
def c39b : ICode := (.seq c39k39 c39s38)
def c39 : IFn := ⟨72, [.t 4, .t 5], c39b⟩
def h39 : List (Nat × List Nat) := [(0, dead 72 [0, 1]), (1, dead 72 [0, 1]), (2, dead 72 [0, 1]), (3, dead 72 [0, 1, 6]), (4, dead 72 [0, 1, 6, 7]), (6, dead 72 [0, 1, 6, 7]), (7, dead 72 [0, 1, 6, 7]), (8, dead 72 [0, 1, 6, 7]), (5, dead 72 [0, 1, 6, 7]), (9, dead 72 [0, 6]), (10, dead 72 [0, 6, 8]), (11, dead 72 [0, 6, 8, 9]), (13, dead 72 [0, 6, 8, 9]), (14, dead 72 [0, 6, 8, 9, 10]), (16, dead 72 [0, 6, 8, 9, 10]), (17, dead 72 [0, 6, 8, 9, 10]), (15, dead 72 [0, 6, 8, 9, 10]), (12, dead 72 [0, 6, 8, 9]), (18, dead 72 [0, 8])]
/-! tosher/search.AreMarks -/
def c40r0 : List Seg := [
  .one ⟨some 6, .mv (.c (.bool true)), none⟩,
  .one ⟨some 7, .mv (.c (.int .i64 0)), none⟩]
def c40k0 : ICode := .kill (dead 81 []) (.ops c40r0)
def c40s1 : ICode := (.seq c40k0 .ret)
def c40r3 : List Seg := [
  .one ⟨some 80, .bin .add (.t 37) (.c (.int .i64 1)), none⟩,
  .one ⟨some 37, .mv (.t 80), none⟩]
def c40k3 : ICode := .kill (dead 81 [2, 8, 35, 36, 37]) (.ops c40r3)
def c40r5 : List Seg := [
  .one ⟨some 79, .bin .add (.t 64) (.c (.int .i64 1)), none⟩,
  .one ⟨some 64, .mv (.t 79), none⟩]
def c40k5 : ICode := .kill (dead 81 [2, 8, 10, 11, 35, 36, 37, 62, 63, 64]) (.ops c40r5)
def c40r6 : List Seg := [
  .one ⟨some 6, .mv (.c (.bool false)), none⟩,
  .one ⟨some 7, .mv (.c (.int .i64 0)), none⟩]
def c40k6 : ICode := .kill (dead 81 []) (.ops c40r6)
def c40s7 : ICode := (.cond (.t 78) (.seq c40k6 .ret) .skip)
def c40r8 : List Seg := [
  .one ⟨some 68, .mv (.t 16), none⟩,
  .one ⟨some 69, .mv (.t 10), none⟩,
  .one ⟨some 70, .bin .neq (.t 68) (.t 69), none⟩,
  .one ⟨some 71, .mv (.t 70), none⟩,
  .one ⟨some 72, .mv (.t 2), some (71, true)⟩,
  .one ⟨some 73, .mv (.t 16), some (71, true)⟩,
  .one ⟨some 74, .idxS 1 (.t 72) (.t 73), some (71, true)⟩,
  .one ⟨some 75, .load1 (.t 74), some (71, true)⟩,
  .one ⟨some 76, .mv (.t 11), some (71, true)⟩,
  .one ⟨some 77, .bin .eql (.t 75) (.t 76), some (71, true)⟩,
  .one ⟨some 78, .pick (.t 71) (.t 77) (.c (.bool false)), none⟩]
def c40k8 : ICode := .kill (dead 81 [2, 8, 10, 11, 16, 35, 36, 37, 62, 63, 64]) (.ops c40r8)
def c40s9 : ICode := (.seq c40k8 c40s7)
def c40r10 : List Seg := [
  .one ⟨some 66, .idxS 1 (.t 62) (.t 64), none⟩,
  .one ⟨some 67, .load1 (.t 66), none⟩,
  .one ⟨some 16, .mv (.t 67), none⟩]
def c40k10 : ICode := .kill (dead 81 [2, 8, 10, 11, 35, 36, 37, 62, 63, 64]) (.ops c40r10)
def c40s11 : ICode := (.seq (.block 5 (.seq c40k10 c40s9)) c40k5)
def c40s12 : ICode := (.seq (.cond (.t 65) .skip (.exit 4)) c40s11)
def c40r13 : List Seg := [
  .one ⟨some 65, .bin .lss (.t 64) (.t 63), none⟩]
def c40k13 : ICode := .kill (dead 81 [2, 8, 10, 11, 35, 36, 37, 62, 63, 64]) (.ops c40r13)
def c40l4 : ICode := (.seq c40k13 c40s12)
def c40s14 : ICode := (.block 4 (.loop c40l4))
def c40r15 : List Seg := [
  .one ⟨some 58, .mv (.t 8), none⟩,
  .one ⟨some 59, .mv (.t 10), none⟩,
  .one ⟨some 60, .mv (.t 12), none⟩,
  .one ⟨some 61, .call (.c (.func 70 [])) [(.t 58), (.t 59), (.t 60)], none⟩,
  .one ⟨some 62, .call (.c (.func 69 [])) [(.t 61)], none⟩,
  .one ⟨some 63, .len 0 (.t 62), none⟩,
  .one ⟨some 64, .mv (.c (.int .i64 0)), none⟩]
def c40k15 : ICode := .kill (dead 81 [2, 8, 10, 11, 12, 35, 36, 37]) (.ops c40r15)
def c40s16 : ICode := (.seq c40k15 c40s14)
def c40r18 : List Seg := [
  .one ⟨some 57, .bin .add (.t 44) (.c (.int .i64 1)), none⟩,
  .one ⟨some 44, .mv (.t 57), none⟩]
def c40k18 : ICode := .kill (dead 81 [2, 8, 10, 11, 12, 35, 36, 37, 42, 43, 44]) (.ops c40r18)
def c40r19 : List Seg := [
  .one ⟨some 52, .mv (.t 12), none⟩,
  .one ⟨some 53, .mv (.t 13), none⟩,
  .one ⟨some 54, .conv .u64 (.t 53), none⟩,
  .one ⟨some 55, .bin .shl (.c (.int .i64 1)) (.t 54), none⟩,
  .one ⟨some 56, .bin .or (.t 52) (.t 55), none⟩,
  .one ⟨some 12, .mv (.t 56), none⟩]
def c40k19 : ICode := .kill (dead 81 [2, 8, 10, 11, 12, 13, 35, 36, 37, 42, 43, 44]) (.ops c40r19)
def c40s20 : ICode := (.cond (.t 51) c40k19 .skip)
def c40r21 : List Seg := [
  .one ⟨some 49, .mv (.t 14), none⟩,
  .one ⟨some 50, .mv (.t 11), none⟩,
  .one ⟨some 51, .bin .leq (.t 49) (.t 50), none⟩]
def c40k21 : ICode := .kill (dead 81 [2, 8, 10, 11, 12, 13, 14, 35, 36, 37, 42, 43, 44]) (.ops c40r21)
def c40s22 : ICode := (.seq c40k21 c40s20)
def c40r23 : List Seg := [
  .one ⟨some 46, .mv (.t 44), none⟩,
  .one ⟨some 47, .idxS 1 (.t 42) (.t 44), none⟩,
  .one ⟨some 48, .load1 (.t 47), none⟩,
  .one ⟨some 13, .mv (.t 46), none⟩,
  .one ⟨some 14, .mv (.t 48), none⟩]
def c40k23 : ICode := .kill (dead 81 [2, 8, 10, 11, 12, 35, 36, 37, 42, 43, 44]) (.ops c40r23)
def c40s24 : ICode := (.seq (.block 3 (.seq c40k23 c40s22)) c40k18)
def c40s25 : ICode := (.seq (.cond (.t 45) .skip (.exit 2)) c40s24)
def c40r26 : List Seg := [
  .one ⟨some 45, .bin .lss (.t 44) (.t 43), none⟩]
def c40k26 : ICode := .kill (dead 81 [2, 8, 10, 11, 12, 35, 36, 37, 42, 43, 44]) (.ops c40r26)
def c40l17 : ICode := (.seq c40k26 c40s25)
def c40s27 : ICode := (.block 2 (.loop c40l17))
def c40r28 : List Seg := [
  .one ⟨some 42, .mv (.t 2), none⟩,
  .one ⟨some 43, .len 0 (.t 42), none⟩,
  .one ⟨some 44, .mv (.c (.int .i64 0)), none⟩]
def c40k28 : ICode := .kill (dead 81 [2, 8, 10, 11, 12, 35, 36, 37]) (.ops c40r28)
def c40s29 : ICode := (.seq (.seq c40k28 c40s27) c40s16)
def c40r30 : List Seg := [
  .one ⟨some 12, .mv (.c (.int .i64 0)), none⟩]
def c40k30 : ICode := .kill (dead 81 [2, 8, 10, 11, 35, 36, 37]) (.ops c40r30)
def c40s31 : ICode := (.seq c40k30 c40s29)
def c40r32 : List Seg := [
  .one ⟨some 39, .mv (.t 37), none⟩,
  .one ⟨some 40, .idxS 1 (.t 35) (.t 37), none⟩,
  .one ⟨some 41, .load1 (.t 40), none⟩,
  .one ⟨some 10, .mv (.t 39), none⟩,
  .one ⟨some 11, .mv (.t 41), none⟩]
def c40k32 : ICode := .kill (dead 81 [2, 8, 35, 36, 37]) (.ops c40r32)
def c40s33 : ICode := (.seq (.block 1 (.seq c40k32 c40s31)) c40k3)
def c40s34 : ICode := (.seq (.cond (.t 38) .skip (.exit 0)) c40s33)
def c40r35 : List Seg := [
  .one ⟨some 38, .bin .lss (.t 37) (.t 36), none⟩]
def c40k35 : ICode := .kill (dead 81 [2, 8, 35, 36, 37]) (.ops c40r35)
def c40l2 : ICode := (.seq c40k35 c40s34)
def c40s36 : ICode := (.block 0 (.loop c40l2))
def c40r37 : List Seg := [
  .one ⟨some 35, .mv (.t 2), none⟩,
  .one ⟨some 36, .len 0 (.t 35), none⟩,
  .one ⟨some 37, .mv (.c (.int .i64 0)), none⟩]
def c40k37 : ICode := .kill (dead 81 [2, 8]) (.ops c40r37)
def c40s38 : ICode := (.seq (.seq c40k37 c40s36) c40s1)
def c40r39 : List Seg := [
  .one ⟨some 6, .mv (.c (.bool false)), none⟩,
  .one ⟨some 7, .mv (.c (.int .i64 0)), none⟩]
def c40k39 : ICode := .kill (dead 81 []) (.ops c40r39)
def c40s40 : ICode := (.cond (.t 34) (.seq c40k39 .ret) .skip)
def c40r41 : List Seg := [
  .one ⟨some 26, .mv (.t 2), none⟩,
  .one ⟨some 27, .len 0 (.t 26), none⟩,
  .one ⟨some 28, .mv (.t 0), none⟩,
  .one ⟨some 29, .bin .neq (.t 27) (.t 28), none⟩,
  .one ⟨some 30, .mv (.t 29), none⟩,
  .one ⟨some 31, .mv (.t 2), some (30, false)⟩,
  .one ⟨some 32, .call (.c (.func 55 [])) [(.c (.int .i64 0)), (.c (.int .i64 10)), (.t 31)], some (30, false)⟩,
  .one ⟨some 33, .un .not (.t 32), some (30, false)⟩,
  .one ⟨some 34, .pick (.t 30) (.c (.bool true)) (.t 33), none⟩]
def c40k41 : ICode := .kill (dead 81 [0, 2, 8]) (.ops c40r41)
def c40s42 : ICode := (.seq (.seq c40k41 c40s40) c40s38)
def c40r43 : List Seg := [
  .one ⟨some 25, .mv (.t 9), none⟩,
  .one ⟨some 6, .mv (.c (.bool false)), none⟩,
  .one ⟨some 7, .mv (.t 25), none⟩]
def c40k43 : ICode := .kill (dead 81 [9]) (.ops c40r43)
def c40s44 : ICode := (.cond (.t 24) (.seq c40k43 .ret) .skip)
def c40r45 : List Seg := [
  .one ⟨some 23, .mv (.t 9), none⟩,
  .one ⟨some 24, .bin .neq (.t 23) (.c (.int .i64 0)), none⟩]
def c40k45 : ICode := .kill (dead 81 [0, 2, 8, 9]) (.ops c40r45)
def c40s46 : ICode := (.seq (.seq c40k45 c40s44) c40s42)
def c40r47 : List Seg := [
  .one ⟨some 18, .mv (.t 0), none⟩,
  .one ⟨some 19, .mv (.t 1), none⟩,
  .one ⟨some 20, .call (.c (.func 68 [])) [(.t 18), (.t 19)], none⟩,
  .one ⟨some 17, .mv (.t 20), none⟩,
  .one ⟨some 21, .ext (.t 17) 0, none⟩,
  .one ⟨some 22, .ext (.t 17) 1, none⟩,
  .one ⟨some 8, .mv (.t 21), none⟩,
  .one ⟨some 9, .mv (.t 22), none⟩]
def c40k47 : ICode := .kill (dead 81 [0, 1, 2]) (.ops c40r47)
def c40s48 : ICode := (.seq c40k47 c40s46)
def c40r49 : List Seg := [
  .one ⟨some 6, .mv (.c (.bool false)), none⟩,
  .one ⟨some 7, .mv (.c (.int .i64 0)), none⟩]
def c40k49 : ICode := .kill (dead 81 [0, 1, 2]) (.ops c40r49)
def c40b : ICode := (.seq c40k49 c40s48)
def c40 : IFn := ⟨81, [.t 6, .t 7], c40b⟩
def h40 : List (Nat × List Nat) := [(0, dead 81 [0, 1, 2]), (1, dead 81 [0, 1, 2]), (2, dead 81 [0, 2, 8, 9]), (3, dead 81 [9]), (4, dead 81 [0, 2, 8]), (5, dead 81 []), (6, dead 81 [2, 8]), (7, dead 81 [2, 8, 35, 36, 37]), (8, dead 81 [2, 8, 35, 36, 37]), (9, dead 81 [2, 8, 10, 11, 35, 36, 37]), (10, dead 81 [2, 8, 10, 11, 12, 35, 36, 37]), (11, dead 81 [2, 8, 10, 11, 12, 35, 36, 37, 42, 43, 44]), (12, dead 81 [2, 8, 10, 11, 12, 35, 36, 37, 42, 43, 44]), (13, dead 81 [2, 8, 10, 11, 12, 13, 14, 35, 36, 37, 42, 43, 44]), (14, dead 81 [2, 8, 10, 11, 12, 13, 35, 36, 37, 42, 43, 44]), (15, dead 81 [2, 8, 10, 11, 12, 35, 36, 37, 42, 43, 44]), (16, dead 81 [2, 8, 10, 11, 12, 35, 36, 37]), (17, dead 81 [2, 8, 10, 11, 35, 36, 37, 62, 63, 64]), (18, dead 81 [2, 8, 10, 11, 35, 36, 37, 62, 63, 64]), (19, dead 81 [2, 8, 10, 11, 16, 35, 36, 37, 62, 63, 64]), (20, dead 81 []), (21, dead 81 [2, 8, 10, 11, 35, 36, 37, 62, 63, 64]), (22, dead 81 [2, 8, 35, 36, 37]), (23, dead 81 [])]
/-! tosher/tosherref08.Marks -/
def c41r0 : List Seg := [
  .one ⟨some 6, .mv (.c (.bool true)), none⟩]
def c41k0 : ICode := .kill (dead 82 []) (.ops c41r0)
def c41s1 : ICode := (.seq c41k0 .ret)
def c41r3 : List Seg := [
  .one ⟨some 37, .mv (.t 8), none⟩,
  .one ⟨some 38, .bin .add (.t 37) (.c (.int .i64 1)), none⟩,
  .one ⟨some 8, .mv (.t 38), none⟩]
def c41k3 : ICode := .kill (dead 82 [0, 1, 2, 8]) (.ops c41r3)
def c41r5 : List Seg := [
  .one ⟨some 72, .mv (.t 13), none⟩,
  .one ⟨some 73, .bin .add (.t 72) (.c (.int .i64 1)), none⟩,
  .one ⟨some 13, .mv (.t 73), none⟩]
def c41k5 : ICode := .kill (dead 82 [0, 1, 2, 8, 10, 12, 13]) (.ops c41r5)
def c41r6 : List Seg := [
  .one ⟨some 6, .mv (.c (.bool false)), none⟩]
def c41k6 : ICode := .kill (dead 82 []) (.ops c41r6)
def c41s7 : ICode := (.cond (.t 81) (.seq c41k6 .ret) .skip)
def c41r8 : List Seg := [
  .one ⟨some 74, .mv (.t 12), none⟩,
  .one ⟨some 75, .mv (.t 13), none⟩,
  .one ⟨some 76, .idxS 1 (.t 74) (.t 75), none⟩,
  .one ⟨some 77, .load1 (.t 76), none⟩,
  .one ⟨some 78, .mv (.t 10), none⟩,
  .one ⟨some 79, .bin .and (.t 77) (.t 78), none⟩,
  .one ⟨some 80, .call (.c (.func 72 [])) [(.t 79)], none⟩,
  .one ⟨some 81, .bin .gtr (.t 80) (.c (.int .i64 1)), none⟩]
def c41k8 : ICode := .kill (dead 82 [0, 1, 2, 8, 10, 12, 13]) (.ops c41r8)
def c41s9 : ICode := (.seq (.block 7 (.seq c41k8 c41s7)) c41k5)
def c41s10 : ICode := (.cond (.t 71) .skip (.exit 6))
def c41r11 : List Seg := [
  .one ⟨some 68, .mv (.t 13), none⟩,
  .one ⟨some 69, .mv (.t 12), none⟩,
  .one ⟨some 70, .len 0 (.t 69), none⟩,
  .one ⟨some 71, .bin .lss (.t 68) (.t 70), none⟩]
def c41k11 : ICode := .kill (dead 82 [0, 1, 2, 8, 10, 12, 13]) (.ops c41r11)
def c41l4 : ICode := (.seq (.seq c41k11 c41s10) c41s9)
def c41s12 : ICode := (.block 6 (.loop c41l4))
def c41r13 : List Seg := [
  .one ⟨some 13, .mv (.c (.int .i64 0)), none⟩]
def c41k13 : ICode := .kill (dead 82 [0, 1, 2, 8, 10, 12]) (.ops c41r13)
def c41s14 : ICode := (.seq c41k13 c41s12)
def c41r15 : List Seg := [
  .one ⟨some 64, .mv (.t 0), none⟩,
  .one ⟨some 65, .mv (.t 1), none⟩,
  .one ⟨some 66, .mv (.t 9), none⟩,
  .one ⟨some 67, .call (.c (.func 71 [])) [(.t 64), (.t 65), (.t 66)], none⟩,
  .one ⟨some 12, .mv (.t 67), none⟩]
def c41k15 : ICode := .kill (dead 82 [0, 1, 2, 8, 9, 10]) (.ops c41r15)
def c41s16 : ICode := (.seq c41k15 c41s14)
def c41r18 : List Seg := [
  .one ⟨some 42, .mv (.t 11), none⟩,
  .one ⟨some 43, .bin .add (.t 42) (.c (.int .i64 1)), none⟩,
  .one ⟨some 11, .mv (.t 43), none⟩]
def c41k18 : ICode := .kill (dead 82 [0, 1, 2, 8, 9, 10, 11]) (.ops c41r18)
def c41r19 : List Seg := [
  .one ⟨some 60, .mv (.t 10), none⟩,
  .one ⟨some 61, .mv (.t 11), none⟩,
  .one ⟨some 62, .bin .shl (.c (.int .i64 1)) (.t 61), none⟩,
  .one ⟨some 63, .bin .or (.t 60) (.t 62), none⟩,
  .one ⟨some 10, .mv (.t 63), none⟩]
def c41k19 : ICode := .kill (dead 82 [0, 1, 2, 8, 9, 10, 11]) (.ops c41r19)
def c41s20 : ICode := (.cond (.t 59) c41k19 .skip)
def c41r21 : List Seg := [
  .one ⟨some 54, .mv (.t 2), none⟩,
  .one ⟨some 55, .mv (.t 11), none⟩,
  .one ⟨some 56, .idxS 1 (.t 54) (.t 55), none⟩,
  .one ⟨some 57, .load1 (.t 56), none⟩,
  .one ⟨some 58, .mv (.t 8), none⟩,
  .one ⟨some 59, .bin .eql (.t 57) (.t 58), none⟩]
def c41k21 : ICode := .kill (dead 82 [0, 1, 2, 8, 9, 10, 11]) (.ops c41r21)
def c41s22 : ICode := (.seq c41k21 c41s20)
def c41r23 : List Seg := [
  .one ⟨some 50, .mv (.t 9), none⟩,
  .one ⟨some 51, .mv (.t 11), none⟩,
  .one ⟨some 52, .bin .shl (.c (.int .i64 1)) (.t 51), none⟩,
  .one ⟨some 53, .bin .or (.t 50) (.t 52), none⟩,
  .one ⟨some 9, .mv (.t 53), none⟩]
def c41k23 : ICode := .kill (dead 82 [0, 1, 2, 8, 9, 10, 11]) (.ops c41r23)
def c41s24 : ICode := (.cond (.t 49) c41k23 .skip)
def c41r25 : List Seg := [
  .one ⟨some 44, .mv (.t 2), none⟩,
  .one ⟨some 45, .mv (.t 11), none⟩,
  .one ⟨some 46, .idxS 1 (.t 44) (.t 45), none⟩,
  .one ⟨some 47, .load1 (.t 46), none⟩,
  .one ⟨some 48, .mv (.t 8), none⟩,
  .one ⟨some 49, .bin .leq (.t 47) (.t 48), none⟩]
def c41k25 : ICode := .kill (dead 82 [0, 1, 2, 8, 9, 10, 11]) (.ops c41r25)
def c41s26 : ICode := (.seq (.block 5 (.seq (.seq c41k25 c41s24) c41s22)) c41k18)
def c41s27 : ICode := (.cond (.t 41) .skip (.exit 4))
def c41r28 : List Seg := [
  .one ⟨some 39, .mv (.t 11), none⟩,
  .one ⟨some 40, .mv (.t 0), none⟩,
  .one ⟨some 41, .bin .lss (.t 39) (.t 40), none⟩]
def c41k28 : ICode := .kill (dead 82 [0, 1, 2, 8, 9, 10, 11]) (.ops c41r28)
def c41l17 : ICode := (.seq (.seq c41k28 c41s27) c41s26)
def c41s29 : ICode := (.block 4 (.loop c41l17))
def c41r30 : List Seg := [
  .one ⟨some 11, .mv (.c (.int .i64 0)), none⟩]
def c41k30 : ICode := .kill (dead 82 [0, 1, 2, 8, 9, 10]) (.ops c41r30)
def c41s31 : ICode := (.seq (.seq c41k30 c41s29) c41s16)
def c41r32 : List Seg := [
  .one ⟨some 9, .mv (.c (.int .i64 0)), none⟩,
  .one ⟨some 10, .mv (.c (.int .i64 0)), none⟩]
def c41k32 : ICode := .kill (dead 82 [0, 1, 2, 8]) (.ops c41r32)
def c41s33 : ICode := (.seq (.block 3 (.seq c41k32 c41s31)) c41k3)
def c41s34 : ICode := (.cond (.t 36) .skip (.exit 2))
def c41r35 : List Seg := [
  .one ⟨some 35, .mv (.t 8), none⟩,
  .one ⟨some 36, .bin .leq (.t 35) (.c (.int .i64 10)), none⟩]
def c41k35 : ICode := .kill (dead 82 [0, 1, 2, 8]) (.ops c41r35)
def c41l2 : ICode := (.seq (.seq c41k35 c41s34) c41s33)
def c41s36 : ICode := (.block 2 (.loop c41l2))
def c41r37 : List Seg := [
  .one ⟨some 8, .mv (.c (.int .i64 0)), none⟩]
def c41k37 : ICode := .kill (dead 82 [0, 1, 2]) (.ops c41r37)
def c41s38 : ICode := (.seq (.seq c41k37 c41s36) c41s1)
def c41r40 : List Seg := [
  .one ⟨some 21, .mv (.t 7), none⟩,
  .one ⟨some 22, .bin .add (.t 21) (.c (.int .i64 1)), none⟩,
  .one ⟨some 7, .mv (.t 22), none⟩]
def c41k40 : ICode := .kill (dead 82 [0, 1, 2, 7]) (.ops c41r40)
def c41r41 : List Seg := [
  .one ⟨some 6, .mv (.c (.bool false)), none⟩]
def c41k41 : ICode := .kill (dead 82 []) (.ops c41r41)
def c41s42 : ICode := (.cond (.t 34) (.seq c41k41 .ret) .skip)
def c41r43 : List Seg := [
  .one ⟨some 23, .mv (.t 2), none⟩,
  .one ⟨some 24, .mv (.t 7), none⟩,
  .one ⟨some 25, .idxS 1 (.t 23) (.t 24), none⟩,
  .one ⟨some 26, .load1 (.t 25), none⟩,
  .one ⟨some 27, .bin .lss (.t 26) (.c (.int .i64 0)), none⟩,
  .one ⟨some 28, .mv (.t 27), none⟩,
  .one ⟨some 29, .mv (.t 2), some (28, false)⟩,
  .one ⟨some 30, .mv (.t 7), some (28, false)⟩,
  .one ⟨some 31, .idxS 1 (.t 29) (.t 30), some (28, false)⟩,
  .one ⟨some 32, .load1 (.t 31), some (28, false)⟩,
  .one ⟨some 33, .bin .gtr (.t 32) (.c (.int .i64 10)), some (28, false)⟩,
  .one ⟨some 34, .pick (.t 28) (.c (.bool true)) (.t 33), none⟩]
def c41k43 : ICode := .kill (dead 82 [0, 1, 2, 7]) (.ops c41r43)
def c41s44 : ICode := (.seq (.block 1 (.seq c41k43 c41s42)) c41k40)
def c41s45 : ICode := (.cond (.t 20) .skip (.exit 0))
def c41r46 : List Seg := [
  .one ⟨some 18, .mv (.t 7), none⟩,
  .one ⟨some 19, .mv (.t 0), none⟩,
  .one ⟨some 20, .bin .lss (.t 18) (.t 19), none⟩]
def c41k46 : ICode := .kill (dead 82 [0, 1, 2, 7]) (.ops c41r46)
def c41l39 : ICode := (.seq (.seq c41k46 c41s45) c41s44)
def c41s47 : ICode := (.block 0 (.loop c41l39))
def c41r48 : List Seg := [
  .one ⟨some 7, .mv (.c (.int .i64 0)), none⟩]
def c41k48 : ICode := .kill (dead 82 [0, 1, 2]) (.ops c41r48)
def c41s49 : ICode := (.seq (.seq c41k48 c41s47) c41s38)
def c41r50 : List Seg := [
  .one ⟨some 6, .mv (.c (.bool false)), none⟩]
def c41k50 : ICode := .kill (dead 82 []) (.ops c41r50)
def c41s51 : ICode := (.cond (.t 17) (.seq c41k50 .ret) .skip)
def c41r52 : List Seg := [
  .one ⟨some 14, .mv (.t 2), none⟩,
  .one ⟨some 15, .len 0 (.t 14), none⟩,
  .one ⟨some 16, .mv (.t 0), none⟩,
  .one ⟨some 17, .bin .neq (.t 15) (.t 16), none⟩]
def c41k52 : ICode := .kill (dead 82 [0, 1, 2]) (.ops c41r52)
def c41s53 : ICode := (.seq (.seq c41k52 c41s51) c41s49)
def c41r54 : List Seg := [
  .one ⟨some 6, .mv (.c (.bool false)), none⟩]
def c41k54 : ICode := .kill (dead 82 [0, 1, 2]) (.ops c41r54)
def c41b : ICode := (.seq c41k54 c41s53)
def c41 : IFn := ⟨82, [.t 6], c41b⟩
def h41 : List (Nat × List Nat) := [(0, dead 82 [0, 1, 2]), (1, dead 82 [0, 1, 2]), (2, dead 82 []), (3, dead 82 [0, 1, 2]), (4, dead 82 [0, 1, 2, 7]), (6, dead 82 [0, 1, 2, 7]), (7, dead 82 []), (5, dead 82 [0, 1, 2, 7]), (8, dead 82 [0, 1, 2]), (9, dead 82 [0, 1, 2, 8]), (11, dead 82 [0, 1, 2, 8]), (12, dead 82 [0, 1, 2, 8, 9, 10]), (13, dead 82 [0, 1, 2, 8, 9, 10, 11]), (15, dead 82 [0, 1, 2, 8, 9, 10, 11]), (16, dead 82 [0, 1, 2, 8, 9, 10, 11]), (17, dead 82 [0, 1, 2, 8, 9, 10, 11]), (18, dead 82 [0, 1, 2, 8, 9, 10, 11]), (14, dead 82 [0, 1, 2, 8, 9, 10, 11]), (19, dead 82 [0, 1, 2, 8, 9, 10]), (20, dead 82 [0, 1, 2, 8, 10, 12]), (21, dead 82 [0, 1, 2, 8, 10, 12, 13]), (23, dead 82 [0, 1, 2, 8, 10, 12, 13]), (24, dead 82 []), (22, dead 82 [0, 1, 2, 8, 10, 12, 13]), (10, dead 82 [0, 1, 2, 8]), (25, dead 82 [])]
/-! tosher/search.Marks -/
def c42r0 : List Seg := [
  .one ⟨some 29, .load1 (.t 9), none⟩,
  .one ⟨some 4, .mv (.t 29), none⟩,
  .one ⟨some 5, .mv (.c (.int .i64 0)), none⟩]
def c42k0 : ICode := .kill (dead 30 [9]) (.ops c42r0)
def c42s1 : ICode := (.seq c42k0 .ret)
def c42r2 : List Seg := [
  .grp [(⟨some 25, .load1 (.t 10), none⟩, 0), (⟨some 26, .load1 (.t 6), none⟩, 0), (⟨some 27, .call (.c (.func 78 [])) [(.t 26)], none⟩, 2)],
  .one ⟨some 28, .call (.t 25) [(.t 27)], none⟩]
def c42k2 : ICode := .kill (dead 30 [6, 9, 10]) (.ops c42r2)
def c42s3 : ICode := (.seq c42k2 c42s1)
def c42r4 : List Seg := [
  .one ⟨some 24, .mkfn 74 [(.t 8), (.t 9), (.t 6), (.t 10)], none⟩,
  .one ⟨none, .store1 (.t 10) (.t 24), none⟩]
def c42k4 : ICode := .kill (dead 30 [6, 8, 9, 10]) (.ops c42r4)
def c42s5 : ICode := (.seq c42k4 c42s3)
def c42r6 : List Seg := [
  .one ⟨some 10, .box (.c .nilfunc), none⟩]
def c42k6 : ICode := .kill (dead 30 [6, 8, 9]) (.ops c42r6)
def c42s7 : ICode := (.seq c42k6 c42s5)
def c42r8 : List Seg := [
  .one ⟨some 22, .mv (.t 0), none⟩,
  .one ⟨some 23, .make [.int .i64 0] 8 (.t 22) (.t 22), none⟩,
  .one ⟨some 9, .box (.c .nilslice), none⟩,
  .one ⟨none, .store1 (.t 9) (.t 23), none⟩]
def c42k8 : ICode := .kill (dead 30 [0, 6, 8]) (.ops c42r8)
def c42s9 : ICode := (.seq c42k8 c42s7)
def c42r10 : List Seg := [
  .one ⟨some 20, .load1 (.t 6), none⟩,
  .one ⟨some 21, .call (.c (.func 73 [])) [(.t 20)], none⟩,
  .one ⟨some 8, .box (.c .nilptr), none⟩,
  .one ⟨none, .store1 (.t 8) (.t 21), none⟩]
def c42k10 : ICode := .kill (dead 30 [0, 6]) (.ops c42r10)
def c42s11 : ICode := (.seq c42k10 c42s9)
def c42r12 : List Seg := [
  .one ⟨some 19, .mv (.t 7), none⟩,
  .one ⟨some 4, .mv (.c .nilslice), none⟩,
  .one ⟨some 5, .mv (.t 19), none⟩]
def c42k12 : ICode := .kill (dead 30 [7]) (.ops c42r12)
def c42s13 : ICode := (.cond (.t 18) (.seq c42k12 .ret) .skip)
def c42r14 : List Seg := [
  .one ⟨some 17, .mv (.t 7), none⟩,
  .one ⟨some 18, .bin .neq (.t 17) (.c (.int .i64 0)), none⟩]
def c42k14 : ICode := .kill (dead 30 [0, 6, 7]) (.ops c42r14)
def c42s15 : ICode := (.seq (.seq c42k14 c42s13) c42s11)
def c42r16 : List Seg := [
  .one ⟨some 12, .mv (.t 0), none⟩,
  .one ⟨some 13, .mv (.t 1), none⟩,
  .one ⟨some 14, .call (.c (.func 68 [])) [(.t 12), (.t 13)], none⟩,
  .one ⟨some 11, .mv (.t 14), none⟩,
  .one ⟨some 15, .ext (.t 11) 0, none⟩,
  .one ⟨some 16, .ext (.t 11) 1, none⟩,
  .one ⟨some 6, .box (.c .nilptr), none⟩,
  .one ⟨none, .store1 (.t 6) (.t 15), none⟩,
  .one ⟨some 7, .mv (.t 16), none⟩]
def c42k16 : ICode := .kill (dead 30 [0, 1]) (.ops c42r16)
def c42s17 : ICode := (.seq c42k16 c42s15)
def c42r18 : List Seg := [
  .one ⟨some 4, .mv (.c .nilslice), none⟩,
  .one ⟨some 5, .mv (.c (.int .i64 0)), none⟩]
def c42k18 : ICode := .kill (dead 30 [0, 1]) (.ops c42r18)
def c42b : ICode := (.seq c42k18 c42s17)
def c42 : IFn := ⟨30, [.t 4, .t 5], c42b⟩
def h42 : List (Nat × List Nat) := [(0, dead 30 [0, 1]), (1, dead 30 [0, 1]), (2, dead 30 [0, 6, 7]), (3, dead 30 [7]), (4, dead 30 [0, 6]), (5, dead 30 [0, 6, 8]), (6, dead 30 [6, 8, 9]), (7, dead 30 [6, 8, 9, 10]), (8, dead 30 [6, 9, 10]), (9, dead 30 [9])]
/-! tosher/search.IsPlan -/
def c43r0 : List Seg := [
  .one ⟨some 12, .mv (.t 1), none⟩,
  .one ⟨some 13, .mv (.t 0), none⟩,
  .one ⟨some 14, .call (.c (.func 60 [])) [(.t 13)], none⟩,
  .one ⟨some 15, .call (.c (.func 62 [])) [(.t 12), (.t 14), (.c (.func 79 []))], none⟩,
  .one ⟨some 4, .mv (.t 15), none⟩,
  .one ⟨some 5, .mv (.c (.int .i64 0)), none⟩]
def c43k0 : ICode := .kill (dead 16 [0, 1]) (.ops c43r0)
def c43s1 : ICode := (.seq c43k0 .ret)
def c43r2 : List Seg := [
  .one ⟨some 11, .mv (.t 6), none⟩,
  .one ⟨some 4, .mv (.c (.bool false)), none⟩,
  .one ⟨some 5, .mv (.t 11), none⟩]
def c43k2 : ICode := .kill (dead 16 [6]) (.ops c43r2)
def c43s3 : ICode := (.cond (.t 10) (.seq c43k2 .ret) .skip)
def c43r4 : List Seg := [
  .one ⟨some 9, .mv (.t 6), none⟩,
  .one ⟨some 10, .bin .neq (.t 9) (.c (.int .i64 0)), none⟩]
def c43k4 : ICode := .kill (dead 16 [0, 1, 6]) (.ops c43r4)
def c43s5 : ICode := (.seq c43k4 c43s3)
def c43r6 : List Seg := [
  .one ⟨some 7, .mv (.t 0), none⟩,
  .one ⟨some 8, .call (.c (.func 46 [])) [(.t 7)], none⟩,
  .one ⟨some 6, .mv (.t 8), none⟩]
def c43k6 : ICode := .kill (dead 16 [0, 1]) (.ops c43r6)
def c43s7 : ICode := (.seq (.seq c43k6 c43s5) c43s1)
def c43r8 : List Seg := [
  .one ⟨some 4, .mv (.c (.bool false)), none⟩,
  .one ⟨some 5, .mv (.c (.int .i64 0)), none⟩]
def c43k8 : ICode := .kill (dead 16 [0, 1]) (.ops c43r8)
def c43b : ICode := (.seq c43k8 c43s7)
def c43 : IFn := ⟨16, [.t 4, .t 5], c43b⟩
def h43 : List (Nat × List Nat) := [(0, dead 16 [0, 1]), (1, dead 16 [0, 1]), (2, dead 16 [0, 1, 6]), (3, dead 16 [6]), (4, dead 16 [0, 1])]
/-! tosher/search.PriceOf -/
def c44r0 : List Seg := [
  .one ⟨some 38, .mv (.t 9), none⟩,
  .one ⟨some 39, .call (.c (.func 67 [])) [(.t 38)], none⟩,
  .one ⟨some 6, .mv (.t 39), none⟩,
  .one ⟨some 7, .mv (.c (.int .i64 0)), none⟩]
def c44k0 : ICode := .kill (dead 40 [9]) (.ops c44r0)
def c44s1 : ICode := (.seq c44k0 .ret)
def c44r3 : List Seg := [
  .one ⟨some 37, .bin .add (.t 25) (.c (.int .i64 1)), none⟩,
  .one ⟨some 25, .mv (.t 37), none⟩]
def c44k3 : ICode := .kill (dead 40 [9, 23, 24, 25]) (.ops c44r3)
def c44r4 : List Seg := [
  .one ⟨some 30, .mv (.t 9), none⟩,
  .one ⟨some 31, .mv (.t 10), none⟩,
  .one ⟨some 32, .idxS 1 (.t 30) (.t 31), none⟩,
  .one ⟨some 33, .load1 (.t 32), none⟩,
  .one ⟨some 34, .mv (.t 11), none⟩,
  .one ⟨some 35, .bin .mul (.t 33) (.t 34), none⟩,
  .one ⟨some 36, .idxS 1 (.t 30) (.t 31), none⟩,
  .one ⟨none, .store1 (.t 36) (.t 35), none⟩]
def c44k4 : ICode := .kill (dead 40 [9, 10, 11, 23, 24, 25]) (.ops c44r4)
def c44r5 : List Seg := [
  .one ⟨some 27, .mv (.t 25), none⟩,
  .one ⟨some 28, .idxS 1 (.t 23) (.t 25), none⟩,
  .one ⟨some 29, .load1 (.t 28), none⟩,
  .one ⟨some 10, .mv (.t 27), none⟩,
  .one ⟨some 11, .mv (.t 29), none⟩]
def c44k5 : ICode := .kill (dead 40 [9, 23, 24, 25]) (.ops c44r5)
def c44s6 : ICode := (.seq (.block 1 (.seq c44k5 c44k4)) c44k3)
def c44s7 : ICode := (.seq (.cond (.t 26) .skip (.exit 0)) c44s6)
def c44r8 : List Seg := [
  .one ⟨some 26, .bin .lss (.t 25) (.t 24), none⟩]
def c44k8 : ICode := .kill (dead 40 [9, 23, 24, 25]) (.ops c44r8)
def c44l2 : ICode := (.seq c44k8 c44s7)
def c44s9 : ICode := (.block 0 (.loop c44l2))
def c44r10 : List Seg := [
  .one ⟨some 23, .mv (.t 1), none⟩,
  .one ⟨some 24, .len 0 (.t 23), none⟩,
  .one ⟨some 25, .mv (.c (.int .i64 0)), none⟩]
def c44k10 : ICode := .kill (dead 40 [1, 9]) (.ops c44r10)
def c44s11 : ICode := (.seq (.seq c44k10 c44s9) c44s1)
def c44r12 : List Seg := [
  .one ⟨some 6, .mv (.c (.int .i64 0)), none⟩,
  .one ⟨some 7, .mv (.c (.int .i64 1)), none⟩]
def c44k12 : ICode := .kill (dead 40 []) (.ops c44r12)
def c44s13 : ICode := (.cond (.t 22) (.seq c44k12 .ret) .skip)
def c44r14 : List Seg := [
  .one ⟨some 21, .mv (.t 9), none⟩,
  .one ⟨some 22, .eqv false .slice (.t 21) (.c .nilslice), none⟩]
def c44k14 : ICode := .kill (dead 40 [1, 9]) (.ops c44r14)
def c44s15 : ICode := (.seq (.seq c44k14 c44s13) c44s11)
def c44r16 : List Seg := [
  .one ⟨some 18, .mv (.t 0), none⟩,
  .one ⟨some 19, .mv (.t 2), none⟩,
  .one ⟨some 20, .call (.c (.func 61 [])) [(.t 18), (.t 19)], none⟩,
  .one ⟨some 9, .mv (.t 20), none⟩]
def c44k16 : ICode := .kill (dead 40 [0, 1, 2]) (.ops c44r16)
def c44s17 : ICode := (.seq c44k16 c44s15)
def c44r18 : List Seg := [
  .one ⟨some 17, .mv (.t 8), none⟩,
  .one ⟨some 6, .mv (.c (.int .i64 0)), none⟩,
  .one ⟨some 7, .mv (.t 17), none⟩]
def c44k18 : ICode := .kill (dead 40 [8]) (.ops c44r18)
def c44s19 : ICode := (.cond (.t 16) (.seq c44k18 .ret) .skip)
def c44r20 : List Seg := [
  .one ⟨some 15, .mv (.t 8), none⟩,
  .one ⟨some 16, .bin .neq (.t 15) (.c (.int .i64 0)), none⟩]
def c44k20 : ICode := .kill (dead 40 [0, 1, 2, 8]) (.ops c44r20)
def c44s21 : ICode := (.seq c44k20 c44s19)
def c44r22 : List Seg := [
  .one ⟨some 12, .mv (.t 0), none⟩,
  .one ⟨some 13, .mv (.t 1), none⟩,
  .one ⟨some 14, .call (.c (.func 65 [])) [(.t 12), (.t 13)], none⟩,
  .one ⟨some 8, .mv (.t 14), none⟩]
def c44k22 : ICode := .kill (dead 40 [0, 1, 2]) (.ops c44r22)
def c44s23 : ICode := (.seq (.seq c44k22 c44s21) c44s17)
def c44r24 : List Seg := [
  .one ⟨some 6, .mv (.c (.int .i64 0)), none⟩,
  .one ⟨some 7, .mv (.c (.int .i64 0)), none⟩]
def c44k24 : ICode := .kill (dead 40 [0, 1, 2]) (.ops c44r24)
def c44b : ICode := (.seq c44k24 c44s23)
def c44 : IFn := ⟨40, [.t 6, .t 7], c44b⟩
def h44 : List (Nat × List Nat) := [(0, dead 40 [0, 1, 2]), (1, dead 40 [0, 1, 2]), (2, dead 40 [0, 1, 2, 8]), (3, dead 40 [8]), (4, dead 40 [0, 1, 2]), (5, dead 40 [1, 9]), (6, dead 40 []), (7, dead 40 [1, 9]), (8, dead 40 [9, 23, 24, 25]), (9, dead 40 [9, 23, 24, 25]), (10, dead 40 [9, 10, 11, 23, 24, 25]), (11, dead 40 [9, 23, 24, 25]), (12, dead 40 [9])]
/-! tosher/tosherref08.Costs -/
def c45r0 : List Seg := [
  .one ⟨some 22, .mv (.t 0), none⟩,
  .one ⟨some 23, .len 0 (.t 22), none⟩,
  .one ⟨some 24, .bin .leq (.t 23) (.c (.int .i64 12)), none⟩,
  .one ⟨some 2, .mv (.t 24), none⟩]
def c45k0 : ICode := .kill (dead 25 [0]) (.ops c45r0)
def c45s1 : ICode := (.seq c45k0 .ret)
def c45r3 : List Seg := [
  .one ⟨some 8, .mv (.t 3), none⟩,
  .one ⟨some 9, .bin .add (.t 8) (.c (.int .i64 1)), none⟩,
  .one ⟨some 3, .mv (.t 9), none⟩]
def c45k3 : ICode := .kill (dead 25 [0, 3]) (.ops c45r3)
def c45r4 : List Seg := [
  .one ⟨some 2, .mv (.c (.bool false)), none⟩]
def c45k4 : ICode := .kill (dead 25 []) (.ops c45r4)
def c45s5 : ICode := (.cond (.t 21) (.seq c45k4 .ret) .skip)
def c45r6 : List Seg := [
  .one ⟨some 10, .mv (.t 0), none⟩,
  .one ⟨some 11, .mv (.t 3), none⟩,
  .one ⟨some 12, .idxS 1 (.t 10) (.t 11), none⟩,
  .one ⟨some 13, .load1 (.t 12), none⟩,
  .one ⟨some 14, .bin .lss (.t 13) (.c (.int .i64 1)), none⟩,
  .one ⟨some 15, .mv (.t 14), none⟩,
  .one ⟨some 16, .mv (.t 0), some (15, false)⟩,
  .one ⟨some 17, .mv (.t 3), some (15, false)⟩,
  .one ⟨some 18, .idxS 1 (.t 16) (.t 17), some (15, false)⟩,
  .one ⟨some 19, .load1 (.t 18), some (15, false)⟩,
  .one ⟨some 20, .bin .gtr (.t 19) (.c (.int .i64 1000)), some (15, false)⟩,
  .one ⟨some 21, .pick (.t 15) (.c (.bool true)) (.t 20), none⟩]
def c45k6 : ICode := .kill (dead 25 [0, 3]) (.ops c45r6)
def c45s7 : ICode := (.seq (.block 1 (.seq c45k6 c45s5)) c45k3)
def c45s8 : ICode := (.cond (.t 7) .skip (.exit 0))
def c45r9 : List Seg := [
  .one ⟨some 4, .mv (.t 3), none⟩,
  .one ⟨some 5, .mv (.t 0), none⟩,
  .one ⟨some 6, .len 0 (.t 5), none⟩,
  .one ⟨some 7, .bin .lss (.t 4) (.t 6), none⟩]
def c45k9 : ICode := .kill (dead 25 [0, 3]) (.ops c45r9)
def c45l2 : ICode := (.seq (.seq c45k9 c45s8) c45s7)
def c45s10 : ICode := (.block 0 (.loop c45l2))
def c45r11 : List Seg := [
  .one ⟨some 3, .mv (.c (.int .i64 0)), none⟩]
def c45k11 : ICode := .kill (dead 25 [0]) (.ops c45r11)
def c45s12 : ICode := (.seq (.seq c45k11 c45s10) c45s1)
def c45r13 : List Seg := [
  .one ⟨some 2, .mv (.c (.bool false)), none⟩]
def c45k13 : ICode := .kill (dead 25 [0]) (.ops c45r13)
def c45b : ICode := (.seq c45k13 c45s12)
def c45 : IFn := ⟨25, [.t 2], c45b⟩
def h45 : List (Nat × List Nat) := [(0, dead 25 [0]), (1, dead 25 [0]), (2, dead 25 [0, 3]), (4, dead 25 [0, 3]), (5, dead 25 []), (3, dead 25 [0, 3]), (6, dead 25 [0])]
end Go.Abs
