/- The evaluator's code of a law. -/
import Derived.Test.YtiejbjajbehcfaaDoorM4
import Derived.KernelRfl
set_option linter.unusedVariables false
set_option maxRecDepth 20000
set_option maxHeartbeats 4000000
namespace Go.Abs
variable {F : Nat → Option IFn} {cx : Ctx} {k : List Itm} {s : St} {l : List (Nat × AV)} {rows : List Row} {low : Nat} {r : AV × List Row × Nat → Prop}
/-! tosher/tosherlaw08.SearchSums -/
def c7r0 : List Seg := [
  .one ⟨some 139, .call (.c (.func 22 [])) [], none⟩,
  .one ⟨some 4, .mv (.t 139), none⟩]
def c7k0 : ICode := .kill (dead 140 []) (.ops c7r0)
@[simp] theorem uc7k0 : Ex F cx (.code c7k0 :: k) ⟨mk 140 l, rows, low⟩ r ↔ bnd (Ret F 22 [] rows) fun q0 => Ex F cx k ⟨mk 140 [(4, q0.1), (139, q0.1)], q0.2.1, (lowO low q0.2.2)⟩ r := reg (keep := []) (ops := c7r0) rfl (by kernel_rfl) (by kernel_rfl)
def c7s1 : ICode := (.seq c7k0 .ret)
@[simp] theorem uc7s1 : Ex F cx (.code c7s1 :: k) s r ↔ Ex F cx (.code (.seq c7k0 .ret) :: k) s r := Iff.rfl
def c7r3 : List Seg := [
  .one ⟨some 41, .mv (.t 9), none⟩,
  .one ⟨some 42, .bin .add (.t 41) (.c (.int .i64 1)), none⟩,
  .one ⟨some 9, .mv (.t 42), none⟩]
def c7k3 : ICode := .kill (dead 140 [5, 6, 7, 9]) (.ops c7r3)
@[simp] theorem uc7k3 : Ex F cx (.code c7k3 :: k) ⟨mk 140 l, rows, low⟩ r ↔ bnd (evP rows (.bin .add (.c (lk l 9)) (.c (.int .i64 1)))) fun v0 => Ex F cx k ⟨mk 140 [(9, v0), (42, v0), (41, lk l 9), (5, lk l 5), (6, lk l 6), (7, lk l 7), (9, lk l 9)], rows, low⟩ r := reg (keep := [5, 6, 7, 9]) (ops := c7r3) rfl (by kernel_rfl) (by kernel_rfl)
def c7r4 : List Seg := [
  .one ⟨some 4, .mv (.c (.bool false)), none⟩]
def c7k4 : ICode := .kill (dead 140 []) (.ops c7r4)
@[simp] theorem uc7k4 : Ex F cx (.code c7k4 :: k) ⟨mk 140 l, rows, low⟩ r ↔ Ex F cx k ⟨mk 140 [(4, (.bool false))], rows, low⟩ r := reg (keep := []) (ops := c7r4) rfl (by kernel_rfl) (by kernel_rfl)
def c7s5 : ICode := (.cond (.t 138) (.seq c7k4 .ret) .skip)
@[simp] theorem uc7s5 : Ex F cx (.code c7s5 :: k) s r ↔ Ex F cx (.code (.cond (.t 138) (.seq c7k4 .ret) .skip) :: k) s r := Iff.rfl
def c7r6 : List Seg := [
  .one ⟨some 108, .mv (.t 12), none⟩,
  .one ⟨some 109, .mv (.t 7), none⟩,
  .one ⟨some 110, .mv (.t 9), none⟩,
  .one ⟨some 111, .idxS 1 (.t 109) (.t 110), none⟩,
  .one ⟨some 112, .load1 (.t 111), none⟩,
  .one ⟨some 113, .bin .neq (.t 108) (.t 112), none⟩,
  .one ⟨some 114, .mv (.t 113), none⟩,
  .one ⟨some 115, .mv (.t 9), some (114, false)⟩,
  .one ⟨some 116, .mv (.t 5), some (114, false)⟩,
  .one ⟨some 117, .len 0 (.t 116), some (114, false)⟩,
  .one ⟨some 118, .bin .lss (.t 115) (.t 117), some (114, false)⟩,
  .one ⟨some 119, .mv (.t 118), some (114, false)⟩,
  .one ⟨some 120, .mv (.t 13), some (119, true)⟩,
  .one ⟨some 121, .mv (.t 9), some (119, true)⟩,
  .one ⟨some 122, .idxS 1 (.t 120) (.t 121), some (119, true)⟩,
  .one ⟨some 123, .load1 (.t 122), some (119, true)⟩,
  .one ⟨some 124, .un .not (.t 123), some (119, true)⟩,
  .one ⟨some 125, .pick (.t 119) (.t 124) (.c (.bool false)), some (114, false)⟩,
  .one ⟨some 126, .pick (.t 114) (.c (.bool true)) (.t 125), none⟩,
  .one ⟨some 127, .mv (.t 126), none⟩,
  .one ⟨some 128, .mv (.t 9), some (127, false)⟩,
  .one ⟨some 129, .bin .gtr (.t 128) (.c (.int .i64 0)), some (127, false)⟩,
  .one ⟨some 130, .mv (.t 129), some (127, false)⟩,
  .one ⟨some 131, .mv (.t 13), some (130, true)⟩,
  .one ⟨some 132, .mv (.t 9), some (130, true)⟩,
  .one ⟨some 133, .bin .sub (.t 132) (.c (.int .i64 1)), some (130, true)⟩,
  .one ⟨some 134, .idxS 1 (.t 131) (.t 133), some (130, true)⟩,
  .one ⟨some 135, .load1 (.t 134), some (130, true)⟩,
  .one ⟨some 136, .un .not (.t 135), some (130, true)⟩,
  .one ⟨some 137, .pick (.t 130) (.t 136) (.c (.bool false)), some (127, false)⟩,
  .one ⟨some 138, .pick (.t 127) (.c (.bool true)) (.t 137), none⟩]
def c7k6 : ICode := .kill (dead 140 [5, 6, 7, 9, 12, 13]) (.ops c7r6)
@[simp] theorem uc7k6 : Ex F cx (.code c7k6 :: k) ⟨mk 140 l, rows, low⟩ r ↔ bnd (evP rows (.idxS 1 (.c (lk l 7)) (.c (lk l 9)))) fun v0 => bnd (evP rows (.load1 (.c v0))) fun v1 => bnd (evP rows (.bin .neq (.c (lk l 12)) (.c v1))) fun v2 => bnd (gv v2 false (evP rows (.mv (.c (lk l 9))))) fun v3 => bnd (gv v2 false (evP rows (.mv (.c (lk l 5))))) fun v4 => bnd (gv v2 false (evP rows (.len 0 (.c v4)))) fun v5 => bnd (gv v2 false (evP rows (.bin .lss (.c v3) (.c v5)))) fun v6 => bnd (gv v2 false (evP rows (.mv (.c v6)))) fun v7 => bnd (gv v7 true (evP rows (.mv (.c (lk l 13))))) fun v8 => bnd (gv v7 true (evP rows (.mv (.c (lk l 9))))) fun v9 => bnd (gv v7 true (evP rows (.idxS 1 (.c v8) (.c v9)))) fun v10 => bnd (gv v7 true (evP rows (.load1 (.c v10)))) fun v11 => bnd (gv v7 true (evP rows (.un .not (.c v11)))) fun v12 => bnd (gv v2 false (evP rows (.pick (.c v7) (.c v12) (.c (.bool false))))) fun v13 => bnd (evP rows (.pick (.c v2) (.c (.bool true)) (.c v13))) fun v14 => bnd (gv v14 false (evP rows (.mv (.c (lk l 9))))) fun v15 => bnd (gv v14 false (evP rows (.bin .gtr (.c v15) (.c (.int .i64 0))))) fun v16 => bnd (gv v14 false (evP rows (.mv (.c v16)))) fun v17 => bnd (gv v17 true (evP rows (.mv (.c (lk l 13))))) fun v18 => bnd (gv v17 true (evP rows (.mv (.c (lk l 9))))) fun v19 => bnd (gv v17 true (evP rows (.bin .sub (.c v19) (.c (.int .i64 1))))) fun v20 => bnd (gv v17 true (evP rows (.idxS 1 (.c v18) (.c v20)))) fun v21 => bnd (gv v17 true (evP rows (.load1 (.c v21)))) fun v22 => bnd (gv v17 true (evP rows (.un .not (.c v22)))) fun v23 => bnd (gv v14 false (evP rows (.pick (.c v17) (.c v23) (.c (.bool false))))) fun v24 => bnd (evP rows (.pick (.c v14) (.c (.bool true)) (.c v24))) fun v25 => Ex F cx k ⟨mk 140 [(138, v25), (137, v24), (136, v23), (135, v22), (134, v21), (133, v20), (132, v19), (131, v18), (130, v17), (129, v16), (128, v15), (127, v14), (126, v14), (125, v13), (124, v12), (123, v11), (122, v10), (121, v9), (120, v8), (119, v7), (118, v6), (117, v5), (116, v4), (115, v3), (114, v2), (113, v2), (112, v1), (111, v0), (110, lk l 9), (109, lk l 7), (108, lk l 12), (5, lk l 5), (6, lk l 6), (7, lk l 7), (9, lk l 9), (12, lk l 12), (13, lk l 13)], rows, low⟩ r := reg (keep := [5, 6, 7, 9, 12, 13]) (ops := c7r6) rfl (by kernel_rfl) (by kernel_rfl)
def c7s7 : ICode := (.seq c7k6 c7s5)
@[simp] theorem uc7s7 : Ex F cx (.code c7s7 :: k) s r ↔ Ex F cx (.code (.seq c7k6 c7s5) :: k) s r := Iff.rfl
def c7r9 : List Seg := [
  .one ⟨some 68, .mv (.t 14), none⟩,
  .one ⟨some 69, .bin .add (.t 68) (.c (.int .i64 1)), none⟩,
  .one ⟨some 14, .mv (.t 69), none⟩]
def c7k9 : ICode := .kill (dead 140 [5, 6, 7, 9, 10, 12, 13, 14]) (.ops c7r9)
@[simp] theorem uc7k9 : Ex F cx (.code c7k9 :: k) ⟨mk 140 l, rows, low⟩ r ↔ bnd (evP rows (.bin .add (.c (lk l 14)) (.c (.int .i64 1)))) fun v0 => Ex F cx k ⟨mk 140 [(14, v0), (69, v0), (68, lk l 14), (5, lk l 5), (6, lk l 6), (7, lk l 7), (9, lk l 9), (10, lk l 10), (12, lk l 12), (13, lk l 13), (14, lk l 14)], rows, low⟩ r := reg (keep := [5, 6, 7, 9, 10, 12, 13, 14]) (ops := c7r9) rfl (by kernel_rfl) (by kernel_rfl)
def c7r10 : List Seg := [
  .one ⟨some 99, .mv (.t 12), none⟩,
  .one ⟨some 100, .mv (.t 5), none⟩,
  .one ⟨some 101, .mv (.t 10), none⟩,
  .one ⟨some 102, .mv (.t 14), none⟩,
  .one ⟨some 103, .idxS 1 (.t 101) (.t 102), none⟩,
  .one ⟨some 104, .load1 (.t 103), none⟩,
  .one ⟨some 105, .idxS 1 (.t 100) (.t 104), none⟩,
  .one ⟨some 106, .load1 (.t 105), none⟩,
  .one ⟨some 107, .bin .add (.t 99) (.t 106), none⟩,
  .one ⟨some 12, .mv (.t 107), none⟩]
def c7k10 : ICode := .kill (dead 140 [5, 6, 7, 9, 10, 12, 13, 14]) (.ops c7r10)
@[simp] theorem uc7k10 : Ex F cx (.code c7k10 :: k) ⟨mk 140 l, rows, low⟩ r ↔ bnd (evP rows (.idxS 1 (.c (lk l 10)) (.c (lk l 14)))) fun v0 => bnd (evP rows (.load1 (.c v0))) fun v1 => bnd (evP rows (.idxS 1 (.c (lk l 5)) (.c v1))) fun v2 => bnd (evP rows (.load1 (.c v2))) fun v3 => bnd (evP rows (.bin .add (.c (lk l 12)) (.c v3))) fun v4 => Ex F cx k ⟨mk 140 [(12, v4), (107, v4), (106, v3), (105, v2), (104, v1), (103, v0), (102, lk l 14), (101, lk l 10), (100, lk l 5), (99, lk l 12), (5, lk l 5), (6, lk l 6), (7, lk l 7), (9, lk l 9), (10, lk l 10), (12, lk l 12), (13, lk l 13), (14, lk l 14)], rows, low⟩ r := reg (keep := [5, 6, 7, 9, 10, 12, 13, 14]) (ops := c7r10) rfl (by kernel_rfl) (by kernel_rfl)
def c7r11 : List Seg := [
  .one ⟨some 93, .mv (.t 13), none⟩,
  .one ⟨some 94, .mv (.t 10), none⟩,
  .one ⟨some 95, .mv (.t 14), none⟩,
  .one ⟨some 96, .idxS 1 (.t 94) (.t 95), none⟩,
  .one ⟨some 97, .load1 (.t 96), none⟩,
  .one ⟨some 98, .idxS 1 (.t 93) (.t 97), none⟩,
  .one ⟨none, .store1 (.t 98) (.c (.bool true)), none⟩]
def c7k11 : ICode := .kill (dead 140 [5, 6, 7, 9, 10, 12, 13, 14]) (.ops c7r11)
@[simp] theorem uc7k11 : Ex F cx (.code c7k11 :: k) ⟨mk 140 l, rows, low⟩ r ↔ bnd (evP rows (.idxS 1 (.c (lk l 10)) (.c (lk l 14)))) fun v0 => bnd (evP rows (.load1 (.c v0))) fun v1 => bnd (evP rows (.idxS 1 (.c (lk l 13)) (.c v1))) fun v2 => bnd (evE rows low (.store1 (.c v2) (.c (.bool true)))) fun q3 => Ex F cx k ⟨mk 140 [(98, v2), (97, v1), (96, v0), (95, lk l 14), (94, lk l 10), (93, lk l 13), (5, lk l 5), (6, lk l 6), (7, lk l 7), (9, lk l 9), (10, lk l 10), (12, lk l 12), (13, lk l 13), (14, lk l 14)], q3.2.1, q3.2.2⟩ r := reg (keep := [5, 6, 7, 9, 10, 12, 13, 14]) (ops := c7r11) rfl (by kernel_rfl) (by kernel_rfl)
def c7s12 : ICode := (.seq c7k11 c7k10)
@[simp] theorem uc7s12 : Ex F cx (.code c7s12 :: k) s r ↔ Ex F cx (.code (.seq c7k11 c7k10) :: k) s r := Iff.rfl
def c7r13 : List Seg := [
  .one ⟨some 4, .mv (.c (.bool false)), none⟩]
def c7k13 : ICode := .kill (dead 140 []) (.ops c7r13)
@[simp] theorem uc7k13 : Ex F cx (.code c7k13 :: k) ⟨mk 140 l, rows, low⟩ r ↔ Ex F cx k ⟨mk 140 [(4, (.bool false))], rows, low⟩ r := reg (keep := []) (ops := c7r13) rfl (by kernel_rfl) (by kernel_rfl)
def c7s14 : ICode := (.cond (.t 92) (.seq c7k13 .ret) .skip)
@[simp] theorem uc7s14 : Ex F cx (.code c7s14 :: k) s r ↔ Ex F cx (.code (.cond (.t 92) (.seq c7k13 .ret) .skip) :: k) s r := Iff.rfl
def c7r15 : List Seg := [
  .one ⟨some 70, .mv (.t 10), none⟩,
  .one ⟨some 71, .mv (.t 14), none⟩,
  .one ⟨some 72, .idxS 1 (.t 70) (.t 71), none⟩,
  .one ⟨some 73, .load1 (.t 72), none⟩,
  .one ⟨some 74, .bin .lss (.t 73) (.c (.int .i64 0)), none⟩,
  .one ⟨some 75, .mv (.t 74), none⟩,
  .one ⟨some 76, .mv (.t 10), some (75, false)⟩,
  .one ⟨some 77, .mv (.t 14), some (75, false)⟩,
  .one ⟨some 78, .idxS 1 (.t 76) (.t 77), some (75, false)⟩,
  .one ⟨some 79, .load1 (.t 78), some (75, false)⟩,
  .one ⟨some 80, .mv (.t 5), some (75, false)⟩,
  .one ⟨some 81, .len 0 (.t 80), some (75, false)⟩,
  .one ⟨some 82, .bin .geq (.t 79) (.t 81), some (75, false)⟩,
  .one ⟨some 83, .pick (.t 75) (.c (.bool true)) (.t 82), none⟩,
  .one ⟨some 84, .mv (.t 83), none⟩,
  .one ⟨some 85, .mv (.t 13), some (84, false)⟩,
  .one ⟨some 86, .mv (.t 10), some (84, false)⟩,
  .one ⟨some 87, .mv (.t 14), some (84, false)⟩,
  .one ⟨some 88, .idxS 1 (.t 86) (.t 87), some (84, false)⟩,
  .one ⟨some 89, .load1 (.t 88), some (84, false)⟩,
  .one ⟨some 90, .idxS 1 (.t 85) (.t 89), some (84, false)⟩,
  .one ⟨some 91, .load1 (.t 90), some (84, false)⟩,
  .one ⟨some 92, .pick (.t 84) (.c (.bool true)) (.t 91), none⟩]
def c7k15 : ICode := .kill (dead 140 [5, 6, 7, 9, 10, 12, 13, 14]) (.ops c7r15)
@[simp] theorem uc7k15 : Ex F cx (.code c7k15 :: k) ⟨mk 140 l, rows, low⟩ r ↔ bnd (evP rows (.idxS 1 (.c (lk l 10)) (.c (lk l 14)))) fun v0 => bnd (evP rows (.load1 (.c v0))) fun v1 => bnd (evP rows (.bin .lss (.c v1) (.c (.int .i64 0)))) fun v2 => bnd (gv v2 false (evP rows (.mv (.c (lk l 10))))) fun v3 => bnd (gv v2 false (evP rows (.mv (.c (lk l 14))))) fun v4 => bnd (gv v2 false (evP rows (.idxS 1 (.c v3) (.c v4)))) fun v5 => bnd (gv v2 false (evP rows (.load1 (.c v5)))) fun v6 => bnd (gv v2 false (evP rows (.mv (.c (lk l 5))))) fun v7 => bnd (gv v2 false (evP rows (.len 0 (.c v7)))) fun v8 => bnd (gv v2 false (evP rows (.bin .geq (.c v6) (.c v8)))) fun v9 => bnd (evP rows (.pick (.c v2) (.c (.bool true)) (.c v9))) fun v10 => bnd (gv v10 false (evP rows (.mv (.c (lk l 13))))) fun v11 => bnd (gv v10 false (evP rows (.mv (.c (lk l 10))))) fun v12 => bnd (gv v10 false (evP rows (.mv (.c (lk l 14))))) fun v13 => bnd (gv v10 false (evP rows (.idxS 1 (.c v12) (.c v13)))) fun v14 => bnd (gv v10 false (evP rows (.load1 (.c v14)))) fun v15 => bnd (gv v10 false (evP rows (.idxS 1 (.c v11) (.c v15)))) fun v16 => bnd (gv v10 false (evP rows (.load1 (.c v16)))) fun v17 => bnd (evP rows (.pick (.c v10) (.c (.bool true)) (.c v17))) fun v18 => Ex F cx k ⟨mk 140 [(92, v18), (91, v17), (90, v16), (89, v15), (88, v14), (87, v13), (86, v12), (85, v11), (84, v10), (83, v10), (82, v9), (81, v8), (80, v7), (79, v6), (78, v5), (77, v4), (76, v3), (75, v2), (74, v2), (73, v1), (72, v0), (71, lk l 14), (70, lk l 10), (5, lk l 5), (6, lk l 6), (7, lk l 7), (9, lk l 9), (10, lk l 10), (12, lk l 12), (13, lk l 13), (14, lk l 14)], rows, low⟩ r := reg (keep := [5, 6, 7, 9, 10, 12, 13, 14]) (ops := c7r15) rfl (by kernel_rfl) (by kernel_rfl)
def c7s16 : ICode := (.seq (.block 3 (.seq (.seq c7k15 c7s14) c7s12)) c7k9)
@[simp] theorem uc7s16 : Ex F cx (.code c7s16 :: k) s r ↔ Ex F cx (.code (.seq (.block 3 (.seq (.seq c7k15 c7s14) c7s12)) c7k9) :: k) s r := Iff.rfl
def c7s17 : ICode := (.cond (.t 67) .skip (.exit 2))
@[simp] theorem uc7s17 : Ex F cx (.code c7s17 :: k) s r ↔ Ex F cx (.code (.cond (.t 67) .skip (.exit 2)) :: k) s r := Iff.rfl
def c7r18 : List Seg := [
  .one ⟨some 64, .mv (.t 14), none⟩,
  .one ⟨some 65, .mv (.t 10), none⟩,
  .one ⟨some 66, .len 0 (.t 65), none⟩,
  .one ⟨some 67, .bin .lss (.t 64) (.t 66), none⟩]
def c7k18 : ICode := .kill (dead 140 [5, 6, 7, 9, 10, 12, 13, 14]) (.ops c7r18)
@[simp] theorem uc7k18 : Ex F cx (.code c7k18 :: k) ⟨mk 140 l, rows, low⟩ r ↔ bnd (evP rows (.len 0 (.c (lk l 10)))) fun v0 => bnd (evP rows (.bin .lss (.c (lk l 14)) (.c v0))) fun v1 => Ex F cx k ⟨mk 140 [(67, v1), (66, v0), (65, lk l 10), (64, lk l 14), (5, lk l 5), (6, lk l 6), (7, lk l 7), (9, lk l 9), (10, lk l 10), (12, lk l 12), (13, lk l 13), (14, lk l 14)], rows, low⟩ r := reg (keep := [5, 6, 7, 9, 10, 12, 13, 14]) (ops := c7r18) rfl (by kernel_rfl) (by kernel_rfl)
def c7l8 : ICode := (.seq (.seq c7k18 c7s17) c7s16)
def c7s19 : ICode := (.block 2 (.loop c7l8))
@[simp] theorem uc7s19 : Ex F cx (.code c7s19 :: k) s r ↔ Ex F cx (.code (.block 2 (.loop c7l8)) :: k) s r := Iff.rfl
def c7r20 : List Seg := [
  .one ⟨some 14, .mv (.c (.int .i64 0)), none⟩]
def c7k20 : ICode := .kill (dead 140 [5, 6, 7, 9, 10, 12, 13]) (.ops c7r20)
@[simp] theorem uc7k20 : Ex F cx (.code c7k20 :: k) ⟨mk 140 l, rows, low⟩ r ↔ Ex F cx k ⟨mk 140 [(14, (.int .i64 0)), (5, lk l 5), (6, lk l 6), (7, lk l 7), (9, lk l 9), (10, lk l 10), (12, lk l 12), (13, lk l 13)], rows, low⟩ r := reg (keep := [5, 6, 7, 9, 10, 12, 13]) (ops := c7r20) rfl (by kernel_rfl) (by kernel_rfl)
def c7s21 : ICode := (.seq (.seq c7k20 c7s19) c7s7)
@[simp] theorem uc7s21 : Ex F cx (.code c7s21 :: k) s r ↔ Ex F cx (.code (.seq (.seq c7k20 c7s19) c7s7) :: k) s r := Iff.rfl
def c7r22 : List Seg := [
  .one ⟨some 61, .mv (.t 5), none⟩,
  .one ⟨some 62, .len 0 (.t 61), none⟩,
  .one ⟨some 63, .make [.bool false] 1 (.t 62) (.t 62), none⟩,
  .one ⟨some 13, .mv (.t 63), none⟩]
def c7k22 : ICode := .kill (dead 140 [5, 6, 7, 9, 10, 12]) (.ops c7r22)
@[simp] theorem uc7k22 : Ex F cx (.code c7k22 :: k) ⟨mk 140 l, rows, low⟩ r ↔ bnd (evP rows (.len 0 (.c (lk l 5)))) fun v0 => bnd (evE rows low (.make [.bool false] 1 (.c v0) (.c v0))) fun q1 => Ex F cx k ⟨mk 140 [(13, q1.1), (63, q1.1), (62, v0), (61, lk l 5), (5, lk l 5), (6, lk l 6), (7, lk l 7), (9, lk l 9), (10, lk l 10), (12, lk l 12)], q1.2.1, q1.2.2⟩ r := reg (keep := [5, 6, 7, 9, 10, 12]) (ops := c7r22) rfl (by kernel_rfl) (by kernel_rfl)
def c7s23 : ICode := (.seq c7k22 c7s21)
@[simp] theorem uc7s23 : Ex F cx (.code c7s23 :: k) s r ↔ Ex F cx (.code (.seq c7k22 c7s21) :: k) s r := Iff.rfl
def c7r24 : List Seg := [
  .one ⟨some 12, .mv (.c (.int .i64 0)), none⟩]
def c7k24 : ICode := .kill (dead 140 [5, 6, 7, 9, 10]) (.ops c7r24)
@[simp] theorem uc7k24 : Ex F cx (.code c7k24 :: k) ⟨mk 140 l, rows, low⟩ r ↔ Ex F cx k ⟨mk 140 [(12, (.int .i64 0)), (5, lk l 5), (6, lk l 6), (7, lk l 7), (9, lk l 9), (10, lk l 10)], rows, low⟩ r := reg (keep := [5, 6, 7, 9, 10]) (ops := c7r24) rfl (by kernel_rfl) (by kernel_rfl)
def c7s25 : ICode := (.seq c7k24 c7s23)
@[simp] theorem uc7s25 : Ex F cx (.code c7s25 :: k) s r ↔ Ex F cx (.code (.seq c7k24 c7s23) :: k) s r := Iff.rfl
def c7r26 : List Seg := [
  .one ⟨some 4, .mv (.c (.bool false)), none⟩]
def c7k26 : ICode := .kill (dead 140 []) (.ops c7r26)
@[simp] theorem uc7k26 : Ex F cx (.code c7k26 :: k) ⟨mk 140 l, rows, low⟩ r ↔ Ex F cx k ⟨mk 140 [(4, (.bool false))], rows, low⟩ r := reg (keep := []) (ops := c7r26) rfl (by kernel_rfl) (by kernel_rfl)
def c7s27 : ICode := (.cond (.t 60) (.seq c7k26 .ret) .skip)
@[simp] theorem uc7s27 : Ex F cx (.code c7s27 :: k) s r ↔ Ex F cx (.code (.cond (.t 60) (.seq c7k26 .ret) .skip) :: k) s r := Iff.rfl
def c7r28 : List Seg := [
  .one ⟨some 50, .mv (.t 11), none⟩,
  .one ⟨some 51, .bin .neq (.t 50) (.c (.int .i64 0)), none⟩,
  .one ⟨some 52, .mv (.t 51), none⟩,
  .one ⟨some 53, .mv (.t 10), some (52, false)⟩,
  .one ⟨some 54, .len 0 (.t 53), some (52, false)⟩,
  .one ⟨some 55, .bin .eql (.t 54) (.c (.int .i64 0)), some (52, false)⟩,
  .one ⟨some 56, .mv (.t 5), some (52, false)⟩,
  .one ⟨some 57, .len 0 (.t 56), some (52, false)⟩,
  .one ⟨some 58, .bin .eql (.t 57) (.c (.int .i64 0)), some (52, false)⟩,
  .one ⟨some 59, .eqv true .bool (.t 55) (.t 58), some (52, false)⟩,
  .one ⟨some 60, .pick (.t 52) (.c (.bool true)) (.t 59), none⟩]
def c7k28 : ICode := .kill (dead 140 [5, 6, 7, 9, 10, 11]) (.ops c7r28)
@[simp] theorem uc7k28 : Ex F cx (.code c7k28 :: k) ⟨mk 140 l, rows, low⟩ r ↔ bnd (evP rows (.bin .neq (.c (lk l 11)) (.c (.int .i64 0)))) fun v0 => bnd (gv v0 false (evP rows (.mv (.c (lk l 10))))) fun v1 => bnd (gv v0 false (evP rows (.len 0 (.c v1)))) fun v2 => bnd (gv v0 false (evP rows (.bin .eql (.c v2) (.c (.int .i64 0))))) fun v3 => bnd (gv v0 false (evP rows (.mv (.c (lk l 5))))) fun v4 => bnd (gv v0 false (evP rows (.len 0 (.c v4)))) fun v5 => bnd (gv v0 false (evP rows (.bin .eql (.c v5) (.c (.int .i64 0))))) fun v6 => bnd (gv v0 false (evP rows (.eqv true .bool (.c v3) (.c v6)))) fun v7 => bnd (evP rows (.pick (.c v0) (.c (.bool true)) (.c v7))) fun v8 => Ex F cx k ⟨mk 140 [(60, v8), (59, v7), (58, v6), (57, v5), (56, v4), (55, v3), (54, v2), (53, v1), (52, v0), (51, v0), (50, lk l 11), (5, lk l 5), (6, lk l 6), (7, lk l 7), (9, lk l 9), (10, lk l 10), (11, lk l 11)], rows, low⟩ r := reg (keep := [5, 6, 7, 9, 10, 11]) (ops := c7r28) rfl (by kernel_rfl) (by kernel_rfl)
def c7s29 : ICode := (.seq (.seq c7k28 c7s27) c7s25)
@[simp] theorem uc7s29 : Ex F cx (.code c7s29 :: k) s r ↔ Ex F cx (.code (.seq (.seq c7k28 c7s27) c7s25) :: k) s r := Iff.rfl
def c7r30 : List Seg := [
  .one ⟨some 44, .mv (.t 5), none⟩,
  .one ⟨some 45, .mv (.t 6), none⟩,
  .one ⟨some 46, .mv (.t 9), none⟩,
  .one ⟨some 47, .call (.c (.func 30 [])) [(.t 44), (.t 45), (.t 46)], none⟩,
  .one ⟨some 43, .mv (.t 47), none⟩,
  .one ⟨some 48, .ext (.t 43) 0, none⟩,
  .one ⟨some 49, .ext (.t 43) 1, none⟩,
  .one ⟨some 10, .mv (.t 48), none⟩,
  .one ⟨some 11, .mv (.t 49), none⟩]
def c7k30 : ICode := .kill (dead 140 [5, 6, 7, 9]) (.ops c7r30)
@[simp] theorem uc7k30 : Ex F cx (.code c7k30 :: k) ⟨mk 140 l, rows, low⟩ r ↔ bnd (Ret F 30 [lk l 5, lk l 6, lk l 9] rows) fun q0 => bnd (evP q0.2.1 (.ext (.c q0.1) 0)) fun v1 => bnd (evP q0.2.1 (.ext (.c q0.1) 1)) fun v2 => Ex F cx k ⟨mk 140 [(11, v2), (10, v1), (49, v2), (48, v1), (43, q0.1), (47, q0.1), (46, lk l 9), (45, lk l 6), (44, lk l 5), (5, lk l 5), (6, lk l 6), (7, lk l 7), (9, lk l 9)], q0.2.1, (lowO low q0.2.2)⟩ r := reg (keep := [5, 6, 7, 9]) (ops := c7r30) rfl (by kernel_rfl) (by kernel_rfl)
def c7s31 : ICode := (.seq (.block 1 (.seq c7k30 c7s29)) c7k3)
@[simp] theorem uc7s31 : Ex F cx (.code c7s31 :: k) s r ↔ Ex F cx (.code (.seq (.block 1 (.seq c7k30 c7s29)) c7k3) :: k) s r := Iff.rfl
def c7s32 : ICode := (.cond (.t 40) .skip (.exit 0))
@[simp] theorem uc7s32 : Ex F cx (.code c7s32 :: k) s r ↔ Ex F cx (.code (.cond (.t 40) .skip (.exit 0)) :: k) s r := Iff.rfl
def c7r33 : List Seg := [
  .one ⟨some 37, .mv (.t 9), none⟩,
  .one ⟨some 38, .mv (.t 5), none⟩,
  .one ⟨some 39, .len 0 (.t 38), none⟩,
  .one ⟨some 40, .bin .leq (.t 37) (.t 39), none⟩]
def c7k33 : ICode := .kill (dead 140 [5, 6, 7, 9]) (.ops c7r33)
@[simp] theorem uc7k33 : Ex F cx (.code c7k33 :: k) ⟨mk 140 l, rows, low⟩ r ↔ bnd (evP rows (.len 0 (.c (lk l 5)))) fun v0 => bnd (evP rows (.bin .leq (.c (lk l 9)) (.c v0))) fun v1 => Ex F cx k ⟨mk 140 [(40, v1), (39, v0), (38, lk l 5), (37, lk l 9), (5, lk l 5), (6, lk l 6), (7, lk l 7), (9, lk l 9)], rows, low⟩ r := reg (keep := [5, 6, 7, 9]) (ops := c7r33) rfl (by kernel_rfl) (by kernel_rfl)
def c7l2 : ICode := (.seq (.seq c7k33 c7s32) c7s31)
def c7s34 : ICode := (.block 0 (.loop c7l2))
@[simp] theorem uc7s34 : Ex F cx (.code c7s34 :: k) s r ↔ Ex F cx (.code (.block 0 (.loop c7l2)) :: k) s r := Iff.rfl
def c7r35 : List Seg := [
  .one ⟨some 9, .mv (.c (.int .i64 0)), none⟩]
def c7k35 : ICode := .kill (dead 140 [5, 6, 7]) (.ops c7r35)
@[simp] theorem uc7k35 : Ex F cx (.code c7k35 :: k) ⟨mk 140 l, rows, low⟩ r ↔ Ex F cx k ⟨mk 140 [(9, (.int .i64 0)), (5, lk l 5), (6, lk l 6), (7, lk l 7)], rows, low⟩ r := reg (keep := [5, 6, 7]) (ops := c7r35) rfl (by kernel_rfl) (by kernel_rfl)
def c7s36 : ICode := (.seq (.seq c7k35 c7s34) c7s1)
@[simp] theorem uc7s36 : Ex F cx (.code c7s36 :: k) s r ↔ Ex F cx (.code (.seq (.seq c7k35 c7s34) c7s1) :: k) s r := Iff.rfl
def c7r37 : List Seg := [
  .one ⟨some 4, .mv (.c (.bool false)), none⟩]
def c7k37 : ICode := .kill (dead 140 []) (.ops c7r37)
@[simp] theorem uc7k37 : Ex F cx (.code c7k37 :: k) ⟨mk 140 l, rows, low⟩ r ↔ Ex F cx k ⟨mk 140 [(4, (.bool false))], rows, low⟩ r := reg (keep := []) (ops := c7r37) rfl (by kernel_rfl) (by kernel_rfl)
def c7s38 : ICode := (.cond (.t 36) (.seq c7k37 .ret) .skip)
@[simp] theorem uc7s38 : Ex F cx (.code c7s38 :: k) s r ↔ Ex F cx (.code (.cond (.t 36) (.seq c7k37 .ret) .skip) :: k) s r := Iff.rfl
def c7r39 : List Seg := [
  .one ⟨some 27, .mv (.t 8), none⟩,
  .one ⟨some 28, .bin .neq (.t 27) (.c (.int .i64 0)), none⟩,
  .one ⟨some 29, .mv (.t 28), none⟩,
  .one ⟨some 30, .mv (.t 7), some (29, false)⟩,
  .one ⟨some 31, .len 0 (.t 30), some (29, false)⟩,
  .one ⟨some 32, .mv (.t 5), some (29, false)⟩,
  .one ⟨some 33, .len 0 (.t 32), some (29, false)⟩,
  .one ⟨some 34, .bin .add (.t 33) (.c (.int .i64 1)), some (29, false)⟩,
  .one ⟨some 35, .bin .neq (.t 31) (.t 34), some (29, false)⟩,
  .one ⟨some 36, .pick (.t 29) (.c (.bool true)) (.t 35), none⟩]
def c7k39 : ICode := .kill (dead 140 [5, 6, 7, 8]) (.ops c7r39)
@[simp] theorem uc7k39 : Ex F cx (.code c7k39 :: k) ⟨mk 140 l, rows, low⟩ r ↔ bnd (evP rows (.bin .neq (.c (lk l 8)) (.c (.int .i64 0)))) fun v0 => bnd (gv v0 false (evP rows (.mv (.c (lk l 7))))) fun v1 => bnd (gv v0 false (evP rows (.len 0 (.c v1)))) fun v2 => bnd (gv v0 false (evP rows (.mv (.c (lk l 5))))) fun v3 => bnd (gv v0 false (evP rows (.len 0 (.c v3)))) fun v4 => bnd (gv v0 false (evP rows (.bin .add (.c v4) (.c (.int .i64 1))))) fun v5 => bnd (gv v0 false (evP rows (.bin .neq (.c v2) (.c v5)))) fun v6 => bnd (evP rows (.pick (.c v0) (.c (.bool true)) (.c v6))) fun v7 => Ex F cx k ⟨mk 140 [(36, v7), (35, v6), (34, v5), (33, v4), (32, v3), (31, v2), (30, v1), (29, v0), (28, v0), (27, lk l 8), (5, lk l 5), (6, lk l 6), (7, lk l 7), (8, lk l 8)], rows, low⟩ r := reg (keep := [5, 6, 7, 8]) (ops := c7r39) rfl (by kernel_rfl) (by kernel_rfl)
def c7s40 : ICode := (.seq (.seq c7k39 c7s38) c7s36)
@[simp] theorem uc7s40 : Ex F cx (.code c7s40 :: k) s r ↔ Ex F cx (.code (.seq (.seq c7k39 c7s38) c7s36) :: k) s r := Iff.rfl
def c7r41 : List Seg := [
  .one ⟨some 22, .mv (.t 5), none⟩,
  .one ⟨some 23, .mv (.t 6), none⟩,
  .one ⟨some 24, .call (.c (.func 29 [])) [(.t 22), (.t 23)], none⟩,
  .one ⟨some 21, .mv (.t 24), none⟩,
  .one ⟨some 25, .ext (.t 21) 0, none⟩,
  .one ⟨some 26, .ext (.t 21) 1, none⟩,
  .one ⟨some 7, .mv (.t 25), none⟩,
  .one ⟨some 8, .mv (.t 26), none⟩]
def c7k41 : ICode := .kill (dead 140 [5, 6]) (.ops c7r41)
@[simp] theorem uc7k41 : Ex F cx (.code c7k41 :: k) ⟨mk 140 l, rows, low⟩ r ↔ bnd (Ret F 29 [lk l 5, lk l 6] rows) fun q0 => bnd (evP q0.2.1 (.ext (.c q0.1) 0)) fun v1 => bnd (evP q0.2.1 (.ext (.c q0.1) 1)) fun v2 => Ex F cx k ⟨mk 140 [(8, v2), (7, v1), (26, v2), (25, v1), (21, q0.1), (24, q0.1), (23, lk l 6), (22, lk l 5), (5, lk l 5), (6, lk l 6)], q0.2.1, (lowO low q0.2.2)⟩ r := reg (keep := [5, 6]) (ops := c7r41) rfl (by kernel_rfl) (by kernel_rfl)
def c7s42 : ICode := (.seq c7k41 c7s40)
@[simp] theorem uc7s42 : Ex F cx (.code c7s42 :: k) s r ↔ Ex F cx (.code (.seq c7k41 c7s40) :: k) s r := Iff.rfl
def c7r43 : List Seg := [
  .one ⟨some 17, .mv (.t 1), none⟩,
  .one ⟨some 18, .mv (.t 5), none⟩,
  .one ⟨some 19, .len 0 (.t 18), none⟩,
  .one ⟨some 20, .call (.c (.func 27 [])) [(.t 17), (.c (.int .i64 0)), (.t 19)], none⟩,
  .one ⟨some 6, .mv (.t 20), none⟩]
def c7k43 : ICode := .kill (dead 140 [1, 5]) (.ops c7r43)
@[simp] theorem uc7k43 : Ex F cx (.code c7k43 :: k) ⟨mk 140 l, rows, low⟩ r ↔ bnd (evP rows (.len 0 (.c (lk l 5)))) fun v0 => bnd (Ret F 27 [lk l 1, (.int .i64 0), v0] rows) fun q1 => Ex F cx k ⟨mk 140 [(6, q1.1), (20, q1.1), (19, v0), (18, lk l 5), (17, lk l 1), (1, lk l 1), (5, lk l 5)], q1.2.1, (lowO low q1.2.2)⟩ r := reg (keep := [1, 5]) (ops := c7r43) rfl (by kernel_rfl) (by kernel_rfl)
def c7s44 : ICode := (.seq c7k43 c7s42)
@[simp] theorem uc7s44 : Ex F cx (.code c7s44 :: k) s r ↔ Ex F cx (.code (.seq c7k43 c7s42) :: k) s r := Iff.rfl
def c7r45 : List Seg := [
  .one ⟨some 15, .mv (.t 0), none⟩,
  .one ⟨some 16, .call (.c (.func 25 [])) [(.t 15)], none⟩,
  .one ⟨some 5, .mv (.t 16), none⟩]
def c7k45 : ICode := .kill (dead 140 [0, 1]) (.ops c7r45)
@[simp] theorem uc7k45 : Ex F cx (.code c7k45 :: k) ⟨mk 140 l, rows, low⟩ r ↔ bnd (Ret F 25 [lk l 0] rows) fun q0 => Ex F cx k ⟨mk 140 [(5, q0.1), (16, q0.1), (15, lk l 0), (0, lk l 0), (1, lk l 1)], q0.2.1, (lowO low q0.2.2)⟩ r := reg (keep := [0, 1]) (ops := c7r45) rfl (by kernel_rfl) (by kernel_rfl)
def c7s46 : ICode := (.seq c7k45 c7s44)
@[simp] theorem uc7s46 : Ex F cx (.code c7s46 :: k) s r ↔ Ex F cx (.code (.seq c7k45 c7s44) :: k) s r := Iff.rfl
def c7r47 : List Seg := [
  .one ⟨some 4, .mv (.c (.bool false)), none⟩]
def c7k47 : ICode := .kill (dead 140 [0, 1]) (.ops c7r47)
@[simp] theorem uc7k47 : Ex F cx (.code c7k47 :: k) ⟨mk 140 l, rows, low⟩ r ↔ Ex F cx k ⟨mk 140 [(4, (.bool false)), (0, lk l 0), (1, lk l 1)], rows, low⟩ r := reg (keep := [0, 1]) (ops := c7r47) rfl (by kernel_rfl) (by kernel_rfl)
def Jc7s12 (F : Nat → Option IFn) (cx : Ctx) (x5 x6 x7 x9 x10 x12 x13 x14 : AV) (rows : List Row) (low : Nat) (r : AV × List Row × Nat → Prop) : Prop := Ex F cx (.code c7s12 :: .inBlock 3 :: .code c7k9 :: .inLoop c7l8 :: .inBlock 2 :: .code c7s7 :: .inBlock 1 :: .code c7k3 :: .inLoop c7l2 :: .inBlock 0 :: .code c7s1 :: []) ⟨mk 140 [(5, x5), (6, x6), (7, x7), (9, x9), (10, x10), (12, x12), (13, x13), (14, x14)], rows, low⟩ r
theorem jc7s12 : Ex F cx (.code c7s12 :: .inBlock 3 :: .code c7k9 :: .inLoop c7l8 :: .inBlock 2 :: .code c7s7 :: .inBlock 1 :: .code c7k3 :: .inLoop c7l2 :: .inBlock 0 :: .code c7s1 :: []) ⟨mk 140 l, rows, low⟩ r ↔ Jc7s12 F cx (lk l 5) (lk l 6) (lk l 7) (lk l 9) (lk l 10) (lk l 12) (lk l 13) (lk l 14) rows low r := Ex_canon (keep := [5, 6, 7, 9, 10, 12, 13, 14]) (by kernel_rfl)
def Jc7s16 (F : Nat → Option IFn) (cx : Ctx) (x5 x6 x7 x9 x10 x12 x13 x14 : AV) (rows : List Row) (low : Nat) (r : AV × List Row × Nat → Prop) : Prop := Ex F cx (.code c7s16 :: .inLoop c7l8 :: .inBlock 2 :: .code c7s7 :: .inBlock 1 :: .code c7k3 :: .inLoop c7l2 :: .inBlock 0 :: .code c7s1 :: []) ⟨mk 140 [(5, x5), (6, x6), (7, x7), (9, x9), (10, x10), (12, x12), (13, x13), (14, x14)], rows, low⟩ r
theorem jc7s16 : Ex F cx (.code c7s16 :: .inLoop c7l8 :: .inBlock 2 :: .code c7s7 :: .inBlock 1 :: .code c7k3 :: .inLoop c7l2 :: .inBlock 0 :: .code c7s1 :: []) ⟨mk 140 l, rows, low⟩ r ↔ Jc7s16 F cx (lk l 5) (lk l 6) (lk l 7) (lk l 9) (lk l 10) (lk l 12) (lk l 13) (lk l 14) rows low r := Ex_canon (keep := [5, 6, 7, 9, 10, 12, 13, 14]) (by kernel_rfl)
def Lc7l8 (F : Nat → Option IFn) (cx : Ctx) (x5 x6 x7 x9 x10 x12 x13 x14 : AV) (rows : List Row) (low : Nat) (r : AV × List Row × Nat → Prop) : Prop := Ex F cx (.code c7l8 :: .inLoop c7l8 :: .inBlock 2 :: .code c7s7 :: .inBlock 1 :: .code c7k3 :: .inLoop c7l2 :: .inBlock 0 :: .code c7s1 :: []) ⟨mk 140 [(5, x5), (6, x6), (7, x7), (9, x9), (10, x10), (12, x12), (13, x13), (14, x14)], rows, low⟩ r
@[simp] theorem nc7l8 : Ex F cx (.inLoop c7l8 :: .inBlock 2 :: .code c7s7 :: .inBlock 1 :: .code c7k3 :: .inLoop c7l2 :: .inBlock 0 :: .code c7s1 :: []) ⟨mk 140 l, rows, low⟩ r ↔ Lc7l8 F cx (lk l 5) (lk l 6) (lk l 7) (lk l 9) (lk l 10) (lk l 12) (lk l 13) (lk l 14) rows low r := loopN (keep := [5, 6, 7, 9, 10, 12, 13, 14]) (by kernel_rfl)
@[simp] theorem ec7l8 : Ex F cx (.code (.loop c7l8) :: .inBlock 2 :: .code c7s7 :: .inBlock 1 :: .code c7k3 :: .inLoop c7l2 :: .inBlock 0 :: .code c7s1 :: []) ⟨mk 140 l, rows, low⟩ r ↔ Lc7l8 F cx (lk l 5) (lk l 6) (lk l 7) (lk l 9) (lk l 10) (lk l 12) (lk l 13) (lk l 14) rows low r := loopE (keep := [5, 6, 7, 9, 10, 12, 13, 14]) (by kernel_rfl)
@[simp] theorem uc7l8 : Ex F cx (.code c7l8 :: k) s r ↔ Ex F cx (.code (.seq (.seq c7k18 c7s17) c7s16) :: k) s r := Iff.rfl
def Jc7s25 (F : Nat → Option IFn) (cx : Ctx) (x5 x6 x7 x9 x10 : AV) (rows : List Row) (low : Nat) (r : AV × List Row × Nat → Prop) : Prop := Ex F cx (.code c7s25 :: .inBlock 1 :: .code c7k3 :: .inLoop c7l2 :: .inBlock 0 :: .code c7s1 :: []) ⟨mk 140 [(5, x5), (6, x6), (7, x7), (9, x9), (10, x10)], rows, low⟩ r
theorem jc7s25 : Ex F cx (.code c7s25 :: .inBlock 1 :: .code c7k3 :: .inLoop c7l2 :: .inBlock 0 :: .code c7s1 :: []) ⟨mk 140 l, rows, low⟩ r ↔ Jc7s25 F cx (lk l 5) (lk l 6) (lk l 7) (lk l 9) (lk l 10) rows low r := Ex_canon (keep := [5, 6, 7, 9, 10]) (by kernel_rfl)
def Jc7s31 (F : Nat → Option IFn) (cx : Ctx) (x5 x6 x7 x9 : AV) (rows : List Row) (low : Nat) (r : AV × List Row × Nat → Prop) : Prop := Ex F cx (.code c7s31 :: .inLoop c7l2 :: .inBlock 0 :: .code c7s1 :: []) ⟨mk 140 [(5, x5), (6, x6), (7, x7), (9, x9)], rows, low⟩ r
theorem jc7s31 : Ex F cx (.code c7s31 :: .inLoop c7l2 :: .inBlock 0 :: .code c7s1 :: []) ⟨mk 140 l, rows, low⟩ r ↔ Jc7s31 F cx (lk l 5) (lk l 6) (lk l 7) (lk l 9) rows low r := Ex_canon (keep := [5, 6, 7, 9]) (by kernel_rfl)
def Lc7l2 (F : Nat → Option IFn) (cx : Ctx) (x5 x6 x7 x9 : AV) (rows : List Row) (low : Nat) (r : AV × List Row × Nat → Prop) : Prop := Ex F cx (.code c7l2 :: .inLoop c7l2 :: .inBlock 0 :: .code c7s1 :: []) ⟨mk 140 [(5, x5), (6, x6), (7, x7), (9, x9)], rows, low⟩ r
@[simp] theorem nc7l2 : Ex F cx (.inLoop c7l2 :: .inBlock 0 :: .code c7s1 :: []) ⟨mk 140 l, rows, low⟩ r ↔ Lc7l2 F cx (lk l 5) (lk l 6) (lk l 7) (lk l 9) rows low r := loopN (keep := [5, 6, 7, 9]) (by kernel_rfl)
@[simp] theorem ec7l2 : Ex F cx (.code (.loop c7l2) :: .inBlock 0 :: .code c7s1 :: []) ⟨mk 140 l, rows, low⟩ r ↔ Lc7l2 F cx (lk l 5) (lk l 6) (lk l 7) (lk l 9) rows low r := loopE (keep := [5, 6, 7, 9]) (by kernel_rfl)
@[simp] theorem uc7l2 : Ex F cx (.code c7l2 :: k) s r ↔ Ex F cx (.code (.seq (.seq c7k33 c7s32) c7s31) :: k) s r := Iff.rfl
def Jc7s36 (F : Nat → Option IFn) (cx : Ctx) (x5 x6 x7 : AV) (rows : List Row) (low : Nat) (r : AV × List Row × Nat → Prop) : Prop := Ex F cx (.code c7s36 :: []) ⟨mk 140 [(5, x5), (6, x6), (7, x7)], rows, low⟩ r
theorem jc7s36 : Ex F cx (.code c7s36 :: []) ⟨mk 140 l, rows, low⟩ r ↔ Jc7s36 F cx (lk l 5) (lk l 6) (lk l 7) rows low r := Ex_canon (keep := [5, 6, 7]) (by kernel_rfl)
def c7b : ICode := (.seq c7k47 c7s46)
@[simp] theorem uc7b : Ex F cx (.code c7b :: k) s r ↔ Ex F cx (.code (.seq c7k47 c7s46) :: k) s r := Iff.rfl
def c7 : IFn := ⟨140, [.t 4], c7b⟩
def h7 : List (Nat × List Nat) := [(0, dead 140 [0, 1]), (1, dead 140 [0, 1]), (2, dead 140 [1, 5]), (3, dead 140 [5, 6]), (4, dead 140 [5, 6, 7, 8]), (5, dead 140 []), (6, dead 140 [5, 6, 7]), (7, dead 140 [5, 6, 7, 9]), (9, dead 140 [5, 6, 7, 9]), (10, dead 140 [5, 6, 7, 9, 10, 11]), (11, dead 140 []), (12, dead 140 [5, 6, 7, 9, 10]), (13, dead 140 [5, 6, 7, 9, 10, 12]), (14, dead 140 [5, 6, 7, 9, 10, 12, 13]), (15, dead 140 [5, 6, 7, 9, 10, 12, 13, 14]), (17, dead 140 [5, 6, 7, 9, 10, 12, 13, 14]), (18, dead 140 []), (19, dead 140 [5, 6, 7, 9, 10, 12, 13, 14]), (20, dead 140 [5, 6, 7, 9, 10, 12, 13, 14]), (16, dead 140 [5, 6, 7, 9, 10, 12, 13, 14]), (21, dead 140 [5, 6, 7, 9, 12, 13]), (22, dead 140 []), (8, dead 140 [5, 6, 7, 9]), (23, dead 140 [])]
theorem i7 {x0 x1 : AV} (hF : F 7 = some c7) {q : AV × List Row × Option Nat} (h : Ex F (.fn [.t 4]) [.code c7b] ⟨mk 140 [(0, x0), (1, x1)], rows, rows.length⟩ fun r => fin rows r.1 r.2.1 r.2.2 = q) : Ret F 7 [x0, x1] rows = some q := Ret_mk hF h
end Go.Abs
