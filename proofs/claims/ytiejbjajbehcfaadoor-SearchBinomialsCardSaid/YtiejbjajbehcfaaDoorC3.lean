/- The evaluator's code of the cut's functions. -/
import Derived.Test.YtiejbjajbehcfaaDoorA27
import Derived.KernelRfl
set_option linter.unusedVariables false
set_option maxRecDepth 20000
set_option maxHeartbeats 4000000
namespace Go.Abs
variable {F : Nat → Option IFn} {cx : Ctx} {k : List Itm} {s : St} {l : List (Nat × AV)} {rows : List Row} {low : Nat} {r : AV × List Row × Nat → Prop}
/-! tosher/tosherref08.Least -/
def c36r0 : List Seg := [
  .one ⟨some 135, .mv (.t 10), none⟩,
  .one ⟨some 136, .mv (.t 2), none⟩,
  .one ⟨some 137, .idxS 1 (.t 135) (.t 136), none⟩,
  .one ⟨some 138, .load1 (.t 137), none⟩,
  .one ⟨some 139, .mv (.t 3), none⟩,
  .one ⟨some 140, .idxS 1 (.t 138) (.t 139), none⟩,
  .one ⟨some 141, .load1 (.t 140), none⟩,
  .one ⟨some 8, .mv (.t 141), none⟩]
def c36k0 : ICode := .kill (dead 142 [2, 3, 10]) (.ops c36r0)
@[simp] theorem uc36k0 : Ex F cx (.code c36k0 :: k) ⟨mk 142 l, rows, low⟩ r ↔ bnd (evP rows (.idxS 1 (.c (lk l 10)) (.c (lk l 2)))) fun v0 => bnd (evP rows (.load1 (.c v0))) fun v1 => bnd (evP rows (.idxS 1 (.c v1) (.c (lk l 3)))) fun v2 => bnd (evP rows (.load1 (.c v2))) fun v3 => Ex F cx k ⟨mk 142 [(8, v3), (141, v3), (140, v2), (139, lk l 3), (138, v1), (137, v0), (136, lk l 2), (135, lk l 10), (2, lk l 2), (3, lk l 3), (10, lk l 10)], rows, low⟩ r := reg (keep := [2, 3, 10]) (ops := c36r0) rfl (by kernel_rfl) (by kernel_rfl)
def c36s1 : ICode := (.seq c36k0 .ret)
@[simp] theorem uc36s1 : Ex F cx (.code c36s1 :: k) s r ↔ Ex F cx (.code (.seq c36k0 .ret) :: k) s r := Iff.rfl
def c36r3 : List Seg := [
  .one ⟨some 25, .mv (.t 11), none⟩,
  .one ⟨some 26, .bin .sub (.t 25) (.c (.int .i64 1)), none⟩,
  .one ⟨some 11, .mv (.t 26), none⟩]
def c36k3 : ICode := .kill (dead 142 [0, 1, 2, 3, 9, 10, 11]) (.ops c36r3)
@[simp] theorem uc36k3 : Ex F cx (.code c36k3 :: k) ⟨mk 142 l, rows, low⟩ r ↔ bnd (evP rows (.bin .sub (.c (lk l 11)) (.c (.int .i64 1)))) fun v0 => Ex F cx k ⟨mk 142 [(11, v0), (26, v0), (25, lk l 11), (0, lk l 0), (1, lk l 1), (2, lk l 2), (3, lk l 3), (9, lk l 9), (10, lk l 10), (11, lk l 11)], rows, low⟩ r := reg (keep := [0, 1, 2, 3, 9, 10, 11]) (ops := c36r3) rfl (by kernel_rfl) (by kernel_rfl)
def c36r5 : List Seg := [
  .one ⟨some 36, .mv (.t 13), none⟩,
  .one ⟨some 37, .bin .add (.t 36) (.c (.int .i64 1)), none⟩,
  .one ⟨some 13, .mv (.t 37), none⟩]
def c36k5 : ICode := .kill (dead 142 [0, 1, 2, 3, 9, 10, 11, 12, 13]) (.ops c36r5)
@[simp] theorem uc36k5 : Ex F cx (.code c36k5 :: k) ⟨mk 142 l, rows, low⟩ r ↔ bnd (evP rows (.bin .add (.c (lk l 13)) (.c (.int .i64 1)))) fun v0 => Ex F cx k ⟨mk 142 [(13, v0), (37, v0), (36, lk l 13), (0, lk l 0), (1, lk l 1), (2, lk l 2), (3, lk l 3), (9, lk l 9), (10, lk l 10), (11, lk l 11), (12, lk l 12), (13, lk l 13)], rows, low⟩ r := reg (keep := [0, 1, 2, 3, 9, 10, 11, 12, 13]) (ops := c36r5) rfl (by kernel_rfl) (by kernel_rfl)
def c36r7 : List Seg := [
  .one ⟨some 60, .mv (.t 14), none⟩,
  .one ⟨some 61, .bin .add (.t 60) (.c (.int .i64 1)), none⟩,
  .one ⟨some 14, .mv (.t 61), none⟩]
def c36k7 : ICode := .kill (dead 142 [0, 1, 2, 3, 9, 10, 11, 12, 13, 14]) (.ops c36r7)
@[simp] theorem uc36k7 : Ex F cx (.code c36k7 :: k) ⟨mk 142 l, rows, low⟩ r ↔ bnd (evP rows (.bin .add (.c (lk l 14)) (.c (.int .i64 1)))) fun v0 => Ex F cx k ⟨mk 142 [(14, v0), (61, v0), (60, lk l 14), (0, lk l 0), (1, lk l 1), (2, lk l 2), (3, lk l 3), (9, lk l 9), (10, lk l 10), (11, lk l 11), (12, lk l 12), (13, lk l 13), (14, lk l 14)], rows, low⟩ r := reg (keep := [0, 1, 2, 3, 9, 10, 11, 12, 13, 14]) (ops := c36r7) rfl (by kernel_rfl) (by kernel_rfl)
def c36r8 : List Seg := [
  .one ⟨some 128, .mv (.t 10), none⟩,
  .one ⟨some 129, .mv (.t 11), none⟩,
  .one ⟨some 130, .idxS 1 (.t 128) (.t 129), none⟩,
  .one ⟨some 131, .load1 (.t 130), none⟩,
  .one ⟨some 132, .mv (.t 13), none⟩,
  .one ⟨some 133, .mv (.t 15), none⟩,
  .one ⟨some 134, .idxS 1 (.t 131) (.t 132), none⟩,
  .one ⟨none, .store1 (.t 134) (.t 133), none⟩]
def c36k8 : ICode := .kill (dead 142 [0, 1, 2, 3, 9, 10, 11, 12, 13, 14, 15]) (.ops c36r8)
@[simp] theorem uc36k8 : Ex F cx (.code c36k8 :: k) ⟨mk 142 l, rows, low⟩ r ↔ bnd (evP rows (.idxS 1 (.c (lk l 10)) (.c (lk l 11)))) fun v0 => bnd (evP rows (.load1 (.c v0))) fun v1 => bnd (evP rows (.idxS 1 (.c v1) (.c (lk l 13)))) fun v2 => bnd (evE rows low (.store1 (.c v2) (.c (lk l 15)))) fun q3 => Ex F cx k ⟨mk 142 [(134, v2), (133, lk l 15), (132, lk l 13), (131, v1), (130, v0), (129, lk l 11), (128, lk l 10), (0, lk l 0), (1, lk l 1), (2, lk l 2), (3, lk l 3), (9, lk l 9), (10, lk l 10), (11, lk l 11), (12, lk l 12), (13, lk l 13), (14, lk l 14), (15, lk l 15)], q3.2.1, q3.2.2⟩ r := reg (keep := [0, 1, 2, 3, 9, 10, 11, 12, 13, 14, 15]) (ops := c36r8) rfl (by kernel_rfl) (by kernel_rfl)
def c36s9 : ICode := (.cond (.t 127) c36k8 .skip)
@[simp] theorem uc36s9 : Ex F cx (.code c36s9 :: k) s r ↔ Ex F cx (.code (.cond (.t 127) c36k8 .skip) :: k) s r := Iff.rfl
def c36r10 : List Seg := [
  .one ⟨some 109, .mv (.t 10), none⟩,
  .one ⟨some 110, .mv (.t 11), none⟩,
  .one ⟨some 111, .idxS 1 (.t 109) (.t 110), none⟩,
  .one ⟨some 112, .load1 (.t 111), none⟩,
  .one ⟨some 113, .mv (.t 13), none⟩,
  .one ⟨some 114, .idxS 1 (.t 112) (.t 113), none⟩,
  .one ⟨some 115, .load1 (.t 114), none⟩,
  .one ⟨some 116, .bin .lss (.t 115) (.c (.int .i64 0)), none⟩,
  .one ⟨some 117, .mv (.t 116), none⟩,
  .one ⟨some 118, .mv (.t 15), some (117, false)⟩,
  .one ⟨some 119, .mv (.t 10), some (117, false)⟩,
  .one ⟨some 120, .mv (.t 11), some (117, false)⟩,
  .one ⟨some 121, .idxS 1 (.t 119) (.t 120), some (117, false)⟩,
  .one ⟨some 122, .load1 (.t 121), some (117, false)⟩,
  .one ⟨some 123, .mv (.t 13), some (117, false)⟩,
  .one ⟨some 124, .idxS 1 (.t 122) (.t 123), some (117, false)⟩,
  .one ⟨some 125, .load1 (.t 124), some (117, false)⟩,
  .one ⟨some 126, .bin .lss (.t 118) (.t 125), some (117, false)⟩,
  .one ⟨some 127, .pick (.t 117) (.c (.bool true)) (.t 126), none⟩]
def c36k10 : ICode := .kill (dead 142 [0, 1, 2, 3, 9, 10, 11, 12, 13, 14, 15]) (.ops c36r10)
@[simp] theorem uc36k10 : Ex F cx (.code c36k10 :: k) ⟨mk 142 l, rows, low⟩ r ↔ bnd (evP rows (.idxS 1 (.c (lk l 10)) (.c (lk l 11)))) fun v0 => bnd (evP rows (.load1 (.c v0))) fun v1 => bnd (evP rows (.idxS 1 (.c v1) (.c (lk l 13)))) fun v2 => bnd (evP rows (.load1 (.c v2))) fun v3 => bnd (evP rows (.bin .lss (.c v3) (.c (.int .i64 0)))) fun v4 => bnd (gv v4 false (evP rows (.mv (.c (lk l 15))))) fun v5 => bnd (gv v4 false (evP rows (.mv (.c (lk l 10))))) fun v6 => bnd (gv v4 false (evP rows (.mv (.c (lk l 11))))) fun v7 => bnd (gv v4 false (evP rows (.idxS 1 (.c v6) (.c v7)))) fun v8 => bnd (gv v4 false (evP rows (.load1 (.c v8)))) fun v9 => bnd (gv v4 false (evP rows (.mv (.c (lk l 13))))) fun v10 => bnd (gv v4 false (evP rows (.idxS 1 (.c v9) (.c v10)))) fun v11 => bnd (gv v4 false (evP rows (.load1 (.c v11)))) fun v12 => bnd (gv v4 false (evP rows (.bin .lss (.c v5) (.c v12)))) fun v13 => bnd (evP rows (.pick (.c v4) (.c (.bool true)) (.c v13))) fun v14 => Ex F cx k ⟨mk 142 [(127, v14), (126, v13), (125, v12), (124, v11), (123, v10), (122, v9), (121, v8), (120, v7), (119, v6), (118, v5), (117, v4), (116, v4), (115, v3), (114, v2), (113, lk l 13), (112, v1), (111, v0), (110, lk l 11), (109, lk l 10), (0, lk l 0), (1, lk l 1), (2, lk l 2), (3, lk l 3), (9, lk l 9), (10, lk l 10), (11, lk l 11), (12, lk l 12), (13, lk l 13), (14, lk l 14), (15, lk l 15)], rows, low⟩ r := reg (keep := [0, 1, 2, 3, 9, 10, 11, 12, 13, 14, 15]) (ops := c36r10) rfl (by kernel_rfl) (by kernel_rfl)
def c36s11 : ICode := (.seq c36k10 c36s9)
@[simp] theorem uc36s11 : Ex F cx (.code c36s11 :: k) s r ↔ Ex F cx (.code (.seq c36k10 c36s9) :: k) s r := Iff.rfl
def c36r12 : List Seg := [
  .grp [(⟨some 86, .mv (.t 12), none⟩, 0), (⟨some 87, .mv (.t 0), none⟩, 0), (⟨some 88, .mv (.t 14), none⟩, 0), (⟨some 89, .idxS 1 (.t 87) (.t 88), none⟩, 6), (⟨some 90, .load1 (.t 89), none⟩, 14), (⟨some 91, .bin .mul (.t 86) (.t 90), none⟩, 31), (⟨some 92, .mv (.t 10), none⟩, 0), (⟨some 93, .mv (.t 11), none⟩, 0), (⟨some 94, .idxS 1 (.t 92) (.t 93), none⟩, 192), (⟨some 95, .load1 (.t 94), none⟩, 448), (⟨some 96, .mv (.t 14), none⟩, 0), (⟨some 97, .idxS 1 (.t 95) (.t 96), none⟩, 1984), (⟨some 98, .load1 (.t 97), none⟩, 4032), (⟨some 99, .bin .add (.t 91) (.t 98), none⟩, 8191), (⟨some 100, .mv (.t 10), none⟩, 0), (⟨some 101, .mv (.t 14), none⟩, 0), (⟨some 102, .bin .add (.t 101) (.c (.int .i64 1)), none⟩, 32768), (⟨some 103, .idxS 1 (.t 100) (.t 102), none⟩, 114688), (⟨some 104, .load1 (.t 103), none⟩, 245760), (⟨some 105, .mv (.t 13), none⟩, 0), (⟨some 106, .idxS 1 (.t 104) (.t 105), none⟩, 1032192), (⟨some 107, .load1 (.t 106), none⟩, 2080768)],
  .one ⟨some 108, .bin .add (.t 99) (.t 107), none⟩,
  .one ⟨some 15, .mv (.t 108), none⟩]
def c36k12 : ICode := .kill (dead 142 [0, 1, 2, 3, 9, 10, 11, 12, 13, 14]) (.ops c36r12)
@[simp] theorem uc36k12 : Ex F cx (.code c36k12 :: k) ⟨mk 142 l, rows, low⟩ r ↔ bnd (evP rows (.idxS 1 (.c (lk l 0)) (.c (lk l 14)))) fun v0 => bnd (evP rows (.load1 (.c v0))) fun v1 => bnd (evP rows (.bin .mul (.c (lk l 12)) (.c v1))) fun v2 => bnd (evP rows (.idxS 1 (.c (lk l 10)) (.c (lk l 11)))) fun v3 => bnd (evP rows (.load1 (.c v3))) fun v4 => bnd (evP rows (.idxS 1 (.c v4) (.c (lk l 14)))) fun v5 => bnd (evP rows (.load1 (.c v5))) fun v6 => bnd (evP rows (.bin .add (.c v2) (.c v6))) fun v7 => bnd (evP rows (.bin .add (.c (lk l 14)) (.c (.int .i64 1)))) fun v8 => bnd (evP rows (.idxS 1 (.c (lk l 10)) (.c v8))) fun v9 => bnd (evP rows (.load1 (.c v9))) fun v10 => bnd (evP rows (.idxS 1 (.c v10) (.c (lk l 13)))) fun v11 => bnd (evP rows (.load1 (.c v11))) fun v12 => bnd (evP rows (.bin .add (.c v7) (.c v12))) fun v13 => Ex F cx k ⟨mk 142 [(15, v13), (108, v13), (107, v12), (106, v11), (105, lk l 13), (104, v10), (103, v9), (102, v8), (101, lk l 14), (100, lk l 10), (99, v7), (98, v6), (97, v5), (96, lk l 14), (95, v4), (94, v3), (93, lk l 11), (92, lk l 10), (91, v2), (90, v1), (89, v0), (88, lk l 14), (87, lk l 0), (86, lk l 12), (0, lk l 0), (1, lk l 1), (2, lk l 2), (3, lk l 3), (9, lk l 9), (10, lk l 10), (11, lk l 11), (12, lk l 12), (13, lk l 13), (14, lk l 14)], rows, low⟩ r := reg (keep := [0, 1, 2, 3, 9, 10, 11, 12, 13, 14]) (ops := c36r12) rfl (by kernel_rfl) (by kernel_rfl)
def c36s13 : ICode := (.cond (.t 85) c36k12 .skip)
@[simp] theorem uc36s13 : Ex F cx (.code c36s13 :: k) s r ↔ Ex F cx (.code (.cond (.t 85) c36k12 .skip) :: k) s r := Iff.rfl
def c36r14 : List Seg := [
  .one ⟨some 83, .mv (.t 1), none⟩,
  .one ⟨some 84, .len 0 (.t 83), none⟩,
  .one ⟨some 85, .bin .gtr (.t 84) (.c (.int .i64 0)), none⟩]
def c36k14 : ICode := .kill (dead 142 [0, 1, 2, 3, 9, 10, 11, 12, 13, 14, 15]) (.ops c36r14)
@[simp] theorem uc36k14 : Ex F cx (.code c36k14 :: k) ⟨mk 142 l, rows, low⟩ r ↔ bnd (evP rows (.len 0 (.c (lk l 1)))) fun v0 => bnd (evP rows (.bin .gtr (.c v0) (.c (.int .i64 0)))) fun v1 => Ex F cx k ⟨mk 142 [(85, v1), (84, v0), (83, lk l 1), (0, lk l 0), (1, lk l 1), (2, lk l 2), (3, lk l 3), (9, lk l 9), (10, lk l 10), (11, lk l 11), (12, lk l 12), (13, lk l 13), (14, lk l 14), (15, lk l 15)], rows, low⟩ r := reg (keep := [0, 1, 2, 3, 9, 10, 11, 12, 13, 14, 15]) (ops := c36r14) rfl (by kernel_rfl) (by kernel_rfl)
def c36s15 : ICode := (.seq (.seq c36k14 c36s13) c36s11)
@[simp] theorem uc36s15 : Ex F cx (.code c36s15 :: k) s r ↔ Ex F cx (.code (.seq (.seq c36k14 c36s13) c36s11) :: k) s r := Iff.rfl
def c36r16 : List Seg := [
  .grp [(⟨some 62, .mv (.t 0), none⟩, 0), (⟨some 63, .mv (.t 14), none⟩, 0), (⟨some 64, .idxS 1 (.t 62) (.t 63), none⟩, 3), (⟨some 65, .load1 (.t 64), none⟩, 7), (⟨some 66, .mv (.t 10), none⟩, 0), (⟨some 67, .mv (.t 11), none⟩, 0), (⟨some 68, .idxS 1 (.t 66) (.t 67), none⟩, 48), (⟨some 69, .load1 (.t 68), none⟩, 112), (⟨some 70, .mv (.t 14), none⟩, 0), (⟨some 71, .idxS 1 (.t 69) (.t 70), none⟩, 496), (⟨some 72, .load1 (.t 71), none⟩, 1008), (⟨some 73, .mv (.t 10), none⟩, 0), (⟨some 74, .mv (.t 14), none⟩, 0), (⟨some 75, .bin .add (.t 74) (.c (.int .i64 1)), none⟩, 4096), (⟨some 76, .idxS 1 (.t 73) (.t 75), none⟩, 14336), (⟨some 77, .load1 (.t 76), none⟩, 30720), (⟨some 78, .mv (.t 13), none⟩, 0), (⟨some 79, .idxS 1 (.t 77) (.t 78), none⟩, 129024), (⟨some 80, .load1 (.t 79), none⟩, 260096), (⟨some 81, .mx [(.t 72), (.t 80)], none⟩, 524272)],
  .one ⟨some 82, .bin .add (.t 65) (.t 81), none⟩,
  .one ⟨some 15, .mv (.t 82), none⟩]
def c36k16 : ICode := .kill (dead 142 [0, 1, 2, 3, 9, 10, 11, 12, 13, 14]) (.ops c36r16)
@[simp] theorem uc36k16 : Ex F cx (.code c36k16 :: k) ⟨mk 142 l, rows, low⟩ r ↔ bnd (evP rows (.idxS 1 (.c (lk l 0)) (.c (lk l 14)))) fun v0 => bnd (evP rows (.load1 (.c v0))) fun v1 => bnd (evP rows (.idxS 1 (.c (lk l 10)) (.c (lk l 11)))) fun v2 => bnd (evP rows (.load1 (.c v2))) fun v3 => bnd (evP rows (.idxS 1 (.c v3) (.c (lk l 14)))) fun v4 => bnd (evP rows (.load1 (.c v4))) fun v5 => bnd (evP rows (.bin .add (.c (lk l 14)) (.c (.int .i64 1)))) fun v6 => bnd (evP rows (.idxS 1 (.c (lk l 10)) (.c v6))) fun v7 => bnd (evP rows (.load1 (.c v7))) fun v8 => bnd (evP rows (.idxS 1 (.c v8) (.c (lk l 13)))) fun v9 => bnd (evP rows (.load1 (.c v9))) fun v10 => bnd (evP rows (.mx [(.c v5), (.c v10)])) fun v11 => bnd (evP rows (.bin .add (.c v1) (.c v11))) fun v12 => Ex F cx k ⟨mk 142 [(15, v12), (82, v12), (81, v11), (80, v10), (79, v9), (78, lk l 13), (77, v8), (76, v7), (75, v6), (74, lk l 14), (73, lk l 10), (72, v5), (71, v4), (70, lk l 14), (69, v3), (68, v2), (67, lk l 11), (66, lk l 10), (65, v1), (64, v0), (63, lk l 14), (62, lk l 0), (0, lk l 0), (1, lk l 1), (2, lk l 2), (3, lk l 3), (9, lk l 9), (10, lk l 10), (11, lk l 11), (12, lk l 12), (13, lk l 13), (14, lk l 14)], rows, low⟩ r := reg (keep := [0, 1, 2, 3, 9, 10, 11, 12, 13, 14]) (ops := c36r16) rfl (by kernel_rfl) (by kernel_rfl)
def c36s17 : ICode := (.seq (.block 5 (.seq c36k16 c36s15)) c36k7)
@[simp] theorem uc36s17 : Ex F cx (.code c36s17 :: k) s r ↔ Ex F cx (.code (.seq (.block 5 (.seq c36k16 c36s15)) c36k7) :: k) s r := Iff.rfl
def c36s18 : ICode := (.cond (.t 59) .skip (.exit 4))
@[simp] theorem uc36s18 : Ex F cx (.code c36s18 :: k) s r ↔ Ex F cx (.code (.cond (.t 59) .skip (.exit 4)) :: k) s r := Iff.rfl
def c36r19 : List Seg := [
  .one ⟨some 57, .mv (.t 14), none⟩,
  .one ⟨some 58, .mv (.t 13), none⟩,
  .one ⟨some 59, .bin .lss (.t 57) (.t 58), none⟩]
def c36k19 : ICode := .kill (dead 142 [0, 1, 2, 3, 9, 10, 11, 12, 13, 14]) (.ops c36r19)
@[simp] theorem uc36k19 : Ex F cx (.code c36k19 :: k) ⟨mk 142 l, rows, low⟩ r ↔ bnd (evP rows (.bin .lss (.c (lk l 14)) (.c (lk l 13)))) fun v0 => Ex F cx k ⟨mk 142 [(59, v0), (58, lk l 13), (57, lk l 14), (0, lk l 0), (1, lk l 1), (2, lk l 2), (3, lk l 3), (9, lk l 9), (10, lk l 10), (11, lk l 11), (12, lk l 12), (13, lk l 13), (14, lk l 14)], rows, low⟩ r := reg (keep := [0, 1, 2, 3, 9, 10, 11, 12, 13, 14]) (ops := c36r19) rfl (by kernel_rfl) (by kernel_rfl)
def c36l6 : ICode := (.seq (.seq c36k19 c36s18) c36s17)
def c36s20 : ICode := (.block 4 (.loop c36l6))
@[simp] theorem uc36s20 : Ex F cx (.code c36s20 :: k) s r ↔ Ex F cx (.code (.block 4 (.loop c36l6)) :: k) s r := Iff.rfl
def c36r21 : List Seg := [
  .one ⟨some 56, .mv (.t 11), none⟩,
  .one ⟨some 14, .mv (.t 56), none⟩]
def c36k21 : ICode := .kill (dead 142 [0, 1, 2, 3, 9, 10, 11, 12, 13]) (.ops c36r21)
@[simp] theorem uc36k21 : Ex F cx (.code c36k21 :: k) ⟨mk 142 l, rows, low⟩ r ↔ Ex F cx k ⟨mk 142 [(14, lk l 11), (56, lk l 11), (0, lk l 0), (1, lk l 1), (2, lk l 2), (3, lk l 3), (9, lk l 9), (10, lk l 10), (11, lk l 11), (12, lk l 12), (13, lk l 13)], rows, low⟩ r := reg (keep := [0, 1, 2, 3, 9, 10, 11, 12, 13]) (ops := c36r21) rfl (by kernel_rfl) (by kernel_rfl)
def c36s22 : ICode := (.seq c36k21 c36s20)
@[simp] theorem uc36s22 : Ex F cx (.code c36s22 :: k) s r ↔ Ex F cx (.code (.seq c36k21 c36s20) :: k) s r := Iff.rfl
def c36r23 : List Seg := [
  .one ⟨some 50, .mv (.t 10), none⟩,
  .one ⟨some 51, .mv (.t 11), none⟩,
  .one ⟨some 52, .idxS 1 (.t 50) (.t 51), none⟩,
  .one ⟨some 53, .load1 (.t 52), none⟩,
  .one ⟨some 54, .mv (.t 13), none⟩,
  .one ⟨some 55, .idxS 1 (.t 53) (.t 54), none⟩,
  .one ⟨none, .store1 (.t 55) (.c (.int .i64 (-1))), none⟩]
def c36k23 : ICode := .kill (dead 142 [0, 1, 2, 3, 9, 10, 11, 12, 13]) (.ops c36r23)
@[simp] theorem uc36k23 : Ex F cx (.code c36k23 :: k) ⟨mk 142 l, rows, low⟩ r ↔ bnd (evP rows (.idxS 1 (.c (lk l 10)) (.c (lk l 11)))) fun v0 => bnd (evP rows (.load1 (.c v0))) fun v1 => bnd (evP rows (.idxS 1 (.c v1) (.c (lk l 13)))) fun v2 => bnd (evE rows low (.store1 (.c v2) (.c (.int .i64 (-1))))) fun q3 => Ex F cx k ⟨mk 142 [(55, v2), (54, lk l 13), (53, v1), (52, v0), (51, lk l 11), (50, lk l 10), (0, lk l 0), (1, lk l 1), (2, lk l 2), (3, lk l 3), (9, lk l 9), (10, lk l 10), (11, lk l 11), (12, lk l 12), (13, lk l 13)], q3.2.1, q3.2.2⟩ r := reg (keep := [0, 1, 2, 3, 9, 10, 11, 12, 13]) (ops := c36r23) rfl (by kernel_rfl) (by kernel_rfl)
def c36s24 : ICode := (.seq c36k23 c36s22)
@[simp] theorem uc36s24 : Ex F cx (.code c36s24 :: k) s r ↔ Ex F cx (.code (.seq c36k23 c36s22) :: k) s r := Iff.rfl
def c36s25 : ICode := (.cond (.t 49) (.exit 3) .skip)
@[simp] theorem uc36s25 : Ex F cx (.code c36s25 :: k) s r ↔ Ex F cx (.code (.cond (.t 49) (.exit 3) .skip) :: k) s r := Iff.rfl
def c36r26 : List Seg := [
  .one ⟨some 47, .mv (.t 13), none⟩,
  .one ⟨some 48, .mv (.t 11), none⟩,
  .one ⟨some 49, .bin .eql (.t 47) (.t 48), none⟩]
def c36k26 : ICode := .kill (dead 142 [0, 1, 2, 3, 9, 10, 11, 12, 13]) (.ops c36r26)
@[simp] theorem uc36k26 : Ex F cx (.code c36k26 :: k) ⟨mk 142 l, rows, low⟩ r ↔ bnd (evP rows (.bin .eql (.c (lk l 13)) (.c (lk l 11)))) fun v0 => Ex F cx k ⟨mk 142 [(49, v0), (48, lk l 11), (47, lk l 13), (0, lk l 0), (1, lk l 1), (2, lk l 2), (3, lk l 3), (9, lk l 9), (10, lk l 10), (11, lk l 11), (12, lk l 12), (13, lk l 13)], rows, low⟩ r := reg (keep := [0, 1, 2, 3, 9, 10, 11, 12, 13]) (ops := c36r26) rfl (by kernel_rfl) (by kernel_rfl)
def c36s27 : ICode := (.seq (.seq c36k26 c36s25) c36s24)
@[simp] theorem uc36s27 : Ex F cx (.code c36s27 :: k) s r ↔ Ex F cx (.code (.seq (.seq c36k26 c36s25) c36s24) :: k) s r := Iff.rfl
def c36r28 : List Seg := [
  .one ⟨some 41, .mv (.t 12), none⟩,
  .one ⟨some 42, .mv (.t 1), none⟩,
  .one ⟨some 43, .mv (.t 13), none⟩,
  .one ⟨some 44, .idxS 1 (.t 42) (.t 43), none⟩,
  .one ⟨some 45, .load1 (.t 44), none⟩,
  .one ⟨some 46, .bin .add (.t 41) (.t 45), none⟩,
  .one ⟨some 12, .mv (.t 46), none⟩]
def c36k28 : ICode := .kill (dead 142 [0, 1, 2, 3, 9, 10, 11, 12, 13]) (.ops c36r28)
@[simp] theorem uc36k28 : Ex F cx (.code c36k28 :: k) ⟨mk 142 l, rows, low⟩ r ↔ bnd (evP rows (.idxS 1 (.c (lk l 1)) (.c (lk l 13)))) fun v0 => bnd (evP rows (.load1 (.c v0))) fun v1 => bnd (evP rows (.bin .add (.c (lk l 12)) (.c v1))) fun v2 => Ex F cx k ⟨mk 142 [(12, v2), (46, v2), (45, v1), (44, v0), (43, lk l 13), (42, lk l 1), (41, lk l 12), (0, lk l 0), (1, lk l 1), (2, lk l 2), (3, lk l 3), (9, lk l 9), (10, lk l 10), (11, lk l 11), (12, lk l 12), (13, lk l 13)], rows, low⟩ r := reg (keep := [0, 1, 2, 3, 9, 10, 11, 12, 13]) (ops := c36r28) rfl (by kernel_rfl) (by kernel_rfl)
def c36s29 : ICode := (.cond (.t 40) c36k28 .skip)
@[simp] theorem uc36s29 : Ex F cx (.code c36s29 :: k) s r ↔ Ex F cx (.code (.cond (.t 40) c36k28 .skip) :: k) s r := Iff.rfl
def c36r30 : List Seg := [
  .one ⟨some 38, .mv (.t 1), none⟩,
  .one ⟨some 39, .len 0 (.t 38), none⟩,
  .one ⟨some 40, .bin .gtr (.t 39) (.c (.int .i64 0)), none⟩]
def c36k30 : ICode := .kill (dead 142 [0, 1, 2, 3, 9, 10, 11, 12, 13]) (.ops c36r30)
@[simp] theorem uc36k30 : Ex F cx (.code c36k30 :: k) ⟨mk 142 l, rows, low⟩ r ↔ bnd (evP rows (.len 0 (.c (lk l 1)))) fun v0 => bnd (evP rows (.bin .gtr (.c v0) (.c (.int .i64 0)))) fun v1 => Ex F cx k ⟨mk 142 [(40, v1), (39, v0), (38, lk l 1), (0, lk l 0), (1, lk l 1), (2, lk l 2), (3, lk l 3), (9, lk l 9), (10, lk l 10), (11, lk l 11), (12, lk l 12), (13, lk l 13)], rows, low⟩ r := reg (keep := [0, 1, 2, 3, 9, 10, 11, 12, 13]) (ops := c36r30) rfl (by kernel_rfl) (by kernel_rfl)
def c36s31 : ICode := (.seq (.block 3 (.seq (.seq c36k30 c36s29) c36s27)) c36k5)
@[simp] theorem uc36s31 : Ex F cx (.code c36s31 :: k) s r ↔ Ex F cx (.code (.seq (.block 3 (.seq (.seq c36k30 c36s29) c36s27)) c36k5) :: k) s r := Iff.rfl
def c36s32 : ICode := (.cond (.t 35) .skip (.exit 2))
@[simp] theorem uc36s32 : Ex F cx (.code c36s32 :: k) s r ↔ Ex F cx (.code (.cond (.t 35) .skip (.exit 2)) :: k) s r := Iff.rfl
def c36r33 : List Seg := [
  .one ⟨some 33, .mv (.t 13), none⟩,
  .one ⟨some 34, .mv (.t 9), none⟩,
  .one ⟨some 35, .bin .lss (.t 33) (.t 34), none⟩]
def c36k33 : ICode := .kill (dead 142 [0, 1, 2, 3, 9, 10, 11, 12, 13]) (.ops c36r33)
@[simp] theorem uc36k33 : Ex F cx (.code c36k33 :: k) ⟨mk 142 l, rows, low⟩ r ↔ bnd (evP rows (.bin .lss (.c (lk l 13)) (.c (lk l 9)))) fun v0 => Ex F cx k ⟨mk 142 [(35, v0), (34, lk l 9), (33, lk l 13), (0, lk l 0), (1, lk l 1), (2, lk l 2), (3, lk l 3), (9, lk l 9), (10, lk l 10), (11, lk l 11), (12, lk l 12), (13, lk l 13)], rows, low⟩ r := reg (keep := [0, 1, 2, 3, 9, 10, 11, 12, 13]) (ops := c36r33) rfl (by kernel_rfl) (by kernel_rfl)
def c36l4 : ICode := (.seq (.seq c36k33 c36s32) c36s31)
def c36s34 : ICode := (.block 2 (.loop c36l4))
@[simp] theorem uc36s34 : Ex F cx (.code c36s34 :: k) s r ↔ Ex F cx (.code (.block 2 (.loop c36l4)) :: k) s r := Iff.rfl
def c36r35 : List Seg := [
  .one ⟨some 32, .mv (.t 11), none⟩,
  .one ⟨some 13, .mv (.t 32), none⟩]
def c36k35 : ICode := .kill (dead 142 [0, 1, 2, 3, 9, 10, 11, 12]) (.ops c36r35)
@[simp] theorem uc36k35 : Ex F cx (.code c36k35 :: k) ⟨mk 142 l, rows, low⟩ r ↔ Ex F cx k ⟨mk 142 [(13, lk l 11), (32, lk l 11), (0, lk l 0), (1, lk l 1), (2, lk l 2), (3, lk l 3), (9, lk l 9), (10, lk l 10), (11, lk l 11), (12, lk l 12)], rows, low⟩ r := reg (keep := [0, 1, 2, 3, 9, 10, 11, 12]) (ops := c36r35) rfl (by kernel_rfl) (by kernel_rfl)
def c36s36 : ICode := (.seq c36k35 c36s34)
@[simp] theorem uc36s36 : Ex F cx (.code c36s36 :: k) s r ↔ Ex F cx (.code (.seq c36k35 c36s34) :: k) s r := Iff.rfl
def c36r37 : List Seg := [
  .one ⟨some 12, .mv (.c (.int .i64 0)), none⟩]
def c36k37 : ICode := .kill (dead 142 [0, 1, 2, 3, 9, 10, 11]) (.ops c36r37)
@[simp] theorem uc36k37 : Ex F cx (.code c36k37 :: k) ⟨mk 142 l, rows, low⟩ r ↔ Ex F cx k ⟨mk 142 [(12, (.int .i64 0)), (0, lk l 0), (1, lk l 1), (2, lk l 2), (3, lk l 3), (9, lk l 9), (10, lk l 10), (11, lk l 11)], rows, low⟩ r := reg (keep := [0, 1, 2, 3, 9, 10, 11]) (ops := c36r37) rfl (by kernel_rfl) (by kernel_rfl)
def c36s38 : ICode := (.seq c36k37 c36s36)
@[simp] theorem uc36s38 : Ex F cx (.code c36s38 :: k) s r ↔ Ex F cx (.code (.seq c36k37 c36s36) :: k) s r := Iff.rfl
def c36r39 : List Seg := [
  .one ⟨some 27, .mv (.t 10), none⟩,
  .one ⟨some 28, .mv (.t 11), none⟩,
  .one ⟨some 29, .mv (.t 9), none⟩,
  .one ⟨some 30, .make [.int .i64 0] 8 (.t 29) (.t 29), none⟩,
  .one ⟨some 31, .idxS 1 (.t 27) (.t 28), none⟩,
  .one ⟨none, .store1 (.t 31) (.t 30), none⟩]
def c36k39 : ICode := .kill (dead 142 [0, 1, 2, 3, 9, 10, 11]) (.ops c36r39)
@[simp] theorem uc36k39 : Ex F cx (.code c36k39 :: k) ⟨mk 142 l, rows, low⟩ r ↔ bnd (evE rows low (.make [.int .i64 0] 8 (.c (lk l 9)) (.c (lk l 9)))) fun q0 => bnd (evP q0.2.1 (.idxS 1 (.c (lk l 10)) (.c (lk l 11)))) fun v1 => bnd (evE q0.2.1 q0.2.2 (.store1 (.c v1) (.c q0.1))) fun q2 => Ex F cx k ⟨mk 142 [(31, v1), (30, q0.1), (29, lk l 9), (28, lk l 11), (27, lk l 10), (0, lk l 0), (1, lk l 1), (2, lk l 2), (3, lk l 3), (9, lk l 9), (10, lk l 10), (11, lk l 11)], q2.2.1, q2.2.2⟩ r := reg (keep := [0, 1, 2, 3, 9, 10, 11]) (ops := c36r39) rfl (by kernel_rfl) (by kernel_rfl)
def c36s40 : ICode := (.seq (.block 1 (.seq c36k39 c36s38)) c36k3)
@[simp] theorem uc36s40 : Ex F cx (.code c36s40 :: k) s r ↔ Ex F cx (.code (.seq (.block 1 (.seq c36k39 c36s38)) c36k3) :: k) s r := Iff.rfl
def c36s41 : ICode := (.cond (.t 24) .skip (.exit 0))
@[simp] theorem uc36s41 : Ex F cx (.code c36s41 :: k) s r ↔ Ex F cx (.code (.cond (.t 24) .skip (.exit 0)) :: k) s r := Iff.rfl
def c36r42 : List Seg := [
  .one ⟨some 23, .mv (.t 11), none⟩,
  .one ⟨some 24, .bin .geq (.t 23) (.c (.int .i64 0)), none⟩]
def c36k42 : ICode := .kill (dead 142 [0, 1, 2, 3, 9, 10, 11]) (.ops c36r42)
@[simp] theorem uc36k42 : Ex F cx (.code c36k42 :: k) ⟨mk 142 l, rows, low⟩ r ↔ bnd (evP rows (.bin .geq (.c (lk l 11)) (.c (.int .i64 0)))) fun v0 => Ex F cx k ⟨mk 142 [(24, v0), (23, lk l 11), (0, lk l 0), (1, lk l 1), (2, lk l 2), (3, lk l 3), (9, lk l 9), (10, lk l 10), (11, lk l 11)], rows, low⟩ r := reg (keep := [0, 1, 2, 3, 9, 10, 11]) (ops := c36r42) rfl (by kernel_rfl) (by kernel_rfl)
def c36l2 : ICode := (.seq (.seq c36k42 c36s41) c36s40)
def c36s43 : ICode := (.block 0 (.loop c36l2))
@[simp] theorem uc36s43 : Ex F cx (.code c36s43 :: k) s r ↔ Ex F cx (.code (.block 0 (.loop c36l2)) :: k) s r := Iff.rfl
def c36r44 : List Seg := [
  .one ⟨some 21, .mv (.t 9), none⟩,
  .one ⟨some 22, .bin .sub (.t 21) (.c (.int .i64 1)), none⟩,
  .one ⟨some 11, .mv (.t 22), none⟩]
def c36k44 : ICode := .kill (dead 142 [0, 1, 2, 3, 9, 10]) (.ops c36r44)
@[simp] theorem uc36k44 : Ex F cx (.code c36k44 :: k) ⟨mk 142 l, rows, low⟩ r ↔ bnd (evP rows (.bin .sub (.c (lk l 9)) (.c (.int .i64 1)))) fun v0 => Ex F cx k ⟨mk 142 [(11, v0), (22, v0), (21, lk l 9), (0, lk l 0), (1, lk l 1), (2, lk l 2), (3, lk l 3), (9, lk l 9), (10, lk l 10)], rows, low⟩ r := reg (keep := [0, 1, 2, 3, 9, 10]) (ops := c36r44) rfl (by kernel_rfl) (by kernel_rfl)
def c36s45 : ICode := (.seq (.seq c36k44 c36s43) c36s1)
@[simp] theorem uc36s45 : Ex F cx (.code c36s45 :: k) s r ↔ Ex F cx (.code (.seq (.seq c36k44 c36s43) c36s1) :: k) s r := Iff.rfl
def c36r46 : List Seg := [
  .one ⟨some 19, .mv (.t 9), none⟩,
  .one ⟨some 20, .make [.nilslice] 24 (.t 19) (.t 19), none⟩,
  .one ⟨some 10, .mv (.t 20), none⟩]
def c36k46 : ICode := .kill (dead 142 [0, 1, 2, 3, 9]) (.ops c36r46)
@[simp] theorem uc36k46 : Ex F cx (.code c36k46 :: k) ⟨mk 142 l, rows, low⟩ r ↔ bnd (evE rows low (.make [.nilslice] 24 (.c (lk l 9)) (.c (lk l 9)))) fun q0 => Ex F cx k ⟨mk 142 [(10, q0.1), (20, q0.1), (19, lk l 9), (0, lk l 0), (1, lk l 1), (2, lk l 2), (3, lk l 3), (9, lk l 9)], q0.2.1, q0.2.2⟩ r := reg (keep := [0, 1, 2, 3, 9]) (ops := c36r46) rfl (by kernel_rfl) (by kernel_rfl)
def c36s47 : ICode := (.seq c36k46 c36s45)
@[simp] theorem uc36s47 : Ex F cx (.code c36s47 :: k) s r ↔ Ex F cx (.code (.seq c36k46 c36s45) :: k) s r := Iff.rfl
def c36r48 : List Seg := [
  .one ⟨some 16, .mv (.t 0), none⟩,
  .one ⟨some 17, .len 0 (.t 16), none⟩,
  .one ⟨some 18, .bin .add (.t 17) (.c (.int .i64 1)), none⟩,
  .one ⟨some 9, .mv (.t 18), none⟩]
def c36k48 : ICode := .kill (dead 142 [0, 1, 2, 3]) (.ops c36r48)
@[simp] theorem uc36k48 : Ex F cx (.code c36k48 :: k) ⟨mk 142 l, rows, low⟩ r ↔ bnd (evP rows (.len 0 (.c (lk l 0)))) fun v0 => bnd (evP rows (.bin .add (.c v0) (.c (.int .i64 1)))) fun v1 => Ex F cx k ⟨mk 142 [(9, v1), (18, v1), (17, v0), (16, lk l 0), (0, lk l 0), (1, lk l 1), (2, lk l 2), (3, lk l 3)], rows, low⟩ r := reg (keep := [0, 1, 2, 3]) (ops := c36r48) rfl (by kernel_rfl) (by kernel_rfl)
def c36s49 : ICode := (.seq c36k48 c36s47)
@[simp] theorem uc36s49 : Ex F cx (.code c36s49 :: k) s r ↔ Ex F cx (.code (.seq c36k48 c36s47) :: k) s r := Iff.rfl
def c36r50 : List Seg := [
  .one ⟨some 8, .mv (.c (.int .i64 0)), none⟩]
def c36k50 : ICode := .kill (dead 142 [0, 1, 2, 3]) (.ops c36r50)
@[simp] theorem uc36k50 : Ex F cx (.code c36k50 :: k) ⟨mk 142 l, rows, low⟩ r ↔ Ex F cx k ⟨mk 142 [(8, (.int .i64 0)), (0, lk l 0), (1, lk l 1), (2, lk l 2), (3, lk l 3)], rows, low⟩ r := reg (keep := [0, 1, 2, 3]) (ops := c36r50) rfl (by kernel_rfl) (by kernel_rfl)
def Jc36s11 (F : Nat → Option IFn) (cx : Ctx) (x0 x1 x2 x3 x9 x10 x11 x12 x13 x14 x15 : AV) (rows : List Row) (low : Nat) (r : AV × List Row × Nat → Prop) : Prop := Ex F cx (.code c36s11 :: .inBlock 5 :: .code c36k7 :: .inLoop c36l6 :: .inBlock 4 :: .inBlock 3 :: .code c36k5 :: .inLoop c36l4 :: .inBlock 2 :: .inBlock 1 :: .code c36k3 :: .inLoop c36l2 :: .inBlock 0 :: .code c36s1 :: []) ⟨mk 142 [(0, x0), (1, x1), (2, x2), (3, x3), (9, x9), (10, x10), (11, x11), (12, x12), (13, x13), (14, x14), (15, x15)], rows, low⟩ r
theorem jc36s11 : Ex F cx (.code c36s11 :: .inBlock 5 :: .code c36k7 :: .inLoop c36l6 :: .inBlock 4 :: .inBlock 3 :: .code c36k5 :: .inLoop c36l4 :: .inBlock 2 :: .inBlock 1 :: .code c36k3 :: .inLoop c36l2 :: .inBlock 0 :: .code c36s1 :: []) ⟨mk 142 l, rows, low⟩ r ↔ Jc36s11 F cx (lk l 0) (lk l 1) (lk l 2) (lk l 3) (lk l 9) (lk l 10) (lk l 11) (lk l 12) (lk l 13) (lk l 14) (lk l 15) rows low r := Ex_canon (keep := [0, 1, 2, 3, 9, 10, 11, 12, 13, 14, 15]) (by kernel_rfl)
def Jc36s17 (F : Nat → Option IFn) (cx : Ctx) (x0 x1 x2 x3 x9 x10 x11 x12 x13 x14 : AV) (rows : List Row) (low : Nat) (r : AV × List Row × Nat → Prop) : Prop := Ex F cx (.code c36s17 :: .inLoop c36l6 :: .inBlock 4 :: .inBlock 3 :: .code c36k5 :: .inLoop c36l4 :: .inBlock 2 :: .inBlock 1 :: .code c36k3 :: .inLoop c36l2 :: .inBlock 0 :: .code c36s1 :: []) ⟨mk 142 [(0, x0), (1, x1), (2, x2), (3, x3), (9, x9), (10, x10), (11, x11), (12, x12), (13, x13), (14, x14)], rows, low⟩ r
theorem jc36s17 : Ex F cx (.code c36s17 :: .inLoop c36l6 :: .inBlock 4 :: .inBlock 3 :: .code c36k5 :: .inLoop c36l4 :: .inBlock 2 :: .inBlock 1 :: .code c36k3 :: .inLoop c36l2 :: .inBlock 0 :: .code c36s1 :: []) ⟨mk 142 l, rows, low⟩ r ↔ Jc36s17 F cx (lk l 0) (lk l 1) (lk l 2) (lk l 3) (lk l 9) (lk l 10) (lk l 11) (lk l 12) (lk l 13) (lk l 14) rows low r := Ex_canon (keep := [0, 1, 2, 3, 9, 10, 11, 12, 13, 14]) (by kernel_rfl)
def Lc36l6 (F : Nat → Option IFn) (cx : Ctx) (x0 x1 x2 x3 x9 x10 x11 x12 x13 x14 : AV) (rows : List Row) (low : Nat) (r : AV × List Row × Nat → Prop) : Prop := Ex F cx (.code c36l6 :: .inLoop c36l6 :: .inBlock 4 :: .inBlock 3 :: .code c36k5 :: .inLoop c36l4 :: .inBlock 2 :: .inBlock 1 :: .code c36k3 :: .inLoop c36l2 :: .inBlock 0 :: .code c36s1 :: []) ⟨mk 142 [(0, x0), (1, x1), (2, x2), (3, x3), (9, x9), (10, x10), (11, x11), (12, x12), (13, x13), (14, x14)], rows, low⟩ r
@[simp] theorem nc36l6 : Ex F cx (.inLoop c36l6 :: .inBlock 4 :: .inBlock 3 :: .code c36k5 :: .inLoop c36l4 :: .inBlock 2 :: .inBlock 1 :: .code c36k3 :: .inLoop c36l2 :: .inBlock 0 :: .code c36s1 :: []) ⟨mk 142 l, rows, low⟩ r ↔ Lc36l6 F cx (lk l 0) (lk l 1) (lk l 2) (lk l 3) (lk l 9) (lk l 10) (lk l 11) (lk l 12) (lk l 13) (lk l 14) rows low r := loopN (keep := [0, 1, 2, 3, 9, 10, 11, 12, 13, 14]) (by kernel_rfl)
@[simp] theorem ec36l6 : Ex F cx (.code (.loop c36l6) :: .inBlock 4 :: .inBlock 3 :: .code c36k5 :: .inLoop c36l4 :: .inBlock 2 :: .inBlock 1 :: .code c36k3 :: .inLoop c36l2 :: .inBlock 0 :: .code c36s1 :: []) ⟨mk 142 l, rows, low⟩ r ↔ Lc36l6 F cx (lk l 0) (lk l 1) (lk l 2) (lk l 3) (lk l 9) (lk l 10) (lk l 11) (lk l 12) (lk l 13) (lk l 14) rows low r := loopE (keep := [0, 1, 2, 3, 9, 10, 11, 12, 13, 14]) (by kernel_rfl)
@[simp] theorem uc36l6 : Ex F cx (.code c36l6 :: k) s r ↔ Ex F cx (.code (.seq (.seq c36k19 c36s18) c36s17) :: k) s r := Iff.rfl
def Jc36s24 (F : Nat → Option IFn) (cx : Ctx) (x0 x1 x2 x3 x9 x10 x11 x12 x13 : AV) (rows : List Row) (low : Nat) (r : AV × List Row × Nat → Prop) : Prop := Ex F cx (.code c36s24 :: .inBlock 3 :: .code c36k5 :: .inLoop c36l4 :: .inBlock 2 :: .inBlock 1 :: .code c36k3 :: .inLoop c36l2 :: .inBlock 0 :: .code c36s1 :: []) ⟨mk 142 [(0, x0), (1, x1), (2, x2), (3, x3), (9, x9), (10, x10), (11, x11), (12, x12), (13, x13)], rows, low⟩ r
theorem jc36s24 : Ex F cx (.code c36s24 :: .inBlock 3 :: .code c36k5 :: .inLoop c36l4 :: .inBlock 2 :: .inBlock 1 :: .code c36k3 :: .inLoop c36l2 :: .inBlock 0 :: .code c36s1 :: []) ⟨mk 142 l, rows, low⟩ r ↔ Jc36s24 F cx (lk l 0) (lk l 1) (lk l 2) (lk l 3) (lk l 9) (lk l 10) (lk l 11) (lk l 12) (lk l 13) rows low r := Ex_canon (keep := [0, 1, 2, 3, 9, 10, 11, 12, 13]) (by kernel_rfl)
def Jc36s27 (F : Nat → Option IFn) (cx : Ctx) (x0 x1 x2 x3 x9 x10 x11 x12 x13 : AV) (rows : List Row) (low : Nat) (r : AV × List Row × Nat → Prop) : Prop := Ex F cx (.code c36s27 :: .inBlock 3 :: .code c36k5 :: .inLoop c36l4 :: .inBlock 2 :: .inBlock 1 :: .code c36k3 :: .inLoop c36l2 :: .inBlock 0 :: .code c36s1 :: []) ⟨mk 142 [(0, x0), (1, x1), (2, x2), (3, x3), (9, x9), (10, x10), (11, x11), (12, x12), (13, x13)], rows, low⟩ r
theorem jc36s27 : Ex F cx (.code c36s27 :: .inBlock 3 :: .code c36k5 :: .inLoop c36l4 :: .inBlock 2 :: .inBlock 1 :: .code c36k3 :: .inLoop c36l2 :: .inBlock 0 :: .code c36s1 :: []) ⟨mk 142 l, rows, low⟩ r ↔ Jc36s27 F cx (lk l 0) (lk l 1) (lk l 2) (lk l 3) (lk l 9) (lk l 10) (lk l 11) (lk l 12) (lk l 13) rows low r := Ex_canon (keep := [0, 1, 2, 3, 9, 10, 11, 12, 13]) (by kernel_rfl)
def Jc36s31 (F : Nat → Option IFn) (cx : Ctx) (x0 x1 x2 x3 x9 x10 x11 x12 x13 : AV) (rows : List Row) (low : Nat) (r : AV × List Row × Nat → Prop) : Prop := Ex F cx (.code c36s31 :: .inLoop c36l4 :: .inBlock 2 :: .inBlock 1 :: .code c36k3 :: .inLoop c36l2 :: .inBlock 0 :: .code c36s1 :: []) ⟨mk 142 [(0, x0), (1, x1), (2, x2), (3, x3), (9, x9), (10, x10), (11, x11), (12, x12), (13, x13)], rows, low⟩ r
theorem jc36s31 : Ex F cx (.code c36s31 :: .inLoop c36l4 :: .inBlock 2 :: .inBlock 1 :: .code c36k3 :: .inLoop c36l2 :: .inBlock 0 :: .code c36s1 :: []) ⟨mk 142 l, rows, low⟩ r ↔ Jc36s31 F cx (lk l 0) (lk l 1) (lk l 2) (lk l 3) (lk l 9) (lk l 10) (lk l 11) (lk l 12) (lk l 13) rows low r := Ex_canon (keep := [0, 1, 2, 3, 9, 10, 11, 12, 13]) (by kernel_rfl)
def Lc36l4 (F : Nat → Option IFn) (cx : Ctx) (x0 x1 x2 x3 x9 x10 x11 x12 x13 : AV) (rows : List Row) (low : Nat) (r : AV × List Row × Nat → Prop) : Prop := Ex F cx (.code c36l4 :: .inLoop c36l4 :: .inBlock 2 :: .inBlock 1 :: .code c36k3 :: .inLoop c36l2 :: .inBlock 0 :: .code c36s1 :: []) ⟨mk 142 [(0, x0), (1, x1), (2, x2), (3, x3), (9, x9), (10, x10), (11, x11), (12, x12), (13, x13)], rows, low⟩ r
@[simp] theorem nc36l4 : Ex F cx (.inLoop c36l4 :: .inBlock 2 :: .inBlock 1 :: .code c36k3 :: .inLoop c36l2 :: .inBlock 0 :: .code c36s1 :: []) ⟨mk 142 l, rows, low⟩ r ↔ Lc36l4 F cx (lk l 0) (lk l 1) (lk l 2) (lk l 3) (lk l 9) (lk l 10) (lk l 11) (lk l 12) (lk l 13) rows low r := loopN (keep := [0, 1, 2, 3, 9, 10, 11, 12, 13]) (by kernel_rfl)
@[simp] theorem ec36l4 : Ex F cx (.code (.loop c36l4) :: .inBlock 2 :: .inBlock 1 :: .code c36k3 :: .inLoop c36l2 :: .inBlock 0 :: .code c36s1 :: []) ⟨mk 142 l, rows, low⟩ r ↔ Lc36l4 F cx (lk l 0) (lk l 1) (lk l 2) (lk l 3) (lk l 9) (lk l 10) (lk l 11) (lk l 12) (lk l 13) rows low r := loopE (keep := [0, 1, 2, 3, 9, 10, 11, 12, 13]) (by kernel_rfl)
@[simp] theorem uc36l4 : Ex F cx (.code c36l4 :: k) s r ↔ Ex F cx (.code (.seq (.seq c36k33 c36s32) c36s31) :: k) s r := Iff.rfl
def Jc36s40 (F : Nat → Option IFn) (cx : Ctx) (x0 x1 x2 x3 x9 x10 x11 : AV) (rows : List Row) (low : Nat) (r : AV × List Row × Nat → Prop) : Prop := Ex F cx (.code c36s40 :: .inLoop c36l2 :: .inBlock 0 :: .code c36s1 :: []) ⟨mk 142 [(0, x0), (1, x1), (2, x2), (3, x3), (9, x9), (10, x10), (11, x11)], rows, low⟩ r
theorem jc36s40 : Ex F cx (.code c36s40 :: .inLoop c36l2 :: .inBlock 0 :: .code c36s1 :: []) ⟨mk 142 l, rows, low⟩ r ↔ Jc36s40 F cx (lk l 0) (lk l 1) (lk l 2) (lk l 3) (lk l 9) (lk l 10) (lk l 11) rows low r := Ex_canon (keep := [0, 1, 2, 3, 9, 10, 11]) (by kernel_rfl)
def Lc36l2 (F : Nat → Option IFn) (cx : Ctx) (x0 x1 x2 x3 x9 x10 x11 : AV) (rows : List Row) (low : Nat) (r : AV × List Row × Nat → Prop) : Prop := Ex F cx (.code c36l2 :: .inLoop c36l2 :: .inBlock 0 :: .code c36s1 :: []) ⟨mk 142 [(0, x0), (1, x1), (2, x2), (3, x3), (9, x9), (10, x10), (11, x11)], rows, low⟩ r
@[simp] theorem nc36l2 : Ex F cx (.inLoop c36l2 :: .inBlock 0 :: .code c36s1 :: []) ⟨mk 142 l, rows, low⟩ r ↔ Lc36l2 F cx (lk l 0) (lk l 1) (lk l 2) (lk l 3) (lk l 9) (lk l 10) (lk l 11) rows low r := loopN (keep := [0, 1, 2, 3, 9, 10, 11]) (by kernel_rfl)
@[simp] theorem ec36l2 : Ex F cx (.code (.loop c36l2) :: .inBlock 0 :: .code c36s1 :: []) ⟨mk 142 l, rows, low⟩ r ↔ Lc36l2 F cx (lk l 0) (lk l 1) (lk l 2) (lk l 3) (lk l 9) (lk l 10) (lk l 11) rows low r := loopE (keep := [0, 1, 2, 3, 9, 10, 11]) (by kernel_rfl)
@[simp] theorem uc36l2 : Ex F cx (.code c36l2 :: k) s r ↔ Ex F cx (.code (.seq (.seq c36k42 c36s41) c36s40) :: k) s r := Iff.rfl
def c36b : ICode := (.seq c36k50 c36s49)
@[simp] theorem uc36b : Ex F cx (.code c36b :: k) s r ↔ Ex F cx (.code (.seq c36k50 c36s49) :: k) s r := Iff.rfl
def c36 : IFn := ⟨142, [.t 8], c36b⟩
def h36 : List (Nat × List Nat) := [(0, dead 142 [0, 1, 2, 3]), (1, dead 142 [0, 1, 2, 3]), (2, dead 142 [0, 1, 2, 3, 9]), (3, dead 142 [0, 1, 2, 3, 9, 10]), (4, dead 142 [0, 1, 2, 3, 9, 10, 11]), (6, dead 142 [0, 1, 2, 3, 9, 10, 11]), (7, dead 142 [0, 1, 2, 3, 9, 10, 11]), (8, dead 142 [0, 1, 2, 3, 9, 10, 11, 12]), (9, dead 142 [0, 1, 2, 3, 9, 10, 11, 12, 13]), (11, dead 142 [0, 1, 2, 3, 9, 10, 11, 12, 13]), (12, dead 142 [0, 1, 2, 3, 9, 10, 11, 12, 13]), (13, dead 142 [0, 1, 2, 3, 9, 10, 11, 12, 13]), (14, dead 142 [0, 1, 2, 3, 9, 10, 11, 12, 13]), (15, dead 142 [0, 1, 2, 3, 9, 10, 11, 12, 13]), (16, dead 142 [0, 1, 2, 3, 9, 10, 11, 12, 13, 14]), (18, dead 142 [0, 1, 2, 3, 9, 10, 11, 12, 13, 14]), (19, dead 142 [0, 1, 2, 3, 9, 10, 11, 12, 13, 14, 15]), (20, dead 142 [0, 1, 2, 3, 9, 10, 11, 12, 13, 14]), (21, dead 142 [0, 1, 2, 3, 9, 10, 11, 12, 13, 14, 15]), (22, dead 142 [0, 1, 2, 3, 9, 10, 11, 12, 13, 14, 15]), (17, dead 142 [0, 1, 2, 3, 9, 10, 11, 12, 13, 14]), (10, dead 142 [0, 1, 2, 3, 9, 10, 11, 12, 13]), (5, dead 142 [0, 1, 2, 3, 9, 10, 11]), (23, dead 142 [2, 3, 10])]
theorem i36 {x0 x1 x2 x3 : AV} (hF : F 36 = some c36) {q : AV × List Row × Option Nat} (h : Ex F (.fn [.t 8]) [.code c36b] ⟨mk 142 [(0, x0), (1, x1), (2, x2), (3, x3)], rows, rows.length⟩ fun r => fin rows r.1 r.2.1 r.2.2 = q) : Ret F 36 [x0, x1, x2, x3] rows = some q := Ret_mk hF h
/-! tosher/tosherref08.Worst -/
def c37r0 : List Seg := [
  .one ⟨some 17, .mv (.t 3), none⟩,
  .one ⟨some 2, .mv (.t 17), none⟩]
def c37k0 : ICode := .kill (dead 18 [3]) (.ops c37r0)
@[simp] theorem uc37k0 : Ex F cx (.code c37k0 :: k) ⟨mk 18 l, rows, low⟩ r ↔ Ex F cx k ⟨mk 18 [(2, lk l 3), (17, lk l 3), (3, lk l 3)], rows, low⟩ r := reg (keep := [3]) (ops := c37r0) rfl (by kernel_rfl) (by kernel_rfl)
def c37s1 : ICode := (.seq c37k0 .ret)
@[simp] theorem uc37s1 : Ex F cx (.code c37s1 :: k) s r ↔ Ex F cx (.code (.seq c37k0 .ret) :: k) s r := Iff.rfl
def c37r3 : List Seg := [
  .one ⟨some 9, .mv (.t 4), none⟩,
  .one ⟨some 10, .bin .add (.t 9) (.c (.int .i64 1)), none⟩,
  .one ⟨some 4, .mv (.t 10), none⟩]
def c37k3 : ICode := .kill (dead 18 [0, 3, 4]) (.ops c37r3)
@[simp] theorem uc37k3 : Ex F cx (.code c37k3 :: k) ⟨mk 18 l, rows, low⟩ r ↔ bnd (evP rows (.bin .add (.c (lk l 4)) (.c (.int .i64 1)))) fun v0 => Ex F cx k ⟨mk 18 [(4, v0), (10, v0), (9, lk l 4), (0, lk l 0), (3, lk l 3), (4, lk l 4)], rows, low⟩ r := reg (keep := [0, 3, 4]) (ops := c37r3) rfl (by kernel_rfl) (by kernel_rfl)
def c37r4 : List Seg := [
  .one ⟨some 11, .mv (.t 3), none⟩,
  .one ⟨some 12, .mv (.t 0), none⟩,
  .one ⟨some 13, .mv (.t 4), none⟩,
  .one ⟨some 14, .idxS 1 (.t 12) (.t 13), none⟩,
  .one ⟨some 15, .load1 (.t 14), none⟩,
  .one ⟨some 16, .mx [(.t 11), (.t 15)], none⟩,
  .one ⟨some 3, .mv (.t 16), none⟩]
def c37k4 : ICode := .kill (dead 18 [0, 3, 4]) (.ops c37r4)
@[simp] theorem uc37k4 : Ex F cx (.code c37k4 :: k) ⟨mk 18 l, rows, low⟩ r ↔ bnd (evP rows (.idxS 1 (.c (lk l 0)) (.c (lk l 4)))) fun v0 => bnd (evP rows (.load1 (.c v0))) fun v1 => bnd (evP rows (.mx [(.c (lk l 3)), (.c v1)])) fun v2 => Ex F cx k ⟨mk 18 [(3, v2), (16, v2), (15, v1), (14, v0), (13, lk l 4), (12, lk l 0), (11, lk l 3), (0, lk l 0), (3, lk l 3), (4, lk l 4)], rows, low⟩ r := reg (keep := [0, 3, 4]) (ops := c37r4) rfl (by kernel_rfl) (by kernel_rfl)
def c37s5 : ICode := (.seq (.block 1 c37k4) c37k3)
@[simp] theorem uc37s5 : Ex F cx (.code c37s5 :: k) s r ↔ Ex F cx (.code (.seq (.block 1 c37k4) c37k3) :: k) s r := Iff.rfl
def c37s6 : ICode := (.cond (.t 8) .skip (.exit 0))
@[simp] theorem uc37s6 : Ex F cx (.code c37s6 :: k) s r ↔ Ex F cx (.code (.cond (.t 8) .skip (.exit 0)) :: k) s r := Iff.rfl
def c37r7 : List Seg := [
  .one ⟨some 5, .mv (.t 4), none⟩,
  .one ⟨some 6, .mv (.t 0), none⟩,
  .one ⟨some 7, .len 0 (.t 6), none⟩,
  .one ⟨some 8, .bin .lss (.t 5) (.t 7), none⟩]
def c37k7 : ICode := .kill (dead 18 [0, 3, 4]) (.ops c37r7)
@[simp] theorem uc37k7 : Ex F cx (.code c37k7 :: k) ⟨mk 18 l, rows, low⟩ r ↔ bnd (evP rows (.len 0 (.c (lk l 0)))) fun v0 => bnd (evP rows (.bin .lss (.c (lk l 4)) (.c v0))) fun v1 => Ex F cx k ⟨mk 18 [(8, v1), (7, v0), (6, lk l 0), (5, lk l 4), (0, lk l 0), (3, lk l 3), (4, lk l 4)], rows, low⟩ r := reg (keep := [0, 3, 4]) (ops := c37r7) rfl (by kernel_rfl) (by kernel_rfl)
def c37l2 : ICode := (.seq (.seq c37k7 c37s6) c37s5)
def c37s8 : ICode := (.block 0 (.loop c37l2))
@[simp] theorem uc37s8 : Ex F cx (.code c37s8 :: k) s r ↔ Ex F cx (.code (.block 0 (.loop c37l2)) :: k) s r := Iff.rfl
def c37r9 : List Seg := [
  .one ⟨some 4, .mv (.c (.int .i64 0)), none⟩]
def c37k9 : ICode := .kill (dead 18 [0, 3]) (.ops c37r9)
@[simp] theorem uc37k9 : Ex F cx (.code c37k9 :: k) ⟨mk 18 l, rows, low⟩ r ↔ Ex F cx k ⟨mk 18 [(4, (.int .i64 0)), (0, lk l 0), (3, lk l 3)], rows, low⟩ r := reg (keep := [0, 3]) (ops := c37r9) rfl (by kernel_rfl) (by kernel_rfl)
def c37s10 : ICode := (.seq (.seq c37k9 c37s8) c37s1)
@[simp] theorem uc37s10 : Ex F cx (.code c37s10 :: k) s r ↔ Ex F cx (.code (.seq (.seq c37k9 c37s8) c37s1) :: k) s r := Iff.rfl
def c37r11 : List Seg := [
  .one ⟨some 3, .mv (.c (.int .i64 0)), none⟩]
def c37k11 : ICode := .kill (dead 18 [0]) (.ops c37r11)
@[simp] theorem uc37k11 : Ex F cx (.code c37k11 :: k) ⟨mk 18 l, rows, low⟩ r ↔ Ex F cx k ⟨mk 18 [(3, (.int .i64 0)), (0, lk l 0)], rows, low⟩ r := reg (keep := [0]) (ops := c37r11) rfl (by kernel_rfl) (by kernel_rfl)
def c37s12 : ICode := (.seq c37k11 c37s10)
@[simp] theorem uc37s12 : Ex F cx (.code c37s12 :: k) s r ↔ Ex F cx (.code (.seq c37k11 c37s10) :: k) s r := Iff.rfl
def c37r13 : List Seg := [
  .one ⟨some 2, .mv (.c (.int .i64 0)), none⟩]
def c37k13 : ICode := .kill (dead 18 [0]) (.ops c37r13)
@[simp] theorem uc37k13 : Ex F cx (.code c37k13 :: k) ⟨mk 18 l, rows, low⟩ r ↔ Ex F cx k ⟨mk 18 [(2, (.int .i64 0)), (0, lk l 0)], rows, low⟩ r := reg (keep := [0]) (ops := c37r13) rfl (by kernel_rfl) (by kernel_rfl)
def Jc37s5 (F : Nat → Option IFn) (cx : Ctx) (x0 x3 x4 : AV) (rows : List Row) (low : Nat) (r : AV × List Row × Nat → Prop) : Prop := Ex F cx (.code c37s5 :: .inLoop c37l2 :: .inBlock 0 :: .code c37s1 :: []) ⟨mk 18 [(0, x0), (3, x3), (4, x4)], rows, low⟩ r
theorem jc37s5 : Ex F cx (.code c37s5 :: .inLoop c37l2 :: .inBlock 0 :: .code c37s1 :: []) ⟨mk 18 l, rows, low⟩ r ↔ Jc37s5 F cx (lk l 0) (lk l 3) (lk l 4) rows low r := Ex_canon (keep := [0, 3, 4]) (by kernel_rfl)
def Lc37l2 (F : Nat → Option IFn) (cx : Ctx) (x0 x3 x4 : AV) (rows : List Row) (low : Nat) (r : AV × List Row × Nat → Prop) : Prop := Ex F cx (.code c37l2 :: .inLoop c37l2 :: .inBlock 0 :: .code c37s1 :: []) ⟨mk 18 [(0, x0), (3, x3), (4, x4)], rows, low⟩ r
@[simp] theorem nc37l2 : Ex F cx (.inLoop c37l2 :: .inBlock 0 :: .code c37s1 :: []) ⟨mk 18 l, rows, low⟩ r ↔ Lc37l2 F cx (lk l 0) (lk l 3) (lk l 4) rows low r := loopN (keep := [0, 3, 4]) (by kernel_rfl)
@[simp] theorem ec37l2 : Ex F cx (.code (.loop c37l2) :: .inBlock 0 :: .code c37s1 :: []) ⟨mk 18 l, rows, low⟩ r ↔ Lc37l2 F cx (lk l 0) (lk l 3) (lk l 4) rows low r := loopE (keep := [0, 3, 4]) (by kernel_rfl)
@[simp] theorem uc37l2 : Ex F cx (.code c37l2 :: k) s r ↔ Ex F cx (.code (.seq (.seq c37k7 c37s6) c37s5) :: k) s r := Iff.rfl
def c37b : ICode := (.seq c37k13 c37s12)
@[simp] theorem uc37b : Ex F cx (.code c37b :: k) s r ↔ Ex F cx (.code (.seq c37k13 c37s12) :: k) s r := Iff.rfl
def c37 : IFn := ⟨18, [.t 2], c37b⟩
def h37 : List (Nat × List Nat) := [(0, dead 18 [0]), (1, dead 18 [0]), (2, dead 18 [0, 3]), (3, dead 18 [0, 3, 4]), (5, dead 18 [0, 3, 4]), (4, dead 18 [0, 3, 4]), (6, dead 18 [3])]
theorem i37 {x0 : AV} (hF : F 37 = some c37) {q : AV × List Row × Option Nat} (h : Ex F (.fn [.t 2]) [.code c37b] ⟨mk 18 [(0, x0)], rows, rows.length⟩ fun r => fin rows r.1 r.2.1 r.2.2 = q) : Ret F 37 [x0] rows = some q := Ret_mk hF h
/-! tosher/tosherref08.Weighed -/
def c38r0 : List Seg := [
  .one ⟨some 24, .mv (.t 5), none⟩,
  .one ⟨some 4, .mv (.t 24), none⟩]
def c38k0 : ICode := .kill (dead 25 [5]) (.ops c38r0)
@[simp] theorem uc38k0 : Ex F cx (.code c38k0 :: k) ⟨mk 25 l, rows, low⟩ r ↔ Ex F cx k ⟨mk 25 [(4, lk l 5), (24, lk l 5), (5, lk l 5)], rows, low⟩ r := reg (keep := [5]) (ops := c38r0) rfl (by kernel_rfl) (by kernel_rfl)
def c38s1 : ICode := (.seq c38k0 .ret)
@[simp] theorem uc38s1 : Ex F cx (.code c38s1 :: k) s r ↔ Ex F cx (.code (.seq c38k0 .ret) :: k) s r := Iff.rfl
def c38r3 : List Seg := [
  .one ⟨some 11, .mv (.t 6), none⟩,
  .one ⟨some 12, .bin .add (.t 11) (.c (.int .i64 1)), none⟩,
  .one ⟨some 6, .mv (.t 12), none⟩]
def c38k3 : ICode := .kill (dead 25 [0, 1, 5, 6]) (.ops c38r3)
@[simp] theorem uc38k3 : Ex F cx (.code c38k3 :: k) ⟨mk 25 l, rows, low⟩ r ↔ bnd (evP rows (.bin .add (.c (lk l 6)) (.c (.int .i64 1)))) fun v0 => Ex F cx k ⟨mk 25 [(6, v0), (12, v0), (11, lk l 6), (0, lk l 0), (1, lk l 1), (5, lk l 5), (6, lk l 6)], rows, low⟩ r := reg (keep := [0, 1, 5, 6]) (ops := c38r3) rfl (by kernel_rfl) (by kernel_rfl)
def c38r4 : List Seg := [
  .grp [(⟨some 13, .mv (.t 5), none⟩, 0), (⟨some 14, .mv (.t 0), none⟩, 0), (⟨some 15, .mv (.t 6), none⟩, 0), (⟨some 16, .idxS 1 (.t 14) (.t 15), none⟩, 6), (⟨some 17, .load1 (.t 16), none⟩, 14), (⟨some 18, .mv (.t 1), none⟩, 0), (⟨some 19, .mv (.t 6), none⟩, 0), (⟨some 20, .idxS 1 (.t 18) (.t 19), none⟩, 96), (⟨some 21, .load1 (.t 20), none⟩, 224), (⟨some 22, .bin .mul (.t 17) (.t 21), none⟩, 510)],
  .one ⟨some 23, .bin .add (.t 13) (.t 22), none⟩,
  .one ⟨some 5, .mv (.t 23), none⟩]
def c38k4 : ICode := .kill (dead 25 [0, 1, 5, 6]) (.ops c38r4)
@[simp] theorem uc38k4 : Ex F cx (.code c38k4 :: k) ⟨mk 25 l, rows, low⟩ r ↔ bnd (evP rows (.idxS 1 (.c (lk l 0)) (.c (lk l 6)))) fun v0 => bnd (evP rows (.load1 (.c v0))) fun v1 => bnd (evP rows (.idxS 1 (.c (lk l 1)) (.c (lk l 6)))) fun v2 => bnd (evP rows (.load1 (.c v2))) fun v3 => bnd (evP rows (.bin .mul (.c v1) (.c v3))) fun v4 => bnd (evP rows (.bin .add (.c (lk l 5)) (.c v4))) fun v5 => Ex F cx k ⟨mk 25 [(5, v5), (23, v5), (22, v4), (21, v3), (20, v2), (19, lk l 6), (18, lk l 1), (17, v1), (16, v0), (15, lk l 6), (14, lk l 0), (13, lk l 5), (0, lk l 0), (1, lk l 1), (5, lk l 5), (6, lk l 6)], rows, low⟩ r := reg (keep := [0, 1, 5, 6]) (ops := c38r4) rfl (by kernel_rfl) (by kernel_rfl)
def c38s5 : ICode := (.seq (.block 1 c38k4) c38k3)
@[simp] theorem uc38s5 : Ex F cx (.code c38s5 :: k) s r ↔ Ex F cx (.code (.seq (.block 1 c38k4) c38k3) :: k) s r := Iff.rfl
def c38s6 : ICode := (.cond (.t 10) .skip (.exit 0))
@[simp] theorem uc38s6 : Ex F cx (.code c38s6 :: k) s r ↔ Ex F cx (.code (.cond (.t 10) .skip (.exit 0)) :: k) s r := Iff.rfl
def c38r7 : List Seg := [
  .one ⟨some 7, .mv (.t 6), none⟩,
  .one ⟨some 8, .mv (.t 1), none⟩,
  .one ⟨some 9, .len 0 (.t 8), none⟩,
  .one ⟨some 10, .bin .lss (.t 7) (.t 9), none⟩]
def c38k7 : ICode := .kill (dead 25 [0, 1, 5, 6]) (.ops c38r7)
@[simp] theorem uc38k7 : Ex F cx (.code c38k7 :: k) ⟨mk 25 l, rows, low⟩ r ↔ bnd (evP rows (.len 0 (.c (lk l 1)))) fun v0 => bnd (evP rows (.bin .lss (.c (lk l 6)) (.c v0))) fun v1 => Ex F cx k ⟨mk 25 [(10, v1), (9, v0), (8, lk l 1), (7, lk l 6), (0, lk l 0), (1, lk l 1), (5, lk l 5), (6, lk l 6)], rows, low⟩ r := reg (keep := [0, 1, 5, 6]) (ops := c38r7) rfl (by kernel_rfl) (by kernel_rfl)
def c38l2 : ICode := (.seq (.seq c38k7 c38s6) c38s5)
def c38s8 : ICode := (.block 0 (.loop c38l2))
@[simp] theorem uc38s8 : Ex F cx (.code c38s8 :: k) s r ↔ Ex F cx (.code (.block 0 (.loop c38l2)) :: k) s r := Iff.rfl
def c38r9 : List Seg := [
  .one ⟨some 6, .mv (.c (.int .i64 0)), none⟩]
def c38k9 : ICode := .kill (dead 25 [0, 1, 5]) (.ops c38r9)
@[simp] theorem uc38k9 : Ex F cx (.code c38k9 :: k) ⟨mk 25 l, rows, low⟩ r ↔ Ex F cx k ⟨mk 25 [(6, (.int .i64 0)), (0, lk l 0), (1, lk l 1), (5, lk l 5)], rows, low⟩ r := reg (keep := [0, 1, 5]) (ops := c38r9) rfl (by kernel_rfl) (by kernel_rfl)
def c38s10 : ICode := (.seq (.seq c38k9 c38s8) c38s1)
@[simp] theorem uc38s10 : Ex F cx (.code c38s10 :: k) s r ↔ Ex F cx (.code (.seq (.seq c38k9 c38s8) c38s1) :: k) s r := Iff.rfl
def c38r11 : List Seg := [
  .one ⟨some 5, .mv (.c (.int .i64 0)), none⟩]
def c38k11 : ICode := .kill (dead 25 [0, 1]) (.ops c38r11)
@[simp] theorem uc38k11 : Ex F cx (.code c38k11 :: k) ⟨mk 25 l, rows, low⟩ r ↔ Ex F cx k ⟨mk 25 [(5, (.int .i64 0)), (0, lk l 0), (1, lk l 1)], rows, low⟩ r := reg (keep := [0, 1]) (ops := c38r11) rfl (by kernel_rfl) (by kernel_rfl)
def c38s12 : ICode := (.seq c38k11 c38s10)
@[simp] theorem uc38s12 : Ex F cx (.code c38s12 :: k) s r ↔ Ex F cx (.code (.seq c38k11 c38s10) :: k) s r := Iff.rfl
def c38r13 : List Seg := [
  .one ⟨some 4, .mv (.c (.int .i64 0)), none⟩]
def c38k13 : ICode := .kill (dead 25 [0, 1]) (.ops c38r13)
@[simp] theorem uc38k13 : Ex F cx (.code c38k13 :: k) ⟨mk 25 l, rows, low⟩ r ↔ Ex F cx k ⟨mk 25 [(4, (.int .i64 0)), (0, lk l 0), (1, lk l 1)], rows, low⟩ r := reg (keep := [0, 1]) (ops := c38r13) rfl (by kernel_rfl) (by kernel_rfl)
def Jc38s5 (F : Nat → Option IFn) (cx : Ctx) (x0 x1 x5 x6 : AV) (rows : List Row) (low : Nat) (r : AV × List Row × Nat → Prop) : Prop := Ex F cx (.code c38s5 :: .inLoop c38l2 :: .inBlock 0 :: .code c38s1 :: []) ⟨mk 25 [(0, x0), (1, x1), (5, x5), (6, x6)], rows, low⟩ r
theorem jc38s5 : Ex F cx (.code c38s5 :: .inLoop c38l2 :: .inBlock 0 :: .code c38s1 :: []) ⟨mk 25 l, rows, low⟩ r ↔ Jc38s5 F cx (lk l 0) (lk l 1) (lk l 5) (lk l 6) rows low r := Ex_canon (keep := [0, 1, 5, 6]) (by kernel_rfl)
def Lc38l2 (F : Nat → Option IFn) (cx : Ctx) (x0 x1 x5 x6 : AV) (rows : List Row) (low : Nat) (r : AV × List Row × Nat → Prop) : Prop := Ex F cx (.code c38l2 :: .inLoop c38l2 :: .inBlock 0 :: .code c38s1 :: []) ⟨mk 25 [(0, x0), (1, x1), (5, x5), (6, x6)], rows, low⟩ r
@[simp] theorem nc38l2 : Ex F cx (.inLoop c38l2 :: .inBlock 0 :: .code c38s1 :: []) ⟨mk 25 l, rows, low⟩ r ↔ Lc38l2 F cx (lk l 0) (lk l 1) (lk l 5) (lk l 6) rows low r := loopN (keep := [0, 1, 5, 6]) (by kernel_rfl)
@[simp] theorem ec38l2 : Ex F cx (.code (.loop c38l2) :: .inBlock 0 :: .code c38s1 :: []) ⟨mk 25 l, rows, low⟩ r ↔ Lc38l2 F cx (lk l 0) (lk l 1) (lk l 5) (lk l 6) rows low r := loopE (keep := [0, 1, 5, 6]) (by kernel_rfl)
@[simp] theorem uc38l2 : Ex F cx (.code c38l2 :: k) s r ↔ Ex F cx (.code (.seq (.seq c38k7 c38s6) c38s5) :: k) s r := Iff.rfl
def c38b : ICode := (.seq c38k13 c38s12)
@[simp] theorem uc38b : Ex F cx (.code c38b :: k) s r ↔ Ex F cx (.code (.seq c38k13 c38s12) :: k) s r := Iff.rfl
def c38 : IFn := ⟨25, [.t 4], c38b⟩
def h38 : List (Nat × List Nat) := [(0, dead 25 [0, 1]), (1, dead 25 [0, 1]), (2, dead 25 [0, 1, 5]), (3, dead 25 [0, 1, 5, 6]), (5, dead 25 [0, 1, 5, 6]), (4, dead 25 [0, 1, 5, 6]), (6, dead 25 [5])]
theorem i38 {x0 x1 : AV} (hF : F 38 = some c38) {q : AV × List Row × Option Nat} (h : Ex F (.fn [.t 4]) [.code c38b] ⟨mk 25 [(0, x0), (1, x1)], rows, rows.length⟩ fun r => fin rows r.1 r.2.1 r.2.2 = q) : Ret F 38 [x0, x1] rows = some q := Ret_mk hF h
/-! tosher/tosherlaw08.tree -/
def c39r0 : List Seg := [
  .one ⟨some 70, .mv (.t 0), none⟩,
  .one ⟨some 71, .mv (.t 8), none⟩,
  .one ⟨some 4, .mv (.t 70), none⟩,
  .one ⟨some 5, .mv (.t 71), none⟩]
def c39k0 : ICode := .kill (dead 72 [0, 8]) (.ops c39r0)
@[simp] theorem uc39k0 : Ex F cx (.code c39k0 :: k) ⟨mk 72 l, rows, low⟩ r ↔ Ex F cx k ⟨mk 72 [(5, lk l 8), (4, lk l 0), (71, lk l 8), (70, lk l 0), (0, lk l 0), (8, lk l 8)], rows, low⟩ r := reg (keep := [0, 8]) (ops := c39r0) rfl (by kernel_rfl) (by kernel_rfl)
def c39s1 : ICode := (.seq c39k0 .ret)
@[simp] theorem uc39s1 : Ex F cx (.code c39s1 :: k) s r ↔ Ex F cx (.code (.seq c39k0 .ret) :: k) s r := Iff.rfl
def c39r3 : List Seg := [
  .one ⟨some 49, .mv (.t 9), none⟩,
  .one ⟨some 50, .bin .add (.t 49) (.c (.int .i64 1)), none⟩,
  .one ⟨some 9, .mv (.t 50), none⟩]
def c39k3 : ICode := .kill (dead 72 [0, 6, 8, 9]) (.ops c39r3)
@[simp] theorem uc39k3 : Ex F cx (.code c39k3 :: k) ⟨mk 72 l, rows, low⟩ r ↔ bnd (evP rows (.bin .add (.c (lk l 9)) (.c (.int .i64 1)))) fun v0 => Ex F cx k ⟨mk 72 [(9, v0), (50, v0), (49, lk l 9), (0, lk l 0), (6, lk l 6), (8, lk l 8), (9, lk l 9)], rows, low⟩ r := reg (keep := [0, 6, 8, 9]) (ops := c39r3) rfl (by kernel_rfl) (by kernel_rfl)
def c39r5 : List Seg := [
  .one ⟨some 56, .mv (.t 10), none⟩,
  .one ⟨some 57, .bin .add (.t 56) (.c (.int .i64 1)), none⟩,
  .one ⟨some 10, .mv (.t 57), none⟩]
def c39k5 : ICode := .kill (dead 72 [0, 6, 8, 9, 10]) (.ops c39r5)
@[simp] theorem uc39k5 : Ex F cx (.code c39k5 :: k) ⟨mk 72 l, rows, low⟩ r ↔ bnd (evP rows (.bin .add (.c (lk l 10)) (.c (.int .i64 1)))) fun v0 => Ex F cx k ⟨mk 72 [(10, v0), (57, v0), (56, lk l 10), (0, lk l 0), (6, lk l 6), (8, lk l 8), (9, lk l 9), (10, lk l 10)], rows, low⟩ r := reg (keep := [0, 6, 8, 9, 10]) (ops := c39r5) rfl (by kernel_rfl) (by kernel_rfl)
def c39r6 : List Seg := [
  .one ⟨some 64, .mv (.t 8), none⟩,
  .one ⟨some 65, .mv (.t 9), none⟩,
  .one ⟨some 66, .mv (.t 10), none⟩,
  .one ⟨some 67, .mkagg [.int .i64 0, .int .i64 0] [(0, 1, (.t 65)), (1, 1, (.t 66))], none⟩,
  .one ⟨some 68, .mkslice 1 [.int .i64 0, .int .i64 0] [(0, 2, (.t 67))], none⟩,
  .one ⟨some 69, .app 2 16 (.t 64) (.t 68), none⟩,
  .one ⟨some 8, .mv (.t 69), none⟩]
def c39k6 : ICode := .kill (dead 72 [0, 6, 8, 9, 10]) (.ops c39r6)
@[simp] theorem uc39k6 : Ex F cx (.code c39k6 :: k) ⟨mk 72 l, rows, low⟩ r ↔ bnd (evP rows (.mkagg [.int .i64 0, .int .i64 0] [(0, 1, (.c (lk l 9))), (1, 1, (.c (lk l 10)))])) fun v0 => bnd (evE rows low (.mkslice 1 [.int .i64 0, .int .i64 0] [(0, 2, (.c v0))])) fun q1 => bnd (evE q1.2.1 q1.2.2 (.app 2 16 (.c (lk l 8)) (.c q1.1))) fun q2 => Ex F cx k ⟨mk 72 [(8, q2.1), (69, q2.1), (68, q1.1), (67, v0), (66, lk l 10), (65, lk l 9), (64, lk l 8), (0, lk l 0), (6, lk l 6), (8, lk l 8), (9, lk l 9), (10, lk l 10)], q2.2.1, q2.2.2⟩ r := reg (keep := [0, 6, 8, 9, 10]) (ops := c39r6) rfl (by kernel_rfl) (by kernel_rfl)
def c39s7 : ICode := (.cond (.t 63) c39k6 .skip)
@[simp] theorem uc39s7 : Ex F cx (.code c39s7 :: k) s r ↔ Ex F cx (.code (.cond (.t 63) c39k6 .skip) :: k) s r := Iff.rfl
def c39r8 : List Seg := [
  .one ⟨some 58, .mv (.t 6), none⟩,
  .one ⟨some 59, .mv (.t 10), none⟩,
  .one ⟨some 60, .idxS 1 (.t 58) (.t 59), none⟩,
  .one ⟨some 61, .load1 (.t 60), none⟩,
  .one ⟨some 62, .mv (.t 9), none⟩,
  .one ⟨some 63, .bin .eql (.t 61) (.t 62), none⟩]
def c39k8 : ICode := .kill (dead 72 [0, 6, 8, 9, 10]) (.ops c39r8)
@[simp] theorem uc39k8 : Ex F cx (.code c39k8 :: k) ⟨mk 72 l, rows, low⟩ r ↔ bnd (evP rows (.idxS 1 (.c (lk l 6)) (.c (lk l 10)))) fun v0 => bnd (evP rows (.load1 (.c v0))) fun v1 => bnd (evP rows (.bin .eql (.c v1) (.c (lk l 9)))) fun v2 => Ex F cx k ⟨mk 72 [(63, v2), (62, lk l 9), (61, v1), (60, v0), (59, lk l 10), (58, lk l 6), (0, lk l 0), (6, lk l 6), (8, lk l 8), (9, lk l 9), (10, lk l 10)], rows, low⟩ r := reg (keep := [0, 6, 8, 9, 10]) (ops := c39r8) rfl (by kernel_rfl) (by kernel_rfl)
def c39s9 : ICode := (.seq (.block 5 (.seq c39k8 c39s7)) c39k5)
@[simp] theorem uc39s9 : Ex F cx (.code c39s9 :: k) s r ↔ Ex F cx (.code (.seq (.block 5 (.seq c39k8 c39s7)) c39k5) :: k) s r := Iff.rfl
def c39s10 : ICode := (.cond (.t 55) .skip (.exit 4))
@[simp] theorem uc39s10 : Ex F cx (.code c39s10 :: k) s r ↔ Ex F cx (.code (.cond (.t 55) .skip (.exit 4)) :: k) s r := Iff.rfl
def c39r11 : List Seg := [
  .one ⟨some 53, .mv (.t 10), none⟩,
  .one ⟨some 54, .mv (.t 0), none⟩,
  .one ⟨some 55, .bin .lss (.t 53) (.t 54), none⟩]
def c39k11 : ICode := .kill (dead 72 [0, 6, 8, 9, 10]) (.ops c39r11)
@[simp] theorem uc39k11 : Ex F cx (.code c39k11 :: k) ⟨mk 72 l, rows, low⟩ r ↔ bnd (evP rows (.bin .lss (.c (lk l 10)) (.c (lk l 0)))) fun v0 => Ex F cx k ⟨mk 72 [(55, v0), (54, lk l 0), (53, lk l 10), (0, lk l 0), (6, lk l 6), (8, lk l 8), (9, lk l 9), (10, lk l 10)], rows, low⟩ r := reg (keep := [0, 6, 8, 9, 10]) (ops := c39r11) rfl (by kernel_rfl) (by kernel_rfl)
def c39l4 : ICode := (.seq (.seq c39k11 c39s10) c39s9)
def c39s12 : ICode := (.block 4 (.loop c39l4))
@[simp] theorem uc39s12 : Ex F cx (.code c39s12 :: k) s r ↔ Ex F cx (.code (.block 4 (.loop c39l4)) :: k) s r := Iff.rfl
def c39r13 : List Seg := [
  .one ⟨some 51, .mv (.t 9), none⟩,
  .one ⟨some 52, .bin .add (.t 51) (.c (.int .i64 1)), none⟩,
  .one ⟨some 10, .mv (.t 52), none⟩]
def c39k13 : ICode := .kill (dead 72 [0, 6, 8, 9]) (.ops c39r13)
@[simp] theorem uc39k13 : Ex F cx (.code c39k13 :: k) ⟨mk 72 l, rows, low⟩ r ↔ bnd (evP rows (.bin .add (.c (lk l 9)) (.c (.int .i64 1)))) fun v0 => Ex F cx k ⟨mk 72 [(10, v0), (52, v0), (51, lk l 9), (0, lk l 0), (6, lk l 6), (8, lk l 8), (9, lk l 9)], rows, low⟩ r := reg (keep := [0, 6, 8, 9]) (ops := c39r13) rfl (by kernel_rfl) (by kernel_rfl)
def c39s14 : ICode := (.seq (.block 3 (.seq c39k13 c39s12)) c39k3)
@[simp] theorem uc39s14 : Ex F cx (.code c39s14 :: k) s r ↔ Ex F cx (.code (.seq (.block 3 (.seq c39k13 c39s12)) c39k3) :: k) s r := Iff.rfl
def c39s15 : ICode := (.cond (.t 48) .skip (.exit 2))
@[simp] theorem uc39s15 : Ex F cx (.code c39s15 :: k) s r ↔ Ex F cx (.code (.cond (.t 48) .skip (.exit 2)) :: k) s r := Iff.rfl
def c39r16 : List Seg := [
  .one ⟨some 46, .mv (.t 9), none⟩,
  .one ⟨some 47, .mv (.t 0), none⟩,
  .one ⟨some 48, .bin .lss (.t 46) (.t 47), none⟩]
def c39k16 : ICode := .kill (dead 72 [0, 6, 8, 9]) (.ops c39r16)
@[simp] theorem uc39k16 : Ex F cx (.code c39k16 :: k) ⟨mk 72 l, rows, low⟩ r ↔ bnd (evP rows (.bin .lss (.c (lk l 9)) (.c (lk l 0)))) fun v0 => Ex F cx k ⟨mk 72 [(48, v0), (47, lk l 0), (46, lk l 9), (0, lk l 0), (6, lk l 6), (8, lk l 8), (9, lk l 9)], rows, low⟩ r := reg (keep := [0, 6, 8, 9]) (ops := c39r16) rfl (by kernel_rfl) (by kernel_rfl)
def c39l2 : ICode := (.seq (.seq c39k16 c39s15) c39s14)
def c39s17 : ICode := (.block 2 (.loop c39l2))
@[simp] theorem uc39s17 : Ex F cx (.code c39s17 :: k) s r ↔ Ex F cx (.code (.block 2 (.loop c39l2)) :: k) s r := Iff.rfl
def c39r18 : List Seg := [
  .one ⟨some 9, .mv (.c (.int .i64 0)), none⟩]
def c39k18 : ICode := .kill (dead 72 [0, 6, 8]) (.ops c39r18)
@[simp] theorem uc39k18 : Ex F cx (.code c39k18 :: k) ⟨mk 72 l, rows, low⟩ r ↔ Ex F cx k ⟨mk 72 [(9, (.int .i64 0)), (0, lk l 0), (6, lk l 6), (8, lk l 8)], rows, low⟩ r := reg (keep := [0, 6, 8]) (ops := c39r18) rfl (by kernel_rfl) (by kernel_rfl)
def c39s19 : ICode := (.seq (.seq c39k18 c39s17) c39s1)
@[simp] theorem uc39s19 : Ex F cx (.code c39s19 :: k) s r ↔ Ex F cx (.code (.seq (.seq c39k18 c39s17) c39s1) :: k) s r := Iff.rfl
def c39r20 : List Seg := [
  .one ⟨some 8, .mv (.c .nilslice), none⟩]
def c39k20 : ICode := .kill (dead 72 [0, 6]) (.ops c39r20)
@[simp] theorem uc39k20 : Ex F cx (.code c39k20 :: k) ⟨mk 72 l, rows, low⟩ r ↔ Ex F cx k ⟨mk 72 [(8, .nilslice), (0, lk l 0), (6, lk l 6)], rows, low⟩ r := reg (keep := [0, 6]) (ops := c39r20) rfl (by kernel_rfl) (by kernel_rfl)
def c39s21 : ICode := (.seq c39k20 c39s19)
@[simp] theorem uc39s21 : Ex F cx (.code c39s21 :: k) s r ↔ Ex F cx (.code (.seq c39k20 c39s19) :: k) s r := Iff.rfl
def c39r23 : List Seg := [
  .one ⟨some 21, .mv (.t 7), none⟩,
  .one ⟨some 22, .bin .add (.t 21) (.c (.int .i64 1)), none⟩,
  .one ⟨some 7, .mv (.t 22), none⟩]
def c39k23 : ICode := .kill (dead 72 [0, 1, 6, 7]) (.ops c39r23)
@[simp] theorem uc39k23 : Ex F cx (.code c39k23 :: k) ⟨mk 72 l, rows, low⟩ r ↔ bnd (evP rows (.bin .add (.c (lk l 7)) (.c (.int .i64 1)))) fun v0 => Ex F cx k ⟨mk 72 [(7, v0), (22, v0), (21, lk l 7), (0, lk l 0), (1, lk l 1), (6, lk l 6), (7, lk l 7)], rows, low⟩ r := reg (keep := [0, 1, 6, 7]) (ops := c39r23) rfl (by kernel_rfl) (by kernel_rfl)
def c39r24 : List Seg := [
  .one ⟨some 33, .mv (.t 6), none⟩,
  .one ⟨some 34, .mv (.t 7), none⟩,
  .one ⟨some 35, .mv (.t 1), none⟩,
  .one ⟨some 36, .mv (.t 7), none⟩,
  .one ⟨some 37, .bin .sub (.t 36) (.c (.int .i64 1)), none⟩,
  .one ⟨some 38, .idxS 1 (.t 35) (.t 37), none⟩,
  .one ⟨some 39, .load1 (.t 38), none⟩,
  .one ⟨some 40, .conv .u64 (.t 39), none⟩,
  .one ⟨some 41, .mv (.t 7), none⟩,
  .one ⟨some 42, .conv .u64 (.t 41), none⟩,
  .one ⟨some 43, .bin .rem (.t 40) (.t 42), none⟩,
  .one ⟨some 44, .conv .i64 (.t 43), none⟩,
  .one ⟨some 45, .idxS 1 (.t 33) (.t 34), none⟩,
  .one ⟨none, .store1 (.t 45) (.t 44), none⟩]
def c39k24 : ICode := .kill (dead 72 [0, 1, 6, 7]) (.ops c39r24)
@[simp] theorem uc39k24 : Ex F cx (.code c39k24 :: k) ⟨mk 72 l, rows, low⟩ r ↔ bnd (evP rows (.bin .sub (.c (lk l 7)) (.c (.int .i64 1)))) fun v0 => bnd (evP rows (.idxS 1 (.c (lk l 1)) (.c v0))) fun v1 => bnd (evP rows (.load1 (.c v1))) fun v2 => bnd (evP rows (.conv .u64 (.c v2))) fun v3 => bnd (evP rows (.conv .u64 (.c (lk l 7)))) fun v4 => bnd (evP rows (.bin .rem (.c v3) (.c v4))) fun v5 => bnd (evP rows (.conv .i64 (.c v5))) fun v6 => bnd (evP rows (.idxS 1 (.c (lk l 6)) (.c (lk l 7)))) fun v7 => bnd (evE rows low (.store1 (.c v7) (.c v6))) fun q8 => Ex F cx k ⟨mk 72 [(45, v7), (44, v6), (43, v5), (42, v4), (41, lk l 7), (40, v3), (39, v2), (38, v1), (37, v0), (36, lk l 7), (35, lk l 1), (34, lk l 7), (33, lk l 6), (0, lk l 0), (1, lk l 1), (6, lk l 6), (7, lk l 7)], q8.2.1, q8.2.2⟩ r := reg (keep := [0, 1, 6, 7]) (ops := c39r24) rfl (by kernel_rfl) (by kernel_rfl)
def c39s25 : ICode := (.cond (.t 32) c39k24 .skip)
@[simp] theorem uc39s25 : Ex F cx (.code c39s25 :: k) s r ↔ Ex F cx (.code (.cond (.t 32) c39k24 .skip) :: k) s r := Iff.rfl
def c39r26 : List Seg := [
  .one ⟨some 28, .mv (.t 7), none⟩,
  .one ⟨some 29, .bin .sub (.t 28) (.c (.int .i64 1)), none⟩,
  .one ⟨some 30, .mv (.t 1), none⟩,
  .one ⟨some 31, .len 0 (.t 30), none⟩,
  .one ⟨some 32, .bin .lss (.t 29) (.t 31), none⟩]
def c39k26 : ICode := .kill (dead 72 [0, 1, 6, 7]) (.ops c39r26)
@[simp] theorem uc39k26 : Ex F cx (.code c39k26 :: k) ⟨mk 72 l, rows, low⟩ r ↔ bnd (evP rows (.bin .sub (.c (lk l 7)) (.c (.int .i64 1)))) fun v0 => bnd (evP rows (.len 0 (.c (lk l 1)))) fun v1 => bnd (evP rows (.bin .lss (.c v0) (.c v1))) fun v2 => Ex F cx k ⟨mk 72 [(32, v2), (31, v1), (30, lk l 1), (29, v0), (28, lk l 7), (0, lk l 0), (1, lk l 1), (6, lk l 6), (7, lk l 7)], rows, low⟩ r := reg (keep := [0, 1, 6, 7]) (ops := c39r26) rfl (by kernel_rfl) (by kernel_rfl)
def c39s27 : ICode := (.seq c39k26 c39s25)
@[simp] theorem uc39s27 : Ex F cx (.code c39s27 :: k) s r ↔ Ex F cx (.code (.seq c39k26 c39s25) :: k) s r := Iff.rfl
def c39r28 : List Seg := [
  .one ⟨some 23, .mv (.t 6), none⟩,
  .one ⟨some 24, .mv (.t 7), none⟩,
  .one ⟨some 25, .mv (.t 7), none⟩,
  .one ⟨some 26, .bin .sub (.t 25) (.c (.int .i64 1)), none⟩,
  .one ⟨some 27, .idxS 1 (.t 23) (.t 24), none⟩,
  .one ⟨none, .store1 (.t 27) (.t 26), none⟩]
def c39k28 : ICode := .kill (dead 72 [0, 1, 6, 7]) (.ops c39r28)
@[simp] theorem uc39k28 : Ex F cx (.code c39k28 :: k) ⟨mk 72 l, rows, low⟩ r ↔ bnd (evP rows (.bin .sub (.c (lk l 7)) (.c (.int .i64 1)))) fun v0 => bnd (evP rows (.idxS 1 (.c (lk l 6)) (.c (lk l 7)))) fun v1 => bnd (evE rows low (.store1 (.c v1) (.c v0))) fun q2 => Ex F cx k ⟨mk 72 [(27, v1), (26, v0), (25, lk l 7), (24, lk l 7), (23, lk l 6), (0, lk l 0), (1, lk l 1), (6, lk l 6), (7, lk l 7)], q2.2.1, q2.2.2⟩ r := reg (keep := [0, 1, 6, 7]) (ops := c39r28) rfl (by kernel_rfl) (by kernel_rfl)
def c39s29 : ICode := (.seq (.block 1 (.seq c39k28 c39s27)) c39k23)
@[simp] theorem uc39s29 : Ex F cx (.code c39s29 :: k) s r ↔ Ex F cx (.code (.seq (.block 1 (.seq c39k28 c39s27)) c39k23) :: k) s r := Iff.rfl
def c39s30 : ICode := (.cond (.t 20) .skip (.exit 0))
@[simp] theorem uc39s30 : Ex F cx (.code c39s30 :: k) s r ↔ Ex F cx (.code (.cond (.t 20) .skip (.exit 0)) :: k) s r := Iff.rfl
def c39r31 : List Seg := [
  .one ⟨some 18, .mv (.t 7), none⟩,
  .one ⟨some 19, .mv (.t 0), none⟩,
  .one ⟨some 20, .bin .lss (.t 18) (.t 19), none⟩]
def c39k31 : ICode := .kill (dead 72 [0, 1, 6, 7]) (.ops c39r31)
@[simp] theorem uc39k31 : Ex F cx (.code c39k31 :: k) ⟨mk 72 l, rows, low⟩ r ↔ bnd (evP rows (.bin .lss (.c (lk l 7)) (.c (lk l 0)))) fun v0 => Ex F cx k ⟨mk 72 [(20, v0), (19, lk l 0), (18, lk l 7), (0, lk l 0), (1, lk l 1), (6, lk l 6), (7, lk l 7)], rows, low⟩ r := reg (keep := [0, 1, 6, 7]) (ops := c39r31) rfl (by kernel_rfl) (by kernel_rfl)
def c39l22 : ICode := (.seq (.seq c39k31 c39s30) c39s29)
def c39s32 : ICode := (.block 0 (.loop c39l22))
@[simp] theorem uc39s32 : Ex F cx (.code c39s32 :: k) s r ↔ Ex F cx (.code (.block 0 (.loop c39l22)) :: k) s r := Iff.rfl
def c39r33 : List Seg := [
  .one ⟨some 7, .mv (.c (.int .i64 1)), none⟩]
def c39k33 : ICode := .kill (dead 72 [0, 1, 6]) (.ops c39r33)
@[simp] theorem uc39k33 : Ex F cx (.code c39k33 :: k) ⟨mk 72 l, rows, low⟩ r ↔ Ex F cx k ⟨mk 72 [(7, (.int .i64 1)), (0, lk l 0), (1, lk l 1), (6, lk l 6)], rows, low⟩ r := reg (keep := [0, 1, 6]) (ops := c39r33) rfl (by kernel_rfl) (by kernel_rfl)
def c39s34 : ICode := (.seq (.seq c39k33 c39s32) c39s21)
@[simp] theorem uc39s34 : Ex F cx (.code c39s34 :: k) s r ↔ Ex F cx (.code (.seq (.seq c39k33 c39s32) c39s21) :: k) s r := Iff.rfl
def c39r35 : List Seg := [
  .one ⟨some 16, .mv (.t 0), none⟩,
  .one ⟨some 17, .make [.int .i64 0] 8 (.t 16) (.t 16), none⟩,
  .one ⟨some 6, .mv (.t 17), none⟩]
def c39k35 : ICode := .kill (dead 72 [0, 1]) (.ops c39r35)
@[simp] theorem uc39k35 : Ex F cx (.code c39k35 :: k) ⟨mk 72 l, rows, low⟩ r ↔ bnd (evE rows low (.make [.int .i64 0] 8 (.c (lk l 0)) (.c (lk l 0)))) fun q0 => Ex F cx k ⟨mk 72 [(6, q0.1), (17, q0.1), (16, lk l 0), (0, lk l 0), (1, lk l 1)], q0.2.1, q0.2.2⟩ r := reg (keep := [0, 1]) (ops := c39r35) rfl (by kernel_rfl) (by kernel_rfl)
def c39s36 : ICode := (.seq c39k35 c39s34)
@[simp] theorem uc39s36 : Ex F cx (.code c39s36 :: k) s r ↔ Ex F cx (.code (.seq c39k35 c39s34) :: k) s r := Iff.rfl
def c39r37 : List Seg := [
  .one ⟨some 11, .mv (.t 0), none⟩,
  .one ⟨some 12, .conv .u64 (.t 11), none⟩,
  .one ⟨some 13, .bin .rem (.t 12) (.c (.int .u64 10)), none⟩,
  .one ⟨some 14, .conv .i64 (.t 13), none⟩,
  .one ⟨some 15, .bin .add (.c (.int .i64 1)) (.t 14), none⟩,
  .one ⟨some 0, .mv (.t 15), none⟩]
def c39k37 : ICode := .kill (dead 72 [0, 1]) (.ops c39r37)
@[simp] theorem uc39k37 : Ex F cx (.code c39k37 :: k) ⟨mk 72 l, rows, low⟩ r ↔ bnd (evP rows (.conv .u64 (.c (lk l 0)))) fun v0 => bnd (evP rows (.bin .rem (.c v0) (.c (.int .u64 10)))) fun v1 => bnd (evP rows (.conv .i64 (.c v1))) fun v2 => bnd (evP rows (.bin .add (.c (.int .i64 1)) (.c v2))) fun v3 => Ex F cx k ⟨mk 72 [(0, v3), (15, v3), (14, v2), (13, v1), (12, v0), (11, lk l 0), (0, lk l 0), (1, lk l 1)], rows, low⟩ r := reg (keep := [0, 1]) (ops := c39r37) rfl (by kernel_rfl) (by kernel_rfl)
def c39s38 : ICode := (.seq c39k37 c39s36)
@[simp] theorem uc39s38 : Ex F cx (.code c39s38 :: k) s r ↔ Ex F cx (.code (.seq c39k37 c39s36) :: k) s r := Iff.rfl
def c39r39 : List Seg := [
  .one ⟨some 4, .mv (.c (.int .i64 0)), none⟩,
  .one ⟨some 5, .mv (.c .nilslice), none⟩]
def c39k39 : ICode := .kill (dead 72 [0, 1]) (.ops c39r39)
@[simp] theorem uc39k39 : Ex F cx (.code c39k39 :: k) ⟨mk 72 l, rows, low⟩ r ↔ Ex F cx k ⟨mk 72 [(5, .nilslice), (4, (.int .i64 0)), (0, lk l 0), (1, lk l 1)], rows, low⟩ r := reg (keep := [0, 1]) (ops := c39r39) rfl (by kernel_rfl) (by kernel_rfl)
def Jc39s9 (F : Nat → Option IFn) (cx : Ctx) (x0 x6 x8 x9 x10 : AV) (rows : List Row) (low : Nat) (r : AV × List Row × Nat → Prop) : Prop := Ex F cx (.code c39s9 :: .inLoop c39l4 :: .inBlock 4 :: .inBlock 3 :: .code c39k3 :: .inLoop c39l2 :: .inBlock 2 :: .code c39s1 :: []) ⟨mk 72 [(0, x0), (6, x6), (8, x8), (9, x9), (10, x10)], rows, low⟩ r
theorem jc39s9 : Ex F cx (.code c39s9 :: .inLoop c39l4 :: .inBlock 4 :: .inBlock 3 :: .code c39k3 :: .inLoop c39l2 :: .inBlock 2 :: .code c39s1 :: []) ⟨mk 72 l, rows, low⟩ r ↔ Jc39s9 F cx (lk l 0) (lk l 6) (lk l 8) (lk l 9) (lk l 10) rows low r := Ex_canon (keep := [0, 6, 8, 9, 10]) (by kernel_rfl)
def Lc39l4 (F : Nat → Option IFn) (cx : Ctx) (x0 x6 x8 x9 x10 : AV) (rows : List Row) (low : Nat) (r : AV × List Row × Nat → Prop) : Prop := Ex F cx (.code c39l4 :: .inLoop c39l4 :: .inBlock 4 :: .inBlock 3 :: .code c39k3 :: .inLoop c39l2 :: .inBlock 2 :: .code c39s1 :: []) ⟨mk 72 [(0, x0), (6, x6), (8, x8), (9, x9), (10, x10)], rows, low⟩ r
@[simp] theorem nc39l4 : Ex F cx (.inLoop c39l4 :: .inBlock 4 :: .inBlock 3 :: .code c39k3 :: .inLoop c39l2 :: .inBlock 2 :: .code c39s1 :: []) ⟨mk 72 l, rows, low⟩ r ↔ Lc39l4 F cx (lk l 0) (lk l 6) (lk l 8) (lk l 9) (lk l 10) rows low r := loopN (keep := [0, 6, 8, 9, 10]) (by kernel_rfl)
@[simp] theorem ec39l4 : Ex F cx (.code (.loop c39l4) :: .inBlock 4 :: .inBlock 3 :: .code c39k3 :: .inLoop c39l2 :: .inBlock 2 :: .code c39s1 :: []) ⟨mk 72 l, rows, low⟩ r ↔ Lc39l4 F cx (lk l 0) (lk l 6) (lk l 8) (lk l 9) (lk l 10) rows low r := loopE (keep := [0, 6, 8, 9, 10]) (by kernel_rfl)
@[simp] theorem uc39l4 : Ex F cx (.code c39l4 :: k) s r ↔ Ex F cx (.code (.seq (.seq c39k11 c39s10) c39s9) :: k) s r := Iff.rfl
def Jc39s14 (F : Nat → Option IFn) (cx : Ctx) (x0 x6 x8 x9 : AV) (rows : List Row) (low : Nat) (r : AV × List Row × Nat → Prop) : Prop := Ex F cx (.code c39s14 :: .inLoop c39l2 :: .inBlock 2 :: .code c39s1 :: []) ⟨mk 72 [(0, x0), (6, x6), (8, x8), (9, x9)], rows, low⟩ r
theorem jc39s14 : Ex F cx (.code c39s14 :: .inLoop c39l2 :: .inBlock 2 :: .code c39s1 :: []) ⟨mk 72 l, rows, low⟩ r ↔ Jc39s14 F cx (lk l 0) (lk l 6) (lk l 8) (lk l 9) rows low r := Ex_canon (keep := [0, 6, 8, 9]) (by kernel_rfl)
def Lc39l2 (F : Nat → Option IFn) (cx : Ctx) (x0 x6 x8 x9 : AV) (rows : List Row) (low : Nat) (r : AV × List Row × Nat → Prop) : Prop := Ex F cx (.code c39l2 :: .inLoop c39l2 :: .inBlock 2 :: .code c39s1 :: []) ⟨mk 72 [(0, x0), (6, x6), (8, x8), (9, x9)], rows, low⟩ r
@[simp] theorem nc39l2 : Ex F cx (.inLoop c39l2 :: .inBlock 2 :: .code c39s1 :: []) ⟨mk 72 l, rows, low⟩ r ↔ Lc39l2 F cx (lk l 0) (lk l 6) (lk l 8) (lk l 9) rows low r := loopN (keep := [0, 6, 8, 9]) (by kernel_rfl)
@[simp] theorem ec39l2 : Ex F cx (.code (.loop c39l2) :: .inBlock 2 :: .code c39s1 :: []) ⟨mk 72 l, rows, low⟩ r ↔ Lc39l2 F cx (lk l 0) (lk l 6) (lk l 8) (lk l 9) rows low r := loopE (keep := [0, 6, 8, 9]) (by kernel_rfl)
@[simp] theorem uc39l2 : Ex F cx (.code c39l2 :: k) s r ↔ Ex F cx (.code (.seq (.seq c39k16 c39s15) c39s14) :: k) s r := Iff.rfl
def Jc39s29 (F : Nat → Option IFn) (cx : Ctx) (x0 x1 x6 x7 : AV) (rows : List Row) (low : Nat) (r : AV × List Row × Nat → Prop) : Prop := Ex F cx (.code c39s29 :: .inLoop c39l22 :: .inBlock 0 :: .code c39s21 :: []) ⟨mk 72 [(0, x0), (1, x1), (6, x6), (7, x7)], rows, low⟩ r
theorem jc39s29 : Ex F cx (.code c39s29 :: .inLoop c39l22 :: .inBlock 0 :: .code c39s21 :: []) ⟨mk 72 l, rows, low⟩ r ↔ Jc39s29 F cx (lk l 0) (lk l 1) (lk l 6) (lk l 7) rows low r := Ex_canon (keep := [0, 1, 6, 7]) (by kernel_rfl)
def Lc39l22 (F : Nat → Option IFn) (cx : Ctx) (x0 x1 x6 x7 : AV) (rows : List Row) (low : Nat) (r : AV × List Row × Nat → Prop) : Prop := Ex F cx (.code c39l22 :: .inLoop c39l22 :: .inBlock 0 :: .code c39s21 :: []) ⟨mk 72 [(0, x0), (1, x1), (6, x6), (7, x7)], rows, low⟩ r
@[simp] theorem nc39l22 : Ex F cx (.inLoop c39l22 :: .inBlock 0 :: .code c39s21 :: []) ⟨mk 72 l, rows, low⟩ r ↔ Lc39l22 F cx (lk l 0) (lk l 1) (lk l 6) (lk l 7) rows low r := loopN (keep := [0, 1, 6, 7]) (by kernel_rfl)
@[simp] theorem ec39l22 : Ex F cx (.code (.loop c39l22) :: .inBlock 0 :: .code c39s21 :: []) ⟨mk 72 l, rows, low⟩ r ↔ Lc39l22 F cx (lk l 0) (lk l 1) (lk l 6) (lk l 7) rows low r := loopE (keep := [0, 1, 6, 7]) (by kernel_rfl)
@[simp] theorem uc39l22 : Ex F cx (.code c39l22 :: k) s r ↔ Ex F cx (.code (.seq (.seq c39k31 c39s30) c39s29) :: k) s r := Iff.rfl
def c39b : ICode := (.seq c39k39 c39s38)
@[simp] theorem uc39b : Ex F cx (.code c39b :: k) s r ↔ Ex F cx (.code (.seq c39k39 c39s38) :: k) s r := Iff.rfl
def c39 : IFn := ⟨72, [.t 4, .t 5], c39b⟩
def h39 : List (Nat × List Nat) := [(0, dead 72 [0, 1]), (1, dead 72 [0, 1]), (2, dead 72 [0, 1]), (3, dead 72 [0, 1, 6]), (4, dead 72 [0, 1, 6, 7]), (6, dead 72 [0, 1, 6, 7]), (7, dead 72 [0, 1, 6, 7]), (8, dead 72 [0, 1, 6, 7]), (5, dead 72 [0, 1, 6, 7]), (9, dead 72 [0, 6]), (10, dead 72 [0, 6, 8]), (11, dead 72 [0, 6, 8, 9]), (13, dead 72 [0, 6, 8, 9]), (14, dead 72 [0, 6, 8, 9, 10]), (16, dead 72 [0, 6, 8, 9, 10]), (17, dead 72 [0, 6, 8, 9, 10]), (15, dead 72 [0, 6, 8, 9, 10]), (12, dead 72 [0, 6, 8, 9]), (18, dead 72 [0, 8])]
theorem i39 {x0 x1 : AV} (hF : F 39 = some c39) {q : AV × List Row × Option Nat} (h : Ex F (.fn [.t 4, .t 5]) [.code c39b] ⟨mk 72 [(0, x0), (1, x1)], rows, rows.length⟩ fun r => fin rows r.1 r.2.1 r.2.2 = q) : Ret F 39 [x0, x1] rows = some q := Ret_mk hF h
/-! tosher/search.AreMarks -/
def c40r0 : List Seg := [
  .one ⟨some 6, .mv (.c (.bool true)), none⟩,
  .one ⟨some 7, .mv (.c (.int .i64 0)), none⟩]
def c40k0 : ICode := .kill (dead 81 []) (.ops c40r0)
@[simp] theorem uc40k0 : Ex F cx (.code c40k0 :: k) ⟨mk 81 l, rows, low⟩ r ↔ Ex F cx k ⟨mk 81 [(7, (.int .i64 0)), (6, (.bool true))], rows, low⟩ r := reg (keep := []) (ops := c40r0) rfl (by kernel_rfl) (by kernel_rfl)
def c40s1 : ICode := (.seq c40k0 .ret)
@[simp] theorem uc40s1 : Ex F cx (.code c40s1 :: k) s r ↔ Ex F cx (.code (.seq c40k0 .ret) :: k) s r := Iff.rfl
def c40r3 : List Seg := [
  .one ⟨some 80, .bin .add (.t 37) (.c (.int .i64 1)), none⟩,
  .one ⟨some 37, .mv (.t 80), none⟩]
def c40k3 : ICode := .kill (dead 81 [2, 8, 35, 36, 37]) (.ops c40r3)
@[simp] theorem uc40k3 : Ex F cx (.code c40k3 :: k) ⟨mk 81 l, rows, low⟩ r ↔ bnd (evP rows (.bin .add (.c (lk l 37)) (.c (.int .i64 1)))) fun v0 => Ex F cx k ⟨mk 81 [(37, v0), (80, v0), (2, lk l 2), (8, lk l 8), (35, lk l 35), (36, lk l 36), (37, lk l 37)], rows, low⟩ r := reg (keep := [2, 8, 35, 36, 37]) (ops := c40r3) rfl (by kernel_rfl) (by kernel_rfl)
def c40r5 : List Seg := [
  .one ⟨some 79, .bin .add (.t 64) (.c (.int .i64 1)), none⟩,
  .one ⟨some 64, .mv (.t 79), none⟩]
def c40k5 : ICode := .kill (dead 81 [2, 8, 10, 11, 35, 36, 37, 62, 63, 64]) (.ops c40r5)
@[simp] theorem uc40k5 : Ex F cx (.code c40k5 :: k) ⟨mk 81 l, rows, low⟩ r ↔ bnd (evP rows (.bin .add (.c (lk l 64)) (.c (.int .i64 1)))) fun v0 => Ex F cx k ⟨mk 81 [(64, v0), (79, v0), (2, lk l 2), (8, lk l 8), (10, lk l 10), (11, lk l 11), (35, lk l 35), (36, lk l 36), (37, lk l 37), (62, lk l 62), (63, lk l 63), (64, lk l 64)], rows, low⟩ r := reg (keep := [2, 8, 10, 11, 35, 36, 37, 62, 63, 64]) (ops := c40r5) rfl (by kernel_rfl) (by kernel_rfl)
def c40r6 : List Seg := [
  .one ⟨some 6, .mv (.c (.bool false)), none⟩,
  .one ⟨some 7, .mv (.c (.int .i64 0)), none⟩]
def c40k6 : ICode := .kill (dead 81 []) (.ops c40r6)
@[simp] theorem uc40k6 : Ex F cx (.code c40k6 :: k) ⟨mk 81 l, rows, low⟩ r ↔ Ex F cx k ⟨mk 81 [(7, (.int .i64 0)), (6, (.bool false))], rows, low⟩ r := reg (keep := []) (ops := c40r6) rfl (by kernel_rfl) (by kernel_rfl)
def c40s7 : ICode := (.cond (.t 78) (.seq c40k6 .ret) .skip)
@[simp] theorem uc40s7 : Ex F cx (.code c40s7 :: k) s r ↔ Ex F cx (.code (.cond (.t 78) (.seq c40k6 .ret) .skip) :: k) s r := Iff.rfl
def c40r8 : List Seg := [
  .one ⟨some 68, .mv (.t 16), none⟩,
  .one ⟨some 69, .mv (.t 10), none⟩,
  .one ⟨some 70, .bin .neq (.t 68) (.t 69), none⟩,
  .one ⟨some 71, .mv (.t 70), none⟩,
  .one ⟨some 72, .mv (.t 2), some (71, true)⟩,
  .one ⟨some 73, .mv (.t 16), some (71, true)⟩,
  .one ⟨some 74, .idxS 1 (.t 72) (.t 73), some (71, true)⟩,
  .one ⟨some 75, .load1 (.t 74), some (71, true)⟩,
  .one ⟨some 76, .mv (.t 11), some (71, true)⟩,
  .one ⟨some 77, .bin .eql (.t 75) (.t 76), some (71, true)⟩,
  .one ⟨some 78, .pick (.t 71) (.t 77) (.c (.bool false)), none⟩]
def c40k8 : ICode := .kill (dead 81 [2, 8, 10, 11, 16, 35, 36, 37, 62, 63, 64]) (.ops c40r8)
@[simp] theorem uc40k8 : Ex F cx (.code c40k8 :: k) ⟨mk 81 l, rows, low⟩ r ↔ bnd (evP rows (.bin .neq (.c (lk l 16)) (.c (lk l 10)))) fun v0 => bnd (gv v0 true (evP rows (.mv (.c (lk l 2))))) fun v1 => bnd (gv v0 true (evP rows (.mv (.c (lk l 16))))) fun v2 => bnd (gv v0 true (evP rows (.idxS 1 (.c v1) (.c v2)))) fun v3 => bnd (gv v0 true (evP rows (.load1 (.c v3)))) fun v4 => bnd (gv v0 true (evP rows (.mv (.c (lk l 11))))) fun v5 => bnd (gv v0 true (evP rows (.bin .eql (.c v4) (.c v5)))) fun v6 => bnd (evP rows (.pick (.c v0) (.c v6) (.c (.bool false)))) fun v7 => Ex F cx k ⟨mk 81 [(78, v7), (77, v6), (76, v5), (75, v4), (74, v3), (73, v2), (72, v1), (71, v0), (70, v0), (69, lk l 10), (68, lk l 16), (2, lk l 2), (8, lk l 8), (10, lk l 10), (11, lk l 11), (16, lk l 16), (35, lk l 35), (36, lk l 36), (37, lk l 37), (62, lk l 62), (63, lk l 63), (64, lk l 64)], rows, low⟩ r := reg (keep := [2, 8, 10, 11, 16, 35, 36, 37, 62, 63, 64]) (ops := c40r8) rfl (by kernel_rfl) (by kernel_rfl)
def c40s9 : ICode := (.seq c40k8 c40s7)
@[simp] theorem uc40s9 : Ex F cx (.code c40s9 :: k) s r ↔ Ex F cx (.code (.seq c40k8 c40s7) :: k) s r := Iff.rfl
def c40r10 : List Seg := [
  .one ⟨some 66, .idxS 1 (.t 62) (.t 64), none⟩,
  .one ⟨some 67, .load1 (.t 66), none⟩,
  .one ⟨some 16, .mv (.t 67), none⟩]
def c40k10 : ICode := .kill (dead 81 [2, 8, 10, 11, 35, 36, 37, 62, 63, 64]) (.ops c40r10)
@[simp] theorem uc40k10 : Ex F cx (.code c40k10 :: k) ⟨mk 81 l, rows, low⟩ r ↔ bnd (evP rows (.idxS 1 (.c (lk l 62)) (.c (lk l 64)))) fun v0 => bnd (evP rows (.load1 (.c v0))) fun v1 => Ex F cx k ⟨mk 81 [(16, v1), (67, v1), (66, v0), (2, lk l 2), (8, lk l 8), (10, lk l 10), (11, lk l 11), (35, lk l 35), (36, lk l 36), (37, lk l 37), (62, lk l 62), (63, lk l 63), (64, lk l 64)], rows, low⟩ r := reg (keep := [2, 8, 10, 11, 35, 36, 37, 62, 63, 64]) (ops := c40r10) rfl (by kernel_rfl) (by kernel_rfl)
def c40s11 : ICode := (.seq (.block 5 (.seq c40k10 c40s9)) c40k5)
@[simp] theorem uc40s11 : Ex F cx (.code c40s11 :: k) s r ↔ Ex F cx (.code (.seq (.block 5 (.seq c40k10 c40s9)) c40k5) :: k) s r := Iff.rfl
def c40s12 : ICode := (.seq (.cond (.t 65) .skip (.exit 4)) c40s11)
@[simp] theorem uc40s12 : Ex F cx (.code c40s12 :: k) s r ↔ Ex F cx (.code (.seq (.cond (.t 65) .skip (.exit 4)) c40s11) :: k) s r := Iff.rfl
def c40r13 : List Seg := [
  .one ⟨some 65, .bin .lss (.t 64) (.t 63), none⟩]
def c40k13 : ICode := .kill (dead 81 [2, 8, 10, 11, 35, 36, 37, 62, 63, 64]) (.ops c40r13)
@[simp] theorem uc40k13 : Ex F cx (.code c40k13 :: k) ⟨mk 81 l, rows, low⟩ r ↔ bnd (evP rows (.bin .lss (.c (lk l 64)) (.c (lk l 63)))) fun v0 => Ex F cx k ⟨mk 81 [(65, v0), (2, lk l 2), (8, lk l 8), (10, lk l 10), (11, lk l 11), (35, lk l 35), (36, lk l 36), (37, lk l 37), (62, lk l 62), (63, lk l 63), (64, lk l 64)], rows, low⟩ r := reg (keep := [2, 8, 10, 11, 35, 36, 37, 62, 63, 64]) (ops := c40r13) rfl (by kernel_rfl) (by kernel_rfl)
def c40l4 : ICode := (.seq c40k13 c40s12)
def c40s14 : ICode := (.block 4 (.loop c40l4))
@[simp] theorem uc40s14 : Ex F cx (.code c40s14 :: k) s r ↔ Ex F cx (.code (.block 4 (.loop c40l4)) :: k) s r := Iff.rfl
def c40r15 : List Seg := [
  .one ⟨some 58, .mv (.t 8), none⟩,
  .one ⟨some 59, .mv (.t 10), none⟩,
  .one ⟨some 60, .mv (.t 12), none⟩,
  .one ⟨some 61, .call (.c (.func 70 [])) [(.t 58), (.t 59), (.t 60)], none⟩,
  .one ⟨some 62, .call (.c (.func 69 [])) [(.t 61)], none⟩,
  .one ⟨some 63, .len 0 (.t 62), none⟩,
  .one ⟨some 64, .mv (.c (.int .i64 0)), none⟩]
def c40k15 : ICode := .kill (dead 81 [2, 8, 10, 11, 12, 35, 36, 37]) (.ops c40r15)
@[simp] theorem uc40k15 : Ex F cx (.code c40k15 :: k) ⟨mk 81 l, rows, low⟩ r ↔ bnd (Ret F 70 [lk l 8, lk l 10, lk l 12] rows) fun q0 => bnd (Ret F 69 [q0.1] q0.2.1) fun q1 => bnd (evP q1.2.1 (.len 0 (.c q1.1))) fun v2 => Ex F cx k ⟨mk 81 [(64, (.int .i64 0)), (63, v2), (62, q1.1), (61, q0.1), (60, lk l 12), (59, lk l 10), (58, lk l 8), (2, lk l 2), (8, lk l 8), (10, lk l 10), (11, lk l 11), (12, lk l 12), (35, lk l 35), (36, lk l 36), (37, lk l 37)], q1.2.1, (lowO (lowO low q0.2.2) q1.2.2)⟩ r := reg (keep := [2, 8, 10, 11, 12, 35, 36, 37]) (ops := c40r15) rfl (by kernel_rfl) (by kernel_rfl)
def c40s16 : ICode := (.seq c40k15 c40s14)
@[simp] theorem uc40s16 : Ex F cx (.code c40s16 :: k) s r ↔ Ex F cx (.code (.seq c40k15 c40s14) :: k) s r := Iff.rfl
def c40r18 : List Seg := [
  .one ⟨some 57, .bin .add (.t 44) (.c (.int .i64 1)), none⟩,
  .one ⟨some 44, .mv (.t 57), none⟩]
def c40k18 : ICode := .kill (dead 81 [2, 8, 10, 11, 12, 35, 36, 37, 42, 43, 44]) (.ops c40r18)
@[simp] theorem uc40k18 : Ex F cx (.code c40k18 :: k) ⟨mk 81 l, rows, low⟩ r ↔ bnd (evP rows (.bin .add (.c (lk l 44)) (.c (.int .i64 1)))) fun v0 => Ex F cx k ⟨mk 81 [(44, v0), (57, v0), (2, lk l 2), (8, lk l 8), (10, lk l 10), (11, lk l 11), (12, lk l 12), (35, lk l 35), (36, lk l 36), (37, lk l 37), (42, lk l 42), (43, lk l 43), (44, lk l 44)], rows, low⟩ r := reg (keep := [2, 8, 10, 11, 12, 35, 36, 37, 42, 43, 44]) (ops := c40r18) rfl (by kernel_rfl) (by kernel_rfl)
def c40r19 : List Seg := [
  .one ⟨some 52, .mv (.t 12), none⟩,
  .one ⟨some 53, .mv (.t 13), none⟩,
  .one ⟨some 54, .conv .u64 (.t 53), none⟩,
  .one ⟨some 55, .bin .shl (.c (.int .i64 1)) (.t 54), none⟩,
  .one ⟨some 56, .bin .or (.t 52) (.t 55), none⟩,
  .one ⟨some 12, .mv (.t 56), none⟩]
def c40k19 : ICode := .kill (dead 81 [2, 8, 10, 11, 12, 13, 35, 36, 37, 42, 43, 44]) (.ops c40r19)
@[simp] theorem uc40k19 : Ex F cx (.code c40k19 :: k) ⟨mk 81 l, rows, low⟩ r ↔ bnd (evP rows (.conv .u64 (.c (lk l 13)))) fun v0 => bnd (evP rows (.bin .shl (.c (.int .i64 1)) (.c v0))) fun v1 => bnd (evP rows (.bin .or (.c (lk l 12)) (.c v1))) fun v2 => Ex F cx k ⟨mk 81 [(12, v2), (56, v2), (55, v1), (54, v0), (53, lk l 13), (52, lk l 12), (2, lk l 2), (8, lk l 8), (10, lk l 10), (11, lk l 11), (12, lk l 12), (13, lk l 13), (35, lk l 35), (36, lk l 36), (37, lk l 37), (42, lk l 42), (43, lk l 43), (44, lk l 44)], rows, low⟩ r := reg (keep := [2, 8, 10, 11, 12, 13, 35, 36, 37, 42, 43, 44]) (ops := c40r19) rfl (by kernel_rfl) (by kernel_rfl)
def c40s20 : ICode := (.cond (.t 51) c40k19 .skip)
@[simp] theorem uc40s20 : Ex F cx (.code c40s20 :: k) s r ↔ Ex F cx (.code (.cond (.t 51) c40k19 .skip) :: k) s r := Iff.rfl
def c40r21 : List Seg := [
  .one ⟨some 49, .mv (.t 14), none⟩,
  .one ⟨some 50, .mv (.t 11), none⟩,
  .one ⟨some 51, .bin .leq (.t 49) (.t 50), none⟩]
def c40k21 : ICode := .kill (dead 81 [2, 8, 10, 11, 12, 13, 14, 35, 36, 37, 42, 43, 44]) (.ops c40r21)
@[simp] theorem uc40k21 : Ex F cx (.code c40k21 :: k) ⟨mk 81 l, rows, low⟩ r ↔ bnd (evP rows (.bin .leq (.c (lk l 14)) (.c (lk l 11)))) fun v0 => Ex F cx k ⟨mk 81 [(51, v0), (50, lk l 11), (49, lk l 14), (2, lk l 2), (8, lk l 8), (10, lk l 10), (11, lk l 11), (12, lk l 12), (13, lk l 13), (14, lk l 14), (35, lk l 35), (36, lk l 36), (37, lk l 37), (42, lk l 42), (43, lk l 43), (44, lk l 44)], rows, low⟩ r := reg (keep := [2, 8, 10, 11, 12, 13, 14, 35, 36, 37, 42, 43, 44]) (ops := c40r21) rfl (by kernel_rfl) (by kernel_rfl)
def c40s22 : ICode := (.seq c40k21 c40s20)
@[simp] theorem uc40s22 : Ex F cx (.code c40s22 :: k) s r ↔ Ex F cx (.code (.seq c40k21 c40s20) :: k) s r := Iff.rfl
def c40r23 : List Seg := [
  .one ⟨some 46, .mv (.t 44), none⟩,
  .one ⟨some 47, .idxS 1 (.t 42) (.t 44), none⟩,
  .one ⟨some 48, .load1 (.t 47), none⟩,
  .one ⟨some 13, .mv (.t 46), none⟩,
  .one ⟨some 14, .mv (.t 48), none⟩]
def c40k23 : ICode := .kill (dead 81 [2, 8, 10, 11, 12, 35, 36, 37, 42, 43, 44]) (.ops c40r23)
@[simp] theorem uc40k23 : Ex F cx (.code c40k23 :: k) ⟨mk 81 l, rows, low⟩ r ↔ bnd (evP rows (.idxS 1 (.c (lk l 42)) (.c (lk l 44)))) fun v0 => bnd (evP rows (.load1 (.c v0))) fun v1 => Ex F cx k ⟨mk 81 [(14, v1), (13, lk l 44), (48, v1), (47, v0), (46, lk l 44), (2, lk l 2), (8, lk l 8), (10, lk l 10), (11, lk l 11), (12, lk l 12), (35, lk l 35), (36, lk l 36), (37, lk l 37), (42, lk l 42), (43, lk l 43), (44, lk l 44)], rows, low⟩ r := reg (keep := [2, 8, 10, 11, 12, 35, 36, 37, 42, 43, 44]) (ops := c40r23) rfl (by kernel_rfl) (by kernel_rfl)
def c40s24 : ICode := (.seq (.block 3 (.seq c40k23 c40s22)) c40k18)
@[simp] theorem uc40s24 : Ex F cx (.code c40s24 :: k) s r ↔ Ex F cx (.code (.seq (.block 3 (.seq c40k23 c40s22)) c40k18) :: k) s r := Iff.rfl
def c40s25 : ICode := (.seq (.cond (.t 45) .skip (.exit 2)) c40s24)
@[simp] theorem uc40s25 : Ex F cx (.code c40s25 :: k) s r ↔ Ex F cx (.code (.seq (.cond (.t 45) .skip (.exit 2)) c40s24) :: k) s r := Iff.rfl
def c40r26 : List Seg := [
  .one ⟨some 45, .bin .lss (.t 44) (.t 43), none⟩]
def c40k26 : ICode := .kill (dead 81 [2, 8, 10, 11, 12, 35, 36, 37, 42, 43, 44]) (.ops c40r26)
@[simp] theorem uc40k26 : Ex F cx (.code c40k26 :: k) ⟨mk 81 l, rows, low⟩ r ↔ bnd (evP rows (.bin .lss (.c (lk l 44)) (.c (lk l 43)))) fun v0 => Ex F cx k ⟨mk 81 [(45, v0), (2, lk l 2), (8, lk l 8), (10, lk l 10), (11, lk l 11), (12, lk l 12), (35, lk l 35), (36, lk l 36), (37, lk l 37), (42, lk l 42), (43, lk l 43), (44, lk l 44)], rows, low⟩ r := reg (keep := [2, 8, 10, 11, 12, 35, 36, 37, 42, 43, 44]) (ops := c40r26) rfl (by kernel_rfl) (by kernel_rfl)
def c40l17 : ICode := (.seq c40k26 c40s25)
def c40s27 : ICode := (.block 2 (.loop c40l17))
@[simp] theorem uc40s27 : Ex F cx (.code c40s27 :: k) s r ↔ Ex F cx (.code (.block 2 (.loop c40l17)) :: k) s r := Iff.rfl
def c40r28 : List Seg := [
  .one ⟨some 42, .mv (.t 2), none⟩,
  .one ⟨some 43, .len 0 (.t 42), none⟩,
  .one ⟨some 44, .mv (.c (.int .i64 0)), none⟩]
def c40k28 : ICode := .kill (dead 81 [2, 8, 10, 11, 12, 35, 36, 37]) (.ops c40r28)
@[simp] theorem uc40k28 : Ex F cx (.code c40k28 :: k) ⟨mk 81 l, rows, low⟩ r ↔ bnd (evP rows (.len 0 (.c (lk l 2)))) fun v0 => Ex F cx k ⟨mk 81 [(44, (.int .i64 0)), (43, v0), (42, lk l 2), (2, lk l 2), (8, lk l 8), (10, lk l 10), (11, lk l 11), (12, lk l 12), (35, lk l 35), (36, lk l 36), (37, lk l 37)], rows, low⟩ r := reg (keep := [2, 8, 10, 11, 12, 35, 36, 37]) (ops := c40r28) rfl (by kernel_rfl) (by kernel_rfl)
def c40s29 : ICode := (.seq (.seq c40k28 c40s27) c40s16)
@[simp] theorem uc40s29 : Ex F cx (.code c40s29 :: k) s r ↔ Ex F cx (.code (.seq (.seq c40k28 c40s27) c40s16) :: k) s r := Iff.rfl
def c40r30 : List Seg := [
  .one ⟨some 12, .mv (.c (.int .i64 0)), none⟩]
def c40k30 : ICode := .kill (dead 81 [2, 8, 10, 11, 35, 36, 37]) (.ops c40r30)
@[simp] theorem uc40k30 : Ex F cx (.code c40k30 :: k) ⟨mk 81 l, rows, low⟩ r ↔ Ex F cx k ⟨mk 81 [(12, (.int .i64 0)), (2, lk l 2), (8, lk l 8), (10, lk l 10), (11, lk l 11), (35, lk l 35), (36, lk l 36), (37, lk l 37)], rows, low⟩ r := reg (keep := [2, 8, 10, 11, 35, 36, 37]) (ops := c40r30) rfl (by kernel_rfl) (by kernel_rfl)
def c40s31 : ICode := (.seq c40k30 c40s29)
@[simp] theorem uc40s31 : Ex F cx (.code c40s31 :: k) s r ↔ Ex F cx (.code (.seq c40k30 c40s29) :: k) s r := Iff.rfl
def c40r32 : List Seg := [
  .one ⟨some 39, .mv (.t 37), none⟩,
  .one ⟨some 40, .idxS 1 (.t 35) (.t 37), none⟩,
  .one ⟨some 41, .load1 (.t 40), none⟩,
  .one ⟨some 10, .mv (.t 39), none⟩,
  .one ⟨some 11, .mv (.t 41), none⟩]
def c40k32 : ICode := .kill (dead 81 [2, 8, 35, 36, 37]) (.ops c40r32)
@[simp] theorem uc40k32 : Ex F cx (.code c40k32 :: k) ⟨mk 81 l, rows, low⟩ r ↔ bnd (evP rows (.idxS 1 (.c (lk l 35)) (.c (lk l 37)))) fun v0 => bnd (evP rows (.load1 (.c v0))) fun v1 => Ex F cx k ⟨mk 81 [(11, v1), (10, lk l 37), (41, v1), (40, v0), (39, lk l 37), (2, lk l 2), (8, lk l 8), (35, lk l 35), (36, lk l 36), (37, lk l 37)], rows, low⟩ r := reg (keep := [2, 8, 35, 36, 37]) (ops := c40r32) rfl (by kernel_rfl) (by kernel_rfl)
def c40s33 : ICode := (.seq (.block 1 (.seq c40k32 c40s31)) c40k3)
@[simp] theorem uc40s33 : Ex F cx (.code c40s33 :: k) s r ↔ Ex F cx (.code (.seq (.block 1 (.seq c40k32 c40s31)) c40k3) :: k) s r := Iff.rfl
def c40s34 : ICode := (.seq (.cond (.t 38) .skip (.exit 0)) c40s33)
@[simp] theorem uc40s34 : Ex F cx (.code c40s34 :: k) s r ↔ Ex F cx (.code (.seq (.cond (.t 38) .skip (.exit 0)) c40s33) :: k) s r := Iff.rfl
def c40r35 : List Seg := [
  .one ⟨some 38, .bin .lss (.t 37) (.t 36), none⟩]
def c40k35 : ICode := .kill (dead 81 [2, 8, 35, 36, 37]) (.ops c40r35)
@[simp] theorem uc40k35 : Ex F cx (.code c40k35 :: k) ⟨mk 81 l, rows, low⟩ r ↔ bnd (evP rows (.bin .lss (.c (lk l 37)) (.c (lk l 36)))) fun v0 => Ex F cx k ⟨mk 81 [(38, v0), (2, lk l 2), (8, lk l 8), (35, lk l 35), (36, lk l 36), (37, lk l 37)], rows, low⟩ r := reg (keep := [2, 8, 35, 36, 37]) (ops := c40r35) rfl (by kernel_rfl) (by kernel_rfl)
def c40l2 : ICode := (.seq c40k35 c40s34)
def c40s36 : ICode := (.block 0 (.loop c40l2))
@[simp] theorem uc40s36 : Ex F cx (.code c40s36 :: k) s r ↔ Ex F cx (.code (.block 0 (.loop c40l2)) :: k) s r := Iff.rfl
def c40r37 : List Seg := [
  .one ⟨some 35, .mv (.t 2), none⟩,
  .one ⟨some 36, .len 0 (.t 35), none⟩,
  .one ⟨some 37, .mv (.c (.int .i64 0)), none⟩]
def c40k37 : ICode := .kill (dead 81 [2, 8]) (.ops c40r37)
@[simp] theorem uc40k37 : Ex F cx (.code c40k37 :: k) ⟨mk 81 l, rows, low⟩ r ↔ bnd (evP rows (.len 0 (.c (lk l 2)))) fun v0 => Ex F cx k ⟨mk 81 [(37, (.int .i64 0)), (36, v0), (35, lk l 2), (2, lk l 2), (8, lk l 8)], rows, low⟩ r := reg (keep := [2, 8]) (ops := c40r37) rfl (by kernel_rfl) (by kernel_rfl)
def c40s38 : ICode := (.seq (.seq c40k37 c40s36) c40s1)
@[simp] theorem uc40s38 : Ex F cx (.code c40s38 :: k) s r ↔ Ex F cx (.code (.seq (.seq c40k37 c40s36) c40s1) :: k) s r := Iff.rfl
def c40r39 : List Seg := [
  .one ⟨some 6, .mv (.c (.bool false)), none⟩,
  .one ⟨some 7, .mv (.c (.int .i64 0)), none⟩]
def c40k39 : ICode := .kill (dead 81 []) (.ops c40r39)
@[simp] theorem uc40k39 : Ex F cx (.code c40k39 :: k) ⟨mk 81 l, rows, low⟩ r ↔ Ex F cx k ⟨mk 81 [(7, (.int .i64 0)), (6, (.bool false))], rows, low⟩ r := reg (keep := []) (ops := c40r39) rfl (by kernel_rfl) (by kernel_rfl)
def c40s40 : ICode := (.cond (.t 34) (.seq c40k39 .ret) .skip)
@[simp] theorem uc40s40 : Ex F cx (.code c40s40 :: k) s r ↔ Ex F cx (.code (.cond (.t 34) (.seq c40k39 .ret) .skip) :: k) s r := Iff.rfl
def c40r41 : List Seg := [
  .one ⟨some 26, .mv (.t 2), none⟩,
  .one ⟨some 27, .len 0 (.t 26), none⟩,
  .one ⟨some 28, .mv (.t 0), none⟩,
  .one ⟨some 29, .bin .neq (.t 27) (.t 28), none⟩,
  .one ⟨some 30, .mv (.t 29), none⟩,
  .one ⟨some 31, .mv (.t 2), some (30, false)⟩,
  .one ⟨some 32, .call (.c (.func 55 [])) [(.c (.int .i64 0)), (.c (.int .i64 10)), (.t 31)], some (30, false)⟩,
  .one ⟨some 33, .un .not (.t 32), some (30, false)⟩,
  .one ⟨some 34, .pick (.t 30) (.c (.bool true)) (.t 33), none⟩]
def c40k41 : ICode := .kill (dead 81 [0, 2, 8]) (.ops c40r41)
@[simp] theorem uc40k41 : Ex F cx (.code c40k41 :: k) ⟨mk 81 l, rows, low⟩ r ↔ bnd (evP rows (.len 0 (.c (lk l 2)))) fun v0 => bnd (evP rows (.bin .neq (.c v0) (.c (lk l 0)))) fun v1 => bnd (gv v1 false (evP rows (.mv (.c (lk l 2))))) fun v2 => gcall F v1 false rows low [(.int .i64 0), (.int .i64 10), v2] (.func 55 []) fun v3 R3 L3 => bnd (gv v1 false (evP R3 (.un .not (.c v3)))) fun v4 => bnd (evP R3 (.pick (.c v1) (.c (.bool true)) (.c v4))) fun v5 => Ex F cx k ⟨mk 81 [(34, v5), (33, v4), (32, v3), (31, v2), (30, v1), (29, v1), (28, lk l 0), (27, v0), (26, lk l 2), (0, lk l 0), (2, lk l 2), (8, lk l 8)], R3, L3⟩ r := reg (keep := [0, 2, 8]) (ops := c40r41) rfl (by kernel_rfl) (by kernel_rfl)
def c40s42 : ICode := (.seq (.seq c40k41 c40s40) c40s38)
@[simp] theorem uc40s42 : Ex F cx (.code c40s42 :: k) s r ↔ Ex F cx (.code (.seq (.seq c40k41 c40s40) c40s38) :: k) s r := Iff.rfl
def c40r43 : List Seg := [
  .one ⟨some 25, .mv (.t 9), none⟩,
  .one ⟨some 6, .mv (.c (.bool false)), none⟩,
  .one ⟨some 7, .mv (.t 25), none⟩]
def c40k43 : ICode := .kill (dead 81 [9]) (.ops c40r43)
@[simp] theorem uc40k43 : Ex F cx (.code c40k43 :: k) ⟨mk 81 l, rows, low⟩ r ↔ Ex F cx k ⟨mk 81 [(7, lk l 9), (6, (.bool false)), (25, lk l 9), (9, lk l 9)], rows, low⟩ r := reg (keep := [9]) (ops := c40r43) rfl (by kernel_rfl) (by kernel_rfl)
def c40s44 : ICode := (.cond (.t 24) (.seq c40k43 .ret) .skip)
@[simp] theorem uc40s44 : Ex F cx (.code c40s44 :: k) s r ↔ Ex F cx (.code (.cond (.t 24) (.seq c40k43 .ret) .skip) :: k) s r := Iff.rfl
def c40r45 : List Seg := [
  .one ⟨some 23, .mv (.t 9), none⟩,
  .one ⟨some 24, .bin .neq (.t 23) (.c (.int .i64 0)), none⟩]
def c40k45 : ICode := .kill (dead 81 [0, 2, 8, 9]) (.ops c40r45)
@[simp] theorem uc40k45 : Ex F cx (.code c40k45 :: k) ⟨mk 81 l, rows, low⟩ r ↔ bnd (evP rows (.bin .neq (.c (lk l 9)) (.c (.int .i64 0)))) fun v0 => Ex F cx k ⟨mk 81 [(24, v0), (23, lk l 9), (0, lk l 0), (2, lk l 2), (8, lk l 8), (9, lk l 9)], rows, low⟩ r := reg (keep := [0, 2, 8, 9]) (ops := c40r45) rfl (by kernel_rfl) (by kernel_rfl)
def c40s46 : ICode := (.seq (.seq c40k45 c40s44) c40s42)
@[simp] theorem uc40s46 : Ex F cx (.code c40s46 :: k) s r ↔ Ex F cx (.code (.seq (.seq c40k45 c40s44) c40s42) :: k) s r := Iff.rfl
def c40r47 : List Seg := [
  .one ⟨some 18, .mv (.t 0), none⟩,
  .one ⟨some 19, .mv (.t 1), none⟩,
  .one ⟨some 20, .call (.c (.func 68 [])) [(.t 18), (.t 19)], none⟩,
  .one ⟨some 17, .mv (.t 20), none⟩,
  .one ⟨some 21, .ext (.t 17) 0, none⟩,
  .one ⟨some 22, .ext (.t 17) 1, none⟩,
  .one ⟨some 8, .mv (.t 21), none⟩,
  .one ⟨some 9, .mv (.t 22), none⟩]
def c40k47 : ICode := .kill (dead 81 [0, 1, 2]) (.ops c40r47)
@[simp] theorem uc40k47 : Ex F cx (.code c40k47 :: k) ⟨mk 81 l, rows, low⟩ r ↔ bnd (Ret F 68 [lk l 0, lk l 1] rows) fun q0 => bnd (evP q0.2.1 (.ext (.c q0.1) 0)) fun v1 => bnd (evP q0.2.1 (.ext (.c q0.1) 1)) fun v2 => Ex F cx k ⟨mk 81 [(9, v2), (8, v1), (22, v2), (21, v1), (17, q0.1), (20, q0.1), (19, lk l 1), (18, lk l 0), (0, lk l 0), (1, lk l 1), (2, lk l 2)], q0.2.1, (lowO low q0.2.2)⟩ r := reg (keep := [0, 1, 2]) (ops := c40r47) rfl (by kernel_rfl) (by kernel_rfl)
def c40s48 : ICode := (.seq c40k47 c40s46)
@[simp] theorem uc40s48 : Ex F cx (.code c40s48 :: k) s r ↔ Ex F cx (.code (.seq c40k47 c40s46) :: k) s r := Iff.rfl
def c40r49 : List Seg := [
  .one ⟨some 6, .mv (.c (.bool false)), none⟩,
  .one ⟨some 7, .mv (.c (.int .i64 0)), none⟩]
def c40k49 : ICode := .kill (dead 81 [0, 1, 2]) (.ops c40r49)
@[simp] theorem uc40k49 : Ex F cx (.code c40k49 :: k) ⟨mk 81 l, rows, low⟩ r ↔ Ex F cx k ⟨mk 81 [(7, (.int .i64 0)), (6, (.bool false)), (0, lk l 0), (1, lk l 1), (2, lk l 2)], rows, low⟩ r := reg (keep := [0, 1, 2]) (ops := c40r49) rfl (by kernel_rfl) (by kernel_rfl)
def Jc40s11 (F : Nat → Option IFn) (cx : Ctx) (x2 x8 x10 x11 x35 x36 x37 x62 x63 x64 : AV) (rows : List Row) (low : Nat) (r : AV × List Row × Nat → Prop) : Prop := Ex F cx (.code c40s11 :: .inLoop c40l4 :: .inBlock 4 :: .inBlock 1 :: .code c40k3 :: .inLoop c40l2 :: .inBlock 0 :: .code c40s1 :: []) ⟨mk 81 [(2, x2), (8, x8), (10, x10), (11, x11), (35, x35), (36, x36), (37, x37), (62, x62), (63, x63), (64, x64)], rows, low⟩ r
theorem jc40s11 : Ex F cx (.code c40s11 :: .inLoop c40l4 :: .inBlock 4 :: .inBlock 1 :: .code c40k3 :: .inLoop c40l2 :: .inBlock 0 :: .code c40s1 :: []) ⟨mk 81 l, rows, low⟩ r ↔ Jc40s11 F cx (lk l 2) (lk l 8) (lk l 10) (lk l 11) (lk l 35) (lk l 36) (lk l 37) (lk l 62) (lk l 63) (lk l 64) rows low r := Ex_canon (keep := [2, 8, 10, 11, 35, 36, 37, 62, 63, 64]) (by kernel_rfl)
def Lc40l4 (F : Nat → Option IFn) (cx : Ctx) (x2 x8 x10 x11 x35 x36 x37 x62 x63 x64 : AV) (rows : List Row) (low : Nat) (r : AV × List Row × Nat → Prop) : Prop := Ex F cx (.code c40l4 :: .inLoop c40l4 :: .inBlock 4 :: .inBlock 1 :: .code c40k3 :: .inLoop c40l2 :: .inBlock 0 :: .code c40s1 :: []) ⟨mk 81 [(2, x2), (8, x8), (10, x10), (11, x11), (35, x35), (36, x36), (37, x37), (62, x62), (63, x63), (64, x64)], rows, low⟩ r
@[simp] theorem nc40l4 : Ex F cx (.inLoop c40l4 :: .inBlock 4 :: .inBlock 1 :: .code c40k3 :: .inLoop c40l2 :: .inBlock 0 :: .code c40s1 :: []) ⟨mk 81 l, rows, low⟩ r ↔ Lc40l4 F cx (lk l 2) (lk l 8) (lk l 10) (lk l 11) (lk l 35) (lk l 36) (lk l 37) (lk l 62) (lk l 63) (lk l 64) rows low r := loopN (keep := [2, 8, 10, 11, 35, 36, 37, 62, 63, 64]) (by kernel_rfl)
@[simp] theorem ec40l4 : Ex F cx (.code (.loop c40l4) :: .inBlock 4 :: .inBlock 1 :: .code c40k3 :: .inLoop c40l2 :: .inBlock 0 :: .code c40s1 :: []) ⟨mk 81 l, rows, low⟩ r ↔ Lc40l4 F cx (lk l 2) (lk l 8) (lk l 10) (lk l 11) (lk l 35) (lk l 36) (lk l 37) (lk l 62) (lk l 63) (lk l 64) rows low r := loopE (keep := [2, 8, 10, 11, 35, 36, 37, 62, 63, 64]) (by kernel_rfl)
@[simp] theorem uc40l4 : Ex F cx (.code c40l4 :: k) s r ↔ Ex F cx (.code (.seq c40k13 c40s12) :: k) s r := Iff.rfl
def Jc40s24 (F : Nat → Option IFn) (cx : Ctx) (x2 x8 x10 x11 x12 x35 x36 x37 x42 x43 x44 : AV) (rows : List Row) (low : Nat) (r : AV × List Row × Nat → Prop) : Prop := Ex F cx (.code c40s24 :: .inLoop c40l17 :: .inBlock 2 :: .code c40s16 :: .inBlock 1 :: .code c40k3 :: .inLoop c40l2 :: .inBlock 0 :: .code c40s1 :: []) ⟨mk 81 [(2, x2), (8, x8), (10, x10), (11, x11), (12, x12), (35, x35), (36, x36), (37, x37), (42, x42), (43, x43), (44, x44)], rows, low⟩ r
theorem jc40s24 : Ex F cx (.code c40s24 :: .inLoop c40l17 :: .inBlock 2 :: .code c40s16 :: .inBlock 1 :: .code c40k3 :: .inLoop c40l2 :: .inBlock 0 :: .code c40s1 :: []) ⟨mk 81 l, rows, low⟩ r ↔ Jc40s24 F cx (lk l 2) (lk l 8) (lk l 10) (lk l 11) (lk l 12) (lk l 35) (lk l 36) (lk l 37) (lk l 42) (lk l 43) (lk l 44) rows low r := Ex_canon (keep := [2, 8, 10, 11, 12, 35, 36, 37, 42, 43, 44]) (by kernel_rfl)
def Lc40l17 (F : Nat → Option IFn) (cx : Ctx) (x2 x8 x10 x11 x12 x35 x36 x37 x42 x43 x44 : AV) (rows : List Row) (low : Nat) (r : AV × List Row × Nat → Prop) : Prop := Ex F cx (.code c40l17 :: .inLoop c40l17 :: .inBlock 2 :: .code c40s16 :: .inBlock 1 :: .code c40k3 :: .inLoop c40l2 :: .inBlock 0 :: .code c40s1 :: []) ⟨mk 81 [(2, x2), (8, x8), (10, x10), (11, x11), (12, x12), (35, x35), (36, x36), (37, x37), (42, x42), (43, x43), (44, x44)], rows, low⟩ r
@[simp] theorem nc40l17 : Ex F cx (.inLoop c40l17 :: .inBlock 2 :: .code c40s16 :: .inBlock 1 :: .code c40k3 :: .inLoop c40l2 :: .inBlock 0 :: .code c40s1 :: []) ⟨mk 81 l, rows, low⟩ r ↔ Lc40l17 F cx (lk l 2) (lk l 8) (lk l 10) (lk l 11) (lk l 12) (lk l 35) (lk l 36) (lk l 37) (lk l 42) (lk l 43) (lk l 44) rows low r := loopN (keep := [2, 8, 10, 11, 12, 35, 36, 37, 42, 43, 44]) (by kernel_rfl)
@[simp] theorem ec40l17 : Ex F cx (.code (.loop c40l17) :: .inBlock 2 :: .code c40s16 :: .inBlock 1 :: .code c40k3 :: .inLoop c40l2 :: .inBlock 0 :: .code c40s1 :: []) ⟨mk 81 l, rows, low⟩ r ↔ Lc40l17 F cx (lk l 2) (lk l 8) (lk l 10) (lk l 11) (lk l 12) (lk l 35) (lk l 36) (lk l 37) (lk l 42) (lk l 43) (lk l 44) rows low r := loopE (keep := [2, 8, 10, 11, 12, 35, 36, 37, 42, 43, 44]) (by kernel_rfl)
@[simp] theorem uc40l17 : Ex F cx (.code c40l17 :: k) s r ↔ Ex F cx (.code (.seq c40k26 c40s25) :: k) s r := Iff.rfl
def Jc40s33 (F : Nat → Option IFn) (cx : Ctx) (x2 x8 x35 x36 x37 : AV) (rows : List Row) (low : Nat) (r : AV × List Row × Nat → Prop) : Prop := Ex F cx (.code c40s33 :: .inLoop c40l2 :: .inBlock 0 :: .code c40s1 :: []) ⟨mk 81 [(2, x2), (8, x8), (35, x35), (36, x36), (37, x37)], rows, low⟩ r
theorem jc40s33 : Ex F cx (.code c40s33 :: .inLoop c40l2 :: .inBlock 0 :: .code c40s1 :: []) ⟨mk 81 l, rows, low⟩ r ↔ Jc40s33 F cx (lk l 2) (lk l 8) (lk l 35) (lk l 36) (lk l 37) rows low r := Ex_canon (keep := [2, 8, 35, 36, 37]) (by kernel_rfl)
def Lc40l2 (F : Nat → Option IFn) (cx : Ctx) (x2 x8 x35 x36 x37 : AV) (rows : List Row) (low : Nat) (r : AV × List Row × Nat → Prop) : Prop := Ex F cx (.code c40l2 :: .inLoop c40l2 :: .inBlock 0 :: .code c40s1 :: []) ⟨mk 81 [(2, x2), (8, x8), (35, x35), (36, x36), (37, x37)], rows, low⟩ r
@[simp] theorem nc40l2 : Ex F cx (.inLoop c40l2 :: .inBlock 0 :: .code c40s1 :: []) ⟨mk 81 l, rows, low⟩ r ↔ Lc40l2 F cx (lk l 2) (lk l 8) (lk l 35) (lk l 36) (lk l 37) rows low r := loopN (keep := [2, 8, 35, 36, 37]) (by kernel_rfl)
@[simp] theorem ec40l2 : Ex F cx (.code (.loop c40l2) :: .inBlock 0 :: .code c40s1 :: []) ⟨mk 81 l, rows, low⟩ r ↔ Lc40l2 F cx (lk l 2) (lk l 8) (lk l 35) (lk l 36) (lk l 37) rows low r := loopE (keep := [2, 8, 35, 36, 37]) (by kernel_rfl)
@[simp] theorem uc40l2 : Ex F cx (.code c40l2 :: k) s r ↔ Ex F cx (.code (.seq c40k35 c40s34) :: k) s r := Iff.rfl
def Jc40s38 (F : Nat → Option IFn) (cx : Ctx) (x2 x8 : AV) (rows : List Row) (low : Nat) (r : AV × List Row × Nat → Prop) : Prop := Ex F cx (.code c40s38 :: []) ⟨mk 81 [(2, x2), (8, x8)], rows, low⟩ r
theorem jc40s38 : Ex F cx (.code c40s38 :: []) ⟨mk 81 l, rows, low⟩ r ↔ Jc40s38 F cx (lk l 2) (lk l 8) rows low r := Ex_canon (keep := [2, 8]) (by kernel_rfl)
def Jc40s42 (F : Nat → Option IFn) (cx : Ctx) (x0 x2 x8 : AV) (rows : List Row) (low : Nat) (r : AV × List Row × Nat → Prop) : Prop := Ex F cx (.code c40s42 :: []) ⟨mk 81 [(0, x0), (2, x2), (8, x8)], rows, low⟩ r
theorem jc40s42 : Ex F cx (.code c40s42 :: []) ⟨mk 81 l, rows, low⟩ r ↔ Jc40s42 F cx (lk l 0) (lk l 2) (lk l 8) rows low r := Ex_canon (keep := [0, 2, 8]) (by kernel_rfl)
def c40b : ICode := (.seq c40k49 c40s48)
@[simp] theorem uc40b : Ex F cx (.code c40b :: k) s r ↔ Ex F cx (.code (.seq c40k49 c40s48) :: k) s r := Iff.rfl
def c40 : IFn := ⟨81, [.t 6, .t 7], c40b⟩
def h40 : List (Nat × List Nat) := [(0, dead 81 [0, 1, 2]), (1, dead 81 [0, 1, 2]), (2, dead 81 [0, 2, 8, 9]), (3, dead 81 [9]), (4, dead 81 [0, 2, 8]), (5, dead 81 []), (6, dead 81 [2, 8]), (7, dead 81 [2, 8, 35, 36, 37]), (8, dead 81 [2, 8, 35, 36, 37]), (9, dead 81 [2, 8, 10, 11, 35, 36, 37]), (10, dead 81 [2, 8, 10, 11, 12, 35, 36, 37]), (11, dead 81 [2, 8, 10, 11, 12, 35, 36, 37, 42, 43, 44]), (12, dead 81 [2, 8, 10, 11, 12, 35, 36, 37, 42, 43, 44]), (13, dead 81 [2, 8, 10, 11, 12, 13, 14, 35, 36, 37, 42, 43, 44]), (14, dead 81 [2, 8, 10, 11, 12, 13, 35, 36, 37, 42, 43, 44]), (15, dead 81 [2, 8, 10, 11, 12, 35, 36, 37, 42, 43, 44]), (16, dead 81 [2, 8, 10, 11, 12, 35, 36, 37]), (17, dead 81 [2, 8, 10, 11, 35, 36, 37, 62, 63, 64]), (18, dead 81 [2, 8, 10, 11, 35, 36, 37, 62, 63, 64]), (19, dead 81 [2, 8, 10, 11, 16, 35, 36, 37, 62, 63, 64]), (20, dead 81 []), (21, dead 81 [2, 8, 10, 11, 35, 36, 37, 62, 63, 64]), (22, dead 81 [2, 8, 35, 36, 37]), (23, dead 81 [])]
theorem i40 {x0 x1 x2 : AV} (hF : F 40 = some c40) {q : AV × List Row × Option Nat} (h : Ex F (.fn [.t 6, .t 7]) [.code c40b] ⟨mk 81 [(0, x0), (1, x1), (2, x2)], rows, rows.length⟩ fun r => fin rows r.1 r.2.1 r.2.2 = q) : Ret F 40 [x0, x1, x2] rows = some q := Ret_mk hF h
/-! tosher/tosherref08.Marks -/
def c41r0 : List Seg := [
  .one ⟨some 6, .mv (.c (.bool true)), none⟩]
def c41k0 : ICode := .kill (dead 82 []) (.ops c41r0)
@[simp] theorem uc41k0 : Ex F cx (.code c41k0 :: k) ⟨mk 82 l, rows, low⟩ r ↔ Ex F cx k ⟨mk 82 [(6, (.bool true))], rows, low⟩ r := reg (keep := []) (ops := c41r0) rfl (by kernel_rfl) (by kernel_rfl)
def c41s1 : ICode := (.seq c41k0 .ret)
@[simp] theorem uc41s1 : Ex F cx (.code c41s1 :: k) s r ↔ Ex F cx (.code (.seq c41k0 .ret) :: k) s r := Iff.rfl
def c41r3 : List Seg := [
  .one ⟨some 37, .mv (.t 8), none⟩,
  .one ⟨some 38, .bin .add (.t 37) (.c (.int .i64 1)), none⟩,
  .one ⟨some 8, .mv (.t 38), none⟩]
def c41k3 : ICode := .kill (dead 82 [0, 1, 2, 8]) (.ops c41r3)
@[simp] theorem uc41k3 : Ex F cx (.code c41k3 :: k) ⟨mk 82 l, rows, low⟩ r ↔ bnd (evP rows (.bin .add (.c (lk l 8)) (.c (.int .i64 1)))) fun v0 => Ex F cx k ⟨mk 82 [(8, v0), (38, v0), (37, lk l 8), (0, lk l 0), (1, lk l 1), (2, lk l 2), (8, lk l 8)], rows, low⟩ r := reg (keep := [0, 1, 2, 8]) (ops := c41r3) rfl (by kernel_rfl) (by kernel_rfl)
def c41r5 : List Seg := [
  .one ⟨some 72, .mv (.t 13), none⟩,
  .one ⟨some 73, .bin .add (.t 72) (.c (.int .i64 1)), none⟩,
  .one ⟨some 13, .mv (.t 73), none⟩]
def c41k5 : ICode := .kill (dead 82 [0, 1, 2, 8, 10, 12, 13]) (.ops c41r5)
@[simp] theorem uc41k5 : Ex F cx (.code c41k5 :: k) ⟨mk 82 l, rows, low⟩ r ↔ bnd (evP rows (.bin .add (.c (lk l 13)) (.c (.int .i64 1)))) fun v0 => Ex F cx k ⟨mk 82 [(13, v0), (73, v0), (72, lk l 13), (0, lk l 0), (1, lk l 1), (2, lk l 2), (8, lk l 8), (10, lk l 10), (12, lk l 12), (13, lk l 13)], rows, low⟩ r := reg (keep := [0, 1, 2, 8, 10, 12, 13]) (ops := c41r5) rfl (by kernel_rfl) (by kernel_rfl)
def c41r6 : List Seg := [
  .one ⟨some 6, .mv (.c (.bool false)), none⟩]
def c41k6 : ICode := .kill (dead 82 []) (.ops c41r6)
@[simp] theorem uc41k6 : Ex F cx (.code c41k6 :: k) ⟨mk 82 l, rows, low⟩ r ↔ Ex F cx k ⟨mk 82 [(6, (.bool false))], rows, low⟩ r := reg (keep := []) (ops := c41r6) rfl (by kernel_rfl) (by kernel_rfl)
def c41s7 : ICode := (.cond (.t 81) (.seq c41k6 .ret) .skip)
@[simp] theorem uc41s7 : Ex F cx (.code c41s7 :: k) s r ↔ Ex F cx (.code (.cond (.t 81) (.seq c41k6 .ret) .skip) :: k) s r := Iff.rfl
def c41r8 : List Seg := [
  .one ⟨some 74, .mv (.t 12), none⟩,
  .one ⟨some 75, .mv (.t 13), none⟩,
  .one ⟨some 76, .idxS 1 (.t 74) (.t 75), none⟩,
  .one ⟨some 77, .load1 (.t 76), none⟩,
  .one ⟨some 78, .mv (.t 10), none⟩,
  .one ⟨some 79, .bin .and (.t 77) (.t 78), none⟩,
  .one ⟨some 80, .call (.c (.func 72 [])) [(.t 79)], none⟩,
  .one ⟨some 81, .bin .gtr (.t 80) (.c (.int .i64 1)), none⟩]
def c41k8 : ICode := .kill (dead 82 [0, 1, 2, 8, 10, 12, 13]) (.ops c41r8)
@[simp] theorem uc41k8 : Ex F cx (.code c41k8 :: k) ⟨mk 82 l, rows, low⟩ r ↔ bnd (evP rows (.idxS 1 (.c (lk l 12)) (.c (lk l 13)))) fun v0 => bnd (evP rows (.load1 (.c v0))) fun v1 => bnd (evP rows (.bin .and (.c v1) (.c (lk l 10)))) fun v2 => bnd (Ret F 72 [v2] rows) fun q3 => bnd (evP q3.2.1 (.bin .gtr (.c q3.1) (.c (.int .i64 1)))) fun v4 => Ex F cx k ⟨mk 82 [(81, v4), (80, q3.1), (79, v2), (78, lk l 10), (77, v1), (76, v0), (75, lk l 13), (74, lk l 12), (0, lk l 0), (1, lk l 1), (2, lk l 2), (8, lk l 8), (10, lk l 10), (12, lk l 12), (13, lk l 13)], q3.2.1, (lowO low q3.2.2)⟩ r := reg (keep := [0, 1, 2, 8, 10, 12, 13]) (ops := c41r8) rfl (by kernel_rfl) (by kernel_rfl)
def c41s9 : ICode := (.seq (.block 7 (.seq c41k8 c41s7)) c41k5)
@[simp] theorem uc41s9 : Ex F cx (.code c41s9 :: k) s r ↔ Ex F cx (.code (.seq (.block 7 (.seq c41k8 c41s7)) c41k5) :: k) s r := Iff.rfl
def c41s10 : ICode := (.cond (.t 71) .skip (.exit 6))
@[simp] theorem uc41s10 : Ex F cx (.code c41s10 :: k) s r ↔ Ex F cx (.code (.cond (.t 71) .skip (.exit 6)) :: k) s r := Iff.rfl
def c41r11 : List Seg := [
  .one ⟨some 68, .mv (.t 13), none⟩,
  .one ⟨some 69, .mv (.t 12), none⟩,
  .one ⟨some 70, .len 0 (.t 69), none⟩,
  .one ⟨some 71, .bin .lss (.t 68) (.t 70), none⟩]
def c41k11 : ICode := .kill (dead 82 [0, 1, 2, 8, 10, 12, 13]) (.ops c41r11)
@[simp] theorem uc41k11 : Ex F cx (.code c41k11 :: k) ⟨mk 82 l, rows, low⟩ r ↔ bnd (evP rows (.len 0 (.c (lk l 12)))) fun v0 => bnd (evP rows (.bin .lss (.c (lk l 13)) (.c v0))) fun v1 => Ex F cx k ⟨mk 82 [(71, v1), (70, v0), (69, lk l 12), (68, lk l 13), (0, lk l 0), (1, lk l 1), (2, lk l 2), (8, lk l 8), (10, lk l 10), (12, lk l 12), (13, lk l 13)], rows, low⟩ r := reg (keep := [0, 1, 2, 8, 10, 12, 13]) (ops := c41r11) rfl (by kernel_rfl) (by kernel_rfl)
def c41l4 : ICode := (.seq (.seq c41k11 c41s10) c41s9)
def c41s12 : ICode := (.block 6 (.loop c41l4))
@[simp] theorem uc41s12 : Ex F cx (.code c41s12 :: k) s r ↔ Ex F cx (.code (.block 6 (.loop c41l4)) :: k) s r := Iff.rfl
def c41r13 : List Seg := [
  .one ⟨some 13, .mv (.c (.int .i64 0)), none⟩]
def c41k13 : ICode := .kill (dead 82 [0, 1, 2, 8, 10, 12]) (.ops c41r13)
@[simp] theorem uc41k13 : Ex F cx (.code c41k13 :: k) ⟨mk 82 l, rows, low⟩ r ↔ Ex F cx k ⟨mk 82 [(13, (.int .i64 0)), (0, lk l 0), (1, lk l 1), (2, lk l 2), (8, lk l 8), (10, lk l 10), (12, lk l 12)], rows, low⟩ r := reg (keep := [0, 1, 2, 8, 10, 12]) (ops := c41r13) rfl (by kernel_rfl) (by kernel_rfl)
def c41s14 : ICode := (.seq c41k13 c41s12)
@[simp] theorem uc41s14 : Ex F cx (.code c41s14 :: k) s r ↔ Ex F cx (.code (.seq c41k13 c41s12) :: k) s r := Iff.rfl
def c41r15 : List Seg := [
  .one ⟨some 64, .mv (.t 0), none⟩,
  .one ⟨some 65, .mv (.t 1), none⟩,
  .one ⟨some 66, .mv (.t 9), none⟩,
  .one ⟨some 67, .call (.c (.func 71 [])) [(.t 64), (.t 65), (.t 66)], none⟩,
  .one ⟨some 12, .mv (.t 67), none⟩]
def c41k15 : ICode := .kill (dead 82 [0, 1, 2, 8, 9, 10]) (.ops c41r15)
@[simp] theorem uc41k15 : Ex F cx (.code c41k15 :: k) ⟨mk 82 l, rows, low⟩ r ↔ bnd (Ret F 71 [lk l 0, lk l 1, lk l 9] rows) fun q0 => Ex F cx k ⟨mk 82 [(12, q0.1), (67, q0.1), (66, lk l 9), (65, lk l 1), (64, lk l 0), (0, lk l 0), (1, lk l 1), (2, lk l 2), (8, lk l 8), (9, lk l 9), (10, lk l 10)], q0.2.1, (lowO low q0.2.2)⟩ r := reg (keep := [0, 1, 2, 8, 9, 10]) (ops := c41r15) rfl (by kernel_rfl) (by kernel_rfl)
def c41s16 : ICode := (.seq c41k15 c41s14)
@[simp] theorem uc41s16 : Ex F cx (.code c41s16 :: k) s r ↔ Ex F cx (.code (.seq c41k15 c41s14) :: k) s r := Iff.rfl
def c41r18 : List Seg := [
  .one ⟨some 42, .mv (.t 11), none⟩,
  .one ⟨some 43, .bin .add (.t 42) (.c (.int .i64 1)), none⟩,
  .one ⟨some 11, .mv (.t 43), none⟩]
def c41k18 : ICode := .kill (dead 82 [0, 1, 2, 8, 9, 10, 11]) (.ops c41r18)
@[simp] theorem uc41k18 : Ex F cx (.code c41k18 :: k) ⟨mk 82 l, rows, low⟩ r ↔ bnd (evP rows (.bin .add (.c (lk l 11)) (.c (.int .i64 1)))) fun v0 => Ex F cx k ⟨mk 82 [(11, v0), (43, v0), (42, lk l 11), (0, lk l 0), (1, lk l 1), (2, lk l 2), (8, lk l 8), (9, lk l 9), (10, lk l 10), (11, lk l 11)], rows, low⟩ r := reg (keep := [0, 1, 2, 8, 9, 10, 11]) (ops := c41r18) rfl (by kernel_rfl) (by kernel_rfl)
def c41r19 : List Seg := [
  .one ⟨some 60, .mv (.t 10), none⟩,
  .one ⟨some 61, .mv (.t 11), none⟩,
  .one ⟨some 62, .bin .shl (.c (.int .i64 1)) (.t 61), none⟩,
  .one ⟨some 63, .bin .or (.t 60) (.t 62), none⟩,
  .one ⟨some 10, .mv (.t 63), none⟩]
def c41k19 : ICode := .kill (dead 82 [0, 1, 2, 8, 9, 10, 11]) (.ops c41r19)
@[simp] theorem uc41k19 : Ex F cx (.code c41k19 :: k) ⟨mk 82 l, rows, low⟩ r ↔ bnd (evP rows (.bin .shl (.c (.int .i64 1)) (.c (lk l 11)))) fun v0 => bnd (evP rows (.bin .or (.c (lk l 10)) (.c v0))) fun v1 => Ex F cx k ⟨mk 82 [(10, v1), (63, v1), (62, v0), (61, lk l 11), (60, lk l 10), (0, lk l 0), (1, lk l 1), (2, lk l 2), (8, lk l 8), (9, lk l 9), (10, lk l 10), (11, lk l 11)], rows, low⟩ r := reg (keep := [0, 1, 2, 8, 9, 10, 11]) (ops := c41r19) rfl (by kernel_rfl) (by kernel_rfl)
def c41s20 : ICode := (.cond (.t 59) c41k19 .skip)
@[simp] theorem uc41s20 : Ex F cx (.code c41s20 :: k) s r ↔ Ex F cx (.code (.cond (.t 59) c41k19 .skip) :: k) s r := Iff.rfl
def c41r21 : List Seg := [
  .one ⟨some 54, .mv (.t 2), none⟩,
  .one ⟨some 55, .mv (.t 11), none⟩,
  .one ⟨some 56, .idxS 1 (.t 54) (.t 55), none⟩,
  .one ⟨some 57, .load1 (.t 56), none⟩,
  .one ⟨some 58, .mv (.t 8), none⟩,
  .one ⟨some 59, .bin .eql (.t 57) (.t 58), none⟩]
def c41k21 : ICode := .kill (dead 82 [0, 1, 2, 8, 9, 10, 11]) (.ops c41r21)
@[simp] theorem uc41k21 : Ex F cx (.code c41k21 :: k) ⟨mk 82 l, rows, low⟩ r ↔ bnd (evP rows (.idxS 1 (.c (lk l 2)) (.c (lk l 11)))) fun v0 => bnd (evP rows (.load1 (.c v0))) fun v1 => bnd (evP rows (.bin .eql (.c v1) (.c (lk l 8)))) fun v2 => Ex F cx k ⟨mk 82 [(59, v2), (58, lk l 8), (57, v1), (56, v0), (55, lk l 11), (54, lk l 2), (0, lk l 0), (1, lk l 1), (2, lk l 2), (8, lk l 8), (9, lk l 9), (10, lk l 10), (11, lk l 11)], rows, low⟩ r := reg (keep := [0, 1, 2, 8, 9, 10, 11]) (ops := c41r21) rfl (by kernel_rfl) (by kernel_rfl)
def c41s22 : ICode := (.seq c41k21 c41s20)
@[simp] theorem uc41s22 : Ex F cx (.code c41s22 :: k) s r ↔ Ex F cx (.code (.seq c41k21 c41s20) :: k) s r := Iff.rfl
def c41r23 : List Seg := [
  .one ⟨some 50, .mv (.t 9), none⟩,
  .one ⟨some 51, .mv (.t 11), none⟩,
  .one ⟨some 52, .bin .shl (.c (.int .i64 1)) (.t 51), none⟩,
  .one ⟨some 53, .bin .or (.t 50) (.t 52), none⟩,
  .one ⟨some 9, .mv (.t 53), none⟩]
def c41k23 : ICode := .kill (dead 82 [0, 1, 2, 8, 9, 10, 11]) (.ops c41r23)
@[simp] theorem uc41k23 : Ex F cx (.code c41k23 :: k) ⟨mk 82 l, rows, low⟩ r ↔ bnd (evP rows (.bin .shl (.c (.int .i64 1)) (.c (lk l 11)))) fun v0 => bnd (evP rows (.bin .or (.c (lk l 9)) (.c v0))) fun v1 => Ex F cx k ⟨mk 82 [(9, v1), (53, v1), (52, v0), (51, lk l 11), (50, lk l 9), (0, lk l 0), (1, lk l 1), (2, lk l 2), (8, lk l 8), (9, lk l 9), (10, lk l 10), (11, lk l 11)], rows, low⟩ r := reg (keep := [0, 1, 2, 8, 9, 10, 11]) (ops := c41r23) rfl (by kernel_rfl) (by kernel_rfl)
def c41s24 : ICode := (.cond (.t 49) c41k23 .skip)
@[simp] theorem uc41s24 : Ex F cx (.code c41s24 :: k) s r ↔ Ex F cx (.code (.cond (.t 49) c41k23 .skip) :: k) s r := Iff.rfl
def c41r25 : List Seg := [
  .one ⟨some 44, .mv (.t 2), none⟩,
  .one ⟨some 45, .mv (.t 11), none⟩,
  .one ⟨some 46, .idxS 1 (.t 44) (.t 45), none⟩,
  .one ⟨some 47, .load1 (.t 46), none⟩,
  .one ⟨some 48, .mv (.t 8), none⟩,
  .one ⟨some 49, .bin .leq (.t 47) (.t 48), none⟩]
def c41k25 : ICode := .kill (dead 82 [0, 1, 2, 8, 9, 10, 11]) (.ops c41r25)
@[simp] theorem uc41k25 : Ex F cx (.code c41k25 :: k) ⟨mk 82 l, rows, low⟩ r ↔ bnd (evP rows (.idxS 1 (.c (lk l 2)) (.c (lk l 11)))) fun v0 => bnd (evP rows (.load1 (.c v0))) fun v1 => bnd (evP rows (.bin .leq (.c v1) (.c (lk l 8)))) fun v2 => Ex F cx k ⟨mk 82 [(49, v2), (48, lk l 8), (47, v1), (46, v0), (45, lk l 11), (44, lk l 2), (0, lk l 0), (1, lk l 1), (2, lk l 2), (8, lk l 8), (9, lk l 9), (10, lk l 10), (11, lk l 11)], rows, low⟩ r := reg (keep := [0, 1, 2, 8, 9, 10, 11]) (ops := c41r25) rfl (by kernel_rfl) (by kernel_rfl)
def c41s26 : ICode := (.seq (.block 5 (.seq (.seq c41k25 c41s24) c41s22)) c41k18)
@[simp] theorem uc41s26 : Ex F cx (.code c41s26 :: k) s r ↔ Ex F cx (.code (.seq (.block 5 (.seq (.seq c41k25 c41s24) c41s22)) c41k18) :: k) s r := Iff.rfl
def c41s27 : ICode := (.cond (.t 41) .skip (.exit 4))
@[simp] theorem uc41s27 : Ex F cx (.code c41s27 :: k) s r ↔ Ex F cx (.code (.cond (.t 41) .skip (.exit 4)) :: k) s r := Iff.rfl
def c41r28 : List Seg := [
  .one ⟨some 39, .mv (.t 11), none⟩,
  .one ⟨some 40, .mv (.t 0), none⟩,
  .one ⟨some 41, .bin .lss (.t 39) (.t 40), none⟩]
def c41k28 : ICode := .kill (dead 82 [0, 1, 2, 8, 9, 10, 11]) (.ops c41r28)
@[simp] theorem uc41k28 : Ex F cx (.code c41k28 :: k) ⟨mk 82 l, rows, low⟩ r ↔ bnd (evP rows (.bin .lss (.c (lk l 11)) (.c (lk l 0)))) fun v0 => Ex F cx k ⟨mk 82 [(41, v0), (40, lk l 0), (39, lk l 11), (0, lk l 0), (1, lk l 1), (2, lk l 2), (8, lk l 8), (9, lk l 9), (10, lk l 10), (11, lk l 11)], rows, low⟩ r := reg (keep := [0, 1, 2, 8, 9, 10, 11]) (ops := c41r28) rfl (by kernel_rfl) (by kernel_rfl)
def c41l17 : ICode := (.seq (.seq c41k28 c41s27) c41s26)
def c41s29 : ICode := (.block 4 (.loop c41l17))
@[simp] theorem uc41s29 : Ex F cx (.code c41s29 :: k) s r ↔ Ex F cx (.code (.block 4 (.loop c41l17)) :: k) s r := Iff.rfl
def c41r30 : List Seg := [
  .one ⟨some 11, .mv (.c (.int .i64 0)), none⟩]
def c41k30 : ICode := .kill (dead 82 [0, 1, 2, 8, 9, 10]) (.ops c41r30)
@[simp] theorem uc41k30 : Ex F cx (.code c41k30 :: k) ⟨mk 82 l, rows, low⟩ r ↔ Ex F cx k ⟨mk 82 [(11, (.int .i64 0)), (0, lk l 0), (1, lk l 1), (2, lk l 2), (8, lk l 8), (9, lk l 9), (10, lk l 10)], rows, low⟩ r := reg (keep := [0, 1, 2, 8, 9, 10]) (ops := c41r30) rfl (by kernel_rfl) (by kernel_rfl)
def c41s31 : ICode := (.seq (.seq c41k30 c41s29) c41s16)
@[simp] theorem uc41s31 : Ex F cx (.code c41s31 :: k) s r ↔ Ex F cx (.code (.seq (.seq c41k30 c41s29) c41s16) :: k) s r := Iff.rfl
def c41r32 : List Seg := [
  .one ⟨some 9, .mv (.c (.int .i64 0)), none⟩,
  .one ⟨some 10, .mv (.c (.int .i64 0)), none⟩]
def c41k32 : ICode := .kill (dead 82 [0, 1, 2, 8]) (.ops c41r32)
@[simp] theorem uc41k32 : Ex F cx (.code c41k32 :: k) ⟨mk 82 l, rows, low⟩ r ↔ Ex F cx k ⟨mk 82 [(10, (.int .i64 0)), (9, (.int .i64 0)), (0, lk l 0), (1, lk l 1), (2, lk l 2), (8, lk l 8)], rows, low⟩ r := reg (keep := [0, 1, 2, 8]) (ops := c41r32) rfl (by kernel_rfl) (by kernel_rfl)
def c41s33 : ICode := (.seq (.block 3 (.seq c41k32 c41s31)) c41k3)
@[simp] theorem uc41s33 : Ex F cx (.code c41s33 :: k) s r ↔ Ex F cx (.code (.seq (.block 3 (.seq c41k32 c41s31)) c41k3) :: k) s r := Iff.rfl
def c41s34 : ICode := (.cond (.t 36) .skip (.exit 2))
@[simp] theorem uc41s34 : Ex F cx (.code c41s34 :: k) s r ↔ Ex F cx (.code (.cond (.t 36) .skip (.exit 2)) :: k) s r := Iff.rfl
def c41r35 : List Seg := [
  .one ⟨some 35, .mv (.t 8), none⟩,
  .one ⟨some 36, .bin .leq (.t 35) (.c (.int .i64 10)), none⟩]
def c41k35 : ICode := .kill (dead 82 [0, 1, 2, 8]) (.ops c41r35)
@[simp] theorem uc41k35 : Ex F cx (.code c41k35 :: k) ⟨mk 82 l, rows, low⟩ r ↔ bnd (evP rows (.bin .leq (.c (lk l 8)) (.c (.int .i64 10)))) fun v0 => Ex F cx k ⟨mk 82 [(36, v0), (35, lk l 8), (0, lk l 0), (1, lk l 1), (2, lk l 2), (8, lk l 8)], rows, low⟩ r := reg (keep := [0, 1, 2, 8]) (ops := c41r35) rfl (by kernel_rfl) (by kernel_rfl)
def c41l2 : ICode := (.seq (.seq c41k35 c41s34) c41s33)
def c41s36 : ICode := (.block 2 (.loop c41l2))
@[simp] theorem uc41s36 : Ex F cx (.code c41s36 :: k) s r ↔ Ex F cx (.code (.block 2 (.loop c41l2)) :: k) s r := Iff.rfl
def c41r37 : List Seg := [
  .one ⟨some 8, .mv (.c (.int .i64 0)), none⟩]
def c41k37 : ICode := .kill (dead 82 [0, 1, 2]) (.ops c41r37)
@[simp] theorem uc41k37 : Ex F cx (.code c41k37 :: k) ⟨mk 82 l, rows, low⟩ r ↔ Ex F cx k ⟨mk 82 [(8, (.int .i64 0)), (0, lk l 0), (1, lk l 1), (2, lk l 2)], rows, low⟩ r := reg (keep := [0, 1, 2]) (ops := c41r37) rfl (by kernel_rfl) (by kernel_rfl)
def c41s38 : ICode := (.seq (.seq c41k37 c41s36) c41s1)
@[simp] theorem uc41s38 : Ex F cx (.code c41s38 :: k) s r ↔ Ex F cx (.code (.seq (.seq c41k37 c41s36) c41s1) :: k) s r := Iff.rfl
def c41r40 : List Seg := [
  .one ⟨some 21, .mv (.t 7), none⟩,
  .one ⟨some 22, .bin .add (.t 21) (.c (.int .i64 1)), none⟩,
  .one ⟨some 7, .mv (.t 22), none⟩]
def c41k40 : ICode := .kill (dead 82 [0, 1, 2, 7]) (.ops c41r40)
@[simp] theorem uc41k40 : Ex F cx (.code c41k40 :: k) ⟨mk 82 l, rows, low⟩ r ↔ bnd (evP rows (.bin .add (.c (lk l 7)) (.c (.int .i64 1)))) fun v0 => Ex F cx k ⟨mk 82 [(7, v0), (22, v0), (21, lk l 7), (0, lk l 0), (1, lk l 1), (2, lk l 2), (7, lk l 7)], rows, low⟩ r := reg (keep := [0, 1, 2, 7]) (ops := c41r40) rfl (by kernel_rfl) (by kernel_rfl)
def c41r41 : List Seg := [
  .one ⟨some 6, .mv (.c (.bool false)), none⟩]
def c41k41 : ICode := .kill (dead 82 []) (.ops c41r41)
@[simp] theorem uc41k41 : Ex F cx (.code c41k41 :: k) ⟨mk 82 l, rows, low⟩ r ↔ Ex F cx k ⟨mk 82 [(6, (.bool false))], rows, low⟩ r := reg (keep := []) (ops := c41r41) rfl (by kernel_rfl) (by kernel_rfl)
def c41s42 : ICode := (.cond (.t 34) (.seq c41k41 .ret) .skip)
@[simp] theorem uc41s42 : Ex F cx (.code c41s42 :: k) s r ↔ Ex F cx (.code (.cond (.t 34) (.seq c41k41 .ret) .skip) :: k) s r := Iff.rfl
def c41r43 : List Seg := [
  .one ⟨some 23, .mv (.t 2), none⟩,
  .one ⟨some 24, .mv (.t 7), none⟩,
  .one ⟨some 25, .idxS 1 (.t 23) (.t 24), none⟩,
  .one ⟨some 26, .load1 (.t 25), none⟩,
  .one ⟨some 27, .bin .lss (.t 26) (.c (.int .i64 0)), none⟩,
  .one ⟨some 28, .mv (.t 27), none⟩,
  .one ⟨some 29, .mv (.t 2), some (28, false)⟩,
  .one ⟨some 30, .mv (.t 7), some (28, false)⟩,
  .one ⟨some 31, .idxS 1 (.t 29) (.t 30), some (28, false)⟩,
  .one ⟨some 32, .load1 (.t 31), some (28, false)⟩,
  .one ⟨some 33, .bin .gtr (.t 32) (.c (.int .i64 10)), some (28, false)⟩,
  .one ⟨some 34, .pick (.t 28) (.c (.bool true)) (.t 33), none⟩]
def c41k43 : ICode := .kill (dead 82 [0, 1, 2, 7]) (.ops c41r43)
@[simp] theorem uc41k43 : Ex F cx (.code c41k43 :: k) ⟨mk 82 l, rows, low⟩ r ↔ bnd (evP rows (.idxS 1 (.c (lk l 2)) (.c (lk l 7)))) fun v0 => bnd (evP rows (.load1 (.c v0))) fun v1 => bnd (evP rows (.bin .lss (.c v1) (.c (.int .i64 0)))) fun v2 => bnd (gv v2 false (evP rows (.mv (.c (lk l 2))))) fun v3 => bnd (gv v2 false (evP rows (.mv (.c (lk l 7))))) fun v4 => bnd (gv v2 false (evP rows (.idxS 1 (.c v3) (.c v4)))) fun v5 => bnd (gv v2 false (evP rows (.load1 (.c v5)))) fun v6 => bnd (gv v2 false (evP rows (.bin .gtr (.c v6) (.c (.int .i64 10))))) fun v7 => bnd (evP rows (.pick (.c v2) (.c (.bool true)) (.c v7))) fun v8 => Ex F cx k ⟨mk 82 [(34, v8), (33, v7), (32, v6), (31, v5), (30, v4), (29, v3), (28, v2), (27, v2), (26, v1), (25, v0), (24, lk l 7), (23, lk l 2), (0, lk l 0), (1, lk l 1), (2, lk l 2), (7, lk l 7)], rows, low⟩ r := reg (keep := [0, 1, 2, 7]) (ops := c41r43) rfl (by kernel_rfl) (by kernel_rfl)
def c41s44 : ICode := (.seq (.block 1 (.seq c41k43 c41s42)) c41k40)
@[simp] theorem uc41s44 : Ex F cx (.code c41s44 :: k) s r ↔ Ex F cx (.code (.seq (.block 1 (.seq c41k43 c41s42)) c41k40) :: k) s r := Iff.rfl
def c41s45 : ICode := (.cond (.t 20) .skip (.exit 0))
@[simp] theorem uc41s45 : Ex F cx (.code c41s45 :: k) s r ↔ Ex F cx (.code (.cond (.t 20) .skip (.exit 0)) :: k) s r := Iff.rfl
def c41r46 : List Seg := [
  .one ⟨some 18, .mv (.t 7), none⟩,
  .one ⟨some 19, .mv (.t 0), none⟩,
  .one ⟨some 20, .bin .lss (.t 18) (.t 19), none⟩]
def c41k46 : ICode := .kill (dead 82 [0, 1, 2, 7]) (.ops c41r46)
@[simp] theorem uc41k46 : Ex F cx (.code c41k46 :: k) ⟨mk 82 l, rows, low⟩ r ↔ bnd (evP rows (.bin .lss (.c (lk l 7)) (.c (lk l 0)))) fun v0 => Ex F cx k ⟨mk 82 [(20, v0), (19, lk l 0), (18, lk l 7), (0, lk l 0), (1, lk l 1), (2, lk l 2), (7, lk l 7)], rows, low⟩ r := reg (keep := [0, 1, 2, 7]) (ops := c41r46) rfl (by kernel_rfl) (by kernel_rfl)
def c41l39 : ICode := (.seq (.seq c41k46 c41s45) c41s44)
def c41s47 : ICode := (.block 0 (.loop c41l39))
@[simp] theorem uc41s47 : Ex F cx (.code c41s47 :: k) s r ↔ Ex F cx (.code (.block 0 (.loop c41l39)) :: k) s r := Iff.rfl
def c41r48 : List Seg := [
  .one ⟨some 7, .mv (.c (.int .i64 0)), none⟩]
def c41k48 : ICode := .kill (dead 82 [0, 1, 2]) (.ops c41r48)
@[simp] theorem uc41k48 : Ex F cx (.code c41k48 :: k) ⟨mk 82 l, rows, low⟩ r ↔ Ex F cx k ⟨mk 82 [(7, (.int .i64 0)), (0, lk l 0), (1, lk l 1), (2, lk l 2)], rows, low⟩ r := reg (keep := [0, 1, 2]) (ops := c41r48) rfl (by kernel_rfl) (by kernel_rfl)
def c41s49 : ICode := (.seq (.seq c41k48 c41s47) c41s38)
@[simp] theorem uc41s49 : Ex F cx (.code c41s49 :: k) s r ↔ Ex F cx (.code (.seq (.seq c41k48 c41s47) c41s38) :: k) s r := Iff.rfl
def c41r50 : List Seg := [
  .one ⟨some 6, .mv (.c (.bool false)), none⟩]
def c41k50 : ICode := .kill (dead 82 []) (.ops c41r50)
@[simp] theorem uc41k50 : Ex F cx (.code c41k50 :: k) ⟨mk 82 l, rows, low⟩ r ↔ Ex F cx k ⟨mk 82 [(6, (.bool false))], rows, low⟩ r := reg (keep := []) (ops := c41r50) rfl (by kernel_rfl) (by kernel_rfl)
def c41s51 : ICode := (.cond (.t 17) (.seq c41k50 .ret) .skip)
@[simp] theorem uc41s51 : Ex F cx (.code c41s51 :: k) s r ↔ Ex F cx (.code (.cond (.t 17) (.seq c41k50 .ret) .skip) :: k) s r := Iff.rfl
def c41r52 : List Seg := [
  .one ⟨some 14, .mv (.t 2), none⟩,
  .one ⟨some 15, .len 0 (.t 14), none⟩,
  .one ⟨some 16, .mv (.t 0), none⟩,
  .one ⟨some 17, .bin .neq (.t 15) (.t 16), none⟩]
def c41k52 : ICode := .kill (dead 82 [0, 1, 2]) (.ops c41r52)
@[simp] theorem uc41k52 : Ex F cx (.code c41k52 :: k) ⟨mk 82 l, rows, low⟩ r ↔ bnd (evP rows (.len 0 (.c (lk l 2)))) fun v0 => bnd (evP rows (.bin .neq (.c v0) (.c (lk l 0)))) fun v1 => Ex F cx k ⟨mk 82 [(17, v1), (16, lk l 0), (15, v0), (14, lk l 2), (0, lk l 0), (1, lk l 1), (2, lk l 2)], rows, low⟩ r := reg (keep := [0, 1, 2]) (ops := c41r52) rfl (by kernel_rfl) (by kernel_rfl)
def c41s53 : ICode := (.seq (.seq c41k52 c41s51) c41s49)
@[simp] theorem uc41s53 : Ex F cx (.code c41s53 :: k) s r ↔ Ex F cx (.code (.seq (.seq c41k52 c41s51) c41s49) :: k) s r := Iff.rfl
def c41r54 : List Seg := [
  .one ⟨some 6, .mv (.c (.bool false)), none⟩]
def c41k54 : ICode := .kill (dead 82 [0, 1, 2]) (.ops c41r54)
@[simp] theorem uc41k54 : Ex F cx (.code c41k54 :: k) ⟨mk 82 l, rows, low⟩ r ↔ Ex F cx k ⟨mk 82 [(6, (.bool false)), (0, lk l 0), (1, lk l 1), (2, lk l 2)], rows, low⟩ r := reg (keep := [0, 1, 2]) (ops := c41r54) rfl (by kernel_rfl) (by kernel_rfl)
def Jc41s9 (F : Nat → Option IFn) (cx : Ctx) (x0 x1 x2 x8 x10 x12 x13 : AV) (rows : List Row) (low : Nat) (r : AV × List Row × Nat → Prop) : Prop := Ex F cx (.code c41s9 :: .inLoop c41l4 :: .inBlock 6 :: .inBlock 3 :: .code c41k3 :: .inLoop c41l2 :: .inBlock 2 :: .code c41s1 :: []) ⟨mk 82 [(0, x0), (1, x1), (2, x2), (8, x8), (10, x10), (12, x12), (13, x13)], rows, low⟩ r
theorem jc41s9 : Ex F cx (.code c41s9 :: .inLoop c41l4 :: .inBlock 6 :: .inBlock 3 :: .code c41k3 :: .inLoop c41l2 :: .inBlock 2 :: .code c41s1 :: []) ⟨mk 82 l, rows, low⟩ r ↔ Jc41s9 F cx (lk l 0) (lk l 1) (lk l 2) (lk l 8) (lk l 10) (lk l 12) (lk l 13) rows low r := Ex_canon (keep := [0, 1, 2, 8, 10, 12, 13]) (by kernel_rfl)
def Lc41l4 (F : Nat → Option IFn) (cx : Ctx) (x0 x1 x2 x8 x10 x12 x13 : AV) (rows : List Row) (low : Nat) (r : AV × List Row × Nat → Prop) : Prop := Ex F cx (.code c41l4 :: .inLoop c41l4 :: .inBlock 6 :: .inBlock 3 :: .code c41k3 :: .inLoop c41l2 :: .inBlock 2 :: .code c41s1 :: []) ⟨mk 82 [(0, x0), (1, x1), (2, x2), (8, x8), (10, x10), (12, x12), (13, x13)], rows, low⟩ r
@[simp] theorem nc41l4 : Ex F cx (.inLoop c41l4 :: .inBlock 6 :: .inBlock 3 :: .code c41k3 :: .inLoop c41l2 :: .inBlock 2 :: .code c41s1 :: []) ⟨mk 82 l, rows, low⟩ r ↔ Lc41l4 F cx (lk l 0) (lk l 1) (lk l 2) (lk l 8) (lk l 10) (lk l 12) (lk l 13) rows low r := loopN (keep := [0, 1, 2, 8, 10, 12, 13]) (by kernel_rfl)
@[simp] theorem ec41l4 : Ex F cx (.code (.loop c41l4) :: .inBlock 6 :: .inBlock 3 :: .code c41k3 :: .inLoop c41l2 :: .inBlock 2 :: .code c41s1 :: []) ⟨mk 82 l, rows, low⟩ r ↔ Lc41l4 F cx (lk l 0) (lk l 1) (lk l 2) (lk l 8) (lk l 10) (lk l 12) (lk l 13) rows low r := loopE (keep := [0, 1, 2, 8, 10, 12, 13]) (by kernel_rfl)
@[simp] theorem uc41l4 : Ex F cx (.code c41l4 :: k) s r ↔ Ex F cx (.code (.seq (.seq c41k11 c41s10) c41s9) :: k) s r := Iff.rfl
def Jc41s22 (F : Nat → Option IFn) (cx : Ctx) (x0 x1 x2 x8 x9 x10 x11 : AV) (rows : List Row) (low : Nat) (r : AV × List Row × Nat → Prop) : Prop := Ex F cx (.code c41s22 :: .inBlock 5 :: .code c41k18 :: .inLoop c41l17 :: .inBlock 4 :: .code c41s16 :: .inBlock 3 :: .code c41k3 :: .inLoop c41l2 :: .inBlock 2 :: .code c41s1 :: []) ⟨mk 82 [(0, x0), (1, x1), (2, x2), (8, x8), (9, x9), (10, x10), (11, x11)], rows, low⟩ r
theorem jc41s22 : Ex F cx (.code c41s22 :: .inBlock 5 :: .code c41k18 :: .inLoop c41l17 :: .inBlock 4 :: .code c41s16 :: .inBlock 3 :: .code c41k3 :: .inLoop c41l2 :: .inBlock 2 :: .code c41s1 :: []) ⟨mk 82 l, rows, low⟩ r ↔ Jc41s22 F cx (lk l 0) (lk l 1) (lk l 2) (lk l 8) (lk l 9) (lk l 10) (lk l 11) rows low r := Ex_canon (keep := [0, 1, 2, 8, 9, 10, 11]) (by kernel_rfl)
def Jc41s26 (F : Nat → Option IFn) (cx : Ctx) (x0 x1 x2 x8 x9 x10 x11 : AV) (rows : List Row) (low : Nat) (r : AV × List Row × Nat → Prop) : Prop := Ex F cx (.code c41s26 :: .inLoop c41l17 :: .inBlock 4 :: .code c41s16 :: .inBlock 3 :: .code c41k3 :: .inLoop c41l2 :: .inBlock 2 :: .code c41s1 :: []) ⟨mk 82 [(0, x0), (1, x1), (2, x2), (8, x8), (9, x9), (10, x10), (11, x11)], rows, low⟩ r
theorem jc41s26 : Ex F cx (.code c41s26 :: .inLoop c41l17 :: .inBlock 4 :: .code c41s16 :: .inBlock 3 :: .code c41k3 :: .inLoop c41l2 :: .inBlock 2 :: .code c41s1 :: []) ⟨mk 82 l, rows, low⟩ r ↔ Jc41s26 F cx (lk l 0) (lk l 1) (lk l 2) (lk l 8) (lk l 9) (lk l 10) (lk l 11) rows low r := Ex_canon (keep := [0, 1, 2, 8, 9, 10, 11]) (by kernel_rfl)
def Lc41l17 (F : Nat → Option IFn) (cx : Ctx) (x0 x1 x2 x8 x9 x10 x11 : AV) (rows : List Row) (low : Nat) (r : AV × List Row × Nat → Prop) : Prop := Ex F cx (.code c41l17 :: .inLoop c41l17 :: .inBlock 4 :: .code c41s16 :: .inBlock 3 :: .code c41k3 :: .inLoop c41l2 :: .inBlock 2 :: .code c41s1 :: []) ⟨mk 82 [(0, x0), (1, x1), (2, x2), (8, x8), (9, x9), (10, x10), (11, x11)], rows, low⟩ r
@[simp] theorem nc41l17 : Ex F cx (.inLoop c41l17 :: .inBlock 4 :: .code c41s16 :: .inBlock 3 :: .code c41k3 :: .inLoop c41l2 :: .inBlock 2 :: .code c41s1 :: []) ⟨mk 82 l, rows, low⟩ r ↔ Lc41l17 F cx (lk l 0) (lk l 1) (lk l 2) (lk l 8) (lk l 9) (lk l 10) (lk l 11) rows low r := loopN (keep := [0, 1, 2, 8, 9, 10, 11]) (by kernel_rfl)
@[simp] theorem ec41l17 : Ex F cx (.code (.loop c41l17) :: .inBlock 4 :: .code c41s16 :: .inBlock 3 :: .code c41k3 :: .inLoop c41l2 :: .inBlock 2 :: .code c41s1 :: []) ⟨mk 82 l, rows, low⟩ r ↔ Lc41l17 F cx (lk l 0) (lk l 1) (lk l 2) (lk l 8) (lk l 9) (lk l 10) (lk l 11) rows low r := loopE (keep := [0, 1, 2, 8, 9, 10, 11]) (by kernel_rfl)
@[simp] theorem uc41l17 : Ex F cx (.code c41l17 :: k) s r ↔ Ex F cx (.code (.seq (.seq c41k28 c41s27) c41s26) :: k) s r := Iff.rfl
def Jc41s33 (F : Nat → Option IFn) (cx : Ctx) (x0 x1 x2 x8 : AV) (rows : List Row) (low : Nat) (r : AV × List Row × Nat → Prop) : Prop := Ex F cx (.code c41s33 :: .inLoop c41l2 :: .inBlock 2 :: .code c41s1 :: []) ⟨mk 82 [(0, x0), (1, x1), (2, x2), (8, x8)], rows, low⟩ r
theorem jc41s33 : Ex F cx (.code c41s33 :: .inLoop c41l2 :: .inBlock 2 :: .code c41s1 :: []) ⟨mk 82 l, rows, low⟩ r ↔ Jc41s33 F cx (lk l 0) (lk l 1) (lk l 2) (lk l 8) rows low r := Ex_canon (keep := [0, 1, 2, 8]) (by kernel_rfl)
def Lc41l2 (F : Nat → Option IFn) (cx : Ctx) (x0 x1 x2 x8 : AV) (rows : List Row) (low : Nat) (r : AV × List Row × Nat → Prop) : Prop := Ex F cx (.code c41l2 :: .inLoop c41l2 :: .inBlock 2 :: .code c41s1 :: []) ⟨mk 82 [(0, x0), (1, x1), (2, x2), (8, x8)], rows, low⟩ r
@[simp] theorem nc41l2 : Ex F cx (.inLoop c41l2 :: .inBlock 2 :: .code c41s1 :: []) ⟨mk 82 l, rows, low⟩ r ↔ Lc41l2 F cx (lk l 0) (lk l 1) (lk l 2) (lk l 8) rows low r := loopN (keep := [0, 1, 2, 8]) (by kernel_rfl)
@[simp] theorem ec41l2 : Ex F cx (.code (.loop c41l2) :: .inBlock 2 :: .code c41s1 :: []) ⟨mk 82 l, rows, low⟩ r ↔ Lc41l2 F cx (lk l 0) (lk l 1) (lk l 2) (lk l 8) rows low r := loopE (keep := [0, 1, 2, 8]) (by kernel_rfl)
@[simp] theorem uc41l2 : Ex F cx (.code c41l2 :: k) s r ↔ Ex F cx (.code (.seq (.seq c41k35 c41s34) c41s33) :: k) s r := Iff.rfl
def Jc41s44 (F : Nat → Option IFn) (cx : Ctx) (x0 x1 x2 x7 : AV) (rows : List Row) (low : Nat) (r : AV × List Row × Nat → Prop) : Prop := Ex F cx (.code c41s44 :: .inLoop c41l39 :: .inBlock 0 :: .code c41s38 :: []) ⟨mk 82 [(0, x0), (1, x1), (2, x2), (7, x7)], rows, low⟩ r
theorem jc41s44 : Ex F cx (.code c41s44 :: .inLoop c41l39 :: .inBlock 0 :: .code c41s38 :: []) ⟨mk 82 l, rows, low⟩ r ↔ Jc41s44 F cx (lk l 0) (lk l 1) (lk l 2) (lk l 7) rows low r := Ex_canon (keep := [0, 1, 2, 7]) (by kernel_rfl)
def Lc41l39 (F : Nat → Option IFn) (cx : Ctx) (x0 x1 x2 x7 : AV) (rows : List Row) (low : Nat) (r : AV × List Row × Nat → Prop) : Prop := Ex F cx (.code c41l39 :: .inLoop c41l39 :: .inBlock 0 :: .code c41s38 :: []) ⟨mk 82 [(0, x0), (1, x1), (2, x2), (7, x7)], rows, low⟩ r
@[simp] theorem nc41l39 : Ex F cx (.inLoop c41l39 :: .inBlock 0 :: .code c41s38 :: []) ⟨mk 82 l, rows, low⟩ r ↔ Lc41l39 F cx (lk l 0) (lk l 1) (lk l 2) (lk l 7) rows low r := loopN (keep := [0, 1, 2, 7]) (by kernel_rfl)
@[simp] theorem ec41l39 : Ex F cx (.code (.loop c41l39) :: .inBlock 0 :: .code c41s38 :: []) ⟨mk 82 l, rows, low⟩ r ↔ Lc41l39 F cx (lk l 0) (lk l 1) (lk l 2) (lk l 7) rows low r := loopE (keep := [0, 1, 2, 7]) (by kernel_rfl)
@[simp] theorem uc41l39 : Ex F cx (.code c41l39 :: k) s r ↔ Ex F cx (.code (.seq (.seq c41k46 c41s45) c41s44) :: k) s r := Iff.rfl
def Jc41s49 (F : Nat → Option IFn) (cx : Ctx) (x0 x1 x2 : AV) (rows : List Row) (low : Nat) (r : AV × List Row × Nat → Prop) : Prop := Ex F cx (.code c41s49 :: []) ⟨mk 82 [(0, x0), (1, x1), (2, x2)], rows, low⟩ r
theorem jc41s49 : Ex F cx (.code c41s49 :: []) ⟨mk 82 l, rows, low⟩ r ↔ Jc41s49 F cx (lk l 0) (lk l 1) (lk l 2) rows low r := Ex_canon (keep := [0, 1, 2]) (by kernel_rfl)
def c41b : ICode := (.seq c41k54 c41s53)
@[simp] theorem uc41b : Ex F cx (.code c41b :: k) s r ↔ Ex F cx (.code (.seq c41k54 c41s53) :: k) s r := Iff.rfl
def c41 : IFn := ⟨82, [.t 6], c41b⟩
def h41 : List (Nat × List Nat) := [(0, dead 82 [0, 1, 2]), (1, dead 82 [0, 1, 2]), (2, dead 82 []), (3, dead 82 [0, 1, 2]), (4, dead 82 [0, 1, 2, 7]), (6, dead 82 [0, 1, 2, 7]), (7, dead 82 []), (5, dead 82 [0, 1, 2, 7]), (8, dead 82 [0, 1, 2]), (9, dead 82 [0, 1, 2, 8]), (11, dead 82 [0, 1, 2, 8]), (12, dead 82 [0, 1, 2, 8, 9, 10]), (13, dead 82 [0, 1, 2, 8, 9, 10, 11]), (15, dead 82 [0, 1, 2, 8, 9, 10, 11]), (16, dead 82 [0, 1, 2, 8, 9, 10, 11]), (17, dead 82 [0, 1, 2, 8, 9, 10, 11]), (18, dead 82 [0, 1, 2, 8, 9, 10, 11]), (14, dead 82 [0, 1, 2, 8, 9, 10, 11]), (19, dead 82 [0, 1, 2, 8, 9, 10]), (20, dead 82 [0, 1, 2, 8, 10, 12]), (21, dead 82 [0, 1, 2, 8, 10, 12, 13]), (23, dead 82 [0, 1, 2, 8, 10, 12, 13]), (24, dead 82 []), (22, dead 82 [0, 1, 2, 8, 10, 12, 13]), (10, dead 82 [0, 1, 2, 8]), (25, dead 82 [])]
theorem i41 {x0 x1 x2 : AV} (hF : F 41 = some c41) {q : AV × List Row × Option Nat} (h : Ex F (.fn [.t 6]) [.code c41b] ⟨mk 82 [(0, x0), (1, x1), (2, x2)], rows, rows.length⟩ fun r => fin rows r.1 r.2.1 r.2.2 = q) : Ret F 41 [x0, x1, x2] rows = some q := Ret_mk hF h
/-! tosher/search.Marks -/
def c42r0 : List Seg := [
  .one ⟨some 29, .load1 (.t 9), none⟩,
  .one ⟨some 4, .mv (.t 29), none⟩,
  .one ⟨some 5, .mv (.c (.int .i64 0)), none⟩]
def c42k0 : ICode := .kill (dead 30 [9]) (.ops c42r0)
@[simp] theorem uc42k0 : Ex F cx (.code c42k0 :: k) ⟨mk 30 l, rows, low⟩ r ↔ bnd (evP rows (.load1 (.c (lk l 9)))) fun v0 => Ex F cx k ⟨mk 30 [(5, (.int .i64 0)), (4, v0), (29, v0), (9, lk l 9)], rows, low⟩ r := reg (keep := [9]) (ops := c42r0) rfl (by kernel_rfl) (by kernel_rfl)
def c42s1 : ICode := (.seq c42k0 .ret)
@[simp] theorem uc42s1 : Ex F cx (.code c42s1 :: k) s r ↔ Ex F cx (.code (.seq c42k0 .ret) :: k) s r := Iff.rfl
def c42r2 : List Seg := [
  .grp [(⟨some 25, .load1 (.t 10), none⟩, 0), (⟨some 26, .load1 (.t 6), none⟩, 0), (⟨some 27, .call (.c (.func 78 [])) [(.t 26)], none⟩, 2)],
  .one ⟨some 28, .call (.t 25) [(.t 27)], none⟩]
def c42k2 : ICode := .kill (dead 30 [6, 9, 10]) (.ops c42r2)
@[simp] theorem uc42k2 : Ex F cx (.code c42k2 :: k) ⟨mk 30 l, rows, low⟩ r ↔ bnd (evP (rows ++ maskE 0 ([] : List (Nat × Row))) (.load1 (.c (lk l 10)))) fun v0 => bnd (evP (rows ++ maskE 0 ([] : List (Nat × Row))) (.load1 (.c (lk l 6)))) fun v1 => bnd (opC F (rows ++ maskE 2 ([] : List (Nat × Row))) (rows.length + ([] : List (Nat × Row)).length) [v1] (.func 78 [])) fun q2 => q2.2.2 = rows.length + ([] : List (Nat × Row)).length ∧ bnd (some (([] : List (Nat × Row)) ++ List.map (fun (x : Row) => (2, x)) (q2.2.1.drop (rows.length + ([] : List (Nat × Row)).length)))) fun e2 => callK F (rows ++ List.map (fun (x : Nat × Row) => x.2) e2) low [q2.1] (fun v3 R3 L3 => Ex F cx k ⟨mk 30 [(28, v3), (27, q2.1), (26, v1), (25, v0), (6, lk l 6), (9, lk l 9), (10, lk l 10)], R3, L3⟩ r) v0 := reg (keep := [6, 9, 10]) (ops := c42r2) rfl (by kernel_rfl) (by kernel_rfl)
def c42s3 : ICode := (.seq c42k2 c42s1)
@[simp] theorem uc42s3 : Ex F cx (.code c42s3 :: k) s r ↔ Ex F cx (.code (.seq c42k2 c42s1) :: k) s r := Iff.rfl
def c42r4 : List Seg := [
  .one ⟨some 24, .mkfn 74 [(.t 8), (.t 9), (.t 6), (.t 10)], none⟩,
  .one ⟨none, .store1 (.t 10) (.t 24), none⟩]
def c42k4 : ICode := .kill (dead 30 [6, 8, 9, 10]) (.ops c42r4)
@[simp] theorem uc42k4 : Ex F cx (.code c42k4 :: k) ⟨mk 30 l, rows, low⟩ r ↔ bnd (evP rows (.mkfn 74 [(.c (lk l 8)), (.c (lk l 9)), (.c (lk l 6)), (.c (lk l 10))])) fun v0 => bnd (evE rows low (.store1 (.c (lk l 10)) (.c v0))) fun q1 => Ex F cx k ⟨mk 30 [(24, v0), (6, lk l 6), (8, lk l 8), (9, lk l 9), (10, lk l 10)], q1.2.1, q1.2.2⟩ r := reg (keep := [6, 8, 9, 10]) (ops := c42r4) rfl (by kernel_rfl) (by kernel_rfl)
def c42s5 : ICode := (.seq c42k4 c42s3)
@[simp] theorem uc42s5 : Ex F cx (.code c42s5 :: k) s r ↔ Ex F cx (.code (.seq c42k4 c42s3) :: k) s r := Iff.rfl
def c42r6 : List Seg := [
  .one ⟨some 10, .box (.c .nilfunc), none⟩]
def c42k6 : ICode := .kill (dead 30 [6, 8, 9]) (.ops c42r6)
@[simp] theorem uc42k6 : Ex F cx (.code c42k6 :: k) ⟨mk 30 l, rows, low⟩ r ↔ bnd (evE rows low (.box (.c .nilfunc))) fun q0 => Ex F cx k ⟨mk 30 [(10, q0.1), (6, lk l 6), (8, lk l 8), (9, lk l 9)], q0.2.1, q0.2.2⟩ r := reg (keep := [6, 8, 9]) (ops := c42r6) rfl (by kernel_rfl) (by kernel_rfl)
def c42s7 : ICode := (.seq c42k6 c42s5)
@[simp] theorem uc42s7 : Ex F cx (.code c42s7 :: k) s r ↔ Ex F cx (.code (.seq c42k6 c42s5) :: k) s r := Iff.rfl
def c42r8 : List Seg := [
  .one ⟨some 22, .mv (.t 0), none⟩,
  .one ⟨some 23, .make [.int .i64 0] 8 (.t 22) (.t 22), none⟩,
  .one ⟨some 9, .box (.c .nilslice), none⟩,
  .one ⟨none, .store1 (.t 9) (.t 23), none⟩]
def c42k8 : ICode := .kill (dead 30 [0, 6, 8]) (.ops c42r8)
@[simp] theorem uc42k8 : Ex F cx (.code c42k8 :: k) ⟨mk 30 l, rows, low⟩ r ↔ bnd (evE rows low (.make [.int .i64 0] 8 (.c (lk l 0)) (.c (lk l 0)))) fun q0 => bnd (evE q0.2.1 q0.2.2 (.box (.c .nilslice))) fun q1 => bnd (evE q1.2.1 q1.2.2 (.store1 (.c q1.1) (.c q0.1))) fun q2 => Ex F cx k ⟨mk 30 [(9, q1.1), (23, q0.1), (22, lk l 0), (0, lk l 0), (6, lk l 6), (8, lk l 8)], q2.2.1, q2.2.2⟩ r := reg (keep := [0, 6, 8]) (ops := c42r8) rfl (by kernel_rfl) (by kernel_rfl)
def c42s9 : ICode := (.seq c42k8 c42s7)
@[simp] theorem uc42s9 : Ex F cx (.code c42s9 :: k) s r ↔ Ex F cx (.code (.seq c42k8 c42s7) :: k) s r := Iff.rfl
def c42r10 : List Seg := [
  .one ⟨some 20, .load1 (.t 6), none⟩,
  .one ⟨some 21, .call (.c (.func 73 [])) [(.t 20)], none⟩,
  .one ⟨some 8, .box (.c .nilptr), none⟩,
  .one ⟨none, .store1 (.t 8) (.t 21), none⟩]
def c42k10 : ICode := .kill (dead 30 [0, 6]) (.ops c42r10)
@[simp] theorem uc42k10 : Ex F cx (.code c42k10 :: k) ⟨mk 30 l, rows, low⟩ r ↔ bnd (evP rows (.load1 (.c (lk l 6)))) fun v0 => bnd (Ret F 73 [v0] rows) fun q1 => bnd (evE q1.2.1 (lowO low q1.2.2) (.box (.c .nilptr))) fun q2 => bnd (evE q2.2.1 q2.2.2 (.store1 (.c q2.1) (.c q1.1))) fun q3 => Ex F cx k ⟨mk 30 [(8, q2.1), (21, q1.1), (20, v0), (0, lk l 0), (6, lk l 6)], q3.2.1, q3.2.2⟩ r := reg (keep := [0, 6]) (ops := c42r10) rfl (by kernel_rfl) (by kernel_rfl)
def c42s11 : ICode := (.seq c42k10 c42s9)
@[simp] theorem uc42s11 : Ex F cx (.code c42s11 :: k) s r ↔ Ex F cx (.code (.seq c42k10 c42s9) :: k) s r := Iff.rfl
def c42r12 : List Seg := [
  .one ⟨some 19, .mv (.t 7), none⟩,
  .one ⟨some 4, .mv (.c .nilslice), none⟩,
  .one ⟨some 5, .mv (.t 19), none⟩]
def c42k12 : ICode := .kill (dead 30 [7]) (.ops c42r12)
@[simp] theorem uc42k12 : Ex F cx (.code c42k12 :: k) ⟨mk 30 l, rows, low⟩ r ↔ Ex F cx k ⟨mk 30 [(5, lk l 7), (4, .nilslice), (19, lk l 7), (7, lk l 7)], rows, low⟩ r := reg (keep := [7]) (ops := c42r12) rfl (by kernel_rfl) (by kernel_rfl)
def c42s13 : ICode := (.cond (.t 18) (.seq c42k12 .ret) .skip)
@[simp] theorem uc42s13 : Ex F cx (.code c42s13 :: k) s r ↔ Ex F cx (.code (.cond (.t 18) (.seq c42k12 .ret) .skip) :: k) s r := Iff.rfl
def c42r14 : List Seg := [
  .one ⟨some 17, .mv (.t 7), none⟩,
  .one ⟨some 18, .bin .neq (.t 17) (.c (.int .i64 0)), none⟩]
def c42k14 : ICode := .kill (dead 30 [0, 6, 7]) (.ops c42r14)
@[simp] theorem uc42k14 : Ex F cx (.code c42k14 :: k) ⟨mk 30 l, rows, low⟩ r ↔ bnd (evP rows (.bin .neq (.c (lk l 7)) (.c (.int .i64 0)))) fun v0 => Ex F cx k ⟨mk 30 [(18, v0), (17, lk l 7), (0, lk l 0), (6, lk l 6), (7, lk l 7)], rows, low⟩ r := reg (keep := [0, 6, 7]) (ops := c42r14) rfl (by kernel_rfl) (by kernel_rfl)
def c42s15 : ICode := (.seq (.seq c42k14 c42s13) c42s11)
@[simp] theorem uc42s15 : Ex F cx (.code c42s15 :: k) s r ↔ Ex F cx (.code (.seq (.seq c42k14 c42s13) c42s11) :: k) s r := Iff.rfl
def c42r16 : List Seg := [
  .one ⟨some 12, .mv (.t 0), none⟩,
  .one ⟨some 13, .mv (.t 1), none⟩,
  .one ⟨some 14, .call (.c (.func 68 [])) [(.t 12), (.t 13)], none⟩,
  .one ⟨some 11, .mv (.t 14), none⟩,
  .one ⟨some 15, .ext (.t 11) 0, none⟩,
  .one ⟨some 16, .ext (.t 11) 1, none⟩,
  .one ⟨some 6, .box (.c .nilptr), none⟩,
  .one ⟨none, .store1 (.t 6) (.t 15), none⟩,
  .one ⟨some 7, .mv (.t 16), none⟩]
def c42k16 : ICode := .kill (dead 30 [0, 1]) (.ops c42r16)
@[simp] theorem uc42k16 : Ex F cx (.code c42k16 :: k) ⟨mk 30 l, rows, low⟩ r ↔ bnd (Ret F 68 [lk l 0, lk l 1] rows) fun q0 => bnd (evP q0.2.1 (.ext (.c q0.1) 0)) fun v1 => bnd (evP q0.2.1 (.ext (.c q0.1) 1)) fun v2 => bnd (evE q0.2.1 (lowO low q0.2.2) (.box (.c .nilptr))) fun q3 => bnd (evE q3.2.1 q3.2.2 (.store1 (.c q3.1) (.c v1))) fun q4 => Ex F cx k ⟨mk 30 [(7, v2), (6, q3.1), (16, v2), (15, v1), (11, q0.1), (14, q0.1), (13, lk l 1), (12, lk l 0), (0, lk l 0), (1, lk l 1)], q4.2.1, q4.2.2⟩ r := reg (keep := [0, 1]) (ops := c42r16) rfl (by kernel_rfl) (by kernel_rfl)
def c42s17 : ICode := (.seq c42k16 c42s15)
@[simp] theorem uc42s17 : Ex F cx (.code c42s17 :: k) s r ↔ Ex F cx (.code (.seq c42k16 c42s15) :: k) s r := Iff.rfl
def c42r18 : List Seg := [
  .one ⟨some 4, .mv (.c .nilslice), none⟩,
  .one ⟨some 5, .mv (.c (.int .i64 0)), none⟩]
def c42k18 : ICode := .kill (dead 30 [0, 1]) (.ops c42r18)
@[simp] theorem uc42k18 : Ex F cx (.code c42k18 :: k) ⟨mk 30 l, rows, low⟩ r ↔ Ex F cx k ⟨mk 30 [(5, (.int .i64 0)), (4, .nilslice), (0, lk l 0), (1, lk l 1)], rows, low⟩ r := reg (keep := [0, 1]) (ops := c42r18) rfl (by kernel_rfl) (by kernel_rfl)
def Jc42s11 (F : Nat → Option IFn) (cx : Ctx) (x0 x6 : AV) (rows : List Row) (low : Nat) (r : AV × List Row × Nat → Prop) : Prop := Ex F cx (.code c42s11 :: []) ⟨mk 30 [(0, x0), (6, x6)], rows, low⟩ r
theorem jc42s11 : Ex F cx (.code c42s11 :: []) ⟨mk 30 l, rows, low⟩ r ↔ Jc42s11 F cx (lk l 0) (lk l 6) rows low r := Ex_canon (keep := [0, 6]) (by kernel_rfl)
def c42b : ICode := (.seq c42k18 c42s17)
@[simp] theorem uc42b : Ex F cx (.code c42b :: k) s r ↔ Ex F cx (.code (.seq c42k18 c42s17) :: k) s r := Iff.rfl
def c42 : IFn := ⟨30, [.t 4, .t 5], c42b⟩
def h42 : List (Nat × List Nat) := [(0, dead 30 [0, 1]), (1, dead 30 [0, 1]), (2, dead 30 [0, 6, 7]), (3, dead 30 [7]), (4, dead 30 [0, 6]), (5, dead 30 [0, 6, 8]), (6, dead 30 [6, 8, 9]), (7, dead 30 [6, 8, 9, 10]), (8, dead 30 [6, 9, 10]), (9, dead 30 [9])]
theorem i42 {x0 x1 : AV} (hF : F 42 = some c42) {q : AV × List Row × Option Nat} (h : Ex F (.fn [.t 4, .t 5]) [.code c42b] ⟨mk 30 [(0, x0), (1, x1)], rows, rows.length⟩ fun r => fin rows r.1 r.2.1 r.2.2 = q) : Ret F 42 [x0, x1] rows = some q := Ret_mk hF h
/-! tosher/search.IsPlan -/
def c43r0 : List Seg := [
  .one ⟨some 12, .mv (.t 1), none⟩,
  .one ⟨some 13, .mv (.t 0), none⟩,
  .one ⟨some 14, .call (.c (.func 60 [])) [(.t 13)], none⟩,
  .one ⟨some 15, .call (.c (.func 62 [])) [(.t 12), (.t 14), (.c (.func 79 []))], none⟩,
  .one ⟨some 4, .mv (.t 15), none⟩,
  .one ⟨some 5, .mv (.c (.int .i64 0)), none⟩]
def c43k0 : ICode := .kill (dead 16 [0, 1]) (.ops c43r0)
@[simp] theorem uc43k0 : Ex F cx (.code c43k0 :: k) ⟨mk 16 l, rows, low⟩ r ↔ bnd (Ret F 60 [lk l 0] rows) fun q0 => bnd (Ret F 62 [lk l 1, q0.1, (.func 79 [])] q0.2.1) fun q1 => Ex F cx k ⟨mk 16 [(5, (.int .i64 0)), (4, q1.1), (15, q1.1), (14, q0.1), (13, lk l 0), (12, lk l 1), (0, lk l 0), (1, lk l 1)], q1.2.1, (lowO (lowO low q0.2.2) q1.2.2)⟩ r := reg (keep := [0, 1]) (ops := c43r0) rfl (by kernel_rfl) (by kernel_rfl)
def c43s1 : ICode := (.seq c43k0 .ret)
@[simp] theorem uc43s1 : Ex F cx (.code c43s1 :: k) s r ↔ Ex F cx (.code (.seq c43k0 .ret) :: k) s r := Iff.rfl
def c43r2 : List Seg := [
  .one ⟨some 11, .mv (.t 6), none⟩,
  .one ⟨some 4, .mv (.c (.bool false)), none⟩,
  .one ⟨some 5, .mv (.t 11), none⟩]
def c43k2 : ICode := .kill (dead 16 [6]) (.ops c43r2)
@[simp] theorem uc43k2 : Ex F cx (.code c43k2 :: k) ⟨mk 16 l, rows, low⟩ r ↔ Ex F cx k ⟨mk 16 [(5, lk l 6), (4, (.bool false)), (11, lk l 6), (6, lk l 6)], rows, low⟩ r := reg (keep := [6]) (ops := c43r2) rfl (by kernel_rfl) (by kernel_rfl)
def c43s3 : ICode := (.cond (.t 10) (.seq c43k2 .ret) .skip)
@[simp] theorem uc43s3 : Ex F cx (.code c43s3 :: k) s r ↔ Ex F cx (.code (.cond (.t 10) (.seq c43k2 .ret) .skip) :: k) s r := Iff.rfl
def c43r4 : List Seg := [
  .one ⟨some 9, .mv (.t 6), none⟩,
  .one ⟨some 10, .bin .neq (.t 9) (.c (.int .i64 0)), none⟩]
def c43k4 : ICode := .kill (dead 16 [0, 1, 6]) (.ops c43r4)
@[simp] theorem uc43k4 : Ex F cx (.code c43k4 :: k) ⟨mk 16 l, rows, low⟩ r ↔ bnd (evP rows (.bin .neq (.c (lk l 6)) (.c (.int .i64 0)))) fun v0 => Ex F cx k ⟨mk 16 [(10, v0), (9, lk l 6), (0, lk l 0), (1, lk l 1), (6, lk l 6)], rows, low⟩ r := reg (keep := [0, 1, 6]) (ops := c43r4) rfl (by kernel_rfl) (by kernel_rfl)
def c43s5 : ICode := (.seq c43k4 c43s3)
@[simp] theorem uc43s5 : Ex F cx (.code c43s5 :: k) s r ↔ Ex F cx (.code (.seq c43k4 c43s3) :: k) s r := Iff.rfl
def c43r6 : List Seg := [
  .one ⟨some 7, .mv (.t 0), none⟩,
  .one ⟨some 8, .call (.c (.func 46 [])) [(.t 7)], none⟩,
  .one ⟨some 6, .mv (.t 8), none⟩]
def c43k6 : ICode := .kill (dead 16 [0, 1]) (.ops c43r6)
@[simp] theorem uc43k6 : Ex F cx (.code c43k6 :: k) ⟨mk 16 l, rows, low⟩ r ↔ bnd (Ret F 46 [lk l 0] rows) fun q0 => Ex F cx k ⟨mk 16 [(6, q0.1), (8, q0.1), (7, lk l 0), (0, lk l 0), (1, lk l 1)], q0.2.1, (lowO low q0.2.2)⟩ r := reg (keep := [0, 1]) (ops := c43r6) rfl (by kernel_rfl) (by kernel_rfl)
def c43s7 : ICode := (.seq (.seq c43k6 c43s5) c43s1)
@[simp] theorem uc43s7 : Ex F cx (.code c43s7 :: k) s r ↔ Ex F cx (.code (.seq (.seq c43k6 c43s5) c43s1) :: k) s r := Iff.rfl
def c43r8 : List Seg := [
  .one ⟨some 4, .mv (.c (.bool false)), none⟩,
  .one ⟨some 5, .mv (.c (.int .i64 0)), none⟩]
def c43k8 : ICode := .kill (dead 16 [0, 1]) (.ops c43r8)
@[simp] theorem uc43k8 : Ex F cx (.code c43k8 :: k) ⟨mk 16 l, rows, low⟩ r ↔ Ex F cx k ⟨mk 16 [(5, (.int .i64 0)), (4, (.bool false)), (0, lk l 0), (1, lk l 1)], rows, low⟩ r := reg (keep := [0, 1]) (ops := c43r8) rfl (by kernel_rfl) (by kernel_rfl)
def Jc43s1 (F : Nat → Option IFn) (cx : Ctx) (x0 x1 : AV) (rows : List Row) (low : Nat) (r : AV × List Row × Nat → Prop) : Prop := Ex F cx (.code c43s1 :: []) ⟨mk 16 [(0, x0), (1, x1)], rows, low⟩ r
theorem jc43s1 : Ex F cx (.code c43s1 :: []) ⟨mk 16 l, rows, low⟩ r ↔ Jc43s1 F cx (lk l 0) (lk l 1) rows low r := Ex_canon (keep := [0, 1]) (by kernel_rfl)
def c43b : ICode := (.seq c43k8 c43s7)
@[simp] theorem uc43b : Ex F cx (.code c43b :: k) s r ↔ Ex F cx (.code (.seq c43k8 c43s7) :: k) s r := Iff.rfl
def c43 : IFn := ⟨16, [.t 4, .t 5], c43b⟩
def h43 : List (Nat × List Nat) := [(0, dead 16 [0, 1]), (1, dead 16 [0, 1]), (2, dead 16 [0, 1, 6]), (3, dead 16 [6]), (4, dead 16 [0, 1])]
theorem i43 {x0 x1 : AV} (hF : F 43 = some c43) {q : AV × List Row × Option Nat} (h : Ex F (.fn [.t 4, .t 5]) [.code c43b] ⟨mk 16 [(0, x0), (1, x1)], rows, rows.length⟩ fun r => fin rows r.1 r.2.1 r.2.2 = q) : Ret F 43 [x0, x1] rows = some q := Ret_mk hF h
/-! tosher/search.PriceOf -/
def c44r0 : List Seg := [
  .one ⟨some 38, .mv (.t 9), none⟩,
  .one ⟨some 39, .call (.c (.func 67 [])) [(.t 38)], none⟩,
  .one ⟨some 6, .mv (.t 39), none⟩,
  .one ⟨some 7, .mv (.c (.int .i64 0)), none⟩]
def c44k0 : ICode := .kill (dead 40 [9]) (.ops c44r0)
@[simp] theorem uc44k0 : Ex F cx (.code c44k0 :: k) ⟨mk 40 l, rows, low⟩ r ↔ bnd (Ret F 67 [lk l 9] rows) fun q0 => Ex F cx k ⟨mk 40 [(7, (.int .i64 0)), (6, q0.1), (39, q0.1), (38, lk l 9), (9, lk l 9)], q0.2.1, (lowO low q0.2.2)⟩ r := reg (keep := [9]) (ops := c44r0) rfl (by kernel_rfl) (by kernel_rfl)
def c44s1 : ICode := (.seq c44k0 .ret)
@[simp] theorem uc44s1 : Ex F cx (.code c44s1 :: k) s r ↔ Ex F cx (.code (.seq c44k0 .ret) :: k) s r := Iff.rfl
def c44r3 : List Seg := [
  .one ⟨some 37, .bin .add (.t 25) (.c (.int .i64 1)), none⟩,
  .one ⟨some 25, .mv (.t 37), none⟩]
def c44k3 : ICode := .kill (dead 40 [9, 23, 24, 25]) (.ops c44r3)
@[simp] theorem uc44k3 : Ex F cx (.code c44k3 :: k) ⟨mk 40 l, rows, low⟩ r ↔ bnd (evP rows (.bin .add (.c (lk l 25)) (.c (.int .i64 1)))) fun v0 => Ex F cx k ⟨mk 40 [(25, v0), (37, v0), (9, lk l 9), (23, lk l 23), (24, lk l 24), (25, lk l 25)], rows, low⟩ r := reg (keep := [9, 23, 24, 25]) (ops := c44r3) rfl (by kernel_rfl) (by kernel_rfl)
def c44r4 : List Seg := [
  .one ⟨some 30, .mv (.t 9), none⟩,
  .one ⟨some 31, .mv (.t 10), none⟩,
  .one ⟨some 32, .idxS 1 (.t 30) (.t 31), none⟩,
  .one ⟨some 33, .load1 (.t 32), none⟩,
  .one ⟨some 34, .mv (.t 11), none⟩,
  .one ⟨some 35, .bin .mul (.t 33) (.t 34), none⟩,
  .one ⟨some 36, .idxS 1 (.t 30) (.t 31), none⟩,
  .one ⟨none, .store1 (.t 36) (.t 35), none⟩]
def c44k4 : ICode := .kill (dead 40 [9, 10, 11, 23, 24, 25]) (.ops c44r4)
@[simp] theorem uc44k4 : Ex F cx (.code c44k4 :: k) ⟨mk 40 l, rows, low⟩ r ↔ bnd (evP rows (.idxS 1 (.c (lk l 9)) (.c (lk l 10)))) fun v0 => bnd (evP rows (.load1 (.c v0))) fun v1 => bnd (evP rows (.bin .mul (.c v1) (.c (lk l 11)))) fun v2 => bnd (evP rows (.idxS 1 (.c (lk l 9)) (.c (lk l 10)))) fun v3 => bnd (evE rows low (.store1 (.c v3) (.c v2))) fun q4 => Ex F cx k ⟨mk 40 [(36, v3), (35, v2), (34, lk l 11), (33, v1), (32, v0), (31, lk l 10), (30, lk l 9), (9, lk l 9), (10, lk l 10), (11, lk l 11), (23, lk l 23), (24, lk l 24), (25, lk l 25)], q4.2.1, q4.2.2⟩ r := reg (keep := [9, 10, 11, 23, 24, 25]) (ops := c44r4) rfl (by kernel_rfl) (by kernel_rfl)
def c44r5 : List Seg := [
  .one ⟨some 27, .mv (.t 25), none⟩,
  .one ⟨some 28, .idxS 1 (.t 23) (.t 25), none⟩,
  .one ⟨some 29, .load1 (.t 28), none⟩,
  .one ⟨some 10, .mv (.t 27), none⟩,
  .one ⟨some 11, .mv (.t 29), none⟩]
def c44k5 : ICode := .kill (dead 40 [9, 23, 24, 25]) (.ops c44r5)
@[simp] theorem uc44k5 : Ex F cx (.code c44k5 :: k) ⟨mk 40 l, rows, low⟩ r ↔ bnd (evP rows (.idxS 1 (.c (lk l 23)) (.c (lk l 25)))) fun v0 => bnd (evP rows (.load1 (.c v0))) fun v1 => Ex F cx k ⟨mk 40 [(11, v1), (10, lk l 25), (29, v1), (28, v0), (27, lk l 25), (9, lk l 9), (23, lk l 23), (24, lk l 24), (25, lk l 25)], rows, low⟩ r := reg (keep := [9, 23, 24, 25]) (ops := c44r5) rfl (by kernel_rfl) (by kernel_rfl)
def c44s6 : ICode := (.seq (.block 1 (.seq c44k5 c44k4)) c44k3)
@[simp] theorem uc44s6 : Ex F cx (.code c44s6 :: k) s r ↔ Ex F cx (.code (.seq (.block 1 (.seq c44k5 c44k4)) c44k3) :: k) s r := Iff.rfl
def c44s7 : ICode := (.seq (.cond (.t 26) .skip (.exit 0)) c44s6)
@[simp] theorem uc44s7 : Ex F cx (.code c44s7 :: k) s r ↔ Ex F cx (.code (.seq (.cond (.t 26) .skip (.exit 0)) c44s6) :: k) s r := Iff.rfl
def c44r8 : List Seg := [
  .one ⟨some 26, .bin .lss (.t 25) (.t 24), none⟩]
def c44k8 : ICode := .kill (dead 40 [9, 23, 24, 25]) (.ops c44r8)
@[simp] theorem uc44k8 : Ex F cx (.code c44k8 :: k) ⟨mk 40 l, rows, low⟩ r ↔ bnd (evP rows (.bin .lss (.c (lk l 25)) (.c (lk l 24)))) fun v0 => Ex F cx k ⟨mk 40 [(26, v0), (9, lk l 9), (23, lk l 23), (24, lk l 24), (25, lk l 25)], rows, low⟩ r := reg (keep := [9, 23, 24, 25]) (ops := c44r8) rfl (by kernel_rfl) (by kernel_rfl)
def c44l2 : ICode := (.seq c44k8 c44s7)
def c44s9 : ICode := (.block 0 (.loop c44l2))
@[simp] theorem uc44s9 : Ex F cx (.code c44s9 :: k) s r ↔ Ex F cx (.code (.block 0 (.loop c44l2)) :: k) s r := Iff.rfl
def c44r10 : List Seg := [
  .one ⟨some 23, .mv (.t 1), none⟩,
  .one ⟨some 24, .len 0 (.t 23), none⟩,
  .one ⟨some 25, .mv (.c (.int .i64 0)), none⟩]
def c44k10 : ICode := .kill (dead 40 [1, 9]) (.ops c44r10)
@[simp] theorem uc44k10 : Ex F cx (.code c44k10 :: k) ⟨mk 40 l, rows, low⟩ r ↔ bnd (evP rows (.len 0 (.c (lk l 1)))) fun v0 => Ex F cx k ⟨mk 40 [(25, (.int .i64 0)), (24, v0), (23, lk l 1), (1, lk l 1), (9, lk l 9)], rows, low⟩ r := reg (keep := [1, 9]) (ops := c44r10) rfl (by kernel_rfl) (by kernel_rfl)
def c44s11 : ICode := (.seq (.seq c44k10 c44s9) c44s1)
@[simp] theorem uc44s11 : Ex F cx (.code c44s11 :: k) s r ↔ Ex F cx (.code (.seq (.seq c44k10 c44s9) c44s1) :: k) s r := Iff.rfl
def c44r12 : List Seg := [
  .one ⟨some 6, .mv (.c (.int .i64 0)), none⟩,
  .one ⟨some 7, .mv (.c (.int .i64 1)), none⟩]
def c44k12 : ICode := .kill (dead 40 []) (.ops c44r12)
@[simp] theorem uc44k12 : Ex F cx (.code c44k12 :: k) ⟨mk 40 l, rows, low⟩ r ↔ Ex F cx k ⟨mk 40 [(7, (.int .i64 1)), (6, (.int .i64 0))], rows, low⟩ r := reg (keep := []) (ops := c44r12) rfl (by kernel_rfl) (by kernel_rfl)
def c44s13 : ICode := (.cond (.t 22) (.seq c44k12 .ret) .skip)
@[simp] theorem uc44s13 : Ex F cx (.code c44s13 :: k) s r ↔ Ex F cx (.code (.cond (.t 22) (.seq c44k12 .ret) .skip) :: k) s r := Iff.rfl
def c44r14 : List Seg := [
  .one ⟨some 21, .mv (.t 9), none⟩,
  .one ⟨some 22, .eqv false .slice (.t 21) (.c .nilslice), none⟩]
def c44k14 : ICode := .kill (dead 40 [1, 9]) (.ops c44r14)
@[simp] theorem uc44k14 : Ex F cx (.code c44k14 :: k) ⟨mk 40 l, rows, low⟩ r ↔ bnd (evP rows (.eqv false .slice (.c (lk l 9)) (.c .nilslice))) fun v0 => Ex F cx k ⟨mk 40 [(22, v0), (21, lk l 9), (1, lk l 1), (9, lk l 9)], rows, low⟩ r := reg (keep := [1, 9]) (ops := c44r14) rfl (by kernel_rfl) (by kernel_rfl)
def c44s15 : ICode := (.seq (.seq c44k14 c44s13) c44s11)
@[simp] theorem uc44s15 : Ex F cx (.code c44s15 :: k) s r ↔ Ex F cx (.code (.seq (.seq c44k14 c44s13) c44s11) :: k) s r := Iff.rfl
def c44r16 : List Seg := [
  .one ⟨some 18, .mv (.t 0), none⟩,
  .one ⟨some 19, .mv (.t 2), none⟩,
  .one ⟨some 20, .call (.c (.func 61 [])) [(.t 18), (.t 19)], none⟩,
  .one ⟨some 9, .mv (.t 20), none⟩]
def c44k16 : ICode := .kill (dead 40 [0, 1, 2]) (.ops c44r16)
@[simp] theorem uc44k16 : Ex F cx (.code c44k16 :: k) ⟨mk 40 l, rows, low⟩ r ↔ bnd (Ret F 61 [lk l 0, lk l 2] rows) fun q0 => Ex F cx k ⟨mk 40 [(9, q0.1), (20, q0.1), (19, lk l 2), (18, lk l 0), (0, lk l 0), (1, lk l 1), (2, lk l 2)], q0.2.1, (lowO low q0.2.2)⟩ r := reg (keep := [0, 1, 2]) (ops := c44r16) rfl (by kernel_rfl) (by kernel_rfl)
def c44s17 : ICode := (.seq c44k16 c44s15)
@[simp] theorem uc44s17 : Ex F cx (.code c44s17 :: k) s r ↔ Ex F cx (.code (.seq c44k16 c44s15) :: k) s r := Iff.rfl
def c44r18 : List Seg := [
  .one ⟨some 17, .mv (.t 8), none⟩,
  .one ⟨some 6, .mv (.c (.int .i64 0)), none⟩,
  .one ⟨some 7, .mv (.t 17), none⟩]
def c44k18 : ICode := .kill (dead 40 [8]) (.ops c44r18)
@[simp] theorem uc44k18 : Ex F cx (.code c44k18 :: k) ⟨mk 40 l, rows, low⟩ r ↔ Ex F cx k ⟨mk 40 [(7, lk l 8), (6, (.int .i64 0)), (17, lk l 8), (8, lk l 8)], rows, low⟩ r := reg (keep := [8]) (ops := c44r18) rfl (by kernel_rfl) (by kernel_rfl)
def c44s19 : ICode := (.cond (.t 16) (.seq c44k18 .ret) .skip)
@[simp] theorem uc44s19 : Ex F cx (.code c44s19 :: k) s r ↔ Ex F cx (.code (.cond (.t 16) (.seq c44k18 .ret) .skip) :: k) s r := Iff.rfl
def c44r20 : List Seg := [
  .one ⟨some 15, .mv (.t 8), none⟩,
  .one ⟨some 16, .bin .neq (.t 15) (.c (.int .i64 0)), none⟩]
def c44k20 : ICode := .kill (dead 40 [0, 1, 2, 8]) (.ops c44r20)
@[simp] theorem uc44k20 : Ex F cx (.code c44k20 :: k) ⟨mk 40 l, rows, low⟩ r ↔ bnd (evP rows (.bin .neq (.c (lk l 8)) (.c (.int .i64 0)))) fun v0 => Ex F cx k ⟨mk 40 [(16, v0), (15, lk l 8), (0, lk l 0), (1, lk l 1), (2, lk l 2), (8, lk l 8)], rows, low⟩ r := reg (keep := [0, 1, 2, 8]) (ops := c44r20) rfl (by kernel_rfl) (by kernel_rfl)
def c44s21 : ICode := (.seq c44k20 c44s19)
@[simp] theorem uc44s21 : Ex F cx (.code c44s21 :: k) s r ↔ Ex F cx (.code (.seq c44k20 c44s19) :: k) s r := Iff.rfl
def c44r22 : List Seg := [
  .one ⟨some 12, .mv (.t 0), none⟩,
  .one ⟨some 13, .mv (.t 1), none⟩,
  .one ⟨some 14, .call (.c (.func 65 [])) [(.t 12), (.t 13)], none⟩,
  .one ⟨some 8, .mv (.t 14), none⟩]
def c44k22 : ICode := .kill (dead 40 [0, 1, 2]) (.ops c44r22)
@[simp] theorem uc44k22 : Ex F cx (.code c44k22 :: k) ⟨mk 40 l, rows, low⟩ r ↔ bnd (Ret F 65 [lk l 0, lk l 1] rows) fun q0 => Ex F cx k ⟨mk 40 [(8, q0.1), (14, q0.1), (13, lk l 1), (12, lk l 0), (0, lk l 0), (1, lk l 1), (2, lk l 2)], q0.2.1, (lowO low q0.2.2)⟩ r := reg (keep := [0, 1, 2]) (ops := c44r22) rfl (by kernel_rfl) (by kernel_rfl)
def c44s23 : ICode := (.seq (.seq c44k22 c44s21) c44s17)
@[simp] theorem uc44s23 : Ex F cx (.code c44s23 :: k) s r ↔ Ex F cx (.code (.seq (.seq c44k22 c44s21) c44s17) :: k) s r := Iff.rfl
def c44r24 : List Seg := [
  .one ⟨some 6, .mv (.c (.int .i64 0)), none⟩,
  .one ⟨some 7, .mv (.c (.int .i64 0)), none⟩]
def c44k24 : ICode := .kill (dead 40 [0, 1, 2]) (.ops c44r24)
@[simp] theorem uc44k24 : Ex F cx (.code c44k24 :: k) ⟨mk 40 l, rows, low⟩ r ↔ Ex F cx k ⟨mk 40 [(7, (.int .i64 0)), (6, (.int .i64 0)), (0, lk l 0), (1, lk l 1), (2, lk l 2)], rows, low⟩ r := reg (keep := [0, 1, 2]) (ops := c44r24) rfl (by kernel_rfl) (by kernel_rfl)
def Jc44s6 (F : Nat → Option IFn) (cx : Ctx) (x9 x23 x24 x25 : AV) (rows : List Row) (low : Nat) (r : AV × List Row × Nat → Prop) : Prop := Ex F cx (.code c44s6 :: .inLoop c44l2 :: .inBlock 0 :: .code c44s1 :: []) ⟨mk 40 [(9, x9), (23, x23), (24, x24), (25, x25)], rows, low⟩ r
theorem jc44s6 : Ex F cx (.code c44s6 :: .inLoop c44l2 :: .inBlock 0 :: .code c44s1 :: []) ⟨mk 40 l, rows, low⟩ r ↔ Jc44s6 F cx (lk l 9) (lk l 23) (lk l 24) (lk l 25) rows low r := Ex_canon (keep := [9, 23, 24, 25]) (by kernel_rfl)
def Lc44l2 (F : Nat → Option IFn) (cx : Ctx) (x9 x23 x24 x25 : AV) (rows : List Row) (low : Nat) (r : AV × List Row × Nat → Prop) : Prop := Ex F cx (.code c44l2 :: .inLoop c44l2 :: .inBlock 0 :: .code c44s1 :: []) ⟨mk 40 [(9, x9), (23, x23), (24, x24), (25, x25)], rows, low⟩ r
@[simp] theorem nc44l2 : Ex F cx (.inLoop c44l2 :: .inBlock 0 :: .code c44s1 :: []) ⟨mk 40 l, rows, low⟩ r ↔ Lc44l2 F cx (lk l 9) (lk l 23) (lk l 24) (lk l 25) rows low r := loopN (keep := [9, 23, 24, 25]) (by kernel_rfl)
@[simp] theorem ec44l2 : Ex F cx (.code (.loop c44l2) :: .inBlock 0 :: .code c44s1 :: []) ⟨mk 40 l, rows, low⟩ r ↔ Lc44l2 F cx (lk l 9) (lk l 23) (lk l 24) (lk l 25) rows low r := loopE (keep := [9, 23, 24, 25]) (by kernel_rfl)
@[simp] theorem uc44l2 : Ex F cx (.code c44l2 :: k) s r ↔ Ex F cx (.code (.seq c44k8 c44s7) :: k) s r := Iff.rfl
def Jc44s11 (F : Nat → Option IFn) (cx : Ctx) (x1 x9 : AV) (rows : List Row) (low : Nat) (r : AV × List Row × Nat → Prop) : Prop := Ex F cx (.code c44s11 :: []) ⟨mk 40 [(1, x1), (9, x9)], rows, low⟩ r
theorem jc44s11 : Ex F cx (.code c44s11 :: []) ⟨mk 40 l, rows, low⟩ r ↔ Jc44s11 F cx (lk l 1) (lk l 9) rows low r := Ex_canon (keep := [1, 9]) (by kernel_rfl)
def Jc44s17 (F : Nat → Option IFn) (cx : Ctx) (x0 x1 x2 : AV) (rows : List Row) (low : Nat) (r : AV × List Row × Nat → Prop) : Prop := Ex F cx (.code c44s17 :: []) ⟨mk 40 [(0, x0), (1, x1), (2, x2)], rows, low⟩ r
theorem jc44s17 : Ex F cx (.code c44s17 :: []) ⟨mk 40 l, rows, low⟩ r ↔ Jc44s17 F cx (lk l 0) (lk l 1) (lk l 2) rows low r := Ex_canon (keep := [0, 1, 2]) (by kernel_rfl)
def c44b : ICode := (.seq c44k24 c44s23)
@[simp] theorem uc44b : Ex F cx (.code c44b :: k) s r ↔ Ex F cx (.code (.seq c44k24 c44s23) :: k) s r := Iff.rfl
def c44 : IFn := ⟨40, [.t 6, .t 7], c44b⟩
def h44 : List (Nat × List Nat) := [(0, dead 40 [0, 1, 2]), (1, dead 40 [0, 1, 2]), (2, dead 40 [0, 1, 2, 8]), (3, dead 40 [8]), (4, dead 40 [0, 1, 2]), (5, dead 40 [1, 9]), (6, dead 40 []), (7, dead 40 [1, 9]), (8, dead 40 [9, 23, 24, 25]), (9, dead 40 [9, 23, 24, 25]), (10, dead 40 [9, 10, 11, 23, 24, 25]), (11, dead 40 [9, 23, 24, 25]), (12, dead 40 [9])]
theorem i44 {x0 x1 x2 : AV} (hF : F 44 = some c44) {q : AV × List Row × Option Nat} (h : Ex F (.fn [.t 6, .t 7]) [.code c44b] ⟨mk 40 [(0, x0), (1, x1), (2, x2)], rows, rows.length⟩ fun r => fin rows r.1 r.2.1 r.2.2 = q) : Ret F 44 [x0, x1, x2] rows = some q := Ret_mk hF h
/-! tosher/tosherref08.Costs -/
def c45r0 : List Seg := [
  .one ⟨some 22, .mv (.t 0), none⟩,
  .one ⟨some 23, .len 0 (.t 22), none⟩,
  .one ⟨some 24, .bin .leq (.t 23) (.c (.int .i64 12)), none⟩,
  .one ⟨some 2, .mv (.t 24), none⟩]
def c45k0 : ICode := .kill (dead 25 [0]) (.ops c45r0)
@[simp] theorem uc45k0 : Ex F cx (.code c45k0 :: k) ⟨mk 25 l, rows, low⟩ r ↔ bnd (evP rows (.len 0 (.c (lk l 0)))) fun v0 => bnd (evP rows (.bin .leq (.c v0) (.c (.int .i64 12)))) fun v1 => Ex F cx k ⟨mk 25 [(2, v1), (24, v1), (23, v0), (22, lk l 0), (0, lk l 0)], rows, low⟩ r := reg (keep := [0]) (ops := c45r0) rfl (by kernel_rfl) (by kernel_rfl)
def c45s1 : ICode := (.seq c45k0 .ret)
@[simp] theorem uc45s1 : Ex F cx (.code c45s1 :: k) s r ↔ Ex F cx (.code (.seq c45k0 .ret) :: k) s r := Iff.rfl
def c45r3 : List Seg := [
  .one ⟨some 8, .mv (.t 3), none⟩,
  .one ⟨some 9, .bin .add (.t 8) (.c (.int .i64 1)), none⟩,
  .one ⟨some 3, .mv (.t 9), none⟩]
def c45k3 : ICode := .kill (dead 25 [0, 3]) (.ops c45r3)
@[simp] theorem uc45k3 : Ex F cx (.code c45k3 :: k) ⟨mk 25 l, rows, low⟩ r ↔ bnd (evP rows (.bin .add (.c (lk l 3)) (.c (.int .i64 1)))) fun v0 => Ex F cx k ⟨mk 25 [(3, v0), (9, v0), (8, lk l 3), (0, lk l 0), (3, lk l 3)], rows, low⟩ r := reg (keep := [0, 3]) (ops := c45r3) rfl (by kernel_rfl) (by kernel_rfl)
def c45r4 : List Seg := [
  .one ⟨some 2, .mv (.c (.bool false)), none⟩]
def c45k4 : ICode := .kill (dead 25 []) (.ops c45r4)
@[simp] theorem uc45k4 : Ex F cx (.code c45k4 :: k) ⟨mk 25 l, rows, low⟩ r ↔ Ex F cx k ⟨mk 25 [(2, (.bool false))], rows, low⟩ r := reg (keep := []) (ops := c45r4) rfl (by kernel_rfl) (by kernel_rfl)
def c45s5 : ICode := (.cond (.t 21) (.seq c45k4 .ret) .skip)
@[simp] theorem uc45s5 : Ex F cx (.code c45s5 :: k) s r ↔ Ex F cx (.code (.cond (.t 21) (.seq c45k4 .ret) .skip) :: k) s r := Iff.rfl
def c45r6 : List Seg := [
  .one ⟨some 10, .mv (.t 0), none⟩,
  .one ⟨some 11, .mv (.t 3), none⟩,
  .one ⟨some 12, .idxS 1 (.t 10) (.t 11), none⟩,
  .one ⟨some 13, .load1 (.t 12), none⟩,
  .one ⟨some 14, .bin .lss (.t 13) (.c (.int .i64 1)), none⟩,
  .one ⟨some 15, .mv (.t 14), none⟩,
  .one ⟨some 16, .mv (.t 0), some (15, false)⟩,
  .one ⟨some 17, .mv (.t 3), some (15, false)⟩,
  .one ⟨some 18, .idxS 1 (.t 16) (.t 17), some (15, false)⟩,
  .one ⟨some 19, .load1 (.t 18), some (15, false)⟩,
  .one ⟨some 20, .bin .gtr (.t 19) (.c (.int .i64 1000)), some (15, false)⟩,
  .one ⟨some 21, .pick (.t 15) (.c (.bool true)) (.t 20), none⟩]
def c45k6 : ICode := .kill (dead 25 [0, 3]) (.ops c45r6)
@[simp] theorem uc45k6 : Ex F cx (.code c45k6 :: k) ⟨mk 25 l, rows, low⟩ r ↔ bnd (evP rows (.idxS 1 (.c (lk l 0)) (.c (lk l 3)))) fun v0 => bnd (evP rows (.load1 (.c v0))) fun v1 => bnd (evP rows (.bin .lss (.c v1) (.c (.int .i64 1)))) fun v2 => bnd (gv v2 false (evP rows (.mv (.c (lk l 0))))) fun v3 => bnd (gv v2 false (evP rows (.mv (.c (lk l 3))))) fun v4 => bnd (gv v2 false (evP rows (.idxS 1 (.c v3) (.c v4)))) fun v5 => bnd (gv v2 false (evP rows (.load1 (.c v5)))) fun v6 => bnd (gv v2 false (evP rows (.bin .gtr (.c v6) (.c (.int .i64 1000))))) fun v7 => bnd (evP rows (.pick (.c v2) (.c (.bool true)) (.c v7))) fun v8 => Ex F cx k ⟨mk 25 [(21, v8), (20, v7), (19, v6), (18, v5), (17, v4), (16, v3), (15, v2), (14, v2), (13, v1), (12, v0), (11, lk l 3), (10, lk l 0), (0, lk l 0), (3, lk l 3)], rows, low⟩ r := reg (keep := [0, 3]) (ops := c45r6) rfl (by kernel_rfl) (by kernel_rfl)
def c45s7 : ICode := (.seq (.block 1 (.seq c45k6 c45s5)) c45k3)
@[simp] theorem uc45s7 : Ex F cx (.code c45s7 :: k) s r ↔ Ex F cx (.code (.seq (.block 1 (.seq c45k6 c45s5)) c45k3) :: k) s r := Iff.rfl
def c45s8 : ICode := (.cond (.t 7) .skip (.exit 0))
@[simp] theorem uc45s8 : Ex F cx (.code c45s8 :: k) s r ↔ Ex F cx (.code (.cond (.t 7) .skip (.exit 0)) :: k) s r := Iff.rfl
def c45r9 : List Seg := [
  .one ⟨some 4, .mv (.t 3), none⟩,
  .one ⟨some 5, .mv (.t 0), none⟩,
  .one ⟨some 6, .len 0 (.t 5), none⟩,
  .one ⟨some 7, .bin .lss (.t 4) (.t 6), none⟩]
def c45k9 : ICode := .kill (dead 25 [0, 3]) (.ops c45r9)
@[simp] theorem uc45k9 : Ex F cx (.code c45k9 :: k) ⟨mk 25 l, rows, low⟩ r ↔ bnd (evP rows (.len 0 (.c (lk l 0)))) fun v0 => bnd (evP rows (.bin .lss (.c (lk l 3)) (.c v0))) fun v1 => Ex F cx k ⟨mk 25 [(7, v1), (6, v0), (5, lk l 0), (4, lk l 3), (0, lk l 0), (3, lk l 3)], rows, low⟩ r := reg (keep := [0, 3]) (ops := c45r9) rfl (by kernel_rfl) (by kernel_rfl)
def c45l2 : ICode := (.seq (.seq c45k9 c45s8) c45s7)
def c45s10 : ICode := (.block 0 (.loop c45l2))
@[simp] theorem uc45s10 : Ex F cx (.code c45s10 :: k) s r ↔ Ex F cx (.code (.block 0 (.loop c45l2)) :: k) s r := Iff.rfl
def c45r11 : List Seg := [
  .one ⟨some 3, .mv (.c (.int .i64 0)), none⟩]
def c45k11 : ICode := .kill (dead 25 [0]) (.ops c45r11)
@[simp] theorem uc45k11 : Ex F cx (.code c45k11 :: k) ⟨mk 25 l, rows, low⟩ r ↔ Ex F cx k ⟨mk 25 [(3, (.int .i64 0)), (0, lk l 0)], rows, low⟩ r := reg (keep := [0]) (ops := c45r11) rfl (by kernel_rfl) (by kernel_rfl)
def c45s12 : ICode := (.seq (.seq c45k11 c45s10) c45s1)
@[simp] theorem uc45s12 : Ex F cx (.code c45s12 :: k) s r ↔ Ex F cx (.code (.seq (.seq c45k11 c45s10) c45s1) :: k) s r := Iff.rfl
def c45r13 : List Seg := [
  .one ⟨some 2, .mv (.c (.bool false)), none⟩]
def c45k13 : ICode := .kill (dead 25 [0]) (.ops c45r13)
@[simp] theorem uc45k13 : Ex F cx (.code c45k13 :: k) ⟨mk 25 l, rows, low⟩ r ↔ Ex F cx k ⟨mk 25 [(2, (.bool false)), (0, lk l 0)], rows, low⟩ r := reg (keep := [0]) (ops := c45r13) rfl (by kernel_rfl) (by kernel_rfl)
def Jc45s7 (F : Nat → Option IFn) (cx : Ctx) (x0 x3 : AV) (rows : List Row) (low : Nat) (r : AV × List Row × Nat → Prop) : Prop := Ex F cx (.code c45s7 :: .inLoop c45l2 :: .inBlock 0 :: .code c45s1 :: []) ⟨mk 25 [(0, x0), (3, x3)], rows, low⟩ r
theorem jc45s7 : Ex F cx (.code c45s7 :: .inLoop c45l2 :: .inBlock 0 :: .code c45s1 :: []) ⟨mk 25 l, rows, low⟩ r ↔ Jc45s7 F cx (lk l 0) (lk l 3) rows low r := Ex_canon (keep := [0, 3]) (by kernel_rfl)
def Lc45l2 (F : Nat → Option IFn) (cx : Ctx) (x0 x3 : AV) (rows : List Row) (low : Nat) (r : AV × List Row × Nat → Prop) : Prop := Ex F cx (.code c45l2 :: .inLoop c45l2 :: .inBlock 0 :: .code c45s1 :: []) ⟨mk 25 [(0, x0), (3, x3)], rows, low⟩ r
@[simp] theorem nc45l2 : Ex F cx (.inLoop c45l2 :: .inBlock 0 :: .code c45s1 :: []) ⟨mk 25 l, rows, low⟩ r ↔ Lc45l2 F cx (lk l 0) (lk l 3) rows low r := loopN (keep := [0, 3]) (by kernel_rfl)
@[simp] theorem ec45l2 : Ex F cx (.code (.loop c45l2) :: .inBlock 0 :: .code c45s1 :: []) ⟨mk 25 l, rows, low⟩ r ↔ Lc45l2 F cx (lk l 0) (lk l 3) rows low r := loopE (keep := [0, 3]) (by kernel_rfl)
@[simp] theorem uc45l2 : Ex F cx (.code c45l2 :: k) s r ↔ Ex F cx (.code (.seq (.seq c45k9 c45s8) c45s7) :: k) s r := Iff.rfl
def c45b : ICode := (.seq c45k13 c45s12)
@[simp] theorem uc45b : Ex F cx (.code c45b :: k) s r ↔ Ex F cx (.code (.seq c45k13 c45s12) :: k) s r := Iff.rfl
def c45 : IFn := ⟨25, [.t 2], c45b⟩
def h45 : List (Nat × List Nat) := [(0, dead 25 [0]), (1, dead 25 [0]), (2, dead 25 [0, 3]), (4, dead 25 [0, 3]), (5, dead 25 []), (3, dead 25 [0, 3]), (6, dead 25 [0])]
theorem i45 {x0 : AV} (hF : F 45 = some c45) {q : AV × List Row × Option Nat} (h : Ex F (.fn [.t 2]) [.code c45b] ⟨mk 25 [(0, x0)], rows, rows.length⟩ fun r => fin rows r.1 r.2.1 r.2.2 = q) : Ret F 45 [x0] rows = some q := Ret_mk hF h
end Go.Abs
