/- The evaluator's code of a law. -/
import Derived.Test.YtiejbjajbehcfaaDoorA27
import Derived.KernelRfl
set_option linter.unusedVariables false
set_option maxRecDepth 20000
set_option maxHeartbeats 4000000
namespace Go.Abs
variable {F : Nat → Option IFn} {cx : Ctx} {k : List Itm} {s : St} {l : List (Nat × AV)} {rows : List Row} {low : Nat} {r : AV × List Row × Nat → Prop}
/-! tosher/tosherlaw08.SearchLamps -/
def c3r0 : List Seg := [
  .one ⟨some 178, .call (.c (.func 22 [])) [], none⟩,
  .one ⟨some 6, .mv (.t 178), none⟩]
def c3k0 : ICode := .kill (dead 179 []) (.ops c3r0)
@[simp] theorem uc3k0 : Ex F cx (.code c3k0 :: k) ⟨mk 179 l, rows, low⟩ r ↔ bnd (Ret F 22 [] rows) fun q0 => Ex F cx k ⟨mk 179 [(6, q0.1), (178, q0.1)], q0.2.1, (lowO low q0.2.2)⟩ r := reg (keep := []) (ops := c3r0) rfl (by kernel_rfl) (by kernel_rfl)
def c3s1 : ICode := (.seq c3k0 .ret)
@[simp] theorem uc3s1 : Ex F cx (.code c3s1 :: k) s r ↔ Ex F cx (.code (.seq c3k0 .ret) :: k) s r := Iff.rfl
def c3r3 : List Seg := [
  .one ⟨some 17, .mv (.t 7), none⟩,
  .one ⟨some 18, .bin .add (.t 17) (.c (.int .i64 1)), none⟩,
  .one ⟨some 7, .mv (.t 18), none⟩]
def c3k3 : ICode := .kill (dead 179 [0, 1, 2, 7]) (.ops c3r3)
@[simp] theorem uc3k3 : Ex F cx (.code c3k3 :: k) ⟨mk 179 l, rows, low⟩ r ↔ bnd (evP rows (.bin .add (.c (lk l 7)) (.c (.int .i64 1)))) fun v0 => Ex F cx k ⟨mk 179 [(7, v0), (18, v0), (17, lk l 7), (0, lk l 0), (1, lk l 1), (2, lk l 2), (7, lk l 7)], rows, low⟩ r := reg (keep := [0, 1, 2, 7]) (ops := c3r3) rfl (by kernel_rfl) (by kernel_rfl)
def c3r4 : List Seg := [
  .one ⟨some 176, .mv (.t 2), none⟩,
  .one ⟨some 177, .bin .rem (.t 176) (.c (.int .i64 2000)), none⟩,
  .one ⟨some 2, .mv (.t 177), none⟩]
def c3k4 : ICode := .kill (dead 179 [0, 1, 2, 7]) (.ops c3r4)
@[simp] theorem uc3k4 : Ex F cx (.code c3k4 :: k) ⟨mk 179 l, rows, low⟩ r ↔ bnd (evP rows (.bin .rem (.c (lk l 2)) (.c (.int .i64 2000)))) fun v0 => Ex F cx k ⟨mk 179 [(2, v0), (177, v0), (176, lk l 2), (0, lk l 0), (1, lk l 1), (2, lk l 2), (7, lk l 7)], rows, low⟩ r := reg (keep := [0, 1, 2, 7]) (ops := c3r4) rfl (by kernel_rfl) (by kernel_rfl)
def c3s5 : ICode := (.cond (.t 175) c3k4 .skip)
@[simp] theorem uc3s5 : Ex F cx (.code c3s5 :: k) s r ↔ Ex F cx (.code (.cond (.t 175) c3k4 .skip) :: k) s r := Iff.rfl
def c3r6 : List Seg := [
  .one ⟨some 173, .mv (.t 1), none⟩,
  .one ⟨some 174, .bin .rem (.t 173) (.c (.int .i64 2)), none⟩,
  .one ⟨some 175, .bin .eql (.t 174) (.c (.int .i64 0)), none⟩]
def c3k6 : ICode := .kill (dead 179 [0, 1, 2, 7]) (.ops c3r6)
@[simp] theorem uc3k6 : Ex F cx (.code c3k6 :: k) ⟨mk 179 l, rows, low⟩ r ↔ bnd (evP rows (.bin .rem (.c (lk l 1)) (.c (.int .i64 2)))) fun v0 => bnd (evP rows (.bin .eql (.c v0) (.c (.int .i64 0)))) fun v1 => Ex F cx k ⟨mk 179 [(175, v1), (174, v0), (173, lk l 1), (0, lk l 0), (1, lk l 1), (2, lk l 2), (7, lk l 7)], rows, low⟩ r := reg (keep := [0, 1, 2, 7]) (ops := c3r6) rfl (by kernel_rfl) (by kernel_rfl)
def c3s7 : ICode := (.seq c3k6 c3s5)
@[simp] theorem uc3s7 : Ex F cx (.code c3s7 :: k) s r ↔ Ex F cx (.code (.seq c3k6 c3s5) :: k) s r := Iff.rfl
def c3r8 : List Seg := [
  .one ⟨some 169, .mv (.t 2), none⟩,
  .one ⟨some 170, .conv .u64 (.t 169), none⟩,
  .one ⟨some 171, .bin .rem (.t 170) (.c (.int .u64 1000000000001)), none⟩,
  .one ⟨some 172, .conv .i64 (.t 171), none⟩,
  .one ⟨some 2, .mv (.t 172), none⟩]
def c3k8 : ICode := .kill (dead 179 [0, 1, 2, 7]) (.ops c3r8)
@[simp] theorem uc3k8 : Ex F cx (.code c3k8 :: k) ⟨mk 179 l, rows, low⟩ r ↔ bnd (evP rows (.conv .u64 (.c (lk l 2)))) fun v0 => bnd (evP rows (.bin .rem (.c v0) (.c (.int .u64 1000000000001)))) fun v1 => bnd (evP rows (.conv .i64 (.c v1))) fun v2 => Ex F cx k ⟨mk 179 [(2, v2), (172, v2), (171, v1), (170, v0), (169, lk l 2), (0, lk l 0), (1, lk l 1), (2, lk l 2), (7, lk l 7)], rows, low⟩ r := reg (keep := [0, 1, 2, 7]) (ops := c3r8) rfl (by kernel_rfl) (by kernel_rfl)
def c3s9 : ICode := (.seq c3k8 c3s7)
@[simp] theorem uc3s9 : Ex F cx (.code c3s9 :: k) s r ↔ Ex F cx (.code (.seq c3k8 c3s7) :: k) s r := Iff.rfl
def c3r10 : List Seg := [
  .one ⟨some 165, .mv (.t 1), none⟩,
  .one ⟨some 166, .conv .u64 (.t 165), none⟩,
  .one ⟨some 167, .bin .rem (.t 166) (.c (.int .u64 61)), none⟩,
  .one ⟨some 168, .conv .i64 (.t 167), none⟩,
  .one ⟨some 1, .mv (.t 168), none⟩]
def c3k10 : ICode := .kill (dead 179 [0, 1, 2, 7]) (.ops c3r10)
@[simp] theorem uc3k10 : Ex F cx (.code c3k10 :: k) ⟨mk 179 l, rows, low⟩ r ↔ bnd (evP rows (.conv .u64 (.c (lk l 1)))) fun v0 => bnd (evP rows (.bin .rem (.c v0) (.c (.int .u64 61)))) fun v1 => bnd (evP rows (.conv .i64 (.c v1))) fun v2 => Ex F cx k ⟨mk 179 [(1, v2), (168, v2), (167, v1), (166, v0), (165, lk l 1), (0, lk l 0), (1, lk l 1), (2, lk l 2), (7, lk l 7)], rows, low⟩ r := reg (keep := [0, 1, 2, 7]) (ops := c3r10) rfl (by kernel_rfl) (by kernel_rfl)
def c3s11 : ICode := (.seq c3k10 c3s9)
@[simp] theorem uc3s11 : Ex F cx (.code c3s11 :: k) s r ↔ Ex F cx (.code (.seq c3k10 c3s9) :: k) s r := Iff.rfl
def c3r12 : List Seg := [
  .one ⟨some 160, .mv (.t 0), none⟩,
  .one ⟨some 161, .conv .u64 (.t 160), none⟩,
  .one ⟨some 162, .bin .rem (.t 161) (.c (.int .u64 20)), none⟩,
  .one ⟨some 163, .conv .i64 (.t 162), none⟩,
  .one ⟨some 164, .bin .add (.c (.int .i64 1)) (.t 163), none⟩,
  .one ⟨some 0, .mv (.t 164), none⟩]
def c3k12 : ICode := .kill (dead 179 [0, 1, 2, 7]) (.ops c3r12)
@[simp] theorem uc3k12 : Ex F cx (.code c3k12 :: k) ⟨mk 179 l, rows, low⟩ r ↔ bnd (evP rows (.conv .u64 (.c (lk l 0)))) fun v0 => bnd (evP rows (.bin .rem (.c v0) (.c (.int .u64 20)))) fun v1 => bnd (evP rows (.conv .i64 (.c v1))) fun v2 => bnd (evP rows (.bin .add (.c (.int .i64 1)) (.c v2))) fun v3 => Ex F cx k ⟨mk 179 [(0, v3), (164, v3), (163, v2), (162, v1), (161, v0), (160, lk l 0), (0, lk l 0), (1, lk l 1), (2, lk l 2), (7, lk l 7)], rows, low⟩ r := reg (keep := [0, 1, 2, 7]) (ops := c3r12) rfl (by kernel_rfl) (by kernel_rfl)
def c3s13 : ICode := (.seq c3k12 c3s11)
@[simp] theorem uc3s13 : Ex F cx (.code c3s13 :: k) s r ↔ Ex F cx (.code (.seq c3k12 c3s11) :: k) s r := Iff.rfl
def c3r14 : List Seg := [
  .one ⟨some 6, .mv (.c (.bool false)), none⟩]
def c3k14 : ICode := .kill (dead 179 []) (.ops c3r14)
@[simp] theorem uc3k14 : Ex F cx (.code c3k14 :: k) ⟨mk 179 l, rows, low⟩ r ↔ Ex F cx k ⟨mk 179 [(6, (.bool false))], rows, low⟩ r := reg (keep := []) (ops := c3r14) rfl (by kernel_rfl) (by kernel_rfl)
def c3s15 : ICode := (.cond (.t 93) (.seq c3k14 .ret) .skip)
@[simp] theorem uc3s15 : Ex F cx (.code c3s15 :: k) s r ↔ Ex F cx (.code (.cond (.t 93) (.seq c3k14 .ret) .skip) :: k) s r := Iff.rfl
def c3r16 : List Seg := [
  .one ⟨some 80, .mv (.t 11), none⟩,
  .one ⟨some 81, .bin .neq (.t 80) (.c (.int .i64 1)), none⟩,
  .one ⟨some 82, .mv (.t 81), none⟩,
  .one ⟨some 83, .mv (.t 13), some (82, false)⟩,
  .one ⟨some 84, .bin .neq (.t 83) (.c (.int .i64 1)), some (82, false)⟩,
  .one ⟨some 85, .pick (.t 82) (.c (.bool true)) (.t 84), none⟩,
  .one ⟨some 86, .mv (.t 85), none⟩,
  .one ⟨some 87, .mv (.t 10), some (86, false)⟩,
  .one ⟨some 88, .bin .neq (.t 87) (.c (.int .i64 0)), some (86, false)⟩,
  .one ⟨some 89, .pick (.t 86) (.c (.bool true)) (.t 88), none⟩,
  .one ⟨some 90, .mv (.t 89), none⟩,
  .one ⟨some 91, .mv (.t 12), some (90, false)⟩,
  .one ⟨some 92, .bin .neq (.t 91) (.c (.int .i64 0)), some (90, false)⟩,
  .one ⟨some 93, .pick (.t 90) (.c (.bool true)) (.t 92), none⟩]
def c3k16 : ICode := .kill (dead 179 [0, 1, 2, 7, 10, 11, 12, 13]) (.ops c3r16)
@[simp] theorem uc3k16 : Ex F cx (.code c3k16 :: k) ⟨mk 179 l, rows, low⟩ r ↔ bnd (evP rows (.bin .neq (.c (lk l 11)) (.c (.int .i64 1)))) fun v0 => bnd (gv v0 false (evP rows (.mv (.c (lk l 13))))) fun v1 => bnd (gv v0 false (evP rows (.bin .neq (.c v1) (.c (.int .i64 1))))) fun v2 => bnd (evP rows (.pick (.c v0) (.c (.bool true)) (.c v2))) fun v3 => bnd (gv v3 false (evP rows (.mv (.c (lk l 10))))) fun v4 => bnd (gv v3 false (evP rows (.bin .neq (.c v4) (.c (.int .i64 0))))) fun v5 => bnd (evP rows (.pick (.c v3) (.c (.bool true)) (.c v5))) fun v6 => bnd (gv v6 false (evP rows (.mv (.c (lk l 12))))) fun v7 => bnd (gv v6 false (evP rows (.bin .neq (.c v7) (.c (.int .i64 0))))) fun v8 => bnd (evP rows (.pick (.c v6) (.c (.bool true)) (.c v8))) fun v9 => Ex F cx k ⟨mk 179 [(93, v9), (92, v8), (91, v7), (90, v6), (89, v6), (88, v5), (87, v4), (86, v3), (85, v3), (84, v2), (83, v1), (82, v0), (81, v0), (80, lk l 11), (0, lk l 0), (1, lk l 1), (2, lk l 2), (7, lk l 7), (10, lk l 10), (11, lk l 11), (12, lk l 12), (13, lk l 13)], rows, low⟩ r := reg (keep := [0, 1, 2, 7, 10, 11, 12, 13]) (ops := c3r16) rfl (by kernel_rfl) (by kernel_rfl)
def c3r17 : List Seg := [
  .one ⟨some 6, .mv (.c (.bool false)), none⟩]
def c3k17 : ICode := .kill (dead 179 []) (.ops c3r17)
@[simp] theorem uc3k17 : Ex F cx (.code c3k17 :: k) ⟨mk 179 l, rows, low⟩ r ↔ Ex F cx k ⟨mk 179 [(6, (.bool false))], rows, low⟩ r := reg (keep := []) (ops := c3r17) rfl (by kernel_rfl) (by kernel_rfl)
def c3s18 : ICode := (.cond (.t 150) (.seq c3k17 .ret) .skip)
@[simp] theorem uc3s18 : Ex F cx (.code c3s18 :: k) s r ↔ Ex F cx (.code (.cond (.t 150) (.seq c3k17 .ret) .skip) :: k) s r := Iff.rfl
def c3r19 : List Seg := [
  .one ⟨some 145, .mv (.t 13), none⟩,
  .one ⟨some 146, .bin .neq (.t 145) (.c (.int .i64 1)), none⟩,
  .one ⟨some 147, .mv (.t 146), none⟩,
  .one ⟨some 148, .mv (.t 12), some (147, false)⟩,
  .one ⟨some 149, .bin .neq (.t 148) (.c (.int .i64 0)), some (147, false)⟩,
  .one ⟨some 150, .pick (.t 147) (.c (.bool true)) (.t 149), none⟩]
def c3k19 : ICode := .kill (dead 179 [0, 1, 2, 7, 12, 13]) (.ops c3r19)
@[simp] theorem uc3k19 : Ex F cx (.code c3k19 :: k) ⟨mk 179 l, rows, low⟩ r ↔ bnd (evP rows (.bin .neq (.c (lk l 13)) (.c (.int .i64 1)))) fun v0 => bnd (gv v0 false (evP rows (.mv (.c (lk l 12))))) fun v1 => bnd (gv v0 false (evP rows (.bin .neq (.c v1) (.c (.int .i64 0))))) fun v2 => bnd (evP rows (.pick (.c v0) (.c (.bool true)) (.c v2))) fun v3 => Ex F cx k ⟨mk 179 [(150, v3), (149, v2), (148, v1), (147, v0), (146, v0), (145, lk l 13), (0, lk l 0), (1, lk l 1), (2, lk l 2), (7, lk l 7), (12, lk l 12), (13, lk l 13)], rows, low⟩ r := reg (keep := [0, 1, 2, 7, 12, 13]) (ops := c3r19) rfl (by kernel_rfl) (by kernel_rfl)
def c3r20 : List Seg := [
  .one ⟨some 6, .mv (.c (.bool false)), none⟩]
def c3k20 : ICode := .kill (dead 179 []) (.ops c3r20)
@[simp] theorem uc3k20 : Ex F cx (.code c3k20 :: k) ⟨mk 179 l, rows, low⟩ r ↔ Ex F cx k ⟨mk 179 [(6, (.bool false))], rows, low⟩ r := reg (keep := []) (ops := c3r20) rfl (by kernel_rfl) (by kernel_rfl)
def c3s21 : ICode := (.cond (.t 159) (.seq c3k20 .ret) .skip)
@[simp] theorem uc3s21 : Ex F cx (.code c3s21 :: k) s r ↔ Ex F cx (.code (.cond (.t 159) (.seq c3k20 .ret) .skip) :: k) s r := Iff.rfl
def c3r22 : List Seg := [
  .one ⟨some 154, .mv (.t 13), none⟩,
  .one ⟨some 155, .bin .neq (.t 154) (.c (.int .i64 8)), none⟩,
  .one ⟨some 156, .mv (.t 155), none⟩,
  .one ⟨some 157, .mv (.t 12), some (156, false)⟩,
  .one ⟨some 158, .bin .neq (.t 157) (.c (.int .i64 0)), some (156, false)⟩,
  .one ⟨some 159, .pick (.t 156) (.c (.bool true)) (.t 158), none⟩]
def c3k22 : ICode := .kill (dead 179 [0, 1, 2, 7, 12, 13]) (.ops c3r22)
@[simp] theorem uc3k22 : Ex F cx (.code c3k22 :: k) ⟨mk 179 l, rows, low⟩ r ↔ bnd (evP rows (.bin .neq (.c (lk l 13)) (.c (.int .i64 8)))) fun v0 => bnd (gv v0 false (evP rows (.mv (.c (lk l 12))))) fun v1 => bnd (gv v0 false (evP rows (.bin .neq (.c v1) (.c (.int .i64 0))))) fun v2 => bnd (evP rows (.pick (.c v0) (.c (.bool true)) (.c v2))) fun v3 => Ex F cx k ⟨mk 179 [(159, v3), (158, v2), (157, v1), (156, v0), (155, v0), (154, lk l 13), (0, lk l 0), (1, lk l 1), (2, lk l 2), (7, lk l 7), (12, lk l 12), (13, lk l 13)], rows, low⟩ r := reg (keep := [0, 1, 2, 7, 12, 13]) (ops := c3r22) rfl (by kernel_rfl) (by kernel_rfl)
def c3r23 : List Seg := [
  .one ⟨some 6, .mv (.c (.bool false)), none⟩]
def c3k23 : ICode := .kill (dead 179 []) (.ops c3r23)
@[simp] theorem uc3k23 : Ex F cx (.code c3k23 :: k) ⟨mk 179 l, rows, low⟩ r ↔ Ex F cx k ⟨mk 179 [(6, (.bool false))], rows, low⟩ r := reg (keep := []) (ops := c3r23) rfl (by kernel_rfl) (by kernel_rfl)
def c3s24 : ICode := (.cond (.t 141) (.seq c3k23 .ret) .skip)
@[simp] theorem uc3s24 : Ex F cx (.code c3s24 :: k) s r ↔ Ex F cx (.code (.cond (.t 141) (.seq c3k23 .ret) .skip) :: k) s r := Iff.rfl
def c3r25 : List Seg := [
  .one ⟨some 120, .mv (.t 13), none⟩,
  .one ⟨some 121, .bin .neq (.t 120) (.c (.int .i64 0)), none⟩,
  .one ⟨some 122, .mv (.t 121), none⟩,
  .one ⟨some 123, .mv (.t 0), some (122, false)⟩,
  .one ⟨some 124, .mv (.t 14), some (122, false)⟩,
  .one ⟨some 125, .mv (.t 2), some (122, false)⟩,
  .one ⟨some 126, .mv (.t 12), some (122, false)⟩,
  .one ⟨some 127, .call (.c (.func 21 [])) [(.t 123), (.t 124), (.t 125), (.t 126)], some (122, false)⟩,
  .one ⟨some 128, .un .not (.t 127), some (122, false)⟩,
  .one ⟨some 129, .pick (.t 122) (.c (.bool true)) (.t 128), none⟩,
  .one ⟨some 130, .mv (.t 129), none⟩,
  .one ⟨some 131, .mv (.t 12), some (130, false)⟩,
  .one ⟨some 132, .bin .gtr (.t 131) (.c (.int .i64 1)), some (130, false)⟩,
  .one ⟨some 133, .mv (.t 132), some (130, false)⟩,
  .one ⟨some 134, .mv (.t 0), some (133, true)⟩,
  .one ⟨some 135, .mv (.t 14), some (133, true)⟩,
  .one ⟨some 136, .mv (.t 2), some (133, true)⟩,
  .one ⟨some 137, .mv (.t 12), some (133, true)⟩,
  .one ⟨some 138, .bin .sub (.t 137) (.c (.int .i64 1)), some (133, true)⟩,
  .one ⟨some 139, .call (.c (.func 21 [])) [(.t 134), (.t 135), (.t 136), (.t 138)], some (133, true)⟩,
  .one ⟨some 140, .pick (.t 133) (.t 139) (.c (.bool false)), some (130, false)⟩,
  .one ⟨some 141, .pick (.t 130) (.c (.bool true)) (.t 140), none⟩]
def c3k25 : ICode := .kill (dead 179 [0, 1, 2, 7, 12, 13, 14]) (.ops c3r25)
@[simp] theorem uc3k25 : Ex F cx (.code c3k25 :: k) ⟨mk 179 l, rows, low⟩ r ↔ bnd (evP rows (.bin .neq (.c (lk l 13)) (.c (.int .i64 0)))) fun v0 => bnd (gv v0 false (evP rows (.mv (.c (lk l 0))))) fun v1 => bnd (gv v0 false (evP rows (.mv (.c (lk l 14))))) fun v2 => bnd (gv v0 false (evP rows (.mv (.c (lk l 2))))) fun v3 => bnd (gv v0 false (evP rows (.mv (.c (lk l 12))))) fun v4 => gcall F v0 false rows low [v1, v2, v3, v4] (.func 21 []) fun v5 R5 L5 => bnd (gv v0 false (evP R5 (.un .not (.c v5)))) fun v6 => bnd (evP R5 (.pick (.c v0) (.c (.bool true)) (.c v6))) fun v7 => bnd (gv v7 false (evP R5 (.mv (.c (lk l 12))))) fun v8 => bnd (gv v7 false (evP R5 (.bin .gtr (.c v8) (.c (.int .i64 1))))) fun v9 => bnd (gv v7 false (evP R5 (.mv (.c v9)))) fun v10 => bnd (gv v10 true (evP R5 (.mv (.c (lk l 0))))) fun v11 => bnd (gv v10 true (evP R5 (.mv (.c (lk l 14))))) fun v12 => bnd (gv v10 true (evP R5 (.mv (.c (lk l 2))))) fun v13 => bnd (gv v10 true (evP R5 (.mv (.c (lk l 12))))) fun v14 => bnd (gv v10 true (evP R5 (.bin .sub (.c v14) (.c (.int .i64 1))))) fun v15 => gcall F v10 true R5 L5 [v11, v12, v13, v15] (.func 21 []) fun v16 R16 L16 => bnd (gv v7 false (evP R16 (.pick (.c v10) (.c v16) (.c (.bool false))))) fun v17 => bnd (evP R16 (.pick (.c v7) (.c (.bool true)) (.c v17))) fun v18 => Ex F cx k ⟨mk 179 [(141, v18), (140, v17), (139, v16), (138, v15), (137, v14), (136, v13), (135, v12), (134, v11), (133, v10), (132, v9), (131, v8), (130, v7), (129, v7), (128, v6), (127, v5), (126, v4), (125, v3), (124, v2), (123, v1), (122, v0), (121, v0), (120, lk l 13), (0, lk l 0), (1, lk l 1), (2, lk l 2), (7, lk l 7), (12, lk l 12), (13, lk l 13), (14, lk l 14)], R16, L16⟩ r := reg (keep := [0, 1, 2, 7, 12, 13, 14]) (ops := c3r25) rfl (by kernel_rfl) (by kernel_rfl)
def c3s26 : ICode := (.cond (.t 151) (.seq c3k22 c3s21) (.seq c3k25 c3s24))
@[simp] theorem uc3s26 : Ex F cx (.code c3s26 :: k) s r ↔ Ex F cx (.code (.cond (.t 151) (.seq c3k22 c3s21) (.seq c3k25 c3s24)) :: k) s r := Iff.rfl
def c3r27 : List Seg := [
  .one ⟨some 152, .mv (.t 14), none⟩,
  .one ⟨some 153, .bin .lss (.t 152) (.c (.int .i64 0)), none⟩,
  .one ⟨some 151, .mv (.t 153), none⟩]
def c3k27 : ICode := .kill (dead 179 [0, 1, 2, 7, 12, 13, 14]) (.ops c3r27)
@[simp] theorem uc3k27 : Ex F cx (.code c3k27 :: k) ⟨mk 179 l, rows, low⟩ r ↔ bnd (evP rows (.bin .lss (.c (lk l 14)) (.c (.int .i64 0)))) fun v0 => Ex F cx k ⟨mk 179 [(151, v0), (153, v0), (152, lk l 14), (0, lk l 0), (1, lk l 1), (2, lk l 2), (7, lk l 7), (12, lk l 12), (13, lk l 13), (14, lk l 14)], rows, low⟩ r := reg (keep := [0, 1, 2, 7, 12, 13, 14]) (ops := c3r27) rfl (by kernel_rfl) (by kernel_rfl)
def c3s28 : ICode := (.cond (.t 142) (.seq c3k19 c3s18) (.seq c3k27 c3s26))
@[simp] theorem uc3s28 : Ex F cx (.code c3s28 :: k) s r ↔ Ex F cx (.code (.cond (.t 142) (.seq c3k19 c3s18) (.seq c3k27 c3s26)) :: k) s r := Iff.rfl
def c3r29 : List Seg := [
  .one ⟨some 143, .mv (.t 2), none⟩,
  .one ⟨some 144, .bin .eql (.t 143) (.c (.int .i64 0)), none⟩,
  .one ⟨some 142, .mv (.t 144), none⟩]
def c3k29 : ICode := .kill (dead 179 [0, 1, 2, 7, 12, 13, 14]) (.ops c3r29)
@[simp] theorem uc3k29 : Ex F cx (.code c3k29 :: k) ⟨mk 179 l, rows, low⟩ r ↔ bnd (evP rows (.bin .eql (.c (lk l 2)) (.c (.int .i64 0)))) fun v0 => Ex F cx k ⟨mk 179 [(142, v0), (144, v0), (143, lk l 2), (0, lk l 0), (1, lk l 1), (2, lk l 2), (7, lk l 7), (12, lk l 12), (13, lk l 13), (14, lk l 14)], rows, low⟩ r := reg (keep := [0, 1, 2, 7, 12, 13, 14]) (ops := c3r29) rfl (by kernel_rfl) (by kernel_rfl)
def c3s30 : ICode := (.block 2 (.seq c3k29 c3s28))
@[simp] theorem uc3s30 : Ex F cx (.code c3s30 :: k) s r ↔ Ex F cx (.code (.block 2 (.seq c3k29 c3s28)) :: k) s r := Iff.rfl
def c3r31 : List Seg := [
  .one ⟨some 6, .mv (.c (.bool false)), none⟩]
def c3k31 : ICode := .kill (dead 179 []) (.ops c3r31)
@[simp] theorem uc3k31 : Ex F cx (.code c3k31 :: k) ⟨mk 179 l, rows, low⟩ r ↔ Ex F cx k ⟨mk 179 [(6, (.bool false))], rows, low⟩ r := reg (keep := []) (ops := c3r31) rfl (by kernel_rfl) (by kernel_rfl)
def c3s32 : ICode := (.cond (.t 119) (.seq c3k31 .ret) .skip)
@[simp] theorem uc3s32 : Ex F cx (.code c3s32 :: k) s r ↔ Ex F cx (.code (.cond (.t 119) (.seq c3k31 .ret) .skip) :: k) s r := Iff.rfl
def c3r33 : List Seg := [
  .one ⟨some 97, .mv (.t 14), none⟩,
  .one ⟨some 98, .bin .lss (.t 97) (.c (.int .i64 0)), none⟩,
  .one ⟨some 99, .mv (.t 98), none⟩,
  .one ⟨some 100, .mv (.t 11), some (99, true)⟩,
  .one ⟨some 101, .bin .neq (.t 100) (.c (.int .i64 8)), some (99, true)⟩,
  .one ⟨some 102, .mv (.t 101), some (99, true)⟩,
  .one ⟨some 103, .mv (.t 10), some (102, false)⟩,
  .one ⟨some 104, .bin .neq (.t 103) (.c (.int .i64 0)), some (102, false)⟩,
  .one ⟨some 105, .pick (.t 102) (.c (.bool true)) (.t 104), some (99, true)⟩,
  .one ⟨some 106, .pick (.t 99) (.t 105) (.c (.bool false)), none⟩,
  .one ⟨some 107, .mv (.t 106), none⟩,
  .one ⟨some 108, .mv (.t 14), some (107, false)⟩,
  .one ⟨some 109, .bin .geq (.t 108) (.c (.int .i64 0)), some (107, false)⟩,
  .one ⟨some 110, .mv (.t 109), some (107, false)⟩,
  .one ⟨some 111, .mv (.t 11), some (110, true)⟩,
  .one ⟨some 112, .bin .neq (.t 111) (.c (.int .i64 0)), some (110, true)⟩,
  .one ⟨some 113, .mv (.t 112), some (110, true)⟩,
  .one ⟨some 114, .mv (.t 10), some (113, false)⟩,
  .one ⟨some 115, .mv (.t 14), some (113, false)⟩,
  .one ⟨some 116, .bin .neq (.t 114) (.t 115), some (113, false)⟩,
  .one ⟨some 117, .pick (.t 113) (.c (.bool true)) (.t 116), some (110, true)⟩,
  .one ⟨some 118, .pick (.t 110) (.t 117) (.c (.bool false)), some (107, false)⟩,
  .one ⟨some 119, .pick (.t 107) (.c (.bool true)) (.t 118), none⟩]
def c3k33 : ICode := .kill (dead 179 [0, 1, 2, 7, 10, 11, 12, 13, 14]) (.ops c3r33)
@[simp] theorem uc3k33 : Ex F cx (.code c3k33 :: k) ⟨mk 179 l, rows, low⟩ r ↔ bnd (evP rows (.bin .lss (.c (lk l 14)) (.c (.int .i64 0)))) fun v0 => bnd (gv v0 true (evP rows (.mv (.c (lk l 11))))) fun v1 => bnd (gv v0 true (evP rows (.bin .neq (.c v1) (.c (.int .i64 8))))) fun v2 => bnd (gv v0 true (evP rows (.mv (.c v2)))) fun v3 => bnd (gv v3 false (evP rows (.mv (.c (lk l 10))))) fun v4 => bnd (gv v3 false (evP rows (.bin .neq (.c v4) (.c (.int .i64 0))))) fun v5 => bnd (gv v0 true (evP rows (.pick (.c v3) (.c (.bool true)) (.c v5)))) fun v6 => bnd (evP rows (.pick (.c v0) (.c v6) (.c (.bool false)))) fun v7 => bnd (gv v7 false (evP rows (.mv (.c (lk l 14))))) fun v8 => bnd (gv v7 false (evP rows (.bin .geq (.c v8) (.c (.int .i64 0))))) fun v9 => bnd (gv v7 false (evP rows (.mv (.c v9)))) fun v10 => bnd (gv v10 true (evP rows (.mv (.c (lk l 11))))) fun v11 => bnd (gv v10 true (evP rows (.bin .neq (.c v11) (.c (.int .i64 0))))) fun v12 => bnd (gv v10 true (evP rows (.mv (.c v12)))) fun v13 => bnd (gv v13 false (evP rows (.mv (.c (lk l 10))))) fun v14 => bnd (gv v13 false (evP rows (.mv (.c (lk l 14))))) fun v15 => bnd (gv v13 false (evP rows (.bin .neq (.c v14) (.c v15)))) fun v16 => bnd (gv v10 true (evP rows (.pick (.c v13) (.c (.bool true)) (.c v16)))) fun v17 => bnd (gv v7 false (evP rows (.pick (.c v10) (.c v17) (.c (.bool false))))) fun v18 => bnd (evP rows (.pick (.c v7) (.c (.bool true)) (.c v18))) fun v19 => Ex F cx k ⟨mk 179 [(119, v19), (118, v18), (117, v17), (116, v16), (115, v15), (114, v14), (113, v13), (112, v12), (111, v11), (110, v10), (109, v9), (108, v8), (107, v7), (106, v7), (105, v6), (104, v5), (103, v4), (102, v3), (101, v2), (100, v1), (99, v0), (98, v0), (97, lk l 14), (0, lk l 0), (1, lk l 1), (2, lk l 2), (7, lk l 7), (10, lk l 10), (11, lk l 11), (12, lk l 12), (13, lk l 13), (14, lk l 14)], rows, low⟩ r := reg (keep := [0, 1, 2, 7, 10, 11, 12, 13, 14]) (ops := c3r33) rfl (by kernel_rfl) (by kernel_rfl)
def c3s34 : ICode := (.seq (.seq c3k33 c3s32) c3s30)
@[simp] theorem uc3s34 : Ex F cx (.code c3s34 :: k) s r ↔ Ex F cx (.code (.seq (.seq c3k33 c3s32) c3s30) :: k) s r := Iff.rfl
def c3r35 : List Seg := [
  .one ⟨some 94, .mv (.t 0), none⟩,
  .one ⟨some 95, .mv (.t 2), none⟩,
  .one ⟨some 96, .call (.c (.func 20 [])) [(.t 94), (.t 95)], none⟩,
  .one ⟨some 14, .mv (.t 96), none⟩]
def c3k35 : ICode := .kill (dead 179 [0, 1, 2, 7, 10, 11, 12, 13]) (.ops c3r35)
@[simp] theorem uc3k35 : Ex F cx (.code c3k35 :: k) ⟨mk 179 l, rows, low⟩ r ↔ bnd (Ret F 20 [lk l 0, lk l 2] rows) fun q0 => Ex F cx k ⟨mk 179 [(14, q0.1), (96, q0.1), (95, lk l 2), (94, lk l 0), (0, lk l 0), (1, lk l 1), (2, lk l 2), (7, lk l 7), (10, lk l 10), (11, lk l 11), (12, lk l 12), (13, lk l 13)], q0.2.1, (lowO low q0.2.2)⟩ r := reg (keep := [0, 1, 2, 7, 10, 11, 12, 13]) (ops := c3r35) rfl (by kernel_rfl) (by kernel_rfl)
def c3s36 : ICode := (.cond (.t 79) (.seq c3k16 c3s15) (.seq c3k35 c3s34))
@[simp] theorem uc3s36 : Ex F cx (.code c3s36 :: k) s r ↔ Ex F cx (.code (.cond (.t 79) (.seq c3k16 c3s15) (.seq c3k35 c3s34)) :: k) s r := Iff.rfl
def c3r37 : List Seg := [
  .one ⟨some 66, .mv (.t 0), none⟩,
  .one ⟨some 67, .bin .lss (.t 66) (.c (.int .i64 1)), none⟩,
  .one ⟨some 68, .mv (.t 67), none⟩,
  .one ⟨some 69, .mv (.t 0), some (68, false)⟩,
  .one ⟨some 70, .bin .gtr (.t 69) (.c (.int .i64 20)), some (68, false)⟩,
  .one ⟨some 71, .pick (.t 68) (.c (.bool true)) (.t 70), none⟩,
  .one ⟨some 72, .mv (.t 71), none⟩,
  .one ⟨some 73, .mv (.t 2), some (72, false)⟩,
  .one ⟨some 74, .bin .lss (.t 73) (.c (.int .i64 0)), some (72, false)⟩,
  .one ⟨some 75, .pick (.t 72) (.c (.bool true)) (.t 74), none⟩,
  .one ⟨some 76, .mv (.t 75), none⟩,
  .one ⟨some 77, .mv (.t 2), some (76, false)⟩,
  .one ⟨some 78, .bin .gtr (.t 77) (.c (.int .i64 1000000000000)), some (76, false)⟩,
  .one ⟨some 79, .pick (.t 76) (.c (.bool true)) (.t 78), none⟩]
def c3k37 : ICode := .kill (dead 179 [0, 1, 2, 7, 10, 11, 12, 13]) (.ops c3r37)
@[simp] theorem uc3k37 : Ex F cx (.code c3k37 :: k) ⟨mk 179 l, rows, low⟩ r ↔ bnd (evP rows (.bin .lss (.c (lk l 0)) (.c (.int .i64 1)))) fun v0 => bnd (gv v0 false (evP rows (.mv (.c (lk l 0))))) fun v1 => bnd (gv v0 false (evP rows (.bin .gtr (.c v1) (.c (.int .i64 20))))) fun v2 => bnd (evP rows (.pick (.c v0) (.c (.bool true)) (.c v2))) fun v3 => bnd (gv v3 false (evP rows (.mv (.c (lk l 2))))) fun v4 => bnd (gv v3 false (evP rows (.bin .lss (.c v4) (.c (.int .i64 0))))) fun v5 => bnd (evP rows (.pick (.c v3) (.c (.bool true)) (.c v5))) fun v6 => bnd (gv v6 false (evP rows (.mv (.c (lk l 2))))) fun v7 => bnd (gv v6 false (evP rows (.bin .gtr (.c v7) (.c (.int .i64 1000000000000))))) fun v8 => bnd (evP rows (.pick (.c v6) (.c (.bool true)) (.c v8))) fun v9 => Ex F cx k ⟨mk 179 [(79, v9), (78, v8), (77, v7), (76, v6), (75, v6), (74, v5), (73, v4), (72, v3), (71, v3), (70, v2), (69, v1), (68, v0), (67, v0), (66, lk l 0), (0, lk l 0), (1, lk l 1), (2, lk l 2), (7, lk l 7), (10, lk l 10), (11, lk l 11), (12, lk l 12), (13, lk l 13)], rows, low⟩ r := reg (keep := [0, 1, 2, 7, 10, 11, 12, 13]) (ops := c3r37) rfl (by kernel_rfl) (by kernel_rfl)
def c3s38 : ICode := (.seq (.seq c3k37 c3s36) c3s13)
@[simp] theorem uc3s38 : Ex F cx (.code c3s38 :: k) s r ↔ Ex F cx (.code (.seq (.seq c3k37 c3s36) c3s13) :: k) s r := Iff.rfl
def c3r39 : List Seg := [
  .one ⟨some 61, .mv (.t 0), none⟩,
  .one ⟨some 62, .mv (.t 2), none⟩,
  .one ⟨some 63, .call (.c (.func 19 [])) [(.t 61), (.t 62)], none⟩,
  .one ⟨some 60, .mv (.t 63), none⟩,
  .one ⟨some 64, .ext (.t 60) 0, none⟩,
  .one ⟨some 65, .ext (.t 60) 1, none⟩,
  .one ⟨some 12, .mv (.t 64), none⟩,
  .one ⟨some 13, .mv (.t 65), none⟩]
def c3k39 : ICode := .kill (dead 179 [0, 1, 2, 7, 10, 11]) (.ops c3r39)
@[simp] theorem uc3k39 : Ex F cx (.code c3k39 :: k) ⟨mk 179 l, rows, low⟩ r ↔ bnd (Ret F 19 [lk l 0, lk l 2] rows) fun q0 => bnd (evP q0.2.1 (.ext (.c q0.1) 0)) fun v1 => bnd (evP q0.2.1 (.ext (.c q0.1) 1)) fun v2 => Ex F cx k ⟨mk 179 [(13, v2), (12, v1), (65, v2), (64, v1), (60, q0.1), (63, q0.1), (62, lk l 2), (61, lk l 0), (0, lk l 0), (1, lk l 1), (2, lk l 2), (7, lk l 7), (10, lk l 10), (11, lk l 11)], q0.2.1, (lowO low q0.2.2)⟩ r := reg (keep := [0, 1, 2, 7, 10, 11]) (ops := c3r39) rfl (by kernel_rfl) (by kernel_rfl)
def c3s40 : ICode := (.seq c3k39 c3s38)
@[simp] theorem uc3s40 : Ex F cx (.code c3s40 :: k) s r ↔ Ex F cx (.code (.seq c3k39 c3s38) :: k) s r := Iff.rfl
def c3r41 : List Seg := [
  .one ⟨some 55, .mv (.t 0), none⟩,
  .one ⟨some 56, .mv (.t 2), none⟩,
  .one ⟨some 57, .call (.c (.func 18 [])) [(.t 55), (.t 56)], none⟩,
  .one ⟨some 54, .mv (.t 57), none⟩,
  .one ⟨some 58, .ext (.t 54) 0, none⟩,
  .one ⟨some 59, .ext (.t 54) 1, none⟩,
  .one ⟨some 10, .mv (.t 58), none⟩,
  .one ⟨some 11, .mv (.t 59), none⟩]
def c3k41 : ICode := .kill (dead 179 [0, 1, 2, 7]) (.ops c3r41)
@[simp] theorem uc3k41 : Ex F cx (.code c3k41 :: k) ⟨mk 179 l, rows, low⟩ r ↔ bnd (Ret F 18 [lk l 0, lk l 2] rows) fun q0 => bnd (evP q0.2.1 (.ext (.c q0.1) 0)) fun v1 => bnd (evP q0.2.1 (.ext (.c q0.1) 1)) fun v2 => Ex F cx k ⟨mk 179 [(11, v2), (10, v1), (59, v2), (58, v1), (54, q0.1), (57, q0.1), (56, lk l 2), (55, lk l 0), (0, lk l 0), (1, lk l 1), (2, lk l 2), (7, lk l 7)], q0.2.1, (lowO low q0.2.2)⟩ r := reg (keep := [0, 1, 2, 7]) (ops := c3r41) rfl (by kernel_rfl) (by kernel_rfl)
def c3s42 : ICode := (.seq c3k41 c3s40)
@[simp] theorem uc3s42 : Ex F cx (.code c3s42 :: k) s r ↔ Ex F cx (.code (.seq c3k41 c3s40) :: k) s r := Iff.rfl
def c3r43 : List Seg := [
  .one ⟨some 6, .mv (.c (.bool false)), none⟩]
def c3k43 : ICode := .kill (dead 179 []) (.ops c3r43)
@[simp] theorem uc3k43 : Ex F cx (.code c3k43 :: k) ⟨mk 179 l, rows, low⟩ r ↔ Ex F cx k ⟨mk 179 [(6, (.bool false))], rows, low⟩ r := reg (keep := []) (ops := c3r43) rfl (by kernel_rfl) (by kernel_rfl)
def c3s44 : ICode := (.cond (.t 44) (.seq c3k43 .ret) .skip)
@[simp] theorem uc3s44 : Ex F cx (.code c3s44 :: k) s r ↔ Ex F cx (.code (.cond (.t 44) (.seq c3k43 .ret) .skip) :: k) s r := Iff.rfl
def c3r45 : List Seg := [
  .one ⟨some 39, .mv (.t 9), none⟩,
  .one ⟨some 40, .bin .neq (.t 39) (.c (.int .i64 1)), none⟩,
  .one ⟨some 41, .mv (.t 40), none⟩,
  .one ⟨some 42, .mv (.t 8), some (41, false)⟩,
  .one ⟨some 43, .bin .neq (.t 42) (.c (.int .i64 0)), some (41, false)⟩,
  .one ⟨some 44, .pick (.t 41) (.c (.bool true)) (.t 43), none⟩]
def c3k45 : ICode := .kill (dead 179 [0, 1, 2, 7, 8, 9]) (.ops c3r45)
@[simp] theorem uc3k45 : Ex F cx (.code c3k45 :: k) ⟨mk 179 l, rows, low⟩ r ↔ bnd (evP rows (.bin .neq (.c (lk l 9)) (.c (.int .i64 1)))) fun v0 => bnd (gv v0 false (evP rows (.mv (.c (lk l 8))))) fun v1 => bnd (gv v0 false (evP rows (.bin .neq (.c v1) (.c (.int .i64 0))))) fun v2 => bnd (evP rows (.pick (.c v0) (.c (.bool true)) (.c v2))) fun v3 => Ex F cx k ⟨mk 179 [(44, v3), (43, v2), (42, v1), (41, v0), (40, v0), (39, lk l 9), (0, lk l 0), (1, lk l 1), (2, lk l 2), (7, lk l 7), (8, lk l 8), (9, lk l 9)], rows, low⟩ r := reg (keep := [0, 1, 2, 7, 8, 9]) (ops := c3r45) rfl (by kernel_rfl) (by kernel_rfl)
def c3r46 : List Seg := [
  .one ⟨some 6, .mv (.c (.bool false)), none⟩]
def c3k46 : ICode := .kill (dead 179 []) (.ops c3r46)
@[simp] theorem uc3k46 : Ex F cx (.code c3k46 :: k) ⟨mk 179 l, rows, low⟩ r ↔ Ex F cx k ⟨mk 179 [(6, (.bool false))], rows, low⟩ r := reg (keep := []) (ops := c3r46) rfl (by kernel_rfl) (by kernel_rfl)
def c3s47 : ICode := (.cond (.t 53) (.seq c3k46 .ret) .skip)
@[simp] theorem uc3s47 : Ex F cx (.code c3s47 :: k) s r ↔ Ex F cx (.code (.cond (.t 53) (.seq c3k46 .ret) .skip) :: k) s r := Iff.rfl
def c3r48 : List Seg := [
  .one ⟨some 45, .mv (.t 9), none⟩,
  .one ⟨some 46, .bin .neq (.t 45) (.c (.int .i64 0)), none⟩,
  .one ⟨some 47, .mv (.t 46), none⟩,
  .one ⟨some 48, .mv (.t 8), some (47, false)⟩,
  .one ⟨some 49, .mv (.t 0), some (47, false)⟩,
  .one ⟨some 50, .mv (.t 1), some (47, false)⟩,
  .one ⟨some 51, .call (.c (.func 17 [])) [(.t 49), (.t 50)], some (47, false)⟩,
  .one ⟨some 52, .bin .neq (.t 48) (.t 51), some (47, false)⟩,
  .one ⟨some 53, .pick (.t 47) (.c (.bool true)) (.t 52), none⟩]
def c3k48 : ICode := .kill (dead 179 [0, 1, 2, 7, 8, 9]) (.ops c3r48)
@[simp] theorem uc3k48 : Ex F cx (.code c3k48 :: k) ⟨mk 179 l, rows, low⟩ r ↔ bnd (evP rows (.bin .neq (.c (lk l 9)) (.c (.int .i64 0)))) fun v0 => bnd (gv v0 false (evP rows (.mv (.c (lk l 8))))) fun v1 => bnd (gv v0 false (evP rows (.mv (.c (lk l 0))))) fun v2 => bnd (gv v0 false (evP rows (.mv (.c (lk l 1))))) fun v3 => gcall F v0 false rows low [v2, v3] (.func 17 []) fun v4 R4 L4 => bnd (gv v0 false (evP R4 (.bin .neq (.c v1) (.c v4)))) fun v5 => bnd (evP R4 (.pick (.c v0) (.c (.bool true)) (.c v5))) fun v6 => Ex F cx k ⟨mk 179 [(53, v6), (52, v5), (51, v4), (50, v3), (49, v2), (48, v1), (47, v0), (46, v0), (45, lk l 9), (0, lk l 0), (1, lk l 1), (2, lk l 2), (7, lk l 7), (8, lk l 8), (9, lk l 9)], R4, L4⟩ r := reg (keep := [0, 1, 2, 7, 8, 9]) (ops := c3r48) rfl (by kernel_rfl) (by kernel_rfl)
def c3s49 : ICode := (.cond (.t 38) (.seq c3k45 c3s44) (.seq c3k48 c3s47))
@[simp] theorem uc3s49 : Ex F cx (.code c3s49 :: k) s r ↔ Ex F cx (.code (.cond (.t 38) (.seq c3k45 c3s44) (.seq c3k48 c3s47)) :: k) s r := Iff.rfl
def c3r50 : List Seg := [
  .one ⟨some 25, .mv (.t 0), none⟩,
  .one ⟨some 26, .bin .lss (.t 25) (.c (.int .i64 0)), none⟩,
  .one ⟨some 27, .mv (.t 26), none⟩,
  .one ⟨some 28, .mv (.t 0), some (27, false)⟩,
  .one ⟨some 29, .bin .gtr (.t 28) (.c (.int .i64 20)), some (27, false)⟩,
  .one ⟨some 30, .pick (.t 27) (.c (.bool true)) (.t 29), none⟩,
  .one ⟨some 31, .mv (.t 30), none⟩,
  .one ⟨some 32, .mv (.t 1), some (31, false)⟩,
  .one ⟨some 33, .bin .lss (.t 32) (.c (.int .i64 0)), some (31, false)⟩,
  .one ⟨some 34, .pick (.t 31) (.c (.bool true)) (.t 33), none⟩,
  .one ⟨some 35, .mv (.t 34), none⟩,
  .one ⟨some 36, .mv (.t 1), some (35, false)⟩,
  .one ⟨some 37, .bin .gtr (.t 36) (.c (.int .i64 60)), some (35, false)⟩,
  .one ⟨some 38, .pick (.t 35) (.c (.bool true)) (.t 37), none⟩]
def c3k50 : ICode := .kill (dead 179 [0, 1, 2, 7, 8, 9]) (.ops c3r50)
@[simp] theorem uc3k50 : Ex F cx (.code c3k50 :: k) ⟨mk 179 l, rows, low⟩ r ↔ bnd (evP rows (.bin .lss (.c (lk l 0)) (.c (.int .i64 0)))) fun v0 => bnd (gv v0 false (evP rows (.mv (.c (lk l 0))))) fun v1 => bnd (gv v0 false (evP rows (.bin .gtr (.c v1) (.c (.int .i64 20))))) fun v2 => bnd (evP rows (.pick (.c v0) (.c (.bool true)) (.c v2))) fun v3 => bnd (gv v3 false (evP rows (.mv (.c (lk l 1))))) fun v4 => bnd (gv v3 false (evP rows (.bin .lss (.c v4) (.c (.int .i64 0))))) fun v5 => bnd (evP rows (.pick (.c v3) (.c (.bool true)) (.c v5))) fun v6 => bnd (gv v6 false (evP rows (.mv (.c (lk l 1))))) fun v7 => bnd (gv v6 false (evP rows (.bin .gtr (.c v7) (.c (.int .i64 60))))) fun v8 => bnd (evP rows (.pick (.c v6) (.c (.bool true)) (.c v8))) fun v9 => Ex F cx k ⟨mk 179 [(38, v9), (37, v8), (36, v7), (35, v6), (34, v6), (33, v5), (32, v4), (31, v3), (30, v3), (29, v2), (28, v1), (27, v0), (26, v0), (25, lk l 0), (0, lk l 0), (1, lk l 1), (2, lk l 2), (7, lk l 7), (8, lk l 8), (9, lk l 9)], rows, low⟩ r := reg (keep := [0, 1, 2, 7, 8, 9]) (ops := c3r50) rfl (by kernel_rfl) (by kernel_rfl)
def c3s51 : ICode := (.seq (.seq c3k50 c3s49) c3s42)
@[simp] theorem uc3s51 : Ex F cx (.code c3s51 :: k) s r ↔ Ex F cx (.code (.seq (.seq c3k50 c3s49) c3s42) :: k) s r := Iff.rfl
def c3r52 : List Seg := [
  .one ⟨some 20, .mv (.t 0), none⟩,
  .one ⟨some 21, .mv (.t 1), none⟩,
  .one ⟨some 22, .call (.c (.func 16 [])) [(.t 20), (.t 21)], none⟩,
  .one ⟨some 19, .mv (.t 22), none⟩,
  .one ⟨some 23, .ext (.t 19) 0, none⟩,
  .one ⟨some 24, .ext (.t 19) 1, none⟩,
  .one ⟨some 8, .mv (.t 23), none⟩,
  .one ⟨some 9, .mv (.t 24), none⟩]
def c3k52 : ICode := .kill (dead 179 [0, 1, 2, 7]) (.ops c3r52)
@[simp] theorem uc3k52 : Ex F cx (.code c3k52 :: k) ⟨mk 179 l, rows, low⟩ r ↔ bnd (Ret F 16 [lk l 0, lk l 1] rows) fun q0 => bnd (evP q0.2.1 (.ext (.c q0.1) 0)) fun v1 => bnd (evP q0.2.1 (.ext (.c q0.1) 1)) fun v2 => Ex F cx k ⟨mk 179 [(9, v2), (8, v1), (24, v2), (23, v1), (19, q0.1), (22, q0.1), (21, lk l 1), (20, lk l 0), (0, lk l 0), (1, lk l 1), (2, lk l 2), (7, lk l 7)], q0.2.1, (lowO low q0.2.2)⟩ r := reg (keep := [0, 1, 2, 7]) (ops := c3r52) rfl (by kernel_rfl) (by kernel_rfl)
def c3s53 : ICode := (.seq (.block 1 (.seq c3k52 c3s51)) c3k3)
@[simp] theorem uc3s53 : Ex F cx (.code c3s53 :: k) s r ↔ Ex F cx (.code (.seq (.block 1 (.seq c3k52 c3s51)) c3k3) :: k) s r := Iff.rfl
def c3s54 : ICode := (.cond (.t 16) .skip (.exit 0))
@[simp] theorem uc3s54 : Ex F cx (.code c3s54 :: k) s r ↔ Ex F cx (.code (.cond (.t 16) .skip (.exit 0)) :: k) s r := Iff.rfl
def c3r55 : List Seg := [
  .one ⟨some 15, .mv (.t 7), none⟩,
  .one ⟨some 16, .bin .lss (.t 15) (.c (.int .i64 2)), none⟩]
def c3k55 : ICode := .kill (dead 179 [0, 1, 2, 7]) (.ops c3r55)
@[simp] theorem uc3k55 : Ex F cx (.code c3k55 :: k) ⟨mk 179 l, rows, low⟩ r ↔ bnd (evP rows (.bin .lss (.c (lk l 7)) (.c (.int .i64 2)))) fun v0 => Ex F cx k ⟨mk 179 [(16, v0), (15, lk l 7), (0, lk l 0), (1, lk l 1), (2, lk l 2), (7, lk l 7)], rows, low⟩ r := reg (keep := [0, 1, 2, 7]) (ops := c3r55) rfl (by kernel_rfl) (by kernel_rfl)
def c3l2 : ICode := (.seq (.seq c3k55 c3s54) c3s53)
def c3s56 : ICode := (.block 0 (.loop c3l2))
@[simp] theorem uc3s56 : Ex F cx (.code c3s56 :: k) s r ↔ Ex F cx (.code (.block 0 (.loop c3l2)) :: k) s r := Iff.rfl
def c3r57 : List Seg := [
  .one ⟨some 7, .mv (.c (.int .i64 0)), none⟩]
def c3k57 : ICode := .kill (dead 179 [0, 1, 2]) (.ops c3r57)
@[simp] theorem uc3k57 : Ex F cx (.code c3k57 :: k) ⟨mk 179 l, rows, low⟩ r ↔ Ex F cx k ⟨mk 179 [(7, (.int .i64 0)), (0, lk l 0), (1, lk l 1), (2, lk l 2)], rows, low⟩ r := reg (keep := [0, 1, 2]) (ops := c3r57) rfl (by kernel_rfl) (by kernel_rfl)
def c3s58 : ICode := (.seq (.seq c3k57 c3s56) c3s1)
@[simp] theorem uc3s58 : Ex F cx (.code c3s58 :: k) s r ↔ Ex F cx (.code (.seq (.seq c3k57 c3s56) c3s1) :: k) s r := Iff.rfl
def c3r59 : List Seg := [
  .one ⟨some 6, .mv (.c (.bool false)), none⟩]
def c3k59 : ICode := .kill (dead 179 [0, 1, 2]) (.ops c3r59)
@[simp] theorem uc3k59 : Ex F cx (.code c3k59 :: k) ⟨mk 179 l, rows, low⟩ r ↔ Ex F cx k ⟨mk 179 [(6, (.bool false)), (0, lk l 0), (1, lk l 1), (2, lk l 2)], rows, low⟩ r := reg (keep := [0, 1, 2]) (ops := c3r59) rfl (by kernel_rfl) (by kernel_rfl)
def Jc3s13 (F : Nat → Option IFn) (cx : Ctx) (x0 x1 x2 x7 : AV) (rows : List Row) (low : Nat) (r : AV × List Row × Nat → Prop) : Prop := Ex F cx (.code c3s13 :: .inBlock 1 :: .code c3k3 :: .inLoop c3l2 :: .inBlock 0 :: .code c3s1 :: []) ⟨mk 179 [(0, x0), (1, x1), (2, x2), (7, x7)], rows, low⟩ r
theorem jc3s13 : Ex F cx (.code c3s13 :: .inBlock 1 :: .code c3k3 :: .inLoop c3l2 :: .inBlock 0 :: .code c3s1 :: []) ⟨mk 179 l, rows, low⟩ r ↔ Jc3s13 F cx (lk l 0) (lk l 1) (lk l 2) (lk l 7) rows low r := Ex_canon (keep := [0, 1, 2, 7]) (by kernel_rfl)
def Jc3s30 (F : Nat → Option IFn) (cx : Ctx) (x0 x1 x2 x7 x12 x13 x14 : AV) (rows : List Row) (low : Nat) (r : AV × List Row × Nat → Prop) : Prop := Ex F cx (.code c3s30 :: .code c3s13 :: .inBlock 1 :: .code c3k3 :: .inLoop c3l2 :: .inBlock 0 :: .code c3s1 :: []) ⟨mk 179 [(0, x0), (1, x1), (2, x2), (7, x7), (12, x12), (13, x13), (14, x14)], rows, low⟩ r
theorem jc3s30 : Ex F cx (.code c3s30 :: .code c3s13 :: .inBlock 1 :: .code c3k3 :: .inLoop c3l2 :: .inBlock 0 :: .code c3s1 :: []) ⟨mk 179 l, rows, low⟩ r ↔ Jc3s30 F cx (lk l 0) (lk l 1) (lk l 2) (lk l 7) (lk l 12) (lk l 13) (lk l 14) rows low r := Ex_canon (keep := [0, 1, 2, 7, 12, 13, 14]) (by kernel_rfl)
def Jc3s42 (F : Nat → Option IFn) (cx : Ctx) (x0 x1 x2 x7 : AV) (rows : List Row) (low : Nat) (r : AV × List Row × Nat → Prop) : Prop := Ex F cx (.code c3s42 :: .inBlock 1 :: .code c3k3 :: .inLoop c3l2 :: .inBlock 0 :: .code c3s1 :: []) ⟨mk 179 [(0, x0), (1, x1), (2, x2), (7, x7)], rows, low⟩ r
theorem jc3s42 : Ex F cx (.code c3s42 :: .inBlock 1 :: .code c3k3 :: .inLoop c3l2 :: .inBlock 0 :: .code c3s1 :: []) ⟨mk 179 l, rows, low⟩ r ↔ Jc3s42 F cx (lk l 0) (lk l 1) (lk l 2) (lk l 7) rows low r := Ex_canon (keep := [0, 1, 2, 7]) (by kernel_rfl)
def Jc3s53 (F : Nat → Option IFn) (cx : Ctx) (x0 x1 x2 x7 : AV) (rows : List Row) (low : Nat) (r : AV × List Row × Nat → Prop) : Prop := Ex F cx (.code c3s53 :: .inLoop c3l2 :: .inBlock 0 :: .code c3s1 :: []) ⟨mk 179 [(0, x0), (1, x1), (2, x2), (7, x7)], rows, low⟩ r
theorem jc3s53 : Ex F cx (.code c3s53 :: .inLoop c3l2 :: .inBlock 0 :: .code c3s1 :: []) ⟨mk 179 l, rows, low⟩ r ↔ Jc3s53 F cx (lk l 0) (lk l 1) (lk l 2) (lk l 7) rows low r := Ex_canon (keep := [0, 1, 2, 7]) (by kernel_rfl)
def Lc3l2 (F : Nat → Option IFn) (cx : Ctx) (x0 x1 x2 x7 : AV) (rows : List Row) (low : Nat) (r : AV × List Row × Nat → Prop) : Prop := Ex F cx (.code c3l2 :: .inLoop c3l2 :: .inBlock 0 :: .code c3s1 :: []) ⟨mk 179 [(0, x0), (1, x1), (2, x2), (7, x7)], rows, low⟩ r
@[simp] theorem nc3l2 : Ex F cx (.inLoop c3l2 :: .inBlock 0 :: .code c3s1 :: []) ⟨mk 179 l, rows, low⟩ r ↔ Lc3l2 F cx (lk l 0) (lk l 1) (lk l 2) (lk l 7) rows low r := loopN (keep := [0, 1, 2, 7]) (by kernel_rfl)
@[simp] theorem ec3l2 : Ex F cx (.code (.loop c3l2) :: .inBlock 0 :: .code c3s1 :: []) ⟨mk 179 l, rows, low⟩ r ↔ Lc3l2 F cx (lk l 0) (lk l 1) (lk l 2) (lk l 7) rows low r := loopE (keep := [0, 1, 2, 7]) (by kernel_rfl)
@[simp] theorem uc3l2 : Ex F cx (.code c3l2 :: k) s r ↔ Ex F cx (.code (.seq (.seq c3k55 c3s54) c3s53) :: k) s r := Iff.rfl
def c3b : ICode := (.seq c3k59 c3s58)
@[simp] theorem uc3b : Ex F cx (.code c3b :: k) s r ↔ Ex F cx (.code (.seq c3k59 c3s58) :: k) s r := Iff.rfl
def c3 : IFn := ⟨179, [.t 6], c3b⟩
def h3 : List (Nat × List Nat) := [(0, dead 179 [0, 1, 2]), (1, dead 179 [0, 1, 2]), (2, dead 179 [0, 1, 2, 7]), (4, dead 179 [0, 1, 2, 7]), (5, dead 179 [0, 1, 2, 7, 8, 9]), (6, dead 179 [0, 1, 2, 7, 8, 9]), (7, dead 179 []), (8, dead 179 [0, 1, 2, 7, 8, 9]), (9, dead 179 []), (10, dead 179 [0, 1, 2, 7]), (11, dead 179 [0, 1, 2, 7, 10, 11]), (12, dead 179 [0, 1, 2, 7, 10, 11, 12, 13]), (13, dead 179 [0, 1, 2, 7, 10, 11, 12, 13]), (14, dead 179 []), (15, dead 179 [0, 1, 2, 7, 10, 11, 12, 13]), (16, dead 179 [0, 1, 2, 7, 10, 11, 12, 13, 14]), (17, dead 179 []), (20, dead 179 [0, 1, 2, 7, 12, 13, 14]), (21, dead 179 [0, 1, 2, 7, 12, 13]), (22, dead 179 []), (23, dead 179 [0, 1, 2, 7, 12, 13, 14]), (24, dead 179 [0, 1, 2, 7, 12, 13]), (25, dead 179 []), (18, dead 179 [0, 1, 2, 7, 12, 13, 14]), (19, dead 179 []), (26, dead 179 [0, 1, 2, 7]), (27, dead 179 [0, 1, 2, 7]), (28, dead 179 [0, 1, 2, 7]), (29, dead 179 [0, 1, 2, 7]), (30, dead 179 [0, 1, 2, 7]), (3, dead 179 [0, 1, 2, 7]), (31, dead 179 [])]
theorem i3 {x0 x1 x2 : AV} (hF : F 3 = some c3) {q : AV × List Row × Option Nat} (h : Ex F (.fn [.t 6]) [.code c3b] ⟨mk 179 [(0, x0), (1, x1), (2, x2)], rows, rows.length⟩ fun r => fin rows r.1 r.2.1 r.2.2 = q) : Ret F 3 [x0, x1, x2] rows = some q := Ret_mk hF h
end Go.Abs
