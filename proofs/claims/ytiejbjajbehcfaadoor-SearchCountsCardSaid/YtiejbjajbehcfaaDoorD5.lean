/- The evaluator's code of a law. -/
import Derived.Test.YtiejbjajbehcfaaDoorA27
import Derived.KernelRfl
set_option linter.unusedVariables false
set_option maxRecDepth 20000
set_option maxHeartbeats 4000000
namespace Go.Abs
variable {F : Nat → Option IFn} {cx : Ctx} {k : List Itm} {s : St} {l : List (Nat × AV)} {rows : List Row} {low : Nat} {r : AV × List Row × Nat → Prop}
/-! tosher/tosherlaw08.SearchCounts -/
def c5r0 : List Seg := [
  .one ⟨some 39, .call (.c (.func 22 [])) [], none⟩,
  .one ⟨some 2, .mv (.t 39), none⟩]
def c5k0 : ICode := .kill (dead 40 []) (.ops c5r0)
@[simp] theorem uc5k0 : Ex F cx (.code c5k0 :: k) ⟨mk 40 l, rows, low⟩ r ↔ bnd (Ret F 22 [] rows) fun q0 => Ex F cx k ⟨mk 40 [(2, q0.1), (39, q0.1)], q0.2.1, (lowO low q0.2.2)⟩ r := reg (keep := []) (ops := c5r0) rfl (by kernel_rfl) (by kernel_rfl)
def c5s1 : ICode := (.seq c5k0 .ret)
@[simp] theorem uc5s1 : Ex F cx (.code c5s1 :: k) s r ↔ Ex F cx (.code (.seq c5k0 .ret) :: k) s r := Iff.rfl
def c5r3 : List Seg := [
  .one ⟨some 8, .mv (.t 3), none⟩,
  .one ⟨some 9, .bin .add (.t 8) (.c (.int .i64 1)), none⟩,
  .one ⟨some 3, .mv (.t 9), none⟩]
def c5k3 : ICode := .kill (dead 40 [0, 3]) (.ops c5r3)
@[simp] theorem uc5k3 : Ex F cx (.code c5k3 :: k) ⟨mk 40 l, rows, low⟩ r ↔ bnd (evP rows (.bin .add (.c (lk l 3)) (.c (.int .i64 1)))) fun v0 => Ex F cx k ⟨mk 40 [(3, v0), (9, v0), (8, lk l 3), (0, lk l 0), (3, lk l 3)], rows, low⟩ r := reg (keep := [0, 3]) (ops := c5r3) rfl (by kernel_rfl) (by kernel_rfl)
def c5r4 : List Seg := [
  .one ⟨some 35, .mv (.t 0), none⟩,
  .one ⟨some 36, .conv .u64 (.t 35), none⟩,
  .one ⟨some 37, .bin .rem (.t 36) (.c (.int .u64 31)), none⟩,
  .one ⟨some 38, .conv .i64 (.t 37), none⟩,
  .one ⟨some 0, .mv (.t 38), none⟩]
def c5k4 : ICode := .kill (dead 40 [0, 3]) (.ops c5r4)
@[simp] theorem uc5k4 : Ex F cx (.code c5k4 :: k) ⟨mk 40 l, rows, low⟩ r ↔ bnd (evP rows (.conv .u64 (.c (lk l 0)))) fun v0 => bnd (evP rows (.bin .rem (.c v0) (.c (.int .u64 31)))) fun v1 => bnd (evP rows (.conv .i64 (.c v1))) fun v2 => Ex F cx k ⟨mk 40 [(0, v2), (38, v2), (37, v1), (36, v0), (35, lk l 0), (0, lk l 0), (3, lk l 3)], rows, low⟩ r := reg (keep := [0, 3]) (ops := c5r4) rfl (by kernel_rfl) (by kernel_rfl)
def c5r5 : List Seg := [
  .one ⟨some 2, .mv (.c (.bool false)), none⟩]
def c5k5 : ICode := .kill (dead 40 []) (.ops c5r5)
@[simp] theorem uc5k5 : Ex F cx (.code c5k5 :: k) ⟨mk 40 l, rows, low⟩ r ↔ Ex F cx k ⟨mk 40 [(2, (.bool false))], rows, low⟩ r := reg (keep := []) (ops := c5r5) rfl (by kernel_rfl) (by kernel_rfl)
def c5s6 : ICode := (.cond (.t 26) (.seq c5k5 .ret) .skip)
@[simp] theorem uc5s6 : Ex F cx (.code c5s6 :: k) s r ↔ Ex F cx (.code (.cond (.t 26) (.seq c5k5 .ret) .skip) :: k) s r := Iff.rfl
def c5r7 : List Seg := [
  .one ⟨some 21, .mv (.t 5), none⟩,
  .one ⟨some 22, .bin .neq (.t 21) (.c (.int .i64 1)), none⟩,
  .one ⟨some 23, .mv (.t 22), none⟩,
  .one ⟨some 24, .mv (.t 4), some (23, false)⟩,
  .one ⟨some 25, .bin .neq (.t 24) (.c (.int .i64 0)), some (23, false)⟩,
  .one ⟨some 26, .pick (.t 23) (.c (.bool true)) (.t 25), none⟩]
def c5k7 : ICode := .kill (dead 40 [0, 3, 4, 5]) (.ops c5r7)
@[simp] theorem uc5k7 : Ex F cx (.code c5k7 :: k) ⟨mk 40 l, rows, low⟩ r ↔ bnd (evP rows (.bin .neq (.c (lk l 5)) (.c (.int .i64 1)))) fun v0 => bnd (gv v0 false (evP rows (.mv (.c (lk l 4))))) fun v1 => bnd (gv v0 false (evP rows (.bin .neq (.c v1) (.c (.int .i64 0))))) fun v2 => bnd (evP rows (.pick (.c v0) (.c (.bool true)) (.c v2))) fun v3 => Ex F cx k ⟨mk 40 [(26, v3), (25, v2), (24, v1), (23, v0), (22, v0), (21, lk l 5), (0, lk l 0), (3, lk l 3), (4, lk l 4), (5, lk l 5)], rows, low⟩ r := reg (keep := [0, 3, 4, 5]) (ops := c5r7) rfl (by kernel_rfl) (by kernel_rfl)
def c5r8 : List Seg := [
  .one ⟨some 2, .mv (.c (.bool false)), none⟩]
def c5k8 : ICode := .kill (dead 40 []) (.ops c5r8)
@[simp] theorem uc5k8 : Ex F cx (.code c5k8 :: k) ⟨mk 40 l, rows, low⟩ r ↔ Ex F cx k ⟨mk 40 [(2, (.bool false))], rows, low⟩ r := reg (keep := []) (ops := c5r8) rfl (by kernel_rfl) (by kernel_rfl)
def c5s9 : ICode := (.cond (.t 34) (.seq c5k8 .ret) .skip)
@[simp] theorem uc5s9 : Ex F cx (.code c5s9 :: k) s r ↔ Ex F cx (.code (.cond (.t 34) (.seq c5k8 .ret) .skip) :: k) s r := Iff.rfl
def c5r10 : List Seg := [
  .one ⟨some 27, .mv (.t 5), none⟩,
  .one ⟨some 28, .bin .neq (.t 27) (.c (.int .i64 0)), none⟩,
  .one ⟨some 29, .mv (.t 28), none⟩,
  .one ⟨some 30, .mv (.t 4), some (29, false)⟩,
  .one ⟨some 31, .mv (.t 0), some (29, false)⟩,
  .one ⟨some 32, .call (.c (.func 24 [])) [(.t 31)], some (29, false)⟩,
  .one ⟨some 33, .bin .neq (.t 30) (.t 32), some (29, false)⟩,
  .one ⟨some 34, .pick (.t 29) (.c (.bool true)) (.t 33), none⟩]
def c5k10 : ICode := .kill (dead 40 [0, 3, 4, 5]) (.ops c5r10)
@[simp] theorem uc5k10 : Ex F cx (.code c5k10 :: k) ⟨mk 40 l, rows, low⟩ r ↔ bnd (evP rows (.bin .neq (.c (lk l 5)) (.c (.int .i64 0)))) fun v0 => bnd (gv v0 false (evP rows (.mv (.c (lk l 4))))) fun v1 => bnd (gv v0 false (evP rows (.mv (.c (lk l 0))))) fun v2 => gcall F v0 false rows low [v2] (.func 24 []) fun v3 R3 L3 => bnd (gv v0 false (evP R3 (.bin .neq (.c v1) (.c v3)))) fun v4 => bnd (evP R3 (.pick (.c v0) (.c (.bool true)) (.c v4))) fun v5 => Ex F cx k ⟨mk 40 [(34, v5), (33, v4), (32, v3), (31, v2), (30, v1), (29, v0), (28, v0), (27, lk l 5), (0, lk l 0), (3, lk l 3), (4, lk l 4), (5, lk l 5)], R3, L3⟩ r := reg (keep := [0, 3, 4, 5]) (ops := c5r10) rfl (by kernel_rfl) (by kernel_rfl)
def c5s11 : ICode := (.cond (.t 20) (.seq c5k7 c5s6) (.seq c5k10 c5s9))
@[simp] theorem uc5s11 : Ex F cx (.code c5s11 :: k) s r ↔ Ex F cx (.code (.cond (.t 20) (.seq c5k7 c5s6) (.seq c5k10 c5s9)) :: k) s r := Iff.rfl
def c5r12 : List Seg := [
  .one ⟨some 15, .mv (.t 0), none⟩,
  .one ⟨some 16, .bin .lss (.t 15) (.c (.int .i64 0)), none⟩,
  .one ⟨some 17, .mv (.t 16), none⟩,
  .one ⟨some 18, .mv (.t 0), some (17, false)⟩,
  .one ⟨some 19, .bin .gtr (.t 18) (.c (.int .i64 30)), some (17, false)⟩,
  .one ⟨some 20, .pick (.t 17) (.c (.bool true)) (.t 19), none⟩]
def c5k12 : ICode := .kill (dead 40 [0, 3, 4, 5]) (.ops c5r12)
@[simp] theorem uc5k12 : Ex F cx (.code c5k12 :: k) ⟨mk 40 l, rows, low⟩ r ↔ bnd (evP rows (.bin .lss (.c (lk l 0)) (.c (.int .i64 0)))) fun v0 => bnd (gv v0 false (evP rows (.mv (.c (lk l 0))))) fun v1 => bnd (gv v0 false (evP rows (.bin .gtr (.c v1) (.c (.int .i64 30))))) fun v2 => bnd (evP rows (.pick (.c v0) (.c (.bool true)) (.c v2))) fun v3 => Ex F cx k ⟨mk 40 [(20, v3), (19, v2), (18, v1), (17, v0), (16, v0), (15, lk l 0), (0, lk l 0), (3, lk l 3), (4, lk l 4), (5, lk l 5)], rows, low⟩ r := reg (keep := [0, 3, 4, 5]) (ops := c5r12) rfl (by kernel_rfl) (by kernel_rfl)
def c5s13 : ICode := (.seq (.seq c5k12 c5s11) c5k4)
@[simp] theorem uc5s13 : Ex F cx (.code c5s13 :: k) s r ↔ Ex F cx (.code (.seq (.seq c5k12 c5s11) c5k4) :: k) s r := Iff.rfl
def c5r14 : List Seg := [
  .one ⟨some 11, .mv (.t 0), none⟩,
  .one ⟨some 12, .call (.c (.func 23 [])) [(.t 11)], none⟩,
  .one ⟨some 10, .mv (.t 12), none⟩,
  .one ⟨some 13, .ext (.t 10) 0, none⟩,
  .one ⟨some 14, .ext (.t 10) 1, none⟩,
  .one ⟨some 4, .mv (.t 13), none⟩,
  .one ⟨some 5, .mv (.t 14), none⟩]
def c5k14 : ICode := .kill (dead 40 [0, 3]) (.ops c5r14)
@[simp] theorem uc5k14 : Ex F cx (.code c5k14 :: k) ⟨mk 40 l, rows, low⟩ r ↔ bnd (Ret F 23 [lk l 0] rows) fun q0 => bnd (evP q0.2.1 (.ext (.c q0.1) 0)) fun v1 => bnd (evP q0.2.1 (.ext (.c q0.1) 1)) fun v2 => Ex F cx k ⟨mk 40 [(5, v2), (4, v1), (14, v2), (13, v1), (10, q0.1), (12, q0.1), (11, lk l 0), (0, lk l 0), (3, lk l 3)], q0.2.1, (lowO low q0.2.2)⟩ r := reg (keep := [0, 3]) (ops := c5r14) rfl (by kernel_rfl) (by kernel_rfl)
def c5s15 : ICode := (.seq (.block 1 (.seq c5k14 c5s13)) c5k3)
@[simp] theorem uc5s15 : Ex F cx (.code c5s15 :: k) s r ↔ Ex F cx (.code (.seq (.block 1 (.seq c5k14 c5s13)) c5k3) :: k) s r := Iff.rfl
def c5s16 : ICode := (.cond (.t 7) .skip (.exit 0))
@[simp] theorem uc5s16 : Ex F cx (.code c5s16 :: k) s r ↔ Ex F cx (.code (.cond (.t 7) .skip (.exit 0)) :: k) s r := Iff.rfl
def c5r17 : List Seg := [
  .one ⟨some 6, .mv (.t 3), none⟩,
  .one ⟨some 7, .bin .lss (.t 6) (.c (.int .i64 2)), none⟩]
def c5k17 : ICode := .kill (dead 40 [0, 3]) (.ops c5r17)
@[simp] theorem uc5k17 : Ex F cx (.code c5k17 :: k) ⟨mk 40 l, rows, low⟩ r ↔ bnd (evP rows (.bin .lss (.c (lk l 3)) (.c (.int .i64 2)))) fun v0 => Ex F cx k ⟨mk 40 [(7, v0), (6, lk l 3), (0, lk l 0), (3, lk l 3)], rows, low⟩ r := reg (keep := [0, 3]) (ops := c5r17) rfl (by kernel_rfl) (by kernel_rfl)
def c5l2 : ICode := (.seq (.seq c5k17 c5s16) c5s15)
def c5s18 : ICode := (.block 0 (.loop c5l2))
@[simp] theorem uc5s18 : Ex F cx (.code c5s18 :: k) s r ↔ Ex F cx (.code (.block 0 (.loop c5l2)) :: k) s r := Iff.rfl
def c5r19 : List Seg := [
  .one ⟨some 3, .mv (.c (.int .i64 0)), none⟩]
def c5k19 : ICode := .kill (dead 40 [0]) (.ops c5r19)
@[simp] theorem uc5k19 : Ex F cx (.code c5k19 :: k) ⟨mk 40 l, rows, low⟩ r ↔ Ex F cx k ⟨mk 40 [(3, (.int .i64 0)), (0, lk l 0)], rows, low⟩ r := reg (keep := [0]) (ops := c5r19) rfl (by kernel_rfl) (by kernel_rfl)
def c5s20 : ICode := (.seq (.seq c5k19 c5s18) c5s1)
@[simp] theorem uc5s20 : Ex F cx (.code c5s20 :: k) s r ↔ Ex F cx (.code (.seq (.seq c5k19 c5s18) c5s1) :: k) s r := Iff.rfl
def c5r21 : List Seg := [
  .one ⟨some 2, .mv (.c (.bool false)), none⟩]
def c5k21 : ICode := .kill (dead 40 [0]) (.ops c5r21)
@[simp] theorem uc5k21 : Ex F cx (.code c5k21 :: k) ⟨mk 40 l, rows, low⟩ r ↔ Ex F cx k ⟨mk 40 [(2, (.bool false)), (0, lk l 0)], rows, low⟩ r := reg (keep := [0]) (ops := c5r21) rfl (by kernel_rfl) (by kernel_rfl)
def Jc5s15 (F : Nat → Option IFn) (cx : Ctx) (x0 x3 : AV) (rows : List Row) (low : Nat) (r : AV × List Row × Nat → Prop) : Prop := Ex F cx (.code c5s15 :: .inLoop c5l2 :: .inBlock 0 :: .code c5s1 :: []) ⟨mk 40 [(0, x0), (3, x3)], rows, low⟩ r
theorem jc5s15 : Ex F cx (.code c5s15 :: .inLoop c5l2 :: .inBlock 0 :: .code c5s1 :: []) ⟨mk 40 l, rows, low⟩ r ↔ Jc5s15 F cx (lk l 0) (lk l 3) rows low r := Ex_canon (keep := [0, 3]) (by kernel_rfl)
def Lc5l2 (F : Nat → Option IFn) (cx : Ctx) (x0 x3 : AV) (rows : List Row) (low : Nat) (r : AV × List Row × Nat → Prop) : Prop := Ex F cx (.code c5l2 :: .inLoop c5l2 :: .inBlock 0 :: .code c5s1 :: []) ⟨mk 40 [(0, x0), (3, x3)], rows, low⟩ r
@[simp] theorem nc5l2 : Ex F cx (.inLoop c5l2 :: .inBlock 0 :: .code c5s1 :: []) ⟨mk 40 l, rows, low⟩ r ↔ Lc5l2 F cx (lk l 0) (lk l 3) rows low r := loopN (keep := [0, 3]) (by kernel_rfl)
@[simp] theorem ec5l2 : Ex F cx (.code (.loop c5l2) :: .inBlock 0 :: .code c5s1 :: []) ⟨mk 40 l, rows, low⟩ r ↔ Lc5l2 F cx (lk l 0) (lk l 3) rows low r := loopE (keep := [0, 3]) (by kernel_rfl)
@[simp] theorem uc5l2 : Ex F cx (.code c5l2 :: k) s r ↔ Ex F cx (.code (.seq (.seq c5k17 c5s16) c5s15) :: k) s r := Iff.rfl
def c5b : ICode := (.seq c5k21 c5s20)
@[simp] theorem uc5b : Ex F cx (.code c5b :: k) s r ↔ Ex F cx (.code (.seq c5k21 c5s20) :: k) s r := Iff.rfl
def c5 : IFn := ⟨40, [.t 2], c5b⟩
def h5 : List (Nat × List Nat) := [(0, dead 40 [0]), (1, dead 40 [0]), (2, dead 40 [0, 3]), (4, dead 40 [0, 3]), (5, dead 40 [0, 3, 4, 5]), (6, dead 40 [0, 3, 4, 5]), (7, dead 40 []), (8, dead 40 [0, 3, 4, 5]), (9, dead 40 []), (10, dead 40 [0, 3]), (3, dead 40 [0, 3]), (11, dead 40 [])]
theorem i5 {x0 : AV} (hF : F 5 = some c5) {q : AV × List Row × Option Nat} (h : Ex F (.fn [.t 2]) [.code c5b] ⟨mk 40 [(0, x0)], rows, rows.length⟩ fun r => fin rows r.1 r.2.1 r.2.2 = q) : Ret F 5 [x0] rows = some q := Ret_mk hF h
end Go.Abs
