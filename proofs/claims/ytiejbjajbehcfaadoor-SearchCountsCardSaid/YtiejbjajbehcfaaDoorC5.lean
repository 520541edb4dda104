/- The evaluator's code of the cut's functions. -/
import Derived.Test.YtiejbjajbehcfaaDoorA27
import Derived.KernelRfl
set_option linter.unusedVariables false
set_option maxRecDepth 20000
set_option maxHeartbeats 4000000
namespace Go.Abs
variable {F : Nat → Option IFn} {cx : Ctx} {k : List Itm} {s : St} {l : List (Nat × AV)} {rows : List Row} {low : Nat} {r : AV × List Row × Nat → Prop}
/-! (*tosher/search.tree).reached -/
def c70r0 : List Seg := [
  .one ⟨some 36, .mv (.t 7), none⟩,
  .one ⟨some 6, .mv (.t 36), none⟩]
def c70k0 : ICode := .kill (dead 37 [7]) (.ops c70r0)
@[simp] theorem uc70k0 : Ex F cx (.code c70k0 :: k) ⟨mk 37 l, rows, low⟩ r ↔ Ex F cx k ⟨mk 37 [(6, lk l 7), (36, lk l 7), (7, lk l 7)], rows, low⟩ r := reg (keep := [7]) (ops := c70r0) rfl (by kernel_rfl) (by kernel_rfl)
def c70s1 : ICode := (.seq c70k0 .ret)
@[simp] theorem uc70s1 : Ex F cx (.code c70s1 :: k) s r ↔ Ex F cx (.code (.seq c70k0 .ret) :: k) s r := Iff.rfl
def c70r4 : List Seg := [
  .one ⟨some 35, .bin .add (.t 21) (.c (.int .i64 1)), none⟩,
  .one ⟨some 21, .mv (.t 35), none⟩]
def c70k4 : ICode := .kill (dead 37 [0, 2, 7, 8, 19, 20, 21]) (.ops c70r4)
@[simp] theorem uc70k4 : Ex F cx (.code c70k4 :: k) ⟨mk 37 l, rows, low⟩ r ↔ bnd (evP rows (.bin .add (.c (lk l 21)) (.c (.int .i64 1)))) fun v0 => Ex F cx k ⟨mk 37 [(21, v0), (35, v0), (0, lk l 0), (2, lk l 2), (7, lk l 7), (8, lk l 8), (19, lk l 19), (20, lk l 20), (21, lk l 21)], rows, low⟩ r := reg (keep := [0, 2, 7, 8, 19, 20, 21]) (ops := c70r4) rfl (by kernel_rfl) (by kernel_rfl)
def c70r5 : List Seg := [
  .one ⟨some 25, .mv (.t 7), none⟩,
  .one ⟨some 26, .mv (.t 0), none⟩,
  .one ⟨some 27, .mv (.t 10), none⟩,
  .one ⟨some 28, .nilck (.t 26), none⟩,
  .one ⟨some 29, .fieldA 1 (.t 28), none⟩,
  .one ⟨some 30, .idxA 10 1 (.t 29) (.t 27), none⟩,
  .one ⟨some 31, .load1 (.t 30), none⟩,
  .one ⟨some 32, .mv (.t 2), none⟩,
  .one ⟨some 33, .bin .and (.t 31) (.t 32), none⟩,
  .one ⟨some 34, .bin .or (.t 25) (.t 33), none⟩,
  .one ⟨some 7, .mv (.t 34), none⟩]
def c70k5 : ICode := .kill (dead 37 [0, 2, 7, 8, 10, 19, 20, 21]) (.ops c70r5)
@[simp] theorem uc70k5 : Ex F cx (.code c70k5 :: k) ⟨mk 37 l, rows, low⟩ r ↔ bnd (evP rows (.nilck (.c (lk l 0)))) fun v0 => bnd (evP rows (.fieldA 1 (.c v0))) fun v1 => bnd (evP rows (.idxA 10 1 (.c v1) (.c (lk l 10)))) fun v2 => bnd (evP rows (.load1 (.c v2))) fun v3 => bnd (evP rows (.bin .and (.c v3) (.c (lk l 2)))) fun v4 => bnd (evP rows (.bin .or (.c (lk l 7)) (.c v4))) fun v5 => Ex F cx k ⟨mk 37 [(7, v5), (34, v5), (33, v4), (32, lk l 2), (31, v3), (30, v2), (29, v1), (28, v0), (27, lk l 10), (26, lk l 0), (25, lk l 7), (0, lk l 0), (2, lk l 2), (7, lk l 7), (8, lk l 8), (10, lk l 10), (19, lk l 19), (20, lk l 20), (21, lk l 21)], rows, low⟩ r := reg (keep := [0, 2, 7, 8, 10, 19, 20, 21]) (ops := c70r5) rfl (by kernel_rfl) (by kernel_rfl)
def c70r6 : List Seg := [
  .one ⟨some 23, .idxS 1 (.t 19) (.t 21), none⟩,
  .one ⟨some 24, .load1 (.t 23), none⟩,
  .one ⟨some 10, .mv (.t 24), none⟩]
def c70k6 : ICode := .kill (dead 37 [0, 2, 7, 8, 19, 20, 21]) (.ops c70r6)
@[simp] theorem uc70k6 : Ex F cx (.code c70k6 :: k) ⟨mk 37 l, rows, low⟩ r ↔ bnd (evP rows (.idxS 1 (.c (lk l 19)) (.c (lk l 21)))) fun v0 => bnd (evP rows (.load1 (.c v0))) fun v1 => Ex F cx k ⟨mk 37 [(10, v1), (24, v1), (23, v0), (0, lk l 0), (2, lk l 2), (7, lk l 7), (8, lk l 8), (19, lk l 19), (20, lk l 20), (21, lk l 21)], rows, low⟩ r := reg (keep := [0, 2, 7, 8, 19, 20, 21]) (ops := c70r6) rfl (by kernel_rfl) (by kernel_rfl)
def c70s7 : ICode := (.seq (.block 3 (.seq c70k6 c70k5)) c70k4)
@[simp] theorem uc70s7 : Ex F cx (.code c70s7 :: k) s r ↔ Ex F cx (.code (.seq (.block 3 (.seq c70k6 c70k5)) c70k4) :: k) s r := Iff.rfl
def c70s8 : ICode := (.seq (.cond (.t 22) .skip (.exit 2)) c70s7)
@[simp] theorem uc70s8 : Ex F cx (.code c70s8 :: k) s r ↔ Ex F cx (.code (.seq (.cond (.t 22) .skip (.exit 2)) c70s7) :: k) s r := Iff.rfl
def c70r9 : List Seg := [
  .one ⟨some 22, .bin .lss (.t 21) (.t 20), none⟩]
def c70k9 : ICode := .kill (dead 37 [0, 2, 7, 8, 19, 20, 21]) (.ops c70r9)
@[simp] theorem uc70k9 : Ex F cx (.code c70k9 :: k) ⟨mk 37 l, rows, low⟩ r ↔ bnd (evP rows (.bin .lss (.c (lk l 21)) (.c (lk l 20)))) fun v0 => Ex F cx k ⟨mk 37 [(22, v0), (0, lk l 0), (2, lk l 2), (7, lk l 7), (8, lk l 8), (19, lk l 19), (20, lk l 20), (21, lk l 21)], rows, low⟩ r := reg (keep := [0, 2, 7, 8, 19, 20, 21]) (ops := c70r9) rfl (by kernel_rfl) (by kernel_rfl)
def c70l3 : ICode := (.seq c70k9 c70s8)
def c70s10 : ICode := (.block 2 (.loop c70l3))
@[simp] theorem uc70s10 : Ex F cx (.code c70s10 :: k) s r ↔ Ex F cx (.code (.block 2 (.loop c70l3)) :: k) s r := Iff.rfl
def c70r11 : List Seg := [
  .one ⟨some 18, .mv (.t 7), none⟩,
  .one ⟨some 19, .call (.c (.func 69 [])) [(.t 18)], none⟩,
  .one ⟨some 20, .len 0 (.t 19), none⟩,
  .one ⟨some 21, .mv (.c (.int .i64 0)), none⟩]
def c70k11 : ICode := .kill (dead 37 [0, 2, 7, 8]) (.ops c70r11)
@[simp] theorem uc70k11 : Ex F cx (.code c70k11 :: k) ⟨mk 37 l, rows, low⟩ r ↔ bnd (Ret F 69 [lk l 7] rows) fun q0 => bnd (evP q0.2.1 (.len 0 (.c q0.1))) fun v1 => Ex F cx k ⟨mk 37 [(21, (.int .i64 0)), (20, v1), (19, q0.1), (18, lk l 7), (0, lk l 0), (2, lk l 2), (7, lk l 7), (8, lk l 8)], q0.2.1, (lowO low q0.2.2)⟩ r := reg (keep := [0, 2, 7, 8]) (ops := c70r11) rfl (by kernel_rfl) (by kernel_rfl)
def c70s12 : ICode := (.seq c70k11 c70s10)
@[simp] theorem uc70s12 : Ex F cx (.code c70s12 :: k) s r ↔ Ex F cx (.code (.seq c70k11 c70s10) :: k) s r := Iff.rfl
def c70r13 : List Seg := [
  .one ⟨some 17, .mv (.t 7), none⟩,
  .one ⟨some 8, .mv (.t 17), none⟩]
def c70k13 : ICode := .kill (dead 37 [0, 2, 7]) (.ops c70r13)
@[simp] theorem uc70k13 : Ex F cx (.code c70k13 :: k) ⟨mk 37 l, rows, low⟩ r ↔ Ex F cx k ⟨mk 37 [(8, lk l 7), (17, lk l 7), (0, lk l 0), (2, lk l 2), (7, lk l 7)], rows, low⟩ r := reg (keep := [0, 2, 7]) (ops := c70r13) rfl (by kernel_rfl) (by kernel_rfl)
def c70s14 : ICode := (.block 1 (.seq c70k13 c70s12))
@[simp] theorem uc70s14 : Ex F cx (.code c70s14 :: k) s r ↔ Ex F cx (.code (.block 1 (.seq c70k13 c70s12)) :: k) s r := Iff.rfl
def c70s15 : ICode := (.cond (.t 16) .skip (.exit 0))
@[simp] theorem uc70s15 : Ex F cx (.code c70s15 :: k) s r ↔ Ex F cx (.code (.cond (.t 16) .skip (.exit 0)) :: k) s r := Iff.rfl
def c70r16 : List Seg := [
  .one ⟨some 14, .mv (.t 8), none⟩,
  .one ⟨some 15, .mv (.t 7), none⟩,
  .one ⟨some 16, .bin .neq (.t 14) (.t 15), none⟩]
def c70k16 : ICode := .kill (dead 37 [0, 2, 7, 8]) (.ops c70r16)
@[simp] theorem uc70k16 : Ex F cx (.code c70k16 :: k) ⟨mk 37 l, rows, low⟩ r ↔ bnd (evP rows (.bin .neq (.c (lk l 8)) (.c (lk l 7)))) fun v0 => Ex F cx k ⟨mk 37 [(16, v0), (15, lk l 7), (14, lk l 8), (0, lk l 0), (2, lk l 2), (7, lk l 7), (8, lk l 8)], rows, low⟩ r := reg (keep := [0, 2, 7, 8]) (ops := c70r16) rfl (by kernel_rfl) (by kernel_rfl)
def c70l2 : ICode := (.seq (.seq c70k16 c70s15) c70s14)
def c70s17 : ICode := (.block 0 (.loop c70l2))
@[simp] theorem uc70s17 : Ex F cx (.code c70s17 :: k) s r ↔ Ex F cx (.code (.block 0 (.loop c70l2)) :: k) s r := Iff.rfl
def c70r18 : List Seg := [
  .one ⟨some 8, .mv (.c (.int .i64 0)), none⟩]
def c70k18 : ICode := .kill (dead 37 [0, 2, 7]) (.ops c70r18)
@[simp] theorem uc70k18 : Ex F cx (.code c70k18 :: k) ⟨mk 37 l, rows, low⟩ r ↔ Ex F cx k ⟨mk 37 [(8, (.int .i64 0)), (0, lk l 0), (2, lk l 2), (7, lk l 7)], rows, low⟩ r := reg (keep := [0, 2, 7]) (ops := c70r18) rfl (by kernel_rfl) (by kernel_rfl)
def c70s19 : ICode := (.seq (.seq c70k18 c70s17) c70s1)
@[simp] theorem uc70s19 : Ex F cx (.code c70s19 :: k) s r ↔ Ex F cx (.code (.seq (.seq c70k18 c70s17) c70s1) :: k) s r := Iff.rfl
def c70r20 : List Seg := [
  .one ⟨some 11, .mv (.t 1), none⟩,
  .one ⟨some 12, .conv .u64 (.t 11), none⟩,
  .one ⟨some 13, .bin .shl (.c (.int .i64 1)) (.t 12), none⟩,
  .one ⟨some 7, .mv (.t 13), none⟩]
def c70k20 : ICode := .kill (dead 37 [0, 1, 2]) (.ops c70r20)
@[simp] theorem uc70k20 : Ex F cx (.code c70k20 :: k) ⟨mk 37 l, rows, low⟩ r ↔ bnd (evP rows (.conv .u64 (.c (lk l 1)))) fun v0 => bnd (evP rows (.bin .shl (.c (.int .i64 1)) (.c v0))) fun v1 => Ex F cx k ⟨mk 37 [(7, v1), (13, v1), (12, v0), (11, lk l 1), (0, lk l 0), (1, lk l 1), (2, lk l 2)], rows, low⟩ r := reg (keep := [0, 1, 2]) (ops := c70r20) rfl (by kernel_rfl) (by kernel_rfl)
def c70s21 : ICode := (.seq c70k20 c70s19)
@[simp] theorem uc70s21 : Ex F cx (.code c70s21 :: k) s r ↔ Ex F cx (.code (.seq c70k20 c70s19) :: k) s r := Iff.rfl
def c70r22 : List Seg := [
  .one ⟨some 6, .mv (.c (.int .i64 0)), none⟩]
def c70k22 : ICode := .kill (dead 37 [0, 1, 2]) (.ops c70r22)
@[simp] theorem uc70k22 : Ex F cx (.code c70k22 :: k) ⟨mk 37 l, rows, low⟩ r ↔ Ex F cx k ⟨mk 37 [(6, (.int .i64 0)), (0, lk l 0), (1, lk l 1), (2, lk l 2)], rows, low⟩ r := reg (keep := [0, 1, 2]) (ops := c70r22) rfl (by kernel_rfl) (by kernel_rfl)
def Jc70s7 (F : Nat → Option IFn) (cx : Ctx) (x0 x2 x7 x8 x19 x20 x21 : AV) (rows : List Row) (low : Nat) (r : AV × List Row × Nat → Prop) : Prop := Ex F cx (.code c70s7 :: .inLoop c70l3 :: .inBlock 2 :: .inBlock 1 :: .inLoop c70l2 :: .inBlock 0 :: .code c70s1 :: []) ⟨mk 37 [(0, x0), (2, x2), (7, x7), (8, x8), (19, x19), (20, x20), (21, x21)], rows, low⟩ r
theorem jc70s7 : Ex F cx (.code c70s7 :: .inLoop c70l3 :: .inBlock 2 :: .inBlock 1 :: .inLoop c70l2 :: .inBlock 0 :: .code c70s1 :: []) ⟨mk 37 l, rows, low⟩ r ↔ Jc70s7 F cx (lk l 0) (lk l 2) (lk l 7) (lk l 8) (lk l 19) (lk l 20) (lk l 21) rows low r := Ex_canon (keep := [0, 2, 7, 8, 19, 20, 21]) (by kernel_rfl)
def Lc70l3 (F : Nat → Option IFn) (cx : Ctx) (x0 x2 x7 x8 x19 x20 x21 : AV) (rows : List Row) (low : Nat) (r : AV × List Row × Nat → Prop) : Prop := Ex F cx (.code c70l3 :: .inLoop c70l3 :: .inBlock 2 :: .inBlock 1 :: .inLoop c70l2 :: .inBlock 0 :: .code c70s1 :: []) ⟨mk 37 [(0, x0), (2, x2), (7, x7), (8, x8), (19, x19), (20, x20), (21, x21)], rows, low⟩ r
@[simp] theorem nc70l3 : Ex F cx (.inLoop c70l3 :: .inBlock 2 :: .inBlock 1 :: .inLoop c70l2 :: .inBlock 0 :: .code c70s1 :: []) ⟨mk 37 l, rows, low⟩ r ↔ Lc70l3 F cx (lk l 0) (lk l 2) (lk l 7) (lk l 8) (lk l 19) (lk l 20) (lk l 21) rows low r := loopN (keep := [0, 2, 7, 8, 19, 20, 21]) (by kernel_rfl)
@[simp] theorem ec70l3 : Ex F cx (.code (.loop c70l3) :: .inBlock 2 :: .inBlock 1 :: .inLoop c70l2 :: .inBlock 0 :: .code c70s1 :: []) ⟨mk 37 l, rows, low⟩ r ↔ Lc70l3 F cx (lk l 0) (lk l 2) (lk l 7) (lk l 8) (lk l 19) (lk l 20) (lk l 21) rows low r := loopE (keep := [0, 2, 7, 8, 19, 20, 21]) (by kernel_rfl)
@[simp] theorem uc70l3 : Ex F cx (.code c70l3 :: k) s r ↔ Ex F cx (.code (.seq c70k9 c70s8) :: k) s r := Iff.rfl
def Jc70s14 (F : Nat → Option IFn) (cx : Ctx) (x0 x2 x7 : AV) (rows : List Row) (low : Nat) (r : AV × List Row × Nat → Prop) : Prop := Ex F cx (.code c70s14 :: .inLoop c70l2 :: .inBlock 0 :: .code c70s1 :: []) ⟨mk 37 [(0, x0), (2, x2), (7, x7)], rows, low⟩ r
theorem jc70s14 : Ex F cx (.code c70s14 :: .inLoop c70l2 :: .inBlock 0 :: .code c70s1 :: []) ⟨mk 37 l, rows, low⟩ r ↔ Jc70s14 F cx (lk l 0) (lk l 2) (lk l 7) rows low r := Ex_canon (keep := [0, 2, 7]) (by kernel_rfl)
def Lc70l2 (F : Nat → Option IFn) (cx : Ctx) (x0 x2 x7 x8 : AV) (rows : List Row) (low : Nat) (r : AV × List Row × Nat → Prop) : Prop := Ex F cx (.code c70l2 :: .inLoop c70l2 :: .inBlock 0 :: .code c70s1 :: []) ⟨mk 37 [(0, x0), (2, x2), (7, x7), (8, x8)], rows, low⟩ r
@[simp] theorem nc70l2 : Ex F cx (.inLoop c70l2 :: .inBlock 0 :: .code c70s1 :: []) ⟨mk 37 l, rows, low⟩ r ↔ Lc70l2 F cx (lk l 0) (lk l 2) (lk l 7) (lk l 8) rows low r := loopN (keep := [0, 2, 7, 8]) (by kernel_rfl)
@[simp] theorem ec70l2 : Ex F cx (.code (.loop c70l2) :: .inBlock 0 :: .code c70s1 :: []) ⟨mk 37 l, rows, low⟩ r ↔ Lc70l2 F cx (lk l 0) (lk l 2) (lk l 7) (lk l 8) rows low r := loopE (keep := [0, 2, 7, 8]) (by kernel_rfl)
@[simp] theorem uc70l2 : Ex F cx (.code c70l2 :: k) s r ↔ Ex F cx (.code (.seq (.seq c70k16 c70s15) c70s14) :: k) s r := Iff.rfl
def c70b : ICode := (.seq c70k22 c70s21)
@[simp] theorem uc70b : Ex F cx (.code c70b :: k) s r ↔ Ex F cx (.code (.seq c70k22 c70s21) :: k) s r := Iff.rfl
def c70 : IFn := ⟨37, [.t 6], c70b⟩
def h70 : List (Nat × List Nat) := [(0, dead 37 [0, 1, 2]), (1, dead 37 [0, 1, 2]), (2, dead 37 [0, 2, 7]), (3, dead 37 [0, 2, 7, 8]), (4, dead 37 [0, 2, 7]), (5, dead 37 [0, 2, 7, 8]), (6, dead 37 [0, 2, 7, 8, 19, 20, 21]), (7, dead 37 [0, 2, 7, 8, 19, 20, 21]), (8, dead 37 [0, 2, 7, 8, 10, 19, 20, 21]), (9, dead 37 [0, 2, 7, 8, 19, 20, 21]), (10, dead 37 [7])]
theorem i70 {x0 x1 x2 : AV} (hF : F 70 = some c70) {q : AV × List Row × Option Nat} (h : Ex F (.fn [.t 6]) [.code c70b] ⟨mk 37 [(0, x0), (1, x1), (2, x2)], rows, rows.length⟩ fun r => fin rows r.1 r.2.1 r.2.2 = q) : Ret F 70 [x0, x1, x2] rows = some q := Ret_mk hF h
/-! tosher/tosherref08.Parts -/
def c71r0 : List Seg := [
  .one ⟨some 79, .mv (.t 7), none⟩,
  .one ⟨some 6, .mv (.t 79), none⟩]
def c71k0 : ICode := .kill (dead 80 [7]) (.ops c71r0)
@[simp] theorem uc71k0 : Ex F cx (.code c71k0 :: k) ⟨mk 80 l, rows, low⟩ r ↔ Ex F cx k ⟨mk 80 [(6, lk l 7), (79, lk l 7), (7, lk l 7)], rows, low⟩ r := reg (keep := [7]) (ops := c71r0) rfl (by kernel_rfl) (by kernel_rfl)
def c71s1 : ICode := (.seq c71k0 .ret)
@[simp] theorem uc71s1 : Ex F cx (.code c71s1 :: k) s r ↔ Ex F cx (.code (.seq c71k0 .ret) :: k) s r := Iff.rfl
def c71r3 : List Seg := [
  .one ⟨some 17, .mv (.t 8), none⟩,
  .one ⟨some 18, .bin .add (.t 17) (.c (.int .i64 1)), none⟩,
  .one ⟨some 8, .mv (.t 18), none⟩]
def c71k3 : ICode := .kill (dead 80 [0, 1, 2, 7, 8]) (.ops c71r3)
@[simp] theorem uc71k3 : Ex F cx (.code c71k3 :: k) ⟨mk 80 l, rows, low⟩ r ↔ bnd (evP rows (.bin .add (.c (lk l 8)) (.c (.int .i64 1)))) fun v0 => Ex F cx k ⟨mk 80 [(8, v0), (18, v0), (17, lk l 8), (0, lk l 0), (1, lk l 1), (2, lk l 2), (7, lk l 7), (8, lk l 8)], rows, low⟩ r := reg (keep := [0, 1, 2, 7, 8]) (ops := c71r3) rfl (by kernel_rfl) (by kernel_rfl)
def c71r4 : List Seg := [
  .one ⟨some 76, .mv (.t 2), none⟩,
  .one ⟨some 77, .mv (.t 9), none⟩,
  .one ⟨some 78, .bin .andNot (.t 76) (.t 77), none⟩,
  .one ⟨some 2, .mv (.t 78), none⟩]
def c71k4 : ICode := .kill (dead 80 [0, 1, 2, 7, 8, 9]) (.ops c71r4)
@[simp] theorem uc71k4 : Ex F cx (.code c71k4 :: k) ⟨mk 80 l, rows, low⟩ r ↔ bnd (evP rows (.bin .andNot (.c (lk l 2)) (.c (lk l 9)))) fun v0 => Ex F cx k ⟨mk 80 [(2, v0), (78, v0), (77, lk l 9), (76, lk l 2), (0, lk l 0), (1, lk l 1), (2, lk l 2), (7, lk l 7), (8, lk l 8), (9, lk l 9)], rows, low⟩ r := reg (keep := [0, 1, 2, 7, 8, 9]) (ops := c71r4) rfl (by kernel_rfl) (by kernel_rfl)
def c71r5 : List Seg := [
  .one ⟨some 72, .mv (.t 7), none⟩,
  .one ⟨some 73, .mv (.t 9), none⟩,
  .one ⟨some 74, .mkslice 1 [.int .i64 0] [(0, 1, (.t 73))], none⟩,
  .one ⟨some 75, .app 1 8 (.t 72) (.t 74), none⟩,
  .one ⟨some 7, .mv (.t 75), none⟩]
def c71k5 : ICode := .kill (dead 80 [0, 1, 2, 7, 8, 9]) (.ops c71r5)
@[simp] theorem uc71k5 : Ex F cx (.code c71k5 :: k) ⟨mk 80 l, rows, low⟩ r ↔ bnd (evE rows low (.mkslice 1 [.int .i64 0] [(0, 1, (.c (lk l 9)))])) fun q0 => bnd (evE q0.2.1 q0.2.2 (.app 1 8 (.c (lk l 7)) (.c q0.1))) fun q1 => Ex F cx k ⟨mk 80 [(7, q1.1), (75, q1.1), (74, q0.1), (73, lk l 9), (72, lk l 7), (0, lk l 0), (1, lk l 1), (2, lk l 2), (7, lk l 7), (8, lk l 8), (9, lk l 9)], q1.2.1, q1.2.2⟩ r := reg (keep := [0, 1, 2, 7, 8, 9]) (ops := c71r5) rfl (by kernel_rfl) (by kernel_rfl)
def c71s6 : ICode := (.seq c71k5 c71k4)
@[simp] theorem uc71s6 : Ex F cx (.code c71s6 :: k) s r ↔ Ex F cx (.code (.seq c71k5 c71k4) :: k) s r := Iff.rfl
def c71r8 : List Seg := [
  .one ⟨some 29, .mv (.t 10), none⟩,
  .one ⟨some 30, .bin .add (.t 29) (.c (.int .i64 1)), none⟩,
  .one ⟨some 10, .mv (.t 30), none⟩]
def c71k8 : ICode := .kill (dead 80 [0, 1, 2, 7, 8, 9, 10]) (.ops c71r8)
@[simp] theorem uc71k8 : Ex F cx (.code c71k8 :: k) ⟨mk 80 l, rows, low⟩ r ↔ bnd (evP rows (.bin .add (.c (lk l 10)) (.c (.int .i64 1)))) fun v0 => Ex F cx k ⟨mk 80 [(10, v0), (30, v0), (29, lk l 10), (0, lk l 0), (1, lk l 1), (2, lk l 2), (7, lk l 7), (8, lk l 8), (9, lk l 9), (10, lk l 10)], rows, low⟩ r := reg (keep := [0, 1, 2, 7, 8, 9, 10]) (ops := c71r8) rfl (by kernel_rfl) (by kernel_rfl)
def c71r10 : List Seg := [
  .one ⟨some 35, .mv (.t 11), none⟩,
  .one ⟨some 36, .bin .add (.t 35) (.c (.int .i64 1)), none⟩,
  .one ⟨some 11, .mv (.t 36), none⟩]
def c71k10 : ICode := .kill (dead 80 [0, 1, 2, 7, 8, 9, 10, 11]) (.ops c71r10)
@[simp] theorem uc71k10 : Ex F cx (.code c71k10 :: k) ⟨mk 80 l, rows, low⟩ r ↔ bnd (evP rows (.bin .add (.c (lk l 11)) (.c (.int .i64 1)))) fun v0 => Ex F cx k ⟨mk 80 [(11, v0), (36, v0), (35, lk l 11), (0, lk l 0), (1, lk l 1), (2, lk l 2), (7, lk l 7), (8, lk l 8), (9, lk l 9), (10, lk l 10), (11, lk l 11)], rows, low⟩ r := reg (keep := [0, 1, 2, 7, 8, 9, 10, 11]) (ops := c71r10) rfl (by kernel_rfl) (by kernel_rfl)
def c71r11 : List Seg := [
  .one ⟨some 67, .mv (.t 9), none⟩,
  .one ⟨some 68, .mv (.t 12), none⟩,
  .one ⟨some 69, .bin .or (.t 67) (.t 68), none⟩,
  .one ⟨some 70, .mv (.t 13), none⟩,
  .one ⟨some 71, .bin .or (.t 69) (.t 70), none⟩,
  .one ⟨some 9, .mv (.t 71), none⟩]
def c71k11 : ICode := .kill (dead 80 [0, 1, 2, 7, 8, 9, 10, 11, 12, 13]) (.ops c71r11)
@[simp] theorem uc71k11 : Ex F cx (.code c71k11 :: k) ⟨mk 80 l, rows, low⟩ r ↔ bnd (evP rows (.bin .or (.c (lk l 9)) (.c (lk l 12)))) fun v0 => bnd (evP rows (.bin .or (.c v0) (.c (lk l 13)))) fun v1 => Ex F cx k ⟨mk 80 [(9, v1), (71, v1), (70, lk l 13), (69, v0), (68, lk l 12), (67, lk l 9), (0, lk l 0), (1, lk l 1), (2, lk l 2), (7, lk l 7), (8, lk l 8), (9, lk l 9), (10, lk l 10), (11, lk l 11), (12, lk l 12), (13, lk l 13)], rows, low⟩ r := reg (keep := [0, 1, 2, 7, 8, 9, 10, 11, 12, 13]) (ops := c71r11) rfl (by kernel_rfl) (by kernel_rfl)
def c71s12 : ICode := (.cond (.t 66) c71k11 .skip)
@[simp] theorem uc71s12 : Ex F cx (.code c71s12 :: k) s r ↔ Ex F cx (.code (.cond (.t 66) c71k11 .skip) :: k) s r := Iff.rfl
def c71r13 : List Seg := [
  .one ⟨some 49, .mv (.t 2), none⟩,
  .one ⟨some 50, .mv (.t 12), none⟩,
  .one ⟨some 51, .bin .and (.t 49) (.t 50), none⟩,
  .one ⟨some 52, .bin .neq (.t 51) (.c (.int .i64 0)), none⟩,
  .one ⟨some 53, .mv (.t 52), none⟩,
  .one ⟨some 54, .mv (.t 2), some (53, true)⟩,
  .one ⟨some 55, .mv (.t 13), some (53, true)⟩,
  .one ⟨some 56, .bin .and (.t 54) (.t 55), some (53, true)⟩,
  .one ⟨some 57, .bin .neq (.t 56) (.c (.int .i64 0)), some (53, true)⟩,
  .one ⟨some 58, .pick (.t 53) (.t 57) (.c (.bool false)), none⟩,
  .one ⟨some 59, .mv (.t 58), none⟩,
  .one ⟨some 60, .mv (.t 9), some (59, true)⟩,
  .one ⟨some 61, .mv (.t 12), some (59, true)⟩,
  .one ⟨some 62, .mv (.t 13), some (59, true)⟩,
  .one ⟨some 63, .bin .or (.t 61) (.t 62), some (59, true)⟩,
  .one ⟨some 64, .bin .and (.t 60) (.t 63), some (59, true)⟩,
  .one ⟨some 65, .bin .neq (.t 64) (.c (.int .i64 0)), some (59, true)⟩,
  .one ⟨some 66, .pick (.t 59) (.t 65) (.c (.bool false)), none⟩]
def c71k13 : ICode := .kill (dead 80 [0, 1, 2, 7, 8, 9, 10, 11, 12, 13]) (.ops c71r13)
@[simp] theorem uc71k13 : Ex F cx (.code c71k13 :: k) ⟨mk 80 l, rows, low⟩ r ↔ bnd (evP rows (.bin .and (.c (lk l 2)) (.c (lk l 12)))) fun v0 => bnd (evP rows (.bin .neq (.c v0) (.c (.int .i64 0)))) fun v1 => bnd (gv v1 true (evP rows (.mv (.c (lk l 2))))) fun v2 => bnd (gv v1 true (evP rows (.mv (.c (lk l 13))))) fun v3 => bnd (gv v1 true (evP rows (.bin .and (.c v2) (.c v3)))) fun v4 => bnd (gv v1 true (evP rows (.bin .neq (.c v4) (.c (.int .i64 0))))) fun v5 => bnd (evP rows (.pick (.c v1) (.c v5) (.c (.bool false)))) fun v6 => bnd (gv v6 true (evP rows (.mv (.c (lk l 9))))) fun v7 => bnd (gv v6 true (evP rows (.mv (.c (lk l 12))))) fun v8 => bnd (gv v6 true (evP rows (.mv (.c (lk l 13))))) fun v9 => bnd (gv v6 true (evP rows (.bin .or (.c v8) (.c v9)))) fun v10 => bnd (gv v6 true (evP rows (.bin .and (.c v7) (.c v10)))) fun v11 => bnd (gv v6 true (evP rows (.bin .neq (.c v11) (.c (.int .i64 0))))) fun v12 => bnd (evP rows (.pick (.c v6) (.c v12) (.c (.bool false)))) fun v13 => Ex F cx k ⟨mk 80 [(66, v13), (65, v12), (64, v11), (63, v10), (62, v9), (61, v8), (60, v7), (59, v6), (58, v6), (57, v5), (56, v4), (55, v3), (54, v2), (53, v1), (52, v1), (51, v0), (50, lk l 12), (49, lk l 2), (0, lk l 0), (1, lk l 1), (2, lk l 2), (7, lk l 7), (8, lk l 8), (9, lk l 9), (10, lk l 10), (11, lk l 11), (12, lk l 12), (13, lk l 13)], rows, low⟩ r := reg (keep := [0, 1, 2, 7, 8, 9, 10, 11, 12, 13]) (ops := c71r13) rfl (by kernel_rfl) (by kernel_rfl)
def c71s14 : ICode := (.seq c71k13 c71s12)
@[simp] theorem uc71s14 : Ex F cx (.code c71s14 :: k) s r ↔ Ex F cx (.code (.seq c71k13 c71s12) :: k) s r := Iff.rfl
def c71r15 : List Seg := [
  .grp [(⟨some 37, .mv (.t 1), none⟩, 0), (⟨some 38, .mv (.t 11), none⟩, 0), (⟨some 39, .idxS 2 (.t 37) (.t 38), none⟩, 3), (⟨some 40, .idxA 2 1 (.t 39) (.c (.int .i64 0)), none⟩, 7), (⟨some 41, .load1 (.t 40), none⟩, 15), (⟨some 42, .bin .shl (.c (.int .i64 1)) (.t 41), none⟩, 31), (⟨some 43, .mv (.t 1), none⟩, 0), (⟨some 44, .mv (.t 11), none⟩, 0), (⟨some 45, .idxS 2 (.t 43) (.t 44), none⟩, 192), (⟨some 46, .idxA 2 1 (.t 45) (.c (.int .i64 1)), none⟩, 448), (⟨some 47, .load1 (.t 46), none⟩, 960), (⟨some 48, .bin .shl (.c (.int .i64 1)) (.t 47), none⟩, 1984), (⟨some 12, .mv (.t 42), none⟩, 63)],
  .one ⟨some 13, .mv (.t 48), none⟩]
def c71k15 : ICode := .kill (dead 80 [0, 1, 2, 7, 8, 9, 10, 11]) (.ops c71r15)
@[simp] theorem uc71k15 : Ex F cx (.code c71k15 :: k) ⟨mk 80 l, rows, low⟩ r ↔ bnd (evP rows (.idxS 2 (.c (lk l 1)) (.c (lk l 11)))) fun v0 => bnd (evP rows (.idxA 2 1 (.c v0) (.c (.int .i64 0)))) fun v1 => bnd (evP rows (.load1 (.c v1))) fun v2 => bnd (evP rows (.bin .shl (.c (.int .i64 1)) (.c v2))) fun v3 => bnd (evP rows (.idxS 2 (.c (lk l 1)) (.c (lk l 11)))) fun v4 => bnd (evP rows (.idxA 2 1 (.c v4) (.c (.int .i64 1)))) fun v5 => bnd (evP rows (.load1 (.c v5))) fun v6 => bnd (evP rows (.bin .shl (.c (.int .i64 1)) (.c v6))) fun v7 => Ex F cx k ⟨mk 80 [(13, v7), (12, v3), (48, v7), (47, v6), (46, v5), (45, v4), (44, lk l 11), (43, lk l 1), (42, v3), (41, v2), (40, v1), (39, v0), (38, lk l 11), (37, lk l 1), (0, lk l 0), (1, lk l 1), (2, lk l 2), (7, lk l 7), (8, lk l 8), (9, lk l 9), (10, lk l 10), (11, lk l 11)], rows, low⟩ r := reg (keep := [0, 1, 2, 7, 8, 9, 10, 11]) (ops := c71r15) rfl (by kernel_rfl) (by kernel_rfl)
def c71s16 : ICode := (.seq (.block 5 (.seq c71k15 c71s14)) c71k10)
@[simp] theorem uc71s16 : Ex F cx (.code c71s16 :: k) s r ↔ Ex F cx (.code (.seq (.block 5 (.seq c71k15 c71s14)) c71k10) :: k) s r := Iff.rfl
def c71s17 : ICode := (.cond (.t 34) .skip (.exit 4))
@[simp] theorem uc71s17 : Ex F cx (.code c71s17 :: k) s r ↔ Ex F cx (.code (.cond (.t 34) .skip (.exit 4)) :: k) s r := Iff.rfl
def c71r18 : List Seg := [
  .one ⟨some 31, .mv (.t 11), none⟩,
  .one ⟨some 32, .mv (.t 1), none⟩,
  .one ⟨some 33, .len 0 (.t 32), none⟩,
  .one ⟨some 34, .bin .lss (.t 31) (.t 33), none⟩]
def c71k18 : ICode := .kill (dead 80 [0, 1, 2, 7, 8, 9, 10, 11]) (.ops c71r18)
@[simp] theorem uc71k18 : Ex F cx (.code c71k18 :: k) ⟨mk 80 l, rows, low⟩ r ↔ bnd (evP rows (.len 0 (.c (lk l 1)))) fun v0 => bnd (evP rows (.bin .lss (.c (lk l 11)) (.c v0))) fun v1 => Ex F cx k ⟨mk 80 [(34, v1), (33, v0), (32, lk l 1), (31, lk l 11), (0, lk l 0), (1, lk l 1), (2, lk l 2), (7, lk l 7), (8, lk l 8), (9, lk l 9), (10, lk l 10), (11, lk l 11)], rows, low⟩ r := reg (keep := [0, 1, 2, 7, 8, 9, 10, 11]) (ops := c71r18) rfl (by kernel_rfl) (by kernel_rfl)
def c71l9 : ICode := (.seq (.seq c71k18 c71s17) c71s16)
def c71s19 : ICode := (.block 4 (.loop c71l9))
@[simp] theorem uc71s19 : Ex F cx (.code c71s19 :: k) s r ↔ Ex F cx (.code (.block 4 (.loop c71l9)) :: k) s r := Iff.rfl
def c71r20 : List Seg := [
  .one ⟨some 11, .mv (.c (.int .i64 0)), none⟩]
def c71k20 : ICode := .kill (dead 80 [0, 1, 2, 7, 8, 9, 10]) (.ops c71r20)
@[simp] theorem uc71k20 : Ex F cx (.code c71k20 :: k) ⟨mk 80 l, rows, low⟩ r ↔ Ex F cx k ⟨mk 80 [(11, (.int .i64 0)), (0, lk l 0), (1, lk l 1), (2, lk l 2), (7, lk l 7), (8, lk l 8), (9, lk l 9), (10, lk l 10)], rows, low⟩ r := reg (keep := [0, 1, 2, 7, 8, 9, 10]) (ops := c71r20) rfl (by kernel_rfl) (by kernel_rfl)
def c71s21 : ICode := (.seq (.block 3 (.seq c71k20 c71s19)) c71k8)
@[simp] theorem uc71s21 : Ex F cx (.code c71s21 :: k) s r ↔ Ex F cx (.code (.seq (.block 3 (.seq c71k20 c71s19)) c71k8) :: k) s r := Iff.rfl
def c71s22 : ICode := (.cond (.t 28) .skip (.exit 2))
@[simp] theorem uc71s22 : Ex F cx (.code c71s22 :: k) s r ↔ Ex F cx (.code (.cond (.t 28) .skip (.exit 2)) :: k) s r := Iff.rfl
def c71r23 : List Seg := [
  .one ⟨some 26, .mv (.t 10), none⟩,
  .one ⟨some 27, .mv (.t 0), none⟩,
  .one ⟨some 28, .bin .lss (.t 26) (.t 27), none⟩]
def c71k23 : ICode := .kill (dead 80 [0, 1, 2, 7, 8, 9, 10]) (.ops c71r23)
@[simp] theorem uc71k23 : Ex F cx (.code c71k23 :: k) ⟨mk 80 l, rows, low⟩ r ↔ bnd (evP rows (.bin .lss (.c (lk l 10)) (.c (lk l 0)))) fun v0 => Ex F cx k ⟨mk 80 [(28, v0), (27, lk l 0), (26, lk l 10), (0, lk l 0), (1, lk l 1), (2, lk l 2), (7, lk l 7), (8, lk l 8), (9, lk l 9), (10, lk l 10)], rows, low⟩ r := reg (keep := [0, 1, 2, 7, 8, 9, 10]) (ops := c71r23) rfl (by kernel_rfl) (by kernel_rfl)
def c71l7 : ICode := (.seq (.seq c71k23 c71s22) c71s21)
def c71s24 : ICode := (.block 2 (.loop c71l7))
@[simp] theorem uc71s24 : Ex F cx (.code c71s24 :: k) s r ↔ Ex F cx (.code (.block 2 (.loop c71l7)) :: k) s r := Iff.rfl
def c71r25 : List Seg := [
  .one ⟨some 10, .mv (.c (.int .i64 0)), none⟩]
def c71k25 : ICode := .kill (dead 80 [0, 1, 2, 7, 8, 9]) (.ops c71r25)
@[simp] theorem uc71k25 : Ex F cx (.code c71k25 :: k) ⟨mk 80 l, rows, low⟩ r ↔ Ex F cx k ⟨mk 80 [(10, (.int .i64 0)), (0, lk l 0), (1, lk l 1), (2, lk l 2), (7, lk l 7), (8, lk l 8), (9, lk l 9)], rows, low⟩ r := reg (keep := [0, 1, 2, 7, 8, 9]) (ops := c71r25) rfl (by kernel_rfl) (by kernel_rfl)
def c71s26 : ICode := (.seq (.seq c71k25 c71s24) c71s6)
@[simp] theorem uc71s26 : Ex F cx (.code c71s26 :: k) s r ↔ Ex F cx (.code (.seq (.seq c71k25 c71s24) c71s6) :: k) s r := Iff.rfl
def c71r27 : List Seg := [
  .one ⟨some 24, .mv (.t 8), none⟩,
  .one ⟨some 25, .bin .shl (.c (.int .i64 1)) (.t 24), none⟩,
  .one ⟨some 9, .mv (.t 25), none⟩]
def c71k27 : ICode := .kill (dead 80 [0, 1, 2, 7, 8]) (.ops c71r27)
@[simp] theorem uc71k27 : Ex F cx (.code c71k27 :: k) ⟨mk 80 l, rows, low⟩ r ↔ bnd (evP rows (.bin .shl (.c (.int .i64 1)) (.c (lk l 8)))) fun v0 => Ex F cx k ⟨mk 80 [(9, v0), (25, v0), (24, lk l 8), (0, lk l 0), (1, lk l 1), (2, lk l 2), (7, lk l 7), (8, lk l 8)], rows, low⟩ r := reg (keep := [0, 1, 2, 7, 8]) (ops := c71r27) rfl (by kernel_rfl) (by kernel_rfl)
def c71s28 : ICode := (.seq c71k27 c71s26)
@[simp] theorem uc71s28 : Ex F cx (.code c71s28 :: k) s r ↔ Ex F cx (.code (.seq c71k27 c71s26) :: k) s r := Iff.rfl
def c71s29 : ICode := (.cond (.t 23) (.exit 1) .skip)
@[simp] theorem uc71s29 : Ex F cx (.code c71s29 :: k) s r ↔ Ex F cx (.code (.cond (.t 23) (.exit 1) .skip) :: k) s r := Iff.rfl
def c71r30 : List Seg := [
  .one ⟨some 19, .mv (.t 2), none⟩,
  .one ⟨some 20, .mv (.t 8), none⟩,
  .one ⟨some 21, .bin .shr (.t 19) (.t 20), none⟩,
  .one ⟨some 22, .bin .rem (.t 21) (.c (.int .i64 2)), none⟩,
  .one ⟨some 23, .bin .eql (.t 22) (.c (.int .i64 0)), none⟩]
def c71k30 : ICode := .kill (dead 80 [0, 1, 2, 7, 8]) (.ops c71r30)
@[simp] theorem uc71k30 : Ex F cx (.code c71k30 :: k) ⟨mk 80 l, rows, low⟩ r ↔ bnd (evP rows (.bin .shr (.c (lk l 2)) (.c (lk l 8)))) fun v0 => bnd (evP rows (.bin .rem (.c v0) (.c (.int .i64 2)))) fun v1 => bnd (evP rows (.bin .eql (.c v1) (.c (.int .i64 0)))) fun v2 => Ex F cx k ⟨mk 80 [(23, v2), (22, v1), (21, v0), (20, lk l 8), (19, lk l 2), (0, lk l 0), (1, lk l 1), (2, lk l 2), (7, lk l 7), (8, lk l 8)], rows, low⟩ r := reg (keep := [0, 1, 2, 7, 8]) (ops := c71r30) rfl (by kernel_rfl) (by kernel_rfl)
def c71s31 : ICode := (.seq (.block 1 (.seq (.seq c71k30 c71s29) c71s28)) c71k3)
@[simp] theorem uc71s31 : Ex F cx (.code c71s31 :: k) s r ↔ Ex F cx (.code (.seq (.block 1 (.seq (.seq c71k30 c71s29) c71s28)) c71k3) :: k) s r := Iff.rfl
def c71s32 : ICode := (.cond (.t 16) .skip (.exit 0))
@[simp] theorem uc71s32 : Ex F cx (.code c71s32 :: k) s r ↔ Ex F cx (.code (.cond (.t 16) .skip (.exit 0)) :: k) s r := Iff.rfl
def c71r33 : List Seg := [
  .one ⟨some 14, .mv (.t 8), none⟩,
  .one ⟨some 15, .mv (.t 0), none⟩,
  .one ⟨some 16, .bin .lss (.t 14) (.t 15), none⟩]
def c71k33 : ICode := .kill (dead 80 [0, 1, 2, 7, 8]) (.ops c71r33)
@[simp] theorem uc71k33 : Ex F cx (.code c71k33 :: k) ⟨mk 80 l, rows, low⟩ r ↔ bnd (evP rows (.bin .lss (.c (lk l 8)) (.c (lk l 0)))) fun v0 => Ex F cx k ⟨mk 80 [(16, v0), (15, lk l 0), (14, lk l 8), (0, lk l 0), (1, lk l 1), (2, lk l 2), (7, lk l 7), (8, lk l 8)], rows, low⟩ r := reg (keep := [0, 1, 2, 7, 8]) (ops := c71r33) rfl (by kernel_rfl) (by kernel_rfl)
def c71l2 : ICode := (.seq (.seq c71k33 c71s32) c71s31)
def c71s34 : ICode := (.block 0 (.loop c71l2))
@[simp] theorem uc71s34 : Ex F cx (.code c71s34 :: k) s r ↔ Ex F cx (.code (.block 0 (.loop c71l2)) :: k) s r := Iff.rfl
def c71r35 : List Seg := [
  .one ⟨some 8, .mv (.c (.int .i64 0)), none⟩]
def c71k35 : ICode := .kill (dead 80 [0, 1, 2, 7]) (.ops c71r35)
@[simp] theorem uc71k35 : Ex F cx (.code c71k35 :: k) ⟨mk 80 l, rows, low⟩ r ↔ Ex F cx k ⟨mk 80 [(8, (.int .i64 0)), (0, lk l 0), (1, lk l 1), (2, lk l 2), (7, lk l 7)], rows, low⟩ r := reg (keep := [0, 1, 2, 7]) (ops := c71r35) rfl (by kernel_rfl) (by kernel_rfl)
def c71s36 : ICode := (.seq (.seq c71k35 c71s34) c71s1)
@[simp] theorem uc71s36 : Ex F cx (.code c71s36 :: k) s r ↔ Ex F cx (.code (.seq (.seq c71k35 c71s34) c71s1) :: k) s r := Iff.rfl
def c71r37 : List Seg := [
  .one ⟨some 7, .mv (.c .nilslice), none⟩]
def c71k37 : ICode := .kill (dead 80 [0, 1, 2]) (.ops c71r37)
@[simp] theorem uc71k37 : Ex F cx (.code c71k37 :: k) ⟨mk 80 l, rows, low⟩ r ↔ Ex F cx k ⟨mk 80 [(7, .nilslice), (0, lk l 0), (1, lk l 1), (2, lk l 2)], rows, low⟩ r := reg (keep := [0, 1, 2]) (ops := c71r37) rfl (by kernel_rfl) (by kernel_rfl)
def c71s38 : ICode := (.seq c71k37 c71s36)
@[simp] theorem uc71s38 : Ex F cx (.code c71s38 :: k) s r ↔ Ex F cx (.code (.seq c71k37 c71s36) :: k) s r := Iff.rfl
def c71r39 : List Seg := [
  .one ⟨some 6, .mv (.c .nilslice), none⟩]
def c71k39 : ICode := .kill (dead 80 [0, 1, 2]) (.ops c71r39)
@[simp] theorem uc71k39 : Ex F cx (.code c71k39 :: k) ⟨mk 80 l, rows, low⟩ r ↔ Ex F cx k ⟨mk 80 [(6, .nilslice), (0, lk l 0), (1, lk l 1), (2, lk l 2)], rows, low⟩ r := reg (keep := [0, 1, 2]) (ops := c71r39) rfl (by kernel_rfl) (by kernel_rfl)
def Jc71s16 (F : Nat → Option IFn) (cx : Ctx) (x0 x1 x2 x7 x8 x9 x10 x11 : AV) (rows : List Row) (low : Nat) (r : AV × List Row × Nat → Prop) : Prop := Ex F cx (.code c71s16 :: .inLoop c71l9 :: .inBlock 4 :: .inBlock 3 :: .code c71k8 :: .inLoop c71l7 :: .inBlock 2 :: .code c71s6 :: .inBlock 1 :: .code c71k3 :: .inLoop c71l2 :: .inBlock 0 :: .code c71s1 :: []) ⟨mk 80 [(0, x0), (1, x1), (2, x2), (7, x7), (8, x8), (9, x9), (10, x10), (11, x11)], rows, low⟩ r
theorem jc71s16 : Ex F cx (.code c71s16 :: .inLoop c71l9 :: .inBlock 4 :: .inBlock 3 :: .code c71k8 :: .inLoop c71l7 :: .inBlock 2 :: .code c71s6 :: .inBlock 1 :: .code c71k3 :: .inLoop c71l2 :: .inBlock 0 :: .code c71s1 :: []) ⟨mk 80 l, rows, low⟩ r ↔ Jc71s16 F cx (lk l 0) (lk l 1) (lk l 2) (lk l 7) (lk l 8) (lk l 9) (lk l 10) (lk l 11) rows low r := Ex_canon (keep := [0, 1, 2, 7, 8, 9, 10, 11]) (by kernel_rfl)
def Lc71l9 (F : Nat → Option IFn) (cx : Ctx) (x0 x1 x2 x7 x8 x9 x10 x11 : AV) (rows : List Row) (low : Nat) (r : AV × List Row × Nat → Prop) : Prop := Ex F cx (.code c71l9 :: .inLoop c71l9 :: .inBlock 4 :: .inBlock 3 :: .code c71k8 :: .inLoop c71l7 :: .inBlock 2 :: .code c71s6 :: .inBlock 1 :: .code c71k3 :: .inLoop c71l2 :: .inBlock 0 :: .code c71s1 :: []) ⟨mk 80 [(0, x0), (1, x1), (2, x2), (7, x7), (8, x8), (9, x9), (10, x10), (11, x11)], rows, low⟩ r
@[simp] theorem nc71l9 : Ex F cx (.inLoop c71l9 :: .inBlock 4 :: .inBlock 3 :: .code c71k8 :: .inLoop c71l7 :: .inBlock 2 :: .code c71s6 :: .inBlock 1 :: .code c71k3 :: .inLoop c71l2 :: .inBlock 0 :: .code c71s1 :: []) ⟨mk 80 l, rows, low⟩ r ↔ Lc71l9 F cx (lk l 0) (lk l 1) (lk l 2) (lk l 7) (lk l 8) (lk l 9) (lk l 10) (lk l 11) rows low r := loopN (keep := [0, 1, 2, 7, 8, 9, 10, 11]) (by kernel_rfl)
@[simp] theorem ec71l9 : Ex F cx (.code (.loop c71l9) :: .inBlock 4 :: .inBlock 3 :: .code c71k8 :: .inLoop c71l7 :: .inBlock 2 :: .code c71s6 :: .inBlock 1 :: .code c71k3 :: .inLoop c71l2 :: .inBlock 0 :: .code c71s1 :: []) ⟨mk 80 l, rows, low⟩ r ↔ Lc71l9 F cx (lk l 0) (lk l 1) (lk l 2) (lk l 7) (lk l 8) (lk l 9) (lk l 10) (lk l 11) rows low r := loopE (keep := [0, 1, 2, 7, 8, 9, 10, 11]) (by kernel_rfl)
@[simp] theorem uc71l9 : Ex F cx (.code c71l9 :: k) s r ↔ Ex F cx (.code (.seq (.seq c71k18 c71s17) c71s16) :: k) s r := Iff.rfl
def Jc71s21 (F : Nat → Option IFn) (cx : Ctx) (x0 x1 x2 x7 x8 x9 x10 : AV) (rows : List Row) (low : Nat) (r : AV × List Row × Nat → Prop) : Prop := Ex F cx (.code c71s21 :: .inLoop c71l7 :: .inBlock 2 :: .code c71s6 :: .inBlock 1 :: .code c71k3 :: .inLoop c71l2 :: .inBlock 0 :: .code c71s1 :: []) ⟨mk 80 [(0, x0), (1, x1), (2, x2), (7, x7), (8, x8), (9, x9), (10, x10)], rows, low⟩ r
theorem jc71s21 : Ex F cx (.code c71s21 :: .inLoop c71l7 :: .inBlock 2 :: .code c71s6 :: .inBlock 1 :: .code c71k3 :: .inLoop c71l2 :: .inBlock 0 :: .code c71s1 :: []) ⟨mk 80 l, rows, low⟩ r ↔ Jc71s21 F cx (lk l 0) (lk l 1) (lk l 2) (lk l 7) (lk l 8) (lk l 9) (lk l 10) rows low r := Ex_canon (keep := [0, 1, 2, 7, 8, 9, 10]) (by kernel_rfl)
def Lc71l7 (F : Nat → Option IFn) (cx : Ctx) (x0 x1 x2 x7 x8 x9 x10 : AV) (rows : List Row) (low : Nat) (r : AV × List Row × Nat → Prop) : Prop := Ex F cx (.code c71l7 :: .inLoop c71l7 :: .inBlock 2 :: .code c71s6 :: .inBlock 1 :: .code c71k3 :: .inLoop c71l2 :: .inBlock 0 :: .code c71s1 :: []) ⟨mk 80 [(0, x0), (1, x1), (2, x2), (7, x7), (8, x8), (9, x9), (10, x10)], rows, low⟩ r
@[simp] theorem nc71l7 : Ex F cx (.inLoop c71l7 :: .inBlock 2 :: .code c71s6 :: .inBlock 1 :: .code c71k3 :: .inLoop c71l2 :: .inBlock 0 :: .code c71s1 :: []) ⟨mk 80 l, rows, low⟩ r ↔ Lc71l7 F cx (lk l 0) (lk l 1) (lk l 2) (lk l 7) (lk l 8) (lk l 9) (lk l 10) rows low r := loopN (keep := [0, 1, 2, 7, 8, 9, 10]) (by kernel_rfl)
@[simp] theorem ec71l7 : Ex F cx (.code (.loop c71l7) :: .inBlock 2 :: .code c71s6 :: .inBlock 1 :: .code c71k3 :: .inLoop c71l2 :: .inBlock 0 :: .code c71s1 :: []) ⟨mk 80 l, rows, low⟩ r ↔ Lc71l7 F cx (lk l 0) (lk l 1) (lk l 2) (lk l 7) (lk l 8) (lk l 9) (lk l 10) rows low r := loopE (keep := [0, 1, 2, 7, 8, 9, 10]) (by kernel_rfl)
@[simp] theorem uc71l7 : Ex F cx (.code c71l7 :: k) s r ↔ Ex F cx (.code (.seq (.seq c71k23 c71s22) c71s21) :: k) s r := Iff.rfl
def Jc71s28 (F : Nat → Option IFn) (cx : Ctx) (x0 x1 x2 x7 x8 : AV) (rows : List Row) (low : Nat) (r : AV × List Row × Nat → Prop) : Prop := Ex F cx (.code c71s28 :: .inBlock 1 :: .code c71k3 :: .inLoop c71l2 :: .inBlock 0 :: .code c71s1 :: []) ⟨mk 80 [(0, x0), (1, x1), (2, x2), (7, x7), (8, x8)], rows, low⟩ r
theorem jc71s28 : Ex F cx (.code c71s28 :: .inBlock 1 :: .code c71k3 :: .inLoop c71l2 :: .inBlock 0 :: .code c71s1 :: []) ⟨mk 80 l, rows, low⟩ r ↔ Jc71s28 F cx (lk l 0) (lk l 1) (lk l 2) (lk l 7) (lk l 8) rows low r := Ex_canon (keep := [0, 1, 2, 7, 8]) (by kernel_rfl)
def Jc71s31 (F : Nat → Option IFn) (cx : Ctx) (x0 x1 x2 x7 x8 : AV) (rows : List Row) (low : Nat) (r : AV × List Row × Nat → Prop) : Prop := Ex F cx (.code c71s31 :: .inLoop c71l2 :: .inBlock 0 :: .code c71s1 :: []) ⟨mk 80 [(0, x0), (1, x1), (2, x2), (7, x7), (8, x8)], rows, low⟩ r
theorem jc71s31 : Ex F cx (.code c71s31 :: .inLoop c71l2 :: .inBlock 0 :: .code c71s1 :: []) ⟨mk 80 l, rows, low⟩ r ↔ Jc71s31 F cx (lk l 0) (lk l 1) (lk l 2) (lk l 7) (lk l 8) rows low r := Ex_canon (keep := [0, 1, 2, 7, 8]) (by kernel_rfl)
def Lc71l2 (F : Nat → Option IFn) (cx : Ctx) (x0 x1 x2 x7 x8 : AV) (rows : List Row) (low : Nat) (r : AV × List Row × Nat → Prop) : Prop := Ex F cx (.code c71l2 :: .inLoop c71l2 :: .inBlock 0 :: .code c71s1 :: []) ⟨mk 80 [(0, x0), (1, x1), (2, x2), (7, x7), (8, x8)], rows, low⟩ r
@[simp] theorem nc71l2 : Ex F cx (.inLoop c71l2 :: .inBlock 0 :: .code c71s1 :: []) ⟨mk 80 l, rows, low⟩ r ↔ Lc71l2 F cx (lk l 0) (lk l 1) (lk l 2) (lk l 7) (lk l 8) rows low r := loopN (keep := [0, 1, 2, 7, 8]) (by kernel_rfl)
@[simp] theorem ec71l2 : Ex F cx (.code (.loop c71l2) :: .inBlock 0 :: .code c71s1 :: []) ⟨mk 80 l, rows, low⟩ r ↔ Lc71l2 F cx (lk l 0) (lk l 1) (lk l 2) (lk l 7) (lk l 8) rows low r := loopE (keep := [0, 1, 2, 7, 8]) (by kernel_rfl)
@[simp] theorem uc71l2 : Ex F cx (.code c71l2 :: k) s r ↔ Ex F cx (.code (.seq (.seq c71k33 c71s32) c71s31) :: k) s r := Iff.rfl
def c71b : ICode := (.seq c71k39 c71s38)
@[simp] theorem uc71b : Ex F cx (.code c71b :: k) s r ↔ Ex F cx (.code (.seq c71k39 c71s38) :: k) s r := Iff.rfl
def c71 : IFn := ⟨80, [.t 6], c71b⟩
def h71 : List (Nat × List Nat) := [(0, dead 80 [0, 1, 2]), (1, dead 80 [0, 1, 2]), (2, dead 80 [0, 1, 2, 7]), (3, dead 80 [0, 1, 2, 7, 8]), (5, dead 80 [0, 1, 2, 7, 8]), (6, dead 80 [0, 1, 2, 7, 8]), (7, dead 80 [0, 1, 2, 7, 8, 9]), (8, dead 80 [0, 1, 2, 7, 8, 9, 10]), (10, dead 80 [0, 1, 2, 7, 8, 9, 10]), (11, dead 80 [0, 1, 2, 7, 8, 9, 10, 11]), (13, dead 80 [0, 1, 2, 7, 8, 9, 10, 11]), (14, dead 80 [0, 1, 2, 7, 8, 9, 10, 11, 12, 13]), (15, dead 80 [0, 1, 2, 7, 8, 9, 10, 11, 12, 13]), (12, dead 80 [0, 1, 2, 7, 8, 9, 10, 11]), (9, dead 80 [0, 1, 2, 7, 8, 9, 10]), (16, dead 80 [0, 1, 2, 7, 8, 9]), (17, dead 80 [0, 1, 2, 7, 8, 9]), (4, dead 80 [0, 1, 2, 7, 8]), (18, dead 80 [7])]
theorem i71 {x0 x1 x2 : AV} (hF : F 71 = some c71) {q : AV × List Row × Option Nat} (h : Ex F (.fn [.t 6]) [.code c71b] ⟨mk 80 [(0, x0), (1, x1), (2, x2)], rows, rows.length⟩ fun r => fin rows r.1 r.2.1 r.2.2 = q) : Ret F 71 [x0, x1, x2] rows = some q := Ret_mk hF h
/-! tosher/tosherref08.Size -/
def c72r0 : List Seg := [
  .one ⟨some 17, .mv (.t 3), none⟩,
  .one ⟨some 2, .mv (.t 17), none⟩]
def c72k0 : ICode := .kill (dead 18 [3]) (.ops c72r0)
@[simp] theorem uc72k0 : Ex F cx (.code c72k0 :: k) ⟨mk 18 l, rows, low⟩ r ↔ Ex F cx k ⟨mk 18 [(2, lk l 3), (17, lk l 3), (3, lk l 3)], rows, low⟩ r := reg (keep := [3]) (ops := c72r0) rfl (by kernel_rfl) (by kernel_rfl)
def c72s1 : ICode := (.seq c72k0 .ret)
@[simp] theorem uc72s1 : Ex F cx (.code c72s1 :: k) s r ↔ Ex F cx (.code (.seq c72k0 .ret) :: k) s r := Iff.rfl
def c72r3 : List Seg := [
  .one ⟨some 9, .mv (.t 4), none⟩,
  .one ⟨some 10, .bin .add (.t 9) (.c (.int .i64 1)), none⟩,
  .one ⟨some 4, .mv (.t 10), none⟩]
def c72k3 : ICode := .kill (dead 18 [0, 3, 4]) (.ops c72r3)
@[simp] theorem uc72k3 : Ex F cx (.code c72k3 :: k) ⟨mk 18 l, rows, low⟩ r ↔ bnd (evP rows (.bin .add (.c (lk l 4)) (.c (.int .i64 1)))) fun v0 => Ex F cx k ⟨mk 18 [(4, v0), (10, v0), (9, lk l 4), (0, lk l 0), (3, lk l 3), (4, lk l 4)], rows, low⟩ r := reg (keep := [0, 3, 4]) (ops := c72r3) rfl (by kernel_rfl) (by kernel_rfl)
def c72r4 : List Seg := [
  .one ⟨some 11, .mv (.t 3), none⟩,
  .one ⟨some 12, .mv (.t 0), none⟩,
  .one ⟨some 13, .mv (.t 4), none⟩,
  .one ⟨some 14, .bin .shr (.t 12) (.t 13), none⟩,
  .one ⟨some 15, .bin .rem (.t 14) (.c (.int .i64 2)), none⟩,
  .one ⟨some 16, .bin .add (.t 11) (.t 15), none⟩,
  .one ⟨some 3, .mv (.t 16), none⟩]
def c72k4 : ICode := .kill (dead 18 [0, 3, 4]) (.ops c72r4)
@[simp] theorem uc72k4 : Ex F cx (.code c72k4 :: k) ⟨mk 18 l, rows, low⟩ r ↔ bnd (evP rows (.bin .shr (.c (lk l 0)) (.c (lk l 4)))) fun v0 => bnd (evP rows (.bin .rem (.c v0) (.c (.int .i64 2)))) fun v1 => bnd (evP rows (.bin .add (.c (lk l 3)) (.c v1))) fun v2 => Ex F cx k ⟨mk 18 [(3, v2), (16, v2), (15, v1), (14, v0), (13, lk l 4), (12, lk l 0), (11, lk l 3), (0, lk l 0), (3, lk l 3), (4, lk l 4)], rows, low⟩ r := reg (keep := [0, 3, 4]) (ops := c72r4) rfl (by kernel_rfl) (by kernel_rfl)
def c72s5 : ICode := (.seq (.block 1 c72k4) c72k3)
@[simp] theorem uc72s5 : Ex F cx (.code c72s5 :: k) s r ↔ Ex F cx (.code (.seq (.block 1 c72k4) c72k3) :: k) s r := Iff.rfl
def c72s6 : ICode := (.cond (.t 8) .skip (.exit 0))
@[simp] theorem uc72s6 : Ex F cx (.code c72s6 :: k) s r ↔ Ex F cx (.code (.cond (.t 8) .skip (.exit 0)) :: k) s r := Iff.rfl
def c72r7 : List Seg := [
  .one ⟨some 5, .mv (.t 0), none⟩,
  .one ⟨some 6, .mv (.t 4), none⟩,
  .one ⟨some 7, .bin .shr (.t 5) (.t 6), none⟩,
  .one ⟨some 8, .bin .gtr (.t 7) (.c (.int .i64 0)), none⟩]
def c72k7 : ICode := .kill (dead 18 [0, 3, 4]) (.ops c72r7)
@[simp] theorem uc72k7 : Ex F cx (.code c72k7 :: k) ⟨mk 18 l, rows, low⟩ r ↔ bnd (evP rows (.bin .shr (.c (lk l 0)) (.c (lk l 4)))) fun v0 => bnd (evP rows (.bin .gtr (.c v0) (.c (.int .i64 0)))) fun v1 => Ex F cx k ⟨mk 18 [(8, v1), (7, v0), (6, lk l 4), (5, lk l 0), (0, lk l 0), (3, lk l 3), (4, lk l 4)], rows, low⟩ r := reg (keep := [0, 3, 4]) (ops := c72r7) rfl (by kernel_rfl) (by kernel_rfl)
def c72l2 : ICode := (.seq (.seq c72k7 c72s6) c72s5)
def c72s8 : ICode := (.block 0 (.loop c72l2))
@[simp] theorem uc72s8 : Ex F cx (.code c72s8 :: k) s r ↔ Ex F cx (.code (.block 0 (.loop c72l2)) :: k) s r := Iff.rfl
def c72r9 : List Seg := [
  .one ⟨some 4, .mv (.c (.int .i64 0)), none⟩]
def c72k9 : ICode := .kill (dead 18 [0, 3]) (.ops c72r9)
@[simp] theorem uc72k9 : Ex F cx (.code c72k9 :: k) ⟨mk 18 l, rows, low⟩ r ↔ Ex F cx k ⟨mk 18 [(4, (.int .i64 0)), (0, lk l 0), (3, lk l 3)], rows, low⟩ r := reg (keep := [0, 3]) (ops := c72r9) rfl (by kernel_rfl) (by kernel_rfl)
def c72s10 : ICode := (.seq (.seq c72k9 c72s8) c72s1)
@[simp] theorem uc72s10 : Ex F cx (.code c72s10 :: k) s r ↔ Ex F cx (.code (.seq (.seq c72k9 c72s8) c72s1) :: k) s r := Iff.rfl
def c72r11 : List Seg := [
  .one ⟨some 3, .mv (.c (.int .i64 0)), none⟩]
def c72k11 : ICode := .kill (dead 18 [0]) (.ops c72r11)
@[simp] theorem uc72k11 : Ex F cx (.code c72k11 :: k) ⟨mk 18 l, rows, low⟩ r ↔ Ex F cx k ⟨mk 18 [(3, (.int .i64 0)), (0, lk l 0)], rows, low⟩ r := reg (keep := [0]) (ops := c72r11) rfl (by kernel_rfl) (by kernel_rfl)
def c72s12 : ICode := (.seq c72k11 c72s10)
@[simp] theorem uc72s12 : Ex F cx (.code c72s12 :: k) s r ↔ Ex F cx (.code (.seq c72k11 c72s10) :: k) s r := Iff.rfl
def c72r13 : List Seg := [
  .one ⟨some 2, .mv (.c (.int .i64 0)), none⟩]
def c72k13 : ICode := .kill (dead 18 [0]) (.ops c72r13)
@[simp] theorem uc72k13 : Ex F cx (.code c72k13 :: k) ⟨mk 18 l, rows, low⟩ r ↔ Ex F cx k ⟨mk 18 [(2, (.int .i64 0)), (0, lk l 0)], rows, low⟩ r := reg (keep := [0]) (ops := c72r13) rfl (by kernel_rfl) (by kernel_rfl)
def Jc72s5 (F : Nat → Option IFn) (cx : Ctx) (x0 x3 x4 : AV) (rows : List Row) (low : Nat) (r : AV × List Row × Nat → Prop) : Prop := Ex F cx (.code c72s5 :: .inLoop c72l2 :: .inBlock 0 :: .code c72s1 :: []) ⟨mk 18 [(0, x0), (3, x3), (4, x4)], rows, low⟩ r
theorem jc72s5 : Ex F cx (.code c72s5 :: .inLoop c72l2 :: .inBlock 0 :: .code c72s1 :: []) ⟨mk 18 l, rows, low⟩ r ↔ Jc72s5 F cx (lk l 0) (lk l 3) (lk l 4) rows low r := Ex_canon (keep := [0, 3, 4]) (by kernel_rfl)
def Lc72l2 (F : Nat → Option IFn) (cx : Ctx) (x0 x3 x4 : AV) (rows : List Row) (low : Nat) (r : AV × List Row × Nat → Prop) : Prop := Ex F cx (.code c72l2 :: .inLoop c72l2 :: .inBlock 0 :: .code c72s1 :: []) ⟨mk 18 [(0, x0), (3, x3), (4, x4)], rows, low⟩ r
@[simp] theorem nc72l2 : Ex F cx (.inLoop c72l2 :: .inBlock 0 :: .code c72s1 :: []) ⟨mk 18 l, rows, low⟩ r ↔ Lc72l2 F cx (lk l 0) (lk l 3) (lk l 4) rows low r := loopN (keep := [0, 3, 4]) (by kernel_rfl)
@[simp] theorem ec72l2 : Ex F cx (.code (.loop c72l2) :: .inBlock 0 :: .code c72s1 :: []) ⟨mk 18 l, rows, low⟩ r ↔ Lc72l2 F cx (lk l 0) (lk l 3) (lk l 4) rows low r := loopE (keep := [0, 3, 4]) (by kernel_rfl)
@[simp] theorem uc72l2 : Ex F cx (.code c72l2 :: k) s r ↔ Ex F cx (.code (.seq (.seq c72k7 c72s6) c72s5) :: k) s r := Iff.rfl
def c72b : ICode := (.seq c72k13 c72s12)
@[simp] theorem uc72b : Ex F cx (.code c72b :: k) s r ↔ Ex F cx (.code (.seq c72k13 c72s12) :: k) s r := Iff.rfl
def c72 : IFn := ⟨18, [.t 2], c72b⟩
def h72 : List (Nat × List Nat) := [(0, dead 18 [0]), (1, dead 18 [0]), (2, dead 18 [0, 3]), (3, dead 18 [0, 3, 4]), (5, dead 18 [0, 3, 4]), (4, dead 18 [0, 3, 4]), (6, dead 18 [3])]
theorem i72 {x0 : AV} (hF : F 72 = some c72) {q : AV × List Row × Option Nat} (h : Ex F (.fn [.t 2]) [.code c72b] ⟨mk 18 [(0, x0)], rows, rows.length⟩ fun r => fin rows r.1 r.2.1 r.2.2 = q) : Ret F 72 [x0] rows = some q := Ret_mk hF h
/-! tosher/search.newLooks -/
def c73r0 : List Seg := [
  .one ⟨some 3, .mv (.t 0), none⟩,
  .one ⟨some 4, .mkmap, none⟩,
  .one ⟨some 5, .mkagg [.nilptr, .nilmap] [(0, 1, (.t 3)), (1, 1, (.t 4))], none⟩,
  .one ⟨some 6, .box (.t 5), none⟩,
  .one ⟨some 2, .mv (.t 6), none⟩]
def c73k0 : ICode := .kill (dead 7 [0]) (.ops c73r0)
@[simp] theorem uc73k0 : Ex F cx (.code c73k0 :: k) ⟨mk 7 l, rows, low⟩ r ↔ bnd (evE rows low (.mkmap)) fun q0 => bnd (evP q0.2.1 (.mkagg [.nilptr, .nilmap] [(0, 1, (.c (lk l 0))), (1, 1, (.c q0.1))])) fun v1 => bnd (evE q0.2.1 q0.2.2 (.box (.c v1))) fun q2 => Ex F cx k ⟨mk 7 [(2, q2.1), (6, q2.1), (5, v1), (4, q0.1), (3, lk l 0), (0, lk l 0)], q2.2.1, q2.2.2⟩ r := reg (keep := [0]) (ops := c73r0) rfl (by kernel_rfl) (by kernel_rfl)
def c73s1 : ICode := (.seq c73k0 .ret)
@[simp] theorem uc73s1 : Ex F cx (.code c73s1 :: k) s r ↔ Ex F cx (.code (.seq c73k0 .ret) :: k) s r := Iff.rfl
def c73r2 : List Seg := [
  .one ⟨some 2, .mv (.c .nilptr), none⟩]
def c73k2 : ICode := .kill (dead 7 [0]) (.ops c73r2)
@[simp] theorem uc73k2 : Ex F cx (.code c73k2 :: k) ⟨mk 7 l, rows, low⟩ r ↔ Ex F cx k ⟨mk 7 [(2, .nilptr), (0, lk l 0)], rows, low⟩ r := reg (keep := [0]) (ops := c73r2) rfl (by kernel_rfl) (by kernel_rfl)
def c73b : ICode := (.seq c73k2 c73s1)
@[simp] theorem uc73b : Ex F cx (.code c73b :: k) s r ↔ Ex F cx (.code (.seq c73k2 c73s1) :: k) s r := Iff.rfl
def c73 : IFn := ⟨7, [.t 2], c73b⟩
def h73 : List (Nat × List Nat) := [(0, dead 7 [0]), (1, dead 7 [0])]
theorem i73 {x0 : AV} (hF : F 73 = some c73) {q : AV × List Row × Option Nat} (h : Ex F (.fn [.t 2]) [.code c73b] ⟨mk 7 [(0, x0)], rows, rows.length⟩ fun r => fin rows r.1 r.2.1 r.2.2 = q) : Ret F 73 [x0] rows = some q := Ret_mk hF h
/-! tosher/search.Marks$1 -/
def c74r2 : List Seg := [
  .one ⟨some 48, .bin .add (.t 17) (.c (.int .i64 1)), none⟩,
  .one ⟨some 17, .mv (.t 48), none⟩]
def c74k2 : ICode := .kill (dead 49 [0, 1, 2, 3, 4, 6, 15, 16, 17]) (.ops c74r2)
@[simp] theorem uc74k2 : Ex F cx (.code c74k2 :: k) ⟨mk 49 l, rows, low⟩ r ↔ bnd (evP rows (.bin .add (.c (lk l 17)) (.c (.int .i64 1)))) fun v0 => Ex F cx k ⟨mk 49 [(17, v0), (48, v0), (0, lk l 0), (1, lk l 1), (2, lk l 2), (3, lk l 3), (4, lk l 4), (6, lk l 6), (15, lk l 15), (16, lk l 16), (17, lk l 17)], rows, low⟩ r := reg (keep := [0, 1, 2, 3, 4, 6, 15, 16, 17]) (ops := c74r2) rfl (by kernel_rfl) (by kernel_rfl)
def c74r4 : List Seg := [
  .one ⟨some 47, .bin .add (.t 40) (.c (.int .i64 1)), none⟩,
  .one ⟨some 40, .mv (.t 47), none⟩]
def c74k4 : ICode := .kill (dead 49 [4, 38, 39, 40]) (.ops c74r4)
@[simp] theorem uc74k4 : Ex F cx (.code c74k4 :: k) ⟨mk 49 l, rows, low⟩ r ↔ bnd (evP rows (.bin .add (.c (lk l 40)) (.c (.int .i64 1)))) fun v0 => Ex F cx k ⟨mk 49 [(40, v0), (47, v0), (4, lk l 4), (38, lk l 38), (39, lk l 39), (40, lk l 40)], rows, low⟩ r := reg (keep := [4, 38, 39, 40]) (ops := c74r4) rfl (by kernel_rfl) (by kernel_rfl)
def c74r5 : List Seg := [
  .one ⟨some 44, .load1 (.t 4), none⟩,
  .one ⟨some 45, .mv (.t 10), none⟩,
  .one ⟨some 46, .call (.t 44) [(.t 45)], none⟩]
def c74k5 : ICode := .kill (dead 49 [4, 10, 38, 39, 40]) (.ops c74r5)
@[simp] theorem uc74k5 : Ex F cx (.code c74k5 :: k) ⟨mk 49 l, rows, low⟩ r ↔ bnd (evP rows (.load1 (.c (lk l 4)))) fun v0 => callK F rows low [lk l 10] (fun v1 R1 L1 => Ex F cx k ⟨mk 49 [(46, v1), (45, lk l 10), (44, v0), (4, lk l 4), (10, lk l 10), (38, lk l 38), (39, lk l 39), (40, lk l 40)], R1, L1⟩ r) v0 := reg (keep := [4, 10, 38, 39, 40]) (ops := c74r5) rfl (by kernel_rfl) (by kernel_rfl)
def c74r6 : List Seg := [
  .one ⟨some 42, .idxS 1 (.t 38) (.t 40), none⟩,
  .one ⟨some 43, .load1 (.t 42), none⟩,
  .one ⟨some 10, .mv (.t 43), none⟩]
def c74k6 : ICode := .kill (dead 49 [4, 38, 39, 40]) (.ops c74r6)
@[simp] theorem uc74k6 : Ex F cx (.code c74k6 :: k) ⟨mk 49 l, rows, low⟩ r ↔ bnd (evP rows (.idxS 1 (.c (lk l 38)) (.c (lk l 40)))) fun v0 => bnd (evP rows (.load1 (.c v0))) fun v1 => Ex F cx k ⟨mk 49 [(10, v1), (43, v1), (42, v0), (4, lk l 4), (38, lk l 38), (39, lk l 39), (40, lk l 40)], rows, low⟩ r := reg (keep := [4, 38, 39, 40]) (ops := c74r6) rfl (by kernel_rfl) (by kernel_rfl)
def c74s7 : ICode := (.seq (.block 3 (.seq c74k6 c74k5)) c74k4)
@[simp] theorem uc74s7 : Ex F cx (.code c74s7 :: k) s r ↔ Ex F cx (.code (.seq (.block 3 (.seq c74k6 c74k5)) c74k4) :: k) s r := Iff.rfl
def c74s8 : ICode := (.seq (.cond (.t 41) .skip (.exit 2)) c74s7)
@[simp] theorem uc74s8 : Ex F cx (.code c74s8 :: k) s r ↔ Ex F cx (.code (.seq (.cond (.t 41) .skip (.exit 2)) c74s7) :: k) s r := Iff.rfl
def c74r9 : List Seg := [
  .one ⟨some 41, .bin .lss (.t 40) (.t 39), none⟩]
def c74k9 : ICode := .kill (dead 49 [4, 38, 39, 40]) (.ops c74r9)
@[simp] theorem uc74k9 : Ex F cx (.code c74k9 :: k) ⟨mk 49 l, rows, low⟩ r ↔ bnd (evP rows (.bin .lss (.c (lk l 40)) (.c (lk l 39)))) fun v0 => Ex F cx k ⟨mk 49 [(41, v0), (4, lk l 4), (38, lk l 38), (39, lk l 39), (40, lk l 40)], rows, low⟩ r := reg (keep := [4, 38, 39, 40]) (ops := c74r9) rfl (by kernel_rfl) (by kernel_rfl)
def c74l3 : ICode := (.seq c74k9 c74s8)
def c74s10 : ICode := (.block 2 (.loop c74l3))
@[simp] theorem uc74s10 : Ex F cx (.code c74s10 :: k) s r ↔ Ex F cx (.code (.block 2 (.loop c74l3)) :: k) s r := Iff.rfl
def c74r11 : List Seg := [
  .one ⟨some 35, .load1 (.t 3), none⟩,
  .one ⟨some 36, .mv (.t 0), none⟩,
  .one ⟨some 37, .mv (.t 8), none⟩,
  .one ⟨some 38, .call (.c (.func 77 [])) [(.t 35), (.t 36), (.t 37)], none⟩,
  .one ⟨some 39, .len 0 (.t 38), none⟩,
  .one ⟨some 40, .mv (.c (.int .i64 0)), none⟩]
def c74k11 : ICode := .kill (dead 49 [0, 3, 4, 8]) (.ops c74r11)
@[simp] theorem uc74k11 : Ex F cx (.code c74k11 :: k) ⟨mk 49 l, rows, low⟩ r ↔ bnd (evP rows (.load1 (.c (lk l 3)))) fun v0 => bnd (Ret F 77 [v0, lk l 0, lk l 8] rows) fun q1 => bnd (evP q1.2.1 (.len 0 (.c q1.1))) fun v2 => Ex F cx k ⟨mk 49 [(40, (.int .i64 0)), (39, v2), (38, q1.1), (37, lk l 8), (36, lk l 0), (35, v0), (0, lk l 0), (3, lk l 3), (4, lk l 4), (8, lk l 8)], q1.2.1, (lowO low q1.2.2)⟩ r := reg (keep := [0, 3, 4, 8]) (ops := c74r11) rfl (by kernel_rfl) (by kernel_rfl)
def c74s12 : ICode := (.seq (.seq c74k11 c74s10) (.exit 0))
@[simp] theorem uc74s12 : Ex F cx (.code c74s12 :: k) s r ↔ Ex F cx (.code (.seq (.seq c74k11 c74s10) (.exit 0)) :: k) s r := Iff.rfl
def c74r13 : List Seg := [
  .one ⟨some 31, .load1 (.t 2), none⟩,
  .one ⟨some 32, .mv (.t 8), none⟩,
  .one ⟨some 33, .mv (.t 6), none⟩,
  .one ⟨some 34, .idxS 1 (.t 31) (.t 32), none⟩,
  .one ⟨none, .store1 (.t 34) (.t 33), none⟩]
def c74k13 : ICode := .kill (dead 49 [0, 2, 3, 4, 6, 8]) (.ops c74r13)
@[simp] theorem uc74k13 : Ex F cx (.code c74k13 :: k) ⟨mk 49 l, rows, low⟩ r ↔ bnd (evP rows (.load1 (.c (lk l 2)))) fun v0 => bnd (evP rows (.idxS 1 (.c v0) (.c (lk l 8)))) fun v1 => bnd (evE rows low (.store1 (.c v1) (.c (lk l 6)))) fun q2 => Ex F cx k ⟨mk 49 [(34, v1), (33, lk l 6), (32, lk l 8), (31, v0), (0, lk l 0), (2, lk l 2), (3, lk l 3), (4, lk l 4), (6, lk l 6), (8, lk l 8)], q2.2.1, q2.2.2⟩ r := reg (keep := [0, 2, 3, 4, 6, 8]) (ops := c74r13) rfl (by kernel_rfl) (by kernel_rfl)
def c74s14 : ICode := (.seq c74k13 c74s12)
@[simp] theorem uc74s14 : Ex F cx (.code c74s14 :: k) s r ↔ Ex F cx (.code (.seq c74k13 c74s12) :: k) s r := Iff.rfl
def c74s15 : ICode := (.cond (.t 30) (.exit 1) .skip)
@[simp] theorem uc74s15 : Ex F cx (.code c74s15 :: k) s r ↔ Ex F cx (.code (.cond (.t 30) (.exit 1) .skip) :: k) s r := Iff.rfl
def c74r16 : List Seg := [
  .one ⟨some 21, .mv (.t 6), none⟩,
  .one ⟨some 22, .bin .gtr (.t 21) (.c (.int .i64 0)), none⟩,
  .one ⟨some 23, .mv (.t 22), none⟩,
  .one ⟨some 24, .load1 (.t 1), some (23, true)⟩,
  .one ⟨some 25, .mv (.t 0), some (23, true)⟩,
  .one ⟨some 26, .mv (.t 8), some (23, true)⟩,
  .one ⟨some 27, .call (.c (.func 76 [])) [(.t 24), (.t 25), (.t 26)], some (23, true)⟩,
  .one ⟨some 28, .mv (.t 6), some (23, true)⟩,
  .one ⟨some 29, .bin .gtr (.t 27) (.t 28), some (23, true)⟩,
  .one ⟨some 30, .pick (.t 23) (.t 29) (.c (.bool false)), none⟩]
def c74k16 : ICode := .kill (dead 49 [0, 1, 2, 3, 4, 6, 8, 15, 16, 17]) (.ops c74r16)
@[simp] theorem uc74k16 : Ex F cx (.code c74k16 :: k) ⟨mk 49 l, rows, low⟩ r ↔ bnd (evP rows (.bin .gtr (.c (lk l 6)) (.c (.int .i64 0)))) fun v0 => bnd (gv v0 true (evP rows (.load1 (.c (lk l 1))))) fun v1 => bnd (gv v0 true (evP rows (.mv (.c (lk l 0))))) fun v2 => bnd (gv v0 true (evP rows (.mv (.c (lk l 8))))) fun v3 => gcall F v0 true rows low [v1, v2, v3] (.func 76 []) fun v4 R4 L4 => bnd (gv v0 true (evP R4 (.mv (.c (lk l 6))))) fun v5 => bnd (gv v0 true (evP R4 (.bin .gtr (.c v4) (.c v5)))) fun v6 => bnd (evP R4 (.pick (.c v0) (.c v6) (.c (.bool false)))) fun v7 => Ex F cx k ⟨mk 49 [(30, v7), (29, v6), (28, v5), (27, v4), (26, v3), (25, v2), (24, v1), (23, v0), (22, v0), (21, lk l 6), (0, lk l 0), (1, lk l 1), (2, lk l 2), (3, lk l 3), (4, lk l 4), (6, lk l 6), (8, lk l 8), (15, lk l 15), (16, lk l 16), (17, lk l 17)], R4, L4⟩ r := reg (keep := [0, 1, 2, 3, 4, 6, 8, 15, 16, 17]) (ops := c74r16) rfl (by kernel_rfl) (by kernel_rfl)
def c74s17 : ICode := (.seq (.seq c74k16 c74s15) c74s14)
@[simp] theorem uc74s17 : Ex F cx (.code c74s17 :: k) s r ↔ Ex F cx (.code (.seq (.seq c74k16 c74s15) c74s14) :: k) s r := Iff.rfl
def c74r18 : List Seg := [
  .one ⟨some 19, .idxS 1 (.t 15) (.t 17), none⟩,
  .one ⟨some 20, .load1 (.t 19), none⟩,
  .one ⟨some 8, .mv (.t 20), none⟩]
def c74k18 : ICode := .kill (dead 49 [0, 1, 2, 3, 4, 6, 15, 16, 17]) (.ops c74r18)
@[simp] theorem uc74k18 : Ex F cx (.code c74k18 :: k) ⟨mk 49 l, rows, low⟩ r ↔ bnd (evP rows (.idxS 1 (.c (lk l 15)) (.c (lk l 17)))) fun v0 => bnd (evP rows (.load1 (.c v0))) fun v1 => Ex F cx k ⟨mk 49 [(8, v1), (20, v1), (19, v0), (0, lk l 0), (1, lk l 1), (2, lk l 2), (3, lk l 3), (4, lk l 4), (6, lk l 6), (15, lk l 15), (16, lk l 16), (17, lk l 17)], rows, low⟩ r := reg (keep := [0, 1, 2, 3, 4, 6, 15, 16, 17]) (ops := c74r18) rfl (by kernel_rfl) (by kernel_rfl)
def c74s19 : ICode := (.seq (.block 1 (.seq c74k18 c74s17)) c74k2)
@[simp] theorem uc74s19 : Ex F cx (.code c74s19 :: k) s r ↔ Ex F cx (.code (.seq (.block 1 (.seq c74k18 c74s17)) c74k2) :: k) s r := Iff.rfl
def c74s20 : ICode := (.seq (.cond (.t 18) .skip (.exit 0)) c74s19)
@[simp] theorem uc74s20 : Ex F cx (.code c74s20 :: k) s r ↔ Ex F cx (.code (.seq (.cond (.t 18) .skip (.exit 0)) c74s19) :: k) s r := Iff.rfl
def c74r21 : List Seg := [
  .one ⟨some 18, .bin .lss (.t 17) (.t 16), none⟩]
def c74k21 : ICode := .kill (dead 49 [0, 1, 2, 3, 4, 6, 15, 16, 17]) (.ops c74r21)
@[simp] theorem uc74k21 : Ex F cx (.code c74k21 :: k) ⟨mk 49 l, rows, low⟩ r ↔ bnd (evP rows (.bin .lss (.c (lk l 17)) (.c (lk l 16)))) fun v0 => Ex F cx k ⟨mk 49 [(18, v0), (0, lk l 0), (1, lk l 1), (2, lk l 2), (3, lk l 3), (4, lk l 4), (6, lk l 6), (15, lk l 15), (16, lk l 16), (17, lk l 17)], rows, low⟩ r := reg (keep := [0, 1, 2, 3, 4, 6, 15, 16, 17]) (ops := c74r21) rfl (by kernel_rfl) (by kernel_rfl)
def c74l1 : ICode := (.seq c74k21 c74s20)
def c74s22 : ICode := (.block 0 (.loop c74l1))
@[simp] theorem uc74s22 : Ex F cx (.code c74s22 :: k) s r ↔ Ex F cx (.code (.block 0 (.loop c74l1)) :: k) s r := Iff.rfl
def c74r23 : List Seg := [
  .one ⟨some 14, .mv (.t 0), none⟩,
  .one ⟨some 15, .call (.c (.func 69 [])) [(.t 14)], none⟩,
  .one ⟨some 16, .len 0 (.t 15), none⟩,
  .one ⟨some 17, .mv (.c (.int .i64 0)), none⟩]
def c74k23 : ICode := .kill (dead 49 [0, 1, 2, 3, 4, 6]) (.ops c74r23)
@[simp] theorem uc74k23 : Ex F cx (.code c74k23 :: k) ⟨mk 49 l, rows, low⟩ r ↔ bnd (Ret F 69 [lk l 0] rows) fun q0 => bnd (evP q0.2.1 (.len 0 (.c q0.1))) fun v1 => Ex F cx k ⟨mk 49 [(17, (.int .i64 0)), (16, v1), (15, q0.1), (14, lk l 0), (0, lk l 0), (1, lk l 1), (2, lk l 2), (3, lk l 3), (4, lk l 4), (6, lk l 6)], q0.2.1, (lowO low q0.2.2)⟩ r := reg (keep := [0, 1, 2, 3, 4, 6]) (ops := c74r23) rfl (by kernel_rfl) (by kernel_rfl)
def c74s24 : ICode := (.seq c74k23 c74s22)
@[simp] theorem uc74s24 : Ex F cx (.code c74s24 :: k) s r ↔ Ex F cx (.code (.seq c74k23 c74s22) :: k) s r := Iff.rfl
def c74s25 : ICode := (.seq .skip c74s24)
@[simp] theorem uc74s25 : Ex F cx (.code c74s25 :: k) s r ↔ Ex F cx (.code (.seq .skip c74s24) :: k) s r := Iff.rfl
def c74r26 : List Seg := [
  .one ⟨some 11, .load1 (.t 1), none⟩,
  .one ⟨some 12, .mv (.t 0), none⟩,
  .one ⟨some 13, .call (.c (.func 75 [])) [(.t 11), (.t 12)], none⟩,
  .one ⟨some 6, .mv (.t 13), none⟩]
def c74k26 : ICode := .kill (dead 49 [0, 1, 2, 3, 4]) (.ops c74r26)
@[simp] theorem uc74k26 : Ex F cx (.code c74k26 :: k) ⟨mk 49 l, rows, low⟩ r ↔ bnd (evP rows (.load1 (.c (lk l 1)))) fun v0 => bnd (Ret F 75 [v0, lk l 0] rows) fun q1 => Ex F cx k ⟨mk 49 [(6, q1.1), (13, q1.1), (12, lk l 0), (11, v0), (0, lk l 0), (1, lk l 1), (2, lk l 2), (3, lk l 3), (4, lk l 4)], q1.2.1, (lowO low q1.2.2)⟩ r := reg (keep := [0, 1, 2, 3, 4]) (ops := c74r26) rfl (by kernel_rfl) (by kernel_rfl)
def c74p0 : ICode := (.seq c74k26 c74s25)
@[simp] theorem uc74p0 : Ex F cx (.code c74p0 :: k) s r ↔ Ex F cx (.code (.seq c74k26 c74s25) :: k) s r := Iff.rfl
def Jc74s7 (F : Nat → Option IFn) (cx : Ctx) (x4 x38 x39 x40 : AV) (rows : List Row) (low : Nat) (r : AV × List Row × Nat → Prop) : Prop := Ex F cx (.code c74s7 :: .inLoop c74l3 :: .inBlock 2 :: .code (.exit 0) :: .inBlock 1 :: .code c74k2 :: .inLoop c74l1 :: .inBlock 0 :: .inScope c74p0 :: []) ⟨mk 49 [(4, x4), (38, x38), (39, x39), (40, x40)], rows, low⟩ r
theorem jc74s7 : Ex F cx (.code c74s7 :: .inLoop c74l3 :: .inBlock 2 :: .code (.exit 0) :: .inBlock 1 :: .code c74k2 :: .inLoop c74l1 :: .inBlock 0 :: .inScope c74p0 :: []) ⟨mk 49 l, rows, low⟩ r ↔ Jc74s7 F cx (lk l 4) (lk l 38) (lk l 39) (lk l 40) rows low r := Ex_canon (keep := [4, 38, 39, 40]) (by kernel_rfl)
def Lc74l3 (F : Nat → Option IFn) (cx : Ctx) (x4 x38 x39 x40 : AV) (rows : List Row) (low : Nat) (r : AV × List Row × Nat → Prop) : Prop := Ex F cx (.code c74l3 :: .inLoop c74l3 :: .inBlock 2 :: .code (.exit 0) :: .inBlock 1 :: .code c74k2 :: .inLoop c74l1 :: .inBlock 0 :: .inScope c74p0 :: []) ⟨mk 49 [(4, x4), (38, x38), (39, x39), (40, x40)], rows, low⟩ r
@[simp] theorem nc74l3 : Ex F cx (.inLoop c74l3 :: .inBlock 2 :: .code (.exit 0) :: .inBlock 1 :: .code c74k2 :: .inLoop c74l1 :: .inBlock 0 :: .inScope c74p0 :: []) ⟨mk 49 l, rows, low⟩ r ↔ Lc74l3 F cx (lk l 4) (lk l 38) (lk l 39) (lk l 40) rows low r := loopN (keep := [4, 38, 39, 40]) (by kernel_rfl)
@[simp] theorem ec74l3 : Ex F cx (.code (.loop c74l3) :: .inBlock 2 :: .code (.exit 0) :: .inBlock 1 :: .code c74k2 :: .inLoop c74l1 :: .inBlock 0 :: .inScope c74p0 :: []) ⟨mk 49 l, rows, low⟩ r ↔ Lc74l3 F cx (lk l 4) (lk l 38) (lk l 39) (lk l 40) rows low r := loopE (keep := [4, 38, 39, 40]) (by kernel_rfl)
@[simp] theorem uc74l3 : Ex F cx (.code c74l3 :: k) s r ↔ Ex F cx (.code (.seq c74k9 c74s8) :: k) s r := Iff.rfl
def Jc74s14 (F : Nat → Option IFn) (cx : Ctx) (x0 x2 x3 x4 x6 x8 : AV) (rows : List Row) (low : Nat) (r : AV × List Row × Nat → Prop) : Prop := Ex F cx (.code c74s14 :: .inBlock 1 :: .code c74k2 :: .inLoop c74l1 :: .inBlock 0 :: .inScope c74p0 :: []) ⟨mk 49 [(0, x0), (2, x2), (3, x3), (4, x4), (6, x6), (8, x8)], rows, low⟩ r
theorem jc74s14 : Ex F cx (.code c74s14 :: .inBlock 1 :: .code c74k2 :: .inLoop c74l1 :: .inBlock 0 :: .inScope c74p0 :: []) ⟨mk 49 l, rows, low⟩ r ↔ Jc74s14 F cx (lk l 0) (lk l 2) (lk l 3) (lk l 4) (lk l 6) (lk l 8) rows low r := Ex_canon (keep := [0, 2, 3, 4, 6, 8]) (by kernel_rfl)
def Jc74s19 (F : Nat → Option IFn) (cx : Ctx) (x0 x1 x2 x3 x4 x6 x15 x16 x17 : AV) (rows : List Row) (low : Nat) (r : AV × List Row × Nat → Prop) : Prop := Ex F cx (.code c74s19 :: .inLoop c74l1 :: .inBlock 0 :: .inScope c74p0 :: []) ⟨mk 49 [(0, x0), (1, x1), (2, x2), (3, x3), (4, x4), (6, x6), (15, x15), (16, x16), (17, x17)], rows, low⟩ r
theorem jc74s19 : Ex F cx (.code c74s19 :: .inLoop c74l1 :: .inBlock 0 :: .inScope c74p0 :: []) ⟨mk 49 l, rows, low⟩ r ↔ Jc74s19 F cx (lk l 0) (lk l 1) (lk l 2) (lk l 3) (lk l 4) (lk l 6) (lk l 15) (lk l 16) (lk l 17) rows low r := Ex_canon (keep := [0, 1, 2, 3, 4, 6, 15, 16, 17]) (by kernel_rfl)
def Lc74l1 (F : Nat → Option IFn) (cx : Ctx) (x0 x1 x2 x3 x4 x6 x15 x16 x17 : AV) (rows : List Row) (low : Nat) (r : AV × List Row × Nat → Prop) : Prop := Ex F cx (.code c74l1 :: .inLoop c74l1 :: .inBlock 0 :: .inScope c74p0 :: []) ⟨mk 49 [(0, x0), (1, x1), (2, x2), (3, x3), (4, x4), (6, x6), (15, x15), (16, x16), (17, x17)], rows, low⟩ r
@[simp] theorem nc74l1 : Ex F cx (.inLoop c74l1 :: .inBlock 0 :: .inScope c74p0 :: []) ⟨mk 49 l, rows, low⟩ r ↔ Lc74l1 F cx (lk l 0) (lk l 1) (lk l 2) (lk l 3) (lk l 4) (lk l 6) (lk l 15) (lk l 16) (lk l 17) rows low r := loopN (keep := [0, 1, 2, 3, 4, 6, 15, 16, 17]) (by kernel_rfl)
@[simp] theorem ec74l1 : Ex F cx (.code (.loop c74l1) :: .inBlock 0 :: .inScope c74p0 :: []) ⟨mk 49 l, rows, low⟩ r ↔ Lc74l1 F cx (lk l 0) (lk l 1) (lk l 2) (lk l 3) (lk l 4) (lk l 6) (lk l 15) (lk l 16) (lk l 17) rows low r := loopE (keep := [0, 1, 2, 3, 4, 6, 15, 16, 17]) (by kernel_rfl)
@[simp] theorem uc74l1 : Ex F cx (.code c74l1 :: k) s r ↔ Ex F cx (.code (.seq c74k21 c74s20) :: k) s r := Iff.rfl
def c74b : ICode := (.scope c74p0)
@[simp] theorem uc74b : Ex F cx (.code c74b :: k) s r ↔ Ex F cx (.code (.scope c74p0) :: k) s r := Iff.rfl
def c74 : IFn := ⟨49, [], c74b⟩
def h74 : List (Nat × List Nat) := [(0, dead 49 [0, 1, 2, 3, 4]), (1, dead 49 [0, 1, 2, 3, 4, 6]), (2, dead 49 [0, 1, 2, 3, 4, 6, 15, 16, 17]), (3, dead 49 [0, 1, 2, 3, 4, 6, 15, 16, 17]), (4, dead 49 [0, 1, 2, 3, 4, 6, 8, 15, 16, 17]), (5, dead 49 [0, 2, 3, 4, 6, 8]), (6, dead 49 [0, 3, 4, 8]), (7, dead 49 [4, 38, 39, 40]), (8, dead 49 [4, 38, 39, 40]), (9, dead 49 [4, 10, 38, 39, 40]), (10, dead 49 [4, 38, 39, 40]), (11, dead 49 [0, 1, 2, 3, 4, 6, 15, 16, 17])]
theorem i74 {x0 x1 x2 x3 x4 : AV} (hF : F 74 = some c74) {q : AV × List Row × Option Nat} (h : Ex F (.fn []) [.code c74b] ⟨mk 49 [(0, x0), (1, x1), (2, x2), (3, x3), (4, x4)], rows, rows.length⟩ fun r => fin rows r.1 r.2.1 r.2.2 = q) : Ret F 74 [x0, x1, x2, x3, x4] rows = some q := Ret_mk hF h
/-! (*tosher/search.looks).of -/
def c75r0 : List Seg := [
  .one ⟨some 53, .mv (.t 7), none⟩,
  .one ⟨some 4, .mv (.t 53), none⟩]
def c75k0 : ICode := .kill (dead 54 [7]) (.ops c75r0)
@[simp] theorem uc75k0 : Ex F cx (.code c75k0 :: k) ⟨mk 54 l, rows, low⟩ r ↔ Ex F cx k ⟨mk 54 [(4, lk l 7), (53, lk l 7), (7, lk l 7)], rows, low⟩ r := reg (keep := [7]) (ops := c75r0) rfl (by kernel_rfl) (by kernel_rfl)
def c75s1 : ICode := (.seq c75k0 .ret)
@[simp] theorem uc75s1 : Ex F cx (.code c75s1 :: k) s r ↔ Ex F cx (.code (.seq c75k0 .ret) :: k) s r := Iff.rfl
def c75r2 : List Seg := [
  .one ⟨some 47, .mv (.t 0), none⟩,
  .one ⟨some 48, .nilck (.t 47), none⟩,
  .one ⟨some 49, .fieldA 1 (.t 48), none⟩,
  .one ⟨some 50, .load1 (.t 49), none⟩,
  .one ⟨some 51, .mv (.t 1), none⟩,
  .one ⟨some 52, .mv (.t 7), none⟩,
  .one ⟨none, .mset (.t 50) (.t 51) (.t 52), none⟩]
def c75k2 : ICode := .kill (dead 54 [0, 1, 7]) (.ops c75r2)
@[simp] theorem uc75k2 : Ex F cx (.code c75k2 :: k) ⟨mk 54 l, rows, low⟩ r ↔ bnd (evP rows (.nilck (.c (lk l 0)))) fun v0 => bnd (evP rows (.fieldA 1 (.c v0))) fun v1 => bnd (evP rows (.load1 (.c v1))) fun v2 => bnd (evE rows low (.mset (.c v2) (.c (lk l 1)) (.c (lk l 7)))) fun q3 => Ex F cx k ⟨mk 54 [(52, lk l 7), (51, lk l 1), (50, v2), (49, v1), (48, v0), (47, lk l 0), (0, lk l 0), (1, lk l 1), (7, lk l 7)], q3.2.1, q3.2.2⟩ r := reg (keep := [0, 1, 7]) (ops := c75r2) rfl (by kernel_rfl) (by kernel_rfl)
def c75s3 : ICode := (.seq c75k2 c75s1)
@[simp] theorem uc75s3 : Ex F cx (.code c75s3 :: k) s r ↔ Ex F cx (.code (.seq c75k2 c75s1) :: k) s r := Iff.rfl
def c75r5 : List Seg := [
  .one ⟨some 46, .bin .add (.t 36) (.c (.int .i64 1)), none⟩,
  .one ⟨some 36, .mv (.t 46), none⟩]
def c75k5 : ICode := .kill (dead 54 [0, 1, 7, 34, 35, 36]) (.ops c75r5)
@[simp] theorem uc75k5 : Ex F cx (.code c75k5 :: k) ⟨mk 54 l, rows, low⟩ r ↔ bnd (evP rows (.bin .add (.c (lk l 36)) (.c (.int .i64 1)))) fun v0 => Ex F cx k ⟨mk 54 [(36, v0), (46, v0), (0, lk l 0), (1, lk l 1), (7, lk l 7), (34, lk l 34), (35, lk l 35), (36, lk l 36)], rows, low⟩ r := reg (keep := [0, 1, 7, 34, 35, 36]) (ops := c75r5) rfl (by kernel_rfl) (by kernel_rfl)
def c75r6 : List Seg := [
  .one ⟨some 40, .mv (.t 7), none⟩,
  .one ⟨some 41, .mv (.t 0), none⟩,
  .one ⟨some 42, .mv (.t 1), none⟩,
  .one ⟨some 43, .mv (.t 9), none⟩,
  .one ⟨some 44, .call (.c (.func 76 [])) [(.t 41), (.t 42), (.t 43)], none⟩,
  .one ⟨some 45, .call (.c (.func 93 [])) [(.t 40), (.t 44)], none⟩,
  .one ⟨some 7, .mv (.t 45), none⟩]
def c75k6 : ICode := .kill (dead 54 [0, 1, 7, 9, 34, 35, 36]) (.ops c75r6)
@[simp] theorem uc75k6 : Ex F cx (.code c75k6 :: k) ⟨mk 54 l, rows, low⟩ r ↔ bnd (Ret F 76 [lk l 0, lk l 1, lk l 9] rows) fun q0 => bnd (Ret F 93 [lk l 7, q0.1] q0.2.1) fun q1 => Ex F cx k ⟨mk 54 [(7, q1.1), (45, q1.1), (44, q0.1), (43, lk l 9), (42, lk l 1), (41, lk l 0), (40, lk l 7), (0, lk l 0), (1, lk l 1), (7, lk l 7), (9, lk l 9), (34, lk l 34), (35, lk l 35), (36, lk l 36)], q1.2.1, (lowO (lowO low q0.2.2) q1.2.2)⟩ r := reg (keep := [0, 1, 7, 9, 34, 35, 36]) (ops := c75r6) rfl (by kernel_rfl) (by kernel_rfl)
def c75r7 : List Seg := [
  .one ⟨some 38, .idxS 1 (.t 34) (.t 36), none⟩,
  .one ⟨some 39, .load1 (.t 38), none⟩,
  .one ⟨some 9, .mv (.t 39), none⟩]
def c75k7 : ICode := .kill (dead 54 [0, 1, 7, 34, 35, 36]) (.ops c75r7)
@[simp] theorem uc75k7 : Ex F cx (.code c75k7 :: k) ⟨mk 54 l, rows, low⟩ r ↔ bnd (evP rows (.idxS 1 (.c (lk l 34)) (.c (lk l 36)))) fun v0 => bnd (evP rows (.load1 (.c v0))) fun v1 => Ex F cx k ⟨mk 54 [(9, v1), (39, v1), (38, v0), (0, lk l 0), (1, lk l 1), (7, lk l 7), (34, lk l 34), (35, lk l 35), (36, lk l 36)], rows, low⟩ r := reg (keep := [0, 1, 7, 34, 35, 36]) (ops := c75r7) rfl (by kernel_rfl) (by kernel_rfl)
def c75s8 : ICode := (.seq (.block 1 (.seq c75k7 c75k6)) c75k5)
@[simp] theorem uc75s8 : Ex F cx (.code c75s8 :: k) s r ↔ Ex F cx (.code (.seq (.block 1 (.seq c75k7 c75k6)) c75k5) :: k) s r := Iff.rfl
def c75s9 : ICode := (.seq (.cond (.t 37) .skip (.exit 0)) c75s8)
@[simp] theorem uc75s9 : Ex F cx (.code c75s9 :: k) s r ↔ Ex F cx (.code (.seq (.cond (.t 37) .skip (.exit 0)) c75s8) :: k) s r := Iff.rfl
def c75r10 : List Seg := [
  .one ⟨some 37, .bin .lss (.t 36) (.t 35), none⟩]
def c75k10 : ICode := .kill (dead 54 [0, 1, 7, 34, 35, 36]) (.ops c75r10)
@[simp] theorem uc75k10 : Ex F cx (.code c75k10 :: k) ⟨mk 54 l, rows, low⟩ r ↔ bnd (evP rows (.bin .lss (.c (lk l 36)) (.c (lk l 35)))) fun v0 => Ex F cx k ⟨mk 54 [(37, v0), (0, lk l 0), (1, lk l 1), (7, lk l 7), (34, lk l 34), (35, lk l 35), (36, lk l 36)], rows, low⟩ r := reg (keep := [0, 1, 7, 34, 35, 36]) (ops := c75r10) rfl (by kernel_rfl) (by kernel_rfl)
def c75l4 : ICode := (.seq c75k10 c75s9)
def c75s11 : ICode := (.block 0 (.loop c75l4))
@[simp] theorem uc75s11 : Ex F cx (.code c75s11 :: k) s r ↔ Ex F cx (.code (.block 0 (.loop c75l4)) :: k) s r := Iff.rfl
def c75r12 : List Seg := [
  .one ⟨some 33, .mv (.t 1), none⟩,
  .one ⟨some 34, .call (.c (.func 69 [])) [(.t 33)], none⟩,
  .one ⟨some 35, .len 0 (.t 34), none⟩,
  .one ⟨some 36, .mv (.c (.int .i64 0)), none⟩]
def c75k12 : ICode := .kill (dead 54 [0, 1, 7]) (.ops c75r12)
@[simp] theorem uc75k12 : Ex F cx (.code c75k12 :: k) ⟨mk 54 l, rows, low⟩ r ↔ bnd (Ret F 69 [lk l 1] rows) fun q0 => bnd (evP q0.2.1 (.len 0 (.c q0.1))) fun v1 => Ex F cx k ⟨mk 54 [(36, (.int .i64 0)), (35, v1), (34, q0.1), (33, lk l 1), (0, lk l 0), (1, lk l 1), (7, lk l 7)], q0.2.1, (lowO low q0.2.2)⟩ r := reg (keep := [0, 1, 7]) (ops := c75r12) rfl (by kernel_rfl) (by kernel_rfl)
def c75s13 : ICode := (.seq (.seq c75k12 c75s11) c75s3)
@[simp] theorem uc75s13 : Ex F cx (.code c75s13 :: k) s r ↔ Ex F cx (.code (.seq (.seq c75k12 c75s11) c75s3) :: k) s r := Iff.rfl
def c75r14 : List Seg := [
  .one ⟨some 26, .mv (.t 0), none⟩,
  .one ⟨some 27, .nilck (.t 26), none⟩,
  .one ⟨some 28, .fieldA 0 (.t 27), none⟩,
  .one ⟨some 29, .load1 (.t 28), none⟩,
  .one ⟨some 30, .nilck (.t 29), none⟩,
  .one ⟨some 31, .fieldA 0 (.t 30), none⟩,
  .one ⟨some 32, .load1 (.t 31), none⟩,
  .one ⟨some 7, .mv (.t 32), none⟩]
def c75k14 : ICode := .kill (dead 54 [0, 1]) (.ops c75r14)
@[simp] theorem uc75k14 : Ex F cx (.code c75k14 :: k) ⟨mk 54 l, rows, low⟩ r ↔ bnd (evP rows (.nilck (.c (lk l 0)))) fun v0 => bnd (evP rows (.fieldA 0 (.c v0))) fun v1 => bnd (evP rows (.load1 (.c v1))) fun v2 => bnd (evP rows (.nilck (.c v2))) fun v3 => bnd (evP rows (.fieldA 0 (.c v3))) fun v4 => bnd (evP rows (.load1 (.c v4))) fun v5 => Ex F cx k ⟨mk 54 [(7, v5), (32, v5), (31, v4), (30, v3), (29, v2), (28, v1), (27, v0), (26, lk l 0), (0, lk l 0), (1, lk l 1)], rows, low⟩ r := reg (keep := [0, 1]) (ops := c75r14) rfl (by kernel_rfl) (by kernel_rfl)
def c75s15 : ICode := (.seq c75k14 c75s13)
@[simp] theorem uc75s15 : Ex F cx (.code c75s15 :: k) s r ↔ Ex F cx (.code (.seq c75k14 c75s13) :: k) s r := Iff.rfl
def c75r16 : List Seg := [
  .one ⟨some 25, .mv (.t 5), none⟩,
  .one ⟨some 4, .mv (.t 25), none⟩]
def c75k16 : ICode := .kill (dead 54 [5]) (.ops c75r16)
@[simp] theorem uc75k16 : Ex F cx (.code c75k16 :: k) ⟨mk 54 l, rows, low⟩ r ↔ Ex F cx k ⟨mk 54 [(4, lk l 5), (25, lk l 5), (5, lk l 5)], rows, low⟩ r := reg (keep := [5]) (ops := c75r16) rfl (by kernel_rfl) (by kernel_rfl)
def c75s17 : ICode := (.cond (.t 24) (.seq c75k16 .ret) .skip)
@[simp] theorem uc75s17 : Ex F cx (.code c75s17 :: k) s r ↔ Ex F cx (.code (.cond (.t 24) (.seq c75k16 .ret) .skip) :: k) s r := Iff.rfl
def c75r18 : List Seg := [
  .one ⟨some 24, .mv (.t 6), none⟩]
def c75k18 : ICode := .kill (dead 54 [0, 1, 5, 6]) (.ops c75r18)
@[simp] theorem uc75k18 : Ex F cx (.code c75k18 :: k) ⟨mk 54 l, rows, low⟩ r ↔ Ex F cx k ⟨mk 54 [(24, lk l 6), (0, lk l 0), (1, lk l 1), (5, lk l 5), (6, lk l 6)], rows, low⟩ r := reg (keep := [0, 1, 5, 6]) (ops := c75r18) rfl (by kernel_rfl) (by kernel_rfl)
def c75s19 : ICode := (.seq c75k18 c75s17)
@[simp] theorem uc75s19 : Ex F cx (.code c75s19 :: k) s r ↔ Ex F cx (.code (.seq c75k18 c75s17) :: k) s r := Iff.rfl
def c75r20 : List Seg := [
  .one ⟨some 16, .mv (.t 0), none⟩,
  .one ⟨some 17, .nilck (.t 16), none⟩,
  .one ⟨some 18, .fieldA 1 (.t 17), none⟩,
  .one ⟨some 19, .load1 (.t 18), none⟩,
  .one ⟨some 20, .mv (.t 1), none⟩,
  .one ⟨some 21, .look (.int .i64 0) true (.t 19) (.t 20), none⟩,
  .one ⟨some 15, .mv (.t 21), none⟩,
  .one ⟨some 22, .ext (.t 15) 0, none⟩,
  .one ⟨some 23, .ext (.t 15) 1, none⟩,
  .one ⟨some 5, .mv (.t 22), none⟩,
  .one ⟨some 6, .mv (.t 23), none⟩]
def c75k20 : ICode := .kill (dead 54 [0, 1]) (.ops c75r20)
@[simp] theorem uc75k20 : Ex F cx (.code c75k20 :: k) ⟨mk 54 l, rows, low⟩ r ↔ bnd (evP rows (.nilck (.c (lk l 0)))) fun v0 => bnd (evP rows (.fieldA 1 (.c v0))) fun v1 => bnd (evP rows (.load1 (.c v1))) fun v2 => bnd (evP rows (.look (.int .i64 0) true (.c v2) (.c (lk l 1)))) fun v3 => bnd (evP rows (.ext (.c v3) 0)) fun v4 => bnd (evP rows (.ext (.c v3) 1)) fun v5 => Ex F cx k ⟨mk 54 [(6, v5), (5, v4), (23, v5), (22, v4), (15, v3), (21, v3), (20, lk l 1), (19, v2), (18, v1), (17, v0), (16, lk l 0), (0, lk l 0), (1, lk l 1)], rows, low⟩ r := reg (keep := [0, 1]) (ops := c75r20) rfl (by kernel_rfl) (by kernel_rfl)
def c75s21 : ICode := (.seq (.seq c75k20 c75s19) c75s15)
@[simp] theorem uc75s21 : Ex F cx (.code c75s21 :: k) s r ↔ Ex F cx (.code (.seq (.seq c75k20 c75s19) c75s15) :: k) s r := Iff.rfl
def c75r22 : List Seg := [
  .one ⟨some 4, .mv (.c (.int .i64 0)), none⟩]
def c75k22 : ICode := .kill (dead 54 []) (.ops c75r22)
@[simp] theorem uc75k22 : Ex F cx (.code c75k22 :: k) ⟨mk 54 l, rows, low⟩ r ↔ Ex F cx k ⟨mk 54 [(4, (.int .i64 0))], rows, low⟩ r := reg (keep := []) (ops := c75r22) rfl (by kernel_rfl) (by kernel_rfl)
def c75s23 : ICode := (.cond (.t 14) (.seq c75k22 .ret) .skip)
@[simp] theorem uc75s23 : Ex F cx (.code c75s23 :: k) s r ↔ Ex F cx (.code (.cond (.t 14) (.seq c75k22 .ret) .skip) :: k) s r := Iff.rfl
def c75r24 : List Seg := [
  .one ⟨some 10, .mv (.t 1), none⟩,
  .one ⟨some 11, .mv (.t 1), none⟩,
  .one ⟨some 12, .bin .sub (.t 11) (.c (.int .i64 1)), none⟩,
  .one ⟨some 13, .bin .and (.t 10) (.t 12), none⟩,
  .one ⟨some 14, .bin .eql (.t 13) (.c (.int .i64 0)), none⟩]
def c75k24 : ICode := .kill (dead 54 [0, 1]) (.ops c75r24)
@[simp] theorem uc75k24 : Ex F cx (.code c75k24 :: k) ⟨mk 54 l, rows, low⟩ r ↔ bnd (evP rows (.bin .sub (.c (lk l 1)) (.c (.int .i64 1)))) fun v0 => bnd (evP rows (.bin .and (.c (lk l 1)) (.c v0))) fun v1 => bnd (evP rows (.bin .eql (.c v1) (.c (.int .i64 0)))) fun v2 => Ex F cx k ⟨mk 54 [(14, v2), (13, v1), (12, v0), (11, lk l 1), (10, lk l 1), (0, lk l 0), (1, lk l 1)], rows, low⟩ r := reg (keep := [0, 1]) (ops := c75r24) rfl (by kernel_rfl) (by kernel_rfl)
def c75s25 : ICode := (.seq (.seq c75k24 c75s23) c75s21)
@[simp] theorem uc75s25 : Ex F cx (.code c75s25 :: k) s r ↔ Ex F cx (.code (.seq (.seq c75k24 c75s23) c75s21) :: k) s r := Iff.rfl
def c75r26 : List Seg := [
  .one ⟨some 4, .mv (.c (.int .i64 0)), none⟩]
def c75k26 : ICode := .kill (dead 54 [0, 1]) (.ops c75r26)
@[simp] theorem uc75k26 : Ex F cx (.code c75k26 :: k) ⟨mk 54 l, rows, low⟩ r ↔ Ex F cx k ⟨mk 54 [(4, (.int .i64 0)), (0, lk l 0), (1, lk l 1)], rows, low⟩ r := reg (keep := [0, 1]) (ops := c75r26) rfl (by kernel_rfl) (by kernel_rfl)
def Jc75s8 (F : Nat → Option IFn) (cx : Ctx) (x0 x1 x7 x34 x35 x36 : AV) (rows : List Row) (low : Nat) (r : AV × List Row × Nat → Prop) : Prop := Ex F cx (.code c75s8 :: .inLoop c75l4 :: .inBlock 0 :: .code c75s3 :: []) ⟨mk 54 [(0, x0), (1, x1), (7, x7), (34, x34), (35, x35), (36, x36)], rows, low⟩ r
theorem jc75s8 : Ex F cx (.code c75s8 :: .inLoop c75l4 :: .inBlock 0 :: .code c75s3 :: []) ⟨mk 54 l, rows, low⟩ r ↔ Jc75s8 F cx (lk l 0) (lk l 1) (lk l 7) (lk l 34) (lk l 35) (lk l 36) rows low r := Ex_canon (keep := [0, 1, 7, 34, 35, 36]) (by kernel_rfl)
def Lc75l4 (F : Nat → Option IFn) (cx : Ctx) (x0 x1 x7 x34 x35 x36 : AV) (rows : List Row) (low : Nat) (r : AV × List Row × Nat → Prop) : Prop := Ex F cx (.code c75l4 :: .inLoop c75l4 :: .inBlock 0 :: .code c75s3 :: []) ⟨mk 54 [(0, x0), (1, x1), (7, x7), (34, x34), (35, x35), (36, x36)], rows, low⟩ r
@[simp] theorem nc75l4 : Ex F cx (.inLoop c75l4 :: .inBlock 0 :: .code c75s3 :: []) ⟨mk 54 l, rows, low⟩ r ↔ Lc75l4 F cx (lk l 0) (lk l 1) (lk l 7) (lk l 34) (lk l 35) (lk l 36) rows low r := loopN (keep := [0, 1, 7, 34, 35, 36]) (by kernel_rfl)
@[simp] theorem ec75l4 : Ex F cx (.code (.loop c75l4) :: .inBlock 0 :: .code c75s3 :: []) ⟨mk 54 l, rows, low⟩ r ↔ Lc75l4 F cx (lk l 0) (lk l 1) (lk l 7) (lk l 34) (lk l 35) (lk l 36) rows low r := loopE (keep := [0, 1, 7, 34, 35, 36]) (by kernel_rfl)
@[simp] theorem uc75l4 : Ex F cx (.code c75l4 :: k) s r ↔ Ex F cx (.code (.seq c75k10 c75s9) :: k) s r := Iff.rfl
def Jc75s15 (F : Nat → Option IFn) (cx : Ctx) (x0 x1 : AV) (rows : List Row) (low : Nat) (r : AV × List Row × Nat → Prop) : Prop := Ex F cx (.code c75s15 :: []) ⟨mk 54 [(0, x0), (1, x1)], rows, low⟩ r
theorem jc75s15 : Ex F cx (.code c75s15 :: []) ⟨mk 54 l, rows, low⟩ r ↔ Jc75s15 F cx (lk l 0) (lk l 1) rows low r := Ex_canon (keep := [0, 1]) (by kernel_rfl)
def Jc75s21 (F : Nat → Option IFn) (cx : Ctx) (x0 x1 : AV) (rows : List Row) (low : Nat) (r : AV × List Row × Nat → Prop) : Prop := Ex F cx (.code c75s21 :: []) ⟨mk 54 [(0, x0), (1, x1)], rows, low⟩ r
theorem jc75s21 : Ex F cx (.code c75s21 :: []) ⟨mk 54 l, rows, low⟩ r ↔ Jc75s21 F cx (lk l 0) (lk l 1) rows low r := Ex_canon (keep := [0, 1]) (by kernel_rfl)
def c75b : ICode := (.seq c75k26 c75s25)
@[simp] theorem uc75b : Ex F cx (.code c75b :: k) s r ↔ Ex F cx (.code (.seq c75k26 c75s25) :: k) s r := Iff.rfl
def c75 : IFn := ⟨54, [.t 4], c75b⟩
def h75 : List (Nat × List Nat) := [(0, dead 54 [0, 1]), (1, dead 54 [0, 1]), (2, dead 54 []), (3, dead 54 [0, 1]), (4, dead 54 [0, 1, 5, 6]), (5, dead 54 [5]), (6, dead 54 [0, 1]), (7, dead 54 [0, 1, 7]), (8, dead 54 [0, 1, 7, 34, 35, 36]), (9, dead 54 [0, 1, 7, 34, 35, 36]), (10, dead 54 [0, 1, 7, 9, 34, 35, 36]), (11, dead 54 [0, 1, 7, 34, 35, 36]), (12, dead 54 [0, 1, 7]), (13, dead 54 [7])]
theorem i75 {x0 x1 : AV} (hF : F 75 = some c75) {q : AV × List Row × Option Nat} (h : Ex F (.fn [.t 4]) [.code c75b] ⟨mk 54 [(0, x0), (1, x1)], rows, rows.length⟩ fun r => fin rows r.1 r.2.1 r.2.2 = q) : Ret F 75 [x0, x1] rows = some q := Ret_mk hF h
/-! (*tosher/search.looks).with -/
def c76r0 : List Seg := [
  .one ⟨some 28, .mv (.t 7), none⟩,
  .one ⟨some 29, .bin .add (.t 28) (.c (.int .i64 1)), none⟩,
  .one ⟨some 6, .mv (.t 29), none⟩]
def c76k0 : ICode := .kill (dead 30 [7]) (.ops c76r0)
@[simp] theorem uc76k0 : Ex F cx (.code c76k0 :: k) ⟨mk 30 l, rows, low⟩ r ↔ bnd (evP rows (.bin .add (.c (lk l 7)) (.c (.int .i64 1)))) fun v0 => Ex F cx k ⟨mk 30 [(6, v0), (29, v0), (28, lk l 7), (7, lk l 7)], rows, low⟩ r := reg (keep := [7]) (ops := c76r0) rfl (by kernel_rfl) (by kernel_rfl)
def c76s1 : ICode := (.seq c76k0 .ret)
@[simp] theorem uc76s1 : Ex F cx (.code c76s1 :: k) s r ↔ Ex F cx (.code (.seq c76k0 .ret) :: k) s r := Iff.rfl
def c76r3 : List Seg := [
  .one ⟨some 27, .bin .add (.t 18) (.c (.int .i64 1)), none⟩,
  .one ⟨some 18, .mv (.t 27), none⟩]
def c76k3 : ICode := .kill (dead 30 [0, 7, 16, 17, 18]) (.ops c76r3)
@[simp] theorem uc76k3 : Ex F cx (.code c76k3 :: k) ⟨mk 30 l, rows, low⟩ r ↔ bnd (evP rows (.bin .add (.c (lk l 18)) (.c (.int .i64 1)))) fun v0 => Ex F cx k ⟨mk 30 [(18, v0), (27, v0), (0, lk l 0), (7, lk l 7), (16, lk l 16), (17, lk l 17), (18, lk l 18)], rows, low⟩ r := reg (keep := [0, 7, 16, 17, 18]) (ops := c76r3) rfl (by kernel_rfl) (by kernel_rfl)
def c76r4 : List Seg := [
  .one ⟨some 22, .mv (.t 7), none⟩,
  .one ⟨some 23, .mv (.t 0), none⟩,
  .one ⟨some 24, .mv (.t 9), none⟩,
  .one ⟨some 25, .call (.c (.func 75 [])) [(.t 23), (.t 24)], none⟩,
  .one ⟨some 26, .mx [(.t 22), (.t 25)], none⟩,
  .one ⟨some 7, .mv (.t 26), none⟩]
def c76k4 : ICode := .kill (dead 30 [0, 7, 9, 16, 17, 18]) (.ops c76r4)
@[simp] theorem uc76k4 : Ex F cx (.code c76k4 :: k) ⟨mk 30 l, rows, low⟩ r ↔ bnd (Ret F 75 [lk l 0, lk l 9] rows) fun q0 => bnd (evP q0.2.1 (.mx [(.c (lk l 7)), (.c q0.1)])) fun v1 => Ex F cx k ⟨mk 30 [(7, v1), (26, v1), (25, q0.1), (24, lk l 9), (23, lk l 0), (22, lk l 7), (0, lk l 0), (7, lk l 7), (9, lk l 9), (16, lk l 16), (17, lk l 17), (18, lk l 18)], q0.2.1, (lowO low q0.2.2)⟩ r := reg (keep := [0, 7, 9, 16, 17, 18]) (ops := c76r4) rfl (by kernel_rfl) (by kernel_rfl)
def c76r5 : List Seg := [
  .one ⟨some 20, .idxS 1 (.t 16) (.t 18), none⟩,
  .one ⟨some 21, .load1 (.t 20), none⟩,
  .one ⟨some 9, .mv (.t 21), none⟩]
def c76k5 : ICode := .kill (dead 30 [0, 7, 16, 17, 18]) (.ops c76r5)
@[simp] theorem uc76k5 : Ex F cx (.code c76k5 :: k) ⟨mk 30 l, rows, low⟩ r ↔ bnd (evP rows (.idxS 1 (.c (lk l 16)) (.c (lk l 18)))) fun v0 => bnd (evP rows (.load1 (.c v0))) fun v1 => Ex F cx k ⟨mk 30 [(9, v1), (21, v1), (20, v0), (0, lk l 0), (7, lk l 7), (16, lk l 16), (17, lk l 17), (18, lk l 18)], rows, low⟩ r := reg (keep := [0, 7, 16, 17, 18]) (ops := c76r5) rfl (by kernel_rfl) (by kernel_rfl)
def c76s6 : ICode := (.seq (.block 1 (.seq c76k5 c76k4)) c76k3)
@[simp] theorem uc76s6 : Ex F cx (.code c76s6 :: k) s r ↔ Ex F cx (.code (.seq (.block 1 (.seq c76k5 c76k4)) c76k3) :: k) s r := Iff.rfl
def c76s7 : ICode := (.seq (.cond (.t 19) .skip (.exit 0)) c76s6)
@[simp] theorem uc76s7 : Ex F cx (.code c76s7 :: k) s r ↔ Ex F cx (.code (.seq (.cond (.t 19) .skip (.exit 0)) c76s6) :: k) s r := Iff.rfl
def c76r8 : List Seg := [
  .one ⟨some 19, .bin .lss (.t 18) (.t 17), none⟩]
def c76k8 : ICode := .kill (dead 30 [0, 7, 16, 17, 18]) (.ops c76r8)
@[simp] theorem uc76k8 : Ex F cx (.code c76k8 :: k) ⟨mk 30 l, rows, low⟩ r ↔ bnd (evP rows (.bin .lss (.c (lk l 18)) (.c (lk l 17)))) fun v0 => Ex F cx k ⟨mk 30 [(19, v0), (0, lk l 0), (7, lk l 7), (16, lk l 16), (17, lk l 17), (18, lk l 18)], rows, low⟩ r := reg (keep := [0, 7, 16, 17, 18]) (ops := c76r8) rfl (by kernel_rfl) (by kernel_rfl)
def c76l2 : ICode := (.seq c76k8 c76s7)
def c76s9 : ICode := (.block 0 (.loop c76l2))
@[simp] theorem uc76s9 : Ex F cx (.code c76s9 :: k) s r ↔ Ex F cx (.code (.block 0 (.loop c76l2)) :: k) s r := Iff.rfl
def c76r10 : List Seg := [
  .one ⟨some 10, .mv (.t 0), none⟩,
  .one ⟨some 11, .nilck (.t 10), none⟩,
  .one ⟨some 12, .fieldA 0 (.t 11), none⟩,
  .one ⟨some 13, .load1 (.t 12), none⟩,
  .one ⟨some 14, .mv (.t 1), none⟩,
  .one ⟨some 15, .mv (.t 2), none⟩,
  .one ⟨some 16, .call (.c (.func 77 [])) [(.t 13), (.t 14), (.t 15)], none⟩,
  .one ⟨some 17, .len 0 (.t 16), none⟩,
  .one ⟨some 18, .mv (.c (.int .i64 0)), none⟩]
def c76k10 : ICode := .kill (dead 30 [0, 1, 2, 7]) (.ops c76r10)
@[simp] theorem uc76k10 : Ex F cx (.code c76k10 :: k) ⟨mk 30 l, rows, low⟩ r ↔ bnd (evP rows (.nilck (.c (lk l 0)))) fun v0 => bnd (evP rows (.fieldA 0 (.c v0))) fun v1 => bnd (evP rows (.load1 (.c v1))) fun v2 => bnd (Ret F 77 [v2, lk l 1, lk l 2] rows) fun q3 => bnd (evP q3.2.1 (.len 0 (.c q3.1))) fun v4 => Ex F cx k ⟨mk 30 [(18, (.int .i64 0)), (17, v4), (16, q3.1), (15, lk l 2), (14, lk l 1), (13, v2), (12, v1), (11, v0), (10, lk l 0), (0, lk l 0), (1, lk l 1), (2, lk l 2), (7, lk l 7)], q3.2.1, (lowO low q3.2.2)⟩ r := reg (keep := [0, 1, 2, 7]) (ops := c76r10) rfl (by kernel_rfl) (by kernel_rfl)
def c76s11 : ICode := (.seq (.seq c76k10 c76s9) c76s1)
@[simp] theorem uc76s11 : Ex F cx (.code c76s11 :: k) s r ↔ Ex F cx (.code (.seq (.seq c76k10 c76s9) c76s1) :: k) s r := Iff.rfl
def c76r12 : List Seg := [
  .one ⟨some 7, .mv (.c (.int .i64 0)), none⟩]
def c76k12 : ICode := .kill (dead 30 [0, 1, 2]) (.ops c76r12)
@[simp] theorem uc76k12 : Ex F cx (.code c76k12 :: k) ⟨mk 30 l, rows, low⟩ r ↔ Ex F cx k ⟨mk 30 [(7, (.int .i64 0)), (0, lk l 0), (1, lk l 1), (2, lk l 2)], rows, low⟩ r := reg (keep := [0, 1, 2]) (ops := c76r12) rfl (by kernel_rfl) (by kernel_rfl)
def c76s13 : ICode := (.seq c76k12 c76s11)
@[simp] theorem uc76s13 : Ex F cx (.code c76s13 :: k) s r ↔ Ex F cx (.code (.seq c76k12 c76s11) :: k) s r := Iff.rfl
def c76r14 : List Seg := [
  .one ⟨some 6, .mv (.c (.int .i64 0)), none⟩]
def c76k14 : ICode := .kill (dead 30 [0, 1, 2]) (.ops c76r14)
@[simp] theorem uc76k14 : Ex F cx (.code c76k14 :: k) ⟨mk 30 l, rows, low⟩ r ↔ Ex F cx k ⟨mk 30 [(6, (.int .i64 0)), (0, lk l 0), (1, lk l 1), (2, lk l 2)], rows, low⟩ r := reg (keep := [0, 1, 2]) (ops := c76r14) rfl (by kernel_rfl) (by kernel_rfl)
def Jc76s6 (F : Nat → Option IFn) (cx : Ctx) (x0 x7 x16 x17 x18 : AV) (rows : List Row) (low : Nat) (r : AV × List Row × Nat → Prop) : Prop := Ex F cx (.code c76s6 :: .inLoop c76l2 :: .inBlock 0 :: .code c76s1 :: []) ⟨mk 30 [(0, x0), (7, x7), (16, x16), (17, x17), (18, x18)], rows, low⟩ r
theorem jc76s6 : Ex F cx (.code c76s6 :: .inLoop c76l2 :: .inBlock 0 :: .code c76s1 :: []) ⟨mk 30 l, rows, low⟩ r ↔ Jc76s6 F cx (lk l 0) (lk l 7) (lk l 16) (lk l 17) (lk l 18) rows low r := Ex_canon (keep := [0, 7, 16, 17, 18]) (by kernel_rfl)
def Lc76l2 (F : Nat → Option IFn) (cx : Ctx) (x0 x7 x16 x17 x18 : AV) (rows : List Row) (low : Nat) (r : AV × List Row × Nat → Prop) : Prop := Ex F cx (.code c76l2 :: .inLoop c76l2 :: .inBlock 0 :: .code c76s1 :: []) ⟨mk 30 [(0, x0), (7, x7), (16, x16), (17, x17), (18, x18)], rows, low⟩ r
@[simp] theorem nc76l2 : Ex F cx (.inLoop c76l2 :: .inBlock 0 :: .code c76s1 :: []) ⟨mk 30 l, rows, low⟩ r ↔ Lc76l2 F cx (lk l 0) (lk l 7) (lk l 16) (lk l 17) (lk l 18) rows low r := loopN (keep := [0, 7, 16, 17, 18]) (by kernel_rfl)
@[simp] theorem ec76l2 : Ex F cx (.code (.loop c76l2) :: .inBlock 0 :: .code c76s1 :: []) ⟨mk 30 l, rows, low⟩ r ↔ Lc76l2 F cx (lk l 0) (lk l 7) (lk l 16) (lk l 17) (lk l 18) rows low r := loopE (keep := [0, 7, 16, 17, 18]) (by kernel_rfl)
@[simp] theorem uc76l2 : Ex F cx (.code c76l2 :: k) s r ↔ Ex F cx (.code (.seq c76k8 c76s7) :: k) s r := Iff.rfl
def c76b : ICode := (.seq c76k14 c76s13)
@[simp] theorem uc76b : Ex F cx (.code c76b :: k) s r ↔ Ex F cx (.code (.seq c76k14 c76s13) :: k) s r := Iff.rfl
def c76 : IFn := ⟨30, [.t 6], c76b⟩
def h76 : List (Nat × List Nat) := [(0, dead 30 [0, 1, 2]), (1, dead 30 [0, 1, 2]), (2, dead 30 [0, 1, 2, 7]), (3, dead 30 [0, 7, 16, 17, 18]), (4, dead 30 [0, 7, 16, 17, 18]), (5, dead 30 [0, 7, 9, 16, 17, 18]), (6, dead 30 [0, 7, 16, 17, 18]), (7, dead 30 [7])]
theorem i76 {x0 x1 x2 : AV} (hF : F 76 = some c76) {q : AV × List Row × Option Nat} (h : Ex F (.fn [.t 6]) [.code c76b] ⟨mk 30 [(0, x0), (1, x1), (2, x2)], rows, rows.length⟩ fun r => fin rows r.1 r.2.1 r.2.2 = q) : Ret F 76 [x0, x1, x2] rows = some q := Ret_mk hF h
/-! (*tosher/search.tree).parts -/
def c77r0 : List Seg := [
  .one ⟨some 30, .mv (.t 7), none⟩,
  .one ⟨some 6, .mv (.t 30), none⟩]
def c77k0 : ICode := .kill (dead 31 [7]) (.ops c77r0)
@[simp] theorem uc77k0 : Ex F cx (.code c77k0 :: k) ⟨mk 31 l, rows, low⟩ r ↔ Ex F cx k ⟨mk 31 [(6, lk l 7), (30, lk l 7), (7, lk l 7)], rows, low⟩ r := reg (keep := [7]) (ops := c77r0) rfl (by kernel_rfl) (by kernel_rfl)
def c77s1 : ICode := (.seq c77k0 .ret)
@[simp] theorem uc77s1 : Ex F cx (.code c77s1 :: k) s r ↔ Ex F cx (.code (.seq c77k0 .ret) :: k) s r := Iff.rfl
def c77r3 : List Seg := [
  .one ⟨some 27, .mv (.t 8), none⟩,
  .one ⟨some 28, .mv (.t 9), none⟩,
  .one ⟨some 29, .bin .andNot (.t 27) (.t 28), none⟩,
  .one ⟨some 8, .mv (.t 29), none⟩]
def c77k3 : ICode := .kill (dead 31 [0, 7, 8, 9]) (.ops c77r3)
@[simp] theorem uc77k3 : Ex F cx (.code c77k3 :: k) ⟨mk 31 l, rows, low⟩ r ↔ bnd (evP rows (.bin .andNot (.c (lk l 8)) (.c (lk l 9)))) fun v0 => Ex F cx k ⟨mk 31 [(8, v0), (29, v0), (28, lk l 9), (27, lk l 8), (0, lk l 0), (7, lk l 7), (8, lk l 8), (9, lk l 9)], rows, low⟩ r := reg (keep := [0, 7, 8, 9]) (ops := c77r3) rfl (by kernel_rfl) (by kernel_rfl)
def c77r4 : List Seg := [
  .one ⟨some 23, .mv (.t 7), none⟩,
  .one ⟨some 24, .mv (.t 9), none⟩,
  .one ⟨some 25, .mkslice 1 [.int .i64 0] [(0, 1, (.t 24))], none⟩,
  .one ⟨some 26, .app 1 8 (.t 23) (.t 25), none⟩,
  .one ⟨some 7, .mv (.t 26), none⟩]
def c77k4 : ICode := .kill (dead 31 [0, 7, 8, 9]) (.ops c77r4)
@[simp] theorem uc77k4 : Ex F cx (.code c77k4 :: k) ⟨mk 31 l, rows, low⟩ r ↔ bnd (evE rows low (.mkslice 1 [.int .i64 0] [(0, 1, (.c (lk l 9)))])) fun q0 => bnd (evE q0.2.1 q0.2.2 (.app 1 8 (.c (lk l 7)) (.c q0.1))) fun q1 => Ex F cx k ⟨mk 31 [(7, q1.1), (26, q1.1), (25, q0.1), (24, lk l 9), (23, lk l 7), (0, lk l 0), (7, lk l 7), (8, lk l 8), (9, lk l 9)], q1.2.1, q1.2.2⟩ r := reg (keep := [0, 7, 8, 9]) (ops := c77r4) rfl (by kernel_rfl) (by kernel_rfl)
def c77s5 : ICode := (.seq c77k4 c77k3)
@[simp] theorem uc77s5 : Ex F cx (.code c77s5 :: k) s r ↔ Ex F cx (.code (.seq c77k4 c77k3) :: k) s r := Iff.rfl
def c77r6 : List Seg := [
  .one ⟨some 17, .mv (.t 0), none⟩,
  .one ⟨some 18, .mv (.t 8), none⟩,
  .one ⟨some 19, .conv .u64 (.t 18), none⟩,
  .one ⟨some 20, .call (.c (.func 92 [])) [(.t 19)], none⟩,
  .one ⟨some 21, .mv (.t 8), none⟩,
  .one ⟨some 22, .call (.c (.func 70 [])) [(.t 17), (.t 20), (.t 21)], none⟩,
  .one ⟨some 9, .mv (.t 22), none⟩]
def c77k6 : ICode := .kill (dead 31 [0, 7, 8]) (.ops c77r6)
@[simp] theorem uc77k6 : Ex F cx (.code c77k6 :: k) ⟨mk 31 l, rows, low⟩ r ↔ bnd (evP rows (.conv .u64 (.c (lk l 8)))) fun v0 => bnd (Ret F 92 [v0] rows) fun q1 => bnd (Ret F 70 [lk l 0, q1.1, lk l 8] q1.2.1) fun q2 => Ex F cx k ⟨mk 31 [(9, q2.1), (22, q2.1), (21, lk l 8), (20, q1.1), (19, v0), (18, lk l 8), (17, lk l 0), (0, lk l 0), (7, lk l 7), (8, lk l 8)], q2.2.1, (lowO (lowO low q1.2.2) q2.2.2)⟩ r := reg (keep := [0, 7, 8]) (ops := c77r6) rfl (by kernel_rfl) (by kernel_rfl)
def c77s7 : ICode := (.block 1 (.seq c77k6 c77s5))
@[simp] theorem uc77s7 : Ex F cx (.code c77s7 :: k) s r ↔ Ex F cx (.code (.block 1 (.seq c77k6 c77s5)) :: k) s r := Iff.rfl
def c77s8 : ICode := (.cond (.t 16) .skip (.exit 0))
@[simp] theorem uc77s8 : Ex F cx (.code c77s8 :: k) s r ↔ Ex F cx (.code (.cond (.t 16) .skip (.exit 0)) :: k) s r := Iff.rfl
def c77r9 : List Seg := [
  .one ⟨some 15, .mv (.t 8), none⟩,
  .one ⟨some 16, .bin .neq (.t 15) (.c (.int .i64 0)), none⟩]
def c77k9 : ICode := .kill (dead 31 [0, 7, 8]) (.ops c77r9)
@[simp] theorem uc77k9 : Ex F cx (.code c77k9 :: k) ⟨mk 31 l, rows, low⟩ r ↔ bnd (evP rows (.bin .neq (.c (lk l 8)) (.c (.int .i64 0)))) fun v0 => Ex F cx k ⟨mk 31 [(16, v0), (15, lk l 8), (0, lk l 0), (7, lk l 7), (8, lk l 8)], rows, low⟩ r := reg (keep := [0, 7, 8]) (ops := c77r9) rfl (by kernel_rfl) (by kernel_rfl)
def c77l2 : ICode := (.seq (.seq c77k9 c77s8) c77s7)
def c77s10 : ICode := (.block 0 (.loop c77l2))
@[simp] theorem uc77s10 : Ex F cx (.code c77s10 :: k) s r ↔ Ex F cx (.code (.block 0 (.loop c77l2)) :: k) s r := Iff.rfl
def c77r11 : List Seg := [
  .one ⟨some 10, .mv (.t 1), none⟩,
  .one ⟨some 11, .mv (.t 2), none⟩,
  .one ⟨some 12, .conv .u64 (.t 11), none⟩,
  .one ⟨some 13, .bin .shl (.c (.int .i64 1)) (.t 12), none⟩,
  .one ⟨some 14, .bin .andNot (.t 10) (.t 13), none⟩,
  .one ⟨some 8, .mv (.t 14), none⟩]
def c77k11 : ICode := .kill (dead 31 [0, 1, 2, 7]) (.ops c77r11)
@[simp] theorem uc77k11 : Ex F cx (.code c77k11 :: k) ⟨mk 31 l, rows, low⟩ r ↔ bnd (evP rows (.conv .u64 (.c (lk l 2)))) fun v0 => bnd (evP rows (.bin .shl (.c (.int .i64 1)) (.c v0))) fun v1 => bnd (evP rows (.bin .andNot (.c (lk l 1)) (.c v1))) fun v2 => Ex F cx k ⟨mk 31 [(8, v2), (14, v2), (13, v1), (12, v0), (11, lk l 2), (10, lk l 1), (0, lk l 0), (1, lk l 1), (2, lk l 2), (7, lk l 7)], rows, low⟩ r := reg (keep := [0, 1, 2, 7]) (ops := c77r11) rfl (by kernel_rfl) (by kernel_rfl)
def c77s12 : ICode := (.seq (.seq c77k11 c77s10) c77s1)
@[simp] theorem uc77s12 : Ex F cx (.code c77s12 :: k) s r ↔ Ex F cx (.code (.seq (.seq c77k11 c77s10) c77s1) :: k) s r := Iff.rfl
def c77r13 : List Seg := [
  .one ⟨some 7, .mv (.c .nilslice), none⟩]
def c77k13 : ICode := .kill (dead 31 [0, 1, 2]) (.ops c77r13)
@[simp] theorem uc77k13 : Ex F cx (.code c77k13 :: k) ⟨mk 31 l, rows, low⟩ r ↔ Ex F cx k ⟨mk 31 [(7, .nilslice), (0, lk l 0), (1, lk l 1), (2, lk l 2)], rows, low⟩ r := reg (keep := [0, 1, 2]) (ops := c77r13) rfl (by kernel_rfl) (by kernel_rfl)
def c77s14 : ICode := (.seq c77k13 c77s12)
@[simp] theorem uc77s14 : Ex F cx (.code c77s14 :: k) s r ↔ Ex F cx (.code (.seq c77k13 c77s12) :: k) s r := Iff.rfl
def c77r15 : List Seg := [
  .one ⟨some 6, .mv (.c .nilslice), none⟩]
def c77k15 : ICode := .kill (dead 31 [0, 1, 2]) (.ops c77r15)
@[simp] theorem uc77k15 : Ex F cx (.code c77k15 :: k) ⟨mk 31 l, rows, low⟩ r ↔ Ex F cx k ⟨mk 31 [(6, .nilslice), (0, lk l 0), (1, lk l 1), (2, lk l 2)], rows, low⟩ r := reg (keep := [0, 1, 2]) (ops := c77r15) rfl (by kernel_rfl) (by kernel_rfl)
def Jc77s7 (F : Nat → Option IFn) (cx : Ctx) (x0 x7 x8 : AV) (rows : List Row) (low : Nat) (r : AV × List Row × Nat → Prop) : Prop := Ex F cx (.code c77s7 :: .inLoop c77l2 :: .inBlock 0 :: .code c77s1 :: []) ⟨mk 31 [(0, x0), (7, x7), (8, x8)], rows, low⟩ r
theorem jc77s7 : Ex F cx (.code c77s7 :: .inLoop c77l2 :: .inBlock 0 :: .code c77s1 :: []) ⟨mk 31 l, rows, low⟩ r ↔ Jc77s7 F cx (lk l 0) (lk l 7) (lk l 8) rows low r := Ex_canon (keep := [0, 7, 8]) (by kernel_rfl)
def Lc77l2 (F : Nat → Option IFn) (cx : Ctx) (x0 x7 x8 : AV) (rows : List Row) (low : Nat) (r : AV × List Row × Nat → Prop) : Prop := Ex F cx (.code c77l2 :: .inLoop c77l2 :: .inBlock 0 :: .code c77s1 :: []) ⟨mk 31 [(0, x0), (7, x7), (8, x8)], rows, low⟩ r
@[simp] theorem nc77l2 : Ex F cx (.inLoop c77l2 :: .inBlock 0 :: .code c77s1 :: []) ⟨mk 31 l, rows, low⟩ r ↔ Lc77l2 F cx (lk l 0) (lk l 7) (lk l 8) rows low r := loopN (keep := [0, 7, 8]) (by kernel_rfl)
@[simp] theorem ec77l2 : Ex F cx (.code (.loop c77l2) :: .inBlock 0 :: .code c77s1 :: []) ⟨mk 31 l, rows, low⟩ r ↔ Lc77l2 F cx (lk l 0) (lk l 7) (lk l 8) rows low r := loopE (keep := [0, 7, 8]) (by kernel_rfl)
@[simp] theorem uc77l2 : Ex F cx (.code c77l2 :: k) s r ↔ Ex F cx (.code (.seq (.seq c77k9 c77s8) c77s7) :: k) s r := Iff.rfl
def c77b : ICode := (.seq c77k15 c77s14)
@[simp] theorem uc77b : Ex F cx (.code c77b :: k) s r ↔ Ex F cx (.code (.seq c77k15 c77s14) :: k) s r := Iff.rfl
def c77 : IFn := ⟨31, [.t 6], c77b⟩
def h77 : List (Nat × List Nat) := [(0, dead 31 [0, 1, 2]), (1, dead 31 [0, 1, 2]), (2, dead 31 [0, 1, 2, 7]), (3, dead 31 [0, 7, 8]), (4, dead 31 [0, 7, 8]), (5, dead 31 [0, 7, 8, 9]), (6, dead 31 [0, 7, 8, 9]), (7, dead 31 [7])]
theorem i77 {x0 x1 x2 : AV} (hF : F 77 = some c77) {q : AV × List Row × Option Nat} (h : Ex F (.fn [.t 6]) [.code c77b] ⟨mk 31 [(0, x0), (1, x1), (2, x2)], rows, rows.length⟩ fun r => fin rows r.1 r.2.1 r.2.2 = q) : Ret F 77 [x0, x1, x2] rows = some q := Ret_mk hF h
/-! (*tosher/search.tree).all -/
def c78r0 : List Seg := [
  .one ⟨some 3, .mv (.t 0), none⟩,
  .one ⟨some 4, .nilck (.t 3), none⟩,
  .one ⟨some 5, .fieldA 0 (.t 4), none⟩,
  .one ⟨some 6, .load1 (.t 5), none⟩,
  .one ⟨some 7, .conv .u64 (.t 6), none⟩,
  .one ⟨some 8, .bin .shl (.c (.int .i64 1)) (.t 7), none⟩,
  .one ⟨some 9, .bin .sub (.t 8) (.c (.int .i64 1)), none⟩,
  .one ⟨some 2, .mv (.t 9), none⟩]
def c78k0 : ICode := .kill (dead 10 [0]) (.ops c78r0)
@[simp] theorem uc78k0 : Ex F cx (.code c78k0 :: k) ⟨mk 10 l, rows, low⟩ r ↔ bnd (evP rows (.nilck (.c (lk l 0)))) fun v0 => bnd (evP rows (.fieldA 0 (.c v0))) fun v1 => bnd (evP rows (.load1 (.c v1))) fun v2 => bnd (evP rows (.conv .u64 (.c v2))) fun v3 => bnd (evP rows (.bin .shl (.c (.int .i64 1)) (.c v3))) fun v4 => bnd (evP rows (.bin .sub (.c v4) (.c (.int .i64 1)))) fun v5 => Ex F cx k ⟨mk 10 [(2, v5), (9, v5), (8, v4), (7, v3), (6, v2), (5, v1), (4, v0), (3, lk l 0), (0, lk l 0)], rows, low⟩ r := reg (keep := [0]) (ops := c78r0) rfl (by kernel_rfl) (by kernel_rfl)
def c78s1 : ICode := (.seq c78k0 .ret)
@[simp] theorem uc78s1 : Ex F cx (.code c78s1 :: k) s r ↔ Ex F cx (.code (.seq c78k0 .ret) :: k) s r := Iff.rfl
def c78r2 : List Seg := [
  .one ⟨some 2, .mv (.c (.int .i64 0)), none⟩]
def c78k2 : ICode := .kill (dead 10 [0]) (.ops c78r2)
@[simp] theorem uc78k2 : Ex F cx (.code c78k2 :: k) ⟨mk 10 l, rows, low⟩ r ↔ Ex F cx k ⟨mk 10 [(2, (.int .i64 0)), (0, lk l 0)], rows, low⟩ r := reg (keep := [0]) (ops := c78r2) rfl (by kernel_rfl) (by kernel_rfl)
def c78b : ICode := (.seq c78k2 c78s1)
@[simp] theorem uc78b : Ex F cx (.code c78b :: k) s r ↔ Ex F cx (.code (.seq c78k2 c78s1) :: k) s r := Iff.rfl
def c78 : IFn := ⟨10, [.t 2], c78b⟩
def h78 : List (Nat × List Nat) := [(0, dead 10 [0]), (1, dead 10 [0])]
theorem i78 {x0 : AV} (hF : F 78 = some c78) {q : AV × List Row × Option Nat} (h : Ex F (.fn [.t 2]) [.code c78b] ⟨mk 10 [(0, x0)], rows, rows.length⟩ fun r => fin rows r.1 r.2.1 r.2.2 = q) : Ret F 78 [x0] rows = some q := Ret_mk hF h
/-! tosher/search.IsPlan$1 -/
def c79r0 : List Seg := [
  .one ⟨some 3, .box (.t 1), none⟩]
def c79k0 : ICode := .kill (dead 4 [1]) (.ops c79r0)
@[simp] theorem uc79k0 : Ex F cx (.code c79k0 :: k) ⟨mk 4 l, rows, low⟩ r ↔ bnd (evE rows low (.box (.c (lk l 1)))) fun q0 => Ex F cx k ⟨mk 4 [(3, q0.1), (1, lk l 1)], q0.2.1, q0.2.2⟩ r := reg (keep := [1]) (ops := c79r0) rfl (by kernel_rfl) (by kernel_rfl)
def c79b : ICode := c79k0
@[simp] theorem uc79b : Ex F cx (.code c79b :: k) s r ↔ Ex F cx (.code c79k0 :: k) s r := Iff.rfl
def c79 : IFn := ⟨4, [], c79b⟩
def h79 : List (Nat × List Nat) := [(0, dead 4 [1])]
theorem i79 {x0 x1 : AV} (hF : F 79 = some c79) {q : AV × List Row × Option Nat} (h : Ex F (.fn []) [.code c79b] ⟨mk 4 [(0, x0), (1, x1)], rows, rows.length⟩ fun r => fin rows r.1 r.2.1 r.2.2 = q) : Ret F 79 [x0, x1] rows = some q := Ret_mk hF h
/-! math/bits.OnesCount -/
def c80r0 : List Seg := [
  .one ⟨some 6, .mv (.t 0), none⟩,
  .one ⟨some 7, .call (.c (.func 95 [])) [(.t 6)], none⟩,
  .one ⟨some 2, .mv (.t 7), none⟩]
def c80k0 : ICode := .kill (dead 8 [0]) (.ops c80r0)
@[simp] theorem uc80k0 : Ex F cx (.code c80k0 :: k) ⟨mk 8 l, rows, low⟩ r ↔ bnd (Ret F 95 [lk l 0] rows) fun q0 => Ex F cx k ⟨mk 8 [(2, q0.1), (7, q0.1), (6, lk l 0), (0, lk l 0)], q0.2.1, (lowO low q0.2.2)⟩ r := reg (keep := [0]) (ops := c80r0) rfl (by kernel_rfl) (by kernel_rfl)
def c80s1 : ICode := (.seq c80k0 .ret)
@[simp] theorem uc80s1 : Ex F cx (.code c80s1 :: k) s r ↔ Ex F cx (.code (.seq c80k0 .ret) :: k) s r := Iff.rfl
def c80r2 : List Seg := [
  .one ⟨some 3, .mv (.t 0), none⟩,
  .one ⟨some 4, .conv .u32 (.t 3), none⟩,
  .one ⟨some 5, .call (.c (.func 94 [])) [(.t 4)], none⟩,
  .one ⟨some 2, .mv (.t 5), none⟩]
def c80k2 : ICode := .kill (dead 8 [0]) (.ops c80r2)
@[simp] theorem uc80k2 : Ex F cx (.code c80k2 :: k) ⟨mk 8 l, rows, low⟩ r ↔ bnd (evP rows (.conv .u32 (.c (lk l 0)))) fun v0 => bnd (Ret F 94 [v0] rows) fun q1 => Ex F cx k ⟨mk 8 [(2, q1.1), (5, q1.1), (4, v0), (3, lk l 0), (0, lk l 0)], q1.2.1, (lowO low q1.2.2)⟩ r := reg (keep := [0]) (ops := c80r2) rfl (by kernel_rfl) (by kernel_rfl)
def c80s3 : ICode := (.seq (.cond (.c (.bool false)) (.seq c80k2 .ret) .skip) c80s1)
@[simp] theorem uc80s3 : Ex F cx (.code c80s3 :: k) s r ↔ Ex F cx (.code (.seq (.cond (.c (.bool false)) (.seq c80k2 .ret) .skip) c80s1) :: k) s r := Iff.rfl
def c80r4 : List Seg := [
  .one ⟨some 2, .mv (.c (.int .i64 0)), none⟩]
def c80k4 : ICode := .kill (dead 8 [0]) (.ops c80r4)
@[simp] theorem uc80k4 : Ex F cx (.code c80k4 :: k) ⟨mk 8 l, rows, low⟩ r ↔ Ex F cx k ⟨mk 8 [(2, (.int .i64 0)), (0, lk l 0)], rows, low⟩ r := reg (keep := [0]) (ops := c80r4) rfl (by kernel_rfl) (by kernel_rfl)
def Jc80s1 (F : Nat → Option IFn) (cx : Ctx) (x0 : AV) (rows : List Row) (low : Nat) (r : AV × List Row × Nat → Prop) : Prop := Ex F cx (.code c80s1 :: []) ⟨mk 8 [(0, x0)], rows, low⟩ r
theorem jc80s1 : Ex F cx (.code c80s1 :: []) ⟨mk 8 l, rows, low⟩ r ↔ Jc80s1 F cx (lk l 0) rows low r := Ex_canon (keep := [0]) (by kernel_rfl)
def c80b : ICode := (.seq c80k4 c80s3)
@[simp] theorem uc80b : Ex F cx (.code c80b :: k) s r ↔ Ex F cx (.code (.seq c80k4 c80s3) :: k) s r := Iff.rfl
def c80 : IFn := ⟨8, [.t 2], c80b⟩
def h80 : List (Nat × List Nat) := [(0, dead 8 [0]), (1, dead 8 [0]), (2, dead 8 [0])]
theorem i80 {x0 : AV} (hF : F 80 = some c80) {q : AV × List Row × Option Nat} (h : Ex F (.fn [.t 2]) [.code c80b] ⟨mk 8 [(0, x0)], rows, rows.length⟩ fun r => fin rows r.1 r.2.1 r.2.2 = q) : Ret F 80 [x0] rows = some q := Ret_mk hF h
/-! slices.ContainsFunc[[]int,int] -/
def c81r0 : List Seg := [
  .one ⟨some 5, .mv (.t 0), none⟩,
  .one ⟨some 6, .mv (.t 1), none⟩,
  .one ⟨some 7, .call (.c (.func 96 [])) [(.t 5), (.t 6)], none⟩,
  .one ⟨some 8, .bin .geq (.t 7) (.c (.int .i64 0)), none⟩,
  .one ⟨some 4, .mv (.t 8), none⟩]
def c81k0 : ICode := .kill (dead 9 [0, 1]) (.ops c81r0)
@[simp] theorem uc81k0 : Ex F cx (.code c81k0 :: k) ⟨mk 9 l, rows, low⟩ r ↔ bnd (Ret F 96 [lk l 0, lk l 1] rows) fun q0 => bnd (evP q0.2.1 (.bin .geq (.c q0.1) (.c (.int .i64 0)))) fun v1 => Ex F cx k ⟨mk 9 [(4, v1), (8, v1), (7, q0.1), (6, lk l 1), (5, lk l 0), (0, lk l 0), (1, lk l 1)], q0.2.1, (lowO low q0.2.2)⟩ r := reg (keep := [0, 1]) (ops := c81r0) rfl (by kernel_rfl) (by kernel_rfl)
def c81s1 : ICode := (.seq c81k0 .ret)
@[simp] theorem uc81s1 : Ex F cx (.code c81s1 :: k) s r ↔ Ex F cx (.code (.seq c81k0 .ret) :: k) s r := Iff.rfl
def c81r2 : List Seg := [
  .one ⟨some 4, .mv (.c (.bool false)), none⟩]
def c81k2 : ICode := .kill (dead 9 [0, 1]) (.ops c81r2)
@[simp] theorem uc81k2 : Ex F cx (.code c81k2 :: k) ⟨mk 9 l, rows, low⟩ r ↔ Ex F cx k ⟨mk 9 [(4, (.bool false)), (0, lk l 0), (1, lk l 1)], rows, low⟩ r := reg (keep := [0, 1]) (ops := c81r2) rfl (by kernel_rfl) (by kernel_rfl)
def c81b : ICode := (.seq c81k2 c81s1)
@[simp] theorem uc81b : Ex F cx (.code c81b :: k) s r ↔ Ex F cx (.code (.seq c81k2 c81s1) :: k) s r := Iff.rfl
def c81 : IFn := ⟨9, [.t 4], c81b⟩
def h81 : List (Nat × List Nat) := [(0, dead 9 [0, 1]), (1, dead 9 [0, 1])]
theorem i81 {x0 x1 : AV} (hF : F 81 = some c81) {q : AV × List Row × Option Nat} (h : Ex F (.fn [.t 4]) [.code c81b] ⟨mk 9 [(0, x0), (1, x1)], rows, rows.length⟩ fun r => fin rows r.1 r.2.1 r.2.2 = q) : Ret F 81 [x0, x1] rows = some q := Ret_mk hF h
/-! tosher/search.are$1 -/
def c82r0 : List Seg := [
  .one ⟨some 5, .mv (.t 0), none⟩,
  .one ⟨some 6, .load1 (.t 1), none⟩,
  .one ⟨some 7, .bin .lss (.t 5) (.t 6), none⟩,
  .one ⟨some 8, .mv (.t 7), none⟩,
  .one ⟨some 9, .mv (.t 0), some (8, false)⟩,
  .one ⟨some 10, .load1 (.t 2), some (8, false)⟩,
  .one ⟨some 11, .bin .gtr (.t 9) (.t 10), some (8, false)⟩,
  .one ⟨some 12, .pick (.t 8) (.c (.bool true)) (.t 11), none⟩,
  .one ⟨some 4, .mv (.t 12), none⟩]
def c82k0 : ICode := .kill (dead 13 [0, 1, 2]) (.ops c82r0)
@[simp] theorem uc82k0 : Ex F cx (.code c82k0 :: k) ⟨mk 13 l, rows, low⟩ r ↔ bnd (evP rows (.load1 (.c (lk l 1)))) fun v0 => bnd (evP rows (.bin .lss (.c (lk l 0)) (.c v0))) fun v1 => bnd (gv v1 false (evP rows (.mv (.c (lk l 0))))) fun v2 => bnd (gv v1 false (evP rows (.load1 (.c (lk l 2))))) fun v3 => bnd (gv v1 false (evP rows (.bin .gtr (.c v2) (.c v3)))) fun v4 => bnd (evP rows (.pick (.c v1) (.c (.bool true)) (.c v4))) fun v5 => Ex F cx k ⟨mk 13 [(4, v5), (12, v5), (11, v4), (10, v3), (9, v2), (8, v1), (7, v1), (6, v0), (5, lk l 0), (0, lk l 0), (1, lk l 1), (2, lk l 2)], rows, low⟩ r := reg (keep := [0, 1, 2]) (ops := c82r0) rfl (by kernel_rfl) (by kernel_rfl)
def c82s1 : ICode := (.seq c82k0 .ret)
@[simp] theorem uc82s1 : Ex F cx (.code c82s1 :: k) s r ↔ Ex F cx (.code (.seq c82k0 .ret) :: k) s r := Iff.rfl
def c82r2 : List Seg := [
  .one ⟨some 4, .mv (.c (.bool false)), none⟩]
def c82k2 : ICode := .kill (dead 13 [0, 1, 2]) (.ops c82r2)
@[simp] theorem uc82k2 : Ex F cx (.code c82k2 :: k) ⟨mk 13 l, rows, low⟩ r ↔ Ex F cx k ⟨mk 13 [(4, (.bool false)), (0, lk l 0), (1, lk l 1), (2, lk l 2)], rows, low⟩ r := reg (keep := [0, 1, 2]) (ops := c82r2) rfl (by kernel_rfl) (by kernel_rfl)
def c82b : ICode := (.seq c82k2 c82s1)
@[simp] theorem uc82b : Ex F cx (.code c82b :: k) s r ↔ Ex F cx (.code (.seq c82k2 c82s1) :: k) s r := Iff.rfl
def c82 : IFn := ⟨13, [.t 4], c82b⟩
def h82 : List (Nat × List Nat) := [(0, dead 13 [0, 1, 2]), (1, dead 13 [0, 1, 2])]
theorem i82 {x0 x1 x2 : AV} (hF : F 82 = some c82) {q : AV × List Row × Option Nat} (h : Ex F (.fn [.t 4]) [.code c82b] ⟨mk 13 [(0, x0), (1, x1), (2, x2)], rows, rows.length⟩ fun r => fin rows r.1 r.2.1 r.2.2 = q) : Ret F 82 [x0, x1, x2] rows = some q := Ret_mk hF h
/-! (tosher/search.part).gates -/
def c83r0 : List Seg := [
  .one ⟨some 3, .mkfn 97 [(.t 1)], none⟩,
  .one ⟨some 2, .mv (.t 3), none⟩]
def c83k0 : ICode := .kill (dead 4 [1]) (.ops c83r0)
@[simp] theorem uc83k0 : Ex F cx (.code c83k0 :: k) ⟨mk 4 l, rows, low⟩ r ↔ bnd (evP rows (.mkfn 97 [(.c (lk l 1))])) fun v0 => Ex F cx k ⟨mk 4 [(2, v0), (3, v0), (1, lk l 1)], rows, low⟩ r := reg (keep := [1]) (ops := c83r0) rfl (by kernel_rfl) (by kernel_rfl)
def c83s1 : ICode := (.seq c83k0 .ret)
@[simp] theorem uc83s1 : Ex F cx (.code c83s1 :: k) s r ↔ Ex F cx (.code (.seq c83k0 .ret) :: k) s r := Iff.rfl
def c83r2 : List Seg := [
  .one ⟨some 1, .box (.t 0), none⟩,
  .one ⟨some 2, .mv (.c .nilfunc), none⟩]
def c83k2 : ICode := .kill (dead 4 [0]) (.ops c83r2)
@[simp] theorem uc83k2 : Ex F cx (.code c83k2 :: k) ⟨mk 4 l, rows, low⟩ r ↔ bnd (evE rows low (.box (.c (lk l 0)))) fun q0 => Ex F cx k ⟨mk 4 [(2, .nilfunc), (1, q0.1), (0, lk l 0)], q0.2.1, q0.2.2⟩ r := reg (keep := [0]) (ops := c83r2) rfl (by kernel_rfl) (by kernel_rfl)
def c83b : ICode := (.seq c83k2 c83s1)
@[simp] theorem uc83b : Ex F cx (.code c83b :: k) s r ↔ Ex F cx (.code (.seq c83k2 c83s1) :: k) s r := Iff.rfl
def c83 : IFn := ⟨4, [.t 2], c83b⟩
def h83 : List (Nat × List Nat) := [(0, dead 4 [0]), (1, dead 4 [1])]
theorem i83 {x0 : AV} (hF : F 83 = some c83) {q : AV × List Row × Option Nat} (h : Ex F (.fn [.t 2]) [.code c83b] ⟨mk 4 [(0, x0)], rows, rows.length⟩ fun r => fin rows r.1 r.2.1 r.2.2 = q) : Ret F 83 [x0] rows = some q := Ret_mk hF h
/-! (tosher/search.part).left -/
def c84r0 : List Seg := [
  .one ⟨some 5, .fieldA 0 (.t 2), none⟩,
  .one ⟨some 6, .load1 (.t 5), none⟩,
  .one ⟨some 7, .mv (.t 1), none⟩,
  .one ⟨some 8, .mkagg [.int .i64 0, .int .i64 0] [(0, 1, (.t 6)), (1, 1, (.t 7))], none⟩,
  .one ⟨none, .storeN 2 (.t 4) (.t 8), none⟩]
def c84k0 : ICode := .kill (dead 9 [1, 2, 4]) (.ops c84r0)
@[simp] theorem uc84k0 : Ex F cx (.code c84k0 :: k) ⟨mk 9 l, rows, low⟩ r ↔ bnd (evP rows (.fieldA 0 (.c (lk l 2)))) fun v0 => bnd (evP rows (.load1 (.c v0))) fun v1 => bnd (evP rows (.mkagg [.int .i64 0, .int .i64 0] [(0, 1, (.c v1)), (1, 1, (.c (lk l 1)))])) fun v2 => bnd (evE rows low (.storeN 2 (.c (lk l 4)) (.c v2))) fun q3 => Ex F cx k ⟨mk 9 [(8, v2), (7, lk l 1), (6, v1), (5, v0), (1, lk l 1), (2, lk l 2), (4, lk l 4)], q3.2.1, q3.2.2⟩ r := reg (keep := [1, 2, 4]) (ops := c84r0) rfl (by kernel_rfl) (by kernel_rfl)
def c84s1 : ICode := (.seq c84k0 .ret)
@[simp] theorem uc84s1 : Ex F cx (.code c84s1 :: k) s r ↔ Ex F cx (.code (.seq c84k0 .ret) :: k) s r := Iff.rfl
def c84r2 : List Seg := [
  .one ⟨some 2, .box (.t 0), none⟩,
  .one ⟨some 4, .box (.c (.agg [.int .i64 0, .int .i64 0])), none⟩]
def c84k2 : ICode := .kill (dead 9 [0, 1]) (.ops c84r2)
@[simp] theorem uc84k2 : Ex F cx (.code c84k2 :: k) ⟨mk 9 l, rows, low⟩ r ↔ bnd (evE rows low (.box (.c (lk l 0)))) fun q0 => bnd (evE q0.2.1 q0.2.2 (.box (.c (.agg [.int .i64 0, .int .i64 0])))) fun q1 => Ex F cx k ⟨mk 9 [(4, q1.1), (2, q0.1), (0, lk l 0), (1, lk l 1)], q1.2.1, q1.2.2⟩ r := reg (keep := [0, 1]) (ops := c84r2) rfl (by kernel_rfl) (by kernel_rfl)
def c84b : ICode := (.seq c84k2 c84s1)
@[simp] theorem uc84b : Ex F cx (.code c84b :: k) s r ↔ Ex F cx (.code (.seq c84k2 c84s1) :: k) s r := Iff.rfl
def c84 : IFn := ⟨9, [.cellN 4 2], c84b⟩
def h84 : List (Nat × List Nat) := [(0, dead 9 [0, 1]), (1, dead 9 [1, 2, 4])]
theorem i84 {x0 x1 : AV} (hF : F 84 = some c84) {q : AV × List Row × Option Nat} (h : Ex F (.fn [.cellN 4 2]) [.code c84b] ⟨mk 9 [(0, x0), (1, x1)], rows, rows.length⟩ fun r => fin rows r.1 r.2.1 r.2.2 = q) : Ret F 84 [x0, x1] rows = some q := Ret_mk hF h
/-! (tosher/search.part).right -/
def c85r0 : List Seg := [
  .one ⟨some 5, .mv (.t 1), none⟩,
  .one ⟨some 6, .bin .add (.t 5) (.c (.int .i64 1)), none⟩,
  .one ⟨some 7, .fieldA 1 (.t 2), none⟩,
  .one ⟨some 8, .load1 (.t 7), none⟩,
  .one ⟨some 9, .mkagg [.int .i64 0, .int .i64 0] [(0, 1, (.t 6)), (1, 1, (.t 8))], none⟩,
  .one ⟨none, .storeN 2 (.t 4) (.t 9), none⟩]
def c85k0 : ICode := .kill (dead 10 [1, 2, 4]) (.ops c85r0)
@[simp] theorem uc85k0 : Ex F cx (.code c85k0 :: k) ⟨mk 10 l, rows, low⟩ r ↔ bnd (evP rows (.bin .add (.c (lk l 1)) (.c (.int .i64 1)))) fun v0 => bnd (evP rows (.fieldA 1 (.c (lk l 2)))) fun v1 => bnd (evP rows (.load1 (.c v1))) fun v2 => bnd (evP rows (.mkagg [.int .i64 0, .int .i64 0] [(0, 1, (.c v0)), (1, 1, (.c v2))])) fun v3 => bnd (evE rows low (.storeN 2 (.c (lk l 4)) (.c v3))) fun q4 => Ex F cx k ⟨mk 10 [(9, v3), (8, v2), (7, v1), (6, v0), (5, lk l 1), (1, lk l 1), (2, lk l 2), (4, lk l 4)], q4.2.1, q4.2.2⟩ r := reg (keep := [1, 2, 4]) (ops := c85r0) rfl (by kernel_rfl) (by kernel_rfl)
def c85s1 : ICode := (.seq c85k0 .ret)
@[simp] theorem uc85s1 : Ex F cx (.code c85s1 :: k) s r ↔ Ex F cx (.code (.seq c85k0 .ret) :: k) s r := Iff.rfl
def c85r2 : List Seg := [
  .one ⟨some 2, .box (.t 0), none⟩,
  .one ⟨some 4, .box (.c (.agg [.int .i64 0, .int .i64 0])), none⟩]
def c85k2 : ICode := .kill (dead 10 [0, 1]) (.ops c85r2)
@[simp] theorem uc85k2 : Ex F cx (.code c85k2 :: k) ⟨mk 10 l, rows, low⟩ r ↔ bnd (evE rows low (.box (.c (lk l 0)))) fun q0 => bnd (evE q0.2.1 q0.2.2 (.box (.c (.agg [.int .i64 0, .int .i64 0])))) fun q1 => Ex F cx k ⟨mk 10 [(4, q1.1), (2, q0.1), (0, lk l 0), (1, lk l 1)], q1.2.1, q1.2.2⟩ r := reg (keep := [0, 1]) (ops := c85r2) rfl (by kernel_rfl) (by kernel_rfl)
def c85b : ICode := (.seq c85k2 c85s1)
@[simp] theorem uc85b : Ex F cx (.code c85b :: k) s r ↔ Ex F cx (.code (.seq c85k2 c85s1) :: k) s r := Iff.rfl
def c85 : IFn := ⟨10, [.cellN 4 2], c85b⟩
def h85 : List (Nat × List Nat) := [(0, dead 10 [0, 1]), (1, dead 10 [1, 2, 4])]
theorem i85 {x0 x1 : AV} (hF : F 85 = some c85) {q : AV × List Row × Option Nat} (h : Ex F (.fn [.cellN 4 2]) [.code c85b] ⟨mk 10 [(0, x0), (1, x1)], rows, rows.length⟩ fun r => fin rows r.1 r.2.1 r.2.2 = q) : Ret F 85 [x0, x1] rows = some q := Ret_mk hF h
/-! (tosher/search.part).one -/
def c86r0 : List Seg := [
  .one ⟨some 3, .loadN 2 (.t 1), none⟩,
  .one ⟨some 4, .fieldA 0 (.t 1), none⟩,
  .one ⟨some 5, .load1 (.t 4), none⟩,
  .one ⟨some 6, .fieldA 0 (.t 1), none⟩,
  .one ⟨some 7, .load1 (.t 6), none⟩,
  .one ⟨some 8, .mkagg [.int .i64 0, .int .i64 0] [(0, 1, (.t 5)), (1, 1, (.t 7))], none⟩,
  .one ⟨some 9, .eqv false (.ints 2) (.t 3) (.t 8), none⟩,
  .one ⟨some 2, .mv (.t 9), none⟩]
def c86k0 : ICode := .kill (dead 10 [1]) (.ops c86r0)
@[simp] theorem uc86k0 : Ex F cx (.code c86k0 :: k) ⟨mk 10 l, rows, low⟩ r ↔ bnd (evP rows (.loadN 2 (.c (lk l 1)))) fun v0 => bnd (evP rows (.fieldA 0 (.c (lk l 1)))) fun v1 => bnd (evP rows (.load1 (.c v1))) fun v2 => bnd (evP rows (.fieldA 0 (.c (lk l 1)))) fun v3 => bnd (evP rows (.load1 (.c v3))) fun v4 => bnd (evP rows (.mkagg [.int .i64 0, .int .i64 0] [(0, 1, (.c v2)), (1, 1, (.c v4))])) fun v5 => bnd (evP rows (.eqv false (.ints 2) (.c v0) (.c v5))) fun v6 => Ex F cx k ⟨mk 10 [(2, v6), (9, v6), (8, v5), (7, v4), (6, v3), (5, v2), (4, v1), (3, v0), (1, lk l 1)], rows, low⟩ r := reg (keep := [1]) (ops := c86r0) rfl (by kernel_rfl) (by kernel_rfl)
def c86s1 : ICode := (.seq c86k0 .ret)
@[simp] theorem uc86s1 : Ex F cx (.code c86s1 :: k) s r ↔ Ex F cx (.code (.seq c86k0 .ret) :: k) s r := Iff.rfl
def c86r2 : List Seg := [
  .one ⟨some 1, .box (.t 0), none⟩,
  .one ⟨some 2, .mv (.c (.bool false)), none⟩]
def c86k2 : ICode := .kill (dead 10 [0]) (.ops c86r2)
@[simp] theorem uc86k2 : Ex F cx (.code c86k2 :: k) ⟨mk 10 l, rows, low⟩ r ↔ bnd (evE rows low (.box (.c (lk l 0)))) fun q0 => Ex F cx k ⟨mk 10 [(2, (.bool false)), (1, q0.1), (0, lk l 0)], q0.2.1, q0.2.2⟩ r := reg (keep := [0]) (ops := c86r2) rfl (by kernel_rfl) (by kernel_rfl)
def c86b : ICode := (.seq c86k2 c86s1)
@[simp] theorem uc86b : Ex F cx (.code c86b :: k) s r ↔ Ex F cx (.code (.seq c86k2 c86s1) :: k) s r := Iff.rfl
def c86 : IFn := ⟨10, [.t 2], c86b⟩
def h86 : List (Nat × List Nat) := [(0, dead 10 [0]), (1, dead 10 [1])]
theorem i86 {x0 : AV} (hF : F 86 = some c86) {q : AV × List Row × Option Nat} (h : Ex F (.fn [.t 2]) [.code c86b] ⟨mk 10 [(0, x0)], rows, rows.length⟩ fun r => fin rows r.1 r.2.1 r.2.2 = q) : Ret F 86 [x0] rows = some q := Ret_mk hF h
/-! slices.Concat[[]int,int] -/
def c87r0 : List Seg := [
  .one ⟨some 35, .mv (.t 6), none⟩,
  .one ⟨some 2, .mv (.t 35), none⟩]
def c87k0 : ICode := .kill (dead 36 [6]) (.ops c87r0)
@[simp] theorem uc87k0 : Ex F cx (.code c87k0 :: k) ⟨mk 36 l, rows, low⟩ r ↔ Ex F cx k ⟨mk 36 [(2, lk l 6), (35, lk l 6), (6, lk l 6)], rows, low⟩ r := reg (keep := [6]) (ops := c87r0) rfl (by kernel_rfl) (by kernel_rfl)
def c87s1 : ICode := (.seq c87k0 .ret)
@[simp] theorem uc87s1 : Ex F cx (.code c87s1 :: k) s r ↔ Ex F cx (.code (.seq c87k0 .ret) :: k) s r := Iff.rfl
def c87r3 : List Seg := [
  .one ⟨some 34, .bin .add (.t 27) (.c (.int .i64 1)), none⟩,
  .one ⟨some 27, .mv (.t 34), none⟩]
def c87k3 : ICode := .kill (dead 36 [6, 25, 26, 27]) (.ops c87r3)
@[simp] theorem uc87k3 : Ex F cx (.code c87k3 :: k) ⟨mk 36 l, rows, low⟩ r ↔ bnd (evP rows (.bin .add (.c (lk l 27)) (.c (.int .i64 1)))) fun v0 => Ex F cx k ⟨mk 36 [(27, v0), (34, v0), (6, lk l 6), (25, lk l 25), (26, lk l 26), (27, lk l 27)], rows, low⟩ r := reg (keep := [6, 25, 26, 27]) (ops := c87r3) rfl (by kernel_rfl) (by kernel_rfl)
def c87r4 : List Seg := [
  .one ⟨some 31, .mv (.t 6), none⟩,
  .one ⟨some 32, .mv (.t 8), none⟩,
  .one ⟨some 33, .app 1 8 (.t 31) (.t 32), none⟩,
  .one ⟨some 6, .mv (.t 33), none⟩]
def c87k4 : ICode := .kill (dead 36 [6, 8, 25, 26, 27]) (.ops c87r4)
@[simp] theorem uc87k4 : Ex F cx (.code c87k4 :: k) ⟨mk 36 l, rows, low⟩ r ↔ bnd (evE rows low (.app 1 8 (.c (lk l 6)) (.c (lk l 8)))) fun q0 => Ex F cx k ⟨mk 36 [(6, q0.1), (33, q0.1), (32, lk l 8), (31, lk l 6), (6, lk l 6), (8, lk l 8), (25, lk l 25), (26, lk l 26), (27, lk l 27)], q0.2.1, q0.2.2⟩ r := reg (keep := [6, 8, 25, 26, 27]) (ops := c87r4) rfl (by kernel_rfl) (by kernel_rfl)
def c87r5 : List Seg := [
  .one ⟨some 29, .idxS 1 (.t 25) (.t 27), none⟩,
  .one ⟨some 30, .load1 (.t 29), none⟩,
  .one ⟨some 8, .mv (.t 30), none⟩]
def c87k5 : ICode := .kill (dead 36 [6, 25, 26, 27]) (.ops c87r5)
@[simp] theorem uc87k5 : Ex F cx (.code c87k5 :: k) ⟨mk 36 l, rows, low⟩ r ↔ bnd (evP rows (.idxS 1 (.c (lk l 25)) (.c (lk l 27)))) fun v0 => bnd (evP rows (.load1 (.c v0))) fun v1 => Ex F cx k ⟨mk 36 [(8, v1), (30, v1), (29, v0), (6, lk l 6), (25, lk l 25), (26, lk l 26), (27, lk l 27)], rows, low⟩ r := reg (keep := [6, 25, 26, 27]) (ops := c87r5) rfl (by kernel_rfl) (by kernel_rfl)
def c87s6 : ICode := (.seq (.block 3 (.seq c87k5 c87k4)) c87k3)
@[simp] theorem uc87s6 : Ex F cx (.code c87s6 :: k) s r ↔ Ex F cx (.code (.seq (.block 3 (.seq c87k5 c87k4)) c87k3) :: k) s r := Iff.rfl
def c87s7 : ICode := (.seq (.cond (.t 28) .skip (.exit 2)) c87s6)
@[simp] theorem uc87s7 : Ex F cx (.code c87s7 :: k) s r ↔ Ex F cx (.code (.seq (.cond (.t 28) .skip (.exit 2)) c87s6) :: k) s r := Iff.rfl
def c87r8 : List Seg := [
  .one ⟨some 28, .bin .lss (.t 27) (.t 26), none⟩]
def c87k8 : ICode := .kill (dead 36 [6, 25, 26, 27]) (.ops c87r8)
@[simp] theorem uc87k8 : Ex F cx (.code c87k8 :: k) ⟨mk 36 l, rows, low⟩ r ↔ bnd (evP rows (.bin .lss (.c (lk l 27)) (.c (lk l 26)))) fun v0 => Ex F cx k ⟨mk 36 [(28, v0), (6, lk l 6), (25, lk l 25), (26, lk l 26), (27, lk l 27)], rows, low⟩ r := reg (keep := [6, 25, 26, 27]) (ops := c87r8) rfl (by kernel_rfl) (by kernel_rfl)
def c87l2 : ICode := (.seq c87k8 c87s7)
def c87s9 : ICode := (.block 2 (.loop c87l2))
@[simp] theorem uc87s9 : Ex F cx (.code c87s9 :: k) s r ↔ Ex F cx (.code (.block 2 (.loop c87l2)) :: k) s r := Iff.rfl
def c87r10 : List Seg := [
  .one ⟨some 25, .mv (.t 0), none⟩,
  .one ⟨some 26, .len 0 (.t 25), none⟩,
  .one ⟨some 27, .mv (.c (.int .i64 0)), none⟩]
def c87k10 : ICode := .kill (dead 36 [0, 6]) (.ops c87r10)
@[simp] theorem uc87k10 : Ex F cx (.code c87k10 :: k) ⟨mk 36 l, rows, low⟩ r ↔ bnd (evP rows (.len 0 (.c (lk l 0)))) fun v0 => Ex F cx k ⟨mk 36 [(27, (.int .i64 0)), (26, v0), (25, lk l 0), (0, lk l 0), (6, lk l 6)], rows, low⟩ r := reg (keep := [0, 6]) (ops := c87r10) rfl (by kernel_rfl) (by kernel_rfl)
def c87s11 : ICode := (.seq (.seq c87k10 c87s9) c87s1)
@[simp] theorem uc87s11 : Ex F cx (.code c87s11 :: k) s r ↔ Ex F cx (.code (.seq (.seq c87k10 c87s9) c87s1) :: k) s r := Iff.rfl
def c87r12 : List Seg := [
  .one ⟨some 23, .mv (.t 3), none⟩,
  .one ⟨some 24, .call (.c (.func 98 [])) [(.c .nilslice), (.t 23)], none⟩,
  .one ⟨some 6, .mv (.t 24), none⟩]
def c87k12 : ICode := .kill (dead 36 [0, 3]) (.ops c87r12)
@[simp] theorem uc87k12 : Ex F cx (.code c87k12 :: k) ⟨mk 36 l, rows, low⟩ r ↔ bnd (Ret F 98 [.nilslice, lk l 3] rows) fun q0 => Ex F cx k ⟨mk 36 [(6, q0.1), (24, q0.1), (23, lk l 3), (0, lk l 0), (3, lk l 3)], q0.2.1, (lowO low q0.2.2)⟩ r := reg (keep := [0, 3]) (ops := c87r12) rfl (by kernel_rfl) (by kernel_rfl)
def c87s13 : ICode := (.seq c87k12 c87s11)
@[simp] theorem uc87s13 : Ex F cx (.code c87s13 :: k) s r ↔ Ex F cx (.code (.seq c87k12 c87s11) :: k) s r := Iff.rfl
def c87r15 : List Seg := [
  .one ⟨some 22, .bin .add (.t 11) (.c (.int .i64 1)), none⟩,
  .one ⟨some 11, .mv (.t 22), none⟩]
def c87k15 : ICode := .kill (dead 36 [0, 3, 9, 10, 11]) (.ops c87r15)
@[simp] theorem uc87k15 : Ex F cx (.code c87k15 :: k) ⟨mk 36 l, rows, low⟩ r ↔ bnd (evP rows (.bin .add (.c (lk l 11)) (.c (.int .i64 1)))) fun v0 => Ex F cx k ⟨mk 36 [(11, v0), (22, v0), (0, lk l 0), (3, lk l 3), (9, lk l 9), (10, lk l 10), (11, lk l 11)], rows, low⟩ r := reg (keep := [0, 3, 9, 10, 11]) (ops := c87r15) rfl (by kernel_rfl) (by kernel_rfl)
def c87r16 : List Seg := [
  .one ⟨some 21, .mkif 9 (.c (.str ⟨#[108, 101, 110, 32, 111, 117, 116, 32, 111, 102, 32, 114, 97, 110, 103, 101]⟩)), none⟩,
  .one ⟨none, .bad, none⟩]
def c87k16 : ICode := .kill (dead 36 [0, 3, 9, 10, 11]) (.ops c87r16)
@[simp] theorem uc87k16 : Ex F cx (.code c87k16 :: k) ⟨mk 36 l, rows, low⟩ r ↔ bnd (evP rows (.mkif 9 (.c (.str ⟨#[108, 101, 110, 32, 111, 117, 116, 32, 111, 102, 32, 114, 97, 110, 103, 101]⟩)))) fun v0 => bnd (evE rows low (.bad)) fun q1 => Ex F cx k ⟨mk 36 [(21, v0), (0, lk l 0), (3, lk l 3), (9, lk l 9), (10, lk l 10), (11, lk l 11)], q1.2.1, q1.2.2⟩ r := reg (keep := [0, 3, 9, 10, 11]) (ops := c87r16) rfl (by kernel_rfl) (by kernel_rfl)
def c87s17 : ICode := (.cond (.t 20) c87k16 .skip)
@[simp] theorem uc87s17 : Ex F cx (.code c87s17 :: k) s r ↔ Ex F cx (.code (.cond (.t 20) c87k16 .skip) :: k) s r := Iff.rfl
def c87r18 : List Seg := [
  .one ⟨some 19, .mv (.t 3), none⟩,
  .one ⟨some 20, .bin .lss (.t 19) (.c (.int .i64 0)), none⟩]
def c87k18 : ICode := .kill (dead 36 [0, 3, 9, 10, 11]) (.ops c87r18)
@[simp] theorem uc87k18 : Ex F cx (.code c87k18 :: k) ⟨mk 36 l, rows, low⟩ r ↔ bnd (evP rows (.bin .lss (.c (lk l 3)) (.c (.int .i64 0)))) fun v0 => Ex F cx k ⟨mk 36 [(20, v0), (19, lk l 3), (0, lk l 0), (3, lk l 3), (9, lk l 9), (10, lk l 10), (11, lk l 11)], rows, low⟩ r := reg (keep := [0, 3, 9, 10, 11]) (ops := c87r18) rfl (by kernel_rfl) (by kernel_rfl)
def c87s19 : ICode := (.seq c87k18 c87s17)
@[simp] theorem uc87s19 : Ex F cx (.code c87s19 :: k) s r ↔ Ex F cx (.code (.seq c87k18 c87s17) :: k) s r := Iff.rfl
def c87r20 : List Seg := [
  .one ⟨some 15, .mv (.t 3), none⟩,
  .one ⟨some 16, .mv (.t 5), none⟩,
  .one ⟨some 17, .len 0 (.t 16), none⟩,
  .one ⟨some 18, .bin .add (.t 15) (.t 17), none⟩,
  .one ⟨some 3, .mv (.t 18), none⟩]
def c87k20 : ICode := .kill (dead 36 [0, 3, 5, 9, 10, 11]) (.ops c87r20)
@[simp] theorem uc87k20 : Ex F cx (.code c87k20 :: k) ⟨mk 36 l, rows, low⟩ r ↔ bnd (evP rows (.len 0 (.c (lk l 5)))) fun v0 => bnd (evP rows (.bin .add (.c (lk l 3)) (.c v0))) fun v1 => Ex F cx k ⟨mk 36 [(3, v1), (18, v1), (17, v0), (16, lk l 5), (15, lk l 3), (0, lk l 0), (3, lk l 3), (5, lk l 5), (9, lk l 9), (10, lk l 10), (11, lk l 11)], rows, low⟩ r := reg (keep := [0, 3, 5, 9, 10, 11]) (ops := c87r20) rfl (by kernel_rfl) (by kernel_rfl)
def c87s21 : ICode := (.seq c87k20 c87s19)
@[simp] theorem uc87s21 : Ex F cx (.code c87s21 :: k) s r ↔ Ex F cx (.code (.seq c87k20 c87s19) :: k) s r := Iff.rfl
def c87r22 : List Seg := [
  .one ⟨some 13, .idxS 1 (.t 9) (.t 11), none⟩,
  .one ⟨some 14, .load1 (.t 13), none⟩,
  .one ⟨some 5, .mv (.t 14), none⟩]
def c87k22 : ICode := .kill (dead 36 [0, 3, 9, 10, 11]) (.ops c87r22)
@[simp] theorem uc87k22 : Ex F cx (.code c87k22 :: k) ⟨mk 36 l, rows, low⟩ r ↔ bnd (evP rows (.idxS 1 (.c (lk l 9)) (.c (lk l 11)))) fun v0 => bnd (evP rows (.load1 (.c v0))) fun v1 => Ex F cx k ⟨mk 36 [(5, v1), (14, v1), (13, v0), (0, lk l 0), (3, lk l 3), (9, lk l 9), (10, lk l 10), (11, lk l 11)], rows, low⟩ r := reg (keep := [0, 3, 9, 10, 11]) (ops := c87r22) rfl (by kernel_rfl) (by kernel_rfl)
def c87s23 : ICode := (.seq (.block 1 (.seq c87k22 c87s21)) c87k15)
@[simp] theorem uc87s23 : Ex F cx (.code c87s23 :: k) s r ↔ Ex F cx (.code (.seq (.block 1 (.seq c87k22 c87s21)) c87k15) :: k) s r := Iff.rfl
def c87s24 : ICode := (.seq (.cond (.t 12) .skip (.exit 0)) c87s23)
@[simp] theorem uc87s24 : Ex F cx (.code c87s24 :: k) s r ↔ Ex F cx (.code (.seq (.cond (.t 12) .skip (.exit 0)) c87s23) :: k) s r := Iff.rfl
def c87r25 : List Seg := [
  .one ⟨some 12, .bin .lss (.t 11) (.t 10), none⟩]
def c87k25 : ICode := .kill (dead 36 [0, 3, 9, 10, 11]) (.ops c87r25)
@[simp] theorem uc87k25 : Ex F cx (.code c87k25 :: k) ⟨mk 36 l, rows, low⟩ r ↔ bnd (evP rows (.bin .lss (.c (lk l 11)) (.c (lk l 10)))) fun v0 => Ex F cx k ⟨mk 36 [(12, v0), (0, lk l 0), (3, lk l 3), (9, lk l 9), (10, lk l 10), (11, lk l 11)], rows, low⟩ r := reg (keep := [0, 3, 9, 10, 11]) (ops := c87r25) rfl (by kernel_rfl) (by kernel_rfl)
def c87l14 : ICode := (.seq c87k25 c87s24)
def c87s26 : ICode := (.block 0 (.loop c87l14))
@[simp] theorem uc87s26 : Ex F cx (.code c87s26 :: k) s r ↔ Ex F cx (.code (.block 0 (.loop c87l14)) :: k) s r := Iff.rfl
def c87r27 : List Seg := [
  .one ⟨some 9, .mv (.t 0), none⟩,
  .one ⟨some 10, .len 0 (.t 9), none⟩,
  .one ⟨some 11, .mv (.c (.int .i64 0)), none⟩]
def c87k27 : ICode := .kill (dead 36 [0, 3]) (.ops c87r27)
@[simp] theorem uc87k27 : Ex F cx (.code c87k27 :: k) ⟨mk 36 l, rows, low⟩ r ↔ bnd (evP rows (.len 0 (.c (lk l 0)))) fun v0 => Ex F cx k ⟨mk 36 [(11, (.int .i64 0)), (10, v0), (9, lk l 0), (0, lk l 0), (3, lk l 3)], rows, low⟩ r := reg (keep := [0, 3]) (ops := c87r27) rfl (by kernel_rfl) (by kernel_rfl)
def c87s28 : ICode := (.seq (.seq c87k27 c87s26) c87s13)
@[simp] theorem uc87s28 : Ex F cx (.code c87s28 :: k) s r ↔ Ex F cx (.code (.seq (.seq c87k27 c87s26) c87s13) :: k) s r := Iff.rfl
def c87r29 : List Seg := [
  .one ⟨some 3, .mv (.c (.int .i64 0)), none⟩]
def c87k29 : ICode := .kill (dead 36 [0]) (.ops c87r29)
@[simp] theorem uc87k29 : Ex F cx (.code c87k29 :: k) ⟨mk 36 l, rows, low⟩ r ↔ Ex F cx k ⟨mk 36 [(3, (.int .i64 0)), (0, lk l 0)], rows, low⟩ r := reg (keep := [0]) (ops := c87r29) rfl (by kernel_rfl) (by kernel_rfl)
def c87s30 : ICode := (.seq c87k29 c87s28)
@[simp] theorem uc87s30 : Ex F cx (.code c87s30 :: k) s r ↔ Ex F cx (.code (.seq c87k29 c87s28) :: k) s r := Iff.rfl
def c87r31 : List Seg := [
  .one ⟨some 2, .mv (.c .nilslice), none⟩]
def c87k31 : ICode := .kill (dead 36 [0]) (.ops c87r31)
@[simp] theorem uc87k31 : Ex F cx (.code c87k31 :: k) ⟨mk 36 l, rows, low⟩ r ↔ Ex F cx k ⟨mk 36 [(2, .nilslice), (0, lk l 0)], rows, low⟩ r := reg (keep := [0]) (ops := c87r31) rfl (by kernel_rfl) (by kernel_rfl)
def Jc87s6 (F : Nat → Option IFn) (cx : Ctx) (x6 x25 x26 x27 : AV) (rows : List Row) (low : Nat) (r : AV × List Row × Nat → Prop) : Prop := Ex F cx (.code c87s6 :: .inLoop c87l2 :: .inBlock 2 :: .code c87s1 :: []) ⟨mk 36 [(6, x6), (25, x25), (26, x26), (27, x27)], rows, low⟩ r
theorem jc87s6 : Ex F cx (.code c87s6 :: .inLoop c87l2 :: .inBlock 2 :: .code c87s1 :: []) ⟨mk 36 l, rows, low⟩ r ↔ Jc87s6 F cx (lk l 6) (lk l 25) (lk l 26) (lk l 27) rows low r := Ex_canon (keep := [6, 25, 26, 27]) (by kernel_rfl)
def Lc87l2 (F : Nat → Option IFn) (cx : Ctx) (x6 x25 x26 x27 : AV) (rows : List Row) (low : Nat) (r : AV × List Row × Nat → Prop) : Prop := Ex F cx (.code c87l2 :: .inLoop c87l2 :: .inBlock 2 :: .code c87s1 :: []) ⟨mk 36 [(6, x6), (25, x25), (26, x26), (27, x27)], rows, low⟩ r
@[simp] theorem nc87l2 : Ex F cx (.inLoop c87l2 :: .inBlock 2 :: .code c87s1 :: []) ⟨mk 36 l, rows, low⟩ r ↔ Lc87l2 F cx (lk l 6) (lk l 25) (lk l 26) (lk l 27) rows low r := loopN (keep := [6, 25, 26, 27]) (by kernel_rfl)
@[simp] theorem ec87l2 : Ex F cx (.code (.loop c87l2) :: .inBlock 2 :: .code c87s1 :: []) ⟨mk 36 l, rows, low⟩ r ↔ Lc87l2 F cx (lk l 6) (lk l 25) (lk l 26) (lk l 27) rows low r := loopE (keep := [6, 25, 26, 27]) (by kernel_rfl)
@[simp] theorem uc87l2 : Ex F cx (.code c87l2 :: k) s r ↔ Ex F cx (.code (.seq c87k8 c87s7) :: k) s r := Iff.rfl
def Jc87s23 (F : Nat → Option IFn) (cx : Ctx) (x0 x3 x9 x10 x11 : AV) (rows : List Row) (low : Nat) (r : AV × List Row × Nat → Prop) : Prop := Ex F cx (.code c87s23 :: .inLoop c87l14 :: .inBlock 0 :: .code c87s13 :: []) ⟨mk 36 [(0, x0), (3, x3), (9, x9), (10, x10), (11, x11)], rows, low⟩ r
theorem jc87s23 : Ex F cx (.code c87s23 :: .inLoop c87l14 :: .inBlock 0 :: .code c87s13 :: []) ⟨mk 36 l, rows, low⟩ r ↔ Jc87s23 F cx (lk l 0) (lk l 3) (lk l 9) (lk l 10) (lk l 11) rows low r := Ex_canon (keep := [0, 3, 9, 10, 11]) (by kernel_rfl)
def Lc87l14 (F : Nat → Option IFn) (cx : Ctx) (x0 x3 x9 x10 x11 : AV) (rows : List Row) (low : Nat) (r : AV × List Row × Nat → Prop) : Prop := Ex F cx (.code c87l14 :: .inLoop c87l14 :: .inBlock 0 :: .code c87s13 :: []) ⟨mk 36 [(0, x0), (3, x3), (9, x9), (10, x10), (11, x11)], rows, low⟩ r
@[simp] theorem nc87l14 : Ex F cx (.inLoop c87l14 :: .inBlock 0 :: .code c87s13 :: []) ⟨mk 36 l, rows, low⟩ r ↔ Lc87l14 F cx (lk l 0) (lk l 3) (lk l 9) (lk l 10) (lk l 11) rows low r := loopN (keep := [0, 3, 9, 10, 11]) (by kernel_rfl)
@[simp] theorem ec87l14 : Ex F cx (.code (.loop c87l14) :: .inBlock 0 :: .code c87s13 :: []) ⟨mk 36 l, rows, low⟩ r ↔ Lc87l14 F cx (lk l 0) (lk l 3) (lk l 9) (lk l 10) (lk l 11) rows low r := loopE (keep := [0, 3, 9, 10, 11]) (by kernel_rfl)
@[simp] theorem uc87l14 : Ex F cx (.code c87l14 :: k) s r ↔ Ex F cx (.code (.seq c87k25 c87s24) :: k) s r := Iff.rfl
def c87b : ICode := (.seq c87k31 c87s30)
@[simp] theorem uc87b : Ex F cx (.code c87b :: k) s r ↔ Ex F cx (.code (.seq c87k31 c87s30) :: k) s r := Iff.rfl
def c87 : IFn := ⟨36, [.t 2], c87b⟩
def h87 : List (Nat × List Nat) := [(0, dead 36 [0]), (1, dead 36 [0]), (2, dead 36 [0, 3]), (3, dead 36 [0, 3, 9, 10, 11]), (4, dead 36 [0, 3, 9, 10, 11]), (5, dead 36 [0, 3, 5, 9, 10, 11]), (6, dead 36 [0, 3, 9, 10, 11]), (7, dead 36 [0, 3, 9, 10, 11]), (8, dead 36 [0, 3, 9, 10, 11]), (9, dead 36 [0, 3]), (10, dead 36 [0, 6]), (11, dead 36 [6, 25, 26, 27]), (12, dead 36 [6, 25, 26, 27]), (13, dead 36 [6, 8, 25, 26, 27]), (14, dead 36 [6, 25, 26, 27]), (15, dead 36 [6])]
theorem i87 {x0 : AV} (hF : F 87 = some c87) {q : AV × List Row × Option Nat} (h : Ex F (.fn [.t 2]) [.code c87b] ⟨mk 36 [(0, x0)], rows, rows.length⟩ fun r => fin rows r.1 r.2.1 r.2.2 = q) : Ret F 87 [x0] rows = some q := Ret_mk hF h
/-! tosher/search.prices$1 -/
def c88r1 : List Seg := [
  .one ⟨some 13, .mv (.t 6), none⟩,
  .one ⟨some 14, .bin .add (.t 13) (.c (.int .i64 1)), none⟩,
  .one ⟨some 6, .mv (.t 14), none⟩]
def c88k1 : ICode := .kill (dead 25 [0, 2, 3, 5, 6]) (.ops c88r1)
@[simp] theorem uc88k1 : Ex F cx (.code c88k1 :: k) ⟨mk 25 l, rows, low⟩ r ↔ bnd (evP rows (.bin .add (.c (lk l 6)) (.c (.int .i64 1)))) fun v0 => Ex F cx k ⟨mk 25 [(6, v0), (14, v0), (13, lk l 6), (0, lk l 0), (2, lk l 2), (3, lk l 3), (5, lk l 5), (6, lk l 6)], rows, low⟩ r := reg (keep := [0, 2, 3, 5, 6]) (ops := c88r1) rfl (by kernel_rfl) (by kernel_rfl)
def c88r2 : List Seg := [
  .grp [(⟨some 15, .load1 (.t 2), none⟩, 0), (⟨some 16, .mv (.t 6), none⟩, 0), (⟨some 17, .idxS 1 (.t 15) (.t 16), none⟩, 3), (⟨some 18, .load1 (.t 17), none⟩, 7), (⟨some 19, .load1 (.t 3), none⟩, 0), (⟨some 20, .mv (.t 0), none⟩, 0), (⟨some 21, .idxS 1 (.t 19) (.t 20), none⟩, 48), (⟨some 22, .load1 (.t 21), none⟩, 112)],
  .one ⟨some 23, .bin .add (.t 18) (.t 22), none⟩,
  .one ⟨some 24, .idxS 1 (.t 15) (.t 16), none⟩,
  .one ⟨none, .store1 (.t 24) (.t 23), none⟩]
def c88k2 : ICode := .kill (dead 25 [0, 2, 3, 5, 6]) (.ops c88r2)
@[simp] theorem uc88k2 : Ex F cx (.code c88k2 :: k) ⟨mk 25 l, rows, low⟩ r ↔ bnd (evP rows (.load1 (.c (lk l 2)))) fun v0 => bnd (evP rows (.idxS 1 (.c v0) (.c (lk l 6)))) fun v1 => bnd (evP rows (.load1 (.c v1))) fun v2 => bnd (evP rows (.load1 (.c (lk l 3)))) fun v3 => bnd (evP rows (.idxS 1 (.c v3) (.c (lk l 0)))) fun v4 => bnd (evP rows (.load1 (.c v4))) fun v5 => bnd (evP rows (.bin .add (.c v2) (.c v5))) fun v6 => bnd (evP rows (.idxS 1 (.c v0) (.c (lk l 6)))) fun v7 => bnd (evE rows low (.store1 (.c v7) (.c v6))) fun q8 => Ex F cx k ⟨mk 25 [(24, v7), (23, v6), (22, v5), (21, v4), (20, lk l 0), (19, v3), (18, v2), (17, v1), (16, lk l 6), (15, v0), (0, lk l 0), (2, lk l 2), (3, lk l 3), (5, lk l 5), (6, lk l 6)], q8.2.1, q8.2.2⟩ r := reg (keep := [0, 2, 3, 5, 6]) (ops := c88r2) rfl (by kernel_rfl) (by kernel_rfl)
def c88s3 : ICode := (.seq (.block 1 c88k2) c88k1)
@[simp] theorem uc88s3 : Ex F cx (.code c88s3 :: k) s r ↔ Ex F cx (.code (.seq (.block 1 c88k2) c88k1) :: k) s r := Iff.rfl
def c88s4 : ICode := (.cond (.t 12) .skip (.exit 0))
@[simp] theorem uc88s4 : Ex F cx (.code c88s4 :: k) s r ↔ Ex F cx (.code (.cond (.t 12) .skip (.exit 0)) :: k) s r := Iff.rfl
def c88r5 : List Seg := [
  .one ⟨some 9, .mv (.t 6), none⟩,
  .one ⟨some 10, .fieldA 1 (.t 5), none⟩,
  .one ⟨some 11, .load1 (.t 10), none⟩,
  .one ⟨some 12, .bin .leq (.t 9) (.t 11), none⟩]
def c88k5 : ICode := .kill (dead 25 [0, 2, 3, 5, 6]) (.ops c88r5)
@[simp] theorem uc88k5 : Ex F cx (.code c88k5 :: k) ⟨mk 25 l, rows, low⟩ r ↔ bnd (evP rows (.fieldA 1 (.c (lk l 5)))) fun v0 => bnd (evP rows (.load1 (.c v0))) fun v1 => bnd (evP rows (.bin .leq (.c (lk l 6)) (.c v1))) fun v2 => Ex F cx k ⟨mk 25 [(12, v2), (11, v1), (10, v0), (9, lk l 6), (0, lk l 0), (2, lk l 2), (3, lk l 3), (5, lk l 5), (6, lk l 6)], rows, low⟩ r := reg (keep := [0, 2, 3, 5, 6]) (ops := c88r5) rfl (by kernel_rfl) (by kernel_rfl)
def c88l0 : ICode := (.seq (.seq c88k5 c88s4) c88s3)
def c88s6 : ICode := (.block 0 (.loop c88l0))
@[simp] theorem uc88s6 : Ex F cx (.code c88s6 :: k) s r ↔ Ex F cx (.code (.block 0 (.loop c88l0)) :: k) s r := Iff.rfl
def c88r7 : List Seg := [
  .one ⟨some 7, .fieldA 0 (.t 5), none⟩,
  .one ⟨some 8, .load1 (.t 7), none⟩,
  .one ⟨some 6, .mv (.t 8), none⟩]
def c88k7 : ICode := .kill (dead 25 [0, 2, 3, 5]) (.ops c88r7)
@[simp] theorem uc88k7 : Ex F cx (.code c88k7 :: k) ⟨mk 25 l, rows, low⟩ r ↔ bnd (evP rows (.fieldA 0 (.c (lk l 5)))) fun v0 => bnd (evP rows (.load1 (.c v0))) fun v1 => Ex F cx k ⟨mk 25 [(6, v1), (8, v1), (7, v0), (0, lk l 0), (2, lk l 2), (3, lk l 3), (5, lk l 5)], rows, low⟩ r := reg (keep := [0, 2, 3, 5]) (ops := c88r7) rfl (by kernel_rfl) (by kernel_rfl)
def c88s8 : ICode := (.seq c88k7 c88s6)
@[simp] theorem uc88s8 : Ex F cx (.code c88s8 :: k) s r ↔ Ex F cx (.code (.seq c88k7 c88s6) :: k) s r := Iff.rfl
def c88r9 : List Seg := [
  .one ⟨some 5, .box (.t 1), none⟩]
def c88k9 : ICode := .kill (dead 25 [0, 1, 2, 3]) (.ops c88r9)
@[simp] theorem uc88k9 : Ex F cx (.code c88k9 :: k) ⟨mk 25 l, rows, low⟩ r ↔ bnd (evE rows low (.box (.c (lk l 1)))) fun q0 => Ex F cx k ⟨mk 25 [(5, q0.1), (0, lk l 0), (1, lk l 1), (2, lk l 2), (3, lk l 3)], q0.2.1, q0.2.2⟩ r := reg (keep := [0, 1, 2, 3]) (ops := c88r9) rfl (by kernel_rfl) (by kernel_rfl)
def Jc88s3 (F : Nat → Option IFn) (cx : Ctx) (x0 x2 x3 x5 x6 : AV) (rows : List Row) (low : Nat) (r : AV × List Row × Nat → Prop) : Prop := Ex F cx (.code c88s3 :: .inLoop c88l0 :: .inBlock 0 :: []) ⟨mk 25 [(0, x0), (2, x2), (3, x3), (5, x5), (6, x6)], rows, low⟩ r
theorem jc88s3 : Ex F cx (.code c88s3 :: .inLoop c88l0 :: .inBlock 0 :: []) ⟨mk 25 l, rows, low⟩ r ↔ Jc88s3 F cx (lk l 0) (lk l 2) (lk l 3) (lk l 5) (lk l 6) rows low r := Ex_canon (keep := [0, 2, 3, 5, 6]) (by kernel_rfl)
def Lc88l0 (F : Nat → Option IFn) (cx : Ctx) (x0 x2 x3 x5 x6 : AV) (rows : List Row) (low : Nat) (r : AV × List Row × Nat → Prop) : Prop := Ex F cx (.code c88l0 :: .inLoop c88l0 :: .inBlock 0 :: []) ⟨mk 25 [(0, x0), (2, x2), (3, x3), (5, x5), (6, x6)], rows, low⟩ r
@[simp] theorem nc88l0 : Ex F cx (.inLoop c88l0 :: .inBlock 0 :: []) ⟨mk 25 l, rows, low⟩ r ↔ Lc88l0 F cx (lk l 0) (lk l 2) (lk l 3) (lk l 5) (lk l 6) rows low r := loopN (keep := [0, 2, 3, 5, 6]) (by kernel_rfl)
@[simp] theorem ec88l0 : Ex F cx (.code (.loop c88l0) :: .inBlock 0 :: []) ⟨mk 25 l, rows, low⟩ r ↔ Lc88l0 F cx (lk l 0) (lk l 2) (lk l 3) (lk l 5) (lk l 6) rows low r := loopE (keep := [0, 2, 3, 5, 6]) (by kernel_rfl)
@[simp] theorem uc88l0 : Ex F cx (.code c88l0 :: k) s r ↔ Ex F cx (.code (.seq (.seq c88k5 c88s4) c88s3) :: k) s r := Iff.rfl
def c88b : ICode := (.seq c88k9 c88s8)
@[simp] theorem uc88b : Ex F cx (.code c88b :: k) s r ↔ Ex F cx (.code (.seq c88k9 c88s8) :: k) s r := Iff.rfl
def c88 : IFn := ⟨25, [], c88b⟩
def h88 : List (Nat × List Nat) := [(0, dead 25 [0, 1, 2, 3]), (1, dead 25 [0, 2, 3, 5]), (2, dead 25 [0, 2, 3, 5, 6]), (4, dead 25 [0, 2, 3, 5, 6]), (3, dead 25 [0, 2, 3, 5, 6])]
theorem i88 {x0 x1 x2 x3 : AV} (hF : F 88 = some c88) {q : AV × List Row × Option Nat} (h : Ex F (.fn []) [.code c88b] ⟨mk 25 [(0, x0), (1, x1), (2, x2), (3, x3)], rows, rows.length⟩ fun r => fin rows r.1 r.2.1 r.2.2 = q) : Ret F 88 [x0, x1, x2, x3] rows = some q := Ret_mk hF h
/-! tosher/search.read$1 -/
def c89r0 : List Seg := [
  .grp [(⟨some 37, .load1 (.t 3), none⟩, 0), (⟨some 38, .loadN 2 (.t 4), none⟩, 0), (⟨some 39, .mv (.t 6), none⟩, 0), (⟨some 40, .call (.c (.func 84 [])) [(.t 38), (.t 39)], none⟩, 6)],
  .one ⟨some 41, .call (.t 37) [(.t 40)], none⟩,
  .one ⟨some 42, .mv (.t 41), none⟩,
  .grp [(⟨some 43, .load1 (.t 3), some (42, true)⟩, 0), (⟨some 44, .loadN 2 (.t 4), some (42, true)⟩, 0), (⟨some 45, .mv (.t 6), some (42, true)⟩, 0), (⟨some 46, .call (.c (.func 85 [])) [(.t 44), (.t 45)], some (42, true)⟩, 6)],
  .one ⟨some 47, .call (.t 43) [(.t 46)], some (42, true)⟩,
  .one ⟨some 48, .pick (.t 42) (.t 47) (.c (.bool false)), none⟩,
  .one ⟨some 5, .mv (.t 48), none⟩]
def c89k0 : ICode := .kill (dead 49 [3, 4, 6]) (.ops c89r0)
@[simp] theorem uc89k0 : Ex F cx (.code c89k0 :: k) ⟨mk 49 l, rows, low⟩ r ↔ bnd (evP (rows ++ maskE 0 ([] : List (Nat × Row))) (.load1 (.c (lk l 3)))) fun v0 => bnd (evP (rows ++ maskE 0 ([] : List (Nat × Row))) (.loadN 2 (.c (lk l 4)))) fun v1 => bnd (opC F (rows ++ maskE 6 ([] : List (Nat × Row))) (rows.length + ([] : List (Nat × Row)).length) [v1, lk l 6] (.func 84 [])) fun q2 => q2.2.2 = rows.length + ([] : List (Nat × Row)).length ∧ bnd (some (([] : List (Nat × Row)) ++ List.map (fun (x : Row) => (3, x)) (q2.2.1.drop (rows.length + ([] : List (Nat × Row)).length)))) fun e2 => callK F (rows ++ List.map (fun (x : Nat × Row) => x.2) e2) low [q2.1] (fun v3 R3 L3 => bnd (gv v3 true (evP (R3 ++ maskE 0 ([] : List (Nat × Row))) (.load1 (.c (lk l 3))))) fun v4 => bnd (gv v3 true (evP (R3 ++ maskE 0 ([] : List (Nat × Row))) (.loadN 2 (.c (lk l 4))))) fun v5 => bnd (gv v3 true (evP (R3 ++ maskE 0 ([] : List (Nat × Row))) (.mv (.c (lk l 6))))) fun v6 => bnd (go v3 true (R3 ++ maskE 6 ([] : List (Nat × Row))) (R3.length + ([] : List (Nat × Row)).length) (opC F (R3 ++ maskE 6 ([] : List (Nat × Row))) (R3.length + ([] : List (Nat × Row)).length) [v5, v6] (.func 85 []))) fun q7 => q7.2.2 = R3.length + ([] : List (Nat × Row)).length ∧ bnd (some (([] : List (Nat × Row)) ++ List.map (fun (x : Row) => (3, x)) (q7.2.1.drop (R3.length + ([] : List (Nat × Row)).length)))) fun e7 => gcall F v3 true (R3 ++ List.map (fun (x : Nat × Row) => x.2) e7) L3 [q7.1] v4 fun v8 R8 L8 => bnd (evP R8 (.pick (.c v3) (.c v8) (.c (.bool false)))) fun v9 => Ex F cx k ⟨mk 49 [(5, v9), (48, v9), (47, v8), (46, q7.1), (45, v6), (44, v5), (43, v4), (42, v3), (41, v3), (40, q2.1), (39, lk l 6), (38, v1), (37, v0), (3, lk l 3), (4, lk l 4), (6, lk l 6)], R8, L8⟩ r) v0 := reg (keep := [3, 4, 6]) (ops := c89r0) rfl (by kernel_rfl) (by kernel_rfl)
def c89s1 : ICode := (.seq c89k0 .ret)
@[simp] theorem uc89s1 : Ex F cx (.code c89s1 :: k) s r ↔ Ex F cx (.code (.seq c89k0 .ret) :: k) s r := Iff.rfl
def c89r2 : List Seg := [
  .one ⟨some 33, .load1 (.t 2), none⟩,
  .one ⟨some 34, .mv (.t 6), none⟩,
  .one ⟨some 35, .loadN 2 (.t 4), none⟩,
  .one ⟨some 36, .call (.t 33) [(.t 34), (.t 35)], none⟩]
def c89k2 : ICode := .kill (dead 49 [2, 3, 4, 6]) (.ops c89r2)
@[simp] theorem uc89k2 : Ex F cx (.code c89k2 :: k) ⟨mk 49 l, rows, low⟩ r ↔ bnd (evP rows (.load1 (.c (lk l 2)))) fun v0 => bnd (evP rows (.loadN 2 (.c (lk l 4)))) fun v1 => callK F rows low [lk l 6, v1] (fun v2 R2 L2 => Ex F cx k ⟨mk 49 [(36, v2), (35, v1), (34, lk l 6), (33, v0), (2, lk l 2), (3, lk l 3), (4, lk l 4), (6, lk l 6)], R2, L2⟩ r) v0 := reg (keep := [2, 3, 4, 6]) (ops := c89r2) rfl (by kernel_rfl) (by kernel_rfl)
def c89s3 : ICode := (.seq c89k2 c89s1)
@[simp] theorem uc89s3 : Ex F cx (.code c89s3 :: k) s r ↔ Ex F cx (.code (.seq c89k2 c89s1) :: k) s r := Iff.rfl
def c89r4 : List Seg := [
  .one ⟨some 31, .load1 (.t 1), none⟩,
  .one ⟨some 32, .sliceS 1 (.t 31) (some (.c (.int .i64 1))) none none, none⟩,
  .one ⟨none, .store1 (.t 1) (.t 32), none⟩]
def c89k4 : ICode := .kill (dead 49 [1, 2, 3, 4, 6]) (.ops c89r4)
@[simp] theorem uc89k4 : Ex F cx (.code c89k4 :: k) ⟨mk 49 l, rows, low⟩ r ↔ bnd (evP rows (.load1 (.c (lk l 1)))) fun v0 => bnd (evP rows (.sliceS 1 (.c v0) (some (.c (.int .i64 1))) none none)) fun v1 => bnd (evE rows low (.store1 (.c (lk l 1)) (.c v1))) fun q2 => Ex F cx k ⟨mk 49 [(32, v1), (31, v0), (1, lk l 1), (2, lk l 2), (3, lk l 3), (4, lk l 4), (6, lk l 6)], q2.2.1, q2.2.2⟩ r := reg (keep := [1, 2, 3, 4, 6]) (ops := c89r4) rfl (by kernel_rfl) (by kernel_rfl)
def c89s5 : ICode := (.seq c89k4 c89s3)
@[simp] theorem uc89s5 : Ex F cx (.code c89s5 :: k) s r ↔ Ex F cx (.code (.seq c89k4 c89s3) :: k) s r := Iff.rfl
def c89r6 : List Seg := [
  .one ⟨some 28, .load1 (.t 1), none⟩,
  .one ⟨some 29, .idxS 1 (.t 28) (.c (.int .i64 0)), none⟩,
  .one ⟨some 30, .load1 (.t 29), none⟩,
  .one ⟨some 6, .mv (.t 30), none⟩]
def c89k6 : ICode := .kill (dead 49 [1, 2, 3, 4]) (.ops c89r6)
@[simp] theorem uc89k6 : Ex F cx (.code c89k6 :: k) ⟨mk 49 l, rows, low⟩ r ↔ bnd (evP rows (.load1 (.c (lk l 1)))) fun v0 => bnd (evP rows (.idxS 1 (.c v0) (.c (.int .i64 0)))) fun v1 => bnd (evP rows (.load1 (.c v1))) fun v2 => Ex F cx k ⟨mk 49 [(6, v2), (30, v2), (29, v1), (28, v0), (1, lk l 1), (2, lk l 2), (3, lk l 3), (4, lk l 4)], rows, low⟩ r := reg (keep := [1, 2, 3, 4]) (ops := c89r6) rfl (by kernel_rfl) (by kernel_rfl)
def c89s7 : ICode := (.seq c89k6 c89s5)
@[simp] theorem uc89s7 : Ex F cx (.code c89s7 :: k) s r ↔ Ex F cx (.code (.seq c89k6 c89s5) :: k) s r := Iff.rfl
def c89r8 : List Seg := [
  .one ⟨some 5, .mv (.c (.bool false)), none⟩]
def c89k8 : ICode := .kill (dead 49 []) (.ops c89r8)
@[simp] theorem uc89k8 : Ex F cx (.code c89k8 :: k) ⟨mk 49 l, rows, low⟩ r ↔ Ex F cx k ⟨mk 49 [(5, (.bool false))], rows, low⟩ r := reg (keep := []) (ops := c89r8) rfl (by kernel_rfl) (by kernel_rfl)
def c89s9 : ICode := (.cond (.t 27) (.seq c89k8 .ret) .skip)
@[simp] theorem uc89s9 : Ex F cx (.code c89s9 :: k) s r ↔ Ex F cx (.code (.cond (.t 27) (.seq c89k8 .ret) .skip) :: k) s r := Iff.rfl
def c89r10 : List Seg := [
  .one ⟨some 9, .load1 (.t 1), none⟩,
  .one ⟨some 10, .len 0 (.t 9), none⟩,
  .one ⟨some 11, .bin .eql (.t 10) (.c (.int .i64 0)), none⟩,
  .one ⟨some 12, .mv (.t 11), none⟩,
  .grp [(⟨some 13, .load1 (.t 1), some (12, false)⟩, 0), (⟨some 14, .idxS 1 (.t 13) (.c (.int .i64 0)), some (12, false)⟩, 1), (⟨some 15, .load1 (.t 14), some (12, false)⟩, 3), (⟨some 16, .fieldA 0 (.t 4), some (12, false)⟩, 0), (⟨some 17, .load1 (.t 16), some (12, false)⟩, 8)],
  .one ⟨some 18, .bin .lss (.t 15) (.t 17), some (12, false)⟩,
  .one ⟨some 19, .pick (.t 12) (.c (.bool true)) (.t 18), none⟩,
  .one ⟨some 20, .mv (.t 19), none⟩,
  .grp [(⟨some 21, .load1 (.t 1), some (20, false)⟩, 0), (⟨some 22, .idxS 1 (.t 21) (.c (.int .i64 0)), some (20, false)⟩, 1), (⟨some 23, .load1 (.t 22), some (20, false)⟩, 3), (⟨some 24, .fieldA 1 (.t 4), some (20, false)⟩, 0), (⟨some 25, .load1 (.t 24), some (20, false)⟩, 8)],
  .one ⟨some 26, .bin .geq (.t 23) (.t 25), some (20, false)⟩,
  .one ⟨some 27, .pick (.t 20) (.c (.bool true)) (.t 26), none⟩]
def c89k10 : ICode := .kill (dead 49 [1, 2, 3, 4]) (.ops c89r10)
@[simp] theorem uc89k10 : Ex F cx (.code c89k10 :: k) ⟨mk 49 l, rows, low⟩ r ↔ bnd (evP rows (.load1 (.c (lk l 1)))) fun v0 => bnd (evP rows (.len 0 (.c v0))) fun v1 => bnd (evP rows (.bin .eql (.c v1) (.c (.int .i64 0)))) fun v2 => bnd (gv v2 false (evP rows (.load1 (.c (lk l 1))))) fun v3 => bnd (gv v2 false (evP rows (.idxS 1 (.c v3) (.c (.int .i64 0))))) fun v4 => bnd (gv v2 false (evP rows (.load1 (.c v4)))) fun v5 => bnd (gv v2 false (evP rows (.fieldA 0 (.c (lk l 4))))) fun v6 => bnd (gv v2 false (evP rows (.load1 (.c v6)))) fun v7 => bnd (gv v2 false (evP rows (.bin .lss (.c v5) (.c v7)))) fun v8 => bnd (evP rows (.pick (.c v2) (.c (.bool true)) (.c v8))) fun v9 => bnd (gv v9 false (evP rows (.load1 (.c (lk l 1))))) fun v10 => bnd (gv v9 false (evP rows (.idxS 1 (.c v10) (.c (.int .i64 0))))) fun v11 => bnd (gv v9 false (evP rows (.load1 (.c v11)))) fun v12 => bnd (gv v9 false (evP rows (.fieldA 1 (.c (lk l 4))))) fun v13 => bnd (gv v9 false (evP rows (.load1 (.c v13)))) fun v14 => bnd (gv v9 false (evP rows (.bin .geq (.c v12) (.c v14)))) fun v15 => bnd (evP rows (.pick (.c v9) (.c (.bool true)) (.c v15))) fun v16 => Ex F cx k ⟨mk 49 [(27, v16), (26, v15), (25, v14), (24, v13), (23, v12), (22, v11), (21, v10), (20, v9), (19, v9), (18, v8), (17, v7), (16, v6), (15, v5), (14, v4), (13, v3), (12, v2), (11, v2), (10, v1), (9, v0), (1, lk l 1), (2, lk l 2), (3, lk l 3), (4, lk l 4)], rows, low⟩ r := reg (keep := [1, 2, 3, 4]) (ops := c89r10) rfl (by kernel_rfl) (by kernel_rfl)
def c89s11 : ICode := (.seq (.seq c89k10 c89s9) c89s7)
@[simp] theorem uc89s11 : Ex F cx (.code c89s11 :: k) s r ↔ Ex F cx (.code (.seq (.seq c89k10 c89s9) c89s7) :: k) s r := Iff.rfl
def c89r12 : List Seg := [
  .one ⟨some 5, .mv (.c (.bool true)), none⟩]
def c89k12 : ICode := .kill (dead 49 []) (.ops c89r12)
@[simp] theorem uc89k12 : Ex F cx (.code c89k12 :: k) ⟨mk 49 l, rows, low⟩ r ↔ Ex F cx k ⟨mk 49 [(5, (.bool true))], rows, low⟩ r := reg (keep := []) (ops := c89r12) rfl (by kernel_rfl) (by kernel_rfl)
def c89s13 : ICode := (.cond (.t 8) (.seq c89k12 .ret) .skip)
@[simp] theorem uc89s13 : Ex F cx (.code c89s13 :: k) s r ↔ Ex F cx (.code (.cond (.t 8) (.seq c89k12 .ret) .skip) :: k) s r := Iff.rfl
def c89r14 : List Seg := [
  .one ⟨some 7, .loadN 2 (.t 4), none⟩,
  .one ⟨some 8, .call (.c (.func 86 [])) [(.t 7)], none⟩]
def c89k14 : ICode := .kill (dead 49 [1, 2, 3, 4]) (.ops c89r14)
@[simp] theorem uc89k14 : Ex F cx (.code c89k14 :: k) ⟨mk 49 l, rows, low⟩ r ↔ bnd (evP rows (.loadN 2 (.c (lk l 4)))) fun v0 => bnd (Ret F 86 [v0] rows) fun q1 => Ex F cx k ⟨mk 49 [(8, q1.1), (7, v0), (1, lk l 1), (2, lk l 2), (3, lk l 3), (4, lk l 4)], q1.2.1, (lowO low q1.2.2)⟩ r := reg (keep := [1, 2, 3, 4]) (ops := c89r14) rfl (by kernel_rfl) (by kernel_rfl)
def c89s15 : ICode := (.seq (.seq c89k14 c89s13) c89s11)
@[simp] theorem uc89s15 : Ex F cx (.code c89s15 :: k) s r ↔ Ex F cx (.code (.seq (.seq c89k14 c89s13) c89s11) :: k) s r := Iff.rfl
def c89r16 : List Seg := [
  .one ⟨some 4, .box (.t 0), none⟩,
  .one ⟨some 5, .mv (.c (.bool false)), none⟩]
def c89k16 : ICode := .kill (dead 49 [0, 1, 2, 3]) (.ops c89r16)
@[simp] theorem uc89k16 : Ex F cx (.code c89k16 :: k) ⟨mk 49 l, rows, low⟩ r ↔ bnd (evE rows low (.box (.c (lk l 0)))) fun q0 => Ex F cx k ⟨mk 49 [(5, (.bool false)), (4, q0.1), (0, lk l 0), (1, lk l 1), (2, lk l 2), (3, lk l 3)], q0.2.1, q0.2.2⟩ r := reg (keep := [0, 1, 2, 3]) (ops := c89r16) rfl (by kernel_rfl) (by kernel_rfl)
def Jc89s7 (F : Nat → Option IFn) (cx : Ctx) (x1 x2 x3 x4 : AV) (rows : List Row) (low : Nat) (r : AV × List Row × Nat → Prop) : Prop := Ex F cx (.code c89s7 :: []) ⟨mk 49 [(1, x1), (2, x2), (3, x3), (4, x4)], rows, low⟩ r
theorem jc89s7 : Ex F cx (.code c89s7 :: []) ⟨mk 49 l, rows, low⟩ r ↔ Jc89s7 F cx (lk l 1) (lk l 2) (lk l 3) (lk l 4) rows low r := Ex_canon (keep := [1, 2, 3, 4]) (by kernel_rfl)
def Jc89s11 (F : Nat → Option IFn) (cx : Ctx) (x1 x2 x3 x4 : AV) (rows : List Row) (low : Nat) (r : AV × List Row × Nat → Prop) : Prop := Ex F cx (.code c89s11 :: []) ⟨mk 49 [(1, x1), (2, x2), (3, x3), (4, x4)], rows, low⟩ r
theorem jc89s11 : Ex F cx (.code c89s11 :: []) ⟨mk 49 l, rows, low⟩ r ↔ Jc89s11 F cx (lk l 1) (lk l 2) (lk l 3) (lk l 4) rows low r := Ex_canon (keep := [1, 2, 3, 4]) (by kernel_rfl)
def c89b : ICode := (.seq c89k16 c89s15)
@[simp] theorem uc89b : Ex F cx (.code c89b :: k) s r ↔ Ex F cx (.code (.seq c89k16 c89s15) :: k) s r := Iff.rfl
def c89 : IFn := ⟨49, [.t 5], c89b⟩
def h89 : List (Nat × List Nat) := [(0, dead 49 [0, 1, 2, 3]), (1, dead 49 [1, 2, 3, 4]), (2, dead 49 []), (3, dead 49 [1, 2, 3, 4]), (4, dead 49 []), (5, dead 49 [1, 2, 3, 4]), (6, dead 49 [1, 2, 3, 4, 6]), (7, dead 49 [2, 3, 4, 6]), (8, dead 49 [3, 4, 6])]
theorem i89 {x0 x1 x2 x3 : AV} (hF : F 89 = some c89) {q : AV × List Row × Option Nat} (h : Ex F (.fn [.t 5]) [.code c89b] ⟨mk 49 [(0, x0), (1, x1), (2, x2), (3, x3)], rows, rows.length⟩ fun r => fin rows r.1 r.2.1 r.2.2 = q) : Ret F 89 [x0, x1, x2, x3] rows = some q := Ret_mk hF h
/-! slices.Max[[]int,int] -/
def c90r0 : List Seg := [
  .one ⟨some 24, .mv (.t 3), none⟩,
  .one ⟨some 2, .mv (.t 24), none⟩]
def c90k0 : ICode := .kill (dead 25 [3]) (.ops c90r0)
@[simp] theorem uc90k0 : Ex F cx (.code c90k0 :: k) ⟨mk 25 l, rows, low⟩ r ↔ Ex F cx k ⟨mk 25 [(2, lk l 3), (24, lk l 3), (3, lk l 3)], rows, low⟩ r := reg (keep := [3]) (ops := c90r0) rfl (by kernel_rfl) (by kernel_rfl)
def c90s1 : ICode := (.seq c90k0 .ret)
@[simp] theorem uc90s1 : Ex F cx (.code c90s1 :: k) s r ↔ Ex F cx (.code (.seq c90k0 .ret) :: k) s r := Iff.rfl
def c90r3 : List Seg := [
  .one ⟨some 16, .mv (.t 4), none⟩,
  .one ⟨some 17, .bin .add (.t 16) (.c (.int .i64 1)), none⟩,
  .one ⟨some 4, .mv (.t 17), none⟩]
def c90k3 : ICode := .kill (dead 25 [0, 3, 4]) (.ops c90r3)
@[simp] theorem uc90k3 : Ex F cx (.code c90k3 :: k) ⟨mk 25 l, rows, low⟩ r ↔ bnd (evP rows (.bin .add (.c (lk l 4)) (.c (.int .i64 1)))) fun v0 => Ex F cx k ⟨mk 25 [(4, v0), (17, v0), (16, lk l 4), (0, lk l 0), (3, lk l 3), (4, lk l 4)], rows, low⟩ r := reg (keep := [0, 3, 4]) (ops := c90r3) rfl (by kernel_rfl) (by kernel_rfl)
def c90r4 : List Seg := [
  .one ⟨some 18, .mv (.t 3), none⟩,
  .one ⟨some 19, .mv (.t 0), none⟩,
  .one ⟨some 20, .mv (.t 4), none⟩,
  .one ⟨some 21, .idxS 1 (.t 19) (.t 20), none⟩,
  .one ⟨some 22, .load1 (.t 21), none⟩,
  .one ⟨some 23, .mx [(.t 18), (.t 22)], none⟩,
  .one ⟨some 3, .mv (.t 23), none⟩]
def c90k4 : ICode := .kill (dead 25 [0, 3, 4]) (.ops c90r4)
@[simp] theorem uc90k4 : Ex F cx (.code c90k4 :: k) ⟨mk 25 l, rows, low⟩ r ↔ bnd (evP rows (.idxS 1 (.c (lk l 0)) (.c (lk l 4)))) fun v0 => bnd (evP rows (.load1 (.c v0))) fun v1 => bnd (evP rows (.mx [(.c (lk l 3)), (.c v1)])) fun v2 => Ex F cx k ⟨mk 25 [(3, v2), (23, v2), (22, v1), (21, v0), (20, lk l 4), (19, lk l 0), (18, lk l 3), (0, lk l 0), (3, lk l 3), (4, lk l 4)], rows, low⟩ r := reg (keep := [0, 3, 4]) (ops := c90r4) rfl (by kernel_rfl) (by kernel_rfl)
def c90s5 : ICode := (.seq (.block 1 c90k4) c90k3)
@[simp] theorem uc90s5 : Ex F cx (.code c90s5 :: k) s r ↔ Ex F cx (.code (.seq (.block 1 c90k4) c90k3) :: k) s r := Iff.rfl
def c90s6 : ICode := (.cond (.t 15) .skip (.exit 0))
@[simp] theorem uc90s6 : Ex F cx (.code c90s6 :: k) s r ↔ Ex F cx (.code (.cond (.t 15) .skip (.exit 0)) :: k) s r := Iff.rfl
def c90r7 : List Seg := [
  .one ⟨some 12, .mv (.t 4), none⟩,
  .one ⟨some 13, .mv (.t 0), none⟩,
  .one ⟨some 14, .len 0 (.t 13), none⟩,
  .one ⟨some 15, .bin .lss (.t 12) (.t 14), none⟩]
def c90k7 : ICode := .kill (dead 25 [0, 3, 4]) (.ops c90r7)
@[simp] theorem uc90k7 : Ex F cx (.code c90k7 :: k) ⟨mk 25 l, rows, low⟩ r ↔ bnd (evP rows (.len 0 (.c (lk l 0)))) fun v0 => bnd (evP rows (.bin .lss (.c (lk l 4)) (.c v0))) fun v1 => Ex F cx k ⟨mk 25 [(15, v1), (14, v0), (13, lk l 0), (12, lk l 4), (0, lk l 0), (3, lk l 3), (4, lk l 4)], rows, low⟩ r := reg (keep := [0, 3, 4]) (ops := c90r7) rfl (by kernel_rfl) (by kernel_rfl)
def c90l2 : ICode := (.seq (.seq c90k7 c90s6) c90s5)
def c90s8 : ICode := (.block 0 (.loop c90l2))
@[simp] theorem uc90s8 : Ex F cx (.code c90s8 :: k) s r ↔ Ex F cx (.code (.block 0 (.loop c90l2)) :: k) s r := Iff.rfl
def c90r9 : List Seg := [
  .one ⟨some 4, .mv (.c (.int .i64 1)), none⟩]
def c90k9 : ICode := .kill (dead 25 [0, 3]) (.ops c90r9)
@[simp] theorem uc90k9 : Ex F cx (.code c90k9 :: k) ⟨mk 25 l, rows, low⟩ r ↔ Ex F cx k ⟨mk 25 [(4, (.int .i64 1)), (0, lk l 0), (3, lk l 3)], rows, low⟩ r := reg (keep := [0, 3]) (ops := c90r9) rfl (by kernel_rfl) (by kernel_rfl)
def c90s10 : ICode := (.seq (.seq c90k9 c90s8) c90s1)
@[simp] theorem uc90s10 : Ex F cx (.code c90s10 :: k) s r ↔ Ex F cx (.code (.seq (.seq c90k9 c90s8) c90s1) :: k) s r := Iff.rfl
def c90r11 : List Seg := [
  .one ⟨some 9, .mv (.t 0), none⟩,
  .one ⟨some 10, .idxS 1 (.t 9) (.c (.int .i64 0)), none⟩,
  .one ⟨some 11, .load1 (.t 10), none⟩,
  .one ⟨some 3, .mv (.t 11), none⟩]
def c90k11 : ICode := .kill (dead 25 [0]) (.ops c90r11)
@[simp] theorem uc90k11 : Ex F cx (.code c90k11 :: k) ⟨mk 25 l, rows, low⟩ r ↔ bnd (evP rows (.idxS 1 (.c (lk l 0)) (.c (.int .i64 0)))) fun v0 => bnd (evP rows (.load1 (.c v0))) fun v1 => Ex F cx k ⟨mk 25 [(3, v1), (11, v1), (10, v0), (9, lk l 0), (0, lk l 0)], rows, low⟩ r := reg (keep := [0]) (ops := c90r11) rfl (by kernel_rfl) (by kernel_rfl)
def c90s12 : ICode := (.seq c90k11 c90s10)
@[simp] theorem uc90s12 : Ex F cx (.code c90s12 :: k) s r ↔ Ex F cx (.code (.seq c90k11 c90s10) :: k) s r := Iff.rfl
def c90r13 : List Seg := [
  .one ⟨some 8, .mkif 9 (.c (.str ⟨#[115, 108, 105, 99, 101, 115, 46, 77, 97, 120, 58, 32, 101, 109, 112, 116, 121, 32, 108, 105, 115, 116]⟩)), none⟩,
  .one ⟨none, .bad, none⟩]
def c90k13 : ICode := .kill (dead 25 [0]) (.ops c90r13)
@[simp] theorem uc90k13 : Ex F cx (.code c90k13 :: k) ⟨mk 25 l, rows, low⟩ r ↔ bnd (evP rows (.mkif 9 (.c (.str ⟨#[115, 108, 105, 99, 101, 115, 46, 77, 97, 120, 58, 32, 101, 109, 112, 116, 121, 32, 108, 105, 115, 116]⟩)))) fun v0 => bnd (evE rows low (.bad)) fun q1 => Ex F cx k ⟨mk 25 [(8, v0), (0, lk l 0)], q1.2.1, q1.2.2⟩ r := reg (keep := [0]) (ops := c90r13) rfl (by kernel_rfl) (by kernel_rfl)
def c90s14 : ICode := (.cond (.t 7) c90k13 .skip)
@[simp] theorem uc90s14 : Ex F cx (.code c90s14 :: k) s r ↔ Ex F cx (.code (.cond (.t 7) c90k13 .skip) :: k) s r := Iff.rfl
def c90r15 : List Seg := [
  .one ⟨some 5, .mv (.t 0), none⟩,
  .one ⟨some 6, .len 0 (.t 5), none⟩,
  .one ⟨some 7, .bin .lss (.t 6) (.c (.int .i64 1)), none⟩]
def c90k15 : ICode := .kill (dead 25 [0]) (.ops c90r15)
@[simp] theorem uc90k15 : Ex F cx (.code c90k15 :: k) ⟨mk 25 l, rows, low⟩ r ↔ bnd (evP rows (.len 0 (.c (lk l 0)))) fun v0 => bnd (evP rows (.bin .lss (.c v0) (.c (.int .i64 1)))) fun v1 => Ex F cx k ⟨mk 25 [(7, v1), (6, v0), (5, lk l 0), (0, lk l 0)], rows, low⟩ r := reg (keep := [0]) (ops := c90r15) rfl (by kernel_rfl) (by kernel_rfl)
def c90s16 : ICode := (.seq (.seq c90k15 c90s14) c90s12)
@[simp] theorem uc90s16 : Ex F cx (.code c90s16 :: k) s r ↔ Ex F cx (.code (.seq (.seq c90k15 c90s14) c90s12) :: k) s r := Iff.rfl
def c90r17 : List Seg := [
  .one ⟨some 2, .mv (.c (.int .i64 0)), none⟩]
def c90k17 : ICode := .kill (dead 25 [0]) (.ops c90r17)
@[simp] theorem uc90k17 : Ex F cx (.code c90k17 :: k) ⟨mk 25 l, rows, low⟩ r ↔ Ex F cx k ⟨mk 25 [(2, (.int .i64 0)), (0, lk l 0)], rows, low⟩ r := reg (keep := [0]) (ops := c90r17) rfl (by kernel_rfl) (by kernel_rfl)
def Jc90s5 (F : Nat → Option IFn) (cx : Ctx) (x0 x3 x4 : AV) (rows : List Row) (low : Nat) (r : AV × List Row × Nat → Prop) : Prop := Ex F cx (.code c90s5 :: .inLoop c90l2 :: .inBlock 0 :: .code c90s1 :: []) ⟨mk 25 [(0, x0), (3, x3), (4, x4)], rows, low⟩ r
theorem jc90s5 : Ex F cx (.code c90s5 :: .inLoop c90l2 :: .inBlock 0 :: .code c90s1 :: []) ⟨mk 25 l, rows, low⟩ r ↔ Jc90s5 F cx (lk l 0) (lk l 3) (lk l 4) rows low r := Ex_canon (keep := [0, 3, 4]) (by kernel_rfl)
def Lc90l2 (F : Nat → Option IFn) (cx : Ctx) (x0 x3 x4 : AV) (rows : List Row) (low : Nat) (r : AV × List Row × Nat → Prop) : Prop := Ex F cx (.code c90l2 :: .inLoop c90l2 :: .inBlock 0 :: .code c90s1 :: []) ⟨mk 25 [(0, x0), (3, x3), (4, x4)], rows, low⟩ r
@[simp] theorem nc90l2 : Ex F cx (.inLoop c90l2 :: .inBlock 0 :: .code c90s1 :: []) ⟨mk 25 l, rows, low⟩ r ↔ Lc90l2 F cx (lk l 0) (lk l 3) (lk l 4) rows low r := loopN (keep := [0, 3, 4]) (by kernel_rfl)
@[simp] theorem ec90l2 : Ex F cx (.code (.loop c90l2) :: .inBlock 0 :: .code c90s1 :: []) ⟨mk 25 l, rows, low⟩ r ↔ Lc90l2 F cx (lk l 0) (lk l 3) (lk l 4) rows low r := loopE (keep := [0, 3, 4]) (by kernel_rfl)
@[simp] theorem uc90l2 : Ex F cx (.code c90l2 :: k) s r ↔ Ex F cx (.code (.seq (.seq c90k7 c90s6) c90s5) :: k) s r := Iff.rfl
def Jc90s12 (F : Nat → Option IFn) (cx : Ctx) (x0 : AV) (rows : List Row) (low : Nat) (r : AV × List Row × Nat → Prop) : Prop := Ex F cx (.code c90s12 :: []) ⟨mk 25 [(0, x0)], rows, low⟩ r
theorem jc90s12 : Ex F cx (.code c90s12 :: []) ⟨mk 25 l, rows, low⟩ r ↔ Jc90s12 F cx (lk l 0) rows low r := Ex_canon (keep := [0]) (by kernel_rfl)
def c90b : ICode := (.seq c90k17 c90s16)
@[simp] theorem uc90b : Ex F cx (.code c90b :: k) s r ↔ Ex F cx (.code (.seq c90k17 c90s16) :: k) s r := Iff.rfl
def c90 : IFn := ⟨25, [.t 2], c90b⟩
def h90 : List (Nat × List Nat) := [(0, dead 25 [0]), (1, dead 25 [0]), (2, dead 25 [0]), (3, dead 25 [0]), (4, dead 25 [0, 3]), (5, dead 25 [0, 3, 4]), (7, dead 25 [0, 3, 4]), (6, dead 25 [0, 3, 4]), (8, dead 25 [3])]
theorem i90 {x0 : AV} (hF : F 90 = some c90) {q : AV × List Row × Option Nat} (h : Ex F (.fn [.t 2]) [.code c90b] ⟨mk 25 [(0, x0)], rows, rows.length⟩ fun r => fin rows r.1 r.2.1 r.2.2 = q) : Ret F 90 [x0] rows = some q := Ret_mk hF h
/-! slices.Compare[[]int,int] -/
def c91r0 : List Seg := [
  .one ⟨some 4, .mv (.c (.int .i64 0)), none⟩]
def c91k0 : ICode := .kill (dead 36 []) (.ops c91r0)
@[simp] theorem uc91k0 : Ex F cx (.code c91k0 :: k) ⟨mk 36 l, rows, low⟩ r ↔ Ex F cx k ⟨mk 36 [(4, (.int .i64 0))], rows, low⟩ r := reg (keep := []) (ops := c91r0) rfl (by kernel_rfl) (by kernel_rfl)
def c91s1 : ICode := (.seq c91k0 .ret)
@[simp] theorem uc91s1 : Ex F cx (.code c91s1 :: k) s r ↔ Ex F cx (.code (.seq c91k0 .ret) :: k) s r := Iff.rfl
def c91r2 : List Seg := [
  .one ⟨some 4, .mv (.c (.int .i64 (-1))), none⟩]
def c91k2 : ICode := .kill (dead 36 []) (.ops c91r2)
@[simp] theorem uc91k2 : Ex F cx (.code c91k2 :: k) ⟨mk 36 l, rows, low⟩ r ↔ Ex F cx k ⟨mk 36 [(4, (.int .i64 (-1)))], rows, low⟩ r := reg (keep := []) (ops := c91r2) rfl (by kernel_rfl) (by kernel_rfl)
def c91s3 : ICode := (.cond (.t 35) (.seq c91k2 .ret) .skip)
@[simp] theorem uc91s3 : Ex F cx (.code c91s3 :: k) s r ↔ Ex F cx (.code (.cond (.t 35) (.seq c91k2 .ret) .skip) :: k) s r := Iff.rfl
def c91r4 : List Seg := [
  .one ⟨some 31, .mv (.t 0), none⟩,
  .one ⟨some 32, .len 0 (.t 31), none⟩,
  .one ⟨some 33, .mv (.t 1), none⟩,
  .one ⟨some 34, .len 0 (.t 33), none⟩,
  .one ⟨some 35, .bin .lss (.t 32) (.t 34), none⟩]
def c91k4 : ICode := .kill (dead 36 [0, 1]) (.ops c91r4)
@[simp] theorem uc91k4 : Ex F cx (.code c91k4 :: k) ⟨mk 36 l, rows, low⟩ r ↔ bnd (evP rows (.len 0 (.c (lk l 0)))) fun v0 => bnd (evP rows (.len 0 (.c (lk l 1)))) fun v1 => bnd (evP rows (.bin .lss (.c v0) (.c v1))) fun v2 => Ex F cx k ⟨mk 36 [(35, v2), (34, v1), (33, lk l 1), (32, v0), (31, lk l 0), (0, lk l 0), (1, lk l 1)], rows, low⟩ r := reg (keep := [0, 1]) (ops := c91r4) rfl (by kernel_rfl) (by kernel_rfl)
def c91s5 : ICode := (.seq (.seq c91k4 c91s3) c91s1)
@[simp] theorem uc91s5 : Ex F cx (.code c91s5 :: k) s r ↔ Ex F cx (.code (.seq (.seq c91k4 c91s3) c91s1) :: k) s r := Iff.rfl
def c91r7 : List Seg := [
  .one ⟨some 30, .bin .add (.t 11) (.c (.int .i64 1)), none⟩,
  .one ⟨some 11, .mv (.t 30), none⟩]
def c91k7 : ICode := .kill (dead 36 [0, 1, 9, 10, 11]) (.ops c91r7)
@[simp] theorem uc91k7 : Ex F cx (.code c91k7 :: k) ⟨mk 36 l, rows, low⟩ r ↔ bnd (evP rows (.bin .add (.c (lk l 11)) (.c (.int .i64 1)))) fun v0 => Ex F cx k ⟨mk 36 [(11, v0), (30, v0), (0, lk l 0), (1, lk l 1), (9, lk l 9), (10, lk l 10), (11, lk l 11)], rows, low⟩ r := reg (keep := [0, 1, 9, 10, 11]) (ops := c91r7) rfl (by kernel_rfl) (by kernel_rfl)
def c91r8 : List Seg := [
  .one ⟨some 29, .mv (.t 8), none⟩,
  .one ⟨some 4, .mv (.t 29), none⟩]
def c91k8 : ICode := .kill (dead 36 [8]) (.ops c91r8)
@[simp] theorem uc91k8 : Ex F cx (.code c91k8 :: k) ⟨mk 36 l, rows, low⟩ r ↔ Ex F cx k ⟨mk 36 [(4, lk l 8), (29, lk l 8), (8, lk l 8)], rows, low⟩ r := reg (keep := [8]) (ops := c91r8) rfl (by kernel_rfl) (by kernel_rfl)
def c91s9 : ICode := (.cond (.t 28) (.seq c91k8 .ret) .skip)
@[simp] theorem uc91s9 : Ex F cx (.code c91s9 :: k) s r ↔ Ex F cx (.code (.cond (.t 28) (.seq c91k8 .ret) .skip) :: k) s r := Iff.rfl
def c91r10 : List Seg := [
  .one ⟨some 27, .mv (.t 8), none⟩,
  .one ⟨some 28, .bin .neq (.t 27) (.c (.int .i64 0)), none⟩]
def c91k10 : ICode := .kill (dead 36 [0, 1, 8, 9, 10, 11]) (.ops c91r10)
@[simp] theorem uc91k10 : Ex F cx (.code c91k10 :: k) ⟨mk 36 l, rows, low⟩ r ↔ bnd (evP rows (.bin .neq (.c (lk l 8)) (.c (.int .i64 0)))) fun v0 => Ex F cx k ⟨mk 36 [(28, v0), (27, lk l 8), (0, lk l 0), (1, lk l 1), (8, lk l 8), (9, lk l 9), (10, lk l 10), (11, lk l 11)], rows, low⟩ r := reg (keep := [0, 1, 8, 9, 10, 11]) (ops := c91r10) rfl (by kernel_rfl) (by kernel_rfl)
def c91s11 : ICode := (.seq c91k10 c91s9)
@[simp] theorem uc91s11 : Ex F cx (.code c91s11 :: k) s r ↔ Ex F cx (.code (.seq c91k10 c91s9) :: k) s r := Iff.rfl
def c91r12 : List Seg := [
  .one ⟨some 24, .mv (.t 6), none⟩,
  .one ⟨some 25, .mv (.t 7), none⟩,
  .one ⟨some 26, .call (.c (.func 99 [])) [(.t 24), (.t 25)], none⟩,
  .one ⟨some 8, .mv (.t 26), none⟩]
def c91k12 : ICode := .kill (dead 36 [0, 1, 6, 7, 9, 10, 11]) (.ops c91r12)
@[simp] theorem uc91k12 : Ex F cx (.code c91k12 :: k) ⟨mk 36 l, rows, low⟩ r ↔ bnd (Ret F 99 [lk l 6, lk l 7] rows) fun q0 => Ex F cx k ⟨mk 36 [(8, q0.1), (26, q0.1), (25, lk l 7), (24, lk l 6), (0, lk l 0), (1, lk l 1), (6, lk l 6), (7, lk l 7), (9, lk l 9), (10, lk l 10), (11, lk l 11)], q0.2.1, (lowO low q0.2.2)⟩ r := reg (keep := [0, 1, 6, 7, 9, 10, 11]) (ops := c91r12) rfl (by kernel_rfl) (by kernel_rfl)
def c91s13 : ICode := (.seq c91k12 c91s11)
@[simp] theorem uc91s13 : Ex F cx (.code c91s13 :: k) s r ↔ Ex F cx (.code (.seq c91k12 c91s11) :: k) s r := Iff.rfl
def c91r14 : List Seg := [
  .one ⟨some 20, .mv (.t 1), none⟩,
  .one ⟨some 21, .mv (.t 5), none⟩,
  .one ⟨some 22, .idxS 1 (.t 20) (.t 21), none⟩,
  .one ⟨some 23, .load1 (.t 22), none⟩,
  .one ⟨some 7, .mv (.t 23), none⟩]
def c91k14 : ICode := .kill (dead 36 [0, 1, 5, 6, 9, 10, 11]) (.ops c91r14)
@[simp] theorem uc91k14 : Ex F cx (.code c91k14 :: k) ⟨mk 36 l, rows, low⟩ r ↔ bnd (evP rows (.idxS 1 (.c (lk l 1)) (.c (lk l 5)))) fun v0 => bnd (evP rows (.load1 (.c v0))) fun v1 => Ex F cx k ⟨mk 36 [(7, v1), (23, v1), (22, v0), (21, lk l 5), (20, lk l 1), (0, lk l 0), (1, lk l 1), (5, lk l 5), (6, lk l 6), (9, lk l 9), (10, lk l 10), (11, lk l 11)], rows, low⟩ r := reg (keep := [0, 1, 5, 6, 9, 10, 11]) (ops := c91r14) rfl (by kernel_rfl) (by kernel_rfl)
def c91s15 : ICode := (.seq c91k14 c91s13)
@[simp] theorem uc91s15 : Ex F cx (.code c91s15 :: k) s r ↔ Ex F cx (.code (.seq c91k14 c91s13) :: k) s r := Iff.rfl
def c91r16 : List Seg := [
  .one ⟨some 4, .mv (.c (.int .i64 1)), none⟩]
def c91k16 : ICode := .kill (dead 36 []) (.ops c91r16)
@[simp] theorem uc91k16 : Ex F cx (.code c91k16 :: k) ⟨mk 36 l, rows, low⟩ r ↔ Ex F cx k ⟨mk 36 [(4, (.int .i64 1))], rows, low⟩ r := reg (keep := []) (ops := c91r16) rfl (by kernel_rfl) (by kernel_rfl)
def c91s17 : ICode := (.cond (.t 19) (.seq c91k16 .ret) .skip)
@[simp] theorem uc91s17 : Ex F cx (.code c91s17 :: k) s r ↔ Ex F cx (.code (.cond (.t 19) (.seq c91k16 .ret) .skip) :: k) s r := Iff.rfl
def c91r18 : List Seg := [
  .one ⟨some 16, .mv (.t 5), none⟩,
  .one ⟨some 17, .mv (.t 1), none⟩,
  .one ⟨some 18, .len 0 (.t 17), none⟩,
  .one ⟨some 19, .bin .geq (.t 16) (.t 18), none⟩]
def c91k18 : ICode := .kill (dead 36 [0, 1, 5, 6, 9, 10, 11]) (.ops c91r18)
@[simp] theorem uc91k18 : Ex F cx (.code c91k18 :: k) ⟨mk 36 l, rows, low⟩ r ↔ bnd (evP rows (.len 0 (.c (lk l 1)))) fun v0 => bnd (evP rows (.bin .geq (.c (lk l 5)) (.c v0))) fun v1 => Ex F cx k ⟨mk 36 [(19, v1), (18, v0), (17, lk l 1), (16, lk l 5), (0, lk l 0), (1, lk l 1), (5, lk l 5), (6, lk l 6), (9, lk l 9), (10, lk l 10), (11, lk l 11)], rows, low⟩ r := reg (keep := [0, 1, 5, 6, 9, 10, 11]) (ops := c91r18) rfl (by kernel_rfl) (by kernel_rfl)
def c91s19 : ICode := (.seq (.seq c91k18 c91s17) c91s15)
@[simp] theorem uc91s19 : Ex F cx (.code c91s19 :: k) s r ↔ Ex F cx (.code (.seq (.seq c91k18 c91s17) c91s15) :: k) s r := Iff.rfl
def c91r20 : List Seg := [
  .one ⟨some 13, .mv (.t 11), none⟩,
  .one ⟨some 14, .idxS 1 (.t 9) (.t 11), none⟩,
  .one ⟨some 15, .load1 (.t 14), none⟩,
  .one ⟨some 5, .mv (.t 13), none⟩,
  .one ⟨some 6, .mv (.t 15), none⟩]
def c91k20 : ICode := .kill (dead 36 [0, 1, 9, 10, 11]) (.ops c91r20)
@[simp] theorem uc91k20 : Ex F cx (.code c91k20 :: k) ⟨mk 36 l, rows, low⟩ r ↔ bnd (evP rows (.idxS 1 (.c (lk l 9)) (.c (lk l 11)))) fun v0 => bnd (evP rows (.load1 (.c v0))) fun v1 => Ex F cx k ⟨mk 36 [(6, v1), (5, lk l 11), (15, v1), (14, v0), (13, lk l 11), (0, lk l 0), (1, lk l 1), (9, lk l 9), (10, lk l 10), (11, lk l 11)], rows, low⟩ r := reg (keep := [0, 1, 9, 10, 11]) (ops := c91r20) rfl (by kernel_rfl) (by kernel_rfl)
def c91s21 : ICode := (.seq (.block 1 (.seq c91k20 c91s19)) c91k7)
@[simp] theorem uc91s21 : Ex F cx (.code c91s21 :: k) s r ↔ Ex F cx (.code (.seq (.block 1 (.seq c91k20 c91s19)) c91k7) :: k) s r := Iff.rfl
def c91s22 : ICode := (.seq (.cond (.t 12) .skip (.exit 0)) c91s21)
@[simp] theorem uc91s22 : Ex F cx (.code c91s22 :: k) s r ↔ Ex F cx (.code (.seq (.cond (.t 12) .skip (.exit 0)) c91s21) :: k) s r := Iff.rfl
def c91r23 : List Seg := [
  .one ⟨some 12, .bin .lss (.t 11) (.t 10), none⟩]
def c91k23 : ICode := .kill (dead 36 [0, 1, 9, 10, 11]) (.ops c91r23)
@[simp] theorem uc91k23 : Ex F cx (.code c91k23 :: k) ⟨mk 36 l, rows, low⟩ r ↔ bnd (evP rows (.bin .lss (.c (lk l 11)) (.c (lk l 10)))) fun v0 => Ex F cx k ⟨mk 36 [(12, v0), (0, lk l 0), (1, lk l 1), (9, lk l 9), (10, lk l 10), (11, lk l 11)], rows, low⟩ r := reg (keep := [0, 1, 9, 10, 11]) (ops := c91r23) rfl (by kernel_rfl) (by kernel_rfl)
def c91l6 : ICode := (.seq c91k23 c91s22)
def c91s24 : ICode := (.block 0 (.loop c91l6))
@[simp] theorem uc91s24 : Ex F cx (.code c91s24 :: k) s r ↔ Ex F cx (.code (.block 0 (.loop c91l6)) :: k) s r := Iff.rfl
def c91r25 : List Seg := [
  .one ⟨some 9, .mv (.t 0), none⟩,
  .one ⟨some 10, .len 0 (.t 9), none⟩,
  .one ⟨some 11, .mv (.c (.int .i64 0)), none⟩]
def c91k25 : ICode := .kill (dead 36 [0, 1]) (.ops c91r25)
@[simp] theorem uc91k25 : Ex F cx (.code c91k25 :: k) ⟨mk 36 l, rows, low⟩ r ↔ bnd (evP rows (.len 0 (.c (lk l 0)))) fun v0 => Ex F cx k ⟨mk 36 [(11, (.int .i64 0)), (10, v0), (9, lk l 0), (0, lk l 0), (1, lk l 1)], rows, low⟩ r := reg (keep := [0, 1]) (ops := c91r25) rfl (by kernel_rfl) (by kernel_rfl)
def c91s26 : ICode := (.seq (.seq c91k25 c91s24) c91s5)
@[simp] theorem uc91s26 : Ex F cx (.code c91s26 :: k) s r ↔ Ex F cx (.code (.seq (.seq c91k25 c91s24) c91s5) :: k) s r := Iff.rfl
def c91r27 : List Seg := [
  .one ⟨some 4, .mv (.c (.int .i64 0)), none⟩]
def c91k27 : ICode := .kill (dead 36 [0, 1]) (.ops c91r27)
@[simp] theorem uc91k27 : Ex F cx (.code c91k27 :: k) ⟨mk 36 l, rows, low⟩ r ↔ Ex F cx k ⟨mk 36 [(4, (.int .i64 0)), (0, lk l 0), (1, lk l 1)], rows, low⟩ r := reg (keep := [0, 1]) (ops := c91r27) rfl (by kernel_rfl) (by kernel_rfl)
def Jc91s1 (F : Nat → Option IFn) (cx : Ctx) (rows : List Row) (low : Nat) (r : AV × List Row × Nat → Prop) : Prop := Ex F cx (.code c91s1 :: []) ⟨mk 36 [], rows, low⟩ r
theorem jc91s1 : Ex F cx (.code c91s1 :: []) ⟨mk 36 l, rows, low⟩ r ↔ Jc91s1 F cx  rows low r := Ex_canon (keep := []) (by kernel_rfl)
def Jc91s15 (F : Nat → Option IFn) (cx : Ctx) (x0 x1 x5 x6 x9 x10 x11 : AV) (rows : List Row) (low : Nat) (r : AV × List Row × Nat → Prop) : Prop := Ex F cx (.code c91s15 :: .inBlock 1 :: .code c91k7 :: .inLoop c91l6 :: .inBlock 0 :: .code c91s5 :: []) ⟨mk 36 [(0, x0), (1, x1), (5, x5), (6, x6), (9, x9), (10, x10), (11, x11)], rows, low⟩ r
theorem jc91s15 : Ex F cx (.code c91s15 :: .inBlock 1 :: .code c91k7 :: .inLoop c91l6 :: .inBlock 0 :: .code c91s5 :: []) ⟨mk 36 l, rows, low⟩ r ↔ Jc91s15 F cx (lk l 0) (lk l 1) (lk l 5) (lk l 6) (lk l 9) (lk l 10) (lk l 11) rows low r := Ex_canon (keep := [0, 1, 5, 6, 9, 10, 11]) (by kernel_rfl)
def Jc91s21 (F : Nat → Option IFn) (cx : Ctx) (x0 x1 x9 x10 x11 : AV) (rows : List Row) (low : Nat) (r : AV × List Row × Nat → Prop) : Prop := Ex F cx (.code c91s21 :: .inLoop c91l6 :: .inBlock 0 :: .code c91s5 :: []) ⟨mk 36 [(0, x0), (1, x1), (9, x9), (10, x10), (11, x11)], rows, low⟩ r
theorem jc91s21 : Ex F cx (.code c91s21 :: .inLoop c91l6 :: .inBlock 0 :: .code c91s5 :: []) ⟨mk 36 l, rows, low⟩ r ↔ Jc91s21 F cx (lk l 0) (lk l 1) (lk l 9) (lk l 10) (lk l 11) rows low r := Ex_canon (keep := [0, 1, 9, 10, 11]) (by kernel_rfl)
def Lc91l6 (F : Nat → Option IFn) (cx : Ctx) (x0 x1 x9 x10 x11 : AV) (rows : List Row) (low : Nat) (r : AV × List Row × Nat → Prop) : Prop := Ex F cx (.code c91l6 :: .inLoop c91l6 :: .inBlock 0 :: .code c91s5 :: []) ⟨mk 36 [(0, x0), (1, x1), (9, x9), (10, x10), (11, x11)], rows, low⟩ r
@[simp] theorem nc91l6 : Ex F cx (.inLoop c91l6 :: .inBlock 0 :: .code c91s5 :: []) ⟨mk 36 l, rows, low⟩ r ↔ Lc91l6 F cx (lk l 0) (lk l 1) (lk l 9) (lk l 10) (lk l 11) rows low r := loopN (keep := [0, 1, 9, 10, 11]) (by kernel_rfl)
@[simp] theorem ec91l6 : Ex F cx (.code (.loop c91l6) :: .inBlock 0 :: .code c91s5 :: []) ⟨mk 36 l, rows, low⟩ r ↔ Lc91l6 F cx (lk l 0) (lk l 1) (lk l 9) (lk l 10) (lk l 11) rows low r := loopE (keep := [0, 1, 9, 10, 11]) (by kernel_rfl)
@[simp] theorem uc91l6 : Ex F cx (.code c91l6 :: k) s r ↔ Ex F cx (.code (.seq c91k23 c91s22) :: k) s r := Iff.rfl
def c91b : ICode := (.seq c91k27 c91s26)
@[simp] theorem uc91b : Ex F cx (.code c91b :: k) s r ↔ Ex F cx (.code (.seq c91k27 c91s26) :: k) s r := Iff.rfl
def c91 : IFn := ⟨36, [.t 4], c91b⟩
def h91 : List (Nat × List Nat) := [(0, dead 36 [0, 1]), (1, dead 36 [0, 1]), (2, dead 36 [0, 1, 9, 10, 11]), (3, dead 36 [0, 1, 9, 10, 11]), (4, dead 36 [0, 1, 5, 6, 9, 10, 11]), (5, dead 36 []), (6, dead 36 [0, 1, 5, 6, 9, 10, 11]), (7, dead 36 [0, 1, 6, 7, 9, 10, 11]), (8, dead 36 [0, 1, 8, 9, 10, 11]), (9, dead 36 [8]), (10, dead 36 [0, 1, 9, 10, 11]), (11, dead 36 [0, 1]), (12, dead 36 []), (13, dead 36 [])]
theorem i91 {x0 x1 : AV} (hF : F 91 = some c91) {q : AV × List Row × Option Nat} (h : Ex F (.fn [.t 4]) [.code c91b] ⟨mk 36 [(0, x0), (1, x1)], rows, rows.length⟩ fun r => fin rows r.1 r.2.1 r.2.2 = q) : Ret F 91 [x0, x1] rows = some q := Ret_mk hF h
/-! math/bits.TrailingZeros -/
def c92r0 : List Seg := [
  .one ⟨some 6, .mv (.t 0), none⟩,
  .one ⟨some 7, .call (.c (.func 101 [])) [(.t 6)], none⟩,
  .one ⟨some 2, .mv (.t 7), none⟩]
def c92k0 : ICode := .kill (dead 8 [0]) (.ops c92r0)
@[simp] theorem uc92k0 : Ex F cx (.code c92k0 :: k) ⟨mk 8 l, rows, low⟩ r ↔ bnd (Ret F 101 [lk l 0] rows) fun q0 => Ex F cx k ⟨mk 8 [(2, q0.1), (7, q0.1), (6, lk l 0), (0, lk l 0)], q0.2.1, (lowO low q0.2.2)⟩ r := reg (keep := [0]) (ops := c92r0) rfl (by kernel_rfl) (by kernel_rfl)
def c92s1 : ICode := (.seq c92k0 .ret)
@[simp] theorem uc92s1 : Ex F cx (.code c92s1 :: k) s r ↔ Ex F cx (.code (.seq c92k0 .ret) :: k) s r := Iff.rfl
def c92r2 : List Seg := [
  .one ⟨some 3, .mv (.t 0), none⟩,
  .one ⟨some 4, .conv .u32 (.t 3), none⟩,
  .one ⟨some 5, .call (.c (.func 100 [])) [(.t 4)], none⟩,
  .one ⟨some 2, .mv (.t 5), none⟩]
def c92k2 : ICode := .kill (dead 8 [0]) (.ops c92r2)
@[simp] theorem uc92k2 : Ex F cx (.code c92k2 :: k) ⟨mk 8 l, rows, low⟩ r ↔ bnd (evP rows (.conv .u32 (.c (lk l 0)))) fun v0 => bnd (Ret F 100 [v0] rows) fun q1 => Ex F cx k ⟨mk 8 [(2, q1.1), (5, q1.1), (4, v0), (3, lk l 0), (0, lk l 0)], q1.2.1, (lowO low q1.2.2)⟩ r := reg (keep := [0]) (ops := c92r2) rfl (by kernel_rfl) (by kernel_rfl)
def c92s3 : ICode := (.seq (.cond (.c (.bool false)) (.seq c92k2 .ret) .skip) c92s1)
@[simp] theorem uc92s3 : Ex F cx (.code c92s3 :: k) s r ↔ Ex F cx (.code (.seq (.cond (.c (.bool false)) (.seq c92k2 .ret) .skip) c92s1) :: k) s r := Iff.rfl
def c92r4 : List Seg := [
  .one ⟨some 2, .mv (.c (.int .i64 0)), none⟩]
def c92k4 : ICode := .kill (dead 8 [0]) (.ops c92r4)
@[simp] theorem uc92k4 : Ex F cx (.code c92k4 :: k) ⟨mk 8 l, rows, low⟩ r ↔ Ex F cx k ⟨mk 8 [(2, (.int .i64 0)), (0, lk l 0)], rows, low⟩ r := reg (keep := [0]) (ops := c92r4) rfl (by kernel_rfl) (by kernel_rfl)
def Jc92s1 (F : Nat → Option IFn) (cx : Ctx) (x0 : AV) (rows : List Row) (low : Nat) (r : AV × List Row × Nat → Prop) : Prop := Ex F cx (.code c92s1 :: []) ⟨mk 8 [(0, x0)], rows, low⟩ r
theorem jc92s1 : Ex F cx (.code c92s1 :: []) ⟨mk 8 l, rows, low⟩ r ↔ Jc92s1 F cx (lk l 0) rows low r := Ex_canon (keep := [0]) (by kernel_rfl)
def c92b : ICode := (.seq c92k4 c92s3)
@[simp] theorem uc92b : Ex F cx (.code c92b :: k) s r ↔ Ex F cx (.code (.seq c92k4 c92s3) :: k) s r := Iff.rfl
def c92 : IFn := ⟨8, [.t 2], c92b⟩
def h92 : List (Nat × List Nat) := [(0, dead 8 [0]), (1, dead 8 [0]), (2, dead 8 [0])]
theorem i92 {x0 : AV} (hF : F 92 = some c92) {q : AV × List Row × Option Nat} (h : Ex F (.fn [.t 2]) [.code c92b] ⟨mk 8 [(0, x0)], rows, rows.length⟩ fun r => fin rows r.1 r.2.1 r.2.2 = q) : Ret F 92 [x0] rows = some q := Ret_mk hF h
/-! tosher/search.least[int] -/
def c93r0 : List Seg := [
  .one ⟨some 9, .mv (.t 0), none⟩,
  .one ⟨some 4, .mv (.t 9), none⟩]
def c93k0 : ICode := .kill (dead 10 [0]) (.ops c93r0)
@[simp] theorem uc93k0 : Ex F cx (.code c93k0 :: k) ⟨mk 10 l, rows, low⟩ r ↔ Ex F cx k ⟨mk 10 [(4, lk l 0), (9, lk l 0), (0, lk l 0)], rows, low⟩ r := reg (keep := [0]) (ops := c93r0) rfl (by kernel_rfl) (by kernel_rfl)
def c93s1 : ICode := (.seq c93k0 .ret)
@[simp] theorem uc93s1 : Ex F cx (.code c93s1 :: k) s r ↔ Ex F cx (.code (.seq c93k0 .ret) :: k) s r := Iff.rfl
def c93r2 : List Seg := [
  .one ⟨some 8, .mv (.t 1), none⟩,
  .one ⟨some 4, .mv (.t 8), none⟩]
def c93k2 : ICode := .kill (dead 10 [1]) (.ops c93r2)
@[simp] theorem uc93k2 : Ex F cx (.code c93k2 :: k) ⟨mk 10 l, rows, low⟩ r ↔ Ex F cx k ⟨mk 10 [(4, lk l 1), (8, lk l 1), (1, lk l 1)], rows, low⟩ r := reg (keep := [1]) (ops := c93r2) rfl (by kernel_rfl) (by kernel_rfl)
def c93s3 : ICode := (.cond (.t 7) (.seq c93k2 .ret) .skip)
@[simp] theorem uc93s3 : Ex F cx (.code c93s3 :: k) s r ↔ Ex F cx (.code (.cond (.t 7) (.seq c93k2 .ret) .skip) :: k) s r := Iff.rfl
def c93r4 : List Seg := [
  .one ⟨some 5, .mv (.t 1), none⟩,
  .one ⟨some 6, .mv (.t 0), none⟩,
  .one ⟨some 7, .bin .lss (.t 5) (.t 6), none⟩]
def c93k4 : ICode := .kill (dead 10 [0, 1]) (.ops c93r4)
@[simp] theorem uc93k4 : Ex F cx (.code c93k4 :: k) ⟨mk 10 l, rows, low⟩ r ↔ bnd (evP rows (.bin .lss (.c (lk l 1)) (.c (lk l 0)))) fun v0 => Ex F cx k ⟨mk 10 [(7, v0), (6, lk l 0), (5, lk l 1), (0, lk l 0), (1, lk l 1)], rows, low⟩ r := reg (keep := [0, 1]) (ops := c93r4) rfl (by kernel_rfl) (by kernel_rfl)
def c93s5 : ICode := (.seq (.seq c93k4 c93s3) c93s1)
@[simp] theorem uc93s5 : Ex F cx (.code c93s5 :: k) s r ↔ Ex F cx (.code (.seq (.seq c93k4 c93s3) c93s1) :: k) s r := Iff.rfl
def c93r6 : List Seg := [
  .one ⟨some 4, .mv (.c (.int .i64 0)), none⟩]
def c93k6 : ICode := .kill (dead 10 [0, 1]) (.ops c93r6)
@[simp] theorem uc93k6 : Ex F cx (.code c93k6 :: k) ⟨mk 10 l, rows, low⟩ r ↔ Ex F cx k ⟨mk 10 [(4, (.int .i64 0)), (0, lk l 0), (1, lk l 1)], rows, low⟩ r := reg (keep := [0, 1]) (ops := c93r6) rfl (by kernel_rfl) (by kernel_rfl)
def Jc93s1 (F : Nat → Option IFn) (cx : Ctx) (x0 : AV) (rows : List Row) (low : Nat) (r : AV × List Row × Nat → Prop) : Prop := Ex F cx (.code c93s1 :: []) ⟨mk 10 [(0, x0)], rows, low⟩ r
theorem jc93s1 : Ex F cx (.code c93s1 :: []) ⟨mk 10 l, rows, low⟩ r ↔ Jc93s1 F cx (lk l 0) rows low r := Ex_canon (keep := [0]) (by kernel_rfl)
def c93b : ICode := (.seq c93k6 c93s5)
@[simp] theorem uc93b : Ex F cx (.code c93b :: k) s r ↔ Ex F cx (.code (.seq c93k6 c93s5) :: k) s r := Iff.rfl
def c93 : IFn := ⟨10, [.t 4], c93b⟩
def h93 : List (Nat × List Nat) := [(0, dead 10 [0, 1]), (1, dead 10 [0, 1]), (2, dead 10 [1]), (3, dead 10 [0])]
theorem i93 {x0 x1 : AV} (hF : F 93 = some c93) {q : AV × List Row × Option Nat} (h : Ex F (.fn [.t 4]) [.code c93b] ⟨mk 10 [(0, x0), (1, x1)], rows, rows.length⟩ fun r => fin rows r.1 r.2.1 r.2.2 = q) : Ret F 93 [x0, x1] rows = some q := Ret_mk hF h
/-! math/bits.OnesCount32 -/
def c94r0 : List Seg := [
  .grp [(⟨some 3, .mv (.t 0), none⟩, 0), (⟨some 4, .bin .shr (.t 3) (.c (.int .u64 24)), none⟩, 1), (⟨some 5, .bad, none⟩, 3), (⟨some 6, .mv (.t 0), none⟩, 0), (⟨some 7, .bin .shr (.t 6) (.c (.int .u64 16)), none⟩, 8), (⟨some 8, .bin .and (.t 7) (.c (.int .u32 255)), none⟩, 24), (⟨some 9, .bad, none⟩, 56), (⟨some 10, .bin .add (.t 5) (.t 9), none⟩, 127), (⟨some 11, .mv (.t 0), none⟩, 0), (⟨some 12, .bin .shr (.t 11) (.c (.int .u64 8)), none⟩, 256), (⟨some 13, .bin .and (.t 12) (.c (.int .u32 255)), none⟩, 768), (⟨some 14, .bad, none⟩, 1792), (⟨some 15, .bin .add (.t 10) (.t 14), none⟩, 4095), (⟨some 16, .mv (.t 0), none⟩, 0), (⟨some 17, .bin .and (.t 16) (.c (.int .u32 255)), none⟩, 8192), (⟨some 18, .bad, none⟩, 24576)],
  .one ⟨some 19, .bin .add (.t 15) (.t 18), none⟩,
  .one ⟨some 20, .conv .i64 (.t 19), none⟩,
  .one ⟨some 2, .mv (.t 20), none⟩]
def c94k0 : ICode := .kill (dead 21 [0]) (.ops c94r0)
@[simp] theorem uc94k0 : Ex F cx (.code c94k0 :: k) ⟨mk 21 l, rows, low⟩ r ↔ bnd (evP (rows ++ maskE 1 ([] : List (Nat × Row))) (.bin .shr (.c (lk l 0)) (.c (.int .u64 24)))) fun v0 => bnd (evE (rows ++ maskE 3 ([] : List (Nat × Row))) (rows.length + ([] : List (Nat × Row)).length) (.bad)) fun q1 => q1.2.2 = rows.length + ([] : List (Nat × Row)).length ∧ bnd (some (([] : List (Nat × Row)) ++ List.map (fun (x : Row) => (2, x)) (q1.2.1.drop (rows.length + ([] : List (Nat × Row)).length)))) fun e1 => bnd (evP (rows ++ maskE 8 e1) (.bin .shr (.c (lk l 0)) (.c (.int .u64 16)))) fun v2 => bnd (evP (rows ++ maskE 24 e1) (.bin .and (.c v2) (.c (.int .u32 255)))) fun v3 => bnd (evE (rows ++ maskE 56 e1) (rows.length + e1.length) (.bad)) fun q4 => q4.2.2 = rows.length + e1.length ∧ bnd (some (e1 ++ List.map (fun (x : Row) => (6, x)) (q4.2.1.drop (rows.length + e1.length)))) fun e4 => bnd (evP (rows ++ maskE 127 e4) (.bin .add (.c q1.1) (.c q4.1))) fun v5 => bnd (evP (rows ++ maskE 256 e4) (.bin .shr (.c (lk l 0)) (.c (.int .u64 8)))) fun v6 => bnd (evP (rows ++ maskE 768 e4) (.bin .and (.c v6) (.c (.int .u32 255)))) fun v7 => bnd (evE (rows ++ maskE 1792 e4) (rows.length + e4.length) (.bad)) fun q8 => q8.2.2 = rows.length + e4.length ∧ bnd (some (e4 ++ List.map (fun (x : Row) => (11, x)) (q8.2.1.drop (rows.length + e4.length)))) fun e8 => bnd (evP (rows ++ maskE 4095 e8) (.bin .add (.c v5) (.c q8.1))) fun v9 => bnd (evP (rows ++ maskE 8192 e8) (.bin .and (.c (lk l 0)) (.c (.int .u32 255)))) fun v10 => bnd (evE (rows ++ maskE 24576 e8) (rows.length + e8.length) (.bad)) fun q11 => q11.2.2 = rows.length + e8.length ∧ bnd (some (e8 ++ List.map (fun (x : Row) => (15, x)) (q11.2.1.drop (rows.length + e8.length)))) fun e11 => bnd (evP (rows ++ List.map (fun (x : Nat × Row) => x.2) e11) (.bin .add (.c v9) (.c q11.1))) fun v12 => bnd (evP (rows ++ List.map (fun (x : Nat × Row) => x.2) e11) (.conv .i64 (.c v12))) fun v13 => Ex F cx k ⟨mk 21 [(2, v13), (20, v13), (19, v12), (18, q11.1), (17, v10), (16, lk l 0), (15, v9), (14, q8.1), (13, v7), (12, v6), (11, lk l 0), (10, v5), (9, q4.1), (8, v3), (7, v2), (6, lk l 0), (5, q1.1), (4, v0), (3, lk l 0), (0, lk l 0)], (rows ++ List.map (fun (x : Nat × Row) => x.2) e11), low⟩ r := reg (keep := [0]) (ops := c94r0) rfl (by kernel_rfl) (by kernel_rfl)
def c94s1 : ICode := (.seq c94k0 .ret)
@[simp] theorem uc94s1 : Ex F cx (.code c94s1 :: k) s r ↔ Ex F cx (.code (.seq c94k0 .ret) :: k) s r := Iff.rfl
def c94r2 : List Seg := [
  .one ⟨some 2, .mv (.c (.int .i64 0)), none⟩]
def c94k2 : ICode := .kill (dead 21 [0]) (.ops c94r2)
@[simp] theorem uc94k2 : Ex F cx (.code c94k2 :: k) ⟨mk 21 l, rows, low⟩ r ↔ Ex F cx k ⟨mk 21 [(2, (.int .i64 0)), (0, lk l 0)], rows, low⟩ r := reg (keep := [0]) (ops := c94r2) rfl (by kernel_rfl) (by kernel_rfl)
def c94b : ICode := (.seq c94k2 c94s1)
@[simp] theorem uc94b : Ex F cx (.code c94b :: k) s r ↔ Ex F cx (.code (.seq c94k2 c94s1) :: k) s r := Iff.rfl
def c94 : IFn := ⟨21, [.t 2], c94b⟩
def h94 : List (Nat × List Nat) := [(0, dead 21 [0]), (1, dead 21 [0])]
theorem i94 {x0 : AV} (hF : F 94 = some c94) {q : AV × List Row × Option Nat} (h : Ex F (.fn [.t 2]) [.code c94b] ⟨mk 21 [(0, x0)], rows, rows.length⟩ fun r => fin rows r.1 r.2.1 r.2.2 = q) : Ret F 94 [x0] rows = some q := Ret_mk hF h
/-! math/bits.OnesCount64 -/
def c95r0 : List Seg := [
  .one ⟨some 32, .mv (.t 0), none⟩,
  .one ⟨some 33, .conv .i64 (.t 32), none⟩,
  .one ⟨some 34, .bin .and (.t 33) (.c (.int .i64 127)), none⟩,
  .one ⟨some 2, .mv (.t 34), none⟩]
def c95k0 : ICode := .kill (dead 35 [0]) (.ops c95r0)
@[simp] theorem uc95k0 : Ex F cx (.code c95k0 :: k) ⟨mk 35 l, rows, low⟩ r ↔ bnd (evP rows (.conv .i64 (.c (lk l 0)))) fun v0 => bnd (evP rows (.bin .and (.c v0) (.c (.int .i64 127)))) fun v1 => Ex F cx k ⟨mk 35 [(2, v1), (34, v1), (33, v0), (32, lk l 0), (0, lk l 0)], rows, low⟩ r := reg (keep := [0]) (ops := c95r0) rfl (by kernel_rfl) (by kernel_rfl)
def c95s1 : ICode := (.seq c95k0 .ret)
@[simp] theorem uc95s1 : Ex F cx (.code c95s1 :: k) s r ↔ Ex F cx (.code (.seq c95k0 .ret) :: k) s r := Iff.rfl
def c95r2 : List Seg := [
  .one ⟨some 28, .mv (.t 0), none⟩,
  .one ⟨some 29, .mv (.t 0), none⟩,
  .one ⟨some 30, .bin .shr (.t 29) (.c (.int .u64 32)), none⟩,
  .one ⟨some 31, .bin .add (.t 28) (.t 30), none⟩,
  .one ⟨some 0, .mv (.t 31), none⟩]
def c95k2 : ICode := .kill (dead 35 [0]) (.ops c95r2)
@[simp] theorem uc95k2 : Ex F cx (.code c95k2 :: k) ⟨mk 35 l, rows, low⟩ r ↔ bnd (evP rows (.bin .shr (.c (lk l 0)) (.c (.int .u64 32)))) fun v0 => bnd (evP rows (.bin .add (.c (lk l 0)) (.c v0))) fun v1 => Ex F cx k ⟨mk 35 [(0, v1), (31, v1), (30, v0), (29, lk l 0), (28, lk l 0), (0, lk l 0)], rows, low⟩ r := reg (keep := [0]) (ops := c95r2) rfl (by kernel_rfl) (by kernel_rfl)
def c95s3 : ICode := (.seq c95k2 c95s1)
@[simp] theorem uc95s3 : Ex F cx (.code c95s3 :: k) s r ↔ Ex F cx (.code (.seq c95k2 c95s1) :: k) s r := Iff.rfl
def c95r4 : List Seg := [
  .one ⟨some 24, .mv (.t 0), none⟩,
  .one ⟨some 25, .mv (.t 0), none⟩,
  .one ⟨some 26, .bin .shr (.t 25) (.c (.int .u64 16)), none⟩,
  .one ⟨some 27, .bin .add (.t 24) (.t 26), none⟩,
  .one ⟨some 0, .mv (.t 27), none⟩]
def c95k4 : ICode := .kill (dead 35 [0]) (.ops c95r4)
@[simp] theorem uc95k4 : Ex F cx (.code c95k4 :: k) ⟨mk 35 l, rows, low⟩ r ↔ bnd (evP rows (.bin .shr (.c (lk l 0)) (.c (.int .u64 16)))) fun v0 => bnd (evP rows (.bin .add (.c (lk l 0)) (.c v0))) fun v1 => Ex F cx k ⟨mk 35 [(0, v1), (27, v1), (26, v0), (25, lk l 0), (24, lk l 0), (0, lk l 0)], rows, low⟩ r := reg (keep := [0]) (ops := c95r4) rfl (by kernel_rfl) (by kernel_rfl)
def c95s5 : ICode := (.seq c95k4 c95s3)
@[simp] theorem uc95s5 : Ex F cx (.code c95s5 :: k) s r ↔ Ex F cx (.code (.seq c95k4 c95s3) :: k) s r := Iff.rfl
def c95r6 : List Seg := [
  .one ⟨some 20, .mv (.t 0), none⟩,
  .one ⟨some 21, .mv (.t 0), none⟩,
  .one ⟨some 22, .bin .shr (.t 21) (.c (.int .u64 8)), none⟩,
  .one ⟨some 23, .bin .add (.t 20) (.t 22), none⟩,
  .one ⟨some 0, .mv (.t 23), none⟩]
def c95k6 : ICode := .kill (dead 35 [0]) (.ops c95r6)
@[simp] theorem uc95k6 : Ex F cx (.code c95k6 :: k) ⟨mk 35 l, rows, low⟩ r ↔ bnd (evP rows (.bin .shr (.c (lk l 0)) (.c (.int .u64 8)))) fun v0 => bnd (evP rows (.bin .add (.c (lk l 0)) (.c v0))) fun v1 => Ex F cx k ⟨mk 35 [(0, v1), (23, v1), (22, v0), (21, lk l 0), (20, lk l 0), (0, lk l 0)], rows, low⟩ r := reg (keep := [0]) (ops := c95r6) rfl (by kernel_rfl) (by kernel_rfl)
def c95s7 : ICode := (.seq c95k6 c95s5)
@[simp] theorem uc95s7 : Ex F cx (.code c95s7 :: k) s r ↔ Ex F cx (.code (.seq c95k6 c95s5) :: k) s r := Iff.rfl
def c95r8 : List Seg := [
  .one ⟨some 15, .mv (.t 0), none⟩,
  .one ⟨some 16, .bin .shr (.t 15) (.c (.int .u64 4)), none⟩,
  .one ⟨some 17, .mv (.t 0), none⟩,
  .one ⟨some 18, .bin .add (.t 16) (.t 17), none⟩,
  .one ⟨some 19, .bin .and (.t 18) (.c (.int .u64 1085102592571150095)), none⟩,
  .one ⟨some 0, .mv (.t 19), none⟩]
def c95k8 : ICode := .kill (dead 35 [0]) (.ops c95r8)
@[simp] theorem uc95k8 : Ex F cx (.code c95k8 :: k) ⟨mk 35 l, rows, low⟩ r ↔ bnd (evP rows (.bin .shr (.c (lk l 0)) (.c (.int .u64 4)))) fun v0 => bnd (evP rows (.bin .add (.c v0) (.c (lk l 0)))) fun v1 => bnd (evP rows (.bin .and (.c v1) (.c (.int .u64 1085102592571150095)))) fun v2 => Ex F cx k ⟨mk 35 [(0, v2), (19, v2), (18, v1), (17, lk l 0), (16, v0), (15, lk l 0), (0, lk l 0)], rows, low⟩ r := reg (keep := [0]) (ops := c95r8) rfl (by kernel_rfl) (by kernel_rfl)
def c95s9 : ICode := (.seq c95k8 c95s7)
@[simp] theorem uc95s9 : Ex F cx (.code c95s9 :: k) s r ↔ Ex F cx (.code (.seq c95k8 c95s7) :: k) s r := Iff.rfl
def c95r10 : List Seg := [
  .one ⟨some 9, .mv (.t 0), none⟩,
  .one ⟨some 10, .bin .shr (.t 9) (.c (.int .u64 2)), none⟩,
  .one ⟨some 11, .bin .and (.t 10) (.c (.int .u64 3689348814741910323)), none⟩,
  .one ⟨some 12, .mv (.t 0), none⟩,
  .one ⟨some 13, .bin .and (.t 12) (.c (.int .u64 3689348814741910323)), none⟩,
  .one ⟨some 14, .bin .add (.t 11) (.t 13), none⟩,
  .one ⟨some 0, .mv (.t 14), none⟩]
def c95k10 : ICode := .kill (dead 35 [0]) (.ops c95r10)
@[simp] theorem uc95k10 : Ex F cx (.code c95k10 :: k) ⟨mk 35 l, rows, low⟩ r ↔ bnd (evP rows (.bin .shr (.c (lk l 0)) (.c (.int .u64 2)))) fun v0 => bnd (evP rows (.bin .and (.c v0) (.c (.int .u64 3689348814741910323)))) fun v1 => bnd (evP rows (.bin .and (.c (lk l 0)) (.c (.int .u64 3689348814741910323)))) fun v2 => bnd (evP rows (.bin .add (.c v1) (.c v2))) fun v3 => Ex F cx k ⟨mk 35 [(0, v3), (14, v3), (13, v2), (12, lk l 0), (11, v1), (10, v0), (9, lk l 0), (0, lk l 0)], rows, low⟩ r := reg (keep := [0]) (ops := c95r10) rfl (by kernel_rfl) (by kernel_rfl)
def c95s11 : ICode := (.seq c95k10 c95s9)
@[simp] theorem uc95s11 : Ex F cx (.code c95s11 :: k) s r ↔ Ex F cx (.code (.seq c95k10 c95s9) :: k) s r := Iff.rfl
def c95r12 : List Seg := [
  .one ⟨some 3, .mv (.t 0), none⟩,
  .one ⟨some 4, .bin .shr (.t 3) (.c (.int .u64 1)), none⟩,
  .one ⟨some 5, .bin .and (.t 4) (.c (.int .u64 6148914691236517205)), none⟩,
  .one ⟨some 6, .mv (.t 0), none⟩,
  .one ⟨some 7, .bin .and (.t 6) (.c (.int .u64 6148914691236517205)), none⟩,
  .one ⟨some 8, .bin .add (.t 5) (.t 7), none⟩,
  .one ⟨some 0, .mv (.t 8), none⟩]
def c95k12 : ICode := .kill (dead 35 [0]) (.ops c95r12)
@[simp] theorem uc95k12 : Ex F cx (.code c95k12 :: k) ⟨mk 35 l, rows, low⟩ r ↔ bnd (evP rows (.bin .shr (.c (lk l 0)) (.c (.int .u64 1)))) fun v0 => bnd (evP rows (.bin .and (.c v0) (.c (.int .u64 6148914691236517205)))) fun v1 => bnd (evP rows (.bin .and (.c (lk l 0)) (.c (.int .u64 6148914691236517205)))) fun v2 => bnd (evP rows (.bin .add (.c v1) (.c v2))) fun v3 => Ex F cx k ⟨mk 35 [(0, v3), (8, v3), (7, v2), (6, lk l 0), (5, v1), (4, v0), (3, lk l 0), (0, lk l 0)], rows, low⟩ r := reg (keep := [0]) (ops := c95r12) rfl (by kernel_rfl) (by kernel_rfl)
def c95s13 : ICode := (.seq c95k12 c95s11)
@[simp] theorem uc95s13 : Ex F cx (.code c95s13 :: k) s r ↔ Ex F cx (.code (.seq c95k12 c95s11) :: k) s r := Iff.rfl
def c95r14 : List Seg := [
  .one ⟨some 2, .mv (.c (.int .i64 0)), none⟩]
def c95k14 : ICode := .kill (dead 35 [0]) (.ops c95r14)
@[simp] theorem uc95k14 : Ex F cx (.code c95k14 :: k) ⟨mk 35 l, rows, low⟩ r ↔ Ex F cx k ⟨mk 35 [(2, (.int .i64 0)), (0, lk l 0)], rows, low⟩ r := reg (keep := [0]) (ops := c95r14) rfl (by kernel_rfl) (by kernel_rfl)
def c95b : ICode := (.seq c95k14 c95s13)
@[simp] theorem uc95b : Ex F cx (.code c95b :: k) s r ↔ Ex F cx (.code (.seq c95k14 c95s13) :: k) s r := Iff.rfl
def c95 : IFn := ⟨35, [.t 2], c95b⟩
def h95 : List (Nat × List Nat) := [(0, dead 35 [0]), (1, dead 35 [0]), (2, dead 35 [0]), (3, dead 35 [0]), (4, dead 35 [0]), (5, dead 35 [0]), (6, dead 35 [0]), (7, dead 35 [0])]
theorem i95 {x0 : AV} (hF : F 95 = some c95) {q : AV × List Row × Option Nat} (h : Ex F (.fn [.t 2]) [.code c95b] ⟨mk 35 [(0, x0)], rows, rows.length⟩ fun r => fin rows r.1 r.2.1 r.2.2 = q) : Ret F 95 [x0] rows = some q := Ret_mk hF h
/-! slices.IndexFunc[[]int,int] -/
def c96r0 : List Seg := [
  .one ⟨some 4, .mv (.c (.int .i64 (-1))), none⟩]
def c96k0 : ICode := .kill (dead 19 []) (.ops c96r0)
@[simp] theorem uc96k0 : Ex F cx (.code c96k0 :: k) ⟨mk 19 l, rows, low⟩ r ↔ Ex F cx k ⟨mk 19 [(4, (.int .i64 (-1)))], rows, low⟩ r := reg (keep := []) (ops := c96r0) rfl (by kernel_rfl) (by kernel_rfl)
def c96s1 : ICode := (.seq c96k0 .ret)
@[simp] theorem uc96s1 : Ex F cx (.code c96s1 :: k) s r ↔ Ex F cx (.code (.seq c96k0 .ret) :: k) s r := Iff.rfl
def c96r3 : List Seg := [
  .one ⟨some 18, .bin .add (.t 8) (.c (.int .i64 1)), none⟩,
  .one ⟨some 8, .mv (.t 18), none⟩]
def c96k3 : ICode := .kill (dead 19 [0, 1, 7, 8]) (.ops c96r3)
@[simp] theorem uc96k3 : Ex F cx (.code c96k3 :: k) ⟨mk 19 l, rows, low⟩ r ↔ bnd (evP rows (.bin .add (.c (lk l 8)) (.c (.int .i64 1)))) fun v0 => Ex F cx k ⟨mk 19 [(8, v0), (18, v0), (0, lk l 0), (1, lk l 1), (7, lk l 7), (8, lk l 8)], rows, low⟩ r := reg (keep := [0, 1, 7, 8]) (ops := c96r3) rfl (by kernel_rfl) (by kernel_rfl)
def c96r4 : List Seg := [
  .one ⟨some 17, .mv (.t 5), none⟩,
  .one ⟨some 4, .mv (.t 17), none⟩]
def c96k4 : ICode := .kill (dead 19 [5]) (.ops c96r4)
@[simp] theorem uc96k4 : Ex F cx (.code c96k4 :: k) ⟨mk 19 l, rows, low⟩ r ↔ Ex F cx k ⟨mk 19 [(4, lk l 5), (17, lk l 5), (5, lk l 5)], rows, low⟩ r := reg (keep := [5]) (ops := c96r4) rfl (by kernel_rfl) (by kernel_rfl)
def c96s5 : ICode := (.cond (.t 16) (.seq c96k4 .ret) .skip)
@[simp] theorem uc96s5 : Ex F cx (.code c96s5 :: k) s r ↔ Ex F cx (.code (.cond (.t 16) (.seq c96k4 .ret) .skip) :: k) s r := Iff.rfl
def c96r6 : List Seg := [
  .one ⟨some 11, .mv (.t 1), none⟩,
  .one ⟨some 12, .mv (.t 0), none⟩,
  .one ⟨some 13, .mv (.t 5), none⟩,
  .one ⟨some 14, .idxS 1 (.t 12) (.t 13), none⟩,
  .one ⟨some 15, .load1 (.t 14), none⟩,
  .one ⟨some 16, .call (.t 11) [(.t 15)], none⟩]
def c96k6 : ICode := .kill (dead 19 [0, 1, 5, 7, 8]) (.ops c96r6)
@[simp] theorem uc96k6 : Ex F cx (.code c96k6 :: k) ⟨mk 19 l, rows, low⟩ r ↔ bnd (evP rows (.idxS 1 (.c (lk l 0)) (.c (lk l 5)))) fun v0 => bnd (evP rows (.load1 (.c v0))) fun v1 => callK F rows low [v1] (fun v2 R2 L2 => Ex F cx k ⟨mk 19 [(16, v2), (15, v1), (14, v0), (13, lk l 5), (12, lk l 0), (11, lk l 1), (0, lk l 0), (1, lk l 1), (5, lk l 5), (7, lk l 7), (8, lk l 8)], R2, L2⟩ r) (lk l 1) := reg (keep := [0, 1, 5, 7, 8]) (ops := c96r6) rfl (by kernel_rfl) (by kernel_rfl)
def c96s7 : ICode := (.seq c96k6 c96s5)
@[simp] theorem uc96s7 : Ex F cx (.code c96s7 :: k) s r ↔ Ex F cx (.code (.seq c96k6 c96s5) :: k) s r := Iff.rfl
def c96r8 : List Seg := [
  .one ⟨some 10, .mv (.t 8), none⟩,
  .one ⟨some 5, .mv (.t 10), none⟩]
def c96k8 : ICode := .kill (dead 19 [0, 1, 7, 8]) (.ops c96r8)
@[simp] theorem uc96k8 : Ex F cx (.code c96k8 :: k) ⟨mk 19 l, rows, low⟩ r ↔ Ex F cx k ⟨mk 19 [(5, lk l 8), (10, lk l 8), (0, lk l 0), (1, lk l 1), (7, lk l 7), (8, lk l 8)], rows, low⟩ r := reg (keep := [0, 1, 7, 8]) (ops := c96r8) rfl (by kernel_rfl) (by kernel_rfl)
def c96s9 : ICode := (.seq (.block 1 (.seq c96k8 c96s7)) c96k3)
@[simp] theorem uc96s9 : Ex F cx (.code c96s9 :: k) s r ↔ Ex F cx (.code (.seq (.block 1 (.seq c96k8 c96s7)) c96k3) :: k) s r := Iff.rfl
def c96s10 : ICode := (.seq (.cond (.t 9) .skip (.exit 0)) c96s9)
@[simp] theorem uc96s10 : Ex F cx (.code c96s10 :: k) s r ↔ Ex F cx (.code (.seq (.cond (.t 9) .skip (.exit 0)) c96s9) :: k) s r := Iff.rfl
def c96r11 : List Seg := [
  .one ⟨some 9, .bin .lss (.t 8) (.t 7), none⟩]
def c96k11 : ICode := .kill (dead 19 [0, 1, 7, 8]) (.ops c96r11)
@[simp] theorem uc96k11 : Ex F cx (.code c96k11 :: k) ⟨mk 19 l, rows, low⟩ r ↔ bnd (evP rows (.bin .lss (.c (lk l 8)) (.c (lk l 7)))) fun v0 => Ex F cx k ⟨mk 19 [(9, v0), (0, lk l 0), (1, lk l 1), (7, lk l 7), (8, lk l 8)], rows, low⟩ r := reg (keep := [0, 1, 7, 8]) (ops := c96r11) rfl (by kernel_rfl) (by kernel_rfl)
def c96l2 : ICode := (.seq c96k11 c96s10)
def c96s12 : ICode := (.block 0 (.loop c96l2))
@[simp] theorem uc96s12 : Ex F cx (.code c96s12 :: k) s r ↔ Ex F cx (.code (.block 0 (.loop c96l2)) :: k) s r := Iff.rfl
def c96r13 : List Seg := [
  .one ⟨some 6, .mv (.t 0), none⟩,
  .one ⟨some 7, .len 0 (.t 6), none⟩,
  .one ⟨some 8, .mv (.c (.int .i64 0)), none⟩]
def c96k13 : ICode := .kill (dead 19 [0, 1]) (.ops c96r13)
@[simp] theorem uc96k13 : Ex F cx (.code c96k13 :: k) ⟨mk 19 l, rows, low⟩ r ↔ bnd (evP rows (.len 0 (.c (lk l 0)))) fun v0 => Ex F cx k ⟨mk 19 [(8, (.int .i64 0)), (7, v0), (6, lk l 0), (0, lk l 0), (1, lk l 1)], rows, low⟩ r := reg (keep := [0, 1]) (ops := c96r13) rfl (by kernel_rfl) (by kernel_rfl)
def c96s14 : ICode := (.seq (.seq c96k13 c96s12) c96s1)
@[simp] theorem uc96s14 : Ex F cx (.code c96s14 :: k) s r ↔ Ex F cx (.code (.seq (.seq c96k13 c96s12) c96s1) :: k) s r := Iff.rfl
def c96r15 : List Seg := [
  .one ⟨some 4, .mv (.c (.int .i64 0)), none⟩]
def c96k15 : ICode := .kill (dead 19 [0, 1]) (.ops c96r15)
@[simp] theorem uc96k15 : Ex F cx (.code c96k15 :: k) ⟨mk 19 l, rows, low⟩ r ↔ Ex F cx k ⟨mk 19 [(4, (.int .i64 0)), (0, lk l 0), (1, lk l 1)], rows, low⟩ r := reg (keep := [0, 1]) (ops := c96r15) rfl (by kernel_rfl) (by kernel_rfl)
def Jc96s9 (F : Nat → Option IFn) (cx : Ctx) (x0 x1 x7 x8 : AV) (rows : List Row) (low : Nat) (r : AV × List Row × Nat → Prop) : Prop := Ex F cx (.code c96s9 :: .inLoop c96l2 :: .inBlock 0 :: .code c96s1 :: []) ⟨mk 19 [(0, x0), (1, x1), (7, x7), (8, x8)], rows, low⟩ r
theorem jc96s9 : Ex F cx (.code c96s9 :: .inLoop c96l2 :: .inBlock 0 :: .code c96s1 :: []) ⟨mk 19 l, rows, low⟩ r ↔ Jc96s9 F cx (lk l 0) (lk l 1) (lk l 7) (lk l 8) rows low r := Ex_canon (keep := [0, 1, 7, 8]) (by kernel_rfl)
def Lc96l2 (F : Nat → Option IFn) (cx : Ctx) (x0 x1 x7 x8 : AV) (rows : List Row) (low : Nat) (r : AV × List Row × Nat → Prop) : Prop := Ex F cx (.code c96l2 :: .inLoop c96l2 :: .inBlock 0 :: .code c96s1 :: []) ⟨mk 19 [(0, x0), (1, x1), (7, x7), (8, x8)], rows, low⟩ r
@[simp] theorem nc96l2 : Ex F cx (.inLoop c96l2 :: .inBlock 0 :: .code c96s1 :: []) ⟨mk 19 l, rows, low⟩ r ↔ Lc96l2 F cx (lk l 0) (lk l 1) (lk l 7) (lk l 8) rows low r := loopN (keep := [0, 1, 7, 8]) (by kernel_rfl)
@[simp] theorem ec96l2 : Ex F cx (.code (.loop c96l2) :: .inBlock 0 :: .code c96s1 :: []) ⟨mk 19 l, rows, low⟩ r ↔ Lc96l2 F cx (lk l 0) (lk l 1) (lk l 7) (lk l 8) rows low r := loopE (keep := [0, 1, 7, 8]) (by kernel_rfl)
@[simp] theorem uc96l2 : Ex F cx (.code c96l2 :: k) s r ↔ Ex F cx (.code (.seq c96k11 c96s10) :: k) s r := Iff.rfl
def c96b : ICode := (.seq c96k15 c96s14)
@[simp] theorem uc96b : Ex F cx (.code c96b :: k) s r ↔ Ex F cx (.code (.seq c96k15 c96s14) :: k) s r := Iff.rfl
def c96 : IFn := ⟨19, [.t 4], c96b⟩
def h96 : List (Nat × List Nat) := [(0, dead 19 [0, 1]), (1, dead 19 [0, 1]), (2, dead 19 [0, 1, 7, 8]), (3, dead 19 [0, 1, 7, 8]), (4, dead 19 [0, 1, 5, 7, 8]), (5, dead 19 [5]), (6, dead 19 [0, 1, 7, 8]), (7, dead 19 [])]
theorem i96 {x0 x1 : AV} (hF : F 96 = some c96) {q : AV × List Row × Option Nat} (h : Ex F (.fn [.t 4]) [.code c96b] ⟨mk 19 [(0, x0), (1, x1)], rows, rows.length⟩ fun r => fin rows r.1 r.2.1 r.2.2 = q) : Ret F 96 [x0, x1] rows = some q := Ret_mk hF h
/-! (tosher/search.part).gates$1 -/
def c97r1 : List Seg := [
  .one ⟨some 15, .mv (.t 3), none⟩,
  .one ⟨some 16, .bin .add (.t 15) (.c (.int .i64 1)), none⟩,
  .one ⟨some 3, .mv (.t 16), none⟩]
def c97k1 : ICode := .kill (dead 17 [0, 1, 3]) (.ops c97r1)
@[simp] theorem uc97k1 : Ex F cx (.code c97k1 :: k) ⟨mk 17 l, rows, low⟩ r ↔ bnd (evP rows (.bin .add (.c (lk l 3)) (.c (.int .i64 1)))) fun v0 => Ex F cx k ⟨mk 17 [(3, v0), (16, v0), (15, lk l 3), (0, lk l 0), (1, lk l 1), (3, lk l 3)], rows, low⟩ r := reg (keep := [0, 1, 3]) (ops := c97r1) rfl (by kernel_rfl) (by kernel_rfl)
def c97s2 : ICode := (.seq (.block 1 .skip) c97k1)
@[simp] theorem uc97s2 : Ex F cx (.code c97s2 :: k) s r ↔ Ex F cx (.code (.seq (.block 1 .skip) c97k1) :: k) s r := Iff.rfl
def c97s3 : ICode := (.cond (.t 14) .skip (.exit 0))
@[simp] theorem uc97s3 : Ex F cx (.code c97s3 :: k) s r ↔ Ex F cx (.code (.cond (.t 14) .skip (.exit 0)) :: k) s r := Iff.rfl
def c97r4 : List Seg := [
  .one ⟨some 6, .mv (.t 3), none⟩,
  .one ⟨some 7, .fieldA 1 (.t 1), none⟩,
  .one ⟨some 8, .load1 (.t 7), none⟩,
  .one ⟨some 9, .bin .lss (.t 6) (.t 8), none⟩,
  .one ⟨some 10, .mv (.t 9), none⟩,
  .one ⟨some 11, .mv (.t 0), some (10, true)⟩,
  .one ⟨some 12, .mv (.t 3), some (10, true)⟩,
  .one ⟨some 13, .call (.t 11) [(.t 12)], some (10, true)⟩,
  .one ⟨some 14, .pick (.t 10) (.t 13) (.c (.bool false)), none⟩]
def c97k4 : ICode := .kill (dead 17 [0, 1, 3]) (.ops c97r4)
@[simp] theorem uc97k4 : Ex F cx (.code c97k4 :: k) ⟨mk 17 l, rows, low⟩ r ↔ bnd (evP rows (.fieldA 1 (.c (lk l 1)))) fun v0 => bnd (evP rows (.load1 (.c v0))) fun v1 => bnd (evP rows (.bin .lss (.c (lk l 3)) (.c v1))) fun v2 => bnd (gv v2 true (evP rows (.mv (.c (lk l 0))))) fun v3 => bnd (gv v2 true (evP rows (.mv (.c (lk l 3))))) fun v4 => gcall F v2 true rows low [v4] v3 fun v5 R5 L5 => bnd (evP R5 (.pick (.c v2) (.c v5) (.c (.bool false)))) fun v6 => Ex F cx k ⟨mk 17 [(14, v6), (13, v5), (12, v4), (11, v3), (10, v2), (9, v2), (8, v1), (7, v0), (6, lk l 3), (0, lk l 0), (1, lk l 1), (3, lk l 3)], R5, L5⟩ r := reg (keep := [0, 1, 3]) (ops := c97r4) rfl (by kernel_rfl) (by kernel_rfl)
def c97l0 : ICode := (.seq (.seq c97k4 c97s3) c97s2)
def c97s5 : ICode := (.block 0 (.loop c97l0))
@[simp] theorem uc97s5 : Ex F cx (.code c97s5 :: k) s r ↔ Ex F cx (.code (.block 0 (.loop c97l0)) :: k) s r := Iff.rfl
def c97r6 : List Seg := [
  .one ⟨some 4, .fieldA 0 (.t 1), none⟩,
  .one ⟨some 5, .load1 (.t 4), none⟩,
  .one ⟨some 3, .mv (.t 5), none⟩]
def c97k6 : ICode := .kill (dead 17 [0, 1]) (.ops c97r6)
@[simp] theorem uc97k6 : Ex F cx (.code c97k6 :: k) ⟨mk 17 l, rows, low⟩ r ↔ bnd (evP rows (.fieldA 0 (.c (lk l 1)))) fun v0 => bnd (evP rows (.load1 (.c v0))) fun v1 => Ex F cx k ⟨mk 17 [(3, v1), (5, v1), (4, v0), (0, lk l 0), (1, lk l 1)], rows, low⟩ r := reg (keep := [0, 1]) (ops := c97r6) rfl (by kernel_rfl) (by kernel_rfl)
def Lc97l0 (F : Nat → Option IFn) (cx : Ctx) (x0 x1 x3 : AV) (rows : List Row) (low : Nat) (r : AV × List Row × Nat → Prop) : Prop := Ex F cx (.code c97l0 :: .inLoop c97l0 :: .inBlock 0 :: []) ⟨mk 17 [(0, x0), (1, x1), (3, x3)], rows, low⟩ r
@[simp] theorem nc97l0 : Ex F cx (.inLoop c97l0 :: .inBlock 0 :: []) ⟨mk 17 l, rows, low⟩ r ↔ Lc97l0 F cx (lk l 0) (lk l 1) (lk l 3) rows low r := loopN (keep := [0, 1, 3]) (by kernel_rfl)
@[simp] theorem ec97l0 : Ex F cx (.code (.loop c97l0) :: .inBlock 0 :: []) ⟨mk 17 l, rows, low⟩ r ↔ Lc97l0 F cx (lk l 0) (lk l 1) (lk l 3) rows low r := loopE (keep := [0, 1, 3]) (by kernel_rfl)
@[simp] theorem uc97l0 : Ex F cx (.code c97l0 :: k) s r ↔ Ex F cx (.code (.seq (.seq c97k4 c97s3) c97s2) :: k) s r := Iff.rfl
def c97b : ICode := (.seq c97k6 c97s5)
@[simp] theorem uc97b : Ex F cx (.code c97b :: k) s r ↔ Ex F cx (.code (.seq c97k6 c97s5) :: k) s r := Iff.rfl
def c97 : IFn := ⟨17, [], c97b⟩
def h97 : List (Nat × List Nat) := [(0, dead 17 [0, 1]), (1, dead 17 [0, 1, 3]), (2, dead 17 [0, 1, 3])]
theorem i97 {x0 x1 : AV} (hF : F 97 = some c97) {q : AV × List Row × Option Nat} (h : Ex F (.fn []) [.code c97b] ⟨mk 17 [(0, x0), (1, x1)], rows, rows.length⟩ fun r => fin rows r.1 r.2.1 r.2.2 = q) : Ret F 97 [x0, x1] rows = some q := Ret_mk hF h
/-! slices.Grow[[]int,int] -/
def c98r0 : List Seg := [
  .one ⟨some 26, .mv (.t 0), none⟩,
  .one ⟨some 4, .mv (.t 26), none⟩]
def c98k0 : ICode := .kill (dead 27 [0]) (.ops c98r0)
@[simp] theorem uc98k0 : Ex F cx (.code c98k0 :: k) ⟨mk 27 l, rows, low⟩ r ↔ Ex F cx k ⟨mk 27 [(4, lk l 0), (26, lk l 0), (0, lk l 0)], rows, low⟩ r := reg (keep := [0]) (ops := c98r0) rfl (by kernel_rfl) (by kernel_rfl)
def c98s1 : ICode := (.seq c98k0 .ret)
@[simp] theorem uc98s1 : Ex F cx (.code c98s1 :: k) s r ↔ Ex F cx (.code (.seq c98k0 .ret) :: k) s r := Iff.rfl
def c98r2 : List Seg := [
  .one ⟨some 17, .mv (.t 0), none⟩,
  .one ⟨some 18, .mv (.t 0), none⟩,
  .one ⟨some 19, .cap (.t 18), none⟩,
  .one ⟨some 20, .sliceS 1 (.t 17) none (some (.t 19)) none, none⟩,
  .one ⟨some 21, .mv (.t 1), none⟩,
  .one ⟨some 22, .appz [.int .i64 0] (.t 20) (.t 21), none⟩,
  .one ⟨some 23, .mv (.t 0), none⟩,
  .one ⟨some 24, .len 0 (.t 23), none⟩,
  .one ⟨some 25, .sliceS 1 (.t 22) none (some (.t 24)) none, none⟩,
  .one ⟨some 0, .mv (.t 25), none⟩]
def c98k2 : ICode := .kill (dead 27 [0, 1]) (.ops c98r2)
@[simp] theorem uc98k2 : Ex F cx (.code c98k2 :: k) ⟨mk 27 l, rows, low⟩ r ↔ bnd (evP rows (.cap (.c (lk l 0)))) fun v0 => bnd (evP rows (.sliceS 1 (.c (lk l 0)) none (some (.c v0)) none)) fun v1 => bnd (evE rows low (.appz [.int .i64 0] (.c v1) (.c (lk l 1)))) fun q2 => bnd (evP q2.2.1 (.len 0 (.c (lk l 0)))) fun v3 => bnd (evP q2.2.1 (.sliceS 1 (.c q2.1) none (some (.c v3)) none)) fun v4 => Ex F cx k ⟨mk 27 [(0, v4), (25, v4), (24, v3), (23, lk l 0), (22, q2.1), (21, lk l 1), (20, v1), (19, v0), (18, lk l 0), (17, lk l 0), (0, lk l 0), (1, lk l 1)], q2.2.1, q2.2.2⟩ r := reg (keep := [0, 1]) (ops := c98r2) rfl (by kernel_rfl) (by kernel_rfl)
def c98s3 : ICode := (.cond (.t 16) c98k2 .skip)
@[simp] theorem uc98s3 : Ex F cx (.code c98s3 :: k) s r ↔ Ex F cx (.code (.cond (.t 16) c98k2 .skip) :: k) s r := Iff.rfl
def c98r4 : List Seg := [
  .one ⟨some 15, .mv (.t 1), none⟩,
  .one ⟨some 16, .bin .gtr (.t 15) (.c (.int .i64 0)), none⟩]
def c98k4 : ICode := .kill (dead 27 [0, 1]) (.ops c98r4)
@[simp] theorem uc98k4 : Ex F cx (.code c98k4 :: k) ⟨mk 27 l, rows, low⟩ r ↔ bnd (evP rows (.bin .gtr (.c (lk l 1)) (.c (.int .i64 0)))) fun v0 => Ex F cx k ⟨mk 27 [(16, v0), (15, lk l 1), (0, lk l 0), (1, lk l 1)], rows, low⟩ r := reg (keep := [0, 1]) (ops := c98r4) rfl (by kernel_rfl) (by kernel_rfl)
def c98s5 : ICode := (.seq c98k4 c98s3)
@[simp] theorem uc98s5 : Ex F cx (.code c98s5 :: k) s r ↔ Ex F cx (.code (.seq c98k4 c98s3) :: k) s r := Iff.rfl
def c98r6 : List Seg := [
  .one ⟨some 8, .mv (.t 1), none⟩,
  .one ⟨some 9, .mv (.t 0), none⟩,
  .one ⟨some 10, .cap (.t 9), none⟩,
  .one ⟨some 11, .mv (.t 0), none⟩,
  .one ⟨some 12, .len 0 (.t 11), none⟩,
  .one ⟨some 13, .bin .sub (.t 10) (.t 12), none⟩,
  .one ⟨some 14, .bin .sub (.t 8) (.t 13), none⟩,
  .one ⟨some 1, .mv (.t 14), none⟩]
def c98k6 : ICode := .kill (dead 27 [0, 1]) (.ops c98r6)
@[simp] theorem uc98k6 : Ex F cx (.code c98k6 :: k) ⟨mk 27 l, rows, low⟩ r ↔ bnd (evP rows (.cap (.c (lk l 0)))) fun v0 => bnd (evP rows (.len 0 (.c (lk l 0)))) fun v1 => bnd (evP rows (.bin .sub (.c v0) (.c v1))) fun v2 => bnd (evP rows (.bin .sub (.c (lk l 1)) (.c v2))) fun v3 => Ex F cx k ⟨mk 27 [(1, v3), (14, v3), (13, v2), (12, v1), (11, lk l 0), (10, v0), (9, lk l 0), (8, lk l 1), (0, lk l 0), (1, lk l 1)], rows, low⟩ r := reg (keep := [0, 1]) (ops := c98r6) rfl (by kernel_rfl) (by kernel_rfl)
def c98s7 : ICode := (.seq (.seq c98k6 c98s5) c98s1)
@[simp] theorem uc98s7 : Ex F cx (.code c98s7 :: k) s r ↔ Ex F cx (.code (.seq (.seq c98k6 c98s5) c98s1) :: k) s r := Iff.rfl
def c98r8 : List Seg := [
  .one ⟨some 7, .mkif 9 (.c (.str ⟨#[99, 97, 110, 110, 111, 116, 32, 98, 101, 32, 110, 101, 103, 97, 116, 105, 118, 101]⟩)), none⟩,
  .one ⟨none, .bad, none⟩]
def c98k8 : ICode := .kill (dead 27 [0, 1]) (.ops c98r8)
@[simp] theorem uc98k8 : Ex F cx (.code c98k8 :: k) ⟨mk 27 l, rows, low⟩ r ↔ bnd (evP rows (.mkif 9 (.c (.str ⟨#[99, 97, 110, 110, 111, 116, 32, 98, 101, 32, 110, 101, 103, 97, 116, 105, 118, 101]⟩)))) fun v0 => bnd (evE rows low (.bad)) fun q1 => Ex F cx k ⟨mk 27 [(7, v0), (0, lk l 0), (1, lk l 1)], q1.2.1, q1.2.2⟩ r := reg (keep := [0, 1]) (ops := c98r8) rfl (by kernel_rfl) (by kernel_rfl)
def c98s9 : ICode := (.cond (.t 6) c98k8 .skip)
@[simp] theorem uc98s9 : Ex F cx (.code c98s9 :: k) s r ↔ Ex F cx (.code (.cond (.t 6) c98k8 .skip) :: k) s r := Iff.rfl
def c98r10 : List Seg := [
  .one ⟨some 5, .mv (.t 1), none⟩,
  .one ⟨some 6, .bin .lss (.t 5) (.c (.int .i64 0)), none⟩]
def c98k10 : ICode := .kill (dead 27 [0, 1]) (.ops c98r10)
@[simp] theorem uc98k10 : Ex F cx (.code c98k10 :: k) ⟨mk 27 l, rows, low⟩ r ↔ bnd (evP rows (.bin .lss (.c (lk l 1)) (.c (.int .i64 0)))) fun v0 => Ex F cx k ⟨mk 27 [(6, v0), (5, lk l 1), (0, lk l 0), (1, lk l 1)], rows, low⟩ r := reg (keep := [0, 1]) (ops := c98r10) rfl (by kernel_rfl) (by kernel_rfl)
def c98s11 : ICode := (.seq (.seq c98k10 c98s9) c98s7)
@[simp] theorem uc98s11 : Ex F cx (.code c98s11 :: k) s r ↔ Ex F cx (.code (.seq (.seq c98k10 c98s9) c98s7) :: k) s r := Iff.rfl
def c98r12 : List Seg := [
  .one ⟨some 4, .mv (.c .nilslice), none⟩]
def c98k12 : ICode := .kill (dead 27 [0, 1]) (.ops c98r12)
@[simp] theorem uc98k12 : Ex F cx (.code c98k12 :: k) ⟨mk 27 l, rows, low⟩ r ↔ Ex F cx k ⟨mk 27 [(4, .nilslice), (0, lk l 0), (1, lk l 1)], rows, low⟩ r := reg (keep := [0, 1]) (ops := c98r12) rfl (by kernel_rfl) (by kernel_rfl)
def Jc98s1 (F : Nat → Option IFn) (cx : Ctx) (x0 : AV) (rows : List Row) (low : Nat) (r : AV × List Row × Nat → Prop) : Prop := Ex F cx (.code c98s1 :: []) ⟨mk 27 [(0, x0)], rows, low⟩ r
theorem jc98s1 : Ex F cx (.code c98s1 :: []) ⟨mk 27 l, rows, low⟩ r ↔ Jc98s1 F cx (lk l 0) rows low r := Ex_canon (keep := [0]) (by kernel_rfl)
def Jc98s7 (F : Nat → Option IFn) (cx : Ctx) (x0 x1 : AV) (rows : List Row) (low : Nat) (r : AV × List Row × Nat → Prop) : Prop := Ex F cx (.code c98s7 :: []) ⟨mk 27 [(0, x0), (1, x1)], rows, low⟩ r
theorem jc98s7 : Ex F cx (.code c98s7 :: []) ⟨mk 27 l, rows, low⟩ r ↔ Jc98s7 F cx (lk l 0) (lk l 1) rows low r := Ex_canon (keep := [0, 1]) (by kernel_rfl)
def c98b : ICode := (.seq c98k12 c98s11)
@[simp] theorem uc98b : Ex F cx (.code c98b :: k) s r ↔ Ex F cx (.code (.seq c98k12 c98s11) :: k) s r := Iff.rfl
def c98 : IFn := ⟨27, [.t 4], c98b⟩
def h98 : List (Nat × List Nat) := [(0, dead 27 [0, 1]), (1, dead 27 [0, 1]), (2, dead 27 [0, 1]), (3, dead 27 [0, 1]), (4, dead 27 [0, 1]), (5, dead 27 [0, 1]), (6, dead 27 [0])]
theorem i98 {x0 x1 : AV} (hF : F 98 = some c98) {q : AV × List Row × Option Nat} (h : Ex F (.fn [.t 4]) [.code c98b] ⟨mk 27 [(0, x0), (1, x1)], rows, rows.length⟩ fun r => fin rows r.1 r.2.1 r.2.2 = q) : Ret F 98 [x0, x1] rows = some q := Ret_mk hF h
/-! cmp.Compare[int] -/
def c99r0 : List Seg := [
  .one ⟨some 4, .mv (.c (.int .i64 0)), none⟩]
def c99k0 : ICode := .kill (dead 20 []) (.ops c99r0)
@[simp] theorem uc99k0 : Ex F cx (.code c99k0 :: k) ⟨mk 20 l, rows, low⟩ r ↔ Ex F cx k ⟨mk 20 [(4, (.int .i64 0))], rows, low⟩ r := reg (keep := []) (ops := c99r0) rfl (by kernel_rfl) (by kernel_rfl)
def c99s1 : ICode := (.seq c99k0 .ret)
@[simp] theorem uc99s1 : Ex F cx (.code c99s1 :: k) s r ↔ Ex F cx (.code (.seq c99k0 .ret) :: k) s r := Iff.rfl
def c99r2 : List Seg := [
  .one ⟨some 4, .mv (.c (.int .i64 1)), none⟩]
def c99k2 : ICode := .kill (dead 20 []) (.ops c99r2)
@[simp] theorem uc99k2 : Ex F cx (.code c99k2 :: k) ⟨mk 20 l, rows, low⟩ r ↔ Ex F cx k ⟨mk 20 [(4, (.int .i64 1))], rows, low⟩ r := reg (keep := []) (ops := c99r2) rfl (by kernel_rfl) (by kernel_rfl)
def c99s3 : ICode := (.cond (.t 19) (.seq c99k2 .ret) .skip)
@[simp] theorem uc99s3 : Ex F cx (.code c99s3 :: k) s r ↔ Ex F cx (.code (.cond (.t 19) (.seq c99k2 .ret) .skip) :: k) s r := Iff.rfl
def c99r4 : List Seg := [
  .one ⟨some 17, .mv (.t 0), none⟩,
  .one ⟨some 18, .mv (.t 1), none⟩,
  .one ⟨some 19, .bin .gtr (.t 17) (.t 18), none⟩]
def c99k4 : ICode := .kill (dead 20 [0, 1]) (.ops c99r4)
@[simp] theorem uc99k4 : Ex F cx (.code c99k4 :: k) ⟨mk 20 l, rows, low⟩ r ↔ bnd (evP rows (.bin .gtr (.c (lk l 0)) (.c (lk l 1)))) fun v0 => Ex F cx k ⟨mk 20 [(19, v0), (18, lk l 1), (17, lk l 0), (0, lk l 0), (1, lk l 1)], rows, low⟩ r := reg (keep := [0, 1]) (ops := c99r4) rfl (by kernel_rfl) (by kernel_rfl)
def c99s5 : ICode := (.seq (.seq c99k4 c99s3) c99s1)
@[simp] theorem uc99s5 : Ex F cx (.code c99s5 :: k) s r ↔ Ex F cx (.code (.seq (.seq c99k4 c99s3) c99s1) :: k) s r := Iff.rfl
def c99r6 : List Seg := [
  .one ⟨some 4, .mv (.c (.int .i64 (-1))), none⟩]
def c99k6 : ICode := .kill (dead 20 []) (.ops c99r6)
@[simp] theorem uc99k6 : Ex F cx (.code c99k6 :: k) ⟨mk 20 l, rows, low⟩ r ↔ Ex F cx k ⟨mk 20 [(4, (.int .i64 (-1)))], rows, low⟩ r := reg (keep := []) (ops := c99r6) rfl (by kernel_rfl) (by kernel_rfl)
def c99s7 : ICode := (.cond (.t 16) (.seq c99k6 .ret) .skip)
@[simp] theorem uc99s7 : Ex F cx (.code c99s7 :: k) s r ↔ Ex F cx (.code (.cond (.t 16) (.seq c99k6 .ret) .skip) :: k) s r := Iff.rfl
def c99r8 : List Seg := [
  .one ⟨some 14, .mv (.t 0), none⟩,
  .one ⟨some 15, .mv (.t 1), none⟩,
  .one ⟨some 16, .bin .lss (.t 14) (.t 15), none⟩]
def c99k8 : ICode := .kill (dead 20 [0, 1]) (.ops c99r8)
@[simp] theorem uc99k8 : Ex F cx (.code c99k8 :: k) ⟨mk 20 l, rows, low⟩ r ↔ bnd (evP rows (.bin .lss (.c (lk l 0)) (.c (lk l 1)))) fun v0 => Ex F cx k ⟨mk 20 [(16, v0), (15, lk l 1), (14, lk l 0), (0, lk l 0), (1, lk l 1)], rows, low⟩ r := reg (keep := [0, 1]) (ops := c99r8) rfl (by kernel_rfl) (by kernel_rfl)
def c99s9 : ICode := (.seq (.seq c99k8 c99s7) c99s5)
@[simp] theorem uc99s9 : Ex F cx (.code c99s9 :: k) s r ↔ Ex F cx (.code (.seq (.seq c99k8 c99s7) c99s5) :: k) s r := Iff.rfl
def c99r10 : List Seg := [
  .one ⟨some 4, .mv (.c (.int .i64 1)), none⟩]
def c99k10 : ICode := .kill (dead 20 []) (.ops c99r10)
@[simp] theorem uc99k10 : Ex F cx (.code c99k10 :: k) ⟨mk 20 l, rows, low⟩ r ↔ Ex F cx k ⟨mk 20 [(4, (.int .i64 1))], rows, low⟩ r := reg (keep := []) (ops := c99r10) rfl (by kernel_rfl) (by kernel_rfl)
def c99s11 : ICode := (.cond (.t 13) (.seq c99k10 .ret) .skip)
@[simp] theorem uc99s11 : Ex F cx (.code c99s11 :: k) s r ↔ Ex F cx (.code (.cond (.t 13) (.seq c99k10 .ret) .skip) :: k) s r := Iff.rfl
def c99r12 : List Seg := [
  .one ⟨some 13, .mv (.t 6), none⟩]
def c99k12 : ICode := .kill (dead 20 [0, 1, 6]) (.ops c99r12)
@[simp] theorem uc99k12 : Ex F cx (.code c99k12 :: k) ⟨mk 20 l, rows, low⟩ r ↔ Ex F cx k ⟨mk 20 [(13, lk l 6), (0, lk l 0), (1, lk l 1), (6, lk l 6)], rows, low⟩ r := reg (keep := [0, 1, 6]) (ops := c99r12) rfl (by kernel_rfl) (by kernel_rfl)
def c99s13 : ICode := (.seq (.seq c99k12 c99s11) c99s9)
@[simp] theorem uc99s13 : Ex F cx (.code c99s13 :: k) s r ↔ Ex F cx (.code (.seq (.seq c99k12 c99s11) c99s9) :: k) s r := Iff.rfl
def c99r14 : List Seg := [
  .one ⟨some 4, .mv (.c (.int .i64 (-1))), none⟩]
def c99k14 : ICode := .kill (dead 20 []) (.ops c99r14)
@[simp] theorem uc99k14 : Ex F cx (.code c99k14 :: k) ⟨mk 20 l, rows, low⟩ r ↔ Ex F cx k ⟨mk 20 [(4, (.int .i64 (-1)))], rows, low⟩ r := reg (keep := []) (ops := c99r14) rfl (by kernel_rfl) (by kernel_rfl)
def c99s15 : ICode := (.seq c99k14 .ret)
@[simp] theorem uc99s15 : Ex F cx (.code c99s15 :: k) s r ↔ Ex F cx (.code (.seq c99k14 .ret) :: k) s r := Iff.rfl
def c99r16 : List Seg := [
  .one ⟨some 4, .mv (.c (.int .i64 0)), none⟩]
def c99k16 : ICode := .kill (dead 20 []) (.ops c99r16)
@[simp] theorem uc99k16 : Ex F cx (.code c99k16 :: k) ⟨mk 20 l, rows, low⟩ r ↔ Ex F cx k ⟨mk 20 [(4, (.int .i64 0))], rows, low⟩ r := reg (keep := []) (ops := c99r16) rfl (by kernel_rfl) (by kernel_rfl)
def c99s17 : ICode := (.cond (.t 12) (.seq c99k16 .ret) .skip)
@[simp] theorem uc99s17 : Ex F cx (.code c99s17 :: k) s r ↔ Ex F cx (.code (.cond (.t 12) (.seq c99k16 .ret) .skip) :: k) s r := Iff.rfl
def c99r18 : List Seg := [
  .one ⟨some 12, .mv (.t 6), none⟩]
def c99k18 : ICode := .kill (dead 20 [6]) (.ops c99r18)
@[simp] theorem uc99k18 : Ex F cx (.code c99k18 :: k) ⟨mk 20 l, rows, low⟩ r ↔ Ex F cx k ⟨mk 20 [(12, lk l 6), (6, lk l 6)], rows, low⟩ r := reg (keep := [6]) (ops := c99r18) rfl (by kernel_rfl) (by kernel_rfl)
def c99s19 : ICode := (.cond (.t 11) (.seq (.seq c99k18 c99s17) c99s15) .skip)
@[simp] theorem uc99s19 : Ex F cx (.code c99s19 :: k) s r ↔ Ex F cx (.code (.cond (.t 11) (.seq (.seq c99k18 c99s17) c99s15) .skip) :: k) s r := Iff.rfl
def c99r20 : List Seg := [
  .one ⟨some 11, .mv (.t 5), none⟩]
def c99k20 : ICode := .kill (dead 20 [0, 1, 5, 6]) (.ops c99r20)
@[simp] theorem uc99k20 : Ex F cx (.code c99k20 :: k) ⟨mk 20 l, rows, low⟩ r ↔ Ex F cx k ⟨mk 20 [(11, lk l 5), (0, lk l 0), (1, lk l 1), (5, lk l 5), (6, lk l 6)], rows, low⟩ r := reg (keep := [0, 1, 5, 6]) (ops := c99r20) rfl (by kernel_rfl) (by kernel_rfl)
def c99s21 : ICode := (.seq (.seq c99k20 c99s19) c99s13)
@[simp] theorem uc99s21 : Ex F cx (.code c99s21 :: k) s r ↔ Ex F cx (.code (.seq (.seq c99k20 c99s19) c99s13) :: k) s r := Iff.rfl
def c99r22 : List Seg := [
  .one ⟨some 9, .mv (.t 1), none⟩,
  .one ⟨some 10, .call (.c (.func 102 [])) [(.t 9)], none⟩,
  .one ⟨some 6, .mv (.t 10), none⟩]
def c99k22 : ICode := .kill (dead 20 [0, 1, 5]) (.ops c99r22)
@[simp] theorem uc99k22 : Ex F cx (.code c99k22 :: k) ⟨mk 20 l, rows, low⟩ r ↔ bnd (Ret F 102 [lk l 1] rows) fun q0 => Ex F cx k ⟨mk 20 [(6, q0.1), (10, q0.1), (9, lk l 1), (0, lk l 0), (1, lk l 1), (5, lk l 5)], q0.2.1, (lowO low q0.2.2)⟩ r := reg (keep := [0, 1, 5]) (ops := c99r22) rfl (by kernel_rfl) (by kernel_rfl)
def c99s23 : ICode := (.seq c99k22 c99s21)
@[simp] theorem uc99s23 : Ex F cx (.code c99s23 :: k) s r ↔ Ex F cx (.code (.seq c99k22 c99s21) :: k) s r := Iff.rfl
def c99r24 : List Seg := [
  .one ⟨some 7, .mv (.t 0), none⟩,
  .one ⟨some 8, .call (.c (.func 102 [])) [(.t 7)], none⟩,
  .one ⟨some 5, .mv (.t 8), none⟩]
def c99k24 : ICode := .kill (dead 20 [0, 1]) (.ops c99r24)
@[simp] theorem uc99k24 : Ex F cx (.code c99k24 :: k) ⟨mk 20 l, rows, low⟩ r ↔ bnd (Ret F 102 [lk l 0] rows) fun q0 => Ex F cx k ⟨mk 20 [(5, q0.1), (8, q0.1), (7, lk l 0), (0, lk l 0), (1, lk l 1)], q0.2.1, (lowO low q0.2.2)⟩ r := reg (keep := [0, 1]) (ops := c99r24) rfl (by kernel_rfl) (by kernel_rfl)
def c99s25 : ICode := (.seq c99k24 c99s23)
@[simp] theorem uc99s25 : Ex F cx (.code c99s25 :: k) s r ↔ Ex F cx (.code (.seq c99k24 c99s23) :: k) s r := Iff.rfl
def c99r26 : List Seg := [
  .one ⟨some 4, .mv (.c (.int .i64 0)), none⟩]
def c99k26 : ICode := .kill (dead 20 [0, 1]) (.ops c99r26)
@[simp] theorem uc99k26 : Ex F cx (.code c99k26 :: k) ⟨mk 20 l, rows, low⟩ r ↔ Ex F cx k ⟨mk 20 [(4, (.int .i64 0)), (0, lk l 0), (1, lk l 1)], rows, low⟩ r := reg (keep := [0, 1]) (ops := c99r26) rfl (by kernel_rfl) (by kernel_rfl)
def Jc99s1 (F : Nat → Option IFn) (cx : Ctx) (rows : List Row) (low : Nat) (r : AV × List Row × Nat → Prop) : Prop := Ex F cx (.code c99s1 :: []) ⟨mk 20 [], rows, low⟩ r
theorem jc99s1 : Ex F cx (.code c99s1 :: []) ⟨mk 20 l, rows, low⟩ r ↔ Jc99s1 F cx  rows low r := Ex_canon (keep := []) (by kernel_rfl)
def Jc99s5 (F : Nat → Option IFn) (cx : Ctx) (x0 x1 : AV) (rows : List Row) (low : Nat) (r : AV × List Row × Nat → Prop) : Prop := Ex F cx (.code c99s5 :: []) ⟨mk 20 [(0, x0), (1, x1)], rows, low⟩ r
theorem jc99s5 : Ex F cx (.code c99s5 :: []) ⟨mk 20 l, rows, low⟩ r ↔ Jc99s5 F cx (lk l 0) (lk l 1) rows low r := Ex_canon (keep := [0, 1]) (by kernel_rfl)
def Jc99s9 (F : Nat → Option IFn) (cx : Ctx) (x0 x1 : AV) (rows : List Row) (low : Nat) (r : AV × List Row × Nat → Prop) : Prop := Ex F cx (.code c99s9 :: []) ⟨mk 20 [(0, x0), (1, x1)], rows, low⟩ r
theorem jc99s9 : Ex F cx (.code c99s9 :: []) ⟨mk 20 l, rows, low⟩ r ↔ Jc99s9 F cx (lk l 0) (lk l 1) rows low r := Ex_canon (keep := [0, 1]) (by kernel_rfl)
def Jc99s13 (F : Nat → Option IFn) (cx : Ctx) (x0 x1 x6 : AV) (rows : List Row) (low : Nat) (r : AV × List Row × Nat → Prop) : Prop := Ex F cx (.code c99s13 :: []) ⟨mk 20 [(0, x0), (1, x1), (6, x6)], rows, low⟩ r
theorem jc99s13 : Ex F cx (.code c99s13 :: []) ⟨mk 20 l, rows, low⟩ r ↔ Jc99s13 F cx (lk l 0) (lk l 1) (lk l 6) rows low r := Ex_canon (keep := [0, 1, 6]) (by kernel_rfl)
def Jc99s15 (F : Nat → Option IFn) (cx : Ctx) (rows : List Row) (low : Nat) (r : AV × List Row × Nat → Prop) : Prop := Ex F cx (.code c99s15 :: .code c99s13 :: []) ⟨mk 20 [], rows, low⟩ r
theorem jc99s15 : Ex F cx (.code c99s15 :: .code c99s13 :: []) ⟨mk 20 l, rows, low⟩ r ↔ Jc99s15 F cx  rows low r := Ex_canon (keep := []) (by kernel_rfl)
def c99b : ICode := (.seq c99k26 c99s25)
@[simp] theorem uc99b : Ex F cx (.code c99b :: k) s r ↔ Ex F cx (.code (.seq c99k26 c99s25) :: k) s r := Iff.rfl
def c99 : IFn := ⟨20, [.t 4], c99b⟩
def h99 : List (Nat × List Nat) := [(0, dead 20 [0, 1]), (1, dead 20 [0, 1]), (2, dead 20 [0, 1, 5]), (3, dead 20 [0, 1, 5, 6]), (4, dead 20 [6]), (5, dead 20 []), (6, dead 20 []), (7, dead 20 [0, 1, 6]), (8, dead 20 []), (9, dead 20 [0, 1]), (10, dead 20 []), (11, dead 20 [0, 1]), (12, dead 20 []), (13, dead 20 [])]
theorem i99 {x0 x1 : AV} (hF : F 99 = some c99) {q : AV × List Row × Option Nat} (h : Ex F (.fn [.t 4]) [.code c99b] ⟨mk 20 [(0, x0), (1, x1)], rows, rows.length⟩ fun r => fin rows r.1 r.2.1 r.2.2 = q) : Ret F 99 [x0, x1] rows = some q := Ret_mk hF h
/-! math/bits.TrailingZeros32 -/
def c100r0 : List Seg := [
  .one ⟨some 5, .mv (.t 0), none⟩,
  .one ⟨some 6, .mv (.t 0), none⟩,
  .one ⟨some 7, .un .neg (.t 6), none⟩,
  .one ⟨some 8, .bin .and (.t 5) (.t 7), none⟩,
  .one ⟨some 9, .bin .mul (.t 8) (.c (.int .u32 125613361)), none⟩,
  .one ⟨some 10, .bin .shr (.t 9) (.c (.int .u64 27)), none⟩,
  .one ⟨some 11, .idxA 32 1 (.c (.ptr 0 0)) (.t 10), none⟩,
  .one ⟨some 12, .load1 (.t 11), none⟩,
  .one ⟨some 13, .conv .i64 (.t 12), none⟩,
  .one ⟨some 2, .mv (.t 13), none⟩]
def c100k0 : ICode := .kill (dead 14 [0]) (.ops c100r0)
@[simp] theorem uc100k0 : Ex F cx (.code c100k0 :: k) ⟨mk 14 l, rows, low⟩ r ↔ bnd (evP rows (.un .neg (.c (lk l 0)))) fun v0 => bnd (evP rows (.bin .and (.c (lk l 0)) (.c v0))) fun v1 => bnd (evP rows (.bin .mul (.c v1) (.c (.int .u32 125613361)))) fun v2 => bnd (evP rows (.bin .shr (.c v2) (.c (.int .u64 27)))) fun v3 => bnd (evP rows (.idxA 32 1 (.c (.ptr 0 0)) (.c v3))) fun v4 => bnd (evP rows (.load1 (.c v4))) fun v5 => bnd (evP rows (.conv .i64 (.c v5))) fun v6 => Ex F cx k ⟨mk 14 [(2, v6), (13, v6), (12, v5), (11, v4), (10, v3), (9, v2), (8, v1), (7, v0), (6, lk l 0), (5, lk l 0), (0, lk l 0)], rows, low⟩ r := reg (keep := [0]) (ops := c100r0) rfl (by kernel_rfl) (by kernel_rfl)
def c100s1 : ICode := (.seq c100k0 .ret)
@[simp] theorem uc100s1 : Ex F cx (.code c100s1 :: k) s r ↔ Ex F cx (.code (.seq c100k0 .ret) :: k) s r := Iff.rfl
def c100r2 : List Seg := [
  .one ⟨some 2, .mv (.c (.int .i64 32)), none⟩]
def c100k2 : ICode := .kill (dead 14 []) (.ops c100r2)
@[simp] theorem uc100k2 : Ex F cx (.code c100k2 :: k) ⟨mk 14 l, rows, low⟩ r ↔ Ex F cx k ⟨mk 14 [(2, (.int .i64 32))], rows, low⟩ r := reg (keep := []) (ops := c100r2) rfl (by kernel_rfl) (by kernel_rfl)
def c100s3 : ICode := (.cond (.t 4) (.seq c100k2 .ret) .skip)
@[simp] theorem uc100s3 : Ex F cx (.code c100s3 :: k) s r ↔ Ex F cx (.code (.cond (.t 4) (.seq c100k2 .ret) .skip) :: k) s r := Iff.rfl
def c100r4 : List Seg := [
  .one ⟨some 3, .mv (.t 0), none⟩,
  .one ⟨some 4, .bin .eql (.t 3) (.c (.int .u32 0)), none⟩]
def c100k4 : ICode := .kill (dead 14 [0]) (.ops c100r4)
@[simp] theorem uc100k4 : Ex F cx (.code c100k4 :: k) ⟨mk 14 l, rows, low⟩ r ↔ bnd (evP rows (.bin .eql (.c (lk l 0)) (.c (.int .u32 0)))) fun v0 => Ex F cx k ⟨mk 14 [(4, v0), (3, lk l 0), (0, lk l 0)], rows, low⟩ r := reg (keep := [0]) (ops := c100r4) rfl (by kernel_rfl) (by kernel_rfl)
def c100s5 : ICode := (.seq (.seq c100k4 c100s3) c100s1)
@[simp] theorem uc100s5 : Ex F cx (.code c100s5 :: k) s r ↔ Ex F cx (.code (.seq (.seq c100k4 c100s3) c100s1) :: k) s r := Iff.rfl
def c100r6 : List Seg := [
  .one ⟨some 2, .mv (.c (.int .i64 0)), none⟩]
def c100k6 : ICode := .kill (dead 14 [0]) (.ops c100r6)
@[simp] theorem uc100k6 : Ex F cx (.code c100k6 :: k) ⟨mk 14 l, rows, low⟩ r ↔ Ex F cx k ⟨mk 14 [(2, (.int .i64 0)), (0, lk l 0)], rows, low⟩ r := reg (keep := [0]) (ops := c100r6) rfl (by kernel_rfl) (by kernel_rfl)
def Jc100s1 (F : Nat → Option IFn) (cx : Ctx) (x0 : AV) (rows : List Row) (low : Nat) (r : AV × List Row × Nat → Prop) : Prop := Ex F cx (.code c100s1 :: []) ⟨mk 14 [(0, x0)], rows, low⟩ r
theorem jc100s1 : Ex F cx (.code c100s1 :: []) ⟨mk 14 l, rows, low⟩ r ↔ Jc100s1 F cx (lk l 0) rows low r := Ex_canon (keep := [0]) (by kernel_rfl)
def c100b : ICode := (.seq c100k6 c100s5)
@[simp] theorem uc100b : Ex F cx (.code c100b :: k) s r ↔ Ex F cx (.code (.seq c100k6 c100s5) :: k) s r := Iff.rfl
def c100 : IFn := ⟨14, [.t 2], c100b⟩
def h100 : List (Nat × List Nat) := [(0, dead 14 [0]), (1, dead 14 [0]), (2, dead 14 []), (3, dead 14 [0])]
theorem i100 {x0 : AV} (hF : F 100 = some c100) {q : AV × List Row × Option Nat} (h : Ex F (.fn [.t 2]) [.code c100b] ⟨mk 14 [(0, x0)], rows, rows.length⟩ fun r => fin rows r.1 r.2.1 r.2.2 = q) : Ret F 100 [x0] rows = some q := Ret_mk hF h
/-! math/bits.TrailingZeros64 -/
def c101r0 : List Seg := [
  .one ⟨some 5, .mv (.t 0), none⟩,
  .one ⟨some 6, .mv (.t 0), none⟩,
  .one ⟨some 7, .un .neg (.t 6), none⟩,
  .one ⟨some 8, .bin .and (.t 5) (.t 7), none⟩,
  .one ⟨some 9, .bin .mul (.t 8) (.c (.int .u64 285870213051353865)), none⟩,
  .one ⟨some 10, .bin .shr (.t 9) (.c (.int .u64 58)), none⟩,
  .one ⟨some 11, .idxA 64 1 (.c (.ptr 1 0)) (.t 10), none⟩,
  .one ⟨some 12, .load1 (.t 11), none⟩,
  .one ⟨some 13, .conv .i64 (.t 12), none⟩,
  .one ⟨some 2, .mv (.t 13), none⟩]
def c101k0 : ICode := .kill (dead 14 [0]) (.ops c101r0)
@[simp] theorem uc101k0 : Ex F cx (.code c101k0 :: k) ⟨mk 14 l, rows, low⟩ r ↔ bnd (evP rows (.un .neg (.c (lk l 0)))) fun v0 => bnd (evP rows (.bin .and (.c (lk l 0)) (.c v0))) fun v1 => bnd (evP rows (.bin .mul (.c v1) (.c (.int .u64 285870213051353865)))) fun v2 => bnd (evP rows (.bin .shr (.c v2) (.c (.int .u64 58)))) fun v3 => bnd (evP rows (.idxA 64 1 (.c (.ptr 1 0)) (.c v3))) fun v4 => bnd (evP rows (.load1 (.c v4))) fun v5 => bnd (evP rows (.conv .i64 (.c v5))) fun v6 => Ex F cx k ⟨mk 14 [(2, v6), (13, v6), (12, v5), (11, v4), (10, v3), (9, v2), (8, v1), (7, v0), (6, lk l 0), (5, lk l 0), (0, lk l 0)], rows, low⟩ r := reg (keep := [0]) (ops := c101r0) rfl (by kernel_rfl) (by kernel_rfl)
def c101s1 : ICode := (.seq c101k0 .ret)
@[simp] theorem uc101s1 : Ex F cx (.code c101s1 :: k) s r ↔ Ex F cx (.code (.seq c101k0 .ret) :: k) s r := Iff.rfl
def c101r2 : List Seg := [
  .one ⟨some 2, .mv (.c (.int .i64 64)), none⟩]
def c101k2 : ICode := .kill (dead 14 []) (.ops c101r2)
@[simp] theorem uc101k2 : Ex F cx (.code c101k2 :: k) ⟨mk 14 l, rows, low⟩ r ↔ Ex F cx k ⟨mk 14 [(2, (.int .i64 64))], rows, low⟩ r := reg (keep := []) (ops := c101r2) rfl (by kernel_rfl) (by kernel_rfl)
def c101s3 : ICode := (.cond (.t 4) (.seq c101k2 .ret) .skip)
@[simp] theorem uc101s3 : Ex F cx (.code c101s3 :: k) s r ↔ Ex F cx (.code (.cond (.t 4) (.seq c101k2 .ret) .skip) :: k) s r := Iff.rfl
def c101r4 : List Seg := [
  .one ⟨some 3, .mv (.t 0), none⟩,
  .one ⟨some 4, .bin .eql (.t 3) (.c (.int .u64 0)), none⟩]
def c101k4 : ICode := .kill (dead 14 [0]) (.ops c101r4)
@[simp] theorem uc101k4 : Ex F cx (.code c101k4 :: k) ⟨mk 14 l, rows, low⟩ r ↔ bnd (evP rows (.bin .eql (.c (lk l 0)) (.c (.int .u64 0)))) fun v0 => Ex F cx k ⟨mk 14 [(4, v0), (3, lk l 0), (0, lk l 0)], rows, low⟩ r := reg (keep := [0]) (ops := c101r4) rfl (by kernel_rfl) (by kernel_rfl)
def c101s5 : ICode := (.seq (.seq c101k4 c101s3) c101s1)
@[simp] theorem uc101s5 : Ex F cx (.code c101s5 :: k) s r ↔ Ex F cx (.code (.seq (.seq c101k4 c101s3) c101s1) :: k) s r := Iff.rfl
def c101r6 : List Seg := [
  .one ⟨some 2, .mv (.c (.int .i64 0)), none⟩]
def c101k6 : ICode := .kill (dead 14 [0]) (.ops c101r6)
@[simp] theorem uc101k6 : Ex F cx (.code c101k6 :: k) ⟨mk 14 l, rows, low⟩ r ↔ Ex F cx k ⟨mk 14 [(2, (.int .i64 0)), (0, lk l 0)], rows, low⟩ r := reg (keep := [0]) (ops := c101r6) rfl (by kernel_rfl) (by kernel_rfl)
def Jc101s1 (F : Nat → Option IFn) (cx : Ctx) (x0 : AV) (rows : List Row) (low : Nat) (r : AV × List Row × Nat → Prop) : Prop := Ex F cx (.code c101s1 :: []) ⟨mk 14 [(0, x0)], rows, low⟩ r
theorem jc101s1 : Ex F cx (.code c101s1 :: []) ⟨mk 14 l, rows, low⟩ r ↔ Jc101s1 F cx (lk l 0) rows low r := Ex_canon (keep := [0]) (by kernel_rfl)
def c101b : ICode := (.seq c101k6 c101s5)
@[simp] theorem uc101b : Ex F cx (.code c101b :: k) s r ↔ Ex F cx (.code (.seq c101k6 c101s5) :: k) s r := Iff.rfl
def c101 : IFn := ⟨14, [.t 2], c101b⟩
def h101 : List (Nat × List Nat) := [(0, dead 14 [0]), (1, dead 14 [0]), (2, dead 14 []), (3, dead 14 [0])]
theorem i101 {x0 : AV} (hF : F 101 = some c101) {q : AV × List Row × Option Nat} (h : Ex F (.fn [.t 2]) [.code c101b] ⟨mk 14 [(0, x0)], rows, rows.length⟩ fun r => fin rows r.1 r.2.1 r.2.2 = q) : Ret F 101 [x0] rows = some q := Ret_mk hF h
/-! cmp.isNaN[int] -/
def c102r0 : List Seg := [
  .one ⟨some 3, .mv (.t 0), none⟩,
  .one ⟨some 4, .mv (.t 0), none⟩,
  .one ⟨some 5, .bin .neq (.t 3) (.t 4), none⟩,
  .one ⟨some 2, .mv (.t 5), none⟩]
def c102k0 : ICode := .kill (dead 6 [0]) (.ops c102r0)
@[simp] theorem uc102k0 : Ex F cx (.code c102k0 :: k) ⟨mk 6 l, rows, low⟩ r ↔ bnd (evP rows (.bin .neq (.c (lk l 0)) (.c (lk l 0)))) fun v0 => Ex F cx k ⟨mk 6 [(2, v0), (5, v0), (4, lk l 0), (3, lk l 0), (0, lk l 0)], rows, low⟩ r := reg (keep := [0]) (ops := c102r0) rfl (by kernel_rfl) (by kernel_rfl)
def c102s1 : ICode := (.seq c102k0 .ret)
@[simp] theorem uc102s1 : Ex F cx (.code c102s1 :: k) s r ↔ Ex F cx (.code (.seq c102k0 .ret) :: k) s r := Iff.rfl
def c102r2 : List Seg := [
  .one ⟨some 2, .mv (.c (.bool false)), none⟩]
def c102k2 : ICode := .kill (dead 6 [0]) (.ops c102r2)
@[simp] theorem uc102k2 : Ex F cx (.code c102k2 :: k) ⟨mk 6 l, rows, low⟩ r ↔ Ex F cx k ⟨mk 6 [(2, (.bool false)), (0, lk l 0)], rows, low⟩ r := reg (keep := [0]) (ops := c102r2) rfl (by kernel_rfl) (by kernel_rfl)
def c102b : ICode := (.seq c102k2 c102s1)
@[simp] theorem uc102b : Ex F cx (.code c102b :: k) s r ↔ Ex F cx (.code (.seq c102k2 c102s1) :: k) s r := Iff.rfl
def c102 : IFn := ⟨6, [.t 2], c102b⟩
def h102 : List (Nat × List Nat) := [(0, dead 6 [0]), (1, dead 6 [0])]
theorem i102 {x0 : AV} (hF : F 102 = some c102) {q : AV × List Row × Option Nat} (h : Ex F (.fn [.t 2]) [.code c102b] ⟨mk 6 [(0, x0)], rows, rows.length⟩ fun r => fin rows r.1 r.2.1 r.2.2 = q) : Ret F 102 [x0] rows = some q := Ret_mk hF h
end Go.Abs
