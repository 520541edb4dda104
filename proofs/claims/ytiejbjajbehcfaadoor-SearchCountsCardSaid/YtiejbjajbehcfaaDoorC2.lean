/- The evaluator's code of the cut's functions. -/
import Derived.Test.YtiejbjajbehcfaaDoorA27
import Derived.KernelRfl
set_option linter.unusedVariables false
set_option maxRecDepth 20000
set_option maxHeartbeats 4000000
namespace Go.Abs
variable {F : Nat → Option IFn} {cx : Ctx} {k : List Itm} {s : St} {l : List (Nat × AV)} {rows : List Row} {low : Nat} {r : AV × List Row × Nat → Prop}
/-! tosher/search.Steps -/
def c16r0 : List Seg := [
  .one ⟨some 16, .mv (.t 0), none⟩,
  .one ⟨some 17, .mv (.t 1), none⟩,
  .one ⟨some 18, .call (.c (.func 56 [])) [(.t 16), (.t 17)], none⟩,
  .one ⟨some 4, .mv (.t 18), none⟩,
  .one ⟨some 5, .mv (.c (.int .i64 0)), none⟩]
def c16k0 : ICode := .kill (dead 19 [0, 1]) (.ops c16r0)
@[simp] theorem uc16k0 : Ex F cx (.code c16k0 :: k) ⟨mk 19 l, rows, low⟩ r ↔ bnd (Ret F 56 [lk l 0, lk l 1] rows) fun q0 => Ex F cx k ⟨mk 19 [(5, (.int .i64 0)), (4, q0.1), (18, q0.1), (17, lk l 1), (16, lk l 0), (0, lk l 0), (1, lk l 1)], q0.2.1, (lowO low q0.2.2)⟩ r := reg (keep := [0, 1]) (ops := c16r0) rfl (by kernel_rfl) (by kernel_rfl)
def c16s1 : ICode := (.seq c16k0 .ret)
@[simp] theorem uc16s1 : Ex F cx (.code c16s1 :: k) s r ↔ Ex F cx (.code (.seq c16k0 .ret) :: k) s r := Iff.rfl
def c16r2 : List Seg := [
  .one ⟨some 4, .mv (.c (.int .i64 0)), none⟩,
  .one ⟨some 5, .mv (.c (.int .i64 1)), none⟩]
def c16k2 : ICode := .kill (dead 19 []) (.ops c16r2)
@[simp] theorem uc16k2 : Ex F cx (.code c16k2 :: k) ⟨mk 19 l, rows, low⟩ r ↔ Ex F cx k ⟨mk 19 [(5, (.int .i64 1)), (4, (.int .i64 0))], rows, low⟩ r := reg (keep := []) (ops := c16r2) rfl (by kernel_rfl) (by kernel_rfl)
def c16s3 : ICode := (.cond (.t 15) (.seq c16k2 .ret) .skip)
@[simp] theorem uc16s3 : Ex F cx (.code c16s3 :: k) s r ↔ Ex F cx (.code (.cond (.t 15) (.seq c16k2 .ret) .skip) :: k) s r := Iff.rfl
def c16r4 : List Seg := [
  .one ⟨some 6, .mv (.t 0), none⟩,
  .one ⟨some 7, .mkslice 1 [.int .i64 0] [(0, 1, (.t 6))], none⟩,
  .one ⟨some 8, .call (.c (.func 55 [])) [(.c (.int .i64 0)), (.c (.int .i64 20)), (.t 7)], none⟩,
  .one ⟨some 9, .un .not (.t 8), none⟩,
  .one ⟨some 10, .mv (.t 9), none⟩,
  .one ⟨some 11, .mv (.t 1), some (10, false)⟩,
  .one ⟨some 12, .mkslice 1 [.int .i64 0] [(0, 1, (.t 11))], some (10, false)⟩,
  .one ⟨some 13, .call (.c (.func 55 [])) [(.c (.int .i64 0)), (.c (.int .i64 60)), (.t 12)], some (10, false)⟩,
  .one ⟨some 14, .un .not (.t 13), some (10, false)⟩,
  .one ⟨some 15, .pick (.t 10) (.c (.bool true)) (.t 14), none⟩]
def c16k4 : ICode := .kill (dead 19 [0, 1]) (.ops c16r4)
@[simp] theorem uc16k4 : Ex F cx (.code c16k4 :: k) ⟨mk 19 l, rows, low⟩ r ↔ bnd (evE rows low (.mkslice 1 [.int .i64 0] [(0, 1, (.c (lk l 0)))])) fun q0 => bnd (Ret F 55 [(.int .i64 0), (.int .i64 20), q0.1] q0.2.1) fun q1 => bnd (evP q1.2.1 (.un .not (.c q1.1))) fun v2 => bnd (gv v2 false (evP q1.2.1 (.mv (.c (lk l 1))))) fun v3 => geff v2 false q1.2.1 (lowO q0.2.2 q1.2.2) (.mkslice 1 [.int .i64 0] [(0, 1, (.c v3))]) fun v4 R4 L4 => gcall F v2 false R4 L4 [(.int .i64 0), (.int .i64 60), v4] (.func 55 []) fun v5 R5 L5 => bnd (gv v2 false (evP R5 (.un .not (.c v5)))) fun v6 => bnd (evP R5 (.pick (.c v2) (.c (.bool true)) (.c v6))) fun v7 => Ex F cx k ⟨mk 19 [(15, v7), (14, v6), (13, v5), (12, v4), (11, v3), (10, v2), (9, v2), (8, q1.1), (7, q0.1), (6, lk l 0), (0, lk l 0), (1, lk l 1)], R5, L5⟩ r := reg (keep := [0, 1]) (ops := c16r4) rfl (by kernel_rfl) (by kernel_rfl)
def c16s5 : ICode := (.seq (.seq c16k4 c16s3) c16s1)
@[simp] theorem uc16s5 : Ex F cx (.code c16s5 :: k) s r ↔ Ex F cx (.code (.seq (.seq c16k4 c16s3) c16s1) :: k) s r := Iff.rfl
def c16r6 : List Seg := [
  .one ⟨some 4, .mv (.c (.int .i64 0)), none⟩,
  .one ⟨some 5, .mv (.c (.int .i64 0)), none⟩]
def c16k6 : ICode := .kill (dead 19 [0, 1]) (.ops c16r6)
@[simp] theorem uc16k6 : Ex F cx (.code c16k6 :: k) ⟨mk 19 l, rows, low⟩ r ↔ Ex F cx k ⟨mk 19 [(5, (.int .i64 0)), (4, (.int .i64 0)), (0, lk l 0), (1, lk l 1)], rows, low⟩ r := reg (keep := [0, 1]) (ops := c16r6) rfl (by kernel_rfl) (by kernel_rfl)
def Jc16s1 (F : Nat → Option IFn) (cx : Ctx) (x0 x1 : AV) (rows : List Row) (low : Nat) (r : AV × List Row × Nat → Prop) : Prop := Ex F cx (.code c16s1 :: []) ⟨mk 19 [(0, x0), (1, x1)], rows, low⟩ r
theorem jc16s1 : Ex F cx (.code c16s1 :: []) ⟨mk 19 l, rows, low⟩ r ↔ Jc16s1 F cx (lk l 0) (lk l 1) rows low r := Ex_canon (keep := [0, 1]) (by kernel_rfl)
def c16b : ICode := (.seq c16k6 c16s5)
@[simp] theorem uc16b : Ex F cx (.code c16b :: k) s r ↔ Ex F cx (.code (.seq c16k6 c16s5) :: k) s r := Iff.rfl
def c16 : IFn := ⟨19, [.t 4, .t 5], c16b⟩
def h16 : List (Nat × List Nat) := [(0, dead 19 [0, 1]), (1, dead 19 [0, 1]), (2, dead 19 []), (3, dead 19 [0, 1])]
theorem i16 {x0 x1 : AV} (hF : F 16 = some c16) {q : AV × List Row × Option Nat} (h : Ex F (.fn [.t 4, .t 5]) [.code c16b] ⟨mk 19 [(0, x0), (1, x1)], rows, rows.length⟩ fun r => fin rows r.1 r.2.1 r.2.2 = q) : Ret F 16 [x0, x1] rows = some q := Ret_mk hF h
/-! tosher/tosherref08.Steps -/
def c17r0 : List Seg := [
  .one ⟨some 35, .mv (.t 5), none⟩,
  .one ⟨some 36, .mv (.t 0), none⟩,
  .one ⟨some 37, .idxS 1 (.t 35) (.t 36), none⟩,
  .one ⟨some 38, .load1 (.t 37), none⟩,
  .one ⟨some 4, .mv (.t 38), none⟩]
def c17k0 : ICode := .kill (dead 39 [0, 5]) (.ops c17r0)
@[simp] theorem uc17k0 : Ex F cx (.code c17k0 :: k) ⟨mk 39 l, rows, low⟩ r ↔ bnd (evP rows (.idxS 1 (.c (lk l 5)) (.c (lk l 0)))) fun v0 => bnd (evP rows (.load1 (.c v0))) fun v1 => Ex F cx k ⟨mk 39 [(4, v1), (38, v1), (37, v0), (36, lk l 0), (35, lk l 5), (0, lk l 0), (5, lk l 5)], rows, low⟩ r := reg (keep := [0, 5]) (ops := c17r0) rfl (by kernel_rfl) (by kernel_rfl)
def c17s1 : ICode := (.seq c17k0 .ret)
@[simp] theorem uc17s1 : Ex F cx (.code c17s1 :: k) s r ↔ Ex F cx (.code (.seq c17k0 .ret) :: k) s r := Iff.rfl
def c17r3 : List Seg := [
  .one ⟨some 14, .mv (.t 6), none⟩,
  .one ⟨some 15, .bin .add (.t 14) (.c (.int .i64 1)), none⟩,
  .one ⟨some 6, .mv (.t 15), none⟩]
def c17k3 : ICode := .kill (dead 39 [0, 1, 5, 6]) (.ops c17r3)
@[simp] theorem uc17k3 : Ex F cx (.code c17k3 :: k) ⟨mk 39 l, rows, low⟩ r ↔ bnd (evP rows (.bin .add (.c (lk l 6)) (.c (.int .i64 1)))) fun v0 => Ex F cx k ⟨mk 39 [(6, v0), (15, v0), (14, lk l 6), (0, lk l 0), (1, lk l 1), (5, lk l 5), (6, lk l 6)], rows, low⟩ r := reg (keep := [0, 1, 5, 6]) (ops := c17r3) rfl (by kernel_rfl) (by kernel_rfl)
def c17r5 : List Seg := [
  .one ⟨some 19, .mv (.t 7), none⟩,
  .one ⟨some 20, .bin .sub (.t 19) (.c (.int .i64 1)), none⟩,
  .one ⟨some 7, .mv (.t 20), none⟩]
def c17k5 : ICode := .kill (dead 39 [0, 1, 5, 6, 7]) (.ops c17r5)
@[simp] theorem uc17k5 : Ex F cx (.code c17k5 :: k) ⟨mk 39 l, rows, low⟩ r ↔ bnd (evP rows (.bin .sub (.c (lk l 7)) (.c (.int .i64 1)))) fun v0 => Ex F cx k ⟨mk 39 [(7, v0), (20, v0), (19, lk l 7), (0, lk l 0), (1, lk l 1), (5, lk l 5), (6, lk l 6), (7, lk l 7)], rows, low⟩ r := reg (keep := [0, 1, 5, 6, 7]) (ops := c17r5) rfl (by kernel_rfl) (by kernel_rfl)
def c17r6 : List Seg := [
  .grp [(⟨some 21, .mv (.t 5), none⟩, 0), (⟨some 22, .mv (.t 7), none⟩, 0), (⟨some 23, .mv (.t 5), none⟩, 0), (⟨some 24, .mv (.t 7), none⟩, 0), (⟨some 25, .idxS 1 (.t 23) (.t 24), none⟩, 12), (⟨some 26, .load1 (.t 25), none⟩, 28), (⟨some 27, .bin .add (.t 26) (.c (.int .i64 1)), none⟩, 60), (⟨some 28, .mv (.t 5), none⟩, 0), (⟨some 29, .mv (.t 7), none⟩, 0), (⟨some 30, .bin .sub (.t 29) (.c (.int .i64 1)), none⟩, 256), (⟨some 31, .idxS 1 (.t 28) (.t 30), none⟩, 896), (⟨some 32, .load1 (.t 31), none⟩, 1920), (⟨some 33, .bin .add (.t 27) (.t 32), none⟩, 4092)],
  .one ⟨some 34, .idxS 1 (.t 21) (.t 22), none⟩,
  .one ⟨none, .store1 (.t 34) (.t 33), none⟩]
def c17k6 : ICode := .kill (dead 39 [0, 1, 5, 6, 7]) (.ops c17r6)
@[simp] theorem uc17k6 : Ex F cx (.code c17k6 :: k) ⟨mk 39 l, rows, low⟩ r ↔ bnd (evP rows (.idxS 1 (.c (lk l 5)) (.c (lk l 7)))) fun v0 => bnd (evP rows (.load1 (.c v0))) fun v1 => bnd (evP rows (.bin .add (.c v1) (.c (.int .i64 1)))) fun v2 => bnd (evP rows (.bin .sub (.c (lk l 7)) (.c (.int .i64 1)))) fun v3 => bnd (evP rows (.idxS 1 (.c (lk l 5)) (.c v3))) fun v4 => bnd (evP rows (.load1 (.c v4))) fun v5 => bnd (evP rows (.bin .add (.c v2) (.c v5))) fun v6 => bnd (evP rows (.idxS 1 (.c (lk l 5)) (.c (lk l 7)))) fun v7 => bnd (evE rows low (.store1 (.c v7) (.c v6))) fun q8 => Ex F cx k ⟨mk 39 [(34, v7), (33, v6), (32, v5), (31, v4), (30, v3), (29, lk l 7), (28, lk l 5), (27, v2), (26, v1), (25, v0), (24, lk l 7), (23, lk l 5), (22, lk l 7), (21, lk l 5), (0, lk l 0), (1, lk l 1), (5, lk l 5), (6, lk l 6), (7, lk l 7)], q8.2.1, q8.2.2⟩ r := reg (keep := [0, 1, 5, 6, 7]) (ops := c17r6) rfl (by kernel_rfl) (by kernel_rfl)
def c17s7 : ICode := (.seq (.block 3 c17k6) c17k5)
@[simp] theorem uc17s7 : Ex F cx (.code c17s7 :: k) s r ↔ Ex F cx (.code (.seq (.block 3 c17k6) c17k5) :: k) s r := Iff.rfl
def c17s8 : ICode := (.cond (.t 18) .skip (.exit 2))
@[simp] theorem uc17s8 : Ex F cx (.code c17s8 :: k) s r ↔ Ex F cx (.code (.cond (.t 18) .skip (.exit 2)) :: k) s r := Iff.rfl
def c17r9 : List Seg := [
  .one ⟨some 17, .mv (.t 7), none⟩,
  .one ⟨some 18, .bin .geq (.t 17) (.c (.int .i64 1)), none⟩]
def c17k9 : ICode := .kill (dead 39 [0, 1, 5, 6, 7]) (.ops c17r9)
@[simp] theorem uc17k9 : Ex F cx (.code c17k9 :: k) ⟨mk 39 l, rows, low⟩ r ↔ bnd (evP rows (.bin .geq (.c (lk l 7)) (.c (.int .i64 1)))) fun v0 => Ex F cx k ⟨mk 39 [(18, v0), (17, lk l 7), (0, lk l 0), (1, lk l 1), (5, lk l 5), (6, lk l 6), (7, lk l 7)], rows, low⟩ r := reg (keep := [0, 1, 5, 6, 7]) (ops := c17r9) rfl (by kernel_rfl) (by kernel_rfl)
def c17l4 : ICode := (.seq (.seq c17k9 c17s8) c17s7)
def c17s10 : ICode := (.block 2 (.loop c17l4))
@[simp] theorem uc17s10 : Ex F cx (.code c17s10 :: k) s r ↔ Ex F cx (.code (.block 2 (.loop c17l4)) :: k) s r := Iff.rfl
def c17r11 : List Seg := [
  .one ⟨some 16, .mv (.t 0), none⟩,
  .one ⟨some 7, .mv (.t 16), none⟩]
def c17k11 : ICode := .kill (dead 39 [0, 1, 5, 6]) (.ops c17r11)
@[simp] theorem uc17k11 : Ex F cx (.code c17k11 :: k) ⟨mk 39 l, rows, low⟩ r ↔ Ex F cx k ⟨mk 39 [(7, lk l 0), (16, lk l 0), (0, lk l 0), (1, lk l 1), (5, lk l 5), (6, lk l 6)], rows, low⟩ r := reg (keep := [0, 1, 5, 6]) (ops := c17r11) rfl (by kernel_rfl) (by kernel_rfl)
def c17s12 : ICode := (.seq (.block 1 (.seq c17k11 c17s10)) c17k3)
@[simp] theorem uc17s12 : Ex F cx (.code c17s12 :: k) s r ↔ Ex F cx (.code (.seq (.block 1 (.seq c17k11 c17s10)) c17k3) :: k) s r := Iff.rfl
def c17s13 : ICode := (.cond (.t 13) .skip (.exit 0))
@[simp] theorem uc17s13 : Ex F cx (.code c17s13 :: k) s r ↔ Ex F cx (.code (.cond (.t 13) .skip (.exit 0)) :: k) s r := Iff.rfl
def c17r14 : List Seg := [
  .one ⟨some 11, .mv (.t 6), none⟩,
  .one ⟨some 12, .mv (.t 1), none⟩,
  .one ⟨some 13, .bin .lss (.t 11) (.t 12), none⟩]
def c17k14 : ICode := .kill (dead 39 [0, 1, 5, 6]) (.ops c17r14)
@[simp] theorem uc17k14 : Ex F cx (.code c17k14 :: k) ⟨mk 39 l, rows, low⟩ r ↔ bnd (evP rows (.bin .lss (.c (lk l 6)) (.c (lk l 1)))) fun v0 => Ex F cx k ⟨mk 39 [(13, v0), (12, lk l 1), (11, lk l 6), (0, lk l 0), (1, lk l 1), (5, lk l 5), (6, lk l 6)], rows, low⟩ r := reg (keep := [0, 1, 5, 6]) (ops := c17r14) rfl (by kernel_rfl) (by kernel_rfl)
def c17l2 : ICode := (.seq (.seq c17k14 c17s13) c17s12)
def c17s15 : ICode := (.block 0 (.loop c17l2))
@[simp] theorem uc17s15 : Ex F cx (.code c17s15 :: k) s r ↔ Ex F cx (.code (.block 0 (.loop c17l2)) :: k) s r := Iff.rfl
def c17r16 : List Seg := [
  .one ⟨some 6, .mv (.c (.int .i64 0)), none⟩]
def c17k16 : ICode := .kill (dead 39 [0, 1, 5]) (.ops c17r16)
@[simp] theorem uc17k16 : Ex F cx (.code c17k16 :: k) ⟨mk 39 l, rows, low⟩ r ↔ Ex F cx k ⟨mk 39 [(6, (.int .i64 0)), (0, lk l 0), (1, lk l 1), (5, lk l 5)], rows, low⟩ r := reg (keep := [0, 1, 5]) (ops := c17r16) rfl (by kernel_rfl) (by kernel_rfl)
def c17s17 : ICode := (.seq (.seq c17k16 c17s15) c17s1)
@[simp] theorem uc17s17 : Ex F cx (.code c17s17 :: k) s r ↔ Ex F cx (.code (.seq (.seq c17k16 c17s15) c17s1) :: k) s r := Iff.rfl
def c17r18 : List Seg := [
  .one ⟨some 8, .mv (.t 0), none⟩,
  .one ⟨some 9, .bin .add (.t 8) (.c (.int .i64 1)), none⟩,
  .one ⟨some 10, .make [.int .i64 0] 8 (.t 9) (.t 9), none⟩,
  .one ⟨some 5, .mv (.t 10), none⟩]
def c17k18 : ICode := .kill (dead 39 [0, 1]) (.ops c17r18)
@[simp] theorem uc17k18 : Ex F cx (.code c17k18 :: k) ⟨mk 39 l, rows, low⟩ r ↔ bnd (evP rows (.bin .add (.c (lk l 0)) (.c (.int .i64 1)))) fun v0 => bnd (evE rows low (.make [.int .i64 0] 8 (.c v0) (.c v0))) fun q1 => Ex F cx k ⟨mk 39 [(5, q1.1), (10, q1.1), (9, v0), (8, lk l 0), (0, lk l 0), (1, lk l 1)], q1.2.1, q1.2.2⟩ r := reg (keep := [0, 1]) (ops := c17r18) rfl (by kernel_rfl) (by kernel_rfl)
def c17s19 : ICode := (.seq c17k18 c17s17)
@[simp] theorem uc17s19 : Ex F cx (.code c17s19 :: k) s r ↔ Ex F cx (.code (.seq c17k18 c17s17) :: k) s r := Iff.rfl
def c17r20 : List Seg := [
  .one ⟨some 4, .mv (.c (.int .i64 0)), none⟩]
def c17k20 : ICode := .kill (dead 39 [0, 1]) (.ops c17r20)
@[simp] theorem uc17k20 : Ex F cx (.code c17k20 :: k) ⟨mk 39 l, rows, low⟩ r ↔ Ex F cx k ⟨mk 39 [(4, (.int .i64 0)), (0, lk l 0), (1, lk l 1)], rows, low⟩ r := reg (keep := [0, 1]) (ops := c17r20) rfl (by kernel_rfl) (by kernel_rfl)
def Jc17s7 (F : Nat → Option IFn) (cx : Ctx) (x0 x1 x5 x6 x7 : AV) (rows : List Row) (low : Nat) (r : AV × List Row × Nat → Prop) : Prop := Ex F cx (.code c17s7 :: .inLoop c17l4 :: .inBlock 2 :: .inBlock 1 :: .code c17k3 :: .inLoop c17l2 :: .inBlock 0 :: .code c17s1 :: []) ⟨mk 39 [(0, x0), (1, x1), (5, x5), (6, x6), (7, x7)], rows, low⟩ r
theorem jc17s7 : Ex F cx (.code c17s7 :: .inLoop c17l4 :: .inBlock 2 :: .inBlock 1 :: .code c17k3 :: .inLoop c17l2 :: .inBlock 0 :: .code c17s1 :: []) ⟨mk 39 l, rows, low⟩ r ↔ Jc17s7 F cx (lk l 0) (lk l 1) (lk l 5) (lk l 6) (lk l 7) rows low r := Ex_canon (keep := [0, 1, 5, 6, 7]) (by kernel_rfl)
def Lc17l4 (F : Nat → Option IFn) (cx : Ctx) (x0 x1 x5 x6 x7 : AV) (rows : List Row) (low : Nat) (r : AV × List Row × Nat → Prop) : Prop := Ex F cx (.code c17l4 :: .inLoop c17l4 :: .inBlock 2 :: .inBlock 1 :: .code c17k3 :: .inLoop c17l2 :: .inBlock 0 :: .code c17s1 :: []) ⟨mk 39 [(0, x0), (1, x1), (5, x5), (6, x6), (7, x7)], rows, low⟩ r
@[simp] theorem nc17l4 : Ex F cx (.inLoop c17l4 :: .inBlock 2 :: .inBlock 1 :: .code c17k3 :: .inLoop c17l2 :: .inBlock 0 :: .code c17s1 :: []) ⟨mk 39 l, rows, low⟩ r ↔ Lc17l4 F cx (lk l 0) (lk l 1) (lk l 5) (lk l 6) (lk l 7) rows low r := loopN (keep := [0, 1, 5, 6, 7]) (by kernel_rfl)
@[simp] theorem ec17l4 : Ex F cx (.code (.loop c17l4) :: .inBlock 2 :: .inBlock 1 :: .code c17k3 :: .inLoop c17l2 :: .inBlock 0 :: .code c17s1 :: []) ⟨mk 39 l, rows, low⟩ r ↔ Lc17l4 F cx (lk l 0) (lk l 1) (lk l 5) (lk l 6) (lk l 7) rows low r := loopE (keep := [0, 1, 5, 6, 7]) (by kernel_rfl)
@[simp] theorem uc17l4 : Ex F cx (.code c17l4 :: k) s r ↔ Ex F cx (.code (.seq (.seq c17k9 c17s8) c17s7) :: k) s r := Iff.rfl
def Jc17s12 (F : Nat → Option IFn) (cx : Ctx) (x0 x1 x5 x6 : AV) (rows : List Row) (low : Nat) (r : AV × List Row × Nat → Prop) : Prop := Ex F cx (.code c17s12 :: .inLoop c17l2 :: .inBlock 0 :: .code c17s1 :: []) ⟨mk 39 [(0, x0), (1, x1), (5, x5), (6, x6)], rows, low⟩ r
theorem jc17s12 : Ex F cx (.code c17s12 :: .inLoop c17l2 :: .inBlock 0 :: .code c17s1 :: []) ⟨mk 39 l, rows, low⟩ r ↔ Jc17s12 F cx (lk l 0) (lk l 1) (lk l 5) (lk l 6) rows low r := Ex_canon (keep := [0, 1, 5, 6]) (by kernel_rfl)
def Lc17l2 (F : Nat → Option IFn) (cx : Ctx) (x0 x1 x5 x6 : AV) (rows : List Row) (low : Nat) (r : AV × List Row × Nat → Prop) : Prop := Ex F cx (.code c17l2 :: .inLoop c17l2 :: .inBlock 0 :: .code c17s1 :: []) ⟨mk 39 [(0, x0), (1, x1), (5, x5), (6, x6)], rows, low⟩ r
@[simp] theorem nc17l2 : Ex F cx (.inLoop c17l2 :: .inBlock 0 :: .code c17s1 :: []) ⟨mk 39 l, rows, low⟩ r ↔ Lc17l2 F cx (lk l 0) (lk l 1) (lk l 5) (lk l 6) rows low r := loopN (keep := [0, 1, 5, 6]) (by kernel_rfl)
@[simp] theorem ec17l2 : Ex F cx (.code (.loop c17l2) :: .inBlock 0 :: .code c17s1 :: []) ⟨mk 39 l, rows, low⟩ r ↔ Lc17l2 F cx (lk l 0) (lk l 1) (lk l 5) (lk l 6) rows low r := loopE (keep := [0, 1, 5, 6]) (by kernel_rfl)
@[simp] theorem uc17l2 : Ex F cx (.code c17l2 :: k) s r ↔ Ex F cx (.code (.seq (.seq c17k14 c17s13) c17s12) :: k) s r := Iff.rfl
def c17b : ICode := (.seq c17k20 c17s19)
@[simp] theorem uc17b : Ex F cx (.code c17b :: k) s r ↔ Ex F cx (.code (.seq c17k20 c17s19) :: k) s r := Iff.rfl
def c17 : IFn := ⟨39, [.t 4], c17b⟩
def h17 : List (Nat × List Nat) := [(0, dead 39 [0, 1]), (1, dead 39 [0, 1]), (2, dead 39 [0, 1, 5]), (3, dead 39 [0, 1, 5, 6]), (5, dead 39 [0, 1, 5, 6]), (6, dead 39 [0, 1, 5, 6, 7]), (8, dead 39 [0, 1, 5, 6, 7]), (7, dead 39 [0, 1, 5, 6, 7]), (4, dead 39 [0, 1, 5, 6]), (9, dead 39 [0, 5])]
theorem i17 {x0 x1 : AV} (hF : F 17 = some c17) {q : AV × List Row × Option Nat} (h : Ex F (.fn [.t 4]) [.code c17b] ⟨mk 39 [(0, x0), (1, x1)], rows, rows.length⟩ fun r => fin rows r.1 r.2.1 r.2.2 = q) : Ret F 17 [x0, x1] rows = some q := Ret_mk hF h
/-! tosher/search.Tries -/
def c18r0 : List Seg := [
  .one ⟨some 4, .mv (.c (.int .i64 0)), none⟩,
  .one ⟨some 5, .mv (.c (.int .i64 8)), none⟩]
def c18k0 : ICode := .kill (dead 29 []) (.ops c18r0)
@[simp] theorem uc18k0 : Ex F cx (.code c18k0 :: k) ⟨mk 29 l, rows, low⟩ r ↔ Ex F cx k ⟨mk 29 [(5, (.int .i64 8)), (4, (.int .i64 0))], rows, low⟩ r := reg (keep := []) (ops := c18r0) rfl (by kernel_rfl) (by kernel_rfl)
def c18s1 : ICode := (.seq c18k0 .ret)
@[simp] theorem uc18s1 : Ex F cx (.code c18s1 :: k) s r ↔ Ex F cx (.code (.seq c18k0 .ret) :: k) s r := Iff.rfl
def c18r3 : List Seg := [
  .one ⟨some 28, .bin .add (.t 19) (.c (.int .i64 1)), none⟩,
  .one ⟨some 19, .mv (.t 28), none⟩]
def c18k3 : ICode := .kill (dead 29 [0, 1, 19]) (.ops c18r3)
@[simp] theorem uc18k3 : Ex F cx (.code c18k3 :: k) ⟨mk 29 l, rows, low⟩ r ↔ bnd (evP rows (.bin .add (.c (lk l 19)) (.c (.int .i64 1)))) fun v0 => Ex F cx k ⟨mk 29 [(19, v0), (28, v0), (0, lk l 0), (1, lk l 1), (19, lk l 19)], rows, low⟩ r := reg (keep := [0, 1, 19]) (ops := c18r3) rfl (by kernel_rfl) (by kernel_rfl)
def c18r4 : List Seg := [
  .one ⟨some 27, .mv (.t 6), none⟩,
  .one ⟨some 4, .mv (.t 27), none⟩,
  .one ⟨some 5, .mv (.c (.int .i64 0)), none⟩]
def c18k4 : ICode := .kill (dead 29 [6]) (.ops c18r4)
@[simp] theorem uc18k4 : Ex F cx (.code c18k4 :: k) ⟨mk 29 l, rows, low⟩ r ↔ Ex F cx k ⟨mk 29 [(5, (.int .i64 0)), (4, lk l 6), (27, lk l 6), (6, lk l 6)], rows, low⟩ r := reg (keep := [6]) (ops := c18r4) rfl (by kernel_rfl) (by kernel_rfl)
def c18s5 : ICode := (.cond (.t 26) (.seq c18k4 .ret) .skip)
@[simp] theorem uc18s5 : Ex F cx (.code c18s5 :: k) s r ↔ Ex F cx (.code (.cond (.t 26) (.seq c18k4 .ret) .skip) :: k) s r := Iff.rfl
def c18r6 : List Seg := [
  .one ⟨some 22, .mv (.t 0), none⟩,
  .one ⟨some 23, .mv (.t 6), none⟩,
  .one ⟨some 24, .call (.c (.func 56 [])) [(.t 22), (.t 23)], none⟩,
  .one ⟨some 25, .mv (.t 1), none⟩,
  .one ⟨some 26, .bin .geq (.t 24) (.t 25), none⟩]
def c18k6 : ICode := .kill (dead 29 [0, 1, 6, 19]) (.ops c18r6)
@[simp] theorem uc18k6 : Ex F cx (.code c18k6 :: k) ⟨mk 29 l, rows, low⟩ r ↔ bnd (Ret F 56 [lk l 0, lk l 6] rows) fun q0 => bnd (evP q0.2.1 (.bin .geq (.c q0.1) (.c (lk l 1)))) fun v1 => Ex F cx k ⟨mk 29 [(26, v1), (25, lk l 1), (24, q0.1), (23, lk l 6), (22, lk l 0), (0, lk l 0), (1, lk l 1), (6, lk l 6), (19, lk l 19)], q0.2.1, (lowO low q0.2.2)⟩ r := reg (keep := [0, 1, 6, 19]) (ops := c18r6) rfl (by kernel_rfl) (by kernel_rfl)
def c18s7 : ICode := (.seq c18k6 c18s5)
@[simp] theorem uc18s7 : Ex F cx (.code c18s7 :: k) s r ↔ Ex F cx (.code (.seq c18k6 c18s5) :: k) s r := Iff.rfl
def c18r8 : List Seg := [
  .one ⟨some 21, .mv (.t 19), none⟩,
  .one ⟨some 6, .mv (.t 21), none⟩]
def c18k8 : ICode := .kill (dead 29 [0, 1, 19]) (.ops c18r8)
@[simp] theorem uc18k8 : Ex F cx (.code c18k8 :: k) ⟨mk 29 l, rows, low⟩ r ↔ Ex F cx k ⟨mk 29 [(6, lk l 19), (21, lk l 19), (0, lk l 0), (1, lk l 1), (19, lk l 19)], rows, low⟩ r := reg (keep := [0, 1, 19]) (ops := c18r8) rfl (by kernel_rfl) (by kernel_rfl)
def c18s9 : ICode := (.seq (.block 1 (.seq c18k8 c18s7)) c18k3)
@[simp] theorem uc18s9 : Ex F cx (.code c18s9 :: k) s r ↔ Ex F cx (.code (.seq (.block 1 (.seq c18k8 c18s7)) c18k3) :: k) s r := Iff.rfl
def c18s10 : ICode := (.seq (.cond (.t 20) .skip (.exit 0)) c18s9)
@[simp] theorem uc18s10 : Ex F cx (.code c18s10 :: k) s r ↔ Ex F cx (.code (.seq (.cond (.t 20) .skip (.exit 0)) c18s9) :: k) s r := Iff.rfl
def c18r11 : List Seg := [
  .one ⟨some 20, .bin .lss (.t 19) (.c (.int .i64 61)), none⟩]
def c18k11 : ICode := .kill (dead 29 [0, 1, 19]) (.ops c18r11)
@[simp] theorem uc18k11 : Ex F cx (.code c18k11 :: k) ⟨mk 29 l, rows, low⟩ r ↔ bnd (evP rows (.bin .lss (.c (lk l 19)) (.c (.int .i64 61)))) fun v0 => Ex F cx k ⟨mk 29 [(20, v0), (0, lk l 0), (1, lk l 1), (19, lk l 19)], rows, low⟩ r := reg (keep := [0, 1, 19]) (ops := c18r11) rfl (by kernel_rfl) (by kernel_rfl)
def c18l2 : ICode := (.seq c18k11 c18s10)
def c18s12 : ICode := (.block 0 (.loop c18l2))
@[simp] theorem uc18s12 : Ex F cx (.code c18s12 :: k) s r ↔ Ex F cx (.code (.block 0 (.loop c18l2)) :: k) s r := Iff.rfl
def c18r13 : List Seg := [
  .one ⟨some 19, .mv (.c (.int .i64 0)), none⟩]
def c18k13 : ICode := .kill (dead 29 [0, 1]) (.ops c18r13)
@[simp] theorem uc18k13 : Ex F cx (.code c18k13 :: k) ⟨mk 29 l, rows, low⟩ r ↔ Ex F cx k ⟨mk 29 [(19, (.int .i64 0)), (0, lk l 0), (1, lk l 1)], rows, low⟩ r := reg (keep := [0, 1]) (ops := c18r13) rfl (by kernel_rfl) (by kernel_rfl)
def c18s14 : ICode := (.seq (.seq c18k13 c18s12) c18s1)
@[simp] theorem uc18s14 : Ex F cx (.code c18s14 :: k) s r ↔ Ex F cx (.code (.seq (.seq c18k13 c18s12) c18s1) :: k) s r := Iff.rfl
def c18r15 : List Seg := [
  .one ⟨some 4, .mv (.c (.int .i64 0)), none⟩,
  .one ⟨some 5, .mv (.c (.int .i64 1)), none⟩]
def c18k15 : ICode := .kill (dead 29 []) (.ops c18r15)
@[simp] theorem uc18k15 : Ex F cx (.code c18k15 :: k) ⟨mk 29 l, rows, low⟩ r ↔ Ex F cx k ⟨mk 29 [(5, (.int .i64 1)), (4, (.int .i64 0))], rows, low⟩ r := reg (keep := []) (ops := c18r15) rfl (by kernel_rfl) (by kernel_rfl)
def c18s16 : ICode := (.cond (.t 18) (.seq c18k15 .ret) .skip)
@[simp] theorem uc18s16 : Ex F cx (.code c18s16 :: k) s r ↔ Ex F cx (.code (.cond (.t 18) (.seq c18k15 .ret) .skip) :: k) s r := Iff.rfl
def c18r17 : List Seg := [
  .one ⟨some 7, .mv (.t 0), none⟩,
  .one ⟨some 8, .mkslice 1 [.int .i64 0] [(0, 1, (.t 7))], none⟩,
  .one ⟨some 9, .call (.c (.func 55 [])) [(.c (.int .i64 1)), (.c (.int .i64 20)), (.t 8)], none⟩,
  .one ⟨some 10, .un .not (.t 9), none⟩,
  .one ⟨some 11, .mv (.t 10), none⟩,
  .one ⟨some 12, .mv (.t 1), some (11, false)⟩,
  .one ⟨some 13, .bin .lss (.t 12) (.c (.int .i64 0)), some (11, false)⟩,
  .one ⟨some 14, .pick (.t 11) (.c (.bool true)) (.t 13), none⟩,
  .one ⟨some 15, .mv (.t 14), none⟩,
  .one ⟨some 16, .mv (.t 1), some (15, false)⟩,
  .one ⟨some 17, .bin .gtr (.t 16) (.c (.int .i64 1000000000000)), some (15, false)⟩,
  .one ⟨some 18, .pick (.t 15) (.c (.bool true)) (.t 17), none⟩]
def c18k17 : ICode := .kill (dead 29 [0, 1]) (.ops c18r17)
@[simp] theorem uc18k17 : Ex F cx (.code c18k17 :: k) ⟨mk 29 l, rows, low⟩ r ↔ bnd (evE rows low (.mkslice 1 [.int .i64 0] [(0, 1, (.c (lk l 0)))])) fun q0 => bnd (Ret F 55 [(.int .i64 1), (.int .i64 20), q0.1] q0.2.1) fun q1 => bnd (evP q1.2.1 (.un .not (.c q1.1))) fun v2 => bnd (gv v2 false (evP q1.2.1 (.mv (.c (lk l 1))))) fun v3 => bnd (gv v2 false (evP q1.2.1 (.bin .lss (.c v3) (.c (.int .i64 0))))) fun v4 => bnd (evP q1.2.1 (.pick (.c v2) (.c (.bool true)) (.c v4))) fun v5 => bnd (gv v5 false (evP q1.2.1 (.mv (.c (lk l 1))))) fun v6 => bnd (gv v5 false (evP q1.2.1 (.bin .gtr (.c v6) (.c (.int .i64 1000000000000))))) fun v7 => bnd (evP q1.2.1 (.pick (.c v5) (.c (.bool true)) (.c v7))) fun v8 => Ex F cx k ⟨mk 29 [(18, v8), (17, v7), (16, v6), (15, v5), (14, v5), (13, v4), (12, v3), (11, v2), (10, v2), (9, q1.1), (8, q0.1), (7, lk l 0), (0, lk l 0), (1, lk l 1)], q1.2.1, (lowO q0.2.2 q1.2.2)⟩ r := reg (keep := [0, 1]) (ops := c18r17) rfl (by kernel_rfl) (by kernel_rfl)
def c18s18 : ICode := (.seq (.seq c18k17 c18s16) c18s14)
@[simp] theorem uc18s18 : Ex F cx (.code c18s18 :: k) s r ↔ Ex F cx (.code (.seq (.seq c18k17 c18s16) c18s14) :: k) s r := Iff.rfl
def c18r19 : List Seg := [
  .one ⟨some 4, .mv (.c (.int .i64 0)), none⟩,
  .one ⟨some 5, .mv (.c (.int .i64 0)), none⟩]
def c18k19 : ICode := .kill (dead 29 [0, 1]) (.ops c18r19)
@[simp] theorem uc18k19 : Ex F cx (.code c18k19 :: k) ⟨mk 29 l, rows, low⟩ r ↔ Ex F cx k ⟨mk 29 [(5, (.int .i64 0)), (4, (.int .i64 0)), (0, lk l 0), (1, lk l 1)], rows, low⟩ r := reg (keep := [0, 1]) (ops := c18r19) rfl (by kernel_rfl) (by kernel_rfl)
def Jc18s9 (F : Nat → Option IFn) (cx : Ctx) (x0 x1 x19 : AV) (rows : List Row) (low : Nat) (r : AV × List Row × Nat → Prop) : Prop := Ex F cx (.code c18s9 :: .inLoop c18l2 :: .inBlock 0 :: .code c18s1 :: []) ⟨mk 29 [(0, x0), (1, x1), (19, x19)], rows, low⟩ r
theorem jc18s9 : Ex F cx (.code c18s9 :: .inLoop c18l2 :: .inBlock 0 :: .code c18s1 :: []) ⟨mk 29 l, rows, low⟩ r ↔ Jc18s9 F cx (lk l 0) (lk l 1) (lk l 19) rows low r := Ex_canon (keep := [0, 1, 19]) (by kernel_rfl)
def Lc18l2 (F : Nat → Option IFn) (cx : Ctx) (x0 x1 x19 : AV) (rows : List Row) (low : Nat) (r : AV × List Row × Nat → Prop) : Prop := Ex F cx (.code c18l2 :: .inLoop c18l2 :: .inBlock 0 :: .code c18s1 :: []) ⟨mk 29 [(0, x0), (1, x1), (19, x19)], rows, low⟩ r
@[simp] theorem nc18l2 : Ex F cx (.inLoop c18l2 :: .inBlock 0 :: .code c18s1 :: []) ⟨mk 29 l, rows, low⟩ r ↔ Lc18l2 F cx (lk l 0) (lk l 1) (lk l 19) rows low r := loopN (keep := [0, 1, 19]) (by kernel_rfl)
@[simp] theorem ec18l2 : Ex F cx (.code (.loop c18l2) :: .inBlock 0 :: .code c18s1 :: []) ⟨mk 29 l, rows, low⟩ r ↔ Lc18l2 F cx (lk l 0) (lk l 1) (lk l 19) rows low r := loopE (keep := [0, 1, 19]) (by kernel_rfl)
@[simp] theorem uc18l2 : Ex F cx (.code c18l2 :: k) s r ↔ Ex F cx (.code (.seq c18k11 c18s10) :: k) s r := Iff.rfl
def Jc18s14 (F : Nat → Option IFn) (cx : Ctx) (x0 x1 : AV) (rows : List Row) (low : Nat) (r : AV × List Row × Nat → Prop) : Prop := Ex F cx (.code c18s14 :: []) ⟨mk 29 [(0, x0), (1, x1)], rows, low⟩ r
theorem jc18s14 : Ex F cx (.code c18s14 :: []) ⟨mk 29 l, rows, low⟩ r ↔ Jc18s14 F cx (lk l 0) (lk l 1) rows low r := Ex_canon (keep := [0, 1]) (by kernel_rfl)
def c18b : ICode := (.seq c18k19 c18s18)
@[simp] theorem uc18b : Ex F cx (.code c18b :: k) s r ↔ Ex F cx (.code (.seq c18k19 c18s18) :: k) s r := Iff.rfl
def c18 : IFn := ⟨29, [.t 4, .t 5], c18b⟩
def h18 : List (Nat × List Nat) := [(0, dead 29 [0, 1]), (1, dead 29 [0, 1]), (2, dead 29 []), (3, dead 29 [0, 1]), (4, dead 29 [0, 1, 19]), (5, dead 29 [0, 1, 19]), (6, dead 29 [0, 1, 6, 19]), (7, dead 29 [6]), (8, dead 29 [0, 1, 19]), (9, dead 29 [])]
theorem i18 {x0 x1 : AV} (hF : F 18 = some c18) {q : AV × List Row × Option Nat} (h : Ex F (.fn [.t 4, .t 5]) [.code c18b] ⟨mk 29 [(0, x0), (1, x1)], rows, rows.length⟩ fun r => fin rows r.1 r.2.1 r.2.2 = q) : Ret F 18 [x0, x1] rows = some q := Ret_mk hF h
/-! tosher/search.Drop -/
def c19r0 : List Seg := [
  .one ⟨some 19, .mv (.t 1), none⟩,
  .one ⟨some 20, .mv (.t 0), none⟩,
  .one ⟨some 21, .mv (.t 6), none⟩,
  .one ⟨some 22, .bin .sub (.t 21) (.c (.int .i64 1)), none⟩,
  .one ⟨some 23, .call (.c (.func 56 [])) [(.t 20), (.t 22)], none⟩,
  .one ⟨some 24, .bin .sub (.t 19) (.t 23), none⟩,
  .one ⟨some 25, .mx [(.c (.int .i64 1)), (.t 24)], none⟩,
  .one ⟨some 4, .mv (.t 25), none⟩,
  .one ⟨some 5, .mv (.c (.int .i64 0)), none⟩]
def c19k0 : ICode := .kill (dead 26 [0, 1, 6]) (.ops c19r0)
@[simp] theorem uc19k0 : Ex F cx (.code c19k0 :: k) ⟨mk 26 l, rows, low⟩ r ↔ bnd (evP rows (.bin .sub (.c (lk l 6)) (.c (.int .i64 1)))) fun v0 => bnd (Ret F 56 [lk l 0, v0] rows) fun q1 => bnd (evP q1.2.1 (.bin .sub (.c (lk l 1)) (.c q1.1))) fun v2 => bnd (evP q1.2.1 (.mx [(.c (.int .i64 1)), (.c v2)])) fun v3 => Ex F cx k ⟨mk 26 [(5, (.int .i64 0)), (4, v3), (25, v3), (24, v2), (23, q1.1), (22, v0), (21, lk l 6), (20, lk l 0), (19, lk l 1), (0, lk l 0), (1, lk l 1), (6, lk l 6)], q1.2.1, (lowO low q1.2.2)⟩ r := reg (keep := [0, 1, 6]) (ops := c19r0) rfl (by kernel_rfl) (by kernel_rfl)
def c19s1 : ICode := (.seq c19k0 .ret)
@[simp] theorem uc19s1 : Ex F cx (.code c19s1 :: k) s r ↔ Ex F cx (.code (.seq c19k0 .ret) :: k) s r := Iff.rfl
def c19r2 : List Seg := [
  .one ⟨some 18, .mv (.t 7), none⟩,
  .one ⟨some 4, .mv (.c (.int .i64 0)), none⟩,
  .one ⟨some 5, .mv (.t 18), none⟩]
def c19k2 : ICode := .kill (dead 26 [7]) (.ops c19r2)
@[simp] theorem uc19k2 : Ex F cx (.code c19k2 :: k) ⟨mk 26 l, rows, low⟩ r ↔ Ex F cx k ⟨mk 26 [(5, lk l 7), (4, (.int .i64 0)), (18, lk l 7), (7, lk l 7)], rows, low⟩ r := reg (keep := [7]) (ops := c19r2) rfl (by kernel_rfl) (by kernel_rfl)
def c19s3 : ICode := (.cond (.t 17) (.seq c19k2 .ret) .skip)
@[simp] theorem uc19s3 : Ex F cx (.code c19s3 :: k) s r ↔ Ex F cx (.code (.cond (.t 17) (.seq c19k2 .ret) .skip) :: k) s r := Iff.rfl
def c19r4 : List Seg := [
  .one ⟨some 16, .mv (.t 7), none⟩,
  .one ⟨some 17, .bin .neq (.t 16) (.c (.int .i64 0)), none⟩]
def c19k4 : ICode := .kill (dead 26 [0, 1, 6, 7]) (.ops c19r4)
@[simp] theorem uc19k4 : Ex F cx (.code c19k4 :: k) ⟨mk 26 l, rows, low⟩ r ↔ bnd (evP rows (.bin .neq (.c (lk l 7)) (.c (.int .i64 0)))) fun v0 => Ex F cx k ⟨mk 26 [(17, v0), (16, lk l 7), (0, lk l 0), (1, lk l 1), (6, lk l 6), (7, lk l 7)], rows, low⟩ r := reg (keep := [0, 1, 6, 7]) (ops := c19r4) rfl (by kernel_rfl) (by kernel_rfl)
def c19s5 : ICode := (.seq (.seq c19k4 c19s3) c19s1)
@[simp] theorem uc19s5 : Ex F cx (.code c19s5 :: k) s r ↔ Ex F cx (.code (.seq (.seq c19k4 c19s3) c19s1) :: k) s r := Iff.rfl
def c19r6 : List Seg := [
  .one ⟨some 4, .mv (.c (.int .i64 0)), none⟩,
  .one ⟨some 5, .mv (.c (.int .i64 1)), none⟩]
def c19k6 : ICode := .kill (dead 26 []) (.ops c19r6)
@[simp] theorem uc19k6 : Ex F cx (.code c19k6 :: k) ⟨mk 26 l, rows, low⟩ r ↔ Ex F cx k ⟨mk 26 [(5, (.int .i64 1)), (4, (.int .i64 0))], rows, low⟩ r := reg (keep := []) (ops := c19r6) rfl (by kernel_rfl) (by kernel_rfl)
def c19s7 : ICode := (.cond (.t 15) (.seq c19k6 .ret) .skip)
@[simp] theorem uc19s7 : Ex F cx (.code c19s7 :: k) s r ↔ Ex F cx (.code (.cond (.t 15) (.seq c19k6 .ret) .skip) :: k) s r := Iff.rfl
def c19r8 : List Seg := [
  .one ⟨some 14, .mv (.t 1), none⟩,
  .one ⟨some 15, .bin .eql (.t 14) (.c (.int .i64 0)), none⟩]
def c19k8 : ICode := .kill (dead 26 [0, 1, 6, 7]) (.ops c19r8)
@[simp] theorem uc19k8 : Ex F cx (.code c19k8 :: k) ⟨mk 26 l, rows, low⟩ r ↔ bnd (evP rows (.bin .eql (.c (lk l 1)) (.c (.int .i64 0)))) fun v0 => Ex F cx k ⟨mk 26 [(15, v0), (14, lk l 1), (0, lk l 0), (1, lk l 1), (6, lk l 6), (7, lk l 7)], rows, low⟩ r := reg (keep := [0, 1, 6, 7]) (ops := c19r8) rfl (by kernel_rfl) (by kernel_rfl)
def c19s9 : ICode := (.seq (.seq c19k8 c19s7) c19s5)
@[simp] theorem uc19s9 : Ex F cx (.code c19s9 :: k) s r ↔ Ex F cx (.code (.seq (.seq c19k8 c19s7) c19s5) :: k) s r := Iff.rfl
def c19r10 : List Seg := [
  .one ⟨some 9, .mv (.t 0), none⟩,
  .one ⟨some 10, .mv (.t 1), none⟩,
  .one ⟨some 11, .call (.c (.func 18 [])) [(.t 9), (.t 10)], none⟩,
  .one ⟨some 8, .mv (.t 11), none⟩,
  .one ⟨some 12, .ext (.t 8) 0, none⟩,
  .one ⟨some 13, .ext (.t 8) 1, none⟩,
  .one ⟨some 6, .mv (.t 12), none⟩,
  .one ⟨some 7, .mv (.t 13), none⟩]
def c19k10 : ICode := .kill (dead 26 [0, 1]) (.ops c19r10)
@[simp] theorem uc19k10 : Ex F cx (.code c19k10 :: k) ⟨mk 26 l, rows, low⟩ r ↔ bnd (Ret F 18 [lk l 0, lk l 1] rows) fun q0 => bnd (evP q0.2.1 (.ext (.c q0.1) 0)) fun v1 => bnd (evP q0.2.1 (.ext (.c q0.1) 1)) fun v2 => Ex F cx k ⟨mk 26 [(7, v2), (6, v1), (13, v2), (12, v1), (8, q0.1), (11, q0.1), (10, lk l 1), (9, lk l 0), (0, lk l 0), (1, lk l 1)], q0.2.1, (lowO low q0.2.2)⟩ r := reg (keep := [0, 1]) (ops := c19r10) rfl (by kernel_rfl) (by kernel_rfl)
def c19s11 : ICode := (.seq c19k10 c19s9)
@[simp] theorem uc19s11 : Ex F cx (.code c19s11 :: k) s r ↔ Ex F cx (.code (.seq c19k10 c19s9) :: k) s r := Iff.rfl
def c19r12 : List Seg := [
  .one ⟨some 4, .mv (.c (.int .i64 0)), none⟩,
  .one ⟨some 5, .mv (.c (.int .i64 0)), none⟩]
def c19k12 : ICode := .kill (dead 26 [0, 1]) (.ops c19r12)
@[simp] theorem uc19k12 : Ex F cx (.code c19k12 :: k) ⟨mk 26 l, rows, low⟩ r ↔ Ex F cx k ⟨mk 26 [(5, (.int .i64 0)), (4, (.int .i64 0)), (0, lk l 0), (1, lk l 1)], rows, low⟩ r := reg (keep := [0, 1]) (ops := c19r12) rfl (by kernel_rfl) (by kernel_rfl)
def Jc19s1 (F : Nat → Option IFn) (cx : Ctx) (x0 x1 x6 : AV) (rows : List Row) (low : Nat) (r : AV × List Row × Nat → Prop) : Prop := Ex F cx (.code c19s1 :: []) ⟨mk 26 [(0, x0), (1, x1), (6, x6)], rows, low⟩ r
theorem jc19s1 : Ex F cx (.code c19s1 :: []) ⟨mk 26 l, rows, low⟩ r ↔ Jc19s1 F cx (lk l 0) (lk l 1) (lk l 6) rows low r := Ex_canon (keep := [0, 1, 6]) (by kernel_rfl)
def Jc19s5 (F : Nat → Option IFn) (cx : Ctx) (x0 x1 x6 x7 : AV) (rows : List Row) (low : Nat) (r : AV × List Row × Nat → Prop) : Prop := Ex F cx (.code c19s5 :: []) ⟨mk 26 [(0, x0), (1, x1), (6, x6), (7, x7)], rows, low⟩ r
theorem jc19s5 : Ex F cx (.code c19s5 :: []) ⟨mk 26 l, rows, low⟩ r ↔ Jc19s5 F cx (lk l 0) (lk l 1) (lk l 6) (lk l 7) rows low r := Ex_canon (keep := [0, 1, 6, 7]) (by kernel_rfl)
def c19b : ICode := (.seq c19k12 c19s11)
@[simp] theorem uc19b : Ex F cx (.code c19b :: k) s r ↔ Ex F cx (.code (.seq c19k12 c19s11) :: k) s r := Iff.rfl
def c19 : IFn := ⟨26, [.t 4, .t 5], c19b⟩
def h19 : List (Nat × List Nat) := [(0, dead 26 [0, 1]), (1, dead 26 [0, 1]), (2, dead 26 [0, 1, 6, 7]), (3, dead 26 []), (4, dead 26 [0, 1, 6, 7]), (5, dead 26 [7]), (6, dead 26 [0, 1, 6])]
theorem i19 {x0 x1 : AV} (hF : F 19 = some c19) {q : AV × List Row × Option Nat} (h : Ex F (.fn [.t 4, .t 5]) [.code c19b] ⟨mk 26 [(0, x0), (1, x1)], rows, rows.length⟩ fun r => fin rows r.1 r.2.1 r.2.2 = q) : Ret F 19 [x0, x1] rows = some q := Ret_mk hF h
/-! tosher/tosherref08.Tries -/
def c20r0 : List Seg := [
  .one ⟨some 4, .mv (.c (.int .i64 (-1))), none⟩]
def c20k0 : ICode := .kill (dead 16 []) (.ops c20r0)
@[simp] theorem uc20k0 : Ex F cx (.code c20k0 :: k) ⟨mk 16 l, rows, low⟩ r ↔ Ex F cx k ⟨mk 16 [(4, (.int .i64 (-1)))], rows, low⟩ r := reg (keep := []) (ops := c20r0) rfl (by kernel_rfl) (by kernel_rfl)
def c20s1 : ICode := (.seq c20k0 .ret)
@[simp] theorem uc20s1 : Ex F cx (.code c20s1 :: k) s r ↔ Ex F cx (.code (.seq c20k0 .ret) :: k) s r := Iff.rfl
def c20r3 : List Seg := [
  .one ⟨some 8, .mv (.t 5), none⟩,
  .one ⟨some 9, .bin .add (.t 8) (.c (.int .i64 1)), none⟩,
  .one ⟨some 5, .mv (.t 9), none⟩]
def c20k3 : ICode := .kill (dead 16 [0, 1, 5]) (.ops c20r3)
@[simp] theorem uc20k3 : Ex F cx (.code c20k3 :: k) ⟨mk 16 l, rows, low⟩ r ↔ bnd (evP rows (.bin .add (.c (lk l 5)) (.c (.int .i64 1)))) fun v0 => Ex F cx k ⟨mk 16 [(5, v0), (9, v0), (8, lk l 5), (0, lk l 0), (1, lk l 1), (5, lk l 5)], rows, low⟩ r := reg (keep := [0, 1, 5]) (ops := c20r3) rfl (by kernel_rfl) (by kernel_rfl)
def c20r4 : List Seg := [
  .one ⟨some 15, .mv (.t 5), none⟩,
  .one ⟨some 4, .mv (.t 15), none⟩]
def c20k4 : ICode := .kill (dead 16 [5]) (.ops c20r4)
@[simp] theorem uc20k4 : Ex F cx (.code c20k4 :: k) ⟨mk 16 l, rows, low⟩ r ↔ Ex F cx k ⟨mk 16 [(4, lk l 5), (15, lk l 5), (5, lk l 5)], rows, low⟩ r := reg (keep := [5]) (ops := c20r4) rfl (by kernel_rfl) (by kernel_rfl)
def c20s5 : ICode := (.cond (.t 14) (.seq c20k4 .ret) .skip)
@[simp] theorem uc20s5 : Ex F cx (.code c20s5 :: k) s r ↔ Ex F cx (.code (.cond (.t 14) (.seq c20k4 .ret) .skip) :: k) s r := Iff.rfl
def c20r6 : List Seg := [
  .one ⟨some 10, .mv (.t 0), none⟩,
  .one ⟨some 11, .mv (.t 5), none⟩,
  .one ⟨some 12, .call (.c (.func 17 [])) [(.t 10), (.t 11)], none⟩,
  .one ⟨some 13, .mv (.t 1), none⟩,
  .one ⟨some 14, .bin .geq (.t 12) (.t 13), none⟩]
def c20k6 : ICode := .kill (dead 16 [0, 1, 5]) (.ops c20r6)
@[simp] theorem uc20k6 : Ex F cx (.code c20k6 :: k) ⟨mk 16 l, rows, low⟩ r ↔ bnd (Ret F 17 [lk l 0, lk l 5] rows) fun q0 => bnd (evP q0.2.1 (.bin .geq (.c q0.1) (.c (lk l 1)))) fun v1 => Ex F cx k ⟨mk 16 [(14, v1), (13, lk l 1), (12, q0.1), (11, lk l 5), (10, lk l 0), (0, lk l 0), (1, lk l 1), (5, lk l 5)], q0.2.1, (lowO low q0.2.2)⟩ r := reg (keep := [0, 1, 5]) (ops := c20r6) rfl (by kernel_rfl) (by kernel_rfl)
def c20s7 : ICode := (.seq (.block 1 (.seq c20k6 c20s5)) c20k3)
@[simp] theorem uc20s7 : Ex F cx (.code c20s7 :: k) s r ↔ Ex F cx (.code (.seq (.block 1 (.seq c20k6 c20s5)) c20k3) :: k) s r := Iff.rfl
def c20s8 : ICode := (.cond (.t 7) .skip (.exit 0))
@[simp] theorem uc20s8 : Ex F cx (.code c20s8 :: k) s r ↔ Ex F cx (.code (.cond (.t 7) .skip (.exit 0)) :: k) s r := Iff.rfl
def c20r9 : List Seg := [
  .one ⟨some 6, .mv (.t 5), none⟩,
  .one ⟨some 7, .bin .leq (.t 6) (.c (.int .i64 60)), none⟩]
def c20k9 : ICode := .kill (dead 16 [0, 1, 5]) (.ops c20r9)
@[simp] theorem uc20k9 : Ex F cx (.code c20k9 :: k) ⟨mk 16 l, rows, low⟩ r ↔ bnd (evP rows (.bin .leq (.c (lk l 5)) (.c (.int .i64 60)))) fun v0 => Ex F cx k ⟨mk 16 [(7, v0), (6, lk l 5), (0, lk l 0), (1, lk l 1), (5, lk l 5)], rows, low⟩ r := reg (keep := [0, 1, 5]) (ops := c20r9) rfl (by kernel_rfl) (by kernel_rfl)
def c20l2 : ICode := (.seq (.seq c20k9 c20s8) c20s7)
def c20s10 : ICode := (.block 0 (.loop c20l2))
@[simp] theorem uc20s10 : Ex F cx (.code c20s10 :: k) s r ↔ Ex F cx (.code (.block 0 (.loop c20l2)) :: k) s r := Iff.rfl
def c20r11 : List Seg := [
  .one ⟨some 5, .mv (.c (.int .i64 0)), none⟩]
def c20k11 : ICode := .kill (dead 16 [0, 1]) (.ops c20r11)
@[simp] theorem uc20k11 : Ex F cx (.code c20k11 :: k) ⟨mk 16 l, rows, low⟩ r ↔ Ex F cx k ⟨mk 16 [(5, (.int .i64 0)), (0, lk l 0), (1, lk l 1)], rows, low⟩ r := reg (keep := [0, 1]) (ops := c20r11) rfl (by kernel_rfl) (by kernel_rfl)
def c20s12 : ICode := (.seq (.seq c20k11 c20s10) c20s1)
@[simp] theorem uc20s12 : Ex F cx (.code c20s12 :: k) s r ↔ Ex F cx (.code (.seq (.seq c20k11 c20s10) c20s1) :: k) s r := Iff.rfl
def c20r13 : List Seg := [
  .one ⟨some 4, .mv (.c (.int .i64 0)), none⟩]
def c20k13 : ICode := .kill (dead 16 [0, 1]) (.ops c20r13)
@[simp] theorem uc20k13 : Ex F cx (.code c20k13 :: k) ⟨mk 16 l, rows, low⟩ r ↔ Ex F cx k ⟨mk 16 [(4, (.int .i64 0)), (0, lk l 0), (1, lk l 1)], rows, low⟩ r := reg (keep := [0, 1]) (ops := c20r13) rfl (by kernel_rfl) (by kernel_rfl)
def Jc20s7 (F : Nat → Option IFn) (cx : Ctx) (x0 x1 x5 : AV) (rows : List Row) (low : Nat) (r : AV × List Row × Nat → Prop) : Prop := Ex F cx (.code c20s7 :: .inLoop c20l2 :: .inBlock 0 :: .code c20s1 :: []) ⟨mk 16 [(0, x0), (1, x1), (5, x5)], rows, low⟩ r
theorem jc20s7 : Ex F cx (.code c20s7 :: .inLoop c20l2 :: .inBlock 0 :: .code c20s1 :: []) ⟨mk 16 l, rows, low⟩ r ↔ Jc20s7 F cx (lk l 0) (lk l 1) (lk l 5) rows low r := Ex_canon (keep := [0, 1, 5]) (by kernel_rfl)
def Lc20l2 (F : Nat → Option IFn) (cx : Ctx) (x0 x1 x5 : AV) (rows : List Row) (low : Nat) (r : AV × List Row × Nat → Prop) : Prop := Ex F cx (.code c20l2 :: .inLoop c20l2 :: .inBlock 0 :: .code c20s1 :: []) ⟨mk 16 [(0, x0), (1, x1), (5, x5)], rows, low⟩ r
@[simp] theorem nc20l2 : Ex F cx (.inLoop c20l2 :: .inBlock 0 :: .code c20s1 :: []) ⟨mk 16 l, rows, low⟩ r ↔ Lc20l2 F cx (lk l 0) (lk l 1) (lk l 5) rows low r := loopN (keep := [0, 1, 5]) (by kernel_rfl)
@[simp] theorem ec20l2 : Ex F cx (.code (.loop c20l2) :: .inBlock 0 :: .code c20s1 :: []) ⟨mk 16 l, rows, low⟩ r ↔ Lc20l2 F cx (lk l 0) (lk l 1) (lk l 5) rows low r := loopE (keep := [0, 1, 5]) (by kernel_rfl)
@[simp] theorem uc20l2 : Ex F cx (.code c20l2 :: k) s r ↔ Ex F cx (.code (.seq (.seq c20k9 c20s8) c20s7) :: k) s r := Iff.rfl
def c20b : ICode := (.seq c20k13 c20s12)
@[simp] theorem uc20b : Ex F cx (.code c20b :: k) s r ↔ Ex F cx (.code (.seq c20k13 c20s12) :: k) s r := Iff.rfl
def c20 : IFn := ⟨16, [.t 4], c20b⟩
def h20 : List (Nat × List Nat) := [(0, dead 16 [0, 1]), (1, dead 16 [0, 1]), (2, dead 16 [0, 1, 5]), (4, dead 16 [0, 1, 5]), (5, dead 16 [5]), (3, dead 16 [0, 1, 5]), (6, dead 16 [])]
theorem i20 {x0 x1 : AV} (hF : F 20 = some c20) {q : AV × List Row × Option Nat} (h : Ex F (.fn [.t 4]) [.code c20b] ⟨mk 16 [(0, x0), (1, x1)], rows, rows.length⟩ fun r => fin rows r.1 r.2.1 r.2.2 = q) : Ret F 20 [x0, x1] rows = some q := Ret_mk hF h
/-! tosher/tosherref08.Drop -/
def c21r0 : List Seg := [
  .one ⟨some 9, .mv (.t 3), none⟩,
  .one ⟨some 10, .bin .geq (.t 9) (.c (.int .i64 1)), none⟩,
  .one ⟨some 11, .mv (.t 10), none⟩,
  .one ⟨some 12, .mv (.t 3), some (11, true)⟩,
  .one ⟨some 13, .mv (.t 2), some (11, true)⟩,
  .one ⟨some 14, .bin .leq (.t 12) (.t 13), some (11, true)⟩,
  .one ⟨some 15, .pick (.t 11) (.t 14) (.c (.bool false)), none⟩,
  .one ⟨some 16, .mv (.t 15), none⟩,
  .one ⟨some 17, .mv (.t 3), some (16, true)⟩,
  .one ⟨some 18, .bin .sub (.t 17) (.c (.int .i64 1)), some (16, true)⟩,
  .one ⟨some 19, .mv (.t 0), some (16, true)⟩,
  .one ⟨some 20, .bin .sub (.t 19) (.c (.int .i64 1)), some (16, true)⟩,
  .one ⟨some 21, .mv (.t 1), some (16, true)⟩,
  .one ⟨some 22, .bin .sub (.t 21) (.c (.int .i64 1)), some (16, true)⟩,
  .one ⟨some 23, .call (.c (.func 17 [])) [(.t 20), (.t 22)], some (16, true)⟩,
  .one ⟨some 24, .bin .leq (.t 18) (.t 23), some (16, true)⟩,
  .one ⟨some 25, .pick (.t 16) (.t 24) (.c (.bool false)), none⟩,
  .one ⟨some 26, .mv (.t 25), none⟩,
  .one ⟨some 27, .mv (.t 2), some (26, true)⟩,
  .one ⟨some 28, .mv (.t 3), some (26, true)⟩,
  .one ⟨some 29, .bin .sub (.t 27) (.t 28), some (26, true)⟩,
  .one ⟨some 30, .mv (.t 0), some (26, true)⟩,
  .one ⟨some 31, .mv (.t 1), some (26, true)⟩,
  .one ⟨some 32, .bin .sub (.t 31) (.c (.int .i64 1)), some (26, true)⟩,
  .one ⟨some 33, .call (.c (.func 17 [])) [(.t 30), (.t 32)], some (26, true)⟩,
  .one ⟨some 34, .bin .leq (.t 29) (.t 33), some (26, true)⟩,
  .one ⟨some 35, .pick (.t 26) (.t 34) (.c (.bool false)), none⟩,
  .one ⟨some 8, .mv (.t 35), none⟩]
def c21k0 : ICode := .kill (dead 36 [0, 1, 2, 3]) (.ops c21r0)
@[simp] theorem uc21k0 : Ex F cx (.code c21k0 :: k) ⟨mk 36 l, rows, low⟩ r ↔ bnd (evP rows (.bin .geq (.c (lk l 3)) (.c (.int .i64 1)))) fun v0 => bnd (gv v0 true (evP rows (.mv (.c (lk l 3))))) fun v1 => bnd (gv v0 true (evP rows (.mv (.c (lk l 2))))) fun v2 => bnd (gv v0 true (evP rows (.bin .leq (.c v1) (.c v2)))) fun v3 => bnd (evP rows (.pick (.c v0) (.c v3) (.c (.bool false)))) fun v4 => bnd (gv v4 true (evP rows (.mv (.c (lk l 3))))) fun v5 => bnd (gv v4 true (evP rows (.bin .sub (.c v5) (.c (.int .i64 1))))) fun v6 => bnd (gv v4 true (evP rows (.mv (.c (lk l 0))))) fun v7 => bnd (gv v4 true (evP rows (.bin .sub (.c v7) (.c (.int .i64 1))))) fun v8 => bnd (gv v4 true (evP rows (.mv (.c (lk l 1))))) fun v9 => bnd (gv v4 true (evP rows (.bin .sub (.c v9) (.c (.int .i64 1))))) fun v10 => gcall F v4 true rows low [v8, v10] (.func 17 []) fun v11 R11 L11 => bnd (gv v4 true (evP R11 (.bin .leq (.c v6) (.c v11)))) fun v12 => bnd (evP R11 (.pick (.c v4) (.c v12) (.c (.bool false)))) fun v13 => bnd (gv v13 true (evP R11 (.mv (.c (lk l 2))))) fun v14 => bnd (gv v13 true (evP R11 (.mv (.c (lk l 3))))) fun v15 => bnd (gv v13 true (evP R11 (.bin .sub (.c v14) (.c v15)))) fun v16 => bnd (gv v13 true (evP R11 (.mv (.c (lk l 0))))) fun v17 => bnd (gv v13 true (evP R11 (.mv (.c (lk l 1))))) fun v18 => bnd (gv v13 true (evP R11 (.bin .sub (.c v18) (.c (.int .i64 1))))) fun v19 => gcall F v13 true R11 L11 [v17, v19] (.func 17 []) fun v20 R20 L20 => bnd (gv v13 true (evP R20 (.bin .leq (.c v16) (.c v20)))) fun v21 => bnd (evP R20 (.pick (.c v13) (.c v21) (.c (.bool false)))) fun v22 => Ex F cx k ⟨mk 36 [(8, v22), (35, v22), (34, v21), (33, v20), (32, v19), (31, v18), (30, v17), (29, v16), (28, v15), (27, v14), (26, v13), (25, v13), (24, v12), (23, v11), (22, v10), (21, v9), (20, v8), (19, v7), (18, v6), (17, v5), (16, v4), (15, v4), (14, v3), (13, v2), (12, v1), (11, v0), (10, v0), (9, lk l 3), (0, lk l 0), (1, lk l 1), (2, lk l 2), (3, lk l 3)], R20, L20⟩ r := reg (keep := [0, 1, 2, 3]) (ops := c21r0) rfl (by kernel_rfl) (by kernel_rfl)
def c21s1 : ICode := (.seq c21k0 .ret)
@[simp] theorem uc21s1 : Ex F cx (.code c21s1 :: k) s r ↔ Ex F cx (.code (.seq c21k0 .ret) :: k) s r := Iff.rfl
def c21r2 : List Seg := [
  .one ⟨some 8, .mv (.c (.bool false)), none⟩]
def c21k2 : ICode := .kill (dead 36 [0, 1, 2, 3]) (.ops c21r2)
@[simp] theorem uc21k2 : Ex F cx (.code c21k2 :: k) ⟨mk 36 l, rows, low⟩ r ↔ Ex F cx k ⟨mk 36 [(8, (.bool false)), (0, lk l 0), (1, lk l 1), (2, lk l 2), (3, lk l 3)], rows, low⟩ r := reg (keep := [0, 1, 2, 3]) (ops := c21r2) rfl (by kernel_rfl) (by kernel_rfl)
def c21b : ICode := (.seq c21k2 c21s1)
@[simp] theorem uc21b : Ex F cx (.code c21b :: k) s r ↔ Ex F cx (.code (.seq c21k2 c21s1) :: k) s r := Iff.rfl
def c21 : IFn := ⟨36, [.t 8], c21b⟩
def h21 : List (Nat × List Nat) := [(0, dead 36 [0, 1, 2, 3]), (1, dead 36 [0, 1, 2, 3])]
theorem i21 {x0 x1 x2 x3 : AV} (hF : F 21 = some c21) {q : AV × List Row × Option Nat} (h : Ex F (.fn [.t 8]) [.code c21b] ⟨mk 36 [(0, x0), (1, x1), (2, x2), (3, x3)], rows, rows.length⟩ fun r => fin rows r.1 r.2.1 r.2.2 = q) : Ret F 21 [x0, x1, x2, x3] rows = some q := Ret_mk hF h
/-! tosher/tosherlaw08.awake -/
def c22r0 : List Seg := [
  .one ⟨some 45, .mv (.t 3), none⟩,
  .one ⟨some 46, .bin .eql (.t 45) (.c (.int .i64 0)), none⟩,
  .one ⟨some 47, .mv (.t 46), none⟩,
  .one ⟨some 48, .mv (.t 1), some (47, true)⟩,
  .one ⟨some 49, .bin .eql (.t 48) (.c (.int .i64 6)), some (47, true)⟩,
  .one ⟨some 50, .pick (.t 47) (.t 49) (.c (.bool false)), none⟩,
  .one ⟨some 51, .mv (.t 50), none⟩,
  .one ⟨some 52, .mv (.t 2), some (51, true)⟩,
  .one ⟨some 53, .len 0 (.t 52), some (51, true)⟩,
  .one ⟨some 54, .bin .eql (.t 53) (.c (.int .i64 2)), some (51, true)⟩,
  .one ⟨some 55, .pick (.t 51) (.t 54) (.c (.bool false)), none⟩,
  .one ⟨some 56, .mv (.t 55), none⟩,
  .one ⟨some 57, .mv (.t 5), some (56, true)⟩,
  .one ⟨some 58, .bin .eql (.t 57) (.c (.int .i64 0)), some (56, true)⟩,
  .one ⟨some 59, .pick (.t 56) (.t 58) (.c (.bool false)), none⟩,
  .one ⟨some 60, .mv (.t 59), none⟩,
  .one ⟨some 61, .mv (.t 4), some (60, true)⟩,
  .one ⟨some 62, .mkslice 3 [.int .i64 0, .int .i64 0, .int .i64 0] [(0, 1, (.c (.int .i64 6))), (1, 1, (.c (.int .i64 6))), (2, 1, (.c (.int .i64 1)))], some (60, true)⟩,
  .one ⟨some 63, .call (.c (.func 32 [])) [(.t 61), (.t 62)], some (60, true)⟩,
  .one ⟨some 64, .pick (.t 60) (.t 63) (.c (.bool false)), none⟩,
  .one ⟨some 65, .mv (.t 64), none⟩,
  .one ⟨some 66, .mv (.t 7), some (65, true)⟩,
  .one ⟨some 67, .bin .eql (.t 66) (.c (.int .i64 0)), some (65, true)⟩,
  .one ⟨some 68, .pick (.t 65) (.t 67) (.c (.bool false)), none⟩,
  .one ⟨some 69, .mv (.t 68), none⟩,
  .one ⟨some 70, .mv (.t 6), some (69, true)⟩,
  .one ⟨some 71, .bin .eql (.t 70) (.c (.int .i64 1)), some (69, true)⟩,
  .one ⟨some 72, .pick (.t 69) (.t 71) (.c (.bool false)), none⟩,
  .one ⟨some 73, .mv (.t 72), none⟩,
  .one ⟨some 74, .mv (.t 9), some (73, true)⟩,
  .one ⟨some 75, .bin .eql (.t 74) (.c (.int .i64 0)), some (73, true)⟩,
  .one ⟨some 76, .pick (.t 73) (.t 75) (.c (.bool false)), none⟩,
  .one ⟨some 77, .mv (.t 76), none⟩,
  .one ⟨some 78, .mv (.t 8), some (77, true)⟩,
  .one ⟨some 79, .bin .eql (.t 78) (.c (.int .i64 10)), some (77, true)⟩,
  .one ⟨some 80, .pick (.t 77) (.t 79) (.c (.bool false)), none⟩,
  .one ⟨some 81, .mv (.t 80), none⟩,
  .one ⟨some 82, .mv (.t 11), some (81, true)⟩,
  .one ⟨some 83, .bin .eql (.t 82) (.c (.int .i64 0)), some (81, true)⟩,
  .one ⟨some 84, .pick (.t 81) (.t 83) (.c (.bool false)), none⟩,
  .one ⟨some 85, .mv (.t 84), none⟩,
  .one ⟨some 86, .mv (.t 10), some (85, true)⟩,
  .one ⟨some 87, .bin .eql (.t 86) (.c (.int .i64 14)), some (85, true)⟩,
  .one ⟨some 88, .pick (.t 85) (.t 87) (.c (.bool false)), none⟩,
  .one ⟨some 89, .mv (.t 88), none⟩,
  .one ⟨some 90, .mv (.t 13), some (89, true)⟩,
  .one ⟨some 91, .bin .eql (.t 90) (.c (.int .i64 0)), some (89, true)⟩,
  .one ⟨some 92, .pick (.t 89) (.t 91) (.c (.bool false)), none⟩,
  .one ⟨some 93, .mv (.t 92), none⟩,
  .one ⟨some 94, .mv (.t 12), some (93, true)⟩,
  .one ⟨some 95, .bin .eql (.t 94) (.c (.int .i64 9)), some (93, true)⟩,
  .one ⟨some 96, .pick (.t 93) (.t 95) (.c (.bool false)), none⟩,
  .one ⟨some 97, .mv (.t 96), none⟩,
  .one ⟨some 98, .mkslice 1 [.int .i64 0] [(0, 1, (.c (.int .i64 0)))], some (97, true)⟩,
  .one ⟨some 99, .call (.c (.func 46 [])) [(.t 98)], some (97, true)⟩,
  .one ⟨some 100, .bin .eql (.t 99) (.c (.int .i64 80)), some (97, true)⟩,
  .one ⟨some 101, .pick (.t 97) (.t 100) (.c (.bool false)), none⟩,
  .one ⟨some 0, .mv (.t 101), none⟩]
def c22k0 : ICode := .kill (dead 102 [1, 2, 3, 4, 5, 6, 7, 8, 9, 10, 11, 12, 13]) (.ops c22r0)
@[simp] theorem uc22k0 : Ex F cx (.code c22k0 :: k) ⟨mk 102 l, rows, low⟩ r ↔ bnd (evP rows (.bin .eql (.c (lk l 3)) (.c (.int .i64 0)))) fun v0 => bnd (gv v0 true (evP rows (.mv (.c (lk l 1))))) fun v1 => bnd (gv v0 true (evP rows (.bin .eql (.c v1) (.c (.int .i64 6))))) fun v2 => bnd (evP rows (.pick (.c v0) (.c v2) (.c (.bool false)))) fun v3 => bnd (gv v3 true (evP rows (.mv (.c (lk l 2))))) fun v4 => bnd (gv v3 true (evP rows (.len 0 (.c v4)))) fun v5 => bnd (gv v3 true (evP rows (.bin .eql (.c v5) (.c (.int .i64 2))))) fun v6 => bnd (evP rows (.pick (.c v3) (.c v6) (.c (.bool false)))) fun v7 => bnd (gv v7 true (evP rows (.mv (.c (lk l 5))))) fun v8 => bnd (gv v7 true (evP rows (.bin .eql (.c v8) (.c (.int .i64 0))))) fun v9 => bnd (evP rows (.pick (.c v7) (.c v9) (.c (.bool false)))) fun v10 => bnd (gv v10 true (evP rows (.mv (.c (lk l 4))))) fun v11 => geff v10 true rows low (.mkslice 3 [.int .i64 0, .int .i64 0, .int .i64 0] [(0, 1, (.c (.int .i64 6))), (1, 1, (.c (.int .i64 6))), (2, 1, (.c (.int .i64 1)))]) fun v12 R12 L12 => gcall F v10 true R12 L12 [v11, v12] (.func 32 []) fun v13 R13 L13 => bnd (evP R13 (.pick (.c v10) (.c v13) (.c (.bool false)))) fun v14 => bnd (gv v14 true (evP R13 (.mv (.c (lk l 7))))) fun v15 => bnd (gv v14 true (evP R13 (.bin .eql (.c v15) (.c (.int .i64 0))))) fun v16 => bnd (evP R13 (.pick (.c v14) (.c v16) (.c (.bool false)))) fun v17 => bnd (gv v17 true (evP R13 (.mv (.c (lk l 6))))) fun v18 => bnd (gv v17 true (evP R13 (.bin .eql (.c v18) (.c (.int .i64 1))))) fun v19 => bnd (evP R13 (.pick (.c v17) (.c v19) (.c (.bool false)))) fun v20 => bnd (gv v20 true (evP R13 (.mv (.c (lk l 9))))) fun v21 => bnd (gv v20 true (evP R13 (.bin .eql (.c v21) (.c (.int .i64 0))))) fun v22 => bnd (evP R13 (.pick (.c v20) (.c v22) (.c (.bool false)))) fun v23 => bnd (gv v23 true (evP R13 (.mv (.c (lk l 8))))) fun v24 => bnd (gv v23 true (evP R13 (.bin .eql (.c v24) (.c (.int .i64 10))))) fun v25 => bnd (evP R13 (.pick (.c v23) (.c v25) (.c (.bool false)))) fun v26 => bnd (gv v26 true (evP R13 (.mv (.c (lk l 11))))) fun v27 => bnd (gv v26 true (evP R13 (.bin .eql (.c v27) (.c (.int .i64 0))))) fun v28 => bnd (evP R13 (.pick (.c v26) (.c v28) (.c (.bool false)))) fun v29 => bnd (gv v29 true (evP R13 (.mv (.c (lk l 10))))) fun v30 => bnd (gv v29 true (evP R13 (.bin .eql (.c v30) (.c (.int .i64 14))))) fun v31 => bnd (evP R13 (.pick (.c v29) (.c v31) (.c (.bool false)))) fun v32 => bnd (gv v32 true (evP R13 (.mv (.c (lk l 13))))) fun v33 => bnd (gv v32 true (evP R13 (.bin .eql (.c v33) (.c (.int .i64 0))))) fun v34 => bnd (evP R13 (.pick (.c v32) (.c v34) (.c (.bool false)))) fun v35 => bnd (gv v35 true (evP R13 (.mv (.c (lk l 12))))) fun v36 => bnd (gv v35 true (evP R13 (.bin .eql (.c v36) (.c (.int .i64 9))))) fun v37 => bnd (evP R13 (.pick (.c v35) (.c v37) (.c (.bool false)))) fun v38 => geff v38 true R13 L13 (.mkslice 1 [.int .i64 0] [(0, 1, (.c (.int .i64 0)))]) fun v39 R39 L39 => gcall F v38 true R39 L39 [v39] (.func 46 []) fun v40 R40 L40 => bnd (gv v38 true (evP R40 (.bin .eql (.c v40) (.c (.int .i64 80))))) fun v41 => bnd (evP R40 (.pick (.c v38) (.c v41) (.c (.bool false)))) fun v42 => Ex F cx k ⟨mk 102 [(0, v42), (101, v42), (100, v41), (99, v40), (98, v39), (97, v38), (96, v38), (95, v37), (94, v36), (93, v35), (92, v35), (91, v34), (90, v33), (89, v32), (88, v32), (87, v31), (86, v30), (85, v29), (84, v29), (83, v28), (82, v27), (81, v26), (80, v26), (79, v25), (78, v24), (77, v23), (76, v23), (75, v22), (74, v21), (73, v20), (72, v20), (71, v19), (70, v18), (69, v17), (68, v17), (67, v16), (66, v15), (65, v14), (64, v14), (63, v13), (62, v12), (61, v11), (60, v10), (59, v10), (58, v9), (57, v8), (56, v7), (55, v7), (54, v6), (53, v5), (52, v4), (51, v3), (50, v3), (49, v2), (48, v1), (47, v0), (46, v0), (45, lk l 3), (1, lk l 1), (2, lk l 2), (3, lk l 3), (4, lk l 4), (5, lk l 5), (6, lk l 6), (7, lk l 7), (8, lk l 8), (9, lk l 9), (10, lk l 10), (11, lk l 11), (12, lk l 12), (13, lk l 13)], R40, L40⟩ r := reg (keep := [1, 2, 3, 4, 5, 6, 7, 8, 9, 10, 11, 12, 13]) (ops := c22r0) rfl (by kernel_rfl) (by kernel_rfl)
def c22s1 : ICode := (.seq c22k0 .ret)
@[simp] theorem uc22s1 : Ex F cx (.code c22s1 :: k) s r ↔ Ex F cx (.code (.seq c22k0 .ret) :: k) s r := Iff.rfl
def c22r2 : List Seg := [
  .one ⟨some 42, .call (.c (.func 19 [])) [(.c (.int .i64 2)), (.c (.int .i64 100))], none⟩,
  .one ⟨some 41, .mv (.t 42), none⟩,
  .one ⟨some 43, .ext (.t 41) 0, none⟩,
  .one ⟨some 44, .ext (.t 41) 1, none⟩,
  .one ⟨some 12, .mv (.t 43), none⟩,
  .one ⟨some 13, .mv (.t 44), none⟩]
def c22k2 : ICode := .kill (dead 102 [1, 2, 3, 4, 5, 6, 7, 8, 9, 10, 11]) (.ops c22r2)
@[simp] theorem uc22k2 : Ex F cx (.code c22k2 :: k) ⟨mk 102 l, rows, low⟩ r ↔ bnd (Ret F 19 [(.int .i64 2), (.int .i64 100)] rows) fun q0 => bnd (evP q0.2.1 (.ext (.c q0.1) 0)) fun v1 => bnd (evP q0.2.1 (.ext (.c q0.1) 1)) fun v2 => Ex F cx k ⟨mk 102 [(13, v2), (12, v1), (44, v2), (43, v1), (41, q0.1), (42, q0.1), (1, lk l 1), (2, lk l 2), (3, lk l 3), (4, lk l 4), (5, lk l 5), (6, lk l 6), (7, lk l 7), (8, lk l 8), (9, lk l 9), (10, lk l 10), (11, lk l 11)], q0.2.1, (lowO low q0.2.2)⟩ r := reg (keep := [1, 2, 3, 4, 5, 6, 7, 8, 9, 10, 11]) (ops := c22r2) rfl (by kernel_rfl) (by kernel_rfl)
def c22s3 : ICode := (.seq c22k2 c22s1)
@[simp] theorem uc22s3 : Ex F cx (.code c22s3 :: k) s r ↔ Ex F cx (.code (.seq c22k2 c22s1) :: k) s r := Iff.rfl
def c22r4 : List Seg := [
  .one ⟨some 38, .call (.c (.func 18 [])) [(.c (.int .i64 2)), (.c (.int .i64 100))], none⟩,
  .one ⟨some 37, .mv (.t 38), none⟩,
  .one ⟨some 39, .ext (.t 37) 0, none⟩,
  .one ⟨some 40, .ext (.t 37) 1, none⟩,
  .one ⟨some 10, .mv (.t 39), none⟩,
  .one ⟨some 11, .mv (.t 40), none⟩]
def c22k4 : ICode := .kill (dead 102 [1, 2, 3, 4, 5, 6, 7, 8, 9]) (.ops c22r4)
@[simp] theorem uc22k4 : Ex F cx (.code c22k4 :: k) ⟨mk 102 l, rows, low⟩ r ↔ bnd (Ret F 18 [(.int .i64 2), (.int .i64 100)] rows) fun q0 => bnd (evP q0.2.1 (.ext (.c q0.1) 0)) fun v1 => bnd (evP q0.2.1 (.ext (.c q0.1) 1)) fun v2 => Ex F cx k ⟨mk 102 [(11, v2), (10, v1), (40, v2), (39, v1), (37, q0.1), (38, q0.1), (1, lk l 1), (2, lk l 2), (3, lk l 3), (4, lk l 4), (5, lk l 5), (6, lk l 6), (7, lk l 7), (8, lk l 8), (9, lk l 9)], q0.2.1, (lowO low q0.2.2)⟩ r := reg (keep := [1, 2, 3, 4, 5, 6, 7, 8, 9]) (ops := c22r4) rfl (by kernel_rfl) (by kernel_rfl)
def c22s5 : ICode := (.seq c22k4 c22s3)
@[simp] theorem uc22s5 : Ex F cx (.code c22s5 :: k) s r ↔ Ex F cx (.code (.seq c22k4 c22s3) :: k) s r := Iff.rfl
def c22r6 : List Seg := [
  .one ⟨some 34, .call (.c (.func 16 [])) [(.c (.int .i64 2)), (.c (.int .i64 4))], none⟩,
  .one ⟨some 33, .mv (.t 34), none⟩,
  .one ⟨some 35, .ext (.t 33) 0, none⟩,
  .one ⟨some 36, .ext (.t 33) 1, none⟩,
  .one ⟨some 8, .mv (.t 35), none⟩,
  .one ⟨some 9, .mv (.t 36), none⟩]
def c22k6 : ICode := .kill (dead 102 [1, 2, 3, 4, 5, 6, 7]) (.ops c22r6)
@[simp] theorem uc22k6 : Ex F cx (.code c22k6 :: k) ⟨mk 102 l, rows, low⟩ r ↔ bnd (Ret F 16 [(.int .i64 2), (.int .i64 4)] rows) fun q0 => bnd (evP q0.2.1 (.ext (.c q0.1) 0)) fun v1 => bnd (evP q0.2.1 (.ext (.c q0.1) 1)) fun v2 => Ex F cx k ⟨mk 102 [(9, v2), (8, v1), (36, v2), (35, v1), (33, q0.1), (34, q0.1), (1, lk l 1), (2, lk l 2), (3, lk l 3), (4, lk l 4), (5, lk l 5), (6, lk l 6), (7, lk l 7)], q0.2.1, (lowO low q0.2.2)⟩ r := reg (keep := [1, 2, 3, 4, 5, 6, 7]) (ops := c22r6) rfl (by kernel_rfl) (by kernel_rfl)
def c22s7 : ICode := (.seq c22k6 c22s5)
@[simp] theorem uc22s7 : Ex F cx (.code c22s7 :: k) s r ↔ Ex F cx (.code (.seq c22k6 c22s5) :: k) s r := Iff.rfl
def c22r8 : List Seg := [
  .one ⟨some 27, .mkagg [.int .i64 0, .int .i64 0] [(0, 1, (.c (.int .i64 0))), (1, 1, (.c (.int .i64 1)))], none⟩,
  .one ⟨some 28, .mkagg [.int .i64 0, .int .i64 0] [(0, 1, (.c (.int .i64 1))), (1, 1, (.c (.int .i64 2)))], none⟩,
  .one ⟨some 29, .mkslice 2 [.int .i64 0, .int .i64 0, .int .i64 0, .int .i64 0] [(0, 2, (.t 27)), (2, 2, (.t 28))], none⟩,
  .one ⟨some 30, .call (.c (.func 48 [])) [(.c (.int .i64 3)), (.t 29)], none⟩,
  .one ⟨some 26, .mv (.t 30), none⟩,
  .one ⟨some 31, .ext (.t 26) 0, none⟩,
  .one ⟨some 32, .ext (.t 26) 1, none⟩,
  .one ⟨some 6, .mv (.t 31), none⟩,
  .one ⟨some 7, .mv (.t 32), none⟩]
def c22k8 : ICode := .kill (dead 102 [1, 2, 3, 4, 5]) (.ops c22r8)
@[simp] theorem uc22k8 : Ex F cx (.code c22k8 :: k) ⟨mk 102 l, rows, low⟩ r ↔ bnd (evP rows (.mkagg [.int .i64 0, .int .i64 0] [(0, 1, (.c (.int .i64 0))), (1, 1, (.c (.int .i64 1)))])) fun v0 => bnd (evP rows (.mkagg [.int .i64 0, .int .i64 0] [(0, 1, (.c (.int .i64 1))), (1, 1, (.c (.int .i64 2)))])) fun v1 => bnd (evE rows low (.mkslice 2 [.int .i64 0, .int .i64 0, .int .i64 0, .int .i64 0] [(0, 2, (.c v0)), (2, 2, (.c v1))])) fun q2 => bnd (Ret F 48 [(.int .i64 3), q2.1] q2.2.1) fun q3 => bnd (evP q3.2.1 (.ext (.c q3.1) 0)) fun v4 => bnd (evP q3.2.1 (.ext (.c q3.1) 1)) fun v5 => Ex F cx k ⟨mk 102 [(7, v5), (6, v4), (32, v5), (31, v4), (26, q3.1), (30, q3.1), (29, q2.1), (28, v1), (27, v0), (1, lk l 1), (2, lk l 2), (3, lk l 3), (4, lk l 4), (5, lk l 5)], q3.2.1, (lowO q2.2.2 q3.2.2)⟩ r := reg (keep := [1, 2, 3, 4, 5]) (ops := c22r8) rfl (by kernel_rfl) (by kernel_rfl)
def c22s9 : ICode := (.seq c22k8 c22s7)
@[simp] theorem uc22s9 : Ex F cx (.code c22s9 :: k) s r ↔ Ex F cx (.code (.seq c22k8 c22s7) :: k) s r := Iff.rfl
def c22r10 : List Seg := [
  .one ⟨some 21, .mkslice 2 [.int .i64 0, .int .i64 0] [(0, 1, (.c (.int .i64 5))), (1, 1, (.c (.int .i64 1)))], none⟩,
  .one ⟨some 22, .mkslice 2 [.int .i64 0, .int .i64 0] [(0, 1, (.c (.int .i64 1))), (1, 1, (.c (.int .i64 0)))], none⟩,
  .one ⟨some 23, .call (.c (.func 29 [])) [(.t 21), (.t 22)], none⟩,
  .one ⟨some 20, .mv (.t 23), none⟩,
  .one ⟨some 24, .ext (.t 20) 0, none⟩,
  .one ⟨some 25, .ext (.t 20) 1, none⟩,
  .one ⟨some 4, .mv (.t 24), none⟩,
  .one ⟨some 5, .mv (.t 25), none⟩]
def c22k10 : ICode := .kill (dead 102 [1, 2, 3]) (.ops c22r10)
@[simp] theorem uc22k10 : Ex F cx (.code c22k10 :: k) ⟨mk 102 l, rows, low⟩ r ↔ bnd (evE rows low (.mkslice 2 [.int .i64 0, .int .i64 0] [(0, 1, (.c (.int .i64 5))), (1, 1, (.c (.int .i64 1)))])) fun q0 => bnd (evE q0.2.1 q0.2.2 (.mkslice 2 [.int .i64 0, .int .i64 0] [(0, 1, (.c (.int .i64 1))), (1, 1, (.c (.int .i64 0)))])) fun q1 => bnd (Ret F 29 [q0.1, q1.1] q1.2.1) fun q2 => bnd (evP q2.2.1 (.ext (.c q2.1) 0)) fun v3 => bnd (evP q2.2.1 (.ext (.c q2.1) 1)) fun v4 => Ex F cx k ⟨mk 102 [(5, v4), (4, v3), (25, v4), (24, v3), (20, q2.1), (23, q2.1), (22, q1.1), (21, q0.1), (1, lk l 1), (2, lk l 2), (3, lk l 3)], q2.2.1, (lowO q1.2.2 q2.2.2)⟩ r := reg (keep := [1, 2, 3]) (ops := c22r10) rfl (by kernel_rfl) (by kernel_rfl)
def c22s11 : ICode := (.seq c22k10 c22s9)
@[simp] theorem uc22s11 : Ex F cx (.code c22s11 :: k) s r ↔ Ex F cx (.code (.seq c22k10 c22s9) :: k) s r := Iff.rfl
def c22r12 : List Seg := [
  .one ⟨some 15, .mkslice 2 [.int .i64 0, .int .i64 0] [(0, 1, (.c (.int .i64 5))), (1, 1, (.c (.int .i64 1)))], none⟩,
  .one ⟨some 16, .call (.c (.func 28 [])) [(.t 15)], none⟩,
  .one ⟨some 14, .mv (.t 16), none⟩,
  .one ⟨some 17, .ext (.t 14) 0, none⟩,
  .one ⟨some 18, .ext (.t 14) 1, none⟩,
  .one ⟨some 19, .ext (.t 14) 2, none⟩,
  .one ⟨some 1, .mv (.t 17), none⟩,
  .one ⟨some 2, .mv (.t 18), none⟩,
  .one ⟨some 3, .mv (.t 19), none⟩]
def c22k12 : ICode := .kill (dead 102 []) (.ops c22r12)
@[simp] theorem uc22k12 : Ex F cx (.code c22k12 :: k) ⟨mk 102 l, rows, low⟩ r ↔ bnd (evE rows low (.mkslice 2 [.int .i64 0, .int .i64 0] [(0, 1, (.c (.int .i64 5))), (1, 1, (.c (.int .i64 1)))])) fun q0 => bnd (Ret F 28 [q0.1] q0.2.1) fun q1 => bnd (evP q1.2.1 (.ext (.c q1.1) 0)) fun v2 => bnd (evP q1.2.1 (.ext (.c q1.1) 1)) fun v3 => bnd (evP q1.2.1 (.ext (.c q1.1) 2)) fun v4 => Ex F cx k ⟨mk 102 [(3, v4), (2, v3), (1, v2), (19, v4), (18, v3), (17, v2), (14, q1.1), (16, q1.1), (15, q0.1)], q1.2.1, (lowO q0.2.2 q1.2.2)⟩ r := reg (keep := []) (ops := c22r12) rfl (by kernel_rfl) (by kernel_rfl)
def c22s13 : ICode := (.seq c22k12 c22s11)
@[simp] theorem uc22s13 : Ex F cx (.code c22s13 :: k) s r ↔ Ex F cx (.code (.seq c22k12 c22s11) :: k) s r := Iff.rfl
def c22r14 : List Seg := [
  .one ⟨some 0, .mv (.c (.bool false)), none⟩]
def c22k14 : ICode := .kill (dead 102 []) (.ops c22r14)
@[simp] theorem uc22k14 : Ex F cx (.code c22k14 :: k) ⟨mk 102 l, rows, low⟩ r ↔ Ex F cx k ⟨mk 102 [(0, (.bool false))], rows, low⟩ r := reg (keep := []) (ops := c22r14) rfl (by kernel_rfl) (by kernel_rfl)
def c22b : ICode := (.seq c22k14 c22s13)
@[simp] theorem uc22b : Ex F cx (.code c22b :: k) s r ↔ Ex F cx (.code (.seq c22k14 c22s13) :: k) s r := Iff.rfl
def c22 : IFn := ⟨102, [.t 0], c22b⟩
def h22 : List (Nat × List Nat) := [(0, dead 102 []), (1, dead 102 []), (2, dead 102 [1, 2, 3]), (3, dead 102 [1, 2, 3, 4, 5]), (4, dead 102 [1, 2, 3, 4, 5, 6, 7]), (5, dead 102 [1, 2, 3, 4, 5, 6, 7, 8, 9]), (6, dead 102 [1, 2, 3, 4, 5, 6, 7, 8, 9, 10, 11]), (7, dead 102 [1, 2, 3, 4, 5, 6, 7, 8, 9, 10, 11, 12, 13])]
theorem i22 (hF : F 22 = some c22) {q : AV × List Row × Option Nat} (h : Ex F (.fn [.t 0]) [.code c22b] ⟨mk 102 [], rows, rows.length⟩ fun r => fin rows r.1 r.2.1 r.2.2 = q) : Ret F 22 [] rows = some q := Ret_mk hF h
/-! tosher/search.CountPlans -/
def c23r0 : List Seg := [
  .one ⟨some 24, .mv (.t 4), none⟩,
  .one ⟨some 2, .mv (.t 24), none⟩,
  .one ⟨some 3, .mv (.c (.int .i64 0)), none⟩]
def c23k0 : ICode := .kill (dead 25 [4]) (.ops c23r0)
@[simp] theorem uc23k0 : Ex F cx (.code c23k0 :: k) ⟨mk 25 l, rows, low⟩ r ↔ Ex F cx k ⟨mk 25 [(3, (.int .i64 0)), (2, lk l 4), (24, lk l 4), (4, lk l 4)], rows, low⟩ r := reg (keep := [4]) (ops := c23r0) rfl (by kernel_rfl) (by kernel_rfl)
def c23s1 : ICode := (.seq c23k0 .ret)
@[simp] theorem uc23s1 : Ex F cx (.code c23s1 :: k) s r ↔ Ex F cx (.code (.seq c23k0 .ret) :: k) s r := Iff.rfl
def c23r3 : List Seg := [
  .one ⟨some 23, .bin .add (.t 11) (.c (.int .i64 1)), none⟩,
  .one ⟨some 11, .mv (.t 23), none⟩]
def c23k3 : ICode := .kill (dead 25 [4, 10, 11]) (.ops c23r3)
@[simp] theorem uc23k3 : Ex F cx (.code c23k3 :: k) ⟨mk 25 l, rows, low⟩ r ↔ bnd (evP rows (.bin .add (.c (lk l 11)) (.c (.int .i64 1)))) fun v0 => Ex F cx k ⟨mk 25 [(11, v0), (23, v0), (4, lk l 4), (10, lk l 10), (11, lk l 11)], rows, low⟩ r := reg (keep := [4, 10, 11]) (ops := c23r3) rfl (by kernel_rfl) (by kernel_rfl)
def c23r4 : List Seg := [
  .one ⟨some 14, .mv (.t 4), none⟩,
  .one ⟨some 15, .bin .mul (.t 14) (.c (.int .i64 2)), none⟩,
  .one ⟨some 16, .mv (.t 5), none⟩,
  .one ⟨some 17, .bin .mul (.c (.int .i64 2)) (.t 16), none⟩,
  .one ⟨some 18, .bin .add (.t 17) (.c (.int .i64 1)), none⟩,
  .one ⟨some 19, .bin .mul (.t 15) (.t 18), none⟩,
  .one ⟨some 20, .mv (.t 5), none⟩,
  .one ⟨some 21, .bin .add (.t 20) (.c (.int .i64 2)), none⟩,
  .one ⟨some 22, .bin .quo (.t 19) (.t 21), none⟩,
  .one ⟨some 4, .mv (.t 22), none⟩]
def c23k4 : ICode := .kill (dead 25 [4, 5, 10, 11]) (.ops c23r4)
@[simp] theorem uc23k4 : Ex F cx (.code c23k4 :: k) ⟨mk 25 l, rows, low⟩ r ↔ bnd (evP rows (.bin .mul (.c (lk l 4)) (.c (.int .i64 2)))) fun v0 => bnd (evP rows (.bin .mul (.c (.int .i64 2)) (.c (lk l 5)))) fun v1 => bnd (evP rows (.bin .add (.c v1) (.c (.int .i64 1)))) fun v2 => bnd (evP rows (.bin .mul (.c v0) (.c v2))) fun v3 => bnd (evP rows (.bin .add (.c (lk l 5)) (.c (.int .i64 2)))) fun v4 => bnd (evP rows (.bin .quo (.c v3) (.c v4))) fun v5 => Ex F cx k ⟨mk 25 [(4, v5), (22, v5), (21, v4), (20, lk l 5), (19, v3), (18, v2), (17, v1), (16, lk l 5), (15, v0), (14, lk l 4), (4, lk l 4), (5, lk l 5), (10, lk l 10), (11, lk l 11)], rows, low⟩ r := reg (keep := [4, 5, 10, 11]) (ops := c23r4) rfl (by kernel_rfl) (by kernel_rfl)
def c23r5 : List Seg := [
  .one ⟨some 13, .mv (.t 11), none⟩,
  .one ⟨some 5, .mv (.t 13), none⟩]
def c23k5 : ICode := .kill (dead 25 [4, 10, 11]) (.ops c23r5)
@[simp] theorem uc23k5 : Ex F cx (.code c23k5 :: k) ⟨mk 25 l, rows, low⟩ r ↔ Ex F cx k ⟨mk 25 [(5, lk l 11), (13, lk l 11), (4, lk l 4), (10, lk l 10), (11, lk l 11)], rows, low⟩ r := reg (keep := [4, 10, 11]) (ops := c23r5) rfl (by kernel_rfl) (by kernel_rfl)
def c23s6 : ICode := (.seq (.block 1 (.seq c23k5 c23k4)) c23k3)
@[simp] theorem uc23s6 : Ex F cx (.code c23s6 :: k) s r ↔ Ex F cx (.code (.seq (.block 1 (.seq c23k5 c23k4)) c23k3) :: k) s r := Iff.rfl
def c23s7 : ICode := (.seq (.cond (.t 12) .skip (.exit 0)) c23s6)
@[simp] theorem uc23s7 : Ex F cx (.code c23s7 :: k) s r ↔ Ex F cx (.code (.seq (.cond (.t 12) .skip (.exit 0)) c23s6) :: k) s r := Iff.rfl
def c23r8 : List Seg := [
  .one ⟨some 12, .bin .lss (.t 11) (.t 10), none⟩]
def c23k8 : ICode := .kill (dead 25 [4, 10, 11]) (.ops c23r8)
@[simp] theorem uc23k8 : Ex F cx (.code c23k8 :: k) ⟨mk 25 l, rows, low⟩ r ↔ bnd (evP rows (.bin .lss (.c (lk l 11)) (.c (lk l 10)))) fun v0 => Ex F cx k ⟨mk 25 [(12, v0), (4, lk l 4), (10, lk l 10), (11, lk l 11)], rows, low⟩ r := reg (keep := [4, 10, 11]) (ops := c23r8) rfl (by kernel_rfl) (by kernel_rfl)
def c23l2 : ICode := (.seq c23k8 c23s7)
def c23s9 : ICode := (.block 0 (.loop c23l2))
@[simp] theorem uc23s9 : Ex F cx (.code c23s9 :: k) s r ↔ Ex F cx (.code (.block 0 (.loop c23l2)) :: k) s r := Iff.rfl
def c23r10 : List Seg := [
  .one ⟨some 10, .mv (.t 0), none⟩,
  .one ⟨some 11, .mv (.c (.int .i64 0)), none⟩]
def c23k10 : ICode := .kill (dead 25 [0, 4]) (.ops c23r10)
@[simp] theorem uc23k10 : Ex F cx (.code c23k10 :: k) ⟨mk 25 l, rows, low⟩ r ↔ Ex F cx k ⟨mk 25 [(11, (.int .i64 0)), (10, lk l 0), (0, lk l 0), (4, lk l 4)], rows, low⟩ r := reg (keep := [0, 4]) (ops := c23r10) rfl (by kernel_rfl) (by kernel_rfl)
def c23s11 : ICode := (.seq (.seq c23k10 c23s9) c23s1)
@[simp] theorem uc23s11 : Ex F cx (.code c23s11 :: k) s r ↔ Ex F cx (.code (.seq (.seq c23k10 c23s9) c23s1) :: k) s r := Iff.rfl
def c23r12 : List Seg := [
  .one ⟨some 4, .mv (.c (.int .i64 1)), none⟩]
def c23k12 : ICode := .kill (dead 25 [0]) (.ops c23r12)
@[simp] theorem uc23k12 : Ex F cx (.code c23k12 :: k) ⟨mk 25 l, rows, low⟩ r ↔ Ex F cx k ⟨mk 25 [(4, (.int .i64 1)), (0, lk l 0)], rows, low⟩ r := reg (keep := [0]) (ops := c23r12) rfl (by kernel_rfl) (by kernel_rfl)
def c23s13 : ICode := (.seq c23k12 c23s11)
@[simp] theorem uc23s13 : Ex F cx (.code c23s13 :: k) s r ↔ Ex F cx (.code (.seq c23k12 c23s11) :: k) s r := Iff.rfl
def c23r14 : List Seg := [
  .one ⟨some 2, .mv (.c (.int .i64 0)), none⟩,
  .one ⟨some 3, .mv (.c (.int .i64 1)), none⟩]
def c23k14 : ICode := .kill (dead 25 []) (.ops c23r14)
@[simp] theorem uc23k14 : Ex F cx (.code c23k14 :: k) ⟨mk 25 l, rows, low⟩ r ↔ Ex F cx k ⟨mk 25 [(3, (.int .i64 1)), (2, (.int .i64 0))], rows, low⟩ r := reg (keep := []) (ops := c23r14) rfl (by kernel_rfl) (by kernel_rfl)
def c23s15 : ICode := (.cond (.t 9) (.seq c23k14 .ret) .skip)
@[simp] theorem uc23s15 : Ex F cx (.code c23s15 :: k) s r ↔ Ex F cx (.code (.cond (.t 9) (.seq c23k14 .ret) .skip) :: k) s r := Iff.rfl
def c23r16 : List Seg := [
  .one ⟨some 6, .mv (.t 0), none⟩,
  .one ⟨some 7, .mkslice 1 [.int .i64 0] [(0, 1, (.t 6))], none⟩,
  .one ⟨some 8, .call (.c (.func 55 [])) [(.c (.int .i64 0)), (.c (.int .i64 30)), (.t 7)], none⟩,
  .one ⟨some 9, .un .not (.t 8), none⟩]
def c23k16 : ICode := .kill (dead 25 [0]) (.ops c23r16)
@[simp] theorem uc23k16 : Ex F cx (.code c23k16 :: k) ⟨mk 25 l, rows, low⟩ r ↔ bnd (evE rows low (.mkslice 1 [.int .i64 0] [(0, 1, (.c (lk l 0)))])) fun q0 => bnd (Ret F 55 [(.int .i64 0), (.int .i64 30), q0.1] q0.2.1) fun q1 => bnd (evP q1.2.1 (.un .not (.c q1.1))) fun v2 => Ex F cx k ⟨mk 25 [(9, v2), (8, q1.1), (7, q0.1), (6, lk l 0), (0, lk l 0)], q1.2.1, (lowO q0.2.2 q1.2.2)⟩ r := reg (keep := [0]) (ops := c23r16) rfl (by kernel_rfl) (by kernel_rfl)
def c23s17 : ICode := (.seq (.seq c23k16 c23s15) c23s13)
@[simp] theorem uc23s17 : Ex F cx (.code c23s17 :: k) s r ↔ Ex F cx (.code (.seq (.seq c23k16 c23s15) c23s13) :: k) s r := Iff.rfl
def c23r18 : List Seg := [
  .one ⟨some 2, .mv (.c (.int .i64 0)), none⟩,
  .one ⟨some 3, .mv (.c (.int .i64 0)), none⟩]
def c23k18 : ICode := .kill (dead 25 [0]) (.ops c23r18)
@[simp] theorem uc23k18 : Ex F cx (.code c23k18 :: k) ⟨mk 25 l, rows, low⟩ r ↔ Ex F cx k ⟨mk 25 [(3, (.int .i64 0)), (2, (.int .i64 0)), (0, lk l 0)], rows, low⟩ r := reg (keep := [0]) (ops := c23r18) rfl (by kernel_rfl) (by kernel_rfl)
def Jc23s6 (F : Nat → Option IFn) (cx : Ctx) (x4 x10 x11 : AV) (rows : List Row) (low : Nat) (r : AV × List Row × Nat → Prop) : Prop := Ex F cx (.code c23s6 :: .inLoop c23l2 :: .inBlock 0 :: .code c23s1 :: []) ⟨mk 25 [(4, x4), (10, x10), (11, x11)], rows, low⟩ r
theorem jc23s6 : Ex F cx (.code c23s6 :: .inLoop c23l2 :: .inBlock 0 :: .code c23s1 :: []) ⟨mk 25 l, rows, low⟩ r ↔ Jc23s6 F cx (lk l 4) (lk l 10) (lk l 11) rows low r := Ex_canon (keep := [4, 10, 11]) (by kernel_rfl)
def Lc23l2 (F : Nat → Option IFn) (cx : Ctx) (x4 x10 x11 : AV) (rows : List Row) (low : Nat) (r : AV × List Row × Nat → Prop) : Prop := Ex F cx (.code c23l2 :: .inLoop c23l2 :: .inBlock 0 :: .code c23s1 :: []) ⟨mk 25 [(4, x4), (10, x10), (11, x11)], rows, low⟩ r
@[simp] theorem nc23l2 : Ex F cx (.inLoop c23l2 :: .inBlock 0 :: .code c23s1 :: []) ⟨mk 25 l, rows, low⟩ r ↔ Lc23l2 F cx (lk l 4) (lk l 10) (lk l 11) rows low r := loopN (keep := [4, 10, 11]) (by kernel_rfl)
@[simp] theorem ec23l2 : Ex F cx (.code (.loop c23l2) :: .inBlock 0 :: .code c23s1 :: []) ⟨mk 25 l, rows, low⟩ r ↔ Lc23l2 F cx (lk l 4) (lk l 10) (lk l 11) rows low r := loopE (keep := [4, 10, 11]) (by kernel_rfl)
@[simp] theorem uc23l2 : Ex F cx (.code c23l2 :: k) s r ↔ Ex F cx (.code (.seq c23k8 c23s7) :: k) s r := Iff.rfl
def Jc23s13 (F : Nat → Option IFn) (cx : Ctx) (x0 : AV) (rows : List Row) (low : Nat) (r : AV × List Row × Nat → Prop) : Prop := Ex F cx (.code c23s13 :: []) ⟨mk 25 [(0, x0)], rows, low⟩ r
theorem jc23s13 : Ex F cx (.code c23s13 :: []) ⟨mk 25 l, rows, low⟩ r ↔ Jc23s13 F cx (lk l 0) rows low r := Ex_canon (keep := [0]) (by kernel_rfl)
def c23b : ICode := (.seq c23k18 c23s17)
@[simp] theorem uc23b : Ex F cx (.code c23b :: k) s r ↔ Ex F cx (.code (.seq c23k18 c23s17) :: k) s r := Iff.rfl
def c23 : IFn := ⟨25, [.t 2, .t 3], c23b⟩
def h23 : List (Nat × List Nat) := [(0, dead 25 [0]), (1, dead 25 [0]), (2, dead 25 []), (3, dead 25 [0]), (4, dead 25 [0, 4]), (5, dead 25 [4, 10, 11]), (6, dead 25 [4, 10, 11]), (7, dead 25 [4, 5, 10, 11]), (8, dead 25 [4, 10, 11]), (9, dead 25 [4])]
theorem i23 {x0 : AV} (hF : F 23 = some c23) {q : AV × List Row × Option Nat} (h : Ex F (.fn [.t 2, .t 3]) [.code c23b] ⟨mk 25 [(0, x0)], rows, rows.length⟩ fun r => fin rows r.1 r.2.1 r.2.2 = q) : Ret F 23 [x0] rows = some q := Ret_mk hF h
/-! tosher/tosherref08.CountPlans -/
def c24r0 : List Seg := [
  .one ⟨some 36, .mv (.t 3), none⟩,
  .one ⟨some 37, .mv (.t 0), none⟩,
  .one ⟨some 38, .idxS 1 (.t 36) (.t 37), none⟩,
  .one ⟨some 39, .load1 (.t 38), none⟩,
  .one ⟨some 2, .mv (.t 39), none⟩]
def c24k0 : ICode := .kill (dead 40 [0, 3]) (.ops c24r0)
@[simp] theorem uc24k0 : Ex F cx (.code c24k0 :: k) ⟨mk 40 l, rows, low⟩ r ↔ bnd (evP rows (.idxS 1 (.c (lk l 3)) (.c (lk l 0)))) fun v0 => bnd (evP rows (.load1 (.c v0))) fun v1 => Ex F cx k ⟨mk 40 [(2, v1), (39, v1), (38, v0), (37, lk l 0), (36, lk l 3), (0, lk l 0), (3, lk l 3)], rows, low⟩ r := reg (keep := [0, 3]) (ops := c24r0) rfl (by kernel_rfl) (by kernel_rfl)
def c24s1 : ICode := (.seq c24k0 .ret)
@[simp] theorem uc24s1 : Ex F cx (.code c24s1 :: k) s r ↔ Ex F cx (.code (.seq c24k0 .ret) :: k) s r := Iff.rfl
def c24r3 : List Seg := [
  .one ⟨some 11, .mv (.t 4), none⟩,
  .one ⟨some 12, .bin .add (.t 11) (.c (.int .i64 1)), none⟩,
  .one ⟨some 4, .mv (.t 12), none⟩]
def c24k3 : ICode := .kill (dead 40 [0, 3, 4]) (.ops c24r3)
@[simp] theorem uc24k3 : Ex F cx (.code c24k3 :: k) ⟨mk 40 l, rows, low⟩ r ↔ bnd (evP rows (.bin .add (.c (lk l 4)) (.c (.int .i64 1)))) fun v0 => Ex F cx k ⟨mk 40 [(4, v0), (12, v0), (11, lk l 4), (0, lk l 0), (3, lk l 3), (4, lk l 4)], rows, low⟩ r := reg (keep := [0, 3, 4]) (ops := c24r3) rfl (by kernel_rfl) (by kernel_rfl)
def c24r4 : List Seg := [
  .one ⟨some 32, .mv (.t 3), none⟩,
  .one ⟨some 33, .mv (.t 5), none⟩,
  .one ⟨some 34, .mkslice 1 [.int .i64 0] [(0, 1, (.t 33))], none⟩,
  .one ⟨some 35, .app 1 8 (.t 32) (.t 34), none⟩,
  .one ⟨some 3, .mv (.t 35), none⟩]
def c24k4 : ICode := .kill (dead 40 [0, 3, 4, 5]) (.ops c24r4)
@[simp] theorem uc24k4 : Ex F cx (.code c24k4 :: k) ⟨mk 40 l, rows, low⟩ r ↔ bnd (evE rows low (.mkslice 1 [.int .i64 0] [(0, 1, (.c (lk l 5)))])) fun q0 => bnd (evE q0.2.1 q0.2.2 (.app 1 8 (.c (lk l 3)) (.c q0.1))) fun q1 => Ex F cx k ⟨mk 40 [(3, q1.1), (35, q1.1), (34, q0.1), (33, lk l 5), (32, lk l 3), (0, lk l 0), (3, lk l 3), (4, lk l 4), (5, lk l 5)], q1.2.1, q1.2.2⟩ r := reg (keep := [0, 3, 4, 5]) (ops := c24r4) rfl (by kernel_rfl) (by kernel_rfl)
def c24r6 : List Seg := [
  .one ⟨some 16, .mv (.t 6), none⟩,
  .one ⟨some 17, .bin .add (.t 16) (.c (.int .i64 1)), none⟩,
  .one ⟨some 6, .mv (.t 17), none⟩]
def c24k6 : ICode := .kill (dead 40 [0, 3, 4, 5, 6]) (.ops c24r6)
@[simp] theorem uc24k6 : Ex F cx (.code c24k6 :: k) ⟨mk 40 l, rows, low⟩ r ↔ bnd (evP rows (.bin .add (.c (lk l 6)) (.c (.int .i64 1)))) fun v0 => Ex F cx k ⟨mk 40 [(6, v0), (17, v0), (16, lk l 6), (0, lk l 0), (3, lk l 3), (4, lk l 4), (5, lk l 5), (6, lk l 6)], rows, low⟩ r := reg (keep := [0, 3, 4, 5, 6]) (ops := c24r6) rfl (by kernel_rfl) (by kernel_rfl)
def c24r7 : List Seg := [
  .grp [(⟨some 18, .mv (.t 5), none⟩, 0), (⟨some 19, .mv (.t 3), none⟩, 0), (⟨some 20, .mv (.t 6), none⟩, 0), (⟨some 21, .idxS 1 (.t 19) (.t 20), none⟩, 6), (⟨some 22, .load1 (.t 21), none⟩, 14), (⟨some 23, .mv (.t 3), none⟩, 0), (⟨some 24, .mv (.t 4), none⟩, 0), (⟨some 25, .bin .sub (.t 24) (.c (.int .i64 1)), none⟩, 64), (⟨some 26, .mv (.t 6), none⟩, 0), (⟨some 27, .bin .sub (.t 25) (.t 26), none⟩, 448), (⟨some 28, .idxS 1 (.t 23) (.t 27), none⟩, 992), (⟨some 29, .load1 (.t 28), none⟩, 2016), (⟨some 30, .bin .mul (.t 22) (.t 29), none⟩, 4094)],
  .one ⟨some 31, .bin .add (.t 18) (.t 30), none⟩,
  .one ⟨some 5, .mv (.t 31), none⟩]
def c24k7 : ICode := .kill (dead 40 [0, 3, 4, 5, 6]) (.ops c24r7)
@[simp] theorem uc24k7 : Ex F cx (.code c24k7 :: k) ⟨mk 40 l, rows, low⟩ r ↔ bnd (evP rows (.idxS 1 (.c (lk l 3)) (.c (lk l 6)))) fun v0 => bnd (evP rows (.load1 (.c v0))) fun v1 => bnd (evP rows (.bin .sub (.c (lk l 4)) (.c (.int .i64 1)))) fun v2 => bnd (evP rows (.bin .sub (.c v2) (.c (lk l 6)))) fun v3 => bnd (evP rows (.idxS 1 (.c (lk l 3)) (.c v3))) fun v4 => bnd (evP rows (.load1 (.c v4))) fun v5 => bnd (evP rows (.bin .mul (.c v1) (.c v5))) fun v6 => bnd (evP rows (.bin .add (.c (lk l 5)) (.c v6))) fun v7 => Ex F cx k ⟨mk 40 [(5, v7), (31, v7), (30, v6), (29, v5), (28, v4), (27, v3), (26, lk l 6), (25, v2), (24, lk l 4), (23, lk l 3), (22, v1), (21, v0), (20, lk l 6), (19, lk l 3), (18, lk l 5), (0, lk l 0), (3, lk l 3), (4, lk l 4), (5, lk l 5), (6, lk l 6)], rows, low⟩ r := reg (keep := [0, 3, 4, 5, 6]) (ops := c24r7) rfl (by kernel_rfl) (by kernel_rfl)
def c24s8 : ICode := (.seq (.block 3 c24k7) c24k6)
@[simp] theorem uc24s8 : Ex F cx (.code c24s8 :: k) s r ↔ Ex F cx (.code (.seq (.block 3 c24k7) c24k6) :: k) s r := Iff.rfl
def c24s9 : ICode := (.cond (.t 15) .skip (.exit 2))
@[simp] theorem uc24s9 : Ex F cx (.code c24s9 :: k) s r ↔ Ex F cx (.code (.cond (.t 15) .skip (.exit 2)) :: k) s r := Iff.rfl
def c24r10 : List Seg := [
  .one ⟨some 13, .mv (.t 6), none⟩,
  .one ⟨some 14, .mv (.t 4), none⟩,
  .one ⟨some 15, .bin .lss (.t 13) (.t 14), none⟩]
def c24k10 : ICode := .kill (dead 40 [0, 3, 4, 5, 6]) (.ops c24r10)
@[simp] theorem uc24k10 : Ex F cx (.code c24k10 :: k) ⟨mk 40 l, rows, low⟩ r ↔ bnd (evP rows (.bin .lss (.c (lk l 6)) (.c (lk l 4)))) fun v0 => Ex F cx k ⟨mk 40 [(15, v0), (14, lk l 4), (13, lk l 6), (0, lk l 0), (3, lk l 3), (4, lk l 4), (5, lk l 5), (6, lk l 6)], rows, low⟩ r := reg (keep := [0, 3, 4, 5, 6]) (ops := c24r10) rfl (by kernel_rfl) (by kernel_rfl)
def c24l5 : ICode := (.seq (.seq c24k10 c24s9) c24s8)
def c24s11 : ICode := (.block 2 (.loop c24l5))
@[simp] theorem uc24s11 : Ex F cx (.code c24s11 :: k) s r ↔ Ex F cx (.code (.block 2 (.loop c24l5)) :: k) s r := Iff.rfl
def c24r12 : List Seg := [
  .one ⟨some 6, .mv (.c (.int .i64 0)), none⟩]
def c24k12 : ICode := .kill (dead 40 [0, 3, 4, 5]) (.ops c24r12)
@[simp] theorem uc24k12 : Ex F cx (.code c24k12 :: k) ⟨mk 40 l, rows, low⟩ r ↔ Ex F cx k ⟨mk 40 [(6, (.int .i64 0)), (0, lk l 0), (3, lk l 3), (4, lk l 4), (5, lk l 5)], rows, low⟩ r := reg (keep := [0, 3, 4, 5]) (ops := c24r12) rfl (by kernel_rfl) (by kernel_rfl)
def c24s13 : ICode := (.seq (.seq c24k12 c24s11) c24k4)
@[simp] theorem uc24s13 : Ex F cx (.code c24s13 :: k) s r ↔ Ex F cx (.code (.seq (.seq c24k12 c24s11) c24k4) :: k) s r := Iff.rfl
def c24r14 : List Seg := [
  .one ⟨some 5, .mv (.c (.int .i64 0)), none⟩]
def c24k14 : ICode := .kill (dead 40 [0, 3, 4]) (.ops c24r14)
@[simp] theorem uc24k14 : Ex F cx (.code c24k14 :: k) ⟨mk 40 l, rows, low⟩ r ↔ Ex F cx k ⟨mk 40 [(5, (.int .i64 0)), (0, lk l 0), (3, lk l 3), (4, lk l 4)], rows, low⟩ r := reg (keep := [0, 3, 4]) (ops := c24r14) rfl (by kernel_rfl) (by kernel_rfl)
def c24s15 : ICode := (.seq (.block 1 (.seq c24k14 c24s13)) c24k3)
@[simp] theorem uc24s15 : Ex F cx (.code c24s15 :: k) s r ↔ Ex F cx (.code (.seq (.block 1 (.seq c24k14 c24s13)) c24k3) :: k) s r := Iff.rfl
def c24s16 : ICode := (.cond (.t 10) .skip (.exit 0))
@[simp] theorem uc24s16 : Ex F cx (.code c24s16 :: k) s r ↔ Ex F cx (.code (.cond (.t 10) .skip (.exit 0)) :: k) s r := Iff.rfl
def c24r17 : List Seg := [
  .one ⟨some 8, .mv (.t 4), none⟩,
  .one ⟨some 9, .mv (.t 0), none⟩,
  .one ⟨some 10, .bin .leq (.t 8) (.t 9), none⟩]
def c24k17 : ICode := .kill (dead 40 [0, 3, 4]) (.ops c24r17)
@[simp] theorem uc24k17 : Ex F cx (.code c24k17 :: k) ⟨mk 40 l, rows, low⟩ r ↔ bnd (evP rows (.bin .leq (.c (lk l 4)) (.c (lk l 0)))) fun v0 => Ex F cx k ⟨mk 40 [(10, v0), (9, lk l 0), (8, lk l 4), (0, lk l 0), (3, lk l 3), (4, lk l 4)], rows, low⟩ r := reg (keep := [0, 3, 4]) (ops := c24r17) rfl (by kernel_rfl) (by kernel_rfl)
def c24l2 : ICode := (.seq (.seq c24k17 c24s16) c24s15)
def c24s18 : ICode := (.block 0 (.loop c24l2))
@[simp] theorem uc24s18 : Ex F cx (.code c24s18 :: k) s r ↔ Ex F cx (.code (.block 0 (.loop c24l2)) :: k) s r := Iff.rfl
def c24r19 : List Seg := [
  .one ⟨some 4, .mv (.c (.int .i64 1)), none⟩]
def c24k19 : ICode := .kill (dead 40 [0, 3]) (.ops c24r19)
@[simp] theorem uc24k19 : Ex F cx (.code c24k19 :: k) ⟨mk 40 l, rows, low⟩ r ↔ Ex F cx k ⟨mk 40 [(4, (.int .i64 1)), (0, lk l 0), (3, lk l 3)], rows, low⟩ r := reg (keep := [0, 3]) (ops := c24r19) rfl (by kernel_rfl) (by kernel_rfl)
def c24s20 : ICode := (.seq (.seq c24k19 c24s18) c24s1)
@[simp] theorem uc24s20 : Ex F cx (.code c24s20 :: k) s r ↔ Ex F cx (.code (.seq (.seq c24k19 c24s18) c24s1) :: k) s r := Iff.rfl
def c24r21 : List Seg := [
  .one ⟨some 7, .mkslice 1 [.int .i64 0] [(0, 1, (.c (.int .i64 1)))], none⟩,
  .one ⟨some 3, .mv (.t 7), none⟩]
def c24k21 : ICode := .kill (dead 40 [0]) (.ops c24r21)
@[simp] theorem uc24k21 : Ex F cx (.code c24k21 :: k) ⟨mk 40 l, rows, low⟩ r ↔ bnd (evE rows low (.mkslice 1 [.int .i64 0] [(0, 1, (.c (.int .i64 1)))])) fun q0 => Ex F cx k ⟨mk 40 [(3, q0.1), (7, q0.1), (0, lk l 0)], q0.2.1, q0.2.2⟩ r := reg (keep := [0]) (ops := c24r21) rfl (by kernel_rfl) (by kernel_rfl)
def c24s22 : ICode := (.seq c24k21 c24s20)
@[simp] theorem uc24s22 : Ex F cx (.code c24s22 :: k) s r ↔ Ex F cx (.code (.seq c24k21 c24s20) :: k) s r := Iff.rfl
def c24r23 : List Seg := [
  .one ⟨some 2, .mv (.c (.int .i64 0)), none⟩]
def c24k23 : ICode := .kill (dead 40 [0]) (.ops c24r23)
@[simp] theorem uc24k23 : Ex F cx (.code c24k23 :: k) ⟨mk 40 l, rows, low⟩ r ↔ Ex F cx k ⟨mk 40 [(2, (.int .i64 0)), (0, lk l 0)], rows, low⟩ r := reg (keep := [0]) (ops := c24r23) rfl (by kernel_rfl) (by kernel_rfl)
def Jc24s8 (F : Nat → Option IFn) (cx : Ctx) (x0 x3 x4 x5 x6 : AV) (rows : List Row) (low : Nat) (r : AV × List Row × Nat → Prop) : Prop := Ex F cx (.code c24s8 :: .inLoop c24l5 :: .inBlock 2 :: .code c24k4 :: .inBlock 1 :: .code c24k3 :: .inLoop c24l2 :: .inBlock 0 :: .code c24s1 :: []) ⟨mk 40 [(0, x0), (3, x3), (4, x4), (5, x5), (6, x6)], rows, low⟩ r
theorem jc24s8 : Ex F cx (.code c24s8 :: .inLoop c24l5 :: .inBlock 2 :: .code c24k4 :: .inBlock 1 :: .code c24k3 :: .inLoop c24l2 :: .inBlock 0 :: .code c24s1 :: []) ⟨mk 40 l, rows, low⟩ r ↔ Jc24s8 F cx (lk l 0) (lk l 3) (lk l 4) (lk l 5) (lk l 6) rows low r := Ex_canon (keep := [0, 3, 4, 5, 6]) (by kernel_rfl)
def Lc24l5 (F : Nat → Option IFn) (cx : Ctx) (x0 x3 x4 x5 x6 : AV) (rows : List Row) (low : Nat) (r : AV × List Row × Nat → Prop) : Prop := Ex F cx (.code c24l5 :: .inLoop c24l5 :: .inBlock 2 :: .code c24k4 :: .inBlock 1 :: .code c24k3 :: .inLoop c24l2 :: .inBlock 0 :: .code c24s1 :: []) ⟨mk 40 [(0, x0), (3, x3), (4, x4), (5, x5), (6, x6)], rows, low⟩ r
@[simp] theorem nc24l5 : Ex F cx (.inLoop c24l5 :: .inBlock 2 :: .code c24k4 :: .inBlock 1 :: .code c24k3 :: .inLoop c24l2 :: .inBlock 0 :: .code c24s1 :: []) ⟨mk 40 l, rows, low⟩ r ↔ Lc24l5 F cx (lk l 0) (lk l 3) (lk l 4) (lk l 5) (lk l 6) rows low r := loopN (keep := [0, 3, 4, 5, 6]) (by kernel_rfl)
@[simp] theorem ec24l5 : Ex F cx (.code (.loop c24l5) :: .inBlock 2 :: .code c24k4 :: .inBlock 1 :: .code c24k3 :: .inLoop c24l2 :: .inBlock 0 :: .code c24s1 :: []) ⟨mk 40 l, rows, low⟩ r ↔ Lc24l5 F cx (lk l 0) (lk l 3) (lk l 4) (lk l 5) (lk l 6) rows low r := loopE (keep := [0, 3, 4, 5, 6]) (by kernel_rfl)
@[simp] theorem uc24l5 : Ex F cx (.code c24l5 :: k) s r ↔ Ex F cx (.code (.seq (.seq c24k10 c24s9) c24s8) :: k) s r := Iff.rfl
def Jc24s15 (F : Nat → Option IFn) (cx : Ctx) (x0 x3 x4 : AV) (rows : List Row) (low : Nat) (r : AV × List Row × Nat → Prop) : Prop := Ex F cx (.code c24s15 :: .inLoop c24l2 :: .inBlock 0 :: .code c24s1 :: []) ⟨mk 40 [(0, x0), (3, x3), (4, x4)], rows, low⟩ r
theorem jc24s15 : Ex F cx (.code c24s15 :: .inLoop c24l2 :: .inBlock 0 :: .code c24s1 :: []) ⟨mk 40 l, rows, low⟩ r ↔ Jc24s15 F cx (lk l 0) (lk l 3) (lk l 4) rows low r := Ex_canon (keep := [0, 3, 4]) (by kernel_rfl)
def Lc24l2 (F : Nat → Option IFn) (cx : Ctx) (x0 x3 x4 : AV) (rows : List Row) (low : Nat) (r : AV × List Row × Nat → Prop) : Prop := Ex F cx (.code c24l2 :: .inLoop c24l2 :: .inBlock 0 :: .code c24s1 :: []) ⟨mk 40 [(0, x0), (3, x3), (4, x4)], rows, low⟩ r
@[simp] theorem nc24l2 : Ex F cx (.inLoop c24l2 :: .inBlock 0 :: .code c24s1 :: []) ⟨mk 40 l, rows, low⟩ r ↔ Lc24l2 F cx (lk l 0) (lk l 3) (lk l 4) rows low r := loopN (keep := [0, 3, 4]) (by kernel_rfl)
@[simp] theorem ec24l2 : Ex F cx (.code (.loop c24l2) :: .inBlock 0 :: .code c24s1 :: []) ⟨mk 40 l, rows, low⟩ r ↔ Lc24l2 F cx (lk l 0) (lk l 3) (lk l 4) rows low r := loopE (keep := [0, 3, 4]) (by kernel_rfl)
@[simp] theorem uc24l2 : Ex F cx (.code c24l2 :: k) s r ↔ Ex F cx (.code (.seq (.seq c24k17 c24s16) c24s15) :: k) s r := Iff.rfl
def c24b : ICode := (.seq c24k23 c24s22)
@[simp] theorem uc24b : Ex F cx (.code c24b :: k) s r ↔ Ex F cx (.code (.seq c24k23 c24s22) :: k) s r := Iff.rfl
def c24 : IFn := ⟨40, [.t 2], c24b⟩
def h24 : List (Nat × List Nat) := [(0, dead 40 [0]), (1, dead 40 [0]), (2, dead 40 [0, 3]), (3, dead 40 [0, 3, 4]), (5, dead 40 [0, 3, 4]), (6, dead 40 [0, 3, 4, 5]), (7, dead 40 [0, 3, 4, 5, 6]), (9, dead 40 [0, 3, 4, 5, 6]), (8, dead 40 [0, 3, 4, 5, 6]), (10, dead 40 [0, 3, 4, 5]), (4, dead 40 [0, 3, 4]), (11, dead 40 [0, 3])]
theorem i24 {x0 : AV} (hF : F 24 = some c24) {q : AV × List Row × Option Nat} (h : Ex F (.fn [.t 2]) [.code c24b] ⟨mk 40 [(0, x0)], rows, rows.length⟩ fun r => fin rows r.1 r.2.1 r.2.2 = q) : Ret F 24 [x0] rows = some q := Ret_mk hF h
/-! tosher/tosherlaw08.costs -/
def c25r0 : List Seg := [
  .one ⟨some 26, .mv (.t 3), none⟩,
  .one ⟨some 2, .mv (.t 26), none⟩]
def c25k0 : ICode := .kill (dead 27 [3]) (.ops c25r0)
@[simp] theorem uc25k0 : Ex F cx (.code c25k0 :: k) ⟨mk 27 l, rows, low⟩ r ↔ Ex F cx k ⟨mk 27 [(2, lk l 3), (26, lk l 3), (3, lk l 3)], rows, low⟩ r := reg (keep := [3]) (ops := c25r0) rfl (by kernel_rfl) (by kernel_rfl)
def c25s1 : ICode := (.seq c25k0 .ret)
@[simp] theorem uc25s1 : Ex F cx (.code c25s1 :: k) s r ↔ Ex F cx (.code (.seq c25k0 .ret) :: k) s r := Iff.rfl
def c25r3 : List Seg := [
  .one ⟨some 13, .mv (.t 4), none⟩,
  .one ⟨some 14, .bin .add (.t 13) (.c (.int .i64 1)), none⟩,
  .one ⟨some 4, .mv (.t 14), none⟩]
def c25k3 : ICode := .kill (dead 27 [0, 3, 4]) (.ops c25r3)
@[simp] theorem uc25k3 : Ex F cx (.code c25k3 :: k) ⟨mk 27 l, rows, low⟩ r ↔ bnd (evP rows (.bin .add (.c (lk l 4)) (.c (.int .i64 1)))) fun v0 => Ex F cx k ⟨mk 27 [(4, v0), (14, v0), (13, lk l 4), (0, lk l 0), (3, lk l 3), (4, lk l 4)], rows, low⟩ r := reg (keep := [0, 3, 4]) (ops := c25r3) rfl (by kernel_rfl) (by kernel_rfl)
def c25r4 : List Seg := [
  .one ⟨some 15, .mv (.t 3), none⟩,
  .one ⟨some 16, .mv (.t 0), none⟩,
  .one ⟨some 17, .mv (.t 4), none⟩,
  .one ⟨some 18, .idxS 1 (.t 16) (.t 17), none⟩,
  .one ⟨some 19, .load1 (.t 18), none⟩,
  .one ⟨some 20, .conv .u64 (.t 19), none⟩,
  .one ⟨some 21, .bin .rem (.t 20) (.c (.int .u64 1000)), none⟩,
  .one ⟨some 22, .conv .i64 (.t 21), none⟩,
  .one ⟨some 23, .bin .add (.c (.int .i64 1)) (.t 22), none⟩,
  .one ⟨some 24, .mkslice 1 [.int .i64 0] [(0, 1, (.t 23))], none⟩,
  .one ⟨some 25, .app 1 8 (.t 15) (.t 24), none⟩,
  .one ⟨some 3, .mv (.t 25), none⟩]
def c25k4 : ICode := .kill (dead 27 [0, 3, 4]) (.ops c25r4)
@[simp] theorem uc25k4 : Ex F cx (.code c25k4 :: k) ⟨mk 27 l, rows, low⟩ r ↔ bnd (evP rows (.idxS 1 (.c (lk l 0)) (.c (lk l 4)))) fun v0 => bnd (evP rows (.load1 (.c v0))) fun v1 => bnd (evP rows (.conv .u64 (.c v1))) fun v2 => bnd (evP rows (.bin .rem (.c v2) (.c (.int .u64 1000)))) fun v3 => bnd (evP rows (.conv .i64 (.c v3))) fun v4 => bnd (evP rows (.bin .add (.c (.int .i64 1)) (.c v4))) fun v5 => bnd (evE rows low (.mkslice 1 [.int .i64 0] [(0, 1, (.c v5))])) fun q6 => bnd (evE q6.2.1 q6.2.2 (.app 1 8 (.c (lk l 3)) (.c q6.1))) fun q7 => Ex F cx k ⟨mk 27 [(3, q7.1), (25, q7.1), (24, q6.1), (23, v5), (22, v4), (21, v3), (20, v2), (19, v1), (18, v0), (17, lk l 4), (16, lk l 0), (15, lk l 3), (0, lk l 0), (3, lk l 3), (4, lk l 4)], q7.2.1, q7.2.2⟩ r := reg (keep := [0, 3, 4]) (ops := c25r4) rfl (by kernel_rfl) (by kernel_rfl)
def c25s5 : ICode := (.seq (.block 1 c25k4) c25k3)
@[simp] theorem uc25s5 : Ex F cx (.code c25s5 :: k) s r ↔ Ex F cx (.code (.seq (.block 1 c25k4) c25k3) :: k) s r := Iff.rfl
def c25s6 : ICode := (.cond (.t 12) .skip (.exit 0))
@[simp] theorem uc25s6 : Ex F cx (.code c25s6 :: k) s r ↔ Ex F cx (.code (.cond (.t 12) .skip (.exit 0)) :: k) s r := Iff.rfl
def c25r7 : List Seg := [
  .one ⟨some 5, .mv (.t 4), none⟩,
  .one ⟨some 6, .mv (.t 0), none⟩,
  .one ⟨some 7, .len 0 (.t 6), none⟩,
  .one ⟨some 8, .bin .lss (.t 5) (.t 7), none⟩,
  .one ⟨some 9, .mv (.t 8), none⟩,
  .one ⟨some 10, .mv (.t 4), some (9, true)⟩,
  .one ⟨some 11, .bin .lss (.t 10) (.c (.int .i64 12)), some (9, true)⟩,
  .one ⟨some 12, .pick (.t 9) (.t 11) (.c (.bool false)), none⟩]
def c25k7 : ICode := .kill (dead 27 [0, 3, 4]) (.ops c25r7)
@[simp] theorem uc25k7 : Ex F cx (.code c25k7 :: k) ⟨mk 27 l, rows, low⟩ r ↔ bnd (evP rows (.len 0 (.c (lk l 0)))) fun v0 => bnd (evP rows (.bin .lss (.c (lk l 4)) (.c v0))) fun v1 => bnd (gv v1 true (evP rows (.mv (.c (lk l 4))))) fun v2 => bnd (gv v1 true (evP rows (.bin .lss (.c v2) (.c (.int .i64 12))))) fun v3 => bnd (evP rows (.pick (.c v1) (.c v3) (.c (.bool false)))) fun v4 => Ex F cx k ⟨mk 27 [(12, v4), (11, v3), (10, v2), (9, v1), (8, v1), (7, v0), (6, lk l 0), (5, lk l 4), (0, lk l 0), (3, lk l 3), (4, lk l 4)], rows, low⟩ r := reg (keep := [0, 3, 4]) (ops := c25r7) rfl (by kernel_rfl) (by kernel_rfl)
def c25l2 : ICode := (.seq (.seq c25k7 c25s6) c25s5)
def c25s8 : ICode := (.block 0 (.loop c25l2))
@[simp] theorem uc25s8 : Ex F cx (.code c25s8 :: k) s r ↔ Ex F cx (.code (.block 0 (.loop c25l2)) :: k) s r := Iff.rfl
def c25r9 : List Seg := [
  .one ⟨some 4, .mv (.c (.int .i64 0)), none⟩]
def c25k9 : ICode := .kill (dead 27 [0, 3]) (.ops c25r9)
@[simp] theorem uc25k9 : Ex F cx (.code c25k9 :: k) ⟨mk 27 l, rows, low⟩ r ↔ Ex F cx k ⟨mk 27 [(4, (.int .i64 0)), (0, lk l 0), (3, lk l 3)], rows, low⟩ r := reg (keep := [0, 3]) (ops := c25r9) rfl (by kernel_rfl) (by kernel_rfl)
def c25s10 : ICode := (.seq (.seq c25k9 c25s8) c25s1)
@[simp] theorem uc25s10 : Ex F cx (.code c25s10 :: k) s r ↔ Ex F cx (.code (.seq (.seq c25k9 c25s8) c25s1) :: k) s r := Iff.rfl
def c25r11 : List Seg := [
  .one ⟨some 3, .mv (.c .nilslice), none⟩]
def c25k11 : ICode := .kill (dead 27 [0]) (.ops c25r11)
@[simp] theorem uc25k11 : Ex F cx (.code c25k11 :: k) ⟨mk 27 l, rows, low⟩ r ↔ Ex F cx k ⟨mk 27 [(3, .nilslice), (0, lk l 0)], rows, low⟩ r := reg (keep := [0]) (ops := c25r11) rfl (by kernel_rfl) (by kernel_rfl)
def c25s12 : ICode := (.seq c25k11 c25s10)
@[simp] theorem uc25s12 : Ex F cx (.code c25s12 :: k) s r ↔ Ex F cx (.code (.seq c25k11 c25s10) :: k) s r := Iff.rfl
def c25r13 : List Seg := [
  .one ⟨some 2, .mv (.c .nilslice), none⟩]
def c25k13 : ICode := .kill (dead 27 [0]) (.ops c25r13)
@[simp] theorem uc25k13 : Ex F cx (.code c25k13 :: k) ⟨mk 27 l, rows, low⟩ r ↔ Ex F cx k ⟨mk 27 [(2, .nilslice), (0, lk l 0)], rows, low⟩ r := reg (keep := [0]) (ops := c25r13) rfl (by kernel_rfl) (by kernel_rfl)
def Jc25s5 (F : Nat → Option IFn) (cx : Ctx) (x0 x3 x4 : AV) (rows : List Row) (low : Nat) (r : AV × List Row × Nat → Prop) : Prop := Ex F cx (.code c25s5 :: .inLoop c25l2 :: .inBlock 0 :: .code c25s1 :: []) ⟨mk 27 [(0, x0), (3, x3), (4, x4)], rows, low⟩ r
theorem jc25s5 : Ex F cx (.code c25s5 :: .inLoop c25l2 :: .inBlock 0 :: .code c25s1 :: []) ⟨mk 27 l, rows, low⟩ r ↔ Jc25s5 F cx (lk l 0) (lk l 3) (lk l 4) rows low r := Ex_canon (keep := [0, 3, 4]) (by kernel_rfl)
def Lc25l2 (F : Nat → Option IFn) (cx : Ctx) (x0 x3 x4 : AV) (rows : List Row) (low : Nat) (r : AV × List Row × Nat → Prop) : Prop := Ex F cx (.code c25l2 :: .inLoop c25l2 :: .inBlock 0 :: .code c25s1 :: []) ⟨mk 27 [(0, x0), (3, x3), (4, x4)], rows, low⟩ r
@[simp] theorem nc25l2 : Ex F cx (.inLoop c25l2 :: .inBlock 0 :: .code c25s1 :: []) ⟨mk 27 l, rows, low⟩ r ↔ Lc25l2 F cx (lk l 0) (lk l 3) (lk l 4) rows low r := loopN (keep := [0, 3, 4]) (by kernel_rfl)
@[simp] theorem ec25l2 : Ex F cx (.code (.loop c25l2) :: .inBlock 0 :: .code c25s1 :: []) ⟨mk 27 l, rows, low⟩ r ↔ Lc25l2 F cx (lk l 0) (lk l 3) (lk l 4) rows low r := loopE (keep := [0, 3, 4]) (by kernel_rfl)
@[simp] theorem uc25l2 : Ex F cx (.code c25l2 :: k) s r ↔ Ex F cx (.code (.seq (.seq c25k7 c25s6) c25s5) :: k) s r := Iff.rfl
def c25b : ICode := (.seq c25k13 c25s12)
@[simp] theorem uc25b : Ex F cx (.code c25b :: k) s r ↔ Ex F cx (.code (.seq c25k13 c25s12) :: k) s r := Iff.rfl
def c25 : IFn := ⟨27, [.t 2], c25b⟩
def h25 : List (Nat × List Nat) := [(0, dead 27 [0]), (1, dead 27 [0]), (2, dead 27 [0, 3]), (3, dead 27 [0, 3, 4]), (5, dead 27 [0, 3, 4]), (4, dead 27 [0, 3, 4]), (6, dead 27 [3])]
theorem i25 {x0 : AV} (hF : F 25 = some c25) {q : AV × List Row × Option Nat} (h : Ex F (.fn [.t 2]) [.code c25b] ⟨mk 27 [(0, x0)], rows, rows.length⟩ fun r => fin rows r.1 r.2.1 r.2.2 = q) : Ret F 25 [x0] rows = some q := Ret_mk hF h
/-! tosher/tosherlaw08.few -/
def c26r0 : List Seg := [
  .one ⟨some 6, .mv (.t 5), none⟩,
  .one ⟨some 7, .mv (.t 0), none⟩,
  .one ⟨some 8, .mv (.t 0), none⟩,
  .one ⟨some 9, .len 0 (.t 8), none⟩,
  .one ⟨some 10, .mv (.t 1), none⟩,
  .one ⟨some 11, .mn [(.t 9), (.t 10)], none⟩,
  .one ⟨some 12, .sliceS 1 (.t 7) none (some (.t 11)) none, none⟩,
  .one ⟨some 13, .app 1 8 (.t 6) (.t 12), none⟩,
  .one ⟨some 4, .mv (.t 13), none⟩]
def c26k0 : ICode := .kill (dead 14 [0, 1, 5]) (.ops c26r0)
@[simp] theorem uc26k0 : Ex F cx (.code c26k0 :: k) ⟨mk 14 l, rows, low⟩ r ↔ bnd (evP rows (.len 0 (.c (lk l 0)))) fun v0 => bnd (evP rows (.mn [(.c v0), (.c (lk l 1))])) fun v1 => bnd (evP rows (.sliceS 1 (.c (lk l 0)) none (some (.c v1)) none)) fun v2 => bnd (evE rows low (.app 1 8 (.c (lk l 5)) (.c v2))) fun q3 => Ex F cx k ⟨mk 14 [(4, q3.1), (13, q3.1), (12, v2), (11, v1), (10, lk l 1), (9, v0), (8, lk l 0), (7, lk l 0), (6, lk l 5), (0, lk l 0), (1, lk l 1), (5, lk l 5)], q3.2.1, q3.2.2⟩ r := reg (keep := [0, 1, 5]) (ops := c26r0) rfl (by kernel_rfl) (by kernel_rfl)
def c26s1 : ICode := (.seq c26k0 .ret)
@[simp] theorem uc26s1 : Ex F cx (.code c26s1 :: k) s r ↔ Ex F cx (.code (.seq c26k0 .ret) :: k) s r := Iff.rfl
def c26r2 : List Seg := [
  .one ⟨some 5, .mv (.c .nilslice), none⟩]
def c26k2 : ICode := .kill (dead 14 [0, 1]) (.ops c26r2)
@[simp] theorem uc26k2 : Ex F cx (.code c26k2 :: k) ⟨mk 14 l, rows, low⟩ r ↔ Ex F cx k ⟨mk 14 [(5, .nilslice), (0, lk l 0), (1, lk l 1)], rows, low⟩ r := reg (keep := [0, 1]) (ops := c26r2) rfl (by kernel_rfl) (by kernel_rfl)
def c26s3 : ICode := (.seq c26k2 c26s1)
@[simp] theorem uc26s3 : Ex F cx (.code c26s3 :: k) s r ↔ Ex F cx (.code (.seq c26k2 c26s1) :: k) s r := Iff.rfl
def c26r4 : List Seg := [
  .one ⟨some 4, .mv (.c .nilslice), none⟩]
def c26k4 : ICode := .kill (dead 14 [0, 1]) (.ops c26r4)
@[simp] theorem uc26k4 : Ex F cx (.code c26k4 :: k) ⟨mk 14 l, rows, low⟩ r ↔ Ex F cx k ⟨mk 14 [(4, .nilslice), (0, lk l 0), (1, lk l 1)], rows, low⟩ r := reg (keep := [0, 1]) (ops := c26r4) rfl (by kernel_rfl) (by kernel_rfl)
def c26b : ICode := (.seq c26k4 c26s3)
@[simp] theorem uc26b : Ex F cx (.code c26b :: k) s r ↔ Ex F cx (.code (.seq c26k4 c26s3) :: k) s r := Iff.rfl
def c26 : IFn := ⟨14, [.t 4], c26b⟩
def h26 : List (Nat × List Nat) := [(0, dead 14 [0, 1]), (1, dead 14 [0, 1]), (2, dead 14 [0, 1, 5])]
theorem i26 {x0 x1 : AV} (hF : F 26 = some c26) {q : AV × List Row × Option Nat} (h : Ex F (.fn [.t 4]) [.code c26b] ⟨mk 14 [(0, x0), (1, x1)], rows, rows.length⟩ fun r => fin rows r.1 r.2.1 r.2.2 = q) : Ret F 26 [x0, x1] rows = some q := Ret_mk hF h
/-! tosher/tosherlaw08.plan -/
def c27r0 : List Seg := [
  .one ⟨some 41, .mv (.t 8), none⟩,
  .one ⟨some 42, .mv (.t 0), none⟩,
  .one ⟨some 43, .mv (.t 7), none⟩,
  .one ⟨some 44, .bin .add (.t 43) (.c (.int .i64 1)), none⟩,
  .one ⟨some 45, .mv (.t 2), none⟩,
  .one ⟨some 46, .call (.c (.func 27 [])) [(.t 42), (.t 44), (.t 45)], none⟩,
  .one ⟨some 47, .app 1 8 (.t 41) (.t 46), none⟩,
  .one ⟨some 6, .mv (.t 47), none⟩]
def c27k0 : ICode := .kill (dead 48 [0, 2, 7, 8]) (.ops c27r0)
@[simp] theorem uc27k0 : Ex F cx (.code c27k0 :: k) ⟨mk 48 l, rows, low⟩ r ↔ bnd (evP rows (.bin .add (.c (lk l 7)) (.c (.int .i64 1)))) fun v0 => bnd (Ret F 27 [lk l 0, v0, lk l 2] rows) fun q1 => bnd (evE q1.2.1 (lowO low q1.2.2) (.app 1 8 (.c (lk l 8)) (.c q1.1))) fun q2 => Ex F cx k ⟨mk 48 [(6, q2.1), (47, q2.1), (46, q1.1), (45, lk l 2), (44, v0), (43, lk l 7), (42, lk l 0), (41, lk l 8), (0, lk l 0), (2, lk l 2), (7, lk l 7), (8, lk l 8)], q2.2.1, q2.2.2⟩ r := reg (keep := [0, 2, 7, 8]) (ops := c27r0) rfl (by kernel_rfl) (by kernel_rfl)
def c27s1 : ICode := (.seq c27k0 .ret)
@[simp] theorem uc27s1 : Ex F cx (.code c27s1 :: k) s r ↔ Ex F cx (.code (.seq c27k0 .ret) :: k) s r := Iff.rfl
def c27r2 : List Seg := [
  .one ⟨some 34, .mv (.t 7), none⟩,
  .one ⟨some 35, .mkslice 1 [.int .i64 0] [(0, 1, (.t 34))], none⟩,
  .one ⟨some 36, .mv (.t 0), none⟩,
  .one ⟨some 37, .mv (.t 1), none⟩,
  .one ⟨some 38, .mv (.t 7), none⟩,
  .one ⟨some 39, .call (.c (.func 27 [])) [(.t 36), (.t 37), (.t 38)], none⟩,
  .one ⟨some 40, .app 1 8 (.t 35) (.t 39), none⟩,
  .one ⟨some 8, .mv (.t 40), none⟩]
def c27k2 : ICode := .kill (dead 48 [0, 1, 2, 7]) (.ops c27r2)
@[simp] theorem uc27k2 : Ex F cx (.code c27k2 :: k) ⟨mk 48 l, rows, low⟩ r ↔ bnd (evE rows low (.mkslice 1 [.int .i64 0] [(0, 1, (.c (lk l 7)))])) fun q0 => bnd (Ret F 27 [lk l 0, lk l 1, lk l 7] q0.2.1) fun q1 => bnd (evE q1.2.1 (lowO q0.2.2 q1.2.2) (.app 1 8 (.c q0.1) (.c q1.1))) fun q2 => Ex F cx k ⟨mk 48 [(8, q2.1), (40, q2.1), (39, q1.1), (38, lk l 7), (37, lk l 1), (36, lk l 0), (35, q0.1), (34, lk l 7), (0, lk l 0), (1, lk l 1), (2, lk l 2), (7, lk l 7)], q2.2.1, q2.2.2⟩ r := reg (keep := [0, 1, 2, 7]) (ops := c27r2) rfl (by kernel_rfl) (by kernel_rfl)
def c27s3 : ICode := (.seq c27k2 c27s1)
@[simp] theorem uc27s3 : Ex F cx (.code c27s3 :: k) s r ↔ Ex F cx (.code (.seq c27k2 c27s1) :: k) s r := Iff.rfl
def c27r4 : List Seg := [
  .one ⟨some 16, .mv (.t 1), none⟩,
  .one ⟨some 17, .mv (.t 0), none⟩,
  .one ⟨some 18, .mv (.t 1), none⟩,
  .one ⟨some 19, .mv (.t 2), none⟩,
  .one ⟨some 20, .bin .add (.t 18) (.t 19), none⟩,
  .one ⟨some 21, .mv (.t 0), none⟩,
  .one ⟨some 22, .len 0 (.t 21), none⟩,
  .one ⟨some 23, .bin .rem (.t 20) (.t 22), none⟩,
  .one ⟨some 24, .idxS 1 (.t 17) (.t 23), none⟩,
  .one ⟨some 25, .load1 (.t 24), none⟩,
  .one ⟨some 26, .conv .u64 (.t 25), none⟩,
  .one ⟨some 27, .mv (.t 2), none⟩,
  .one ⟨some 28, .mv (.t 1), none⟩,
  .one ⟨some 29, .bin .sub (.t 27) (.t 28), none⟩,
  .one ⟨some 30, .conv .u64 (.t 29), none⟩,
  .one ⟨some 31, .bin .rem (.t 26) (.t 30), none⟩,
  .one ⟨some 32, .conv .i64 (.t 31), none⟩,
  .one ⟨some 33, .bin .add (.t 16) (.t 32), none⟩,
  .one ⟨some 7, .mv (.t 33), none⟩]
def c27k4 : ICode := .kill (dead 48 [0, 1, 2]) (.ops c27r4)
@[simp] theorem uc27k4 : Ex F cx (.code c27k4 :: k) ⟨mk 48 l, rows, low⟩ r ↔ bnd (evP rows (.bin .add (.c (lk l 1)) (.c (lk l 2)))) fun v0 => bnd (evP rows (.len 0 (.c (lk l 0)))) fun v1 => bnd (evP rows (.bin .rem (.c v0) (.c v1))) fun v2 => bnd (evP rows (.idxS 1 (.c (lk l 0)) (.c v2))) fun v3 => bnd (evP rows (.load1 (.c v3))) fun v4 => bnd (evP rows (.conv .u64 (.c v4))) fun v5 => bnd (evP rows (.bin .sub (.c (lk l 2)) (.c (lk l 1)))) fun v6 => bnd (evP rows (.conv .u64 (.c v6))) fun v7 => bnd (evP rows (.bin .rem (.c v5) (.c v7))) fun v8 => bnd (evP rows (.conv .i64 (.c v8))) fun v9 => bnd (evP rows (.bin .add (.c (lk l 1)) (.c v9))) fun v10 => Ex F cx k ⟨mk 48 [(7, v10), (33, v10), (32, v9), (31, v8), (30, v7), (29, v6), (28, lk l 1), (27, lk l 2), (26, v5), (25, v4), (24, v3), (23, v2), (22, v1), (21, lk l 0), (20, v0), (19, lk l 2), (18, lk l 1), (17, lk l 0), (16, lk l 1), (0, lk l 0), (1, lk l 1), (2, lk l 2)], rows, low⟩ r := reg (keep := [0, 1, 2]) (ops := c27r4) rfl (by kernel_rfl) (by kernel_rfl)
def c27s5 : ICode := (.cond (.t 15) c27k4 .skip)
@[simp] theorem uc27s5 : Ex F cx (.code c27s5 :: k) s r ↔ Ex F cx (.code (.cond (.t 15) c27k4 .skip) :: k) s r := Iff.rfl
def c27r6 : List Seg := [
  .one ⟨some 13, .mv (.t 0), none⟩,
  .one ⟨some 14, .len 0 (.t 13), none⟩,
  .one ⟨some 15, .bin .gtr (.t 14) (.c (.int .i64 0)), none⟩]
def c27k6 : ICode := .kill (dead 48 [0, 1, 2, 7]) (.ops c27r6)
@[simp] theorem uc27k6 : Ex F cx (.code c27k6 :: k) ⟨mk 48 l, rows, low⟩ r ↔ bnd (evP rows (.len 0 (.c (lk l 0)))) fun v0 => bnd (evP rows (.bin .gtr (.c v0) (.c (.int .i64 0)))) fun v1 => Ex F cx k ⟨mk 48 [(15, v1), (14, v0), (13, lk l 0), (0, lk l 0), (1, lk l 1), (2, lk l 2), (7, lk l 7)], rows, low⟩ r := reg (keep := [0, 1, 2, 7]) (ops := c27r6) rfl (by kernel_rfl) (by kernel_rfl)
def c27s7 : ICode := (.seq (.seq c27k6 c27s5) c27s3)
@[simp] theorem uc27s7 : Ex F cx (.code c27s7 :: k) s r ↔ Ex F cx (.code (.seq (.seq c27k6 c27s5) c27s3) :: k) s r := Iff.rfl
def c27r8 : List Seg := [
  .one ⟨some 12, .mv (.t 1), none⟩,
  .one ⟨some 7, .mv (.t 12), none⟩]
def c27k8 : ICode := .kill (dead 48 [0, 1, 2]) (.ops c27r8)
@[simp] theorem uc27k8 : Ex F cx (.code c27k8 :: k) ⟨mk 48 l, rows, low⟩ r ↔ Ex F cx k ⟨mk 48 [(7, lk l 1), (12, lk l 1), (0, lk l 0), (1, lk l 1), (2, lk l 2)], rows, low⟩ r := reg (keep := [0, 1, 2]) (ops := c27r8) rfl (by kernel_rfl) (by kernel_rfl)
def c27s9 : ICode := (.seq c27k8 c27s7)
@[simp] theorem uc27s9 : Ex F cx (.code c27s9 :: k) s r ↔ Ex F cx (.code (.seq c27k8 c27s7) :: k) s r := Iff.rfl
def c27r10 : List Seg := [
  .one ⟨some 6, .mv (.c .nilslice), none⟩]
def c27k10 : ICode := .kill (dead 48 []) (.ops c27r10)
@[simp] theorem uc27k10 : Ex F cx (.code c27k10 :: k) ⟨mk 48 l, rows, low⟩ r ↔ Ex F cx k ⟨mk 48 [(6, .nilslice)], rows, low⟩ r := reg (keep := []) (ops := c27r10) rfl (by kernel_rfl) (by kernel_rfl)
def c27s11 : ICode := (.cond (.t 11) (.seq c27k10 .ret) .skip)
@[simp] theorem uc27s11 : Ex F cx (.code c27s11 :: k) s r ↔ Ex F cx (.code (.cond (.t 11) (.seq c27k10 .ret) .skip) :: k) s r := Iff.rfl
def c27r12 : List Seg := [
  .one ⟨some 9, .mv (.t 1), none⟩,
  .one ⟨some 10, .mv (.t 2), none⟩,
  .one ⟨some 11, .bin .eql (.t 9) (.t 10), none⟩]
def c27k12 : ICode := .kill (dead 48 [0, 1, 2]) (.ops c27r12)
@[simp] theorem uc27k12 : Ex F cx (.code c27k12 :: k) ⟨mk 48 l, rows, low⟩ r ↔ bnd (evP rows (.bin .eql (.c (lk l 1)) (.c (lk l 2)))) fun v0 => Ex F cx k ⟨mk 48 [(11, v0), (10, lk l 2), (9, lk l 1), (0, lk l 0), (1, lk l 1), (2, lk l 2)], rows, low⟩ r := reg (keep := [0, 1, 2]) (ops := c27r12) rfl (by kernel_rfl) (by kernel_rfl)
def c27s13 : ICode := (.seq (.seq c27k12 c27s11) c27s9)
@[simp] theorem uc27s13 : Ex F cx (.code c27s13 :: k) s r ↔ Ex F cx (.code (.seq (.seq c27k12 c27s11) c27s9) :: k) s r := Iff.rfl
def c27r14 : List Seg := [
  .one ⟨some 6, .mv (.c .nilslice), none⟩]
def c27k14 : ICode := .kill (dead 48 [0, 1, 2]) (.ops c27r14)
@[simp] theorem uc27k14 : Ex F cx (.code c27k14 :: k) ⟨mk 48 l, rows, low⟩ r ↔ Ex F cx k ⟨mk 48 [(6, .nilslice), (0, lk l 0), (1, lk l 1), (2, lk l 2)], rows, low⟩ r := reg (keep := [0, 1, 2]) (ops := c27r14) rfl (by kernel_rfl) (by kernel_rfl)
def Jc27s3 (F : Nat → Option IFn) (cx : Ctx) (x0 x1 x2 x7 : AV) (rows : List Row) (low : Nat) (r : AV × List Row × Nat → Prop) : Prop := Ex F cx (.code c27s3 :: []) ⟨mk 48 [(0, x0), (1, x1), (2, x2), (7, x7)], rows, low⟩ r
theorem jc27s3 : Ex F cx (.code c27s3 :: []) ⟨mk 48 l, rows, low⟩ r ↔ Jc27s3 F cx (lk l 0) (lk l 1) (lk l 2) (lk l 7) rows low r := Ex_canon (keep := [0, 1, 2, 7]) (by kernel_rfl)
def Jc27s9 (F : Nat → Option IFn) (cx : Ctx) (x0 x1 x2 : AV) (rows : List Row) (low : Nat) (r : AV × List Row × Nat → Prop) : Prop := Ex F cx (.code c27s9 :: []) ⟨mk 48 [(0, x0), (1, x1), (2, x2)], rows, low⟩ r
theorem jc27s9 : Ex F cx (.code c27s9 :: []) ⟨mk 48 l, rows, low⟩ r ↔ Jc27s9 F cx (lk l 0) (lk l 1) (lk l 2) rows low r := Ex_canon (keep := [0, 1, 2]) (by kernel_rfl)
def c27b : ICode := (.seq c27k14 c27s13)
@[simp] theorem uc27b : Ex F cx (.code c27b :: k) s r ↔ Ex F cx (.code (.seq c27k14 c27s13) :: k) s r := Iff.rfl
def c27 : IFn := ⟨48, [.t 6], c27b⟩
def h27 : List (Nat × List Nat) := [(0, dead 48 [0, 1, 2]), (1, dead 48 [0, 1, 2]), (2, dead 48 []), (3, dead 48 [0, 1, 2]), (4, dead 48 [0, 1, 2, 7]), (5, dead 48 [0, 1, 2]), (6, dead 48 [0, 1, 2, 7]), (7, dead 48 [0, 2, 7, 8])]
theorem i27 {x0 x1 x2 : AV} (hF : F 27 = some c27) {q : AV × List Row × Option Nat} (h : Ex F (.fn [.t 6]) [.code c27b] ⟨mk 48 [(0, x0), (1, x1), (2, x2)], rows, rows.length⟩ fun r => fin rows r.1 r.2.1 r.2.2 = q) : Ret F 27 [x0, x1, x2] rows = some q := Ret_mk hF h
/-! tosher/search.Worst -/
def c28r0 : List Seg := [
  .grp [(⟨some 16, .mv (.t 6), none⟩, 0), (⟨some 17, .load1 (.t 1), none⟩, 0), (⟨some 18, .len 0 (.t 17), none⟩, 2), (⟨some 19, .nilck (.t 16), none⟩, 1), (⟨some 20, .fieldA 0 (.t 19), none⟩, 9), (⟨some 21, .idxA 13 13 (.t 20) (.c (.int .i64 0)), none⟩, 25), (⟨some 22, .idxA 13 1 (.t 21) (.t 18), none⟩, 63), (⟨some 23, .load1 (.t 22), none⟩, 127), (⟨some 24, .mv (.t 6), none⟩, 0), (⟨some 25, .load1 (.t 1), none⟩, 0), (⟨some 26, .call (.c (.func 60 [])) [(.t 25)], none⟩, 512), (⟨some 27, .call (.c (.func 59 [])) [(.t 24), (.t 26)], none⟩, 1792)],
  .one ⟨some 2, .mv (.t 23), none⟩,
  .one ⟨some 3, .mv (.t 27), none⟩,
  .one ⟨some 4, .mv (.c (.int .i64 0)), none⟩]
def c28k0 : ICode := .kill (dead 28 [1, 6]) (.ops c28r0)
@[simp] theorem uc28k0 : Ex F cx (.code c28k0 :: k) ⟨mk 28 l, rows, low⟩ r ↔ bnd (evP (rows ++ maskE 0 ([] : List (Nat × Row))) (.load1 (.c (lk l 1)))) fun v0 => bnd (evP (rows ++ maskE 2 ([] : List (Nat × Row))) (.len 0 (.c v0))) fun v1 => bnd (evP (rows ++ maskE 1 ([] : List (Nat × Row))) (.nilck (.c (lk l 6)))) fun v2 => bnd (evP (rows ++ maskE 9 ([] : List (Nat × Row))) (.fieldA 0 (.c v2))) fun v3 => bnd (evP (rows ++ maskE 25 ([] : List (Nat × Row))) (.idxA 13 13 (.c v3) (.c (.int .i64 0)))) fun v4 => bnd (evP (rows ++ maskE 63 ([] : List (Nat × Row))) (.idxA 13 1 (.c v4) (.c v1))) fun v5 => bnd (evP (rows ++ maskE 127 ([] : List (Nat × Row))) (.load1 (.c v5))) fun v6 => bnd (evP (rows ++ maskE 0 ([] : List (Nat × Row))) (.load1 (.c (lk l 1)))) fun v7 => bnd (opC F (rows ++ maskE 512 ([] : List (Nat × Row))) (rows.length + ([] : List (Nat × Row)).length) [v7] (.func 60 [])) fun q8 => q8.2.2 = rows.length + ([] : List (Nat × Row)).length ∧ bnd (some (([] : List (Nat × Row)) ++ List.map (fun (x : Row) => (10, x)) (q8.2.1.drop (rows.length + ([] : List (Nat × Row)).length)))) fun e8 => bnd (opC F (rows ++ maskE 1792 e8) (rows.length + e8.length) [lk l 6, q8.1] (.func 59 [])) fun q9 => q9.2.2 = rows.length + e8.length ∧ bnd (some (e8 ++ List.map (fun (x : Row) => (11, x)) (q9.2.1.drop (rows.length + e8.length)))) fun e9 => Ex F cx k ⟨mk 28 [(4, (.int .i64 0)), (3, q9.1), (2, v6), (27, q9.1), (26, q8.1), (25, v7), (24, lk l 6), (23, v6), (22, v5), (21, v4), (20, v3), (19, v2), (18, v1), (17, v0), (16, lk l 6), (1, lk l 1), (6, lk l 6)], (rows ++ List.map (fun (x : Nat × Row) => x.2) e9), low⟩ r := reg (keep := [1, 6]) (ops := c28r0) rfl (by kernel_rfl) (by kernel_rfl)
def c28s1 : ICode := (.seq c28k0 .ret)
@[simp] theorem uc28s1 : Ex F cx (.code c28s1 :: k) s r ↔ Ex F cx (.code (.seq c28k0 .ret) :: k) s r := Iff.rfl
def c28r2 : List Seg := [
  .one ⟨some 12, .load1 (.t 1), none⟩,
  .one ⟨some 13, .len 0 (.t 12), none⟩,
  .one ⟨some 14, .mkfn 58 [(.t 1)], none⟩,
  .one ⟨some 15, .call (.c (.func 57 [])) [(.t 13), (.t 14)], none⟩,
  .one ⟨some 6, .mv (.t 15), none⟩]
def c28k2 : ICode := .kill (dead 28 [1]) (.ops c28r2)
@[simp] theorem uc28k2 : Ex F cx (.code c28k2 :: k) ⟨mk 28 l, rows, low⟩ r ↔ bnd (evP rows (.load1 (.c (lk l 1)))) fun v0 => bnd (evP rows (.len 0 (.c v0))) fun v1 => bnd (evP rows (.mkfn 58 [(.c (lk l 1))])) fun v2 => bnd (Ret F 57 [v1, v2] rows) fun q3 => Ex F cx k ⟨mk 28 [(6, q3.1), (15, q3.1), (14, v2), (13, v1), (12, v0), (1, lk l 1)], q3.2.1, (lowO low q3.2.2)⟩ r := reg (keep := [1]) (ops := c28r2) rfl (by kernel_rfl) (by kernel_rfl)
def c28s3 : ICode := (.seq c28k2 c28s1)
@[simp] theorem uc28s3 : Ex F cx (.code c28s3 :: k) s r ↔ Ex F cx (.code (.seq c28k2 c28s1) :: k) s r := Iff.rfl
def c28r4 : List Seg := [
  .one ⟨some 11, .mv (.t 5), none⟩,
  .one ⟨some 2, .mv (.c (.int .i64 0)), none⟩,
  .one ⟨some 3, .mv (.c .nilslice), none⟩,
  .one ⟨some 4, .mv (.t 11), none⟩]
def c28k4 : ICode := .kill (dead 28 [5]) (.ops c28r4)
@[simp] theorem uc28k4 : Ex F cx (.code c28k4 :: k) ⟨mk 28 l, rows, low⟩ r ↔ Ex F cx k ⟨mk 28 [(4, lk l 5), (3, .nilslice), (2, (.int .i64 0)), (11, lk l 5), (5, lk l 5)], rows, low⟩ r := reg (keep := [5]) (ops := c28r4) rfl (by kernel_rfl) (by kernel_rfl)
def c28s5 : ICode := (.cond (.t 10) (.seq c28k4 .ret) .skip)
@[simp] theorem uc28s5 : Ex F cx (.code c28s5 :: k) s r ↔ Ex F cx (.code (.cond (.t 10) (.seq c28k4 .ret) .skip) :: k) s r := Iff.rfl
def c28r6 : List Seg := [
  .one ⟨some 9, .mv (.t 5), none⟩,
  .one ⟨some 10, .bin .neq (.t 9) (.c (.int .i64 0)), none⟩]
def c28k6 : ICode := .kill (dead 28 [1, 5]) (.ops c28r6)
@[simp] theorem uc28k6 : Ex F cx (.code c28k6 :: k) ⟨mk 28 l, rows, low⟩ r ↔ bnd (evP rows (.bin .neq (.c (lk l 5)) (.c (.int .i64 0)))) fun v0 => Ex F cx k ⟨mk 28 [(10, v0), (9, lk l 5), (1, lk l 1), (5, lk l 5)], rows, low⟩ r := reg (keep := [1, 5]) (ops := c28r6) rfl (by kernel_rfl) (by kernel_rfl)
def c28s7 : ICode := (.seq c28k6 c28s5)
@[simp] theorem uc28s7 : Ex F cx (.code c28s7 :: k) s r ↔ Ex F cx (.code (.seq c28k6 c28s5) :: k) s r := Iff.rfl
def c28r8 : List Seg := [
  .one ⟨some 7, .load1 (.t 1), none⟩,
  .one ⟨some 8, .call (.c (.func 46 [])) [(.t 7)], none⟩,
  .one ⟨some 5, .mv (.t 8), none⟩]
def c28k8 : ICode := .kill (dead 28 [1]) (.ops c28r8)
@[simp] theorem uc28k8 : Ex F cx (.code c28k8 :: k) ⟨mk 28 l, rows, low⟩ r ↔ bnd (evP rows (.load1 (.c (lk l 1)))) fun v0 => bnd (Ret F 46 [v0] rows) fun q1 => Ex F cx k ⟨mk 28 [(5, q1.1), (8, q1.1), (7, v0), (1, lk l 1)], q1.2.1, (lowO low q1.2.2)⟩ r := reg (keep := [1]) (ops := c28r8) rfl (by kernel_rfl) (by kernel_rfl)
def c28s9 : ICode := (.seq (.seq c28k8 c28s7) c28s3)
@[simp] theorem uc28s9 : Ex F cx (.code c28s9 :: k) s r ↔ Ex F cx (.code (.seq (.seq c28k8 c28s7) c28s3) :: k) s r := Iff.rfl
def c28r10 : List Seg := [
  .one ⟨some 1, .box (.t 0), none⟩,
  .one ⟨some 2, .mv (.c (.int .i64 0)), none⟩,
  .one ⟨some 3, .mv (.c .nilslice), none⟩,
  .one ⟨some 4, .mv (.c (.int .i64 0)), none⟩]
def c28k10 : ICode := .kill (dead 28 [0]) (.ops c28r10)
@[simp] theorem uc28k10 : Ex F cx (.code c28k10 :: k) ⟨mk 28 l, rows, low⟩ r ↔ bnd (evE rows low (.box (.c (lk l 0)))) fun q0 => Ex F cx k ⟨mk 28 [(4, (.int .i64 0)), (3, .nilslice), (2, (.int .i64 0)), (1, q0.1), (0, lk l 0)], q0.2.1, q0.2.2⟩ r := reg (keep := [0]) (ops := c28r10) rfl (by kernel_rfl) (by kernel_rfl)
def Jc28s3 (F : Nat → Option IFn) (cx : Ctx) (x1 : AV) (rows : List Row) (low : Nat) (r : AV × List Row × Nat → Prop) : Prop := Ex F cx (.code c28s3 :: []) ⟨mk 28 [(1, x1)], rows, low⟩ r
theorem jc28s3 : Ex F cx (.code c28s3 :: []) ⟨mk 28 l, rows, low⟩ r ↔ Jc28s3 F cx (lk l 1) rows low r := Ex_canon (keep := [1]) (by kernel_rfl)
def c28b : ICode := (.seq c28k10 c28s9)
@[simp] theorem uc28b : Ex F cx (.code c28b :: k) s r ↔ Ex F cx (.code (.seq c28k10 c28s9) :: k) s r := Iff.rfl
def c28 : IFn := ⟨28, [.t 2, .t 3, .t 4], c28b⟩
def h28 : List (Nat × List Nat) := [(0, dead 28 [0]), (1, dead 28 [1]), (2, dead 28 [1, 5]), (3, dead 28 [5]), (4, dead 28 [1]), (5, dead 28 [1, 6])]
theorem i28 {x0 : AV} (hF : F 28 = some c28) {q : AV × List Row × Option Nat} (h : Ex F (.fn [.t 2, .t 3, .t 4]) [.code c28b] ⟨mk 28 [(0, x0)], rows, rows.length⟩ fun r => fin rows r.1 r.2.1 r.2.2 = q) : Ret F 28 [x0] rows = some q := Ret_mk hF h
/-! tosher/search.Prices -/
def c29r0 : List Seg := [
  .one ⟨some 18, .mv (.t 7), none⟩,
  .one ⟨some 4, .mv (.t 18), none⟩,
  .one ⟨some 5, .mv (.c (.int .i64 0)), none⟩]
def c29k0 : ICode := .kill (dead 19 [7]) (.ops c29r0)
@[simp] theorem uc29k0 : Ex F cx (.code c29k0 :: k) ⟨mk 19 l, rows, low⟩ r ↔ Ex F cx k ⟨mk 19 [(5, (.int .i64 0)), (4, lk l 7), (18, lk l 7), (7, lk l 7)], rows, low⟩ r := reg (keep := [7]) (ops := c29r0) rfl (by kernel_rfl) (by kernel_rfl)
def c29s1 : ICode := (.seq c29k0 .ret)
@[simp] theorem uc29s1 : Ex F cx (.code c29s1 :: k) s r ↔ Ex F cx (.code (.seq c29k0 .ret) :: k) s r := Iff.rfl
def c29r2 : List Seg := [
  .one ⟨some 4, .mv (.c .nilslice), none⟩,
  .one ⟨some 5, .mv (.c (.int .i64 1)), none⟩]
def c29k2 : ICode := .kill (dead 19 []) (.ops c29r2)
@[simp] theorem uc29k2 : Ex F cx (.code c29k2 :: k) ⟨mk 19 l, rows, low⟩ r ↔ Ex F cx k ⟨mk 19 [(5, (.int .i64 1)), (4, .nilslice)], rows, low⟩ r := reg (keep := []) (ops := c29r2) rfl (by kernel_rfl) (by kernel_rfl)
def c29s3 : ICode := (.cond (.t 17) (.seq c29k2 .ret) .skip)
@[simp] theorem uc29s3 : Ex F cx (.code c29s3 :: k) s r ↔ Ex F cx (.code (.cond (.t 17) (.seq c29k2 .ret) .skip) :: k) s r := Iff.rfl
def c29r4 : List Seg := [
  .one ⟨some 16, .mv (.t 7), none⟩,
  .one ⟨some 17, .eqv false .slice (.t 16) (.c .nilslice), none⟩]
def c29k4 : ICode := .kill (dead 19 [7]) (.ops c29r4)
@[simp] theorem uc29k4 : Ex F cx (.code c29k4 :: k) ⟨mk 19 l, rows, low⟩ r ↔ bnd (evP rows (.eqv false .slice (.c (lk l 7)) (.c .nilslice))) fun v0 => Ex F cx k ⟨mk 19 [(17, v0), (16, lk l 7), (7, lk l 7)], rows, low⟩ r := reg (keep := [7]) (ops := c29r4) rfl (by kernel_rfl) (by kernel_rfl)
def c29s5 : ICode := (.seq (.seq c29k4 c29s3) c29s1)
@[simp] theorem uc29s5 : Ex F cx (.code c29s5 :: k) s r ↔ Ex F cx (.code (.seq (.seq c29k4 c29s3) c29s1) :: k) s r := Iff.rfl
def c29r6 : List Seg := [
  .one ⟨some 13, .mv (.t 0), none⟩,
  .one ⟨some 14, .mv (.t 1), none⟩,
  .one ⟨some 15, .call (.c (.func 61 [])) [(.t 13), (.t 14)], none⟩,
  .one ⟨some 7, .mv (.t 15), none⟩]
def c29k6 : ICode := .kill (dead 19 [0, 1]) (.ops c29r6)
@[simp] theorem uc29k6 : Ex F cx (.code c29k6 :: k) ⟨mk 19 l, rows, low⟩ r ↔ bnd (Ret F 61 [lk l 0, lk l 1] rows) fun q0 => Ex F cx k ⟨mk 19 [(7, q0.1), (15, q0.1), (14, lk l 1), (13, lk l 0), (0, lk l 0), (1, lk l 1)], q0.2.1, (lowO low q0.2.2)⟩ r := reg (keep := [0, 1]) (ops := c29r6) rfl (by kernel_rfl) (by kernel_rfl)
def c29s7 : ICode := (.seq c29k6 c29s5)
@[simp] theorem uc29s7 : Ex F cx (.code c29s7 :: k) s r ↔ Ex F cx (.code (.seq c29k6 c29s5) :: k) s r := Iff.rfl
def c29r8 : List Seg := [
  .one ⟨some 12, .mv (.t 6), none⟩,
  .one ⟨some 4, .mv (.c .nilslice), none⟩,
  .one ⟨some 5, .mv (.t 12), none⟩]
def c29k8 : ICode := .kill (dead 19 [6]) (.ops c29r8)
@[simp] theorem uc29k8 : Ex F cx (.code c29k8 :: k) ⟨mk 19 l, rows, low⟩ r ↔ Ex F cx k ⟨mk 19 [(5, lk l 6), (4, .nilslice), (12, lk l 6), (6, lk l 6)], rows, low⟩ r := reg (keep := [6]) (ops := c29r8) rfl (by kernel_rfl) (by kernel_rfl)
def c29s9 : ICode := (.cond (.t 11) (.seq c29k8 .ret) .skip)
@[simp] theorem uc29s9 : Ex F cx (.code c29s9 :: k) s r ↔ Ex F cx (.code (.cond (.t 11) (.seq c29k8 .ret) .skip) :: k) s r := Iff.rfl
def c29r10 : List Seg := [
  .one ⟨some 10, .mv (.t 6), none⟩,
  .one ⟨some 11, .bin .neq (.t 10) (.c (.int .i64 0)), none⟩]
def c29k10 : ICode := .kill (dead 19 [0, 1, 6]) (.ops c29r10)
@[simp] theorem uc29k10 : Ex F cx (.code c29k10 :: k) ⟨mk 19 l, rows, low⟩ r ↔ bnd (evP rows (.bin .neq (.c (lk l 6)) (.c (.int .i64 0)))) fun v0 => Ex F cx k ⟨mk 19 [(11, v0), (10, lk l 6), (0, lk l 0), (1, lk l 1), (6, lk l 6)], rows, low⟩ r := reg (keep := [0, 1, 6]) (ops := c29r10) rfl (by kernel_rfl) (by kernel_rfl)
def c29s11 : ICode := (.seq c29k10 c29s9)
@[simp] theorem uc29s11 : Ex F cx (.code c29s11 :: k) s r ↔ Ex F cx (.code (.seq c29k10 c29s9) :: k) s r := Iff.rfl
def c29r12 : List Seg := [
  .one ⟨some 8, .mv (.t 0), none⟩,
  .one ⟨some 9, .call (.c (.func 46 [])) [(.t 8)], none⟩,
  .one ⟨some 6, .mv (.t 9), none⟩]
def c29k12 : ICode := .kill (dead 19 [0, 1]) (.ops c29r12)
@[simp] theorem uc29k12 : Ex F cx (.code c29k12 :: k) ⟨mk 19 l, rows, low⟩ r ↔ bnd (Ret F 46 [lk l 0] rows) fun q0 => Ex F cx k ⟨mk 19 [(6, q0.1), (9, q0.1), (8, lk l 0), (0, lk l 0), (1, lk l 1)], q0.2.1, (lowO low q0.2.2)⟩ r := reg (keep := [0, 1]) (ops := c29r12) rfl (by kernel_rfl) (by kernel_rfl)
def c29s13 : ICode := (.seq (.seq c29k12 c29s11) c29s7)
@[simp] theorem uc29s13 : Ex F cx (.code c29s13 :: k) s r ↔ Ex F cx (.code (.seq (.seq c29k12 c29s11) c29s7) :: k) s r := Iff.rfl
def c29r14 : List Seg := [
  .one ⟨some 4, .mv (.c .nilslice), none⟩,
  .one ⟨some 5, .mv (.c (.int .i64 0)), none⟩]
def c29k14 : ICode := .kill (dead 19 [0, 1]) (.ops c29r14)
@[simp] theorem uc29k14 : Ex F cx (.code c29k14 :: k) ⟨mk 19 l, rows, low⟩ r ↔ Ex F cx k ⟨mk 19 [(5, (.int .i64 0)), (4, .nilslice), (0, lk l 0), (1, lk l 1)], rows, low⟩ r := reg (keep := [0, 1]) (ops := c29r14) rfl (by kernel_rfl) (by kernel_rfl)
def Jc29s1 (F : Nat → Option IFn) (cx : Ctx) (x7 : AV) (rows : List Row) (low : Nat) (r : AV × List Row × Nat → Prop) : Prop := Ex F cx (.code c29s1 :: []) ⟨mk 19 [(7, x7)], rows, low⟩ r
theorem jc29s1 : Ex F cx (.code c29s1 :: []) ⟨mk 19 l, rows, low⟩ r ↔ Jc29s1 F cx (lk l 7) rows low r := Ex_canon (keep := [7]) (by kernel_rfl)
def Jc29s7 (F : Nat → Option IFn) (cx : Ctx) (x0 x1 : AV) (rows : List Row) (low : Nat) (r : AV × List Row × Nat → Prop) : Prop := Ex F cx (.code c29s7 :: []) ⟨mk 19 [(0, x0), (1, x1)], rows, low⟩ r
theorem jc29s7 : Ex F cx (.code c29s7 :: []) ⟨mk 19 l, rows, low⟩ r ↔ Jc29s7 F cx (lk l 0) (lk l 1) rows low r := Ex_canon (keep := [0, 1]) (by kernel_rfl)
def c29b : ICode := (.seq c29k14 c29s13)
@[simp] theorem uc29b : Ex F cx (.code c29b :: k) s r ↔ Ex F cx (.code (.seq c29k14 c29s13) :: k) s r := Iff.rfl
def c29 : IFn := ⟨19, [.t 4, .t 5], c29b⟩
def h29 : List (Nat × List Nat) := [(0, dead 19 [0, 1]), (1, dead 19 [0, 1]), (2, dead 19 [0, 1, 6]), (3, dead 19 [6]), (4, dead 19 [0, 1]), (5, dead 19 [7]), (6, dead 19 []), (7, dead 19 [7])]
theorem i29 {x0 x1 : AV} (hF : F 29 = some c29) {q : AV × List Row × Option Nat} (h : Ex F (.fn [.t 4, .t 5]) [.code c29b] ⟨mk 19 [(0, x0), (1, x1)], rows, rows.length⟩ fun r => fin rows r.1 r.2.1 r.2.2 = q) : Ret F 29 [x0, x1] rows = some q := Ret_mk hF h
/-! tosher/search.Answer -/
def c30r0 : List Seg := [
  .one ⟨some 33, .load1 (.t 9), none⟩,
  .one ⟨some 6, .mv (.t 33), none⟩,
  .one ⟨some 7, .mv (.c (.int .i64 0)), none⟩]
def c30k0 : ICode := .kill (dead 34 [9]) (.ops c30r0)
@[simp] theorem uc30k0 : Ex F cx (.code c30k0 :: k) ⟨mk 34 l, rows, low⟩ r ↔ bnd (evP rows (.load1 (.c (lk l 9)))) fun v0 => Ex F cx k ⟨mk 34 [(7, (.int .i64 0)), (6, v0), (33, v0), (9, lk l 9)], rows, low⟩ r := reg (keep := [9]) (ops := c30r0) rfl (by kernel_rfl) (by kernel_rfl)
def c30s1 : ICode := (.seq c30k0 .ret)
@[simp] theorem uc30s1 : Ex F cx (.code c30s1 :: k) s r ↔ Ex F cx (.code (.seq c30k0 .ret) :: k) s r := Iff.rfl
def c30r2 : List Seg := [
  .one ⟨some 6, .mv (.c .nilslice), none⟩,
  .one ⟨some 7, .mv (.c (.int .i64 1)), none⟩]
def c30k2 : ICode := .kill (dead 34 []) (.ops c30r2)
@[simp] theorem uc30k2 : Ex F cx (.code c30k2 :: k) ⟨mk 34 l, rows, low⟩ r ↔ Ex F cx k ⟨mk 34 [(7, (.int .i64 1)), (6, .nilslice)], rows, low⟩ r := reg (keep := []) (ops := c30r2) rfl (by kernel_rfl) (by kernel_rfl)
def c30s3 : ICode := (.cond (.t 32) (.seq c30k2 .ret) .skip)
@[simp] theorem uc30s3 : Ex F cx (.code c30s3 :: k) s r ↔ Ex F cx (.code (.cond (.t 32) (.seq c30k2 .ret) .skip) :: k) s r := Iff.rfl
def c30r4 : List Seg := [
  .one ⟨some 21, .mv (.t 10), none⟩,
  .one ⟨some 22, .un .not (.t 21), none⟩,
  .one ⟨some 23, .mv (.t 22), none⟩,
  .one ⟨some 24, .load1 (.t 5), some (23, false)⟩,
  .one ⟨some 25, .bin .lss (.t 24) (.c (.int .i64 0)), some (23, false)⟩,
  .one ⟨some 26, .pick (.t 23) (.c (.bool true)) (.t 25), none⟩,
  .one ⟨some 27, .mv (.t 26), none⟩,
  .one ⟨some 28, .load1 (.t 5), some (27, false)⟩,
  .one ⟨some 29, .mv (.t 0), some (27, false)⟩,
  .one ⟨some 30, .len 0 (.t 29), some (27, false)⟩,
  .one ⟨some 31, .bin .gtr (.t 28) (.t 30), some (27, false)⟩,
  .one ⟨some 32, .pick (.t 27) (.c (.bool true)) (.t 31), none⟩]
def c30k4 : ICode := .kill (dead 34 [0, 5, 9, 10]) (.ops c30r4)
@[simp] theorem uc30k4 : Ex F cx (.code c30k4 :: k) ⟨mk 34 l, rows, low⟩ r ↔ bnd (evP rows (.un .not (.c (lk l 10)))) fun v0 => bnd (gv v0 false (evP rows (.load1 (.c (lk l 5))))) fun v1 => bnd (gv v0 false (evP rows (.bin .lss (.c v1) (.c (.int .i64 0))))) fun v2 => bnd (evP rows (.pick (.c v0) (.c (.bool true)) (.c v2))) fun v3 => bnd (gv v3 false (evP rows (.load1 (.c (lk l 5))))) fun v4 => bnd (gv v3 false (evP rows (.mv (.c (lk l 0))))) fun v5 => bnd (gv v3 false (evP rows (.len 0 (.c v5)))) fun v6 => bnd (gv v3 false (evP rows (.bin .gtr (.c v4) (.c v6)))) fun v7 => bnd (evP rows (.pick (.c v3) (.c (.bool true)) (.c v7))) fun v8 => Ex F cx k ⟨mk 34 [(32, v8), (31, v7), (30, v6), (29, v5), (28, v4), (27, v3), (26, v3), (25, v2), (24, v1), (23, v0), (22, v0), (21, lk l 10), (0, lk l 0), (5, lk l 5), (9, lk l 9), (10, lk l 10)], rows, low⟩ r := reg (keep := [0, 5, 9, 10]) (ops := c30r4) rfl (by kernel_rfl) (by kernel_rfl)
def c30s5 : ICode := (.seq (.seq c30k4 c30s3) c30s1)
@[simp] theorem uc30s5 : Ex F cx (.code c30s5 :: k) s r ↔ Ex F cx (.code (.seq (.seq c30k4 c30s3) c30s1) :: k) s r := Iff.rfl
def c30r6 : List Seg := [
  .one ⟨some 16, .mv (.t 1), none⟩,
  .one ⟨some 17, .mv (.t 0), none⟩,
  .one ⟨some 18, .call (.c (.func 60 [])) [(.t 17)], none⟩,
  .one ⟨some 19, .mkfn 63 [(.t 5), (.t 9)], none⟩,
  .one ⟨some 20, .call (.c (.func 62 [])) [(.t 16), (.t 18), (.t 19)], none⟩,
  .one ⟨some 10, .mv (.t 20), none⟩]
def c30k6 : ICode := .kill (dead 34 [0, 1, 5, 9]) (.ops c30r6)
@[simp] theorem uc30k6 : Ex F cx (.code c30k6 :: k) ⟨mk 34 l, rows, low⟩ r ↔ bnd (Ret F 60 [lk l 0] rows) fun q0 => bnd (evP q0.2.1 (.mkfn 63 [(.c (lk l 5)), (.c (lk l 9))])) fun v1 => bnd (Ret F 62 [lk l 1, q0.1, v1] q0.2.1) fun q2 => Ex F cx k ⟨mk 34 [(10, q2.1), (20, q2.1), (19, v1), (18, q0.1), (17, lk l 0), (16, lk l 1), (0, lk l 0), (1, lk l 1), (5, lk l 5), (9, lk l 9)], q2.2.1, (lowO (lowO low q0.2.2) q2.2.2)⟩ r := reg (keep := [0, 1, 5, 9]) (ops := c30r6) rfl (by kernel_rfl) (by kernel_rfl)
def c30s7 : ICode := (.seq c30k6 c30s5)
@[simp] theorem uc30s7 : Ex F cx (.code c30s7 :: k) s r ↔ Ex F cx (.code (.seq c30k6 c30s5) :: k) s r := Iff.rfl
def c30r8 : List Seg := [
  .one ⟨some 9, .box (.c .nilslice), none⟩]
def c30k8 : ICode := .kill (dead 34 [0, 1, 5]) (.ops c30r8)
@[simp] theorem uc30k8 : Ex F cx (.code c30k8 :: k) ⟨mk 34 l, rows, low⟩ r ↔ bnd (evE rows low (.box (.c .nilslice))) fun q0 => Ex F cx k ⟨mk 34 [(9, q0.1), (0, lk l 0), (1, lk l 1), (5, lk l 5)], q0.2.1, q0.2.2⟩ r := reg (keep := [0, 1, 5]) (ops := c30r8) rfl (by kernel_rfl) (by kernel_rfl)
def c30s9 : ICode := (.seq c30k8 c30s7)
@[simp] theorem uc30s9 : Ex F cx (.code c30s9 :: k) s r ↔ Ex F cx (.code (.seq c30k8 c30s7) :: k) s r := Iff.rfl
def c30r10 : List Seg := [
  .one ⟨some 15, .mv (.t 8), none⟩,
  .one ⟨some 6, .mv (.c .nilslice), none⟩,
  .one ⟨some 7, .mv (.t 15), none⟩]
def c30k10 : ICode := .kill (dead 34 [8]) (.ops c30r10)
@[simp] theorem uc30k10 : Ex F cx (.code c30k10 :: k) ⟨mk 34 l, rows, low⟩ r ↔ Ex F cx k ⟨mk 34 [(7, lk l 8), (6, .nilslice), (15, lk l 8), (8, lk l 8)], rows, low⟩ r := reg (keep := [8]) (ops := c30r10) rfl (by kernel_rfl) (by kernel_rfl)
def c30s11 : ICode := (.cond (.t 14) (.seq c30k10 .ret) .skip)
@[simp] theorem uc30s11 : Ex F cx (.code c30s11 :: k) s r ↔ Ex F cx (.code (.cond (.t 14) (.seq c30k10 .ret) .skip) :: k) s r := Iff.rfl
def c30r12 : List Seg := [
  .one ⟨some 13, .mv (.t 8), none⟩,
  .one ⟨some 14, .bin .neq (.t 13) (.c (.int .i64 0)), none⟩]
def c30k12 : ICode := .kill (dead 34 [0, 1, 5, 8]) (.ops c30r12)
@[simp] theorem uc30k12 : Ex F cx (.code c30k12 :: k) ⟨mk 34 l, rows, low⟩ r ↔ bnd (evP rows (.bin .neq (.c (lk l 8)) (.c (.int .i64 0)))) fun v0 => Ex F cx k ⟨mk 34 [(14, v0), (13, lk l 8), (0, lk l 0), (1, lk l 1), (5, lk l 5), (8, lk l 8)], rows, low⟩ r := reg (keep := [0, 1, 5, 8]) (ops := c30r12) rfl (by kernel_rfl) (by kernel_rfl)
def c30s13 : ICode := (.seq c30k12 c30s11)
@[simp] theorem uc30s13 : Ex F cx (.code c30s13 :: k) s r ↔ Ex F cx (.code (.seq c30k12 c30s11) :: k) s r := Iff.rfl
def c30r14 : List Seg := [
  .one ⟨some 11, .mv (.t 0), none⟩,
  .one ⟨some 12, .call (.c (.func 46 [])) [(.t 11)], none⟩,
  .one ⟨some 8, .mv (.t 12), none⟩]
def c30k14 : ICode := .kill (dead 34 [0, 1, 5]) (.ops c30r14)
@[simp] theorem uc30k14 : Ex F cx (.code c30k14 :: k) ⟨mk 34 l, rows, low⟩ r ↔ bnd (Ret F 46 [lk l 0] rows) fun q0 => Ex F cx k ⟨mk 34 [(8, q0.1), (12, q0.1), (11, lk l 0), (0, lk l 0), (1, lk l 1), (5, lk l 5)], q0.2.1, (lowO low q0.2.2)⟩ r := reg (keep := [0, 1, 5]) (ops := c30r14) rfl (by kernel_rfl) (by kernel_rfl)
def c30s15 : ICode := (.seq (.seq c30k14 c30s13) c30s9)
@[simp] theorem uc30s15 : Ex F cx (.code c30s15 :: k) s r ↔ Ex F cx (.code (.seq (.seq c30k14 c30s13) c30s9) :: k) s r := Iff.rfl
def c30r16 : List Seg := [
  .one ⟨some 5, .box (.t 2), none⟩,
  .one ⟨some 6, .mv (.c .nilslice), none⟩,
  .one ⟨some 7, .mv (.c (.int .i64 0)), none⟩]
def c30k16 : ICode := .kill (dead 34 [0, 1, 2]) (.ops c30r16)
@[simp] theorem uc30k16 : Ex F cx (.code c30k16 :: k) ⟨mk 34 l, rows, low⟩ r ↔ bnd (evE rows low (.box (.c (lk l 2)))) fun q0 => Ex F cx k ⟨mk 34 [(7, (.int .i64 0)), (6, .nilslice), (5, q0.1), (0, lk l 0), (1, lk l 1), (2, lk l 2)], q0.2.1, q0.2.2⟩ r := reg (keep := [0, 1, 2]) (ops := c30r16) rfl (by kernel_rfl) (by kernel_rfl)
def Jc30s1 (F : Nat → Option IFn) (cx : Ctx) (x9 : AV) (rows : List Row) (low : Nat) (r : AV × List Row × Nat → Prop) : Prop := Ex F cx (.code c30s1 :: []) ⟨mk 34 [(9, x9)], rows, low⟩ r
theorem jc30s1 : Ex F cx (.code c30s1 :: []) ⟨mk 34 l, rows, low⟩ r ↔ Jc30s1 F cx (lk l 9) rows low r := Ex_canon (keep := [9]) (by kernel_rfl)
def Jc30s9 (F : Nat → Option IFn) (cx : Ctx) (x0 x1 x5 : AV) (rows : List Row) (low : Nat) (r : AV × List Row × Nat → Prop) : Prop := Ex F cx (.code c30s9 :: []) ⟨mk 34 [(0, x0), (1, x1), (5, x5)], rows, low⟩ r
theorem jc30s9 : Ex F cx (.code c30s9 :: []) ⟨mk 34 l, rows, low⟩ r ↔ Jc30s9 F cx (lk l 0) (lk l 1) (lk l 5) rows low r := Ex_canon (keep := [0, 1, 5]) (by kernel_rfl)
def c30b : ICode := (.seq c30k16 c30s15)
@[simp] theorem uc30b : Ex F cx (.code c30b :: k) s r ↔ Ex F cx (.code (.seq c30k16 c30s15) :: k) s r := Iff.rfl
def c30 : IFn := ⟨34, [.t 6, .t 7], c30b⟩
def h30 : List (Nat × List Nat) := [(0, dead 34 [0, 1, 2]), (1, dead 34 [0, 1, 5]), (2, dead 34 [0, 1, 5, 8]), (3, dead 34 [8]), (4, dead 34 [0, 1, 5]), (5, dead 34 [0, 1, 5, 9]), (6, dead 34 [0, 5, 9, 10]), (7, dead 34 []), (8, dead 34 [9])]
theorem i30 {x0 x1 x2 : AV} (hF : F 30 = some c30) {q : AV × List Row × Option Nat} (h : Ex F (.fn [.t 6, .t 7]) [.code c30b] ⟨mk 34 [(0, x0), (1, x1), (2, x2)], rows, rows.length⟩ fun r => fin rows r.1 r.2.1 r.2.2 = q) : Ret F 30 [x0, x1, x2] rows = some q := Ret_mk hF h
/-! tosher/tosherref08.Opened -/
def c31r0 : List Seg := [
  .one ⟨some 16, .mv (.t 6), none⟩,
  .one ⟨some 17, .mv (.t 8), none⟩,
  .one ⟨some 18, .mv (.t 17), none⟩,
  .one ⟨some 19, .mv (.t 7), some (18, true)⟩,
  .one ⟨some 20, .mv (.t 1), some (18, true)⟩,
  .one ⟨some 21, .len 0 (.t 20), some (18, true)⟩,
  .one ⟨some 22, .bin .eql (.t 19) (.t 21), some (18, true)⟩,
  .one ⟨some 23, .pick (.t 18) (.t 22) (.c (.bool false)), none⟩,
  .one ⟨some 4, .mv (.t 16), none⟩,
  .one ⟨some 5, .mv (.t 23), none⟩]
def c31k0 : ICode := .kill (dead 24 [1, 6, 7, 8]) (.ops c31r0)
@[simp] theorem uc31k0 : Ex F cx (.code c31k0 :: k) ⟨mk 24 l, rows, low⟩ r ↔ bnd (gv (lk l 8) true (evP rows (.mv (.c (lk l 7))))) fun v0 => bnd (gv (lk l 8) true (evP rows (.mv (.c (lk l 1))))) fun v1 => bnd (gv (lk l 8) true (evP rows (.len 0 (.c v1)))) fun v2 => bnd (gv (lk l 8) true (evP rows (.bin .eql (.c v0) (.c v2)))) fun v3 => bnd (evP rows (.pick (.c (lk l 8)) (.c v3) (.c (.bool false)))) fun v4 => Ex F cx k ⟨mk 24 [(5, v4), (4, lk l 6), (23, v4), (22, v3), (21, v2), (20, v1), (19, v0), (18, lk l 8), (17, lk l 8), (16, lk l 6), (1, lk l 1), (6, lk l 6), (7, lk l 7), (8, lk l 8)], rows, low⟩ r := reg (keep := [1, 6, 7, 8]) (ops := c31r0) rfl (by kernel_rfl) (by kernel_rfl)
def c31s1 : ICode := (.seq c31k0 .ret)
@[simp] theorem uc31s1 : Ex F cx (.code c31s1 :: k) s r ↔ Ex F cx (.code (.seq c31k0 .ret) :: k) s r := Iff.rfl
def c31r2 : List Seg := [
  .one ⟨some 10, .mv (.t 1), none⟩,
  .one ⟨some 11, .mv (.t 0), none⟩,
  .one ⟨some 12, .call (.c (.func 64 [])) [(.t 10), (.c (.int .i64 0)), (.c (.int .i64 0)), (.t 11)], none⟩,
  .one ⟨some 9, .mv (.t 12), none⟩,
  .one ⟨some 13, .ext (.t 9) 0, none⟩,
  .one ⟨some 14, .ext (.t 9) 1, none⟩,
  .one ⟨some 15, .ext (.t 9) 2, none⟩,
  .one ⟨some 6, .mv (.t 13), none⟩,
  .one ⟨some 7, .mv (.t 14), none⟩,
  .one ⟨some 8, .mv (.t 15), none⟩]
def c31k2 : ICode := .kill (dead 24 [0, 1]) (.ops c31r2)
@[simp] theorem uc31k2 : Ex F cx (.code c31k2 :: k) ⟨mk 24 l, rows, low⟩ r ↔ bnd (Ret F 64 [lk l 1, (.int .i64 0), (.int .i64 0), lk l 0] rows) fun q0 => bnd (evP q0.2.1 (.ext (.c q0.1) 0)) fun v1 => bnd (evP q0.2.1 (.ext (.c q0.1) 1)) fun v2 => bnd (evP q0.2.1 (.ext (.c q0.1) 2)) fun v3 => Ex F cx k ⟨mk 24 [(8, v3), (7, v2), (6, v1), (15, v3), (14, v2), (13, v1), (9, q0.1), (12, q0.1), (11, lk l 0), (10, lk l 1), (0, lk l 0), (1, lk l 1)], q0.2.1, (lowO low q0.2.2)⟩ r := reg (keep := [0, 1]) (ops := c31r2) rfl (by kernel_rfl) (by kernel_rfl)
def c31s3 : ICode := (.seq c31k2 c31s1)
@[simp] theorem uc31s3 : Ex F cx (.code c31s3 :: k) s r ↔ Ex F cx (.code (.seq c31k2 c31s1) :: k) s r := Iff.rfl
def c31r4 : List Seg := [
  .one ⟨some 4, .mv (.c .nilslice), none⟩,
  .one ⟨some 5, .mv (.c (.bool false)), none⟩]
def c31k4 : ICode := .kill (dead 24 [0, 1]) (.ops c31r4)
@[simp] theorem uc31k4 : Ex F cx (.code c31k4 :: k) ⟨mk 24 l, rows, low⟩ r ↔ Ex F cx k ⟨mk 24 [(5, (.bool false)), (4, .nilslice), (0, lk l 0), (1, lk l 1)], rows, low⟩ r := reg (keep := [0, 1]) (ops := c31r4) rfl (by kernel_rfl) (by kernel_rfl)
def c31b : ICode := (.seq c31k4 c31s3)
@[simp] theorem uc31b : Ex F cx (.code c31b :: k) s r ↔ Ex F cx (.code (.seq c31k4 c31s3) :: k) s r := Iff.rfl
def c31 : IFn := ⟨24, [.t 4, .t 5], c31b⟩
def h31 : List (Nat × List Nat) := [(0, dead 24 [0, 1]), (1, dead 24 [0, 1]), (2, dead 24 [1, 6, 7, 8])]
theorem i31 {x0 x1 : AV} (hF : F 31 = some c31) {q : AV × List Row × Option Nat} (h : Ex F (.fn [.t 4, .t 5]) [.code c31b] ⟨mk 24 [(0, x0), (1, x1)], rows, rows.length⟩ fun r => fin rows r.1 r.2.1 r.2.2 = q) : Ret F 31 [x0, x1] rows = some q := Ret_mk hF h
/-! tosher/tosherlaw08.ints -/
def c32r0 : List Seg := [
  .one ⟨some 4, .mv (.c (.bool true)), none⟩]
def c32k0 : ICode := .kill (dead 26 []) (.ops c32r0)
@[simp] theorem uc32k0 : Ex F cx (.code c32k0 :: k) ⟨mk 26 l, rows, low⟩ r ↔ Ex F cx k ⟨mk 26 [(4, (.bool true))], rows, low⟩ r := reg (keep := []) (ops := c32r0) rfl (by kernel_rfl) (by kernel_rfl)
def c32s1 : ICode := (.seq c32k0 .ret)
@[simp] theorem uc32s1 : Ex F cx (.code c32s1 :: k) s r ↔ Ex F cx (.code (.seq c32k0 .ret) :: k) s r := Iff.rfl
def c32r3 : List Seg := [
  .one ⟨some 15, .mv (.t 5), none⟩,
  .one ⟨some 16, .bin .add (.t 15) (.c (.int .i64 1)), none⟩,
  .one ⟨some 5, .mv (.t 16), none⟩]
def c32k3 : ICode := .kill (dead 26 [0, 1, 5]) (.ops c32r3)
@[simp] theorem uc32k3 : Ex F cx (.code c32k3 :: k) ⟨mk 26 l, rows, low⟩ r ↔ bnd (evP rows (.bin .add (.c (lk l 5)) (.c (.int .i64 1)))) fun v0 => Ex F cx k ⟨mk 26 [(5, v0), (16, v0), (15, lk l 5), (0, lk l 0), (1, lk l 1), (5, lk l 5)], rows, low⟩ r := reg (keep := [0, 1, 5]) (ops := c32r3) rfl (by kernel_rfl) (by kernel_rfl)
def c32r4 : List Seg := [
  .one ⟨some 4, .mv (.c (.bool false)), none⟩]
def c32k4 : ICode := .kill (dead 26 []) (.ops c32r4)
@[simp] theorem uc32k4 : Ex F cx (.code c32k4 :: k) ⟨mk 26 l, rows, low⟩ r ↔ Ex F cx k ⟨mk 26 [(4, (.bool false))], rows, low⟩ r := reg (keep := []) (ops := c32r4) rfl (by kernel_rfl) (by kernel_rfl)
def c32s5 : ICode := (.cond (.t 25) (.seq c32k4 .ret) .skip)
@[simp] theorem uc32s5 : Ex F cx (.code c32s5 :: k) s r ↔ Ex F cx (.code (.cond (.t 25) (.seq c32k4 .ret) .skip) :: k) s r := Iff.rfl
def c32r6 : List Seg := [
  .grp [(⟨some 17, .mv (.t 0), none⟩, 0), (⟨some 18, .mv (.t 5), none⟩, 0), (⟨some 19, .idxS 1 (.t 17) (.t 18), none⟩, 3), (⟨some 20, .load1 (.t 19), none⟩, 7), (⟨some 21, .mv (.t 1), none⟩, 0), (⟨some 22, .mv (.t 5), none⟩, 0), (⟨some 23, .idxS 1 (.t 21) (.t 22), none⟩, 48), (⟨some 24, .load1 (.t 23), none⟩, 112)],
  .one ⟨some 25, .bin .neq (.t 20) (.t 24), none⟩]
def c32k6 : ICode := .kill (dead 26 [0, 1, 5]) (.ops c32r6)
@[simp] theorem uc32k6 : Ex F cx (.code c32k6 :: k) ⟨mk 26 l, rows, low⟩ r ↔ bnd (evP rows (.idxS 1 (.c (lk l 0)) (.c (lk l 5)))) fun v0 => bnd (evP rows (.load1 (.c v0))) fun v1 => bnd (evP rows (.idxS 1 (.c (lk l 1)) (.c (lk l 5)))) fun v2 => bnd (evP rows (.load1 (.c v2))) fun v3 => bnd (evP rows (.bin .neq (.c v1) (.c v3))) fun v4 => Ex F cx k ⟨mk 26 [(25, v4), (24, v3), (23, v2), (22, lk l 5), (21, lk l 1), (20, v1), (19, v0), (18, lk l 5), (17, lk l 0), (0, lk l 0), (1, lk l 1), (5, lk l 5)], rows, low⟩ r := reg (keep := [0, 1, 5]) (ops := c32r6) rfl (by kernel_rfl) (by kernel_rfl)
def c32s7 : ICode := (.seq (.block 1 (.seq c32k6 c32s5)) c32k3)
@[simp] theorem uc32s7 : Ex F cx (.code c32s7 :: k) s r ↔ Ex F cx (.code (.seq (.block 1 (.seq c32k6 c32s5)) c32k3) :: k) s r := Iff.rfl
def c32s8 : ICode := (.cond (.t 14) .skip (.exit 0))
@[simp] theorem uc32s8 : Ex F cx (.code c32s8 :: k) s r ↔ Ex F cx (.code (.cond (.t 14) .skip (.exit 0)) :: k) s r := Iff.rfl
def c32r9 : List Seg := [
  .one ⟨some 11, .mv (.t 5), none⟩,
  .one ⟨some 12, .mv (.t 0), none⟩,
  .one ⟨some 13, .len 0 (.t 12), none⟩,
  .one ⟨some 14, .bin .lss (.t 11) (.t 13), none⟩]
def c32k9 : ICode := .kill (dead 26 [0, 1, 5]) (.ops c32r9)
@[simp] theorem uc32k9 : Ex F cx (.code c32k9 :: k) ⟨mk 26 l, rows, low⟩ r ↔ bnd (evP rows (.len 0 (.c (lk l 0)))) fun v0 => bnd (evP rows (.bin .lss (.c (lk l 5)) (.c v0))) fun v1 => Ex F cx k ⟨mk 26 [(14, v1), (13, v0), (12, lk l 0), (11, lk l 5), (0, lk l 0), (1, lk l 1), (5, lk l 5)], rows, low⟩ r := reg (keep := [0, 1, 5]) (ops := c32r9) rfl (by kernel_rfl) (by kernel_rfl)
def c32l2 : ICode := (.seq (.seq c32k9 c32s8) c32s7)
def c32s10 : ICode := (.block 0 (.loop c32l2))
@[simp] theorem uc32s10 : Ex F cx (.code c32s10 :: k) s r ↔ Ex F cx (.code (.block 0 (.loop c32l2)) :: k) s r := Iff.rfl
def c32r11 : List Seg := [
  .one ⟨some 5, .mv (.c (.int .i64 0)), none⟩]
def c32k11 : ICode := .kill (dead 26 [0, 1]) (.ops c32r11)
@[simp] theorem uc32k11 : Ex F cx (.code c32k11 :: k) ⟨mk 26 l, rows, low⟩ r ↔ Ex F cx k ⟨mk 26 [(5, (.int .i64 0)), (0, lk l 0), (1, lk l 1)], rows, low⟩ r := reg (keep := [0, 1]) (ops := c32r11) rfl (by kernel_rfl) (by kernel_rfl)
def c32s12 : ICode := (.seq (.seq c32k11 c32s10) c32s1)
@[simp] theorem uc32s12 : Ex F cx (.code c32s12 :: k) s r ↔ Ex F cx (.code (.seq (.seq c32k11 c32s10) c32s1) :: k) s r := Iff.rfl
def c32r13 : List Seg := [
  .one ⟨some 4, .mv (.c (.bool false)), none⟩]
def c32k13 : ICode := .kill (dead 26 []) (.ops c32r13)
@[simp] theorem uc32k13 : Ex F cx (.code c32k13 :: k) ⟨mk 26 l, rows, low⟩ r ↔ Ex F cx k ⟨mk 26 [(4, (.bool false))], rows, low⟩ r := reg (keep := []) (ops := c32r13) rfl (by kernel_rfl) (by kernel_rfl)
def c32s14 : ICode := (.cond (.t 10) (.seq c32k13 .ret) .skip)
@[simp] theorem uc32s14 : Ex F cx (.code c32s14 :: k) s r ↔ Ex F cx (.code (.cond (.t 10) (.seq c32k13 .ret) .skip) :: k) s r := Iff.rfl
def c32r15 : List Seg := [
  .one ⟨some 6, .mv (.t 0), none⟩,
  .one ⟨some 7, .len 0 (.t 6), none⟩,
  .one ⟨some 8, .mv (.t 1), none⟩,
  .one ⟨some 9, .len 0 (.t 8), none⟩,
  .one ⟨some 10, .bin .neq (.t 7) (.t 9), none⟩]
def c32k15 : ICode := .kill (dead 26 [0, 1]) (.ops c32r15)
@[simp] theorem uc32k15 : Ex F cx (.code c32k15 :: k) ⟨mk 26 l, rows, low⟩ r ↔ bnd (evP rows (.len 0 (.c (lk l 0)))) fun v0 => bnd (evP rows (.len 0 (.c (lk l 1)))) fun v1 => bnd (evP rows (.bin .neq (.c v0) (.c v1))) fun v2 => Ex F cx k ⟨mk 26 [(10, v2), (9, v1), (8, lk l 1), (7, v0), (6, lk l 0), (0, lk l 0), (1, lk l 1)], rows, low⟩ r := reg (keep := [0, 1]) (ops := c32r15) rfl (by kernel_rfl) (by kernel_rfl)
def c32s16 : ICode := (.seq (.seq c32k15 c32s14) c32s12)
@[simp] theorem uc32s16 : Ex F cx (.code c32s16 :: k) s r ↔ Ex F cx (.code (.seq (.seq c32k15 c32s14) c32s12) :: k) s r := Iff.rfl
def c32r17 : List Seg := [
  .one ⟨some 4, .mv (.c (.bool false)), none⟩]
def c32k17 : ICode := .kill (dead 26 [0, 1]) (.ops c32r17)
@[simp] theorem uc32k17 : Ex F cx (.code c32k17 :: k) ⟨mk 26 l, rows, low⟩ r ↔ Ex F cx k ⟨mk 26 [(4, (.bool false)), (0, lk l 0), (1, lk l 1)], rows, low⟩ r := reg (keep := [0, 1]) (ops := c32r17) rfl (by kernel_rfl) (by kernel_rfl)
def Jc32s7 (F : Nat → Option IFn) (cx : Ctx) (x0 x1 x5 : AV) (rows : List Row) (low : Nat) (r : AV × List Row × Nat → Prop) : Prop := Ex F cx (.code c32s7 :: .inLoop c32l2 :: .inBlock 0 :: .code c32s1 :: []) ⟨mk 26 [(0, x0), (1, x1), (5, x5)], rows, low⟩ r
theorem jc32s7 : Ex F cx (.code c32s7 :: .inLoop c32l2 :: .inBlock 0 :: .code c32s1 :: []) ⟨mk 26 l, rows, low⟩ r ↔ Jc32s7 F cx (lk l 0) (lk l 1) (lk l 5) rows low r := Ex_canon (keep := [0, 1, 5]) (by kernel_rfl)
def Lc32l2 (F : Nat → Option IFn) (cx : Ctx) (x0 x1 x5 : AV) (rows : List Row) (low : Nat) (r : AV × List Row × Nat → Prop) : Prop := Ex F cx (.code c32l2 :: .inLoop c32l2 :: .inBlock 0 :: .code c32s1 :: []) ⟨mk 26 [(0, x0), (1, x1), (5, x5)], rows, low⟩ r
@[simp] theorem nc32l2 : Ex F cx (.inLoop c32l2 :: .inBlock 0 :: .code c32s1 :: []) ⟨mk 26 l, rows, low⟩ r ↔ Lc32l2 F cx (lk l 0) (lk l 1) (lk l 5) rows low r := loopN (keep := [0, 1, 5]) (by kernel_rfl)
@[simp] theorem ec32l2 : Ex F cx (.code (.loop c32l2) :: .inBlock 0 :: .code c32s1 :: []) ⟨mk 26 l, rows, low⟩ r ↔ Lc32l2 F cx (lk l 0) (lk l 1) (lk l 5) rows low r := loopE (keep := [0, 1, 5]) (by kernel_rfl)
@[simp] theorem uc32l2 : Ex F cx (.code c32l2 :: k) s r ↔ Ex F cx (.code (.seq (.seq c32k9 c32s8) c32s7) :: k) s r := Iff.rfl
def Jc32s12 (F : Nat → Option IFn) (cx : Ctx) (x0 x1 : AV) (rows : List Row) (low : Nat) (r : AV × List Row × Nat → Prop) : Prop := Ex F cx (.code c32s12 :: []) ⟨mk 26 [(0, x0), (1, x1)], rows, low⟩ r
theorem jc32s12 : Ex F cx (.code c32s12 :: []) ⟨mk 26 l, rows, low⟩ r ↔ Jc32s12 F cx (lk l 0) (lk l 1) rows low r := Ex_canon (keep := [0, 1]) (by kernel_rfl)
def c32b : ICode := (.seq c32k17 c32s16)
@[simp] theorem uc32b : Ex F cx (.code c32b :: k) s r ↔ Ex F cx (.code (.seq c32k17 c32s16) :: k) s r := Iff.rfl
def c32 : IFn := ⟨26, [.t 4], c32b⟩
def h32 : List (Nat × List Nat) := [(0, dead 26 [0, 1]), (1, dead 26 [0, 1]), (2, dead 26 []), (3, dead 26 [0, 1]), (4, dead 26 [0, 1, 5]), (6, dead 26 [0, 1, 5]), (7, dead 26 []), (5, dead 26 [0, 1, 5]), (8, dead 26 [])]
theorem i32 {x0 x1 : AV} (hF : F 32 = some c32) {q : AV × List Row × Option Nat} (h : Ex F (.fn [.t 4]) [.code c32b] ⟨mk 26 [(0, x0), (1, x1)], rows, rows.length⟩ fun r => fin rows r.1 r.2.1 r.2.2 = q) : Ret F 32 [x0, x1] rows = some q := Ret_mk hF h
/-! tosher/tosherref08.Prices -/
def c33r0 : List Seg := [
  .one ⟨some 40, .mv (.t 5), none⟩,
  .one ⟨some 4, .mv (.t 40), none⟩]
def c33k0 : ICode := .kill (dead 41 [5]) (.ops c33r0)
@[simp] theorem uc33k0 : Ex F cx (.code c33k0 :: k) ⟨mk 41 l, rows, low⟩ r ↔ Ex F cx k ⟨mk 41 [(4, lk l 5), (40, lk l 5), (5, lk l 5)], rows, low⟩ r := reg (keep := [5]) (ops := c33r0) rfl (by kernel_rfl) (by kernel_rfl)
def c33s1 : ICode := (.seq c33k0 .ret)
@[simp] theorem uc33s1 : Ex F cx (.code c33s1 :: k) s r ↔ Ex F cx (.code (.seq c33k0 .ret) :: k) s r := Iff.rfl
def c33r3 : List Seg := [
  .one ⟨some 13, .mv (.t 6), none⟩,
  .one ⟨some 14, .bin .add (.t 13) (.c (.int .i64 1)), none⟩,
  .one ⟨some 6, .mv (.t 14), none⟩]
def c33k3 : ICode := .kill (dead 41 [0, 1, 5, 6]) (.ops c33r3)
@[simp] theorem uc33k3 : Ex F cx (.code c33k3 :: k) ⟨mk 41 l, rows, low⟩ r ↔ bnd (evP rows (.bin .add (.c (lk l 6)) (.c (.int .i64 1)))) fun v0 => Ex F cx k ⟨mk 41 [(6, v0), (14, v0), (13, lk l 6), (0, lk l 0), (1, lk l 1), (5, lk l 5), (6, lk l 6)], rows, low⟩ r := reg (keep := [0, 1, 5, 6]) (ops := c33r3) rfl (by kernel_rfl) (by kernel_rfl)
def c33r4 : List Seg := [
  .one ⟨some 36, .mv (.t 5), none⟩,
  .one ⟨some 37, .mv (.t 7), none⟩,
  .one ⟨some 38, .mkslice 1 [.int .i64 0] [(0, 1, (.t 37))], none⟩,
  .one ⟨some 39, .app 1 8 (.t 36) (.t 38), none⟩,
  .one ⟨some 5, .mv (.t 39), none⟩]
def c33k4 : ICode := .kill (dead 41 [0, 1, 5, 6, 7]) (.ops c33r4)
@[simp] theorem uc33k4 : Ex F cx (.code c33k4 :: k) ⟨mk 41 l, rows, low⟩ r ↔ bnd (evE rows low (.mkslice 1 [.int .i64 0] [(0, 1, (.c (lk l 7)))])) fun q0 => bnd (evE q0.2.1 q0.2.2 (.app 1 8 (.c (lk l 5)) (.c q0.1))) fun q1 => Ex F cx k ⟨mk 41 [(5, q1.1), (39, q1.1), (38, q0.1), (37, lk l 7), (36, lk l 5), (0, lk l 0), (1, lk l 1), (5, lk l 5), (6, lk l 6), (7, lk l 7)], q1.2.1, q1.2.2⟩ r := reg (keep := [0, 1, 5, 6, 7]) (ops := c33r4) rfl (by kernel_rfl) (by kernel_rfl)
def c33r6 : List Seg := [
  .one ⟨some 22, .mv (.t 8), none⟩,
  .one ⟨some 23, .bin .add (.t 22) (.c (.int .i64 1)), none⟩,
  .one ⟨some 8, .mv (.t 23), none⟩]
def c33k6 : ICode := .kill (dead 41 [0, 1, 5, 6, 7, 8]) (.ops c33r6)
@[simp] theorem uc33k6 : Ex F cx (.code c33k6 :: k) ⟨mk 41 l, rows, low⟩ r ↔ bnd (evP rows (.bin .add (.c (lk l 8)) (.c (.int .i64 1)))) fun v0 => Ex F cx k ⟨mk 41 [(8, v0), (23, v0), (22, lk l 8), (0, lk l 0), (1, lk l 1), (5, lk l 5), (6, lk l 6), (7, lk l 7), (8, lk l 8)], rows, low⟩ r := reg (keep := [0, 1, 5, 6, 7, 8]) (ops := c33r6) rfl (by kernel_rfl) (by kernel_rfl)
def c33r7 : List Seg := [
  .one ⟨some 24, .mv (.t 7), none⟩,
  .one ⟨some 25, .mv (.t 0), none⟩,
  .one ⟨some 26, .mv (.t 1), none⟩,
  .one ⟨some 27, .mv (.t 6), none⟩,
  .one ⟨some 28, .idxS 1 (.t 26) (.t 27), none⟩,
  .one ⟨some 29, .load1 (.t 28), none⟩,
  .one ⟨some 30, .mv (.t 8), none⟩,
  .one ⟨some 31, .idxS 1 (.t 29) (.t 30), none⟩,
  .one ⟨some 32, .load1 (.t 31), none⟩,
  .one ⟨some 33, .idxS 1 (.t 25) (.t 32), none⟩,
  .one ⟨some 34, .load1 (.t 33), none⟩,
  .one ⟨some 35, .bin .add (.t 24) (.t 34), none⟩,
  .one ⟨some 7, .mv (.t 35), none⟩]
def c33k7 : ICode := .kill (dead 41 [0, 1, 5, 6, 7, 8]) (.ops c33r7)
@[simp] theorem uc33k7 : Ex F cx (.code c33k7 :: k) ⟨mk 41 l, rows, low⟩ r ↔ bnd (evP rows (.idxS 1 (.c (lk l 1)) (.c (lk l 6)))) fun v0 => bnd (evP rows (.load1 (.c v0))) fun v1 => bnd (evP rows (.idxS 1 (.c v1) (.c (lk l 8)))) fun v2 => bnd (evP rows (.load1 (.c v2))) fun v3 => bnd (evP rows (.idxS 1 (.c (lk l 0)) (.c v3))) fun v4 => bnd (evP rows (.load1 (.c v4))) fun v5 => bnd (evP rows (.bin .add (.c (lk l 7)) (.c v5))) fun v6 => Ex F cx k ⟨mk 41 [(7, v6), (35, v6), (34, v5), (33, v4), (32, v3), (31, v2), (30, lk l 8), (29, v1), (28, v0), (27, lk l 6), (26, lk l 1), (25, lk l 0), (24, lk l 7), (0, lk l 0), (1, lk l 1), (5, lk l 5), (6, lk l 6), (7, lk l 7), (8, lk l 8)], rows, low⟩ r := reg (keep := [0, 1, 5, 6, 7, 8]) (ops := c33r7) rfl (by kernel_rfl) (by kernel_rfl)
def c33s8 : ICode := (.seq (.block 3 c33k7) c33k6)
@[simp] theorem uc33s8 : Ex F cx (.code c33s8 :: k) s r ↔ Ex F cx (.code (.seq (.block 3 c33k7) c33k6) :: k) s r := Iff.rfl
def c33s9 : ICode := (.cond (.t 21) .skip (.exit 2))
@[simp] theorem uc33s9 : Ex F cx (.code c33s9 :: k) s r ↔ Ex F cx (.code (.cond (.t 21) .skip (.exit 2)) :: k) s r := Iff.rfl
def c33r10 : List Seg := [
  .one ⟨some 15, .mv (.t 8), none⟩,
  .one ⟨some 16, .mv (.t 1), none⟩,
  .one ⟨some 17, .mv (.t 6), none⟩,
  .one ⟨some 18, .idxS 1 (.t 16) (.t 17), none⟩,
  .one ⟨some 19, .load1 (.t 18), none⟩,
  .one ⟨some 20, .len 0 (.t 19), none⟩,
  .one ⟨some 21, .bin .lss (.t 15) (.t 20), none⟩]
def c33k10 : ICode := .kill (dead 41 [0, 1, 5, 6, 7, 8]) (.ops c33r10)
@[simp] theorem uc33k10 : Ex F cx (.code c33k10 :: k) ⟨mk 41 l, rows, low⟩ r ↔ bnd (evP rows (.idxS 1 (.c (lk l 1)) (.c (lk l 6)))) fun v0 => bnd (evP rows (.load1 (.c v0))) fun v1 => bnd (evP rows (.len 0 (.c v1))) fun v2 => bnd (evP rows (.bin .lss (.c (lk l 8)) (.c v2))) fun v3 => Ex F cx k ⟨mk 41 [(21, v3), (20, v2), (19, v1), (18, v0), (17, lk l 6), (16, lk l 1), (15, lk l 8), (0, lk l 0), (1, lk l 1), (5, lk l 5), (6, lk l 6), (7, lk l 7), (8, lk l 8)], rows, low⟩ r := reg (keep := [0, 1, 5, 6, 7, 8]) (ops := c33r10) rfl (by kernel_rfl) (by kernel_rfl)
def c33l5 : ICode := (.seq (.seq c33k10 c33s9) c33s8)
def c33s11 : ICode := (.block 2 (.loop c33l5))
@[simp] theorem uc33s11 : Ex F cx (.code c33s11 :: k) s r ↔ Ex F cx (.code (.block 2 (.loop c33l5)) :: k) s r := Iff.rfl
def c33r12 : List Seg := [
  .one ⟨some 8, .mv (.c (.int .i64 0)), none⟩]
def c33k12 : ICode := .kill (dead 41 [0, 1, 5, 6, 7]) (.ops c33r12)
@[simp] theorem uc33k12 : Ex F cx (.code c33k12 :: k) ⟨mk 41 l, rows, low⟩ r ↔ Ex F cx k ⟨mk 41 [(8, (.int .i64 0)), (0, lk l 0), (1, lk l 1), (5, lk l 5), (6, lk l 6), (7, lk l 7)], rows, low⟩ r := reg (keep := [0, 1, 5, 6, 7]) (ops := c33r12) rfl (by kernel_rfl) (by kernel_rfl)
def c33s13 : ICode := (.seq (.seq c33k12 c33s11) c33k4)
@[simp] theorem uc33s13 : Ex F cx (.code c33s13 :: k) s r ↔ Ex F cx (.code (.seq (.seq c33k12 c33s11) c33k4) :: k) s r := Iff.rfl
def c33r14 : List Seg := [
  .one ⟨some 7, .mv (.c (.int .i64 0)), none⟩]
def c33k14 : ICode := .kill (dead 41 [0, 1, 5, 6]) (.ops c33r14)
@[simp] theorem uc33k14 : Ex F cx (.code c33k14 :: k) ⟨mk 41 l, rows, low⟩ r ↔ Ex F cx k ⟨mk 41 [(7, (.int .i64 0)), (0, lk l 0), (1, lk l 1), (5, lk l 5), (6, lk l 6)], rows, low⟩ r := reg (keep := [0, 1, 5, 6]) (ops := c33r14) rfl (by kernel_rfl) (by kernel_rfl)
def c33s15 : ICode := (.seq (.block 1 (.seq c33k14 c33s13)) c33k3)
@[simp] theorem uc33s15 : Ex F cx (.code c33s15 :: k) s r ↔ Ex F cx (.code (.seq (.block 1 (.seq c33k14 c33s13)) c33k3) :: k) s r := Iff.rfl
def c33s16 : ICode := (.cond (.t 12) .skip (.exit 0))
@[simp] theorem uc33s16 : Ex F cx (.code c33s16 :: k) s r ↔ Ex F cx (.code (.cond (.t 12) .skip (.exit 0)) :: k) s r := Iff.rfl
def c33r17 : List Seg := [
  .one ⟨some 9, .mv (.t 6), none⟩,
  .one ⟨some 10, .mv (.t 1), none⟩,
  .one ⟨some 11, .len 0 (.t 10), none⟩,
  .one ⟨some 12, .bin .lss (.t 9) (.t 11), none⟩]
def c33k17 : ICode := .kill (dead 41 [0, 1, 5, 6]) (.ops c33r17)
@[simp] theorem uc33k17 : Ex F cx (.code c33k17 :: k) ⟨mk 41 l, rows, low⟩ r ↔ bnd (evP rows (.len 0 (.c (lk l 1)))) fun v0 => bnd (evP rows (.bin .lss (.c (lk l 6)) (.c v0))) fun v1 => Ex F cx k ⟨mk 41 [(12, v1), (11, v0), (10, lk l 1), (9, lk l 6), (0, lk l 0), (1, lk l 1), (5, lk l 5), (6, lk l 6)], rows, low⟩ r := reg (keep := [0, 1, 5, 6]) (ops := c33r17) rfl (by kernel_rfl) (by kernel_rfl)
def c33l2 : ICode := (.seq (.seq c33k17 c33s16) c33s15)
def c33s18 : ICode := (.block 0 (.loop c33l2))
@[simp] theorem uc33s18 : Ex F cx (.code c33s18 :: k) s r ↔ Ex F cx (.code (.block 0 (.loop c33l2)) :: k) s r := Iff.rfl
def c33r19 : List Seg := [
  .one ⟨some 6, .mv (.c (.int .i64 0)), none⟩]
def c33k19 : ICode := .kill (dead 41 [0, 1, 5]) (.ops c33r19)
@[simp] theorem uc33k19 : Ex F cx (.code c33k19 :: k) ⟨mk 41 l, rows, low⟩ r ↔ Ex F cx k ⟨mk 41 [(6, (.int .i64 0)), (0, lk l 0), (1, lk l 1), (5, lk l 5)], rows, low⟩ r := reg (keep := [0, 1, 5]) (ops := c33r19) rfl (by kernel_rfl) (by kernel_rfl)
def c33s20 : ICode := (.seq (.seq c33k19 c33s18) c33s1)
@[simp] theorem uc33s20 : Ex F cx (.code c33s20 :: k) s r ↔ Ex F cx (.code (.seq (.seq c33k19 c33s18) c33s1) :: k) s r := Iff.rfl
def c33r21 : List Seg := [
  .one ⟨some 5, .mv (.c .nilslice), none⟩]
def c33k21 : ICode := .kill (dead 41 [0, 1]) (.ops c33r21)
@[simp] theorem uc33k21 : Ex F cx (.code c33k21 :: k) ⟨mk 41 l, rows, low⟩ r ↔ Ex F cx k ⟨mk 41 [(5, .nilslice), (0, lk l 0), (1, lk l 1)], rows, low⟩ r := reg (keep := [0, 1]) (ops := c33r21) rfl (by kernel_rfl) (by kernel_rfl)
def c33s22 : ICode := (.seq c33k21 c33s20)
@[simp] theorem uc33s22 : Ex F cx (.code c33s22 :: k) s r ↔ Ex F cx (.code (.seq c33k21 c33s20) :: k) s r := Iff.rfl
def c33r23 : List Seg := [
  .one ⟨some 4, .mv (.c .nilslice), none⟩]
def c33k23 : ICode := .kill (dead 41 [0, 1]) (.ops c33r23)
@[simp] theorem uc33k23 : Ex F cx (.code c33k23 :: k) ⟨mk 41 l, rows, low⟩ r ↔ Ex F cx k ⟨mk 41 [(4, .nilslice), (0, lk l 0), (1, lk l 1)], rows, low⟩ r := reg (keep := [0, 1]) (ops := c33r23) rfl (by kernel_rfl) (by kernel_rfl)
def Jc33s8 (F : Nat → Option IFn) (cx : Ctx) (x0 x1 x5 x6 x7 x8 : AV) (rows : List Row) (low : Nat) (r : AV × List Row × Nat → Prop) : Prop := Ex F cx (.code c33s8 :: .inLoop c33l5 :: .inBlock 2 :: .code c33k4 :: .inBlock 1 :: .code c33k3 :: .inLoop c33l2 :: .inBlock 0 :: .code c33s1 :: []) ⟨mk 41 [(0, x0), (1, x1), (5, x5), (6, x6), (7, x7), (8, x8)], rows, low⟩ r
theorem jc33s8 : Ex F cx (.code c33s8 :: .inLoop c33l5 :: .inBlock 2 :: .code c33k4 :: .inBlock 1 :: .code c33k3 :: .inLoop c33l2 :: .inBlock 0 :: .code c33s1 :: []) ⟨mk 41 l, rows, low⟩ r ↔ Jc33s8 F cx (lk l 0) (lk l 1) (lk l 5) (lk l 6) (lk l 7) (lk l 8) rows low r := Ex_canon (keep := [0, 1, 5, 6, 7, 8]) (by kernel_rfl)
def Lc33l5 (F : Nat → Option IFn) (cx : Ctx) (x0 x1 x5 x6 x7 x8 : AV) (rows : List Row) (low : Nat) (r : AV × List Row × Nat → Prop) : Prop := Ex F cx (.code c33l5 :: .inLoop c33l5 :: .inBlock 2 :: .code c33k4 :: .inBlock 1 :: .code c33k3 :: .inLoop c33l2 :: .inBlock 0 :: .code c33s1 :: []) ⟨mk 41 [(0, x0), (1, x1), (5, x5), (6, x6), (7, x7), (8, x8)], rows, low⟩ r
@[simp] theorem nc33l5 : Ex F cx (.inLoop c33l5 :: .inBlock 2 :: .code c33k4 :: .inBlock 1 :: .code c33k3 :: .inLoop c33l2 :: .inBlock 0 :: .code c33s1 :: []) ⟨mk 41 l, rows, low⟩ r ↔ Lc33l5 F cx (lk l 0) (lk l 1) (lk l 5) (lk l 6) (lk l 7) (lk l 8) rows low r := loopN (keep := [0, 1, 5, 6, 7, 8]) (by kernel_rfl)
@[simp] theorem ec33l5 : Ex F cx (.code (.loop c33l5) :: .inBlock 2 :: .code c33k4 :: .inBlock 1 :: .code c33k3 :: .inLoop c33l2 :: .inBlock 0 :: .code c33s1 :: []) ⟨mk 41 l, rows, low⟩ r ↔ Lc33l5 F cx (lk l 0) (lk l 1) (lk l 5) (lk l 6) (lk l 7) (lk l 8) rows low r := loopE (keep := [0, 1, 5, 6, 7, 8]) (by kernel_rfl)
@[simp] theorem uc33l5 : Ex F cx (.code c33l5 :: k) s r ↔ Ex F cx (.code (.seq (.seq c33k10 c33s9) c33s8) :: k) s r := Iff.rfl
def Jc33s15 (F : Nat → Option IFn) (cx : Ctx) (x0 x1 x5 x6 : AV) (rows : List Row) (low : Nat) (r : AV × List Row × Nat → Prop) : Prop := Ex F cx (.code c33s15 :: .inLoop c33l2 :: .inBlock 0 :: .code c33s1 :: []) ⟨mk 41 [(0, x0), (1, x1), (5, x5), (6, x6)], rows, low⟩ r
theorem jc33s15 : Ex F cx (.code c33s15 :: .inLoop c33l2 :: .inBlock 0 :: .code c33s1 :: []) ⟨mk 41 l, rows, low⟩ r ↔ Jc33s15 F cx (lk l 0) (lk l 1) (lk l 5) (lk l 6) rows low r := Ex_canon (keep := [0, 1, 5, 6]) (by kernel_rfl)
def Lc33l2 (F : Nat → Option IFn) (cx : Ctx) (x0 x1 x5 x6 : AV) (rows : List Row) (low : Nat) (r : AV × List Row × Nat → Prop) : Prop := Ex F cx (.code c33l2 :: .inLoop c33l2 :: .inBlock 0 :: .code c33s1 :: []) ⟨mk 41 [(0, x0), (1, x1), (5, x5), (6, x6)], rows, low⟩ r
@[simp] theorem nc33l2 : Ex F cx (.inLoop c33l2 :: .inBlock 0 :: .code c33s1 :: []) ⟨mk 41 l, rows, low⟩ r ↔ Lc33l2 F cx (lk l 0) (lk l 1) (lk l 5) (lk l 6) rows low r := loopN (keep := [0, 1, 5, 6]) (by kernel_rfl)
@[simp] theorem ec33l2 : Ex F cx (.code (.loop c33l2) :: .inBlock 0 :: .code c33s1 :: []) ⟨mk 41 l, rows, low⟩ r ↔ Lc33l2 F cx (lk l 0) (lk l 1) (lk l 5) (lk l 6) rows low r := loopE (keep := [0, 1, 5, 6]) (by kernel_rfl)
@[simp] theorem uc33l2 : Ex F cx (.code c33l2 :: k) s r ↔ Ex F cx (.code (.seq (.seq c33k17 c33s16) c33s15) :: k) s r := Iff.rfl
def c33b : ICode := (.seq c33k23 c33s22)
@[simp] theorem uc33b : Ex F cx (.code c33b :: k) s r ↔ Ex F cx (.code (.seq c33k23 c33s22) :: k) s r := Iff.rfl
def c33 : IFn := ⟨41, [.t 4], c33b⟩
def h33 : List (Nat × List Nat) := [(0, dead 41 [0, 1]), (1, dead 41 [0, 1]), (2, dead 41 [0, 1, 5]), (3, dead 41 [0, 1, 5, 6]), (5, dead 41 [0, 1, 5, 6]), (6, dead 41 [0, 1, 5, 6, 7]), (7, dead 41 [0, 1, 5, 6, 7, 8]), (9, dead 41 [0, 1, 5, 6, 7, 8]), (8, dead 41 [0, 1, 5, 6, 7, 8]), (10, dead 41 [0, 1, 5, 6, 7]), (4, dead 41 [0, 1, 5, 6]), (11, dead 41 [5])]
theorem i33 {x0 x1 : AV} (hF : F 33 = some c33) {q : AV × List Row × Option Nat} (h : Ex F (.fn [.t 4]) [.code c33b] ⟨mk 41 [(0, x0), (1, x1)], rows, rows.length⟩ fun r => fin rows r.1 r.2.1 r.2.2 = q) : Ret F 33 [x0, x1] rows = some q := Ret_mk hF h
/-! tosher/tosherlaw08.weights -/
def c34r0 : List Seg := [
  .one ⟨some 38, .mv (.t 5), none⟩,
  .one ⟨some 4, .mv (.t 38), none⟩]
def c34k0 : ICode := .kill (dead 39 [5]) (.ops c34r0)
@[simp] theorem uc34k0 : Ex F cx (.code c34k0 :: k) ⟨mk 39 l, rows, low⟩ r ↔ Ex F cx k ⟨mk 39 [(4, lk l 5), (38, lk l 5), (5, lk l 5)], rows, low⟩ r := reg (keep := [5]) (ops := c34r0) rfl (by kernel_rfl) (by kernel_rfl)
def c34s1 : ICode := (.seq c34k0 .ret)
@[simp] theorem uc34s1 : Ex F cx (.code c34s1 :: k) s r ↔ Ex F cx (.code (.seq c34k0 .ret) :: k) s r := Iff.rfl
def c34r2 : List Seg := [
  .one ⟨some 36, .mv (.t 5), none⟩,
  .one ⟨some 37, .idxS 1 (.t 36) (.c (.int .i64 0)), none⟩,
  .one ⟨none, .store1 (.t 37) (.c (.int .i64 1)), none⟩]
def c34k2 : ICode := .kill (dead 39 [5]) (.ops c34r2)
@[simp] theorem uc34k2 : Ex F cx (.code c34k2 :: k) ⟨mk 39 l, rows, low⟩ r ↔ bnd (evP rows (.idxS 1 (.c (lk l 5)) (.c (.int .i64 0)))) fun v0 => bnd (evE rows low (.store1 (.c v0) (.c (.int .i64 1)))) fun q1 => Ex F cx k ⟨mk 39 [(37, v0), (36, lk l 5), (5, lk l 5)], q1.2.1, q1.2.2⟩ r := reg (keep := [5]) (ops := c34r2) rfl (by kernel_rfl) (by kernel_rfl)
def c34s3 : ICode := (.cond (.t 35) c34k2 .skip)
@[simp] theorem uc34s3 : Ex F cx (.code c34s3 :: k) s r ↔ Ex F cx (.code (.cond (.t 35) c34k2 .skip) :: k) s r := Iff.rfl
def c34r4 : List Seg := [
  .one ⟨some 34, .mv (.t 6), none⟩,
  .one ⟨some 35, .un .not (.t 34), none⟩]
def c34k4 : ICode := .kill (dead 39 [5, 6]) (.ops c34r4)
@[simp] theorem uc34k4 : Ex F cx (.code c34k4 :: k) ⟨mk 39 l, rows, low⟩ r ↔ bnd (evP rows (.un .not (.c (lk l 6)))) fun v0 => Ex F cx k ⟨mk 39 [(35, v0), (34, lk l 6), (5, lk l 5), (6, lk l 6)], rows, low⟩ r := reg (keep := [5, 6]) (ops := c34r4) rfl (by kernel_rfl) (by kernel_rfl)
def c34s5 : ICode := (.seq (.seq c34k4 c34s3) c34s1)
@[simp] theorem uc34s5 : Ex F cx (.code c34s5 :: k) s r ↔ Ex F cx (.code (.seq (.seq c34k4 c34s3) c34s1) :: k) s r := Iff.rfl
def c34r7 : List Seg := [
  .one ⟨some 12, .mv (.t 7), none⟩,
  .one ⟨some 13, .bin .add (.t 12) (.c (.int .i64 1)), none⟩,
  .one ⟨some 7, .mv (.t 13), none⟩]
def c34k7 : ICode := .kill (dead 39 [0, 1, 5, 6, 7]) (.ops c34r7)
@[simp] theorem uc34k7 : Ex F cx (.code c34k7 :: k) ⟨mk 39 l, rows, low⟩ r ↔ bnd (evP rows (.bin .add (.c (lk l 7)) (.c (.int .i64 1)))) fun v0 => Ex F cx k ⟨mk 39 [(7, v0), (13, v0), (12, lk l 7), (0, lk l 0), (1, lk l 1), (5, lk l 5), (6, lk l 6), (7, lk l 7)], rows, low⟩ r := reg (keep := [0, 1, 5, 6, 7]) (ops := c34r7) rfl (by kernel_rfl) (by kernel_rfl)
def c34r8 : List Seg := [
  .one ⟨some 30, .mv (.t 5), none⟩,
  .one ⟨some 31, .mv (.t 8), none⟩,
  .one ⟨some 32, .mkslice 1 [.int .i64 0] [(0, 1, (.t 31))], none⟩,
  .one ⟨some 33, .app 1 8 (.t 30) (.t 32), none⟩,
  .one ⟨some 5, .mv (.t 33), none⟩]
def c34k8 : ICode := .kill (dead 39 [0, 1, 5, 6, 7, 8]) (.ops c34r8)
@[simp] theorem uc34k8 : Ex F cx (.code c34k8 :: k) ⟨mk 39 l, rows, low⟩ r ↔ bnd (evE rows low (.mkslice 1 [.int .i64 0] [(0, 1, (.c (lk l 8)))])) fun q0 => bnd (evE q0.2.1 q0.2.2 (.app 1 8 (.c (lk l 5)) (.c q0.1))) fun q1 => Ex F cx k ⟨mk 39 [(5, q1.1), (33, q1.1), (32, q0.1), (31, lk l 8), (30, lk l 5), (0, lk l 0), (1, lk l 1), (5, lk l 5), (6, lk l 6), (7, lk l 7), (8, lk l 8)], q1.2.1, q1.2.2⟩ r := reg (keep := [0, 1, 5, 6, 7, 8]) (ops := c34r8) rfl (by kernel_rfl) (by kernel_rfl)
def c34r9 : List Seg := [
  .one ⟨some 25, .mv (.t 6), none⟩,
  .one ⟨some 26, .mv (.t 25), none⟩,
  .one ⟨some 27, .mv (.t 8), some (26, false)⟩,
  .one ⟨some 28, .bin .gtr (.t 27) (.c (.int .i64 0)), some (26, false)⟩,
  .one ⟨some 29, .pick (.t 26) (.c (.bool true)) (.t 28), none⟩,
  .one ⟨some 6, .mv (.t 29), none⟩]
def c34k9 : ICode := .kill (dead 39 [0, 1, 5, 6, 7, 8]) (.ops c34r9)
@[simp] theorem uc34k9 : Ex F cx (.code c34k9 :: k) ⟨mk 39 l, rows, low⟩ r ↔ bnd (gv (lk l 6) false (evP rows (.mv (.c (lk l 8))))) fun v0 => bnd (gv (lk l 6) false (evP rows (.bin .gtr (.c v0) (.c (.int .i64 0))))) fun v1 => bnd (evP rows (.pick (.c (lk l 6)) (.c (.bool true)) (.c v1))) fun v2 => Ex F cx k ⟨mk 39 [(6, v2), (29, v2), (28, v1), (27, v0), (26, lk l 6), (25, lk l 6), (0, lk l 0), (1, lk l 1), (5, lk l 5), (6, lk l 6), (7, lk l 7), (8, lk l 8)], rows, low⟩ r := reg (keep := [0, 1, 5, 6, 7, 8]) (ops := c34r9) rfl (by kernel_rfl) (by kernel_rfl)
def c34s10 : ICode := (.seq c34k9 c34k8)
@[simp] theorem uc34s10 : Ex F cx (.code c34s10 :: k) s r ↔ Ex F cx (.code (.seq c34k9 c34k8) :: k) s r := Iff.rfl
def c34r11 : List Seg := [
  .one ⟨some 18, .mv (.t 0), none⟩,
  .one ⟨some 19, .mv (.t 7), none⟩,
  .one ⟨some 20, .idxS 1 (.t 18) (.t 19), none⟩,
  .one ⟨some 21, .load1 (.t 20), none⟩,
  .one ⟨some 22, .conv .u64 (.t 21), none⟩,
  .one ⟨some 23, .bin .rem (.t 22) (.c (.int .u64 1001)), none⟩,
  .one ⟨some 24, .conv .i64 (.t 23), none⟩,
  .one ⟨some 8, .mv (.t 24), none⟩]
def c34k11 : ICode := .kill (dead 39 [0, 1, 5, 6, 7]) (.ops c34r11)
@[simp] theorem uc34k11 : Ex F cx (.code c34k11 :: k) ⟨mk 39 l, rows, low⟩ r ↔ bnd (evP rows (.idxS 1 (.c (lk l 0)) (.c (lk l 7)))) fun v0 => bnd (evP rows (.load1 (.c v0))) fun v1 => bnd (evP rows (.conv .u64 (.c v1))) fun v2 => bnd (evP rows (.bin .rem (.c v2) (.c (.int .u64 1001)))) fun v3 => bnd (evP rows (.conv .i64 (.c v3))) fun v4 => Ex F cx k ⟨mk 39 [(8, v4), (24, v4), (23, v3), (22, v2), (21, v1), (20, v0), (19, lk l 7), (18, lk l 0), (0, lk l 0), (1, lk l 1), (5, lk l 5), (6, lk l 6), (7, lk l 7)], rows, low⟩ r := reg (keep := [0, 1, 5, 6, 7]) (ops := c34r11) rfl (by kernel_rfl) (by kernel_rfl)
def c34s12 : ICode := (.cond (.t 17) c34k11 .skip)
@[simp] theorem uc34s12 : Ex F cx (.code c34s12 :: k) s r ↔ Ex F cx (.code (.cond (.t 17) c34k11 .skip) :: k) s r := Iff.rfl
def c34r13 : List Seg := [
  .one ⟨some 14, .mv (.t 7), none⟩,
  .one ⟨some 15, .mv (.t 0), none⟩,
  .one ⟨some 16, .len 0 (.t 15), none⟩,
  .one ⟨some 17, .bin .lss (.t 14) (.t 16), none⟩]
def c34k13 : ICode := .kill (dead 39 [0, 1, 5, 6, 7, 8]) (.ops c34r13)
@[simp] theorem uc34k13 : Ex F cx (.code c34k13 :: k) ⟨mk 39 l, rows, low⟩ r ↔ bnd (evP rows (.len 0 (.c (lk l 0)))) fun v0 => bnd (evP rows (.bin .lss (.c (lk l 7)) (.c v0))) fun v1 => Ex F cx k ⟨mk 39 [(17, v1), (16, v0), (15, lk l 0), (14, lk l 7), (0, lk l 0), (1, lk l 1), (5, lk l 5), (6, lk l 6), (7, lk l 7), (8, lk l 8)], rows, low⟩ r := reg (keep := [0, 1, 5, 6, 7, 8]) (ops := c34r13) rfl (by kernel_rfl) (by kernel_rfl)
def c34s14 : ICode := (.seq (.seq c34k13 c34s12) c34s10)
@[simp] theorem uc34s14 : Ex F cx (.code c34s14 :: k) s r ↔ Ex F cx (.code (.seq (.seq c34k13 c34s12) c34s10) :: k) s r := Iff.rfl
def c34r15 : List Seg := [
  .one ⟨some 8, .mv (.c (.int .i64 0)), none⟩]
def c34k15 : ICode := .kill (dead 39 [0, 1, 5, 6, 7]) (.ops c34r15)
@[simp] theorem uc34k15 : Ex F cx (.code c34k15 :: k) ⟨mk 39 l, rows, low⟩ r ↔ Ex F cx k ⟨mk 39 [(8, (.int .i64 0)), (0, lk l 0), (1, lk l 1), (5, lk l 5), (6, lk l 6), (7, lk l 7)], rows, low⟩ r := reg (keep := [0, 1, 5, 6, 7]) (ops := c34r15) rfl (by kernel_rfl) (by kernel_rfl)
def c34s16 : ICode := (.seq (.block 1 (.seq c34k15 c34s14)) c34k7)
@[simp] theorem uc34s16 : Ex F cx (.code c34s16 :: k) s r ↔ Ex F cx (.code (.seq (.block 1 (.seq c34k15 c34s14)) c34k7) :: k) s r := Iff.rfl
def c34s17 : ICode := (.cond (.t 11) .skip (.exit 0))
@[simp] theorem uc34s17 : Ex F cx (.code c34s17 :: k) s r ↔ Ex F cx (.code (.cond (.t 11) .skip (.exit 0)) :: k) s r := Iff.rfl
def c34r18 : List Seg := [
  .one ⟨some 9, .mv (.t 7), none⟩,
  .one ⟨some 10, .mv (.t 1), none⟩,
  .one ⟨some 11, .bin .leq (.t 9) (.t 10), none⟩]
def c34k18 : ICode := .kill (dead 39 [0, 1, 5, 6, 7]) (.ops c34r18)
@[simp] theorem uc34k18 : Ex F cx (.code c34k18 :: k) ⟨mk 39 l, rows, low⟩ r ↔ bnd (evP rows (.bin .leq (.c (lk l 7)) (.c (lk l 1)))) fun v0 => Ex F cx k ⟨mk 39 [(11, v0), (10, lk l 1), (9, lk l 7), (0, lk l 0), (1, lk l 1), (5, lk l 5), (6, lk l 6), (7, lk l 7)], rows, low⟩ r := reg (keep := [0, 1, 5, 6, 7]) (ops := c34r18) rfl (by kernel_rfl) (by kernel_rfl)
def c34l6 : ICode := (.seq (.seq c34k18 c34s17) c34s16)
def c34s19 : ICode := (.block 0 (.loop c34l6))
@[simp] theorem uc34s19 : Ex F cx (.code c34s19 :: k) s r ↔ Ex F cx (.code (.block 0 (.loop c34l6)) :: k) s r := Iff.rfl
def c34r20 : List Seg := [
  .one ⟨some 7, .mv (.c (.int .i64 0)), none⟩]
def c34k20 : ICode := .kill (dead 39 [0, 1, 5, 6]) (.ops c34r20)
@[simp] theorem uc34k20 : Ex F cx (.code c34k20 :: k) ⟨mk 39 l, rows, low⟩ r ↔ Ex F cx k ⟨mk 39 [(7, (.int .i64 0)), (0, lk l 0), (1, lk l 1), (5, lk l 5), (6, lk l 6)], rows, low⟩ r := reg (keep := [0, 1, 5, 6]) (ops := c34r20) rfl (by kernel_rfl) (by kernel_rfl)
def c34s21 : ICode := (.seq (.seq c34k20 c34s19) c34s5)
@[simp] theorem uc34s21 : Ex F cx (.code c34s21 :: k) s r ↔ Ex F cx (.code (.seq (.seq c34k20 c34s19) c34s5) :: k) s r := Iff.rfl
def c34r22 : List Seg := [
  .one ⟨some 6, .mv (.c (.bool false)), none⟩]
def c34k22 : ICode := .kill (dead 39 [0, 1, 5]) (.ops c34r22)
@[simp] theorem uc34k22 : Ex F cx (.code c34k22 :: k) ⟨mk 39 l, rows, low⟩ r ↔ Ex F cx k ⟨mk 39 [(6, (.bool false)), (0, lk l 0), (1, lk l 1), (5, lk l 5)], rows, low⟩ r := reg (keep := [0, 1, 5]) (ops := c34r22) rfl (by kernel_rfl) (by kernel_rfl)
def c34s23 : ICode := (.seq c34k22 c34s21)
@[simp] theorem uc34s23 : Ex F cx (.code c34s23 :: k) s r ↔ Ex F cx (.code (.seq c34k22 c34s21) :: k) s r := Iff.rfl
def c34r24 : List Seg := [
  .one ⟨some 5, .mv (.c .nilslice), none⟩]
def c34k24 : ICode := .kill (dead 39 [0, 1]) (.ops c34r24)
@[simp] theorem uc34k24 : Ex F cx (.code c34k24 :: k) ⟨mk 39 l, rows, low⟩ r ↔ Ex F cx k ⟨mk 39 [(5, .nilslice), (0, lk l 0), (1, lk l 1)], rows, low⟩ r := reg (keep := [0, 1]) (ops := c34r24) rfl (by kernel_rfl) (by kernel_rfl)
def c34s25 : ICode := (.seq c34k24 c34s23)
@[simp] theorem uc34s25 : Ex F cx (.code c34s25 :: k) s r ↔ Ex F cx (.code (.seq c34k24 c34s23) :: k) s r := Iff.rfl
def c34r26 : List Seg := [
  .one ⟨some 4, .mv (.c .nilslice), none⟩]
def c34k26 : ICode := .kill (dead 39 [0, 1]) (.ops c34r26)
@[simp] theorem uc34k26 : Ex F cx (.code c34k26 :: k) ⟨mk 39 l, rows, low⟩ r ↔ Ex F cx k ⟨mk 39 [(4, .nilslice), (0, lk l 0), (1, lk l 1)], rows, low⟩ r := reg (keep := [0, 1]) (ops := c34r26) rfl (by kernel_rfl) (by kernel_rfl)
def Jc34s1 (F : Nat → Option IFn) (cx : Ctx) (x5 : AV) (rows : List Row) (low : Nat) (r : AV × List Row × Nat → Prop) : Prop := Ex F cx (.code c34s1 :: []) ⟨mk 39 [(5, x5)], rows, low⟩ r
theorem jc34s1 : Ex F cx (.code c34s1 :: []) ⟨mk 39 l, rows, low⟩ r ↔ Jc34s1 F cx (lk l 5) rows low r := Ex_canon (keep := [5]) (by kernel_rfl)
def Jc34s10 (F : Nat → Option IFn) (cx : Ctx) (x0 x1 x5 x6 x7 x8 : AV) (rows : List Row) (low : Nat) (r : AV × List Row × Nat → Prop) : Prop := Ex F cx (.code c34s10 :: .inBlock 1 :: .code c34k7 :: .inLoop c34l6 :: .inBlock 0 :: .code c34s5 :: []) ⟨mk 39 [(0, x0), (1, x1), (5, x5), (6, x6), (7, x7), (8, x8)], rows, low⟩ r
theorem jc34s10 : Ex F cx (.code c34s10 :: .inBlock 1 :: .code c34k7 :: .inLoop c34l6 :: .inBlock 0 :: .code c34s5 :: []) ⟨mk 39 l, rows, low⟩ r ↔ Jc34s10 F cx (lk l 0) (lk l 1) (lk l 5) (lk l 6) (lk l 7) (lk l 8) rows low r := Ex_canon (keep := [0, 1, 5, 6, 7, 8]) (by kernel_rfl)
def Jc34s16 (F : Nat → Option IFn) (cx : Ctx) (x0 x1 x5 x6 x7 : AV) (rows : List Row) (low : Nat) (r : AV × List Row × Nat → Prop) : Prop := Ex F cx (.code c34s16 :: .inLoop c34l6 :: .inBlock 0 :: .code c34s5 :: []) ⟨mk 39 [(0, x0), (1, x1), (5, x5), (6, x6), (7, x7)], rows, low⟩ r
theorem jc34s16 : Ex F cx (.code c34s16 :: .inLoop c34l6 :: .inBlock 0 :: .code c34s5 :: []) ⟨mk 39 l, rows, low⟩ r ↔ Jc34s16 F cx (lk l 0) (lk l 1) (lk l 5) (lk l 6) (lk l 7) rows low r := Ex_canon (keep := [0, 1, 5, 6, 7]) (by kernel_rfl)
def Lc34l6 (F : Nat → Option IFn) (cx : Ctx) (x0 x1 x5 x6 x7 : AV) (rows : List Row) (low : Nat) (r : AV × List Row × Nat → Prop) : Prop := Ex F cx (.code c34l6 :: .inLoop c34l6 :: .inBlock 0 :: .code c34s5 :: []) ⟨mk 39 [(0, x0), (1, x1), (5, x5), (6, x6), (7, x7)], rows, low⟩ r
@[simp] theorem nc34l6 : Ex F cx (.inLoop c34l6 :: .inBlock 0 :: .code c34s5 :: []) ⟨mk 39 l, rows, low⟩ r ↔ Lc34l6 F cx (lk l 0) (lk l 1) (lk l 5) (lk l 6) (lk l 7) rows low r := loopN (keep := [0, 1, 5, 6, 7]) (by kernel_rfl)
@[simp] theorem ec34l6 : Ex F cx (.code (.loop c34l6) :: .inBlock 0 :: .code c34s5 :: []) ⟨mk 39 l, rows, low⟩ r ↔ Lc34l6 F cx (lk l 0) (lk l 1) (lk l 5) (lk l 6) (lk l 7) rows low r := loopE (keep := [0, 1, 5, 6, 7]) (by kernel_rfl)
@[simp] theorem uc34l6 : Ex F cx (.code c34l6 :: k) s r ↔ Ex F cx (.code (.seq (.seq c34k18 c34s17) c34s16) :: k) s r := Iff.rfl
def c34b : ICode := (.seq c34k26 c34s25)
@[simp] theorem uc34b : Ex F cx (.code c34b :: k) s r ↔ Ex F cx (.code (.seq c34k26 c34s25) :: k) s r := Iff.rfl
def c34 : IFn := ⟨39, [.t 4], c34b⟩
def h34 : List (Nat × List Nat) := [(0, dead 39 [0, 1]), (1, dead 39 [0, 1]), (2, dead 39 [0, 1, 5]), (3, dead 39 [0, 1, 5, 6]), (4, dead 39 [0, 1, 5, 6, 7]), (6, dead 39 [0, 1, 5, 6, 7]), (7, dead 39 [0, 1, 5, 6, 7, 8]), (8, dead 39 [0, 1, 5, 6, 7]), (9, dead 39 [0, 1, 5, 6, 7, 8]), (10, dead 39 [0, 1, 5, 6, 7, 8]), (5, dead 39 [0, 1, 5, 6, 7]), (11, dead 39 [5, 6]), (12, dead 39 [5]), (13, dead 39 [5])]
theorem i34 {x0 x1 : AV} (hF : F 34 = some c34) {q : AV × List Row × Option Nat} (h : Ex F (.fn [.t 4]) [.code c34b] ⟨mk 39 [(0, x0), (1, x1)], rows, rows.length⟩ fun r => fin rows r.1 r.2.1 r.2.2 = q) : Ret F 34 [x0, x1] rows = some q := Ret_mk hF h
/-! tosher/search.Weighed -/
def c35r0 : List Seg := [
  .grp [(⟨some 19, .mv (.t 8), none⟩, 0), (⟨some 20, .load1 (.t 2), none⟩, 0), (⟨some 21, .len 0 (.t 20), none⟩, 2), (⟨some 22, .nilck (.t 19), none⟩, 1), (⟨some 23, .fieldA 0 (.t 22), none⟩, 9), (⟨some 24, .idxA 13 13 (.t 23) (.c (.int .i64 0)), none⟩, 25), (⟨some 25, .idxA 13 1 (.t 24) (.t 21), none⟩, 63), (⟨some 26, .load1 (.t 25), none⟩, 127), (⟨some 27, .mv (.t 8), none⟩, 0), (⟨some 28, .load1 (.t 2), none⟩, 0), (⟨some 29, .call (.c (.func 60 [])) [(.t 28)], none⟩, 512), (⟨some 30, .call (.c (.func 59 [])) [(.t 27), (.t 29)], none⟩, 1792)],
  .one ⟨some 4, .mv (.t 26), none⟩,
  .one ⟨some 5, .mv (.t 30), none⟩,
  .one ⟨some 6, .mv (.c (.int .i64 0)), none⟩]
def c35k0 : ICode := .kill (dead 31 [2, 8]) (.ops c35r0)
@[simp] theorem uc35k0 : Ex F cx (.code c35k0 :: k) ⟨mk 31 l, rows, low⟩ r ↔ bnd (evP (rows ++ maskE 0 ([] : List (Nat × Row))) (.load1 (.c (lk l 2)))) fun v0 => bnd (evP (rows ++ maskE 2 ([] : List (Nat × Row))) (.len 0 (.c v0))) fun v1 => bnd (evP (rows ++ maskE 1 ([] : List (Nat × Row))) (.nilck (.c (lk l 8)))) fun v2 => bnd (evP (rows ++ maskE 9 ([] : List (Nat × Row))) (.fieldA 0 (.c v2))) fun v3 => bnd (evP (rows ++ maskE 25 ([] : List (Nat × Row))) (.idxA 13 13 (.c v3) (.c (.int .i64 0)))) fun v4 => bnd (evP (rows ++ maskE 63 ([] : List (Nat × Row))) (.idxA 13 1 (.c v4) (.c v1))) fun v5 => bnd (evP (rows ++ maskE 127 ([] : List (Nat × Row))) (.load1 (.c v5))) fun v6 => bnd (evP (rows ++ maskE 0 ([] : List (Nat × Row))) (.load1 (.c (lk l 2)))) fun v7 => bnd (opC F (rows ++ maskE 512 ([] : List (Nat × Row))) (rows.length + ([] : List (Nat × Row)).length) [v7] (.func 60 [])) fun q8 => q8.2.2 = rows.length + ([] : List (Nat × Row)).length ∧ bnd (some (([] : List (Nat × Row)) ++ List.map (fun (x : Row) => (10, x)) (q8.2.1.drop (rows.length + ([] : List (Nat × Row)).length)))) fun e8 => bnd (opC F (rows ++ maskE 1792 e8) (rows.length + e8.length) [lk l 8, q8.1] (.func 59 [])) fun q9 => q9.2.2 = rows.length + e8.length ∧ bnd (some (e8 ++ List.map (fun (x : Row) => (11, x)) (q9.2.1.drop (rows.length + e8.length)))) fun e9 => Ex F cx k ⟨mk 31 [(6, (.int .i64 0)), (5, q9.1), (4, v6), (30, q9.1), (29, q8.1), (28, v7), (27, lk l 8), (26, v6), (25, v5), (24, v4), (23, v3), (22, v2), (21, v1), (20, v0), (19, lk l 8), (2, lk l 2), (8, lk l 8)], (rows ++ List.map (fun (x : Nat × Row) => x.2) e9), low⟩ r := reg (keep := [2, 8]) (ops := c35r0) rfl (by kernel_rfl) (by kernel_rfl)
def c35s1 : ICode := (.seq c35k0 .ret)
@[simp] theorem uc35s1 : Ex F cx (.code c35s1 :: k) s r ↔ Ex F cx (.code (.seq c35k0 .ret) :: k) s r := Iff.rfl
def c35r2 : List Seg := [
  .one ⟨some 15, .load1 (.t 2), none⟩,
  .one ⟨some 16, .len 0 (.t 15), none⟩,
  .one ⟨some 17, .mkfn 66 [(.t 2), (.t 3)], none⟩,
  .one ⟨some 18, .call (.c (.func 57 [])) [(.t 16), (.t 17)], none⟩,
  .one ⟨some 8, .mv (.t 18), none⟩]
def c35k2 : ICode := .kill (dead 31 [2, 3]) (.ops c35r2)
@[simp] theorem uc35k2 : Ex F cx (.code c35k2 :: k) ⟨mk 31 l, rows, low⟩ r ↔ bnd (evP rows (.load1 (.c (lk l 2)))) fun v0 => bnd (evP rows (.len 0 (.c v0))) fun v1 => bnd (evP rows (.mkfn 66 [(.c (lk l 2)), (.c (lk l 3))])) fun v2 => bnd (Ret F 57 [v1, v2] rows) fun q3 => Ex F cx k ⟨mk 31 [(8, q3.1), (18, q3.1), (17, v2), (16, v1), (15, v0), (2, lk l 2), (3, lk l 3)], q3.2.1, (lowO low q3.2.2)⟩ r := reg (keep := [2, 3]) (ops := c35r2) rfl (by kernel_rfl) (by kernel_rfl)
def c35s3 : ICode := (.seq c35k2 c35s1)
@[simp] theorem uc35s3 : Ex F cx (.code c35s3 :: k) s r ↔ Ex F cx (.code (.seq c35k2 c35s1) :: k) s r := Iff.rfl
def c35r4 : List Seg := [
  .one ⟨some 14, .mv (.t 7), none⟩,
  .one ⟨some 4, .mv (.c (.int .i64 0)), none⟩,
  .one ⟨some 5, .mv (.c .nilslice), none⟩,
  .one ⟨some 6, .mv (.t 14), none⟩]
def c35k4 : ICode := .kill (dead 31 [7]) (.ops c35r4)
@[simp] theorem uc35k4 : Ex F cx (.code c35k4 :: k) ⟨mk 31 l, rows, low⟩ r ↔ Ex F cx k ⟨mk 31 [(6, lk l 7), (5, .nilslice), (4, (.int .i64 0)), (14, lk l 7), (7, lk l 7)], rows, low⟩ r := reg (keep := [7]) (ops := c35r4) rfl (by kernel_rfl) (by kernel_rfl)
def c35s5 : ICode := (.cond (.t 13) (.seq c35k4 .ret) .skip)
@[simp] theorem uc35s5 : Ex F cx (.code c35s5 :: k) s r ↔ Ex F cx (.code (.cond (.t 13) (.seq c35k4 .ret) .skip) :: k) s r := Iff.rfl
def c35r6 : List Seg := [
  .one ⟨some 12, .mv (.t 7), none⟩,
  .one ⟨some 13, .bin .neq (.t 12) (.c (.int .i64 0)), none⟩]
def c35k6 : ICode := .kill (dead 31 [2, 3, 7]) (.ops c35r6)
@[simp] theorem uc35k6 : Ex F cx (.code c35k6 :: k) ⟨mk 31 l, rows, low⟩ r ↔ bnd (evP rows (.bin .neq (.c (lk l 7)) (.c (.int .i64 0)))) fun v0 => Ex F cx k ⟨mk 31 [(13, v0), (12, lk l 7), (2, lk l 2), (3, lk l 3), (7, lk l 7)], rows, low⟩ r := reg (keep := [2, 3, 7]) (ops := c35r6) rfl (by kernel_rfl) (by kernel_rfl)
def c35s7 : ICode := (.seq c35k6 c35s5)
@[simp] theorem uc35s7 : Ex F cx (.code c35s7 :: k) s r ↔ Ex F cx (.code (.seq c35k6 c35s5) :: k) s r := Iff.rfl
def c35r8 : List Seg := [
  .one ⟨some 9, .load1 (.t 2), none⟩,
  .one ⟨some 10, .load1 (.t 3), none⟩,
  .one ⟨some 11, .call (.c (.func 65 [])) [(.t 9), (.t 10)], none⟩,
  .one ⟨some 7, .mv (.t 11), none⟩]
def c35k8 : ICode := .kill (dead 31 [2, 3]) (.ops c35r8)
@[simp] theorem uc35k8 : Ex F cx (.code c35k8 :: k) ⟨mk 31 l, rows, low⟩ r ↔ bnd (evP rows (.load1 (.c (lk l 2)))) fun v0 => bnd (evP rows (.load1 (.c (lk l 3)))) fun v1 => bnd (Ret F 65 [v0, v1] rows) fun q2 => Ex F cx k ⟨mk 31 [(7, q2.1), (11, q2.1), (10, v1), (9, v0), (2, lk l 2), (3, lk l 3)], q2.2.1, (lowO low q2.2.2)⟩ r := reg (keep := [2, 3]) (ops := c35r8) rfl (by kernel_rfl) (by kernel_rfl)
def c35s9 : ICode := (.seq (.seq c35k8 c35s7) c35s3)
@[simp] theorem uc35s9 : Ex F cx (.code c35s9 :: k) s r ↔ Ex F cx (.code (.seq (.seq c35k8 c35s7) c35s3) :: k) s r := Iff.rfl
def c35r10 : List Seg := [
  .one ⟨some 2, .box (.t 0), none⟩,
  .one ⟨some 3, .box (.t 1), none⟩,
  .one ⟨some 4, .mv (.c (.int .i64 0)), none⟩,
  .one ⟨some 5, .mv (.c .nilslice), none⟩,
  .one ⟨some 6, .mv (.c (.int .i64 0)), none⟩]
def c35k10 : ICode := .kill (dead 31 [0, 1]) (.ops c35r10)
@[simp] theorem uc35k10 : Ex F cx (.code c35k10 :: k) ⟨mk 31 l, rows, low⟩ r ↔ bnd (evE rows low (.box (.c (lk l 0)))) fun q0 => bnd (evE q0.2.1 q0.2.2 (.box (.c (lk l 1)))) fun q1 => Ex F cx k ⟨mk 31 [(6, (.int .i64 0)), (5, .nilslice), (4, (.int .i64 0)), (3, q1.1), (2, q0.1), (0, lk l 0), (1, lk l 1)], q1.2.1, q1.2.2⟩ r := reg (keep := [0, 1]) (ops := c35r10) rfl (by kernel_rfl) (by kernel_rfl)
def Jc35s3 (F : Nat → Option IFn) (cx : Ctx) (x2 x3 : AV) (rows : List Row) (low : Nat) (r : AV × List Row × Nat → Prop) : Prop := Ex F cx (.code c35s3 :: []) ⟨mk 31 [(2, x2), (3, x3)], rows, low⟩ r
theorem jc35s3 : Ex F cx (.code c35s3 :: []) ⟨mk 31 l, rows, low⟩ r ↔ Jc35s3 F cx (lk l 2) (lk l 3) rows low r := Ex_canon (keep := [2, 3]) (by kernel_rfl)
def c35b : ICode := (.seq c35k10 c35s9)
@[simp] theorem uc35b : Ex F cx (.code c35b :: k) s r ↔ Ex F cx (.code (.seq c35k10 c35s9) :: k) s r := Iff.rfl
def c35 : IFn := ⟨31, [.t 4, .t 5, .t 6], c35b⟩
def h35 : List (Nat × List Nat) := [(0, dead 31 [0, 1]), (1, dead 31 [2, 3]), (2, dead 31 [2, 3, 7]), (3, dead 31 [7]), (4, dead 31 [2, 3]), (5, dead 31 [2, 8])]
theorem i35 {x0 x1 : AV} (hF : F 35 = some c35) {q : AV × List Row × Option Nat} (h : Ex F (.fn [.t 4, .t 5, .t 6]) [.code c35b] ⟨mk 31 [(0, x0), (1, x1)], rows, rows.length⟩ fun r => fin rows r.1 r.2.1 r.2.2 = q) : Ret F 35 [x0, x1] rows = some q := Ret_mk hF h
end Go.Abs
