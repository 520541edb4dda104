/- The evaluator's code of the cut's functions. -/
import Derived.Test.YtiejbjajbehcfaaDoorA27
import Derived.KernelRfl
set_option linter.unusedVariables false
set_option maxRecDepth 20000
set_option maxHeartbeats 4000000
namespace Go.Abs
variable {F : Nat → Option IFn} {cx : Ctx} {k : List Itm} {s : St} {l : List (Nat × AV)} {rows : List Row} {low : Nat} {r : AV × List Row × Nat → Prop}
/-! tosher/search.Check -/
def c46r0 : List Seg := [
  .one ⟨some 2, .mv (.c (.int .i64 0)), none⟩]
def c46k0 : ICode := .kill (dead 11 []) (.ops c46r0)
@[simp] theorem uc46k0 : Ex F cx (.code c46k0 :: k) ⟨mk 11 l, rows, low⟩ r ↔ Ex F cx k ⟨mk 11 [(2, (.int .i64 0))], rows, low⟩ r := reg (keep := []) (ops := c46r0) rfl (by kernel_rfl) (by kernel_rfl)
def c46s1 : ICode := (.seq c46k0 .ret)
@[simp] theorem uc46s1 : Ex F cx (.code c46s1 :: k) s r ↔ Ex F cx (.code (.seq c46k0 .ret) :: k) s r := Iff.rfl
def c46r2 : List Seg := [
  .one ⟨some 2, .mv (.c (.int .i64 80)), none⟩]
def c46k2 : ICode := .kill (dead 11 []) (.ops c46r2)
@[simp] theorem uc46k2 : Ex F cx (.code c46k2 :: k) ⟨mk 11 l, rows, low⟩ r ↔ Ex F cx k ⟨mk 11 [(2, (.int .i64 80))], rows, low⟩ r := reg (keep := []) (ops := c46r2) rfl (by kernel_rfl) (by kernel_rfl)
def c46s3 : ICode := (.cond (.t 10) (.seq c46k2 .ret) .skip)
@[simp] theorem uc46s3 : Ex F cx (.code c46s3 :: k) s r ↔ Ex F cx (.code (.cond (.t 10) (.seq c46k2 .ret) .skip) :: k) s r := Iff.rfl
def c46r4 : List Seg := [
  .one ⟨some 3, .mv (.t 0), none⟩,
  .one ⟨some 4, .len 0 (.t 3), none⟩,
  .one ⟨some 5, .bin .gtr (.t 4) (.c (.int .i64 12)), none⟩,
  .one ⟨some 6, .mv (.t 5), none⟩,
  .one ⟨some 7, .mv (.t 0), some (6, false)⟩,
  .one ⟨some 8, .call (.c (.func 55 [])) [(.c (.int .i64 1)), (.c (.int .i64 1000)), (.t 7)], some (6, false)⟩,
  .one ⟨some 9, .un .not (.t 8), some (6, false)⟩,
  .one ⟨some 10, .pick (.t 6) (.c (.bool true)) (.t 9), none⟩]
def c46k4 : ICode := .kill (dead 11 [0]) (.ops c46r4)
@[simp] theorem uc46k4 : Ex F cx (.code c46k4 :: k) ⟨mk 11 l, rows, low⟩ r ↔ bnd (evP rows (.len 0 (.c (lk l 0)))) fun v0 => bnd (evP rows (.bin .gtr (.c v0) (.c (.int .i64 12)))) fun v1 => bnd (gv v1 false (evP rows (.mv (.c (lk l 0))))) fun v2 => gcall F v1 false rows low [(.int .i64 1), (.int .i64 1000), v2] (.func 55 []) fun v3 R3 L3 => bnd (gv v1 false (evP R3 (.un .not (.c v3)))) fun v4 => bnd (evP R3 (.pick (.c v1) (.c (.bool true)) (.c v4))) fun v5 => Ex F cx k ⟨mk 11 [(10, v5), (9, v4), (8, v3), (7, v2), (6, v1), (5, v1), (4, v0), (3, lk l 0), (0, lk l 0)], R3, L3⟩ r := reg (keep := [0]) (ops := c46r4) rfl (by kernel_rfl) (by kernel_rfl)
def c46s5 : ICode := (.seq (.seq c46k4 c46s3) c46s1)
@[simp] theorem uc46s5 : Ex F cx (.code c46s5 :: k) s r ↔ Ex F cx (.code (.seq (.seq c46k4 c46s3) c46s1) :: k) s r := Iff.rfl
def c46r6 : List Seg := [
  .one ⟨some 2, .mv (.c (.int .i64 0)), none⟩]
def c46k6 : ICode := .kill (dead 11 [0]) (.ops c46r6)
@[simp] theorem uc46k6 : Ex F cx (.code c46k6 :: k) ⟨mk 11 l, rows, low⟩ r ↔ Ex F cx k ⟨mk 11 [(2, (.int .i64 0)), (0, lk l 0)], rows, low⟩ r := reg (keep := [0]) (ops := c46r6) rfl (by kernel_rfl) (by kernel_rfl)
def Jc46s1 (F : Nat → Option IFn) (cx : Ctx) (rows : List Row) (low : Nat) (r : AV × List Row × Nat → Prop) : Prop := Ex F cx (.code c46s1 :: []) ⟨mk 11 [], rows, low⟩ r
theorem jc46s1 : Ex F cx (.code c46s1 :: []) ⟨mk 11 l, rows, low⟩ r ↔ Jc46s1 F cx  rows low r := Ex_canon (keep := []) (by kernel_rfl)
def c46b : ICode := (.seq c46k6 c46s5)
@[simp] theorem uc46b : Ex F cx (.code c46b :: k) s r ↔ Ex F cx (.code (.seq c46k6 c46s5) :: k) s r := Iff.rfl
def c46 : IFn := ⟨11, [.t 2], c46b⟩
def h46 : List (Nat × List Nat) := [(0, dead 11 [0]), (1, dead 11 [0]), (2, dead 11 []), (3, dead 11 [])]
theorem i46 {x0 : AV} (hF : F 46 = some c46) {q : AV × List Row × Option Nat} (h : Ex F (.fn [.t 2]) [.code c46b] ⟨mk 11 [(0, x0)], rows, rows.length⟩ fun r => fin rows r.1 r.2.1 r.2.2 = q) : Ret F 46 [x0] rows = some q := Ret_mk hF h
/-! tosher/tosherref08.Weights -/
def c47r0 : List Seg := [
  .one ⟨some 33, .mv (.t 5), none⟩,
  .one ⟨some 34, .mv (.t 33), none⟩,
  .one ⟨some 35, .mv (.t 1), some (34, true)⟩,
  .one ⟨some 36, .len 0 (.t 35), some (34, true)⟩,
  .one ⟨some 37, .mv (.t 0), some (34, true)⟩,
  .one ⟨some 38, .len 0 (.t 37), some (34, true)⟩,
  .one ⟨some 39, .bin .add (.t 38) (.c (.int .i64 1)), some (34, true)⟩,
  .one ⟨some 40, .bin .eql (.t 36) (.t 39), some (34, true)⟩,
  .one ⟨some 41, .pick (.t 34) (.t 40) (.c (.bool false)), none⟩,
  .one ⟨some 4, .mv (.t 41), none⟩]
def c47k0 : ICode := .kill (dead 42 [0, 1, 5]) (.ops c47r0)
@[simp] theorem uc47k0 : Ex F cx (.code c47k0 :: k) ⟨mk 42 l, rows, low⟩ r ↔ bnd (gv (lk l 5) true (evP rows (.mv (.c (lk l 1))))) fun v0 => bnd (gv (lk l 5) true (evP rows (.len 0 (.c v0)))) fun v1 => bnd (gv (lk l 5) true (evP rows (.mv (.c (lk l 0))))) fun v2 => bnd (gv (lk l 5) true (evP rows (.len 0 (.c v2)))) fun v3 => bnd (gv (lk l 5) true (evP rows (.bin .add (.c v3) (.c (.int .i64 1))))) fun v4 => bnd (gv (lk l 5) true (evP rows (.bin .eql (.c v1) (.c v4)))) fun v5 => bnd (evP rows (.pick (.c (lk l 5)) (.c v5) (.c (.bool false)))) fun v6 => Ex F cx k ⟨mk 42 [(4, v6), (41, v6), (40, v5), (39, v4), (38, v3), (37, v2), (36, v1), (35, v0), (34, lk l 5), (33, lk l 5), (0, lk l 0), (1, lk l 1), (5, lk l 5)], rows, low⟩ r := reg (keep := [0, 1, 5]) (ops := c47r0) rfl (by kernel_rfl) (by kernel_rfl)
def c47s1 : ICode := (.seq c47k0 .ret)
@[simp] theorem uc47s1 : Ex F cx (.code c47s1 :: k) s r ↔ Ex F cx (.code (.seq c47k0 .ret) :: k) s r := Iff.rfl
def c47r3 : List Seg := [
  .one ⟨some 11, .mv (.t 6), none⟩,
  .one ⟨some 12, .bin .add (.t 11) (.c (.int .i64 1)), none⟩,
  .one ⟨some 6, .mv (.t 12), none⟩]
def c47k3 : ICode := .kill (dead 42 [0, 1, 5, 6]) (.ops c47r3)
@[simp] theorem uc47k3 : Ex F cx (.code c47k3 :: k) ⟨mk 42 l, rows, low⟩ r ↔ bnd (evP rows (.bin .add (.c (lk l 6)) (.c (.int .i64 1)))) fun v0 => Ex F cx k ⟨mk 42 [(6, v0), (12, v0), (11, lk l 6), (0, lk l 0), (1, lk l 1), (5, lk l 5), (6, lk l 6)], rows, low⟩ r := reg (keep := [0, 1, 5, 6]) (ops := c47r3) rfl (by kernel_rfl) (by kernel_rfl)
def c47r4 : List Seg := [
  .one ⟨some 25, .mv (.t 5), none⟩,
  .one ⟨some 26, .mv (.t 25), none⟩,
  .one ⟨some 27, .mv (.t 1), some (26, false)⟩,
  .one ⟨some 28, .mv (.t 6), some (26, false)⟩,
  .one ⟨some 29, .idxS 1 (.t 27) (.t 28), some (26, false)⟩,
  .one ⟨some 30, .load1 (.t 29), some (26, false)⟩,
  .one ⟨some 31, .bin .gtr (.t 30) (.c (.int .i64 0)), some (26, false)⟩,
  .one ⟨some 32, .pick (.t 26) (.c (.bool true)) (.t 31), none⟩,
  .one ⟨some 5, .mv (.t 32), none⟩]
def c47k4 : ICode := .kill (dead 42 [0, 1, 5, 6]) (.ops c47r4)
@[simp] theorem uc47k4 : Ex F cx (.code c47k4 :: k) ⟨mk 42 l, rows, low⟩ r ↔ bnd (gv (lk l 5) false (evP rows (.mv (.c (lk l 1))))) fun v0 => bnd (gv (lk l 5) false (evP rows (.mv (.c (lk l 6))))) fun v1 => bnd (gv (lk l 5) false (evP rows (.idxS 1 (.c v0) (.c v1)))) fun v2 => bnd (gv (lk l 5) false (evP rows (.load1 (.c v2)))) fun v3 => bnd (gv (lk l 5) false (evP rows (.bin .gtr (.c v3) (.c (.int .i64 0))))) fun v4 => bnd (evP rows (.pick (.c (lk l 5)) (.c (.bool true)) (.c v4))) fun v5 => Ex F cx k ⟨mk 42 [(5, v5), (32, v5), (31, v4), (30, v3), (29, v2), (28, v1), (27, v0), (26, lk l 5), (25, lk l 5), (0, lk l 0), (1, lk l 1), (5, lk l 5), (6, lk l 6)], rows, low⟩ r := reg (keep := [0, 1, 5, 6]) (ops := c47r4) rfl (by kernel_rfl) (by kernel_rfl)
def c47r5 : List Seg := [
  .one ⟨some 4, .mv (.c (.bool false)), none⟩]
def c47k5 : ICode := .kill (dead 42 []) (.ops c47r5)
@[simp] theorem uc47k5 : Ex F cx (.code c47k5 :: k) ⟨mk 42 l, rows, low⟩ r ↔ Ex F cx k ⟨mk 42 [(4, (.bool false))], rows, low⟩ r := reg (keep := []) (ops := c47r5) rfl (by kernel_rfl) (by kernel_rfl)
def c47s6 : ICode := (.cond (.t 24) (.seq c47k5 .ret) .skip)
@[simp] theorem uc47s6 : Ex F cx (.code c47s6 :: k) s r ↔ Ex F cx (.code (.cond (.t 24) (.seq c47k5 .ret) .skip) :: k) s r := Iff.rfl
def c47r7 : List Seg := [
  .one ⟨some 13, .mv (.t 1), none⟩,
  .one ⟨some 14, .mv (.t 6), none⟩,
  .one ⟨some 15, .idxS 1 (.t 13) (.t 14), none⟩,
  .one ⟨some 16, .load1 (.t 15), none⟩,
  .one ⟨some 17, .bin .lss (.t 16) (.c (.int .i64 0)), none⟩,
  .one ⟨some 18, .mv (.t 17), none⟩,
  .one ⟨some 19, .mv (.t 1), some (18, false)⟩,
  .one ⟨some 20, .mv (.t 6), some (18, false)⟩,
  .one ⟨some 21, .idxS 1 (.t 19) (.t 20), some (18, false)⟩,
  .one ⟨some 22, .load1 (.t 21), some (18, false)⟩,
  .one ⟨some 23, .bin .gtr (.t 22) (.c (.int .i64 1000)), some (18, false)⟩,
  .one ⟨some 24, .pick (.t 18) (.c (.bool true)) (.t 23), none⟩]
def c47k7 : ICode := .kill (dead 42 [0, 1, 5, 6]) (.ops c47r7)
@[simp] theorem uc47k7 : Ex F cx (.code c47k7 :: k) ⟨mk 42 l, rows, low⟩ r ↔ bnd (evP rows (.idxS 1 (.c (lk l 1)) (.c (lk l 6)))) fun v0 => bnd (evP rows (.load1 (.c v0))) fun v1 => bnd (evP rows (.bin .lss (.c v1) (.c (.int .i64 0)))) fun v2 => bnd (gv v2 false (evP rows (.mv (.c (lk l 1))))) fun v3 => bnd (gv v2 false (evP rows (.mv (.c (lk l 6))))) fun v4 => bnd (gv v2 false (evP rows (.idxS 1 (.c v3) (.c v4)))) fun v5 => bnd (gv v2 false (evP rows (.load1 (.c v5)))) fun v6 => bnd (gv v2 false (evP rows (.bin .gtr (.c v6) (.c (.int .i64 1000))))) fun v7 => bnd (evP rows (.pick (.c v2) (.c (.bool true)) (.c v7))) fun v8 => Ex F cx k ⟨mk 42 [(24, v8), (23, v7), (22, v6), (21, v5), (20, v4), (19, v3), (18, v2), (17, v2), (16, v1), (15, v0), (14, lk l 6), (13, lk l 1), (0, lk l 0), (1, lk l 1), (5, lk l 5), (6, lk l 6)], rows, low⟩ r := reg (keep := [0, 1, 5, 6]) (ops := c47r7) rfl (by kernel_rfl) (by kernel_rfl)
def c47s8 : ICode := (.seq (.block 1 (.seq (.seq c47k7 c47s6) c47k4)) c47k3)
@[simp] theorem uc47s8 : Ex F cx (.code c47s8 :: k) s r ↔ Ex F cx (.code (.seq (.block 1 (.seq (.seq c47k7 c47s6) c47k4)) c47k3) :: k) s r := Iff.rfl
def c47s9 : ICode := (.cond (.t 10) .skip (.exit 0))
@[simp] theorem uc47s9 : Ex F cx (.code c47s9 :: k) s r ↔ Ex F cx (.code (.cond (.t 10) .skip (.exit 0)) :: k) s r := Iff.rfl
def c47r10 : List Seg := [
  .one ⟨some 7, .mv (.t 6), none⟩,
  .one ⟨some 8, .mv (.t 1), none⟩,
  .one ⟨some 9, .len 0 (.t 8), none⟩,
  .one ⟨some 10, .bin .lss (.t 7) (.t 9), none⟩]
def c47k10 : ICode := .kill (dead 42 [0, 1, 5, 6]) (.ops c47r10)
@[simp] theorem uc47k10 : Ex F cx (.code c47k10 :: k) ⟨mk 42 l, rows, low⟩ r ↔ bnd (evP rows (.len 0 (.c (lk l 1)))) fun v0 => bnd (evP rows (.bin .lss (.c (lk l 6)) (.c v0))) fun v1 => Ex F cx k ⟨mk 42 [(10, v1), (9, v0), (8, lk l 1), (7, lk l 6), (0, lk l 0), (1, lk l 1), (5, lk l 5), (6, lk l 6)], rows, low⟩ r := reg (keep := [0, 1, 5, 6]) (ops := c47r10) rfl (by kernel_rfl) (by kernel_rfl)
def c47l2 : ICode := (.seq (.seq c47k10 c47s9) c47s8)
def c47s11 : ICode := (.block 0 (.loop c47l2))
@[simp] theorem uc47s11 : Ex F cx (.code c47s11 :: k) s r ↔ Ex F cx (.code (.block 0 (.loop c47l2)) :: k) s r := Iff.rfl
def c47r12 : List Seg := [
  .one ⟨some 6, .mv (.c (.int .i64 0)), none⟩]
def c47k12 : ICode := .kill (dead 42 [0, 1, 5]) (.ops c47r12)
@[simp] theorem uc47k12 : Ex F cx (.code c47k12 :: k) ⟨mk 42 l, rows, low⟩ r ↔ Ex F cx k ⟨mk 42 [(6, (.int .i64 0)), (0, lk l 0), (1, lk l 1), (5, lk l 5)], rows, low⟩ r := reg (keep := [0, 1, 5]) (ops := c47r12) rfl (by kernel_rfl) (by kernel_rfl)
def c47s13 : ICode := (.seq (.seq c47k12 c47s11) c47s1)
@[simp] theorem uc47s13 : Ex F cx (.code c47s13 :: k) s r ↔ Ex F cx (.code (.seq (.seq c47k12 c47s11) c47s1) :: k) s r := Iff.rfl
def c47r14 : List Seg := [
  .one ⟨some 5, .mv (.c (.bool false)), none⟩]
def c47k14 : ICode := .kill (dead 42 [0, 1]) (.ops c47r14)
@[simp] theorem uc47k14 : Ex F cx (.code c47k14 :: k) ⟨mk 42 l, rows, low⟩ r ↔ Ex F cx k ⟨mk 42 [(5, (.bool false)), (0, lk l 0), (1, lk l 1)], rows, low⟩ r := reg (keep := [0, 1]) (ops := c47r14) rfl (by kernel_rfl) (by kernel_rfl)
def c47s15 : ICode := (.seq c47k14 c47s13)
@[simp] theorem uc47s15 : Ex F cx (.code c47s15 :: k) s r ↔ Ex F cx (.code (.seq c47k14 c47s13) :: k) s r := Iff.rfl
def c47r16 : List Seg := [
  .one ⟨some 4, .mv (.c (.bool false)), none⟩]
def c47k16 : ICode := .kill (dead 42 [0, 1]) (.ops c47r16)
@[simp] theorem uc47k16 : Ex F cx (.code c47k16 :: k) ⟨mk 42 l, rows, low⟩ r ↔ Ex F cx k ⟨mk 42 [(4, (.bool false)), (0, lk l 0), (1, lk l 1)], rows, low⟩ r := reg (keep := [0, 1]) (ops := c47r16) rfl (by kernel_rfl) (by kernel_rfl)
def Jc47s8 (F : Nat → Option IFn) (cx : Ctx) (x0 x1 x5 x6 : AV) (rows : List Row) (low : Nat) (r : AV × List Row × Nat → Prop) : Prop := Ex F cx (.code c47s8 :: .inLoop c47l2 :: .inBlock 0 :: .code c47s1 :: []) ⟨mk 42 [(0, x0), (1, x1), (5, x5), (6, x6)], rows, low⟩ r
theorem jc47s8 : Ex F cx (.code c47s8 :: .inLoop c47l2 :: .inBlock 0 :: .code c47s1 :: []) ⟨mk 42 l, rows, low⟩ r ↔ Jc47s8 F cx (lk l 0) (lk l 1) (lk l 5) (lk l 6) rows low r := Ex_canon (keep := [0, 1, 5, 6]) (by kernel_rfl)
def Lc47l2 (F : Nat → Option IFn) (cx : Ctx) (x0 x1 x5 x6 : AV) (rows : List Row) (low : Nat) (r : AV × List Row × Nat → Prop) : Prop := Ex F cx (.code c47l2 :: .inLoop c47l2 :: .inBlock 0 :: .code c47s1 :: []) ⟨mk 42 [(0, x0), (1, x1), (5, x5), (6, x6)], rows, low⟩ r
@[simp] theorem nc47l2 : Ex F cx (.inLoop c47l2 :: .inBlock 0 :: .code c47s1 :: []) ⟨mk 42 l, rows, low⟩ r ↔ Lc47l2 F cx (lk l 0) (lk l 1) (lk l 5) (lk l 6) rows low r := loopN (keep := [0, 1, 5, 6]) (by kernel_rfl)
@[simp] theorem ec47l2 : Ex F cx (.code (.loop c47l2) :: .inBlock 0 :: .code c47s1 :: []) ⟨mk 42 l, rows, low⟩ r ↔ Lc47l2 F cx (lk l 0) (lk l 1) (lk l 5) (lk l 6) rows low r := loopE (keep := [0, 1, 5, 6]) (by kernel_rfl)
@[simp] theorem uc47l2 : Ex F cx (.code c47l2 :: k) s r ↔ Ex F cx (.code (.seq (.seq c47k10 c47s9) c47s8) :: k) s r := Iff.rfl
def c47b : ICode := (.seq c47k16 c47s15)
@[simp] theorem uc47b : Ex F cx (.code c47b :: k) s r ↔ Ex F cx (.code (.seq c47k16 c47s15) :: k) s r := Iff.rfl
def c47 : IFn := ⟨42, [.t 4], c47b⟩
def h47 : List (Nat × List Nat) := [(0, dead 42 [0, 1]), (1, dead 42 [0, 1]), (2, dead 42 [0, 1, 5]), (3, dead 42 [0, 1, 5, 6]), (5, dead 42 [0, 1, 5, 6]), (6, dead 42 []), (7, dead 42 [0, 1, 5, 6]), (4, dead 42 [0, 1, 5, 6]), (8, dead 42 [0, 1, 5])]
theorem i47 {x0 x1 : AV} (hF : F 47 = some c47) {q : AV × List Row × Option Nat} (h : Ex F (.fn [.t 4]) [.code c47b] ⟨mk 42 [(0, x0), (1, x1)], rows, rows.length⟩ fun r => fin rows r.1 r.2.1 r.2.2 = q) : Ret F 47 [x0, x1] rows = some q := Ret_mk hF h
/-! tosher/search.Looks -/
def c48r0 : List Seg := [
  .one ⟨some 17, .mv (.t 6), none⟩,
  .one ⟨some 18, .call (.c (.func 73 [])) [(.t 17)], none⟩,
  .one ⟨some 19, .mv (.t 6), none⟩,
  .one ⟨some 20, .call (.c (.func 78 [])) [(.t 19)], none⟩,
  .one ⟨some 21, .call (.c (.func 75 [])) [(.t 18), (.t 20)], none⟩,
  .one ⟨some 4, .mv (.t 21), none⟩,
  .one ⟨some 5, .mv (.c (.int .i64 0)), none⟩]
def c48k0 : ICode := .kill (dead 22 [6]) (.ops c48r0)
@[simp] theorem uc48k0 : Ex F cx (.code c48k0 :: k) ⟨mk 22 l, rows, low⟩ r ↔ bnd (Ret F 73 [lk l 6] rows) fun q0 => bnd (Ret F 78 [lk l 6] q0.2.1) fun q1 => bnd (Ret F 75 [q0.1, q1.1] q1.2.1) fun q2 => Ex F cx k ⟨mk 22 [(5, (.int .i64 0)), (4, q2.1), (21, q2.1), (20, q1.1), (19, lk l 6), (18, q0.1), (17, lk l 6), (6, lk l 6)], q2.2.1, (lowO (lowO (lowO low q0.2.2) q1.2.2) q2.2.2)⟩ r := reg (keep := [6]) (ops := c48r0) rfl (by kernel_rfl) (by kernel_rfl)
def c48s1 : ICode := (.seq c48k0 .ret)
@[simp] theorem uc48s1 : Ex F cx (.code c48s1 :: k) s r ↔ Ex F cx (.code (.seq c48k0 .ret) :: k) s r := Iff.rfl
def c48r2 : List Seg := [
  .one ⟨some 16, .mv (.t 7), none⟩,
  .one ⟨some 4, .mv (.c (.int .i64 0)), none⟩,
  .one ⟨some 5, .mv (.t 16), none⟩]
def c48k2 : ICode := .kill (dead 22 [7]) (.ops c48r2)
@[simp] theorem uc48k2 : Ex F cx (.code c48k2 :: k) ⟨mk 22 l, rows, low⟩ r ↔ Ex F cx k ⟨mk 22 [(5, lk l 7), (4, (.int .i64 0)), (16, lk l 7), (7, lk l 7)], rows, low⟩ r := reg (keep := [7]) (ops := c48r2) rfl (by kernel_rfl) (by kernel_rfl)
def c48s3 : ICode := (.cond (.t 15) (.seq c48k2 .ret) .skip)
@[simp] theorem uc48s3 : Ex F cx (.code c48s3 :: k) s r ↔ Ex F cx (.code (.cond (.t 15) (.seq c48k2 .ret) .skip) :: k) s r := Iff.rfl
def c48r4 : List Seg := [
  .one ⟨some 14, .mv (.t 7), none⟩,
  .one ⟨some 15, .bin .neq (.t 14) (.c (.int .i64 0)), none⟩]
def c48k4 : ICode := .kill (dead 22 [6, 7]) (.ops c48r4)
@[simp] theorem uc48k4 : Ex F cx (.code c48k4 :: k) ⟨mk 22 l, rows, low⟩ r ↔ bnd (evP rows (.bin .neq (.c (lk l 7)) (.c (.int .i64 0)))) fun v0 => Ex F cx k ⟨mk 22 [(15, v0), (14, lk l 7), (6, lk l 6), (7, lk l 7)], rows, low⟩ r := reg (keep := [6, 7]) (ops := c48r4) rfl (by kernel_rfl) (by kernel_rfl)
def c48s5 : ICode := (.seq (.seq c48k4 c48s3) c48s1)
@[simp] theorem uc48s5 : Ex F cx (.code c48s5 :: k) s r ↔ Ex F cx (.code (.seq (.seq c48k4 c48s3) c48s1) :: k) s r := Iff.rfl
def c48r6 : List Seg := [
  .one ⟨some 9, .mv (.t 0), none⟩,
  .one ⟨some 10, .mv (.t 1), none⟩,
  .one ⟨some 11, .call (.c (.func 68 [])) [(.t 9), (.t 10)], none⟩,
  .one ⟨some 8, .mv (.t 11), none⟩,
  .one ⟨some 12, .ext (.t 8) 0, none⟩,
  .one ⟨some 13, .ext (.t 8) 1, none⟩,
  .one ⟨some 6, .mv (.t 12), none⟩,
  .one ⟨some 7, .mv (.t 13), none⟩]
def c48k6 : ICode := .kill (dead 22 [0, 1]) (.ops c48r6)
@[simp] theorem uc48k6 : Ex F cx (.code c48k6 :: k) ⟨mk 22 l, rows, low⟩ r ↔ bnd (Ret F 68 [lk l 0, lk l 1] rows) fun q0 => bnd (evP q0.2.1 (.ext (.c q0.1) 0)) fun v1 => bnd (evP q0.2.1 (.ext (.c q0.1) 1)) fun v2 => Ex F cx k ⟨mk 22 [(7, v2), (6, v1), (13, v2), (12, v1), (8, q0.1), (11, q0.1), (10, lk l 1), (9, lk l 0), (0, lk l 0), (1, lk l 1)], q0.2.1, (lowO low q0.2.2)⟩ r := reg (keep := [0, 1]) (ops := c48r6) rfl (by kernel_rfl) (by kernel_rfl)
def c48s7 : ICode := (.seq c48k6 c48s5)
@[simp] theorem uc48s7 : Ex F cx (.code c48s7 :: k) s r ↔ Ex F cx (.code (.seq c48k6 c48s5) :: k) s r := Iff.rfl
def c48r8 : List Seg := [
  .one ⟨some 4, .mv (.c (.int .i64 0)), none⟩,
  .one ⟨some 5, .mv (.c (.int .i64 0)), none⟩]
def c48k8 : ICode := .kill (dead 22 [0, 1]) (.ops c48r8)
@[simp] theorem uc48k8 : Ex F cx (.code c48k8 :: k) ⟨mk 22 l, rows, low⟩ r ↔ Ex F cx k ⟨mk 22 [(5, (.int .i64 0)), (4, (.int .i64 0)), (0, lk l 0), (1, lk l 1)], rows, low⟩ r := reg (keep := [0, 1]) (ops := c48r8) rfl (by kernel_rfl) (by kernel_rfl)
def Jc48s1 (F : Nat → Option IFn) (cx : Ctx) (x6 : AV) (rows : List Row) (low : Nat) (r : AV × List Row × Nat → Prop) : Prop := Ex F cx (.code c48s1 :: []) ⟨mk 22 [(6, x6)], rows, low⟩ r
theorem jc48s1 : Ex F cx (.code c48s1 :: []) ⟨mk 22 l, rows, low⟩ r ↔ Jc48s1 F cx (lk l 6) rows low r := Ex_canon (keep := [6]) (by kernel_rfl)
def c48b : ICode := (.seq c48k8 c48s7)
@[simp] theorem uc48b : Ex F cx (.code c48b :: k) s r ↔ Ex F cx (.code (.seq c48k8 c48s7) :: k) s r := Iff.rfl
def c48 : IFn := ⟨22, [.t 4, .t 5], c48b⟩
def h48 : List (Nat × List Nat) := [(0, dead 22 [0, 1]), (1, dead 22 [0, 1]), (2, dead 22 [6, 7]), (3, dead 22 [7]), (4, dead 22 [6])]
theorem i48 {x0 x1 : AV} (hF : F 48 = some c48) {q : AV × List Row × Option Nat} (h : Ex F (.fn [.t 4, .t 5]) [.code c48b] ⟨mk 22 [(0, x0), (1, x1)], rows, rows.length⟩ fun r => fin rows r.1 r.2.1 r.2.2 = q) : Ret F 48 [x0, x1] rows = some q := Ret_mk hF h
/-! tosher/search.Middle -/
def c49r0 : List Seg := [
  .one ⟨some 51, .mv (.t 9), none⟩,
  .one ⟨some 52, .mv (.t 10), none⟩,
  .one ⟨some 4, .mv (.t 51), none⟩,
  .one ⟨some 5, .mv (.t 52), none⟩,
  .one ⟨some 6, .mv (.c (.int .i64 0)), none⟩]
def c49k0 : ICode := .kill (dead 53 [9, 10]) (.ops c49r0)
@[simp] theorem uc49k0 : Ex F cx (.code c49k0 :: k) ⟨mk 53 l, rows, low⟩ r ↔ Ex F cx k ⟨mk 53 [(6, (.int .i64 0)), (5, lk l 10), (4, lk l 9), (52, lk l 10), (51, lk l 9), (9, lk l 9), (10, lk l 10)], rows, low⟩ r := reg (keep := [9, 10]) (ops := c49r0) rfl (by kernel_rfl) (by kernel_rfl)
def c49s1 : ICode := (.seq c49k0 .ret)
@[simp] theorem uc49s1 : Ex F cx (.code c49s1 :: k) s r ↔ Ex F cx (.code (.seq c49k0 .ret) :: k) s r := Iff.rfl
def c49r3 : List Seg := [
  .one ⟨some 50, .bin .add (.t 26) (.c (.int .i64 1)), none⟩,
  .one ⟨some 26, .mv (.t 50), none⟩]
def c49k3 : ICode := .kill (dead 53 [7, 9, 10, 25, 26]) (.ops c49r3)
@[simp] theorem uc49k3 : Ex F cx (.code c49k3 :: k) ⟨mk 53 l, rows, low⟩ r ↔ bnd (evP rows (.bin .add (.c (lk l 26)) (.c (.int .i64 1)))) fun v0 => Ex F cx k ⟨mk 53 [(26, v0), (50, v0), (7, lk l 7), (9, lk l 9), (10, lk l 10), (25, lk l 25), (26, lk l 26)], rows, low⟩ r := reg (keep := [7, 9, 10, 25, 26]) (ops := c49r3) rfl (by kernel_rfl) (by kernel_rfl)
def c49r4 : List Seg := [
  .one ⟨some 48, .mv (.t 11), none⟩,
  .one ⟨some 49, .mv (.t 12), none⟩,
  .one ⟨some 9, .mv (.t 48), none⟩,
  .one ⟨some 10, .mv (.t 49), none⟩]
def c49k4 : ICode := .kill (dead 53 [7, 11, 12, 25, 26]) (.ops c49r4)
@[simp] theorem uc49k4 : Ex F cx (.code c49k4 :: k) ⟨mk 53 l, rows, low⟩ r ↔ Ex F cx k ⟨mk 53 [(10, lk l 12), (9, lk l 11), (49, lk l 12), (48, lk l 11), (7, lk l 7), (11, lk l 11), (12, lk l 12), (25, lk l 25), (26, lk l 26)], rows, low⟩ r := reg (keep := [7, 11, 12, 25, 26]) (ops := c49r4) rfl (by kernel_rfl) (by kernel_rfl)
def c49s5 : ICode := (.cond (.t 47) c49k4 .skip)
@[simp] theorem uc49s5 : Ex F cx (.code c49s5 :: k) s r ↔ Ex F cx (.code (.cond (.t 47) c49k4 .skip) :: k) s r := Iff.rfl
def c49r6 : List Seg := [
  .one ⟨some 45, .mv (.t 12), none⟩,
  .one ⟨some 46, .mv (.t 10), none⟩,
  .one ⟨some 47, .bin .lss (.t 45) (.t 46), none⟩]
def c49k6 : ICode := .kill (dead 53 [7, 9, 10, 11, 12, 25, 26]) (.ops c49r6)
@[simp] theorem uc49k6 : Ex F cx (.code c49k6 :: k) ⟨mk 53 l, rows, low⟩ r ↔ bnd (evP rows (.bin .lss (.c (lk l 12)) (.c (lk l 10)))) fun v0 => Ex F cx k ⟨mk 53 [(47, v0), (46, lk l 10), (45, lk l 12), (7, lk l 7), (9, lk l 9), (10, lk l 10), (11, lk l 11), (12, lk l 12), (25, lk l 25), (26, lk l 26)], rows, low⟩ r := reg (keep := [7, 9, 10, 11, 12, 25, 26]) (ops := c49r6) rfl (by kernel_rfl) (by kernel_rfl)
def c49s7 : ICode := (.seq c49k6 c49s5)
@[simp] theorem uc49s7 : Ex F cx (.code c49s7 :: k) s r ↔ Ex F cx (.code (.seq c49k6 c49s5) :: k) s r := Iff.rfl
def c49r9 : List Seg := [
  .one ⟨some 44, .bin .add (.t 35) (.c (.int .i64 1)), none⟩,
  .one ⟨some 35, .mv (.t 44), none⟩]
def c49k9 : ICode := .kill (dead 53 [7, 9, 10, 11, 12, 25, 26, 33, 34, 35]) (.ops c49r9)
@[simp] theorem uc49k9 : Ex F cx (.code c49k9 :: k) ⟨mk 53 l, rows, low⟩ r ↔ bnd (evP rows (.bin .add (.c (lk l 35)) (.c (.int .i64 1)))) fun v0 => Ex F cx k ⟨mk 53 [(35, v0), (44, v0), (7, lk l 7), (9, lk l 9), (10, lk l 10), (11, lk l 11), (12, lk l 12), (25, lk l 25), (26, lk l 26), (33, lk l 33), (34, lk l 34), (35, lk l 35)], rows, low⟩ r := reg (keep := [7, 9, 10, 11, 12, 25, 26, 33, 34, 35]) (ops := c49r9) rfl (by kernel_rfl) (by kernel_rfl)
def c49r10 : List Seg := [
  .one ⟨some 39, .mv (.t 12), none⟩,
  .one ⟨some 40, .mv (.t 14), none⟩,
  .one ⟨some 41, .conv .u64 (.t 40), none⟩,
  .one ⟨some 42, .call (.c (.func 80 [])) [(.t 41)], none⟩,
  .one ⟨some 43, .mx [(.t 39), (.t 42)], none⟩,
  .one ⟨some 12, .mv (.t 43), none⟩]
def c49k10 : ICode := .kill (dead 53 [7, 9, 10, 11, 12, 14, 25, 26, 33, 34, 35]) (.ops c49r10)
@[simp] theorem uc49k10 : Ex F cx (.code c49k10 :: k) ⟨mk 53 l, rows, low⟩ r ↔ bnd (evP rows (.conv .u64 (.c (lk l 14)))) fun v0 => bnd (Ret F 80 [v0] rows) fun q1 => bnd (evP q1.2.1 (.mx [(.c (lk l 12)), (.c q1.1)])) fun v2 => Ex F cx k ⟨mk 53 [(12, v2), (43, v2), (42, q1.1), (41, v0), (40, lk l 14), (39, lk l 12), (7, lk l 7), (9, lk l 9), (10, lk l 10), (11, lk l 11), (12, lk l 12), (14, lk l 14), (25, lk l 25), (26, lk l 26), (33, lk l 33), (34, lk l 34), (35, lk l 35)], q1.2.1, (lowO low q1.2.2)⟩ r := reg (keep := [7, 9, 10, 11, 12, 14, 25, 26, 33, 34, 35]) (ops := c49r10) rfl (by kernel_rfl) (by kernel_rfl)
def c49r11 : List Seg := [
  .one ⟨some 37, .idxS 1 (.t 33) (.t 35), none⟩,
  .one ⟨some 38, .load1 (.t 37), none⟩,
  .one ⟨some 14, .mv (.t 38), none⟩]
def c49k11 : ICode := .kill (dead 53 [7, 9, 10, 11, 12, 25, 26, 33, 34, 35]) (.ops c49r11)
@[simp] theorem uc49k11 : Ex F cx (.code c49k11 :: k) ⟨mk 53 l, rows, low⟩ r ↔ bnd (evP rows (.idxS 1 (.c (lk l 33)) (.c (lk l 35)))) fun v0 => bnd (evP rows (.load1 (.c v0))) fun v1 => Ex F cx k ⟨mk 53 [(14, v1), (38, v1), (37, v0), (7, lk l 7), (9, lk l 9), (10, lk l 10), (11, lk l 11), (12, lk l 12), (25, lk l 25), (26, lk l 26), (33, lk l 33), (34, lk l 34), (35, lk l 35)], rows, low⟩ r := reg (keep := [7, 9, 10, 11, 12, 25, 26, 33, 34, 35]) (ops := c49r11) rfl (by kernel_rfl) (by kernel_rfl)
def c49s12 : ICode := (.seq (.block 3 (.seq c49k11 c49k10)) c49k9)
@[simp] theorem uc49s12 : Ex F cx (.code c49s12 :: k) s r ↔ Ex F cx (.code (.seq (.block 3 (.seq c49k11 c49k10)) c49k9) :: k) s r := Iff.rfl
def c49s13 : ICode := (.seq (.cond (.t 36) .skip (.exit 2)) c49s12)
@[simp] theorem uc49s13 : Ex F cx (.code c49s13 :: k) s r ↔ Ex F cx (.code (.seq (.cond (.t 36) .skip (.exit 2)) c49s12) :: k) s r := Iff.rfl
def c49r14 : List Seg := [
  .one ⟨some 36, .bin .lss (.t 35) (.t 34), none⟩]
def c49k14 : ICode := .kill (dead 53 [7, 9, 10, 11, 12, 25, 26, 33, 34, 35]) (.ops c49r14)
@[simp] theorem uc49k14 : Ex F cx (.code c49k14 :: k) ⟨mk 53 l, rows, low⟩ r ↔ bnd (evP rows (.bin .lss (.c (lk l 35)) (.c (lk l 34)))) fun v0 => Ex F cx k ⟨mk 53 [(36, v0), (7, lk l 7), (9, lk l 9), (10, lk l 10), (11, lk l 11), (12, lk l 12), (25, lk l 25), (26, lk l 26), (33, lk l 33), (34, lk l 34), (35, lk l 35)], rows, low⟩ r := reg (keep := [7, 9, 10, 11, 12, 25, 26, 33, 34, 35]) (ops := c49r14) rfl (by kernel_rfl) (by kernel_rfl)
def c49l8 : ICode := (.seq c49k14 c49s13)
def c49s15 : ICode := (.block 2 (.loop c49l8))
@[simp] theorem uc49s15 : Ex F cx (.code c49s15 :: k) s r ↔ Ex F cx (.code (.block 2 (.loop c49l8)) :: k) s r := Iff.rfl
def c49r16 : List Seg := [
  .one ⟨some 29, .mv (.t 7), none⟩,
  .one ⟨some 30, .mv (.t 7), none⟩,
  .one ⟨some 31, .call (.c (.func 78 [])) [(.t 30)], none⟩,
  .one ⟨some 32, .mv (.t 11), none⟩,
  .one ⟨some 33, .call (.c (.func 77 [])) [(.t 29), (.t 31), (.t 32)], none⟩,
  .one ⟨some 34, .len 0 (.t 33), none⟩,
  .one ⟨some 35, .mv (.c (.int .i64 0)), none⟩]
def c49k16 : ICode := .kill (dead 53 [7, 9, 10, 11, 12, 25, 26]) (.ops c49r16)
@[simp] theorem uc49k16 : Ex F cx (.code c49k16 :: k) ⟨mk 53 l, rows, low⟩ r ↔ bnd (Ret F 78 [lk l 7] rows) fun q0 => bnd (Ret F 77 [lk l 7, q0.1, lk l 11] q0.2.1) fun q1 => bnd (evP q1.2.1 (.len 0 (.c q1.1))) fun v2 => Ex F cx k ⟨mk 53 [(35, (.int .i64 0)), (34, v2), (33, q1.1), (32, lk l 11), (31, q0.1), (30, lk l 7), (29, lk l 7), (7, lk l 7), (9, lk l 9), (10, lk l 10), (11, lk l 11), (12, lk l 12), (25, lk l 25), (26, lk l 26)], q1.2.1, (lowO (lowO low q0.2.2) q1.2.2)⟩ r := reg (keep := [7, 9, 10, 11, 12, 25, 26]) (ops := c49r16) rfl (by kernel_rfl) (by kernel_rfl)
def c49s17 : ICode := (.seq (.seq c49k16 c49s15) c49s7)
@[simp] theorem uc49s17 : Ex F cx (.code c49s17 :: k) s r ↔ Ex F cx (.code (.seq (.seq c49k16 c49s15) c49s7) :: k) s r := Iff.rfl
def c49r18 : List Seg := [
  .one ⟨some 12, .mv (.c (.int .i64 0)), none⟩]
def c49k18 : ICode := .kill (dead 53 [7, 9, 10, 11, 25, 26]) (.ops c49r18)
@[simp] theorem uc49k18 : Ex F cx (.code c49k18 :: k) ⟨mk 53 l, rows, low⟩ r ↔ Ex F cx k ⟨mk 53 [(12, (.int .i64 0)), (7, lk l 7), (9, lk l 9), (10, lk l 10), (11, lk l 11), (25, lk l 25), (26, lk l 26)], rows, low⟩ r := reg (keep := [7, 9, 10, 11, 25, 26]) (ops := c49r18) rfl (by kernel_rfl) (by kernel_rfl)
def c49s19 : ICode := (.seq c49k18 c49s17)
@[simp] theorem uc49s19 : Ex F cx (.code c49s19 :: k) s r ↔ Ex F cx (.code (.seq c49k18 c49s17) :: k) s r := Iff.rfl
def c49r20 : List Seg := [
  .one ⟨some 28, .mv (.t 26), none⟩,
  .one ⟨some 11, .mv (.t 28), none⟩]
def c49k20 : ICode := .kill (dead 53 [7, 9, 10, 25, 26]) (.ops c49r20)
@[simp] theorem uc49k20 : Ex F cx (.code c49k20 :: k) ⟨mk 53 l, rows, low⟩ r ↔ Ex F cx k ⟨mk 53 [(11, lk l 26), (28, lk l 26), (7, lk l 7), (9, lk l 9), (10, lk l 10), (25, lk l 25), (26, lk l 26)], rows, low⟩ r := reg (keep := [7, 9, 10, 25, 26]) (ops := c49r20) rfl (by kernel_rfl) (by kernel_rfl)
def c49s21 : ICode := (.seq (.block 1 (.seq c49k20 c49s19)) c49k3)
@[simp] theorem uc49s21 : Ex F cx (.code c49s21 :: k) s r ↔ Ex F cx (.code (.seq (.block 1 (.seq c49k20 c49s19)) c49k3) :: k) s r := Iff.rfl
def c49s22 : ICode := (.seq (.cond (.t 27) .skip (.exit 0)) c49s21)
@[simp] theorem uc49s22 : Ex F cx (.code c49s22 :: k) s r ↔ Ex F cx (.code (.seq (.cond (.t 27) .skip (.exit 0)) c49s21) :: k) s r := Iff.rfl
def c49r23 : List Seg := [
  .one ⟨some 27, .bin .lss (.t 26) (.t 25), none⟩]
def c49k23 : ICode := .kill (dead 53 [7, 9, 10, 25, 26]) (.ops c49r23)
@[simp] theorem uc49k23 : Ex F cx (.code c49k23 :: k) ⟨mk 53 l, rows, low⟩ r ↔ bnd (evP rows (.bin .lss (.c (lk l 26)) (.c (lk l 25)))) fun v0 => Ex F cx k ⟨mk 53 [(27, v0), (7, lk l 7), (9, lk l 9), (10, lk l 10), (25, lk l 25), (26, lk l 26)], rows, low⟩ r := reg (keep := [7, 9, 10, 25, 26]) (ops := c49r23) rfl (by kernel_rfl) (by kernel_rfl)
def c49l2 : ICode := (.seq c49k23 c49s22)
def c49s24 : ICode := (.block 0 (.loop c49l2))
@[simp] theorem uc49s24 : Ex F cx (.code c49s24 :: k) s r ↔ Ex F cx (.code (.block 0 (.loop c49l2)) :: k) s r := Iff.rfl
def c49r25 : List Seg := [
  .one ⟨some 25, .mv (.t 0), none⟩,
  .one ⟨some 26, .mv (.c (.int .i64 0)), none⟩]
def c49k25 : ICode := .kill (dead 53 [0, 7, 9, 10]) (.ops c49r25)
@[simp] theorem uc49k25 : Ex F cx (.code c49k25 :: k) ⟨mk 53 l, rows, low⟩ r ↔ Ex F cx k ⟨mk 53 [(26, (.int .i64 0)), (25, lk l 0), (0, lk l 0), (7, lk l 7), (9, lk l 9), (10, lk l 10)], rows, low⟩ r := reg (keep := [0, 7, 9, 10]) (ops := c49r25) rfl (by kernel_rfl) (by kernel_rfl)
def c49s26 : ICode := (.seq (.seq c49k25 c49s24) c49s1)
@[simp] theorem uc49s26 : Ex F cx (.code c49s26 :: k) s r ↔ Ex F cx (.code (.seq (.seq c49k25 c49s24) c49s1) :: k) s r := Iff.rfl
def c49r27 : List Seg := [
  .one ⟨some 24, .mv (.t 0), none⟩,
  .one ⟨some 9, .mv (.c (.int .i64 0)), none⟩,
  .one ⟨some 10, .mv (.t 24), none⟩]
def c49k27 : ICode := .kill (dead 53 [0, 7]) (.ops c49r27)
@[simp] theorem uc49k27 : Ex F cx (.code c49k27 :: k) ⟨mk 53 l, rows, low⟩ r ↔ Ex F cx k ⟨mk 53 [(10, lk l 0), (9, (.int .i64 0)), (24, lk l 0), (0, lk l 0), (7, lk l 7)], rows, low⟩ r := reg (keep := [0, 7]) (ops := c49r27) rfl (by kernel_rfl) (by kernel_rfl)
def c49s28 : ICode := (.seq c49k27 c49s26)
@[simp] theorem uc49s28 : Ex F cx (.code c49s28 :: k) s r ↔ Ex F cx (.code (.seq c49k27 c49s26) :: k) s r := Iff.rfl
def c49r29 : List Seg := [
  .one ⟨some 23, .mv (.t 8), none⟩,
  .one ⟨some 4, .mv (.c (.int .i64 0)), none⟩,
  .one ⟨some 5, .mv (.c (.int .i64 0)), none⟩,
  .one ⟨some 6, .mv (.t 23), none⟩]
def c49k29 : ICode := .kill (dead 53 [8]) (.ops c49r29)
@[simp] theorem uc49k29 : Ex F cx (.code c49k29 :: k) ⟨mk 53 l, rows, low⟩ r ↔ Ex F cx k ⟨mk 53 [(6, lk l 8), (5, (.int .i64 0)), (4, (.int .i64 0)), (23, lk l 8), (8, lk l 8)], rows, low⟩ r := reg (keep := [8]) (ops := c49r29) rfl (by kernel_rfl) (by kernel_rfl)
def c49s30 : ICode := (.cond (.t 22) (.seq c49k29 .ret) .skip)
@[simp] theorem uc49s30 : Ex F cx (.code c49s30 :: k) s r ↔ Ex F cx (.code (.cond (.t 22) (.seq c49k29 .ret) .skip) :: k) s r := Iff.rfl
def c49r31 : List Seg := [
  .one ⟨some 21, .mv (.t 8), none⟩,
  .one ⟨some 22, .bin .neq (.t 21) (.c (.int .i64 0)), none⟩]
def c49k31 : ICode := .kill (dead 53 [0, 7, 8]) (.ops c49r31)
@[simp] theorem uc49k31 : Ex F cx (.code c49k31 :: k) ⟨mk 53 l, rows, low⟩ r ↔ bnd (evP rows (.bin .neq (.c (lk l 8)) (.c (.int .i64 0)))) fun v0 => Ex F cx k ⟨mk 53 [(22, v0), (21, lk l 8), (0, lk l 0), (7, lk l 7), (8, lk l 8)], rows, low⟩ r := reg (keep := [0, 7, 8]) (ops := c49r31) rfl (by kernel_rfl) (by kernel_rfl)
def c49s32 : ICode := (.seq (.seq c49k31 c49s30) c49s28)
@[simp] theorem uc49s32 : Ex F cx (.code c49s32 :: k) s r ↔ Ex F cx (.code (.seq (.seq c49k31 c49s30) c49s28) :: k) s r := Iff.rfl
def c49r33 : List Seg := [
  .one ⟨some 16, .mv (.t 0), none⟩,
  .one ⟨some 17, .mv (.t 1), none⟩,
  .one ⟨some 18, .call (.c (.func 68 [])) [(.t 16), (.t 17)], none⟩,
  .one ⟨some 15, .mv (.t 18), none⟩,
  .one ⟨some 19, .ext (.t 15) 0, none⟩,
  .one ⟨some 20, .ext (.t 15) 1, none⟩,
  .one ⟨some 7, .mv (.t 19), none⟩,
  .one ⟨some 8, .mv (.t 20), none⟩]
def c49k33 : ICode := .kill (dead 53 [0, 1]) (.ops c49r33)
@[simp] theorem uc49k33 : Ex F cx (.code c49k33 :: k) ⟨mk 53 l, rows, low⟩ r ↔ bnd (Ret F 68 [lk l 0, lk l 1] rows) fun q0 => bnd (evP q0.2.1 (.ext (.c q0.1) 0)) fun v1 => bnd (evP q0.2.1 (.ext (.c q0.1) 1)) fun v2 => Ex F cx k ⟨mk 53 [(8, v2), (7, v1), (20, v2), (19, v1), (15, q0.1), (18, q0.1), (17, lk l 1), (16, lk l 0), (0, lk l 0), (1, lk l 1)], q0.2.1, (lowO low q0.2.2)⟩ r := reg (keep := [0, 1]) (ops := c49r33) rfl (by kernel_rfl) (by kernel_rfl)
def c49s34 : ICode := (.seq c49k33 c49s32)
@[simp] theorem uc49s34 : Ex F cx (.code c49s34 :: k) s r ↔ Ex F cx (.code (.seq c49k33 c49s32) :: k) s r := Iff.rfl
def c49r35 : List Seg := [
  .one ⟨some 4, .mv (.c (.int .i64 0)), none⟩,
  .one ⟨some 5, .mv (.c (.int .i64 0)), none⟩,
  .one ⟨some 6, .mv (.c (.int .i64 0)), none⟩]
def c49k35 : ICode := .kill (dead 53 [0, 1]) (.ops c49r35)
@[simp] theorem uc49k35 : Ex F cx (.code c49k35 :: k) ⟨mk 53 l, rows, low⟩ r ↔ Ex F cx k ⟨mk 53 [(6, (.int .i64 0)), (5, (.int .i64 0)), (4, (.int .i64 0)), (0, lk l 0), (1, lk l 1)], rows, low⟩ r := reg (keep := [0, 1]) (ops := c49r35) rfl (by kernel_rfl) (by kernel_rfl)
def Jc49s12 (F : Nat → Option IFn) (cx : Ctx) (x7 x9 x10 x11 x12 x25 x26 x33 x34 x35 : AV) (rows : List Row) (low : Nat) (r : AV × List Row × Nat → Prop) : Prop := Ex F cx (.code c49s12 :: .inLoop c49l8 :: .inBlock 2 :: .code c49s7 :: .inBlock 1 :: .code c49k3 :: .inLoop c49l2 :: .inBlock 0 :: .code c49s1 :: []) ⟨mk 53 [(7, x7), (9, x9), (10, x10), (11, x11), (12, x12), (25, x25), (26, x26), (33, x33), (34, x34), (35, x35)], rows, low⟩ r
theorem jc49s12 : Ex F cx (.code c49s12 :: .inLoop c49l8 :: .inBlock 2 :: .code c49s7 :: .inBlock 1 :: .code c49k3 :: .inLoop c49l2 :: .inBlock 0 :: .code c49s1 :: []) ⟨mk 53 l, rows, low⟩ r ↔ Jc49s12 F cx (lk l 7) (lk l 9) (lk l 10) (lk l 11) (lk l 12) (lk l 25) (lk l 26) (lk l 33) (lk l 34) (lk l 35) rows low r := Ex_canon (keep := [7, 9, 10, 11, 12, 25, 26, 33, 34, 35]) (by kernel_rfl)
def Lc49l8 (F : Nat → Option IFn) (cx : Ctx) (x7 x9 x10 x11 x12 x25 x26 x33 x34 x35 : AV) (rows : List Row) (low : Nat) (r : AV × List Row × Nat → Prop) : Prop := Ex F cx (.code c49l8 :: .inLoop c49l8 :: .inBlock 2 :: .code c49s7 :: .inBlock 1 :: .code c49k3 :: .inLoop c49l2 :: .inBlock 0 :: .code c49s1 :: []) ⟨mk 53 [(7, x7), (9, x9), (10, x10), (11, x11), (12, x12), (25, x25), (26, x26), (33, x33), (34, x34), (35, x35)], rows, low⟩ r
@[simp] theorem nc49l8 : Ex F cx (.inLoop c49l8 :: .inBlock 2 :: .code c49s7 :: .inBlock 1 :: .code c49k3 :: .inLoop c49l2 :: .inBlock 0 :: .code c49s1 :: []) ⟨mk 53 l, rows, low⟩ r ↔ Lc49l8 F cx (lk l 7) (lk l 9) (lk l 10) (lk l 11) (lk l 12) (lk l 25) (lk l 26) (lk l 33) (lk l 34) (lk l 35) rows low r := loopN (keep := [7, 9, 10, 11, 12, 25, 26, 33, 34, 35]) (by kernel_rfl)
@[simp] theorem ec49l8 : Ex F cx (.code (.loop c49l8) :: .inBlock 2 :: .code c49s7 :: .inBlock 1 :: .code c49k3 :: .inLoop c49l2 :: .inBlock 0 :: .code c49s1 :: []) ⟨mk 53 l, rows, low⟩ r ↔ Lc49l8 F cx (lk l 7) (lk l 9) (lk l 10) (lk l 11) (lk l 12) (lk l 25) (lk l 26) (lk l 33) (lk l 34) (lk l 35) rows low r := loopE (keep := [7, 9, 10, 11, 12, 25, 26, 33, 34, 35]) (by kernel_rfl)
@[simp] theorem uc49l8 : Ex F cx (.code c49l8 :: k) s r ↔ Ex F cx (.code (.seq c49k14 c49s13) :: k) s r := Iff.rfl
def Jc49s21 (F : Nat → Option IFn) (cx : Ctx) (x7 x9 x10 x25 x26 : AV) (rows : List Row) (low : Nat) (r : AV × List Row × Nat → Prop) : Prop := Ex F cx (.code c49s21 :: .inLoop c49l2 :: .inBlock 0 :: .code c49s1 :: []) ⟨mk 53 [(7, x7), (9, x9), (10, x10), (25, x25), (26, x26)], rows, low⟩ r
theorem jc49s21 : Ex F cx (.code c49s21 :: .inLoop c49l2 :: .inBlock 0 :: .code c49s1 :: []) ⟨mk 53 l, rows, low⟩ r ↔ Jc49s21 F cx (lk l 7) (lk l 9) (lk l 10) (lk l 25) (lk l 26) rows low r := Ex_canon (keep := [7, 9, 10, 25, 26]) (by kernel_rfl)
def Lc49l2 (F : Nat → Option IFn) (cx : Ctx) (x7 x9 x10 x25 x26 : AV) (rows : List Row) (low : Nat) (r : AV × List Row × Nat → Prop) : Prop := Ex F cx (.code c49l2 :: .inLoop c49l2 :: .inBlock 0 :: .code c49s1 :: []) ⟨mk 53 [(7, x7), (9, x9), (10, x10), (25, x25), (26, x26)], rows, low⟩ r
@[simp] theorem nc49l2 : Ex F cx (.inLoop c49l2 :: .inBlock 0 :: .code c49s1 :: []) ⟨mk 53 l, rows, low⟩ r ↔ Lc49l2 F cx (lk l 7) (lk l 9) (lk l 10) (lk l 25) (lk l 26) rows low r := loopN (keep := [7, 9, 10, 25, 26]) (by kernel_rfl)
@[simp] theorem ec49l2 : Ex F cx (.code (.loop c49l2) :: .inBlock 0 :: .code c49s1 :: []) ⟨mk 53 l, rows, low⟩ r ↔ Lc49l2 F cx (lk l 7) (lk l 9) (lk l 10) (lk l 25) (lk l 26) rows low r := loopE (keep := [7, 9, 10, 25, 26]) (by kernel_rfl)
@[simp] theorem uc49l2 : Ex F cx (.code c49l2 :: k) s r ↔ Ex F cx (.code (.seq c49k23 c49s22) :: k) s r := Iff.rfl
def Jc49s28 (F : Nat → Option IFn) (cx : Ctx) (x0 x7 : AV) (rows : List Row) (low : Nat) (r : AV × List Row × Nat → Prop) : Prop := Ex F cx (.code c49s28 :: []) ⟨mk 53 [(0, x0), (7, x7)], rows, low⟩ r
theorem jc49s28 : Ex F cx (.code c49s28 :: []) ⟨mk 53 l, rows, low⟩ r ↔ Jc49s28 F cx (lk l 0) (lk l 7) rows low r := Ex_canon (keep := [0, 7]) (by kernel_rfl)
def c49b : ICode := (.seq c49k35 c49s34)
@[simp] theorem uc49b : Ex F cx (.code c49b :: k) s r ↔ Ex F cx (.code (.seq c49k35 c49s34) :: k) s r := Iff.rfl
def c49 : IFn := ⟨53, [.t 4, .t 5, .t 6], c49b⟩
def h49 : List (Nat × List Nat) := [(0, dead 53 [0, 1]), (1, dead 53 [0, 1]), (2, dead 53 [0, 7, 8]), (3, dead 53 [8]), (4, dead 53 [0, 7]), (5, dead 53 [0, 7, 9, 10]), (6, dead 53 [7, 9, 10, 25, 26]), (7, dead 53 [7, 9, 10, 25, 26]), (8, dead 53 [7, 9, 10, 11, 25, 26]), (9, dead 53 [7, 9, 10, 11, 12, 25, 26]), (10, dead 53 [7, 9, 10, 11, 12, 25, 26, 33, 34, 35]), (11, dead 53 [7, 9, 10, 11, 12, 25, 26, 33, 34, 35]), (12, dead 53 [7, 9, 10, 11, 12, 14, 25, 26, 33, 34, 35]), (13, dead 53 [7, 9, 10, 11, 12, 25, 26, 33, 34, 35]), (14, dead 53 [7, 9, 10, 11, 12, 25, 26]), (15, dead 53 [7, 11, 12, 25, 26]), (16, dead 53 [7, 9, 10, 25, 26]), (17, dead 53 [9, 10])]
theorem i49 {x0 x1 : AV} (hF : F 49 = some c49) {q : AV × List Row × Option Nat} (h : Ex F (.fn [.t 4, .t 5, .t 6]) [.code c49b] ⟨mk 53 [(0, x0), (1, x1)], rows, rows.length⟩ fun r => fin rows r.1 r.2.1 r.2.2 = q) : Ret F 49 [x0, x1] rows = some q := Ret_mk hF h
/-! tosher/tosherref08.Looks -/
def c50r0 : List Seg := [
  .one ⟨some 68, .mv (.t 11), none⟩,
  .one ⟨some 8, .mv (.t 68), none⟩]
def c50k0 : ICode := .kill (dead 69 [11]) (.ops c50r0)
@[simp] theorem uc50k0 : Ex F cx (.code c50k0 :: k) ⟨mk 69 l, rows, low⟩ r ↔ Ex F cx k ⟨mk 69 [(8, lk l 11), (68, lk l 11), (11, lk l 11)], rows, low⟩ r := reg (keep := [11]) (ops := c50r0) rfl (by kernel_rfl) (by kernel_rfl)
def c50s1 : ICode := (.seq c50k0 .ret)
@[simp] theorem uc50s1 : Ex F cx (.code c50s1 :: k) s r ↔ Ex F cx (.code (.seq c50k0 .ret) :: k) s r := Iff.rfl
def c50r2 : List Seg := [
  .one ⟨some 65, .mv (.t 3), none⟩,
  .one ⟨some 66, .mv (.t 2), none⟩,
  .one ⟨some 67, .mv (.t 11), none⟩,
  .one ⟨none, .mset (.t 65) (.t 66) (.t 67), none⟩]
def c50k2 : ICode := .kill (dead 69 [2, 3, 11]) (.ops c50r2)
@[simp] theorem uc50k2 : Ex F cx (.code c50k2 :: k) ⟨mk 69 l, rows, low⟩ r ↔ bnd (evE rows low (.mset (.c (lk l 3)) (.c (lk l 2)) (.c (lk l 11)))) fun q0 => Ex F cx k ⟨mk 69 [(67, lk l 11), (66, lk l 2), (65, lk l 3), (2, lk l 2), (3, lk l 3), (11, lk l 11)], q0.2.1, q0.2.2⟩ r := reg (keep := [2, 3, 11]) (ops := c50r2) rfl (by kernel_rfl) (by kernel_rfl)
def c50s3 : ICode := (.seq c50k2 c50s1)
@[simp] theorem uc50s3 : Ex F cx (.code c50s3 :: k) s r ↔ Ex F cx (.code (.seq c50k2 c50s1) :: k) s r := Iff.rfl
def c50r5 : List Seg := [
  .one ⟨some 31, .mv (.t 12), none⟩,
  .one ⟨some 32, .bin .add (.t 31) (.c (.int .i64 1)), none⟩,
  .one ⟨some 12, .mv (.t 32), none⟩]
def c50k5 : ICode := .kill (dead 69 [0, 1, 2, 3, 11, 12]) (.ops c50r5)
@[simp] theorem uc50k5 : Ex F cx (.code c50k5 :: k) ⟨mk 69 l, rows, low⟩ r ↔ bnd (evP rows (.bin .add (.c (lk l 12)) (.c (.int .i64 1)))) fun v0 => Ex F cx k ⟨mk 69 [(12, v0), (32, v0), (31, lk l 12), (0, lk l 0), (1, lk l 1), (2, lk l 2), (3, lk l 3), (11, lk l 11), (12, lk l 12)], rows, low⟩ r := reg (keep := [0, 1, 2, 3, 11, 12]) (ops := c50r5) rfl (by kernel_rfl) (by kernel_rfl)
def c50r6 : List Seg := [
  .one ⟨some 61, .mv (.t 11), none⟩,
  .one ⟨some 62, .mv (.t 14), none⟩,
  .one ⟨some 63, .bin .add (.t 62) (.c (.int .i64 1)), none⟩,
  .one ⟨some 64, .mn [(.t 61), (.t 63)], none⟩,
  .one ⟨some 11, .mv (.t 64), none⟩]
def c50k6 : ICode := .kill (dead 69 [0, 1, 2, 3, 11, 12, 14]) (.ops c50r6)
@[simp] theorem uc50k6 : Ex F cx (.code c50k6 :: k) ⟨mk 69 l, rows, low⟩ r ↔ bnd (evP rows (.bin .add (.c (lk l 14)) (.c (.int .i64 1)))) fun v0 => bnd (evP rows (.mn [(.c (lk l 11)), (.c v0)])) fun v1 => Ex F cx k ⟨mk 69 [(11, v1), (64, v1), (63, v0), (62, lk l 14), (61, lk l 11), (0, lk l 0), (1, lk l 1), (2, lk l 2), (3, lk l 3), (11, lk l 11), (12, lk l 12), (14, lk l 14)], rows, low⟩ r := reg (keep := [0, 1, 2, 3, 11, 12, 14]) (ops := c50r6) rfl (by kernel_rfl) (by kernel_rfl)
def c50r8 : List Seg := [
  .one ⟨some 49, .mv (.t 15), none⟩,
  .one ⟨some 50, .bin .add (.t 49) (.c (.int .i64 1)), none⟩,
  .one ⟨some 15, .mv (.t 50), none⟩]
def c50k8 : ICode := .kill (dead 69 [0, 1, 2, 3, 11, 12, 13, 14, 15]) (.ops c50r8)
@[simp] theorem uc50k8 : Ex F cx (.code c50k8 :: k) ⟨mk 69 l, rows, low⟩ r ↔ bnd (evP rows (.bin .add (.c (lk l 15)) (.c (.int .i64 1)))) fun v0 => Ex F cx k ⟨mk 69 [(15, v0), (50, v0), (49, lk l 15), (0, lk l 0), (1, lk l 1), (2, lk l 2), (3, lk l 3), (11, lk l 11), (12, lk l 12), (13, lk l 13), (14, lk l 14), (15, lk l 15)], rows, low⟩ r := reg (keep := [0, 1, 2, 3, 11, 12, 13, 14, 15]) (ops := c50r8) rfl (by kernel_rfl) (by kernel_rfl)
def c50r9 : List Seg := [
  .one ⟨some 51, .mv (.t 14), none⟩,
  .one ⟨some 52, .mv (.t 0), none⟩,
  .one ⟨some 53, .mv (.t 1), none⟩,
  .one ⟨some 54, .mv (.t 13), none⟩,
  .one ⟨some 55, .mv (.t 15), none⟩,
  .one ⟨some 56, .idxS 1 (.t 54) (.t 55), none⟩,
  .one ⟨some 57, .load1 (.t 56), none⟩,
  .one ⟨some 58, .mv (.t 3), none⟩,
  .one ⟨some 59, .call (.c (.func 50 [])) [(.t 52), (.t 53), (.t 57), (.t 58)], none⟩,
  .one ⟨some 60, .mx [(.t 51), (.t 59)], none⟩,
  .one ⟨some 14, .mv (.t 60), none⟩]
def c50k9 : ICode := .kill (dead 69 [0, 1, 2, 3, 11, 12, 13, 14, 15]) (.ops c50r9)
@[simp] theorem uc50k9 : Ex F cx (.code c50k9 :: k) ⟨mk 69 l, rows, low⟩ r ↔ bnd (evP rows (.idxS 1 (.c (lk l 13)) (.c (lk l 15)))) fun v0 => bnd (evP rows (.load1 (.c v0))) fun v1 => bnd (Ret F 50 [lk l 0, lk l 1, v1, lk l 3] rows) fun q2 => bnd (evP q2.2.1 (.mx [(.c (lk l 14)), (.c q2.1)])) fun v3 => Ex F cx k ⟨mk 69 [(14, v3), (60, v3), (59, q2.1), (58, lk l 3), (57, v1), (56, v0), (55, lk l 15), (54, lk l 13), (53, lk l 1), (52, lk l 0), (51, lk l 14), (0, lk l 0), (1, lk l 1), (2, lk l 2), (3, lk l 3), (11, lk l 11), (12, lk l 12), (13, lk l 13), (14, lk l 14), (15, lk l 15)], q2.2.1, (lowO low q2.2.2)⟩ r := reg (keep := [0, 1, 2, 3, 11, 12, 13, 14, 15]) (ops := c50r9) rfl (by kernel_rfl) (by kernel_rfl)
def c50s10 : ICode := (.seq (.block 3 c50k9) c50k8)
@[simp] theorem uc50s10 : Ex F cx (.code c50s10 :: k) s r ↔ Ex F cx (.code (.seq (.block 3 c50k9) c50k8) :: k) s r := Iff.rfl
def c50s11 : ICode := (.cond (.t 48) .skip (.exit 2))
@[simp] theorem uc50s11 : Ex F cx (.code c50s11 :: k) s r ↔ Ex F cx (.code (.cond (.t 48) .skip (.exit 2)) :: k) s r := Iff.rfl
def c50r12 : List Seg := [
  .one ⟨some 45, .mv (.t 15), none⟩,
  .one ⟨some 46, .mv (.t 13), none⟩,
  .one ⟨some 47, .len 0 (.t 46), none⟩,
  .one ⟨some 48, .bin .lss (.t 45) (.t 47), none⟩]
def c50k12 : ICode := .kill (dead 69 [0, 1, 2, 3, 11, 12, 13, 14, 15]) (.ops c50r12)
@[simp] theorem uc50k12 : Ex F cx (.code c50k12 :: k) ⟨mk 69 l, rows, low⟩ r ↔ bnd (evP rows (.len 0 (.c (lk l 13)))) fun v0 => bnd (evP rows (.bin .lss (.c (lk l 15)) (.c v0))) fun v1 => Ex F cx k ⟨mk 69 [(48, v1), (47, v0), (46, lk l 13), (45, lk l 15), (0, lk l 0), (1, lk l 1), (2, lk l 2), (3, lk l 3), (11, lk l 11), (12, lk l 12), (13, lk l 13), (14, lk l 14), (15, lk l 15)], rows, low⟩ r := reg (keep := [0, 1, 2, 3, 11, 12, 13, 14, 15]) (ops := c50r12) rfl (by kernel_rfl) (by kernel_rfl)
def c50l7 : ICode := (.seq (.seq c50k12 c50s11) c50s10)
def c50s13 : ICode := (.block 2 (.loop c50l7))
@[simp] theorem uc50s13 : Ex F cx (.code c50s13 :: k) s r ↔ Ex F cx (.code (.block 2 (.loop c50l7)) :: k) s r := Iff.rfl
def c50r14 : List Seg := [
  .one ⟨some 15, .mv (.c (.int .i64 0)), none⟩]
def c50k14 : ICode := .kill (dead 69 [0, 1, 2, 3, 11, 12, 13, 14]) (.ops c50r14)
@[simp] theorem uc50k14 : Ex F cx (.code c50k14 :: k) ⟨mk 69 l, rows, low⟩ r ↔ Ex F cx k ⟨mk 69 [(15, (.int .i64 0)), (0, lk l 0), (1, lk l 1), (2, lk l 2), (3, lk l 3), (11, lk l 11), (12, lk l 12), (13, lk l 13), (14, lk l 14)], rows, low⟩ r := reg (keep := [0, 1, 2, 3, 11, 12, 13, 14]) (ops := c50r14) rfl (by kernel_rfl) (by kernel_rfl)
def c50s15 : ICode := (.seq (.seq c50k14 c50s13) c50k6)
@[simp] theorem uc50s15 : Ex F cx (.code c50s15 :: k) s r ↔ Ex F cx (.code (.seq (.seq c50k14 c50s13) c50k6) :: k) s r := Iff.rfl
def c50r16 : List Seg := [
  .one ⟨some 14, .mv (.c (.int .i64 0)), none⟩]
def c50k16 : ICode := .kill (dead 69 [0, 1, 2, 3, 11, 12, 13]) (.ops c50r16)
@[simp] theorem uc50k16 : Ex F cx (.code c50k16 :: k) ⟨mk 69 l, rows, low⟩ r ↔ Ex F cx k ⟨mk 69 [(14, (.int .i64 0)), (0, lk l 0), (1, lk l 1), (2, lk l 2), (3, lk l 3), (11, lk l 11), (12, lk l 12), (13, lk l 13)], rows, low⟩ r := reg (keep := [0, 1, 2, 3, 11, 12, 13]) (ops := c50r16) rfl (by kernel_rfl) (by kernel_rfl)
def c50s17 : ICode := (.seq c50k16 c50s15)
@[simp] theorem uc50s17 : Ex F cx (.code c50s17 :: k) s r ↔ Ex F cx (.code (.seq c50k16 c50s15) :: k) s r := Iff.rfl
def c50r18 : List Seg := [
  .one ⟨some 38, .mv (.t 0), none⟩,
  .one ⟨some 39, .mv (.t 1), none⟩,
  .one ⟨some 40, .mv (.t 2), none⟩,
  .one ⟨some 41, .mv (.t 12), none⟩,
  .one ⟨some 42, .bin .shl (.c (.int .i64 1)) (.t 41), none⟩,
  .one ⟨some 43, .bin .andNot (.t 40) (.t 42), none⟩,
  .one ⟨some 44, .call (.c (.func 71 [])) [(.t 38), (.t 39), (.t 43)], none⟩,
  .one ⟨some 13, .mv (.t 44), none⟩]
def c50k18 : ICode := .kill (dead 69 [0, 1, 2, 3, 11, 12]) (.ops c50r18)
@[simp] theorem uc50k18 : Ex F cx (.code c50k18 :: k) ⟨mk 69 l, rows, low⟩ r ↔ bnd (evP rows (.bin .shl (.c (.int .i64 1)) (.c (lk l 12)))) fun v0 => bnd (evP rows (.bin .andNot (.c (lk l 2)) (.c v0))) fun v1 => bnd (Ret F 71 [lk l 0, lk l 1, v1] rows) fun q2 => Ex F cx k ⟨mk 69 [(13, q2.1), (44, q2.1), (43, v1), (42, v0), (41, lk l 12), (40, lk l 2), (39, lk l 1), (38, lk l 0), (0, lk l 0), (1, lk l 1), (2, lk l 2), (3, lk l 3), (11, lk l 11), (12, lk l 12)], q2.2.1, (lowO low q2.2.2)⟩ r := reg (keep := [0, 1, 2, 3, 11, 12]) (ops := c50r18) rfl (by kernel_rfl) (by kernel_rfl)
def c50s19 : ICode := (.seq c50k18 c50s17)
@[simp] theorem uc50s19 : Ex F cx (.code c50s19 :: k) s r ↔ Ex F cx (.code (.seq c50k18 c50s17) :: k) s r := Iff.rfl
def c50s20 : ICode := (.cond (.t 37) (.exit 1) .skip)
@[simp] theorem uc50s20 : Ex F cx (.code c50s20 :: k) s r ↔ Ex F cx (.code (.cond (.t 37) (.exit 1) .skip) :: k) s r := Iff.rfl
def c50r21 : List Seg := [
  .one ⟨some 33, .mv (.t 2), none⟩,
  .one ⟨some 34, .mv (.t 12), none⟩,
  .one ⟨some 35, .bin .shr (.t 33) (.t 34), none⟩,
  .one ⟨some 36, .bin .rem (.t 35) (.c (.int .i64 2)), none⟩,
  .one ⟨some 37, .bin .eql (.t 36) (.c (.int .i64 0)), none⟩]
def c50k21 : ICode := .kill (dead 69 [0, 1, 2, 3, 11, 12]) (.ops c50r21)
@[simp] theorem uc50k21 : Ex F cx (.code c50k21 :: k) ⟨mk 69 l, rows, low⟩ r ↔ bnd (evP rows (.bin .shr (.c (lk l 2)) (.c (lk l 12)))) fun v0 => bnd (evP rows (.bin .rem (.c v0) (.c (.int .i64 2)))) fun v1 => bnd (evP rows (.bin .eql (.c v1) (.c (.int .i64 0)))) fun v2 => Ex F cx k ⟨mk 69 [(37, v2), (36, v1), (35, v0), (34, lk l 12), (33, lk l 2), (0, lk l 0), (1, lk l 1), (2, lk l 2), (3, lk l 3), (11, lk l 11), (12, lk l 12)], rows, low⟩ r := reg (keep := [0, 1, 2, 3, 11, 12]) (ops := c50r21) rfl (by kernel_rfl) (by kernel_rfl)
def c50s22 : ICode := (.seq (.block 1 (.seq (.seq c50k21 c50s20) c50s19)) c50k5)
@[simp] theorem uc50s22 : Ex F cx (.code c50s22 :: k) s r ↔ Ex F cx (.code (.seq (.block 1 (.seq (.seq c50k21 c50s20) c50s19)) c50k5) :: k) s r := Iff.rfl
def c50s23 : ICode := (.cond (.t 30) .skip (.exit 0))
@[simp] theorem uc50s23 : Ex F cx (.code c50s23 :: k) s r ↔ Ex F cx (.code (.cond (.t 30) .skip (.exit 0)) :: k) s r := Iff.rfl
def c50r24 : List Seg := [
  .one ⟨some 28, .mv (.t 12), none⟩,
  .one ⟨some 29, .mv (.t 0), none⟩,
  .one ⟨some 30, .bin .lss (.t 28) (.t 29), none⟩]
def c50k24 : ICode := .kill (dead 69 [0, 1, 2, 3, 11, 12]) (.ops c50r24)
@[simp] theorem uc50k24 : Ex F cx (.code c50k24 :: k) ⟨mk 69 l, rows, low⟩ r ↔ bnd (evP rows (.bin .lss (.c (lk l 12)) (.c (lk l 0)))) fun v0 => Ex F cx k ⟨mk 69 [(30, v0), (29, lk l 0), (28, lk l 12), (0, lk l 0), (1, lk l 1), (2, lk l 2), (3, lk l 3), (11, lk l 11), (12, lk l 12)], rows, low⟩ r := reg (keep := [0, 1, 2, 3, 11, 12]) (ops := c50r24) rfl (by kernel_rfl) (by kernel_rfl)
def c50l4 : ICode := (.seq (.seq c50k24 c50s23) c50s22)
def c50s25 : ICode := (.block 0 (.loop c50l4))
@[simp] theorem uc50s25 : Ex F cx (.code c50s25 :: k) s r ↔ Ex F cx (.code (.block 0 (.loop c50l4)) :: k) s r := Iff.rfl
def c50r26 : List Seg := [
  .one ⟨some 12, .mv (.c (.int .i64 0)), none⟩]
def c50k26 : ICode := .kill (dead 69 [0, 1, 2, 3, 11]) (.ops c50r26)
@[simp] theorem uc50k26 : Ex F cx (.code c50k26 :: k) ⟨mk 69 l, rows, low⟩ r ↔ Ex F cx k ⟨mk 69 [(12, (.int .i64 0)), (0, lk l 0), (1, lk l 1), (2, lk l 2), (3, lk l 3), (11, lk l 11)], rows, low⟩ r := reg (keep := [0, 1, 2, 3, 11]) (ops := c50r26) rfl (by kernel_rfl) (by kernel_rfl)
def c50s27 : ICode := (.seq (.seq c50k26 c50s25) c50s3)
@[simp] theorem uc50s27 : Ex F cx (.code c50s27 :: k) s r ↔ Ex F cx (.code (.seq (.seq c50k26 c50s25) c50s3) :: k) s r := Iff.rfl
def c50r28 : List Seg := [
  .one ⟨some 27, .mv (.t 0), none⟩,
  .one ⟨some 11, .mv (.t 27), none⟩]
def c50k28 : ICode := .kill (dead 69 [0, 1, 2, 3]) (.ops c50r28)
@[simp] theorem uc50k28 : Ex F cx (.code c50k28 :: k) ⟨mk 69 l, rows, low⟩ r ↔ Ex F cx k ⟨mk 69 [(11, lk l 0), (27, lk l 0), (0, lk l 0), (1, lk l 1), (2, lk l 2), (3, lk l 3)], rows, low⟩ r := reg (keep := [0, 1, 2, 3]) (ops := c50r28) rfl (by kernel_rfl) (by kernel_rfl)
def c50s29 : ICode := (.seq c50k28 c50s27)
@[simp] theorem uc50s29 : Ex F cx (.code c50s29 :: k) s r ↔ Ex F cx (.code (.seq c50k28 c50s27) :: k) s r := Iff.rfl
def c50r30 : List Seg := [
  .one ⟨some 26, .mv (.t 9), none⟩,
  .one ⟨some 8, .mv (.t 26), none⟩]
def c50k30 : ICode := .kill (dead 69 [9]) (.ops c50r30)
@[simp] theorem uc50k30 : Ex F cx (.code c50k30 :: k) ⟨mk 69 l, rows, low⟩ r ↔ Ex F cx k ⟨mk 69 [(8, lk l 9), (26, lk l 9), (9, lk l 9)], rows, low⟩ r := reg (keep := [9]) (ops := c50r30) rfl (by kernel_rfl) (by kernel_rfl)
def c50s31 : ICode := (.cond (.t 25) (.seq c50k30 .ret) .skip)
@[simp] theorem uc50s31 : Ex F cx (.code c50s31 :: k) s r ↔ Ex F cx (.code (.cond (.t 25) (.seq c50k30 .ret) .skip) :: k) s r := Iff.rfl
def c50r32 : List Seg := [
  .one ⟨some 25, .mv (.t 10), none⟩]
def c50k32 : ICode := .kill (dead 69 [0, 1, 2, 3, 9, 10]) (.ops c50r32)
@[simp] theorem uc50k32 : Ex F cx (.code c50k32 :: k) ⟨mk 69 l, rows, low⟩ r ↔ Ex F cx k ⟨mk 69 [(25, lk l 10), (0, lk l 0), (1, lk l 1), (2, lk l 2), (3, lk l 3), (9, lk l 9), (10, lk l 10)], rows, low⟩ r := reg (keep := [0, 1, 2, 3, 9, 10]) (ops := c50r32) rfl (by kernel_rfl) (by kernel_rfl)
def c50s33 : ICode := (.seq c50k32 c50s31)
@[simp] theorem uc50s33 : Ex F cx (.code c50s33 :: k) s r ↔ Ex F cx (.code (.seq c50k32 c50s31) :: k) s r := Iff.rfl
def c50r34 : List Seg := [
  .one ⟨some 20, .mv (.t 3), none⟩,
  .one ⟨some 21, .mv (.t 2), none⟩,
  .one ⟨some 22, .look (.int .i64 0) true (.t 20) (.t 21), none⟩,
  .one ⟨some 19, .mv (.t 22), none⟩,
  .one ⟨some 23, .ext (.t 19) 0, none⟩,
  .one ⟨some 24, .ext (.t 19) 1, none⟩,
  .one ⟨some 9, .mv (.t 23), none⟩,
  .one ⟨some 10, .mv (.t 24), none⟩]
def c50k34 : ICode := .kill (dead 69 [0, 1, 2, 3]) (.ops c50r34)
@[simp] theorem uc50k34 : Ex F cx (.code c50k34 :: k) ⟨mk 69 l, rows, low⟩ r ↔ bnd (evP rows (.look (.int .i64 0) true (.c (lk l 3)) (.c (lk l 2)))) fun v0 => bnd (evP rows (.ext (.c v0) 0)) fun v1 => bnd (evP rows (.ext (.c v0) 1)) fun v2 => Ex F cx k ⟨mk 69 [(10, v2), (9, v1), (24, v2), (23, v1), (19, v0), (22, v0), (21, lk l 2), (20, lk l 3), (0, lk l 0), (1, lk l 1), (2, lk l 2), (3, lk l 3)], rows, low⟩ r := reg (keep := [0, 1, 2, 3]) (ops := c50r34) rfl (by kernel_rfl) (by kernel_rfl)
def c50s35 : ICode := (.seq (.seq c50k34 c50s33) c50s29)
@[simp] theorem uc50s35 : Ex F cx (.code c50s35 :: k) s r ↔ Ex F cx (.code (.seq (.seq c50k34 c50s33) c50s29) :: k) s r := Iff.rfl
def c50r36 : List Seg := [
  .one ⟨some 8, .mv (.c (.int .i64 0)), none⟩]
def c50k36 : ICode := .kill (dead 69 []) (.ops c50r36)
@[simp] theorem uc50k36 : Ex F cx (.code c50k36 :: k) ⟨mk 69 l, rows, low⟩ r ↔ Ex F cx k ⟨mk 69 [(8, (.int .i64 0))], rows, low⟩ r := reg (keep := []) (ops := c50r36) rfl (by kernel_rfl) (by kernel_rfl)
def c50s37 : ICode := (.cond (.t 18) (.seq c50k36 .ret) .skip)
@[simp] theorem uc50s37 : Ex F cx (.code c50s37 :: k) s r ↔ Ex F cx (.code (.cond (.t 18) (.seq c50k36 .ret) .skip) :: k) s r := Iff.rfl
def c50r38 : List Seg := [
  .one ⟨some 16, .mv (.t 2), none⟩,
  .one ⟨some 17, .call (.c (.func 72 [])) [(.t 16)], none⟩,
  .one ⟨some 18, .bin .eql (.t 17) (.c (.int .i64 1)), none⟩]
def c50k38 : ICode := .kill (dead 69 [0, 1, 2, 3]) (.ops c50r38)
@[simp] theorem uc50k38 : Ex F cx (.code c50k38 :: k) ⟨mk 69 l, rows, low⟩ r ↔ bnd (Ret F 72 [lk l 2] rows) fun q0 => bnd (evP q0.2.1 (.bin .eql (.c q0.1) (.c (.int .i64 1)))) fun v1 => Ex F cx k ⟨mk 69 [(18, v1), (17, q0.1), (16, lk l 2), (0, lk l 0), (1, lk l 1), (2, lk l 2), (3, lk l 3)], q0.2.1, (lowO low q0.2.2)⟩ r := reg (keep := [0, 1, 2, 3]) (ops := c50r38) rfl (by kernel_rfl) (by kernel_rfl)
def c50s39 : ICode := (.seq (.seq c50k38 c50s37) c50s35)
@[simp] theorem uc50s39 : Ex F cx (.code c50s39 :: k) s r ↔ Ex F cx (.code (.seq (.seq c50k38 c50s37) c50s35) :: k) s r := Iff.rfl
def c50r40 : List Seg := [
  .one ⟨some 8, .mv (.c (.int .i64 0)), none⟩]
def c50k40 : ICode := .kill (dead 69 [0, 1, 2, 3]) (.ops c50r40)
@[simp] theorem uc50k40 : Ex F cx (.code c50k40 :: k) ⟨mk 69 l, rows, low⟩ r ↔ Ex F cx k ⟨mk 69 [(8, (.int .i64 0)), (0, lk l 0), (1, lk l 1), (2, lk l 2), (3, lk l 3)], rows, low⟩ r := reg (keep := [0, 1, 2, 3]) (ops := c50r40) rfl (by kernel_rfl) (by kernel_rfl)
def Jc50s10 (F : Nat → Option IFn) (cx : Ctx) (x0 x1 x2 x3 x11 x12 x13 x14 x15 : AV) (rows : List Row) (low : Nat) (r : AV × List Row × Nat → Prop) : Prop := Ex F cx (.code c50s10 :: .inLoop c50l7 :: .inBlock 2 :: .code c50k6 :: .inBlock 1 :: .code c50k5 :: .inLoop c50l4 :: .inBlock 0 :: .code c50s3 :: []) ⟨mk 69 [(0, x0), (1, x1), (2, x2), (3, x3), (11, x11), (12, x12), (13, x13), (14, x14), (15, x15)], rows, low⟩ r
theorem jc50s10 : Ex F cx (.code c50s10 :: .inLoop c50l7 :: .inBlock 2 :: .code c50k6 :: .inBlock 1 :: .code c50k5 :: .inLoop c50l4 :: .inBlock 0 :: .code c50s3 :: []) ⟨mk 69 l, rows, low⟩ r ↔ Jc50s10 F cx (lk l 0) (lk l 1) (lk l 2) (lk l 3) (lk l 11) (lk l 12) (lk l 13) (lk l 14) (lk l 15) rows low r := Ex_canon (keep := [0, 1, 2, 3, 11, 12, 13, 14, 15]) (by kernel_rfl)
def Lc50l7 (F : Nat → Option IFn) (cx : Ctx) (x0 x1 x2 x3 x11 x12 x13 x14 x15 : AV) (rows : List Row) (low : Nat) (r : AV × List Row × Nat → Prop) : Prop := Ex F cx (.code c50l7 :: .inLoop c50l7 :: .inBlock 2 :: .code c50k6 :: .inBlock 1 :: .code c50k5 :: .inLoop c50l4 :: .inBlock 0 :: .code c50s3 :: []) ⟨mk 69 [(0, x0), (1, x1), (2, x2), (3, x3), (11, x11), (12, x12), (13, x13), (14, x14), (15, x15)], rows, low⟩ r
@[simp] theorem nc50l7 : Ex F cx (.inLoop c50l7 :: .inBlock 2 :: .code c50k6 :: .inBlock 1 :: .code c50k5 :: .inLoop c50l4 :: .inBlock 0 :: .code c50s3 :: []) ⟨mk 69 l, rows, low⟩ r ↔ Lc50l7 F cx (lk l 0) (lk l 1) (lk l 2) (lk l 3) (lk l 11) (lk l 12) (lk l 13) (lk l 14) (lk l 15) rows low r := loopN (keep := [0, 1, 2, 3, 11, 12, 13, 14, 15]) (by kernel_rfl)
@[simp] theorem ec50l7 : Ex F cx (.code (.loop c50l7) :: .inBlock 2 :: .code c50k6 :: .inBlock 1 :: .code c50k5 :: .inLoop c50l4 :: .inBlock 0 :: .code c50s3 :: []) ⟨mk 69 l, rows, low⟩ r ↔ Lc50l7 F cx (lk l 0) (lk l 1) (lk l 2) (lk l 3) (lk l 11) (lk l 12) (lk l 13) (lk l 14) (lk l 15) rows low r := loopE (keep := [0, 1, 2, 3, 11, 12, 13, 14, 15]) (by kernel_rfl)
@[simp] theorem uc50l7 : Ex F cx (.code c50l7 :: k) s r ↔ Ex F cx (.code (.seq (.seq c50k12 c50s11) c50s10) :: k) s r := Iff.rfl
def Jc50s19 (F : Nat → Option IFn) (cx : Ctx) (x0 x1 x2 x3 x11 x12 : AV) (rows : List Row) (low : Nat) (r : AV × List Row × Nat → Prop) : Prop := Ex F cx (.code c50s19 :: .inBlock 1 :: .code c50k5 :: .inLoop c50l4 :: .inBlock 0 :: .code c50s3 :: []) ⟨mk 69 [(0, x0), (1, x1), (2, x2), (3, x3), (11, x11), (12, x12)], rows, low⟩ r
theorem jc50s19 : Ex F cx (.code c50s19 :: .inBlock 1 :: .code c50k5 :: .inLoop c50l4 :: .inBlock 0 :: .code c50s3 :: []) ⟨mk 69 l, rows, low⟩ r ↔ Jc50s19 F cx (lk l 0) (lk l 1) (lk l 2) (lk l 3) (lk l 11) (lk l 12) rows low r := Ex_canon (keep := [0, 1, 2, 3, 11, 12]) (by kernel_rfl)
def Jc50s22 (F : Nat → Option IFn) (cx : Ctx) (x0 x1 x2 x3 x11 x12 : AV) (rows : List Row) (low : Nat) (r : AV × List Row × Nat → Prop) : Prop := Ex F cx (.code c50s22 :: .inLoop c50l4 :: .inBlock 0 :: .code c50s3 :: []) ⟨mk 69 [(0, x0), (1, x1), (2, x2), (3, x3), (11, x11), (12, x12)], rows, low⟩ r
theorem jc50s22 : Ex F cx (.code c50s22 :: .inLoop c50l4 :: .inBlock 0 :: .code c50s3 :: []) ⟨mk 69 l, rows, low⟩ r ↔ Jc50s22 F cx (lk l 0) (lk l 1) (lk l 2) (lk l 3) (lk l 11) (lk l 12) rows low r := Ex_canon (keep := [0, 1, 2, 3, 11, 12]) (by kernel_rfl)
def Lc50l4 (F : Nat → Option IFn) (cx : Ctx) (x0 x1 x2 x3 x11 x12 : AV) (rows : List Row) (low : Nat) (r : AV × List Row × Nat → Prop) : Prop := Ex F cx (.code c50l4 :: .inLoop c50l4 :: .inBlock 0 :: .code c50s3 :: []) ⟨mk 69 [(0, x0), (1, x1), (2, x2), (3, x3), (11, x11), (12, x12)], rows, low⟩ r
@[simp] theorem nc50l4 : Ex F cx (.inLoop c50l4 :: .inBlock 0 :: .code c50s3 :: []) ⟨mk 69 l, rows, low⟩ r ↔ Lc50l4 F cx (lk l 0) (lk l 1) (lk l 2) (lk l 3) (lk l 11) (lk l 12) rows low r := loopN (keep := [0, 1, 2, 3, 11, 12]) (by kernel_rfl)
@[simp] theorem ec50l4 : Ex F cx (.code (.loop c50l4) :: .inBlock 0 :: .code c50s3 :: []) ⟨mk 69 l, rows, low⟩ r ↔ Lc50l4 F cx (lk l 0) (lk l 1) (lk l 2) (lk l 3) (lk l 11) (lk l 12) rows low r := loopE (keep := [0, 1, 2, 3, 11, 12]) (by kernel_rfl)
@[simp] theorem uc50l4 : Ex F cx (.code c50l4 :: k) s r ↔ Ex F cx (.code (.seq (.seq c50k24 c50s23) c50s22) :: k) s r := Iff.rfl
def Jc50s29 (F : Nat → Option IFn) (cx : Ctx) (x0 x1 x2 x3 : AV) (rows : List Row) (low : Nat) (r : AV × List Row × Nat → Prop) : Prop := Ex F cx (.code c50s29 :: []) ⟨mk 69 [(0, x0), (1, x1), (2, x2), (3, x3)], rows, low⟩ r
theorem jc50s29 : Ex F cx (.code c50s29 :: []) ⟨mk 69 l, rows, low⟩ r ↔ Jc50s29 F cx (lk l 0) (lk l 1) (lk l 2) (lk l 3) rows low r := Ex_canon (keep := [0, 1, 2, 3]) (by kernel_rfl)
def Jc50s35 (F : Nat → Option IFn) (cx : Ctx) (x0 x1 x2 x3 : AV) (rows : List Row) (low : Nat) (r : AV × List Row × Nat → Prop) : Prop := Ex F cx (.code c50s35 :: []) ⟨mk 69 [(0, x0), (1, x1), (2, x2), (3, x3)], rows, low⟩ r
theorem jc50s35 : Ex F cx (.code c50s35 :: []) ⟨mk 69 l, rows, low⟩ r ↔ Jc50s35 F cx (lk l 0) (lk l 1) (lk l 2) (lk l 3) rows low r := Ex_canon (keep := [0, 1, 2, 3]) (by kernel_rfl)
def c50b : ICode := (.seq c50k40 c50s39)
@[simp] theorem uc50b : Ex F cx (.code c50b :: k) s r ↔ Ex F cx (.code (.seq c50k40 c50s39) :: k) s r := Iff.rfl
def c50 : IFn := ⟨69, [.t 8], c50b⟩
def h50 : List (Nat × List Nat) := [(0, dead 69 [0, 1, 2, 3]), (1, dead 69 [0, 1, 2, 3]), (2, dead 69 []), (3, dead 69 [0, 1, 2, 3]), (4, dead 69 [0, 1, 2, 3, 9, 10]), (5, dead 69 [9]), (6, dead 69 [0, 1, 2, 3]), (7, dead 69 [0, 1, 2, 3, 11]), (8, dead 69 [0, 1, 2, 3, 11, 12]), (10, dead 69 [0, 1, 2, 3, 11, 12]), (11, dead 69 [0, 1, 2, 3, 11, 12]), (12, dead 69 [0, 1, 2, 3, 11, 12, 13]), (13, dead 69 [0, 1, 2, 3, 11, 12, 13, 14]), (14, dead 69 [0, 1, 2, 3, 11, 12, 13, 14, 15]), (16, dead 69 [0, 1, 2, 3, 11, 12, 13, 14, 15]), (15, dead 69 [0, 1, 2, 3, 11, 12, 13, 14, 15]), (17, dead 69 [0, 1, 2, 3, 11, 12, 14]), (9, dead 69 [0, 1, 2, 3, 11, 12]), (18, dead 69 [2, 3, 11]), (19, dead 69 [11])]
theorem i50 {x0 x1 x2 x3 : AV} (hF : F 50 = some c50) {q : AV × List Row × Option Nat} (h : Ex F (.fn [.t 8]) [.code c50b] ⟨mk 69 [(0, x0), (1, x1), (2, x2), (3, x3)], rows, rows.length⟩ fun r => fin rows r.1 r.2.1 r.2.2 = q) : Ret F 50 [x0, x1, x2, x3] rows = some q := Ret_mk hF h
/-! tosher/tosherref08.Middle -/
def c51r0 : List Seg := [
  .one ⟨some 45, .mv (.t 6), none⟩,
  .one ⟨some 46, .mv (.t 7), none⟩,
  .one ⟨some 4, .mv (.t 45), none⟩,
  .one ⟨some 5, .mv (.t 46), none⟩]
def c51k0 : ICode := .kill (dead 47 [6, 7]) (.ops c51r0)
@[simp] theorem uc51k0 : Ex F cx (.code c51k0 :: k) ⟨mk 47 l, rows, low⟩ r ↔ Ex F cx k ⟨mk 47 [(5, lk l 7), (4, lk l 6), (46, lk l 7), (45, lk l 6), (6, lk l 6), (7, lk l 7)], rows, low⟩ r := reg (keep := [6, 7]) (ops := c51r0) rfl (by kernel_rfl) (by kernel_rfl)
def c51s1 : ICode := (.seq c51k0 .ret)
@[simp] theorem uc51s1 : Ex F cx (.code c51s1 :: k) s r ↔ Ex F cx (.code (.seq c51k0 .ret) :: k) s r := Iff.rfl
def c51r3 : List Seg := [
  .one ⟨some 16, .mv (.t 8), none⟩,
  .one ⟨some 17, .bin .add (.t 16) (.c (.int .i64 1)), none⟩,
  .one ⟨some 8, .mv (.t 17), none⟩]
def c51k3 : ICode := .kill (dead 47 [0, 1, 6, 7, 8]) (.ops c51r3)
@[simp] theorem uc51k3 : Ex F cx (.code c51k3 :: k) ⟨mk 47 l, rows, low⟩ r ↔ bnd (evP rows (.bin .add (.c (lk l 8)) (.c (.int .i64 1)))) fun v0 => Ex F cx k ⟨mk 47 [(8, v0), (17, v0), (16, lk l 8), (0, lk l 0), (1, lk l 1), (6, lk l 6), (7, lk l 7), (8, lk l 8)], rows, low⟩ r := reg (keep := [0, 1, 6, 7, 8]) (ops := c51r3) rfl (by kernel_rfl) (by kernel_rfl)
def c51r4 : List Seg := [
  .one ⟨some 44, .mv (.t 10), none⟩,
  .one ⟨some 7, .mv (.t 44), none⟩]
def c51k4 : ICode := .kill (dead 47 [0, 1, 6, 8, 10]) (.ops c51r4)
@[simp] theorem uc51k4 : Ex F cx (.code c51k4 :: k) ⟨mk 47 l, rows, low⟩ r ↔ Ex F cx k ⟨mk 47 [(7, lk l 10), (44, lk l 10), (0, lk l 0), (1, lk l 1), (6, lk l 6), (8, lk l 8), (10, lk l 10)], rows, low⟩ r := reg (keep := [0, 1, 6, 8, 10]) (ops := c51r4) rfl (by kernel_rfl) (by kernel_rfl)
def c51r5 : List Seg := [
  .one ⟨some 43, .mv (.t 8), none⟩,
  .one ⟨some 6, .mv (.t 43), none⟩]
def c51k5 : ICode := .kill (dead 47 [0, 1, 8, 10]) (.ops c51r5)
@[simp] theorem uc51k5 : Ex F cx (.code c51k5 :: k) ⟨mk 47 l, rows, low⟩ r ↔ Ex F cx k ⟨mk 47 [(6, lk l 8), (43, lk l 8), (0, lk l 0), (1, lk l 1), (8, lk l 8), (10, lk l 10)], rows, low⟩ r := reg (keep := [0, 1, 8, 10]) (ops := c51r5) rfl (by kernel_rfl) (by kernel_rfl)
def c51s6 : ICode := (.cond (.t 42) (.seq c51k5 c51k4) .skip)
@[simp] theorem uc51s6 : Ex F cx (.code c51s6 :: k) s r ↔ Ex F cx (.code (.cond (.t 42) (.seq c51k5 c51k4) .skip) :: k) s r := Iff.rfl
def c51r7 : List Seg := [
  .one ⟨some 40, .mv (.t 10), none⟩,
  .one ⟨some 41, .mv (.t 7), none⟩,
  .one ⟨some 42, .bin .lss (.t 40) (.t 41), none⟩]
def c51k7 : ICode := .kill (dead 47 [0, 1, 6, 7, 8, 10]) (.ops c51r7)
@[simp] theorem uc51k7 : Ex F cx (.code c51k7 :: k) ⟨mk 47 l, rows, low⟩ r ↔ bnd (evP rows (.bin .lss (.c (lk l 10)) (.c (lk l 7)))) fun v0 => Ex F cx k ⟨mk 47 [(42, v0), (41, lk l 7), (40, lk l 10), (0, lk l 0), (1, lk l 1), (6, lk l 6), (7, lk l 7), (8, lk l 8), (10, lk l 10)], rows, low⟩ r := reg (keep := [0, 1, 6, 7, 8, 10]) (ops := c51r7) rfl (by kernel_rfl) (by kernel_rfl)
def c51s8 : ICode := (.seq c51k7 c51s6)
@[simp] theorem uc51s8 : Ex F cx (.code c51s8 :: k) s r ↔ Ex F cx (.code (.seq c51k7 c51s6) :: k) s r := Iff.rfl
def c51r10 : List Seg := [
  .one ⟨some 31, .mv (.t 11), none⟩,
  .one ⟨some 32, .bin .add (.t 31) (.c (.int .i64 1)), none⟩,
  .one ⟨some 11, .mv (.t 32), none⟩]
def c51k10 : ICode := .kill (dead 47 [0, 1, 6, 7, 8, 9, 10, 11]) (.ops c51r10)
@[simp] theorem uc51k10 : Ex F cx (.code c51k10 :: k) ⟨mk 47 l, rows, low⟩ r ↔ bnd (evP rows (.bin .add (.c (lk l 11)) (.c (.int .i64 1)))) fun v0 => Ex F cx k ⟨mk 47 [(11, v0), (32, v0), (31, lk l 11), (0, lk l 0), (1, lk l 1), (6, lk l 6), (7, lk l 7), (8, lk l 8), (9, lk l 9), (10, lk l 10), (11, lk l 11)], rows, low⟩ r := reg (keep := [0, 1, 6, 7, 8, 9, 10, 11]) (ops := c51r10) rfl (by kernel_rfl) (by kernel_rfl)
def c51r11 : List Seg := [
  .one ⟨some 33, .mv (.t 10), none⟩,
  .one ⟨some 34, .mv (.t 9), none⟩,
  .one ⟨some 35, .mv (.t 11), none⟩,
  .one ⟨some 36, .idxS 1 (.t 34) (.t 35), none⟩,
  .one ⟨some 37, .load1 (.t 36), none⟩,
  .one ⟨some 38, .call (.c (.func 72 [])) [(.t 37)], none⟩,
  .one ⟨some 39, .mx [(.t 33), (.t 38)], none⟩,
  .one ⟨some 10, .mv (.t 39), none⟩]
def c51k11 : ICode := .kill (dead 47 [0, 1, 6, 7, 8, 9, 10, 11]) (.ops c51r11)
@[simp] theorem uc51k11 : Ex F cx (.code c51k11 :: k) ⟨mk 47 l, rows, low⟩ r ↔ bnd (evP rows (.idxS 1 (.c (lk l 9)) (.c (lk l 11)))) fun v0 => bnd (evP rows (.load1 (.c v0))) fun v1 => bnd (Ret F 72 [v1] rows) fun q2 => bnd (evP q2.2.1 (.mx [(.c (lk l 10)), (.c q2.1)])) fun v3 => Ex F cx k ⟨mk 47 [(10, v3), (39, v3), (38, q2.1), (37, v1), (36, v0), (35, lk l 11), (34, lk l 9), (33, lk l 10), (0, lk l 0), (1, lk l 1), (6, lk l 6), (7, lk l 7), (8, lk l 8), (9, lk l 9), (10, lk l 10), (11, lk l 11)], q2.2.1, (lowO low q2.2.2)⟩ r := reg (keep := [0, 1, 6, 7, 8, 9, 10, 11]) (ops := c51r11) rfl (by kernel_rfl) (by kernel_rfl)
def c51s12 : ICode := (.seq (.block 3 c51k11) c51k10)
@[simp] theorem uc51s12 : Ex F cx (.code c51s12 :: k) s r ↔ Ex F cx (.code (.seq (.block 3 c51k11) c51k10) :: k) s r := Iff.rfl
def c51s13 : ICode := (.cond (.t 30) .skip (.exit 2))
@[simp] theorem uc51s13 : Ex F cx (.code c51s13 :: k) s r ↔ Ex F cx (.code (.cond (.t 30) .skip (.exit 2)) :: k) s r := Iff.rfl
def c51r14 : List Seg := [
  .one ⟨some 27, .mv (.t 11), none⟩,
  .one ⟨some 28, .mv (.t 9), none⟩,
  .one ⟨some 29, .len 0 (.t 28), none⟩,
  .one ⟨some 30, .bin .lss (.t 27) (.t 29), none⟩]
def c51k14 : ICode := .kill (dead 47 [0, 1, 6, 7, 8, 9, 10, 11]) (.ops c51r14)
@[simp] theorem uc51k14 : Ex F cx (.code c51k14 :: k) ⟨mk 47 l, rows, low⟩ r ↔ bnd (evP rows (.len 0 (.c (lk l 9)))) fun v0 => bnd (evP rows (.bin .lss (.c (lk l 11)) (.c v0))) fun v1 => Ex F cx k ⟨mk 47 [(30, v1), (29, v0), (28, lk l 9), (27, lk l 11), (0, lk l 0), (1, lk l 1), (6, lk l 6), (7, lk l 7), (8, lk l 8), (9, lk l 9), (10, lk l 10), (11, lk l 11)], rows, low⟩ r := reg (keep := [0, 1, 6, 7, 8, 9, 10, 11]) (ops := c51r14) rfl (by kernel_rfl) (by kernel_rfl)
def c51l9 : ICode := (.seq (.seq c51k14 c51s13) c51s12)
def c51s15 : ICode := (.block 2 (.loop c51l9))
@[simp] theorem uc51s15 : Ex F cx (.code c51s15 :: k) s r ↔ Ex F cx (.code (.block 2 (.loop c51l9)) :: k) s r := Iff.rfl
def c51r16 : List Seg := [
  .one ⟨some 11, .mv (.c (.int .i64 0)), none⟩]
def c51k16 : ICode := .kill (dead 47 [0, 1, 6, 7, 8, 9, 10]) (.ops c51r16)
@[simp] theorem uc51k16 : Ex F cx (.code c51k16 :: k) ⟨mk 47 l, rows, low⟩ r ↔ Ex F cx k ⟨mk 47 [(11, (.int .i64 0)), (0, lk l 0), (1, lk l 1), (6, lk l 6), (7, lk l 7), (8, lk l 8), (9, lk l 9), (10, lk l 10)], rows, low⟩ r := reg (keep := [0, 1, 6, 7, 8, 9, 10]) (ops := c51r16) rfl (by kernel_rfl) (by kernel_rfl)
def c51s17 : ICode := (.seq (.seq c51k16 c51s15) c51s8)
@[simp] theorem uc51s17 : Ex F cx (.code c51s17 :: k) s r ↔ Ex F cx (.code (.seq (.seq c51k16 c51s15) c51s8) :: k) s r := Iff.rfl
def c51r18 : List Seg := [
  .one ⟨some 10, .mv (.c (.int .i64 0)), none⟩]
def c51k18 : ICode := .kill (dead 47 [0, 1, 6, 7, 8, 9]) (.ops c51r18)
@[simp] theorem uc51k18 : Ex F cx (.code c51k18 :: k) ⟨mk 47 l, rows, low⟩ r ↔ Ex F cx k ⟨mk 47 [(10, (.int .i64 0)), (0, lk l 0), (1, lk l 1), (6, lk l 6), (7, lk l 7), (8, lk l 8), (9, lk l 9)], rows, low⟩ r := reg (keep := [0, 1, 6, 7, 8, 9]) (ops := c51r18) rfl (by kernel_rfl) (by kernel_rfl)
def c51s19 : ICode := (.seq c51k18 c51s17)
@[simp] theorem uc51s19 : Ex F cx (.code c51s19 :: k) s r ↔ Ex F cx (.code (.seq c51k18 c51s17) :: k) s r := Iff.rfl
def c51r20 : List Seg := [
  .grp [(⟨some 18, .mv (.t 0), none⟩, 0), (⟨some 19, .mv (.t 1), none⟩, 0), (⟨some 20, .mv (.t 0), none⟩, 0), (⟨some 21, .bin .shl (.c (.int .i64 1)) (.t 20), none⟩, 4), (⟨some 22, .bin .sub (.t 21) (.c (.int .i64 1)), none⟩, 12), (⟨some 23, .mv (.t 8), none⟩, 0), (⟨some 24, .bin .shl (.c (.int .i64 1)) (.t 23), none⟩, 32), (⟨some 25, .bin .andNot (.t 22) (.t 24), none⟩, 124)],
  .one ⟨some 26, .call (.c (.func 71 [])) [(.t 18), (.t 19), (.t 25)], none⟩,
  .one ⟨some 9, .mv (.t 26), none⟩]
def c51k20 : ICode := .kill (dead 47 [0, 1, 6, 7, 8]) (.ops c51r20)
@[simp] theorem uc51k20 : Ex F cx (.code c51k20 :: k) ⟨mk 47 l, rows, low⟩ r ↔ bnd (evP rows (.bin .shl (.c (.int .i64 1)) (.c (lk l 0)))) fun v0 => bnd (evP rows (.bin .sub (.c v0) (.c (.int .i64 1)))) fun v1 => bnd (evP rows (.bin .shl (.c (.int .i64 1)) (.c (lk l 8)))) fun v2 => bnd (evP rows (.bin .andNot (.c v1) (.c v2))) fun v3 => bnd (Ret F 71 [lk l 0, lk l 1, v3] rows) fun q4 => Ex F cx k ⟨mk 47 [(9, q4.1), (26, q4.1), (25, v3), (24, v2), (23, lk l 8), (22, v1), (21, v0), (20, lk l 0), (19, lk l 1), (18, lk l 0), (0, lk l 0), (1, lk l 1), (6, lk l 6), (7, lk l 7), (8, lk l 8)], q4.2.1, (lowO low q4.2.2)⟩ r := reg (keep := [0, 1, 6, 7, 8]) (ops := c51r20) rfl (by kernel_rfl) (by kernel_rfl)
def c51s21 : ICode := (.seq (.block 1 (.seq c51k20 c51s19)) c51k3)
@[simp] theorem uc51s21 : Ex F cx (.code c51s21 :: k) s r ↔ Ex F cx (.code (.seq (.block 1 (.seq c51k20 c51s19)) c51k3) :: k) s r := Iff.rfl
def c51s22 : ICode := (.cond (.t 15) .skip (.exit 0))
@[simp] theorem uc51s22 : Ex F cx (.code c51s22 :: k) s r ↔ Ex F cx (.code (.cond (.t 15) .skip (.exit 0)) :: k) s r := Iff.rfl
def c51r23 : List Seg := [
  .one ⟨some 13, .mv (.t 8), none⟩,
  .one ⟨some 14, .mv (.t 0), none⟩,
  .one ⟨some 15, .bin .lss (.t 13) (.t 14), none⟩]
def c51k23 : ICode := .kill (dead 47 [0, 1, 6, 7, 8]) (.ops c51r23)
@[simp] theorem uc51k23 : Ex F cx (.code c51k23 :: k) ⟨mk 47 l, rows, low⟩ r ↔ bnd (evP rows (.bin .lss (.c (lk l 8)) (.c (lk l 0)))) fun v0 => Ex F cx k ⟨mk 47 [(15, v0), (14, lk l 0), (13, lk l 8), (0, lk l 0), (1, lk l 1), (6, lk l 6), (7, lk l 7), (8, lk l 8)], rows, low⟩ r := reg (keep := [0, 1, 6, 7, 8]) (ops := c51r23) rfl (by kernel_rfl) (by kernel_rfl)
def c51l2 : ICode := (.seq (.seq c51k23 c51s22) c51s21)
def c51s24 : ICode := (.block 0 (.loop c51l2))
@[simp] theorem uc51s24 : Ex F cx (.code c51s24 :: k) s r ↔ Ex F cx (.code (.block 0 (.loop c51l2)) :: k) s r := Iff.rfl
def c51r25 : List Seg := [
  .one ⟨some 8, .mv (.c (.int .i64 0)), none⟩]
def c51k25 : ICode := .kill (dead 47 [0, 1, 6, 7]) (.ops c51r25)
@[simp] theorem uc51k25 : Ex F cx (.code c51k25 :: k) ⟨mk 47 l, rows, low⟩ r ↔ Ex F cx k ⟨mk 47 [(8, (.int .i64 0)), (0, lk l 0), (1, lk l 1), (6, lk l 6), (7, lk l 7)], rows, low⟩ r := reg (keep := [0, 1, 6, 7]) (ops := c51r25) rfl (by kernel_rfl) (by kernel_rfl)
def c51s26 : ICode := (.seq (.seq c51k25 c51s24) c51s1)
@[simp] theorem uc51s26 : Ex F cx (.code c51s26 :: k) s r ↔ Ex F cx (.code (.seq (.seq c51k25 c51s24) c51s1) :: k) s r := Iff.rfl
def c51r27 : List Seg := [
  .one ⟨some 12, .mv (.t 0), none⟩,
  .one ⟨some 6, .mv (.c (.int .i64 0)), none⟩,
  .one ⟨some 7, .mv (.t 12), none⟩]
def c51k27 : ICode := .kill (dead 47 [0, 1]) (.ops c51r27)
@[simp] theorem uc51k27 : Ex F cx (.code c51k27 :: k) ⟨mk 47 l, rows, low⟩ r ↔ Ex F cx k ⟨mk 47 [(7, lk l 0), (6, (.int .i64 0)), (12, lk l 0), (0, lk l 0), (1, lk l 1)], rows, low⟩ r := reg (keep := [0, 1]) (ops := c51r27) rfl (by kernel_rfl) (by kernel_rfl)
def c51s28 : ICode := (.seq c51k27 c51s26)
@[simp] theorem uc51s28 : Ex F cx (.code c51s28 :: k) s r ↔ Ex F cx (.code (.seq c51k27 c51s26) :: k) s r := Iff.rfl
def c51r29 : List Seg := [
  .one ⟨some 4, .mv (.c (.int .i64 0)), none⟩,
  .one ⟨some 5, .mv (.c (.int .i64 0)), none⟩]
def c51k29 : ICode := .kill (dead 47 [0, 1]) (.ops c51r29)
@[simp] theorem uc51k29 : Ex F cx (.code c51k29 :: k) ⟨mk 47 l, rows, low⟩ r ↔ Ex F cx k ⟨mk 47 [(5, (.int .i64 0)), (4, (.int .i64 0)), (0, lk l 0), (1, lk l 1)], rows, low⟩ r := reg (keep := [0, 1]) (ops := c51r29) rfl (by kernel_rfl) (by kernel_rfl)
def Jc51s12 (F : Nat → Option IFn) (cx : Ctx) (x0 x1 x6 x7 x8 x9 x10 x11 : AV) (rows : List Row) (low : Nat) (r : AV × List Row × Nat → Prop) : Prop := Ex F cx (.code c51s12 :: .inLoop c51l9 :: .inBlock 2 :: .code c51s8 :: .inBlock 1 :: .code c51k3 :: .inLoop c51l2 :: .inBlock 0 :: .code c51s1 :: []) ⟨mk 47 [(0, x0), (1, x1), (6, x6), (7, x7), (8, x8), (9, x9), (10, x10), (11, x11)], rows, low⟩ r
theorem jc51s12 : Ex F cx (.code c51s12 :: .inLoop c51l9 :: .inBlock 2 :: .code c51s8 :: .inBlock 1 :: .code c51k3 :: .inLoop c51l2 :: .inBlock 0 :: .code c51s1 :: []) ⟨mk 47 l, rows, low⟩ r ↔ Jc51s12 F cx (lk l 0) (lk l 1) (lk l 6) (lk l 7) (lk l 8) (lk l 9) (lk l 10) (lk l 11) rows low r := Ex_canon (keep := [0, 1, 6, 7, 8, 9, 10, 11]) (by kernel_rfl)
def Lc51l9 (F : Nat → Option IFn) (cx : Ctx) (x0 x1 x6 x7 x8 x9 x10 x11 : AV) (rows : List Row) (low : Nat) (r : AV × List Row × Nat → Prop) : Prop := Ex F cx (.code c51l9 :: .inLoop c51l9 :: .inBlock 2 :: .code c51s8 :: .inBlock 1 :: .code c51k3 :: .inLoop c51l2 :: .inBlock 0 :: .code c51s1 :: []) ⟨mk 47 [(0, x0), (1, x1), (6, x6), (7, x7), (8, x8), (9, x9), (10, x10), (11, x11)], rows, low⟩ r
@[simp] theorem nc51l9 : Ex F cx (.inLoop c51l9 :: .inBlock 2 :: .code c51s8 :: .inBlock 1 :: .code c51k3 :: .inLoop c51l2 :: .inBlock 0 :: .code c51s1 :: []) ⟨mk 47 l, rows, low⟩ r ↔ Lc51l9 F cx (lk l 0) (lk l 1) (lk l 6) (lk l 7) (lk l 8) (lk l 9) (lk l 10) (lk l 11) rows low r := loopN (keep := [0, 1, 6, 7, 8, 9, 10, 11]) (by kernel_rfl)
@[simp] theorem ec51l9 : Ex F cx (.code (.loop c51l9) :: .inBlock 2 :: .code c51s8 :: .inBlock 1 :: .code c51k3 :: .inLoop c51l2 :: .inBlock 0 :: .code c51s1 :: []) ⟨mk 47 l, rows, low⟩ r ↔ Lc51l9 F cx (lk l 0) (lk l 1) (lk l 6) (lk l 7) (lk l 8) (lk l 9) (lk l 10) (lk l 11) rows low r := loopE (keep := [0, 1, 6, 7, 8, 9, 10, 11]) (by kernel_rfl)
@[simp] theorem uc51l9 : Ex F cx (.code c51l9 :: k) s r ↔ Ex F cx (.code (.seq (.seq c51k14 c51s13) c51s12) :: k) s r := Iff.rfl
def Jc51s21 (F : Nat → Option IFn) (cx : Ctx) (x0 x1 x6 x7 x8 : AV) (rows : List Row) (low : Nat) (r : AV × List Row × Nat → Prop) : Prop := Ex F cx (.code c51s21 :: .inLoop c51l2 :: .inBlock 0 :: .code c51s1 :: []) ⟨mk 47 [(0, x0), (1, x1), (6, x6), (7, x7), (8, x8)], rows, low⟩ r
theorem jc51s21 : Ex F cx (.code c51s21 :: .inLoop c51l2 :: .inBlock 0 :: .code c51s1 :: []) ⟨mk 47 l, rows, low⟩ r ↔ Jc51s21 F cx (lk l 0) (lk l 1) (lk l 6) (lk l 7) (lk l 8) rows low r := Ex_canon (keep := [0, 1, 6, 7, 8]) (by kernel_rfl)
def Lc51l2 (F : Nat → Option IFn) (cx : Ctx) (x0 x1 x6 x7 x8 : AV) (rows : List Row) (low : Nat) (r : AV × List Row × Nat → Prop) : Prop := Ex F cx (.code c51l2 :: .inLoop c51l2 :: .inBlock 0 :: .code c51s1 :: []) ⟨mk 47 [(0, x0), (1, x1), (6, x6), (7, x7), (8, x8)], rows, low⟩ r
@[simp] theorem nc51l2 : Ex F cx (.inLoop c51l2 :: .inBlock 0 :: .code c51s1 :: []) ⟨mk 47 l, rows, low⟩ r ↔ Lc51l2 F cx (lk l 0) (lk l 1) (lk l 6) (lk l 7) (lk l 8) rows low r := loopN (keep := [0, 1, 6, 7, 8]) (by kernel_rfl)
@[simp] theorem ec51l2 : Ex F cx (.code (.loop c51l2) :: .inBlock 0 :: .code c51s1 :: []) ⟨mk 47 l, rows, low⟩ r ↔ Lc51l2 F cx (lk l 0) (lk l 1) (lk l 6) (lk l 7) (lk l 8) rows low r := loopE (keep := [0, 1, 6, 7, 8]) (by kernel_rfl)
@[simp] theorem uc51l2 : Ex F cx (.code c51l2 :: k) s r ↔ Ex F cx (.code (.seq (.seq c51k23 c51s22) c51s21) :: k) s r := Iff.rfl
def c51b : ICode := (.seq c51k29 c51s28)
@[simp] theorem uc51b : Ex F cx (.code c51b :: k) s r ↔ Ex F cx (.code (.seq c51k29 c51s28) :: k) s r := Iff.rfl
def c51 : IFn := ⟨47, [.t 4, .t 5], c51b⟩
def h51 : List (Nat × List Nat) := [(0, dead 47 [0, 1]), (1, dead 47 [0, 1]), (2, dead 47 [0, 1, 6, 7]), (3, dead 47 [0, 1, 6, 7, 8]), (5, dead 47 [0, 1, 6, 7, 8]), (6, dead 47 [0, 1, 6, 7, 8, 9]), (7, dead 47 [0, 1, 6, 7, 8, 9, 10]), (8, dead 47 [0, 1, 6, 7, 8, 9, 10, 11]), (10, dead 47 [0, 1, 6, 7, 8, 9, 10, 11]), (9, dead 47 [0, 1, 6, 7, 8, 9, 10, 11]), (11, dead 47 [0, 1, 6, 7, 8, 10]), (12, dead 47 [0, 1, 8, 10]), (13, dead 47 [0, 1, 6, 8, 10]), (4, dead 47 [0, 1, 6, 7, 8]), (14, dead 47 [6, 7])]
theorem i51 {x0 x1 : AV} (hF : F 51 = some c51) {q : AV × List Row × Option Nat} (h : Ex F (.fn [.t 4, .t 5]) [.code c51b] ⟨mk 47 [(0, x0), (1, x1)], rows, rows.length⟩ fun r => fin rows r.1 r.2.1 r.2.2 = q) : Ret F 51 [x0, x1] rows = some q := Ret_mk hF h
/-! tosher/tosherlaw08.pairs -/
def c52r0 : List Seg := [
  .one ⟨some 4, .mv (.t 3), none⟩,
  .one ⟨some 5, .mv (.t 0), none⟩,
  .one ⟨some 6, .mv (.t 0), none⟩,
  .one ⟨some 7, .len 0 (.t 6), none⟩,
  .one ⟨some 8, .mn [(.t 7), (.c (.int .i64 11))], none⟩,
  .one ⟨some 9, .sliceS 2 (.t 5) none (some (.t 8)) none, none⟩,
  .one ⟨some 10, .app 2 16 (.t 4) (.t 9), none⟩,
  .one ⟨some 2, .mv (.t 10), none⟩]
def c52k0 : ICode := .kill (dead 11 [0, 3]) (.ops c52r0)
@[simp] theorem uc52k0 : Ex F cx (.code c52k0 :: k) ⟨mk 11 l, rows, low⟩ r ↔ bnd (evP rows (.len 0 (.c (lk l 0)))) fun v0 => bnd (evP rows (.mn [(.c v0), (.c (.int .i64 11))])) fun v1 => bnd (evP rows (.sliceS 2 (.c (lk l 0)) none (some (.c v1)) none)) fun v2 => bnd (evE rows low (.app 2 16 (.c (lk l 3)) (.c v2))) fun q3 => Ex F cx k ⟨mk 11 [(2, q3.1), (10, q3.1), (9, v2), (8, v1), (7, v0), (6, lk l 0), (5, lk l 0), (4, lk l 3), (0, lk l 0), (3, lk l 3)], q3.2.1, q3.2.2⟩ r := reg (keep := [0, 3]) (ops := c52r0) rfl (by kernel_rfl) (by kernel_rfl)
def c52s1 : ICode := (.seq c52k0 .ret)
@[simp] theorem uc52s1 : Ex F cx (.code c52s1 :: k) s r ↔ Ex F cx (.code (.seq c52k0 .ret) :: k) s r := Iff.rfl
def c52r2 : List Seg := [
  .one ⟨some 3, .mv (.c .nilslice), none⟩]
def c52k2 : ICode := .kill (dead 11 [0]) (.ops c52r2)
@[simp] theorem uc52k2 : Ex F cx (.code c52k2 :: k) ⟨mk 11 l, rows, low⟩ r ↔ Ex F cx k ⟨mk 11 [(3, .nilslice), (0, lk l 0)], rows, low⟩ r := reg (keep := [0]) (ops := c52r2) rfl (by kernel_rfl) (by kernel_rfl)
def c52s3 : ICode := (.seq c52k2 c52s1)
@[simp] theorem uc52s3 : Ex F cx (.code c52s3 :: k) s r ↔ Ex F cx (.code (.seq c52k2 c52s1) :: k) s r := Iff.rfl
def c52r4 : List Seg := [
  .one ⟨some 2, .mv (.c .nilslice), none⟩]
def c52k4 : ICode := .kill (dead 11 [0]) (.ops c52r4)
@[simp] theorem uc52k4 : Ex F cx (.code c52k4 :: k) ⟨mk 11 l, rows, low⟩ r ↔ Ex F cx k ⟨mk 11 [(2, .nilslice), (0, lk l 0)], rows, low⟩ r := reg (keep := [0]) (ops := c52r4) rfl (by kernel_rfl) (by kernel_rfl)
def c52b : ICode := (.seq c52k4 c52s3)
@[simp] theorem uc52b : Ex F cx (.code c52b :: k) s r ↔ Ex F cx (.code (.seq c52k4 c52s3) :: k) s r := Iff.rfl
def c52 : IFn := ⟨11, [.t 2], c52b⟩
def h52 : List (Nat × List Nat) := [(0, dead 11 [0]), (1, dead 11 [0]), (2, dead 11 [0, 3])]
theorem i52 {x0 : AV} (hF : F 52 = some c52) {q : AV × List Row × Option Nat} (h : Ex F (.fn [.t 2]) [.code c52b] ⟨mk 11 [(0, x0)], rows, rows.length⟩ fun r => fin rows r.1 r.2.1 r.2.2 = q) : Ret F 52 [x0] rows = some q := Ret_mk hF h
/-! tosher/tosherref08.Tree -/
def c53r0 : List Seg := [
  .one ⟨some 4, .mv (.c (.int .i64 0)), none⟩]
def c53k0 : ICode := .kill (dead 91 []) (.ops c53r0)
@[simp] theorem uc53k0 : Ex F cx (.code c53k0 :: k) ⟨mk 91 l, rows, low⟩ r ↔ Ex F cx k ⟨mk 91 [(4, (.int .i64 0))], rows, low⟩ r := reg (keep := []) (ops := c53r0) rfl (by kernel_rfl) (by kernel_rfl)
def c53s1 : ICode := (.seq c53k0 .ret)
@[simp] theorem uc53s1 : Ex F cx (.code c53s1 :: k) s r ↔ Ex F cx (.code (.seq c53k0 .ret) :: k) s r := Iff.rfl
def c53r2 : List Seg := [
  .one ⟨some 4, .mv (.c (.int .i64 81)), none⟩]
def c53k2 : ICode := .kill (dead 91 []) (.ops c53r2)
@[simp] theorem uc53k2 : Ex F cx (.code c53k2 :: k) ⟨mk 91 l, rows, low⟩ r ↔ Ex F cx k ⟨mk 91 [(4, (.int .i64 81))], rows, low⟩ r := reg (keep := []) (ops := c53r2) rfl (by kernel_rfl) (by kernel_rfl)
def c53s3 : ICode := (.cond (.t 90) (.seq c53k2 .ret) .skip)
@[simp] theorem uc53s3 : Ex F cx (.code c53s3 :: k) s r ↔ Ex F cx (.code (.cond (.t 90) (.seq c53k2 .ret) .skip) :: k) s r := Iff.rfl
def c53r4 : List Seg := [
  .one ⟨some 76, .mv (.t 1), none⟩,
  .one ⟨some 77, .len 0 (.t 76), none⟩,
  .one ⟨some 78, .mv (.t 0), none⟩,
  .one ⟨some 79, .bin .sub (.t 78) (.c (.int .i64 1)), none⟩,
  .one ⟨some 80, .bin .neq (.t 77) (.t 79), none⟩,
  .one ⟨some 81, .mv (.t 80), none⟩,
  .one ⟨some 82, .mv (.t 0), some (81, false)⟩,
  .one ⟨some 83, .mv (.t 1), some (81, false)⟩,
  .one ⟨some 84, .mv (.t 0), some (81, false)⟩,
  .one ⟨some 85, .bin .shl (.c (.int .i64 1)) (.t 84), some (81, false)⟩,
  .one ⟨some 86, .bin .sub (.t 85) (.c (.int .i64 1)), some (81, false)⟩,
  .one ⟨some 87, .call (.c (.func 71 [])) [(.t 82), (.t 83), (.t 86)], some (81, false)⟩,
  .one ⟨some 88, .len 0 (.t 87), some (81, false)⟩,
  .one ⟨some 89, .bin .neq (.t 88) (.c (.int .i64 1)), some (81, false)⟩,
  .one ⟨some 90, .pick (.t 81) (.c (.bool true)) (.t 89), none⟩]
def c53k4 : ICode := .kill (dead 91 [0, 1]) (.ops c53r4)
@[simp] theorem uc53k4 : Ex F cx (.code c53k4 :: k) ⟨mk 91 l, rows, low⟩ r ↔ bnd (evP rows (.len 0 (.c (lk l 1)))) fun v0 => bnd (evP rows (.bin .sub (.c (lk l 0)) (.c (.int .i64 1)))) fun v1 => bnd (evP rows (.bin .neq (.c v0) (.c v1))) fun v2 => bnd (gv v2 false (evP rows (.mv (.c (lk l 0))))) fun v3 => bnd (gv v2 false (evP rows (.mv (.c (lk l 1))))) fun v4 => bnd (gv v2 false (evP rows (.mv (.c (lk l 0))))) fun v5 => bnd (gv v2 false (evP rows (.bin .shl (.c (.int .i64 1)) (.c v5)))) fun v6 => bnd (gv v2 false (evP rows (.bin .sub (.c v6) (.c (.int .i64 1))))) fun v7 => gcall F v2 false rows low [v3, v4, v7] (.func 71 []) fun v8 R8 L8 => bnd (gv v2 false (evP R8 (.len 0 (.c v8)))) fun v9 => bnd (gv v2 false (evP R8 (.bin .neq (.c v9) (.c (.int .i64 1))))) fun v10 => bnd (evP R8 (.pick (.c v2) (.c (.bool true)) (.c v10))) fun v11 => Ex F cx k ⟨mk 91 [(90, v11), (89, v10), (88, v9), (87, v8), (86, v7), (85, v6), (84, v5), (83, v4), (82, v3), (81, v2), (80, v2), (79, v1), (78, lk l 0), (77, v0), (76, lk l 1), (0, lk l 0), (1, lk l 1)], R8, L8⟩ r := reg (keep := [0, 1]) (ops := c53r4) rfl (by kernel_rfl) (by kernel_rfl)
def c53s5 : ICode := (.seq (.seq c53k4 c53s3) c53s1)
@[simp] theorem uc53s5 : Ex F cx (.code c53s5 :: k) s r ↔ Ex F cx (.code (.seq (.seq c53k4 c53s3) c53s1) :: k) s r := Iff.rfl
def c53r7 : List Seg := [
  .one ⟨some 18, .mv (.t 5), none⟩,
  .one ⟨some 19, .bin .add (.t 18) (.c (.int .i64 1)), none⟩,
  .one ⟨some 5, .mv (.t 19), none⟩]
def c53k7 : ICode := .kill (dead 91 [0, 1, 5]) (.ops c53r7)
@[simp] theorem uc53k7 : Ex F cx (.code c53k7 :: k) ⟨mk 91 l, rows, low⟩ r ↔ bnd (evP rows (.bin .add (.c (lk l 5)) (.c (.int .i64 1)))) fun v0 => Ex F cx k ⟨mk 91 [(5, v0), (19, v0), (18, lk l 5), (0, lk l 0), (1, lk l 1), (5, lk l 5)], rows, low⟩ r := reg (keep := [0, 1, 5]) (ops := c53r7) rfl (by kernel_rfl) (by kernel_rfl)
def c53r8 : List Seg := [
  .one ⟨some 4, .mv (.c (.int .i64 81)), none⟩]
def c53k8 : ICode := .kill (dead 91 []) (.ops c53r8)
@[simp] theorem uc53k8 : Ex F cx (.code c53k8 :: k) ⟨mk 91 l, rows, low⟩ r ↔ Ex F cx k ⟨mk 91 [(4, (.int .i64 81))], rows, low⟩ r := reg (keep := []) (ops := c53r8) rfl (by kernel_rfl) (by kernel_rfl)
def c53s9 : ICode := (.cond (.t 75) (.seq c53k8 .ret) .skip)
@[simp] theorem uc53s9 : Ex F cx (.code c53s9 :: k) s r ↔ Ex F cx (.code (.cond (.t 75) (.seq c53k8 .ret) .skip) :: k) s r := Iff.rfl
def c53r10 : List Seg := [
  .one ⟨some 30, .mv (.t 6), none⟩,
  .one ⟨some 31, .bin .lss (.t 30) (.c (.int .i64 0)), none⟩,
  .one ⟨some 32, .mv (.t 31), none⟩,
  .one ⟨some 33, .mv (.t 6), some (32, false)⟩,
  .one ⟨some 34, .mv (.t 7), some (32, false)⟩,
  .one ⟨some 35, .bin .geq (.t 33) (.t 34), some (32, false)⟩,
  .one ⟨some 36, .pick (.t 32) (.c (.bool true)) (.t 35), none⟩,
  .one ⟨some 37, .mv (.t 36), none⟩,
  .one ⟨some 38, .mv (.t 7), some (37, false)⟩,
  .one ⟨some 39, .mv (.t 0), some (37, false)⟩,
  .one ⟨some 40, .bin .geq (.t 38) (.t 39), some (37, false)⟩,
  .one ⟨some 41, .pick (.t 37) (.c (.bool true)) (.t 40), none⟩,
  .one ⟨some 42, .mv (.t 41), none⟩,
  .one ⟨some 43, .mv (.t 5), some (42, false)⟩,
  .one ⟨some 44, .bin .gtr (.t 43) (.c (.int .i64 0)), some (42, false)⟩,
  .one ⟨some 45, .mv (.t 44), some (42, false)⟩,
  .one ⟨some 46, .mv (.t 1), some (45, true)⟩,
  .one ⟨some 47, .mv (.t 5), some (45, true)⟩,
  .one ⟨some 48, .bin .sub (.t 47) (.c (.int .i64 1)), some (45, true)⟩,
  .one ⟨some 49, .idxS 2 (.t 46) (.t 48), some (45, true)⟩,
  .one ⟨some 50, .idxA 2 1 (.t 49) (.c (.int .i64 0)), some (45, true)⟩,
  .one ⟨some 51, .load1 (.t 50), some (45, true)⟩,
  .one ⟨some 52, .mv (.t 6), some (45, true)⟩,
  .one ⟨some 53, .bin .gtr (.t 51) (.t 52), some (45, true)⟩,
  .one ⟨some 54, .mv (.t 53), some (45, true)⟩,
  .one ⟨some 55, .mv (.t 1), some (54, false)⟩,
  .one ⟨some 56, .mv (.t 5), some (54, false)⟩,
  .one ⟨some 57, .bin .sub (.t 56) (.c (.int .i64 1)), some (54, false)⟩,
  .one ⟨some 58, .idxS 2 (.t 55) (.t 57), some (54, false)⟩,
  .one ⟨some 59, .idxA 2 1 (.t 58) (.c (.int .i64 0)), some (54, false)⟩,
  .one ⟨some 60, .load1 (.t 59), some (54, false)⟩,
  .one ⟨some 61, .mv (.t 6), some (54, false)⟩,
  .one ⟨some 62, .bin .eql (.t 60) (.t 61), some (54, false)⟩,
  .one ⟨some 63, .mv (.t 62), some (54, false)⟩,
  .one ⟨some 64, .mv (.t 1), some (63, true)⟩,
  .one ⟨some 65, .mv (.t 5), some (63, true)⟩,
  .one ⟨some 66, .bin .sub (.t 65) (.c (.int .i64 1)), some (63, true)⟩,
  .one ⟨some 67, .idxS 2 (.t 64) (.t 66), some (63, true)⟩,
  .one ⟨some 68, .idxA 2 1 (.t 67) (.c (.int .i64 1)), some (63, true)⟩,
  .one ⟨some 69, .load1 (.t 68), some (63, true)⟩,
  .one ⟨some 70, .mv (.t 7), some (63, true)⟩,
  .one ⟨some 71, .bin .geq (.t 69) (.t 70), some (63, true)⟩,
  .one ⟨some 72, .pick (.t 63) (.t 71) (.c (.bool false)), some (54, false)⟩,
  .one ⟨some 73, .pick (.t 54) (.c (.bool true)) (.t 72), some (45, true)⟩,
  .one ⟨some 74, .pick (.t 45) (.t 73) (.c (.bool false)), some (42, false)⟩,
  .one ⟨some 75, .pick (.t 42) (.c (.bool true)) (.t 74), none⟩]
def c53k10 : ICode := .kill (dead 91 [0, 1, 5, 6, 7]) (.ops c53r10)
@[simp] theorem uc53k10 : Ex F cx (.code c53k10 :: k) ⟨mk 91 l, rows, low⟩ r ↔ bnd (evP rows (.bin .lss (.c (lk l 6)) (.c (.int .i64 0)))) fun v0 => bnd (gv v0 false (evP rows (.mv (.c (lk l 6))))) fun v1 => bnd (gv v0 false (evP rows (.mv (.c (lk l 7))))) fun v2 => bnd (gv v0 false (evP rows (.bin .geq (.c v1) (.c v2)))) fun v3 => bnd (evP rows (.pick (.c v0) (.c (.bool true)) (.c v3))) fun v4 => bnd (gv v4 false (evP rows (.mv (.c (lk l 7))))) fun v5 => bnd (gv v4 false (evP rows (.mv (.c (lk l 0))))) fun v6 => bnd (gv v4 false (evP rows (.bin .geq (.c v5) (.c v6)))) fun v7 => bnd (evP rows (.pick (.c v4) (.c (.bool true)) (.c v7))) fun v8 => bnd (gv v8 false (evP rows (.mv (.c (lk l 5))))) fun v9 => bnd (gv v8 false (evP rows (.bin .gtr (.c v9) (.c (.int .i64 0))))) fun v10 => bnd (gv v8 false (evP rows (.mv (.c v10)))) fun v11 => bnd (gv v11 true (evP rows (.mv (.c (lk l 1))))) fun v12 => bnd (gv v11 true (evP rows (.mv (.c (lk l 5))))) fun v13 => bnd (gv v11 true (evP rows (.bin .sub (.c v13) (.c (.int .i64 1))))) fun v14 => bnd (gv v11 true (evP rows (.idxS 2 (.c v12) (.c v14)))) fun v15 => bnd (gv v11 true (evP rows (.idxA 2 1 (.c v15) (.c (.int .i64 0))))) fun v16 => bnd (gv v11 true (evP rows (.load1 (.c v16)))) fun v17 => bnd (gv v11 true (evP rows (.mv (.c (lk l 6))))) fun v18 => bnd (gv v11 true (evP rows (.bin .gtr (.c v17) (.c v18)))) fun v19 => bnd (gv v11 true (evP rows (.mv (.c v19)))) fun v20 => bnd (gv v20 false (evP rows (.mv (.c (lk l 1))))) fun v21 => bnd (gv v20 false (evP rows (.mv (.c (lk l 5))))) fun v22 => bnd (gv v20 false (evP rows (.bin .sub (.c v22) (.c (.int .i64 1))))) fun v23 => bnd (gv v20 false (evP rows (.idxS 2 (.c v21) (.c v23)))) fun v24 => bnd (gv v20 false (evP rows (.idxA 2 1 (.c v24) (.c (.int .i64 0))))) fun v25 => bnd (gv v20 false (evP rows (.load1 (.c v25)))) fun v26 => bnd (gv v20 false (evP rows (.mv (.c (lk l 6))))) fun v27 => bnd (gv v20 false (evP rows (.bin .eql (.c v26) (.c v27)))) fun v28 => bnd (gv v20 false (evP rows (.mv (.c v28)))) fun v29 => bnd (gv v29 true (evP rows (.mv (.c (lk l 1))))) fun v30 => bnd (gv v29 true (evP rows (.mv (.c (lk l 5))))) fun v31 => bnd (gv v29 true (evP rows (.bin .sub (.c v31) (.c (.int .i64 1))))) fun v32 => bnd (gv v29 true (evP rows (.idxS 2 (.c v30) (.c v32)))) fun v33 => bnd (gv v29 true (evP rows (.idxA 2 1 (.c v33) (.c (.int .i64 1))))) fun v34 => bnd (gv v29 true (evP rows (.load1 (.c v34)))) fun v35 => bnd (gv v29 true (evP rows (.mv (.c (lk l 7))))) fun v36 => bnd (gv v29 true (evP rows (.bin .geq (.c v35) (.c v36)))) fun v37 => bnd (gv v20 false (evP rows (.pick (.c v29) (.c v37) (.c (.bool false))))) fun v38 => bnd (gv v11 true (evP rows (.pick (.c v20) (.c (.bool true)) (.c v38)))) fun v39 => bnd (gv v8 false (evP rows (.pick (.c v11) (.c v39) (.c (.bool false))))) fun v40 => bnd (evP rows (.pick (.c v8) (.c (.bool true)) (.c v40))) fun v41 => Ex F cx k ⟨mk 91 [(75, v41), (74, v40), (73, v39), (72, v38), (71, v37), (70, v36), (69, v35), (68, v34), (67, v33), (66, v32), (65, v31), (64, v30), (63, v29), (62, v28), (61, v27), (60, v26), (59, v25), (58, v24), (57, v23), (56, v22), (55, v21), (54, v20), (53, v19), (52, v18), (51, v17), (50, v16), (49, v15), (48, v14), (47, v13), (46, v12), (45, v11), (44, v10), (43, v9), (42, v8), (41, v8), (40, v7), (39, v6), (38, v5), (37, v4), (36, v4), (35, v3), (34, v2), (33, v1), (32, v0), (31, v0), (30, lk l 6), (0, lk l 0), (1, lk l 1), (5, lk l 5), (6, lk l 6), (7, lk l 7)], rows, low⟩ r := reg (keep := [0, 1, 5, 6, 7]) (ops := c53r10) rfl (by kernel_rfl) (by kernel_rfl)
def c53s11 : ICode := (.seq c53k10 c53s9)
@[simp] theorem uc53s11 : Ex F cx (.code c53s11 :: k) s r ↔ Ex F cx (.code (.seq c53k10 c53s9) :: k) s r := Iff.rfl
def c53r12 : List Seg := [
  .grp [(⟨some 20, .mv (.t 1), none⟩, 0), (⟨some 21, .mv (.t 5), none⟩, 0), (⟨some 22, .idxS 2 (.t 20) (.t 21), none⟩, 3), (⟨some 23, .idxA 2 1 (.t 22) (.c (.int .i64 0)), none⟩, 7), (⟨some 24, .load1 (.t 23), none⟩, 15), (⟨some 25, .mv (.t 1), none⟩, 0), (⟨some 26, .mv (.t 5), none⟩, 0), (⟨some 27, .idxS 2 (.t 25) (.t 26), none⟩, 96), (⟨some 28, .idxA 2 1 (.t 27) (.c (.int .i64 1)), none⟩, 224), (⟨some 29, .load1 (.t 28), none⟩, 480), (⟨some 6, .mv (.t 24), none⟩, 31)],
  .one ⟨some 7, .mv (.t 29), none⟩]
def c53k12 : ICode := .kill (dead 91 [0, 1, 5]) (.ops c53r12)
@[simp] theorem uc53k12 : Ex F cx (.code c53k12 :: k) ⟨mk 91 l, rows, low⟩ r ↔ bnd (evP rows (.idxS 2 (.c (lk l 1)) (.c (lk l 5)))) fun v0 => bnd (evP rows (.idxA 2 1 (.c v0) (.c (.int .i64 0)))) fun v1 => bnd (evP rows (.load1 (.c v1))) fun v2 => bnd (evP rows (.idxS 2 (.c (lk l 1)) (.c (lk l 5)))) fun v3 => bnd (evP rows (.idxA 2 1 (.c v3) (.c (.int .i64 1)))) fun v4 => bnd (evP rows (.load1 (.c v4))) fun v5 => Ex F cx k ⟨mk 91 [(7, v5), (6, v2), (29, v5), (28, v4), (27, v3), (26, lk l 5), (25, lk l 1), (24, v2), (23, v1), (22, v0), (21, lk l 5), (20, lk l 1), (0, lk l 0), (1, lk l 1), (5, lk l 5)], rows, low⟩ r := reg (keep := [0, 1, 5]) (ops := c53r12) rfl (by kernel_rfl) (by kernel_rfl)
def c53s13 : ICode := (.seq (.block 1 (.seq c53k12 c53s11)) c53k7)
@[simp] theorem uc53s13 : Ex F cx (.code c53s13 :: k) s r ↔ Ex F cx (.code (.seq (.block 1 (.seq c53k12 c53s11)) c53k7) :: k) s r := Iff.rfl
def c53s14 : ICode := (.cond (.t 17) .skip (.exit 0))
@[simp] theorem uc53s14 : Ex F cx (.code c53s14 :: k) s r ↔ Ex F cx (.code (.cond (.t 17) .skip (.exit 0)) :: k) s r := Iff.rfl
def c53r15 : List Seg := [
  .one ⟨some 14, .mv (.t 5), none⟩,
  .one ⟨some 15, .mv (.t 1), none⟩,
  .one ⟨some 16, .len 0 (.t 15), none⟩,
  .one ⟨some 17, .bin .lss (.t 14) (.t 16), none⟩]
def c53k15 : ICode := .kill (dead 91 [0, 1, 5]) (.ops c53r15)
@[simp] theorem uc53k15 : Ex F cx (.code c53k15 :: k) ⟨mk 91 l, rows, low⟩ r ↔ bnd (evP rows (.len 0 (.c (lk l 1)))) fun v0 => bnd (evP rows (.bin .lss (.c (lk l 5)) (.c v0))) fun v1 => Ex F cx k ⟨mk 91 [(17, v1), (16, v0), (15, lk l 1), (14, lk l 5), (0, lk l 0), (1, lk l 1), (5, lk l 5)], rows, low⟩ r := reg (keep := [0, 1, 5]) (ops := c53r15) rfl (by kernel_rfl) (by kernel_rfl)
def c53l6 : ICode := (.seq (.seq c53k15 c53s14) c53s13)
def c53s16 : ICode := (.block 0 (.loop c53l6))
@[simp] theorem uc53s16 : Ex F cx (.code c53s16 :: k) s r ↔ Ex F cx (.code (.block 0 (.loop c53l6)) :: k) s r := Iff.rfl
def c53r17 : List Seg := [
  .one ⟨some 5, .mv (.c (.int .i64 0)), none⟩]
def c53k17 : ICode := .kill (dead 91 [0, 1]) (.ops c53r17)
@[simp] theorem uc53k17 : Ex F cx (.code c53k17 :: k) ⟨mk 91 l, rows, low⟩ r ↔ Ex F cx k ⟨mk 91 [(5, (.int .i64 0)), (0, lk l 0), (1, lk l 1)], rows, low⟩ r := reg (keep := [0, 1]) (ops := c53r17) rfl (by kernel_rfl) (by kernel_rfl)
def c53s18 : ICode := (.seq (.seq c53k17 c53s16) c53s5)
@[simp] theorem uc53s18 : Ex F cx (.code c53s18 :: k) s r ↔ Ex F cx (.code (.seq (.seq c53k17 c53s16) c53s5) :: k) s r := Iff.rfl
def c53r19 : List Seg := [
  .one ⟨some 4, .mv (.c (.int .i64 1)), none⟩]
def c53k19 : ICode := .kill (dead 91 []) (.ops c53r19)
@[simp] theorem uc53k19 : Ex F cx (.code c53k19 :: k) ⟨mk 91 l, rows, low⟩ r ↔ Ex F cx k ⟨mk 91 [(4, (.int .i64 1))], rows, low⟩ r := reg (keep := []) (ops := c53r19) rfl (by kernel_rfl) (by kernel_rfl)
def c53s20 : ICode := (.cond (.t 13) (.seq c53k19 .ret) .skip)
@[simp] theorem uc53s20 : Ex F cx (.code c53s20 :: k) s r ↔ Ex F cx (.code (.cond (.t 13) (.seq c53k19 .ret) .skip) :: k) s r := Iff.rfl
def c53r21 : List Seg := [
  .one ⟨some 8, .mv (.t 0), none⟩,
  .one ⟨some 9, .bin .lss (.t 8) (.c (.int .i64 1)), none⟩,
  .one ⟨some 10, .mv (.t 9), none⟩,
  .one ⟨some 11, .mv (.t 0), some (10, false)⟩,
  .one ⟨some 12, .bin .gtr (.t 11) (.c (.int .i64 10)), some (10, false)⟩,
  .one ⟨some 13, .pick (.t 10) (.c (.bool true)) (.t 12), none⟩]
def c53k21 : ICode := .kill (dead 91 [0, 1]) (.ops c53r21)
@[simp] theorem uc53k21 : Ex F cx (.code c53k21 :: k) ⟨mk 91 l, rows, low⟩ r ↔ bnd (evP rows (.bin .lss (.c (lk l 0)) (.c (.int .i64 1)))) fun v0 => bnd (gv v0 false (evP rows (.mv (.c (lk l 0))))) fun v1 => bnd (gv v0 false (evP rows (.bin .gtr (.c v1) (.c (.int .i64 10))))) fun v2 => bnd (evP rows (.pick (.c v0) (.c (.bool true)) (.c v2))) fun v3 => Ex F cx k ⟨mk 91 [(13, v3), (12, v2), (11, v1), (10, v0), (9, v0), (8, lk l 0), (0, lk l 0), (1, lk l 1)], rows, low⟩ r := reg (keep := [0, 1]) (ops := c53r21) rfl (by kernel_rfl) (by kernel_rfl)
def c53s22 : ICode := (.seq (.seq c53k21 c53s20) c53s18)
@[simp] theorem uc53s22 : Ex F cx (.code c53s22 :: k) s r ↔ Ex F cx (.code (.seq (.seq c53k21 c53s20) c53s18) :: k) s r := Iff.rfl
def c53r23 : List Seg := [
  .one ⟨some 4, .mv (.c (.int .i64 0)), none⟩]
def c53k23 : ICode := .kill (dead 91 [0, 1]) (.ops c53r23)
@[simp] theorem uc53k23 : Ex F cx (.code c53k23 :: k) ⟨mk 91 l, rows, low⟩ r ↔ Ex F cx k ⟨mk 91 [(4, (.int .i64 0)), (0, lk l 0), (1, lk l 1)], rows, low⟩ r := reg (keep := [0, 1]) (ops := c53r23) rfl (by kernel_rfl) (by kernel_rfl)
def Jc53s1 (F : Nat → Option IFn) (cx : Ctx) (rows : List Row) (low : Nat) (r : AV × List Row × Nat → Prop) : Prop := Ex F cx (.code c53s1 :: []) ⟨mk 91 [], rows, low⟩ r
theorem jc53s1 : Ex F cx (.code c53s1 :: []) ⟨mk 91 l, rows, low⟩ r ↔ Jc53s1 F cx  rows low r := Ex_canon (keep := []) (by kernel_rfl)
def Jc53s13 (F : Nat → Option IFn) (cx : Ctx) (x0 x1 x5 : AV) (rows : List Row) (low : Nat) (r : AV × List Row × Nat → Prop) : Prop := Ex F cx (.code c53s13 :: .inLoop c53l6 :: .inBlock 0 :: .code c53s5 :: []) ⟨mk 91 [(0, x0), (1, x1), (5, x5)], rows, low⟩ r
theorem jc53s13 : Ex F cx (.code c53s13 :: .inLoop c53l6 :: .inBlock 0 :: .code c53s5 :: []) ⟨mk 91 l, rows, low⟩ r ↔ Jc53s13 F cx (lk l 0) (lk l 1) (lk l 5) rows low r := Ex_canon (keep := [0, 1, 5]) (by kernel_rfl)
def Lc53l6 (F : Nat → Option IFn) (cx : Ctx) (x0 x1 x5 : AV) (rows : List Row) (low : Nat) (r : AV × List Row × Nat → Prop) : Prop := Ex F cx (.code c53l6 :: .inLoop c53l6 :: .inBlock 0 :: .code c53s5 :: []) ⟨mk 91 [(0, x0), (1, x1), (5, x5)], rows, low⟩ r
@[simp] theorem nc53l6 : Ex F cx (.inLoop c53l6 :: .inBlock 0 :: .code c53s5 :: []) ⟨mk 91 l, rows, low⟩ r ↔ Lc53l6 F cx (lk l 0) (lk l 1) (lk l 5) rows low r := loopN (keep := [0, 1, 5]) (by kernel_rfl)
@[simp] theorem ec53l6 : Ex F cx (.code (.loop c53l6) :: .inBlock 0 :: .code c53s5 :: []) ⟨mk 91 l, rows, low⟩ r ↔ Lc53l6 F cx (lk l 0) (lk l 1) (lk l 5) rows low r := loopE (keep := [0, 1, 5]) (by kernel_rfl)
@[simp] theorem uc53l6 : Ex F cx (.code c53l6 :: k) s r ↔ Ex F cx (.code (.seq (.seq c53k15 c53s14) c53s13) :: k) s r := Iff.rfl
def Jc53s18 (F : Nat → Option IFn) (cx : Ctx) (x0 x1 : AV) (rows : List Row) (low : Nat) (r : AV × List Row × Nat → Prop) : Prop := Ex F cx (.code c53s18 :: []) ⟨mk 91 [(0, x0), (1, x1)], rows, low⟩ r
theorem jc53s18 : Ex F cx (.code c53s18 :: []) ⟨mk 91 l, rows, low⟩ r ↔ Jc53s18 F cx (lk l 0) (lk l 1) rows low r := Ex_canon (keep := [0, 1]) (by kernel_rfl)
def c53b : ICode := (.seq c53k23 c53s22)
@[simp] theorem uc53b : Ex F cx (.code c53b :: k) s r ↔ Ex F cx (.code (.seq c53k23 c53s22) :: k) s r := Iff.rfl
def c53 : IFn := ⟨91, [.t 4], c53b⟩
def h53 : List (Nat × List Nat) := [(0, dead 91 [0, 1]), (1, dead 91 [0, 1]), (2, dead 91 []), (3, dead 91 [0, 1]), (4, dead 91 [0, 1, 5]), (6, dead 91 [0, 1, 5]), (7, dead 91 [0, 1, 5, 6, 7]), (8, dead 91 []), (5, dead 91 [0, 1, 5]), (9, dead 91 [0, 1]), (10, dead 91 []), (11, dead 91 [])]
theorem i53 {x0 x1 : AV} (hF : F 53 = some c53) {q : AV × List Row × Option Nat} (h : Ex F (.fn [.t 4]) [.code c53b] ⟨mk 91 [(0, x0), (1, x1)], rows, rows.length⟩ fun r => fin rows r.1 r.2.1 r.2.2 = q) : Ret F 53 [x0, x1] rows = some q := Ret_mk hF h
/-! tosher/search.CheckTree -/
def c54r0 : List Seg := [
  .one ⟨some 13, .mv (.t 6), none⟩,
  .one ⟨some 4, .mv (.t 13), none⟩]
def c54k0 : ICode := .kill (dead 14 [6]) (.ops c54r0)
@[simp] theorem uc54k0 : Ex F cx (.code c54k0 :: k) ⟨mk 14 l, rows, low⟩ r ↔ Ex F cx k ⟨mk 14 [(4, lk l 6), (13, lk l 6), (6, lk l 6)], rows, low⟩ r := reg (keep := [6]) (ops := c54r0) rfl (by kernel_rfl) (by kernel_rfl)
def c54s1 : ICode := (.seq c54k0 .ret)
@[simp] theorem uc54s1 : Ex F cx (.code c54s1 :: k) s r ↔ Ex F cx (.code (.seq c54k0 .ret) :: k) s r := Iff.rfl
def c54r2 : List Seg := [
  .one ⟨some 8, .mv (.t 0), none⟩,
  .one ⟨some 9, .mv (.t 1), none⟩,
  .one ⟨some 10, .call (.c (.func 68 [])) [(.t 8), (.t 9)], none⟩,
  .one ⟨some 7, .mv (.t 10), none⟩,
  .one ⟨some 11, .ext (.t 7) 0, none⟩,
  .one ⟨some 12, .ext (.t 7) 1, none⟩,
  .one ⟨some 5, .mv (.t 11), none⟩,
  .one ⟨some 6, .mv (.t 12), none⟩]
def c54k2 : ICode := .kill (dead 14 [0, 1]) (.ops c54r2)
@[simp] theorem uc54k2 : Ex F cx (.code c54k2 :: k) ⟨mk 14 l, rows, low⟩ r ↔ bnd (Ret F 68 [lk l 0, lk l 1] rows) fun q0 => bnd (evP q0.2.1 (.ext (.c q0.1) 0)) fun v1 => bnd (evP q0.2.1 (.ext (.c q0.1) 1)) fun v2 => Ex F cx k ⟨mk 14 [(6, v2), (5, v1), (12, v2), (11, v1), (7, q0.1), (10, q0.1), (9, lk l 1), (8, lk l 0), (0, lk l 0), (1, lk l 1)], q0.2.1, (lowO low q0.2.2)⟩ r := reg (keep := [0, 1]) (ops := c54r2) rfl (by kernel_rfl) (by kernel_rfl)
def c54s3 : ICode := (.seq c54k2 c54s1)
@[simp] theorem uc54s3 : Ex F cx (.code c54s3 :: k) s r ↔ Ex F cx (.code (.seq c54k2 c54s1) :: k) s r := Iff.rfl
def c54r4 : List Seg := [
  .one ⟨some 4, .mv (.c (.int .i64 0)), none⟩]
def c54k4 : ICode := .kill (dead 14 [0, 1]) (.ops c54r4)
@[simp] theorem uc54k4 : Ex F cx (.code c54k4 :: k) ⟨mk 14 l, rows, low⟩ r ↔ Ex F cx k ⟨mk 14 [(4, (.int .i64 0)), (0, lk l 0), (1, lk l 1)], rows, low⟩ r := reg (keep := [0, 1]) (ops := c54r4) rfl (by kernel_rfl) (by kernel_rfl)
def c54b : ICode := (.seq c54k4 c54s3)
@[simp] theorem uc54b : Ex F cx (.code c54b :: k) s r ↔ Ex F cx (.code (.seq c54k4 c54s3) :: k) s r := Iff.rfl
def c54 : IFn := ⟨14, [.t 4], c54b⟩
def h54 : List (Nat × List Nat) := [(0, dead 14 [0, 1]), (1, dead 14 [0, 1]), (2, dead 14 [6])]
theorem i54 {x0 x1 : AV} (hF : F 54 = some c54) {q : AV × List Row × Option Nat} (h : Ex F (.fn [.t 4]) [.code c54b] ⟨mk 14 [(0, x0), (1, x1)], rows, rows.length⟩ fun r => fin rows r.1 r.2.1 r.2.2 = q) : Ret F 54 [x0, x1] rows = some q := Ret_mk hF h
/-! tosher/search.are -/
def c55r0 : List Seg := [
  .one ⟨some 7, .mv (.t 2), none⟩,
  .one ⟨some 8, .mkfn 82 [(.t 3), (.t 4)], none⟩,
  .one ⟨some 9, .call (.c (.func 81 [])) [(.t 7), (.t 8)], none⟩,
  .one ⟨some 10, .un .not (.t 9), none⟩,
  .one ⟨some 6, .mv (.t 10), none⟩]
def c55k0 : ICode := .kill (dead 11 [2, 3, 4]) (.ops c55r0)
@[simp] theorem uc55k0 : Ex F cx (.code c55k0 :: k) ⟨mk 11 l, rows, low⟩ r ↔ bnd (evP rows (.mkfn 82 [(.c (lk l 3)), (.c (lk l 4))])) fun v0 => bnd (Ret F 81 [lk l 2, v0] rows) fun q1 => bnd (evP q1.2.1 (.un .not (.c q1.1))) fun v2 => Ex F cx k ⟨mk 11 [(6, v2), (10, v2), (9, q1.1), (8, v0), (7, lk l 2), (2, lk l 2), (3, lk l 3), (4, lk l 4)], q1.2.1, (lowO low q1.2.2)⟩ r := reg (keep := [2, 3, 4]) (ops := c55r0) rfl (by kernel_rfl) (by kernel_rfl)
def c55s1 : ICode := (.seq c55k0 .ret)
@[simp] theorem uc55s1 : Ex F cx (.code c55s1 :: k) s r ↔ Ex F cx (.code (.seq c55k0 .ret) :: k) s r := Iff.rfl
def c55r2 : List Seg := [
  .one ⟨some 3, .box (.t 0), none⟩,
  .one ⟨some 4, .box (.t 1), none⟩,
  .one ⟨some 6, .mv (.c (.bool false)), none⟩]
def c55k2 : ICode := .kill (dead 11 [0, 1, 2]) (.ops c55r2)
@[simp] theorem uc55k2 : Ex F cx (.code c55k2 :: k) ⟨mk 11 l, rows, low⟩ r ↔ bnd (evE rows low (.box (.c (lk l 0)))) fun q0 => bnd (evE q0.2.1 q0.2.2 (.box (.c (lk l 1)))) fun q1 => Ex F cx k ⟨mk 11 [(6, (.bool false)), (4, q1.1), (3, q0.1), (0, lk l 0), (1, lk l 1), (2, lk l 2)], q1.2.1, q1.2.2⟩ r := reg (keep := [0, 1, 2]) (ops := c55r2) rfl (by kernel_rfl) (by kernel_rfl)
def c55b : ICode := (.seq c55k2 c55s1)
@[simp] theorem uc55b : Ex F cx (.code c55b :: k) s r ↔ Ex F cx (.code (.seq c55k2 c55s1) :: k) s r := Iff.rfl
def c55 : IFn := ⟨11, [.t 6], c55b⟩
def h55 : List (Nat × List Nat) := [(0, dead 11 [0, 1, 2]), (1, dead 11 [2, 3, 4])]
theorem i55 {x0 x1 x2 : AV} (hF : F 55 = some c55) {q : AV × List Row × Option Nat} (h : Ex F (.fn [.t 6]) [.code c55b] ⟨mk 11 [(0, x0), (1, x1), (2, x2)], rows, rows.length⟩ fun r => fin rows r.1 r.2.1 r.2.2 = q) : Ret F 55 [x0, x1, x2] rows = some q := Ret_mk hF h
/-! tosher/search.steps -/
def c56r0 : List Seg := [
  .one ⟨some 30, .mv (.t 0), none⟩,
  .one ⟨some 31, .idxA 21 1 (.t 5) (.t 30), none⟩,
  .one ⟨some 32, .load1 (.t 31), none⟩,
  .one ⟨some 4, .mv (.t 32), none⟩]
def c56k0 : ICode := .kill (dead 33 [0, 5]) (.ops c56r0)
@[simp] theorem uc56k0 : Ex F cx (.code c56k0 :: k) ⟨mk 33 l, rows, low⟩ r ↔ bnd (evP rows (.idxA 21 1 (.c (lk l 5)) (.c (lk l 0)))) fun v0 => bnd (evP rows (.load1 (.c v0))) fun v1 => Ex F cx k ⟨mk 33 [(4, v1), (32, v1), (31, v0), (30, lk l 0), (0, lk l 0), (5, lk l 5)], rows, low⟩ r := reg (keep := [0, 5]) (ops := c56r0) rfl (by kernel_rfl) (by kernel_rfl)
def c56s1 : ICode := (.seq c56k0 .ret)
@[simp] theorem uc56s1 : Ex F cx (.code c56s1 :: k) s r ↔ Ex F cx (.code (.seq c56k0 .ret) :: k) s r := Iff.rfl
def c56r3 : List Seg := [
  .one ⟨some 29, .bin .add (.t 9) (.c (.int .i64 1)), none⟩,
  .one ⟨some 9, .mv (.t 29), none⟩]
def c56k3 : ICode := .kill (dead 33 [0, 5, 8, 9]) (.ops c56r3)
@[simp] theorem uc56k3 : Ex F cx (.code c56k3 :: k) ⟨mk 33 l, rows, low⟩ r ↔ bnd (evP rows (.bin .add (.c (lk l 9)) (.c (.int .i64 1)))) fun v0 => Ex F cx k ⟨mk 33 [(9, v0), (29, v0), (0, lk l 0), (5, lk l 5), (8, lk l 8), (9, lk l 9)], rows, low⟩ r := reg (keep := [0, 5, 8, 9]) (ops := c56r3) rfl (by kernel_rfl) (by kernel_rfl)
def c56r4 : List Seg := [
  .one ⟨some 28, .loadN 21 (.t 6), none⟩,
  .one ⟨none, .storeN 21 (.t 5) (.t 28), none⟩]
def c56k4 : ICode := .kill (dead 33 [0, 5, 6, 8, 9]) (.ops c56r4)
@[simp] theorem uc56k4 : Ex F cx (.code c56k4 :: k) ⟨mk 33 l, rows, low⟩ r ↔ bnd (evP rows (.loadN 21 (.c (lk l 6)))) fun v0 => bnd (evE rows low (.storeN 21 (.c (lk l 5)) (.c v0))) fun q1 => Ex F cx k ⟨mk 33 [(28, v0), (0, lk l 0), (5, lk l 5), (6, lk l 6), (8, lk l 8), (9, lk l 9)], q1.2.1, q1.2.2⟩ r := reg (keep := [0, 5, 6, 8, 9]) (ops := c56r4) rfl (by kernel_rfl) (by kernel_rfl)
def c56r6 : List Seg := [
  .one ⟨some 15, .mv (.t 7), none⟩,
  .one ⟨some 16, .bin .add (.t 15) (.c (.int .i64 1)), none⟩,
  .one ⟨some 7, .mv (.t 16), none⟩]
def c56k6 : ICode := .kill (dead 33 [0, 5, 6, 7, 8, 9]) (.ops c56r6)
@[simp] theorem uc56k6 : Ex F cx (.code c56k6 :: k) ⟨mk 33 l, rows, low⟩ r ↔ bnd (evP rows (.bin .add (.c (lk l 7)) (.c (.int .i64 1)))) fun v0 => Ex F cx k ⟨mk 33 [(7, v0), (16, v0), (15, lk l 7), (0, lk l 0), (5, lk l 5), (6, lk l 6), (7, lk l 7), (8, lk l 8), (9, lk l 9)], rows, low⟩ r := reg (keep := [0, 5, 6, 7, 8, 9]) (ops := c56r6) rfl (by kernel_rfl) (by kernel_rfl)
def c56r7 : List Seg := [
  .grp [(⟨some 17, .mv (.t 7), none⟩, 0), (⟨some 18, .mv (.t 7), none⟩, 0), (⟨some 19, .bin .sub (.t 18) (.c (.int .i64 1)), none⟩, 2), (⟨some 20, .idxA 21 1 (.t 5) (.t 19), none⟩, 6), (⟨some 21, .load1 (.t 20), none⟩, 14), (⟨some 22, .bin .add (.t 21) (.c (.int .i64 1)), none⟩, 30), (⟨some 23, .mv (.t 7), none⟩, 0), (⟨some 24, .idxA 21 1 (.t 5) (.t 23), none⟩, 64), (⟨some 25, .load1 (.t 24), none⟩, 192), (⟨some 26, .bin .add (.t 22) (.t 25), none⟩, 510)],
  .one ⟨some 27, .idxA 21 1 (.t 6) (.t 17), none⟩,
  .one ⟨none, .store1 (.t 27) (.t 26), none⟩]
def c56k7 : ICode := .kill (dead 33 [0, 5, 6, 7, 8, 9]) (.ops c56r7)
@[simp] theorem uc56k7 : Ex F cx (.code c56k7 :: k) ⟨mk 33 l, rows, low⟩ r ↔ bnd (evP rows (.bin .sub (.c (lk l 7)) (.c (.int .i64 1)))) fun v0 => bnd (evP rows (.idxA 21 1 (.c (lk l 5)) (.c v0))) fun v1 => bnd (evP rows (.load1 (.c v1))) fun v2 => bnd (evP rows (.bin .add (.c v2) (.c (.int .i64 1)))) fun v3 => bnd (evP rows (.idxA 21 1 (.c (lk l 5)) (.c (lk l 7)))) fun v4 => bnd (evP rows (.load1 (.c v4))) fun v5 => bnd (evP rows (.bin .add (.c v3) (.c v5))) fun v6 => bnd (evP rows (.idxA 21 1 (.c (lk l 6)) (.c (lk l 7)))) fun v7 => bnd (evE rows low (.store1 (.c v7) (.c v6))) fun q8 => Ex F cx k ⟨mk 33 [(27, v7), (26, v6), (25, v5), (24, v4), (23, lk l 7), (22, v3), (21, v2), (20, v1), (19, v0), (18, lk l 7), (17, lk l 7), (0, lk l 0), (5, lk l 5), (6, lk l 6), (7, lk l 7), (8, lk l 8), (9, lk l 9)], q8.2.1, q8.2.2⟩ r := reg (keep := [0, 5, 6, 7, 8, 9]) (ops := c56r7) rfl (by kernel_rfl) (by kernel_rfl)
def c56s8 : ICode := (.seq (.block 3 c56k7) c56k6)
@[simp] theorem uc56s8 : Ex F cx (.code c56s8 :: k) s r ↔ Ex F cx (.code (.seq (.block 3 c56k7) c56k6) :: k) s r := Iff.rfl
def c56s9 : ICode := (.cond (.t 14) .skip (.exit 2))
@[simp] theorem uc56s9 : Ex F cx (.code c56s9 :: k) s r ↔ Ex F cx (.code (.cond (.t 14) .skip (.exit 2)) :: k) s r := Iff.rfl
def c56r10 : List Seg := [
  .one ⟨some 12, .mv (.t 7), none⟩,
  .one ⟨some 13, .mv (.t 0), none⟩,
  .one ⟨some 14, .bin .leq (.t 12) (.t 13), none⟩]
def c56k10 : ICode := .kill (dead 33 [0, 5, 6, 7, 8, 9]) (.ops c56r10)
@[simp] theorem uc56k10 : Ex F cx (.code c56k10 :: k) ⟨mk 33 l, rows, low⟩ r ↔ bnd (evP rows (.bin .leq (.c (lk l 7)) (.c (lk l 0)))) fun v0 => Ex F cx k ⟨mk 33 [(14, v0), (13, lk l 0), (12, lk l 7), (0, lk l 0), (5, lk l 5), (6, lk l 6), (7, lk l 7), (8, lk l 8), (9, lk l 9)], rows, low⟩ r := reg (keep := [0, 5, 6, 7, 8, 9]) (ops := c56r10) rfl (by kernel_rfl) (by kernel_rfl)
def c56l5 : ICode := (.seq (.seq c56k10 c56s9) c56s8)
def c56s11 : ICode := (.block 2 (.loop c56l5))
@[simp] theorem uc56s11 : Ex F cx (.code c56s11 :: k) s r ↔ Ex F cx (.code (.block 2 (.loop c56l5)) :: k) s r := Iff.rfl
def c56r12 : List Seg := [
  .one ⟨some 7, .mv (.c (.int .i64 1)), none⟩]
def c56k12 : ICode := .kill (dead 33 [0, 5, 6, 8, 9]) (.ops c56r12)
@[simp] theorem uc56k12 : Ex F cx (.code c56k12 :: k) ⟨mk 33 l, rows, low⟩ r ↔ Ex F cx k ⟨mk 33 [(7, (.int .i64 1)), (0, lk l 0), (5, lk l 5), (6, lk l 6), (8, lk l 8), (9, lk l 9)], rows, low⟩ r := reg (keep := [0, 5, 6, 8, 9]) (ops := c56r12) rfl (by kernel_rfl) (by kernel_rfl)
def c56s13 : ICode := (.seq (.seq c56k12 c56s11) c56k4)
@[simp] theorem uc56s13 : Ex F cx (.code c56s13 :: k) s r ↔ Ex F cx (.code (.seq (.seq c56k12 c56s11) c56k4) :: k) s r := Iff.rfl
def c56r14 : List Seg := [
  .one ⟨some 11, .loadN 21 (.t 5), none⟩,
  .one ⟨some 6, .box (.c (.agg (List.replicate 21 (.int .i64 0)))), none⟩,
  .one ⟨none, .storeN 21 (.t 6) (.t 11), none⟩]
def c56k14 : ICode := .kill (dead 33 [0, 5, 8, 9]) (.ops c56r14)
@[simp] theorem uc56k14 : Ex F cx (.code c56k14 :: k) ⟨mk 33 l, rows, low⟩ r ↔ bnd (evP rows (.loadN 21 (.c (lk l 5)))) fun v0 => bnd (evE rows low (.box (.c (.agg (List.replicate 21 (.int .i64 0)))))) fun q1 => bnd (evE q1.2.1 q1.2.2 (.storeN 21 (.c q1.1) (.c v0))) fun q2 => Ex F cx k ⟨mk 33 [(6, q1.1), (11, v0), (0, lk l 0), (5, lk l 5), (8, lk l 8), (9, lk l 9)], q2.2.1, q2.2.2⟩ r := reg (keep := [0, 5, 8, 9]) (ops := c56r14) rfl (by kernel_rfl) (by kernel_rfl)
def c56s15 : ICode := (.seq (.block 1 (.seq c56k14 c56s13)) c56k3)
@[simp] theorem uc56s15 : Ex F cx (.code c56s15 :: k) s r ↔ Ex F cx (.code (.seq (.block 1 (.seq c56k14 c56s13)) c56k3) :: k) s r := Iff.rfl
def c56s16 : ICode := (.seq (.cond (.t 10) .skip (.exit 0)) c56s15)
@[simp] theorem uc56s16 : Ex F cx (.code c56s16 :: k) s r ↔ Ex F cx (.code (.seq (.cond (.t 10) .skip (.exit 0)) c56s15) :: k) s r := Iff.rfl
def c56r17 : List Seg := [
  .one ⟨some 10, .bin .lss (.t 9) (.t 8), none⟩]
def c56k17 : ICode := .kill (dead 33 [0, 5, 8, 9]) (.ops c56r17)
@[simp] theorem uc56k17 : Ex F cx (.code c56k17 :: k) ⟨mk 33 l, rows, low⟩ r ↔ bnd (evP rows (.bin .lss (.c (lk l 9)) (.c (lk l 8)))) fun v0 => Ex F cx k ⟨mk 33 [(10, v0), (0, lk l 0), (5, lk l 5), (8, lk l 8), (9, lk l 9)], rows, low⟩ r := reg (keep := [0, 5, 8, 9]) (ops := c56r17) rfl (by kernel_rfl) (by kernel_rfl)
def c56l2 : ICode := (.seq c56k17 c56s16)
def c56s18 : ICode := (.block 0 (.loop c56l2))
@[simp] theorem uc56s18 : Ex F cx (.code c56s18 :: k) s r ↔ Ex F cx (.code (.block 0 (.loop c56l2)) :: k) s r := Iff.rfl
def c56r19 : List Seg := [
  .one ⟨some 8, .mv (.t 1), none⟩,
  .one ⟨some 9, .mv (.c (.int .i64 0)), none⟩]
def c56k19 : ICode := .kill (dead 33 [0, 1, 5]) (.ops c56r19)
@[simp] theorem uc56k19 : Ex F cx (.code c56k19 :: k) ⟨mk 33 l, rows, low⟩ r ↔ Ex F cx k ⟨mk 33 [(9, (.int .i64 0)), (8, lk l 1), (0, lk l 0), (1, lk l 1), (5, lk l 5)], rows, low⟩ r := reg (keep := [0, 1, 5]) (ops := c56r19) rfl (by kernel_rfl) (by kernel_rfl)
def c56s20 : ICode := (.seq (.seq c56k19 c56s18) c56s1)
@[simp] theorem uc56s20 : Ex F cx (.code c56s20 :: k) s r ↔ Ex F cx (.code (.seq (.seq c56k19 c56s18) c56s1) :: k) s r := Iff.rfl
def c56r21 : List Seg := [
  .one ⟨some 5, .box (.c (.agg (List.replicate 21 (.int .i64 0)))), none⟩]
def c56k21 : ICode := .kill (dead 33 [0, 1]) (.ops c56r21)
@[simp] theorem uc56k21 : Ex F cx (.code c56k21 :: k) ⟨mk 33 l, rows, low⟩ r ↔ bnd (evE rows low (.box (.c (.agg (List.replicate 21 (.int .i64 0)))))) fun q0 => Ex F cx k ⟨mk 33 [(5, q0.1), (0, lk l 0), (1, lk l 1)], q0.2.1, q0.2.2⟩ r := reg (keep := [0, 1]) (ops := c56r21) rfl (by kernel_rfl) (by kernel_rfl)
def c56s22 : ICode := (.seq c56k21 c56s20)
@[simp] theorem uc56s22 : Ex F cx (.code c56s22 :: k) s r ↔ Ex F cx (.code (.seq c56k21 c56s20) :: k) s r := Iff.rfl
def c56r23 : List Seg := [
  .one ⟨some 4, .mv (.c (.int .i64 0)), none⟩]
def c56k23 : ICode := .kill (dead 33 [0, 1]) (.ops c56r23)
@[simp] theorem uc56k23 : Ex F cx (.code c56k23 :: k) ⟨mk 33 l, rows, low⟩ r ↔ Ex F cx k ⟨mk 33 [(4, (.int .i64 0)), (0, lk l 0), (1, lk l 1)], rows, low⟩ r := reg (keep := [0, 1]) (ops := c56r23) rfl (by kernel_rfl) (by kernel_rfl)
def Jc56s8 (F : Nat → Option IFn) (cx : Ctx) (x0 x5 x6 x7 x8 x9 : AV) (rows : List Row) (low : Nat) (r : AV × List Row × Nat → Prop) : Prop := Ex F cx (.code c56s8 :: .inLoop c56l5 :: .inBlock 2 :: .code c56k4 :: .inBlock 1 :: .code c56k3 :: .inLoop c56l2 :: .inBlock 0 :: .code c56s1 :: []) ⟨mk 33 [(0, x0), (5, x5), (6, x6), (7, x7), (8, x8), (9, x9)], rows, low⟩ r
theorem jc56s8 : Ex F cx (.code c56s8 :: .inLoop c56l5 :: .inBlock 2 :: .code c56k4 :: .inBlock 1 :: .code c56k3 :: .inLoop c56l2 :: .inBlock 0 :: .code c56s1 :: []) ⟨mk 33 l, rows, low⟩ r ↔ Jc56s8 F cx (lk l 0) (lk l 5) (lk l 6) (lk l 7) (lk l 8) (lk l 9) rows low r := Ex_canon (keep := [0, 5, 6, 7, 8, 9]) (by kernel_rfl)
def Lc56l5 (F : Nat → Option IFn) (cx : Ctx) (x0 x5 x6 x7 x8 x9 : AV) (rows : List Row) (low : Nat) (r : AV × List Row × Nat → Prop) : Prop := Ex F cx (.code c56l5 :: .inLoop c56l5 :: .inBlock 2 :: .code c56k4 :: .inBlock 1 :: .code c56k3 :: .inLoop c56l2 :: .inBlock 0 :: .code c56s1 :: []) ⟨mk 33 [(0, x0), (5, x5), (6, x6), (7, x7), (8, x8), (9, x9)], rows, low⟩ r
@[simp] theorem nc56l5 : Ex F cx (.inLoop c56l5 :: .inBlock 2 :: .code c56k4 :: .inBlock 1 :: .code c56k3 :: .inLoop c56l2 :: .inBlock 0 :: .code c56s1 :: []) ⟨mk 33 l, rows, low⟩ r ↔ Lc56l5 F cx (lk l 0) (lk l 5) (lk l 6) (lk l 7) (lk l 8) (lk l 9) rows low r := loopN (keep := [0, 5, 6, 7, 8, 9]) (by kernel_rfl)
@[simp] theorem ec56l5 : Ex F cx (.code (.loop c56l5) :: .inBlock 2 :: .code c56k4 :: .inBlock 1 :: .code c56k3 :: .inLoop c56l2 :: .inBlock 0 :: .code c56s1 :: []) ⟨mk 33 l, rows, low⟩ r ↔ Lc56l5 F cx (lk l 0) (lk l 5) (lk l 6) (lk l 7) (lk l 8) (lk l 9) rows low r := loopE (keep := [0, 5, 6, 7, 8, 9]) (by kernel_rfl)
@[simp] theorem uc56l5 : Ex F cx (.code c56l5 :: k) s r ↔ Ex F cx (.code (.seq (.seq c56k10 c56s9) c56s8) :: k) s r := Iff.rfl
def Jc56s15 (F : Nat → Option IFn) (cx : Ctx) (x0 x5 x8 x9 : AV) (rows : List Row) (low : Nat) (r : AV × List Row × Nat → Prop) : Prop := Ex F cx (.code c56s15 :: .inLoop c56l2 :: .inBlock 0 :: .code c56s1 :: []) ⟨mk 33 [(0, x0), (5, x5), (8, x8), (9, x9)], rows, low⟩ r
theorem jc56s15 : Ex F cx (.code c56s15 :: .inLoop c56l2 :: .inBlock 0 :: .code c56s1 :: []) ⟨mk 33 l, rows, low⟩ r ↔ Jc56s15 F cx (lk l 0) (lk l 5) (lk l 8) (lk l 9) rows low r := Ex_canon (keep := [0, 5, 8, 9]) (by kernel_rfl)
def Lc56l2 (F : Nat → Option IFn) (cx : Ctx) (x0 x5 x8 x9 : AV) (rows : List Row) (low : Nat) (r : AV × List Row × Nat → Prop) : Prop := Ex F cx (.code c56l2 :: .inLoop c56l2 :: .inBlock 0 :: .code c56s1 :: []) ⟨mk 33 [(0, x0), (5, x5), (8, x8), (9, x9)], rows, low⟩ r
@[simp] theorem nc56l2 : Ex F cx (.inLoop c56l2 :: .inBlock 0 :: .code c56s1 :: []) ⟨mk 33 l, rows, low⟩ r ↔ Lc56l2 F cx (lk l 0) (lk l 5) (lk l 8) (lk l 9) rows low r := loopN (keep := [0, 5, 8, 9]) (by kernel_rfl)
@[simp] theorem ec56l2 : Ex F cx (.code (.loop c56l2) :: .inBlock 0 :: .code c56s1 :: []) ⟨mk 33 l, rows, low⟩ r ↔ Lc56l2 F cx (lk l 0) (lk l 5) (lk l 8) (lk l 9) rows low r := loopE (keep := [0, 5, 8, 9]) (by kernel_rfl)
@[simp] theorem uc56l2 : Ex F cx (.code c56l2 :: k) s r ↔ Ex F cx (.code (.seq c56k17 c56s16) :: k) s r := Iff.rfl
def c56b : ICode := (.seq c56k23 c56s22)
@[simp] theorem uc56b : Ex F cx (.code c56b :: k) s r ↔ Ex F cx (.code (.seq c56k23 c56s22) :: k) s r := Iff.rfl
def c56 : IFn := ⟨33, [.t 4], c56b⟩
def h56 : List (Nat × List Nat) := [(0, dead 33 [0, 1]), (1, dead 33 [0, 1]), (2, dead 33 [0, 1, 5]), (3, dead 33 [0, 5, 8, 9]), (4, dead 33 [0, 5, 8, 9]), (5, dead 33 [0, 5, 6, 8, 9]), (6, dead 33 [0, 5, 6, 7, 8, 9]), (8, dead 33 [0, 5, 6, 7, 8, 9]), (7, dead 33 [0, 5, 6, 7, 8, 9]), (9, dead 33 [0, 5, 6, 8, 9]), (10, dead 33 [0, 5, 8, 9]), (11, dead 33 [0, 5])]
theorem i56 {x0 x1 : AV} (hF : F 56 = some c56) {q : AV × List Row × Option Nat} (h : Ex F (.fn [.t 4]) [.code c56b] ⟨mk 33 [(0, x0), (1, x1)], rows, rows.length⟩ fun r => fin rows r.1 r.2.1 r.2.2 = q) : Ret F 56 [x0, x1] rows = some q := Ret_mk hF h
/-! tosher/search.filled -/
def c57r0 : List Seg := [
  .one ⟨some 101, .load1 (.t 5), none⟩,
  .one ⟨some 4, .mv (.t 101), none⟩]
def c57k0 : ICode := .kill (dead 102 [5]) (.ops c57r0)
@[simp] theorem uc57k0 : Ex F cx (.code c57k0 :: k) ⟨mk 102 l, rows, low⟩ r ↔ bnd (evP rows (.load1 (.c (lk l 5)))) fun v0 => Ex F cx k ⟨mk 102 [(4, v0), (101, v0), (5, lk l 5)], rows, low⟩ r := reg (keep := [5]) (ops := c57r0) rfl (by kernel_rfl) (by kernel_rfl)
def c57s1 : ICode := (.seq c57k0 .ret)
@[simp] theorem uc57s1 : Ex F cx (.code c57s1 :: k) s r ↔ Ex F cx (.code (.seq c57k0 .ret) :: k) s r := Iff.rfl
def c57r3 : List Seg := [
  .one ⟨some 19, .mv (.t 6), none⟩,
  .one ⟨some 20, .bin .add (.t 19) (.c (.int .i64 1)), none⟩,
  .one ⟨some 6, .mv (.t 20), none⟩]
def c57k3 : ICode := .kill (dead 102 [0, 3, 4, 5, 6]) (.ops c57r3)
@[simp] theorem uc57k3 : Ex F cx (.code c57k3 :: k) ⟨mk 102 l, rows, low⟩ r ↔ bnd (evP rows (.bin .add (.c (lk l 6)) (.c (.int .i64 1)))) fun v0 => Ex F cx k ⟨mk 102 [(6, v0), (20, v0), (19, lk l 6), (0, lk l 0), (3, lk l 3), (4, lk l 4), (5, lk l 5), (6, lk l 6)], rows, low⟩ r := reg (keep := [0, 3, 4, 5, 6]) (ops := c57r3) rfl (by kernel_rfl) (by kernel_rfl)
def c57r5 : List Seg := [
  .one ⟨some 26, .mv (.t 7), none⟩,
  .one ⟨some 27, .bin .add (.t 26) (.c (.int .i64 1)), none⟩,
  .one ⟨some 7, .mv (.t 27), none⟩]
def c57k5 : ICode := .kill (dead 102 [0, 3, 4, 5, 6, 7]) (.ops c57r5)
@[simp] theorem uc57k5 : Ex F cx (.code c57k5 :: k) ⟨mk 102 l, rows, low⟩ r ↔ bnd (evP rows (.bin .add (.c (lk l 7)) (.c (.int .i64 1)))) fun v0 => Ex F cx k ⟨mk 102 [(7, v0), (27, v0), (26, lk l 7), (0, lk l 0), (3, lk l 3), (4, lk l 4), (5, lk l 5), (6, lk l 6), (7, lk l 7)], rows, low⟩ r := reg (keep := [0, 3, 4, 5, 6, 7]) (ops := c57r5) rfl (by kernel_rfl) (by kernel_rfl)
def c57r7 : List Seg := [
  .one ⟨none, .store1 (.t 9) (.c (.bool false)), none⟩]
def c57k7 : ICode := .kill (dead 102 [9]) (.ops c57r7)
@[simp] theorem uc57k7 : Ex F cx (.code c57k7 :: k) ⟨mk 102 l, rows, low⟩ r ↔ bnd (evE rows low (.store1 (.c (lk l 9)) (.c (.bool false)))) fun q0 => Ex F cx k ⟨mk 102 [(9, lk l 9)], q0.2.1, q0.2.2⟩ r := reg (keep := [9]) (ops := c57r7) rfl (by kernel_rfl) (by kernel_rfl)
def c57r8 : List Seg := [
  .grpw (.t 96) (.t 91) none [(⟨some 81, .load1 (.t 5), none⟩, 0), (⟨some 82, .fieldA 0 (.t 8), none⟩, 0), (⟨some 83, .load1 (.t 82), none⟩, 2), (⟨some 84, .fieldA 1 (.t 8), none⟩, 0), (⟨some 85, .load1 (.t 84), none⟩, 8), (⟨some 86, .load1 (.t 5), none⟩, 0), (⟨some 87, .fieldA 0 (.t 8), none⟩, 0), (⟨some 88, .load1 (.t 87), none⟩, 64), (⟨some 89, .fieldA 1 (.t 8), none⟩, 0), (⟨some 90, .load1 (.t 89), none⟩, 256), (⟨some 91, .mv (.t 13), none⟩, 0), (⟨some 92, .mv (.t 10), none⟩, 0), (⟨some 93, .nilck (.t 81), none⟩, 1), (⟨some 94, .fieldA 0 (.t 93), none⟩, 4097), (⟨some 95, .idxA 13 13 (.t 94) (.t 83), none⟩, 12295), (⟨some 96, .idxA 13 1 (.t 95) (.t 85), none⟩, 29727), (⟨none, .lenc 0, none⟩, 62495), (⟨some 97, .nilck (.t 86), none⟩, 32), (⟨some 98, .fieldA 169 (.t 97), none⟩, 131104), (⟨some 99, .idxA 13 13 (.t 98) (.t 88), none⟩, 393440)],
  .one ⟨some 100, .idxA 13 1 (.t 99) (.t 90), none⟩,
  .one ⟨none, .store1 (.t 100) (.t 92), none⟩]
def c57k8 : ICode := .kill (dead 102 [5, 8, 9, 10, 13]) (.ops c57r8)
@[simp] theorem uc57k8 : Ex F cx (.code c57k8 :: k) s r ↔ Ex F cx (.code (.kill (dead 102 [5, 8, 9, 10, 13]) (.ops c57r8)) :: k) s r := Iff.rfl
@[simp] theorem uc57r8 : Ex F cx (.ops c57r8 :: k) s r ↔ Ex F cx (.ops [
  .grpw (.t 96) (.t 91) none [(⟨some 81, .load1 (.t 5), none⟩, 0), (⟨some 82, .fieldA 0 (.t 8), none⟩, 0), (⟨some 83, .load1 (.t 82), none⟩, 2), (⟨some 84, .fieldA 1 (.t 8), none⟩, 0), (⟨some 85, .load1 (.t 84), none⟩, 8), (⟨some 86, .load1 (.t 5), none⟩, 0), (⟨some 87, .fieldA 0 (.t 8), none⟩, 0), (⟨some 88, .load1 (.t 87), none⟩, 64), (⟨some 89, .fieldA 1 (.t 8), none⟩, 0), (⟨some 90, .load1 (.t 89), none⟩, 256), (⟨some 91, .mv (.t 13), none⟩, 0), (⟨some 92, .mv (.t 10), none⟩, 0), (⟨some 93, .nilck (.t 81), none⟩, 1), (⟨some 94, .fieldA 0 (.t 93), none⟩, 4097), (⟨some 95, .idxA 13 13 (.t 94) (.t 83), none⟩, 12295), (⟨some 96, .idxA 13 1 (.t 95) (.t 85), none⟩, 29727), (⟨none, .lenc 0, none⟩, 62495), (⟨some 97, .nilck (.t 86), none⟩, 32), (⟨some 98, .fieldA 169 (.t 97), none⟩, 131104), (⟨some 99, .idxA 13 13 (.t 98) (.t 88), none⟩, 393440)],
  .one ⟨some 100, .idxA 13 1 (.t 99) (.t 90), none⟩,
  .one ⟨none, .store1 (.t 100) (.t 92), none⟩] :: k) s r := Iff.rfl
def c57s9 : ICode := (.cond (.t 80) c57k8 .skip)
@[simp] theorem uc57s9 : Ex F cx (.code c57s9 :: k) s r ↔ Ex F cx (.code (.cond (.t 80) c57k8 .skip) :: k) s r := Iff.rfl
def c57r10 : List Seg := [
  .one ⟨some 66, .load1 (.t 9), none⟩,
  .one ⟨some 67, .mv (.t 66), none⟩,
  .grp [(⟨some 68, .mv (.t 13), some (67, false)⟩, 0), (⟨some 69, .load1 (.t 5), some (67, false)⟩, 0), (⟨some 70, .fieldA 0 (.t 8), some (67, false)⟩, 0), (⟨some 71, .load1 (.t 70), some (67, false)⟩, 4), (⟨some 72, .fieldA 1 (.t 8), some (67, false)⟩, 0), (⟨some 73, .load1 (.t 72), some (67, false)⟩, 16), (⟨some 74, .nilck (.t 69), some (67, false)⟩, 2), (⟨some 75, .fieldA 0 (.t 74), some (67, false)⟩, 66), (⟨some 76, .idxA 13 13 (.t 75) (.t 71), some (67, false)⟩, 206), (⟨some 77, .idxA 13 1 (.t 76) (.t 73), some (67, false)⟩, 510), (⟨some 78, .load1 (.t 77), some (67, false)⟩, 1022)],
  .one ⟨some 79, .bin .lss (.t 68) (.t 78), some (67, false)⟩,
  .one ⟨some 80, .pick (.t 67) (.c (.bool true)) (.t 79), none⟩]
def c57k10 : ICode := .kill (dead 102 [5, 8, 9, 10, 13]) (.ops c57r10)
@[simp] theorem uc57k10 : Ex F cx (.code c57k10 :: k) ⟨mk 102 l, rows, low⟩ r ↔ bnd (evP rows (.load1 (.c (lk l 9)))) fun v0 => bnd (gv v0 false (evP rows (.mv (.c (lk l 13))))) fun v1 => bnd (gv v0 false (evP rows (.load1 (.c (lk l 5))))) fun v2 => bnd (gv v0 false (evP rows (.fieldA 0 (.c (lk l 8))))) fun v3 => bnd (gv v0 false (evP rows (.load1 (.c v3)))) fun v4 => bnd (gv v0 false (evP rows (.fieldA 1 (.c (lk l 8))))) fun v5 => bnd (gv v0 false (evP rows (.load1 (.c v5)))) fun v6 => bnd (gv v0 false (evP rows (.nilck (.c v2)))) fun v7 => bnd (gv v0 false (evP rows (.fieldA 0 (.c v7)))) fun v8 => bnd (gv v0 false (evP rows (.idxA 13 13 (.c v8) (.c v4)))) fun v9 => bnd (gv v0 false (evP rows (.idxA 13 1 (.c v9) (.c v6)))) fun v10 => bnd (gv v0 false (evP rows (.load1 (.c v10)))) fun v11 => bnd (gv v0 false (evP rows (.bin .lss (.c v1) (.c v11)))) fun v12 => bnd (evP rows (.pick (.c v0) (.c (.bool true)) (.c v12))) fun v13 => Ex F cx k ⟨mk 102 [(80, v13), (79, v12), (78, v11), (77, v10), (76, v9), (75, v8), (74, v7), (73, v6), (72, v5), (71, v4), (70, v3), (69, v2), (68, v1), (67, v0), (66, v0), (5, lk l 5), (8, lk l 8), (9, lk l 9), (10, lk l 10), (13, lk l 13)], rows, low⟩ r := reg (keep := [5, 8, 9, 10, 13]) (ops := c57r10) rfl (by kernel_rfl) (by kernel_rfl)
def c57s11 : ICode := (.seq (.seq c57k10 c57s9) c57k7)
@[simp] theorem uc57s11 : Ex F cx (.code c57s11 :: k) s r ↔ Ex F cx (.code (.seq (.seq c57k10 c57s9) c57k7) :: k) s r := Iff.rfl
def c57r12 : List Seg := [
  .grp [(⟨some 42, .load1 (.t 3), none⟩, 0), (⟨some 43, .loadN 2 (.t 8), none⟩, 0), (⟨some 44, .mv (.t 10), none⟩, 0), (⟨some 45, .load1 (.t 5), none⟩, 0), (⟨some 46, .fieldA 0 (.t 11), none⟩, 0), (⟨some 47, .load1 (.t 46), none⟩, 16), (⟨some 48, .fieldA 1 (.t 11), none⟩, 0), (⟨some 49, .load1 (.t 48), none⟩, 64), (⟨some 50, .nilck (.t 45), none⟩, 8), (⟨some 51, .fieldA 0 (.t 50), none⟩, 264), (⟨some 52, .idxA 13 13 (.t 51) (.t 47), none⟩, 824), (⟨some 53, .idxA 13 1 (.t 52) (.t 49), none⟩, 2040), (⟨some 54, .load1 (.t 53), none⟩, 4088), (⟨some 55, .load1 (.t 5), none⟩, 0), (⟨some 56, .fieldA 0 (.t 12), none⟩, 0), (⟨some 57, .load1 (.t 56), none⟩, 16384), (⟨some 58, .fieldA 1 (.t 12), none⟩, 0), (⟨some 59, .load1 (.t 58), none⟩, 65536), (⟨some 60, .nilck (.t 55), none⟩, 8192), (⟨some 61, .fieldA 0 (.t 60), none⟩, 270336), (⟨some 62, .idxA 13 13 (.t 61) (.t 57), none⟩, 843776), (⟨some 63, .idxA 13 1 (.t 62) (.t 59), none⟩, 2088960), (⟨some 64, .load1 (.t 63), none⟩, 4186112)],
  .one ⟨some 65, .call (.t 42) [(.t 43), (.t 44), (.t 54), (.t 64)], none⟩,
  .one ⟨some 13, .mv (.t 65), none⟩]
def c57k12 : ICode := .kill (dead 102 [3, 5, 8, 9, 10, 11, 12]) (.ops c57r12)
@[simp] theorem uc57k12 : Ex F cx (.code c57k12 :: k) ⟨mk 102 l, rows, low⟩ r ↔ bnd (evP rows (.load1 (.c (lk l 3)))) fun v0 => bnd (evP rows (.loadN 2 (.c (lk l 8)))) fun v1 => bnd (evP rows (.load1 (.c (lk l 5)))) fun v2 => bnd (evP rows (.fieldA 0 (.c (lk l 11)))) fun v3 => bnd (evP rows (.load1 (.c v3))) fun v4 => bnd (evP rows (.fieldA 1 (.c (lk l 11)))) fun v5 => bnd (evP rows (.load1 (.c v5))) fun v6 => bnd (evP rows (.nilck (.c v2))) fun v7 => bnd (evP rows (.fieldA 0 (.c v7))) fun v8 => bnd (evP rows (.idxA 13 13 (.c v8) (.c v4))) fun v9 => bnd (evP rows (.idxA 13 1 (.c v9) (.c v6))) fun v10 => bnd (evP rows (.load1 (.c v10))) fun v11 => bnd (evP rows (.load1 (.c (lk l 5)))) fun v12 => bnd (evP rows (.fieldA 0 (.c (lk l 12)))) fun v13 => bnd (evP rows (.load1 (.c v13))) fun v14 => bnd (evP rows (.fieldA 1 (.c (lk l 12)))) fun v15 => bnd (evP rows (.load1 (.c v15))) fun v16 => bnd (evP rows (.nilck (.c v12))) fun v17 => bnd (evP rows (.fieldA 0 (.c v17))) fun v18 => bnd (evP rows (.idxA 13 13 (.c v18) (.c v14))) fun v19 => bnd (evP rows (.idxA 13 1 (.c v19) (.c v16))) fun v20 => bnd (evP rows (.load1 (.c v20))) fun v21 => callK F rows low [v1, lk l 10, v11, v21] (fun v22 R22 L22 => Ex F cx k ⟨mk 102 [(13, v22), (65, v22), (64, v21), (63, v20), (62, v19), (61, v18), (60, v17), (59, v16), (58, v15), (57, v14), (56, v13), (55, v12), (54, v11), (53, v10), (52, v9), (51, v8), (50, v7), (49, v6), (48, v5), (47, v4), (46, v3), (45, v2), (44, lk l 10), (43, v1), (42, v0), (3, lk l 3), (5, lk l 5), (8, lk l 8), (9, lk l 9), (10, lk l 10), (11, lk l 11), (12, lk l 12)], R22, L22⟩ r) v0 := reg (keep := [3, 5, 8, 9, 10, 11, 12]) (ops := c57r12) rfl (by kernel_rfl) (by kernel_rfl)
def c57s13 : ICode := (.seq c57k12 c57s11)
@[simp] theorem uc57s13 : Ex F cx (.code c57s13 :: k) s r ↔ Ex F cx (.code (.seq c57k12 c57s11) :: k) s r := Iff.rfl
def c57r14 : List Seg := [
  .grp [(⟨some 36, .loadN 2 (.t 8), none⟩, 0), (⟨some 37, .mv (.t 10), none⟩, 0), (⟨some 38, .call (.c (.func 84 [])) [(.t 36), (.t 37)], none⟩, 3), (⟨some 39, .loadN 2 (.t 8), none⟩, 0), (⟨some 40, .mv (.t 10), none⟩, 0), (⟨some 41, .call (.c (.func 85 [])) [(.t 39), (.t 40)], none⟩, 31), (⟨some 11, .box (.c (.agg [.int .i64 0, .int .i64 0])), none⟩, 0), (⟨some 12, .box (.c (.agg [.int .i64 0, .int .i64 0])), none⟩, 0)],
  .one ⟨none, .storeN 2 (.t 11) (.t 38), none⟩,
  .one ⟨none, .storeN 2 (.t 12) (.t 41), none⟩]
def c57k14 : ICode := .kill (dead 102 [3, 5, 8, 9, 10]) (.ops c57r14)
@[simp] theorem uc57k14 : Ex F cx (.code c57k14 :: k) ⟨mk 102 l, rows, low⟩ r ↔ bnd (evP (rows ++ maskE 0 ([] : List (Nat × Row))) (.loadN 2 (.c (lk l 8)))) fun v0 => bnd (opC F (rows ++ maskE 3 ([] : List (Nat × Row))) (rows.length + ([] : List (Nat × Row)).length) [v0, lk l 10] (.func 84 [])) fun q1 => q1.2.2 = rows.length + ([] : List (Nat × Row)).length ∧ bnd (some (([] : List (Nat × Row)) ++ List.map (fun (x : Row) => (2, x)) (q1.2.1.drop (rows.length + ([] : List (Nat × Row)).length)))) fun e1 => bnd (evP (rows ++ maskE 0 e1) (.loadN 2 (.c (lk l 8)))) fun v2 => bnd (opC F (rows ++ maskE 31 e1) (rows.length + e1.length) [v2, lk l 10] (.func 85 [])) fun q3 => q3.2.2 = rows.length + e1.length ∧ bnd (some (e1 ++ List.map (fun (x : Row) => (5, x)) (q3.2.1.drop (rows.length + e1.length)))) fun e3 => bnd (evE (rows ++ maskE 0 e3) (rows.length + e3.length) (.box (.c (.agg [.int .i64 0, .int .i64 0])))) fun q4 => q4.2.2 = rows.length + e3.length ∧ bnd (some (e3 ++ List.map (fun (x : Row) => (6, x)) (q4.2.1.drop (rows.length + e3.length)))) fun e4 => bnd (evE (rows ++ maskE 0 e4) (rows.length + e4.length) (.box (.c (.agg [.int .i64 0, .int .i64 0])))) fun q5 => q5.2.2 = rows.length + e4.length ∧ bnd (some (e4 ++ List.map (fun (x : Row) => (7, x)) (q5.2.1.drop (rows.length + e4.length)))) fun e5 => bnd (evE (rows ++ List.map (fun (x : Nat × Row) => x.2) e5) low (.storeN 2 (.c q4.1) (.c q1.1))) fun q6 => bnd (evE q6.2.1 q6.2.2 (.storeN 2 (.c q5.1) (.c q3.1))) fun q7 => Ex F cx k ⟨mk 102 [(12, q5.1), (11, q4.1), (41, q3.1), (40, lk l 10), (39, v2), (38, q1.1), (37, lk l 10), (36, v0), (3, lk l 3), (5, lk l 5), (8, lk l 8), (9, lk l 9), (10, lk l 10)], q7.2.1, q7.2.2⟩ r := reg (keep := [3, 5, 8, 9, 10]) (ops := c57r14) rfl (by kernel_rfl) (by kernel_rfl)
def c57r15 : List Seg := [
  .one ⟨some 10, .mv (.t 35), none⟩]
def c57k15 : ICode := .kill (dead 102 [3, 5, 8, 9, 35]) (.ops c57r15)
@[simp] theorem uc57k15 : Ex F cx (.code c57k15 :: k) ⟨mk 102 l, rows, low⟩ r ↔ Ex F cx k ⟨mk 102 [(10, lk l 35), (3, lk l 3), (5, lk l 5), (8, lk l 8), (9, lk l 9), (35, lk l 35)], rows, low⟩ r := reg (keep := [3, 5, 8, 9, 35]) (ops := c57r15) rfl (by kernel_rfl) (by kernel_rfl)
def c57f6a : ICode := c57k15
@[simp] theorem uc57f6a : Ex F cx (.code c57f6a :: k) s r ↔ Ex F cx (.code c57k15 :: k) s r := Iff.rfl
def c57f6b : ICode := (.block 5 (.seq c57k14 c57s13))
@[simp] theorem uc57f6b : Ex F cx (.code c57f6b :: k) s r ↔ Ex F cx (.code (.block 5 (.seq c57k14 c57s13)) :: k) s r := Iff.rfl
def c57s16 : ICode := (.block 4 (.rf (.t 34) [35] c57f6a c57f6b))
@[simp] theorem uc57s16 : Ex F cx (.code c57s16 :: k) s r ↔ Ex F cx (.code (.block 4 (.rf (.t 34) [35] c57f6a c57f6b)) :: k) s r := Iff.rfl
def c57r17 : List Seg := [
  .one ⟨some 33, .loadN 2 (.t 8), none⟩,
  .one ⟨some 34, .call (.c (.func 83 [])) [(.t 33)], none⟩]
def c57k17 : ICode := .kill (dead 102 [0, 3, 4, 5, 6, 7, 8, 9]) (.ops c57r17)
@[simp] theorem uc57k17 : Ex F cx (.code c57k17 :: k) ⟨mk 102 l, rows, low⟩ r ↔ bnd (evP rows (.loadN 2 (.c (lk l 8)))) fun v0 => bnd (Ret F 83 [v0] rows) fun q1 => Ex F cx k ⟨mk 102 [(34, q1.1), (33, v0), (0, lk l 0), (3, lk l 3), (4, lk l 4), (5, lk l 5), (6, lk l 6), (7, lk l 7), (8, lk l 8), (9, lk l 9)], q1.2.1, (lowO low q1.2.2)⟩ r := reg (keep := [0, 3, 4, 5, 6, 7, 8, 9]) (ops := c57r17) rfl (by kernel_rfl) (by kernel_rfl)
def c57s18 : ICode := (.seq c57k17 c57s16)
@[simp] theorem uc57s18 : Ex F cx (.code c57s18 :: k) s r ↔ Ex F cx (.code (.seq c57k17 c57s16) :: k) s r := Iff.rfl
def c57r19 : List Seg := [
  .one ⟨some 9, .box (.c (.bool false)), none⟩,
  .one ⟨none, .store1 (.t 9) (.c (.bool true)), none⟩]
def c57k19 : ICode := .kill (dead 102 [0, 3, 4, 5, 6, 7, 8]) (.ops c57r19)
@[simp] theorem uc57k19 : Ex F cx (.code c57k19 :: k) ⟨mk 102 l, rows, low⟩ r ↔ bnd (evE rows low (.box (.c (.bool false)))) fun q0 => bnd (evE q0.2.1 q0.2.2 (.store1 (.c q0.1) (.c (.bool true)))) fun q1 => Ex F cx k ⟨mk 102 [(9, q0.1), (0, lk l 0), (3, lk l 3), (4, lk l 4), (5, lk l 5), (6, lk l 6), (7, lk l 7), (8, lk l 8)], q1.2.1, q1.2.2⟩ r := reg (keep := [0, 3, 4, 5, 6, 7, 8]) (ops := c57r19) rfl (by kernel_rfl) (by kernel_rfl)
def c57s20 : ICode := (.seq c57k19 c57s18)
@[simp] theorem uc57s20 : Ex F cx (.code c57s20 :: k) s r ↔ Ex F cx (.code (.seq c57k19 c57s18) :: k) s r := Iff.rfl
def c57r21 : List Seg := [
  .one ⟨some 28, .mv (.t 7), none⟩,
  .one ⟨some 29, .mv (.t 7), none⟩,
  .one ⟨some 30, .mv (.t 6), none⟩,
  .one ⟨some 31, .bin .add (.t 29) (.t 30), none⟩,
  .one ⟨some 32, .mkagg [.int .i64 0, .int .i64 0] [(0, 1, (.t 28)), (1, 1, (.t 31))], none⟩,
  .one ⟨some 8, .box (.c (.agg [.int .i64 0, .int .i64 0])), none⟩,
  .one ⟨none, .storeN 2 (.t 8) (.t 32), none⟩]
def c57k21 : ICode := .kill (dead 102 [0, 3, 4, 5, 6, 7]) (.ops c57r21)
@[simp] theorem uc57k21 : Ex F cx (.code c57k21 :: k) ⟨mk 102 l, rows, low⟩ r ↔ bnd (evP rows (.bin .add (.c (lk l 7)) (.c (lk l 6)))) fun v0 => bnd (evP rows (.mkagg [.int .i64 0, .int .i64 0] [(0, 1, (.c (lk l 7))), (1, 1, (.c v0))])) fun v1 => bnd (evE rows low (.box (.c (.agg [.int .i64 0, .int .i64 0])))) fun q2 => bnd (evE q2.2.1 q2.2.2 (.storeN 2 (.c q2.1) (.c v1))) fun q3 => Ex F cx k ⟨mk 102 [(8, q2.1), (32, v1), (31, v0), (30, lk l 6), (29, lk l 7), (28, lk l 7), (0, lk l 0), (3, lk l 3), (4, lk l 4), (5, lk l 5), (6, lk l 6), (7, lk l 7)], q3.2.1, q3.2.2⟩ r := reg (keep := [0, 3, 4, 5, 6, 7]) (ops := c57r21) rfl (by kernel_rfl) (by kernel_rfl)
def c57s22 : ICode := (.seq (.block 3 (.seq c57k21 c57s20)) c57k5)
@[simp] theorem uc57s22 : Ex F cx (.code c57s22 :: k) s r ↔ Ex F cx (.code (.seq (.block 3 (.seq c57k21 c57s20)) c57k5) :: k) s r := Iff.rfl
def c57s23 : ICode := (.cond (.t 25) .skip (.exit 2))
@[simp] theorem uc57s23 : Ex F cx (.code c57s23 :: k) s r ↔ Ex F cx (.code (.cond (.t 25) .skip (.exit 2)) :: k) s r := Iff.rfl
def c57r24 : List Seg := [
  .one ⟨some 21, .mv (.t 7), none⟩,
  .one ⟨some 22, .mv (.t 6), none⟩,
  .one ⟨some 23, .bin .add (.t 21) (.t 22), none⟩,
  .one ⟨some 24, .mv (.t 0), none⟩,
  .one ⟨some 25, .bin .leq (.t 23) (.t 24), none⟩]
def c57k24 : ICode := .kill (dead 102 [0, 3, 4, 5, 6, 7]) (.ops c57r24)
@[simp] theorem uc57k24 : Ex F cx (.code c57k24 :: k) ⟨mk 102 l, rows, low⟩ r ↔ bnd (evP rows (.bin .add (.c (lk l 7)) (.c (lk l 6)))) fun v0 => bnd (evP rows (.bin .leq (.c v0) (.c (lk l 0)))) fun v1 => Ex F cx k ⟨mk 102 [(25, v1), (24, lk l 0), (23, v0), (22, lk l 6), (21, lk l 7), (0, lk l 0), (3, lk l 3), (4, lk l 4), (5, lk l 5), (6, lk l 6), (7, lk l 7)], rows, low⟩ r := reg (keep := [0, 3, 4, 5, 6, 7]) (ops := c57r24) rfl (by kernel_rfl) (by kernel_rfl)
def c57l4 : ICode := (.seq (.seq c57k24 c57s23) c57s22)
def c57s25 : ICode := (.block 2 (.loop c57l4))
@[simp] theorem uc57s25 : Ex F cx (.code c57s25 :: k) s r ↔ Ex F cx (.code (.block 2 (.loop c57l4)) :: k) s r := Iff.rfl
def c57r26 : List Seg := [
  .one ⟨some 7, .mv (.c (.int .i64 0)), none⟩]
def c57k26 : ICode := .kill (dead 102 [0, 3, 4, 5, 6]) (.ops c57r26)
@[simp] theorem uc57k26 : Ex F cx (.code c57k26 :: k) ⟨mk 102 l, rows, low⟩ r ↔ Ex F cx k ⟨mk 102 [(7, (.int .i64 0)), (0, lk l 0), (3, lk l 3), (4, lk l 4), (5, lk l 5), (6, lk l 6)], rows, low⟩ r := reg (keep := [0, 3, 4, 5, 6]) (ops := c57r26) rfl (by kernel_rfl) (by kernel_rfl)
def c57s27 : ICode := (.seq (.block 1 (.seq c57k26 c57s25)) c57k3)
@[simp] theorem uc57s27 : Ex F cx (.code c57s27 :: k) s r ↔ Ex F cx (.code (.seq (.block 1 (.seq c57k26 c57s25)) c57k3) :: k) s r := Iff.rfl
def c57s28 : ICode := (.cond (.t 18) .skip (.exit 0))
@[simp] theorem uc57s28 : Ex F cx (.code c57s28 :: k) s r ↔ Ex F cx (.code (.cond (.t 18) .skip (.exit 0)) :: k) s r := Iff.rfl
def c57r29 : List Seg := [
  .one ⟨some 16, .mv (.t 6), none⟩,
  .one ⟨some 17, .mv (.t 0), none⟩,
  .one ⟨some 18, .bin .leq (.t 16) (.t 17), none⟩]
def c57k29 : ICode := .kill (dead 102 [0, 3, 4, 5, 6]) (.ops c57r29)
@[simp] theorem uc57k29 : Ex F cx (.code c57k29 :: k) ⟨mk 102 l, rows, low⟩ r ↔ bnd (evP rows (.bin .leq (.c (lk l 6)) (.c (lk l 0)))) fun v0 => Ex F cx k ⟨mk 102 [(18, v0), (17, lk l 0), (16, lk l 6), (0, lk l 0), (3, lk l 3), (4, lk l 4), (5, lk l 5), (6, lk l 6)], rows, low⟩ r := reg (keep := [0, 3, 4, 5, 6]) (ops := c57r29) rfl (by kernel_rfl) (by kernel_rfl)
def c57l2 : ICode := (.seq (.seq c57k29 c57s28) c57s27)
def c57s30 : ICode := (.block 0 (.loop c57l2))
@[simp] theorem uc57s30 : Ex F cx (.code c57s30 :: k) s r ↔ Ex F cx (.code (.block 0 (.loop c57l2)) :: k) s r := Iff.rfl
def c57r31 : List Seg := [
  .one ⟨some 6, .mv (.c (.int .i64 1)), none⟩]
def c57k31 : ICode := .kill (dead 102 [0, 3, 4, 5]) (.ops c57r31)
@[simp] theorem uc57k31 : Ex F cx (.code c57k31 :: k) ⟨mk 102 l, rows, low⟩ r ↔ Ex F cx k ⟨mk 102 [(6, (.int .i64 1)), (0, lk l 0), (3, lk l 3), (4, lk l 4), (5, lk l 5)], rows, low⟩ r := reg (keep := [0, 3, 4, 5]) (ops := c57r31) rfl (by kernel_rfl) (by kernel_rfl)
def c57s32 : ICode := (.seq (.seq c57k31 c57s30) c57s1)
@[simp] theorem uc57s32 : Ex F cx (.code c57s32 :: k) s r ↔ Ex F cx (.code (.seq (.seq c57k31 c57s30) c57s1) :: k) s r := Iff.rfl
def c57r33 : List Seg := [
  .one ⟨some 14, .mkagg (List.replicate 338 (.int .i64 0)) [], none⟩,
  .one ⟨some 15, .box (.t 14), none⟩,
  .one ⟨some 5, .box (.c .nilptr), none⟩,
  .one ⟨none, .store1 (.t 5) (.t 15), none⟩]
def c57k33 : ICode := .kill (dead 102 [0, 3, 4]) (.ops c57r33)
@[simp] theorem uc57k33 : Ex F cx (.code c57k33 :: k) ⟨mk 102 l, rows, low⟩ r ↔ bnd (evP rows (.mkagg (List.replicate 338 (.int .i64 0)) [])) fun v0 => bnd (evE rows low (.box (.c v0))) fun q1 => bnd (evE q1.2.1 q1.2.2 (.box (.c .nilptr))) fun q2 => bnd (evE q2.2.1 q2.2.2 (.store1 (.c q2.1) (.c q1.1))) fun q3 => Ex F cx k ⟨mk 102 [(5, q2.1), (15, q1.1), (14, v0), (0, lk l 0), (3, lk l 3), (4, lk l 4)], q3.2.1, q3.2.2⟩ r := reg (keep := [0, 3, 4]) (ops := c57r33) rfl (by kernel_rfl) (by kernel_rfl)
def c57s34 : ICode := (.seq c57k33 c57s32)
@[simp] theorem uc57s34 : Ex F cx (.code c57s34 :: k) s r ↔ Ex F cx (.code (.seq c57k33 c57s32) :: k) s r := Iff.rfl
def c57r35 : List Seg := [
  .one ⟨some 3, .box (.t 1), none⟩,
  .one ⟨some 4, .mv (.c .nilptr), none⟩]
def c57k35 : ICode := .kill (dead 102 [0, 1]) (.ops c57r35)
@[simp] theorem uc57k35 : Ex F cx (.code c57k35 :: k) ⟨mk 102 l, rows, low⟩ r ↔ bnd (evE rows low (.box (.c (lk l 1)))) fun q0 => Ex F cx k ⟨mk 102 [(4, .nilptr), (3, q0.1), (0, lk l 0), (1, lk l 1)], q0.2.1, q0.2.2⟩ r := reg (keep := [0, 1]) (ops := c57r35) rfl (by kernel_rfl) (by kernel_rfl)
def Jc57s22 (F : Nat → Option IFn) (cx : Ctx) (x0 x3 x4 x5 x6 x7 : AV) (rows : List Row) (low : Nat) (r : AV × List Row × Nat → Prop) : Prop := Ex F cx (.code c57s22 :: .inLoop c57l4 :: .inBlock 2 :: .inBlock 1 :: .code c57k3 :: .inLoop c57l2 :: .inBlock 0 :: .code c57s1 :: []) ⟨mk 102 [(0, x0), (3, x3), (4, x4), (5, x5), (6, x6), (7, x7)], rows, low⟩ r
theorem jc57s22 : Ex F cx (.code c57s22 :: .inLoop c57l4 :: .inBlock 2 :: .inBlock 1 :: .code c57k3 :: .inLoop c57l2 :: .inBlock 0 :: .code c57s1 :: []) ⟨mk 102 l, rows, low⟩ r ↔ Jc57s22 F cx (lk l 0) (lk l 3) (lk l 4) (lk l 5) (lk l 6) (lk l 7) rows low r := Ex_canon (keep := [0, 3, 4, 5, 6, 7]) (by kernel_rfl)
def Lc57l4 (F : Nat → Option IFn) (cx : Ctx) (x0 x3 x4 x5 x6 x7 : AV) (rows : List Row) (low : Nat) (r : AV × List Row × Nat → Prop) : Prop := Ex F cx (.code c57l4 :: .inLoop c57l4 :: .inBlock 2 :: .inBlock 1 :: .code c57k3 :: .inLoop c57l2 :: .inBlock 0 :: .code c57s1 :: []) ⟨mk 102 [(0, x0), (3, x3), (4, x4), (5, x5), (6, x6), (7, x7)], rows, low⟩ r
@[simp] theorem nc57l4 : Ex F cx (.inLoop c57l4 :: .inBlock 2 :: .inBlock 1 :: .code c57k3 :: .inLoop c57l2 :: .inBlock 0 :: .code c57s1 :: []) ⟨mk 102 l, rows, low⟩ r ↔ Lc57l4 F cx (lk l 0) (lk l 3) (lk l 4) (lk l 5) (lk l 6) (lk l 7) rows low r := loopN (keep := [0, 3, 4, 5, 6, 7]) (by kernel_rfl)
@[simp] theorem ec57l4 : Ex F cx (.code (.loop c57l4) :: .inBlock 2 :: .inBlock 1 :: .code c57k3 :: .inLoop c57l2 :: .inBlock 0 :: .code c57s1 :: []) ⟨mk 102 l, rows, low⟩ r ↔ Lc57l4 F cx (lk l 0) (lk l 3) (lk l 4) (lk l 5) (lk l 6) (lk l 7) rows low r := loopE (keep := [0, 3, 4, 5, 6, 7]) (by kernel_rfl)
@[simp] theorem uc57l4 : Ex F cx (.code c57l4 :: k) s r ↔ Ex F cx (.code (.seq (.seq c57k24 c57s23) c57s22) :: k) s r := Iff.rfl
def Jc57s27 (F : Nat → Option IFn) (cx : Ctx) (x0 x3 x4 x5 x6 : AV) (rows : List Row) (low : Nat) (r : AV × List Row × Nat → Prop) : Prop := Ex F cx (.code c57s27 :: .inLoop c57l2 :: .inBlock 0 :: .code c57s1 :: []) ⟨mk 102 [(0, x0), (3, x3), (4, x4), (5, x5), (6, x6)], rows, low⟩ r
theorem jc57s27 : Ex F cx (.code c57s27 :: .inLoop c57l2 :: .inBlock 0 :: .code c57s1 :: []) ⟨mk 102 l, rows, low⟩ r ↔ Jc57s27 F cx (lk l 0) (lk l 3) (lk l 4) (lk l 5) (lk l 6) rows low r := Ex_canon (keep := [0, 3, 4, 5, 6]) (by kernel_rfl)
def Lc57l2 (F : Nat → Option IFn) (cx : Ctx) (x0 x3 x4 x5 x6 : AV) (rows : List Row) (low : Nat) (r : AV × List Row × Nat → Prop) : Prop := Ex F cx (.code c57l2 :: .inLoop c57l2 :: .inBlock 0 :: .code c57s1 :: []) ⟨mk 102 [(0, x0), (3, x3), (4, x4), (5, x5), (6, x6)], rows, low⟩ r
@[simp] theorem nc57l2 : Ex F cx (.inLoop c57l2 :: .inBlock 0 :: .code c57s1 :: []) ⟨mk 102 l, rows, low⟩ r ↔ Lc57l2 F cx (lk l 0) (lk l 3) (lk l 4) (lk l 5) (lk l 6) rows low r := loopN (keep := [0, 3, 4, 5, 6]) (by kernel_rfl)
@[simp] theorem ec57l2 : Ex F cx (.code (.loop c57l2) :: .inBlock 0 :: .code c57s1 :: []) ⟨mk 102 l, rows, low⟩ r ↔ Lc57l2 F cx (lk l 0) (lk l 3) (lk l 4) (lk l 5) (lk l 6) rows low r := loopE (keep := [0, 3, 4, 5, 6]) (by kernel_rfl)
@[simp] theorem uc57l2 : Ex F cx (.code c57l2 :: k) s r ↔ Ex F cx (.code (.seq (.seq c57k29 c57s28) c57s27) :: k) s r := Iff.rfl
def c57b : ICode := (.seq c57k35 c57s34)
@[simp] theorem uc57b : Ex F cx (.code c57b :: k) s r ↔ Ex F cx (.code (.seq c57k35 c57s34) :: k) s r := Iff.rfl
def c57 : IFn := ⟨102, [.t 4], c57b⟩
def h57 : List (Nat × List Nat) := [(0, dead 102 [0, 1]), (1, dead 102 [0, 3, 4]), (2, dead 102 [0, 3, 4, 5]), (3, dead 102 [0, 3, 4, 5, 6]), (5, dead 102 [0, 3, 4, 5, 6]), (6, dead 102 [0, 3, 4, 5, 6, 7]), (8, dead 102 [0, 3, 4, 5, 6, 7]), (9, dead 102 [0, 3, 4, 5, 6, 7, 8]), (10, dead 102 [0, 3, 4, 5, 6, 7, 8, 9]), (11, dead 102 [3, 5, 8, 9, 35]), (12, dead 102 [3, 5, 8, 9, 10]), (13, dead 102 [3, 5, 8, 9, 10, 11, 12]), (14, dead 102 [5, 8, 9, 10, 13]), (15, dead 102 [5, 8, 9, 10, 13]), (16, dead 102 [9]), (7, dead 102 [0, 3, 4, 5, 6, 7]), (4, dead 102 [0, 3, 4, 5, 6]), (17, dead 102 [5])]
theorem i57 {x0 x1 : AV} (hF : F 57 = some c57) {q : AV × List Row × Option Nat} (h : Ex F (.fn [.t 4]) [.code c57b] ⟨mk 102 [(0, x0), (1, x1)], rows, rows.length⟩ fun r => fin rows r.1 r.2.1 r.2.2 = q) : Ret F 57 [x0, x1] rows = some q := Ret_mk hF h
/-! tosher/search.Worst$1 -/
def c58r0 : List Seg := [
  .one ⟨some 10, .load1 (.t 4), none⟩,
  .one ⟨some 11, .mv (.t 1), none⟩,
  .one ⟨some 12, .idxS 1 (.t 10) (.t 11), none⟩,
  .one ⟨some 13, .load1 (.t 12), none⟩,
  .one ⟨some 14, .mv (.t 2), none⟩,
  .one ⟨some 15, .mv (.t 3), none⟩,
  .one ⟨some 16, .mx [(.t 14), (.t 15)], none⟩,
  .one ⟨some 17, .bin .add (.t 13) (.t 16), none⟩,
  .one ⟨some 9, .mv (.t 17), none⟩]
def c58k0 : ICode := .kill (dead 18 [1, 2, 3, 4]) (.ops c58r0)
@[simp] theorem uc58k0 : Ex F cx (.code c58k0 :: k) ⟨mk 18 l, rows, low⟩ r ↔ bnd (evP rows (.load1 (.c (lk l 4)))) fun v0 => bnd (evP rows (.idxS 1 (.c v0) (.c (lk l 1)))) fun v1 => bnd (evP rows (.load1 (.c v1))) fun v2 => bnd (evP rows (.mx [(.c (lk l 2)), (.c (lk l 3))])) fun v3 => bnd (evP rows (.bin .add (.c v2) (.c v3))) fun v4 => Ex F cx k ⟨mk 18 [(9, v4), (17, v4), (16, v3), (15, lk l 3), (14, lk l 2), (13, v2), (12, v1), (11, lk l 1), (10, v0), (1, lk l 1), (2, lk l 2), (3, lk l 3), (4, lk l 4)], rows, low⟩ r := reg (keep := [1, 2, 3, 4]) (ops := c58r0) rfl (by kernel_rfl) (by kernel_rfl)
def c58s1 : ICode := (.seq c58k0 .ret)
@[simp] theorem uc58s1 : Ex F cx (.code c58s1 :: k) s r ↔ Ex F cx (.code (.seq c58k0 .ret) :: k) s r := Iff.rfl
def c58r2 : List Seg := [
  .one ⟨some 5, .box (.t 0), none⟩,
  .one ⟨some 9, .mv (.c (.int .i64 0)), none⟩]
def c58k2 : ICode := .kill (dead 18 [0, 1, 2, 3, 4]) (.ops c58r2)
@[simp] theorem uc58k2 : Ex F cx (.code c58k2 :: k) ⟨mk 18 l, rows, low⟩ r ↔ bnd (evE rows low (.box (.c (lk l 0)))) fun q0 => Ex F cx k ⟨mk 18 [(9, (.int .i64 0)), (5, q0.1), (0, lk l 0), (1, lk l 1), (2, lk l 2), (3, lk l 3), (4, lk l 4)], q0.2.1, q0.2.2⟩ r := reg (keep := [0, 1, 2, 3, 4]) (ops := c58r2) rfl (by kernel_rfl) (by kernel_rfl)
def c58b : ICode := (.seq c58k2 c58s1)
@[simp] theorem uc58b : Ex F cx (.code c58b :: k) s r ↔ Ex F cx (.code (.seq c58k2 c58s1) :: k) s r := Iff.rfl
def c58 : IFn := ⟨18, [.t 9], c58b⟩
def h58 : List (Nat × List Nat) := [(0, dead 18 [0, 1, 2, 3, 4]), (1, dead 18 [1, 2, 3, 4])]
theorem i58 {x0 x1 x2 x3 x4 : AV} (hF : F 58 = some c58) {q : AV × List Row × Option Nat} (h : Ex F (.fn [.t 9]) [.code c58b] ⟨mk 18 [(0, x0), (1, x1), (2, x2), (3, x3), (4, x4)], rows, rows.length⟩ fun r => fin rows r.1 r.2.1 r.2.2 = q) : Ret F 58 [x0, x1, x2, x3, x4] rows = some q := Ret_mk hF h
/-! (*tosher/search.best).plan -/
def c59r0 : List Seg := [
  .grp [(⟨some 18, .mv (.t 5), none⟩, 0), (⟨some 19, .mkslice 1 [.int .i64 0] [(0, 1, (.t 18))], none⟩, 1), (⟨some 20, .mv (.t 0), none⟩, 0), (⟨some 21, .loadN 2 (.t 3), none⟩, 0), (⟨some 22, .mv (.t 5), none⟩, 0), (⟨some 23, .call (.c (.func 84 [])) [(.t 21), (.t 22)], none⟩, 24), (⟨some 24, .call (.c (.func 59 [])) [(.t 20), (.t 23)], none⟩, 60), (⟨some 25, .mv (.t 0), none⟩, 0), (⟨some 26, .loadN 2 (.t 3), none⟩, 0), (⟨some 27, .mv (.t 5), none⟩, 0), (⟨some 28, .call (.c (.func 85 [])) [(.t 26), (.t 27)], none⟩, 892), (⟨some 29, .call (.c (.func 59 [])) [(.t 25), (.t 28)], none⟩, 2044)],
  .one ⟨some 30, .mkslice 3 [.nilslice, .nilslice, .nilslice] [(0, 1, (.t 19)), (1, 1, (.t 24)), (2, 1, (.t 29))], none⟩,
  .one ⟨some 31, .call (.c (.func 87 [])) [(.t 30)], none⟩,
  .one ⟨some 4, .mv (.t 31), none⟩]
def c59k0 : ICode := .kill (dead 32 [0, 3, 5]) (.ops c59r0)
@[simp] theorem uc59k0 : Ex F cx (.code c59k0 :: k) ⟨mk 32 l, rows, low⟩ r ↔ bnd (evE (rows ++ maskE 1 ([] : List (Nat × Row))) (rows.length + ([] : List (Nat × Row)).length) (.mkslice 1 [.int .i64 0] [(0, 1, (.c (lk l 5)))])) fun q0 => q0.2.2 = rows.length + ([] : List (Nat × Row)).length ∧ bnd (some (([] : List (Nat × Row)) ++ List.map (fun (x : Row) => (1, x)) (q0.2.1.drop (rows.length + ([] : List (Nat × Row)).length)))) fun e0 => bnd (evP (rows ++ maskE 0 e0) (.loadN 2 (.c (lk l 3)))) fun v1 => bnd (opC F (rows ++ maskE 24 e0) (rows.length + e0.length) [v1, lk l 5] (.func 84 [])) fun q2 => q2.2.2 = rows.length + e0.length ∧ bnd (some (e0 ++ List.map (fun (x : Row) => (5, x)) (q2.2.1.drop (rows.length + e0.length)))) fun e2 => bnd (opC F (rows ++ maskE 60 e2) (rows.length + e2.length) [lk l 0, q2.1] (.func 59 [])) fun q3 => q3.2.2 = rows.length + e2.length ∧ bnd (some (e2 ++ List.map (fun (x : Row) => (6, x)) (q3.2.1.drop (rows.length + e2.length)))) fun e3 => bnd (evP (rows ++ maskE 0 e3) (.loadN 2 (.c (lk l 3)))) fun v4 => bnd (opC F (rows ++ maskE 892 e3) (rows.length + e3.length) [v4, lk l 5] (.func 85 [])) fun q5 => q5.2.2 = rows.length + e3.length ∧ bnd (some (e3 ++ List.map (fun (x : Row) => (10, x)) (q5.2.1.drop (rows.length + e3.length)))) fun e5 => bnd (opC F (rows ++ maskE 2044 e5) (rows.length + e5.length) [lk l 0, q5.1] (.func 59 [])) fun q6 => q6.2.2 = rows.length + e5.length ∧ bnd (some (e5 ++ List.map (fun (x : Row) => (11, x)) (q6.2.1.drop (rows.length + e5.length)))) fun e6 => bnd (evE (rows ++ List.map (fun (x : Nat × Row) => x.2) e6) low (.mkslice 3 [.nilslice, .nilslice, .nilslice] [(0, 1, (.c q0.1)), (1, 1, (.c q3.1)), (2, 1, (.c q6.1))])) fun q7 => bnd (Ret F 87 [q7.1] q7.2.1) fun q8 => Ex F cx k ⟨mk 32 [(4, q8.1), (31, q8.1), (30, q7.1), (29, q6.1), (28, q5.1), (27, lk l 5), (26, v4), (25, lk l 0), (24, q3.1), (23, q2.1), (22, lk l 5), (21, v1), (20, lk l 0), (19, q0.1), (18, lk l 5), (0, lk l 0), (3, lk l 3), (5, lk l 5)], q8.2.1, (lowO q7.2.2 q8.2.2)⟩ r := reg (keep := [0, 3, 5]) (ops := c59r0) rfl (by kernel_rfl) (by kernel_rfl)
def c59s1 : ICode := (.seq c59k0 .ret)
@[simp] theorem uc59s1 : Ex F cx (.code c59s1 :: k) s r ↔ Ex F cx (.code (.seq c59k0 .ret) :: k) s r := Iff.rfl
def c59r2 : List Seg := [
  .grp [(⟨some 8, .mv (.t 0), none⟩, 0), (⟨some 9, .fieldA 0 (.t 3), none⟩, 0), (⟨some 10, .load1 (.t 9), none⟩, 2), (⟨some 11, .fieldA 1 (.t 3), none⟩, 0), (⟨some 12, .load1 (.t 11), none⟩, 8), (⟨some 13, .nilck (.t 8), none⟩, 1), (⟨some 14, .fieldA 169 (.t 13), none⟩, 33), (⟨some 15, .idxA 13 13 (.t 14) (.t 10), none⟩, 103)],
  .one ⟨some 16, .idxA 13 1 (.t 15) (.t 12), none⟩,
  .one ⟨some 17, .load1 (.t 16), none⟩,
  .one ⟨some 5, .mv (.t 17), none⟩]
def c59k2 : ICode := .kill (dead 32 [0, 3]) (.ops c59r2)
@[simp] theorem uc59k2 : Ex F cx (.code c59k2 :: k) ⟨mk 32 l, rows, low⟩ r ↔ bnd (evP rows (.fieldA 0 (.c (lk l 3)))) fun v0 => bnd (evP rows (.load1 (.c v0))) fun v1 => bnd (evP rows (.fieldA 1 (.c (lk l 3)))) fun v2 => bnd (evP rows (.load1 (.c v2))) fun v3 => bnd (evP rows (.nilck (.c (lk l 0)))) fun v4 => bnd (evP rows (.fieldA 169 (.c v4))) fun v5 => bnd (evP rows (.idxA 13 13 (.c v5) (.c v1))) fun v6 => bnd (evP rows (.idxA 13 1 (.c v6) (.c v3))) fun v7 => bnd (evP rows (.load1 (.c v7))) fun v8 => Ex F cx k ⟨mk 32 [(5, v8), (17, v8), (16, v7), (15, v6), (14, v5), (13, v4), (12, v3), (11, v2), (10, v1), (9, v0), (8, lk l 0), (0, lk l 0), (3, lk l 3)], rows, low⟩ r := reg (keep := [0, 3]) (ops := c59r2) rfl (by kernel_rfl) (by kernel_rfl)
def c59s3 : ICode := (.seq c59k2 c59s1)
@[simp] theorem uc59s3 : Ex F cx (.code c59s3 :: k) s r ↔ Ex F cx (.code (.seq c59k2 c59s1) :: k) s r := Iff.rfl
def c59r4 : List Seg := [
  .one ⟨some 4, .mv (.c .nilslice), none⟩]
def c59k4 : ICode := .kill (dead 32 []) (.ops c59r4)
@[simp] theorem uc59k4 : Ex F cx (.code c59k4 :: k) ⟨mk 32 l, rows, low⟩ r ↔ Ex F cx k ⟨mk 32 [(4, .nilslice)], rows, low⟩ r := reg (keep := []) (ops := c59r4) rfl (by kernel_rfl) (by kernel_rfl)
def c59s5 : ICode := (.cond (.t 7) (.seq c59k4 .ret) .skip)
@[simp] theorem uc59s5 : Ex F cx (.code c59s5 :: k) s r ↔ Ex F cx (.code (.cond (.t 7) (.seq c59k4 .ret) .skip) :: k) s r := Iff.rfl
def c59r6 : List Seg := [
  .one ⟨some 6, .loadN 2 (.t 3), none⟩,
  .one ⟨some 7, .call (.c (.func 86 [])) [(.t 6)], none⟩]
def c59k6 : ICode := .kill (dead 32 [0, 3]) (.ops c59r6)
@[simp] theorem uc59k6 : Ex F cx (.code c59k6 :: k) ⟨mk 32 l, rows, low⟩ r ↔ bnd (evP rows (.loadN 2 (.c (lk l 3)))) fun v0 => bnd (Ret F 86 [v0] rows) fun q1 => Ex F cx k ⟨mk 32 [(7, q1.1), (6, v0), (0, lk l 0), (3, lk l 3)], q1.2.1, (lowO low q1.2.2)⟩ r := reg (keep := [0, 3]) (ops := c59r6) rfl (by kernel_rfl) (by kernel_rfl)
def c59s7 : ICode := (.seq (.seq c59k6 c59s5) c59s3)
@[simp] theorem uc59s7 : Ex F cx (.code c59s7 :: k) s r ↔ Ex F cx (.code (.seq (.seq c59k6 c59s5) c59s3) :: k) s r := Iff.rfl
def c59r8 : List Seg := [
  .one ⟨some 3, .box (.t 1), none⟩,
  .one ⟨some 4, .mv (.c .nilslice), none⟩]
def c59k8 : ICode := .kill (dead 32 [0, 1]) (.ops c59r8)
@[simp] theorem uc59k8 : Ex F cx (.code c59k8 :: k) ⟨mk 32 l, rows, low⟩ r ↔ bnd (evE rows low (.box (.c (lk l 1)))) fun q0 => Ex F cx k ⟨mk 32 [(4, .nilslice), (3, q0.1), (0, lk l 0), (1, lk l 1)], q0.2.1, q0.2.2⟩ r := reg (keep := [0, 1]) (ops := c59r8) rfl (by kernel_rfl) (by kernel_rfl)
def Jc59s3 (F : Nat → Option IFn) (cx : Ctx) (x0 x3 : AV) (rows : List Row) (low : Nat) (r : AV × List Row × Nat → Prop) : Prop := Ex F cx (.code c59s3 :: []) ⟨mk 32 [(0, x0), (3, x3)], rows, low⟩ r
theorem jc59s3 : Ex F cx (.code c59s3 :: []) ⟨mk 32 l, rows, low⟩ r ↔ Jc59s3 F cx (lk l 0) (lk l 3) rows low r := Ex_canon (keep := [0, 3]) (by kernel_rfl)
def c59b : ICode := (.seq c59k8 c59s7)
@[simp] theorem uc59b : Ex F cx (.code c59b :: k) s r ↔ Ex F cx (.code (.seq c59k8 c59s7) :: k) s r := Iff.rfl
def c59 : IFn := ⟨32, [.t 4], c59b⟩
def h59 : List (Nat × List Nat) := [(0, dead 32 [0, 1]), (1, dead 32 [0, 3]), (2, dead 32 []), (3, dead 32 [0, 3]), (4, dead 32 [0, 3, 5])]
theorem i59 {x0 x1 : AV} (hF : F 59 = some c59) {q : AV × List Row × Option Nat} (h : Ex F (.fn [.t 4]) [.code c59b] ⟨mk 32 [(0, x0), (1, x1)], rows, rows.length⟩ fun r => fin rows r.1 r.2.1 r.2.2 = q) : Ret F 59 [x0, x1] rows = some q := Ret_mk hF h
/-! tosher/search.whole -/
def c60r0 : List Seg := [
  .one ⟨some 3, .mv (.t 0), none⟩,
  .one ⟨some 4, .len 0 (.t 3), none⟩,
  .one ⟨some 5, .mkagg [.int .i64 0, .int .i64 0] [(0, 1, (.c (.int .i64 0))), (1, 1, (.t 4))], none⟩,
  .one ⟨none, .storeN 2 (.t 2) (.t 5), none⟩]
def c60k0 : ICode := .kill (dead 6 [0, 2]) (.ops c60r0)
@[simp] theorem uc60k0 : Ex F cx (.code c60k0 :: k) ⟨mk 6 l, rows, low⟩ r ↔ bnd (evP rows (.len 0 (.c (lk l 0)))) fun v0 => bnd (evP rows (.mkagg [.int .i64 0, .int .i64 0] [(0, 1, (.c (.int .i64 0))), (1, 1, (.c v0))])) fun v1 => bnd (evE rows low (.storeN 2 (.c (lk l 2)) (.c v1))) fun q2 => Ex F cx k ⟨mk 6 [(5, v1), (4, v0), (3, lk l 0), (0, lk l 0), (2, lk l 2)], q2.2.1, q2.2.2⟩ r := reg (keep := [0, 2]) (ops := c60r0) rfl (by kernel_rfl) (by kernel_rfl)
def c60s1 : ICode := (.seq c60k0 .ret)
@[simp] theorem uc60s1 : Ex F cx (.code c60s1 :: k) s r ↔ Ex F cx (.code (.seq c60k0 .ret) :: k) s r := Iff.rfl
def c60r2 : List Seg := [
  .one ⟨some 2, .box (.c (.agg [.int .i64 0, .int .i64 0])), none⟩]
def c60k2 : ICode := .kill (dead 6 [0]) (.ops c60r2)
@[simp] theorem uc60k2 : Ex F cx (.code c60k2 :: k) ⟨mk 6 l, rows, low⟩ r ↔ bnd (evE rows low (.box (.c (.agg [.int .i64 0, .int .i64 0])))) fun q0 => Ex F cx k ⟨mk 6 [(2, q0.1), (0, lk l 0)], q0.2.1, q0.2.2⟩ r := reg (keep := [0]) (ops := c60r2) rfl (by kernel_rfl) (by kernel_rfl)
def c60b : ICode := (.seq c60k2 c60s1)
@[simp] theorem uc60b : Ex F cx (.code c60b :: k) s r ↔ Ex F cx (.code (.seq c60k2 c60s1) :: k) s r := Iff.rfl
def c60 : IFn := ⟨6, [.cellN 2 2], c60b⟩
def h60 : List (Nat × List Nat) := [(0, dead 6 [0]), (1, dead 6 [0, 2])]
theorem i60 {x0 : AV} (hF : F 60 = some c60) {q : AV × List Row × Option Nat} (h : Ex F (.fn [.cellN 2 2]) [.code c60b] ⟨mk 6 [(0, x0)], rows, rows.length⟩ fun r => fin rows r.1 r.2.1 r.2.2 = q) : Ret F 60 [x0] rows = some q := Ret_mk hF h
/-! tosher/search.prices -/
def c61r0 : List Seg := [
  .one ⟨some 18, .load1 (.t 5), none⟩,
  .one ⟨some 4, .mv (.t 18), none⟩]
def c61k0 : ICode := .kill (dead 19 [5]) (.ops c61r0)
@[simp] theorem uc61k0 : Ex F cx (.code c61k0 :: k) ⟨mk 19 l, rows, low⟩ r ↔ bnd (evP rows (.load1 (.c (lk l 5)))) fun v0 => Ex F cx k ⟨mk 19 [(4, v0), (18, v0), (5, lk l 5)], rows, low⟩ r := reg (keep := [5]) (ops := c61r0) rfl (by kernel_rfl) (by kernel_rfl)
def c61s1 : ICode := (.seq c61k0 .ret)
@[simp] theorem uc61s1 : Ex F cx (.code c61s1 :: k) s r ↔ Ex F cx (.code (.seq c61k0 .ret) :: k) s r := Iff.rfl
def c61r2 : List Seg := [
  .one ⟨some 4, .mv (.c .nilslice), none⟩]
def c61k2 : ICode := .kill (dead 19 []) (.ops c61r2)
@[simp] theorem uc61k2 : Ex F cx (.code c61k2 :: k) ⟨mk 19 l, rows, low⟩ r ↔ Ex F cx k ⟨mk 19 [(4, .nilslice)], rows, low⟩ r := reg (keep := []) (ops := c61r2) rfl (by kernel_rfl) (by kernel_rfl)
def c61s3 : ICode := (.cond (.t 17) (.seq c61k2 .ret) .skip)
@[simp] theorem uc61s3 : Ex F cx (.code c61s3 :: k) s r ↔ Ex F cx (.code (.cond (.t 17) (.seq c61k2 .ret) .skip) :: k) s r := Iff.rfl
def c61r4 : List Seg := [
  .one ⟨some 16, .mv (.t 6), none⟩,
  .one ⟨some 17, .un .not (.t 16), none⟩]
def c61k4 : ICode := .kill (dead 19 [5, 6]) (.ops c61r4)
@[simp] theorem uc61k4 : Ex F cx (.code c61k4 :: k) ⟨mk 19 l, rows, low⟩ r ↔ bnd (evP rows (.un .not (.c (lk l 6)))) fun v0 => Ex F cx k ⟨mk 19 [(17, v0), (16, lk l 6), (5, lk l 5), (6, lk l 6)], rows, low⟩ r := reg (keep := [5, 6]) (ops := c61r4) rfl (by kernel_rfl) (by kernel_rfl)
def c61s5 : ICode := (.seq (.seq c61k4 c61s3) c61s1)
@[simp] theorem uc61s5 : Ex F cx (.code c61s5 :: k) s r ↔ Ex F cx (.code (.seq (.seq c61k4 c61s3) c61s1) :: k) s r := Iff.rfl
def c61r6 : List Seg := [
  .one ⟨some 11, .mv (.t 1), none⟩,
  .one ⟨some 12, .load1 (.t 2), none⟩,
  .one ⟨some 13, .call (.c (.func 60 [])) [(.t 12)], none⟩,
  .one ⟨some 14, .mkfn 88 [(.t 5), (.t 2)], none⟩,
  .one ⟨some 15, .call (.c (.func 62 [])) [(.t 11), (.t 13), (.t 14)], none⟩,
  .one ⟨some 6, .mv (.t 15), none⟩]
def c61k6 : ICode := .kill (dead 19 [1, 2, 5]) (.ops c61r6)
@[simp] theorem uc61k6 : Ex F cx (.code c61k6 :: k) ⟨mk 19 l, rows, low⟩ r ↔ bnd (evP rows (.load1 (.c (lk l 2)))) fun v0 => bnd (Ret F 60 [v0] rows) fun q1 => bnd (evP q1.2.1 (.mkfn 88 [(.c (lk l 5)), (.c (lk l 2))])) fun v2 => bnd (Ret F 62 [lk l 1, q1.1, v2] q1.2.1) fun q3 => Ex F cx k ⟨mk 19 [(6, q3.1), (15, q3.1), (14, v2), (13, q1.1), (12, v0), (11, lk l 1), (1, lk l 1), (2, lk l 2), (5, lk l 5)], q3.2.1, (lowO (lowO low q1.2.2) q3.2.2)⟩ r := reg (keep := [1, 2, 5]) (ops := c61r6) rfl (by kernel_rfl) (by kernel_rfl)
def c61s7 : ICode := (.seq c61k6 c61s5)
@[simp] theorem uc61s7 : Ex F cx (.code c61s7 :: k) s r ↔ Ex F cx (.code (.seq c61k6 c61s5) :: k) s r := Iff.rfl
def c61r8 : List Seg := [
  .one ⟨some 7, .load1 (.t 2), none⟩,
  .one ⟨some 8, .len 0 (.t 7), none⟩,
  .one ⟨some 9, .bin .add (.t 8) (.c (.int .i64 1)), none⟩,
  .one ⟨some 10, .make [.int .i64 0] 8 (.t 9) (.t 9), none⟩,
  .one ⟨some 5, .box (.c .nilslice), none⟩,
  .one ⟨none, .store1 (.t 5) (.t 10), none⟩]
def c61k8 : ICode := .kill (dead 19 [1, 2]) (.ops c61r8)
@[simp] theorem uc61k8 : Ex F cx (.code c61k8 :: k) ⟨mk 19 l, rows, low⟩ r ↔ bnd (evP rows (.load1 (.c (lk l 2)))) fun v0 => bnd (evP rows (.len 0 (.c v0))) fun v1 => bnd (evP rows (.bin .add (.c v1) (.c (.int .i64 1)))) fun v2 => bnd (evE rows low (.make [.int .i64 0] 8 (.c v2) (.c v2))) fun q3 => bnd (evE q3.2.1 q3.2.2 (.box (.c .nilslice))) fun q4 => bnd (evE q4.2.1 q4.2.2 (.store1 (.c q4.1) (.c q3.1))) fun q5 => Ex F cx k ⟨mk 19 [(5, q4.1), (10, q3.1), (9, v2), (8, v1), (7, v0), (1, lk l 1), (2, lk l 2)], q5.2.1, q5.2.2⟩ r := reg (keep := [1, 2]) (ops := c61r8) rfl (by kernel_rfl) (by kernel_rfl)
def c61s9 : ICode := (.seq c61k8 c61s7)
@[simp] theorem uc61s9 : Ex F cx (.code c61s9 :: k) s r ↔ Ex F cx (.code (.seq c61k8 c61s7) :: k) s r := Iff.rfl
def c61r10 : List Seg := [
  .one ⟨some 2, .box (.t 0), none⟩,
  .one ⟨some 4, .mv (.c .nilslice), none⟩]
def c61k10 : ICode := .kill (dead 19 [0, 1]) (.ops c61r10)
@[simp] theorem uc61k10 : Ex F cx (.code c61k10 :: k) ⟨mk 19 l, rows, low⟩ r ↔ bnd (evE rows low (.box (.c (lk l 0)))) fun q0 => Ex F cx k ⟨mk 19 [(4, .nilslice), (2, q0.1), (0, lk l 0), (1, lk l 1)], q0.2.1, q0.2.2⟩ r := reg (keep := [0, 1]) (ops := c61r10) rfl (by kernel_rfl) (by kernel_rfl)
def Jc61s1 (F : Nat → Option IFn) (cx : Ctx) (x5 : AV) (rows : List Row) (low : Nat) (r : AV × List Row × Nat → Prop) : Prop := Ex F cx (.code c61s1 :: []) ⟨mk 19 [(5, x5)], rows, low⟩ r
theorem jc61s1 : Ex F cx (.code c61s1 :: []) ⟨mk 19 l, rows, low⟩ r ↔ Jc61s1 F cx (lk l 5) rows low r := Ex_canon (keep := [5]) (by kernel_rfl)
def c61b : ICode := (.seq c61k10 c61s9)
@[simp] theorem uc61b : Ex F cx (.code c61b :: k) s r ↔ Ex F cx (.code (.seq c61k10 c61s9) :: k) s r := Iff.rfl
def c61 : IFn := ⟨19, [.t 4], c61b⟩
def h61 : List (Nat × List Nat) := [(0, dead 19 [0, 1]), (1, dead 19 [1, 2]), (2, dead 19 [1, 2, 5]), (3, dead 19 [5, 6]), (4, dead 19 []), (5, dead 19 [5])]
theorem i61 {x0 x1 : AV} (hF : F 61 = some c61) {q : AV × List Row × Option Nat} (h : Ex F (.fn [.t 4]) [.code c61b] ⟨mk 19 [(0, x0), (1, x1)], rows, rows.length⟩ fun r => fin rows r.1 r.2.1 r.2.2 = q) : Ret F 61 [x0, x1] rows = some q := Ret_mk hF h
/-! tosher/search.read -/
def c62r0 : List Seg := [
  .one ⟨some 9, .load1 (.t 7), none⟩,
  .one ⟨some 10, .loadN 2 (.t 4), none⟩,
  .one ⟨some 11, .call (.t 9) [(.t 10)], none⟩,
  .one ⟨some 12, .mv (.t 11), none⟩,
  .one ⟨some 13, .load1 (.t 3), some (12, true)⟩,
  .one ⟨some 14, .len 0 (.t 13), some (12, true)⟩,
  .one ⟨some 15, .bin .eql (.t 14) (.c (.int .i64 0)), some (12, true)⟩,
  .one ⟨some 16, .pick (.t 12) (.t 15) (.c (.bool false)), none⟩,
  .one ⟨some 6, .mv (.t 16), none⟩]
def c62k0 : ICode := .kill (dead 17 [3, 4, 7]) (.ops c62r0)
@[simp] theorem uc62k0 : Ex F cx (.code c62k0 :: k) ⟨mk 17 l, rows, low⟩ r ↔ bnd (evP rows (.load1 (.c (lk l 7)))) fun v0 => bnd (evP rows (.loadN 2 (.c (lk l 4)))) fun v1 => callK F rows low [v1] (fun v2 R2 L2 => bnd (gv v2 true (evP R2 (.load1 (.c (lk l 3))))) fun v3 => bnd (gv v2 true (evP R2 (.len 0 (.c v3)))) fun v4 => bnd (gv v2 true (evP R2 (.bin .eql (.c v4) (.c (.int .i64 0))))) fun v5 => bnd (evP R2 (.pick (.c v2) (.c v5) (.c (.bool false)))) fun v6 => Ex F cx k ⟨mk 17 [(6, v6), (16, v6), (15, v5), (14, v4), (13, v3), (12, v2), (11, v2), (10, v1), (9, v0), (3, lk l 3), (4, lk l 4), (7, lk l 7)], R2, L2⟩ r) v0 := reg (keep := [3, 4, 7]) (ops := c62r0) rfl (by kernel_rfl) (by kernel_rfl)
def c62s1 : ICode := (.seq c62k0 .ret)
@[simp] theorem uc62s1 : Ex F cx (.code c62s1 :: k) s r ↔ Ex F cx (.code (.seq c62k0 .ret) :: k) s r := Iff.rfl
def c62r2 : List Seg := [
  .one ⟨some 8, .mkfn 89 [(.t 3), (.t 5), (.t 7)], none⟩,
  .one ⟨none, .store1 (.t 7) (.t 8), none⟩]
def c62k2 : ICode := .kill (dead 17 [3, 4, 5, 7]) (.ops c62r2)
@[simp] theorem uc62k2 : Ex F cx (.code c62k2 :: k) ⟨mk 17 l, rows, low⟩ r ↔ bnd (evP rows (.mkfn 89 [(.c (lk l 3)), (.c (lk l 5)), (.c (lk l 7))])) fun v0 => bnd (evE rows low (.store1 (.c (lk l 7)) (.c v0))) fun q1 => Ex F cx k ⟨mk 17 [(8, v0), (3, lk l 3), (4, lk l 4), (5, lk l 5), (7, lk l 7)], q1.2.1, q1.2.2⟩ r := reg (keep := [3, 4, 5, 7]) (ops := c62r2) rfl (by kernel_rfl) (by kernel_rfl)
def c62s3 : ICode := (.seq c62k2 c62s1)
@[simp] theorem uc62s3 : Ex F cx (.code c62s3 :: k) s r ↔ Ex F cx (.code (.seq c62k2 c62s1) :: k) s r := Iff.rfl
def c62r4 : List Seg := [
  .one ⟨some 7, .box (.c .nilfunc), none⟩]
def c62k4 : ICode := .kill (dead 17 [3, 4, 5]) (.ops c62r4)
@[simp] theorem uc62k4 : Ex F cx (.code c62k4 :: k) ⟨mk 17 l, rows, low⟩ r ↔ bnd (evE rows low (.box (.c .nilfunc))) fun q0 => Ex F cx k ⟨mk 17 [(7, q0.1), (3, lk l 3), (4, lk l 4), (5, lk l 5)], q0.2.1, q0.2.2⟩ r := reg (keep := [3, 4, 5]) (ops := c62r4) rfl (by kernel_rfl) (by kernel_rfl)
def c62s5 : ICode := (.seq c62k4 c62s3)
@[simp] theorem uc62s5 : Ex F cx (.code c62s5 :: k) s r ↔ Ex F cx (.code (.seq c62k4 c62s3) :: k) s r := Iff.rfl
def c62r6 : List Seg := [
  .one ⟨some 3, .box (.t 0), none⟩,
  .one ⟨some 4, .box (.t 1), none⟩,
  .one ⟨some 5, .box (.t 2), none⟩,
  .one ⟨some 6, .mv (.c (.bool false)), none⟩]
def c62k6 : ICode := .kill (dead 17 [0, 1, 2]) (.ops c62r6)
@[simp] theorem uc62k6 : Ex F cx (.code c62k6 :: k) ⟨mk 17 l, rows, low⟩ r ↔ bnd (evE rows low (.box (.c (lk l 0)))) fun q0 => bnd (evE q0.2.1 q0.2.2 (.box (.c (lk l 1)))) fun q1 => bnd (evE q1.2.1 q1.2.2 (.box (.c (lk l 2)))) fun q2 => Ex F cx k ⟨mk 17 [(6, (.bool false)), (5, q2.1), (4, q1.1), (3, q0.1), (0, lk l 0), (1, lk l 1), (2, lk l 2)], q2.2.1, q2.2.2⟩ r := reg (keep := [0, 1, 2]) (ops := c62r6) rfl (by kernel_rfl) (by kernel_rfl)
def c62b : ICode := (.seq c62k6 c62s5)
@[simp] theorem uc62b : Ex F cx (.code c62b :: k) s r ↔ Ex F cx (.code (.seq c62k6 c62s5) :: k) s r := Iff.rfl
def c62 : IFn := ⟨17, [.t 6], c62b⟩
def h62 : List (Nat × List Nat) := [(0, dead 17 [0, 1, 2]), (1, dead 17 [3, 4, 5]), (2, dead 17 [3, 4, 5, 7]), (3, dead 17 [3, 4, 7])]
theorem i62 {x0 x1 x2 : AV} (hF : F 62 = some c62) {q : AV × List Row × Option Nat} (h : Ex F (.fn [.t 6]) [.code c62b] ⟨mk 17 [(0, x0), (1, x1), (2, x2)], rows, rows.length⟩ fun r => fin rows r.1 r.2.1 r.2.2 = q) : Ret F 62 [x0, x1, x2] rows = some q := Ret_mk hF h
/-! tosher/search.Answer$1 -/
def c63r0 : List Seg := [
  .one ⟨some 16, .load1 (.t 3), none⟩,
  .one ⟨some 17, .mv (.t 0), none⟩,
  .one ⟨some 18, .mkslice 1 [.int .i64 0] [(0, 1, (.t 17))], none⟩,
  .one ⟨some 19, .app 1 8 (.t 16) (.t 18), none⟩,
  .one ⟨none, .store1 (.t 3) (.t 19), none⟩]
def c63k0 : ICode := .kill (dead 20 [0, 3]) (.ops c63r0)
@[simp] theorem uc63k0 : Ex F cx (.code c63k0 :: k) ⟨mk 20 l, rows, low⟩ r ↔ bnd (evP rows (.load1 (.c (lk l 3)))) fun v0 => bnd (evE rows low (.mkslice 1 [.int .i64 0] [(0, 1, (.c (lk l 0)))])) fun q1 => bnd (evE q1.2.1 q1.2.2 (.app 1 8 (.c v0) (.c q1.1))) fun q2 => bnd (evE q2.2.1 q2.2.2 (.store1 (.c (lk l 3)) (.c q2.1))) fun q3 => Ex F cx k ⟨mk 20 [(19, q2.1), (18, q1.1), (17, lk l 0), (16, v0), (0, lk l 0), (3, lk l 3)], q3.2.1, q3.2.2⟩ r := reg (keep := [0, 3]) (ops := c63r0) rfl (by kernel_rfl) (by kernel_rfl)
def c63s1 : ICode := (.cond (.t 15) c63k0 .skip)
@[simp] theorem uc63s1 : Ex F cx (.code c63s1 :: k) s r ↔ Ex F cx (.code (.cond (.t 15) c63k0 .skip) :: k) s r := Iff.rfl
def c63r2 : List Seg := [
  .one ⟨some 6, .fieldA 0 (.t 5), none⟩,
  .one ⟨some 7, .load1 (.t 6), none⟩,
  .one ⟨some 8, .load1 (.t 2), none⟩,
  .one ⟨some 9, .bin .leq (.t 7) (.t 8), none⟩,
  .one ⟨some 10, .mv (.t 9), none⟩,
  .one ⟨some 11, .load1 (.t 2), some (10, true)⟩,
  .one ⟨some 12, .fieldA 1 (.t 5), some (10, true)⟩,
  .one ⟨some 13, .load1 (.t 12), some (10, true)⟩,
  .one ⟨some 14, .bin .leq (.t 11) (.t 13), some (10, true)⟩,
  .one ⟨some 15, .pick (.t 10) (.t 14) (.c (.bool false)), none⟩]
def c63k2 : ICode := .kill (dead 20 [0, 2, 3, 5]) (.ops c63r2)
@[simp] theorem uc63k2 : Ex F cx (.code c63k2 :: k) ⟨mk 20 l, rows, low⟩ r ↔ bnd (evP rows (.fieldA 0 (.c (lk l 5)))) fun v0 => bnd (evP rows (.load1 (.c v0))) fun v1 => bnd (evP rows (.load1 (.c (lk l 2)))) fun v2 => bnd (evP rows (.bin .leq (.c v1) (.c v2))) fun v3 => bnd (gv v3 true (evP rows (.load1 (.c (lk l 2))))) fun v4 => bnd (gv v3 true (evP rows (.fieldA 1 (.c (lk l 5))))) fun v5 => bnd (gv v3 true (evP rows (.load1 (.c v5)))) fun v6 => bnd (gv v3 true (evP rows (.bin .leq (.c v4) (.c v6)))) fun v7 => bnd (evP rows (.pick (.c v3) (.c v7) (.c (.bool false)))) fun v8 => Ex F cx k ⟨mk 20 [(15, v8), (14, v7), (13, v6), (12, v5), (11, v4), (10, v3), (9, v3), (8, v2), (7, v1), (6, v0), (0, lk l 0), (2, lk l 2), (3, lk l 3), (5, lk l 5)], rows, low⟩ r := reg (keep := [0, 2, 3, 5]) (ops := c63r2) rfl (by kernel_rfl) (by kernel_rfl)
def c63s3 : ICode := (.seq c63k2 c63s1)
@[simp] theorem uc63s3 : Ex F cx (.code c63s3 :: k) s r ↔ Ex F cx (.code (.seq c63k2 c63s1) :: k) s r := Iff.rfl
def c63r4 : List Seg := [
  .one ⟨some 5, .box (.t 1), none⟩]
def c63k4 : ICode := .kill (dead 20 [0, 1, 2, 3]) (.ops c63r4)
@[simp] theorem uc63k4 : Ex F cx (.code c63k4 :: k) ⟨mk 20 l, rows, low⟩ r ↔ bnd (evE rows low (.box (.c (lk l 1)))) fun q0 => Ex F cx k ⟨mk 20 [(5, q0.1), (0, lk l 0), (1, lk l 1), (2, lk l 2), (3, lk l 3)], q0.2.1, q0.2.2⟩ r := reg (keep := [0, 1, 2, 3]) (ops := c63r4) rfl (by kernel_rfl) (by kernel_rfl)
def c63b : ICode := (.seq c63k4 c63s3)
@[simp] theorem uc63b : Ex F cx (.code c63b :: k) s r ↔ Ex F cx (.code (.seq c63k4 c63s3) :: k) s r := Iff.rfl
def c63 : IFn := ⟨20, [], c63b⟩
def h63 : List (Nat × List Nat) := [(0, dead 20 [0, 1, 2, 3]), (1, dead 20 [0, 2, 3, 5]), (2, dead 20 [0, 3])]
theorem i63 {x0 x1 x2 x3 : AV} (hF : F 63 = some c63) {q : AV × List Row × Option Nat} (h : Ex F (.fn []) [.code c63b] ⟨mk 20 [(0, x0), (1, x1), (2, x2), (3, x3)], rows, rows.length⟩ fun r => fin rows r.1 r.2.1 r.2.2 = q) : Ret F 63 [x0, x1, x2, x3] rows = some q := Ret_mk hF h
/-! tosher/tosherref08.opened -/
def c64r0 : List Seg := [
  .one ⟨some 111, .mv (.t 18), none⟩,
  .one ⟨some 112, .mv (.t 16), none⟩,
  .one ⟨some 8, .mv (.t 111), none⟩,
  .one ⟨some 9, .mv (.t 112), none⟩,
  .one ⟨some 10, .mv (.c (.bool true)), none⟩]
def c64k0 : ICode := .kill (dead 113 [16, 18]) (.ops c64r0)
@[simp] theorem uc64k0 : Ex F cx (.code c64k0 :: k) ⟨mk 113 l, rows, low⟩ r ↔ Ex F cx k ⟨mk 113 [(10, (.bool true)), (9, lk l 16), (8, lk l 18), (112, lk l 16), (111, lk l 18), (16, lk l 16), (18, lk l 18)], rows, low⟩ r := reg (keep := [16, 18]) (ops := c64r0) rfl (by kernel_rfl) (by kernel_rfl)
def c64s1 : ICode := (.seq c64k0 .ret)
@[simp] theorem uc64s1 : Ex F cx (.code c64s1 :: k) s r ↔ Ex F cx (.code (.seq c64k0 .ret) :: k) s r := Iff.rfl
def c64r3 : List Seg := [
  .one ⟨some 84, .mv (.t 19), none⟩,
  .one ⟨some 85, .bin .add (.t 84) (.c (.int .i64 1)), none⟩,
  .one ⟨some 19, .mv (.t 85), none⟩]
def c64k3 : ICode := .kill (dead 113 [11, 12, 15, 16, 18, 19]) (.ops c64r3)
@[simp] theorem uc64k3 : Ex F cx (.code c64k3 :: k) ⟨mk 113 l, rows, low⟩ r ↔ bnd (evP rows (.bin .add (.c (lk l 19)) (.c (.int .i64 1)))) fun v0 => Ex F cx k ⟨mk 113 [(19, v0), (85, v0), (84, lk l 19), (11, lk l 11), (12, lk l 12), (15, lk l 15), (16, lk l 16), (18, lk l 18), (19, lk l 19)], rows, low⟩ r := reg (keep := [11, 12, 15, 16, 18, 19]) (ops := c64r3) rfl (by kernel_rfl) (by kernel_rfl)
def c64r4 : List Seg := [
  .one ⟨some 107, .mv (.t 18), none⟩,
  .one ⟨some 108, .mv (.t 20), none⟩,
  .one ⟨some 109, .mkslice 1 [.nilslice] [(0, 1, (.t 108))], none⟩,
  .one ⟨some 110, .app 1 24 (.t 107) (.t 109), none⟩,
  .one ⟨some 18, .mv (.t 110), none⟩]
def c64k4 : ICode := .kill (dead 113 [11, 12, 15, 16, 18, 19, 20]) (.ops c64r4)
@[simp] theorem uc64k4 : Ex F cx (.code c64k4 :: k) ⟨mk 113 l, rows, low⟩ r ↔ bnd (evE rows low (.mkslice 1 [.nilslice] [(0, 1, (.c (lk l 20)))])) fun q0 => bnd (evE q0.2.1 q0.2.2 (.app 1 24 (.c (lk l 18)) (.c q0.1))) fun q1 => Ex F cx k ⟨mk 113 [(18, q1.1), (110, q1.1), (109, q0.1), (108, lk l 20), (107, lk l 18), (11, lk l 11), (12, lk l 12), (15, lk l 15), (16, lk l 16), (18, lk l 18), (19, lk l 19), (20, lk l 20)], q1.2.1, q1.2.2⟩ r := reg (keep := [11, 12, 15, 16, 18, 19, 20]) (ops := c64r4) rfl (by kernel_rfl) (by kernel_rfl)
def c64r5 : List Seg := [
  .one ⟨some 92, .mv (.t 20), none⟩,
  .one ⟨some 93, .mv (.t 12), none⟩,
  .one ⟨some 94, .mv (.t 19), none⟩,
  .one ⟨some 95, .idxS 1 (.t 93) (.t 94), none⟩,
  .one ⟨some 96, .load1 (.t 95), none⟩,
  .one ⟨some 97, .app 1 8 (.t 92) (.t 96), none⟩,
  .one ⟨some 20, .mv (.t 97), none⟩]
def c64k5 : ICode := .kill (dead 113 [11, 12, 15, 16, 18, 19, 20]) (.ops c64r5)
@[simp] theorem uc64k5 : Ex F cx (.code c64k5 :: k) ⟨mk 113 l, rows, low⟩ r ↔ bnd (evP rows (.idxS 1 (.c (lk l 12)) (.c (lk l 19)))) fun v0 => bnd (evP rows (.load1 (.c v0))) fun v1 => bnd (evE rows low (.app 1 8 (.c (lk l 20)) (.c v1))) fun q2 => Ex F cx k ⟨mk 113 [(20, q2.1), (97, q2.1), (96, v1), (95, v0), (94, lk l 19), (93, lk l 12), (92, lk l 20), (11, lk l 11), (12, lk l 12), (15, lk l 15), (16, lk l 16), (18, lk l 18), (19, lk l 19), (20, lk l 20)], q2.2.1, q2.2.2⟩ r := reg (keep := [11, 12, 15, 16, 18, 19, 20]) (ops := c64r5) rfl (by kernel_rfl) (by kernel_rfl)
def c64r6 : List Seg := [
  .one ⟨some 98, .mv (.t 20), none⟩,
  .one ⟨some 99, .mv (.t 15), none⟩,
  .one ⟨some 100, .mv (.t 19), none⟩,
  .one ⟨some 101, .mv (.t 12), none⟩,
  .one ⟨some 102, .len 0 (.t 101), none⟩,
  .one ⟨some 103, .bin .sub (.t 100) (.t 102), none⟩,
  .one ⟨some 104, .idxS 1 (.t 99) (.t 103), none⟩,
  .one ⟨some 105, .load1 (.t 104), none⟩,
  .one ⟨some 106, .app 1 8 (.t 98) (.t 105), none⟩,
  .one ⟨some 20, .mv (.t 106), none⟩]
def c64k6 : ICode := .kill (dead 113 [11, 12, 15, 16, 18, 19, 20]) (.ops c64r6)
@[simp] theorem uc64k6 : Ex F cx (.code c64k6 :: k) ⟨mk 113 l, rows, low⟩ r ↔ bnd (evP rows (.len 0 (.c (lk l 12)))) fun v0 => bnd (evP rows (.bin .sub (.c (lk l 19)) (.c v0))) fun v1 => bnd (evP rows (.idxS 1 (.c (lk l 15)) (.c v1))) fun v2 => bnd (evP rows (.load1 (.c v2))) fun v3 => bnd (evE rows low (.app 1 8 (.c (lk l 20)) (.c v3))) fun q4 => Ex F cx k ⟨mk 113 [(20, q4.1), (106, q4.1), (105, v3), (104, v2), (103, v1), (102, v0), (101, lk l 12), (100, lk l 19), (99, lk l 15), (98, lk l 20), (11, lk l 11), (12, lk l 12), (15, lk l 15), (16, lk l 16), (18, lk l 18), (19, lk l 19), (20, lk l 20)], q4.2.1, q4.2.2⟩ r := reg (keep := [11, 12, 15, 16, 18, 19, 20]) (ops := c64r6) rfl (by kernel_rfl) (by kernel_rfl)
def c64s7 : ICode := (.cond (.t 91) c64k5 c64k6)
@[simp] theorem uc64s7 : Ex F cx (.code c64s7 :: k) s r ↔ Ex F cx (.code (.cond (.t 91) c64k5 c64k6) :: k) s r := Iff.rfl
def c64r8 : List Seg := [
  .one ⟨some 88, .mv (.t 19), none⟩,
  .one ⟨some 89, .mv (.t 12), none⟩,
  .one ⟨some 90, .len 0 (.t 89), none⟩,
  .one ⟨some 91, .bin .lss (.t 88) (.t 90), none⟩]
def c64k8 : ICode := .kill (dead 113 [11, 12, 15, 16, 18, 19, 20]) (.ops c64r8)
@[simp] theorem uc64k8 : Ex F cx (.code c64k8 :: k) ⟨mk 113 l, rows, low⟩ r ↔ bnd (evP rows (.len 0 (.c (lk l 12)))) fun v0 => bnd (evP rows (.bin .lss (.c (lk l 19)) (.c v0))) fun v1 => Ex F cx k ⟨mk 113 [(91, v1), (90, v0), (89, lk l 12), (88, lk l 19), (11, lk l 11), (12, lk l 12), (15, lk l 15), (16, lk l 16), (18, lk l 18), (19, lk l 19), (20, lk l 20)], rows, low⟩ r := reg (keep := [11, 12, 15, 16, 18, 19, 20]) (ops := c64r8) rfl (by kernel_rfl) (by kernel_rfl)
def c64s9 : ICode := (.seq (.seq c64k8 c64s7) c64k4)
@[simp] theorem uc64s9 : Ex F cx (.code c64s9 :: k) s r ↔ Ex F cx (.code (.seq (.seq c64k8 c64s7) c64k4) :: k) s r := Iff.rfl
def c64r10 : List Seg := [
  .one ⟨some 86, .mv (.t 11), none⟩,
  .one ⟨some 87, .mkslice 1 [.int .i64 0] [(0, 1, (.t 86))], none⟩,
  .one ⟨some 20, .mv (.t 87), none⟩]
def c64k10 : ICode := .kill (dead 113 [11, 12, 15, 16, 18, 19]) (.ops c64r10)
@[simp] theorem uc64k10 : Ex F cx (.code c64k10 :: k) ⟨mk 113 l, rows, low⟩ r ↔ bnd (evE rows low (.mkslice 1 [.int .i64 0] [(0, 1, (.c (lk l 11)))])) fun q0 => Ex F cx k ⟨mk 113 [(20, q0.1), (87, q0.1), (86, lk l 11), (11, lk l 11), (12, lk l 12), (15, lk l 15), (16, lk l 16), (18, lk l 18), (19, lk l 19)], q0.2.1, q0.2.2⟩ r := reg (keep := [11, 12, 15, 16, 18, 19]) (ops := c64r10) rfl (by kernel_rfl) (by kernel_rfl)
def c64s11 : ICode := (.seq (.block 1 (.seq c64k10 c64s9)) c64k3)
@[simp] theorem uc64s11 : Ex F cx (.code c64s11 :: k) s r ↔ Ex F cx (.code (.seq (.block 1 (.seq c64k10 c64s9)) c64k3) :: k) s r := Iff.rfl
def c64s12 : ICode := (.cond (.t 83) .skip (.exit 0))
@[simp] theorem uc64s12 : Ex F cx (.code c64s12 :: k) s r ↔ Ex F cx (.code (.cond (.t 83) .skip (.exit 0)) :: k) s r := Iff.rfl
def c64r13 : List Seg := [
  .one ⟨some 77, .mv (.t 19), none⟩,
  .one ⟨some 78, .mv (.t 12), none⟩,
  .one ⟨some 79, .len 0 (.t 78), none⟩,
  .one ⟨some 80, .mv (.t 15), none⟩,
  .one ⟨some 81, .len 0 (.t 80), none⟩,
  .one ⟨some 82, .bin .add (.t 79) (.t 81), none⟩,
  .one ⟨some 83, .bin .lss (.t 77) (.t 82), none⟩]
def c64k13 : ICode := .kill (dead 113 [11, 12, 15, 16, 18, 19]) (.ops c64r13)
@[simp] theorem uc64k13 : Ex F cx (.code c64k13 :: k) ⟨mk 113 l, rows, low⟩ r ↔ bnd (evP rows (.len 0 (.c (lk l 12)))) fun v0 => bnd (evP rows (.len 0 (.c (lk l 15)))) fun v1 => bnd (evP rows (.bin .add (.c v0) (.c v1))) fun v2 => bnd (evP rows (.bin .lss (.c (lk l 19)) (.c v2))) fun v3 => Ex F cx k ⟨mk 113 [(83, v3), (82, v2), (81, v1), (80, lk l 15), (79, v0), (78, lk l 12), (77, lk l 19), (11, lk l 11), (12, lk l 12), (15, lk l 15), (16, lk l 16), (18, lk l 18), (19, lk l 19)], rows, low⟩ r := reg (keep := [11, 12, 15, 16, 18, 19]) (ops := c64r13) rfl (by kernel_rfl) (by kernel_rfl)
def c64l2 : ICode := (.seq (.seq c64k13 c64s12) c64s11)
def c64s14 : ICode := (.block 0 (.loop c64l2))
@[simp] theorem uc64s14 : Ex F cx (.code c64s14 :: k) s r ↔ Ex F cx (.code (.block 0 (.loop c64l2)) :: k) s r := Iff.rfl
def c64r15 : List Seg := [
  .one ⟨some 19, .mv (.c (.int .i64 0)), none⟩]
def c64k15 : ICode := .kill (dead 113 [11, 12, 15, 16, 18]) (.ops c64r15)
@[simp] theorem uc64k15 : Ex F cx (.code c64k15 :: k) ⟨mk 113 l, rows, low⟩ r ↔ Ex F cx k ⟨mk 113 [(19, (.int .i64 0)), (11, lk l 11), (12, lk l 12), (15, lk l 15), (16, lk l 16), (18, lk l 18)], rows, low⟩ r := reg (keep := [11, 12, 15, 16, 18]) (ops := c64r15) rfl (by kernel_rfl) (by kernel_rfl)
def c64s16 : ICode := (.seq (.seq c64k15 c64s14) c64s1)
@[simp] theorem uc64s16 : Ex F cx (.code c64s16 :: k) s r ↔ Ex F cx (.code (.seq (.seq c64k15 c64s14) c64s1) :: k) s r := Iff.rfl
def c64r17 : List Seg := [
  .one ⟨some 18, .mv (.c .nilslice), none⟩]
def c64k17 : ICode := .kill (dead 113 [11, 12, 15, 16]) (.ops c64r17)
@[simp] theorem uc64k17 : Ex F cx (.code c64k17 :: k) ⟨mk 113 l, rows, low⟩ r ↔ Ex F cx k ⟨mk 113 [(18, .nilslice), (11, lk l 11), (12, lk l 12), (15, lk l 15), (16, lk l 16)], rows, low⟩ r := reg (keep := [11, 12, 15, 16]) (ops := c64r17) rfl (by kernel_rfl) (by kernel_rfl)
def c64s18 : ICode := (.seq c64k17 c64s16)
@[simp] theorem uc64s18 : Ex F cx (.code c64s18 :: k) s r ↔ Ex F cx (.code (.seq c64k17 c64s16) :: k) s r := Iff.rfl
def c64r19 : List Seg := [
  .one ⟨some 76, .mv (.t 1), none⟩,
  .one ⟨some 8, .mv (.c .nilslice), none⟩,
  .one ⟨some 9, .mv (.t 76), none⟩,
  .one ⟨some 10, .mv (.c (.bool false)), none⟩]
def c64k19 : ICode := .kill (dead 113 [1]) (.ops c64r19)
@[simp] theorem uc64k19 : Ex F cx (.code c64k19 :: k) ⟨mk 113 l, rows, low⟩ r ↔ Ex F cx k ⟨mk 113 [(10, (.bool false)), (9, lk l 1), (8, .nilslice), (76, lk l 1), (1, lk l 1)], rows, low⟩ r := reg (keep := [1]) (ops := c64r19) rfl (by kernel_rfl) (by kernel_rfl)
def c64s20 : ICode := (.cond (.t 75) (.seq c64k19 .ret) .skip)
@[simp] theorem uc64s20 : Ex F cx (.code c64s20 :: k) s r ↔ Ex F cx (.code (.cond (.t 75) (.seq c64k19 .ret) .skip) :: k) s r := Iff.rfl
def c64r21 : List Seg := [
  .one ⟨some 74, .mv (.t 17), none⟩,
  .one ⟨some 75, .un .not (.t 74), none⟩]
def c64k21 : ICode := .kill (dead 113 [1, 11, 12, 15, 16, 17]) (.ops c64r21)
@[simp] theorem uc64k21 : Ex F cx (.code c64k21 :: k) ⟨mk 113 l, rows, low⟩ r ↔ bnd (evP rows (.un .not (.c (lk l 17)))) fun v0 => Ex F cx k ⟨mk 113 [(75, v0), (74, lk l 17), (1, lk l 1), (11, lk l 11), (12, lk l 12), (15, lk l 15), (16, lk l 16), (17, lk l 17)], rows, low⟩ r := reg (keep := [1, 11, 12, 15, 16, 17]) (ops := c64r21) rfl (by kernel_rfl) (by kernel_rfl)
def c64s22 : ICode := (.seq (.seq c64k21 c64s20) c64s18)
@[simp] theorem uc64s22 : Ex F cx (.code c64s22 :: k) s r ↔ Ex F cx (.code (.seq (.seq c64k21 c64s20) c64s18) :: k) s r := Iff.rfl
def c64r23 : List Seg := [
  .one ⟨some 65, .mv (.t 0), none⟩,
  .one ⟨some 66, .mv (.t 13), none⟩,
  .one ⟨some 67, .mv (.t 11), none⟩,
  .one ⟨some 68, .bin .add (.t 67) (.c (.int .i64 1)), none⟩,
  .one ⟨some 69, .mv (.t 3), none⟩,
  .one ⟨some 70, .call (.c (.func 64 [])) [(.t 65), (.t 66), (.t 68), (.t 69)], none⟩,
  .one ⟨some 64, .mv (.t 70), none⟩,
  .one ⟨some 71, .ext (.t 64) 0, none⟩,
  .one ⟨some 72, .ext (.t 64) 1, none⟩,
  .one ⟨some 73, .ext (.t 64) 2, none⟩,
  .one ⟨some 15, .mv (.t 71), none⟩,
  .one ⟨some 16, .mv (.t 72), none⟩,
  .one ⟨some 17, .mv (.t 73), none⟩]
def c64k23 : ICode := .kill (dead 113 [0, 1, 3, 11, 12, 13]) (.ops c64r23)
@[simp] theorem uc64k23 : Ex F cx (.code c64k23 :: k) ⟨mk 113 l, rows, low⟩ r ↔ bnd (evP rows (.bin .add (.c (lk l 11)) (.c (.int .i64 1)))) fun v0 => bnd (Ret F 64 [lk l 0, lk l 13, v0, lk l 3] rows) fun q1 => bnd (evP q1.2.1 (.ext (.c q1.1) 0)) fun v2 => bnd (evP q1.2.1 (.ext (.c q1.1) 1)) fun v3 => bnd (evP q1.2.1 (.ext (.c q1.1) 2)) fun v4 => Ex F cx k ⟨mk 113 [(17, v4), (16, v3), (15, v2), (73, v4), (72, v3), (71, v2), (64, q1.1), (70, q1.1), (69, lk l 3), (68, v0), (67, lk l 11), (66, lk l 13), (65, lk l 0), (0, lk l 0), (1, lk l 1), (3, lk l 3), (11, lk l 11), (12, lk l 12), (13, lk l 13)], q1.2.1, (lowO low q1.2.2)⟩ r := reg (keep := [0, 1, 3, 11, 12, 13]) (ops := c64r23) rfl (by kernel_rfl) (by kernel_rfl)
def c64s24 : ICode := (.seq c64k23 c64s22)
@[simp] theorem uc64s24 : Ex F cx (.code c64s24 :: k) s r ↔ Ex F cx (.code (.seq c64k23 c64s22) :: k) s r := Iff.rfl
def c64r25 : List Seg := [
  .one ⟨some 63, .mv (.t 1), none⟩,
  .one ⟨some 8, .mv (.c .nilslice), none⟩,
  .one ⟨some 9, .mv (.t 63), none⟩,
  .one ⟨some 10, .mv (.c (.bool false)), none⟩]
def c64k25 : ICode := .kill (dead 113 [1]) (.ops c64r25)
@[simp] theorem uc64k25 : Ex F cx (.code c64k25 :: k) ⟨mk 113 l, rows, low⟩ r ↔ Ex F cx k ⟨mk 113 [(10, (.bool false)), (9, lk l 1), (8, .nilslice), (63, lk l 1), (1, lk l 1)], rows, low⟩ r := reg (keep := [1]) (ops := c64r25) rfl (by kernel_rfl) (by kernel_rfl)
def c64s26 : ICode := (.cond (.t 62) (.seq c64k25 .ret) .skip)
@[simp] theorem uc64s26 : Ex F cx (.code c64s26 :: k) s r ↔ Ex F cx (.code (.cond (.t 62) (.seq c64k25 .ret) .skip) :: k) s r := Iff.rfl
def c64r27 : List Seg := [
  .one ⟨some 61, .mv (.t 14), none⟩,
  .one ⟨some 62, .un .not (.t 61), none⟩]
def c64k27 : ICode := .kill (dead 113 [0, 1, 3, 11, 12, 13, 14]) (.ops c64r27)
@[simp] theorem uc64k27 : Ex F cx (.code c64k27 :: k) ⟨mk 113 l, rows, low⟩ r ↔ bnd (evP rows (.un .not (.c (lk l 14)))) fun v0 => Ex F cx k ⟨mk 113 [(62, v0), (61, lk l 14), (0, lk l 0), (1, lk l 1), (3, lk l 3), (11, lk l 11), (12, lk l 12), (13, lk l 13), (14, lk l 14)], rows, low⟩ r := reg (keep := [0, 1, 3, 11, 12, 13, 14]) (ops := c64r27) rfl (by kernel_rfl) (by kernel_rfl)
def c64s28 : ICode := (.seq (.seq c64k27 c64s26) c64s24)
@[simp] theorem uc64s28 : Ex F cx (.code c64s28 :: k) s r ↔ Ex F cx (.code (.seq (.seq c64k27 c64s26) c64s24) :: k) s r := Iff.rfl
def c64r29 : List Seg := [
  .one ⟨some 52, .mv (.t 0), none⟩,
  .one ⟨some 53, .mv (.t 1), none⟩,
  .one ⟨some 54, .bin .add (.t 53) (.c (.int .i64 1)), none⟩,
  .one ⟨some 55, .mv (.t 2), none⟩,
  .one ⟨some 56, .mv (.t 11), none⟩,
  .one ⟨some 57, .call (.c (.func 64 [])) [(.t 52), (.t 54), (.t 55), (.t 56)], none⟩,
  .one ⟨some 51, .mv (.t 57), none⟩,
  .one ⟨some 58, .ext (.t 51) 0, none⟩,
  .one ⟨some 59, .ext (.t 51) 1, none⟩,
  .one ⟨some 60, .ext (.t 51) 2, none⟩,
  .one ⟨some 12, .mv (.t 58), none⟩,
  .one ⟨some 13, .mv (.t 59), none⟩,
  .one ⟨some 14, .mv (.t 60), none⟩]
def c64k29 : ICode := .kill (dead 113 [0, 1, 2, 3, 11]) (.ops c64r29)
@[simp] theorem uc64k29 : Ex F cx (.code c64k29 :: k) ⟨mk 113 l, rows, low⟩ r ↔ bnd (evP rows (.bin .add (.c (lk l 1)) (.c (.int .i64 1)))) fun v0 => bnd (Ret F 64 [lk l 0, v0, lk l 2, lk l 11] rows) fun q1 => bnd (evP q1.2.1 (.ext (.c q1.1) 0)) fun v2 => bnd (evP q1.2.1 (.ext (.c q1.1) 1)) fun v3 => bnd (evP q1.2.1 (.ext (.c q1.1) 2)) fun v4 => Ex F cx k ⟨mk 113 [(14, v4), (13, v3), (12, v2), (60, v4), (59, v3), (58, v2), (51, q1.1), (57, q1.1), (56, lk l 11), (55, lk l 2), (54, v0), (53, lk l 1), (52, lk l 0), (0, lk l 0), (1, lk l 1), (2, lk l 2), (3, lk l 3), (11, lk l 11)], q1.2.1, (lowO low q1.2.2)⟩ r := reg (keep := [0, 1, 2, 3, 11]) (ops := c64r29) rfl (by kernel_rfl) (by kernel_rfl)
def c64s30 : ICode := (.seq c64k29 c64s28)
@[simp] theorem uc64s30 : Ex F cx (.code c64s30 :: k) s r ↔ Ex F cx (.code (.seq c64k29 c64s28) :: k) s r := Iff.rfl
def c64r31 : List Seg := [
  .one ⟨some 47, .mv (.t 0), none⟩,
  .one ⟨some 48, .mv (.t 1), none⟩,
  .one ⟨some 49, .idxS 1 (.t 47) (.t 48), none⟩,
  .one ⟨some 50, .load1 (.t 49), none⟩,
  .one ⟨some 11, .mv (.t 50), none⟩]
def c64k31 : ICode := .kill (dead 113 [0, 1, 2, 3]) (.ops c64r31)
@[simp] theorem uc64k31 : Ex F cx (.code c64k31 :: k) ⟨mk 113 l, rows, low⟩ r ↔ bnd (evP rows (.idxS 1 (.c (lk l 0)) (.c (lk l 1)))) fun v0 => bnd (evP rows (.load1 (.c v0))) fun v1 => Ex F cx k ⟨mk 113 [(11, v1), (50, v1), (49, v0), (48, lk l 1), (47, lk l 0), (0, lk l 0), (1, lk l 1), (2, lk l 2), (3, lk l 3)], rows, low⟩ r := reg (keep := [0, 1, 2, 3]) (ops := c64r31) rfl (by kernel_rfl) (by kernel_rfl)
def c64s32 : ICode := (.seq c64k31 c64s30)
@[simp] theorem uc64s32 : Ex F cx (.code c64s32 :: k) s r ↔ Ex F cx (.code (.seq c64k31 c64s30) :: k) s r := Iff.rfl
def c64r33 : List Seg := [
  .one ⟨some 46, .mv (.t 1), none⟩,
  .one ⟨some 8, .mv (.c .nilslice), none⟩,
  .one ⟨some 9, .mv (.t 46), none⟩,
  .one ⟨some 10, .mv (.c (.bool false)), none⟩]
def c64k33 : ICode := .kill (dead 113 [1]) (.ops c64r33)
@[simp] theorem uc64k33 : Ex F cx (.code c64k33 :: k) ⟨mk 113 l, rows, low⟩ r ↔ Ex F cx k ⟨mk 113 [(10, (.bool false)), (9, lk l 1), (8, .nilslice), (46, lk l 1), (1, lk l 1)], rows, low⟩ r := reg (keep := [1]) (ops := c64r33) rfl (by kernel_rfl) (by kernel_rfl)
def c64s34 : ICode := (.cond (.t 45) (.seq c64k33 .ret) .skip)
@[simp] theorem uc64s34 : Ex F cx (.code c64s34 :: k) s r ↔ Ex F cx (.code (.cond (.t 45) (.seq c64k33 .ret) .skip) :: k) s r := Iff.rfl
def c64r35 : List Seg := [
  .one ⟨some 26, .mv (.t 1), none⟩,
  .one ⟨some 27, .mv (.t 0), none⟩,
  .one ⟨some 28, .len 0 (.t 27), none⟩,
  .one ⟨some 29, .bin .geq (.t 26) (.t 28), none⟩,
  .one ⟨some 30, .mv (.t 29), none⟩,
  .one ⟨some 31, .mv (.t 0), some (30, false)⟩,
  .one ⟨some 32, .mv (.t 1), some (30, false)⟩,
  .one ⟨some 33, .idxS 1 (.t 31) (.t 32), some (30, false)⟩,
  .one ⟨some 34, .load1 (.t 33), some (30, false)⟩,
  .one ⟨some 35, .mv (.t 2), some (30, false)⟩,
  .one ⟨some 36, .bin .lss (.t 34) (.t 35), some (30, false)⟩,
  .one ⟨some 37, .pick (.t 30) (.c (.bool true)) (.t 36), none⟩,
  .one ⟨some 38, .mv (.t 37), none⟩,
  .one ⟨some 39, .mv (.t 0), some (38, false)⟩,
  .one ⟨some 40, .mv (.t 1), some (38, false)⟩,
  .one ⟨some 41, .idxS 1 (.t 39) (.t 40), some (38, false)⟩,
  .one ⟨some 42, .load1 (.t 41), some (38, false)⟩,
  .one ⟨some 43, .mv (.t 3), some (38, false)⟩,
  .one ⟨some 44, .bin .geq (.t 42) (.t 43), some (38, false)⟩,
  .one ⟨some 45, .pick (.t 38) (.c (.bool true)) (.t 44), none⟩]
def c64k35 : ICode := .kill (dead 113 [0, 1, 2, 3]) (.ops c64r35)
@[simp] theorem uc64k35 : Ex F cx (.code c64k35 :: k) ⟨mk 113 l, rows, low⟩ r ↔ bnd (evP rows (.len 0 (.c (lk l 0)))) fun v0 => bnd (evP rows (.bin .geq (.c (lk l 1)) (.c v0))) fun v1 => bnd (gv v1 false (evP rows (.mv (.c (lk l 0))))) fun v2 => bnd (gv v1 false (evP rows (.mv (.c (lk l 1))))) fun v3 => bnd (gv v1 false (evP rows (.idxS 1 (.c v2) (.c v3)))) fun v4 => bnd (gv v1 false (evP rows (.load1 (.c v4)))) fun v5 => bnd (gv v1 false (evP rows (.mv (.c (lk l 2))))) fun v6 => bnd (gv v1 false (evP rows (.bin .lss (.c v5) (.c v6)))) fun v7 => bnd (evP rows (.pick (.c v1) (.c (.bool true)) (.c v7))) fun v8 => bnd (gv v8 false (evP rows (.mv (.c (lk l 0))))) fun v9 => bnd (gv v8 false (evP rows (.mv (.c (lk l 1))))) fun v10 => bnd (gv v8 false (evP rows (.idxS 1 (.c v9) (.c v10)))) fun v11 => bnd (gv v8 false (evP rows (.load1 (.c v11)))) fun v12 => bnd (gv v8 false (evP rows (.mv (.c (lk l 3))))) fun v13 => bnd (gv v8 false (evP rows (.bin .geq (.c v12) (.c v13)))) fun v14 => bnd (evP rows (.pick (.c v8) (.c (.bool true)) (.c v14))) fun v15 => Ex F cx k ⟨mk 113 [(45, v15), (44, v14), (43, v13), (42, v12), (41, v11), (40, v10), (39, v9), (38, v8), (37, v8), (36, v7), (35, v6), (34, v5), (33, v4), (32, v3), (31, v2), (30, v1), (29, v1), (28, v0), (27, lk l 0), (26, lk l 1), (0, lk l 0), (1, lk l 1), (2, lk l 2), (3, lk l 3)], rows, low⟩ r := reg (keep := [0, 1, 2, 3]) (ops := c64r35) rfl (by kernel_rfl) (by kernel_rfl)
def c64s36 : ICode := (.seq (.seq c64k35 c64s34) c64s32)
@[simp] theorem uc64s36 : Ex F cx (.code c64s36 :: k) s r ↔ Ex F cx (.code (.seq (.seq c64k35 c64s34) c64s32) :: k) s r := Iff.rfl
def c64r37 : List Seg := [
  .one ⟨some 24, .mkslice 1 [.nilslice] [(0, 1, (.c .nilslice))], none⟩,
  .one ⟨some 25, .mv (.t 1), none⟩,
  .one ⟨some 8, .mv (.t 24), none⟩,
  .one ⟨some 9, .mv (.t 25), none⟩,
  .one ⟨some 10, .mv (.c (.bool true)), none⟩]
def c64k37 : ICode := .kill (dead 113 [1]) (.ops c64r37)
@[simp] theorem uc64k37 : Ex F cx (.code c64k37 :: k) ⟨mk 113 l, rows, low⟩ r ↔ bnd (evE rows low (.mkslice 1 [.nilslice] [(0, 1, (.c .nilslice))])) fun q0 => Ex F cx k ⟨mk 113 [(10, (.bool true)), (9, lk l 1), (8, q0.1), (25, lk l 1), (24, q0.1), (1, lk l 1)], q0.2.1, q0.2.2⟩ r := reg (keep := [1]) (ops := c64r37) rfl (by kernel_rfl) (by kernel_rfl)
def c64s38 : ICode := (.cond (.t 23) (.seq c64k37 .ret) .skip)
@[simp] theorem uc64s38 : Ex F cx (.code c64s38 :: k) s r ↔ Ex F cx (.code (.cond (.t 23) (.seq c64k37 .ret) .skip) :: k) s r := Iff.rfl
def c64r39 : List Seg := [
  .one ⟨some 21, .mv (.t 2), none⟩,
  .one ⟨some 22, .mv (.t 3), none⟩,
  .one ⟨some 23, .bin .eql (.t 21) (.t 22), none⟩]
def c64k39 : ICode := .kill (dead 113 [0, 1, 2, 3]) (.ops c64r39)
@[simp] theorem uc64k39 : Ex F cx (.code c64k39 :: k) ⟨mk 113 l, rows, low⟩ r ↔ bnd (evP rows (.bin .eql (.c (lk l 2)) (.c (lk l 3)))) fun v0 => Ex F cx k ⟨mk 113 [(23, v0), (22, lk l 3), (21, lk l 2), (0, lk l 0), (1, lk l 1), (2, lk l 2), (3, lk l 3)], rows, low⟩ r := reg (keep := [0, 1, 2, 3]) (ops := c64r39) rfl (by kernel_rfl) (by kernel_rfl)
def c64s40 : ICode := (.seq (.seq c64k39 c64s38) c64s36)
@[simp] theorem uc64s40 : Ex F cx (.code c64s40 :: k) s r ↔ Ex F cx (.code (.seq (.seq c64k39 c64s38) c64s36) :: k) s r := Iff.rfl
def c64r41 : List Seg := [
  .one ⟨some 8, .mv (.c .nilslice), none⟩,
  .one ⟨some 9, .mv (.c (.int .i64 0)), none⟩,
  .one ⟨some 10, .mv (.c (.bool false)), none⟩]
def c64k41 : ICode := .kill (dead 113 [0, 1, 2, 3]) (.ops c64r41)
@[simp] theorem uc64k41 : Ex F cx (.code c64k41 :: k) ⟨mk 113 l, rows, low⟩ r ↔ Ex F cx k ⟨mk 113 [(10, (.bool false)), (9, (.int .i64 0)), (8, .nilslice), (0, lk l 0), (1, lk l 1), (2, lk l 2), (3, lk l 3)], rows, low⟩ r := reg (keep := [0, 1, 2, 3]) (ops := c64r41) rfl (by kernel_rfl) (by kernel_rfl)
def Jc64s11 (F : Nat → Option IFn) (cx : Ctx) (x11 x12 x15 x16 x18 x19 : AV) (rows : List Row) (low : Nat) (r : AV × List Row × Nat → Prop) : Prop := Ex F cx (.code c64s11 :: .inLoop c64l2 :: .inBlock 0 :: .code c64s1 :: []) ⟨mk 113 [(11, x11), (12, x12), (15, x15), (16, x16), (18, x18), (19, x19)], rows, low⟩ r
theorem jc64s11 : Ex F cx (.code c64s11 :: .inLoop c64l2 :: .inBlock 0 :: .code c64s1 :: []) ⟨mk 113 l, rows, low⟩ r ↔ Jc64s11 F cx (lk l 11) (lk l 12) (lk l 15) (lk l 16) (lk l 18) (lk l 19) rows low r := Ex_canon (keep := [11, 12, 15, 16, 18, 19]) (by kernel_rfl)
def Lc64l2 (F : Nat → Option IFn) (cx : Ctx) (x11 x12 x15 x16 x18 x19 : AV) (rows : List Row) (low : Nat) (r : AV × List Row × Nat → Prop) : Prop := Ex F cx (.code c64l2 :: .inLoop c64l2 :: .inBlock 0 :: .code c64s1 :: []) ⟨mk 113 [(11, x11), (12, x12), (15, x15), (16, x16), (18, x18), (19, x19)], rows, low⟩ r
@[simp] theorem nc64l2 : Ex F cx (.inLoop c64l2 :: .inBlock 0 :: .code c64s1 :: []) ⟨mk 113 l, rows, low⟩ r ↔ Lc64l2 F cx (lk l 11) (lk l 12) (lk l 15) (lk l 16) (lk l 18) (lk l 19) rows low r := loopN (keep := [11, 12, 15, 16, 18, 19]) (by kernel_rfl)
@[simp] theorem ec64l2 : Ex F cx (.code (.loop c64l2) :: .inBlock 0 :: .code c64s1 :: []) ⟨mk 113 l, rows, low⟩ r ↔ Lc64l2 F cx (lk l 11) (lk l 12) (lk l 15) (lk l 16) (lk l 18) (lk l 19) rows low r := loopE (keep := [11, 12, 15, 16, 18, 19]) (by kernel_rfl)
@[simp] theorem uc64l2 : Ex F cx (.code c64l2 :: k) s r ↔ Ex F cx (.code (.seq (.seq c64k13 c64s12) c64s11) :: k) s r := Iff.rfl
def Jc64s18 (F : Nat → Option IFn) (cx : Ctx) (x11 x12 x15 x16 : AV) (rows : List Row) (low : Nat) (r : AV × List Row × Nat → Prop) : Prop := Ex F cx (.code c64s18 :: []) ⟨mk 113 [(11, x11), (12, x12), (15, x15), (16, x16)], rows, low⟩ r
theorem jc64s18 : Ex F cx (.code c64s18 :: []) ⟨mk 113 l, rows, low⟩ r ↔ Jc64s18 F cx (lk l 11) (lk l 12) (lk l 15) (lk l 16) rows low r := Ex_canon (keep := [11, 12, 15, 16]) (by kernel_rfl)
def Jc64s24 (F : Nat → Option IFn) (cx : Ctx) (x0 x1 x3 x11 x12 x13 : AV) (rows : List Row) (low : Nat) (r : AV × List Row × Nat → Prop) : Prop := Ex F cx (.code c64s24 :: []) ⟨mk 113 [(0, x0), (1, x1), (3, x3), (11, x11), (12, x12), (13, x13)], rows, low⟩ r
theorem jc64s24 : Ex F cx (.code c64s24 :: []) ⟨mk 113 l, rows, low⟩ r ↔ Jc64s24 F cx (lk l 0) (lk l 1) (lk l 3) (lk l 11) (lk l 12) (lk l 13) rows low r := Ex_canon (keep := [0, 1, 3, 11, 12, 13]) (by kernel_rfl)
def Jc64s32 (F : Nat → Option IFn) (cx : Ctx) (x0 x1 x2 x3 : AV) (rows : List Row) (low : Nat) (r : AV × List Row × Nat → Prop) : Prop := Ex F cx (.code c64s32 :: []) ⟨mk 113 [(0, x0), (1, x1), (2, x2), (3, x3)], rows, low⟩ r
theorem jc64s32 : Ex F cx (.code c64s32 :: []) ⟨mk 113 l, rows, low⟩ r ↔ Jc64s32 F cx (lk l 0) (lk l 1) (lk l 2) (lk l 3) rows low r := Ex_canon (keep := [0, 1, 2, 3]) (by kernel_rfl)
def Jc64s36 (F : Nat → Option IFn) (cx : Ctx) (x0 x1 x2 x3 : AV) (rows : List Row) (low : Nat) (r : AV × List Row × Nat → Prop) : Prop := Ex F cx (.code c64s36 :: []) ⟨mk 113 [(0, x0), (1, x1), (2, x2), (3, x3)], rows, low⟩ r
theorem jc64s36 : Ex F cx (.code c64s36 :: []) ⟨mk 113 l, rows, low⟩ r ↔ Jc64s36 F cx (lk l 0) (lk l 1) (lk l 2) (lk l 3) rows low r := Ex_canon (keep := [0, 1, 2, 3]) (by kernel_rfl)
def c64b : ICode := (.seq c64k41 c64s40)
@[simp] theorem uc64b : Ex F cx (.code c64b :: k) s r ↔ Ex F cx (.code (.seq c64k41 c64s40) :: k) s r := Iff.rfl
def c64 : IFn := ⟨113, [.t 8, .t 9, .t 10], c64b⟩
def h64 : List (Nat × List Nat) := [(0, dead 113 [0, 1, 2, 3]), (1, dead 113 [0, 1, 2, 3]), (2, dead 113 [1]), (3, dead 113 [0, 1, 2, 3]), (4, dead 113 [1]), (5, dead 113 [0, 1, 2, 3]), (6, dead 113 [0, 1, 2, 3, 11]), (7, dead 113 [0, 1, 3, 11, 12, 13, 14]), (8, dead 113 [1]), (9, dead 113 [0, 1, 3, 11, 12, 13]), (10, dead 113 [1, 11, 12, 15, 16, 17]), (11, dead 113 [1]), (12, dead 113 [11, 12, 15, 16]), (13, dead 113 [11, 12, 15, 16, 18]), (14, dead 113 [11, 12, 15, 16, 18, 19]), (16, dead 113 [11, 12, 15, 16, 18, 19]), (17, dead 113 [11, 12, 15, 16, 18, 19, 20]), (18, dead 113 [11, 12, 15, 16, 18, 19, 20]), (19, dead 113 [11, 12, 15, 16, 18, 19, 20]), (20, dead 113 [11, 12, 15, 16, 18, 19, 20]), (15, dead 113 [11, 12, 15, 16, 18, 19]), (21, dead 113 [16, 18])]
theorem i64 {x0 x1 x2 x3 : AV} (hF : F 64 = some c64) {q : AV × List Row × Option Nat} (h : Ex F (.fn [.t 8, .t 9, .t 10]) [.code c64b] ⟨mk 113 [(0, x0), (1, x1), (2, x2), (3, x3)], rows, rows.length⟩ fun r => fin rows r.1 r.2.1 r.2.2 = q) : Ret F 64 [x0, x1, x2, x3] rows = some q := Ret_mk hF h
/-! tosher/search.openWeights -/
def c65r0 : List Seg := [
  .one ⟨some 4, .mv (.c (.int .i64 0)), none⟩]
def c65k0 : ICode := .kill (dead 27 []) (.ops c65r0)
@[simp] theorem uc65k0 : Ex F cx (.code c65k0 :: k) ⟨mk 27 l, rows, low⟩ r ↔ Ex F cx k ⟨mk 27 [(4, (.int .i64 0))], rows, low⟩ r := reg (keep := []) (ops := c65r0) rfl (by kernel_rfl) (by kernel_rfl)
def c65s1 : ICode := (.seq c65k0 .ret)
@[simp] theorem uc65s1 : Ex F cx (.code c65s1 :: k) s r ↔ Ex F cx (.code (.seq c65k0 .ret) :: k) s r := Iff.rfl
def c65r2 : List Seg := [
  .one ⟨some 4, .mv (.c (.int .i64 1)), none⟩]
def c65k2 : ICode := .kill (dead 27 []) (.ops c65r2)
@[simp] theorem uc65k2 : Ex F cx (.code c65k2 :: k) ⟨mk 27 l, rows, low⟩ r ↔ Ex F cx k ⟨mk 27 [(4, (.int .i64 1))], rows, low⟩ r := reg (keep := []) (ops := c65r2) rfl (by kernel_rfl) (by kernel_rfl)
def c65s3 : ICode := (.cond (.t 26) (.seq c65k2 .ret) .skip)
@[simp] theorem uc65s3 : Ex F cx (.code c65s3 :: k) s r ↔ Ex F cx (.code (.cond (.t 26) (.seq c65k2 .ret) .skip) :: k) s r := Iff.rfl
def c65r4 : List Seg := [
  .one ⟨some 11, .mv (.t 1), none⟩,
  .one ⟨some 12, .len 0 (.t 11), none⟩,
  .one ⟨some 13, .mv (.t 0), none⟩,
  .one ⟨some 14, .len 0 (.t 13), none⟩,
  .one ⟨some 15, .bin .add (.t 14) (.c (.int .i64 1)), none⟩,
  .one ⟨some 16, .bin .neq (.t 12) (.t 15), none⟩,
  .one ⟨some 17, .mv (.t 16), none⟩,
  .one ⟨some 18, .mv (.t 1), some (17, false)⟩,
  .one ⟨some 19, .call (.c (.func 55 [])) [(.c (.int .i64 0)), (.c (.int .i64 1000)), (.t 18)], some (17, false)⟩,
  .one ⟨some 20, .un .not (.t 19), some (17, false)⟩,
  .one ⟨some 21, .pick (.t 17) (.c (.bool true)) (.t 20), none⟩,
  .one ⟨some 22, .mv (.t 21), none⟩,
  .one ⟨some 23, .mv (.t 1), some (22, false)⟩,
  .one ⟨some 24, .call (.c (.func 90 [])) [(.t 23)], some (22, false)⟩,
  .one ⟨some 25, .bin .eql (.t 24) (.c (.int .i64 0)), some (22, false)⟩,
  .one ⟨some 26, .pick (.t 22) (.c (.bool true)) (.t 25), none⟩]
def c65k4 : ICode := .kill (dead 27 [0, 1]) (.ops c65r4)
@[simp] theorem uc65k4 : Ex F cx (.code c65k4 :: k) ⟨mk 27 l, rows, low⟩ r ↔ bnd (evP rows (.len 0 (.c (lk l 1)))) fun v0 => bnd (evP rows (.len 0 (.c (lk l 0)))) fun v1 => bnd (evP rows (.bin .add (.c v1) (.c (.int .i64 1)))) fun v2 => bnd (evP rows (.bin .neq (.c v0) (.c v2))) fun v3 => bnd (gv v3 false (evP rows (.mv (.c (lk l 1))))) fun v4 => gcall F v3 false rows low [(.int .i64 0), (.int .i64 1000), v4] (.func 55 []) fun v5 R5 L5 => bnd (gv v3 false (evP R5 (.un .not (.c v5)))) fun v6 => bnd (evP R5 (.pick (.c v3) (.c (.bool true)) (.c v6))) fun v7 => bnd (gv v7 false (evP R5 (.mv (.c (lk l 1))))) fun v8 => gcall F v7 false R5 L5 [v8] (.func 90 []) fun v9 R9 L9 => bnd (gv v7 false (evP R9 (.bin .eql (.c v9) (.c (.int .i64 0))))) fun v10 => bnd (evP R9 (.pick (.c v7) (.c (.bool true)) (.c v10))) fun v11 => Ex F cx k ⟨mk 27 [(26, v11), (25, v10), (24, v9), (23, v8), (22, v7), (21, v7), (20, v6), (19, v5), (18, v4), (17, v3), (16, v3), (15, v2), (14, v1), (13, lk l 0), (12, v0), (11, lk l 1), (0, lk l 0), (1, lk l 1)], R9, L9⟩ r := reg (keep := [0, 1]) (ops := c65r4) rfl (by kernel_rfl) (by kernel_rfl)
def c65s5 : ICode := (.seq (.seq c65k4 c65s3) c65s1)
@[simp] theorem uc65s5 : Ex F cx (.code c65s5 :: k) s r ↔ Ex F cx (.code (.seq (.seq c65k4 c65s3) c65s1) :: k) s r := Iff.rfl
def c65r6 : List Seg := [
  .one ⟨some 10, .mv (.t 5), none⟩,
  .one ⟨some 4, .mv (.t 10), none⟩]
def c65k6 : ICode := .kill (dead 27 [5]) (.ops c65r6)
@[simp] theorem uc65k6 : Ex F cx (.code c65k6 :: k) ⟨mk 27 l, rows, low⟩ r ↔ Ex F cx k ⟨mk 27 [(4, lk l 5), (10, lk l 5), (5, lk l 5)], rows, low⟩ r := reg (keep := [5]) (ops := c65r6) rfl (by kernel_rfl) (by kernel_rfl)
def c65s7 : ICode := (.cond (.t 9) (.seq c65k6 .ret) .skip)
@[simp] theorem uc65s7 : Ex F cx (.code c65s7 :: k) s r ↔ Ex F cx (.code (.cond (.t 9) (.seq c65k6 .ret) .skip) :: k) s r := Iff.rfl
def c65r8 : List Seg := [
  .one ⟨some 8, .mv (.t 5), none⟩,
  .one ⟨some 9, .bin .neq (.t 8) (.c (.int .i64 0)), none⟩]
def c65k8 : ICode := .kill (dead 27 [0, 1, 5]) (.ops c65r8)
@[simp] theorem uc65k8 : Ex F cx (.code c65k8 :: k) ⟨mk 27 l, rows, low⟩ r ↔ bnd (evP rows (.bin .neq (.c (lk l 5)) (.c (.int .i64 0)))) fun v0 => Ex F cx k ⟨mk 27 [(9, v0), (8, lk l 5), (0, lk l 0), (1, lk l 1), (5, lk l 5)], rows, low⟩ r := reg (keep := [0, 1, 5]) (ops := c65r8) rfl (by kernel_rfl) (by kernel_rfl)
def c65s9 : ICode := (.seq c65k8 c65s7)
@[simp] theorem uc65s9 : Ex F cx (.code c65s9 :: k) s r ↔ Ex F cx (.code (.seq c65k8 c65s7) :: k) s r := Iff.rfl
def c65r10 : List Seg := [
  .one ⟨some 6, .mv (.t 0), none⟩,
  .one ⟨some 7, .call (.c (.func 46 [])) [(.t 6)], none⟩,
  .one ⟨some 5, .mv (.t 7), none⟩]
def c65k10 : ICode := .kill (dead 27 [0, 1]) (.ops c65r10)
@[simp] theorem uc65k10 : Ex F cx (.code c65k10 :: k) ⟨mk 27 l, rows, low⟩ r ↔ bnd (Ret F 46 [lk l 0] rows) fun q0 => Ex F cx k ⟨mk 27 [(5, q0.1), (7, q0.1), (6, lk l 0), (0, lk l 0), (1, lk l 1)], q0.2.1, (lowO low q0.2.2)⟩ r := reg (keep := [0, 1]) (ops := c65r10) rfl (by kernel_rfl) (by kernel_rfl)
def c65s11 : ICode := (.seq (.seq c65k10 c65s9) c65s5)
@[simp] theorem uc65s11 : Ex F cx (.code c65s11 :: k) s r ↔ Ex F cx (.code (.seq (.seq c65k10 c65s9) c65s5) :: k) s r := Iff.rfl
def c65r12 : List Seg := [
  .one ⟨some 4, .mv (.c (.int .i64 0)), none⟩]
def c65k12 : ICode := .kill (dead 27 [0, 1]) (.ops c65r12)
@[simp] theorem uc65k12 : Ex F cx (.code c65k12 :: k) ⟨mk 27 l, rows, low⟩ r ↔ Ex F cx k ⟨mk 27 [(4, (.int .i64 0)), (0, lk l 0), (1, lk l 1)], rows, low⟩ r := reg (keep := [0, 1]) (ops := c65r12) rfl (by kernel_rfl) (by kernel_rfl)
def Jc65s1 (F : Nat → Option IFn) (cx : Ctx) (rows : List Row) (low : Nat) (r : AV × List Row × Nat → Prop) : Prop := Ex F cx (.code c65s1 :: []) ⟨mk 27 [], rows, low⟩ r
theorem jc65s1 : Ex F cx (.code c65s1 :: []) ⟨mk 27 l, rows, low⟩ r ↔ Jc65s1 F cx  rows low r := Ex_canon (keep := []) (by kernel_rfl)
def Jc65s5 (F : Nat → Option IFn) (cx : Ctx) (x0 x1 : AV) (rows : List Row) (low : Nat) (r : AV × List Row × Nat → Prop) : Prop := Ex F cx (.code c65s5 :: []) ⟨mk 27 [(0, x0), (1, x1)], rows, low⟩ r
theorem jc65s5 : Ex F cx (.code c65s5 :: []) ⟨mk 27 l, rows, low⟩ r ↔ Jc65s5 F cx (lk l 0) (lk l 1) rows low r := Ex_canon (keep := [0, 1]) (by kernel_rfl)
def c65b : ICode := (.seq c65k12 c65s11)
@[simp] theorem uc65b : Ex F cx (.code c65b :: k) s r ↔ Ex F cx (.code (.seq c65k12 c65s11) :: k) s r := Iff.rfl
def c65 : IFn := ⟨27, [.t 4], c65b⟩
def h65 : List (Nat × List Nat) := [(0, dead 27 [0, 1]), (1, dead 27 [0, 1]), (2, dead 27 [0, 1, 5]), (3, dead 27 [5]), (4, dead 27 [0, 1]), (5, dead 27 []), (6, dead 27 [])]
theorem i65 {x0 x1 : AV} (hF : F 65 = some c65) {q : AV × List Row × Option Nat} (h : Ex F (.fn [.t 4]) [.code c65b] ⟨mk 27 [(0, x0), (1, x1)], rows, rows.length⟩ fun r => fin rows r.1 r.2.1 r.2.2 = q) : Ret F 65 [x0, x1] rows = some q := Ret_mk hF h
/-! tosher/search.Weighed$1 -/
def c66r0 : List Seg := [
  .grp [(⟨some 11, .load1 (.t 4), none⟩, 0), (⟨some 12, .mv (.t 1), none⟩, 0), (⟨some 13, .idxS 1 (.t 11) (.t 12), none⟩, 3), (⟨some 14, .load1 (.t 13), none⟩, 7), (⟨some 15, .load1 (.t 5), none⟩, 0), (⟨some 16, .fieldA 0 (.t 6), none⟩, 0), (⟨some 17, .load1 (.t 16), none⟩, 32), (⟨some 18, .fieldA 1 (.t 6), none⟩, 0), (⟨some 19, .load1 (.t 18), none⟩, 128), (⟨some 20, .bin .add (.t 19) (.c (.int .i64 1)), none⟩, 384), (⟨some 21, .sliceS 1 (.t 15) (some (.t 17)) (some (.t 20)) none, none⟩, 1008), (⟨some 22, .call (.c (.func 67 [])) [(.t 21)], none⟩, 2032), (⟨some 23, .bin .mul (.t 14) (.t 22), none⟩, 4095), (⟨some 24, .mv (.t 2), none⟩, 0), (⟨some 25, .bin .add (.t 23) (.t 24), none⟩, 16383), (⟨some 26, .mv (.t 3), none⟩, 0)],
  .one ⟨some 27, .bin .add (.t 25) (.t 26), none⟩,
  .one ⟨some 10, .mv (.t 27), none⟩]
def c66k0 : ICode := .kill (dead 28 [1, 2, 3, 4, 5, 6]) (.ops c66r0)
@[simp] theorem uc66k0 : Ex F cx (.code c66k0 :: k) ⟨mk 28 l, rows, low⟩ r ↔ bnd (evP (rows ++ maskE 0 ([] : List (Nat × Row))) (.load1 (.c (lk l 4)))) fun v0 => bnd (evP (rows ++ maskE 3 ([] : List (Nat × Row))) (.idxS 1 (.c v0) (.c (lk l 1)))) fun v1 => bnd (evP (rows ++ maskE 7 ([] : List (Nat × Row))) (.load1 (.c v1))) fun v2 => bnd (evP (rows ++ maskE 0 ([] : List (Nat × Row))) (.load1 (.c (lk l 5)))) fun v3 => bnd (evP (rows ++ maskE 0 ([] : List (Nat × Row))) (.fieldA 0 (.c (lk l 6)))) fun v4 => bnd (evP (rows ++ maskE 32 ([] : List (Nat × Row))) (.load1 (.c v4))) fun v5 => bnd (evP (rows ++ maskE 0 ([] : List (Nat × Row))) (.fieldA 1 (.c (lk l 6)))) fun v6 => bnd (evP (rows ++ maskE 128 ([] : List (Nat × Row))) (.load1 (.c v6))) fun v7 => bnd (evP (rows ++ maskE 384 ([] : List (Nat × Row))) (.bin .add (.c v7) (.c (.int .i64 1)))) fun v8 => bnd (evP (rows ++ maskE 1008 ([] : List (Nat × Row))) (.sliceS 1 (.c v3) (some (.c v5)) (some (.c v8)) none)) fun v9 => bnd (opC F (rows ++ maskE 2032 ([] : List (Nat × Row))) (rows.length + ([] : List (Nat × Row)).length) [v9] (.func 67 [])) fun q10 => q10.2.2 = rows.length + ([] : List (Nat × Row)).length ∧ bnd (some (([] : List (Nat × Row)) ++ List.map (fun (x : Row) => (11, x)) (q10.2.1.drop (rows.length + ([] : List (Nat × Row)).length)))) fun e10 => bnd (evP (rows ++ maskE 4095 e10) (.bin .mul (.c v2) (.c q10.1))) fun v11 => bnd (evP (rows ++ maskE 16383 e10) (.bin .add (.c v11) (.c (lk l 2)))) fun v12 => bnd (evP (rows ++ List.map (fun (x : Nat × Row) => x.2) e10) (.bin .add (.c v12) (.c (lk l 3)))) fun v13 => Ex F cx k ⟨mk 28 [(10, v13), (27, v13), (26, lk l 3), (25, v12), (24, lk l 2), (23, v11), (22, q10.1), (21, v9), (20, v8), (19, v7), (18, v6), (17, v5), (16, v4), (15, v3), (14, v2), (13, v1), (12, lk l 1), (11, v0), (1, lk l 1), (2, lk l 2), (3, lk l 3), (4, lk l 4), (5, lk l 5), (6, lk l 6)], (rows ++ List.map (fun (x : Nat × Row) => x.2) e10), low⟩ r := reg (keep := [1, 2, 3, 4, 5, 6]) (ops := c66r0) rfl (by kernel_rfl) (by kernel_rfl)
def c66s1 : ICode := (.seq c66k0 .ret)
@[simp] theorem uc66s1 : Ex F cx (.code c66s1 :: k) s r ↔ Ex F cx (.code (.seq c66k0 .ret) :: k) s r := Iff.rfl
def c66r2 : List Seg := [
  .one ⟨some 6, .box (.t 0), none⟩,
  .one ⟨some 10, .mv (.c (.int .i64 0)), none⟩]
def c66k2 : ICode := .kill (dead 28 [0, 1, 2, 3, 4, 5]) (.ops c66r2)
@[simp] theorem uc66k2 : Ex F cx (.code c66k2 :: k) ⟨mk 28 l, rows, low⟩ r ↔ bnd (evE rows low (.box (.c (lk l 0)))) fun q0 => Ex F cx k ⟨mk 28 [(10, (.int .i64 0)), (6, q0.1), (0, lk l 0), (1, lk l 1), (2, lk l 2), (3, lk l 3), (4, lk l 4), (5, lk l 5)], q0.2.1, q0.2.2⟩ r := reg (keep := [0, 1, 2, 3, 4, 5]) (ops := c66r2) rfl (by kernel_rfl) (by kernel_rfl)
def c66b : ICode := (.seq c66k2 c66s1)
@[simp] theorem uc66b : Ex F cx (.code c66b :: k) s r ↔ Ex F cx (.code (.seq c66k2 c66s1) :: k) s r := Iff.rfl
def c66 : IFn := ⟨28, [.t 10], c66b⟩
def h66 : List (Nat × List Nat) := [(0, dead 28 [0, 1, 2, 3, 4, 5]), (1, dead 28 [1, 2, 3, 4, 5, 6])]
theorem i66 {x0 x1 x2 x3 x4 x5 : AV} (hF : F 66 = some c66) {q : AV × List Row × Option Nat} (h : Ex F (.fn [.t 10]) [.code c66b] ⟨mk 28 [(0, x0), (1, x1), (2, x2), (3, x3), (4, x4), (5, x5)], rows, rows.length⟩ fun r => fin rows r.1 r.2.1 r.2.2 = q) : Ret F 66 [x0, x1, x2, x3, x4, x5] rows = some q := Ret_mk hF h
/-! tosher/search.sum -/
def c67r0 : List Seg := [
  .one ⟨some 16, .mv (.t 3), none⟩,
  .one ⟨some 2, .mv (.t 16), none⟩]
def c67k0 : ICode := .kill (dead 17 [3]) (.ops c67r0)
@[simp] theorem uc67k0 : Ex F cx (.code c67k0 :: k) ⟨mk 17 l, rows, low⟩ r ↔ Ex F cx k ⟨mk 17 [(2, lk l 3), (16, lk l 3), (3, lk l 3)], rows, low⟩ r := reg (keep := [3]) (ops := c67r0) rfl (by kernel_rfl) (by kernel_rfl)
def c67s1 : ICode := (.seq c67k0 .ret)
@[simp] theorem uc67s1 : Ex F cx (.code c67s1 :: k) s r ↔ Ex F cx (.code (.seq c67k0 .ret) :: k) s r := Iff.rfl
def c67r3 : List Seg := [
  .one ⟨some 15, .bin .add (.t 8) (.c (.int .i64 1)), none⟩,
  .one ⟨some 8, .mv (.t 15), none⟩]
def c67k3 : ICode := .kill (dead 17 [3, 6, 7, 8]) (.ops c67r3)
@[simp] theorem uc67k3 : Ex F cx (.code c67k3 :: k) ⟨mk 17 l, rows, low⟩ r ↔ bnd (evP rows (.bin .add (.c (lk l 8)) (.c (.int .i64 1)))) fun v0 => Ex F cx k ⟨mk 17 [(8, v0), (15, v0), (3, lk l 3), (6, lk l 6), (7, lk l 7), (8, lk l 8)], rows, low⟩ r := reg (keep := [3, 6, 7, 8]) (ops := c67r3) rfl (by kernel_rfl) (by kernel_rfl)
def c67r4 : List Seg := [
  .one ⟨some 12, .mv (.t 3), none⟩,
  .one ⟨some 13, .mv (.t 5), none⟩,
  .one ⟨some 14, .bin .add (.t 12) (.t 13), none⟩,
  .one ⟨some 3, .mv (.t 14), none⟩]
def c67k4 : ICode := .kill (dead 17 [3, 5, 6, 7, 8]) (.ops c67r4)
@[simp] theorem uc67k4 : Ex F cx (.code c67k4 :: k) ⟨mk 17 l, rows, low⟩ r ↔ bnd (evP rows (.bin .add (.c (lk l 3)) (.c (lk l 5)))) fun v0 => Ex F cx k ⟨mk 17 [(3, v0), (14, v0), (13, lk l 5), (12, lk l 3), (3, lk l 3), (5, lk l 5), (6, lk l 6), (7, lk l 7), (8, lk l 8)], rows, low⟩ r := reg (keep := [3, 5, 6, 7, 8]) (ops := c67r4) rfl (by kernel_rfl) (by kernel_rfl)
def c67r5 : List Seg := [
  .one ⟨some 10, .idxS 1 (.t 6) (.t 8), none⟩,
  .one ⟨some 11, .load1 (.t 10), none⟩,
  .one ⟨some 5, .mv (.t 11), none⟩]
def c67k5 : ICode := .kill (dead 17 [3, 6, 7, 8]) (.ops c67r5)
@[simp] theorem uc67k5 : Ex F cx (.code c67k5 :: k) ⟨mk 17 l, rows, low⟩ r ↔ bnd (evP rows (.idxS 1 (.c (lk l 6)) (.c (lk l 8)))) fun v0 => bnd (evP rows (.load1 (.c v0))) fun v1 => Ex F cx k ⟨mk 17 [(5, v1), (11, v1), (10, v0), (3, lk l 3), (6, lk l 6), (7, lk l 7), (8, lk l 8)], rows, low⟩ r := reg (keep := [3, 6, 7, 8]) (ops := c67r5) rfl (by kernel_rfl) (by kernel_rfl)
def c67s6 : ICode := (.seq (.block 1 (.seq c67k5 c67k4)) c67k3)
@[simp] theorem uc67s6 : Ex F cx (.code c67s6 :: k) s r ↔ Ex F cx (.code (.seq (.block 1 (.seq c67k5 c67k4)) c67k3) :: k) s r := Iff.rfl
def c67s7 : ICode := (.seq (.cond (.t 9) .skip (.exit 0)) c67s6)
@[simp] theorem uc67s7 : Ex F cx (.code c67s7 :: k) s r ↔ Ex F cx (.code (.seq (.cond (.t 9) .skip (.exit 0)) c67s6) :: k) s r := Iff.rfl
def c67r8 : List Seg := [
  .one ⟨some 9, .bin .lss (.t 8) (.t 7), none⟩]
def c67k8 : ICode := .kill (dead 17 [3, 6, 7, 8]) (.ops c67r8)
@[simp] theorem uc67k8 : Ex F cx (.code c67k8 :: k) ⟨mk 17 l, rows, low⟩ r ↔ bnd (evP rows (.bin .lss (.c (lk l 8)) (.c (lk l 7)))) fun v0 => Ex F cx k ⟨mk 17 [(9, v0), (3, lk l 3), (6, lk l 6), (7, lk l 7), (8, lk l 8)], rows, low⟩ r := reg (keep := [3, 6, 7, 8]) (ops := c67r8) rfl (by kernel_rfl) (by kernel_rfl)
def c67l2 : ICode := (.seq c67k8 c67s7)
def c67s9 : ICode := (.block 0 (.loop c67l2))
@[simp] theorem uc67s9 : Ex F cx (.code c67s9 :: k) s r ↔ Ex F cx (.code (.block 0 (.loop c67l2)) :: k) s r := Iff.rfl
def c67r10 : List Seg := [
  .one ⟨some 6, .mv (.t 0), none⟩,
  .one ⟨some 7, .len 0 (.t 6), none⟩,
  .one ⟨some 8, .mv (.c (.int .i64 0)), none⟩]
def c67k10 : ICode := .kill (dead 17 [0, 3]) (.ops c67r10)
@[simp] theorem uc67k10 : Ex F cx (.code c67k10 :: k) ⟨mk 17 l, rows, low⟩ r ↔ bnd (evP rows (.len 0 (.c (lk l 0)))) fun v0 => Ex F cx k ⟨mk 17 [(8, (.int .i64 0)), (7, v0), (6, lk l 0), (0, lk l 0), (3, lk l 3)], rows, low⟩ r := reg (keep := [0, 3]) (ops := c67r10) rfl (by kernel_rfl) (by kernel_rfl)
def c67s11 : ICode := (.seq (.seq c67k10 c67s9) c67s1)
@[simp] theorem uc67s11 : Ex F cx (.code c67s11 :: k) s r ↔ Ex F cx (.code (.seq (.seq c67k10 c67s9) c67s1) :: k) s r := Iff.rfl
def c67r12 : List Seg := [
  .one ⟨some 3, .mv (.c (.int .i64 0)), none⟩]
def c67k12 : ICode := .kill (dead 17 [0]) (.ops c67r12)
@[simp] theorem uc67k12 : Ex F cx (.code c67k12 :: k) ⟨mk 17 l, rows, low⟩ r ↔ Ex F cx k ⟨mk 17 [(3, (.int .i64 0)), (0, lk l 0)], rows, low⟩ r := reg (keep := [0]) (ops := c67r12) rfl (by kernel_rfl) (by kernel_rfl)
def c67s13 : ICode := (.seq c67k12 c67s11)
@[simp] theorem uc67s13 : Ex F cx (.code c67s13 :: k) s r ↔ Ex F cx (.code (.seq c67k12 c67s11) :: k) s r := Iff.rfl
def c67r14 : List Seg := [
  .one ⟨some 2, .mv (.c (.int .i64 0)), none⟩]
def c67k14 : ICode := .kill (dead 17 [0]) (.ops c67r14)
@[simp] theorem uc67k14 : Ex F cx (.code c67k14 :: k) ⟨mk 17 l, rows, low⟩ r ↔ Ex F cx k ⟨mk 17 [(2, (.int .i64 0)), (0, lk l 0)], rows, low⟩ r := reg (keep := [0]) (ops := c67r14) rfl (by kernel_rfl) (by kernel_rfl)
def Jc67s6 (F : Nat → Option IFn) (cx : Ctx) (x3 x6 x7 x8 : AV) (rows : List Row) (low : Nat) (r : AV × List Row × Nat → Prop) : Prop := Ex F cx (.code c67s6 :: .inLoop c67l2 :: .inBlock 0 :: .code c67s1 :: []) ⟨mk 17 [(3, x3), (6, x6), (7, x7), (8, x8)], rows, low⟩ r
theorem jc67s6 : Ex F cx (.code c67s6 :: .inLoop c67l2 :: .inBlock 0 :: .code c67s1 :: []) ⟨mk 17 l, rows, low⟩ r ↔ Jc67s6 F cx (lk l 3) (lk l 6) (lk l 7) (lk l 8) rows low r := Ex_canon (keep := [3, 6, 7, 8]) (by kernel_rfl)
def Lc67l2 (F : Nat → Option IFn) (cx : Ctx) (x3 x6 x7 x8 : AV) (rows : List Row) (low : Nat) (r : AV × List Row × Nat → Prop) : Prop := Ex F cx (.code c67l2 :: .inLoop c67l2 :: .inBlock 0 :: .code c67s1 :: []) ⟨mk 17 [(3, x3), (6, x6), (7, x7), (8, x8)], rows, low⟩ r
@[simp] theorem nc67l2 : Ex F cx (.inLoop c67l2 :: .inBlock 0 :: .code c67s1 :: []) ⟨mk 17 l, rows, low⟩ r ↔ Lc67l2 F cx (lk l 3) (lk l 6) (lk l 7) (lk l 8) rows low r := loopN (keep := [3, 6, 7, 8]) (by kernel_rfl)
@[simp] theorem ec67l2 : Ex F cx (.code (.loop c67l2) :: .inBlock 0 :: .code c67s1 :: []) ⟨mk 17 l, rows, low⟩ r ↔ Lc67l2 F cx (lk l 3) (lk l 6) (lk l 7) (lk l 8) rows low r := loopE (keep := [3, 6, 7, 8]) (by kernel_rfl)
@[simp] theorem uc67l2 : Ex F cx (.code c67l2 :: k) s r ↔ Ex F cx (.code (.seq c67k8 c67s7) :: k) s r := Iff.rfl
def c67b : ICode := (.seq c67k14 c67s13)
@[simp] theorem uc67b : Ex F cx (.code c67b :: k) s r ↔ Ex F cx (.code (.seq c67k14 c67s13) :: k) s r := Iff.rfl
def c67 : IFn := ⟨17, [.t 2], c67b⟩
def h67 : List (Nat × List Nat) := [(0, dead 17 [0]), (1, dead 17 [0]), (2, dead 17 [0, 3]), (3, dead 17 [3, 6, 7, 8]), (4, dead 17 [3, 6, 7, 8]), (5, dead 17 [3, 5, 6, 7, 8]), (6, dead 17 [3, 6, 7, 8]), (7, dead 17 [3])]
theorem i67 {x0 : AV} (hF : F 67 = some c67) {q : AV × List Row × Option Nat} (h : Ex F (.fn [.t 2]) [.code c67b] ⟨mk 17 [(0, x0)], rows, rows.length⟩ fun r => fin rows r.1 r.2.1 r.2.2 = q) : Ret F 67 [x0] rows = some q := Ret_mk hF h
/-! tosher/search.openTree -/
def c68r0 : List Seg := [
  .one ⟨some 96, .mv (.t 6), none⟩,
  .one ⟨some 4, .mv (.t 96), none⟩,
  .one ⟨some 5, .mv (.c (.int .i64 0)), none⟩]
def c68k0 : ICode := .kill (dead 97 [6]) (.ops c68r0)
@[simp] theorem uc68k0 : Ex F cx (.code c68k0 :: k) ⟨mk 97 l, rows, low⟩ r ↔ Ex F cx k ⟨mk 97 [(5, (.int .i64 0)), (4, lk l 6), (96, lk l 6), (6, lk l 6)], rows, low⟩ r := reg (keep := [6]) (ops := c68r0) rfl (by kernel_rfl) (by kernel_rfl)
def c68s1 : ICode := (.seq c68k0 .ret)
@[simp] theorem uc68s1 : Ex F cx (.code c68s1 :: k) s r ↔ Ex F cx (.code (.seq c68k0 .ret) :: k) s r := Iff.rfl
def c68r2 : List Seg := [
  .one ⟨some 4, .mv (.c .nilptr), none⟩,
  .one ⟨some 5, .mv (.c (.int .i64 81)), none⟩]
def c68k2 : ICode := .kill (dead 97 []) (.ops c68r2)
@[simp] theorem uc68k2 : Ex F cx (.code c68k2 :: k) ⟨mk 97 l, rows, low⟩ r ↔ Ex F cx k ⟨mk 97 [(5, (.int .i64 81)), (4, .nilptr)], rows, low⟩ r := reg (keep := []) (ops := c68r2) rfl (by kernel_rfl) (by kernel_rfl)
def c68s3 : ICode := (.cond (.t 95) (.seq c68k2 .ret) .skip)
@[simp] theorem uc68s3 : Ex F cx (.code c68s3 :: k) s r ↔ Ex F cx (.code (.cond (.t 95) (.seq c68k2 .ret) .skip) :: k) s r := Iff.rfl
def c68r4 : List Seg := [
  .one ⟨some 89, .mv (.t 6), none⟩,
  .one ⟨some 90, .mv (.t 6), none⟩,
  .one ⟨some 91, .call (.c (.func 78 [])) [(.t 90)], none⟩,
  .one ⟨some 92, .call (.c (.func 70 [])) [(.t 89), (.c (.int .i64 0)), (.t 91)], none⟩,
  .one ⟨some 93, .mv (.t 6), none⟩,
  .one ⟨some 94, .call (.c (.func 78 [])) [(.t 93)], none⟩,
  .one ⟨some 95, .bin .neq (.t 92) (.t 94), none⟩]
def c68k4 : ICode := .kill (dead 97 [6]) (.ops c68r4)
@[simp] theorem uc68k4 : Ex F cx (.code c68k4 :: k) ⟨mk 97 l, rows, low⟩ r ↔ bnd (Ret F 78 [lk l 6] rows) fun q0 => bnd (Ret F 70 [lk l 6, (.int .i64 0), q0.1] q0.2.1) fun q1 => bnd (Ret F 78 [lk l 6] q1.2.1) fun q2 => bnd (evP q2.2.1 (.bin .neq (.c q1.1) (.c q2.1))) fun v3 => Ex F cx k ⟨mk 97 [(95, v3), (94, q2.1), (93, lk l 6), (92, q1.1), (91, q0.1), (90, lk l 6), (89, lk l 6), (6, lk l 6)], q2.2.1, (lowO (lowO (lowO low q0.2.2) q1.2.2) q2.2.2)⟩ r := reg (keep := [6]) (ops := c68r4) rfl (by kernel_rfl) (by kernel_rfl)
def c68s5 : ICode := (.seq (.seq c68k4 c68s3) c68s1)
@[simp] theorem uc68s5 : Ex F cx (.code c68s5 :: k) s r ↔ Ex F cx (.code (.seq (.seq c68k4 c68s3) c68s1) :: k) s r := Iff.rfl
def c68r7 : List Seg := [
  .one ⟨some 88, .bin .add (.t 23) (.c (.int .i64 1)), none⟩,
  .one ⟨some 23, .mv (.t 88), none⟩]
def c68k7 : ICode := .kill (dead 97 [0, 1, 6, 21, 22, 23]) (.ops c68r7)
@[simp] theorem uc68k7 : Ex F cx (.code c68k7 :: k) ⟨mk 97 l, rows, low⟩ r ↔ bnd (evP rows (.bin .add (.c (lk l 23)) (.c (.int .i64 1)))) fun v0 => Ex F cx k ⟨mk 97 [(23, v0), (88, v0), (0, lk l 0), (1, lk l 1), (6, lk l 6), (21, lk l 21), (22, lk l 22), (23, lk l 23)], rows, low⟩ r := reg (keep := [0, 1, 6, 21, 22, 23]) (ops := c68r7) rfl (by kernel_rfl) (by kernel_rfl)
def c68r8 : List Seg := [
  .grp [(⟨some 73, .mv (.t 6), none⟩, 0), (⟨some 74, .idxA 2 1 (.t 8) (.c (.int .i64 1)), none⟩, 0), (⟨some 75, .load1 (.t 74), none⟩, 2), (⟨some 76, .nilck (.t 73), none⟩, 1), (⟨some 77, .fieldA 1 (.t 76), none⟩, 9), (⟨some 78, .idxA 10 1 (.t 77) (.t 75), none⟩, 31), (⟨some 79, .load1 (.t 78), none⟩, 63), (⟨some 80, .idxA 2 1 (.t 8) (.c (.int .i64 0)), none⟩, 0), (⟨some 81, .load1 (.t 80), none⟩, 128), (⟨some 82, .conv .u64 (.t 81), none⟩, 384), (⟨some 83, .bin .shl (.c (.int .i64 1)) (.t 82), none⟩, 896), (⟨some 84, .bin .or (.t 79) (.t 83), none⟩, 2047), (⟨some 85, .nilck (.t 73), none⟩, 1), (⟨some 86, .fieldA 1 (.t 85), none⟩, 4097)],
  .one ⟨some 87, .idxA 10 1 (.t 86) (.t 75), none⟩,
  .one ⟨none, .store1 (.t 87) (.t 84), none⟩]
def c68k8 : ICode := .kill (dead 97 [0, 1, 6, 8, 21, 22, 23]) (.ops c68r8)
@[simp] theorem uc68k8 : Ex F cx (.code c68k8 :: k) ⟨mk 97 l, rows, low⟩ r ↔ bnd (evP rows (.idxA 2 1 (.c (lk l 8)) (.c (.int .i64 1)))) fun v0 => bnd (evP rows (.load1 (.c v0))) fun v1 => bnd (evP rows (.nilck (.c (lk l 6)))) fun v2 => bnd (evP rows (.fieldA 1 (.c v2))) fun v3 => bnd (evP rows (.idxA 10 1 (.c v3) (.c v1))) fun v4 => bnd (evP rows (.load1 (.c v4))) fun v5 => bnd (evP rows (.idxA 2 1 (.c (lk l 8)) (.c (.int .i64 0)))) fun v6 => bnd (evP rows (.load1 (.c v6))) fun v7 => bnd (evP rows (.conv .u64 (.c v7))) fun v8 => bnd (evP rows (.bin .shl (.c (.int .i64 1)) (.c v8))) fun v9 => bnd (evP rows (.bin .or (.c v5) (.c v9))) fun v10 => bnd (evP rows (.nilck (.c (lk l 6)))) fun v11 => bnd (evP rows (.fieldA 1 (.c v11))) fun v12 => bnd (evP rows (.idxA 10 1 (.c v12) (.c v1))) fun v13 => bnd (evE rows low (.store1 (.c v13) (.c v10))) fun q14 => Ex F cx k ⟨mk 97 [(87, v13), (86, v12), (85, v11), (84, v10), (83, v9), (82, v8), (81, v7), (80, v6), (79, v5), (78, v4), (77, v3), (76, v2), (75, v1), (74, v0), (73, lk l 6), (0, lk l 0), (1, lk l 1), (6, lk l 6), (8, lk l 8), (21, lk l 21), (22, lk l 22), (23, lk l 23)], q14.2.1, q14.2.2⟩ r := reg (keep := [0, 1, 6, 8, 21, 22, 23]) (ops := c68r8) rfl (by kernel_rfl) (by kernel_rfl)
def c68r9 : List Seg := [
  .grp [(⟨some 58, .mv (.t 6), none⟩, 0), (⟨some 59, .idxA 2 1 (.t 8) (.c (.int .i64 0)), none⟩, 0), (⟨some 60, .load1 (.t 59), none⟩, 2), (⟨some 61, .nilck (.t 58), none⟩, 1), (⟨some 62, .fieldA 1 (.t 61), none⟩, 9), (⟨some 63, .idxA 10 1 (.t 62) (.t 60), none⟩, 31), (⟨some 64, .load1 (.t 63), none⟩, 63), (⟨some 65, .idxA 2 1 (.t 8) (.c (.int .i64 1)), none⟩, 0), (⟨some 66, .load1 (.t 65), none⟩, 128), (⟨some 67, .conv .u64 (.t 66), none⟩, 384), (⟨some 68, .bin .shl (.c (.int .i64 1)) (.t 67), none⟩, 896), (⟨some 69, .bin .or (.t 64) (.t 68), none⟩, 2047), (⟨some 70, .nilck (.t 58), none⟩, 1), (⟨some 71, .fieldA 1 (.t 70), none⟩, 4097)],
  .one ⟨some 72, .idxA 10 1 (.t 71) (.t 60), none⟩,
  .one ⟨none, .store1 (.t 72) (.t 69), none⟩]
def c68k9 : ICode := .kill (dead 97 [0, 1, 6, 8, 21, 22, 23]) (.ops c68r9)
@[simp] theorem uc68k9 : Ex F cx (.code c68k9 :: k) ⟨mk 97 l, rows, low⟩ r ↔ bnd (evP rows (.idxA 2 1 (.c (lk l 8)) (.c (.int .i64 0)))) fun v0 => bnd (evP rows (.load1 (.c v0))) fun v1 => bnd (evP rows (.nilck (.c (lk l 6)))) fun v2 => bnd (evP rows (.fieldA 1 (.c v2))) fun v3 => bnd (evP rows (.idxA 10 1 (.c v3) (.c v1))) fun v4 => bnd (evP rows (.load1 (.c v4))) fun v5 => bnd (evP rows (.idxA 2 1 (.c (lk l 8)) (.c (.int .i64 1)))) fun v6 => bnd (evP rows (.load1 (.c v6))) fun v7 => bnd (evP rows (.conv .u64 (.c v7))) fun v8 => bnd (evP rows (.bin .shl (.c (.int .i64 1)) (.c v8))) fun v9 => bnd (evP rows (.bin .or (.c v5) (.c v9))) fun v10 => bnd (evP rows (.nilck (.c (lk l 6)))) fun v11 => bnd (evP rows (.fieldA 1 (.c v11))) fun v12 => bnd (evP rows (.idxA 10 1 (.c v12) (.c v1))) fun v13 => bnd (evE rows low (.store1 (.c v13) (.c v10))) fun q14 => Ex F cx k ⟨mk 97 [(72, v13), (71, v12), (70, v11), (69, v10), (68, v9), (67, v8), (66, v7), (65, v6), (64, v5), (63, v4), (62, v3), (61, v2), (60, v1), (59, v0), (58, lk l 6), (0, lk l 0), (1, lk l 1), (6, lk l 6), (8, lk l 8), (21, lk l 21), (22, lk l 22), (23, lk l 23)], q14.2.1, q14.2.2⟩ r := reg (keep := [0, 1, 6, 8, 21, 22, 23]) (ops := c68r9) rfl (by kernel_rfl) (by kernel_rfl)
def c68s10 : ICode := (.seq c68k9 c68k8)
@[simp] theorem uc68s10 : Ex F cx (.code c68s10 :: k) s r ↔ Ex F cx (.code (.seq c68k9 c68k8) :: k) s r := Iff.rfl
def c68r11 : List Seg := [
  .one ⟨some 4, .mv (.c .nilptr), none⟩,
  .one ⟨some 5, .mv (.c (.int .i64 81)), none⟩]
def c68k11 : ICode := .kill (dead 97 []) (.ops c68r11)
@[simp] theorem uc68k11 : Ex F cx (.code c68k11 :: k) ⟨mk 97 l, rows, low⟩ r ↔ Ex F cx k ⟨mk 97 [(5, (.int .i64 81)), (4, .nilptr)], rows, low⟩ r := reg (keep := []) (ops := c68r11) rfl (by kernel_rfl) (by kernel_rfl)
def c68s12 : ICode := (.cond (.t 57) (.seq c68k11 .ret) .skip)
@[simp] theorem uc68s12 : Ex F cx (.code c68s12 :: k) s r ↔ Ex F cx (.code (.cond (.t 57) (.seq c68k11 .ret) .skip) :: k) s r := Iff.rfl
def c68r13 : List Seg := [
  .one ⟨some 28, .idxA 2 1 (.t 8) (.c (.int .i64 0)), none⟩,
  .one ⟨some 29, .load1 (.t 28), none⟩,
  .one ⟨some 30, .bin .lss (.t 29) (.c (.int .i64 0)), none⟩,
  .one ⟨some 31, .mv (.t 30), none⟩,
  .grp [(⟨some 32, .idxA 2 1 (.t 8) (.c (.int .i64 0)), some (31, false)⟩, 0), (⟨some 33, .load1 (.t 32), some (31, false)⟩, 1), (⟨some 34, .idxA 2 1 (.t 8) (.c (.int .i64 1)), some (31, false)⟩, 0), (⟨some 35, .load1 (.t 34), some (31, false)⟩, 4)],
  .one ⟨some 36, .bin .geq (.t 33) (.t 35), some (31, false)⟩,
  .one ⟨some 37, .pick (.t 31) (.c (.bool true)) (.t 36), none⟩,
  .one ⟨some 38, .mv (.t 37), none⟩,
  .grp [(⟨some 39, .idxA 2 1 (.t 8) (.c (.int .i64 1)), some (38, false)⟩, 0), (⟨some 40, .load1 (.t 39), some (38, false)⟩, 1), (⟨some 41, .mv (.t 0), some (38, false)⟩, 0)],
  .one ⟨some 42, .bin .geq (.t 40) (.t 41), some (38, false)⟩,
  .one ⟨some 43, .pick (.t 38) (.c (.bool true)) (.t 42), none⟩,
  .one ⟨some 44, .mv (.t 43), none⟩,
  .one ⟨some 45, .mv (.t 7), some (44, false)⟩,
  .one ⟨some 46, .bin .gtr (.t 45) (.c (.int .i64 0)), some (44, false)⟩,
  .one ⟨some 47, .mv (.t 46), some (44, false)⟩,
  .grp [(⟨some 48, .mv (.t 1), some (47, true)⟩, 0), (⟨some 49, .mv (.t 7), some (47, true)⟩, 0), (⟨some 50, .bin .sub (.t 49) (.c (.int .i64 1)), some (47, true)⟩, 2), (⟨some 51, .idxS 2 (.t 48) (.t 50), some (47, true)⟩, 7), (⟨some 52, .sliceA 2 1 (.t 51) none none none, some (47, true)⟩, 15), (⟨some 53, .sliceA 2 1 (.t 8) none none none, some (47, true)⟩, 0)],
  .one ⟨some 54, .call (.c (.func 91 [])) [(.t 52), (.t 53)], some (47, true)⟩,
  .one ⟨some 55, .bin .geq (.t 54) (.c (.int .i64 0)), some (47, true)⟩,
  .one ⟨some 56, .pick (.t 47) (.t 55) (.c (.bool false)), some (44, false)⟩,
  .one ⟨some 57, .pick (.t 44) (.c (.bool true)) (.t 56), none⟩]
def c68k13 : ICode := .kill (dead 97 [0, 1, 6, 7, 8, 21, 22, 23]) (.ops c68r13)
@[simp] theorem uc68k13 : Ex F cx (.code c68k13 :: k) ⟨mk 97 l, rows, low⟩ r ↔ bnd (evP rows (.idxA 2 1 (.c (lk l 8)) (.c (.int .i64 0)))) fun v0 => bnd (evP rows (.load1 (.c v0))) fun v1 => bnd (evP rows (.bin .lss (.c v1) (.c (.int .i64 0)))) fun v2 => bnd (gv v2 false (evP rows (.idxA 2 1 (.c (lk l 8)) (.c (.int .i64 0))))) fun v3 => bnd (gv v2 false (evP rows (.load1 (.c v3)))) fun v4 => bnd (gv v2 false (evP rows (.idxA 2 1 (.c (lk l 8)) (.c (.int .i64 1))))) fun v5 => bnd (gv v2 false (evP rows (.load1 (.c v5)))) fun v6 => bnd (gv v2 false (evP rows (.bin .geq (.c v4) (.c v6)))) fun v7 => bnd (evP rows (.pick (.c v2) (.c (.bool true)) (.c v7))) fun v8 => bnd (gv v8 false (evP rows (.idxA 2 1 (.c (lk l 8)) (.c (.int .i64 1))))) fun v9 => bnd (gv v8 false (evP rows (.load1 (.c v9)))) fun v10 => bnd (gv v8 false (evP rows (.mv (.c (lk l 0))))) fun v11 => bnd (gv v8 false (evP rows (.bin .geq (.c v10) (.c v11)))) fun v12 => bnd (evP rows (.pick (.c v8) (.c (.bool true)) (.c v12))) fun v13 => bnd (gv v13 false (evP rows (.mv (.c (lk l 7))))) fun v14 => bnd (gv v13 false (evP rows (.bin .gtr (.c v14) (.c (.int .i64 0))))) fun v15 => bnd (gv v13 false (evP rows (.mv (.c v15)))) fun v16 => bnd (gv v16 true (evP rows (.mv (.c (lk l 1))))) fun v17 => bnd (gv v16 true (evP rows (.mv (.c (lk l 7))))) fun v18 => bnd (gv v16 true (evP rows (.bin .sub (.c v18) (.c (.int .i64 1))))) fun v19 => bnd (gv v16 true (evP rows (.idxS 2 (.c v17) (.c v19)))) fun v20 => bnd (gv v16 true (evP rows (.sliceA 2 1 (.c v20) none none none))) fun v21 => bnd (gv v16 true (evP rows (.sliceA 2 1 (.c (lk l 8)) none none none))) fun v22 => gcall F v16 true rows low [v21, v22] (.func 91 []) fun v23 R23 L23 => bnd (gv v16 true (evP R23 (.bin .geq (.c v23) (.c (.int .i64 0))))) fun v24 => bnd (gv v13 false (evP R23 (.pick (.c v16) (.c v24) (.c (.bool false))))) fun v25 => bnd (evP R23 (.pick (.c v13) (.c (.bool true)) (.c v25))) fun v26 => Ex F cx k ⟨mk 97 [(57, v26), (56, v25), (55, v24), (54, v23), (53, v22), (52, v21), (51, v20), (50, v19), (49, v18), (48, v17), (47, v16), (46, v15), (45, v14), (44, v13), (43, v13), (42, v12), (41, v11), (40, v10), (39, v9), (38, v8), (37, v8), (36, v7), (35, v6), (34, v5), (33, v4), (32, v3), (31, v2), (30, v2), (29, v1), (28, v0), (0, lk l 0), (1, lk l 1), (6, lk l 6), (7, lk l 7), (8, lk l 8), (21, lk l 21), (22, lk l 22), (23, lk l 23)], R23, L23⟩ r := reg (keep := [0, 1, 6, 7, 8, 21, 22, 23]) (ops := c68r13) rfl (by kernel_rfl) (by kernel_rfl)
def c68s14 : ICode := (.seq (.seq c68k13 c68s12) c68s10)
@[simp] theorem uc68s14 : Ex F cx (.code c68s14 :: k) s r ↔ Ex F cx (.code (.seq (.seq c68k13 c68s12) c68s10) :: k) s r := Iff.rfl
def c68r15 : List Seg := [
  .one ⟨some 25, .mv (.t 23), none⟩,
  .one ⟨some 26, .idxS 2 (.t 21) (.t 23), none⟩,
  .one ⟨some 27, .loadN 2 (.t 26), none⟩,
  .one ⟨some 8, .box (.c (.agg [.int .i64 0, .int .i64 0])), none⟩,
  .one ⟨some 7, .mv (.t 25), none⟩,
  .one ⟨none, .storeN 2 (.t 8) (.t 27), none⟩]
def c68k15 : ICode := .kill (dead 97 [0, 1, 6, 21, 22, 23]) (.ops c68r15)
@[simp] theorem uc68k15 : Ex F cx (.code c68k15 :: k) ⟨mk 97 l, rows, low⟩ r ↔ bnd (evP rows (.idxS 2 (.c (lk l 21)) (.c (lk l 23)))) fun v0 => bnd (evP rows (.loadN 2 (.c v0))) fun v1 => bnd (evE rows low (.box (.c (.agg [.int .i64 0, .int .i64 0])))) fun q2 => bnd (evE q2.2.1 q2.2.2 (.storeN 2 (.c q2.1) (.c v1))) fun q3 => Ex F cx k ⟨mk 97 [(7, lk l 23), (8, q2.1), (27, v1), (26, v0), (25, lk l 23), (0, lk l 0), (1, lk l 1), (6, lk l 6), (21, lk l 21), (22, lk l 22), (23, lk l 23)], q3.2.1, q3.2.2⟩ r := reg (keep := [0, 1, 6, 21, 22, 23]) (ops := c68r15) rfl (by kernel_rfl) (by kernel_rfl)
def c68s16 : ICode := (.seq (.block 1 (.seq c68k15 c68s14)) c68k7)
@[simp] theorem uc68s16 : Ex F cx (.code c68s16 :: k) s r ↔ Ex F cx (.code (.seq (.block 1 (.seq c68k15 c68s14)) c68k7) :: k) s r := Iff.rfl
def c68s17 : ICode := (.seq (.cond (.t 24) .skip (.exit 0)) c68s16)
@[simp] theorem uc68s17 : Ex F cx (.code c68s17 :: k) s r ↔ Ex F cx (.code (.seq (.cond (.t 24) .skip (.exit 0)) c68s16) :: k) s r := Iff.rfl
def c68r18 : List Seg := [
  .one ⟨some 24, .bin .lss (.t 23) (.t 22), none⟩]
def c68k18 : ICode := .kill (dead 97 [0, 1, 6, 21, 22, 23]) (.ops c68r18)
@[simp] theorem uc68k18 : Ex F cx (.code c68k18 :: k) ⟨mk 97 l, rows, low⟩ r ↔ bnd (evP rows (.bin .lss (.c (lk l 23)) (.c (lk l 22)))) fun v0 => Ex F cx k ⟨mk 97 [(24, v0), (0, lk l 0), (1, lk l 1), (6, lk l 6), (21, lk l 21), (22, lk l 22), (23, lk l 23)], rows, low⟩ r := reg (keep := [0, 1, 6, 21, 22, 23]) (ops := c68r18) rfl (by kernel_rfl) (by kernel_rfl)
def c68l6 : ICode := (.seq c68k18 c68s17)
def c68s19 : ICode := (.block 0 (.loop c68l6))
@[simp] theorem uc68s19 : Ex F cx (.code c68s19 :: k) s r ↔ Ex F cx (.code (.block 0 (.loop c68l6)) :: k) s r := Iff.rfl
def c68r20 : List Seg := [
  .one ⟨some 21, .mv (.t 1), none⟩,
  .one ⟨some 22, .len 0 (.t 21), none⟩,
  .one ⟨some 23, .mv (.c (.int .i64 0)), none⟩]
def c68k20 : ICode := .kill (dead 97 [0, 1, 6]) (.ops c68r20)
@[simp] theorem uc68k20 : Ex F cx (.code c68k20 :: k) ⟨mk 97 l, rows, low⟩ r ↔ bnd (evP rows (.len 0 (.c (lk l 1)))) fun v0 => Ex F cx k ⟨mk 97 [(23, (.int .i64 0)), (22, v0), (21, lk l 1), (0, lk l 0), (1, lk l 1), (6, lk l 6)], rows, low⟩ r := reg (keep := [0, 1, 6]) (ops := c68r20) rfl (by kernel_rfl) (by kernel_rfl)
def c68s21 : ICode := (.seq (.seq c68k20 c68s19) c68s5)
@[simp] theorem uc68s21 : Ex F cx (.code c68s21 :: k) s r ↔ Ex F cx (.code (.seq (.seq c68k20 c68s19) c68s5) :: k) s r := Iff.rfl
def c68r22 : List Seg := [
  .one ⟨some 4, .mv (.c .nilptr), none⟩,
  .one ⟨some 5, .mv (.c (.int .i64 81)), none⟩]
def c68k22 : ICode := .kill (dead 97 []) (.ops c68r22)
@[simp] theorem uc68k22 : Ex F cx (.code c68k22 :: k) ⟨mk 97 l, rows, low⟩ r ↔ Ex F cx k ⟨mk 97 [(5, (.int .i64 81)), (4, .nilptr)], rows, low⟩ r := reg (keep := []) (ops := c68r22) rfl (by kernel_rfl) (by kernel_rfl)
def c68s23 : ICode := (.cond (.t 20) (.seq c68k22 .ret) .skip)
@[simp] theorem uc68s23 : Ex F cx (.code c68s23 :: k) s r ↔ Ex F cx (.code (.cond (.t 20) (.seq c68k22 .ret) .skip) :: k) s r := Iff.rfl
def c68r24 : List Seg := [
  .one ⟨some 16, .mv (.t 1), none⟩,
  .one ⟨some 17, .len 0 (.t 16), none⟩,
  .one ⟨some 18, .mv (.t 0), none⟩,
  .one ⟨some 19, .bin .sub (.t 18) (.c (.int .i64 1)), none⟩,
  .one ⟨some 20, .bin .neq (.t 17) (.t 19), none⟩]
def c68k24 : ICode := .kill (dead 97 [0, 1, 6]) (.ops c68r24)
@[simp] theorem uc68k24 : Ex F cx (.code c68k24 :: k) ⟨mk 97 l, rows, low⟩ r ↔ bnd (evP rows (.len 0 (.c (lk l 1)))) fun v0 => bnd (evP rows (.bin .sub (.c (lk l 0)) (.c (.int .i64 1)))) fun v1 => bnd (evP rows (.bin .neq (.c v0) (.c v1))) fun v2 => Ex F cx k ⟨mk 97 [(20, v2), (19, v1), (18, lk l 0), (17, v0), (16, lk l 1), (0, lk l 0), (1, lk l 1), (6, lk l 6)], rows, low⟩ r := reg (keep := [0, 1, 6]) (ops := c68r24) rfl (by kernel_rfl) (by kernel_rfl)
def c68s25 : ICode := (.seq (.seq c68k24 c68s23) c68s21)
@[simp] theorem uc68s25 : Ex F cx (.code c68s25 :: k) s r ↔ Ex F cx (.code (.seq (.seq c68k24 c68s23) c68s21) :: k) s r := Iff.rfl
def c68r26 : List Seg := [
  .one ⟨some 13, .mv (.t 0), none⟩,
  .one ⟨some 14, .mkagg (List.replicate 11 (.int .i64 0)) [(0, 1, (.t 13))], none⟩,
  .one ⟨some 15, .box (.t 14), none⟩,
  .one ⟨some 6, .mv (.t 15), none⟩]
def c68k26 : ICode := .kill (dead 97 [0, 1]) (.ops c68r26)
@[simp] theorem uc68k26 : Ex F cx (.code c68k26 :: k) ⟨mk 97 l, rows, low⟩ r ↔ bnd (evP rows (.mkagg (List.replicate 11 (.int .i64 0)) [(0, 1, (.c (lk l 0)))])) fun v0 => bnd (evE rows low (.box (.c v0))) fun q1 => Ex F cx k ⟨mk 97 [(6, q1.1), (15, q1.1), (14, v0), (13, lk l 0), (0, lk l 0), (1, lk l 1)], q1.2.1, q1.2.2⟩ r := reg (keep := [0, 1]) (ops := c68r26) rfl (by kernel_rfl) (by kernel_rfl)
def c68s27 : ICode := (.seq c68k26 c68s25)
@[simp] theorem uc68s27 : Ex F cx (.code c68s27 :: k) s r ↔ Ex F cx (.code (.seq c68k26 c68s25) :: k) s r := Iff.rfl
def c68r28 : List Seg := [
  .one ⟨some 4, .mv (.c .nilptr), none⟩,
  .one ⟨some 5, .mv (.c (.int .i64 1)), none⟩]
def c68k28 : ICode := .kill (dead 97 []) (.ops c68r28)
@[simp] theorem uc68k28 : Ex F cx (.code c68k28 :: k) ⟨mk 97 l, rows, low⟩ r ↔ Ex F cx k ⟨mk 97 [(5, (.int .i64 1)), (4, .nilptr)], rows, low⟩ r := reg (keep := []) (ops := c68r28) rfl (by kernel_rfl) (by kernel_rfl)
def c68s29 : ICode := (.cond (.t 12) (.seq c68k28 .ret) .skip)
@[simp] theorem uc68s29 : Ex F cx (.code c68s29 :: k) s r ↔ Ex F cx (.code (.cond (.t 12) (.seq c68k28 .ret) .skip) :: k) s r := Iff.rfl
def c68r30 : List Seg := [
  .one ⟨some 9, .mv (.t 0), none⟩,
  .one ⟨some 10, .mkslice 1 [.int .i64 0] [(0, 1, (.t 9))], none⟩,
  .one ⟨some 11, .call (.c (.func 55 [])) [(.c (.int .i64 1)), (.c (.int .i64 10)), (.t 10)], none⟩,
  .one ⟨some 12, .un .not (.t 11), none⟩]
def c68k30 : ICode := .kill (dead 97 [0, 1]) (.ops c68r30)
@[simp] theorem uc68k30 : Ex F cx (.code c68k30 :: k) ⟨mk 97 l, rows, low⟩ r ↔ bnd (evE rows low (.mkslice 1 [.int .i64 0] [(0, 1, (.c (lk l 0)))])) fun q0 => bnd (Ret F 55 [(.int .i64 1), (.int .i64 10), q0.1] q0.2.1) fun q1 => bnd (evP q1.2.1 (.un .not (.c q1.1))) fun v2 => Ex F cx k ⟨mk 97 [(12, v2), (11, q1.1), (10, q0.1), (9, lk l 0), (0, lk l 0), (1, lk l 1)], q1.2.1, (lowO q0.2.2 q1.2.2)⟩ r := reg (keep := [0, 1]) (ops := c68r30) rfl (by kernel_rfl) (by kernel_rfl)
def c68s31 : ICode := (.seq (.seq c68k30 c68s29) c68s27)
@[simp] theorem uc68s31 : Ex F cx (.code c68s31 :: k) s r ↔ Ex F cx (.code (.seq (.seq c68k30 c68s29) c68s27) :: k) s r := Iff.rfl
def c68r32 : List Seg := [
  .one ⟨some 4, .mv (.c .nilptr), none⟩,
  .one ⟨some 5, .mv (.c (.int .i64 0)), none⟩]
def c68k32 : ICode := .kill (dead 97 [0, 1]) (.ops c68r32)
@[simp] theorem uc68k32 : Ex F cx (.code c68k32 :: k) ⟨mk 97 l, rows, low⟩ r ↔ Ex F cx k ⟨mk 97 [(5, (.int .i64 0)), (4, .nilptr), (0, lk l 0), (1, lk l 1)], rows, low⟩ r := reg (keep := [0, 1]) (ops := c68r32) rfl (by kernel_rfl) (by kernel_rfl)
def Jc68s1 (F : Nat → Option IFn) (cx : Ctx) (x6 : AV) (rows : List Row) (low : Nat) (r : AV × List Row × Nat → Prop) : Prop := Ex F cx (.code c68s1 :: []) ⟨mk 97 [(6, x6)], rows, low⟩ r
theorem jc68s1 : Ex F cx (.code c68s1 :: []) ⟨mk 97 l, rows, low⟩ r ↔ Jc68s1 F cx (lk l 6) rows low r := Ex_canon (keep := [6]) (by kernel_rfl)
def Jc68s10 (F : Nat → Option IFn) (cx : Ctx) (x0 x1 x6 x8 x21 x22 x23 : AV) (rows : List Row) (low : Nat) (r : AV × List Row × Nat → Prop) : Prop := Ex F cx (.code c68s10 :: .inBlock 1 :: .code c68k7 :: .inLoop c68l6 :: .inBlock 0 :: .code c68s5 :: []) ⟨mk 97 [(0, x0), (1, x1), (6, x6), (8, x8), (21, x21), (22, x22), (23, x23)], rows, low⟩ r
theorem jc68s10 : Ex F cx (.code c68s10 :: .inBlock 1 :: .code c68k7 :: .inLoop c68l6 :: .inBlock 0 :: .code c68s5 :: []) ⟨mk 97 l, rows, low⟩ r ↔ Jc68s10 F cx (lk l 0) (lk l 1) (lk l 6) (lk l 8) (lk l 21) (lk l 22) (lk l 23) rows low r := Ex_canon (keep := [0, 1, 6, 8, 21, 22, 23]) (by kernel_rfl)
def Jc68s16 (F : Nat → Option IFn) (cx : Ctx) (x0 x1 x6 x21 x22 x23 : AV) (rows : List Row) (low : Nat) (r : AV × List Row × Nat → Prop) : Prop := Ex F cx (.code c68s16 :: .inLoop c68l6 :: .inBlock 0 :: .code c68s5 :: []) ⟨mk 97 [(0, x0), (1, x1), (6, x6), (21, x21), (22, x22), (23, x23)], rows, low⟩ r
theorem jc68s16 : Ex F cx (.code c68s16 :: .inLoop c68l6 :: .inBlock 0 :: .code c68s5 :: []) ⟨mk 97 l, rows, low⟩ r ↔ Jc68s16 F cx (lk l 0) (lk l 1) (lk l 6) (lk l 21) (lk l 22) (lk l 23) rows low r := Ex_canon (keep := [0, 1, 6, 21, 22, 23]) (by kernel_rfl)
def Lc68l6 (F : Nat → Option IFn) (cx : Ctx) (x0 x1 x6 x21 x22 x23 : AV) (rows : List Row) (low : Nat) (r : AV × List Row × Nat → Prop) : Prop := Ex F cx (.code c68l6 :: .inLoop c68l6 :: .inBlock 0 :: .code c68s5 :: []) ⟨mk 97 [(0, x0), (1, x1), (6, x6), (21, x21), (22, x22), (23, x23)], rows, low⟩ r
@[simp] theorem nc68l6 : Ex F cx (.inLoop c68l6 :: .inBlock 0 :: .code c68s5 :: []) ⟨mk 97 l, rows, low⟩ r ↔ Lc68l6 F cx (lk l 0) (lk l 1) (lk l 6) (lk l 21) (lk l 22) (lk l 23) rows low r := loopN (keep := [0, 1, 6, 21, 22, 23]) (by kernel_rfl)
@[simp] theorem ec68l6 : Ex F cx (.code (.loop c68l6) :: .inBlock 0 :: .code c68s5 :: []) ⟨mk 97 l, rows, low⟩ r ↔ Lc68l6 F cx (lk l 0) (lk l 1) (lk l 6) (lk l 21) (lk l 22) (lk l 23) rows low r := loopE (keep := [0, 1, 6, 21, 22, 23]) (by kernel_rfl)
@[simp] theorem uc68l6 : Ex F cx (.code c68l6 :: k) s r ↔ Ex F cx (.code (.seq c68k18 c68s17) :: k) s r := Iff.rfl
def Jc68s21 (F : Nat → Option IFn) (cx : Ctx) (x0 x1 x6 : AV) (rows : List Row) (low : Nat) (r : AV × List Row × Nat → Prop) : Prop := Ex F cx (.code c68s21 :: []) ⟨mk 97 [(0, x0), (1, x1), (6, x6)], rows, low⟩ r
theorem jc68s21 : Ex F cx (.code c68s21 :: []) ⟨mk 97 l, rows, low⟩ r ↔ Jc68s21 F cx (lk l 0) (lk l 1) (lk l 6) rows low r := Ex_canon (keep := [0, 1, 6]) (by kernel_rfl)
def Jc68s27 (F : Nat → Option IFn) (cx : Ctx) (x0 x1 : AV) (rows : List Row) (low : Nat) (r : AV × List Row × Nat → Prop) : Prop := Ex F cx (.code c68s27 :: []) ⟨mk 97 [(0, x0), (1, x1)], rows, low⟩ r
theorem jc68s27 : Ex F cx (.code c68s27 :: []) ⟨mk 97 l, rows, low⟩ r ↔ Jc68s27 F cx (lk l 0) (lk l 1) rows low r := Ex_canon (keep := [0, 1]) (by kernel_rfl)
def c68b : ICode := (.seq c68k32 c68s31)
@[simp] theorem uc68b : Ex F cx (.code c68b :: k) s r ↔ Ex F cx (.code (.seq c68k32 c68s31) :: k) s r := Iff.rfl
def c68 : IFn := ⟨97, [.t 4, .t 5], c68b⟩
def h68 : List (Nat × List Nat) := [(0, dead 97 [0, 1]), (1, dead 97 [0, 1]), (2, dead 97 []), (3, dead 97 [0, 1]), (4, dead 97 [0, 1, 6]), (5, dead 97 []), (6, dead 97 [0, 1, 6]), (7, dead 97 [0, 1, 6, 21, 22, 23]), (8, dead 97 [0, 1, 6, 21, 22, 23]), (9, dead 97 [0, 1, 6, 7, 8, 21, 22, 23]), (10, dead 97 []), (11, dead 97 [0, 1, 6, 8, 21, 22, 23]), (12, dead 97 [0, 1, 6, 8, 21, 22, 23]), (13, dead 97 [0, 1, 6, 21, 22, 23]), (14, dead 97 [6]), (15, dead 97 []), (16, dead 97 [6])]
theorem i68 {x0 x1 : AV} (hF : F 68 = some c68) {q : AV × List Row × Option Nat} (h : Ex F (.fn [.t 4, .t 5]) [.code c68b] ⟨mk 97 [(0, x0), (1, x1)], rows, rows.length⟩ fun r => fin rows r.1 r.2.1 r.2.2 = q) : Ret F 68 [x0, x1] rows = some q := Ret_mk hF h
/-! tosher/search.members -/
def c69r0 : List Seg := [
  .one ⟨some 18, .mv (.t 3), none⟩,
  .one ⟨some 2, .mv (.t 18), none⟩]
def c69k0 : ICode := .kill (dead 19 [3]) (.ops c69r0)
@[simp] theorem uc69k0 : Ex F cx (.code c69k0 :: k) ⟨mk 19 l, rows, low⟩ r ↔ Ex F cx k ⟨mk 19 [(2, lk l 3), (18, lk l 3), (3, lk l 3)], rows, low⟩ r := reg (keep := [3]) (ops := c69r0) rfl (by kernel_rfl) (by kernel_rfl)
def c69s1 : ICode := (.seq c69k0 .ret)
@[simp] theorem uc69s1 : Ex F cx (.code c69s1 :: k) s r ↔ Ex F cx (.code (.seq c69k0 .ret) :: k) s r := Iff.rfl
def c69r3 : List Seg := [
  .one ⟨some 9, .mv (.t 4), none⟩,
  .one ⟨some 10, .mv (.t 4), none⟩,
  .one ⟨some 11, .bin .sub (.t 10) (.c (.int .u64 1)), none⟩,
  .one ⟨some 12, .bin .and (.t 9) (.t 11), none⟩,
  .one ⟨some 4, .mv (.t 12), none⟩]
def c69k3 : ICode := .kill (dead 19 [3, 4]) (.ops c69r3)
@[simp] theorem uc69k3 : Ex F cx (.code c69k3 :: k) ⟨mk 19 l, rows, low⟩ r ↔ bnd (evP rows (.bin .sub (.c (lk l 4)) (.c (.int .u64 1)))) fun v0 => bnd (evP rows (.bin .and (.c (lk l 4)) (.c v0))) fun v1 => Ex F cx k ⟨mk 19 [(4, v1), (12, v1), (11, v0), (10, lk l 4), (9, lk l 4), (3, lk l 3), (4, lk l 4)], rows, low⟩ r := reg (keep := [3, 4]) (ops := c69r3) rfl (by kernel_rfl) (by kernel_rfl)
def c69r4 : List Seg := [
  .one ⟨some 13, .mv (.t 3), none⟩,
  .one ⟨some 14, .mv (.t 4), none⟩,
  .one ⟨some 15, .call (.c (.func 92 [])) [(.t 14)], none⟩,
  .one ⟨some 16, .mkslice 1 [.int .i64 0] [(0, 1, (.t 15))], none⟩,
  .one ⟨some 17, .app 1 8 (.t 13) (.t 16), none⟩,
  .one ⟨some 3, .mv (.t 17), none⟩]
def c69k4 : ICode := .kill (dead 19 [3, 4]) (.ops c69r4)
@[simp] theorem uc69k4 : Ex F cx (.code c69k4 :: k) ⟨mk 19 l, rows, low⟩ r ↔ bnd (Ret F 92 [lk l 4] rows) fun q0 => bnd (evE q0.2.1 (lowO low q0.2.2) (.mkslice 1 [.int .i64 0] [(0, 1, (.c q0.1))])) fun q1 => bnd (evE q1.2.1 q1.2.2 (.app 1 8 (.c (lk l 3)) (.c q1.1))) fun q2 => Ex F cx k ⟨mk 19 [(3, q2.1), (17, q2.1), (16, q1.1), (15, q0.1), (14, lk l 4), (13, lk l 3), (3, lk l 3), (4, lk l 4)], q2.2.1, q2.2.2⟩ r := reg (keep := [3, 4]) (ops := c69r4) rfl (by kernel_rfl) (by kernel_rfl)
def c69s5 : ICode := (.seq (.block 1 c69k4) c69k3)
@[simp] theorem uc69s5 : Ex F cx (.code c69s5 :: k) s r ↔ Ex F cx (.code (.seq (.block 1 c69k4) c69k3) :: k) s r := Iff.rfl
def c69s6 : ICode := (.cond (.t 8) .skip (.exit 0))
@[simp] theorem uc69s6 : Ex F cx (.code c69s6 :: k) s r ↔ Ex F cx (.code (.cond (.t 8) .skip (.exit 0)) :: k) s r := Iff.rfl
def c69r7 : List Seg := [
  .one ⟨some 7, .mv (.t 4), none⟩,
  .one ⟨some 8, .bin .neq (.t 7) (.c (.int .u64 0)), none⟩]
def c69k7 : ICode := .kill (dead 19 [3, 4]) (.ops c69r7)
@[simp] theorem uc69k7 : Ex F cx (.code c69k7 :: k) ⟨mk 19 l, rows, low⟩ r ↔ bnd (evP rows (.bin .neq (.c (lk l 4)) (.c (.int .u64 0)))) fun v0 => Ex F cx k ⟨mk 19 [(8, v0), (7, lk l 4), (3, lk l 3), (4, lk l 4)], rows, low⟩ r := reg (keep := [3, 4]) (ops := c69r7) rfl (by kernel_rfl) (by kernel_rfl)
def c69l2 : ICode := (.seq (.seq c69k7 c69s6) c69s5)
def c69s8 : ICode := (.block 0 (.loop c69l2))
@[simp] theorem uc69s8 : Ex F cx (.code c69s8 :: k) s r ↔ Ex F cx (.code (.block 0 (.loop c69l2)) :: k) s r := Iff.rfl
def c69r9 : List Seg := [
  .one ⟨some 5, .mv (.t 0), none⟩,
  .one ⟨some 6, .conv .u64 (.t 5), none⟩,
  .one ⟨some 4, .mv (.t 6), none⟩]
def c69k9 : ICode := .kill (dead 19 [0, 3]) (.ops c69r9)
@[simp] theorem uc69k9 : Ex F cx (.code c69k9 :: k) ⟨mk 19 l, rows, low⟩ r ↔ bnd (evP rows (.conv .u64 (.c (lk l 0)))) fun v0 => Ex F cx k ⟨mk 19 [(4, v0), (6, v0), (5, lk l 0), (0, lk l 0), (3, lk l 3)], rows, low⟩ r := reg (keep := [0, 3]) (ops := c69r9) rfl (by kernel_rfl) (by kernel_rfl)
def c69s10 : ICode := (.seq (.seq c69k9 c69s8) c69s1)
@[simp] theorem uc69s10 : Ex F cx (.code c69s10 :: k) s r ↔ Ex F cx (.code (.seq (.seq c69k9 c69s8) c69s1) :: k) s r := Iff.rfl
def c69r11 : List Seg := [
  .one ⟨some 3, .mv (.c .nilslice), none⟩]
def c69k11 : ICode := .kill (dead 19 [0]) (.ops c69r11)
@[simp] theorem uc69k11 : Ex F cx (.code c69k11 :: k) ⟨mk 19 l, rows, low⟩ r ↔ Ex F cx k ⟨mk 19 [(3, .nilslice), (0, lk l 0)], rows, low⟩ r := reg (keep := [0]) (ops := c69r11) rfl (by kernel_rfl) (by kernel_rfl)
def c69s12 : ICode := (.seq c69k11 c69s10)
@[simp] theorem uc69s12 : Ex F cx (.code c69s12 :: k) s r ↔ Ex F cx (.code (.seq c69k11 c69s10) :: k) s r := Iff.rfl
def c69r13 : List Seg := [
  .one ⟨some 2, .mv (.c .nilslice), none⟩]
def c69k13 : ICode := .kill (dead 19 [0]) (.ops c69r13)
@[simp] theorem uc69k13 : Ex F cx (.code c69k13 :: k) ⟨mk 19 l, rows, low⟩ r ↔ Ex F cx k ⟨mk 19 [(2, .nilslice), (0, lk l 0)], rows, low⟩ r := reg (keep := [0]) (ops := c69r13) rfl (by kernel_rfl) (by kernel_rfl)
def Jc69s5 (F : Nat → Option IFn) (cx : Ctx) (x3 x4 : AV) (rows : List Row) (low : Nat) (r : AV × List Row × Nat → Prop) : Prop := Ex F cx (.code c69s5 :: .inLoop c69l2 :: .inBlock 0 :: .code c69s1 :: []) ⟨mk 19 [(3, x3), (4, x4)], rows, low⟩ r
theorem jc69s5 : Ex F cx (.code c69s5 :: .inLoop c69l2 :: .inBlock 0 :: .code c69s1 :: []) ⟨mk 19 l, rows, low⟩ r ↔ Jc69s5 F cx (lk l 3) (lk l 4) rows low r := Ex_canon (keep := [3, 4]) (by kernel_rfl)
def Lc69l2 (F : Nat → Option IFn) (cx : Ctx) (x3 x4 : AV) (rows : List Row) (low : Nat) (r : AV × List Row × Nat → Prop) : Prop := Ex F cx (.code c69l2 :: .inLoop c69l2 :: .inBlock 0 :: .code c69s1 :: []) ⟨mk 19 [(3, x3), (4, x4)], rows, low⟩ r
@[simp] theorem nc69l2 : Ex F cx (.inLoop c69l2 :: .inBlock 0 :: .code c69s1 :: []) ⟨mk 19 l, rows, low⟩ r ↔ Lc69l2 F cx (lk l 3) (lk l 4) rows low r := loopN (keep := [3, 4]) (by kernel_rfl)
@[simp] theorem ec69l2 : Ex F cx (.code (.loop c69l2) :: .inBlock 0 :: .code c69s1 :: []) ⟨mk 19 l, rows, low⟩ r ↔ Lc69l2 F cx (lk l 3) (lk l 4) rows low r := loopE (keep := [3, 4]) (by kernel_rfl)
@[simp] theorem uc69l2 : Ex F cx (.code c69l2 :: k) s r ↔ Ex F cx (.code (.seq (.seq c69k7 c69s6) c69s5) :: k) s r := Iff.rfl
def c69b : ICode := (.seq c69k13 c69s12)
@[simp] theorem uc69b : Ex F cx (.code c69b :: k) s r ↔ Ex F cx (.code (.seq c69k13 c69s12) :: k) s r := Iff.rfl
def c69 : IFn := ⟨19, [.t 2], c69b⟩
def h69 : List (Nat × List Nat) := [(0, dead 19 [0]), (1, dead 19 [0]), (2, dead 19 [0, 3]), (3, dead 19 [3, 4]), (5, dead 19 [3, 4]), (4, dead 19 [3, 4]), (6, dead 19 [3])]
theorem i69 {x0 : AV} (hF : F 69 = some c69) {q : AV × List Row × Option Nat} (h : Ex F (.fn [.t 2]) [.code c69b] ⟨mk 19 [(0, x0)], rows, rows.length⟩ fun r => fin rows r.1 r.2.1 r.2.2 = q) : Ret F 69 [x0] rows = some q := Ret_mk hF h
end Go.Abs
