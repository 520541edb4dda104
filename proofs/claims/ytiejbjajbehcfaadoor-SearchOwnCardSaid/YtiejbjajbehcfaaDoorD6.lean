/- The evaluator's code of a law. -/
import Derived.Test.YtiejbjajbehcfaaDoorM4
import Derived.KernelRfl
set_option linter.unusedVariables false
set_option maxRecDepth 20000
set_option maxHeartbeats 4000000
namespace Go.Abs
variable {F : Nat → Option IFn} {cx : Ctx} {k : List Itm} {s : St} {l : List (Nat × AV)} {rows : List Row} {low : Nat} {r : AV × List Row × Nat → Prop}
/-! tosher/tosherlaw08.SearchOwn -/
def c6r0 : List Seg := [
  .one ⟨some 87, .mv (.t 11), none⟩,
  .one ⟨some 88, .bin .eql (.t 87) (.c (.int .i64 0)), none⟩,
  .one ⟨some 89, .mv (.t 88), none⟩,
  .one ⟨some 90, .mv (.t 13), some (89, true)⟩,
  .one ⟨some 91, .bin .eql (.t 90) (.c (.int .i64 0)), some (89, true)⟩,
  .one ⟨some 92, .pick (.t 89) (.t 91) (.c (.bool false)), none⟩,
  .one ⟨some 93, .mv (.t 92), none⟩,
  .one ⟨some 94, .mv (.t 15), some (93, true)⟩,
  .one ⟨some 95, .bin .eql (.t 94) (.c (.int .i64 0)), some (93, true)⟩,
  .one ⟨some 96, .pick (.t 93) (.t 95) (.c (.bool false)), none⟩,
  .one ⟨some 97, .mv (.t 96), none⟩,
  .one ⟨some 98, .mv (.t 20), some (97, true)⟩,
  .one ⟨some 99, .bin .eql (.t 98) (.c (.int .i64 0)), some (97, true)⟩,
  .one ⟨some 100, .pick (.t 97) (.t 99) (.c (.bool false)), none⟩,
  .one ⟨some 101, .mv (.t 100), none⟩,
  .one ⟨some 102, .mv (.t 22), some (101, true)⟩,
  .one ⟨some 103, .pick (.t 101) (.t 102) (.c (.bool false)), none⟩,
  .one ⟨some 104, .mv (.t 103), none⟩,
  .one ⟨some 105, .mv (.t 5), some (104, true)⟩,
  .one ⟨some 106, .mv (.t 6), some (104, true)⟩,
  .one ⟨some 107, .call (.c (.func 32 [])) [(.t 105), (.t 106)], some (104, true)⟩,
  .one ⟨some 108, .pick (.t 104) (.t 107) (.c (.bool false)), none⟩,
  .one ⟨some 109, .mv (.t 108), none⟩,
  .one ⟨some 110, .mv (.t 7), some (109, true)⟩,
  .one ⟨some 111, .mv (.t 8), some (109, true)⟩,
  .one ⟨some 112, .call (.c (.func 32 [])) [(.t 110), (.t 111)], some (109, true)⟩,
  .one ⟨some 113, .pick (.t 109) (.t 112) (.c (.bool false)), none⟩,
  .one ⟨some 114, .mv (.t 113), none⟩,
  .one ⟨some 115, .mv (.t 19), some (114, true)⟩,
  .one ⟨some 116, .mv (.t 6), some (114, true)⟩,
  .one ⟨some 117, .mv (.t 21), some (114, true)⟩,
  .one ⟨some 118, .call (.c (.func 33 [])) [(.t 116), (.t 117)], some (114, true)⟩,
  .one ⟨some 119, .call (.c (.func 32 [])) [(.t 115), (.t 118)], some (114, true)⟩,
  .one ⟨some 120, .pick (.t 114) (.t 119) (.c (.bool false)), none⟩,
  .one ⟨some 121, .mv (.t 120), none⟩,
  .one ⟨some 122, .call (.c (.func 22 [])) [], some (121, true)⟩,
  .one ⟨some 123, .pick (.t 121) (.t 122) (.c (.bool false)), none⟩,
  .one ⟨some 4, .mv (.t 123), none⟩]
def c6k0 : ICode := .kill (dead 124 [5, 6, 7, 8, 11, 13, 15, 19, 20, 21, 22]) (.ops c6r0)
@[simp] theorem uc6k0 : Ex F cx (.code c6k0 :: k) ⟨mk 124 l, rows, low⟩ r ↔ bnd (evP rows (.bin .eql (.c (lk l 11)) (.c (.int .i64 0)))) fun v0 => bnd (gv v0 true (evP rows (.mv (.c (lk l 13))))) fun v1 => bnd (gv v0 true (evP rows (.bin .eql (.c v1) (.c (.int .i64 0))))) fun v2 => bnd (evP rows (.pick (.c v0) (.c v2) (.c (.bool false)))) fun v3 => bnd (gv v3 true (evP rows (.mv (.c (lk l 15))))) fun v4 => bnd (gv v3 true (evP rows (.bin .eql (.c v4) (.c (.int .i64 0))))) fun v5 => bnd (evP rows (.pick (.c v3) (.c v5) (.c (.bool false)))) fun v6 => bnd (gv v6 true (evP rows (.mv (.c (lk l 20))))) fun v7 => bnd (gv v6 true (evP rows (.bin .eql (.c v7) (.c (.int .i64 0))))) fun v8 => bnd (evP rows (.pick (.c v6) (.c v8) (.c (.bool false)))) fun v9 => bnd (gv v9 true (evP rows (.mv (.c (lk l 22))))) fun v10 => bnd (evP rows (.pick (.c v9) (.c v10) (.c (.bool false)))) fun v11 => bnd (gv v11 true (evP rows (.mv (.c (lk l 5))))) fun v12 => bnd (gv v11 true (evP rows (.mv (.c (lk l 6))))) fun v13 => gcall F v11 true rows low [v12, v13] (.func 32 []) fun v14 R14 L14 => bnd (evP R14 (.pick (.c v11) (.c v14) (.c (.bool false)))) fun v15 => bnd (gv v15 true (evP R14 (.mv (.c (lk l 7))))) fun v16 => bnd (gv v15 true (evP R14 (.mv (.c (lk l 8))))) fun v17 => gcall F v15 true R14 L14 [v16, v17] (.func 32 []) fun v18 R18 L18 => bnd (evP R18 (.pick (.c v15) (.c v18) (.c (.bool false)))) fun v19 => bnd (gv v19 true (evP R18 (.mv (.c (lk l 19))))) fun v20 => bnd (gv v19 true (evP R18 (.mv (.c (lk l 6))))) fun v21 => bnd (gv v19 true (evP R18 (.mv (.c (lk l 21))))) fun v22 => gcall F v19 true R18 L18 [v21, v22] (.func 33 []) fun v23 R23 L23 => gcall F v19 true R23 L23 [v20, v23] (.func 32 []) fun v24 R24 L24 => bnd (evP R24 (.pick (.c v19) (.c v24) (.c (.bool false)))) fun v25 => gcall F v25 true R24 L24 [] (.func 22 []) fun v26 R26 L26 => bnd (evP R26 (.pick (.c v25) (.c v26) (.c (.bool false)))) fun v27 => Ex F cx k ⟨mk 124 [(4, v27), (123, v27), (122, v26), (121, v25), (120, v25), (119, v24), (118, v23), (117, v22), (116, v21), (115, v20), (114, v19), (113, v19), (112, v18), (111, v17), (110, v16), (109, v15), (108, v15), (107, v14), (106, v13), (105, v12), (104, v11), (103, v11), (102, v10), (101, v9), (100, v9), (99, v8), (98, v7), (97, v6), (96, v6), (95, v5), (94, v4), (93, v3), (92, v3), (91, v2), (90, v1), (89, v0), (88, v0), (87, lk l 11), (5, lk l 5), (6, lk l 6), (7, lk l 7), (8, lk l 8), (11, lk l 11), (13, lk l 13), (15, lk l 15), (19, lk l 19), (20, lk l 20), (21, lk l 21), (22, lk l 22)], R26, L26⟩ r := reg (keep := [5, 6, 7, 8, 11, 13, 15, 19, 20, 21, 22]) (ops := c6r0) rfl (by kernel_rfl) (by kernel_rfl)
def c6s1 : ICode := (.seq c6k0 .ret)
@[simp] theorem uc6s1 : Ex F cx (.code c6s1 :: k) s r ↔ Ex F cx (.code (.seq c6k0 .ret) :: k) s r := Iff.rfl
def c6r2 : List Seg := [
  .one ⟨some 81, .mv (.t 5), none⟩,
  .one ⟨some 82, .len 0 (.t 81), none⟩,
  .one ⟨some 83, .mv (.t 8), none⟩,
  .one ⟨some 84, .call (.c (.func 31 [])) [(.t 82), (.t 83)], none⟩,
  .one ⟨some 80, .mv (.t 84), none⟩,
  .one ⟨some 85, .ext (.t 80) 0, none⟩,
  .one ⟨some 86, .ext (.t 80) 1, none⟩,
  .one ⟨some 21, .mv (.t 85), none⟩,
  .one ⟨some 22, .mv (.t 86), none⟩]
def c6k2 : ICode := .kill (dead 124 [5, 6, 7, 8, 11, 13, 15, 19, 20]) (.ops c6r2)
@[simp] theorem uc6k2 : Ex F cx (.code c6k2 :: k) ⟨mk 124 l, rows, low⟩ r ↔ bnd (evP rows (.len 0 (.c (lk l 5)))) fun v0 => bnd (Ret F 31 [v0, lk l 8] rows) fun q1 => bnd (evP q1.2.1 (.ext (.c q1.1) 0)) fun v2 => bnd (evP q1.2.1 (.ext (.c q1.1) 1)) fun v3 => Ex F cx k ⟨mk 124 [(22, v3), (21, v2), (86, v3), (85, v2), (80, q1.1), (84, q1.1), (83, lk l 8), (82, v0), (81, lk l 5), (5, lk l 5), (6, lk l 6), (7, lk l 7), (8, lk l 8), (11, lk l 11), (13, lk l 13), (15, lk l 15), (19, lk l 19), (20, lk l 20)], q1.2.1, (lowO low q1.2.2)⟩ r := reg (keep := [5, 6, 7, 8, 11, 13, 15, 19, 20]) (ops := c6r2) rfl (by kernel_rfl) (by kernel_rfl)
def c6s3 : ICode := (.seq c6k2 c6s1)
@[simp] theorem uc6s3 : Ex F cx (.code c6s3 :: k) s r ↔ Ex F cx (.code (.seq c6k2 c6s1) :: k) s r := Iff.rfl
def c6r4 : List Seg := [
  .one ⟨some 75, .mv (.t 5), none⟩,
  .one ⟨some 76, .mv (.t 7), none⟩,
  .one ⟨some 77, .call (.c (.func 29 [])) [(.t 75), (.t 76)], none⟩,
  .one ⟨some 74, .mv (.t 77), none⟩,
  .one ⟨some 78, .ext (.t 74) 0, none⟩,
  .one ⟨some 79, .ext (.t 74) 1, none⟩,
  .one ⟨some 19, .mv (.t 78), none⟩,
  .one ⟨some 20, .mv (.t 79), none⟩]
def c6k4 : ICode := .kill (dead 124 [5, 6, 7, 8, 11, 13, 15]) (.ops c6r4)
@[simp] theorem uc6k4 : Ex F cx (.code c6k4 :: k) ⟨mk 124 l, rows, low⟩ r ↔ bnd (Ret F 29 [lk l 5, lk l 7] rows) fun q0 => bnd (evP q0.2.1 (.ext (.c q0.1) 0)) fun v1 => bnd (evP q0.2.1 (.ext (.c q0.1) 1)) fun v2 => Ex F cx k ⟨mk 124 [(20, v2), (19, v1), (79, v2), (78, v1), (74, q0.1), (77, q0.1), (76, lk l 7), (75, lk l 5), (5, lk l 5), (6, lk l 6), (7, lk l 7), (8, lk l 8), (11, lk l 11), (13, lk l 13), (15, lk l 15)], q0.2.1, (lowO low q0.2.2)⟩ r := reg (keep := [5, 6, 7, 8, 11, 13, 15]) (ops := c6r4) rfl (by kernel_rfl) (by kernel_rfl)
def c6s5 : ICode := (.seq c6k4 c6s3)
@[simp] theorem uc6s5 : Ex F cx (.code c6s5 :: k) s r ↔ Ex F cx (.code (.seq c6k4 c6s3) :: k) s r := Iff.rfl
def c6r7 : List Seg := [
  .one ⟨some 57, .mv (.t 17), none⟩,
  .one ⟨some 58, .bin .add (.t 57) (.c (.int .i64 1)), none⟩,
  .one ⟨some 17, .mv (.t 58), none⟩]
def c6k7 : ICode := .kill (dead 124 [5, 6, 7, 8, 11, 13, 15, 16, 17]) (.ops c6r7)
@[simp] theorem uc6k7 : Ex F cx (.code c6k7 :: k) ⟨mk 124 l, rows, low⟩ r ↔ bnd (evP rows (.bin .add (.c (lk l 17)) (.c (.int .i64 1)))) fun v0 => Ex F cx k ⟨mk 124 [(17, v0), (58, v0), (57, lk l 17), (5, lk l 5), (6, lk l 6), (7, lk l 7), (8, lk l 8), (11, lk l 11), (13, lk l 13), (15, lk l 15), (16, lk l 16), (17, lk l 17)], rows, low⟩ r := reg (keep := [5, 6, 7, 8, 11, 13, 15, 16, 17]) (ops := c6r7) rfl (by kernel_rfl) (by kernel_rfl)
def c6r9 : List Seg := [
  .one ⟨some 66, .mv (.t 18), none⟩,
  .one ⟨some 67, .bin .add (.t 66) (.c (.int .i64 1)), none⟩,
  .one ⟨some 18, .mv (.t 67), none⟩]
def c6k9 : ICode := .kill (dead 124 [5, 6, 7, 8, 11, 13, 15, 16, 17, 18]) (.ops c6r9)
@[simp] theorem uc6k9 : Ex F cx (.code c6k9 :: k) ⟨mk 124 l, rows, low⟩ r ↔ bnd (evP rows (.bin .add (.c (lk l 18)) (.c (.int .i64 1)))) fun v0 => Ex F cx k ⟨mk 124 [(18, v0), (67, v0), (66, lk l 18), (5, lk l 5), (6, lk l 6), (7, lk l 7), (8, lk l 8), (11, lk l 11), (13, lk l 13), (15, lk l 15), (16, lk l 16), (17, lk l 17), (18, lk l 18)], rows, low⟩ r := reg (keep := [5, 6, 7, 8, 11, 13, 15, 16, 17, 18]) (ops := c6r9) rfl (by kernel_rfl) (by kernel_rfl)
def c6r10 : List Seg := [
  .one ⟨some 68, .mv (.t 16), none⟩,
  .one ⟨some 69, .mv (.t 17), none⟩,
  .one ⟨some 70, .idxS 1 (.t 68) (.t 69), none⟩,
  .one ⟨some 71, .load1 (.t 70), none⟩,
  .one ⟨some 72, .mv (.t 18), none⟩,
  .one ⟨some 73, .idxS 1 (.t 71) (.t 72), none⟩,
  .one ⟨none, .store1 (.t 73) (.c (.int .i64 (-7))), none⟩]
def c6k10 : ICode := .kill (dead 124 [5, 6, 7, 8, 11, 13, 15, 16, 17, 18]) (.ops c6r10)
@[simp] theorem uc6k10 : Ex F cx (.code c6k10 :: k) ⟨mk 124 l, rows, low⟩ r ↔ bnd (evP rows (.idxS 1 (.c (lk l 16)) (.c (lk l 17)))) fun v0 => bnd (evP rows (.load1 (.c v0))) fun v1 => bnd (evP rows (.idxS 1 (.c v1) (.c (lk l 18)))) fun v2 => bnd (evE rows low (.store1 (.c v2) (.c (.int .i64 (-7))))) fun q3 => Ex F cx k ⟨mk 124 [(73, v2), (72, lk l 18), (71, v1), (70, v0), (69, lk l 17), (68, lk l 16), (5, lk l 5), (6, lk l 6), (7, lk l 7), (8, lk l 8), (11, lk l 11), (13, lk l 13), (15, lk l 15), (16, lk l 16), (17, lk l 17), (18, lk l 18)], q3.2.1, q3.2.2⟩ r := reg (keep := [5, 6, 7, 8, 11, 13, 15, 16, 17, 18]) (ops := c6r10) rfl (by kernel_rfl) (by kernel_rfl)
def c6s11 : ICode := (.seq (.block 3 c6k10) c6k9)
@[simp] theorem uc6s11 : Ex F cx (.code c6s11 :: k) s r ↔ Ex F cx (.code (.seq (.block 3 c6k10) c6k9) :: k) s r := Iff.rfl
def c6s12 : ICode := (.cond (.t 65) .skip (.exit 2))
@[simp] theorem uc6s12 : Ex F cx (.code c6s12 :: k) s r ↔ Ex F cx (.code (.cond (.t 65) .skip (.exit 2)) :: k) s r := Iff.rfl
def c6r13 : List Seg := [
  .one ⟨some 59, .mv (.t 18), none⟩,
  .one ⟨some 60, .mv (.t 16), none⟩,
  .one ⟨some 61, .mv (.t 17), none⟩,
  .one ⟨some 62, .idxS 1 (.t 60) (.t 61), none⟩,
  .one ⟨some 63, .load1 (.t 62), none⟩,
  .one ⟨some 64, .len 0 (.t 63), none⟩,
  .one ⟨some 65, .bin .lss (.t 59) (.t 64), none⟩]
def c6k13 : ICode := .kill (dead 124 [5, 6, 7, 8, 11, 13, 15, 16, 17, 18]) (.ops c6r13)
@[simp] theorem uc6k13 : Ex F cx (.code c6k13 :: k) ⟨mk 124 l, rows, low⟩ r ↔ bnd (evP rows (.idxS 1 (.c (lk l 16)) (.c (lk l 17)))) fun v0 => bnd (evP rows (.load1 (.c v0))) fun v1 => bnd (evP rows (.len 0 (.c v1))) fun v2 => bnd (evP rows (.bin .lss (.c (lk l 18)) (.c v2))) fun v3 => Ex F cx k ⟨mk 124 [(65, v3), (64, v2), (63, v1), (62, v0), (61, lk l 17), (60, lk l 16), (59, lk l 18), (5, lk l 5), (6, lk l 6), (7, lk l 7), (8, lk l 8), (11, lk l 11), (13, lk l 13), (15, lk l 15), (16, lk l 16), (17, lk l 17), (18, lk l 18)], rows, low⟩ r := reg (keep := [5, 6, 7, 8, 11, 13, 15, 16, 17, 18]) (ops := c6r13) rfl (by kernel_rfl) (by kernel_rfl)
def c6l8 : ICode := (.seq (.seq c6k13 c6s12) c6s11)
def c6s14 : ICode := (.block 2 (.loop c6l8))
@[simp] theorem uc6s14 : Ex F cx (.code c6s14 :: k) s r ↔ Ex F cx (.code (.block 2 (.loop c6l8)) :: k) s r := Iff.rfl
def c6r15 : List Seg := [
  .one ⟨some 18, .mv (.c (.int .i64 0)), none⟩]
def c6k15 : ICode := .kill (dead 124 [5, 6, 7, 8, 11, 13, 15, 16, 17]) (.ops c6r15)
@[simp] theorem uc6k15 : Ex F cx (.code c6k15 :: k) ⟨mk 124 l, rows, low⟩ r ↔ Ex F cx k ⟨mk 124 [(18, (.int .i64 0)), (5, lk l 5), (6, lk l 6), (7, lk l 7), (8, lk l 8), (11, lk l 11), (13, lk l 13), (15, lk l 15), (16, lk l 16), (17, lk l 17)], rows, low⟩ r := reg (keep := [5, 6, 7, 8, 11, 13, 15, 16, 17]) (ops := c6r15) rfl (by kernel_rfl) (by kernel_rfl)
def c6s16 : ICode := (.seq (.block 1 (.seq c6k15 c6s14)) c6k7)
@[simp] theorem uc6s16 : Ex F cx (.code c6s16 :: k) s r ↔ Ex F cx (.code (.seq (.block 1 (.seq c6k15 c6s14)) c6k7) :: k) s r := Iff.rfl
def c6s17 : ICode := (.cond (.t 56) .skip (.exit 0))
@[simp] theorem uc6s17 : Ex F cx (.code c6s17 :: k) s r ↔ Ex F cx (.code (.cond (.t 56) .skip (.exit 0)) :: k) s r := Iff.rfl
def c6r18 : List Seg := [
  .one ⟨some 55, .mv (.t 17), none⟩,
  .one ⟨some 56, .bin .lss (.t 55) (.c (.int .i64 3)), none⟩]
def c6k18 : ICode := .kill (dead 124 [5, 6, 7, 8, 11, 13, 15, 16, 17]) (.ops c6r18)
@[simp] theorem uc6k18 : Ex F cx (.code c6k18 :: k) ⟨mk 124 l, rows, low⟩ r ↔ bnd (evP rows (.bin .lss (.c (lk l 17)) (.c (.int .i64 3)))) fun v0 => Ex F cx k ⟨mk 124 [(56, v0), (55, lk l 17), (5, lk l 5), (6, lk l 6), (7, lk l 7), (8, lk l 8), (11, lk l 11), (13, lk l 13), (15, lk l 15), (16, lk l 16), (17, lk l 17)], rows, low⟩ r := reg (keep := [5, 6, 7, 8, 11, 13, 15, 16, 17]) (ops := c6r18) rfl (by kernel_rfl) (by kernel_rfl)
def c6l6 : ICode := (.seq (.seq c6k18 c6s17) c6s16)
def c6s19 : ICode := (.block 0 (.loop c6l6))
@[simp] theorem uc6s19 : Ex F cx (.code c6s19 :: k) s r ↔ Ex F cx (.code (.block 0 (.loop c6l6)) :: k) s r := Iff.rfl
def c6r20 : List Seg := [
  .one ⟨some 17, .mv (.c (.int .i64 0)), none⟩]
def c6k20 : ICode := .kill (dead 124 [5, 6, 7, 8, 11, 13, 15, 16]) (.ops c6r20)
@[simp] theorem uc6k20 : Ex F cx (.code c6k20 :: k) ⟨mk 124 l, rows, low⟩ r ↔ Ex F cx k ⟨mk 124 [(17, (.int .i64 0)), (5, lk l 5), (6, lk l 6), (7, lk l 7), (8, lk l 8), (11, lk l 11), (13, lk l 13), (15, lk l 15), (16, lk l 16)], rows, low⟩ r := reg (keep := [5, 6, 7, 8, 11, 13, 15, 16]) (ops := c6r20) rfl (by kernel_rfl) (by kernel_rfl)
def c6s21 : ICode := (.seq (.seq c6k20 c6s19) c6s5)
@[simp] theorem uc6s21 : Ex F cx (.code c6s21 :: k) s r ↔ Ex F cx (.code (.seq (.seq c6k20 c6s19) c6s5) :: k) s r := Iff.rfl
def c6r22 : List Seg := [
  .one ⟨some 51, .mv (.t 10), none⟩,
  .one ⟨some 52, .mv (.t 12), none⟩,
  .one ⟨some 53, .mv (.t 14), none⟩,
  .one ⟨some 54, .mkslice 3 [.nilslice, .nilslice, .nilslice] [(0, 1, (.t 51)), (1, 1, (.t 52)), (2, 1, (.t 53))], none⟩,
  .one ⟨some 16, .mv (.t 54), none⟩]
def c6k22 : ICode := .kill (dead 124 [5, 6, 7, 8, 10, 11, 12, 13, 14, 15]) (.ops c6r22)
@[simp] theorem uc6k22 : Ex F cx (.code c6k22 :: k) ⟨mk 124 l, rows, low⟩ r ↔ bnd (evE rows low (.mkslice 3 [.nilslice, .nilslice, .nilslice] [(0, 1, (.c (lk l 10))), (1, 1, (.c (lk l 12))), (2, 1, (.c (lk l 14)))])) fun q0 => Ex F cx k ⟨mk 124 [(16, q0.1), (54, q0.1), (53, lk l 14), (52, lk l 12), (51, lk l 10), (5, lk l 5), (6, lk l 6), (7, lk l 7), (8, lk l 8), (10, lk l 10), (11, lk l 11), (12, lk l 12), (13, lk l 13), (14, lk l 14), (15, lk l 15)], q0.2.1, q0.2.2⟩ r := reg (keep := [5, 6, 7, 8, 10, 11, 12, 13, 14, 15]) (ops := c6r22) rfl (by kernel_rfl) (by kernel_rfl)
def c6s23 : ICode := (.seq c6k22 c6s21)
@[simp] theorem uc6s23 : Ex F cx (.code c6s23 :: k) s r ↔ Ex F cx (.code (.seq c6k22 c6s21) :: k) s r := Iff.rfl
def c6r24 : List Seg := [
  .one ⟨some 46, .mv (.t 5), none⟩,
  .one ⟨some 47, .mv (.t 7), none⟩,
  .one ⟨some 48, .call (.c (.func 30 [])) [(.t 46), (.t 47), (.c (.int .i64 0))], none⟩,
  .one ⟨some 45, .mv (.t 48), none⟩,
  .one ⟨some 49, .ext (.t 45) 0, none⟩,
  .one ⟨some 50, .ext (.t 45) 1, none⟩,
  .one ⟨some 14, .mv (.t 49), none⟩,
  .one ⟨some 15, .mv (.t 50), none⟩]
def c6k24 : ICode := .kill (dead 124 [5, 6, 7, 8, 10, 11, 12, 13]) (.ops c6r24)
@[simp] theorem uc6k24 : Ex F cx (.code c6k24 :: k) ⟨mk 124 l, rows, low⟩ r ↔ bnd (Ret F 30 [lk l 5, lk l 7, (.int .i64 0)] rows) fun q0 => bnd (evP q0.2.1 (.ext (.c q0.1) 0)) fun v1 => bnd (evP q0.2.1 (.ext (.c q0.1) 1)) fun v2 => Ex F cx k ⟨mk 124 [(15, v2), (14, v1), (50, v2), (49, v1), (45, q0.1), (48, q0.1), (47, lk l 7), (46, lk l 5), (5, lk l 5), (6, lk l 6), (7, lk l 7), (8, lk l 8), (10, lk l 10), (11, lk l 11), (12, lk l 12), (13, lk l 13)], q0.2.1, (lowO low q0.2.2)⟩ r := reg (keep := [5, 6, 7, 8, 10, 11, 12, 13]) (ops := c6r24) rfl (by kernel_rfl) (by kernel_rfl)
def c6s25 : ICode := (.seq c6k24 c6s23)
@[simp] theorem uc6s25 : Ex F cx (.code c6s25 :: k) s r ↔ Ex F cx (.code (.seq c6k24 c6s23) :: k) s r := Iff.rfl
def c6r26 : List Seg := [
  .one ⟨some 40, .mv (.t 5), none⟩,
  .one ⟨some 41, .mv (.t 7), none⟩,
  .one ⟨some 42, .call (.c (.func 29 [])) [(.t 40), (.t 41)], none⟩,
  .one ⟨some 39, .mv (.t 42), none⟩,
  .one ⟨some 43, .ext (.t 39) 0, none⟩,
  .one ⟨some 44, .ext (.t 39) 1, none⟩,
  .one ⟨some 12, .mv (.t 43), none⟩,
  .one ⟨some 13, .mv (.t 44), none⟩]
def c6k26 : ICode := .kill (dead 124 [5, 6, 7, 8, 10, 11]) (.ops c6r26)
@[simp] theorem uc6k26 : Ex F cx (.code c6k26 :: k) ⟨mk 124 l, rows, low⟩ r ↔ bnd (Ret F 29 [lk l 5, lk l 7] rows) fun q0 => bnd (evP q0.2.1 (.ext (.c q0.1) 0)) fun v1 => bnd (evP q0.2.1 (.ext (.c q0.1) 1)) fun v2 => Ex F cx k ⟨mk 124 [(13, v2), (12, v1), (44, v2), (43, v1), (39, q0.1), (42, q0.1), (41, lk l 7), (40, lk l 5), (5, lk l 5), (6, lk l 6), (7, lk l 7), (8, lk l 8), (10, lk l 10), (11, lk l 11)], q0.2.1, (lowO low q0.2.2)⟩ r := reg (keep := [5, 6, 7, 8, 10, 11]) (ops := c6r26) rfl (by kernel_rfl) (by kernel_rfl)
def c6s27 : ICode := (.seq c6k26 c6s25)
@[simp] theorem uc6s27 : Ex F cx (.code c6s27 :: k) s r ↔ Ex F cx (.code (.seq c6k26 c6s25) :: k) s r := Iff.rfl
def c6r28 : List Seg := [
  .one ⟨some 34, .mv (.t 5), none⟩,
  .one ⟨some 35, .call (.c (.func 28 [])) [(.t 34)], none⟩,
  .one ⟨some 33, .mv (.t 35), none⟩,
  .one ⟨some 36, .ext (.t 33) 0, none⟩,
  .one ⟨some 37, .ext (.t 33) 1, none⟩,
  .one ⟨some 38, .ext (.t 33) 2, none⟩,
  .one ⟨some 9, .mv (.t 36), none⟩,
  .one ⟨some 10, .mv (.t 37), none⟩,
  .one ⟨some 11, .mv (.t 38), none⟩]
def c6k28 : ICode := .kill (dead 124 [5, 6, 7, 8]) (.ops c6r28)
@[simp] theorem uc6k28 : Ex F cx (.code c6k28 :: k) ⟨mk 124 l, rows, low⟩ r ↔ bnd (Ret F 28 [lk l 5] rows) fun q0 => bnd (evP q0.2.1 (.ext (.c q0.1) 0)) fun v1 => bnd (evP q0.2.1 (.ext (.c q0.1) 1)) fun v2 => bnd (evP q0.2.1 (.ext (.c q0.1) 2)) fun v3 => Ex F cx k ⟨mk 124 [(11, v3), (10, v2), (9, v1), (38, v3), (37, v2), (36, v1), (33, q0.1), (35, q0.1), (34, lk l 5), (5, lk l 5), (6, lk l 6), (7, lk l 7), (8, lk l 8)], q0.2.1, (lowO low q0.2.2)⟩ r := reg (keep := [5, 6, 7, 8]) (ops := c6r28) rfl (by kernel_rfl) (by kernel_rfl)
def c6s29 : ICode := (.seq c6k28 c6s27)
@[simp] theorem uc6s29 : Ex F cx (.code c6s29 :: k) s r ↔ Ex F cx (.code (.seq c6k28 c6s27) :: k) s r := Iff.rfl
def c6r30 : List Seg := [
  .one ⟨some 31, .mv (.t 7), none⟩,
  .one ⟨some 32, .call (.c (.func 26 [])) [(.t 31), (.c (.int .i64 20))], none⟩,
  .one ⟨some 8, .mv (.t 32), none⟩]
def c6k30 : ICode := .kill (dead 124 [5, 6, 7]) (.ops c6r30)
@[simp] theorem uc6k30 : Ex F cx (.code c6k30 :: k) ⟨mk 124 l, rows, low⟩ r ↔ bnd (Ret F 26 [lk l 7, (.int .i64 20)] rows) fun q0 => Ex F cx k ⟨mk 124 [(8, q0.1), (32, q0.1), (31, lk l 7), (5, lk l 5), (6, lk l 6), (7, lk l 7)], q0.2.1, (lowO low q0.2.2)⟩ r := reg (keep := [5, 6, 7]) (ops := c6r30) rfl (by kernel_rfl) (by kernel_rfl)
def c6s31 : ICode := (.seq c6k30 c6s29)
@[simp] theorem uc6s31 : Ex F cx (.code c6s31 :: k) s r ↔ Ex F cx (.code (.seq c6k30 c6s29) :: k) s r := Iff.rfl
def c6r32 : List Seg := [
  .one ⟨some 27, .mv (.t 1), none⟩,
  .one ⟨some 28, .mv (.t 5), none⟩,
  .one ⟨some 29, .len 0 (.t 28), none⟩,
  .one ⟨some 30, .call (.c (.func 27 [])) [(.t 27), (.c (.int .i64 0)), (.t 29)], none⟩,
  .one ⟨some 7, .mv (.t 30), none⟩]
def c6k32 : ICode := .kill (dead 124 [1, 5, 6]) (.ops c6r32)
@[simp] theorem uc6k32 : Ex F cx (.code c6k32 :: k) ⟨mk 124 l, rows, low⟩ r ↔ bnd (evP rows (.len 0 (.c (lk l 5)))) fun v0 => bnd (Ret F 27 [lk l 1, (.int .i64 0), v0] rows) fun q1 => Ex F cx k ⟨mk 124 [(7, q1.1), (30, q1.1), (29, v0), (28, lk l 5), (27, lk l 1), (1, lk l 1), (5, lk l 5), (6, lk l 6)], q1.2.1, (lowO low q1.2.2)⟩ r := reg (keep := [1, 5, 6]) (ops := c6r32) rfl (by kernel_rfl) (by kernel_rfl)
def c6s33 : ICode := (.seq c6k32 c6s31)
@[simp] theorem uc6s33 : Ex F cx (.code c6s33 :: k) s r ↔ Ex F cx (.code (.seq c6k32 c6s31) :: k) s r := Iff.rfl
def c6r34 : List Seg := [
  .one ⟨some 25, .mv (.t 5), none⟩,
  .one ⟨some 26, .call (.c (.func 26 [])) [(.t 25), (.c (.int .i64 20))], none⟩,
  .one ⟨some 6, .mv (.t 26), none⟩]
def c6k34 : ICode := .kill (dead 124 [1, 5]) (.ops c6r34)
@[simp] theorem uc6k34 : Ex F cx (.code c6k34 :: k) ⟨mk 124 l, rows, low⟩ r ↔ bnd (Ret F 26 [lk l 5, (.int .i64 20)] rows) fun q0 => Ex F cx k ⟨mk 124 [(6, q0.1), (26, q0.1), (25, lk l 5), (1, lk l 1), (5, lk l 5)], q0.2.1, (lowO low q0.2.2)⟩ r := reg (keep := [1, 5]) (ops := c6r34) rfl (by kernel_rfl) (by kernel_rfl)
def c6s35 : ICode := (.seq c6k34 c6s33)
@[simp] theorem uc6s35 : Ex F cx (.code c6s35 :: k) s r ↔ Ex F cx (.code (.seq c6k34 c6s33) :: k) s r := Iff.rfl
def c6r36 : List Seg := [
  .one ⟨some 23, .mv (.t 0), none⟩,
  .one ⟨some 24, .call (.c (.func 25 [])) [(.t 23)], none⟩,
  .one ⟨some 5, .mv (.t 24), none⟩]
def c6k36 : ICode := .kill (dead 124 [0, 1]) (.ops c6r36)
@[simp] theorem uc6k36 : Ex F cx (.code c6k36 :: k) ⟨mk 124 l, rows, low⟩ r ↔ bnd (Ret F 25 [lk l 0] rows) fun q0 => Ex F cx k ⟨mk 124 [(5, q0.1), (24, q0.1), (23, lk l 0), (0, lk l 0), (1, lk l 1)], q0.2.1, (lowO low q0.2.2)⟩ r := reg (keep := [0, 1]) (ops := c6r36) rfl (by kernel_rfl) (by kernel_rfl)
def c6s37 : ICode := (.seq c6k36 c6s35)
@[simp] theorem uc6s37 : Ex F cx (.code c6s37 :: k) s r ↔ Ex F cx (.code (.seq c6k36 c6s35) :: k) s r := Iff.rfl
def c6r38 : List Seg := [
  .one ⟨some 4, .mv (.c (.bool false)), none⟩]
def c6k38 : ICode := .kill (dead 124 [0, 1]) (.ops c6r38)
@[simp] theorem uc6k38 : Ex F cx (.code c6k38 :: k) ⟨mk 124 l, rows, low⟩ r ↔ Ex F cx k ⟨mk 124 [(4, (.bool false)), (0, lk l 0), (1, lk l 1)], rows, low⟩ r := reg (keep := [0, 1]) (ops := c6r38) rfl (by kernel_rfl) (by kernel_rfl)
def Jc6s11 (F : Nat → Option IFn) (cx : Ctx) (x5 x6 x7 x8 x11 x13 x15 x16 x17 x18 : AV) (rows : List Row) (low : Nat) (r : AV × List Row × Nat → Prop) : Prop := Ex F cx (.code c6s11 :: .inLoop c6l8 :: .inBlock 2 :: .inBlock 1 :: .code c6k7 :: .inLoop c6l6 :: .inBlock 0 :: .code c6s5 :: []) ⟨mk 124 [(5, x5), (6, x6), (7, x7), (8, x8), (11, x11), (13, x13), (15, x15), (16, x16), (17, x17), (18, x18)], rows, low⟩ r
theorem jc6s11 : Ex F cx (.code c6s11 :: .inLoop c6l8 :: .inBlock 2 :: .inBlock 1 :: .code c6k7 :: .inLoop c6l6 :: .inBlock 0 :: .code c6s5 :: []) ⟨mk 124 l, rows, low⟩ r ↔ Jc6s11 F cx (lk l 5) (lk l 6) (lk l 7) (lk l 8) (lk l 11) (lk l 13) (lk l 15) (lk l 16) (lk l 17) (lk l 18) rows low r := Ex_canon (keep := [5, 6, 7, 8, 11, 13, 15, 16, 17, 18]) (by kernel_rfl)
def Lc6l8 (F : Nat → Option IFn) (cx : Ctx) (x5 x6 x7 x8 x11 x13 x15 x16 x17 x18 : AV) (rows : List Row) (low : Nat) (r : AV × List Row × Nat → Prop) : Prop := Ex F cx (.code c6l8 :: .inLoop c6l8 :: .inBlock 2 :: .inBlock 1 :: .code c6k7 :: .inLoop c6l6 :: .inBlock 0 :: .code c6s5 :: []) ⟨mk 124 [(5, x5), (6, x6), (7, x7), (8, x8), (11, x11), (13, x13), (15, x15), (16, x16), (17, x17), (18, x18)], rows, low⟩ r
@[simp] theorem nc6l8 : Ex F cx (.inLoop c6l8 :: .inBlock 2 :: .inBlock 1 :: .code c6k7 :: .inLoop c6l6 :: .inBlock 0 :: .code c6s5 :: []) ⟨mk 124 l, rows, low⟩ r ↔ Lc6l8 F cx (lk l 5) (lk l 6) (lk l 7) (lk l 8) (lk l 11) (lk l 13) (lk l 15) (lk l 16) (lk l 17) (lk l 18) rows low r := loopN (keep := [5, 6, 7, 8, 11, 13, 15, 16, 17, 18]) (by kernel_rfl)
@[simp] theorem ec6l8 : Ex F cx (.code (.loop c6l8) :: .inBlock 2 :: .inBlock 1 :: .code c6k7 :: .inLoop c6l6 :: .inBlock 0 :: .code c6s5 :: []) ⟨mk 124 l, rows, low⟩ r ↔ Lc6l8 F cx (lk l 5) (lk l 6) (lk l 7) (lk l 8) (lk l 11) (lk l 13) (lk l 15) (lk l 16) (lk l 17) (lk l 18) rows low r := loopE (keep := [5, 6, 7, 8, 11, 13, 15, 16, 17, 18]) (by kernel_rfl)
@[simp] theorem uc6l8 : Ex F cx (.code c6l8 :: k) s r ↔ Ex F cx (.code (.seq (.seq c6k13 c6s12) c6s11) :: k) s r := Iff.rfl
def Jc6s16 (F : Nat → Option IFn) (cx : Ctx) (x5 x6 x7 x8 x11 x13 x15 x16 x17 : AV) (rows : List Row) (low : Nat) (r : AV × List Row × Nat → Prop) : Prop := Ex F cx (.code c6s16 :: .inLoop c6l6 :: .inBlock 0 :: .code c6s5 :: []) ⟨mk 124 [(5, x5), (6, x6), (7, x7), (8, x8), (11, x11), (13, x13), (15, x15), (16, x16), (17, x17)], rows, low⟩ r
theorem jc6s16 : Ex F cx (.code c6s16 :: .inLoop c6l6 :: .inBlock 0 :: .code c6s5 :: []) ⟨mk 124 l, rows, low⟩ r ↔ Jc6s16 F cx (lk l 5) (lk l 6) (lk l 7) (lk l 8) (lk l 11) (lk l 13) (lk l 15) (lk l 16) (lk l 17) rows low r := Ex_canon (keep := [5, 6, 7, 8, 11, 13, 15, 16, 17]) (by kernel_rfl)
def Lc6l6 (F : Nat → Option IFn) (cx : Ctx) (x5 x6 x7 x8 x11 x13 x15 x16 x17 : AV) (rows : List Row) (low : Nat) (r : AV × List Row × Nat → Prop) : Prop := Ex F cx (.code c6l6 :: .inLoop c6l6 :: .inBlock 0 :: .code c6s5 :: []) ⟨mk 124 [(5, x5), (6, x6), (7, x7), (8, x8), (11, x11), (13, x13), (15, x15), (16, x16), (17, x17)], rows, low⟩ r
@[simp] theorem nc6l6 : Ex F cx (.inLoop c6l6 :: .inBlock 0 :: .code c6s5 :: []) ⟨mk 124 l, rows, low⟩ r ↔ Lc6l6 F cx (lk l 5) (lk l 6) (lk l 7) (lk l 8) (lk l 11) (lk l 13) (lk l 15) (lk l 16) (lk l 17) rows low r := loopN (keep := [5, 6, 7, 8, 11, 13, 15, 16, 17]) (by kernel_rfl)
@[simp] theorem ec6l6 : Ex F cx (.code (.loop c6l6) :: .inBlock 0 :: .code c6s5 :: []) ⟨mk 124 l, rows, low⟩ r ↔ Lc6l6 F cx (lk l 5) (lk l 6) (lk l 7) (lk l 8) (lk l 11) (lk l 13) (lk l 15) (lk l 16) (lk l 17) rows low r := loopE (keep := [5, 6, 7, 8, 11, 13, 15, 16, 17]) (by kernel_rfl)
@[simp] theorem uc6l6 : Ex F cx (.code c6l6 :: k) s r ↔ Ex F cx (.code (.seq (.seq c6k18 c6s17) c6s16) :: k) s r := Iff.rfl
def c6b : ICode := (.seq c6k38 c6s37)
@[simp] theorem uc6b : Ex F cx (.code c6b :: k) s r ↔ Ex F cx (.code (.seq c6k38 c6s37) :: k) s r := Iff.rfl
def c6 : IFn := ⟨124, [.t 4], c6b⟩
def h6 : List (Nat × List Nat) := [(0, dead 124 [0, 1]), (1, dead 124 [0, 1]), (2, dead 124 [1, 5]), (3, dead 124 [1, 5, 6]), (4, dead 124 [5, 6, 7]), (5, dead 124 [5, 6, 7, 8]), (6, dead 124 [5, 6, 7, 8, 10, 11]), (7, dead 124 [5, 6, 7, 8, 10, 11, 12, 13]), (8, dead 124 [5, 6, 7, 8, 10, 11, 12, 13, 14, 15]), (9, dead 124 [5, 6, 7, 8, 11, 13, 15, 16]), (10, dead 124 [5, 6, 7, 8, 11, 13, 15, 16, 17]), (12, dead 124 [5, 6, 7, 8, 11, 13, 15, 16, 17]), (13, dead 124 [5, 6, 7, 8, 11, 13, 15, 16, 17, 18]), (15, dead 124 [5, 6, 7, 8, 11, 13, 15, 16, 17, 18]), (14, dead 124 [5, 6, 7, 8, 11, 13, 15, 16, 17, 18]), (11, dead 124 [5, 6, 7, 8, 11, 13, 15, 16, 17]), (16, dead 124 [5, 6, 7, 8, 11, 13, 15]), (17, dead 124 [5, 6, 7, 8, 11, 13, 15, 19, 20]), (18, dead 124 [5, 6, 7, 8, 11, 13, 15, 19, 20, 21, 22])]
theorem i6 {x0 x1 : AV} (hF : F 6 = some c6) {q : AV × List Row × Option Nat} (h : Ex F (.fn [.t 4]) [.code c6b] ⟨mk 124 [(0, x0), (1, x1)], rows, rows.length⟩ fun r => fin rows r.1 r.2.1 r.2.2 = q) : Ret F 6 [x0, x1] rows = some q := Ret_mk hF h
end Go.Abs
