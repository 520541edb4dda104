/- The evaluator's code of a law. -/
import Derived.Test.YtiejbjajbehcfaaDoorA27
import Derived.KernelRfl
set_option linter.unusedVariables false
set_option maxRecDepth 20000
set_option maxHeartbeats 4000000
namespace Go.Abs
variable {F : Nat → Option IFn} {cx : Ctx} {k : List Itm} {s : St} {l : List (Nat × AV)} {rows : List Row} {low : Nat} {r : AV × List Row × Nat → Prop}
/-! tosher/tosherlaw08.SearchBinomials -/
def c4r0 : List Seg := [
  .one ⟨some 127, .mv (.t 17), none⟩,
  .one ⟨some 128, .bin .eql (.t 127) (.c (.int .i64 0)), none⟩,
  .one ⟨some 129, .mv (.t 128), none⟩,
  .one ⟨some 130, .mv (.t 19), some (129, true)⟩,
  .one ⟨some 131, .bin .eql (.t 130) (.c (.int .i64 0)), some (129, true)⟩,
  .one ⟨some 132, .pick (.t 129) (.t 131) (.c (.bool false)), none⟩,
  .one ⟨some 133, .mv (.t 132), none⟩,
  .one ⟨some 134, .mv (.t 21), some (133, true)⟩,
  .one ⟨some 135, .bin .eql (.t 134) (.c (.int .i64 0)), some (133, true)⟩,
  .one ⟨some 136, .pick (.t 133) (.t 135) (.c (.bool false)), none⟩,
  .one ⟨some 137, .mv (.t 136), none⟩,
  .one ⟨some 138, .mv (.t 23), some (137, true)⟩,
  .one ⟨some 139, .bin .eql (.t 138) (.c (.int .i64 0)), some (137, true)⟩,
  .one ⟨some 140, .pick (.t 137) (.t 139) (.c (.bool false)), none⟩,
  .one ⟨some 141, .mv (.t 140), none⟩,
  .one ⟨some 142, .mv (.t 16), some (141, true)⟩,
  .one ⟨some 143, .mv (.t 2), some (141, true)⟩,
  .one ⟨some 144, .bin .geq (.t 142) (.t 143), some (141, true)⟩,
  .one ⟨some 145, .pick (.t 141) (.t 144) (.c (.bool false)), none⟩,
  .one ⟨some 146, .mv (.t 145), none⟩,
  .one ⟨some 147, .mv (.t 18), some (146, true)⟩,
  .one ⟨some 148, .mv (.t 2), some (146, true)⟩,
  .one ⟨some 149, .bin .lss (.t 147) (.t 148), some (146, true)⟩,
  .one ⟨some 150, .pick (.t 146) (.t 149) (.c (.bool false)), none⟩,
  .one ⟨some 151, .mv (.t 150), none⟩,
  .one ⟨some 152, .mv (.t 22), some (151, true)⟩,
  .one ⟨some 153, .bin .geq (.t 152) (.c (.int .i64 1)), some (151, true)⟩,
  .one ⟨some 154, .pick (.t 151) (.t 153) (.c (.bool false)), none⟩,
  .one ⟨some 155, .mv (.t 154), none⟩,
  .one ⟨some 156, .mv (.t 22), some (155, true)⟩,
  .one ⟨some 157, .mv (.t 2), some (155, true)⟩,
  .one ⟨some 158, .bin .leq (.t 156) (.t 157), some (155, true)⟩,
  .one ⟨some 159, .pick (.t 155) (.t 158) (.c (.bool false)), none⟩,
  .one ⟨some 160, .mv (.t 159), none⟩,
  .one ⟨some 161, .mv (.t 22), some (160, true)⟩,
  .one ⟨some 162, .bin .sub (.t 161) (.c (.int .i64 1)), some (160, true)⟩,
  .one ⟨some 163, .mv (.t 20), some (160, true)⟩,
  .one ⟨some 164, .bin .leq (.t 162) (.t 163), some (160, true)⟩,
  .one ⟨some 165, .pick (.t 160) (.t 164) (.c (.bool false)), none⟩,
  .one ⟨some 166, .mv (.t 165), none⟩,
  .one ⟨some 167, .mv (.t 2), some (166, true)⟩,
  .one ⟨some 168, .mv (.t 22), some (166, true)⟩,
  .one ⟨some 169, .bin .sub (.t 167) (.t 168), some (166, true)⟩,
  .one ⟨some 170, .mv (.t 18), some (166, true)⟩,
  .one ⟨some 171, .bin .leq (.t 169) (.t 170), some (166, true)⟩,
  .one ⟨some 172, .pick (.t 166) (.t 171) (.c (.bool false)), none⟩,
  .one ⟨some 173, .mv (.t 172), none⟩,
  .one ⟨some 174, .call (.c (.func 22 [])) [], some (173, true)⟩,
  .one ⟨some 175, .pick (.t 173) (.t 174) (.c (.bool false)), none⟩,
  .one ⟨some 6, .mv (.t 175), none⟩]
def c4k0 : ICode := .kill (dead 176 [2, 16, 17, 18, 19, 20, 21, 22, 23]) (.ops c4r0)
@[simp] theorem uc4k0 : Ex F cx (.code c4k0 :: k) ⟨mk 176 l, rows, low⟩ r ↔ bnd (evP rows (.bin .eql (.c (lk l 17)) (.c (.int .i64 0)))) fun v0 => bnd (gv v0 true (evP rows (.mv (.c (lk l 19))))) fun v1 => bnd (gv v0 true (evP rows (.bin .eql (.c v1) (.c (.int .i64 0))))) fun v2 => bnd (evP rows (.pick (.c v0) (.c v2) (.c (.bool false)))) fun v3 => bnd (gv v3 true (evP rows (.mv (.c (lk l 21))))) fun v4 => bnd (gv v3 true (evP rows (.bin .eql (.c v4) (.c (.int .i64 0))))) fun v5 => bnd (evP rows (.pick (.c v3) (.c v5) (.c (.bool false)))) fun v6 => bnd (gv v6 true (evP rows (.mv (.c (lk l 23))))) fun v7 => bnd (gv v6 true (evP rows (.bin .eql (.c v7) (.c (.int .i64 0))))) fun v8 => bnd (evP rows (.pick (.c v6) (.c v8) (.c (.bool false)))) fun v9 => bnd (gv v9 true (evP rows (.mv (.c (lk l 16))))) fun v10 => bnd (gv v9 true (evP rows (.mv (.c (lk l 2))))) fun v11 => bnd (gv v9 true (evP rows (.bin .geq (.c v10) (.c v11)))) fun v12 => bnd (evP rows (.pick (.c v9) (.c v12) (.c (.bool false)))) fun v13 => bnd (gv v13 true (evP rows (.mv (.c (lk l 18))))) fun v14 => bnd (gv v13 true (evP rows (.mv (.c (lk l 2))))) fun v15 => bnd (gv v13 true (evP rows (.bin .lss (.c v14) (.c v15)))) fun v16 => bnd (evP rows (.pick (.c v13) (.c v16) (.c (.bool false)))) fun v17 => bnd (gv v17 true (evP rows (.mv (.c (lk l 22))))) fun v18 => bnd (gv v17 true (evP rows (.bin .geq (.c v18) (.c (.int .i64 1))))) fun v19 => bnd (evP rows (.pick (.c v17) (.c v19) (.c (.bool false)))) fun v20 => bnd (gv v20 true (evP rows (.mv (.c (lk l 22))))) fun v21 => bnd (gv v20 true (evP rows (.mv (.c (lk l 2))))) fun v22 => bnd (gv v20 true (evP rows (.bin .leq (.c v21) (.c v22)))) fun v23 => bnd (evP rows (.pick (.c v20) (.c v23) (.c (.bool false)))) fun v24 => bnd (gv v24 true (evP rows (.mv (.c (lk l 22))))) fun v25 => bnd (gv v24 true (evP rows (.bin .sub (.c v25) (.c (.int .i64 1))))) fun v26 => bnd (gv v24 true (evP rows (.mv (.c (lk l 20))))) fun v27 => bnd (gv v24 true (evP rows (.bin .leq (.c v26) (.c v27)))) fun v28 => bnd (evP rows (.pick (.c v24) (.c v28) (.c (.bool false)))) fun v29 => bnd (gv v29 true (evP rows (.mv (.c (lk l 2))))) fun v30 => bnd (gv v29 true (evP rows (.mv (.c (lk l 22))))) fun v31 => bnd (gv v29 true (evP rows (.bin .sub (.c v30) (.c v31)))) fun v32 => bnd (gv v29 true (evP rows (.mv (.c (lk l 18))))) fun v33 => bnd (gv v29 true (evP rows (.bin .leq (.c v32) (.c v33)))) fun v34 => bnd (evP rows (.pick (.c v29) (.c v34) (.c (.bool false)))) fun v35 => gcall F v35 true rows low [] (.func 22 []) fun v36 R36 L36 => bnd (evP R36 (.pick (.c v35) (.c v36) (.c (.bool false)))) fun v37 => Ex F cx k ⟨mk 176 [(6, v37), (175, v37), (174, v36), (173, v35), (172, v35), (171, v34), (170, v33), (169, v32), (168, v31), (167, v30), (166, v29), (165, v29), (164, v28), (163, v27), (162, v26), (161, v25), (160, v24), (159, v24), (158, v23), (157, v22), (156, v21), (155, v20), (154, v20), (153, v19), (152, v18), (151, v17), (150, v17), (149, v16), (148, v15), (147, v14), (146, v13), (145, v13), (144, v12), (143, v11), (142, v10), (141, v9), (140, v9), (139, v8), (138, v7), (137, v6), (136, v6), (135, v5), (134, v4), (133, v3), (132, v3), (131, v2), (130, v1), (129, v0), (128, v0), (127, lk l 17), (2, lk l 2), (16, lk l 16), (17, lk l 17), (18, lk l 18), (19, lk l 19), (20, lk l 20), (21, lk l 21), (22, lk l 22), (23, lk l 23)], R36, L36⟩ r := reg (keep := [2, 16, 17, 18, 19, 20, 21, 22, 23]) (ops := c4r0) rfl (by kernel_rfl) (by kernel_rfl)
def c4s1 : ICode := (.seq c4k0 .ret)
@[simp] theorem uc4s1 : Ex F cx (.code c4s1 :: k) s r ↔ Ex F cx (.code (.seq c4k0 .ret) :: k) s r := Iff.rfl
def c4r2 : List Seg := [
  .one ⟨some 122, .mv (.t 0), none⟩,
  .one ⟨some 123, .mv (.t 2), none⟩,
  .one ⟨some 124, .call (.c (.func 19 [])) [(.t 122), (.t 123)], none⟩,
  .one ⟨some 121, .mv (.t 124), none⟩,
  .one ⟨some 125, .ext (.t 121) 0, none⟩,
  .one ⟨some 126, .ext (.t 121) 1, none⟩,
  .one ⟨some 22, .mv (.t 125), none⟩,
  .one ⟨some 23, .mv (.t 126), none⟩]
def c4k2 : ICode := .kill (dead 176 [0, 2, 16, 17, 18, 19, 20, 21]) (.ops c4r2)
@[simp] theorem uc4k2 : Ex F cx (.code c4k2 :: k) ⟨mk 176 l, rows, low⟩ r ↔ bnd (Ret F 19 [lk l 0, lk l 2] rows) fun q0 => bnd (evP q0.2.1 (.ext (.c q0.1) 0)) fun v1 => bnd (evP q0.2.1 (.ext (.c q0.1) 1)) fun v2 => Ex F cx k ⟨mk 176 [(23, v2), (22, v1), (126, v2), (125, v1), (121, q0.1), (124, q0.1), (123, lk l 2), (122, lk l 0), (0, lk l 0), (2, lk l 2), (16, lk l 16), (17, lk l 17), (18, lk l 18), (19, lk l 19), (20, lk l 20), (21, lk l 21)], q0.2.1, (lowO low q0.2.2)⟩ r := reg (keep := [0, 2, 16, 17, 18, 19, 20, 21]) (ops := c4r2) rfl (by kernel_rfl) (by kernel_rfl)
def c4s3 : ICode := (.seq c4k2 c4s1)
@[simp] theorem uc4s3 : Ex F cx (.code c4s3 :: k) s r ↔ Ex F cx (.code (.seq c4k2 c4s1) :: k) s r := Iff.rfl
def c4r4 : List Seg := [
  .one ⟨some 114, .mv (.t 0), none⟩,
  .one ⟨some 115, .bin .sub (.t 114) (.c (.int .i64 1)), none⟩,
  .one ⟨some 116, .mv (.t 12), none⟩,
  .one ⟨some 117, .bin .sub (.t 116) (.c (.int .i64 1)), none⟩,
  .one ⟨some 118, .call (.c (.func 16 [])) [(.t 115), (.t 117)], none⟩,
  .one ⟨some 113, .mv (.t 118), none⟩,
  .one ⟨some 119, .ext (.t 113) 0, none⟩,
  .one ⟨some 120, .ext (.t 113) 1, none⟩,
  .one ⟨some 20, .mv (.t 119), none⟩,
  .one ⟨some 21, .mv (.t 120), none⟩]
def c4k4 : ICode := .kill (dead 176 [0, 2, 12, 16, 17, 18, 19]) (.ops c4r4)
@[simp] theorem uc4k4 : Ex F cx (.code c4k4 :: k) ⟨mk 176 l, rows, low⟩ r ↔ bnd (evP rows (.bin .sub (.c (lk l 0)) (.c (.int .i64 1)))) fun v0 => bnd (evP rows (.bin .sub (.c (lk l 12)) (.c (.int .i64 1)))) fun v1 => bnd (Ret F 16 [v0, v1] rows) fun q2 => bnd (evP q2.2.1 (.ext (.c q2.1) 0)) fun v3 => bnd (evP q2.2.1 (.ext (.c q2.1) 1)) fun v4 => Ex F cx k ⟨mk 176 [(21, v4), (20, v3), (120, v4), (119, v3), (113, q2.1), (118, q2.1), (117, v1), (116, lk l 12), (115, v0), (114, lk l 0), (0, lk l 0), (2, lk l 2), (12, lk l 12), (16, lk l 16), (17, lk l 17), (18, lk l 18), (19, lk l 19)], q2.2.1, (lowO low q2.2.2)⟩ r := reg (keep := [0, 2, 12, 16, 17, 18, 19]) (ops := c4r4) rfl (by kernel_rfl) (by kernel_rfl)
def c4s5 : ICode := (.seq c4k4 c4s3)
@[simp] theorem uc4s5 : Ex F cx (.code c4s5 :: k) s r ↔ Ex F cx (.code (.seq c4k4 c4s3) :: k) s r := Iff.rfl
def c4r6 : List Seg := [
  .one ⟨some 107, .mv (.t 0), none⟩,
  .one ⟨some 108, .mv (.t 12), none⟩,
  .one ⟨some 109, .bin .sub (.t 108) (.c (.int .i64 1)), none⟩,
  .one ⟨some 110, .call (.c (.func 16 [])) [(.t 107), (.t 109)], none⟩,
  .one ⟨some 106, .mv (.t 110), none⟩,
  .one ⟨some 111, .ext (.t 106) 0, none⟩,
  .one ⟨some 112, .ext (.t 106) 1, none⟩,
  .one ⟨some 18, .mv (.t 111), none⟩,
  .one ⟨some 19, .mv (.t 112), none⟩]
def c4k6 : ICode := .kill (dead 176 [0, 2, 12, 16, 17]) (.ops c4r6)
@[simp] theorem uc4k6 : Ex F cx (.code c4k6 :: k) ⟨mk 176 l, rows, low⟩ r ↔ bnd (evP rows (.bin .sub (.c (lk l 12)) (.c (.int .i64 1)))) fun v0 => bnd (Ret F 16 [lk l 0, v0] rows) fun q1 => bnd (evP q1.2.1 (.ext (.c q1.1) 0)) fun v2 => bnd (evP q1.2.1 (.ext (.c q1.1) 1)) fun v3 => Ex F cx k ⟨mk 176 [(19, v3), (18, v2), (112, v3), (111, v2), (106, q1.1), (110, q1.1), (109, v0), (108, lk l 12), (107, lk l 0), (0, lk l 0), (2, lk l 2), (12, lk l 12), (16, lk l 16), (17, lk l 17)], q1.2.1, (lowO low q1.2.2)⟩ r := reg (keep := [0, 2, 12, 16, 17]) (ops := c4r6) rfl (by kernel_rfl) (by kernel_rfl)
def c4s7 : ICode := (.seq c4k6 c4s5)
@[simp] theorem uc4s7 : Ex F cx (.code c4s7 :: k) s r ↔ Ex F cx (.code (.seq c4k6 c4s5) :: k) s r := Iff.rfl
def c4r8 : List Seg := [
  .one ⟨some 101, .mv (.t 0), none⟩,
  .one ⟨some 102, .mv (.t 12), none⟩,
  .one ⟨some 103, .call (.c (.func 16 [])) [(.t 101), (.t 102)], none⟩,
  .one ⟨some 100, .mv (.t 103), none⟩,
  .one ⟨some 104, .ext (.t 100) 0, none⟩,
  .one ⟨some 105, .ext (.t 100) 1, none⟩,
  .one ⟨some 16, .mv (.t 104), none⟩,
  .one ⟨some 17, .mv (.t 105), none⟩]
def c4k8 : ICode := .kill (dead 176 [0, 2, 12]) (.ops c4r8)
@[simp] theorem uc4k8 : Ex F cx (.code c4k8 :: k) ⟨mk 176 l, rows, low⟩ r ↔ bnd (Ret F 16 [lk l 0, lk l 12] rows) fun q0 => bnd (evP q0.2.1 (.ext (.c q0.1) 0)) fun v1 => bnd (evP q0.2.1 (.ext (.c q0.1) 1)) fun v2 => Ex F cx k ⟨mk 176 [(17, v2), (16, v1), (105, v2), (104, v1), (100, q0.1), (103, q0.1), (102, lk l 12), (101, lk l 0), (0, lk l 0), (2, lk l 2), (12, lk l 12)], q0.2.1, (lowO low q0.2.2)⟩ r := reg (keep := [0, 2, 12]) (ops := c4r8) rfl (by kernel_rfl) (by kernel_rfl)
def c4s9 : ICode := (.seq c4k8 c4s7)
@[simp] theorem uc4s9 : Ex F cx (.code c4s9 :: k) s r ↔ Ex F cx (.code (.seq c4k8 c4s7) :: k) s r := Iff.rfl
def c4r10 : List Seg := [
  .one ⟨some 6, .mv (.c (.bool false)), none⟩]
def c4k10 : ICode := .kill (dead 176 []) (.ops c4r10)
@[simp] theorem uc4k10 : Ex F cx (.code c4k10 :: k) ⟨mk 176 l, rows, low⟩ r ↔ Ex F cx k ⟨mk 176 [(6, (.bool false))], rows, low⟩ r := reg (keep := []) (ops := c4r10) rfl (by kernel_rfl) (by kernel_rfl)
def c4s11 : ICode := (.cond (.t 99) (.seq c4k10 .ret) .skip)
@[simp] theorem uc4s11 : Ex F cx (.code c4s11 :: k) s r ↔ Ex F cx (.code (.cond (.t 99) (.seq c4k10 .ret) .skip) :: k) s r := Iff.rfl
def c4r12 : List Seg := [
  .one ⟨some 94, .mv (.t 12), none⟩,
  .one ⟨some 95, .bin .lss (.t 94) (.c (.int .i64 1)), none⟩,
  .one ⟨some 96, .mv (.t 95), none⟩,
  .one ⟨some 97, .mv (.t 12), some (96, false)⟩,
  .one ⟨some 98, .bin .gtr (.t 97) (.c (.int .i64 60)), some (96, false)⟩,
  .one ⟨some 99, .pick (.t 96) (.c (.bool true)) (.t 98), none⟩]
def c4k12 : ICode := .kill (dead 176 [0, 2, 12]) (.ops c4r12)
@[simp] theorem uc4k12 : Ex F cx (.code c4k12 :: k) ⟨mk 176 l, rows, low⟩ r ↔ bnd (evP rows (.bin .lss (.c (lk l 12)) (.c (.int .i64 1)))) fun v0 => bnd (gv v0 false (evP rows (.mv (.c (lk l 12))))) fun v1 => bnd (gv v0 false (evP rows (.bin .gtr (.c v1) (.c (.int .i64 60))))) fun v2 => bnd (evP rows (.pick (.c v0) (.c (.bool true)) (.c v2))) fun v3 => Ex F cx k ⟨mk 176 [(99, v3), (98, v2), (97, v1), (96, v0), (95, v0), (94, lk l 12), (0, lk l 0), (2, lk l 2), (12, lk l 12)], rows, low⟩ r := reg (keep := [0, 2, 12]) (ops := c4r12) rfl (by kernel_rfl) (by kernel_rfl)
def c4s13 : ICode := (.seq (.seq c4k12 c4s11) c4s9)
@[simp] theorem uc4s13 : Ex F cx (.code c4s13 :: k) s r ↔ Ex F cx (.code (.seq (.seq c4k12 c4s11) c4s9) :: k) s r := Iff.rfl
def c4r14 : List Seg := [
  .one ⟨some 80, .mv (.t 13), none⟩,
  .one ⟨some 81, .bin .eql (.t 80) (.c (.int .i64 8)), none⟩,
  .one ⟨some 82, .mv (.t 81), none⟩,
  .one ⟨some 83, .mv (.t 15), some (82, true)⟩,
  .one ⟨some 84, .bin .eql (.t 83) (.c (.int .i64 0)), some (82, true)⟩,
  .one ⟨some 85, .pick (.t 82) (.t 84) (.c (.bool false)), none⟩,
  .one ⟨some 86, .mv (.t 85), none⟩,
  .one ⟨some 87, .mv (.t 14), some (86, true)⟩,
  .one ⟨some 88, .mv (.t 2), some (86, true)⟩,
  .one ⟨some 89, .bin .lss (.t 87) (.t 88), some (86, true)⟩,
  .one ⟨some 90, .pick (.t 86) (.t 89) (.c (.bool false)), none⟩,
  .one ⟨some 91, .mv (.t 90), none⟩,
  .one ⟨some 92, .call (.c (.func 22 [])) [], some (91, true)⟩,
  .one ⟨some 93, .pick (.t 91) (.t 92) (.c (.bool false)), none⟩,
  .one ⟨some 6, .mv (.t 93), none⟩]
def c4k14 : ICode := .kill (dead 176 [2, 13, 14, 15]) (.ops c4r14)
@[simp] theorem uc4k14 : Ex F cx (.code c4k14 :: k) ⟨mk 176 l, rows, low⟩ r ↔ bnd (evP rows (.bin .eql (.c (lk l 13)) (.c (.int .i64 8)))) fun v0 => bnd (gv v0 true (evP rows (.mv (.c (lk l 15))))) fun v1 => bnd (gv v0 true (evP rows (.bin .eql (.c v1) (.c (.int .i64 0))))) fun v2 => bnd (evP rows (.pick (.c v0) (.c v2) (.c (.bool false)))) fun v3 => bnd (gv v3 true (evP rows (.mv (.c (lk l 14))))) fun v4 => bnd (gv v3 true (evP rows (.mv (.c (lk l 2))))) fun v5 => bnd (gv v3 true (evP rows (.bin .lss (.c v4) (.c v5)))) fun v6 => bnd (evP rows (.pick (.c v3) (.c v6) (.c (.bool false)))) fun v7 => gcall F v7 true rows low [] (.func 22 []) fun v8 R8 L8 => bnd (evP R8 (.pick (.c v7) (.c v8) (.c (.bool false)))) fun v9 => Ex F cx k ⟨mk 176 [(6, v9), (93, v9), (92, v8), (91, v7), (90, v7), (89, v6), (88, v5), (87, v4), (86, v3), (85, v3), (84, v2), (83, v1), (82, v0), (81, v0), (80, lk l 13), (2, lk l 2), (13, lk l 13), (14, lk l 14), (15, lk l 15)], R8, L8⟩ r := reg (keep := [2, 13, 14, 15]) (ops := c4r14) rfl (by kernel_rfl) (by kernel_rfl)
def c4s15 : ICode := (.seq c4k14 .ret)
@[simp] theorem uc4s15 : Ex F cx (.code c4s15 :: k) s r ↔ Ex F cx (.code (.seq c4k14 .ret) :: k) s r := Iff.rfl
def c4r16 : List Seg := [
  .one ⟨some 76, .mv (.t 0), none⟩,
  .one ⟨some 77, .call (.c (.func 16 [])) [(.t 76), (.c (.int .i64 60))], none⟩,
  .one ⟨some 75, .mv (.t 77), none⟩,
  .one ⟨some 78, .ext (.t 75) 0, none⟩,
  .one ⟨some 79, .ext (.t 75) 1, none⟩,
  .one ⟨some 14, .mv (.t 78), none⟩,
  .one ⟨some 15, .mv (.t 79), none⟩]
def c4k16 : ICode := .kill (dead 176 [0, 2, 13]) (.ops c4r16)
@[simp] theorem uc4k16 : Ex F cx (.code c4k16 :: k) ⟨mk 176 l, rows, low⟩ r ↔ bnd (Ret F 16 [lk l 0, (.int .i64 60)] rows) fun q0 => bnd (evP q0.2.1 (.ext (.c q0.1) 0)) fun v1 => bnd (evP q0.2.1 (.ext (.c q0.1) 1)) fun v2 => Ex F cx k ⟨mk 176 [(15, v2), (14, v1), (79, v2), (78, v1), (75, q0.1), (77, q0.1), (76, lk l 0), (0, lk l 0), (2, lk l 2), (13, lk l 13)], q0.2.1, (lowO low q0.2.2)⟩ r := reg (keep := [0, 2, 13]) (ops := c4r16) rfl (by kernel_rfl) (by kernel_rfl)
def c4s17 : ICode := (.cond (.t 74) (.seq c4k16 c4s15) .skip)
@[simp] theorem uc4s17 : Ex F cx (.code c4s17 :: k) s r ↔ Ex F cx (.code (.cond (.t 74) (.seq c4k16 c4s15) .skip) :: k) s r := Iff.rfl
def c4r18 : List Seg := [
  .one ⟨some 73, .mv (.t 13), none⟩,
  .one ⟨some 74, .bin .neq (.t 73) (.c (.int .i64 0)), none⟩]
def c4k18 : ICode := .kill (dead 176 [0, 2, 12, 13]) (.ops c4r18)
@[simp] theorem uc4k18 : Ex F cx (.code c4k18 :: k) ⟨mk 176 l, rows, low⟩ r ↔ bnd (evP rows (.bin .neq (.c (lk l 13)) (.c (.int .i64 0)))) fun v0 => Ex F cx k ⟨mk 176 [(74, v0), (73, lk l 13), (0, lk l 0), (2, lk l 2), (12, lk l 12), (13, lk l 13)], rows, low⟩ r := reg (keep := [0, 2, 12, 13]) (ops := c4r18) rfl (by kernel_rfl) (by kernel_rfl)
def c4s19 : ICode := (.seq (.seq c4k18 c4s17) c4s13)
@[simp] theorem uc4s19 : Ex F cx (.code c4s19 :: k) s r ↔ Ex F cx (.code (.seq (.seq c4k18 c4s17) c4s13) :: k) s r := Iff.rfl
def c4r20 : List Seg := [
  .one ⟨some 68, .mv (.t 0), none⟩,
  .one ⟨some 69, .mv (.t 2), none⟩,
  .one ⟨some 70, .call (.c (.func 18 [])) [(.t 68), (.t 69)], none⟩,
  .one ⟨some 67, .mv (.t 70), none⟩,
  .one ⟨some 71, .ext (.t 67) 0, none⟩,
  .one ⟨some 72, .ext (.t 67) 1, none⟩,
  .one ⟨some 12, .mv (.t 71), none⟩,
  .one ⟨some 13, .mv (.t 72), none⟩]
def c4k20 : ICode := .kill (dead 176 [0, 2]) (.ops c4r20)
@[simp] theorem uc4k20 : Ex F cx (.code c4k20 :: k) ⟨mk 176 l, rows, low⟩ r ↔ bnd (Ret F 18 [lk l 0, lk l 2] rows) fun q0 => bnd (evP q0.2.1 (.ext (.c q0.1) 0)) fun v1 => bnd (evP q0.2.1 (.ext (.c q0.1) 1)) fun v2 => Ex F cx k ⟨mk 176 [(13, v2), (12, v1), (72, v2), (71, v1), (67, q0.1), (70, q0.1), (69, lk l 2), (68, lk l 0), (0, lk l 0), (2, lk l 2)], q0.2.1, (lowO low q0.2.2)⟩ r := reg (keep := [0, 2]) (ops := c4r20) rfl (by kernel_rfl) (by kernel_rfl)
def c4s21 : ICode := (.seq c4k20 c4s19)
@[simp] theorem uc4s21 : Ex F cx (.code c4s21 :: k) s r ↔ Ex F cx (.code (.seq c4k20 c4s19) :: k) s r := Iff.rfl
def c4r22 : List Seg := [
  .one ⟨some 62, .mv (.t 2), none⟩,
  .one ⟨some 63, .conv .u64 (.t 62), none⟩,
  .one ⟨some 64, .bin .rem (.t 63) (.c (.int .u64 1000000000000)), none⟩,
  .one ⟨some 65, .conv .i64 (.t 64), none⟩,
  .one ⟨some 66, .bin .add (.c (.int .i64 1)) (.t 65), none⟩,
  .one ⟨some 2, .mv (.t 66), none⟩]
def c4k22 : ICode := .kill (dead 176 [0, 2]) (.ops c4r22)
@[simp] theorem uc4k22 : Ex F cx (.code c4k22 :: k) ⟨mk 176 l, rows, low⟩ r ↔ bnd (evP rows (.conv .u64 (.c (lk l 2)))) fun v0 => bnd (evP rows (.bin .rem (.c v0) (.c (.int .u64 1000000000000)))) fun v1 => bnd (evP rows (.conv .i64 (.c v1))) fun v2 => bnd (evP rows (.bin .add (.c (.int .i64 1)) (.c v2))) fun v3 => Ex F cx k ⟨mk 176 [(2, v3), (66, v3), (65, v2), (64, v1), (63, v0), (62, lk l 2), (0, lk l 0), (2, lk l 2)], rows, low⟩ r := reg (keep := [0, 2]) (ops := c4r22) rfl (by kernel_rfl) (by kernel_rfl)
def c4s23 : ICode := (.seq c4k22 c4s21)
@[simp] theorem uc4s23 : Ex F cx (.code c4s23 :: k) s r ↔ Ex F cx (.code (.seq c4k22 c4s21) :: k) s r := Iff.rfl
def c4r24 : List Seg := [
  .one ⟨some 6, .mv (.c (.bool false)), none⟩]
def c4k24 : ICode := .kill (dead 176 []) (.ops c4r24)
@[simp] theorem uc4k24 : Ex F cx (.code c4k24 :: k) ⟨mk 176 l, rows, low⟩ r ↔ Ex F cx k ⟨mk 176 [(6, (.bool false))], rows, low⟩ r := reg (keep := []) (ops := c4r24) rfl (by kernel_rfl) (by kernel_rfl)
def c4s25 : ICode := (.cond (.t 61) (.seq c4k24 .ret) .skip)
@[simp] theorem uc4s25 : Ex F cx (.code c4s25 :: k) s r ↔ Ex F cx (.code (.cond (.t 61) (.seq c4k24 .ret) .skip) :: k) s r := Iff.rfl
def c4r26 : List Seg := [
  .one ⟨some 55, .mv (.t 8), none⟩,
  .one ⟨some 56, .bin .neq (.t 55) (.c (.int .i64 0)), none⟩,
  .one ⟨some 57, .mv (.t 56), none⟩,
  .one ⟨some 58, .mv (.t 7), some (57, false)⟩,
  .one ⟨some 59, .mv (.t 9), some (57, false)⟩,
  .one ⟨some 60, .bin .neq (.t 58) (.t 59), some (57, false)⟩,
  .one ⟨some 61, .pick (.t 57) (.c (.bool true)) (.t 60), none⟩]
def c4k26 : ICode := .kill (dead 176 [0, 2, 7, 8, 9]) (.ops c4r26)
@[simp] theorem uc4k26 : Ex F cx (.code c4k26 :: k) ⟨mk 176 l, rows, low⟩ r ↔ bnd (evP rows (.bin .neq (.c (lk l 8)) (.c (.int .i64 0)))) fun v0 => bnd (gv v0 false (evP rows (.mv (.c (lk l 7))))) fun v1 => bnd (gv v0 false (evP rows (.mv (.c (lk l 9))))) fun v2 => bnd (gv v0 false (evP rows (.bin .neq (.c v1) (.c v2)))) fun v3 => bnd (evP rows (.pick (.c v0) (.c (.bool true)) (.c v3))) fun v4 => Ex F cx k ⟨mk 176 [(61, v4), (60, v3), (59, v2), (58, v1), (57, v0), (56, v0), (55, lk l 8), (0, lk l 0), (2, lk l 2), (7, lk l 7), (8, lk l 8), (9, lk l 9)], rows, low⟩ r := reg (keep := [0, 2, 7, 8, 9]) (ops := c4r26) rfl (by kernel_rfl) (by kernel_rfl)
def c4s27 : ICode := (.seq (.seq c4k26 c4s25) c4s23)
@[simp] theorem uc4s27 : Ex F cx (.code c4s27 :: k) s r ↔ Ex F cx (.code (.seq (.seq c4k26 c4s25) c4s23) :: k) s r := Iff.rfl
def c4r29 : List Seg := [
  .one ⟨some 42, .mv (.t 11), none⟩,
  .one ⟨some 43, .bin .add (.t 42) (.c (.int .i64 1)), none⟩,
  .one ⟨some 11, .mv (.t 43), none⟩]
def c4k29 : ICode := .kill (dead 176 [0, 1, 2, 7, 8, 9, 10, 11]) (.ops c4r29)
@[simp] theorem uc4k29 : Ex F cx (.code c4k29 :: k) ⟨mk 176 l, rows, low⟩ r ↔ bnd (evP rows (.bin .add (.c (lk l 11)) (.c (.int .i64 1)))) fun v0 => Ex F cx k ⟨mk 176 [(11, v0), (43, v0), (42, lk l 11), (0, lk l 0), (1, lk l 1), (2, lk l 2), (7, lk l 7), (8, lk l 8), (9, lk l 9), (10, lk l 10), (11, lk l 11)], rows, low⟩ r := reg (keep := [0, 1, 2, 7, 8, 9, 10, 11]) (ops := c4r29) rfl (by kernel_rfl) (by kernel_rfl)
def c4r30 : List Seg := [
  .one ⟨some 52, .mv (.t 9), none⟩,
  .one ⟨some 53, .mv (.t 10), none⟩,
  .one ⟨some 54, .bin .add (.t 52) (.t 53), none⟩,
  .one ⟨some 9, .mv (.t 54), none⟩]
def c4k30 : ICode := .kill (dead 176 [0, 1, 2, 7, 8, 9, 10, 11]) (.ops c4r30)
@[simp] theorem uc4k30 : Ex F cx (.code c4k30 :: k) ⟨mk 176 l, rows, low⟩ r ↔ bnd (evP rows (.bin .add (.c (lk l 9)) (.c (lk l 10)))) fun v0 => Ex F cx k ⟨mk 176 [(9, v0), (54, v0), (53, lk l 10), (52, lk l 9), (0, lk l 0), (1, lk l 1), (2, lk l 2), (7, lk l 7), (8, lk l 8), (9, lk l 9), (10, lk l 10), (11, lk l 11)], rows, low⟩ r := reg (keep := [0, 1, 2, 7, 8, 9, 10, 11]) (ops := c4r30) rfl (by kernel_rfl) (by kernel_rfl)
def c4r31 : List Seg := [
  .one ⟨some 44, .mv (.t 10), none⟩,
  .one ⟨some 45, .mv (.t 1), none⟩,
  .one ⟨some 46, .mv (.t 11), none⟩,
  .one ⟨some 47, .bin .sub (.t 45) (.t 46), none⟩,
  .one ⟨some 48, .bin .add (.t 47) (.c (.int .i64 1)), none⟩,
  .one ⟨some 49, .bin .mul (.t 44) (.t 48), none⟩,
  .one ⟨some 50, .mv (.t 11), none⟩,
  .one ⟨some 51, .bin .quo (.t 49) (.t 50), none⟩,
  .one ⟨some 10, .mv (.t 51), none⟩]
def c4k31 : ICode := .kill (dead 176 [0, 1, 2, 7, 8, 9, 10, 11]) (.ops c4r31)
@[simp] theorem uc4k31 : Ex F cx (.code c4k31 :: k) ⟨mk 176 l, rows, low⟩ r ↔ bnd (evP rows (.bin .sub (.c (lk l 1)) (.c (lk l 11)))) fun v0 => bnd (evP rows (.bin .add (.c v0) (.c (.int .i64 1)))) fun v1 => bnd (evP rows (.bin .mul (.c (lk l 10)) (.c v1))) fun v2 => bnd (evP rows (.bin .quo (.c v2) (.c (lk l 11)))) fun v3 => Ex F cx k ⟨mk 176 [(10, v3), (51, v3), (50, lk l 11), (49, v2), (48, v1), (47, v0), (46, lk l 11), (45, lk l 1), (44, lk l 10), (0, lk l 0), (1, lk l 1), (2, lk l 2), (7, lk l 7), (8, lk l 8), (9, lk l 9), (10, lk l 10), (11, lk l 11)], rows, low⟩ r := reg (keep := [0, 1, 2, 7, 8, 9, 10, 11]) (ops := c4r31) rfl (by kernel_rfl) (by kernel_rfl)
def c4s32 : ICode := (.seq (.block 1 (.seq c4k31 c4k30)) c4k29)
@[simp] theorem uc4s32 : Ex F cx (.code c4s32 :: k) s r ↔ Ex F cx (.code (.seq (.block 1 (.seq c4k31 c4k30)) c4k29) :: k) s r := Iff.rfl
def c4s33 : ICode := (.cond (.t 41) .skip (.exit 0))
@[simp] theorem uc4s33 : Ex F cx (.code c4s33 :: k) s r ↔ Ex F cx (.code (.cond (.t 41) .skip (.exit 0)) :: k) s r := Iff.rfl
def c4r34 : List Seg := [
  .one ⟨some 39, .mv (.t 11), none⟩,
  .one ⟨some 40, .mv (.t 0), none⟩,
  .one ⟨some 41, .bin .leq (.t 39) (.t 40), none⟩]
def c4k34 : ICode := .kill (dead 176 [0, 1, 2, 7, 8, 9, 10, 11]) (.ops c4r34)
@[simp] theorem uc4k34 : Ex F cx (.code c4k34 :: k) ⟨mk 176 l, rows, low⟩ r ↔ bnd (evP rows (.bin .leq (.c (lk l 11)) (.c (lk l 0)))) fun v0 => Ex F cx k ⟨mk 176 [(41, v0), (40, lk l 0), (39, lk l 11), (0, lk l 0), (1, lk l 1), (2, lk l 2), (7, lk l 7), (8, lk l 8), (9, lk l 9), (10, lk l 10), (11, lk l 11)], rows, low⟩ r := reg (keep := [0, 1, 2, 7, 8, 9, 10, 11]) (ops := c4r34) rfl (by kernel_rfl) (by kernel_rfl)
def c4l28 : ICode := (.seq (.seq c4k34 c4s33) c4s32)
def c4s35 : ICode := (.block 0 (.loop c4l28))
@[simp] theorem uc4s35 : Ex F cx (.code c4s35 :: k) s r ↔ Ex F cx (.code (.block 0 (.loop c4l28)) :: k) s r := Iff.rfl
def c4r36 : List Seg := [
  .one ⟨some 11, .mv (.c (.int .i64 1)), none⟩]
def c4k36 : ICode := .kill (dead 176 [0, 1, 2, 7, 8, 9, 10]) (.ops c4r36)
@[simp] theorem uc4k36 : Ex F cx (.code c4k36 :: k) ⟨mk 176 l, rows, low⟩ r ↔ Ex F cx k ⟨mk 176 [(11, (.int .i64 1)), (0, lk l 0), (1, lk l 1), (2, lk l 2), (7, lk l 7), (8, lk l 8), (9, lk l 9), (10, lk l 10)], rows, low⟩ r := reg (keep := [0, 1, 2, 7, 8, 9, 10]) (ops := c4r36) rfl (by kernel_rfl) (by kernel_rfl)
def c4s37 : ICode := (.seq (.seq c4k36 c4s35) c4s27)
@[simp] theorem uc4s37 : Ex F cx (.code c4s37 :: k) s r ↔ Ex F cx (.code (.seq (.seq c4k36 c4s35) c4s27) :: k) s r := Iff.rfl
def c4r38 : List Seg := [
  .one ⟨some 9, .mv (.c (.int .i64 0)), none⟩,
  .one ⟨some 10, .mv (.c (.int .i64 1)), none⟩]
def c4k38 : ICode := .kill (dead 176 [0, 1, 2, 7, 8]) (.ops c4r38)
@[simp] theorem uc4k38 : Ex F cx (.code c4k38 :: k) ⟨mk 176 l, rows, low⟩ r ↔ Ex F cx k ⟨mk 176 [(10, (.int .i64 1)), (9, (.int .i64 0)), (0, lk l 0), (1, lk l 1), (2, lk l 2), (7, lk l 7), (8, lk l 8)], rows, low⟩ r := reg (keep := [0, 1, 2, 7, 8]) (ops := c4r38) rfl (by kernel_rfl) (by kernel_rfl)
def c4s39 : ICode := (.seq c4k38 c4s37)
@[simp] theorem uc4s39 : Ex F cx (.code c4s39 :: k) s r ↔ Ex F cx (.code (.seq c4k38 c4s37) :: k) s r := Iff.rfl
def c4r40 : List Seg := [
  .one ⟨some 34, .mv (.t 0), none⟩,
  .one ⟨some 35, .mv (.t 1), none⟩,
  .one ⟨some 36, .call (.c (.func 16 [])) [(.t 34), (.t 35)], none⟩,
  .one ⟨some 33, .mv (.t 36), none⟩,
  .one ⟨some 37, .ext (.t 33) 0, none⟩,
  .one ⟨some 38, .ext (.t 33) 1, none⟩,
  .one ⟨some 7, .mv (.t 37), none⟩,
  .one ⟨some 8, .mv (.t 38), none⟩]
def c4k40 : ICode := .kill (dead 176 [0, 1, 2]) (.ops c4r40)
@[simp] theorem uc4k40 : Ex F cx (.code c4k40 :: k) ⟨mk 176 l, rows, low⟩ r ↔ bnd (Ret F 16 [lk l 0, lk l 1] rows) fun q0 => bnd (evP q0.2.1 (.ext (.c q0.1) 0)) fun v1 => bnd (evP q0.2.1 (.ext (.c q0.1) 1)) fun v2 => Ex F cx k ⟨mk 176 [(8, v2), (7, v1), (38, v2), (37, v1), (33, q0.1), (36, q0.1), (35, lk l 1), (34, lk l 0), (0, lk l 0), (1, lk l 1), (2, lk l 2)], q0.2.1, (lowO low q0.2.2)⟩ r := reg (keep := [0, 1, 2]) (ops := c4r40) rfl (by kernel_rfl) (by kernel_rfl)
def c4s41 : ICode := (.seq c4k40 c4s39)
@[simp] theorem uc4s41 : Ex F cx (.code c4s41 :: k) s r ↔ Ex F cx (.code (.seq c4k40 c4s39) :: k) s r := Iff.rfl
def c4r42 : List Seg := [
  .one ⟨some 24, .mv (.t 0), none⟩,
  .one ⟨some 25, .conv .u64 (.t 24), none⟩,
  .one ⟨some 26, .bin .rem (.t 25) (.c (.int .u64 20)), none⟩,
  .one ⟨some 27, .conv .i64 (.t 26), none⟩,
  .one ⟨some 28, .bin .add (.c (.int .i64 1)) (.t 27), none⟩,
  .one ⟨some 29, .mv (.t 1), none⟩,
  .one ⟨some 30, .conv .u64 (.t 29), none⟩,
  .one ⟨some 31, .bin .rem (.t 30) (.c (.int .u64 40)), none⟩,
  .one ⟨some 32, .conv .i64 (.t 31), none⟩,
  .one ⟨some 0, .mv (.t 28), none⟩,
  .one ⟨some 1, .mv (.t 32), none⟩]
def c4k42 : ICode := .kill (dead 176 [0, 1, 2]) (.ops c4r42)
@[simp] theorem uc4k42 : Ex F cx (.code c4k42 :: k) ⟨mk 176 l, rows, low⟩ r ↔ bnd (evP rows (.conv .u64 (.c (lk l 0)))) fun v0 => bnd (evP rows (.bin .rem (.c v0) (.c (.int .u64 20)))) fun v1 => bnd (evP rows (.conv .i64 (.c v1))) fun v2 => bnd (evP rows (.bin .add (.c (.int .i64 1)) (.c v2))) fun v3 => bnd (evP rows (.conv .u64 (.c (lk l 1)))) fun v4 => bnd (evP rows (.bin .rem (.c v4) (.c (.int .u64 40)))) fun v5 => bnd (evP rows (.conv .i64 (.c v5))) fun v6 => Ex F cx k ⟨mk 176 [(1, v6), (0, v3), (32, v6), (31, v5), (30, v4), (29, lk l 1), (28, v3), (27, v2), (26, v1), (25, v0), (24, lk l 0), (0, lk l 0), (1, lk l 1), (2, lk l 2)], rows, low⟩ r := reg (keep := [0, 1, 2]) (ops := c4r42) rfl (by kernel_rfl) (by kernel_rfl)
def c4s43 : ICode := (.seq c4k42 c4s41)
@[simp] theorem uc4s43 : Ex F cx (.code c4s43 :: k) s r ↔ Ex F cx (.code (.seq c4k42 c4s41) :: k) s r := Iff.rfl
def c4r44 : List Seg := [
  .one ⟨some 6, .mv (.c (.bool false)), none⟩]
def c4k44 : ICode := .kill (dead 176 [0, 1, 2]) (.ops c4r44)
@[simp] theorem uc4k44 : Ex F cx (.code c4k44 :: k) ⟨mk 176 l, rows, low⟩ r ↔ Ex F cx k ⟨mk 176 [(6, (.bool false)), (0, lk l 0), (1, lk l 1), (2, lk l 2)], rows, low⟩ r := reg (keep := [0, 1, 2]) (ops := c4r44) rfl (by kernel_rfl) (by kernel_rfl)
def Jc4s9 (F : Nat → Option IFn) (cx : Ctx) (x0 x2 x12 : AV) (rows : List Row) (low : Nat) (r : AV × List Row × Nat → Prop) : Prop := Ex F cx (.code c4s9 :: []) ⟨mk 176 [(0, x0), (2, x2), (12, x12)], rows, low⟩ r
theorem jc4s9 : Ex F cx (.code c4s9 :: []) ⟨mk 176 l, rows, low⟩ r ↔ Jc4s9 F cx (lk l 0) (lk l 2) (lk l 12) rows low r := Ex_canon (keep := [0, 2, 12]) (by kernel_rfl)
def Jc4s13 (F : Nat → Option IFn) (cx : Ctx) (x0 x2 x12 : AV) (rows : List Row) (low : Nat) (r : AV × List Row × Nat → Prop) : Prop := Ex F cx (.code c4s13 :: []) ⟨mk 176 [(0, x0), (2, x2), (12, x12)], rows, low⟩ r
theorem jc4s13 : Ex F cx (.code c4s13 :: []) ⟨mk 176 l, rows, low⟩ r ↔ Jc4s13 F cx (lk l 0) (lk l 2) (lk l 12) rows low r := Ex_canon (keep := [0, 2, 12]) (by kernel_rfl)
def Jc4s23 (F : Nat → Option IFn) (cx : Ctx) (x0 x2 : AV) (rows : List Row) (low : Nat) (r : AV × List Row × Nat → Prop) : Prop := Ex F cx (.code c4s23 :: []) ⟨mk 176 [(0, x0), (2, x2)], rows, low⟩ r
theorem jc4s23 : Ex F cx (.code c4s23 :: []) ⟨mk 176 l, rows, low⟩ r ↔ Jc4s23 F cx (lk l 0) (lk l 2) rows low r := Ex_canon (keep := [0, 2]) (by kernel_rfl)
def Jc4s32 (F : Nat → Option IFn) (cx : Ctx) (x0 x1 x2 x7 x8 x9 x10 x11 : AV) (rows : List Row) (low : Nat) (r : AV × List Row × Nat → Prop) : Prop := Ex F cx (.code c4s32 :: .inLoop c4l28 :: .inBlock 0 :: .code c4s27 :: []) ⟨mk 176 [(0, x0), (1, x1), (2, x2), (7, x7), (8, x8), (9, x9), (10, x10), (11, x11)], rows, low⟩ r
theorem jc4s32 : Ex F cx (.code c4s32 :: .inLoop c4l28 :: .inBlock 0 :: .code c4s27 :: []) ⟨mk 176 l, rows, low⟩ r ↔ Jc4s32 F cx (lk l 0) (lk l 1) (lk l 2) (lk l 7) (lk l 8) (lk l 9) (lk l 10) (lk l 11) rows low r := Ex_canon (keep := [0, 1, 2, 7, 8, 9, 10, 11]) (by kernel_rfl)
def Lc4l28 (F : Nat → Option IFn) (cx : Ctx) (x0 x1 x2 x7 x8 x9 x10 x11 : AV) (rows : List Row) (low : Nat) (r : AV × List Row × Nat → Prop) : Prop := Ex F cx (.code c4l28 :: .inLoop c4l28 :: .inBlock 0 :: .code c4s27 :: []) ⟨mk 176 [(0, x0), (1, x1), (2, x2), (7, x7), (8, x8), (9, x9), (10, x10), (11, x11)], rows, low⟩ r
@[simp] theorem nc4l28 : Ex F cx (.inLoop c4l28 :: .inBlock 0 :: .code c4s27 :: []) ⟨mk 176 l, rows, low⟩ r ↔ Lc4l28 F cx (lk l 0) (lk l 1) (lk l 2) (lk l 7) (lk l 8) (lk l 9) (lk l 10) (lk l 11) rows low r := loopN (keep := [0, 1, 2, 7, 8, 9, 10, 11]) (by kernel_rfl)
@[simp] theorem ec4l28 : Ex F cx (.code (.loop c4l28) :: .inBlock 0 :: .code c4s27 :: []) ⟨mk 176 l, rows, low⟩ r ↔ Lc4l28 F cx (lk l 0) (lk l 1) (lk l 2) (lk l 7) (lk l 8) (lk l 9) (lk l 10) (lk l 11) rows low r := loopE (keep := [0, 1, 2, 7, 8, 9, 10, 11]) (by kernel_rfl)
@[simp] theorem uc4l28 : Ex F cx (.code c4l28 :: k) s r ↔ Ex F cx (.code (.seq (.seq c4k34 c4s33) c4s32) :: k) s r := Iff.rfl
def c4b : ICode := (.seq c4k44 c4s43)
@[simp] theorem uc4b : Ex F cx (.code c4b :: k) s r ↔ Ex F cx (.code (.seq c4k44 c4s43) :: k) s r := Iff.rfl
def c4 : IFn := ⟨176, [.t 6], c4b⟩
def h4 : List (Nat × List Nat) := [(0, dead 176 [0, 1, 2]), (1, dead 176 [0, 1, 2]), (2, dead 176 [0, 1, 2]), (3, dead 176 [0, 1, 2, 7, 8]), (4, dead 176 [0, 1, 2, 7, 8, 9, 10]), (5, dead 176 [0, 1, 2, 7, 8, 9, 10, 11]), (7, dead 176 [0, 1, 2, 7, 8, 9, 10, 11]), (8, dead 176 [0, 1, 2, 7, 8, 9, 10, 11]), (6, dead 176 [0, 1, 2, 7, 8, 9, 10, 11]), (9, dead 176 [0, 2, 7, 8, 9]), (10, dead 176 []), (11, dead 176 [0, 2]), (12, dead 176 [0, 2]), (13, dead 176 [0, 2, 12, 13]), (14, dead 176 [0, 2, 13]), (15, dead 176 [2, 13, 14, 15]), (16, dead 176 [0, 2, 12]), (17, dead 176 []), (18, dead 176 [0, 2, 12]), (19, dead 176 [0, 2, 12, 16, 17]), (20, dead 176 [0, 2, 12, 16, 17, 18, 19]), (21, dead 176 [0, 2, 16, 17, 18, 19, 20, 21]), (22, dead 176 [2, 16, 17, 18, 19, 20, 21, 22, 23])]
theorem i4 {x0 x1 x2 : AV} (hF : F 4 = some c4) {q : AV × List Row × Option Nat} (h : Ex F (.fn [.t 6]) [.code c4b] ⟨mk 176 [(0, x0), (1, x1), (2, x2)], rows, rows.length⟩ fun r => fin rows r.1 r.2.1 r.2.2 = q) : Ret F 4 [x0, x1, x2] rows = some q := Ret_mk hF h
end Go.Abs
