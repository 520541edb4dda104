/- The texts that the row uses, part 5. -/
import Derived.Test.YtiejbjajbehcfaaDoorBK4
import Derived.AtR
import Derived.Orders
import Derived.KernelRfl
import Derived.Laws.Cells
import Derived.Laws.CopyRow
import Derived.Laws.Append
import Derived.Laws.AppendOwn
import Derived.Laws.Entries
import Derived.ArgAppend
import Derived.ChangeKeysEq
import Derived.WideLaws
import Derived.Laws.Small
import Derived.Laws.StructEq
import Derived.Laws.Cover3
import Derived.Laws.Tables
import Derived.Laws.Rows
import Derived.Below
import Derived.Laws.IdiomCopy
import Derived.RangeFuncNested
import Derived.Test.YtiejbjajbehcfaaDoorProg
import Derived.Test.YtiejbjajbehcfaaDoorRows
import Derived.ProofKit
import Derived.LaidMore
import Derived.OpenShut
import Derived.Stop.Joined
import Derived.ChangeSlices
import Derived.SizedLaws
import Derived.SevenTiedAt
import Derived.WalkKit
import Derived.ShutString
import Derived.ChangeOld
import Derived.Carry
set_option linter.unusedVariables false
set_option maxRecDepth 20000
set_option maxHeartbeats 4000000
namespace Go.Abs
variable {F : Nat → Option IFn} {cx : Ctx} {k : List Itm} {s : St} {l : List (Nat × AV)} {rows : List Row} {low : Nat} {r : AV × List Row × Nat → Prop}
@[simp] theorem uc28k0 : Ex F cx (.code c28k0 :: k) ⟨mk 28 l, rows, low⟩ r ↔ bnd (evP (rows ++ maskE 0 ([] : List (Nat × Row))) (.load1 (.c (lk l 1)))) fun v0 => bnd (evP (rows ++ maskE 2 ([] : List (Nat × Row))) (.len 0 (.c v0))) fun v1 => bnd (evP (rows ++ maskE 1 ([] : List (Nat × Row))) (.nilck (.c (lk l 6)))) fun v2 => bnd (evP (rows ++ maskE 9 ([] : List (Nat × Row))) (.fieldA 0 (.c v2))) fun v3 => bnd (evP (rows ++ maskE 25 ([] : List (Nat × Row))) (.idxA 13 13 (.c v3) (.c (.int .i64 0)))) fun v4 => bnd (evP (rows ++ maskE 63 ([] : List (Nat × Row))) (.idxA 13 1 (.c v4) (.c v1))) fun v5 => bnd (evP (rows ++ maskE 127 ([] : List (Nat × Row))) (.load1 (.c v5))) fun v6 => bnd (evP (rows ++ maskE 0 ([] : List (Nat × Row))) (.load1 (.c (lk l 1)))) fun v7 => bnd (opC F (rows ++ maskE 512 ([] : List (Nat × Row))) (rows.length + ([] : List (Nat × Row)).length) [v7] (.func 60 [])) fun q8 => q8.2.2 = rows.length + ([] : List (Nat × Row)).length ∧ bnd (some (([] : List (Nat × Row)) ++ List.map (fun (x : Row) => (10, x)) (q8.2.1.drop (rows.length + ([] : List (Nat × Row)).length)))) fun e8 => bnd (opC F (rows ++ maskE 1792 e8) (rows.length + e8.length) [lk l 6, q8.1] (.func 59 [])) fun q9 => q9.2.2 = rows.length + e8.length ∧ bnd (some (e8 ++ List.map (fun (x : Row) => (11, x)) (q9.2.1.drop (rows.length + e8.length)))) fun e9 => Ex F cx k ⟨mk 28 [(4, (.int .i64 0)), (3, q9.1), (2, v6), (27, q9.1), (26, q8.1), (25, v7), (24, lk l 6), (23, v6), (22, v5), (21, v4), (20, v3), (19, v2), (18, v1), (17, v0), (16, lk l 6), (1, lk l 1), (6, lk l 6)], (rows ++ List.map (fun (x : Nat × Row) => x.2) e9), low⟩ r := reg (keep := [1, 6]) (ops := c28r0) rfl (by kernel_rfl) (by kernel_rfl)
@[simp] theorem uc28s1 : Ex F cx (.code c28s1 :: k) s r ↔ Ex F cx (.code (.seq c28k0 .ret) :: k) s r := Iff.rfl
@[simp] theorem uc28k2 : Ex F cx (.code c28k2 :: k) ⟨mk 28 l, rows, low⟩ r ↔ bnd (evP rows (.load1 (.c (lk l 1)))) fun v0 => bnd (evP rows (.len 0 (.c v0))) fun v1 => bnd (evP rows (.mkfn 58 [(.c (lk l 1))])) fun v2 => bnd (Ret F 57 [v1, v2] rows) fun q3 => Ex F cx k ⟨mk 28 [(6, q3.1), (15, q3.1), (14, v2), (13, v1), (12, v0), (1, lk l 1)], q3.2.1, (lowO low q3.2.2)⟩ r := reg (keep := [1]) (ops := c28r2) rfl (by kernel_rfl) (by kernel_rfl)
@[simp] theorem uc28s3 : Ex F cx (.code c28s3 :: k) s r ↔ Ex F cx (.code (.seq c28k2 c28s1) :: k) s r := Iff.rfl
@[simp] theorem uc28k4 : Ex F cx (.code c28k4 :: k) ⟨mk 28 l, rows, low⟩ r ↔ Ex F cx k ⟨mk 28 [(4, lk l 5), (3, .nilslice), (2, (.int .i64 0)), (11, lk l 5), (5, lk l 5)], rows, low⟩ r := reg (keep := [5]) (ops := c28r4) rfl (by kernel_rfl) (by kernel_rfl)
@[simp] theorem uc28s5 : Ex F cx (.code c28s5 :: k) s r ↔ Ex F cx (.code (.cond (.t 10) (.seq c28k4 .ret) .skip) :: k) s r := Iff.rfl
@[simp] theorem uc28k6 : Ex F cx (.code c28k6 :: k) ⟨mk 28 l, rows, low⟩ r ↔ bnd (evP rows (.bin .neq (.c (lk l 5)) (.c (.int .i64 0)))) fun v0 => Ex F cx k ⟨mk 28 [(10, v0), (9, lk l 5), (1, lk l 1), (5, lk l 5)], rows, low⟩ r := reg (keep := [1, 5]) (ops := c28r6) rfl (by kernel_rfl) (by kernel_rfl)
@[simp] theorem uc28s7 : Ex F cx (.code c28s7 :: k) s r ↔ Ex F cx (.code (.seq c28k6 c28s5) :: k) s r := Iff.rfl
@[simp] theorem uc28k8 : Ex F cx (.code c28k8 :: k) ⟨mk 28 l, rows, low⟩ r ↔ bnd (evP rows (.load1 (.c (lk l 1)))) fun v0 => bnd (Ret F 46 [v0] rows) fun q1 => Ex F cx k ⟨mk 28 [(5, q1.1), (8, q1.1), (7, v0), (1, lk l 1)], q1.2.1, (lowO low q1.2.2)⟩ r := reg (keep := [1]) (ops := c28r8) rfl (by kernel_rfl) (by kernel_rfl)
@[simp] theorem uc28s9 : Ex F cx (.code c28s9 :: k) s r ↔ Ex F cx (.code (.seq (.seq c28k8 c28s7) c28s3) :: k) s r := Iff.rfl
@[simp] theorem uc28k10 : Ex F cx (.code c28k10 :: k) ⟨mk 28 l, rows, low⟩ r ↔ bnd (evE rows low (.box (.c (lk l 0)))) fun q0 => Ex F cx k ⟨mk 28 [(4, (.int .i64 0)), (3, .nilslice), (2, (.int .i64 0)), (1, q0.1), (0, lk l 0)], q0.2.1, q0.2.2⟩ r := reg (keep := [0]) (ops := c28r10) rfl (by kernel_rfl) (by kernel_rfl)
def Jc28s3 (F : Nat → Option IFn) (cx : Ctx) (x1 : AV) (rows : List Row) (low : Nat) (r : AV × List Row × Nat → Prop) : Prop := Ex F cx (.code c28s3 :: []) ⟨mk 28 [(1, x1)], rows, low⟩ r
theorem jc28s3 : Ex F cx (.code c28s3 :: []) ⟨mk 28 l, rows, low⟩ r ↔ Jc28s3 F cx (lk l 1) rows low r := Ex_canon (keep := [1]) (by kernel_rfl)
@[simp] theorem uc28b : Ex F cx (.code c28b :: k) s r ↔ Ex F cx (.code (.seq c28k10 c28s9) :: k) s r := Iff.rfl
theorem i28 {x0 : AV} (hF : F 28 = some c28) {q : AV × List Row × Option Nat} (h : Ex F (.fn [.t 2, .t 3, .t 4]) [.code c28b] ⟨mk 28 [(0, x0)], rows, rows.length⟩ fun r => fin rows r.1 r.2.1 r.2.2 = q) : Ret F 28 [x0] rows = some q := Ret_mk hF h
@[simp] theorem uc57k0 : Ex F cx (.code c57k0 :: k) ⟨mk 102 l, rows, low⟩ r ↔ bnd (evP rows (.load1 (.c (lk l 5)))) fun v0 => Ex F cx k ⟨mk 102 [(4, v0), (101, v0), (5, lk l 5)], rows, low⟩ r := reg (keep := [5]) (ops := c57r0) rfl (by kernel_rfl) (by kernel_rfl)
@[simp] theorem uc57s1 : Ex F cx (.code c57s1 :: k) s r ↔ Ex F cx (.code (.seq c57k0 .ret) :: k) s r := Iff.rfl
@[simp] theorem uc57k3 : Ex F cx (.code c57k3 :: k) ⟨mk 102 l, rows, low⟩ r ↔ bnd (evP rows (.bin .add (.c (lk l 6)) (.c (.int .i64 1)))) fun v0 => Ex F cx k ⟨mk 102 [(6, v0), (20, v0), (19, lk l 6), (0, lk l 0), (3, lk l 3), (4, lk l 4), (5, lk l 5), (6, lk l 6)], rows, low⟩ r := reg (keep := [0, 3, 4, 5, 6]) (ops := c57r3) rfl (by kernel_rfl) (by kernel_rfl)
@[simp] theorem uc57k5 : Ex F cx (.code c57k5 :: k) ⟨mk 102 l, rows, low⟩ r ↔ bnd (evP rows (.bin .add (.c (lk l 7)) (.c (.int .i64 1)))) fun v0 => Ex F cx k ⟨mk 102 [(7, v0), (27, v0), (26, lk l 7), (0, lk l 0), (3, lk l 3), (4, lk l 4), (5, lk l 5), (6, lk l 6), (7, lk l 7)], rows, low⟩ r := reg (keep := [0, 3, 4, 5, 6, 7]) (ops := c57r5) rfl (by kernel_rfl) (by kernel_rfl)
@[simp] theorem uc57k7 : Ex F cx (.code c57k7 :: k) ⟨mk 102 l, rows, low⟩ r ↔ bnd (evE rows low (.store1 (.c (lk l 9)) (.c (.bool false)))) fun q0 => Ex F cx k ⟨mk 102 [(9, lk l 9)], q0.2.1, q0.2.2⟩ r := reg (keep := [9]) (ops := c57r7) rfl (by kernel_rfl) (by kernel_rfl)
@[simp] theorem uc57k8 : Ex F cx (.code c57k8 :: k) s r ↔ Ex F cx (.code (.kill (dead 102 [5, 8, 9, 10, 13]) (.ops c57r8)) :: k) s r := Iff.rfl
@[simp] theorem uc57r8 : Ex F cx (.ops c57r8 :: k) s r ↔ Ex F cx (.ops [
  .grpw (.t 96) (.t 91) none [(⟨some 81, .load1 (.t 5), none⟩, 0), (⟨some 82, .fieldA 0 (.t 8), none⟩, 0), (⟨some 83, .load1 (.t 82), none⟩, 2), (⟨some 84, .fieldA 1 (.t 8), none⟩, 0), (⟨some 85, .load1 (.t 84), none⟩, 8), (⟨some 86, .load1 (.t 5), none⟩, 0), (⟨some 87, .fieldA 0 (.t 8), none⟩, 0), (⟨some 88, .load1 (.t 87), none⟩, 64), (⟨some 89, .fieldA 1 (.t 8), none⟩, 0), (⟨some 90, .load1 (.t 89), none⟩, 256), (⟨some 91, .mv (.t 13), none⟩, 0), (⟨some 92, .mv (.t 10), none⟩, 0), (⟨some 93, .nilck (.t 81), none⟩, 1), (⟨some 94, .fieldA 0 (.t 93), none⟩, 4097), (⟨some 95, .idxA 13 13 (.t 94) (.t 83), none⟩, 12295), (⟨some 96, .idxA 13 1 (.t 95) (.t 85), none⟩, 29727), (⟨none, .lenc 0, none⟩, 62495), (⟨some 97, .nilck (.t 86), none⟩, 32), (⟨some 98, .fieldA 169 (.t 97), none⟩, 131104), (⟨some 99, .idxA 13 13 (.t 98) (.t 88), none⟩, 393440)],
  .one ⟨some 100, .idxA 13 1 (.t 99) (.t 90), none⟩,
  .one ⟨none, .store1 (.t 100) (.t 92), none⟩] :: k) s r := Iff.rfl
@[simp] theorem uc57s9 : Ex F cx (.code c57s9 :: k) s r ↔ Ex F cx (.code (.cond (.t 80) c57k8 .skip) :: k) s r := Iff.rfl
@[simp] theorem uc57k10 : Ex F cx (.code c57k10 :: k) ⟨mk 102 l, rows, low⟩ r ↔ bnd (evP rows (.load1 (.c (lk l 9)))) fun v0 => bnd (gv v0 false (evP rows (.mv (.c (lk l 13))))) fun v1 => bnd (gv v0 false (evP rows (.load1 (.c (lk l 5))))) fun v2 => bnd (gv v0 false (evP rows (.fieldA 0 (.c (lk l 8))))) fun v3 => bnd (gv v0 false (evP rows (.load1 (.c v3)))) fun v4 => bnd (gv v0 false (evP rows (.fieldA 1 (.c (lk l 8))))) fun v5 => bnd (gv v0 false (evP rows (.load1 (.c v5)))) fun v6 => bnd (gv v0 false (evP rows (.nilck (.c v2)))) fun v7 => bnd (gv v0 false (evP rows (.fieldA 0 (.c v7)))) fun v8 => bnd (gv v0 false (evP rows (.idxA 13 13 (.c v8) (.c v4)))) fun v9 => bnd (gv v0 false (evP rows (.idxA 13 1 (.c v9) (.c v6)))) fun v10 => bnd (gv v0 false (evP rows (.load1 (.c v10)))) fun v11 => bnd (gv v0 false (evP rows (.bin .lss (.c v1) (.c v11)))) fun v12 => bnd (evP rows (.pick (.c v0) (.c (.bool true)) (.c v12))) fun v13 => Ex F cx k ⟨mk 102 [(80, v13), (79, v12), (78, v11), (77, v10), (76, v9), (75, v8), (74, v7), (73, v6), (72, v5), (71, v4), (70, v3), (69, v2), (68, v1), (67, v0), (66, v0), (5, lk l 5), (8, lk l 8), (9, lk l 9), (10, lk l 10), (13, lk l 13)], rows, low⟩ r := reg (keep := [5, 8, 9, 10, 13]) (ops := c57r10) rfl (by kernel_rfl) (by kernel_rfl)
@[simp] theorem uc57s11 : Ex F cx (.code c57s11 :: k) s r ↔ Ex F cx (.code (.seq (.seq c57k10 c57s9) c57k7) :: k) s r := Iff.rfl
@[simp] theorem uc57k12 : Ex F cx (.code c57k12 :: k) ⟨mk 102 l, rows, low⟩ r ↔ bnd (evP rows (.load1 (.c (lk l 3)))) fun v0 => bnd (evP rows (.loadN 2 (.c (lk l 8)))) fun v1 => bnd (evP rows (.load1 (.c (lk l 5)))) fun v2 => bnd (evP rows (.fieldA 0 (.c (lk l 11)))) fun v3 => bnd (evP rows (.load1 (.c v3))) fun v4 => bnd (evP rows (.fieldA 1 (.c (lk l 11)))) fun v5 => bnd (evP rows (.load1 (.c v5))) fun v6 => bnd (evP rows (.nilck (.c v2))) fun v7 => bnd (evP rows (.fieldA 0 (.c v7))) fun v8 => bnd (evP rows (.idxA 13 13 (.c v8) (.c v4))) fun v9 => bnd (evP rows (.idxA 13 1 (.c v9) (.c v6))) fun v10 => bnd (evP rows (.load1 (.c v10))) fun v11 => bnd (evP rows (.load1 (.c (lk l 5)))) fun v12 => bnd (evP rows (.fieldA 0 (.c (lk l 12)))) fun v13 => bnd (evP rows (.load1 (.c v13))) fun v14 => bnd (evP rows (.fieldA 1 (.c (lk l 12)))) fun v15 => bnd (evP rows (.load1 (.c v15))) fun v16 => bnd (evP rows (.nilck (.c v12))) fun v17 => bnd (evP rows (.fieldA 0 (.c v17))) fun v18 => bnd (evP rows (.idxA 13 13 (.c v18) (.c v14))) fun v19 => bnd (evP rows (.idxA 13 1 (.c v19) (.c v16))) fun v20 => bnd (evP rows (.load1 (.c v20))) fun v21 => callK F rows low [v1, lk l 10, v11, v21] (fun v22 R22 L22 => Ex F cx k ⟨mk 102 [(13, v22), (65, v22), (64, v21), (63, v20), (62, v19), (61, v18), (60, v17), (59, v16), (58, v15), (57, v14), (56, v13), (55, v12), (54, v11), (53, v10), (52, v9), (51, v8), (50, v7), (49, v6), (48, v5), (47, v4), (46, v3), (45, v2), (44, lk l 10), (43, v1), (42, v0), (3, lk l 3), (5, lk l 5), (8, lk l 8), (9, lk l 9), (10, lk l 10), (11, lk l 11), (12, lk l 12)], R22, L22⟩ r) v0 := reg (keep := [3, 5, 8, 9, 10, 11, 12]) (ops := c57r12) rfl (by kernel_rfl) (by kernel_rfl)
@[simp] theorem uc57s13 : Ex F cx (.code c57s13 :: k) s r ↔ Ex F cx (.code (.seq c57k12 c57s11) :: k) s r := Iff.rfl
@[simp] theorem uc57k14 : Ex F cx (.code c57k14 :: k) ⟨mk 102 l, rows, low⟩ r ↔ bnd (evP (rows ++ maskE 0 ([] : List (Nat × Row))) (.loadN 2 (.c (lk l 8)))) fun v0 => bnd (opC F (rows ++ maskE 3 ([] : List (Nat × Row))) (rows.length + ([] : List (Nat × Row)).length) [v0, lk l 10] (.func 84 [])) fun q1 => q1.2.2 = rows.length + ([] : List (Nat × Row)).length ∧ bnd (some (([] : List (Nat × Row)) ++ List.map (fun (x : Row) => (2, x)) (q1.2.1.drop (rows.length + ([] : List (Nat × Row)).length)))) fun e1 => bnd (evP (rows ++ maskE 0 e1) (.loadN 2 (.c (lk l 8)))) fun v2 => bnd (opC F (rows ++ maskE 31 e1) (rows.length + e1.length) [v2, lk l 10] (.func 85 [])) fun q3 => q3.2.2 = rows.length + e1.length ∧ bnd (some (e1 ++ List.map (fun (x : Row) => (5, x)) (q3.2.1.drop (rows.length + e1.length)))) fun e3 => bnd (evE (rows ++ maskE 0 e3) (rows.length + e3.length) (.box (.c (.agg [.int .i64 0, .int .i64 0])))) fun q4 => q4.2.2 = rows.length + e3.length ∧ bnd (some (e3 ++ List.map (fun (x : Row) => (6, x)) (q4.2.1.drop (rows.length + e3.length)))) fun e4 => bnd (evE (rows ++ maskE 0 e4) (rows.length + e4.length) (.box (.c (.agg [.int .i64 0, .int .i64 0])))) fun q5 => q5.2.2 = rows.length + e4.length ∧ bnd (some (e4 ++ List.map (fun (x : Row) => (7, x)) (q5.2.1.drop (rows.length + e4.length)))) fun e5 => bnd (evE (rows ++ List.map (fun (x : Nat × Row) => x.2) e5) low (.storeN 2 (.c q4.1) (.c q1.1))) fun q6 => bnd (evE q6.2.1 q6.2.2 (.storeN 2 (.c q5.1) (.c q3.1))) fun q7 => Ex F cx k ⟨mk 102 [(12, q5.1), (11, q4.1), (41, q3.1), (40, lk l 10), (39, v2), (38, q1.1), (37, lk l 10), (36, v0), (3, lk l 3), (5, lk l 5), (8, lk l 8), (9, lk l 9), (10, lk l 10)], q7.2.1, q7.2.2⟩ r := reg (keep := [3, 5, 8, 9, 10]) (ops := c57r14) rfl (by kernel_rfl) (by kernel_rfl)
@[simp] theorem uc57k15 : Ex F cx (.code c57k15 :: k) ⟨mk 102 l, rows, low⟩ r ↔ Ex F cx k ⟨mk 102 [(10, lk l 35), (3, lk l 3), (5, lk l 5), (8, lk l 8), (9, lk l 9), (35, lk l 35)], rows, low⟩ r := reg (keep := [3, 5, 8, 9, 35]) (ops := c57r15) rfl (by kernel_rfl) (by kernel_rfl)
@[simp] theorem uc57f6a : Ex F cx (.code c57f6a :: k) s r ↔ Ex F cx (.code c57k15 :: k) s r := Iff.rfl
@[simp] theorem uc57f6b : Ex F cx (.code c57f6b :: k) s r ↔ Ex F cx (.code (.block 5 (.seq c57k14 c57s13)) :: k) s r := Iff.rfl
@[simp] theorem uc57s16 : Ex F cx (.code c57s16 :: k) s r ↔ Ex F cx (.code (.block 4 (.rf (.t 34) [35] c57f6a c57f6b)) :: k) s r := Iff.rfl
@[simp] theorem uc57k17 : Ex F cx (.code c57k17 :: k) ⟨mk 102 l, rows, low⟩ r ↔ bnd (evP rows (.loadN 2 (.c (lk l 8)))) fun v0 => bnd (Ret F 83 [v0] rows) fun q1 => Ex F cx k ⟨mk 102 [(34, q1.1), (33, v0), (0, lk l 0), (3, lk l 3), (4, lk l 4), (5, lk l 5), (6, lk l 6), (7, lk l 7), (8, lk l 8), (9, lk l 9)], q1.2.1, (lowO low q1.2.2)⟩ r := reg (keep := [0, 3, 4, 5, 6, 7, 8, 9]) (ops := c57r17) rfl (by kernel_rfl) (by kernel_rfl)
@[simp] theorem uc57s18 : Ex F cx (.code c57s18 :: k) s r ↔ Ex F cx (.code (.seq c57k17 c57s16) :: k) s r := Iff.rfl
@[simp] theorem uc57k19 : Ex F cx (.code c57k19 :: k) ⟨mk 102 l, rows, low⟩ r ↔ bnd (evE rows low (.box (.c (.bool false)))) fun q0 => bnd (evE q0.2.1 q0.2.2 (.store1 (.c q0.1) (.c (.bool true)))) fun q1 => Ex F cx k ⟨mk 102 [(9, q0.1), (0, lk l 0), (3, lk l 3), (4, lk l 4), (5, lk l 5), (6, lk l 6), (7, lk l 7), (8, lk l 8)], q1.2.1, q1.2.2⟩ r := reg (keep := [0, 3, 4, 5, 6, 7, 8]) (ops := c57r19) rfl (by kernel_rfl) (by kernel_rfl)
@[simp] theorem uc57s20 : Ex F cx (.code c57s20 :: k) s r ↔ Ex F cx (.code (.seq c57k19 c57s18) :: k) s r := Iff.rfl
@[simp] theorem uc57k21 : Ex F cx (.code c57k21 :: k) ⟨mk 102 l, rows, low⟩ r ↔ bnd (evP rows (.bin .add (.c (lk l 7)) (.c (lk l 6)))) fun v0 => bnd (evP rows (.mkagg [.int .i64 0, .int .i64 0] [(0, 1, (.c (lk l 7))), (1, 1, (.c v0))])) fun v1 => bnd (evE rows low (.box (.c (.agg [.int .i64 0, .int .i64 0])))) fun q2 => bnd (evE q2.2.1 q2.2.2 (.storeN 2 (.c q2.1) (.c v1))) fun q3 => Ex F cx k ⟨mk 102 [(8, q2.1), (32, v1), (31, v0), (30, lk l 6), (29, lk l 7), (28, lk l 7), (0, lk l 0), (3, lk l 3), (4, lk l 4), (5, lk l 5), (6, lk l 6), (7, lk l 7)], q3.2.1, q3.2.2⟩ r := reg (keep := [0, 3, 4, 5, 6, 7]) (ops := c57r21) rfl (by kernel_rfl) (by kernel_rfl)
@[simp] theorem uc57s22 : Ex F cx (.code c57s22 :: k) s r ↔ Ex F cx (.code (.seq (.block 3 (.seq c57k21 c57s20)) c57k5) :: k) s r := Iff.rfl
@[simp] theorem uc57s23 : Ex F cx (.code c57s23 :: k) s r ↔ Ex F cx (.code (.cond (.t 25) .skip (.exit 2)) :: k) s r := Iff.rfl
@[simp] theorem uc57k24 : Ex F cx (.code c57k24 :: k) ⟨mk 102 l, rows, low⟩ r ↔ bnd (evP rows (.bin .add (.c (lk l 7)) (.c (lk l 6)))) fun v0 => bnd (evP rows (.bin .leq (.c v0) (.c (lk l 0)))) fun v1 => Ex F cx k ⟨mk 102 [(25, v1), (24, lk l 0), (23, v0), (22, lk l 6), (21, lk l 7), (0, lk l 0), (3, lk l 3), (4, lk l 4), (5, lk l 5), (6, lk l 6), (7, lk l 7)], rows, low⟩ r := reg (keep := [0, 3, 4, 5, 6, 7]) (ops := c57r24) rfl (by kernel_rfl) (by kernel_rfl)
@[simp] theorem uc57s25 : Ex F cx (.code c57s25 :: k) s r ↔ Ex F cx (.code (.block 2 (.loop c57l4)) :: k) s r := Iff.rfl
@[simp] theorem uc57k26 : Ex F cx (.code c57k26 :: k) ⟨mk 102 l, rows, low⟩ r ↔ Ex F cx k ⟨mk 102 [(7, (.int .i64 0)), (0, lk l 0), (3, lk l 3), (4, lk l 4), (5, lk l 5), (6, lk l 6)], rows, low⟩ r := reg (keep := [0, 3, 4, 5, 6]) (ops := c57r26) rfl (by kernel_rfl) (by kernel_rfl)
@[simp] theorem uc57s27 : Ex F cx (.code c57s27 :: k) s r ↔ Ex F cx (.code (.seq (.block 1 (.seq c57k26 c57s25)) c57k3) :: k) s r := Iff.rfl
@[simp] theorem uc57s28 : Ex F cx (.code c57s28 :: k) s r ↔ Ex F cx (.code (.cond (.t 18) .skip (.exit 0)) :: k) s r := Iff.rfl
@[simp] theorem uc57k29 : Ex F cx (.code c57k29 :: k) ⟨mk 102 l, rows, low⟩ r ↔ bnd (evP rows (.bin .leq (.c (lk l 6)) (.c (lk l 0)))) fun v0 => Ex F cx k ⟨mk 102 [(18, v0), (17, lk l 0), (16, lk l 6), (0, lk l 0), (3, lk l 3), (4, lk l 4), (5, lk l 5), (6, lk l 6)], rows, low⟩ r := reg (keep := [0, 3, 4, 5, 6]) (ops := c57r29) rfl (by kernel_rfl) (by kernel_rfl)
@[simp] theorem uc57s30 : Ex F cx (.code c57s30 :: k) s r ↔ Ex F cx (.code (.block 0 (.loop c57l2)) :: k) s r := Iff.rfl
@[simp] theorem uc57k31 : Ex F cx (.code c57k31 :: k) ⟨mk 102 l, rows, low⟩ r ↔ Ex F cx k ⟨mk 102 [(6, (.int .i64 1)), (0, lk l 0), (3, lk l 3), (4, lk l 4), (5, lk l 5)], rows, low⟩ r := reg (keep := [0, 3, 4, 5]) (ops := c57r31) rfl (by kernel_rfl) (by kernel_rfl)
@[simp] theorem uc57s32 : Ex F cx (.code c57s32 :: k) s r ↔ Ex F cx (.code (.seq (.seq c57k31 c57s30) c57s1) :: k) s r := Iff.rfl
@[simp] theorem uc57k33 : Ex F cx (.code c57k33 :: k) ⟨mk 102 l, rows, low⟩ r ↔ bnd (evP rows (.mkagg (List.replicate 338 (.int .i64 0)) [])) fun v0 => bnd (evE rows low (.box (.c v0))) fun q1 => bnd (evE q1.2.1 q1.2.2 (.box (.c .nilptr))) fun q2 => bnd (evE q2.2.1 q2.2.2 (.store1 (.c q2.1) (.c q1.1))) fun q3 => Ex F cx k ⟨mk 102 [(5, q2.1), (15, q1.1), (14, v0), (0, lk l 0), (3, lk l 3), (4, lk l 4)], q3.2.1, q3.2.2⟩ r := reg (keep := [0, 3, 4]) (ops := c57r33) rfl (by kernel_rfl) (by kernel_rfl)
@[simp] theorem uc57s34 : Ex F cx (.code c57s34 :: k) s r ↔ Ex F cx (.code (.seq c57k33 c57s32) :: k) s r := Iff.rfl
@[simp] theorem uc57k35 : Ex F cx (.code c57k35 :: k) ⟨mk 102 l, rows, low⟩ r ↔ bnd (evE rows low (.box (.c (lk l 1)))) fun q0 => Ex F cx k ⟨mk 102 [(4, .nilptr), (3, q0.1), (0, lk l 0), (1, lk l 1)], q0.2.1, q0.2.2⟩ r := reg (keep := [0, 1]) (ops := c57r35) rfl (by kernel_rfl) (by kernel_rfl)
def Jc57s22 (F : Nat → Option IFn) (cx : Ctx) (x0 x3 x4 x5 x6 x7 : AV) (rows : List Row) (low : Nat) (r : AV × List Row × Nat → Prop) : Prop := Ex F cx (.code c57s22 :: .inLoop c57l4 :: .inBlock 2 :: .inBlock 1 :: .code c57k3 :: .inLoop c57l2 :: .inBlock 0 :: .code c57s1 :: []) ⟨mk 102 [(0, x0), (3, x3), (4, x4), (5, x5), (6, x6), (7, x7)], rows, low⟩ r
theorem jc57s22 : Ex F cx (.code c57s22 :: .inLoop c57l4 :: .inBlock 2 :: .inBlock 1 :: .code c57k3 :: .inLoop c57l2 :: .inBlock 0 :: .code c57s1 :: []) ⟨mk 102 l, rows, low⟩ r ↔ Jc57s22 F cx (lk l 0) (lk l 3) (lk l 4) (lk l 5) (lk l 6) (lk l 7) rows low r := Ex_canon (keep := [0, 3, 4, 5, 6, 7]) (by kernel_rfl)
def Lc57l4 (F : Nat → Option IFn) (cx : Ctx) (x0 x3 x4 x5 x6 x7 : AV) (rows : List Row) (low : Nat) (r : AV × List Row × Nat → Prop) : Prop := Ex F cx (.code c57l4 :: .inLoop c57l4 :: .inBlock 2 :: .inBlock 1 :: .code c57k3 :: .inLoop c57l2 :: .inBlock 0 :: .code c57s1 :: []) ⟨mk 102 [(0, x0), (3, x3), (4, x4), (5, x5), (6, x6), (7, x7)], rows, low⟩ r
@[simp] theorem nc57l4 : Ex F cx (.inLoop c57l4 :: .inBlock 2 :: .inBlock 1 :: .code c57k3 :: .inLoop c57l2 :: .inBlock 0 :: .code c57s1 :: []) ⟨mk 102 l, rows, low⟩ r ↔ Lc57l4 F cx (lk l 0) (lk l 3) (lk l 4) (lk l 5) (lk l 6) (lk l 7) rows low r := loopN (keep := [0, 3, 4, 5, 6, 7]) (by kernel_rfl)
@[simp] theorem ec57l4 : Ex F cx (.code (.loop c57l4) :: .inBlock 2 :: .inBlock 1 :: .code c57k3 :: .inLoop c57l2 :: .inBlock 0 :: .code c57s1 :: []) ⟨mk 102 l, rows, low⟩ r ↔ Lc57l4 F cx (lk l 0) (lk l 3) (lk l 4) (lk l 5) (lk l 6) (lk l 7) rows low r := loopE (keep := [0, 3, 4, 5, 6, 7]) (by kernel_rfl)
@[simp] theorem uc57l4 : Ex F cx (.code c57l4 :: k) s r ↔ Ex F cx (.code (.seq (.seq c57k24 c57s23) c57s22) :: k) s r := Iff.rfl
def Jc57s27 (F : Nat → Option IFn) (cx : Ctx) (x0 x3 x4 x5 x6 : AV) (rows : List Row) (low : Nat) (r : AV × List Row × Nat → Prop) : Prop := Ex F cx (.code c57s27 :: .inLoop c57l2 :: .inBlock 0 :: .code c57s1 :: []) ⟨mk 102 [(0, x0), (3, x3), (4, x4), (5, x5), (6, x6)], rows, low⟩ r
theorem jc57s27 : Ex F cx (.code c57s27 :: .inLoop c57l2 :: .inBlock 0 :: .code c57s1 :: []) ⟨mk 102 l, rows, low⟩ r ↔ Jc57s27 F cx (lk l 0) (lk l 3) (lk l 4) (lk l 5) (lk l 6) rows low r := Ex_canon (keep := [0, 3, 4, 5, 6]) (by kernel_rfl)
def Lc57l2 (F : Nat → Option IFn) (cx : Ctx) (x0 x3 x4 x5 x6 : AV) (rows : List Row) (low : Nat) (r : AV × List Row × Nat → Prop) : Prop := Ex F cx (.code c57l2 :: .inLoop c57l2 :: .inBlock 0 :: .code c57s1 :: []) ⟨mk 102 [(0, x0), (3, x3), (4, x4), (5, x5), (6, x6)], rows, low⟩ r
@[simp] theorem nc57l2 : Ex F cx (.inLoop c57l2 :: .inBlock 0 :: .code c57s1 :: []) ⟨mk 102 l, rows, low⟩ r ↔ Lc57l2 F cx (lk l 0) (lk l 3) (lk l 4) (lk l 5) (lk l 6) rows low r := loopN (keep := [0, 3, 4, 5, 6]) (by kernel_rfl)
@[simp] theorem ec57l2 : Ex F cx (.code (.loop c57l2) :: .inBlock 0 :: .code c57s1 :: []) ⟨mk 102 l, rows, low⟩ r ↔ Lc57l2 F cx (lk l 0) (lk l 3) (lk l 4) (lk l 5) (lk l 6) rows low r := loopE (keep := [0, 3, 4, 5, 6]) (by kernel_rfl)
@[simp] theorem uc57l2 : Ex F cx (.code c57l2 :: k) s r ↔ Ex F cx (.code (.seq (.seq c57k29 c57s28) c57s27) :: k) s r := Iff.rfl
@[simp] theorem uc57b : Ex F cx (.code c57b :: k) s r ↔ Ex F cx (.code (.seq c57k35 c57s34) :: k) s r := Iff.rfl
theorem i57 {x0 x1 : AV} (hF : F 57 = some c57) {q : AV × List Row × Option Nat} (h : Ex F (.fn [.t 4]) [.code c57b] ⟨mk 102 [(0, x0), (1, x1)], rows, rows.length⟩ fun r => fin rows r.1 r.2.1 r.2.2 = q) : Ret F 57 [x0, x1] rows = some q := Ret_mk hF h
@[simp] theorem uc58k0 : Ex F cx (.code c58k0 :: k) ⟨mk 18 l, rows, low⟩ r ↔ bnd (evP rows (.load1 (.c (lk l 4)))) fun v0 => bnd (evP rows (.idxS 1 (.c v0) (.c (lk l 1)))) fun v1 => bnd (evP rows (.load1 (.c v1))) fun v2 => bnd (evP rows (.mx [(.c (lk l 2)), (.c (lk l 3))])) fun v3 => bnd (evP rows (.bin .add (.c v2) (.c v3))) fun v4 => Ex F cx k ⟨mk 18 [(9, v4), (17, v4), (16, v3), (15, lk l 3), (14, lk l 2), (13, v2), (12, v1), (11, lk l 1), (10, v0), (1, lk l 1), (2, lk l 2), (3, lk l 3), (4, lk l 4)], rows, low⟩ r := reg (keep := [1, 2, 3, 4]) (ops := c58r0) rfl (by kernel_rfl) (by kernel_rfl)
@[simp] theorem uc58s1 : Ex F cx (.code c58s1 :: k) s r ↔ Ex F cx (.code (.seq c58k0 .ret) :: k) s r := Iff.rfl
@[simp] theorem uc58k2 : Ex F cx (.code c58k2 :: k) ⟨mk 18 l, rows, low⟩ r ↔ bnd (evE rows low (.box (.c (lk l 0)))) fun q0 => Ex F cx k ⟨mk 18 [(9, (.int .i64 0)), (5, q0.1), (0, lk l 0), (1, lk l 1), (2, lk l 2), (3, lk l 3), (4, lk l 4)], q0.2.1, q0.2.2⟩ r := reg (keep := [0, 1, 2, 3, 4]) (ops := c58r2) rfl (by kernel_rfl) (by kernel_rfl)
@[simp] theorem uc58b : Ex F cx (.code c58b :: k) s r ↔ Ex F cx (.code (.seq c58k2 c58s1) :: k) s r := Iff.rfl
theorem i58 {x0 x1 x2 x3 x4 : AV} (hF : F 58 = some c58) {q : AV × List Row × Option Nat} (h : Ex F (.fn [.t 9]) [.code c58b] ⟨mk 18 [(0, x0), (1, x1), (2, x2), (3, x3), (4, x4)], rows, rows.length⟩ fun r => fin rows r.1 r.2.1 r.2.2 = q) : Ret F 58 [x0, x1, x2, x3, x4] rows = some q := Ret_mk hF h
@[simp] theorem uc59k0 : Ex F cx (.code c59k0 :: k) ⟨mk 32 l, rows, low⟩ r ↔ bnd (evE (rows ++ maskE 1 ([] : List (Nat × Row))) (rows.length + ([] : List (Nat × Row)).length) (.mkslice 1 [.int .i64 0] [(0, 1, (.c (lk l 5)))])) fun q0 => q0.2.2 = rows.length + ([] : List (Nat × Row)).length ∧ bnd (some (([] : List (Nat × Row)) ++ List.map (fun (x : Row) => (1, x)) (q0.2.1.drop (rows.length + ([] : List (Nat × Row)).length)))) fun e0 => bnd (evP (rows ++ maskE 0 e0) (.loadN 2 (.c (lk l 3)))) fun v1 => bnd (opC F (rows ++ maskE 24 e0) (rows.length + e0.length) [v1, lk l 5] (.func 84 [])) fun q2 => q2.2.2 = rows.length + e0.length ∧ bnd (some (e0 ++ List.map (fun (x : Row) => (5, x)) (q2.2.1.drop (rows.length + e0.length)))) fun e2 => bnd (opC F (rows ++ maskE 60 e2) (rows.length + e2.length) [lk l 0, q2.1] (.func 59 [])) fun q3 => q3.2.2 = rows.length + e2.length ∧ bnd (some (e2 ++ List.map (fun (x : Row) => (6, x)) (q3.2.1.drop (rows.length + e2.length)))) fun e3 => bnd (evP (rows ++ maskE 0 e3) (.loadN 2 (.c (lk l 3)))) fun v4 => bnd (opC F (rows ++ maskE 892 e3) (rows.length + e3.length) [v4, lk l 5] (.func 85 [])) fun q5 => q5.2.2 = rows.length + e3.length ∧ bnd (some (e3 ++ List.map (fun (x : Row) => (10, x)) (q5.2.1.drop (rows.length + e3.length)))) fun e5 => bnd (opC F (rows ++ maskE 2044 e5) (rows.length + e5.length) [lk l 0, q5.1] (.func 59 [])) fun q6 => q6.2.2 = rows.length + e5.length ∧ bnd (some (e5 ++ List.map (fun (x : Row) => (11, x)) (q6.2.1.drop (rows.length + e5.length)))) fun e6 => bnd (evE (rows ++ List.map (fun (x : Nat × Row) => x.2) e6) low (.mkslice 3 [.nilslice, .nilslice, .nilslice] [(0, 1, (.c q0.1)), (1, 1, (.c q3.1)), (2, 1, (.c q6.1))])) fun q7 => bnd (Ret F 87 [q7.1] q7.2.1) fun q8 => Ex F cx k ⟨mk 32 [(4, q8.1), (31, q8.1), (30, q7.1), (29, q6.1), (28, q5.1), (27, lk l 5), (26, v4), (25, lk l 0), (24, q3.1), (23, q2.1), (22, lk l 5), (21, v1), (20, lk l 0), (19, q0.1), (18, lk l 5), (0, lk l 0), (3, lk l 3), (5, lk l 5)], q8.2.1, (lowO q7.2.2 q8.2.2)⟩ r := reg (keep := [0, 3, 5]) (ops := c59r0) rfl (by kernel_rfl) (by kernel_rfl)
@[simp] theorem uc59s1 : Ex F cx (.code c59s1 :: k) s r ↔ Ex F cx (.code (.seq c59k0 .ret) :: k) s r := Iff.rfl
@[simp] theorem uc59k2 : Ex F cx (.code c59k2 :: k) ⟨mk 32 l, rows, low⟩ r ↔ bnd (evP rows (.fieldA 0 (.c (lk l 3)))) fun v0 => bnd (evP rows (.load1 (.c v0))) fun v1 => bnd (evP rows (.fieldA 1 (.c (lk l 3)))) fun v2 => bnd (evP rows (.load1 (.c v2))) fun v3 => bnd (evP rows (.nilck (.c (lk l 0)))) fun v4 => bnd (evP rows (.fieldA 169 (.c v4))) fun v5 => bnd (evP rows (.idxA 13 13 (.c v5) (.c v1))) fun v6 => bnd (evP rows (.idxA 13 1 (.c v6) (.c v3))) fun v7 => bnd (evP rows (.load1 (.c v7))) fun v8 => Ex F cx k ⟨mk 32 [(5, v8), (17, v8), (16, v7), (15, v6), (14, v5), (13, v4), (12, v3), (11, v2), (10, v1), (9, v0), (8, lk l 0), (0, lk l 0), (3, lk l 3)], rows, low⟩ r := reg (keep := [0, 3]) (ops := c59r2) rfl (by kernel_rfl) (by kernel_rfl)
@[simp] theorem uc59s3 : Ex F cx (.code c59s3 :: k) s r ↔ Ex F cx (.code (.seq c59k2 c59s1) :: k) s r := Iff.rfl
@[simp] theorem uc59k4 : Ex F cx (.code c59k4 :: k) ⟨mk 32 l, rows, low⟩ r ↔ Ex F cx k ⟨mk 32 [(4, .nilslice)], rows, low⟩ r := reg (keep := []) (ops := c59r4) rfl (by kernel_rfl) (by kernel_rfl)
@[simp] theorem uc59s5 : Ex F cx (.code c59s5 :: k) s r ↔ Ex F cx (.code (.cond (.t 7) (.seq c59k4 .ret) .skip) :: k) s r := Iff.rfl
@[simp] theorem uc59k6 : Ex F cx (.code c59k6 :: k) ⟨mk 32 l, rows, low⟩ r ↔ bnd (evP rows (.loadN 2 (.c (lk l 3)))) fun v0 => bnd (Ret F 86 [v0] rows) fun q1 => Ex F cx k ⟨mk 32 [(7, q1.1), (6, v0), (0, lk l 0), (3, lk l 3)], q1.2.1, (lowO low q1.2.2)⟩ r := reg (keep := [0, 3]) (ops := c59r6) rfl (by kernel_rfl) (by kernel_rfl)
@[simp] theorem uc59s7 : Ex F cx (.code c59s7 :: k) s r ↔ Ex F cx (.code (.seq (.seq c59k6 c59s5) c59s3) :: k) s r := Iff.rfl
@[simp] theorem uc59k8 : Ex F cx (.code c59k8 :: k) ⟨mk 32 l, rows, low⟩ r ↔ bnd (evE rows low (.box (.c (lk l 1)))) fun q0 => Ex F cx k ⟨mk 32 [(4, .nilslice), (3, q0.1), (0, lk l 0), (1, lk l 1)], q0.2.1, q0.2.2⟩ r := reg (keep := [0, 1]) (ops := c59r8) rfl (by kernel_rfl) (by kernel_rfl)
def Jc59s3 (F : Nat → Option IFn) (cx : Ctx) (x0 x3 : AV) (rows : List Row) (low : Nat) (r : AV × List Row × Nat → Prop) : Prop := Ex F cx (.code c59s3 :: []) ⟨mk 32 [(0, x0), (3, x3)], rows, low⟩ r
theorem jc59s3 : Ex F cx (.code c59s3 :: []) ⟨mk 32 l, rows, low⟩ r ↔ Jc59s3 F cx (lk l 0) (lk l 3) rows low r := Ex_canon (keep := [0, 3]) (by kernel_rfl)
@[simp] theorem uc59b : Ex F cx (.code c59b :: k) s r ↔ Ex F cx (.code (.seq c59k8 c59s7) :: k) s r := Iff.rfl
theorem i59 {x0 x1 : AV} (hF : F 59 = some c59) {q : AV × List Row × Option Nat} (h : Ex F (.fn [.t 4]) [.code c59b] ⟨mk 32 [(0, x0), (1, x1)], rows, rows.length⟩ fun r => fin rows r.1 r.2.1 r.2.2 = q) : Ret F 59 [x0, x1] rows = some q := Ret_mk hF h
@[simp] theorem uc87k0 : Ex F cx (.code c87k0 :: k) ⟨mk 36 l, rows, low⟩ r ↔ Ex F cx k ⟨mk 36 [(2, lk l 6), (35, lk l 6), (6, lk l 6)], rows, low⟩ r := reg (keep := [6]) (ops := c87r0) rfl (by kernel_rfl) (by kernel_rfl)
@[simp] theorem uc87s1 : Ex F cx (.code c87s1 :: k) s r ↔ Ex F cx (.code (.seq c87k0 .ret) :: k) s r := Iff.rfl
@[simp] theorem uc87k3 : Ex F cx (.code c87k3 :: k) ⟨mk 36 l, rows, low⟩ r ↔ bnd (evP rows (.bin .add (.c (lk l 27)) (.c (.int .i64 1)))) fun v0 => Ex F cx k ⟨mk 36 [(27, v0), (34, v0), (6, lk l 6), (25, lk l 25), (26, lk l 26), (27, lk l 27)], rows, low⟩ r := reg (keep := [6, 25, 26, 27]) (ops := c87r3) rfl (by kernel_rfl) (by kernel_rfl)
@[simp] theorem uc87k4 : Ex F cx (.code c87k4 :: k) ⟨mk 36 l, rows, low⟩ r ↔ bnd (evE rows low (.app 1 8 (.c (lk l 6)) (.c (lk l 8)))) fun q0 => Ex F cx k ⟨mk 36 [(6, q0.1), (33, q0.1), (32, lk l 8), (31, lk l 6), (6, lk l 6), (8, lk l 8), (25, lk l 25), (26, lk l 26), (27, lk l 27)], q0.2.1, q0.2.2⟩ r := reg (keep := [6, 8, 25, 26, 27]) (ops := c87r4) rfl (by kernel_rfl) (by kernel_rfl)
@[simp] theorem uc87k5 : Ex F cx (.code c87k5 :: k) ⟨mk 36 l, rows, low⟩ r ↔ bnd (evP rows (.idxS 1 (.c (lk l 25)) (.c (lk l 27)))) fun v0 => bnd (evP rows (.load1 (.c v0))) fun v1 => Ex F cx k ⟨mk 36 [(8, v1), (30, v1), (29, v0), (6, lk l 6), (25, lk l 25), (26, lk l 26), (27, lk l 27)], rows, low⟩ r := reg (keep := [6, 25, 26, 27]) (ops := c87r5) rfl (by kernel_rfl) (by kernel_rfl)
@[simp] theorem uc87s6 : Ex F cx (.code c87s6 :: k) s r ↔ Ex F cx (.code (.seq (.block 3 (.seq c87k5 c87k4)) c87k3) :: k) s r := Iff.rfl
@[simp] theorem uc87s7 : Ex F cx (.code c87s7 :: k) s r ↔ Ex F cx (.code (.seq (.cond (.t 28) .skip (.exit 2)) c87s6) :: k) s r := Iff.rfl
@[simp] theorem uc87k8 : Ex F cx (.code c87k8 :: k) ⟨mk 36 l, rows, low⟩ r ↔ bnd (evP rows (.bin .lss (.c (lk l 27)) (.c (lk l 26)))) fun v0 => Ex F cx k ⟨mk 36 [(28, v0), (6, lk l 6), (25, lk l 25), (26, lk l 26), (27, lk l 27)], rows, low⟩ r := reg (keep := [6, 25, 26, 27]) (ops := c87r8) rfl (by kernel_rfl) (by kernel_rfl)
@[simp] theorem uc87s9 : Ex F cx (.code c87s9 :: k) s r ↔ Ex F cx (.code (.block 2 (.loop c87l2)) :: k) s r := Iff.rfl
@[simp] theorem uc87k10 : Ex F cx (.code c87k10 :: k) ⟨mk 36 l, rows, low⟩ r ↔ bnd (evP rows (.len 0 (.c (lk l 0)))) fun v0 => Ex F cx k ⟨mk 36 [(27, (.int .i64 0)), (26, v0), (25, lk l 0), (0, lk l 0), (6, lk l 6)], rows, low⟩ r := reg (keep := [0, 6]) (ops := c87r10) rfl (by kernel_rfl) (by kernel_rfl)
@[simp] theorem uc87s11 : Ex F cx (.code c87s11 :: k) s r ↔ Ex F cx (.code (.seq (.seq c87k10 c87s9) c87s1) :: k) s r := Iff.rfl
@[simp] theorem uc87k12 : Ex F cx (.code c87k12 :: k) ⟨mk 36 l, rows, low⟩ r ↔ bnd (Ret F 98 [.nilslice, lk l 3] rows) fun q0 => Ex F cx k ⟨mk 36 [(6, q0.1), (24, q0.1), (23, lk l 3), (0, lk l 0), (3, lk l 3)], q0.2.1, (lowO low q0.2.2)⟩ r := reg (keep := [0, 3]) (ops := c87r12) rfl (by kernel_rfl) (by kernel_rfl)
@[simp] theorem uc87s13 : Ex F cx (.code c87s13 :: k) s r ↔ Ex F cx (.code (.seq c87k12 c87s11) :: k) s r := Iff.rfl
@[simp] theorem uc87k15 : Ex F cx (.code c87k15 :: k) ⟨mk 36 l, rows, low⟩ r ↔ bnd (evP rows (.bin .add (.c (lk l 11)) (.c (.int .i64 1)))) fun v0 => Ex F cx k ⟨mk 36 [(11, v0), (22, v0), (0, lk l 0), (3, lk l 3), (9, lk l 9), (10, lk l 10), (11, lk l 11)], rows, low⟩ r := reg (keep := [0, 3, 9, 10, 11]) (ops := c87r15) rfl (by kernel_rfl) (by kernel_rfl)
@[simp] theorem uc87k16 : Ex F cx (.code c87k16 :: k) ⟨mk 36 l, rows, low⟩ r ↔ bnd (evP rows (.mkif 9 (.c (.str ⟨#[108, 101, 110, 32, 111, 117, 116, 32, 111, 102, 32, 114, 97, 110, 103, 101]⟩)))) fun v0 => bnd (evE rows low (.bad)) fun q1 => Ex F cx k ⟨mk 36 [(21, v0), (0, lk l 0), (3, lk l 3), (9, lk l 9), (10, lk l 10), (11, lk l 11)], q1.2.1, q1.2.2⟩ r := reg (keep := [0, 3, 9, 10, 11]) (ops := c87r16) rfl (by kernel_rfl) (by kernel_rfl)
@[simp] theorem uc87s17 : Ex F cx (.code c87s17 :: k) s r ↔ Ex F cx (.code (.cond (.t 20) c87k16 .skip) :: k) s r := Iff.rfl
@[simp] theorem uc87k18 : Ex F cx (.code c87k18 :: k) ⟨mk 36 l, rows, low⟩ r ↔ bnd (evP rows (.bin .lss (.c (lk l 3)) (.c (.int .i64 0)))) fun v0 => Ex F cx k ⟨mk 36 [(20, v0), (19, lk l 3), (0, lk l 0), (3, lk l 3), (9, lk l 9), (10, lk l 10), (11, lk l 11)], rows, low⟩ r := reg (keep := [0, 3, 9, 10, 11]) (ops := c87r18) rfl (by kernel_rfl) (by kernel_rfl)
@[simp] theorem uc87s19 : Ex F cx (.code c87s19 :: k) s r ↔ Ex F cx (.code (.seq c87k18 c87s17) :: k) s r := Iff.rfl
@[simp] theorem uc87k20 : Ex F cx (.code c87k20 :: k) ⟨mk 36 l, rows, low⟩ r ↔ bnd (evP rows (.len 0 (.c (lk l 5)))) fun v0 => bnd (evP rows (.bin .add (.c (lk l 3)) (.c v0))) fun v1 => Ex F cx k ⟨mk 36 [(3, v1), (18, v1), (17, v0), (16, lk l 5), (15, lk l 3), (0, lk l 0), (3, lk l 3), (5, lk l 5), (9, lk l 9), (10, lk l 10), (11, lk l 11)], rows, low⟩ r := reg (keep := [0, 3, 5, 9, 10, 11]) (ops := c87r20) rfl (by kernel_rfl) (by kernel_rfl)
@[simp] theorem uc87s21 : Ex F cx (.code c87s21 :: k) s r ↔ Ex F cx (.code (.seq c87k20 c87s19) :: k) s r := Iff.rfl
@[simp] theorem uc87k22 : Ex F cx (.code c87k22 :: k) ⟨mk 36 l, rows, low⟩ r ↔ bnd (evP rows (.idxS 1 (.c (lk l 9)) (.c (lk l 11)))) fun v0 => bnd (evP rows (.load1 (.c v0))) fun v1 => Ex F cx k ⟨mk 36 [(5, v1), (14, v1), (13, v0), (0, lk l 0), (3, lk l 3), (9, lk l 9), (10, lk l 10), (11, lk l 11)], rows, low⟩ r := reg (keep := [0, 3, 9, 10, 11]) (ops := c87r22) rfl (by kernel_rfl) (by kernel_rfl)
@[simp] theorem uc87s23 : Ex F cx (.code c87s23 :: k) s r ↔ Ex F cx (.code (.seq (.block 1 (.seq c87k22 c87s21)) c87k15) :: k) s r := Iff.rfl
@[simp] theorem uc87s24 : Ex F cx (.code c87s24 :: k) s r ↔ Ex F cx (.code (.seq (.cond (.t 12) .skip (.exit 0)) c87s23) :: k) s r := Iff.rfl
@[simp] theorem uc87k25 : Ex F cx (.code c87k25 :: k) ⟨mk 36 l, rows, low⟩ r ↔ bnd (evP rows (.bin .lss (.c (lk l 11)) (.c (lk l 10)))) fun v0 => Ex F cx k ⟨mk 36 [(12, v0), (0, lk l 0), (3, lk l 3), (9, lk l 9), (10, lk l 10), (11, lk l 11)], rows, low⟩ r := reg (keep := [0, 3, 9, 10, 11]) (ops := c87r25) rfl (by kernel_rfl) (by kernel_rfl)
@[simp] theorem uc87s26 : Ex F cx (.code c87s26 :: k) s r ↔ Ex F cx (.code (.block 0 (.loop c87l14)) :: k) s r := Iff.rfl
@[simp] theorem uc87k27 : Ex F cx (.code c87k27 :: k) ⟨mk 36 l, rows, low⟩ r ↔ bnd (evP rows (.len 0 (.c (lk l 0)))) fun v0 => Ex F cx k ⟨mk 36 [(11, (.int .i64 0)), (10, v0), (9, lk l 0), (0, lk l 0), (3, lk l 3)], rows, low⟩ r := reg (keep := [0, 3]) (ops := c87r27) rfl (by kernel_rfl) (by kernel_rfl)
@[simp] theorem uc87s28 : Ex F cx (.code c87s28 :: k) s r ↔ Ex F cx (.code (.seq (.seq c87k27 c87s26) c87s13) :: k) s r := Iff.rfl
@[simp] theorem uc87k29 : Ex F cx (.code c87k29 :: k) ⟨mk 36 l, rows, low⟩ r ↔ Ex F cx k ⟨mk 36 [(3, (.int .i64 0)), (0, lk l 0)], rows, low⟩ r := reg (keep := [0]) (ops := c87r29) rfl (by kernel_rfl) (by kernel_rfl)
@[simp] theorem uc87s30 : Ex F cx (.code c87s30 :: k) s r ↔ Ex F cx (.code (.seq c87k29 c87s28) :: k) s r := Iff.rfl
@[simp] theorem uc87k31 : Ex F cx (.code c87k31 :: k) ⟨mk 36 l, rows, low⟩ r ↔ Ex F cx k ⟨mk 36 [(2, .nilslice), (0, lk l 0)], rows, low⟩ r := reg (keep := [0]) (ops := c87r31) rfl (by kernel_rfl) (by kernel_rfl)
def Jc87s6 (F : Nat → Option IFn) (cx : Ctx) (x6 x25 x26 x27 : AV) (rows : List Row) (low : Nat) (r : AV × List Row × Nat → Prop) : Prop := Ex F cx (.code c87s6 :: .inLoop c87l2 :: .inBlock 2 :: .code c87s1 :: []) ⟨mk 36 [(6, x6), (25, x25), (26, x26), (27, x27)], rows, low⟩ r
theorem jc87s6 : Ex F cx (.code c87s6 :: .inLoop c87l2 :: .inBlock 2 :: .code c87s1 :: []) ⟨mk 36 l, rows, low⟩ r ↔ Jc87s6 F cx (lk l 6) (lk l 25) (lk l 26) (lk l 27) rows low r := Ex_canon (keep := [6, 25, 26, 27]) (by kernel_rfl)
def Lc87l2 (F : Nat → Option IFn) (cx : Ctx) (x6 x25 x26 x27 : AV) (rows : List Row) (low : Nat) (r : AV × List Row × Nat → Prop) : Prop := Ex F cx (.code c87l2 :: .inLoop c87l2 :: .inBlock 2 :: .code c87s1 :: []) ⟨mk 36 [(6, x6), (25, x25), (26, x26), (27, x27)], rows, low⟩ r
@[simp] theorem nc87l2 : Ex F cx (.inLoop c87l2 :: .inBlock 2 :: .code c87s1 :: []) ⟨mk 36 l, rows, low⟩ r ↔ Lc87l2 F cx (lk l 6) (lk l 25) (lk l 26) (lk l 27) rows low r := loopN (keep := [6, 25, 26, 27]) (by kernel_rfl)
@[simp] theorem ec87l2 : Ex F cx (.code (.loop c87l2) :: .inBlock 2 :: .code c87s1 :: []) ⟨mk 36 l, rows, low⟩ r ↔ Lc87l2 F cx (lk l 6) (lk l 25) (lk l 26) (lk l 27) rows low r := loopE (keep := [6, 25, 26, 27]) (by kernel_rfl)
@[simp] theorem uc87l2 : Ex F cx (.code c87l2 :: k) s r ↔ Ex F cx (.code (.seq c87k8 c87s7) :: k) s r := Iff.rfl
def Jc87s23 (F : Nat → Option IFn) (cx : Ctx) (x0 x3 x9 x10 x11 : AV) (rows : List Row) (low : Nat) (r : AV × List Row × Nat → Prop) : Prop := Ex F cx (.code c87s23 :: .inLoop c87l14 :: .inBlock 0 :: .code c87s13 :: []) ⟨mk 36 [(0, x0), (3, x3), (9, x9), (10, x10), (11, x11)], rows, low⟩ r
theorem jc87s23 : Ex F cx (.code c87s23 :: .inLoop c87l14 :: .inBlock 0 :: .code c87s13 :: []) ⟨mk 36 l, rows, low⟩ r ↔ Jc87s23 F cx (lk l 0) (lk l 3) (lk l 9) (lk l 10) (lk l 11) rows low r := Ex_canon (keep := [0, 3, 9, 10, 11]) (by kernel_rfl)
def Lc87l14 (F : Nat → Option IFn) (cx : Ctx) (x0 x3 x9 x10 x11 : AV) (rows : List Row) (low : Nat) (r : AV × List Row × Nat → Prop) : Prop := Ex F cx (.code c87l14 :: .inLoop c87l14 :: .inBlock 0 :: .code c87s13 :: []) ⟨mk 36 [(0, x0), (3, x3), (9, x9), (10, x10), (11, x11)], rows, low⟩ r
@[simp] theorem nc87l14 : Ex F cx (.inLoop c87l14 :: .inBlock 0 :: .code c87s13 :: []) ⟨mk 36 l, rows, low⟩ r ↔ Lc87l14 F cx (lk l 0) (lk l 3) (lk l 9) (lk l 10) (lk l 11) rows low r := loopN (keep := [0, 3, 9, 10, 11]) (by kernel_rfl)
@[simp] theorem ec87l14 : Ex F cx (.code (.loop c87l14) :: .inBlock 0 :: .code c87s13 :: []) ⟨mk 36 l, rows, low⟩ r ↔ Lc87l14 F cx (lk l 0) (lk l 3) (lk l 9) (lk l 10) (lk l 11) rows low r := loopE (keep := [0, 3, 9, 10, 11]) (by kernel_rfl)
@[simp] theorem uc87l14 : Ex F cx (.code c87l14 :: k) s r ↔ Ex F cx (.code (.seq c87k25 c87s24) :: k) s r := Iff.rfl
@[simp] theorem uc87b : Ex F cx (.code c87b :: k) s r ↔ Ex F cx (.code (.seq c87k31 c87s30) :: k) s r := Iff.rfl
theorem i87 {x0 : AV} (hF : F 87 = some c87) {q : AV × List Row × Option Nat} (h : Ex F (.fn [.t 2]) [.code c87b] ⟨mk 36 [(0, x0)], rows, rows.length⟩ fun r => fin rows r.1 r.2.1 r.2.2 = q) : Ret F 87 [x0] rows = some q := Ret_mk hF h
@[simp] theorem uc98k0 : Ex F cx (.code c98k0 :: k) ⟨mk 27 l, rows, low⟩ r ↔ Ex F cx k ⟨mk 27 [(4, lk l 0), (26, lk l 0), (0, lk l 0)], rows, low⟩ r := reg (keep := [0]) (ops := c98r0) rfl (by kernel_rfl) (by kernel_rfl)
@[simp] theorem uc98s1 : Ex F cx (.code c98s1 :: k) s r ↔ Ex F cx (.code (.seq c98k0 .ret) :: k) s r := Iff.rfl
@[simp] theorem uc98k2 : Ex F cx (.code c98k2 :: k) ⟨mk 27 l, rows, low⟩ r ↔ bnd (evP rows (.cap (.c (lk l 0)))) fun v0 => bnd (evP rows (.sliceS 1 (.c (lk l 0)) none (some (.c v0)) none)) fun v1 => bnd (evE rows low (.appz [.int .i64 0] (.c v1) (.c (lk l 1)))) fun q2 => bnd (evP q2.2.1 (.len 0 (.c (lk l 0)))) fun v3 => bnd (evP q2.2.1 (.sliceS 1 (.c q2.1) none (some (.c v3)) none)) fun v4 => Ex F cx k ⟨mk 27 [(0, v4), (25, v4), (24, v3), (23, lk l 0), (22, q2.1), (21, lk l 1), (20, v1), (19, v0), (18, lk l 0), (17, lk l 0), (0, lk l 0), (1, lk l 1)], q2.2.1, q2.2.2⟩ r := reg (keep := [0, 1]) (ops := c98r2) rfl (by kernel_rfl) (by kernel_rfl)
@[simp] theorem uc98s3 : Ex F cx (.code c98s3 :: k) s r ↔ Ex F cx (.code (.cond (.t 16) c98k2 .skip) :: k) s r := Iff.rfl
@[simp] theorem uc98k4 : Ex F cx (.code c98k4 :: k) ⟨mk 27 l, rows, low⟩ r ↔ bnd (evP rows (.bin .gtr (.c (lk l 1)) (.c (.int .i64 0)))) fun v0 => Ex F cx k ⟨mk 27 [(16, v0), (15, lk l 1), (0, lk l 0), (1, lk l 1)], rows, low⟩ r := reg (keep := [0, 1]) (ops := c98r4) rfl (by kernel_rfl) (by kernel_rfl)
@[simp] theorem uc98s5 : Ex F cx (.code c98s5 :: k) s r ↔ Ex F cx (.code (.seq c98k4 c98s3) :: k) s r := Iff.rfl
@[simp] theorem uc98k6 : Ex F cx (.code c98k6 :: k) ⟨mk 27 l, rows, low⟩ r ↔ bnd (evP rows (.cap (.c (lk l 0)))) fun v0 => bnd (evP rows (.len 0 (.c (lk l 0)))) fun v1 => bnd (evP rows (.bin .sub (.c v0) (.c v1))) fun v2 => bnd (evP rows (.bin .sub (.c (lk l 1)) (.c v2))) fun v3 => Ex F cx k ⟨mk 27 [(1, v3), (14, v3), (13, v2), (12, v1), (11, lk l 0), (10, v0), (9, lk l 0), (8, lk l 1), (0, lk l 0), (1, lk l 1)], rows, low⟩ r := reg (keep := [0, 1]) (ops := c98r6) rfl (by kernel_rfl) (by kernel_rfl)
@[simp] theorem uc98s7 : Ex F cx (.code c98s7 :: k) s r ↔ Ex F cx (.code (.seq (.seq c98k6 c98s5) c98s1) :: k) s r := Iff.rfl
@[simp] theorem uc98k8 : Ex F cx (.code c98k8 :: k) ⟨mk 27 l, rows, low⟩ r ↔ bnd (evP rows (.mkif 9 (.c (.str ⟨#[99, 97, 110, 110, 111, 116, 32, 98, 101, 32, 110, 101, 103, 97, 116, 105, 118, 101]⟩)))) fun v0 => bnd (evE rows low (.bad)) fun q1 => Ex F cx k ⟨mk 27 [(7, v0), (0, lk l 0), (1, lk l 1)], q1.2.1, q1.2.2⟩ r := reg (keep := [0, 1]) (ops := c98r8) rfl (by kernel_rfl) (by kernel_rfl)
@[simp] theorem uc98s9 : Ex F cx (.code c98s9 :: k) s r ↔ Ex F cx (.code (.cond (.t 6) c98k8 .skip) :: k) s r := Iff.rfl
@[simp] theorem uc98k10 : Ex F cx (.code c98k10 :: k) ⟨mk 27 l, rows, low⟩ r ↔ bnd (evP rows (.bin .lss (.c (lk l 1)) (.c (.int .i64 0)))) fun v0 => Ex F cx k ⟨mk 27 [(6, v0), (5, lk l 1), (0, lk l 0), (1, lk l 1)], rows, low⟩ r := reg (keep := [0, 1]) (ops := c98r10) rfl (by kernel_rfl) (by kernel_rfl)
@[simp] theorem uc98s11 : Ex F cx (.code c98s11 :: k) s r ↔ Ex F cx (.code (.seq (.seq c98k10 c98s9) c98s7) :: k) s r := Iff.rfl
@[simp] theorem uc98k12 : Ex F cx (.code c98k12 :: k) ⟨mk 27 l, rows, low⟩ r ↔ Ex F cx k ⟨mk 27 [(4, .nilslice), (0, lk l 0), (1, lk l 1)], rows, low⟩ r := reg (keep := [0, 1]) (ops := c98r12) rfl (by kernel_rfl) (by kernel_rfl)
def Jc98s1 (F : Nat → Option IFn) (cx : Ctx) (x0 : AV) (rows : List Row) (low : Nat) (r : AV × List Row × Nat → Prop) : Prop := Ex F cx (.code c98s1 :: []) ⟨mk 27 [(0, x0)], rows, low⟩ r
theorem jc98s1 : Ex F cx (.code c98s1 :: []) ⟨mk 27 l, rows, low⟩ r ↔ Jc98s1 F cx (lk l 0) rows low r := Ex_canon (keep := [0]) (by kernel_rfl)
def Jc98s7 (F : Nat → Option IFn) (cx : Ctx) (x0 x1 : AV) (rows : List Row) (low : Nat) (r : AV × List Row × Nat → Prop) : Prop := Ex F cx (.code c98s7 :: []) ⟨mk 27 [(0, x0), (1, x1)], rows, low⟩ r
theorem jc98s7 : Ex F cx (.code c98s7 :: []) ⟨mk 27 l, rows, low⟩ r ↔ Jc98s7 F cx (lk l 0) (lk l 1) rows low r := Ex_canon (keep := [0, 1]) (by kernel_rfl)
@[simp] theorem uc98b : Ex F cx (.code c98b :: k) s r ↔ Ex F cx (.code (.seq c98k12 c98s11) :: k) s r := Iff.rfl
theorem i98 {x0 x1 : AV} (hF : F 98 = some c98) {q : AV × List Row × Option Nat} (h : Ex F (.fn [.t 4]) [.code c98b] ⟨mk 27 [(0, x0), (1, x1)], rows, rows.length⟩ fun r => fin rows r.1 r.2.1 r.2.2 = q) : Ret F 98 [x0, x1] rows = some q := Ret_mk hF h
end Go.Abs

set_option linter.unusedVariables false
set_option linter.unusedSimpArgs false
namespace Go.Abs
open Rd (Cp IsL_one IsL_cells IsL_tail lowO_n)
/-- A value of a list of values. -/
def gA (vs : List AV) (i : Nat) : AV := vs.getD i .any
def gLL (ls : List (List Int)) (i : Nat) : List Int := ls.getD i []
theorem gA_get {vs : List AV} {i : Nat} (h : i < vs.length) : vs[i]? = some (gA vs i) := by
  simp [gA, h]
theorem gLL_get {vs : List (List Int)} {i : Nat} (h : i < vs.length) : vs[i]? = some (gLL vs i) := by
  simp [gLL, h]
/-- A slice of slices of numbers. -/
def IsLL (rows : List Row) (v : AV) (ls : List (List Int)) : Prop := ∃ vs, El rows 1 v vs ls.length ∧ ∀ i, i < ls.length → IsL rows (gA vs i) (gLL ls i)
section
variable {rows : List Row}
theorem lenLL {v : AV} {ls : List (List Int)} (h : IsLL rows v ls) (L : List Row) : evP (rows ++ L) (.len 0 (.c v)) = some (.int .i64 ls.length) := by
  obtain ⟨vs, h1, _⟩ := h
  exact evP_lenE (El_app h1 L)
/-- The sum of the costs of gates. -/
def sumG (cs l : List Int) : Int := (l.map fun g => gI cs g.toNat).sum
end
end Go.Abs

set_option linter.unusedVariables false
set_option linter.unusedSimpArgs false
namespace Go.Abs
open Rd (Cp IsL_one IsL_cells IsL_tail lowO_n)
section
variable {rows : List Row}
theorem seg_nums (l : List Int) : seg (nums .i64 l) 0 l.length = some (nums .i64 l) := by
  unfold seg; simp [nums, List.take_of_length_le]
/-- slices.Grow of nothing. -/
theorem grow_ret {n : Nat} (h0 : 0 < n) (hn : n ≤ 1000000) : Ret F 98 [.nilslice, .int .i64 n] rows = some (.slice rows.length 0 0 (.op 1), rows ++ [.cells (nums .i64 (List.replicate n 0))], none) := by
  have e : nums .i64 (List.replicate n 0) = List.replicate n (AV.int .i64 0) := by
    simp [nums]
  have w0 : IntKind.i64.wrap 0 = 0 := by decide
  have hid : (List.replicate n (AV.int .i64 0)).all (fun v => v.ids.isEmpty) = true := by simp
  have hs : sliceV 1 (.slice rows.length 0 n (.op 1)) none (some (.int .i64 0)) none = some (.slice rows.length 0 0 (.op 1)) := by
    simp [sliceV, bound?]
  have hs0 : sliceV 1 .nilslice none (some (.int .i64 0)) none = some .nilslice := by
    simp [sliceV, bound?]
  have w : IntKind.i64.wrap (n : Int) = n := wrap64 (by omega) (by omega)
  have hcap : evP rows (.cap (.c .nilslice)) = some (.int .i64 0) := rfl
  refine i98 F98 ?_
  have h3 : ¬ ((n : Int) < 0) := by omega
  simp (disch := first | omega | (simp; done) | fail) [w, w0, h0, e, hs, hs0, hcap, show n ≤ lim from by simp [lim]; omega, h3]
  have := fin_slice (rows := rows) (L := [.cells (List.replicate n (AV.int .i64 0))]) (k := 0) (o := 0) (n := 0) (c := .op 1) rfl hid
  simpa using this
theorem concat_sizes {sv : AV} {ls : List (List Int)} (hl : IsLL rows sv ls) (hls : ls.length ≤ 1000) (hne : ls.flatten ≠ []) (htot : ls.flatten.length ≤ 1000000) {r : AV × List Row × Nat → Prop}
    (hn : Lc87l2 F (.fn [.t 2]) (.slice rows.length 0 0 (.op 1)) sv (.int .i64 ls.length) (.int .i64 0) (rows ++ [.cells (nums .i64 (List.replicate ls.flatten.length 0))]) rows.length r) : ∀ (n i : Nat), ls.length - i = n → i ≤ ls.length →
    Lc87l14 F (.fn [.t 2]) sv (.int .i64 (ls.take i).flatten.length) sv (.int .i64 ls.length) (.int .i64 i) rows rows.length r := by
  obtain ⟨vs, hv, hv2⟩ := hl
  have hvl : vs.length = ls.length := by simpa using El_len hv
  have hpos : 0 < ls.flatten.length := List.length_pos_iff.2 hne
  intro n
  induction n with
  | zero =>
    intro i hn0 hi
    have hi : i = ls.length := by omega
    have e : ls.take i = ls := List.take_of_length_le (by omega)
    have hlen := evP_lenE (El_app hv [.cells (nums .i64 (List.replicate ls.flatten.length 0))])
    rw [e]
    unfold Lc87l14
    have hg := grow_ret (rows := rows) hpos htot
    simp only [List.length_flatten] at hg hn hlen ⊢
    simp [hi, hg, lowO_n, hlen, -lowO]
    simpa using hn
  | succ n ih =>
    intro i hn0 hi
    have hi : i < ls.length := by omega
    have hvi := hv2 i hi
    have e1 : evP rows (.idxS 1 (.c sv) (.c (.int .i64 i))) = some (.ptr (sid sv) (soff sv + i)) := by
      simpa using evP_idxE hv (k := .i64) (i := i) (by omega) (by omega)
    have e2 : evP rows (.load1 (.c (.ptr (sid sv) (soff sv + i)))) = some (gA vs i) := by
      rw [evP_loadE hv (by omega), gA_get (by omega)]
    have hb : (ls.take (i + 1)).flatten.length ≤ ls.flatten.length := by
      have h := List.take_append_drop (i + 1) ls
      have : ls.flatten.length = (ls.take (i + 1) ++ ls.drop (i + 1)).flatten.length := by rw [h]
      rw [this, List.flatten_append, List.length_append]
      omega
    have e3 : (ls.take (i + 1)).flatten.length = (ls.take i).flatten.length + (gLL ls i).length := by
      rw [List.take_add_one, gLL_get hi]
      simp only [Option.toList_some, List.flatten_append, List.length_append, List.flatten_cons, List.flatten_nil, List.append_nil]
    have w : IntKind.i64.wrap ((i : Int) + 1) = i + 1 := wrap64 (by omega) (by omega)
    have w2 : IntKind.i64.wrap (((ls.take i).flatten.length : Int) + (gLL ls i).length) = (ls.take (i + 1)).flatten.length := by
      rw [e3]; push_cast; exact wrap64 (by omega) (by omega)
    have h3 : ¬ (((ls.take (i + 1)).flatten.length : Int) < 0) := by omega
    have := ih (i + 1) (by omega) (by omega)
    generalize hA : (ls.take i).flatten.length = A at *
    generalize hB : (ls.take (i + 1)).flatten.length = B at *
    unfold Lc87l14
    simp (disch := first | omega | (simp; done) | fail) [hi, e1, e2, lenL0 hvi, w, w2, h3]
    simpa using this
/-- The list so far: in a row of its own. -/
def Cur (T : List Row) (nv : AV) (rows : List Row) (acc : List Int) : Prop := ∃ j vs, nv = .slice (rows.length + j) 0 acc.length (.op 1) ∧ T[j]? = some (.cells vs) ∧ vs.all (·.ids.isEmpty) = true ∧ seg vs 0 acc.length = some (nums .i64 acc) ∧ (acc ≠ [] → vs = nums .i64 acc)
theorem concat_loop {sv : AV} {ls : List (List Int)} (hl : IsLL rows sv ls) (hls : ls.length ≤ 1000) (hne : ls.flatten ≠ []) (htot : ls.flatten.length ≤ 1000000) : ∀ (n i : Nat) (T : List Row) (nv : AV), ls.length - i = n → i ≤ ls.length → Cur T nv rows (ls.take i).flatten →
    Lc87l2 F (.fn [.t 2]) nv sv (.int .i64 ls.length) (.int .i64 i) (rows ++ T) rows.length (fun r => fin rows r.1 r.2.1 r.2.2 = newL rows ls.flatten) := by
  obtain ⟨vs, hv, hv2⟩ := hl
  have hvl : vs.length = ls.length := by simpa using El_len hv
  intro n
  induction n with
  | zero =>
    intro i T nv hn0 hi hcur
    have hi : i = ls.length := by omega
    have e : ls.take i = ls := List.take_of_length_le (by omega)
    rw [e] at hcur
    obtain ⟨j, us, rfl, hT, hid, hsg, hfull⟩ := hcur
    have hus := hfull hne
    subst hus
    have hf := fin_slice (rows := rows) (L := T) (k := j) (o := 0) (n := ls.flatten.length) (c := .op 1) hT hid
    unfold Lc87l2
    generalize hq : ls.flatten = q at *
    cases q with
    | nil => exact absurd rfl hne
    | cons x q =>
      simp only [List.length_cons] at hf
      simp [hi]
      simpa [newL] using hf
  | succ n ih =>
    intro i T nv hn0 hi hcur
    have hi : i < ls.length := by omega
    have hvi := hv2 i hi
    have e1 : ∀ L, evP (rows ++ L) (.idxS 1 (.c sv) (.c (.int .i64 i))) = some (.ptr (sid sv) (soff sv + i)) := fun L => by
      simpa using evP_idxE (El_app hv L) (k := .i64) (i := i) (by omega) (by omega)
    have e2 : ∀ L, evP (rows ++ L) (.load1 (.c (.ptr (sid sv) (soff sv + i)))) = some (gA vs i) := fun L => by
      rw [evP_loadE (El_app hv L) (by omega), gA_get (by omega)]
    have hb : (ls.take (i + 1)).flatten.length ≤ ls.flatten.length := by
      have h := List.take_append_drop (i + 1) ls
      have : ls.flatten.length = (ls.take (i + 1) ++ ls.drop (i + 1)).flatten.length := by rw [h]
      rw [this, List.flatten_append, List.length_append]
      omega
    have e3 : (ls.take (i + 1)).flatten = (ls.take i).flatten ++ gLL ls i := by
      rw [List.take_add_one, gLL_get hi]
      simp only [Option.toList_some, List.flatten_append, List.flatten_cons, List.flatten_nil, List.append_nil]
    have w : IntKind.i64.wrap ((i : Int) + 1) = i + 1 := wrap64 (by omega) (by omega)
    unfold Lc87l2
    simp (disch := first | omega | (simp; done) | fail) [hi, e1, e2, w]
    by_cases hz : gLL ls i = []
    · have hx : El (rows ++ T) 1 (gA vs i) (nums .i64 []) 0 := by
        have := IsL_app hvi T
        rw [hz] at this
        exact this
      obtain ⟨j, us, hnv, _⟩ := id hcur
      rw [app_0 hx (.inr ⟨_, _, _, _, hnv⟩)]
      simp only [bnd_some]
      have := ih (i + 1) T nv (by omega) (by omega) (by rw [e3, hz, List.append_nil]; exact hcur)
      simpa [w] using this
    · obtain ⟨j, us, rfl, hT, hid, hsg, _⟩ := hcur
      have hx : El (rows ++ T) 1 (gA vs i) (nums .i64 (gLL ls i)) (gLL ls i).length := IsL_app hvi T
      have hc : cells? (rows ++ T) (rows.length + j) = some us := by
        unfold cells?
        rw [List.getElem?_append_right (by omega), Nat.add_sub_cancel_left, hT]
      have hl1 : (ls.take (i + 1)).flatten.length = (ls.take i).flatten.length + (gLL ls i).length := by rw [e3, List.length_append]
      rw [app_op (low := rows.length) (b := 8) hc (by simpa using hsg) hx (List.length_pos_iff.2 hz) (by simp only [lim]; omega)]
      simp only [bnd_some]
      have hj : j < T.length := (List.getElem?_eq_some_iff.1 hT).1
      have e4 : (rows ++ T).set (rows.length + j) .dead ++ [.cells (nums .i64 (ls.take i).flatten ++ nums .i64 (gLL ls i))] = rows ++ (T.set j .dead ++ [.cells (nums .i64 (ls.take (i + 1)).flatten)]) := by
        rw [List.set_append_right _ _ (by omega), Nat.add_sub_cancel_left, List.append_assoc, e3]
        simp [nums]
      rw [e4]
      have := ih (i + 1) (T.set j .dead ++ [.cells (nums .i64 (ls.take (i + 1)).flatten)]) (.slice (rows.length + T.length) 0 (ls.take (i + 1)).flatten.length (.op 1)) (by omega) (by omega)
        ⟨T.length, nums .i64 (ls.take (i + 1)).flatten, rfl, by simp, nums_ids, seg_nums _, fun _ => rfl⟩
      simp only [lower_add]
      rw [hl1] at this
      simpa [w] using this
/-- slices.Concat. -/
theorem concat_ret {sv : AV} {ls : List (List Int)} (hl : IsLL rows sv ls) (hls : ls.length ≤ 1000) (hne : ls.flatten ≠ []) (htot : ls.flatten.length ≤ 1000000) : Ret F 87 [sv] rows = some (newL rows ls.flatten) := by
  have h2 := concat_loop hl hls hne htot _ 0 [.cells (nums .i64 (List.replicate ls.flatten.length 0))] (.slice rows.length 0 0 (.op 1)) rfl (by omega) ⟨0, _, rfl, rfl, nums_ids, by simp [seg, nums], fun h => absurd rfl h⟩
  have h1 := concat_sizes hl hls hne htot (by simpa using h2) _ 0 rfl (by omega)
  have h0 := lenLL hl []
  rw [List.append_nil] at h0
  refine i87 F87 ?_
  simp [h0]
  simpa using h1
end
end Go.Abs

set_option linter.unusedVariables false
set_option linter.unusedSimpArgs false
namespace Go.Abs
open Rd (Cp IsL_one IsL_cells IsL_tail lowO_n)
/-- A new list's value, and its row. -/
def nlV (n : Nat) (l : List Int) : AV := match l with
  | [] => .nilslice
  | x :: l => .slice n 0 (l.length + 1) (.op 1)
def nlK (l : List Int) : List Row := match l with
  | [] => []
  | x :: l => [.cells (nums .i64 (x :: l))]
theorem newL_eq (rows : List Row) (l : List Int) : newL rows l = (nlV rows.length l, rows ++ nlK l, none) := by
  cases l <;> simp [newL, nlV, nlK]
theorem nlV_one (n : Nat) (l : List Int) : (nlV n l).one = true := by cases l <;> rfl
theorem nlV_cells (n : Nat) (l : List Int) : (nlV n l).cells = [nlV n l] := by cases l <;> rfl
theorem nlV_IsL (B : List Row) (l : List Int) (L : List Row) : IsL (B ++ (nlK l ++ L)) (nlV B.length l) l := by
  cases l with
  | nil => exact IsL_nil
  | cons x l =>
    rw [← List.append_assoc]
    exact IsL_app (IsL_new (L := []) rfl) L
theorem nlK_under (l : List Int) : (nlK l).all (Row.under 0) = true := by
  cases l with
  | nil => rfl
  | cons x l => simp [nlK, Row.under, AV.under, nums]
/-- The gate of a part, in the table. -/
def gateT (T : List Int) (a b : Int) : Int := gI T (169 + 13 * a + b).toNat
def prT (T : List Int) (a b : Int) : Int := gI T (13 * a + b).toNat
/-- The plan of a table. -/
def tpl (T : List Int) : Nat → Int → Int → List Int
  | 0, _, _ => []
  | m + 1, a, b => if a = b then [] else gateT T a b :: (tpl T m a (gateT T a b) ++ tpl T m (gateT T a b + 1) b)
def GoodT (T : List Int) (n : Int) : Prop := ∀ a b, 0 ≤ a → a < b → b ≤ n → a ≤ gateT T a b ∧ gateT T a b < b
theorem tpl_len {T : List Int} {n : Int} (hT : GoodT T n) : ∀ (m : Nat) (a b : Int), 0 ≤ a → a ≤ b → b ≤ n → b - a ≤ m → (tpl T m a b).length = (b - a).toNat := by
  intro m
  induction m with
  | zero => intro a b h0 h1 h2 h3; simp [tpl]; omega
  | succ m ih =>
    intro a b h0 h1 h2 h3
    unfold tpl
    by_cases he : a = b
    · simp [he]
    · have hg := hT a b h0 (by omega) h2
      have e1 := ih a (gateT T a b) h0 hg.1 (by omega) (by omega)
      have e2 := ih (gateT T a b + 1) b (by omega) (by omega) h2 (by omega)
      simp only [he, if_false, List.length_cons, List.length_append, e1, e2]
      omega
theorem maskE_cons {b i : Nat} {r : Row} {l : List (Nat × Row)} : maskE b ((i, r) :: l) = (if b.testBit i then r else .dead) :: maskE b l := rfl
theorem maskE_app {b : Nat} {l l' : List (Nat × Row)} : maskE b (l ++ l') = maskE b l ++ maskE b l' := by simp [maskE]
theorem maskE_map {b i : Nat} {X : List Row} : maskE b (X.map fun x => (i, x)) = if b.testBit i then X else X.map fun _ => .dead := by
  unfold maskE
  by_cases h : b.testBit i <;> simp [h, Function.comp_def]
theorem drop_app {rows L : List Row} {k : Nat} : List.drop (rows.length + k) (rows ++ L) = L.drop k := by simp [List.drop_append]
theorem drop_mapp {α : Type} {rows : List Row} {f : Row → α} {L : List α} {k : Nat} : List.drop (rows.length + k) (List.map f rows ++ L) = L.drop k := by
  rw [List.drop_append]; simp
theorem concat3 {R : List Row} {i : Nat} {v1 v2 v3 : AV} {g : Int} {l1 l2 : List Int} (hr : row? R i = some [v1, v2, v3]) (h1 : IsL R v1 [g]) (h2 : IsL R v2 l1) (h3 : IsL R v3 l2) (hl1 : l1.length ≤ 1000) (hl2 : l2.length ≤ 1000) : Ret F 87 [.slice i 0 3 (.at_ 3)] R = some (newL R (g :: (l1 ++ l2))) := by
  have hE : El R 1 (.slice i 0 3 (.at_ 3)) [v1, v2, v3] 3 := by
    unfold El elems
    simp only [hr]
    rfl
  have := concat_ret (rows := R) (sv := .slice i 0 3 (.at_ 3)) (ls := [[g], l1, l2]) ⟨[v1, v2, v3], hE, fun j hj => by
    match j, hj with
    | 0, _ => exact h1
    | 1, _ => exact h2
    | 2, _ => exact h3
    | n + 3, h => exact absurd h (by simp)⟩ (by simp) (by simp) (by simp; omega)
  simpa using this
theorem fin59 {rows K : List Row} {i : Nat} {v1 v2 v3 : AV} {g : Int} {l1 l2 l : List Int} (hl : l = g :: (l1 ++ l2)) (hr : row? (rows ++ K) i = some [v1, v2, v3]) (h1 : IsL (rows ++ K) v1 [g]) (h2 : IsL (rows ++ K) v2 l1) (h3 : IsL (rows ++ K) v3 l2) (hl1 : l1.length ≤ 1000) (hl2 : l2.length ≤ 1000) :
    bnd (Ret F 87 [.slice i 0 3 (.at_ 3)] (rows ++ K)) fun q => fin rows q.1 q.2.1 (lowO rows.length q.2.2) = newL rows l := by
  subst hl
  rw [concat3 hr h1 h2 h3 hl1 hl2]
  have := fin_slice (rows := rows) (L := K ++ [.cells (nums .i64 (g :: (l1 ++ l2)))]) (k := K.length) (o := 0) (n := (l1 ++ l2).length + 1) (c := .op 1) (vs := nums .i64 (g :: (l1 ++ l2))) (by simp) nums_ids
  simpa [newL, lowO] using this
theorem isl1 {rows L : List Row} {A : Row} {g : Int} : IsL (rows ++ A :: .cells [.int .i64 g] :: L) (.slice (rows.length + 1) 0 1 (.at_ 1)) [g] :=
  IsL_mk (n := 0) (l := [g]) (vs := [.int .i64 g]) (by unfold row?; simp) (by simp [seg, nums])
theorem isl2 {rows L : List Row} {A B : Row} {x : Int} {l : List Int} : IsL (rows ++ A :: B :: .cells (nums .i64 (x :: l)) :: L) (.slice (rows.length + 2) 0 (l.length + 1) (.op 1)) (x :: l) :=
  IsL_mk (n := 0) (l := x :: l) (vs := nums .i64 (x :: l)) (by unfold row?; simp) (seg_nums _)
theorem isl3 {rows L : List Row} {A B C : Row} {x : Int} {l : List Int} : IsL (rows ++ A :: B :: C :: .cells (nums .i64 (x :: l)) :: L) (.slice (rows.length + 3) 0 (l.length + 1) (.op 1)) (x :: l) :=
  IsL_mk (n := 0) (l := x :: l) (vs := nums .i64 (x :: l)) (by unfold row?; simp) (seg_nums _)
/-- best.plan. -/
theorem bplan_ret {T : List Int} {n : Int} {bid : Nat} (hlen : T.length = 338) (hn : n ≤ 12) (hT : GoodT T n) : ∀ (m : Nat) (rows : List Row) (a b : Int), 0 ≤ a → a ≤ b → b ≤ n → b - a ≤ m → row? rows bid = some (nums .i64 T) →
    Ret F 59 [.ptr bid 0, pt a b] rows = some (newL rows (tpl T m a b)) := by
  intro m
  induction m with
  | zero =>
    intro rows a b h0 h1 h2 h3 hr
    have : a = b := by omega
    subst this
    refine i59 F59 ?_
    simp [one_ret, tpl, newL, seg, -uc59s3, jc59s3]
  | succ m ih =>
    intro rows a b h0 h1 h2 h3 hr
    by_cases he : a = b
    · subst he
      refine i59 F59 ?_
      simp [one_ret, tpl, newL, seg, -uc59s3, jc59s3]
    · have hg := hT a b h0 (by omega) h2
      have e1 : idx? a 13 = some a.toNat := idx?_ok (by omega) (by omega)
      have e2 : idx? b 13 = some b.toNat := idx?_ok (by omega) (by omega)
      have e3 : (nums .i64 T)[169 + a.toNat * 13 + b.toNat]? = some (.int .i64 (gateT T a b)) := by
        have : (169 + 13 * a + b).toNat = 169 + a.toNat * 13 + b.toNat := by omega
        unfold gateT
        rw [this, nums_get, gI_get (by omega)]; rfl
      have hr2 : ∀ L, row? (rows ++ L) bid = some (nums .i64 T) := fun L => row?_old hr L
      have i1 := fun L => ih (rows ++ L) a (gateT T a b) h0 hg.1 (by omega) (by omega) (hr2 L)
      have i2 := fun L => ih (rows ++ L) (gateT T a b + 1) b (by omega) (by omega) h2 (by omega) (hr2 L)
      generalize hgt : gateT T a b = g at *
      refine i59 F59 ?_
      simp [one_ret, tpl, he, seg, -uc59s3, jc59s3]
      unfold Jc59s3
      simp (disch := first | omega | (simp; done) | fail) [seg, hr2, e1, e2, e3, -uc59k0]
      rw [uc59k0]
      simp (disch := first | omega | (simp; done) | fail) only [maskE_nil, List.append_nil, bnd_some, List.length_nil, Nat.add_zero, List.drop_left, List.map_cons, List.map_nil, List.nil_append, true_and]
      have t24 : (24 : Nat).testBit 1 = false := by decide
      have t60 : (60 : Nat).testBit 1 = false := by decide
      have t892a : (892 : Nat).testBit 1 = false := by decide
      have t892b : (892 : Nat).testBit 6 = true := by decide
      have t2044a : (2044 : Nat).testBit 1 = false := by decide
      have t2044b : (2044 : Nat).testBit 6 = true := by decide
      simp only [newL_eq] at i1 i2
      simp only [pt] at i1 i2
      simp (disch := first | omega | (simp; done) | fail) [fillA, splice, seg, left_ret, right_ret, i1, i2, maskE_cons, maskE_app, maskE_map, t24, t60, t892a, t892b, t2044a, t2044b, drop_app, drop_mapp, Nat.add_assoc, nlV_one, nlV_cells, -lowO, lowO_n]
      have hl1 := tpl_len hT m a g h0 hg.1 (by omega) (by omega)
      have hl2 := tpl_len hT m (g + 1) b (by omega) (by omega) h2 (by omega)
      rw [hgt]
      generalize tpl T m a g = l1 at *
      generalize tpl T m (g + 1) b = l2 at *
      cases l1 with
      | nil =>
        cases l2 with
        | nil =>
          simp [nlK, nlV, maskE_cons, -lowO]
          exact fin59 (l1 := []) (l2 := []) rfl (by unfold row?; simp) isl1 IsL_nil IsL_nil (by simp) (by simp)
        | cons y l2 =>
          simp [nlK, nlV, maskE_cons, -lowO]
          exact fin59 (l1 := []) (l2 := y :: l2) rfl (by unfold row?; simp) isl1 IsL_nil isl2 (by simp) (by rw [hl2]; omega)
      | cons x l1 =>
        cases l2 with
        | nil =>
          simp [nlK, nlV, maskE_cons, -lowO]
          exact fin59 (l1 := x :: l1) (l2 := []) (by simp) (by unfold row?; simp) isl1 isl2 IsL_nil (by rw [hl1]; omega) (by simp)
        | cons y l2 =>
          simp [nlK, nlV, maskE_cons, -lowO]
          exact fin59 (l1 := x :: l1) (l2 := y :: l2) (by simp) (by unfold row?; simp) isl1 isl2 isl3 (by rw [hl1]; omega) (by rw [hl2]; omega)
end Go.Abs

set_option linter.unusedVariables false
set_option linter.unusedSimpArgs false
namespace Go.Abs
open Rd (Cp IsL_one IsL_cells IsL_tail lowO_n)
/-- The reference's 'opened'. -/
def opn (p : List Int) : Nat → Nat → Int → Int → Option (List (List Int) × Nat)
  | m, at_, a, b =>
    if a = b then some ([[]], at_) else
    match m with
    | 0 => none
    | m + 1 =>
      if at_ < p.length ∧ a ≤ gI p at_ ∧ gI p at_ < b then
        match opn p m (at_ + 1) a (gI p at_) with
        | none => none
        | some (x, n1) =>
          match opn p m n1 (gI p at_ + 1) b with
          | none => none
          | some (y, n2) => some ((x ++ y).map (gI p at_ :: ·), n2)
      else none
theorem opn_len {p : List Int} : ∀ (m at_ : Nat) (a b : Int) (ls : List (List Int)) (n : Nat), opn p m at_ a b = some (ls, n) → a ≤ b → at_ ≤ p.length → at_ ≤ n ∧ n ≤ p.length ∧ (ls.length : Int) = b - a + 1 ∧ ∀ l ∈ ls, (l.length : Int) ≤ b - a ∧ ∀ g ∈ l, a ≤ g ∧ g < b := by
  intro m
  induction m with
  | zero =>
    intro at_ a b ls n h hab hat
    unfold opn at h
    by_cases he : a = b
    · subst he
      simp only [if_true, Option.some.injEq, Prod.mk.injEq] at h
      obtain ⟨rfl, rfl⟩ := h
      refine ⟨by omega, hat, by simp, fun l hl => ?_⟩
      simp only [List.mem_singleton] at hl
      subst hl
      simp
    · simp [he] at h
  | succ m ih =>
    intro at_ a b ls n h hab hat
    unfold opn at h
    by_cases he : a = b
    · subst he
      simp only [if_true, Option.some.injEq, Prod.mk.injEq] at h
      obtain ⟨rfl, rfl⟩ := h
      refine ⟨by omega, hat, by simp, fun l hl => ?_⟩
      simp only [List.mem_singleton] at hl
      subst hl
      simp
    · simp only [he, if_false] at h
      split at h
      · rename_i hc
        cases hx : opn p m (at_ + 1) a (gI p at_) with
        | none => simp [hx] at h
        | some q1 =>
          obtain ⟨x, n1⟩ := q1
          simp only [hx] at h
          cases hy : opn p m n1 (gI p at_ + 1) b with
          | none => simp [hy] at h
          | some q2 =>
            obtain ⟨y, n2⟩ := q2
            simp only [hy, Option.some.injEq, Prod.mk.injEq] at h
            obtain ⟨rfl, rfl⟩ := h
            have i1 := ih _ _ _ _ _ hx hc.2.1 (by omega)
            have i2 := ih _ _ _ _ _ hy (by omega) i1.2.1
            refine ⟨by omega, i2.2.1, by simp; omega, fun l hl => ?_⟩
            obtain ⟨l', hl', rfl⟩ := List.mem_map.1 hl
            rcases List.mem_append.1 hl' with hl' | hl'
            · have := i1.2.2.2 l' hl'
              refine ⟨by simp; omega, fun g hg => ?_⟩
              rcases List.mem_cons.1 hg with rfl | hg
              · exact ⟨by omega, by omega⟩
              · have := this.2 g hg; omega
            · have := i2.2.2.2 l' hl'
              refine ⟨by simp; omega, fun g hg => ?_⟩
              rcases List.mem_cons.1 hg with rfl | hg
              · exact ⟨by omega, by omega⟩
              · have := this.2 g hg; omega
      · simp at h
end Go.Abs

set_option linter.unusedVariables false
set_option linter.unusedSimpArgs false
namespace Go.Abs
open Rd (Cp IsL_one IsL_cells IsL_tail lowO_n)
def Und (B H : List Row) : Prop := ∀ y ∈ H, y.under (B.length + H.length) = true
theorem und_mono {y : Row} {a b : Nat} (h : y.under a = true) (hab : a ≤ b) : y.under b = true := Sh.runder_mono hab h
end Go.Abs

set_option linter.unusedVariables false
set_option linter.unusedSimpArgs false
namespace Go.Abs
open Rd (Cp IsL_one IsL_cells IsL_tail lowO_n)
/-- The reference's Opened. -/
def opnAll (p : List Int) (n : Nat) : Option (List (List Int)) := match opn p n 0 0 n with
  | some (ls, k) => if k = p.length then some ls else none
  | none => none
end Go.Abs

set_option linter.unusedVariables false
set_option linter.unusedSimpArgs false
namespace Go.Abs
open Rd (Cp IsL_one IsL_cells IsL_tail lowO_n)
section
variable {rows T : List Row} {r : AV × List Row × Nat → Prop}
/-- A gate's cost is added to the pieces from a to b. -/
def addP (c : List Int) (f : Nat → Int) (g a b : Int) : Nat → Int := fun j => if a ≤ (j : Int) ∧ (j : Int) ≤ b then IntKind.i64.wrap (f j + gI c g.toNat) else f j
set_option maxHeartbeats 4000000 in
theorem prices_in {cv : AV} {c : List Int} {n N : Nat} {a b g : Int} (h : IsL rows cv c) (hn : n ≤ 12) (hg0 : 0 ≤ g) (hg : g < c.length) (ha : 0 ≤ a) (hb : b ≤ n)
    (hN : ∀ o s, row? (rows ++ (.cells [cv] :: o :: s :: T)) N = some [.int .i64 a, .int .i64 b]) : ∀ (m : Nat) (i : Nat) (f : Nat → Int) (low : Nat), (b + 1 - i).toNat = m → (i : Int) ≤ b + 1 → rows.length + 1 ≤ low →
    r (.tup [], rows ++ (.cells [cv] :: .cells (nums .i64 (tab (n + 1) (addP c f g i b))) :: .cells [.slice (rows.length + 1) 0 (n + 1) (.at_ (n + 1))] :: T), if (i : Int) ≤ b then rows.length + 1 else low) →
    Lc88l0 F (.fn []) (.int .i64 g) (.ptr (rows.length + 2) 0) (.ptr rows.length 0) (.ptr N 0) (.int .i64 i) (rows ++ (.cells [cv] :: .cells (nums .i64 (tab (n + 1) f)) :: .cells [.slice (rows.length + 1) 0 (n + 1) (.at_ (n + 1))] :: T)) low r := by
  intro m
  induction m with
  | zero =>
    intro i f low hm h1 hlow hr
    have hi : ¬ ((i : Int) ≤ b) := by omega
    have e : tab (n + 1) (addP c f g i b) = tab (n + 1) f := tab_congr fun j _ => by unfold addP; rw [if_neg (by omega)]
    rw [e, if_neg hi] at hr
    unfold Lc88l0
    simp [hN, hi]
    exact hr
  | succ m ih =>
    intro i f low hm h1 hlow hr
    have hi : (i : Int) ≤ b := by omega
    have hin : i < n + 1 := by omega
    have w1 : IntKind.i64.wrap ((i : Int) + 1) = i + 1 := wrap64 (by omega) (by omega)
    have hlw : lower low (rows.length + 1) = rows.length + 1 := by unfold lower; split <;> omega
    unfold Lc88l0
    simp (disch := first | omega | (simp; done) | fail) [hN, hi, hin, idxL h, loadL h, w1, hlw]
    have := ih (i + 1) (fun j => if j = i then IntKind.i64.wrap (f i + gI c g.toNat) else f j) (rows.length + 1) (by omega) (by omega) (Nat.le_refl _) (by
      rw [if_pos hi] at hr
      have e : tab (n + 1) (addP c (fun j => if j = i then IntKind.i64.wrap (f i + gI c g.toNat) else f j) g ((i + 1 : Nat) : Int) b) = tab (n + 1) (addP c f g i b) := tab_congr fun j _ => by
        unfold addP
        dsimp only
        by_cases e1 : j = i
        · subst e1
          rw [if_neg (by omega), if_pos rfl, if_pos (by omega)]
        · rw [if_neg e1]
          by_cases e2 : ((i + 1 : Nat) : Int) ≤ j ∧ (j : Int) ≤ b
          · rw [if_pos e2, if_pos (by omega)]
          · rw [if_neg e2, if_neg (by omega)]
      rw [e]
      split <;> exact hr)
    rw [tab_set]
    simpa using this

/-- Prices: what 'read' is given. -/
def DP (rows : List Row) (cv : AV) (c : List Int) : Rd (Nat → Int) (Nat → Int) where
  R0 := rows ++ [.cells [cv]]
  E f := [.cells (nums .i64 (tab (c.length + 1) f)), .cells [.slice (rows.length + 1) 0 (c.length + 1) (.at_ (c.length + 1))]]
  eN := 2
  nb := c.length
  lo := rows.length
  own _ := []
  fid := 88
  cs := [.ptr (rows.length + 2) 0, .ptr rows.length 0]
  st := addP c
  P t s h := t = s ∧ rows.length + 2 ≤ h.length
  B _ _ := True
theorem DP_H (rows : List Row) (cv : AV) (c : List Int) (f : Nat → Int) (pv w : AV) (G : List Row) : (DP rows cv c).H f pv w G = rows ++ (.cells [cv] :: .cells (nums .i64 (tab (c.length + 1) f)) :: .cells [.slice (rows.length + 1) 0 (c.length + 1) (.at_ (c.length + 1))] :: ((DP rows cv c).Q pv w ++ G)) := by
  simp [Rd.H, DP]
theorem DP_ok {cv : AV} {c : List Int} (h : IsL rows cv c) (hn : c.length ≤ 12) : (DP rows cv c).OK := by
  refine ⟨fun _ _ _ _ _ _ => trivial, fun _ _ _ _ _ => trivial, hn, by simp [DP], ?_, ?_, ?_, ?_, ?_, ?_, ?_⟩
  · intro t s h i hP hi; simp [DP] at hi
  · intro s; rfl
  · intro t s h L hP; exact ⟨hP.1, by simp; exact Nat.le_trans hP.2 (by omega)⟩
  · intro t s pv pv' w G hP
    refine ⟨hP.1, ?_⟩
    have := hP.2
    rw [DP_H] at this ⊢
    simp [Rd.Q] at this ⊢
  · intro t s h b hP hb hu
    refine ⟨hP.1, ?_⟩
    have := hP.2
    simp [DP, Row.under, AV.under] at hu
    simp
    omega
  · intro t s h hP
    have := hP.2
    simp [DP, Row.under, AV.under]
    omega
  · intro t s pv w G g a b hP _ h0 ha hg hb
    obtain ⟨rfl, hlen⟩ := hP
    have hb' : b ≤ (c.length : Int) := hb
    obtain ⟨i, rfl⟩ : ∃ i : Nat, a = i := ⟨a.toNat, by omega⟩
    have hl := DP_H rows cv c t pv w G
    have hN : ∀ o s, row? (rows ++ (.cells [cv] :: o :: s :: ((DP rows cv c).Q pv w ++ G ++ [.cells [.int .i64 i, .int .i64 b]]))) ((DP rows cv c).H t pv w G).length = some [.int .i64 i, .int .i64 b] := by
      intro o s
      have e : rows ++ (.cells [cv] :: o :: s :: ((DP rows cv c).Q pv w ++ G ++ [.cells [.int .i64 i, .int .i64 b]])) = (rows ++ (.cells [cv] :: o :: s :: ((DP rows cv c).Q pv w ++ G))) ++ [.cells [.int .i64 i, .int .i64 b]] := by simp
      rw [e]
      exact rowA0 (by rw [hl]; simp)
    have hlt : rows.length + 1 < ((DP rows cv c).H t pv w G).length := by rw [hl]; simp [Rd.Q]
    have hloop := fun r hr => prices_in (r := r) (T := (DP rows cv c).Q pv w ++ G ++ [.cells [.int .i64 i, .int .i64 b]]) h hn (by omega : 0 ≤ g) (by omega) h0 hb' hN _ i t ((DP rows cv c).H t pv w G).length rfl (by omega) (by omega) hr
    have hfin : ∃ G', fin ((DP rows cv c).H t pv w G) (.tup []) ((DP rows cv c).H (addP c t g i b) pv w (G ++ [.cells [.int .i64 i, .int .i64 b]])) (rows.length + 1) = (.tup [], (DP rows cv c).H (addP c t g i b) pv w G', some (rows.length + 1)) ∧ ∃ L, G' = G ++ L := by
      rw [fin_lt (by omega)]
      rcases gc_cases ((DP rows cv c).H t pv w G).length (rows.length + 1) (.tup []) ((DP rows cv c).H (addP c t g i b) pv w (G ++ [.cells [.int .i64 i, .int .i64 b]])) with e | ⟨e, _⟩
      · exact ⟨_, by rw [e], _, rfl⟩
      · refine ⟨G, ?_, [], by simp⟩
        rw [e]
        have e2 : ((DP rows cv c).H (addP c t g i b) pv w (G ++ [.cells [.int .i64 i, .int .i64 b]])) = (DP rows cv c).H (addP c t g i b) pv w G ++ [.cells [.int .i64 i, .int .i64 b]] := by simp [Rd.H]
        rw [e2, List.take_append_of_le_length (by rw [hl, DP_H]; simp), List.take_of_length_le (by rw [hl, DP_H]; simp)]
    obtain ⟨G', hf, L, hL⟩ := hfin
    refine ⟨addP c t g i b, G', some (rows.length + 1), ?_, ⟨rfl, ?_⟩, ⟨?_, ?_, fun i hi => by simp [DP] at hi⟩, .inr ⟨_, rfl, by simp [DP], by simp [DP]⟩⟩
    · show Ret F 88 [.int .i64 g, pt i b, .ptr (rows.length + 2) 0, .ptr rows.length 0] _ = _
      refine i88 F88 ?_
      simp [seg]
      have := hloop (fun r => fin ((DP rows cv c).H t pv w G) r.1 r.2.1 r.2.2 = (.tup [], (DP rows cv c).H (addP c t g i b) pv w G', some (rows.length + 1))) (by
        rw [if_pos (by omega)]
        rw [← hf, DP_H rows cv c (addP c t g i b)]
        simp)
      rw [hl] at this ⊢
      simpa using this
    · rw [DP_H]; simp
    · rw [hL, hl, DP_H]; simp
    · intro j hj1 hj2 _
      rw [hL, hl, DP_H]
      rw [hl] at hj1
      have hA : (DP rows cv c).A = rows.length + 3 := by simp [Rd.A, DP]
      have e3 : ∀ o, ∀ L' : List Row, (rows ++ (.cells [cv] :: .cells o :: .cells [.slice (rows.length + 1) 0 (c.length + 1) (.at_ (c.length + 1))] :: L'))[j]? = L'[j - (rows.length + 3)]? := by
        intro o L'
        rw [List.getElem?_append_right (by omega), show j - rows.length = (j - (rows.length + 3)) + 3 from by omega]
        rfl
      rw [e3, e3, ← List.append_assoc, List.getElem?_append_left]
      simp at hj1 ⊢
      omega

/-- What prices comes to: none, if it is no plan. -/
def pricesF (c l : List Int) : Option (Nat → Int) :=
  match rdP (addP c) c.length 0 c.length l (fun _ => 0) with
  | (true, [], f) => some f
  | _ => none
set_option maxHeartbeats 2000000 in
/-- search.prices. -/
theorem prices_ret {cv pv : AV} {c l : List Int} (hc : IsL rows cv c) (hn : c.length ≤ 12) (hl : IsL rows pv l) (hp : Cp 1 pv) : Ret F 61 [cv, pv] rows = some (match pricesF c l with
    | some f => (.slice rows.length 0 (c.length + 1) (.at_ (c.length + 1)), rows ++ [.cells (nums .i64 (tab (c.length + 1) f))], none)
    | none => (.nilslice, rows, none)) := by
  have hR0 : (DP rows cv c).R0 = rows ++ [.cells [cv]] := rfl
  obtain ⟨s', G', d, hr, hP, hd⟩ := Rd.read_ret (DP_ok hc hn) (n := c.length) (Nat.le_refl _) (l := l) (t := fun _ => 0) (s := fun _ => 0) (pv := pv) (by rw [hR0]; exact IsL_app hl _) hp ⟨rfl, by simp [DP]⟩ trivial
  have hz : (DP rows cv c).R0 ++ (DP rows cv c).E (fun _ => 0) = rows ++ [.cells [cv], .cells (nums .i64 (tab (c.length + 1) fun _ => 0)), .cells [.slice (rows.length + 1) 0 (c.length + 1) (.at_ (c.length + 1))]] := by simp [DP]
  have hs : (DP rows cv c).R0 ++ (DP rows cv c).E s' ++ G' = rows ++ (.cells [cv] :: .cells (nums .i64 (tab (c.length + 1) s')) :: .cells [.slice (rows.length + 1) 0 (c.length + 1) (.at_ (c.length + 1))] :: G') := by simp [DP]
  rw [hz, hs] at hr
  have hs' := hP.1
  have hlow : lowO rows.length d = rows.length := by
    rcases hd with ⟨rfl, _⟩ | ⟨lw, rfl, h1, _⟩
    · rfl
    · exact lower_ge h1
  have e0 : tab (c.length + 1) (fun _ => 0) = List.replicate (c.length + 1) 0 := by simp [tab, List.map_const']
  rw [e0] at hr
  have hone := IsL_one hc
  have hcell := IsL_cells hc
  have wl : IntKind.i64.wrap ((c.length : Int) + 1) = c.length + 1 := wrap64 (by omega) (by omega)
  have hl1 : (c.length : Int) + 1 ≤ 1073741824 := by omega
  have hl0 : 0 ≤ (c.length : Int) + 1 := by omega
  have hwh : ∀ L, Ret F 60 [cv] (rows ++ L) = some (pt 0 c.length, rows ++ L, none) := fun L => whole_ret (IsL_app hc L)
  have hr' : Ret F 62 [pv, pt 0 c.length, .func 88 [.ptr (rows.length + 2) 0, .ptr rows.length 0]] (rows ++ [.cells [cv], .cells (nums .i64 (List.replicate (c.length + 1) 0)), .cells [.slice (rows.length + 1) 0 (c.length + 1) (.at_ (c.length + 1))]]) = _ := hr
  unfold pricesF
  refine i61 F61 ?_
  have hst : (DP rows cv c).st = addP c := rfl
  rw [hst] at hr' hs'
  generalize rdP (addP c) c.length 0 c.length l (fun _ => 0) = r1 at *
  obtain ⟨ok, l1, f⟩ := r1
  simp only at hs' hr' ⊢
  subst hs'
  cases ok with
  | false =>
    simp [-lowO, lowO_n, hone, hcell, lenL hc, wl, lim, hl1, hl0, nums_rep, hwh, hr', hlow]
  | true =>
    cases l1 with
    | nil =>
      simp [-lowO, lowO_n, hone, hcell, lenL hc, wl, lim, hl1, hl0, nums_rep, hwh, hr', hlow]
      exact fin_slice (k := 1) rfl nums_ids
    | cons x y =>
      simp [-lowO, lowO_n, hone, hcell, lenL hc, wl, lim, hl1, hl0, nums_rep, hwh, hr', hlow]

/-- search.Prices, of costs that are right. -/
theorem Prices_ret {cv pv : AV} {c l : List Int} (hc : IsL rows cv c) (hn : c.length ≤ 12) (hall : (c.all fun x => decide (1 ≤ x ∧ x ≤ 1000)) = true) (hl : IsL rows pv l) (hp : Cp 1 pv) : Ret F 29 [cv, pv] rows = some (match pricesF c l with
    | some f => (.tup [.slice rows.length 0 (c.length + 1) (.at_ (c.length + 1)), .int .i64 0], rows ++ [.cells (nums .i64 (tab (c.length + 1) f))], none)
    | none => (.tup [.nilslice, .int .i64 1], rows, none)) := by
  have h1 := Check_ret hc (by omega)
  rw [if_pos ⟨hn, hall⟩] at h1
  have h2 := prices_ret hc hn hl hp
  refine i29 F29 ?_
  cases e : pricesF c l with
  | none =>
    rw [e] at h2
    simp [h1, h2]
  | some f =>
    rw [e] at h2
    simp [h1, h2]
    exact fin_slice_int (k := 0) rfl nums_ids
end
end Go.Abs

set_option linter.unusedVariables false
set_option linter.unusedSimpArgs false
namespace Go.Abs
theorem drop_eq {p : List Int} {k : Nat} (h : k < p.length) : p.drop k = gI p k :: p.drop (k + 1) := by
  rw [List.drop_eq_getElem_cons h, gI_eq h]
theorem gLL_map {ls : List (List Int)} {g : Int} {i : Nat} (h : i < ls.length) : gLL (ls.map (g :: ·)) i = g :: gLL ls i := by
  simp [gLL, h]
theorem gLL_app1 {x y : List (List Int)} {i : Nat} (h : i < x.length) : gLL (x ++ y) i = gLL x i := by
  simp [gLL, List.getElem?_append_left h]
theorem gLL_app2 {x y : List (List Int)} {i : Nat} (h : x.length ≤ i) : gLL (x ++ y) i = gLL y (i - x.length) := by
  simp [gLL, List.getElem?_append_right h]
theorem opn_rdP {p c : List Int} (hcs : ∀ x ∈ c, 0 ≤ x ∧ x ≤ 1000) : ∀ (m at_ : Nat) (a b : Int) (t : Nat → Int), 0 ≤ a → a ≤ b → at_ ≤ p.length → b - a ≤ m → (∀ i : Nat, a ≤ i → (i : Int) ≤ b → 0 ≤ t i ∧ t i ≤ 1000000 - 1000 * m) → m ≤ 100 →
    match opn p m at_ a b with
    | none => (rdP (addP c) m a b (p.drop at_) t).1 = false
    | some (ls, n) => ∃ t', rdP (addP c) m a b (p.drop at_) t = (true, p.drop n, t') ∧ ∀ i : Nat, t' i = if a ≤ i ∧ i ≤ b then t i + sumG c (gLL ls (i - a).toNat) else t i := by
  intro m
  have base : ∀ (at_ : Nat) (a : Int) (t : Nat → Int), 0 ≤ a → ∀ i : Nat, t i = if a ≤ (i : Int) ∧ (i : Int) ≤ a then t i + sumG c (gLL [[]] ((i : Int) - a).toNat) else t i := by
    intro at_ a t h0 i
    split
    · rw [show ((i : Int) - a).toNat = 0 from by omega]
      simp [gLL, sumG]
    · rfl
  induction m with
  | zero =>
    intro at_ a b t h0 h1 h2 h3 hb hm
    have : a = b := by omega
    subst this
    unfold opn
    simp only [if_true]
    exact ⟨t, rfl, base at_ a t h0⟩
  | succ m ih =>
    intro at_ a b t h0 h1 h2 h3 hb hm
    unfold opn
    by_cases he : a = b
    · subst he
      simp only [if_true]
      exact ⟨t, by simp [rdP], base at_ a t h0⟩
    · simp only [he, if_false]
      by_cases hc : at_ < p.length ∧ a ≤ gI p at_ ∧ gI p at_ < b
      · rw [if_pos hc]
        have hr : ∀ t, rdP (addP c) (m + 1) a b (p.drop at_) t = match rdP (addP c) m a (gI p at_) (p.drop (at_ + 1)) (addP c t (gI p at_) a b) with
          | (false, l', t') => (false, l', t')
          | (true, l', t') => rdP (addP c) m (gI p at_ + 1) b l' t' := by
          intro t
          rw [drop_eq hc.1]
          simp only [rdP, he, if_false]
          rw [if_neg (by omega)]
          rcases rdP (addP c) m a (gI p at_) (p.drop (at_ + 1)) (addP c t (gI p at_) a b) with ⟨z1, z2, z3⟩
          cases z1 <;> rfl
        have hc1 : 0 ≤ gI c (gI p at_).toNat ∧ gI c (gI p at_).toNat ≤ 1000 := by
          by_cases hk : (gI p at_).toNat < c.length
          · exact hcs _ (gI_mem hk)
          · have e0 : gI c (gI p at_).toNat = 0 := by
              unfold gI
              rw [List.getD_eq_getElem?_getD, List.getElem?_eq_none (by unfold gI at hk; omega)]; rfl
            rw [e0]; omega
        have hadd : ∀ i : Nat, a ≤ (i : Int) → (i : Int) ≤ b → addP c t (gI p at_) a b i = t i + gI c (gI p at_).toNat := by
          intro i hi1 hi2
          have := hb i hi1 hi2
          simp only [addP, hi1, hi2, and_self, if_true]
          exact wrap64 (by omega) (by omega)
        have i1 := ih (at_ + 1) a (gI p at_) (addP c t (gI p at_) a b) h0 hc.2.1 (by omega) (by omega) (fun i hi1 hi2 => by
          rw [hadd i hi1 (by omega)]
          have := hb i hi1 (by omega)
          omega) (by omega)
        rw [hr]
        cases hx : opn p m (at_ + 1) a (gI p at_) with
        | none =>
          simp only [hx] at i1
          dsimp only
          generalize rdP (addP c) m a (gI p at_) (p.drop (at_ + 1)) (addP c t (gI p at_) a b) = z at *
          obtain ⟨z1, z2, z3⟩ := z
          simp only at i1
          subst i1
          rfl
        | some q1 =>
          obtain ⟨x, n1⟩ := q1
          simp only [hx] at i1
          dsimp only
          obtain ⟨t1, e1, f1⟩ := i1
          have l1 := opn_len _ _ _ _ _ _ hx hc.2.1 (by omega)
          rw [e1]
          have i2 := ih n1 (gI p at_ + 1) b t1 (by omega) (by omega) l1.2.1 (by omega) (fun i hi1 hi2 => by
            rw [f1, if_neg (by omega), hadd i (by omega) hi2]
            have := hb i (by omega) hi2
            omega) (by omega)
          cases hy : opn p m n1 (gI p at_ + 1) b with
          | none =>
            simp only [hy] at i2
            dsimp only
            exact i2
          | some q2 =>
            obtain ⟨y, n2⟩ := q2
            simp only [hy] at i2
            dsimp only
            obtain ⟨t2, e2, f2⟩ := i2
            have l2 := opn_len _ _ _ _ _ _ hy (by omega) l1.2.1
            refine ⟨t2, e2, fun i => ?_⟩
            have hx1 := l1.2.2.1
            have hy1 := l2.2.2.1
            rw [f2, f1]
            by_cases hi : a ≤ (i : Int) ∧ (i : Int) ≤ b
            · rw [if_pos hi, gLL_map (by simp; omega)]
              by_cases h4 : (i : Int) ≤ gI p at_
              · rw [if_neg (by omega), if_pos ⟨hi.1, h4⟩, gLL_app1 (by omega)]
                rw [hadd i hi.1 hi.2]
                simp only [sumG, List.map_cons, List.sum_cons]
                omega
              · rw [if_pos (by omega), if_neg (by omega), gLL_app2 (by omega), show ((i : Int) - a).toNat - x.length = ((i : Int) - (gI p at_ + 1)).toNat from by omega]
                rw [hadd i hi.1 hi.2]
                simp only [sumG, List.map_cons, List.sum_cons]
                omega
            · rw [if_neg hi, if_neg (by omega), if_neg (by omega)]
              simp [addP, hi]
      · rw [if_neg hc]
        dsimp only
        by_cases h5 : at_ < p.length
        · rw [drop_eq h5]
          simp only [rdP, he, if_false]
          rw [if_pos (by omega)]
        · rw [List.drop_eq_nil_of_le (by omega)]
          simp [rdP, he]
theorem pricesF_opn {p c : List Int} (hcs : ∀ x ∈ c, 0 ≤ x ∧ x ≤ 1000) (hn : c.length ≤ 12) :
    match opnAll p c.length with
    | none => pricesF c p = none
    | some ls => ∃ f, pricesF c p = some f ∧ ls.length = c.length + 1 ∧ ∀ i, i ≤ c.length → f i = sumG c (gLL ls i) := by
  have h := opn_rdP (p := p) hcs c.length 0 0 c.length (fun _ => 0) (by omega) (by omega) (by omega) (by omega) (fun i _ _ => by omega) (by omega)
  unfold opnAll pricesF
  rw [List.drop_zero] at h
  cases ho : opn p c.length 0 0 c.length with
  | none =>
    simp only [ho] at h
    dsimp only
    rcases hz : rdP (addP c) c.length 0 c.length p (fun _ => 0) with ⟨z1, z2, z3⟩
    rw [hz] at h
    simp only at h
    subst h
    rfl
  | some q =>
    obtain ⟨ls, k⟩ := q
    simp only [ho] at h
    obtain ⟨f, e, hf⟩ := h
    have hl := opn_len _ _ _ _ _ _ ho (by omega) (by omega)
    dsimp only
    rw [e]
    by_cases hk : k = p.length
    · rw [if_pos hk, hk, List.drop_length]
      dsimp only
      refine ⟨f, rfl, by have := hl.2.2.1; omega, fun i hi => ?_⟩
      rw [hf i, if_pos ⟨by omega, by omega⟩]
      simp
    · rw [if_neg hk]
      dsimp only
      have : p.drop k ≠ [] := fun e => hk (by have := List.drop_eq_nil_iff.1 e; have := hl.2.1; omega)
      cases hd : p.drop k with
      | nil => exact absurd hd this
      | cons z zs => rfl
end Go.Abs

set_option linter.unusedVariables false
set_option linter.unusedSimpArgs false
namespace Go.Abs
open Rd (Cp IsL_one IsL_cells IsL_tail lowO_n)
section
variable {rows : List Row}
theorem gates_ret {a b : Int} : Ret F 83 [pt a b] rows = some (.func 97 [.ptr rows.length 0], rows ++ [.cells [.int .i64 a, .int .i64 b]], none) := by
  refine i83 F83 ?_
  simp
  simp [fin, AV.ids, AV.ids.idsL, AV.plain1, AV.plain, AV.ren1, AV.ren]
theorem wprice_ret {c : List Int} {cv : AV} {a b g l r : Int} {cid : Nat} (hc : IsL rows cv c) (hr : row? rows cid = some [cv]) (h0 : 0 ≤ g) (hg : g < c.length) (hb : 0 ≤ gI c g.toNat ∧ gI c g.toNat ≤ 1000) (hl : 0 ≤ l ∧ l ≤ 200000000) (hr2 : 0 ≤ r ∧ r ≤ 200000000) :
    Ret F 58 [pt a b, .int .i64 g, .int .i64 l, .int .i64 r, .ptr cid 0] rows = some (.int .i64 (gI c g.toNat + max l r), rows, none) := by
  have hr' : ∀ L, row? (rows ++ L) cid = some [cv] := fun L => row?_old hr L
  have w : IntKind.i64.wrap (gI c g.toNat + max l r) = gI c g.toNat + max l r := wrap64 (by omega) (by omega)
  have hgn : g.toNat < c.length := by omega
  refine i58 F58 ?_
  simp (disch := first | omega | (simp; done) | fail) [hr', idxL hc, loadL hc, h0, hg, hgn, w]
end
end Go.Abs

set_option linter.unusedVariables false
set_option linter.unusedSimpArgs false
namespace Go.Abs
theorem gates_loop {sl : List AV} {asg body : ICode} {d : Nat} {L N : Nat} {a b : Int} {Inv : Int → List Row → Nat → Prop} (h0 : 0 ≤ a) (hb : b ≤ 1000)
    (hloop : ∀ g R low, Inv g R low → R[N]? = some (.loop .ready none sl [d] asg body) ∧ row? R L = some [.int .i64 a, .int .i64 b])
    (hbody : ∀ g R low, a ≤ g → g < b → Inv g R low → Ex F (.round N) [.code asg, .rfBegin, .code body] ⟨putL sl [d] [.int .i64 g], R, R.length⟩ fun q => q.1 = .bool true ∧ Inv (g + 1) (gc R.length (lower low q.2.2) q.1 q.2.1) (lower low q.2.2))
    {r : AV × List Row × Nat → Prop} (hend : ∀ R low, Inv b R low → r (.tup [], R, low)) : ∀ (n : Nat) (g : Int) (R : List Row) (low : Nat), (b - g).toNat = n → a ≤ g → g ≤ b → Inv g R low →
    Lc97l0 F (.fn []) (.yield N) (.ptr L 0) (.int .i64 g) R low r := by
  intro n
  induction n with
  | zero =>
    intro g R low hn h1 h2 hI
    have : g = b := by omega
    subst this
    obtain ⟨e1, e2⟩ := hloop _ _ _ hI
    unfold Lc97l0
    simp [e2]
    exact hend R low hI
  | succ n ih =>
    intro g R low hn h1 h2 hI
    have hg : g < b := by omega
    obtain ⟨e1, e2⟩ := hloop _ _ _ hI
    have w : IntKind.i64.wrap (g + 1) = g + 1 := wrap64 (by omega) (by omega)
    unfold Lc97l0
    simp (disch := first | omega | (simp; done) | fail) [e2, hg, w]
    rw [callK_y e1 rfl]
    obtain ⟨m, q, e, hq1, hq2⟩ := hbody g R low h1 hg hI
    refine ⟨m, q, e, ?_⟩
    exact .inr ⟨hq1, ih (g + 1) _ _ (by omega) (by omega) (by omega) hq2⟩
/-- A range over the gates of a part. -/
theorem gates_rf {res : List RV} {f : Opd} {k : List Itm} {sl : List AV} {asg body : ICode} {d : Nat} {L : Nat} {a b : Int} {rows : List Row} {low : Nat} {Inv : Int → List Row → Nat → Prop} {r : AV × List Row × Nat → Prop} (h0 : 0 ≤ a) (hab : a ≤ b) (hb : b ≤ 1000) (hf : getO sl f = .func 97 [.ptr L 0])
    (hL : row? (rows ++ [.loop .ready none sl [d] asg body]) L = some [.int .i64 a, .int .i64 b])
    (hstart : Inv a (rows ++ [.loop .ready none sl [d] asg body]) (rows.length + 1))
    (hloop : ∀ g R low, Inv g R low → R[rows.length]? = some (.loop .ready none sl [d] asg body) ∧ row? R L = some [.int .i64 a, .int .i64 b])
    (hbody : ∀ g R low, a ≤ g → g < b → Inv g R low → Ex F (.round rows.length) [.code asg, .rfBegin, .code body] ⟨putL sl [d] [.int .i64 g], R, R.length⟩ fun q => q.1 = .bool true ∧ Inv (g + 1) (gc R.length (lower low q.2.2) q.1 q.2.1) (lower low q.2.2))
    (hend : ∀ R lw, Inv b R lw → ∃ z, afterLoop rows.length low (fin (rows ++ [.loop .ready none sl [d] asg body]) (.tup []) R lw).2.1 (fin (rows ++ [.loop .ready none sl [d] asg body]) (.tup []) R lw).2.2 = some z ∧ Ex F (.fn res) (z.1 ++ k) ⟨sl, z.2.1, z.2.2⟩ r) :
    Ex F (.fn res) (.code (.rf f [d] asg body) :: k) ⟨sl, rows, low⟩ r := by
  rw [Ex_rf]
  refine ⟨rfl, (97, [.yield rows.length, .ptr L 0]), by rw [hf]; rfl, ?_⟩
  generalize hR0 : rows ++ [Row.loop .ready none sl [d] asg body] = R0 at *
  have hlen : R0.length = rows.length + 1 := by rw [← hR0]; simp
  refine Ret_mk' F97 (R := fun q => ∃ z, afterLoop rows.length low q.2.1 q.2.2 = some z ∧ Ex F (.fn res) (z.1 ++ k) ⟨sl, z.2.1, z.2.2⟩ r) (show Ex F (.fn []) [.code c97b] ⟨mk 17 [(0, .yield rows.length), (1, .ptr L 0)], R0, R0.length⟩ _ from ?_)
  have := gates_loop (sl := sl) (asg := asg) (body := body) (d := d) (L := L) (N := rows.length) h0 hb hloop hbody (r := fun x => (fun q => ∃ z, afterLoop rows.length low q.2.1 q.2.2 = some z ∧ Ex F (.fn res) (z.1 ++ k) ⟨sl, z.2.1, z.2.2⟩ r) (fin R0 x.1 x.2.1 x.2.2)) (fun R lw hI => hend R lw hI) _ a R0 R0.length rfl (by omega) hab (by rw [hlen]; exact hstart)
  simp [hL]
  simpa using this
end Go.Abs

set_option linter.unusedVariables false
set_option linter.unusedSimpArgs false
namespace Go.Abs
/-- A part's price and gate are written. -/
def setT (T : List Int) (a b v g : Int) : List Int := (T.set (13 * a + b).toNat v).set (169 + 13 * a + b).toNat g
theorem setT_len (T : List Int) (a b v g : Int) : (setT T a b v g).length = T.length := by simp [setT]
theorem gI_set {l : List Int} {i j : Nat} {v : Int} (h : i < l.length) : gI (l.set i v) j = if j = i then v else gI l j := by
  unfold gI
  rw [List.getD_eq_getElem?_getD, List.getD_eq_getElem?_getD, List.getElem?_set]
  by_cases e : j = i
  · subst e; simp [h]
  · simp [e, show ¬ i = j from fun e' => e e'.symm]
theorem prT_set {T : List Int} {a b v g c d : Int} (hT : T.length = 338) (ha : 0 ≤ a ∧ a ≤ 12) (hb : 0 ≤ b ∧ b ≤ 12) (hc : 0 ≤ c ∧ c ≤ 12) (hd : 0 ≤ d ∧ d ≤ 12) : prT (setT T a b v g) c d = if c = a ∧ d = b then v else prT T c d := by
  unfold prT setT
  rw [gI_set (by simp; omega), if_neg (by omega), gI_set (by omega)]
  by_cases e : c = a ∧ d = b
  · rw [if_pos e, if_pos (by rw [e.1, e.2])]
  · rw [if_neg e, if_neg (by omega)]
theorem gateT_set {T : List Int} {a b v g c d : Int} (hT : T.length = 338) (ha : 0 ≤ a ∧ a ≤ 12) (hb : 0 ≤ b ∧ b ≤ 12) (hc : 0 ≤ c ∧ c ≤ 12) (hd : 0 ≤ d ∧ d ≤ 12) : gateT (setT T a b v g) c d = if c = a ∧ d = b then g else gateT T c d := by
  unfold gateT setT
  rw [gI_set (by simp; omega)]
  by_cases e : c = a ∧ d = b
  · rw [if_pos e, if_pos (by rw [e.1, e.2])]
  · rw [if_neg e, if_neg (by omega), gI_set (by omega), if_neg (by omega)]
/-- A part's price is the best one. -/
def BestAt (P : Int → Int → Int → Int → Int → Int) (T : List Int) (a b : Int) : Prop :=
  a ≤ gateT T a b ∧ gateT T a b < b ∧ prT T a b = P a b (gateT T a b) (prT T a (gateT T a b)) (prT T (gateT T a b + 1) b) ∧ ∀ g, a ≤ g → g < b → prT T a b ≤ P a b g (prT T a g) (prT T (g + 1) b)
/-- What is done: the parts shorter than m, and those of length m that begin before s. -/
def Done (P : Int → Int → Int → Int → Int → Int) (T : List Int) (n m s : Int) : Prop :=
  ∀ a b, 0 ≤ a → a ≤ b → b ≤ n → (b - a < m ∨ (b - a = m ∧ a < s)) → (a = b → prT T a b = 0) ∧ (a < b → BestAt P T a b)
theorem Done_Good {P : Int → Int → Int → Int → Int → Int} {T : List Int} {n : Int} (h : Done P T n (n + 1) 0) : GoodT T n := by
  intro a b h0 h1 h2
  have := (h a b h0 (by omega) h2 (.inl (by omega))).2 h1
  exact ⟨this.1, this.2.1⟩
theorem BestAt_set {P : Int → Int → Int → Int → Int → Int} {T : List Int} {a b v g c d : Int} (hT : T.length = 338) (ha : 0 ≤ a ∧ a ≤ 12) (hb : 0 ≤ b ∧ b ≤ 12) (hc : 0 ≤ c) (hd : d ≤ 12) (hlen : c < d) (hsh : d - c ≤ b - a) (hne : ¬ (c = a ∧ d = b)) (h : BestAt P T c d) : BestAt P (setT T a b v g) c d := by
  obtain ⟨h1, h2, h3, h4⟩ := h
  have e1 : gateT (setT T a b v g) c d = gateT T c d := by rw [gateT_set hT ha hb ⟨hc, by omega⟩ ⟨by omega, hd⟩, if_neg hne]
  have e2 : prT (setT T a b v g) c d = prT T c d := by rw [prT_set hT ha hb ⟨hc, by omega⟩ ⟨by omega, hd⟩, if_neg hne]
  have e3 : ∀ x, c ≤ x → x < d → prT (setT T a b v g) c x = prT T c x := fun x x1 x2 => by rw [prT_set hT ha hb ⟨hc, by omega⟩ ⟨by omega, by omega⟩, if_neg (by omega)]
  have e4 : ∀ x, c ≤ x → x < d → prT (setT T a b v g) (x + 1) d = prT T (x + 1) d := fun x x1 x2 => by rw [prT_set hT ha hb ⟨by omega, by omega⟩ ⟨by omega, hd⟩, if_neg (by omega)]
  refine ⟨by rw [e1]; exact h1, by rw [e1]; exact h2, ?_, fun x x1 x2 => ?_⟩
  · rw [e1, e2, e3 _ h1 h2, e4 _ h1 h2]; exact h3
  · rw [e2, e3 x x1 x2, e4 x x1 x2]; exact h4 x x1 x2
/-- Writing a part that is not done yet leaves what is done. -/
theorem Done_set {P : Int → Int → Int → Int → Int → Int} {T : List Int} {n m s v g : Int} (hT : T.length = 338) (hn : n ≤ 12) (hm : 1 ≤ m) (hs : 0 ≤ s) (hsn : s + m ≤ n) (h : Done P T n m s) : Done P (setT T s (s + m) v g) n m s := by
  intro a b h0 h1 h2 h3
  have hd := h a b h0 h1 h2 h3
  have hne : ¬ (a = s ∧ b = s + m) := by omega
  refine ⟨fun e => ?_, fun e => ?_⟩
  · rw [prT_set hT ⟨hs, by omega⟩ ⟨by omega, by omega⟩ ⟨h0, by omega⟩ ⟨by omega, by omega⟩, if_neg hne]
    exact hd.1 e
  · exact BestAt_set hT ⟨hs, by omega⟩ ⟨by omega, by omega⟩ h0 (by omega) e (by omega) hne (hd.2 e)
/-- One part more. -/
theorem Done_next {P : Int → Int → Int → Int → Int → Int} {T : List Int} {n m s : Int} (hm : 1 ≤ m) (h : Done P T n m s) (hb : BestAt P T s (s + m)) : Done P T n m (s + 1) := by
  intro a b h0 h1 h2 h3
  by_cases e : a = s ∧ b = s + m
  · obtain ⟨rfl, rfl⟩ := e
    exact ⟨fun e => by omega, fun _ => hb⟩
  · exact h a b h0 h1 h2 (by omega)
/-- All parts of a length. -/
theorem Done_len {P : Int → Int → Int → Int → Int → Int} {T : List Int} {n m s : Int} (hs : n < s + m) (h : Done P T n m s) : Done P T n (m + 1) 0 := by
  intro a b h0 h1 h2 h3
  exact h a b h0 h1 h2 (by omega)
theorem Done_0 {P : Int → Int → Int → Int → Int → Int} {n : Int} (hn : n ≤ 12) : Done P (List.replicate 338 0) n 1 0 := by
  intro a b h0 h1 h2 h3
  have : a = b := by omega
  subst this
  refine ⟨fun _ => ?_, fun e => by omega⟩
  unfold prT gI
  rw [List.getD_eq_getElem?_getD, List.getElem?_replicate, if_pos (by omega)]
  rfl
/-- The best of the gates before g. -/
def BestTo (P : Int → Int → Int → Int → Int → Int) (T : List Int) (a b g : Int) : Prop :=
  g = a ∨ (a ≤ gateT T a b ∧ gateT T a b < g ∧ prT T a b = P a b (gateT T a b) (prT T a (gateT T a b)) (prT T (gateT T a b + 1) b) ∧ ∀ x, a ≤ x → x < g → prT T a b ≤ P a b x (prT T a x) (prT T (x + 1) b))
theorem BestTo_end {P : Int → Int → Int → Int → Int → Int} {T : List Int} {a b : Int} (hab : a < b) (h : BestTo P T a b b) : BestAt P T a b := by
  rcases h with h | h
  · omega
  · exact h
/-- A gate that is better, or the first. -/
theorem BestTo_set {P : Int → Int → Int → Int → Int → Int} {T : List Int} {a b g : Int} (hT : T.length = 338) (h0 : 0 ≤ a) (hb : b ≤ 12) (hg : a ≤ g) (hgb : g < b) (h : BestTo P T a b g) (hbet : g = a ∨ P a b g (prT T a g) (prT T (g + 1) b) ≤ prT T a b) : BestTo P (setT T a b (P a b g (prT T a g) (prT T (g + 1) b)) g) a b (g + 1) := by
  have e1 : ∀ v, gateT (setT T a b v g) a b = g := fun v => by rw [gateT_set hT ⟨h0, by omega⟩ ⟨by omega, hb⟩ ⟨h0, by omega⟩ ⟨by omega, hb⟩, if_pos ⟨rfl, rfl⟩]
  have e2 : ∀ v, prT (setT T a b v g) a b = v := fun v => by rw [prT_set hT ⟨h0, by omega⟩ ⟨by omega, hb⟩ ⟨h0, by omega⟩ ⟨by omega, hb⟩, if_pos ⟨rfl, rfl⟩]
  have e3 : ∀ v x, a ≤ x → x < b → prT (setT T a b v g) a x = prT T a x := fun v x x1 x2 => by rw [prT_set hT ⟨h0, by omega⟩ ⟨by omega, hb⟩ ⟨h0, by omega⟩ ⟨by omega, by omega⟩, if_neg (by omega)]
  have e4 : ∀ v x, a ≤ x → x < b → prT (setT T a b v g) (x + 1) b = prT T (x + 1) b := fun v x x1 x2 => by rw [prT_set hT ⟨h0, by omega⟩ ⟨by omega, hb⟩ ⟨by omega, by omega⟩ ⟨by omega, hb⟩, if_neg (by omega)]
  refine .inr ⟨by rw [e1]; exact hg, by rw [e1]; omega, ?_, fun x x1 x2 => ?_⟩
  · rw [e1, e2, e3 _ g hg hgb, e4 _ g hg hgb]
  · rw [e2, e3 _ x x1 (by omega), e4 _ x x1 (by omega)]
    by_cases hx : x = g
    · subst hx; omega
    · rcases h with h | ⟨_, _, _, h⟩
      · omega
      · have := h x x1 (by omega)
        rcases hbet with hbet | hbet <;> omega
/-- A gate that is no better. -/
theorem BestTo_skip {P : Int → Int → Int → Int → Int → Int} {T : List Int} {a b g : Int} (hg : g ≠ a) (h : BestTo P T a b g) (hbet : prT T a b ≤ P a b g (prT T a g) (prT T (g + 1) b)) : BestTo P T a b (g + 1) := by
  rcases h with h | ⟨h1, h2, h3, h4⟩
  · exact absurd h hg
  · refine .inr ⟨h1, by omega, h3, fun x x1 x2 => ?_⟩
    by_cases hx : x = g
    · subst hx; exact hbet
    · exact h4 x x1 (by omega)
end Go.Abs

set_option linter.unusedVariables false
set_option linter.unusedSimpArgs false
namespace Go.Abs
open Rd (Cp IsL_one IsL_cells IsL_tail lowO_n)
/-- A group with one store, whose other operations read alone. -/
theorem Ex_grpwQ {E : Nat → Option IFn} {cx : Ctx} {k : List Itm} {r : AV × List Row × Nat → Prop} {rows : List Row} {low n : Nat} {a y : Opd} {sz : Option Nat} {g : List (IOpx × Nat)} {l : List Seg} {sl : List (Nat × AV)} (hp : purePs g = true) :
    Ex E cx (.ops (.grpw a y sz g :: l) :: k) ⟨mk n sl, rows, low⟩ r ↔ runL E (gO n) pO (rows.set (rowOf rows (mk n sl) g a) .dead) low (fun sl' => ∃ r', stored (mk n sl') rows (rowOf rows (mk n sl) g a) a y sz = some r' ∧
      Ex E cx (.ops l :: k) ⟨mk n sl', rows.set (rowOf rows (mk n sl) g a) r', lower low (rowOf rows (mk n sl) g a)⟩ r) g sl := by
  rw [Ex_grpwR]
  generalize rowOf rows (mk n sl) g a = R
  have h1 : (∃ q, evalG (Ret E) (rows.set R .dead) 0 g (mk n sl) [] = some q ∧ ∃ r', stored q.1 rows R a y sz = some r' ∧ Ex E cx (.ops l :: k) ⟨q.1, rows.set R r' ++ q.2.map (·.2), lower low R⟩ r) ↔
      bnd (evalG (Ret E) (rows.set R .dead) 0 g (mk n sl) []) fun q => (fun sl' rows' => ∃ r', stored sl' rows R a y sz = some r' ∧ Ex E cx (.ops l :: k) ⟨sl', rows.set R r' ++ List.drop (rows.set R .dead).length rows', lower low R⟩ r) q.1 (rows.set R .dead ++ q.2.map (·.2)) := by
    simp only [bnd, List.drop_left]
  rw [h1, runG_ok (K := fun sl' rows' => ∃ r', stored sl' rows R a y sz = some r' ∧ Ex E cx (Itm.ops l :: k) ⟨sl', rows.set R r' ++ List.drop (rows.set R Row.dead).length rows', lower low R⟩ r), runL_ok (low := low) g 0 _ hp]
  refine runL_tr (f := mk n) (gO_ok n) (pO_ok n) ?_ g sl
  intro t
  have : List.drop rows.length (rows.set R Row.dead) = [] := List.drop_of_length_le (by simp)
  simp [this]
/-- What 'filled' holds while it works. -/
def TB (rows : List Row) (pv : AV) (T : List Int) (B : List Row) : Prop := ∃ G, B = rows ++ (.cells [pv] :: .cells (nums .i64 T) :: .cells [.ptr (rows.length + 1) 0] :: G)
section
variable {rows B : List Row} {pv : AV} {T T' : List Int}
theorem TB.len (h : TB rows pv T B) : rows.length + 3 ≤ B.length := by obtain ⟨G, rfl⟩ := h; simp <;> omega
theorem TB.app (h : TB rows pv T B) (L : List Row) : TB rows pv T (B ++ L) := by obtain ⟨G, rfl⟩ := h; exact ⟨G ++ L, by simp⟩
theorem TB.g0 (h : TB rows pv T B) : row? B rows.length = some [pv] := by obtain ⟨G, rfl⟩ := h; simp
theorem TB.g1 (h : TB rows pv T B) : row? B (rows.length + 1) = some (nums .i64 T) := by obtain ⟨G, rfl⟩ := h; rw [row?_at]; rfl
theorem TB.g2 (h : TB rows pv T B) : row? B (rows.length + 2) = some [.ptr (rows.length + 1) 0] := by obtain ⟨G, rfl⟩ := h; rw [row?_at]; rfl
theorem TB.c1 (h : TB rows pv T B) : B[rows.length + 1]? = some (.cells (nums .i64 T)) := by obtain ⟨G, rfl⟩ := h; rw [rows_at]; rfl
theorem TB.set (h : TB rows pv T B) : TB rows pv T' (B.set (rows.length + 1) (.cells (nums .i64 T'))) := by obtain ⟨G, rfl⟩ := h; exact ⟨G, by rw [rows_set]; rfl⟩
theorem TB.setN (h : TB rows pv T B) {n : Nat} {x : Row} (hn : rows.length + 3 ≤ n) : TB rows pv T (B.set n x) := by
  obtain ⟨G, rfl⟩ := h
  obtain ⟨m, rfl⟩ : ∃ m, n = rows.length + (m + 3) := ⟨n - rows.length - 3, by omega⟩
  exact ⟨G.set m x, by rw [rows_set]; rfl⟩
theorem TB.take (h : TB rows pv T B) {n : Nat} (hn : rows.length + 3 ≤ n) : TB rows pv T (B.take n) := by
  obtain ⟨G, rfl⟩ := h
  obtain ⟨m, rfl⟩ : ∃ m, n = rows.length + (m + 3) := ⟨n - rows.length - 3, by omega⟩
  exact ⟨G.take m, by rw [List.take_append, List.take_of_length_le (by omega)]; simp⟩
theorem row?_ne {i j : Nat} {x : Row} (h : i ≠ j) : row? (B.set j x) i = row? B i := by
  unfold row?; rw [List.getElem?_set_ne (fun e => h e.symm)]
end
set_option maxHeartbeats 4000000 in
theorem k8_ok {rows R : List Row} {pv : AV} {T : List Int} {cx : Ctx} {k : List Itm} {r : AV × List Row × Nat → Prop} {sl : List (Nat × AV)} {low N8 : Nat} {a b v g : Int} (hTB : TB rows pv T R) (hT : T.length = 338) (h8 : row? R N8 = some [.int .i64 a, .int .i64 b]) (hN : N8 ≠ rows.length + 1)
    (s5 : lk sl 5 = .ptr (rows.length + 2) 0) (s8 : lk sl 8 = .ptr N8 0) (s13 : lk sl 13 = .int .i64 v) (s10 : lk sl 10 = .int .i64 g) (ha : 0 ≤ a ∧ a ≤ 12) (hb : 0 ≤ b ∧ b ≤ 12) :
    Ex F cx (.code c57k8 :: .code c57k7 :: k) ⟨mk 102 sl, R, low⟩ r ↔ bnd (evE (R.set (rows.length + 1) (.cells (nums .i64 (setT T a b v g)))) (lower low (rows.length + 1)) (.store1 (.c (lk sl 9)) (.c (.bool false)))) fun q0 => Ex F cx k ⟨mk 102 [(9, lk sl 9)], q0.2.1, q0.2.2⟩ r := by
  have e5 : row? (R.set (rows.length + 1) .dead) (rows.length + 2) = some [.ptr (rows.length + 1) 0] := by rw [row?_ne (by omega)]; exact hTB.g2
  have e8 : row? (R.set (rows.length + 1) .dead) N8 = some [.int .i64 a, .int .i64 b] := by rw [row?_ne hN]; exact h8
  have i1 : idx? a 13 = some a.toNat := idx?_ok (by omega) (by omega)
  have i2 : idx? b 13 = some b.toNat := idx?_ok (by omega) (by omega)
  have hrow : ∀ l, lk l 5 = .ptr (rows.length + 2) 0 → rowOf R (mk 102 l) [(⟨some 81, .load1 (.t 5), none⟩, 0), (⟨some 82, .fieldA 0 (.t 8), none⟩, 0), (⟨some 83, .load1 (.t 82), none⟩, 2), (⟨some 84, .fieldA 1 (.t 8), none⟩, 0), (⟨some 85, .load1 (.t 84), none⟩, 8), (⟨some 86, .load1 (.t 5), none⟩, 0), (⟨some 87, .fieldA 0 (.t 8), none⟩, 0), (⟨some 88, .load1 (.t 87), none⟩, 64), (⟨some 89, .fieldA 1 (.t 8), none⟩, 0), (⟨some 90, .load1 (.t 89), none⟩, 256), (⟨some 91, .mv (.t 13), none⟩, 0), (⟨some 92, .mv (.t 10), none⟩, 0), (⟨some 93, .nilck (.t 81), none⟩, 1), (⟨some 94, .fieldA 0 (.t 93), none⟩, 4097), (⟨some 95, .idxA 13 13 (.t 94) (.t 83), none⟩, 12295), (⟨some 96, .idxA 13 1 (.t 95) (.t 85), none⟩, 29727), (⟨none, .lenc 0, none⟩, 62495), (⟨some 97, .nilck (.t 86), none⟩, 32), (⟨some 98, .fieldA 169 (.t 97), none⟩, 131104), (⟨some 99, .idxA 13 13 (.t 98) (.t 88), none⟩, 393440)] (.t 96) = rows.length + 1 := by
    intro l hl
    simp [rowOf, rowV, hl, hTB.g2]
  rw [uc57k8, Ex_kill, kill_dead, Ex_ops, uc57r8, Ex_grpwQ rfl, hrow _ (by simpa using s5)]
  simp [runL, runO, IOp.pure, gO, subI, subO, e5, e8, s5, s8, s13, s10, i1, i2, Nat.ble]
  have k1 : a.toNat * 13 + b.toNat < 338 := by omega
  have k2 : 169 + a.toNat * 13 + b.toNat < 338 := by omega
  have k3 : (13 * a + b).toNat = a.toNat * 13 + b.toNat := by omega
  have k4 : (169 + 13 * a + b).toNat = 169 + a.toNat * 13 + b.toNat := by omega
  have hl1 : rows.length + 1 < R.length := by have := hTB.len; omega
  have hl2 : lower (lower low (rows.length + 1)) (rows.length + 1) = lower low (rows.length + 1) := lower_ge (lower_le_id _ _)
  have hc : ∀ vs, cells? (R.set (rows.length + 1) (.cells vs)) (rows.length + 1) = some vs := fun vs => by unfold cells?; rw [List.getElem?_set_self hl1]
  simp [stored, hTB.c1, hT, k1]
  rw [Ex_runQ rfl]
  simp [runQ, runP, runO, IOp.pure, gO, subI, subO, i2, Nat.ble, hc, k2, hT, k3, k4, setT, hl2]
end Go.Abs

set_option linter.unusedVariables false
set_option linter.unusedSimpArgs false
namespace Go.Abs
open Rd (Cp IsL_one IsL_cells IsL_tail lowO_n)

/-- What the price function is asked to be. -/
structure PF (rows : List Row) (pf : Nat) (pcs : List AV) (n : Int) (P : Int → Int → Int → Int → Int → Int) : Prop where
  ret : ∀ L a b g l r, 0 ≤ a → a ≤ g → g < b → b ≤ n → (0 ≤ l ∧ l ≤ 200000000) → (0 ≤ r ∧ r ≤ 200000000) → Ret F pf ([pt a b, .int .i64 g, .int .i64 l, .int .i64 r] ++ pcs) (rows ++ L) = some (.int .i64 (P a b g l r), rows ++ L, none)
  bd : ∀ a b g l r, 0 ≤ a → a ≤ g → g < b → b ≤ n → (0 ≤ l ∧ l ≤ 200000000) → (0 ≤ r ∧ r ≤ 200000000) → 0 ≤ P a b g l r ∧ P a b g l r ≤ 13000000 + l + r
def Bnd (T : List Int) : Prop := ∀ a b, 0 ≤ a → a ≤ b → b ≤ 12 → 0 ≤ prT T a b ∧ prT T a b ≤ 13000000 * (b - a)
theorem Bnd_0 : Bnd (List.replicate 338 0) := by
  intro a b h0 h1 h2
  have : prT (List.replicate 338 0) a b = 0 := by
    unfold prT gI
    rw [List.getD_eq_getElem?_getD, List.getElem?_replicate, if_pos (by omega)]
    rfl
  omega
theorem Bnd_set {T : List Int} {a b v g : Int} (hT : T.length = 338) (ha : 0 ≤ a) (hab : a ≤ b) (hb : b ≤ 12) (hv : 0 ≤ v ∧ v ≤ 13000000 * (b - a)) (h : Bnd T) : Bnd (setT T a b v g) := by
  intro c d h0 h1 h2
  rw [prT_set hT ⟨ha, by omega⟩ ⟨by omega, hb⟩ ⟨h0, by omega⟩ ⟨by omega, h2⟩]
  split
  · rename_i e; obtain ⟨rfl, rfl⟩ := e; exact hv
  · exact h c d h0 h1 h2
/-- The table while the gates before g are tried. -/
structure TG (P : Int → Int → Int → Int → Int → Int) (n m s : Int) (g : Int) (T : List Int) : Prop where
  len : T.length = 338
  done : Done P T n m s
  to : BestTo P T s (s + m) g
  bnd : Bnd T
theorem cells?_ne {R : List Row} {i j : Nat} {x : Row} (h : i ≠ j) : cells? (R.set j x) i = cells? R i := by
  unfold cells?; rw [List.getElem?_set_ne (fun e => h e.symm)]
theorem round_shape {B G X : List Row} {i : Nat} {p f q l x y z : Row} (hi : i < B.length) : ((((B ++ (p :: f :: q :: l :: G)) ++ X).set i x).set (B.length + 1) y).set (B.length + 3) z = B.set i x ++ (p :: y :: q :: z :: (G ++ X)) := by
  rw [List.append_assoc, List.set_append_left _ _ hi]
  have : B.length = (B.set i x).length := by simp
  rw [this, rows_set, rows_set]
  simp
theorem round_shape0 {B G X : List Row} {p f q l y z : Row} : (((B ++ (p :: f :: q :: l :: G)) ++ X).set (B.length + 1) y).set (B.length + 3) z = B ++ (p :: y :: q :: z :: (G ++ X)) := by
  rw [List.append_assoc, rows_set, rows_set]
  simp
def LRw (st : LoopState) (SL : List AV) : Row := .loop st none SL [35] c57f6a c57f6b
/-- The rows while the gates of a part are tried. -/
def RI (rows : List Row) (pv : AV) (P : Int → Int → Int → Int → Int → Int) (n m s : Int) (N : Nat) (SL : List AV) (g : Int) (R : List Row) (low : Nat) : Prop :=
  ∃ B T G, R = B ++ (.cells [.int .i64 s, .int .i64 (s + m)] :: .cells [.bool (decide (g = s))] :: .cells [.int .i64 s, .int .i64 (s + m)] :: LRw .ready SL :: G) ∧ B.length = N ∧ TB rows pv T B ∧ TG P n m s g T ∧ rows.length ≤ low ∧ (s < g → low ≤ N + 3)
set_option maxHeartbeats 8000000 in
theorem round_ok {rows : List Row} {pf N low : Nat} {pcs SL : List AV} {P : Int → Int → Int → Int → Int → Int} {n m s g : Int} {R : List Row} {sl : List (Nat × AV)} (hPF : PF rows pf pcs n P) (hn : n ≤ 12) (hm : 1 ≤ m) (hs : 0 ≤ s) (hsm : s + m ≤ n) (hg : s ≤ g) (hgm : g < s + m)
    (s3 : lk sl 3 = .ptr rows.length 0) (s5 : lk sl 5 = .ptr (rows.length + 2) 0) (s8 : lk sl 8 = .ptr N 0) (s9 : lk sl 9 = .ptr (N + 1) 0)
    (hI : RI rows (.func pf pcs) P n m s N SL g R low) : Ex F (.round (N + 3)) [.code c57f6a, .rfBegin, .code c57f6b] ⟨putL (mk 102 sl) [35] [.int .i64 g], R, R.length⟩ fun q => q.1 = .bool true ∧ RI rows (.func pf pcs) P n m s N SL (g + 1) (gc R.length (lower low q.2.2) q.1 q.2.1) (lower low q.2.2) := by
  obtain ⟨B, T, G, hR, hBN, hTB, hTG, hlow1, hlow2⟩ := hI
  have hB := hTB.len
  generalize hfb : decide (g = s) = fb at hR
  generalize hPr : Row.cells [AV.int .i64 s, AV.int .i64 (s + m)] = Pr at hR
  have hb1 := hTG.bnd s g (by omega) (by omega) (by omega)
  have hb2 := hTG.bnd (g + 1) (s + m) (by omega) (by omega) (by omega)
  have hb3 := hTG.bnd s (s + m) (by omega) (by omega) (by omega)
  have hbd := hPF.bd s (s + m) g (prT T s g) (prT T (g + 1) (s + m)) hs hg hgm hsm (by omega) (by omega)
  generalize hv : P s (s + m) g (prT T s g) (prT T (g + 1) (s + m)) = v at hbd
  have hret := fun L => hPF.ret L s (s + m) g (prT T s g) (prT T (g + 1) (s + m)) hs hg hgm hsm (by omega) (by omega)
  rw [hv] at hret
  -- the rows while the round runs
  generalize hRb : B ++ (Pr :: .cells [.bool fb] :: Pr :: LRw .busy SL :: G) = Rb
  have hTBb : TB rows (.func pf pcs) T Rb := by rw [← hRb]; exact hTB.app _
  have h8 : ∀ L, row? (Rb ++ L) N = some [.int .i64 s, .int .i64 (s + m)] := fun L => row?_old (by rw [← hRb, ← hBN, row?_at0, ← hPr]; rfl) L
  have h9 : ∀ L, row? (Rb ++ L) (N + 1) = some [.bool fb] := fun L => row?_old (by rw [← hRb, ← hBN, row?_at]; rfl) L
  have h5 : ∀ L, row? (Rb ++ L) (rows.length + 2) = some [.ptr (rows.length + 1) 0] := fun L => (hTBb.app L).g2
  have h3 : ∀ L, row? (Rb ++ L) rows.length = some [.func pf pcs] := fun L => (hTBb.app L).g0
  have h4 : ∀ L, row? (Rb ++ L) (rows.length + 1) = some (nums .i64 T) := fun L => (hTBb.app L).g1
  have hrt : ∀ L, Ret F pf ([pt s (s + m), .int .i64 g, .int .i64 (prT T s g), .int .i64 (prT T (g + 1) (s + m))] ++ pcs) (Rb ++ L) = some (.int .i64 v, Rb ++ L, none) := by
    intro L
    obtain ⟨Z, hZ⟩ := hTBb.app L
    rw [hZ]; exact hret _
  have i0 : idx? s 13 = some s.toNat := idx?_ok (by omega) (by omega)
  have i1 : idx? g 13 = some g.toNat := idx?_ok (by omega) (by omega)
  have i2 : idx? (g + 1) 13 = some (g + 1).toNat := idx?_ok (by omega) (by omega)
  have i3 : idx? (s + m) 13 = some (s + m).toNat := idx?_ok (by omega) (by omega)
  have hTl := hTG.len
  have q1 : (nums .i64 T)[s.toNat * 13 + g.toNat]? = some (.int .i64 (prT T s g)) := by
    unfold prT
    rw [show (13 * s + g).toNat = s.toNat * 13 + g.toNat from by omega, nums_get, gI_get (by omega)]; rfl
  have q2 : (nums .i64 T)[(g + 1).toNat * 13 + (s + m).toNat]? = some (.int .i64 (prT T (g + 1) (s + m))) := by
    unfold prT
    rw [show (13 * (g + 1) + (s + m)).toNat = (g + 1).toNat * 13 + (s + m).toNat from by omega, nums_get, gI_get (by omega)]; rfl
  have q3 : (nums .i64 T)[s.toNat * 13 + (s + m).toNat]? = some (.int .i64 (prT T s (s + m))) := by
    unfold prT
    rw [show (13 * s + (s + m)).toNat = s.toNat * 13 + (s + m).toNat from by omega, nums_get, gI_get (by omega)]; rfl
  have hrd := fun R => right_ret (rows := R) (a := s) (b := s + m) (g := g) (by omega)
  have hld := fun R => left_ret (rows := R) (a := s) (b := s + m) (g := g)
  simp only [pt] at hrt hrd hld
  simp only [mk_putL1, uc57f6a, uc57k15]
  rw [Ex_rfBegin]
  refine ⟨none, SL, [35], c57f6a, c57f6b, by rw [hR, ← hBN, rows_at]; rfl, ?_⟩
  have e1 : R.set (N + 3) (.loop .busy none SL [35] c57f6a c57f6b) = Rb := by rw [hR, ← hRb, ← hBN, rows_set]; rfl
  rw [e1]
  have hRl : R.length = Rb.length := by rw [← hRb, hR]; simp
  rw [show lower R.length (N + 3) = N + 3 from lower_lt (by rw [hR]; simp; omega)]
  have hRbl : N + 4 ≤ Rb.length := by rw [← hRb]; simp; omega
  have hll : ∀ k, lower (N + 3) (Rb.length + k) = N + 3 := fun k => lower_ge (by omega)
  have hll0 : lower (N + 3) Rb.length = N + 3 := lower_ge (by omega)
  have h80 := h8 []
  have h90 := h9 []
  have h50 := h5 []
  have h30 := h3 []
  have h40 := h4 []
  simp only [List.append_nil] at h80 h90 h50 h30 h40
  simp only [List.cons_append, List.nil_append] at hrt
  have hc9 : ∀ L, cells? (Rb ++ L) (N + 1) = some [.bool fb] := fun L => cells?_old (by rw [← hRb, ← hBN, cells?_at]; rfl) L
  have hlw1 : lower (N + 3) (N + 1) = N + 1 := lower_lt (by omega)
  have hlw2 : lower (N + 1) (N + 3) = N + 1 := lower_ge (by omega)
  have hlw3 : lower low (N + 1) ≤ N + 1 := lower_le_id _ _
  have hlw4 : rows.length ≤ lower low (N + 1) := by unfold lower; split <;> omega
  have hlw5 : lower (N + 3) (rows.length + 1) = rows.length + 1 := lower_lt (by omega)
  have hlw6 : lower (rows.length + 1) (N + 1) = rows.length + 1 := lower_ge (by omega)
  have hlw7 : lower (rows.length + 1) (N + 3) = rows.length + 1 := lower_ge (by omega)
  have hlw8 : lower low (rows.length + 1) ≤ N + 1 := Nat.le_trans (lower_le_id _ _) (by omega)
  have hlw9 : rows.length ≤ lower low (rows.length + 1) := by unfold lower; split <;> omega
  have hgs : decide (g + 1 = s) = false := decide_eq_false (by omega)
  have hRlen : R.length = N + 4 + G.length := by rw [hR]; simp; omega
  -- what is left when a round is over
  have fin1 : ∀ (B' : List Row) (T' : List Int) (X : List Row) (low' : Nat), B'.length = N → TB rows (.func pf pcs) T' B' → TG P n m s (g + 1) T' → rows.length ≤ low' → low' ≤ N + 3 →
      RI rows (.func pf pcs) P n m s N SL (g + 1) (gc R.length low' (.bool true) (B' ++ (Pr :: .cells [.bool false] :: Pr :: LRw .ready SL :: (G ++ X)))) low' := by
    intro B' T' X low' hB' hT' hG' hw1 hw2
    rcases gc_cases R.length low' (.bool true) (B' ++ (Pr :: .cells [.bool false] :: Pr :: LRw .ready SL :: (G ++ X))) with e | ⟨e, _⟩
    · rw [e]
      exact ⟨B', T', G ++ X, by rw [← hPr, hgs], hB', hT', hG', hw1, fun _ => hw2⟩
    · rw [e]
      refine ⟨B', T', G, ?_, hB', hT', hG', hw1, fun _ => hw2⟩
      rw [hgs, ← hPr, hRlen, List.take_append, List.take_of_length_le (by omega), show N + 4 + G.length - B'.length = G.length + 4 from by omega]
      simp
  have endB : ∀ X, TG P n m s (g + 1) T → Ex F (.round (N + 3)) [] ⟨mk 102 [(9, .ptr (N + 1) 0)], (Rb ++ X).set (N + 1) (.cells [.bool false]), N + 1⟩ fun q => q.1 = .bool true ∧ RI rows (.func pf pcs) P n m s N SL (g + 1) (gc R.length (lower low q.2.2) q.1 q.2.1) (lower low q.2.2) := by
    intro X hG'
    rw [Ex_nil]
    have e2 : ((Rb ++ X).set (N + 1) (Row.cells [AV.bool false]))[N + 3]? = some (.loop .busy none SL [35] c57f6a c57f6b) := by
      rw [List.getElem?_set_ne (by omega), ← hRb, ← hBN, List.append_assoc, rows_at]; rfl
    refine ⟨_, by unfold leaveV; simp only [e2]; rfl, ?_⟩
    have e3 : ((Rb ++ X).set (N + 1) (Row.cells [AV.bool false])).set (N + 3) (.loop .ready none SL [35] c57f6a c57f6b) = B ++ (Pr :: .cells [.bool false] :: Pr :: LRw .ready SL :: (G ++ X)) := by
      rw [← hRb, ← hBN]; exact round_shape0
    refine ⟨rfl, ?_⟩
    simp only [Option.isNone_none, if_true]
    rw [e3, hlw2]
    exact fin1 B T X _ hBN hTB hG' hlw4 (by omega)
  have endA : ∀ X, TG P n m s (g + 1) (setT T s (s + m) v g) → Ex F (.round (N + 3)) [] ⟨mk 102 [(9, .ptr (N + 1) 0)], ((Rb ++ X).set (rows.length + 1) (.cells (nums .i64 (setT T s (s + m) v g)))).set (N + 1) (.cells [.bool false]), rows.length + 1⟩ fun q => q.1 = .bool true ∧ RI rows (.func pf pcs) P n m s N SL (g + 1) (gc R.length (lower low q.2.2) q.1 q.2.1) (lower low q.2.2) := by
    intro X hG'
    rw [Ex_nil]
    have e2 : (((Rb ++ X).set (rows.length + 1) (.cells (nums .i64 (setT T s (s + m) v g)))).set (N + 1) (Row.cells [AV.bool false]))[N + 3]? = some (.loop .busy none SL [35] c57f6a c57f6b) := by
      rw [List.getElem?_set_ne (by omega), List.getElem?_set_ne (by omega), ← hRb, ← hBN, List.append_assoc, rows_at]; rfl
    refine ⟨_, by unfold leaveV; simp only [e2]; rfl, ?_⟩
    have e3 : (((Rb ++ X).set (rows.length + 1) (.cells (nums .i64 (setT T s (s + m) v g)))).set (N + 1) (Row.cells [AV.bool false])).set (N + 3) (.loop .ready none SL [35] c57f6a c57f6b) = B.set (rows.length + 1) (.cells (nums .i64 (setT T s (s + m) v g))) ++ (Pr :: .cells [.bool false] :: Pr :: LRw .ready SL :: (G ++ X)) := by
      rw [← hRb, ← hBN]; exact round_shape (by omega)
    refine ⟨rfl, ?_⟩
    simp only [Option.isNone_none, if_true]
    rw [e3, hlw7]
    exact fin1 _ _ X _ (by simp [hBN]) hTB.set hG' hlw9 (by omega)
  have hset : (fb = true ∨ v < prT T s (s + m)) → TG P n m s (g + 1) (setT T s (s + m) v g) := by
    intro hor
    refine ⟨by rw [setT_len]; exact hTl, Done_set hTl hn hm hs hsm hTG.done, ?_, Bnd_set hTl hs (by omega) (by omega) ⟨hbd.1, by omega⟩ hTG.bnd⟩
    rw [← hv]
    refine BestTo_set hTl hs (by omega) hg hgm hTG.to ?_
    rw [hv]
    rcases hor with h | h
    · left; rw [← hfb] at h; simpa using h
    · right; omega
  have hskip : fb = false → ¬ v < prT T s (s + m) → TG P n m s (g + 1) T := by
    intro h1 h2
    refine ⟨hTl, hTG.done, BestTo_skip ?_ hTG.to (by rw [hv]; omega), hTG.bnd⟩
    rw [← hfb] at h1; simpa using h1
  have k8 := fun (X : List Row) (l : List (Nat × AV)) (k : List Itm) (r : AV × List Row × Nat → Prop) (a1 : lk l 5 = .ptr (rows.length + 2) 0) (a2 : lk l 8 = .ptr N 0) (a3 : lk l 13 = .int .i64 v) (a4 : lk l 10 = .int .i64 g) => k8_ok (cx := .round (N + 3)) (k := k) (r := r) (sl := l) (low := N + 3) (hTBb.app X) hTl (h8 X) (by omega) a1 a2 a3 a4 (by omega) (by omega)
  cases fb with
  | true =>
    simp [s3, s5, s8, s9, seg, fillA, splice, h80, h8, h5, h50, h3, h4, hld, hrd, i0, i1, i2, i3, q1, q2, q3, hll, hll0, maskE_cons, h9, hrt, -uc57k8]
    rw [k8 _ _ _ _ (by simp) (by simp) (by simp) (by simp)]
    simp [hlw5, hlw6, cells?_ne (show N + 1 ≠ rows.length + 1 by omega), hc9]
    exact endA _ (hset (.inl rfl))
  | false =>
    by_cases hlt : v < prT T s (s + m)
    · simp [s3, s5, s8, s9, seg, fillA, splice, h80, h8, h5, h50, h3, h4, hld, hrd, i0, i1, i2, i3, q1, q2, q3, hll, hll0, maskE_cons, h9, hrt, hlt, -uc57k8]
      rw [k8 _ _ _ _ (by simp) (by simp) (by simp) (by simp)]
      simp [hlw5, hlw6, cells?_ne (show N + 1 ≠ rows.length + 1 by omega), hc9]
      exact endA _ (hset (.inr hlt))
    · simp [s3, s5, s8, s9, seg, fillA, splice, h80, h8, h5, h50, h3, h4, hld, hrd, i0, i1, i2, i3, q1, q2, q3, hll, hll0, maskE_cons, h9, hc9, hrt, hlt, hlw1, -uc57k8]
      exact endB _ (hskip rfl hlt)
end Go.Abs

set_option linter.unusedVariables false
set_option linter.unusedSimpArgs false
namespace Go.Abs
open Rd (Cp IsL_one IsL_cells IsL_tail lowO_n)
/-- All gates of a part are tried. -/
theorem part_ok {rows B : List Row} {pf : Nat} {pcs : List AV} {res : List RV} {P : Int → Int → Int → Int → Int → Int} {n m s : Int} {T : List Int} {sl : List (Nat × AV)} {k : List Itm} {r : AV × List Row × Nat → Prop} (hPF : PF rows pf pcs n P) (hn : n ≤ 12) (hm : 1 ≤ m) (hs : 0 ≤ s) (hsm : s + m ≤ n)
    (hTB : TB rows (.func pf pcs) T B) (hT : T.length = 338) (hD : Done P T n m s) (hBd : Bnd T)
    (s3 : lk sl 3 = .ptr rows.length 0) (s5 : lk sl 5 = .ptr (rows.length + 2) 0) (s8 : lk sl 8 = .ptr B.length 0) (s9 : lk sl 9 = .ptr (B.length + 1) 0) (s34 : lk sl 34 = .func 97 [.ptr (B.length + 2) 0])
    (hend : ∀ B' T', TB rows (.func pf pcs) T' B' → T'.length = 338 → Done P T' n m (s + 1) → Bnd T' → Ex F (.fn res) k ⟨mk 102 sl, B', rows.length⟩ r) :
    Ex F (.fn res) (.code (.rf (.t 34) [35] c57f6a c57f6b) :: k) ⟨mk 102 sl, B ++ [.cells [.int .i64 s, .int .i64 (s + m)], .cells [.bool true], .cells [.int .i64 s, .int .i64 (s + m)]], rows.length⟩ r := by
  have hB := hTB.len
  have hlen : (B ++ [Row.cells [.int .i64 s, .int .i64 (s + m)], .cells [.bool true], .cells [.int .i64 s, .int .i64 (s + m)]]).length = B.length + 3 := by simp
  refine gates_rf (L := B.length + 2) (a := s) (b := s + m) (Inv := RI rows (.func pf pcs) P n m s B.length (mk 102 sl)) hs (by omega) (by omega) (by rw [mk_getO _ _ _ (by omega)]; exact s34) ?_ ?_ ?_ ?_ ?_
  · rw [List.append_assoc, row?_at]; rfl
  · rw [hlen]
    exact ⟨B, T, [], by simp [LRw], rfl, hTB, ⟨hT, hD, .inl rfl, hBd⟩, by omega, fun h => by omega⟩
  · rintro g R low ⟨B', T', G, rfl, hBN, hTB', hTG, _⟩
    rw [hlen, ← hBN]
    exact ⟨by rw [rows_at]; rfl, by rw [row?_at]; rfl⟩
  · intro g R low hg1 hg2 hI
    rw [hlen]
    exact round_ok hPF hn hm hs hsm hg1 hg2 s3 s5 s8 s9 hI
  · rintro R lw ⟨B', T', G, hR, hBN, hTB', hTG, hw1, hw2⟩
    rw [hlen]
    have hw := hw2 (by omega)
    have hR0 : (B ++ [Row.cells [.int .i64 s, .int .i64 (s + m)], .cells [.bool true], .cells [.int .i64 s, .int .i64 (s + m)]] ++ [Row.loop .ready none (mk 102 sl) [35] c57f6a c57f6b]).length = B.length + 4 := by simp
    rw [fin_lt (by rw [hR0]; omega)]
    simp only [lowO]
    have hTR : TB rows (.func pf pcs) T' R := by rw [hR]; exact hTB'.app _
    have key : ∃ R1, gc (B ++ [Row.cells [.int .i64 s, .int .i64 (s + m)], .cells [.bool true], .cells [.int .i64 s, .int .i64 (s + m)]] ++ [Row.loop .ready none (mk 102 sl) [35] c57f6a c57f6b]).length lw (.tup []) R = R1 ∧ TB rows (.func pf pcs) T' R1 ∧ R1[B.length + 3]? = some (.loop .ready none (mk 102 sl) [35] c57f6a c57f6b) := by
      have hg : R[B.length + 3]? = some (.loop .ready none (mk 102 sl) [35] c57f6a c57f6b) := by rw [hR, ← hBN, rows_at]; rfl
      rcases gc_cases (B ++ [Row.cells [.int .i64 s, .int .i64 (s + m)], .cells [.bool true], .cells [.int .i64 s, .int .i64 (s + m)]] ++ [Row.loop .ready none (mk 102 sl) [35] c57f6a c57f6b]).length lw (.tup []) R with e | ⟨e, _⟩
      · exact ⟨R, e, hTR, hg⟩
      · refine ⟨_, e, hTR.take (by rw [hR0]; omega), ?_⟩
        rw [List.getElem?_take, if_pos (by rw [hR0]; omega)]; exact hg
    obtain ⟨R1, e1, h1, h2⟩ := key
    rw [e1]
    have hlw : lower rows.length lw = rows.length := lower_ge hw1
    refine ⟨_, by unfold afterLoop; simp only [h2]; rfl, ?_⟩
    simp only [lowO, hlw, jumpI, List.nil_append]
    have h3 := h1.setN (n := B.length + 3) (x := .dead) (by omega)
    have hD' : Done P T' n m (s + 1) := Done_next hm hTG.done (BestTo_end (by omega) hTG.to)
    rcases gc_cases (B.length + 3) rows.length (.tup []) (R1.set (B.length + 3) .dead) with e | ⟨e, _⟩
    · rw [e]; exact hend _ _ h3 hTG.len hD' hTG.bnd
    · rw [e]; exact hend _ _ (h3.take (by omega)) hTG.len hD' hTG.bnd
theorem filled_a {rows : List Row} {pf : Nat} {pcs : List AV} {P : Int → Int → Int → Int → Int → Int} {n m : Int} {r : AV × List Row × Nat → Prop} (hPF : PF rows pf pcs n P) (hn : n ≤ 12) (hm : 1 ≤ m) (hmn : m ≤ n)
    (hend : ∀ B' T', TB rows (.func pf pcs) T' B' → T'.length = 338 → Done P T' n (m + 1) 0 → Bnd T' → Lc57l2 F (.fn [.t 4]) (.int .i64 n) (.ptr rows.length 0) .nilptr (.ptr (rows.length + 2) 0) (.int .i64 (m + 1)) B' rows.length r) :
    ∀ (d : Nat) (s : Int) (B : List Row) (T : List Int), (n - m + 1 - s).toNat = d → 0 ≤ s → s ≤ n - m + 1 → TB rows (.func pf pcs) T B → T.length = 338 → Done P T n m s → Bnd T →
    Lc57l4 F (.fn [.t 4]) (.int .i64 n) (.ptr rows.length 0) .nilptr (.ptr (rows.length + 2) 0) (.int .i64 m) (.int .i64 s) B rows.length r := by
  have w1 : IntKind.i64.wrap (m + 1) = m + 1 := wrap64 (by omega) (by omega)
  intro d
  induction d with
  | zero =>
    intro s B T hd h0 h1 hTB hT hD hBd
    have w2 : IntKind.i64.wrap (s + m) = s + m := wrap64 (by omega) (by omega)
    unfold Lc57l4
    simp [w1, w2, show ¬ (s + m ≤ n) by omega]
    exact hend B T hTB hT (Done_len (by omega) hD) hBd
  | succ d ih =>
    intro s B T hd h0 h1 hTB hT hD hBd
    have w2 : IntKind.i64.wrap (s + m) = s + m := wrap64 (by omega) (by omega)
    have w3 : IntKind.i64.wrap (s + 1) = s + 1 := wrap64 (by omega) (by omega)
    have hB := hTB.len
    have hl : ∀ k, lower rows.length (B.length + k) = rows.length := fun k => lower_ge (by omega)
    have hl0 : lower rows.length B.length = rows.length := lower_ge (by omega)
    have hg := fun R => gates_ret (rows := R) (a := s) (b := s + m)
    simp only [pt] at hg
    unfold Lc57l4
    simp [w1, w2, show s + m ≤ n by omega, fillA, splice, seg, hg, hl, hl0]
    refine part_ok (T := T) hPF hn hm h0 (by omega) hTB hT hD hBd (by simp) (by simp) (by simp) (by simp) (by simp) ?_
    intro B' T' hTB' hT' hD' hBd'
    have := ih (s + 1) B' T' (by omega) (by omega) (by omega) hTB' hT' hD' hBd'
    simpa [w3] using this
theorem filled_m {rows : List Row} {pf : Nat} {pcs : List AV} {P : Int → Int → Int → Int → Int → Int} {n : Int} {r : AV × List Row × Nat → Prop} (hPF : PF rows pf pcs n P) (hn : n ≤ 12) (hn0 : 0 ≤ n)
    (hend : ∀ B' T', TB rows (.func pf pcs) T' B' → T'.length = 338 → Done P T' n (n + 1) 0 → Bnd T' → r (.ptr (rows.length + 1) 0, B', rows.length)) :
    ∀ (d : Nat) (m : Int) (B : List Row) (T : List Int), (n + 1 - m).toNat = d → 1 ≤ m → m ≤ n + 1 → TB rows (.func pf pcs) T B → T.length = 338 → Done P T n m 0 → Bnd T →
    Lc57l2 F (.fn [.t 4]) (.int .i64 n) (.ptr rows.length 0) .nilptr (.ptr (rows.length + 2) 0) (.int .i64 m) B rows.length r := by
  intro d
  induction d with
  | zero =>
    intro m B T hd h0 h1 hTB hT hD hBd
    have : m = n + 1 := by omega
    subst this
    unfold Lc57l2
    simp [show ¬ (n + 1 ≤ n) by omega, hTB.g2]
    exact hend B T hTB hT hD hBd
  | succ d ih =>
    intro m B T hd h0 h1 hTB hT hD hBd
    unfold Lc57l2
    simp [show m ≤ n by omega]
    have := filled_a (r := r) hPF hn h0 (by omega) (fun B' T' hTB' hT' hD' hBd' => ih (m + 1) B' T' (by omega) (by omega) (by omega) hTB' hT' hD' hBd') _ 0 B T rfl (Int.le_refl 0) (by omega) hTB hT hD hBd
    simpa using this
/-- filled. -/
theorem filled_ret {rows : List Row} {pf : Nat} {pcs : List AV} {P : Int → Int → Int → Int → Int → Int} {n : Int} (hPF : PF rows pf pcs n P) (hn : n ≤ 12) (hn0 : 0 ≤ n) :
    ∃ T, Ret F 57 [.int .i64 n, .func pf pcs] rows = some (.ptr rows.length 0, rows ++ [.cells (nums .i64 T)], none) ∧ T.length = 338 ∧ Done P T n (n + 1) 0 ∧ Bnd T := by
  have := Ret_mk' F57 (vs := [.int .i64 n, .func pf pcs]) (rows := rows) (R := fun q => ∃ T, q = (.ptr rows.length 0, rows ++ [.cells (nums .i64 T)], none) ∧ T.length = 338 ∧ Done P T n (n + 1) 0 ∧ Bnd T) (show Ex F (.fn [.t 4]) [.code c57b] ⟨mk 102 [(0, .int .i64 n), (1, .func pf pcs)], rows, rows.length⟩ _ from ?_)
  · obtain ⟨q, e, T, rfl, h⟩ := this
    exact ⟨T, e, h⟩
  · have := filled_m (r := fun r => ∃ T, fin rows r.1 r.2.1 r.2.2 = (.ptr rows.length 0, rows ++ [.cells (nums .i64 T)], none) ∧ T.length = 338 ∧ Done P T n (n + 1) 0 ∧ Bnd T) hPF hn hn0 (by
      intro B' T' hTB hT hD hBd
      refine ⟨T', ?_, hT, hD, hBd⟩
      have e := hTB.c1
      unfold fin
      simp [e, AV.plain1, AV.plain, AV.ren1, AV.ren]) _ 1 (rows ++ (.cells [.func pf pcs] :: .cells (nums .i64 (List.replicate 338 0)) :: .cells [.ptr (rows.length + 1) 0] :: [])) (List.replicate 338 0) rfl (Int.le_refl 1) (by omega) ⟨[], rfl⟩ List.length_replicate (Done_0 hn) Bnd_0
    have hz : evP (rows ++ [.cells [.func pf pcs]]) (.mkagg (List.replicate 338 (.int .i64 0)) []) = some (.agg (nums .i64 (List.replicate 338 0))) := by rw [← nums_rep]; rfl
    generalize List.replicate 338 (0 : Int) = T0 at this hz
    simp [hz, -evP_mkagg, -List.reduceReplicate]
    simpa using this
end Go.Abs

set_option linter.unusedVariables false
set_option linter.unusedSimpArgs false
namespace Go.Abs
open Rd (Cp IsL_one IsL_cells IsL_tail lowO_n)
/-- The price of a part by the worst piece. -/
def PW (c : List Int) : Int → Int → Int → Int → Int → Int := fun _ _ g l r => gI c g.toNat + max l r
theorem cost_bd {c : List Int} (hall : (c.all fun x => decide (1 ≤ x ∧ x ≤ 1000)) = true) {g : Nat} (hg : g < c.length) : 1 ≤ gI c g ∧ gI c g ≤ 1000 := by
  have := List.all_eq_true.1 hall _ (gI_mem hg)
  simpa using this
theorem PF_W {rows : List Row} {cv : AV} {c : List Int} (hc : IsL rows cv c) (hall : (c.all fun x => decide (1 ≤ x ∧ x ≤ 1000)) = true) : PF (rows ++ [.cells [cv]]) 58 [.ptr rows.length 0] c.length (PW c) := by
  refine ⟨fun L a b g l r h0 h1 h2 h3 hl hr => ?_, fun a b g l r h0 h1 h2 h3 hl hr => ?_⟩
  · have hb := cost_bd hall (g := g.toNat) (by omega)
    refine wprice_ret (IsL_app (IsL_app hc _) _) ?_ (by omega) (by omega) ⟨by omega, hb.2⟩ hl hr
    rw [List.append_assoc, row?_at0]; rfl
  · have hb := cost_bd hall (g := g.toNat) (by omega)
    unfold PW
    omega
theorem fin28 {rows : List Row} {a b : Row} {l : List Int} {p e : Int} : fin rows (.tup [.int .i64 p, nlV (rows.length + 2) l, .int .i64 e]) (rows ++ a :: b :: nlK l) rows.length = (.tup [.int .i64 p, nlV rows.length l, .int .i64 e], rows ++ nlK l, none) := by
  cases l with
  | nil => simp [fin, nlV, nlK]
  | cons x l =>
    have : ¬ rows.length + 2 < rows.length := by omega
    simp [fin, nlV, nlK, AV.plain1, AV.plain, AV.ren1, AV.ren, this]
set_option maxHeartbeats 4000000 in
/-- search.Worst, of costs that are right. -/
theorem Worst_ret {rows : List Row} {cv : AV} {c : List Int} (hc : IsL rows cv c) (hn : c.length ≤ 12) (hall : (c.all fun x => decide (1 ≤ x ∧ x ≤ 1000)) = true) :
    ∃ T, T.length = 338 ∧ Done (PW c) T c.length (c.length + 1) 0 ∧ Bnd T ∧ Ret F 28 [cv] rows = some (.tup [.int .i64 (prT T 0 c.length), nlV rows.length (tpl T c.length 0 c.length), .int .i64 0], rows ++ nlK (tpl T c.length 0 c.length), none) := by
  obtain ⟨T, hf, hT, hD, hB⟩ := filled_ret (PF_W hc hall) (n := c.length) (by omega) (by omega)
  refine ⟨T, hT, hD, hB, ?_⟩
  have hone := IsL_one hc
  have hcell := IsL_cells hc
  have h1 := fun L => Check_ret (IsL_app hc L) (by omega)
  rw [if_pos ⟨hn, hall⟩] at h1
  have hwh : ∀ L, Ret F 60 [cv] (rows ++ L) = some (pt 0 c.length, rows ++ L, none) := fun L => whole_ret (IsL_app hc L)
  have hbp := fun L => bplan_ret (bid := rows.length + 1) (rows := rows ++ .cells [cv] :: .cells (nums .i64 T) :: L) hT (show (c.length : Int) ≤ 12 by omega) (Done_Good hD) c.length 0 c.length (by omega) (by omega) (by omega) (by omega) (by rw [row?_at]; rfl)
  simp only [newL_eq] at hbp
  simp only [pt] at hwh hbp
  have i1 : idx? (c.length : Int) 13 = some c.length := by rw [idx?_ok (by omega) (by omega)]; simp
  have q1 : (nums .i64 T)[c.length]? = some (.int .i64 (prT T 0 c.length)) := by
    unfold prT
    rw [show (13 * 0 + (c.length : Int)).toNat = c.length from by omega, nums_get, gI_get (by omega)]; rfl
  have hf' : Ret F 57 [.int .i64 c.length, .func 58 [.ptr rows.length 0]] (rows ++ [.cells [cv]]) = some (.ptr (rows.length + 1) 0, rows ++ [.cells [cv], .cells (nums .i64 T)], none) := by
    rw [hf]; simp
  refine i28 F28 ?_
  simp [hone, hcell, h1, -uc28s3, jc28s3]
  unfold Jc28s3
  simp [lenL hc, hf', -uc28k0]
  rw [uc28k0]
  simp [lenL hc, hone, hcell, hwh, hbp, q1, maskE_cons, show idx? 0 13 = some 0 from rfl, show c.length < 13 by omega, Function.comp_def]
  exact fin28
end Go.Abs

set_option linter.unusedVariables false
set_option maxRecDepth 20000
set_option maxHeartbeats 4000000
namespace Go.Abs
variable {F : Nat → Option IFn} {cx : Ctx} {k : List Itm} {s : St} {l : List (Nat × AV)} {rows : List Row} {low : Nat} {r : AV × List Row × Nat → Prop}
@[simp] theorem uc34k0 : Ex F cx (.code c34k0 :: k) ⟨mk 39 l, rows, low⟩ r ↔ Ex F cx k ⟨mk 39 [(4, lk l 5), (38, lk l 5), (5, lk l 5)], rows, low⟩ r := reg (keep := [5]) (ops := c34r0) rfl (by kernel_rfl) (by kernel_rfl)
@[simp] theorem uc34s1 : Ex F cx (.code c34s1 :: k) s r ↔ Ex F cx (.code (.seq c34k0 .ret) :: k) s r := Iff.rfl
@[simp] theorem uc34k2 : Ex F cx (.code c34k2 :: k) ⟨mk 39 l, rows, low⟩ r ↔ bnd (evP rows (.idxS 1 (.c (lk l 5)) (.c (.int .i64 0)))) fun v0 => bnd (evE rows low (.store1 (.c v0) (.c (.int .i64 1)))) fun q1 => Ex F cx k ⟨mk 39 [(37, v0), (36, lk l 5), (5, lk l 5)], q1.2.1, q1.2.2⟩ r := reg (keep := [5]) (ops := c34r2) rfl (by kernel_rfl) (by kernel_rfl)
@[simp] theorem uc34s3 : Ex F cx (.code c34s3 :: k) s r ↔ Ex F cx (.code (.cond (.t 35) c34k2 .skip) :: k) s r := Iff.rfl
@[simp] theorem uc34k4 : Ex F cx (.code c34k4 :: k) ⟨mk 39 l, rows, low⟩ r ↔ bnd (evP rows (.un .not (.c (lk l 6)))) fun v0 => Ex F cx k ⟨mk 39 [(35, v0), (34, lk l 6), (5, lk l 5), (6, lk l 6)], rows, low⟩ r := reg (keep := [5, 6]) (ops := c34r4) rfl (by kernel_rfl) (by kernel_rfl)
@[simp] theorem uc34s5 : Ex F cx (.code c34s5 :: k) s r ↔ Ex F cx (.code (.seq (.seq c34k4 c34s3) c34s1) :: k) s r := Iff.rfl
@[simp] theorem uc34k7 : Ex F cx (.code c34k7 :: k) ⟨mk 39 l, rows, low⟩ r ↔ bnd (evP rows (.bin .add (.c (lk l 7)) (.c (.int .i64 1)))) fun v0 => Ex F cx k ⟨mk 39 [(7, v0), (13, v0), (12, lk l 7), (0, lk l 0), (1, lk l 1), (5, lk l 5), (6, lk l 6), (7, lk l 7)], rows, low⟩ r := reg (keep := [0, 1, 5, 6, 7]) (ops := c34r7) rfl (by kernel_rfl) (by kernel_rfl)
@[simp] theorem uc34k8 : Ex F cx (.code c34k8 :: k) ⟨mk 39 l, rows, low⟩ r ↔ bnd (evE rows low (.mkslice 1 [.int .i64 0] [(0, 1, (.c (lk l 8)))])) fun q0 => bnd (evE q0.2.1 q0.2.2 (.app 1 8 (.c (lk l 5)) (.c q0.1))) fun q1 => Ex F cx k ⟨mk 39 [(5, q1.1), (33, q1.1), (32, q0.1), (31, lk l 8), (30, lk l 5), (0, lk l 0), (1, lk l 1), (5, lk l 5), (6, lk l 6), (7, lk l 7), (8, lk l 8)], q1.2.1, q1.2.2⟩ r := reg (keep := [0, 1, 5, 6, 7, 8]) (ops := c34r8) rfl (by kernel_rfl) (by kernel_rfl)
@[simp] theorem uc34k9 : Ex F cx (.code c34k9 :: k) ⟨mk 39 l, rows, low⟩ r ↔ bnd (gv (lk l 6) false (evP rows (.mv (.c (lk l 8))))) fun v0 => bnd (gv (lk l 6) false (evP rows (.bin .gtr (.c v0) (.c (.int .i64 0))))) fun v1 => bnd (evP rows (.pick (.c (lk l 6)) (.c (.bool true)) (.c v1))) fun v2 => Ex F cx k ⟨mk 39 [(6, v2), (29, v2), (28, v1), (27, v0), (26, lk l 6), (25, lk l 6), (0, lk l 0), (1, lk l 1), (5, lk l 5), (6, lk l 6), (7, lk l 7), (8, lk l 8)], rows, low⟩ r := reg (keep := [0, 1, 5, 6, 7, 8]) (ops := c34r9) rfl (by kernel_rfl) (by kernel_rfl)
@[simp] theorem uc34s10 : Ex F cx (.code c34s10 :: k) s r ↔ Ex F cx (.code (.seq c34k9 c34k8) :: k) s r := Iff.rfl
@[simp] theorem uc34k11 : Ex F cx (.code c34k11 :: k) ⟨mk 39 l, rows, low⟩ r ↔ bnd (evP rows (.idxS 1 (.c (lk l 0)) (.c (lk l 7)))) fun v0 => bnd (evP rows (.load1 (.c v0))) fun v1 => bnd (evP rows (.conv .u64 (.c v1))) fun v2 => bnd (evP rows (.bin .rem (.c v2) (.c (.int .u64 1001)))) fun v3 => bnd (evP rows (.conv .i64 (.c v3))) fun v4 => Ex F cx k ⟨mk 39 [(8, v4), (24, v4), (23, v3), (22, v2), (21, v1), (20, v0), (19, lk l 7), (18, lk l 0), (0, lk l 0), (1, lk l 1), (5, lk l 5), (6, lk l 6), (7, lk l 7)], rows, low⟩ r := reg (keep := [0, 1, 5, 6, 7]) (ops := c34r11) rfl (by kernel_rfl) (by kernel_rfl)
@[simp] theorem uc34s12 : Ex F cx (.code c34s12 :: k) s r ↔ Ex F cx (.code (.cond (.t 17) c34k11 .skip) :: k) s r := Iff.rfl
@[simp] theorem uc34k13 : Ex F cx (.code c34k13 :: k) ⟨mk 39 l, rows, low⟩ r ↔ bnd (evP rows (.len 0 (.c (lk l 0)))) fun v0 => bnd (evP rows (.bin .lss (.c (lk l 7)) (.c v0))) fun v1 => Ex F cx k ⟨mk 39 [(17, v1), (16, v0), (15, lk l 0), (14, lk l 7), (0, lk l 0), (1, lk l 1), (5, lk l 5), (6, lk l 6), (7, lk l 7), (8, lk l 8)], rows, low⟩ r := reg (keep := [0, 1, 5, 6, 7, 8]) (ops := c34r13) rfl (by kernel_rfl) (by kernel_rfl)
@[simp] theorem uc34s14 : Ex F cx (.code c34s14 :: k) s r ↔ Ex F cx (.code (.seq (.seq c34k13 c34s12) c34s10) :: k) s r := Iff.rfl
@[simp] theorem uc34k15 : Ex F cx (.code c34k15 :: k) ⟨mk 39 l, rows, low⟩ r ↔ Ex F cx k ⟨mk 39 [(8, (.int .i64 0)), (0, lk l 0), (1, lk l 1), (5, lk l 5), (6, lk l 6), (7, lk l 7)], rows, low⟩ r := reg (keep := [0, 1, 5, 6, 7]) (ops := c34r15) rfl (by kernel_rfl) (by kernel_rfl)
@[simp] theorem uc34s16 : Ex F cx (.code c34s16 :: k) s r ↔ Ex F cx (.code (.seq (.block 1 (.seq c34k15 c34s14)) c34k7) :: k) s r := Iff.rfl
@[simp] theorem uc34s17 : Ex F cx (.code c34s17 :: k) s r ↔ Ex F cx (.code (.cond (.t 11) .skip (.exit 0)) :: k) s r := Iff.rfl
@[simp] theorem uc34k18 : Ex F cx (.code c34k18 :: k) ⟨mk 39 l, rows, low⟩ r ↔ bnd (evP rows (.bin .leq (.c (lk l 7)) (.c (lk l 1)))) fun v0 => Ex F cx k ⟨mk 39 [(11, v0), (10, lk l 1), (9, lk l 7), (0, lk l 0), (1, lk l 1), (5, lk l 5), (6, lk l 6), (7, lk l 7)], rows, low⟩ r := reg (keep := [0, 1, 5, 6, 7]) (ops := c34r18) rfl (by kernel_rfl) (by kernel_rfl)
@[simp] theorem uc34s19 : Ex F cx (.code c34s19 :: k) s r ↔ Ex F cx (.code (.block 0 (.loop c34l6)) :: k) s r := Iff.rfl
@[simp] theorem uc34k20 : Ex F cx (.code c34k20 :: k) ⟨mk 39 l, rows, low⟩ r ↔ Ex F cx k ⟨mk 39 [(7, (.int .i64 0)), (0, lk l 0), (1, lk l 1), (5, lk l 5), (6, lk l 6)], rows, low⟩ r := reg (keep := [0, 1, 5, 6]) (ops := c34r20) rfl (by kernel_rfl) (by kernel_rfl)
@[simp] theorem uc34s21 : Ex F cx (.code c34s21 :: k) s r ↔ Ex F cx (.code (.seq (.seq c34k20 c34s19) c34s5) :: k) s r := Iff.rfl
@[simp] theorem uc34k22 : Ex F cx (.code c34k22 :: k) ⟨mk 39 l, rows, low⟩ r ↔ Ex F cx k ⟨mk 39 [(6, (.bool false)), (0, lk l 0), (1, lk l 1), (5, lk l 5)], rows, low⟩ r := reg (keep := [0, 1, 5]) (ops := c34r22) rfl (by kernel_rfl) (by kernel_rfl)
@[simp] theorem uc34s23 : Ex F cx (.code c34s23 :: k) s r ↔ Ex F cx (.code (.seq c34k22 c34s21) :: k) s r := Iff.rfl
@[simp] theorem uc34k24 : Ex F cx (.code c34k24 :: k) ⟨mk 39 l, rows, low⟩ r ↔ Ex F cx k ⟨mk 39 [(5, .nilslice), (0, lk l 0), (1, lk l 1)], rows, low⟩ r := reg (keep := [0, 1]) (ops := c34r24) rfl (by kernel_rfl) (by kernel_rfl)
@[simp] theorem uc34s25 : Ex F cx (.code c34s25 :: k) s r ↔ Ex F cx (.code (.seq c34k24 c34s23) :: k) s r := Iff.rfl
@[simp] theorem uc34k26 : Ex F cx (.code c34k26 :: k) ⟨mk 39 l, rows, low⟩ r ↔ Ex F cx k ⟨mk 39 [(4, .nilslice), (0, lk l 0), (1, lk l 1)], rows, low⟩ r := reg (keep := [0, 1]) (ops := c34r26) rfl (by kernel_rfl) (by kernel_rfl)
def Jc34s1 (F : Nat → Option IFn) (cx : Ctx) (x5 : AV) (rows : List Row) (low : Nat) (r : AV × List Row × Nat → Prop) : Prop := Ex F cx (.code c34s1 :: []) ⟨mk 39 [(5, x5)], rows, low⟩ r
theorem jc34s1 : Ex F cx (.code c34s1 :: []) ⟨mk 39 l, rows, low⟩ r ↔ Jc34s1 F cx (lk l 5) rows low r := Ex_canon (keep := [5]) (by kernel_rfl)
def Jc34s10 (F : Nat → Option IFn) (cx : Ctx) (x0 x1 x5 x6 x7 x8 : AV) (rows : List Row) (low : Nat) (r : AV × List Row × Nat → Prop) : Prop := Ex F cx (.code c34s10 :: .inBlock 1 :: .code c34k7 :: .inLoop c34l6 :: .inBlock 0 :: .code c34s5 :: []) ⟨mk 39 [(0, x0), (1, x1), (5, x5), (6, x6), (7, x7), (8, x8)], rows, low⟩ r
theorem jc34s10 : Ex F cx (.code c34s10 :: .inBlock 1 :: .code c34k7 :: .inLoop c34l6 :: .inBlock 0 :: .code c34s5 :: []) ⟨mk 39 l, rows, low⟩ r ↔ Jc34s10 F cx (lk l 0) (lk l 1) (lk l 5) (lk l 6) (lk l 7) (lk l 8) rows low r := Ex_canon (keep := [0, 1, 5, 6, 7, 8]) (by kernel_rfl)
def Jc34s16 (F : Nat → Option IFn) (cx : Ctx) (x0 x1 x5 x6 x7 : AV) (rows : List Row) (low : Nat) (r : AV × List Row × Nat → Prop) : Prop := Ex F cx (.code c34s16 :: .inLoop c34l6 :: .inBlock 0 :: .code c34s5 :: []) ⟨mk 39 [(0, x0), (1, x1), (5, x5), (6, x6), (7, x7)], rows, low⟩ r
theorem jc34s16 : Ex F cx (.code c34s16 :: .inLoop c34l6 :: .inBlock 0 :: .code c34s5 :: []) ⟨mk 39 l, rows, low⟩ r ↔ Jc34s16 F cx (lk l 0) (lk l 1) (lk l 5) (lk l 6) (lk l 7) rows low r := Ex_canon (keep := [0, 1, 5, 6, 7]) (by kernel_rfl)
def Lc34l6 (F : Nat → Option IFn) (cx : Ctx) (x0 x1 x5 x6 x7 : AV) (rows : List Row) (low : Nat) (r : AV × List Row × Nat → Prop) : Prop := Ex F cx (.code c34l6 :: .inLoop c34l6 :: .inBlock 0 :: .code c34s5 :: []) ⟨mk 39 [(0, x0), (1, x1), (5, x5), (6, x6), (7, x7)], rows, low⟩ r
@[simp] theorem nc34l6 : Ex F cx (.inLoop c34l6 :: .inBlock 0 :: .code c34s5 :: []) ⟨mk 39 l, rows, low⟩ r ↔ Lc34l6 F cx (lk l 0) (lk l 1) (lk l 5) (lk l 6) (lk l 7) rows low r := loopN (keep := [0, 1, 5, 6, 7]) (by kernel_rfl)
@[simp] theorem ec34l6 : Ex F cx (.code (.loop c34l6) :: .inBlock 0 :: .code c34s5 :: []) ⟨mk 39 l, rows, low⟩ r ↔ Lc34l6 F cx (lk l 0) (lk l 1) (lk l 5) (lk l 6) (lk l 7) rows low r := loopE (keep := [0, 1, 5, 6, 7]) (by kernel_rfl)
@[simp] theorem uc34l6 : Ex F cx (.code c34l6 :: k) s r ↔ Ex F cx (.code (.seq (.seq c34k18 c34s17) c34s16) :: k) s r := Iff.rfl
@[simp] theorem uc34b : Ex F cx (.code c34b :: k) s r ↔ Ex F cx (.code (.seq c34k26 c34s25) :: k) s r := Iff.rfl
theorem i34 {x0 x1 : AV} (hF : F 34 = some c34) {q : AV × List Row × Option Nat} (h : Ex F (.fn [.t 4]) [.code c34b] ⟨mk 39 [(0, x0), (1, x1)], rows, rows.length⟩ fun r => fin rows r.1 r.2.1 r.2.2 = q) : Ret F 34 [x0, x1] rows = some q := Ret_mk hF h
@[simp] theorem uc35k0 : Ex F cx (.code c35k0 :: k) ⟨mk 31 l, rows, low⟩ r ↔ bnd (evP (rows ++ maskE 0 ([] : List (Nat × Row))) (.load1 (.c (lk l 2)))) fun v0 => bnd (evP (rows ++ maskE 2 ([] : List (Nat × Row))) (.len 0 (.c v0))) fun v1 => bnd (evP (rows ++ maskE 1 ([] : List (Nat × Row))) (.nilck (.c (lk l 8)))) fun v2 => bnd (evP (rows ++ maskE 9 ([] : List (Nat × Row))) (.fieldA 0 (.c v2))) fun v3 => bnd (evP (rows ++ maskE 25 ([] : List (Nat × Row))) (.idxA 13 13 (.c v3) (.c (.int .i64 0)))) fun v4 => bnd (evP (rows ++ maskE 63 ([] : List (Nat × Row))) (.idxA 13 1 (.c v4) (.c v1))) fun v5 => bnd (evP (rows ++ maskE 127 ([] : List (Nat × Row))) (.load1 (.c v5))) fun v6 => bnd (evP (rows ++ maskE 0 ([] : List (Nat × Row))) (.load1 (.c (lk l 2)))) fun v7 => bnd (opC F (rows ++ maskE 512 ([] : List (Nat × Row))) (rows.length + ([] : List (Nat × Row)).length) [v7] (.func 60 [])) fun q8 => q8.2.2 = rows.length + ([] : List (Nat × Row)).length ∧ bnd (some (([] : List (Nat × Row)) ++ List.map (fun (x : Row) => (10, x)) (q8.2.1.drop (rows.length + ([] : List (Nat × Row)).length)))) fun e8 => bnd (opC F (rows ++ maskE 1792 e8) (rows.length + e8.length) [lk l 8, q8.1] (.func 59 [])) fun q9 => q9.2.2 = rows.length + e8.length ∧ bnd (some (e8 ++ List.map (fun (x : Row) => (11, x)) (q9.2.1.drop (rows.length + e8.length)))) fun e9 => Ex F cx k ⟨mk 31 [(6, (.int .i64 0)), (5, q9.1), (4, v6), (30, q9.1), (29, q8.1), (28, v7), (27, lk l 8), (26, v6), (25, v5), (24, v4), (23, v3), (22, v2), (21, v1), (20, v0), (19, lk l 8), (2, lk l 2), (8, lk l 8)], (rows ++ List.map (fun (x : Nat × Row) => x.2) e9), low⟩ r := reg (keep := [2, 8]) (ops := c35r0) rfl (by kernel_rfl) (by kernel_rfl)
@[simp] theorem uc35s1 : Ex F cx (.code c35s1 :: k) s r ↔ Ex F cx (.code (.seq c35k0 .ret) :: k) s r := Iff.rfl
@[simp] theorem uc35k2 : Ex F cx (.code c35k2 :: k) ⟨mk 31 l, rows, low⟩ r ↔ bnd (evP rows (.load1 (.c (lk l 2)))) fun v0 => bnd (evP rows (.len 0 (.c v0))) fun v1 => bnd (evP rows (.mkfn 66 [(.c (lk l 2)), (.c (lk l 3))])) fun v2 => bnd (Ret F 57 [v1, v2] rows) fun q3 => Ex F cx k ⟨mk 31 [(8, q3.1), (18, q3.1), (17, v2), (16, v1), (15, v0), (2, lk l 2), (3, lk l 3)], q3.2.1, (lowO low q3.2.2)⟩ r := reg (keep := [2, 3]) (ops := c35r2) rfl (by kernel_rfl) (by kernel_rfl)
@[simp] theorem uc35s3 : Ex F cx (.code c35s3 :: k) s r ↔ Ex F cx (.code (.seq c35k2 c35s1) :: k) s r := Iff.rfl
@[simp] theorem uc35k4 : Ex F cx (.code c35k4 :: k) ⟨mk 31 l, rows, low⟩ r ↔ Ex F cx k ⟨mk 31 [(6, lk l 7), (5, .nilslice), (4, (.int .i64 0)), (14, lk l 7), (7, lk l 7)], rows, low⟩ r := reg (keep := [7]) (ops := c35r4) rfl (by kernel_rfl) (by kernel_rfl)
@[simp] theorem uc35s5 : Ex F cx (.code c35s5 :: k) s r ↔ Ex F cx (.code (.cond (.t 13) (.seq c35k4 .ret) .skip) :: k) s r := Iff.rfl
@[simp] theorem uc35k6 : Ex F cx (.code c35k6 :: k) ⟨mk 31 l, rows, low⟩ r ↔ bnd (evP rows (.bin .neq (.c (lk l 7)) (.c (.int .i64 0)))) fun v0 => Ex F cx k ⟨mk 31 [(13, v0), (12, lk l 7), (2, lk l 2), (3, lk l 3), (7, lk l 7)], rows, low⟩ r := reg (keep := [2, 3, 7]) (ops := c35r6) rfl (by kernel_rfl) (by kernel_rfl)
@[simp] theorem uc35s7 : Ex F cx (.code c35s7 :: k) s r ↔ Ex F cx (.code (.seq c35k6 c35s5) :: k) s r := Iff.rfl
@[simp] theorem uc35k8 : Ex F cx (.code c35k8 :: k) ⟨mk 31 l, rows, low⟩ r ↔ bnd (evP rows (.load1 (.c (lk l 2)))) fun v0 => bnd (evP rows (.load1 (.c (lk l 3)))) fun v1 => bnd (Ret F 65 [v0, v1] rows) fun q2 => Ex F cx k ⟨mk 31 [(7, q2.1), (11, q2.1), (10, v1), (9, v0), (2, lk l 2), (3, lk l 3)], q2.2.1, (lowO low q2.2.2)⟩ r := reg (keep := [2, 3]) (ops := c35r8) rfl (by kernel_rfl) (by kernel_rfl)
@[simp] theorem uc35s9 : Ex F cx (.code c35s9 :: k) s r ↔ Ex F cx (.code (.seq (.seq c35k8 c35s7) c35s3) :: k) s r := Iff.rfl
@[simp] theorem uc35k10 : Ex F cx (.code c35k10 :: k) ⟨mk 31 l, rows, low⟩ r ↔ bnd (evE rows low (.box (.c (lk l 0)))) fun q0 => bnd (evE q0.2.1 q0.2.2 (.box (.c (lk l 1)))) fun q1 => Ex F cx k ⟨mk 31 [(6, (.int .i64 0)), (5, .nilslice), (4, (.int .i64 0)), (3, q1.1), (2, q0.1), (0, lk l 0), (1, lk l 1)], q1.2.1, q1.2.2⟩ r := reg (keep := [0, 1]) (ops := c35r10) rfl (by kernel_rfl) (by kernel_rfl)
def Jc35s3 (F : Nat → Option IFn) (cx : Ctx) (x2 x3 : AV) (rows : List Row) (low : Nat) (r : AV × List Row × Nat → Prop) : Prop := Ex F cx (.code c35s3 :: []) ⟨mk 31 [(2, x2), (3, x3)], rows, low⟩ r
theorem jc35s3 : Ex F cx (.code c35s3 :: []) ⟨mk 31 l, rows, low⟩ r ↔ Jc35s3 F cx (lk l 2) (lk l 3) rows low r := Ex_canon (keep := [2, 3]) (by kernel_rfl)
@[simp] theorem uc35b : Ex F cx (.code c35b :: k) s r ↔ Ex F cx (.code (.seq c35k10 c35s9) :: k) s r := Iff.rfl
theorem i35 {x0 x1 : AV} (hF : F 35 = some c35) {q : AV × List Row × Option Nat} (h : Ex F (.fn [.t 4, .t 5, .t 6]) [.code c35b] ⟨mk 31 [(0, x0), (1, x1)], rows, rows.length⟩ fun r => fin rows r.1 r.2.1 r.2.2 = q) : Ret F 35 [x0, x1] rows = some q := Ret_mk hF h
@[simp] theorem uc65k0 : Ex F cx (.code c65k0 :: k) ⟨mk 27 l, rows, low⟩ r ↔ Ex F cx k ⟨mk 27 [(4, (.int .i64 0))], rows, low⟩ r := reg (keep := []) (ops := c65r0) rfl (by kernel_rfl) (by kernel_rfl)
@[simp] theorem uc65s1 : Ex F cx (.code c65s1 :: k) s r ↔ Ex F cx (.code (.seq c65k0 .ret) :: k) s r := Iff.rfl
@[simp] theorem uc65k2 : Ex F cx (.code c65k2 :: k) ⟨mk 27 l, rows, low⟩ r ↔ Ex F cx k ⟨mk 27 [(4, (.int .i64 1))], rows, low⟩ r := reg (keep := []) (ops := c65r2) rfl (by kernel_rfl) (by kernel_rfl)
@[simp] theorem uc65s3 : Ex F cx (.code c65s3 :: k) s r ↔ Ex F cx (.code (.cond (.t 26) (.seq c65k2 .ret) .skip) :: k) s r := Iff.rfl
@[simp] theorem uc65k4 : Ex F cx (.code c65k4 :: k) ⟨mk 27 l, rows, low⟩ r ↔ bnd (evP rows (.len 0 (.c (lk l 1)))) fun v0 => bnd (evP rows (.len 0 (.c (lk l 0)))) fun v1 => bnd (evP rows (.bin .add (.c v1) (.c (.int .i64 1)))) fun v2 => bnd (evP rows (.bin .neq (.c v0) (.c v2))) fun v3 => bnd (gv v3 false (evP rows (.mv (.c (lk l 1))))) fun v4 => gcall F v3 false rows low [(.int .i64 0), (.int .i64 1000), v4] (.func 55 []) fun v5 R5 L5 => bnd (gv v3 false (evP R5 (.un .not (.c v5)))) fun v6 => bnd (evP R5 (.pick (.c v3) (.c (.bool true)) (.c v6))) fun v7 => bnd (gv v7 false (evP R5 (.mv (.c (lk l 1))))) fun v8 => gcall F v7 false R5 L5 [v8] (.func 90 []) fun v9 R9 L9 => bnd (gv v7 false (evP R9 (.bin .eql (.c v9) (.c (.int .i64 0))))) fun v10 => bnd (evP R9 (.pick (.c v7) (.c (.bool true)) (.c v10))) fun v11 => Ex F cx k ⟨mk 27 [(26, v11), (25, v10), (24, v9), (23, v8), (22, v7), (21, v7), (20, v6), (19, v5), (18, v4), (17, v3), (16, v3), (15, v2), (14, v1), (13, lk l 0), (12, v0), (11, lk l 1), (0, lk l 0), (1, lk l 1)], R9, L9⟩ r := reg (keep := [0, 1]) (ops := c65r4) rfl (by kernel_rfl) (by kernel_rfl)
@[simp] theorem uc65s5 : Ex F cx (.code c65s5 :: k) s r ↔ Ex F cx (.code (.seq (.seq c65k4 c65s3) c65s1) :: k) s r := Iff.rfl
@[simp] theorem uc65k6 : Ex F cx (.code c65k6 :: k) ⟨mk 27 l, rows, low⟩ r ↔ Ex F cx k ⟨mk 27 [(4, lk l 5), (10, lk l 5), (5, lk l 5)], rows, low⟩ r := reg (keep := [5]) (ops := c65r6) rfl (by kernel_rfl) (by kernel_rfl)
@[simp] theorem uc65s7 : Ex F cx (.code c65s7 :: k) s r ↔ Ex F cx (.code (.cond (.t 9) (.seq c65k6 .ret) .skip) :: k) s r := Iff.rfl
@[simp] theorem uc65k8 : Ex F cx (.code c65k8 :: k) ⟨mk 27 l, rows, low⟩ r ↔ bnd (evP rows (.bin .neq (.c (lk l 5)) (.c (.int .i64 0)))) fun v0 => Ex F cx k ⟨mk 27 [(9, v0), (8, lk l 5), (0, lk l 0), (1, lk l 1), (5, lk l 5)], rows, low⟩ r := reg (keep := [0, 1, 5]) (ops := c65r8) rfl (by kernel_rfl) (by kernel_rfl)
@[simp] theorem uc65s9 : Ex F cx (.code c65s9 :: k) s r ↔ Ex F cx (.code (.seq c65k8 c65s7) :: k) s r := Iff.rfl
@[simp] theorem uc65k10 : Ex F cx (.code c65k10 :: k) ⟨mk 27 l, rows, low⟩ r ↔ bnd (Ret F 46 [lk l 0] rows) fun q0 => Ex F cx k ⟨mk 27 [(5, q0.1), (7, q0.1), (6, lk l 0), (0, lk l 0), (1, lk l 1)], q0.2.1, (lowO low q0.2.2)⟩ r := reg (keep := [0, 1]) (ops := c65r10) rfl (by kernel_rfl) (by kernel_rfl)
@[simp] theorem uc65s11 : Ex F cx (.code c65s11 :: k) s r ↔ Ex F cx (.code (.seq (.seq c65k10 c65s9) c65s5) :: k) s r := Iff.rfl
@[simp] theorem uc65k12 : Ex F cx (.code c65k12 :: k) ⟨mk 27 l, rows, low⟩ r ↔ Ex F cx k ⟨mk 27 [(4, (.int .i64 0)), (0, lk l 0), (1, lk l 1)], rows, low⟩ r := reg (keep := [0, 1]) (ops := c65r12) rfl (by kernel_rfl) (by kernel_rfl)
def Jc65s1 (F : Nat → Option IFn) (cx : Ctx) (rows : List Row) (low : Nat) (r : AV × List Row × Nat → Prop) : Prop := Ex F cx (.code c65s1 :: []) ⟨mk 27 [], rows, low⟩ r
theorem jc65s1 : Ex F cx (.code c65s1 :: []) ⟨mk 27 l, rows, low⟩ r ↔ Jc65s1 F cx  rows low r := Ex_canon (keep := []) (by kernel_rfl)
def Jc65s5 (F : Nat → Option IFn) (cx : Ctx) (x0 x1 : AV) (rows : List Row) (low : Nat) (r : AV × List Row × Nat → Prop) : Prop := Ex F cx (.code c65s5 :: []) ⟨mk 27 [(0, x0), (1, x1)], rows, low⟩ r
theorem jc65s5 : Ex F cx (.code c65s5 :: []) ⟨mk 27 l, rows, low⟩ r ↔ Jc65s5 F cx (lk l 0) (lk l 1) rows low r := Ex_canon (keep := [0, 1]) (by kernel_rfl)
@[simp] theorem uc65b : Ex F cx (.code c65b :: k) s r ↔ Ex F cx (.code (.seq c65k12 c65s11) :: k) s r := Iff.rfl
theorem i65 {x0 x1 : AV} (hF : F 65 = some c65) {q : AV × List Row × Option Nat} (h : Ex F (.fn [.t 4]) [.code c65b] ⟨mk 27 [(0, x0), (1, x1)], rows, rows.length⟩ fun r => fin rows r.1 r.2.1 r.2.2 = q) : Ret F 65 [x0, x1] rows = some q := Ret_mk hF h
@[simp] theorem uc66k0 : Ex F cx (.code c66k0 :: k) ⟨mk 28 l, rows, low⟩ r ↔ bnd (evP (rows ++ maskE 0 ([] : List (Nat × Row))) (.load1 (.c (lk l 4)))) fun v0 => bnd (evP (rows ++ maskE 3 ([] : List (Nat × Row))) (.idxS 1 (.c v0) (.c (lk l 1)))) fun v1 => bnd (evP (rows ++ maskE 7 ([] : List (Nat × Row))) (.load1 (.c v1))) fun v2 => bnd (evP (rows ++ maskE 0 ([] : List (Nat × Row))) (.load1 (.c (lk l 5)))) fun v3 => bnd (evP (rows ++ maskE 0 ([] : List (Nat × Row))) (.fieldA 0 (.c (lk l 6)))) fun v4 => bnd (evP (rows ++ maskE 32 ([] : List (Nat × Row))) (.load1 (.c v4))) fun v5 => bnd (evP (rows ++ maskE 0 ([] : List (Nat × Row))) (.fieldA 1 (.c (lk l 6)))) fun v6 => bnd (evP (rows ++ maskE 128 ([] : List (Nat × Row))) (.load1 (.c v6))) fun v7 => bnd (evP (rows ++ maskE 384 ([] : List (Nat × Row))) (.bin .add (.c v7) (.c (.int .i64 1)))) fun v8 => bnd (evP (rows ++ maskE 1008 ([] : List (Nat × Row))) (.sliceS 1 (.c v3) (some (.c v5)) (some (.c v8)) none)) fun v9 => bnd (opC F (rows ++ maskE 2032 ([] : List (Nat × Row))) (rows.length + ([] : List (Nat × Row)).length) [v9] (.func 67 [])) fun q10 => q10.2.2 = rows.length + ([] : List (Nat × Row)).length ∧ bnd (some (([] : List (Nat × Row)) ++ List.map (fun (x : Row) => (11, x)) (q10.2.1.drop (rows.length + ([] : List (Nat × Row)).length)))) fun e10 => bnd (evP (rows ++ maskE 4095 e10) (.bin .mul (.c v2) (.c q10.1))) fun v11 => bnd (evP (rows ++ maskE 16383 e10) (.bin .add (.c v11) (.c (lk l 2)))) fun v12 => bnd (evP (rows ++ List.map (fun (x : Nat × Row) => x.2) e10) (.bin .add (.c v12) (.c (lk l 3)))) fun v13 => Ex F cx k ⟨mk 28 [(10, v13), (27, v13), (26, lk l 3), (25, v12), (24, lk l 2), (23, v11), (22, q10.1), (21, v9), (20, v8), (19, v7), (18, v6), (17, v5), (16, v4), (15, v3), (14, v2), (13, v1), (12, lk l 1), (11, v0), (1, lk l 1), (2, lk l 2), (3, lk l 3), (4, lk l 4), (5, lk l 5), (6, lk l 6)], (rows ++ List.map (fun (x : Nat × Row) => x.2) e10), low⟩ r := reg (keep := [1, 2, 3, 4, 5, 6]) (ops := c66r0) rfl (by kernel_rfl) (by kernel_rfl)
@[simp] theorem uc66s1 : Ex F cx (.code c66s1 :: k) s r ↔ Ex F cx (.code (.seq c66k0 .ret) :: k) s r := Iff.rfl
@[simp] theorem uc66k2 : Ex F cx (.code c66k2 :: k) ⟨mk 28 l, rows, low⟩ r ↔ bnd (evE rows low (.box (.c (lk l 0)))) fun q0 => Ex F cx k ⟨mk 28 [(10, (.int .i64 0)), (6, q0.1), (0, lk l 0), (1, lk l 1), (2, lk l 2), (3, lk l 3), (4, lk l 4), (5, lk l 5)], q0.2.1, q0.2.2⟩ r := reg (keep := [0, 1, 2, 3, 4, 5]) (ops := c66r2) rfl (by kernel_rfl) (by kernel_rfl)
@[simp] theorem uc66b : Ex F cx (.code c66b :: k) s r ↔ Ex F cx (.code (.seq c66k2 c66s1) :: k) s r := Iff.rfl
theorem i66 {x0 x1 x2 x3 x4 x5 : AV} (hF : F 66 = some c66) {q : AV × List Row × Option Nat} (h : Ex F (.fn [.t 10]) [.code c66b] ⟨mk 28 [(0, x0), (1, x1), (2, x2), (3, x3), (4, x4), (5, x5)], rows, rows.length⟩ fun r => fin rows r.1 r.2.1 r.2.2 = q) : Ret F 66 [x0, x1, x2, x3, x4, x5] rows = some q := Ret_mk hF h
@[simp] theorem uc67k0 : Ex F cx (.code c67k0 :: k) ⟨mk 17 l, rows, low⟩ r ↔ Ex F cx k ⟨mk 17 [(2, lk l 3), (16, lk l 3), (3, lk l 3)], rows, low⟩ r := reg (keep := [3]) (ops := c67r0) rfl (by kernel_rfl) (by kernel_rfl)
@[simp] theorem uc67s1 : Ex F cx (.code c67s1 :: k) s r ↔ Ex F cx (.code (.seq c67k0 .ret) :: k) s r := Iff.rfl
@[simp] theorem uc67k3 : Ex F cx (.code c67k3 :: k) ⟨mk 17 l, rows, low⟩ r ↔ bnd (evP rows (.bin .add (.c (lk l 8)) (.c (.int .i64 1)))) fun v0 => Ex F cx k ⟨mk 17 [(8, v0), (15, v0), (3, lk l 3), (6, lk l 6), (7, lk l 7), (8, lk l 8)], rows, low⟩ r := reg (keep := [3, 6, 7, 8]) (ops := c67r3) rfl (by kernel_rfl) (by kernel_rfl)
@[simp] theorem uc67k4 : Ex F cx (.code c67k4 :: k) ⟨mk 17 l, rows, low⟩ r ↔ bnd (evP rows (.bin .add (.c (lk l 3)) (.c (lk l 5)))) fun v0 => Ex F cx k ⟨mk 17 [(3, v0), (14, v0), (13, lk l 5), (12, lk l 3), (3, lk l 3), (5, lk l 5), (6, lk l 6), (7, lk l 7), (8, lk l 8)], rows, low⟩ r := reg (keep := [3, 5, 6, 7, 8]) (ops := c67r4) rfl (by kernel_rfl) (by kernel_rfl)
@[simp] theorem uc67k5 : Ex F cx (.code c67k5 :: k) ⟨mk 17 l, rows, low⟩ r ↔ bnd (evP rows (.idxS 1 (.c (lk l 6)) (.c (lk l 8)))) fun v0 => bnd (evP rows (.load1 (.c v0))) fun v1 => Ex F cx k ⟨mk 17 [(5, v1), (11, v1), (10, v0), (3, lk l 3), (6, lk l 6), (7, lk l 7), (8, lk l 8)], rows, low⟩ r := reg (keep := [3, 6, 7, 8]) (ops := c67r5) rfl (by kernel_rfl) (by kernel_rfl)
@[simp] theorem uc67s6 : Ex F cx (.code c67s6 :: k) s r ↔ Ex F cx (.code (.seq (.block 1 (.seq c67k5 c67k4)) c67k3) :: k) s r := Iff.rfl
@[simp] theorem uc67s7 : Ex F cx (.code c67s7 :: k) s r ↔ Ex F cx (.code (.seq (.cond (.t 9) .skip (.exit 0)) c67s6) :: k) s r := Iff.rfl
@[simp] theorem uc67k8 : Ex F cx (.code c67k8 :: k) ⟨mk 17 l, rows, low⟩ r ↔ bnd (evP rows (.bin .lss (.c (lk l 8)) (.c (lk l 7)))) fun v0 => Ex F cx k ⟨mk 17 [(9, v0), (3, lk l 3), (6, lk l 6), (7, lk l 7), (8, lk l 8)], rows, low⟩ r := reg (keep := [3, 6, 7, 8]) (ops := c67r8) rfl (by kernel_rfl) (by kernel_rfl)
@[simp] theorem uc67s9 : Ex F cx (.code c67s9 :: k) s r ↔ Ex F cx (.code (.block 0 (.loop c67l2)) :: k) s r := Iff.rfl
@[simp] theorem uc67k10 : Ex F cx (.code c67k10 :: k) ⟨mk 17 l, rows, low⟩ r ↔ bnd (evP rows (.len 0 (.c (lk l 0)))) fun v0 => Ex F cx k ⟨mk 17 [(8, (.int .i64 0)), (7, v0), (6, lk l 0), (0, lk l 0), (3, lk l 3)], rows, low⟩ r := reg (keep := [0, 3]) (ops := c67r10) rfl (by kernel_rfl) (by kernel_rfl)
@[simp] theorem uc67s11 : Ex F cx (.code c67s11 :: k) s r ↔ Ex F cx (.code (.seq (.seq c67k10 c67s9) c67s1) :: k) s r := Iff.rfl
@[simp] theorem uc67k12 : Ex F cx (.code c67k12 :: k) ⟨mk 17 l, rows, low⟩ r ↔ Ex F cx k ⟨mk 17 [(3, (.int .i64 0)), (0, lk l 0)], rows, low⟩ r := reg (keep := [0]) (ops := c67r12) rfl (by kernel_rfl) (by kernel_rfl)
@[simp] theorem uc67s13 : Ex F cx (.code c67s13 :: k) s r ↔ Ex F cx (.code (.seq c67k12 c67s11) :: k) s r := Iff.rfl
@[simp] theorem uc67k14 : Ex F cx (.code c67k14 :: k) ⟨mk 17 l, rows, low⟩ r ↔ Ex F cx k ⟨mk 17 [(2, (.int .i64 0)), (0, lk l 0)], rows, low⟩ r := reg (keep := [0]) (ops := c67r14) rfl (by kernel_rfl) (by kernel_rfl)
def Jc67s6 (F : Nat → Option IFn) (cx : Ctx) (x3 x6 x7 x8 : AV) (rows : List Row) (low : Nat) (r : AV × List Row × Nat → Prop) : Prop := Ex F cx (.code c67s6 :: .inLoop c67l2 :: .inBlock 0 :: .code c67s1 :: []) ⟨mk 17 [(3, x3), (6, x6), (7, x7), (8, x8)], rows, low⟩ r
theorem jc67s6 : Ex F cx (.code c67s6 :: .inLoop c67l2 :: .inBlock 0 :: .code c67s1 :: []) ⟨mk 17 l, rows, low⟩ r ↔ Jc67s6 F cx (lk l 3) (lk l 6) (lk l 7) (lk l 8) rows low r := Ex_canon (keep := [3, 6, 7, 8]) (by kernel_rfl)
def Lc67l2 (F : Nat → Option IFn) (cx : Ctx) (x3 x6 x7 x8 : AV) (rows : List Row) (low : Nat) (r : AV × List Row × Nat → Prop) : Prop := Ex F cx (.code c67l2 :: .inLoop c67l2 :: .inBlock 0 :: .code c67s1 :: []) ⟨mk 17 [(3, x3), (6, x6), (7, x7), (8, x8)], rows, low⟩ r
@[simp] theorem nc67l2 : Ex F cx (.inLoop c67l2 :: .inBlock 0 :: .code c67s1 :: []) ⟨mk 17 l, rows, low⟩ r ↔ Lc67l2 F cx (lk l 3) (lk l 6) (lk l 7) (lk l 8) rows low r := loopN (keep := [3, 6, 7, 8]) (by kernel_rfl)
@[simp] theorem ec67l2 : Ex F cx (.code (.loop c67l2) :: .inBlock 0 :: .code c67s1 :: []) ⟨mk 17 l, rows, low⟩ r ↔ Lc67l2 F cx (lk l 3) (lk l 6) (lk l 7) (lk l 8) rows low r := loopE (keep := [3, 6, 7, 8]) (by kernel_rfl)
@[simp] theorem uc67l2 : Ex F cx (.code c67l2 :: k) s r ↔ Ex F cx (.code (.seq c67k8 c67s7) :: k) s r := Iff.rfl
@[simp] theorem uc67b : Ex F cx (.code c67b :: k) s r ↔ Ex F cx (.code (.seq c67k14 c67s13) :: k) s r := Iff.rfl
theorem i67 {x0 : AV} (hF : F 67 = some c67) {q : AV × List Row × Option Nat} (h : Ex F (.fn [.t 2]) [.code c67b] ⟨mk 17 [(0, x0)], rows, rows.length⟩ fun r => fin rows r.1 r.2.1 r.2.2 = q) : Ret F 67 [x0] rows = some q := Ret_mk hF h
@[simp] theorem uc90k0 : Ex F cx (.code c90k0 :: k) ⟨mk 25 l, rows, low⟩ r ↔ Ex F cx k ⟨mk 25 [(2, lk l 3), (24, lk l 3), (3, lk l 3)], rows, low⟩ r := reg (keep := [3]) (ops := c90r0) rfl (by kernel_rfl) (by kernel_rfl)
@[simp] theorem uc90s1 : Ex F cx (.code c90s1 :: k) s r ↔ Ex F cx (.code (.seq c90k0 .ret) :: k) s r := Iff.rfl
@[simp] theorem uc90k3 : Ex F cx (.code c90k3 :: k) ⟨mk 25 l, rows, low⟩ r ↔ bnd (evP rows (.bin .add (.c (lk l 4)) (.c (.int .i64 1)))) fun v0 => Ex F cx k ⟨mk 25 [(4, v0), (17, v0), (16, lk l 4), (0, lk l 0), (3, lk l 3), (4, lk l 4)], rows, low⟩ r := reg (keep := [0, 3, 4]) (ops := c90r3) rfl (by kernel_rfl) (by kernel_rfl)
@[simp] theorem uc90k4 : Ex F cx (.code c90k4 :: k) ⟨mk 25 l, rows, low⟩ r ↔ bnd (evP rows (.idxS 1 (.c (lk l 0)) (.c (lk l 4)))) fun v0 => bnd (evP rows (.load1 (.c v0))) fun v1 => bnd (evP rows (.mx [(.c (lk l 3)), (.c v1)])) fun v2 => Ex F cx k ⟨mk 25 [(3, v2), (23, v2), (22, v1), (21, v0), (20, lk l 4), (19, lk l 0), (18, lk l 3), (0, lk l 0), (3, lk l 3), (4, lk l 4)], rows, low⟩ r := reg (keep := [0, 3, 4]) (ops := c90r4) rfl (by kernel_rfl) (by kernel_rfl)
@[simp] theorem uc90s5 : Ex F cx (.code c90s5 :: k) s r ↔ Ex F cx (.code (.seq (.block 1 c90k4) c90k3) :: k) s r := Iff.rfl
@[simp] theorem uc90s6 : Ex F cx (.code c90s6 :: k) s r ↔ Ex F cx (.code (.cond (.t 15) .skip (.exit 0)) :: k) s r := Iff.rfl
@[simp] theorem uc90k7 : Ex F cx (.code c90k7 :: k) ⟨mk 25 l, rows, low⟩ r ↔ bnd (evP rows (.len 0 (.c (lk l 0)))) fun v0 => bnd (evP rows (.bin .lss (.c (lk l 4)) (.c v0))) fun v1 => Ex F cx k ⟨mk 25 [(15, v1), (14, v0), (13, lk l 0), (12, lk l 4), (0, lk l 0), (3, lk l 3), (4, lk l 4)], rows, low⟩ r := reg (keep := [0, 3, 4]) (ops := c90r7) rfl (by kernel_rfl) (by kernel_rfl)
@[simp] theorem uc90s8 : Ex F cx (.code c90s8 :: k) s r ↔ Ex F cx (.code (.block 0 (.loop c90l2)) :: k) s r := Iff.rfl
@[simp] theorem uc90k9 : Ex F cx (.code c90k9 :: k) ⟨mk 25 l, rows, low⟩ r ↔ Ex F cx k ⟨mk 25 [(4, (.int .i64 1)), (0, lk l 0), (3, lk l 3)], rows, low⟩ r := reg (keep := [0, 3]) (ops := c90r9) rfl (by kernel_rfl) (by kernel_rfl)
@[simp] theorem uc90s10 : Ex F cx (.code c90s10 :: k) s r ↔ Ex F cx (.code (.seq (.seq c90k9 c90s8) c90s1) :: k) s r := Iff.rfl
@[simp] theorem uc90k11 : Ex F cx (.code c90k11 :: k) ⟨mk 25 l, rows, low⟩ r ↔ bnd (evP rows (.idxS 1 (.c (lk l 0)) (.c (.int .i64 0)))) fun v0 => bnd (evP rows (.load1 (.c v0))) fun v1 => Ex F cx k ⟨mk 25 [(3, v1), (11, v1), (10, v0), (9, lk l 0), (0, lk l 0)], rows, low⟩ r := reg (keep := [0]) (ops := c90r11) rfl (by kernel_rfl) (by kernel_rfl)
@[simp] theorem uc90s12 : Ex F cx (.code c90s12 :: k) s r ↔ Ex F cx (.code (.seq c90k11 c90s10) :: k) s r := Iff.rfl
@[simp] theorem uc90k13 : Ex F cx (.code c90k13 :: k) ⟨mk 25 l, rows, low⟩ r ↔ bnd (evP rows (.mkif 9 (.c (.str ⟨#[115, 108, 105, 99, 101, 115, 46, 77, 97, 120, 58, 32, 101, 109, 112, 116, 121, 32, 108, 105, 115, 116]⟩)))) fun v0 => bnd (evE rows low (.bad)) fun q1 => Ex F cx k ⟨mk 25 [(8, v0), (0, lk l 0)], q1.2.1, q1.2.2⟩ r := reg (keep := [0]) (ops := c90r13) rfl (by kernel_rfl) (by kernel_rfl)
@[simp] theorem uc90s14 : Ex F cx (.code c90s14 :: k) s r ↔ Ex F cx (.code (.cond (.t 7) c90k13 .skip) :: k) s r := Iff.rfl
@[simp] theorem uc90k15 : Ex F cx (.code c90k15 :: k) ⟨mk 25 l, rows, low⟩ r ↔ bnd (evP rows (.len 0 (.c (lk l 0)))) fun v0 => bnd (evP rows (.bin .lss (.c v0) (.c (.int .i64 1)))) fun v1 => Ex F cx k ⟨mk 25 [(7, v1), (6, v0), (5, lk l 0), (0, lk l 0)], rows, low⟩ r := reg (keep := [0]) (ops := c90r15) rfl (by kernel_rfl) (by kernel_rfl)
@[simp] theorem uc90s16 : Ex F cx (.code c90s16 :: k) s r ↔ Ex F cx (.code (.seq (.seq c90k15 c90s14) c90s12) :: k) s r := Iff.rfl
@[simp] theorem uc90k17 : Ex F cx (.code c90k17 :: k) ⟨mk 25 l, rows, low⟩ r ↔ Ex F cx k ⟨mk 25 [(2, (.int .i64 0)), (0, lk l 0)], rows, low⟩ r := reg (keep := [0]) (ops := c90r17) rfl (by kernel_rfl) (by kernel_rfl)
def Jc90s5 (F : Nat → Option IFn) (cx : Ctx) (x0 x3 x4 : AV) (rows : List Row) (low : Nat) (r : AV × List Row × Nat → Prop) : Prop := Ex F cx (.code c90s5 :: .inLoop c90l2 :: .inBlock 0 :: .code c90s1 :: []) ⟨mk 25 [(0, x0), (3, x3), (4, x4)], rows, low⟩ r
theorem jc90s5 : Ex F cx (.code c90s5 :: .inLoop c90l2 :: .inBlock 0 :: .code c90s1 :: []) ⟨mk 25 l, rows, low⟩ r ↔ Jc90s5 F cx (lk l 0) (lk l 3) (lk l 4) rows low r := Ex_canon (keep := [0, 3, 4]) (by kernel_rfl)
def Lc90l2 (F : Nat → Option IFn) (cx : Ctx) (x0 x3 x4 : AV) (rows : List Row) (low : Nat) (r : AV × List Row × Nat → Prop) : Prop := Ex F cx (.code c90l2 :: .inLoop c90l2 :: .inBlock 0 :: .code c90s1 :: []) ⟨mk 25 [(0, x0), (3, x3), (4, x4)], rows, low⟩ r
@[simp] theorem nc90l2 : Ex F cx (.inLoop c90l2 :: .inBlock 0 :: .code c90s1 :: []) ⟨mk 25 l, rows, low⟩ r ↔ Lc90l2 F cx (lk l 0) (lk l 3) (lk l 4) rows low r := loopN (keep := [0, 3, 4]) (by kernel_rfl)
@[simp] theorem ec90l2 : Ex F cx (.code (.loop c90l2) :: .inBlock 0 :: .code c90s1 :: []) ⟨mk 25 l, rows, low⟩ r ↔ Lc90l2 F cx (lk l 0) (lk l 3) (lk l 4) rows low r := loopE (keep := [0, 3, 4]) (by kernel_rfl)
@[simp] theorem uc90l2 : Ex F cx (.code c90l2 :: k) s r ↔ Ex F cx (.code (.seq (.seq c90k7 c90s6) c90s5) :: k) s r := Iff.rfl
def Jc90s12 (F : Nat → Option IFn) (cx : Ctx) (x0 : AV) (rows : List Row) (low : Nat) (r : AV × List Row × Nat → Prop) : Prop := Ex F cx (.code c90s12 :: []) ⟨mk 25 [(0, x0)], rows, low⟩ r
theorem jc90s12 : Ex F cx (.code c90s12 :: []) ⟨mk 25 l, rows, low⟩ r ↔ Jc90s12 F cx (lk l 0) rows low r := Ex_canon (keep := [0]) (by kernel_rfl)
@[simp] theorem uc90b : Ex F cx (.code c90b :: k) s r ↔ Ex F cx (.code (.seq c90k17 c90s16) :: k) s r := Iff.rfl
theorem i90 {x0 : AV} (hF : F 90 = some c90) {q : AV × List Row × Option Nat} (h : Ex F (.fn [.t 2]) [.code c90b] ⟨mk 25 [(0, x0)], rows, rows.length⟩ fun r => fin rows r.1 r.2.1 r.2.2 = q) : Ret F 90 [x0] rows = some q := Ret_mk hF h
end Go.Abs

set_option linter.unusedVariables false
set_option linter.unusedSimpArgs false
namespace Go.Abs
open Rd (Cp IsL_one IsL_cells IsL_tail lowO_n)
theorem IsL_mid {rows : List Row} {v : AV} {l : List Int} (h : IsL rows v l) (hc : Cp 1 v) {a b : Nat} (hab : a ≤ b) (hb : b ≤ l.length) : ∃ v', sliceV 1 v (some (.int .i64 a)) (some (.int .i64 b)) none = some v' ∧ IsL rows v' ((l.drop a).take (b - a)) ∧ Cp 1 v' := by
  rcases El_cases h with ⟨rfl, _, h0⟩ | ⟨id, off, c, vs, rfl, hr, hs⟩
  · have h1 : b = 0 := by omega
    have h2 : a = 0 := by omega
    subst h1 h2
    refine ⟨.nilslice, by simp [sliceV, bound?], ?_, trivial⟩
    simpa using IsL_nil
  · have hl := seg_len hs
    simp only [Nat.mul_one] at hl
    have hlen : ((l.drop a).take (b - a)).length = b - a := by simp; omega
    have hs' : seg vs (off + a) ((l.drop a).take (b - a)).length = some (nums .i64 ((l.drop a).take (b - a))) := by
      have := seg_seg (j := a) (m := b - a) hs (by omega)
      rw [hlen, this]
      unfold seg
      rw [if_pos (by simp; omega)]
      simp [nums, List.map_take, List.map_drop]
    have fin1 : ∀ c' o, seg vs o ((l.drop a).take (b - a)).length = some (nums .i64 ((l.drop a).take (b - a))) → IsL rows (.slice id o (b - a) c') ((l.drop a).take (b - a)) := by
      intro c' o h
      have := IsL_mk (n := 0) (c := c') hr h
      rwa [hlen] at this
    cases c with
    | at_ m =>
      simp only [Cp] at hc
      by_cases hm : m = a
      · refine ⟨.slice id off (b - a) (.at_ (m - a)), ?_, ?_, by simp only [Cp]; omega⟩
        · simp only [sliceV, bound?]
          rw [if_pos (by omega)]
          simp
          rw [if_pos (by omega)]
          simp [hm]
        · refine fin1 _ _ ?_
          have e : b - a = 0 := by omega
          have e2 : (l.drop a).take (b - a) = [] := by rw [e]; simp
          rw [e2]
          unfold seg; rw [if_pos (by simp; omega)]; simp [nums]
      · refine ⟨.slice id (off + a) (b - a) (.at_ (m - a)), ?_, fin1 _ _ hs', by simp only [Cp]; omega⟩
        simp only [sliceV, bound?]
        rw [if_pos (by omega)]
        simp
        rw [if_pos (by omega)]
        simp [hm]
    | op sz =>
      simp only [Cp] at hc
      subst hc
      refine ⟨.slice id (off + a) (b - a) (.op 1), ?_, fin1 _ _ hs', rfl⟩
      simp only [sliceV, bound?]
      rw [if_pos (by omega)]
      simp
      rw [if_pos (by omega)]
theorem sum_bd {m : Int} : ∀ {l : List Int}, (∀ x ∈ l, 0 ≤ x ∧ x ≤ m) → 0 ≤ l.sum ∧ l.sum ≤ m * l.length
  | [], _ => by simp
  | x :: l, h => by
    have h1 := sum_bd (l := l) fun y hy => h y (List.mem_cons_of_mem _ hy)
    have h2 := h x List.mem_cons_self
    simp only [List.sum_cons, List.length_cons, Int.natCast_add, Int.mul_add, Int.cast_ofNat_Int, Int.mul_one]
    omega
theorem sum_take {l : List Int} {i : Nat} (h : i < l.length) : (l.take (i + 1)).sum = (l.take i).sum + gI l i := by
  rw [List.take_add_one, gI_get h]; simp
section
variable {rows : List Row}
theorem sum_loop {v : AV} {l : List Int} (h : IsL rows v l) (hb : ∀ x ∈ l, 0 ≤ x ∧ x ≤ 1000000000) (hl : l.length ≤ 1000) : ∀ (n i : Nat), l.length - i = n → i ≤ l.length →
    Lc67l2 F (.fn [.t 2]) (.int .i64 (l.take i).sum) v (.int .i64 l.length) (.int .i64 i) rows rows.length (fun r => fin rows r.1 r.2.1 r.2.2 = (.int .i64 l.sum, rows, none)) := by
  intro n
  induction n with
  | zero =>
    intro i hn h1
    have e : l.take i = l := List.take_of_length_le (by omega)
    unfold Lc67l2
    simp [show ¬ (i < l.length) by omega, e]
  | succ n ih =>
    intro i hn h1
    have hi : i < l.length := by omega
    have hs := sum_bd (l := l.take (i + 1)) (m := 1000000000) fun x hx => hb x (List.mem_of_mem_take hx)
    have hs2 : (l.take (i + 1)).length ≤ 1000 := by simp; omega
    have w1 : IntKind.i64.wrap ((i : Int) + 1) = i + 1 := wrap64 (by omega) (by omega)
    have w2 : IntKind.i64.wrap ((l.take i).sum + gI l i) = (l.take (i + 1)).sum := by
      rw [← sum_take hi]
      exact wrap64 (by omega) (by omega)
    have := ih (i + 1) (by omega) (by omega)
    unfold Lc67l2
    simp (disch := first | omega | (simp; done) | fail) [hi, idxL0 h, loadL0 h, w1, w2]
    simpa using this
/-- sum. -/
theorem sum_ret {v : AV} {l : List Int} (h : IsL rows v l) (hb : ∀ x ∈ l, 0 ≤ x ∧ x ≤ 1000000000) (hl : l.length ≤ 1000) : Ret F 67 [v] rows = some (.int .i64 l.sum, rows, none) := by
  refine i67 F67 ?_
  have := sum_loop h hb hl _ 0 rfl (by omega)
  simp [lenL0 h]
  simpa using this
/-- The greatest number of a list. -/
def fmax (l : List Int) : Int := l.foldl max (gI l 0)
theorem foldl_max_ge : ∀ (l : List Int) (a : Int), a ≤ l.foldl max a ∧ (∀ x ∈ l, x ≤ l.foldl max a) ∧ (l.foldl max a = a ∨ l.foldl max a ∈ l)
  | [], a => by simp
  | x :: l, a => by
    obtain ⟨h1, h2, h3⟩ := foldl_max_ge l (max a x)
    simp only [List.foldl_cons, List.mem_cons]
    refine ⟨by omega, ?_, ?_⟩
    · rintro y (rfl | hy)
      · omega
      · exact h2 y hy
    · rcases h3 with h3 | h3
      · rw [h3]; omega
      · exact .inr (.inr h3)
theorem fmax_ge {l : List Int} : ∀ x ∈ l, x ≤ fmax l := fun x hx => (foldl_max_ge l _).2.1 x hx
theorem fmax_take {l : List Int} {a : Int} {i : Nat} (h : i < l.length) : (l.take (i + 1)).foldl max a = max ((l.take i).foldl max a) (gI l i) := by
  rw [List.take_add_one, gI_get h]; simp
theorem max_loop {v : AV} {l : List Int} (h : IsL rows v l) (hl : l.length ≤ 1000) : ∀ (n i : Nat), l.length - i = n → i ≤ l.length →
    Lc90l2 F (.fn [.t 2]) v (.int .i64 ((l.take i).foldl max (gI l 0))) (.int .i64 i) rows rows.length (fun r => fin rows r.1 r.2.1 r.2.2 = (.int .i64 (fmax l), rows, none)) := by
  intro n
  induction n with
  | zero =>
    intro i hn h1
    have e : l.take i = l := List.take_of_length_le (by omega)
    unfold Lc90l2
    simp [lenL0 h, show ¬ (i < l.length) by omega, e, fmax]
  | succ n ih =>
    intro i hn h1
    have hi : i < l.length := by omega
    have w1 : IntKind.i64.wrap ((i : Int) + 1) = i + 1 := wrap64 (by omega) (by omega)
    have := ih (i + 1) (by omega) (by omega)
    rw [fmax_take hi] at this
    unfold Lc90l2
    simp (disch := first | omega | (simp; done) | fail) [hi, lenL0 h, idxL0 h, loadL0 h, w1]
    simpa using this
/-- slices.Max. -/
theorem max_ret {v : AV} {l : List Int} (h : IsL rows v l) (h0 : l ≠ []) (hl : l.length ≤ 1000) : Ret F 90 [v] rows = some (.int .i64 (fmax l), rows, none) := by
  have hp : 0 < l.length := List.length_pos_iff.2 h0
  have hm := max_loop h hl _ 1 rfl (by omega)
  have e : (l.take 1).foldl max (gI l 0) = gI l 0 := by
    have := fmax_take (l := l) (a := gI l 0) hp
    simpa using this
  rw [e] at hm
  refine i90 F90 ?_
  simp (disch := first | omega | (simp; done) | fail) [lenL0 h, idxL0 h (i := 0), loadL00 h, hp, show (1 : Int) ≤ l.length by omega, show ¬ (l.length < 1) by omega, h0]
  simpa using hm
/-- Weights that are right. -/
def wOK (n : Nat) (u : List Int) : Prop := u.length = n + 1 ∧ (u.all fun x => decide (0 ≤ x ∧ x ≤ 1000)) = true ∧ fmax u ≠ 0
instance (n : Nat) (u : List Int) : Decidable (wOK n u) := by unfold wOK; infer_instance
/-- openWeights, of costs that are right. -/
theorem openWeights_ret {cv uv : AV} {c u : List Int} (hc : IsL rows cv c) (hn : c.length ≤ 12) (hall : (c.all fun x => decide (1 ≤ x ∧ x ≤ 1000)) = true) (hu : IsL rows uv u) (hul : u.length < 4611686018427387904) : Ret F 65 [cv, uv] rows = some (.int .i64 (if wOK c.length u then 0 else 1), rows, none) := by
  have h1 := Check_ret hc (by omega)
  rw [if_pos ⟨hn, hall⟩] at h1
  have h2 := are_ret hu hul (lo := 0) (hi := 1000)
  have w1 : IntKind.i64.wrap ((c.length : Int) + 1) = c.length + 1 := wrap64 (by omega) (by omega)
  refine i65 F65 ?_
  by_cases e1 : u.length = c.length + 1
  · have e1' : (u.length : Int) = c.length + 1 := by omega
    have hne : u ≠ [] := by intro e; rw [e] at e1; simp at e1
    have h3 := max_ret hu hne (by omega)
    by_cases e2 : (u.all fun x => decide (0 ≤ x ∧ x ≤ 1000)) = true
    · rw [e2] at h2
      by_cases e3 : fmax u = 0
      · rw [e3] at h3
        rw [if_neg (by unfold wOK; simp [e3])]
        simp [h1, lenL0 hc, lenL0 hu, w1, e1', h2, h3]
      · rw [if_pos ⟨e1, e2, e3⟩]
        simp [h1, lenL0 hc, lenL0 hu, w1, e1', h2, h3, e3]
    · rw [Bool.not_eq_true] at e2
      rw [e2] at h2
      rw [if_neg (by unfold wOK; rw [e2]; simp)]
      simp [h1, lenL0 hc, lenL0 hu, w1, e1', h2]
  · have e1' : ¬ (u.length : Int) = c.length + 1 := by omega
    rw [if_neg (by unfold wOK; simp [e1])]
    simp [h1, lenL0 hc, lenL0 hu, w1, e1']
end
end Go.Abs

set_option linter.unusedVariables false
set_option linter.unusedSimpArgs false
namespace Go.Abs
open Rd (Cp IsL_one IsL_cells IsL_tail lowO_n)
def wst (x : Int) : Int := IntKind.i64.wrap ((IntKind.u64.wrap x).tmod 1001)
theorem wst_ok (x : Int) : 0 ≤ wst x ∧ wst x ≤ 1000 := by
  obtain ⟨u, hu, hu1⟩ := umodI (x := x) (m := 1001) (by omega) (by omega)
  unfold wst; rw [hu]; omega
/-- The weight at a place. -/
def wAt (l : List Int) (i : Nat) : Int := if i < l.length then wst (gI l i) else 0
def wl (l : List Int) (k : Nat) : List Int := (List.range k).map (wAt l)
@[simp] theorem wl_len {l : List Int} {k : Nat} : (wl l k).length = k := by simp [wl]
theorem wl_succ {l : List Int} {k : Nat} : wl l (k + 1) = wl l k ++ [wAt l k] := by simp [wl, List.range_succ]
theorem wAt_ok (l : List Int) (i : Nat) : 0 ≤ wAt l i ∧ wAt l i ≤ 1000 := by
  unfold wAt
  split
  · exact wst_ok _
  · omega
def wAny (l : List Int) (k : Nat) : Bool := (wl l k).any fun x => decide (0 < x)
theorem wAny_succ {l : List Int} {k : Nat} : wAny l (k + 1) = (wAny l k || decide (0 < wAt l k)) := by
  unfold wAny; rw [wl_succ, List.any_append]; simp
/-- weights. -/
def wts (l : List Int) (n : Nat) : List Int := if wAny l (n + 1) = true then wl l (n + 1) else (wl l (n + 1)).set 0 1
theorem wts_len (l : List Int) (n : Nat) : (wts l n).length = n + 1 := by unfold wts; split <;> simp
theorem wts_ok (l : List Int) (n : Nat) : wOK n (wts l n) := by
  have h1 : ∀ x ∈ wl l (n + 1), 0 ≤ x ∧ x ≤ 1000 := by
    intro x hx
    obtain ⟨i, _, rfl⟩ := List.mem_map.1 hx
    exact wAt_ok l i
  refine ⟨wts_len l n, ?_, ?_⟩
  · rw [List.all_eq_true]
    intro x hx
    have : 0 ≤ x ∧ x ≤ 1000 := by
      unfold wts at hx
      split at hx
      · exact h1 x hx
      · rcases List.mem_or_eq_of_mem_set hx with hx | rfl
        · exact h1 x hx
        · omega
    simp [this]
  · unfold wts
    split
    · rename_i h
      unfold wAny at h
      rw [List.any_eq_true] at h
      obtain ⟨x, hx, h2⟩ := h
      have := fmax_ge x hx
      simp at h2
      omega
    · have hm : (1 : Int) ∈ (wl l (n + 1)).set 0 1 := List.mem_of_getElem? (i := 0) (by rw [List.getElem?_set_self (by simp)])
      have := fmax_ge _ hm
      omega
section
variable {rows : List Row}
theorem weights_loop {v : AV} {l : List Int} (h : IsL rows v l) {n : Nat} (hn : n ≤ 1000) : ∀ (d i : Nat) (H : List Row), n + 1 - i = d → i ≤ n + 1 →
    Lc34l6 F (.fn [.t 4]) v (.int .i64 n) (accV rows H (wl l i)) (.bool (wAny l i)) (.int .i64 i) (rows ++ accR H (wl l i)) rows.length (fun r => fin rows r.1 r.2.1 r.2.2 = newL rows (wts l n)) := by
  intro d
  induction d with
  | zero =>
    intro i H hd h1
    have : i = n + 1 := by omega
    subst this
    unfold Lc34l6
    cases hb : wAny l (n + 1) with
    | true =>
      have e : wts l n = wl l (n + 1) := by unfold wts; rw [if_pos hb]
      rw [e]
      simp [show ¬ ((n : Int) + 1 ≤ n) by omega]
      exact acc_fin
    | false =>
      have e : wts l n = (wl l (n + 1)).set 0 1 := by unfold wts; rw [if_neg (by rw [hb]; simp)]
      have hl := wl_len (l := l) (k := n + 1)
      rw [e]
      generalize wl l (n + 1) = w at hl
      cases w with
      | nil => simp at hl
      | cons x w =>
        have i0 : idx? 0 (w.length + 1) = some 0 := by rw [idx?_ok (by omega) (by omega)]; rfl
        simp [show ¬ ((n : Int) + 1 ≤ n) by omega, accV, accR, nums, i0]
        have := acc_fin (rows := rows) (H := H) (l := 1 :: w)
        simpa [accV, accR, nums] using this
  | succ d ih =>
    intro i H hd h1
    have hi : (i : Int) ≤ n := by omega
    have w1 : IntKind.i64.wrap ((i : Int) + 1) = i + 1 := wrap64 (by omega) (by omega)
    obtain ⟨H', hap⟩ := acc_app (rows := rows) (H := H) (l := wl l i) (x := wAt l i) (by simp; omega)
    have hk := ih (i + 1) H' (by omega) (by omega)
    rw [wl_succ, wAny_succ] at hk
    have hw := wAt_ok l i
    unfold Lc34l6
    by_cases hil : i < l.length
    · have ew : IntKind.i64.wrap ((IntKind.u64.wrap (gI l i)).tmod 1001) = wAt l i := by unfold wAt; rw [if_pos hil]; rfl
      cases hb : wAny l i with
      | true =>
        rw [hb] at hk
        simp (disch := first | omega | (simp; done) | fail) [hi, hil, lenL h, idxL h, loadL h, w1, ew, fillA, splice, hap]
        simpa using hk
      | false =>
        rw [hb] at hk
        simp (disch := first | omega | (simp; done) | fail) [hi, hil, lenL h, idxL h, loadL h, w1, ew, fillA, splice, hap]
        simpa using hk
    · have ew : wAt l i = 0 := by unfold wAt; rw [if_neg hil]
      rw [ew] at hap hk
      cases hb : wAny l i with
      | true =>
        rw [hb] at hk
        simp (disch := first | omega | (simp; done) | fail) [hi, hil, lenL h, w1, fillA, splice, hap]
        simpa using hk
      | false =>
        rw [hb] at hk
        simp (disch := first | omega | (simp; done) | fail) [hi, hil, lenL h, w1, fillA, splice, hap]
        simpa using hk
/-- weights. -/
theorem weights_ret {v : AV} {l : List Int} (h : IsL rows v l) {n : Nat} (hn : n ≤ 1000) : Ret F 34 [v, .int .i64 n] rows = some (newL rows (wts l n)) := by
  refine i34 F34 ?_
  have := weights_loop h hn _ 0 [] rfl (by omega)
  simp
  simpa [accV, accR, wl, wAny] using this
end
end Go.Abs

set_option linter.unusedVariables false
set_option linter.unusedSimpArgs false
namespace Go.Abs
open Rd (Cp IsL_one IsL_cells IsL_tail lowO_n)
/-- The weights of the pieces from a to b. -/
def swt (u : List Int) (a b : Int) : Int := ((u.drop a.toNat).take (b.toNat + 1 - a.toNat)).sum
/-- The price of a part by weights. -/
def PQ (c u : List Int) : Int → Int → Int → Int → Int → Int := fun a b g l r => gI c g.toNat * swt u a b + l + r
theorem swt_bd {u : List Int} {n : Nat} (hu : wOK n u) (hn : n ≤ 12) {a b : Int} (h0 : 0 ≤ a) (h1 : a ≤ b) (h2 : b ≤ n) : 0 ≤ swt u a b ∧ swt u a b ≤ 13000 := by
  have h := sum_bd (l := (u.drop a.toNat).take (b.toNat + 1 - a.toNat)) (m := 1000) (fun x hx => by
    have := List.all_eq_true.1 hu.2.1 x (List.mem_of_mem_drop (List.mem_of_mem_take hx))
    simpa using this)
  have hl : ((u.drop a.toNat).take (b.toNat + 1 - a.toNat)).length ≤ 13 := by
    have := hu.1
    simp
    omega
  unfold swt
  omega
theorem mul_bd {x y m n : Int} (hx : 0 ≤ x ∧ x ≤ m) (hy : 0 ≤ y ∧ y ≤ n) : 0 ≤ x * y ∧ x * y ≤ m * n :=
  ⟨Int.mul_nonneg hx.1 hy.1, Int.mul_le_mul hx.2 hy.2 hy.1 (by omega)⟩
set_option maxHeartbeats 2000000 in
theorem qprice_ret {rows : List Row} {cv uv : AV} {c u : List Int} {n : Nat} {a b g l r : Int} {cid uid : Nat} (hc : IsL rows cv c) (hu : IsL rows uv u) (hcu : Cp 1 uv) (hr : row? rows cid = some [cv]) (hr2 : row? rows uid = some [uv]) (hw : wOK n u) (hn : n ≤ 12) (ha : 0 ≤ a) (hab : a ≤ b) (hb : b ≤ n)
    (h0 : 0 ≤ g) (hg : g < c.length) (hbd : 0 ≤ gI c g.toNat ∧ gI c g.toNat ≤ 1000) (hl : 0 ≤ l ∧ l ≤ 200000000) (hr3 : 0 ≤ r ∧ r ≤ 200000000) :
    Ret F 66 [pt a b, .int .i64 g, .int .i64 l, .int .i64 r, .ptr cid 0, .ptr uid 0] rows = some (.int .i64 (PQ c u a b g l r), rows, none) := by
  have hr' : ∀ L, row? (rows ++ L) cid = some [cv] := fun L => row?_old hr L
  have hr2' : ∀ L, row? (rows ++ L) uid = some [uv] := fun L => row?_old hr2 L
  have hs := swt_bd hw hn ha hab hb
  have hp := mul_bd hbd hs
  have hul := hw.1
  have wb : IntKind.i64.wrap (b + 1) = b + 1 := wrap64 (by omega) (by omega)
  have wa : a = (a.toNat : Int) := by omega
  have w1 : IntKind.i64.wrap (gI c g.toNat * swt u a b) = gI c g.toNat * swt u a b := wrap64 (by omega) (by omega)
  have w2 : IntKind.i64.wrap (gI c g.toNat * swt u a b + l) = gI c g.toNat * swt u a b + l := wrap64 (by omega) (by omega)
  have w3 : IntKind.i64.wrap (gI c g.toNat * swt u a b + l + r) = PQ c u a b g l r := wrap64 (by omega) (by omega)
  obtain ⟨v', e1, e2, _⟩ := IsL_mid (a := a.toNat) (b := b.toNat + 1) hu hcu (by omega) (by omega)
  rw [← wa, show ((b.toNat + 1 : Nat) : Int) = b + 1 from by omega] at e1
  have e3 := fun L => sum_ret (IsL_app e2 L) (fun x hx => by
    have := List.all_eq_true.1 hw.2.1 x (List.mem_of_mem_drop (List.mem_of_mem_take hx))
    simp at this
    omega) (by simp; omega)
  have hgn : g.toNat < c.length := by omega
  refine i66 F66 ?_
  simp only [show ((u.drop a.toNat).take (b.toNat + 1 - a.toNat)).sum = swt u a b from rfl] at e3
  simp (disch := first | omega | (simp; done) | fail) [hr', hr2', idxL hc, loadL hc, h0, hg, hgn, wb, e1, e3, w1, w2, w3]
theorem PF_Q {rows : List Row} {cv uv : AV} {c u : List Int} (hc : IsL rows cv c) (hn : c.length ≤ 12) (hall : (c.all fun x => decide (1 ≤ x ∧ x ≤ 1000)) = true) (hu : IsL rows uv u) (hcu : Cp 1 uv) (hw : wOK c.length u) : PF (rows ++ [.cells [cv], .cells [uv]]) 66 [.ptr rows.length 0, .ptr (rows.length + 1) 0] c.length (PQ c u) := by
  refine ⟨fun L a b g l r h0 h1 h2 h3 hl hr => ?_, fun a b g l r h0 h1 h2 h3 hl hr => ?_⟩
  · have hb := cost_bd hall (g := g.toNat) (by omega)
    refine qprice_ret (IsL_app (IsL_app hc _) _) (IsL_app (IsL_app hu _) _) hcu ?_ ?_ hw hn h0 (by omega) h3 (by omega) (by omega) ⟨by omega, hb.2⟩ hl hr
    · rw [List.append_assoc, row?_at0]; rfl
    · rw [List.append_assoc, row?_at]; rfl
  · have hb := cost_bd hall (g := g.toNat) (by omega)
    have hs := swt_bd hw hn h0 (show a ≤ b by omega) h3
    have hp := mul_bd (x := gI c g.toNat) (m := 1000) ⟨by omega, hb.2⟩ hs
    unfold PQ
    omega
theorem fin35 {rows : List Row} {a b d : Row} {l : List Int} {p e : Int} : fin rows (.tup [.int .i64 p, nlV (rows.length + 3) l, .int .i64 e]) (rows ++ a :: b :: d :: nlK l) rows.length = (.tup [.int .i64 p, nlV rows.length l, .int .i64 e], rows ++ nlK l, none) := by
  cases l with
  | nil => simp [fin, nlV, nlK]
  | cons x l =>
    have : ¬ rows.length + 3 < rows.length := by omega
    simp [fin, nlV, nlK, AV.plain1, AV.plain, AV.ren1, AV.ren, this]
set_option maxHeartbeats 4000000 in
/-- search.Weighed, of what is right. -/
theorem Weighed_ret {rows : List Row} {cv uv : AV} {c u : List Int} (hc : IsL rows cv c) (hn : c.length ≤ 12) (hall : (c.all fun x => decide (1 ≤ x ∧ x ≤ 1000)) = true) (hu : IsL rows uv u) (hcu : Cp 1 uv) (hw : wOK c.length u) :
    ∃ T, T.length = 338 ∧ Done (PQ c u) T c.length (c.length + 1) 0 ∧ Bnd T ∧ Ret F 35 [cv, uv] rows = some (.tup [.int .i64 (prT T 0 c.length), nlV rows.length (tpl T c.length 0 c.length), .int .i64 0], rows ++ nlK (tpl T c.length 0 c.length), none) := by
  obtain ⟨T, hf, hT, hD, hB⟩ := filled_ret (PF_Q hc hn hall hu hcu hw) (n := c.length) (by omega) (by omega)
  refine ⟨T, hT, hD, hB, ?_⟩
  have hone := IsL_one hc
  have hcell := IsL_cells hc
  have hone2 := IsL_one hu
  have hcell2 := IsL_cells hu
  have hul := hw.1
  have h1 := fun L => openWeights_ret (IsL_app hc L) hn hall (IsL_app hu L) (by omega)
  rw [if_pos hw] at h1
  have hwh : ∀ L, Ret F 60 [cv] (rows ++ L) = some (pt 0 c.length, rows ++ L, none) := fun L => whole_ret (IsL_app hc L)
  have hbp := fun L => bplan_ret (bid := rows.length + 2) (rows := rows ++ .cells [cv] :: .cells [uv] :: .cells (nums .i64 T) :: L) hT (show (c.length : Int) ≤ 12 by omega) (Done_Good hD) c.length 0 c.length (by omega) (by omega) (by omega) (by omega) (by rw [row?_at]; rfl)
  simp only [newL_eq] at hbp
  simp only [pt] at hwh hbp
  have q1 : (nums .i64 T)[c.length]? = some (.int .i64 (prT T 0 c.length)) := by
    unfold prT
    rw [show (13 * 0 + (c.length : Int)).toNat = c.length from by omega, nums_get, gI_get (by omega)]; rfl
  have hf' : Ret F 57 [.int .i64 c.length, .func 66 [.ptr rows.length 0, .ptr (rows.length + 1) 0]] (rows ++ [.cells [cv], .cells [uv]]) = some (.ptr (rows.length + 2) 0, rows ++ [.cells [cv], .cells [uv], .cells (nums .i64 T)], none) := by
    rw [hf]; simp
  refine i35 F35 ?_
  simp [hone, hcell, hone2, hcell2, h1, -uc35s3, jc35s3]
  unfold Jc35s3
  simp [lenL hc, hf', -uc35k0]
  rw [uc35k0]
  simp [lenL hc, hone, hcell, hwh, hbp, q1, maskE_cons, show idx? 0 13 = some 0 from rfl, show c.length < 13 by omega, Function.comp_def]
  exact fin35
end Go.Abs

set_option linter.unusedVariables false
set_option linter.unusedSimpArgs false
namespace Go.Abs
open Rd (Cp IsL_one IsL_cells IsL_tail lowO_n)
/-- A part's price is the least one. -/
def BN (P : Int → Int → Int → Int → Int → Int) (f : Nat → Nat → Int) (a b : Nat) : Prop := (a = b → f a b = 0) ∧ (a < b → (∃ g : Nat, a ≤ g ∧ g < b ∧ f a b = P a b g (f a g) (f (g + 1) b)) ∧ ∀ g : Nat, a ≤ g → g < b → f a b ≤ P a b g (f a g) (f (g + 1) b))
theorem BN_unique {P : Int → Int → Int → Int → Int → Int} {f f' : Nat → Nat → Int} {n : Nat} (h : ∀ a b, a ≤ b → b ≤ n → BN P f a b) (h' : ∀ a b, a ≤ b → b ≤ n → BN P f' a b) : ∀ (d a b : Nat), b - a ≤ d → a ≤ b → b ≤ n → f a b = f' a b := by
  intro d
  induction d with
  | zero =>
    intro a b hd h1 h2
    have : a = b := by omega
    rw [(h a b h1 h2).1 this, (h' a b h1 h2).1 this]
  | succ d ih =>
    intro a b hd h1 h2
    by_cases e : a = b
    · rw [(h a b h1 h2).1 e, (h' a b h1 h2).1 e]
    · obtain ⟨⟨g, g1, g2, g3⟩, g4⟩ := (h a b h1 h2).2 (by omega)
      obtain ⟨⟨k, k1, k2, k3⟩, k4⟩ := (h' a b h1 h2).2 (by omega)
      have e1 := g4 k k1 k2
      have e2 := k4 g g1 g2
      rw [ih a k (by omega) k1 (by omega), ih (k + 1) b (by omega) (by omega) h2, ← k3] at e1
      rw [← ih a g (by omega) g1 (by omega), ← ih (g + 1) b (by omega) (by omega) h2, ← g3] at e2
      omega
theorem Done_BN {P : Int → Int → Int → Int → Int → Int} {T : List Int} {n : Nat} (h : Done P T n (n + 1) 0) : ∀ a b : Nat, a ≤ b → b ≤ n → BN P (fun a b => prT T a b) a b := by
  intro a b h1 h2
  obtain ⟨d1, d2⟩ := h a b (by omega) (by omega) (by omega) (.inl (by omega))
  refine ⟨fun e => d1 (by omega), fun e => ?_⟩
  obtain ⟨b1, b2, b3, b4⟩ := d2 (by omega)
  refine ⟨⟨(gateT T a b).toNat, by omega, by omega, ?_⟩, fun g g1 g2 => ?_⟩
  · dsimp only
    rw [show (((gateT T a b).toNat + 1 : Nat) : Int) = gateT T a b + 1 from by omega, show (((gateT T a b).toNat : Nat) : Int) = gateT T a b from by omega]
    exact b3
  · have := b4 g (by omega) (by omega)
    dsimp only
    rw [show ((g + 1 : Nat) : Int) = g + 1 from by omega]
    exact this
def oR (base n i : Nat) : List AV := (List.range n).map fun j => if j < i then .nilslice else .slice (base + (n - j)) 0 n (.at_ n)
def Rw (n i : Nat) (f : Nat → Nat → Int) : List Row := (List.range (n - i)).map fun t => .cells (nums .i64 (tab n (f (n - 1 - t))))
def LR (rows : List Row) (n i : Nat) (f : Nat → Nat → Int) : List Row := rows ++ (.cells (oR rows.length n i) :: Rw n i f)
section
variable {rows : List Row} {n i j k : Nat} {f : Nat → Nat → Int}
@[simp] theorem oR_len {base : Nat} : (oR base n i).length = n := by simp [oR]
end
end Go.Abs

set_option linter.unusedVariables false
set_option linter.unusedSimpArgs false
namespace Go.Abs
open Rd (Cp IsL_one IsL_cells IsL_tail lowO_n)
/-- The gates that are opened by a table's plan. -/
def lsT (T : List Int) : Nat → Int → Int → List (List Int)
  | 0, _, _ => [[]]
  | m + 1, a, b => if a = b then [[]] else (lsT T m a (gateT T a b) ++ lsT T m (gateT T a b + 1) b).map (gateT T a b :: ·)
theorem opn_tpl {T : List Int} {n : Int} (hT : GoodT T n) {p : List Int} : ∀ (m at_ : Nat) (a b : Int) (rest : List Int), 0 ≤ a → a ≤ b → b ≤ n → b - a ≤ m → p.drop at_ = tpl T m a b ++ rest → opn p m at_ a b = some (lsT T m a b, at_ + (tpl T m a b).length) := by
  intro m
  induction m with
  | zero =>
    intro at_ a b rest h0 h1 h2 h3 hd
    have : a = b := by omega
    subst this
    simp [opn, lsT, tpl]
  | succ m ih =>
    intro at_ a b rest h0 h1 h2 h3 hd
    by_cases he : a = b
    · subst he
      simp [opn, lsT, tpl]
    · have hg := hT a b h0 (by omega) h2
      simp only [tpl, he, if_false, List.cons_append] at hd
      have hat : at_ < p.length := by
        rcases Nat.lt_or_ge at_ p.length with h | h
        · exact h
        · rw [List.drop_eq_nil_of_le h] at hd; simp at hd
      have hgi : gI p at_ = gateT T a b := by
        have h4 : p[at_]? = some (gateT T a b) := by
          have := congrArg (·[0]?) hd
          simpa using this
        rw [gI_get hat] at h4
        exact Option.some.inj h4
      have hd1 : p.drop (at_ + 1) = tpl T m a (gateT T a b) ++ (tpl T m (gateT T a b + 1) b ++ rest) := by
        have := congrArg (List.drop 1) hd
        simpa [List.drop_drop, Nat.add_comm] using this
      have e1 := ih (at_ + 1) a (gateT T a b) _ h0 hg.1 (by omega) (by omega) hd1
      have hd2 : p.drop (at_ + 1 + (tpl T m a (gateT T a b)).length) = tpl T m (gateT T a b + 1) b ++ rest := by
        have := congrArg (List.drop (tpl T m a (gateT T a b)).length) hd1
        simpa [List.drop_drop] using this
      have e2 := ih (at_ + 1 + (tpl T m a (gateT T a b)).length) (gateT T a b + 1) b rest (by omega) (by omega) h2 (by omega) hd2
      unfold opn
      simp only [he, if_false, hgi]
      rw [if_pos ⟨hat, hg.1, hg.2⟩, e1]
      simp only
      rw [e2]
      simp only [tpl, lsT, he, if_false, List.length_cons, List.length_append]
      congr 2
      omega
theorem lsT_len {T : List Int} {n : Int} (hT : GoodT T n) : ∀ (m : Nat) (a b : Int), 0 ≤ a → a ≤ b → b ≤ n → b - a ≤ m → ((lsT T m a b).length : Int) = b - a + 1 := by
  intro m
  induction m with
  | zero => intro a b h0 h1 h2 h3; simp [lsT]; omega
  | succ m ih =>
    intro a b h0 h1 h2 h3
    unfold lsT
    by_cases he : a = b
    · simp [he]
    · have hg := hT a b h0 (by omega) h2
      have e1 := ih a (gateT T a b) h0 hg.1 (by omega) (by omega)
      have e2 := ih (gateT T a b + 1) b (by omega) (by omega) h2 (by omega)
      simp only [he, if_false, List.length_map, List.length_append]
      omega
/-- The prices of a part's pieces. -/
def psT (c T : List Int) (m : Nat) (a b : Int) : List Int := (lsT T m a b).map (sumG c)
theorem psT_succ {c T : List Int} {m : Nat} {a b : Int} (h : a ≠ b) : psT c T (m + 1) a b = (psT c T m a (gateT T a b) ++ psT c T m (gateT T a b + 1) b).map (gI c (gateT T a b).toNat + ·) := by
  unfold psT
  simp only [lsT, h, if_false, List.map_map, List.map_append]
  congr 1 <;> (apply List.map_congr_left; intro l _; simp [sumG])
theorem psT_len {c T : List Int} {n : Int} (hT : GoodT T n) {m : Nat} {a b : Int} (h0 : 0 ≤ a) (h1 : a ≤ b) (h2 : b ≤ n) (h3 : b - a ≤ m) : ((psT c T m a b).length : Int) = b - a + 1 := by
  unfold psT
  rw [List.length_map]
  exact lsT_len hT m a b h0 h1 h2 h3
theorem foldl_max_app (l1 l2 : List Int) (h2 : ∀ x ∈ l2, 0 ≤ x) : (l1 ++ l2).foldl max 0 = max (l1.foldl max 0) (l2.foldl max 0) := by
  rw [List.foldl_append]
  have : ∀ (l : List Int) (a : Int), 0 ≤ a → l.foldl max a = max a (l.foldl max 0) := by
    intro l
    induction l with
    | nil => intro a ha; simp; omega
    | cons x l ih =>
      intro a ha
      simp only [List.foldl_cons]
      rw [ih (max a x) (by omega), ih (max 0 x) (by omega)]
      omega
  exact this l2 _ (foldl_max_ge l1 0).1
theorem foldl_max_add {c : Int} (hc : 0 ≤ c) : ∀ (l : List Int), l ≠ [] → (∀ x ∈ l, 0 ≤ x) → (l.map (c + ·)).foldl max 0 = c + l.foldl max 0 := by
  have hh : ∀ (l : List Int) (a : Int), (l.map (c + ·)).foldl max (c + a) = c + l.foldl max a := by
    intro l
    induction l with
    | nil => intro a; rfl
    | cons x l ih =>
      intro a
      simp only [List.map_cons, List.foldl_cons]
      rw [show max (c + a) (c + x) = c + max a x from by omega]
      exact ih _
  intro l hl hx
  cases l with
  | nil => exact absurd rfl hl
  | cons x l =>
    have := hx x List.mem_cons_self
    simp only [List.map_cons, List.foldl_cons]
    rw [show max 0 (c + x) = c + max 0 x from by omega]
    exact hh _ _
theorem psT_nn {c T : List Int} {n : Int} (hT : GoodT T n) (hn : n ≤ c.length) (hc : ∀ g : Nat, g < c.length → 0 ≤ gI c g ∧ gI c g ≤ 1000) : ∀ (m : Nat) (a b : Int), 0 ≤ a → a ≤ b → b ≤ n → b - a ≤ m → ∀ x ∈ psT c T m a b, 0 ≤ x ∧ x ≤ 1000 * (b - a) := by
  intro m
  induction m with
  | zero => intro a b h0 h1 h2 h3 x hx; simp [psT, lsT, sumG] at hx; omega
  | succ m ih =>
    intro a b h0 h1 h2 h3 x hx
    by_cases he : a = b
    · subst he; simp [psT, lsT, sumG] at hx; omega
    · have hg := hT a b h0 (by omega) h2
      have hcg := hc (gateT T a b).toNat (by omega)
      rw [psT_succ he] at hx
      obtain ⟨y, hy, rfl⟩ := List.mem_map.1 hx
      rcases List.mem_append.1 hy with hy | hy
      · have := ih a (gateT T a b) h0 hg.1 (by omega) (by omega) y hy; omega
      · have := ih (gateT T a b + 1) b (by omega) (by omega) h2 (by omega) y hy; omega
/-- The worst price of a table's plan. -/
theorem psT_worst {c T : List Int} {n : Int} (hD : Done (PW c) T n (n + 1) 0) (hn : n ≤ c.length) (hc : ∀ g : Nat, g < c.length → 0 ≤ gI c g ∧ gI c g ≤ 1000) : ∀ (m : Nat) (a b : Int), 0 ≤ a → a ≤ b → b ≤ n → b - a ≤ m → (psT c T m a b).foldl max 0 = prT T a b := by
  have hT := Done_Good hD
  intro m
  induction m with
  | zero =>
    intro a b h0 h1 h2 h3
    have : a = b := by omega
    subst this
    rw [(hD a a h0 h1 h2 (.inl (by omega))).1 rfl]
    simp [psT, lsT, sumG]
  | succ m ih =>
    intro a b h0 h1 h2 h3
    by_cases he : a = b
    · subst he
      rw [(hD a a h0 h1 h2 (.inl (by omega))).1 rfl]
      simp [psT, lsT, sumG]
    · have hg := hT a b h0 (by omega) h2
      obtain ⟨_, _, hp, _⟩ := (hD a b h0 h1 h2 (.inl (by omega))).2 (by omega)
      have hcg := hc (gateT T a b).toNat (by omega)
      have n1 := psT_nn hT hn hc m a (gateT T a b) h0 hg.1 (by omega) (by omega)
      have n2 := psT_nn hT hn hc m (gateT T a b + 1) b (by omega) (by omega) h2 (by omega)
      have l1 := psT_len (c := c) hT (m := m) h0 hg.1 (show gateT T a b ≤ n by omega) (by omega)
      rw [psT_succ he, foldl_max_add hcg.1, foldl_max_app _ _ (fun x hx => (n2 x hx).1), ih a _ h0 hg.1 (by omega) (by omega), ih _ b (by omega) (by omega) h2 (by omega), hp]
      · rfl
      · intro e
        rw [List.append_eq_nil_iff] at e
        rw [e.1] at l1
        simp at l1
        omega
      · intro x hx
        rcases List.mem_append.1 hx with hx | hx
        · exact (n1 x hx).1
        · exact (n2 x hx).1
def su (u : List Int) : Nat → Nat → Int
  | _, 0 => 0
  | a, k + 1 => gI u a + su u (a + 1) k
theorem su_swt {u : List Int} : ∀ (k a : Nat), a + k ≤ u.length → su u a k = ((u.drop a).take k).sum
  | 0, a, h => by simp [su]
  | k + 1, a, h => by
    have hd : u.drop a = gI u a :: u.drop (a + 1) := by
      rw [List.drop_eq_getElem_cons (by omega), gI_eq (by omega)]
    simp only [su]
    rw [su_swt k (a + 1) (by omega), hd]
    simp
end Go.Abs

set_option linter.unusedVariables false
set_option linter.unusedSimpArgs false
namespace Go.Abs
open Rd (Cp IsL_one IsL_cells IsL_tail lowO_n)
/-- The least worst price with costs 1. -/
def hK (n : Nat) : Int := [0, 1, 2, 2, 3, 3, 3, 3, 4, 4, 4, 4, 4].getD n 0
theorem hK_rec : ∀ L : Nat, L < 13 → 0 < L → (∃ j, j < L ∧ hK L = 1 + max (hK j) (hK (L - 1 - j))) ∧ ∀ j, j < L → hK L ≤ 1 + max (hK j) (hK (L - 1 - j)) := by decide
theorem hK_pow : ∀ n : Nat, n < 13 → (0 ≤ hK n ∧ hK n ≤ 4) ∧ (∀ t : Nat, t < 5 → ((2 : Int) ^ t < n + 1 ↔ (t : Int) < hK n)) := by decide
theorem knuth_BN {n : Nat} (hn : n ≤ 12) : ∀ a b, a ≤ b → b ≤ n → BN (PW (List.replicate n 1)) (fun a b => hK (b - a)) a b := by
  intro a b h1 h2
  have h1g : ∀ g : Nat, g < n → gI (List.replicate n 1) g = 1 := fun g hg => by
    unfold gI
    rw [List.getD_eq_getElem?_getD, List.getElem?_replicate, if_pos hg]; rfl
  refine ⟨fun e => by subst e; simp [hK], fun e => ?_⟩
  obtain ⟨⟨j, j1, j2⟩, j3⟩ := hK_rec (b - a) (by omega) (by omega)
  refine ⟨⟨a + j, by omega, by omega, ?_⟩, fun g g1 g2 => ?_⟩
  · dsimp only [PW]
    rw [Int.toNat_natCast, h1g _ (by omega), show a + j - a = j from by omega, show b - (a + j + 1) = b - a - 1 - j from by omega]
    exact j2
  · dsimp only [PW]
    rw [Int.toNat_natCast, h1g _ (by omega), show b - (g + 1) = b - a - 1 - (g - a) from by omega]
    exact j3 (g - a) (by omega)
theorem knuth_worst {n : Nat} (hn : n ≤ 12) {T : List Int} (hD : Done (PW (List.replicate n 1)) T n (n + 1) 0) : prT T 0 n = hK n := by
  have := BN_unique (Done_BN hD) (knuth_BN hn) n 0 n (by omega) (by omega) (by omega)
  simpa using this
theorem cat_law : ∀ n : Nat, n < 13 → 1 ≤ catP n ∧ catP n ≤ 1000000 ∧ 0 ≤ catP (n + 1) ∧ catP (n + 1) ≤ 1000000 ∧ ((n : Int) + 2) * catP (n + 1) = 2 * (2 * n + 1) * catP n := by decide +kernel
section
variable {c u T T2 : List Int} {n : Nat}
/-- The worst price is at least each cost. -/
theorem worst_ge (hD : Done (PW c) T n (n + 1) 0) (hB : Bnd T) (hn : n ≤ 12) (hnl : n ≤ c.length) (hcg : ∀ g : Nat, g < c.length → 0 ≤ gI c g ∧ gI c g ≤ 1000) : ∀ (d : Nat) (a b k : Int), b - a ≤ d → 0 ≤ a → b ≤ n → a ≤ k → k < b → gI c k.toNat ≤ prT T a b := by
  intro d
  induction d with
  | zero => intro a b k hd h0 h1 h2 h3; omega
  | succ d ih =>
    intro a b k hd h0 h1 h2 h3
    obtain ⟨b1, b2, b3, _⟩ := (hD a b h0 (by omega) h1 (.inl (by omega))).2 (by omega)
    have p1 := hB a (gateT T a b) h0 b1 (by omega)
    have p2 := hB (gateT T a b + 1) b (by omega) (by omega) (by omega)
    have p3 := hcg (gateT T a b).toNat (by omega)
    unfold PW at b3
    by_cases e : k = gateT T a b
    · rw [e]; omega
    · by_cases e2 : k < gateT T a b
      · have h4 := ih a (gateT T a b) k (by omega) h0 (by omega) h2 e2
        omega
      · have h4 := ih (gateT T a b + 1) b k (by omega) (by omega) h1 (by omega) h3
        omega
theorem su_add : ∀ (k m a : Nat), su u a (k + m) = su u a k + su u (a + k) m
  | 0, m, a => by simp [su]
  | k + 1, m, a => by
    rw [show k + 1 + m = (k + m) + 1 from by omega]
    simp only [su]
    rw [su_add k m (a + 1), show a + 1 + k = a + (k + 1) from by omega]
    omega
theorem swt_split (hu : u.length = n + 1) {a g b : Int} (h0 : 0 ≤ a) (h1 : a ≤ g) (h2 : g < b) (h3 : b ≤ n) : swt u a b = swt u a g + swt u (g + 1) b := by
  unfold swt
  rw [← su_swt _ _ (by omega), ← su_swt _ _ (by omega), ← su_swt _ _ (by omega), show b.toNat + 1 - a.toNat = (g.toNat + 1 - a.toNat) + (b.toNat + 1 - (g + 1).toNat) from by omega, su_add, show a.toNat + (g.toNat + 1 - a.toNat) = (g + 1).toNat from by omega]
theorem swt_all (hu : u.length = n + 1) : swt u 0 n = u.sum := by
  unfold swt
  simp [← hu]
/-- The weighed price is at most the weights times the worst price. -/
theorem weighed_le (hD : Done (PW c) T n (n + 1) 0) (hD2 : Done (PQ c u) T2 n (n + 1) 0) (hB : Bnd T) (hn : n ≤ 12) (hu : wOK n u) : ∀ (d : Nat) (a b : Int), b - a ≤ d → 0 ≤ a → a ≤ b → b ≤ n → prT T2 a b ≤ swt u a b * prT T a b := by
  intro d
  induction d with
  | zero =>
    intro a b hd h0 h1 h2
    have : a = b := by omega
    subst this
    rw [(hD a a h0 h1 h2 (.inl (by omega))).1 rfl, (hD2 a a h0 h1 h2 (.inl (by omega))).1 rfl]
    simp
  | succ d ih =>
    intro a b hd h0 h1 h2
    by_cases he : a = b
    · subst he
      rw [(hD a a h0 h1 h2 (.inl (by omega))).1 rfl, (hD2 a a h0 h1 h2 (.inl (by omega))).1 rfl]
      simp
    · obtain ⟨b1, b2, b3, _⟩ := (hD a b h0 h1 h2 (.inl (by omega))).2 (by omega)
      obtain ⟨_, _, _, b4⟩ := (hD2 a b h0 h1 h2 (.inl (by omega))).2 (by omega)
      have h4 := b4 _ b1 b2
      have h5 := ih a (gateT T a b) (by omega) h0 b1 (by omega)
      have h6 := ih (gateT T a b + 1) b (by omega) (by omega) (by omega) h2
      have s1 := swt_bd hu hn h0 b1 (show gateT T a b ≤ n by omega)
      have s2 := swt_bd hu hn (show 0 ≤ gateT T a b + 1 by omega) (show gateT T a b + 1 ≤ b by omega) h2
      have s3 := swt_split hu.1 h0 b1 b2 h2
      unfold PW at b3
      unfold PQ at h4
      generalize gI c (gateT T a b).toNat = cg at *
      generalize prT T a (gateT T a b) = p1 at *
      generalize prT T (gateT T a b + 1) b = p2 at *
      generalize swt u a (gateT T a b) = A at *
      generalize swt u (gateT T a b + 1) b = B at *
      have m1 := Int.mul_le_mul_of_nonneg_left (Int.le_max_left p1 p2) s1.1
      have m2 := Int.mul_le_mul_of_nonneg_left (Int.le_max_right p1 p2) s2.1
      rw [b3, s3]
      rw [s3] at h4
      have e1 : (A + B) * (cg + max p1 p2) = cg * (A + B) + (A * max p1 p2 + B * max p1 p2) := by
        rw [Int.mul_add, Int.add_mul A B (max p1 p2), Int.mul_comm (A + B) cg]
      rw [e1]
      omega
end
theorem psT_tab {c T : List Int} {n : Nat} (hT : GoodT T n) (hn : n ≤ 12) (hcl : c.length = n) (hcx : ∀ x ∈ c, 0 ≤ x ∧ x ≤ 1000) : ∃ f, pricesF c (tpl T n 0 n) = some f ∧ tab (n + 1) f = psT c T n 0 n := by
  have h := pricesF_opn (p := tpl T n 0 n) hcx (by omega)
  have e : opnAll (tpl T n 0 n) c.length = some (lsT T n 0 n) := by
    unfold opnAll
    rw [hcl, opn_tpl hT n 0 0 n [] (by omega) (by omega) (by omega) (by omega) (by simp)]
    simp
  rw [e] at h
  obtain ⟨f, h1, h2, h3⟩ := h
  refine ⟨f, h1, ?_⟩
  apply List.ext_getElem?
  intro i
  rw [tab_get?]
  unfold psT
  rw [List.getElem?_map]
  by_cases hi : i < n + 1
  · rw [if_pos hi, gLL_get (by omega), h3 i (by omega)]; rfl
  · rw [if_neg hi, List.getElem?_eq_none (by omega)]; rfl
end Go.Abs

set_option linter.unusedVariables false
set_option linter.unusedSimpArgs false
namespace Go.Abs
open Rd (Cp IsL_one IsL_cells IsL_tail lowO_n)
theorem accR_under {H : List Row} {l : List Int} (h : H.all (Row.under 0) = true) : (accR H l).all (Row.under 0) = true := by
  cases l with
  | nil => exact h
  | cons x l => simp only [accR, List.all_append, h]; simp [Row.under, AV.under, nums]
theorem acc_IsL {rows H : List Row} {l : List Int} : IsL (rows ++ accR H l) (accV rows H l) l ∧ Cp 1 (accV rows H l) := by
  cases l with
  | nil => exact ⟨IsL_nil, trivial⟩
  | cons x l =>
    refine ⟨IsL_mk (n := 0) (vs := nums .i64 (x :: l)) ?_ (by rw [nums_all rfl]), rfl⟩
    unfold accR row?
    simp
theorem acc_app2 {rows H : List Row} {l : List Int} {x : Int} (hl : l.length < 1000000000) (hH : H.all (Row.under 0) = true) : ∃ H', H'.all (Row.under 0) = true ∧ evE (rows ++ (accR H l ++ [.cells [.int .i64 x]])) rows.length (.app 1 8 (.c (accV rows H l)) (.c (.slice (rows.length + (accR H l).length) 0 1 (.at_ 1)))) = some (accV rows H' (l ++ [x]), rows ++ accR H' (l ++ [x]), rows.length) := by
  cases l with
  | nil =>
    have htmp : El (rows ++ (H ++ [.cells [.int .i64 x]])) 1 (.slice (rows.length + H.length) 0 1 (.at_ 1)) (nums .i64 [x]) 1 := by
      have : row? (rows ++ (H ++ [.cells [.int .i64 x]])) (rows.length + H.length) = some [.int .i64 x] := by unfold row?; simp
      unfold El elems
      simp only [this]
      rfl
    refine ⟨H ++ [.cells [.int .i64 x]], by simp only [List.all_append, hH]; simp [Row.under, AV.under], ?_⟩
    have := app_nil (b := 8) (low := rows.length) htmp (by omega) (by simp [lim])
    simp only [accR, accV, List.nil_append]
    rw [this]
    simp
  | cons y l =>
    have h := app_own (rows := rows) (H := H) (kd := .i64) (l := y :: l) (x := x) (c := .op 1) (low := rows.length) (b := 8) rfl rfl (.inr rfl) (Nat.le_refl _) hl
    refine ⟨appH (.op 1) H .i64 (y :: l) x, ?_, ?_⟩
    · unfold appH
      simp only [List.all_append, hH]
      simp [Row.under, AV.under, nums]
    · simpa [accR, accV] using h
end Go.Abs

set_option linter.unusedVariables false
set_option linter.unusedSimpArgs false
namespace Go.Abs
open Rd (Cp IsL_one IsL_cells IsL_tail lowO_n)
def bls (l : List Bool) : List AV := l.map .bool
@[simp] theorem bls_len {l : List Bool} : (bls l).length = l.length := by simp [bls]
@[simp] theorem bls_set {l : List Bool} {i : Nat} {b : Bool} : (bls l).set i (.bool b) = bls (l.set i b) := by simp [bls, List.map_set]
def usedT (n : Nat) (s : List Int) : List Bool := (List.range n).map fun (j : Nat) => decide ((j : Int) ∈ s)
@[simp] theorem usedT_len {n : Nat} {s : List Int} : (usedT n s).length = n := by simp [usedT]
section
variable {R3 H1 : List Row} {low : Nat} {r : AV × List Row × Nat → Prop}
theorem newL_shape (rows : List Row) (l : List Int) : ∃ v K, newL rows l = (v, rows ++ K, none) ∧ IsL (rows ++ K) v l ∧ Cp 1 v ∧ K.all (Row.under 0) = true := by
  have h := newL_IsL (rows := rows) l
  cases l with
  | nil => exact ⟨.nilslice, [], by simp [newL], by simpa [newL] using h.1, h.2, rfl⟩
  | cons x l => exact ⟨_, [.cells (nums .i64 (x :: l))], rfl, h.1, h.2, by simp [Row.under, AV.under, nums]⟩
end
end Go.Abs

set_option linter.unusedVariables false
set_option maxRecDepth 20000
set_option maxHeartbeats 4000000
namespace Go.Abs
variable {F : Nat → Option IFn} {cx : Ctx} {k : List Itm} {s : St} {l : List (Nat × AV)} {rows : List Row} {low : Nat} {r : AV × List Row × Nat → Prop}
def c9r0 : List Seg := [
  .one ⟨some 184, .mv (.t 28), none⟩,
  .one ⟨some 185, .mv (.t 19), none⟩,
  .one ⟨some 186, .bin .eql (.t 184) (.t 185), none⟩,
  .one ⟨some 187, .mv (.t 186), none⟩,
  .one ⟨some 188, .mv (.t 22), some (187, true)⟩,
  .one ⟨some 189, .mv (.t 27), some (187, true)⟩,
  .one ⟨some 190, .mv (.t 19), some (187, true)⟩,
  .one ⟨some 191, .bin .mul (.t 189) (.t 190), some (187, true)⟩,
  .one ⟨some 192, .bin .leq (.t 188) (.t 191), some (187, true)⟩,
  .one ⟨some 193, .pick (.t 187) (.t 192) (.c (.bool false)), none⟩,
  .one ⟨some 194, .mv (.t 193), none⟩,
  .one ⟨some 195, .mv (.t 22), some (194, true)⟩,
  .one ⟨some 196, .bin .geq (.t 195) (.c (.int .i64 0)), some (194, true)⟩,
  .one ⟨some 197, .pick (.t 194) (.t 196) (.c (.bool false)), none⟩,
  .one ⟨some 198, .mv (.t 197), none⟩,
  .one ⟨some 199, .call (.c (.func 22 [])) [], some (198, true)⟩,
  .one ⟨some 200, .pick (.t 198) (.t 199) (.c (.bool false)), none⟩,
  .one ⟨some 6, .mv (.t 200), none⟩]
def c9k0 : ICode := .kill (dead 201 [19, 22, 27, 28]) (.ops c9r0)
@[simp] theorem uc9k0 : Ex F cx (.code c9k0 :: k) ⟨mk 201 l, rows, low⟩ r ↔ bnd (evP rows (.bin .eql (.c (lk l 28)) (.c (lk l 19)))) fun v0 => bnd (gv v0 true (evP rows (.mv (.c (lk l 22))))) fun v1 => bnd (gv v0 true (evP rows (.mv (.c (lk l 27))))) fun v2 => bnd (gv v0 true (evP rows (.mv (.c (lk l 19))))) fun v3 => bnd (gv v0 true (evP rows (.bin .mul (.c v2) (.c v3)))) fun v4 => bnd (gv v0 true (evP rows (.bin .leq (.c v1) (.c v4)))) fun v5 => bnd (evP rows (.pick (.c v0) (.c v5) (.c (.bool false)))) fun v6 => bnd (gv v6 true (evP rows (.mv (.c (lk l 22))))) fun v7 => bnd (gv v6 true (evP rows (.bin .geq (.c v7) (.c (.int .i64 0))))) fun v8 => bnd (evP rows (.pick (.c v6) (.c v8) (.c (.bool false)))) fun v9 => gcall F v9 true rows low [] (.func 22 []) fun v10 R10 L10 => bnd (evP R10 (.pick (.c v9) (.c v10) (.c (.bool false)))) fun v11 => Ex F cx k ⟨mk 201 [(6, v11), (200, v11), (199, v10), (198, v9), (197, v9), (196, v8), (195, v7), (194, v6), (193, v6), (192, v5), (191, v4), (190, v3), (189, v2), (188, v1), (187, v0), (186, v0), (185, lk l 19), (184, lk l 28), (19, lk l 19), (22, lk l 22), (27, lk l 27), (28, lk l 28)], R10, L10⟩ r := reg (keep := [19, 22, 27, 28]) (ops := c9r0) rfl (by kernel_rfl) (by kernel_rfl)
def c9s1 : ICode := (.seq c9k0 .ret)
@[simp] theorem uc9s1 : Ex F cx (.code c9s1 :: k) s r ↔ Ex F cx (.code (.seq c9k0 .ret) :: k) s r := Iff.rfl
def c9r3 : List Seg := [
  .one ⟨some 176, .mv (.t 30), none⟩,
  .one ⟨some 177, .bin .add (.t 176) (.c (.int .i64 1)), none⟩,
  .one ⟨some 30, .mv (.t 177), none⟩]
def c9k3 : ICode := .kill (dead 201 [17, 19, 22, 27, 28, 30]) (.ops c9r3)
@[simp] theorem uc9k3 : Ex F cx (.code c9k3 :: k) ⟨mk 201 l, rows, low⟩ r ↔ bnd (evP rows (.bin .add (.c (lk l 30)) (.c (.int .i64 1)))) fun v0 => Ex F cx k ⟨mk 201 [(30, v0), (177, v0), (176, lk l 30), (17, lk l 17), (19, lk l 19), (22, lk l 22), (27, lk l 27), (28, lk l 28), (30, lk l 30)], rows, low⟩ r := reg (keep := [17, 19, 22, 27, 28, 30]) (ops := c9r3) rfl (by kernel_rfl) (by kernel_rfl)
def c9r4 : List Seg := [
  .one ⟨some 6, .mv (.c (.bool false)), none⟩]
def c9k4 : ICode := .kill (dead 201 []) (.ops c9r4)
@[simp] theorem uc9k4 : Ex F cx (.code c9k4 :: k) ⟨mk 201 l, rows, low⟩ r ↔ Ex F cx k ⟨mk 201 [(6, (.bool false))], rows, low⟩ r := reg (keep := []) (ops := c9r4) rfl (by kernel_rfl) (by kernel_rfl)
def c9s5 : ICode := (.cond (.t 183) (.seq c9k4 .ret) .skip)
@[simp] theorem uc9s5 : Ex F cx (.code c9s5 :: k) s r ↔ Ex F cx (.code (.cond (.t 183) (.seq c9k4 .ret) .skip) :: k) s r := Iff.rfl
def c9r6 : List Seg := [
  .one ⟨some 178, .mv (.t 19), none⟩,
  .one ⟨some 179, .mv (.t 17), none⟩,
  .one ⟨some 180, .mv (.t 30), none⟩,
  .one ⟨some 181, .idxS 1 (.t 179) (.t 180), none⟩,
  .one ⟨some 182, .load1 (.t 181), none⟩,
  .one ⟨some 183, .bin .lss (.t 178) (.t 182), none⟩]
def c9k6 : ICode := .kill (dead 201 [17, 19, 22, 27, 28, 30]) (.ops c9r6)
@[simp] theorem uc9k6 : Ex F cx (.code c9k6 :: k) ⟨mk 201 l, rows, low⟩ r ↔ bnd (evP rows (.idxS 1 (.c (lk l 17)) (.c (lk l 30)))) fun v0 => bnd (evP rows (.load1 (.c v0))) fun v1 => bnd (evP rows (.bin .lss (.c (lk l 19)) (.c v1))) fun v2 => Ex F cx k ⟨mk 201 [(183, v2), (182, v1), (181, v0), (180, lk l 30), (179, lk l 17), (178, lk l 19), (17, lk l 17), (19, lk l 19), (22, lk l 22), (27, lk l 27), (28, lk l 28), (30, lk l 30)], rows, low⟩ r := reg (keep := [17, 19, 22, 27, 28, 30]) (ops := c9r6) rfl (by kernel_rfl) (by kernel_rfl)
def c9s7 : ICode := (.seq (.block 7 (.seq c9k6 c9s5)) c9k3)
@[simp] theorem uc9s7 : Ex F cx (.code c9s7 :: k) s r ↔ Ex F cx (.code (.seq (.block 7 (.seq c9k6 c9s5)) c9k3) :: k) s r := Iff.rfl
def c9s8 : ICode := (.cond (.t 175) .skip (.exit 6))
@[simp] theorem uc9s8 : Ex F cx (.code c9s8 :: k) s r ↔ Ex F cx (.code (.cond (.t 175) .skip (.exit 6)) :: k) s r := Iff.rfl
def c9r9 : List Seg := [
  .one ⟨some 172, .mv (.t 30), none⟩,
  .one ⟨some 173, .mv (.t 17), none⟩,
  .one ⟨some 174, .len 0 (.t 173), none⟩,
  .one ⟨some 175, .bin .lss (.t 172) (.t 174), none⟩]
def c9k9 : ICode := .kill (dead 201 [17, 19, 22, 27, 28, 30]) (.ops c9r9)
@[simp] theorem uc9k9 : Ex F cx (.code c9k9 :: k) ⟨mk 201 l, rows, low⟩ r ↔ bnd (evP rows (.len 0 (.c (lk l 17)))) fun v0 => bnd (evP rows (.bin .lss (.c (lk l 30)) (.c v0))) fun v1 => Ex F cx k ⟨mk 201 [(175, v1), (174, v0), (173, lk l 17), (172, lk l 30), (17, lk l 17), (19, lk l 19), (22, lk l 22), (27, lk l 27), (28, lk l 28), (30, lk l 30)], rows, low⟩ r := reg (keep := [17, 19, 22, 27, 28, 30]) (ops := c9r9) rfl (by kernel_rfl) (by kernel_rfl)
def c9l2 : ICode := (.seq (.seq c9k9 c9s8) c9s7)
def c9s10 : ICode := (.block 6 (.loop c9l2))
@[simp] theorem uc9s10 : Ex F cx (.code c9s10 :: k) s r ↔ Ex F cx (.code (.block 6 (.loop c9l2)) :: k) s r := Iff.rfl
def c9r11 : List Seg := [
  .one ⟨some 30, .mv (.c (.int .i64 0)), none⟩]
def c9k11 : ICode := .kill (dead 201 [17, 19, 22, 27, 28]) (.ops c9r11)
@[simp] theorem uc9k11 : Ex F cx (.code c9k11 :: k) ⟨mk 201 l, rows, low⟩ r ↔ Ex F cx k ⟨mk 201 [(30, (.int .i64 0)), (17, lk l 17), (19, lk l 19), (22, lk l 22), (27, lk l 27), (28, lk l 28)], rows, low⟩ r := reg (keep := [17, 19, 22, 27, 28]) (ops := c9r11) rfl (by kernel_rfl) (by kernel_rfl)
def c9s12 : ICode := (.seq (.seq c9k11 c9s10) c9s1)
@[simp] theorem uc9s12 : Ex F cx (.code c9s12 :: k) s r ↔ Ex F cx (.code (.seq (.seq c9k11 c9s10) c9s1) :: k) s r := Iff.rfl
def c9r14 : List Seg := [
  .one ⟨some 158, .mv (.t 29), none⟩,
  .one ⟨some 159, .bin .add (.t 158) (.c (.int .i64 1)), none⟩,
  .one ⟨some 29, .mv (.t 159), none⟩]
def c9k14 : ICode := .kill (dead 201 [17, 18, 19, 22, 25, 27, 28, 29]) (.ops c9r14)
@[simp] theorem uc9k14 : Ex F cx (.code c9k14 :: k) ⟨mk 201 l, rows, low⟩ r ↔ bnd (evP rows (.bin .add (.c (lk l 29)) (.c (.int .i64 1)))) fun v0 => Ex F cx k ⟨mk 201 [(29, v0), (159, v0), (158, lk l 29), (17, lk l 17), (18, lk l 18), (19, lk l 19), (22, lk l 22), (25, lk l 25), (27, lk l 27), (28, lk l 28), (29, lk l 29)], rows, low⟩ r := reg (keep := [17, 18, 19, 22, 25, 27, 28, 29]) (ops := c9r14) rfl (by kernel_rfl) (by kernel_rfl)
def c9r15 : List Seg := [
  .one ⟨some 166, .mv (.t 28), none⟩,
  .one ⟨some 167, .mv (.t 25), none⟩,
  .one ⟨some 168, .mv (.t 29), none⟩,
  .one ⟨some 169, .idxS 1 (.t 167) (.t 168), none⟩,
  .one ⟨some 170, .load1 (.t 169), none⟩,
  .one ⟨some 171, .mx [(.t 166), (.t 170)], none⟩,
  .one ⟨some 28, .mv (.t 171), none⟩]
def c9k15 : ICode := .kill (dead 201 [17, 18, 19, 22, 25, 27, 28, 29]) (.ops c9r15)
@[simp] theorem uc9k15 : Ex F cx (.code c9k15 :: k) ⟨mk 201 l, rows, low⟩ r ↔ bnd (evP rows (.idxS 1 (.c (lk l 25)) (.c (lk l 29)))) fun v0 => bnd (evP rows (.load1 (.c v0))) fun v1 => bnd (evP rows (.mx [(.c (lk l 28)), (.c v1)])) fun v2 => Ex F cx k ⟨mk 201 [(28, v2), (171, v2), (170, v1), (169, v0), (168, lk l 29), (167, lk l 25), (166, lk l 28), (17, lk l 17), (18, lk l 18), (19, lk l 19), (22, lk l 22), (25, lk l 25), (27, lk l 27), (28, lk l 28), (29, lk l 29)], rows, low⟩ r := reg (keep := [17, 18, 19, 22, 25, 27, 28, 29]) (ops := c9r15) rfl (by kernel_rfl) (by kernel_rfl)
def c9r16 : List Seg := [
  .one ⟨some 160, .mv (.t 27), none⟩,
  .one ⟨some 161, .mv (.t 18), none⟩,
  .one ⟨some 162, .mv (.t 29), none⟩,
  .one ⟨some 163, .idxS 1 (.t 161) (.t 162), none⟩,
  .one ⟨some 164, .load1 (.t 163), none⟩,
  .one ⟨some 165, .bin .add (.t 160) (.t 164), none⟩,
  .one ⟨some 27, .mv (.t 165), none⟩]
def c9k16 : ICode := .kill (dead 201 [17, 18, 19, 22, 25, 27, 28, 29]) (.ops c9r16)
@[simp] theorem uc9k16 : Ex F cx (.code c9k16 :: k) ⟨mk 201 l, rows, low⟩ r ↔ bnd (evP rows (.idxS 1 (.c (lk l 18)) (.c (lk l 29)))) fun v0 => bnd (evP rows (.load1 (.c v0))) fun v1 => bnd (evP rows (.bin .add (.c (lk l 27)) (.c v1))) fun v2 => Ex F cx k ⟨mk 201 [(27, v2), (165, v2), (164, v1), (163, v0), (162, lk l 29), (161, lk l 18), (160, lk l 27), (17, lk l 17), (18, lk l 18), (19, lk l 19), (22, lk l 22), (25, lk l 25), (27, lk l 27), (28, lk l 28), (29, lk l 29)], rows, low⟩ r := reg (keep := [17, 18, 19, 22, 25, 27, 28, 29]) (ops := c9r16) rfl (by kernel_rfl) (by kernel_rfl)
def c9s17 : ICode := (.seq (.block 5 (.seq c9k16 c9k15)) c9k14)
@[simp] theorem uc9s17 : Ex F cx (.code c9s17 :: k) s r ↔ Ex F cx (.code (.seq (.block 5 (.seq c9k16 c9k15)) c9k14) :: k) s r := Iff.rfl
def c9s18 : ICode := (.cond (.t 157) .skip (.exit 4))
@[simp] theorem uc9s18 : Ex F cx (.code c9s18 :: k) s r ↔ Ex F cx (.code (.cond (.t 157) .skip (.exit 4)) :: k) s r := Iff.rfl
def c9r19 : List Seg := [
  .one ⟨some 154, .mv (.t 29), none⟩,
  .one ⟨some 155, .mv (.t 18), none⟩,
  .one ⟨some 156, .len 0 (.t 155), none⟩,
  .one ⟨some 157, .bin .lss (.t 154) (.t 156), none⟩]
def c9k19 : ICode := .kill (dead 201 [17, 18, 19, 22, 25, 27, 28, 29]) (.ops c9r19)
@[simp] theorem uc9k19 : Ex F cx (.code c9k19 :: k) ⟨mk 201 l, rows, low⟩ r ↔ bnd (evP rows (.len 0 (.c (lk l 18)))) fun v0 => bnd (evP rows (.bin .lss (.c (lk l 29)) (.c v0))) fun v1 => Ex F cx k ⟨mk 201 [(157, v1), (156, v0), (155, lk l 18), (154, lk l 29), (17, lk l 17), (18, lk l 18), (19, lk l 19), (22, lk l 22), (25, lk l 25), (27, lk l 27), (28, lk l 28), (29, lk l 29)], rows, low⟩ r := reg (keep := [17, 18, 19, 22, 25, 27, 28, 29]) (ops := c9r19) rfl (by kernel_rfl) (by kernel_rfl)
def c9l13 : ICode := (.seq (.seq c9k19 c9s18) c9s17)
def c9s20 : ICode := (.block 4 (.loop c9l13))
@[simp] theorem uc9s20 : Ex F cx (.code c9s20 :: k) s r ↔ Ex F cx (.code (.block 4 (.loop c9l13)) :: k) s r := Iff.rfl
def c9r21 : List Seg := [
  .one ⟨some 29, .mv (.c (.int .i64 0)), none⟩]
def c9k21 : ICode := .kill (dead 201 [17, 18, 19, 22, 25, 27, 28]) (.ops c9r21)
@[simp] theorem uc9k21 : Ex F cx (.code c9k21 :: k) ⟨mk 201 l, rows, low⟩ r ↔ Ex F cx k ⟨mk 201 [(29, (.int .i64 0)), (17, lk l 17), (18, lk l 18), (19, lk l 19), (22, lk l 22), (25, lk l 25), (27, lk l 27), (28, lk l 28)], rows, low⟩ r := reg (keep := [17, 18, 19, 22, 25, 27, 28]) (ops := c9r21) rfl (by kernel_rfl) (by kernel_rfl)
def c9s22 : ICode := (.seq (.seq c9k21 c9s20) c9s12)
@[simp] theorem uc9s22 : Ex F cx (.code c9s22 :: k) s r ↔ Ex F cx (.code (.seq (.seq c9k21 c9s20) c9s12) :: k) s r := Iff.rfl
def c9r23 : List Seg := [
  .one ⟨some 27, .mv (.c (.int .i64 0)), none⟩,
  .one ⟨some 28, .mv (.c (.int .i64 0)), none⟩]
def c9k23 : ICode := .kill (dead 201 [17, 18, 19, 22, 25]) (.ops c9r23)
@[simp] theorem uc9k23 : Ex F cx (.code c9k23 :: k) ⟨mk 201 l, rows, low⟩ r ↔ Ex F cx k ⟨mk 201 [(28, (.int .i64 0)), (27, (.int .i64 0)), (17, lk l 17), (18, lk l 18), (19, lk l 19), (22, lk l 22), (25, lk l 25)], rows, low⟩ r := reg (keep := [17, 18, 19, 22, 25]) (ops := c9r23) rfl (by kernel_rfl) (by kernel_rfl)
def c9s24 : ICode := (.seq c9k23 c9s22)
@[simp] theorem uc9s24 : Ex F cx (.code c9s24 :: k) s r ↔ Ex F cx (.code (.seq c9k23 c9s22) :: k) s r := Iff.rfl
def c9r25 : List Seg := [
  .one ⟨some 6, .mv (.c (.bool false)), none⟩]
def c9k25 : ICode := .kill (dead 201 []) (.ops c9r25)
@[simp] theorem uc9k25 : Ex F cx (.code c9k25 :: k) ⟨mk 201 l, rows, low⟩ r ↔ Ex F cx k ⟨mk 201 [(6, (.bool false))], rows, low⟩ r := reg (keep := []) (ops := c9r25) rfl (by kernel_rfl) (by kernel_rfl)
def c9s26 : ICode := (.cond (.t 153) (.seq c9k25 .ret) .skip)
@[simp] theorem uc9s26 : Ex F cx (.code c9s26 :: k) s r ↔ Ex F cx (.code (.cond (.t 153) (.seq c9k25 .ret) .skip) :: k) s r := Iff.rfl
def c9r27 : List Seg := [
  .one ⟨some 128, .mv (.t 21), none⟩,
  .one ⟨some 129, .bin .neq (.t 128) (.c (.int .i64 0)), none⟩,
  .one ⟨some 130, .mv (.t 129), none⟩,
  .one ⟨some 131, .mv (.t 24), some (130, false)⟩,
  .one ⟨some 132, .bin .neq (.t 131) (.c (.int .i64 0)), some (130, false)⟩,
  .one ⟨some 133, .pick (.t 130) (.c (.bool true)) (.t 132), none⟩,
  .one ⟨some 134, .mv (.t 133), none⟩,
  .one ⟨some 135, .mv (.t 26), some (134, false)⟩,
  .one ⟨some 136, .bin .neq (.t 135) (.c (.int .i64 0)), some (134, false)⟩,
  .one ⟨some 137, .pick (.t 134) (.c (.bool true)) (.t 136), none⟩,
  .one ⟨some 138, .mv (.t 137), none⟩,
  .one ⟨some 139, .mv (.t 25), some (138, false)⟩,
  .one ⟨some 140, .len 0 (.t 139), some (138, false)⟩,
  .one ⟨some 141, .mv (.t 17), some (138, false)⟩,
  .one ⟨some 142, .len 0 (.t 141), some (138, false)⟩,
  .one ⟨some 143, .bin .add (.t 142) (.c (.int .i64 1)), some (138, false)⟩,
  .one ⟨some 144, .bin .neq (.t 140) (.t 143), some (138, false)⟩,
  .one ⟨some 145, .pick (.t 138) (.c (.bool true)) (.t 144), none⟩,
  .one ⟨some 146, .mv (.t 145), none⟩,
  .one ⟨some 147, .mv (.t 19), some (146, false)⟩,
  .one ⟨some 148, .bin .lss (.t 147) (.c (.int .i64 0)), some (146, false)⟩,
  .one ⟨some 149, .pick (.t 146) (.c (.bool true)) (.t 148), none⟩,
  .one ⟨some 150, .mv (.t 149), none⟩,
  .one ⟨some 151, .mv (.t 19), some (150, false)⟩,
  .one ⟨some 152, .bin .gtr (.t 151) (.c (.int .i64 20000)), some (150, false)⟩,
  .one ⟨some 153, .pick (.t 150) (.c (.bool true)) (.t 152), none⟩]
def c9k27 : ICode := .kill (dead 201 [17, 18, 19, 21, 22, 24, 25, 26]) (.ops c9r27)
@[simp] theorem uc9k27 : Ex F cx (.code c9k27 :: k) ⟨mk 201 l, rows, low⟩ r ↔ bnd (evP rows (.bin .neq (.c (lk l 21)) (.c (.int .i64 0)))) fun v0 => bnd (gv v0 false (evP rows (.mv (.c (lk l 24))))) fun v1 => bnd (gv v0 false (evP rows (.bin .neq (.c v1) (.c (.int .i64 0))))) fun v2 => bnd (evP rows (.pick (.c v0) (.c (.bool true)) (.c v2))) fun v3 => bnd (gv v3 false (evP rows (.mv (.c (lk l 26))))) fun v4 => bnd (gv v3 false (evP rows (.bin .neq (.c v4) (.c (.int .i64 0))))) fun v5 => bnd (evP rows (.pick (.c v3) (.c (.bool true)) (.c v5))) fun v6 => bnd (gv v6 false (evP rows (.mv (.c (lk l 25))))) fun v7 => bnd (gv v6 false (evP rows (.len 0 (.c v7)))) fun v8 => bnd (gv v6 false (evP rows (.mv (.c (lk l 17))))) fun v9 => bnd (gv v6 false (evP rows (.len 0 (.c v9)))) fun v10 => bnd (gv v6 false (evP rows (.bin .add (.c v10) (.c (.int .i64 1))))) fun v11 => bnd (gv v6 false (evP rows (.bin .neq (.c v8) (.c v11)))) fun v12 => bnd (evP rows (.pick (.c v6) (.c (.bool true)) (.c v12))) fun v13 => bnd (gv v13 false (evP rows (.mv (.c (lk l 19))))) fun v14 => bnd (gv v13 false (evP rows (.bin .lss (.c v14) (.c (.int .i64 0))))) fun v15 => bnd (evP rows (.pick (.c v13) (.c (.bool true)) (.c v15))) fun v16 => bnd (gv v16 false (evP rows (.mv (.c (lk l 19))))) fun v17 => bnd (gv v16 false (evP rows (.bin .gtr (.c v17) (.c (.int .i64 20000))))) fun v18 => bnd (evP rows (.pick (.c v16) (.c (.bool true)) (.c v18))) fun v19 => Ex F cx k ⟨mk 201 [(153, v19), (152, v18), (151, v17), (150, v16), (149, v16), (148, v15), (147, v14), (146, v13), (145, v13), (144, v12), (143, v11), (142, v10), (141, v9), (140, v8), (139, v7), (138, v6), (137, v6), (136, v5), (135, v4), (134, v3), (133, v3), (132, v2), (131, v1), (130, v0), (129, v0), (128, lk l 21), (17, lk l 17), (18, lk l 18), (19, lk l 19), (21, lk l 21), (22, lk l 22), (24, lk l 24), (25, lk l 25), (26, lk l 26)], rows, low⟩ r := reg (keep := [17, 18, 19, 21, 22, 24, 25, 26]) (ops := c9r27) rfl (by kernel_rfl) (by kernel_rfl)
def c9s28 : ICode := (.seq (.seq c9k27 c9s26) c9s24)
@[simp] theorem uc9s28 : Ex F cx (.code c9s28 :: k) s r ↔ Ex F cx (.code (.seq (.seq c9k27 c9s26) c9s24) :: k) s r := Iff.rfl
def c9r29 : List Seg := [
  .one ⟨some 123, .mv (.t 17), none⟩,
  .one ⟨some 124, .mv (.t 20), none⟩,
  .one ⟨some 125, .call (.c (.func 29 [])) [(.t 123), (.t 124)], none⟩,
  .one ⟨some 122, .mv (.t 125), none⟩,
  .one ⟨some 126, .ext (.t 122) 0, none⟩,
  .one ⟨some 127, .ext (.t 122) 1, none⟩,
  .one ⟨some 25, .mv (.t 126), none⟩,
  .one ⟨some 26, .mv (.t 127), none⟩]
def c9k29 : ICode := .kill (dead 201 [17, 18, 19, 20, 21, 22, 24]) (.ops c9r29)
@[simp] theorem uc9k29 : Ex F cx (.code c9k29 :: k) ⟨mk 201 l, rows, low⟩ r ↔ bnd (Ret F 29 [lk l 17, lk l 20] rows) fun q0 => bnd (evP q0.2.1 (.ext (.c q0.1) 0)) fun v1 => bnd (evP q0.2.1 (.ext (.c q0.1) 1)) fun v2 => Ex F cx k ⟨mk 201 [(26, v2), (25, v1), (127, v2), (126, v1), (122, q0.1), (125, q0.1), (124, lk l 20), (123, lk l 17), (17, lk l 17), (18, lk l 18), (19, lk l 19), (20, lk l 20), (21, lk l 21), (22, lk l 22), (24, lk l 24)], q0.2.1, (lowO low q0.2.2)⟩ r := reg (keep := [17, 18, 19, 20, 21, 22, 24]) (ops := c9r29) rfl (by kernel_rfl) (by kernel_rfl)
def c9s30 : ICode := (.seq c9k29 c9s28)
@[simp] theorem uc9s30 : Ex F cx (.code c9s30 :: k) s r ↔ Ex F cx (.code (.seq c9k29 c9s28) :: k) s r := Iff.rfl
def c9r31 : List Seg := [
  .one ⟨some 116, .mv (.t 17), none⟩,
  .one ⟨some 117, .mv (.t 18), none⟩,
  .one ⟨some 118, .call (.c (.func 35 [])) [(.t 116), (.t 117)], none⟩,
  .one ⟨some 115, .mv (.t 118), none⟩,
  .one ⟨some 119, .ext (.t 115) 0, none⟩,
  .one ⟨some 120, .ext (.t 115) 1, none⟩,
  .one ⟨some 121, .ext (.t 115) 2, none⟩,
  .one ⟨some 22, .mv (.t 119), none⟩,
  .one ⟨some 23, .mv (.t 120), none⟩,
  .one ⟨some 24, .mv (.t 121), none⟩]
def c9k31 : ICode := .kill (dead 201 [17, 18, 19, 20, 21]) (.ops c9r31)
@[simp] theorem uc9k31 : Ex F cx (.code c9k31 :: k) ⟨mk 201 l, rows, low⟩ r ↔ bnd (Ret F 35 [lk l 17, lk l 18] rows) fun q0 => bnd (evP q0.2.1 (.ext (.c q0.1) 0)) fun v1 => bnd (evP q0.2.1 (.ext (.c q0.1) 1)) fun v2 => bnd (evP q0.2.1 (.ext (.c q0.1) 2)) fun v3 => Ex F cx k ⟨mk 201 [(24, v3), (23, v2), (22, v1), (121, v3), (120, v2), (119, v1), (115, q0.1), (118, q0.1), (117, lk l 18), (116, lk l 17), (17, lk l 17), (18, lk l 18), (19, lk l 19), (20, lk l 20), (21, lk l 21)], q0.2.1, (lowO low q0.2.2)⟩ r := reg (keep := [17, 18, 19, 20, 21]) (ops := c9r31) rfl (by kernel_rfl) (by kernel_rfl)
def c9s32 : ICode := (.seq c9k31 c9s30)
@[simp] theorem uc9s32 : Ex F cx (.code c9s32 :: k) s r ↔ Ex F cx (.code (.seq c9k31 c9s30) :: k) s r := Iff.rfl
def c9r33 : List Seg := [
  .one ⟨some 110, .mv (.t 17), none⟩,
  .one ⟨some 111, .call (.c (.func 28 [])) [(.t 110)], none⟩,
  .one ⟨some 109, .mv (.t 111), none⟩,
  .one ⟨some 112, .ext (.t 109) 0, none⟩,
  .one ⟨some 113, .ext (.t 109) 1, none⟩,
  .one ⟨some 114, .ext (.t 109) 2, none⟩,
  .one ⟨some 19, .mv (.t 112), none⟩,
  .one ⟨some 20, .mv (.t 113), none⟩,
  .one ⟨some 21, .mv (.t 114), none⟩]
def c9k33 : ICode := .kill (dead 201 [17, 18]) (.ops c9r33)
@[simp] theorem uc9k33 : Ex F cx (.code c9k33 :: k) ⟨mk 201 l, rows, low⟩ r ↔ bnd (Ret F 28 [lk l 17] rows) fun q0 => bnd (evP q0.2.1 (.ext (.c q0.1) 0)) fun v1 => bnd (evP q0.2.1 (.ext (.c q0.1) 1)) fun v2 => bnd (evP q0.2.1 (.ext (.c q0.1) 2)) fun v3 => Ex F cx k ⟨mk 201 [(21, v3), (20, v2), (19, v1), (114, v3), (113, v2), (112, v1), (109, q0.1), (111, q0.1), (110, lk l 17), (17, lk l 17), (18, lk l 18)], q0.2.1, (lowO low q0.2.2)⟩ r := reg (keep := [17, 18]) (ops := c9r33) rfl (by kernel_rfl) (by kernel_rfl)
def c9s34 : ICode := (.seq c9k33 c9s32)
@[simp] theorem uc9s34 : Ex F cx (.code c9s34 :: k) s r ↔ Ex F cx (.code (.seq c9k33 c9s32) :: k) s r := Iff.rfl
def c9r35 : List Seg := [
  .one ⟨some 105, .mv (.t 2), none⟩,
  .one ⟨some 106, .mv (.t 17), none⟩,
  .one ⟨some 107, .len 0 (.t 106), none⟩,
  .one ⟨some 108, .call (.c (.func 34 [])) [(.t 105), (.t 107)], none⟩,
  .one ⟨some 18, .mv (.t 108), none⟩]
def c9k35 : ICode := .kill (dead 201 [2, 17]) (.ops c9r35)
@[simp] theorem uc9k35 : Ex F cx (.code c9k35 :: k) ⟨mk 201 l, rows, low⟩ r ↔ bnd (evP rows (.len 0 (.c (lk l 17)))) fun v0 => bnd (Ret F 34 [lk l 2, v0] rows) fun q1 => Ex F cx k ⟨mk 201 [(18, q1.1), (108, q1.1), (107, v0), (106, lk l 17), (105, lk l 2), (2, lk l 2), (17, lk l 17)], q1.2.1, (lowO low q1.2.2)⟩ r := reg (keep := [2, 17]) (ops := c9r35) rfl (by kernel_rfl) (by kernel_rfl)
def c9s36 : ICode := (.seq c9k35 c9s34)
@[simp] theorem uc9s36 : Ex F cx (.code c9s36 :: k) s r ↔ Ex F cx (.code (.seq c9k35 c9s34) :: k) s r := Iff.rfl
def c9r37 : List Seg := [
  .one ⟨some 103, .mv (.t 1), none⟩,
  .one ⟨some 104, .call (.c (.func 25 [])) [(.t 103)], none⟩,
  .one ⟨some 17, .mv (.t 104), none⟩]
def c9k37 : ICode := .kill (dead 201 [1, 2]) (.ops c9r37)
@[simp] theorem uc9k37 : Ex F cx (.code c9k37 :: k) ⟨mk 201 l, rows, low⟩ r ↔ bnd (Ret F 25 [lk l 1] rows) fun q0 => Ex F cx k ⟨mk 201 [(17, q0.1), (104, q0.1), (103, lk l 1), (1, lk l 1), (2, lk l 2)], q0.2.1, (lowO low q0.2.2)⟩ r := reg (keep := [1, 2]) (ops := c9r37) rfl (by kernel_rfl) (by kernel_rfl)
def c9s38 : ICode := (.seq c9k37 c9s36)
@[simp] theorem uc9s38 : Ex F cx (.code c9s38 :: k) s r ↔ Ex F cx (.code (.seq c9k37 c9s36) :: k) s r := Iff.rfl
def c9r39 : List Seg := [
  .one ⟨some 6, .mv (.c (.bool false)), none⟩]
def c9k39 : ICode := .kill (dead 201 []) (.ops c9r39)
@[simp] theorem uc9k39 : Ex F cx (.code c9k39 :: k) ⟨mk 201 l, rows, low⟩ r ↔ Ex F cx k ⟨mk 201 [(6, (.bool false))], rows, low⟩ r := reg (keep := []) (ops := c9r39) rfl (by kernel_rfl) (by kernel_rfl)
def c9s40 : ICode := (.cond (.t 102) (.seq c9k39 .ret) .skip)
@[simp] theorem uc9s40 : Ex F cx (.code c9s40 :: k) s r ↔ Ex F cx (.code (.cond (.t 102) (.seq c9k39 .ret) .skip) :: k) s r := Iff.rfl
def c9r41 : List Seg := [
  .one ⟨some 67, .mv (.t 11), none⟩,
  .one ⟨some 68, .bin .neq (.t 67) (.c (.int .i64 0)), none⟩,
  .one ⟨some 69, .mv (.t 68), none⟩,
  .one ⟨some 70, .mv (.t 9), some (69, false)⟩,
  .one ⟨some 71, .mv (.t 12), some (69, false)⟩,
  .one ⟨some 72, .bin .neq (.t 70) (.t 71), some (69, false)⟩,
  .one ⟨some 73, .pick (.t 69) (.c (.bool true)) (.t 72), none⟩,
  .one ⟨some 74, .mv (.t 73), none⟩,
  .one ⟨some 75, .mv (.t 14), some (74, false)⟩,
  .one ⟨some 76, .bin .neq (.t 75) (.c (.int .i64 0)), some (74, false)⟩,
  .one ⟨some 77, .pick (.t 74) (.c (.bool true)) (.t 76), none⟩,
  .one ⟨some 78, .mv (.t 77), none⟩,
  .one ⟨some 79, .mv (.t 16), some (78, false)⟩,
  .one ⟨some 80, .bin .neq (.t 79) (.c (.int .i64 0)), some (78, false)⟩,
  .one ⟨some 81, .pick (.t 78) (.c (.bool true)) (.t 80), none⟩,
  .one ⟨some 82, .mv (.t 81), none⟩,
  .one ⟨some 83, .mv (.t 13), some (82, false)⟩,
  .one ⟨some 84, .bin .lss (.t 83) (.c (.int .i64 1)), some (82, false)⟩,
  .one ⟨some 85, .pick (.t 82) (.c (.bool true)) (.t 84), none⟩,
  .one ⟨some 86, .mv (.t 85), none⟩,
  .one ⟨some 87, .mv (.t 13), some (86, false)⟩,
  .one ⟨some 88, .bin .gtr (.t 87) (.c (.int .i64 1000000)), some (86, false)⟩,
  .one ⟨some 89, .pick (.t 86) (.c (.bool true)) (.t 88), none⟩,
  .one ⟨some 90, .mv (.t 89), none⟩,
  .one ⟨some 91, .mv (.t 0), some (90, false)⟩,
  .one ⟨some 92, .bin .add (.t 91) (.c (.int .i64 2)), some (90, false)⟩,
  .one ⟨some 93, .mv (.t 15), some (90, false)⟩,
  .one ⟨some 94, .bin .mul (.t 92) (.t 93), some (90, false)⟩,
  .one ⟨some 95, .mv (.t 0), some (90, false)⟩,
  .one ⟨some 96, .bin .mul (.c (.int .i64 2)) (.t 95), some (90, false)⟩,
  .one ⟨some 97, .bin .add (.t 96) (.c (.int .i64 1)), some (90, false)⟩,
  .one ⟨some 98, .bin .mul (.c (.int .i64 2)) (.t 97), some (90, false)⟩,
  .one ⟨some 99, .mv (.t 13), some (90, false)⟩,
  .one ⟨some 100, .bin .mul (.t 98) (.t 99), some (90, false)⟩,
  .one ⟨some 101, .bin .neq (.t 94) (.t 100), some (90, false)⟩,
  .one ⟨some 102, .pick (.t 90) (.c (.bool true)) (.t 101), none⟩]
def c9k41 : ICode := .kill (dead 201 [0, 1, 2, 9, 11, 12, 13, 14, 15, 16]) (.ops c9r41)
@[simp] theorem uc9k41 : Ex F cx (.code c9k41 :: k) ⟨mk 201 l, rows, low⟩ r ↔ bnd (evP rows (.bin .neq (.c (lk l 11)) (.c (.int .i64 0)))) fun v0 => bnd (gv v0 false (evP rows (.mv (.c (lk l 9))))) fun v1 => bnd (gv v0 false (evP rows (.mv (.c (lk l 12))))) fun v2 => bnd (gv v0 false (evP rows (.bin .neq (.c v1) (.c v2)))) fun v3 => bnd (evP rows (.pick (.c v0) (.c (.bool true)) (.c v3))) fun v4 => bnd (gv v4 false (evP rows (.mv (.c (lk l 14))))) fun v5 => bnd (gv v4 false (evP rows (.bin .neq (.c v5) (.c (.int .i64 0))))) fun v6 => bnd (evP rows (.pick (.c v4) (.c (.bool true)) (.c v6))) fun v7 => bnd (gv v7 false (evP rows (.mv (.c (lk l 16))))) fun v8 => bnd (gv v7 false (evP rows (.bin .neq (.c v8) (.c (.int .i64 0))))) fun v9 => bnd (evP rows (.pick (.c v7) (.c (.bool true)) (.c v9))) fun v10 => bnd (gv v10 false (evP rows (.mv (.c (lk l 13))))) fun v11 => bnd (gv v10 false (evP rows (.bin .lss (.c v11) (.c (.int .i64 1))))) fun v12 => bnd (evP rows (.pick (.c v10) (.c (.bool true)) (.c v12))) fun v13 => bnd (gv v13 false (evP rows (.mv (.c (lk l 13))))) fun v14 => bnd (gv v13 false (evP rows (.bin .gtr (.c v14) (.c (.int .i64 1000000))))) fun v15 => bnd (evP rows (.pick (.c v13) (.c (.bool true)) (.c v15))) fun v16 => bnd (gv v16 false (evP rows (.mv (.c (lk l 0))))) fun v17 => bnd (gv v16 false (evP rows (.bin .add (.c v17) (.c (.int .i64 2))))) fun v18 => bnd (gv v16 false (evP rows (.mv (.c (lk l 15))))) fun v19 => bnd (gv v16 false (evP rows (.bin .mul (.c v18) (.c v19)))) fun v20 => bnd (gv v16 false (evP rows (.mv (.c (lk l 0))))) fun v21 => bnd (gv v16 false (evP rows (.bin .mul (.c (.int .i64 2)) (.c v21)))) fun v22 => bnd (gv v16 false (evP rows (.bin .add (.c v22) (.c (.int .i64 1))))) fun v23 => bnd (gv v16 false (evP rows (.bin .mul (.c (.int .i64 2)) (.c v23)))) fun v24 => bnd (gv v16 false (evP rows (.mv (.c (lk l 13))))) fun v25 => bnd (gv v16 false (evP rows (.bin .mul (.c v24) (.c v25)))) fun v26 => bnd (gv v16 false (evP rows (.bin .neq (.c v20) (.c v26)))) fun v27 => bnd (evP rows (.pick (.c v16) (.c (.bool true)) (.c v27))) fun v28 => Ex F cx k ⟨mk 201 [(102, v28), (101, v27), (100, v26), (99, v25), (98, v24), (97, v23), (96, v22), (95, v21), (94, v20), (93, v19), (92, v18), (91, v17), (90, v16), (89, v16), (88, v15), (87, v14), (86, v13), (85, v13), (84, v12), (83, v11), (82, v10), (81, v10), (80, v9), (79, v8), (78, v7), (77, v7), (76, v6), (75, v5), (74, v4), (73, v4), (72, v3), (71, v2), (70, v1), (69, v0), (68, v0), (67, lk l 11), (0, lk l 0), (1, lk l 1), (2, lk l 2), (9, lk l 9), (11, lk l 11), (12, lk l 12), (13, lk l 13), (14, lk l 14), (15, lk l 15), (16, lk l 16)], rows, low⟩ r := reg (keep := [0, 1, 2, 9, 11, 12, 13, 14, 15, 16]) (ops := c9r41) rfl (by kernel_rfl) (by kernel_rfl)
def c9s42 : ICode := (.seq (.seq c9k41 c9s40) c9s38)
@[simp] theorem uc9s42 : Ex F cx (.code c9s42 :: k) s r ↔ Ex F cx (.code (.seq (.seq c9k41 c9s40) c9s38) :: k) s r := Iff.rfl
def c9r43 : List Seg := [
  .one ⟨some 62, .mv (.t 0), none⟩,
  .one ⟨some 63, .bin .add (.t 62) (.c (.int .i64 1)), none⟩,
  .one ⟨some 64, .call (.c (.func 23 [])) [(.t 63)], none⟩,
  .one ⟨some 61, .mv (.t 64), none⟩,
  .one ⟨some 65, .ext (.t 61) 0, none⟩,
  .one ⟨some 66, .ext (.t 61) 1, none⟩,
  .one ⟨some 15, .mv (.t 65), none⟩,
  .one ⟨some 16, .mv (.t 66), none⟩]
def c9k43 : ICode := .kill (dead 201 [0, 1, 2, 9, 11, 12, 13, 14]) (.ops c9r43)
@[simp] theorem uc9k43 : Ex F cx (.code c9k43 :: k) ⟨mk 201 l, rows, low⟩ r ↔ bnd (evP rows (.bin .add (.c (lk l 0)) (.c (.int .i64 1)))) fun v0 => bnd (Ret F 23 [v0] rows) fun q1 => bnd (evP q1.2.1 (.ext (.c q1.1) 0)) fun v2 => bnd (evP q1.2.1 (.ext (.c q1.1) 1)) fun v3 => Ex F cx k ⟨mk 201 [(16, v3), (15, v2), (66, v3), (65, v2), (61, q1.1), (64, q1.1), (63, v0), (62, lk l 0), (0, lk l 0), (1, lk l 1), (2, lk l 2), (9, lk l 9), (11, lk l 11), (12, lk l 12), (13, lk l 13), (14, lk l 14)], q1.2.1, (lowO low q1.2.2)⟩ r := reg (keep := [0, 1, 2, 9, 11, 12, 13, 14]) (ops := c9r43) rfl (by kernel_rfl) (by kernel_rfl)
def c9s44 : ICode := (.seq c9k43 c9s42)
@[simp] theorem uc9s44 : Ex F cx (.code c9s44 :: k) s r ↔ Ex F cx (.code (.seq c9k43 c9s42) :: k) s r := Iff.rfl
def c9r45 : List Seg := [
  .one ⟨some 57, .mv (.t 0), none⟩,
  .one ⟨some 58, .call (.c (.func 23 [])) [(.t 57)], none⟩,
  .one ⟨some 56, .mv (.t 58), none⟩,
  .one ⟨some 59, .ext (.t 56) 0, none⟩,
  .one ⟨some 60, .ext (.t 56) 1, none⟩,
  .one ⟨some 13, .mv (.t 59), none⟩,
  .one ⟨some 14, .mv (.t 60), none⟩]
def c9k45 : ICode := .kill (dead 201 [0, 1, 2, 9, 11, 12]) (.ops c9r45)
@[simp] theorem uc9k45 : Ex F cx (.code c9k45 :: k) ⟨mk 201 l, rows, low⟩ r ↔ bnd (Ret F 23 [lk l 0] rows) fun q0 => bnd (evP q0.2.1 (.ext (.c q0.1) 0)) fun v1 => bnd (evP q0.2.1 (.ext (.c q0.1) 1)) fun v2 => Ex F cx k ⟨mk 201 [(14, v2), (13, v1), (60, v2), (59, v1), (56, q0.1), (58, q0.1), (57, lk l 0), (0, lk l 0), (1, lk l 1), (2, lk l 2), (9, lk l 9), (11, lk l 11), (12, lk l 12)], q0.2.1, (lowO low q0.2.2)⟩ r := reg (keep := [0, 1, 2, 9, 11, 12]) (ops := c9r45) rfl (by kernel_rfl) (by kernel_rfl)
def c9s46 : ICode := (.seq c9k45 c9s44)
@[simp] theorem uc9s46 : Ex F cx (.code c9s46 :: k) s r ↔ Ex F cx (.code (.seq c9k45 c9s44) :: k) s r := Iff.rfl
def c9r48 : List Seg := [
  .one ⟨some 54, .mv (.t 12), none⟩,
  .one ⟨some 55, .bin .add (.t 54) (.c (.int .i64 1)), none⟩,
  .one ⟨some 12, .mv (.t 55), none⟩]
def c9k48 : ICode := .kill (dead 201 [0, 1, 2, 9, 11, 12]) (.ops c9r48)
@[simp] theorem uc9k48 : Ex F cx (.code c9k48 :: k) ⟨mk 201 l, rows, low⟩ r ↔ bnd (evP rows (.bin .add (.c (lk l 12)) (.c (.int .i64 1)))) fun v0 => Ex F cx k ⟨mk 201 [(12, v0), (55, v0), (54, lk l 12), (0, lk l 0), (1, lk l 1), (2, lk l 2), (9, lk l 9), (11, lk l 11), (12, lk l 12)], rows, low⟩ r := reg (keep := [0, 1, 2, 9, 11, 12]) (ops := c9r48) rfl (by kernel_rfl) (by kernel_rfl)
def c9s49 : ICode := (.block 3 c9k48)
@[simp] theorem uc9s49 : Ex F cx (.code c9s49 :: k) s r ↔ Ex F cx (.code (.block 3 c9k48) :: k) s r := Iff.rfl
def c9s50 : ICode := (.cond (.t 53) .skip (.exit 2))
@[simp] theorem uc9s50 : Ex F cx (.code c9s50 :: k) s r ↔ Ex F cx (.code (.cond (.t 53) .skip (.exit 2)) :: k) s r := Iff.rfl
def c9r51 : List Seg := [
  .one ⟨some 49, .mv (.t 12), none⟩,
  .one ⟨some 50, .bin .shl (.c (.int .i64 1)) (.t 49), none⟩,
  .one ⟨some 51, .mv (.t 0), none⟩,
  .one ⟨some 52, .bin .add (.t 51) (.c (.int .i64 1)), none⟩,
  .one ⟨some 53, .bin .lss (.t 50) (.t 52), none⟩]
def c9k51 : ICode := .kill (dead 201 [0, 1, 2, 9, 11, 12]) (.ops c9r51)
@[simp] theorem uc9k51 : Ex F cx (.code c9k51 :: k) ⟨mk 201 l, rows, low⟩ r ↔ bnd (evP rows (.bin .shl (.c (.int .i64 1)) (.c (lk l 12)))) fun v0 => bnd (evP rows (.bin .add (.c (lk l 0)) (.c (.int .i64 1)))) fun v1 => bnd (evP rows (.bin .lss (.c v0) (.c v1))) fun v2 => Ex F cx k ⟨mk 201 [(53, v2), (52, v1), (51, lk l 0), (50, v0), (49, lk l 12), (0, lk l 0), (1, lk l 1), (2, lk l 2), (9, lk l 9), (11, lk l 11), (12, lk l 12)], rows, low⟩ r := reg (keep := [0, 1, 2, 9, 11, 12]) (ops := c9r51) rfl (by kernel_rfl) (by kernel_rfl)
def c9l47 : ICode := (.seq (.seq c9k51 c9s50) c9s49)
def c9s52 : ICode := (.seq (.block 2 (.loop c9l47)) c9s46)
@[simp] theorem uc9s52 : Ex F cx (.code c9s52 :: k) s r ↔ Ex F cx (.code (.seq (.block 2 (.loop c9l47)) c9s46) :: k) s r := Iff.rfl
def c9r53 : List Seg := [
  .one ⟨some 12, .mv (.c (.int .i64 0)), none⟩]
def c9k53 : ICode := .kill (dead 201 [0, 1, 2, 9, 11]) (.ops c9r53)
@[simp] theorem uc9k53 : Ex F cx (.code c9k53 :: k) ⟨mk 201 l, rows, low⟩ r ↔ Ex F cx k ⟨mk 201 [(12, (.int .i64 0)), (0, lk l 0), (1, lk l 1), (2, lk l 2), (9, lk l 9), (11, lk l 11)], rows, low⟩ r := reg (keep := [0, 1, 2, 9, 11]) (ops := c9r53) rfl (by kernel_rfl) (by kernel_rfl)
def c9s54 : ICode := (.seq c9k53 c9s52)
@[simp] theorem uc9s54 : Ex F cx (.code c9s54 :: k) s r ↔ Ex F cx (.code (.seq c9k53 c9s52) :: k) s r := Iff.rfl
def c9r55 : List Seg := [
  .one ⟨some 44, .mv (.t 7), none⟩,
  .one ⟨some 45, .call (.c (.func 28 [])) [(.t 44)], none⟩,
  .one ⟨some 43, .mv (.t 45), none⟩,
  .one ⟨some 46, .ext (.t 43) 0, none⟩,
  .one ⟨some 47, .ext (.t 43) 1, none⟩,
  .one ⟨some 48, .ext (.t 43) 2, none⟩,
  .one ⟨some 9, .mv (.t 46), none⟩,
  .one ⟨some 10, .mv (.t 47), none⟩,
  .one ⟨some 11, .mv (.t 48), none⟩]
def c9k55 : ICode := .kill (dead 201 [0, 1, 2, 7]) (.ops c9r55)
@[simp] theorem uc9k55 : Ex F cx (.code c9k55 :: k) ⟨mk 201 l, rows, low⟩ r ↔ bnd (Ret F 28 [lk l 7] rows) fun q0 => bnd (evP q0.2.1 (.ext (.c q0.1) 0)) fun v1 => bnd (evP q0.2.1 (.ext (.c q0.1) 1)) fun v2 => bnd (evP q0.2.1 (.ext (.c q0.1) 2)) fun v3 => Ex F cx k ⟨mk 201 [(11, v3), (10, v2), (9, v1), (48, v3), (47, v2), (46, v1), (43, q0.1), (45, q0.1), (44, lk l 7), (0, lk l 0), (1, lk l 1), (2, lk l 2), (7, lk l 7)], q0.2.1, (lowO low q0.2.2)⟩ r := reg (keep := [0, 1, 2, 7]) (ops := c9r55) rfl (by kernel_rfl) (by kernel_rfl)
def c9s56 : ICode := (.seq c9k55 c9s54)
@[simp] theorem uc9s56 : Ex F cx (.code c9s56 :: k) s r ↔ Ex F cx (.code (.seq c9k55 c9s54) :: k) s r := Iff.rfl
def c9r58 : List Seg := [
  .one ⟨some 38, .mv (.t 8), none⟩,
  .one ⟨some 39, .bin .add (.t 38) (.c (.int .i64 1)), none⟩,
  .one ⟨some 8, .mv (.t 39), none⟩]
def c9k58 : ICode := .kill (dead 201 [0, 1, 2, 7, 8]) (.ops c9r58)
@[simp] theorem uc9k58 : Ex F cx (.code c9k58 :: k) ⟨mk 201 l, rows, low⟩ r ↔ bnd (evP rows (.bin .add (.c (lk l 8)) (.c (.int .i64 1)))) fun v0 => Ex F cx k ⟨mk 201 [(8, v0), (39, v0), (38, lk l 8), (0, lk l 0), (1, lk l 1), (2, lk l 2), (7, lk l 7), (8, lk l 8)], rows, low⟩ r := reg (keep := [0, 1, 2, 7, 8]) (ops := c9r58) rfl (by kernel_rfl) (by kernel_rfl)
def c9r59 : List Seg := [
  .one ⟨some 40, .mv (.t 7), none⟩,
  .one ⟨some 41, .mkslice 1 [.int .i64 0] [(0, 1, (.c (.int .i64 1)))], none⟩,
  .one ⟨some 42, .app 1 8 (.t 40) (.t 41), none⟩,
  .one ⟨some 7, .mv (.t 42), none⟩]
def c9k59 : ICode := .kill (dead 201 [0, 1, 2, 7, 8]) (.ops c9r59)
@[simp] theorem uc9k59 : Ex F cx (.code c9k59 :: k) ⟨mk 201 l, rows, low⟩ r ↔ bnd (evE rows low (.mkslice 1 [.int .i64 0] [(0, 1, (.c (.int .i64 1)))])) fun q0 => bnd (evE q0.2.1 q0.2.2 (.app 1 8 (.c (lk l 7)) (.c q0.1))) fun q1 => Ex F cx k ⟨mk 201 [(7, q1.1), (42, q1.1), (41, q0.1), (40, lk l 7), (0, lk l 0), (1, lk l 1), (2, lk l 2), (7, lk l 7), (8, lk l 8)], q1.2.1, q1.2.2⟩ r := reg (keep := [0, 1, 2, 7, 8]) (ops := c9r59) rfl (by kernel_rfl) (by kernel_rfl)
def c9s60 : ICode := (.seq (.block 1 c9k59) c9k58)
@[simp] theorem uc9s60 : Ex F cx (.code c9s60 :: k) s r ↔ Ex F cx (.code (.seq (.block 1 c9k59) c9k58) :: k) s r := Iff.rfl
def c9s61 : ICode := (.cond (.t 37) .skip (.exit 0))
@[simp] theorem uc9s61 : Ex F cx (.code c9s61 :: k) s r ↔ Ex F cx (.code (.cond (.t 37) .skip (.exit 0)) :: k) s r := Iff.rfl
def c9r62 : List Seg := [
  .one ⟨some 35, .mv (.t 8), none⟩,
  .one ⟨some 36, .mv (.t 0), none⟩,
  .one ⟨some 37, .bin .lss (.t 35) (.t 36), none⟩]
def c9k62 : ICode := .kill (dead 201 [0, 1, 2, 7, 8]) (.ops c9r62)
@[simp] theorem uc9k62 : Ex F cx (.code c9k62 :: k) ⟨mk 201 l, rows, low⟩ r ↔ bnd (evP rows (.bin .lss (.c (lk l 8)) (.c (lk l 0)))) fun v0 => Ex F cx k ⟨mk 201 [(37, v0), (36, lk l 0), (35, lk l 8), (0, lk l 0), (1, lk l 1), (2, lk l 2), (7, lk l 7), (8, lk l 8)], rows, low⟩ r := reg (keep := [0, 1, 2, 7, 8]) (ops := c9r62) rfl (by kernel_rfl) (by kernel_rfl)
def c9l57 : ICode := (.seq (.seq c9k62 c9s61) c9s60)
def c9s63 : ICode := (.block 0 (.loop c9l57))
@[simp] theorem uc9s63 : Ex F cx (.code c9s63 :: k) s r ↔ Ex F cx (.code (.block 0 (.loop c9l57)) :: k) s r := Iff.rfl
def c9r64 : List Seg := [
  .one ⟨some 8, .mv (.c (.int .i64 0)), none⟩]
def c9k64 : ICode := .kill (dead 201 [0, 1, 2, 7]) (.ops c9r64)
@[simp] theorem uc9k64 : Ex F cx (.code c9k64 :: k) ⟨mk 201 l, rows, low⟩ r ↔ Ex F cx k ⟨mk 201 [(8, (.int .i64 0)), (0, lk l 0), (1, lk l 1), (2, lk l 2), (7, lk l 7)], rows, low⟩ r := reg (keep := [0, 1, 2, 7]) (ops := c9r64) rfl (by kernel_rfl) (by kernel_rfl)
def c9s65 : ICode := (.seq (.seq c9k64 c9s63) c9s56)
@[simp] theorem uc9s65 : Ex F cx (.code c9s65 :: k) s r ↔ Ex F cx (.code (.seq (.seq c9k64 c9s63) c9s56) :: k) s r := Iff.rfl
def c9r66 : List Seg := [
  .one ⟨some 7, .mv (.c .nilslice), none⟩]
def c9k66 : ICode := .kill (dead 201 [0, 1, 2]) (.ops c9r66)
@[simp] theorem uc9k66 : Ex F cx (.code c9k66 :: k) ⟨mk 201 l, rows, low⟩ r ↔ Ex F cx k ⟨mk 201 [(7, .nilslice), (0, lk l 0), (1, lk l 1), (2, lk l 2)], rows, low⟩ r := reg (keep := [0, 1, 2]) (ops := c9r66) rfl (by kernel_rfl) (by kernel_rfl)
def c9s67 : ICode := (.seq c9k66 c9s65)
@[simp] theorem uc9s67 : Ex F cx (.code c9s67 :: k) s r ↔ Ex F cx (.code (.seq c9k66 c9s65) :: k) s r := Iff.rfl
def c9r68 : List Seg := [
  .one ⟨some 31, .mv (.t 0), none⟩,
  .one ⟨some 32, .conv .u64 (.t 31), none⟩,
  .one ⟨some 33, .bin .rem (.t 32) (.c (.int .u64 13)), none⟩,
  .one ⟨some 34, .conv .i64 (.t 33), none⟩,
  .one ⟨some 0, .mv (.t 34), none⟩]
def c9k68 : ICode := .kill (dead 201 [0, 1, 2]) (.ops c9r68)
@[simp] theorem uc9k68 : Ex F cx (.code c9k68 :: k) ⟨mk 201 l, rows, low⟩ r ↔ bnd (evP rows (.conv .u64 (.c (lk l 0)))) fun v0 => bnd (evP rows (.bin .rem (.c v0) (.c (.int .u64 13)))) fun v1 => bnd (evP rows (.conv .i64 (.c v1))) fun v2 => Ex F cx k ⟨mk 201 [(0, v2), (34, v2), (33, v1), (32, v0), (31, lk l 0), (0, lk l 0), (1, lk l 1), (2, lk l 2)], rows, low⟩ r := reg (keep := [0, 1, 2]) (ops := c9r68) rfl (by kernel_rfl) (by kernel_rfl)
def c9s69 : ICode := (.seq c9k68 c9s67)
@[simp] theorem uc9s69 : Ex F cx (.code c9s69 :: k) s r ↔ Ex F cx (.code (.seq c9k68 c9s67) :: k) s r := Iff.rfl
def c9r70 : List Seg := [
  .one ⟨some 6, .mv (.c (.bool false)), none⟩]
def c9k70 : ICode := .kill (dead 201 [0, 1, 2]) (.ops c9r70)
@[simp] theorem uc9k70 : Ex F cx (.code c9k70 :: k) ⟨mk 201 l, rows, low⟩ r ↔ Ex F cx k ⟨mk 201 [(6, (.bool false)), (0, lk l 0), (1, lk l 1), (2, lk l 2)], rows, low⟩ r := reg (keep := [0, 1, 2]) (ops := c9r70) rfl (by kernel_rfl) (by kernel_rfl)
def Jc9s7 (F : Nat → Option IFn) (cx : Ctx) (x17 x19 x22 x27 x28 x30 : AV) (rows : List Row) (low : Nat) (r : AV × List Row × Nat → Prop) : Prop := Ex F cx (.code c9s7 :: .inLoop c9l2 :: .inBlock 6 :: .code c9s1 :: []) ⟨mk 201 [(17, x17), (19, x19), (22, x22), (27, x27), (28, x28), (30, x30)], rows, low⟩ r
theorem jc9s7 : Ex F cx (.code c9s7 :: .inLoop c9l2 :: .inBlock 6 :: .code c9s1 :: []) ⟨mk 201 l, rows, low⟩ r ↔ Jc9s7 F cx (lk l 17) (lk l 19) (lk l 22) (lk l 27) (lk l 28) (lk l 30) rows low r := Ex_canon (keep := [17, 19, 22, 27, 28, 30]) (by kernel_rfl)
def Lc9l2 (F : Nat → Option IFn) (cx : Ctx) (x17 x19 x22 x27 x28 x30 : AV) (rows : List Row) (low : Nat) (r : AV × List Row × Nat → Prop) : Prop := Ex F cx (.code c9l2 :: .inLoop c9l2 :: .inBlock 6 :: .code c9s1 :: []) ⟨mk 201 [(17, x17), (19, x19), (22, x22), (27, x27), (28, x28), (30, x30)], rows, low⟩ r
@[simp] theorem nc9l2 : Ex F cx (.inLoop c9l2 :: .inBlock 6 :: .code c9s1 :: []) ⟨mk 201 l, rows, low⟩ r ↔ Lc9l2 F cx (lk l 17) (lk l 19) (lk l 22) (lk l 27) (lk l 28) (lk l 30) rows low r := loopN (keep := [17, 19, 22, 27, 28, 30]) (by kernel_rfl)
@[simp] theorem ec9l2 : Ex F cx (.code (.loop c9l2) :: .inBlock 6 :: .code c9s1 :: []) ⟨mk 201 l, rows, low⟩ r ↔ Lc9l2 F cx (lk l 17) (lk l 19) (lk l 22) (lk l 27) (lk l 28) (lk l 30) rows low r := loopE (keep := [17, 19, 22, 27, 28, 30]) (by kernel_rfl)
@[simp] theorem uc9l2 : Ex F cx (.code c9l2 :: k) s r ↔ Ex F cx (.code (.seq (.seq c9k9 c9s8) c9s7) :: k) s r := Iff.rfl
def Jc9s17 (F : Nat → Option IFn) (cx : Ctx) (x17 x18 x19 x22 x25 x27 x28 x29 : AV) (rows : List Row) (low : Nat) (r : AV × List Row × Nat → Prop) : Prop := Ex F cx (.code c9s17 :: .inLoop c9l13 :: .inBlock 4 :: .code c9s12 :: []) ⟨mk 201 [(17, x17), (18, x18), (19, x19), (22, x22), (25, x25), (27, x27), (28, x28), (29, x29)], rows, low⟩ r
theorem jc9s17 : Ex F cx (.code c9s17 :: .inLoop c9l13 :: .inBlock 4 :: .code c9s12 :: []) ⟨mk 201 l, rows, low⟩ r ↔ Jc9s17 F cx (lk l 17) (lk l 18) (lk l 19) (lk l 22) (lk l 25) (lk l 27) (lk l 28) (lk l 29) rows low r := Ex_canon (keep := [17, 18, 19, 22, 25, 27, 28, 29]) (by kernel_rfl)
def Lc9l13 (F : Nat → Option IFn) (cx : Ctx) (x17 x18 x19 x22 x25 x27 x28 x29 : AV) (rows : List Row) (low : Nat) (r : AV × List Row × Nat → Prop) : Prop := Ex F cx (.code c9l13 :: .inLoop c9l13 :: .inBlock 4 :: .code c9s12 :: []) ⟨mk 201 [(17, x17), (18, x18), (19, x19), (22, x22), (25, x25), (27, x27), (28, x28), (29, x29)], rows, low⟩ r
@[simp] theorem nc9l13 : Ex F cx (.inLoop c9l13 :: .inBlock 4 :: .code c9s12 :: []) ⟨mk 201 l, rows, low⟩ r ↔ Lc9l13 F cx (lk l 17) (lk l 18) (lk l 19) (lk l 22) (lk l 25) (lk l 27) (lk l 28) (lk l 29) rows low r := loopN (keep := [17, 18, 19, 22, 25, 27, 28, 29]) (by kernel_rfl)
@[simp] theorem ec9l13 : Ex F cx (.code (.loop c9l13) :: .inBlock 4 :: .code c9s12 :: []) ⟨mk 201 l, rows, low⟩ r ↔ Lc9l13 F cx (lk l 17) (lk l 18) (lk l 19) (lk l 22) (lk l 25) (lk l 27) (lk l 28) (lk l 29) rows low r := loopE (keep := [17, 18, 19, 22, 25, 27, 28, 29]) (by kernel_rfl)
@[simp] theorem uc9l13 : Ex F cx (.code c9l13 :: k) s r ↔ Ex F cx (.code (.seq (.seq c9k19 c9s18) c9s17) :: k) s r := Iff.rfl
def Jc9s24 (F : Nat → Option IFn) (cx : Ctx) (x17 x18 x19 x22 x25 : AV) (rows : List Row) (low : Nat) (r : AV × List Row × Nat → Prop) : Prop := Ex F cx (.code c9s24 :: []) ⟨mk 201 [(17, x17), (18, x18), (19, x19), (22, x22), (25, x25)], rows, low⟩ r
theorem jc9s24 : Ex F cx (.code c9s24 :: []) ⟨mk 201 l, rows, low⟩ r ↔ Jc9s24 F cx (lk l 17) (lk l 18) (lk l 19) (lk l 22) (lk l 25) rows low r := Ex_canon (keep := [17, 18, 19, 22, 25]) (by kernel_rfl)
def Jc9s38 (F : Nat → Option IFn) (cx : Ctx) (x1 x2 : AV) (rows : List Row) (low : Nat) (r : AV × List Row × Nat → Prop) : Prop := Ex F cx (.code c9s38 :: []) ⟨mk 201 [(1, x1), (2, x2)], rows, low⟩ r
theorem jc9s38 : Ex F cx (.code c9s38 :: []) ⟨mk 201 l, rows, low⟩ r ↔ Jc9s38 F cx (lk l 1) (lk l 2) rows low r := Ex_canon (keep := [1, 2]) (by kernel_rfl)
def Jc9s49 (F : Nat → Option IFn) (cx : Ctx) (x0 x1 x2 x9 x11 x12 : AV) (rows : List Row) (low : Nat) (r : AV × List Row × Nat → Prop) : Prop := Ex F cx (.code c9s49 :: .inLoop c9l47 :: .inBlock 2 :: .code c9s46 :: []) ⟨mk 201 [(0, x0), (1, x1), (2, x2), (9, x9), (11, x11), (12, x12)], rows, low⟩ r
theorem jc9s49 : Ex F cx (.code c9s49 :: .inLoop c9l47 :: .inBlock 2 :: .code c9s46 :: []) ⟨mk 201 l, rows, low⟩ r ↔ Jc9s49 F cx (lk l 0) (lk l 1) (lk l 2) (lk l 9) (lk l 11) (lk l 12) rows low r := Ex_canon (keep := [0, 1, 2, 9, 11, 12]) (by kernel_rfl)
def Lc9l47 (F : Nat → Option IFn) (cx : Ctx) (x0 x1 x2 x9 x11 x12 : AV) (rows : List Row) (low : Nat) (r : AV × List Row × Nat → Prop) : Prop := Ex F cx (.code c9l47 :: .inLoop c9l47 :: .inBlock 2 :: .code c9s46 :: []) ⟨mk 201 [(0, x0), (1, x1), (2, x2), (9, x9), (11, x11), (12, x12)], rows, low⟩ r
@[simp] theorem nc9l47 : Ex F cx (.inLoop c9l47 :: .inBlock 2 :: .code c9s46 :: []) ⟨mk 201 l, rows, low⟩ r ↔ Lc9l47 F cx (lk l 0) (lk l 1) (lk l 2) (lk l 9) (lk l 11) (lk l 12) rows low r := loopN (keep := [0, 1, 2, 9, 11, 12]) (by kernel_rfl)
@[simp] theorem ec9l47 : Ex F cx (.code (.loop c9l47) :: .inBlock 2 :: .code c9s46 :: []) ⟨mk 201 l, rows, low⟩ r ↔ Lc9l47 F cx (lk l 0) (lk l 1) (lk l 2) (lk l 9) (lk l 11) (lk l 12) rows low r := loopE (keep := [0, 1, 2, 9, 11, 12]) (by kernel_rfl)
@[simp] theorem uc9l47 : Ex F cx (.code c9l47 :: k) s r ↔ Ex F cx (.code (.seq (.seq c9k51 c9s50) c9s49) :: k) s r := Iff.rfl
def Jc9s60 (F : Nat → Option IFn) (cx : Ctx) (x0 x1 x2 x7 x8 : AV) (rows : List Row) (low : Nat) (r : AV × List Row × Nat → Prop) : Prop := Ex F cx (.code c9s60 :: .inLoop c9l57 :: .inBlock 0 :: .code c9s56 :: []) ⟨mk 201 [(0, x0), (1, x1), (2, x2), (7, x7), (8, x8)], rows, low⟩ r
theorem jc9s60 : Ex F cx (.code c9s60 :: .inLoop c9l57 :: .inBlock 0 :: .code c9s56 :: []) ⟨mk 201 l, rows, low⟩ r ↔ Jc9s60 F cx (lk l 0) (lk l 1) (lk l 2) (lk l 7) (lk l 8) rows low r := Ex_canon (keep := [0, 1, 2, 7, 8]) (by kernel_rfl)
def Lc9l57 (F : Nat → Option IFn) (cx : Ctx) (x0 x1 x2 x7 x8 : AV) (rows : List Row) (low : Nat) (r : AV × List Row × Nat → Prop) : Prop := Ex F cx (.code c9l57 :: .inLoop c9l57 :: .inBlock 0 :: .code c9s56 :: []) ⟨mk 201 [(0, x0), (1, x1), (2, x2), (7, x7), (8, x8)], rows, low⟩ r
@[simp] theorem nc9l57 : Ex F cx (.inLoop c9l57 :: .inBlock 0 :: .code c9s56 :: []) ⟨mk 201 l, rows, low⟩ r ↔ Lc9l57 F cx (lk l 0) (lk l 1) (lk l 2) (lk l 7) (lk l 8) rows low r := loopN (keep := [0, 1, 2, 7, 8]) (by kernel_rfl)
@[simp] theorem ec9l57 : Ex F cx (.code (.loop c9l57) :: .inBlock 0 :: .code c9s56 :: []) ⟨mk 201 l, rows, low⟩ r ↔ Lc9l57 F cx (lk l 0) (lk l 1) (lk l 2) (lk l 7) (lk l 8) rows low r := loopE (keep := [0, 1, 2, 7, 8]) (by kernel_rfl)
@[simp] theorem uc9l57 : Ex F cx (.code c9l57 :: k) s r ↔ Ex F cx (.code (.seq (.seq c9k62 c9s61) c9s60) :: k) s r := Iff.rfl
def c9b : ICode := (.seq c9k70 c9s69)
@[simp] theorem uc9b : Ex F cx (.code c9b :: k) s r ↔ Ex F cx (.code (.seq c9k70 c9s69) :: k) s r := Iff.rfl
def c9 : IFn := ⟨201, [.t 6], c9b⟩
def h9 : List (Nat × List Nat) := [(0, dead 201 [0, 1, 2]), (1, dead 201 [0, 1, 2]), (2, dead 201 [0, 1, 2]), (3, dead 201 [0, 1, 2, 7]), (4, dead 201 [0, 1, 2, 7, 8]), (6, dead 201 [0, 1, 2, 7, 8]), (5, dead 201 [0, 1, 2, 7, 8]), (7, dead 201 [0, 1, 2, 7]), (8, dead 201 [0, 1, 2, 9, 11]), (9, dead 201 [0, 1, 2, 9, 11, 12]), (10, dead 201 [0, 1, 2, 9, 11, 12]), (11, dead 201 [0, 1, 2, 9, 11, 12]), (12, dead 201 [0, 1, 2, 9, 11, 12, 13, 14]), (13, dead 201 [0, 1, 2, 9, 11, 12, 13, 14, 15, 16]), (14, dead 201 []), (15, dead 201 [1, 2]), (16, dead 201 [2, 17]), (17, dead 201 [17, 18]), (18, dead 201 [17, 18, 19, 20, 21]), (19, dead 201 [17, 18, 19, 20, 21, 22, 24]), (20, dead 201 [17, 18, 19, 21, 22, 24, 25, 26]), (21, dead 201 []), (22, dead 201 [17, 18, 19, 22, 25]), (23, dead 201 [17, 18, 19, 22, 25, 27, 28]), (24, dead 201 [17, 18, 19, 22, 25, 27, 28, 29]), (26, dead 201 [17, 18, 19, 22, 25, 27, 28, 29]), (27, dead 201 [17, 18, 19, 22, 25, 27, 28, 29]), (25, dead 201 [17, 18, 19, 22, 25, 27, 28, 29]), (28, dead 201 [17, 19, 22, 27, 28]), (29, dead 201 [17, 19, 22, 27, 28, 30]), (31, dead 201 [17, 19, 22, 27, 28, 30]), (32, dead 201 []), (30, dead 201 [17, 19, 22, 27, 28, 30]), (33, dead 201 [19, 22, 27, 28])]
theorem i9 {x0 x1 x2 : AV} (hF : F 9 = some c9) {q : AV × List Row × Option Nat} (h : Ex F (.fn [.t 6]) [.code c9b] ⟨mk 201 [(0, x0), (1, x1), (2, x2)], rows, rows.length⟩ fun r => fin rows r.1 r.2.1 r.2.2 = q) : Ret F 9 [x0, x1, x2] rows = some q := Ret_mk hF h
end Go.Abs

set_option linter.unusedVariables false
set_option linter.unusedSimpArgs false
namespace Go.Abs
open Rd (Cp IsL_one IsL_cells IsL_tail lowO_n)
abbrev G9 : Nat → Option IFn := more F 9 c9
theorem toG9 {f : Nat} {vs : List AV} {rows : List Row} {q : AV × List Row × Option Nat} (h : Ret F f vs rows = some q) : Ret G9 f vs rows = some q := Ret_ext (more_ext (by kernel_rfl)) h
section
variable {rows R : List Row} {low : Nat} {r : AV × List Row × Nat → Prop} {v1 v2 : AV} {n : Nat}
theorem ones_loop (hn : n ≤ 12) (hk : ∀ (sl : List (Nat × AV)) (H : List Row), H.all (Row.under 0) = true → lk sl 0 = .int .i64 n → lk sl 1 = v1 → lk sl 2 = v2 → lk sl 7 = accV rows H (List.replicate n 1) → Ex G9 (.fn [.t 6]) [.code c9s56] ⟨mk 201 sl, rows ++ accR H (List.replicate n 1), rows.length⟩ r) :
    ∀ (d i : Nat) (H : List Row), n - i = d → i ≤ n → H.all (Row.under 0) = true → Lc9l57 G9 (.fn [.t 6]) (.int .i64 n) v1 v2 (accV rows H (List.replicate i 1)) (.int .i64 i) (rows ++ accR H (List.replicate i 1)) rows.length r := by
  intro d
  induction d with
  | zero =>
    intro i H hd h1 hH
    have : i = n := by omega
    subst this
    unfold Lc9l57
    simp [-uc9s56]
    exact hk _ H hH (by simp) (by simp) (by simp) (by simp)
  | succ d ih =>
    intro i H hd h1 hH
    have hi : i < n := by omega
    have w : IntKind.i64.wrap ((i : Int) + 1) = i + 1 := wrap64 (by omega) (by omega)
    obtain ⟨H', hH', hap⟩ := acc_app2 (rows := rows) (H := H) (l := List.replicate i 1) (x := 1) (by simp; omega) hH
    have := ih (i + 1) H' (by omega) (by omega) hH'
    rw [← List.replicate_succ'] at hap
    unfold Lc9l57
    simp [hi, w, fillA, splice, hap]
    simpa using this
theorem shl_1 : ∀ t : Nat, t < 5 → IntKind.i64.wrap (2 ^ min t IntKind.i64.bits) = (2 : Int) ^ t := by decide
theorem t_loop {x9 x11 : AV} (hn : n ≤ 12) (hk : ∀ (sl : List (Nat × AV)), lk sl 0 = .int .i64 n → lk sl 1 = v1 → lk sl 2 = v2 → lk sl 9 = x9 → lk sl 11 = x11 → lk sl 12 = .int .i64 (hK n) → Ex G9 (.fn [.t 6]) [.code c9s46] ⟨mk 201 sl, R, low⟩ r) :
    ∀ (d t : Nat), (hK n).toNat - t = d → (t : Int) ≤ hK n → Lc9l47 G9 (.fn [.t 6]) (.int .i64 n) v1 v2 x9 x11 (.int .i64 t) R low r := by
  have hb := (hK_pow n (by omega)).1
  have hp := (hK_pow n (by omega)).2
  have w1 : IntKind.i64.wrap ((n : Int) + 1) = n + 1 := wrap64 (by omega) (by omega)
  intro d
  induction d with
  | zero =>
    intro t hd h1
    have ht : (t : Int) = hK n := by omega
    have hs := shl_1 t (by omega)
    have hnot : ¬ ((2 : Int) ^ t < n + 1) := by rw [hp t (by omega)]; omega
    unfold Lc9l47
    simp [w1, hs, hnot, -uc9s46, show ¬ ((t : Int) < 0) by omega]
    exact hk _ (by simp) (by simp) (by simp) (by simp) (by simp) (by simpa using ht)
  | succ d ih =>
    intro t hd h1
    have hs := shl_1 t (by omega)
    have hyes : (2 : Int) ^ t < n + 1 := by rw [hp t (by omega)]; omega
    have w2 : IntKind.i64.wrap ((t : Int) + 1) = t + 1 := wrap64 (by omega) (by omega)
    have := ih (t + 1) (by omega) (by omega)
    unfold Lc9l47
    simp [w1, hs, hyes, w2, -uc9s46, show ¬ ((t : Int) < 0) by omega]
    simpa using this
/-- The sum of the weights, and the greatest price. -/
theorem most_loop {x17 x18 x19 x22 x25 : AV} {u P : List Int} (h18 : IsL R x18 u) (h25 : IsL R x25 P) (hlen : P.length = u.length) (hul : u.length ≤ 100) (hub : ∀ x ∈ u, 0 ≤ x ∧ x ≤ 1000)
    (hk : ∀ (sl : List (Nat × AV)), lk sl 17 = x17 → lk sl 19 = x19 → lk sl 22 = x22 → lk sl 27 = .int .i64 u.sum → lk sl 28 = .int .i64 (P.foldl max 0) → Ex G9 (.fn [.t 6]) [.code c9s12] ⟨mk 201 sl, R, low⟩ r) :
    ∀ (d k : Nat), u.length - k = d → k ≤ u.length → Lc9l13 G9 (.fn [.t 6]) x17 x18 x19 x22 x25 (.int .i64 (u.take k).sum) (.int .i64 ((P.take k).foldl max 0)) (.int .i64 k) R low r := by
  intro d
  induction d with
  | zero =>
    intro k hd h1
    have e1 : u.take k = u := List.take_of_length_le (by omega)
    have e2 : P.take k = P := List.take_of_length_le (by omega)
    unfold Lc9l13
    rw [e1, e2]
    simp [lenL0 h18, show ¬ (k < u.length) by omega, -uc9s12]
    exact hk _ (by simp) (by simp) (by simp) (by simp) (by simp)
  | succ d ih =>
    intro k hd h1
    have hku : k < u.length := by omega
    have hkP : k < P.length := by omega
    have w : IntKind.i64.wrap ((k : Int) + 1) = k + 1 := wrap64 (by omega) (by omega)
    have hs := sum_bd (l := u.take (k + 1)) (m := 1000) fun x hx => hub x (List.mem_of_mem_take hx)
    have hs2 : (u.take (k + 1)).length ≤ 100 := by simp; omega
    have w2 : IntKind.i64.wrap ((u.take k).sum + gI u k) = (u.take (k + 1)).sum := by
      rw [← sum_take hku]
      exact wrap64 (by omega) (by omega)
    have := ih (k + 1) (by omega) (by omega)
    rw [fmax_take hkP] at this
    unfold Lc9l13
    simp (disch := first | omega | (simp; done) | fail) [lenL0 h18, idxL0 h18, loadL0 h18, idxL0 h25, loadL0 h25, hku, hkP, w, w2, -uc9s12]
    simpa using this
theorem least_loop {x17 x22 x27 x28 : AV} {c : List Int} {b : Int} (h17 : IsL R x17 c) (hcl : c.length ≤ 100) (hb : ∀ k : Nat, k < c.length → gI c k ≤ b)
    (hk : ∀ (sl : List (Nat × AV)), lk sl 19 = .int .i64 b → lk sl 22 = x22 → lk sl 27 = x27 → lk sl 28 = x28 → Ex G9 (.fn [.t 6]) [.code c9s1] ⟨mk 201 sl, R, low⟩ r) :
    ∀ (d k : Nat), c.length - k = d → k ≤ c.length → Lc9l2 G9 (.fn [.t 6]) x17 (.int .i64 b) x22 x27 x28 (.int .i64 k) R low r := by
  intro d
  induction d with
  | zero =>
    intro k hd h1
    unfold Lc9l2
    simp [lenL0 h17, show ¬ (k < c.length) by omega, -uc9s1]
    exact hk _ (by simp) (by simp) (by simp) (by simp)
  | succ d ih =>
    intro k hd h1
    have hkc : k < c.length := by omega
    have hbk := hb k hkc
    have w : IntKind.i64.wrap ((k : Int) + 1) = k + 1 := wrap64 (by omega) (by omega)
    have := ih (k + 1) (by omega) (by omega)
    unfold Lc9l2
    simp (disch := first | omega | (simp; done) | fail) [lenL0 h17, idxL0 h17, loadL0 h17, hkc, show ¬ (b < gI c k) by omega, w, -uc9s1]
    simpa using this
end
set_option maxHeartbeats 8000000 in
/-- The second half: any costs and weights. -/
theorem knuth_b {rows R : List Row} (hA : ∀ H, Und rows H → Ret F 22 [] (rows ++ H) = some (.bool true, rows ++ H, none)) (hR : ∃ K : List Row, R = rows ++ K ∧ Und rows K) {v1 v2 : AV} {l w : List Int} (h1 : IsL R v1 l) (h2 : IsL R v2 w) :
    Jc9s38 G9 (.fn [.t 6]) v1 v2 R rows.length (fun r => fin rows r.1 r.2.1 r.2.2 = (.bool true, rows, none)) := by
  have hcs := costs_ret h1
  generalize hcl : (l.take 12).map cst = c at hcs
  have hn : c.length ≤ 12 := by rw [← hcl]; simp; omega
  have hall : (c.all fun x => decide (1 ≤ x ∧ x ≤ 1000)) = true := by
    rw [List.all_eq_true]
    intro x hx
    rw [← hcl] at hx
    obtain ⟨y, _, rfl⟩ := List.mem_map.1 hx
    simpa using cst_ok y
  have hcg : ∀ g : Nat, g < c.length → 0 ≤ gI c g ∧ gI c g ≤ 1000 := fun g hg => by have := cost_bd hall hg; omega
  have hcx : ∀ x ∈ c, 0 ≤ x ∧ x ≤ 1000 := fun x hx => by have := List.all_eq_true.1 hall x hx; simp at this; omega
  obtain ⟨x5, K5, e5, i5, c5, u5⟩ := newL_shape R c
  rw [e5] at hcs
  have hws := weights_ret (IsL_app h2 K5) (n := c.length) (by omega)
  have hwok := wts_ok w c.length
  generalize wts w c.length = u at hws hwok
  have hul := hwok.1
  have hub : ∀ x ∈ u, 0 ≤ x ∧ x ≤ 1000 := fun x hx => by have := List.all_eq_true.1 hwok.2.1 x hx; simpa using this
  obtain ⟨x6, K6, e6, i6, c6, u6⟩ := newL_shape (R ++ K5) u
  rw [e6] at hws
  have j5 : IsL (R ++ K5 ++ K6) x5 c := IsL_app i5 K6
  obtain ⟨T, hTl, hD, hB, hW⟩ := Worst_ret j5 hn hall
  have hG := Done_Good hD
  obtain ⟨f, pf, htab⟩ := psT_tab hG hn rfl hcx
  have hpW := psT_worst hD (by omega) hcg c.length 0 c.length (by omega) (by omega) (by omega) (by omega)
  have hge := worst_ge hD hB hn (Nat.le_refl _) hcg c.length 0 c.length
  have hnn := psT_nn (c := c) hG (by omega) hcg c.length 0 c.length (by omega) (by omega) (by omega) (by omega)
  have hbB : 0 ≤ prT T 0 c.length ∧ prT T 0 c.length ≤ 12000 := by
    have := hB 0 c.length (by omega) (by omega) (by omega)
    refine ⟨this.1, ?_⟩
    rw [← hpW]
    rcases (foldl_max_ge (psT c T c.length 0 c.length) 0).2.2 with e | e
    · rw [e]; omega
    · have := (hnn _ e).2; omega
  obtain ⟨T2, hTl2, hD2, hB2, hW2⟩ := Weighed_ret (IsL_app j5 (nlK (tpl T c.length 0 c.length))) hn hall (IsL_app i6 (nlK (tpl T c.length 0 c.length))) c6 hwok
  have hd0 := (hB2 0 c.length (by omega) (by omega) (by omega))
  have hle := weighed_le hD hD2 hB hn hwok c.length 0 c.length (by omega) (by omega) (by omega) (by omega)
  rw [swt_all hul] at hle
  have hsb := sum_bd hub
  have hmul := mul_bd (x := u.sum) (m := 13000) ⟨hsb.1, by omega⟩ hbB
  generalize hpl : tpl T c.length 0 c.length = pl at hW hW2 pf
  generalize hql : tpl T2 c.length 0 c.length = ql at hW2
  have ip : IsL (R ++ K5 ++ K6 ++ nlK pl ++ nlK ql) (nlV (R ++ K5 ++ K6).length pl) pl := by
    have := nlV_IsL (R ++ K5 ++ K6) pl (nlK ql)
    rwa [← List.append_assoc] at this
  have cpl : Cp 1 (nlV (R ++ K5 ++ K6).length pl) := by cases pl <;> simp [nlV, Cp]
  have hP := Prices_ret (IsL_app (IsL_app j5 (nlK pl)) (nlK ql)) hn hall ip cpl
  rw [pf] at hP
  simp only [htab] at hP
  generalize hPP : psT c T c.length 0 c.length = P at *
  have hPl : P.length = c.length + 1 := by have := congrArg List.length htab; simpa using this.symm
  generalize hR5 : R ++ K5 ++ K6 ++ nlK pl ++ nlK ql = R5 at *
  have iP : IsL (R5 ++ [.cells (nums .i64 P)]) (.slice R5.length 0 (c.length + 1) (.at_ (c.length + 1))) P := by
    have := IsL_new (rows := R5) (L := []) (l := P) (c := .at_ (c.length + 1)) (n := c.length + 1) hPl.symm
    exact this
  have k5 : IsL (R5 ++ [.cells (nums .i64 P)]) x5 c := IsL_app (by rw [← hR5]; exact IsL_app (IsL_app j5 _) _) _
  have k6 : IsL (R5 ++ [.cells (nums .i64 P)]) x6 u := IsL_app (by rw [← hR5]; exact IsL_app (IsL_app i6 _) _) _
  obtain ⟨K, hK, hUK⟩ := hR
  have ha := hA (K ++ (K5 ++ (K6 ++ (nlK pl ++ (nlK ql ++ [.cells (nums .i64 P)]))))) (by
    subst hK
    intro y hy
    simp only [List.mem_append] at hy
    rcases hy with hy | hy | hy | hy | hy | hy
    · exact und_mono (hUK y hy) (by simp)
    · exact und_mono (List.all_eq_true.1 u5 y hy) (Nat.zero_le _)
    · exact und_mono (List.all_eq_true.1 u6 y hy) (Nat.zero_le _)
    · exact und_mono (List.all_eq_true.1 (nlK_under pl) y hy) (Nat.zero_le _)
    · exact und_mono (List.all_eq_true.1 (nlK_under ql) y hy) (Nat.zero_le _)
    · have : y = .cells (nums .i64 P) := by simpa using hy
      subst this; simp [Row.under])
  have hRe : rows ++ (K ++ (K5 ++ (K6 ++ (nlK pl ++ (nlK ql ++ [.cells (nums .i64 P)]))))) = R5 ++ [.cells (nums .i64 P)] := by rw [← hR5, hK]; simp
  rw [hRe] at ha
  have g1 := toG9 hcs
  have g2 := toG9 hws
  have g3 := toG9 hW
  have g4 := toG9 hW2
  have g5 := toG9 hP
  have g6 := toG9 ha
  have l5 := lenL0 i5
  have l6 := lenL0 k5
  have w1 : IntKind.i64.wrap ((c.length : Int) + 1) = c.length + 1 := wrap64 (by omega) (by omega)
  have lP := lenL0 iP
  have hml := most_loop (low := rows.length) (x17 := x5) (x19 := .int .i64 (prT T 0 c.length)) (x22 := .int .i64 (prT T2 0 c.length)) (r := fun r => fin rows r.1 r.2.1 r.2.2 = (.bool true, rows, none)) k6 iP (by omega) (by omega) hub (by
    intro sl s17 s19 s22 s27 s28
    have := least_loop (low := rows.length) (x22 := lk sl 22) (x27 := lk sl 27) (x28 := lk sl 28) (r := fun r => fin rows r.1 r.2.1 r.2.2 = (.bool true, rows, none)) k5 (by omega) (b := prT T 0 c.length) (fun k hk => by
      have := hge k (by omega) (by omega) (by omega) (by omega) (by omega)
      rwa [Int.toNat_natCast] at this) (by
      intro sl2 t19 t22 t27 t28
      have wm : IntKind.i64.wrap (u.sum * prT T 0 c.length) = u.sum * prT T 0 c.length := wrap64 (by omega) (by omega)
      simp [t19, t22, t27, t28, s22, s27, s28, hpW, wm, hle, hd0.1, g6]) _ 0 rfl (Nat.zero_le _)
    simp [s17, s19]
    simpa using this) _ 0 rfl (Nat.zero_le _)
  unfold Jc9s38
  simp [g1, l5, g2, g3, g4, hR5, g5, lP, l6, hPl, w1, hbB.1, show ¬ (prT T 0 c.length < 0) by omega, show ¬ (20000 < prT T 0 c.length) by omega, -List.append_assoc, -List.length_append, -uc9s24, jc9s24]
  unfold Jc9s24
  simp
  simpa using hml
set_option maxHeartbeats 8000000 in
/-- SearchKnuth, if 'awake' is true. -/
theorem knuth_ret {rows : List Row} (hA : ∀ H, Und rows H → Ret F 22 [] (rows ++ H) = some (.bool true, rows ++ H, none)) {x : Int} {v1 v2 : AV} {l w : List Int} (h1 : IsL rows v1 l) (h2 : IsL rows v2 w) : Ret G9 9 [.int .i64 x, v1, v2] rows = some (.bool true, rows, none) := by
  obtain ⟨n, hx, hn⟩ := umodI (x := x) (m := 13) (by omega) (by omega)
  have hn12 : n ≤ 12 := by omega
  have hones := ones_loop (rows := rows) (v1 := v1) (v2 := v2) (r := fun r => fin rows r.1 r.2.1 r.2.2 = (.bool true, rows, none)) hn12 (by
    intro sl H hH s0 s1 s2 s7
    have hc := acc_IsL (rows := rows) (H := H) (l := List.replicate n 1)
    have hcl : (List.replicate n (1 : Int)).length = n := by simp
    have hall : ((List.replicate n (1 : Int)).all fun x => decide (1 ≤ x ∧ x ≤ 1000)) = true := by simp
    obtain ⟨T, hTl, hD, hB, hW⟩ := Worst_ret hc.1 (by omega) hall
    rw [hcl] at hD hW
    have hk := knuth_worst hn12 hD
    rw [hk] at hW
    generalize tpl T n 0 n = pl at hW
    generalize hR : rows ++ accR H (List.replicate n 1) ++ nlK pl = R at hW
    have hW' := toG9 hW
    have ht := t_loop (R := R) (low := rows.length) (v1 := v1) (v2 := v2) (x9 := .int .i64 (hK n)) (x11 := .int .i64 0) (r := fun r => fin rows r.1 r.2.1 r.2.2 = (.bool true, rows, none)) hn12 (by
      intro sl2 t0 t1 t2 t9 t11 t12
      have hC1 := toG9 (CountPlans_ret (rows := R) (n := n))
      have hC2 := toG9 (CountPlans_ret (rows := R) (n := (n : Int) + 1))
      rw [if_pos (by omega)] at hC1 hC2
      rw [Int.toNat_natCast] at hC1
      rw [show ((n : Int) + 1).toNat = n + 1 from by omega] at hC2
      obtain ⟨b1, b2, b3, b4, b5⟩ := cat_law n (by omega)
      generalize catP n = y at *
      generalize catP (n + 1) = z at *
      have w1 : IntKind.i64.wrap ((n : Int) + 1) = n + 1 := wrap64 (by omega) (by omega)
      have w2 : IntKind.i64.wrap ((n : Int) + 2) = n + 2 := wrap64 (by omega) (by omega)
      have w3 : IntKind.i64.wrap (2 * (n : Int)) = 2 * n := wrap64 (by omega) (by omega)
      have w4 : IntKind.i64.wrap (2 * (n : Int) + 1) = 2 * n + 1 := wrap64 (by omega) (by omega)
      have w5 : IntKind.i64.wrap (2 * (2 * (n : Int) + 1)) = 2 * (2 * n + 1) := wrap64 (by omega) (by omega)
      have m1 := mul_bd (x := (n : Int) + 2) (m := 14) (y := z) (n := 1000000) (by omega) (by omega)
      have w6 : IntKind.i64.wrap (((n : Int) + 2) * z) = 2 * (2 * n + 1) * y := by rw [← b5]; exact wrap64 (by omega) (by omega)
      have w7 : IntKind.i64.wrap (2 * (2 * (n : Int) + 1) * y) = 2 * (2 * n + 1) * y := by rw [← b5]; exact wrap64 (by omega) (by omega)
      have hb := knuth_b (rows := rows) (R := R) (v1 := v1) (v2 := v2) (l := l) (w := w) hA ⟨accR H (List.replicate n 1) ++ nlK pl, by rw [← hR]; simp, by
        intro y hy
        rcases List.mem_append.1 hy with hy | hy
        · exact und_mono (List.all_eq_true.1 (accR_under hH) y hy) (Nat.zero_le _)
        · exact und_mono (List.all_eq_true.1 (nlK_under pl) y hy) (Nat.zero_le _)⟩ (by rw [← hR]; exact IsL_app (IsL_app h1 _) _) (by rw [← hR]; exact IsL_app (IsL_app h2 _) _)
      simp [t0, t1, t2, t9, t11, t12, hC1, hC2, w1, w2, w3, w4, w5, w6, w7, show ¬ y < 1 by omega, show ¬ 1000000 < y by omega, -uc9s38, jc9s38]
      exact hb) _ 0 rfl (by have := (hK_pow n (by omega)).1; omega)
    simp [s0, s1, s2, s7, hW']
    simpa using ht) _ 0 [] rfl (Nat.zero_le _) rfl
  refine Go.Abs.i9 more_at ?_
  simp [hx]
  simpa [accV, accR] using hones
end Go.Abs

set_option linter.unusedVariables false
set_option linter.unusedSimpArgs false
namespace Go.Abs
theorem awake_u (l : List (Option ArgS)) : ∀ H, Und (aRows l) H → Ret F 22 [] (aRows l ++ H) = some (.bool true, aRows l ++ H, none) := by
  intro H hH
  have := awake_any (X := l.map argRow ++ H) (by
    rw [List.all_eq_true]
    intro y hy
    rw [List.mem_append] at hy
    rcases hy with hy | hy
    · refine Sh.runder_mono (Nat.zero_le _) ?_
      obtain ⟨a, _, rfl⟩ := List.mem_map.1 hy
      cases a <;> simp [argRow, Row.under, AV.under, nums]
    · refine Sh.runder_mono ?_ (hH y hy)
      simp [aRows, gRows]
      omega)
  simpa [aRows] using this
end Go.Abs

