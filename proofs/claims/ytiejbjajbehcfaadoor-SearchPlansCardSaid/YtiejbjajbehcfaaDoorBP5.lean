/- The texts that the row uses, part 5. -/
import Derived.Test.YtiejbjajbehcfaaDoorBP4
import Derived.AtR
import Derived.Orders
import Derived.KernelRfl
import Derived.Laws.Cells
import Derived.Laws.CopyRow
import Derived.Laws.Append
import Derived.Laws.AppendOwn
import Derived.Laws.Entries
import Derived.ArgAppend
import Derived.ChangeKeysEq
import Derived.WideLaws
import Derived.Laws.Small
import Derived.Laws.StructEq
import Derived.Laws.Cover3
import Derived.Laws.Tables
import Derived.Laws.Rows
import Derived.Below
import Derived.Laws.IdiomCopy
import Derived.RangeFuncNested
import Derived.Test.YtiejbjajbehcfaaDoorProg
import Derived.Test.YtiejbjajbehcfaaDoorRows
import Derived.ProofKit
import Derived.LaidMore
import Derived.OpenShut
import Derived.Stop.Joined
import Derived.ChangeSlices
import Derived.SizedLaws
import Derived.SevenTiedAt
import Derived.WalkKit
import Derived.ShutString
import Derived.ChangeOld
import Derived.Carry
set_option linter.unusedVariables false
set_option maxRecDepth 20000
set_option maxHeartbeats 4000000
namespace Go.Abs
variable {F : Nat → Option IFn} {cx : Ctx} {k : List Itm} {s : St} {l : List (Nat × AV)} {rows : List Row} {low : Nat} {r : AV × List Row × Nat → Prop}
@[simp] theorem uc26k0 : Ex F cx (.code c26k0 :: k) ⟨mk 14 l, rows, low⟩ r ↔ bnd (evP rows (.len 0 (.c (lk l 0)))) fun v0 => bnd (evP rows (.mn [(.c v0), (.c (lk l 1))])) fun v1 => bnd (evP rows (.sliceS 1 (.c (lk l 0)) none (some (.c v1)) none)) fun v2 => bnd (evE rows low (.app 1 8 (.c (lk l 5)) (.c v2))) fun q3 => Ex F cx k ⟨mk 14 [(4, q3.1), (13, q3.1), (12, v2), (11, v1), (10, lk l 1), (9, v0), (8, lk l 0), (7, lk l 0), (6, lk l 5), (0, lk l 0), (1, lk l 1), (5, lk l 5)], q3.2.1, q3.2.2⟩ r := reg (keep := [0, 1, 5]) (ops := c26r0) rfl (by kernel_rfl) (by kernel_rfl)
@[simp] theorem uc26s1 : Ex F cx (.code c26s1 :: k) s r ↔ Ex F cx (.code (.seq c26k0 .ret) :: k) s r := Iff.rfl
@[simp] theorem uc26k2 : Ex F cx (.code c26k2 :: k) ⟨mk 14 l, rows, low⟩ r ↔ Ex F cx k ⟨mk 14 [(5, .nilslice), (0, lk l 0), (1, lk l 1)], rows, low⟩ r := reg (keep := [0, 1]) (ops := c26r2) rfl (by kernel_rfl) (by kernel_rfl)
@[simp] theorem uc26s3 : Ex F cx (.code c26s3 :: k) s r ↔ Ex F cx (.code (.seq c26k2 c26s1) :: k) s r := Iff.rfl
@[simp] theorem uc26k4 : Ex F cx (.code c26k4 :: k) ⟨mk 14 l, rows, low⟩ r ↔ Ex F cx k ⟨mk 14 [(4, .nilslice), (0, lk l 0), (1, lk l 1)], rows, low⟩ r := reg (keep := [0, 1]) (ops := c26r4) rfl (by kernel_rfl) (by kernel_rfl)
@[simp] theorem uc26b : Ex F cx (.code c26b :: k) s r ↔ Ex F cx (.code (.seq c26k4 c26s3) :: k) s r := Iff.rfl
theorem i26 {x0 x1 : AV} (hF : F 26 = some c26) {q : AV × List Row × Option Nat} (h : Ex F (.fn [.t 4]) [.code c26b] ⟨mk 14 [(0, x0), (1, x1)], rows, rows.length⟩ fun r => fin rows r.1 r.2.1 r.2.2 = q) : Ret F 26 [x0, x1] rows = some q := Ret_mk hF h
@[simp] theorem uc31k0 : Ex F cx (.code c31k0 :: k) ⟨mk 24 l, rows, low⟩ r ↔ bnd (gv (lk l 8) true (evP rows (.mv (.c (lk l 7))))) fun v0 => bnd (gv (lk l 8) true (evP rows (.mv (.c (lk l 1))))) fun v1 => bnd (gv (lk l 8) true (evP rows (.len 0 (.c v1)))) fun v2 => bnd (gv (lk l 8) true (evP rows (.bin .eql (.c v0) (.c v2)))) fun v3 => bnd (evP rows (.pick (.c (lk l 8)) (.c v3) (.c (.bool false)))) fun v4 => Ex F cx k ⟨mk 24 [(5, v4), (4, lk l 6), (23, v4), (22, v3), (21, v2), (20, v1), (19, v0), (18, lk l 8), (17, lk l 8), (16, lk l 6), (1, lk l 1), (6, lk l 6), (7, lk l 7), (8, lk l 8)], rows, low⟩ r := reg (keep := [1, 6, 7, 8]) (ops := c31r0) rfl (by kernel_rfl) (by kernel_rfl)
@[simp] theorem uc31s1 : Ex F cx (.code c31s1 :: k) s r ↔ Ex F cx (.code (.seq c31k0 .ret) :: k) s r := Iff.rfl
@[simp] theorem uc31k2 : Ex F cx (.code c31k2 :: k) ⟨mk 24 l, rows, low⟩ r ↔ bnd (Ret F 64 [lk l 1, (.int .i64 0), (.int .i64 0), lk l 0] rows) fun q0 => bnd (evP q0.2.1 (.ext (.c q0.1) 0)) fun v1 => bnd (evP q0.2.1 (.ext (.c q0.1) 1)) fun v2 => bnd (evP q0.2.1 (.ext (.c q0.1) 2)) fun v3 => Ex F cx k ⟨mk 24 [(8, v3), (7, v2), (6, v1), (15, v3), (14, v2), (13, v1), (9, q0.1), (12, q0.1), (11, lk l 0), (10, lk l 1), (0, lk l 0), (1, lk l 1)], q0.2.1, (lowO low q0.2.2)⟩ r := reg (keep := [0, 1]) (ops := c31r2) rfl (by kernel_rfl) (by kernel_rfl)
@[simp] theorem uc31s3 : Ex F cx (.code c31s3 :: k) s r ↔ Ex F cx (.code (.seq c31k2 c31s1) :: k) s r := Iff.rfl
@[simp] theorem uc31k4 : Ex F cx (.code c31k4 :: k) ⟨mk 24 l, rows, low⟩ r ↔ Ex F cx k ⟨mk 24 [(5, (.bool false)), (4, .nilslice), (0, lk l 0), (1, lk l 1)], rows, low⟩ r := reg (keep := [0, 1]) (ops := c31r4) rfl (by kernel_rfl) (by kernel_rfl)
@[simp] theorem uc31b : Ex F cx (.code c31b :: k) s r ↔ Ex F cx (.code (.seq c31k4 c31s3) :: k) s r := Iff.rfl
theorem i31 {x0 x1 : AV} (hF : F 31 = some c31) {q : AV × List Row × Option Nat} (h : Ex F (.fn [.t 4, .t 5]) [.code c31b] ⟨mk 24 [(0, x0), (1, x1)], rows, rows.length⟩ fun r => fin rows r.1 r.2.1 r.2.2 = q) : Ret F 31 [x0, x1] rows = some q := Ret_mk hF h
@[simp] theorem uc32k0 : Ex F cx (.code c32k0 :: k) ⟨mk 26 l, rows, low⟩ r ↔ Ex F cx k ⟨mk 26 [(4, (.bool true))], rows, low⟩ r := reg (keep := []) (ops := c32r0) rfl (by kernel_rfl) (by kernel_rfl)
@[simp] theorem uc32s1 : Ex F cx (.code c32s1 :: k) s r ↔ Ex F cx (.code (.seq c32k0 .ret) :: k) s r := Iff.rfl
@[simp] theorem uc32k3 : Ex F cx (.code c32k3 :: k) ⟨mk 26 l, rows, low⟩ r ↔ bnd (evP rows (.bin .add (.c (lk l 5)) (.c (.int .i64 1)))) fun v0 => Ex F cx k ⟨mk 26 [(5, v0), (16, v0), (15, lk l 5), (0, lk l 0), (1, lk l 1), (5, lk l 5)], rows, low⟩ r := reg (keep := [0, 1, 5]) (ops := c32r3) rfl (by kernel_rfl) (by kernel_rfl)
@[simp] theorem uc32k4 : Ex F cx (.code c32k4 :: k) ⟨mk 26 l, rows, low⟩ r ↔ Ex F cx k ⟨mk 26 [(4, (.bool false))], rows, low⟩ r := reg (keep := []) (ops := c32r4) rfl (by kernel_rfl) (by kernel_rfl)
@[simp] theorem uc32s5 : Ex F cx (.code c32s5 :: k) s r ↔ Ex F cx (.code (.cond (.t 25) (.seq c32k4 .ret) .skip) :: k) s r := Iff.rfl
@[simp] theorem uc32k6 : Ex F cx (.code c32k6 :: k) ⟨mk 26 l, rows, low⟩ r ↔ bnd (evP rows (.idxS 1 (.c (lk l 0)) (.c (lk l 5)))) fun v0 => bnd (evP rows (.load1 (.c v0))) fun v1 => bnd (evP rows (.idxS 1 (.c (lk l 1)) (.c (lk l 5)))) fun v2 => bnd (evP rows (.load1 (.c v2))) fun v3 => bnd (evP rows (.bin .neq (.c v1) (.c v3))) fun v4 => Ex F cx k ⟨mk 26 [(25, v4), (24, v3), (23, v2), (22, lk l 5), (21, lk l 1), (20, v1), (19, v0), (18, lk l 5), (17, lk l 0), (0, lk l 0), (1, lk l 1), (5, lk l 5)], rows, low⟩ r := reg (keep := [0, 1, 5]) (ops := c32r6) rfl (by kernel_rfl) (by kernel_rfl)
@[simp] theorem uc32s7 : Ex F cx (.code c32s7 :: k) s r ↔ Ex F cx (.code (.seq (.block 1 (.seq c32k6 c32s5)) c32k3) :: k) s r := Iff.rfl
@[simp] theorem uc32s8 : Ex F cx (.code c32s8 :: k) s r ↔ Ex F cx (.code (.cond (.t 14) .skip (.exit 0)) :: k) s r := Iff.rfl
@[simp] theorem uc32k9 : Ex F cx (.code c32k9 :: k) ⟨mk 26 l, rows, low⟩ r ↔ bnd (evP rows (.len 0 (.c (lk l 0)))) fun v0 => bnd (evP rows (.bin .lss (.c (lk l 5)) (.c v0))) fun v1 => Ex F cx k ⟨mk 26 [(14, v1), (13, v0), (12, lk l 0), (11, lk l 5), (0, lk l 0), (1, lk l 1), (5, lk l 5)], rows, low⟩ r := reg (keep := [0, 1, 5]) (ops := c32r9) rfl (by kernel_rfl) (by kernel_rfl)
@[simp] theorem uc32s10 : Ex F cx (.code c32s10 :: k) s r ↔ Ex F cx (.code (.block 0 (.loop c32l2)) :: k) s r := Iff.rfl
@[simp] theorem uc32k11 : Ex F cx (.code c32k11 :: k) ⟨mk 26 l, rows, low⟩ r ↔ Ex F cx k ⟨mk 26 [(5, (.int .i64 0)), (0, lk l 0), (1, lk l 1)], rows, low⟩ r := reg (keep := [0, 1]) (ops := c32r11) rfl (by kernel_rfl) (by kernel_rfl)
@[simp] theorem uc32s12 : Ex F cx (.code c32s12 :: k) s r ↔ Ex F cx (.code (.seq (.seq c32k11 c32s10) c32s1) :: k) s r := Iff.rfl
@[simp] theorem uc32k13 : Ex F cx (.code c32k13 :: k) ⟨mk 26 l, rows, low⟩ r ↔ Ex F cx k ⟨mk 26 [(4, (.bool false))], rows, low⟩ r := reg (keep := []) (ops := c32r13) rfl (by kernel_rfl) (by kernel_rfl)
@[simp] theorem uc32s14 : Ex F cx (.code c32s14 :: k) s r ↔ Ex F cx (.code (.cond (.t 10) (.seq c32k13 .ret) .skip) :: k) s r := Iff.rfl
@[simp] theorem uc32k15 : Ex F cx (.code c32k15 :: k) ⟨mk 26 l, rows, low⟩ r ↔ bnd (evP rows (.len 0 (.c (lk l 0)))) fun v0 => bnd (evP rows (.len 0 (.c (lk l 1)))) fun v1 => bnd (evP rows (.bin .neq (.c v0) (.c v1))) fun v2 => Ex F cx k ⟨mk 26 [(10, v2), (9, v1), (8, lk l 1), (7, v0), (6, lk l 0), (0, lk l 0), (1, lk l 1)], rows, low⟩ r := reg (keep := [0, 1]) (ops := c32r15) rfl (by kernel_rfl) (by kernel_rfl)
@[simp] theorem uc32s16 : Ex F cx (.code c32s16 :: k) s r ↔ Ex F cx (.code (.seq (.seq c32k15 c32s14) c32s12) :: k) s r := Iff.rfl
@[simp] theorem uc32k17 : Ex F cx (.code c32k17 :: k) ⟨mk 26 l, rows, low⟩ r ↔ Ex F cx k ⟨mk 26 [(4, (.bool false)), (0, lk l 0), (1, lk l 1)], rows, low⟩ r := reg (keep := [0, 1]) (ops := c32r17) rfl (by kernel_rfl) (by kernel_rfl)
def Jc32s7 (F : Nat → Option IFn) (cx : Ctx) (x0 x1 x5 : AV) (rows : List Row) (low : Nat) (r : AV × List Row × Nat → Prop) : Prop := Ex F cx (.code c32s7 :: .inLoop c32l2 :: .inBlock 0 :: .code c32s1 :: []) ⟨mk 26 [(0, x0), (1, x1), (5, x5)], rows, low⟩ r
theorem jc32s7 : Ex F cx (.code c32s7 :: .inLoop c32l2 :: .inBlock 0 :: .code c32s1 :: []) ⟨mk 26 l, rows, low⟩ r ↔ Jc32s7 F cx (lk l 0) (lk l 1) (lk l 5) rows low r := Ex_canon (keep := [0, 1, 5]) (by kernel_rfl)
def Lc32l2 (F : Nat → Option IFn) (cx : Ctx) (x0 x1 x5 : AV) (rows : List Row) (low : Nat) (r : AV × List Row × Nat → Prop) : Prop := Ex F cx (.code c32l2 :: .inLoop c32l2 :: .inBlock 0 :: .code c32s1 :: []) ⟨mk 26 [(0, x0), (1, x1), (5, x5)], rows, low⟩ r
@[simp] theorem nc32l2 : Ex F cx (.inLoop c32l2 :: .inBlock 0 :: .code c32s1 :: []) ⟨mk 26 l, rows, low⟩ r ↔ Lc32l2 F cx (lk l 0) (lk l 1) (lk l 5) rows low r := loopN (keep := [0, 1, 5]) (by kernel_rfl)
@[simp] theorem ec32l2 : Ex F cx (.code (.loop c32l2) :: .inBlock 0 :: .code c32s1 :: []) ⟨mk 26 l, rows, low⟩ r ↔ Lc32l2 F cx (lk l 0) (lk l 1) (lk l 5) rows low r := loopE (keep := [0, 1, 5]) (by kernel_rfl)
@[simp] theorem uc32l2 : Ex F cx (.code c32l2 :: k) s r ↔ Ex F cx (.code (.seq (.seq c32k9 c32s8) c32s7) :: k) s r := Iff.rfl
def Jc32s12 (F : Nat → Option IFn) (cx : Ctx) (x0 x1 : AV) (rows : List Row) (low : Nat) (r : AV × List Row × Nat → Prop) : Prop := Ex F cx (.code c32s12 :: []) ⟨mk 26 [(0, x0), (1, x1)], rows, low⟩ r
theorem jc32s12 : Ex F cx (.code c32s12 :: []) ⟨mk 26 l, rows, low⟩ r ↔ Jc32s12 F cx (lk l 0) (lk l 1) rows low r := Ex_canon (keep := [0, 1]) (by kernel_rfl)
@[simp] theorem uc32b : Ex F cx (.code c32b :: k) s r ↔ Ex F cx (.code (.seq c32k17 c32s16) :: k) s r := Iff.rfl
theorem i32 {x0 x1 : AV} (hF : F 32 = some c32) {q : AV × List Row × Option Nat} (h : Ex F (.fn [.t 4]) [.code c32b] ⟨mk 26 [(0, x0), (1, x1)], rows, rows.length⟩ fun r => fin rows r.1 r.2.1 r.2.2 = q) : Ret F 32 [x0, x1] rows = some q := Ret_mk hF h
@[simp] theorem uc33k0 : Ex F cx (.code c33k0 :: k) ⟨mk 41 l, rows, low⟩ r ↔ Ex F cx k ⟨mk 41 [(4, lk l 5), (40, lk l 5), (5, lk l 5)], rows, low⟩ r := reg (keep := [5]) (ops := c33r0) rfl (by kernel_rfl) (by kernel_rfl)
@[simp] theorem uc33s1 : Ex F cx (.code c33s1 :: k) s r ↔ Ex F cx (.code (.seq c33k0 .ret) :: k) s r := Iff.rfl
@[simp] theorem uc33k3 : Ex F cx (.code c33k3 :: k) ⟨mk 41 l, rows, low⟩ r ↔ bnd (evP rows (.bin .add (.c (lk l 6)) (.c (.int .i64 1)))) fun v0 => Ex F cx k ⟨mk 41 [(6, v0), (14, v0), (13, lk l 6), (0, lk l 0), (1, lk l 1), (5, lk l 5), (6, lk l 6)], rows, low⟩ r := reg (keep := [0, 1, 5, 6]) (ops := c33r3) rfl (by kernel_rfl) (by kernel_rfl)
@[simp] theorem uc33k4 : Ex F cx (.code c33k4 :: k) ⟨mk 41 l, rows, low⟩ r ↔ bnd (evE rows low (.mkslice 1 [.int .i64 0] [(0, 1, (.c (lk l 7)))])) fun q0 => bnd (evE q0.2.1 q0.2.2 (.app 1 8 (.c (lk l 5)) (.c q0.1))) fun q1 => Ex F cx k ⟨mk 41 [(5, q1.1), (39, q1.1), (38, q0.1), (37, lk l 7), (36, lk l 5), (0, lk l 0), (1, lk l 1), (5, lk l 5), (6, lk l 6), (7, lk l 7)], q1.2.1, q1.2.2⟩ r := reg (keep := [0, 1, 5, 6, 7]) (ops := c33r4) rfl (by kernel_rfl) (by kernel_rfl)
@[simp] theorem uc33k6 : Ex F cx (.code c33k6 :: k) ⟨mk 41 l, rows, low⟩ r ↔ bnd (evP rows (.bin .add (.c (lk l 8)) (.c (.int .i64 1)))) fun v0 => Ex F cx k ⟨mk 41 [(8, v0), (23, v0), (22, lk l 8), (0, lk l 0), (1, lk l 1), (5, lk l 5), (6, lk l 6), (7, lk l 7), (8, lk l 8)], rows, low⟩ r := reg (keep := [0, 1, 5, 6, 7, 8]) (ops := c33r6) rfl (by kernel_rfl) (by kernel_rfl)
@[simp] theorem uc33k7 : Ex F cx (.code c33k7 :: k) ⟨mk 41 l, rows, low⟩ r ↔ bnd (evP rows (.idxS 1 (.c (lk l 1)) (.c (lk l 6)))) fun v0 => bnd (evP rows (.load1 (.c v0))) fun v1 => bnd (evP rows (.idxS 1 (.c v1) (.c (lk l 8)))) fun v2 => bnd (evP rows (.load1 (.c v2))) fun v3 => bnd (evP rows (.idxS 1 (.c (lk l 0)) (.c v3))) fun v4 => bnd (evP rows (.load1 (.c v4))) fun v5 => bnd (evP rows (.bin .add (.c (lk l 7)) (.c v5))) fun v6 => Ex F cx k ⟨mk 41 [(7, v6), (35, v6), (34, v5), (33, v4), (32, v3), (31, v2), (30, lk l 8), (29, v1), (28, v0), (27, lk l 6), (26, lk l 1), (25, lk l 0), (24, lk l 7), (0, lk l 0), (1, lk l 1), (5, lk l 5), (6, lk l 6), (7, lk l 7), (8, lk l 8)], rows, low⟩ r := reg (keep := [0, 1, 5, 6, 7, 8]) (ops := c33r7) rfl (by kernel_rfl) (by kernel_rfl)
@[simp] theorem uc33s8 : Ex F cx (.code c33s8 :: k) s r ↔ Ex F cx (.code (.seq (.block 3 c33k7) c33k6) :: k) s r := Iff.rfl
@[simp] theorem uc33s9 : Ex F cx (.code c33s9 :: k) s r ↔ Ex F cx (.code (.cond (.t 21) .skip (.exit 2)) :: k) s r := Iff.rfl
@[simp] theorem uc33k10 : Ex F cx (.code c33k10 :: k) ⟨mk 41 l, rows, low⟩ r ↔ bnd (evP rows (.idxS 1 (.c (lk l 1)) (.c (lk l 6)))) fun v0 => bnd (evP rows (.load1 (.c v0))) fun v1 => bnd (evP rows (.len 0 (.c v1))) fun v2 => bnd (evP rows (.bin .lss (.c (lk l 8)) (.c v2))) fun v3 => Ex F cx k ⟨mk 41 [(21, v3), (20, v2), (19, v1), (18, v0), (17, lk l 6), (16, lk l 1), (15, lk l 8), (0, lk l 0), (1, lk l 1), (5, lk l 5), (6, lk l 6), (7, lk l 7), (8, lk l 8)], rows, low⟩ r := reg (keep := [0, 1, 5, 6, 7, 8]) (ops := c33r10) rfl (by kernel_rfl) (by kernel_rfl)
@[simp] theorem uc33s11 : Ex F cx (.code c33s11 :: k) s r ↔ Ex F cx (.code (.block 2 (.loop c33l5)) :: k) s r := Iff.rfl
@[simp] theorem uc33k12 : Ex F cx (.code c33k12 :: k) ⟨mk 41 l, rows, low⟩ r ↔ Ex F cx k ⟨mk 41 [(8, (.int .i64 0)), (0, lk l 0), (1, lk l 1), (5, lk l 5), (6, lk l 6), (7, lk l 7)], rows, low⟩ r := reg (keep := [0, 1, 5, 6, 7]) (ops := c33r12) rfl (by kernel_rfl) (by kernel_rfl)
@[simp] theorem uc33s13 : Ex F cx (.code c33s13 :: k) s r ↔ Ex F cx (.code (.seq (.seq c33k12 c33s11) c33k4) :: k) s r := Iff.rfl
@[simp] theorem uc33k14 : Ex F cx (.code c33k14 :: k) ⟨mk 41 l, rows, low⟩ r ↔ Ex F cx k ⟨mk 41 [(7, (.int .i64 0)), (0, lk l 0), (1, lk l 1), (5, lk l 5), (6, lk l 6)], rows, low⟩ r := reg (keep := [0, 1, 5, 6]) (ops := c33r14) rfl (by kernel_rfl) (by kernel_rfl)
@[simp] theorem uc33s15 : Ex F cx (.code c33s15 :: k) s r ↔ Ex F cx (.code (.seq (.block 1 (.seq c33k14 c33s13)) c33k3) :: k) s r := Iff.rfl
@[simp] theorem uc33s16 : Ex F cx (.code c33s16 :: k) s r ↔ Ex F cx (.code (.cond (.t 12) .skip (.exit 0)) :: k) s r := Iff.rfl
@[simp] theorem uc33k17 : Ex F cx (.code c33k17 :: k) ⟨mk 41 l, rows, low⟩ r ↔ bnd (evP rows (.len 0 (.c (lk l 1)))) fun v0 => bnd (evP rows (.bin .lss (.c (lk l 6)) (.c v0))) fun v1 => Ex F cx k ⟨mk 41 [(12, v1), (11, v0), (10, lk l 1), (9, lk l 6), (0, lk l 0), (1, lk l 1), (5, lk l 5), (6, lk l 6)], rows, low⟩ r := reg (keep := [0, 1, 5, 6]) (ops := c33r17) rfl (by kernel_rfl) (by kernel_rfl)
@[simp] theorem uc33s18 : Ex F cx (.code c33s18 :: k) s r ↔ Ex F cx (.code (.block 0 (.loop c33l2)) :: k) s r := Iff.rfl
@[simp] theorem uc33k19 : Ex F cx (.code c33k19 :: k) ⟨mk 41 l, rows, low⟩ r ↔ Ex F cx k ⟨mk 41 [(6, (.int .i64 0)), (0, lk l 0), (1, lk l 1), (5, lk l 5)], rows, low⟩ r := reg (keep := [0, 1, 5]) (ops := c33r19) rfl (by kernel_rfl) (by kernel_rfl)
@[simp] theorem uc33s20 : Ex F cx (.code c33s20 :: k) s r ↔ Ex F cx (.code (.seq (.seq c33k19 c33s18) c33s1) :: k) s r := Iff.rfl
@[simp] theorem uc33k21 : Ex F cx (.code c33k21 :: k) ⟨mk 41 l, rows, low⟩ r ↔ Ex F cx k ⟨mk 41 [(5, .nilslice), (0, lk l 0), (1, lk l 1)], rows, low⟩ r := reg (keep := [0, 1]) (ops := c33r21) rfl (by kernel_rfl) (by kernel_rfl)
@[simp] theorem uc33s22 : Ex F cx (.code c33s22 :: k) s r ↔ Ex F cx (.code (.seq c33k21 c33s20) :: k) s r := Iff.rfl
@[simp] theorem uc33k23 : Ex F cx (.code c33k23 :: k) ⟨mk 41 l, rows, low⟩ r ↔ Ex F cx k ⟨mk 41 [(4, .nilslice), (0, lk l 0), (1, lk l 1)], rows, low⟩ r := reg (keep := [0, 1]) (ops := c33r23) rfl (by kernel_rfl) (by kernel_rfl)
def Jc33s8 (F : Nat → Option IFn) (cx : Ctx) (x0 x1 x5 x6 x7 x8 : AV) (rows : List Row) (low : Nat) (r : AV × List Row × Nat → Prop) : Prop := Ex F cx (.code c33s8 :: .inLoop c33l5 :: .inBlock 2 :: .code c33k4 :: .inBlock 1 :: .code c33k3 :: .inLoop c33l2 :: .inBlock 0 :: .code c33s1 :: []) ⟨mk 41 [(0, x0), (1, x1), (5, x5), (6, x6), (7, x7), (8, x8)], rows, low⟩ r
theorem jc33s8 : Ex F cx (.code c33s8 :: .inLoop c33l5 :: .inBlock 2 :: .code c33k4 :: .inBlock 1 :: .code c33k3 :: .inLoop c33l2 :: .inBlock 0 :: .code c33s1 :: []) ⟨mk 41 l, rows, low⟩ r ↔ Jc33s8 F cx (lk l 0) (lk l 1) (lk l 5) (lk l 6) (lk l 7) (lk l 8) rows low r := Ex_canon (keep := [0, 1, 5, 6, 7, 8]) (by kernel_rfl)
def Lc33l5 (F : Nat → Option IFn) (cx : Ctx) (x0 x1 x5 x6 x7 x8 : AV) (rows : List Row) (low : Nat) (r : AV × List Row × Nat → Prop) : Prop := Ex F cx (.code c33l5 :: .inLoop c33l5 :: .inBlock 2 :: .code c33k4 :: .inBlock 1 :: .code c33k3 :: .inLoop c33l2 :: .inBlock 0 :: .code c33s1 :: []) ⟨mk 41 [(0, x0), (1, x1), (5, x5), (6, x6), (7, x7), (8, x8)], rows, low⟩ r
@[simp] theorem nc33l5 : Ex F cx (.inLoop c33l5 :: .inBlock 2 :: .code c33k4 :: .inBlock 1 :: .code c33k3 :: .inLoop c33l2 :: .inBlock 0 :: .code c33s1 :: []) ⟨mk 41 l, rows, low⟩ r ↔ Lc33l5 F cx (lk l 0) (lk l 1) (lk l 5) (lk l 6) (lk l 7) (lk l 8) rows low r := loopN (keep := [0, 1, 5, 6, 7, 8]) (by kernel_rfl)
@[simp] theorem ec33l5 : Ex F cx (.code (.loop c33l5) :: .inBlock 2 :: .code c33k4 :: .inBlock 1 :: .code c33k3 :: .inLoop c33l2 :: .inBlock 0 :: .code c33s1 :: []) ⟨mk 41 l, rows, low⟩ r ↔ Lc33l5 F cx (lk l 0) (lk l 1) (lk l 5) (lk l 6) (lk l 7) (lk l 8) rows low r := loopE (keep := [0, 1, 5, 6, 7, 8]) (by kernel_rfl)
@[simp] theorem uc33l5 : Ex F cx (.code c33l5 :: k) s r ↔ Ex F cx (.code (.seq (.seq c33k10 c33s9) c33s8) :: k) s r := Iff.rfl
def Jc33s15 (F : Nat → Option IFn) (cx : Ctx) (x0 x1 x5 x6 : AV) (rows : List Row) (low : Nat) (r : AV × List Row × Nat → Prop) : Prop := Ex F cx (.code c33s15 :: .inLoop c33l2 :: .inBlock 0 :: .code c33s1 :: []) ⟨mk 41 [(0, x0), (1, x1), (5, x5), (6, x6)], rows, low⟩ r
theorem jc33s15 : Ex F cx (.code c33s15 :: .inLoop c33l2 :: .inBlock 0 :: .code c33s1 :: []) ⟨mk 41 l, rows, low⟩ r ↔ Jc33s15 F cx (lk l 0) (lk l 1) (lk l 5) (lk l 6) rows low r := Ex_canon (keep := [0, 1, 5, 6]) (by kernel_rfl)
def Lc33l2 (F : Nat → Option IFn) (cx : Ctx) (x0 x1 x5 x6 : AV) (rows : List Row) (low : Nat) (r : AV × List Row × Nat → Prop) : Prop := Ex F cx (.code c33l2 :: .inLoop c33l2 :: .inBlock 0 :: .code c33s1 :: []) ⟨mk 41 [(0, x0), (1, x1), (5, x5), (6, x6)], rows, low⟩ r
@[simp] theorem nc33l2 : Ex F cx (.inLoop c33l2 :: .inBlock 0 :: .code c33s1 :: []) ⟨mk 41 l, rows, low⟩ r ↔ Lc33l2 F cx (lk l 0) (lk l 1) (lk l 5) (lk l 6) rows low r := loopN (keep := [0, 1, 5, 6]) (by kernel_rfl)
@[simp] theorem ec33l2 : Ex F cx (.code (.loop c33l2) :: .inBlock 0 :: .code c33s1 :: []) ⟨mk 41 l, rows, low⟩ r ↔ Lc33l2 F cx (lk l 0) (lk l 1) (lk l 5) (lk l 6) rows low r := loopE (keep := [0, 1, 5, 6]) (by kernel_rfl)
@[simp] theorem uc33l2 : Ex F cx (.code c33l2 :: k) s r ↔ Ex F cx (.code (.seq (.seq c33k17 c33s16) c33s15) :: k) s r := Iff.rfl
@[simp] theorem uc33b : Ex F cx (.code c33b :: k) s r ↔ Ex F cx (.code (.seq c33k23 c33s22) :: k) s r := Iff.rfl
theorem i33 {x0 x1 : AV} (hF : F 33 = some c33) {q : AV × List Row × Option Nat} (h : Ex F (.fn [.t 4]) [.code c33b] ⟨mk 41 [(0, x0), (1, x1)], rows, rows.length⟩ fun r => fin rows r.1 r.2.1 r.2.2 = q) : Ret F 33 [x0, x1] rows = some q := Ret_mk hF h
@[simp] theorem uc64k0 : Ex F cx (.code c64k0 :: k) ⟨mk 113 l, rows, low⟩ r ↔ Ex F cx k ⟨mk 113 [(10, (.bool true)), (9, lk l 16), (8, lk l 18), (112, lk l 16), (111, lk l 18), (16, lk l 16), (18, lk l 18)], rows, low⟩ r := reg (keep := [16, 18]) (ops := c64r0) rfl (by kernel_rfl) (by kernel_rfl)
@[simp] theorem uc64s1 : Ex F cx (.code c64s1 :: k) s r ↔ Ex F cx (.code (.seq c64k0 .ret) :: k) s r := Iff.rfl
@[simp] theorem uc64k3 : Ex F cx (.code c64k3 :: k) ⟨mk 113 l, rows, low⟩ r ↔ bnd (evP rows (.bin .add (.c (lk l 19)) (.c (.int .i64 1)))) fun v0 => Ex F cx k ⟨mk 113 [(19, v0), (85, v0), (84, lk l 19), (11, lk l 11), (12, lk l 12), (15, lk l 15), (16, lk l 16), (18, lk l 18), (19, lk l 19)], rows, low⟩ r := reg (keep := [11, 12, 15, 16, 18, 19]) (ops := c64r3) rfl (by kernel_rfl) (by kernel_rfl)
@[simp] theorem uc64k4 : Ex F cx (.code c64k4 :: k) ⟨mk 113 l, rows, low⟩ r ↔ bnd (evE rows low (.mkslice 1 [.nilslice] [(0, 1, (.c (lk l 20)))])) fun q0 => bnd (evE q0.2.1 q0.2.2 (.app 1 24 (.c (lk l 18)) (.c q0.1))) fun q1 => Ex F cx k ⟨mk 113 [(18, q1.1), (110, q1.1), (109, q0.1), (108, lk l 20), (107, lk l 18), (11, lk l 11), (12, lk l 12), (15, lk l 15), (16, lk l 16), (18, lk l 18), (19, lk l 19), (20, lk l 20)], q1.2.1, q1.2.2⟩ r := reg (keep := [11, 12, 15, 16, 18, 19, 20]) (ops := c64r4) rfl (by kernel_rfl) (by kernel_rfl)
@[simp] theorem uc64k5 : Ex F cx (.code c64k5 :: k) ⟨mk 113 l, rows, low⟩ r ↔ bnd (evP rows (.idxS 1 (.c (lk l 12)) (.c (lk l 19)))) fun v0 => bnd (evP rows (.load1 (.c v0))) fun v1 => bnd (evE rows low (.app 1 8 (.c (lk l 20)) (.c v1))) fun q2 => Ex F cx k ⟨mk 113 [(20, q2.1), (97, q2.1), (96, v1), (95, v0), (94, lk l 19), (93, lk l 12), (92, lk l 20), (11, lk l 11), (12, lk l 12), (15, lk l 15), (16, lk l 16), (18, lk l 18), (19, lk l 19), (20, lk l 20)], q2.2.1, q2.2.2⟩ r := reg (keep := [11, 12, 15, 16, 18, 19, 20]) (ops := c64r5) rfl (by kernel_rfl) (by kernel_rfl)
@[simp] theorem uc64k6 : Ex F cx (.code c64k6 :: k) ⟨mk 113 l, rows, low⟩ r ↔ bnd (evP rows (.len 0 (.c (lk l 12)))) fun v0 => bnd (evP rows (.bin .sub (.c (lk l 19)) (.c v0))) fun v1 => bnd (evP rows (.idxS 1 (.c (lk l 15)) (.c v1))) fun v2 => bnd (evP rows (.load1 (.c v2))) fun v3 => bnd (evE rows low (.app 1 8 (.c (lk l 20)) (.c v3))) fun q4 => Ex F cx k ⟨mk 113 [(20, q4.1), (106, q4.1), (105, v3), (104, v2), (103, v1), (102, v0), (101, lk l 12), (100, lk l 19), (99, lk l 15), (98, lk l 20), (11, lk l 11), (12, lk l 12), (15, lk l 15), (16, lk l 16), (18, lk l 18), (19, lk l 19), (20, lk l 20)], q4.2.1, q4.2.2⟩ r := reg (keep := [11, 12, 15, 16, 18, 19, 20]) (ops := c64r6) rfl (by kernel_rfl) (by kernel_rfl)
@[simp] theorem uc64s7 : Ex F cx (.code c64s7 :: k) s r ↔ Ex F cx (.code (.cond (.t 91) c64k5 c64k6) :: k) s r := Iff.rfl
@[simp] theorem uc64k8 : Ex F cx (.code c64k8 :: k) ⟨mk 113 l, rows, low⟩ r ↔ bnd (evP rows (.len 0 (.c (lk l 12)))) fun v0 => bnd (evP rows (.bin .lss (.c (lk l 19)) (.c v0))) fun v1 => Ex F cx k ⟨mk 113 [(91, v1), (90, v0), (89, lk l 12), (88, lk l 19), (11, lk l 11), (12, lk l 12), (15, lk l 15), (16, lk l 16), (18, lk l 18), (19, lk l 19), (20, lk l 20)], rows, low⟩ r := reg (keep := [11, 12, 15, 16, 18, 19, 20]) (ops := c64r8) rfl (by kernel_rfl) (by kernel_rfl)
@[simp] theorem uc64s9 : Ex F cx (.code c64s9 :: k) s r ↔ Ex F cx (.code (.seq (.seq c64k8 c64s7) c64k4) :: k) s r := Iff.rfl
@[simp] theorem uc64k10 : Ex F cx (.code c64k10 :: k) ⟨mk 113 l, rows, low⟩ r ↔ bnd (evE rows low (.mkslice 1 [.int .i64 0] [(0, 1, (.c (lk l 11)))])) fun q0 => Ex F cx k ⟨mk 113 [(20, q0.1), (87, q0.1), (86, lk l 11), (11, lk l 11), (12, lk l 12), (15, lk l 15), (16, lk l 16), (18, lk l 18), (19, lk l 19)], q0.2.1, q0.2.2⟩ r := reg (keep := [11, 12, 15, 16, 18, 19]) (ops := c64r10) rfl (by kernel_rfl) (by kernel_rfl)
@[simp] theorem uc64s11 : Ex F cx (.code c64s11 :: k) s r ↔ Ex F cx (.code (.seq (.block 1 (.seq c64k10 c64s9)) c64k3) :: k) s r := Iff.rfl
@[simp] theorem uc64s12 : Ex F cx (.code c64s12 :: k) s r ↔ Ex F cx (.code (.cond (.t 83) .skip (.exit 0)) :: k) s r := Iff.rfl
@[simp] theorem uc64k13 : Ex F cx (.code c64k13 :: k) ⟨mk 113 l, rows, low⟩ r ↔ bnd (evP rows (.len 0 (.c (lk l 12)))) fun v0 => bnd (evP rows (.len 0 (.c (lk l 15)))) fun v1 => bnd (evP rows (.bin .add (.c v0) (.c v1))) fun v2 => bnd (evP rows (.bin .lss (.c (lk l 19)) (.c v2))) fun v3 => Ex F cx k ⟨mk 113 [(83, v3), (82, v2), (81, v1), (80, lk l 15), (79, v0), (78, lk l 12), (77, lk l 19), (11, lk l 11), (12, lk l 12), (15, lk l 15), (16, lk l 16), (18, lk l 18), (19, lk l 19)], rows, low⟩ r := reg (keep := [11, 12, 15, 16, 18, 19]) (ops := c64r13) rfl (by kernel_rfl) (by kernel_rfl)
@[simp] theorem uc64s14 : Ex F cx (.code c64s14 :: k) s r ↔ Ex F cx (.code (.block 0 (.loop c64l2)) :: k) s r := Iff.rfl
@[simp] theorem uc64k15 : Ex F cx (.code c64k15 :: k) ⟨mk 113 l, rows, low⟩ r ↔ Ex F cx k ⟨mk 113 [(19, (.int .i64 0)), (11, lk l 11), (12, lk l 12), (15, lk l 15), (16, lk l 16), (18, lk l 18)], rows, low⟩ r := reg (keep := [11, 12, 15, 16, 18]) (ops := c64r15) rfl (by kernel_rfl) (by kernel_rfl)
@[simp] theorem uc64s16 : Ex F cx (.code c64s16 :: k) s r ↔ Ex F cx (.code (.seq (.seq c64k15 c64s14) c64s1) :: k) s r := Iff.rfl
@[simp] theorem uc64k17 : Ex F cx (.code c64k17 :: k) ⟨mk 113 l, rows, low⟩ r ↔ Ex F cx k ⟨mk 113 [(18, .nilslice), (11, lk l 11), (12, lk l 12), (15, lk l 15), (16, lk l 16)], rows, low⟩ r := reg (keep := [11, 12, 15, 16]) (ops := c64r17) rfl (by kernel_rfl) (by kernel_rfl)
@[simp] theorem uc64s18 : Ex F cx (.code c64s18 :: k) s r ↔ Ex F cx (.code (.seq c64k17 c64s16) :: k) s r := Iff.rfl
@[simp] theorem uc64k19 : Ex F cx (.code c64k19 :: k) ⟨mk 113 l, rows, low⟩ r ↔ Ex F cx k ⟨mk 113 [(10, (.bool false)), (9, lk l 1), (8, .nilslice), (76, lk l 1), (1, lk l 1)], rows, low⟩ r := reg (keep := [1]) (ops := c64r19) rfl (by kernel_rfl) (by kernel_rfl)
@[simp] theorem uc64s20 : Ex F cx (.code c64s20 :: k) s r ↔ Ex F cx (.code (.cond (.t 75) (.seq c64k19 .ret) .skip) :: k) s r := Iff.rfl
@[simp] theorem uc64k21 : Ex F cx (.code c64k21 :: k) ⟨mk 113 l, rows, low⟩ r ↔ bnd (evP rows (.un .not (.c (lk l 17)))) fun v0 => Ex F cx k ⟨mk 113 [(75, v0), (74, lk l 17), (1, lk l 1), (11, lk l 11), (12, lk l 12), (15, lk l 15), (16, lk l 16), (17, lk l 17)], rows, low⟩ r := reg (keep := [1, 11, 12, 15, 16, 17]) (ops := c64r21) rfl (by kernel_rfl) (by kernel_rfl)
@[simp] theorem uc64s22 : Ex F cx (.code c64s22 :: k) s r ↔ Ex F cx (.code (.seq (.seq c64k21 c64s20) c64s18) :: k) s r := Iff.rfl
@[simp] theorem uc64k23 : Ex F cx (.code c64k23 :: k) ⟨mk 113 l, rows, low⟩ r ↔ bnd (evP rows (.bin .add (.c (lk l 11)) (.c (.int .i64 1)))) fun v0 => bnd (Ret F 64 [lk l 0, lk l 13, v0, lk l 3] rows) fun q1 => bnd (evP q1.2.1 (.ext (.c q1.1) 0)) fun v2 => bnd (evP q1.2.1 (.ext (.c q1.1) 1)) fun v3 => bnd (evP q1.2.1 (.ext (.c q1.1) 2)) fun v4 => Ex F cx k ⟨mk 113 [(17, v4), (16, v3), (15, v2), (73, v4), (72, v3), (71, v2), (64, q1.1), (70, q1.1), (69, lk l 3), (68, v0), (67, lk l 11), (66, lk l 13), (65, lk l 0), (0, lk l 0), (1, lk l 1), (3, lk l 3), (11, lk l 11), (12, lk l 12), (13, lk l 13)], q1.2.1, (lowO low q1.2.2)⟩ r := reg (keep := [0, 1, 3, 11, 12, 13]) (ops := c64r23) rfl (by kernel_rfl) (by kernel_rfl)
@[simp] theorem uc64s24 : Ex F cx (.code c64s24 :: k) s r ↔ Ex F cx (.code (.seq c64k23 c64s22) :: k) s r := Iff.rfl
@[simp] theorem uc64k25 : Ex F cx (.code c64k25 :: k) ⟨mk 113 l, rows, low⟩ r ↔ Ex F cx k ⟨mk 113 [(10, (.bool false)), (9, lk l 1), (8, .nilslice), (63, lk l 1), (1, lk l 1)], rows, low⟩ r := reg (keep := [1]) (ops := c64r25) rfl (by kernel_rfl) (by kernel_rfl)
@[simp] theorem uc64s26 : Ex F cx (.code c64s26 :: k) s r ↔ Ex F cx (.code (.cond (.t 62) (.seq c64k25 .ret) .skip) :: k) s r := Iff.rfl
@[simp] theorem uc64k27 : Ex F cx (.code c64k27 :: k) ⟨mk 113 l, rows, low⟩ r ↔ bnd (evP rows (.un .not (.c (lk l 14)))) fun v0 => Ex F cx k ⟨mk 113 [(62, v0), (61, lk l 14), (0, lk l 0), (1, lk l 1), (3, lk l 3), (11, lk l 11), (12, lk l 12), (13, lk l 13), (14, lk l 14)], rows, low⟩ r := reg (keep := [0, 1, 3, 11, 12, 13, 14]) (ops := c64r27) rfl (by kernel_rfl) (by kernel_rfl)
@[simp] theorem uc64s28 : Ex F cx (.code c64s28 :: k) s r ↔ Ex F cx (.code (.seq (.seq c64k27 c64s26) c64s24) :: k) s r := Iff.rfl
@[simp] theorem uc64k29 : Ex F cx (.code c64k29 :: k) ⟨mk 113 l, rows, low⟩ r ↔ bnd (evP rows (.bin .add (.c (lk l 1)) (.c (.int .i64 1)))) fun v0 => bnd (Ret F 64 [lk l 0, v0, lk l 2, lk l 11] rows) fun q1 => bnd (evP q1.2.1 (.ext (.c q1.1) 0)) fun v2 => bnd (evP q1.2.1 (.ext (.c q1.1) 1)) fun v3 => bnd (evP q1.2.1 (.ext (.c q1.1) 2)) fun v4 => Ex F cx k ⟨mk 113 [(14, v4), (13, v3), (12, v2), (60, v4), (59, v3), (58, v2), (51, q1.1), (57, q1.1), (56, lk l 11), (55, lk l 2), (54, v0), (53, lk l 1), (52, lk l 0), (0, lk l 0), (1, lk l 1), (2, lk l 2), (3, lk l 3), (11, lk l 11)], q1.2.1, (lowO low q1.2.2)⟩ r := reg (keep := [0, 1, 2, 3, 11]) (ops := c64r29) rfl (by kernel_rfl) (by kernel_rfl)
@[simp] theorem uc64s30 : Ex F cx (.code c64s30 :: k) s r ↔ Ex F cx (.code (.seq c64k29 c64s28) :: k) s r := Iff.rfl
@[simp] theorem uc64k31 : Ex F cx (.code c64k31 :: k) ⟨mk 113 l, rows, low⟩ r ↔ bnd (evP rows (.idxS 1 (.c (lk l 0)) (.c (lk l 1)))) fun v0 => bnd (evP rows (.load1 (.c v0))) fun v1 => Ex F cx k ⟨mk 113 [(11, v1), (50, v1), (49, v0), (48, lk l 1), (47, lk l 0), (0, lk l 0), (1, lk l 1), (2, lk l 2), (3, lk l 3)], rows, low⟩ r := reg (keep := [0, 1, 2, 3]) (ops := c64r31) rfl (by kernel_rfl) (by kernel_rfl)
@[simp] theorem uc64s32 : Ex F cx (.code c64s32 :: k) s r ↔ Ex F cx (.code (.seq c64k31 c64s30) :: k) s r := Iff.rfl
@[simp] theorem uc64k33 : Ex F cx (.code c64k33 :: k) ⟨mk 113 l, rows, low⟩ r ↔ Ex F cx k ⟨mk 113 [(10, (.bool false)), (9, lk l 1), (8, .nilslice), (46, lk l 1), (1, lk l 1)], rows, low⟩ r := reg (keep := [1]) (ops := c64r33) rfl (by kernel_rfl) (by kernel_rfl)
@[simp] theorem uc64s34 : Ex F cx (.code c64s34 :: k) s r ↔ Ex F cx (.code (.cond (.t 45) (.seq c64k33 .ret) .skip) :: k) s r := Iff.rfl
@[simp] theorem uc64k35 : Ex F cx (.code c64k35 :: k) ⟨mk 113 l, rows, low⟩ r ↔ bnd (evP rows (.len 0 (.c (lk l 0)))) fun v0 => bnd (evP rows (.bin .geq (.c (lk l 1)) (.c v0))) fun v1 => bnd (gv v1 false (evP rows (.mv (.c (lk l 0))))) fun v2 => bnd (gv v1 false (evP rows (.mv (.c (lk l 1))))) fun v3 => bnd (gv v1 false (evP rows (.idxS 1 (.c v2) (.c v3)))) fun v4 => bnd (gv v1 false (evP rows (.load1 (.c v4)))) fun v5 => bnd (gv v1 false (evP rows (.mv (.c (lk l 2))))) fun v6 => bnd (gv v1 false (evP rows (.bin .lss (.c v5) (.c v6)))) fun v7 => bnd (evP rows (.pick (.c v1) (.c (.bool true)) (.c v7))) fun v8 => bnd (gv v8 false (evP rows (.mv (.c (lk l 0))))) fun v9 => bnd (gv v8 false (evP rows (.mv (.c (lk l 1))))) fun v10 => bnd (gv v8 false (evP rows (.idxS 1 (.c v9) (.c v10)))) fun v11 => bnd (gv v8 false (evP rows (.load1 (.c v11)))) fun v12 => bnd (gv v8 false (evP rows (.mv (.c (lk l 3))))) fun v13 => bnd (gv v8 false (evP rows (.bin .geq (.c v12) (.c v13)))) fun v14 => bnd (evP rows (.pick (.c v8) (.c (.bool true)) (.c v14))) fun v15 => Ex F cx k ⟨mk 113 [(45, v15), (44, v14), (43, v13), (42, v12), (41, v11), (40, v10), (39, v9), (38, v8), (37, v8), (36, v7), (35, v6), (34, v5), (33, v4), (32, v3), (31, v2), (30, v1), (29, v1), (28, v0), (27, lk l 0), (26, lk l 1), (0, lk l 0), (1, lk l 1), (2, lk l 2), (3, lk l 3)], rows, low⟩ r := reg (keep := [0, 1, 2, 3]) (ops := c64r35) rfl (by kernel_rfl) (by kernel_rfl)
@[simp] theorem uc64s36 : Ex F cx (.code c64s36 :: k) s r ↔ Ex F cx (.code (.seq (.seq c64k35 c64s34) c64s32) :: k) s r := Iff.rfl
@[simp] theorem uc64k37 : Ex F cx (.code c64k37 :: k) ⟨mk 113 l, rows, low⟩ r ↔ bnd (evE rows low (.mkslice 1 [.nilslice] [(0, 1, (.c .nilslice))])) fun q0 => Ex F cx k ⟨mk 113 [(10, (.bool true)), (9, lk l 1), (8, q0.1), (25, lk l 1), (24, q0.1), (1, lk l 1)], q0.2.1, q0.2.2⟩ r := reg (keep := [1]) (ops := c64r37) rfl (by kernel_rfl) (by kernel_rfl)
@[simp] theorem uc64s38 : Ex F cx (.code c64s38 :: k) s r ↔ Ex F cx (.code (.cond (.t 23) (.seq c64k37 .ret) .skip) :: k) s r := Iff.rfl
@[simp] theorem uc64k39 : Ex F cx (.code c64k39 :: k) ⟨mk 113 l, rows, low⟩ r ↔ bnd (evP rows (.bin .eql (.c (lk l 2)) (.c (lk l 3)))) fun v0 => Ex F cx k ⟨mk 113 [(23, v0), (22, lk l 3), (21, lk l 2), (0, lk l 0), (1, lk l 1), (2, lk l 2), (3, lk l 3)], rows, low⟩ r := reg (keep := [0, 1, 2, 3]) (ops := c64r39) rfl (by kernel_rfl) (by kernel_rfl)
@[simp] theorem uc64s40 : Ex F cx (.code c64s40 :: k) s r ↔ Ex F cx (.code (.seq (.seq c64k39 c64s38) c64s36) :: k) s r := Iff.rfl
@[simp] theorem uc64k41 : Ex F cx (.code c64k41 :: k) ⟨mk 113 l, rows, low⟩ r ↔ Ex F cx k ⟨mk 113 [(10, (.bool false)), (9, (.int .i64 0)), (8, .nilslice), (0, lk l 0), (1, lk l 1), (2, lk l 2), (3, lk l 3)], rows, low⟩ r := reg (keep := [0, 1, 2, 3]) (ops := c64r41) rfl (by kernel_rfl) (by kernel_rfl)
def Jc64s11 (F : Nat → Option IFn) (cx : Ctx) (x11 x12 x15 x16 x18 x19 : AV) (rows : List Row) (low : Nat) (r : AV × List Row × Nat → Prop) : Prop := Ex F cx (.code c64s11 :: .inLoop c64l2 :: .inBlock 0 :: .code c64s1 :: []) ⟨mk 113 [(11, x11), (12, x12), (15, x15), (16, x16), (18, x18), (19, x19)], rows, low⟩ r
theorem jc64s11 : Ex F cx (.code c64s11 :: .inLoop c64l2 :: .inBlock 0 :: .code c64s1 :: []) ⟨mk 113 l, rows, low⟩ r ↔ Jc64s11 F cx (lk l 11) (lk l 12) (lk l 15) (lk l 16) (lk l 18) (lk l 19) rows low r := Ex_canon (keep := [11, 12, 15, 16, 18, 19]) (by kernel_rfl)
def Lc64l2 (F : Nat → Option IFn) (cx : Ctx) (x11 x12 x15 x16 x18 x19 : AV) (rows : List Row) (low : Nat) (r : AV × List Row × Nat → Prop) : Prop := Ex F cx (.code c64l2 :: .inLoop c64l2 :: .inBlock 0 :: .code c64s1 :: []) ⟨mk 113 [(11, x11), (12, x12), (15, x15), (16, x16), (18, x18), (19, x19)], rows, low⟩ r
@[simp] theorem nc64l2 : Ex F cx (.inLoop c64l2 :: .inBlock 0 :: .code c64s1 :: []) ⟨mk 113 l, rows, low⟩ r ↔ Lc64l2 F cx (lk l 11) (lk l 12) (lk l 15) (lk l 16) (lk l 18) (lk l 19) rows low r := loopN (keep := [11, 12, 15, 16, 18, 19]) (by kernel_rfl)
@[simp] theorem ec64l2 : Ex F cx (.code (.loop c64l2) :: .inBlock 0 :: .code c64s1 :: []) ⟨mk 113 l, rows, low⟩ r ↔ Lc64l2 F cx (lk l 11) (lk l 12) (lk l 15) (lk l 16) (lk l 18) (lk l 19) rows low r := loopE (keep := [11, 12, 15, 16, 18, 19]) (by kernel_rfl)
@[simp] theorem uc64l2 : Ex F cx (.code c64l2 :: k) s r ↔ Ex F cx (.code (.seq (.seq c64k13 c64s12) c64s11) :: k) s r := Iff.rfl
def Jc64s18 (F : Nat → Option IFn) (cx : Ctx) (x11 x12 x15 x16 : AV) (rows : List Row) (low : Nat) (r : AV × List Row × Nat → Prop) : Prop := Ex F cx (.code c64s18 :: []) ⟨mk 113 [(11, x11), (12, x12), (15, x15), (16, x16)], rows, low⟩ r
theorem jc64s18 : Ex F cx (.code c64s18 :: []) ⟨mk 113 l, rows, low⟩ r ↔ Jc64s18 F cx (lk l 11) (lk l 12) (lk l 15) (lk l 16) rows low r := Ex_canon (keep := [11, 12, 15, 16]) (by kernel_rfl)
def Jc64s24 (F : Nat → Option IFn) (cx : Ctx) (x0 x1 x3 x11 x12 x13 : AV) (rows : List Row) (low : Nat) (r : AV × List Row × Nat → Prop) : Prop := Ex F cx (.code c64s24 :: []) ⟨mk 113 [(0, x0), (1, x1), (3, x3), (11, x11), (12, x12), (13, x13)], rows, low⟩ r
theorem jc64s24 : Ex F cx (.code c64s24 :: []) ⟨mk 113 l, rows, low⟩ r ↔ Jc64s24 F cx (lk l 0) (lk l 1) (lk l 3) (lk l 11) (lk l 12) (lk l 13) rows low r := Ex_canon (keep := [0, 1, 3, 11, 12, 13]) (by kernel_rfl)
def Jc64s32 (F : Nat → Option IFn) (cx : Ctx) (x0 x1 x2 x3 : AV) (rows : List Row) (low : Nat) (r : AV × List Row × Nat → Prop) : Prop := Ex F cx (.code c64s32 :: []) ⟨mk 113 [(0, x0), (1, x1), (2, x2), (3, x3)], rows, low⟩ r
theorem jc64s32 : Ex F cx (.code c64s32 :: []) ⟨mk 113 l, rows, low⟩ r ↔ Jc64s32 F cx (lk l 0) (lk l 1) (lk l 2) (lk l 3) rows low r := Ex_canon (keep := [0, 1, 2, 3]) (by kernel_rfl)
def Jc64s36 (F : Nat → Option IFn) (cx : Ctx) (x0 x1 x2 x3 : AV) (rows : List Row) (low : Nat) (r : AV × List Row × Nat → Prop) : Prop := Ex F cx (.code c64s36 :: []) ⟨mk 113 [(0, x0), (1, x1), (2, x2), (3, x3)], rows, low⟩ r
theorem jc64s36 : Ex F cx (.code c64s36 :: []) ⟨mk 113 l, rows, low⟩ r ↔ Jc64s36 F cx (lk l 0) (lk l 1) (lk l 2) (lk l 3) rows low r := Ex_canon (keep := [0, 1, 2, 3]) (by kernel_rfl)
@[simp] theorem uc64b : Ex F cx (.code c64b :: k) s r ↔ Ex F cx (.code (.seq c64k41 c64s40) :: k) s r := Iff.rfl
theorem i64 {x0 x1 x2 x3 : AV} (hF : F 64 = some c64) {q : AV × List Row × Option Nat} (h : Ex F (.fn [.t 8, .t 9, .t 10]) [.code c64b] ⟨mk 113 [(0, x0), (1, x1), (2, x2), (3, x3)], rows, rows.length⟩ fun r => fin rows r.1 r.2.1 r.2.2 = q) : Ret F 64 [x0, x1, x2, x3] rows = some q := Ret_mk hF h
end Go.Abs

set_option linter.unusedVariables false
set_option linter.unusedSimpArgs false
namespace Go.Abs
open Rd (Cp IsL_one IsL_cells IsL_tail lowO_n)
theorem El_nil0 {rows : List Row} {v : AV} (h : IsL rows v []) : El rows 1 v (nums .i64 []) 0 := h
theorem IsL_take {rows : List Row} {v : AV} {l : List Int} (h : IsL rows v l) (hc : Cp 1 v) {k : Nat} (hk : k ≤ l.length) : ∃ v', sliceV 1 v none (some (.int .i64 k)) none = some v' ∧ IsL rows v' (l.take k) ∧ Cp 1 v' := by
  rcases El_cases h with ⟨rfl, _, h0⟩ | ⟨id, off, c, vs, rfl, hr, hs⟩
  · have : k = 0 := by omega
    subst this
    refine ⟨.nilslice, by simp [sliceV, bound?], ?_, trivial⟩
    simpa using IsL_nil
  · have hl := seg_len hs
    simp only [Nat.mul_one] at hl
    have hs' : seg vs off (l.take k).length = some (nums .i64 (l.take k)) := by
      have := seg_seg (j := 0) (m := k) hs (by omega)
      rw [Nat.add_zero] at this
      rw [List.length_take, Nat.min_eq_left hk, this]
      unfold seg
      rw [if_pos (by simp; omega)]
      simp [nums, List.map_take]
    cases c with
    | at_ m =>
      simp only [Cp] at hc
      refine ⟨.slice id off k (.at_ m), ?_, ?_, by simp only [Cp]; omega⟩
      · simp only [sliceV, bound?]
        rw [if_pos (by omega)]
        simp
      · have := IsL_mk (n := 0) (c := .at_ m) hr hs'
        simpa [Nat.min_eq_left hk] using this
    | op sz =>
      simp only [Cp] at hc
      subst hc
      refine ⟨.slice id off k (.op 1), ?_, ?_, rfl⟩
      · simp only [sliceV, bound?]
        rw [if_pos (by omega)]
        simp
      · have := IsL_mk (n := 0) (c := .op 1) hr hs'
        simpa [Nat.min_eq_left hk] using this
section
variable {rows : List Row}
/-- few. -/
theorem few_ret {v : AV} {l : List Int} {m : Nat} (h : IsL rows v l) (hc : Cp 1 v) (hm : m ≤ 1000000) : Ret F 26 [v, .int .i64 m] rows = some (newL rows (l.take m)) := by
  obtain ⟨v', e1, h', _⟩ := IsL_take h hc (k := min l.length m) (by omega)
  have e2 : l.take (min l.length m) = l.take m := by
    by_cases hx : l.length ≤ m
    · rw [Nat.min_eq_left hx, List.take_of_length_le (Nat.le_refl _), List.take_of_length_le hx]
    · rw [Nat.min_eq_right (by omega)]
  rw [e2] at h'
  have e3 : ((min (l.length : Int) (m : Int)) : Int) = ((min l.length m : Nat) : Int) := by omega
  refine i26 F26 ?_
  simp [lenL0 h, e3, e1]
  generalize hq : l.take m = q at h'
  cases q with
  | nil =>
    rw [app_0 (El_nil0 h') (.inl rfl)]
    simp [newL]
  | cons x q =>
    have hle : (x :: q).length ≤ m := by rw [← hq]; simp; omega
    rw [app_nil (show El rows 1 v' (nums .i64 (x :: q)) (x :: q).length from h') (by simp) (by simp [lim] at *; omega)]
    simp [newL]
/-- ints. -/
theorem ints_loop {a b : AV} {l p : List Int} (ha : IsL rows a l) (hb : IsL rows b p) (hlen : l.length = p.length) (hL : l.length < 4611686018427387904) : ∀ (n i : Nat), l.length - i = n → i ≤ l.length → l.take i = p.take i →
    Lc32l2 F (.fn [.t 4]) a b (.int .i64 i) rows rows.length (fun r => fin rows r.1 r.2.1 r.2.2 = (.bool (decide (l = p)), rows, none)) := by
  intro n
  induction n with
  | zero =>
    intro i hn h1 h2
    have hi : i = l.length := by omega
    have e : l = p := by
      have h3 := h2
      rw [hi, List.take_of_length_le (Nat.le_refl _), List.take_of_length_le (by omega)] at h3
      exact h3
    unfold Lc32l2
    simp [lenL0 ha, hi, e]
  | succ n ih =>
    intro i hn h1 h2
    have hi : i < l.length := by omega
    have hi2 : i < p.length := by omega
    have w : IntKind.i64.wrap ((i : Int) + 1) = i + 1 := wrap64 (by omega) (by omega)
    unfold Lc32l2
    by_cases hne : gI l i = gI p i
    · simp (disch := first | omega | (simp; done) | fail) [lenL0 ha, idxL0 ha, loadL0 ha, idxL0 hb, loadL0 hb, hi, hi2, w, hne]
      have e : l.take (i + 1) = p.take (i + 1) := by
        rw [List.take_add_one, List.take_add_one, h2, gI_get hi, gI_get hi2, hne]
      have := ih (i + 1) (by omega) (by omega) e
      simpa using this
    · have e : l ≠ p := fun e => hne (by rw [e])
      simp (disch := first | omega | (simp; done) | fail) [lenL0 ha, idxL0 ha, loadL0 ha, idxL0 hb, loadL0 hb, hi, hi2, w, hne, e]
theorem ints_ret {a b : AV} {l p : List Int} (ha : IsL rows a l) (hb : IsL rows b p) (hL : l.length < 4611686018427387904) (hP : p.length < 4611686018427387904) : Ret F 32 [a, b] rows = some (.bool (decide (l = p)), rows, none) := by
  refine i32 F32 ?_
  by_cases hlen : l.length = p.length
  · have := ints_loop ha hb hlen hL _ 0 rfl (by omega) rfl
    simp [lenL0 ha, lenL0 hb, hlen]
    simpa using this
  · have e : l ≠ p := fun e => hlen (by rw [e])
    simp [lenL0 ha, lenL0 hb, hlen, e, show ¬ ((l.length : Int) = p.length) from by omega]
end
end Go.Abs

set_option linter.unusedVariables false
set_option linter.unusedSimpArgs false
namespace Go.Abs
open Rd (Cp IsL_one IsL_cells IsL_tail lowO_n)
/-- A value of a list of values. -/
def gA (vs : List AV) (i : Nat) : AV := vs.getD i .any
def gLL (ls : List (List Int)) (i : Nat) : List Int := ls.getD i []
theorem gA_get {vs : List AV} {i : Nat} (h : i < vs.length) : vs[i]? = some (gA vs i) := by
  simp [gA, h]
theorem gLL_get {vs : List (List Int)} {i : Nat} (h : i < vs.length) : vs[i]? = some (gLL vs i) := by
  simp [gLL, h]
theorem gLL_mem {vs : List (List Int)} {i : Nat} (h : i < vs.length) : gLL vs i ∈ vs := List.mem_of_getElem? (gLL_get h)
/-- A slice of slices of numbers. -/
def IsLL (rows : List Row) (v : AV) (ls : List (List Int)) : Prop := ∃ vs, El rows 1 v vs ls.length ∧ ∀ i, i < ls.length → IsL rows (gA vs i) (gLL ls i)
theorem IsLL_app {rows : List Row} {v : AV} {ls : List (List Int)} (h : IsLL rows v ls) (L : List Row) : IsLL (rows ++ L) v ls := by
  obtain ⟨vs, h1, h2⟩ := h
  exact ⟨vs, El_app h1 L, fun i hi => IsL_app (h2 i hi) L⟩
section
variable {rows : List Row}
theorem lenLL {v : AV} {ls : List (List Int)} (h : IsLL rows v ls) (L : List Row) : evP (rows ++ L) (.len 0 (.c v)) = some (.int .i64 ls.length) := by
  obtain ⟨vs, h1, _⟩ := h
  exact evP_lenE (El_app h1 L)
/-- The sum of the costs of gates. -/
def sumG (cs l : List Int) : Int := (l.map fun g => gI cs g.toNat).sum
theorem sumG_bound {cs : List Int} (hcs : ∀ x ∈ cs, 0 ≤ x ∧ x ≤ 1000) : ∀ l : List Int, (∀ g ∈ l, 0 ≤ g ∧ g < cs.length) → 0 ≤ sumG cs l ∧ sumG cs l ≤ 1000 * l.length
  | [], _ => by simp [sumG]
  | g :: l, h => by
    have := sumG_bound hcs l fun g hg => h g (List.mem_cons_of_mem _ hg)
    have hg := h g (List.mem_cons_self ..)
    have := hcs _ (gI_mem (l := cs) (i := g.toNat) (by omega))
    simp only [sumG, List.map_cons, List.sum_cons, List.length_cons] at *
    omega
theorem sumG_take {cs l : List Int} {k : Nat} (h : k < l.length) : sumG cs (l.take (k + 1)) = sumG cs (l.take k) + gI cs (gI l k).toNat := by
  rw [List.take_add_one, gI_get h]
  simp [sumG]
theorem rprices_in {cv lv : AV} {cs : List Int} {ls : List (List Int)} (hc : IsL rows cv cs) (hl : IsLL rows lv ls) (hcs : ∀ x ∈ cs, 0 ≤ x ∧ x ≤ 1000) (hls : ls.length ≤ 1000000) {i : Nat} (hi : i < ls.length) (hr : (gLL ls i).length ≤ 1000 ∧ ∀ g ∈ gLL ls i, 0 ≤ g ∧ g < cs.length) {H : List Row} {acc : List Int} (hacc : acc.length ≤ 1000000) {r : AV × List Row × Nat → Prop}
    (hn : ∀ H', Lc33l2 F (.fn [.t 4]) cv lv (accV rows H' (acc ++ [sumG cs (gLL ls i)])) (.int .i64 ((i : Int) + 1)) (rows ++ accR H' (acc ++ [sumG cs (gLL ls i)])) rows.length r) : ∀ (n k : Nat), (gLL ls i).length - k = n → k ≤ (gLL ls i).length →
    Lc33l5 F (.fn [.t 4]) cv lv (accV rows H acc) (.int .i64 i) (.int .i64 (sumG cs ((gLL ls i).take k))) (.int .i64 k) (rows ++ accR H acc) rows.length r := by
  obtain ⟨vs, hv, hv2⟩ := hl
  have hvl : vs.length = ls.length := by simpa using El_len hv
  have hvi := hv2 i hi
  have e1 : ∀ L, evP (rows ++ L) (.idxS 1 (.c lv) (.c (.int .i64 i))) = some (.ptr (sid lv) (soff lv + i)) := fun L => by
    simpa using evP_idxE (El_app hv L) (k := .i64) (i := i) (by omega) (by omega)
  have e2 : ∀ L, evP (rows ++ L) (.load1 (.c (.ptr (sid lv) (soff lv + i)))) = some (gA vs i) := fun L => by
    rw [evP_loadE (El_app hv L) (by omega), gA_get (by omega)]
  intro n
  induction n with
  | zero =>
    intro k hn0 hk
    have hk : k = (gLL ls i).length := by omega
    obtain ⟨H', hap⟩ := acc_app (rows := rows) (H := H) (l := acc) (x := sumG cs (gLL ls i)) (by omega)
    have w : IntKind.i64.wrap ((i : Int) + 1) = i + 1 := wrap64 (by omega) (by omega)
    unfold Lc33l5
    simp (disch := first | omega | (simp; done) | fail) [e1, e2, lenL hvi, hk, fillA, splice, w]
    rw [hap]
    simp only [bnd_some]
    simpa [w] using hn H'
  | succ n ih =>
    intro k hn0 hk
    have hk : k < (gLL ls i).length := by omega
    have hg := hr.2 _ (gI_mem hk)
    have hb1 := sumG_bound hcs ((gLL ls i).take k) fun g hg => hr.2 g (List.mem_of_mem_take hg)
    have hb2 := hcs _ (gI_mem (l := cs) (i := (gI (gLL ls i) k).toNat) (by omega))
    have hlt : ((gLL ls i).take k).length ≤ 1000 := by simp; omega
    have w : IntKind.i64.wrap ((k : Int) + 1) = k + 1 := wrap64 (by omega) (by omega)
    have w2 : IntKind.i64.wrap (sumG cs ((gLL ls i).take k) + gI cs (gI (gLL ls i) k).toNat) = sumG cs ((gLL ls i).take (k + 1)) := by
      rw [sumG_take hk]; exact wrap64 (by omega) (by omega)
    unfold Lc33l5
    simp (disch := first | omega | (simp; done) | fail) [e1, e2, lenL hvi, idxL hvi, loadL hvi, idxL hc, loadL hc, hk, w, w2]
    have := ih (k + 1) (by omega) (by omega)
    simpa using this
theorem rprices_out {cv lv : AV} {cs : List Int} {ls : List (List Int)} (hc : IsL rows cv cs) (hl : IsLL rows lv ls) (hcs : ∀ x ∈ cs, 0 ≤ x ∧ x ≤ 1000) (hls : ls.length ≤ 1000000) (hr : ∀ l ∈ ls, l.length ≤ 1000 ∧ ∀ g ∈ l, 0 ≤ g ∧ g < cs.length) : ∀ (n i : Nat) (H : List Row), ls.length - i = n → i ≤ ls.length →
    Lc33l2 F (.fn [.t 4]) cv lv (accV rows H ((ls.take i).map (sumG cs))) (.int .i64 i) (rows ++ accR H ((ls.take i).map (sumG cs))) rows.length (fun r => fin rows r.1 r.2.1 r.2.2 = newL rows (ls.map (sumG cs))) := by
  intro n
  induction n with
  | zero =>
    intro i H hn hi
    have e : ls.take i = ls := List.take_of_length_le (by omega)
    rw [e]
    unfold Lc33l2
    simp [lenLL hl, show ¬ (i < ls.length) from by omega]
    exact acc_fin
  | succ n ih =>
    intro i H hn hi
    have hi : i < ls.length := by omega
    unfold Lc33l2
    simp [lenLL hl, hi]
    have := rprices_in hc hl hcs hls hi (hr _ (gLL_mem hi)) (H := H) (acc := (ls.take i).map (sumG cs)) (by simp; omega) (r := fun r => fin rows r.1 r.2.1 r.2.2 = newL rows (ls.map (sumG cs))) (fun H' => by
      have := ih (i + 1) H' (by omega) (by omega)
      rw [List.take_add_one, gLL_get hi] at this
      simpa using this) _ 0 rfl (by omega)
    simpa [sumG] using this
/-- The reference's Prices. -/
theorem rprices_ret {cv lv : AV} {cs : List Int} {ls : List (List Int)} (hc : IsL rows cv cs) (hl : IsLL rows lv ls) (hcs : ∀ x ∈ cs, 0 ≤ x ∧ x ≤ 1000) (hls : ls.length ≤ 1000000) (hr : ∀ l ∈ ls, l.length ≤ 1000 ∧ ∀ g ∈ l, 0 ≤ g ∧ g < cs.length) : Ret F 33 [cv, lv] rows = some (newL rows (ls.map (sumG cs))) := by
  refine i33 F33 ?_
  have := rprices_out hc hl hcs hls hr _ 0 [] rfl (by omega)
  simp
  simpa [accV, accR] using this
end
end Go.Abs

set_option linter.unusedVariables false
set_option linter.unusedSimpArgs false
namespace Go.Abs
open Rd (Cp IsL_one IsL_cells IsL_tail lowO_n)
section
variable {rows : List Row}
theorem seg_nums (l : List Int) : seg (nums .i64 l) 0 l.length = some (nums .i64 l) := by
  unfold seg; simp [nums, List.take_of_length_le]
end
end Go.Abs

set_option linter.unusedVariables false
set_option linter.unusedSimpArgs false
namespace Go.Abs
open Rd (Cp IsL_one IsL_cells IsL_tail lowO_n)
/-- A new list's value, and its row. -/
def nlV (n : Nat) (l : List Int) : AV := match l with
  | [] => .nilslice
  | x :: l => .slice n 0 (l.length + 1) (.op 1)
def nlK (l : List Int) : List Row := match l with
  | [] => []
  | x :: l => [.cells (nums .i64 (x :: l))]
theorem nlV_IsL (B : List Row) (l : List Int) (L : List Row) : IsL (B ++ (nlK l ++ L)) (nlV B.length l) l := by
  cases l with
  | nil => exact IsL_nil
  | cons x l =>
    rw [← List.append_assoc]
    exact IsL_app (IsL_new (L := []) rfl) L
theorem nlK_under (l : List Int) : (nlK l).all (Row.under 0) = true := by
  cases l with
  | nil => rfl
  | cons x l => simp [nlK, Row.under, AV.under, nums]
end Go.Abs

set_option linter.unusedVariables false
set_option linter.unusedSimpArgs false
namespace Go.Abs
open Rd (Cp IsL_one IsL_cells IsL_tail lowO_n)
/-- The reference's 'opened'. -/
def opn (p : List Int) : Nat → Nat → Int → Int → Option (List (List Int) × Nat)
  | m, at_, a, b =>
    if a = b then some ([[]], at_) else
    match m with
    | 0 => none
    | m + 1 =>
      if at_ < p.length ∧ a ≤ gI p at_ ∧ gI p at_ < b then
        match opn p m (at_ + 1) a (gI p at_) with
        | none => none
        | some (x, n1) =>
          match opn p m n1 (gI p at_ + 1) b with
          | none => none
          | some (y, n2) => some ((x ++ y).map (gI p at_ :: ·), n2)
      else none
theorem opn_len {p : List Int} : ∀ (m at_ : Nat) (a b : Int) (ls : List (List Int)) (n : Nat), opn p m at_ a b = some (ls, n) → a ≤ b → at_ ≤ p.length → at_ ≤ n ∧ n ≤ p.length ∧ (ls.length : Int) = b - a + 1 ∧ ∀ l ∈ ls, (l.length : Int) ≤ b - a ∧ ∀ g ∈ l, a ≤ g ∧ g < b := by
  intro m
  induction m with
  | zero =>
    intro at_ a b ls n h hab hat
    unfold opn at h
    by_cases he : a = b
    · subst he
      simp only [if_true, Option.some.injEq, Prod.mk.injEq] at h
      obtain ⟨rfl, rfl⟩ := h
      refine ⟨by omega, hat, by simp, fun l hl => ?_⟩
      simp only [List.mem_singleton] at hl
      subst hl
      simp
    · simp [he] at h
  | succ m ih =>
    intro at_ a b ls n h hab hat
    unfold opn at h
    by_cases he : a = b
    · subst he
      simp only [if_true, Option.some.injEq, Prod.mk.injEq] at h
      obtain ⟨rfl, rfl⟩ := h
      refine ⟨by omega, hat, by simp, fun l hl => ?_⟩
      simp only [List.mem_singleton] at hl
      subst hl
      simp
    · simp only [he, if_false] at h
      split at h
      · rename_i hc
        cases hx : opn p m (at_ + 1) a (gI p at_) with
        | none => simp [hx] at h
        | some q1 =>
          obtain ⟨x, n1⟩ := q1
          simp only [hx] at h
          cases hy : opn p m n1 (gI p at_ + 1) b with
          | none => simp [hy] at h
          | some q2 =>
            obtain ⟨y, n2⟩ := q2
            simp only [hy, Option.some.injEq, Prod.mk.injEq] at h
            obtain ⟨rfl, rfl⟩ := h
            have i1 := ih _ _ _ _ _ hx hc.2.1 (by omega)
            have i2 := ih _ _ _ _ _ hy (by omega) i1.2.1
            refine ⟨by omega, i2.2.1, by simp; omega, fun l hl => ?_⟩
            obtain ⟨l', hl', rfl⟩ := List.mem_map.1 hl
            rcases List.mem_append.1 hl' with hl' | hl'
            · have := i1.2.2.2 l' hl'
              refine ⟨by simp; omega, fun g hg => ?_⟩
              rcases List.mem_cons.1 hg with rfl | hg
              · exact ⟨by omega, by omega⟩
              · have := this.2 g hg; omega
            · have := i2.2.2.2 l' hl'
              refine ⟨by simp; omega, fun g hg => ?_⟩
              rcases List.mem_cons.1 hg with rfl | hg
              · exact ⟨by omega, by omega⟩
              · have := this.2 g hg; omega
      · simp at h
end Go.Abs

set_option linter.unusedVariables false
set_option linter.unusedSimpArgs false
namespace Go.Abs
open Rd (Cp IsL_one IsL_cells IsL_tail lowO_n)
theorem IsL_set {R : List Row} {v : AV} {l : List Int} (h : IsL R v l) (hl : l ≠ []) {id : Nat} {vs : List AV} (hr : row? R id = some vs) (hv : ∀ x ∈ vs, ∀ k n, x ≠ .int k n) : IsL (R.set id .dead) v l := by
  rcases El_cases h with ⟨_, h0, _⟩ | ⟨id', off, c, us, rfl, hr', hs⟩
  · cases l with
    | nil => exact absurd rfl hl
    | cons x l => simp [nums] at h0
  · by_cases he : id' = id
    · subst he
      rw [hr] at hr'
      injection hr' with hr'
      subst hr'
      cases l with
      | nil => exact absurd rfl hl
      | cons x l =>
        exfalso
        have hm : AV.int .i64 x ∈ vs := by
          unfold seg at hs
          split at hs
          · injection hs with hs
            have : AV.int .i64 x ∈ (vs.drop off).take ((x :: l).length * 1) := by rw [hs]; simp [nums]
            exact List.mem_of_mem_drop (List.mem_of_mem_take this)
          · simp at hs
        exact hv _ hm _ _ rfl
    · have : row? (R.set id .dead) id' = some us := by
        unfold row? at hr' ⊢
        rw [List.getElem?_set_ne (fun e => he e.symm)]
        exact hr'
      exact IsL_mk (n := 0) this (by simpa using hs)
theorem IsL_under {R : List Row} {v : AV} {l : List Int} (h : IsL R v l) : v.under R.length = true := by
  rcases El_cases h with ⟨rfl, _, _⟩ | ⟨id', off, c, us, rfl, hr', hs⟩
  · rfl
  · have := row?_lt hr'
    simp [AV.under, this]
theorem IsL_slice {R : List Row} {v : AV} {l : List Int} (h : IsL R v l) (hl : l ≠ []) : ∀ k n, v ≠ .int k n := by
  rcases El_cases h with ⟨rfl, _, _⟩ | ⟨id', off, c, us, rfl, hr', hs⟩
  · intro k n e; cases e
  · intro k n e; cases e
/-- A list with one number ahead. -/
theorem row_app {R : List Row} {v : AV} {l : List Int} {g : Int} {low : Nat} (h : IsL R v l) (hl : l.length ≤ 1000) : ∃ rv H1, evE (R ++ [.cells [.int .i64 g]]) low (.app 1 8 (.c (.slice R.length 0 1 (.at_ 1))) (.c v)) = some (rv, R ++ H1, low) ∧ IsL (R ++ H1) rv (g :: l) ∧ H1.all (Row.under 0) = true := by
  have hrow : row? (R ++ [.cells [.int .i64 g]]) R.length = some [.int .i64 g] := by unfold row?; simp
  cases l with
  | nil =>
    refine ⟨.slice R.length 0 1 (.at_ 1), [.cells [.int .i64 g]], ?_, ?_, by simp [Row.under, AV.under]⟩
    · rw [app_0 (ys := nums .i64 []) (show El _ 1 v (nums .i64 []) 0 from IsL_app h _) (.inr ⟨_, _, _, _, rfl⟩)]
    · exact IsL_mk (n := 0) (l := [g]) hrow (by simp [seg, nums])
  | cons x l =>
    have hx : El (R ++ [.cells [.int .i64 g]]) 1 v (nums .i64 (x :: l)) (x :: l).length := IsL_app h _
    refine ⟨.slice (R.length + 1) 0 (1 + (x :: l).length) (.op 1), [.cells [.int .i64 g], .cells (nums .i64 (g :: x :: l))], ?_, ?_, by simp [Row.under, AV.under, nums]⟩
    · rw [app_at (n := 1) (xs := [.int .i64 g]) hrow (by simp [seg]) hx (by simp) (by simp [lim] at *; omega) (by simp)]
      simp [nums]
    · have : IsL (R ++ [.cells [.int .i64 g], .cells (nums .i64 (g :: x :: l))]) (.slice (R.length + 1) 0 (g :: x :: l).length (.op 1)) (g :: x :: l) :=
        IsL_mk (n := 0) (vs := nums .i64 (g :: x :: l)) (by unfold row?; simp) (seg_nums _)
      rwa [show (g :: x :: l).length = 1 + (x :: l).length from by simp; omega] at this
/-- The lists so far. -/
def Acc (B H : List Row) (ov : AV) (acc : List (List Int)) : Prop :=
  (acc = [] ∧ ov = .nilslice) ∨ ∃ j vs, ov = .slice (B.length + j) 0 acc.length (.op 1) ∧ H[j]? = some (.cells vs) ∧ vs.length = acc.length ∧ acc ≠ [] ∧ ∀ i, i < acc.length → IsL (B ++ H) (gA vs i) (gLL acc i) ∧ gLL acc i ≠ []
def Und (B H : List Row) : Prop := ∀ y ∈ H, y.under (B.length + H.length) = true
theorem und_mono {y : Row} {a b : Nat} (h : y.under a = true) (hab : a ≤ b) : y.under b = true := Sh.runder_mono hab h
theorem acc_step {B H H1 : List Row} {ov rv : AV} {acc : List (List Int)} {l : List Int} {low : Nat} (ha : Acc B H ov acc) (hu : Und B H) (hu1 : H1.all (Row.under 0) = true) (hrv : IsL (B ++ (H ++ H1)) rv l) (hl : l ≠ []) (hlow : low ≤ B.length) (hlen : acc.length ≤ 1000) :
    ∃ ov' H', evE (B ++ (H ++ H1) ++ [.cells [rv]]) low (.app 1 24 (.c ov) (.c (.slice (B ++ (H ++ H1)).length 0 1 (.at_ 1)))) = some (ov', B ++ H', low) ∧ Acc B H' ov' (acc ++ [l]) ∧ Und B H' := by
  have htmp : El (B ++ (H ++ H1) ++ [.cells [rv]]) 1 (.slice (B ++ (H ++ H1)).length 0 1 (.at_ 1)) [rv] 1 := by
    have : row? (B ++ (H ++ H1) ++ [.cells [rv]]) (B ++ (H ++ H1)).length = some [rv] := by unfold row?; simp
    unfold El elems
    simp only [this]
    rfl
  have hru := IsL_under hrv
  rcases ha with ⟨rfl, rfl⟩ | ⟨j, vs, rfl, hj, hvl, hne, hvs⟩
  · refine ⟨.slice (B.length + (H.length + H1.length + 1)) 0 1 (.op 1), H ++ H1 ++ [.cells [rv], .cells [rv]], ?_, .inr ⟨H.length + H1.length + 1, [rv], rfl, ?_, rfl, by simp, ?_⟩, ?_⟩
    · rw [app_nil htmp (by omega) (by simp [lim])]
      simp [Nat.add_assoc]
    · rw [List.getElem?_append_right (by simp <;> omega)]
      simp [show H.length + H1.length + 1 - (H.length + H1.length) = 1 from by omega]
    · intro i hi
      have : i = 0 := by simpa using hi
      subst this
      refine ⟨?_, hl⟩
      have := IsL_app hrv [.cells [rv], .cells [rv]]
      simpa [gA, gLL] using this
    · intro y hy
      simp only [List.mem_append, List.mem_cons, List.not_mem_nil, or_false] at hy
      rcases hy with (hy | hy) | hy
      · exact und_mono (hu y hy) (by simp <;> omega)
      · exact und_mono (List.all_eq_true.1 hu1 y hy) (by omega)
      · have hy : y = .cells [rv] := by rcases hy with h | h <;> exact h
        subst hy
        refine und_mono (a := (B ++ (H ++ H1)).length) ?_ (by simp)
        simp [Row.under, hru]
        simpa using hru
  · have hvi : ∀ x ∈ vs, ∀ k n, x ≠ .int k n := by
      intro x hx
      obtain ⟨i, hi⟩ := List.mem_iff_getElem?.1 hx
      have hi' : i < vs.length := (List.getElem?_eq_some_iff.1 hi).1
      have := hvs i (by omega)
      rw [gA_get hi'] at hi
      injection hi with hi
      rw [← hi]
      exact IsL_slice this.1 this.2
    have hjl : j < H.length := (List.getElem?_eq_some_iff.1 hj).1
    have hcell : cells? (B ++ (H ++ H1) ++ [.cells [rv]]) (B.length + j) = some vs := by
      unfold cells?
      rw [List.append_assoc, List.getElem?_append_right (by omega), Nat.add_sub_cancel_left, List.append_assoc, List.getElem?_append_left hjl, hj]
    have hrow : row? (B ++ (H ++ H1) ++ [.cells [rv]]) (B.length + j) = some vs := cells?_row hcell
    have hsv : seg vs 0 (acc.length * 1) = some vs := by
      unfold seg; rw [if_pos (by omega)]; simp [List.take_of_length_le, hvl]
    have hkeep : ∀ {v : AV} {q : List Int}, IsL (B ++ (H ++ H1)) v q → q ≠ [] → IsL (B ++ ((H ++ H1 ++ [Row.cells [rv]]).set j .dead ++ [.cells (vs ++ [rv])])) v q := by
      intro v q hq hq0
      have h1 := IsL_set (IsL_app hq [.cells [rv]]) hq0 hrow hvi
      have h2 := IsL_app h1 [.cells (vs ++ [rv])]
      have e : (B ++ (H ++ H1) ++ [Row.cells [rv]]).set (B.length + j) .dead ++ [.cells (vs ++ [rv])] = B ++ ((H ++ H1 ++ [Row.cells [rv]]).set j .dead ++ [.cells (vs ++ [rv])]) := by
        rw [List.append_assoc B, List.set_append_right _ _ (by omega), Nat.add_sub_cancel_left, List.append_assoc]
      rwa [e] at h2
    refine ⟨.slice (B.length + (H.length + H1.length + 1)) 0 (acc.length + 1) (.op 1), (H ++ H1 ++ [Row.cells [rv]]).set j .dead ++ [.cells (vs ++ [rv])], ?_, .inr ⟨H.length + H1.length + 1, vs ++ [rv], by simp, ?_, by simp [hvl], by simp, ?_⟩, ?_⟩
    · rw [app_op hcell hsv htmp (by omega) (by simp [lim]; omega), lower_ge (by omega)]
      rw [List.append_assoc B, List.set_append_right _ _ (by omega), Nat.add_sub_cancel_left]
      simp [Nat.add_assoc]
    · rw [List.getElem?_append_right (by simp <;> omega)]
      simp [Nat.add_assoc]
    · intro i hi
      simp only [List.length_append, List.length_singleton] at hi
      by_cases hi2 : i < acc.length
      · have h3 := hvs i hi2
        have e1 : gA (vs ++ [rv]) i = gA vs i := by simp [gA, List.getElem?_append_left (show i < vs.length by omega)]
        have e2 : gLL (acc ++ [l]) i = gLL acc i := by simp [gLL, List.getElem?_append_left hi2]
        rw [e1, e2]
        refine ⟨hkeep ?_ h3.2, h3.2⟩
        have := IsL_app h3.1 H1
        rwa [List.append_assoc] at this
      · have : i = acc.length := by omega
        subst this
        have e1 : gA (vs ++ [rv]) acc.length = rv := by simp [gA, ← hvl]
        have e2 : gLL (acc ++ [l]) acc.length = l := by simp [gLL]
        rw [e1, e2]
        exact ⟨hkeep hrv hl, hl⟩
    · have hvu : ∀ x ∈ vs, x.under (B.length + H.length) = true := by
        have := hu _ (List.mem_of_getElem? hj)
        simp only [Row.under, List.all_eq_true] at this
        exact this
      have hlenH : ((H ++ H1 ++ [Row.cells [rv]]).set j .dead ++ [Row.cells (vs ++ [rv])]).length = H.length + H1.length + 2 := by simp; omega
      intro y hy
      rw [hlenH]
      rcases List.mem_append.1 hy with hy | hy
      · rcases List.mem_or_eq_of_mem_set hy with hy | rfl
        · simp only [List.mem_append, List.mem_singleton] at hy
          rcases hy with (hy | hy) | rfl
          · exact und_mono (hu y hy) (by omega)
          · exact und_mono (List.all_eq_true.1 hu1 y hy) (by omega)
          · refine und_mono (a := (B ++ (H ++ H1)).length) ?_ (by simp <;> omega)
            simp [Row.under]
            simpa using hru
        · rfl
      · rw [List.mem_singleton] at hy
        subst hy
        simp only [Row.under, List.all_eq_true, List.mem_append, List.mem_singleton]
        rintro x (hx | rfl)
        · exact Sh.under_mono (by omega) (hvu x hx)
        · exact Sh.under_mono (b := (B ++ (H ++ H1)).length) (by simp <;> omega) hru
end Go.Abs

set_option linter.unusedVariables false
set_option linter.unusedSimpArgs false
namespace Go.Abs
open Rd (Cp IsL_one IsL_cells IsL_tail lowO_n)
section
variable {B : List Row} {low : Nat} {xv yv ev : AV} {x y : List (List Int)} {g : Int} {r : AV × List Row × Nat → Prop}
theorem opened_loop (hlow : low ≤ B.length) (hx : IsLL B xv x) (hy : IsLL B yv y) (hn : x.length + y.length ≤ 100) (hxl : ∀ l ∈ x, l.length ≤ 1000) (hyl : ∀ l ∈ y, l.length ≤ 1000)
    (hend : ∀ H' ov', Acc B H' ov' ((x ++ y).map (g :: ·)) → Und B H' → r (.tup [ov', ev, .bool true], B ++ H', low)) : ∀ (n i : Nat) (H : List Row) (ov : AV), x.length + y.length - i = n → i ≤ x.length + y.length → Acc B H ov (((x ++ y).take i).map (g :: ·)) → Und B H →
    Lc64l2 F (.fn [.t 8, .t 9, .t 10]) (.int .i64 g) xv yv ev ov (.int .i64 i) (B ++ H) low r := by
  have hlx := lenLL hx
  have hly := lenLL hy
  obtain ⟨xs, hxE, hxI⟩ := hx
  obtain ⟨ys, hyE, hyI⟩ := hy
  have hxsl : xs.length = x.length := by simpa using El_len hxE
  have hysl : ys.length = y.length := by simpa using El_len hyE
  have ws : IntKind.i64.wrap ((x.length : Int) + y.length) = x.length + y.length := wrap64 (by omega) (by omega)
  intro n
  induction n with
  | zero =>
    intro i H ov hn0 hi ha hu
    have e : (x ++ y).take i = x ++ y := List.take_of_length_le (by simp; omega)
    rw [e] at ha
    have h3 : ¬ ((i : Int) < x.length + y.length) := by omega
    unfold Lc64l2
    simp [hlx, hly, ws, h3]
    exact hend H ov ha hu
  | succ n ih =>
    intro i H ov hn0 hi ha hu
    have hi : i < x.length + y.length := by omega
    have h3 : (i : Int) < x.length + y.length := by omega
    have w : IntKind.i64.wrap ((i : Int) + 1) = i + 1 := wrap64 (by omega) (by omega)
    have hacc : (((x ++ y).take i).map (g :: ·)).length ≤ 1000 := by simp; omega
    have htake : ∀ l, (x ++ y)[i]? = some l → ((x ++ y).take i).map (g :: ·) ++ [g :: l] = ((x ++ y).take (i + 1)).map (g :: ·) := by
      intro l hl
      rw [List.take_add_one, hl]; simp
    have step : ∀ {v : AV} {l : List Int}, IsL B v l → (x ++ y)[i]? = some l → l.length ≤ 1000 → ∃ rv H1 ov' H', evE (B ++ (H ++ [.cells [.int .i64 g]])) low (.app 1 8 (.c (.slice (B.length + H.length) 0 1 (.at_ 1))) (.c v)) = some (rv, B ++ (H ++ H1), low) ∧ rv.one = true ∧ rv.cells = [rv] ∧
        evE (B ++ (H ++ (H1 ++ [.cells [rv]]))) low (.app 1 24 (.c ov) (.c (.slice (B.length + (H.length + H1.length)) 0 1 (.at_ 1)))) = some (ov', B ++ H', low) ∧ Acc B H' ov' (((x ++ y).take (i + 1)).map (g :: ·)) ∧ Und B H' := by
      intro v l hv hl hll
      obtain ⟨rv, H1, h1, h2, h4⟩ := row_app (R := B ++ H) (g := g) (low := low) (IsL_app hv H) hll
      have h2' : IsL (B ++ (H ++ H1)) rv (g :: l) := by rwa [List.append_assoc] at h2
      obtain ⟨ov', H', h5, h6, h7⟩ := acc_step ha hu h4 h2' (by simp) hlow hacc
      refine ⟨rv, H1, ov', H', by simpa using h1, IsL_one h2, IsL_cells h2, by simpa using h5, ?_, h7⟩
      rw [← htake l hl]; exact h6
    unfold Lc64l2
    by_cases hix : i < x.length
    · have e1 : ∀ L, evP (B ++ L) (.idxS 1 (.c xv) (.c (.int .i64 i))) = some (.ptr (sid xv) (soff xv + i)) := fun L => by
        simpa using evP_idxE (El_app hxE L) (k := .i64) (i := i) (by omega) (by omega)
      have e2 : ∀ L, evP (B ++ L) (.load1 (.c (.ptr (sid xv) (soff xv + i)))) = some (gA xs i) := fun L => by
        rw [evP_loadE (El_app hxE L) (by omega), gA_get (by omega)]
      obtain ⟨rv, H1, ov', H', h1, h2, h2c, h4, h5, h6⟩ := step (hxI i hix) (by rw [List.getElem?_append_left hix, gLL_get hix]) (hxl _ (gLL_mem hix))
      simp (disch := first | omega | (simp; done) | fail) [hlx, hly, ws, h3, hix, w, fillA, splice, e1, e2, h1, h2, h2c, h4]
      have := ih (i + 1) H' ov' (by omega) (by omega) h5 h6
      simpa [w] using this
    · have w3 : IntKind.i64.wrap ((i : Int) - x.length) = ((i - x.length : Nat) : Int) := by rw [wrap64 (by omega) (by omega)]; omega
      have e1 : ∀ L, evP (B ++ L) (.idxS 1 (.c yv) (.c (.int .i64 ((i - x.length : Nat) : Int)))) = some (.ptr (sid yv) (soff yv + (i - x.length))) := fun L => by
        simpa using evP_idxE (El_app hyE L) (k := .i64) (i := ((i - x.length : Nat) : Int)) (by omega) (by omega)
      have e2 : ∀ L, evP (B ++ L) (.load1 (.c (.ptr (sid yv) (soff yv + (i - x.length))))) = some (gA ys (i - x.length)) := fun L => by
        rw [evP_loadE (El_app hyE L) (by omega), gA_get (by omega)]
      obtain ⟨rv, H1, ov', H', h1, h2, h2c, h4, h5, h6⟩ := step (hyI (i - x.length) (by omega)) (by rw [List.getElem?_append_right (by omega), gLL_get (by omega)]) (hyl _ (gLL_mem (by omega)))
      simp (disch := first | omega | (simp; done) | fail) [hlx, hly, ws, h3, hix, w, w3, fillA, splice, e1, e2, h1, h2, h2c, h4]
      have := ih (i + 1) H' ov' (by omega) (by omega) h5 h6
      simpa [w] using this
end
end Go.Abs

set_option linter.unusedVariables false
set_option linter.unusedSimpArgs false
namespace Go.Abs
open Rd (Cp IsL_one IsL_cells IsL_tail lowO_n)
theorem Acc_LL {B H : List Row} {ov : AV} {acc : List (List Int)} (h : Acc B H ov acc) : IsLL (B ++ H) ov acc := by
  rcases h with ⟨rfl, rfl⟩ | ⟨j, vs, rfl, hj, hvl, hne, hvs⟩
  · exact ⟨[], rfl, fun i hi => by simp at hi⟩
  · refine ⟨vs, ?_, fun i hi => (hvs i hi).1⟩
    have hr : row? (B ++ H) (B.length + j) = some vs := by
      refine cells?_row ?_
      unfold cells?
      rw [List.getElem?_append_right (by omega), Nat.add_sub_cancel_left, hj]
    unfold El elems
    simp only [hr]
    unfold seg
    rw [if_pos (by omega)]
    simp [List.take_of_length_le, hvl]
theorem Acc_fin {rows X H : List Row} {ov : AV} {acc : List (List Int)} (h : Acc (rows ++ X) H ov acc) (hne : acc ≠ []) {k : IntKind} {e : Int} {t : Bool} : fin rows (.tup [ov, .int k e, .bool t]) (rows ++ X ++ H) rows.length = (.tup [ov, .int k e, .bool t], rows ++ (X ++ H), none) := by
  rcases h with ⟨rfl, rfl⟩ | ⟨j, vs, rfl, hj, hvl, _, hvs⟩
  · exact absurd rfl hne
  · have hpos : 0 < acc.length := List.length_pos_iff.2 hne
    have h0 := hvs 0 hpos
    have hall : vs.all (·.ids.isEmpty) = false := by
      rw [List.all_eq_false]
      refine ⟨gA vs 0, List.mem_of_getElem? (gA_get (by omega)), ?_⟩
      rcases El_cases h0.1 with ⟨_, h1, _⟩ | ⟨id', off, c, us, e, _, _⟩
      · cases hq : gLL acc 0 with
        | nil => exact absurd hq h0.2
        | cons z q => rw [hq] at h1; simp [nums] at h1
      · rw [e]; simp [AV.ids]
    have hr : (rows ++ (X ++ H))[rows.length + (X.length + j)]? = some (.cells vs) := by
      rw [List.getElem?_append_right (by omega), Nat.add_sub_cancel_left, List.getElem?_append_right (by omega), Nat.add_sub_cancel_left, hj]
    unfold fin
    simp [AV.ids, AV.ids.idsL, hr, hall, Nat.add_assoc]
    intro hh; omega
theorem Und_app {rows X H : List Row} (h1 : Und rows X) (h2 : Und (rows ++ X) H) : Und rows (X ++ H) := by
  intro y hy
  rcases List.mem_append.1 hy with hy | hy
  · exact und_mono (h1 y hy) (by simp <;> omega)
  · exact und_mono (h2 y hy) (by simp <;> omega)
/-- A slice in a new row. -/
def Shp (rows X : List Row) (lv : AV) : Prop := ∃ j n c vs, lv = .slice (rows.length + j) 0 n c ∧ X[j]? = some (.cells vs)
theorem Acc_Shp {rows X H : List Row} {ov : AV} {acc : List (List Int)} (h : Acc (rows ++ X) H ov acc) (hne : acc ≠ []) : Shp rows (X ++ H) ov := by
  rcases h with ⟨rfl, rfl⟩ | ⟨j, vs, rfl, hj, hvl, _, hvs⟩
  · exact absurd rfl hne
  · refine ⟨X.length + j, acc.length, .op 1, vs, by simp [Nat.add_assoc], ?_⟩
    rw [List.getElem?_append_right (by omega), Nat.add_sub_cancel_left, hj]
theorem fin_LL {rows X : List Row} {lv : AV} {ls : List (List Int)} {t : Bool} (hs : Shp rows X lv) (hl : IsLL (rows ++ X) lv ls) (hu : Und rows X) : ∃ lv' X', fin rows (.tup [lv, .bool t]) (rows ++ X) rows.length = (.tup [lv', .bool t], rows ++ X', none) ∧ IsLL (rows ++ X') lv' ls ∧ Und rows X' := by
  obtain ⟨j, n, c, vs, rfl, hj⟩ := hs
  have hr : (rows ++ X)[rows.length + j]? = some (.cells vs) := by
    rw [List.getElem?_append_right (by omega), Nat.add_sub_cancel_left, hj]
  by_cases hall : vs.all (·.ids.isEmpty) = true
  · refine ⟨.slice rows.length 0 n c, [.cells vs], ?_, ?_, ?_⟩
    · unfold fin
      simp [AV.ids, AV.ids.idsL, hr, hall, AV.plain1, AV.plain, AV.ren1, AV.ren]
    · obtain ⟨us, hE, hI⟩ := hl
      rcases El_cases hE with ⟨h0, _⟩ | ⟨id', off, c', ws, he, hrow, hseg⟩
      · cases h0
      · injection he with e1 e2 e3 e4
        subst e1 e2 e3 e4
        have : ws = vs := by
          have := cells?_row (rows := rows ++ X) (i := rows.length + j) (vs := vs) (by unfold cells?; rw [hr])
          rw [hrow] at this
          injection this
        subst this
        have hrow' : row? (rows ++ [.cells ws]) rows.length = some ws := by unfold row?; simp
        refine ⟨us, ?_, fun i hi => ?_⟩
        · unfold El elems
          simp only [hrow', hseg]
          rfl
        · have h1 := hI i hi
          have hmem : gA us i ∈ ws := by
            have hul := El_len hE
            have : gA us i ∈ us := List.mem_of_getElem? (gA_get (by omega))
            unfold seg at hseg
            split at hseg
            · injection hseg with hseg
              rw [show us = ((ws.drop 0).take (ls.length * 1)) from hseg.symm] at this ⊢
              exact List.mem_of_mem_drop (List.mem_of_mem_take this)
            · simp at hseg
          have hid := List.all_eq_true.1 hall _ hmem
          rcases El_cases h1 with ⟨e, e2, _⟩ | ⟨id', off, c', us', e, _, _⟩
          · have : gLL ls i = [] := by
              cases hq : gLL ls i with
              | nil => rfl
              | cons z q => rw [hq] at e2; simp [nums] at e2
            rw [e, this]; exact IsL_nil
          · rw [e] at hid; simp [AV.ids] at hid
    · intro y hy
      rw [List.mem_singleton] at hy
      subst hy
      have hy := hu _ (List.mem_of_getElem? hj)
      simp only [Row.under, List.all_eq_true] at hy ⊢
      intro x hx
      have hid := List.all_eq_true.1 hall x hx
      have hid : x.ids = [] := by simpa using hid
      simp [AV.under, hid]
  · have hall : vs.all (·.ids.isEmpty) = false := by simpa using hall
    refine ⟨.slice (rows.length + j) 0 n c, X, ?_, hl, hu⟩
    unfold fin
    simp [AV.ids, AV.ids.idsL, hr, hall]
    intro hh; omega
theorem opened_ret {p : List Int} (hpl : p.length < 4611686018427387904) {v : AV} : ∀ (m : Nat) (rows : List Row) (at_ : Nat) (a b : Int), IsL rows v p → 0 ≤ a → a ≤ b → b ≤ 12 → at_ ≤ p.length → b - a ≤ m →
    match opn p m at_ a b with
    | none => Ret F 64 [v, .int .i64 at_, .int .i64 a, .int .i64 b] rows = some (.tup [.nilslice, .int .i64 at_, .bool false], rows, none)
    | some (ls, n) => ∃ lv X, Ret F 64 [v, .int .i64 at_, .int .i64 a, .int .i64 b] rows = some (.tup [lv, .int .i64 n, .bool true], rows ++ X, none) ∧ IsLL (rows ++ X) lv ls ∧ Und rows X ∧ Shp rows X lv := by
  have base : ∀ (rows : List Row) (at_ : Nat) (a : Int), ∃ lv X, Ret F 64 [v, .int .i64 at_, .int .i64 a, .int .i64 a] rows = some (.tup [lv, .int .i64 at_, .bool true], rows ++ X, none) ∧ IsLL (rows ++ X) lv [[]] ∧ Und rows X ∧ Shp rows X lv := by
    intro rows at_ a
    refine ⟨.slice rows.length 0 1 (.at_ 1), [.cells [.nilslice]], ?_, ⟨[.nilslice], ?_, ?_⟩, ?_, ⟨0, 1, .at_ 1, _, rfl, rfl⟩⟩
    · refine i64 F64 ?_
      simp [-uc64s36, jc64s36, fillA, splice]
      simp [fin, AV.plain1, AV.plain, AV.ren1, AV.ren, AV.ids, AV.ids.idsL]
    · have : row? (rows ++ [.cells [.nilslice]]) rows.length = some [.nilslice] := by unfold row?; simp
      unfold El elems
      simp only [this]
      rfl
    · intro i hi
      have : i = 0 := by simpa using hi
      subst this
      exact IsL_nil
    · intro y hy
      rw [List.mem_singleton] at hy
      subst hy
      rfl
  intro m
  induction m with
  | zero =>
    intro rows at_ a b h h0 h1 h2 h3 h4
    have : a = b := by omega
    subst this
    unfold opn
    simp only [if_true]
    exact base rows at_ a
  | succ m ih =>
    intro rows at_ a b h h0 h1 h2 h3 h4
    unfold opn
    by_cases he : a = b
    · subst he
      simp only [if_true]
      exact base rows at_ a
    · simp only [he, if_false]
      by_cases hc : at_ < p.length ∧ a ≤ gI p at_ ∧ gI p at_ < b
      · rw [if_pos hc]
        have w1 : IntKind.i64.wrap ((at_ : Int) + 1) = (at_ : Int) + 1 := wrap64 (by omega) (by omega)
        have c1 : ((at_ + 1 : Nat) : Int) = (at_ : Int) + 1 := by omega
        have hs : ∀ {R : AV × List Row × Option Nat → Prop}, (Jc64s32 F (.fn [.t 8, .t 9, .t 10]) v (.int .i64 at_) (.int .i64 a) (.int .i64 b) rows rows.length fun r => R (fin rows r.1 r.2.1 r.2.2)) → ∃ q, Ret F 64 [v, .int .i64 at_, .int .i64 a, .int .i64 b] rows = some q ∧ R q := by
          intro R hq
          refine Ret_mk' F64 (show Ex F (.fn [.t 8, .t 9, .t 10]) [.code c64b] ⟨mk 113 [(0, v), (1, .int .i64 at_), (2, .int .i64 a), (3, .int .i64 b)], rows, rows.length⟩ (fun r => R (fin rows r.1 r.2.1 r.2.2)) from ?_)
          simp [-uc64s36, jc64s36, he]
          unfold Jc64s36
          simp (disch := first | omega | (simp; done) | fail) [-uc64s32, jc64s32, lenL0 h, idxL0 h, loadL0 h, hc.1, show ¬ (gI p at_ < a) from by omega, show ¬ (b ≤ gI p at_) from by omega, show ¬ (p.length ≤ at_) from by omega]
          exact hq
        have hL := ih rows (at_ + 1) a (gI p at_) h h0 hc.2.1 (by omega) (by omega) (by omega)
        cases hx : opn p m (at_ + 1) a (gI p at_) with
        | none =>
          simp only [hx] at hL
          rw [c1] at hL
          dsimp only
          obtain ⟨q, hq, rfl⟩ := hs (R := fun z => z = (.tup [.nilslice, .int .i64 at_, .bool false], rows, none)) (by
            unfold Jc64s32
            simp (disch := first | omega | (simp; done) | fail) [-uc64s24, jc64s24, lenL0 h, idxL0 h, loadL0 h, hc.1, w1]
            rw [hL]
            simp [-uc64s24, jc64s24])
          exact hq
        | some q1 =>
          obtain ⟨x, n1⟩ := q1
          simp only [hx] at hL
          rw [c1] at hL
          obtain ⟨xv, X1, e1, hxL, hu1, _⟩ := hL
          have l1 := opn_len _ _ _ _ _ _ hx hc.2.1 (by omega)
          have wg : IntKind.i64.wrap (gI p at_ + 1) = gI p at_ + 1 := wrap64 (by omega) (by omega)
          have hR := ih (rows ++ X1) n1 (gI p at_ + 1) b (IsL_app h X1) (by omega) (by omega) h2 l1.2.1 (by omega)
          have hs2 : ∀ {R : AV × List Row × Option Nat → Prop}, (Jc64s24 F (.fn [.t 8, .t 9, .t 10]) v (.int .i64 at_) (.int .i64 b) (.int .i64 (gI p at_)) xv (.int .i64 n1) (rows ++ X1) rows.length fun r => R (fin rows r.1 r.2.1 r.2.2)) → ∃ q, Ret F 64 [v, .int .i64 at_, .int .i64 a, .int .i64 b] rows = some q ∧ R q := by
            intro R hq
            refine hs ?_
            unfold Jc64s32
            simp (disch := first | omega | (simp; done) | fail) [-uc64s24, jc64s24, lenL0 h, idxL0 h, loadL0 h, hc.1, w1]
            rw [e1]
            simp [-uc64s24, jc64s24, -lowO, lowO_n]
            exact hq
          dsimp only
          cases hy : opn p m n1 (gI p at_ + 1) b with
          | none =>
            simp only [hy] at hR
            dsimp only
            obtain ⟨q, hq, rfl⟩ := hs2 (R := fun z => z = (.tup [.nilslice, .int .i64 at_, .bool false], rows, none)) (by
              unfold Jc64s24
              simp (disch := first | omega | (simp; done) | fail) [-uc64s18, jc64s18, wg]
              rw [hR]
              simp [-uc64s18, jc64s18, -lowO, lowO_n])
            exact hq
          | some q2 =>
            obtain ⟨y, n2⟩ := q2
            simp only [hy] at hR
            obtain ⟨yv, X2, e2, hyL, hu2, _⟩ := hR
            have l2 := opn_len _ _ _ _ _ _ hy (by omega) l1.2.1
            dsimp only
            have hlen : ((x ++ y).map (gI p at_ :: ·)) ≠ [] := by
              intro e
              have h5 := congrArg List.length e
              rw [List.length_map, List.length_append, List.length_nil] at h5
              have := l1.2.2.1
              omega
            have hU : Und rows (X1 ++ X2) := Und_app hu1 hu2
            obtain ⟨H', ov', hA, hU', hq⟩ : ∃ H' ov', Acc (rows ++ X1 ++ X2) H' ov' ((x ++ y).map (gI p at_ :: ·)) ∧ Und (rows ++ X1 ++ X2) H' ∧ Ret F 64 [v, .int .i64 at_, .int .i64 a, .int .i64 b] rows = some (.tup [ov', .int .i64 n2, .bool true], rows ++ (X1 ++ X2 ++ H'), none) := by
              have hxb := l1.2.2.2
              have hyb := l2.2.2.2
              have hlp := opened_loop (B := rows ++ X1 ++ X2) (low := rows.length) (xv := xv) (yv := yv) (ev := .int .i64 n2) (g := gI p at_) (r := fun r => (fun z : AV × List Row × Option Nat => ∃ H' ov', Acc (rows ++ X1 ++ X2) H' ov' ((x ++ y).map (gI p at_ :: ·)) ∧ Und (rows ++ X1 ++ X2) H' ∧ z = (.tup [ov', .int .i64 n2, .bool true], rows ++ (X1 ++ X2 ++ H'), none)) (fin rows r.1 r.2.1 r.2.2)) (by simp <;> omega) (IsLL_app hxL X2) hyL (by have := l1.2.2.1; have := l2.2.2.1; omega)
                (fun l hl => by have := (hxb l hl).1; omega) (fun l hl => by have := (hyb l hl).1; omega)
                (fun H' ov' hA hU' => ⟨H', ov', hA, hU', by
                  have hA2 := hA
                  rw [List.append_assoc rows] at hA2
                  have := Acc_fin hA2 hlen (k := .i64) (e := n2) (t := true)
                  rw [← List.append_assoc rows] at this
                  simpa using this⟩) _ 0 [] .nilslice rfl (by omega) (.inl ⟨by simp, rfl⟩) (fun y hy => by simp at hy)
              obtain ⟨q, hq, H', ov', hA, hU', rfl⟩ := hs2 (R := fun z : AV × List Row × Option Nat => ∃ H' ov', Acc (rows ++ X1 ++ X2) H' ov' ((x ++ y).map (gI p at_ :: ·)) ∧ Und (rows ++ X1 ++ X2) H' ∧ z = (.tup [ov', .int .i64 n2, .bool true], rows ++ (X1 ++ X2 ++ H'), none)) (by
                unfold Jc64s24
                simp (disch := first | omega | (simp; done) | fail) [-uc64s18, jc64s18, wg, -List.append_assoc]
                rw [e2]
                simp [-uc64s18, jc64s18, -lowO, lowO_n, -List.append_assoc]
                unfold Jc64s18
                simp [-List.append_assoc]
                simpa [-List.append_assoc] using hlp)
              exact ⟨H', ov', hA, hU', hq⟩
            rw [List.append_assoc rows] at hA hU'
            refine ⟨ov', X1 ++ X2 ++ H', hq, ?_, Und_app hU hU', Acc_Shp hA hlen⟩
            have := Acc_LL hA
            rwa [List.append_assoc] at this
      · rw [if_neg hc]
        refine i64 F64 ?_
        simp [-uc64s36, jc64s36, he]
        unfold Jc64s36
        by_cases h5 : at_ < p.length
        · by_cases h6 : gI p at_ < a
          · simp (disch := first | omega | (simp; done) | fail) [-uc64s32, jc64s32, lenL0 h, idxL0 h, loadL0 h, h5, h6, show ¬ (p.length ≤ at_) from by omega]
          · simp (disch := first | omega | (simp; done) | fail) [-uc64s32, jc64s32, lenL0 h, idxL0 h, loadL0 h, h5, h6, show ¬ (p.length ≤ at_) from by omega, show b ≤ gI p at_ from by omega]
        · simp (disch := first | omega | (simp; done) | fail) [-uc64s32, jc64s32, lenL0 h, h5, show p.length ≤ at_ from by omega]
/-- The reference's Opened. -/
def opnAll (p : List Int) (n : Nat) : Option (List (List Int)) := match opn p n 0 0 n with
  | some (ls, k) => if k = p.length then some ls else none
  | none => none
theorem Opened_ret {p : List Int} (hpl : p.length < 4611686018427387904) {v : AV} {rows : List Row} {n : Nat} (h : IsL rows v p) (hn : n ≤ 12) :
    match opn p n 0 0 n with
    | none => Ret F 31 [.int .i64 n, v] rows = some (.tup [.nilslice, .bool false], rows, none)
    | some (ls, k) => ∃ lv X, Ret F 31 [.int .i64 n, v] rows = some (.tup [lv, .bool (decide (k = p.length))], rows ++ X, none) ∧ IsLL (rows ++ X) lv ls ∧ Und rows X := by
  have h1 := opened_ret hpl n rows 0 0 n h (by omega) (by omega) (by omega) (by omega) (by omega)
  cases ho : opn p n 0 0 n with
  | none =>
    simp only [ho] at h1
    refine i31 F31 ?_
    have h2 : Ret F 64 [v, .int .i64 0, .int .i64 0, .int .i64 n] rows = some (.tup [.nilslice, .int .i64 0, .bool false], rows, none) := h1
    simp [h2]
  | some q =>
    obtain ⟨ls, k⟩ := q
    simp only [ho] at h1
    obtain ⟨lv, X, h2, h3, h4, h5⟩ := h1
    have h2' : Ret F 64 [v, .int .i64 0, .int .i64 0, .int .i64 n] rows = some (.tup [lv, .int .i64 k, .bool true], rows ++ X, none) := h2
    obtain ⟨lv', X', h6, h7, h8⟩ := fin_LL (t := decide (k = p.length)) h5 h3 h4
    refine ⟨lv', X', ?_, h7, h8⟩
    refine i31 F31 ?_
    simp [h2', lenL h, -lowO, lowO_n, -decide_eq_decide]
    have e7 : decide ((k : Int) = p.length) = decide (k = p.length) := by simp only [decide_eq_decide]; omega
    rw [e7]
    simpa using h6
end Go.Abs

set_option linter.unusedVariables false
set_option linter.unusedSimpArgs false
namespace Go.Abs
open Rd (Cp IsL_one IsL_cells IsL_tail lowO_n)
section
variable {rows T : List Row} {r : AV × List Row × Nat → Prop}
/-- A gate's cost is added to the pieces from a to b. -/
def addP (c : List Int) (f : Nat → Int) (g a b : Int) : Nat → Int := fun j => if a ≤ (j : Int) ∧ (j : Int) ≤ b then IntKind.i64.wrap (f j + gI c g.toNat) else f j
set_option maxHeartbeats 4000000 in
theorem prices_in {cv : AV} {c : List Int} {n N : Nat} {a b g : Int} (h : IsL rows cv c) (hn : n ≤ 12) (hg0 : 0 ≤ g) (hg : g < c.length) (ha : 0 ≤ a) (hb : b ≤ n)
    (hN : ∀ o s, row? (rows ++ (.cells [cv] :: o :: s :: T)) N = some [.int .i64 a, .int .i64 b]) : ∀ (m : Nat) (i : Nat) (f : Nat → Int) (low : Nat), (b + 1 - i).toNat = m → (i : Int) ≤ b + 1 → rows.length + 1 ≤ low →
    r (.tup [], rows ++ (.cells [cv] :: .cells (nums .i64 (tab (n + 1) (addP c f g i b))) :: .cells [.slice (rows.length + 1) 0 (n + 1) (.at_ (n + 1))] :: T), if (i : Int) ≤ b then rows.length + 1 else low) →
    Lc88l0 F (.fn []) (.int .i64 g) (.ptr (rows.length + 2) 0) (.ptr rows.length 0) (.ptr N 0) (.int .i64 i) (rows ++ (.cells [cv] :: .cells (nums .i64 (tab (n + 1) f)) :: .cells [.slice (rows.length + 1) 0 (n + 1) (.at_ (n + 1))] :: T)) low r := by
  intro m
  induction m with
  | zero =>
    intro i f low hm h1 hlow hr
    have hi : ¬ ((i : Int) ≤ b) := by omega
    have e : tab (n + 1) (addP c f g i b) = tab (n + 1) f := tab_congr fun j _ => by unfold addP; rw [if_neg (by omega)]
    rw [e, if_neg hi] at hr
    unfold Lc88l0
    simp [hN, hi]
    exact hr
  | succ m ih =>
    intro i f low hm h1 hlow hr
    have hi : (i : Int) ≤ b := by omega
    have hin : i < n + 1 := by omega
    have w1 : IntKind.i64.wrap ((i : Int) + 1) = i + 1 := wrap64 (by omega) (by omega)
    have hlw : lower low (rows.length + 1) = rows.length + 1 := by unfold lower; split <;> omega
    unfold Lc88l0
    simp (disch := first | omega | (simp; done) | fail) [hN, hi, hin, idxL h, loadL h, w1, hlw]
    have := ih (i + 1) (fun j => if j = i then IntKind.i64.wrap (f i + gI c g.toNat) else f j) (rows.length + 1) (by omega) (by omega) (Nat.le_refl _) (by
      rw [if_pos hi] at hr
      have e : tab (n + 1) (addP c (fun j => if j = i then IntKind.i64.wrap (f i + gI c g.toNat) else f j) g ((i + 1 : Nat) : Int) b) = tab (n + 1) (addP c f g i b) := tab_congr fun j _ => by
        unfold addP
        dsimp only
        by_cases e1 : j = i
        · subst e1
          rw [if_neg (by omega), if_pos rfl, if_pos (by omega)]
        · rw [if_neg e1]
          by_cases e2 : ((i + 1 : Nat) : Int) ≤ j ∧ (j : Int) ≤ b
          · rw [if_pos e2, if_pos (by omega)]
          · rw [if_neg e2, if_neg (by omega)]
      rw [e]
      split <;> exact hr)
    rw [tab_set]
    simpa using this

/-- Prices: what 'read' is given. -/
def DP (rows : List Row) (cv : AV) (c : List Int) : Rd (Nat → Int) (Nat → Int) where
  R0 := rows ++ [.cells [cv]]
  E f := [.cells (nums .i64 (tab (c.length + 1) f)), .cells [.slice (rows.length + 1) 0 (c.length + 1) (.at_ (c.length + 1))]]
  eN := 2
  nb := c.length
  lo := rows.length
  own _ := []
  fid := 88
  cs := [.ptr (rows.length + 2) 0, .ptr rows.length 0]
  st := addP c
  P t s h := t = s ∧ rows.length + 2 ≤ h.length
  B _ _ := True
theorem DP_H (rows : List Row) (cv : AV) (c : List Int) (f : Nat → Int) (pv w : AV) (G : List Row) : (DP rows cv c).H f pv w G = rows ++ (.cells [cv] :: .cells (nums .i64 (tab (c.length + 1) f)) :: .cells [.slice (rows.length + 1) 0 (c.length + 1) (.at_ (c.length + 1))] :: ((DP rows cv c).Q pv w ++ G)) := by
  simp [Rd.H, DP]
theorem DP_ok {cv : AV} {c : List Int} (h : IsL rows cv c) (hn : c.length ≤ 12) : (DP rows cv c).OK := by
  refine ⟨fun _ _ _ _ _ _ => trivial, fun _ _ _ _ _ => trivial, hn, by simp [DP], ?_, ?_, ?_, ?_, ?_, ?_, ?_⟩
  · intro t s h i hP hi; simp [DP] at hi
  · intro s; rfl
  · intro t s h L hP; exact ⟨hP.1, by simp; exact Nat.le_trans hP.2 (by omega)⟩
  · intro t s pv pv' w G hP
    refine ⟨hP.1, ?_⟩
    have := hP.2
    rw [DP_H] at this ⊢
    simp [Rd.Q] at this ⊢
  · intro t s h b hP hb hu
    refine ⟨hP.1, ?_⟩
    have := hP.2
    simp [DP, Row.under, AV.under] at hu
    simp
    omega
  · intro t s h hP
    have := hP.2
    simp [DP, Row.under, AV.under]
    omega
  · intro t s pv w G g a b hP _ h0 ha hg hb
    obtain ⟨rfl, hlen⟩ := hP
    have hb' : b ≤ (c.length : Int) := hb
    obtain ⟨i, rfl⟩ : ∃ i : Nat, a = i := ⟨a.toNat, by omega⟩
    have hl := DP_H rows cv c t pv w G
    have hN : ∀ o s, row? (rows ++ (.cells [cv] :: o :: s :: ((DP rows cv c).Q pv w ++ G ++ [.cells [.int .i64 i, .int .i64 b]]))) ((DP rows cv c).H t pv w G).length = some [.int .i64 i, .int .i64 b] := by
      intro o s
      have e : rows ++ (.cells [cv] :: o :: s :: ((DP rows cv c).Q pv w ++ G ++ [.cells [.int .i64 i, .int .i64 b]])) = (rows ++ (.cells [cv] :: o :: s :: ((DP rows cv c).Q pv w ++ G))) ++ [.cells [.int .i64 i, .int .i64 b]] := by simp
      rw [e]
      exact rowA0 (by rw [hl]; simp)
    have hlt : rows.length + 1 < ((DP rows cv c).H t pv w G).length := by rw [hl]; simp [Rd.Q]
    have hloop := fun r hr => prices_in (r := r) (T := (DP rows cv c).Q pv w ++ G ++ [.cells [.int .i64 i, .int .i64 b]]) h hn (by omega : 0 ≤ g) (by omega) h0 hb' hN _ i t ((DP rows cv c).H t pv w G).length rfl (by omega) (by omega) hr
    have hfin : ∃ G', fin ((DP rows cv c).H t pv w G) (.tup []) ((DP rows cv c).H (addP c t g i b) pv w (G ++ [.cells [.int .i64 i, .int .i64 b]])) (rows.length + 1) = (.tup [], (DP rows cv c).H (addP c t g i b) pv w G', some (rows.length + 1)) ∧ ∃ L, G' = G ++ L := by
      rw [fin_lt (by omega)]
      rcases gc_cases ((DP rows cv c).H t pv w G).length (rows.length + 1) (.tup []) ((DP rows cv c).H (addP c t g i b) pv w (G ++ [.cells [.int .i64 i, .int .i64 b]])) with e | ⟨e, _⟩
      · exact ⟨_, by rw [e], _, rfl⟩
      · refine ⟨G, ?_, [], by simp⟩
        rw [e]
        have e2 : ((DP rows cv c).H (addP c t g i b) pv w (G ++ [.cells [.int .i64 i, .int .i64 b]])) = (DP rows cv c).H (addP c t g i b) pv w G ++ [.cells [.int .i64 i, .int .i64 b]] := by simp [Rd.H]
        rw [e2, List.take_append_of_le_length (by rw [hl, DP_H]; simp), List.take_of_length_le (by rw [hl, DP_H]; simp)]
    obtain ⟨G', hf, L, hL⟩ := hfin
    refine ⟨addP c t g i b, G', some (rows.length + 1), ?_, ⟨rfl, ?_⟩, ⟨?_, ?_, fun i hi => by simp [DP] at hi⟩, .inr ⟨_, rfl, by simp [DP], by simp [DP]⟩⟩
    · show Ret F 88 [.int .i64 g, pt i b, .ptr (rows.length + 2) 0, .ptr rows.length 0] _ = _
      refine i88 F88 ?_
      simp [seg]
      have := hloop (fun r => fin ((DP rows cv c).H t pv w G) r.1 r.2.1 r.2.2 = (.tup [], (DP rows cv c).H (addP c t g i b) pv w G', some (rows.length + 1))) (by
        rw [if_pos (by omega)]
        rw [← hf, DP_H rows cv c (addP c t g i b)]
        simp)
      rw [hl] at this ⊢
      simpa using this
    · rw [DP_H]; simp
    · rw [hL, hl, DP_H]; simp
    · intro j hj1 hj2 _
      rw [hL, hl, DP_H]
      rw [hl] at hj1
      have hA : (DP rows cv c).A = rows.length + 3 := by simp [Rd.A, DP]
      have e3 : ∀ o, ∀ L' : List Row, (rows ++ (.cells [cv] :: .cells o :: .cells [.slice (rows.length + 1) 0 (c.length + 1) (.at_ (c.length + 1))] :: L'))[j]? = L'[j - (rows.length + 3)]? := by
        intro o L'
        rw [List.getElem?_append_right (by omega), show j - rows.length = (j - (rows.length + 3)) + 3 from by omega]
        rfl
      rw [e3, e3, ← List.append_assoc, List.getElem?_append_left]
      simp at hj1 ⊢
      omega

/-- What prices comes to: none, if it is no plan. -/
def pricesF (c l : List Int) : Option (Nat → Int) :=
  match rdP (addP c) c.length 0 c.length l (fun _ => 0) with
  | (true, [], f) => some f
  | _ => none
set_option maxHeartbeats 2000000 in
/-- search.prices. -/
theorem prices_ret {cv pv : AV} {c l : List Int} (hc : IsL rows cv c) (hn : c.length ≤ 12) (hl : IsL rows pv l) (hp : Cp 1 pv) : Ret F 61 [cv, pv] rows = some (match pricesF c l with
    | some f => (.slice rows.length 0 (c.length + 1) (.at_ (c.length + 1)), rows ++ [.cells (nums .i64 (tab (c.length + 1) f))], none)
    | none => (.nilslice, rows, none)) := by
  have hR0 : (DP rows cv c).R0 = rows ++ [.cells [cv]] := rfl
  obtain ⟨s', G', d, hr, hP, hd⟩ := Rd.read_ret (DP_ok hc hn) (n := c.length) (Nat.le_refl _) (l := l) (t := fun _ => 0) (s := fun _ => 0) (pv := pv) (by rw [hR0]; exact IsL_app hl _) hp ⟨rfl, by simp [DP]⟩ trivial
  have hz : (DP rows cv c).R0 ++ (DP rows cv c).E (fun _ => 0) = rows ++ [.cells [cv], .cells (nums .i64 (tab (c.length + 1) fun _ => 0)), .cells [.slice (rows.length + 1) 0 (c.length + 1) (.at_ (c.length + 1))]] := by simp [DP]
  have hs : (DP rows cv c).R0 ++ (DP rows cv c).E s' ++ G' = rows ++ (.cells [cv] :: .cells (nums .i64 (tab (c.length + 1) s')) :: .cells [.slice (rows.length + 1) 0 (c.length + 1) (.at_ (c.length + 1))] :: G') := by simp [DP]
  rw [hz, hs] at hr
  have hs' := hP.1
  have hlow : lowO rows.length d = rows.length := by
    rcases hd with ⟨rfl, _⟩ | ⟨lw, rfl, h1, _⟩
    · rfl
    · exact lower_ge h1
  have e0 : tab (c.length + 1) (fun _ => 0) = List.replicate (c.length + 1) 0 := by simp [tab, List.map_const']
  rw [e0] at hr
  have hone := IsL_one hc
  have hcell := IsL_cells hc
  have wl : IntKind.i64.wrap ((c.length : Int) + 1) = c.length + 1 := wrap64 (by omega) (by omega)
  have hl1 : (c.length : Int) + 1 ≤ 1073741824 := by omega
  have hl0 : 0 ≤ (c.length : Int) + 1 := by omega
  have hwh : ∀ L, Ret F 60 [cv] (rows ++ L) = some (pt 0 c.length, rows ++ L, none) := fun L => whole_ret (IsL_app hc L)
  have hr' : Ret F 62 [pv, pt 0 c.length, .func 88 [.ptr (rows.length + 2) 0, .ptr rows.length 0]] (rows ++ [.cells [cv], .cells (nums .i64 (List.replicate (c.length + 1) 0)), .cells [.slice (rows.length + 1) 0 (c.length + 1) (.at_ (c.length + 1))]]) = _ := hr
  unfold pricesF
  refine i61 F61 ?_
  have hst : (DP rows cv c).st = addP c := rfl
  rw [hst] at hr' hs'
  generalize rdP (addP c) c.length 0 c.length l (fun _ => 0) = r1 at *
  obtain ⟨ok, l1, f⟩ := r1
  simp only at hs' hr' ⊢
  subst hs'
  cases ok with
  | false =>
    simp [-lowO, lowO_n, hone, hcell, lenL hc, wl, lim, hl1, hl0, nums_rep, hwh, hr', hlow]
  | true =>
    cases l1 with
    | nil =>
      simp [-lowO, lowO_n, hone, hcell, lenL hc, wl, lim, hl1, hl0, nums_rep, hwh, hr', hlow]
      exact fin_slice (k := 1) rfl nums_ids
    | cons x y =>
      simp [-lowO, lowO_n, hone, hcell, lenL hc, wl, lim, hl1, hl0, nums_rep, hwh, hr', hlow]

/-- search.Prices, of costs that are right. -/
theorem Prices_ret {cv pv : AV} {c l : List Int} (hc : IsL rows cv c) (hn : c.length ≤ 12) (hall : (c.all fun x => decide (1 ≤ x ∧ x ≤ 1000)) = true) (hl : IsL rows pv l) (hp : Cp 1 pv) : Ret F 29 [cv, pv] rows = some (match pricesF c l with
    | some f => (.tup [.slice rows.length 0 (c.length + 1) (.at_ (c.length + 1)), .int .i64 0], rows ++ [.cells (nums .i64 (tab (c.length + 1) f))], none)
    | none => (.tup [.nilslice, .int .i64 1], rows, none)) := by
  have h1 := Check_ret hc (by omega)
  rw [if_pos ⟨hn, hall⟩] at h1
  have h2 := prices_ret hc hn hl hp
  refine i29 F29 ?_
  cases e : pricesF c l with
  | none =>
    rw [e] at h2
    simp [h1, h2]
  | some f =>
    rw [e] at h2
    simp [h1, h2]
    exact fin_slice_int (k := 0) rfl nums_ids
end
end Go.Abs

set_option linter.unusedVariables false
set_option linter.unusedSimpArgs false
namespace Go.Abs
open Rd (Cp IsL_one IsL_cells IsL_tail lowO_n)
section
variable {rows T : List Row}
def addA (piece : Int) (t : List Int) (g a b : Int) : List Int := if a ≤ piece ∧ piece ≤ b then t ++ [g] else t
/-- Answer: what 'read' is given. -/
def DA (rows : List Row) (piece : Int) (n : Nat) : Rd (List Int) AV where
  R0 := rows ++ [.cells [.int .i64 piece]]
  E v := [.cells [v]]
  eN := 1
  nb := n
  lo := rows.length
  own v := match v with
    | .slice id _ _ _ => [id]
    | _ => []
  fid := 63
  cs := [.ptr rows.length 0, .ptr (rows.length + 1) 0]
  st := addA piece
  P t v h := (t = [] ∧ v = .nilslice) ∨ ∃ id, v = .slice id 0 t.length (.op 1) ∧ rows.length + 6 ≤ id ∧ cells? h id = some (nums .i64 t) ∧ t ≠ []
  B t k := t.length + k ≤ 1000
theorem DA_H (rows : List Row) (piece : Int) (n : Nat) (v pv w : AV) (G : List Row) : (DA rows piece n).H v pv w G = rows ++ (.cells [.int .i64 piece] :: .cells [v] :: ((DA rows piece n).Q pv w ++ G)) := by
  simp [Rd.H, DA]
theorem cells?_lt {rows : List Row} {i : Nat} {vs : List AV} (h : cells? rows i = some vs) : i < rows.length := row?_lt (cells?_row h)
theorem DA_ok {piece : Int} {n : Nat} (hn : n ≤ 12) : (DA rows piece n).OK := by
  have hA : (DA rows piece n).A = rows.length + 2 := by simp [Rd.A, DA]
  have hget : ∀ v pv w G i, rows.length + 6 ≤ i → ((DA rows piece n).H v pv w G)[i]? = G[i - (rows.length + 6)]? := by
    intro v pv w G i hi
    rw [DA_H, List.getElem?_append_right (by omega), show i - rows.length = (i - (rows.length + 6)) + 6 from by omega]
    rfl
  refine ⟨?_, fun t k j h1 h2 => (by have h1 : t.length + k ≤ 1000 := h1; show t.length + j ≤ 1000; omega), hn, by simp [DA], ?_, ?_, ?_, ?_, ?_, ?_, ?_⟩
  · intro t k g a b h1
    have h1 : t.length + (k + 1) ≤ 1000 := h1
    show (addA piece t g a b).length + k ≤ 1000
    unfold addA
    split
    · simp; omega
    · omega
  · intro t s h i hP hi
    rcases hP with ⟨_, rfl⟩ | ⟨id, rfl, h1, h2, h3⟩
    · simp [DA] at hi
    · simp [DA] at hi; subst hi; exact cells?_lt h2
  · intro s; rfl
  · intro t s h L hP
    rcases hP with e | ⟨id, e, h1, h2, h3⟩
    · exact .inl e
    · exact .inr ⟨id, e, h1, cells?_old h2 L, h3⟩
  · intro t s pv pv' w G hP
    rcases hP with e | ⟨id, e, h1, h2, h3⟩
    · exact .inl e
    · refine .inr ⟨id, e, h1, ?_, h3⟩
      unfold cells? at h2 ⊢
      rwa [hget _ _ _ _ _ h1] at h2 ⊢
  · intro t s h b hP hb hu
    rcases hP with e | ⟨id, e, h1, h2, h3⟩
    · exact .inl e
    · refine .inr ⟨id, e, h1, ?_, h3⟩
      subst e
      simp [DA, Row.under, AV.under] at hu
      unfold cells? at h2 ⊢
      rwa [List.getElem?_take, if_pos hu]
  · intro t s h hP
    rcases hP with ⟨_, rfl⟩ | ⟨id, rfl, h1, h2, h3⟩
    · simp [DA, Row.under, AV.under]
    · have := cells?_lt h2
      simp [DA, Row.under, AV.under]
      exact this
  · intro t v pv w G g a b hP hB h0 ha hg hb
    have hB : t.length + 1 ≤ 1000 := hB
    have hl := DA_H rows piece n v pv w G
    have hlen : ((DA rows piece n).H v pv w G).length = rows.length + 6 + G.length := by rw [hl]; simp [Rd.Q]; omega
    by_cases hc : a ≤ piece ∧ piece ≤ b
    · have hst : (DA rows piece n).st t g a b = t ++ [g] := by simp [DA, addA, hc]
      rw [hst]
      have e1 : ∀ L, row? ((DA rows piece n).H v pv w G ++ L) rows.length = some [.int .i64 piece] := fun L => by rw [hl]; simp
      have e2 : ∀ L, row? ((DA rows piece n).H v pv w G ++ L) (rows.length + 1) = some [v] := fun L => by rw [hl]; simp
      have hone : v.one = true := by
        rcases hP with ⟨_, rfl⟩ | ⟨id, rfl, _⟩ <;> rfl
      have htmp : ∀ x : Int, El ((DA rows piece n).H v pv w G ++ [.cells [.int .i64 a, .int .i64 b], .cells [.int .i64 x]]) 1 (.slice (((DA rows piece n).H v pv w G).length + 1) 0 1 (.at_ 1)) (nums .i64 [x]) 1 := by
        intro x
        have : row? ((DA rows piece n).H v pv w G ++ [.cells [.int .i64 a, .int .i64 b], .cells [.int .i64 x]]) (((DA rows piece n).H v pv w G).length + 1) = some [.int .i64 x] := by simp
        unfold El elems
        simp only [this]
        rfl
      have hlw : lower ((DA rows piece n).H v pv w G).length (rows.length + 1) = rows.length + 1 := lower_lt (by omega)
      -- the end: nothing is dropped
      have hend : ∀ G', ((DA rows piece n).H v pv w G).length < ((DA rows piece n).H (.slice (((DA rows piece n).H v pv w G).length + 2) 0 (t.length + 1) (.op 1)) pv w G').length → fin ((DA rows piece n).H v pv w G) (.tup []) ((DA rows piece n).H (.slice (((DA rows piece n).H v pv w G).length + 2) 0 (t.length + 1) (.op 1)) pv w G') (rows.length + 1) = (.tup [], (DA rows piece n).H (.slice (((DA rows piece n).H v pv w G).length + 2) 0 (t.length + 1) (.op 1)) pv w G', some (rows.length + 1)) := by
        intro G' hlt
        rw [fin_lt (by omega)]
        rcases gc_cases ((DA rows piece n).H v pv w G).length (rows.length + 1) (.tup []) ((DA rows piece n).H (.slice (((DA rows piece n).H v pv w G).length + 2) 0 (t.length + 1) (.op 1)) pv w G') with e | ⟨e, hu⟩
        · rw [e]
        · exfalso
          have e5 : ((((DA rows piece n).H (.slice (((DA rows piece n).H v pv w G).length + 2) 0 (t.length + 1) (.op 1)) pv w G').take ((DA rows piece n).H v pv w G).length).drop (rows.length + 1))[0]? = some (.cells [.slice (((DA rows piece n).H v pv w G).length + 2) 0 (t.length + 1) (.op 1)]) := by
            rw [List.getElem?_drop, Nat.add_zero, List.getElem?_take, if_pos (by omega), DA_H _ _ _ (.slice _ _ _ _)]
            simp
          have e6 := List.all_eq_true.1 hu _ (List.mem_of_getElem? e5)
          simp [Row.under, AV.under] at e6
          try omega
      have happ : ∀ v L, (DA rows piece n).H v pv w G ++ L = (DA rows piece n).H v pv w (G ++ L) := fun v L => Rd.H_app _ _ _ _ _
      have hset : ∀ v v' G, ((DA rows piece n).H v pv w G).set (rows.length + 1) (.cells [v']) = (DA rows piece n).H v' pv w G := fun v v' G => by
        rw [DA_H, rows_set, DA_H]; rfl
      have hcs : ∀ v G, cells? ((DA rows piece n).H v pv w G) (rows.length + 1) = some [v] := fun v G => by rw [DA_H]; simp
      have hsetA : ∀ v v' G L, ((DA rows piece n).H v pv w G ++ L).set (rows.length + 1) (.cells [v']) = (DA rows piece n).H v' pv w G ++ L := fun v v' G L => by rw [Rd.H_app, hset, ← Rd.H_app]
      have hcsA : ∀ v G L, cells? ((DA rows piece n).H v pv w G ++ L) (rows.length + 1) = some [v] := fun v G L => cells?_old (hcs v G) L
      have hl3 : ∀ v G, ((DA rows piece n).H v pv w G).length = rows.length + 6 + G.length := fun v G => by rw [DA_H]; simp [Rd.Q]; omega
      have ht1 : t.length + 1 ≤ lim := by simp [lim]; omega
      generalize hv' : AV.slice (((DA rows piece n).H v pv w G).length + 2) 0 (t.length + 1) (.op 1) = v' at *
      have hv1 : v'.one = true := by rw [← hv']; rfl
      have key : ∀ G2 : List Row, G2.length = G.length → (∀ i, i ∉ (DA rows piece n).own v → rows.length + 6 ≤ i → G2[i - (rows.length + 6)]? = G[i - (rows.length + 6)]?) →
          Ret F 63 [.int .i64 g, pt a b, .ptr rows.length 0, .ptr (rows.length + 1) 0] ((DA rows piece n).H v pv w G) = some (.tup [], (DA rows piece n).H v' pv w (G2 ++ [.cells [.int .i64 a, .int .i64 b], .cells [.int .i64 g], .cells (nums .i64 (t ++ [g]))]), some (rows.length + 1)) →
          ∃ s' G' d, Ret F (DA rows piece n).fid ([.int .i64 g, pt a b] ++ (DA rows piece n).cs) ((DA rows piece n).H v pv w G) = some (.tup [], (DA rows piece n).H s' pv w G', d) ∧ (DA rows piece n).P (t ++ [g]) s' ((DA rows piece n).H s' pv w G') ∧ (DA rows piece n).Fr v ((DA rows piece n).H v pv w G) s' ((DA rows piece n).H s' pv w G') ∧ ((d = none ∧ s' = v) ∨ ∃ lw, d = some lw ∧ (DA rows piece n).lo ≤ lw ∧ lw ≤ (DA rows piece n).R0.length) := by
        intro G2 hG2 hG3 hr
        have hlen2 : ((DA rows piece n).H v' pv w (G2 ++ [.cells [.int .i64 a, .int .i64 b], .cells [.int .i64 g], .cells (nums .i64 (t ++ [g]))])).length = rows.length + 6 + G.length + 3 := by rw [DA_H]; simp [Rd.Q, hG2]; omega
        refine ⟨v', _, some (rows.length + 1), hr, .inr ⟨rows.length + 6 + G.length + 2, by rw [← hv', hlen]; simp, by omega, ?_, by simp⟩, ⟨by omega, ?_, ?_⟩, .inr ⟨_, rfl, by simp [DA], by simp [DA]⟩⟩
        · unfold cells?
          rw [hget _ _ _ _ _ (by omega), List.getElem?_append_right (by omega), show rows.length + 6 + G.length + 2 - (rows.length + 6) - G2.length = 2 from by omega]
          rfl
        · intro i h1 h2 h3
          rw [hA] at h2
          rw [hget _ _ _ _ _ (by omega), hget _ _ _ _ _ (by omega), List.getElem?_append_left (by omega)]
          exact hG3 i h3 (by omega)
        · intro i hi
          have hi' : i ∈ [((DA rows piece n).H v pv w G).length + 2] := by rw [← hv'] at hi; exact hi
          rw [List.mem_singleton] at hi'
          exact .inr (by omega)
      rcases hP with ⟨rfl, rfl⟩ | ⟨id, rfl, hid, hcl, hne⟩
      · refine key G rfl (fun _ _ _ => rfl) ?_
        refine i63 F63 ?_
        have hf := hend (G ++ [.cells [.int .i64 a, .int .i64 b], .cells [.int .i64 g], .cells (nums .i64 [g])]) (by rw [hlen, hl3]; simp)
        rw [← happ] at hf ⊢
        simp [hc.1, hc.2, e1, e2, fillA, splice, app_nil (htmp g) (by omega) (by simp [lim]), hlw, hcsA, hsetA, hv1]
        rw [show AV.slice (((DA rows piece n).H .nilslice pv w G).length + 2) 0 1 (.op 1) = v' from hv']
        exact hf
      · have hk : G[id - (rows.length + 6)]? = some (.cells (nums .i64 t)) := by
          have := cells?_get hcl
          rwa [hget _ _ _ _ _ hid] at this
        have hkl : id - (rows.length + 6) < G.length := (List.getElem?_eq_some_iff.1 hk).1
        have hsd : ∀ v L, ((DA rows piece n).H v pv w G ++ L).set id .dead = (DA rows piece n).H v pv w (G.set (id - (rows.length + 6)) .dead) ++ L := fun v L => by
          rw [List.set_append_left _ _ (by rw [hl3]; omega), DA_H, DA_H, List.set_append_right _ _ (by omega), show id - rows.length = (id - (rows.length + 6)) + 6 from by omega]
          rfl
        refine key (G.set (id - (rows.length + 6)) .dead) (by simp) (fun i h1 h2 => ?_) ?_
        · rw [List.getElem?_set_ne]
          simp [DA] at h1
          omega
        · refine i63 F63 ?_
          have hf := hend (G.set (id - (rows.length + 6)) .dead ++ [.cells [.int .i64 a, .int .i64 b], .cells [.int .i64 g], .cells (nums .i64 (t ++ [g]))]) (by rw [hlen, hl3]; simp)
          rw [← Rd.H_app] at hf ⊢
          have hcl2 := fun L => cells?_old hcl L
          have hap := fun low => app_op (low := low) (sz := 1) (b := 8) (off := 0) (hcl2 [.cells [.int .i64 a, .int .i64 b], .cells [.int .i64 g]]) (by rw [Nat.mul_one]; exact nums_all rfl) (htmp g) (by omega) ht1
          have hlw2 : lower (lower ((DA rows piece n).H (.slice id 0 t.length (.op 1)) pv w G).length id) (rows.length + 1) = rows.length + 1 := lower_lt (by unfold lower; split <;> omega)
          simp [hc.1, hc.2, e1, e2, fillA, splice, hap, hlw2, hcsA, hsetA, hv1, hsd]
          rw [show AV.slice (((DA rows piece n).H (.slice id 0 t.length (.op 1)) pv w G).length + 2) 0 (t.length + 1) (.op 1) = v' from hv']
          exact hf
    · have hst : (DA rows piece n).st t g a b = t := by simp [DA, addA, hc]
      rw [hst]
      refine ⟨v, G, none, ?_, hP, Rd.Fr.refl, .inl ⟨rfl, rfl⟩⟩
      show Ret F 63 [.int .i64 g, pt a b, .ptr rows.length 0, .ptr (rows.length + 1) 0] _ = _
      refine i63 F63 ?_
      have e1 : ∀ L, row? ((DA rows piece n).H v pv w G ++ L) rows.length = some [.int .i64 piece] := fun L => by rw [hl]; simp
      by_cases h1 : a ≤ piece
      · simp [h1, show ¬ piece ≤ b from fun e => hc ⟨h1, e⟩, e1]
      · simp [h1, e1]

/-- What Answer comes to: none, if it is no plan. -/
def answerF (n : Nat) (piece : Int) (l : List Int) : Option (List Int) :=
  match rdP (addA piece) n 0 n l [] with
  | (true, [], t) => some t
  | _ => none
set_option maxHeartbeats 2000000 in
/-- search.Answer, of costs that are right. -/
theorem Answer_ret {cv pv : AV} {c l : List Int} {piece : Int} (hc : IsL rows cv c) (hn : c.length ≤ 12) (hall : (c.all fun x => decide (1 ≤ x ∧ x ≤ 1000)) = true) (hl : IsL rows pv l) (hp : Cp 1 pv) : Ret F 30 [cv, pv, .int .i64 piece] rows = some (match answerF c.length piece l with
    | some t => if 0 ≤ piece ∧ piece ≤ c.length then (match t with
      | [] => (.tup [.nilslice, .int .i64 0], rows, none)
      | _ => (.tup [.slice rows.length 0 t.length (.op 1), .int .i64 0], rows ++ [.cells (nums .i64 t)], none)) else (.tup [.nilslice, .int .i64 1], rows, none)
    | none => (.tup [.nilslice, .int .i64 1], rows, none)) := by
  have h1 : ∀ L, Ret F 46 [cv] (rows ++ L) = some (.int .i64 0, rows ++ L, none) := fun L => by
    have := Check_ret (IsL_app hc L) (by omega)
    rwa [if_pos ⟨hn, hall⟩] at this
  have hR0 : (DA rows piece c.length).R0 = rows ++ [.cells [.int .i64 piece]] := rfl
  obtain ⟨s', G', d, hr, hP, hd⟩ := Rd.read_ret (DA_ok (rows := rows) (piece := piece) hn) (n := c.length) (Nat.le_refl _) (l := l) (t := []) (s := .nilslice) (pv := pv) (by rw [hR0]; exact IsL_app hl _) hp (.inl ⟨rfl, rfl⟩) (by show 0 + c.length ≤ 1000; omega)
  have hz : (DA rows piece c.length).R0 ++ (DA rows piece c.length).E .nilslice = rows ++ [.cells [.int .i64 piece], .cells [.nilslice]] := by simp [DA]
  have hs : (DA rows piece c.length).R0 ++ (DA rows piece c.length).E s' ++ G' = rows ++ (.cells [.int .i64 piece] :: .cells [s'] :: G') := by simp [DA]
  rw [hz, hs] at hr
  rw [hs] at hP
  have hlow : lowO rows.length d = rows.length := by
    rcases hd with ⟨rfl, _⟩ | ⟨lw, rfl, h1, _⟩
    · rfl
    · exact lower_ge h1
  have hwh : ∀ L, Ret F 60 [cv] (rows ++ L) = some (pt 0 c.length, rows ++ L, none) := fun L => whole_ret (IsL_app hc L)
  have hr' : Ret F 62 [pv, pt 0 c.length, .func 63 [.ptr rows.length 0, .ptr (rows.length + 1) 0]] (rows ++ [.cells [.int .i64 piece], .cells [.nilslice]]) = _ := hr
  have hst : (DA rows piece c.length).st = addA piece := rfl
  rw [hst] at hr' hP
  unfold answerF
  refine i30 F30 ?_
  generalize rdP (addA piece) c.length 0 c.length l [] = r1 at *
  obtain ⟨ok, l1, t⟩ := r1
  simp only at hP hr' ⊢
  cases ok with
  | false => simp [-lowO, lowO_n, h1, hwh, hr', hlow]
  | true =>
    cases l1 with
    | cons x y => simp [-lowO, lowO_n, h1, hwh, hr', hlow]
    | nil =>
      by_cases p1 : piece < 0
      · simp [-lowO, lowO_n, h1, hwh, hr', hlow, p1, show ¬ 0 ≤ piece from by omega]
      · by_cases p2 : (c.length : Int) < piece
        · simp [-lowO, lowO_n, h1, hwh, hr', hlow, p1, p2, lenL hc, show ¬ piece ≤ (c.length : Int) from by omega]
        · rcases hP with ⟨rfl, rfl⟩ | ⟨id, rfl, hid, hcl, hne⟩
          · simp [-lowO, lowO_n, h1, hwh, hr', hlow, p1, p2, lenL hc, show 0 ≤ piece from by omega, show piece ≤ (c.length : Int) from by omega]
          · obtain ⟨k, rfl⟩ : ∃ k, id = rows.length + k := ⟨id - rows.length, by omega⟩
            have hk : (Row.cells [.int .i64 piece] :: Row.cells [.slice (rows.length + k) 0 t.length (.op 1)] :: G')[k]? = some (.cells (nums .i64 t)) := by
              have := cells?_get hcl
              rwa [rows_at] at this
            simp [-lowO, lowO_n, h1, hwh, hr', hlow, p1, p2, lenL hc, show 0 ≤ piece from by omega, show piece ≤ (c.length : Int) from by omega]
            rw [fin_slice_int hk nums_ids]
end
end Go.Abs

set_option linter.unusedVariables false
set_option linter.unusedSimpArgs false
namespace Go.Abs
theorem drop_eq {p : List Int} {k : Nat} (h : k < p.length) : p.drop k = gI p k :: p.drop (k + 1) := by
  rw [List.drop_eq_getElem_cons h, gI_eq h]
theorem gLL_map {ls : List (List Int)} {g : Int} {i : Nat} (h : i < ls.length) : gLL (ls.map (g :: ·)) i = g :: gLL ls i := by
  simp [gLL, h]
theorem gLL_app1 {x y : List (List Int)} {i : Nat} (h : i < x.length) : gLL (x ++ y) i = gLL x i := by
  simp [gLL, List.getElem?_append_left h]
theorem gLL_app2 {x y : List (List Int)} {i : Nat} (h : x.length ≤ i) : gLL (x ++ y) i = gLL y (i - x.length) := by
  simp [gLL, List.getElem?_append_right h]
theorem opn_rdP {p c : List Int} (hcs : ∀ x ∈ c, 0 ≤ x ∧ x ≤ 1000) : ∀ (m at_ : Nat) (a b : Int) (t : Nat → Int), 0 ≤ a → a ≤ b → at_ ≤ p.length → b - a ≤ m → (∀ i : Nat, a ≤ i → (i : Int) ≤ b → 0 ≤ t i ∧ t i ≤ 1000000 - 1000 * m) → m ≤ 100 →
    match opn p m at_ a b with
    | none => (rdP (addP c) m a b (p.drop at_) t).1 = false
    | some (ls, n) => ∃ t', rdP (addP c) m a b (p.drop at_) t = (true, p.drop n, t') ∧ ∀ i : Nat, t' i = if a ≤ i ∧ i ≤ b then t i + sumG c (gLL ls (i - a).toNat) else t i := by
  intro m
  have base : ∀ (at_ : Nat) (a : Int) (t : Nat → Int), 0 ≤ a → ∀ i : Nat, t i = if a ≤ (i : Int) ∧ (i : Int) ≤ a then t i + sumG c (gLL [[]] ((i : Int) - a).toNat) else t i := by
    intro at_ a t h0 i
    split
    · rw [show ((i : Int) - a).toNat = 0 from by omega]
      simp [gLL, sumG]
    · rfl
  induction m with
  | zero =>
    intro at_ a b t h0 h1 h2 h3 hb hm
    have : a = b := by omega
    subst this
    unfold opn
    simp only [if_true]
    exact ⟨t, rfl, base at_ a t h0⟩
  | succ m ih =>
    intro at_ a b t h0 h1 h2 h3 hb hm
    unfold opn
    by_cases he : a = b
    · subst he
      simp only [if_true]
      exact ⟨t, by simp [rdP], base at_ a t h0⟩
    · simp only [he, if_false]
      by_cases hc : at_ < p.length ∧ a ≤ gI p at_ ∧ gI p at_ < b
      · rw [if_pos hc]
        have hr : ∀ t, rdP (addP c) (m + 1) a b (p.drop at_) t = match rdP (addP c) m a (gI p at_) (p.drop (at_ + 1)) (addP c t (gI p at_) a b) with
          | (false, l', t') => (false, l', t')
          | (true, l', t') => rdP (addP c) m (gI p at_ + 1) b l' t' := by
          intro t
          rw [drop_eq hc.1]
          simp only [rdP, he, if_false]
          rw [if_neg (by omega)]
          rcases rdP (addP c) m a (gI p at_) (p.drop (at_ + 1)) (addP c t (gI p at_) a b) with ⟨z1, z2, z3⟩
          cases z1 <;> rfl
        have hc1 : 0 ≤ gI c (gI p at_).toNat ∧ gI c (gI p at_).toNat ≤ 1000 := by
          by_cases hk : (gI p at_).toNat < c.length
          · exact hcs _ (gI_mem hk)
          · have e0 : gI c (gI p at_).toNat = 0 := by
              unfold gI
              rw [List.getD_eq_getElem?_getD, List.getElem?_eq_none (by unfold gI at hk; omega)]; rfl
            rw [e0]; omega
        have hadd : ∀ i : Nat, a ≤ (i : Int) → (i : Int) ≤ b → addP c t (gI p at_) a b i = t i + gI c (gI p at_).toNat := by
          intro i hi1 hi2
          have := hb i hi1 hi2
          simp only [addP, hi1, hi2, and_self, if_true]
          exact wrap64 (by omega) (by omega)
        have i1 := ih (at_ + 1) a (gI p at_) (addP c t (gI p at_) a b) h0 hc.2.1 (by omega) (by omega) (fun i hi1 hi2 => by
          rw [hadd i hi1 (by omega)]
          have := hb i hi1 (by omega)
          omega) (by omega)
        rw [hr]
        cases hx : opn p m (at_ + 1) a (gI p at_) with
        | none =>
          simp only [hx] at i1
          dsimp only
          generalize rdP (addP c) m a (gI p at_) (p.drop (at_ + 1)) (addP c t (gI p at_) a b) = z at *
          obtain ⟨z1, z2, z3⟩ := z
          simp only at i1
          subst i1
          rfl
        | some q1 =>
          obtain ⟨x, n1⟩ := q1
          simp only [hx] at i1
          dsimp only
          obtain ⟨t1, e1, f1⟩ := i1
          have l1 := opn_len _ _ _ _ _ _ hx hc.2.1 (by omega)
          rw [e1]
          have i2 := ih n1 (gI p at_ + 1) b t1 (by omega) (by omega) l1.2.1 (by omega) (fun i hi1 hi2 => by
            rw [f1, if_neg (by omega), hadd i (by omega) hi2]
            have := hb i (by omega) hi2
            omega) (by omega)
          cases hy : opn p m n1 (gI p at_ + 1) b with
          | none =>
            simp only [hy] at i2
            dsimp only
            exact i2
          | some q2 =>
            obtain ⟨y, n2⟩ := q2
            simp only [hy] at i2
            dsimp only
            obtain ⟨t2, e2, f2⟩ := i2
            have l2 := opn_len _ _ _ _ _ _ hy (by omega) l1.2.1
            refine ⟨t2, e2, fun i => ?_⟩
            have hx1 := l1.2.2.1
            have hy1 := l2.2.2.1
            rw [f2, f1]
            by_cases hi : a ≤ (i : Int) ∧ (i : Int) ≤ b
            · rw [if_pos hi, gLL_map (by simp; omega)]
              by_cases h4 : (i : Int) ≤ gI p at_
              · rw [if_neg (by omega), if_pos ⟨hi.1, h4⟩, gLL_app1 (by omega)]
                rw [hadd i hi.1 hi.2]
                simp only [sumG, List.map_cons, List.sum_cons]
                omega
              · rw [if_pos (by omega), if_neg (by omega), gLL_app2 (by omega), show ((i : Int) - a).toNat - x.length = ((i : Int) - (gI p at_ + 1)).toNat from by omega]
                rw [hadd i hi.1 hi.2]
                simp only [sumG, List.map_cons, List.sum_cons]
                omega
            · rw [if_neg hi, if_neg (by omega), if_neg (by omega)]
              simp [addP, hi]
      · rw [if_neg hc]
        dsimp only
        by_cases h5 : at_ < p.length
        · rw [drop_eq h5]
          simp only [rdP, he, if_false]
          rw [if_pos (by omega)]
        · rw [List.drop_eq_nil_of_le (by omega)]
          simp [rdP, he]
theorem pricesF_opn {p c : List Int} (hcs : ∀ x ∈ c, 0 ≤ x ∧ x ≤ 1000) (hn : c.length ≤ 12) :
    match opnAll p c.length with
    | none => pricesF c p = none
    | some ls => ∃ f, pricesF c p = some f ∧ ls.length = c.length + 1 ∧ ∀ i, i ≤ c.length → f i = sumG c (gLL ls i) := by
  have h := opn_rdP (p := p) hcs c.length 0 0 c.length (fun _ => 0) (by omega) (by omega) (by omega) (by omega) (fun i _ _ => by omega) (by omega)
  unfold opnAll pricesF
  rw [List.drop_zero] at h
  cases ho : opn p c.length 0 0 c.length with
  | none =>
    simp only [ho] at h
    dsimp only
    rcases hz : rdP (addP c) c.length 0 c.length p (fun _ => 0) with ⟨z1, z2, z3⟩
    rw [hz] at h
    simp only at h
    subst h
    rfl
  | some q =>
    obtain ⟨ls, k⟩ := q
    simp only [ho] at h
    obtain ⟨f, e, hf⟩ := h
    have hl := opn_len _ _ _ _ _ _ ho (by omega) (by omega)
    dsimp only
    rw [e]
    by_cases hk : k = p.length
    · rw [if_pos hk, hk, List.drop_length]
      dsimp only
      refine ⟨f, rfl, by have := hl.2.2.1; omega, fun i hi => ?_⟩
      rw [hf i, if_pos ⟨by omega, by omega⟩]
      simp
    · rw [if_neg hk]
      dsimp only
      have : p.drop k ≠ [] := fun e => hk (by have := List.drop_eq_nil_iff.1 e; have := hl.2.1; omega)
      cases hd : p.drop k with
      | nil => exact absurd hd this
      | cons z zs => rfl
end Go.Abs

set_option linter.unusedVariables false
set_option linter.unusedSimpArgs false
namespace Go.Abs
open Rd (Cp IsL_one IsL_cells IsL_tail lowO_n)
/-- What 'filled' holds while it works. -/
def TB (rows : List Row) (pv : AV) (T : List Int) (B : List Row) : Prop := ∃ G, B = rows ++ (.cells [pv] :: .cells (nums .i64 T) :: .cells [.ptr (rows.length + 1) 0] :: G)
section
variable {rows B : List Row} {pv : AV} {T T' : List Int}
theorem TB.len (h : TB rows pv T B) : rows.length + 3 ≤ B.length := by obtain ⟨G, rfl⟩ := h; simp <;> omega
theorem TB.app (h : TB rows pv T B) (L : List Row) : TB rows pv T (B ++ L) := by obtain ⟨G, rfl⟩ := h; exact ⟨G ++ L, by simp⟩
theorem TB.g0 (h : TB rows pv T B) : row? B rows.length = some [pv] := by obtain ⟨G, rfl⟩ := h; simp
theorem TB.g1 (h : TB rows pv T B) : row? B (rows.length + 1) = some (nums .i64 T) := by obtain ⟨G, rfl⟩ := h; rw [row?_at]; rfl
theorem TB.g2 (h : TB rows pv T B) : row? B (rows.length + 2) = some [.ptr (rows.length + 1) 0] := by obtain ⟨G, rfl⟩ := h; rw [row?_at]; rfl
theorem TB.c1 (h : TB rows pv T B) : B[rows.length + 1]? = some (.cells (nums .i64 T)) := by obtain ⟨G, rfl⟩ := h; rw [rows_at]; rfl
theorem TB.set (h : TB rows pv T B) : TB rows pv T' (B.set (rows.length + 1) (.cells (nums .i64 T'))) := by obtain ⟨G, rfl⟩ := h; exact ⟨G, by rw [rows_set]; rfl⟩
theorem TB.take (h : TB rows pv T B) {n : Nat} (hn : rows.length + 3 ≤ n) : TB rows pv T (B.take n) := by
  obtain ⟨G, rfl⟩ := h
  obtain ⟨m, rfl⟩ : ∃ m, n = rows.length + (m + 3) := ⟨n - rows.length - 3, by omega⟩
  exact ⟨G.take m, by rw [List.take_append, List.take_of_length_le (by omega)]; simp⟩
end
end Go.Abs

set_option linter.unusedVariables false
set_option maxRecDepth 20000
set_option maxHeartbeats 4000000
namespace Go.Abs
variable {F : Nat → Option IFn} {cx : Ctx} {k : List Itm} {s : St} {l : List (Nat × AV)} {rows : List Row} {low : Nat} {r : AV × List Row × Nat → Prop}
@[simp] theorem uc34k0 : Ex F cx (.code c34k0 :: k) ⟨mk 39 l, rows, low⟩ r ↔ Ex F cx k ⟨mk 39 [(4, lk l 5), (38, lk l 5), (5, lk l 5)], rows, low⟩ r := reg (keep := [5]) (ops := c34r0) rfl (by kernel_rfl) (by kernel_rfl)
@[simp] theorem uc34s1 : Ex F cx (.code c34s1 :: k) s r ↔ Ex F cx (.code (.seq c34k0 .ret) :: k) s r := Iff.rfl
@[simp] theorem uc34k2 : Ex F cx (.code c34k2 :: k) ⟨mk 39 l, rows, low⟩ r ↔ bnd (evP rows (.idxS 1 (.c (lk l 5)) (.c (.int .i64 0)))) fun v0 => bnd (evE rows low (.store1 (.c v0) (.c (.int .i64 1)))) fun q1 => Ex F cx k ⟨mk 39 [(37, v0), (36, lk l 5), (5, lk l 5)], q1.2.1, q1.2.2⟩ r := reg (keep := [5]) (ops := c34r2) rfl (by kernel_rfl) (by kernel_rfl)
@[simp] theorem uc34s3 : Ex F cx (.code c34s3 :: k) s r ↔ Ex F cx (.code (.cond (.t 35) c34k2 .skip) :: k) s r := Iff.rfl
@[simp] theorem uc34k4 : Ex F cx (.code c34k4 :: k) ⟨mk 39 l, rows, low⟩ r ↔ bnd (evP rows (.un .not (.c (lk l 6)))) fun v0 => Ex F cx k ⟨mk 39 [(35, v0), (34, lk l 6), (5, lk l 5), (6, lk l 6)], rows, low⟩ r := reg (keep := [5, 6]) (ops := c34r4) rfl (by kernel_rfl) (by kernel_rfl)
@[simp] theorem uc34s5 : Ex F cx (.code c34s5 :: k) s r ↔ Ex F cx (.code (.seq (.seq c34k4 c34s3) c34s1) :: k) s r := Iff.rfl
@[simp] theorem uc34k7 : Ex F cx (.code c34k7 :: k) ⟨mk 39 l, rows, low⟩ r ↔ bnd (evP rows (.bin .add (.c (lk l 7)) (.c (.int .i64 1)))) fun v0 => Ex F cx k ⟨mk 39 [(7, v0), (13, v0), (12, lk l 7), (0, lk l 0), (1, lk l 1), (5, lk l 5), (6, lk l 6), (7, lk l 7)], rows, low⟩ r := reg (keep := [0, 1, 5, 6, 7]) (ops := c34r7) rfl (by kernel_rfl) (by kernel_rfl)
@[simp] theorem uc34k8 : Ex F cx (.code c34k8 :: k) ⟨mk 39 l, rows, low⟩ r ↔ bnd (evE rows low (.mkslice 1 [.int .i64 0] [(0, 1, (.c (lk l 8)))])) fun q0 => bnd (evE q0.2.1 q0.2.2 (.app 1 8 (.c (lk l 5)) (.c q0.1))) fun q1 => Ex F cx k ⟨mk 39 [(5, q1.1), (33, q1.1), (32, q0.1), (31, lk l 8), (30, lk l 5), (0, lk l 0), (1, lk l 1), (5, lk l 5), (6, lk l 6), (7, lk l 7), (8, lk l 8)], q1.2.1, q1.2.2⟩ r := reg (keep := [0, 1, 5, 6, 7, 8]) (ops := c34r8) rfl (by kernel_rfl) (by kernel_rfl)
@[simp] theorem uc34k9 : Ex F cx (.code c34k9 :: k) ⟨mk 39 l, rows, low⟩ r ↔ bnd (gv (lk l 6) false (evP rows (.mv (.c (lk l 8))))) fun v0 => bnd (gv (lk l 6) false (evP rows (.bin .gtr (.c v0) (.c (.int .i64 0))))) fun v1 => bnd (evP rows (.pick (.c (lk l 6)) (.c (.bool true)) (.c v1))) fun v2 => Ex F cx k ⟨mk 39 [(6, v2), (29, v2), (28, v1), (27, v0), (26, lk l 6), (25, lk l 6), (0, lk l 0), (1, lk l 1), (5, lk l 5), (6, lk l 6), (7, lk l 7), (8, lk l 8)], rows, low⟩ r := reg (keep := [0, 1, 5, 6, 7, 8]) (ops := c34r9) rfl (by kernel_rfl) (by kernel_rfl)
@[simp] theorem uc34s10 : Ex F cx (.code c34s10 :: k) s r ↔ Ex F cx (.code (.seq c34k9 c34k8) :: k) s r := Iff.rfl
@[simp] theorem uc34k11 : Ex F cx (.code c34k11 :: k) ⟨mk 39 l, rows, low⟩ r ↔ bnd (evP rows (.idxS 1 (.c (lk l 0)) (.c (lk l 7)))) fun v0 => bnd (evP rows (.load1 (.c v0))) fun v1 => bnd (evP rows (.conv .u64 (.c v1))) fun v2 => bnd (evP rows (.bin .rem (.c v2) (.c (.int .u64 1001)))) fun v3 => bnd (evP rows (.conv .i64 (.c v3))) fun v4 => Ex F cx k ⟨mk 39 [(8, v4), (24, v4), (23, v3), (22, v2), (21, v1), (20, v0), (19, lk l 7), (18, lk l 0), (0, lk l 0), (1, lk l 1), (5, lk l 5), (6, lk l 6), (7, lk l 7)], rows, low⟩ r := reg (keep := [0, 1, 5, 6, 7]) (ops := c34r11) rfl (by kernel_rfl) (by kernel_rfl)
@[simp] theorem uc34s12 : Ex F cx (.code c34s12 :: k) s r ↔ Ex F cx (.code (.cond (.t 17) c34k11 .skip) :: k) s r := Iff.rfl
@[simp] theorem uc34k13 : Ex F cx (.code c34k13 :: k) ⟨mk 39 l, rows, low⟩ r ↔ bnd (evP rows (.len 0 (.c (lk l 0)))) fun v0 => bnd (evP rows (.bin .lss (.c (lk l 7)) (.c v0))) fun v1 => Ex F cx k ⟨mk 39 [(17, v1), (16, v0), (15, lk l 0), (14, lk l 7), (0, lk l 0), (1, lk l 1), (5, lk l 5), (6, lk l 6), (7, lk l 7), (8, lk l 8)], rows, low⟩ r := reg (keep := [0, 1, 5, 6, 7, 8]) (ops := c34r13) rfl (by kernel_rfl) (by kernel_rfl)
@[simp] theorem uc34s14 : Ex F cx (.code c34s14 :: k) s r ↔ Ex F cx (.code (.seq (.seq c34k13 c34s12) c34s10) :: k) s r := Iff.rfl
@[simp] theorem uc34k15 : Ex F cx (.code c34k15 :: k) ⟨mk 39 l, rows, low⟩ r ↔ Ex F cx k ⟨mk 39 [(8, (.int .i64 0)), (0, lk l 0), (1, lk l 1), (5, lk l 5), (6, lk l 6), (7, lk l 7)], rows, low⟩ r := reg (keep := [0, 1, 5, 6, 7]) (ops := c34r15) rfl (by kernel_rfl) (by kernel_rfl)
@[simp] theorem uc34s16 : Ex F cx (.code c34s16 :: k) s r ↔ Ex F cx (.code (.seq (.block 1 (.seq c34k15 c34s14)) c34k7) :: k) s r := Iff.rfl
@[simp] theorem uc34s17 : Ex F cx (.code c34s17 :: k) s r ↔ Ex F cx (.code (.cond (.t 11) .skip (.exit 0)) :: k) s r := Iff.rfl
@[simp] theorem uc34k18 : Ex F cx (.code c34k18 :: k) ⟨mk 39 l, rows, low⟩ r ↔ bnd (evP rows (.bin .leq (.c (lk l 7)) (.c (lk l 1)))) fun v0 => Ex F cx k ⟨mk 39 [(11, v0), (10, lk l 1), (9, lk l 7), (0, lk l 0), (1, lk l 1), (5, lk l 5), (6, lk l 6), (7, lk l 7)], rows, low⟩ r := reg (keep := [0, 1, 5, 6, 7]) (ops := c34r18) rfl (by kernel_rfl) (by kernel_rfl)
@[simp] theorem uc34s19 : Ex F cx (.code c34s19 :: k) s r ↔ Ex F cx (.code (.block 0 (.loop c34l6)) :: k) s r := Iff.rfl
@[simp] theorem uc34k20 : Ex F cx (.code c34k20 :: k) ⟨mk 39 l, rows, low⟩ r ↔ Ex F cx k ⟨mk 39 [(7, (.int .i64 0)), (0, lk l 0), (1, lk l 1), (5, lk l 5), (6, lk l 6)], rows, low⟩ r := reg (keep := [0, 1, 5, 6]) (ops := c34r20) rfl (by kernel_rfl) (by kernel_rfl)
@[simp] theorem uc34s21 : Ex F cx (.code c34s21 :: k) s r ↔ Ex F cx (.code (.seq (.seq c34k20 c34s19) c34s5) :: k) s r := Iff.rfl
@[simp] theorem uc34k22 : Ex F cx (.code c34k22 :: k) ⟨mk 39 l, rows, low⟩ r ↔ Ex F cx k ⟨mk 39 [(6, (.bool false)), (0, lk l 0), (1, lk l 1), (5, lk l 5)], rows, low⟩ r := reg (keep := [0, 1, 5]) (ops := c34r22) rfl (by kernel_rfl) (by kernel_rfl)
@[simp] theorem uc34s23 : Ex F cx (.code c34s23 :: k) s r ↔ Ex F cx (.code (.seq c34k22 c34s21) :: k) s r := Iff.rfl
@[simp] theorem uc34k24 : Ex F cx (.code c34k24 :: k) ⟨mk 39 l, rows, low⟩ r ↔ Ex F cx k ⟨mk 39 [(5, .nilslice), (0, lk l 0), (1, lk l 1)], rows, low⟩ r := reg (keep := [0, 1]) (ops := c34r24) rfl (by kernel_rfl) (by kernel_rfl)
@[simp] theorem uc34s25 : Ex F cx (.code c34s25 :: k) s r ↔ Ex F cx (.code (.seq c34k24 c34s23) :: k) s r := Iff.rfl
@[simp] theorem uc34k26 : Ex F cx (.code c34k26 :: k) ⟨mk 39 l, rows, low⟩ r ↔ Ex F cx k ⟨mk 39 [(4, .nilslice), (0, lk l 0), (1, lk l 1)], rows, low⟩ r := reg (keep := [0, 1]) (ops := c34r26) rfl (by kernel_rfl) (by kernel_rfl)
def Jc34s1 (F : Nat → Option IFn) (cx : Ctx) (x5 : AV) (rows : List Row) (low : Nat) (r : AV × List Row × Nat → Prop) : Prop := Ex F cx (.code c34s1 :: []) ⟨mk 39 [(5, x5)], rows, low⟩ r
theorem jc34s1 : Ex F cx (.code c34s1 :: []) ⟨mk 39 l, rows, low⟩ r ↔ Jc34s1 F cx (lk l 5) rows low r := Ex_canon (keep := [5]) (by kernel_rfl)
def Jc34s10 (F : Nat → Option IFn) (cx : Ctx) (x0 x1 x5 x6 x7 x8 : AV) (rows : List Row) (low : Nat) (r : AV × List Row × Nat → Prop) : Prop := Ex F cx (.code c34s10 :: .inBlock 1 :: .code c34k7 :: .inLoop c34l6 :: .inBlock 0 :: .code c34s5 :: []) ⟨mk 39 [(0, x0), (1, x1), (5, x5), (6, x6), (7, x7), (8, x8)], rows, low⟩ r
theorem jc34s10 : Ex F cx (.code c34s10 :: .inBlock 1 :: .code c34k7 :: .inLoop c34l6 :: .inBlock 0 :: .code c34s5 :: []) ⟨mk 39 l, rows, low⟩ r ↔ Jc34s10 F cx (lk l 0) (lk l 1) (lk l 5) (lk l 6) (lk l 7) (lk l 8) rows low r := Ex_canon (keep := [0, 1, 5, 6, 7, 8]) (by kernel_rfl)
def Jc34s16 (F : Nat → Option IFn) (cx : Ctx) (x0 x1 x5 x6 x7 : AV) (rows : List Row) (low : Nat) (r : AV × List Row × Nat → Prop) : Prop := Ex F cx (.code c34s16 :: .inLoop c34l6 :: .inBlock 0 :: .code c34s5 :: []) ⟨mk 39 [(0, x0), (1, x1), (5, x5), (6, x6), (7, x7)], rows, low⟩ r
theorem jc34s16 : Ex F cx (.code c34s16 :: .inLoop c34l6 :: .inBlock 0 :: .code c34s5 :: []) ⟨mk 39 l, rows, low⟩ r ↔ Jc34s16 F cx (lk l 0) (lk l 1) (lk l 5) (lk l 6) (lk l 7) rows low r := Ex_canon (keep := [0, 1, 5, 6, 7]) (by kernel_rfl)
def Lc34l6 (F : Nat → Option IFn) (cx : Ctx) (x0 x1 x5 x6 x7 : AV) (rows : List Row) (low : Nat) (r : AV × List Row × Nat → Prop) : Prop := Ex F cx (.code c34l6 :: .inLoop c34l6 :: .inBlock 0 :: .code c34s5 :: []) ⟨mk 39 [(0, x0), (1, x1), (5, x5), (6, x6), (7, x7)], rows, low⟩ r
@[simp] theorem nc34l6 : Ex F cx (.inLoop c34l6 :: .inBlock 0 :: .code c34s5 :: []) ⟨mk 39 l, rows, low⟩ r ↔ Lc34l6 F cx (lk l 0) (lk l 1) (lk l 5) (lk l 6) (lk l 7) rows low r := loopN (keep := [0, 1, 5, 6, 7]) (by kernel_rfl)
@[simp] theorem ec34l6 : Ex F cx (.code (.loop c34l6) :: .inBlock 0 :: .code c34s5 :: []) ⟨mk 39 l, rows, low⟩ r ↔ Lc34l6 F cx (lk l 0) (lk l 1) (lk l 5) (lk l 6) (lk l 7) rows low r := loopE (keep := [0, 1, 5, 6, 7]) (by kernel_rfl)
@[simp] theorem uc34l6 : Ex F cx (.code c34l6 :: k) s r ↔ Ex F cx (.code (.seq (.seq c34k18 c34s17) c34s16) :: k) s r := Iff.rfl
@[simp] theorem uc34b : Ex F cx (.code c34b :: k) s r ↔ Ex F cx (.code (.seq c34k26 c34s25) :: k) s r := Iff.rfl
theorem i34 {x0 x1 : AV} (hF : F 34 = some c34) {q : AV × List Row × Option Nat} (h : Ex F (.fn [.t 4]) [.code c34b] ⟨mk 39 [(0, x0), (1, x1)], rows, rows.length⟩ fun r => fin rows r.1 r.2.1 r.2.2 = q) : Ret F 34 [x0, x1] rows = some q := Ret_mk hF h
@[simp] theorem uc38k0 : Ex F cx (.code c38k0 :: k) ⟨mk 25 l, rows, low⟩ r ↔ Ex F cx k ⟨mk 25 [(4, lk l 5), (24, lk l 5), (5, lk l 5)], rows, low⟩ r := reg (keep := [5]) (ops := c38r0) rfl (by kernel_rfl) (by kernel_rfl)
@[simp] theorem uc38s1 : Ex F cx (.code c38s1 :: k) s r ↔ Ex F cx (.code (.seq c38k0 .ret) :: k) s r := Iff.rfl
@[simp] theorem uc38k3 : Ex F cx (.code c38k3 :: k) ⟨mk 25 l, rows, low⟩ r ↔ bnd (evP rows (.bin .add (.c (lk l 6)) (.c (.int .i64 1)))) fun v0 => Ex F cx k ⟨mk 25 [(6, v0), (12, v0), (11, lk l 6), (0, lk l 0), (1, lk l 1), (5, lk l 5), (6, lk l 6)], rows, low⟩ r := reg (keep := [0, 1, 5, 6]) (ops := c38r3) rfl (by kernel_rfl) (by kernel_rfl)
@[simp] theorem uc38k4 : Ex F cx (.code c38k4 :: k) ⟨mk 25 l, rows, low⟩ r ↔ bnd (evP rows (.idxS 1 (.c (lk l 0)) (.c (lk l 6)))) fun v0 => bnd (evP rows (.load1 (.c v0))) fun v1 => bnd (evP rows (.idxS 1 (.c (lk l 1)) (.c (lk l 6)))) fun v2 => bnd (evP rows (.load1 (.c v2))) fun v3 => bnd (evP rows (.bin .mul (.c v1) (.c v3))) fun v4 => bnd (evP rows (.bin .add (.c (lk l 5)) (.c v4))) fun v5 => Ex F cx k ⟨mk 25 [(5, v5), (23, v5), (22, v4), (21, v3), (20, v2), (19, lk l 6), (18, lk l 1), (17, v1), (16, v0), (15, lk l 6), (14, lk l 0), (13, lk l 5), (0, lk l 0), (1, lk l 1), (5, lk l 5), (6, lk l 6)], rows, low⟩ r := reg (keep := [0, 1, 5, 6]) (ops := c38r4) rfl (by kernel_rfl) (by kernel_rfl)
@[simp] theorem uc38s5 : Ex F cx (.code c38s5 :: k) s r ↔ Ex F cx (.code (.seq (.block 1 c38k4) c38k3) :: k) s r := Iff.rfl
@[simp] theorem uc38s6 : Ex F cx (.code c38s6 :: k) s r ↔ Ex F cx (.code (.cond (.t 10) .skip (.exit 0)) :: k) s r := Iff.rfl
@[simp] theorem uc38k7 : Ex F cx (.code c38k7 :: k) ⟨mk 25 l, rows, low⟩ r ↔ bnd (evP rows (.len 0 (.c (lk l 1)))) fun v0 => bnd (evP rows (.bin .lss (.c (lk l 6)) (.c v0))) fun v1 => Ex F cx k ⟨mk 25 [(10, v1), (9, v0), (8, lk l 1), (7, lk l 6), (0, lk l 0), (1, lk l 1), (5, lk l 5), (6, lk l 6)], rows, low⟩ r := reg (keep := [0, 1, 5, 6]) (ops := c38r7) rfl (by kernel_rfl) (by kernel_rfl)
@[simp] theorem uc38s8 : Ex F cx (.code c38s8 :: k) s r ↔ Ex F cx (.code (.block 0 (.loop c38l2)) :: k) s r := Iff.rfl
@[simp] theorem uc38k9 : Ex F cx (.code c38k9 :: k) ⟨mk 25 l, rows, low⟩ r ↔ Ex F cx k ⟨mk 25 [(6, (.int .i64 0)), (0, lk l 0), (1, lk l 1), (5, lk l 5)], rows, low⟩ r := reg (keep := [0, 1, 5]) (ops := c38r9) rfl (by kernel_rfl) (by kernel_rfl)
@[simp] theorem uc38s10 : Ex F cx (.code c38s10 :: k) s r ↔ Ex F cx (.code (.seq (.seq c38k9 c38s8) c38s1) :: k) s r := Iff.rfl
@[simp] theorem uc38k11 : Ex F cx (.code c38k11 :: k) ⟨mk 25 l, rows, low⟩ r ↔ Ex F cx k ⟨mk 25 [(5, (.int .i64 0)), (0, lk l 0), (1, lk l 1)], rows, low⟩ r := reg (keep := [0, 1]) (ops := c38r11) rfl (by kernel_rfl) (by kernel_rfl)
@[simp] theorem uc38s12 : Ex F cx (.code c38s12 :: k) s r ↔ Ex F cx (.code (.seq c38k11 c38s10) :: k) s r := Iff.rfl
@[simp] theorem uc38k13 : Ex F cx (.code c38k13 :: k) ⟨mk 25 l, rows, low⟩ r ↔ Ex F cx k ⟨mk 25 [(4, (.int .i64 0)), (0, lk l 0), (1, lk l 1)], rows, low⟩ r := reg (keep := [0, 1]) (ops := c38r13) rfl (by kernel_rfl) (by kernel_rfl)
def Jc38s5 (F : Nat → Option IFn) (cx : Ctx) (x0 x1 x5 x6 : AV) (rows : List Row) (low : Nat) (r : AV × List Row × Nat → Prop) : Prop := Ex F cx (.code c38s5 :: .inLoop c38l2 :: .inBlock 0 :: .code c38s1 :: []) ⟨mk 25 [(0, x0), (1, x1), (5, x5), (6, x6)], rows, low⟩ r
theorem jc38s5 : Ex F cx (.code c38s5 :: .inLoop c38l2 :: .inBlock 0 :: .code c38s1 :: []) ⟨mk 25 l, rows, low⟩ r ↔ Jc38s5 F cx (lk l 0) (lk l 1) (lk l 5) (lk l 6) rows low r := Ex_canon (keep := [0, 1, 5, 6]) (by kernel_rfl)
def Lc38l2 (F : Nat → Option IFn) (cx : Ctx) (x0 x1 x5 x6 : AV) (rows : List Row) (low : Nat) (r : AV × List Row × Nat → Prop) : Prop := Ex F cx (.code c38l2 :: .inLoop c38l2 :: .inBlock 0 :: .code c38s1 :: []) ⟨mk 25 [(0, x0), (1, x1), (5, x5), (6, x6)], rows, low⟩ r
@[simp] theorem nc38l2 : Ex F cx (.inLoop c38l2 :: .inBlock 0 :: .code c38s1 :: []) ⟨mk 25 l, rows, low⟩ r ↔ Lc38l2 F cx (lk l 0) (lk l 1) (lk l 5) (lk l 6) rows low r := loopN (keep := [0, 1, 5, 6]) (by kernel_rfl)
@[simp] theorem ec38l2 : Ex F cx (.code (.loop c38l2) :: .inBlock 0 :: .code c38s1 :: []) ⟨mk 25 l, rows, low⟩ r ↔ Lc38l2 F cx (lk l 0) (lk l 1) (lk l 5) (lk l 6) rows low r := loopE (keep := [0, 1, 5, 6]) (by kernel_rfl)
@[simp] theorem uc38l2 : Ex F cx (.code c38l2 :: k) s r ↔ Ex F cx (.code (.seq (.seq c38k7 c38s6) c38s5) :: k) s r := Iff.rfl
@[simp] theorem uc38b : Ex F cx (.code c38b :: k) s r ↔ Ex F cx (.code (.seq c38k13 c38s12) :: k) s r := Iff.rfl
theorem i38 {x0 x1 : AV} (hF : F 38 = some c38) {q : AV × List Row × Option Nat} (h : Ex F (.fn [.t 4]) [.code c38b] ⟨mk 25 [(0, x0), (1, x1)], rows, rows.length⟩ fun r => fin rows r.1 r.2.1 r.2.2 = q) : Ret F 38 [x0, x1] rows = some q := Ret_mk hF h
@[simp] theorem uc43k0 : Ex F cx (.code c43k0 :: k) ⟨mk 16 l, rows, low⟩ r ↔ bnd (Ret F 60 [lk l 0] rows) fun q0 => bnd (Ret F 62 [lk l 1, q0.1, (.func 79 [])] q0.2.1) fun q1 => Ex F cx k ⟨mk 16 [(5, (.int .i64 0)), (4, q1.1), (15, q1.1), (14, q0.1), (13, lk l 0), (12, lk l 1), (0, lk l 0), (1, lk l 1)], q1.2.1, (lowO (lowO low q0.2.2) q1.2.2)⟩ r := reg (keep := [0, 1]) (ops := c43r0) rfl (by kernel_rfl) (by kernel_rfl)
@[simp] theorem uc43s1 : Ex F cx (.code c43s1 :: k) s r ↔ Ex F cx (.code (.seq c43k0 .ret) :: k) s r := Iff.rfl
@[simp] theorem uc43k2 : Ex F cx (.code c43k2 :: k) ⟨mk 16 l, rows, low⟩ r ↔ Ex F cx k ⟨mk 16 [(5, lk l 6), (4, (.bool false)), (11, lk l 6), (6, lk l 6)], rows, low⟩ r := reg (keep := [6]) (ops := c43r2) rfl (by kernel_rfl) (by kernel_rfl)
@[simp] theorem uc43s3 : Ex F cx (.code c43s3 :: k) s r ↔ Ex F cx (.code (.cond (.t 10) (.seq c43k2 .ret) .skip) :: k) s r := Iff.rfl
@[simp] theorem uc43k4 : Ex F cx (.code c43k4 :: k) ⟨mk 16 l, rows, low⟩ r ↔ bnd (evP rows (.bin .neq (.c (lk l 6)) (.c (.int .i64 0)))) fun v0 => Ex F cx k ⟨mk 16 [(10, v0), (9, lk l 6), (0, lk l 0), (1, lk l 1), (6, lk l 6)], rows, low⟩ r := reg (keep := [0, 1, 6]) (ops := c43r4) rfl (by kernel_rfl) (by kernel_rfl)
@[simp] theorem uc43s5 : Ex F cx (.code c43s5 :: k) s r ↔ Ex F cx (.code (.seq c43k4 c43s3) :: k) s r := Iff.rfl
@[simp] theorem uc43k6 : Ex F cx (.code c43k6 :: k) ⟨mk 16 l, rows, low⟩ r ↔ bnd (Ret F 46 [lk l 0] rows) fun q0 => Ex F cx k ⟨mk 16 [(6, q0.1), (8, q0.1), (7, lk l 0), (0, lk l 0), (1, lk l 1)], q0.2.1, (lowO low q0.2.2)⟩ r := reg (keep := [0, 1]) (ops := c43r6) rfl (by kernel_rfl) (by kernel_rfl)
@[simp] theorem uc43s7 : Ex F cx (.code c43s7 :: k) s r ↔ Ex F cx (.code (.seq (.seq c43k6 c43s5) c43s1) :: k) s r := Iff.rfl
@[simp] theorem uc43k8 : Ex F cx (.code c43k8 :: k) ⟨mk 16 l, rows, low⟩ r ↔ Ex F cx k ⟨mk 16 [(5, (.int .i64 0)), (4, (.bool false)), (0, lk l 0), (1, lk l 1)], rows, low⟩ r := reg (keep := [0, 1]) (ops := c43r8) rfl (by kernel_rfl) (by kernel_rfl)
def Jc43s1 (F : Nat → Option IFn) (cx : Ctx) (x0 x1 : AV) (rows : List Row) (low : Nat) (r : AV × List Row × Nat → Prop) : Prop := Ex F cx (.code c43s1 :: []) ⟨mk 16 [(0, x0), (1, x1)], rows, low⟩ r
theorem jc43s1 : Ex F cx (.code c43s1 :: []) ⟨mk 16 l, rows, low⟩ r ↔ Jc43s1 F cx (lk l 0) (lk l 1) rows low r := Ex_canon (keep := [0, 1]) (by kernel_rfl)
@[simp] theorem uc43b : Ex F cx (.code c43b :: k) s r ↔ Ex F cx (.code (.seq c43k8 c43s7) :: k) s r := Iff.rfl
theorem i43 {x0 x1 : AV} (hF : F 43 = some c43) {q : AV × List Row × Option Nat} (h : Ex F (.fn [.t 4, .t 5]) [.code c43b] ⟨mk 16 [(0, x0), (1, x1)], rows, rows.length⟩ fun r => fin rows r.1 r.2.1 r.2.2 = q) : Ret F 43 [x0, x1] rows = some q := Ret_mk hF h
@[simp] theorem uc44k0 : Ex F cx (.code c44k0 :: k) ⟨mk 40 l, rows, low⟩ r ↔ bnd (Ret F 67 [lk l 9] rows) fun q0 => Ex F cx k ⟨mk 40 [(7, (.int .i64 0)), (6, q0.1), (39, q0.1), (38, lk l 9), (9, lk l 9)], q0.2.1, (lowO low q0.2.2)⟩ r := reg (keep := [9]) (ops := c44r0) rfl (by kernel_rfl) (by kernel_rfl)
@[simp] theorem uc44s1 : Ex F cx (.code c44s1 :: k) s r ↔ Ex F cx (.code (.seq c44k0 .ret) :: k) s r := Iff.rfl
@[simp] theorem uc44k3 : Ex F cx (.code c44k3 :: k) ⟨mk 40 l, rows, low⟩ r ↔ bnd (evP rows (.bin .add (.c (lk l 25)) (.c (.int .i64 1)))) fun v0 => Ex F cx k ⟨mk 40 [(25, v0), (37, v0), (9, lk l 9), (23, lk l 23), (24, lk l 24), (25, lk l 25)], rows, low⟩ r := reg (keep := [9, 23, 24, 25]) (ops := c44r3) rfl (by kernel_rfl) (by kernel_rfl)
@[simp] theorem uc44k4 : Ex F cx (.code c44k4 :: k) ⟨mk 40 l, rows, low⟩ r ↔ bnd (evP rows (.idxS 1 (.c (lk l 9)) (.c (lk l 10)))) fun v0 => bnd (evP rows (.load1 (.c v0))) fun v1 => bnd (evP rows (.bin .mul (.c v1) (.c (lk l 11)))) fun v2 => bnd (evP rows (.idxS 1 (.c (lk l 9)) (.c (lk l 10)))) fun v3 => bnd (evE rows low (.store1 (.c v3) (.c v2))) fun q4 => Ex F cx k ⟨mk 40 [(36, v3), (35, v2), (34, lk l 11), (33, v1), (32, v0), (31, lk l 10), (30, lk l 9), (9, lk l 9), (10, lk l 10), (11, lk l 11), (23, lk l 23), (24, lk l 24), (25, lk l 25)], q4.2.1, q4.2.2⟩ r := reg (keep := [9, 10, 11, 23, 24, 25]) (ops := c44r4) rfl (by kernel_rfl) (by kernel_rfl)
@[simp] theorem uc44k5 : Ex F cx (.code c44k5 :: k) ⟨mk 40 l, rows, low⟩ r ↔ bnd (evP rows (.idxS 1 (.c (lk l 23)) (.c (lk l 25)))) fun v0 => bnd (evP rows (.load1 (.c v0))) fun v1 => Ex F cx k ⟨mk 40 [(11, v1), (10, lk l 25), (29, v1), (28, v0), (27, lk l 25), (9, lk l 9), (23, lk l 23), (24, lk l 24), (25, lk l 25)], rows, low⟩ r := reg (keep := [9, 23, 24, 25]) (ops := c44r5) rfl (by kernel_rfl) (by kernel_rfl)
@[simp] theorem uc44s6 : Ex F cx (.code c44s6 :: k) s r ↔ Ex F cx (.code (.seq (.block 1 (.seq c44k5 c44k4)) c44k3) :: k) s r := Iff.rfl
@[simp] theorem uc44s7 : Ex F cx (.code c44s7 :: k) s r ↔ Ex F cx (.code (.seq (.cond (.t 26) .skip (.exit 0)) c44s6) :: k) s r := Iff.rfl
@[simp] theorem uc44k8 : Ex F cx (.code c44k8 :: k) ⟨mk 40 l, rows, low⟩ r ↔ bnd (evP rows (.bin .lss (.c (lk l 25)) (.c (lk l 24)))) fun v0 => Ex F cx k ⟨mk 40 [(26, v0), (9, lk l 9), (23, lk l 23), (24, lk l 24), (25, lk l 25)], rows, low⟩ r := reg (keep := [9, 23, 24, 25]) (ops := c44r8) rfl (by kernel_rfl) (by kernel_rfl)
@[simp] theorem uc44s9 : Ex F cx (.code c44s9 :: k) s r ↔ Ex F cx (.code (.block 0 (.loop c44l2)) :: k) s r := Iff.rfl
@[simp] theorem uc44k10 : Ex F cx (.code c44k10 :: k) ⟨mk 40 l, rows, low⟩ r ↔ bnd (evP rows (.len 0 (.c (lk l 1)))) fun v0 => Ex F cx k ⟨mk 40 [(25, (.int .i64 0)), (24, v0), (23, lk l 1), (1, lk l 1), (9, lk l 9)], rows, low⟩ r := reg (keep := [1, 9]) (ops := c44r10) rfl (by kernel_rfl) (by kernel_rfl)
@[simp] theorem uc44s11 : Ex F cx (.code c44s11 :: k) s r ↔ Ex F cx (.code (.seq (.seq c44k10 c44s9) c44s1) :: k) s r := Iff.rfl
@[simp] theorem uc44k12 : Ex F cx (.code c44k12 :: k) ⟨mk 40 l, rows, low⟩ r ↔ Ex F cx k ⟨mk 40 [(7, (.int .i64 1)), (6, (.int .i64 0))], rows, low⟩ r := reg (keep := []) (ops := c44r12) rfl (by kernel_rfl) (by kernel_rfl)
@[simp] theorem uc44s13 : Ex F cx (.code c44s13 :: k) s r ↔ Ex F cx (.code (.cond (.t 22) (.seq c44k12 .ret) .skip) :: k) s r := Iff.rfl
@[simp] theorem uc44k14 : Ex F cx (.code c44k14 :: k) ⟨mk 40 l, rows, low⟩ r ↔ bnd (evP rows (.eqv false .slice (.c (lk l 9)) (.c .nilslice))) fun v0 => Ex F cx k ⟨mk 40 [(22, v0), (21, lk l 9), (1, lk l 1), (9, lk l 9)], rows, low⟩ r := reg (keep := [1, 9]) (ops := c44r14) rfl (by kernel_rfl) (by kernel_rfl)
@[simp] theorem uc44s15 : Ex F cx (.code c44s15 :: k) s r ↔ Ex F cx (.code (.seq (.seq c44k14 c44s13) c44s11) :: k) s r := Iff.rfl
@[simp] theorem uc44k16 : Ex F cx (.code c44k16 :: k) ⟨mk 40 l, rows, low⟩ r ↔ bnd (Ret F 61 [lk l 0, lk l 2] rows) fun q0 => Ex F cx k ⟨mk 40 [(9, q0.1), (20, q0.1), (19, lk l 2), (18, lk l 0), (0, lk l 0), (1, lk l 1), (2, lk l 2)], q0.2.1, (lowO low q0.2.2)⟩ r := reg (keep := [0, 1, 2]) (ops := c44r16) rfl (by kernel_rfl) (by kernel_rfl)
@[simp] theorem uc44s17 : Ex F cx (.code c44s17 :: k) s r ↔ Ex F cx (.code (.seq c44k16 c44s15) :: k) s r := Iff.rfl
@[simp] theorem uc44k18 : Ex F cx (.code c44k18 :: k) ⟨mk 40 l, rows, low⟩ r ↔ Ex F cx k ⟨mk 40 [(7, lk l 8), (6, (.int .i64 0)), (17, lk l 8), (8, lk l 8)], rows, low⟩ r := reg (keep := [8]) (ops := c44r18) rfl (by kernel_rfl) (by kernel_rfl)
@[simp] theorem uc44s19 : Ex F cx (.code c44s19 :: k) s r ↔ Ex F cx (.code (.cond (.t 16) (.seq c44k18 .ret) .skip) :: k) s r := Iff.rfl
@[simp] theorem uc44k20 : Ex F cx (.code c44k20 :: k) ⟨mk 40 l, rows, low⟩ r ↔ bnd (evP rows (.bin .neq (.c (lk l 8)) (.c (.int .i64 0)))) fun v0 => Ex F cx k ⟨mk 40 [(16, v0), (15, lk l 8), (0, lk l 0), (1, lk l 1), (2, lk l 2), (8, lk l 8)], rows, low⟩ r := reg (keep := [0, 1, 2, 8]) (ops := c44r20) rfl (by kernel_rfl) (by kernel_rfl)
@[simp] theorem uc44s21 : Ex F cx (.code c44s21 :: k) s r ↔ Ex F cx (.code (.seq c44k20 c44s19) :: k) s r := Iff.rfl
@[simp] theorem uc44k22 : Ex F cx (.code c44k22 :: k) ⟨mk 40 l, rows, low⟩ r ↔ bnd (Ret F 65 [lk l 0, lk l 1] rows) fun q0 => Ex F cx k ⟨mk 40 [(8, q0.1), (14, q0.1), (13, lk l 1), (12, lk l 0), (0, lk l 0), (1, lk l 1), (2, lk l 2)], q0.2.1, (lowO low q0.2.2)⟩ r := reg (keep := [0, 1, 2]) (ops := c44r22) rfl (by kernel_rfl) (by kernel_rfl)
@[simp] theorem uc44s23 : Ex F cx (.code c44s23 :: k) s r ↔ Ex F cx (.code (.seq (.seq c44k22 c44s21) c44s17) :: k) s r := Iff.rfl
@[simp] theorem uc44k24 : Ex F cx (.code c44k24 :: k) ⟨mk 40 l, rows, low⟩ r ↔ Ex F cx k ⟨mk 40 [(7, (.int .i64 0)), (6, (.int .i64 0)), (0, lk l 0), (1, lk l 1), (2, lk l 2)], rows, low⟩ r := reg (keep := [0, 1, 2]) (ops := c44r24) rfl (by kernel_rfl) (by kernel_rfl)
def Jc44s6 (F : Nat → Option IFn) (cx : Ctx) (x9 x23 x24 x25 : AV) (rows : List Row) (low : Nat) (r : AV × List Row × Nat → Prop) : Prop := Ex F cx (.code c44s6 :: .inLoop c44l2 :: .inBlock 0 :: .code c44s1 :: []) ⟨mk 40 [(9, x9), (23, x23), (24, x24), (25, x25)], rows, low⟩ r
theorem jc44s6 : Ex F cx (.code c44s6 :: .inLoop c44l2 :: .inBlock 0 :: .code c44s1 :: []) ⟨mk 40 l, rows, low⟩ r ↔ Jc44s6 F cx (lk l 9) (lk l 23) (lk l 24) (lk l 25) rows low r := Ex_canon (keep := [9, 23, 24, 25]) (by kernel_rfl)
def Lc44l2 (F : Nat → Option IFn) (cx : Ctx) (x9 x23 x24 x25 : AV) (rows : List Row) (low : Nat) (r : AV × List Row × Nat → Prop) : Prop := Ex F cx (.code c44l2 :: .inLoop c44l2 :: .inBlock 0 :: .code c44s1 :: []) ⟨mk 40 [(9, x9), (23, x23), (24, x24), (25, x25)], rows, low⟩ r
@[simp] theorem nc44l2 : Ex F cx (.inLoop c44l2 :: .inBlock 0 :: .code c44s1 :: []) ⟨mk 40 l, rows, low⟩ r ↔ Lc44l2 F cx (lk l 9) (lk l 23) (lk l 24) (lk l 25) rows low r := loopN (keep := [9, 23, 24, 25]) (by kernel_rfl)
@[simp] theorem ec44l2 : Ex F cx (.code (.loop c44l2) :: .inBlock 0 :: .code c44s1 :: []) ⟨mk 40 l, rows, low⟩ r ↔ Lc44l2 F cx (lk l 9) (lk l 23) (lk l 24) (lk l 25) rows low r := loopE (keep := [9, 23, 24, 25]) (by kernel_rfl)
@[simp] theorem uc44l2 : Ex F cx (.code c44l2 :: k) s r ↔ Ex F cx (.code (.seq c44k8 c44s7) :: k) s r := Iff.rfl
def Jc44s11 (F : Nat → Option IFn) (cx : Ctx) (x1 x9 : AV) (rows : List Row) (low : Nat) (r : AV × List Row × Nat → Prop) : Prop := Ex F cx (.code c44s11 :: []) ⟨mk 40 [(1, x1), (9, x9)], rows, low⟩ r
theorem jc44s11 : Ex F cx (.code c44s11 :: []) ⟨mk 40 l, rows, low⟩ r ↔ Jc44s11 F cx (lk l 1) (lk l 9) rows low r := Ex_canon (keep := [1, 9]) (by kernel_rfl)
def Jc44s17 (F : Nat → Option IFn) (cx : Ctx) (x0 x1 x2 : AV) (rows : List Row) (low : Nat) (r : AV × List Row × Nat → Prop) : Prop := Ex F cx (.code c44s17 :: []) ⟨mk 40 [(0, x0), (1, x1), (2, x2)], rows, low⟩ r
theorem jc44s17 : Ex F cx (.code c44s17 :: []) ⟨mk 40 l, rows, low⟩ r ↔ Jc44s17 F cx (lk l 0) (lk l 1) (lk l 2) rows low r := Ex_canon (keep := [0, 1, 2]) (by kernel_rfl)
@[simp] theorem uc44b : Ex F cx (.code c44b :: k) s r ↔ Ex F cx (.code (.seq c44k24 c44s23) :: k) s r := Iff.rfl
theorem i44 {x0 x1 x2 : AV} (hF : F 44 = some c44) {q : AV × List Row × Option Nat} (h : Ex F (.fn [.t 6, .t 7]) [.code c44b] ⟨mk 40 [(0, x0), (1, x1), (2, x2)], rows, rows.length⟩ fun r => fin rows r.1 r.2.1 r.2.2 = q) : Ret F 44 [x0, x1, x2] rows = some q := Ret_mk hF h
@[simp] theorem uc65k0 : Ex F cx (.code c65k0 :: k) ⟨mk 27 l, rows, low⟩ r ↔ Ex F cx k ⟨mk 27 [(4, (.int .i64 0))], rows, low⟩ r := reg (keep := []) (ops := c65r0) rfl (by kernel_rfl) (by kernel_rfl)
@[simp] theorem uc65s1 : Ex F cx (.code c65s1 :: k) s r ↔ Ex F cx (.code (.seq c65k0 .ret) :: k) s r := Iff.rfl
@[simp] theorem uc65k2 : Ex F cx (.code c65k2 :: k) ⟨mk 27 l, rows, low⟩ r ↔ Ex F cx k ⟨mk 27 [(4, (.int .i64 1))], rows, low⟩ r := reg (keep := []) (ops := c65r2) rfl (by kernel_rfl) (by kernel_rfl)
@[simp] theorem uc65s3 : Ex F cx (.code c65s3 :: k) s r ↔ Ex F cx (.code (.cond (.t 26) (.seq c65k2 .ret) .skip) :: k) s r := Iff.rfl
@[simp] theorem uc65k4 : Ex F cx (.code c65k4 :: k) ⟨mk 27 l, rows, low⟩ r ↔ bnd (evP rows (.len 0 (.c (lk l 1)))) fun v0 => bnd (evP rows (.len 0 (.c (lk l 0)))) fun v1 => bnd (evP rows (.bin .add (.c v1) (.c (.int .i64 1)))) fun v2 => bnd (evP rows (.bin .neq (.c v0) (.c v2))) fun v3 => bnd (gv v3 false (evP rows (.mv (.c (lk l 1))))) fun v4 => gcall F v3 false rows low [(.int .i64 0), (.int .i64 1000), v4] (.func 55 []) fun v5 R5 L5 => bnd (gv v3 false (evP R5 (.un .not (.c v5)))) fun v6 => bnd (evP R5 (.pick (.c v3) (.c (.bool true)) (.c v6))) fun v7 => bnd (gv v7 false (evP R5 (.mv (.c (lk l 1))))) fun v8 => gcall F v7 false R5 L5 [v8] (.func 90 []) fun v9 R9 L9 => bnd (gv v7 false (evP R9 (.bin .eql (.c v9) (.c (.int .i64 0))))) fun v10 => bnd (evP R9 (.pick (.c v7) (.c (.bool true)) (.c v10))) fun v11 => Ex F cx k ⟨mk 27 [(26, v11), (25, v10), (24, v9), (23, v8), (22, v7), (21, v7), (20, v6), (19, v5), (18, v4), (17, v3), (16, v3), (15, v2), (14, v1), (13, lk l 0), (12, v0), (11, lk l 1), (0, lk l 0), (1, lk l 1)], R9, L9⟩ r := reg (keep := [0, 1]) (ops := c65r4) rfl (by kernel_rfl) (by kernel_rfl)
@[simp] theorem uc65s5 : Ex F cx (.code c65s5 :: k) s r ↔ Ex F cx (.code (.seq (.seq c65k4 c65s3) c65s1) :: k) s r := Iff.rfl
@[simp] theorem uc65k6 : Ex F cx (.code c65k6 :: k) ⟨mk 27 l, rows, low⟩ r ↔ Ex F cx k ⟨mk 27 [(4, lk l 5), (10, lk l 5), (5, lk l 5)], rows, low⟩ r := reg (keep := [5]) (ops := c65r6) rfl (by kernel_rfl) (by kernel_rfl)
@[simp] theorem uc65s7 : Ex F cx (.code c65s7 :: k) s r ↔ Ex F cx (.code (.cond (.t 9) (.seq c65k6 .ret) .skip) :: k) s r := Iff.rfl
@[simp] theorem uc65k8 : Ex F cx (.code c65k8 :: k) ⟨mk 27 l, rows, low⟩ r ↔ bnd (evP rows (.bin .neq (.c (lk l 5)) (.c (.int .i64 0)))) fun v0 => Ex F cx k ⟨mk 27 [(9, v0), (8, lk l 5), (0, lk l 0), (1, lk l 1), (5, lk l 5)], rows, low⟩ r := reg (keep := [0, 1, 5]) (ops := c65r8) rfl (by kernel_rfl) (by kernel_rfl)
@[simp] theorem uc65s9 : Ex F cx (.code c65s9 :: k) s r ↔ Ex F cx (.code (.seq c65k8 c65s7) :: k) s r := Iff.rfl
@[simp] theorem uc65k10 : Ex F cx (.code c65k10 :: k) ⟨mk 27 l, rows, low⟩ r ↔ bnd (Ret F 46 [lk l 0] rows) fun q0 => Ex F cx k ⟨mk 27 [(5, q0.1), (7, q0.1), (6, lk l 0), (0, lk l 0), (1, lk l 1)], q0.2.1, (lowO low q0.2.2)⟩ r := reg (keep := [0, 1]) (ops := c65r10) rfl (by kernel_rfl) (by kernel_rfl)
@[simp] theorem uc65s11 : Ex F cx (.code c65s11 :: k) s r ↔ Ex F cx (.code (.seq (.seq c65k10 c65s9) c65s5) :: k) s r := Iff.rfl
@[simp] theorem uc65k12 : Ex F cx (.code c65k12 :: k) ⟨mk 27 l, rows, low⟩ r ↔ Ex F cx k ⟨mk 27 [(4, (.int .i64 0)), (0, lk l 0), (1, lk l 1)], rows, low⟩ r := reg (keep := [0, 1]) (ops := c65r12) rfl (by kernel_rfl) (by kernel_rfl)
def Jc65s1 (F : Nat → Option IFn) (cx : Ctx) (rows : List Row) (low : Nat) (r : AV × List Row × Nat → Prop) : Prop := Ex F cx (.code c65s1 :: []) ⟨mk 27 [], rows, low⟩ r
theorem jc65s1 : Ex F cx (.code c65s1 :: []) ⟨mk 27 l, rows, low⟩ r ↔ Jc65s1 F cx  rows low r := Ex_canon (keep := []) (by kernel_rfl)
def Jc65s5 (F : Nat → Option IFn) (cx : Ctx) (x0 x1 : AV) (rows : List Row) (low : Nat) (r : AV × List Row × Nat → Prop) : Prop := Ex F cx (.code c65s5 :: []) ⟨mk 27 [(0, x0), (1, x1)], rows, low⟩ r
theorem jc65s5 : Ex F cx (.code c65s5 :: []) ⟨mk 27 l, rows, low⟩ r ↔ Jc65s5 F cx (lk l 0) (lk l 1) rows low r := Ex_canon (keep := [0, 1]) (by kernel_rfl)
@[simp] theorem uc65b : Ex F cx (.code c65b :: k) s r ↔ Ex F cx (.code (.seq c65k12 c65s11) :: k) s r := Iff.rfl
theorem i65 {x0 x1 : AV} (hF : F 65 = some c65) {q : AV × List Row × Option Nat} (h : Ex F (.fn [.t 4]) [.code c65b] ⟨mk 27 [(0, x0), (1, x1)], rows, rows.length⟩ fun r => fin rows r.1 r.2.1 r.2.2 = q) : Ret F 65 [x0, x1] rows = some q := Ret_mk hF h
@[simp] theorem uc67k0 : Ex F cx (.code c67k0 :: k) ⟨mk 17 l, rows, low⟩ r ↔ Ex F cx k ⟨mk 17 [(2, lk l 3), (16, lk l 3), (3, lk l 3)], rows, low⟩ r := reg (keep := [3]) (ops := c67r0) rfl (by kernel_rfl) (by kernel_rfl)
@[simp] theorem uc67s1 : Ex F cx (.code c67s1 :: k) s r ↔ Ex F cx (.code (.seq c67k0 .ret) :: k) s r := Iff.rfl
@[simp] theorem uc67k3 : Ex F cx (.code c67k3 :: k) ⟨mk 17 l, rows, low⟩ r ↔ bnd (evP rows (.bin .add (.c (lk l 8)) (.c (.int .i64 1)))) fun v0 => Ex F cx k ⟨mk 17 [(8, v0), (15, v0), (3, lk l 3), (6, lk l 6), (7, lk l 7), (8, lk l 8)], rows, low⟩ r := reg (keep := [3, 6, 7, 8]) (ops := c67r3) rfl (by kernel_rfl) (by kernel_rfl)
@[simp] theorem uc67k4 : Ex F cx (.code c67k4 :: k) ⟨mk 17 l, rows, low⟩ r ↔ bnd (evP rows (.bin .add (.c (lk l 3)) (.c (lk l 5)))) fun v0 => Ex F cx k ⟨mk 17 [(3, v0), (14, v0), (13, lk l 5), (12, lk l 3), (3, lk l 3), (5, lk l 5), (6, lk l 6), (7, lk l 7), (8, lk l 8)], rows, low⟩ r := reg (keep := [3, 5, 6, 7, 8]) (ops := c67r4) rfl (by kernel_rfl) (by kernel_rfl)
@[simp] theorem uc67k5 : Ex F cx (.code c67k5 :: k) ⟨mk 17 l, rows, low⟩ r ↔ bnd (evP rows (.idxS 1 (.c (lk l 6)) (.c (lk l 8)))) fun v0 => bnd (evP rows (.load1 (.c v0))) fun v1 => Ex F cx k ⟨mk 17 [(5, v1), (11, v1), (10, v0), (3, lk l 3), (6, lk l 6), (7, lk l 7), (8, lk l 8)], rows, low⟩ r := reg (keep := [3, 6, 7, 8]) (ops := c67r5) rfl (by kernel_rfl) (by kernel_rfl)
@[simp] theorem uc67s6 : Ex F cx (.code c67s6 :: k) s r ↔ Ex F cx (.code (.seq (.block 1 (.seq c67k5 c67k4)) c67k3) :: k) s r := Iff.rfl
@[simp] theorem uc67s7 : Ex F cx (.code c67s7 :: k) s r ↔ Ex F cx (.code (.seq (.cond (.t 9) .skip (.exit 0)) c67s6) :: k) s r := Iff.rfl
@[simp] theorem uc67k8 : Ex F cx (.code c67k8 :: k) ⟨mk 17 l, rows, low⟩ r ↔ bnd (evP rows (.bin .lss (.c (lk l 8)) (.c (lk l 7)))) fun v0 => Ex F cx k ⟨mk 17 [(9, v0), (3, lk l 3), (6, lk l 6), (7, lk l 7), (8, lk l 8)], rows, low⟩ r := reg (keep := [3, 6, 7, 8]) (ops := c67r8) rfl (by kernel_rfl) (by kernel_rfl)
@[simp] theorem uc67s9 : Ex F cx (.code c67s9 :: k) s r ↔ Ex F cx (.code (.block 0 (.loop c67l2)) :: k) s r := Iff.rfl
@[simp] theorem uc67k10 : Ex F cx (.code c67k10 :: k) ⟨mk 17 l, rows, low⟩ r ↔ bnd (evP rows (.len 0 (.c (lk l 0)))) fun v0 => Ex F cx k ⟨mk 17 [(8, (.int .i64 0)), (7, v0), (6, lk l 0), (0, lk l 0), (3, lk l 3)], rows, low⟩ r := reg (keep := [0, 3]) (ops := c67r10) rfl (by kernel_rfl) (by kernel_rfl)
@[simp] theorem uc67s11 : Ex F cx (.code c67s11 :: k) s r ↔ Ex F cx (.code (.seq (.seq c67k10 c67s9) c67s1) :: k) s r := Iff.rfl
@[simp] theorem uc67k12 : Ex F cx (.code c67k12 :: k) ⟨mk 17 l, rows, low⟩ r ↔ Ex F cx k ⟨mk 17 [(3, (.int .i64 0)), (0, lk l 0)], rows, low⟩ r := reg (keep := [0]) (ops := c67r12) rfl (by kernel_rfl) (by kernel_rfl)
@[simp] theorem uc67s13 : Ex F cx (.code c67s13 :: k) s r ↔ Ex F cx (.code (.seq c67k12 c67s11) :: k) s r := Iff.rfl
@[simp] theorem uc67k14 : Ex F cx (.code c67k14 :: k) ⟨mk 17 l, rows, low⟩ r ↔ Ex F cx k ⟨mk 17 [(2, (.int .i64 0)), (0, lk l 0)], rows, low⟩ r := reg (keep := [0]) (ops := c67r14) rfl (by kernel_rfl) (by kernel_rfl)
def Jc67s6 (F : Nat → Option IFn) (cx : Ctx) (x3 x6 x7 x8 : AV) (rows : List Row) (low : Nat) (r : AV × List Row × Nat → Prop) : Prop := Ex F cx (.code c67s6 :: .inLoop c67l2 :: .inBlock 0 :: .code c67s1 :: []) ⟨mk 17 [(3, x3), (6, x6), (7, x7), (8, x8)], rows, low⟩ r
theorem jc67s6 : Ex F cx (.code c67s6 :: .inLoop c67l2 :: .inBlock 0 :: .code c67s1 :: []) ⟨mk 17 l, rows, low⟩ r ↔ Jc67s6 F cx (lk l 3) (lk l 6) (lk l 7) (lk l 8) rows low r := Ex_canon (keep := [3, 6, 7, 8]) (by kernel_rfl)
def Lc67l2 (F : Nat → Option IFn) (cx : Ctx) (x3 x6 x7 x8 : AV) (rows : List Row) (low : Nat) (r : AV × List Row × Nat → Prop) : Prop := Ex F cx (.code c67l2 :: .inLoop c67l2 :: .inBlock 0 :: .code c67s1 :: []) ⟨mk 17 [(3, x3), (6, x6), (7, x7), (8, x8)], rows, low⟩ r
@[simp] theorem nc67l2 : Ex F cx (.inLoop c67l2 :: .inBlock 0 :: .code c67s1 :: []) ⟨mk 17 l, rows, low⟩ r ↔ Lc67l2 F cx (lk l 3) (lk l 6) (lk l 7) (lk l 8) rows low r := loopN (keep := [3, 6, 7, 8]) (by kernel_rfl)
@[simp] theorem ec67l2 : Ex F cx (.code (.loop c67l2) :: .inBlock 0 :: .code c67s1 :: []) ⟨mk 17 l, rows, low⟩ r ↔ Lc67l2 F cx (lk l 3) (lk l 6) (lk l 7) (lk l 8) rows low r := loopE (keep := [3, 6, 7, 8]) (by kernel_rfl)
@[simp] theorem uc67l2 : Ex F cx (.code c67l2 :: k) s r ↔ Ex F cx (.code (.seq c67k8 c67s7) :: k) s r := Iff.rfl
@[simp] theorem uc67b : Ex F cx (.code c67b :: k) s r ↔ Ex F cx (.code (.seq c67k14 c67s13) :: k) s r := Iff.rfl
theorem i67 {x0 : AV} (hF : F 67 = some c67) {q : AV × List Row × Option Nat} (h : Ex F (.fn [.t 2]) [.code c67b] ⟨mk 17 [(0, x0)], rows, rows.length⟩ fun r => fin rows r.1 r.2.1 r.2.2 = q) : Ret F 67 [x0] rows = some q := Ret_mk hF h
@[simp] theorem uc79k0 : Ex F cx (.code c79k0 :: k) ⟨mk 4 l, rows, low⟩ r ↔ bnd (evE rows low (.box (.c (lk l 1)))) fun q0 => Ex F cx k ⟨mk 4 [(3, q0.1), (1, lk l 1)], q0.2.1, q0.2.2⟩ r := reg (keep := [1]) (ops := c79r0) rfl (by kernel_rfl) (by kernel_rfl)
@[simp] theorem uc79b : Ex F cx (.code c79b :: k) s r ↔ Ex F cx (.code c79k0 :: k) s r := Iff.rfl
theorem i79 {x0 x1 : AV} (hF : F 79 = some c79) {q : AV × List Row × Option Nat} (h : Ex F (.fn []) [.code c79b] ⟨mk 4 [(0, x0), (1, x1)], rows, rows.length⟩ fun r => fin rows r.1 r.2.1 r.2.2 = q) : Ret F 79 [x0, x1] rows = some q := Ret_mk hF h
@[simp] theorem uc90k0 : Ex F cx (.code c90k0 :: k) ⟨mk 25 l, rows, low⟩ r ↔ Ex F cx k ⟨mk 25 [(2, lk l 3), (24, lk l 3), (3, lk l 3)], rows, low⟩ r := reg (keep := [3]) (ops := c90r0) rfl (by kernel_rfl) (by kernel_rfl)
@[simp] theorem uc90s1 : Ex F cx (.code c90s1 :: k) s r ↔ Ex F cx (.code (.seq c90k0 .ret) :: k) s r := Iff.rfl
@[simp] theorem uc90k3 : Ex F cx (.code c90k3 :: k) ⟨mk 25 l, rows, low⟩ r ↔ bnd (evP rows (.bin .add (.c (lk l 4)) (.c (.int .i64 1)))) fun v0 => Ex F cx k ⟨mk 25 [(4, v0), (17, v0), (16, lk l 4), (0, lk l 0), (3, lk l 3), (4, lk l 4)], rows, low⟩ r := reg (keep := [0, 3, 4]) (ops := c90r3) rfl (by kernel_rfl) (by kernel_rfl)
@[simp] theorem uc90k4 : Ex F cx (.code c90k4 :: k) ⟨mk 25 l, rows, low⟩ r ↔ bnd (evP rows (.idxS 1 (.c (lk l 0)) (.c (lk l 4)))) fun v0 => bnd (evP rows (.load1 (.c v0))) fun v1 => bnd (evP rows (.mx [(.c (lk l 3)), (.c v1)])) fun v2 => Ex F cx k ⟨mk 25 [(3, v2), (23, v2), (22, v1), (21, v0), (20, lk l 4), (19, lk l 0), (18, lk l 3), (0, lk l 0), (3, lk l 3), (4, lk l 4)], rows, low⟩ r := reg (keep := [0, 3, 4]) (ops := c90r4) rfl (by kernel_rfl) (by kernel_rfl)
@[simp] theorem uc90s5 : Ex F cx (.code c90s5 :: k) s r ↔ Ex F cx (.code (.seq (.block 1 c90k4) c90k3) :: k) s r := Iff.rfl
@[simp] theorem uc90s6 : Ex F cx (.code c90s6 :: k) s r ↔ Ex F cx (.code (.cond (.t 15) .skip (.exit 0)) :: k) s r := Iff.rfl
@[simp] theorem uc90k7 : Ex F cx (.code c90k7 :: k) ⟨mk 25 l, rows, low⟩ r ↔ bnd (evP rows (.len 0 (.c (lk l 0)))) fun v0 => bnd (evP rows (.bin .lss (.c (lk l 4)) (.c v0))) fun v1 => Ex F cx k ⟨mk 25 [(15, v1), (14, v0), (13, lk l 0), (12, lk l 4), (0, lk l 0), (3, lk l 3), (4, lk l 4)], rows, low⟩ r := reg (keep := [0, 3, 4]) (ops := c90r7) rfl (by kernel_rfl) (by kernel_rfl)
@[simp] theorem uc90s8 : Ex F cx (.code c90s8 :: k) s r ↔ Ex F cx (.code (.block 0 (.loop c90l2)) :: k) s r := Iff.rfl
@[simp] theorem uc90k9 : Ex F cx (.code c90k9 :: k) ⟨mk 25 l, rows, low⟩ r ↔ Ex F cx k ⟨mk 25 [(4, (.int .i64 1)), (0, lk l 0), (3, lk l 3)], rows, low⟩ r := reg (keep := [0, 3]) (ops := c90r9) rfl (by kernel_rfl) (by kernel_rfl)
@[simp] theorem uc90s10 : Ex F cx (.code c90s10 :: k) s r ↔ Ex F cx (.code (.seq (.seq c90k9 c90s8) c90s1) :: k) s r := Iff.rfl
@[simp] theorem uc90k11 : Ex F cx (.code c90k11 :: k) ⟨mk 25 l, rows, low⟩ r ↔ bnd (evP rows (.idxS 1 (.c (lk l 0)) (.c (.int .i64 0)))) fun v0 => bnd (evP rows (.load1 (.c v0))) fun v1 => Ex F cx k ⟨mk 25 [(3, v1), (11, v1), (10, v0), (9, lk l 0), (0, lk l 0)], rows, low⟩ r := reg (keep := [0]) (ops := c90r11) rfl (by kernel_rfl) (by kernel_rfl)
@[simp] theorem uc90s12 : Ex F cx (.code c90s12 :: k) s r ↔ Ex F cx (.code (.seq c90k11 c90s10) :: k) s r := Iff.rfl
@[simp] theorem uc90k13 : Ex F cx (.code c90k13 :: k) ⟨mk 25 l, rows, low⟩ r ↔ bnd (evP rows (.mkif 9 (.c (.str ⟨#[115, 108, 105, 99, 101, 115, 46, 77, 97, 120, 58, 32, 101, 109, 112, 116, 121, 32, 108, 105, 115, 116]⟩)))) fun v0 => bnd (evE rows low (.bad)) fun q1 => Ex F cx k ⟨mk 25 [(8, v0), (0, lk l 0)], q1.2.1, q1.2.2⟩ r := reg (keep := [0]) (ops := c90r13) rfl (by kernel_rfl) (by kernel_rfl)
@[simp] theorem uc90s14 : Ex F cx (.code c90s14 :: k) s r ↔ Ex F cx (.code (.cond (.t 7) c90k13 .skip) :: k) s r := Iff.rfl
@[simp] theorem uc90k15 : Ex F cx (.code c90k15 :: k) ⟨mk 25 l, rows, low⟩ r ↔ bnd (evP rows (.len 0 (.c (lk l 0)))) fun v0 => bnd (evP rows (.bin .lss (.c v0) (.c (.int .i64 1)))) fun v1 => Ex F cx k ⟨mk 25 [(7, v1), (6, v0), (5, lk l 0), (0, lk l 0)], rows, low⟩ r := reg (keep := [0]) (ops := c90r15) rfl (by kernel_rfl) (by kernel_rfl)
@[simp] theorem uc90s16 : Ex F cx (.code c90s16 :: k) s r ↔ Ex F cx (.code (.seq (.seq c90k15 c90s14) c90s12) :: k) s r := Iff.rfl
@[simp] theorem uc90k17 : Ex F cx (.code c90k17 :: k) ⟨mk 25 l, rows, low⟩ r ↔ Ex F cx k ⟨mk 25 [(2, (.int .i64 0)), (0, lk l 0)], rows, low⟩ r := reg (keep := [0]) (ops := c90r17) rfl (by kernel_rfl) (by kernel_rfl)
def Jc90s5 (F : Nat → Option IFn) (cx : Ctx) (x0 x3 x4 : AV) (rows : List Row) (low : Nat) (r : AV × List Row × Nat → Prop) : Prop := Ex F cx (.code c90s5 :: .inLoop c90l2 :: .inBlock 0 :: .code c90s1 :: []) ⟨mk 25 [(0, x0), (3, x3), (4, x4)], rows, low⟩ r
theorem jc90s5 : Ex F cx (.code c90s5 :: .inLoop c90l2 :: .inBlock 0 :: .code c90s1 :: []) ⟨mk 25 l, rows, low⟩ r ↔ Jc90s5 F cx (lk l 0) (lk l 3) (lk l 4) rows low r := Ex_canon (keep := [0, 3, 4]) (by kernel_rfl)
def Lc90l2 (F : Nat → Option IFn) (cx : Ctx) (x0 x3 x4 : AV) (rows : List Row) (low : Nat) (r : AV × List Row × Nat → Prop) : Prop := Ex F cx (.code c90l2 :: .inLoop c90l2 :: .inBlock 0 :: .code c90s1 :: []) ⟨mk 25 [(0, x0), (3, x3), (4, x4)], rows, low⟩ r
@[simp] theorem nc90l2 : Ex F cx (.inLoop c90l2 :: .inBlock 0 :: .code c90s1 :: []) ⟨mk 25 l, rows, low⟩ r ↔ Lc90l2 F cx (lk l 0) (lk l 3) (lk l 4) rows low r := loopN (keep := [0, 3, 4]) (by kernel_rfl)
@[simp] theorem ec90l2 : Ex F cx (.code (.loop c90l2) :: .inBlock 0 :: .code c90s1 :: []) ⟨mk 25 l, rows, low⟩ r ↔ Lc90l2 F cx (lk l 0) (lk l 3) (lk l 4) rows low r := loopE (keep := [0, 3, 4]) (by kernel_rfl)
@[simp] theorem uc90l2 : Ex F cx (.code c90l2 :: k) s r ↔ Ex F cx (.code (.seq (.seq c90k7 c90s6) c90s5) :: k) s r := Iff.rfl
def Jc90s12 (F : Nat → Option IFn) (cx : Ctx) (x0 : AV) (rows : List Row) (low : Nat) (r : AV × List Row × Nat → Prop) : Prop := Ex F cx (.code c90s12 :: []) ⟨mk 25 [(0, x0)], rows, low⟩ r
theorem jc90s12 : Ex F cx (.code c90s12 :: []) ⟨mk 25 l, rows, low⟩ r ↔ Jc90s12 F cx (lk l 0) rows low r := Ex_canon (keep := [0]) (by kernel_rfl)
@[simp] theorem uc90b : Ex F cx (.code c90b :: k) s r ↔ Ex F cx (.code (.seq c90k17 c90s16) :: k) s r := Iff.rfl
theorem i90 {x0 : AV} (hF : F 90 = some c90) {q : AV × List Row × Option Nat} (h : Ex F (.fn [.t 2]) [.code c90b] ⟨mk 25 [(0, x0)], rows, rows.length⟩ fun r => fin rows r.1 r.2.1 r.2.2 = q) : Ret F 90 [x0] rows = some q := Ret_mk hF h
end Go.Abs

set_option linter.unusedVariables false
set_option linter.unusedSimpArgs false
namespace Go.Abs
open Rd (Cp IsL_one IsL_cells IsL_tail lowO_n)
theorem sum_bd {m : Int} : ∀ {l : List Int}, (∀ x ∈ l, 0 ≤ x ∧ x ≤ m) → 0 ≤ l.sum ∧ l.sum ≤ m * l.length
  | [], _ => by simp
  | x :: l, h => by
    have h1 := sum_bd (l := l) fun y hy => h y (List.mem_cons_of_mem _ hy)
    have h2 := h x List.mem_cons_self
    simp only [List.sum_cons, List.length_cons, Int.natCast_add, Int.mul_add, Int.cast_ofNat_Int, Int.mul_one]
    omega
theorem sum_take {l : List Int} {i : Nat} (h : i < l.length) : (l.take (i + 1)).sum = (l.take i).sum + gI l i := by
  rw [List.take_add_one, gI_get h]; simp
section
variable {rows : List Row}
theorem sum_loop {v : AV} {l : List Int} (h : IsL rows v l) (hb : ∀ x ∈ l, 0 ≤ x ∧ x ≤ 1000000000) (hl : l.length ≤ 1000) : ∀ (n i : Nat), l.length - i = n → i ≤ l.length →
    Lc67l2 F (.fn [.t 2]) (.int .i64 (l.take i).sum) v (.int .i64 l.length) (.int .i64 i) rows rows.length (fun r => fin rows r.1 r.2.1 r.2.2 = (.int .i64 l.sum, rows, none)) := by
  intro n
  induction n with
  | zero =>
    intro i hn h1
    have e : l.take i = l := List.take_of_length_le (by omega)
    unfold Lc67l2
    simp [show ¬ (i < l.length) by omega, e]
  | succ n ih =>
    intro i hn h1
    have hi : i < l.length := by omega
    have hs := sum_bd (l := l.take (i + 1)) (m := 1000000000) fun x hx => hb x (List.mem_of_mem_take hx)
    have hs2 : (l.take (i + 1)).length ≤ 1000 := by simp; omega
    have w1 : IntKind.i64.wrap ((i : Int) + 1) = i + 1 := wrap64 (by omega) (by omega)
    have w2 : IntKind.i64.wrap ((l.take i).sum + gI l i) = (l.take (i + 1)).sum := by
      rw [← sum_take hi]
      exact wrap64 (by omega) (by omega)
    have := ih (i + 1) (by omega) (by omega)
    unfold Lc67l2
    simp (disch := first | omega | (simp; done) | fail) [hi, idxL0 h, loadL0 h, w1, w2]
    simpa using this
/-- sum. -/
theorem sum_ret {v : AV} {l : List Int} (h : IsL rows v l) (hb : ∀ x ∈ l, 0 ≤ x ∧ x ≤ 1000000000) (hl : l.length ≤ 1000) : Ret F 67 [v] rows = some (.int .i64 l.sum, rows, none) := by
  refine i67 F67 ?_
  have := sum_loop h hb hl _ 0 rfl (by omega)
  simp [lenL0 h]
  simpa using this
/-- The greatest number of a list. -/
def fmax (l : List Int) : Int := l.foldl max (gI l 0)
theorem foldl_max_ge : ∀ (l : List Int) (a : Int), a ≤ l.foldl max a ∧ (∀ x ∈ l, x ≤ l.foldl max a) ∧ (l.foldl max a = a ∨ l.foldl max a ∈ l)
  | [], a => by simp
  | x :: l, a => by
    obtain ⟨h1, h2, h3⟩ := foldl_max_ge l (max a x)
    simp only [List.foldl_cons, List.mem_cons]
    refine ⟨by omega, ?_, ?_⟩
    · rintro y (rfl | hy)
      · omega
      · exact h2 y hy
    · rcases h3 with h3 | h3
      · rw [h3]; omega
      · exact .inr (.inr h3)
theorem fmax_ge {l : List Int} : ∀ x ∈ l, x ≤ fmax l := fun x hx => (foldl_max_ge l _).2.1 x hx
theorem fmax_take {l : List Int} {a : Int} {i : Nat} (h : i < l.length) : (l.take (i + 1)).foldl max a = max ((l.take i).foldl max a) (gI l i) := by
  rw [List.take_add_one, gI_get h]; simp
theorem max_loop {v : AV} {l : List Int} (h : IsL rows v l) (hl : l.length ≤ 1000) : ∀ (n i : Nat), l.length - i = n → i ≤ l.length →
    Lc90l2 F (.fn [.t 2]) v (.int .i64 ((l.take i).foldl max (gI l 0))) (.int .i64 i) rows rows.length (fun r => fin rows r.1 r.2.1 r.2.2 = (.int .i64 (fmax l), rows, none)) := by
  intro n
  induction n with
  | zero =>
    intro i hn h1
    have e : l.take i = l := List.take_of_length_le (by omega)
    unfold Lc90l2
    simp [lenL0 h, show ¬ (i < l.length) by omega, e, fmax]
  | succ n ih =>
    intro i hn h1
    have hi : i < l.length := by omega
    have w1 : IntKind.i64.wrap ((i : Int) + 1) = i + 1 := wrap64 (by omega) (by omega)
    have := ih (i + 1) (by omega) (by omega)
    rw [fmax_take hi] at this
    unfold Lc90l2
    simp (disch := first | omega | (simp; done) | fail) [hi, lenL0 h, idxL0 h, loadL0 h, w1]
    simpa using this
/-- slices.Max. -/
theorem max_ret {v : AV} {l : List Int} (h : IsL rows v l) (h0 : l ≠ []) (hl : l.length ≤ 1000) : Ret F 90 [v] rows = some (.int .i64 (fmax l), rows, none) := by
  have hp : 0 < l.length := List.length_pos_iff.2 h0
  have hm := max_loop h hl _ 1 rfl (by omega)
  have e : (l.take 1).foldl max (gI l 0) = gI l 0 := by
    have := fmax_take (l := l) (a := gI l 0) hp
    simpa using this
  rw [e] at hm
  refine i90 F90 ?_
  simp (disch := first | omega | (simp; done) | fail) [lenL0 h, idxL0 h (i := 0), loadL00 h, hp, show (1 : Int) ≤ l.length by omega, show ¬ (l.length < 1) by omega, h0]
  simpa using hm
/-- Weights that are right. -/
def wOK (n : Nat) (u : List Int) : Prop := u.length = n + 1 ∧ (u.all fun x => decide (0 ≤ x ∧ x ≤ 1000)) = true ∧ fmax u ≠ 0
instance (n : Nat) (u : List Int) : Decidable (wOK n u) := by unfold wOK; infer_instance
/-- openWeights, of costs that are right. -/
theorem openWeights_ret {cv uv : AV} {c u : List Int} (hc : IsL rows cv c) (hn : c.length ≤ 12) (hall : (c.all fun x => decide (1 ≤ x ∧ x ≤ 1000)) = true) (hu : IsL rows uv u) (hul : u.length < 4611686018427387904) : Ret F 65 [cv, uv] rows = some (.int .i64 (if wOK c.length u then 0 else 1), rows, none) := by
  have h1 := Check_ret hc (by omega)
  rw [if_pos ⟨hn, hall⟩] at h1
  have h2 := are_ret hu hul (lo := 0) (hi := 1000)
  have w1 : IntKind.i64.wrap ((c.length : Int) + 1) = c.length + 1 := wrap64 (by omega) (by omega)
  refine i65 F65 ?_
  by_cases e1 : u.length = c.length + 1
  · have e1' : (u.length : Int) = c.length + 1 := by omega
    have hne : u ≠ [] := by intro e; rw [e] at e1; simp at e1
    have h3 := max_ret hu hne (by omega)
    by_cases e2 : (u.all fun x => decide (0 ≤ x ∧ x ≤ 1000)) = true
    · rw [e2] at h2
      by_cases e3 : fmax u = 0
      · rw [e3] at h3
        rw [if_neg (by unfold wOK; simp [e3])]
        simp [h1, lenL0 hc, lenL0 hu, w1, e1', h2, h3]
      · rw [if_pos ⟨e1, e2, e3⟩]
        simp [h1, lenL0 hc, lenL0 hu, w1, e1', h2, h3, e3]
    · rw [Bool.not_eq_true] at e2
      rw [e2] at h2
      rw [if_neg (by unfold wOK; rw [e2]; simp)]
      simp [h1, lenL0 hc, lenL0 hu, w1, e1', h2]
  · have e1' : ¬ (u.length : Int) = c.length + 1 := by omega
    rw [if_neg (by unfold wOK; simp [e1])]
    simp [h1, lenL0 hc, lenL0 hu, w1, e1']
end
end Go.Abs

set_option linter.unusedVariables false
set_option linter.unusedSimpArgs false
namespace Go.Abs
open Rd (Cp IsL_one IsL_cells IsL_tail lowO_n)
def wst (x : Int) : Int := IntKind.i64.wrap ((IntKind.u64.wrap x).tmod 1001)
theorem wst_ok (x : Int) : 0 ≤ wst x ∧ wst x ≤ 1000 := by
  obtain ⟨u, hu, hu1⟩ := umodI (x := x) (m := 1001) (by omega) (by omega)
  unfold wst; rw [hu]; omega
/-- The weight at a place. -/
def wAt (l : List Int) (i : Nat) : Int := if i < l.length then wst (gI l i) else 0
def wl (l : List Int) (k : Nat) : List Int := (List.range k).map (wAt l)
@[simp] theorem wl_len {l : List Int} {k : Nat} : (wl l k).length = k := by simp [wl]
theorem wl_succ {l : List Int} {k : Nat} : wl l (k + 1) = wl l k ++ [wAt l k] := by simp [wl, List.range_succ]
theorem wAt_ok (l : List Int) (i : Nat) : 0 ≤ wAt l i ∧ wAt l i ≤ 1000 := by
  unfold wAt
  split
  · exact wst_ok _
  · omega
def wAny (l : List Int) (k : Nat) : Bool := (wl l k).any fun x => decide (0 < x)
theorem wAny_succ {l : List Int} {k : Nat} : wAny l (k + 1) = (wAny l k || decide (0 < wAt l k)) := by
  unfold wAny; rw [wl_succ, List.any_append]; simp
/-- weights. -/
def wts (l : List Int) (n : Nat) : List Int := if wAny l (n + 1) = true then wl l (n + 1) else (wl l (n + 1)).set 0 1
theorem wts_len (l : List Int) (n : Nat) : (wts l n).length = n + 1 := by unfold wts; split <;> simp
theorem wts_ok (l : List Int) (n : Nat) : wOK n (wts l n) := by
  have h1 : ∀ x ∈ wl l (n + 1), 0 ≤ x ∧ x ≤ 1000 := by
    intro x hx
    obtain ⟨i, _, rfl⟩ := List.mem_map.1 hx
    exact wAt_ok l i
  refine ⟨wts_len l n, ?_, ?_⟩
  · rw [List.all_eq_true]
    intro x hx
    have : 0 ≤ x ∧ x ≤ 1000 := by
      unfold wts at hx
      split at hx
      · exact h1 x hx
      · rcases List.mem_or_eq_of_mem_set hx with hx | rfl
        · exact h1 x hx
        · omega
    simp [this]
  · unfold wts
    split
    · rename_i h
      unfold wAny at h
      rw [List.any_eq_true] at h
      obtain ⟨x, hx, h2⟩ := h
      have := fmax_ge x hx
      simp at h2
      omega
    · have hm : (1 : Int) ∈ (wl l (n + 1)).set 0 1 := List.mem_of_getElem? (i := 0) (by rw [List.getElem?_set_self (by simp)])
      have := fmax_ge _ hm
      omega
section
variable {rows : List Row}
theorem weights_loop {v : AV} {l : List Int} (h : IsL rows v l) {n : Nat} (hn : n ≤ 1000) : ∀ (d i : Nat) (H : List Row), n + 1 - i = d → i ≤ n + 1 →
    Lc34l6 F (.fn [.t 4]) v (.int .i64 n) (accV rows H (wl l i)) (.bool (wAny l i)) (.int .i64 i) (rows ++ accR H (wl l i)) rows.length (fun r => fin rows r.1 r.2.1 r.2.2 = newL rows (wts l n)) := by
  intro d
  induction d with
  | zero =>
    intro i H hd h1
    have : i = n + 1 := by omega
    subst this
    unfold Lc34l6
    cases hb : wAny l (n + 1) with
    | true =>
      have e : wts l n = wl l (n + 1) := by unfold wts; rw [if_pos hb]
      rw [e]
      simp [show ¬ ((n : Int) + 1 ≤ n) by omega]
      exact acc_fin
    | false =>
      have e : wts l n = (wl l (n + 1)).set 0 1 := by unfold wts; rw [if_neg (by rw [hb]; simp)]
      have hl := wl_len (l := l) (k := n + 1)
      rw [e]
      generalize wl l (n + 1) = w at hl
      cases w with
      | nil => simp at hl
      | cons x w =>
        have i0 : idx? 0 (w.length + 1) = some 0 := by rw [idx?_ok (by omega) (by omega)]; rfl
        simp [show ¬ ((n : Int) + 1 ≤ n) by omega, accV, accR, nums, i0]
        have := acc_fin (rows := rows) (H := H) (l := 1 :: w)
        simpa [accV, accR, nums] using this
  | succ d ih =>
    intro i H hd h1
    have hi : (i : Int) ≤ n := by omega
    have w1 : IntKind.i64.wrap ((i : Int) + 1) = i + 1 := wrap64 (by omega) (by omega)
    obtain ⟨H', hap⟩ := acc_app (rows := rows) (H := H) (l := wl l i) (x := wAt l i) (by simp; omega)
    have hk := ih (i + 1) H' (by omega) (by omega)
    rw [wl_succ, wAny_succ] at hk
    have hw := wAt_ok l i
    unfold Lc34l6
    by_cases hil : i < l.length
    · have ew : IntKind.i64.wrap ((IntKind.u64.wrap (gI l i)).tmod 1001) = wAt l i := by unfold wAt; rw [if_pos hil]; rfl
      cases hb : wAny l i with
      | true =>
        rw [hb] at hk
        simp (disch := first | omega | (simp; done) | fail) [hi, hil, lenL h, idxL h, loadL h, w1, ew, fillA, splice, hap]
        simpa using hk
      | false =>
        rw [hb] at hk
        simp (disch := first | omega | (simp; done) | fail) [hi, hil, lenL h, idxL h, loadL h, w1, ew, fillA, splice, hap]
        simpa using hk
    · have ew : wAt l i = 0 := by unfold wAt; rw [if_neg hil]
      rw [ew] at hap hk
      cases hb : wAny l i with
      | true =>
        rw [hb] at hk
        simp (disch := first | omega | (simp; done) | fail) [hi, hil, lenL h, w1, fillA, splice, hap]
        simpa using hk
      | false =>
        rw [hb] at hk
        simp (disch := first | omega | (simp; done) | fail) [hi, hil, lenL h, w1, fillA, splice, hap]
        simpa using hk
/-- weights. -/
theorem weights_ret {v : AV} {l : List Int} (h : IsL rows v l) {n : Nat} (hn : n ≤ 1000) : Ret F 34 [v, .int .i64 n] rows = some (newL rows (wts l n)) := by
  refine i34 F34 ?_
  have := weights_loop h hn _ 0 [] rfl (by omega)
  simp
  simpa [accV, accR, wl, wAny] using this
/-- The sum of products. -/
def dot (w l : List Int) : Nat → Int
  | 0 => 0
  | k + 1 => dot w l k + gI w k * gI l k
theorem dot_bd {w l : List Int} : ∀ (k : Nat), (∀ i, i < k → 0 ≤ gI w i * gI l i ∧ gI w i * gI l i ≤ 1000000000) → 0 ≤ dot w l k ∧ dot w l k ≤ 1000000000 * k
  | 0, _ => by simp [dot]
  | k + 1, h => by
    have h1 := dot_bd k fun i hi => h i (by omega)
    have h2 := h k (by omega)
    simp only [dot]
    omega
theorem rweighed_loop {wv lv : AV} {w l : List Int} (hw : IsL rows wv w) (hl : IsL rows lv l) (hlen : l.length ≤ w.length) (hb : ∀ i, i < l.length → 0 ≤ gI w i * gI l i ∧ gI w i * gI l i ≤ 1000000000) (hl1 : l.length ≤ 1000) : ∀ (n i : Nat), l.length - i = n → i ≤ l.length →
    Lc38l2 F (.fn [.t 4]) wv lv (.int .i64 (dot w l i)) (.int .i64 i) rows rows.length (fun r => fin rows r.1 r.2.1 r.2.2 = (.int .i64 (dot w l l.length), rows, none)) := by
  intro n
  induction n with
  | zero =>
    intro i hn h1
    have e : i = l.length := by omega
    subst e
    unfold Lc38l2
    simp [lenL0 hl]
  | succ n ih =>
    intro i hn h1
    have hi : i < l.length := by omega
    have w1 : IntKind.i64.wrap ((i : Int) + 1) = i + 1 := wrap64 (by omega) (by omega)
    have hd := dot_bd (w := w) (l := l) (i + 1) fun j hj => hb j (by omega)
    have hp := hb i hi
    have w2 : IntKind.i64.wrap (gI w i * gI l i) = gI w i * gI l i := wrap64 (by omega) (by omega)
    have w3 : IntKind.i64.wrap (dot w l i + gI w i * gI l i) = dot w l (i + 1) := by
      show IntKind.i64.wrap (dot w l (i + 1)) = _
      exact wrap64 (by omega) (by omega)
    have := ih (i + 1) (by omega) (by omega)
    unfold Lc38l2
    simp (disch := first | omega | (simp; done) | fail) [hi, lenL0 hl, idxL0 hl, loadL0 hl, idxL0 hw, loadL0 hw, w1, w2, w3]
    simpa using this
/-- R.Weighed. -/
theorem rweighed_ret {wv lv : AV} {w l : List Int} (hw : IsL rows wv w) (hl : IsL rows lv l) (hlen : l.length ≤ w.length) (hb : ∀ i, i < l.length → 0 ≤ gI w i * gI l i ∧ gI w i * gI l i ≤ 1000000000) (hl1 : l.length ≤ 1000) : Ret F 38 [wv, lv] rows = some (.int .i64 (dot w l l.length), rows, none) := by
  refine i38 F38 ?_
  have := rweighed_loop hw hl hlen hb hl1 _ 0 rfl (by omega)
  simp
  simpa [dot] using this
end
end Go.Abs

set_option linter.unusedVariables false
set_option linter.unusedSimpArgs false
namespace Go.Abs
open Rd (Cp IsL_one IsL_cells IsL_tail lowO_n)
theorem mul_bd {x y m n : Int} (hx : 0 ≤ x ∧ x ≤ m) (hy : 0 ≤ y ∧ y ≤ n) : 0 ≤ x * y ∧ x * y ≤ m * n :=
  ⟨Int.mul_nonneg hx.1 hy.1, Int.mul_le_mul hx.2 hy.2 hy.1 (by omega)⟩
end Go.Abs

set_option linter.unusedVariables false
set_option linter.unusedSimpArgs false
namespace Go.Abs
open Rd (Cp IsL_one IsL_cells IsL_tail lowO_n)
def oR (base n i : Nat) : List AV := (List.range n).map fun j => if j < i then .nilslice else .slice (base + (n - j)) 0 n (.at_ n)
def Rw (n i : Nat) (f : Nat → Nat → Int) : List Row := (List.range (n - i)).map fun t => .cells (nums .i64 (tab n (f (n - 1 - t))))
def LR (rows : List Row) (n i : Nat) (f : Nat → Nat → Int) : List Row := rows ++ (.cells (oR rows.length n i) :: Rw n i f)
section
variable {rows : List Row} {n i j k : Nat} {f : Nat → Nat → Int}
@[simp] theorem oR_len {base : Nat} : (oR base n i).length = n := by simp [oR]
end
end Go.Abs

set_option linter.unusedVariables false
set_option linter.unusedSimpArgs false
namespace Go.Abs
open Rd (Cp IsL_one IsL_cells IsL_tail lowO_n)
/-- The least worst price with costs 1. -/
def hK (n : Nat) : Int := [0, 1, 2, 2, 3, 3, 3, 3, 4, 4, 4, 4, 4].getD n 0
section
variable {c u T T2 : List Int} {n : Nat}
end
end Go.Abs

set_option linter.unusedVariables false
set_option linter.unusedSimpArgs false
namespace Go.Abs
open Rd (Cp IsL_one IsL_cells IsL_tail lowO_n)
/-- Whether a list is a plan does not depend on what is done meanwhile. -/
theorem rdP_indep {α β : Type} (st : α → Int → Int → Int → α) (st' : β → Int → Int → Int → β) : ∀ (n : Nat) (a b : Int) (l : List Int) (t : α) (t' : β), (rdP st n a b l t).1 = (rdP st' n a b l t').1 ∧ (rdP st n a b l t).2.1 = (rdP st' n a b l t').2.1
  | 0, _, _, _, _, _ => ⟨rfl, rfl⟩
  | n + 1, a, b, l, t, t' => by
    unfold rdP
    by_cases h : a = b
    · simp [h]
    · simp only [h, if_false]
      cases l with
      | nil => exact ⟨rfl, rfl⟩
      | cons g l =>
        simp only
        by_cases h2 : g < a ∨ b ≤ g
        · simp [h2]
        · simp only [h2, if_false]
          have ih := rdP_indep st st' n a g l (st t g a b) (st' t' g a b)
          generalize rdP st n a g l (st t g a b) = q at *
          generalize rdP st' n a g l (st' t' g a b) = q' at *
          obtain ⟨x, y, z⟩ := q
          obtain ⟨x', y', z'⟩ := q'
          obtain ⟨h3, h4⟩ := ih
          have h3 : x = x' := h3
          have h4 : y = y' := h4
          subst h3 h4
          cases x with
          | false => exact ⟨rfl, rfl⟩
          | true => exact rdP_indep st st' n (g + 1) b y z z'
section
variable {rows : List Row}
theorem each0_ret {g a b : Int} : Ret F 79 [.int .i64 g, pt a b] rows = some (.tup [], rows, none) := by
  refine i79 F79 ?_
  simp
/-- IsPlan: what 'read' is given. -/
def DI (rows : List Row) (n : Nat) : Rd Unit Unit where
  R0 := rows
  E _ := []
  eN := 0
  nb := n
  lo := rows.length
  own _ := []
  fid := 79
  cs := []
  st _ _ _ _ := ()
  P _ _ _ := True
  B _ _ := True
theorem DI_ok {n : Nat} (hn : n ≤ 12) : (DI rows n).OK := by
  refine ⟨fun _ _ _ _ _ _ => trivial, fun _ _ _ _ _ => trivial, hn, Nat.le_refl _, ?_, fun _ => rfl, fun _ _ _ _ _ => trivial, fun _ _ _ _ _ _ _ => trivial, fun _ _ _ _ _ _ _ => trivial, fun _ _ _ _ => rfl, ?_⟩
  · intro t s h i _ hi; simp [DI] at hi
  · intro t s pv w G g a b _ _ _ _ _ _
    exact ⟨(), G, none, each0_ret, trivial, Rd.Fr.refl, .inl ⟨rfl, rfl⟩⟩
/-- Is a list a plan? -/
def isPl (n : Nat) (l : List Int) : Bool := (rdP (fun (t : Unit) _ _ _ => t) n 0 n l ()).1 && (rdP (fun (t : Unit) _ _ _ => t) n 0 n l ()).2.1.isEmpty
theorem isPl_prices {c l : List Int} : isPl c.length l = (pricesF c l).isSome := by
  obtain ⟨h1, h2⟩ := rdP_indep (fun (t : Unit) _ _ _ => t) (addP c) c.length 0 c.length l () (fun _ => 0)
  unfold isPl pricesF
  rw [h1, h2]
  rcases rdP (addP c) c.length 0 c.length l (fun _ => 0) with ⟨x, y, z⟩
  cases x <;> cases y <;> rfl
/-- search.IsPlan. -/
theorem IsPlan_ret {cv pv : AV} {c l : List Int} (hc : IsL rows cv c) (hn : c.length ≤ 12) (hall : (c.all fun x => decide (1 ≤ x ∧ x ≤ 1000)) = true) (hl : IsL rows pv l) (hp : Cp 1 pv) : Ret F 43 [cv, pv] rows = some (.tup [.bool (isPl c.length l), .int .i64 0], rows, none) := by
  have h1 := Check_ret hc (by omega)
  rw [if_pos ⟨hn, hall⟩] at h1
  have hw := whole_ret hc
  obtain ⟨s', G', d, hr, _, hd⟩ := Rd.read_ret (DI_ok (rows := rows) hn) (n := c.length) (Nat.le_refl _) (l := l) (t := ()) (s := ()) (pv := pv) hl hp trivial trivial
  have e0 : (DI rows c.length).R0 ++ (DI rows c.length).E () = rows := by simp [DI]
  rw [e0] at hr
  have hb : ((rdP (DI rows c.length).st c.length 0 c.length l ()).1 && (rdP (DI rows c.length).st c.length 0 c.length l ()).2.1.isEmpty) = isPl c.length l := rfl
  rw [hb] at hr
  have hr' : Ret F 62 [pv, pt 0 c.length, .func 79 []] rows = _ := hr
  have hlow : lowO rows.length d = rows.length := by
    rcases hd with ⟨rfl, _⟩ | ⟨lw, rfl, h2, _⟩
    · rfl
    · exact lower_ge h2
  refine i43 F43 ?_
  simp [-lowO, lowO_n, h1, hw, hr', hlow]
theorem tab_sum (f : Nat → Int) : ∀ k, (tab (k + 1) f).sum = (tab k f).sum + f k := by
  intro k
  unfold tab
  rw [List.range_succ, List.map_append, List.sum_append]
  simp
theorem dot_sum {u : List Int} {f : Nat → Int} {n : Nat} : ∀ k, k ≤ n → dot u (tab n f) k = (tab k fun i => f i * gI u i).sum := by
  intro k
  induction k with
  | zero => intro _; simp [dot, tab]
  | succ k ih =>
    intro h
    rw [tab_sum, ← ih (by omega)]
    simp only [dot]
    rw [gI_eq (l := tab n f) (by simp; omega), tab_getE, Int.mul_comm]
theorem priceOf_loop {uv : AV} {u : List Int} {n : Nat} {g : Nat → Int} (hu : IsL rows uv u) (hul : u.length = n + 1) (hn : n ≤ 12) (hub : ∀ x ∈ u, 0 ≤ x ∧ x ≤ 1000) (hg : ∀ i, i ≤ n → 0 ≤ g i ∧ g i ≤ 1000000) : ∀ (d i : Nat), n + 1 - i = d → i ≤ n + 1 →
    Lc44l2 F (.fn [.t 6, .t 7]) (.slice rows.length 0 (n + 1) (.at_ (n + 1))) uv (.int .i64 (n + 1 : Nat)) (.int .i64 i) (rows ++ [.cells (nums .i64 (tab (n + 1) fun j => if j < i then g j * gI u j else g j))]) rows.length
      (fun r => fin rows r.1 r.2.1 r.2.2 = (.tup [.int .i64 (tab (n + 1) fun j => g j * gI u j).sum, .int .i64 0], rows, none)) := by
  have hub' : ∀ i, i ≤ n → 0 ≤ gI u i ∧ gI u i ≤ 1000 := fun i hi => hub _ (gI_mem (by omega))
  intro d
  induction d with
  | zero =>
    intro i hd h1
    have hi : i = n + 1 := by omega
    subst hi
    have e : (tab (n + 1) fun j => if j < n + 1 then g j * gI u j else g j) = tab (n + 1) fun j => g j * gI u j := tab_congr fun j hj => by rw [if_pos hj]
    rw [e]
    have hs := sum_ret (rows := rows ++ [.cells (nums .i64 (tab (n + 1) fun j => g j * gI u j))]) (v := .slice rows.length 0 (n + 1) (.at_ (n + 1))) (l := tab (n + 1) fun j => g j * gI u j) (IsL_new (L := []) (by simp)) (fun x hx => by
      obtain ⟨j, hj, rfl⟩ := List.mem_map.1 hx
      rw [List.mem_range] at hj
      have := mul_bd (hg j (by omega)) (hub' j (by omega))
      omega) (by simp; omega)
    unfold Lc44l2
    simp [hs]
  | succ d ih =>
    intro i hd h1
    have hi : i < n + 1 := by omega
    have w1 : IntKind.i64.wrap ((i : Int) + 1) = i + 1 := wrap64 (by omega) (by omega)
    have hm := mul_bd (hg i (by omega)) (hub' i (by omega))
    have w2 : IntKind.i64.wrap (g i * gI u i) = g i * gI u i := wrap64 (by omega) (by omega)
    have := ih (i + 1) (by omega) (by omega)
    have e : (tab (n + 1) fun j => if j < i then g j * gI u j else g j).set i (g i * gI u i) = tab (n + 1) fun j => if j < i + 1 then g j * gI u j else g j := by
      rw [tab_set]
      apply tab_congr
      intro j hj
      by_cases e1 : j = i
      · subst e1; simp
      · by_cases e2 : j < i
        · simp [e1, e2, show j < i + 1 by omega]
        · simp [e1, e2, show ¬ j < i + 1 by omega]
    unfold Lc44l2
    simp (disch := first | omega | (simp; done) | fail) [idxL hu, loadL hu, hul, hi, show (i : Int) < (n : Int) + 1 by omega, w1, w2, e]
    simpa using this
/-- search.PriceOf, of what is right. -/
theorem PriceOf_ret {cv uv pv : AV} {c u l : List Int} (hc : IsL rows cv c) (hn : c.length ≤ 12) (hall : (c.all fun x => decide (1 ≤ x ∧ x ≤ 1000)) = true) (hu : IsL rows uv u) (hw : wOK c.length u) (hl : IsL rows pv l) (hp : Cp 1 pv) (hb : ∀ f, pricesF c l = some f → ∀ i, i ≤ c.length → 0 ≤ f i ∧ f i ≤ 1000000) : Ret F 44 [cv, uv, pv] rows = some (match pricesF c l with
    | some f => (.tup [.int .i64 (dot u (tab (c.length + 1) f) (c.length + 1)), .int .i64 0], rows, none)
    | none => (.tup [.int .i64 0, .int .i64 1], rows, none)) := by
  have hul := hw.1
  have h1 := openWeights_ret hc hn hall hu (by omega)
  rw [if_pos hw] at h1
  have h2 := prices_ret hc hn hl hp
  have hub : ∀ x ∈ u, 0 ≤ x ∧ x ≤ 1000 := fun x hx => by have := List.all_eq_true.1 hw.2.1 x hx; simpa using this
  refine i44 F44 ?_
  cases hf : pricesF c l with
  | none =>
    rw [hf] at h2
    simp [h1, h2]
  | some f =>
    rw [hf] at h2
    have := priceOf_loop hu hul hn hub (hb f hf) _ 0 rfl (by omega)
    simp only
    rw [dot_sum _ (Nat.le_refl _)]
    simp [h1, h2, lenL hu, hul]
    simpa using this
end
end Go.Abs

set_option linter.unusedVariables false
set_option linter.unusedSimpArgs false
namespace Go.Abs
open Rd (Cp IsL_one IsL_cells IsL_tail lowO_n)
theorem opn_rdA {p : List Int} {i : Int} : ∀ (m at_ : Nat) (a b : Int) (t : List Int), 0 ≤ a → a ≤ b → at_ ≤ p.length → b - a ≤ m →
    match opn p m at_ a b with
    | none => (rdP (addA i) m a b (p.drop at_) t).1 = false
    | some (ls, n) => rdP (addA i) m a b (p.drop at_) t = (true, p.drop n, t ++ if a ≤ i ∧ i ≤ b then gLL ls (i - a).toNat else []) := by
  intro m
  have base : ∀ (a : Int) (t : List Int), t = t ++ if a ≤ i ∧ i ≤ a then gLL [[]] (i - a).toNat else [] := by
    intro a t
    split
    · rw [show (i - a).toNat = 0 from by omega]; simp [gLL]
    · simp
  induction m with
  | zero =>
    intro at_ a b t h0 h1 h2 h3
    have : a = b := by omega
    subst this
    unfold opn
    simp only [if_true]
    rw [← base a t]; rfl
  | succ m ih =>
    intro at_ a b t h0 h1 h2 h3
    unfold opn
    by_cases he : a = b
    · subst he
      simp only [if_true]
      rw [← base a t]; simp [rdP]
    · simp only [he, if_false]
      by_cases hc : at_ < p.length ∧ a ≤ gI p at_ ∧ gI p at_ < b
      · rw [if_pos hc]
        have hr : ∀ t, rdP (addA i) (m + 1) a b (p.drop at_) t = match rdP (addA i) m a (gI p at_) (p.drop (at_ + 1)) (addA i t (gI p at_) a b) with
          | (false, l', t') => (false, l', t')
          | (true, l', t') => rdP (addA i) m (gI p at_ + 1) b l' t' := by
          intro t
          rw [drop_eq hc.1]
          simp only [rdP, he, if_false]
          rw [if_neg (by omega)]
          rcases rdP (addA i) m a (gI p at_) (p.drop (at_ + 1)) (addA i t (gI p at_) a b) with ⟨z1, z2, z3⟩
          cases z1 <;> rfl
        have i1 := ih (at_ + 1) a (gI p at_) (addA i t (gI p at_) a b) h0 hc.2.1 (by omega) (by omega)
        rw [hr]
        cases hx : opn p m (at_ + 1) a (gI p at_) with
        | none =>
          simp only [hx] at i1
          dsimp only
          generalize rdP (addA i) m a (gI p at_) (p.drop (at_ + 1)) (addA i t (gI p at_) a b) = z at *
          obtain ⟨z1, z2, z3⟩ := z
          simp only at i1
          subst i1
          rfl
        | some q1 =>
          obtain ⟨x, n1⟩ := q1
          simp only [hx] at i1
          dsimp only
          have l1 := opn_len _ _ _ _ _ _ hx hc.2.1 (by omega)
          rw [i1]
          have i2 := ih n1 (gI p at_ + 1) b (addA i t (gI p at_) a b ++ if a ≤ i ∧ i ≤ gI p at_ then gLL x (i - a).toNat else []) (by omega) (by omega) l1.2.1 (by omega)
          cases hy : opn p m n1 (gI p at_ + 1) b with
          | none =>
            simp only [hy] at i2
            dsimp only
            exact i2
          | some q2 =>
            obtain ⟨y, n2⟩ := q2
            simp only [hy] at i2
            dsimp only
            rw [i2]
            have l2 := opn_len _ _ _ _ _ _ hy (by omega) l1.2.1
            have hx1 := l1.2.2.1
            have hy1 := l2.2.2.1
            congr 2
            unfold addA
            by_cases hi : a ≤ i ∧ i ≤ b
            · simp only [if_pos hi]
              rw [gLL_map (by simp; omega)]
              by_cases h4 : i ≤ gI p at_
              · rw [if_pos ⟨hi.1, h4⟩, if_neg (by omega), gLL_app1 (by omega)]
                simp
              · rw [if_neg (by omega), if_pos (by omega), gLL_app2 (by omega), show (i - a).toNat - x.length = (i - (gI p at_ + 1)).toNat from by omega]
                simp
            · rw [if_neg hi, if_neg (by omega), if_neg (by omega), if_neg hi]
              simp
      · rw [if_neg hc]
        dsimp only
        by_cases h5 : at_ < p.length
        · rw [drop_eq h5]
          simp only [rdP, he, if_false]
          rw [if_pos (by omega)]
        · rw [List.drop_eq_nil_of_le (by omega)]
          simp [rdP, he]
theorem answerF_opn {p : List Int} {n i : Nat} (hi : i ≤ n) {ls : List (List Int)} (h : opnAll p n = some ls) : answerF n i p = some (gLL ls i) := by
  have h1 := opn_rdA (p := p) (i := (i : Int)) n 0 0 n [] (by omega) (by omega) (by omega) (by omega)
  unfold opnAll at h
  unfold answerF
  rw [List.drop_zero] at h1
  cases ho : opn p n 0 0 n with
  | none => rw [ho] at h; simp at h
  | some q =>
    obtain ⟨ls', k⟩ := q
    rw [ho] at h
    simp only [ho] at h1
    simp only at h
    by_cases hk : k = p.length
    · rw [if_pos hk] at h
      injection h with h
      subst h
      rw [h1, hk, List.drop_length, if_pos (by omega)]
      simp
    · rw [if_neg hk] at h; simp at h
/-- Is a list a plan: the program and the reference agree. -/
theorem isPl_opn {c p : List Int} (hcx : ∀ x ∈ c, 0 ≤ x ∧ x ≤ 1000) (hn : c.length ≤ 12) : isPl c.length p = (opnAll p c.length).isSome := by
  rw [isPl_prices (c := c)]
  have h := pricesF_opn (p := p) hcx hn
  cases ho : opnAll p c.length with
  | none => rw [ho] at h; simp only at h; rw [h]; rfl
  | some ls => rw [ho] at h; obtain ⟨f, e, _⟩ := h; rw [e]; rfl
/-- What a plan's prices are. -/
theorem prices_opn {c p : List Int} (hcx : ∀ x ∈ c, 0 ≤ x ∧ x ≤ 1000) (hn : c.length ≤ 12) {ls : List (List Int)} (ho : opnAll p c.length = some ls) : ∃ f, pricesF c p = some f ∧ tab (c.length + 1) f = ls.map (sumG c) ∧ ls.length = c.length + 1 ∧ (∀ l ∈ ls, l.length ≤ 12 ∧ ∀ g ∈ l, 0 ≤ g ∧ g < c.length) ∧ ∀ i, i ≤ c.length → 0 ≤ f i ∧ f i ≤ 12000 := by
  have h := pricesF_opn (p := p) hcx hn
  rw [ho] at h
  obtain ⟨f, e, hl, hf⟩ := h
  have hall : ∀ l ∈ ls, l.length ≤ 12 ∧ ∀ g ∈ l, 0 ≤ g ∧ g < c.length := by
    unfold opnAll at ho
    cases ho' : opn p c.length 0 0 c.length with
    | none => rw [ho'] at ho; simp at ho
    | some q =>
      obtain ⟨ls', k⟩ := q
      rw [ho'] at ho
      simp only at ho
      by_cases hk : k = p.length
      · rw [if_pos hk] at ho
        injection ho with ho
        subst ho
        intro l hl
        have := (opn_len _ _ _ _ _ _ ho' (by omega) (by omega)).2.2.2 l hl
        exact ⟨by omega, this.2⟩
      · rw [if_neg hk] at ho; simp at ho
  refine ⟨f, e, ?_, hl, hall, fun i hi => ?_⟩
  · apply List.ext_getElem?
    intro i
    rw [tab_get?, List.getElem?_map]
    by_cases hi : i < c.length + 1
    · rw [if_pos hi, gLL_get (by omega), hf i (by omega)]; rfl
    · rw [if_neg hi, List.getElem?_eq_none (by omega)]; rfl
  · rw [hf i hi]
    have hm := gLL_mem (vs := ls) (i := i) (by omega)
    have := sumG_bound hcx (gLL ls i) (hall _ hm).2
    have := (hall _ hm).1
    omega
section
variable {rows : List Row}
/-- search.Answer, of a plan. -/
theorem Answer_nl {cv pv : AV} {c l : List Int} {i : Nat} (hc : IsL rows cv c) (hn : c.length ≤ 12) (hall : (c.all fun x => decide (1 ≤ x ∧ x ≤ 1000)) = true) (hl : IsL rows pv l) (hp : Cp 1 pv) (hi : i ≤ c.length) {ls : List (List Int)} (h : opnAll l c.length = some ls) :
    Ret F 30 [cv, pv, .int .i64 i] rows = some (.tup [nlV rows.length (gLL ls i), .int .i64 0], rows ++ nlK (gLL ls i), none) := by
  have hA := Answer_ret (piece := (i : Int)) hc hn hall hl hp
  rw [answerF_opn hi h] at hA
  simp only at hA
  rw [if_pos (by omega)] at hA
  rw [hA]
  cases gLL ls i with
  | nil => simp [nlV, nlK]
  | cons x y => simp [nlV, nlK]
/-- The reference's Opened. -/
theorem Opened_all {p : List Int} (hpl : p.length < 4611686018427387904) {v : AV} {n : Nat} (h : IsL rows v p) (hn : n ≤ 12) : ∃ lv X, Ret F 31 [.int .i64 n, v] rows = some (.tup [lv, .bool (opnAll p n).isSome], rows ++ X, none) ∧ Und rows X ∧ ∀ ls, opnAll p n = some ls → IsLL (rows ++ X) lv ls := by
  have := Opened_ret hpl h hn
  unfold opnAll
  cases ho : opn p n 0 0 n with
  | none =>
    simp only [ho] at this
    exact ⟨.nilslice, [], by simpa using this, (fun y hy => by simp at hy), fun ls e => by simp at e⟩
  | some q =>
    obtain ⟨ls, k⟩ := q
    simp only [ho] at this
    obtain ⟨lv, X, h1, h2, h3⟩ := this
    refine ⟨lv, X, ?_, h3, ?_⟩
    · rw [h1]
      by_cases hk : k = p.length <;> simp [hk]
    · intro ls' e
      by_cases hk : k = p.length
      · simp only [hk, if_true, Option.some.injEq] at e
        subst e
        exact h2
      · simp [hk] at e
end
theorem Und_0 {rows H : List Row} (h : H.all (Row.under 0) = true) : Und rows H := fun y hy => und_mono (List.all_eq_true.1 h y hy) (Nat.zero_le _)
end Go.Abs

set_option linter.unusedVariables false
set_option linter.unusedSimpArgs false
namespace Go.Abs
open Rd (Cp IsL_one IsL_cells IsL_tail lowO_n)
def bls (l : List Bool) : List AV := l.map .bool
@[simp] theorem bls_len {l : List Bool} : (bls l).length = l.length := by simp [bls]
@[simp] theorem bls_set {l : List Bool} {i : Nat} {b : Bool} : (bls l).set i (.bool b) = bls (l.set i b) := by simp [bls, List.map_set]
def usedT (n : Nat) (s : List Int) : List Bool := (List.range n).map fun (j : Nat) => decide ((j : Int) ∈ s)
@[simp] theorem usedT_len {n : Nat} {s : List Int} : (usedT n s).length = n := by simp [usedT]
section
variable {R3 H1 : List Row} {low : Nat} {r : AV × List Row × Nat → Prop}
theorem newL_shape (rows : List Row) (l : List Int) : ∃ v K, newL rows l = (v, rows ++ K, none) ∧ IsL (rows ++ K) v l ∧ Cp 1 v ∧ K.all (Row.under 0) = true := by
  have h := newL_IsL (rows := rows) l
  cases l with
  | nil => exact ⟨.nilslice, [], by simp [newL], by simpa [newL] using h.1, h.2, rfl⟩
  | cons x l => exact ⟨_, [.cells (nums .i64 (x :: l))], rfl, h.1, h.2, by simp [Row.under, AV.under, nums]⟩
theorem newC_shape (rows : List Row) (l : List Int) {c : Cap} (hc : c = .op 1 ∨ c = .at_ l.length) : ∃ v K, newC rows l c = (v, rows ++ K, none) ∧ IsL (rows ++ K) v l ∧ Cp 1 v ∧ K.all (Row.under 0) = true := by
  have h := newC_IsL (rows := rows) l hc
  cases l with
  | nil => exact ⟨.nilslice, [], by simp [newC], by simpa [newC] using h.1, h.2, rfl⟩
  | cons x l => exact ⟨_, [.cells (nums .i64 (x :: l))], rfl, h.1, h.2, by simp [Row.under, AV.under, nums]⟩
end
end Go.Abs

set_option linter.unusedVariables false
set_option maxRecDepth 20000
set_option maxHeartbeats 4000000
namespace Go.Abs
variable {F : Nat → Option IFn} {cx : Ctx} {k : List Itm} {s : St} {l : List (Nat × AV)} {rows : List Row} {low : Nat} {r : AV × List Row × Nat → Prop}
def c11r0 : List Seg := [
  .one ⟨some 119, .call (.c (.func 22 [])) [], none⟩,
  .one ⟨some 6, .mv (.t 119), none⟩]
def c11k0 : ICode := .kill (dead 120 []) (.ops c11r0)
@[simp] theorem uc11k0 : Ex F cx (.code c11k0 :: k) ⟨mk 120 l, rows, low⟩ r ↔ bnd (Ret F 22 [] rows) fun q0 => Ex F cx k ⟨mk 120 [(6, q0.1), (119, q0.1)], q0.2.1, (lowO low q0.2.2)⟩ r := reg (keep := []) (ops := c11r0) rfl (by kernel_rfl) (by kernel_rfl)
def c11s1 : ICode := (.seq c11k0 .ret)
@[simp] theorem uc11s1 : Ex F cx (.code c11s1 :: k) s r ↔ Ex F cx (.code (.seq c11k0 .ret) :: k) s r := Iff.rfl
def c11r3 : List Seg := [
  .one ⟨some 33, .mv (.t 10), none⟩,
  .one ⟨some 34, .bin .add (.t 33) (.c (.int .i64 1)), none⟩,
  .one ⟨some 10, .mv (.t 34), none⟩]
def c11k3 : ICode := .kill (dead 120 [2, 7, 8, 9, 10]) (.ops c11r3)
@[simp] theorem uc11k3 : Ex F cx (.code c11k3 :: k) ⟨mk 120 l, rows, low⟩ r ↔ bnd (evP rows (.bin .add (.c (lk l 10)) (.c (.int .i64 1)))) fun v0 => Ex F cx k ⟨mk 120 [(10, v0), (34, v0), (33, lk l 10), (2, lk l 2), (7, lk l 7), (8, lk l 8), (9, lk l 9), (10, lk l 10)], rows, low⟩ r := reg (keep := [2, 7, 8, 9, 10]) (ops := c11r3) rfl (by kernel_rfl) (by kernel_rfl)
def c11r4 : List Seg := [
  .one ⟨some 115, .mv (.t 2), none⟩,
  .one ⟨some 116, .mv (.t 7), none⟩,
  .one ⟨some 117, .len 0 (.t 116), none⟩,
  .one ⟨some 118, .call (.c (.func 27 [])) [(.t 115), (.c (.int .i64 0)), (.t 117)], none⟩,
  .one ⟨some 9, .mv (.t 118), none⟩]
def c11k4 : ICode := .kill (dead 120 [2, 7, 8, 10]) (.ops c11r4)
@[simp] theorem uc11k4 : Ex F cx (.code c11k4 :: k) ⟨mk 120 l, rows, low⟩ r ↔ bnd (evP rows (.len 0 (.c (lk l 7)))) fun v0 => bnd (Ret F 27 [lk l 2, (.int .i64 0), v0] rows) fun q1 => Ex F cx k ⟨mk 120 [(9, q1.1), (118, q1.1), (117, v0), (116, lk l 7), (115, lk l 2), (2, lk l 2), (7, lk l 7), (8, lk l 8), (10, lk l 10)], q1.2.1, (lowO low q1.2.2)⟩ r := reg (keep := [2, 7, 8, 10]) (ops := c11r4) rfl (by kernel_rfl) (by kernel_rfl)
def c11r6 : List Seg := [
  .one ⟨some 95, .mv (.t 20), none⟩,
  .one ⟨some 96, .bin .add (.t 95) (.c (.int .i64 1)), none⟩,
  .one ⟨some 20, .mv (.t 96), none⟩]
def c11k6 : ICode := .kill (dead 120 [2, 7, 8, 9, 10, 13, 20]) (.ops c11r6)
@[simp] theorem uc11k6 : Ex F cx (.code c11k6 :: k) ⟨mk 120 l, rows, low⟩ r ↔ bnd (evP rows (.bin .add (.c (lk l 20)) (.c (.int .i64 1)))) fun v0 => Ex F cx k ⟨mk 120 [(20, v0), (96, v0), (95, lk l 20), (2, lk l 2), (7, lk l 7), (8, lk l 8), (9, lk l 9), (10, lk l 10), (13, lk l 13), (20, lk l 20)], rows, low⟩ r := reg (keep := [2, 7, 8, 9, 10, 13, 20]) (ops := c11r6) rfl (by kernel_rfl) (by kernel_rfl)
def c11r7 : List Seg := [
  .one ⟨some 6, .mv (.c (.bool false)), none⟩]
def c11k7 : ICode := .kill (dead 120 []) (.ops c11r7)
@[simp] theorem uc11k7 : Ex F cx (.code c11k7 :: k) ⟨mk 120 l, rows, low⟩ r ↔ Ex F cx k ⟨mk 120 [(6, (.bool false))], rows, low⟩ r := reg (keep := []) (ops := c11r7) rfl (by kernel_rfl) (by kernel_rfl)
def c11s8 : ICode := (.cond (.t 114) (.seq c11k7 .ret) .skip)
@[simp] theorem uc11s8 : Ex F cx (.code c11s8 :: k) s r ↔ Ex F cx (.code (.cond (.t 114) (.seq c11k7 .ret) .skip) :: k) s r := Iff.rfl
def c11r9 : List Seg := [
  .one ⟨some 104, .mv (.t 22), none⟩,
  .one ⟨some 105, .bin .neq (.t 104) (.c (.int .i64 0)), none⟩,
  .one ⟨some 106, .mv (.t 105), none⟩,
  .one ⟨some 107, .mv (.t 21), some (106, false)⟩,
  .one ⟨some 108, .mv (.t 13), some (106, false)⟩,
  .one ⟨some 109, .mv (.t 20), some (106, false)⟩,
  .one ⟨some 110, .idxS 1 (.t 108) (.t 109), some (106, false)⟩,
  .one ⟨some 111, .load1 (.t 110), some (106, false)⟩,
  .one ⟨some 112, .call (.c (.func 32 [])) [(.t 107), (.t 111)], some (106, false)⟩,
  .one ⟨some 113, .un .not (.t 112), some (106, false)⟩,
  .one ⟨some 114, .pick (.t 106) (.c (.bool true)) (.t 113), none⟩]
def c11k9 : ICode := .kill (dead 120 [2, 7, 8, 9, 10, 13, 20, 21, 22]) (.ops c11r9)
@[simp] theorem uc11k9 : Ex F cx (.code c11k9 :: k) ⟨mk 120 l, rows, low⟩ r ↔ bnd (evP rows (.bin .neq (.c (lk l 22)) (.c (.int .i64 0)))) fun v0 => bnd (gv v0 false (evP rows (.mv (.c (lk l 21))))) fun v1 => bnd (gv v0 false (evP rows (.mv (.c (lk l 13))))) fun v2 => bnd (gv v0 false (evP rows (.mv (.c (lk l 20))))) fun v3 => bnd (gv v0 false (evP rows (.idxS 1 (.c v2) (.c v3)))) fun v4 => bnd (gv v0 false (evP rows (.load1 (.c v4)))) fun v5 => gcall F v0 false rows low [v1, v5] (.func 32 []) fun v6 R6 L6 => bnd (gv v0 false (evP R6 (.un .not (.c v6)))) fun v7 => bnd (evP R6 (.pick (.c v0) (.c (.bool true)) (.c v7))) fun v8 => Ex F cx k ⟨mk 120 [(114, v8), (113, v7), (112, v6), (111, v5), (110, v4), (109, v3), (108, v2), (107, v1), (106, v0), (105, v0), (104, lk l 22), (2, lk l 2), (7, lk l 7), (8, lk l 8), (9, lk l 9), (10, lk l 10), (13, lk l 13), (20, lk l 20), (21, lk l 21), (22, lk l 22)], R6, L6⟩ r := reg (keep := [2, 7, 8, 9, 10, 13, 20, 21, 22]) (ops := c11r9) rfl (by kernel_rfl) (by kernel_rfl)
def c11s10 : ICode := (.seq c11k9 c11s8)
@[simp] theorem uc11s10 : Ex F cx (.code c11s10 :: k) s r ↔ Ex F cx (.code (.seq c11k9 c11s8) :: k) s r := Iff.rfl
def c11r11 : List Seg := [
  .one ⟨some 98, .mv (.t 7), none⟩,
  .one ⟨some 99, .mv (.t 9), none⟩,
  .one ⟨some 100, .mv (.t 20), none⟩,
  .one ⟨some 101, .call (.c (.func 30 [])) [(.t 98), (.t 99), (.t 100)], none⟩,
  .one ⟨some 97, .mv (.t 101), none⟩,
  .one ⟨some 102, .ext (.t 97) 0, none⟩,
  .one ⟨some 103, .ext (.t 97) 1, none⟩,
  .one ⟨some 21, .mv (.t 102), none⟩,
  .one ⟨some 22, .mv (.t 103), none⟩]
def c11k11 : ICode := .kill (dead 120 [2, 7, 8, 9, 10, 13, 20]) (.ops c11r11)
@[simp] theorem uc11k11 : Ex F cx (.code c11k11 :: k) ⟨mk 120 l, rows, low⟩ r ↔ bnd (Ret F 30 [lk l 7, lk l 9, lk l 20] rows) fun q0 => bnd (evP q0.2.1 (.ext (.c q0.1) 0)) fun v1 => bnd (evP q0.2.1 (.ext (.c q0.1) 1)) fun v2 => Ex F cx k ⟨mk 120 [(22, v2), (21, v1), (103, v2), (102, v1), (97, q0.1), (101, q0.1), (100, lk l 20), (99, lk l 9), (98, lk l 7), (2, lk l 2), (7, lk l 7), (8, lk l 8), (9, lk l 9), (10, lk l 10), (13, lk l 13), (20, lk l 20)], q0.2.1, (lowO low q0.2.2)⟩ r := reg (keep := [2, 7, 8, 9, 10, 13, 20]) (ops := c11r11) rfl (by kernel_rfl) (by kernel_rfl)
def c11s12 : ICode := (.seq (.block 3 (.seq c11k11 c11s10)) c11k6)
@[simp] theorem uc11s12 : Ex F cx (.code c11s12 :: k) s r ↔ Ex F cx (.code (.seq (.block 3 (.seq c11k11 c11s10)) c11k6) :: k) s r := Iff.rfl
def c11s13 : ICode := (.cond (.t 94) .skip (.exit 2))
@[simp] theorem uc11s13 : Ex F cx (.code c11s13 :: k) s r ↔ Ex F cx (.code (.cond (.t 94) .skip (.exit 2)) :: k) s r := Iff.rfl
def c11r14 : List Seg := [
  .one ⟨some 91, .mv (.t 20), none⟩,
  .one ⟨some 92, .mv (.t 13), none⟩,
  .one ⟨some 93, .len 0 (.t 92), none⟩,
  .one ⟨some 94, .bin .lss (.t 91) (.t 93), none⟩]
def c11k14 : ICode := .kill (dead 120 [2, 7, 8, 9, 10, 13, 20]) (.ops c11r14)
@[simp] theorem uc11k14 : Ex F cx (.code c11k14 :: k) ⟨mk 120 l, rows, low⟩ r ↔ bnd (evP rows (.len 0 (.c (lk l 13)))) fun v0 => bnd (evP rows (.bin .lss (.c (lk l 20)) (.c v0))) fun v1 => Ex F cx k ⟨mk 120 [(94, v1), (93, v0), (92, lk l 13), (91, lk l 20), (2, lk l 2), (7, lk l 7), (8, lk l 8), (9, lk l 9), (10, lk l 10), (13, lk l 13), (20, lk l 20)], rows, low⟩ r := reg (keep := [2, 7, 8, 9, 10, 13, 20]) (ops := c11r14) rfl (by kernel_rfl) (by kernel_rfl)
def c11l5 : ICode := (.seq (.seq c11k14 c11s13) c11s12)
def c11s15 : ICode := (.block 2 (.loop c11l5))
@[simp] theorem uc11s15 : Ex F cx (.code c11s15 :: k) s r ↔ Ex F cx (.code (.block 2 (.loop c11l5)) :: k) s r := Iff.rfl
def c11r16 : List Seg := [
  .one ⟨some 20, .mv (.c (.int .i64 0)), none⟩]
def c11k16 : ICode := .kill (dead 120 [2, 7, 8, 9, 10, 13]) (.ops c11r16)
@[simp] theorem uc11k16 : Ex F cx (.code c11k16 :: k) ⟨mk 120 l, rows, low⟩ r ↔ Ex F cx k ⟨mk 120 [(20, (.int .i64 0)), (2, lk l 2), (7, lk l 7), (8, lk l 8), (9, lk l 9), (10, lk l 10), (13, lk l 13)], rows, low⟩ r := reg (keep := [2, 7, 8, 9, 10, 13]) (ops := c11r16) rfl (by kernel_rfl) (by kernel_rfl)
def c11s17 : ICode := (.seq c11k16 c11s15)
@[simp] theorem uc11s17 : Ex F cx (.code c11s17 :: k) s r ↔ Ex F cx (.code (.seq c11k16 c11s15) :: k) s r := Iff.rfl
def c11r18 : List Seg := [
  .one ⟨some 6, .mv (.c (.bool false)), none⟩]
def c11k18 : ICode := .kill (dead 120 []) (.ops c11r18)
@[simp] theorem uc11k18 : Ex F cx (.code c11k18 :: k) ⟨mk 120 l, rows, low⟩ r ↔ Ex F cx k ⟨mk 120 [(6, (.bool false))], rows, low⟩ r := reg (keep := []) (ops := c11r18) rfl (by kernel_rfl) (by kernel_rfl)
def c11s19 : ICode := (.cond (.t 90) (.seq c11k18 .ret) .skip)
@[simp] theorem uc11s19 : Ex F cx (.code c11s19 :: k) s r ↔ Ex F cx (.code (.cond (.t 90) (.seq c11k18 .ret) .skip) :: k) s r := Iff.rfl
def c11r20 : List Seg := [
  .one ⟨some 72, .mv (.t 17), none⟩,
  .one ⟨some 73, .bin .neq (.t 72) (.c (.int .i64 0)), none⟩,
  .one ⟨some 74, .mv (.t 73), none⟩,
  .one ⟨some 75, .mv (.t 16), some (74, false)⟩,
  .one ⟨some 76, .mv (.t 15), some (74, false)⟩,
  .one ⟨some 77, .call (.c (.func 32 [])) [(.t 75), (.t 76)], some (74, false)⟩,
  .one ⟨some 78, .un .not (.t 77), some (74, false)⟩,
  .one ⟨some 79, .pick (.t 74) (.c (.bool true)) (.t 78), none⟩,
  .one ⟨some 80, .mv (.t 79), none⟩,
  .one ⟨some 81, .mv (.t 19), some (80, false)⟩,
  .one ⟨some 82, .bin .neq (.t 81) (.c (.int .i64 0)), some (80, false)⟩,
  .one ⟨some 83, .pick (.t 80) (.c (.bool true)) (.t 82), none⟩,
  .one ⟨some 84, .mv (.t 83), none⟩,
  .one ⟨some 85, .mv (.t 18), some (84, false)⟩,
  .one ⟨some 86, .mv (.t 8), some (84, false)⟩,
  .one ⟨some 87, .mv (.t 15), some (84, false)⟩,
  .one ⟨some 88, .call (.c (.func 38 [])) [(.t 86), (.t 87)], some (84, false)⟩,
  .one ⟨some 89, .bin .neq (.t 85) (.t 88), some (84, false)⟩,
  .one ⟨some 90, .pick (.t 84) (.c (.bool true)) (.t 89), none⟩]
def c11k20 : ICode := .kill (dead 120 [2, 7, 8, 9, 10, 13, 15, 16, 17, 18, 19]) (.ops c11r20)
@[simp] theorem uc11k20 : Ex F cx (.code c11k20 :: k) ⟨mk 120 l, rows, low⟩ r ↔ bnd (evP rows (.bin .neq (.c (lk l 17)) (.c (.int .i64 0)))) fun v0 => bnd (gv v0 false (evP rows (.mv (.c (lk l 16))))) fun v1 => bnd (gv v0 false (evP rows (.mv (.c (lk l 15))))) fun v2 => gcall F v0 false rows low [v1, v2] (.func 32 []) fun v3 R3 L3 => bnd (gv v0 false (evP R3 (.un .not (.c v3)))) fun v4 => bnd (evP R3 (.pick (.c v0) (.c (.bool true)) (.c v4))) fun v5 => bnd (gv v5 false (evP R3 (.mv (.c (lk l 19))))) fun v6 => bnd (gv v5 false (evP R3 (.bin .neq (.c v6) (.c (.int .i64 0))))) fun v7 => bnd (evP R3 (.pick (.c v5) (.c (.bool true)) (.c v7))) fun v8 => bnd (gv v8 false (evP R3 (.mv (.c (lk l 18))))) fun v9 => bnd (gv v8 false (evP R3 (.mv (.c (lk l 8))))) fun v10 => bnd (gv v8 false (evP R3 (.mv (.c (lk l 15))))) fun v11 => gcall F v8 false R3 L3 [v10, v11] (.func 38 []) fun v12 R12 L12 => bnd (gv v8 false (evP R12 (.bin .neq (.c v9) (.c v12)))) fun v13 => bnd (evP R12 (.pick (.c v8) (.c (.bool true)) (.c v13))) fun v14 => Ex F cx k ⟨mk 120 [(90, v14), (89, v13), (88, v12), (87, v11), (86, v10), (85, v9), (84, v8), (83, v8), (82, v7), (81, v6), (80, v5), (79, v5), (78, v4), (77, v3), (76, v2), (75, v1), (74, v0), (73, v0), (72, lk l 17), (2, lk l 2), (7, lk l 7), (8, lk l 8), (9, lk l 9), (10, lk l 10), (13, lk l 13), (15, lk l 15), (16, lk l 16), (17, lk l 17), (18, lk l 18), (19, lk l 19)], R12, L12⟩ r := reg (keep := [2, 7, 8, 9, 10, 13, 15, 16, 17, 18, 19]) (ops := c11r20) rfl (by kernel_rfl) (by kernel_rfl)
def c11s21 : ICode := (.seq (.seq c11k20 c11s19) c11s17)
@[simp] theorem uc11s21 : Ex F cx (.code c11s21 :: k) s r ↔ Ex F cx (.code (.seq (.seq c11k20 c11s19) c11s17) :: k) s r := Iff.rfl
def c11r22 : List Seg := [
  .one ⟨some 66, .mv (.t 7), none⟩,
  .one ⟨some 67, .mv (.t 8), none⟩,
  .one ⟨some 68, .mv (.t 9), none⟩,
  .one ⟨some 69, .call (.c (.func 44 [])) [(.t 66), (.t 67), (.t 68)], none⟩,
  .one ⟨some 65, .mv (.t 69), none⟩,
  .one ⟨some 70, .ext (.t 65) 0, none⟩,
  .one ⟨some 71, .ext (.t 65) 1, none⟩,
  .one ⟨some 18, .mv (.t 70), none⟩,
  .one ⟨some 19, .mv (.t 71), none⟩]
def c11k22 : ICode := .kill (dead 120 [2, 7, 8, 9, 10, 13, 15, 16, 17]) (.ops c11r22)
@[simp] theorem uc11k22 : Ex F cx (.code c11k22 :: k) ⟨mk 120 l, rows, low⟩ r ↔ bnd (Ret F 44 [lk l 7, lk l 8, lk l 9] rows) fun q0 => bnd (evP q0.2.1 (.ext (.c q0.1) 0)) fun v1 => bnd (evP q0.2.1 (.ext (.c q0.1) 1)) fun v2 => Ex F cx k ⟨mk 120 [(19, v2), (18, v1), (71, v2), (70, v1), (65, q0.1), (69, q0.1), (68, lk l 9), (67, lk l 8), (66, lk l 7), (2, lk l 2), (7, lk l 7), (8, lk l 8), (9, lk l 9), (10, lk l 10), (13, lk l 13), (15, lk l 15), (16, lk l 16), (17, lk l 17)], q0.2.1, (lowO low q0.2.2)⟩ r := reg (keep := [2, 7, 8, 9, 10, 13, 15, 16, 17]) (ops := c11r22) rfl (by kernel_rfl) (by kernel_rfl)
def c11s23 : ICode := (.seq c11k22 c11s21)
@[simp] theorem uc11s23 : Ex F cx (.code c11s23 :: k) s r ↔ Ex F cx (.code (.seq c11k22 c11s21) :: k) s r := Iff.rfl
def c11r24 : List Seg := [
  .one ⟨some 60, .mv (.t 7), none⟩,
  .one ⟨some 61, .mv (.t 9), none⟩,
  .one ⟨some 62, .call (.c (.func 29 [])) [(.t 60), (.t 61)], none⟩,
  .one ⟨some 59, .mv (.t 62), none⟩,
  .one ⟨some 63, .ext (.t 59) 0, none⟩,
  .one ⟨some 64, .ext (.t 59) 1, none⟩,
  .one ⟨some 16, .mv (.t 63), none⟩,
  .one ⟨some 17, .mv (.t 64), none⟩]
def c11k24 : ICode := .kill (dead 120 [2, 7, 8, 9, 10, 13, 15]) (.ops c11r24)
@[simp] theorem uc11k24 : Ex F cx (.code c11k24 :: k) ⟨mk 120 l, rows, low⟩ r ↔ bnd (Ret F 29 [lk l 7, lk l 9] rows) fun q0 => bnd (evP q0.2.1 (.ext (.c q0.1) 0)) fun v1 => bnd (evP q0.2.1 (.ext (.c q0.1) 1)) fun v2 => Ex F cx k ⟨mk 120 [(17, v2), (16, v1), (64, v2), (63, v1), (59, q0.1), (62, q0.1), (61, lk l 9), (60, lk l 7), (2, lk l 2), (7, lk l 7), (8, lk l 8), (9, lk l 9), (10, lk l 10), (13, lk l 13), (15, lk l 15)], q0.2.1, (lowO low q0.2.2)⟩ r := reg (keep := [2, 7, 8, 9, 10, 13, 15]) (ops := c11r24) rfl (by kernel_rfl) (by kernel_rfl)
def c11s25 : ICode := (.seq c11k24 c11s23)
@[simp] theorem uc11s25 : Ex F cx (.code c11s25 :: k) s r ↔ Ex F cx (.code (.seq c11k24 c11s23) :: k) s r := Iff.rfl
def c11r26 : List Seg := [
  .one ⟨some 56, .mv (.t 7), none⟩,
  .one ⟨some 57, .mv (.t 13), none⟩,
  .one ⟨some 58, .call (.c (.func 33 [])) [(.t 56), (.t 57)], none⟩,
  .one ⟨some 15, .mv (.t 58), none⟩]
def c11k26 : ICode := .kill (dead 120 [2, 7, 8, 9, 10, 13]) (.ops c11r26)
@[simp] theorem uc11k26 : Ex F cx (.code c11k26 :: k) ⟨mk 120 l, rows, low⟩ r ↔ bnd (Ret F 33 [lk l 7, lk l 13] rows) fun q0 => Ex F cx k ⟨mk 120 [(15, q0.1), (58, q0.1), (57, lk l 13), (56, lk l 7), (2, lk l 2), (7, lk l 7), (8, lk l 8), (9, lk l 9), (10, lk l 10), (13, lk l 13)], q0.2.1, (lowO low q0.2.2)⟩ r := reg (keep := [2, 7, 8, 9, 10, 13]) (ops := c11r26) rfl (by kernel_rfl) (by kernel_rfl)
def c11s27 : ICode := (.cond (.t 55) (.seq c11k26 c11s25) .skip)
@[simp] theorem uc11s27 : Ex F cx (.code c11s27 :: k) s r ↔ Ex F cx (.code (.cond (.t 55) (.seq c11k26 c11s25) .skip) :: k) s r := Iff.rfl
def c11r28 : List Seg := [
  .one ⟨some 55, .mv (.t 14), none⟩]
def c11k28 : ICode := .kill (dead 120 [2, 7, 8, 9, 10, 13, 14]) (.ops c11r28)
@[simp] theorem uc11k28 : Ex F cx (.code c11k28 :: k) ⟨mk 120 l, rows, low⟩ r ↔ Ex F cx k ⟨mk 120 [(55, lk l 14), (2, lk l 2), (7, lk l 7), (8, lk l 8), (9, lk l 9), (10, lk l 10), (13, lk l 13), (14, lk l 14)], rows, low⟩ r := reg (keep := [2, 7, 8, 9, 10, 13, 14]) (ops := c11r28) rfl (by kernel_rfl) (by kernel_rfl)
def c11s29 : ICode := (.seq (.seq c11k28 c11s27) c11k4)
@[simp] theorem uc11s29 : Ex F cx (.code c11s29 :: k) s r ↔ Ex F cx (.code (.seq (.seq c11k28 c11s27) c11k4) :: k) s r := Iff.rfl
def c11r30 : List Seg := [
  .one ⟨some 6, .mv (.c (.bool false)), none⟩]
def c11k30 : ICode := .kill (dead 120 []) (.ops c11r30)
@[simp] theorem uc11k30 : Ex F cx (.code c11k30 :: k) ⟨mk 120 l, rows, low⟩ r ↔ Ex F cx k ⟨mk 120 [(6, (.bool false))], rows, low⟩ r := reg (keep := []) (ops := c11r30) rfl (by kernel_rfl) (by kernel_rfl)
def c11s31 : ICode := (.cond (.t 54) (.seq c11k30 .ret) .skip)
@[simp] theorem uc11s31 : Ex F cx (.code c11s31 :: k) s r ↔ Ex F cx (.code (.cond (.t 54) (.seq c11k30 .ret) .skip) :: k) s r := Iff.rfl
def c11r32 : List Seg := [
  .one ⟨some 48, .mv (.t 12), none⟩,
  .one ⟨some 49, .bin .neq (.t 48) (.c (.int .i64 0)), none⟩,
  .one ⟨some 50, .mv (.t 49), none⟩,
  .one ⟨some 51, .mv (.t 11), some (50, false)⟩,
  .one ⟨some 52, .mv (.t 14), some (50, false)⟩,
  .one ⟨some 53, .eqv true .bool (.t 51) (.t 52), some (50, false)⟩,
  .one ⟨some 54, .pick (.t 50) (.c (.bool true)) (.t 53), none⟩]
def c11k32 : ICode := .kill (dead 120 [2, 7, 8, 9, 10, 11, 12, 13, 14]) (.ops c11r32)
@[simp] theorem uc11k32 : Ex F cx (.code c11k32 :: k) ⟨mk 120 l, rows, low⟩ r ↔ bnd (evP rows (.bin .neq (.c (lk l 12)) (.c (.int .i64 0)))) fun v0 => bnd (gv v0 false (evP rows (.mv (.c (lk l 11))))) fun v1 => bnd (gv v0 false (evP rows (.mv (.c (lk l 14))))) fun v2 => bnd (gv v0 false (evP rows (.eqv true .bool (.c v1) (.c v2)))) fun v3 => bnd (evP rows (.pick (.c v0) (.c (.bool true)) (.c v3))) fun v4 => Ex F cx k ⟨mk 120 [(54, v4), (53, v3), (52, v2), (51, v1), (50, v0), (49, v0), (48, lk l 12), (2, lk l 2), (7, lk l 7), (8, lk l 8), (9, lk l 9), (10, lk l 10), (11, lk l 11), (12, lk l 12), (13, lk l 13), (14, lk l 14)], rows, low⟩ r := reg (keep := [2, 7, 8, 9, 10, 11, 12, 13, 14]) (ops := c11r32) rfl (by kernel_rfl) (by kernel_rfl)
def c11s33 : ICode := (.seq (.seq c11k32 c11s31) c11s29)
@[simp] theorem uc11s33 : Ex F cx (.code c11s33 :: k) s r ↔ Ex F cx (.code (.seq (.seq c11k32 c11s31) c11s29) :: k) s r := Iff.rfl
def c11r34 : List Seg := [
  .one ⟨some 42, .mv (.t 7), none⟩,
  .one ⟨some 43, .len 0 (.t 42), none⟩,
  .one ⟨some 44, .mv (.t 9), none⟩,
  .one ⟨some 45, .call (.c (.func 31 [])) [(.t 43), (.t 44)], none⟩,
  .one ⟨some 41, .mv (.t 45), none⟩,
  .one ⟨some 46, .ext (.t 41) 0, none⟩,
  .one ⟨some 47, .ext (.t 41) 1, none⟩,
  .one ⟨some 13, .mv (.t 46), none⟩,
  .one ⟨some 14, .mv (.t 47), none⟩]
def c11k34 : ICode := .kill (dead 120 [2, 7, 8, 9, 10, 11, 12]) (.ops c11r34)
@[simp] theorem uc11k34 : Ex F cx (.code c11k34 :: k) ⟨mk 120 l, rows, low⟩ r ↔ bnd (evP rows (.len 0 (.c (lk l 7)))) fun v0 => bnd (Ret F 31 [v0, lk l 9] rows) fun q1 => bnd (evP q1.2.1 (.ext (.c q1.1) 0)) fun v2 => bnd (evP q1.2.1 (.ext (.c q1.1) 1)) fun v3 => Ex F cx k ⟨mk 120 [(14, v3), (13, v2), (47, v3), (46, v2), (41, q1.1), (45, q1.1), (44, lk l 9), (43, v0), (42, lk l 7), (2, lk l 2), (7, lk l 7), (8, lk l 8), (9, lk l 9), (10, lk l 10), (11, lk l 11), (12, lk l 12)], q1.2.1, (lowO low q1.2.2)⟩ r := reg (keep := [2, 7, 8, 9, 10, 11, 12]) (ops := c11r34) rfl (by kernel_rfl) (by kernel_rfl)
def c11s35 : ICode := (.seq c11k34 c11s33)
@[simp] theorem uc11s35 : Ex F cx (.code c11s35 :: k) s r ↔ Ex F cx (.code (.seq c11k34 c11s33) :: k) s r := Iff.rfl
def c11r36 : List Seg := [
  .one ⟨some 36, .mv (.t 7), none⟩,
  .one ⟨some 37, .mv (.t 9), none⟩,
  .one ⟨some 38, .call (.c (.func 43 [])) [(.t 36), (.t 37)], none⟩,
  .one ⟨some 35, .mv (.t 38), none⟩,
  .one ⟨some 39, .ext (.t 35) 0, none⟩,
  .one ⟨some 40, .ext (.t 35) 1, none⟩,
  .one ⟨some 11, .mv (.t 39), none⟩,
  .one ⟨some 12, .mv (.t 40), none⟩]
def c11k36 : ICode := .kill (dead 120 [2, 7, 8, 9, 10]) (.ops c11r36)
@[simp] theorem uc11k36 : Ex F cx (.code c11k36 :: k) ⟨mk 120 l, rows, low⟩ r ↔ bnd (Ret F 43 [lk l 7, lk l 9] rows) fun q0 => bnd (evP q0.2.1 (.ext (.c q0.1) 0)) fun v1 => bnd (evP q0.2.1 (.ext (.c q0.1) 1)) fun v2 => Ex F cx k ⟨mk 120 [(12, v2), (11, v1), (40, v2), (39, v1), (35, q0.1), (38, q0.1), (37, lk l 9), (36, lk l 7), (2, lk l 2), (7, lk l 7), (8, lk l 8), (9, lk l 9), (10, lk l 10)], q0.2.1, (lowO low q0.2.2)⟩ r := reg (keep := [2, 7, 8, 9, 10]) (ops := c11r36) rfl (by kernel_rfl) (by kernel_rfl)
def c11s37 : ICode := (.seq (.block 1 (.seq c11k36 c11s35)) c11k3)
@[simp] theorem uc11s37 : Ex F cx (.code c11s37 :: k) s r ↔ Ex F cx (.code (.seq (.block 1 (.seq c11k36 c11s35)) c11k3) :: k) s r := Iff.rfl
def c11s38 : ICode := (.cond (.t 32) .skip (.exit 0))
@[simp] theorem uc11s38 : Ex F cx (.code c11s38 :: k) s r ↔ Ex F cx (.code (.cond (.t 32) .skip (.exit 0)) :: k) s r := Iff.rfl
def c11r39 : List Seg := [
  .one ⟨some 31, .mv (.t 10), none⟩,
  .one ⟨some 32, .bin .lss (.t 31) (.c (.int .i64 2)), none⟩]
def c11k39 : ICode := .kill (dead 120 [2, 7, 8, 9, 10]) (.ops c11r39)
@[simp] theorem uc11k39 : Ex F cx (.code c11k39 :: k) ⟨mk 120 l, rows, low⟩ r ↔ bnd (evP rows (.bin .lss (.c (lk l 10)) (.c (.int .i64 2)))) fun v0 => Ex F cx k ⟨mk 120 [(32, v0), (31, lk l 10), (2, lk l 2), (7, lk l 7), (8, lk l 8), (9, lk l 9), (10, lk l 10)], rows, low⟩ r := reg (keep := [2, 7, 8, 9, 10]) (ops := c11r39) rfl (by kernel_rfl) (by kernel_rfl)
def c11l2 : ICode := (.seq (.seq c11k39 c11s38) c11s37)
def c11s40 : ICode := (.block 0 (.loop c11l2))
@[simp] theorem uc11s40 : Ex F cx (.code c11s40 :: k) s r ↔ Ex F cx (.code (.block 0 (.loop c11l2)) :: k) s r := Iff.rfl
def c11r41 : List Seg := [
  .one ⟨some 10, .mv (.c (.int .i64 0)), none⟩]
def c11k41 : ICode := .kill (dead 120 [2, 7, 8, 9]) (.ops c11r41)
@[simp] theorem uc11k41 : Ex F cx (.code c11k41 :: k) ⟨mk 120 l, rows, low⟩ r ↔ Ex F cx k ⟨mk 120 [(10, (.int .i64 0)), (2, lk l 2), (7, lk l 7), (8, lk l 8), (9, lk l 9)], rows, low⟩ r := reg (keep := [2, 7, 8, 9]) (ops := c11r41) rfl (by kernel_rfl) (by kernel_rfl)
def c11s42 : ICode := (.seq (.seq c11k41 c11s40) c11s1)
@[simp] theorem uc11s42 : Ex F cx (.code c11s42 :: k) s r ↔ Ex F cx (.code (.seq (.seq c11k41 c11s40) c11s1) :: k) s r := Iff.rfl
def c11r43 : List Seg := [
  .one ⟨some 29, .mv (.t 2), none⟩,
  .one ⟨some 30, .call (.c (.func 26 [])) [(.t 29), (.c (.int .i64 13))], none⟩,
  .one ⟨some 9, .mv (.t 30), none⟩]
def c11k43 : ICode := .kill (dead 120 [2, 7, 8]) (.ops c11r43)
@[simp] theorem uc11k43 : Ex F cx (.code c11k43 :: k) ⟨mk 120 l, rows, low⟩ r ↔ bnd (Ret F 26 [lk l 2, (.int .i64 13)] rows) fun q0 => Ex F cx k ⟨mk 120 [(9, q0.1), (30, q0.1), (29, lk l 2), (2, lk l 2), (7, lk l 7), (8, lk l 8)], q0.2.1, (lowO low q0.2.2)⟩ r := reg (keep := [2, 7, 8]) (ops := c11r43) rfl (by kernel_rfl) (by kernel_rfl)
def c11s44 : ICode := (.seq c11k43 c11s42)
@[simp] theorem uc11s44 : Ex F cx (.code c11s44 :: k) s r ↔ Ex F cx (.code (.seq c11k43 c11s42) :: k) s r := Iff.rfl
def c11r45 : List Seg := [
  .one ⟨some 25, .mv (.t 1), none⟩,
  .one ⟨some 26, .mv (.t 7), none⟩,
  .one ⟨some 27, .len 0 (.t 26), none⟩,
  .one ⟨some 28, .call (.c (.func 34 [])) [(.t 25), (.t 27)], none⟩,
  .one ⟨some 8, .mv (.t 28), none⟩]
def c11k45 : ICode := .kill (dead 120 [1, 2, 7]) (.ops c11r45)
@[simp] theorem uc11k45 : Ex F cx (.code c11k45 :: k) ⟨mk 120 l, rows, low⟩ r ↔ bnd (evP rows (.len 0 (.c (lk l 7)))) fun v0 => bnd (Ret F 34 [lk l 1, v0] rows) fun q1 => Ex F cx k ⟨mk 120 [(8, q1.1), (28, q1.1), (27, v0), (26, lk l 7), (25, lk l 1), (1, lk l 1), (2, lk l 2), (7, lk l 7)], q1.2.1, (lowO low q1.2.2)⟩ r := reg (keep := [1, 2, 7]) (ops := c11r45) rfl (by kernel_rfl) (by kernel_rfl)
def c11s46 : ICode := (.seq c11k45 c11s44)
@[simp] theorem uc11s46 : Ex F cx (.code c11s46 :: k) s r ↔ Ex F cx (.code (.seq c11k45 c11s44) :: k) s r := Iff.rfl
def c11r47 : List Seg := [
  .one ⟨some 23, .mv (.t 0), none⟩,
  .one ⟨some 24, .call (.c (.func 25 [])) [(.t 23)], none⟩,
  .one ⟨some 7, .mv (.t 24), none⟩]
def c11k47 : ICode := .kill (dead 120 [0, 1, 2]) (.ops c11r47)
@[simp] theorem uc11k47 : Ex F cx (.code c11k47 :: k) ⟨mk 120 l, rows, low⟩ r ↔ bnd (Ret F 25 [lk l 0] rows) fun q0 => Ex F cx k ⟨mk 120 [(7, q0.1), (24, q0.1), (23, lk l 0), (0, lk l 0), (1, lk l 1), (2, lk l 2)], q0.2.1, (lowO low q0.2.2)⟩ r := reg (keep := [0, 1, 2]) (ops := c11r47) rfl (by kernel_rfl) (by kernel_rfl)
def c11s48 : ICode := (.seq c11k47 c11s46)
@[simp] theorem uc11s48 : Ex F cx (.code c11s48 :: k) s r ↔ Ex F cx (.code (.seq c11k47 c11s46) :: k) s r := Iff.rfl
def c11r49 : List Seg := [
  .one ⟨some 6, .mv (.c (.bool false)), none⟩]
def c11k49 : ICode := .kill (dead 120 [0, 1, 2]) (.ops c11r49)
@[simp] theorem uc11k49 : Ex F cx (.code c11k49 :: k) ⟨mk 120 l, rows, low⟩ r ↔ Ex F cx k ⟨mk 120 [(6, (.bool false)), (0, lk l 0), (1, lk l 1), (2, lk l 2)], rows, low⟩ r := reg (keep := [0, 1, 2]) (ops := c11r49) rfl (by kernel_rfl) (by kernel_rfl)
def Jc11s12 (F : Nat → Option IFn) (cx : Ctx) (x2 x7 x8 x9 x10 x13 x20 : AV) (rows : List Row) (low : Nat) (r : AV × List Row × Nat → Prop) : Prop := Ex F cx (.code c11s12 :: .inLoop c11l5 :: .inBlock 2 :: .code c11k4 :: .inBlock 1 :: .code c11k3 :: .inLoop c11l2 :: .inBlock 0 :: .code c11s1 :: []) ⟨mk 120 [(2, x2), (7, x7), (8, x8), (9, x9), (10, x10), (13, x13), (20, x20)], rows, low⟩ r
theorem jc11s12 : Ex F cx (.code c11s12 :: .inLoop c11l5 :: .inBlock 2 :: .code c11k4 :: .inBlock 1 :: .code c11k3 :: .inLoop c11l2 :: .inBlock 0 :: .code c11s1 :: []) ⟨mk 120 l, rows, low⟩ r ↔ Jc11s12 F cx (lk l 2) (lk l 7) (lk l 8) (lk l 9) (lk l 10) (lk l 13) (lk l 20) rows low r := Ex_canon (keep := [2, 7, 8, 9, 10, 13, 20]) (by kernel_rfl)
def Lc11l5 (F : Nat → Option IFn) (cx : Ctx) (x2 x7 x8 x9 x10 x13 x20 : AV) (rows : List Row) (low : Nat) (r : AV × List Row × Nat → Prop) : Prop := Ex F cx (.code c11l5 :: .inLoop c11l5 :: .inBlock 2 :: .code c11k4 :: .inBlock 1 :: .code c11k3 :: .inLoop c11l2 :: .inBlock 0 :: .code c11s1 :: []) ⟨mk 120 [(2, x2), (7, x7), (8, x8), (9, x9), (10, x10), (13, x13), (20, x20)], rows, low⟩ r
@[simp] theorem nc11l5 : Ex F cx (.inLoop c11l5 :: .inBlock 2 :: .code c11k4 :: .inBlock 1 :: .code c11k3 :: .inLoop c11l2 :: .inBlock 0 :: .code c11s1 :: []) ⟨mk 120 l, rows, low⟩ r ↔ Lc11l5 F cx (lk l 2) (lk l 7) (lk l 8) (lk l 9) (lk l 10) (lk l 13) (lk l 20) rows low r := loopN (keep := [2, 7, 8, 9, 10, 13, 20]) (by kernel_rfl)
@[simp] theorem ec11l5 : Ex F cx (.code (.loop c11l5) :: .inBlock 2 :: .code c11k4 :: .inBlock 1 :: .code c11k3 :: .inLoop c11l2 :: .inBlock 0 :: .code c11s1 :: []) ⟨mk 120 l, rows, low⟩ r ↔ Lc11l5 F cx (lk l 2) (lk l 7) (lk l 8) (lk l 9) (lk l 10) (lk l 13) (lk l 20) rows low r := loopE (keep := [2, 7, 8, 9, 10, 13, 20]) (by kernel_rfl)
@[simp] theorem uc11l5 : Ex F cx (.code c11l5 :: k) s r ↔ Ex F cx (.code (.seq (.seq c11k14 c11s13) c11s12) :: k) s r := Iff.rfl
def Jc11s17 (F : Nat → Option IFn) (cx : Ctx) (x2 x7 x8 x9 x10 x13 : AV) (rows : List Row) (low : Nat) (r : AV × List Row × Nat → Prop) : Prop := Ex F cx (.code c11s17 :: .code c11k4 :: .inBlock 1 :: .code c11k3 :: .inLoop c11l2 :: .inBlock 0 :: .code c11s1 :: []) ⟨mk 120 [(2, x2), (7, x7), (8, x8), (9, x9), (10, x10), (13, x13)], rows, low⟩ r
theorem jc11s17 : Ex F cx (.code c11s17 :: .code c11k4 :: .inBlock 1 :: .code c11k3 :: .inLoop c11l2 :: .inBlock 0 :: .code c11s1 :: []) ⟨mk 120 l, rows, low⟩ r ↔ Jc11s17 F cx (lk l 2) (lk l 7) (lk l 8) (lk l 9) (lk l 10) (lk l 13) rows low r := Ex_canon (keep := [2, 7, 8, 9, 10, 13]) (by kernel_rfl)
def Jc11s29 (F : Nat → Option IFn) (cx : Ctx) (x2 x7 x8 x9 x10 x13 x14 : AV) (rows : List Row) (low : Nat) (r : AV × List Row × Nat → Prop) : Prop := Ex F cx (.code c11s29 :: .inBlock 1 :: .code c11k3 :: .inLoop c11l2 :: .inBlock 0 :: .code c11s1 :: []) ⟨mk 120 [(2, x2), (7, x7), (8, x8), (9, x9), (10, x10), (13, x13), (14, x14)], rows, low⟩ r
theorem jc11s29 : Ex F cx (.code c11s29 :: .inBlock 1 :: .code c11k3 :: .inLoop c11l2 :: .inBlock 0 :: .code c11s1 :: []) ⟨mk 120 l, rows, low⟩ r ↔ Jc11s29 F cx (lk l 2) (lk l 7) (lk l 8) (lk l 9) (lk l 10) (lk l 13) (lk l 14) rows low r := Ex_canon (keep := [2, 7, 8, 9, 10, 13, 14]) (by kernel_rfl)
def Jc11s37 (F : Nat → Option IFn) (cx : Ctx) (x2 x7 x8 x9 x10 : AV) (rows : List Row) (low : Nat) (r : AV × List Row × Nat → Prop) : Prop := Ex F cx (.code c11s37 :: .inLoop c11l2 :: .inBlock 0 :: .code c11s1 :: []) ⟨mk 120 [(2, x2), (7, x7), (8, x8), (9, x9), (10, x10)], rows, low⟩ r
theorem jc11s37 : Ex F cx (.code c11s37 :: .inLoop c11l2 :: .inBlock 0 :: .code c11s1 :: []) ⟨mk 120 l, rows, low⟩ r ↔ Jc11s37 F cx (lk l 2) (lk l 7) (lk l 8) (lk l 9) (lk l 10) rows low r := Ex_canon (keep := [2, 7, 8, 9, 10]) (by kernel_rfl)
def Lc11l2 (F : Nat → Option IFn) (cx : Ctx) (x2 x7 x8 x9 x10 : AV) (rows : List Row) (low : Nat) (r : AV × List Row × Nat → Prop) : Prop := Ex F cx (.code c11l2 :: .inLoop c11l2 :: .inBlock 0 :: .code c11s1 :: []) ⟨mk 120 [(2, x2), (7, x7), (8, x8), (9, x9), (10, x10)], rows, low⟩ r
@[simp] theorem nc11l2 : Ex F cx (.inLoop c11l2 :: .inBlock 0 :: .code c11s1 :: []) ⟨mk 120 l, rows, low⟩ r ↔ Lc11l2 F cx (lk l 2) (lk l 7) (lk l 8) (lk l 9) (lk l 10) rows low r := loopN (keep := [2, 7, 8, 9, 10]) (by kernel_rfl)
@[simp] theorem ec11l2 : Ex F cx (.code (.loop c11l2) :: .inBlock 0 :: .code c11s1 :: []) ⟨mk 120 l, rows, low⟩ r ↔ Lc11l2 F cx (lk l 2) (lk l 7) (lk l 8) (lk l 9) (lk l 10) rows low r := loopE (keep := [2, 7, 8, 9, 10]) (by kernel_rfl)
@[simp] theorem uc11l2 : Ex F cx (.code c11l2 :: k) s r ↔ Ex F cx (.code (.seq (.seq c11k39 c11s38) c11s37) :: k) s r := Iff.rfl
def c11b : ICode := (.seq c11k49 c11s48)
@[simp] theorem uc11b : Ex F cx (.code c11b :: k) s r ↔ Ex F cx (.code (.seq c11k49 c11s48) :: k) s r := Iff.rfl
def c11 : IFn := ⟨120, [.t 6], c11b⟩
def h11 : List (Nat × List Nat) := [(0, dead 120 [0, 1, 2]), (1, dead 120 [0, 1, 2]), (2, dead 120 [1, 2, 7]), (3, dead 120 [2, 7, 8]), (4, dead 120 [2, 7, 8, 9]), (5, dead 120 [2, 7, 8, 9, 10]), (7, dead 120 [2, 7, 8, 9, 10]), (8, dead 120 [2, 7, 8, 9, 10, 11, 12]), (9, dead 120 [2, 7, 8, 9, 10, 11, 12, 13, 14]), (10, dead 120 []), (11, dead 120 [2, 7, 8, 9, 10, 13, 14]), (12, dead 120 [2, 7, 8, 9, 10, 13]), (13, dead 120 [2, 7, 8, 9, 10, 13, 15]), (14, dead 120 [2, 7, 8, 9, 10, 13, 15, 16, 17]), (15, dead 120 [2, 7, 8, 9, 10, 13, 15, 16, 17, 18, 19]), (16, dead 120 []), (17, dead 120 [2, 7, 8, 9, 10, 13]), (18, dead 120 [2, 7, 8, 9, 10, 13, 20]), (20, dead 120 [2, 7, 8, 9, 10, 13, 20]), (21, dead 120 [2, 7, 8, 9, 10, 13, 20, 21, 22]), (22, dead 120 []), (19, dead 120 [2, 7, 8, 9, 10, 13, 20]), (23, dead 120 [2, 7, 8, 10]), (6, dead 120 [2, 7, 8, 9, 10]), (24, dead 120 [])]
theorem i11 {x0 x1 x2 : AV} (hF : F 11 = some c11) {q : AV × List Row × Option Nat} (h : Ex F (.fn [.t 6]) [.code c11b] ⟨mk 120 [(0, x0), (1, x1), (2, x2)], rows, rows.length⟩ fun r => fin rows r.1 r.2.1 r.2.2 = q) : Ret F 11 [x0, x1, x2] rows = some q := Ret_mk hF h
end Go.Abs

set_option linter.unusedVariables false
set_option linter.unusedSimpArgs false
namespace Go.Abs
open Rd (Cp IsL_one IsL_cells IsL_tail lowO_n)
abbrev G11 : Nat → Option IFn := more F 11 c11
theorem toG11 {f : Nat} {vs : List AV} {rows : List Row} {q : AV × List Row × Option Nat} (h : Ret F f vs rows = some q) : Ret G11 f vs rows = some q := Ret_ext (more_ext (by kernel_rfl)) h
/-- The lists at hand. -/
structure P11 (rows : List Row) (x2 x7 x8 x9 : AV) (p c u q : List Int) (R : List Row) : Prop where
  ext : ∃ H : List Row, R = rows ++ H ∧ Und rows H
  i2 : IsL R x2 p
  i7 : IsL R x7 c
  i8 : IsL R x8 u
  i9 : IsL R x9 q
  c9 : Cp 1 x9
theorem P11.app {rows : List Row} {x2 x7 x8 x9 : AV} {p c u q : List Int} {R L : List Row} (h : P11 rows x2 x7 x8 x9 p c u q R) (hL : Und R L) : P11 rows x2 x7 x8 x9 p c u q (R ++ L) := by
  obtain ⟨⟨H, rfl, hH⟩, h2, h7, h8, h9, h10⟩ := h
  exact ⟨⟨H ++ L, by simp, Und_app hH hL⟩, IsL_app h2 L, IsL_app h7 L, IsL_app h8 L, IsL_app h9 L, h10⟩
section
variable {rows : List Row} {x2 x7 x8 x9 : AV} {p c u q : List Int} {r : AV × List Row × Nat → Prop}
set_option maxHeartbeats 4000000 in
theorem plans_ans {lv : AV} {ls : List (List Int)} {rd : Int} (hn : c.length ≤ 12) (hpl : p.length < 4611686018427387904) (hall : (c.all fun x => decide (1 ≤ x ∧ x ≤ 1000)) = true) (hls : ls.length = c.length + 1) (hlb : ∀ l ∈ ls, l.length ≤ 12) (ho : opnAll q c.length = some ls) (hrd : 0 ≤ rd ∧ rd ≤ 100)
    (hk : ∀ R q' x9', q'.length ≤ 13 → P11 rows x2 x7 x8 x9' p c u q' R → Lc11l2 G11 (.fn [.t 6]) x2 x7 x8 x9' (.int .i64 (rd + 1)) R rows.length r) :
    ∀ (d i : Nat) (R : List Row), c.length + 1 - i = d → i ≤ c.length + 1 → P11 rows x2 x7 x8 x9 p c u q R → IsLL R lv ls →
    Lc11l5 G11 (.fn [.t 6]) x2 x7 x8 x9 (.int .i64 rd) lv (.int .i64 i) R rows.length r := by
  have w0 : IntKind.i64.wrap (rd + 1) = rd + 1 := wrap64 (by omega) (by omega)
  intro d
  induction d with
  | zero =>
    intro i R hd h1 hP hl
    have hi : i = c.length + 1 := by omega
    obtain ⟨q', cap, hpl', hcap, hpr⟩ := plan_ret c.length R x2 p 0 c.length hP.i2 hpl (by omega) (by omega) (by omega) (by omega)
    obtain ⟨x, K, e, i1, i2, i3⟩ := newC_shape R q' hcap
    rw [e] at hpr
    have hpr' := toG11 hpr
    have hql := hpl'.len
    have hP' := hP.app (Und_0 i3)
    have := hk (R ++ K) q' x (by omega) ⟨hP'.ext, hP'.i2, hP'.i7, hP'.i8, i1, i2⟩
    have ll := lenLL hl []
    rw [List.append_nil] at ll
    unfold Lc11l5
    simp [ll, hls, hi, lenL0 hP.i7, hpr', w0]
    exact this
  | succ d ih =>
    intro i R hd h1 hP hl
    have hi : i < c.length + 1 := by omega
    have hA := toG11 (Answer_nl hP.i7 hn hall hP.i9 hP.c9 (i := i) (by omega) ho)
    have hm := gLL_mem (vs := ls) (i := i) (by omega)
    have hlen := hlb _ hm
    obtain ⟨vs, hE, hI⟩ := hl
    have hvs : vs.length = ls.length := by simpa using El_len hE
    have e1 : ∀ L, evP (R ++ L) (.idxS 1 (.c lv) (.c (.int .i64 i))) = some (.ptr (sid lv) (soff lv + i)) := fun L => by
      simpa using evP_idxE (El_app hE L) (k := .i64) (i := i) (by omega) (by omega)
    have e2 : ∀ L, evP (R ++ L) (.load1 (.c (.ptr (sid lv) (soff lv + i)))) = some (gA vs i) := fun L => by
      rw [evP_loadE (El_app hE L) (by omega), gA_get (by omega)]
    have i1 : IsL (R ++ nlK (gLL ls i)) (nlV R.length (gLL ls i)) (gLL ls i) := by
      have := nlV_IsL R (gLL ls i) []
      rwa [List.append_nil] at this
    have i2 : IsL (R ++ nlK (gLL ls i)) (gA vs i) (gLL ls i) := IsL_app (hI i (by omega)) _
    have hI2 := toG11 (ints_ret i1 i2 (by omega) (by omega))
    rw [decide_eq_true rfl] at hI2
    have w1 : IntKind.i64.wrap ((i : Int) + 1) = i + 1 := wrap64 (by omega) (by omega)
    have ll := lenLL ⟨vs, hE, hI⟩ []
    rw [List.append_nil] at ll
    have := ih (i + 1) (R ++ nlK (gLL ls i)) (by omega) (by omega) (hP.app (Und_0 (nlK_under _))) (IsLL_app ⟨vs, hE, hI⟩ _)
    unfold Lc11l5
    simp [ll, hls, hi, show (i : Int) < (c.length : Int) + 1 by omega, hA, e1, e2, hI2, w1]
    simpa using this
set_option maxHeartbeats 8000000 in
theorem plans_round (hA : ∀ H, Und rows H → Ret F 22 [] (rows ++ H) = some (.bool true, rows ++ H, none)) (hn : c.length ≤ 12) (hpl : p.length < 4611686018427387904) (hall : (c.all fun x => decide (1 ≤ x ∧ x ≤ 1000)) = true) (hw : wOK c.length u) : ∀ (d rd : Nat) (R : List Row) (q : List Int) (x9 : AV), 2 - rd = d → rd ≤ 2 → q.length ≤ 13 → P11 rows x2 x7 x8 x9 p c u q R →
    Lc11l2 G11 (.fn [.t 6]) x2 x7 x8 x9 (.int .i64 rd) R rows.length (fun r => fin rows r.1 r.2.1 r.2.2 = (.bool true, rows, none)) := by
  have hcx : ∀ x ∈ c, 0 ≤ x ∧ x ≤ 1000 := fun x hx => by have := List.all_eq_true.1 hall x hx; simp at this; omega
  have hul := hw.1
  intro d
  induction d with
  | zero =>
    intro rd R q x9 hd h1 hq hP
    have : rd = 2 := by omega
    subst this
    obtain ⟨H, rfl, hH⟩ := hP.ext
    have ha := toG11 (hA H hH)
    unfold Lc11l2
    simp [ha]
  | succ d ih =>
    intro rd R q x9 hd h1 hq hP
    have hrd : (rd : Int) < 2 := by omega
    have w0 : IntKind.i64.wrap ((rd : Int) + 1) = rd + 1 := wrap64 (by omega) (by omega)
    have ih' : ∀ R q' x9', q'.length ≤ 13 → P11 rows x2 x7 x8 x9' p c u q' R → Lc11l2 G11 (.fn [.t 6]) x2 x7 x8 x9' (.int .i64 ((rd : Int) + 1)) R rows.length (fun r => fin rows r.1 r.2.1 r.2.2 = (.bool true, rows, none)) := by
      intro R q' x9' hq' hP'
      have := ih (rd + 1) R q' x9' (by omega) (by omega) hq' hP'
      simpa using this
    have g1 := toG11 (IsPlan_ret hP.i7 hn hall hP.i9 hP.c9)
    rw [isPl_opn hcx hn] at g1
    obtain ⟨lv, X, h2, h3, h4⟩ := Opened_all (n := c.length) (by omega) hP.i9 hn
    have g2 := toG11 h2
    have l7 := lenL0 hP.i7
    have hP2 := hP.app h3
    cases ho : opnAll q c.length with
    | none =>
      rw [ho] at g1 g2
      obtain ⟨q', cap, hpl', hcap, hpr⟩ := plan_ret c.length (R ++ X) x2 p 0 c.length hP2.i2 hpl (by omega) (by omega) (by omega) (by omega)
      obtain ⟨x, K, e, i1, i2, i3⟩ := newC_shape (R ++ X) q' hcap
      rw [e] at hpr
      have hpr' := toG11 hpr
      have hql := hpl'.len
      have hP' := hP2.app (Und_0 i3)
      have := ih' (R ++ X ++ K) q' x (by omega) ⟨hP'.ext, hP'.i2, hP'.i7, hP'.i8, i1, i2⟩
      unfold Lc11l2
      simp [hrd, g1, l7, g2, lenL0 hP2.i7, hpr', w0, -List.append_assoc]
      exact this
    | some ls =>
      rw [ho] at g1 g2
      have hLL := h4 ls ho
      obtain ⟨f, pf, htab, hll, hlb, hfb⟩ := prices_opn hcx hn ho
      have r1 := rprices_ret (cs := c) hP2.i7 hLL hcx (by omega) (fun l hl => ⟨by have := (hlb l hl).1; omega, (hlb l hl).2⟩)
      rw [← htab] at r1
      obtain ⟨z, Z, y1, y2, _, y3⟩ := newL_shape (R ++ X) (tab (c.length + 1) f)
      rw [y1] at r1
      have hP3 := hP2.app (Und_0 y3)
      have r2 := Prices_ret hP3.i7 hn hall hP3.i9 hP3.c9
      rw [pf] at r2
      simp only at r2
      have hP4 := hP3.app (L := [.cells (nums .i64 (tab (c.length + 1) f))]) (Und_0 (by simp [Row.under, AV.under, nums]))
      have r3 := PriceOf_ret hP4.i7 hn hall hP4.i8 hw hP4.i9 hP4.c9 (fun f' e i hi => by
        rw [pf] at e
        injection e with e
        subst e
        have := hfb i hi
        omega)
      rw [pf] at r3
      simp only at r3
      have i16 : IsL (R ++ X ++ Z ++ [.cells (nums .i64 (tab (c.length + 1) f))]) (.slice (R ++ X ++ Z).length 0 (c.length + 1) (.at_ (c.length + 1))) (tab (c.length + 1) f) := IsL_new (L := []) (by simp)
      have r4 := ints_ret i16 (IsL_app y2 _) (by simp; omega) (by simp; omega)
      rw [decide_eq_true rfl] at r4
      have r5 := rweighed_ret (w := u) hP4.i8 (IsL_app y2 [.cells (nums .i64 (tab (c.length + 1) f))]) (by simp; omega) (fun i hi => by
        simp at hi
        have a1 := hfb i (by omega)
        have a2 := List.all_eq_true.1 hw.2.1 _ (gI_mem (l := u) (i := i) (by omega))
        simp only [decide_eq_true_eq] at a2
        have a3 : gI (tab (c.length + 1) f) i = f i := by rw [gI_eq (by simp; omega), tab_getE]
        rw [a3]
        have := mul_bd a2 a1
        omega) (by simp; omega)
      rw [tab_len] at r5
      have hP4L := IsLL_app (IsLL_app hLL Z) [.cells (nums .i64 (tab (c.length + 1) f))]
      have hans := plans_ans (r := fun r => fin rows r.1 r.2.1 r.2.2 = (.bool true, rows, none)) (rd := (rd : Int)) hn hpl hall hll (fun l hl => (hlb l hl).1) ho (by omega) (fun R' q' x9' a b => ih' R' q' x9' a b) _ 0 _ rfl (Nat.zero_le _) hP4 hP4L
      have g3 := toG11 r1
      have g4 := toG11 r2
      have g5 := toG11 r3
      have g6 := toG11 r4
      have g7 := toG11 r5
      unfold Lc11l2
      simp [hrd, g1, l7, g2, g3, g4, g5, g6, g7, -List.append_assoc, -List.length_append]
      simpa [-List.append_assoc, -List.length_append] using hans
/-- SearchPlans, if 'awake' is true. -/
theorem plans_ret (hA : ∀ H, Und rows H → Ret F 22 [] (rows ++ H) = some (.bool true, rows ++ H, none)) {v0 v1 v2 : AV} {l w p : List Int} (h0 : IsL rows v0 l) (h1 : IsL rows v1 w) (h2 : IsL rows v2 p) (hc2 : Cp 1 v2) (hp : p.length < 4611686018427387904) : Ret G11 11 [v0, v1, v2] rows = some (.bool true, rows, none) := by
  have hcs := costs_ret h0
  generalize hcl : (l.take 12).map cst = c at hcs
  have hn : c.length ≤ 12 := by rw [← hcl]; simp; omega
  have hall : (c.all fun x => decide (1 ≤ x ∧ x ≤ 1000)) = true := by
    rw [List.all_eq_true]
    intro x hx
    rw [← hcl] at hx
    obtain ⟨y, _, rfl⟩ := List.mem_map.1 hx
    simpa using cst_ok y
  obtain ⟨x5, K5, e5, i5, c5, u5⟩ := newL_shape rows c
  rw [e5] at hcs
  have hws := weights_ret (IsL_app h1 K5) (n := c.length) (by omega)
  have hwok := wts_ok w c.length
  generalize wts w c.length = u at hws hwok
  obtain ⟨x6, K6, e6, i6, c6, u6⟩ := newL_shape (rows ++ K5) u
  rw [e6] at hws
  have hfw := few_ret (m := 13) (IsL_app (IsL_app h2 K5) K6) hc2 (by omega)
  obtain ⟨x7, K7, e7, i7, c7, u7⟩ := newL_shape (rows ++ K5 ++ K6) (p.take 13)
  rw [e7] at hfw
  have hP : P11 rows v2 x5 x6 x7 p c u (p.take 13) (rows ++ K5 ++ K6 ++ K7) := ⟨⟨K5 ++ K6 ++ K7, by simp, Und_0 (by rw [List.all_append, List.all_append, u5, u6, u7]; rfl)⟩, IsL_app (IsL_app (IsL_app h2 K5) K6) K7, IsL_app (IsL_app i5 K6) K7, IsL_app i6 K7, i7, c7⟩
  have hr := plans_round hA hn hp hall hwok _ 0 _ (p.take 13) x7 rfl (by omega) (by simp; omega) hP
  have g1 := toG11 hcs
  have g2 := toG11 hws
  have g3 : Ret G11 26 [v2, .int .i64 13] (rows ++ K5 ++ K6) = _ := toG11 hfw
  have l5 := lenL0 i5
  refine Go.Abs.i11 more_at ?_
  simp [g1, l5, g2, g3, -List.append_assoc, -List.length_append]
  simpa [-List.append_assoc, -List.length_append] using hr
end
end Go.Abs

set_option linter.unusedVariables false
set_option linter.unusedSimpArgs false
namespace Go.Abs
theorem awake_u (l : List (Option ArgS)) : ∀ H, Und (aRows l) H → Ret F 22 [] (aRows l ++ H) = some (.bool true, aRows l ++ H, none) := by
  intro H hH
  have := awake_any (X := l.map argRow ++ H) (by
    rw [List.all_eq_true]
    intro y hy
    rw [List.mem_append] at hy
    rcases hy with hy | hy
    · refine Sh.runder_mono (Nat.zero_le _) ?_
      obtain ⟨a, _, rfl⟩ := List.mem_map.1 hy
      cases a <;> simp [argRow, Row.under, AV.under, nums]
    · refine Sh.runder_mono ?_ (hH y hy)
      simp [aRows, gRows]
      omega)
  simpa [aRows] using this
theorem aCp {W : World} {a : Option ArgS} (hok : argOK W a) (i : Nat) : Rd.Cp 1 (argAV i a) := by
  cases a with
  | none => trivial
  | some a => exact hok.1
end Go.Abs

