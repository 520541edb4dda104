/- The texts that the row uses, part 5. -/
import Derived.Test.YtiejbjajbehcfaaDoorBT4
import Derived.AtR
import Derived.Orders
import Derived.KernelRfl
import Derived.Laws.Cells
import Derived.Laws.CopyRow
import Derived.Laws.Append
import Derived.Laws.AppendOwn
import Derived.Laws.Entries
import Derived.ArgAppend
import Derived.ChangeKeysEq
import Derived.WideLaws
import Derived.Laws.Small
import Derived.Laws.StructEq
import Derived.Laws.Cover3
import Derived.Laws.Tables
import Derived.Laws.Rows
import Derived.Below
import Derived.Laws.IdiomCopy
import Derived.RangeFuncNested
import Derived.Test.YtiejbjajbehcfaaDoorProg
import Derived.Test.YtiejbjajbehcfaaDoorRows
import Derived.ProofKit
import Derived.LaidMore
import Derived.OpenShut
import Derived.Stop.Joined
import Derived.ChangeSlices
import Derived.SizedLaws
import Derived.SevenTiedAt
import Derived.WalkKit
import Derived.ShutString
import Derived.ChangeOld
import Derived.Carry
set_option linter.unusedVariables false
set_option maxRecDepth 20000
set_option maxHeartbeats 4000000
namespace Go.Abs
variable {F : Nat → Option IFn} {cx : Ctx} {k : List Itm} {s : St} {l : List (Nat × AV)} {rows : List Row} {low : Nat} {r : AV × List Row × Nat → Prop}
@[simp] theorem uc40k0 : Ex F cx (.code c40k0 :: k) ⟨mk 81 l, rows, low⟩ r ↔ Ex F cx k ⟨mk 81 [(7, (.int .i64 0)), (6, (.bool true))], rows, low⟩ r := reg (keep := []) (ops := c40r0) rfl (by kernel_rfl) (by kernel_rfl)
@[simp] theorem uc40s1 : Ex F cx (.code c40s1 :: k) s r ↔ Ex F cx (.code (.seq c40k0 .ret) :: k) s r := Iff.rfl
@[simp] theorem uc40k3 : Ex F cx (.code c40k3 :: k) ⟨mk 81 l, rows, low⟩ r ↔ bnd (evP rows (.bin .add (.c (lk l 37)) (.c (.int .i64 1)))) fun v0 => Ex F cx k ⟨mk 81 [(37, v0), (80, v0), (2, lk l 2), (8, lk l 8), (35, lk l 35), (36, lk l 36), (37, lk l 37)], rows, low⟩ r := reg (keep := [2, 8, 35, 36, 37]) (ops := c40r3) rfl (by kernel_rfl) (by kernel_rfl)
@[simp] theorem uc40k5 : Ex F cx (.code c40k5 :: k) ⟨mk 81 l, rows, low⟩ r ↔ bnd (evP rows (.bin .add (.c (lk l 64)) (.c (.int .i64 1)))) fun v0 => Ex F cx k ⟨mk 81 [(64, v0), (79, v0), (2, lk l 2), (8, lk l 8), (10, lk l 10), (11, lk l 11), (35, lk l 35), (36, lk l 36), (37, lk l 37), (62, lk l 62), (63, lk l 63), (64, lk l 64)], rows, low⟩ r := reg (keep := [2, 8, 10, 11, 35, 36, 37, 62, 63, 64]) (ops := c40r5) rfl (by kernel_rfl) (by kernel_rfl)
@[simp] theorem uc40k6 : Ex F cx (.code c40k6 :: k) ⟨mk 81 l, rows, low⟩ r ↔ Ex F cx k ⟨mk 81 [(7, (.int .i64 0)), (6, (.bool false))], rows, low⟩ r := reg (keep := []) (ops := c40r6) rfl (by kernel_rfl) (by kernel_rfl)
@[simp] theorem uc40s7 : Ex F cx (.code c40s7 :: k) s r ↔ Ex F cx (.code (.cond (.t 78) (.seq c40k6 .ret) .skip) :: k) s r := Iff.rfl
@[simp] theorem uc40k8 : Ex F cx (.code c40k8 :: k) ⟨mk 81 l, rows, low⟩ r ↔ bnd (evP rows (.bin .neq (.c (lk l 16)) (.c (lk l 10)))) fun v0 => bnd (gv v0 true (evP rows (.mv (.c (lk l 2))))) fun v1 => bnd (gv v0 true (evP rows (.mv (.c (lk l 16))))) fun v2 => bnd (gv v0 true (evP rows (.idxS 1 (.c v1) (.c v2)))) fun v3 => bnd (gv v0 true (evP rows (.load1 (.c v3)))) fun v4 => bnd (gv v0 true (evP rows (.mv (.c (lk l 11))))) fun v5 => bnd (gv v0 true (evP rows (.bin .eql (.c v4) (.c v5)))) fun v6 => bnd (evP rows (.pick (.c v0) (.c v6) (.c (.bool false)))) fun v7 => Ex F cx k ⟨mk 81 [(78, v7), (77, v6), (76, v5), (75, v4), (74, v3), (73, v2), (72, v1), (71, v0), (70, v0), (69, lk l 10), (68, lk l 16), (2, lk l 2), (8, lk l 8), (10, lk l 10), (11, lk l 11), (16, lk l 16), (35, lk l 35), (36, lk l 36), (37, lk l 37), (62, lk l 62), (63, lk l 63), (64, lk l 64)], rows, low⟩ r := reg (keep := [2, 8, 10, 11, 16, 35, 36, 37, 62, 63, 64]) (ops := c40r8) rfl (by kernel_rfl) (by kernel_rfl)
@[simp] theorem uc40s9 : Ex F cx (.code c40s9 :: k) s r ↔ Ex F cx (.code (.seq c40k8 c40s7) :: k) s r := Iff.rfl
@[simp] theorem uc40k10 : Ex F cx (.code c40k10 :: k) ⟨mk 81 l, rows, low⟩ r ↔ bnd (evP rows (.idxS 1 (.c (lk l 62)) (.c (lk l 64)))) fun v0 => bnd (evP rows (.load1 (.c v0))) fun v1 => Ex F cx k ⟨mk 81 [(16, v1), (67, v1), (66, v0), (2, lk l 2), (8, lk l 8), (10, lk l 10), (11, lk l 11), (35, lk l 35), (36, lk l 36), (37, lk l 37), (62, lk l 62), (63, lk l 63), (64, lk l 64)], rows, low⟩ r := reg (keep := [2, 8, 10, 11, 35, 36, 37, 62, 63, 64]) (ops := c40r10) rfl (by kernel_rfl) (by kernel_rfl)
@[simp] theorem uc40s11 : Ex F cx (.code c40s11 :: k) s r ↔ Ex F cx (.code (.seq (.block 5 (.seq c40k10 c40s9)) c40k5) :: k) s r := Iff.rfl
@[simp] theorem uc40s12 : Ex F cx (.code c40s12 :: k) s r ↔ Ex F cx (.code (.seq (.cond (.t 65) .skip (.exit 4)) c40s11) :: k) s r := Iff.rfl
@[simp] theorem uc40k13 : Ex F cx (.code c40k13 :: k) ⟨mk 81 l, rows, low⟩ r ↔ bnd (evP rows (.bin .lss (.c (lk l 64)) (.c (lk l 63)))) fun v0 => Ex F cx k ⟨mk 81 [(65, v0), (2, lk l 2), (8, lk l 8), (10, lk l 10), (11, lk l 11), (35, lk l 35), (36, lk l 36), (37, lk l 37), (62, lk l 62), (63, lk l 63), (64, lk l 64)], rows, low⟩ r := reg (keep := [2, 8, 10, 11, 35, 36, 37, 62, 63, 64]) (ops := c40r13) rfl (by kernel_rfl) (by kernel_rfl)
@[simp] theorem uc40s14 : Ex F cx (.code c40s14 :: k) s r ↔ Ex F cx (.code (.block 4 (.loop c40l4)) :: k) s r := Iff.rfl
@[simp] theorem uc40k15 : Ex F cx (.code c40k15 :: k) ⟨mk 81 l, rows, low⟩ r ↔ bnd (Ret F 70 [lk l 8, lk l 10, lk l 12] rows) fun q0 => bnd (Ret F 69 [q0.1] q0.2.1) fun q1 => bnd (evP q1.2.1 (.len 0 (.c q1.1))) fun v2 => Ex F cx k ⟨mk 81 [(64, (.int .i64 0)), (63, v2), (62, q1.1), (61, q0.1), (60, lk l 12), (59, lk l 10), (58, lk l 8), (2, lk l 2), (8, lk l 8), (10, lk l 10), (11, lk l 11), (12, lk l 12), (35, lk l 35), (36, lk l 36), (37, lk l 37)], q1.2.1, (lowO (lowO low q0.2.2) q1.2.2)⟩ r := reg (keep := [2, 8, 10, 11, 12, 35, 36, 37]) (ops := c40r15) rfl (by kernel_rfl) (by kernel_rfl)
@[simp] theorem uc40s16 : Ex F cx (.code c40s16 :: k) s r ↔ Ex F cx (.code (.seq c40k15 c40s14) :: k) s r := Iff.rfl
@[simp] theorem uc40k18 : Ex F cx (.code c40k18 :: k) ⟨mk 81 l, rows, low⟩ r ↔ bnd (evP rows (.bin .add (.c (lk l 44)) (.c (.int .i64 1)))) fun v0 => Ex F cx k ⟨mk 81 [(44, v0), (57, v0), (2, lk l 2), (8, lk l 8), (10, lk l 10), (11, lk l 11), (12, lk l 12), (35, lk l 35), (36, lk l 36), (37, lk l 37), (42, lk l 42), (43, lk l 43), (44, lk l 44)], rows, low⟩ r := reg (keep := [2, 8, 10, 11, 12, 35, 36, 37, 42, 43, 44]) (ops := c40r18) rfl (by kernel_rfl) (by kernel_rfl)
@[simp] theorem uc40k19 : Ex F cx (.code c40k19 :: k) ⟨mk 81 l, rows, low⟩ r ↔ bnd (evP rows (.conv .u64 (.c (lk l 13)))) fun v0 => bnd (evP rows (.bin .shl (.c (.int .i64 1)) (.c v0))) fun v1 => bnd (evP rows (.bin .or (.c (lk l 12)) (.c v1))) fun v2 => Ex F cx k ⟨mk 81 [(12, v2), (56, v2), (55, v1), (54, v0), (53, lk l 13), (52, lk l 12), (2, lk l 2), (8, lk l 8), (10, lk l 10), (11, lk l 11), (12, lk l 12), (13, lk l 13), (35, lk l 35), (36, lk l 36), (37, lk l 37), (42, lk l 42), (43, lk l 43), (44, lk l 44)], rows, low⟩ r := reg (keep := [2, 8, 10, 11, 12, 13, 35, 36, 37, 42, 43, 44]) (ops := c40r19) rfl (by kernel_rfl) (by kernel_rfl)
@[simp] theorem uc40s20 : Ex F cx (.code c40s20 :: k) s r ↔ Ex F cx (.code (.cond (.t 51) c40k19 .skip) :: k) s r := Iff.rfl
@[simp] theorem uc40k21 : Ex F cx (.code c40k21 :: k) ⟨mk 81 l, rows, low⟩ r ↔ bnd (evP rows (.bin .leq (.c (lk l 14)) (.c (lk l 11)))) fun v0 => Ex F cx k ⟨mk 81 [(51, v0), (50, lk l 11), (49, lk l 14), (2, lk l 2), (8, lk l 8), (10, lk l 10), (11, lk l 11), (12, lk l 12), (13, lk l 13), (14, lk l 14), (35, lk l 35), (36, lk l 36), (37, lk l 37), (42, lk l 42), (43, lk l 43), (44, lk l 44)], rows, low⟩ r := reg (keep := [2, 8, 10, 11, 12, 13, 14, 35, 36, 37, 42, 43, 44]) (ops := c40r21) rfl (by kernel_rfl) (by kernel_rfl)
@[simp] theorem uc40s22 : Ex F cx (.code c40s22 :: k) s r ↔ Ex F cx (.code (.seq c40k21 c40s20) :: k) s r := Iff.rfl
@[simp] theorem uc40k23 : Ex F cx (.code c40k23 :: k) ⟨mk 81 l, rows, low⟩ r ↔ bnd (evP rows (.idxS 1 (.c (lk l 42)) (.c (lk l 44)))) fun v0 => bnd (evP rows (.load1 (.c v0))) fun v1 => Ex F cx k ⟨mk 81 [(14, v1), (13, lk l 44), (48, v1), (47, v0), (46, lk l 44), (2, lk l 2), (8, lk l 8), (10, lk l 10), (11, lk l 11), (12, lk l 12), (35, lk l 35), (36, lk l 36), (37, lk l 37), (42, lk l 42), (43, lk l 43), (44, lk l 44)], rows, low⟩ r := reg (keep := [2, 8, 10, 11, 12, 35, 36, 37, 42, 43, 44]) (ops := c40r23) rfl (by kernel_rfl) (by kernel_rfl)
@[simp] theorem uc40s24 : Ex F cx (.code c40s24 :: k) s r ↔ Ex F cx (.code (.seq (.block 3 (.seq c40k23 c40s22)) c40k18) :: k) s r := Iff.rfl
@[simp] theorem uc40s25 : Ex F cx (.code c40s25 :: k) s r ↔ Ex F cx (.code (.seq (.cond (.t 45) .skip (.exit 2)) c40s24) :: k) s r := Iff.rfl
@[simp] theorem uc40k26 : Ex F cx (.code c40k26 :: k) ⟨mk 81 l, rows, low⟩ r ↔ bnd (evP rows (.bin .lss (.c (lk l 44)) (.c (lk l 43)))) fun v0 => Ex F cx k ⟨mk 81 [(45, v0), (2, lk l 2), (8, lk l 8), (10, lk l 10), (11, lk l 11), (12, lk l 12), (35, lk l 35), (36, lk l 36), (37, lk l 37), (42, lk l 42), (43, lk l 43), (44, lk l 44)], rows, low⟩ r := reg (keep := [2, 8, 10, 11, 12, 35, 36, 37, 42, 43, 44]) (ops := c40r26) rfl (by kernel_rfl) (by kernel_rfl)
@[simp] theorem uc40s27 : Ex F cx (.code c40s27 :: k) s r ↔ Ex F cx (.code (.block 2 (.loop c40l17)) :: k) s r := Iff.rfl
@[simp] theorem uc40k28 : Ex F cx (.code c40k28 :: k) ⟨mk 81 l, rows, low⟩ r ↔ bnd (evP rows (.len 0 (.c (lk l 2)))) fun v0 => Ex F cx k ⟨mk 81 [(44, (.int .i64 0)), (43, v0), (42, lk l 2), (2, lk l 2), (8, lk l 8), (10, lk l 10), (11, lk l 11), (12, lk l 12), (35, lk l 35), (36, lk l 36), (37, lk l 37)], rows, low⟩ r := reg (keep := [2, 8, 10, 11, 12, 35, 36, 37]) (ops := c40r28) rfl (by kernel_rfl) (by kernel_rfl)
@[simp] theorem uc40s29 : Ex F cx (.code c40s29 :: k) s r ↔ Ex F cx (.code (.seq (.seq c40k28 c40s27) c40s16) :: k) s r := Iff.rfl
@[simp] theorem uc40k30 : Ex F cx (.code c40k30 :: k) ⟨mk 81 l, rows, low⟩ r ↔ Ex F cx k ⟨mk 81 [(12, (.int .i64 0)), (2, lk l 2), (8, lk l 8), (10, lk l 10), (11, lk l 11), (35, lk l 35), (36, lk l 36), (37, lk l 37)], rows, low⟩ r := reg (keep := [2, 8, 10, 11, 35, 36, 37]) (ops := c40r30) rfl (by kernel_rfl) (by kernel_rfl)
@[simp] theorem uc40s31 : Ex F cx (.code c40s31 :: k) s r ↔ Ex F cx (.code (.seq c40k30 c40s29) :: k) s r := Iff.rfl
@[simp] theorem uc40k32 : Ex F cx (.code c40k32 :: k) ⟨mk 81 l, rows, low⟩ r ↔ bnd (evP rows (.idxS 1 (.c (lk l 35)) (.c (lk l 37)))) fun v0 => bnd (evP rows (.load1 (.c v0))) fun v1 => Ex F cx k ⟨mk 81 [(11, v1), (10, lk l 37), (41, v1), (40, v0), (39, lk l 37), (2, lk l 2), (8, lk l 8), (35, lk l 35), (36, lk l 36), (37, lk l 37)], rows, low⟩ r := reg (keep := [2, 8, 35, 36, 37]) (ops := c40r32) rfl (by kernel_rfl) (by kernel_rfl)
@[simp] theorem uc40s33 : Ex F cx (.code c40s33 :: k) s r ↔ Ex F cx (.code (.seq (.block 1 (.seq c40k32 c40s31)) c40k3) :: k) s r := Iff.rfl
@[simp] theorem uc40s34 : Ex F cx (.code c40s34 :: k) s r ↔ Ex F cx (.code (.seq (.cond (.t 38) .skip (.exit 0)) c40s33) :: k) s r := Iff.rfl
@[simp] theorem uc40k35 : Ex F cx (.code c40k35 :: k) ⟨mk 81 l, rows, low⟩ r ↔ bnd (evP rows (.bin .lss (.c (lk l 37)) (.c (lk l 36)))) fun v0 => Ex F cx k ⟨mk 81 [(38, v0), (2, lk l 2), (8, lk l 8), (35, lk l 35), (36, lk l 36), (37, lk l 37)], rows, low⟩ r := reg (keep := [2, 8, 35, 36, 37]) (ops := c40r35) rfl (by kernel_rfl) (by kernel_rfl)
@[simp] theorem uc40s36 : Ex F cx (.code c40s36 :: k) s r ↔ Ex F cx (.code (.block 0 (.loop c40l2)) :: k) s r := Iff.rfl
@[simp] theorem uc40k37 : Ex F cx (.code c40k37 :: k) ⟨mk 81 l, rows, low⟩ r ↔ bnd (evP rows (.len 0 (.c (lk l 2)))) fun v0 => Ex F cx k ⟨mk 81 [(37, (.int .i64 0)), (36, v0), (35, lk l 2), (2, lk l 2), (8, lk l 8)], rows, low⟩ r := reg (keep := [2, 8]) (ops := c40r37) rfl (by kernel_rfl) (by kernel_rfl)
@[simp] theorem uc40s38 : Ex F cx (.code c40s38 :: k) s r ↔ Ex F cx (.code (.seq (.seq c40k37 c40s36) c40s1) :: k) s r := Iff.rfl
@[simp] theorem uc40k39 : Ex F cx (.code c40k39 :: k) ⟨mk 81 l, rows, low⟩ r ↔ Ex F cx k ⟨mk 81 [(7, (.int .i64 0)), (6, (.bool false))], rows, low⟩ r := reg (keep := []) (ops := c40r39) rfl (by kernel_rfl) (by kernel_rfl)
@[simp] theorem uc40s40 : Ex F cx (.code c40s40 :: k) s r ↔ Ex F cx (.code (.cond (.t 34) (.seq c40k39 .ret) .skip) :: k) s r := Iff.rfl
@[simp] theorem uc40k41 : Ex F cx (.code c40k41 :: k) ⟨mk 81 l, rows, low⟩ r ↔ bnd (evP rows (.len 0 (.c (lk l 2)))) fun v0 => bnd (evP rows (.bin .neq (.c v0) (.c (lk l 0)))) fun v1 => bnd (gv v1 false (evP rows (.mv (.c (lk l 2))))) fun v2 => gcall F v1 false rows low [(.int .i64 0), (.int .i64 10), v2] (.func 55 []) fun v3 R3 L3 => bnd (gv v1 false (evP R3 (.un .not (.c v3)))) fun v4 => bnd (evP R3 (.pick (.c v1) (.c (.bool true)) (.c v4))) fun v5 => Ex F cx k ⟨mk 81 [(34, v5), (33, v4), (32, v3), (31, v2), (30, v1), (29, v1), (28, lk l 0), (27, v0), (26, lk l 2), (0, lk l 0), (2, lk l 2), (8, lk l 8)], R3, L3⟩ r := reg (keep := [0, 2, 8]) (ops := c40r41) rfl (by kernel_rfl) (by kernel_rfl)
@[simp] theorem uc40s42 : Ex F cx (.code c40s42 :: k) s r ↔ Ex F cx (.code (.seq (.seq c40k41 c40s40) c40s38) :: k) s r := Iff.rfl
@[simp] theorem uc40k43 : Ex F cx (.code c40k43 :: k) ⟨mk 81 l, rows, low⟩ r ↔ Ex F cx k ⟨mk 81 [(7, lk l 9), (6, (.bool false)), (25, lk l 9), (9, lk l 9)], rows, low⟩ r := reg (keep := [9]) (ops := c40r43) rfl (by kernel_rfl) (by kernel_rfl)
@[simp] theorem uc40s44 : Ex F cx (.code c40s44 :: k) s r ↔ Ex F cx (.code (.cond (.t 24) (.seq c40k43 .ret) .skip) :: k) s r := Iff.rfl
@[simp] theorem uc40k45 : Ex F cx (.code c40k45 :: k) ⟨mk 81 l, rows, low⟩ r ↔ bnd (evP rows (.bin .neq (.c (lk l 9)) (.c (.int .i64 0)))) fun v0 => Ex F cx k ⟨mk 81 [(24, v0), (23, lk l 9), (0, lk l 0), (2, lk l 2), (8, lk l 8), (9, lk l 9)], rows, low⟩ r := reg (keep := [0, 2, 8, 9]) (ops := c40r45) rfl (by kernel_rfl) (by kernel_rfl)
@[simp] theorem uc40s46 : Ex F cx (.code c40s46 :: k) s r ↔ Ex F cx (.code (.seq (.seq c40k45 c40s44) c40s42) :: k) s r := Iff.rfl
@[simp] theorem uc40k47 : Ex F cx (.code c40k47 :: k) ⟨mk 81 l, rows, low⟩ r ↔ bnd (Ret F 68 [lk l 0, lk l 1] rows) fun q0 => bnd (evP q0.2.1 (.ext (.c q0.1) 0)) fun v1 => bnd (evP q0.2.1 (.ext (.c q0.1) 1)) fun v2 => Ex F cx k ⟨mk 81 [(9, v2), (8, v1), (22, v2), (21, v1), (17, q0.1), (20, q0.1), (19, lk l 1), (18, lk l 0), (0, lk l 0), (1, lk l 1), (2, lk l 2)], q0.2.1, (lowO low q0.2.2)⟩ r := reg (keep := [0, 1, 2]) (ops := c40r47) rfl (by kernel_rfl) (by kernel_rfl)
@[simp] theorem uc40s48 : Ex F cx (.code c40s48 :: k) s r ↔ Ex F cx (.code (.seq c40k47 c40s46) :: k) s r := Iff.rfl
@[simp] theorem uc40k49 : Ex F cx (.code c40k49 :: k) ⟨mk 81 l, rows, low⟩ r ↔ Ex F cx k ⟨mk 81 [(7, (.int .i64 0)), (6, (.bool false)), (0, lk l 0), (1, lk l 1), (2, lk l 2)], rows, low⟩ r := reg (keep := [0, 1, 2]) (ops := c40r49) rfl (by kernel_rfl) (by kernel_rfl)
def Jc40s11 (F : Nat → Option IFn) (cx : Ctx) (x2 x8 x10 x11 x35 x36 x37 x62 x63 x64 : AV) (rows : List Row) (low : Nat) (r : AV × List Row × Nat → Prop) : Prop := Ex F cx (.code c40s11 :: .inLoop c40l4 :: .inBlock 4 :: .inBlock 1 :: .code c40k3 :: .inLoop c40l2 :: .inBlock 0 :: .code c40s1 :: []) ⟨mk 81 [(2, x2), (8, x8), (10, x10), (11, x11), (35, x35), (36, x36), (37, x37), (62, x62), (63, x63), (64, x64)], rows, low⟩ r
theorem jc40s11 : Ex F cx (.code c40s11 :: .inLoop c40l4 :: .inBlock 4 :: .inBlock 1 :: .code c40k3 :: .inLoop c40l2 :: .inBlock 0 :: .code c40s1 :: []) ⟨mk 81 l, rows, low⟩ r ↔ Jc40s11 F cx (lk l 2) (lk l 8) (lk l 10) (lk l 11) (lk l 35) (lk l 36) (lk l 37) (lk l 62) (lk l 63) (lk l 64) rows low r := Ex_canon (keep := [2, 8, 10, 11, 35, 36, 37, 62, 63, 64]) (by kernel_rfl)
def Lc40l4 (F : Nat → Option IFn) (cx : Ctx) (x2 x8 x10 x11 x35 x36 x37 x62 x63 x64 : AV) (rows : List Row) (low : Nat) (r : AV × List Row × Nat → Prop) : Prop := Ex F cx (.code c40l4 :: .inLoop c40l4 :: .inBlock 4 :: .inBlock 1 :: .code c40k3 :: .inLoop c40l2 :: .inBlock 0 :: .code c40s1 :: []) ⟨mk 81 [(2, x2), (8, x8), (10, x10), (11, x11), (35, x35), (36, x36), (37, x37), (62, x62), (63, x63), (64, x64)], rows, low⟩ r
@[simp] theorem nc40l4 : Ex F cx (.inLoop c40l4 :: .inBlock 4 :: .inBlock 1 :: .code c40k3 :: .inLoop c40l2 :: .inBlock 0 :: .code c40s1 :: []) ⟨mk 81 l, rows, low⟩ r ↔ Lc40l4 F cx (lk l 2) (lk l 8) (lk l 10) (lk l 11) (lk l 35) (lk l 36) (lk l 37) (lk l 62) (lk l 63) (lk l 64) rows low r := loopN (keep := [2, 8, 10, 11, 35, 36, 37, 62, 63, 64]) (by kernel_rfl)
@[simp] theorem ec40l4 : Ex F cx (.code (.loop c40l4) :: .inBlock 4 :: .inBlock 1 :: .code c40k3 :: .inLoop c40l2 :: .inBlock 0 :: .code c40s1 :: []) ⟨mk 81 l, rows, low⟩ r ↔ Lc40l4 F cx (lk l 2) (lk l 8) (lk l 10) (lk l 11) (lk l 35) (lk l 36) (lk l 37) (lk l 62) (lk l 63) (lk l 64) rows low r := loopE (keep := [2, 8, 10, 11, 35, 36, 37, 62, 63, 64]) (by kernel_rfl)
@[simp] theorem uc40l4 : Ex F cx (.code c40l4 :: k) s r ↔ Ex F cx (.code (.seq c40k13 c40s12) :: k) s r := Iff.rfl
def Jc40s24 (F : Nat → Option IFn) (cx : Ctx) (x2 x8 x10 x11 x12 x35 x36 x37 x42 x43 x44 : AV) (rows : List Row) (low : Nat) (r : AV × List Row × Nat → Prop) : Prop := Ex F cx (.code c40s24 :: .inLoop c40l17 :: .inBlock 2 :: .code c40s16 :: .inBlock 1 :: .code c40k3 :: .inLoop c40l2 :: .inBlock 0 :: .code c40s1 :: []) ⟨mk 81 [(2, x2), (8, x8), (10, x10), (11, x11), (12, x12), (35, x35), (36, x36), (37, x37), (42, x42), (43, x43), (44, x44)], rows, low⟩ r
theorem jc40s24 : Ex F cx (.code c40s24 :: .inLoop c40l17 :: .inBlock 2 :: .code c40s16 :: .inBlock 1 :: .code c40k3 :: .inLoop c40l2 :: .inBlock 0 :: .code c40s1 :: []) ⟨mk 81 l, rows, low⟩ r ↔ Jc40s24 F cx (lk l 2) (lk l 8) (lk l 10) (lk l 11) (lk l 12) (lk l 35) (lk l 36) (lk l 37) (lk l 42) (lk l 43) (lk l 44) rows low r := Ex_canon (keep := [2, 8, 10, 11, 12, 35, 36, 37, 42, 43, 44]) (by kernel_rfl)
def Lc40l17 (F : Nat → Option IFn) (cx : Ctx) (x2 x8 x10 x11 x12 x35 x36 x37 x42 x43 x44 : AV) (rows : List Row) (low : Nat) (r : AV × List Row × Nat → Prop) : Prop := Ex F cx (.code c40l17 :: .inLoop c40l17 :: .inBlock 2 :: .code c40s16 :: .inBlock 1 :: .code c40k3 :: .inLoop c40l2 :: .inBlock 0 :: .code c40s1 :: []) ⟨mk 81 [(2, x2), (8, x8), (10, x10), (11, x11), (12, x12), (35, x35), (36, x36), (37, x37), (42, x42), (43, x43), (44, x44)], rows, low⟩ r
@[simp] theorem nc40l17 : Ex F cx (.inLoop c40l17 :: .inBlock 2 :: .code c40s16 :: .inBlock 1 :: .code c40k3 :: .inLoop c40l2 :: .inBlock 0 :: .code c40s1 :: []) ⟨mk 81 l, rows, low⟩ r ↔ Lc40l17 F cx (lk l 2) (lk l 8) (lk l 10) (lk l 11) (lk l 12) (lk l 35) (lk l 36) (lk l 37) (lk l 42) (lk l 43) (lk l 44) rows low r := loopN (keep := [2, 8, 10, 11, 12, 35, 36, 37, 42, 43, 44]) (by kernel_rfl)
@[simp] theorem ec40l17 : Ex F cx (.code (.loop c40l17) :: .inBlock 2 :: .code c40s16 :: .inBlock 1 :: .code c40k3 :: .inLoop c40l2 :: .inBlock 0 :: .code c40s1 :: []) ⟨mk 81 l, rows, low⟩ r ↔ Lc40l17 F cx (lk l 2) (lk l 8) (lk l 10) (lk l 11) (lk l 12) (lk l 35) (lk l 36) (lk l 37) (lk l 42) (lk l 43) (lk l 44) rows low r := loopE (keep := [2, 8, 10, 11, 12, 35, 36, 37, 42, 43, 44]) (by kernel_rfl)
@[simp] theorem uc40l17 : Ex F cx (.code c40l17 :: k) s r ↔ Ex F cx (.code (.seq c40k26 c40s25) :: k) s r := Iff.rfl
def Jc40s33 (F : Nat → Option IFn) (cx : Ctx) (x2 x8 x35 x36 x37 : AV) (rows : List Row) (low : Nat) (r : AV × List Row × Nat → Prop) : Prop := Ex F cx (.code c40s33 :: .inLoop c40l2 :: .inBlock 0 :: .code c40s1 :: []) ⟨mk 81 [(2, x2), (8, x8), (35, x35), (36, x36), (37, x37)], rows, low⟩ r
theorem jc40s33 : Ex F cx (.code c40s33 :: .inLoop c40l2 :: .inBlock 0 :: .code c40s1 :: []) ⟨mk 81 l, rows, low⟩ r ↔ Jc40s33 F cx (lk l 2) (lk l 8) (lk l 35) (lk l 36) (lk l 37) rows low r := Ex_canon (keep := [2, 8, 35, 36, 37]) (by kernel_rfl)
def Lc40l2 (F : Nat → Option IFn) (cx : Ctx) (x2 x8 x35 x36 x37 : AV) (rows : List Row) (low : Nat) (r : AV × List Row × Nat → Prop) : Prop := Ex F cx (.code c40l2 :: .inLoop c40l2 :: .inBlock 0 :: .code c40s1 :: []) ⟨mk 81 [(2, x2), (8, x8), (35, x35), (36, x36), (37, x37)], rows, low⟩ r
@[simp] theorem nc40l2 : Ex F cx (.inLoop c40l2 :: .inBlock 0 :: .code c40s1 :: []) ⟨mk 81 l, rows, low⟩ r ↔ Lc40l2 F cx (lk l 2) (lk l 8) (lk l 35) (lk l 36) (lk l 37) rows low r := loopN (keep := [2, 8, 35, 36, 37]) (by kernel_rfl)
@[simp] theorem ec40l2 : Ex F cx (.code (.loop c40l2) :: .inBlock 0 :: .code c40s1 :: []) ⟨mk 81 l, rows, low⟩ r ↔ Lc40l2 F cx (lk l 2) (lk l 8) (lk l 35) (lk l 36) (lk l 37) rows low r := loopE (keep := [2, 8, 35, 36, 37]) (by kernel_rfl)
@[simp] theorem uc40l2 : Ex F cx (.code c40l2 :: k) s r ↔ Ex F cx (.code (.seq c40k35 c40s34) :: k) s r := Iff.rfl
def Jc40s38 (F : Nat → Option IFn) (cx : Ctx) (x2 x8 : AV) (rows : List Row) (low : Nat) (r : AV × List Row × Nat → Prop) : Prop := Ex F cx (.code c40s38 :: []) ⟨mk 81 [(2, x2), (8, x8)], rows, low⟩ r
theorem jc40s38 : Ex F cx (.code c40s38 :: []) ⟨mk 81 l, rows, low⟩ r ↔ Jc40s38 F cx (lk l 2) (lk l 8) rows low r := Ex_canon (keep := [2, 8]) (by kernel_rfl)
def Jc40s42 (F : Nat → Option IFn) (cx : Ctx) (x0 x2 x8 : AV) (rows : List Row) (low : Nat) (r : AV × List Row × Nat → Prop) : Prop := Ex F cx (.code c40s42 :: []) ⟨mk 81 [(0, x0), (2, x2), (8, x8)], rows, low⟩ r
theorem jc40s42 : Ex F cx (.code c40s42 :: []) ⟨mk 81 l, rows, low⟩ r ↔ Jc40s42 F cx (lk l 0) (lk l 2) (lk l 8) rows low r := Ex_canon (keep := [0, 2, 8]) (by kernel_rfl)
@[simp] theorem uc40b : Ex F cx (.code c40b :: k) s r ↔ Ex F cx (.code (.seq c40k49 c40s48) :: k) s r := Iff.rfl
theorem i40 {x0 x1 x2 : AV} (hF : F 40 = some c40) {q : AV × List Row × Option Nat} (h : Ex F (.fn [.t 6, .t 7]) [.code c40b] ⟨mk 81 [(0, x0), (1, x1), (2, x2)], rows, rows.length⟩ fun r => fin rows r.1 r.2.1 r.2.2 = q) : Ret F 40 [x0, x1, x2] rows = some q := Ret_mk hF h
@[simp] theorem uc42k0 : Ex F cx (.code c42k0 :: k) ⟨mk 30 l, rows, low⟩ r ↔ bnd (evP rows (.load1 (.c (lk l 9)))) fun v0 => Ex F cx k ⟨mk 30 [(5, (.int .i64 0)), (4, v0), (29, v0), (9, lk l 9)], rows, low⟩ r := reg (keep := [9]) (ops := c42r0) rfl (by kernel_rfl) (by kernel_rfl)
@[simp] theorem uc42s1 : Ex F cx (.code c42s1 :: k) s r ↔ Ex F cx (.code (.seq c42k0 .ret) :: k) s r := Iff.rfl
@[simp] theorem uc42k2 : Ex F cx (.code c42k2 :: k) ⟨mk 30 l, rows, low⟩ r ↔ bnd (evP (rows ++ maskE 0 ([] : List (Nat × Row))) (.load1 (.c (lk l 10)))) fun v0 => bnd (evP (rows ++ maskE 0 ([] : List (Nat × Row))) (.load1 (.c (lk l 6)))) fun v1 => bnd (opC F (rows ++ maskE 2 ([] : List (Nat × Row))) (rows.length + ([] : List (Nat × Row)).length) [v1] (.func 78 [])) fun q2 => q2.2.2 = rows.length + ([] : List (Nat × Row)).length ∧ bnd (some (([] : List (Nat × Row)) ++ List.map (fun (x : Row) => (2, x)) (q2.2.1.drop (rows.length + ([] : List (Nat × Row)).length)))) fun e2 => callK F (rows ++ List.map (fun (x : Nat × Row) => x.2) e2) low [q2.1] (fun v3 R3 L3 => Ex F cx k ⟨mk 30 [(28, v3), (27, q2.1), (26, v1), (25, v0), (6, lk l 6), (9, lk l 9), (10, lk l 10)], R3, L3⟩ r) v0 := reg (keep := [6, 9, 10]) (ops := c42r2) rfl (by kernel_rfl) (by kernel_rfl)
@[simp] theorem uc42s3 : Ex F cx (.code c42s3 :: k) s r ↔ Ex F cx (.code (.seq c42k2 c42s1) :: k) s r := Iff.rfl
@[simp] theorem uc42k4 : Ex F cx (.code c42k4 :: k) ⟨mk 30 l, rows, low⟩ r ↔ bnd (evP rows (.mkfn 74 [(.c (lk l 8)), (.c (lk l 9)), (.c (lk l 6)), (.c (lk l 10))])) fun v0 => bnd (evE rows low (.store1 (.c (lk l 10)) (.c v0))) fun q1 => Ex F cx k ⟨mk 30 [(24, v0), (6, lk l 6), (8, lk l 8), (9, lk l 9), (10, lk l 10)], q1.2.1, q1.2.2⟩ r := reg (keep := [6, 8, 9, 10]) (ops := c42r4) rfl (by kernel_rfl) (by kernel_rfl)
@[simp] theorem uc42s5 : Ex F cx (.code c42s5 :: k) s r ↔ Ex F cx (.code (.seq c42k4 c42s3) :: k) s r := Iff.rfl
@[simp] theorem uc42k6 : Ex F cx (.code c42k6 :: k) ⟨mk 30 l, rows, low⟩ r ↔ bnd (evE rows low (.box (.c .nilfunc))) fun q0 => Ex F cx k ⟨mk 30 [(10, q0.1), (6, lk l 6), (8, lk l 8), (9, lk l 9)], q0.2.1, q0.2.2⟩ r := reg (keep := [6, 8, 9]) (ops := c42r6) rfl (by kernel_rfl) (by kernel_rfl)
@[simp] theorem uc42s7 : Ex F cx (.code c42s7 :: k) s r ↔ Ex F cx (.code (.seq c42k6 c42s5) :: k) s r := Iff.rfl
@[simp] theorem uc42k8 : Ex F cx (.code c42k8 :: k) ⟨mk 30 l, rows, low⟩ r ↔ bnd (evE rows low (.make [.int .i64 0] 8 (.c (lk l 0)) (.c (lk l 0)))) fun q0 => bnd (evE q0.2.1 q0.2.2 (.box (.c .nilslice))) fun q1 => bnd (evE q1.2.1 q1.2.2 (.store1 (.c q1.1) (.c q0.1))) fun q2 => Ex F cx k ⟨mk 30 [(9, q1.1), (23, q0.1), (22, lk l 0), (0, lk l 0), (6, lk l 6), (8, lk l 8)], q2.2.1, q2.2.2⟩ r := reg (keep := [0, 6, 8]) (ops := c42r8) rfl (by kernel_rfl) (by kernel_rfl)
@[simp] theorem uc42s9 : Ex F cx (.code c42s9 :: k) s r ↔ Ex F cx (.code (.seq c42k8 c42s7) :: k) s r := Iff.rfl
@[simp] theorem uc42k10 : Ex F cx (.code c42k10 :: k) ⟨mk 30 l, rows, low⟩ r ↔ bnd (evP rows (.load1 (.c (lk l 6)))) fun v0 => bnd (Ret F 73 [v0] rows) fun q1 => bnd (evE q1.2.1 (lowO low q1.2.2) (.box (.c .nilptr))) fun q2 => bnd (evE q2.2.1 q2.2.2 (.store1 (.c q2.1) (.c q1.1))) fun q3 => Ex F cx k ⟨mk 30 [(8, q2.1), (21, q1.1), (20, v0), (0, lk l 0), (6, lk l 6)], q3.2.1, q3.2.2⟩ r := reg (keep := [0, 6]) (ops := c42r10) rfl (by kernel_rfl) (by kernel_rfl)
@[simp] theorem uc42s11 : Ex F cx (.code c42s11 :: k) s r ↔ Ex F cx (.code (.seq c42k10 c42s9) :: k) s r := Iff.rfl
@[simp] theorem uc42k12 : Ex F cx (.code c42k12 :: k) ⟨mk 30 l, rows, low⟩ r ↔ Ex F cx k ⟨mk 30 [(5, lk l 7), (4, .nilslice), (19, lk l 7), (7, lk l 7)], rows, low⟩ r := reg (keep := [7]) (ops := c42r12) rfl (by kernel_rfl) (by kernel_rfl)
@[simp] theorem uc42s13 : Ex F cx (.code c42s13 :: k) s r ↔ Ex F cx (.code (.cond (.t 18) (.seq c42k12 .ret) .skip) :: k) s r := Iff.rfl
@[simp] theorem uc42k14 : Ex F cx (.code c42k14 :: k) ⟨mk 30 l, rows, low⟩ r ↔ bnd (evP rows (.bin .neq (.c (lk l 7)) (.c (.int .i64 0)))) fun v0 => Ex F cx k ⟨mk 30 [(18, v0), (17, lk l 7), (0, lk l 0), (6, lk l 6), (7, lk l 7)], rows, low⟩ r := reg (keep := [0, 6, 7]) (ops := c42r14) rfl (by kernel_rfl) (by kernel_rfl)
@[simp] theorem uc42s15 : Ex F cx (.code c42s15 :: k) s r ↔ Ex F cx (.code (.seq (.seq c42k14 c42s13) c42s11) :: k) s r := Iff.rfl
@[simp] theorem uc42k16 : Ex F cx (.code c42k16 :: k) ⟨mk 30 l, rows, low⟩ r ↔ bnd (Ret F 68 [lk l 0, lk l 1] rows) fun q0 => bnd (evP q0.2.1 (.ext (.c q0.1) 0)) fun v1 => bnd (evP q0.2.1 (.ext (.c q0.1) 1)) fun v2 => bnd (evE q0.2.1 (lowO low q0.2.2) (.box (.c .nilptr))) fun q3 => bnd (evE q3.2.1 q3.2.2 (.store1 (.c q3.1) (.c v1))) fun q4 => Ex F cx k ⟨mk 30 [(7, v2), (6, q3.1), (16, v2), (15, v1), (11, q0.1), (14, q0.1), (13, lk l 1), (12, lk l 0), (0, lk l 0), (1, lk l 1)], q4.2.1, q4.2.2⟩ r := reg (keep := [0, 1]) (ops := c42r16) rfl (by kernel_rfl) (by kernel_rfl)
@[simp] theorem uc42s17 : Ex F cx (.code c42s17 :: k) s r ↔ Ex F cx (.code (.seq c42k16 c42s15) :: k) s r := Iff.rfl
@[simp] theorem uc42k18 : Ex F cx (.code c42k18 :: k) ⟨mk 30 l, rows, low⟩ r ↔ Ex F cx k ⟨mk 30 [(5, (.int .i64 0)), (4, .nilslice), (0, lk l 0), (1, lk l 1)], rows, low⟩ r := reg (keep := [0, 1]) (ops := c42r18) rfl (by kernel_rfl) (by kernel_rfl)
def Jc42s11 (F : Nat → Option IFn) (cx : Ctx) (x0 x6 : AV) (rows : List Row) (low : Nat) (r : AV × List Row × Nat → Prop) : Prop := Ex F cx (.code c42s11 :: []) ⟨mk 30 [(0, x0), (6, x6)], rows, low⟩ r
theorem jc42s11 : Ex F cx (.code c42s11 :: []) ⟨mk 30 l, rows, low⟩ r ↔ Jc42s11 F cx (lk l 0) (lk l 6) rows low r := Ex_canon (keep := [0, 6]) (by kernel_rfl)
@[simp] theorem uc42b : Ex F cx (.code c42b :: k) s r ↔ Ex F cx (.code (.seq c42k18 c42s17) :: k) s r := Iff.rfl
theorem i42 {x0 x1 : AV} (hF : F 42 = some c42) {q : AV × List Row × Option Nat} (h : Ex F (.fn [.t 4, .t 5]) [.code c42b] ⟨mk 30 [(0, x0), (1, x1)], rows, rows.length⟩ fun r => fin rows r.1 r.2.1 r.2.2 = q) : Ret F 42 [x0, x1] rows = some q := Ret_mk hF h
@[simp] theorem uc48k0 : Ex F cx (.code c48k0 :: k) ⟨mk 22 l, rows, low⟩ r ↔ bnd (Ret F 73 [lk l 6] rows) fun q0 => bnd (Ret F 78 [lk l 6] q0.2.1) fun q1 => bnd (Ret F 75 [q0.1, q1.1] q1.2.1) fun q2 => Ex F cx k ⟨mk 22 [(5, (.int .i64 0)), (4, q2.1), (21, q2.1), (20, q1.1), (19, lk l 6), (18, q0.1), (17, lk l 6), (6, lk l 6)], q2.2.1, (lowO (lowO (lowO low q0.2.2) q1.2.2) q2.2.2)⟩ r := reg (keep := [6]) (ops := c48r0) rfl (by kernel_rfl) (by kernel_rfl)
@[simp] theorem uc48s1 : Ex F cx (.code c48s1 :: k) s r ↔ Ex F cx (.code (.seq c48k0 .ret) :: k) s r := Iff.rfl
@[simp] theorem uc48k2 : Ex F cx (.code c48k2 :: k) ⟨mk 22 l, rows, low⟩ r ↔ Ex F cx k ⟨mk 22 [(5, lk l 7), (4, (.int .i64 0)), (16, lk l 7), (7, lk l 7)], rows, low⟩ r := reg (keep := [7]) (ops := c48r2) rfl (by kernel_rfl) (by kernel_rfl)
@[simp] theorem uc48s3 : Ex F cx (.code c48s3 :: k) s r ↔ Ex F cx (.code (.cond (.t 15) (.seq c48k2 .ret) .skip) :: k) s r := Iff.rfl
@[simp] theorem uc48k4 : Ex F cx (.code c48k4 :: k) ⟨mk 22 l, rows, low⟩ r ↔ bnd (evP rows (.bin .neq (.c (lk l 7)) (.c (.int .i64 0)))) fun v0 => Ex F cx k ⟨mk 22 [(15, v0), (14, lk l 7), (6, lk l 6), (7, lk l 7)], rows, low⟩ r := reg (keep := [6, 7]) (ops := c48r4) rfl (by kernel_rfl) (by kernel_rfl)
@[simp] theorem uc48s5 : Ex F cx (.code c48s5 :: k) s r ↔ Ex F cx (.code (.seq (.seq c48k4 c48s3) c48s1) :: k) s r := Iff.rfl
@[simp] theorem uc48k6 : Ex F cx (.code c48k6 :: k) ⟨mk 22 l, rows, low⟩ r ↔ bnd (Ret F 68 [lk l 0, lk l 1] rows) fun q0 => bnd (evP q0.2.1 (.ext (.c q0.1) 0)) fun v1 => bnd (evP q0.2.1 (.ext (.c q0.1) 1)) fun v2 => Ex F cx k ⟨mk 22 [(7, v2), (6, v1), (13, v2), (12, v1), (8, q0.1), (11, q0.1), (10, lk l 1), (9, lk l 0), (0, lk l 0), (1, lk l 1)], q0.2.1, (lowO low q0.2.2)⟩ r := reg (keep := [0, 1]) (ops := c48r6) rfl (by kernel_rfl) (by kernel_rfl)
@[simp] theorem uc48s7 : Ex F cx (.code c48s7 :: k) s r ↔ Ex F cx (.code (.seq c48k6 c48s5) :: k) s r := Iff.rfl
@[simp] theorem uc48k8 : Ex F cx (.code c48k8 :: k) ⟨mk 22 l, rows, low⟩ r ↔ Ex F cx k ⟨mk 22 [(5, (.int .i64 0)), (4, (.int .i64 0)), (0, lk l 0), (1, lk l 1)], rows, low⟩ r := reg (keep := [0, 1]) (ops := c48r8) rfl (by kernel_rfl) (by kernel_rfl)
def Jc48s1 (F : Nat → Option IFn) (cx : Ctx) (x6 : AV) (rows : List Row) (low : Nat) (r : AV × List Row × Nat → Prop) : Prop := Ex F cx (.code c48s1 :: []) ⟨mk 22 [(6, x6)], rows, low⟩ r
theorem jc48s1 : Ex F cx (.code c48s1 :: []) ⟨mk 22 l, rows, low⟩ r ↔ Jc48s1 F cx (lk l 6) rows low r := Ex_canon (keep := [6]) (by kernel_rfl)
@[simp] theorem uc48b : Ex F cx (.code c48b :: k) s r ↔ Ex F cx (.code (.seq c48k8 c48s7) :: k) s r := Iff.rfl
theorem i48 {x0 x1 : AV} (hF : F 48 = some c48) {q : AV × List Row × Option Nat} (h : Ex F (.fn [.t 4, .t 5]) [.code c48b] ⟨mk 22 [(0, x0), (1, x1)], rows, rows.length⟩ fun r => fin rows r.1 r.2.1 r.2.2 = q) : Ret F 48 [x0, x1] rows = some q := Ret_mk hF h
@[simp] theorem uc49k0 : Ex F cx (.code c49k0 :: k) ⟨mk 53 l, rows, low⟩ r ↔ Ex F cx k ⟨mk 53 [(6, (.int .i64 0)), (5, lk l 10), (4, lk l 9), (52, lk l 10), (51, lk l 9), (9, lk l 9), (10, lk l 10)], rows, low⟩ r := reg (keep := [9, 10]) (ops := c49r0) rfl (by kernel_rfl) (by kernel_rfl)
@[simp] theorem uc49s1 : Ex F cx (.code c49s1 :: k) s r ↔ Ex F cx (.code (.seq c49k0 .ret) :: k) s r := Iff.rfl
@[simp] theorem uc49k3 : Ex F cx (.code c49k3 :: k) ⟨mk 53 l, rows, low⟩ r ↔ bnd (evP rows (.bin .add (.c (lk l 26)) (.c (.int .i64 1)))) fun v0 => Ex F cx k ⟨mk 53 [(26, v0), (50, v0), (7, lk l 7), (9, lk l 9), (10, lk l 10), (25, lk l 25), (26, lk l 26)], rows, low⟩ r := reg (keep := [7, 9, 10, 25, 26]) (ops := c49r3) rfl (by kernel_rfl) (by kernel_rfl)
@[simp] theorem uc49k4 : Ex F cx (.code c49k4 :: k) ⟨mk 53 l, rows, low⟩ r ↔ Ex F cx k ⟨mk 53 [(10, lk l 12), (9, lk l 11), (49, lk l 12), (48, lk l 11), (7, lk l 7), (11, lk l 11), (12, lk l 12), (25, lk l 25), (26, lk l 26)], rows, low⟩ r := reg (keep := [7, 11, 12, 25, 26]) (ops := c49r4) rfl (by kernel_rfl) (by kernel_rfl)
@[simp] theorem uc49s5 : Ex F cx (.code c49s5 :: k) s r ↔ Ex F cx (.code (.cond (.t 47) c49k4 .skip) :: k) s r := Iff.rfl
@[simp] theorem uc49k6 : Ex F cx (.code c49k6 :: k) ⟨mk 53 l, rows, low⟩ r ↔ bnd (evP rows (.bin .lss (.c (lk l 12)) (.c (lk l 10)))) fun v0 => Ex F cx k ⟨mk 53 [(47, v0), (46, lk l 10), (45, lk l 12), (7, lk l 7), (9, lk l 9), (10, lk l 10), (11, lk l 11), (12, lk l 12), (25, lk l 25), (26, lk l 26)], rows, low⟩ r := reg (keep := [7, 9, 10, 11, 12, 25, 26]) (ops := c49r6) rfl (by kernel_rfl) (by kernel_rfl)
@[simp] theorem uc49s7 : Ex F cx (.code c49s7 :: k) s r ↔ Ex F cx (.code (.seq c49k6 c49s5) :: k) s r := Iff.rfl
@[simp] theorem uc49k9 : Ex F cx (.code c49k9 :: k) ⟨mk 53 l, rows, low⟩ r ↔ bnd (evP rows (.bin .add (.c (lk l 35)) (.c (.int .i64 1)))) fun v0 => Ex F cx k ⟨mk 53 [(35, v0), (44, v0), (7, lk l 7), (9, lk l 9), (10, lk l 10), (11, lk l 11), (12, lk l 12), (25, lk l 25), (26, lk l 26), (33, lk l 33), (34, lk l 34), (35, lk l 35)], rows, low⟩ r := reg (keep := [7, 9, 10, 11, 12, 25, 26, 33, 34, 35]) (ops := c49r9) rfl (by kernel_rfl) (by kernel_rfl)
@[simp] theorem uc49k10 : Ex F cx (.code c49k10 :: k) ⟨mk 53 l, rows, low⟩ r ↔ bnd (evP rows (.conv .u64 (.c (lk l 14)))) fun v0 => bnd (Ret F 80 [v0] rows) fun q1 => bnd (evP q1.2.1 (.mx [(.c (lk l 12)), (.c q1.1)])) fun v2 => Ex F cx k ⟨mk 53 [(12, v2), (43, v2), (42, q1.1), (41, v0), (40, lk l 14), (39, lk l 12), (7, lk l 7), (9, lk l 9), (10, lk l 10), (11, lk l 11), (12, lk l 12), (14, lk l 14), (25, lk l 25), (26, lk l 26), (33, lk l 33), (34, lk l 34), (35, lk l 35)], q1.2.1, (lowO low q1.2.2)⟩ r := reg (keep := [7, 9, 10, 11, 12, 14, 25, 26, 33, 34, 35]) (ops := c49r10) rfl (by kernel_rfl) (by kernel_rfl)
@[simp] theorem uc49k11 : Ex F cx (.code c49k11 :: k) ⟨mk 53 l, rows, low⟩ r ↔ bnd (evP rows (.idxS 1 (.c (lk l 33)) (.c (lk l 35)))) fun v0 => bnd (evP rows (.load1 (.c v0))) fun v1 => Ex F cx k ⟨mk 53 [(14, v1), (38, v1), (37, v0), (7, lk l 7), (9, lk l 9), (10, lk l 10), (11, lk l 11), (12, lk l 12), (25, lk l 25), (26, lk l 26), (33, lk l 33), (34, lk l 34), (35, lk l 35)], rows, low⟩ r := reg (keep := [7, 9, 10, 11, 12, 25, 26, 33, 34, 35]) (ops := c49r11) rfl (by kernel_rfl) (by kernel_rfl)
@[simp] theorem uc49s12 : Ex F cx (.code c49s12 :: k) s r ↔ Ex F cx (.code (.seq (.block 3 (.seq c49k11 c49k10)) c49k9) :: k) s r := Iff.rfl
@[simp] theorem uc49s13 : Ex F cx (.code c49s13 :: k) s r ↔ Ex F cx (.code (.seq (.cond (.t 36) .skip (.exit 2)) c49s12) :: k) s r := Iff.rfl
@[simp] theorem uc49k14 : Ex F cx (.code c49k14 :: k) ⟨mk 53 l, rows, low⟩ r ↔ bnd (evP rows (.bin .lss (.c (lk l 35)) (.c (lk l 34)))) fun v0 => Ex F cx k ⟨mk 53 [(36, v0), (7, lk l 7), (9, lk l 9), (10, lk l 10), (11, lk l 11), (12, lk l 12), (25, lk l 25), (26, lk l 26), (33, lk l 33), (34, lk l 34), (35, lk l 35)], rows, low⟩ r := reg (keep := [7, 9, 10, 11, 12, 25, 26, 33, 34, 35]) (ops := c49r14) rfl (by kernel_rfl) (by kernel_rfl)
@[simp] theorem uc49s15 : Ex F cx (.code c49s15 :: k) s r ↔ Ex F cx (.code (.block 2 (.loop c49l8)) :: k) s r := Iff.rfl
@[simp] theorem uc49k16 : Ex F cx (.code c49k16 :: k) ⟨mk 53 l, rows, low⟩ r ↔ bnd (Ret F 78 [lk l 7] rows) fun q0 => bnd (Ret F 77 [lk l 7, q0.1, lk l 11] q0.2.1) fun q1 => bnd (evP q1.2.1 (.len 0 (.c q1.1))) fun v2 => Ex F cx k ⟨mk 53 [(35, (.int .i64 0)), (34, v2), (33, q1.1), (32, lk l 11), (31, q0.1), (30, lk l 7), (29, lk l 7), (7, lk l 7), (9, lk l 9), (10, lk l 10), (11, lk l 11), (12, lk l 12), (25, lk l 25), (26, lk l 26)], q1.2.1, (lowO (lowO low q0.2.2) q1.2.2)⟩ r := reg (keep := [7, 9, 10, 11, 12, 25, 26]) (ops := c49r16) rfl (by kernel_rfl) (by kernel_rfl)
@[simp] theorem uc49s17 : Ex F cx (.code c49s17 :: k) s r ↔ Ex F cx (.code (.seq (.seq c49k16 c49s15) c49s7) :: k) s r := Iff.rfl
@[simp] theorem uc49k18 : Ex F cx (.code c49k18 :: k) ⟨mk 53 l, rows, low⟩ r ↔ Ex F cx k ⟨mk 53 [(12, (.int .i64 0)), (7, lk l 7), (9, lk l 9), (10, lk l 10), (11, lk l 11), (25, lk l 25), (26, lk l 26)], rows, low⟩ r := reg (keep := [7, 9, 10, 11, 25, 26]) (ops := c49r18) rfl (by kernel_rfl) (by kernel_rfl)
@[simp] theorem uc49s19 : Ex F cx (.code c49s19 :: k) s r ↔ Ex F cx (.code (.seq c49k18 c49s17) :: k) s r := Iff.rfl
@[simp] theorem uc49k20 : Ex F cx (.code c49k20 :: k) ⟨mk 53 l, rows, low⟩ r ↔ Ex F cx k ⟨mk 53 [(11, lk l 26), (28, lk l 26), (7, lk l 7), (9, lk l 9), (10, lk l 10), (25, lk l 25), (26, lk l 26)], rows, low⟩ r := reg (keep := [7, 9, 10, 25, 26]) (ops := c49r20) rfl (by kernel_rfl) (by kernel_rfl)
@[simp] theorem uc49s21 : Ex F cx (.code c49s21 :: k) s r ↔ Ex F cx (.code (.seq (.block 1 (.seq c49k20 c49s19)) c49k3) :: k) s r := Iff.rfl
@[simp] theorem uc49s22 : Ex F cx (.code c49s22 :: k) s r ↔ Ex F cx (.code (.seq (.cond (.t 27) .skip (.exit 0)) c49s21) :: k) s r := Iff.rfl
@[simp] theorem uc49k23 : Ex F cx (.code c49k23 :: k) ⟨mk 53 l, rows, low⟩ r ↔ bnd (evP rows (.bin .lss (.c (lk l 26)) (.c (lk l 25)))) fun v0 => Ex F cx k ⟨mk 53 [(27, v0), (7, lk l 7), (9, lk l 9), (10, lk l 10), (25, lk l 25), (26, lk l 26)], rows, low⟩ r := reg (keep := [7, 9, 10, 25, 26]) (ops := c49r23) rfl (by kernel_rfl) (by kernel_rfl)
@[simp] theorem uc49s24 : Ex F cx (.code c49s24 :: k) s r ↔ Ex F cx (.code (.block 0 (.loop c49l2)) :: k) s r := Iff.rfl
@[simp] theorem uc49k25 : Ex F cx (.code c49k25 :: k) ⟨mk 53 l, rows, low⟩ r ↔ Ex F cx k ⟨mk 53 [(26, (.int .i64 0)), (25, lk l 0), (0, lk l 0), (7, lk l 7), (9, lk l 9), (10, lk l 10)], rows, low⟩ r := reg (keep := [0, 7, 9, 10]) (ops := c49r25) rfl (by kernel_rfl) (by kernel_rfl)
@[simp] theorem uc49s26 : Ex F cx (.code c49s26 :: k) s r ↔ Ex F cx (.code (.seq (.seq c49k25 c49s24) c49s1) :: k) s r := Iff.rfl
@[simp] theorem uc49k27 : Ex F cx (.code c49k27 :: k) ⟨mk 53 l, rows, low⟩ r ↔ Ex F cx k ⟨mk 53 [(10, lk l 0), (9, (.int .i64 0)), (24, lk l 0), (0, lk l 0), (7, lk l 7)], rows, low⟩ r := reg (keep := [0, 7]) (ops := c49r27) rfl (by kernel_rfl) (by kernel_rfl)
@[simp] theorem uc49s28 : Ex F cx (.code c49s28 :: k) s r ↔ Ex F cx (.code (.seq c49k27 c49s26) :: k) s r := Iff.rfl
@[simp] theorem uc49k29 : Ex F cx (.code c49k29 :: k) ⟨mk 53 l, rows, low⟩ r ↔ Ex F cx k ⟨mk 53 [(6, lk l 8), (5, (.int .i64 0)), (4, (.int .i64 0)), (23, lk l 8), (8, lk l 8)], rows, low⟩ r := reg (keep := [8]) (ops := c49r29) rfl (by kernel_rfl) (by kernel_rfl)
@[simp] theorem uc49s30 : Ex F cx (.code c49s30 :: k) s r ↔ Ex F cx (.code (.cond (.t 22) (.seq c49k29 .ret) .skip) :: k) s r := Iff.rfl
@[simp] theorem uc49k31 : Ex F cx (.code c49k31 :: k) ⟨mk 53 l, rows, low⟩ r ↔ bnd (evP rows (.bin .neq (.c (lk l 8)) (.c (.int .i64 0)))) fun v0 => Ex F cx k ⟨mk 53 [(22, v0), (21, lk l 8), (0, lk l 0), (7, lk l 7), (8, lk l 8)], rows, low⟩ r := reg (keep := [0, 7, 8]) (ops := c49r31) rfl (by kernel_rfl) (by kernel_rfl)
@[simp] theorem uc49s32 : Ex F cx (.code c49s32 :: k) s r ↔ Ex F cx (.code (.seq (.seq c49k31 c49s30) c49s28) :: k) s r := Iff.rfl
@[simp] theorem uc49k33 : Ex F cx (.code c49k33 :: k) ⟨mk 53 l, rows, low⟩ r ↔ bnd (Ret F 68 [lk l 0, lk l 1] rows) fun q0 => bnd (evP q0.2.1 (.ext (.c q0.1) 0)) fun v1 => bnd (evP q0.2.1 (.ext (.c q0.1) 1)) fun v2 => Ex F cx k ⟨mk 53 [(8, v2), (7, v1), (20, v2), (19, v1), (15, q0.1), (18, q0.1), (17, lk l 1), (16, lk l 0), (0, lk l 0), (1, lk l 1)], q0.2.1, (lowO low q0.2.2)⟩ r := reg (keep := [0, 1]) (ops := c49r33) rfl (by kernel_rfl) (by kernel_rfl)
@[simp] theorem uc49s34 : Ex F cx (.code c49s34 :: k) s r ↔ Ex F cx (.code (.seq c49k33 c49s32) :: k) s r := Iff.rfl
@[simp] theorem uc49k35 : Ex F cx (.code c49k35 :: k) ⟨mk 53 l, rows, low⟩ r ↔ Ex F cx k ⟨mk 53 [(6, (.int .i64 0)), (5, (.int .i64 0)), (4, (.int .i64 0)), (0, lk l 0), (1, lk l 1)], rows, low⟩ r := reg (keep := [0, 1]) (ops := c49r35) rfl (by kernel_rfl) (by kernel_rfl)
def Jc49s12 (F : Nat → Option IFn) (cx : Ctx) (x7 x9 x10 x11 x12 x25 x26 x33 x34 x35 : AV) (rows : List Row) (low : Nat) (r : AV × List Row × Nat → Prop) : Prop := Ex F cx (.code c49s12 :: .inLoop c49l8 :: .inBlock 2 :: .code c49s7 :: .inBlock 1 :: .code c49k3 :: .inLoop c49l2 :: .inBlock 0 :: .code c49s1 :: []) ⟨mk 53 [(7, x7), (9, x9), (10, x10), (11, x11), (12, x12), (25, x25), (26, x26), (33, x33), (34, x34), (35, x35)], rows, low⟩ r
theorem jc49s12 : Ex F cx (.code c49s12 :: .inLoop c49l8 :: .inBlock 2 :: .code c49s7 :: .inBlock 1 :: .code c49k3 :: .inLoop c49l2 :: .inBlock 0 :: .code c49s1 :: []) ⟨mk 53 l, rows, low⟩ r ↔ Jc49s12 F cx (lk l 7) (lk l 9) (lk l 10) (lk l 11) (lk l 12) (lk l 25) (lk l 26) (lk l 33) (lk l 34) (lk l 35) rows low r := Ex_canon (keep := [7, 9, 10, 11, 12, 25, 26, 33, 34, 35]) (by kernel_rfl)
def Lc49l8 (F : Nat → Option IFn) (cx : Ctx) (x7 x9 x10 x11 x12 x25 x26 x33 x34 x35 : AV) (rows : List Row) (low : Nat) (r : AV × List Row × Nat → Prop) : Prop := Ex F cx (.code c49l8 :: .inLoop c49l8 :: .inBlock 2 :: .code c49s7 :: .inBlock 1 :: .code c49k3 :: .inLoop c49l2 :: .inBlock 0 :: .code c49s1 :: []) ⟨mk 53 [(7, x7), (9, x9), (10, x10), (11, x11), (12, x12), (25, x25), (26, x26), (33, x33), (34, x34), (35, x35)], rows, low⟩ r
@[simp] theorem nc49l8 : Ex F cx (.inLoop c49l8 :: .inBlock 2 :: .code c49s7 :: .inBlock 1 :: .code c49k3 :: .inLoop c49l2 :: .inBlock 0 :: .code c49s1 :: []) ⟨mk 53 l, rows, low⟩ r ↔ Lc49l8 F cx (lk l 7) (lk l 9) (lk l 10) (lk l 11) (lk l 12) (lk l 25) (lk l 26) (lk l 33) (lk l 34) (lk l 35) rows low r := loopN (keep := [7, 9, 10, 11, 12, 25, 26, 33, 34, 35]) (by kernel_rfl)
@[simp] theorem ec49l8 : Ex F cx (.code (.loop c49l8) :: .inBlock 2 :: .code c49s7 :: .inBlock 1 :: .code c49k3 :: .inLoop c49l2 :: .inBlock 0 :: .code c49s1 :: []) ⟨mk 53 l, rows, low⟩ r ↔ Lc49l8 F cx (lk l 7) (lk l 9) (lk l 10) (lk l 11) (lk l 12) (lk l 25) (lk l 26) (lk l 33) (lk l 34) (lk l 35) rows low r := loopE (keep := [7, 9, 10, 11, 12, 25, 26, 33, 34, 35]) (by kernel_rfl)
@[simp] theorem uc49l8 : Ex F cx (.code c49l8 :: k) s r ↔ Ex F cx (.code (.seq c49k14 c49s13) :: k) s r := Iff.rfl
def Jc49s21 (F : Nat → Option IFn) (cx : Ctx) (x7 x9 x10 x25 x26 : AV) (rows : List Row) (low : Nat) (r : AV × List Row × Nat → Prop) : Prop := Ex F cx (.code c49s21 :: .inLoop c49l2 :: .inBlock 0 :: .code c49s1 :: []) ⟨mk 53 [(7, x7), (9, x9), (10, x10), (25, x25), (26, x26)], rows, low⟩ r
theorem jc49s21 : Ex F cx (.code c49s21 :: .inLoop c49l2 :: .inBlock 0 :: .code c49s1 :: []) ⟨mk 53 l, rows, low⟩ r ↔ Jc49s21 F cx (lk l 7) (lk l 9) (lk l 10) (lk l 25) (lk l 26) rows low r := Ex_canon (keep := [7, 9, 10, 25, 26]) (by kernel_rfl)
def Lc49l2 (F : Nat → Option IFn) (cx : Ctx) (x7 x9 x10 x25 x26 : AV) (rows : List Row) (low : Nat) (r : AV × List Row × Nat → Prop) : Prop := Ex F cx (.code c49l2 :: .inLoop c49l2 :: .inBlock 0 :: .code c49s1 :: []) ⟨mk 53 [(7, x7), (9, x9), (10, x10), (25, x25), (26, x26)], rows, low⟩ r
@[simp] theorem nc49l2 : Ex F cx (.inLoop c49l2 :: .inBlock 0 :: .code c49s1 :: []) ⟨mk 53 l, rows, low⟩ r ↔ Lc49l2 F cx (lk l 7) (lk l 9) (lk l 10) (lk l 25) (lk l 26) rows low r := loopN (keep := [7, 9, 10, 25, 26]) (by kernel_rfl)
@[simp] theorem ec49l2 : Ex F cx (.code (.loop c49l2) :: .inBlock 0 :: .code c49s1 :: []) ⟨mk 53 l, rows, low⟩ r ↔ Lc49l2 F cx (lk l 7) (lk l 9) (lk l 10) (lk l 25) (lk l 26) rows low r := loopE (keep := [7, 9, 10, 25, 26]) (by kernel_rfl)
@[simp] theorem uc49l2 : Ex F cx (.code c49l2 :: k) s r ↔ Ex F cx (.code (.seq c49k23 c49s22) :: k) s r := Iff.rfl
def Jc49s28 (F : Nat → Option IFn) (cx : Ctx) (x0 x7 : AV) (rows : List Row) (low : Nat) (r : AV × List Row × Nat → Prop) : Prop := Ex F cx (.code c49s28 :: []) ⟨mk 53 [(0, x0), (7, x7)], rows, low⟩ r
theorem jc49s28 : Ex F cx (.code c49s28 :: []) ⟨mk 53 l, rows, low⟩ r ↔ Jc49s28 F cx (lk l 0) (lk l 7) rows low r := Ex_canon (keep := [0, 7]) (by kernel_rfl)
@[simp] theorem uc49b : Ex F cx (.code c49b :: k) s r ↔ Ex F cx (.code (.seq c49k35 c49s34) :: k) s r := Iff.rfl
theorem i49 {x0 x1 : AV} (hF : F 49 = some c49) {q : AV × List Row × Option Nat} (h : Ex F (.fn [.t 4, .t 5, .t 6]) [.code c49b] ⟨mk 53 [(0, x0), (1, x1)], rows, rows.length⟩ fun r => fin rows r.1 r.2.1 r.2.2 = q) : Ret F 49 [x0, x1] rows = some q := Ret_mk hF h
@[simp] theorem uc52k0 : Ex F cx (.code c52k0 :: k) ⟨mk 11 l, rows, low⟩ r ↔ bnd (evP rows (.len 0 (.c (lk l 0)))) fun v0 => bnd (evP rows (.mn [(.c v0), (.c (.int .i64 11))])) fun v1 => bnd (evP rows (.sliceS 2 (.c (lk l 0)) none (some (.c v1)) none)) fun v2 => bnd (evE rows low (.app 2 16 (.c (lk l 3)) (.c v2))) fun q3 => Ex F cx k ⟨mk 11 [(2, q3.1), (10, q3.1), (9, v2), (8, v1), (7, v0), (6, lk l 0), (5, lk l 0), (4, lk l 3), (0, lk l 0), (3, lk l 3)], q3.2.1, q3.2.2⟩ r := reg (keep := [0, 3]) (ops := c52r0) rfl (by kernel_rfl) (by kernel_rfl)
@[simp] theorem uc52s1 : Ex F cx (.code c52s1 :: k) s r ↔ Ex F cx (.code (.seq c52k0 .ret) :: k) s r := Iff.rfl
@[simp] theorem uc52k2 : Ex F cx (.code c52k2 :: k) ⟨mk 11 l, rows, low⟩ r ↔ Ex F cx k ⟨mk 11 [(3, .nilslice), (0, lk l 0)], rows, low⟩ r := reg (keep := [0]) (ops := c52r2) rfl (by kernel_rfl) (by kernel_rfl)
@[simp] theorem uc52s3 : Ex F cx (.code c52s3 :: k) s r ↔ Ex F cx (.code (.seq c52k2 c52s1) :: k) s r := Iff.rfl
@[simp] theorem uc52k4 : Ex F cx (.code c52k4 :: k) ⟨mk 11 l, rows, low⟩ r ↔ Ex F cx k ⟨mk 11 [(2, .nilslice), (0, lk l 0)], rows, low⟩ r := reg (keep := [0]) (ops := c52r4) rfl (by kernel_rfl) (by kernel_rfl)
@[simp] theorem uc52b : Ex F cx (.code c52b :: k) s r ↔ Ex F cx (.code (.seq c52k4 c52s3) :: k) s r := Iff.rfl
theorem i52 {x0 : AV} (hF : F 52 = some c52) {q : AV × List Row × Option Nat} (h : Ex F (.fn [.t 2]) [.code c52b] ⟨mk 11 [(0, x0)], rows, rows.length⟩ fun r => fin rows r.1 r.2.1 r.2.2 = q) : Ret F 52 [x0] rows = some q := Ret_mk hF h
@[simp] theorem uc53k0 : Ex F cx (.code c53k0 :: k) ⟨mk 91 l, rows, low⟩ r ↔ Ex F cx k ⟨mk 91 [(4, (.int .i64 0))], rows, low⟩ r := reg (keep := []) (ops := c53r0) rfl (by kernel_rfl) (by kernel_rfl)
@[simp] theorem uc53s1 : Ex F cx (.code c53s1 :: k) s r ↔ Ex F cx (.code (.seq c53k0 .ret) :: k) s r := Iff.rfl
@[simp] theorem uc53k2 : Ex F cx (.code c53k2 :: k) ⟨mk 91 l, rows, low⟩ r ↔ Ex F cx k ⟨mk 91 [(4, (.int .i64 81))], rows, low⟩ r := reg (keep := []) (ops := c53r2) rfl (by kernel_rfl) (by kernel_rfl)
@[simp] theorem uc53s3 : Ex F cx (.code c53s3 :: k) s r ↔ Ex F cx (.code (.cond (.t 90) (.seq c53k2 .ret) .skip) :: k) s r := Iff.rfl
@[simp] theorem uc53k4 : Ex F cx (.code c53k4 :: k) ⟨mk 91 l, rows, low⟩ r ↔ bnd (evP rows (.len 0 (.c (lk l 1)))) fun v0 => bnd (evP rows (.bin .sub (.c (lk l 0)) (.c (.int .i64 1)))) fun v1 => bnd (evP rows (.bin .neq (.c v0) (.c v1))) fun v2 => bnd (gv v2 false (evP rows (.mv (.c (lk l 0))))) fun v3 => bnd (gv v2 false (evP rows (.mv (.c (lk l 1))))) fun v4 => bnd (gv v2 false (evP rows (.mv (.c (lk l 0))))) fun v5 => bnd (gv v2 false (evP rows (.bin .shl (.c (.int .i64 1)) (.c v5)))) fun v6 => bnd (gv v2 false (evP rows (.bin .sub (.c v6) (.c (.int .i64 1))))) fun v7 => gcall F v2 false rows low [v3, v4, v7] (.func 71 []) fun v8 R8 L8 => bnd (gv v2 false (evP R8 (.len 0 (.c v8)))) fun v9 => bnd (gv v2 false (evP R8 (.bin .neq (.c v9) (.c (.int .i64 1))))) fun v10 => bnd (evP R8 (.pick (.c v2) (.c (.bool true)) (.c v10))) fun v11 => Ex F cx k ⟨mk 91 [(90, v11), (89, v10), (88, v9), (87, v8), (86, v7), (85, v6), (84, v5), (83, v4), (82, v3), (81, v2), (80, v2), (79, v1), (78, lk l 0), (77, v0), (76, lk l 1), (0, lk l 0), (1, lk l 1)], R8, L8⟩ r := reg (keep := [0, 1]) (ops := c53r4) rfl (by kernel_rfl) (by kernel_rfl)
@[simp] theorem uc53s5 : Ex F cx (.code c53s5 :: k) s r ↔ Ex F cx (.code (.seq (.seq c53k4 c53s3) c53s1) :: k) s r := Iff.rfl
@[simp] theorem uc53k7 : Ex F cx (.code c53k7 :: k) ⟨mk 91 l, rows, low⟩ r ↔ bnd (evP rows (.bin .add (.c (lk l 5)) (.c (.int .i64 1)))) fun v0 => Ex F cx k ⟨mk 91 [(5, v0), (19, v0), (18, lk l 5), (0, lk l 0), (1, lk l 1), (5, lk l 5)], rows, low⟩ r := reg (keep := [0, 1, 5]) (ops := c53r7) rfl (by kernel_rfl) (by kernel_rfl)
@[simp] theorem uc53k8 : Ex F cx (.code c53k8 :: k) ⟨mk 91 l, rows, low⟩ r ↔ Ex F cx k ⟨mk 91 [(4, (.int .i64 81))], rows, low⟩ r := reg (keep := []) (ops := c53r8) rfl (by kernel_rfl) (by kernel_rfl)
@[simp] theorem uc53s9 : Ex F cx (.code c53s9 :: k) s r ↔ Ex F cx (.code (.cond (.t 75) (.seq c53k8 .ret) .skip) :: k) s r := Iff.rfl
@[simp] theorem uc53k10 : Ex F cx (.code c53k10 :: k) ⟨mk 91 l, rows, low⟩ r ↔ bnd (evP rows (.bin .lss (.c (lk l 6)) (.c (.int .i64 0)))) fun v0 => bnd (gv v0 false (evP rows (.mv (.c (lk l 6))))) fun v1 => bnd (gv v0 false (evP rows (.mv (.c (lk l 7))))) fun v2 => bnd (gv v0 false (evP rows (.bin .geq (.c v1) (.c v2)))) fun v3 => bnd (evP rows (.pick (.c v0) (.c (.bool true)) (.c v3))) fun v4 => bnd (gv v4 false (evP rows (.mv (.c (lk l 7))))) fun v5 => bnd (gv v4 false (evP rows (.mv (.c (lk l 0))))) fun v6 => bnd (gv v4 false (evP rows (.bin .geq (.c v5) (.c v6)))) fun v7 => bnd (evP rows (.pick (.c v4) (.c (.bool true)) (.c v7))) fun v8 => bnd (gv v8 false (evP rows (.mv (.c (lk l 5))))) fun v9 => bnd (gv v8 false (evP rows (.bin .gtr (.c v9) (.c (.int .i64 0))))) fun v10 => bnd (gv v8 false (evP rows (.mv (.c v10)))) fun v11 => bnd (gv v11 true (evP rows (.mv (.c (lk l 1))))) fun v12 => bnd (gv v11 true (evP rows (.mv (.c (lk l 5))))) fun v13 => bnd (gv v11 true (evP rows (.bin .sub (.c v13) (.c (.int .i64 1))))) fun v14 => bnd (gv v11 true (evP rows (.idxS 2 (.c v12) (.c v14)))) fun v15 => bnd (gv v11 true (evP rows (.idxA 2 1 (.c v15) (.c (.int .i64 0))))) fun v16 => bnd (gv v11 true (evP rows (.load1 (.c v16)))) fun v17 => bnd (gv v11 true (evP rows (.mv (.c (lk l 6))))) fun v18 => bnd (gv v11 true (evP rows (.bin .gtr (.c v17) (.c v18)))) fun v19 => bnd (gv v11 true (evP rows (.mv (.c v19)))) fun v20 => bnd (gv v20 false (evP rows (.mv (.c (lk l 1))))) fun v21 => bnd (gv v20 false (evP rows (.mv (.c (lk l 5))))) fun v22 => bnd (gv v20 false (evP rows (.bin .sub (.c v22) (.c (.int .i64 1))))) fun v23 => bnd (gv v20 false (evP rows (.idxS 2 (.c v21) (.c v23)))) fun v24 => bnd (gv v20 false (evP rows (.idxA 2 1 (.c v24) (.c (.int .i64 0))))) fun v25 => bnd (gv v20 false (evP rows (.load1 (.c v25)))) fun v26 => bnd (gv v20 false (evP rows (.mv (.c (lk l 6))))) fun v27 => bnd (gv v20 false (evP rows (.bin .eql (.c v26) (.c v27)))) fun v28 => bnd (gv v20 false (evP rows (.mv (.c v28)))) fun v29 => bnd (gv v29 true (evP rows (.mv (.c (lk l 1))))) fun v30 => bnd (gv v29 true (evP rows (.mv (.c (lk l 5))))) fun v31 => bnd (gv v29 true (evP rows (.bin .sub (.c v31) (.c (.int .i64 1))))) fun v32 => bnd (gv v29 true (evP rows (.idxS 2 (.c v30) (.c v32)))) fun v33 => bnd (gv v29 true (evP rows (.idxA 2 1 (.c v33) (.c (.int .i64 1))))) fun v34 => bnd (gv v29 true (evP rows (.load1 (.c v34)))) fun v35 => bnd (gv v29 true (evP rows (.mv (.c (lk l 7))))) fun v36 => bnd (gv v29 true (evP rows (.bin .geq (.c v35) (.c v36)))) fun v37 => bnd (gv v20 false (evP rows (.pick (.c v29) (.c v37) (.c (.bool false))))) fun v38 => bnd (gv v11 true (evP rows (.pick (.c v20) (.c (.bool true)) (.c v38)))) fun v39 => bnd (gv v8 false (evP rows (.pick (.c v11) (.c v39) (.c (.bool false))))) fun v40 => bnd (evP rows (.pick (.c v8) (.c (.bool true)) (.c v40))) fun v41 => Ex F cx k ⟨mk 91 [(75, v41), (74, v40), (73, v39), (72, v38), (71, v37), (70, v36), (69, v35), (68, v34), (67, v33), (66, v32), (65, v31), (64, v30), (63, v29), (62, v28), (61, v27), (60, v26), (59, v25), (58, v24), (57, v23), (56, v22), (55, v21), (54, v20), (53, v19), (52, v18), (51, v17), (50, v16), (49, v15), (48, v14), (47, v13), (46, v12), (45, v11), (44, v10), (43, v9), (42, v8), (41, v8), (40, v7), (39, v6), (38, v5), (37, v4), (36, v4), (35, v3), (34, v2), (33, v1), (32, v0), (31, v0), (30, lk l 6), (0, lk l 0), (1, lk l 1), (5, lk l 5), (6, lk l 6), (7, lk l 7)], rows, low⟩ r := reg (keep := [0, 1, 5, 6, 7]) (ops := c53r10) rfl (by kernel_rfl) (by kernel_rfl)
@[simp] theorem uc53s11 : Ex F cx (.code c53s11 :: k) s r ↔ Ex F cx (.code (.seq c53k10 c53s9) :: k) s r := Iff.rfl
@[simp] theorem uc53k12 : Ex F cx (.code c53k12 :: k) ⟨mk 91 l, rows, low⟩ r ↔ bnd (evP rows (.idxS 2 (.c (lk l 1)) (.c (lk l 5)))) fun v0 => bnd (evP rows (.idxA 2 1 (.c v0) (.c (.int .i64 0)))) fun v1 => bnd (evP rows (.load1 (.c v1))) fun v2 => bnd (evP rows (.idxS 2 (.c (lk l 1)) (.c (lk l 5)))) fun v3 => bnd (evP rows (.idxA 2 1 (.c v3) (.c (.int .i64 1)))) fun v4 => bnd (evP rows (.load1 (.c v4))) fun v5 => Ex F cx k ⟨mk 91 [(7, v5), (6, v2), (29, v5), (28, v4), (27, v3), (26, lk l 5), (25, lk l 1), (24, v2), (23, v1), (22, v0), (21, lk l 5), (20, lk l 1), (0, lk l 0), (1, lk l 1), (5, lk l 5)], rows, low⟩ r := reg (keep := [0, 1, 5]) (ops := c53r12) rfl (by kernel_rfl) (by kernel_rfl)
@[simp] theorem uc53s13 : Ex F cx (.code c53s13 :: k) s r ↔ Ex F cx (.code (.seq (.block 1 (.seq c53k12 c53s11)) c53k7) :: k) s r := Iff.rfl
@[simp] theorem uc53s14 : Ex F cx (.code c53s14 :: k) s r ↔ Ex F cx (.code (.cond (.t 17) .skip (.exit 0)) :: k) s r := Iff.rfl
@[simp] theorem uc53k15 : Ex F cx (.code c53k15 :: k) ⟨mk 91 l, rows, low⟩ r ↔ bnd (evP rows (.len 0 (.c (lk l 1)))) fun v0 => bnd (evP rows (.bin .lss (.c (lk l 5)) (.c v0))) fun v1 => Ex F cx k ⟨mk 91 [(17, v1), (16, v0), (15, lk l 1), (14, lk l 5), (0, lk l 0), (1, lk l 1), (5, lk l 5)], rows, low⟩ r := reg (keep := [0, 1, 5]) (ops := c53r15) rfl (by kernel_rfl) (by kernel_rfl)
@[simp] theorem uc53s16 : Ex F cx (.code c53s16 :: k) s r ↔ Ex F cx (.code (.block 0 (.loop c53l6)) :: k) s r := Iff.rfl
@[simp] theorem uc53k17 : Ex F cx (.code c53k17 :: k) ⟨mk 91 l, rows, low⟩ r ↔ Ex F cx k ⟨mk 91 [(5, (.int .i64 0)), (0, lk l 0), (1, lk l 1)], rows, low⟩ r := reg (keep := [0, 1]) (ops := c53r17) rfl (by kernel_rfl) (by kernel_rfl)
@[simp] theorem uc53s18 : Ex F cx (.code c53s18 :: k) s r ↔ Ex F cx (.code (.seq (.seq c53k17 c53s16) c53s5) :: k) s r := Iff.rfl
@[simp] theorem uc53k19 : Ex F cx (.code c53k19 :: k) ⟨mk 91 l, rows, low⟩ r ↔ Ex F cx k ⟨mk 91 [(4, (.int .i64 1))], rows, low⟩ r := reg (keep := []) (ops := c53r19) rfl (by kernel_rfl) (by kernel_rfl)
@[simp] theorem uc53s20 : Ex F cx (.code c53s20 :: k) s r ↔ Ex F cx (.code (.cond (.t 13) (.seq c53k19 .ret) .skip) :: k) s r := Iff.rfl
@[simp] theorem uc53k21 : Ex F cx (.code c53k21 :: k) ⟨mk 91 l, rows, low⟩ r ↔ bnd (evP rows (.bin .lss (.c (lk l 0)) (.c (.int .i64 1)))) fun v0 => bnd (gv v0 false (evP rows (.mv (.c (lk l 0))))) fun v1 => bnd (gv v0 false (evP rows (.bin .gtr (.c v1) (.c (.int .i64 10))))) fun v2 => bnd (evP rows (.pick (.c v0) (.c (.bool true)) (.c v2))) fun v3 => Ex F cx k ⟨mk 91 [(13, v3), (12, v2), (11, v1), (10, v0), (9, v0), (8, lk l 0), (0, lk l 0), (1, lk l 1)], rows, low⟩ r := reg (keep := [0, 1]) (ops := c53r21) rfl (by kernel_rfl) (by kernel_rfl)
@[simp] theorem uc53s22 : Ex F cx (.code c53s22 :: k) s r ↔ Ex F cx (.code (.seq (.seq c53k21 c53s20) c53s18) :: k) s r := Iff.rfl
@[simp] theorem uc53k23 : Ex F cx (.code c53k23 :: k) ⟨mk 91 l, rows, low⟩ r ↔ Ex F cx k ⟨mk 91 [(4, (.int .i64 0)), (0, lk l 0), (1, lk l 1)], rows, low⟩ r := reg (keep := [0, 1]) (ops := c53r23) rfl (by kernel_rfl) (by kernel_rfl)
def Jc53s1 (F : Nat → Option IFn) (cx : Ctx) (rows : List Row) (low : Nat) (r : AV × List Row × Nat → Prop) : Prop := Ex F cx (.code c53s1 :: []) ⟨mk 91 [], rows, low⟩ r
theorem jc53s1 : Ex F cx (.code c53s1 :: []) ⟨mk 91 l, rows, low⟩ r ↔ Jc53s1 F cx  rows low r := Ex_canon (keep := []) (by kernel_rfl)
def Jc53s13 (F : Nat → Option IFn) (cx : Ctx) (x0 x1 x5 : AV) (rows : List Row) (low : Nat) (r : AV × List Row × Nat → Prop) : Prop := Ex F cx (.code c53s13 :: .inLoop c53l6 :: .inBlock 0 :: .code c53s5 :: []) ⟨mk 91 [(0, x0), (1, x1), (5, x5)], rows, low⟩ r
theorem jc53s13 : Ex F cx (.code c53s13 :: .inLoop c53l6 :: .inBlock 0 :: .code c53s5 :: []) ⟨mk 91 l, rows, low⟩ r ↔ Jc53s13 F cx (lk l 0) (lk l 1) (lk l 5) rows low r := Ex_canon (keep := [0, 1, 5]) (by kernel_rfl)
def Lc53l6 (F : Nat → Option IFn) (cx : Ctx) (x0 x1 x5 : AV) (rows : List Row) (low : Nat) (r : AV × List Row × Nat → Prop) : Prop := Ex F cx (.code c53l6 :: .inLoop c53l6 :: .inBlock 0 :: .code c53s5 :: []) ⟨mk 91 [(0, x0), (1, x1), (5, x5)], rows, low⟩ r
@[simp] theorem nc53l6 : Ex F cx (.inLoop c53l6 :: .inBlock 0 :: .code c53s5 :: []) ⟨mk 91 l, rows, low⟩ r ↔ Lc53l6 F cx (lk l 0) (lk l 1) (lk l 5) rows low r := loopN (keep := [0, 1, 5]) (by kernel_rfl)
@[simp] theorem ec53l6 : Ex F cx (.code (.loop c53l6) :: .inBlock 0 :: .code c53s5 :: []) ⟨mk 91 l, rows, low⟩ r ↔ Lc53l6 F cx (lk l 0) (lk l 1) (lk l 5) rows low r := loopE (keep := [0, 1, 5]) (by kernel_rfl)
@[simp] theorem uc53l6 : Ex F cx (.code c53l6 :: k) s r ↔ Ex F cx (.code (.seq (.seq c53k15 c53s14) c53s13) :: k) s r := Iff.rfl
def Jc53s18 (F : Nat → Option IFn) (cx : Ctx) (x0 x1 : AV) (rows : List Row) (low : Nat) (r : AV × List Row × Nat → Prop) : Prop := Ex F cx (.code c53s18 :: []) ⟨mk 91 [(0, x0), (1, x1)], rows, low⟩ r
theorem jc53s18 : Ex F cx (.code c53s18 :: []) ⟨mk 91 l, rows, low⟩ r ↔ Jc53s18 F cx (lk l 0) (lk l 1) rows low r := Ex_canon (keep := [0, 1]) (by kernel_rfl)
@[simp] theorem uc53b : Ex F cx (.code c53b :: k) s r ↔ Ex F cx (.code (.seq c53k23 c53s22) :: k) s r := Iff.rfl
theorem i53 {x0 x1 : AV} (hF : F 53 = some c53) {q : AV × List Row × Option Nat} (h : Ex F (.fn [.t 4]) [.code c53b] ⟨mk 91 [(0, x0), (1, x1)], rows, rows.length⟩ fun r => fin rows r.1 r.2.1 r.2.2 = q) : Ret F 53 [x0, x1] rows = some q := Ret_mk hF h
@[simp] theorem uc54k0 : Ex F cx (.code c54k0 :: k) ⟨mk 14 l, rows, low⟩ r ↔ Ex F cx k ⟨mk 14 [(4, lk l 6), (13, lk l 6), (6, lk l 6)], rows, low⟩ r := reg (keep := [6]) (ops := c54r0) rfl (by kernel_rfl) (by kernel_rfl)
@[simp] theorem uc54s1 : Ex F cx (.code c54s1 :: k) s r ↔ Ex F cx (.code (.seq c54k0 .ret) :: k) s r := Iff.rfl
@[simp] theorem uc54k2 : Ex F cx (.code c54k2 :: k) ⟨mk 14 l, rows, low⟩ r ↔ bnd (Ret F 68 [lk l 0, lk l 1] rows) fun q0 => bnd (evP q0.2.1 (.ext (.c q0.1) 0)) fun v1 => bnd (evP q0.2.1 (.ext (.c q0.1) 1)) fun v2 => Ex F cx k ⟨mk 14 [(6, v2), (5, v1), (12, v2), (11, v1), (7, q0.1), (10, q0.1), (9, lk l 1), (8, lk l 0), (0, lk l 0), (1, lk l 1)], q0.2.1, (lowO low q0.2.2)⟩ r := reg (keep := [0, 1]) (ops := c54r2) rfl (by kernel_rfl) (by kernel_rfl)
@[simp] theorem uc54s3 : Ex F cx (.code c54s3 :: k) s r ↔ Ex F cx (.code (.seq c54k2 c54s1) :: k) s r := Iff.rfl
@[simp] theorem uc54k4 : Ex F cx (.code c54k4 :: k) ⟨mk 14 l, rows, low⟩ r ↔ Ex F cx k ⟨mk 14 [(4, (.int .i64 0)), (0, lk l 0), (1, lk l 1)], rows, low⟩ r := reg (keep := [0, 1]) (ops := c54r4) rfl (by kernel_rfl) (by kernel_rfl)
@[simp] theorem uc54b : Ex F cx (.code c54b :: k) s r ↔ Ex F cx (.code (.seq c54k4 c54s3) :: k) s r := Iff.rfl
theorem i54 {x0 x1 : AV} (hF : F 54 = some c54) {q : AV × List Row × Option Nat} (h : Ex F (.fn [.t 4]) [.code c54b] ⟨mk 14 [(0, x0), (1, x1)], rows, rows.length⟩ fun r => fin rows r.1 r.2.1 r.2.2 = q) : Ret F 54 [x0, x1] rows = some q := Ret_mk hF h
@[simp] theorem uc68k0 : Ex F cx (.code c68k0 :: k) ⟨mk 97 l, rows, low⟩ r ↔ Ex F cx k ⟨mk 97 [(5, (.int .i64 0)), (4, lk l 6), (96, lk l 6), (6, lk l 6)], rows, low⟩ r := reg (keep := [6]) (ops := c68r0) rfl (by kernel_rfl) (by kernel_rfl)
@[simp] theorem uc68s1 : Ex F cx (.code c68s1 :: k) s r ↔ Ex F cx (.code (.seq c68k0 .ret) :: k) s r := Iff.rfl
@[simp] theorem uc68k2 : Ex F cx (.code c68k2 :: k) ⟨mk 97 l, rows, low⟩ r ↔ Ex F cx k ⟨mk 97 [(5, (.int .i64 81)), (4, .nilptr)], rows, low⟩ r := reg (keep := []) (ops := c68r2) rfl (by kernel_rfl) (by kernel_rfl)
@[simp] theorem uc68s3 : Ex F cx (.code c68s3 :: k) s r ↔ Ex F cx (.code (.cond (.t 95) (.seq c68k2 .ret) .skip) :: k) s r := Iff.rfl
@[simp] theorem uc68k4 : Ex F cx (.code c68k4 :: k) ⟨mk 97 l, rows, low⟩ r ↔ bnd (Ret F 78 [lk l 6] rows) fun q0 => bnd (Ret F 70 [lk l 6, (.int .i64 0), q0.1] q0.2.1) fun q1 => bnd (Ret F 78 [lk l 6] q1.2.1) fun q2 => bnd (evP q2.2.1 (.bin .neq (.c q1.1) (.c q2.1))) fun v3 => Ex F cx k ⟨mk 97 [(95, v3), (94, q2.1), (93, lk l 6), (92, q1.1), (91, q0.1), (90, lk l 6), (89, lk l 6), (6, lk l 6)], q2.2.1, (lowO (lowO (lowO low q0.2.2) q1.2.2) q2.2.2)⟩ r := reg (keep := [6]) (ops := c68r4) rfl (by kernel_rfl) (by kernel_rfl)
@[simp] theorem uc68s5 : Ex F cx (.code c68s5 :: k) s r ↔ Ex F cx (.code (.seq (.seq c68k4 c68s3) c68s1) :: k) s r := Iff.rfl
@[simp] theorem uc68k7 : Ex F cx (.code c68k7 :: k) ⟨mk 97 l, rows, low⟩ r ↔ bnd (evP rows (.bin .add (.c (lk l 23)) (.c (.int .i64 1)))) fun v0 => Ex F cx k ⟨mk 97 [(23, v0), (88, v0), (0, lk l 0), (1, lk l 1), (6, lk l 6), (21, lk l 21), (22, lk l 22), (23, lk l 23)], rows, low⟩ r := reg (keep := [0, 1, 6, 21, 22, 23]) (ops := c68r7) rfl (by kernel_rfl) (by kernel_rfl)
@[simp] theorem uc68k8 : Ex F cx (.code c68k8 :: k) ⟨mk 97 l, rows, low⟩ r ↔ bnd (evP rows (.idxA 2 1 (.c (lk l 8)) (.c (.int .i64 1)))) fun v0 => bnd (evP rows (.load1 (.c v0))) fun v1 => bnd (evP rows (.nilck (.c (lk l 6)))) fun v2 => bnd (evP rows (.fieldA 1 (.c v2))) fun v3 => bnd (evP rows (.idxA 10 1 (.c v3) (.c v1))) fun v4 => bnd (evP rows (.load1 (.c v4))) fun v5 => bnd (evP rows (.idxA 2 1 (.c (lk l 8)) (.c (.int .i64 0)))) fun v6 => bnd (evP rows (.load1 (.c v6))) fun v7 => bnd (evP rows (.conv .u64 (.c v7))) fun v8 => bnd (evP rows (.bin .shl (.c (.int .i64 1)) (.c v8))) fun v9 => bnd (evP rows (.bin .or (.c v5) (.c v9))) fun v10 => bnd (evP rows (.nilck (.c (lk l 6)))) fun v11 => bnd (evP rows (.fieldA 1 (.c v11))) fun v12 => bnd (evP rows (.idxA 10 1 (.c v12) (.c v1))) fun v13 => bnd (evE rows low (.store1 (.c v13) (.c v10))) fun q14 => Ex F cx k ⟨mk 97 [(87, v13), (86, v12), (85, v11), (84, v10), (83, v9), (82, v8), (81, v7), (80, v6), (79, v5), (78, v4), (77, v3), (76, v2), (75, v1), (74, v0), (73, lk l 6), (0, lk l 0), (1, lk l 1), (6, lk l 6), (8, lk l 8), (21, lk l 21), (22, lk l 22), (23, lk l 23)], q14.2.1, q14.2.2⟩ r := reg (keep := [0, 1, 6, 8, 21, 22, 23]) (ops := c68r8) rfl (by kernel_rfl) (by kernel_rfl)
@[simp] theorem uc68k9 : Ex F cx (.code c68k9 :: k) ⟨mk 97 l, rows, low⟩ r ↔ bnd (evP rows (.idxA 2 1 (.c (lk l 8)) (.c (.int .i64 0)))) fun v0 => bnd (evP rows (.load1 (.c v0))) fun v1 => bnd (evP rows (.nilck (.c (lk l 6)))) fun v2 => bnd (evP rows (.fieldA 1 (.c v2))) fun v3 => bnd (evP rows (.idxA 10 1 (.c v3) (.c v1))) fun v4 => bnd (evP rows (.load1 (.c v4))) fun v5 => bnd (evP rows (.idxA 2 1 (.c (lk l 8)) (.c (.int .i64 1)))) fun v6 => bnd (evP rows (.load1 (.c v6))) fun v7 => bnd (evP rows (.conv .u64 (.c v7))) fun v8 => bnd (evP rows (.bin .shl (.c (.int .i64 1)) (.c v8))) fun v9 => bnd (evP rows (.bin .or (.c v5) (.c v9))) fun v10 => bnd (evP rows (.nilck (.c (lk l 6)))) fun v11 => bnd (evP rows (.fieldA 1 (.c v11))) fun v12 => bnd (evP rows (.idxA 10 1 (.c v12) (.c v1))) fun v13 => bnd (evE rows low (.store1 (.c v13) (.c v10))) fun q14 => Ex F cx k ⟨mk 97 [(72, v13), (71, v12), (70, v11), (69, v10), (68, v9), (67, v8), (66, v7), (65, v6), (64, v5), (63, v4), (62, v3), (61, v2), (60, v1), (59, v0), (58, lk l 6), (0, lk l 0), (1, lk l 1), (6, lk l 6), (8, lk l 8), (21, lk l 21), (22, lk l 22), (23, lk l 23)], q14.2.1, q14.2.2⟩ r := reg (keep := [0, 1, 6, 8, 21, 22, 23]) (ops := c68r9) rfl (by kernel_rfl) (by kernel_rfl)
@[simp] theorem uc68s10 : Ex F cx (.code c68s10 :: k) s r ↔ Ex F cx (.code (.seq c68k9 c68k8) :: k) s r := Iff.rfl
@[simp] theorem uc68k11 : Ex F cx (.code c68k11 :: k) ⟨mk 97 l, rows, low⟩ r ↔ Ex F cx k ⟨mk 97 [(5, (.int .i64 81)), (4, .nilptr)], rows, low⟩ r := reg (keep := []) (ops := c68r11) rfl (by kernel_rfl) (by kernel_rfl)
@[simp] theorem uc68s12 : Ex F cx (.code c68s12 :: k) s r ↔ Ex F cx (.code (.cond (.t 57) (.seq c68k11 .ret) .skip) :: k) s r := Iff.rfl
@[simp] theorem uc68k13 : Ex F cx (.code c68k13 :: k) ⟨mk 97 l, rows, low⟩ r ↔ bnd (evP rows (.idxA 2 1 (.c (lk l 8)) (.c (.int .i64 0)))) fun v0 => bnd (evP rows (.load1 (.c v0))) fun v1 => bnd (evP rows (.bin .lss (.c v1) (.c (.int .i64 0)))) fun v2 => bnd (gv v2 false (evP rows (.idxA 2 1 (.c (lk l 8)) (.c (.int .i64 0))))) fun v3 => bnd (gv v2 false (evP rows (.load1 (.c v3)))) fun v4 => bnd (gv v2 false (evP rows (.idxA 2 1 (.c (lk l 8)) (.c (.int .i64 1))))) fun v5 => bnd (gv v2 false (evP rows (.load1 (.c v5)))) fun v6 => bnd (gv v2 false (evP rows (.bin .geq (.c v4) (.c v6)))) fun v7 => bnd (evP rows (.pick (.c v2) (.c (.bool true)) (.c v7))) fun v8 => bnd (gv v8 false (evP rows (.idxA 2 1 (.c (lk l 8)) (.c (.int .i64 1))))) fun v9 => bnd (gv v8 false (evP rows (.load1 (.c v9)))) fun v10 => bnd (gv v8 false (evP rows (.mv (.c (lk l 0))))) fun v11 => bnd (gv v8 false (evP rows (.bin .geq (.c v10) (.c v11)))) fun v12 => bnd (evP rows (.pick (.c v8) (.c (.bool true)) (.c v12))) fun v13 => bnd (gv v13 false (evP rows (.mv (.c (lk l 7))))) fun v14 => bnd (gv v13 false (evP rows (.bin .gtr (.c v14) (.c (.int .i64 0))))) fun v15 => bnd (gv v13 false (evP rows (.mv (.c v15)))) fun v16 => bnd (gv v16 true (evP rows (.mv (.c (lk l 1))))) fun v17 => bnd (gv v16 true (evP rows (.mv (.c (lk l 7))))) fun v18 => bnd (gv v16 true (evP rows (.bin .sub (.c v18) (.c (.int .i64 1))))) fun v19 => bnd (gv v16 true (evP rows (.idxS 2 (.c v17) (.c v19)))) fun v20 => bnd (gv v16 true (evP rows (.sliceA 2 1 (.c v20) none none none))) fun v21 => bnd (gv v16 true (evP rows (.sliceA 2 1 (.c (lk l 8)) none none none))) fun v22 => gcall F v16 true rows low [v21, v22] (.func 91 []) fun v23 R23 L23 => bnd (gv v16 true (evP R23 (.bin .geq (.c v23) (.c (.int .i64 0))))) fun v24 => bnd (gv v13 false (evP R23 (.pick (.c v16) (.c v24) (.c (.bool false))))) fun v25 => bnd (evP R23 (.pick (.c v13) (.c (.bool true)) (.c v25))) fun v26 => Ex F cx k ⟨mk 97 [(57, v26), (56, v25), (55, v24), (54, v23), (53, v22), (52, v21), (51, v20), (50, v19), (49, v18), (48, v17), (47, v16), (46, v15), (45, v14), (44, v13), (43, v13), (42, v12), (41, v11), (40, v10), (39, v9), (38, v8), (37, v8), (36, v7), (35, v6), (34, v5), (33, v4), (32, v3), (31, v2), (30, v2), (29, v1), (28, v0), (0, lk l 0), (1, lk l 1), (6, lk l 6), (7, lk l 7), (8, lk l 8), (21, lk l 21), (22, lk l 22), (23, lk l 23)], R23, L23⟩ r := reg (keep := [0, 1, 6, 7, 8, 21, 22, 23]) (ops := c68r13) rfl (by kernel_rfl) (by kernel_rfl)
@[simp] theorem uc68s14 : Ex F cx (.code c68s14 :: k) s r ↔ Ex F cx (.code (.seq (.seq c68k13 c68s12) c68s10) :: k) s r := Iff.rfl
@[simp] theorem uc68k15 : Ex F cx (.code c68k15 :: k) ⟨mk 97 l, rows, low⟩ r ↔ bnd (evP rows (.idxS 2 (.c (lk l 21)) (.c (lk l 23)))) fun v0 => bnd (evP rows (.loadN 2 (.c v0))) fun v1 => bnd (evE rows low (.box (.c (.agg [.int .i64 0, .int .i64 0])))) fun q2 => bnd (evE q2.2.1 q2.2.2 (.storeN 2 (.c q2.1) (.c v1))) fun q3 => Ex F cx k ⟨mk 97 [(7, lk l 23), (8, q2.1), (27, v1), (26, v0), (25, lk l 23), (0, lk l 0), (1, lk l 1), (6, lk l 6), (21, lk l 21), (22, lk l 22), (23, lk l 23)], q3.2.1, q3.2.2⟩ r := reg (keep := [0, 1, 6, 21, 22, 23]) (ops := c68r15) rfl (by kernel_rfl) (by kernel_rfl)
@[simp] theorem uc68s16 : Ex F cx (.code c68s16 :: k) s r ↔ Ex F cx (.code (.seq (.block 1 (.seq c68k15 c68s14)) c68k7) :: k) s r := Iff.rfl
@[simp] theorem uc68s17 : Ex F cx (.code c68s17 :: k) s r ↔ Ex F cx (.code (.seq (.cond (.t 24) .skip (.exit 0)) c68s16) :: k) s r := Iff.rfl
@[simp] theorem uc68k18 : Ex F cx (.code c68k18 :: k) ⟨mk 97 l, rows, low⟩ r ↔ bnd (evP rows (.bin .lss (.c (lk l 23)) (.c (lk l 22)))) fun v0 => Ex F cx k ⟨mk 97 [(24, v0), (0, lk l 0), (1, lk l 1), (6, lk l 6), (21, lk l 21), (22, lk l 22), (23, lk l 23)], rows, low⟩ r := reg (keep := [0, 1, 6, 21, 22, 23]) (ops := c68r18) rfl (by kernel_rfl) (by kernel_rfl)
@[simp] theorem uc68s19 : Ex F cx (.code c68s19 :: k) s r ↔ Ex F cx (.code (.block 0 (.loop c68l6)) :: k) s r := Iff.rfl
@[simp] theorem uc68k20 : Ex F cx (.code c68k20 :: k) ⟨mk 97 l, rows, low⟩ r ↔ bnd (evP rows (.len 0 (.c (lk l 1)))) fun v0 => Ex F cx k ⟨mk 97 [(23, (.int .i64 0)), (22, v0), (21, lk l 1), (0, lk l 0), (1, lk l 1), (6, lk l 6)], rows, low⟩ r := reg (keep := [0, 1, 6]) (ops := c68r20) rfl (by kernel_rfl) (by kernel_rfl)
@[simp] theorem uc68s21 : Ex F cx (.code c68s21 :: k) s r ↔ Ex F cx (.code (.seq (.seq c68k20 c68s19) c68s5) :: k) s r := Iff.rfl
@[simp] theorem uc68k22 : Ex F cx (.code c68k22 :: k) ⟨mk 97 l, rows, low⟩ r ↔ Ex F cx k ⟨mk 97 [(5, (.int .i64 81)), (4, .nilptr)], rows, low⟩ r := reg (keep := []) (ops := c68r22) rfl (by kernel_rfl) (by kernel_rfl)
@[simp] theorem uc68s23 : Ex F cx (.code c68s23 :: k) s r ↔ Ex F cx (.code (.cond (.t 20) (.seq c68k22 .ret) .skip) :: k) s r := Iff.rfl
@[simp] theorem uc68k24 : Ex F cx (.code c68k24 :: k) ⟨mk 97 l, rows, low⟩ r ↔ bnd (evP rows (.len 0 (.c (lk l 1)))) fun v0 => bnd (evP rows (.bin .sub (.c (lk l 0)) (.c (.int .i64 1)))) fun v1 => bnd (evP rows (.bin .neq (.c v0) (.c v1))) fun v2 => Ex F cx k ⟨mk 97 [(20, v2), (19, v1), (18, lk l 0), (17, v0), (16, lk l 1), (0, lk l 0), (1, lk l 1), (6, lk l 6)], rows, low⟩ r := reg (keep := [0, 1, 6]) (ops := c68r24) rfl (by kernel_rfl) (by kernel_rfl)
@[simp] theorem uc68s25 : Ex F cx (.code c68s25 :: k) s r ↔ Ex F cx (.code (.seq (.seq c68k24 c68s23) c68s21) :: k) s r := Iff.rfl
@[simp] theorem uc68k26 : Ex F cx (.code c68k26 :: k) ⟨mk 97 l, rows, low⟩ r ↔ bnd (evP rows (.mkagg (List.replicate 11 (.int .i64 0)) [(0, 1, (.c (lk l 0)))])) fun v0 => bnd (evE rows low (.box (.c v0))) fun q1 => Ex F cx k ⟨mk 97 [(6, q1.1), (15, q1.1), (14, v0), (13, lk l 0), (0, lk l 0), (1, lk l 1)], q1.2.1, q1.2.2⟩ r := reg (keep := [0, 1]) (ops := c68r26) rfl (by kernel_rfl) (by kernel_rfl)
@[simp] theorem uc68s27 : Ex F cx (.code c68s27 :: k) s r ↔ Ex F cx (.code (.seq c68k26 c68s25) :: k) s r := Iff.rfl
@[simp] theorem uc68k28 : Ex F cx (.code c68k28 :: k) ⟨mk 97 l, rows, low⟩ r ↔ Ex F cx k ⟨mk 97 [(5, (.int .i64 1)), (4, .nilptr)], rows, low⟩ r := reg (keep := []) (ops := c68r28) rfl (by kernel_rfl) (by kernel_rfl)
@[simp] theorem uc68s29 : Ex F cx (.code c68s29 :: k) s r ↔ Ex F cx (.code (.cond (.t 12) (.seq c68k28 .ret) .skip) :: k) s r := Iff.rfl
@[simp] theorem uc68k30 : Ex F cx (.code c68k30 :: k) ⟨mk 97 l, rows, low⟩ r ↔ bnd (evE rows low (.mkslice 1 [.int .i64 0] [(0, 1, (.c (lk l 0)))])) fun q0 => bnd (Ret F 55 [(.int .i64 1), (.int .i64 10), q0.1] q0.2.1) fun q1 => bnd (evP q1.2.1 (.un .not (.c q1.1))) fun v2 => Ex F cx k ⟨mk 97 [(12, v2), (11, q1.1), (10, q0.1), (9, lk l 0), (0, lk l 0), (1, lk l 1)], q1.2.1, (lowO q0.2.2 q1.2.2)⟩ r := reg (keep := [0, 1]) (ops := c68r30) rfl (by kernel_rfl) (by kernel_rfl)
@[simp] theorem uc68s31 : Ex F cx (.code c68s31 :: k) s r ↔ Ex F cx (.code (.seq (.seq c68k30 c68s29) c68s27) :: k) s r := Iff.rfl
@[simp] theorem uc68k32 : Ex F cx (.code c68k32 :: k) ⟨mk 97 l, rows, low⟩ r ↔ Ex F cx k ⟨mk 97 [(5, (.int .i64 0)), (4, .nilptr), (0, lk l 0), (1, lk l 1)], rows, low⟩ r := reg (keep := [0, 1]) (ops := c68r32) rfl (by kernel_rfl) (by kernel_rfl)
def Jc68s1 (F : Nat → Option IFn) (cx : Ctx) (x6 : AV) (rows : List Row) (low : Nat) (r : AV × List Row × Nat → Prop) : Prop := Ex F cx (.code c68s1 :: []) ⟨mk 97 [(6, x6)], rows, low⟩ r
theorem jc68s1 : Ex F cx (.code c68s1 :: []) ⟨mk 97 l, rows, low⟩ r ↔ Jc68s1 F cx (lk l 6) rows low r := Ex_canon (keep := [6]) (by kernel_rfl)
def Jc68s10 (F : Nat → Option IFn) (cx : Ctx) (x0 x1 x6 x8 x21 x22 x23 : AV) (rows : List Row) (low : Nat) (r : AV × List Row × Nat → Prop) : Prop := Ex F cx (.code c68s10 :: .inBlock 1 :: .code c68k7 :: .inLoop c68l6 :: .inBlock 0 :: .code c68s5 :: []) ⟨mk 97 [(0, x0), (1, x1), (6, x6), (8, x8), (21, x21), (22, x22), (23, x23)], rows, low⟩ r
theorem jc68s10 : Ex F cx (.code c68s10 :: .inBlock 1 :: .code c68k7 :: .inLoop c68l6 :: .inBlock 0 :: .code c68s5 :: []) ⟨mk 97 l, rows, low⟩ r ↔ Jc68s10 F cx (lk l 0) (lk l 1) (lk l 6) (lk l 8) (lk l 21) (lk l 22) (lk l 23) rows low r := Ex_canon (keep := [0, 1, 6, 8, 21, 22, 23]) (by kernel_rfl)
def Jc68s16 (F : Nat → Option IFn) (cx : Ctx) (x0 x1 x6 x21 x22 x23 : AV) (rows : List Row) (low : Nat) (r : AV × List Row × Nat → Prop) : Prop := Ex F cx (.code c68s16 :: .inLoop c68l6 :: .inBlock 0 :: .code c68s5 :: []) ⟨mk 97 [(0, x0), (1, x1), (6, x6), (21, x21), (22, x22), (23, x23)], rows, low⟩ r
theorem jc68s16 : Ex F cx (.code c68s16 :: .inLoop c68l6 :: .inBlock 0 :: .code c68s5 :: []) ⟨mk 97 l, rows, low⟩ r ↔ Jc68s16 F cx (lk l 0) (lk l 1) (lk l 6) (lk l 21) (lk l 22) (lk l 23) rows low r := Ex_canon (keep := [0, 1, 6, 21, 22, 23]) (by kernel_rfl)
def Lc68l6 (F : Nat → Option IFn) (cx : Ctx) (x0 x1 x6 x21 x22 x23 : AV) (rows : List Row) (low : Nat) (r : AV × List Row × Nat → Prop) : Prop := Ex F cx (.code c68l6 :: .inLoop c68l6 :: .inBlock 0 :: .code c68s5 :: []) ⟨mk 97 [(0, x0), (1, x1), (6, x6), (21, x21), (22, x22), (23, x23)], rows, low⟩ r
@[simp] theorem nc68l6 : Ex F cx (.inLoop c68l6 :: .inBlock 0 :: .code c68s5 :: []) ⟨mk 97 l, rows, low⟩ r ↔ Lc68l6 F cx (lk l 0) (lk l 1) (lk l 6) (lk l 21) (lk l 22) (lk l 23) rows low r := loopN (keep := [0, 1, 6, 21, 22, 23]) (by kernel_rfl)
@[simp] theorem ec68l6 : Ex F cx (.code (.loop c68l6) :: .inBlock 0 :: .code c68s5 :: []) ⟨mk 97 l, rows, low⟩ r ↔ Lc68l6 F cx (lk l 0) (lk l 1) (lk l 6) (lk l 21) (lk l 22) (lk l 23) rows low r := loopE (keep := [0, 1, 6, 21, 22, 23]) (by kernel_rfl)
@[simp] theorem uc68l6 : Ex F cx (.code c68l6 :: k) s r ↔ Ex F cx (.code (.seq c68k18 c68s17) :: k) s r := Iff.rfl
def Jc68s21 (F : Nat → Option IFn) (cx : Ctx) (x0 x1 x6 : AV) (rows : List Row) (low : Nat) (r : AV × List Row × Nat → Prop) : Prop := Ex F cx (.code c68s21 :: []) ⟨mk 97 [(0, x0), (1, x1), (6, x6)], rows, low⟩ r
theorem jc68s21 : Ex F cx (.code c68s21 :: []) ⟨mk 97 l, rows, low⟩ r ↔ Jc68s21 F cx (lk l 0) (lk l 1) (lk l 6) rows low r := Ex_canon (keep := [0, 1, 6]) (by kernel_rfl)
def Jc68s27 (F : Nat → Option IFn) (cx : Ctx) (x0 x1 : AV) (rows : List Row) (low : Nat) (r : AV × List Row × Nat → Prop) : Prop := Ex F cx (.code c68s27 :: []) ⟨mk 97 [(0, x0), (1, x1)], rows, low⟩ r
theorem jc68s27 : Ex F cx (.code c68s27 :: []) ⟨mk 97 l, rows, low⟩ r ↔ Jc68s27 F cx (lk l 0) (lk l 1) rows low r := Ex_canon (keep := [0, 1]) (by kernel_rfl)
@[simp] theorem uc68b : Ex F cx (.code c68b :: k) s r ↔ Ex F cx (.code (.seq c68k32 c68s31) :: k) s r := Iff.rfl
theorem i68 {x0 x1 : AV} (hF : F 68 = some c68) {q : AV × List Row × Option Nat} (h : Ex F (.fn [.t 4, .t 5]) [.code c68b] ⟨mk 97 [(0, x0), (1, x1)], rows, rows.length⟩ fun r => fin rows r.1 r.2.1 r.2.2 = q) : Ret F 68 [x0, x1] rows = some q := Ret_mk hF h
@[simp] theorem uc69k0 : Ex F cx (.code c69k0 :: k) ⟨mk 19 l, rows, low⟩ r ↔ Ex F cx k ⟨mk 19 [(2, lk l 3), (18, lk l 3), (3, lk l 3)], rows, low⟩ r := reg (keep := [3]) (ops := c69r0) rfl (by kernel_rfl) (by kernel_rfl)
@[simp] theorem uc69s1 : Ex F cx (.code c69s1 :: k) s r ↔ Ex F cx (.code (.seq c69k0 .ret) :: k) s r := Iff.rfl
@[simp] theorem uc69k3 : Ex F cx (.code c69k3 :: k) ⟨mk 19 l, rows, low⟩ r ↔ bnd (evP rows (.bin .sub (.c (lk l 4)) (.c (.int .u64 1)))) fun v0 => bnd (evP rows (.bin .and (.c (lk l 4)) (.c v0))) fun v1 => Ex F cx k ⟨mk 19 [(4, v1), (12, v1), (11, v0), (10, lk l 4), (9, lk l 4), (3, lk l 3), (4, lk l 4)], rows, low⟩ r := reg (keep := [3, 4]) (ops := c69r3) rfl (by kernel_rfl) (by kernel_rfl)
@[simp] theorem uc69k4 : Ex F cx (.code c69k4 :: k) ⟨mk 19 l, rows, low⟩ r ↔ bnd (Ret F 92 [lk l 4] rows) fun q0 => bnd (evE q0.2.1 (lowO low q0.2.2) (.mkslice 1 [.int .i64 0] [(0, 1, (.c q0.1))])) fun q1 => bnd (evE q1.2.1 q1.2.2 (.app 1 8 (.c (lk l 3)) (.c q1.1))) fun q2 => Ex F cx k ⟨mk 19 [(3, q2.1), (17, q2.1), (16, q1.1), (15, q0.1), (14, lk l 4), (13, lk l 3), (3, lk l 3), (4, lk l 4)], q2.2.1, q2.2.2⟩ r := reg (keep := [3, 4]) (ops := c69r4) rfl (by kernel_rfl) (by kernel_rfl)
@[simp] theorem uc69s5 : Ex F cx (.code c69s5 :: k) s r ↔ Ex F cx (.code (.seq (.block 1 c69k4) c69k3) :: k) s r := Iff.rfl
@[simp] theorem uc69s6 : Ex F cx (.code c69s6 :: k) s r ↔ Ex F cx (.code (.cond (.t 8) .skip (.exit 0)) :: k) s r := Iff.rfl
@[simp] theorem uc69k7 : Ex F cx (.code c69k7 :: k) ⟨mk 19 l, rows, low⟩ r ↔ bnd (evP rows (.bin .neq (.c (lk l 4)) (.c (.int .u64 0)))) fun v0 => Ex F cx k ⟨mk 19 [(8, v0), (7, lk l 4), (3, lk l 3), (4, lk l 4)], rows, low⟩ r := reg (keep := [3, 4]) (ops := c69r7) rfl (by kernel_rfl) (by kernel_rfl)
@[simp] theorem uc69s8 : Ex F cx (.code c69s8 :: k) s r ↔ Ex F cx (.code (.block 0 (.loop c69l2)) :: k) s r := Iff.rfl
@[simp] theorem uc69k9 : Ex F cx (.code c69k9 :: k) ⟨mk 19 l, rows, low⟩ r ↔ bnd (evP rows (.conv .u64 (.c (lk l 0)))) fun v0 => Ex F cx k ⟨mk 19 [(4, v0), (6, v0), (5, lk l 0), (0, lk l 0), (3, lk l 3)], rows, low⟩ r := reg (keep := [0, 3]) (ops := c69r9) rfl (by kernel_rfl) (by kernel_rfl)
@[simp] theorem uc69s10 : Ex F cx (.code c69s10 :: k) s r ↔ Ex F cx (.code (.seq (.seq c69k9 c69s8) c69s1) :: k) s r := Iff.rfl
@[simp] theorem uc69k11 : Ex F cx (.code c69k11 :: k) ⟨mk 19 l, rows, low⟩ r ↔ Ex F cx k ⟨mk 19 [(3, .nilslice), (0, lk l 0)], rows, low⟩ r := reg (keep := [0]) (ops := c69r11) rfl (by kernel_rfl) (by kernel_rfl)
@[simp] theorem uc69s12 : Ex F cx (.code c69s12 :: k) s r ↔ Ex F cx (.code (.seq c69k11 c69s10) :: k) s r := Iff.rfl
@[simp] theorem uc69k13 : Ex F cx (.code c69k13 :: k) ⟨mk 19 l, rows, low⟩ r ↔ Ex F cx k ⟨mk 19 [(2, .nilslice), (0, lk l 0)], rows, low⟩ r := reg (keep := [0]) (ops := c69r13) rfl (by kernel_rfl) (by kernel_rfl)
def Jc69s5 (F : Nat → Option IFn) (cx : Ctx) (x3 x4 : AV) (rows : List Row) (low : Nat) (r : AV × List Row × Nat → Prop) : Prop := Ex F cx (.code c69s5 :: .inLoop c69l2 :: .inBlock 0 :: .code c69s1 :: []) ⟨mk 19 [(3, x3), (4, x4)], rows, low⟩ r
theorem jc69s5 : Ex F cx (.code c69s5 :: .inLoop c69l2 :: .inBlock 0 :: .code c69s1 :: []) ⟨mk 19 l, rows, low⟩ r ↔ Jc69s5 F cx (lk l 3) (lk l 4) rows low r := Ex_canon (keep := [3, 4]) (by kernel_rfl)
def Lc69l2 (F : Nat → Option IFn) (cx : Ctx) (x3 x4 : AV) (rows : List Row) (low : Nat) (r : AV × List Row × Nat → Prop) : Prop := Ex F cx (.code c69l2 :: .inLoop c69l2 :: .inBlock 0 :: .code c69s1 :: []) ⟨mk 19 [(3, x3), (4, x4)], rows, low⟩ r
@[simp] theorem nc69l2 : Ex F cx (.inLoop c69l2 :: .inBlock 0 :: .code c69s1 :: []) ⟨mk 19 l, rows, low⟩ r ↔ Lc69l2 F cx (lk l 3) (lk l 4) rows low r := loopN (keep := [3, 4]) (by kernel_rfl)
@[simp] theorem ec69l2 : Ex F cx (.code (.loop c69l2) :: .inBlock 0 :: .code c69s1 :: []) ⟨mk 19 l, rows, low⟩ r ↔ Lc69l2 F cx (lk l 3) (lk l 4) rows low r := loopE (keep := [3, 4]) (by kernel_rfl)
@[simp] theorem uc69l2 : Ex F cx (.code c69l2 :: k) s r ↔ Ex F cx (.code (.seq (.seq c69k7 c69s6) c69s5) :: k) s r := Iff.rfl
@[simp] theorem uc69b : Ex F cx (.code c69b :: k) s r ↔ Ex F cx (.code (.seq c69k13 c69s12) :: k) s r := Iff.rfl
theorem i69 {x0 : AV} (hF : F 69 = some c69) {q : AV × List Row × Option Nat} (h : Ex F (.fn [.t 2]) [.code c69b] ⟨mk 19 [(0, x0)], rows, rows.length⟩ fun r => fin rows r.1 r.2.1 r.2.2 = q) : Ret F 69 [x0] rows = some q := Ret_mk hF h
@[simp] theorem uc70k0 : Ex F cx (.code c70k0 :: k) ⟨mk 37 l, rows, low⟩ r ↔ Ex F cx k ⟨mk 37 [(6, lk l 7), (36, lk l 7), (7, lk l 7)], rows, low⟩ r := reg (keep := [7]) (ops := c70r0) rfl (by kernel_rfl) (by kernel_rfl)
@[simp] theorem uc70s1 : Ex F cx (.code c70s1 :: k) s r ↔ Ex F cx (.code (.seq c70k0 .ret) :: k) s r := Iff.rfl
@[simp] theorem uc70k4 : Ex F cx (.code c70k4 :: k) ⟨mk 37 l, rows, low⟩ r ↔ bnd (evP rows (.bin .add (.c (lk l 21)) (.c (.int .i64 1)))) fun v0 => Ex F cx k ⟨mk 37 [(21, v0), (35, v0), (0, lk l 0), (2, lk l 2), (7, lk l 7), (8, lk l 8), (19, lk l 19), (20, lk l 20), (21, lk l 21)], rows, low⟩ r := reg (keep := [0, 2, 7, 8, 19, 20, 21]) (ops := c70r4) rfl (by kernel_rfl) (by kernel_rfl)
@[simp] theorem uc70k5 : Ex F cx (.code c70k5 :: k) ⟨mk 37 l, rows, low⟩ r ↔ bnd (evP rows (.nilck (.c (lk l 0)))) fun v0 => bnd (evP rows (.fieldA 1 (.c v0))) fun v1 => bnd (evP rows (.idxA 10 1 (.c v1) (.c (lk l 10)))) fun v2 => bnd (evP rows (.load1 (.c v2))) fun v3 => bnd (evP rows (.bin .and (.c v3) (.c (lk l 2)))) fun v4 => bnd (evP rows (.bin .or (.c (lk l 7)) (.c v4))) fun v5 => Ex F cx k ⟨mk 37 [(7, v5), (34, v5), (33, v4), (32, lk l 2), (31, v3), (30, v2), (29, v1), (28, v0), (27, lk l 10), (26, lk l 0), (25, lk l 7), (0, lk l 0), (2, lk l 2), (7, lk l 7), (8, lk l 8), (10, lk l 10), (19, lk l 19), (20, lk l 20), (21, lk l 21)], rows, low⟩ r := reg (keep := [0, 2, 7, 8, 10, 19, 20, 21]) (ops := c70r5) rfl (by kernel_rfl) (by kernel_rfl)
@[simp] theorem uc70k6 : Ex F cx (.code c70k6 :: k) ⟨mk 37 l, rows, low⟩ r ↔ bnd (evP rows (.idxS 1 (.c (lk l 19)) (.c (lk l 21)))) fun v0 => bnd (evP rows (.load1 (.c v0))) fun v1 => Ex F cx k ⟨mk 37 [(10, v1), (24, v1), (23, v0), (0, lk l 0), (2, lk l 2), (7, lk l 7), (8, lk l 8), (19, lk l 19), (20, lk l 20), (21, lk l 21)], rows, low⟩ r := reg (keep := [0, 2, 7, 8, 19, 20, 21]) (ops := c70r6) rfl (by kernel_rfl) (by kernel_rfl)
@[simp] theorem uc70s7 : Ex F cx (.code c70s7 :: k) s r ↔ Ex F cx (.code (.seq (.block 3 (.seq c70k6 c70k5)) c70k4) :: k) s r := Iff.rfl
@[simp] theorem uc70s8 : Ex F cx (.code c70s8 :: k) s r ↔ Ex F cx (.code (.seq (.cond (.t 22) .skip (.exit 2)) c70s7) :: k) s r := Iff.rfl
@[simp] theorem uc70k9 : Ex F cx (.code c70k9 :: k) ⟨mk 37 l, rows, low⟩ r ↔ bnd (evP rows (.bin .lss (.c (lk l 21)) (.c (lk l 20)))) fun v0 => Ex F cx k ⟨mk 37 [(22, v0), (0, lk l 0), (2, lk l 2), (7, lk l 7), (8, lk l 8), (19, lk l 19), (20, lk l 20), (21, lk l 21)], rows, low⟩ r := reg (keep := [0, 2, 7, 8, 19, 20, 21]) (ops := c70r9) rfl (by kernel_rfl) (by kernel_rfl)
@[simp] theorem uc70s10 : Ex F cx (.code c70s10 :: k) s r ↔ Ex F cx (.code (.block 2 (.loop c70l3)) :: k) s r := Iff.rfl
@[simp] theorem uc70k11 : Ex F cx (.code c70k11 :: k) ⟨mk 37 l, rows, low⟩ r ↔ bnd (Ret F 69 [lk l 7] rows) fun q0 => bnd (evP q0.2.1 (.len 0 (.c q0.1))) fun v1 => Ex F cx k ⟨mk 37 [(21, (.int .i64 0)), (20, v1), (19, q0.1), (18, lk l 7), (0, lk l 0), (2, lk l 2), (7, lk l 7), (8, lk l 8)], q0.2.1, (lowO low q0.2.2)⟩ r := reg (keep := [0, 2, 7, 8]) (ops := c70r11) rfl (by kernel_rfl) (by kernel_rfl)
@[simp] theorem uc70s12 : Ex F cx (.code c70s12 :: k) s r ↔ Ex F cx (.code (.seq c70k11 c70s10) :: k) s r := Iff.rfl
@[simp] theorem uc70k13 : Ex F cx (.code c70k13 :: k) ⟨mk 37 l, rows, low⟩ r ↔ Ex F cx k ⟨mk 37 [(8, lk l 7), (17, lk l 7), (0, lk l 0), (2, lk l 2), (7, lk l 7)], rows, low⟩ r := reg (keep := [0, 2, 7]) (ops := c70r13) rfl (by kernel_rfl) (by kernel_rfl)
@[simp] theorem uc70s14 : Ex F cx (.code c70s14 :: k) s r ↔ Ex F cx (.code (.block 1 (.seq c70k13 c70s12)) :: k) s r := Iff.rfl
@[simp] theorem uc70s15 : Ex F cx (.code c70s15 :: k) s r ↔ Ex F cx (.code (.cond (.t 16) .skip (.exit 0)) :: k) s r := Iff.rfl
@[simp] theorem uc70k16 : Ex F cx (.code c70k16 :: k) ⟨mk 37 l, rows, low⟩ r ↔ bnd (evP rows (.bin .neq (.c (lk l 8)) (.c (lk l 7)))) fun v0 => Ex F cx k ⟨mk 37 [(16, v0), (15, lk l 7), (14, lk l 8), (0, lk l 0), (2, lk l 2), (7, lk l 7), (8, lk l 8)], rows, low⟩ r := reg (keep := [0, 2, 7, 8]) (ops := c70r16) rfl (by kernel_rfl) (by kernel_rfl)
@[simp] theorem uc70s17 : Ex F cx (.code c70s17 :: k) s r ↔ Ex F cx (.code (.block 0 (.loop c70l2)) :: k) s r := Iff.rfl
@[simp] theorem uc70k18 : Ex F cx (.code c70k18 :: k) ⟨mk 37 l, rows, low⟩ r ↔ Ex F cx k ⟨mk 37 [(8, (.int .i64 0)), (0, lk l 0), (2, lk l 2), (7, lk l 7)], rows, low⟩ r := reg (keep := [0, 2, 7]) (ops := c70r18) rfl (by kernel_rfl) (by kernel_rfl)
@[simp] theorem uc70s19 : Ex F cx (.code c70s19 :: k) s r ↔ Ex F cx (.code (.seq (.seq c70k18 c70s17) c70s1) :: k) s r := Iff.rfl
@[simp] theorem uc70k20 : Ex F cx (.code c70k20 :: k) ⟨mk 37 l, rows, low⟩ r ↔ bnd (evP rows (.conv .u64 (.c (lk l 1)))) fun v0 => bnd (evP rows (.bin .shl (.c (.int .i64 1)) (.c v0))) fun v1 => Ex F cx k ⟨mk 37 [(7, v1), (13, v1), (12, v0), (11, lk l 1), (0, lk l 0), (1, lk l 1), (2, lk l 2)], rows, low⟩ r := reg (keep := [0, 1, 2]) (ops := c70r20) rfl (by kernel_rfl) (by kernel_rfl)
@[simp] theorem uc70s21 : Ex F cx (.code c70s21 :: k) s r ↔ Ex F cx (.code (.seq c70k20 c70s19) :: k) s r := Iff.rfl
@[simp] theorem uc70k22 : Ex F cx (.code c70k22 :: k) ⟨mk 37 l, rows, low⟩ r ↔ Ex F cx k ⟨mk 37 [(6, (.int .i64 0)), (0, lk l 0), (1, lk l 1), (2, lk l 2)], rows, low⟩ r := reg (keep := [0, 1, 2]) (ops := c70r22) rfl (by kernel_rfl) (by kernel_rfl)
def Jc70s7 (F : Nat → Option IFn) (cx : Ctx) (x0 x2 x7 x8 x19 x20 x21 : AV) (rows : List Row) (low : Nat) (r : AV × List Row × Nat → Prop) : Prop := Ex F cx (.code c70s7 :: .inLoop c70l3 :: .inBlock 2 :: .inBlock 1 :: .inLoop c70l2 :: .inBlock 0 :: .code c70s1 :: []) ⟨mk 37 [(0, x0), (2, x2), (7, x7), (8, x8), (19, x19), (20, x20), (21, x21)], rows, low⟩ r
theorem jc70s7 : Ex F cx (.code c70s7 :: .inLoop c70l3 :: .inBlock 2 :: .inBlock 1 :: .inLoop c70l2 :: .inBlock 0 :: .code c70s1 :: []) ⟨mk 37 l, rows, low⟩ r ↔ Jc70s7 F cx (lk l 0) (lk l 2) (lk l 7) (lk l 8) (lk l 19) (lk l 20) (lk l 21) rows low r := Ex_canon (keep := [0, 2, 7, 8, 19, 20, 21]) (by kernel_rfl)
def Lc70l3 (F : Nat → Option IFn) (cx : Ctx) (x0 x2 x7 x8 x19 x20 x21 : AV) (rows : List Row) (low : Nat) (r : AV × List Row × Nat → Prop) : Prop := Ex F cx (.code c70l3 :: .inLoop c70l3 :: .inBlock 2 :: .inBlock 1 :: .inLoop c70l2 :: .inBlock 0 :: .code c70s1 :: []) ⟨mk 37 [(0, x0), (2, x2), (7, x7), (8, x8), (19, x19), (20, x20), (21, x21)], rows, low⟩ r
@[simp] theorem nc70l3 : Ex F cx (.inLoop c70l3 :: .inBlock 2 :: .inBlock 1 :: .inLoop c70l2 :: .inBlock 0 :: .code c70s1 :: []) ⟨mk 37 l, rows, low⟩ r ↔ Lc70l3 F cx (lk l 0) (lk l 2) (lk l 7) (lk l 8) (lk l 19) (lk l 20) (lk l 21) rows low r := loopN (keep := [0, 2, 7, 8, 19, 20, 21]) (by kernel_rfl)
@[simp] theorem ec70l3 : Ex F cx (.code (.loop c70l3) :: .inBlock 2 :: .inBlock 1 :: .inLoop c70l2 :: .inBlock 0 :: .code c70s1 :: []) ⟨mk 37 l, rows, low⟩ r ↔ Lc70l3 F cx (lk l 0) (lk l 2) (lk l 7) (lk l 8) (lk l 19) (lk l 20) (lk l 21) rows low r := loopE (keep := [0, 2, 7, 8, 19, 20, 21]) (by kernel_rfl)
@[simp] theorem uc70l3 : Ex F cx (.code c70l3 :: k) s r ↔ Ex F cx (.code (.seq c70k9 c70s8) :: k) s r := Iff.rfl
def Jc70s14 (F : Nat → Option IFn) (cx : Ctx) (x0 x2 x7 : AV) (rows : List Row) (low : Nat) (r : AV × List Row × Nat → Prop) : Prop := Ex F cx (.code c70s14 :: .inLoop c70l2 :: .inBlock 0 :: .code c70s1 :: []) ⟨mk 37 [(0, x0), (2, x2), (7, x7)], rows, low⟩ r
theorem jc70s14 : Ex F cx (.code c70s14 :: .inLoop c70l2 :: .inBlock 0 :: .code c70s1 :: []) ⟨mk 37 l, rows, low⟩ r ↔ Jc70s14 F cx (lk l 0) (lk l 2) (lk l 7) rows low r := Ex_canon (keep := [0, 2, 7]) (by kernel_rfl)
def Lc70l2 (F : Nat → Option IFn) (cx : Ctx) (x0 x2 x7 x8 : AV) (rows : List Row) (low : Nat) (r : AV × List Row × Nat → Prop) : Prop := Ex F cx (.code c70l2 :: .inLoop c70l2 :: .inBlock 0 :: .code c70s1 :: []) ⟨mk 37 [(0, x0), (2, x2), (7, x7), (8, x8)], rows, low⟩ r
@[simp] theorem nc70l2 : Ex F cx (.inLoop c70l2 :: .inBlock 0 :: .code c70s1 :: []) ⟨mk 37 l, rows, low⟩ r ↔ Lc70l2 F cx (lk l 0) (lk l 2) (lk l 7) (lk l 8) rows low r := loopN (keep := [0, 2, 7, 8]) (by kernel_rfl)
@[simp] theorem ec70l2 : Ex F cx (.code (.loop c70l2) :: .inBlock 0 :: .code c70s1 :: []) ⟨mk 37 l, rows, low⟩ r ↔ Lc70l2 F cx (lk l 0) (lk l 2) (lk l 7) (lk l 8) rows low r := loopE (keep := [0, 2, 7, 8]) (by kernel_rfl)
@[simp] theorem uc70l2 : Ex F cx (.code c70l2 :: k) s r ↔ Ex F cx (.code (.seq (.seq c70k16 c70s15) c70s14) :: k) s r := Iff.rfl
@[simp] theorem uc70b : Ex F cx (.code c70b :: k) s r ↔ Ex F cx (.code (.seq c70k22 c70s21) :: k) s r := Iff.rfl
theorem i70 {x0 x1 x2 : AV} (hF : F 70 = some c70) {q : AV × List Row × Option Nat} (h : Ex F (.fn [.t 6]) [.code c70b] ⟨mk 37 [(0, x0), (1, x1), (2, x2)], rows, rows.length⟩ fun r => fin rows r.1 r.2.1 r.2.2 = q) : Ret F 70 [x0, x1, x2] rows = some q := Ret_mk hF h
@[simp] theorem uc71k0 : Ex F cx (.code c71k0 :: k) ⟨mk 80 l, rows, low⟩ r ↔ Ex F cx k ⟨mk 80 [(6, lk l 7), (79, lk l 7), (7, lk l 7)], rows, low⟩ r := reg (keep := [7]) (ops := c71r0) rfl (by kernel_rfl) (by kernel_rfl)
@[simp] theorem uc71s1 : Ex F cx (.code c71s1 :: k) s r ↔ Ex F cx (.code (.seq c71k0 .ret) :: k) s r := Iff.rfl
@[simp] theorem uc71k3 : Ex F cx (.code c71k3 :: k) ⟨mk 80 l, rows, low⟩ r ↔ bnd (evP rows (.bin .add (.c (lk l 8)) (.c (.int .i64 1)))) fun v0 => Ex F cx k ⟨mk 80 [(8, v0), (18, v0), (17, lk l 8), (0, lk l 0), (1, lk l 1), (2, lk l 2), (7, lk l 7), (8, lk l 8)], rows, low⟩ r := reg (keep := [0, 1, 2, 7, 8]) (ops := c71r3) rfl (by kernel_rfl) (by kernel_rfl)
@[simp] theorem uc71k4 : Ex F cx (.code c71k4 :: k) ⟨mk 80 l, rows, low⟩ r ↔ bnd (evP rows (.bin .andNot (.c (lk l 2)) (.c (lk l 9)))) fun v0 => Ex F cx k ⟨mk 80 [(2, v0), (78, v0), (77, lk l 9), (76, lk l 2), (0, lk l 0), (1, lk l 1), (2, lk l 2), (7, lk l 7), (8, lk l 8), (9, lk l 9)], rows, low⟩ r := reg (keep := [0, 1, 2, 7, 8, 9]) (ops := c71r4) rfl (by kernel_rfl) (by kernel_rfl)
@[simp] theorem uc71k5 : Ex F cx (.code c71k5 :: k) ⟨mk 80 l, rows, low⟩ r ↔ bnd (evE rows low (.mkslice 1 [.int .i64 0] [(0, 1, (.c (lk l 9)))])) fun q0 => bnd (evE q0.2.1 q0.2.2 (.app 1 8 (.c (lk l 7)) (.c q0.1))) fun q1 => Ex F cx k ⟨mk 80 [(7, q1.1), (75, q1.1), (74, q0.1), (73, lk l 9), (72, lk l 7), (0, lk l 0), (1, lk l 1), (2, lk l 2), (7, lk l 7), (8, lk l 8), (9, lk l 9)], q1.2.1, q1.2.2⟩ r := reg (keep := [0, 1, 2, 7, 8, 9]) (ops := c71r5) rfl (by kernel_rfl) (by kernel_rfl)
@[simp] theorem uc71s6 : Ex F cx (.code c71s6 :: k) s r ↔ Ex F cx (.code (.seq c71k5 c71k4) :: k) s r := Iff.rfl
@[simp] theorem uc71k8 : Ex F cx (.code c71k8 :: k) ⟨mk 80 l, rows, low⟩ r ↔ bnd (evP rows (.bin .add (.c (lk l 10)) (.c (.int .i64 1)))) fun v0 => Ex F cx k ⟨mk 80 [(10, v0), (30, v0), (29, lk l 10), (0, lk l 0), (1, lk l 1), (2, lk l 2), (7, lk l 7), (8, lk l 8), (9, lk l 9), (10, lk l 10)], rows, low⟩ r := reg (keep := [0, 1, 2, 7, 8, 9, 10]) (ops := c71r8) rfl (by kernel_rfl) (by kernel_rfl)
@[simp] theorem uc71k10 : Ex F cx (.code c71k10 :: k) ⟨mk 80 l, rows, low⟩ r ↔ bnd (evP rows (.bin .add (.c (lk l 11)) (.c (.int .i64 1)))) fun v0 => Ex F cx k ⟨mk 80 [(11, v0), (36, v0), (35, lk l 11), (0, lk l 0), (1, lk l 1), (2, lk l 2), (7, lk l 7), (8, lk l 8), (9, lk l 9), (10, lk l 10), (11, lk l 11)], rows, low⟩ r := reg (keep := [0, 1, 2, 7, 8, 9, 10, 11]) (ops := c71r10) rfl (by kernel_rfl) (by kernel_rfl)
@[simp] theorem uc71k11 : Ex F cx (.code c71k11 :: k) ⟨mk 80 l, rows, low⟩ r ↔ bnd (evP rows (.bin .or (.c (lk l 9)) (.c (lk l 12)))) fun v0 => bnd (evP rows (.bin .or (.c v0) (.c (lk l 13)))) fun v1 => Ex F cx k ⟨mk 80 [(9, v1), (71, v1), (70, lk l 13), (69, v0), (68, lk l 12), (67, lk l 9), (0, lk l 0), (1, lk l 1), (2, lk l 2), (7, lk l 7), (8, lk l 8), (9, lk l 9), (10, lk l 10), (11, lk l 11), (12, lk l 12), (13, lk l 13)], rows, low⟩ r := reg (keep := [0, 1, 2, 7, 8, 9, 10, 11, 12, 13]) (ops := c71r11) rfl (by kernel_rfl) (by kernel_rfl)
@[simp] theorem uc71s12 : Ex F cx (.code c71s12 :: k) s r ↔ Ex F cx (.code (.cond (.t 66) c71k11 .skip) :: k) s r := Iff.rfl
@[simp] theorem uc71k13 : Ex F cx (.code c71k13 :: k) ⟨mk 80 l, rows, low⟩ r ↔ bnd (evP rows (.bin .and (.c (lk l 2)) (.c (lk l 12)))) fun v0 => bnd (evP rows (.bin .neq (.c v0) (.c (.int .i64 0)))) fun v1 => bnd (gv v1 true (evP rows (.mv (.c (lk l 2))))) fun v2 => bnd (gv v1 true (evP rows (.mv (.c (lk l 13))))) fun v3 => bnd (gv v1 true (evP rows (.bin .and (.c v2) (.c v3)))) fun v4 => bnd (gv v1 true (evP rows (.bin .neq (.c v4) (.c (.int .i64 0))))) fun v5 => bnd (evP rows (.pick (.c v1) (.c v5) (.c (.bool false)))) fun v6 => bnd (gv v6 true (evP rows (.mv (.c (lk l 9))))) fun v7 => bnd (gv v6 true (evP rows (.mv (.c (lk l 12))))) fun v8 => bnd (gv v6 true (evP rows (.mv (.c (lk l 13))))) fun v9 => bnd (gv v6 true (evP rows (.bin .or (.c v8) (.c v9)))) fun v10 => bnd (gv v6 true (evP rows (.bin .and (.c v7) (.c v10)))) fun v11 => bnd (gv v6 true (evP rows (.bin .neq (.c v11) (.c (.int .i64 0))))) fun v12 => bnd (evP rows (.pick (.c v6) (.c v12) (.c (.bool false)))) fun v13 => Ex F cx k ⟨mk 80 [(66, v13), (65, v12), (64, v11), (63, v10), (62, v9), (61, v8), (60, v7), (59, v6), (58, v6), (57, v5), (56, v4), (55, v3), (54, v2), (53, v1), (52, v1), (51, v0), (50, lk l 12), (49, lk l 2), (0, lk l 0), (1, lk l 1), (2, lk l 2), (7, lk l 7), (8, lk l 8), (9, lk l 9), (10, lk l 10), (11, lk l 11), (12, lk l 12), (13, lk l 13)], rows, low⟩ r := reg (keep := [0, 1, 2, 7, 8, 9, 10, 11, 12, 13]) (ops := c71r13) rfl (by kernel_rfl) (by kernel_rfl)
@[simp] theorem uc71s14 : Ex F cx (.code c71s14 :: k) s r ↔ Ex F cx (.code (.seq c71k13 c71s12) :: k) s r := Iff.rfl
@[simp] theorem uc71k15 : Ex F cx (.code c71k15 :: k) ⟨mk 80 l, rows, low⟩ r ↔ bnd (evP rows (.idxS 2 (.c (lk l 1)) (.c (lk l 11)))) fun v0 => bnd (evP rows (.idxA 2 1 (.c v0) (.c (.int .i64 0)))) fun v1 => bnd (evP rows (.load1 (.c v1))) fun v2 => bnd (evP rows (.bin .shl (.c (.int .i64 1)) (.c v2))) fun v3 => bnd (evP rows (.idxS 2 (.c (lk l 1)) (.c (lk l 11)))) fun v4 => bnd (evP rows (.idxA 2 1 (.c v4) (.c (.int .i64 1)))) fun v5 => bnd (evP rows (.load1 (.c v5))) fun v6 => bnd (evP rows (.bin .shl (.c (.int .i64 1)) (.c v6))) fun v7 => Ex F cx k ⟨mk 80 [(13, v7), (12, v3), (48, v7), (47, v6), (46, v5), (45, v4), (44, lk l 11), (43, lk l 1), (42, v3), (41, v2), (40, v1), (39, v0), (38, lk l 11), (37, lk l 1), (0, lk l 0), (1, lk l 1), (2, lk l 2), (7, lk l 7), (8, lk l 8), (9, lk l 9), (10, lk l 10), (11, lk l 11)], rows, low⟩ r := reg (keep := [0, 1, 2, 7, 8, 9, 10, 11]) (ops := c71r15) rfl (by kernel_rfl) (by kernel_rfl)
@[simp] theorem uc71s16 : Ex F cx (.code c71s16 :: k) s r ↔ Ex F cx (.code (.seq (.block 5 (.seq c71k15 c71s14)) c71k10) :: k) s r := Iff.rfl
@[simp] theorem uc71s17 : Ex F cx (.code c71s17 :: k) s r ↔ Ex F cx (.code (.cond (.t 34) .skip (.exit 4)) :: k) s r := Iff.rfl
@[simp] theorem uc71k18 : Ex F cx (.code c71k18 :: k) ⟨mk 80 l, rows, low⟩ r ↔ bnd (evP rows (.len 0 (.c (lk l 1)))) fun v0 => bnd (evP rows (.bin .lss (.c (lk l 11)) (.c v0))) fun v1 => Ex F cx k ⟨mk 80 [(34, v1), (33, v0), (32, lk l 1), (31, lk l 11), (0, lk l 0), (1, lk l 1), (2, lk l 2), (7, lk l 7), (8, lk l 8), (9, lk l 9), (10, lk l 10), (11, lk l 11)], rows, low⟩ r := reg (keep := [0, 1, 2, 7, 8, 9, 10, 11]) (ops := c71r18) rfl (by kernel_rfl) (by kernel_rfl)
@[simp] theorem uc71s19 : Ex F cx (.code c71s19 :: k) s r ↔ Ex F cx (.code (.block 4 (.loop c71l9)) :: k) s r := Iff.rfl
@[simp] theorem uc71k20 : Ex F cx (.code c71k20 :: k) ⟨mk 80 l, rows, low⟩ r ↔ Ex F cx k ⟨mk 80 [(11, (.int .i64 0)), (0, lk l 0), (1, lk l 1), (2, lk l 2), (7, lk l 7), (8, lk l 8), (9, lk l 9), (10, lk l 10)], rows, low⟩ r := reg (keep := [0, 1, 2, 7, 8, 9, 10]) (ops := c71r20) rfl (by kernel_rfl) (by kernel_rfl)
@[simp] theorem uc71s21 : Ex F cx (.code c71s21 :: k) s r ↔ Ex F cx (.code (.seq (.block 3 (.seq c71k20 c71s19)) c71k8) :: k) s r := Iff.rfl
@[simp] theorem uc71s22 : Ex F cx (.code c71s22 :: k) s r ↔ Ex F cx (.code (.cond (.t 28) .skip (.exit 2)) :: k) s r := Iff.rfl
@[simp] theorem uc71k23 : Ex F cx (.code c71k23 :: k) ⟨mk 80 l, rows, low⟩ r ↔ bnd (evP rows (.bin .lss (.c (lk l 10)) (.c (lk l 0)))) fun v0 => Ex F cx k ⟨mk 80 [(28, v0), (27, lk l 0), (26, lk l 10), (0, lk l 0), (1, lk l 1), (2, lk l 2), (7, lk l 7), (8, lk l 8), (9, lk l 9), (10, lk l 10)], rows, low⟩ r := reg (keep := [0, 1, 2, 7, 8, 9, 10]) (ops := c71r23) rfl (by kernel_rfl) (by kernel_rfl)
@[simp] theorem uc71s24 : Ex F cx (.code c71s24 :: k) s r ↔ Ex F cx (.code (.block 2 (.loop c71l7)) :: k) s r := Iff.rfl
@[simp] theorem uc71k25 : Ex F cx (.code c71k25 :: k) ⟨mk 80 l, rows, low⟩ r ↔ Ex F cx k ⟨mk 80 [(10, (.int .i64 0)), (0, lk l 0), (1, lk l 1), (2, lk l 2), (7, lk l 7), (8, lk l 8), (9, lk l 9)], rows, low⟩ r := reg (keep := [0, 1, 2, 7, 8, 9]) (ops := c71r25) rfl (by kernel_rfl) (by kernel_rfl)
@[simp] theorem uc71s26 : Ex F cx (.code c71s26 :: k) s r ↔ Ex F cx (.code (.seq (.seq c71k25 c71s24) c71s6) :: k) s r := Iff.rfl
@[simp] theorem uc71k27 : Ex F cx (.code c71k27 :: k) ⟨mk 80 l, rows, low⟩ r ↔ bnd (evP rows (.bin .shl (.c (.int .i64 1)) (.c (lk l 8)))) fun v0 => Ex F cx k ⟨mk 80 [(9, v0), (25, v0), (24, lk l 8), (0, lk l 0), (1, lk l 1), (2, lk l 2), (7, lk l 7), (8, lk l 8)], rows, low⟩ r := reg (keep := [0, 1, 2, 7, 8]) (ops := c71r27) rfl (by kernel_rfl) (by kernel_rfl)
@[simp] theorem uc71s28 : Ex F cx (.code c71s28 :: k) s r ↔ Ex F cx (.code (.seq c71k27 c71s26) :: k) s r := Iff.rfl
@[simp] theorem uc71s29 : Ex F cx (.code c71s29 :: k) s r ↔ Ex F cx (.code (.cond (.t 23) (.exit 1) .skip) :: k) s r := Iff.rfl
@[simp] theorem uc71k30 : Ex F cx (.code c71k30 :: k) ⟨mk 80 l, rows, low⟩ r ↔ bnd (evP rows (.bin .shr (.c (lk l 2)) (.c (lk l 8)))) fun v0 => bnd (evP rows (.bin .rem (.c v0) (.c (.int .i64 2)))) fun v1 => bnd (evP rows (.bin .eql (.c v1) (.c (.int .i64 0)))) fun v2 => Ex F cx k ⟨mk 80 [(23, v2), (22, v1), (21, v0), (20, lk l 8), (19, lk l 2), (0, lk l 0), (1, lk l 1), (2, lk l 2), (7, lk l 7), (8, lk l 8)], rows, low⟩ r := reg (keep := [0, 1, 2, 7, 8]) (ops := c71r30) rfl (by kernel_rfl) (by kernel_rfl)
@[simp] theorem uc71s31 : Ex F cx (.code c71s31 :: k) s r ↔ Ex F cx (.code (.seq (.block 1 (.seq (.seq c71k30 c71s29) c71s28)) c71k3) :: k) s r := Iff.rfl
@[simp] theorem uc71s32 : Ex F cx (.code c71s32 :: k) s r ↔ Ex F cx (.code (.cond (.t 16) .skip (.exit 0)) :: k) s r := Iff.rfl
@[simp] theorem uc71k33 : Ex F cx (.code c71k33 :: k) ⟨mk 80 l, rows, low⟩ r ↔ bnd (evP rows (.bin .lss (.c (lk l 8)) (.c (lk l 0)))) fun v0 => Ex F cx k ⟨mk 80 [(16, v0), (15, lk l 0), (14, lk l 8), (0, lk l 0), (1, lk l 1), (2, lk l 2), (7, lk l 7), (8, lk l 8)], rows, low⟩ r := reg (keep := [0, 1, 2, 7, 8]) (ops := c71r33) rfl (by kernel_rfl) (by kernel_rfl)
@[simp] theorem uc71s34 : Ex F cx (.code c71s34 :: k) s r ↔ Ex F cx (.code (.block 0 (.loop c71l2)) :: k) s r := Iff.rfl
@[simp] theorem uc71k35 : Ex F cx (.code c71k35 :: k) ⟨mk 80 l, rows, low⟩ r ↔ Ex F cx k ⟨mk 80 [(8, (.int .i64 0)), (0, lk l 0), (1, lk l 1), (2, lk l 2), (7, lk l 7)], rows, low⟩ r := reg (keep := [0, 1, 2, 7]) (ops := c71r35) rfl (by kernel_rfl) (by kernel_rfl)
@[simp] theorem uc71s36 : Ex F cx (.code c71s36 :: k) s r ↔ Ex F cx (.code (.seq (.seq c71k35 c71s34) c71s1) :: k) s r := Iff.rfl
@[simp] theorem uc71k37 : Ex F cx (.code c71k37 :: k) ⟨mk 80 l, rows, low⟩ r ↔ Ex F cx k ⟨mk 80 [(7, .nilslice), (0, lk l 0), (1, lk l 1), (2, lk l 2)], rows, low⟩ r := reg (keep := [0, 1, 2]) (ops := c71r37) rfl (by kernel_rfl) (by kernel_rfl)
@[simp] theorem uc71s38 : Ex F cx (.code c71s38 :: k) s r ↔ Ex F cx (.code (.seq c71k37 c71s36) :: k) s r := Iff.rfl
@[simp] theorem uc71k39 : Ex F cx (.code c71k39 :: k) ⟨mk 80 l, rows, low⟩ r ↔ Ex F cx k ⟨mk 80 [(6, .nilslice), (0, lk l 0), (1, lk l 1), (2, lk l 2)], rows, low⟩ r := reg (keep := [0, 1, 2]) (ops := c71r39) rfl (by kernel_rfl) (by kernel_rfl)
def Jc71s16 (F : Nat → Option IFn) (cx : Ctx) (x0 x1 x2 x7 x8 x9 x10 x11 : AV) (rows : List Row) (low : Nat) (r : AV × List Row × Nat → Prop) : Prop := Ex F cx (.code c71s16 :: .inLoop c71l9 :: .inBlock 4 :: .inBlock 3 :: .code c71k8 :: .inLoop c71l7 :: .inBlock 2 :: .code c71s6 :: .inBlock 1 :: .code c71k3 :: .inLoop c71l2 :: .inBlock 0 :: .code c71s1 :: []) ⟨mk 80 [(0, x0), (1, x1), (2, x2), (7, x7), (8, x8), (9, x9), (10, x10), (11, x11)], rows, low⟩ r
theorem jc71s16 : Ex F cx (.code c71s16 :: .inLoop c71l9 :: .inBlock 4 :: .inBlock 3 :: .code c71k8 :: .inLoop c71l7 :: .inBlock 2 :: .code c71s6 :: .inBlock 1 :: .code c71k3 :: .inLoop c71l2 :: .inBlock 0 :: .code c71s1 :: []) ⟨mk 80 l, rows, low⟩ r ↔ Jc71s16 F cx (lk l 0) (lk l 1) (lk l 2) (lk l 7) (lk l 8) (lk l 9) (lk l 10) (lk l 11) rows low r := Ex_canon (keep := [0, 1, 2, 7, 8, 9, 10, 11]) (by kernel_rfl)
def Lc71l9 (F : Nat → Option IFn) (cx : Ctx) (x0 x1 x2 x7 x8 x9 x10 x11 : AV) (rows : List Row) (low : Nat) (r : AV × List Row × Nat → Prop) : Prop := Ex F cx (.code c71l9 :: .inLoop c71l9 :: .inBlock 4 :: .inBlock 3 :: .code c71k8 :: .inLoop c71l7 :: .inBlock 2 :: .code c71s6 :: .inBlock 1 :: .code c71k3 :: .inLoop c71l2 :: .inBlock 0 :: .code c71s1 :: []) ⟨mk 80 [(0, x0), (1, x1), (2, x2), (7, x7), (8, x8), (9, x9), (10, x10), (11, x11)], rows, low⟩ r
@[simp] theorem nc71l9 : Ex F cx (.inLoop c71l9 :: .inBlock 4 :: .inBlock 3 :: .code c71k8 :: .inLoop c71l7 :: .inBlock 2 :: .code c71s6 :: .inBlock 1 :: .code c71k3 :: .inLoop c71l2 :: .inBlock 0 :: .code c71s1 :: []) ⟨mk 80 l, rows, low⟩ r ↔ Lc71l9 F cx (lk l 0) (lk l 1) (lk l 2) (lk l 7) (lk l 8) (lk l 9) (lk l 10) (lk l 11) rows low r := loopN (keep := [0, 1, 2, 7, 8, 9, 10, 11]) (by kernel_rfl)
@[simp] theorem ec71l9 : Ex F cx (.code (.loop c71l9) :: .inBlock 4 :: .inBlock 3 :: .code c71k8 :: .inLoop c71l7 :: .inBlock 2 :: .code c71s6 :: .inBlock 1 :: .code c71k3 :: .inLoop c71l2 :: .inBlock 0 :: .code c71s1 :: []) ⟨mk 80 l, rows, low⟩ r ↔ Lc71l9 F cx (lk l 0) (lk l 1) (lk l 2) (lk l 7) (lk l 8) (lk l 9) (lk l 10) (lk l 11) rows low r := loopE (keep := [0, 1, 2, 7, 8, 9, 10, 11]) (by kernel_rfl)
@[simp] theorem uc71l9 : Ex F cx (.code c71l9 :: k) s r ↔ Ex F cx (.code (.seq (.seq c71k18 c71s17) c71s16) :: k) s r := Iff.rfl
def Jc71s21 (F : Nat → Option IFn) (cx : Ctx) (x0 x1 x2 x7 x8 x9 x10 : AV) (rows : List Row) (low : Nat) (r : AV × List Row × Nat → Prop) : Prop := Ex F cx (.code c71s21 :: .inLoop c71l7 :: .inBlock 2 :: .code c71s6 :: .inBlock 1 :: .code c71k3 :: .inLoop c71l2 :: .inBlock 0 :: .code c71s1 :: []) ⟨mk 80 [(0, x0), (1, x1), (2, x2), (7, x7), (8, x8), (9, x9), (10, x10)], rows, low⟩ r
theorem jc71s21 : Ex F cx (.code c71s21 :: .inLoop c71l7 :: .inBlock 2 :: .code c71s6 :: .inBlock 1 :: .code c71k3 :: .inLoop c71l2 :: .inBlock 0 :: .code c71s1 :: []) ⟨mk 80 l, rows, low⟩ r ↔ Jc71s21 F cx (lk l 0) (lk l 1) (lk l 2) (lk l 7) (lk l 8) (lk l 9) (lk l 10) rows low r := Ex_canon (keep := [0, 1, 2, 7, 8, 9, 10]) (by kernel_rfl)
def Lc71l7 (F : Nat → Option IFn) (cx : Ctx) (x0 x1 x2 x7 x8 x9 x10 : AV) (rows : List Row) (low : Nat) (r : AV × List Row × Nat → Prop) : Prop := Ex F cx (.code c71l7 :: .inLoop c71l7 :: .inBlock 2 :: .code c71s6 :: .inBlock 1 :: .code c71k3 :: .inLoop c71l2 :: .inBlock 0 :: .code c71s1 :: []) ⟨mk 80 [(0, x0), (1, x1), (2, x2), (7, x7), (8, x8), (9, x9), (10, x10)], rows, low⟩ r
@[simp] theorem nc71l7 : Ex F cx (.inLoop c71l7 :: .inBlock 2 :: .code c71s6 :: .inBlock 1 :: .code c71k3 :: .inLoop c71l2 :: .inBlock 0 :: .code c71s1 :: []) ⟨mk 80 l, rows, low⟩ r ↔ Lc71l7 F cx (lk l 0) (lk l 1) (lk l 2) (lk l 7) (lk l 8) (lk l 9) (lk l 10) rows low r := loopN (keep := [0, 1, 2, 7, 8, 9, 10]) (by kernel_rfl)
@[simp] theorem ec71l7 : Ex F cx (.code (.loop c71l7) :: .inBlock 2 :: .code c71s6 :: .inBlock 1 :: .code c71k3 :: .inLoop c71l2 :: .inBlock 0 :: .code c71s1 :: []) ⟨mk 80 l, rows, low⟩ r ↔ Lc71l7 F cx (lk l 0) (lk l 1) (lk l 2) (lk l 7) (lk l 8) (lk l 9) (lk l 10) rows low r := loopE (keep := [0, 1, 2, 7, 8, 9, 10]) (by kernel_rfl)
@[simp] theorem uc71l7 : Ex F cx (.code c71l7 :: k) s r ↔ Ex F cx (.code (.seq (.seq c71k23 c71s22) c71s21) :: k) s r := Iff.rfl
def Jc71s28 (F : Nat → Option IFn) (cx : Ctx) (x0 x1 x2 x7 x8 : AV) (rows : List Row) (low : Nat) (r : AV × List Row × Nat → Prop) : Prop := Ex F cx (.code c71s28 :: .inBlock 1 :: .code c71k3 :: .inLoop c71l2 :: .inBlock 0 :: .code c71s1 :: []) ⟨mk 80 [(0, x0), (1, x1), (2, x2), (7, x7), (8, x8)], rows, low⟩ r
theorem jc71s28 : Ex F cx (.code c71s28 :: .inBlock 1 :: .code c71k3 :: .inLoop c71l2 :: .inBlock 0 :: .code c71s1 :: []) ⟨mk 80 l, rows, low⟩ r ↔ Jc71s28 F cx (lk l 0) (lk l 1) (lk l 2) (lk l 7) (lk l 8) rows low r := Ex_canon (keep := [0, 1, 2, 7, 8]) (by kernel_rfl)
def Jc71s31 (F : Nat → Option IFn) (cx : Ctx) (x0 x1 x2 x7 x8 : AV) (rows : List Row) (low : Nat) (r : AV × List Row × Nat → Prop) : Prop := Ex F cx (.code c71s31 :: .inLoop c71l2 :: .inBlock 0 :: .code c71s1 :: []) ⟨mk 80 [(0, x0), (1, x1), (2, x2), (7, x7), (8, x8)], rows, low⟩ r
theorem jc71s31 : Ex F cx (.code c71s31 :: .inLoop c71l2 :: .inBlock 0 :: .code c71s1 :: []) ⟨mk 80 l, rows, low⟩ r ↔ Jc71s31 F cx (lk l 0) (lk l 1) (lk l 2) (lk l 7) (lk l 8) rows low r := Ex_canon (keep := [0, 1, 2, 7, 8]) (by kernel_rfl)
def Lc71l2 (F : Nat → Option IFn) (cx : Ctx) (x0 x1 x2 x7 x8 : AV) (rows : List Row) (low : Nat) (r : AV × List Row × Nat → Prop) : Prop := Ex F cx (.code c71l2 :: .inLoop c71l2 :: .inBlock 0 :: .code c71s1 :: []) ⟨mk 80 [(0, x0), (1, x1), (2, x2), (7, x7), (8, x8)], rows, low⟩ r
@[simp] theorem nc71l2 : Ex F cx (.inLoop c71l2 :: .inBlock 0 :: .code c71s1 :: []) ⟨mk 80 l, rows, low⟩ r ↔ Lc71l2 F cx (lk l 0) (lk l 1) (lk l 2) (lk l 7) (lk l 8) rows low r := loopN (keep := [0, 1, 2, 7, 8]) (by kernel_rfl)
@[simp] theorem ec71l2 : Ex F cx (.code (.loop c71l2) :: .inBlock 0 :: .code c71s1 :: []) ⟨mk 80 l, rows, low⟩ r ↔ Lc71l2 F cx (lk l 0) (lk l 1) (lk l 2) (lk l 7) (lk l 8) rows low r := loopE (keep := [0, 1, 2, 7, 8]) (by kernel_rfl)
@[simp] theorem uc71l2 : Ex F cx (.code c71l2 :: k) s r ↔ Ex F cx (.code (.seq (.seq c71k33 c71s32) c71s31) :: k) s r := Iff.rfl
@[simp] theorem uc71b : Ex F cx (.code c71b :: k) s r ↔ Ex F cx (.code (.seq c71k39 c71s38) :: k) s r := Iff.rfl
theorem i71 {x0 x1 x2 : AV} (hF : F 71 = some c71) {q : AV × List Row × Option Nat} (h : Ex F (.fn [.t 6]) [.code c71b] ⟨mk 80 [(0, x0), (1, x1), (2, x2)], rows, rows.length⟩ fun r => fin rows r.1 r.2.1 r.2.2 = q) : Ret F 71 [x0, x1, x2] rows = some q := Ret_mk hF h
@[simp] theorem uc78k0 : Ex F cx (.code c78k0 :: k) ⟨mk 10 l, rows, low⟩ r ↔ bnd (evP rows (.nilck (.c (lk l 0)))) fun v0 => bnd (evP rows (.fieldA 0 (.c v0))) fun v1 => bnd (evP rows (.load1 (.c v1))) fun v2 => bnd (evP rows (.conv .u64 (.c v2))) fun v3 => bnd (evP rows (.bin .shl (.c (.int .i64 1)) (.c v3))) fun v4 => bnd (evP rows (.bin .sub (.c v4) (.c (.int .i64 1)))) fun v5 => Ex F cx k ⟨mk 10 [(2, v5), (9, v5), (8, v4), (7, v3), (6, v2), (5, v1), (4, v0), (3, lk l 0), (0, lk l 0)], rows, low⟩ r := reg (keep := [0]) (ops := c78r0) rfl (by kernel_rfl) (by kernel_rfl)
@[simp] theorem uc78s1 : Ex F cx (.code c78s1 :: k) s r ↔ Ex F cx (.code (.seq c78k0 .ret) :: k) s r := Iff.rfl
@[simp] theorem uc78k2 : Ex F cx (.code c78k2 :: k) ⟨mk 10 l, rows, low⟩ r ↔ Ex F cx k ⟨mk 10 [(2, (.int .i64 0)), (0, lk l 0)], rows, low⟩ r := reg (keep := [0]) (ops := c78r2) rfl (by kernel_rfl) (by kernel_rfl)
@[simp] theorem uc78b : Ex F cx (.code c78b :: k) s r ↔ Ex F cx (.code (.seq c78k2 c78s1) :: k) s r := Iff.rfl
theorem i78 {x0 : AV} (hF : F 78 = some c78) {q : AV × List Row × Option Nat} (h : Ex F (.fn [.t 2]) [.code c78b] ⟨mk 10 [(0, x0)], rows, rows.length⟩ fun r => fin rows r.1 r.2.1 r.2.2 = q) : Ret F 78 [x0] rows = some q := Ret_mk hF h
@[simp] theorem uc92k0 : Ex F cx (.code c92k0 :: k) ⟨mk 8 l, rows, low⟩ r ↔ bnd (Ret F 101 [lk l 0] rows) fun q0 => Ex F cx k ⟨mk 8 [(2, q0.1), (7, q0.1), (6, lk l 0), (0, lk l 0)], q0.2.1, (lowO low q0.2.2)⟩ r := reg (keep := [0]) (ops := c92r0) rfl (by kernel_rfl) (by kernel_rfl)
@[simp] theorem uc92s1 : Ex F cx (.code c92s1 :: k) s r ↔ Ex F cx (.code (.seq c92k0 .ret) :: k) s r := Iff.rfl
@[simp] theorem uc92k2 : Ex F cx (.code c92k2 :: k) ⟨mk 8 l, rows, low⟩ r ↔ bnd (evP rows (.conv .u32 (.c (lk l 0)))) fun v0 => bnd (Ret F 100 [v0] rows) fun q1 => Ex F cx k ⟨mk 8 [(2, q1.1), (5, q1.1), (4, v0), (3, lk l 0), (0, lk l 0)], q1.2.1, (lowO low q1.2.2)⟩ r := reg (keep := [0]) (ops := c92r2) rfl (by kernel_rfl) (by kernel_rfl)
@[simp] theorem uc92s3 : Ex F cx (.code c92s3 :: k) s r ↔ Ex F cx (.code (.seq (.cond (.c (.bool false)) (.seq c92k2 .ret) .skip) c92s1) :: k) s r := Iff.rfl
@[simp] theorem uc92k4 : Ex F cx (.code c92k4 :: k) ⟨mk 8 l, rows, low⟩ r ↔ Ex F cx k ⟨mk 8 [(2, (.int .i64 0)), (0, lk l 0)], rows, low⟩ r := reg (keep := [0]) (ops := c92r4) rfl (by kernel_rfl) (by kernel_rfl)
def Jc92s1 (F : Nat → Option IFn) (cx : Ctx) (x0 : AV) (rows : List Row) (low : Nat) (r : AV × List Row × Nat → Prop) : Prop := Ex F cx (.code c92s1 :: []) ⟨mk 8 [(0, x0)], rows, low⟩ r
theorem jc92s1 : Ex F cx (.code c92s1 :: []) ⟨mk 8 l, rows, low⟩ r ↔ Jc92s1 F cx (lk l 0) rows low r := Ex_canon (keep := [0]) (by kernel_rfl)
@[simp] theorem uc92b : Ex F cx (.code c92b :: k) s r ↔ Ex F cx (.code (.seq c92k4 c92s3) :: k) s r := Iff.rfl
theorem i92 {x0 : AV} (hF : F 92 = some c92) {q : AV × List Row × Option Nat} (h : Ex F (.fn [.t 2]) [.code c92b] ⟨mk 8 [(0, x0)], rows, rows.length⟩ fun r => fin rows r.1 r.2.1 r.2.2 = q) : Ret F 92 [x0] rows = some q := Ret_mk hF h
@[simp] theorem uc101k0 : Ex F cx (.code c101k0 :: k) ⟨mk 14 l, rows, low⟩ r ↔ bnd (evP rows (.un .neg (.c (lk l 0)))) fun v0 => bnd (evP rows (.bin .and (.c (lk l 0)) (.c v0))) fun v1 => bnd (evP rows (.bin .mul (.c v1) (.c (.int .u64 285870213051353865)))) fun v2 => bnd (evP rows (.bin .shr (.c v2) (.c (.int .u64 58)))) fun v3 => bnd (evP rows (.idxA 64 1 (.c (.ptr 1 0)) (.c v3))) fun v4 => bnd (evP rows (.load1 (.c v4))) fun v5 => bnd (evP rows (.conv .i64 (.c v5))) fun v6 => Ex F cx k ⟨mk 14 [(2, v6), (13, v6), (12, v5), (11, v4), (10, v3), (9, v2), (8, v1), (7, v0), (6, lk l 0), (5, lk l 0), (0, lk l 0)], rows, low⟩ r := reg (keep := [0]) (ops := c101r0) rfl (by kernel_rfl) (by kernel_rfl)
@[simp] theorem uc101s1 : Ex F cx (.code c101s1 :: k) s r ↔ Ex F cx (.code (.seq c101k0 .ret) :: k) s r := Iff.rfl
@[simp] theorem uc101k2 : Ex F cx (.code c101k2 :: k) ⟨mk 14 l, rows, low⟩ r ↔ Ex F cx k ⟨mk 14 [(2, (.int .i64 64))], rows, low⟩ r := reg (keep := []) (ops := c101r2) rfl (by kernel_rfl) (by kernel_rfl)
@[simp] theorem uc101s3 : Ex F cx (.code c101s3 :: k) s r ↔ Ex F cx (.code (.cond (.t 4) (.seq c101k2 .ret) .skip) :: k) s r := Iff.rfl
@[simp] theorem uc101k4 : Ex F cx (.code c101k4 :: k) ⟨mk 14 l, rows, low⟩ r ↔ bnd (evP rows (.bin .eql (.c (lk l 0)) (.c (.int .u64 0)))) fun v0 => Ex F cx k ⟨mk 14 [(4, v0), (3, lk l 0), (0, lk l 0)], rows, low⟩ r := reg (keep := [0]) (ops := c101r4) rfl (by kernel_rfl) (by kernel_rfl)
@[simp] theorem uc101s5 : Ex F cx (.code c101s5 :: k) s r ↔ Ex F cx (.code (.seq (.seq c101k4 c101s3) c101s1) :: k) s r := Iff.rfl
@[simp] theorem uc101k6 : Ex F cx (.code c101k6 :: k) ⟨mk 14 l, rows, low⟩ r ↔ Ex F cx k ⟨mk 14 [(2, (.int .i64 0)), (0, lk l 0)], rows, low⟩ r := reg (keep := [0]) (ops := c101r6) rfl (by kernel_rfl) (by kernel_rfl)
def Jc101s1 (F : Nat → Option IFn) (cx : Ctx) (x0 : AV) (rows : List Row) (low : Nat) (r : AV × List Row × Nat → Prop) : Prop := Ex F cx (.code c101s1 :: []) ⟨mk 14 [(0, x0)], rows, low⟩ r
theorem jc101s1 : Ex F cx (.code c101s1 :: []) ⟨mk 14 l, rows, low⟩ r ↔ Jc101s1 F cx (lk l 0) rows low r := Ex_canon (keep := [0]) (by kernel_rfl)
@[simp] theorem uc101b : Ex F cx (.code c101b :: k) s r ↔ Ex F cx (.code (.seq c101k6 c101s5) :: k) s r := Iff.rfl
theorem i101 {x0 : AV} (hF : F 101 = some c101) {q : AV × List Row × Option Nat} (h : Ex F (.fn [.t 2]) [.code c101b] ⟨mk 14 [(0, x0)], rows, rows.length⟩ fun r => fin rows r.1 r.2.1 r.2.2 = q) : Ret F 101 [x0] rows = some q := Ret_mk hF h
end Go.Abs

set_option linter.unusedVariables false
set_option linter.unusedSimpArgs false
namespace Go.Abs
open Rd (Cp IsL_one IsL_cells IsL_tail lowO_n)
/-- The elements of a set. -/
def mem (s : Nat) : List Nat := (List.range 10).filter fun i => s.testBit i
def tz (s : Nat) : Nat := (mem s).headD 0
def cnt (s : Nat) : Nat := (mem s).length
/-- What TrailingZeros works out. -/
def tzx (s : Nat) : Option Int := t64[((IntKind.u64.wrap (IntKind.u64.wrap (bvop .and IntKind.u64.bits s (IntKind.u64.wrap (-(s : Int)))) * 285870213051353865)).fdiv (2 ^ min 58 IntKind.u64.bits)).toNat]?
theorem tzx_ok : ∀ s : Nat, s < 1024 → 0 < s → tzx s = some ((tz s : Nat) : Int) ∧ 0 ≤ (IntKind.u64.wrap (IntKind.u64.wrap (bvop .and IntKind.u64.bits s (IntKind.u64.wrap (-(s : Int)))) * 285870213051353865)).fdiv (2 ^ min 58 IntKind.u64.bits) ∧ (IntKind.u64.wrap (IntKind.u64.wrap (bvop .and IntKind.u64.bits s (IntKind.u64.wrap (-(s : Int)))) * 285870213051353865)).fdiv (2 ^ min 58 IntKind.u64.bits) < 64 := by decide +kernel
theorem tz_lt : ∀ s : Nat, s < 1024 → 0 < s → tz s < 10 ∧ s.testBit (tz s) = true ∧ ∀ i, i < tz s → s.testBit i = false := by decide +kernel
section
variable {rows : List Row}
theorem tz_aux {x : Int} {z : Nat} {t : List Int} (hg : row? rows 1 = some (nums .u8 t)) (e1 : t[x.toNat]? = some (z : Int)) (e2 : 0 ≤ x) (e3 : x < 64) (hz : z < 10) : bnd (Option.map (fun j => AV.ptr 1 j) (idx? x 64)) fun v4 => bnd (evP rows (.load1 (.c v4))) fun v5 => bnd (evP rows (.conv .i64 (.c v5))) fun v6 => fin rows v6 rows rows.length = (.int .i64 z, rows, none) := by
  have ei := idx?_ok (len := 64) e2 e3
  have w : IntKind.i64.wrap (z : Int) = z := wrap64 (by omega) (by omega)
  simp [hg, ei, e1, w]
theorem tz_ret {s : Nat} (hg : row? rows 1 = some (nums .u8 t64)) (h0 : 0 < s) (h : s < 1024) : Ret F 101 [.int .u64 s] rows = some (.int .i64 (tz s), rows, none) := by
  obtain ⟨e1, e2, e3⟩ := tzx_ok s h h0
  have hl := (tz_lt s h h0).1
  refine i101 F101 ?_
  simp [hg, show ¬ s = 0 by omega]
  exact tz_aux hg e1 e2 e3 hl
theorem tz_ret2 {s : Nat} (hg : row? rows 1 = some (nums .u8 t64)) (h0 : 0 < s) (h : s < 1024) : Ret F 92 [.int .u64 s] rows = some (.int .i64 (tz s), rows, none) := by
  refine i92 F92 ?_
  simp [tz_ret hg h0 h]
end
end Go.Abs

set_option linter.unusedVariables false
set_option linter.unusedSimpArgs false
namespace Go.Abs
open Rd (Cp IsL_one IsL_cells IsL_tail lowO_n)
@[simp] theorem natneg {i : Nat} : ((i : Int) < 0) = False := by simp
@[simp] theorem idx02 : idx? 0 2 = some 0 := rfl
@[simp] theorem idx12 : idx? 1 2 = some 1 := rfl
def sI (a b : Nat) : Nat := a &&& b
def sU (a b : Nat) : Nat := a ||| b
def sD (a b : Nat) : Nat := a ^^^ (a &&& b)
def sB (i : Nat) : Nat := 2 ^ i
theorem tb_I {a b i : Nat} : (sI a b).testBit i = (a.testBit i && b.testBit i) := by simp [sI]
theorem tb_U {a b i : Nat} : (sU a b).testBit i = (a.testBit i || b.testBit i) := by simp [sU]
theorem tb_D {a b i : Nat} : (sD a b).testBit i = (a.testBit i && !b.testBit i) := by
  simp only [sD, Nat.testBit_xor, Nat.testBit_and]
  cases a.testBit i <;> cases b.testBit i <;> rfl
theorem tb_B {i j : Nat} : (sB i).testBit j = decide (i = j) := by simp [sB, Nat.testBit_two_pow]
theorem I_le {a b : Nat} : sI a b ≤ a := Nat.and_le_left
theorem U_lt {a b n : Nat} (ha : a < 2 ^ n) (hb : b < 2 ^ n) : sU a b < 2 ^ n := Nat.or_lt_two_pow ha hb
theorem and_lt_two_pow_left' {a b n : Nat} (ha : a < 2 ^ n) : a &&& b < 2 ^ n := Nat.lt_of_le_of_lt Nat.and_le_left ha
theorem D_lt {a b n : Nat} (ha : a < 2 ^ n) : sD a b < 2 ^ n := Nat.xor_lt_two_pow ha (and_lt_two_pow_left' ha)
theorem U_lt10 {a b : Nat} (ha : a < 1024) (hb : b < 1024) : sU a b < 1024 := U_lt (n := 10) ha hb
theorem I_lt10 {a b : Nat} (ha : a < 1024) : sI a b < 1024 := Nat.lt_of_le_of_lt I_le ha
theorem D_lt10 {a b : Nat} (ha : a < 1024) : sD a b < 1024 := D_lt (n := 10) ha
theorem B_lt10 {i : Nat} (hi : i < 10) : sB i < 1024 := by
  have : ∀ i, i < 10 → sB i < 1024 := by decide
  exact this i hi
theorem ofI (a : Nat) (ha : a < 18446744073709551616) : (BitVec.ofInt 64 (a : Int)).toNat = a := by
  rw [BitVec.ofInt_natCast, BitVec.toNat_ofNat]
  exact Nat.mod_eq_of_lt ha
theorem bv_and {a b : Nat} (ha : a < 4611686018427387904) (hb : b < 4611686018427387904) : bvop .and 64 a b = sI a b := by
  unfold bvop
  simp only [BitVec.toNat_and]
  rw [ofI a (by omega), ofI b (by omega)]
  rfl
theorem bv_or {a b : Nat} (ha : a < 4611686018427387904) (hb : b < 4611686018427387904) : bvop .or 64 a b = sU a b := by
  unfold bvop
  simp only [BitVec.toNat_or]
  rw [ofI a (by omega), ofI b (by omega)]
  rfl
theorem bv_andNot {a b : Nat} (ha : a < 4611686018427387904) (hb : b < 4611686018427387904) : bvop .andNot 64 a b = sD a b := by
  apply Nat.eq_of_testBit_eq
  intro i
  rw [tb_D]
  unfold bvop
  simp only [BitVec.toNat_and, Nat.testBit_and]
  rw [ofI a (by omega)]
  by_cases hi : i < 64
  · rw [BitVec.testBit_toNat, BitVec.getLsbD_not]
    simp only [hi, decide_true, Bool.true_and]
    rw [← BitVec.testBit_toNat, ofI b (by omega)]
  · have : a.testBit i = false := by
      apply Nat.testBit_lt_two_pow
      have : (2 : Nat) ^ 62 ≤ 2 ^ i := Nat.pow_le_pow_right (by omega) (by omega)
      have e : (2 : Nat) ^ 62 = 4611686018427387904 := by decide
      omega
    simp [this]
theorem w_and {a b : Nat} (ha : a < 4611686018427387904) (hb : b < 4611686018427387904) : IntKind.i64.wrap ((bvop .and IntKind.i64.bits a b : Nat) : Int) = (sI a b : Nat) := by
  have := I_le (a := a) (b := b)
  show IntKind.i64.wrap ((bvop .and 64 a b : Nat) : Int) = _
  rw [bv_and ha hb]
  exact wrap64 (by omega) (by omega)
theorem w_andU {a b : Nat} (ha : a < 4611686018427387904) (hb : b < 4611686018427387904) : IntKind.u64.wrap ((bvop .and IntKind.u64.bits a b : Nat) : Int) = (sI a b : Nat) := by
  have := I_le (a := a) (b := b)
  show IntKind.u64.wrap ((bvop .and 64 a b : Nat) : Int) = _
  rw [bv_and ha hb]
  exact wrapU64 (by omega) (by omega)
theorem w_or {a b : Nat} (ha : a < 4611686018427387904) (hb : b < 4611686018427387904) : IntKind.i64.wrap ((bvop .or IntKind.i64.bits a b : Nat) : Int) = (sU a b : Nat) := by
  have := U_lt (n := 62) (a := a) (b := b) ha hb
  show IntKind.i64.wrap ((bvop .or 64 a b : Nat) : Int) = _
  rw [bv_or ha hb]
  exact wrap64 (by omega) (by omega)
theorem w_andNot {a b : Nat} (ha : a < 4611686018427387904) (hb : b < 4611686018427387904) : IntKind.i64.wrap ((bvop .andNot IntKind.i64.bits a b : Nat) : Int) = (sD a b : Nat) := by
  have := D_lt (n := 62) (a := a) (b := b) ha
  show IntKind.i64.wrap ((bvop .andNot 64 a b : Nat) : Int) = _
  rw [bv_andNot ha hb]
  exact wrap64 (by omega) (by omega)
theorem w_shl {i : Nat} (hi : i < 11) : IntKind.i64.wrap (2 ^ min i IntKind.i64.bits) = (sB i : Nat) := by
  have : ∀ i, i < 11 → IntKind.i64.wrap (2 ^ min i IntKind.i64.bits) = ((sB i : Nat) : Int) := by decide
  exact this i hi
theorem mem_step : ∀ s : Nat, s < 1024 → 0 < s → mem s = tz s :: mem (sI s (s - 1)) ∧ sI s (s - 1) < s := by decide +kernel
def meI (s : Nat) : List Int := (mem s).map fun (i : Nat) => (i : Int)
theorem mem_tb {s i : Nat} (h : s < 1024) : i ∈ mem s ↔ s.testBit i = true := by
  unfold mem
  rw [List.mem_filter, List.mem_range]
  constructor
  · exact fun h => h.2
  · intro hb
    refine ⟨?_, hb⟩
    rcases Nat.lt_or_ge i 10 with hi | hi
    · exact hi
    · have : s.testBit i = false := Nat.testBit_lt_two_pow (Nat.lt_of_lt_of_le h (show 2 ^ 10 ≤ 2 ^ i from Nat.pow_le_pow_right (by omega) hi))
      rw [this] at hb; cases hb
theorem mem_len : ∀ s : Nat, s < 1024 → (mem s).length ≤ 10 := by decide +kernel
section
variable {rows : List Row}
theorem members_loop (hg : row? rows 1 = some (nums .u8 t64)) : ∀ (d s : Nat) (acc : List Int) (H : List Row), (mem s).length = d → s < 1024 → acc.length + d ≤ 100 →
    Lc69l2 F (.fn [.t 2]) (accV rows H acc) (.int .u64 s) (rows ++ accR H acc) rows.length (fun r => fin rows r.1 r.2.1 r.2.2 = newL rows (acc ++ meI s)) := by
  intro d
  induction d with
  | zero =>
    intro s acc H hd hs hl
    have h0 : s = 0 := by
      rcases Nat.eq_zero_or_pos s with e | e
      · exact e
      · have := (mem_step s hs e).1
        rw [this] at hd
        simp at hd
    subst h0
    have e : acc ++ meI 0 = acc := by simp [meI, show mem 0 = [] by decide]
    rw [e]
    unfold Lc69l2
    simp
    exact acc_fin
  | succ d ih =>
    intro s acc H hd hs hl
    have h0 : 0 < s := by
      rcases Nat.eq_zero_or_pos s with e | e
      · subst e; simp [show mem 0 = [] by decide] at hd
      · exact e
    obtain ⟨m1, m2⟩ := mem_step s hs h0
    have hd' : (mem (sI s (s - 1))).length = d := by rw [m1] at hd; simpa using hd
    have w1 : IntKind.u64.wrap ((s : Int) - 1) = ((s - 1 : Nat) : Int) := by rw [wrapU64 (by omega) (by omega)]; omega
    have w2 := w_andU (a := s) (b := s - 1) (by omega) (by omega)
    obtain ⟨H', hap⟩ := acc_app (rows := rows) (H := H) (l := acc) (x := (tz s : Int)) (by omega)
    have ht := tz_ret2 (rows := rows ++ accR H acc) (row?_old hg _) h0 hs
    have := ih (sI s (s - 1)) (acc ++ [(tz s : Int)]) H' hd' (by omega) (by simp; omega)
    have e : acc ++ [(tz s : Int)] ++ meI (sI s (s - 1)) = acc ++ meI s := by unfold meI; rw [m1]; simp
    rw [e] at this
    unfold Lc69l2
    simp [show ¬ s = 0 by omega, ht, fillA, splice, hap, w1, w2]
    simpa using this
/-- members. -/
theorem members_ret (hg : row? rows 1 = some (nums .u8 t64)) {s : Nat} (hs : s < 1024) : Ret F 69 [.int .i64 s] rows = some (newL rows (meI s)) := by
  refine i69 F69 ?_
  have w : IntKind.u64.wrap (s : Int) = s := wrapU64 (by omega) (by omega)
  have := members_loop hg _ s [] [] rfl hs (by have := mem_len s hs; simp; omega)
  simp [w]
  simpa [accV, accR] using this
end
end Go.Abs

set_option linter.unusedVariables false
set_option linter.unusedSimpArgs false
namespace Go.Abs
theorem nat_ext {a b : Nat} (h : ∀ i, a.testBit i = b.testBit i) : a = b := Nat.eq_of_testBit_eq h
def Sub (a b : Nat) : Prop := ∀ i, a.testBit i = true → b.testBit i = true
theorem Sub.anti {a b : Nat} (h1 : Sub a b) (h2 : Sub b a) : a = b := nat_ext fun i => by
  cases ha : a.testBit i with
  | true => rw [h1 i ha]
  | false =>
    cases hb : b.testBit i with
    | false => rfl
    | true => rw [h2 i hb] at ha; cases ha
theorem Sub.trans {a b c : Nat} (h1 : Sub a b) (h2 : Sub b c) : Sub a c := fun i h => h2 i (h1 i h)
theorem Sub.refl {a : Nat} : Sub a a := fun _ h => h
theorem Sub.lt {a b : Nat} (h : Sub a b) (hb : b < 1024) : a < 1024 := by
  have e : a = sI b a := nat_ext fun i => by
    rw [tb_I]
    cases ha : a.testBit i with
    | true => rw [h i ha]; rfl
    | false => simp
  rw [e]
  exact I_lt10 hb
theorem filt_split {α : Type} (p q : α → Bool) : ∀ l : List α, (l.filter p).length = (l.filter fun x => p x && q x).length + (l.filter fun x => p x && !q x).length
  | [] => rfl
  | x :: l => by
    have ih := filt_split p q l
    simp only [List.filter_cons]
    cases p x <;> cases q x <;> simp [ih] <;> omega
theorem cnt_split (a b : Nat) : cnt a = cnt (sI a b) + cnt (sD a b) := by
  unfold cnt mem
  rw [filt_split (fun i => a.testBit i) (fun i => b.testBit i)]
  congr 2 <;> (congr 1; funext i)
  · rw [tb_I]
  · rw [tb_D]
theorem cnt_pos {s : Nat} (h : s < 1024) (h0 : 0 < s) : 0 < cnt s := by
  unfold cnt; rw [(mem_step s h h0).1]; simp
theorem ne0_of_tb {s i : Nat} (h : s.testBit i = true) : 0 < s := by
  rcases Nat.eq_zero_or_pos s with e | e
  · subst e; simp at h
  · exact e
theorem cnt_lt {a b : Nat} (hb : b < 1024) (h : Sub a b) (hne : a ≠ b) : cnt a < cnt b := by
  have e1 : sI b a = a := nat_ext fun i => by
    rw [tb_I]
    cases ha : a.testBit i with
    | true => rw [h i ha]; rfl
    | false => simp
  have := cnt_split b a
  rw [e1] at this
  have hd : 0 < sD b a := by
    rcases Nat.eq_zero_or_pos (sD b a) with e | e
    · refine absurd (Sub.anti h fun i hi => ?_) hne
      have h2 : (sD b a).testBit i = false := by rw [e]; simp
      rw [tb_D, hi] at h2
      simpa using h2
    · exact e
  have := cnt_pos (D_lt10 hb) hd
  omega
theorem cnt_le {a b : Nat} (hb : b < 1024) (h : Sub a b) : cnt a ≤ cnt b := by
  by_cases e : a = b
  · rw [e]; exact Nat.le_refl _
  · exact Nat.le_of_lt (cnt_lt hb h e)
theorem cnt_10 : ∀ s : Nat, s < 1024 → cnt s ≤ 10 := by decide +kernel
theorem cnt_n : ∀ s : Nat, s < 1024 → ∀ n : Nat, n < 11 → s < 2 ^ n → cnt s ≤ n := by decide +kernel
theorem cnt_B : ∀ i : Nat, i < 10 → cnt (sB i) = 1 := by decide
theorem tb_n {s n i : Nat} (h : s < 2 ^ n) (hi : n ≤ i) : s.testBit i = false := Nat.testBit_lt_two_pow (Nat.lt_of_lt_of_le h (Nat.pow_le_pow_right (by omega) hi))
theorem I_B {s i : Nat} : sI s (sB i) = 0 ↔ s.testBit i = false := by
  constructor
  · intro h
    have h2 : (sI s (sB i)).testBit i = false := by rw [h]; simp
    rw [tb_I, tb_B] at h2
    simpa using h2
  · intro h
    apply nat_ext
    intro j
    rw [tb_I, tb_B]
    by_cases e : i = j
    · subst e; simp [h]
    · simp [e]
structure GOK (nx : Nat → Nat) : Prop where
  lt : ∀ i, nx i < 1024
  sym : ∀ i j, (nx i).testBit j = (nx j).testBit i
def Clo (nx : Nat → Nat) (set o : Nat) : Prop := ∀ i j, o.testBit i = true → (nx i).testBit j = true → set.testBit j = true → o.testBit j = true
/-- The places that hang together with one, within a set. -/
structure IsC (nx : Nat → Nat) (set v c : Nat) : Prop where
  at_ : c.testBit v = true
  cl : Clo nx set c
  least : ∀ D, D.testBit v = true → Clo nx set D → Sub c D
theorem IsC.unique {nx : Nat → Nat} {set v c c' : Nat} (h : IsC nx set v c) (h' : IsC nx set v c') : c = c' := (h.least c' h'.at_ h'.cl).anti (h'.least c h.at_ h.cl)
theorem IsC.sub {nx : Nat → Nat} {set v c : Nat} (h : IsC nx set v c) (hv : set.testBit v = true) : Sub c set := h.least set hv fun _ _ _ _ h => h
theorem B_sub {v D : Nat} (h : D.testBit v = true) : Sub (sB v) D := fun i hi => by
  rw [tb_B] at hi
  have : v = i := by simpa using hi
  subst this; exact h
section
variable {nx : Nat → Nat} {set : Nat}
/-- One round of 'reached'. -/
def rnd (nx : Nat → Nat) (set : Nat) (l : List Nat) (o : Nat) : Nat := l.foldl (fun o i => sU o (sI (nx i) set)) o
theorem rnd_tb {l : List Nat} {o j : Nat} : (rnd nx set l o).testBit j = true ↔ o.testBit j = true ∨ ∃ i ∈ l, (nx i).testBit j = true ∧ set.testBit j = true := by
  unfold rnd
  induction l generalizing o with
  | nil => simp
  | cons x l ih =>
    simp only [List.foldl_cons, ih, tb_U, tb_I, List.mem_cons, Bool.or_eq_true, Bool.and_eq_true]
    constructor
    · rintro ((h | h) | ⟨i, hi, h⟩)
      · exact .inl h
      · exact .inr ⟨x, .inl rfl, h⟩
      · exact .inr ⟨i, .inr hi, h⟩
    · rintro (h | ⟨i, rfl | hi, h⟩)
      · exact .inl (.inl h)
      · exact .inl (.inr h)
      · exact .inr ⟨i, hi, h⟩
theorem rnd_lt (hset : set < 1024) : ∀ {l : List Nat} {o : Nat}, o < 1024 → (∀ i ∈ l, nx i < 1024) → rnd nx set l o < 1024
  | [], o, ho, _ => ho
  | x :: l, o, ho, h => rnd_lt hset (l := l) (U_lt10 ho (I_lt10 (h x List.mem_cons_self))) fun i hi => h i (List.mem_cons_of_mem _ hi)
def rch (nx : Nat → Nat) (set : Nat) : Nat → Nat → Nat
  | 0, o => o
  | k + 1, o => if rnd nx set (mem o) o = o then o else rch nx set k (rnd nx set (mem o) o)
def cmp (nx : Nat → Nat) (set v : Nat) : Nat := rch nx set 11 (sB v)
theorem rnd_sub {l : List Nat} {o : Nat} : Sub o (rnd nx set l o) := fun i hi => rnd_tb.2 (.inl hi)
theorem rch_ok (hg : GOK nx) (hset : set < 1024) {v : Nat} : ∀ (k o : Nat), o < 1024 → 11 ≤ k + cnt o → o.testBit v = true → (∀ D, D.testBit v = true → Clo nx set D → Sub o D) → IsC nx set v (rch nx set k o) ∧ rch nx set k o < 1024 := by
  intro k
  induction k with
  | zero => intro o ho hk; have := cnt_10 o ho; omega
  | succ k ih =>
    intro o ho hk hv hD
    unfold rch
    have hlt := rnd_lt (nx := nx) hset (l := mem o) ho fun i _ => hg.lt i
    by_cases e : rnd nx set (mem o) o = o
    · rw [if_pos e]
      refine ⟨⟨hv, fun i j h1 h2 h3 => ?_, hD⟩, ho⟩
      rw [← e]
      exact rnd_tb.2 (.inr ⟨i, (mem_tb ho).2 h1, h2, h3⟩)
    · rw [if_neg e]
      have hc := cnt_lt hlt rnd_sub fun h => e h.symm
      refine ih _ hlt (by omega) (rnd_sub v hv) fun D d1 d2 i hi => ?_
      rcases rnd_tb.1 hi with h | ⟨x, hx, h1, h2⟩
      · exact hD D d1 d2 i h
      · exact d2 x i (hD D d1 d2 x ((mem_tb ho).1 hx)) h1 h2
theorem cmp_ok (hg : GOK nx) (hset : set < 1024) {v : Nat} (hv : v < 10) : IsC nx set v (cmp nx set v) ∧ cmp nx set v < 1024 :=
  rch_ok hg hset 11 (sB v) (B_lt10 hv) (by omega) (by rw [tb_B]; simp) fun D d1 _ => B_sub d1
/-- A set's parts, in the order of their least places. -/
def PT (nx : Nat → Nat) : Nat → Nat → List Nat
  | 0, _ => []
  | k + 1, s => if s = 0 then [] else cmp nx s (tz s) :: PT nx k (sD s (cmp nx s (tz s)))
theorem part_first (hg : GOK nx) {s : Nat} (hs : s < 1024) (h0 : 0 < s) : IsC nx s (tz s) (cmp nx s (tz s)) ∧ cmp nx s (tz s) < 1024 ∧ Sub (cmp nx s (tz s)) s ∧ cnt (sD s (cmp nx s (tz s))) < cnt s := by
  obtain ⟨t1, t2, _⟩ := tz_lt s hs h0
  obtain ⟨c1, c2⟩ := cmp_ok hg hs t1
  have c3 := c1.sub t2
  refine ⟨c1, c2, c3, cnt_lt hs (fun i hi => by rw [tb_D] at hi; simp at hi; exact hi.1) fun e => ?_⟩
  have := congrArg (Nat.testBit · (tz s)) e
  simp only [tb_D, t2, c1.at_] at this
  simp at this
def er (set p : Nat) (e : Nat × Nat) : Nat := if set.testBit e.1 = true ∧ set.testBit e.2 = true ∧ (p.testBit e.1 = true ∨ p.testBit e.2 = true) then sU (sU p (sB e.1)) (sB e.2) else p
def erd (set : Nat) (es : List (Nat × Nat)) (p : Nat) : Nat := es.foldl (er set) p
def erk (set : Nat) (es : List (Nat × Nat)) : Nat → Nat → Nat
  | 0, p => p
  | k + 1, p => erk set es k (erd set es p)
/-- The edges are those of the neighbours. -/
structure Edg (nx : Nat → Nat) (es : List (Nat × Nat)) : Prop where
  lt : ∀ e ∈ es, e.1 < 10 ∧ e.2 < 10
  to : ∀ e ∈ es, (nx e.1).testBit e.2 = true ∧ (nx e.2).testBit e.1 = true
  of : ∀ i j, (nx i).testBit j = true → (i, j) ∈ es ∨ (j, i) ∈ es
theorem er_sub {p : Nat} {e : Nat × Nat} : Sub p (er set p e) := fun i hi => by
  unfold er
  split
  · rw [tb_U, tb_U, hi]; rfl
  · exact hi
theorem er_lt {p : Nat} {e : Nat × Nat} (hp : p < 1024) (he : e.1 < 10 ∧ e.2 < 10) : er set p e < 1024 := by
  unfold er
  split
  · exact U_lt10 (U_lt10 hp (B_lt10 he.1)) (B_lt10 he.2)
  · exact hp
theorem erd_sub {es : List (Nat × Nat)} {p : Nat} : Sub p (erd set es p) := by
  unfold erd
  induction es generalizing p with
  | nil => exact Sub.refl
  | cons e es ih => exact er_sub.trans ih
theorem erd_lt {es : List (Nat × Nat)} (he : ∀ e ∈ es, e.1 < 10 ∧ e.2 < 10) : ∀ {p : Nat}, p < 1024 → erd set es p < 1024 := by
  unfold erd
  induction es with
  | nil => intro p hp; exact hp
  | cons e es ih => intro p hp; exact ih (fun x hx => he x (List.mem_cons_of_mem _ hx)) (er_lt hp (he e List.mem_cons_self))
theorem erd_D {es : List (Nat × Nat)} (hE : Edg nx es) {D : Nat} (hD : Clo nx set D) : ∀ {l : List (Nat × Nat)} {p : Nat}, (∀ e ∈ l, e ∈ es) → Sub p D → Sub (erd set l p) D
  | [], p, _, h => h
  | e :: l, p, hl, h => by
    refine erd_D hE hD (l := l) (p := er set p e) (fun x hx => hl x (List.mem_cons_of_mem _ hx)) fun i hi => ?_
    unfold er at hi
    split at hi
    · rename_i hc
      have ht := hE.to e (hl e List.mem_cons_self)
      have hD1 : D.testBit e.1 = true ∧ D.testBit e.2 = true := by
        rcases hc.2.2 with h2 | h2
        · exact ⟨h _ h2, hD _ _ (h _ h2) ht.1 hc.2.1⟩
        · exact ⟨hD _ _ (h _ h2) ht.2 hc.1, h _ h2⟩
      rw [tb_U, tb_U, tb_B, tb_B] at hi
      simp only [Bool.or_eq_true, decide_eq_true_eq] at hi
      rcases hi with (hi | hi) | hi
      · exact h i hi
      · rw [← hi]; exact hD1.1
      · rw [← hi]; exact hD1.2
    · exact h i hi
theorem erd_fix {l : List (Nat × Nat)} : ∀ {p : Nat}, erd set l p = p → ∀ e ∈ l, er set p e = p := by
  induction l with
  | nil => intro p _ e he; simp at he
  | cons x l ih =>
    intro p h e he
    have h1 : erd set l (er set p x) = p := h
    have h2 : er set p x = p := (Sub.anti er_sub (by have := erd_sub (set := set) (es := l) (p := er set p x); rwa [h1] at this)).symm
    rw [h2] at h1
    rcases List.mem_cons.1 he with rfl | he
    · exact h2
    · exact ih h1 e he
theorem erk_ok {es : List (Nat × Nat)} (hE : Edg nx es) (hset : set < 1024) {v : Nat} : ∀ (k p : Nat), p < 1024 → Sub p set → cnt set + 1 ≤ k + cnt p → p.testBit v = true → (∀ D, D.testBit v = true → Clo nx set D → Sub p D) → IsC nx set v (erk set es k p) := by
  have fix : ∀ p, erd set es p = p → p.testBit v = true → Sub p set → (∀ D, D.testBit v = true → Clo nx set D → Sub p D) → IsC nx set v p := by
    intro p hp hv hs hD
    refine ⟨hv, fun i j h1 h2 h3 => ?_, hD⟩
    have hsi := hs i h1
    rcases hE.of i j h2 with he | he
    · have := erd_fix hp _ he
      unfold er at this
      rw [if_pos ⟨hsi, h3, .inl h1⟩] at this
      rw [← this, tb_U, tb_B]; simp
    · have := erd_fix hp _ he
      unfold er at this
      rw [if_pos ⟨h3, hsi, .inr h1⟩] at this
      rw [← this, tb_U, tb_U, tb_B]; simp
  have stay : ∀ k p, erd set es p = p → erk set es k p = p := by
    intro k
    induction k with
    | zero => intro p _; rfl
    | succ k ih => intro p hp; unfold erk; rw [hp]; exact ih p hp
  intro k
  induction k with
  | zero =>
    intro p hp hs hk
    have := cnt_le hset hs
    omega
  | succ k ih =>
    intro p hp hs hk hv hD
    by_cases e : erd set es p = p
    · rw [stay _ _ e]; exact fix p e hv hs hD
    · unfold erk
      have hlt := erd_lt (set := set) hE.lt hp
      have hc := cnt_lt hlt erd_sub fun h => e h.symm
      have hs' : Sub (erd set es p) set := erd_D hE (fun _ _ _ _ h => h) (fun _ h => h) hs
      exact ih _ hlt hs' (by omega) (erd_sub v hv) fun D d1 d2 => erd_D hE d2 (fun _ h => h) (hD D d1 d2)
end
end Go.Abs

set_option linter.unusedVariables false
set_option linter.unusedSimpArgs false
namespace Go.Abs
open Rd (Cp IsL_one IsL_cells IsL_tail lowO_n)
/-- A tree's cells. -/
def tL (n : Nat) (nx : Nat → Nat) : List Int := (n : Int) :: (List.range 10).map fun i => ((nx i : Nat) : Int)
@[simp] theorem tL_len {n : Nat} {nx : Nat → Nat} : (tL n nx).length = 11 := by simp [tL]
def castL (l : List Nat) : List Int := l.map fun (i : Nat) => (i : Int)
@[simp] theorem castL_len {l : List Nat} : (castL l).length = l.length := by simp [castL]
def gN (l : List Nat) (i : Nat) : Nat := l.getD i 0
theorem gN_get {l : List Nat} {i : Nat} (h : i < l.length) : l[i]? = some (gN l i) := by simp [gN, h]
theorem gN_mem {l : List Nat} {i : Nat} (h : i < l.length) : gN l i ∈ l := List.mem_of_getElem? (gN_get h)
theorem gI_cast {l : List Nat} {i : Nat} (h : i < l.length) : gI (castL l) i = (gN l i : Nat) := by
  rw [gI_eq (by simpa using h)]
  simp [castL, gN, h]
theorem meI_cast (s : Nat) : meI s = castL (mem s) := rfl
theorem rnd_take {nx : Nat → Nat} {set o : Nat} {l : List Nat} {k : Nat} (h : k < l.length) : rnd nx set (l.take (k + 1)) o = sU (rnd nx set (l.take k) o) (sI (nx (gN l k)) set) := by
  unfold rnd
  rw [List.take_add_one, gN_get h]
  simp
theorem newL_V {rows : List Row} {l : List Int} : newL rows l = (nlV rows.length l, rows ++ nlK l, none) := newL_eq rows l
section
variable {rows : List Row} {nx : Nat → Nat} {n tid : Nat}
theorem reached_in {set o last : Nat} {R : List Row} {low : Nat} {lv : AV} {r : AV × List Row × Nat → Prop} (hg : GOK nx) (ht : row? R tid = some (nums .i64 (tL n nx))) (hset : set < 1024) (ho : o < 1024) (hl : IsL R lv (castL (mem o)))
    (hk : Lc70l2 F (.fn [.t 6]) (.ptr tid 0) (.int .i64 set) (.int .i64 (rnd nx set (mem o) o : Nat)) (.int .i64 o) R low r) : ∀ (d k : Nat), (mem o).length - k = d → k ≤ (mem o).length →
    Lc70l3 F (.fn [.t 6]) (.ptr tid 0) (.int .i64 set) (.int .i64 (rnd nx set ((mem o).take k) o : Nat)) (.int .i64 o) lv (.int .i64 (mem o).length) (.int .i64 k) R low r := by
  have hml := mem_len o ho
  intro d
  induction d with
  | zero =>
    intro k hd h1
    have e : (mem o).take k = mem o := List.take_of_length_le (by omega)
    rw [e]
    unfold Lc70l3
    simp [show ¬ (k < (mem o).length) by omega]
    exact hk
  | succ d ih =>
    intro k hd h1
    have hkl : k < (mem o).length := by omega
    have hi : gN (mem o) k < 10 := by
      have := gN_mem hkl
      unfold mem at this
      rw [List.mem_filter, List.mem_range] at this
      exact this.1
    have hp := rnd_lt (nx := nx) hset (l := (mem o).take k) ho fun i _ => hg.lt i
    have hn1 := hg.lt (gN (mem o) k)
    have hn2 := I_lt10 (b := set) hn1
    have w1 := w_and (a := nx (gN (mem o) k)) (b := set) (by omega) (by omega)
    have w2 := w_or (a := rnd nx set ((mem o).take k) o) (b := sI (nx (gN (mem o) k)) set) (by omega) (by omega)
    have w3 : IntKind.i64.wrap ((k : Int) + 1) = k + 1 := wrap64 (by omega) (by omega)
    have a1 : evP R (.idxS 1 (.c lv) (.c (.int .i64 k))) = some (.ptr (sid lv) (soff lv + k)) := by
      have := idxL0 hl (k := .i64) (i := (k : Int)) (by omega) (by simp; omega)
      rwa [Int.toNat_natCast] at this
    have a2 := loadL0 hl (j := k) (by simpa using hkl)
    rw [gI_cast hkl] at a2
    have a3 : (tL n nx)[1 + gN (mem o) k]? = some ((nx (gN (mem o) k) : Nat) : Int) := by
      rw [show 1 + gN (mem o) k = gN (mem o) k + 1 from by omega]
      simp [tL, hi]
    have := ih (k + 1) (by omega) (by omega)
    rw [rnd_take hkl] at this
    have hi2 : 1 + gN (mem o) k < 11 := by omega
    unfold Lc70l3
    simp (disch := first | omega | (simp; done) | fail) [hkl, a1, a2, hi, hi2, ht, a3, w1, w2, w3]
    simpa using this
theorem reached_loop (hgt : row? rows 1 = some (nums .u8 t64)) (hg : GOK nx) (ht : row? rows tid = some (nums .i64 (tL n nx))) {set : Nat} (hset : set < 1024) {v : Int} : ∀ (k o last : Nat) (H : List Row), o < 1024 → 11 ≤ k + cnt o → last ≠ o → (rch nx set k o : Nat) = v →
    Lc70l2 F (.fn [.t 6]) (.ptr tid 0) (.int .i64 set) (.int .i64 o) (.int .i64 last) (rows ++ H) rows.length (fun r => fin rows r.1 r.2.1 r.2.2 = (.int .i64 v, rows, none)) := by
  intro k
  induction k with
  | zero => intro o last H ho hk; have := cnt_10 o ho; omega
  | succ k ih =>
    intro o last H ho hk hne hv
    have hm := members_ret (rows := rows ++ H) (row?_old hgt H) ho
    rw [newL_V, meI_cast] at hm
    have hml := mem_len o ho
    have hlt := rnd_lt (nx := nx) hset (l := mem o) ho fun i _ => hg.lt i
    have hl : IsL (rows ++ H ++ nlK (castL (mem o))) (nlV (rows ++ H).length (castL (mem o))) (castL (mem o)) := by
      have := nlV_IsL (rows ++ H) (castL (mem o)) []
      rwa [List.append_nil] at this
    have hin := reached_in (last := last) (low := rows.length) (r := fun r => fin rows r.1 r.2.1 r.2.2 = (.int .i64 v, rows, none)) hg (row?_old (row?_old ht H) (nlK (castL (mem o)))) hset ho hl (by
      unfold rch at hv
      by_cases e : rnd nx set (mem o) o = o
      · rw [if_pos e] at hv
        rw [e]
        unfold Lc70l2
        simp [hv]
      · rw [if_neg e] at hv
        have hc := cnt_lt hlt rnd_sub fun h => e h.symm
        have := ih _ o (H ++ nlK (castL (mem o))) hlt (by omega) (fun h => e h.symm) hv
        rw [← List.append_assoc] at this
        exact this) _ 0 rfl (Nat.zero_le _)
    have hll := lenL0 hl
    unfold Lc70l2
    simp [hne, show ¬ (last : Int) = o by omega, hm, hll, -List.append_assoc, -List.length_append]
    simpa [rnd, -List.append_assoc, -List.length_append] using hin
/-- reached. -/
theorem reached_ret (hgt : row? rows 1 = some (nums .u8 t64)) (hg : GOK nx) (ht : row? rows tid = some (nums .i64 (tL n nx))) {set v : Nat} (hset : set < 1024) (hv : v < 10) : Ret F 70 [.ptr tid 0, .int .i64 v, .int .i64 set] rows = some (.int .i64 (cmp nx set v : Nat), rows, none) := by
  have hb := B_lt10 hv
  have h0 : 0 < sB v := Nat.pow_pos (by omega)
  have hl := reached_loop hgt hg ht hset (v := (cmp nx set v : Nat)) 11 (sB v) 0 [] hb (by omega) (by omega) rfl
  have w1 : IntKind.u64.wrap (v : Int) = v := wrapU64 (by omega) (by omega)
  have w2 := w_shl (i := v) (by omega)
  refine i70 F70 ?_
  simp [w1, w2, show ¬ (v : Int) < 0 by omega]
  simpa using hl
/-- all. -/
theorem all_ret (ht : row? rows tid = some (nums .i64 (tL n nx))) (hn : n ≤ 10) : Ret F 78 [.ptr tid 0] rows = some (.int .i64 (2 ^ n - 1 : Nat), rows, none) := by
  have w1 : IntKind.u64.wrap (n : Int) = n := wrapU64 (by omega) (by omega)
  have w2 := w_shl (i := n) (by omega)
  have hp : sB n ≤ 1024 := by
    have : ∀ n, n < 11 → sB n ≤ 1024 := by decide
    exact this n (by omega)
  have hp0 : 0 < sB n := Nat.pow_pos (by omega)
  have w3 : IntKind.i64.wrap ((sB n : Nat) - 1 : Int) = ((2 ^ n - 1 : Nat) : Int) := by
    rw [wrap64 (by omega) (by omega)]
    show ((sB n : Nat) : Int) - 1 = ((sB n - 1 : Nat) : Int)
    omega
  have e0 : ∀ h, (tL n nx)[0]'h = (n : Int) := fun _ => rfl
  refine i78 F78 ?_
  simp [ht, e0, w1, w2, w3, show ¬ (n : Int) < 0 by omega]
end
/-- Pairs as numbers. -/
def flat (es : List (Nat × Nat)) : List Int := es.flatMap fun p => [(p.1 : Int), (p.2 : Int)]
@[simp] theorem flat_len {es : List (Nat × Nat)} : (flat es).length = es.length * 2 := by
  induction es with
  | nil => rfl
  | cons e es ih =>
    have : flat (e :: es) = (e.1 : Int) :: (e.2 : Int) :: flat es := rfl
    rw [this]
    simp [ih]
    omega
def gP (es : List (Nat × Nat)) (i : Nat) : Nat × Nat := es.getD i (0, 0)
theorem gP_get {es : List (Nat × Nat)} {i : Nat} (h : i < es.length) : es[i]? = some (gP es i) := by simp [gP, h]
theorem gP_mem {es : List (Nat × Nat)} {i : Nat} (h : i < es.length) : gP es i ∈ es := List.mem_of_getElem? (gP_get h)
theorem flat_get : ∀ {es : List (Nat × Nat)} {i : Nat}, i < es.length → (flat es)[i * 2]? = some ((gP es i).1 : Int) ∧ (flat es)[i * 2 + 1]? = some ((gP es i).2 : Int)
  | [], i, h => by simp at h
  | e :: es, 0, _ => ⟨rfl, rfl⟩
  | e :: es, i + 1, h => by
    have ih := flat_get (es := es) (i := i) (by simpa using h)
    have : flat (e :: es) = (e.1 : Int) :: (e.2 : Int) :: flat es := rfl
    rw [this, show (i + 1) * 2 = i * 2 + 1 + 1 from by omega, show i * 2 + 1 + 1 + 1 = (i * 2 + 1) + 1 + 1 from by omega, List.getElem?_cons_succ, List.getElem?_cons_succ, List.getElem?_cons_succ, List.getElem?_cons_succ]
    have e2 : gP (e :: es) (i + 1) = gP es i := by simp [gP]
    rw [e2]
    exact ih
/-- A slice of pairs. -/
def IsP (rows : List Row) (v : AV) (es : List (Nat × Nat)) : Prop := El rows 2 v (nums .i64 (flat es)) es.length
section
variable {rows : List Row} {v : AV} {es : List (Nat × Nat)}
theorem IsP_app (h : IsP rows v es) (L : List Row) : IsP (rows ++ L) v es := El_app h L
theorem lenP (h : IsP rows v es) : evP rows (.len 0 (.c v)) = some (.int .i64 es.length) := evP_lenE h
theorem idxP (h : IsP rows v es) {i : Nat} (hi : i < es.length) : evP rows (.idxS 2 (.c v) (.c (.int .i64 i))) = some (.ptr (sid v) (soff v + i * 2)) := by
  have := evP_idxE h (k := .i64) (i := (i : Int)) (by omega) (by omega)
  rwa [Int.toNat_natCast] at this
theorem ldP0 (h : IsP rows v es) {i : Nat} (hi : i < es.length) : evP rows (.load1 (.c (.ptr (sid v) (soff v + i * 2)))) = some (.int .i64 (gP es i).1) := by
  rw [evP_loadE h (by simp; omega), nums_get, (flat_get hi).1]; rfl
theorem ldP1 (h : IsP rows v es) {i : Nat} (hi : i < es.length) : evP rows (.load1 (.c (.ptr (sid v) (soff v + i * 2 + 1)))) = some (.int .i64 (gP es i).2) := by
  rw [show soff v + i * 2 + 1 = soff v + (i * 2 + 1) from by omega, evP_loadE h (by simp; omega), nums_get, (flat_get hi).2]; rfl
end
end Go.Abs

set_option linter.unusedVariables false
set_option linter.unusedSimpArgs false
namespace Go.Abs
open Rd (Cp IsL_one IsL_cells IsL_tail lowO_n)
def sR (s i : Nat) : Nat := s / 2 ^ i
def sM (s i : Nat) : Nat := s / 2 ^ i % 2
theorem w_shr {s i : Nat} (hi : i ≤ 64) : (s : Int).fdiv (2 ^ min i IntKind.i64.bits) = ((sR s i : Nat) : Int) := by
  have e : min i IntKind.i64.bits = i := Nat.min_eq_left hi
  rw [e]
  have := Int.ofNat_fdiv s (2 ^ i)
  rw [show ((2 ^ i : Nat) : Int) = 2 ^ i from by simp] at this
  exact this.symm
theorem w_tm {s i : Nat} : ((sR s i : Nat) : Int).tmod 2 = ((sM s i : Nat) : Int) := rfl
theorem tb_div {s i : Nat} : sM s i = if s.testBit i = true then 1 else 0 := by
  unfold sM
  rw [Nat.testBit_eq_decide_div_mod_eq]
  by_cases h : s / 2 ^ i % 2 = 1
  · simp [h]
  · have : s / 2 ^ i % 2 = 0 := by omega
    simp [this]
theorem erd_take {set p i : Nat} {es : List (Nat × Nat)} (h : i < es.length) : erd set (es.take (i + 1)) p = er set (erd set (es.take i) p) (gP es i) := by
  unfold erd
  rw [List.take_add_one, gP_get h]
  simp
theorem tz_eq {s v : Nat} (hs : s < 1024) (hv : s.testBit v = true) (hlow : ∀ i, i < v → s.testBit i = false) : tz s = v := by
  obtain ⟨t1, t2, t3⟩ := tz_lt s hs (ne0_of_tb hv)
  rcases Nat.lt_trichotomy (tz s) v with h | h | h
  · rw [hlow _ h] at t2; cases t2
  · exact h
  · rw [t3 _ h] at hv; cases hv
section
variable {rows : List Row} {nx : Nat → Nat} {n : Nat} {es : List (Nat × Nat)} {ev : AV}
set_option maxHeartbeats 2000000 in
theorem rparts_e {R : List Row} {low set p0 v rd : Nat} {ov : AV} {r : AV × List Row × Nat → Prop} (hE : Edg nx es) (he : IsP R ev es) (hl : es.length ≤ 1000) (hset : set < 1024) (hp0 : p0 < 1024) (hrd : rd ≤ 100)
    (hk : Lc71l7 F (.fn [.t 6]) (.int .i64 n) ev (.int .i64 set) ov (.int .i64 v) (.int .i64 (erd set es p0 : Nat)) (.int .i64 ((rd : Int) + 1)) R low r) : ∀ (d e : Nat), es.length - e = d → e ≤ es.length →
    Lc71l9 F (.fn [.t 6]) (.int .i64 n) ev (.int .i64 set) ov (.int .i64 v) (.int .i64 (erd set (es.take e) p0 : Nat)) (.int .i64 rd) (.int .i64 e) R low r := by
  have w0 : IntKind.i64.wrap ((rd : Int) + 1) = rd + 1 := wrap64 (by omega) (by omega)
  intro d
  induction d with
  | zero =>
    intro e hd h1
    have e1 : es.take e = es := List.take_of_length_le (by omega)
    rw [e1]
    unfold Lc71l9
    simp [lenP he, show ¬ (e < es.length) by omega, w0]
    exact hk
  | succ d ih =>
    intro e hd h1
    have hel : e < es.length := by omega
    have hm := hE.lt _ (gP_mem hel)
    have hp := erd_lt (set := set) (es := es.take e) (fun x hx => hE.lt x (List.mem_of_mem_take hx)) hp0
    have := ih (e + 1) (by omega) (by omega)
    rw [erd_take hel] at this
    generalize erd set (es.take e) p0 = p at *
    have g0 := idxP he hel
    have g1 := ldP0 he hel
    have g2 := ldP1 he hel
    generalize gP es e = q at *
    obtain ⟨a, b⟩ := q
    simp only at hm g1 g2
    have ba := B_lt10 hm.1
    have bb := B_lt10 hm.2
    have bu := U_lt10 ba bb
    have bp := U_lt10 hp ba
    have s1 := w_shl (i := a) (by omega)
    have s2 := w_shl (i := b) (by omega)
    have w1 := w_and (a := set) (b := sB a) (by omega) (by omega)
    have w2 := w_and (a := set) (b := sB b) (by omega) (by omega)
    have w3 := w_or (a := sB a) (b := sB b) (by omega) (by omega)
    have w4 := w_and (a := p) (b := sU (sB a) (sB b)) (by omega) (by omega)
    have w5 := w_or (a := p) (b := sB a) (by omega) (by omega)
    have w6 := w_or (a := sU p (sB a)) (b := sB b) (by omega) (by omega)
    have w7 : IntKind.i64.wrap ((e : Int) + 1) = e + 1 := wrap64 (by omega) (by omega)
    have hpu : sI p (sU (sB a) (sB b)) = 0 ↔ (p.testBit a = false ∧ p.testBit b = false) := by
      constructor
      · intro h
        have h2 : ∀ i, (sI p (sU (sB a) (sB b))).testBit i = false := fun i => by rw [h]; simp
        have ha := h2 a
        have hb := h2 b
        rw [tb_I, tb_U, tb_B, tb_B] at ha hb
        simp at ha hb
        exact ⟨ha, hb⟩
      · rintro ⟨ha, hb⟩
        apply nat_ext
        intro i
        rw [tb_I, tb_U, tb_B, tb_B]
        by_cases e1 : a = i
        · subst e1; simp [ha]
        · by_cases e2 : b = i
          · subst e2; simp [hb]
          · simp [e1, e2]
    unfold er at this
    unfold Lc71l9
    by_cases h1 : set.testBit a = true
    · have n1 : ¬ sI set (sB a) = 0 := by rw [I_B, h1]; simp
      by_cases h2 : set.testBit b = true
      · have n2 : ¬ sI set (sB b) = 0 := by rw [I_B, h2]; simp
        by_cases h3 : p.testBit a = true ∨ p.testBit b = true
        · have n3 : ¬ sI p (sU (sB a) (sB b)) = 0 := by
            rw [hpu]
            rintro ⟨x, y⟩
            rcases h3 with h3 | h3
            · rw [x] at h3; cases h3
            · rw [y] at h3; cases h3
          rw [if_pos ⟨h1, h2, h3⟩] at this
          simp [lenP he, hel, g0, g1, g2, s1, s2, w1, w2, w3, w4, w5, w6, w7, n1, n2, n3]
          simpa using this
        · have n3 : sI p (sU (sB a) (sB b)) = 0 := by
            rw [hpu]
            constructor
            · cases hx : p.testBit a with
              | false => rfl
              | true => exact absurd (.inl hx) h3
            · cases hx : p.testBit b with
              | false => rfl
              | true => exact absurd (.inr hx) h3
          rw [if_neg (fun h => h3 h.2.2)] at this
          simp [lenP he, hel, g0, g1, g2, s1, s2, w1, w2, w3, w4, w7, n1, n2, n3]
          simpa using this
      · have n2 : sI set (sB b) = 0 := by rw [I_B]; simpa using h2
        rw [if_neg (fun h => h2 h.2.1)] at this
        simp [lenP he, hel, g0, g1, g2, s1, s2, w1, w2, w7, n1, n2]
        simpa using this
    · have n1 : sI set (sB a) = 0 := by rw [I_B]; simpa using h1
      rw [if_neg (fun h => h1 h.1)] at this
      simp [lenP he, hel, g0, g1, g2, s1, s2, w1, w7, n1]
      simpa using this
theorem rparts_r {H : List Row} {acc : List Int} {set v : Nat} {r : AV × List Row × Nat → Prop} (hE : Edg nx es) (he : IsP rows ev es) (hl : es.length ≤ 1000) (hset : set < 1024) (hn : n ≤ 10) (hv : v ≤ 100) (ha : acc.length ≤ 1000) {own : Nat} (ho : own < 1024)
    (hk : ∀ H', Lc71l2 F (.fn [.t 6]) (.int .i64 n) ev (.int .i64 (sD set own : Nat)) (accV rows H' (acc ++ [(own : Int)])) (.int .i64 ((v : Int) + 1)) (rows ++ accR H' (acc ++ [(own : Int)])) rows.length r) : ∀ (d rd p : Nat), n - rd = d → rd ≤ n → p < 1024 → erk set es (n - rd) p = own →
    Lc71l7 F (.fn [.t 6]) (.int .i64 n) ev (.int .i64 set) (accV rows H acc) (.int .i64 v) (.int .i64 p) (.int .i64 rd) (rows ++ accR H acc) rows.length r := by
  intro d
  induction d with
  | zero =>
    intro rd p hd h1 hp hown
    rw [hd] at hown
    have hown : p = own := hown
    subst hown
    obtain ⟨H', hap⟩ := acc_app (rows := rows) (H := H) (l := acc) (x := (p : Int)) (by omega)
    have w1 := w_andNot (a := set) (b := p) (by omega) (by omega)
    have w2 : IntKind.i64.wrap ((v : Int) + 1) = v + 1 := wrap64 (by omega) (by omega)
    have := hk H'
    unfold Lc71l7
    simp [show ¬ (rd < n) by omega, fillA, splice, hap, w1, w2]
    exact this
  | succ d ih =>
    intro rd p hd h1 hp hown
    have hrd : rd < n := by omega
    rw [show n - rd = (n - (rd + 1)) + 1 from by omega] at hown
    have := rparts_e (low := rows.length) (ov := accV rows H acc) (v := v) (rd := rd) (r := r) (n := n) hE (IsP_app he (accR H acc)) hl hset hp (by omega) (by
      have := ih (rd + 1) (erd set es p) (by omega) (by omega) (erd_lt hE.lt hp) hown
      simpa using this) _ 0 rfl (Nat.zero_le _)
    unfold Lc71l7
    simp [hrd]
    simpa [erd] using this
theorem rparts_v (hg : GOK nx) (hE : Edg nx es) (he : IsP rows ev es) (hl : es.length ≤ 1000) (hn : n ≤ 10) : ∀ (d v set k : Nat) (acc : List Int) (H : List Row), n - v = d → v ≤ n → set < 2 ^ n → (∀ i, i < v → set.testBit i = false) → cnt set ≤ k → acc.length + k ≤ 100 →
    Lc71l2 F (.fn [.t 6]) (.int .i64 n) ev (.int .i64 set) (accV rows H acc) (.int .i64 v) (rows ++ accR H acc) rows.length (fun r => fin rows r.1 r.2.1 r.2.2 = newL rows (acc ++ castL (PT nx k set))) := by
  have h1024 : ∀ s, s < 2 ^ n → s < 1024 := fun s h => Nat.lt_of_lt_of_le h (show 2 ^ n ≤ 2 ^ 10 from Nat.pow_le_pow_right (by omega) hn)
  intro d
  induction d with
  | zero =>
    intro v set k acc H hd h1 hs hlow hc ha
    have hvn : v = n := by omega
    have h0 : set = 0 := by
      apply nat_ext
      intro i
      rw [Nat.zero_testBit]
      rcases Nat.lt_or_ge i n with hi | hi
      · exact hlow i (by omega)
      · exact tb_n hs hi
    subst h0
    have e : acc ++ castL (PT nx k 0) = acc := by cases k <;> simp [PT, castL]
    rw [e]
    unfold Lc71l2
    simp [hvn]
    exact acc_fin
  | succ d ih =>
    intro v set k acc H hd h1 hs hlow hc ha
    have hvn : v < n := by omega
    have hset := h1024 set hs
    have w1 := w_shr (s := set) (i := v) (by omega)
    have w2 : IntKind.i64.wrap ((v : Int) + 1) = v + 1 := wrap64 (by omega) (by omega)
    have w3 := w_shl (i := v) (by omega)
    have hbit := tb_div (s := set) (i := v)
    by_cases hv : set.testBit v = true
    · rw [if_pos hv] at hbit
      have hvz := tz_eq hset hv hlow
      have hpos := ne0_of_tb hv
      obtain ⟨p1, p2, p3, p4⟩ := part_first hg hset hpos
      rw [hvz] at p1 p2 p3 p4
      have hcn := cnt_n set hset n (by omega) hs
      have hek := erk_ok (nx := nx) hE hset (v := v) n (sB v) (B_lt10 (by omega)) (B_sub hv) (by rw [cnt_B v (by omega)]; omega) (by rw [tb_B]; simp) (fun D d1 _ => B_sub d1)
      have hown := hek.unique p1
      obtain ⟨k', rfl⟩ : ∃ k', k = k' + 1 := ⟨k - 1, by have := cnt_pos hset hpos; omega⟩
      have hPT : castL (PT nx (k' + 1) set) = ((cmp nx set v : Nat) : Int) :: castL (PT nx k' (sD set (cmp nx set v))) := by
        conv => lhs; unfold PT
        rw [if_neg (by omega), hvz]
        rfl
      rw [hPT]
      have hr := rparts_r (H := H) (acc := acc) (v := v) (r := fun r => fin rows r.1 r.2.1 r.2.2 = newL rows (acc ++ ((cmp nx set v : Nat) : Int) :: castL (PT nx k' (sD set (cmp nx set v))))) hE he hl hset hn (by omega) (by omega) p2 (fun H' => by
        have hlow' : ∀ i, i < v + 1 → (sD set (cmp nx set v)).testBit i = false := by
          intro i hi
          rw [tb_D]
          by_cases e : i = v
          · subst e; rw [p1.at_]; simp
          · rw [hlow i (by omega)]; rfl
        have := ih (v + 1) (sD set (cmp nx set v)) k' (acc ++ [((cmp nx set v : Nat) : Int)]) H' (by omega) (by omega) (D_lt hs) hlow' (by omega) (by simp; omega)
        simpa using this) _ 0 (sB v) rfl (Nat.zero_le _) (B_lt10 (by omega)) hown
      unfold Lc71l2
      simp [hvn, w1, w_tm, hbit, w3]
      simpa using hr
    · rw [if_neg hv] at hbit
      have hv' : set.testBit v = false := by simpa using hv
      have := ih (v + 1) set k acc H (by omega) (by omega) hs (fun i hi => by
        by_cases e : i = v
        · rw [e]; exact hv'
        · exact hlow i (by omega)) hc ha
      unfold Lc71l2
      simp [hvn, w1, w_tm, hbit, w2]
      simpa using this
/-- R.Parts. -/
theorem rparts_ret (hg : GOK nx) (hE : Edg nx es) (he : IsP rows ev es) (hl : es.length ≤ 1000) (hn : n ≤ 10) {set : Nat} (hs : set < 2 ^ n) : Ret F 71 [.int .i64 n, ev, .int .i64 set] rows = some (newL rows (castL (PT nx 10 set))) := by
  have hset : set < 1024 := Nat.lt_of_lt_of_le hs (show 2 ^ n ≤ 2 ^ 10 from Nat.pow_le_pow_right (by omega) hn)
  have := rparts_v hg hE he hl hn _ 0 set 10 [] [] rfl (Nat.zero_le _) hs (fun i hi => by omega) (cnt_10 _ hset) (by simp)
  refine i71 F71 ?_
  simp
  simpa [accV, accR] using this
end
end Go.Abs

set_option linter.unusedVariables false
set_option linter.unusedSimpArgs false
namespace Go.Abs
open Rd (Cp IsL_one IsL_cells IsL_tail lowO_n)
section
variable {nx : Nat → Nat} {n : Nat}
/-- The worst of some parts. -/
def Wd (f : Nat → Nat) (ps : List Nat) : Nat := ps.foldl (fun o p => max o (f p)) 0
def Lk (n : Nat) (nx : Nat → Nat) : Nat → Nat → Nat
  | 0, _ => 0
  | k + 1, s => if sI s (s - 1) = 0 then 0 else (mem s).foldl (fun o i => min o (Wd (Lk n nx k) (PT nx 10 (sD s (sB i))) + 1)) n
/-- The least number of looks. -/
def LL (n : Nat) (nx : Nat → Nat) (s : Nat) : Nat := Lk n nx 10 s
/-- What a map knows is right. -/
def MapOK (n : Nat) (nx : Nat → Nat) (es : List (AV × AV)) : Prop := ∀ e ∈ es, ∃ s : Nat, s < 1024 ∧ e = (.int .i64 s, .int .i64 (LL n nx s : Nat))
end
end Go.Abs

set_option linter.unusedVariables false
set_option linter.unusedSimpArgs false
namespace Go.Abs
open Rd (Cp IsL_one IsL_cells IsL_tail lowO_n)
/-- A map that knows what is right, and nothing behind it leads astray. -/
structure MM (n : Nat) (nx : Nat → Nat) (mid : Nat) (R : List Row) (es : List (AV × AV)) : Prop where
  mp : R[mid]? = some (.mp es)
  ok : MapOK n nx es
  un : ∀ y ∈ R.drop mid, y.under R.length = true
section
variable {n mid : Nat} {nx : Nat → Nat} {R : List Row} {es es' : List (AV × AV)}
theorem MM.lt (h : MM n nx mid R es) : mid < R.length := rows_lt h.mp
theorem map_under (h : MapOK n nx es) (b : Nat) : (Row.mp es).under b = true := by
  simp only [Row.under, List.all_eq_true]
  intro e he
  obtain ⟨s, _, rfl⟩ := h e he
  simp [AV.under]
theorem MM.set (h : MM n nx mid R es) (h' : MapOK n nx es') : MM n nx mid (R.set mid (.mp es')) es' := by
  refine ⟨by rw [List.getElem?_set_self h.lt], h', fun y hy => ?_⟩
  rw [List.length_set]
  rw [List.drop_set, if_neg (by omega), Nat.sub_self] at hy
  rcases List.mem_or_eq_of_mem_set hy with hy | rfl
  · exact h.un y hy
  · exact map_under h' _
theorem MM.app (h : MM n nx mid R es) {L : List Row} (hL : Und R L) : MM n nx mid (R ++ L) es := by
  refine ⟨rows_old h.mp L, h.ok, fun y hy => ?_⟩
  rw [List.drop_append_of_le_length (Nat.le_of_lt h.lt)] at hy
  rw [List.length_append]
  rcases List.mem_append.1 hy with hy | hy
  · exact und_mono (h.un y hy) (by omega)
  · exact hL y hy
theorem row?_mp (h : MM n nx mid R es) {i : Nat} {vs : List AV} (hr : row? R i = some vs) (x : Row) : row? (R.set mid x) i = some vs := by
  have : i ≠ mid := by
    rintro rfl
    unfold row? at hr
    rw [h.mp] at hr
    simp at hr
  rw [row?_ne this]; exact hr
end
theorem single : ∀ s : Nat, s < 1024 → 0 < s → (cnt s = 1 ↔ sI s (s - 1) = 0) := by decide +kernel
/-- What looks rest on. -/
structure LE (n : Nat) (nx : Nat → Nat) (tid xid mid : Nat) (R : List Row) (es : List (AV × AV)) : Prop where
  gt : row? R 1 = some (nums .u8 t64)
  tr : row? R tid = some (nums .i64 (tL n nx))
  st : row? R xid = some [.ptr tid 0, .map mid]
  mm : MM n nx mid R es
section
variable {n tid xid mid : Nat} {nx : Nat → Nat} {R : List Row} {es es' : List (AV × AV)}
theorem LE.set (h : LE n nx tid xid mid R es) (h' : MapOK n nx es') : LE n nx tid xid mid (R.set mid (.mp es')) es' := ⟨row?_mp h.mm h.gt _, row?_mp h.mm h.tr _, row?_mp h.mm h.st _, h.mm.set h'⟩
theorem LE.app (h : LE n nx tid xid mid R es) {L : List Row} (hL : Und R L) : LE n nx tid xid mid (R ++ L) es := ⟨row?_old h.gt L, row?_old h.tr L, row?_old h.st L, h.mm.app hL⟩
end
end Go.Abs

set_option linter.unusedVariables false
set_option linter.unusedSimpArgs false
namespace Go.Abs
open Rd (Cp IsL_one IsL_cells IsL_tail lowO_n)
section
variable {rows : List Row}
theorem isnan_ret {a : Int} : Ret F 102 [.int .i64 a] rows = some (.bool false, rows, none) := by
  refine i102 F102 ?_
  simp
theorem compare_ret {a b : Int} : Ret F 99 [.int .i64 a, .int .i64 b] rows = some (.int .i64 (if a < b then -1 else if b < a then 1 else 0), rows, none) := by
  refine i99 F99 ?_
  by_cases h1 : a < b
  · simp [isnan_ret, h1]
  · by_cases h2 : b < a
    · simp [isnan_ret, h1, h2]
    · simp [isnan_ret, h1, h2]
/-- The order of pairs. -/
def cmp2 (a b c d : Int) : Int := if a < c then -1 else if c < a then 1 else if b < d then -1 else if d < b then 1 else 0
theorem compare2_ret {v w : AV} {a b c d : Int} (hv : IsL rows v [a, b]) (hw : IsL rows w [c, d]) : Ret F 91 [v, w] rows = some (.int .i64 (cmp2 a b c d), rows, none) := by
  have l1 := lenL0 hv
  have l2 := lenL0 hw
  have i1 := idxL0 hv (k := .i64) (i := 0) (by omega) (by simp)
  have i2 := idxL0 hv (k := .i64) (i := 1) (by omega) (by simp)
  have j1 := idxL0 hw (k := .i64) (i := 0) (by omega) (by simp)
  have j2 := idxL0 hw (k := .i64) (i := 1) (by omega) (by simp)
  have a1 := loadL0 hv (j := 0) (by simp)
  have a2 := loadL0 hv (j := 1) (by simp)
  have b1 := loadL0 hw (j := 0) (by simp)
  have b2 := loadL0 hw (j := 1) (by simp)
  simp [gI] at l1 l2 i1 i2 j1 j2 a1 a2 b1 b2
  have w1 : IntKind.i64.wrap 1 = 1 := wrap64 (by omega) (by omega)
  have w2 : IntKind.i64.wrap 2 = 2 := wrap64 (by omega) (by omega)
  refine i91 F91 ?_
  unfold cmp2
  by_cases h1 : a < c
  · simp [l1, l2]
    unfold Lc91l6
    simp [l1, l2, i1, i2, j1, j2, a1, a2, b1, b2, compare_ret, h1]
  · by_cases h2 : c < a
    · simp [l1, l2]
      unfold Lc91l6
      simp [l1, l2, i1, i2, j1, j2, a1, a2, b1, b2, compare_ret, h1, h2]
    · by_cases h3 : b < d
      · simp [l1, l2]
        unfold Lc91l6
        simp [l1, l2, i1, i2, j1, j2, a1, a2, b1, b2, compare_ret, h1, h2, w1]
        unfold Lc91l6
        simp [l1, l2, i1, i2, j1, j2, a1, a2, b1, b2, compare_ret, h1, h2, h3, w1]
      · by_cases h4 : d < b
        · simp [l1, l2]
          unfold Lc91l6
          simp [l1, l2, i1, i2, j1, j2, a1, a2, b1, b2, compare_ret, h1, h2, w1]
          unfold Lc91l6
          simp [l1, l2, i1, i2, j1, j2, a1, a2, b1, b2, compare_ret, h1, h2, h3, h4, w1]
        · simp [l1, l2]
          unfold Lc91l6
          simp [l1, l2, i1, i2, j1, j2, a1, a2, b1, b2, compare_ret, h1, h2, w1]
          unfold Lc91l6
          simp [l1, l2, i1, i2, j1, j2, a1, a2, b1, b2, compare_ret, h1, h2, h3, h4, w1, w2]
          unfold Lc91l6
          simp [l1, l2]
end
def eA (fl : List Int) (i : Nat) : Int := gI fl (i * 2)
def eB (fl : List Int) (i : Nat) : Int := gI fl (i * 2 + 1)
/-- An edge that is right, behind the one before it. -/
def VE (fl : List Int) (n i : Nat) : Prop := 0 ≤ eA fl i ∧ eA fl i < eB fl i ∧ eB fl i < n ∧ (0 < i → cmp2 (eA fl (i - 1)) (eB fl (i - 1)) (eA fl i) (eB fl i) < 0)
def addE (f : Nat → Nat) (a b : Nat) : Nat → Nat := fun v => if v = b then sU (f b) (sB a) else if v = a then sU (f a) (sB b) else f v
def nxI (fl : List Int) : Nat → Nat → Nat
  | 0 => fun _ => 0
  | i + 1 => addE (nxI fl i) (eA fl i).toNat (eB fl i).toNat
theorem nxI_lt {fl : List Int} {n : Nat} (hn : n ≤ 10) : ∀ (i : Nat), (∀ j, j < i → VE fl n j) → ∀ v, nxI fl i v < 1024
  | 0, _, v => by simp [nxI]
  | i + 1, h, v => by
    have ih := nxI_lt hn i fun j hj => h j (by omega)
    obtain ⟨h1, h2, h3, _⟩ := h i (by omega)
    unfold nxI addE
    split
    · exact U_lt10 (ih _) (B_lt10 (by omega))
    · split
      · exact U_lt10 (ih _) (B_lt10 (by omega))
      · exact ih v
theorem nxI_tb {fl : List Int} {n : Nat} : ∀ (i : Nat), (∀ j, j < i → VE fl n j) → ∀ v w, (nxI fl i v).testBit w = true ↔ ∃ j, j < i ∧ (((eA fl j).toNat = v ∧ (eB fl j).toNat = w) ∨ ((eB fl j).toNat = v ∧ (eA fl j).toNat = w))
  | 0, _, v, w => by simp [nxI]
  | i + 1, h, v, w => by
    have ih := nxI_tb i fun j hj => h j (by omega)
    obtain ⟨h1, h2, h3, _⟩ := h i (by omega)
    have hx : (nxI fl (i + 1) v).testBit w = true ↔ (nxI fl i v).testBit w = true ∨ (((eA fl i).toNat = v ∧ (eB fl i).toNat = w) ∨ ((eB fl i).toNat = v ∧ (eA fl i).toNat = w)) := by
      show (addE (nxI fl i) (eA fl i).toNat (eB fl i).toNat v).testBit w = true ↔ _
      unfold addE
      by_cases e1 : v = (eB fl i).toNat
      · subst e1
        rw [if_pos rfl, tb_U, tb_B]
        have : ¬ (eA fl i).toNat = (eB fl i).toNat := by omega
        simp [this]
      · rw [if_neg e1]
        by_cases e2 : v = (eA fl i).toNat
        · subst e2
          rw [if_pos rfl, tb_U, tb_B]
          have : ¬ (eB fl i).toNat = (eA fl i).toNat := by omega
          simp [this]
        · rw [if_neg e2]
          have e1' : ¬ (eB fl i).toNat = v := fun e => e1 e.symm
          have e2' : ¬ (eA fl i).toNat = v := fun e => e2 e.symm
          simp [e1', e2']
    rw [hx, ih]
    constructor
    · rintro (⟨j, hj, h⟩ | h)
      · exact ⟨j, by omega, h⟩
      · exact ⟨i, by omega, h⟩
    · rintro ⟨j, hj, h⟩
      by_cases e : j = i
      · rw [e] at h; exact .inr h
      · exact .inl ⟨j, by omega, h⟩
theorem nxI_ok {fl : List Int} {n i : Nat} (hn : n ≤ 10) (h : ∀ j, j < i → VE fl n j) : GOK (nxI fl i) := by
  refine ⟨nxI_lt hn i h, fun v w => ?_⟩
  have h1 := nxI_tb i h v w
  have h2 := nxI_tb i h w v
  have : (nxI fl i v).testBit w = true ↔ (nxI fl i w).testBit v = true := by
    rw [h1, h2]
    constructor <;> (rintro ⟨j, hj, h | h⟩ <;> exact ⟨j, hj, by simp [h]⟩)
  cases hx : (nxI fl i v).testBit w <;> cases hy : (nxI fl i w).testBit v <;> simp_all
theorem tL_set {n a x : Nat} {f : Nat → Nat} (ha : a < 10) : (tL n f).set (1 + a) (x : Int) = tL n fun v => if v = a then x else f v := by
  unfold tL
  rw [show 1 + a = a + 1 from by omega, List.set_cons_succ]
  congr 1
  apply List.ext_getElem?
  intro j
  rw [List.getElem?_set, List.getElem?_map, List.getElem?_map]
  by_cases hj : j < 10
  · rw [List.getElem?_range hj]
    by_cases e : a = j
    · subst e; simp [ha]
    · have : ¬ j = a := fun x => e x.symm
      simp [e, this]
  · rw [List.getElem?_eq_none (by simp; omega)]
    by_cases e : a = j
    · omega
    · simp [e]
theorem tL_get {n i : Nat} {nx : Nat → Nat} (h : i < 10) : (tL n nx)[1 + i]? = some ((nx i : Nat) : Int) := by
  rw [show 1 + i = i + 1 from by omega]
  simp [tL, h]
theorem tL_getE {n i : Nat} {nx : Nat → Nat} (h : i < 10) : ∀ hh, (tL n nx)[1 + i]'hh = ((nx i : Nat) : Int) := fun hh => Option.some.inj ((List.getElem?_eq_getElem hh).symm.trans (tL_get h))
section
variable {rows : List Row} {ev : AV} {fl : List Int} {m n : Nat}
theorem idxF (h : El rows 2 ev (nums .i64 fl) m) {i : Nat} (hi : i < m) : evP rows (.idxS 2 (.c ev) (.c (.int .i64 i))) = some (.ptr (sid ev) (soff ev + i * 2)) := by
  have := evP_idxE h (k := .i64) (i := (i : Int)) (by omega) (by omega)
  rwa [Int.toNat_natCast] at this
theorem seg2 {l : List AV} {i : Nat} {x y : AV} (hx : l[i]? = some x) (hy : l[i + 1]? = some y) : seg l i 2 = some [x, y] := by
  have h1 := (List.getElem?_eq_some_iff.1 hy).1
  unfold seg
  rw [if_pos (by omega)]
  congr 1
  apply List.ext_getElem?
  intro j
  rw [List.getElem?_take, List.getElem?_drop]
  match j with
  | 0 => rw [if_pos (by omega), Nat.add_zero, hx]; rfl
  | 1 => rw [if_pos (by omega), hy]; rfl
  | j + 2 => rw [if_neg (by omega)]; simp
theorem ldF (h : El rows 2 ev (nums .i64 fl) m) (hm : fl.length = m * 2) {i : Nat} (hi : i < m) : evP rows (.loadN 2 (.c (.ptr (sid ev) (soff ev + i * 2)))) = some (.agg [.int .i64 (eA fl i), .int .i64 (eB fl i)]) := by
  rw [evP_loadNE h (by simp; omega) (by omega), seg2 (x := .int .i64 (eA fl i)) (y := .int .i64 (eB fl i)) (by rw [nums_get, gI_get (by omega)]; rfl) (by rw [nums_get, gI_get (by omega)]; rfl)]
  rfl
theorem IsL_F (h : El rows 2 ev (nums .i64 fl) m) (hm : fl.length = m * 2) {i : Nat} (hi : i < m) : IsL rows (.slice (sid ev) (soff ev + i * 2) 2 (.at_ 2)) [eA fl i, eB fl i] := by
  rcases El_cases h with ⟨_, _, h0⟩ | ⟨id, off, c, vs, rfl, hr, hs⟩
  · omega
  · have h2 := seg_seg hs (j := i * 2) (m := 2) (by omega)
    have h3 := seg2 (l := nums .i64 fl) (i := i * 2) (x := .int .i64 (eA fl i)) (y := .int .i64 (eB fl i)) (by rw [nums_get, gI_get (by omega)]; rfl) (by rw [nums_get, gI_get (by omega)]; rfl)
    rw [h3] at h2
    exact IsL_mk (n := 0) (l := [eA fl i, eB fl i]) hr (by simpa [nums] using h2)
/-- All edges are right, and the tree is connected. -/
def TreeV (fl : List Int) (m n : Nat) : Prop := (∀ j, j < m → VE fl n j) ∧ cmp (nxI fl m) (2 ^ n - 1) 0 = 2 ^ n - 1
set_option maxHeartbeats 8000000 in
theorem ot_loop {X0 : Row} (hgt : row? rows 1 = some (nums .u8 t64)) (he : El rows 2 ev (nums .i64 fl) m) (hm : fl.length = m * 2) (hn0 : 1 ≤ n) (hn : n ≤ 10) (hmn : m ≤ 10) : ∀ (d i : Nat) (H : List Row), m - i = d → i ≤ m → (∀ j, j < i → VE fl n j) →
    Lc68l6 F (.fn [.t 4, .t 5]) (.int .i64 n) ev (.ptr (rows.length + 1) 0) ev (.int .i64 m) (.int .i64 i) (rows ++ X0 :: .cells (nums .i64 (tL n (nxI fl i))) :: H) rows.length (fun r => (TreeV fl m n → fin rows r.1 r.2.1 r.2.2 = (.tup [.ptr rows.length 0, .int .i64 0], rows ++ [.cells (nums .i64 (tL n (nxI fl m)))], none)) ∧ (¬ TreeV fl m n → fin rows r.1 r.2.1 r.2.2 = (.tup [.nilptr, .int .i64 81], rows, none))) := by
  have hp : 2 ^ n - 1 < 1024 ∧ 0 < 2 ^ n := by
    have : ∀ n, n < 11 → 2 ^ n - 1 < 1024 ∧ 0 < 2 ^ n := by decide
    exact this n (by omega)
  intro d
  induction d with
  | zero =>
    intro i H hd h1 hV
    have hi : i = m := by omega
    subst hi
    have hg := nxI_ok hn hV
    have hrow : row? (rows ++ X0 :: .cells (nums .i64 (tL n (nxI fl i))) :: H) (rows.length + 1) = some (nums .i64 (tL n (nxI fl i))) := by simp
    have g1 := all_ret hrow hn
    have g2 := reached_ret (v := 0) (row?_old hgt _) hg hrow hp.1 (by omega)
    simp only [Int.ofNat_zero, Int.natCast_zero, Int.cast_ofNat_Int] at g2
    generalize hc : cmp (nxI fl i) (2 ^ n - 1) 0 = c at *
    generalize hq : 2 ^ n - 1 = q at *
    have hT : TreeV fl i n ↔ c = q := by
      unfold TreeV
      rw [hq, hc]
      exact ⟨fun h => h.2, fun h => ⟨hV, h⟩⟩
    by_cases e : c = q
    · unfold Lc68l6
      simp [g1, g2, e, hT]
      simp [fin, AV.plain1, AV.plain, AV.ren1, AV.ren]
    · have e' : ¬ ((c : Int) = q) := by omega
      unfold Lc68l6
      simp [g1, g2, e, e', hT]
  | succ d ih =>
    intro i H hd h1 hV
    have hi : i < m := by omega
    have w1 : IntKind.i64.wrap ((i : Int) + 1) = i + 1 := wrap64 (by omega) (by omega)
    have w2 : 0 < i → IntKind.i64.wrap ((i : Int) - 1) = ((i - 1 : Nat) : Int) := fun h => by rw [wrap64 (by omega) (by omega)]; omega
    have hE := fun L => El_app he L
    have e1 := fun L => idxF (hE L) hi
    have e2 := fun L => ldF (hE L) hm hi
    have notV : ¬ VE fl n i → ¬ TreeV fl m n := fun h hT => h (hT.1 i hi)
    have badE : ∀ (p q : Prop) (b : Bool), True := fun _ _ _ => trivial
    generalize ha : eA fl i = a at *
    generalize hb : eB fl i = b at *
    unfold Lc68l6
    by_cases c1 : a < 0
    · have hn' : ¬ TreeV fl m n := notV (by unfold VE; rw [ha]; omega)
      simp [hi, e1, e2, splice, c1, hn']
    · by_cases c2 : b ≤ a
      · have hn' : ¬ TreeV fl m n := notV (by unfold VE; rw [ha, hb]; omega)
        simp [hi, e1, e2, splice, c1, c2, hn']
      · by_cases c3 : (n : Int) ≤ b
        · have hn' : ¬ TreeV fl m n := notV (by unfold VE; rw [ha, hb]; omega)
          simp [hi, e1, e2, splice, c1, c2, c3, hn']
        · obtain ⟨an, rfl⟩ : ∃ an : Nat, a = an := ⟨a.toNat, by omega⟩
          obtain ⟨bn, rfl⟩ : ∃ bn : Nat, b = bn := ⟨b.toNat, by omega⟩
          have hab : an < bn := by omega
          have hbn : bn < n := by omega
          -- what is left when the edge is right
          have good : VE fl n i → Jc68s10 F (.fn [.t 4, .t 5]) (.int .i64 n) ev (.ptr (rows.length + 1) 0) (.ptr (rows.length + (H.length + 1 + 1)) 0) ev (.int .i64 m) (.int .i64 i) (rows ++ X0 :: .cells (nums .i64 (tL n (nxI fl i))) :: (H ++ [.cells [.int .i64 an, .int .i64 bn]])) rows.length (fun r => (TreeV fl m n → fin rows r.1 r.2.1 r.2.2 = (.tup [.ptr rows.length 0, .int .i64 0], rows ++ [.cells (nums .i64 (tL n (nxI fl m)))], none)) ∧ (¬ TreeV fl m n → fin rows r.1 r.2.1 r.2.2 = (.tup [.nilptr, .int .i64 81], rows, none))) := by
            intro hv
            have hV' : ∀ j, j < i + 1 → VE fl n j := fun j hj => by
              by_cases e : j = i
              · rw [e]; exact hv
              · exact hV j (by omega)
            have := ih (i + 1) (H ++ [.cells [.int .i64 an, .int .i64 bn]]) (by omega) (by omega) hV'
            have hlt := nxI_lt hn i hV
            have hnx : nxI fl (i + 1) = addE (nxI fl i) an bn := by
              show addE (nxI fl i) (eA fl i).toNat (eB fl i).toNat = _
              rw [ha, hb]; simp
            generalize nxI fl i = f at *
            have u1 : IntKind.u64.wrap (an : Int) = an := wrapU64 (by omega) (by omega)
            have u2 : IntKind.u64.wrap (bn : Int) = bn := wrapU64 (by omega) (by omega)
            have s1 := w_shl (i := an) (by omega)
            have s2 := w_shl (i := bn) (by omega)
            have b1 := B_lt10 (show an < 10 by omega)
            have b2 := B_lt10 (show bn < 10 by omega)
            have o1 := w_or (a := f an) (b := sB bn) (by have := hlt an; omega) (by omega)
            have o2 := w_or (a := f bn) (b := sB an) (by have := hlt bn; omega) (by omega)
            have t1 := tL_get (n := n) (nx := f) (show an < 10 by omega)
            have t2 := tL_set (n := n) (x := sU (f an) (sB bn)) (f := f) (show an < 10 by omega)
            have t3 := tL_get (n := n) (nx := fun v => if v = an then sU (f an) (sB bn) else f v) (show bn < 10 by omega)
            have t4 := tL_set (n := n) (x := sU (f bn) (sB an)) (f := fun v => if v = an then sU (f an) (sB bn) else f v) (show bn < 10 by omega)
            have hne : ¬ bn = an := by omega
            have t1' := tL_getE (n := n) (nx := f) (show an < 10 by omega)
            have t3' := tL_getE (n := n) (nx := fun v => if v = an then sU (f an) (sB bn) else f v) (show bn < 10 by omega)
            simp only [hne, if_false] at t3 t3'
            have e9 : (fun v => if v = bn then sU (f bn) (sB an) else if v = an then sU (f an) (sB bn) else f v) = addE f an bn := rfl
            rw [e9] at t4
            rw [hnx] at this
            unfold Jc68s10
            simp [show an < 10 by omega, show bn < 10 by omega, show 1 + an < 11 by omega, show 1 + bn < 11 by omega, t1, t1', u1, u2, s1, s2, o1, t2, t3, t3', o2, t4, w1]
            simpa using this
          by_cases c4 : 0 < i
          · have hi1 : i - 1 < m := by omega
            have hsl := IsL_F (hE (X0 :: .cells (nums .i64 (tL n (nxI fl i))) :: (H ++ [.cells [.int .i64 an, .int .i64 bn]]))) hm hi1
            have hsl2 : IsL (rows ++ X0 :: .cells (nums .i64 (tL n (nxI fl i))) :: (H ++ [.cells [.int .i64 an, .int .i64 bn]])) (.slice (rows.length + (H.length + 1 + 1)) 0 2 (.at_ 2)) [(an : Int), bn] := IsL_mk (n := 0) (l := [(an : Int), bn]) (vs := [.int .i64 an, .int .i64 bn]) (by unfold row?; simp) (by simp [seg, nums])
            have hcmp := compare2_ret hsl hsl2
            have e3 := fun L => idxF (hE L) hi1
            generalize hcv : cmp2 (eA fl (i - 1)) (eB fl (i - 1)) (an : Int) (bn : Int) = cv at hcmp
            by_cases c5 : 0 ≤ cv
            · have hn' : ¬ TreeV fl m n := notV (by unfold VE; rw [ha, hb, hcv]; intro h; have := h.2.2.2 c4; omega)
              simp [hi, e1, e2, splice, c1, c2, c3, c4, w2 c4, e3, sliceAV, sliceV, bound?, hcmp, c5, hn', hab, hbn, show ¬ bn ≤ an by omega, show ¬ n ≤ bn by omega]
            · have hv : VE fl n i := by unfold VE; rw [ha, hb, hcv]; exact ⟨by omega, by omega, by omega, fun _ => by omega⟩
              simp [hi, e1, e2, splice, c1, c2, c3, c4, w2 c4, e3, sliceAV, sliceV, bound?, hcmp, c5, show ¬ bn ≤ an by omega, show ¬ n ≤ bn by omega, -uc68s10, jc68s10]
              simpa using good hv
          · have hv : VE fl n i := by unfold VE; rw [ha, hb]; exact ⟨by omega, by omega, by omega, fun h => absurd h c4⟩
            obtain rfl : i = 0 := by omega
            have := good hv
            simp only [Int.ofNat_zero, Int.natCast_zero, Int.cast_ofNat_Int, Nat.zero_mul, Nat.add_zero] at e1 e2
            simp [hi, e1, e2, splice, c1, c2, c3, show ¬ bn ≤ an by omega, show ¬ n ≤ bn by omega, -uc68s10, jc68s10]
            simpa using this
end
end Go.Abs

set_option linter.unusedVariables false
set_option linter.unusedSimpArgs false
namespace Go.Abs
open Rd (Cp IsL_one IsL_cells IsL_tail lowO_n)
section
variable {rows : List Row} {ev : AV} {fl : List Int} {m : Nat} {N : Int}
theorem are1 {lo hi x : Int} : Ret F 55 [.int .i64 lo, .int .i64 hi, .slice rows.length 0 1 (.at_ 1)] (rows ++ [.cells [.int .i64 x]]) = some (.bool (decide (lo ≤ x ∧ x ≤ hi)), rows ++ [.cells [.int .i64 x]], none) := by
  have h : IsL (rows ++ [.cells [.int .i64 x]]) (.slice rows.length 0 1 (.at_ 1)) [x] := IsL_mk (n := 0) (l := [x]) (vs := [.int .i64 x]) (by simp) (by simp [seg, nums])
  have := are_ret h (by simp) (lo := lo) (hi := hi)
  simpa using this
theorem openTree_bad (hN : ¬ (1 ≤ N ∧ N ≤ 10)) : Ret F 68 [.int .i64 N, ev] rows = some (.tup [.nilptr, .int .i64 1], rows, none) := by
  refine i68 F68 ?_
  simp [fillA, splice, are1, hN]
theorem openTree_len (he : El rows 2 ev (nums .i64 fl) m) (hN : 1 ≤ N ∧ N ≤ 10) (hm : (m : Int) ≠ N - 1) : Ret F 68 [.int .i64 N, ev] rows = some (.tup [.nilptr, .int .i64 81], rows, none) := by
  have w : IntKind.i64.wrap (N - 1) = N - 1 := wrap64 (by omega) (by omega)
  have hl := fun L => evP_lenE (El_app he L)
  have hmk : evP rows (.mkagg (List.replicate 11 (.int .i64 0)) [(0, 1, .c (.int .i64 N))]) = some (.agg (nums .i64 (N :: List.replicate 10 0))) := rfl
  refine i68 F68 ?_
  simp [are1, hN, fillA, splice, w, hl, hm, AV.one]
theorem openTree_ok {n : Nat} (hgt : row? rows 1 = some (nums .u8 t64)) (he : El rows 2 ev (nums .i64 fl) m) (hfl : fl.length = m * 2) (hn0 : 1 ≤ n) (hn : n ≤ 10) (hm : m + 1 = n) :
    (TreeV fl m n → Ret F 68 [.int .i64 n, ev] rows = some (.tup [.ptr rows.length 0, .int .i64 0], rows ++ [.cells (nums .i64 (tL n (nxI fl m)))], none)) ∧ (¬ TreeV fl m n → Ret F 68 [.int .i64 n, ev] rows = some (.tup [.nilptr, .int .i64 81], rows, none)) := by
  have w : IntKind.i64.wrap ((n : Int) - 1) = m := by rw [wrap64 (by omega) (by omega)]; omega
  have hl := fun L => evP_lenE (El_app he L)
  have h0 : ∀ H : List Row, tL n (nxI fl 0) = (n : Int) :: List.replicate 10 0 := fun _ => rfl
  have hlp := ot_loop (X0 := .cells [.int .i64 n]) hgt he hfl hn0 hn (by omega) _ 0 [] rfl (Nat.zero_le _) (fun j hj => by omega)
  have e0 : nums .i64 (tL n (nxI fl 0)) = [.int .i64 n, .int .i64 0, .int .i64 0, .int .i64 0, .int .i64 0, .int .i64 0, .int .i64 0, .int .i64 0, .int .i64 0, .int .i64 0, .int .i64 0] := rfl
  rw [e0] at hlp
  constructor
  · intro hT
    refine i68 F68 ?_
    simp [are1, show (1 : Int) ≤ n ∧ (n : Int) ≤ 10 by omega, fillA, splice, w, hl, AV.one]
    refine Ex.imp hlp fun r hr => hr.1 hT
  · intro hT
    refine i68 F68 ?_
    simp [are1, show (1 : Int) ≤ n ∧ (n : Int) ≤ 10 by omega, fillA, splice, w, hl, AV.one]
    refine Ex.imp hlp fun r hr => hr.2 hT
/-- search.CheckTree. -/
theorem CheckTree_of {e : Int} {v : AV} {N : Int} {R' : List Row} {d : Option Nat} (h : Ret F 68 [.int .i64 N, ev] rows = some (.tup [v, .int .i64 e], R', none)) : Ret F 54 [.int .i64 N, ev] rows = some (.int .i64 e, rows, none) := by
  refine i54 F54 ?_
  simp [h]
end
end Go.Abs

set_option linter.unusedVariables false
set_option linter.unusedSimpArgs false
namespace Go.Abs
theorem flat_eA {es : List (Nat × Nat)} {j : Nat} (h : j < es.length) : eA (flat es) j = ((gP es j).1 : Int) ∧ eB (flat es) j = ((gP es j).2 : Int) := by
  obtain ⟨h1, h2⟩ := flat_get h
  unfold eA eB
  rw [gI_get (by simp; omega)] at h1 h2
  exact ⟨Option.some.inj h1, Option.some.inj h2⟩
theorem all_tb {n i : Nat} : (2 ^ n - 1).testBit i = decide (i < n) := Nat.testBit_two_pow_sub_one ..
/-- A tree's neighbours. -/
def nxT (es : List (Nat × Nat)) : Nat → Nat := nxI (flat es) es.length
theorem nxT_tb {es : List (Nat × Nat)} {n : Nat} (hV : ∀ j, j < es.length → VE (flat es) n j) (v w : Nat) : (nxT es v).testBit w = true ↔ (v, w) ∈ es ∨ (w, v) ∈ es := by
  unfold nxT
  rw [nxI_tb _ hV]
  constructor
  · rintro ⟨j, hj, h⟩
    obtain ⟨h1, h2⟩ := flat_eA hj
    rw [h1, h2] at h
    have hm := gP_mem hj
    rcases h with ⟨h3, h4⟩ | ⟨h3, h4⟩
    · left
      have : gP es j = (v, w) := Prod.ext (by simpa using h3) (by simpa using h4)
      rwa [this] at hm
    · right
      have : gP es j = (w, v) := Prod.ext (by simpa using h4) (by simpa using h3)
      rwa [this] at hm
  · rintro (h | h)
    · obtain ⟨j, hj⟩ := List.mem_iff_getElem?.1 h
      have hl := (List.getElem?_eq_some_iff.1 hj).1
      obtain ⟨h1, h2⟩ := flat_eA hl
      rw [gP_get hl] at hj
      have := Option.some.inj hj
      refine ⟨j, hl, .inl ?_⟩
      rw [h1, h2, this]; simp
    · obtain ⟨j, hj⟩ := List.mem_iff_getElem?.1 h
      have hl := (List.getElem?_eq_some_iff.1 hj).1
      obtain ⟨h1, h2⟩ := flat_eA hl
      rw [gP_get hl] at hj
      have := Option.some.inj hj
      refine ⟨j, hl, .inr ?_⟩
      rw [h1, h2, this]; simp
theorem nxT_edg {es : List (Nat × Nat)} {n : Nat} (hn : n ≤ 10) (hV : ∀ j, j < es.length → VE (flat es) n j) : Edg (nxT es) es := by
  refine ⟨fun e he => ?_, fun e he => ⟨(nxT_tb hV _ _).2 (.inl he), (nxT_tb hV _ _).2 (.inr he)⟩, fun i j h => (nxT_tb hV i j).1 h⟩
  obtain ⟨j, hj⟩ := List.mem_iff_getElem?.1 he
  have hl := (List.getElem?_eq_some_iff.1 hj).1
  obtain ⟨h1, h2⟩ := flat_eA hl
  rw [gP_get hl] at hj
  have := Option.some.inj hj
  obtain ⟨v1, v2, v3, _⟩ := hV j hl
  rw [h1, h2, this] at *
  omega
end Go.Abs

set_option linter.unusedVariables false
set_option linter.unusedSimpArgs false
namespace Go.Abs
open Rd (Cp IsL_one IsL_cells IsL_tail lowO_n)
section
variable {rows : List Row} {ev mv : AV} {N e : Int}
theorem Looks_bad (h : Ret F 68 [.int .i64 N, ev] rows = some (.tup [.nilptr, .int .i64 e], rows, none)) (he : e ≠ 0) : Ret F 48 [.int .i64 N, ev] rows = some (.tup [.int .i64 0, .int .i64 e], rows, none) := by
  refine i48 F48 ?_
  simp [h, he]
theorem Marks_bad (h : Ret F 68 [.int .i64 N, ev] rows = some (.tup [.nilptr, .int .i64 e], rows, none)) (he : e ≠ 0) : Ret F 42 [.int .i64 N, ev] rows = some (.tup [.nilslice, .int .i64 e], rows, none) := by
  refine i42 F42 ?_
  simp [h, he]
theorem AreMarks_bad (h : Ret F 68 [.int .i64 N, ev] rows = some (.tup [.nilptr, .int .i64 e], rows, none)) (he : e ≠ 0) : Ret F 40 [.int .i64 N, ev, mv] rows = some (.tup [.bool false, .int .i64 e], rows, none) := by
  refine i40 F40 ?_
  simp [h, he]
theorem Middle_bad (h : Ret F 68 [.int .i64 N, ev] rows = some (.tup [.nilptr, .int .i64 e], rows, none)) (he : e ≠ 0) : Ret F 49 [.int .i64 N, ev] rows = some (.tup [.int .i64 0, .int .i64 0, .int .i64 e], rows, none) := by
  refine i49 F49 ?_
  simp [h, he]
end
def pE (fl : List Int) (m : Nat) : List (Nat × Nat) := (List.range m).map fun i => ((eA fl i).toNat, (eB fl i).toNat)
@[simp] theorem pE_len {fl : List Int} {m : Nat} : (pE fl m).length = m := by simp [pE]
theorem flat_pE {fl : List Int} {m n : Nat} (hfl : fl.length = m * 2) (hV : ∀ j, j < m → VE fl n j) : flat (pE fl m) = fl := by
  apply List.ext_getElem?
  intro i
  by_cases hi : i < m * 2
  · obtain ⟨q, hq⟩ : ∃ q, i = q * 2 ∨ i = q * 2 + 1 := ⟨i / 2, by omega⟩
    have hqm : q < m := by omega
    have hql : q < (pE fl m).length := by simpa using hqm
    obtain ⟨h1, h2⟩ := flat_get hql
    obtain ⟨v1, v2, _⟩ := hV q hqm
    have e : gP (pE fl m) q = ((eA fl q).toNat, (eB fl q).toNat) := by
      simp [gP, pE, hqm]
    rw [e] at h1 h2
    rcases hq with rfl | rfl
    · rw [h1, gI_get (l := fl) (by omega)]
      congr 1
      show (((eA fl q).toNat : Nat) : Int) = eA fl q
      omega
    · rw [h2, gI_get (l := fl) (by omega)]
      congr 1
      show (((eB fl q).toNat : Nat) : Int) = eB fl q
      omega
  · rw [List.getElem?_eq_none (by simp; omega), List.getElem?_eq_none (by omega)]
theorem PT_one {nx : Nat → Nat} {n : Nat} (hg : GOK nx) (hn0 : 1 ≤ n) (hn : n ≤ 10) : (PT nx 10 (2 ^ n - 1)).length = 1 ↔ cmp nx (2 ^ n - 1) 0 = 2 ^ n - 1 := by
  have hp : 2 ^ n - 1 < 1024 ∧ 0 < 2 ^ n - 1 := by
    have : ∀ n, n < 11 → 1 ≤ n → 2 ^ n - 1 < 1024 ∧ 0 < 2 ^ n - 1 := by decide
    exact this n (by omega) hn0
  have h0 : (2 ^ n - 1).testBit 0 = true := by rw [all_tb]; simp; omega
  have hz := tz_eq hp.1 h0 fun i hi => by omega
  have hc := (part_first hg hp.1 hp.2).2.2.1
  rw [hz] at hc
  have hPT : PT nx 10 (2 ^ n - 1) = cmp nx (2 ^ n - 1) 0 :: PT nx 9 (sD (2 ^ n - 1) (cmp nx (2 ^ n - 1) 0)) := by
    conv => lhs; unfold PT
    rw [if_neg (by omega), hz]
  rw [hPT]
  generalize cmp nx (2 ^ n - 1) 0 = c at *
  generalize 2 ^ n - 1 = s at *
  have hD : sD s c = 0 ↔ c = s := by
    constructor
    · intro h
      refine hc.anti fun i hi => ?_
      have : (sD s c).testBit i = false := by rw [h]; simp
      rw [tb_D, hi] at this
      simpa using this
    · rintro rfl
      apply nat_ext
      intro i
      rw [tb_D]
      simp
  rw [List.length_cons]
  constructor
  · intro h
    apply hD.1
    by_cases e : sD s c = 0
    · exact e
    · exfalso
      have : (PT nx 9 (sD s c)).length = 0 := by omega
      unfold PT at this
      rw [if_neg e] at this
      simp at this
  · intro h
    rw [hD.2 h]
    simp [PT]
section
variable {rows : List Row} {ev : AV} {fl : List Int} {m n : Nat} {N : Int}
theorem ldA (h : El rows 2 ev (nums .i64 fl) m) (hm : fl.length = m * 2) {i : Nat} (hi : i < m) : evP rows (.load1 (.c (.ptr (sid ev) (soff ev + i * 2)))) = some (.int .i64 (eA fl i)) := by
  rw [evP_loadE h (by simp; omega), nums_get, gI_get (by omega)]; rfl
theorem ldB (h : El rows 2 ev (nums .i64 fl) m) (hm : fl.length = m * 2) {i : Nat} (hi : i < m) : evP rows (.load1 (.c (.ptr (sid ev) (soff ev + i * 2 + 1)))) = some (.int .i64 (eB fl i)) := by
  rw [show soff ev + i * 2 + 1 = soff ev + (i * 2 + 1) from by omega, evP_loadE h (by simp; omega), nums_get, gI_get (by omega)]; rfl
theorem cmp2_lt {a b c d : Int} : cmp2 a b c d < 0 ↔ ¬ (c < a ∨ (a = c ∧ d ≤ b)) := by
  unfold cmp2
  by_cases h1 : a < c
  · simp [h1]; omega
  · by_cases h2 : c < a
    · simp [h1, h2]
    · by_cases h3 : b < d
      · simp [h1, h2, h3]
      · by_cases h4 : d < b
        · simp [h1, h2, h3, h4]; omega
        · simp [h1, h2, h3, h4]; omega
theorem rtree_loop (he : El rows 2 ev (nums .i64 fl) m) (hm : fl.length = m * 2) (hn0 : 1 ≤ n) (hn : n ≤ 10) (hmn : m ≤ 100) : ∀ (d i : Nat), m - i = d → i ≤ m → (∀ j, j < i → VE fl n j) →
    Lc53l6 F (.fn [.t 4]) (.int .i64 n) ev (.int .i64 i) rows rows.length (fun r => (m + 1 = n ∧ TreeV fl m n → fin rows r.1 r.2.1 r.2.2 = (.int .i64 0, rows, none)) ∧ (¬ (m + 1 = n ∧ TreeV fl m n) → fin rows r.1 r.2.1 r.2.2 = (.int .i64 81, rows, none))) := by
  have hl := evP_lenE he
  have w3 : IntKind.i64.wrap ((n : Int) - 1) = ((n - 1 : Nat) : Int) := by rw [wrap64 (by omega) (by omega)]; omega
  intro d
  induction d with
  | zero =>
    intro i hd h1 hV
    have hi : i = m := by omega
    subst hi
    unfold Lc53l6
    by_cases hmn2 : i + 1 = n
    · have hg := nxI_ok hn hV
      have hfp := flat_pE hm hV
      have hE : Edg (nxI fl i) (pE fl i) := by
        have := nxT_edg (es := pE fl i) (n := n) hn (fun j hj => by rw [hfp]; exact hV j (by simpa using hj))
        unfold nxT at this
        rwa [hfp, pE_len] at this
      have hP : IsP rows ev (pE fl i) := by
        unfold IsP
        rw [hfp, pE_len]
        exact he
      have hp0 : 0 < sB n := Nat.pow_pos (by omega)
      have hp1 : sB n ≤ 1024 := by
        have : ∀ n, n < 11 → sB n ≤ 1024 := by decide
        exact this n (by omega)
      have hpt := rparts_ret hg hE hP (by simp; omega) hn (set := 2 ^ n - 1) (by have : 0 < 2 ^ n := hp0; omega)
      rw [newL_V] at hpt
      have hone := PT_one hg hn0 hn
      have w2 := w_shl (i := n) (by omega)
      have w4 : IntKind.i64.wrap ((sB n : Nat) - 1 : Int) = ((2 ^ n - 1 : Nat) : Int) := by
        rw [wrap64 (by omega) (by omega)]
        show ((sB n : Nat) : Int) - 1 = ((sB n - 1 : Nat) : Int)
        omega
      have hT : (i + 1 = n ∧ TreeV fl i n) ↔ (PT (nxI fl i) 10 (2 ^ n - 1)).length = 1 := by
        rw [hone]
        unfold TreeV
        exact ⟨fun h => h.2.2, fun h => ⟨hmn2, hV, h⟩⟩
      have w5 : ((n - 1 : Nat) : Int) = (i : Int) := by omega
      have hIL := nlV_IsL rows (castL (PT (nxI fl i) 10 (2 ^ n - 1))) []
      rw [List.append_nil] at hIL
      have hll := lenL0 hIL
      rw [castL_len] at hll
      generalize 2 ^ n - 1 = q at *
      generalize PT (nxI fl i) 10 q = p at *
      by_cases h : p.length = 1
      · simp [hl, w3, w5, w2, w4, hpt, hll, hT, h]
      · have h' : ¬ (p.length : Int) = 1 := by omega
        simp [hl, w3, w5, w2, w4, hpt, hll, hT, h, h']
    · have : ¬ (i : Int) = ((n - 1 : Nat) : Int) := by omega
      simp [hl, w3, this, hmn2, show ¬ (i = n - 1) by omega]
  | succ d ih =>
    intro i hd h1 hV
    have hi : i < m := by omega
    have w1 : IntKind.i64.wrap ((i : Int) + 1) = i + 1 := wrap64 (by omega) (by omega)
    have w2 : 0 < i → IntKind.i64.wrap ((i : Int) - 1) = ((i - 1 : Nat) : Int) := fun h => by rw [wrap64 (by omega) (by omega)]; omega
    have e1 := idxF he hi
    have e2 := ldA he hm hi
    have e3 := ldB he hm hi
    have notV : ¬ VE fl n i → ¬ (m + 1 = n ∧ TreeV fl m n) := fun h hT => h (hT.2.1 i hi)
    have good : VE fl n i → Lc53l6 F (.fn [.t 4]) (.int .i64 n) ev (.int .i64 ((i : Int) + 1)) rows rows.length (fun r => (m + 1 = n ∧ TreeV fl m n → fin rows r.1 r.2.1 r.2.2 = (.int .i64 0, rows, none)) ∧ (¬ (m + 1 = n ∧ TreeV fl m n) → fin rows r.1 r.2.1 r.2.2 = (.int .i64 81, rows, none))) := by
      intro hv
      have := ih (i + 1) (by omega) (by omega) (fun j hj => by
        by_cases e : j = i
        · rw [e]; exact hv
        · exact hV j (by omega))
      simpa using this
    have hVE : VE fl n i ↔ ¬ (eA fl i < 0) ∧ ¬ (eB fl i ≤ eA fl i) ∧ ¬ ((n : Int) ≤ eB fl i) ∧ (0 < i → ¬ (eA fl i < eA fl (i - 1) ∨ (eA fl (i - 1) = eA fl i ∧ eB fl i ≤ eB fl (i - 1)))) := by
      unfold VE
      rw [cmp2_lt]
      constructor
      · rintro ⟨h1, h2, h3, h4⟩; exact ⟨by omega, by omega, by omega, h4⟩
      · rintro ⟨h1, h2, h3, h4⟩; exact ⟨by omega, by omega, by omega, h4⟩
    unfold Lc53l6
    by_cases c4 : 0 < i
    · have hi1 : i - 1 < m := by omega
      have f1 := idxF he hi1
      have f2 := ldA he hm hi1
      have f3 := ldB he hm hi1
      generalize eA fl i = a at *
      generalize eB fl i = b at *
      generalize eA fl (i - 1) = a' at *
      generalize eB fl (i - 1) = b' at *
      by_cases c1 : a < 0
      · simp [hl, hi, e1, e2, e3, c1, notV (fun h => (hVE.1 h).1 c1)]
      · by_cases c2 : b ≤ a
        · simp [hl, hi, e1, e2, e3, c1, c2, notV (fun h => (hVE.1 h).2.1 c2)]
        · by_cases c3 : (n : Int) ≤ b
          · simp [hl, hi, e1, e2, e3, c1, c2, c3, notV (fun h => (hVE.1 h).2.2.1 c3)]
          · by_cases c5 : a < a'
            · simp [hl, hi, e1, e2, e3, c1, c2, c3, c4, w2 c4, f1, f2, f3, c5, notV (fun h => (hVE.1 h).2.2.2 c4 (.inl c5))]
            · by_cases c6 : a' = a
              · by_cases c7 : b ≤ b'
                · simp [hl, hi, e1, e2, e3, c1, c2, c3, c4, w2 c4, f1, f2, f3, c5, c6, c7, notV (fun h => (hVE.1 h).2.2.2 c4 (.inr ⟨c6, c7⟩))]
                · have := good (hVE.2 ⟨c1, c2, c3, fun _ h => by omega⟩)
                  simp [hl, hi, e1, e2, e3, c1, c2, c3, c4, w2 c4, f1, f2, f3, c5, c6, c7, w1]
                  simpa using this
              · have := good (hVE.2 ⟨c1, c2, c3, fun _ h => by omega⟩)
                simp [hl, hi, e1, e2, e3, c1, c2, c3, c4, w2 c4, f1, f2, f3, c5, c6, w1]
                simpa using this
    · generalize eA fl i = a at *
      generalize eB fl i = b at *
      by_cases c1 : a < 0
      · simp [hl, hi, e1, e2, e3, c1, notV (fun h => (hVE.1 h).1 c1)]
      · by_cases c2 : b ≤ a
        · simp [hl, hi, e1, e2, e3, c1, c2, notV (fun h => (hVE.1 h).2.1 c2)]
        · by_cases c3 : (n : Int) ≤ b
          · simp [hl, hi, e1, e2, e3, c1, c2, c3, notV (fun h => (hVE.1 h).2.2.1 c3)]
          · have := good (hVE.2 ⟨c1, c2, c3, fun h => absurd h c4⟩)
            simp [hl, hi, e1, e2, e3, c1, c2, c3, c4, w1]
            simpa using this
open Classical in
theorem rtree_ret (he : El rows 2 ev (nums .i64 fl) m) (hm : fl.length = m * 2) (hmn : m ≤ 100) : ∃ c : Int, Ret F 53 [.int .i64 N, ev] rows = some (.int .i64 c, rows, none) ∧ c = (if 1 ≤ N ∧ N ≤ 10 then (if m + 1 = N.toNat ∧ TreeV fl m N.toNat then 0 else 81) else 1) := by
  by_cases hN : 1 ≤ N ∧ N ≤ 10
  · rw [if_pos hN]
    obtain ⟨n, rfl⟩ : ∃ n : Nat, N = n := ⟨N.toNat, by omega⟩
    have := rtree_loop he hm (n := n) (by omega) (by omega) hmn _ 0 rfl (Nat.zero_le _) (fun j hj => by omega)
    refine ⟨_, ?_, rfl⟩
    refine i53 F53 ?_
    rw [Int.toNat_natCast]
    have h1 : ¬ (n : Int) < 1 := by omega
    have h2 : ¬ (10 : Int) < n := by omega
    simp [h1, h2, show ¬ n = 0 by omega, show ¬ 10 < n by omega]
    by_cases h : m + 1 = n ∧ TreeV fl m n
    · simp [h] at this ⊢
      simpa using this
    · simp [h] at this ⊢
      simpa using this
  · rw [if_neg hN]
    refine ⟨1, ?_, rfl⟩
    refine i53 F53 ?_
    by_cases h1 : N < 1
    · simp [h1]
    · simp [h1, show 10 < N by omega]
/-- pairs. -/
theorem El_take2 {v : AV} {l : List Int} {m : Nat} (h : El rows 2 v (nums .i64 l) m) (hc : Cp 2 v) {k : Nat} (hk : k ≤ m) : ∃ v', sliceV 2 v none (some (.int .i64 k)) none = some v' ∧ El rows 2 v' (nums .i64 (l.take (k * 2))) k := by
  rcases El_cases h with ⟨rfl, h1, h0⟩ | ⟨id, off, c, vs, rfl, hr, hs⟩
  · have : k = 0 := by omega
    subst this
    exact ⟨.nilslice, by simp [sliceV, bound?], rfl⟩
  · have hl := seg_len hs
    have hs' : seg vs off (k * 2) = some (nums .i64 (l.take (k * 2))) := by
      have := seg_seg (j := 0) (m := k * 2) hs (by omega)
      rw [Nat.add_zero] at this
      rw [this]
      unfold seg
      rw [if_pos (by omega)]
      simp [nums, List.map_take]
    cases c with
    | at_ m' =>
      simp only [Cp] at hc
      refine ⟨.slice id off k (.at_ m'), ?_, ?_⟩
      · simp only [sliceV, bound?]
        rw [if_pos (by omega)]
        simp
      · unfold El elems
        simp only [hr, hs', Option.map_some]
    | op sz =>
      simp only [Cp] at hc
      subst hc
      refine ⟨.slice id off k (.op 2), ?_, ?_⟩
      · simp only [sliceV, bound?]
        rw [if_pos (by omega)]
        simp
      · unfold El elems
        simp only [hr, hs', Option.map_some]
theorem pairs_ret {v : AV} {l : List Int} (h : El rows 2 v (nums .i64 l) m) (hl : l.length = m * 2) (hc : Cp 2 v) : ∃ v' H, Ret F 52 [v] rows = some (v', rows ++ H, none) ∧ H.all (Row.under 0) = true ∧ El (rows ++ H) 2 v' (nums .i64 (l.take (min m 11 * 2))) (min m 11) := by
  obtain ⟨v', e1, h'⟩ := El_take2 h hc (k := min m 11) (by omega)
  have hlen := evP_lenE h
  have e3 : (min (m : Int) 11 : Int) = ((min m 11 : Nat) : Int) := by omega
  have hq : (l.take (min m 11 * 2)).length = min m 11 * 2 := by simp; omega
  generalize l.take (min m 11 * 2) = q at *
  by_cases h0 : min m 11 = 0
  · rw [h0] at h' hq
    have : q = [] := List.eq_nil_of_length_eq_zero (by omega)
    subst this
    refine ⟨.nilslice, [], ?_, rfl, ?_⟩
    · refine i52 F52 ?_
      simp [hlen, e3, e1]
      rw [app_0 h' (.inl rfl)]
      simp
    · rw [h0]; rfl
  · refine ⟨.slice rows.length 0 (min m 11) (.op 2), [.cells (nums .i64 q)], ?_, by simp [Row.under, AV.under, nums], ?_⟩
    · refine i52 F52 ?_
      simp [hlen, e3, e1]
      rw [app_nil h' (by omega) (by simp [lim]; omega)]
      have hid : (nums .i64 q).all (fun x => true) = true := by simp
      have := fin_slice (rows := rows) (L := [.cells (nums .i64 q)]) (k := 0) (o := 0) (n := min m 11) (c := .op 2) (vs := nums .i64 q) (by simp) nums_ids
      simp
    · unfold El elems
      have : row? (rows ++ [Row.cells (nums .i64 q)]) rows.length = some (nums .i64 q) := by simp
      simp only [this, nums_all hq, Option.map_some]
end
end Go.Abs

set_option linter.unusedVariables false
set_option linter.unusedSimpArgs false
namespace Go.Abs
open Rd (Cp IsL_one IsL_cells IsL_tail lowO_n)
def bls (l : List Bool) : List AV := l.map .bool
@[simp] theorem bls_len {l : List Bool} : (bls l).length = l.length := by simp [bls]
@[simp] theorem bls_set {l : List Bool} {i : Nat} {b : Bool} : (bls l).set i (.bool b) = bls (l.set i b) := by simp [bls, List.map_set]
def usedT (n : Nat) (s : List Int) : List Bool := (List.range n).map fun (j : Nat) => decide ((j : Int) ∈ s)
@[simp] theorem usedT_len {n : Nat} {s : List Int} : (usedT n s).length = n := by simp [usedT]
section
variable {R3 H1 : List Row} {low : Nat} {r : AV × List Row × Nat → Prop}
end
end Go.Abs

set_option linter.unusedVariables false
set_option maxRecDepth 20000
set_option maxHeartbeats 4000000
namespace Go.Abs
variable {F : Nat → Option IFn} {cx : Ctx} {k : List Itm} {s : St} {l : List (Nat × AV)} {rows : List Row} {low : Nat} {r : AV × List Row × Nat → Prop}
def c15r0 : List Seg := [
  .one ⟨some 54, .mv (.t 8), none⟩,
  .one ⟨some 55, .mv (.t 6), none⟩,
  .one ⟨some 56, .bin .eql (.t 54) (.t 55), none⟩,
  .one ⟨some 57, .mv (.t 56), none⟩,
  .one ⟨some 58, .mv (.t 10), some (57, true)⟩,
  .one ⟨some 59, .mv (.t 6), some (57, true)⟩,
  .one ⟨some 60, .bin .eql (.t 58) (.t 59), some (57, true)⟩,
  .one ⟨some 61, .pick (.t 57) (.t 60) (.c (.bool false)), none⟩,
  .one ⟨some 62, .mv (.t 61), none⟩,
  .one ⟨some 63, .mv (.t 12), some (62, true)⟩,
  .one ⟨some 64, .mv (.t 6), some (62, true)⟩,
  .one ⟨some 65, .bin .eql (.t 63) (.t 64), some (62, true)⟩,
  .one ⟨some 66, .pick (.t 62) (.t 65) (.c (.bool false)), none⟩,
  .one ⟨some 67, .mv (.t 66), none⟩,
  .one ⟨some 68, .mv (.t 15), some (67, true)⟩,
  .one ⟨some 69, .mv (.t 6), some (67, true)⟩,
  .one ⟨some 70, .bin .eql (.t 68) (.t 69), some (67, true)⟩,
  .one ⟨some 71, .pick (.t 67) (.t 70) (.c (.bool false)), none⟩,
  .one ⟨some 72, .mv (.t 71), none⟩,
  .one ⟨some 73, .mv (.t 11), some (72, true)⟩,
  .one ⟨some 74, .un .not (.t 73), some (72, true)⟩,
  .one ⟨some 75, .pick (.t 72) (.t 74) (.c (.bool false)), none⟩,
  .one ⟨some 76, .mv (.t 75), none⟩,
  .one ⟨some 77, .mv (.t 7), some (76, true)⟩,
  .one ⟨some 78, .mv (.t 9), some (76, true)⟩,
  .one ⟨some 79, .len 0 (.t 78), some (76, true)⟩,
  .one ⟨some 80, .bin .add (.t 77) (.t 79), some (76, true)⟩,
  .one ⟨some 81, .mv (.t 13), some (76, true)⟩,
  .one ⟨some 82, .bin .add (.t 80) (.t 81), some (76, true)⟩,
  .one ⟨some 83, .mv (.t 14), some (76, true)⟩,
  .one ⟨some 84, .bin .add (.t 82) (.t 83), some (76, true)⟩,
  .one ⟨some 85, .bin .eql (.t 84) (.c (.int .i64 0)), some (76, true)⟩,
  .one ⟨some 86, .pick (.t 76) (.t 85) (.c (.bool false)), none⟩,
  .one ⟨some 87, .mv (.t 86), none⟩,
  .one ⟨some 88, .call (.c (.func 22 [])) [], some (87, true)⟩,
  .one ⟨some 89, .pick (.t 87) (.t 88) (.c (.bool false)), none⟩,
  .one ⟨some 4, .mv (.t 89), none⟩]
def c15k0 : ICode := .kill (dead 90 [6, 7, 8, 9, 10, 11, 12, 13, 14, 15]) (.ops c15r0)
@[simp] theorem uc15k0 : Ex F cx (.code c15k0 :: k) ⟨mk 90 l, rows, low⟩ r ↔ bnd (evP rows (.bin .eql (.c (lk l 8)) (.c (lk l 6)))) fun v0 => bnd (gv v0 true (evP rows (.mv (.c (lk l 10))))) fun v1 => bnd (gv v0 true (evP rows (.mv (.c (lk l 6))))) fun v2 => bnd (gv v0 true (evP rows (.bin .eql (.c v1) (.c v2)))) fun v3 => bnd (evP rows (.pick (.c v0) (.c v3) (.c (.bool false)))) fun v4 => bnd (gv v4 true (evP rows (.mv (.c (lk l 12))))) fun v5 => bnd (gv v4 true (evP rows (.mv (.c (lk l 6))))) fun v6 => bnd (gv v4 true (evP rows (.bin .eql (.c v5) (.c v6)))) fun v7 => bnd (evP rows (.pick (.c v4) (.c v7) (.c (.bool false)))) fun v8 => bnd (gv v8 true (evP rows (.mv (.c (lk l 15))))) fun v9 => bnd (gv v8 true (evP rows (.mv (.c (lk l 6))))) fun v10 => bnd (gv v8 true (evP rows (.bin .eql (.c v9) (.c v10)))) fun v11 => bnd (evP rows (.pick (.c v8) (.c v11) (.c (.bool false)))) fun v12 => bnd (gv v12 true (evP rows (.mv (.c (lk l 11))))) fun v13 => bnd (gv v12 true (evP rows (.un .not (.c v13)))) fun v14 => bnd (evP rows (.pick (.c v12) (.c v14) (.c (.bool false)))) fun v15 => bnd (gv v15 true (evP rows (.mv (.c (lk l 7))))) fun v16 => bnd (gv v15 true (evP rows (.mv (.c (lk l 9))))) fun v17 => bnd (gv v15 true (evP rows (.len 0 (.c v17)))) fun v18 => bnd (gv v15 true (evP rows (.bin .add (.c v16) (.c v18)))) fun v19 => bnd (gv v15 true (evP rows (.mv (.c (lk l 13))))) fun v20 => bnd (gv v15 true (evP rows (.bin .add (.c v19) (.c v20)))) fun v21 => bnd (gv v15 true (evP rows (.mv (.c (lk l 14))))) fun v22 => bnd (gv v15 true (evP rows (.bin .add (.c v21) (.c v22)))) fun v23 => bnd (gv v15 true (evP rows (.bin .eql (.c v23) (.c (.int .i64 0))))) fun v24 => bnd (evP rows (.pick (.c v15) (.c v24) (.c (.bool false)))) fun v25 => gcall F v25 true rows low [] (.func 22 []) fun v26 R26 L26 => bnd (evP R26 (.pick (.c v25) (.c v26) (.c (.bool false)))) fun v27 => Ex F cx k ⟨mk 90 [(4, v27), (89, v27), (88, v26), (87, v25), (86, v25), (85, v24), (84, v23), (83, v22), (82, v21), (81, v20), (80, v19), (79, v18), (78, v17), (77, v16), (76, v15), (75, v15), (74, v14), (73, v13), (72, v12), (71, v12), (70, v11), (69, v10), (68, v9), (67, v8), (66, v8), (65, v7), (64, v6), (63, v5), (62, v4), (61, v4), (60, v3), (59, v2), (58, v1), (57, v0), (56, v0), (55, lk l 6), (54, lk l 8), (6, lk l 6), (7, lk l 7), (8, lk l 8), (9, lk l 9), (10, lk l 10), (11, lk l 11), (12, lk l 12), (13, lk l 13), (14, lk l 14), (15, lk l 15)], R26, L26⟩ r := reg (keep := [6, 7, 8, 9, 10, 11, 12, 13, 14, 15]) (ops := c15r0) rfl (by kernel_rfl) (by kernel_rfl)
def c15s1 : ICode := (.seq c15k0 .ret)
@[simp] theorem uc15s1 : Ex F cx (.code c15s1 :: k) s r ↔ Ex F cx (.code (.seq c15k0 .ret) :: k) s r := Iff.rfl
def c15r2 : List Seg := [
  .one ⟨some 48, .mv (.t 0), none⟩,
  .one ⟨some 49, .mv (.t 5), none⟩,
  .one ⟨some 50, .call (.c (.func 49 [])) [(.t 48), (.t 49)], none⟩,
  .one ⟨some 47, .mv (.t 50), none⟩,
  .one ⟨some 51, .ext (.t 47) 0, none⟩,
  .one ⟨some 52, .ext (.t 47) 1, none⟩,
  .one ⟨some 53, .ext (.t 47) 2, none⟩,
  .one ⟨some 13, .mv (.t 51), none⟩,
  .one ⟨some 14, .mv (.t 52), none⟩,
  .one ⟨some 15, .mv (.t 53), none⟩]
def c15k2 : ICode := .kill (dead 90 [0, 5, 6, 7, 8, 9, 10, 11, 12]) (.ops c15r2)
@[simp] theorem uc15k2 : Ex F cx (.code c15k2 :: k) ⟨mk 90 l, rows, low⟩ r ↔ bnd (Ret F 49 [lk l 0, lk l 5] rows) fun q0 => bnd (evP q0.2.1 (.ext (.c q0.1) 0)) fun v1 => bnd (evP q0.2.1 (.ext (.c q0.1) 1)) fun v2 => bnd (evP q0.2.1 (.ext (.c q0.1) 2)) fun v3 => Ex F cx k ⟨mk 90 [(15, v3), (14, v2), (13, v1), (53, v3), (52, v2), (51, v1), (47, q0.1), (50, q0.1), (49, lk l 5), (48, lk l 0), (0, lk l 0), (5, lk l 5), (6, lk l 6), (7, lk l 7), (8, lk l 8), (9, lk l 9), (10, lk l 10), (11, lk l 11), (12, lk l 12)], q0.2.1, (lowO low q0.2.2)⟩ r := reg (keep := [0, 5, 6, 7, 8, 9, 10, 11, 12]) (ops := c15r2) rfl (by kernel_rfl) (by kernel_rfl)
def c15s3 : ICode := (.seq c15k2 c15s1)
@[simp] theorem uc15s3 : Ex F cx (.code c15s3 :: k) s r ↔ Ex F cx (.code (.seq c15k2 c15s1) :: k) s r := Iff.rfl
def c15r4 : List Seg := [
  .one ⟨some 42, .mv (.t 0), none⟩,
  .one ⟨some 43, .mv (.t 5), none⟩,
  .one ⟨some 44, .call (.c (.func 40 [])) [(.t 42), (.t 43), (.c .nilslice)], none⟩,
  .one ⟨some 41, .mv (.t 44), none⟩,
  .one ⟨some 45, .ext (.t 41) 0, none⟩,
  .one ⟨some 46, .ext (.t 41) 1, none⟩,
  .one ⟨some 11, .mv (.t 45), none⟩,
  .one ⟨some 12, .mv (.t 46), none⟩]
def c15k4 : ICode := .kill (dead 90 [0, 5, 6, 7, 8, 9, 10]) (.ops c15r4)
@[simp] theorem uc15k4 : Ex F cx (.code c15k4 :: k) ⟨mk 90 l, rows, low⟩ r ↔ bnd (Ret F 40 [lk l 0, lk l 5, .nilslice] rows) fun q0 => bnd (evP q0.2.1 (.ext (.c q0.1) 0)) fun v1 => bnd (evP q0.2.1 (.ext (.c q0.1) 1)) fun v2 => Ex F cx k ⟨mk 90 [(12, v2), (11, v1), (46, v2), (45, v1), (41, q0.1), (44, q0.1), (43, lk l 5), (42, lk l 0), (0, lk l 0), (5, lk l 5), (6, lk l 6), (7, lk l 7), (8, lk l 8), (9, lk l 9), (10, lk l 10)], q0.2.1, (lowO low q0.2.2)⟩ r := reg (keep := [0, 5, 6, 7, 8, 9, 10]) (ops := c15r4) rfl (by kernel_rfl) (by kernel_rfl)
def c15s5 : ICode := (.seq c15k4 c15s3)
@[simp] theorem uc15s5 : Ex F cx (.code c15s5 :: k) s r ↔ Ex F cx (.code (.seq c15k4 c15s3) :: k) s r := Iff.rfl
def c15r6 : List Seg := [
  .one ⟨some 36, .mv (.t 0), none⟩,
  .one ⟨some 37, .mv (.t 5), none⟩,
  .one ⟨some 38, .call (.c (.func 42 [])) [(.t 36), (.t 37)], none⟩,
  .one ⟨some 35, .mv (.t 38), none⟩,
  .one ⟨some 39, .ext (.t 35) 0, none⟩,
  .one ⟨some 40, .ext (.t 35) 1, none⟩,
  .one ⟨some 9, .mv (.t 39), none⟩,
  .one ⟨some 10, .mv (.t 40), none⟩]
def c15k6 : ICode := .kill (dead 90 [0, 5, 6, 7, 8]) (.ops c15r6)
@[simp] theorem uc15k6 : Ex F cx (.code c15k6 :: k) ⟨mk 90 l, rows, low⟩ r ↔ bnd (Ret F 42 [lk l 0, lk l 5] rows) fun q0 => bnd (evP q0.2.1 (.ext (.c q0.1) 0)) fun v1 => bnd (evP q0.2.1 (.ext (.c q0.1) 1)) fun v2 => Ex F cx k ⟨mk 90 [(10, v2), (9, v1), (40, v2), (39, v1), (35, q0.1), (38, q0.1), (37, lk l 5), (36, lk l 0), (0, lk l 0), (5, lk l 5), (6, lk l 6), (7, lk l 7), (8, lk l 8)], q0.2.1, (lowO low q0.2.2)⟩ r := reg (keep := [0, 5, 6, 7, 8]) (ops := c15r6) rfl (by kernel_rfl) (by kernel_rfl)
def c15s7 : ICode := (.seq c15k6 c15s5)
@[simp] theorem uc15s7 : Ex F cx (.code c15s7 :: k) s r ↔ Ex F cx (.code (.seq c15k6 c15s5) :: k) s r := Iff.rfl
def c15r8 : List Seg := [
  .one ⟨some 30, .mv (.t 0), none⟩,
  .one ⟨some 31, .mv (.t 5), none⟩,
  .one ⟨some 32, .call (.c (.func 48 [])) [(.t 30), (.t 31)], none⟩,
  .one ⟨some 29, .mv (.t 32), none⟩,
  .one ⟨some 33, .ext (.t 29) 0, none⟩,
  .one ⟨some 34, .ext (.t 29) 1, none⟩,
  .one ⟨some 7, .mv (.t 33), none⟩,
  .one ⟨some 8, .mv (.t 34), none⟩]
def c15k8 : ICode := .kill (dead 90 [0, 5, 6]) (.ops c15r8)
@[simp] theorem uc15k8 : Ex F cx (.code c15k8 :: k) ⟨mk 90 l, rows, low⟩ r ↔ bnd (Ret F 48 [lk l 0, lk l 5] rows) fun q0 => bnd (evP q0.2.1 (.ext (.c q0.1) 0)) fun v1 => bnd (evP q0.2.1 (.ext (.c q0.1) 1)) fun v2 => Ex F cx k ⟨mk 90 [(8, v2), (7, v1), (34, v2), (33, v1), (29, q0.1), (32, q0.1), (31, lk l 5), (30, lk l 0), (0, lk l 0), (5, lk l 5), (6, lk l 6)], q0.2.1, (lowO low q0.2.2)⟩ r := reg (keep := [0, 5, 6]) (ops := c15r8) rfl (by kernel_rfl) (by kernel_rfl)
def c15s9 : ICode := (.seq c15k8 c15s7)
@[simp] theorem uc15s9 : Ex F cx (.code c15s9 :: k) s r ↔ Ex F cx (.code (.seq c15k8 c15s7) :: k) s r := Iff.rfl
def c15r10 : List Seg := [
  .one ⟨some 28, .call (.c (.func 22 [])) [], none⟩,
  .one ⟨some 4, .mv (.t 28), none⟩]
def c15k10 : ICode := .kill (dead 90 []) (.ops c15r10)
@[simp] theorem uc15k10 : Ex F cx (.code c15k10 :: k) ⟨mk 90 l, rows, low⟩ r ↔ bnd (Ret F 22 [] rows) fun q0 => Ex F cx k ⟨mk 90 [(4, q0.1), (28, q0.1)], q0.2.1, (lowO low q0.2.2)⟩ r := reg (keep := []) (ops := c15r10) rfl (by kernel_rfl) (by kernel_rfl)
def c15s11 : ICode := (.cond (.t 27) (.seq c15k10 .ret) .skip)
@[simp] theorem uc15s11 : Ex F cx (.code c15s11 :: k) s r ↔ Ex F cx (.code (.cond (.t 27) (.seq c15k10 .ret) .skip) :: k) s r := Iff.rfl
def c15r12 : List Seg := [
  .one ⟨some 26, .mv (.t 6), none⟩,
  .one ⟨some 27, .bin .eql (.t 26) (.c (.int .i64 0)), none⟩]
def c15k12 : ICode := .kill (dead 90 [0, 5, 6]) (.ops c15r12)
@[simp] theorem uc15k12 : Ex F cx (.code c15k12 :: k) ⟨mk 90 l, rows, low⟩ r ↔ bnd (evP rows (.bin .eql (.c (lk l 6)) (.c (.int .i64 0)))) fun v0 => Ex F cx k ⟨mk 90 [(27, v0), (26, lk l 6), (0, lk l 0), (5, lk l 5), (6, lk l 6)], rows, low⟩ r := reg (keep := [0, 5, 6]) (ops := c15r12) rfl (by kernel_rfl) (by kernel_rfl)
def c15s13 : ICode := (.seq (.seq c15k12 c15s11) c15s9)
@[simp] theorem uc15s13 : Ex F cx (.code c15s13 :: k) s r ↔ Ex F cx (.code (.seq (.seq c15k12 c15s11) c15s9) :: k) s r := Iff.rfl
def c15r14 : List Seg := [
  .one ⟨some 4, .mv (.c (.bool false)), none⟩]
def c15k14 : ICode := .kill (dead 90 []) (.ops c15r14)
@[simp] theorem uc15k14 : Ex F cx (.code c15k14 :: k) ⟨mk 90 l, rows, low⟩ r ↔ Ex F cx k ⟨mk 90 [(4, (.bool false))], rows, low⟩ r := reg (keep := []) (ops := c15r14) rfl (by kernel_rfl) (by kernel_rfl)
def c15s15 : ICode := (.cond (.t 25) (.seq c15k14 .ret) .skip)
@[simp] theorem uc15s15 : Ex F cx (.code c15s15 :: k) s r ↔ Ex F cx (.code (.cond (.t 25) (.seq c15k14 .ret) .skip) :: k) s r := Iff.rfl
def c15r16 : List Seg := [
  .one ⟨some 21, .mv (.t 0), none⟩,
  .one ⟨some 22, .mv (.t 5), none⟩,
  .one ⟨some 23, .call (.c (.func 54 [])) [(.t 21), (.t 22)], none⟩,
  .one ⟨some 24, .mv (.t 6), none⟩,
  .one ⟨some 25, .bin .neq (.t 23) (.t 24), none⟩]
def c15k16 : ICode := .kill (dead 90 [0, 5, 6]) (.ops c15r16)
@[simp] theorem uc15k16 : Ex F cx (.code c15k16 :: k) ⟨mk 90 l, rows, low⟩ r ↔ bnd (Ret F 54 [lk l 0, lk l 5] rows) fun q0 => bnd (evP q0.2.1 (.bin .neq (.c q0.1) (.c (lk l 6)))) fun v1 => Ex F cx k ⟨mk 90 [(25, v1), (24, lk l 6), (23, q0.1), (22, lk l 5), (21, lk l 0), (0, lk l 0), (5, lk l 5), (6, lk l 6)], q0.2.1, (lowO low q0.2.2)⟩ r := reg (keep := [0, 5, 6]) (ops := c15r16) rfl (by kernel_rfl) (by kernel_rfl)
def c15s17 : ICode := (.seq (.seq c15k16 c15s15) c15s13)
@[simp] theorem uc15s17 : Ex F cx (.code c15s17 :: k) s r ↔ Ex F cx (.code (.seq (.seq c15k16 c15s15) c15s13) :: k) s r := Iff.rfl
def c15r18 : List Seg := [
  .one ⟨some 18, .mv (.t 0), none⟩,
  .one ⟨some 19, .mv (.t 5), none⟩,
  .one ⟨some 20, .call (.c (.func 53 [])) [(.t 18), (.t 19)], none⟩,
  .one ⟨some 6, .mv (.t 20), none⟩]
def c15k18 : ICode := .kill (dead 90 [0, 5]) (.ops c15r18)
@[simp] theorem uc15k18 : Ex F cx (.code c15k18 :: k) ⟨mk 90 l, rows, low⟩ r ↔ bnd (Ret F 53 [lk l 0, lk l 5] rows) fun q0 => Ex F cx k ⟨mk 90 [(6, q0.1), (20, q0.1), (19, lk l 5), (18, lk l 0), (0, lk l 0), (5, lk l 5)], q0.2.1, (lowO low q0.2.2)⟩ r := reg (keep := [0, 5]) (ops := c15r18) rfl (by kernel_rfl) (by kernel_rfl)
def c15s19 : ICode := (.seq c15k18 c15s17)
@[simp] theorem uc15s19 : Ex F cx (.code c15s19 :: k) s r ↔ Ex F cx (.code (.seq c15k18 c15s17) :: k) s r := Iff.rfl
def c15r20 : List Seg := [
  .one ⟨some 16, .mv (.t 1), none⟩,
  .one ⟨some 17, .call (.c (.func 52 [])) [(.t 16)], none⟩,
  .one ⟨some 5, .mv (.t 17), none⟩]
def c15k20 : ICode := .kill (dead 90 [0, 1]) (.ops c15r20)
@[simp] theorem uc15k20 : Ex F cx (.code c15k20 :: k) ⟨mk 90 l, rows, low⟩ r ↔ bnd (Ret F 52 [lk l 1] rows) fun q0 => Ex F cx k ⟨mk 90 [(5, q0.1), (17, q0.1), (16, lk l 1), (0, lk l 0), (1, lk l 1)], q0.2.1, (lowO low q0.2.2)⟩ r := reg (keep := [0, 1]) (ops := c15r20) rfl (by kernel_rfl) (by kernel_rfl)
def c15s21 : ICode := (.seq c15k20 c15s19)
@[simp] theorem uc15s21 : Ex F cx (.code c15s21 :: k) s r ↔ Ex F cx (.code (.seq c15k20 c15s19) :: k) s r := Iff.rfl
def c15r22 : List Seg := [
  .one ⟨some 4, .mv (.c (.bool false)), none⟩]
def c15k22 : ICode := .kill (dead 90 [0, 1]) (.ops c15r22)
@[simp] theorem uc15k22 : Ex F cx (.code c15k22 :: k) ⟨mk 90 l, rows, low⟩ r ↔ Ex F cx k ⟨mk 90 [(4, (.bool false)), (0, lk l 0), (1, lk l 1)], rows, low⟩ r := reg (keep := [0, 1]) (ops := c15r22) rfl (by kernel_rfl) (by kernel_rfl)
def Jc15s9 (F : Nat → Option IFn) (cx : Ctx) (x0 x5 x6 : AV) (rows : List Row) (low : Nat) (r : AV × List Row × Nat → Prop) : Prop := Ex F cx (.code c15s9 :: []) ⟨mk 90 [(0, x0), (5, x5), (6, x6)], rows, low⟩ r
theorem jc15s9 : Ex F cx (.code c15s9 :: []) ⟨mk 90 l, rows, low⟩ r ↔ Jc15s9 F cx (lk l 0) (lk l 5) (lk l 6) rows low r := Ex_canon (keep := [0, 5, 6]) (by kernel_rfl)
def Jc15s13 (F : Nat → Option IFn) (cx : Ctx) (x0 x5 x6 : AV) (rows : List Row) (low : Nat) (r : AV × List Row × Nat → Prop) : Prop := Ex F cx (.code c15s13 :: []) ⟨mk 90 [(0, x0), (5, x5), (6, x6)], rows, low⟩ r
theorem jc15s13 : Ex F cx (.code c15s13 :: []) ⟨mk 90 l, rows, low⟩ r ↔ Jc15s13 F cx (lk l 0) (lk l 5) (lk l 6) rows low r := Ex_canon (keep := [0, 5, 6]) (by kernel_rfl)
def c15b : ICode := (.seq c15k22 c15s21)
@[simp] theorem uc15b : Ex F cx (.code c15b :: k) s r ↔ Ex F cx (.code (.seq c15k22 c15s21) :: k) s r := Iff.rfl
def c15 : IFn := ⟨90, [.t 4], c15b⟩
def h15 : List (Nat × List Nat) := [(0, dead 90 [0, 1]), (1, dead 90 [0, 1]), (2, dead 90 [0, 5]), (3, dead 90 [0, 5, 6]), (4, dead 90 []), (5, dead 90 [0, 5, 6]), (6, dead 90 []), (7, dead 90 [0, 5, 6]), (8, dead 90 [0, 5, 6, 7, 8]), (9, dead 90 [0, 5, 6, 7, 8, 9, 10]), (10, dead 90 [0, 5, 6, 7, 8, 9, 10, 11, 12]), (11, dead 90 [6, 7, 8, 9, 10, 11, 12, 13, 14, 15])]
theorem i15 {x0 x1 : AV} (hF : F 15 = some c15) {q : AV × List Row × Option Nat} (h : Ex F (.fn [.t 4]) [.code c15b] ⟨mk 90 [(0, x0), (1, x1)], rows, rows.length⟩ fun r => fin rows r.1 r.2.1 r.2.2 = q) : Ret F 15 [x0, x1] rows = some q := Ret_mk hF h
end Go.Abs

set_option linter.unusedVariables false
set_option linter.unusedSimpArgs false
namespace Go.Abs
open Rd (Cp IsL_one IsL_cells IsL_tail lowO_n)
theorem open_code {R : List Row} {ev : AV} {fl : List Int} {m : Nat} {N : Int} (hgt : row? R 1 = some (nums .u8 t64)) (he : El R 2 ev (nums .i64 fl) m) (hfl : fl.length = m * 2) (hm : m ≤ 100) :
    ∃ c : Int, Ret F 53 [.int .i64 N, ev] R = some (.int .i64 c, R, none) ∧ Ret F 54 [.int .i64 N, ev] R = some (.int .i64 c, R, none) ∧ (c ≠ 0 → Ret F 68 [.int .i64 N, ev] R = some (.tup [.nilptr, .int .i64 c], R, none)) := by
  obtain ⟨c, g1, hc⟩ := rtree_ret (N := N) he hfl hm
  refine ⟨c, g1, ?_⟩
  by_cases hN : 1 ≤ N ∧ N ≤ 10
  · rw [if_pos hN] at hc
    obtain ⟨n, rfl⟩ : ∃ n : Nat, N = n := ⟨N.toNat, by omega⟩
    rw [Int.toNat_natCast] at hc
    by_cases hmn : m + 1 = n
    · obtain ⟨k1, k2⟩ := openTree_ok hgt he hfl (n := n) (by omega) (by omega) hmn
      by_cases hT : TreeV fl m n
      · rw [if_pos ⟨hmn, hT⟩] at hc
        subst hc
        have k := k1 hT
        refine ⟨?_, fun h => absurd rfl h⟩
        refine i54 F54 ?_
        simp [k]
      · rw [if_neg (fun h => hT h.2)] at hc
        subst hc
        exact ⟨CheckTree_of (d := none) (k2 hT), fun _ => k2 hT⟩
    · rw [if_neg (fun h => hmn h.1)] at hc
      subst hc
      have k := openTree_len he hN (by omega)
      exact ⟨CheckTree_of (d := none) k, fun _ => k⟩
  · rw [if_neg hN] at hc
    subst hc
    have k := openTree_bad (rows := R) (ev := ev) hN
    exact ⟨CheckTree_of (d := none) k, fun _ => k⟩
abbrev G15 : Nat → Option IFn := more F 15 c15
theorem toG15 {f : Nat} {vs : List AV} {rows : List Row} {q : AV × List Row × Option Nat} (h : Ret F f vs rows = some q) : Ret G15 f vs rows = some q := Ret_ext (more_ext (by kernel_rfl)) h
set_option maxRecDepth 100000 in
/-- SearchTrees, if 'awake' is true. -/
theorem trees_ret {rows : List Row} (hA : ∀ H, H.all (Row.under 0) = true → Ret F 22 [] (rows ++ H) = some (.bool true, rows ++ H, none)) {v : AV} {fl : List Int} {m : Nat} {N : Int} (hgt : row? rows 1 = some (nums .u8 t64)) (he : El rows 2 v (nums .i64 fl) m ∧ fl.length = m * 2) (hc : Cp 2 v) : Ret G15 15 [.int .i64 N, v] rows = some (.bool true, rows, none) := by
  obtain ⟨x, H, e1, u1, i1⟩ := pairs_ret he.1 he.2 hc
  obtain ⟨c, g1, g2, g3⟩ := open_code (N := N) (row?_old hgt H) i1 (by simp [he.2]) (by omega)
  have hA := toG15 (hA H u1)
  have e1 : Ret G15 52 [v] rows = _ := toG15 e1
  have h1 : Ret G15 53 [.int .i64 N, x] (rows ++ H) = _ := toG15 g1
  have h2 : Ret G15 54 [.int .i64 N, x] (rows ++ H) = _ := toG15 g2
  refine Go.Abs.i15 more_at ?_
  by_cases h0 : c = 0
  · subst h0
    simp [e1, h1, h2, hA]
  · have h3 := g3 h0
    have h4 : Ret G15 48 [.int .i64 N, x] (rows ++ H) = _ := toG15 (Looks_bad h3 h0)
    have h5 : Ret G15 42 [.int .i64 N, x] (rows ++ H) = _ := toG15 (Marks_bad h3 h0)
    have h6 : Ret G15 40 [.int .i64 N, x, .nilslice] (rows ++ H) = _ := toG15 (AreMarks_bad h3 h0)
    have h7 : Ret G15 49 [.int .i64 N, x] (rows ++ H) = _ := toG15 (Middle_bad h3 h0)
    have w0 : IntKind.i64.wrap 0 = 0 := wrap64 (by omega) (by omega)
    simp [e1, h1, h2, h0, h4, h5, h6, h7, hA, w0]
end Go.Abs

set_option linter.unusedVariables false
set_option linter.unusedSimpArgs false
set_option maxRecDepth 10000
namespace Go.Abs
open Go.Proofs Go.RowKit Go.ChangeShapes Go.WideShapes Go.ChangeAt Go.WideElems
def ArgS.ok2 (W : World) (a : ArgS) : Prop := a.len ≤ a.cap ∧ a.cap ≤ maxLen ∧ a.zs.length = a.cap * 2 ∧ (∀ (i : Nat) (x : Int), a.zs[i]? = some x → W.cell? ⟨a.b, a.o + i, none⟩ = some (.int .i64 x)) ∧ a.b < W.heap.size
def argOK2 (W : World) : Option ArgS → Prop
  | none => True
  | some a => a.ok2 W
/-- The numbers that are read. -/
def argList2 : Option ArgS → List Int
  | none => []
  | some a => a.zs.take (a.len * 2)
def argLen : Option ArgS → Nat
  | none => 0
  | some a => a.len
theorem aHRel2 {κ : KRel} {W : World} {a : Option ArgS} (h : laidMetH Tryd.prog laidL W) (hl : argOK2 W a) : HRel κ (aTh [a]) (aRows [a]) W := by
  have hg := gHRel (κ := κ) h
  have hge : ∀ id L, 2 ≤ id → aTh [a] id = some L → ∃ x, a = some x ∧ [a][id - 2]? = some (some x) ∧ L = ⟨x.b, x.o, 0⟩ := by
    intro id L h2 e
    unfold aTh at e
    rw [if_neg (by omega)] at e
    cases hx : [a][id - 2]? with
    | none => rw [hx] at e; simp at e
    | some y =>
      rw [hx] at e
      have hy : y = a := by have := List.mem_of_getElem? hx; simpa using this
      cases y with
      | none => simp [argLoc] at e
      | some x => simp [argLoc] at e; exact ⟨x, hy.symm, rfl, e.symm⟩
  refine ⟨?_, ?_, ?_, ?_⟩
  · intro id L e
    simp only [aRows, gRows, List.length_append, List.length_cons, List.length_nil, List.length_map]
    by_cases h2 : id < 2
    · omega
    · obtain ⟨x, _, ha, _⟩ := hge id L (by omega) e
      have := (List.getElem?_eq_some_iff.1 ha).1
      simp at this
      omega
  · intro id L e
    by_cases h2 : id < 2
    · unfold aTh at e
      rw [if_pos h2] at e
      exact hg.blk id L e
    · obtain ⟨x, rfl, ha, rfl⟩ := hge id L (by omega) e
      exact hl.2.2.2.2
  · intro id r e
    by_cases h2 : id < 2
    · have e2 : gRows[id]? = some r := by
        unfold aRows at e
        rwa [List.getElem?_append_left (by simp [gRows]; omega)] at e
      have := hg.row id r e2
      have ht : aTh [a] id = gTh id := by unfold aTh; rw [if_pos h2]
      match id, h2 with
      | 0, _ =>
        injection e2 with e2; subst e2
        obtain ⟨L, hL, hc⟩ := this
        refine ⟨L, ht.trans hL, fun j x hx => ?_⟩
        rw [nums_get] at hx
        obtain ⟨n, hn, rfl⟩ := Option.map_eq_some_iff.1 hx
        obtain ⟨x', h1, h3, h4⟩ := hc j (.int .u8 n) (by rw [nums_get, hn]; rfl)
        cases h3
        exact ⟨_, h1, .int _ _, h4⟩
      | 1, _ =>
        injection e2 with e2; subst e2
        obtain ⟨L, hL, hc⟩ := this
        refine ⟨L, ht.trans hL, fun j x hx => ?_⟩
        rw [nums_get] at hx
        obtain ⟨n, hn, rfl⟩ := Option.map_eq_some_iff.1 hx
        obtain ⟨x', h1, h3, h4⟩ := hc j (.int .u8 n) (by rw [nums_get, hn]; rfl)
        cases h3
        exact ⟨_, h1, .int _ _, h4⟩
    · unfold aRows at e
      rw [List.getElem?_append_right (by simp [gRows]; omega), show gRows.length = 2 from rfl, List.getElem?_map] at e
      obtain ⟨y, hy, rfl⟩ := Option.map_eq_some_iff.1 e
      have hya : y = a := by have := List.mem_of_getElem? hy; simpa using this
      cases y with
      | none => trivial
      | some x =>
        subst hya
        refine ⟨⟨x.b, x.o, 0⟩, ?_, fun j z hx => ?_⟩
        · unfold aTh
          rw [if_neg (by omega), hy]
          rfl
        · rw [nums_get] at hx
          obtain ⟨n, hn, rfl⟩ := Option.map_eq_some_iff.1 hx
          exact ⟨_, hl.2.2.2.1 j n hn, .int _ _, rfl⟩
  · intro i j r s L L' hij hr ho
    exfalso
    have hm := List.mem_of_getElem? hr
    unfold aRows at hm
    rw [List.mem_append] at hm
    rcases hm with hm | hm
    · simp [gRows] at hm
      rcases hm with rfl | rfl <;> simp [Row.owned] at ho
    · obtain ⟨y, _, rfl⟩ := List.mem_map.1 hm
      cases y <;> simp [argRow, Row.owned] at ho
theorem aV2 {W : World} {a : Option ArgS} (hok : argOK2 W a) : V (aTh [a]) (argAV 2 a) (argVal a) := by
  cases a with
  | none => exact .nilslice
  | some a =>
    have e : aTh [some a] 2 = some ⟨a.b, a.o, 0⟩ := rfl
    exact .sliceAt e (fun _ => rfl) hok.1
theorem aCp2 {W : World} {a : Option ArgS} (hok : argOK2 W a) (i : Nat) : Rd.Cp 2 (argAV i a) := by
  cases a with
  | none => trivial
  | some a => exact hok.1
theorem aEl2 {W : World} {a : Option ArgS} (hok : argOK2 W a) : El (aRows [a]) 2 (argAV 2 a) (nums .i64 (argList2 a)) (argLen a) ∧ (argList2 a).length = argLen a * 2 := by
  cases a with
  | none => exact ⟨rfl, rfl⟩
  | some a =>
    obtain ⟨h1, h2, h3, _⟩ := hok
    have hr : row? (aRows [some a]) 2 = some (nums .i64 a.zs) := rfl
    have hlen : (a.zs.take (a.len * 2)).length = a.len * 2 := by simp; omega
    refine ⟨?_, hlen⟩
    unfold El elems argAV
    simp only [hr]
    have : seg (nums .i64 a.zs) 0 (a.len * 2) = some (nums .i64 (a.zs.take (a.len * 2))) := by
      rw [nums_seg, if_pos (by omega)]
      simp
    rw [this]
    rfl
theorem slice_arg2 {P : Program} {W : World} {H : Type} {enc : TypeId × Value → H} {spare held : _} {fuel : Nat} {t e i : TypeId} {v : Value} {x : _} {b0 : Nat} (ht : P.underlying t = some (.slice e)) (he : P.underlying e = some (.array 2 i)) (hi : P.underlying i = some (.int .i64)) (hc : P.cellsOf e = 2) (hc1 : P.cellsOf i = 1) (hv : Value.okWide P W .any b0 t v)
    (hs : ∀ b, spare b = true) (h : DataW.trod enc P W 0 spare held fuel t [v] = some x) : ∃ a : Option ArgS, v = argVal a ∧ argOK2 W a := by
  rcases DataW.trod_slice ht h with ⟨h0, _⟩ | ⟨y, l, c, elems, rest, n, _, hcs, rfl, _, hl, hm, hlen, hel, hsp, _⟩
  · simp at h0
    exact ⟨none, h0, trivial⟩
  · simp at hcs
    subst hcs
    obtain ⟨hrl, hr⟩ := hsp (hs _)
    have hspt : y.spot = none ∧ y.block < W.heap.size := by
      simp only [Value.okWide, ht, Cell.okWide, Cell.ok] at hv
      obtain ⟨_, _, _, hsp, row, cells, hsh, _⟩ := hv
      refine ⟨hsp, ?_⟩
      unfold World.shape? at hsh
      by_cases hlt : y.block < W.heap.size
      · exact hlt
      · rw [show W.heap[y.block]? = none from Array.getElem?_eq_none (by omega)] at hsh
        simp at hsh
    have each : ∀ j, j < c → ∃ p q : Int, W.cell? ⟨y.block, y.off + j * 2 + 0, none⟩ = some (.int .i64 p) ∧ W.cell? ⟨y.block, y.off + j * 2 + 1, none⟩ = some (.int .i64 q) := by
      intro j hj
      have hb : ∃ z, (W.cells? 0 (y.add (j * 2)) 2).bind (DataW.trod enc P W 0 spare held n e) = some z := by
        by_cases h1 : j < l
        · have := hel j h1
          rw [hc] at this
          rw [this]
          exact ⟨_, List.getElem?_eq_getElem (by omega)⟩
        · have := hr (j - l) (by omega)
          rw [hc, show l + (j - l) = j by omega] at this
          rw [this]
          exact ⟨_, List.getElem?_eq_getElem (by omega)⟩
      obtain ⟨z, hz⟩ := hb
      rw [Option.bind_eq_some_iff] at hz
      obtain ⟨cs, hcs, hz⟩ := hz
      obtain ⟨xs, m, _, _, hcl, hxl, hx⟩ := DataW.trod_array he hz
      rw [hc] at hcl
      match cs, hcl with
      | [c0, c1], _ =>
        have h0 := hx 0 (by omega)
        have h1 := hx 1 (by omega)
        rw [hc1, List.getElem?_eq_getElem (by omega)] at h0 h1
        obtain ⟨p, hp, _⟩ := DataW.trod_int hi h0
        obtain ⟨q, hq, _⟩ := DataW.trod_int hi h1
        simp at hp hq
        subst hp hq
        have k : W.cell? ((y.add (j * 2)).add 0) = some (.int .i64 p) ∧ W.cell? ((y.add (j * 2)).add 1) = some (.int .i64 q) := by
          unfold World.cells? at hcs
          rw [if_pos (Nat.zero_le _), show List.range 2 = [0, 1] from rfl] at hcs
          simp only [List.mapM_cons, List.mapM_nil, Option.bind_eq_bind, Option.pure_def, Option.bind_eq_some_iff] at hcs
          obtain ⟨u, hu, w, ⟨u2, hu2, w2, hw2, hww⟩, huw⟩ := hcs
          injection hw2 with hw2
          subst hw2
          injection hww with hww
          subst hww
          injection huw with huw
          injection huw with e1 e2
          injection e2 with e2 _
          subst e1 e2
          exact ⟨hu, hu2⟩
        have ad : ∀ (b o i j : Nat), (((⟨b, o, none⟩ : Addr).add i).add j) = (⟨b, o + i + j, none⟩ : Addr) := by
          intro b o i j
          have h1 : ∀ o i, (⟨b, o, none⟩ : Addr).add i = ⟨b, o + i, none⟩ := by
            intro o i
            unfold Addr.add
            split
            · rename_i h0; subst h0; rfl
            · rfl
          rw [h1, h1]
        obtain ⟨b, o, sp⟩ := y
        obtain ⟨rfl, _⟩ := hspt
        rw [ad, ad] at k
        exact ⟨p, q, k.1, k.2⟩
    obtain ⟨b, o, sp⟩ := y
    obtain ⟨rfl, hb⟩ := hspt
    have hcell : ∀ i, i < c * 2 → ∃ p : Int, W.cell? ⟨b, o + i, none⟩ = some (.int .i64 p) := by
      intro i hi
      obtain ⟨p, q, h1, h2⟩ := each (i / 2) (by omega)
      simp only at h1 h2
      rcases Nat.mod_two_eq_zero_or_one i with hm | hm
      · refine ⟨p, ?_⟩
        rw [show o + i = o + i / 2 * 2 from by omega]
        exact h1
      · refine ⟨q, ?_⟩
        rw [show o + i = o + i / 2 * 2 + 1 from by omega]
        exact h2
    let f : Nat → Int := fun i => match W.cell? ⟨b, o + i, none⟩ with
      | some (.int .i64 p) => p
      | _ => 0
    refine ⟨some ⟨b, o, l, c, (List.range (c * 2)).map f⟩, rfl, hl, hm, by simp, ?_, hb⟩
    intro i x hx
    have hi : i < c * 2 := by have := (List.getElem?_eq_some_iff.1 hx).1; simpa using this
    obtain ⟨p, hp⟩ := hcell i hi
    have : x = p := by
      have h2 : f i = p := by show (match W.cell? ⟨b, o + i, none⟩ with | some (.int .i64 p) => p | _ => 0) = p; rw [hp]
      simp [hi] at hx
      rw [← hx, h2]
    rw [this]
    exact hp
end Go.Abs

