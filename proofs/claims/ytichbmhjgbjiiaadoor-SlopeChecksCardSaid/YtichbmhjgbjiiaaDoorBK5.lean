/- The texts that the row uses, part 5. -/
import Derived.Test.YtichbmhjgbjiiaaDoorBK4
import Derived.AtR
import Derived.Orders
import Derived.KernelRfl
import Derived.Laws.Cells
import Derived.Laws.CopyRow
import Derived.Laws.Append
import Derived.Laws.AppendOwn
import Derived.Laws.Entries
import Derived.ArgAppend
import Derived.ChangeKeysEq
import Derived.WideLaws
import Derived.Laws.Small
import Derived.Laws.StructEq
import Derived.Laws.Cover3
import Derived.Laws.Tables
import Derived.Laws.Rows
import Derived.Below
import Derived.Laws.IdiomCopy
import Derived.RangeFuncNested
import Derived.Test.YtichbmhjgbjiiaaDoorProg
import Derived.Test.YtichbmhjgbjiiaaDoorRows
import Derived.ProofKit
import Derived.LaidMore
import Derived.OpenShut
import Derived.Stop.Joined
import Derived.ChangeSlices
import Derived.SizedLaws
import Derived.SevenTiedAt
import Derived.WalkKit
import Derived.ShutString
import Derived.ChangeOld
import Derived.Carry
set_option linter.unusedVariables false
set_option maxRecDepth 20000
set_option maxHeartbeats 4000000
namespace Go.Abs
variable {F : Nat → Option IFn} {cx : Ctx} {k : List Itm} {s : St} {l : List (Nat × AV)} {rows : List Row} {low : Nat} {r : AV × List Row × Nat → Prop}
@[simp] theorem uc22s1 : Ex F cx (.code c22s1 :: k) s r ↔ Ex F cx (.code (.seq c22k0 .ret) :: k) s r := Iff.rfl
@[simp] theorem uc22s6 : Ex F cx (.code c22s6 :: k) s r ↔ Ex F cx (.code (.seq c22k5 c22k4) :: k) s r := Iff.rfl
@[simp] theorem uc22s8 : Ex F cx (.code c22s8 :: k) s r ↔ Ex F cx (.code (.seq (.block 1 (.seq c22k7 c22s6)) c22k3) :: k) s r := Iff.rfl
@[simp] theorem uc22s9 : Ex F cx (.code c22s9 :: k) s r ↔ Ex F cx (.code (.seq (.cond (.t 25) .skip (.exit 0)) c22s8) :: k) s r := Iff.rfl
@[simp] theorem uc22s11 : Ex F cx (.code c22s11 :: k) s r ↔ Ex F cx (.code (.block 0 (.loop c22l2)) :: k) s r := Iff.rfl
@[simp] theorem uc22k12 : Ex F cx (.code c22k12 :: k) ⟨mk 53 l, rows, low⟩ r ↔ bnd (evP rows (.fieldA 1 (.c (lk l 2)))) fun v0 => bnd (evP rows (.load1 (.c v0))) fun v1 => bnd (evP rows (.len 0 (.c v1))) fun v2 => Ex F cx k ⟨mk 53 [(24, (.int .i64 0)), (23, v2), (22, v1), (21, v0), (1, lk l 1), (2, lk l 2), (7, lk l 7)], rows, low⟩ r := rg [1, 2, 7] c22r12 rfl (by kernel_rfl)
@[simp] theorem uc22s13 : Ex F cx (.code c22s13 :: k) s r ↔ Ex F cx (.code (.seq (.seq c22k12 c22s11) c22s1) :: k) s r := Iff.rfl
@[simp] theorem uc22k14 : Ex F cx (.code c22k14 :: k) ⟨mk 53 l, rows, low⟩ r ↔ bnd (evP rows (.fieldA 0 (.c (lk l 2)))) fun v0 => bnd (evP rows (.load1 (.c v0))) fun v1 => bnd (evE rows low (.make [.int .i64 0] 8 (.c v1) (.c v1))) fun q2 => Ex F cx k ⟨mk 53 [(7, q2.1), (20, q2.1), (19, v1), (18, v0), (1, lk l 1), (2, lk l 2)], q2.2.1, q2.2.2⟩ r := rg [1, 2] c22r14 rfl (by kernel_rfl)
@[simp] theorem uc22s15 : Ex F cx (.code c22s15 :: k) s r ↔ Ex F cx (.code (.seq c22k14 c22s13) :: k) s r := Iff.rfl
@[simp] theorem uc22k16 : Ex F cx (.code c22k16 :: k) ⟨mk 53 l, rows, low⟩ r ↔ Ex F cx k ⟨mk 53 [(5, lk l 6), (4, .nilslice), (17, lk l 6), (6, lk l 6)], rows, low⟩ r := rg [6] c22r16 rfl (by kernel_rfl)
@[simp] theorem uc22s17 : Ex F cx (.code c22s17 :: k) s r ↔ Ex F cx (.code (.cond (.t 16) (.seq c22k16 .ret) .skip) :: k) s r := Iff.rfl
@[simp] theorem uc22k18 : Ex F cx (.code c22k18 :: k) ⟨mk 53 l, rows, low⟩ r ↔ bnd (evP rows (.bin .neq (.c (lk l 6)) (.c (.int .i64 0)))) fun v0 => Ex F cx k ⟨mk 53 [(16, v0), (15, lk l 6), (1, lk l 1), (2, lk l 2), (6, lk l 6)], rows, low⟩ r := rg [1, 2, 6] c22r18 rfl (by kernel_rfl)
@[simp] theorem uc22s19 : Ex F cx (.code c22s19 :: k) s r ↔ Ex F cx (.code (.seq c22k18 c22s17) :: k) s r := Iff.rfl
@[simp] theorem uc22k20 : Ex F cx (.code c22k20 :: k) ⟨mk 53 l, rows, low⟩ r ↔ bnd (evP rows (.loadN 3 (.c (lk l 2)))) fun v0 => bnd (evP rows (.loadN 3 (.c (lk l 2)))) fun v1 => bnd (evP rows (.bind 67 [(.c v1)])) fun v2 => bnd (Ret F 66 [v0, lk l 1, v2] rows) fun q3 => Ex F cx k ⟨mk 53 [(6, q3.1), (14, q3.1), (13, v2), (12, v1), (11, lk l 1), (10, v0), (1, lk l 1), (2, lk l 2)], q3.2.1, (lowO low q3.2.2)⟩ r := rg [1, 2] c22r20 rfl (by kernel_rfl)
@[simp] theorem uc22s21 : Ex F cx (.code c22s21 :: k) s r ↔ Ex F cx (.code (.seq (.seq c22k20 c22s19) c22s15) :: k) s r := Iff.rfl
@[simp] theorem uc22k22 : Ex F cx (.code c22k22 :: k) ⟨mk 53 l, rows, low⟩ r ↔ bnd (evE rows low (.box (.c (lk l 0)))) fun q0 => Ex F cx k ⟨mk 53 [(5, (.int .i64 0)), (4, .nilslice), (2, q0.1), (0, lk l 0), (1, lk l 1)], q0.2.1, q0.2.2⟩ r := rg [0, 1] c22r22 rfl (by kernel_rfl)
def Jc22s8 (F : Nat → Option IFn) (cx : Ctx) (x1 x7 x22 x23 x24 : AV) (rows : List Row) (low : Nat) (r : AV × List Row × Nat → Prop) : Prop := Ex F cx (.code c22s8 :: .inLoop c22l2 :: .inBlock 0 :: .code c22s1 :: []) ⟨mk 53 [(1, x1), (7, x7), (22, x22), (23, x23), (24, x24)], rows, low⟩ r
def Lc22l2 (F : Nat → Option IFn) (cx : Ctx) (x1 x7 x22 x23 x24 : AV) (rows : List Row) (low : Nat) (r : AV × List Row × Nat → Prop) : Prop := Ex F cx (.code c22l2 :: .inLoop c22l2 :: .inBlock 0 :: .code c22s1 :: []) ⟨mk 53 [(1, x1), (7, x7), (22, x22), (23, x23), (24, x24)], rows, low⟩ r
@[simp] theorem ec22l2 : Ex F cx (.code (.loop c22l2) :: .inBlock 0 :: .code c22s1 :: []) ⟨mk 53 l, rows, low⟩ r ↔ Lc22l2 F cx (lk l 1) (lk l 7) (lk l 22) (lk l 23) (lk l 24) rows low r := loopE (keep := [1, 7, 22, 23, 24]) (by kernel_rfl)
@[simp] theorem uc22l2 : Ex F cx (.code c22l2 :: k) s r ↔ Ex F cx (.code (.seq c22k10 c22s9) :: k) s r := Iff.rfl
def Jc22s15 (F : Nat → Option IFn) (cx : Ctx) (x1 x2 : AV) (rows : List Row) (low : Nat) (r : AV × List Row × Nat → Prop) : Prop := Ex F cx (.code c22s15 :: []) ⟨mk 53 [(1, x1), (2, x2)], rows, low⟩ r
@[simp] theorem uc22b : Ex F cx (.code c22b :: k) s r ↔ Ex F cx (.code (.seq c22k22 c22s21) :: k) s r := Iff.rfl
theorem i22 {x0 x1 : AV} (hF : F 22 = some c22) {q : AV × List Row × Option Nat} (h : Ex F (.fn [.t 4, .t 5]) [.code c22b] ⟨mk 53 [(0, x0), (1, x1)], rows, rows.length⟩ fun r => fin rows r.1 r.2.1 r.2.2 = q) : Ret F 22 [x0, x1] rows = some q := Ret_mk hF h
@[simp] theorem uc33k0 : Ex F cx (.code c33k0 :: k) ⟨mk 41 l, rows, low⟩ r ↔ Ex F cx k ⟨mk 41 [(5, (.int .i64 0)), (4, lk l 7), (40, lk l 7), (7, lk l 7)], rows, low⟩ r := rg [7] c33r0 rfl (by kernel_rfl)
@[simp] theorem uc33s1 : Ex F cx (.code c33s1 :: k) s r ↔ Ex F cx (.code (.seq c33k0 .ret) :: k) s r := Iff.rfl
@[simp] theorem uc33k3 : Ex F cx (.code c33k3 :: k) ⟨mk 41 l, rows, low⟩ r ↔ bnd (evP rows (.bin .add (.c (lk l 21)) (.c (.int .i64 1)))) fun v0 => Ex F cx k ⟨mk 41 [(21, v0), (39, v0), (1, lk l 1), (7, lk l 7), (19, lk l 19), (20, lk l 20), (21, lk l 21)], rows, low⟩ r := rg [1, 7, 19, 20, 21] c33r3 rfl (by kernel_rfl)
@[simp] theorem uc33k4 : Ex F cx (.code c33k4 :: k) ⟨mk 41 l, rows, low⟩ r ↔ bnd (evP (rows ++ maskE 0 ([] : List (Nat × Row))) (.idxA 2 1 (.c (lk l 9)) (.c (.int .i64 1)))) fun v0 => bnd (evP (rows ++ maskE 4 ([] : List (Nat × Row))) (.load1 (.c v0))) fun v1 => bnd (evP (rows ++ maskE 14 ([] : List (Nat × Row))) (.idxS 1 (.c (lk l 1)) (.c v1))) fun v2 => bnd (evP (rows ++ maskE 30 ([] : List (Nat × Row))) (.load1 (.c v2))) fun v3 => bnd (evP (rows ++ maskE 0 ([] : List (Nat × Row))) (.idxA 2 1 (.c (lk l 9)) (.c (.int .i64 0)))) fun v4 => bnd (evP (rows ++ maskE 128 ([] : List (Nat × Row))) (.load1 (.c v4))) fun v5 => bnd (evP (rows ++ maskE 448 ([] : List (Nat × Row))) (.idxS 1 (.c (lk l 1)) (.c v5))) fun v6 => bnd (evP (rows ++ maskE 960 ([] : List (Nat × Row))) (.load1 (.c v6))) fun v7 => bnd (evP (rows ++ maskE 2046 ([] : List (Nat × Row))) (.bin .sub (.c v3) (.c v7))) fun v8 => bnd (evE (rows ++ maskE 4094 ([] : List (Nat × Row))) (rows.length + ([] : List (Nat × Row)).length) (.mkslice 1 [.int .i64 0] [(0, 1, (.c v8))])) fun q9 => q9.2.2 = rows.length + ([] : List (Nat × Row)).length ∧ bnd (some (([] : List (Nat × Row)) ++ List.map (fun (x : Row) => (12, x)) (q9.2.1.drop (rows.length + ([] : List (Nat × Row)).length)))) fun e9 => bnd (evE (rows ++ List.map (fun (x : Nat × Row) => x.2) e9) low (.app 1 8 (.c (lk l 7)) (.c q9.1))) fun q10 => Ex F cx k ⟨mk 41 [(7, q10.1), (38, q10.1), (37, q9.1), (36, v8), (35, v7), (34, v6), (33, v5), (32, v4), (31, lk l 1), (30, v3), (29, v2), (28, v1), (27, v0), (26, lk l 1), (25, lk l 7), (1, lk l 1), (7, lk l 7), (9, lk l 9), (19, lk l 19), (20, lk l 20), (21, lk l 21)], q10.2.1, q10.2.2⟩ r := rg [1, 7, 9, 19, 20, 21] c33r4 rfl (by kernel_rfl)
@[simp] theorem uc33k5 : Ex F cx (.code c33k5 :: k) ⟨mk 41 l, rows, low⟩ r ↔ bnd (evP rows (.idxS 2 (.c (lk l 19)) (.c (lk l 21)))) fun v0 => bnd (evP rows (.loadN 2 (.c v0))) fun v1 => bnd (evE rows low (.box (.c (.agg [.int .i64 0, .int .i64 0])))) fun q2 => bnd (evE q2.2.1 q2.2.2 (.storeN 2 (.c q2.1) (.c v1))) fun q3 => Ex F cx k ⟨mk 41 [(9, q2.1), (24, v1), (23, v0), (1, lk l 1), (7, lk l 7), (19, lk l 19), (20, lk l 20), (21, lk l 21)], q3.2.1, q3.2.2⟩ r := rg [1, 7, 19, 20, 21] c33r5 rfl (by kernel_rfl)
@[simp] theorem uc33s6 : Ex F cx (.code c33s6 :: k) s r ↔ Ex F cx (.code (.seq (.block 1 (.seq c33k5 c33k4)) c33k3) :: k) s r := Iff.rfl
@[simp] theorem uc33s7 : Ex F cx (.code c33s7 :: k) s r ↔ Ex F cx (.code (.seq (.cond (.t 22) .skip (.exit 0)) c33s6) :: k) s r := Iff.rfl
@[simp] theorem uc33k8 : Ex F cx (.code c33k8 :: k) ⟨mk 41 l, rows, low⟩ r ↔ bnd (evP rows (.bin .lss (.c (lk l 21)) (.c (lk l 20)))) fun v0 => Ex F cx k ⟨mk 41 [(22, v0), (1, lk l 1), (7, lk l 7), (19, lk l 19), (20, lk l 20), (21, lk l 21)], rows, low⟩ r := rg [1, 7, 19, 20, 21] c33r8 rfl (by kernel_rfl)
@[simp] theorem uc33s9 : Ex F cx (.code c33s9 :: k) s r ↔ Ex F cx (.code (.block 0 (.loop c33l2)) :: k) s r := Iff.rfl
@[simp] theorem uc33k10 : Ex F cx (.code c33k10 :: k) ⟨mk 41 l, rows, low⟩ r ↔ bnd (evP rows (.fieldA 1 (.c (lk l 2)))) fun v0 => bnd (evP rows (.load1 (.c v0))) fun v1 => bnd (evP rows (.len 0 (.c v1))) fun v2 => Ex F cx k ⟨mk 41 [(21, (.int .i64 0)), (20, v2), (19, v1), (18, v0), (1, lk l 1), (2, lk l 2), (7, lk l 7)], rows, low⟩ r := rg [1, 2, 7] c33r10 rfl (by kernel_rfl)
@[simp] theorem uc33s11 : Ex F cx (.code c33s11 :: k) s r ↔ Ex F cx (.code (.seq (.seq c33k10 c33s9) c33s1) :: k) s r := Iff.rfl
@[simp] theorem uc33k12 : Ex F cx (.code c33k12 :: k) ⟨mk 41 l, rows, low⟩ r ↔ Ex F cx k ⟨mk 41 [(7, .nilslice), (1, lk l 1), (2, lk l 2)], rows, low⟩ r := rg [1, 2] c33r12 rfl (by kernel_rfl)
@[simp] theorem uc33s13 : Ex F cx (.code c33s13 :: k) s r ↔ Ex F cx (.code (.seq c33k12 c33s11) :: k) s r := Iff.rfl
@[simp] theorem uc33k14 : Ex F cx (.code c33k14 :: k) ⟨mk 41 l, rows, low⟩ r ↔ Ex F cx k ⟨mk 41 [(5, lk l 6), (4, .nilslice), (17, lk l 6), (6, lk l 6)], rows, low⟩ r := rg [6] c33r14 rfl (by kernel_rfl)
@[simp] theorem uc33s15 : Ex F cx (.code c33s15 :: k) s r ↔ Ex F cx (.code (.cond (.t 16) (.seq c33k14 .ret) .skip) :: k) s r := Iff.rfl
@[simp] theorem uc33k16 : Ex F cx (.code c33k16 :: k) ⟨mk 41 l, rows, low⟩ r ↔ bnd (evP rows (.bin .neq (.c (lk l 6)) (.c (.int .i64 0)))) fun v0 => Ex F cx k ⟨mk 41 [(16, v0), (15, lk l 6), (1, lk l 1), (2, lk l 2), (6, lk l 6)], rows, low⟩ r := rg [1, 2, 6] c33r16 rfl (by kernel_rfl)
@[simp] theorem uc33s17 : Ex F cx (.code c33s17 :: k) s r ↔ Ex F cx (.code (.seq c33k16 c33s15) :: k) s r := Iff.rfl
@[simp] theorem uc33k18 : Ex F cx (.code c33k18 :: k) ⟨mk 41 l, rows, low⟩ r ↔ bnd (evP rows (.loadN 3 (.c (lk l 2)))) fun v0 => bnd (evP rows (.loadN 3 (.c (lk l 2)))) fun v1 => bnd (evP rows (.bind 74 [(.c v1)])) fun v2 => bnd (Ret F 66 [v0, lk l 1, v2] rows) fun q3 => Ex F cx k ⟨mk 41 [(6, q3.1), (14, q3.1), (13, v2), (12, v1), (11, lk l 1), (10, v0), (1, lk l 1), (2, lk l 2)], q3.2.1, (lowO low q3.2.2)⟩ r := rg [1, 2] c33r18 rfl (by kernel_rfl)
@[simp] theorem uc33s19 : Ex F cx (.code c33s19 :: k) s r ↔ Ex F cx (.code (.seq (.seq c33k18 c33s17) c33s13) :: k) s r := Iff.rfl
@[simp] theorem uc33k20 : Ex F cx (.code c33k20 :: k) ⟨mk 41 l, rows, low⟩ r ↔ bnd (evE rows low (.box (.c (lk l 0)))) fun q0 => Ex F cx k ⟨mk 41 [(5, (.int .i64 0)), (4, .nilslice), (2, q0.1), (0, lk l 0), (1, lk l 1)], q0.2.1, q0.2.2⟩ r := rg [0, 1] c33r20 rfl (by kernel_rfl)
def Jc33s6 (F : Nat → Option IFn) (cx : Ctx) (x1 x7 x19 x20 x21 : AV) (rows : List Row) (low : Nat) (r : AV × List Row × Nat → Prop) : Prop := Ex F cx (.code c33s6 :: .inLoop c33l2 :: .inBlock 0 :: .code c33s1 :: []) ⟨mk 41 [(1, x1), (7, x7), (19, x19), (20, x20), (21, x21)], rows, low⟩ r
def Lc33l2 (F : Nat → Option IFn) (cx : Ctx) (x1 x7 x19 x20 x21 : AV) (rows : List Row) (low : Nat) (r : AV × List Row × Nat → Prop) : Prop := Ex F cx (.code c33l2 :: .inLoop c33l2 :: .inBlock 0 :: .code c33s1 :: []) ⟨mk 41 [(1, x1), (7, x7), (19, x19), (20, x20), (21, x21)], rows, low⟩ r
@[simp] theorem nc33l2 : Ex F cx (.inLoop c33l2 :: .inBlock 0 :: .code c33s1 :: []) ⟨mk 41 l, rows, low⟩ r ↔ Lc33l2 F cx (lk l 1) (lk l 7) (lk l 19) (lk l 20) (lk l 21) rows low r := loopN (keep := [1, 7, 19, 20, 21]) (by kernel_rfl)
@[simp] theorem ec33l2 : Ex F cx (.code (.loop c33l2) :: .inBlock 0 :: .code c33s1 :: []) ⟨mk 41 l, rows, low⟩ r ↔ Lc33l2 F cx (lk l 1) (lk l 7) (lk l 19) (lk l 20) (lk l 21) rows low r := loopE (keep := [1, 7, 19, 20, 21]) (by kernel_rfl)
@[simp] theorem uc33l2 : Ex F cx (.code c33l2 :: k) s r ↔ Ex F cx (.code (.seq c33k8 c33s7) :: k) s r := Iff.rfl
def Jc33s13 (F : Nat → Option IFn) (cx : Ctx) (x1 x2 : AV) (rows : List Row) (low : Nat) (r : AV × List Row × Nat → Prop) : Prop := Ex F cx (.code c33s13 :: []) ⟨mk 41 [(1, x1), (2, x2)], rows, low⟩ r
@[simp] theorem uc33b : Ex F cx (.code c33b :: k) s r ↔ Ex F cx (.code (.seq c33k20 c33s19) :: k) s r := Iff.rfl
theorem i33 {x0 x1 : AV} (hF : F 33 = some c33) {q : AV × List Row × Option Nat} (h : Ex F (.fn [.t 4, .t 5]) [.code c33b] ⟨mk 41 [(0, x0), (1, x1)], rows, rows.length⟩ fun r => fin rows r.1 r.2.1 r.2.2 = q) : Ret F 33 [x0, x1] rows = some q := Ret_mk hF h
@[simp] theorem uc38k0 : Ex F cx (.code c38k0 :: k) ⟨mk 47 l, rows, low⟩ r ↔ bnd (evP rows (.load1 (.c (lk l 7)))) fun v0 => Ex F cx k ⟨mk 47 [(5, (.int .i64 0)), (4, v0), (46, v0), (7, lk l 7)], rows, low⟩ r := rg [7] c38r0 rfl (by kernel_rfl)
@[simp] theorem uc38s1 : Ex F cx (.code c38s1 :: k) s r ↔ Ex F cx (.code (.seq c38k0 .ret) :: k) s r := Iff.rfl
@[simp] theorem uc38k3 : Ex F cx (.code c38k3 :: k) ⟨mk 47 l, rows, low⟩ r ↔ bnd (evP rows (.bin .add (.c (lk l 26)) (.c (.int .i64 1)))) fun v0 => Ex F cx k ⟨mk 47 [(26, v0), (45, v0), (2, lk l 2), (4, lk l 4), (5, lk l 5), (7, lk l 7), (24, lk l 24), (25, lk l 25), (26, lk l 26)], rows, low⟩ r := rg [2, 4, 5, 7, 24, 25, 26] c38r3 rfl (by kernel_rfl)
@[simp] theorem uc38k5 : Ex F cx (.code c38k5 :: k) ⟨mk 47 l, rows, low⟩ r ↔ bnd (evP rows (.load1 (.c (lk l 7)))) fun v0 => bnd (evP rows (.idxS 1 (.c v0) (.c (lk l 10)))) fun v1 => bnd (evP rows (.load1 (.c v1))) fun v2 => bnd (evP rows (.load1 (.c (lk l 9)))) fun v3 => bnd (evP rows (.bin .mul (.c (lk l 11)) (.c v3))) fun v4 => bnd (evP rows (.bin .add (.c v2) (.c v4))) fun v5 => bnd (evP rows (.idxS 1 (.c v0) (.c (lk l 10)))) fun v6 => bnd (evE rows low (.store1 (.c v6) (.c v5))) fun q7 => Ex F cx k ⟨mk 47 [(44, v6), (43, v5), (42, v4), (41, v3), (40, lk l 11), (39, v2), (38, v1), (37, lk l 10), (36, v0), (7, lk l 7), (9, lk l 9), (10, lk l 10), (11, lk l 11)], q7.2.1, q7.2.2⟩ r := rg [7, 9, 10, 11] c38r5 rfl (by kernel_rfl)
@[simp] theorem uc38k6 : Ex F cx (.code c38k6 :: k) ⟨mk 47 l, rows, low⟩ r ↔ Ex F cx k ⟨mk 47 [(11, lk l 35), (7, lk l 7), (9, lk l 9), (10, lk l 10), (35, lk l 35)], rows, low⟩ r := rg [7, 9, 10, 35] c38r6 rfl (by kernel_rfl)
@[simp] theorem uc38k7 : Ex F cx (.code c38k7 :: k) ⟨mk 47 l, rows, low⟩ r ↔ Ex F cx k ⟨mk 47 [(10, lk l 34), (7, lk l 7), (9, lk l 9), (34, lk l 34), (35, lk l 35)], rows, low⟩ r := rg [7, 9, 34, 35] c38r7 rfl (by kernel_rfl)
@[simp] theorem uc38f4a : Ex F cx (.code c38f4a :: k) s r ↔ Ex F cx (.code (.seq c38k7 c38k6) :: k) s r := Iff.rfl
@[simp] theorem uc38f4b : Ex F cx (.code c38f4b :: k) s r ↔ Ex F cx (.code (.block 3 c38k5) :: k) s r := Iff.rfl
@[simp] theorem uc38s8 : Ex F cx (.code c38s8 :: k) s r ↔ Ex F cx (.code (.block 2 (.rf (.t 33) [34, 35] c38f4a c38f4b)) :: k) s r := Iff.rfl
@[simp] theorem uc38k9 : Ex F cx (.code c38k9 :: k) ⟨mk 47 l, rows, low⟩ r ↔ bnd (evP rows (.loadN 3 (.c (lk l 2)))) fun v0 => bnd (Ret F 62 [v0, lk l 8] rows) fun q1 => Ex F cx k ⟨mk 47 [(33, q1.1), (32, lk l 8), (31, v0), (2, lk l 2), (4, lk l 4), (5, lk l 5), (7, lk l 7), (8, lk l 8), (9, lk l 9), (24, lk l 24), (25, lk l 25), (26, lk l 26)], q1.2.1, (lowO low q1.2.2)⟩ r := rg [2, 4, 5, 7, 8, 9, 24, 25, 26] c38r9 rfl (by kernel_rfl)
@[simp] theorem uc38s10 : Ex F cx (.code c38s10 :: k) s r ↔ Ex F cx (.code (.seq c38k9 c38s8) :: k) s r := Iff.rfl
@[simp] theorem uc38k11 : Ex F cx (.code c38k11 :: k) ⟨mk 47 l, rows, low⟩ r ↔ bnd (evP rows (.idxS 1 (.c (lk l 24)) (.c (lk l 26)))) fun v0 => bnd (evP rows (.load1 (.c v0))) fun v1 => bnd (evE rows low (.box (.c (.int .i64 0)))) fun q2 => bnd (evE q2.2.1 q2.2.2 (.store1 (.c q2.1) (.c v1))) fun q3 => Ex F cx k ⟨mk 47 [(8, lk l 26), (9, q2.1), (30, v1), (29, v0), (28, lk l 26), (2, lk l 2), (4, lk l 4), (5, lk l 5), (7, lk l 7), (24, lk l 24), (25, lk l 25), (26, lk l 26)], q3.2.1, q3.2.2⟩ r := rg [2, 4, 5, 7, 24, 25, 26] c38r11 rfl (by kernel_rfl)
@[simp] theorem uc38s12 : Ex F cx (.code c38s12 :: k) s r ↔ Ex F cx (.code (.seq (.block 1 (.seq c38k11 c38s10)) c38k3) :: k) s r := Iff.rfl
@[simp] theorem uc38s13 : Ex F cx (.code c38s13 :: k) s r ↔ Ex F cx (.code (.seq (.cond (.t 27) .skip (.exit 0)) c38s12) :: k) s r := Iff.rfl
@[simp] theorem uc38k14 : Ex F cx (.code c38k14 :: k) ⟨mk 47 l, rows, low⟩ r ↔ bnd (evP rows (.bin .lss (.c (lk l 26)) (.c (lk l 25)))) fun v0 => Ex F cx k ⟨mk 47 [(27, v0), (2, lk l 2), (4, lk l 4), (5, lk l 5), (7, lk l 7), (24, lk l 24), (25, lk l 25), (26, lk l 26)], rows, low⟩ r := rg [2, 4, 5, 7, 24, 25, 26] c38r14 rfl (by kernel_rfl)
@[simp] theorem uc38s15 : Ex F cx (.code c38s15 :: k) s r ↔ Ex F cx (.code (.block 0 (.loop c38l2)) :: k) s r := Iff.rfl
@[simp] theorem uc38k16 : Ex F cx (.code c38k16 :: k) ⟨mk 47 l, rows, low⟩ r ↔ bnd (evP rows (.len 0 (.c (lk l 1)))) fun v0 => Ex F cx k ⟨mk 47 [(26, (.int .i64 0)), (25, v0), (24, lk l 1), (1, lk l 1), (2, lk l 2), (4, lk l 4), (5, lk l 5), (7, lk l 7)], rows, low⟩ r := rg [1, 2, 4, 5, 7] c38r16 rfl (by kernel_rfl)
@[simp] theorem uc38s17 : Ex F cx (.code c38s17 :: k) s r ↔ Ex F cx (.code (.seq (.seq c38k16 c38s15) c38s1) :: k) s r := Iff.rfl
@[simp] theorem uc38k18 : Ex F cx (.code c38k18 :: k) ⟨mk 47 l, rows, low⟩ r ↔ bnd (evP rows (.fieldA 1 (.c (lk l 2)))) fun v0 => bnd (evP rows (.load1 (.c v0))) fun v1 => bnd (evP rows (.len 0 (.c v1))) fun v2 => bnd (evE rows low (.make [.int .i64 0] 8 (.c v2) (.c v2))) fun q3 => bnd (evE q3.2.1 q3.2.2 (.box (.c .nilslice))) fun q4 => bnd (evE q4.2.1 q4.2.2 (.store1 (.c q4.1) (.c q3.1))) fun q5 => Ex F cx k ⟨mk 47 [(7, q4.1), (23, q3.1), (22, v2), (21, v1), (20, v0), (1, lk l 1), (2, lk l 2), (4, lk l 4), (5, lk l 5)], q5.2.1, q5.2.2⟩ r := rg [1, 2, 4, 5] c38r18 rfl (by kernel_rfl)
@[simp] theorem uc38s19 : Ex F cx (.code c38s19 :: k) s r ↔ Ex F cx (.code (.seq c38k18 c38s17) :: k) s r := Iff.rfl
@[simp] theorem uc38k20 : Ex F cx (.code c38k20 :: k) ⟨mk 47 l, rows, low⟩ r ↔ Ex F cx k ⟨mk 47 [(5, lk l 6), (4, .nilslice), (19, lk l 6), (6, lk l 6)], rows, low⟩ r := rg [6] c38r20 rfl (by kernel_rfl)
@[simp] theorem uc38s21 : Ex F cx (.code c38s21 :: k) s r ↔ Ex F cx (.code (.cond (.t 18) (.seq c38k20 .ret) .skip) :: k) s r := Iff.rfl
@[simp] theorem uc38k22 : Ex F cx (.code c38k22 :: k) ⟨mk 47 l, rows, low⟩ r ↔ bnd (evP rows (.bin .neq (.c (lk l 6)) (.c (.int .i64 0)))) fun v0 => Ex F cx k ⟨mk 47 [(18, v0), (17, lk l 6), (1, lk l 1), (2, lk l 2), (4, lk l 4), (5, lk l 5), (6, lk l 6)], rows, low⟩ r := rg [1, 2, 4, 5, 6] c38r22 rfl (by kernel_rfl)
@[simp] theorem uc38s23 : Ex F cx (.code c38s23 :: k) s r ↔ Ex F cx (.code (.seq c38k22 c38s21) :: k) s r := Iff.rfl
@[simp] theorem uc38k24 : Ex F cx (.code c38k24 :: k) ⟨mk 47 l, rows, low⟩ r ↔ bnd (evP rows (.loadN 3 (.c (lk l 2)))) fun v0 => bnd (evP rows (.loadN 3 (.c (lk l 2)))) fun v1 => bnd (evP rows (.bind 77 [(.c v1)])) fun v2 => bnd (Ret F 66 [v0, lk l 1, v2] rows) fun q3 => Ex F cx k ⟨mk 47 [(6, q3.1), (16, q3.1), (15, v2), (14, v1), (13, lk l 1), (12, v0), (1, lk l 1), (2, lk l 2), (4, lk l 4), (5, lk l 5)], q3.2.1, (lowO low q3.2.2)⟩ r := rg [1, 2, 4, 5] c38r24 rfl (by kernel_rfl)
@[simp] theorem uc38s25 : Ex F cx (.code c38s25 :: k) s r ↔ Ex F cx (.code (.seq (.seq c38k24 c38s23) c38s19) :: k) s r := Iff.rfl
@[simp] theorem uc38k26 : Ex F cx (.code c38k26 :: k) ⟨mk 47 l, rows, low⟩ r ↔ bnd (evE rows low (.box (.c (lk l 0)))) fun q0 => Ex F cx k ⟨mk 47 [(5, (.int .i64 0)), (4, .nilslice), (2, q0.1), (0, lk l 0), (1, lk l 1)], q0.2.1, q0.2.2⟩ r := rg [0, 1] c38r26 rfl (by kernel_rfl)
def Jc38s12 (F : Nat → Option IFn) (cx : Ctx) (x2 x4 x5 x7 x24 x25 x26 : AV) (rows : List Row) (low : Nat) (r : AV × List Row × Nat → Prop) : Prop := Ex F cx (.code c38s12 :: .inLoop c38l2 :: .inBlock 0 :: .code c38s1 :: []) ⟨mk 47 [(2, x2), (4, x4), (5, x5), (7, x7), (24, x24), (25, x25), (26, x26)], rows, low⟩ r
def Lc38l2 (F : Nat → Option IFn) (cx : Ctx) (x2 x4 x5 x7 x24 x25 x26 : AV) (rows : List Row) (low : Nat) (r : AV × List Row × Nat → Prop) : Prop := Ex F cx (.code c38l2 :: .inLoop c38l2 :: .inBlock 0 :: .code c38s1 :: []) ⟨mk 47 [(2, x2), (4, x4), (5, x5), (7, x7), (24, x24), (25, x25), (26, x26)], rows, low⟩ r
@[simp] theorem nc38l2 : Ex F cx (.inLoop c38l2 :: .inBlock 0 :: .code c38s1 :: []) ⟨mk 47 l, rows, low⟩ r ↔ Lc38l2 F cx (lk l 2) (lk l 4) (lk l 5) (lk l 7) (lk l 24) (lk l 25) (lk l 26) rows low r := loopN (keep := [2, 4, 5, 7, 24, 25, 26]) (by kernel_rfl)
@[simp] theorem ec38l2 : Ex F cx (.code (.loop c38l2) :: .inBlock 0 :: .code c38s1 :: []) ⟨mk 47 l, rows, low⟩ r ↔ Lc38l2 F cx (lk l 2) (lk l 4) (lk l 5) (lk l 7) (lk l 24) (lk l 25) (lk l 26) rows low r := loopE (keep := [2, 4, 5, 7, 24, 25, 26]) (by kernel_rfl)
@[simp] theorem uc38l2 : Ex F cx (.code c38l2 :: k) s r ↔ Ex F cx (.code (.seq c38k14 c38s13) :: k) s r := Iff.rfl
def Jc38s19 (F : Nat → Option IFn) (cx : Ctx) (x1 x2 x4 x5 : AV) (rows : List Row) (low : Nat) (r : AV × List Row × Nat → Prop) : Prop := Ex F cx (.code c38s19 :: []) ⟨mk 47 [(1, x1), (2, x2), (4, x4), (5, x5)], rows, low⟩ r
@[simp] theorem uc38b : Ex F cx (.code c38b :: k) s r ↔ Ex F cx (.code (.seq c38k26 c38s25) :: k) s r := Iff.rfl
theorem i38 {x0 x1 : AV} (hF : F 38 = some c38) {q : AV × List Row × Option Nat} (h : Ex F (.fn [.t 4, .t 5]) [.code c38b] ⟨mk 47 [(0, x0), (1, x1)], rows, rows.length⟩ fun r => fin rows r.1 r.2.1 r.2.2 = q) : Ret F 38 [x0, x1] rows = some q := Ret_mk hF h
@[simp] theorem uc39k0 : Ex F cx (.code c39k0 :: k) ⟨mk 28 l, rows, low⟩ r ↔ bnd (evP rows (.len 0 (.c (lk l 0)))) fun v0 => bnd (evP rows (.bin .eql (.c v0) (.c (lk l 1)))) fun v1 => Ex F cx k ⟨mk 28 [(4, v1), (27, v1), (26, lk l 1), (25, v0), (24, lk l 0), (0, lk l 0), (1, lk l 1)], rows, low⟩ r := rg [0, 1] c39r0 rfl (by kernel_rfl)
@[simp] theorem uc39s1 : Ex F cx (.code c39s1 :: k) s r ↔ Ex F cx (.code (.seq c39k0 .ret) :: k) s r := Iff.rfl
@[simp] theorem uc39k3 : Ex F cx (.code c39k3 :: k) ⟨mk 28 l, rows, low⟩ r ↔ bnd (evP rows (.bin .add (.c (lk l 5)) (.c (.int .i64 1)))) fun v0 => Ex F cx k ⟨mk 28 [(5, v0), (11, v0), (10, lk l 5), (0, lk l 0), (1, lk l 1), (5, lk l 5)], rows, low⟩ r := rg [0, 1, 5] c39r3 rfl (by kernel_rfl)
@[simp] theorem uc39k4 : Ex F cx (.code c39k4 :: k) ⟨mk 28 l, rows, low⟩ r ↔ Ex F cx k ⟨mk 28 [(4, (.bool false))], rows, low⟩ r := rg [] c39r4 rfl (by kernel_rfl)
@[simp] theorem uc39s5 : Ex F cx (.code c39s5 :: k) s r ↔ Ex F cx (.code (.cond (.t 23) (.seq c39k4 .ret) .skip) :: k) s r := Iff.rfl
@[simp] theorem uc39k6 : Ex F cx (.code c39k6 :: k) ⟨mk 28 l, rows, low⟩ r ↔ bnd (evP rows (.idxS 1 (.c (lk l 0)) (.c (lk l 5)))) fun v0 => bnd (evP rows (.load1 (.c v0))) fun v1 => bnd (evP rows (.bin .lss (.c v1) (.c (.int .i64 (-100))))) fun v2 => bnd (gv v2 false (evP rows (.mv (.c (lk l 0))))) fun v3 => bnd (gv v2 false (evP rows (.mv (.c (lk l 5))))) fun v4 => bnd (gv v2 false (evP rows (.idxS 1 (.c v3) (.c v4)))) fun v5 => bnd (gv v2 false (evP rows (.load1 (.c v5)))) fun v6 => bnd (gv v2 false (evP rows (.bin .gtr (.c v6) (.c (.int .i64 100))))) fun v7 => bnd (evP rows (.pick (.c v2) (.c (.bool true)) (.c v7))) fun v8 => Ex F cx k ⟨mk 28 [(23, v8), (22, v7), (21, v6), (20, v5), (19, v4), (18, v3), (17, v2), (16, v2), (15, v1), (14, v0), (13, lk l 5), (12, lk l 0), (0, lk l 0), (1, lk l 1), (5, lk l 5)], rows, low⟩ r := rg [0, 1, 5] c39r6 rfl (by kernel_rfl)
@[simp] theorem uc39s7 : Ex F cx (.code c39s7 :: k) s r ↔ Ex F cx (.code (.seq (.block 1 (.seq c39k6 c39s5)) c39k3) :: k) s r := Iff.rfl
@[simp] theorem uc39s8 : Ex F cx (.code c39s8 :: k) s r ↔ Ex F cx (.code (.cond (.t 9) .skip (.exit 0)) :: k) s r := Iff.rfl
@[simp] theorem uc39k9 : Ex F cx (.code c39k9 :: k) ⟨mk 28 l, rows, low⟩ r ↔ bnd (evP rows (.len 0 (.c (lk l 0)))) fun v0 => bnd (evP rows (.bin .lss (.c (lk l 5)) (.c v0))) fun v1 => Ex F cx k ⟨mk 28 [(9, v1), (8, v0), (7, lk l 0), (6, lk l 5), (0, lk l 0), (1, lk l 1), (5, lk l 5)], rows, low⟩ r := rg [0, 1, 5] c39r9 rfl (by kernel_rfl)
@[simp] theorem uc39s10 : Ex F cx (.code c39s10 :: k) s r ↔ Ex F cx (.code (.block 0 (.loop c39l2)) :: k) s r := Iff.rfl
@[simp] theorem uc39k11 : Ex F cx (.code c39k11 :: k) ⟨mk 28 l, rows, low⟩ r ↔ Ex F cx k ⟨mk 28 [(5, (.int .i64 0)), (0, lk l 0), (1, lk l 1)], rows, low⟩ r := rg [0, 1] c39r11 rfl (by kernel_rfl)
@[simp] theorem uc39s12 : Ex F cx (.code c39s12 :: k) s r ↔ Ex F cx (.code (.seq (.seq c39k11 c39s10) c39s1) :: k) s r := Iff.rfl
@[simp] theorem uc39k13 : Ex F cx (.code c39k13 :: k) ⟨mk 28 l, rows, low⟩ r ↔ Ex F cx k ⟨mk 28 [(4, (.bool false)), (0, lk l 0), (1, lk l 1)], rows, low⟩ r := rg [0, 1] c39r13 rfl (by kernel_rfl)
def Jc39s7 (F : Nat → Option IFn) (cx : Ctx) (x0 x1 x5 : AV) (rows : List Row) (low : Nat) (r : AV × List Row × Nat → Prop) : Prop := Ex F cx (.code c39s7 :: .inLoop c39l2 :: .inBlock 0 :: .code c39s1 :: []) ⟨mk 28 [(0, x0), (1, x1), (5, x5)], rows, low⟩ r
def Lc39l2 (F : Nat → Option IFn) (cx : Ctx) (x0 x1 x5 : AV) (rows : List Row) (low : Nat) (r : AV × List Row × Nat → Prop) : Prop := Ex F cx (.code c39l2 :: .inLoop c39l2 :: .inBlock 0 :: .code c39s1 :: []) ⟨mk 28 [(0, x0), (1, x1), (5, x5)], rows, low⟩ r
@[simp] theorem nc39l2 : Ex F cx (.inLoop c39l2 :: .inBlock 0 :: .code c39s1 :: []) ⟨mk 28 l, rows, low⟩ r ↔ Lc39l2 F cx (lk l 0) (lk l 1) (lk l 5) rows low r := loopN (keep := [0, 1, 5]) (by kernel_rfl)
@[simp] theorem ec39l2 : Ex F cx (.code (.loop c39l2) :: .inBlock 0 :: .code c39s1 :: []) ⟨mk 28 l, rows, low⟩ r ↔ Lc39l2 F cx (lk l 0) (lk l 1) (lk l 5) rows low r := loopE (keep := [0, 1, 5]) (by kernel_rfl)
@[simp] theorem uc39l2 : Ex F cx (.code c39l2 :: k) s r ↔ Ex F cx (.code (.seq (.seq c39k9 c39s8) c39s7) :: k) s r := Iff.rfl
@[simp] theorem uc39b : Ex F cx (.code c39b :: k) s r ↔ Ex F cx (.code (.seq c39k13 c39s12) :: k) s r := Iff.rfl
theorem i39 {x0 x1 : AV} (hF : F 39 = some c39) {q : AV × List Row × Option Nat} (h : Ex F (.fn [.t 4]) [.code c39b] ⟨mk 28 [(0, x0), (1, x1)], rows, rows.length⟩ fun r => fin rows r.1 r.2.1 r.2.2 = q) : Ret F 39 [x0, x1] rows = some q := Ret_mk hF h
@[simp] theorem uc40s1 : Ex F cx (.code c40s1 :: k) s r ↔ Ex F cx (.code (.seq c40k0 .ret) :: k) s r := Iff.rfl
@[simp] theorem uc40f5a : Ex F cx (.code c40f5a :: k) s r ↔ Ex F cx (.code (.seq c40k8 c40k7) :: k) s r := Iff.rfl
@[simp] theorem uc40f5b : Ex F cx (.code c40f5b :: k) s r ↔ Ex F cx (.code (.block 3 c40k6) :: k) s r := Iff.rfl
@[simp] theorem uc40s9 : Ex F cx (.code c40s9 :: k) s r ↔ Ex F cx (.code (.block 2 (.rf (.t 28) [29, 30] c40f5a c40f5b)) :: k) s r := Iff.rfl
@[simp] theorem uc40s11 : Ex F cx (.code c40s11 :: k) s r ↔ Ex F cx (.code (.seq (.seq c40k10 c40s9) c40k4) :: k) s r := Iff.rfl
@[simp] theorem uc40s13 : Ex F cx (.code c40s13 :: k) s r ↔ Ex F cx (.code (.seq c40k12 c40s11) :: k) s r := Iff.rfl
@[simp] theorem uc40s15 : Ex F cx (.code c40s15 :: k) s r ↔ Ex F cx (.code (.seq (.block 1 (.seq c40k14 c40s13)) c40k3) :: k) s r := Iff.rfl
@[simp] theorem uc40s16 : Ex F cx (.code c40s16 :: k) s r ↔ Ex F cx (.code (.seq (.cond (.t 24) .skip (.exit 0)) c40s15) :: k) s r := Iff.rfl
@[simp] theorem uc40s18 : Ex F cx (.code c40s18 :: k) s r ↔ Ex F cx (.code (.block 0 (.loop c40l2)) :: k) s r := Iff.rfl
@[simp] theorem uc40k19 : Ex F cx (.code c40k19 :: k) ⟨mk 45 l, rows, low⟩ r ↔ bnd (evP rows (.fieldA 2 (.c (lk l 2)))) fun v0 => bnd (evP rows (.load1 (.c v0))) fun v1 => bnd (evP rows (.len 0 (.c v1))) fun v2 => Ex F cx k ⟨mk 45 [(23, (.int .i64 0)), (22, v2), (21, v1), (20, v0), (2, lk l 2), (3, lk l 3), (4, lk l 4), (5, lk l 5), (7, lk l 7)], rows, low⟩ r := rg [2, 3, 4, 5, 7] c40r19 rfl (by kernel_rfl)
@[simp] theorem uc40s20 : Ex F cx (.code c40s20 :: k) s r ↔ Ex F cx (.code (.seq (.seq c40k19 c40s18) c40s1) :: k) s r := Iff.rfl
@[simp] theorem uc40k21 : Ex F cx (.code c40k21 :: k) ⟨mk 45 l, rows, low⟩ r ↔ Ex F cx k ⟨mk 45 [(7, .nilslice), (2, lk l 2), (3, lk l 3), (4, lk l 4), (5, lk l 5)], rows, low⟩ r := rg [2, 3, 4, 5] c40r21 rfl (by kernel_rfl)
@[simp] theorem uc40s22 : Ex F cx (.code c40s22 :: k) s r ↔ Ex F cx (.code (.seq c40k21 c40s20) :: k) s r := Iff.rfl
@[simp] theorem uc40k23 : Ex F cx (.code c40k23 :: k) ⟨mk 45 l, rows, low⟩ r ↔ Ex F cx k ⟨mk 45 [(5, lk l 6), (4, .nilslice), (19, lk l 6), (6, lk l 6)], rows, low⟩ r := rg [6] c40r23 rfl (by kernel_rfl)
@[simp] theorem uc40s24 : Ex F cx (.code c40s24 :: k) s r ↔ Ex F cx (.code (.cond (.t 18) (.seq c40k23 .ret) .skip) :: k) s r := Iff.rfl
@[simp] theorem uc40k25 : Ex F cx (.code c40k25 :: k) ⟨mk 45 l, rows, low⟩ r ↔ bnd (evP rows (.bin .neq (.c (lk l 6)) (.c (.int .i64 0)))) fun v0 => Ex F cx k ⟨mk 45 [(18, v0), (17, lk l 6), (2, lk l 2), (3, lk l 3), (4, lk l 4), (5, lk l 5), (6, lk l 6)], rows, low⟩ r := rg [2, 3, 4, 5, 6] c40r25 rfl (by kernel_rfl)
@[simp] theorem uc40s26 : Ex F cx (.code c40s26 :: k) s r ↔ Ex F cx (.code (.seq c40k25 c40s24) :: k) s r := Iff.rfl
@[simp] theorem uc40k27 : Ex F cx (.code c40k27 :: k) ⟨mk 45 l, rows, low⟩ r ↔ bnd (evP rows (.loadN 3 (.c (lk l 2)))) fun v0 => bnd (evP rows (.load1 (.c (lk l 3)))) fun v1 => bnd (evP rows (.loadN 3 (.c (lk l 2)))) fun v2 => bnd (evP rows (.bind 67 [(.c v2)])) fun v3 => bnd (Ret F 66 [v0, v1, v3] rows) fun q4 => Ex F cx k ⟨mk 45 [(6, q4.1), (16, q4.1), (15, v3), (14, v2), (13, v1), (12, v0), (2, lk l 2), (3, lk l 3), (4, lk l 4), (5, lk l 5)], q4.2.1, (lowO low q4.2.2)⟩ r := rg [2, 3, 4, 5] c40r27 rfl (by kernel_rfl)
@[simp] theorem uc40s28 : Ex F cx (.code c40s28 :: k) s r ↔ Ex F cx (.code (.seq (.seq c40k27 c40s26) c40s22) :: k) s r := Iff.rfl
@[simp] theorem uc40k29 : Ex F cx (.code c40k29 :: k) ⟨mk 45 l, rows, low⟩ r ↔ bnd (evE rows low (.box (.c (lk l 0)))) fun q0 => bnd (evE q0.2.1 q0.2.2 (.box (.c (lk l 1)))) fun q1 => Ex F cx k ⟨mk 45 [(5, (.int .i64 0)), (4, .nilslice), (3, q1.1), (2, q0.1), (0, lk l 0), (1, lk l 1)], q1.2.1, q1.2.2⟩ r := rg [0, 1] c40r29 rfl (by kernel_rfl)
def Jc40s15 (F : Nat → Option IFn) (cx : Ctx) (x2 x3 x4 x5 x7 x22 x23 : AV) (rows : List Row) (low : Nat) (r : AV × List Row × Nat → Prop) : Prop := Ex F cx (.code c40s15 :: .inLoop c40l2 :: .inBlock 0 :: .code c40s1 :: []) ⟨mk 45 [(2, x2), (3, x3), (4, x4), (5, x5), (7, x7), (22, x22), (23, x23)], rows, low⟩ r
def Lc40l2 (F : Nat → Option IFn) (cx : Ctx) (x2 x3 x4 x5 x7 x22 x23 : AV) (rows : List Row) (low : Nat) (r : AV × List Row × Nat → Prop) : Prop := Ex F cx (.code c40l2 :: .inLoop c40l2 :: .inBlock 0 :: .code c40s1 :: []) ⟨mk 45 [(2, x2), (3, x3), (4, x4), (5, x5), (7, x7), (22, x22), (23, x23)], rows, low⟩ r
@[simp] theorem ec40l2 : Ex F cx (.code (.loop c40l2) :: .inBlock 0 :: .code c40s1 :: []) ⟨mk 45 l, rows, low⟩ r ↔ Lc40l2 F cx (lk l 2) (lk l 3) (lk l 4) (lk l 5) (lk l 7) (lk l 22) (lk l 23) rows low r := loopE (keep := [2, 3, 4, 5, 7, 22, 23]) (by kernel_rfl)
@[simp] theorem uc40l2 : Ex F cx (.code c40l2 :: k) s r ↔ Ex F cx (.code (.seq c40k17 c40s16) :: k) s r := Iff.rfl
def Jc40s22 (F : Nat → Option IFn) (cx : Ctx) (x2 x3 x4 x5 : AV) (rows : List Row) (low : Nat) (r : AV × List Row × Nat → Prop) : Prop := Ex F cx (.code c40s22 :: []) ⟨mk 45 [(2, x2), (3, x3), (4, x4), (5, x5)], rows, low⟩ r
@[simp] theorem uc40b : Ex F cx (.code c40b :: k) s r ↔ Ex F cx (.code (.seq c40k29 c40s28) :: k) s r := Iff.rfl
theorem i40 {x0 x1 : AV} (hF : F 40 = some c40) {q : AV × List Row × Option Nat} (h : Ex F (.fn [.t 4, .t 5]) [.code c40b] ⟨mk 45 [(0, x0), (1, x1)], rows, rows.length⟩ fun r => fin rows r.1 r.2.1 r.2.2 = q) : Ret F 40 [x0, x1] rows = some q := Ret_mk hF h
@[simp] theorem uc41s1 : Ex F cx (.code c41s1 :: k) s r ↔ Ex F cx (.code (.seq c41k0 .ret) :: k) s r := Iff.rfl
@[simp] theorem uc41s5 : Ex F cx (.code c41s5 :: k) s r ↔ Ex F cx (.code (.cond (.t 49) (.seq c41k4 .ret) .skip) :: k) s r := Iff.rfl
@[simp] theorem uc41s7 : Ex F cx (.code c41s7 :: k) s r ↔ Ex F cx (.code (.seq c41k6 c41s5) :: k) s r := Iff.rfl
@[simp] theorem uc41s9 : Ex F cx (.code c41s9 :: k) s r ↔ Ex F cx (.code (.seq (.block 1 (.seq c41k8 c41s7)) c41k3) :: k) s r := Iff.rfl
@[simp] theorem uc41s10 : Ex F cx (.code c41s10 :: k) s r ↔ Ex F cx (.code (.seq (.cond (.t 26) .skip (.exit 0)) c41s9) :: k) s r := Iff.rfl
@[simp] theorem uc41s12 : Ex F cx (.code c41s12 :: k) s r ↔ Ex F cx (.code (.block 0 (.loop c41l2)) :: k) s r := Iff.rfl
@[simp] theorem uc41k13 : Ex F cx (.code c41k13 :: k) ⟨mk 58 l, rows, low⟩ r ↔ bnd (evP rows (.fieldA 1 (.c (lk l 2)))) fun v0 => bnd (evP rows (.load1 (.c v0))) fun v1 => bnd (evP rows (.len 0 (.c v1))) fun v2 => Ex F cx k ⟨mk 58 [(25, (.int .i64 0)), (24, v2), (23, v1), (22, v0), (1, lk l 1), (2, lk l 2), (8, lk l 8)], rows, low⟩ r := rg [1, 2, 8] c41r13 rfl (by kernel_rfl)
@[simp] theorem uc41s14 : Ex F cx (.code c41s14 :: k) s r ↔ Ex F cx (.code (.seq (.seq c41k13 c41s12) c41s1) :: k) s r := Iff.rfl
@[simp] theorem uc41k15 : Ex F cx (.code c41k15 :: k) ⟨mk 58 l, rows, low⟩ r ↔ bnd (evP rows (.loadN 3 (.c (lk l 2)))) fun v0 => bnd (Ret F 78 [v0, lk l 1] rows) fun q1 => Ex F cx k ⟨mk 58 [(8, q1.1), (21, q1.1), (20, lk l 1), (19, v0), (1, lk l 1), (2, lk l 2)], q1.2.1, (lowO low q1.2.2)⟩ r := rg [1, 2] c41r15 rfl (by kernel_rfl)
@[simp] theorem uc41s16 : Ex F cx (.code c41s16 :: k) s r ↔ Ex F cx (.code (.seq c41k15 c41s14) :: k) s r := Iff.rfl
@[simp] theorem uc41k17 : Ex F cx (.code c41k17 :: k) ⟨mk 58 l, rows, low⟩ r ↔ Ex F cx k ⟨mk 58 [(6, lk l 7), (5, (.bool false)), (4, .nilslice), (18, lk l 7), (7, lk l 7)], rows, low⟩ r := rg [7] c41r17 rfl (by kernel_rfl)
@[simp] theorem uc41s18 : Ex F cx (.code c41s18 :: k) s r ↔ Ex F cx (.code (.cond (.t 17) (.seq c41k17 .ret) .skip) :: k) s r := Iff.rfl
@[simp] theorem uc41k19 : Ex F cx (.code c41k19 :: k) ⟨mk 58 l, rows, low⟩ r ↔ bnd (evP rows (.bin .neq (.c (lk l 7)) (.c (.int .i64 0)))) fun v0 => Ex F cx k ⟨mk 58 [(17, v0), (16, lk l 7), (1, lk l 1), (2, lk l 2), (7, lk l 7)], rows, low⟩ r := rg [1, 2, 7] c41r19 rfl (by kernel_rfl)
@[simp] theorem uc41s20 : Ex F cx (.code c41s20 :: k) s r ↔ Ex F cx (.code (.seq c41k19 c41s18) :: k) s r := Iff.rfl
@[simp] theorem uc41k21 : Ex F cx (.code c41k21 :: k) ⟨mk 58 l, rows, low⟩ r ↔ bnd (evP rows (.loadN 3 (.c (lk l 2)))) fun v0 => bnd (evP rows (.loadN 3 (.c (lk l 2)))) fun v1 => bnd (evP rows (.bind 67 [(.c v1)])) fun v2 => bnd (Ret F 66 [v0, lk l 1, v2] rows) fun q3 => Ex F cx k ⟨mk 58 [(7, q3.1), (15, q3.1), (14, v2), (13, v1), (12, lk l 1), (11, v0), (1, lk l 1), (2, lk l 2)], q3.2.1, (lowO low q3.2.2)⟩ r := rg [1, 2] c41r21 rfl (by kernel_rfl)
@[simp] theorem uc41s22 : Ex F cx (.code c41s22 :: k) s r ↔ Ex F cx (.code (.seq (.seq c41k21 c41s20) c41s16) :: k) s r := Iff.rfl
@[simp] theorem uc41k23 : Ex F cx (.code c41k23 :: k) ⟨mk 58 l, rows, low⟩ r ↔ bnd (evE rows low (.box (.c (lk l 0)))) fun q0 => Ex F cx k ⟨mk 58 [(6, (.int .i64 0)), (5, (.bool false)), (4, .nilslice), (2, q0.1), (0, lk l 0), (1, lk l 1)], q0.2.1, q0.2.2⟩ r := rg [0, 1] c41r23 rfl (by kernel_rfl)
def Jc41s9 (F : Nat → Option IFn) (cx : Ctx) (x1 x2 x8 x23 x24 x25 : AV) (rows : List Row) (low : Nat) (r : AV × List Row × Nat → Prop) : Prop := Ex F cx (.code c41s9 :: .inLoop c41l2 :: .inBlock 0 :: .code c41s1 :: []) ⟨mk 58 [(1, x1), (2, x2), (8, x8), (23, x23), (24, x24), (25, x25)], rows, low⟩ r
def Lc41l2 (F : Nat → Option IFn) (cx : Ctx) (x1 x2 x8 x23 x24 x25 : AV) (rows : List Row) (low : Nat) (r : AV × List Row × Nat → Prop) : Prop := Ex F cx (.code c41l2 :: .inLoop c41l2 :: .inBlock 0 :: .code c41s1 :: []) ⟨mk 58 [(1, x1), (2, x2), (8, x8), (23, x23), (24, x24), (25, x25)], rows, low⟩ r
@[simp] theorem ec41l2 : Ex F cx (.code (.loop c41l2) :: .inBlock 0 :: .code c41s1 :: []) ⟨mk 58 l, rows, low⟩ r ↔ Lc41l2 F cx (lk l 1) (lk l 2) (lk l 8) (lk l 23) (lk l 24) (lk l 25) rows low r := loopE (keep := [1, 2, 8, 23, 24, 25]) (by kernel_rfl)
@[simp] theorem uc41l2 : Ex F cx (.code c41l2 :: k) s r ↔ Ex F cx (.code (.seq c41k11 c41s10) :: k) s r := Iff.rfl
def Jc41s16 (F : Nat → Option IFn) (cx : Ctx) (x1 x2 : AV) (rows : List Row) (low : Nat) (r : AV × List Row × Nat → Prop) : Prop := Ex F cx (.code c41s16 :: []) ⟨mk 58 [(1, x1), (2, x2)], rows, low⟩ r
@[simp] theorem uc41b : Ex F cx (.code c41b :: k) s r ↔ Ex F cx (.code (.seq c41k23 c41s22) :: k) s r := Iff.rfl
theorem i41 {x0 x1 : AV} (hF : F 41 = some c41) {q : AV × List Row × Option Nat} (h : Ex F (.fn [.t 4, .t 5, .t 6]) [.code c41b] ⟨mk 58 [(0, x0), (1, x1)], rows, rows.length⟩ fun r => fin rows r.1 r.2.1 r.2.2 = q) : Ret F 41 [x0, x1] rows = some q := Ret_mk hF h
@[simp] theorem uc47s2 : Ex F cx (.code c47s2 :: k) s r ↔ Ex F cx (.code (.seq c47k1 .ret) :: k) s r := Iff.rfl
@[simp] theorem uc47s6 : Ex F cx (.code c47s6 :: k) s r ↔ Ex F cx (.code (.seq c47k5 (.exit 0)) :: k) s r := Iff.rfl
@[simp] theorem uc47s8 : Ex F cx (.code c47s8 :: k) s r ↔ Ex F cx (.code (.seq c47k7 c47s6) :: k) s r := Iff.rfl
@[simp] theorem uc47s11 : Ex F cx (.code c47s11 :: k) s r ↔ Ex F cx (.code (.block 3 c47k10) :: k) s r := Iff.rfl
@[simp] theorem uc47s12 : Ex F cx (.code c47s12 :: k) s r ↔ Ex F cx (.code (.cond (.t 85) .skip (.exit 2)) :: k) s r := Iff.rfl
@[simp] theorem uc47s14 : Ex F cx (.code c47s14 :: k) s r ↔ Ex F cx (.code (.seq (.block 2 (.loop c47l9)) c47s8) :: k) s r := Iff.rfl
@[simp] theorem uc47s16 : Ex F cx (.code c47s16 :: k) s r ↔ Ex F cx (.code (.seq c47k15 c47s14) :: k) s r := Iff.rfl
@[simp] theorem uc47s17 : Ex F cx (.code c47s17 :: k) s r ↔ Ex F cx (.code (.cond (.t 54) (.exit 1) .skip) :: k) s r := Iff.rfl
@[simp] theorem uc47s19 : Ex F cx (.code c47s19 :: k) s r ↔ Ex F cx (.code (.seq (.seq c47k18 c47s17) c47s16) :: k) s r := Iff.rfl
@[simp] theorem uc47s21 : Ex F cx (.code c47s21 :: k) s r ↔ Ex F cx (.code (.seq (.block 1 (.seq c47k20 c47s19)) c47k4) :: k) s r := Iff.rfl
@[simp] theorem uc47s22 : Ex F cx (.code c47s22 :: k) s r ↔ Ex F cx (.code (.seq (.cond (.t 31) .skip (.exit 0)) c47s21) :: k) s r := Iff.rfl
@[simp] theorem uc47s24 : Ex F cx (.code c47s24 :: k) s r ↔ Ex F cx (.code (.block 0 (.loop c47l3)) :: k) s r := Iff.rfl
@[simp] theorem uc47k25 : Ex F cx (.code c47k25 :: k) ⟨mk 106 l, rows, low⟩ r ↔ bnd (evP rows (.fieldA 1 (.c (lk l 2)))) fun v0 => bnd (evP rows (.load1 (.c v0))) fun v1 => bnd (evP rows (.len 0 (.c v1))) fun v2 => Ex F cx k ⟨mk 106 [(30, (.int .i64 0)), (29, v2), (28, v1), (27, v0), (1, lk l 1), (2, lk l 2), (8, lk l 8), (9, lk l 9), (10, lk l 10)], rows, low⟩ r := rg [1, 2, 8, 9, 10] c47r25 rfl (by kernel_rfl)
@[simp] theorem uc47s26 : Ex F cx (.code c47s26 :: k) s r ↔ Ex F cx (.code (.seq (.seq c47k25 c47s24) c47s2) :: k) s r := Iff.rfl
@[simp] theorem uc47s27 : Ex F cx (.code c47s27 :: k) s r ↔ Ex F cx (.code (.seq .skip c47s26) :: k) s r := Iff.rfl
@[simp] theorem uc47k28 : Ex F cx (.code c47k28 :: k) ⟨mk 106 l, rows, low⟩ r ↔ Ex F cx k ⟨mk 106 [(10, .nilslice), (1, lk l 1), (2, lk l 2), (8, lk l 8), (9, lk l 9)], rows, low⟩ r := rg [1, 2, 8, 9] c47r28 rfl (by kernel_rfl)
@[simp] theorem uc47s29 : Ex F cx (.code c47s29 :: k) s r ↔ Ex F cx (.code (.seq c47k28 c47s27) :: k) s r := Iff.rfl
@[simp] theorem uc47k30 : Ex F cx (.code c47k30 :: k) ⟨mk 106 l, rows, low⟩ r ↔ bnd (evP rows (.mkfn 81 [(.c (lk l 8)), (.c (lk l 9))])) fun v0 => bnd (evE rows low (.store1 (.c (lk l 9)) (.c v0))) fun q1 => Ex F cx k ⟨mk 106 [(26, v0), (1, lk l 1), (2, lk l 2), (8, lk l 8), (9, lk l 9)], q1.2.1, q1.2.2⟩ r := rg [1, 2, 8, 9] c47r30 rfl (by kernel_rfl)
@[simp] theorem uc47s31 : Ex F cx (.code c47s31 :: k) s r ↔ Ex F cx (.code (.seq c47k30 c47s29) :: k) s r := Iff.rfl
@[simp] theorem uc47k32 : Ex F cx (.code c47k32 :: k) ⟨mk 106 l, rows, low⟩ r ↔ bnd (evE rows low (.box (.c .nilfunc))) fun q0 => Ex F cx k ⟨mk 106 [(9, q0.1), (1, lk l 1), (2, lk l 2), (8, lk l 8)], q0.2.1, q0.2.2⟩ r := rg [1, 2, 8] c47r32 rfl (by kernel_rfl)
@[simp] theorem uc47s33 : Ex F cx (.code c47s33 :: k) s r ↔ Ex F cx (.code (.seq c47k32 c47s31) :: k) s r := Iff.rfl
@[simp] theorem uc47k34 : Ex F cx (.code c47k34 :: k) ⟨mk 106 l, rows, low⟩ r ↔ bnd (evP rows (.loadN 3 (.c (lk l 2)))) fun v0 => bnd (Ret F 78 [v0, lk l 1] rows) fun q1 => bnd (evE q1.2.1 (lowO low q1.2.2) (.box (.c .nilptr))) fun q2 => bnd (evE q2.2.1 q2.2.2 (.store1 (.c q2.1) (.c q1.1))) fun q3 => Ex F cx k ⟨mk 106 [(8, q2.1), (25, q1.1), (24, lk l 1), (23, v0), (1, lk l 1), (2, lk l 2)], q3.2.1, q3.2.2⟩ r := rg [1, 2] c47r34 rfl (by kernel_rfl)
@[simp] theorem uc47s35 : Ex F cx (.code c47s35 :: k) s r ↔ Ex F cx (.code (.seq c47k34 c47s33) :: k) s r := Iff.rfl
@[simp] theorem uc47k36 : Ex F cx (.code c47k36 :: k) ⟨mk 106 l, rows, low⟩ r ↔ Ex F cx k ⟨mk 106 [(6, lk l 7), (5, (.bool false)), (4, .nilslice), (22, lk l 7), (7, lk l 7)], rows, low⟩ r := rg [7] c47r36 rfl (by kernel_rfl)
@[simp] theorem uc47s37 : Ex F cx (.code c47s37 :: k) s r ↔ Ex F cx (.code (.cond (.t 21) (.seq c47k36 .ret) .skip) :: k) s r := Iff.rfl
@[simp] theorem uc47k38 : Ex F cx (.code c47k38 :: k) ⟨mk 106 l, rows, low⟩ r ↔ bnd (evP rows (.bin .neq (.c (lk l 7)) (.c (.int .i64 0)))) fun v0 => Ex F cx k ⟨mk 106 [(21, v0), (20, lk l 7), (1, lk l 1), (2, lk l 2), (7, lk l 7)], rows, low⟩ r := rg [1, 2, 7] c47r38 rfl (by kernel_rfl)
@[simp] theorem uc47s39 : Ex F cx (.code c47s39 :: k) s r ↔ Ex F cx (.code (.seq c47k38 c47s37) :: k) s r := Iff.rfl
@[simp] theorem uc47k40 : Ex F cx (.code c47k40 :: k) ⟨mk 106 l, rows, low⟩ r ↔ bnd (evP rows (.loadN 3 (.c (lk l 2)))) fun v0 => bnd (evP rows (.loadN 3 (.c (lk l 2)))) fun v1 => bnd (evP rows (.bind 67 [(.c v1)])) fun v2 => bnd (Ret F 66 [v0, lk l 1, v2] rows) fun q3 => Ex F cx k ⟨mk 106 [(7, q3.1), (19, q3.1), (18, v2), (17, v1), (16, lk l 1), (15, v0), (1, lk l 1), (2, lk l 2)], q3.2.1, (lowO low q3.2.2)⟩ r := rg [1, 2] c47r40 rfl (by kernel_rfl)
@[simp] theorem uc47p0 : Ex F cx (.code c47p0 :: k) s r ↔ Ex F cx (.code (.seq (.seq c47k40 c47s39) c47s35) :: k) s r := Iff.rfl
@[simp] theorem uc47s41 : Ex F cx (.code c47s41 :: k) s r ↔ Ex F cx (.code (.scope c47p0) :: k) s r := Iff.rfl
@[simp] theorem uc47k42 : Ex F cx (.code c47k42 :: k) ⟨mk 106 l, rows, low⟩ r ↔ bnd (evE rows low (.box (.c (lk l 0)))) fun q0 => Ex F cx k ⟨mk 106 [(6, (.int .i64 0)), (5, (.bool false)), (4, .nilslice), (2, q0.1), (0, lk l 0), (1, lk l 1)], q0.2.1, q0.2.2⟩ r := rg [0, 1] c47r42 rfl (by kernel_rfl)
def Jc47s11 (F : Nat → Option IFn) (cx : Ctx) (x13 x14 : AV) (rows : List Row) (low : Nat) (r : AV × List Row × Nat → Prop) : Prop := Ex F cx (.code c47s11 :: .inLoop c47l9 :: .inBlock 2 :: .code c47s8 :: .inBlock 1 :: .code c47k4 :: .inLoop c47l3 :: .inBlock 0 :: .code c47s2 :: .inScope c47p0 :: []) ⟨mk 106 [(13, x13), (14, x14)], rows, low⟩ r
def Lc47l9 (F : Nat → Option IFn) (cx : Ctx) (x13 x14 : AV) (rows : List Row) (low : Nat) (r : AV × List Row × Nat → Prop) : Prop := Ex F cx (.code c47l9 :: .inLoop c47l9 :: .inBlock 2 :: .code c47s8 :: .inBlock 1 :: .code c47k4 :: .inLoop c47l3 :: .inBlock 0 :: .code c47s2 :: .inScope c47p0 :: []) ⟨mk 106 [(13, x13), (14, x14)], rows, low⟩ r
@[simp] theorem uc47l9 : Ex F cx (.code c47l9 :: k) s r ↔ Ex F cx (.code (.seq (.seq c47k13 c47s12) c47s11) :: k) s r := Iff.rfl
def Jc47s16 (F : Nat → Option IFn) (cx : Ctx) (x9 x12 : AV) (rows : List Row) (low : Nat) (r : AV × List Row × Nat → Prop) : Prop := Ex F cx (.code c47s16 :: .inBlock 1 :: .code c47k4 :: .inLoop c47l3 :: .inBlock 0 :: .code c47s2 :: .inScope c47p0 :: []) ⟨mk 106 [(9, x9), (12, x12)], rows, low⟩ r
def Jc47s21 (F : Nat → Option IFn) (cx : Ctx) (x1 x8 x9 x10 x28 x29 x30 : AV) (rows : List Row) (low : Nat) (r : AV × List Row × Nat → Prop) : Prop := Ex F cx (.code c47s21 :: .inLoop c47l3 :: .inBlock 0 :: .code c47s2 :: .inScope c47p0 :: []) ⟨mk 106 [(1, x1), (8, x8), (9, x9), (10, x10), (28, x28), (29, x29), (30, x30)], rows, low⟩ r
def Lc47l3 (F : Nat → Option IFn) (cx : Ctx) (x1 x8 x9 x10 x28 x29 x30 : AV) (rows : List Row) (low : Nat) (r : AV × List Row × Nat → Prop) : Prop := Ex F cx (.code c47l3 :: .inLoop c47l3 :: .inBlock 0 :: .code c47s2 :: .inScope c47p0 :: []) ⟨mk 106 [(1, x1), (8, x8), (9, x9), (10, x10), (28, x28), (29, x29), (30, x30)], rows, low⟩ r
@[simp] theorem ec47l3 : Ex F cx (.code (.loop c47l3) :: .inBlock 0 :: .code c47s2 :: .inScope c47p0 :: []) ⟨mk 106 l, rows, low⟩ r ↔ Lc47l3 F cx (lk l 1) (lk l 8) (lk l 9) (lk l 10) (lk l 28) (lk l 29) (lk l 30) rows low r := loopE (keep := [1, 8, 9, 10, 28, 29, 30]) (by kernel_rfl)
@[simp] theorem uc47l3 : Ex F cx (.code c47l3 :: k) s r ↔ Ex F cx (.code (.seq c47k23 c47s22) :: k) s r := Iff.rfl
def Jc47s35 (F : Nat → Option IFn) (cx : Ctx) (x1 x2 : AV) (rows : List Row) (low : Nat) (r : AV × List Row × Nat → Prop) : Prop := Ex F cx (.code c47s35 :: .inScope c47p0 :: []) ⟨mk 106 [(1, x1), (2, x2)], rows, low⟩ r
@[simp] theorem uc47b : Ex F cx (.code c47b :: k) s r ↔ Ex F cx (.code (.seq c47k42 c47s41) :: k) s r := Iff.rfl
theorem i47 {x0 x1 : AV} (hF : F 47 = some c47) {q : AV × List Row × Option Nat} (h : Ex F (.fn [.t 4, .t 5, .t 6]) [.code c47b] ⟨mk 106 [(0, x0), (1, x1)], rows, rows.length⟩ fun r => fin rows r.1 r.2.1 r.2.2 = q) : Ret F 47 [x0, x1] rows = some q := Ret_mk hF h
@[simp] theorem uc50k0 : Ex F cx (.code c50k0 :: k) ⟨mk 19 l, rows, low⟩ r ↔ bnd (evP (rows ++ maskE 0 ([] : List (Nat × Row))) (.loadN 3 (.c (lk l 1)))) fun v0 => bnd (evP (rows ++ maskE 0 ([] : List (Nat × Row))) (.fieldA 1 (.c (lk l 1)))) fun v1 => bnd (evP (rows ++ maskE 2 ([] : List (Nat × Row))) (.load1 (.c v1))) fun v2 => bnd (evP (rows ++ maskE 6 ([] : List (Nat × Row))) (.len 0 (.c v2))) fun v3 => bnd (evE (rows ++ maskE 14 ([] : List (Nat × Row))) (rows.length + ([] : List (Nat × Row)).length) (.make [.int .i64 0] 8 (.c v3) (.c v3))) fun q4 => q4.2.2 = rows.length + ([] : List (Nat × Row)).length ∧ bnd (some (([] : List (Nat × Row)) ++ List.map (fun (x : Row) => (4, x)) (q4.2.1.drop (rows.length + ([] : List (Nat × Row)).length)))) fun e4 => bnd (Ret F 78 [v0, q4.1] (rows ++ List.map (fun (x : Nat × Row) => x.2) e4)) fun q5 => bnd (evP q5.2.1 (.nilck (.c q5.1))) fun v6 => bnd (evP q5.2.1 (.fieldA 12 (.c v6))) fun v7 => bnd (evP q5.2.1 (.load1 (.c v7))) fun v8 => Ex F cx k ⟨mk 19 [(3, (.int .i64 0)), (2, v8), (18, v8), (17, v7), (16, v6), (15, q5.1), (14, q4.1), (13, v3), (12, v2), (11, v1), (10, v0), (1, lk l 1)], q5.2.1, (lowO low q5.2.2)⟩ r := rg [1] c50r0 rfl (by kernel_rfl)
@[simp] theorem uc50s1 : Ex F cx (.code c50s1 :: k) s r ↔ Ex F cx (.code (.seq c50k0 .ret) :: k) s r := Iff.rfl
@[simp] theorem uc50k2 : Ex F cx (.code c50k2 :: k) ⟨mk 19 l, rows, low⟩ r ↔ Ex F cx k ⟨mk 19 [(3, lk l 4), (2, (.int .i64 0)), (9, lk l 4), (4, lk l 4)], rows, low⟩ r := rg [4] c50r2 rfl (by kernel_rfl)
@[simp] theorem uc50s3 : Ex F cx (.code c50s3 :: k) s r ↔ Ex F cx (.code (.cond (.t 8) (.seq c50k2 .ret) .skip) :: k) s r := Iff.rfl
@[simp] theorem uc50k4 : Ex F cx (.code c50k4 :: k) ⟨mk 19 l, rows, low⟩ r ↔ bnd (evP rows (.bin .neq (.c (lk l 4)) (.c (.int .i64 0)))) fun v0 => Ex F cx k ⟨mk 19 [(8, v0), (7, lk l 4), (1, lk l 1), (4, lk l 4)], rows, low⟩ r := rg [1, 4] c50r4 rfl (by kernel_rfl)
@[simp] theorem uc50s5 : Ex F cx (.code c50s5 :: k) s r ↔ Ex F cx (.code (.seq c50k4 c50s3) :: k) s r := Iff.rfl
@[simp] theorem uc50k6 : Ex F cx (.code c50k6 :: k) ⟨mk 19 l, rows, low⟩ r ↔ bnd (evP rows (.loadN 3 (.c (lk l 1)))) fun v0 => bnd (Ret F 59 [v0] rows) fun q1 => Ex F cx k ⟨mk 19 [(4, q1.1), (6, q1.1), (5, v0), (1, lk l 1)], q1.2.1, (lowO low q1.2.2)⟩ r := rg [1] c50r6 rfl (by kernel_rfl)
@[simp] theorem uc50s7 : Ex F cx (.code c50s7 :: k) s r ↔ Ex F cx (.code (.seq (.seq c50k6 c50s5) c50s1) :: k) s r := Iff.rfl
@[simp] theorem uc50k8 : Ex F cx (.code c50k8 :: k) ⟨mk 19 l, rows, low⟩ r ↔ bnd (evE rows low (.box (.c (lk l 0)))) fun q0 => Ex F cx k ⟨mk 19 [(3, (.int .i64 0)), (2, (.int .i64 0)), (1, q0.1), (0, lk l 0)], q0.2.1, q0.2.2⟩ r := rg [0] c50r8 rfl (by kernel_rfl)
def Jc50s1 (F : Nat → Option IFn) (cx : Ctx) (x1 : AV) (rows : List Row) (low : Nat) (r : AV × List Row × Nat → Prop) : Prop := Ex F cx (.code c50s1 :: []) ⟨mk 19 [(1, x1)], rows, low⟩ r
@[simp] theorem uc50b : Ex F cx (.code c50b :: k) s r ↔ Ex F cx (.code (.seq c50k8 c50s7) :: k) s r := Iff.rfl
theorem i50 {x0 : AV} (hF : F 50 = some c50) {q : AV × List Row × Option Nat} (h : Ex F (.fn [.t 2, .t 3]) [.code c50b] ⟨mk 19 [(0, x0)], rows, rows.length⟩ fun r => fin rows r.1 r.2.1 r.2.2 = q) : Ret F 50 [x0] rows = some q := Ret_mk hF h
@[simp] theorem uc51k0 : Ex F cx (.code c51k0 :: k) ⟨mk 31 l, rows, low⟩ r ↔ bnd (evE rows low (.mkslice 2 [.nilslice, .nilslice] [(0, 1, (.c (lk l 6))), (1, 1, (.c (lk l 8)))])) fun q0 => bnd (Ret F 84 [q0.1] q0.2.1) fun q1 => bnd (Ret F 83 [q1.1, (.func 85 [])] q1.2.1) fun q2 => bnd (evP q2.2.1 (.un .not (.c q2.1))) fun v3 => Ex F cx k ⟨mk 31 [(5, lk l 7), (4, v3), (30, lk l 7), (29, v3), (28, q2.1), (27, q1.1), (26, q0.1), (25, lk l 8), (24, lk l 6), (6, lk l 6), (7, lk l 7), (8, lk l 8)], q2.2.1, (lowO (lowO q0.2.2 q1.2.2) q2.2.2)⟩ r := rg [6, 7, 8] c51r0 rfl (by kernel_rfl)
@[simp] theorem uc51s1 : Ex F cx (.code c51s1 :: k) s r ↔ Ex F cx (.code (.seq c51k0 .ret) :: k) s r := Iff.rfl
@[simp] theorem uc51k2 : Ex F cx (.code c51k2 :: k) ⟨mk 31 l, rows, low⟩ r ↔ bnd (evP rows (.loadN 3 (.c (lk l 2)))) fun v0 => bnd (Ret F 40 [v0, lk l 1] rows) fun q1 => bnd (evP q1.2.1 (.ext (.c q1.1) 0)) fun v2 => bnd (evP q1.2.1 (.ext (.c q1.1) 1)) fun v3 => Ex F cx k ⟨mk 31 [(7, v3), (8, v2), (23, v3), (22, v2), (18, q1.1), (21, q1.1), (20, lk l 1), (19, v0), (1, lk l 1), (2, lk l 2), (6, lk l 6)], q1.2.1, (lowO low q1.2.2)⟩ r := rg [1, 2, 6] c51r2 rfl (by kernel_rfl)
@[simp] theorem uc51s3 : Ex F cx (.code c51s3 :: k) s r ↔ Ex F cx (.code (.seq c51k2 c51s1) :: k) s r := Iff.rfl
@[simp] theorem uc51k4 : Ex F cx (.code c51k4 :: k) ⟨mk 31 l, rows, low⟩ r ↔ Ex F cx k ⟨mk 31 [(5, lk l 7), (4, (.bool false)), (17, lk l 7), (7, lk l 7)], rows, low⟩ r := rg [7] c51r4 rfl (by kernel_rfl)
@[simp] theorem uc51s5 : Ex F cx (.code c51s5 :: k) s r ↔ Ex F cx (.code (.cond (.t 16) (.seq c51k4 .ret) .skip) :: k) s r := Iff.rfl
@[simp] theorem uc51k6 : Ex F cx (.code c51k6 :: k) ⟨mk 31 l, rows, low⟩ r ↔ bnd (evP rows (.bin .neq (.c (lk l 7)) (.c (.int .i64 0)))) fun v0 => Ex F cx k ⟨mk 31 [(16, v0), (15, lk l 7), (1, lk l 1), (2, lk l 2), (6, lk l 6), (7, lk l 7)], rows, low⟩ r := rg [1, 2, 6, 7] c51r6 rfl (by kernel_rfl)
@[simp] theorem uc51s7 : Ex F cx (.code c51s7 :: k) s r ↔ Ex F cx (.code (.seq (.seq c51k6 c51s5) c51s3) :: k) s r := Iff.rfl
@[simp] theorem uc51k8 : Ex F cx (.code c51k8 :: k) ⟨mk 31 l, rows, low⟩ r ↔ bnd (evP rows (.loadN 3 (.c (lk l 2)))) fun v0 => bnd (Ret F 22 [v0, lk l 1] rows) fun q1 => bnd (evP q1.2.1 (.ext (.c q1.1) 0)) fun v2 => bnd (evP q1.2.1 (.ext (.c q1.1) 1)) fun v3 => Ex F cx k ⟨mk 31 [(7, v3), (6, v2), (14, v3), (13, v2), (9, q1.1), (12, q1.1), (11, lk l 1), (10, v0), (1, lk l 1), (2, lk l 2)], q1.2.1, (lowO low q1.2.2)⟩ r := rg [1, 2] c51r8 rfl (by kernel_rfl)
@[simp] theorem uc51s9 : Ex F cx (.code c51s9 :: k) s r ↔ Ex F cx (.code (.seq c51k8 c51s7) :: k) s r := Iff.rfl
@[simp] theorem uc51k10 : Ex F cx (.code c51k10 :: k) ⟨mk 31 l, rows, low⟩ r ↔ bnd (evE rows low (.box (.c (lk l 0)))) fun q0 => Ex F cx k ⟨mk 31 [(5, (.int .i64 0)), (4, (.bool false)), (2, q0.1), (0, lk l 0), (1, lk l 1)], q0.2.1, q0.2.2⟩ r := rg [0, 1] c51r10 rfl (by kernel_rfl)
def Jc51s3 (F : Nat → Option IFn) (cx : Ctx) (x1 x2 x6 : AV) (rows : List Row) (low : Nat) (r : AV × List Row × Nat → Prop) : Prop := Ex F cx (.code c51s3 :: []) ⟨mk 31 [(1, x1), (2, x2), (6, x6)], rows, low⟩ r
@[simp] theorem uc51b : Ex F cx (.code c51b :: k) s r ↔ Ex F cx (.code (.seq c51k10 c51s9) :: k) s r := Iff.rfl
theorem i51 {x0 x1 : AV} (hF : F 51 = some c51) {q : AV × List Row × Option Nat} (h : Ex F (.fn [.t 4, .t 5]) [.code c51b] ⟨mk 31 [(0, x0), (1, x1)], rows, rows.length⟩ fun r => fin rows r.1 r.2.1 r.2.2 = q) : Ret F 51 [x0, x1] rows = some q := Ret_mk hF h
@[simp] theorem uc58k0 : Ex F cx (.code c58k0 :: k) ⟨mk 163 l, rows, low⟩ r ↔ Ex F cx k ⟨mk 163 [(2, (.bool true))], rows, low⟩ r := rg [] c58r0 rfl (by kernel_rfl)
@[simp] theorem uc58s1 : Ex F cx (.code c58s1 :: k) s r ↔ Ex F cx (.code (.seq c58k0 .ret) :: k) s r := Iff.rfl
@[simp] theorem uc58k3 : Ex F cx (.code c58k3 :: k) ⟨mk 163 l, rows, low⟩ r ↔ bnd (evP rows (.bin .add (.c (lk l 6)) (.c (.int .i64 1)))) fun v0 => Ex F cx k ⟨mk 163 [(6, v0), (103, v0), (102, lk l 6), (1, lk l 1), (6, lk l 6)], rows, low⟩ r := rg [1, 6] c58r3 rfl (by kernel_rfl)
@[simp] theorem uc58k4 : Ex F cx (.code c58k4 :: k) ⟨mk 163 l, rows, low⟩ r ↔ Ex F cx k ⟨mk 163 [(2, (.bool false))], rows, low⟩ r := rg [] c58r4 rfl (by kernel_rfl)
@[simp] theorem uc58s5 : Ex F cx (.code c58s5 :: k) s r ↔ Ex F cx (.code (.cond (.t 162) (.seq c58k4 .ret) .skip) :: k) s r := Iff.rfl
@[simp] theorem uc58k6 : Ex F cx (.code c58k6 :: k) ⟨mk 163 l, rows, low⟩ r ↔ bnd (evP rows (.idxA 3 1 (.c (lk l 7)) (.c (.int .i64 0)))) fun v0 => bnd (evP rows (.load1 (.c v0))) fun v1 => bnd (evP rows (.idxA 3 1 (.c (lk l 7)) (.c (.int .i64 1)))) fun v2 => bnd (evP rows (.load1 (.c v2))) fun v3 => bnd (evP rows (.bin .geq (.c v1) (.c v3))) fun v4 => bnd (gv v4 false (evP rows (.idxA 3 1 (.c (lk l 7)) (.c (.int .i64 1))))) fun v5 => bnd (gv v4 false (evP rows (.load1 (.c v5)))) fun v6 => bnd (gv v4 false (evP rows (.idxA 3 1 (.c (lk l 7)) (.c (.int .i64 2))))) fun v7 => bnd (gv v4 false (evP rows (.load1 (.c v7)))) fun v8 => bnd (gv v4 false (evP rows (.bin .geq (.c v6) (.c v8)))) fun v9 => bnd (evP rows (.pick (.c v4) (.c (.bool true)) (.c v9))) fun v10 => bnd (gv v10 false (evP rows (.loadN 3 (.c (lk l 1))))) fun v11 => bnd (gv v10 false (evP rows (.idxA 3 1 (.c (lk l 7)) (.c (.int .i64 0))))) fun v12 => bnd (gv v10 false (evP rows (.load1 (.c v12)))) fun v13 => bnd (gv v10 false (evP rows (.idxA 3 1 (.c (lk l 7)) (.c (.int .i64 1))))) fun v14 => bnd (gv v10 false (evP rows (.load1 (.c v14)))) fun v15 => gcall F v10 false rows low [v11, v13, v15] [] (.func 60 []) fun v16 R16 L16 => bnd (gv v10 false (evP R16 (.bin .lss (.c v16) (.c (.int .i64 0))))) fun v17 => bnd (evP R16 (.pick (.c v10) (.c (.bool true)) (.c v17))) fun v18 => bnd (gv v18 false (evP R16 (.loadN 3 (.c (lk l 1))))) fun v19 => bnd (gv v18 false (evP R16 (.idxA 3 1 (.c (lk l 7)) (.c (.int .i64 0))))) fun v20 => bnd (gv v18 false (evP R16 (.load1 (.c v20)))) fun v21 => bnd (gv v18 false (evP R16 (.idxA 3 1 (.c (lk l 7)) (.c (.int .i64 2))))) fun v22 => bnd (gv v18 false (evP R16 (.load1 (.c v22)))) fun v23 => gcall F v18 false R16 L16 [v19, v21, v23] [] (.func 60 []) fun v24 R24 L24 => bnd (gv v18 false (evP R24 (.bin .lss (.c v24) (.c (.int .i64 0))))) fun v25 => bnd (evP R24 (.pick (.c v18) (.c (.bool true)) (.c v25))) fun v26 => bnd (gv v26 false (evP R24 (.loadN 3 (.c (lk l 1))))) fun v27 => bnd (gv v26 false (evP R24 (.idxA 3 1 (.c (lk l 7)) (.c (.int .i64 1))))) fun v28 => bnd (gv v26 false (evP R24 (.load1 (.c v28)))) fun v29 => bnd (gv v26 false (evP R24 (.idxA 3 1 (.c (lk l 7)) (.c (.int .i64 2))))) fun v30 => bnd (gv v26 false (evP R24 (.load1 (.c v30)))) fun v31 => gcall F v26 false R24 L24 [v27, v29, v31] [] (.func 60 []) fun v32 R32 L32 => bnd (gv v26 false (evP R32 (.bin .lss (.c v32) (.c (.int .i64 0))))) fun v33 => bnd (evP R32 (.pick (.c v26) (.c (.bool true)) (.c v33))) fun v34 => bnd (gv v34 false (evP R32 (.mv (.c (lk l 6))))) fun v35 => bnd (gv v34 false (evP R32 (.bin .gtr (.c v35) (.c (.int .i64 0))))) fun v36 => bnd (gv v34 false (evP R32 (.mv (.c v36)))) fun v37 => bnd (gv v37 true (evP R32 (.fieldA 2 (.c (lk l 1))))) fun v38 => bnd (gv v37 true (evP R32 (.load1 (.c v38)))) fun v39 => bnd (gv v37 true (evP R32 (.mv (.c (lk l 6))))) fun v40 => bnd (gv v37 true (evP R32 (.bin .sub (.c v40) (.c (.int .i64 1))))) fun v41 => bnd (gv v37 true (evP R32 (.idxS 3 (.c v39) (.c v41)))) fun v42 => bnd (gv v37 true (evP R32 (.loadN 3 (.c v42)))) fun v43 => bnd (gv v37 true (evP R32 (.loadN 3 (.c (lk l 7))))) fun v44 => gcall F v37 true R32 L32 [v43, v44] [] (.func 90 []) fun v45 R45 L45 => bnd (gv v37 true (evP R45 (.un .not (.c v45)))) fun v46 => bnd (gv v34 false (evP R45 (.pick (.c v37) (.c v46) (.c (.bool false))))) fun v47 => bnd (evP R45 (.pick (.c v34) (.c (.bool true)) (.c v47))) fun v48 => Ex F cx k ⟨mk 163 [(162, v48), (161, v47), (160, v46), (159, v45), (158, v44), (157, v43), (156, v42), (155, v41), (154, v40), (153, v39), (152, v38), (151, v37), (150, v36), (149, v35), (148, v34), (147, v34), (146, v33), (145, v32), (144, v31), (143, v30), (142, v29), (141, v28), (140, v27), (139, v26), (138, v26), (137, v25), (136, v24), (135, v23), (134, v22), (133, v21), (132, v20), (131, v19), (130, v18), (129, v18), (128, v17), (127, v16), (126, v15), (125, v14), (124, v13), (123, v12), (122, v11), (121, v10), (120, v10), (119, v9), (118, v8), (117, v7), (116, v6), (115, v5), (114, v4), (113, v4), (112, v3), (111, v2), (110, v1), (109, v0), (1, lk l 1), (6, lk l 6), (7, lk l 7)], R45, L45⟩ r := rg [1, 6, 7] c58r6 rfl (by kernel_rfl)
@[simp] theorem uc58s7 : Ex F cx (.code c58s7 :: k) s r ↔ Ex F cx (.code (.seq c58k6 c58s5) :: k) s r := Iff.rfl
@[simp] theorem uc58k8 : Ex F cx (.code c58k8 :: k) ⟨mk 163 l, rows, low⟩ r ↔ bnd (evP rows (.fieldA 2 (.c (lk l 1)))) fun v0 => bnd (evP rows (.load1 (.c v0))) fun v1 => bnd (evP rows (.idxS 3 (.c v1) (.c (lk l 6)))) fun v2 => bnd (evP rows (.loadN 3 (.c v2))) fun v3 => bnd (evE rows low (.box (.c (.agg [.int .i64 0, .int .i64 0, .int .i64 0])))) fun q4 => bnd (evE q4.2.1 q4.2.2 (.storeN 3 (.c q4.1) (.c v3))) fun q5 => Ex F cx k ⟨mk 163 [(7, q4.1), (108, v3), (107, v2), (106, lk l 6), (105, v1), (104, v0), (1, lk l 1), (6, lk l 6)], q5.2.1, q5.2.2⟩ r := rg [1, 6] c58r8 rfl (by kernel_rfl)
@[simp] theorem uc58s9 : Ex F cx (.code c58s9 :: k) s r ↔ Ex F cx (.code (.seq (.block 3 (.seq c58k8 c58s7)) c58k3) :: k) s r := Iff.rfl
@[simp] theorem uc58s10 : Ex F cx (.code c58s10 :: k) s r ↔ Ex F cx (.code (.cond (.t 101) .skip (.exit 2)) :: k) s r := Iff.rfl
@[simp] theorem uc58k11 : Ex F cx (.code c58k11 :: k) ⟨mk 163 l, rows, low⟩ r ↔ bnd (evP rows (.fieldA 2 (.c (lk l 1)))) fun v0 => bnd (evP rows (.load1 (.c v0))) fun v1 => bnd (evP rows (.len 0 (.c v1))) fun v2 => bnd (evP rows (.bin .lss (.c (lk l 6)) (.c v2))) fun v3 => Ex F cx k ⟨mk 163 [(101, v3), (100, v2), (99, v1), (98, v0), (97, lk l 6), (1, lk l 1), (6, lk l 6)], rows, low⟩ r := rg [1, 6] c58r11 rfl (by kernel_rfl)
@[simp] theorem uc58s12 : Ex F cx (.code c58s12 :: k) s r ↔ Ex F cx (.code (.block 2 (.loop c58l2)) :: k) s r := Iff.rfl
@[simp] theorem uc58k13 : Ex F cx (.code c58k13 :: k) ⟨mk 163 l, rows, low⟩ r ↔ Ex F cx k ⟨mk 163 [(6, (.int .i64 0)), (1, lk l 1)], rows, low⟩ r := rg [1] c58r13 rfl (by kernel_rfl)
@[simp] theorem uc58s14 : Ex F cx (.code c58s14 :: k) s r ↔ Ex F cx (.code (.seq (.seq c58k13 c58s12) c58s1) :: k) s r := Iff.rfl
@[simp] theorem uc58k16 : Ex F cx (.code c58k16 :: k) ⟨mk 163 l, rows, low⟩ r ↔ bnd (evP rows (.bin .add (.c (lk l 3)) (.c (.int .i64 1)))) fun v0 => Ex F cx k ⟨mk 163 [(3, v0), (34, v0), (33, lk l 3), (1, lk l 1), (3, lk l 3)], rows, low⟩ r := rg [1, 3] c58r16 rfl (by kernel_rfl)
@[simp] theorem uc58k17 : Ex F cx (.code c58k17 :: k) ⟨mk 163 l, rows, low⟩ r ↔ Ex F cx k ⟨mk 163 [(2, (.bool false))], rows, low⟩ r := rg [] c58r17 rfl (by kernel_rfl)
@[simp] theorem uc58s18 : Ex F cx (.code c58s18 :: k) s r ↔ Ex F cx (.code (.cond (.t 96) (.seq c58k17 .ret) .skip) :: k) s r := Iff.rfl
@[simp] theorem uc58k19 : Ex F cx (.code c58k19 :: k) ⟨mk 163 l, rows, low⟩ r ↔ bnd (evP rows (.bin .lss (.c (lk l 4)) (.c (.int .i64 0)))) fun v0 => bnd (gv v0 false (evP rows (.mv (.c (lk l 4))))) fun v1 => bnd (gv v0 false (evP rows (.mv (.c (lk l 5))))) fun v2 => bnd (gv v0 false (evP rows (.bin .geq (.c v1) (.c v2)))) fun v3 => bnd (evP rows (.pick (.c v0) (.c (.bool true)) (.c v3))) fun v4 => bnd (gv v4 false (evP rows (.mv (.c (lk l 5))))) fun v5 => bnd (gv v4 false (evP rows (.fieldA 0 (.c (lk l 1))))) fun v6 => bnd (gv v4 false (evP rows (.load1 (.c v6)))) fun v7 => bnd (gv v4 false (evP rows (.bin .geq (.c v5) (.c v7)))) fun v8 => bnd (evP rows (.pick (.c v4) (.c (.bool true)) (.c v8))) fun v9 => bnd (gv v9 false (evP rows (.mv (.c (lk l 3))))) fun v10 => bnd (gv v9 false (evP rows (.bin .gtr (.c v10) (.c (.int .i64 0))))) fun v11 => bnd (gv v9 false (evP rows (.mv (.c v11)))) fun v12 => bnd (gv v12 true (evP rows (.fieldA 1 (.c (lk l 1))))) fun v13 => bnd (gv v12 true (evP rows (.load1 (.c v13)))) fun v14 => bnd (gv v12 true (evP rows (.mv (.c (lk l 3))))) fun v15 => bnd (gv v12 true (evP rows (.bin .sub (.c v15) (.c (.int .i64 1))))) fun v16 => bnd (gv v12 true (evP rows (.idxS 2 (.c v14) (.c v16)))) fun v17 => bnd (gv v12 true (evP rows (.idxA 2 1 (.c v17) (.c (.int .i64 0))))) fun v18 => bnd (gv v12 true (evP rows (.load1 (.c v18)))) fun v19 => bnd (gv v12 true (evP rows (.mv (.c (lk l 4))))) fun v20 => bnd (gv v12 true (evP rows (.bin .gtr (.c v19) (.c v20)))) fun v21 => bnd (gv v12 true (evP rows (.mv (.c v21)))) fun v22 => bnd (gv v22 false (evP rows (.fieldA 1 (.c (lk l 1))))) fun v23 => bnd (gv v22 false (evP rows (.load1 (.c v23)))) fun v24 => bnd (gv v22 false (evP rows (.mv (.c (lk l 3))))) fun v25 => bnd (gv v22 false (evP rows (.bin .sub (.c v25) (.c (.int .i64 1))))) fun v26 => bnd (gv v22 false (evP rows (.idxS 2 (.c v24) (.c v26)))) fun v27 => bnd (gv v22 false (evP rows (.idxA 2 1 (.c v27) (.c (.int .i64 0))))) fun v28 => bnd (gv v22 false (evP rows (.load1 (.c v28)))) fun v29 => bnd (gv v22 false (evP rows (.mv (.c (lk l 4))))) fun v30 => bnd (gv v22 false (evP rows (.bin .eql (.c v29) (.c v30)))) fun v31 => bnd (gv v22 false (evP rows (.mv (.c v31)))) fun v32 => bnd (gv v32 true (evP rows (.fieldA 1 (.c (lk l 1))))) fun v33 => bnd (gv v32 true (evP rows (.load1 (.c v33)))) fun v34 => bnd (gv v32 true (evP rows (.mv (.c (lk l 3))))) fun v35 => bnd (gv v32 true (evP rows (.bin .sub (.c v35) (.c (.int .i64 1))))) fun v36 => bnd (gv v32 true (evP rows (.idxS 2 (.c v34) (.c v36)))) fun v37 => bnd (gv v32 true (evP rows (.idxA 2 1 (.c v37) (.c (.int .i64 1))))) fun v38 => bnd (gv v32 true (evP rows (.load1 (.c v38)))) fun v39 => bnd (gv v32 true (evP rows (.mv (.c (lk l 5))))) fun v40 => bnd (gv v32 true (evP rows (.bin .geq (.c v39) (.c v40)))) fun v41 => bnd (gv v22 false (evP rows (.pick (.c v32) (.c v41) (.c (.bool false))))) fun v42 => bnd (gv v12 true (evP rows (.pick (.c v22) (.c (.bool true)) (.c v42)))) fun v43 => bnd (gv v9 false (evP rows (.pick (.c v12) (.c v43) (.c (.bool false))))) fun v44 => bnd (evP rows (.pick (.c v9) (.c (.bool true)) (.c v44))) fun v45 => Ex F cx k ⟨mk 163 [(96, v45), (95, v44), (94, v43), (93, v42), (92, v41), (91, v40), (90, v39), (89, v38), (88, v37), (87, v36), (86, v35), (85, v34), (84, v33), (83, v32), (82, v31), (81, v30), (80, v29), (79, v28), (78, v27), (77, v26), (76, v25), (75, v24), (74, v23), (73, v22), (72, v21), (71, v20), (70, v19), (69, v18), (68, v17), (67, v16), (66, v15), (65, v14), (64, v13), (63, v12), (62, v11), (61, v10), (60, v9), (59, v9), (58, v8), (57, v7), (56, v6), (55, v5), (54, v4), (53, v4), (52, v3), (51, v2), (50, v1), (49, v0), (48, v0), (47, lk l 4), (1, lk l 1), (3, lk l 3), (4, lk l 4), (5, lk l 5)], rows, low⟩ r := rg [1, 3, 4, 5] c58r19 rfl (by kernel_rfl)
@[simp] theorem uc58s20 : Ex F cx (.code c58s20 :: k) s r ↔ Ex F cx (.code (.seq c58k19 c58s18) :: k) s r := Iff.rfl
@[simp] theorem uc58k21 : Ex F cx (.code c58k21 :: k) ⟨mk 163 l, rows, low⟩ r ↔ bnd (evP rows (.fieldA 1 (.c (lk l 1)))) fun v0 => bnd (evP rows (.load1 (.c v0))) fun v1 => bnd (evP rows (.idxS 2 (.c v1) (.c (lk l 3)))) fun v2 => bnd (evP rows (.idxA 2 1 (.c v2) (.c (.int .i64 0)))) fun v3 => bnd (evP rows (.load1 (.c v3))) fun v4 => bnd (evP rows (.fieldA 1 (.c (lk l 1)))) fun v5 => bnd (evP rows (.load1 (.c v5))) fun v6 => bnd (evP rows (.idxS 2 (.c v6) (.c (lk l 3)))) fun v7 => bnd (evP rows (.idxA 2 1 (.c v7) (.c (.int .i64 1)))) fun v8 => bnd (evP rows (.load1 (.c v8))) fun v9 => Ex F cx k ⟨mk 163 [(5, v9), (4, v4), (46, v9), (45, v8), (44, v7), (43, lk l 3), (42, v6), (41, v5), (40, v4), (39, v3), (38, v2), (37, lk l 3), (36, v1), (35, v0), (1, lk l 1), (3, lk l 3)], rows, low⟩ r := rg [1, 3] c58r21 rfl (by kernel_rfl)
@[simp] theorem uc58s22 : Ex F cx (.code c58s22 :: k) s r ↔ Ex F cx (.code (.seq (.block 1 (.seq c58k21 c58s20)) c58k16) :: k) s r := Iff.rfl
@[simp] theorem uc58s23 : Ex F cx (.code c58s23 :: k) s r ↔ Ex F cx (.code (.cond (.t 32) .skip (.exit 0)) :: k) s r := Iff.rfl
@[simp] theorem uc58k24 : Ex F cx (.code c58k24 :: k) ⟨mk 163 l, rows, low⟩ r ↔ bnd (evP rows (.fieldA 1 (.c (lk l 1)))) fun v0 => bnd (evP rows (.load1 (.c v0))) fun v1 => bnd (evP rows (.len 0 (.c v1))) fun v2 => bnd (evP rows (.bin .lss (.c (lk l 3)) (.c v2))) fun v3 => Ex F cx k ⟨mk 163 [(32, v3), (31, v2), (30, v1), (29, v0), (28, lk l 3), (1, lk l 1), (3, lk l 3)], rows, low⟩ r := rg [1, 3] c58r24 rfl (by kernel_rfl)
@[simp] theorem uc58s25 : Ex F cx (.code c58s25 :: k) s r ↔ Ex F cx (.code (.block 0 (.loop c58l15)) :: k) s r := Iff.rfl
@[simp] theorem uc58k26 : Ex F cx (.code c58k26 :: k) ⟨mk 163 l, rows, low⟩ r ↔ Ex F cx k ⟨mk 163 [(3, (.int .i64 0)), (1, lk l 1)], rows, low⟩ r := rg [1] c58r26 rfl (by kernel_rfl)
@[simp] theorem uc58s27 : Ex F cx (.code c58s27 :: k) s r ↔ Ex F cx (.code (.seq (.seq c58k26 c58s25) c58s14) :: k) s r := Iff.rfl
@[simp] theorem uc58k28 : Ex F cx (.code c58k28 :: k) ⟨mk 163 l, rows, low⟩ r ↔ Ex F cx k ⟨mk 163 [(2, (.bool false))], rows, low⟩ r := rg [] c58r28 rfl (by kernel_rfl)
@[simp] theorem uc58s29 : Ex F cx (.code c58s29 :: k) s r ↔ Ex F cx (.code (.cond (.t 27) (.seq c58k28 .ret) .skip) :: k) s r := Iff.rfl
@[simp] theorem uc58k30 : Ex F cx (.code c58k30 :: k) ⟨mk 163 l, rows, low⟩ r ↔ bnd (evP rows (.fieldA 0 (.c (lk l 1)))) fun v0 => bnd (evP rows (.load1 (.c v0))) fun v1 => bnd (evP rows (.bin .lss (.c v1) (.c (.int .i64 1)))) fun v2 => bnd (gv v2 false (evP rows (.fieldA 0 (.c (lk l 1))))) fun v3 => bnd (gv v2 false (evP rows (.load1 (.c v3)))) fun v4 => bnd (gv v2 false (evP rows (.bin .gtr (.c v4) (.c (.int .i64 6))))) fun v5 => bnd (evP rows (.pick (.c v2) (.c (.bool true)) (.c v5))) fun v6 => bnd (gv v6 false (evP rows (.fieldA 1 (.c (lk l 1))))) fun v7 => bnd (gv v6 false (evP rows (.load1 (.c v7)))) fun v8 => bnd (gv v6 false (evP rows (.len 0 (.c v8)))) fun v9 => bnd (gv v6 false (evP rows (.bin .gtr (.c v9) (.c (.int .i64 10))))) fun v10 => bnd (evP rows (.pick (.c v6) (.c (.bool true)) (.c v10))) fun v11 => bnd (gv v11 false (evP rows (.fieldA 2 (.c (lk l 1))))) fun v12 => bnd (gv v11 false (evP rows (.load1 (.c v12)))) fun v13 => bnd (gv v11 false (evP rows (.len 0 (.c v13)))) fun v14 => bnd (gv v11 false (evP rows (.bin .gtr (.c v14) (.c (.int .i64 6))))) fun v15 => bnd (evP rows (.pick (.c v11) (.c (.bool true)) (.c v15))) fun v16 => Ex F cx k ⟨mk 163 [(27, v16), (26, v15), (25, v14), (24, v13), (23, v12), (22, v11), (21, v11), (20, v10), (19, v9), (18, v8), (17, v7), (16, v6), (15, v6), (14, v5), (13, v4), (12, v3), (11, v2), (10, v2), (9, v1), (8, v0), (1, lk l 1)], rows, low⟩ r := rg [1] c58r30 rfl (by kernel_rfl)
@[simp] theorem uc58s31 : Ex F cx (.code c58s31 :: k) s r ↔ Ex F cx (.code (.seq (.seq c58k30 c58s29) c58s27) :: k) s r := Iff.rfl
@[simp] theorem uc58k32 : Ex F cx (.code c58k32 :: k) ⟨mk 163 l, rows, low⟩ r ↔ bnd (evE rows low (.box (.c (lk l 0)))) fun q0 => Ex F cx k ⟨mk 163 [(2, (.bool false)), (1, q0.1), (0, lk l 0)], q0.2.1, q0.2.2⟩ r := rg [0] c58r32 rfl (by kernel_rfl)
def Jc58s9 (F : Nat → Option IFn) (cx : Ctx) (x1 x6 : AV) (rows : List Row) (low : Nat) (r : AV × List Row × Nat → Prop) : Prop := Ex F cx (.code c58s9 :: .inLoop c58l2 :: .inBlock 2 :: .code c58s1 :: []) ⟨mk 163 [(1, x1), (6, x6)], rows, low⟩ r
def Lc58l2 (F : Nat → Option IFn) (cx : Ctx) (x1 x6 : AV) (rows : List Row) (low : Nat) (r : AV × List Row × Nat → Prop) : Prop := Ex F cx (.code c58l2 :: .inLoop c58l2 :: .inBlock 2 :: .code c58s1 :: []) ⟨mk 163 [(1, x1), (6, x6)], rows, low⟩ r
@[simp] theorem nc58l2 : Ex F cx (.inLoop c58l2 :: .inBlock 2 :: .code c58s1 :: []) ⟨mk 163 l, rows, low⟩ r ↔ Lc58l2 F cx (lk l 1) (lk l 6) rows low r := loopN (keep := [1, 6]) (by kernel_rfl)
@[simp] theorem ec58l2 : Ex F cx (.code (.loop c58l2) :: .inBlock 2 :: .code c58s1 :: []) ⟨mk 163 l, rows, low⟩ r ↔ Lc58l2 F cx (lk l 1) (lk l 6) rows low r := loopE (keep := [1, 6]) (by kernel_rfl)
@[simp] theorem uc58l2 : Ex F cx (.code c58l2 :: k) s r ↔ Ex F cx (.code (.seq (.seq c58k11 c58s10) c58s9) :: k) s r := Iff.rfl
def Jc58s22 (F : Nat → Option IFn) (cx : Ctx) (x1 x3 : AV) (rows : List Row) (low : Nat) (r : AV × List Row × Nat → Prop) : Prop := Ex F cx (.code c58s22 :: .inLoop c58l15 :: .inBlock 0 :: .code c58s14 :: []) ⟨mk 163 [(1, x1), (3, x3)], rows, low⟩ r
def Lc58l15 (F : Nat → Option IFn) (cx : Ctx) (x1 x3 : AV) (rows : List Row) (low : Nat) (r : AV × List Row × Nat → Prop) : Prop := Ex F cx (.code c58l15 :: .inLoop c58l15 :: .inBlock 0 :: .code c58s14 :: []) ⟨mk 163 [(1, x1), (3, x3)], rows, low⟩ r
@[simp] theorem nc58l15 : Ex F cx (.inLoop c58l15 :: .inBlock 0 :: .code c58s14 :: []) ⟨mk 163 l, rows, low⟩ r ↔ Lc58l15 F cx (lk l 1) (lk l 3) rows low r := loopN (keep := [1, 3]) (by kernel_rfl)
@[simp] theorem ec58l15 : Ex F cx (.code (.loop c58l15) :: .inBlock 0 :: .code c58s14 :: []) ⟨mk 163 l, rows, low⟩ r ↔ Lc58l15 F cx (lk l 1) (lk l 3) rows low r := loopE (keep := [1, 3]) (by kernel_rfl)
@[simp] theorem uc58l15 : Ex F cx (.code c58l15 :: k) s r ↔ Ex F cx (.code (.seq (.seq c58k24 c58s23) c58s22) :: k) s r := Iff.rfl
def Jc58s27 (F : Nat → Option IFn) (cx : Ctx) (x1 : AV) (rows : List Row) (low : Nat) (r : AV × List Row × Nat → Prop) : Prop := Ex F cx (.code c58s27 :: []) ⟨mk 163 [(1, x1)], rows, low⟩ r
@[simp] theorem uc58b : Ex F cx (.code c58b :: k) s r ↔ Ex F cx (.code (.seq c58k32 c58s31) :: k) s r := Iff.rfl
theorem i58 {x0 : AV} (hF : F 58 = some c58) {q : AV × List Row × Option Nat} (h : Ex F (.fn [.t 2]) [.code c58b] ⟨mk 163 [(0, x0)], rows, rows.length⟩ fun r => fin rows r.1 r.2.1 r.2.2 = q) : Ret F 58 [x0] rows = some q := Ret_mk hF h
@[simp] theorem uc62k0 : Ex F cx (.code c62k0 :: k) ⟨mk 6 l, rows, low⟩ r ↔ bnd (evP rows (.mkfn 93 [(.c (lk l 2)), (.c (lk l 3))])) fun v0 => Ex F cx k ⟨mk 6 [(4, v0), (5, v0), (2, lk l 2), (3, lk l 3)], rows, low⟩ r := rg [2, 3] c62r0 rfl (by kernel_rfl)
@[simp] theorem uc62s1 : Ex F cx (.code c62s1 :: k) s r ↔ Ex F cx (.code (.seq c62k0 .ret) :: k) s r := Iff.rfl
@[simp] theorem uc62k2 : Ex F cx (.code c62k2 :: k) ⟨mk 6 l, rows, low⟩ r ↔ bnd (evE rows low (.box (.c (lk l 0)))) fun q0 => bnd (evE q0.2.1 q0.2.2 (.box (.c (lk l 1)))) fun q1 => Ex F cx k ⟨mk 6 [(4, .nilfunc), (3, q1.1), (2, q0.1), (0, lk l 0), (1, lk l 1)], q1.2.1, q1.2.2⟩ r := rg [0, 1] c62r2 rfl (by kernel_rfl)
@[simp] theorem uc62b : Ex F cx (.code c62b :: k) s r ↔ Ex F cx (.code (.seq c62k2 c62s1) :: k) s r := Iff.rfl
theorem i62 {x0 x1 : AV} (hF : F 62 = some c62) {q : AV × List Row × Option Nat} (h : Ex F (.fn [.t 4]) [.code c62b] ⟨mk 6 [(0, x0), (1, x1)], rows, rows.length⟩ fun r => fin rows r.1 r.2.1 r.2.2 = q) : Ret F 62 [x0, x1] rows = some q := Ret_mk hF h
@[simp] theorem uc90k0 : Ex F cx (.code c90k0 :: k) ⟨mk 24 l, rows, low⟩ r ↔ Ex F cx k ⟨mk 24 [(4, (.bool false))], rows, low⟩ r := rg [] c90r0 rfl (by kernel_rfl)
@[simp] theorem uc90s1 : Ex F cx (.code c90s1 :: k) s r ↔ Ex F cx (.code (.seq c90k0 .ret) :: k) s r := Iff.rfl
@[simp] theorem uc90k3 : Ex F cx (.code c90k3 :: k) ⟨mk 24 l, rows, low⟩ r ↔ bnd (evP rows (.bin .add (.c (lk l 5)) (.c (.int .i64 1)))) fun v0 => Ex F cx k ⟨mk 24 [(5, v0), (9, v0), (8, lk l 5), (2, lk l 2), (3, lk l 3), (5, lk l 5)], rows, low⟩ r := rg [2, 3, 5] c90r3 rfl (by kernel_rfl)
@[simp] theorem uc90k4 : Ex F cx (.code c90k4 :: k) ⟨mk 24 l, rows, low⟩ r ↔ bnd (evP rows (.idxA 3 1 (.c (lk l 2)) (.c (lk l 5)))) fun v0 => bnd (evP rows (.load1 (.c v0))) fun v1 => bnd (evP rows (.idxA 3 1 (.c (lk l 3)) (.c (lk l 5)))) fun v2 => bnd (evP rows (.load1 (.c v2))) fun v3 => bnd (evP rows (.bin .lss (.c v1) (.c v3))) fun v4 => Ex F cx k ⟨mk 24 [(4, v4), (23, v4), (22, v3), (21, v2), (20, lk l 5), (19, v1), (18, v0), (17, lk l 5), (2, lk l 2), (3, lk l 3), (5, lk l 5)], rows, low⟩ r := rg [2, 3, 5] c90r4 rfl (by kernel_rfl)
@[simp] theorem uc90s5 : Ex F cx (.code c90s5 :: k) s r ↔ Ex F cx (.code (.cond (.t 16) (.seq c90k4 .ret) .skip) :: k) s r := Iff.rfl
@[simp] theorem uc90k6 : Ex F cx (.code c90k6 :: k) ⟨mk 24 l, rows, low⟩ r ↔ bnd (evP rows (.idxA 3 1 (.c (lk l 2)) (.c (lk l 5)))) fun v0 => bnd (evP rows (.load1 (.c v0))) fun v1 => bnd (evP rows (.idxA 3 1 (.c (lk l 3)) (.c (lk l 5)))) fun v2 => bnd (evP rows (.load1 (.c v2))) fun v3 => bnd (evP rows (.bin .neq (.c v1) (.c v3))) fun v4 => Ex F cx k ⟨mk 24 [(16, v4), (15, v3), (14, v2), (13, lk l 5), (12, v1), (11, v0), (10, lk l 5), (2, lk l 2), (3, lk l 3), (5, lk l 5)], rows, low⟩ r := rg [2, 3, 5] c90r6 rfl (by kernel_rfl)
@[simp] theorem uc90s7 : Ex F cx (.code c90s7 :: k) s r ↔ Ex F cx (.code (.seq (.block 1 (.seq c90k6 c90s5)) c90k3) :: k) s r := Iff.rfl
@[simp] theorem uc90s8 : Ex F cx (.code c90s8 :: k) s r ↔ Ex F cx (.code (.cond (.t 7) .skip (.exit 0)) :: k) s r := Iff.rfl
@[simp] theorem uc90k9 : Ex F cx (.code c90k9 :: k) ⟨mk 24 l, rows, low⟩ r ↔ bnd (evP rows (.bin .lss (.c (lk l 5)) (.c (.int .i64 3)))) fun v0 => Ex F cx k ⟨mk 24 [(7, v0), (6, lk l 5), (2, lk l 2), (3, lk l 3), (5, lk l 5)], rows, low⟩ r := rg [2, 3, 5] c90r9 rfl (by kernel_rfl)
@[simp] theorem uc90s10 : Ex F cx (.code c90s10 :: k) s r ↔ Ex F cx (.code (.block 0 (.loop c90l2)) :: k) s r := Iff.rfl
@[simp] theorem uc90k11 : Ex F cx (.code c90k11 :: k) ⟨mk 24 l, rows, low⟩ r ↔ Ex F cx k ⟨mk 24 [(5, (.int .i64 0)), (2, lk l 2), (3, lk l 3)], rows, low⟩ r := rg [2, 3] c90r11 rfl (by kernel_rfl)
@[simp] theorem uc90s12 : Ex F cx (.code c90s12 :: k) s r ↔ Ex F cx (.code (.seq (.seq c90k11 c90s10) c90s1) :: k) s r := Iff.rfl
@[simp] theorem uc90k13 : Ex F cx (.code c90k13 :: k) ⟨mk 24 l, rows, low⟩ r ↔ bnd (evE rows low (.box (.c (lk l 0)))) fun q0 => bnd (evE q0.2.1 q0.2.2 (.box (.c (lk l 1)))) fun q1 => Ex F cx k ⟨mk 24 [(4, (.bool false)), (3, q1.1), (2, q0.1), (0, lk l 0), (1, lk l 1)], q1.2.1, q1.2.2⟩ r := rg [0, 1] c90r13 rfl (by kernel_rfl)
def Jc90s7 (F : Nat → Option IFn) (cx : Ctx) (x2 x3 x5 : AV) (rows : List Row) (low : Nat) (r : AV × List Row × Nat → Prop) : Prop := Ex F cx (.code c90s7 :: .inLoop c90l2 :: .inBlock 0 :: .code c90s1 :: []) ⟨mk 24 [(2, x2), (3, x3), (5, x5)], rows, low⟩ r
def Lc90l2 (F : Nat → Option IFn) (cx : Ctx) (x2 x3 x5 : AV) (rows : List Row) (low : Nat) (r : AV × List Row × Nat → Prop) : Prop := Ex F cx (.code c90l2 :: .inLoop c90l2 :: .inBlock 0 :: .code c90s1 :: []) ⟨mk 24 [(2, x2), (3, x3), (5, x5)], rows, low⟩ r
@[simp] theorem nc90l2 : Ex F cx (.inLoop c90l2 :: .inBlock 0 :: .code c90s1 :: []) ⟨mk 24 l, rows, low⟩ r ↔ Lc90l2 F cx (lk l 2) (lk l 3) (lk l 5) rows low r := loopN (keep := [2, 3, 5]) (by kernel_rfl)
@[simp] theorem ec90l2 : Ex F cx (.code (.loop c90l2) :: .inBlock 0 :: .code c90s1 :: []) ⟨mk 24 l, rows, low⟩ r ↔ Lc90l2 F cx (lk l 2) (lk l 3) (lk l 5) rows low r := loopE (keep := [2, 3, 5]) (by kernel_rfl)
@[simp] theorem uc90l2 : Ex F cx (.code c90l2 :: k) s r ↔ Ex F cx (.code (.seq (.seq c90k9 c90s8) c90s7) :: k) s r := Iff.rfl
@[simp] theorem uc90b : Ex F cx (.code c90b :: k) s r ↔ Ex F cx (.code (.seq c90k13 c90s12) :: k) s r := Iff.rfl
theorem i90 {x0 x1 : AV} (hF : F 90 = some c90) {q : AV × List Row × Option Nat} (h : Ex F (.fn [.t 4]) [.code c90b] ⟨mk 24 [(0, x0), (1, x1)], rows, rows.length⟩ fun r => fin rows r.1 r.2.1 r.2.2 = q) : Ret F 90 [x0, x1] rows = some q := Ret_mk hF h
@[simp] theorem uc93k1 : Ex F cx (.code c93k1 :: k) ⟨mk 52 l, rows, low⟩ r ↔ bnd (evP rows (.bin .add (.c (lk l 16)) (.c (.int .i64 1)))) fun v0 => Ex F cx k ⟨mk 52 [(16, v0), (51, v0), (0, lk l 0), (4, lk l 4), (14, lk l 14), (15, lk l 15), (16, lk l 16)], rows, low⟩ r := rg [0, 4, 14, 15, 16] c93r1 rfl (by kernel_rfl)
@[simp] theorem uc93s2 : Ex F cx (.code c93s2 :: k) s r ↔ Ex F cx (.code (.cond (.t 50) .ret .skip) :: k) s r := Iff.rfl
@[simp] theorem uc93k3 : Ex F cx (.code c93k3 :: k) ⟨mk 52 l, rows, low⟩ r ↔ bnd (evP rows (.bin .neq (.c (lk l 7)) (.c (.int .i64 0)))) fun v0 => bnd (gv v0 true (evP rows (.mv (.c (lk l 0))))) fun v1 => bnd (gv v0 true (evP rows (.mv (.c (lk l 5))))) fun v2 => bnd (gv v0 true (evP rows (.mv (.c (lk l 7))))) fun v3 => gcall F v0 true rows low [v2, v3] [] v1 fun v4 R4 L4 => bnd (gv v0 true (evP R4 (.un .not (.c v4)))) fun v5 => bnd (evP R4 (.pick (.c v0) (.c v5) (.c (.bool false)))) fun v6 => Ex F cx k ⟨mk 52 [(50, v6), (49, v5), (48, v4), (47, v3), (46, v2), (45, v1), (44, v0), (43, v0), (42, lk l 7), (0, lk l 0), (4, lk l 4), (5, lk l 5), (7, lk l 7), (14, lk l 14), (15, lk l 15), (16, lk l 16)], R4, L4⟩ r := rg [0, 4, 5, 7, 14, 15, 16] c93r3 rfl (by kernel_rfl)
@[simp] theorem uc93s4 : Ex F cx (.code c93s4 :: k) s r ↔ Ex F cx (.code (.seq c93k3 c93s2) :: k) s r := Iff.rfl
@[simp] theorem uc93k5 : Ex F cx (.code c93k5 :: k) ⟨mk 52 l, rows, low⟩ r ↔ Ex F cx k ⟨mk 52 [(7, (.int .i64 1)), (0, lk l 0), (4, lk l 4), (5, lk l 5), (14, lk l 14), (15, lk l 15), (16, lk l 16)], rows, low⟩ r := rg [0, 4, 5, 14, 15, 16] c93r5 rfl (by kernel_rfl)
@[simp] theorem uc93k6 : Ex F cx (.code c93k6 :: k) ⟨mk 52 l, rows, low⟩ r ↔ Ex F cx k ⟨mk 52 [(7, (.int .i64 (-1))), (0, lk l 0), (4, lk l 4), (5, lk l 5), (14, lk l 14), (15, lk l 15), (16, lk l 16)], rows, low⟩ r := rg [0, 4, 5, 14, 15, 16] c93r6 rfl (by kernel_rfl)
@[simp] theorem uc93s7 : Ex F cx (.code c93s7 :: k) s r ↔ Ex F cx (.code (.cond (.t 35) c93k6 .skip) :: k) s r := Iff.rfl
@[simp] theorem uc93k8 : Ex F cx (.code c93k8 :: k) ⟨mk 52 l, rows, low⟩ r ↔ bnd (evP rows (.idxA 3 1 (.c (lk l 4)) (.c (.int .i64 0)))) fun v0 => bnd (evP rows (.load1 (.c v0))) fun v1 => bnd (evP rows (.idxA 3 1 (.c (lk l 4)) (.c (.int .i64 2)))) fun v2 => bnd (evP rows (.load1 (.c v2))) fun v3 => bnd (evP rows (.mkagg [.int .i64 0, .int .i64 0] [(0, 1, (.c v1)), (1, 1, (.c v3))])) fun v4 => bnd (evP rows (.eqv false (.ints 2) (.c (lk l 21)) (.c v4))) fun v5 => Ex F cx k ⟨mk 52 [(35, v5), (41, v5), (40, v4), (39, v3), (38, v2), (37, v1), (36, v0), (0, lk l 0), (4, lk l 4), (5, lk l 5), (7, lk l 7), (14, lk l 14), (15, lk l 15), (16, lk l 16), (21, lk l 21)], rows, low⟩ r := rg [0, 4, 5, 7, 14, 15, 16, 21] c93r8 rfl (by kernel_rfl)
@[simp] theorem uc93s9 : Ex F cx (.code c93s9 :: k) s r ↔ Ex F cx (.code (.cond (.t 22) c93k5 (.seq c93k8 c93s7)) :: k) s r := Iff.rfl
@[simp] theorem uc93k10 : Ex F cx (.code c93k10 :: k) ⟨mk 52 l, rows, low⟩ r ↔ bnd (evP rows (.idxA 3 1 (.c (lk l 4)) (.c (.int .i64 1)))) fun v0 => bnd (evP rows (.load1 (.c v0))) fun v1 => bnd (evP rows (.idxA 3 1 (.c (lk l 4)) (.c (.int .i64 2)))) fun v2 => bnd (evP rows (.load1 (.c v2))) fun v3 => bnd (evP rows (.mkagg [.int .i64 0, .int .i64 0] [(0, 1, (.c v1)), (1, 1, (.c v3))])) fun v4 => bnd (evP rows (.eqv false (.ints 2) (.c (lk l 21)) (.c v4))) fun v5 => Ex F cx k ⟨mk 52 [(22, v5), (34, v5), (33, v4), (32, v3), (31, v2), (30, v1), (29, v0), (0, lk l 0), (4, lk l 4), (5, lk l 5), (7, lk l 7), (14, lk l 14), (15, lk l 15), (16, lk l 16), (21, lk l 21)], rows, low⟩ r := rg [0, 4, 5, 7, 14, 15, 16, 21] c93r10 rfl (by kernel_rfl)
@[simp] theorem uc93s11 : Ex F cx (.code c93s11 :: k) s r ↔ Ex F cx (.code (.cond (.t 22) .skip c93k10) :: k) s r := Iff.rfl
@[simp] theorem uc93k12 : Ex F cx (.code c93k12 :: k) ⟨mk 52 l, rows, low⟩ r ↔ bnd (evP rows (.idxA 3 1 (.c (lk l 4)) (.c (.int .i64 0)))) fun v0 => bnd (evP rows (.load1 (.c v0))) fun v1 => bnd (evP rows (.idxA 3 1 (.c (lk l 4)) (.c (.int .i64 1)))) fun v2 => bnd (evP rows (.load1 (.c v2))) fun v3 => bnd (evP rows (.mkagg [.int .i64 0, .int .i64 0] [(0, 1, (.c v1)), (1, 1, (.c v3))])) fun v4 => bnd (evP rows (.eqv false (.ints 2) (.c (lk l 21)) (.c v4))) fun v5 => Ex F cx k ⟨mk 52 [(22, v5), (28, v5), (27, v4), (26, v3), (25, v2), (24, v1), (23, v0), (0, lk l 0), (4, lk l 4), (5, lk l 5), (7, lk l 7), (14, lk l 14), (15, lk l 15), (16, lk l 16), (21, lk l 21)], rows, low⟩ r := rg [0, 4, 5, 7, 14, 15, 16, 21] c93r12 rfl (by kernel_rfl)
@[simp] theorem uc93s13 : Ex F cx (.code c93s13 :: k) s r ↔ Ex F cx (.code (.block 2 (.seq (.seq c93k12 c93s11) c93s9)) :: k) s r := Iff.rfl
@[simp] theorem uc93k14 : Ex F cx (.code c93k14 :: k) ⟨mk 52 l, rows, low⟩ r ↔ bnd (evP rows (.loadN 2 (.c (lk l 6)))) fun v0 => Ex F cx k ⟨mk 52 [(21, v0), (0, lk l 0), (4, lk l 4), (5, lk l 5), (6, lk l 6), (7, lk l 7), (14, lk l 14), (15, lk l 15), (16, lk l 16)], rows, low⟩ r := rg [0, 4, 5, 6, 7, 14, 15, 16] c93r14 rfl (by kernel_rfl)
@[simp] theorem uc93s15 : Ex F cx (.code c93s15 :: k) s r ↔ Ex F cx (.code (.seq (.seq c93k14 c93s13) c93s4) :: k) s r := Iff.rfl
@[simp] theorem uc93k16 : Ex F cx (.code c93k16 :: k) ⟨mk 52 l, rows, low⟩ r ↔ Ex F cx k ⟨mk 52 [(7, (.int .i64 0)), (0, lk l 0), (4, lk l 4), (5, lk l 5), (6, lk l 6), (14, lk l 14), (15, lk l 15), (16, lk l 16)], rows, low⟩ r := rg [0, 4, 5, 6, 14, 15, 16] c93r16 rfl (by kernel_rfl)
@[simp] theorem uc93s17 : Ex F cx (.code c93s17 :: k) s r ↔ Ex F cx (.code (.seq c93k16 c93s15) :: k) s r := Iff.rfl
@[simp] theorem uc93k18 : Ex F cx (.code c93k18 :: k) ⟨mk 52 l, rows, low⟩ r ↔ bnd (evP rows (.idxS 2 (.c (lk l 14)) (.c (lk l 16)))) fun v0 => bnd (evP rows (.loadN 2 (.c v0))) fun v1 => bnd (evE rows low (.box (.c (.agg [.int .i64 0, .int .i64 0])))) fun q2 => bnd (evE q2.2.1 q2.2.2 (.storeN 2 (.c q2.1) (.c v1))) fun q3 => Ex F cx k ⟨mk 52 [(5, lk l 16), (6, q2.1), (20, v1), (19, v0), (18, lk l 16), (0, lk l 0), (4, lk l 4), (14, lk l 14), (15, lk l 15), (16, lk l 16)], q3.2.1, q3.2.2⟩ r := rg [0, 4, 14, 15, 16] c93r18 rfl (by kernel_rfl)
@[simp] theorem uc93s19 : Ex F cx (.code c93s19 :: k) s r ↔ Ex F cx (.code (.seq (.block 1 (.seq c93k18 c93s17)) c93k1) :: k) s r := Iff.rfl
@[simp] theorem uc93s20 : Ex F cx (.code c93s20 :: k) s r ↔ Ex F cx (.code (.seq (.cond (.t 17) .skip (.exit 0)) c93s19) :: k) s r := Iff.rfl
@[simp] theorem uc93k21 : Ex F cx (.code c93k21 :: k) ⟨mk 52 l, rows, low⟩ r ↔ bnd (evP rows (.bin .lss (.c (lk l 16)) (.c (lk l 15)))) fun v0 => Ex F cx k ⟨mk 52 [(17, v0), (0, lk l 0), (4, lk l 4), (14, lk l 14), (15, lk l 15), (16, lk l 16)], rows, low⟩ r := rg [0, 4, 14, 15, 16] c93r21 rfl (by kernel_rfl)
@[simp] theorem uc93s22 : Ex F cx (.code c93s22 :: k) s r ↔ Ex F cx (.code (.block 0 (.loop c93l0)) :: k) s r := Iff.rfl
@[simp] theorem uc93k23 : Ex F cx (.code c93k23 :: k) ⟨mk 52 l, rows, low⟩ r ↔ bnd (evP rows (.fieldA 1 (.c (lk l 1)))) fun v0 => bnd (evP rows (.load1 (.c v0))) fun v1 => bnd (evP rows (.len 0 (.c v1))) fun v2 => Ex F cx k ⟨mk 52 [(16, (.int .i64 0)), (15, v2), (14, v1), (13, v0), (0, lk l 0), (1, lk l 1), (4, lk l 4)], rows, low⟩ r := rg [0, 1, 4] c93r23 rfl (by kernel_rfl)
@[simp] theorem uc93s24 : Ex F cx (.code c93s24 :: k) s r ↔ Ex F cx (.code (.seq c93k23 c93s22) :: k) s r := Iff.rfl
@[simp] theorem uc93k25 : Ex F cx (.code c93k25 :: k) ⟨mk 52 l, rows, low⟩ r ↔ bnd (evP rows (.fieldA 2 (.c (lk l 1)))) fun v0 => bnd (evP rows (.load1 (.c v0))) fun v1 => bnd (evP rows (.load1 (.c (lk l 2)))) fun v2 => bnd (evP rows (.idxS 3 (.c v1) (.c v2))) fun v3 => bnd (evP rows (.loadN 3 (.c v3))) fun v4 => bnd (evE rows low (.box (.c (.agg [.int .i64 0, .int .i64 0, .int .i64 0])))) fun q5 => bnd (evE q5.2.1 q5.2.2 (.storeN 3 (.c q5.1) (.c v4))) fun q6 => Ex F cx k ⟨mk 52 [(4, q5.1), (12, v4), (11, v3), (10, v2), (9, v1), (8, v0), (0, lk l 0), (1, lk l 1), (2, lk l 2)], q6.2.1, q6.2.2⟩ r := rg [0, 1, 2] c93r25 rfl (by kernel_rfl)
def Jc93s4 (F : Nat → Option IFn) (cx : Ctx) (x0 x4 x5 x7 x14 x15 x16 : AV) (rows : List Row) (low : Nat) (r : AV × List Row × Nat → Prop) : Prop := Ex F cx (.code c93s4 :: .inBlock 1 :: .code c93k1 :: .inLoop c93l0 :: .inBlock 0 :: []) ⟨mk 52 [(0, x0), (4, x4), (5, x5), (7, x7), (14, x14), (15, x15), (16, x16)], rows, low⟩ r
theorem jc93s4 : Ex F cx (.code c93s4 :: .inBlock 1 :: .code c93k1 :: .inLoop c93l0 :: .inBlock 0 :: []) ⟨mk 52 l, rows, low⟩ r ↔ Jc93s4 F cx (lk l 0) (lk l 4) (lk l 5) (lk l 7) (lk l 14) (lk l 15) (lk l 16) rows low r := Ex_canon (keep := [0, 4, 5, 7, 14, 15, 16]) (by kernel_rfl)
def Jc93s19 (F : Nat → Option IFn) (cx : Ctx) (x0 x4 x14 x15 x16 : AV) (rows : List Row) (low : Nat) (r : AV × List Row × Nat → Prop) : Prop := Ex F cx (.code c93s19 :: .inLoop c93l0 :: .inBlock 0 :: []) ⟨mk 52 [(0, x0), (4, x4), (14, x14), (15, x15), (16, x16)], rows, low⟩ r
def Lc93l0 (F : Nat → Option IFn) (cx : Ctx) (x0 x4 x14 x15 x16 : AV) (rows : List Row) (low : Nat) (r : AV × List Row × Nat → Prop) : Prop := Ex F cx (.code c93l0 :: .inLoop c93l0 :: .inBlock 0 :: []) ⟨mk 52 [(0, x0), (4, x4), (14, x14), (15, x15), (16, x16)], rows, low⟩ r
@[simp] theorem nc93l0 : Ex F cx (.inLoop c93l0 :: .inBlock 0 :: []) ⟨mk 52 l, rows, low⟩ r ↔ Lc93l0 F cx (lk l 0) (lk l 4) (lk l 14) (lk l 15) (lk l 16) rows low r := loopN (keep := [0, 4, 14, 15, 16]) (by kernel_rfl)
@[simp] theorem ec93l0 : Ex F cx (.code (.loop c93l0) :: .inBlock 0 :: []) ⟨mk 52 l, rows, low⟩ r ↔ Lc93l0 F cx (lk l 0) (lk l 4) (lk l 14) (lk l 15) (lk l 16) rows low r := loopE (keep := [0, 4, 14, 15, 16]) (by kernel_rfl)
@[simp] theorem uc93l0 : Ex F cx (.code c93l0 :: k) s r ↔ Ex F cx (.code (.seq c93k21 c93s20) :: k) s r := Iff.rfl
@[simp] theorem uc93b : Ex F cx (.code c93b :: k) s r ↔ Ex F cx (.code (.seq c93k25 c93s24) :: k) s r := Iff.rfl
end Go.Abs

set_option linter.unusedSimpArgs false
namespace Go.Abs
section
variable {rows : List Row} {N : Nat} {ks ps : List Nat} {g v : AV} {l : List Int}
theorem places_ret {N : Int} {ev pv : AV} (h1 : ev.one = true) (h2 : pv.one = true) : Ret F 74 [.agg [.int .i64 N, ev, pv]] rows = some (.int .i64 N, rows, none) := by
 refine i74 F74 ?_
 simp [AV.cells, h1, h2]
theorem plates_ret {N : AV} {ev pv : AV} {cs : List AV} {m : Nat} (he : El rows 3 pv cs m) (h1 : N.one = true) (h2 : ev.one = true) : Ret F 77 [.agg [N, ev, pv]] rows = some (.int .i64 m, rows, none) := by
 have one1 := El_one he
 have he' := El_app he [.cells [N, ev, pv]]
 refine i77 F77 ?_
 simp [AV.cells, one1, h1, h2, lenW he']
theorem open_ok {ev pv : AV} (hg : GRd rows (.agg [.int .i64 N, ev, pv]) N ks ps) (h : IsL rows v l) (hb : ∀ x ∈ l, -100 ≤ x ∧ x ≤ 100) {f n : Nat} (hl : l.length = n) (hn1 : n ≤ 100) {g' : AV} (hn : ∀ L, Ret F f [g'] (rows ++ L) = some (.int .i64 n, rows ++ L, none)) :
  Ret F 66 [.agg [.int .i64 N, ev, pv], v, .iface bd (.agg [.int .u64 f, g'])] rows = some (.int .i64 0, rows, none) := by
 obtain ⟨_, _, e, he, hp, _⟩ := hg.eq
 simp only [AV.agg.injEq, List.cons.injEq, and_true, true_and] at e
 obtain ⟨rfl, rfl⟩ := e
 have hok := hg.ok
 have h1 := hok.ek
 have h2 := hok.pk
 have := open_ret (N := N) (n := n) he (by omega) hp (by omega) h (by omega) hn
 rw [this, gndB_ok hok]
 have hany : l.any outB = false := by
  rw [List.any_eq_false]
  intro x hx
  have := hb x hx
  simp [outB]
  omega
 simp [opn, hany, hl]
def grad (ks : List Nat) (l : List Int) : List Int := ks.map fun k => gI l (k % 6) - gI l (k / 6)
theorem grad_take {ks : List Nat} {i : Nat} (h : i < ks.length) : (grad ks l).take (i + 1) = (grad ks l).take i ++ [gI l (gN ks i % 6) - gI l (gN ks i / 6)] := by
 rw [List.take_add_one, List.getElem?_eq_getElem (by simpa [grad] using h)]
 simp [grad, gN_eq h]
theorem grad_len : (grad ks l).length = ks.length := by simp [grad]
set_option maxHeartbeats 8000000 in
theorem Gradient_loop {B : List Row} {ev : AV} (hok : GOK N ks ps) (he : El B 2 ev (nums .i64 (eC ks)) ks.length) (h : IsL B v l) (hl : l.length = N) (hb : ∀ x ∈ l, -100 ≤ x ∧ x ≤ 100) {low : Nat} (hlow : low ≤ B.length) {r : AV × List Row × Nat → Prop}
  (hk : ∀ (L : List Row) (x7 : AV), Acc B L 1 (.op 1) x7 (nums .i64 (grad ks l)) ks.length → r (.tup [x7, .int .i64 0], B ++ L, low)) :
  ∀ (d i : Nat) (L : List Row) (x7 : AV), ks.length - i = d → i ≤ ks.length → Acc B L 1 (.op 1) x7 (nums .i64 ((grad ks l).take i)) i →
  Lc33l2 F (.fn [.t 4, .t 5]) v x7 ev (.int .i64 ks.length) (.int .i64 i) (B ++ L) low r := by
 intro d
 induction d with
 |
  zero =>
  intro i L x7 hd h1 hA
  have hi : i = ks.length := by omega
  subst hi
  rw [List.take_of_length_le (by rw [grad_len]; omega)] at hA
  have := hk L x7 hA
  unfold Lc33l2
  simp
  exact this
 |
  succ d ih =>
  intro i L x7 hd h1 hA
  have hi : i < ks.length := by omega
  have hek := hok.ek
  have hw : IntKind.i64.wrap ((i : Int) + 1) = ((i + 1 : Nat) : Int) := by rw [wrap64 (by omega) (by omega)]; omega
  obtain ⟨e1, e2⟩ := eC_a hi
  have hee := hok.ee _ (gN_mem hi)
  have n6 := hok.n6
  have hgt := grad_take (l := l) hi
  have b1 := bd_get hb (i := gN ks i / 6) (by omega)
  have b2 := bd_get hb (i := gN ks i % 6) (by omega)
  have b3 : gN ks i / 6 < l.length := by omega
  have b4 : gN ks i % 6 < l.length := by omega
  generalize gN ks i / 6 = A at *
  generalize gN ks i % 6 = C at *
  obtain ⟨X, hX⟩ : ∃ X, X = gI l C - gI l A := ⟨_, rfl⟩
  have hws : IntKind.i64.wrap (gI l C - gI l A) = X := by rw [hX]; exact wrap64 (by omega) (by omega)
  rw [← hX] at hgt
  have hA' := Acc_app hA [.cells [.int .i64 A, .int .i64 C]]
  obtain ⟨x7', L', ev1, hA2⟩ := Acc_more (low := low) (b := 8) (x := [.int .i64 X]) hA' rfl (by omega) (by omega) hlow
  rw [show nums .i64 ((grad ks l).take i) ++ [.int .i64 X] = nums .i64 ((grad ks l).take (i + 1)) from by rw [hgt, ← nums_app]; rfl] at hA2
  rw [List.length_append, List.append_assoc] at ev1
  have ev2 : evE (B ++ (L ++ [.cells [.int .i64 A, .int .i64 C], .cells [.int .i64 X]])) low (.app 1 8 (.c x7) (.c (.slice (B.length + (L.length + 1)) 0 1 (.at_ 1)))) = some (x7', B ++ L', low) := ev1
  have := ih (i + 1) L' x7' (by omega) (by omega) hA2
  have he' := El_app he L
  have h' := IsL_app h (L ++ [.cells [.int .i64 A, .int .i64 C]])
  have hlw : lower low (B.length + L.length) = low := lower_ge' (by omega)
  have i01 : idx? 0 2 = some 0 := rfl
  have i11 : idx? 1 2 = some 1 := rfl
  unfold Lc33l2
  simp (disch := first | omega | (simp; done) | fail) [hi, idxW he', ldW2 he', e1, e2, AV.cells, splice, hlw, i01, i11, maskE, idxL0 h', loadL0 h', hws, fillA, drop_mapL, ev2, hw, Nat.add_assoc]
  simpa using this
def LRet (f : Nat) (vs : List AV) (rows : List Row) (l : List Int) : Prop := ∃ v X, Ret F f vs rows = some (.tup [v, .int .i64 0], rows ++ X, none) ∧ X.all (Row.under 0) = true ∧ IsL (rows ++ X) v l ∧ Cp 1 v
set_option maxHeartbeats 4000000 in
theorem Gradient_ret (hg : GRd rows g N ks ps) (h : IsL rows v l) (hl : l.length = N) (hb : ∀ x ∈ l, -100 ≤ x ∧ x ≤ 100) : LRet 33 [g, v] rows (grad ks l) := by
 obtain ⟨ev, pv, rfl, he, hp, _⟩ := hg.eq
 have hok := hg.ok
 have o1 := El_one he
 have o2 := El_one hp
 have n6 := hok.n6
 have ho := open_ok (hg.app [.cells [.int .i64 N, ev, pv]]) (IsL_app h [.cells [.int .i64 N, ev, pv]]) hb (f := 74) (n := N) hl (by omega) (g' := .agg [.int .i64 N, ev, pv]) (fun L => places_ret o1 o2)
 rw [show ((74 : Nat) : Int) = 74 from rfl] at ho
 let Q : AV × List Row × Nat → Prop := fun r => ∃ v X, fin rows r.1 r.2.1 r.2.2 = (.tup [v, .int .i64 0], rows ++ X, none) ∧ X.all (Row.under 0) = true ∧ IsL (rows ++ X) v (grad ks l) ∧ Cp 1 v
 have main : Ex F (.fn [.t 4, .t 5]) [.code c33b] ⟨mk 41 [(0, .agg [.int .i64 N, ev, pv]), (1, v)], rows, rows.length⟩ Q := by
  have hloop := Gradient_loop (B := rows) (low := rows.length) (r := Q) hok he h hl hb (Nat.le_refl _) (fun L x7 hA => by
   obtain ⟨v', X, e, h1, h2, h3, h4⟩ := Acc_fin (e := 0) (kd := .i64) hA (.inl rfl)
   exact ⟨v', X, e, h1, h2, h4⟩) _ 0 [.cells [.int .i64 N, ev, pv]] .nilslice rfl (Nat.zero_le _) Acc_nil
  have ln := evP_lenE (El_app he [.cells [.int .i64 N, ev, pv]])
  simp [AV.cells, o1, o2, seg, ho, ln, boundOf]
  simpa using hloop
 obtain ⟨n1, q, e, v', X, h1, h2⟩ := main
 exact ⟨v', X, i33 F33 ⟨n1, q, e, h1⟩, h2⟩
end
end Go.Abs

namespace Go.Abs
theorem rep_nums {m : Nat} : List.replicate m (AV.int .i64 0) = nums .i64 (List.replicate m 0) := by simp [nums]
section
variable {rows : List Row} {N : Nat} {ks ps : List Nat} {g v : AV} {l : List Int}
end
end Go.Abs

namespace Go.Abs
def Sm (b o : Nat) (R R' : List Row) : Prop := b ≤ R'.length ∧ ∀ id, id < b → id ≠ o → R'[id]? = R[id]?
section
variable {b o : Nat} {R R' R'' : List Row}
theorem Sm_refl (h : b ≤ R.length) : Sm b o R R := ⟨h, fun _ _ _ => rfl⟩
theorem Sm_app (h : Sm b o R R') (X : List Row) : Sm b o R (R' ++ X) := ⟨by rw [List.length_append]; exact Nat.le_trans h.1 (Nat.le_add_right _ _), fun id h1 h2 => by
 rw [List.getElem?_append_left (Nat.lt_of_lt_of_le h1 h.1)]; exact h.2 id h1 h2⟩
theorem Sm_set (h : Sm b o R R') {i : Nat} {x : Row} (hi : i = o ∨ b ≤ i) : Sm b o R (R'.set i x) := ⟨by rw [List.length_set]; exact h.1, fun id h1 h2 => by
 rw [List.getElem?_set_ne (by omega)]; exact h.2 id h1 h2⟩
theorem Sm_take (h : Sm b o R R') {n : Nat} (hn : b ≤ n) : Sm b o R (R'.take n) := ⟨by rw [List.length_take]; have := h.1; omega, fun id h1 h2 => by
 rw [List.getElem?_take_of_lt (by omega)]; exact h.2 id h1 h2⟩
theorem Sm_trans (h : Sm b o R R') {b' : Nat} (h2 : Sm b' o R' R'') (hb : b ≤ b') : Sm b o R R'' := ⟨Nat.le_trans hb h2.1, fun id k1 k2 => (h2.2 id (by omega) k2).trans (h.2 id k1 k2)⟩
theorem Sm_row (h : Sm b o R R') {id : Nat} {vs : List AV} (hr : row? R id = some vs) (h1 : id < b) (h2 : id ≠ o) : row? R' id = some vs := by
 unfold row? at *
 rw [h.2 id h1 h2]
 exact hr
theorem Sm_El (h : Sm b o R R') {sz n : Nat} {v : AV} {cs : List AV} (he : El R sz v cs n) (h1 : v = .nilslice ∨ (sid v < b ∧ sid v ≠ o)) : El R' sz v cs n := by
 rcases El_cases he with ⟨rfl, rfl, rfl⟩ | ⟨id, off, c, vs, rfl, hr, hs⟩
 ·exact El_nil
 ·rcases h1 with h1 | ⟨h1, h2⟩
  ·simp at h1
  ·have := Sm_row h hr h1 h2
   unfold El elems
   simp only [this, hs]
   rfl
end
theorem El_lt {R : List Row} {sz n : Nat} {v : AV} {cs : List AV} (he : El R sz v cs n) : v = .nilslice ∨ sid v < R.length := by
 rcases El_cases he with ⟨rfl, _⟩ | ⟨id, off, c, vs, rfl, hr, _⟩
 ·exact .inl rfl
 ·exact .inr (row?_lt hr)
theorem row_end {B : List Row} {vs : List AV} : row? (B ++ [.cells vs]) B.length = some vs := by simp [row?]
theorem cell_end {B : List Row} {vs : List AV} : cells? (B ++ [.cells vs]) B.length = some vs := by simp [cells?]
theorem round_end {F : Nat → Option IFn} {M low : Nat} {R : List Row} {sl SL : List AV} {ds : List Nat} {asg body : ICode} {r : AV × List Row × Nat → Prop} (hM : R[M]? = some (.loop .busy none SL ds asg body)) :
  Ex F (.round M) [] ⟨sl, R, low⟩ r ↔ r (.bool true, R.set M (.loop .ready none SL ds asg body), lower low M) := by
 rw [Ex_nil]
 have e : leaveV (.round M) none ⟨sl, R, low⟩ = some (.bool true, R.set M (.loop .ready none SL ds asg body), lower low M) := by
  unfold leaveV; simp only [hM]; rfl
 constructor
 ·rintro ⟨x, hx, h⟩
  rw [e] at hx
  injection hx with hx
  subst hx
  exact h
 ·intro h
  exact ⟨_, e, h⟩
theorem round_put {R : List Row} {M o : Nat} {l y x : Row} (hM : R[M]? = some l) (ho : o < M) :
  (((R.set M y).set o x).set M l).length = R.length ∧ (∀ id, id ≠ o → (((R.set M y).set o x).set M l)[id]? = R[id]?) ∧ (((R.set M y).set o x).set M l)[o]? = some x := by
 have hMl := (List.getElem?_eq_some_iff.1 hM).1
 refine ⟨by simp, ?_, ?_⟩
 ·intro id h
  by_cases c : id = M
  ·subst c
   rw [List.getElem?_set_self (by simp; exact hMl), hM]
  ·rw [List.getElem?_set_ne (by omega), List.getElem?_set_ne (by omega), List.getElem?_set_ne (by omega)]
 ·rw [List.getElem?_set_ne (by omega), List.getElem?_set_self (by simp; omega)]
end Go.Abs

namespace Go.Abs
def sgn (q k : Nat) : Int := if (k / 6 = q / 36 ∧ k % 6 = q / 6 % 6) ∨ (k / 6 = q / 6 % 6 ∧ k % 6 = q % 6) then 1 else if k / 6 = q / 36 ∧ k % 6 = q % 6 then -1 else 0
def sdS (q : Nat) (ks : List Nat) (upd : Nat → Int → List Int → List Int) (c : List Int) : Nat → List Int
 | 0 => c
 | i + 1 => if sgn q (gN ks i) = 0 then sdS q ks upd c i else upd i (sgn q (gN ks i)) (sdS q ks upd c i)
section
variable {rows : List Row} {N : Nat} {ks ps : List Nat}
theorem sides_ret {n0 ev pv : AV} {i : Int} (h0 : n0.one = true) (h1 : ev.one = true) (h2 : pv.one = true) : Ret F 62 [.agg [n0, ev, pv], .int .i64 i] rows = some (.func 93 [.ptr rows.length 0, .ptr (rows.length + 1) 0], rows ++ [.cells [n0, ev, pv], .cells [.int .i64 i]], none) := by
 refine i62 F62 ?_
 simp [AV.cells, h0, h1, h2, fin]
theorem eq2 {k : IntKind} {a b c d : Nat} : eqInts [.int k a, .int k b] [.int k c, .int k d] = some (decide (a = c ∧ b = d)) := by
 simp [eqInts]
 by_cases h1 : a = c <;> by_cases h2 : b = d <;> simp [h1, h2, Int.natCast_inj]
set_option maxHeartbeats 8000000 in
theorem sides_head {y ev : AV} {P low m i A C qa qb qc : Nat} {R : List Row} {fl : List Int} {S : Int} {r : AV × List Row × Nat → Prop} (hi : i < m) (he' : El R 2 ev (nums .i64 fl) m) (hlw : lower low R.length = low) (e1 : gI fl (i * 2) = A) (e2 : gI fl (i * 2 + 1) = C)
  (hP' : row? (R ++ [.cells [.int .i64 A, .int .i64 C]]) P = some [.int .i64 qa, .int .i64 qb, .int .i64 qc])
  (hsgn : S = if (A = qa ∧ C = qb) ∨ (A = qb ∧ C = qc) then 1 else if A = qa ∧ C = qc then -1 else 0) :
  Lc93l0 F (.fn []) y (.ptr P 0) ev (.int .i64 m) (.int .i64 i) R low r ↔ Jc93s4 F (.fn []) y (.ptr P 0) (.int .i64 i) (.int .i64 S) ev (.int .i64 m) (.int .i64 i) (R ++ [.cells [.int .i64 A, .int .i64 C]]) low r := by
 have q1 := eq2 (k := .i64) (a := A) (b := C) (c := qa) (d := qb)
 have q2 := eq2 (k := .i64) (a := A) (b := C) (c := qb) (d := qc)
 have q3 := eq2 (k := .i64) (a := A) (b := C) (c := qa) (d := qc)
 have i02 : idx? 2 3 = some 2 := rfl
 have i03 : idx? 0 3 = some 0 := rfl
 have i13 : idx? 1 3 = some 1 := rfl
 have ix := idxW he' hi
 have ld := ldW2 he' hi
 rw [e1, e2] at ld
 unfold Lc93l0
 by_cases c1 : A = qa ∧ C = qb
 ·rw [decide_eq_true c1] at q1
  rw [if_pos (.inl c1)] at hsgn
  subst hsgn
  simp [hi, ix, ld, AV.cells, splice, hlw, i02, i03, i13, seg, fillA, q1, hP', -uc93s4, jc93s4]
 ·rw [decide_eq_false c1] at q1
  by_cases c2 : A = qb ∧ C = qc
  ·rw [decide_eq_true c2] at q2
   rw [if_pos (.inr c2)] at hsgn
   subst hsgn
   simp [hi, ix, ld, AV.cells, splice, hlw, i02, i03, i13, seg, fillA, q1, q2, hP', -uc93s4, jc93s4]
  ·rw [decide_eq_false c2] at q2
   rw [if_neg (by intro h; rcases h with h | h; exact c1 h; exact c2 h)] at hsgn
   by_cases c3 : A = qa ∧ C = qc
   ·rw [decide_eq_true c3] at q3
    rw [if_pos c3] at hsgn
    subst hsgn
    simp [hi, ix, ld, AV.cells, splice, hlw, i02, i03, i13, seg, fillA, q1, q2, q3, hP', -uc93s4, jc93s4]
   ·rw [decide_eq_false c3] at q3
    rw [if_neg c3] at hsgn
    subst hsgn
    simp [hi, ix, ld, AV.cells, splice, hlw, i02, i03, i13, seg, fillA, q1, q2, q3, hP', -uc93s4, jc93s4]
set_option maxHeartbeats 8000000 in
theorem sides_loop {M b o : Nat} {sl : List AV} {asg body : ICode} {d1 d2 q P : Nat} {ev : AV} {R0 : List Row} {upd : Nat → Int → List Int → List Int} {c0 : List Int} (hks : ks.length ≤ 10) (hb : b = R0.length) (hMb : M < b) (hMo : M ≠ o) (hob : o < b)
  (he : El R0 2 ev (nums .i64 (eC ks)) ks.length) (heo : sid ev ≠ o) (hL : R0[M]? = some (.loop .ready none sl [d1, d2] asg body)) (hP : row? R0 P = some [.int .i64 (q / 36 : Nat), .int .i64 (q / 6 % 6 : Nat), .int .i64 (q % 6 : Nat)]) (hPo : P ≠ o)
  (hbody : ∀ (R : List Row) (i : Nat), Sm b o R0 R → R[o]? = some (.cells (nums .i64 (sdS q ks upd c0 i))) → i < ks.length → sgn q (gN ks i) ≠ 0 → Ex F (.round M) [.code asg, .rfBegin, .code body] ⟨putL sl [d1, d2] [.int .i64 i, .int .i64 (sgn q (gN ks i))], R, R.length⟩ fun x =>
   x.1 = .bool true ∧ x.2.1.length = R.length ∧ (∀ id, id ≠ o → x.2.1[id]? = R[id]?) ∧ x.2.1[o]? = some (.cells (nums .i64 (upd i (sgn q (gN ks i)) (sdS q ks upd c0 i)))) ∧ x.2.2 = min M o)
  {r : AV × List Row × Nat → Prop} {lw0 : Nat} (hlw0 : lw0 ≤ b) (hend : ∀ R low, Sm b o R0 R → R[o]? = some (.cells (nums .i64 (sdS q ks upd c0 ks.length))) → (low = lw0 ∧ sdS q ks upd c0 ks.length = c0 ∨ low = min lw0 (min M o)) → r (.tup [], R, low)) :
  ∀ (n i : Nat) (R : List Row) (low : Nat), ks.length - i = n → i ≤ ks.length → Sm b o R0 R → R[o]? = some (.cells (nums .i64 (sdS q ks upd c0 i))) → (low = lw0 ∧ sdS q ks upd c0 i = c0 ∨ low = min lw0 (min M o)) →
  Lc93l0 F (.fn []) (.yield M) (.ptr P 0) ev (.int .i64 ks.length) (.int .i64 i) R low r := by
 intro n
 induction n with
 |
  zero =>
  intro i R low hn h1 hS hC hlow
  have : i = ks.length := by omega
  subst this
  have := hend R low hS hC hlow
  unfold Lc93l0
  simp
  exact this
 |
  succ n ih =>
  intro i R low hn h1 hS hC hlow
  have hi : i < ks.length := by omega
  have hPb : P < b := hb ▸ row?_lt hP
  have hw : IntKind.i64.wrap ((i : Int) + 1) = ((i + 1 : Nat) : Int) := by rw [wrap64 (by omega) (by omega)]; omega
  have he' : El R 2 ev (nums .i64 (eC ks)) ks.length := Sm_El hS he (by rcases El_lt he with h | h; exact .inl h; exact .inr ⟨by omega, heo⟩)
  have hP' := row?_old (Sm_row hS hP hPb hPo) [.cells [.int .i64 (gN ks i / 6 : Nat), .int .i64 (gN ks i % 6 : Nat)]]
  obtain ⟨e1, e2⟩ := eC_a hi
  have hRb := hS.1
  have hlw : lower low R.length = low := lower_ge' (by omega)
  have hS1 := Sm_app hS [.cells [.int .i64 (gN ks i / 6 : Nat), .int .i64 (gN ks i % 6 : Nat)]]
  have hC1 : (R ++ [Row.cells [.int .i64 (gN ks i / 6 : Nat), .int .i64 (gN ks i % 6 : Nat)]])[o]? = some (.cells (nums .i64 (sdS q ks upd c0 i))) := by
   rw [List.getElem?_append_left (by omega)]; exact hC
  have hL1 : (R ++ [Row.cells [.int .i64 (gN ks i / 6 : Nat), .int .i64 (gN ks i % 6 : Nat)]])[M]? = some (.loop .ready none sl [d1, d2] asg body) := (hS1.2 M hMb hMo).trans hL
  have hskip := ih (i + 1) _ low (by omega) (by omega) hS1
  have hround := hbody _ i hS1 hC1 hi
  have hsgn : sgn q (gN ks i) = if (gN ks i / 6 = q / 36 ∧ gN ks i % 6 = q / 6 % 6) ∨ (gN ks i / 6 = q / 6 % 6 ∧ gN ks i % 6 = q % 6) then 1 else if gN ks i / 6 = q / 36 ∧ gN ks i % 6 = q % 6 then -1 else 0 := rfl
  have hsd : sdS q ks upd c0 (i + 1) = if sgn q (gN ks i) = 0 then sdS q ks upd c0 i else upd i (sgn q (gN ks i)) (sdS q ks upd c0 i) := rfl
  rw [hsd] at hskip
  have hstep : sgn q (gN ks i) ≠ 0 → Ex F (.round M) [.code asg, .rfBegin, .code body] ⟨putL sl [d1, d2] [.int .i64 i, .int .i64 (sgn q (gN ks i))], R ++ [.cells [.int .i64 (gN ks i / 6 : Nat), .int .i64 (gN ks i % 6 : Nat)]], (R ++ [Row.cells [.int .i64 (gN ks i / 6 : Nat), .int .i64 (gN ks i % 6 : Nat)]]).length⟩ fun x =>
    x.1 = .bool true ∧ Lc93l0 F (.fn []) (.yield M) (.ptr P 0) ev (.int .i64 ks.length) (.int .i64 ((i + 1 : Nat) : Int)) (gc (R ++ [Row.cells [.int .i64 (gN ks i / 6 : Nat), .int .i64 (gN ks i % 6 : Nat)]]).length (lower low x.2.2) x.1 x.2.1) (lower low x.2.2) r := by
   intro hs
   obtain ⟨m, x, e, k1, k2, k3, k4, k5⟩ := hround hs
   refine ⟨m, x, e, k1, ?_⟩
   have hgc : gc (R ++ [Row.cells [.int .i64 (gN ks i / 6 : Nat), .int .i64 (gN ks i % 6 : Nat)]]).length (lower low x.2.2) x.1 x.2.1 = x.2.1 := by
    rcases gc_cases (R ++ [Row.cells [.int .i64 (gN ks i / 6 : Nat), .int .i64 (gN ks i % 6 : Nat)]]).length (lower low x.2.2) x.1 x.2.1 with h | ⟨h, _⟩
    ·exact h
    ·rw [h]; exact List.take_of_length_le (by omega)
   rw [hgc]
   refine ih (i + 1) _ _ (by omega) (by omega) ⟨by rw [k2]; exact hS1.1, fun id a1 a2 => (k3 id a2).trans (hS1.2 id a1 a2)⟩ ?_ ?_
   ·rw [hsd, if_neg hs]; exact k4
   ·right
    rw [k5]
    rcases hlow with ⟨h, _⟩ | h <;> rw [h] <;> unfold lower <;> split <;> omega
  have i02 : idx? 2 3 = some 2 := rfl
  have i03 : idx? 0 3 = some 0 := rfl
  have i13 : idx? 1 3 = some 1 := rfl
  generalize sgn q (gN ks i) = S at *
  generalize gN ks i / 6 = A at *
  generalize gN ks i % 6 = C at *
  generalize q / 36 = qa at *
  generalize q / 6 % 6 = qb at *
  generalize q % 6 = qc at *
  have q1 := eq2 (k := .i64) (a := A) (b := C) (c := qa) (d := qb)
  have q2 := eq2 (k := .i64) (a := A) (b := C) (c := qb) (d := qc)
  have q3 := eq2 (k := .i64) (a := A) (b := C) (c := qa) (d := qc)
  have no : S = 0 → Lc93l0 F (.fn []) (.yield M) (.ptr P 0) ev (.int .i64 ks.length) (.int .i64 ((i + 1 : Nat) : Int)) (R ++ [.cells [.int .i64 A, .int .i64 C]]) low r := fun h => by
   rw [if_pos h] at hskip
   exact hskip hC1 (by rcases hlow with ⟨h1, h2⟩ | h1; exact .inl ⟨h1, h2⟩; exact .inr h1)
  have nope : S = 0 → Jc93s4 F (.fn []) (.yield M) (.ptr P 0) (.int .i64 i) (.int .i64 0) ev (.int .i64 ks.length) (.int .i64 i) (R ++ [.cells [.int .i64 A, .int .i64 C]]) low r := fun h => by
   have := no h
   unfold Jc93s4
   simp [hw]
   simpa using this
  have yes : S ≠ 0 → Jc93s4 F (.fn []) (.yield M) (.ptr P 0) (.int .i64 i) (.int .i64 S) ev (.int .i64 ks.length) (.int .i64 i) (R ++ [.cells [.int .i64 A, .int .i64 C]]) low r := fun h => by
   obtain ⟨m, x, e, hx1, hx2⟩ := hstep h
   unfold Jc93s4
   simp [h]
   rw [callK_y hL1 rfl]
   refine ⟨m, x, e, ?_⟩
   rw [hx1] at hx2
   simp only [hx1]
   simp [hw]
   simpa using hx2
  rw [sides_head (S := S) hi he' hlw e1 e2 hP' hsgn]
  by_cases c : S = 0
  ·have := nope c
   rw [← c] at this
   exact this
  ·exact yes c
end
end Go.Abs

namespace Go.Abs
section
variable {rows : List Row} {N : Nat} {ks ps : List Nat}
set_option maxHeartbeats 8000000 in
theorem sides_rf {res : List RV} {f : Opd} {k : List Itm} {sl : List AV} {asg body : ICode} {d1 d2 p ga pa o low : Nat} {n0 ev pv : AV} {Rb : List Row} {upd : Nat → Int → List Int → List Int} {c0 : List Int} {r : AV × List Row × Nat → Prop} (hks : ks.length ≤ 10) (hp : p < ps.length)
  (hf : getO sl f = .func 93 [.ptr ga 0, .ptr pa 0]) (hga : row? Rb ga = some [n0, ev, pv]) (hpa : row? Rb pa = some [.int .i64 p]) (he : El Rb 2 ev (nums .i64 (eC ks)) ks.length) (hpv : El Rb 3 pv (nums .i64 (pC ps)) ps.length)
  (hlo : low ≤ o) (ho : o < Rb.length) (heo : sid ev ≠ o) (hc0 : Rb[o]? = some (.cells (nums .i64 c0)))
  (hbody : ∀ (R : List Row) (i : Nat), Sm Rb.length o Rb R → R[Rb.length]? = some (.loop .ready none sl [d1, d2] asg body) → R[o]? = some (.cells (nums .i64 (sdS (gN ps p) ks upd c0 i))) → i < ks.length → sgn (gN ps p) (gN ks i) ≠ 0 → Ex F (.round Rb.length) [.code asg, .rfBegin, .code body] ⟨putL sl [d1, d2] [.int .i64 i, .int .i64 (sgn (gN ps p) (gN ks i))], R, R.length⟩ fun x =>
   x.1 = .bool true ∧ x.2.1.length = R.length ∧ (∀ id, id ≠ o → x.2.1[id]? = R[id]?) ∧ x.2.1[o]? = some (.cells (nums .i64 (upd i (sgn (gN ps p) (gN ks i)) (sdS (gN ps p) ks upd c0 i)))) ∧ x.2.2 = min Rb.length o)
  (hend : ∀ R, Sm Rb.length o Rb R → R[o]? = some (.cells (nums .i64 (sdS (gN ps p) ks upd c0 ks.length))) → Ex F (.fn res) k ⟨sl, R, low⟩ r) :
  Ex F (.fn res) (.code (.rf f [d1, d2] asg body) :: k) ⟨sl, Rb, low⟩ r := by
 rw [Ex_rf]
 refine ⟨rfl, (93, [.yield Rb.length, .ptr ga 0, .ptr pa 0]), by rw [hf]; rfl, ?_⟩
 obtain ⟨R0c, hR0⟩ : ∃ R0c, R0c = Rb ++ [Row.loop .ready none sl [d1, d2] asg body] := ⟨_, rfl⟩
 rw [← hR0]
 have hlen : R0c.length = Rb.length + 1 := by rw [hR0]; simp
 have hS0 : Sm Rb.length o Rb R0c := by rw [hR0]; exact Sm_app (Sm_refl (Nat.le_refl _)) _
 have hL0 : R0c[Rb.length]? = some (.loop .ready none sl [d1, d2] asg body) := by rw [hR0]; simp
 have hga' : row? R0c ga = some [n0, ev, pv] := by rw [hR0]; exact row?_old hga _
 have hpa' : row? R0c pa = some [.int .i64 p] := by rw [hR0]; exact row?_old hpa _
 have he' : El R0c 2 ev (nums .i64 (eC ks)) ks.length := by rw [hR0]; exact El_app he _
 have hpv' : El R0c 3 pv (nums .i64 (pC ps)) ps.length := by rw [hR0]; exact El_app hpv _
 obtain ⟨P0, hP0⟩ : ∃ P0 : Row, P0 = .cells [.int .i64 (gN ps p / 36 : Nat), .int .i64 (gN ps p / 6 % 6 : Nat), .int .i64 (gN ps p % 6 : Nat)] := ⟨_, rfl⟩
 let after : AV × List Row × Option Nat → Prop := fun q => ∃ z, afterLoop Rb.length low q.2.1 q.2.2 = some z ∧ Ex F (.fn res) (z.1 ++ k) ⟨sl, z.2.1, z.2.2⟩ r
 -- what is left, seen from outside
 have hafter : ∀ (R : List Row) (d : Option Nat), lowO low d = low → R[Rb.length]? = some (.loop .ready none sl [d1, d2] asg body) → Sm Rb.length o Rb R → R[o]? = some (.cells (nums .i64 (sdS (gN ps p) ks upd c0 ks.length))) → after (.tup [], R, d) := by
  intro R d hd hM hS hC
  have hal : afterLoop Rb.length low R d = some ([], gc Rb.length low (.tup []) (R.set Rb.length .dead), low) := by
   unfold afterLoop
   simp only [hM]
   rw [if_neg (by decide), hd]
   rfl
  refine ⟨_, hal, ?_⟩
  have hS1 := Sm_set hS (i := Rb.length) (x := .dead) (.inr (Nat.le_refl _))
  have hC1 : (R.set Rb.length .dead)[o]? = some (.cells (nums .i64 (sdS (gN ps p) ks upd c0 ks.length))) := by rw [List.getElem?_set_ne (by omega)]; exact hC
  show Ex F (.fn res) ([] ++ k) ⟨sl, gc Rb.length low (.tup []) (R.set Rb.length .dead), low⟩ r
  rcases gc_cases Rb.length low (.tup []) (R.set Rb.length .dead) with h | ⟨h, _⟩
  ·rw [h]; exact hend _ hS1 hC1
  ·rw [h]
   refine hend _ (Sm_take hS1 (Nat.le_refl _)) ?_
   rw [List.getElem?_take_of_lt ho]; exact hC1
 refine Ret_mk' F93 (R := after) (show Ex F (.fn []) [.code c93b] ⟨mk 52 [(0, .yield Rb.length), (1, .ptr ga 0), (2, .ptr pa 0)], R0c, R0c.length⟩ _ from ?_)
 have hl := sides_loop (M := Rb.length) (b := R0c.length + 1) (o := o) (sl := sl) (asg := asg) (body := body) (d1 := d1) (d2 := d2) (q := gN ps p) (P := R0c.length) (ev := ev) (R0 := R0c ++ [P0]) (upd := upd) (c0 := c0) (ks := ks) hks (by simp) (by omega) (by omega) (by omega) (El_app he' _) heo
  (by rw [List.getElem?_append_left (by omega)]; exact hL0) (by rw [hP0]; exact row_end) (by omega)
  (fun R i hS hC hi hs => hbody R i (Sm_trans hS0 (Sm_trans (Sm_app (Sm_refl (Nat.le_refl R0c.length)) [P0]) hS (Nat.le_succ _)) (by omega)) (by
   rw [hS.2 _ (by omega) (by omega), List.getElem?_append_left (by omega)]; exact hL0) hC hi hs)
  (r := fun x => after (fin R0c x.1 x.2.1 x.2.2)) (lw0 := R0c.length) (by omega) (fun R lw hS hC hlw => by
   have hSb : Sm Rb.length o Rb R := Sm_trans hS0 (Sm_trans (Sm_app (Sm_refl (Nat.le_refl R0c.length)) [P0]) hS (Nat.le_succ _)) (by omega)
   have hLR : R[Rb.length]? = some (.loop .ready none sl [d1, d2] asg body) := by
    rw [hS.2 _ (by omega) (by omega), List.getElem?_append_left (by omega)]; exact hL0
   by_cases c : lw = R0c.length
   ·have hfin : fin R0c (.tup []) R lw = (.tup [], R0c, none) := by
     unfold fin
     rw [if_pos c]
     rfl
    rw [hfin]
    have hcc : sdS (gN ps p) ks upd c0 ks.length = c0 := by
     rcases hlw with ⟨_, h⟩ | h
     ·exact h
     ·omega
    refine hafter _ none rfl hL0 hS0 ?_
    rw [hcc, hR0, List.getElem?_append_left ho]; exact hc0
   ·have hlo2 : lw = o := by
     rcases hlw with ⟨h, _⟩ | h
     ·exact absurd h c
     ·omega
    have hfin : fin R0c (.tup []) R lw = (.tup [], gc R0c.length lw (.tup []) R, some lw) := by
     unfold fin
     rw [if_neg c]
    rw [hfin]
    have hlowO : lowO low (some lw) = low := by
     show lower low lw = low
     exact lower_ge' (by omega)
    rcases gc_cases R0c.length lw (.tup []) R with h | ⟨h, _⟩
    ·rw [h]; exact hafter _ _ hlowO hLR hSb hC
    ·rw [h]
     refine hafter _ _ hlowO ?_ (Sm_take hSb (by omega)) ?_
     ·rw [List.getElem?_take_of_lt (by omega)]; exact hLR
     ·rw [List.getElem?_take_of_lt (by omega)]; exact hC) _ 0 (R0c ++ [P0]) R0c.length rfl (Nat.zero_le _) (Sm_refl (by simp)) (by
   rw [List.getElem?_append_left (by omega), hR0, List.getElem?_append_left ho]; exact hc0) (.inl ⟨rfl, rfl⟩)
 rw [hP0] at hl
 obtain ⟨e1, e2, e3⟩ := pC_a hp
 have ix := idxW hpv' hp
 have ld := ldW3 hpv' hp
 rw [e1, e2, e3] at ld
 have hga2 := row?_old hga' [.cells [.int .i64 (gN ps p / 36 : Nat), .int .i64 (gN ps p / 6 % 6 : Nat), .int .i64 (gN ps p % 6 : Nat)]]
 have ln := evP_lenE (El_app he' [.cells [.int .i64 (gN ps p / 36 : Nat), .int .i64 (gN ps p / 6 % 6 : Nat), .int .i64 (gN ps p % 6 : Nat)]])
 have hlw : lower R0c.length R0c.length = R0c.length := lower_ge' (Nat.le_refl _)
 generalize gN ps p / 36 = qa at *
 generalize gN ps p / 6 % 6 = qb at *
 generalize gN ps p % 6 = qc at *
 clear hafter hend hbody
 simp [hga', hpa', ix, ld, AV.cells, splice, hlw, hga2, ln]
 simpa using hl
end
end Go.Abs

namespace Go.Abs
def updS (t : Int) (i : Nat) (s : Int) (c : List Int) : List Int := c.set i (IntKind.i64.wrap (gI c i + IntKind.i64.wrap (s * t)))
def swS (ks ps : List Nat) (l : List Int) : Nat → List Int
 | 0 => List.replicate ks.length 0
 | p + 1 => sdS (gN ps p) ks (updS (gI l p)) (swS ks ps l p) ks.length
theorem sdS_len {q : Nat} {ks : List Nat} {upd : Nat → Int → List Int → List Int} {c : List Int} {m : Nat} (hc : c.length = m) (hu : ∀ i s c, c.length = m → (upd i s c).length = m) : ∀ i, (sdS q ks upd c i).length = m
 | 0 => hc
 |
  i + 1 => by
  rw [sdS]
  split
  ·exact sdS_len hc hu i
  ·exact hu _ _ _ (sdS_len hc hu i)
theorem swS_len {ks ps : List Nat} {l : List Int} : ∀ p, (swS ks ps l p).length = ks.length
 | 0 => by simp [swS]
 | p + 1 => sdS_len (swS_len p) (fun i s c h => by simp [updS, h]) _
section
variable {rows : List Row} {N : Nat} {ks ps : List Nat} {v : AV} {l : List Int}
set_option maxHeartbeats 16000000 in
theorem Swirl_loop {ev pv n0 : AV} (hok : GOK N ks ps) (he : El rows 2 ev (nums .i64 (eC ks)) ks.length) (hp : El rows 3 pv (nums .i64 (pC ps)) ps.length) (h : IsL rows v l) (hl : l.length = ps.length) {r : AV × List Row × Nat → Prop} {R1 : List Row} (o0 : n0.one = true)
  (hR1 : ∃ y, R1 = rows ++ [.cells [n0, ev, pv], y, .cells [.slice (rows.length + 1) 0 ks.length (.at_ ks.length)]])
  (hk : ∀ R, Sm (rows.length + 3) (rows.length + 1) R1 R → R[rows.length + 1]? = some (.cells (nums .i64 (swS ks ps l ps.length))) → r (.tup [.slice (rows.length + 1) 0 ks.length (.at_ ks.length), .int .i64 0], R, rows.length)) :
  ∀ (d p : Nat) (R : List Row), ps.length - p = d → p ≤ ps.length → Sm (rows.length + 3) (rows.length + 1) R1 R → R[rows.length + 1]? = some (.cells (nums .i64 (swS ks ps l p))) →
  Lc38l2 F (.fn [.t 4, .t 5]) (.ptr rows.length 0) .nilslice (.int .i64 0) (.ptr (rows.length + 2) 0) v (.int .i64 ps.length) (.int .i64 p) R rows.length r := by
 have hek := hok.ek
 have hpk := hok.pk
 obtain ⟨y, hR1⟩ := hR1
 have hS0 : Sm rows.length (rows.length + 1) rows R1 := by rw [hR1]; exact Sm_app (Sm_refl (Nat.le_refl _)) _
 have b0 : row? R1 rows.length = some [n0, ev, pv] := by rw [hR1]; simp [row?]
 have b2 : row? R1 (rows.length + 2) = some [.slice (rows.length + 1) 0 ks.length (.at_ ks.length)] := by rw [hR1]; simp [row?]
 have hev : ev = .nilslice ∨ sid ev < rows.length := El_lt he
 have heo : sid ev ≠ rows.length + 1 := by
  rcases hev with e | e
  ·subst e
   show 0 ≠ _
   omega
  ·omega
 intro d
 induction d with
 |
  zero =>
  intro p R hd h1 hS hC
  have hi : p = ps.length := by omega
  subst hi
  have hb2 := Sm_row hS b2 (by omega) (by omega)
  have := hk R hS hC
  unfold Lc38l2
  simp [hb2]
  exact this
 |
  succ d ih =>
  intro p R hd h1 hS hC
  have hi : p < ps.length := by omega
  have hw : IntKind.i64.wrap ((p : Int) + 1) = ((p + 1 : Nat) : Int) := by rw [wrap64 (by omega) (by omega)]; omega
  have hRl := hS.1
  have hSr : Sm rows.length (rows.length + 1) rows R := Sm_trans hS0 hS (by omega)
  have he' : El R 2 ev (nums .i64 (eC ks)) ks.length := Sm_El hSr he (by rcases hev with e | e; exact .inl e; exact .inr ⟨e, by omega⟩)
  have hp' : El R 3 pv (nums .i64 (pC ps)) ps.length := Sm_El hSr hp (by rcases El_lt hp with e | e; exact .inl e; exact .inr ⟨e, by omega⟩)
  have h' : IsL R v l := Sm_El hSr h (by rcases El_lt h with e | e; exact .inl e; exact .inr ⟨e, by omega⟩)
  have hb0 := Sm_row hS b0 (by omega) (by omega)
  have hb2 := Sm_row hS b2 (by omega) (by omega)
  have one1 := El_one he
  have one2 := El_one hp
  obtain ⟨T, hT⟩ : ∃ T, T = gI l p := ⟨_, rfl⟩
  -- the rows at the range
  obtain ⟨Rb, hRb⟩ : ∃ Rb, Rb = R ++ [.cells [.int .i64 T], .cells [n0, ev, pv], .cells [.int .i64 p]] := ⟨_, rfl⟩
  have hRbl : Rb.length = R.length + 3 := by rw [hRb]; simp
  have hSb : Sm (rows.length + 3) (rows.length + 1) R1 Rb := by rw [hRb]; exact Sm_app hS _
  have hlT : row? Rb R.length = some [.int .i64 T] := by rw [hRb]; simp [row?]
  have hrf : ∀ (sl : List (Nat × AV)), lk sl 33 = .func 93 [.ptr (R.length + 1) 0, .ptr (R.length + 2) 0] → lk sl 7 = .ptr (rows.length + 2) 0 → lk sl 9 = .ptr R.length 0 →
    lk sl 2 = .ptr rows.length 0 → lk sl 4 = .nilslice → lk sl 5 = .int .i64 0 → lk sl 24 = v → lk sl 25 = .int .i64 ps.length → lk sl 26 = .int .i64 p →
    Ex F (.fn [.t 4, .t 5]) (.code (.rf (.t 33) [34, 35] c38f4a c38f4b) :: .inBlock 2 :: .inBlock 1 :: .code c38k3 :: .inLoop c38l2 :: .inBlock 0 :: .code c38s1 :: []) ⟨mk 47 sl, Rb, rows.length⟩ r := by
   intro sl s33 s7 s9 s2 s4 s5 s24 s25 s26
   refine sides_rf (ks := ks) (ps := ps) (p := p) (ga := R.length + 1) (pa := R.length + 2) (o := rows.length + 1) (n0 := n0) (ev := ev) (pv := pv) (upd := updS T) (c0 := swS ks ps l p) hek hi (by rw [mk_getO _ _ _ (by omega)]; exact s33)
    (by rw [hRb]; simp [row?]) (by rw [hRb]; simp [row?]) (by rw [hRb]; exact El_app he' _) (by rw [hRb]; exact El_app hp' _) (by omega) (by omega) heo (by rw [hRb, List.getElem?_append_left (by omega)]; exact hC) ?_ ?_
   ·intro Q i hSQ hM hCQ hi2 hsg
    have hQl := hSQ.1
    have hML := (List.getElem?_eq_some_iff.1 hM).1
    have hlen := sdS_len (q := gN ps p) (ks := ks) (upd := updS T) (swS_len (ks := ks) (ps := ps) (l := l) p) (fun i s c h => by simp [updS, h]) i
    generalize hc : sdS (gN ps p) ks (updS T) (swS ks ps l p) i = c at *
    generalize sgn (gN ps p) (gN ks i) = s at *
    rw [mk_putL2, uc38f4a]
    simp only [Ex_seq, uc38k7, uc38k6]
    rw [Ex_rfBegin]
    refine ⟨none, mk 47 sl, [34, 35], c38f4a, c38f4b, hM, ?_⟩
    have hlwM : lower Q.length Rb.length = Rb.length := by unfold lower; split <;> omega
    have hlwo : lower Rb.length (rows.length + 1) = rows.length + 1 := by unfold lower; split <;> omega
    have hlwe : lower (rows.length + 1) Rb.length = rows.length + 1 := by unfold lower; split <;> omega
    rw [hlwM]
    obtain ⟨Q1, hQ1⟩ : ∃ Q1, Q1 = Q.set Rb.length (.loop .busy none (mk 47 sl) [34, 35] c38f4a c38f4b) := ⟨_, rfl⟩
    rw [← hQ1]
    have hS1 : Sm Rb.length (rows.length + 1) Rb Q1 := by rw [hQ1]; exact Sm_set hSQ (.inr (Nat.le_refl _))
    have hS2 := Sm_trans hSb hS1 (by omega)
    have a2 := Sm_row hS2 b2 (by omega) (by omega)
    have a9 := Sm_row hS1 hlT (by omega) (by omega)
    have hCo : Q1[rows.length + 1]? = some (.cells (nums .i64 c)) := by rw [hQ1, List.getElem?_set_ne (by omega)]; exact hCQ
    have hrow : row? Q1 (rows.length + 1) = some (nums .i64 c) := by unfold row?; rw [hCo]
    have hcel : cells? Q1 (rows.length + 1) = some (nums .i64 c) := by unfold cells?; rw [hCo]
    have hil : i < c.length := by omega
    have hu : c.set i (IntKind.i64.wrap (c[i] + IntKind.i64.wrap (s * T))) = updS T i s c := by simp [updS, gI_eq hil]
    have hnl : (nums .i64 c).length = ks.length := by simp [nums, hlen]
    have hM1 : (Q1.set (rows.length + 1) (.cells (nums .i64 (updS T i s c))))[Rb.length]? = some (.loop .busy none (mk 47 sl) [34, 35] c38f4a c38f4b) := by
     rw [List.getElem?_set_ne (by omega), hQ1, List.getElem?_set_self hML]
    have hput := round_put (R := Q) (M := Rb.length) (o := rows.length + 1) (x := .cells (nums .i64 (updS T i s c))) (y := .loop .busy none (mk 47 sl) [34, 35] c38f4a c38f4b) hM (by omega)
    rw [← hQ1] at hput
    simp [s7, s9, a2, a9, hrow, hil, hi2, hcel, hnl, hu, hlwo]
    rw [round_end hM1, hlwe]
    refine ⟨rfl, hput.1, hput.2.1, hput.2.2, ?_⟩
    show rows.length + 1 = min Rb.length (rows.length + 1)
    omega
   ·intro Q hSQ hCQ
    have hS2 := Sm_trans hSb hSQ (by omega)
    have := ih (p + 1) Q (by omega) (by omega) hS2 (by rw [swS, ← hT]; exact hCQ)
    simp [s2, s4, s5, s7, s24, s25, s26, hw]
    simpa using this
  have ix := idxW h' (show p < l.length by omega)
  have ld := ldW1 h' (show p < l.length by omega)
  rw [Nat.mul_one] at ix
  rw [← hT] at ld
  have hb0' := row?_old hb0 [.cells [.int .i64 T]]
  have hsd := sides_ret (rows := R ++ [.cells [.int .i64 T]]) (n0 := n0) (ev := ev) (pv := pv) (i := p) o0 one1 one2
  have hlw : lower rows.length R.length = rows.length := lower_ge' (by omega)
  have e1 : R ++ [Row.cells [.int .i64 T]] ++ [.cells [n0, ev, pv], .cells [.int .i64 p]] = Rb := by rw [hRb]; simp
  rw [e1] at hsd
  unfold Lc38l2
  simp [hi, ix, ld, AV.cells, hlw, hb0', seg, hsd]
  refine hrf _ ?_ ?_ ?_ ?_ ?_ ?_ ?_ ?_ ?_ <;> simp
end
end Go.Abs

namespace Go.Abs
theorem Sm_split {B R : List Row} {o : Nat} (h : Sm B.length o B R) (ho : B.length ≤ o) : ∃ L, R = B ++ L := by
 refine ⟨R.drop B.length, ?_⟩
 apply List.ext_getElem?
 intro i
 by_cases c : i < B.length
 ·rw [List.getElem?_append_left c]
  exact h.2 i c (by omega)
 ·rw [List.getElem?_append_right (by omega), List.getElem?_drop]
  congr 1
  omega
section
variable {rows : List Row} {N : Nat} {ks ps : List Nat} {v g : AV} {l : List Int}
set_option maxHeartbeats 4000000 in
theorem Swirl_ret (hg : GRd rows g N ks ps) (h : IsL rows v l) (hl : l.length = ps.length) (hb : ∀ x ∈ l, -100 ≤ x ∧ x ≤ 100) : LRet 38 [g, v] rows (swS ks ps l ps.length) := by
 obtain ⟨ev, pv, rfl, he, hp, _⟩ := hg.eq
 have hok := hg.ok
 have o1 := El_one he
 have o2 := El_one hp
 have hek := hok.ek
 have hpk := hok.pk
 have ho := open_ok (hg.app [.cells [.int .i64 N, ev, pv]]) (IsL_app h [.cells [.int .i64 N, ev, pv]]) hb (f := 77) (n := ps.length) hl (by omega) (g' := .agg [.int .i64 N, ev, pv]) (fun L => plates_ret (El_app (El_app hp _) L) rfl o1)
 rw [show ((77 : Nat) : Int) = 77 from rfl] at ho
 let Q : AV × List Row × Nat → Prop := fun r => ∃ v X, fin rows r.1 r.2.1 r.2.2 = (.tup [v, .int .i64 0], rows ++ X, none) ∧ X.all (Row.under 0) = true ∧ IsL (rows ++ X) v (swS ks ps l ps.length) ∧ Cp 1 v
 have main : Ex F (.fn [.t 4, .t 5]) [.code c38b] ⟨mk 47 [(0, .agg [.int .i64 N, ev, pv]), (1, v)], rows, rows.length⟩ Q := by
  have hloop := Swirl_loop (rows := rows) (n0 := .int .i64 N) (r := Q) (R1 := rows ++ [.cells [.int .i64 N, ev, pv], .cells (nums .i64 (List.replicate ks.length 0)), .cells [.slice (rows.length + 1) 0 ks.length (.at_ ks.length)]]) hok he hp h hl rfl ⟨_, rfl⟩ (fun R hS hC => by
   have hS1 : Sm rows.length (rows.length + 1) rows R := Sm_trans (Sm_app (Sm_refl (Nat.le_refl _)) _) hS (by omega)
   obtain ⟨L, rfl⟩ := Sm_split hS1 (by omega)
   have hL : L[1]? = some (.cells (nums .i64 (swS ks ps l ps.length))) := by
    rw [List.getElem?_append_right (by omega), Nat.add_sub_cancel_left] at hC; exact hC
   have hA : Acc rows L 1 (.at_ ks.length) (.slice (rows.length + 1) 0 ks.length (.at_ ks.length)) (nums .i64 (swS ks ps l ps.length)) ks.length := ⟨by simp [nums, swS_len], .inr ⟨1, rfl, hL⟩⟩
   obtain ⟨v', X, e, h1, h2, h3, h4⟩ := Acc_fin (e := 0) (kd := .i64) hA (.inr ⟨_, rfl, Nat.le_refl _⟩)
   exact ⟨v', X, e, h1, h2, h4⟩) _ 0 (rows ++ [.cells [.int .i64 N, ev, pv], .cells (nums .i64 (List.replicate ks.length 0)), .cells [.slice (rows.length + 1) 0 ks.length (.at_ ks.length)]]) rfl (Nat.zero_le _) (Sm_refl (by simp)) (by simp [swS])
  have ln := evP_lenE (El_app he [.cells [.int .i64 N, ev, pv]])
  have hlim : (ks.length : Int) ≤ lim := by simp [lim]; omega
  have ll := fun L => lenL0 (IsL_app h L)
  rw [hl] at ll
  have hlw : lower rows.length (rows.length + 2) = rows.length := lower_ge' (by omega)
  simp [AV.cells, o1, o2, seg, ho, boundOf, hlim, rep_nums, ln, ll, hlw]
  simpa using hloop
 obtain ⟨n1, q, e, v', X, h1, h2⟩ := main
 exact ⟨v', X, i38 F38 ⟨n1, q, e, h1⟩, h2⟩
end
end Go.Abs

set_option maxRecDepth 20000
set_option maxHeartbeats 4000000
namespace Go.Abs
variable {F : Nat → Option IFn} {cx : Ctx} {k : List Itm} {s : St} {l : List (Nat × AV)} {rows : List Row} {low : Nat} {r : AV × List Row × Nat → Prop}
@[simp] theorem uc16s1 : Ex F cx (.code c16s1 :: k) s r ↔ Ex F cx (.code (.seq c16k0 .ret) :: k) s r := Iff.rfl
@[simp] theorem uc16s3 : Ex F cx (.code c16s3 :: k) s r ↔ Ex F cx (.code (.seq c16k2 c16s1) :: k) s r := Iff.rfl
@[simp] theorem uc16s7 : Ex F cx (.code c16s7 :: k) s r ↔ Ex F cx (.code (.cond (.t 68) c16k6 .skip) :: k) s r := Iff.rfl
@[simp] theorem uc16s9 : Ex F cx (.code c16s9 :: k) s r ↔ Ex F cx (.code (.seq c16k8 c16s7) :: k) s r := Iff.rfl
@[simp] theorem uc16s11 : Ex F cx (.code c16s11 :: k) s r ↔ Ex F cx (.code (.seq (.block 7 (.seq c16k10 c16s9)) c16k5) :: k) s r := Iff.rfl
@[simp] theorem uc16s12 : Ex F cx (.code c16s12 :: k) s r ↔ Ex F cx (.code (.seq (.cond (.t 64) .skip (.exit 6)) c16s11) :: k) s r := Iff.rfl
@[simp] theorem uc16s14 : Ex F cx (.code c16s14 :: k) s r ↔ Ex F cx (.code (.block 6 (.loop c16l4)) :: k) s r := Iff.rfl
@[simp] theorem uc16s16 : Ex F cx (.code c16s16 :: k) s r ↔ Ex F cx (.code (.seq (.seq c16k15 c16s14) c16s3) :: k) s r := Iff.rfl
@[simp] theorem uc16s18 : Ex F cx (.code c16s18 :: k) s r ↔ Ex F cx (.code (.seq c16k17 c16s16) :: k) s r := Iff.rfl
@[simp] theorem uc16f22a : Ex F cx (.code c16f22a :: k) s r ↔ Ex F cx (.code (.seq c16k25 c16k24) :: k) s r := Iff.rfl
@[simp] theorem uc16f22b : Ex F cx (.code c16f22b :: k) s r ↔ Ex F cx (.code (.block 5 c16k23) :: k) s r := Iff.rfl
@[simp] theorem uc16s26 : Ex F cx (.code c16s26 :: k) s r ↔ Ex F cx (.code (.block 4 (.rf (.t 43) [44, 45] c16f22a c16f22b)) :: k) s r := Iff.rfl
@[simp] theorem uc16s28 : Ex F cx (.code c16s28 :: k) s r ↔ Ex F cx (.code (.seq (.seq c16k27 c16s26) c16k21) :: k) s r := Iff.rfl
@[simp] theorem uc16s33 : Ex F cx (.code c16s33 :: k) s r ↔ Ex F cx (.code (.seq (.block 3 (.seq c16k32 c16k31)) c16k30) :: k) s r := Iff.rfl
@[simp] theorem uc16s34 : Ex F cx (.code c16s34 :: k) s r ↔ Ex F cx (.code (.seq (.cond (.t 34) .skip (.exit 2)) c16s33) :: k) s r := Iff.rfl
@[simp] theorem uc16s36 : Ex F cx (.code c16s36 :: k) s r ↔ Ex F cx (.code (.block 2 (.loop c16l29)) :: k) s r := Iff.rfl
@[simp] theorem uc16s38 : Ex F cx (.code c16s38 :: k) s r ↔ Ex F cx (.code (.seq (.seq c16k37 c16s36) c16s28) :: k) s r := Iff.rfl
@[simp] theorem uc16s40 : Ex F cx (.code c16s40 :: k) s r ↔ Ex F cx (.code (.seq c16k39 c16s38) :: k) s r := Iff.rfl
@[simp] theorem uc16s42 : Ex F cx (.code c16s42 :: k) s r ↔ Ex F cx (.code (.seq (.block 1 (.seq c16k41 c16s40)) c16k20) :: k) s r := Iff.rfl
@[simp] theorem uc16s43 : Ex F cx (.code c16s43 :: k) s r ↔ Ex F cx (.code (.seq (.cond (.t 25) .skip (.exit 0)) c16s42) :: k) s r := Iff.rfl
@[simp] theorem uc16s45 : Ex F cx (.code c16s45 :: k) s r ↔ Ex F cx (.code (.block 0 (.loop c16l19)) :: k) s r := Iff.rfl
@[simp] theorem uc16k46 : Ex F cx (.code c16k46 :: k) ⟨mk 87 l, rows, low⟩ r ↔ bnd (evP rows (.fieldA 2 (.c (lk l 1)))) fun v0 => bnd (evP rows (.load1 (.c v0))) fun v1 => bnd (evP rows (.len 0 (.c v1))) fun v2 => Ex F cx k ⟨mk 87 [(24, (.int .i64 0)), (23, v2), (22, v1), (21, v0), (1, lk l 1), (2, lk l 2), (3, lk l 3), (5, lk l 5)], rows, low⟩ r := rg [1, 2, 3, 5] c16r46 rfl (by kernel_rfl)
@[simp] theorem uc16s47 : Ex F cx (.code c16s47 :: k) s r ↔ Ex F cx (.code (.seq (.seq c16k46 c16s45) c16s18) :: k) s r := Iff.rfl
@[simp] theorem uc16k48 : Ex F cx (.code c16k48 :: k) ⟨mk 87 l, rows, low⟩ r ↔ Ex F cx k ⟨mk 87 [(5, .nilslice), (1, lk l 1), (2, lk l 2), (3, lk l 3)], rows, low⟩ r := rg [1, 2, 3] c16r48 rfl (by kernel_rfl)
@[simp] theorem uc16s49 : Ex F cx (.code c16s49 :: k) s r ↔ Ex F cx (.code (.seq c16k48 c16s47) :: k) s r := Iff.rfl
@[simp] theorem uc16k50 : Ex F cx (.code c16k50 :: k) ⟨mk 87 l, rows, low⟩ r ↔ Ex F cx k ⟨mk 87 [(3, lk l 4), (2, (.int .i64 0)), (20, lk l 4), (4, lk l 4)], rows, low⟩ r := rg [4] c16r50 rfl (by kernel_rfl)
@[simp] theorem uc16s51 : Ex F cx (.code c16s51 :: k) s r ↔ Ex F cx (.code (.cond (.t 19) (.seq c16k50 .ret) .skip) :: k) s r := Iff.rfl
@[simp] theorem uc16k52 : Ex F cx (.code c16k52 :: k) ⟨mk 87 l, rows, low⟩ r ↔ bnd (evP rows (.bin .neq (.c (lk l 4)) (.c (.int .i64 0)))) fun v0 => Ex F cx k ⟨mk 87 [(19, v0), (18, lk l 4), (1, lk l 1), (2, lk l 2), (3, lk l 3), (4, lk l 4)], rows, low⟩ r := rg [1, 2, 3, 4] c16r52 rfl (by kernel_rfl)
@[simp] theorem uc16s53 : Ex F cx (.code c16s53 :: k) s r ↔ Ex F cx (.code (.seq c16k52 c16s51) :: k) s r := Iff.rfl
@[simp] theorem uc16k54 : Ex F cx (.code c16k54 :: k) ⟨mk 87 l, rows, low⟩ r ↔ bnd (evP rows (.loadN 3 (.c (lk l 1)))) fun v0 => bnd (Ret F 59 [v0] rows) fun q1 => Ex F cx k ⟨mk 87 [(4, q1.1), (17, q1.1), (16, v0), (1, lk l 1), (2, lk l 2), (3, lk l 3)], q1.2.1, (lowO low q1.2.2)⟩ r := rg [1, 2, 3] c16r54 rfl (by kernel_rfl)
@[simp] theorem uc16s55 : Ex F cx (.code c16s55 :: k) s r ↔ Ex F cx (.code (.seq (.seq c16k54 c16s53) c16s49) :: k) s r := Iff.rfl
@[simp] theorem uc16k56 : Ex F cx (.code c16k56 :: k) ⟨mk 87 l, rows, low⟩ r ↔ bnd (evE rows low (.box (.c (lk l 0)))) fun q0 => Ex F cx k ⟨mk 87 [(3, (.int .i64 0)), (2, (.int .i64 0)), (1, q0.1), (0, lk l 0)], q0.2.1, q0.2.2⟩ r := rg [0] c16r56 rfl (by kernel_rfl)
def Jc16s11 (F : Nat → Option IFn) (cx : Ctx) (x1 x11 x61 x62 x63 : AV) (rows : List Row) (low : Nat) (r : AV × List Row × Nat → Prop) : Prop := Ex F cx (.code c16s11 :: .inLoop c16l4 :: .inBlock 6 :: .code c16s3 :: []) ⟨mk 87 [(1, x1), (11, x11), (61, x61), (62, x62), (63, x63)], rows, low⟩ r
def Lc16l4 (F : Nat → Option IFn) (cx : Ctx) (x1 x11 x61 x62 x63 : AV) (rows : List Row) (low : Nat) (r : AV × List Row × Nat → Prop) : Prop := Ex F cx (.code c16l4 :: .inLoop c16l4 :: .inBlock 6 :: .code c16s3 :: []) ⟨mk 87 [(1, x1), (11, x11), (61, x61), (62, x62), (63, x63)], rows, low⟩ r
@[simp] theorem uc16l4 : Ex F cx (.code c16l4 :: k) s r ↔ Ex F cx (.code (.seq c16k13 c16s12) :: k) s r := Iff.rfl
def Jc16s33 (F : Nat → Option IFn) (cx : Ctx) (x1 x2 x3 x5 x6 x7 x23 x24 x32 x33 : AV) (rows : List Row) (low : Nat) (r : AV × List Row × Nat → Prop) : Prop := Ex F cx (.code c16s33 :: .inLoop c16l29 :: .inBlock 2 :: .code c16s28 :: .inBlock 1 :: .code c16k20 :: .inLoop c16l19 :: .inBlock 0 :: .code c16s18 :: []) ⟨mk 87 [(1, x1), (2, x2), (3, x3), (5, x5), (6, x6), (7, x7), (23, x23), (24, x24), (32, x32), (33, x33)], rows, low⟩ r
def Lc16l29 (F : Nat → Option IFn) (cx : Ctx) (x1 x2 x3 x5 x6 x7 x23 x24 x32 x33 : AV) (rows : List Row) (low : Nat) (r : AV × List Row × Nat → Prop) : Prop := Ex F cx (.code c16l29 :: .inLoop c16l29 :: .inBlock 2 :: .code c16s28 :: .inBlock 1 :: .code c16k20 :: .inLoop c16l19 :: .inBlock 0 :: .code c16s18 :: []) ⟨mk 87 [(1, x1), (2, x2), (3, x3), (5, x5), (6, x6), (7, x7), (23, x23), (24, x24), (32, x32), (33, x33)], rows, low⟩ r
@[simp] theorem uc16l29 : Ex F cx (.code c16l29 :: k) s r ↔ Ex F cx (.code (.seq c16k35 c16s34) :: k) s r := Iff.rfl
def Jc16s42 (F : Nat → Option IFn) (cx : Ctx) (x1 x2 x3 x5 x23 x24 : AV) (rows : List Row) (low : Nat) (r : AV × List Row × Nat → Prop) : Prop := Ex F cx (.code c16s42 :: .inLoop c16l19 :: .inBlock 0 :: .code c16s18 :: []) ⟨mk 87 [(1, x1), (2, x2), (3, x3), (5, x5), (23, x23), (24, x24)], rows, low⟩ r
def Lc16l19 (F : Nat → Option IFn) (cx : Ctx) (x1 x2 x3 x5 x23 x24 : AV) (rows : List Row) (low : Nat) (r : AV × List Row × Nat → Prop) : Prop := Ex F cx (.code c16l19 :: .inLoop c16l19 :: .inBlock 0 :: .code c16s18 :: []) ⟨mk 87 [(1, x1), (2, x2), (3, x3), (5, x5), (23, x23), (24, x24)], rows, low⟩ r
@[simp] theorem ec16l19 : Ex F cx (.code (.loop c16l19) :: .inBlock 0 :: .code c16s18 :: []) ⟨mk 87 l, rows, low⟩ r ↔ Lc16l19 F cx (lk l 1) (lk l 2) (lk l 3) (lk l 5) (lk l 23) (lk l 24) rows low r := loopE (keep := [1, 2, 3, 5, 23, 24]) (by kernel_rfl)
@[simp] theorem uc16l19 : Ex F cx (.code c16l19 :: k) s r ↔ Ex F cx (.code (.seq c16k44 c16s43) :: k) s r := Iff.rfl
def Jc16s49 (F : Nat → Option IFn) (cx : Ctx) (x1 x2 x3 : AV) (rows : List Row) (low : Nat) (r : AV × List Row × Nat → Prop) : Prop := Ex F cx (.code c16s49 :: []) ⟨mk 87 [(1, x1), (2, x2), (3, x3)], rows, low⟩ r
@[simp] theorem uc16b : Ex F cx (.code c16b :: k) s r ↔ Ex F cx (.code (.seq c16k56 c16s55) :: k) s r := Iff.rfl
theorem i16 {x0 : AV} (hF : F 16 = some c16) {q : AV × List Row × Option Nat} (h : Ex F (.fn [.t 2, .t 3]) [.code c16b] ⟨mk 87 [(0, x0)], rows, rows.length⟩ fun r => fin rows r.1 r.2.1 r.2.2 = q) : Ret F 16 [x0] rows = some q := Ret_mk hF h
@[simp] theorem uc23s1 : Ex F cx (.code c23s1 :: k) s r ↔ Ex F cx (.code (.seq c23k0 .ret) :: k) s r := Iff.rfl
@[simp] theorem uc23s6 : Ex F cx (.code c23s6 :: k) s r ↔ Ex F cx (.code (.seq (.block 1 (.seq c23k5 c23k4)) c23k3) :: k) s r := Iff.rfl
@[simp] theorem uc23s7 : Ex F cx (.code c23s7 :: k) s r ↔ Ex F cx (.code (.seq (.cond (.t 23) .skip (.exit 0)) c23s6) :: k) s r := Iff.rfl
@[simp] theorem uc23s9 : Ex F cx (.code c23s9 :: k) s r ↔ Ex F cx (.code (.block 0 (.loop c23l2)) :: k) s r := Iff.rfl
@[simp] theorem uc23k10 : Ex F cx (.code c23k10 :: k) ⟨mk 32 l, rows, low⟩ r ↔ bnd (evP rows (.loadN 3 (.c (lk l 2)))) fun v0 => bnd (Ret F 68 [v0, lk l 1] rows) fun q1 => Ex F cx k ⟨mk 32 [(22, (.int .i64 0)), (21, q1.1), (20, lk l 1), (19, v0), (1, lk l 1), (2, lk l 2), (4, lk l 4), (7, lk l 7)], q1.2.1, (lowO low q1.2.2)⟩ r := rg [1, 2, 4, 7] c23r10 rfl (by kernel_rfl)
@[simp] theorem uc23s11 : Ex F cx (.code c23s11 :: k) s r ↔ Ex F cx (.code (.seq (.seq c23k10 c23s9) c23s1) :: k) s r := Iff.rfl
@[simp] theorem uc23k12 : Ex F cx (.code c23k12 :: k) ⟨mk 32 l, rows, low⟩ r ↔ bnd (evE rows low (.box (.c (.agg [.nilslice, .nilslice, .nilslice])))) fun q0 => Ex F cx k ⟨mk 32 [(7, q0.1), (1, lk l 1), (2, lk l 2), (4, lk l 4)], q0.2.1, q0.2.2⟩ r := rg [1, 2, 4] c23r12 rfl (by kernel_rfl)
@[simp] theorem uc23s13 : Ex F cx (.code c23s13 :: k) s r ↔ Ex F cx (.code (.seq c23k12 c23s11) :: k) s r := Iff.rfl
@[simp] theorem uc23k14 : Ex F cx (.code c23k14 :: k) ⟨mk 32 l, rows, low⟩ r ↔ bnd (evP rows (.mkagg [.nilslice, .nilslice, .nilslice] [])) fun v0 => bnd (evE rows low (.storeN 3 (.c (lk l 4)) (.c v0))) fun q1 => Ex F cx k ⟨mk 32 [(5, lk l 6), (18, lk l 6), (17, v0), (4, lk l 4), (6, lk l 6)], q1.2.1, q1.2.2⟩ r := rg [4, 6] c23r14 rfl (by kernel_rfl)
@[simp] theorem uc23s15 : Ex F cx (.code c23s15 :: k) s r ↔ Ex F cx (.code (.cond (.t 16) (.seq c23k14 .ret) .skip) :: k) s r := Iff.rfl
@[simp] theorem uc23k16 : Ex F cx (.code c23k16 :: k) ⟨mk 32 l, rows, low⟩ r ↔ bnd (evP rows (.bin .neq (.c (lk l 6)) (.c (.int .i64 0)))) fun v0 => Ex F cx k ⟨mk 32 [(16, v0), (15, lk l 6), (1, lk l 1), (2, lk l 2), (4, lk l 4), (6, lk l 6)], rows, low⟩ r := rg [1, 2, 4, 6] c23r16 rfl (by kernel_rfl)
@[simp] theorem uc23s17 : Ex F cx (.code c23s17 :: k) s r ↔ Ex F cx (.code (.seq c23k16 c23s15) :: k) s r := Iff.rfl
@[simp] theorem uc23k18 : Ex F cx (.code c23k18 :: k) ⟨mk 32 l, rows, low⟩ r ↔ bnd (evP rows (.loadN 3 (.c (lk l 2)))) fun v0 => bnd (evP rows (.loadN 3 (.c (lk l 2)))) fun v1 => bnd (evP rows (.bind 67 [(.c v1)])) fun v2 => bnd (Ret F 66 [v0, lk l 1, v2] rows) fun q3 => Ex F cx k ⟨mk 32 [(6, q3.1), (14, q3.1), (13, v2), (12, v1), (11, lk l 1), (10, v0), (1, lk l 1), (2, lk l 2), (4, lk l 4)], q3.2.1, (lowO low q3.2.2)⟩ r := rg [1, 2, 4] c23r18 rfl (by kernel_rfl)
@[simp] theorem uc23s19 : Ex F cx (.code c23s19 :: k) s r ↔ Ex F cx (.code (.seq (.seq c23k18 c23s17) c23s13) :: k) s r := Iff.rfl
@[simp] theorem uc23k20 : Ex F cx (.code c23k20 :: k) ⟨mk 32 l, rows, low⟩ r ↔ bnd (evE rows low (.box (.c (lk l 0)))) fun q0 => bnd (evE q0.2.1 q0.2.2 (.box (.c (.agg [.nilslice, .nilslice, .nilslice])))) fun q1 => Ex F cx k ⟨mk 32 [(5, (.int .i64 0)), (4, q1.1), (2, q0.1), (0, lk l 0), (1, lk l 1)], q1.2.1, q1.2.2⟩ r := rg [0, 1] c23r20 rfl (by kernel_rfl)
def Jc23s6 (F : Nat → Option IFn) (cx : Ctx) (x4 x7 x21 x22 : AV) (rows : List Row) (low : Nat) (r : AV × List Row × Nat → Prop) : Prop := Ex F cx (.code c23s6 :: .inLoop c23l2 :: .inBlock 0 :: .code c23s1 :: []) ⟨mk 32 [(4, x4), (7, x7), (21, x21), (22, x22)], rows, low⟩ r
def Lc23l2 (F : Nat → Option IFn) (cx : Ctx) (x4 x7 x21 x22 : AV) (rows : List Row) (low : Nat) (r : AV × List Row × Nat → Prop) : Prop := Ex F cx (.code c23l2 :: .inLoop c23l2 :: .inBlock 0 :: .code c23s1 :: []) ⟨mk 32 [(4, x4), (7, x7), (21, x21), (22, x22)], rows, low⟩ r
@[simp] theorem ec23l2 : Ex F cx (.code (.loop c23l2) :: .inBlock 0 :: .code c23s1 :: []) ⟨mk 32 l, rows, low⟩ r ↔ Lc23l2 F cx (lk l 4) (lk l 7) (lk l 21) (lk l 22) rows low r := loopE (keep := [4, 7, 21, 22]) (by kernel_rfl)
@[simp] theorem uc23l2 : Ex F cx (.code c23l2 :: k) s r ↔ Ex F cx (.code (.seq c23k8 c23s7) :: k) s r := Iff.rfl
def Jc23s13 (F : Nat → Option IFn) (cx : Ctx) (x1 x2 x4 : AV) (rows : List Row) (low : Nat) (r : AV × List Row × Nat → Prop) : Prop := Ex F cx (.code c23s13 :: []) ⟨mk 32 [(1, x1), (2, x2), (4, x4)], rows, low⟩ r
@[simp] theorem uc23b : Ex F cx (.code c23b :: k) s r ↔ Ex F cx (.code (.seq c23k20 c23s19) :: k) s r := Iff.rfl
theorem i23 {x0 x1 : AV} (hF : F 23 = some c23) {q : AV × List Row × Option Nat} (h : Ex F (.fn [.cellN 4 3, .t 5]) [.code c23b] ⟨mk 32 [(0, x0), (1, x1)], rows, rows.length⟩ fun r => fin rows r.1 r.2.1 r.2.2 = q) : Ret F 23 [x0, x1] rows = some q := Ret_mk hF h
@[simp] theorem uc24k0 : Ex F cx (.code c24k0 :: k) ⟨mk 19 l, rows, low⟩ r ↔ bnd (evP rows (.loadN 3 (.c (lk l 2)))) fun v0 => bnd (Ret F 70 [v0, lk l 1] rows) fun q1 => bnd (Ret F 69 [q1.1] q1.2.1) fun q2 => Ex F cx k ⟨mk 19 [(5, (.int .i64 0)), (4, q2.1), (18, q2.1), (17, q1.1), (16, lk l 1), (15, v0), (1, lk l 1), (2, lk l 2)], q2.2.1, (lowO (lowO low q1.2.2) q2.2.2)⟩ r := rg [1, 2] c24r0 rfl (by kernel_rfl)
@[simp] theorem uc24s1 : Ex F cx (.code c24s1 :: k) s r ↔ Ex F cx (.code (.seq c24k0 .ret) :: k) s r := Iff.rfl
@[simp] theorem uc24k2 : Ex F cx (.code c24k2 :: k) ⟨mk 19 l, rows, low⟩ r ↔ Ex F cx k ⟨mk 19 [(5, lk l 6), (4, .nilslice), (14, lk l 6), (6, lk l 6)], rows, low⟩ r := rg [6] c24r2 rfl (by kernel_rfl)
@[simp] theorem uc24s3 : Ex F cx (.code c24s3 :: k) s r ↔ Ex F cx (.code (.cond (.t 13) (.seq c24k2 .ret) .skip) :: k) s r := Iff.rfl
@[simp] theorem uc24k4 : Ex F cx (.code c24k4 :: k) ⟨mk 19 l, rows, low⟩ r ↔ bnd (evP rows (.bin .neq (.c (lk l 6)) (.c (.int .i64 0)))) fun v0 => Ex F cx k ⟨mk 19 [(13, v0), (12, lk l 6), (1, lk l 1), (2, lk l 2), (6, lk l 6)], rows, low⟩ r := rg [1, 2, 6] c24r4 rfl (by kernel_rfl)
@[simp] theorem uc24s5 : Ex F cx (.code c24s5 :: k) s r ↔ Ex F cx (.code (.seq c24k4 c24s3) :: k) s r := Iff.rfl
@[simp] theorem uc24k6 : Ex F cx (.code c24k6 :: k) ⟨mk 19 l, rows, low⟩ r ↔ bnd (evP rows (.loadN 3 (.c (lk l 2)))) fun v0 => bnd (evP rows (.loadN 3 (.c (lk l 2)))) fun v1 => bnd (evP rows (.bind 67 [(.c v1)])) fun v2 => bnd (Ret F 66 [v0, lk l 1, v2] rows) fun q3 => Ex F cx k ⟨mk 19 [(6, q3.1), (11, q3.1), (10, v2), (9, v1), (8, lk l 1), (7, v0), (1, lk l 1), (2, lk l 2)], q3.2.1, (lowO low q3.2.2)⟩ r := rg [1, 2] c24r6 rfl (by kernel_rfl)
@[simp] theorem uc24s7 : Ex F cx (.code c24s7 :: k) s r ↔ Ex F cx (.code (.seq (.seq c24k6 c24s5) c24s1) :: k) s r := Iff.rfl
@[simp] theorem uc24k8 : Ex F cx (.code c24k8 :: k) ⟨mk 19 l, rows, low⟩ r ↔ bnd (evE rows low (.box (.c (lk l 0)))) fun q0 => Ex F cx k ⟨mk 19 [(5, (.int .i64 0)), (4, .nilslice), (2, q0.1), (0, lk l 0), (1, lk l 1)], q0.2.1, q0.2.2⟩ r := rg [0, 1] c24r8 rfl (by kernel_rfl)
def Jc24s1 (F : Nat → Option IFn) (cx : Ctx) (x1 x2 : AV) (rows : List Row) (low : Nat) (r : AV × List Row × Nat → Prop) : Prop := Ex F cx (.code c24s1 :: []) ⟨mk 19 [(1, x1), (2, x2)], rows, low⟩ r
@[simp] theorem uc24b : Ex F cx (.code c24b :: k) s r ↔ Ex F cx (.code (.seq c24k8 c24s7) :: k) s r := Iff.rfl
theorem i24 {x0 x1 : AV} (hF : F 24 = some c24) {q : AV × List Row × Option Nat} (h : Ex F (.fn [.t 4, .t 5]) [.code c24b] ⟨mk 19 [(0, x0), (1, x1)], rows, rows.length⟩ fun r => fin rows r.1 r.2.1 r.2.2 = q) : Ret F 24 [x0, x1] rows = some q := Ret_mk hF h
@[simp] theorem uc44s1 : Ex F cx (.code c44s1 :: k) s r ↔ Ex F cx (.code (.seq c44k0 .ret) :: k) s r := Iff.rfl
@[simp] theorem uc44s6 : Ex F cx (.code c44s6 :: k) s r ↔ Ex F cx (.code (.seq c44k5 c44k4) :: k) s r := Iff.rfl
@[simp] theorem uc44s8 : Ex F cx (.code c44s8 :: k) s r ↔ Ex F cx (.code (.seq (.block 3 (.seq c44k7 c44s6)) c44k3) :: k) s r := Iff.rfl
@[simp] theorem uc44s9 : Ex F cx (.code c44s9 :: k) s r ↔ Ex F cx (.code (.seq (.cond (.t 49) .skip (.exit 2)) c44s8) :: k) s r := Iff.rfl
@[simp] theorem uc44s11 : Ex F cx (.code c44s11 :: k) s r ↔ Ex F cx (.code (.block 2 (.loop c44l2)) :: k) s r := Iff.rfl
@[simp] theorem uc44s13 : Ex F cx (.code c44s13 :: k) s r ↔ Ex F cx (.code (.seq (.seq c44k12 c44s11) c44s1) :: k) s r := Iff.rfl
@[simp] theorem uc44s15 : Ex F cx (.code c44s15 :: k) s r ↔ Ex F cx (.code (.seq c44k14 c44s13) :: k) s r := Iff.rfl
@[simp] theorem uc44s17 : Ex F cx (.code c44s17 :: k) s r ↔ Ex F cx (.code (.seq c44k16 c44s15) :: k) s r := Iff.rfl
@[simp] theorem uc44s22 : Ex F cx (.code c44s22 :: k) s r ↔ Ex F cx (.code (.seq (.block 1 (.seq c44k21 c44k20)) c44k19) :: k) s r := Iff.rfl
@[simp] theorem uc44s23 : Ex F cx (.code c44s23 :: k) s r ↔ Ex F cx (.code (.seq (.cond (.t 27) .skip (.exit 0)) c44s22) :: k) s r := Iff.rfl
@[simp] theorem uc44s25 : Ex F cx (.code c44s25 :: k) s r ↔ Ex F cx (.code (.block 0 (.loop c44l18)) :: k) s r := Iff.rfl
@[simp] theorem uc44k26 : Ex F cx (.code c44k26 :: k) ⟨mk 64 l, rows, low⟩ r ↔ bnd (evP rows (.len 0 (.c (lk l 1)))) fun v0 => Ex F cx k ⟨mk 64 [(26, (.int .i64 0)), (25, v0), (24, lk l 1), (1, lk l 1), (2, lk l 2), (4, lk l 4), (7, lk l 7)], rows, low⟩ r := rg [1, 2, 4, 7] c44r26 rfl (by kernel_rfl)
@[simp] theorem uc44s27 : Ex F cx (.code c44s27 :: k) s r ↔ Ex F cx (.code (.seq (.seq c44k26 c44s25) c44s17) :: k) s r := Iff.rfl
@[simp] theorem uc44k28 : Ex F cx (.code c44k28 :: k) ⟨mk 64 l, rows, low⟩ r ↔ Ex F cx k ⟨mk 64 [(7, .nilslice), (1, lk l 1), (2, lk l 2), (4, lk l 4)], rows, low⟩ r := rg [1, 2, 4] c44r28 rfl (by kernel_rfl)
@[simp] theorem uc44s29 : Ex F cx (.code c44s29 :: k) s r ↔ Ex F cx (.code (.seq c44k28 c44s27) :: k) s r := Iff.rfl
@[simp] theorem uc44k30 : Ex F cx (.code c44k30 :: k) ⟨mk 64 l, rows, low⟩ r ↔ bnd (evP rows (.mkagg [.int .i64 0, .int .i64 0, .int .i64 0, .int .i64 0, .int .i64 0, .int .i64 0, .int .i64 0, .int .i64 0] [])) fun v0 => bnd (evE rows low (.storeN 8 (.c (lk l 4)) (.c v0))) fun q1 => Ex F cx k ⟨mk 64 [(5, lk l 6), (23, lk l 6), (22, v0), (4, lk l 4), (6, lk l 6)], q1.2.1, q1.2.2⟩ r := rg [4, 6] c44r30 rfl (by kernel_rfl)
@[simp] theorem uc44s31 : Ex F cx (.code c44s31 :: k) s r ↔ Ex F cx (.code (.cond (.t 21) (.seq c44k30 .ret) .skip) :: k) s r := Iff.rfl
@[simp] theorem uc44k32 : Ex F cx (.code c44k32 :: k) ⟨mk 64 l, rows, low⟩ r ↔ bnd (evP rows (.bin .neq (.c (lk l 6)) (.c (.int .i64 0)))) fun v0 => Ex F cx k ⟨mk 64 [(21, v0), (20, lk l 6), (1, lk l 1), (2, lk l 2), (4, lk l 4), (6, lk l 6)], rows, low⟩ r := rg [1, 2, 4, 6] c44r32 rfl (by kernel_rfl)
@[simp] theorem uc44s33 : Ex F cx (.code c44s33 :: k) s r ↔ Ex F cx (.code (.seq c44k32 c44s31) :: k) s r := Iff.rfl
@[simp] theorem uc44k34 : Ex F cx (.code c44k34 :: k) ⟨mk 64 l, rows, low⟩ r ↔ bnd (evP rows (.loadN 3 (.c (lk l 2)))) fun v0 => bnd (evP rows (.loadN 3 (.c (lk l 2)))) fun v1 => bnd (evP rows (.bind 67 [(.c v1)])) fun v2 => bnd (Ret F 66 [v0, lk l 1, v2] rows) fun q3 => Ex F cx k ⟨mk 64 [(6, q3.1), (19, q3.1), (18, v2), (17, v1), (16, lk l 1), (15, v0), (1, lk l 1), (2, lk l 2), (4, lk l 4)], q3.2.1, (lowO low q3.2.2)⟩ r := rg [1, 2, 4] c44r34 rfl (by kernel_rfl)
@[simp] theorem uc44s35 : Ex F cx (.code c44s35 :: k) s r ↔ Ex F cx (.code (.seq (.seq c44k34 c44s33) c44s29) :: k) s r := Iff.rfl
@[simp] theorem uc44k36 : Ex F cx (.code c44k36 :: k) ⟨mk 64 l, rows, low⟩ r ↔ bnd (evE rows low (.box (.c (lk l 0)))) fun q0 => bnd (evE q0.2.1 q0.2.2 (.box (.c (.agg [.int .i64 0, .int .i64 0, .int .i64 0, .int .i64 0, .int .i64 0, .int .i64 0, .int .i64 0, .int .i64 0])))) fun q1 => Ex F cx k ⟨mk 64 [(5, (.int .i64 0)), (4, q1.1), (2, q0.1), (0, lk l 0), (1, lk l 1)], q1.2.1, q1.2.2⟩ r := rg [0, 1] c44r36 rfl (by kernel_rfl)
def Jc44s8 (F : Nat → Option IFn) (cx : Ctx) (x4 x11 x46 x47 x48 : AV) (rows : List Row) (low : Nat) (r : AV × List Row × Nat → Prop) : Prop := Ex F cx (.code c44s8 :: .inLoop c44l2 :: .inBlock 2 :: .code c44s1 :: []) ⟨mk 64 [(4, x4), (11, x11), (46, x46), (47, x47), (48, x48)], rows, low⟩ r
def Lc44l2 (F : Nat → Option IFn) (cx : Ctx) (x4 x11 x46 x47 x48 : AV) (rows : List Row) (low : Nat) (r : AV × List Row × Nat → Prop) : Prop := Ex F cx (.code c44l2 :: .inLoop c44l2 :: .inBlock 2 :: .code c44s1 :: []) ⟨mk 64 [(4, x4), (11, x11), (46, x46), (47, x47), (48, x48)], rows, low⟩ r
@[simp] theorem uc44l2 : Ex F cx (.code c44l2 :: k) s r ↔ Ex F cx (.code (.seq c44k10 c44s9) :: k) s r := Iff.rfl
def Jc44s22 (F : Nat → Option IFn) (cx : Ctx) (x1 x2 x4 x7 x24 x25 x26 : AV) (rows : List Row) (low : Nat) (r : AV × List Row × Nat → Prop) : Prop := Ex F cx (.code c44s22 :: .inLoop c44l18 :: .inBlock 0 :: .code c44s17 :: []) ⟨mk 64 [(1, x1), (2, x2), (4, x4), (7, x7), (24, x24), (25, x25), (26, x26)], rows, low⟩ r
def Lc44l18 (F : Nat → Option IFn) (cx : Ctx) (x1 x2 x4 x7 x24 x25 x26 : AV) (rows : List Row) (low : Nat) (r : AV × List Row × Nat → Prop) : Prop := Ex F cx (.code c44l18 :: .inLoop c44l18 :: .inBlock 0 :: .code c44s17 :: []) ⟨mk 64 [(1, x1), (2, x2), (4, x4), (7, x7), (24, x24), (25, x25), (26, x26)], rows, low⟩ r
@[simp] theorem ec44l18 : Ex F cx (.code (.loop c44l18) :: .inBlock 0 :: .code c44s17 :: []) ⟨mk 64 l, rows, low⟩ r ↔ Lc44l18 F cx (lk l 1) (lk l 2) (lk l 4) (lk l 7) (lk l 24) (lk l 25) (lk l 26) rows low r := loopE (keep := [1, 2, 4, 7, 24, 25, 26]) (by kernel_rfl)
@[simp] theorem uc44l18 : Ex F cx (.code c44l18 :: k) s r ↔ Ex F cx (.code (.seq c44k24 c44s23) :: k) s r := Iff.rfl
def Jc44s29 (F : Nat → Option IFn) (cx : Ctx) (x1 x2 x4 : AV) (rows : List Row) (low : Nat) (r : AV × List Row × Nat → Prop) : Prop := Ex F cx (.code c44s29 :: []) ⟨mk 64 [(1, x1), (2, x2), (4, x4)], rows, low⟩ r
@[simp] theorem uc44b : Ex F cx (.code c44b :: k) s r ↔ Ex F cx (.code (.seq c44k36 c44s35) :: k) s r := Iff.rfl
theorem i44 {x0 x1 : AV} (hF : F 44 = some c44) {q : AV × List Row × Option Nat} (h : Ex F (.fn [.cellN 4 8, .t 5]) [.code c44b] ⟨mk 64 [(0, x0), (1, x1)], rows, rows.length⟩ fun r => fin rows r.1 r.2.1 r.2.2 = q) : Ret F 44 [x0, x1] rows = some q := Ret_mk hF h
end Go.Abs

namespace Go.Abs
def Adj (ks : List Nat) (u v : Nat) : Prop := ∃ k ∈ ks, (k / 6 = u ∧ k % 6 = v) ∨ (k / 6 = v ∧ k % 6 = u)
inductive Cn (ks : List Nat) : Nat → Nat → Prop
 | refl (u : Nat) : Cn ks u u
 | step {u v w : Nat} : Cn ks u v → Adj ks v w → Cn ks u w
theorem Adj.symm {ks : List Nat} {u v : Nat} (h : Adj ks u v) : Adj ks v u := by
 obtain ⟨k, hk, h⟩ := h
 exact ⟨k, hk, h.symm⟩
theorem Cn.trans {ks : List Nat} {u v w : Nat} (h1 : Cn ks u v) (h2 : Cn ks v w) : Cn ks u w := by
 induction h2 with
 | refl => exact h1
 | step _ a ih => exact .step ih a
theorem Cn.symm {ks : List Nat} {u v : Nat} (h : Cn ks u v) : Cn ks v u := by
 induction h with
 | refl => exact .refl _
 | step _ a ih => exact Cn.trans (.step (.refl _) a.symm) ih
section
variable {N : Nat} {ks ps : List Nat}
end
end Go.Abs

namespace Go.Abs
def mpE (S : List Nat) : List (AV × AV) := S.map fun (v : Nat) => (AV.int .i64 (v : Int), AV.bool true)
end Go.Abs

namespace Go.Abs
structure WS (rows : List Row) (G : List AV) (D : List Int) (S : List Nat) (R : List Row) : Prop where
 base : ∃ L, R = rows ++ L
 g : row? R rows.length = some G
 d : R[rows.length + 1]? = some (.cells (nums .i64 D))
 m : R[rows.length + 2]? = some (.mp (mpE S))
section
variable {rows R : List Row} {G : List AV} {D : List Int} {S : List Nat}
theorem WS.len (h : WS rows G D S R) : rows.length + 3 ≤ R.length := (List.getElem?_eq_some_iff.1 h.m).1
theorem WS.app (h : WS rows G D S R) (X : List Row) : WS rows G D S (R ++ X) := by
 have hl := h.len
 obtain ⟨⟨L, hL⟩, h2, h3, h4⟩ := h
 refine ⟨⟨L ++ X, by rw [hL, List.append_assoc]⟩, row?_old h2 X, ?_, ?_⟩
 ·rw [List.getElem?_append_left (by omega)]; exact h3
 ·rw [List.getElem?_append_left (by omega)]; exact h4
theorem WS.of (h : WS rows G D S R) {R' : List Row} (hl : R.length ≤ R'.length) {o : Nat} (ho : rows.length + 3 ≤ o) (he : ∀ i, i < R.length → i ≠ o → R'[i]? = R[i]?) : WS rows G D S R' := by
 have hlen := h.len
 refine ⟨?_, ?_, ?_, ?_⟩
 ·have hb := h.base
  have hS : Sm rows.length o rows R' := by
   obtain ⟨L, rfl⟩ := hb
   refine ⟨by simp at hl; omega, fun i h1 h2 => ?_⟩
   rw [he i (by simp; omega) h2, List.getElem?_append_left h1]
  exact Sm_split hS (by omega)
 ·have := h.g
  unfold row? at this ⊢
  rw [he _ (by omega) (by omega)]
  exact this
 ·rw [he _ (by omega) (by omega)]; exact h.d
 ·rw [he _ (by omega) (by omega)]; exact h.m
end
end Go.Abs

namespace Go.Abs
abbrev WSt := List Int × List Nat × List Nat
structure SI (N : Nat) (s : WSt) : Prop where
 d : s.1.length = 13
 nd : s.2.1.Nodup
 b : ∀ v ∈ s.2.1, v < N
 q : s.2.2.length ≤ s.2.1.length
theorem SI.s6 {N : Nat} {s : WSt} (h : SI N s) (hN : N ≤ 6) : s.2.1.length ≤ 6 := by
 have := List.Nodup.length_le_of_subset h.nd (l₂ := List.range N) (fun x hx => List.mem_range.2 (h.b x hx))
 simp at this
 omega
section
variable {rows R : List Row} {G : List AV} {N : Nat} {ks ps : List Nat} {x1 ev : AV} {fl : List Int}
end
end Go.Abs

namespace Go.Abs
structure Rl (ks : List Nat) (a : Nat) (s s' : WSt) : Prop where
 S : ∀ v ∈ s.2.1, v ∈ s'.2.1
 q : ∀ v ∈ s.2.2, v ∈ s'.2.2
 n : ∀ v ∈ s'.2.1, v ∈ s.2.1 ∨ (v ∈ s'.2.2 ∧ Adj ks a v)
 p : ∀ v ∈ s'.2.2, v ∈ s.2.2 ∨ v ∈ s'.2.1 ∧ Adj ks a v
 d : gI s'.1 12 = gI s.1 12
theorem Rl.refl {ks : List Nat} {a : Nat} {s : WSt} : Rl ks a s s := ⟨fun _ h => h, fun _ h => h, fun _ h => .inl h, fun _ h => .inl h, rfl⟩
theorem Rl.trans {ks : List Nat} {a : Nat} {s s1 s2 : WSt} (h : Rl ks a s s1) (k : Rl ks a s1 s2) : Rl ks a s s2 :=
 ⟨fun v hv => k.S v (h.S v hv), fun v hv => k.q v (h.q v hv), fun v hv => by
  rcases k.n v hv with e | e
  ·rcases h.n v e with e | ⟨e1, e2⟩
   ·exact .inl e
   ·exact .inr ⟨k.q v e1, e2⟩
  ·exact .inr e, fun v hv => by
  rcases k.p v hv with e | e
  ·rcases h.p v e with e | ⟨e1, e2⟩
   ·exact .inl e
   ·exact .inr ⟨k.S v e1, e2⟩
  ·exact .inr e, k.d.trans h.d⟩
section
variable {N : Nat} {ks ps : List Nat} {fl : List Int}
end
end Go.Abs

namespace Go.Abs
section
variable {rows R : List Row} {N : Nat} {ks ps : List Nat} {g x1 : AV} {fl : List Int}
theorem rep_ok {m : Nat} : ∀ x ∈ List.replicate m (0 : Int), -100 ≤ x ∧ x ≤ 100 := by
 intro x hx
 have := List.eq_of_mem_replicate hx
 omega
end
end Go.Abs

namespace Go.Abs
section
variable {rows B : List Row} {N : Nat} {ks ps : List Nat} {x1 ev g : AV} {fl D l : List Int}
def hts (N : Nat) (D : List Int) : List Int := (D.drop 6).take N
end
end Go.Abs

namespace Go.Abs
def bls (l : List Bool) : List AV := l.map AV.bool
section
variable {B L : List Row} {n : Nat} {c : Cap} {v : AV}
end
end Go.Abs

namespace Go.Abs
abbrev HSt := List Int × List Bool
section
variable {N : Nat} {ks ps : List Nat} {fl : List Int}
end
end Go.Abs

namespace Go.Abs
def hR (B M : List Row) (G : List AV) (t : HSt) : List Row := B ++ (.cells G :: .cells (nums .i64 t.1) :: .cells (bls t.2) :: M)
section
variable {B M : List Row} {G : List AV} {t : HSt} {N low i : Nat}
end
section
variable {B M : List Row} {N : Nat} {ks ps : List Nat} {x1 x8 ev pv : AV} {fl p : List Int} {low : Nat}
end
end Go.Abs

namespace Go.Abs
theorem cmpL2_iff {a b c d : Int} : cmpL [a, b] [c, d] < 0 ↔ (a < c ∨ (a = c ∧ b < d)) := by
 constructor
 ·intro h
  simp only [cmpL] at h
  by_cases c1 : a < c
  ·exact .inl c1
  ·rw [if_neg c1] at h
   by_cases c2 : c < a
   ·rw [if_pos c2] at h; omega
   ·rw [if_neg c2] at h
    by_cases c3 : b < d
    ·exact .inr ⟨by omega, c3⟩
    ·rw [if_neg c3] at h
     split at h <;> simp at h
 ·exact cmpL2_lt
def bef (a b c d e f : Int) : Bool := if a ≠ d then decide (a < d) else if b ≠ e then decide (b < e) else if c ≠ f then decide (c < f) else false
theorem bef_iff {a b c d e f : Int} : cmpL [a, b, c] [d, e, f] < 0 ↔ bef a b c d e f = true := by
 constructor
 ·intro h
  simp only [cmpL] at h
  unfold bef
  by_cases c1 : a < d
  ·rw [if_pos (by omega)]; simpa using c1
  ·rw [if_neg c1] at h
   by_cases c2 : d < a
   ·rw [if_pos c2] at h; omega
   ·rw [if_neg c2] at h
    rw [if_neg (by omega)]
    by_cases c3 : b < e
    ·rw [if_pos (by omega)]; simpa using c3
    ·rw [if_neg c3] at h
     by_cases c4 : e < b
     ·rw [if_pos c4] at h; omega
     ·rw [if_neg c4] at h
      rw [if_neg (by omega)]
      by_cases c5 : c < f
      ·rw [if_pos (by omega)]; simpa using c5
      ·rw [if_neg c5] at h
       split at h <;> simp at h
 ·intro h
  unfold bef at h
  apply cmpL3_lt
  split at h
  ·exact .inl (by simpa using h)
  ·split at h
   ·exact .inr ⟨by omega, .inl (by simpa using h)⟩
   ·split at h
    ·exact .inr ⟨by omega, .inr ⟨by omega, by simpa using h⟩⟩
    ·simp at h
section
variable {rows : List Row} {N : Int} {v ev pv : AV} {fe fp l : List Int} {m k : Nat}
set_option maxHeartbeats 4000000 in
theorem Numbers_loop {n : Int} (h : IsL rows v l) (hl : l.length ≤ 1000000) : ∀ (d i : Nat), l.length - i = d → i ≤ l.length →
  Lc39l2 F (.fn [.t 4]) v (.int .i64 n) (.int .i64 i) rows rows.length (fun r => fin rows r.1 r.2.1 r.2.2 = (.bool (if (l.drop i).any outB then false else decide ((l.length : Int) = n)), rows, none)) := by
 have ln := lenW h
 intro d
 induction d with
 |
  zero =>
  intro i hd hi
  have hi' : i = l.length := by omega
  subst hi'
  unfold Lc39l2
  have e : (((l.length : Int)) == n) = decide ((l.length : Int) = n) := by by_cases c : (l.length : Int) = n <;> simp [c]
  simp [ln, e]
 |
  succ d ih =>
  intro i hd hi0
  have hi : i < l.length := by omega
  have hw : IntKind.i64.wrap ((i : Int) + 1) = ((i + 1 : Nat) : Int) := by rw [wrap64 (by omega) (by omega)]; omega
  have ix := idxW h hi
  have ld := ldW1 h hi
  rw [Nat.mul_one] at ix
  have hih := ih (i + 1) (by omega) (by omega)
  have hdr : l.drop i = gI l i :: l.drop (i + 1) := by rw [List.drop_eq_getElem_cons hi, gI_eq hi]
  rw [hdr, List.any_cons]
  generalize gI l i = x at *
  unfold Lc39l2
  by_cases c1 : x < -100
  ·have e : outB x = true := decide_eq_true (.inl c1)
   simp [ln, hi, ix, ld, c1, e]
  ·by_cases c2 : 100 < x
   ·have e : outB x = true := decide_eq_true (.inr c2)
    simp [ln, hi, ix, ld, c1, c2, e]
   ·have e : outB x = false := decide_eq_false (by omega)
    simp [ln, hi, ix, ld, c1, c2, e, hw]
    simpa using hih
theorem Numbers_ret {n : Int} (h : IsL rows v l) (hl : l.length ≤ 1000000) : Ret F 39 [v, .int .i64 n] rows = some (.bool (decide ((l.length : Int) = n ∧ l.any outB = false)), rows, none) := by
 have := Numbers_loop (n := n) h hl _ 0 rfl (Nat.zero_le _)
 have e : decide ((l.length : Int) = n ∧ l.any outB = false) = if (l.drop 0).any outB then false else decide ((l.length : Int) = n) := by
  rw [List.drop_zero]
  cases l.any outB <;> simp
 rw [e]
 refine i39 F39 ?_
 simp
 simpa using this
set_option maxHeartbeats 4000000 in
theorem before_ret {a b c d e f : Int} : Ret F 90 [.agg [.int .i64 a, .int .i64 b, .int .i64 c], .agg [.int .i64 d, .int .i64 e, .int .i64 f]] rows = some (.bool (bef a b c d e f), rows, none) := by
 have i0 : idx? 0 3 = some 0 := rfl
 have i1 : idx? 1 3 = some 1 := rfl
 have i2 : idx? 2 3 = some 2 := rfl
 have w1 : IntKind.i64.wrap 1 = 1 := rfl
 have w2 : IntKind.i64.wrap 2 = 2 := rfl
 have w3 : IntKind.i64.wrap 3 = 3 := rfl
 have r0 : row? (rows ++ [.cells [.int .i64 a, .int .i64 b, .int .i64 c], .cells [.int .i64 d, .int .i64 e, .int .i64 f]]) rows.length = some [.int .i64 a, .int .i64 b, .int .i64 c] := by simp [row?]
 have r1 : row? (rows ++ [.cells [.int .i64 a, .int .i64 b, .int .i64 c], .cells [.int .i64 d, .int .i64 e, .int .i64 f]]) (rows.length + 1) = some [.int .i64 d, .int .i64 e, .int .i64 f] := by simp [row?]
 refine i90 F90 ?_
 unfold bef
 by_cases c1 : a = d
 ·by_cases c2 : b = e
  ·by_cases c3 : c = f
   ·simp [Lc90l2, r0, r1, i0, i1, i2, w1, w2, w3, c1, c2, c3]
   ·simp [Lc90l2, r0, r1, i0, i1, i2, w1, w2, w3, c1, c2, c3]
  ·simp [Lc90l2, r0, r1, i0, i1, i2, w1, w2, w3, c1, c2]
 ·simp [Lc90l2, r0, r1, i0, i1, i2, w1, w2, w3, c1]
end
end Go.Abs

namespace Go.Abs
section
variable {rows : List Row} {N : Int} {ev pv : AV} {fe fp : List Int} {m k : Nat}
abbrev cQb (rows : List Row) (b : Bool) : AV × List Row × Nat → Prop := fun r => fin rows r.1 r.2.1 r.2.2 = (.bool b, rows, none)
@[simp] theorem cQb_t {b : Bool} {R : List Row} : cQb rows b (.bool b, R, rows.length) ↔ True := by simp [cQb]
set_option maxHeartbeats 16000000 in
theorem Rplate_loop (he : El rows 2 ev (nums .i64 fe) m) (hm : m ≤ 1000000) (hp : El rows 3 pv (nums .i64 fp) k) (hk : k ≤ 1000000) : ∀ (d i : Nat) (H : List Row), k - i = d → i ≤ k →
  Lc58l2 F (.fn [.t 2]) (.ptr rows.length 0) (.int .i64 i) (cR rows N ev pv H) rows.length (cQb rows (pAll fe fp m d i)) := by
 intro d
 induction d with
 |
  zero =>
  intro i H hd h1
  have hi : i = k := by omega
  subst hi
  have hp' := El_app hp (.cells [.int .i64 N, ev, pv] :: H)
  unfold Lc58l2
  simp [pAll, lenW hp']
 |
  succ d ih =>
  intro i H hd h1
  have hi : i < k := by omega
  have hw : IntKind.i64.wrap ((i : Int) + 1) = ((i + 1 : Nat) : Int) := by rw [wrap64 (by omega) (by omega)]; omega
  have one1 := El_one he
  have one2 := El_one hp
  have hp' := El_app hp (.cells [.int .i64 N, ev, pv] :: H)
  have ln := lenW hp'
  have e1 := idxW hp' hi
  have e2 := ldW3 hp' hi
  have x0 : idx? 0 3 = some 0 := rfl
  have x1 : idx? 1 3 = some 1 := rfl
  have x2 : idx? 2 3 = some 2 := rfl
  have next := ih (i + 1) (H ++ [.cells [.int .i64 (gI fp (i * 3)), .int .i64 (gI fp (i * 3 + 1)), .int .i64 (gI fp (i * 3 + 2))]]) (by omega) (by omega)
  have hR : row? (cR rows N ev pv (H ++ [.cells [.int .i64 (gI fp (i * 3)), .int .i64 (gI fp (i * 3 + 1)), .int .i64 (gI fp (i * 3 + 2))]])) (rows.length + (H.length + 1)) = some [.int .i64 (gI fp (i * 3)), .int .i64 (gI fp (i * 3 + 1)), .int .i64 (gI fp (i * 3 + 2))] := by
   unfold row?; simp
  have hG : row? (cR rows N ev pv (H ++ [.cells [.int .i64 (gI fp (i * 3)), .int .i64 (gI fp (i * 3 + 1)), .int .i64 (gI fp (i * 3 + 2))]])) rows.length = some [.int .i64 N, ev, pv] := by
   unfold row?; simp
  have he2 := El_app he (.cells [.int .i64 N, ev, pv] :: (H ++ [.cells [.int .i64 (gI fp (i * 3)), .int .i64 (gI fp (i * 3 + 1)), .int .i64 (gI fp (i * 3 + 2))]]))
  have hE := fun (a b : Int) => Edge_ret (n0 := .int .i64 N) he2 hm ⟨rfl, one1, one2⟩ (a := a) (b := b)
  have hp2 := El_app hp (.cells [.int .i64 N, ev, pv] :: (H ++ [.cells [.int .i64 (gI fp (i * 3)), .int .i64 (gI fp (i * 3 + 1)), .int .i64 (gI fp (i * 3 + 2))]]))
  have hpk : pok fe fp m i = decide (gI fp (i * 3) < gI fp (i * 3 + 1) ∧ gI fp (i * 3 + 1) < gI fp (i * 3 + 2) ∧ (0 < i → cmpL [gI fp ((i - 1) * 3), gI fp ((i - 1) * 3 + 1), gI fp ((i - 1) * 3 + 2)] [gI fp (i * 3), gI fp (i * 3 + 1), gI fp (i * 3 + 2)] < 0) ∧
   0 ≤ pix fe (gI fp (i * 3)) (gI fp (i * 3 + 1)) m 0 ∧ 0 ≤ pix fe (gI fp (i * 3)) (gI fp (i * 3 + 2)) m 0 ∧ 0 ≤ pix fe (gI fp (i * 3 + 1)) (gI fp (i * 3 + 2)) m 0) := rfl
  have e3 : 0 < i → _ := fun h => idxW hp2 (i := i - 1) (by omega)
  have e4 : 0 < i → _ := fun h => ldW3 hp2 (i := i - 1) (by omega)
  simp only [pAll]
  rw [hpk]
  generalize gI fp (i * 3) = p0 at *
  generalize gI fp (i * 3 + 1) = p1 at *
  generalize gI fp (i * 3 + 2) = p2 at *
  generalize gI fp ((i - 1) * 3) = o0 at *
  generalize gI fp ((i - 1) * 3 + 1) = o1 at *
  generalize gI fp ((i - 1) * 3 + 2) = o2 at *
  unfold Lc58l2
  by_cases c1 : p0 < p1
  ·by_cases c2 : p1 < p2
   ·have hE1 := hE p0 p1
    have hE2 := hE p0 p2
    have hE3 := hE p1 p2
    rw [show min p0 p1 = p0 from by omega, show max p0 p1 = p1 from by omega] at hE1
    rw [show min p0 p2 = p0 from by omega, show max p0 p2 = p2 from by omega] at hE2
    rw [show min p1 p2 = p1 from by omega, show max p1 p2 = p2 from by omega] at hE3
    generalize pix fe p0 p1 m 0 = q1 at *
    generalize pix fe p0 p2 m 0 = q2 at *
    generalize pix fe p1 p2 m 0 = q3 at *
    have n1 : ¬ (p1 ≤ p0) := by omega
    have n2 : ¬ (p2 ≤ p1) := by omega
    by_cases c3 : 0 ≤ q1
    ·by_cases c4 : 0 ≤ q2
     ·by_cases c5 : 0 ≤ q3
      ·have m1 : ¬ (q1 < 0) := by omega
       have m2 : ¬ (q2 < 0) := by omega
       have m3 : ¬ (q3 < 0) := by omega
       by_cases c6 : 0 < i
       ·have c6' : (0 : Int) < (i : Int) := by omega
        have hwm : IntKind.i64.wrap ((i : Int) - 1) = ((i - 1 : Nat) : Int) := by rw [wrap64 (by omega) (by omega)]; omega
        have hb := before_ret (rows := cR rows N ev pv (H ++ [.cells [.int .i64 p0, .int .i64 p1, .int .i64 p2]])) (a := o0) (b := o1) (c := o2) (d := p0) (e := p1) (f := p2)
        have g3 := e3 c6
        have g4 := e4 c6
        have hbi := bef_iff (a := o0) (b := o1) (c := o2) (d := p0) (e := p1) (f := p2)
        generalize bef o0 o1 o2 p0 p1 p2 = bb at *
        cases bb with
        |
         true =>
         have hd1 := hbi.2 rfl
         rw [decide_eq_true ⟨c1, c2, fun _ => hd1, c3, c4, c5⟩]
         simp [ln, hi, e1, e2, seg, splice, lower_ge', x0, x1, x2, hR, hG, n1, n2, hE1, hE2, hE3, m1, m2, m3, c6, c6', hwm, g3, g4, hb, hw]
         simpa using next
        |
         false =>
         rw [decide_eq_false (fun hh => by have := hbi.1 (hh.2.2.1 c6); simp at this)]
         simp [ln, hi, e1, e2, seg, splice, lower_ge', x0, x1, x2, hR, hG, n1, n2, hE1, hE2, hE3, m1, m2, m3, c6, c6', hwm, g3, g4, hb]
       ·rw [decide_eq_true ⟨c1, c2, fun h => absurd h c6, c3, c4, c5⟩]
        simp [ln, hi, e1, e2, seg, splice, lower_ge', x0, x1, x2, hR, hG, n1, n2, hE1, hE2, hE3, m1, m2, m3, c6, hw]
        simpa using next
      ·rw [decide_eq_false (fun hh => c5 hh.2.2.2.2.2)]
       simp [ln, hi, e1, e2, seg, splice, lower_ge', x0, x1, x2, hR, hG, n1, n2, hE1, hE2, hE3, show ¬ (q1 < 0) by omega, show ¬ (q2 < 0) by omega, show (q3 < 0) by omega]
     ·rw [decide_eq_false (fun hh => c4 hh.2.2.2.2.1)]
      simp [ln, hi, e1, e2, seg, splice, lower_ge', x0, x1, x2, hR, hG, n1, n2, hE1, hE2, show ¬ (q1 < 0) by omega, show (q2 < 0) by omega]
    ·rw [decide_eq_false (fun hh => c3 hh.2.2.2.1)]
     simp [ln, hi, e1, e2, seg, splice, lower_ge', x0, x1, x2, hR, hG, n1, n2, hE1, show (q1 < 0) by omega]
   ·rw [decide_eq_false (fun hh => c2 hh.2.1)]
    simp [ln, hi, e1, e2, seg, splice, lower_ge', x0, x1, x2, hR, show ¬ (p1 ≤ p0) by omega, show (p2 ≤ p1) by omega]
  ·rw [decide_eq_false (fun hh => c1 hh.1)]
   simp [ln, hi, e1, e2, seg, splice, lower_ge', x0, x1, x2, hR, show (p1 ≤ p0) by omega]
set_option maxHeartbeats 16000000 in
theorem Redges_loop (he : El rows 2 ev (nums .i64 fe) m) (hm : m ≤ 1000000) (hp : El rows 3 pv (nums .i64 fp) k) (hk : k ≤ 1000000) : ∀ (d i : Nat), m - i = d → i ≤ m →
  Lc58l15 F (.fn [.t 2]) (.ptr rows.length 0) (.int .i64 i) (cR rows N ev pv []) rows.length (cQb rows (eAll N fe d i && pAll fe fp m k 0)) := by
 have he' := El_app he [.cells [.int .i64 N, ev, pv]]
 have ln := lenW he'
 have hG : row? (rows ++ [.cells [.int .i64 N, ev, pv]]) rows.length = some [.int .i64 N, ev, pv] := by unfold row?; simp
 intro d
 induction d with
 |
  zero =>
  intro i hd h1
  have hi : i = m := by omega
  subst hi
  have := Rplate_loop (rows := rows) (N := N) he hm hp hk k 0 [] (by omega) (by omega)
  unfold Lc58l15
  simp [eAll, ln]
  simpa using this
 |
  succ d ih =>
  intro i hd h1
  have hi : i < m := by omega
  have hw : IntKind.i64.wrap ((i : Int) + 1) = ((i + 1 : Nat) : Int) := by rw [wrap64 (by omega) (by omega)]; omega
  have hl := El_num_len he
  have ix := idxW he' hi
  have w1 := ldW1 he' (j := i * 2) (by omega)
  have w2 := ldW1 he' (j := i * 2 + 1) (by omega)
  rw [← Nat.add_assoc] at w2
  have x0 : idx? 0 2 = some 0 := rfl
  have x1 : idx? 1 2 = some 1 := rfl
  have next := ih (i + 1) (by omega) (by omega)
  have hek : eok N fe i = decide (0 ≤ gI fe (i * 2) ∧ gI fe (i * 2) < gI fe (i * 2 + 1) ∧ gI fe (i * 2 + 1) < N ∧ (0 < i → cmpL [gI fe ((i - 1) * 2), gI fe ((i - 1) * 2 + 1)] [gI fe (i * 2), gI fe (i * 2 + 1)] < 0)) := rfl
  have e3 : 0 < i → _ := fun h => idxW he' (i := i - 1) (by omega)
  have e4 : 0 < i → _ := fun h => ldW1 he' (j := (i - 1) * 2) (by omega)
  have e5 : 0 < i → _ := fun h => ldW1 he' (j := (i - 1) * 2 + 1) (by omega)
  simp only [eAll]
  rw [hek]
  generalize gI fe (i * 2) = p0 at *
  generalize gI fe (i * 2 + 1) = p1 at *
  generalize gI fe ((i - 1) * 2) = o0 at *
  generalize gI fe ((i - 1) * 2 + 1) = o1 at *
  unfold Lc58l15
  by_cases c0 : 0 ≤ p0
  ·have n0 : ¬ (p0 < 0) := by omega
   by_cases c1 : p0 < p1
   ·have n1 : ¬ (p1 ≤ p0) := by omega
    by_cases c2 : p1 < N
    ·have n2 : ¬ (N ≤ p1) := by omega
     by_cases c3 : 0 < i
     ·have c3' : (0 : Int) < (i : Int) := by omega
      have hwm : IntKind.i64.wrap ((i : Int) - 1) = ((i - 1 : Nat) : Int) := by rw [wrap64 (by omega) (by omega)]; omega
      have g3 := e3 c3
      have g4 := e4 c3
      have g5 := e5 c3
      rw [← Nat.add_assoc] at g5
      have hci := cmpL2_iff (a := o0) (b := o1) (c := p0) (d := p1)
      by_cases d1 : p0 < o0
      ·rw [decide_eq_false (fun hh => by have := hci.1 (hh.2.2.2 c3); omega)]
       simp [ln, hG, hi, ix, w1, w2, x0, x1, n0, n1, n2, c3, c3', hwm, g3, g4, g5, d1]
      ·by_cases d2 : o0 = p0
       ·by_cases d3 : p1 ≤ o1
        ·rw [decide_eq_false (fun hh => by have := hci.1 (hh.2.2.2 c3); omega)]
         simp [ln, hG, hi, ix, w1, w2, x0, x1, n0, n1, n2, c3, c3', hwm, g3, g4, g5, d1, d2, d3]
        ·rw [decide_eq_true ⟨c0, c1, c2, fun _ => hci.2 (by omega)⟩]
         simp [ln, hG, hi, ix, w1, w2, x0, x1, n0, n1, n2, c3, c3', hwm, g3, g4, g5, d1, d2, d3, hw]
         simpa using next
       ·rw [decide_eq_true ⟨c0, c1, c2, fun _ => hci.2 (by omega)⟩]
        simp [ln, hG, hi, ix, w1, w2, x0, x1, n0, n1, n2, c3, c3', hwm, g3, g4, g5, d1, d2, hw]
        simpa using next
     ·rw [decide_eq_true ⟨c0, c1, c2, fun h => absurd h c3⟩]
      simp [ln, hG, hi, ix, w1, w2, x0, x1, n0, n1, n2, c3, hw]
      simpa using next
    ·rw [decide_eq_false (fun hh => c2 hh.2.2.1)]
     simp [ln, hG, hi, ix, w1, w2, x0, x1, n0, n1, show (N ≤ p1) by omega]
   ·rw [decide_eq_false (fun hh => c1 hh.2.1)]
    simp [ln, hG, hi, ix, w1, w2, x0, x1, n0, show (p1 ≤ p0) by omega]
  ·rw [decide_eq_false (fun hh => c0 hh.1)]
   simp [ln, hG, hi, ix, w1, w2, x0, x1, show (p0 < 0) by omega]
set_option maxHeartbeats 16000000 in
theorem RCheck_ret (he : El rows 2 ev (nums .i64 fe) m) (hm : m ≤ 1000000) (hp : El rows 3 pv (nums .i64 fp) k) (hk : k ≤ 1000000) : Ret F 58 [.agg [.int .i64 N, ev, pv]] rows = some (.bool (gndB N fe m fp k), rows, none) := by
 have one1 := El_one he
 have one2 := El_one hp
 have he' := El_app he [.cells [.int .i64 N, ev, pv]]
 have hp' := El_app hp [.cells [.int .i64 N, ev, pv]]
 have hmain := Redges_loop (rows := rows) (N := N) he hm hp hk m 0 (by omega) (by omega)
 refine i58 F58 ?_
 by_cases c1 : N < 1
 ·have : gndB N fe m fp k = false := by unfold gndB; rw [decide_eq_false (by omega)]; rfl
  simp [AV.cells, one1, one2, c1, this]
 ·by_cases c2 : 6 < N
  ·have : gndB N fe m fp k = false := by unfold gndB; rw [decide_eq_false (by omega)]; rfl
   simp [AV.cells, one1, one2, c1, c2, this]
  ·by_cases c3 : 10 < m
   ·have : gndB N fe m fp k = false := by unfold gndB; rw [decide_eq_false (by omega)]; rfl
    simp [AV.cells, one1, one2, c1, c2, lenW he', show ((10 : Int) < m) by omega, this]
   ·by_cases c4 : 6 < k
    ·have : gndB N fe m fp k = false := by unfold gndB; rw [decide_eq_false (by omega)]; rfl
     simp [AV.cells, one1, one2, c1, c2, lenW he', lenW hp', show ¬ ((10 : Int) < m) by omega, show ((6 : Int) < k) by omega, this]
    ·have : gndB N fe m fp k = (eAll N fe m 0 && pAll fe fp m k 0) := by unfold gndB; rw [decide_eq_true (by omega)]; rfl
     rw [this]
     generalize (eAll N fe m 0 && pAll fe fp m k 0) = bb at hmain ⊢
     simp [AV.cells, one1, one2, c1, c2, lenW he', lenW hp', show ¬ ((10 : Int) < m) by omega, show ¬ ((6 : Int) < k) by omega]
     exact hmain
end
end Go.Abs

namespace Go.Abs
def DRd (rows : List Row) (g : AV) (N : Int) (fe : List Int) (me : Nat) (fp : List Int) (kp : Nat) : Prop := ∃ ev pv, g = .agg [.int .i64 N, ev, pv] ∧ El rows 2 ev (nums .i64 fe) me ∧ El rows 3 pv (nums .i64 fp) kp ∧ Cp 2 ev ∧ Cp 3 pv
theorem DRd_app {rows : List Row} {g : AV} {N : Int} {fe fp : List Int} {me kp : Nat} (h : DRd rows g N fe me fp kp) (L : List Row) : DRd (rows ++ L) g N fe me fp kp := by
 obtain ⟨ev, pv, e, h1, h2, h3⟩ := h
 exact ⟨ev, pv, e, El_app h1 L, El_app h2 L, h3⟩
section
variable {rows : List Row} {N : Int} {fe fp : List Int} {me kp : Nat}
set_option maxHeartbeats 8000000 in
theorem given_retD {g : AV} (h : DRd rows g N fe me fp kp) (hm : me ≤ 11) (hk : kp ≤ 7) : ∃ g' X, Ret F 17 [g] rows = some (g', rows ++ X, none) ∧ Und rows X ∧ DRd (rows ++ X) g' N fe me fp kp := by
 obtain ⟨ev, pv, rfl, he, hp, ce, cp⟩ := h
 have one1 := El_one he
 have one2 := El_one hp
 let G : Row := .cells [.int .i64 N, ev, pv]
 have uG : ∀ b, rows.length ≤ b → G.under b = true := fun b hb => und_mono (a := rows.length) (by
  have u1 := El_under he
  have u2 := El_under hp
  simp [G, Row.under, AV.under, AV.ids]
  exact ⟨by simpa [AV.under] using u1, by simpa [AV.under] using u2⟩) hb
 have ecl : (nums .i64 fe).length = me * 2 := by rw [nums_len', El_num_len he]
 have pcl : (nums .i64 fp).length = kp * 3 := by rw [nums_len', El_num_len hp]
 -- the result, by its parts
 have fin0 : ∀ (E P : AV) (T : List Row), El (rows ++ (G :: .cells [.int .i64 N, E, P] :: T)) 2 E (nums .i64 fe) me → El (rows ++ (G :: .cells [.int .i64 N, E, P] :: T)) 3 P (nums .i64 fp) kp → Cp 2 E → Cp 3 P → T.all (Row.under 0) = true →
   ((∃ x, E.ids = [x] ∧ rows.length ≤ x) ∨ E = .nilslice) → ((∃ x, P.ids = [x] ∧ rows.length ≤ x) ∨ P = .nilslice) →
   ∃ g' X, fin rows (.agg [.int .i64 N, E, P]) (rows ++ (G :: .cells [.int .i64 N, E, P] :: T)) rows.length = (g', rows ++ X, none) ∧ Und rows X ∧ DRd (rows ++ X) g' N fe me fp kp := by
  intro E P T hE hP cE cP hT iE iP
  have uE := El_under hE
  have uP := El_under hP
  have hU : Und rows (G :: .cells [.int .i64 N, E, P] :: T) := by
   intro y hy
   simp only [List.mem_cons] at hy
   rcases hy with hy | hy | hy
   ·subst hy; exact uG _ (by omega)
   ·subst hy
    simp only [List.length_append] at uE uP
    simp [Row.under, AV.under, AV.ids]
    exact ⟨by simpa [AV.under] using uE, by simpa [AV.under] using uP⟩
   ·exact und_mono (List.all_eq_true.1 hT y hy) (Nat.zero_le _)
  rcases fin_agg (rows := rows) (l := [.int .i64 N, E, P]) (X := G :: .cells [.int .i64 N, E, P] :: T) with hf | ⟨hf, hids⟩
  ·exact ⟨_, _, hf, hU, E, P, rfl, hE, hP, cE, cP⟩
  ·simp only [AV.ids, AV.ids.idsL, List.nil_append, List.all_append, Bool.and_eq_true, List.append_nil] at hids
   have k1 : E = .nilslice := by
    rcases iE with ⟨x, e, hx⟩ | e
    ·rw [e] at hids; simp at hids; omega
    ·exact e
   have k2 : P = .nilslice := by
    rcases iP with ⟨x, e, hx⟩ | e
    ·rw [e] at hids; simp at hids; omega
    ·exact e
   subst k1 k2
   have h1 := hE
   have h2 := hP
   rcases El_cases h1 with ⟨_, c1, n1⟩ | ⟨_, _, _, _, e, _⟩
   ·rcases El_cases h2 with ⟨_, c2, n2⟩ | ⟨_, _, _, _, e, _⟩
    ·refine ⟨_, [], by rw [List.append_nil]; exact hf, Und_nil, .nilslice, .nilslice, rfl, ?_, ?_, trivial, trivial⟩
     ·rw [c1, n1]; exact El_nil
     ·rw [c2, n2]; exact El_nil
    ·simp at e
   ·simp at e
 have hc1 : ∀ L, evE (rows ++ L) (rows ++ L).length (.app 2 16 (.c .nilslice) (.c ev)) = some (accV (rows ++ L) [] 2 (nums .i64 fe) me, rows ++ L ++ accR [] (nums .i64 fe), (rows ++ L).length) := fun L => app_copy (El_app he L) (by omega) (by omega)
 have hc2 : ∀ L low, evE (rows ++ L) low (.app 3 24 (.c .nilslice) (.c pv)) = some (accV (rows ++ L) [] 3 (nums .i64 fp) kp, rows ++ L ++ accR [] (nums .i64 fp), low) := fun L low => app_copy (El_app hp L) (by omega) (by omega)
 let Z : Row := .cells [.int .i64 0, .nilslice, .nilslice]
 have c1 := hc1 [G, Z]
 have und0 : ∀ {x : AV} {m : List AV} {l : List Int}, nums .i64 l = x :: m → (Row.cells (x :: m)).under 0 = true := fun e => by rw [← e]; exact nums_und
 let Q : AV × List Row × Nat → Prop := fun r => ∃ g' X, fin rows r.1 r.2.1 r.2.2 = (g', rows ++ X, none) ∧ Und rows X ∧ DRd (rows ++ X) g' N fe me fp kp
 have main : Ex F (.fn [.cellN 2 3]) [.code c17b] ⟨mk 16 [(0, .agg [.int .i64 N, ev, pv])], rows, rows.length⟩ Q := by
  rcases nil_or (l := nums .i64 fe) with h1 | ⟨x, m, h1⟩
  ·rcases nil_or (l := nums .i64 fp) with h2 | ⟨y, m2, h2⟩
   ·have c2 := hc2 [G, Z] (rows ++ [G, Z]).length
    have f := fin0 .nilslice .nilslice [] (by
     have : me = 0 := by rw [h1] at ecl; simp at ecl; omega
     rw [h1, this]; exact El_nil) (by
     have : kp = 0 := by rw [h2] at pcl; simp at pcl; omega
     rw [h2, this]; exact El_nil) trivial trivial rfl (.inr rfl) (.inr rfl)
    rw [h1] at c1
    rw [h2] at c2
    simp [G, Z] at c1 c2
    simp [AV.cells, one1, one2, maskE, c1, c2, seg, splice, fillA, lower_ge', drop_mapL, Nat.add_assoc, tb5]
    exact f
   ·have c2 := hc2 [G, Z] (rows ++ [G, Z]).length
    have hP := acc_El (rows := rows ++ [G, .cells [.int .i64 N, .nilslice, .slice (rows.length + 2) 0 kp (.op 3)]]) (H := []) (cs := nums .i64 fp) (n := kp) (sz := 3) pcl (by omega)
    rw [h2] at hP
    have f := fin0 .nilslice (.slice (rows.length + 2) 0 kp (.op 3)) [.cells (y :: m2)] (by
     have : me = 0 := by rw [h1] at ecl; simp at ecl; omega
     rw [h1, this]; exact El_nil) (by rw [h2]; simpa using hP.1) trivial (by simpa using hP.2) (by simp [und0 h2]) (.inr rfl) (.inl ⟨_, rfl, by omega⟩)
    rw [h1] at c1
    rw [h2] at c2
    simp [G, Z] at c1 c2
    simp [AV.cells, one1, one2, maskE, c1, c2, seg, splice, fillA, lower_ge', drop_mapL, Nat.add_assoc, tb5]
    exact f
  ·rcases nil_or (l := nums .i64 fp) with h2 | ⟨y, m2, h2⟩
   ·have c2 := hc2 [G, Z, .cells (x :: m)] (rows ++ [G, Z, .cells (x :: m)]).length
    have c2d := hc2 [G, Z, .dead] (rows ++ [G, Z, .dead]).length
    have hE := acc_El (rows := rows ++ [G, .cells [.int .i64 N, .slice (rows.length + 2) 0 me (.op 2), .nilslice]]) (H := []) (cs := nums .i64 fe) (n := me) (sz := 2) ecl (by omega)
    rw [h1] at hE
    have f := fin0 (.slice (rows.length + 2) 0 me (.op 2)) .nilslice [.cells (x :: m)] (by rw [h1]; simpa using hE.1) (by
     have : kp = 0 := by rw [h2] at pcl; simp at pcl; omega
     rw [h2, this]; exact El_nil) (by simpa using hE.2) trivial (by simp [und0 h1]) (.inl ⟨_, rfl, by omega⟩) (.inr rfl)
    rw [h1] at c1
    rw [h2] at c2 c2d
    simp [G, Z] at c1 c2 c2d
    simp [AV.cells, one1, one2, maskE, c1, c2, c2d, seg, splice, fillA, lower_ge', drop_mapL, Nat.add_assoc, tb5]
    exact f
   ·have c2 := hc2 [G, Z, .cells (x :: m)] (rows ++ [G, Z, .cells (x :: m)]).length
    have c2d := hc2 [G, Z, .dead] (rows ++ [G, Z, .dead]).length
    have hE := acc_El (rows := rows ++ [G, .cells [.int .i64 N, .slice (rows.length + 2) 0 me (.op 2), .slice (rows.length + 3) 0 kp (.op 3)]]) (H := []) (cs := nums .i64 fe) (n := me) (sz := 2) ecl (by omega)
    have hP := acc_El (rows := rows ++ [G, .cells [.int .i64 N, .slice (rows.length + 2) 0 me (.op 2), .slice (rows.length + 3) 0 kp (.op 3)], .cells (x :: m)]) (H := []) (cs := nums .i64 fp) (n := kp) (sz := 3) pcl (by omega)
    rw [h1] at hE
    rw [h2] at hP
    have hE1 := El_app hE.1 [.cells (y :: m2)]
    have f := fin0 (.slice (rows.length + 2) 0 me (.op 2)) (.slice (rows.length + 3) 0 kp (.op 3)) [.cells (x :: m), .cells (y :: m2)] (by rw [h1]; simpa using hE1) (by rw [h2]; simpa using hP.1) (by simpa using hE.2) (by simpa using hP.2) (by simp [und0 h1, und0 h2]) (.inl ⟨_, rfl, by omega⟩) (.inl ⟨_, rfl, by omega⟩)
    rw [h1] at c1
    rw [h2] at c2 c2d
    simp [G, Z] at c1 c2 c2d
    simp [AV.cells, one1, one2, maskE, c1, c2, c2d, seg, splice, fillA, lower_ge', drop_mapL, Nat.add_assoc, tb5]
    exact f
 obtain ⟨n1, q, e, g', X, h1, h2, h3⟩ := main
 exact ⟨g', X, i17 F17 ⟨n1, q, e, h1⟩, h2, h3⟩
set_option maxHeartbeats 8000000 in
theorem own_ret {ev0 pv0 : AV} {fe0 fp0 : List Int} {m0 k0 : Nat} (he0 : El rows 2 ev0 (nums .i64 fe0) m0) (hp0 : El rows 3 pv0 (nums .i64 fp0) k0) (ce0 : Cp 2 ev0) (cp0 : Cp 3 pv0) (hme : me = min m0 11) (hkp : kp = min k0 7) (hfe : fe = fe0.take (me * 2)) (hfp : fp = fp0.take (kp * 3)) : ∃ g' X, Ret F 26 [.agg [.int .i64 N, ev0, pv0]] rows = some (g', rows ++ X, none) ∧ Und rows X ∧ DRd (rows ++ X) g' N fe me fp kp := by
 obtain ⟨ev, s1, he, ce, _, _⟩ := El_take he0 ce0 (k := me) (by omega)
 obtain ⟨pv, s2, hp, cp, _, _⟩ := El_take hp0 cp0 (k := kp) (by omega)
 have en1 : (nums .i64 fe0).take (me * 2) = nums .i64 fe := by rw [hfe]; simp [nums, List.map_take]
 have en2 : (nums .i64 fp0).take (kp * 3) = nums .i64 fp := by rw [hfp]; simp [nums, List.map_take]
 rw [en1] at he
 rw [en2] at hp
 have s1' : sliceV 2 ev0 none (some (.int .i64 (min (m0 : Int) 11))) none = some ev := by rw [show min (m0 : Int) 11 = ((me : Nat) : Int) from by omega]; exact s1
 have s2' : sliceV 3 pv0 none (some (.int .i64 (min (k0 : Int) 7))) none = some pv := by rw [show min (k0 : Int) 7 = ((kp : Nat) : Int) from by omega]; exact s2
 have l1 := fun L => lenW (El_app he0 L)
 have l2 := fun L => lenW (El_app hp0 L)
 have tb10 : Nat.testBit 524284 10 = true := by decide
 have tb0 : Nat.testBit 0 10 = false ∧ Nat.testBit 4096 10 = false ∧ Nat.testBit 16384 10 = false ∧ Nat.testBit 49152 10 = false ∧ Nat.testBit 114688 10 = false ∧ Nat.testBit 258048 10 = false := by decide
 have one1 := El_one he0
 have one2 := El_one hp0
 let G : Row := .cells [.int .i64 N, ev0, pv0]
 have uG : ∀ b, rows.length ≤ b → G.under b = true := fun b hb => und_mono (a := rows.length) (by
  have u1 := El_under he0
  have u2 := El_under hp0
  simp [G, Row.under, AV.under, AV.ids]
  exact ⟨by simpa [AV.under] using u1, by simpa [AV.under] using u2⟩) hb
 have ecl : (nums .i64 fe).length = me * 2 := by rw [nums_len', El_num_len he]
 have pcl : (nums .i64 fp).length = kp * 3 := by rw [nums_len', El_num_len hp]
 -- the result, by its parts
 have fin0 : ∀ (E P : AV) (T : List Row), El (rows ++ (G :: .cells [.int .i64 N, E, P] :: T)) 2 E (nums .i64 fe) me → El (rows ++ (G :: .cells [.int .i64 N, E, P] :: T)) 3 P (nums .i64 fp) kp → Cp 2 E → Cp 3 P → T.all (Row.under 0) = true →
   ((∃ x, E.ids = [x] ∧ rows.length ≤ x) ∨ E = .nilslice) → ((∃ x, P.ids = [x] ∧ rows.length ≤ x) ∨ P = .nilslice) →
   ∃ g' X, fin rows (.agg [.int .i64 N, E, P]) (rows ++ (G :: .cells [.int .i64 N, E, P] :: T)) rows.length = (g', rows ++ X, none) ∧ Und rows X ∧ DRd (rows ++ X) g' N fe me fp kp := by
  intro E P T hE hP cE cP hT iE iP
  have uE := El_under hE
  have uP := El_under hP
  have hU : Und rows (G :: .cells [.int .i64 N, E, P] :: T) := by
   intro y hy
   simp only [List.mem_cons] at hy
   rcases hy with hy | hy | hy
   ·subst hy; exact uG _ (by omega)
   ·subst hy
    simp only [List.length_append] at uE uP
    simp [Row.under, AV.under, AV.ids]
    exact ⟨by simpa [AV.under] using uE, by simpa [AV.under] using uP⟩
   ·exact und_mono (List.all_eq_true.1 hT y hy) (Nat.zero_le _)
  rcases fin_agg (rows := rows) (l := [.int .i64 N, E, P]) (X := G :: .cells [.int .i64 N, E, P] :: T) with hf | ⟨hf, hids⟩
  ·exact ⟨_, _, hf, hU, E, P, rfl, hE, hP, cE, cP⟩
  ·simp only [AV.ids, AV.ids.idsL, List.nil_append, List.all_append, Bool.and_eq_true, List.append_nil] at hids
   have k1 : E = .nilslice := by
    rcases iE with ⟨x, e, hx⟩ | e
    ·rw [e] at hids; simp at hids; omega
    ·exact e
   have k2 : P = .nilslice := by
    rcases iP with ⟨x, e, hx⟩ | e
    ·rw [e] at hids; simp at hids; omega
    ·exact e
   subst k1 k2
   have h1 := hE
   have h2 := hP
   rcases El_cases h1 with ⟨_, c1, n1⟩ | ⟨_, _, _, _, e, _⟩
   ·rcases El_cases h2 with ⟨_, c2, n2⟩ | ⟨_, _, _, _, e, _⟩
    ·refine ⟨_, [], by rw [List.append_nil]; exact hf, Und_nil, .nilslice, .nilslice, rfl, ?_, ?_, trivial, trivial⟩
     ·rw [c1, n1]; exact El_nil
     ·rw [c2, n2]; exact El_nil
    ·simp at e
   ·simp at e
 have hc1 : ∀ L, evE (rows ++ L) (rows ++ L).length (.app 2 16 (.c .nilslice) (.c ev)) = some (accV (rows ++ L) [] 2 (nums .i64 fe) me, rows ++ L ++ accR [] (nums .i64 fe), (rows ++ L).length) := fun L => app_copy (El_app he L) (by omega) (by omega)
 have hc2 : ∀ L low, evE (rows ++ L) low (.app 3 24 (.c .nilslice) (.c pv)) = some (accV (rows ++ L) [] 3 (nums .i64 fp) kp, rows ++ L ++ accR [] (nums .i64 fp), low) := fun L low => app_copy (El_app hp L) (by omega) (by omega)
 let Z : Row := .cells [.int .i64 0, .nilslice, .nilslice]
 have c1 := hc1 [G, Z]
 have und0 : ∀ {x : AV} {m : List AV} {l : List Int}, nums .i64 l = x :: m → (Row.cells (x :: m)).under 0 = true := fun e => by rw [← e]; exact nums_und
 let Q : AV × List Row × Nat → Prop := fun r => ∃ g' X, fin rows r.1 r.2.1 r.2.2 = (g', rows ++ X, none) ∧ Und rows X ∧ DRd (rows ++ X) g' N fe me fp kp
 have main : Ex F (.fn [.cellN 2 3]) [.code c26b] ⟨mk 26 [(0, .agg [.int .i64 N, ev0, pv0])], rows, rows.length⟩ Q := by
  rcases nil_or (l := nums .i64 fe) with h1 | ⟨x, m, h1⟩
  ·rcases nil_or (l := nums .i64 fp) with h2 | ⟨y, m2, h2⟩
   ·have c2 := hc2 [G, Z] (rows ++ [G, Z]).length
    have f := fin0 .nilslice .nilslice [] (by
     have : me = 0 := by rw [h1] at ecl; simp at ecl; omega
     rw [h1, this]; exact El_nil) (by
     have : kp = 0 := by rw [h2] at pcl; simp at pcl; omega
     rw [h2, this]; exact El_nil) trivial trivial rfl (.inr rfl) (.inr rfl)
    rw [h1] at c1
    rw [h2] at c2
    simp [G, Z] at c1 c2
    simp [AV.cells, one1, one2, maskE, c1, c2, seg, splice, fillA, lower_ge', drop_mapL, Nat.add_assoc, tb10, tb0, l1, l2, s1', s2']
    exact f
   ·have c2 := hc2 [G, Z] (rows ++ [G, Z]).length
    have hP := acc_El (rows := rows ++ [G, .cells [.int .i64 N, .nilslice, .slice (rows.length + 2) 0 kp (.op 3)]]) (H := []) (cs := nums .i64 fp) (n := kp) (sz := 3) pcl (by omega)
    rw [h2] at hP
    have f := fin0 .nilslice (.slice (rows.length + 2) 0 kp (.op 3)) [.cells (y :: m2)] (by
     have : me = 0 := by rw [h1] at ecl; simp at ecl; omega
     rw [h1, this]; exact El_nil) (by rw [h2]; simpa using hP.1) trivial (by simpa using hP.2) (by simp [und0 h2]) (.inr rfl) (.inl ⟨_, rfl, by omega⟩)
    rw [h1] at c1
    rw [h2] at c2
    simp [G, Z] at c1 c2
    simp [AV.cells, one1, one2, maskE, c1, c2, seg, splice, fillA, lower_ge', drop_mapL, Nat.add_assoc, tb10, tb0, l1, l2, s1', s2']
    exact f
  ·rcases nil_or (l := nums .i64 fp) with h2 | ⟨y, m2, h2⟩
   ·have c2 := hc2 [G, Z, .cells (x :: m)] (rows ++ [G, Z, .cells (x :: m)]).length
    have c2d := hc2 [G, Z, .dead] (rows ++ [G, Z, .dead]).length
    have hE := acc_El (rows := rows ++ [G, .cells [.int .i64 N, .slice (rows.length + 2) 0 me (.op 2), .nilslice]]) (H := []) (cs := nums .i64 fe) (n := me) (sz := 2) ecl (by omega)
    rw [h1] at hE
    have f := fin0 (.slice (rows.length + 2) 0 me (.op 2)) .nilslice [.cells (x :: m)] (by rw [h1]; simpa using hE.1) (by
     have : kp = 0 := by rw [h2] at pcl; simp at pcl; omega
     rw [h2, this]; exact El_nil) (by simpa using hE.2) trivial (by simp [und0 h1]) (.inl ⟨_, rfl, by omega⟩) (.inr rfl)
    rw [h1] at c1
    rw [h2] at c2 c2d
    simp [G, Z] at c1 c2 c2d
    simp [AV.cells, one1, one2, maskE, c1, c2, c2d, seg, splice, fillA, lower_ge', drop_mapL, Nat.add_assoc, tb10, tb0, l1, l2, s1', s2']
    exact f
   ·have c2 := hc2 [G, Z, .cells (x :: m)] (rows ++ [G, Z, .cells (x :: m)]).length
    have c2d := hc2 [G, Z, .dead] (rows ++ [G, Z, .dead]).length
    have hE := acc_El (rows := rows ++ [G, .cells [.int .i64 N, .slice (rows.length + 2) 0 me (.op 2), .slice (rows.length + 3) 0 kp (.op 3)]]) (H := []) (cs := nums .i64 fe) (n := me) (sz := 2) ecl (by omega)
    have hP := acc_El (rows := rows ++ [G, .cells [.int .i64 N, .slice (rows.length + 2) 0 me (.op 2), .slice (rows.length + 3) 0 kp (.op 3)], .cells (x :: m)]) (H := []) (cs := nums .i64 fp) (n := kp) (sz := 3) pcl (by omega)
    rw [h1] at hE
    rw [h2] at hP
    have hE1 := El_app hE.1 [.cells (y :: m2)]
    have f := fin0 (.slice (rows.length + 2) 0 me (.op 2)) (.slice (rows.length + 3) 0 kp (.op 3)) [.cells (x :: m), .cells (y :: m2)] (by rw [h1]; simpa using hE1) (by rw [h2]; simpa using hP.1) (by simpa using hE.2) (by simpa using hP.2) (by simp [und0 h1, und0 h2]) (.inl ⟨_, rfl, by omega⟩) (.inl ⟨_, rfl, by omega⟩)
    rw [h1] at c1
    rw [h2] at c2 c2d
    simp [G, Z] at c1 c2 c2d
    simp [AV.cells, one1, one2, maskE, c1, c2, c2d, seg, splice, fillA, lower_ge', drop_mapL, Nat.add_assoc, tb10, tb0, l1, l2, s1', s2']
    exact f
 obtain ⟨n1, q, e, g', X, h1, h2, h3⟩ := main
 exact ⟨g', X, i26 F26 ⟨n1, q, e, h1⟩, h2, h3⟩
end
end Go.Abs

namespace Go.Abs
section
variable {rows : List Row} {N : Int} {fe fp l : List Int} {me kp : Nat} {v g : AV}
theorem openD (T : List Row) {ev pv : AV} {f : Nat} {n : Int} (he : El rows 2 ev (nums .i64 fe) me) (hp : El rows 3 pv (nums .i64 fp) kp) (hm : me ≤ 11) (hk : kp ≤ 7) (h : IsL rows v l) (hl : l.length ≤ 1000)
  (hn : ∀ L, Ret F f [.agg [.int .i64 N, ev, pv]] (rows ++ L) = some (.int .i64 n, rows ++ L, none)) :
  Ret F 66 [.agg [.int .i64 N, ev, pv], v, .iface bd (.agg [.int .u64 f, .agg [.int .i64 N, ev, pv]])] (rows ++ .cells [.int .i64 N, ev, pv] :: T) = some (.int .i64 (opn (gndB N fe me fp kp) n l), rows ++ .cells [.int .i64 N, ev, pv] :: T, none) :=
 open_ret (El_app he _) (by omega) (El_app hp _) (by omega) (IsL_app h _) (by omega) (fun L => by rw [List.append_assoc]; exact hn _)
set_option maxHeartbeats 4000000 in
theorem err_22 (hd : DRd rows g N fe me fp kp) (hm : me ≤ 11) (hk : kp ≤ 7) (h : IsL rows v l) (hl : l.length ≤ 1000) (hne : opn (gndB N fe me fp kp) (me : Int) l ≠ 0) : Ret F 22 [g, v] rows = some (.tup [.nilslice, .int .i64 (opn (gndB N fe me fp kp) (me : Int) l)], rows, none) := by
 obtain ⟨ev, pv, rfl, he, hp, _, _⟩ := hd
 have o1 := El_one he
 have o2 := El_one hp
 have ho := openD [] (N := N) (f := 67) (n := (me : Int)) he hp hm hk h hl (fun L => edges_ret (El_app he L) rfl o2)
 generalize opn (gndB N fe me fp kp) (me : Int) l = e at *
 rw [show ((67 : Nat) : Int) = 67 from rfl] at ho
 refine i22 F22 ?_
 simp [o1, o2, seg, ho, hne, splice, fillA]
set_option maxHeartbeats 4000000 in
theorem err_40 (hd : DRd rows g N fe me fp kp) (hm : me ≤ 11) (hk : kp ≤ 7) (h : IsL rows v l) (hl : l.length ≤ 1000) (hne : opn (gndB N fe me fp kp) (me : Int) l ≠ 0) : Ret F 40 [g, v] rows = some (.tup [.nilslice, .int .i64 (opn (gndB N fe me fp kp) (me : Int) l)], rows, none) := by
 obtain ⟨ev, pv, rfl, he, hp, _, _⟩ := hd
 have o1 := El_one he
 have o2 := El_one hp
 have o3 := El_one h
 have hvc : v.cells = [v] := by cases v <;> simp_all [AV.one, AV.cells]
 have rv : row? (rows ++ [.cells [.int .i64 N, ev, pv], .cells [v]]) (rows.length + 1) = some [v] := by simp [row?]
 have rg : row? (rows ++ [.cells [.int .i64 N, ev, pv], .cells [v]]) rows.length = some [.int .i64 N, ev, pv] := by simp [row?]
 have ho := openD [.cells [v]] (N := N) (f := 67) (n := (me : Int)) he hp hm hk h hl (fun L => edges_ret (El_app he L) rfl o2)
 generalize opn (gndB N fe me fp kp) (me : Int) l = e at *
 rw [show ((67 : Nat) : Int) = 67 from rfl] at ho
 refine i40 F40 ?_
 simp [hvc, o3, rv, rg, o1, o2, seg, ho, hne, splice, fillA]
set_option maxHeartbeats 4000000 in
theorem err_33 (hd : DRd rows g N fe me fp kp) (hm : me ≤ 11) (hk : kp ≤ 7) (h : IsL rows v l) (hl : l.length ≤ 1000) (hne : opn (gndB N fe me fp kp) N l ≠ 0) : Ret F 33 [g, v] rows = some (.tup [.nilslice, .int .i64 (opn (gndB N fe me fp kp) N l)], rows, none) := by
 obtain ⟨ev, pv, rfl, he, hp, _, _⟩ := hd
 have o1 := El_one he
 have o2 := El_one hp
 have ho := openD [] (N := N) (f := 74) (n := N) he hp hm hk h hl (fun L => places_ret o1 o2)
 generalize opn (gndB N fe me fp kp) N l = e at *
 rw [show ((74 : Nat) : Int) = 74 from rfl] at ho
 refine i33 F33 ?_
 simp [o1, o2, seg, ho, hne, splice, fillA]
set_option maxHeartbeats 4000000 in
theorem err_38 (hd : DRd rows g N fe me fp kp) (hm : me ≤ 11) (hk : kp ≤ 7) (h : IsL rows v l) (hl : l.length ≤ 1000) (hne : opn (gndB N fe me fp kp) (kp : Int) l ≠ 0) : Ret F 38 [g, v] rows = some (.tup [.nilslice, .int .i64 (opn (gndB N fe me fp kp) (kp : Int) l)], rows, none) := by
 obtain ⟨ev, pv, rfl, he, hp, _, _⟩ := hd
 have o1 := El_one he
 have o2 := El_one hp
 have ho := openD [] (N := N) (f := 77) (n := (kp : Int)) he hp hm hk h hl (fun L => plates_ret (El_app hp L) rfl o1)
 generalize opn (gndB N fe me fp kp) (kp : Int) l = e at *
 rw [show ((77 : Nat) : Int) = 77 from rfl] at ho
 refine i38 F38 ?_
 simp [o1, o2, seg, ho, hne, splice, fillA]
set_option maxHeartbeats 4000000 in
theorem err_24 (hd : DRd rows g N fe me fp kp) (hm : me ≤ 11) (hk : kp ≤ 7) (h : IsL rows v l) (hl : l.length ≤ 1000) (hne : opn (gndB N fe me fp kp) (me : Int) l ≠ 0) : Ret F 24 [g, v] rows = some (.tup [.nilslice, .int .i64 (opn (gndB N fe me fp kp) (me : Int) l)], rows, none) := by
 obtain ⟨ev, pv, rfl, he, hp, _, _⟩ := hd
 have o1 := El_one he
 have o2 := El_one hp
 have ho := openD [] (N := N) (f := 67) (n := (me : Int)) he hp hm hk h hl (fun L => edges_ret (El_app he L) rfl o2)
 generalize opn (gndB N fe me fp kp) (me : Int) l = e at *
 rw [show ((67 : Nat) : Int) = 67 from rfl] at ho
 refine i24 F24 ?_
 simp [o1, o2, seg, ho, hne, splice, fillA]
set_option maxHeartbeats 4000000 in
theorem err_41 (hd : DRd rows g N fe me fp kp) (hm : me ≤ 11) (hk : kp ≤ 7) (h : IsL rows v l) (hl : l.length ≤ 1000) (hne : opn (gndB N fe me fp kp) (me : Int) l ≠ 0) : Ret F 41 [g, v] rows = some (.tup [.nilslice, .bool false, .int .i64 (opn (gndB N fe me fp kp) (me : Int) l)], rows, none) := by
 obtain ⟨ev, pv, rfl, he, hp, _, _⟩ := hd
 have o1 := El_one he
 have o2 := El_one hp
 have ho := openD [] (N := N) (f := 67) (n := (me : Int)) he hp hm hk h hl (fun L => edges_ret (El_app he L) rfl o2)
 generalize opn (gndB N fe me fp kp) (me : Int) l = e at *
 rw [show ((67 : Nat) : Int) = 67 from rfl] at ho
 refine i41 F41 ?_
 simp [o1, o2, seg, ho, hne, splice, fillA]
set_option maxHeartbeats 4000000 in
theorem err_47 (hd : DRd rows g N fe me fp kp) (hm : me ≤ 11) (hk : kp ≤ 7) (h : IsL rows v l) (hl : l.length ≤ 1000) (hne : opn (gndB N fe me fp kp) (me : Int) l ≠ 0) : Ret F 47 [g, v] rows = some (.tup [.nilslice, .bool false, .int .i64 (opn (gndB N fe me fp kp) (me : Int) l)], rows, none) := by
 obtain ⟨ev, pv, rfl, he, hp, _, _⟩ := hd
 have o1 := El_one he
 have o2 := El_one hp
 have ho := openD [] (N := N) (f := 67) (n := (me : Int)) he hp hm hk h hl (fun L => edges_ret (El_app he L) rfl o2)
 generalize opn (gndB N fe me fp kp) (me : Int) l = e at *
 rw [show ((67 : Nat) : Int) = 67 from rfl] at ho
 refine i47 F47 ?_
 simp [o1, o2, seg, ho, hne, splice, fillA]
set_option maxHeartbeats 4000000 in
theorem err_36 {rv : AV} (hd : DRd rows g N fe me fp kp) (hm : me ≤ 11) (hk : kp ≤ 7) (h : IsL rows v l) (hl : l.length ≤ 1000) (hne : opn (gndB N fe me fp kp) (me : Int) l ≠ 0) : Ret F 36 [g, v, rv] rows = some (.tup [.int .i64 0, .bool false, .int .i64 (opn (gndB N fe me fp kp) (me : Int) l)], rows, none) := by
 obtain ⟨ev, pv, rfl, he, hp, _, _⟩ := hd
 have o1 := El_one he
 have o2 := El_one hp
 have ho := openD [] (N := N) (f := 67) (n := (me : Int)) he hp hm hk h hl (fun L => edges_ret (El_app he L) rfl o2)
 generalize opn (gndB N fe me fp kp) (me : Int) l = e at *
 rw [show ((67 : Nat) : Int) = 67 from rfl] at ho
 refine i36 F36 ?_
 simp [o1, o2, seg, ho, hne, splice, fillA]
set_option maxHeartbeats 4000000 in
theorem err_23 (hd : DRd rows g N fe me fp kp) (hm : me ≤ 11) (hk : kp ≤ 7) (h : IsL rows v l) (hl : l.length ≤ 1000) (hne : opn (gndB N fe me fp kp) (me : Int) l ≠ 0) : Ret F 23 [g, v] rows = some (.tup [.agg [.nilslice, .nilslice, .nilslice], .int .i64 (opn (gndB N fe me fp kp) (me : Int) l)], rows, none) := by
 obtain ⟨ev, pv, rfl, he, hp, _, _⟩ := hd
 have o1 := El_one he
 have o2 := El_one hp
 have ho := openD [.cells [.nilslice, .nilslice, .nilslice]] (N := N) (f := 67) (n := (me : Int)) he hp hm hk h hl (fun L => edges_ret (El_app he L) rfl o2)
 generalize opn (gndB N fe me fp kp) (me : Int) l = e at *
 rw [show ((67 : Nat) : Int) = 67 from rfl] at ho
 refine i23 F23 ?_
 simp [o1, o2, seg, ho, hne, splice, fillA]
set_option maxHeartbeats 4000000 in
theorem err_44 (hd : DRd rows g N fe me fp kp) (hm : me ≤ 11) (hk : kp ≤ 7) (h : IsL rows v l) (hl : l.length ≤ 1000) (hne : opn (gndB N fe me fp kp) (me : Int) l ≠ 0) : Ret F 44 [g, v] rows = some (.tup [.agg [.int .i64 0, .int .i64 0, .int .i64 0, .int .i64 0, .int .i64 0, .int .i64 0, .int .i64 0, .int .i64 0], .int .i64 (opn (gndB N fe me fp kp) (me : Int) l)], rows, none) := by
 obtain ⟨ev, pv, rfl, he, hp, _, _⟩ := hd
 have o1 := El_one he
 have o2 := El_one hp
 have ho := openD [.cells [.int .i64 0, .int .i64 0, .int .i64 0, .int .i64 0, .int .i64 0, .int .i64 0, .int .i64 0, .int .i64 0]] (N := N) (f := 67) (n := (me : Int)) he hp hm hk h hl (fun L => edges_ret (El_app he L) rfl o2)
 generalize opn (gndB N fe me fp kp) (me : Int) l = e at *
 rw [show ((67 : Nat) : Int) = 67 from rfl] at ho
 refine i44 F44 ?_
 simp [o1, o2, seg, ho, hne, splice, fillA]
set_option maxHeartbeats 4000000 in
theorem err_51 (hd : DRd rows g N fe me fp kp) (hm : me ≤ 11) (hk : kp ≤ 7) (h : IsL rows v l) (hl : l.length ≤ 1000) (hne : opn (gndB N fe me fp kp) (me : Int) l ≠ 0) : Ret F 51 [g, v] rows = some (.tup [.bool false, .int .i64 (opn (gndB N fe me fp kp) (me : Int) l)], rows, none) := by
 obtain ⟨ev, pv, rfl, he, hp, c1, c2⟩ := hd
 have o1 := El_one he
 have o2 := El_one hp
 have h22 := err_22 (rows := rows ++ [.cells [.int .i64 N, ev, pv]]) (g := .agg [.int .i64 N, ev, pv]) (N := N) ⟨ev, pv, rfl, El_app he _, El_app hp _, c1, c2⟩ hm hk (IsL_app h _) hl hne
 generalize opn (gndB N fe me fp kp) (me : Int) l = e at *
 refine i51 F51 ?_
 simp [o1, o2, seg, h22, hne]
set_option maxHeartbeats 4000000 in
theorem err_16 (hd : DRd rows g N fe me fp kp) (hm : me ≤ 11) (hk : kp ≤ 7) (hb : gndB N fe me fp kp = false) : Ret F 16 [g] rows = some (.tup [.int .i64 0, .int .i64 30], rows, none) := by
 obtain ⟨ev, pv, rfl, he, hp, c1, c2⟩ := hd
 have o1 := El_one he
 have o2 := El_one hp
 have hC := Check_ret (N := N) (El_app he [.cells [.int .i64 N, ev, pv]]) (by omega) (El_app hp [.cells [.int .i64 N, ev, pv]]) (by omega)
 rw [hb] at hC
 refine i16 F16 ?_
 simp [o1, o2, seg, hC]
set_option maxHeartbeats 4000000 in
theorem err_50 (hd : DRd rows g N fe me fp kp) (hm : me ≤ 11) (hk : kp ≤ 7) (hb : gndB N fe me fp kp = false) : Ret F 50 [g] rows = some (.tup [.int .i64 0, .int .i64 30], rows, none) := by
 obtain ⟨ev, pv, rfl, he, hp, c1, c2⟩ := hd
 have o1 := El_one he
 have o2 := El_one hp
 have hC := Check_ret (N := N) (El_app he [.cells [.int .i64 N, ev, pv]]) (by omega) (El_app hp [.cells [.int .i64 N, ev, pv]]) (by omega)
 rw [hb] at hC
 refine i50 F50 ?_
 simp [o1, o2, seg, hC]
end
end Go.Abs

namespace Go.Abs
theorem gI_ext {l m : List Int} (h : l.length = m.length) (hi : ∀ i, i < l.length → gI l i = gI m i) : l = m := by
 apply List.ext_getElem h
 intro i h1 h2
 rw [← gI_eq h1, ← gI_eq h2]
 exact hi i h1
theorem eAll_get {N : Int} {fl : List Int} : ∀ d i, eAll N fl d i = true → ∀ j, i ≤ j → j < i + d → eok N fl j = true
 | 0, i, _, j, h1, h2 => by omega
 |
  d + 1, i, h, j, h1, h2 => by
  rw [eAll, Bool.and_eq_true] at h
  by_cases c : j = i
  ·subst c; exact h.1
  ·exact eAll_get d (i + 1) h.2 j (by omega) (by omega)
theorem pAll_get {fe fl : List Int} {m : Nat} : ∀ d i, pAll fe fl m d i = true → ∀ j, i ≤ j → j < i + d → pok fe fl m j = true
 | 0, i, _, j, h1, h2 => by omega
 |
  d + 1, i, h, j, h1, h2 => by
  rw [pAll, Bool.and_eq_true] at h
  by_cases c : j = i
  ·subst c; exact h.1
  ·exact pAll_get d (i + 1) h.2 j (by omega) (by omega)
theorem rises {f : Nat → Nat} {n : Nat} (h : ∀ i, 0 < i → i < n → f (i - 1) < f i) : ((List.range n).map f).Pairwise (· < ·) := by
 rw [List.pairwise_iff_getElem]
 have : ∀ d i, i + d + 1 < n → f i < f (i + d + 1) := by
  intro d
  induction d with
  |
   zero =>
   intro i hi
   have := h (i + 1) (by omega) hi
   simpa using this
  |
   succ d ih =>
   intro i hi
   have h1 := ih i (by omega)
   have h2 := h (i + (d + 1) + 1) (by omega) hi
   rw [show i + (d + 1) + 1 - 1 = i + d + 1 from by omega] at h2
   omega
 intro i j hi hj hij
 simp only [List.length_map, List.length_range] at hi hj
 simp only [List.getElem_map, List.getElem_range]
 have := this (j - i - 1) i (by omega)
 rwa [show i + (j - i - 1) + 1 = j from by omega] at this
theorem gN_map {f : Nat → Nat} {n i : Nat} (hi : i < n) : gN ((List.range n).map f) i = f i := by
 rw [gN_eq (by simpa using hi)]
 simp
theorem gnd_ok {N : Int} {fe fp : List Int} {m k : Nat} (h : gndB N fe m fp k = true) (hm : fe.length = m * 2) (hk : fp.length = k * 3) : ∃ n ks ps, N = ((n : Nat) : Int) ∧ fe = eC ks ∧ m = ks.length ∧ fp = pC ps ∧ k = ps.length ∧ GOK n ks ps := by
 unfold gndB at h
 rw [Bool.and_eq_true, Bool.and_eq_true, decide_eq_true_eq] at h
 obtain ⟨⟨n1, n6, m10, k6⟩, hE, hP⟩ := h
 have e0 : ∀ i, i < m → 0 ≤ gI fe (i * 2) ∧ gI fe (i * 2) < gI fe (i * 2 + 1) ∧ gI fe (i * 2 + 1) < N ∧ (0 < i → cmpL [gI fe ((i - 1) * 2), gI fe ((i - 1) * 2 + 1)] [gI fe (i * 2), gI fe (i * 2 + 1)] < 0) := fun i hi => of_decide_eq_true (eAll_get m 0 hE i (Nat.zero_le _) (by omega))
 have p0 : ∀ i, i < k → gI fp (i * 3) < gI fp (i * 3 + 1) ∧ gI fp (i * 3 + 1) < gI fp (i * 3 + 2) ∧ (0 < i → cmpL [gI fp ((i - 1) * 3), gI fp ((i - 1) * 3 + 1), gI fp ((i - 1) * 3 + 2)] [gI fp (i * 3), gI fp (i * 3 + 1), gI fp (i * 3 + 2)] < 0) ∧
   0 ≤ pix fe (gI fp (i * 3)) (gI fp (i * 3 + 1)) m 0 ∧ 0 ≤ pix fe (gI fp (i * 3)) (gI fp (i * 3 + 2)) m 0 ∧ 0 ≤ pix fe (gI fp (i * 3 + 1)) (gI fp (i * 3 + 2)) m 0 := fun i hi => of_decide_eq_true (pAll_get k 0 hP i (Nat.zero_le _) (by omega))
 let F1 : Nat → Nat := fun i => (gI fe (i * 2)).toNat * 6 + (gI fe (i * 2 + 1)).toNat
 let F2 : Nat → Nat := fun i => (gI fp (i * 3)).toNat * 36 + (gI fp (i * 3 + 1)).toNat * 6 + (gI fp (i * 3 + 2)).toNat
 have f1 : ∀ i, i < m → F1 i / 6 = (gI fe (i * 2)).toNat ∧ F1 i % 6 = (gI fe (i * 2 + 1)).toNat := fun i hi => by
  have := e0 i hi
  show ((gI fe (i * 2)).toNat * 6 + (gI fe (i * 2 + 1)).toNat) / 6 = _ ∧ ((gI fe (i * 2)).toNat * 6 + (gI fe (i * 2 + 1)).toNat) % 6 = _
  omega
 have hfe : fe = eC ((List.range m).map F1) := by
  refine gI_ext (by rw [eC_len, hm]; simp) fun i hi => ?_
  have him : i / 2 < m := by omega
  obtain ⟨a1, a2⟩ := eC_a (ks := (List.range m).map F1) (i := i / 2) (by simpa using him)
  rw [gN_map him] at a1 a2
  obtain ⟨b1, b2⟩ := f1 (i / 2) him
  have := e0 (i / 2) him
  rcases Nat.mod_two_eq_zero_or_one i with c | c
  ·rw [show i / 2 * 2 = i from by omega] at *
   rw [a1, b1]
   omega
  ·rw [show i / 2 * 2 + 1 = i from by omega] at *
   rw [a2, b2]
   omega
 have hin : ∀ a b : Int, 0 ≤ pix fe a b m 0 → ∃ j, j < m ∧ gI fe (j * 2) = a ∧ gI fe (j * 2 + 1) = b := fun a b h => by
  obtain ⟨j, _, _, h2, h3, h4⟩ := pix_hit _ _ h
  exact ⟨j, by omega, h3, h4⟩
 have hmem : ∀ a b : Int, 0 ≤ pix fe a b m 0 → 0 ≤ a ∧ a < b ∧ b < N ∧ a.toNat * 6 + b.toNat ∈ (List.range m).map F1 := fun a b h => by
  obtain ⟨j, hj, rfl, rfl⟩ := hin a b h
  have := e0 j hj
  exact ⟨by omega, by omega, by omega, List.mem_map.2 ⟨j, List.mem_range.2 hj, rfl⟩⟩
 have pb : ∀ i, i < k → 0 ≤ gI fp (i * 3) ∧ gI fp (i * 3 + 2) < 6 := fun i hi => by
  have q := p0 i hi
  have q1 := hmem _ _ q.2.2.2.1
  have q2 := hmem _ _ q.2.2.2.2.1
  omega
 have f2 : ∀ i, i < k → F2 i / 36 = (gI fp (i * 3)).toNat ∧ F2 i / 6 % 6 = (gI fp (i * 3 + 1)).toNat ∧ F2 i % 6 = (gI fp (i * 3 + 2)).toNat := fun i hi => by
  have q := p0 i hi
  have q1 := pb i hi
  show ((gI fp (i * 3)).toNat * 36 + (gI fp (i * 3 + 1)).toNat * 6 + (gI fp (i * 3 + 2)).toNat) / 36 = _ ∧ ((gI fp (i * 3)).toNat * 36 + (gI fp (i * 3 + 1)).toNat * 6 + (gI fp (i * 3 + 2)).toNat) / 6 % 6 = _ ∧ ((gI fp (i * 3)).toNat * 36 + (gI fp (i * 3 + 1)).toNat * 6 + (gI fp (i * 3 + 2)).toNat) % 6 = _
  omega
 have hfp : fp = pC ((List.range k).map F2) := by
  refine gI_ext (by rw [pC_len, hk]; simp) fun i hi => ?_
  have him : i / 3 < k := by omega
  obtain ⟨a1, a2, a3⟩ := pC_a (ps := (List.range k).map F2) (i := i / 3) (by simpa using him)
  rw [gN_map him] at a1 a2 a3
  obtain ⟨b1, b2, b3⟩ := f2 (i / 3) him
  have := p0 (i / 3) him
  have := pb (i / 3) him
  rcases (show i % 3 = 0 ∨ i % 3 = 1 ∨ i % 3 = 2 by omega) with c | c | c
  ·rw [show i / 3 * 3 = i from by omega] at *
   rw [a1, b1]
   omega
  ·rw [show i / 3 * 3 + 1 = i from by omega] at *
   rw [a2, b2]
   omega
  ·rw [show i / 3 * 3 + 2 = i from by omega] at *
   rw [a3, b3]
   omega
 refine ⟨N.toNat, (List.range m).map F1, (List.range k).map F2, by omega, hfe, by simp, hfp, by simp, by omega, by omega, by simpa using m10, ?_, ?_, by simpa using k6, ?_, ?_⟩
 ·refine rises fun i h0 hi => ?_
  have q := e0 i hi
  have q' := e0 (i - 1) (by omega)
  have c := cmpL2_iff.1 (q.2.2.2 h0)
  show (gI fe ((i - 1) * 2)).toNat * 6 + (gI fe ((i - 1) * 2 + 1)).toNat < (gI fe (i * 2)).toNat * 6 + (gI fe (i * 2 + 1)).toNat
  omega
 ·intro x hx
  obtain ⟨i, hi, rfl⟩ := List.mem_map.1 hx
  have hi := List.mem_range.1 hi
  obtain ⟨b1, b2⟩ := f1 i hi
  have := e0 i hi
  rw [b1, b2]
  omega
 ·refine rises fun i h0 hi => ?_
  have q := p0 i hi
  have q' := p0 (i - 1) (by omega)
  have r := pb i hi
  have r' := pb (i - 1) (by omega)
  have c := bef_iff.1 (q.2.2.1 h0)
  show (gI fp ((i - 1) * 3)).toNat * 36 + (gI fp ((i - 1) * 3 + 1)).toNat * 6 + (gI fp ((i - 1) * 3 + 2)).toNat < (gI fp (i * 3)).toNat * 36 + (gI fp (i * 3 + 1)).toNat * 6 + (gI fp (i * 3 + 2)).toNat
  unfold bef at c
  split at c
  ·have := of_decide_eq_true c; omega
  ·split at c
   ·have := of_decide_eq_true c; omega
   ·split at c
    ·have := of_decide_eq_true c; omega
    ·simp at c
 ·intro x hx
  obtain ⟨i, hi, rfl⟩ := List.mem_map.1 hx
  have hi := List.mem_range.1 hi
  obtain ⟨b1, b2, b3⟩ := f2 i hi
  have q := p0 i hi
  have r := pb i hi
  have q1 := hmem _ _ q.2.2.2.1
  have q2 := hmem _ _ q.2.2.2.2.1
  have q3 := hmem _ _ q.2.2.2.2.2
  refine ⟨by omega, by omega, ?_, ?_, ?_, ?_⟩
  ·show (gI fp (i * 3)).toNat * 36 + (gI fp (i * 3 + 1)).toNat * 6 + (gI fp (i * 3 + 2)).toNat < 216
   omega
  ·rw [b1, b2]; exact q1.2.2.2
  ·rw [b1, b3]; exact q2.2.2.2
  ·rw [b2, b3]; exact q3.2.2.2
end Go.Abs

namespace Go.Abs
theorem newW_shape (rows : List Row) (l : List Int) : ∃ v K, newW rows 1 (nums .i64 l) l.length = (v, rows ++ K, none) ∧ IsL (rows ++ K) v l ∧ Cp 1 v ∧ K.all (Row.under 0) = true := by
 have h := acc_El (rows := rows) (H := []) (cs := nums .i64 l) (n := l.length) (sz := 1) (by simp [nums]) (by omega)
 exact ⟨_, _, rfl, h.1, h.2, acc_und rfl nums_und⟩
section
variable {rows : List Row}
theorem Und_one {X : List Row} {vs : List AV} (h : Und rows X) (hv : (Row.cells vs).under (rows.length + X.length + 1) = true) : Und rows (X ++ [.cells vs]) := Und_app h (fun y hy => by
 simp only [List.mem_singleton] at hy
 subst hy
 simpa using hv)
theorem agg_under {N : Int} {ev pv : AV} {b : Nat} (h1 : ev.under b = true) (h2 : pv.under b = true) : (Row.cells [.int .i64 N, ev, pv]).under b = true := by
 simp [Row.under, AV.under, AV.ids]
 exact ⟨by simpa [AV.under] using h1, by simpa [AV.under] using h2⟩
theorem under_mono {v : AV} {a b : Nat} (h : v.under a = true) (hab : a ≤ b) : v.under b = true := by
 have := und_mono (y := .cells [v]) (a := a) (b := b) (by simpa [Row.under] using h) hab
 simpa [Row.under] using this
end
end Go.Abs

set_option maxRecDepth 20000
set_option maxHeartbeats 4000000
namespace Go.Abs
variable {F : Nat → Option IFn} {cx : Ctx} {k : List Itm} {s : St} {l : List (Nat × AV)} {rows : List Row} {low : Nat} {r : AV × List Row × Nat → Prop}
def c14r0 : List Seg := [
 zm 212 19,
 zm 213 8,
 zo 214 (.bin .eql (.t 212) (.t 213)),
 zm 215 214,
 .one ⟨some 216, .mv (.t 21), some (215, true)⟩,
 .one ⟨some 217, .mv (.t 8), some (215, true)⟩,
 .one ⟨some 218, .bin .eql (.t 216) (.t 217), some (215, true)⟩,
 zo 219 (.pick (.t 215) (.t 218) (.c (.bool false))),
 zm 220 219,
 .one ⟨some 221, .mv (.t 24), some (220, true)⟩,
 .one ⟨some 222, .mv (.t 8), some (220, true)⟩,
 .one ⟨some 223, .bin .eql (.t 221) (.t 222), some (220, true)⟩,
 zo 224 (.pick (.t 220) (.t 223) (.c (.bool false))),
 zm 225 224,
 .one ⟨some 226, .mv (.t 27), some (225, true)⟩,
 .one ⟨some 227, .mv (.t 8), some (225, true)⟩,
 .one ⟨some 228, .bin .eql (.t 226) (.t 227), some (225, true)⟩,
 zo 229 (.pick (.t 225) (.t 228) (.c (.bool false))),
 zm 230 229,
 .one ⟨some 231, .mv (.t 30), some (230, true)⟩,
 .one ⟨some 232, .mv (.t 8), some (230, true)⟩,
 .one ⟨some 233, .bin .eql (.t 231) (.t 232), some (230, true)⟩,
 zo 234 (.pick (.t 230) (.t 233) (.c (.bool false))),
 zm 235 234,
 .one ⟨some 236, .mv (.t 32), some (235, true)⟩,
 .one ⟨some 237, .mv (.t 8), some (235, true)⟩,
 .one ⟨some 238, .bin .eql (.t 236) (.t 237), some (235, true)⟩,
 zo 239 (.pick (.t 235) (.t 238) (.c (.bool false))),
 zm 240 239,
 .one ⟨some 241, .mv (.t 34), some (240, true)⟩,
 .one ⟨some 242, .mv (.t 8), some (240, true)⟩,
 .one ⟨some 243, .bin .eql (.t 241) (.t 242), some (240, true)⟩,
 zo 244 (.pick (.t 240) (.t 243) (.c (.bool false))),
 zm 245 244,
 .one ⟨some 246, .mv (.t 36), some (245, true)⟩,
 .one ⟨some 247, .mv (.t 8), some (245, true)⟩,
 .one ⟨some 248, .bin .eql (.t 246) (.t 247), some (245, true)⟩,
 zo 249 (.pick (.t 245) (.t 248) (.c (.bool false))),
 zm 250 249,
 .one ⟨some 251, .mv (.t 38), some (250, true)⟩,
 .one ⟨some 252, .mv (.t 8), some (250, true)⟩,
 .one ⟨some 253, .bin .eql (.t 251) (.t 252), some (250, true)⟩,
 zo 254 (.pick (.t 250) (.t 253) (.c (.bool false))),
 zm 255 254,
 .one ⟨some 256, .mv (.t 23), some (255, true)⟩,
 .one ⟨some 257, .un .not (.t 256), some (255, true)⟩,
 zo 258 (.pick (.t 255) (.t 257) (.c (.bool false))),
 zm 259 258,
 .one ⟨some 260, .mv (.t 26), some (259, true)⟩,
 .one ⟨some 261, .un .not (.t 260), some (259, true)⟩,
 zo 262 (.pick (.t 259) (.t 261) (.c (.bool false))),
 zm 263 262,
 .one ⟨some 264, .mv (.t 29), some (263, true)⟩,
 .one ⟨some 265, .un .not (.t 264), some (263, true)⟩,
 zo 266 (.pick (.t 263) (.t 265) (.c (.bool false))),
 zm 267 266,
 .one ⟨some 268, .mv (.t 37), some (267, true)⟩,
 .one ⟨some 269, .un .not (.t 268), some (267, true)⟩,
 zo 270 (.pick (.t 267) (.t 269) (.c (.bool false))),
 zm 271 270,
 .one ⟨some 272, .mv (.t 28), some (271, true)⟩,
 .one ⟨some 273, .bin .eql (.t 272) (.c (.int .i64 0)), some (271, true)⟩,
 zo 274 (.pick (.t 271) (.t 273) (.c (.bool false))),
 zm 275 274,
 .one ⟨some 276, .mv (.t 18), some (275, true)⟩,
 .one ⟨some 277, .len 0 (.t 276), some (275, true)⟩,
 .one ⟨some 278, .mv (.t 20), some (275, true)⟩,
 .one ⟨some 279, .len 0 (.t 278), some (275, true)⟩,
 .one ⟨some 280, .bin .add (.t 277) (.t 279), some (275, true)⟩,
 .one ⟨some 281, .mv (.t 22), some (275, true)⟩,
 .one ⟨some 282, .len 0 (.t 281), some (275, true)⟩,
 .one ⟨some 283, .bin .add (.t 280) (.t 282), some (275, true)⟩,
 .one ⟨some 284, .mv (.t 25), some (275, true)⟩,
 .one ⟨some 285, .len 0 (.t 284), some (275, true)⟩,
 .one ⟨some 286, .bin .add (.t 283) (.t 285), some (275, true)⟩,
 .one ⟨some 287, .idxA 3 1 (.t 31) (.c (.int .i64 0)), some (275, true)⟩,
 .one ⟨some 288, .load1 (.t 287), some (275, true)⟩,
 .one ⟨some 289, .len 0 (.t 288), some (275, true)⟩,
 .one ⟨some 290, .bin .add (.t 286) (.t 289), some (275, true)⟩,
 .one ⟨some 291, .idxA 3 1 (.t 31) (.c (.int .i64 1)), some (275, true)⟩,
 .one ⟨some 292, .load1 (.t 291), some (275, true)⟩,
 .one ⟨some 293, .len 0 (.t 292), some (275, true)⟩,
 .one ⟨some 294, .bin .add (.t 290) (.t 293), some (275, true)⟩,
 .one ⟨some 295, .idxA 3 1 (.t 31) (.c (.int .i64 2)), some (275, true)⟩,
 .one ⟨some 296, .load1 (.t 295), some (275, true)⟩,
 .one ⟨some 297, .len 0 (.t 296), some (275, true)⟩,
 .one ⟨some 298, .bin .add (.t 294) (.t 297), some (275, true)⟩,
 .one ⟨some 299, .mv (.t 33), some (275, true)⟩,
 .one ⟨some 300, .len 0 (.t 299), some (275, true)⟩,
 .one ⟨some 301, .bin .add (.t 298) (.t 300), some (275, true)⟩,
 .one ⟨some 302, .bin .eql (.t 301) (.c (.int .i64 0)), some (275, true)⟩,
 zo 303 (.pick (.t 275) (.t 302) (.c (.bool false))),
 zm 304 303,
 .one ⟨some 305, .loadN 8 (.t 35), some (304, true)⟩,
 .one ⟨some 306, .mkagg [.int .i64 0, .int .i64 0, .int .i64 0, .int .i64 0, .int .i64 0, .int .i64 0, .int .i64 0, .int .i64 0] [], some (304, true)⟩,
 .one ⟨some 307, .eqv false (.ints 8) (.t 305) (.t 306), some (304, true)⟩,
 zo 308 (.pick (.t 304) (.t 307) (.c (.bool false))),
 zm 309 308,
 .one ⟨some 310, .call [] (.c (.func 19 [])) [], some (309, true)⟩,
 zo 311 (.pick (.t 309) (.t 310) (.c (.bool false))),
 zm 4 311]
def c14k0 : ICode := .kill 312 [8, 18, 19, 20, 21, 22, 23, 24, 25, 26, 27, 28, 29, 30, 31, 32, 33, 34, 35, 36, 37, 38] (.ops c14r0)
@[simp] theorem uc14k0 : Ex F cx (.code c14k0 :: k) ⟨mk 312 l, rows, low⟩ r ↔ bnd (evP rows (.bin .eql (.c (lk l 19)) (.c (lk l 8)))) fun v0 => bnd (gv v0 true (evP rows (.mv (.c (lk l 21))))) fun v1 => bnd (gv v0 true (evP rows (.mv (.c (lk l 8))))) fun v2 => bnd (gv v0 true (evP rows (.bin .eql (.c v1) (.c v2)))) fun v3 => bnd (evP rows (.pick (.c v0) (.c v3) (.c (.bool false)))) fun v4 => bnd (gv v4 true (evP rows (.mv (.c (lk l 24))))) fun v5 => bnd (gv v4 true (evP rows (.mv (.c (lk l 8))))) fun v6 => bnd (gv v4 true (evP rows (.bin .eql (.c v5) (.c v6)))) fun v7 => bnd (evP rows (.pick (.c v4) (.c v7) (.c (.bool false)))) fun v8 => bnd (gv v8 true (evP rows (.mv (.c (lk l 27))))) fun v9 => bnd (gv v8 true (evP rows (.mv (.c (lk l 8))))) fun v10 => bnd (gv v8 true (evP rows (.bin .eql (.c v9) (.c v10)))) fun v11 => bnd (evP rows (.pick (.c v8) (.c v11) (.c (.bool false)))) fun v12 => bnd (gv v12 true (evP rows (.mv (.c (lk l 30))))) fun v13 => bnd (gv v12 true (evP rows (.mv (.c (lk l 8))))) fun v14 => bnd (gv v12 true (evP rows (.bin .eql (.c v13) (.c v14)))) fun v15 => bnd (evP rows (.pick (.c v12) (.c v15) (.c (.bool false)))) fun v16 => bnd (gv v16 true (evP rows (.mv (.c (lk l 32))))) fun v17 => bnd (gv v16 true (evP rows (.mv (.c (lk l 8))))) fun v18 => bnd (gv v16 true (evP rows (.bin .eql (.c v17) (.c v18)))) fun v19 => bnd (evP rows (.pick (.c v16) (.c v19) (.c (.bool false)))) fun v20 => bnd (gv v20 true (evP rows (.mv (.c (lk l 34))))) fun v21 => bnd (gv v20 true (evP rows (.mv (.c (lk l 8))))) fun v22 => bnd (gv v20 true (evP rows (.bin .eql (.c v21) (.c v22)))) fun v23 => bnd (evP rows (.pick (.c v20) (.c v23) (.c (.bool false)))) fun v24 => bnd (gv v24 true (evP rows (.mv (.c (lk l 36))))) fun v25 => bnd (gv v24 true (evP rows (.mv (.c (lk l 8))))) fun v26 => bnd (gv v24 true (evP rows (.bin .eql (.c v25) (.c v26)))) fun v27 => bnd (evP rows (.pick (.c v24) (.c v27) (.c (.bool false)))) fun v28 => bnd (gv v28 true (evP rows (.mv (.c (lk l 38))))) fun v29 => bnd (gv v28 true (evP rows (.mv (.c (lk l 8))))) fun v30 => bnd (gv v28 true (evP rows (.bin .eql (.c v29) (.c v30)))) fun v31 => bnd (evP rows (.pick (.c v28) (.c v31) (.c (.bool false)))) fun v32 => bnd (gv v32 true (evP rows (.mv (.c (lk l 23))))) fun v33 => bnd (gv v32 true (evP rows (.un .not (.c v33)))) fun v34 => bnd (evP rows (.pick (.c v32) (.c v34) (.c (.bool false)))) fun v35 => bnd (gv v35 true (evP rows (.mv (.c (lk l 26))))) fun v36 => bnd (gv v35 true (evP rows (.un .not (.c v36)))) fun v37 => bnd (evP rows (.pick (.c v35) (.c v37) (.c (.bool false)))) fun v38 => bnd (gv v38 true (evP rows (.mv (.c (lk l 29))))) fun v39 => bnd (gv v38 true (evP rows (.un .not (.c v39)))) fun v40 => bnd (evP rows (.pick (.c v38) (.c v40) (.c (.bool false)))) fun v41 => bnd (gv v41 true (evP rows (.mv (.c (lk l 37))))) fun v42 => bnd (gv v41 true (evP rows (.un .not (.c v42)))) fun v43 => bnd (evP rows (.pick (.c v41) (.c v43) (.c (.bool false)))) fun v44 => bnd (gv v44 true (evP rows (.mv (.c (lk l 28))))) fun v45 => bnd (gv v44 true (evP rows (.bin .eql (.c v45) (.c (.int .i64 0))))) fun v46 => bnd (evP rows (.pick (.c v44) (.c v46) (.c (.bool false)))) fun v47 => bnd (gv v47 true (evP rows (.mv (.c (lk l 18))))) fun v48 => bnd (gv v47 true (evP rows (.len 0 (.c v48)))) fun v49 => bnd (gv v47 true (evP rows (.mv (.c (lk l 20))))) fun v50 => bnd (gv v47 true (evP rows (.len 0 (.c v50)))) fun v51 => bnd (gv v47 true (evP rows (.bin .add (.c v49) (.c v51)))) fun v52 => bnd (gv v47 true (evP rows (.mv (.c (lk l 22))))) fun v53 => bnd (gv v47 true (evP rows (.len 0 (.c v53)))) fun v54 => bnd (gv v47 true (evP rows (.bin .add (.c v52) (.c v54)))) fun v55 => bnd (gv v47 true (evP rows (.mv (.c (lk l 25))))) fun v56 => bnd (gv v47 true (evP rows (.len 0 (.c v56)))) fun v57 => bnd (gv v47 true (evP rows (.bin .add (.c v55) (.c v57)))) fun v58 => bnd (gv v47 true (evP rows (.idxA 3 1 (.c (lk l 31)) (.c (.int .i64 0))))) fun v59 => bnd (gv v47 true (evP rows (.load1 (.c v59)))) fun v60 => bnd (gv v47 true (evP rows (.len 0 (.c v60)))) fun v61 => bnd (gv v47 true (evP rows (.bin .add (.c v58) (.c v61)))) fun v62 => bnd (gv v47 true (evP rows (.idxA 3 1 (.c (lk l 31)) (.c (.int .i64 1))))) fun v63 => bnd (gv v47 true (evP rows (.load1 (.c v63)))) fun v64 => bnd (gv v47 true (evP rows (.len 0 (.c v64)))) fun v65 => bnd (gv v47 true (evP rows (.bin .add (.c v62) (.c v65)))) fun v66 => bnd (gv v47 true (evP rows (.idxA 3 1 (.c (lk l 31)) (.c (.int .i64 2))))) fun v67 => bnd (gv v47 true (evP rows (.load1 (.c v67)))) fun v68 => bnd (gv v47 true (evP rows (.len 0 (.c v68)))) fun v69 => bnd (gv v47 true (evP rows (.bin .add (.c v66) (.c v69)))) fun v70 => bnd (gv v47 true (evP rows (.mv (.c (lk l 33))))) fun v71 => bnd (gv v47 true (evP rows (.len 0 (.c v71)))) fun v72 => bnd (gv v47 true (evP rows (.bin .add (.c v70) (.c v72)))) fun v73 => bnd (gv v47 true (evP rows (.bin .eql (.c v73) (.c (.int .i64 0))))) fun v74 => bnd (evP rows (.pick (.c v47) (.c v74) (.c (.bool false)))) fun v75 => bnd (gv v75 true (evP rows (.loadN 8 (.c (lk l 35))))) fun v76 => bnd (gv v75 true (evP rows (.mkagg [.int .i64 0, .int .i64 0, .int .i64 0, .int .i64 0, .int .i64 0, .int .i64 0, .int .i64 0, .int .i64 0] []))) fun v77 => bnd (gv v75 true (evP rows (.eqv false (.ints 8) (.c v76) (.c v77)))) fun v78 => bnd (evP rows (.pick (.c v75) (.c v78) (.c (.bool false)))) fun v79 => gcall F v79 true rows low [] [] (.func 19 []) fun v80 R80 L80 => bnd (evP R80 (.pick (.c v79) (.c v80) (.c (.bool false)))) fun v81 => Ex F cx k ⟨mk 312 [(4, v81), (311, v81), (310, v80), (309, v79), (308, v79), (307, v78), (306, v77), (305, v76), (304, v75), (303, v75), (302, v74), (301, v73), (300, v72), (299, v71), (298, v70), (297, v69), (296, v68), (295, v67), (294, v66), (293, v65), (292, v64), (291, v63), (290, v62), (289, v61), (288, v60), (287, v59), (286, v58), (285, v57), (284, v56), (283, v55), (282, v54), (281, v53), (280, v52), (279, v51), (278, v50), (277, v49), (276, v48), (275, v47), (274, v47), (273, v46), (272, v45), (271, v44), (270, v44), (269, v43), (268, v42), (267, v41), (266, v41), (265, v40), (264, v39), (263, v38), (262, v38), (261, v37), (260, v36), (259, v35), (258, v35), (257, v34), (256, v33), (255, v32), (254, v32), (253, v31), (252, v30), (251, v29), (250, v28), (249, v28), (248, v27), (247, v26), (246, v25), (245, v24), (244, v24), (243, v23), (242, v22), (241, v21), (240, v20), (239, v20), (238, v19), (237, v18), (236, v17), (235, v16), (234, v16), (233, v15), (232, v14), (231, v13), (230, v12), (229, v12), (228, v11), (227, v10), (226, v9), (225, v8), (224, v8), (223, v7), (222, v6), (221, v5), (220, v4), (219, v4), (218, v3), (217, v2), (216, v1), (215, v0), (214, v0), (213, lk l 8), (212, lk l 19), (8, lk l 8), (18, lk l 18), (19, lk l 19), (20, lk l 20), (21, lk l 21), (22, lk l 22), (23, lk l 23), (24, lk l 24), (25, lk l 25), (26, lk l 26), (27, lk l 27), (28, lk l 28), (29, lk l 29), (30, lk l 30), (31, lk l 31), (32, lk l 32), (33, lk l 33), (34, lk l 34), (35, lk l 35), (36, lk l 36), (37, lk l 37), (38, lk l 38)], R80, L80⟩ r := rg [8, 18, 19, 20, 21, 22, 23, 24, 25, 26, 27, 28, 29, 30, 31, 32, 33, 34, 35, 36, 37, 38] c14r0 rfl (by kernel_rfl)
def c14s1 : ICode := (.seq c14k0 .ret)
@[simp] theorem uc14s1 : Ex F cx (.code c14s1 :: k) s r ↔ Ex F cx (.code (.seq c14k0 .ret) :: k) s r := Iff.rfl
def c14r2 : List Seg := [
 zo 207 (.loadN 3 (.t 6)),
 zm 208 7,
 zo 209 (.call [] (.c (.func 51 [])) [(.t 207), (.t 208)]),
 zm 206 209,
 zo 210 (.ext (.t 206) 0),
 zo 211 (.ext (.t 206) 1),
 zm 37 210,
 zm 38 211]
def c14k2 : ICode := .kill 312 [6, 7, 8, 18, 19, 20, 21, 22, 23, 24, 25, 26, 27, 28, 29, 30, 31, 32, 33, 34, 35, 36] (.ops c14r2)
@[simp] theorem uc14k2 : Ex F cx (.code c14k2 :: k) ⟨mk 312 l, rows, low⟩ r ↔ bnd (evP rows (.loadN 3 (.c (lk l 6)))) fun v0 => bnd (Ret F 51 [v0, lk l 7] rows) fun q1 => bnd (evP q1.2.1 (.ext (.c q1.1) 0)) fun v2 => bnd (evP q1.2.1 (.ext (.c q1.1) 1)) fun v3 => Ex F cx k ⟨mk 312 [(38, v3), (37, v2), (211, v3), (210, v2), (206, q1.1), (209, q1.1), (208, lk l 7), (207, v0), (6, lk l 6), (7, lk l 7), (8, lk l 8), (18, lk l 18), (19, lk l 19), (20, lk l 20), (21, lk l 21), (22, lk l 22), (23, lk l 23), (24, lk l 24), (25, lk l 25), (26, lk l 26), (27, lk l 27), (28, lk l 28), (29, lk l 29), (30, lk l 30), (31, lk l 31), (32, lk l 32), (33, lk l 33), (34, lk l 34), (35, lk l 35), (36, lk l 36)], q1.2.1, (lowO low q1.2.2)⟩ r := rg [6, 7, 8, 18, 19, 20, 21, 22, 23, 24, 25, 26, 27, 28, 29, 30, 31, 32, 33, 34, 35, 36] c14r2 rfl (by kernel_rfl)
def c14s3 : ICode := (.seq c14k2 c14s1)
@[simp] theorem uc14s3 : Ex F cx (.code c14s3 :: k) s r ↔ Ex F cx (.code (.seq c14k2 c14s1) :: k) s r := Iff.rfl
def c14r4 : List Seg := [
 zo 201 (.loadN 3 (.t 6)),
 zm 202 7,
 zo 203 (.call [] (.c (.func 44 [])) [(.t 201), (.t 202)]),
 zm 200 203,
 zo 204 (.ext (.t 200) 0),
 zo 205 (.ext (.t 200) 1),
 zo 35 (.box (.c (.agg [.int .i64 0, .int .i64 0, .int .i64 0, .int .i64 0, .int .i64 0, .int .i64 0, .int .i64 0, .int .i64 0]))),
 .one ⟨none, .storeN 8 (.t 35) (.t 204), none⟩,
 zm 36 205]
def c14k4 : ICode := .kill 312 [6, 7, 8, 18, 19, 20, 21, 22, 23, 24, 25, 26, 27, 28, 29, 30, 31, 32, 33, 34] (.ops c14r4)
@[simp] theorem uc14k4 : Ex F cx (.code c14k4 :: k) ⟨mk 312 l, rows, low⟩ r ↔ bnd (evP rows (.loadN 3 (.c (lk l 6)))) fun v0 => bnd (Ret F 44 [v0, lk l 7] rows) fun q1 => bnd (evP q1.2.1 (.ext (.c q1.1) 0)) fun v2 => bnd (evP q1.2.1 (.ext (.c q1.1) 1)) fun v3 => bnd (evE q1.2.1 (lowO low q1.2.2) (.box (.c (.agg [.int .i64 0, .int .i64 0, .int .i64 0, .int .i64 0, .int .i64 0, .int .i64 0, .int .i64 0, .int .i64 0])))) fun q4 => bnd (evE q4.2.1 q4.2.2 (.storeN 8 (.c q4.1) (.c v2))) fun q5 => Ex F cx k ⟨mk 312 [(36, v3), (35, q4.1), (205, v3), (204, v2), (200, q1.1), (203, q1.1), (202, lk l 7), (201, v0), (6, lk l 6), (7, lk l 7), (8, lk l 8), (18, lk l 18), (19, lk l 19), (20, lk l 20), (21, lk l 21), (22, lk l 22), (23, lk l 23), (24, lk l 24), (25, lk l 25), (26, lk l 26), (27, lk l 27), (28, lk l 28), (29, lk l 29), (30, lk l 30), (31, lk l 31), (32, lk l 32), (33, lk l 33), (34, lk l 34)], q5.2.1, q5.2.2⟩ r := rg [6, 7, 8, 18, 19, 20, 21, 22, 23, 24, 25, 26, 27, 28, 29, 30, 31, 32, 33, 34] c14r4 rfl (by kernel_rfl)
def c14s5 : ICode := (.seq c14k4 c14s3)
@[simp] theorem uc14s5 : Ex F cx (.code c14s5 :: k) s r ↔ Ex F cx (.code (.seq c14k4 c14s3) :: k) s r := Iff.rfl
def c14r6 : List Seg := [
 zo 195 (.loadN 3 (.t 6)),
 zm 196 7,
 zo 197 (.call [] (.c (.func 24 [])) [(.t 195), (.t 196)]),
 zm 194 197,
 zo 198 (.ext (.t 194) 0),
 zo 199 (.ext (.t 194) 1),
 zm 33 198,
 zm 34 199]
def c14k6 : ICode := .kill 312 [6, 7, 8, 18, 19, 20, 21, 22, 23, 24, 25, 26, 27, 28, 29, 30, 31, 32] (.ops c14r6)
@[simp] theorem uc14k6 : Ex F cx (.code c14k6 :: k) ⟨mk 312 l, rows, low⟩ r ↔ bnd (evP rows (.loadN 3 (.c (lk l 6)))) fun v0 => bnd (Ret F 24 [v0, lk l 7] rows) fun q1 => bnd (evP q1.2.1 (.ext (.c q1.1) 0)) fun v2 => bnd (evP q1.2.1 (.ext (.c q1.1) 1)) fun v3 => Ex F cx k ⟨mk 312 [(34, v3), (33, v2), (199, v3), (198, v2), (194, q1.1), (197, q1.1), (196, lk l 7), (195, v0), (6, lk l 6), (7, lk l 7), (8, lk l 8), (18, lk l 18), (19, lk l 19), (20, lk l 20), (21, lk l 21), (22, lk l 22), (23, lk l 23), (24, lk l 24), (25, lk l 25), (26, lk l 26), (27, lk l 27), (28, lk l 28), (29, lk l 29), (30, lk l 30), (31, lk l 31), (32, lk l 32)], q1.2.1, (lowO low q1.2.2)⟩ r := rg [6, 7, 8, 18, 19, 20, 21, 22, 23, 24, 25, 26, 27, 28, 29, 30, 31, 32] c14r6 rfl (by kernel_rfl)
def c14s7 : ICode := (.seq c14k6 c14s5)
@[simp] theorem uc14s7 : Ex F cx (.code c14s7 :: k) s r ↔ Ex F cx (.code (.seq c14k6 c14s5) :: k) s r := Iff.rfl
def c14r8 : List Seg := [
 zo 189 (.loadN 3 (.t 6)),
 zm 190 7,
 zo 191 (.call [] (.c (.func 23 [])) [(.t 189), (.t 190)]),
 zm 188 191,
 zo 192 (.ext (.t 188) 0),
 zo 193 (.ext (.t 188) 1),
 zo 31 (.box (.c (.agg [.nilslice, .nilslice, .nilslice]))),
 .one ⟨none, .storeN 3 (.t 31) (.t 192), none⟩,
 zm 32 193]
def c14k8 : ICode := .kill 312 [6, 7, 8, 18, 19, 20, 21, 22, 23, 24, 25, 26, 27, 28, 29, 30] (.ops c14r8)
@[simp] theorem uc14k8 : Ex F cx (.code c14k8 :: k) ⟨mk 312 l, rows, low⟩ r ↔ bnd (evP rows (.loadN 3 (.c (lk l 6)))) fun v0 => bnd (Ret F 23 [v0, lk l 7] rows) fun q1 => bnd (evP q1.2.1 (.ext (.c q1.1) 0)) fun v2 => bnd (evP q1.2.1 (.ext (.c q1.1) 1)) fun v3 => bnd (evE q1.2.1 (lowO low q1.2.2) (.box (.c (.agg [.nilslice, .nilslice, .nilslice])))) fun q4 => bnd (evE q4.2.1 q4.2.2 (.storeN 3 (.c q4.1) (.c v2))) fun q5 => Ex F cx k ⟨mk 312 [(32, v3), (31, q4.1), (193, v3), (192, v2), (188, q1.1), (191, q1.1), (190, lk l 7), (189, v0), (6, lk l 6), (7, lk l 7), (8, lk l 8), (18, lk l 18), (19, lk l 19), (20, lk l 20), (21, lk l 21), (22, lk l 22), (23, lk l 23), (24, lk l 24), (25, lk l 25), (26, lk l 26), (27, lk l 27), (28, lk l 28), (29, lk l 29), (30, lk l 30)], q5.2.1, q5.2.2⟩ r := rg [6, 7, 8, 18, 19, 20, 21, 22, 23, 24, 25, 26, 27, 28, 29, 30] c14r8 rfl (by kernel_rfl)
def c14s9 : ICode := (.seq c14k8 c14s7)
@[simp] theorem uc14s9 : Ex F cx (.code c14s9 :: k) s r ↔ Ex F cx (.code (.seq c14k8 c14s7) :: k) s r := Iff.rfl
def c14r10 : List Seg := [
 zo 181 (.loadN 3 (.t 6)),
 zm 182 7,
 zo 183 (.mkslice 3 [.int .i64 0, .int .i64 0, .int .i64 0] [(0, 1, (.c (.int .i64 0))), (1, 1, (.c (.int .i64 1))), (2, 1, (.c (.int .i64 2)))]),
 zo 184 (.call [] (.c (.func 36 [])) [(.t 181), (.t 182), (.t 183)]),
 zm 180 184,
 zo 185 (.ext (.t 180) 0),
 zo 186 (.ext (.t 180) 1),
 zo 187 (.ext (.t 180) 2),
 zm 28 185,
 zm 29 186,
 zm 30 187]
def c14k10 : ICode := .kill 312 [6, 7, 8, 18, 19, 20, 21, 22, 23, 24, 25, 26, 27] (.ops c14r10)
@[simp] theorem uc14k10 : Ex F cx (.code c14k10 :: k) ⟨mk 312 l, rows, low⟩ r ↔ bnd (evP rows (.loadN 3 (.c (lk l 6)))) fun v0 => bnd (evE rows low (.mkslice 3 [.int .i64 0, .int .i64 0, .int .i64 0] [(0, 1, (.c (.int .i64 0))), (1, 1, (.c (.int .i64 1))), (2, 1, (.c (.int .i64 2)))])) fun q1 => bnd (Ret F 36 [v0, lk l 7, q1.1] q1.2.1) fun q2 => bnd (evP q2.2.1 (.ext (.c q2.1) 0)) fun v3 => bnd (evP q2.2.1 (.ext (.c q2.1) 1)) fun v4 => bnd (evP q2.2.1 (.ext (.c q2.1) 2)) fun v5 => Ex F cx k ⟨mk 312 [(30, v5), (29, v4), (28, v3), (187, v5), (186, v4), (185, v3), (180, q2.1), (184, q2.1), (183, q1.1), (182, lk l 7), (181, v0), (6, lk l 6), (7, lk l 7), (8, lk l 8), (18, lk l 18), (19, lk l 19), (20, lk l 20), (21, lk l 21), (22, lk l 22), (23, lk l 23), (24, lk l 24), (25, lk l 25), (26, lk l 26), (27, lk l 27)], q2.2.1, (lowO q1.2.2 q2.2.2)⟩ r := rg [6, 7, 8, 18, 19, 20, 21, 22, 23, 24, 25, 26, 27] c14r10 rfl (by kernel_rfl)
def c14s11 : ICode := (.seq c14k10 c14s9)
@[simp] theorem uc14s11 : Ex F cx (.code c14s11 :: k) s r ↔ Ex F cx (.code (.seq c14k10 c14s9) :: k) s r := Iff.rfl
def c14r12 : List Seg := [
 zo 174 (.loadN 3 (.t 6)),
 zm 175 7,
 zo 176 (.call [] (.c (.func 47 [])) [(.t 174), (.t 175)]),
 zm 173 176,
 zo 177 (.ext (.t 173) 0),
 zo 178 (.ext (.t 173) 1),
 zo 179 (.ext (.t 173) 2),
 zm 25 177,
 zm 26 178,
 zm 27 179]
def c14k12 : ICode := .kill 312 [6, 7, 8, 18, 19, 20, 21, 22, 23, 24] (.ops c14r12)
@[simp] theorem uc14k12 : Ex F cx (.code c14k12 :: k) ⟨mk 312 l, rows, low⟩ r ↔ bnd (evP rows (.loadN 3 (.c (lk l 6)))) fun v0 => bnd (Ret F 47 [v0, lk l 7] rows) fun q1 => bnd (evP q1.2.1 (.ext (.c q1.1) 0)) fun v2 => bnd (evP q1.2.1 (.ext (.c q1.1) 1)) fun v3 => bnd (evP q1.2.1 (.ext (.c q1.1) 2)) fun v4 => Ex F cx k ⟨mk 312 [(27, v4), (26, v3), (25, v2), (179, v4), (178, v3), (177, v2), (173, q1.1), (176, q1.1), (175, lk l 7), (174, v0), (6, lk l 6), (7, lk l 7), (8, lk l 8), (18, lk l 18), (19, lk l 19), (20, lk l 20), (21, lk l 21), (22, lk l 22), (23, lk l 23), (24, lk l 24)], q1.2.1, (lowO low q1.2.2)⟩ r := rg [6, 7, 8, 18, 19, 20, 21, 22, 23, 24] c14r12 rfl (by kernel_rfl)
def c14s13 : ICode := (.seq c14k12 c14s11)
@[simp] theorem uc14s13 : Ex F cx (.code c14s13 :: k) s r ↔ Ex F cx (.code (.seq c14k12 c14s11) :: k) s r := Iff.rfl
def c14r14 : List Seg := [
 zo 167 (.loadN 3 (.t 6)),
 zm 168 7,
 zo 169 (.call [] (.c (.func 41 [])) [(.t 167), (.t 168)]),
 zm 166 169,
 zo 170 (.ext (.t 166) 0),
 zo 171 (.ext (.t 166) 1),
 zo 172 (.ext (.t 166) 2),
 zm 22 170,
 zm 23 171,
 zm 24 172]
def c14k14 : ICode := .kill 312 [6, 7, 8, 18, 19, 20, 21] (.ops c14r14)
@[simp] theorem uc14k14 : Ex F cx (.code c14k14 :: k) ⟨mk 312 l, rows, low⟩ r ↔ bnd (evP rows (.loadN 3 (.c (lk l 6)))) fun v0 => bnd (Ret F 41 [v0, lk l 7] rows) fun q1 => bnd (evP q1.2.1 (.ext (.c q1.1) 0)) fun v2 => bnd (evP q1.2.1 (.ext (.c q1.1) 1)) fun v3 => bnd (evP q1.2.1 (.ext (.c q1.1) 2)) fun v4 => Ex F cx k ⟨mk 312 [(24, v4), (23, v3), (22, v2), (172, v4), (171, v3), (170, v2), (166, q1.1), (169, q1.1), (168, lk l 7), (167, v0), (6, lk l 6), (7, lk l 7), (8, lk l 8), (18, lk l 18), (19, lk l 19), (20, lk l 20), (21, lk l 21)], q1.2.1, (lowO low q1.2.2)⟩ r := rg [6, 7, 8, 18, 19, 20, 21] c14r14 rfl (by kernel_rfl)
def c14s15 : ICode := (.seq c14k14 c14s13)
@[simp] theorem uc14s15 : Ex F cx (.code c14s15 :: k) s r ↔ Ex F cx (.code (.seq c14k14 c14s13) :: k) s r := Iff.rfl
def c14r16 : List Seg := [
 zo 161 (.loadN 3 (.t 6)),
 zm 162 7,
 zo 163 (.call [] (.c (.func 40 [])) [(.t 161), (.t 162)]),
 zm 160 163,
 zo 164 (.ext (.t 160) 0),
 zo 165 (.ext (.t 160) 1),
 zm 20 164,
 zm 21 165]
def c14k16 : ICode := .kill 312 [6, 7, 8, 18, 19] (.ops c14r16)
@[simp] theorem uc14k16 : Ex F cx (.code c14k16 :: k) ⟨mk 312 l, rows, low⟩ r ↔ bnd (evP rows (.loadN 3 (.c (lk l 6)))) fun v0 => bnd (Ret F 40 [v0, lk l 7] rows) fun q1 => bnd (evP q1.2.1 (.ext (.c q1.1) 0)) fun v2 => bnd (evP q1.2.1 (.ext (.c q1.1) 1)) fun v3 => Ex F cx k ⟨mk 312 [(21, v3), (20, v2), (165, v3), (164, v2), (160, q1.1), (163, q1.1), (162, lk l 7), (161, v0), (6, lk l 6), (7, lk l 7), (8, lk l 8), (18, lk l 18), (19, lk l 19)], q1.2.1, (lowO low q1.2.2)⟩ r := rg [6, 7, 8, 18, 19] c14r16 rfl (by kernel_rfl)
def c14s17 : ICode := (.seq c14k16 c14s15)
@[simp] theorem uc14s17 : Ex F cx (.code c14s17 :: k) s r ↔ Ex F cx (.code (.seq c14k16 c14s15) :: k) s r := Iff.rfl
def c14r18 : List Seg := [
 zo 155 (.loadN 3 (.t 6)),
 zm 156 7,
 zo 157 (.call [] (.c (.func 22 [])) [(.t 155), (.t 156)]),
 zm 154 157,
 zo 158 (.ext (.t 154) 0),
 zo 159 (.ext (.t 154) 1),
 zm 18 158,
 zm 19 159]
def c14k18 : ICode := .kill 312 [6, 7, 8] (.ops c14r18)
@[simp] theorem uc14k18 : Ex F cx (.code c14k18 :: k) ⟨mk 312 l, rows, low⟩ r ↔ bnd (evP rows (.loadN 3 (.c (lk l 6)))) fun v0 => bnd (Ret F 22 [v0, lk l 7] rows) fun q1 => bnd (evP q1.2.1 (.ext (.c q1.1) 0)) fun v2 => bnd (evP q1.2.1 (.ext (.c q1.1) 1)) fun v3 => Ex F cx k ⟨mk 312 [(19, v3), (18, v2), (159, v3), (158, v2), (154, q1.1), (157, q1.1), (156, lk l 7), (155, v0), (6, lk l 6), (7, lk l 7), (8, lk l 8)], q1.2.1, (lowO low q1.2.2)⟩ r := rg [6, 7, 8] c14r18 rfl (by kernel_rfl)
def c14s19 : ICode := (.seq c14k18 c14s17)
@[simp] theorem uc14s19 : Ex F cx (.code c14s19 :: k) s r ↔ Ex F cx (.code (.seq c14k18 c14s17) :: k) s r := Iff.rfl
def c14r20 : List Seg := [
 zo 153 (.call [] (.c (.func 19 [])) []),
 zm 4 153]
def c14k20 : ICode := .kill 312 [] (.ops c14r20)
@[simp] theorem uc14k20 : Ex F cx (.code c14k20 :: k) ⟨mk 312 l, rows, low⟩ r ↔ bnd (Ret F 19 [] rows) fun q0 => Ex F cx k ⟨mk 312 [(4, q0.1), (153, q0.1)], q0.2.1, (lowO low q0.2.2)⟩ r := rg [] c14r20 rfl (by kernel_rfl)
def c14s21 : ICode := (.cond (.t 152) (.seq c14k20 .ret) .skip)
@[simp] theorem uc14s21 : Ex F cx (.code c14s21 :: k) s r ↔ Ex F cx (.code (.cond (.t 152) (.seq c14k20 .ret) .skip) :: k) s r := Iff.rfl
def c14r22 : List Seg := [
 zm 144 13,
 zo 145 (.un .not (.t 144)),
 zm 146 145,
 .one ⟨some 147, .mv (.t 7), some (146, true)⟩,
 .one ⟨some 148, .fieldA 1 (.t 5), some (146, true)⟩,
 .one ⟨some 149, .load1 (.t 148), some (146, true)⟩,
 .one ⟨some 150, .len 0 (.t 149), some (146, true)⟩,
 .one ⟨some 151, .call [] (.c (.func 39 [])) [(.t 147), (.t 150)], some (146, true)⟩,
 zo 152 (.pick (.t 146) (.t 151) (.c (.bool false)))]
def c14k22 : ICode := .kill 312 [5, 6, 7, 8, 13] (.ops c14r22)
@[simp] theorem uc14k22 : Ex F cx (.code c14k22 :: k) ⟨mk 312 l, rows, low⟩ r ↔ bnd (evP rows (.un .not (.c (lk l 13)))) fun v0 => bnd (gv v0 true (evP rows (.mv (.c (lk l 7))))) fun v1 => bnd (gv v0 true (evP rows (.fieldA 1 (.c (lk l 5))))) fun v2 => bnd (gv v0 true (evP rows (.load1 (.c v2)))) fun v3 => bnd (gv v0 true (evP rows (.len 0 (.c v3)))) fun v4 => gcall F v0 true rows low [v1, v4] [] (.func 39 []) fun v5 R5 L5 => bnd (evP R5 (.pick (.c v0) (.c v5) (.c (.bool false)))) fun v6 => Ex F cx k ⟨mk 312 [(152, v6), (151, v5), (150, v4), (149, v3), (148, v2), (147, v1), (146, v0), (145, v0), (144, lk l 13), (5, lk l 5), (6, lk l 6), (7, lk l 7), (8, lk l 8), (13, lk l 13)], R5, L5⟩ r := rg [5, 6, 7, 8, 13] c14r22 rfl (by kernel_rfl)
def c14s23 : ICode := (.seq (.seq c14k22 c14s21) c14s19)
@[simp] theorem uc14s23 : Ex F cx (.code c14s23 :: k) s r ↔ Ex F cx (.code (.seq (.seq c14k22 c14s21) c14s19) :: k) s r := Iff.rfl
def c14r24 : List Seg := [
 zo 4 (.mv (.c (.bool false)))]
def c14k24 : ICode := .kill 312 [] (.ops c14r24)
@[simp] theorem uc14k24 : Ex F cx (.code c14k24 :: k) ⟨mk 312 l, rows, low⟩ r ↔ Ex F cx k ⟨mk 312 [(4, (.bool false))], rows, low⟩ r := rg [] c14r24 rfl (by kernel_rfl)
def c14s25 : ICode := (.cond (.t 143) (.seq c14k24 .ret) .skip)
@[simp] theorem uc14s25 : Ex F cx (.code c14s25 :: k) s r ↔ Ex F cx (.code (.cond (.t 143) (.seq c14k24 .ret) .skip) :: k) s r := Iff.rfl
def c14r26 : List Seg := [
 zm 118 13,
 zm 119 118,
 .one ⟨some 120, .mv (.t 7), some (119, false)⟩,
 .one ⟨some 121, .fieldA 2 (.t 5), some (119, false)⟩,
 .one ⟨some 122, .load1 (.t 121), some (119, false)⟩,
 .one ⟨some 123, .len 0 (.t 122), some (119, false)⟩,
 .one ⟨some 124, .call [] (.c (.func 39 [])) [(.t 120), (.t 123)], some (119, false)⟩,
 .one ⟨some 125, .un .not (.t 124), some (119, false)⟩,
 zo 126 (.pick (.t 119) (.c (.bool true)) (.t 125)),
 zm 127 17,
 zo 128 (.bin .neq (.t 127) (.c (.int .i64 0))),
 zo 129 (.eqv true .bool (.t 126) (.t 128)),
 zm 130 129,
 .one ⟨some 131, .mv (.t 17), some (130, false)⟩,
 .one ⟨some 132, .bin .neq (.t 131) (.c (.int .i64 0)), some (130, false)⟩,
 .one ⟨some 133, .mv (.t 132), some (130, false)⟩,
 .one ⟨some 134, .mv (.t 17), some (133, true)⟩,
 .one ⟨some 135, .mv (.t 8), some (133, true)⟩,
 .one ⟨some 136, .bin .neq (.t 134) (.t 135), some (133, true)⟩,
 .one ⟨some 137, .mv (.t 136), some (133, true)⟩,
 .one ⟨some 138, .mv (.t 16), some (137, false)⟩,
 .one ⟨some 139, .len 0 (.t 138), some (137, false)⟩,
 .one ⟨some 140, .bin .neq (.t 139) (.c (.int .i64 0)), some (137, false)⟩,
 .one ⟨some 141, .pick (.t 137) (.c (.bool true)) (.t 140), some (133, true)⟩,
 .one ⟨some 142, .pick (.t 133) (.t 141) (.c (.bool false)), some (130, false)⟩,
 zo 143 (.pick (.t 130) (.c (.bool true)) (.t 142))]
def c14k26 : ICode := .kill 312 [5, 6, 7, 8, 13, 16, 17] (.ops c14r26)
@[simp] theorem uc14k26 : Ex F cx (.code c14k26 :: k) ⟨mk 312 l, rows, low⟩ r ↔ bnd (gv (lk l 13) false (evP rows (.mv (.c (lk l 7))))) fun v0 => bnd (gv (lk l 13) false (evP rows (.fieldA 2 (.c (lk l 5))))) fun v1 => bnd (gv (lk l 13) false (evP rows (.load1 (.c v1)))) fun v2 => bnd (gv (lk l 13) false (evP rows (.len 0 (.c v2)))) fun v3 => gcall F (lk l 13) false rows low [v0, v3] [] (.func 39 []) fun v4 R4 L4 => bnd (gv (lk l 13) false (evP R4 (.un .not (.c v4)))) fun v5 => bnd (evP R4 (.pick (.c (lk l 13)) (.c (.bool true)) (.c v5))) fun v6 => bnd (evP R4 (.bin .neq (.c (lk l 17)) (.c (.int .i64 0)))) fun v7 => bnd (evP R4 (.eqv true .bool (.c v6) (.c v7))) fun v8 => bnd (gv v8 false (evP R4 (.mv (.c (lk l 17))))) fun v9 => bnd (gv v8 false (evP R4 (.bin .neq (.c v9) (.c (.int .i64 0))))) fun v10 => bnd (gv v8 false (evP R4 (.mv (.c v10)))) fun v11 => bnd (gv v11 true (evP R4 (.mv (.c (lk l 17))))) fun v12 => bnd (gv v11 true (evP R4 (.mv (.c (lk l 8))))) fun v13 => bnd (gv v11 true (evP R4 (.bin .neq (.c v12) (.c v13)))) fun v14 => bnd (gv v11 true (evP R4 (.mv (.c v14)))) fun v15 => bnd (gv v15 false (evP R4 (.mv (.c (lk l 16))))) fun v16 => bnd (gv v15 false (evP R4 (.len 0 (.c v16)))) fun v17 => bnd (gv v15 false (evP R4 (.bin .neq (.c v17) (.c (.int .i64 0))))) fun v18 => bnd (gv v11 true (evP R4 (.pick (.c v15) (.c (.bool true)) (.c v18)))) fun v19 => bnd (gv v8 false (evP R4 (.pick (.c v11) (.c v19) (.c (.bool false))))) fun v20 => bnd (evP R4 (.pick (.c v8) (.c (.bool true)) (.c v20))) fun v21 => Ex F cx k ⟨mk 312 [(143, v21), (142, v20), (141, v19), (140, v18), (139, v17), (138, v16), (137, v15), (136, v14), (135, v13), (134, v12), (133, v11), (132, v10), (131, v9), (130, v8), (129, v8), (128, v7), (127, lk l 17), (126, v6), (125, v5), (124, v4), (123, v3), (122, v2), (121, v1), (120, v0), (119, lk l 13), (118, lk l 13), (5, lk l 5), (6, lk l 6), (7, lk l 7), (8, lk l 8), (13, lk l 13), (16, lk l 16), (17, lk l 17)], R4, L4⟩ r := rg [5, 6, 7, 8, 13, 16, 17] c14r26 rfl (by kernel_rfl)
def c14s27 : ICode := (.seq c14k26 c14s25)
@[simp] theorem uc14s27 : Ex F cx (.code c14s27 :: k) s r ↔ Ex F cx (.code (.seq c14k26 c14s25) :: k) s r := Iff.rfl
def c14r28 : List Seg := [
 zo 113 (.loadN 3 (.t 6)),
 zm 114 7,
 zo 115 (.call [] (.c (.func 38 [])) [(.t 113), (.t 114)]),
 zm 112 115,
 zo 116 (.ext (.t 112) 0),
 zo 117 (.ext (.t 112) 1),
 zm 16 116,
 zm 17 117]
def c14k28 : ICode := .kill 312 [5, 6, 7, 8, 13] (.ops c14r28)
@[simp] theorem uc14k28 : Ex F cx (.code c14k28 :: k) ⟨mk 312 l, rows, low⟩ r ↔ bnd (evP rows (.loadN 3 (.c (lk l 6)))) fun v0 => bnd (Ret F 38 [v0, lk l 7] rows) fun q1 => bnd (evP q1.2.1 (.ext (.c q1.1) 0)) fun v2 => bnd (evP q1.2.1 (.ext (.c q1.1) 1)) fun v3 => Ex F cx k ⟨mk 312 [(17, v3), (16, v2), (117, v3), (116, v2), (112, q1.1), (115, q1.1), (114, lk l 7), (113, v0), (5, lk l 5), (6, lk l 6), (7, lk l 7), (8, lk l 8), (13, lk l 13)], q1.2.1, (lowO low q1.2.2)⟩ r := rg [5, 6, 7, 8, 13] c14r28 rfl (by kernel_rfl)
def c14s29 : ICode := (.seq (.seq c14k28 c14s27) c14s23)
@[simp] theorem uc14s29 : Ex F cx (.code c14s29 :: k) s r ↔ Ex F cx (.code (.seq (.seq c14k28 c14s27) c14s23) :: k) s r := Iff.rfl
def c14r30 : List Seg := [
 zo 4 (.mv (.c (.bool false)))]
def c14k30 : ICode := .kill 312 [] (.ops c14r30)
@[simp] theorem uc14k30 : Ex F cx (.code c14k30 :: k) ⟨mk 312 l, rows, low⟩ r ↔ Ex F cx k ⟨mk 312 [(4, (.bool false))], rows, low⟩ r := rg [] c14r30 rfl (by kernel_rfl)
def c14s31 : ICode := (.cond (.t 111) (.seq c14k30 .ret) .skip)
@[simp] theorem uc14s31 : Ex F cx (.code c14s31 :: k) s r ↔ Ex F cx (.code (.cond (.t 111) (.seq c14k30 .ret) .skip) :: k) s r := Iff.rfl
def c14r32 : List Seg := [
 zm 87 13,
 zm 88 87,
 .one ⟨some 89, .mv (.t 7), some (88, false)⟩,
 .one ⟨some 90, .fieldA 0 (.t 5), some (88, false)⟩,
 .one ⟨some 91, .load1 (.t 90), some (88, false)⟩,
 .one ⟨some 92, .call [] (.c (.func 39 [])) [(.t 89), (.t 91)], some (88, false)⟩,
 .one ⟨some 93, .un .not (.t 92), some (88, false)⟩,
 zo 94 (.pick (.t 88) (.c (.bool true)) (.t 93)),
 zm 95 15,
 zo 96 (.bin .neq (.t 95) (.c (.int .i64 0))),
 zo 97 (.eqv true .bool (.t 94) (.t 96)),
 zm 98 97,
 .one ⟨some 99, .mv (.t 15), some (98, false)⟩,
 .one ⟨some 100, .bin .neq (.t 99) (.c (.int .i64 0)), some (98, false)⟩,
 .one ⟨some 101, .mv (.t 100), some (98, false)⟩,
 .one ⟨some 102, .mv (.t 15), some (101, true)⟩,
 .one ⟨some 103, .mv (.t 8), some (101, true)⟩,
 .one ⟨some 104, .bin .neq (.t 102) (.t 103), some (101, true)⟩,
 .one ⟨some 105, .mv (.t 104), some (101, true)⟩,
 .one ⟨some 106, .mv (.t 14), some (105, false)⟩,
 .one ⟨some 107, .len 0 (.t 106), some (105, false)⟩,
 .one ⟨some 108, .bin .neq (.t 107) (.c (.int .i64 0)), some (105, false)⟩,
 .one ⟨some 109, .pick (.t 105) (.c (.bool true)) (.t 108), some (101, true)⟩,
 .one ⟨some 110, .pick (.t 101) (.t 109) (.c (.bool false)), some (98, false)⟩,
 zo 111 (.pick (.t 98) (.c (.bool true)) (.t 110))]
def c14k32 : ICode := .kill 312 [5, 6, 7, 8, 13, 14, 15] (.ops c14r32)
@[simp] theorem uc14k32 : Ex F cx (.code c14k32 :: k) ⟨mk 312 l, rows, low⟩ r ↔ bnd (gv (lk l 13) false (evP rows (.mv (.c (lk l 7))))) fun v0 => bnd (gv (lk l 13) false (evP rows (.fieldA 0 (.c (lk l 5))))) fun v1 => bnd (gv (lk l 13) false (evP rows (.load1 (.c v1)))) fun v2 => gcall F (lk l 13) false rows low [v0, v2] [] (.func 39 []) fun v3 R3 L3 => bnd (gv (lk l 13) false (evP R3 (.un .not (.c v3)))) fun v4 => bnd (evP R3 (.pick (.c (lk l 13)) (.c (.bool true)) (.c v4))) fun v5 => bnd (evP R3 (.bin .neq (.c (lk l 15)) (.c (.int .i64 0)))) fun v6 => bnd (evP R3 (.eqv true .bool (.c v5) (.c v6))) fun v7 => bnd (gv v7 false (evP R3 (.mv (.c (lk l 15))))) fun v8 => bnd (gv v7 false (evP R3 (.bin .neq (.c v8) (.c (.int .i64 0))))) fun v9 => bnd (gv v7 false (evP R3 (.mv (.c v9)))) fun v10 => bnd (gv v10 true (evP R3 (.mv (.c (lk l 15))))) fun v11 => bnd (gv v10 true (evP R3 (.mv (.c (lk l 8))))) fun v12 => bnd (gv v10 true (evP R3 (.bin .neq (.c v11) (.c v12)))) fun v13 => bnd (gv v10 true (evP R3 (.mv (.c v13)))) fun v14 => bnd (gv v14 false (evP R3 (.mv (.c (lk l 14))))) fun v15 => bnd (gv v14 false (evP R3 (.len 0 (.c v15)))) fun v16 => bnd (gv v14 false (evP R3 (.bin .neq (.c v16) (.c (.int .i64 0))))) fun v17 => bnd (gv v10 true (evP R3 (.pick (.c v14) (.c (.bool true)) (.c v17)))) fun v18 => bnd (gv v7 false (evP R3 (.pick (.c v10) (.c v18) (.c (.bool false))))) fun v19 => bnd (evP R3 (.pick (.c v7) (.c (.bool true)) (.c v19))) fun v20 => Ex F cx k ⟨mk 312 [(111, v20), (110, v19), (109, v18), (108, v17), (107, v16), (106, v15), (105, v14), (104, v13), (103, v12), (102, v11), (101, v10), (100, v9), (99, v8), (98, v7), (97, v7), (96, v6), (95, lk l 15), (94, v5), (93, v4), (92, v3), (91, v2), (90, v1), (89, v0), (88, lk l 13), (87, lk l 13), (5, lk l 5), (6, lk l 6), (7, lk l 7), (8, lk l 8), (13, lk l 13), (14, lk l 14), (15, lk l 15)], R3, L3⟩ r := rg [5, 6, 7, 8, 13, 14, 15] c14r32 rfl (by kernel_rfl)
def c14s33 : ICode := (.seq c14k32 c14s31)
@[simp] theorem uc14s33 : Ex F cx (.code c14s33 :: k) s r ↔ Ex F cx (.code (.seq c14k32 c14s31) :: k) s r := Iff.rfl
def c14r34 : List Seg := [
 zo 82 (.loadN 3 (.t 6)),
 zm 83 7,
 zo 84 (.call [] (.c (.func 33 [])) [(.t 82), (.t 83)]),
 zm 81 84,
 zo 85 (.ext (.t 81) 0),
 zo 86 (.ext (.t 81) 1),
 zm 14 85,
 zm 15 86]
def c14k34 : ICode := .kill 312 [5, 6, 7, 8, 13] (.ops c14r34)
@[simp] theorem uc14k34 : Ex F cx (.code c14k34 :: k) ⟨mk 312 l, rows, low⟩ r ↔ bnd (evP rows (.loadN 3 (.c (lk l 6)))) fun v0 => bnd (Ret F 33 [v0, lk l 7] rows) fun q1 => bnd (evP q1.2.1 (.ext (.c q1.1) 0)) fun v2 => bnd (evP q1.2.1 (.ext (.c q1.1) 1)) fun v3 => Ex F cx k ⟨mk 312 [(15, v3), (14, v2), (86, v3), (85, v2), (81, q1.1), (84, q1.1), (83, lk l 7), (82, v0), (5, lk l 5), (6, lk l 6), (7, lk l 7), (8, lk l 8), (13, lk l 13)], q1.2.1, (lowO low q1.2.2)⟩ r := rg [5, 6, 7, 8, 13] c14r34 rfl (by kernel_rfl)
def c14s35 : ICode := (.seq (.seq c14k34 c14s33) c14s29)
@[simp] theorem uc14s35 : Ex F cx (.code c14s35 :: k) s r ↔ Ex F cx (.code (.seq (.seq c14k34 c14s33) c14s29) :: k) s r := Iff.rfl
def c14r36 : List Seg := [
 zo 78 (.loadN 3 (.t 5)),
 zo 79 (.call [] (.c (.func 58 [])) [(.t 78)]),
 zo 80 (.un .not (.t 79)),
 zm 13 80]
def c14k36 : ICode := .kill 312 [5, 6, 7, 8] (.ops c14r36)
@[simp] theorem uc14k36 : Ex F cx (.code c14k36 :: k) ⟨mk 312 l, rows, low⟩ r ↔ bnd (evP rows (.loadN 3 (.c (lk l 5)))) fun v0 => bnd (Ret F 58 [v0] rows) fun q1 => bnd (evP q1.2.1 (.un .not (.c q1.1))) fun v2 => Ex F cx k ⟨mk 312 [(13, v2), (80, v2), (79, q1.1), (78, v0), (5, lk l 5), (6, lk l 6), (7, lk l 7), (8, lk l 8)], q1.2.1, (lowO low q1.2.2)⟩ r := rg [5, 6, 7, 8] c14r36 rfl (by kernel_rfl)
def c14s37 : ICode := (.seq c14k36 c14s35)
@[simp] theorem uc14s37 : Ex F cx (.code c14s37 :: k) s r ↔ Ex F cx (.code (.seq c14k36 c14s35) :: k) s r := Iff.rfl
def c14r38 : List Seg := [
 zo 4 (.mv (.c (.bool false)))]
def c14k38 : ICode := .kill 312 [] (.ops c14r38)
@[simp] theorem uc14k38 : Ex F cx (.code c14k38 :: k) ⟨mk 312 l, rows, low⟩ r ↔ Ex F cx k ⟨mk 312 [(4, (.bool false))], rows, low⟩ r := rg [] c14r38 rfl (by kernel_rfl)
def c14s39 : ICode := (.cond (.t 77) (.seq c14k38 .ret) .skip)
@[simp] theorem uc14s39 : Ex F cx (.code c14s39 :: k) s r ↔ Ex F cx (.code (.cond (.t 77) (.seq c14k38 .ret) .skip) :: k) s r := Iff.rfl
def c14r40 : List Seg := [
 zm 64 10,
 zm 65 8,
 zo 66 (.bin .neq (.t 64) (.t 65)),
 zm 67 66,
 .one ⟨some 68, .mv (.t 12), some (67, false)⟩,
 .one ⟨some 69, .mv (.t 8), some (67, false)⟩,
 .one ⟨some 70, .bin .neq (.t 68) (.t 69), some (67, false)⟩,
 zo 71 (.pick (.t 67) (.c (.bool true)) (.t 70)),
 zm 72 71,
 .one ⟨some 73, .mv (.t 9), some (72, false)⟩,
 .one ⟨some 74, .mv (.t 11), some (72, false)⟩,
 .one ⟨some 75, .bin .add (.t 73) (.t 74), some (72, false)⟩,
 .one ⟨some 76, .bin .neq (.t 75) (.c (.int .i64 0)), some (72, false)⟩,
 zo 77 (.pick (.t 72) (.c (.bool true)) (.t 76))]
def c14k40 : ICode := .kill 312 [5, 6, 7, 8, 9, 10, 11, 12] (.ops c14r40)
@[simp] theorem uc14k40 : Ex F cx (.code c14k40 :: k) ⟨mk 312 l, rows, low⟩ r ↔ bnd (evP rows (.bin .neq (.c (lk l 10)) (.c (lk l 8)))) fun v0 => bnd (gv v0 false (evP rows (.mv (.c (lk l 12))))) fun v1 => bnd (gv v0 false (evP rows (.mv (.c (lk l 8))))) fun v2 => bnd (gv v0 false (evP rows (.bin .neq (.c v1) (.c v2)))) fun v3 => bnd (evP rows (.pick (.c v0) (.c (.bool true)) (.c v3))) fun v4 => bnd (gv v4 false (evP rows (.mv (.c (lk l 9))))) fun v5 => bnd (gv v4 false (evP rows (.mv (.c (lk l 11))))) fun v6 => bnd (gv v4 false (evP rows (.bin .add (.c v5) (.c v6)))) fun v7 => bnd (gv v4 false (evP rows (.bin .neq (.c v7) (.c (.int .i64 0))))) fun v8 => bnd (evP rows (.pick (.c v4) (.c (.bool true)) (.c v8))) fun v9 => Ex F cx k ⟨mk 312 [(77, v9), (76, v8), (75, v7), (74, v6), (73, v5), (72, v4), (71, v4), (70, v3), (69, v2), (68, v1), (67, v0), (66, v0), (65, lk l 8), (64, lk l 10), (5, lk l 5), (6, lk l 6), (7, lk l 7), (8, lk l 8), (9, lk l 9), (10, lk l 10), (11, lk l 11), (12, lk l 12)], rows, low⟩ r := rg [5, 6, 7, 8, 9, 10, 11, 12] c14r40 rfl (by kernel_rfl)
def c14s41 : ICode := (.seq c14k40 c14s39)
@[simp] theorem uc14s41 : Ex F cx (.code c14s41 :: k) s r ↔ Ex F cx (.code (.seq c14k40 c14s39) :: k) s r := Iff.rfl
def c14r42 : List Seg := [
 zo 60 (.loadN 3 (.t 6)),
 zo 61 (.call [] (.c (.func 50 [])) [(.t 60)]),
 zm 59 61,
 zo 62 (.ext (.t 59) 0),
 zo 63 (.ext (.t 59) 1),
 zm 11 62,
 zm 12 63]
def c14k42 : ICode := .kill 312 [5, 6, 7, 8, 9, 10] (.ops c14r42)
@[simp] theorem uc14k42 : Ex F cx (.code c14k42 :: k) ⟨mk 312 l, rows, low⟩ r ↔ bnd (evP rows (.loadN 3 (.c (lk l 6)))) fun v0 => bnd (Ret F 50 [v0] rows) fun q1 => bnd (evP q1.2.1 (.ext (.c q1.1) 0)) fun v2 => bnd (evP q1.2.1 (.ext (.c q1.1) 1)) fun v3 => Ex F cx k ⟨mk 312 [(12, v3), (11, v2), (63, v3), (62, v2), (59, q1.1), (61, q1.1), (60, v0), (5, lk l 5), (6, lk l 6), (7, lk l 7), (8, lk l 8), (9, lk l 9), (10, lk l 10)], q1.2.1, (lowO low q1.2.2)⟩ r := rg [5, 6, 7, 8, 9, 10] c14r42 rfl (by kernel_rfl)
def c14s43 : ICode := (.seq c14k42 c14s41)
@[simp] theorem uc14s43 : Ex F cx (.code c14s43 :: k) s r ↔ Ex F cx (.code (.seq c14k42 c14s41) :: k) s r := Iff.rfl
def c14r44 : List Seg := [
 zo 55 (.loadN 3 (.t 6)),
 zo 56 (.call [] (.c (.func 16 [])) [(.t 55)]),
 zm 54 56,
 zo 57 (.ext (.t 54) 0),
 zo 58 (.ext (.t 54) 1),
 zm 9 57,
 zm 10 58]
def c14k44 : ICode := .kill 312 [5, 6, 7, 8] (.ops c14r44)
@[simp] theorem uc14k44 : Ex F cx (.code c14k44 :: k) ⟨mk 312 l, rows, low⟩ r ↔ bnd (evP rows (.loadN 3 (.c (lk l 6)))) fun v0 => bnd (Ret F 16 [v0] rows) fun q1 => bnd (evP q1.2.1 (.ext (.c q1.1) 0)) fun v2 => bnd (evP q1.2.1 (.ext (.c q1.1) 1)) fun v3 => Ex F cx k ⟨mk 312 [(10, v3), (9, v2), (58, v3), (57, v2), (54, q1.1), (56, q1.1), (55, v0), (5, lk l 5), (6, lk l 6), (7, lk l 7), (8, lk l 8)], q1.2.1, (lowO low q1.2.2)⟩ r := rg [5, 6, 7, 8] c14r44 rfl (by kernel_rfl)
def c14r45 : List Seg := [
 zo 8 (.mv (.c (.int .i64 1)))]
def c14k45 : ICode := .kill 312 [5, 6, 7] (.ops c14r45)
@[simp] theorem uc14k45 : Ex F cx (.code c14k45 :: k) ⟨mk 312 l, rows, low⟩ r ↔ Ex F cx k ⟨mk 312 [(8, (.int .i64 1)), (5, lk l 5), (6, lk l 6), (7, lk l 7)], rows, low⟩ r := rg [5, 6, 7] c14r45 rfl (by kernel_rfl)
def c14s46 : ICode := (.cond (.t 53) (.seq c14k44 c14s43) c14k45)
@[simp] theorem uc14s46 : Ex F cx (.code c14s46 :: k) s r ↔ Ex F cx (.code (.cond (.t 53) (.seq c14k44 c14s43) c14k45) :: k) s r := Iff.rfl
def c14r47 : List Seg := [
 zm 52 8,
 zo 53 (.bin .neq (.t 52) (.c (.int .i64 0)))]
def c14k47 : ICode := .kill 312 [5, 6, 7, 8] (.ops c14r47)
@[simp] theorem uc14k47 : Ex F cx (.code c14k47 :: k) ⟨mk 312 l, rows, low⟩ r ↔ bnd (evP rows (.bin .neq (.c (lk l 8)) (.c (.int .i64 0)))) fun v0 => Ex F cx k ⟨mk 312 [(53, v0), (52, lk l 8), (5, lk l 5), (6, lk l 6), (7, lk l 7), (8, lk l 8)], rows, low⟩ r := rg [5, 6, 7, 8] c14r47 rfl (by kernel_rfl)
def c14s48 : ICode := (.seq (.seq c14k47 c14s46) c14s37)
@[simp] theorem uc14s48 : Ex F cx (.code c14s48 :: k) s r ↔ Ex F cx (.code (.seq (.seq c14k47 c14s46) c14s37) :: k) s r := Iff.rfl
def c14r49 : List Seg := [
 zo 4 (.mv (.c (.bool false)))]
def c14k49 : ICode := .kill 312 [] (.ops c14r49)
@[simp] theorem uc14k49 : Ex F cx (.code c14k49 :: k) ⟨mk 312 l, rows, low⟩ r ↔ Ex F cx k ⟨mk 312 [(4, (.bool false))], rows, low⟩ r := rg [] c14r49 rfl (by kernel_rfl)
def c14s50 : ICode := (.cond (.t 51) (.seq c14k49 .ret) .skip)
@[simp] theorem uc14s50 : Ex F cx (.code c14s50 :: k) s r ↔ Ex F cx (.code (.cond (.t 51) (.seq c14k49 .ret) .skip) :: k) s r := Iff.rfl
def c14r51 : List Seg := [
 zo 48 (.loadN 3 (.t 6)),
 zo 49 (.call [] (.c (.func 59 [])) [(.t 48)]),
 zm 50 8,
 zo 51 (.bin .neq (.t 49) (.t 50))]
def c14k51 : ICode := .kill 312 [5, 6, 7, 8] (.ops c14r51)
@[simp] theorem uc14k51 : Ex F cx (.code c14k51 :: k) ⟨mk 312 l, rows, low⟩ r ↔ bnd (evP rows (.loadN 3 (.c (lk l 6)))) fun v0 => bnd (Ret F 59 [v0] rows) fun q1 => bnd (evP q1.2.1 (.bin .neq (.c q1.1) (.c (lk l 8)))) fun v2 => Ex F cx k ⟨mk 312 [(51, v2), (50, lk l 8), (49, q1.1), (48, v0), (5, lk l 5), (6, lk l 6), (7, lk l 7), (8, lk l 8)], q1.2.1, (lowO low q1.2.2)⟩ r := rg [5, 6, 7, 8] c14r51 rfl (by kernel_rfl)
def c14s52 : ICode := (.seq (.seq c14k51 c14s50) c14s48)
@[simp] theorem uc14s52 : Ex F cx (.code c14s52 :: k) s r ↔ Ex F cx (.code (.seq (.seq c14k51 c14s50) c14s48) :: k) s r := Iff.rfl
def c14r53 : List Seg := [
 zo 8 (.mv (.c (.int .i64 30)))]
def c14k53 : ICode := .kill 312 [5, 6, 7] (.ops c14r53)
@[simp] theorem uc14k53 : Ex F cx (.code c14k53 :: k) ⟨mk 312 l, rows, low⟩ r ↔ Ex F cx k ⟨mk 312 [(8, (.int .i64 30)), (5, lk l 5), (6, lk l 6), (7, lk l 7)], rows, low⟩ r := rg [5, 6, 7] c14r53 rfl (by kernel_rfl)
def c14s54 : ICode := (.cond (.t 47) c14k53 .skip)
@[simp] theorem uc14s54 : Ex F cx (.code c14s54 :: k) s r ↔ Ex F cx (.code (.cond (.t 47) c14k53 .skip) :: k) s r := Iff.rfl
def c14r55 : List Seg := [
 zo 45 (.loadN 3 (.t 5)),
 zo 46 (.call [] (.c (.func 58 [])) [(.t 45)]),
 zo 47 (.un .not (.t 46))]
def c14k55 : ICode := .kill 312 [5, 6, 7, 8] (.ops c14r55)
@[simp] theorem uc14k55 : Ex F cx (.code c14k55 :: k) ⟨mk 312 l, rows, low⟩ r ↔ bnd (evP rows (.loadN 3 (.c (lk l 5)))) fun v0 => bnd (Ret F 58 [v0] rows) fun q1 => bnd (evP q1.2.1 (.un .not (.c q1.1))) fun v2 => Ex F cx k ⟨mk 312 [(47, v2), (46, q1.1), (45, v0), (5, lk l 5), (6, lk l 6), (7, lk l 7), (8, lk l 8)], q1.2.1, (lowO low q1.2.2)⟩ r := rg [5, 6, 7, 8] c14r55 rfl (by kernel_rfl)
def c14s56 : ICode := (.seq (.seq c14k55 c14s54) c14s52)
@[simp] theorem uc14s56 : Ex F cx (.code c14s56 :: k) s r ↔ Ex F cx (.code (.seq (.seq c14k55 c14s54) c14s52) :: k) s r := Iff.rfl
def c14r57 : List Seg := [
 zo 8 (.mv (.c (.int .i64 0)))]
def c14k57 : ICode := .kill 312 [5, 6, 7] (.ops c14r57)
@[simp] theorem uc14k57 : Ex F cx (.code c14k57 :: k) ⟨mk 312 l, rows, low⟩ r ↔ Ex F cx k ⟨mk 312 [(8, (.int .i64 0)), (5, lk l 5), (6, lk l 6), (7, lk l 7)], rows, low⟩ r := rg [5, 6, 7] c14r57 rfl (by kernel_rfl)
def c14s58 : ICode := (.seq c14k57 c14s56)
@[simp] theorem uc14s58 : Ex F cx (.code c14s58 :: k) s r ↔ Ex F cx (.code (.seq c14k57 c14s56) :: k) s r := Iff.rfl
def c14r59 : List Seg := [
 zm 43 1,
 zo 44 (.call [] (.c (.func 21 [])) [(.t 43), (.c (.int .i64 11))]),
 zm 7 44]
def c14k59 : ICode := .kill 312 [1, 5, 6] (.ops c14r59)
@[simp] theorem uc14k59 : Ex F cx (.code c14k59 :: k) ⟨mk 312 l, rows, low⟩ r ↔ bnd (Ret F 21 [lk l 1, (.int .i64 11)] rows) fun q0 => Ex F cx k ⟨mk 312 [(7, q0.1), (44, q0.1), (43, lk l 1), (1, lk l 1), (5, lk l 5), (6, lk l 6)], q0.2.1, (lowO low q0.2.2)⟩ r := rg [1, 5, 6] c14r59 rfl (by kernel_rfl)
def c14s60 : ICode := (.seq c14k59 c14s58)
@[simp] theorem uc14s60 : Ex F cx (.code c14s60 :: k) s r ↔ Ex F cx (.code (.seq c14k59 c14s58) :: k) s r := Iff.rfl
def c14r61 : List Seg := [
 zo 41 (.loadN 3 (.t 5)),
 zo 42 (.call [] (.c (.func 17 [])) [(.t 41)]),
 zo 6 (.box (.c (.agg [.int .i64 0, .nilslice, .nilslice]))),
 .one ⟨none, .storeN 3 (.t 6) (.t 42), none⟩]
def c14k61 : ICode := .kill 312 [1, 5] (.ops c14r61)
@[simp] theorem uc14k61 : Ex F cx (.code c14k61 :: k) ⟨mk 312 l, rows, low⟩ r ↔ bnd (evP rows (.loadN 3 (.c (lk l 5)))) fun v0 => bnd (Ret F 17 [v0] rows) fun q1 => bnd (evE q1.2.1 (lowO low q1.2.2) (.box (.c (.agg [.int .i64 0, .nilslice, .nilslice])))) fun q2 => bnd (evE q2.2.1 q2.2.2 (.storeN 3 (.c q2.1) (.c q1.1))) fun q3 => Ex F cx k ⟨mk 312 [(6, q2.1), (42, q1.1), (41, v0), (1, lk l 1), (5, lk l 5)], q3.2.1, q3.2.2⟩ r := rg [1, 5] c14r61 rfl (by kernel_rfl)
def c14s62 : ICode := (.seq c14k61 c14s60)
@[simp] theorem uc14s62 : Ex F cx (.code c14s62 :: k) s r ↔ Ex F cx (.code (.seq c14k61 c14s60) :: k) s r := Iff.rfl
def c14r63 : List Seg := [
 zo 39 (.loadN 3 (.t 2)),
 zo 40 (.call [] (.c (.func 26 [])) [(.t 39)]),
 zo 5 (.box (.c (.agg [.int .i64 0, .nilslice, .nilslice]))),
 .one ⟨none, .storeN 3 (.t 5) (.t 40), none⟩]
def c14k63 : ICode := .kill 312 [1, 2] (.ops c14r63)
@[simp] theorem uc14k63 : Ex F cx (.code c14k63 :: k) ⟨mk 312 l, rows, low⟩ r ↔ bnd (evP rows (.loadN 3 (.c (lk l 2)))) fun v0 => bnd (Ret F 26 [v0] rows) fun q1 => bnd (evE q1.2.1 (lowO low q1.2.2) (.box (.c (.agg [.int .i64 0, .nilslice, .nilslice])))) fun q2 => bnd (evE q2.2.1 q2.2.2 (.storeN 3 (.c q2.1) (.c q1.1))) fun q3 => Ex F cx k ⟨mk 312 [(5, q2.1), (40, q1.1), (39, v0), (1, lk l 1), (2, lk l 2)], q3.2.1, q3.2.2⟩ r := rg [1, 2] c14r63 rfl (by kernel_rfl)
def c14s64 : ICode := (.seq c14k63 c14s62)
@[simp] theorem uc14s64 : Ex F cx (.code c14s64 :: k) s r ↔ Ex F cx (.code (.seq c14k63 c14s62) :: k) s r := Iff.rfl
def c14r65 : List Seg := [
 zo 2 (.box (.t 0)),
 zo 4 (.mv (.c (.bool false)))]
def c14k65 : ICode := .kill 312 [0, 1] (.ops c14r65)
@[simp] theorem uc14k65 : Ex F cx (.code c14k65 :: k) ⟨mk 312 l, rows, low⟩ r ↔ bnd (evE rows low (.box (.c (lk l 0)))) fun q0 => Ex F cx k ⟨mk 312 [(4, (.bool false)), (2, q0.1), (0, lk l 0), (1, lk l 1)], q0.2.1, q0.2.2⟩ r := rg [0, 1] c14r65 rfl (by kernel_rfl)
def Jc14s19 (F : Nat → Option IFn) (cx : Ctx) (x6 x7 x8 : AV) (rows : List Row) (low : Nat) (r : AV × List Row × Nat → Prop) : Prop := Ex F cx (.code c14s19 :: []) ⟨mk 312 [(6, x6), (7, x7), (8, x8)], rows, low⟩ r
theorem jc14s19 : Ex F cx (.code c14s19 :: []) ⟨mk 312 l, rows, low⟩ r ↔ Jc14s19 F cx (lk l 6) (lk l 7) (lk l 8) rows low r := Ex_canon (keep := [6, 7, 8]) (by kernel_rfl)
def Jc14s23 (F : Nat → Option IFn) (cx : Ctx) (x5 x6 x7 x8 x13 : AV) (rows : List Row) (low : Nat) (r : AV × List Row × Nat → Prop) : Prop := Ex F cx (.code c14s23 :: []) ⟨mk 312 [(5, x5), (6, x6), (7, x7), (8, x8), (13, x13)], rows, low⟩ r
theorem jc14s23 : Ex F cx (.code c14s23 :: []) ⟨mk 312 l, rows, low⟩ r ↔ Jc14s23 F cx (lk l 5) (lk l 6) (lk l 7) (lk l 8) (lk l 13) rows low r := Ex_canon (keep := [5, 6, 7, 8, 13]) (by kernel_rfl)
def Jc14s29 (F : Nat → Option IFn) (cx : Ctx) (x5 x6 x7 x8 x13 : AV) (rows : List Row) (low : Nat) (r : AV × List Row × Nat → Prop) : Prop := Ex F cx (.code c14s29 :: []) ⟨mk 312 [(5, x5), (6, x6), (7, x7), (8, x8), (13, x13)], rows, low⟩ r
theorem jc14s29 : Ex F cx (.code c14s29 :: []) ⟨mk 312 l, rows, low⟩ r ↔ Jc14s29 F cx (lk l 5) (lk l 6) (lk l 7) (lk l 8) (lk l 13) rows low r := Ex_canon (keep := [5, 6, 7, 8, 13]) (by kernel_rfl)
def Jc14s37 (F : Nat → Option IFn) (cx : Ctx) (x5 x6 x7 x8 : AV) (rows : List Row) (low : Nat) (r : AV × List Row × Nat → Prop) : Prop := Ex F cx (.code c14s37 :: []) ⟨mk 312 [(5, x5), (6, x6), (7, x7), (8, x8)], rows, low⟩ r
theorem jc14s37 : Ex F cx (.code c14s37 :: []) ⟨mk 312 l, rows, low⟩ r ↔ Jc14s37 F cx (lk l 5) (lk l 6) (lk l 7) (lk l 8) rows low r := Ex_canon (keep := [5, 6, 7, 8]) (by kernel_rfl)
def Jc14s48 (F : Nat → Option IFn) (cx : Ctx) (x5 x6 x7 x8 : AV) (rows : List Row) (low : Nat) (r : AV × List Row × Nat → Prop) : Prop := Ex F cx (.code c14s48 :: []) ⟨mk 312 [(5, x5), (6, x6), (7, x7), (8, x8)], rows, low⟩ r
def Jc14s52 (F : Nat → Option IFn) (cx : Ctx) (x5 x6 x7 x8 : AV) (rows : List Row) (low : Nat) (r : AV × List Row × Nat → Prop) : Prop := Ex F cx (.code c14s52 :: []) ⟨mk 312 [(5, x5), (6, x6), (7, x7), (8, x8)], rows, low⟩ r
def c14b : ICode := (.seq c14k65 c14s64)
@[simp] theorem uc14b : Ex F cx (.code c14b :: k) s r ↔ Ex F cx (.code (.seq c14k65 c14s64) :: k) s r := Iff.rfl
def c14 : IFn := ⟨312, [.t 4], c14b⟩
def h14 : List (Nat × Nat × List Nat) := [(0, (312, [0, 1])), (1, (312, [1, 2])), (2, (312, [1, 5])), (3, (312, [1, 5, 6])), (4, (312, [5, 6, 7])), (5, (312, [5, 6, 7, 8])), (6, (312, [5, 6, 7])), (7, (312, [5, 6, 7, 8])), (8, (312, [])), (9, (312, [5, 6, 7, 8])), (10, (312, [5, 6, 7, 8])), (11, (312, [5, 6, 7, 8, 9, 10])), (12, (312, [5, 6, 7, 8, 9, 10, 11, 12])), (13, (312, [])), (14, (312, [5, 6, 7])), (15, (312, [5, 6, 7, 8])), (16, (312, [5, 6, 7, 8, 13])), (17, (312, [5, 6, 7, 8, 13, 14, 15])), (18, (312, [])), (19, (312, [5, 6, 7, 8, 13])), (20, (312, [5, 6, 7, 8, 13, 16, 17])), (21, (312, [])), (22, (312, [5, 6, 7, 8, 13])), (23, (312, [])), (24, (312, [6, 7, 8])), (25, (312, [6, 7, 8, 18, 19])), (26, (312, [6, 7, 8, 18, 19, 20, 21])), (27, (312, [6, 7, 8, 18, 19, 20, 21, 22, 23, 24])), (28, (312, [6, 7, 8, 18, 19, 20, 21, 22, 23, 24, 25, 26, 27])), (29, (312, [6, 7, 8, 18, 19, 20, 21, 22, 23, 24, 25, 26, 27, 28, 29, 30])), (30, (312, [6, 7, 8, 18, 19, 20, 21, 22, 23, 24, 25, 26, 27, 28, 29, 30, 31, 32])), (31, (312, [6, 7, 8, 18, 19, 20, 21, 22, 23, 24, 25, 26, 27, 28, 29, 30, 31, 32, 33, 34])), (32, (312, [6, 7, 8, 18, 19, 20, 21, 22, 23, 24, 25, 26, 27, 28, 29, 30, 31, 32, 33, 34, 35, 36])), (33, (312, [8, 18, 19, 20, 21, 22, 23, 24, 25, 26, 27, 28, 29, 30, 31, 32, 33, 34, 35, 36, 37, 38]))]
theorem i14 {x0 x1 : AV} (hF : F 14 = some c14) {q : AV × List Row × Option Nat} (h : Ex F (.fn [.t 4]) [.code c14b] ⟨mk 312 [(0, x0), (1, x1)], rows, rows.length⟩ fun r => fin rows r.1 r.2.1 r.2.2 = q) : Ret F 14 [x0, x1] rows = some q := Ret_mk hF h
end Go.Abs

namespace Go.Abs
abbrev G14 : Nat → Option IFn := more F 14 c14
theorem toG14 {f : Nat} {vs : List AV} {rows : List Row} {q : AV × List Row × Option Nat} (h : Ret F f vs rows = some q) : Ret G14 f vs rows = some q := Ret_ext (more_ext (by kernel_rfl)) h
structure HC (rows C : List Row) (a5 a6 : Nat) (N : Int) (fe : List Int) (m : Nat) (fp : List Int) (k : Nat) (ev1 pv1 ev2 pv2 fv : AV) (l : List Int) : Prop where
 rx : row? C a5 = some [.int .i64 N, ev1, pv1]
 ry : row? C a6 = some [.int .i64 N, ev2, pv2]
 dx : DRd C (.agg [.int .i64 N, ev1, pv1]) N fe m fp k
 dy : DRd C (.agg [.int .i64 N, ev2, pv2]) N fe m fp k
 f : IsL C fv l
 un : ∃ Y, C = rows ++ Y ∧ Und rows Y
section
variable {rows C : List Row} {a5 a6 : Nat} {N : Int} {fe fp l : List Int} {m k : Nat} {ev1 pv1 ev2 pv2 fv g : AV}
theorem HC.app (h : HC rows C a5 a6 N fe m fp k ev1 pv1 ev2 pv2 fv l) {X : List Row} (hX : Und C X) : HC rows (C ++ X) a5 a6 N fe m fp k ev1 pv1 ev2 pv2 fv l := by
 obtain ⟨h1, h2, h3, h4, h5, Y, h8, h9⟩ := h
 exact ⟨row?_old h1 X, row?_old h2 X, DRd_app h3 X, DRd_app h4 X, IsL_app h5 X, Y ++ X, by rw [h8, List.append_assoc], Und_app h9 (by rw [← h8]; exact hX)⟩
theorem opn_0 {b : Bool} {n : Int} (h : opn b n l = 0) : b = true ∧ (l.length : Int) = n ∧ l.any outB = false := by
 unfold opn at h
 cases b with
 | false => simp at h
 |
  true =>
  rw [if_neg (by simp)] at h
  by_cases c : (l.length : Int) = n ∧ l.any outB = false
  ·exact ⟨rfl, c⟩
  ·rw [if_neg c] at h; simp at h
theorem any_bd (h : l.any outB = false) : ∀ x ∈ l, -100 ≤ x ∧ x ≤ 100 := by
 intro x hx
 rw [List.any_eq_false] at h
 have := h x hx
 unfold outB at this
 simp only [decide_eq_true_eq] at this
 omega
theorem DRd_GRd {ev pv : AV} (h : DRd C (.agg [.int .i64 N, ev, pv]) N fe m fp k) (hb : gndB N fe m fp k = true) : ∃ (n : Nat) (ks ps : List Nat), N = (n : Int) ∧ m = ks.length ∧ k = ps.length ∧ GRd C (.agg [.int .i64 N, ev, pv]) n ks ps := by
 obtain ⟨ev', pv', e, he, hp, ce, cp⟩ := h
 obtain ⟨n, ks, ps, e1, e2, e3, e4, e5, hok⟩ := gnd_ok hb (El_num_len he) (El_num_len hp)
 refine ⟨n, ks, ps, e1, e3, e5, hok, ev', pv', ?_, ?_, ?_, ce, cp⟩
 ·rw [e, e1]
 ·rw [← e2, ← e3]; exact he
 ·rw [← e4, ← e5]; exact hp
theorem grad_any {ev pv : AV} (hd : DRd C (.agg [.int .i64 N, ev, pv]) N fe m fp k) (hm : m ≤ 11) (hk : k ≤ 7) (h : IsL C fv l) (hl : l.length ≤ 1000) :
  ∃ q X, Ret F 33 [.agg [.int .i64 N, ev, pv], fv] C = some (.tup [q, .int .i64 (opn (gndB N fe m fp k) N l)], C ++ X, none) ∧ X.all (Row.under 0) = true ∧ (opn (gndB N fe m fp k) N l ≠ 0 → q = .nilslice) := by
 by_cases c : opn (gndB N fe m fp k) N l = 0
 ·obtain ⟨c1, c2, c3⟩ := opn_0 c
  obtain ⟨n, ks, ps, e1, e2, e3, hg⟩ := DRd_GRd hd c1
  obtain ⟨v, X, r, hX, _⟩ := Gradient_ret hg h (by omega) (any_bd c3)
  rw [c]
  exact ⟨v, X, r, hX, fun h => absurd rfl h⟩
 ·refine ⟨.nilslice, [], ?_, rfl, fun _ => rfl⟩
  rw [List.append_nil]
  exact err_33 hd hm hk h hl c
theorem swirl_any {ev pv : AV} (hd : DRd C (.agg [.int .i64 N, ev, pv]) N fe m fp k) (hm : m ≤ 11) (hk : k ≤ 7) (h : IsL C fv l) (hl : l.length ≤ 1000) :
  ∃ q X, Ret F 38 [.agg [.int .i64 N, ev, pv], fv] C = some (.tup [q, .int .i64 (opn (gndB N fe m fp k) (k : Int) l)], C ++ X, none) ∧ X.all (Row.under 0) = true ∧ (opn (gndB N fe m fp k) (k : Int) l ≠ 0 → q = .nilslice) := by
 by_cases c : opn (gndB N fe m fp k) (k : Int) l = 0
 ·obtain ⟨c1, c2, c3⟩ := opn_0 c
  obtain ⟨n, ks, ps, e1, e2, e3, hg⟩ := DRd_GRd hd c1
  obtain ⟨v, X, r, hX, _⟩ := Swirl_ret hg h (by omega) (any_bd c3)
  rw [c]
  exact ⟨v, X, r, hX, fun h => absurd rfl h⟩
 ·refine ⟨.nilslice, [], ?_, rfl, fun _ => rfl⟩
  rw [List.append_nil]
  exact err_38 hd hm hk h hl c
set_option maxRecDepth 10000 in
set_option maxHeartbeats 16000000 in
theorem chk_19 (hA : ∀ H, Und rows H → Ret F 19 [] (rows ++ H) = some (.bool true, rows ++ H, none)) (hC : HC rows C a5 a6 N fe m fp k ev1 pv1 ev2 pv2 fv l) (hm : m ≤ 11) (hk : k ≤ 7) (hl : l.length ≤ 1000) {w : Int} (hw : opn (gndB N fe m fp k) (m : Int) l = w) (h0 : w ≠ 0) :
  Jc14s19 G14 (.fn [.t 4]) (.ptr a6 0) fv (.int .i64 w) C rows.length (fun r => fin rows r.1 r.2.1 r.2.2 = (.bool true, rows, none)) := by
 have hne : opn (gndB N fe m fp k) (m : Int) l ≠ 0 := by rw [hw]; exact h0
 have hlow : rows.length ≤ C.length := by obtain ⟨Y, e, _⟩ := hC.un; rw [e]; simp
 have r22 := toG14 (err_22 hC.dy hm hk hC.f hl hne)
 have r40 := toG14 (err_40 hC.dy hm hk hC.f hl hne)
 have r41 := toG14 (err_41 hC.dy hm hk hC.f hl hne)
 have r47 := toG14 (err_47 hC.dy hm hk hC.f hl hne)
 have H1 := hC.app (X := [.cells [.int .i64 0, .int .i64 1, .int .i64 2]]) (Und_0 rfl)
 obtain ⟨C1, eC1⟩ : ∃ C1, C1 = C ++ [.cells [.int .i64 0, .int .i64 1, .int .i64 2]] := ⟨_, rfl⟩
 rw [← eC1] at H1
 have r36 := toG14 (err_36 (rv := .slice C.length 0 3 (.at_ 3)) H1.dy hm hk H1.f hl hne)
 have r23 := toG14 (err_23 H1.dy hm hk H1.f hl hne)
 have H2 := H1.app (X := [.cells [.nilslice, .nilslice, .nilslice]]) (Und_0 rfl)
 have hP : row? (C1 ++ [.cells [.nilslice, .nilslice, .nilslice]]) C1.length = some [.nilslice, .nilslice, .nilslice] := by simp [row?]
 obtain ⟨C2, eC2⟩ : ∃ C2, C2 = C1 ++ [.cells [.nilslice, .nilslice, .nilslice]] := ⟨_, rfl⟩
 rw [← eC2] at H2 hP
 have r24 := toG14 (err_24 H2.dy hm hk H2.f hl hne)
 have r44 := toG14 (err_44 H2.dy hm hk H2.f hl hne)
 have H3 := H2.app (X := [.cells [.int .i64 0, .int .i64 0, .int .i64 0, .int .i64 0, .int .i64 0, .int .i64 0, .int .i64 0, .int .i64 0]]) (Und_0 rfl)
 have hS : row? (C2 ++ [.cells [.int .i64 0, .int .i64 0, .int .i64 0, .int .i64 0, .int .i64 0, .int .i64 0, .int .i64 0, .int .i64 0]]) C2.length = some [.int .i64 0, .int .i64 0, .int .i64 0, .int .i64 0, .int .i64 0, .int .i64 0, .int .i64 0, .int .i64 0] := by simp [row?]
 have hP3 := row?_old hP [.cells [.int .i64 0, .int .i64 0, .int .i64 0, .int .i64 0, .int .i64 0, .int .i64 0, .int .i64 0, .int .i64 0]]
 obtain ⟨C3, eC3⟩ : ∃ C3, C3 = C2 ++ [.cells [.int .i64 0, .int .i64 0, .int .i64 0, .int .i64 0, .int .i64 0, .int .i64 0, .int .i64 0, .int .i64 0]] := ⟨_, rfl⟩
 rw [← eC3] at H3 hS hP3
 have r51 := toG14 (err_51 H3.dy hm hk H3.f hl hne)
 obtain ⟨Y, eY, uY⟩ := H3.un
 have r19 := toG14 (hA Y uY)
 rw [← eY] at r19
 rw [hw] at r22 r40 r41 r47 r36 r23 r24 r44 r51
 have set_same : ∀ (B : List Row) (y : Row), (B ++ [y]).set B.length y = B ++ [y] := fun B y => by rw [List.set_append_right _ _ (Nat.le_refl _), Nat.sub_self]; rfl
 have hc2 : cells? C2 C1.length = some [.nilslice, .nilslice, .nilslice] := by rw [eC2]; simp [cells?]
 have hs2 : C2.set C1.length (.cells [.nilslice, .nilslice, .nilslice]) = C2 := by rw [eC2]; exact set_same _ _
 have hc3 : cells? C3 C2.length = some [.int .i64 0, .int .i64 0, .int .i64 0, .int .i64 0, .int .i64 0, .int .i64 0, .int .i64 0, .int .i64 0] := by rw [eC3]; simp [cells?]
 have hs3 : C3.set C2.length (.cells [.int .i64 0, .int .i64 0, .int .i64 0, .int .i64 0, .int .i64 0, .int .i64 0, .int .i64 0, .int .i64 0]) = C3 := by rw [eC3]; exact set_same _ _
 have ry0 := hC.ry
 have ry1 := H1.ry
 have ry2 := H2.ry
 have ry3 := H3.ry
 have x0 : idx? 0 3 = some 0 := rfl
 have x1 : idx? 1 3 = some 1 := rfl
 have x2 : idx? 2 3 = some 2 := rfl
 have hl1 : rows.length ≤ C1.length := by rw [eC1]; simp; omega
 have hl2 : rows.length ≤ C2.length := by rw [eC2]; simp; omega
 have w1 : lower rows.length C1.length = rows.length := lower_ge' hl1
 have w2 : lower rows.length C2.length = rows.length := lower_ge' hl2
 have q1 : ∀ B : List Row, row? (B ++ [.cells [.nilslice, .nilslice, .nilslice]]) B.length = some [.nilslice, .nilslice, .nilslice] := fun B => by simp [row?]
 have eqz : eqA (.ints 8) (.agg [.int .i64 0, .int .i64 0, .int .i64 0, .int .i64 0, .int .i64 0, .int .i64 0, .int .i64 0, .int .i64 0]) (.agg [.int .i64 0, .int .i64 0, .int .i64 0, .int .i64 0, .int .i64 0, .int .i64 0, .int .i64 0, .int .i64 0]) = some true := rfl
 have zz : IntKind.i64.wrap 0 = 0 := rfl
 have hfin : fin rows (.bool true) C3 rows.length = (.bool true, rows, none) := by rw [eY]; simp
 unfold Jc14s19
 simp [ry0, seg, r22, r40, r41, r47, fillA, splice, ← eC1, ry1, r36, r23, w1, ← eC2, hc2, hs2, ry2, r24, r44, w2, ← eC3, hc3, hs3, ry3, r51, hS, hP3, x0, x1, x2, zz, eqz, r19, hfin]
theorem opn_f {n : Int} : opn false n l = 30 := rfl
theorem opn_t {n : Int} : opn true n l = if (l.length : Int) = n ∧ l.any outB = false then 0 else 1 := rfl
set_option maxRecDepth 10000 in
set_option maxHeartbeats 16000000 in
theorem chk_23 (hA : ∀ H, Und rows H → Ret F 19 [] (rows ++ H) = some (.bool true, rows ++ H, none)) (hC : HC rows C a5 a6 N fe m fp k ev1 pv1 ev2 pv2 fv l) (hm : m ≤ 11) (hk : k ≤ 7) (hl : l.length ≤ 1000) {w : Int} (hw : w = if gndB N fe m fp k then 1 else 30) :
  Jc14s23 G14 (.fn [.t 4]) (.ptr a5 0) (.ptr a6 0) fv (.int .i64 w) (.bool !gndB N fe m fp k) C rows.length (fun r => fin rows r.1 r.2.1 r.2.2 = (.bool true, rows, none)) := by
 have h19 := fun (h1 : opn (gndB N fe m fp k) (m : Int) l = w) (h2 : w ≠ 0) => chk_19 hA hC hm hk hl h1 h2
 cases hb : gndB N fe m fp k with
 |
  false =>
  rw [hb] at hw h19
  simp only [Bool.false_eq_true, if_false] at hw
  subst hw
  have := h19 rfl (by omega)
  unfold Jc14s23
  simp [-uc14s19, jc14s19]
  simpa using this
 |
  true =>
  rw [hb] at hw h19
  simp only [if_true] at hw
  subst hw
  obtain ⟨ev, pv, e, he, hp, _⟩ := hC.dx
  simp only [AV.agg.injEq, List.cons.injEq, and_true, true_and] at e
  obtain ⟨rfl, rfl⟩ := e
  have r39 := toG14 (Numbers_ret (n := (m : Int)) hC.f (by omega))
  have ln := lenW he
  have rx := hC.rx
  by_cases c : (l.length : Int) = (m : Int) ∧ l.any outB = false
  ·rw [decide_eq_true c] at r39
   obtain ⟨Y, eY, uY⟩ := hC.un
   have r19 := toG14 (hA Y uY)
   have hfin : fin rows (.bool true) (rows ++ Y) rows.length = (.bool true, rows, none) := by simp
   rw [eY] at r39 ln rx ⊢
   unfold Jc14s23
   simp [rx, ln, r39, r19]
  ·rw [decide_eq_false c] at r39
   have := h19 (by rw [opn_t, if_neg c]) (by omega)
   unfold Jc14s23
   simp [rx, ln, r39, -uc14s19, jc14s19]
   simpa using this
set_option maxRecDepth 10000 in
set_option maxHeartbeats 16000000 in
theorem chk_29 (hA : ∀ H, Und rows H → Ret F 19 [] (rows ++ H) = some (.bool true, rows ++ H, none)) (hC : HC rows C a5 a6 N fe m fp k ev1 pv1 ev2 pv2 fv l) (hm : m ≤ 11) (hk : k ≤ 7) (hl : l.length ≤ 1000) {w : Int} (hw : w = if gndB N fe m fp k then 1 else 30) :
  Jc14s29 G14 (.fn [.t 4]) (.ptr a5 0) (.ptr a6 0) fv (.int .i64 w) (.bool !gndB N fe m fp k) C rows.length (fun r => fin rows r.1 r.2.1 r.2.2 = (.bool true, rows, none)) := by
 obtain ⟨q, X, r38, hX, hq⟩ := swirl_any hC.dy hm hk hC.f hl
 have hC1 := hC.app (Und_0 hX)
 have r38 := toG14 r38
 have ry := hC.ry
 have rx := hC1.rx
 have hnext := chk_23 hA hC1 hm hk hl hw
 obtain ⟨ev, pv, e, he, hp, _⟩ := hC1.dx
 simp only [AV.agg.injEq, List.cons.injEq, and_true, true_and] at e
 obtain ⟨rfl, rfl⟩ := e
 have r39 := toG14 (Numbers_ret (n := (k : Int)) hC1.f (by omega))
 have ln := lenW hp
 generalize C ++ X = C1 at *
 cases hb : gndB N fe m fp k with
 |
  false =>
  rw [hb] at hw hnext r38 hq
  simp only [Bool.false_eq_true, if_false] at hw
  subst hw
  rw [opn_f] at r38 hq
  obtain rfl := hq (by omega)
  unfold Jc14s29
  simp [ry, seg, r38, eqA, -uc14s23, jc14s23]
  simpa using hnext
 |
  true =>
  rw [hb] at hw hnext r38 hq
  simp only [if_true] at hw
  subst hw
  rw [opn_t] at r38 hq
  by_cases c : (l.length : Int) = (k : Int) ∧ l.any outB = false
  ·rw [if_pos c] at r38 hq
   rw [decide_eq_true c] at r39
   unfold Jc14s29
   simp [ry, seg, r38, rx, ln, r39, eqA, -uc14s23, jc14s23]
   simpa using hnext
  ·rw [if_neg c] at r38 hq
   rw [decide_eq_false c] at r39
   obtain rfl := hq (by omega)
   unfold Jc14s29
   simp [ry, seg, r38, rx, ln, r39, eqA, -uc14s23, jc14s23]
   simpa using hnext
set_option maxRecDepth 10000 in
set_option maxHeartbeats 16000000 in
theorem chk_37 (hA : ∀ H, Und rows H → Ret F 19 [] (rows ++ H) = some (.bool true, rows ++ H, none)) (hC : HC rows C a5 a6 N fe m fp k ev1 pv1 ev2 pv2 fv l) (hm : m ≤ 11) (hk : k ≤ 7) (hl : l.length ≤ 1000) {w : Int} (hw : w = if gndB N fe m fp k then 1 else 30) :
  Jc14s37 G14 (.fn [.t 4]) (.ptr a5 0) (.ptr a6 0) fv (.int .i64 w) C rows.length (fun r => fin rows r.1 r.2.1 r.2.2 = (.bool true, rows, none)) := by
 have r58 : Ret G14 58 [.agg [.int .i64 N, ev1, pv1]] C = some (.bool (gndB N fe m fp k), C, none) := by
  obtain ⟨ev, pv, e, he, hp, _⟩ := hC.dx
  simp only [AV.agg.injEq, List.cons.injEq, and_true, true_and] at e
  obtain ⟨rfl, rfl⟩ := e
  exact toG14 (RCheck_ret he (by omega) hp (by omega))
 obtain ⟨q, X, r33, hX, hq⟩ := grad_any hC.dy hm hk hC.f hl
 have hC1 := hC.app (Und_0 hX)
 have r33 := toG14 r33
 have rx0 := hC.rx
 have ry := hC.ry
 have rx := hC1.rx
 have hnext := chk_29 hA hC1 hm hk hl hw
 have r39 := toG14 (Numbers_ret (n := N) hC1.f (by omega))
 generalize C ++ X = C1 at *
 cases hb : gndB N fe m fp k with
 |
  false =>
  rw [hb] at hw hnext r33 hq r58
  simp only [Bool.false_eq_true, if_false] at hw
  subst hw
  rw [opn_f] at r33 hq
  obtain rfl := hq (by omega)
  unfold Jc14s37
  simp [rx0, r58, ry, seg, r33, eqA, -uc14s29, jc14s29]
  simpa using hnext
 |
  true =>
  rw [hb] at hw hnext r33 hq r58
  simp only [if_true] at hw
  subst hw
  rw [opn_t] at r33 hq
  by_cases c : (l.length : Int) = N ∧ l.any outB = false
  ·rw [if_pos c] at r33 hq
   rw [decide_eq_true c] at r39
   unfold Jc14s37
   simp [rx0, r58, ry, seg, r33, rx, r39, eqA, -uc14s29, jc14s29]
   simpa using hnext
  ·rw [if_neg c] at r33 hq
   rw [decide_eq_false c] at r39
   obtain rfl := hq (by omega)
   unfold Jc14s37
   simp [rx0, r58, ry, seg, r33, rx, r39, eqA, -uc14s29, jc14s29]
   simpa using hnext
end
set_option maxRecDepth 10000 in
set_option maxHeartbeats 16000000 in
theorem checks_ret {rows : List Row} {ev0 pv0 lv : AV} {N : Int} {fe0 fp0 l : List Int} {m0 k0 : Nat} (he0 : El rows 2 ev0 (nums .i64 fe0) m0) (hp0 : El rows 3 pv0 (nums .i64 fp0) k0) (ce : Cp 2 ev0) (cp : Cp 3 pv0) (hl : IsL rows lv l) (cl : Cp 1 lv)
  (hA : ∀ H, Und rows H → Ret F 19 [] (rows ++ H) = some (.bool true, rows ++ H, none)) :
  Ret G14 14 [.agg [.int .i64 N, ev0, pv0], lv] rows = some (.bool true, rows, none) := by
 have o1 := El_one he0
 have o2 := El_one hp0
 have ue := El_under he0
 have up := El_under hp0
 obtain ⟨R1, hR1⟩ : ∃ R1, R1 = rows ++ [.cells [.int .i64 N, ev0, pv0]] := ⟨_, rfl⟩
 have U0 : Und rows [.cells [.int .i64 N, ev0, pv0]] := by
  have := Und_one (rows := rows) (X := []) (vs := [.int .i64 N, ev0, pv0]) Und_nil (agg_under (under_mono ue (by simp)) (under_mono up (by simp)))
  simpa using this
 have row1 : row? R1 rows.length = some [.int .i64 N, ev0, pv0] := by rw [hR1]; exact row_end
 -- own
 obtain ⟨g1, X1, r26, u1, d1⟩ := own_ret (rows := R1) (N := N) (hR1 ▸ El_app he0 _) (hR1 ▸ El_app hp0 _) ce cp rfl rfl rfl rfl
 have hm : min m0 11 ≤ 11 := by omega
 have hk : min k0 7 ≤ 7 := by omega
 generalize min m0 11 = m at *
 generalize min k0 7 = k at *
 generalize fe0.take (m * 2) = fe at *
 generalize fp0.take (k * 3) = fp at *
 obtain ⟨ev1, pv1, rfl, e1, p1, ce1, cp1⟩ := id d1
 have oe1 := El_one e1
 have op1 := El_one p1
 obtain ⟨B1, hB1⟩ : ∃ B1, B1 = R1 ++ X1 := ⟨_, rfl⟩
 rw [← hB1] at r26 d1 e1 p1
 have ue1 := El_under e1
 have up1 := El_under p1
 have B1e : B1 = rows ++ ([.cells [.int .i64 N, ev0, pv0]] ++ X1) := by rw [hB1, hR1]; simp
 have U1 : Und rows ([.cells [.int .i64 N, ev0, pv0]] ++ X1) := Und_app U0 (by rw [← hR1]; exact u1)
 obtain ⟨B2, hB2⟩ : ∃ B2, B2 = B1 ++ [.cells [.int .i64 N, ev1, pv1]] := ⟨_, rfl⟩
 have row2 : row? B2 B1.length = some [.int .i64 N, ev1, pv1] := by rw [hB2]; exact row_end
 have U2 : Und rows (([.cells [.int .i64 N, ev0, pv0]] ++ X1) ++ [.cells [.int .i64 N, ev1, pv1]]) := Und_one U1 (by
  have e : B1.length = rows.length + ([Row.cells [.int .i64 N, ev0, pv0]] ++ X1).length := by rw [B1e]; simp
  rw [← e]
  exact agg_under (under_mono ue1 (by omega)) (under_mono up1 (by omega)))
 have B2e : B2 = rows ++ (([.cells [.int .i64 N, ev0, pv0]] ++ X1) ++ [.cells [.int .i64 N, ev1, pv1]]) := by rw [hB2, B1e]; simp
 have d2 : DRd B2 (.agg [.int .i64 N, ev1, pv1]) N fe m fp k := by rw [hB2]; exact DRd_app d1 _
 -- given
 obtain ⟨g2, X2, r17, u2, d3⟩ := given_retD d2 hm hk
 obtain ⟨ev2, pv2, rfl, e2, p2, ce2, cp2⟩ := id d3
 have oe2 := El_one e2
 have op2 := El_one p2
 obtain ⟨B3, hB3⟩ : ∃ B3, B3 = B2 ++ X2 := ⟨_, rfl⟩
 rw [← hB3] at r17 d3 e2 p2
 have ue2 := El_under e2
 have up2 := El_under p2
 obtain ⟨Y2, hY2⟩ : ∃ Y2, Y2 = (([Row.cells [.int .i64 N, ev0, pv0]] ++ X1) ++ [.cells [.int .i64 N, ev1, pv1]]) ++ X2 := ⟨_, rfl⟩
 have U3 : Und rows Y2 := by rw [hY2]; exact Und_app U2 (by rw [← B2e]; exact u2)
 have B3e : B3 = rows ++ Y2 := by rw [hB3, B2e, hY2]; simp
 obtain ⟨B4, hB4⟩ : ∃ B4, B4 = B3 ++ [.cells [.int .i64 N, ev2, pv2]] := ⟨_, rfl⟩
 have U4 : Und rows (Y2 ++ [.cells [.int .i64 N, ev2, pv2]]) := Und_one U3 (by
  have e : B3.length = rows.length + Y2.length := by rw [B3e]; simp
  rw [← e]
  exact agg_under (under_mono ue2 (by omega)) (under_mono up2 (by omega)))
 have B4e : B4 = rows ++ (Y2 ++ [.cells [.int .i64 N, ev2, pv2]]) := by rw [hB4, B3e]; simp
 have row4 : row? B4 B3.length = some [.int .i64 N, ev2, pv2] := by rw [hB4]; exact row_end
 have row2' : row? B4 B1.length = some [.int .i64 N, ev1, pv1] := by rw [hB4, hB3]; exact row?_old (row?_old row2 _) _
 have d4 : DRd B4 (.agg [.int .i64 N, ev2, pv2]) N fe m fp k := by rw [hB4]; exact DRd_app d3 _
 have d4' : DRd B4 (.agg [.int .i64 N, ev1, pv1]) N fe m fp k := by rw [hB4, hB3]; exact DRd_app (DRd_app d2 _) _
 -- few
 have hL4 : IsL B4 lv l := by rw [B4e]; exact IsL_app hl _
 have r21 := few_ret hL4 cl (m := 11) (by omega)
 obtain ⟨fv, K, n1, n2, n3, n4⟩ := newW_shape B4 (l.take 11)
 rw [show (l.take 11).length = min l.length 11 from by simp; omega] at n1
 rw [n1] at r21
 have hC : HC rows B4 B1.length B3.length N fe m fp k ev1 pv1 ev2 pv2 lv l := ⟨row2', row4, d4', d4, hL4, _, B4e, U4⟩
 have hK : Und B4 K := Und_0 n4
 obtain ⟨c1, c2, c3, c4, _, c6⟩ := hC.app hK
 have hC5 : HC rows (B4 ++ K) B1.length B3.length N fe m fp k ev1 pv1 ev2 pv2 fv (l.take 11) := ⟨c1, c2, c3, c4, n2, c6⟩
 have hll : (l.take 11).length ≤ 1000 := by simp; omega
 have h37 := chk_37 hA hC5 hm hk hll rfl
 generalize B4 ++ K = B5 at *
 have r58 : Ret G14 58 [.agg [.int .i64 N, ev1, pv1]] B5 = some (.bool (gndB N fe m fp k), B5, none) := by
  obtain ⟨ev, pv, e, he, hp, _⟩ := hC5.dx
  simp only [AV.agg.injEq, List.cons.injEq, and_true, true_and] at e
  obtain ⟨rfl, rfl⟩ := e
  exact toG14 (RCheck_ret he (by omega) hp (by omega))
 have r59 : Ret G14 59 [.agg [.int .i64 N, ev2, pv2]] B5 = some (.int .i64 (if gndB N fe m fp k then 0 else 30), B5, none) := by
  obtain ⟨ev, pv, e, he, hp, _⟩ := hC5.dy
  simp only [AV.agg.injEq, List.cons.injEq, and_true, true_and] at e
  obtain ⟨rfl, rfl⟩ := e
  exact toG14 (Check_ret he (by omega) hp (by omega))
 have r26' := toG14 r26
 have r17' := toG14 r17
 have r21' := toG14 r21
 rw [show ((11 : Nat) : Int) = 11 from rfl] at r21'
 have hlen1 : rows.length ≤ B1.length := by rw [B1e]; simp
 have hlen3 : rows.length ≤ B3.length := by rw [B3e]; simp
 have low1 : lower rows.length B1.length = rows.length := lower_ge' hlen1
 have low3 : lower rows.length B3.length = rows.length := lower_ge' hlen3
 have rx := hC5.rx
 have ry := hC5.ry
 have zz : IntKind.i64.wrap 0 = 0 := rfl
 refine i14 rfl ?_
 cases hb : gndB N fe m fp k with
 |
  false =>
  have r16 := toG14 (err_16 hC5.dy hm hk hb)
  have r50 := toG14 (err_50 hC5.dy hm hk hb)
  rw [hb] at r58 r59 h37
  simp [o1, o2, ← hR1, row1, seg, r26', low1, oe1, op1, cell_end, splice, ← hB2, row2, r17', low3, oe2, op2, ← hB4, r21', rx, r58, ry, r59, r16, r50, zz, -uc14s37, jc14s37]
  simpa using h37
 |
  true =>
  rw [hb] at r58 r59 h37
  simp [o1, o2, ← hR1, row1, seg, r26', low1, oe1, op1, cell_end, splice, ← hB2, row2, r17', low3, oe2, op2, ← hB4, r21', rx, r58, ry, r59, -uc14s37, jc14s37]
  simpa using h37
end Go.Abs

