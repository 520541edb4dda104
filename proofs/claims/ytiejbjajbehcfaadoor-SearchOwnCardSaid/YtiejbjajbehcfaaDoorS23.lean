/- search: the table of the best prices, as it is written. -/
import Derived.Test.YtiejbjajbehcfaaDoorS22
set_option linter.unusedVariables false
set_option linter.unusedSimpArgs false
namespace Go.Abs
open Rd (Cp IsL_one IsL_cells IsL_tail lowO_n)
/-- A group with one store, whose other operations read alone. -/
theorem Ex_grpwQ {E : Nat → Option IFn} {cx : Ctx} {k : List Itm} {r : AV × List Row × Nat → Prop} {rows : List Row} {low n : Nat} {a y : Opd} {sz : Option Nat} {g : List (IOpx × Nat)} {l : List Seg} {sl : List (Nat × AV)} (hp : purePs g = true) :
    Ex E cx (.ops (.grpw a y sz g :: l) :: k) ⟨mk n sl, rows, low⟩ r ↔ runL E (gO n) pO (rows.set (rowOf rows (mk n sl) g a) .dead) low (fun sl' => ∃ r', stored (mk n sl') rows (rowOf rows (mk n sl) g a) a y sz = some r' ∧
      Ex E cx (.ops l :: k) ⟨mk n sl', rows.set (rowOf rows (mk n sl) g a) r', lower low (rowOf rows (mk n sl) g a)⟩ r) g sl := by
  rw [Ex_grpwR]
  generalize rowOf rows (mk n sl) g a = R
  have h1 : (∃ q, evalG (Ret E) (rows.set R .dead) 0 g (mk n sl) [] = some q ∧ ∃ r', stored q.1 rows R a y sz = some r' ∧ Ex E cx (.ops l :: k) ⟨q.1, rows.set R r' ++ q.2.map (·.2), lower low R⟩ r) ↔
      bnd (evalG (Ret E) (rows.set R .dead) 0 g (mk n sl) []) fun q => (fun sl' rows' => ∃ r', stored sl' rows R a y sz = some r' ∧ Ex E cx (.ops l :: k) ⟨sl', rows.set R r' ++ List.drop (rows.set R .dead).length rows', lower low R⟩ r) q.1 (rows.set R .dead ++ q.2.map (·.2)) := by
    simp only [bnd, List.drop_left]
  rw [h1, runG_ok (K := fun sl' rows' => ∃ r', stored sl' rows R a y sz = some r' ∧ Ex E cx (Itm.ops l :: k) ⟨sl', rows.set R r' ++ List.drop (rows.set R Row.dead).length rows', lower low R⟩ r), runL_ok (low := low) g 0 _ hp]
  refine runL_tr (f := mk n) (gO_ok n) (pO_ok n) ?_ g sl
  intro t
  have : List.drop rows.length (rows.set R Row.dead) = [] := List.drop_of_length_le (by simp)
  simp [this]
/-- What 'filled' holds while it works. -/
def TB (rows : List Row) (pv : AV) (T : List Int) (B : List Row) : Prop := ∃ G, B = rows ++ (.cells [pv] :: .cells (nums .i64 T) :: .cells [.ptr (rows.length + 1) 0] :: G)
section
variable {rows B : List Row} {pv : AV} {T T' : List Int}
theorem TB.len (h : TB rows pv T B) : rows.length + 3 ≤ B.length := by obtain ⟨G, rfl⟩ := h; simp <;> omega
theorem TB.app (h : TB rows pv T B) (L : List Row) : TB rows pv T (B ++ L) := by obtain ⟨G, rfl⟩ := h; exact ⟨G ++ L, by simp⟩
theorem TB.g0 (h : TB rows pv T B) : row? B rows.length = some [pv] := by obtain ⟨G, rfl⟩ := h; simp
theorem TB.g1 (h : TB rows pv T B) : row? B (rows.length + 1) = some (nums .i64 T) := by obtain ⟨G, rfl⟩ := h; rw [row?_at]; rfl
theorem TB.g2 (h : TB rows pv T B) : row? B (rows.length + 2) = some [.ptr (rows.length + 1) 0] := by obtain ⟨G, rfl⟩ := h; rw [row?_at]; rfl
theorem TB.c1 (h : TB rows pv T B) : B[rows.length + 1]? = some (.cells (nums .i64 T)) := by obtain ⟨G, rfl⟩ := h; rw [rows_at]; rfl
theorem TB.set (h : TB rows pv T B) : TB rows pv T' (B.set (rows.length + 1) (.cells (nums .i64 T'))) := by obtain ⟨G, rfl⟩ := h; exact ⟨G, by rw [rows_set]; rfl⟩
theorem TB.setN (h : TB rows pv T B) {n : Nat} {x : Row} (hn : rows.length + 3 ≤ n) : TB rows pv T (B.set n x) := by
  obtain ⟨G, rfl⟩ := h
  obtain ⟨m, rfl⟩ : ∃ m, n = rows.length + (m + 3) := ⟨n - rows.length - 3, by omega⟩
  exact ⟨G.set m x, by rw [rows_set]; rfl⟩
theorem TB.take (h : TB rows pv T B) {n : Nat} (hn : rows.length + 3 ≤ n) : TB rows pv T (B.take n) := by
  obtain ⟨G, rfl⟩ := h
  obtain ⟨m, rfl⟩ : ∃ m, n = rows.length + (m + 3) := ⟨n - rows.length - 3, by omega⟩
  exact ⟨G.take m, by rw [List.take_append, List.take_of_length_le (by omega)]; simp⟩
theorem row?_ne {i j : Nat} {x : Row} (h : i ≠ j) : row? (B.set j x) i = row? B i := by
  unfold row?; rw [List.getElem?_set_ne (fun e => h e.symm)]
end
set_option maxHeartbeats 4000000 in
theorem k8_ok {rows R : List Row} {pv : AV} {T : List Int} {cx : Ctx} {k : List Itm} {r : AV × List Row × Nat → Prop} {sl : List (Nat × AV)} {low N8 : Nat} {a b v g : Int} (hTB : TB rows pv T R) (hT : T.length = 338) (h8 : row? R N8 = some [.int .i64 a, .int .i64 b]) (hN : N8 ≠ rows.length + 1)
    (s5 : lk sl 5 = .ptr (rows.length + 2) 0) (s8 : lk sl 8 = .ptr N8 0) (s13 : lk sl 13 = .int .i64 v) (s10 : lk sl 10 = .int .i64 g) (ha : 0 ≤ a ∧ a ≤ 12) (hb : 0 ≤ b ∧ b ≤ 12) :
    Ex F cx (.code c57k8 :: .code c57k7 :: k) ⟨mk 102 sl, R, low⟩ r ↔ bnd (evE (R.set (rows.length + 1) (.cells (nums .i64 (setT T a b v g)))) (lower low (rows.length + 1)) (.store1 (.c (lk sl 9)) (.c (.bool false)))) fun q0 => Ex F cx k ⟨mk 102 [(9, lk sl 9)], q0.2.1, q0.2.2⟩ r := by
  have e5 : row? (R.set (rows.length + 1) .dead) (rows.length + 2) = some [.ptr (rows.length + 1) 0] := by rw [row?_ne (by omega)]; exact hTB.g2
  have e8 : row? (R.set (rows.length + 1) .dead) N8 = some [.int .i64 a, .int .i64 b] := by rw [row?_ne hN]; exact h8
  have i1 : idx? a 13 = some a.toNat := idx?_ok (by omega) (by omega)
  have i2 : idx? b 13 = some b.toNat := idx?_ok (by omega) (by omega)
  have hrow : ∀ l, lk l 5 = .ptr (rows.length + 2) 0 → rowOf R (mk 102 l) [(⟨some 81, .load1 (.t 5), none⟩, 0), (⟨some 82, .fieldA 0 (.t 8), none⟩, 0), (⟨some 83, .load1 (.t 82), none⟩, 2), (⟨some 84, .fieldA 1 (.t 8), none⟩, 0), (⟨some 85, .load1 (.t 84), none⟩, 8), (⟨some 86, .load1 (.t 5), none⟩, 0), (⟨some 87, .fieldA 0 (.t 8), none⟩, 0), (⟨some 88, .load1 (.t 87), none⟩, 64), (⟨some 89, .fieldA 1 (.t 8), none⟩, 0), (⟨some 90, .load1 (.t 89), none⟩, 256), (⟨some 91, .mv (.t 13), none⟩, 0), (⟨some 92, .mv (.t 10), none⟩, 0), (⟨some 93, .nilck (.t 81), none⟩, 1), (⟨some 94, .fieldA 0 (.t 93), none⟩, 4097), (⟨some 95, .idxA 13 13 (.t 94) (.t 83), none⟩, 12295), (⟨some 96, .idxA 13 1 (.t 95) (.t 85), none⟩, 29727), (⟨none, .lenc 0, none⟩, 62495), (⟨some 97, .nilck (.t 86), none⟩, 32), (⟨some 98, .fieldA 169 (.t 97), none⟩, 131104), (⟨some 99, .idxA 13 13 (.t 98) (.t 88), none⟩, 393440)] (.t 96) = rows.length + 1 := by
    intro l hl
    simp [rowOf, rowV, hl, hTB.g2]
  rw [uc57k8, Ex_kill, kill_dead, Ex_ops, uc57r8, Ex_grpwQ rfl, hrow _ (by simpa using s5)]
  simp [runL, runO, IOp.pure, gO, subI, subO, e5, e8, s5, s8, s13, s10, i1, i2, Nat.ble]
  have k1 : a.toNat * 13 + b.toNat < 338 := by omega
  have k2 : 169 + a.toNat * 13 + b.toNat < 338 := by omega
  have k3 : (13 * a + b).toNat = a.toNat * 13 + b.toNat := by omega
  have k4 : (169 + 13 * a + b).toNat = 169 + a.toNat * 13 + b.toNat := by omega
  have hl1 : rows.length + 1 < R.length := by have := hTB.len; omega
  have hl2 : lower (lower low (rows.length + 1)) (rows.length + 1) = lower low (rows.length + 1) := lower_ge (lower_le_id _ _)
  have hc : ∀ vs, cells? (R.set (rows.length + 1) (.cells vs)) (rows.length + 1) = some vs := fun vs => by unfold cells?; rw [List.getElem?_set_self hl1]
  simp [stored, hTB.c1, hT, k1]
  rw [Ex_runQ rfl]
  simp [runQ, runP, runO, IOp.pure, gO, subI, subO, i2, Nat.ble, hc, k2, hT, k3, k4, setT, hl2]
end Go.Abs
