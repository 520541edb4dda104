/- The texts that the row uses, part 6. -/
import Derived.Test.YtichbmhjgbjiiaaDoorBH5
import Derived.AtR
import Derived.Orders
import Derived.KernelRfl
import Derived.Laws.Cells
import Derived.Laws.CopyRow
import Derived.Laws.Append
import Derived.Laws.AppendOwn
import Derived.Laws.Entries
import Derived.ArgAppend
import Derived.ChangeKeysEq
import Derived.WideLaws
import Derived.Laws.Small
import Derived.Laws.StructEq
import Derived.Laws.Cover3
import Derived.Laws.Tables
import Derived.Laws.Rows
import Derived.Below
import Derived.Laws.IdiomCopy
import Derived.RangeFuncNested
import Derived.Test.YtichbmhjgbjiiaaDoorProg
import Derived.Test.YtichbmhjgbjiiaaDoorRows
import Derived.ProofKit
import Derived.LaidMore
import Derived.OpenShut
import Derived.Stop.Joined
import Derived.ChangeSlices
import Derived.SizedLaws
import Derived.SevenTiedAt
import Derived.WalkKit
import Derived.ShutString
import Derived.ChangeOld
import Derived.Carry
set_option linter.unusedVariables false
set_option linter.unusedSimpArgs false
namespace Go.Abs
def rh1 (a b : Nat) (f : Int) (t : HSt) : HSt := if gB t.2 a = true ∧ gB t.2 b = false then (t.1.set b (IntKind.i64.wrap (gI t.1 a + f)), t.2.set b true) else t
def rh2 (a b : Nat) (f : Int) (t : HSt) : HSt := if gB t.2 b = true ∧ gB t.2 a = false then (t.1.set a (IntKind.i64.wrap (gI t.1 b - f)), t.2.set a true) else t
theorem rhO_eq {a b : Nat} {f : Int} {t : HSt} : rhO a b f t = rh2 a b f (rh1 a b f t) := rfl
theorem rh1_len {a b : Nat} {f : Int} {t : HSt} : (rh1 a b f t).1.length = t.1.length ∧ (rh1 a b f t).2.length = t.2.length := by
 unfold rh1; split <;> simp
theorem rh2_len {a b : Nat} {f : Int} {t : HSt} : (rh2 a b f t).1.length = t.1.length ∧ (rh2 a b f t).2.length = t.2.length := by
 unfold rh2; split <;> simp
section
variable {B M : List Row} {N : Nat} {ks ps : List Nat} {x1 ev pv n0 : AV} {fl : List Int} {low : Nat} {c : Cap} {r : AV × List Row × Nat → Prop}
set_option maxHeartbeats 8000000 in
theorem rh_s23 {x10 : AV} {A C i : Nat} {t : HSt} (hf : IsL B x1 fl) (hi : i < fl.length) (hi2 : i ≤ 10) (hlow : low ≤ B.length) (h1 : t.1.length = N) (h2 : t.2.length = N) (hA : A < N) (hC : C < N)
  (hc : Lc48l17 F (.fn [.t 4, .t 5]) x1 (.ptr B.length 0) (.slice (B.length + 1) 0 N c) (.slice (B.length + 2) 0 N c) x10 (.int .i64 (i + 1 : Nat)) (hR B M [n0, ev, pv] (rh2 A C (gI fl i) t)) low r) :
  Jc48s23 F (.fn [.t 4, .t 5]) x1 (.ptr B.length 0) (.slice (B.length + 1) 0 N c) (.slice (B.length + 2) 0 N c) x10 (.int .i64 i) (.int .i64 A) (.int .i64 C) (hR B M [n0, ev, pv] t) low r := by
 have hw : IntKind.i64.wrap ((i : Int) + 1) = ((i + 1 : Nat) : Int) := by rw [wrap64 (by omega) (by omega)]; omega
 have kC := fun (R : List Row) => hR_ki (R := R) (b := B.length + 2) (c := c) hC
 have kA := fun (R : List Row) => hR_ki (R := R) (b := B.length + 2) (c := c) hA
 have hhC := fun (R : List Row) => hR_ki (R := R) (b := B.length + 1) (c := c) hC
 have hhA := fun (R : List Row) => hR_ki (R := R) (b := B.length + 1) (c := c) hA
 have lC := hR_kl (B := B) (M := M) (G := [n0, ev, pv]) (t := t) (i := C) (by omega)
 have lA := hR_kl (B := B) (M := M) (G := [n0, ev, pv]) (t := t) (i := A) (by omega)
 have gC := hR_hl (B := B) (M := M) (G := [n0, ev, pv]) (t := t) (i := C) (by omega)
 have hf' := hR_B (M := M) (G := [n0, ev, pv]) (t := t) hf
 have ix := idxW hf' hi
 have ld := ldW1 hf' hi
 rw [Nat.mul_one] at ix
 unfold rh2 at hc
 unfold Jc48s23
 by_cases cC : gB t.2 C = true
 ·by_cases cA : gB t.2 A = false
  ·rw [if_pos ⟨cC, cA⟩] at hc
   have sh := hR_sh (B := B) (M := M) (G := [n0, ev, pv]) (t := t) (i := A) (x := IntKind.i64.wrap (gI t.1 C - gI fl i)) (by omega) hlow
   have sk := hR_sk (B := B) (M := M) (G := [n0, ev, pv]) (t := (t.1.set A (IntKind.i64.wrap (gI t.1 C - gI fl i)), t.2)) (i := A) (x := true) (by simp; omega) hlow
   generalize hR B M [n0, ev, pv] t = R at *
   simp [kC, lC, cC, kA, lA, cA, hhC, gC, ix, ld, hhA, sh, sk, hw, -evE_store1]
   simpa using hc
  ·have cA' : gB t.2 A = true := by simpa using cA
   rw [if_neg (fun h => cA h.2)] at hc
   generalize hR B M [n0, ev, pv] t = R at *
   simp [kC, lC, cC, kA, lA, cA', hw]
   simpa using hc
 ·have cC' : gB t.2 C = false := by simpa using cC
  rw [if_neg (fun h => cC h.1)] at hc
  generalize hR B M [n0, ev, pv] t = R at *
  simp [kC, lC, cC', hw]
  simpa using hc
set_option maxHeartbeats 8000000 in
theorem rh_edges {x10 : AV} {s : HSt} (hok : GOK N ks ps) (he : El B 2 ev (nums .i64 (eC ks)) ks.length) (hf : IsL B x1 fl) (hfl : fl.length = ks.length) (hlow : low ≤ B.length) (h1 : s.1.length = N) (h2 : s.2.length = N)
  (hk : ∀ (M : List Row) (sl : List (Nat × AV)), lk sl 1 = x1 → lk sl 2 = .ptr B.length 0 → lk sl 6 = .slice (B.length + 1) 0 N c → lk sl 7 = .slice (B.length + 2) 0 N c → lk sl 10 = x10 → Ex F (.fn [.t 4, .t 5]) [.code c48k16, .inLoop c48l15, .inBlock 2, .code c48s14] ⟨mk 135 sl, hR B M [n0, ev, pv] (rhE ks fl s ks.length), low⟩ r) :
  ∀ (d i : Nat) (M : List Row), ks.length - i = d → i ≤ ks.length →
  Lc48l17 F (.fn [.t 4, .t 5]) x1 (.ptr B.length 0) (.slice (B.length + 1) 0 N c) (.slice (B.length + 2) 0 N c) x10 (.int .i64 i) (hR B M [n0, ev, pv] (rhE ks fl s i)) low r := by
 have hek := hok.ek
 have hl : ∀ i, (rhE ks fl s i).1.length = N ∧ (rhE ks fl s i).2.length = N := by
  intro i
  induction i with
  | zero => exact ⟨h1, h2⟩
  |
   succ i ih =>
   show (rhO _ _ _ (rhE ks fl s i)).1.length = N ∧ (rhO _ _ _ (rhE ks fl s i)).2.length = N
   rw [rhO_eq, rh2_len.1, rh2_len.2, rh1_len.1, rh1_len.2]
   exact ih
 intro d
 induction d with
 |
  zero =>
  intro i M hd hi0
  have hi : i = ks.length := by omega
  subst hi
  have he' := hR_B (M := M) (G := [n0, ev, pv]) (t := rhE ks fl s ks.length) hf
  have ln := lenW (El_app he (.cells [n0, ev, pv] :: .cells (nums .i64 (rhE ks fl s ks.length).1) :: .cells (bls (rhE ks fl s ks.length).2) :: M))
  have hg := hR_g (B := B) (M := M) (G := [n0, ev, pv]) (t := rhE ks fl s ks.length)
  have := hk M
  unfold hR at ln hg this ⊢
  unfold Lc48l17
  simp [hg, ln, -uc48k16]
  refine this _ ?_ ?_ ?_ ?_ ?_ <;> simp
 |
  succ d ih =>
  intro i M hd hi0
  have hi : i < ks.length := by omega
  obtain ⟨e1, e2⟩ := eC_a hi
  have hee := hok.ee _ (gN_mem hi)
  have hih := ih (i + 1) M (by omega) (by omega)
  have hE : rhE ks fl s (i + 1) = rhO (gN ks i / 6) (gN ks i % 6) (gI fl i) (rhE ks fl s i) := rfl
  rw [hE, rhO_eq] at hih
  obtain ⟨l1, l2⟩ := hl i
  generalize rhE ks fl s i = t at *
  generalize gN ks i / 6 = A at *
  generalize gN ks i % 6 = C at *
  have hA : A < N := by omega
  have hC : C < N := by omega
  have hs23 := rh_s23 (c := c) (x10 := x10) (t := rh1 A C (gI fl i) t) hf (show i < fl.length by omega) (by omega) hlow (by rw [rh1_len.1]; exact l1) (by rw [rh1_len.2]; exact l2) hA hC hih
  have he' : El (hR B M [n0, ev, pv] t) 2 ev (nums .i64 (eC ks)) ks.length := El_app he _
  have ln := lenW he'
  have hg := hR_g (B := B) (M := M) (G := [n0, ev, pv]) (t := t)
  have kC := fun (R : List Row) => hR_ki (R := R) (b := B.length + 2) (c := c) hC
  have kA := fun (R : List Row) => hR_ki (R := R) (b := B.length + 2) (c := c) hA
  have hhC := fun (R : List Row) => hR_ki (R := R) (b := B.length + 1) (c := c) hC
  have hhA := fun (R : List Row) => hR_ki (R := R) (b := B.length + 1) (c := c) hA
  have lC := hR_kl (B := B) (M := M) (G := [n0, ev, pv]) (t := t) (i := C) (by omega)
  have lA := hR_kl (B := B) (M := M) (G := [n0, ev, pv]) (t := t) (i := A) (by omega)
  have gA := hR_hl (B := B) (M := M) (G := [n0, ev, pv]) (t := t) (i := A) (by omega)
  have hf' := hR_B (M := M) (G := [n0, ev, pv]) (t := t) hf
  have ixf := idxW hf' (show i < fl.length by omega)
  have ldf := ldW1 hf' (show i < fl.length by omega)
  rw [Nat.mul_one] at ixf
  have ix := idxW he' hi
  have i01 : idx? 0 2 = some 0 := rfl
  have i11 : idx? 1 2 = some 1 := rfl
  have w1 := ldW1 he' (j := i * 2) (by rw [eC_len]; omega)
  have w2 := ldW1 he' (j := i * 2 + 1) (by rw [eC_len]; omega)
  rw [← Nat.add_assoc] at w2
  rw [e1] at w1
  rw [e2] at w2
  have sh := hR_sh (B := B) (M := M) (G := [n0, ev, pv]) (t := t) (i := C) (x := IntKind.i64.wrap (gI t.1 A + gI fl i)) (by omega) hlow
  have sk := hR_sk (B := B) (M := M) (G := [n0, ev, pv]) (t := (t.1.set C (IntKind.i64.wrap (gI t.1 A + gI fl i)), t.2)) (i := C) (x := true) (by simp; omega) hlow
  unfold rh1 at hs23
  unfold Lc48l17
  by_cases cA : gB t.2 A = true
  ·by_cases cC : gB t.2 C = false
   ·rw [if_pos ⟨cA, cC⟩] at hs23
    generalize hR B M [n0, ev, pv] t = R at *
    simp [hg, ln, hi, ix, i01, i11, w1, w2, kA, lA, cA, kC, lC, cC, hhA, gA, ixf, ldf, hhC, sh, sk, -evE_store1, -uc48s23, jc48s23]
    simpa using hs23
   ·have cC' : gB t.2 C = true := by simpa using cC
    rw [if_neg (fun h => cC h.2)] at hs23
    generalize hR B M [n0, ev, pv] t = R at *
    simp [hg, ln, hi, ix, i01, i11, w1, w2, kA, lA, cA, kC, lC, cC', -uc48s23, jc48s23]
    simpa using hs23
  ·have cA' : gB t.2 A = false := by simpa using cA
   rw [if_neg (fun h => cA h.1)] at hs23
   generalize hR B M [n0, ev, pv] t = R at *
   simp [hg, ln, hi, ix, i01, i11, w1, w2, kA, lA, cA', -uc48s23, jc48s23]
   simpa using hs23
set_option maxHeartbeats 8000000 in
theorem rh_rounds (hok : GOK N ks ps) (he : El B 2 ev (nums .i64 (eC ks)) ks.length) (hf : IsL B x1 fl) (hfl : fl.length = ks.length) (hb : ∀ x ∈ fl, -100 ≤ x ∧ x ≤ 100) (hlow : low ≤ B.length)
  (hk : ∀ (M : List Row) (sl : List (Nat × AV)), lk sl 1 = x1 → lk sl 2 = .ptr B.length 0 → lk sl 6 = .slice (B.length + 1) 0 N c → Ex F (.fn [.t 4, .t 5]) [.code c48s14] ⟨mk 135 sl, hR B M [.int .i64 N, ev, pv] (rhS ks fl N N), low⟩ r) :
  ∀ (d i : Nat) (M : List Row), N - i = d → i ≤ N →
  Lc48l15 F (.fn [.t 4, .t 5]) x1 (.ptr B.length 0) (.slice (B.length + 1) 0 N c) (.slice (B.length + 2) 0 N c) (.int .i64 i) (hR B M [.int .i64 N, ev, pv] (rhS ks fl N i)) low r := by
 have n6 := hok.n6
 intro d
 induction d with
 |
  zero =>
  intro i M hd h1
  have hi : i = N := by omega
  subst hi
  have := hk M
  unfold Lc48l15
  simp [hR_g, -uc48s14]
  refine this _ ?_ ?_ ?_ <;> simp
 |
  succ d ih =>
  intro i M hd h1
  have hi : i < N := by omega
  have hw : IntKind.i64.wrap ((i : Int) + 1) = ((i + 1 : Nat) : Int) := by rw [wrap64 (by omega) (by omega)]; omega
  have hRI := rhS_RI hok hfl hb i (by omega)
  have := rh_edges (c := c) (n0 := .int .i64 N) (pv := pv) (low := low) (r := r) (x10 := .int .i64 i) (s := rhS ks fl N i) hok he hf hfl hlow hRI.l1 hRI.l2 (fun M' sl s1 s2 s6 s7 s10 => by
   have := ih (i + 1) M' (by omega) (by omega)
   rw [rhS] at this
   simp [s1, s2, s6, s7, s10, hw]
   simpa using this) _ 0 M rfl (Nat.zero_le _)
  unfold Lc48l15
  simp [hR_g, hi]
  simpa [rhE] using this
end
end Go.Abs

namespace Go.Abs
def eqF (xs fl : List Int) : Nat → Nat → Bool
 | 0, _ => true
 | d + 1, i => decide (gI xs i = gI fl i) && eqF xs fl d (i + 1)
theorem eqF_iff {xs fl : List Int} {n : Nat} : ∀ d i, i + d = n → (eqF xs fl d i = true ↔ ∀ j, i ≤ j → j < n → gI xs j = gI fl j)
 |
  0, i, h => by
  simp only [eqF, true_iff]
  intro j h1 h2
  omega
 |
  d + 1, i, h => by
  rw [eqF, Bool.and_eq_true, decide_eq_true_eq, eqF_iff (n := n) d (i + 1) (by omega)]
  constructor
  ·rintro ⟨h1, h2⟩ j hj hj2
   by_cases c : j = i
   ·subst c; exact h1
   ·exact h2 j (by omega) hj2
  ·intro h1
   exact ⟨h1 i (Nat.le_refl _) (by omega), fun j hj hj2 => h1 j (by omega) hj2⟩
theorem eqF_eq {xs fl : List Int} (h : xs.length = fl.length) : eqF xs fl xs.length 0 = decide (xs = fl) := by
 have e : (eqF xs fl xs.length 0 = true) ↔ xs = fl := by
  rw [eqF_iff (n := xs.length) _ _ (by omega)]
  constructor
  ·intro hh
   apply List.ext_getElem h
   intro j h1 h2
   rw [← gI_eq h1, ← gI_eq h2]
   exact hh j (Nat.zero_le _) h1
  ·intro e j _ _
   rw [e]
 by_cases c : xs = fl
 ·rw [e.2 c]; simp [c]
 ·rw [decide_eq_false c]
  cases hb : eqF xs fl xs.length 0 with
  | false => rfl
  | true => exact absurd (e.1 hb) c
theorem fin_slice_b {rows : List Row} {L : List Row} {k o n : Nat} {c : Cap} {vs : List AV} {b : Bool} (h : L[k]? = some (.cells vs)) (hv : vs.all (·.ids.isEmpty) = true) : fin rows (.tup [.slice (rows.length + k) o n c, .bool b]) (rows ++ L) rows.length = (.tup [.slice rows.length o n c, .bool b], rows ++ [.cells vs], none) := by
 have e : ¬ rows.length + k < rows.length := by omega
 unfold fin
 rw [if_pos rfl]
 have hb : (AV.bool b).ids = [] := rfl
 simp only [ids_tup, idsL_cons, idsL_nil, ids_slice, ids_int, hb, List.append_nil, List.all_cons, List.all_nil, Bool.and_true, decide_eq_true_eq]
 rw [if_neg e, rows_at, h]
 simp [hv, AV.plain1, AV.plain, AV.ren1, AV.ren, hb]
section
variable {B M R rows : List Row} {N : Nat} {ks ps : List Nat} {x1 x6 x14 ev pv n0 g : AV} {fl xs : List Int} {low : Nat} {c : Cap} {r : AV × List Row × Nat → Prop}
set_option maxHeartbeats 8000000 in
theorem rh_cmp (hx : IsL R x14 xs) (hf : IsL R x1 fl) (hl : xs.length = fl.length) (hm : fl.length ≤ 1000) (b0 : Bool)
  (h0 : b0 = false → r (.tup [.nilslice, .bool false], R, low)) (h1 : b0 = true → r (.tup [x6, .bool true], R, low)) :
  ∀ (d i : Nat), xs.length - i = d → i ≤ xs.length → eqF xs fl d i = b0 →
  Lc48l2 F (.fn [.t 4, .t 5]) x1 x6 x14 (.int .i64 i) R low r := by
 have ln := lenW hx
 intro d
 induction d with
 |
  zero =>
  intro i hd h hb
  have hi : i = xs.length := by omega
  subst hi
  have := h1 hb.symm
  unfold Lc48l2
  simp [ln]
  exact this
 |
  succ d ih =>
  intro i hd h hb
  have hi : i < xs.length := by omega
  have hw : IntKind.i64.wrap ((i : Int) + 1) = ((i + 1 : Nat) : Int) := by rw [wrap64 (by omega) (by omega)]; omega
  have ix1 := idxW hx hi
  have ld1 := ldW1 hx hi
  have ix2 := idxW hf (show i < fl.length by omega)
  have ld2 := ldW1 hf (show i < fl.length by omega)
  rw [Nat.mul_one] at ix1 ix2
  rw [eqF] at hb
  unfold Lc48l2
  by_cases e : gI xs i = gI fl i
  ·have := ih (i + 1) (by omega) (by omega) (by simpa [e] using hb)
   simp [ln, hi, ix1, ld1, ix2, ld2, e, hw]
   simpa using this
  ·have := h0 (by rw [← hb]; simp [e])
   simp [ln, hi, ix1, ld1, ix2, ld2, e]
   exact this
theorem rep_bls {m : Nat} : List.replicate m (AV.bool false) = bls (List.replicate m false) := by simp [bls]
set_option maxHeartbeats 8000000 in
theorem RHeights_ret (hg : GRd rows g N ks ps) (hf : IsL rows x1 fl) (hfl : fl.length = ks.length) (hb : ∀ x ∈ fl, -100 ≤ x ∧ x ≤ 100) :
  Ret F 48 [g, x1] rows = some (if grad ks (rhS ks fl N N).1 = fl then (.tup [.slice rows.length 0 N (.at_ N), .bool true], rows ++ [.cells (nums .i64 (rhS ks fl N N).1)], none) else (.tup [.nilslice, .bool false], rows, none)) := by
 obtain ⟨ev, pv, rfl, he, hp, _⟩ := id hg.eq
 have hok := hg.ok
 have o1 := El_one he
 have o2 := El_one hp
 have hek := hok.ek
 have n1 := hok.n1
 have n6 := hok.n6
 let Q : AV × List Row × Nat → Prop := fun r => fin rows r.1 r.2.1 r.2.2 = (if grad ks (rhS ks fl N N).1 = fl then (.tup [.slice rows.length 0 N (.at_ N), .bool true], rows ++ [.cells (nums .i64 (rhS ks fl N N).1)], none) else (.tup [.nilslice, .bool false], rows, none))
 have hRI := rhS_RI hok hfl hb N (Nat.le_refl _)
 have tail : ∀ (M : List Row) (sl : List (Nat × AV)), lk sl 1 = x1 → lk sl 2 = .ptr rows.length 0 → lk sl 6 = .slice (rows.length + 1) 0 N (.at_ N) → Ex F (.fn [.t 4, .t 5]) [.code c48s14] ⟨mk 135 sl, hR rows M [.int .i64 N, ev, pv] (rhS ks fl N N), rows.length⟩ Q := by
  intro M sl s1 s2 s6
  have hl := hR_h (B := rows) (M := M) (G := [.int .i64 N, ev, pv]) (t := rhS ks fl N N) (N := N)
  rw [hRI.l1] at hl
  have hgR : GRd (hR rows M [.int .i64 N, ev, pv] (rhS ks fl N N)) (.agg [.int .i64 N, ev, pv]) N ks ps := hg.app _
  obtain ⟨v, X, r49, hX, k1, _⟩ := RGradient_ret' hgR hl hRI.l1 (fun x hx => by
   obtain ⟨i, hi, rfl⟩ := List.mem_iff_getElem.1 hx
   rw [← gI_eq hi]
   have := hRI.bd i (by rw [← hRI.l1]; exact hi)
   omega)
  have hgl := grad_len (ks := ks) (l := (rhS ks fl N N).1)
  have hcmp := rh_cmp (x6 := .slice (rows.length + 1) 0 N (.at_ N)) (low := rows.length) (r := Q) k1 (IsL_app (hR_B (M := M) (G := [.int .i64 N, ev, pv]) (t := rhS ks fl N N) hf) X) (by rw [hgl, hfl]) (by omega) (eqF (grad ks (rhS ks fl N N).1) fl (grad ks (rhS ks fl N N).1).length 0)
   (fun e => by
    rw [eqF_eq (by rw [hgl, hfl]), decide_eq_false_iff_not] at e
    show fin rows _ _ _ = _
    rw [if_neg e]
    simp [hR])
   (fun e => by
    rw [eqF_eq (by rw [hgl, hfl]), decide_eq_true_eq] at e
    show fin rows _ _ _ = _
    rw [if_pos e]
    unfold hR
    rw [List.append_assoc]
    exact fin_slice_b (by rfl) nums_ids) _ 0 rfl (Nat.zero_le _) rfl
  have hgg := hR_g (B := rows) (M := M) (G := [.int .i64 N, ev, pv]) (t := rhS ks fl N N)
  simp [s1, s2, s6, hgg, seg, r49]
  simpa using hcmp
 have start : ∀ (M : List Row) (sl : List (Nat × AV)), lk sl 1 = x1 → lk sl 2 = .ptr rows.length 0 → lk sl 6 = .slice (rows.length + 1) 0 N (.at_ N) → lk sl 7 = .slice (rows.length + 2) 0 N (.at_ N) → Ex F (.fn [.t 4, .t 5]) [.code c48s40] ⟨mk 135 sl, hR rows M [.int .i64 N, ev, pv] (List.replicate N 0, (List.range N).map fun (v : Nat) => decide (gI (pcS ks N N) v = (v : Int))), rows.length⟩ Q := by
  intro M sl s1 s2 s6 s7
  have := rh_rounds (c := .at_ N) (low := rows.length) (r := Q) (pv := pv) hok he hf hfl hb (Nat.le_refl _) tail _ 0 M rfl (Nat.zero_le _)
  simp [s1, s2, s6, s7]
  simpa [rhS] using this
 have hlim : (N : Int) ≤ lim := by simp [lim]; omega
 obtain ⟨B1, hB1⟩ : ∃ B1, B1 = hR rows [] [.int .i64 N, ev, pv] (List.replicate N 0, List.replicate N false) := ⟨_, rfl⟩
 have hB1' : rows ++ [.cells [.int .i64 N, ev, pv], .cells (nums .i64 (List.replicate N 0)), .cells (bls (List.replicate N false))] = B1 := by rw [hB1]; rfl
 obtain ⟨v, X, r31, hX, k1, _⟩ := RPieces_ret (rows := B1) (by rw [hB1]; exact hg.app _)
 have hknown := known_loop (B := rows) (M := X) (N := N) (ev := ev) (pv := pv) (c := .at_ N) (hs := List.replicate N 0) (r := Q) (x1 := x1) (x8 := v) n6 (pcS_len (ks := ks) N) (Nat.le_refl _) start N 0 rfl (Nat.zero_le _) (by
  rw [hB1, hR_app] at k1
  simpa using k1)
 have hBX : B1 ++ X = hR rows X [.int .i64 N, ev, pv] (List.replicate N 0, List.replicate N false) := by rw [hB1, hR_app]; rfl
 have hgg : row? B1 rows.length = some [.int .i64 N, ev, pv] := by rw [hB1]; exact hR_g
 have hgX : evP (hR rows X [.int .i64 N, ev, pv] (List.replicate N 0, List.replicate N false)) (.load1 (.c (.ptr rows.length 0))) = some (.int .i64 N) := by simp [hR_g]
 refine i48 F48 ?_
 simp [o1, o2, hlim, rep_nums, rep_bls, hB1', hgg, seg, r31, hBX]
 simpa using hknown
end
end Go.Abs

namespace Go.Abs
def swS' (l : List Int) (n : Nat) : Nat → List Int
 | 0 => l
 | i + 1 => ((swS' l n i).set i (gI (swS' l n i) (n - 1 - i))).set (n - 1 - i) (gI (swS' l n i) i)
theorem swS'_len {l : List Int} {n : Nat} : ∀ i, (swS' l n i).length = l.length
 | 0 => rfl
 | i + 1 => by simp [swS', swS'_len i]
theorem swS'_get {l : List Int} {n : Nat} (hn : n ≤ l.length) : ∀ i, 2 * i ≤ n → ∀ k, gI (swS' l n i) k = if k < i ∨ (n - i ≤ k ∧ k < n) then gI l (n - 1 - k) else gI l k
 |
  0, _, k => by
  rw [if_neg (by omega)]
  rfl
 |
  i + 1, hi, k => by
  have ih := swS'_get hn i (by omega)
  have hl := swS'_len (l := l) (n := n) i
  rw [swS', gI_set (by rw [List.length_set, hl]; omega)]
  by_cases c1 : k = n - 1 - i
  ·subst c1
   rw [if_pos rfl, if_pos (by omega), ih, if_neg (by omega)]
   congr 1
   omega
  ·rw [if_neg c1, gI_set (by rw [hl]; omega)]
   by_cases c2 : k = i
   ·subst c2
    rw [if_pos rfl, if_pos (by omega), ih, if_neg (by omega)]
   ·rw [if_neg c2, ih]
    by_cases c3 : k < i ∨ (n - i ≤ k ∧ k < n)
    ·rw [if_pos c3, if_pos (by omega)]
    ·rw [if_neg c3, if_neg (by omega)]
def revP (l : List Int) (n : Nat) : List Int := (l.take n).reverse ++ l.drop n
theorem swS'_rev {l : List Int} {n : Nat} (hn : n ≤ l.length) : swS' l n (n / 2) = revP l n := by
 have e1 := swS'_len (l := l) (n := n) (n / 2)
 show swS' l n (n / 2) = (l.take n).reverse ++ l.drop n
 have e2 : ((l.take n).reverse ++ l.drop n).length = l.length := by simp; omega
 apply List.ext_getElem (by rw [e1, e2])
 intro k h1 h2
 rw [← gI_eq h1, swS'_get hn (n / 2) (by omega)]
 rw [e2] at h2
 by_cases c : k < n
 ·rw [List.getElem_append_left (by simp; omega), List.getElem_reverse, List.getElem_take]
  have e3 : (List.take n l).length - 1 - k = n - 1 - k := by simp; omega
  by_cases c2 : k < n / 2 ∨ (n - n / 2 ≤ k ∧ k < n)
  ·rw [if_pos c2, gI_eq (by omega)]
   congr 1
   omega
  ·rw [if_neg c2, gI_eq (by omega)]
   congr 1
   omega
 ·rw [if_neg (by omega), List.getElem_append_right (by simp; omega), List.getElem_drop, gI_eq h2]
  congr 1
  simp
  omega
section
variable {F : Nat → Option IFn} {cx : Ctx} {k : List Itm} {r : AV × List Row × Nat → Prop}
theorem evalG_idxS {B : Nat → List Row} {i d b n : Nat} {l : List (Nat × AV)} {g : List (IOpx × Nat)} {z : Nat} {x y : Opd} : evalG (Ret F) B i ((⟨some d, .idxS z x y, none⟩, b) :: g) (mk n l) [] = (evP (B i) (.idxS z (subO (getO (mk n l)) x) (subO (getO (mk n l)) y))).bind fun v => evalG (Ret F) B (i + 1) g (mk n ((d, v) :: l)) [] := evalG_p rfl
end
section
variable {k : List Itm} {cx : Ctx} {r : AV × List Row × Nat → Prop}
theorem rev_ops {l0 : List (Nat × AV)} {R : List Row} {low : Nat} : Ex F cx (.ops [.one ⟨some 27, .idxS 1 (.t 16) (.t 17), none⟩, .one ⟨none, .store1 (.t 27) (.t 25), none⟩] :: k) ⟨mk 28 l0, R, low⟩ r ↔
  bnd (evP R (.idxS 1 (.c (lk l0 16)) (.c (lk l0 17)))) fun v => bnd (evE R low (.store1 (.c v) (.c (lk l0 25)))) fun q => Ex F cx k ⟨mk 28 ((27, v) :: l0), q.2.1, q.2.2⟩ r := by
 rw [Ex_runQ rfl]
 exact Iff.rfl
set_option maxHeartbeats 8000000 in
theorem rev_k2 {R : List Row} {id low i j n : Nat} {c : Cap} {l : List Int} {sl : List (Nat × AV)} (hW : R[id]? = some (.cells (nums .i64 l))) (hi : i < n) (hj : j < n) (hn : n ≤ l.length)
  (s0 : lk sl 0 = .slice id 0 n c) (s2 : lk sl 2 = .int .i64 i) (s3 : lk sl 3 = .int .i64 j)
  (h : ∀ sl', (∀ j ∈ [0, 2, 3], lk sl' j = lk sl j) → Ex F cx k ⟨mk 28 sl', R.set id (.cells (nums .i64 ((l.set i (gI l j)).set j (gI l i)))), lower low id⟩ r) :
  Ex F cx (.code c82k2 :: k) ⟨mk 28 sl, R, low⟩ r := by
 have hWl := (List.getElem?_eq_some_iff.1 hW).1
 have hrow : row? R id = some (nums .i64 l) := by unfold row?; rw [hW]
 have hm : maskR R id i 1 = R.set id (.cells (splice (nums .i64 l) i [.any])) := by unfold maskR; rw [hW]; rfl
 have hli : (nums .i64 l)[i]? = some (.int .i64 (gI l i)) := by rw [nums_get, gI_get (by omega)]; rfl
 have hlj : (nums .i64 l)[j]? = some (.int .i64 (gI l j)) := by rw [nums_get, gI_get (by omega)]; rfl
 have iI : idx? (i : Int) n = some i := by rw [idx?_ok (by omega) (by omega), Int.toNat_natCast]
 have iJ : idx? (j : Int) n = some j := by rw [idx?_ok (by omega) (by omega), Int.toNat_natCast]
 have t7 : Nat.testBit 8179 7 = true := by decide
 have t11 : Nat.testBit 8179 11 = true := by decide
 have pI : ∀ R : List Row, evP R (.idxS 1 (.c (.slice id 0 n c)) (.c (.int .i64 i))) = some (.ptr id i) := fun R => by
  show evalP R (getO []) _ = _
  unfold evalP
  simp [getO, iI]
 have pJ : ∀ R : List Row, evP R (.idxS 1 (.c (.slice id 0 n c)) (.c (.int .i64 j))) = some (.ptr id j) := fun R => by
  show evalP R (getO []) _ = _
  unfold evalP
  simp [getO, iJ]
 rw [uc82k2, Ex_kill, kill_dead, Ex_ops, uc82r2, Ex_grpwR]
 simp [evalG_mv, evalG_idxS, evalG_load1, evalG_lenc, evalG_nil, subO, s0, s2, s3, pI, pJ, hrow, hli, hlj, hm, baseW, stored, t7, t11]
 refine ⟨id, i, ⟨rfl, rfl⟩, ?_⟩
 have hlen : (nums .i64 l).length = l.length := by simp [nums]
 have hset1 : (nums .i64 l).set i (.int .i64 (gI l j)) = nums .i64 (l.set i (gI l j)) := by simp [nums, List.map_set]
 have hset2 : (nums .i64 (l.set i (gI l j))).set j (.int .i64 (gI l i)) = nums .i64 ((l.set i (gI l j)).set j (gI l i)) := by simp [nums, List.map_set]
 have hcel : cells? (R.set id (.cells (nums .i64 (l.set i (gI l j))))) id = some (nums .i64 (l.set i (gI l j))) := by unfold cells?; rw [List.getElem?_set_self hWl]
 have hlen2 : (nums .i64 (l.set i (gI l j))).length = l.length := by simp [nums]
 have hset3 : (R.set id (.cells (nums .i64 (l.set i (gI l j))))).set id (.cells (nums .i64 ((l.set i (gI l j)).set j (gI l i)))) = R.set id (.cells (nums .i64 ((l.set i (gI l j)).set j (gI l i)))) := by rw [List.set_set]
 refine ⟨_, by simp [hW, hlen, show i < l.length by omega, hset1]; rfl, ?_⟩
 have hll : lower (lower low id) id = lower low id := by unfold lower; split <;> simp <;> omega
 try simp only [List.map_nil, List.append_nil]
 rw [rev_ops]
 simp [pJ, hcel, hlen2, show j < l.length by omega, hset2, hset3, hll]
 refine h _ ?_
 intro j hj
 simp only [List.mem_cons, List.not_mem_nil, or_false] at hj
 rcases hj with rfl | rfl | rfl <;> simp [s0, s2, s3]
end
end Go.Abs

namespace Go.Abs
section
variable {R : List Row} {id n low : Nat} {c : Cap} {l : List Int}
set_option maxHeartbeats 4000000 in
theorem rev_loop {r : AV × List Row × Nat → Prop} (hid : id < R.length) (hn : n ≤ l.length) (hn2 : n ≤ 1000)
  (hk : r (.tup [], R.set id (.cells (nums .i64 (revP l n))), if n < 2 then R.length else id)) :
  ∀ (d i : Nat), n / 2 - i = d → i ≤ n / 2 →
  Lc82l0 F (.fn []) (.slice id 0 n c) (.int .i64 i) (.int .i64 ((n : Int) - 1 - i)) (R.set id (.cells (nums .i64 (swS' l n i)))) (if i = 0 then R.length else id) r := by
 intro d
 induction d with
 |
  zero =>
  intro i hd hi
  have hi2 : i = n / 2 := by omega
  subst hi2
  rw [swS'_rev hn]
  have e : (if n / 2 = 0 then R.length else id) = if n < 2 then R.length else id := by
   by_cases c : n < 2
   ·rw [if_pos c, if_pos (by omega)]
   ·rw [if_neg c, if_neg (by omega)]
  rw [e]
  unfold Lc82l0
  have e2 : ¬ ((n : Int) / 2 < (n : Int) - 1 - (n : Int) / 2) := by omega
  simp [e2]
  simpa using hk
 |
  succ d ih =>
  intro i hd hi
  have hw : IntKind.i64.wrap ((i : Int) + 1) = ((i + 1 : Nat) : Int) := by rw [wrap64 (by omega) (by omega)]; omega
  have hw2 : IntKind.i64.wrap ((n : Int) - 1 - i - 1) = (n : Int) - 1 - ((i + 1 : Nat) : Int) := by rw [wrap64 (by omega) (by omega)]; omega
  have e2 : (i : Int) < (n : Int) - 1 - (i : Int) := by omega
  have ih' := ih (i + 1) (by omega) (by omega)
  rw [if_neg (by omega)] at ih'
  have hW : (R.set id (.cells (nums .i64 (swS' l n i))))[id]? = some (.cells (nums .i64 (swS' l n i))) := by rw [List.getElem?_set_self hid]
  have hlow : lower (if i = 0 then R.length else id) id = id := by
   by_cases c : i = 0
   ·rw [if_pos c]; unfold lower; rw [if_pos hid]
   ·rw [if_neg c]; unfold lower; rw [if_neg (Nat.lt_irrefl _)]
  have hs : swS' l n (i + 1) = ((swS' l n i).set i (gI (swS' l n i) (n - 1 - i))).set (n - 1 - i) (gI (swS' l n i) i) := rfl
  unfold Lc82l0
  simp [e2, -uc82k2]
  refine rev_k2 (id := id) (i := i) (j := n - 1 - i) (n := n) (c := c) hW (by omega) (by omega) (by rw [swS'_len]; exact hn) (by simp) (by simp) (by simp; omega) (fun sl' hsl => ?_)
  rw [hlow, List.set_set, ← hs]
  have s0 := hsl 0 (by simp)
  have s2 := hsl 2 (by simp)
  have s3 := hsl 3 (by simp)
  simp at s0 s2 s3
  simp [s0, s2, s3, hw, hw2]
  simpa using ih'
theorem Reverse_ret (hr : R[id]? = some (.cells (nums .i64 l))) (hn : n ≤ l.length) (hn2 : n ≤ 1000) : ∃ o, Ret F 82 [.slice id 0 n c] R = some (.tup [], R.set id (.cells (nums .i64 (revP l n))), o) ∧ (o = none ∨ o = some id) := by
 have hid := (List.getElem?_eq_some_iff.1 hr).1
 have hR0 : R.set id (.cells (nums .i64 l)) = R := by
  apply List.ext_getElem?
  intro i
  by_cases c : i = id
  ·subst c; rw [List.getElem?_set_self hid, hr]
  ·rw [List.getElem?_set_ne (fun h => c h.symm)]
 have hfin : fin R (.tup []) (R.set id (.cells (nums .i64 (revP l n)))) (if n < 2 then R.length else id) = (.tup [], R.set id (.cells (nums .i64 (revP l n))), if n < 2 then none else some id) := by
  by_cases c : n < 2
  ·rw [if_pos c, if_pos c]
   have e : revP l n = l := by
    unfold revP
    have : (l.take n).reverse = l.take n := by
     have h1 : (l.take n).length ≤ 1 := by simp; omega
     match l.take n, h1 with
     | [], _ => rfl
     | [x], _ => rfl
    rw [this, List.take_append_drop]
   rw [e, hR0]
   simp [fin, AV.ids, idsL_nil]
  ·rw [if_neg c, if_neg c, fin_lt (by omega)]
   rcases gc_cases R.length id (.tup []) (R.set id (.cells (nums .i64 (revP l n)))) with h | ⟨h, _⟩
   ·rw [h]
   ·rw [h, List.take_of_length_le (by simp)]
 have hl := rev_loop (R := R) (c := c) (r := fun r => fin R r.1 r.2.1 r.2.2 = (.tup [], R.set id (.cells (nums .i64 (revP l n))), if n < 2 then none else some id)) hid hn hn2 hfin _ 0 rfl (Nat.zero_le _)
 rw [if_pos rfl] at hl
 have e0 : swS' l n 0 = l := rfl
 rw [e0, hR0] at hl
 have hw : IntKind.i64.wrap ((n : Int) - 1) = (n : Int) - 1 := wrap64 (by omega) (by omega)
 refine ⟨if n < 2 then none else some id, i82 F82 ?_, ?_⟩
 ·simp [hw]
  simpa using hl
 ·split
  ·exact .inl rfl
  ·exact .inr rfl
end
def pth (D : List Int) : Nat → Nat → List Int
 | 0, v => [(v : Int)]
 | n + 1, v => if gI D v = v then [(v : Int)] else (v : Int) :: pth D n (gI D v).toNat
def Pok (D : List Int) : Nat → Nat → Prop
 | 0, v => v < 6 ∧ gI D v = v
 | n + 1, v => v < 6 ∧ (gI D v = v ∨ ∃ u : Nat, gI D v = u ∧ u ≠ v ∧ Pok D n u)
theorem pth_len {D : List Int} : ∀ n v, 1 ≤ (pth D n v).length ∧ (pth D n v).length ≤ n + 1
 | 0, v => by simp [pth]
 |
  n + 1, v => by
  rw [pth]
  split
  ·simp
  ·have := pth_len (D := D) n (gI D v).toNat
   simp only [List.length_cons]
   omega
def pcap (l : List Int) : Cap := if l.length = 1 then .at_ 1 else .op 1
set_option maxHeartbeats 8000000 in
theorem back_ret {W P1 P2 : Nat} {D : List Int} (hD : D.length = 13) : ∀ (n v : Nat) (R : List Row), n ≤ 10 → Pok D n v → row? R W = some (nums .i64 D) → row? R P1 = some [.ptr W 0] → row? R P2 = some [.func 81 [.ptr P1 0, .ptr P2 0]] →
  Ret F 81 [.int .i64 v, .ptr P1 0, .ptr P2 0] R = some (.slice R.length 0 (pth D n v).length (pcap (pth D n v)), R ++ [.cells (nums .i64 (pth D n v))], none) := by
 have base : ∀ (v : Nat) (R : List Row), v < 6 → gI D v = v → row? R W = some (nums .i64 D) → row? R P1 = some [.ptr W 0] → row? R P2 = some [.func 81 [.ptr P1 0, .ptr P2 0]] →
   Ret F 81 [.int .i64 v, .ptr P1 0, .ptr P2 0] R = some (.slice R.length 0 1 (.at_ 1), R ++ [.cells (nums .i64 [(v : Int)])], none) := by
  intro v R hv he hW h1 h2
  have iV : idx? (v : Int) 6 = some v := by rw [idx?_ok (by omega) (by omega), Int.toNat_natCast]
  have hvl : v < D.length := by omega
  have hDv : D[v] = (v : Int) := by rw [← gI_eq hvl]; exact he
  have hf := fin_slice (rows := R) (L := [.cells [.int .i64 (v : Int)]]) (k := 0) (o := 0) (n := 1) (c := .at_ 1) rfl rfl
  refine i81 F81 ?_
  simp [hW, h1, iV, hvl, hDv, fillA, splice]
  simpa [nums] using hf
 intro n
 induction n with
 |
  zero =>
  intro v R hn hP hW h1 h2
  exact base v R hP.1 hP.2 hW h1 h2
 |
  succ n ih =>
  intro v R hn hP hW h1 h2
  obtain ⟨hv, hP⟩ := hP
  by_cases e : gI D v = v
  ·rw [pth, if_pos e]
   exact base v R hv e hW h1 h2
  ·rw [pth, if_neg e]
   rcases hP with e' | ⟨u, eu, hne, hPu⟩
   ·exact absurd e' e
   have iV : idx? (v : Int) 6 = some v := by rw [idx?_ok (by omega) (by omega), Int.toNat_natCast]
   have hvl : v < D.length := by omega
   have hDv : D[v] = (u : Int) := by rw [← gI_eq hvl]; exact eu
   have hne' : ¬ ((u : Int) = v) := by omega
   rw [eu, Int.toNat_natCast]
   have r81 := ih u (R ++ [.dead]) (by omega) hPu (row?_old hW _) (row?_old h1 _) (row?_old h2 _)
   obtain ⟨q1, q2⟩ := pth_len (D := D) n u
   generalize pth D n u = p at *
   have hx : El (R ++ [.cells [.int .i64 (v : Int)], .cells (nums .i64 p)]) 1 (.slice (R.length + 1) 0 p.length (pcap p)) (nums .i64 p) p.length := by
    have hr : row? (R ++ [.cells [.int .i64 (v : Int)], .cells (nums .i64 p)]) (R.length + 1) = some (nums .i64 p) := by simp [row?]
    exact IsL_mk (n := 0) hr (by rw [nums_seg, if_pos (by omega)]; simp)
   have hap := app_at (low := R.length) (b := 8) (sz := 1) (id := R.length) (off := 0) (n := 1) (c := 1) (xs := [.int .i64 (v : Int)]) (vs := [.int .i64 (v : Int)]) (by simp [row?]) (by simp [seg]) hx (by omega) (by simp [lim]; omega) (by omega)
   have hc : pcap ((v : Int) :: p) = .op 1 := by unfold pcap; rw [if_neg (by simp only [List.length_cons]; omega)]
   have hf := fin_slice (rows := R) (L := [.cells [.int .i64 (v : Int)], .cells (nums .i64 p), .cells (nums .i64 ((v : Int) :: p))]) (k := 2) (o := 0) (n := p.length + 1) (c := .op 1) rfl nums_ids
   have t1 : Nat.testBit 508 1 = false := by decide
   have hcons : [AV.int .i64 (v : Int)] ++ nums .i64 p = nums .i64 ((v : Int) :: p) := rfl
   rw [hcons, show 1 + p.length = p.length + 1 from Nat.add_comm _ _] at hap
   simp only [List.length_append, List.length_cons, List.length_nil, Nat.zero_add, List.append_assoc, List.cons_append, List.nil_append] at r81 hap
   have hlw : lower R.length R.length = R.length := lower_ge' (Nat.le_refl _)
   refine i81 F81 ?_
   simp [hW, h1, h2, iV, hvl, hDv, hne', fillA, maskE, drop_mapL, Function.comp_def, t1, opC, targetC, r81, hap, hc, lowO, splice, row?_old hW, row?_old h1, row?_old h2]
   simpa using hf
end Go.Abs

namespace Go.Abs
section
variable {B R : List Row} {N : Nat} {ks ps : List Nat} {x1 ev : AV} {fl D : List Int} {low : Nat} {r : AV × List Row × Nat → Prop}
set_option maxHeartbeats 8000000 in
theorem Ring_loop {W P1 P2 : Nat} (hok : GOK N ks ps) (hlow : low ≤ B.length) (he : El B 2 ev (nums .i64 (eC ks)) ks.length) (hf : IsL B x1 fl) (hfl : fl.length = ks.length) (hW : row? B W = some (nums .i64 D)) (hD : D.length = 13) (h1 : row? B P1 = some [.ptr W 0])
  (hr0 : agr ks fl D ks.length 0 = true → ∀ L, r (.tup [.nilslice, .bool false, .int .i64 0], B ++ L, low))
  (hr1 : ∀ i L, i < ks.length → ¬ IntKind.i64.wrap (gI D (6 + gN ks i % 6) - gI D (6 + gN ks i / 6)) = gI fl i → Jc47s16 F (.fn [.t 4, .t 5, .t 6]) (.ptr P2 0) (.ptr (B.length + L.length) 0) (B ++ (L ++ [.cells [.int .i64 (gN ks i / 6 : Nat), .int .i64 (gN ks i % 6 : Nat)]])) low r) :
  ∀ (d i : Nat) (L : List Row), ks.length - i = d → i ≤ ks.length → (agr ks fl D d i = true → agr ks fl D ks.length 0 = true) →
  Lc47l3 F (.fn [.t 4, .t 5, .t 6]) x1 (.ptr P1 0) (.ptr P2 0) .nilslice ev (.int .i64 ks.length) (.int .i64 i) (B ++ L) low r := by
 have hek := hok.ek
 have n6 := hok.n6
 intro d
 induction d with
 |
  zero =>
  intro i L hd hi hb
  have hi' : i = ks.length := by omega
  subst hi'
  have := hr0 (hb rfl) L
  unfold Lc47l3
  simp
  simpa using this
 |
  succ d ih =>
  intro i L hd hi0 hb
  have hi : i < ks.length := by omega
  have hw : IntKind.i64.wrap ((i : Int) + 1) = ((i + 1 : Nat) : Int) := by rw [wrap64 (by omega) (by omega)]; omega
  obtain ⟨e1, e2⟩ := eC_a hi
  have hee := hok.ee _ (gN_mem hi)
  have hr1' := hr1 i L hi
  rw [agr] at hb
  generalize gN ks i / 6 = A at *
  generalize gN ks i % 6 = C at *
  have ix := idxW (El_app he L) hi
  have ld := ldW2 (El_app he L) hi
  rw [e1, e2] at ld
  have hW' := row?_old hW (L ++ [.cells [.int .i64 A, .int .i64 C]])
  have h1' := row?_old h1 (L ++ [.cells [.int .i64 A, .int .i64 C]])
  have hlw : lower low (B.length + L.length) = low := lower_ge' (by omega)
  have i01 : idx? 0 2 = some 0 := rfl
  have i11 : idx? 1 2 = some 1 := rfl
  have iA : idx? (A : Int) 6 = some A := by simp; omega
  have iC : idx? (C : Int) 6 = some C := by simp; omega
  have lA : 6 + A < D.length := by omega
  have lC : 6 + C < D.length := by omega
  have gA' : D[6 + A] = gI D (6 + A) := (gI_eq lA).symm
  have gC' : D[6 + C] = gI D (6 + C) := (gI_eq lC).symm
  have ixf := idxW (IsL_app hf (L ++ [.cells [.int .i64 A, .int .i64 C]])) (show i < fl.length by omega)
  have ldf := ldW1 (IsL_app hf (L ++ [.cells [.int .i64 A, .int .i64 C]])) (show i < fl.length by omega)
  rw [Nat.mul_one] at ixf
  unfold Lc47l3
  by_cases c : IntKind.i64.wrap (gI D (6 + C) - gI D (6 + A)) = gI fl i
  ·have := ih (i + 1) (L ++ [.cells [.int .i64 A, .int .i64 C]]) (by omega) (by omega) (by simpa [c] using hb)
   simp [hi, ix, ld, splice, hlw, i01, i11, iA, iC, hW', h1', lA, lC, gA', gC', ixf, ldf, c, hw]
   simpa using this
  ·have := hr1' c
   simp [hi, ix, ld, splice, hlw, i01, i11, iA, iC, hW', h1', lA, lC, gA', gC', ixf, ldf, c, -uc47s16, jc47s16]
   simpa using this
def cutP (la lb : List Int) : Nat → Nat → Nat → Nat × Nat
 | 0, a, b => (a, b)
 | n + 1, a, b => if 1 < a ∧ 1 < b ∧ gI la (a - 2) = gI lb (b - 2) then cutP la lb n (a - 1) (b - 1) else (a, b)
set_option maxHeartbeats 8000000 in
theorem cut_loop {ia ib : Nat} {la lb : List Int} {ca cb : Cap} {Q : Nat × Nat} (hal : la.length ≤ 100) (hbl : lb.length ≤ 100)
  (hA : row? R ia = some (nums .i64 la)) (hB : row? R ib = some (nums .i64 lb))
  (hk : ∀ sl, lk sl 13 = .slice ia 0 Q.1 ca → lk sl 14 = .slice ib 0 Q.2 cb → Ex F (.fn [.t 4, .t 5, .t 6]) [.code c47s8, .inBlock 1, .code c47k4, .inLoop c47l3, .inBlock 0, .code c47s2, .inScope c47p0] ⟨mk 106 sl, R, low⟩ r) :
  ∀ (n a b : Nat), a ≤ n → a ≤ la.length → b ≤ lb.length → (ca = .op 1 ∨ a ≤ 1) → (cb = .op 1 ∨ b ≤ 1) → cutP la lb n a b = Q →
  Lc47l9 F (.fn [.t 4, .t 5, .t 6]) (.slice ia 0 a ca) (.slice ib 0 b cb) R low r := by
 intro n
 induction n with
 |
  zero =>
  intro a b h1 h2 h3 h4 h5 hQ
  rw [cutP] at hQ
  subst hQ
  obtain rfl : a = 0 := by omega
  unfold Lc47l9
  simp [-uc47s8]
  refine hk _ ?_ ?_ <;> simp
 |
  succ n ih =>
  intro a b h1 h2 h3 h4 h5 hQ
  rw [cutP] at hQ
  have stop : Q = (a, b) → ∀ sl, lk sl 13 = .slice ia 0 a ca → lk sl 14 = .slice ib 0 b cb → Ex F (.fn [.t 4, .t 5, .t 6]) [.code c47s8, .inBlock 1, .code c47k4, .inLoop c47l3, .inBlock 0, .code c47s2, .inScope c47p0] ⟨mk 106 sl, R, low⟩ r := by
   intro e sl
   subst e
   exact hk sl
  unfold Lc47l9
  by_cases ca1 : 1 < a
  ·have ca2 : (1 : Int) < (a : Int) := by omega
   by_cases cb1 : 1 < b
   ·have cb2 : (1 : Int) < (b : Int) := by omega
    have wa : IntKind.i64.wrap ((a : Int) - 2) = ((a - 2 : Nat) : Int) := by rw [wrap64 (by omega) (by omega)]; omega
    have wb : IntKind.i64.wrap ((b : Int) - 2) = ((b - 2 : Nat) : Int) := by rw [wrap64 (by omega) (by omega)]; omega
    have wa1 : IntKind.i64.wrap ((a : Int) - 1) = ((a - 1 : Nat) : Int) := by rw [wrap64 (by omega) (by omega)]; omega
    have wb1 : IntKind.i64.wrap ((b : Int) - 1) = ((b - 1 : Nat) : Int) := by rw [wrap64 (by omega) (by omega)]; omega
    have ka := hR_ki (R := R) (b := ia) (c := ca) (show a - 2 < a by omega)
    have kb := hR_ki (R := R) (b := ib) (c := cb) (show b - 2 < b by omega)
    have lA : a - 2 < la.length := by omega
    have lB : b - 2 < lb.length := by omega
    have gA' : la[a - 2] = gI la (a - 2) := (gI_eq lA).symm
    have gB' : lb[b - 2] = gI lb (b - 2) := (gI_eq lB).symm
    by_cases cc : gI la (a - 2) = gI lb (b - 2)
    ·rw [if_pos ⟨ca1, cb1, cc⟩] at hQ
     have := ih (a - 1) (b - 1) (by omega) (by omega) (by omega) (h4.imp id (by omega)) (h5.imp id (by omega)) hQ
     obtain rfl : ca = .op 1 := by rcases h4 with h | h; exact h; omega
     obtain rfl : cb = .op 1 := by rcases h5 with h | h; exact h; omega
     have sa : sliceV 1 (.slice ia 0 a (.op 1)) none (some (.int .i64 ((a - 1 : Nat) : Int))) none = some (.slice ia 0 (a - 1) (.op 1)) := by
      simp [sliceV, bound?]
     have sb : sliceV 1 (.slice ib 0 b (.op 1)) none (some (.int .i64 ((b - 1 : Nat) : Int))) none = some (.slice ib 0 (b - 1) (.op 1)) := by
      simp [sliceV, bound?]
     simp [ca2, cb2, wa, wb, wa1, wb1, ka, kb, hA, hB, lA, lB, gA', gB', cc, sa, sb]
     simpa using this
    ·rw [if_neg (fun h => cc h.2.2)] at hQ
     simp [ca2, cb2, wa, wb, ka, kb, hA, hB, lA, lB, gA', gB', cc, -uc47s8]
     refine stop hQ.symm _ ?_ ?_ <;> simp
   ·rw [if_neg (fun h => cb1 h.2.1)] at hQ
    have cb2 : ¬ (1 : Int) < (b : Int) := by omega
    simp [ca2, cb2, -uc47s8]
    refine stop hQ.symm _ ?_ ?_ <;> simp
  ·rw [if_neg (fun h => ca1 h.1)] at hQ
   have ca2 : ¬ (1 : Int) < (a : Int) := by omega
   simp [ca2, -uc47s8]
   refine stop hQ.symm _ ?_ ?_ <;> simp
end
end Go.Abs

namespace Go.Abs
def ring2 (la lb : List Int) : List Int := la.take (cutP la lb la.length la.length lb.length).1 ++ (lb.take (cutP la lb la.length la.length lb.length).2).reverse.drop 1
theorem cutP_le {la lb : List Int} : ∀ n a b, (cutP la lb n a b).1 ≤ a ∧ (cutP la lb n a b).2 ≤ b ∧ (1 ≤ a → 1 ≤ (cutP la lb n a b).1) ∧ (1 ≤ b → 1 ≤ (cutP la lb n a b).2)
 | 0, a, b => ⟨Nat.le_refl _, Nat.le_refl _, id, id⟩
 |
  n + 1, a, b => by
  rw [cutP]
  split
  ·have := cutP_le (la := la) (lb := lb) n (a - 1) (b - 1)
   omega
  ·exact ⟨Nat.le_refl _, Nat.le_refl _, id, id⟩
theorem ring_fin {rows L : List Row} {k n : Nat} {c : Cap} {l : List Int} (h : L[k]? = some (.cells (nums .i64 l))) (hn : n ≤ l.length) :
  ∃ v X, fin rows (.tup [.slice (rows.length + k) 0 n c, .bool true, .int .i64 0]) (rows ++ L) rows.length = (.tup [v, .bool true, .int .i64 0], rows ++ X, none) ∧ X.all (Row.under 0) = true ∧ IsL (rows ++ X) v (l.take n) ∧ ∃ id, v = .slice id 0 n c := by
 refine ⟨_, _, fin_slice_bi h nums_ids, by simp, ?_, _, rfl⟩
 have hr : row? (rows ++ [.cells (nums .i64 l)]) rows.length = some (nums .i64 l) := by simp [row?]
 have e : n = (l.take n).length := by simp; omega
 have := IsL_mk (n := n) (id := rows.length) (off := 0) (c := c) (l := l.take n) hr (by rw [nums_seg, if_pos (by simp; omega)]; simp [Nat.min_eq_left hn])
 rwa [← e] at this
def RQ (rows : List Row) (l : List Int) (r : AV × List Row × Nat) : Prop := ∃ v X, fin rows r.1 r.2.1 r.2.2 = (.tup [v, .bool true, .int .i64 0], rows ++ X, none) ∧ X.all (Row.under 0) = true ∧ IsL (rows ++ X) v l ∧ ∃ id n c, v = .slice id 0 n c
section
variable {rows R : List Row} {fl D : List Int}
set_option maxHeartbeats 8000000 in
theorem ring_tail {M : List Row} {la lb : List Int} {na nb : Nat} {ca cb : Cap} {sl : List (Nat × AV)} (hR : R = rows ++ M) (hal : la.length ≤ 100) (hbl : lb.length ≤ 100) (ha1 : 1 ≤ na) (hb1 : 1 ≤ nb) (hna : na ≤ la.length) (hnb : nb ≤ lb.length)
  (hca : ca = .op 1 ∨ (ca = .at_ 1 ∧ na = 1)) (hcb : cb = .op 1 ∨ (cb = .at_ 1 ∧ nb = 1))
  (s13 : lk sl 13 = .slice R.length 0 na ca) (s14 : lk sl 14 = .slice (R.length + 1) 0 nb cb) :
  Ex F (.fn [.t 4, .t 5, .t 6]) [.code c47s8, .inBlock 1, .code c47k4, .inLoop c47l3, .inBlock 0, .code c47s2, .inScope c47p0] ⟨mk 106 sl, R ++ [.cells (nums .i64 la), .cells (nums .i64 lb)], rows.length⟩ (RQ rows (la.take na ++ (lb.take nb).reverse.drop 1)) := by
 have hb : (R ++ [.cells (nums .i64 la), .cells (nums .i64 lb)])[R.length + 1]? = some (.cells (nums .i64 lb)) := by simp
 obtain ⟨o, r82, ho⟩ := Reverse_ret (c := cb) hb hnb (by omega)
 have hset : (R ++ [Row.cells (nums .i64 la), .cells (nums .i64 lb)]).set (R.length + 1) (.cells (nums .i64 (revP lb nb))) = R ++ [.cells (nums .i64 la), .cells (nums .i64 (revP lb nb))] := by
  rw [List.set_append_right _ _ (by omega), Nat.add_sub_cancel_left]
  rfl
 rw [hset] at r82
 have hRl : rows.length ≤ R.length := by rw [hR]; simp
 have hlo : lowO rows.length o = rows.length := by
  rcases ho with rfl | rfl
  ·rfl
  ·exact lower_ge' (by omega)
 have hrl : (revP lb nb).length = lb.length := by simp [revP]; omega
 have hrowb : row? (R ++ [.cells (nums .i64 la), .cells (nums .i64 (revP lb nb))]) (R.length + 1) = some (nums .i64 (revP lb nb)) := by simp [row?]
 have hrowa : row? (R ++ [.cells (nums .i64 la), .cells (nums .i64 (revP lb nb))]) R.length = some (nums .i64 la) := by simp [row?]
 have hcela : cells? (R ++ [.cells (nums .i64 la), .cells (nums .i64 (revP lb nb))]) R.length = some (nums .i64 la) := by simp [cells?]
 have hsl : ∃ o' c', sliceV 1 (.slice (R.length + 1) 0 nb cb) (some (.int .i64 1)) none none = some (.slice (R.length + 1) o' (nb - 1) c') ∧ (nb = 1 ∨ o' = 1) ∧ o' ≤ 1 := by
  rcases hcb with rfl | ⟨rfl, rfl⟩
  ·refine ⟨1, .op 1, ?_, .inr rfl, Nat.le_refl _⟩
   have : (1 : Int) ≤ (nb : Int) := by omega
   simp [sliceV, bound?, this]
  ·refine ⟨0, .at_ 0, by simp [sliceV, bound?], .inl rfl, by omega⟩
 obtain ⟨o', c', hsl, ho', ho1⟩ := hsl
 have hseg : seg (nums .i64 (revP lb nb)) o' (nb - 1) = some (nums .i64 ((lb.take nb).reverse.drop 1)) := by
  rw [nums_seg, if_pos (by omega)]
  congr 2
  rcases ho' with e | e
  ·subst e
   have : ((lb.take 1).reverse.drop 1) = [] := List.eq_nil_of_length_eq_zero (by simp; omega)
   rw [this]
   simp
  ·subst e
   unfold revP
   have hl : (lb.take nb).reverse.length = nb := by simp; omega
   rw [List.drop_append_of_le_length (by omega), List.take_append_of_le_length (by simp; omega), List.take_of_length_le (by simp; omega)]
 have hxl : ((lb.take nb).reverse.drop 1).length = nb - 1 := by simp; omega
 have hx : El (R ++ [.cells (nums .i64 la), .cells (nums .i64 (revP lb nb))]) 1 (.slice (R.length + 1) o' (nb - 1) c') (nums .i64 ((lb.take nb).reverse.drop 1)) (nb - 1) := by
  unfold El elems
  simp only [hrowb, Nat.mul_one, hseg]
  rfl
 have hsa : seg (nums .i64 la) 0 (na * 1) = some (nums .i64 (la.take na)) := by
  rw [nums_seg, if_pos (by omega)]
  simp
 have hres : ∃ v R', evE (R ++ [.cells (nums .i64 la), .cells (nums .i64 (revP lb nb))]) rows.length (.app 1 8 (.c (.slice R.length 0 na ca)) (.c (.slice (R.length + 1) o' (nb - 1) c'))) = some (v, R', rows.length) ∧ (∃ id n c, v = .slice id 0 n c) ∧ RQ rows (la.take na ++ (lb.take nb).reverse.drop 1) (.tup [v, .bool true, .int .i64 0], R', rows.length) := by
  by_cases c1 : nb = 1
  ·subst c1
   have e0 : (lb.take 1).reverse.drop 1 = [] := List.eq_nil_of_length_eq_zero (by simp; omega)
   rw [e0] at hx ⊢
   refine ⟨_, _, app_0 hx (.inr ⟨_, _, _, _, rfl⟩), ⟨_, _, _, rfl⟩, ?_⟩
   rw [hR, List.append_assoc, List.length_append]
   obtain ⟨v, X, h1, h2, h3, id, h4⟩ := ring_fin (rows := rows) (k := M.length) (n := na) (c := ca) (l := la) (L := M ++ [.cells (nums .i64 la), .cells (nums .i64 (revP lb 1))]) (by simp) hna
   exact ⟨v, X, h1, h2, by simpa using h3, id, na, ca, h4⟩
  ·have hlen : (la.take na ++ (lb.take nb).reverse.drop 1).length = na + (nb - 1) := by rw [List.length_append, hxl]; simp; omega
   have fin' : ∀ L : List Row, L[M.length + 2]? = some (.cells (nums .i64 (la.take na ++ (lb.take nb).reverse.drop 1))) → RQ rows (la.take na ++ (lb.take nb).reverse.drop 1) (.tup [.slice (rows.length + (M.length + 2)) 0 (na + (nb - 1)) (.op 1), .bool true, .int .i64 0], rows ++ L, rows.length) := by
    intro L hL
    obtain ⟨v, X, h1, h2, h3, id, h4⟩ := ring_fin (rows := rows) (k := M.length + 2) (n := na + (nb - 1)) (c := .op 1) hL (by omega)
    rw [List.take_of_length_le (by omega)] at h3
    exact ⟨v, X, h1, h2, h3, id, _, _, h4⟩
   rcases hca with rfl | ⟨rfl, rfl⟩
   ·have hap := app_op (low := rows.length) (b := 8) (sz := 1) (id := R.length) (off := 0) (n := na) hcela hsa hx (by omega) (by simp [lim]; omega)
    rw [lower_ge' hRl, nums_app] at hap
    refine ⟨_, _, hap, ⟨_, _, _, rfl⟩, ?_⟩
    have eL : (R ++ [Row.cells (nums .i64 la), .cells (nums .i64 (revP lb nb))]).set R.length .dead ++ [.cells (nums .i64 (la.take na ++ (lb.take nb).reverse.drop 1))] = rows ++ (M ++ [.dead, .cells (nums .i64 (revP lb nb)), .cells (nums .i64 (la.take na ++ (lb.take nb).reverse.drop 1))]) := by
     rw [List.set_append_right _ _ (Nat.le_refl _), Nat.sub_self, hR]
     simp
    rw [eL]
    have el : (R ++ [Row.cells (nums .i64 la), .cells (nums .i64 (revP lb nb))]).length = rows.length + (M.length + 2) := by rw [hR]; simp [Nat.add_assoc]
    rw [el]
    exact fin' _ (by simp)
   ·have hap := app_at (low := rows.length) (b := 8) (sz := 1) (id := R.length) (off := 0) (n := 1) (c := 1) hrowa hsa hx (by omega) (by simp [lim]; omega) (by omega)
    rw [nums_app] at hap
    refine ⟨_, _, hap, ⟨_, _, _, rfl⟩, ?_⟩
    have eL : (R ++ [Row.cells (nums .i64 la), .cells (nums .i64 (revP lb nb))]) ++ [.cells (nums .i64 (la.take 1 ++ (lb.take nb).reverse.drop 1))] = rows ++ (M ++ [.cells (nums .i64 la), .cells (nums .i64 (revP lb nb)), .cells (nums .i64 (la.take 1 ++ (lb.take nb).reverse.drop 1))]) := by
     rw [hR]
     simp
    rw [eL]
    have el : (R ++ [Row.cells (nums .i64 la), .cells (nums .i64 (revP lb nb))]).length = rows.length + (M.length + 2) := by rw [hR]; simp [Nat.add_assoc]
    rw [el]
    exact fin' _ (by simp)
 obtain ⟨v, R', hap, ⟨id, n, c, rfl⟩, hQ⟩ := hres
 have hlw : lower rows.length (R.length + 1) = rows.length := lower_ge' (by omega)
 rcases ho with rfl | rfl
 ·simp [s13, s14, r82, hsl, hap, eqA]
  simpa using hQ
 ·simp [s13, s14, r82, hlw, hsl, hap, eqA]
  simpa using hQ
end
end Go.Abs

namespace Go.Abs
theorem pcap_or {l : List Int} (h : 1 ≤ l.length) : pcap l = .op 1 ∨ (pcap l = .at_ 1 ∧ l.length = 1) := by
 unfold pcap
 split
 ·rename_i e; exact .inr ⟨rfl, e⟩
 ·exact .inl rfl
section
variable {rows R : List Row} {N : Nat} {ks ps : List Nat} {x1 g : AV} {fl D : List Int}
set_option maxHeartbeats 8000000 in
theorem ring_s16 {M : List Row} {W P1 P2 E A C : Nat} (hR : R = rows ++ M) (hD : D.length = 13) (hW : row? R W = some (nums .i64 D)) (h1 : row? R P1 = some [.ptr W 0]) (h2 : row? R P2 = some [.func 81 [.ptr P1 0, .ptr P2 0]])
  (hE : row? R E = some [.int .i64 A, .int .i64 C]) (hA : Pok D 10 A) (hC : Pok D 10 C) :
  Jc47s16 F (.fn [.t 4, .t 5, .t 6]) (.ptr P2 0) (.ptr E 0) R rows.length (RQ rows (ring2 (pth D 10 A) (pth D 10 C))) := by
 have ra := back_ret hD 10 A R (Nat.le_refl _) hA hW h1 h2
 have rb := back_ret hD 10 C (R ++ [.cells (nums .i64 (pth D 10 A))]) (Nat.le_refl _) hC (row?_old hW _) (row?_old h1 _) (row?_old h2 _)
 obtain ⟨la1, la2⟩ := pth_len (D := D) 10 A
 obtain ⟨lb1, lb2⟩ := pth_len (D := D) 10 C
 generalize pth D 10 A = la at *
 generalize pth D 10 C = lb at *
 have i01 : idx? 0 2 = some 0 := rfl
 have i11 : idx? 1 2 = some 1 := rfl
 obtain ⟨k1, k2, k3, k4⟩ := cutP_le (la := la) (lb := lb) la.length la.length lb.length
 have hcut := cut_loop (R := R ++ [.cells (nums .i64 la), .cells (nums .i64 lb)]) (low := rows.length) (r := RQ rows (ring2 la lb)) (ia := R.length) (ib := R.length + 1) (la := la) (lb := lb) (ca := pcap la) (cb := pcap lb) (Q := cutP la lb la.length la.length lb.length) (by omega) (by omega) (by simp [row?]) (by simp [row?])
  (fun sl s13 s14 => ring_tail (M := M) (la := la) (lb := lb) hR (by omega) (by omega) (k3 la1) (k4 lb1) k1 k2
   (by
     rcases pcap_or la1 with h | ⟨h, e⟩
     ·exact .inl h
     ·exact .inr ⟨h, by have := k3 la1; omega⟩)
   (by
     rcases pcap_or lb1 with h | ⟨h, e⟩
     ·exact .inl h
     ·exact .inr ⟨h, by have := k4 lb1; omega⟩) s13 s14)
  la.length la.length lb.length (Nat.le_refl _) (Nat.le_refl _) (Nat.le_refl _) (by rcases pcap_or la1 with h | ⟨h, e⟩; exact .inl h; exact .inr (by omega)) (by rcases pcap_or lb1 with h | ⟨h, e⟩; exact .inl h; exact .inr (by omega)) rfl
 have t1 : Nat.testBit 32 3 = false := by decide
 simp only [List.length_append, List.length_cons, List.length_nil, Nat.zero_add, List.append_assoc, List.cons_append, List.nil_append] at rb
 unfold Jc47s16
 simp [h2, hE, i01, i11, maskE, drop_mapL, Function.comp_def, t1, opC, targetC, ra, rb, row?_old h2, row?_old hE]
 simpa using hcut
theorem Pok_of {s : WSt} (hN : N ≤ 6) (hs : SI N s) (hh : HI N ks fl s) : ∀ (n v : Nat), v ∈ s.2.1 → s.2.1.idxOf v ≤ n → Pok s.1 n v := by
 intro n
 induction n with
 |
  zero =>
  intro v hv hi
  have := hs.b v hv
  rcases hh.tr v hv with ⟨e, _⟩ | ⟨u, _, h2, _⟩
  ·exact ⟨by omega, e⟩
  ·omega
 |
  succ n ih =>
  intro v hv hi
  have := hs.b v hv
  rcases hh.tr v hv with ⟨e, _⟩ | ⟨u, h1, h2, h3, _⟩
  ·exact ⟨by omega, .inl e⟩
  ·refine ⟨by omega, .inr ⟨u, h3, ?_, ih u h1 (by omega)⟩⟩
   intro e
   subst e
   omega
theorem Pok_10 (hok : GOK N ks ps) (hfl : fl.length = ks.length) (hb : ∀ x ∈ fl, -100 ≤ x ∧ x ≤ 100) {v : Nat} (hv : v < N) : Pok (fiS ks fl N).1 10 v := by
 have hs := fiS_SI (fl := fl) hok N (Nat.le_refl _)
 have hh := fiS_HI hok hfl hb N (Nat.le_refl _)
 have hS := (fiS_ok (fl := fl) hok N (Nat.le_refl _)).2.1 v hv
 have h6 := hs.s6 hok.n6
 have := List.idxOf_lt_length_of_mem hS
 exact Pok_of hok.n6 hs hh 10 v hS (by omega)
set_option maxHeartbeats 8000000 in
theorem Ring_ret (hg : GRd rows g N ks ps) (hf : IsL rows x1 fl) (hfl : fl.length = ks.length) (hb : ∀ x ∈ fl, -100 ≤ x ∧ x ≤ 100) :
  (agr ks fl (fiS ks fl N).1 ks.length 0 = true ∧ Ret F 47 [g, x1] rows = some (.tup [.nilslice, .bool false, .int .i64 0], rows, none)) ∨
  (∃ i v X, i < ks.length ∧ ¬ IntKind.i64.wrap (gI (fiS ks fl N).1 (6 + gN ks i % 6) - gI (fiS ks fl N).1 (6 + gN ks i / 6)) = gI fl i ∧ Ret F 47 [g, x1] rows = some (.tup [v, .bool true, .int .i64 0], rows ++ X, none) ∧ X.all (Row.under 0) = true ∧ IsL (rows ++ X) v (ring2 (pth (fiS ks fl N).1 10 (gN ks i / 6)) (pth (fiS ks fl N).1 10 (gN ks i % 6))) ∧ ∃ id n c, v = .slice id 0 n c) := by
 obtain ⟨ev, pv, rfl, he, hp, _⟩ := id hg.eq
 have hok := hg.ok
 have o1 := El_one he
 have o2 := El_one hp
 have hek := hok.ek
 have n1 := hok.n1
 have n6 := hok.n6
 have ho := open_ok (hg.app [.cells [.int .i64 N, ev, pv]]) (IsL_app hf [.cells [.int .i64 N, ev, pv]]) hb (f := 67) (n := ks.length) hfl (by omega) (g' := .agg [.int .i64 N, ev, pv]) (fun L => edges_ret (El_app (El_app he _) L) rfl o2)
 rw [show ((67 : Nat) : Int) = 67 from rfl] at ho
 have r78 := walked_ret (hg.app [.cells [.int .i64 N, ev, pv]]) (IsL_app hf [.cells [.int .i64 N, ev, pv]]) hfl
 have hD := (fiS_SI (fl := fl) hok N (Nat.le_refl _)).d
 have hP : ∀ v, v < N → Pok (fiS ks fl N).1 10 v := fun v hv => Pok_10 hok hfl hb hv
 generalize (fiS ks fl N).1 = D at *
 let Q : AV × List Row × Nat → Prop := fun r => (agr ks fl D ks.length 0 = true ∧ fin rows r.1 r.2.1 r.2.2 = (.tup [.nilslice, .bool false, .int .i64 0], rows, none)) ∨ ∃ i, i < ks.length ∧ ¬ IntKind.i64.wrap (gI D (6 + gN ks i % 6) - gI D (6 + gN ks i / 6)) = gI fl i ∧ RQ rows (ring2 (pth D 10 (gN ks i / 6)) (pth D 10 (gN ks i % 6))) r
 have main : Ex F (.fn [.t 4, .t 5, .t 6]) [.code c47b] ⟨mk 106 [(0, .agg [.int .i64 N, ev, pv]), (1, x1)], rows, rows.length⟩ Q := by
  obtain ⟨B, hB⟩ : ∃ B, B = rows ++ [.cells [.int .i64 N, ev, pv], .cells (nums .i64 D), .cells [.ptr (rows.length + 1) 0], .cells [.func 81 [.ptr (rows.length + 2) 0, .ptr (rows.length + 3) 0]]] := ⟨_, rfl⟩
  have hW : row? B (rows.length + 1) = some (nums .i64 D) := by rw [hB]; simp [row?]
  have h1 : row? B (rows.length + 2) = some [.ptr (rows.length + 1) 0] := by rw [hB]; simp [row?]
  have h2 : row? B (rows.length + 3) = some [.func 81 [.ptr (rows.length + 2) 0, .ptr (rows.length + 3) 0]] := by rw [hB]; simp [row?]
  have heB : El B 2 ev (nums .i64 (eC ks)) ks.length := by rw [hB]; exact El_app he _
  have hfB : IsL B x1 fl := by rw [hB]; exact IsL_app hf _
  have hl := Ring_loop (W := rows.length + 1) (P1 := rows.length + 2) (P2 := rows.length + 3) (low := rows.length) (r := Q) hok (by rw [hB]; simp) heB hfB hfl hW hD h1
   (fun e L => .inl ⟨e, by simp [hB]⟩)
   (fun i L hi hm => by
    have hee := hok.ee _ (gN_mem hi)
    obtain ⟨M, hM⟩ : ∃ M, M = [Row.cells [.int .i64 N, ev, pv], .cells (nums .i64 D), .cells [.ptr (rows.length + 1) 0], .cells [.func 81 [.ptr (rows.length + 2) 0, .ptr (rows.length + 3) 0]]] ++ (L ++ [.cells [.int .i64 (gN ks i / 6 : Nat), .int .i64 (gN ks i % 6 : Nat)]]) := ⟨_, rfl⟩
    have hBM : B ++ (L ++ [.cells [.int .i64 (gN ks i / 6 : Nat), .int .i64 (gN ks i % 6 : Nat)]]) = rows ++ M := by rw [hB, hM, List.append_assoc]
    have hs := ring_s16 (R := B ++ (L ++ [.cells [.int .i64 (gN ks i / 6 : Nat), .int .i64 (gN ks i % 6 : Nat)]])) (E := B.length + L.length) (A := gN ks i / 6) (C := gN ks i % 6) hBM hD (row?_old hW _) (row?_old h1 _) (row?_old h2 _) (by rw [← List.append_assoc]; simp [row?]) (hP _ (by omega)) (hP _ hee.2)
    obtain ⟨n, q, e, hq⟩ := hs
    exact ⟨n, q, e, .inr ⟨i, hi, hm, hq⟩⟩) _ 0 [] rfl (Nat.zero_le _) id
  rw [List.append_nil] at hl
  have ln := evP_lenE (El_app he [.cells [.int .i64 N, ev, pv], .cells (nums .i64 D), .cells [.ptr (rows.length + 1) 0], .cells [.func 81 [.ptr (rows.length + 2) 0, .ptr (rows.length + 3) 0]]])
  simp only [List.append_assoc, List.length_append, List.length_cons, List.length_nil, Nat.zero_add, List.cons_append, List.nil_append] at r78
  have hlw2 : lower rows.length (rows.length + 2) = rows.length := lower_ge' (by omega)
  have hlw3 : lower rows.length (rows.length + 3) = rows.length := lower_ge' (by omega)
  simp [o1, o2, seg, ho, boundOf, r78, ln, hlw2, hlw3]
  rw [hB] at hl
  simpa using hl
 obtain ⟨n, q, e, hq⟩ := main
 rcases hq with ⟨h1, h2⟩ | ⟨i, hi, hm, v, X, h1, h2⟩
 ·exact .inl ⟨h1, i47 F47 ⟨n, q, e, h2⟩⟩
 ·exact .inr ⟨i, v, X, hi, hm, i47 F47 ⟨n, q, e, h1⟩, h2⟩
end
end Go.Abs

namespace Go.Abs
theorem way_rk {f : Nat → Nat} {n : Nat} {pr : Nat → Nat → Prop} {rk : Nat → Nat} (hf : ∀ i, i + 1 < n → pr (f i) (f (i + 1))) (hr : ∀ a b, pr a b → rk b < rk a) (i : Nat) : ∀ d, i + d + 1 < n → rk (f (i + d + 1)) < rk (f i)
 | 0, h => hr _ _ (hf i h)
 |
  d + 1, h => by
  have h1 := way_rk hf hr i d (by omega)
  have h2 := hr _ _ (hf (i + d + 1) h)
  rw [show i + (d + 1) + 1 = i + d + 1 + 1 from rfl]
  omega
theorem way_inj {f : Nat → Nat} {n : Nat} {pr : Nat → Nat → Prop} {rk : Nat → Nat} (hf : ∀ i, i + 1 < n → pr (f i) (f (i + 1))) (hr : ∀ a b, pr a b → rk b < rk a) {i j : Nat} (h : i < j) (hj : j < n) : f i ≠ f j := by
 have := way_rk hf hr i (j - i - 1) (by omega)
 rw [show i + (j - i - 1) + 1 = j from by omega] at this
 intro e
 rw [e] at this
 omega
theorem way_same {f g : Nat → Nat} {na nb : Nat} {pr : Nat → Nat → Prop} (hf : ∀ i, i + 1 < na → pr (f i) (f (i + 1))) (hg : ∀ i, i + 1 < nb → pr (g i) (g (i + 1))) (hu : ∀ a b c, pr a b → pr a c → b = c) {i j : Nat} (e : f i = g j) : ∀ t, i + t < na → j + t < nb → f (i + t) = g (j + t)
 | 0, _, _ => e
 |
  t + 1, h1, h2 => by
  have ih := way_same hf hg hu e t (by omega) (by omega)
  have p1 := hf (i + t) h1
  have p2 := hg (j + t) h2
  rw [ih] at p1
  exact hu _ _ _ p1 p2
theorem way_meet {f g : Nat → Nat} {na nb : Nat} {pr : Nat → Nat → Prop} {rk : Nat → Nat} (hf : ∀ i, i + 1 < na → pr (f i) (f (i + 1))) (hg : ∀ i, i + 1 < nb → pr (g i) (g (i + 1))) (hu : ∀ a b c, pr a b → pr a c → b = c) (hr : ∀ a b, pr a b → rk b < rk a)
  (hl : f (na - 1) = g (nb - 1)) (hs : na = 1 ∨ nb = 1 ∨ f (na - 2) ≠ g (nb - 2)) {i j : Nat} (hi : i < na) (hj : j < nb) (e : f i = g j) : i = na - 1 ∧ j = nb - 1 := by
 have hs1 := way_same hf hg hu e
 by_cases c1 : na - 1 - i < nb - 1 - j
 ·have := hs1 (na - 1 - i) (by omega) (by omega)
  rw [show i + (na - 1 - i) = na - 1 from by omega, hl] at this
  exact absurd this.symm (way_inj hg hr (by omega) (by omega))
 ·by_cases c2 : nb - 1 - j < na - 1 - i
  ·have := hs1 (nb - 1 - j) (by omega) (by omega)
   rw [show j + (nb - 1 - j) = nb - 1 from by omega, ← hl] at this
   exact absurd this (way_inj hf hr (by omega) (by omega))
  ·by_cases c3 : na - 1 - i = 0
   ·omega
   ·have := hs1 (na - 2 - i) (by omega) (by omega)
    rw [show i + (na - 2 - i) = na - 2 from by omega, show j + (na - 2 - i) = nb - 2 from by omega] at this
    rcases hs with h | h | h
    ·omega
    ·omega
    ·exact absurd this h
theorem cutP_ok {la lb : List Int} : ∀ n a b, a ≤ n → 1 ≤ a → 1 ≤ b → gI la (a - 1) = gI lb (b - 1) → gI la ((cutP la lb n a b).1 - 1) = gI lb ((cutP la lb n a b).2 - 1) ∧ ((cutP la lb n a b).1 = 1 ∨ (cutP la lb n a b).2 = 1 ∨ gI la ((cutP la lb n a b).1 - 2) ≠ gI lb ((cutP la lb n a b).2 - 2))
 | 0, a, b, h0, h1, h2, h => by omega
 |
  n + 1, a, b, h0, h1, h2, h => by
  rw [cutP]
  split
  ·rename_i c
   exact cutP_ok n (a - 1) (b - 1) (by omega) (by omega) (by omega) (by
    rw [show a - 1 - 1 = a - 2 from by omega, show b - 1 - 1 = b - 2 from by omega]
    exact c.2.2)
  ·rename_i c
   refine ⟨h, ?_⟩
   show a = 1 ∨ b = 1 ∨ gI la (a - 2) ≠ gI lb (b - 2)
   by_cases c1 : a = 1
   ·exact .inl c1
   ·by_cases c2 : b = 1
    ·exact .inr (.inl c2)
    ·exact .inr (.inr fun e => c ⟨by omega, by omega, e⟩)
structure Wy (D : List Int) (v : Nat) (l : List Int) : Prop where
 h : gI l 0 = v
 n : ∀ i, i < l.length → gI l i = ((gI l i).toNat : Int) ∧ (gI l i).toNat < 6
 p : ∀ i, i + 1 < l.length → gI D (gI l i).toNat = (gI l (i + 1)).toNat ∧ (gI l (i + 1)).toNat ≠ (gI l i).toNat
 e : gI D (gI l (l.length - 1)).toNat = (gI l (l.length - 1)).toNat
theorem gI_cons0 {x : Int} {l : List Int} : gI (x :: l) 0 = x := rfl
theorem gI_consS {x : Int} {l : List Int} {i : Nat} : gI (x :: l) (i + 1) = gI l i := rfl
theorem pth_Wy {D : List Int} : ∀ n v, Pok D n v → Wy D v (pth D n v)
 |
  0, v, h => by
  obtain ⟨h1, h2⟩ := h
  refine ⟨rfl, fun i hi => ?_, fun i hi => ?_, ?_⟩
  ·simp only [pth, List.length_cons, List.length_nil] at hi
   obtain rfl : i = 0 := by omega
   exact ⟨by simp [pth, gI_cons0], by simpa [pth, gI_cons0] using h1⟩
  ·simp only [pth, List.length_cons, List.length_nil] at hi
   omega
  ·simpa [pth, gI_cons0] using h2
 |
  n + 1, v, h => by
  obtain ⟨h1, h2⟩ := h
  rw [pth]
  by_cases c : gI D v = v
  ·rw [if_pos c]
   refine ⟨rfl, fun i hi => ?_, fun i hi => ?_, ?_⟩
   ·simp only [List.length_cons, List.length_nil] at hi
    obtain rfl : i = 0 := by omega
    exact ⟨by simp [gI_cons0], by simpa [gI_cons0] using h1⟩
   ·simp only [List.length_cons, List.length_nil] at hi
    omega
   ·simpa [gI_cons0] using c
  ·rw [if_neg c]
   rcases h2 with e | ⟨u, eu, hne, hP⟩
   ·exact absurd e c
   ·rw [eu, Int.toNat_natCast]
    have ih := pth_Wy n u hP
    obtain ⟨l1, _⟩ := pth_len (D := D) n u
    generalize pth D n u = l at *
    refine ⟨rfl, fun i hi => ?_, fun i hi => ?_, ?_⟩
    ·cases i with
     | zero => exact ⟨by simp [gI_cons0], by simpa [gI_cons0] using h1⟩
     |
      succ i =>
      rw [gI_consS]
      exact ih.n i (by simpa using hi)
    ·cases i with
     |
      zero =>
      rw [gI_consS, gI_cons0, ih.h]
      simp only [Int.toNat_natCast]
      exact ⟨eu, hne⟩
     |
      succ i =>
      rw [gI_consS, gI_consS]
      exact ih.p i (by simpa using hi)
    ·have e : ((v : Int) :: l).length - 1 = (l.length - 1) + 1 := by simp only [List.length_cons]; omega
     rw [e, gI_consS]
     exact ih.e
end Go.Abs

namespace Go.Abs
def jn (la lb : List Int) (na nb : Nat) : List Int := la.take na ++ (lb.take nb).reverse.drop 1
theorem jn_len {la lb : List Int} {na nb : Nat} (ha : na ≤ la.length) (hb : nb ≤ lb.length) : (jn la lb na nb).length = na + (nb - 1) := by
 simp [jn]; omega
theorem jn_get {la lb : List Int} {na nb : Nat} (ha : na ≤ la.length) (hb : nb ≤ lb.length) {k : Nat} (hk : k < na + (nb - 1)) : gI (jn la lb na nb) k = if k < na then gI la k else gI lb (na + nb - 2 - k) := by
 have hl := jn_len ha hb
 unfold jn at hl ⊢
 rw [gI_eq (show k < _ from by rw [hl]; exact hk)]
 by_cases c : k < na
 ·rw [if_pos c, List.getElem_append_left (by simp; omega), List.getElem_take, gI_eq (by omega)]
 ·rw [if_neg c, List.getElem_append_right (by simp; omega), List.getElem_drop, List.getElem_reverse, List.getElem_take, gI_eq (by omega)]
  congr 1
  simp only [List.length_take]
  omega
theorem rgs_tel {fl : List Int} {m : Nat} {fw rg : List Int} {H : Nat → Int} {δ : Int} {n : Nat} (hn : rg.length = n) (h1 : 0 < n)
  (hs : ∀ k, k < n → 0 ≤ pix fl (min (gI rg k) (gI rg ((k + 1) % n))) (max (gI rg k) (gI rg ((k + 1) % n))) m 0 ∧ gI rg k ∉ rg.take k ∧
   (if gI rg k < gI rg ((k + 1) % n) then gI fw (pix fl (min (gI rg k) (gI rg ((k + 1) % n))) (max (gI rg k) (gI rg ((k + 1) % n))) m 0).toNat else - gI fw (pix fl (min (gI rg k) (gI rg ((k + 1) % n))) (max (gI rg k) (gI rg ((k + 1) % n))) m 0).toNat) = if k + 1 = n then δ else H (k + 1) - H k) :
  ∀ (d k : Nat) (s : Int), k + d = n → 0 < d → rgs fl m fw rg d k s = some (s + (H (n - 1) - H k) + δ)
 | 0, k, s, _, h0 => by omega
 |
  d + 1, k, s, hk, _ => by
  obtain ⟨e1, e2, e3⟩ := hs k (by omega)
  rw [rgs, hn]
  rw [if_neg (by intro h; rcases h with h | h; omega; exact e2 h)]
  have e4 : (if gI rg k < gI rg ((k + 1) % n) then s + gI fw (pix fl (min (gI rg k) (gI rg ((k + 1) % n))) (max (gI rg k) (gI rg ((k + 1) % n))) m 0).toNat else s - gI fw (pix fl (min (gI rg k) (gI rg ((k + 1) % n))) (max (gI rg k) (gI rg ((k + 1) % n))) m 0).toNat) = s + if k + 1 = n then δ else H (k + 1) - H k := by
   rw [← e3]
   split <;> omega
  rw [e4]
  by_cases c : k + 1 = n
  ·rw [if_pos c]
   obtain rfl : d = 0 := by omega
   rw [rgs, show n - 1 = k from by omega]
   congr 1
   omega
  ·rw [if_neg c, rgs_tel hn h1 hs d (k + 1) _ (by omega) (by omega)]
   congr 1
   omega
section
variable {N : Nat} {ks ps : List Nat} {fl : List Int}
theorem pix_at (hok : GOK N ks ps) {j : Nat} (hj : j < ks.length) {a b : Int} (ha : a = (gN ks j / 6 : Nat)) (hb : b = (gN ks j % 6 : Nat)) : pix (eC ks) a b ks.length 0 = j := by
 have hin : 0 ≤ pix (eC ks) a b ks.length 0 := by
  have := (pix_in (ks := ks) (a := gN ks j / 6) (b := gN ks j % 6) (by omega)).2 (by
   rw [show gN ks j / 6 * 6 + gN ks j % 6 = gN ks j from by omega]
   exact gN_mem hj)
  rw [ha, hb]
  exact this
 obtain ⟨k, e, _, hk, h1, h2⟩ := pix_hit _ _ hin
 obtain ⟨e1, e2⟩ := eC_a (ks := ks) (i := k) (by omega)
 rw [e1, ha] at h1
 rw [e2, hb] at h2
 have : k = j := gN_inj hok.es (by omega) hj (by omega)
 rw [e, this]
theorem step_tre (hok : GOK N ks ps) {u v : Nat} {hu hv : Int} {a b : Int} (h : Tre ks fl hu hv u v) (hab : (a = u ∧ b = v) ∨ (a = v ∧ b = u)) :
  0 ≤ pix (eC ks) (min a b) (max a b) ks.length 0 ∧ (if a < b then gI fl (pix (eC ks) (min a b) (max a b) ks.length 0).toNat else - gI fl (pix (eC ks) (min a b) (max a b) ks.length 0).toNat) = if a = u then hv - hu else hu - hv := by
 obtain ⟨j, hj, h⟩ := h
 have hee := hok.ee _ (gN_mem hj)
 have hp : pix (eC ks) (min a b) (max a b) ks.length 0 = j := pix_at hok hj (by omega) (by omega)
 rw [hp, Int.toNat_natCast]
 refine ⟨by omega, ?_⟩
 by_cases c : a < b
 ·rw [if_pos c]
  by_cases c2 : a = (u : Int)
  ·rw [if_pos c2]; omega
  ·rw [if_neg c2]; omega
 ·rw [if_neg c]
  by_cases c2 : a = (u : Int)
  ·rw [if_pos c2]; omega
  ·rw [if_neg c2]; omega
structure WB (ks : List Nat) (fl : List Int) (s : WSt) (v : Nat) (l : List Int) : Prop where
 l1 : 1 ≤ l.length
 h : gI l 0 = v
 n : ∀ i, i < l.length → gI l i = ((gI l i).toNat : Int) ∧ (gI l i).toNat ∈ s.2.1
 p : ∀ i, i + 1 < l.length → (bfv s (gI l i).toNat = (gI l (i + 1)).toNat ∧ (gI l (i + 1)).toNat ≠ (gI l i).toNat) ∧ s.2.1.idxOf (gI l (i + 1)).toNat < s.2.1.idxOf (gI l i).toNat ∧ Tre ks fl (htv s (gI l (i + 1)).toNat) (htv s (gI l i).toNat) (gI l (i + 1)).toNat (gI l i).toNat
 e : Lst ks (gI l (l.length - 1)).toNat
 c : ∀ i, i < l.length → Cn ks v (gI l i).toNat
theorem pth_WB {s : WSt} (hh : HI N ks fl s) {n v : Nat} (hP : Pok s.1 n v) (hv : v ∈ s.2.1) : WB ks fl s v (pth s.1 n v) := by
 have hw := pth_Wy n v hP
 obtain ⟨l1, _⟩ := pth_len (D := s.1) n v
 generalize pth s.1 n v = l at *
 have hS : ∀ i, i < l.length → (gI l i).toNat ∈ s.2.1 := by
  intro i
  induction i with
  |
   zero =>
   intro _
   rw [hw.h]
   simpa using hv
  |
   succ i ih =>
   intro hi
   obtain ⟨p1, p2⟩ := hw.p i hi
   rcases hh.tr _ (ih (by omega)) with ⟨e, _⟩ | ⟨u, u1, _, u3, _⟩
   ·unfold bfv at e
    exact absurd (by omega) p2
   ·unfold bfv at u3
    have : (gI l (i + 1)).toNat = u := by omega
    rw [this]
    exact u1
 have hp : ∀ i, i + 1 < l.length → (bfv s (gI l i).toNat = (gI l (i + 1)).toNat ∧ (gI l (i + 1)).toNat ≠ (gI l i).toNat) ∧ s.2.1.idxOf (gI l (i + 1)).toNat < s.2.1.idxOf (gI l i).toNat ∧ Tre ks fl (htv s (gI l (i + 1)).toNat) (htv s (gI l i).toNat) (gI l (i + 1)).toNat (gI l i).toNat := by
  intro i hi
  obtain ⟨p1, p2⟩ := hw.p i hi
  rcases hh.tr _ (hS i (by omega)) with ⟨e, _⟩ | ⟨u, u1, u2, u3, u4⟩
  ·unfold bfv at e
   exact absurd (by omega) p2
  ·unfold bfv at u3
   obtain rfl : (gI l (i + 1)).toNat = u := by omega
   exact ⟨⟨p1, p2⟩, u2, u4⟩
 refine ⟨l1, hw.h, fun i hi => ⟨(hw.n i hi).1, hS i hi⟩, hp, ?_, ?_⟩
 ·rcases hh.tr _ (hS (l.length - 1) (by omega)) with ⟨_, _, e⟩ | ⟨u, _, u2, u3, _⟩
  ·exact e
  ·have := hw.e
   unfold bfv at u3
   obtain rfl : (gI l (l.length - 1)).toNat = u := by omega
   omega
 ·intro i
  induction i with
  |
   zero =>
   intro _
   rw [hw.h]
   exact .refl _
  |
   succ i ih =>
   intro hi
   obtain ⟨_, _, j, hj, h⟩ := hp i hi
   refine .step (ih (by omega)) ⟨gN ks j, gN_mem hj, ?_⟩
   rcases h with ⟨a, b, _⟩ | ⟨a, b, _⟩
   ·exact .inr ⟨a, b⟩
   ·exact .inl ⟨a, b⟩
end
end Go.Abs

namespace Go.Abs
section
variable {N : Nat} {ks ps : List Nat} {fl : List Int}
theorem notmem_take {l : List Int} (h : ∀ i j, i < j → j < l.length → gI l i ≠ gI l j) {k : Nat} (hk : k < l.length) : gI l k ∉ l.take k := by
 intro hm
 obtain ⟨i, hi, e⟩ := List.mem_iff_getElem.1 hm
 rw [List.length_take] at hi
 rw [List.getElem_take, ← gI_eq (by omega)] at e
 exact h i k (by omega) hk e
set_option maxHeartbeats 8000000 in
theorem ring2_ok (hok : GOK N ks ps) (hfl : fl.length = ks.length) (hb : ∀ x ∈ fl, -100 ≤ x ∧ x ≤ 100) {i : Nat} (hi : i < ks.length)
  (hm : ¬ IntKind.i64.wrap (gI (fiS ks fl N).1 (6 + gN ks i % 6) - gI (fiS ks fl N).1 (6 + gN ks i / 6)) = gI fl i) :
  3 ≤ (ring2 (pth (fiS ks fl N).1 10 (gN ks i / 6)) (pth (fiS ks fl N).1 10 (gN ks i % 6))).length ∧ (ring2 (pth (fiS ks fl N).1 10 (gN ks i / 6)) (pth (fiS ks fl N).1 10 (gN ks i % 6))).length ≤ N ∧
  ∃ s, rgs (eC ks) ks.length fl (ring2 (pth (fiS ks fl N).1 10 (gN ks i / 6)) (pth (fiS ks fl N).1 10 (gN ks i % 6))) (ring2 (pth (fiS ks fl N).1 10 (gN ks i / 6)) (pth (fiS ks fl N).1 10 (gN ks i % 6))).length 0 0 = some s ∧ s ≠ 0 := by
 have hee := hok.ee _ (gN_mem hi)
 have hsA := ht_small hok hfl hb (v := gN ks i / 6) (by omega)
 have hsC := ht_small hok hfl hb (v := gN ks i % 6) hee.2
 have hm' : htv (fiS ks fl N) (gN ks i % 6) - htv (fiS ks fl N) (gN ks i / 6) ≠ gI fl i := by
  unfold htv at *
  rwa [wrap64 (by omega) (by omega)] at hm
 have hs := fiS_SI (fl := fl) hok N (Nat.le_refl _)
 have hh := fiS_HI hok hfl hb N (Nat.le_refl _)
 have hS := (fiS_ok (fl := fl) hok N (Nat.le_refl _)).2.1
 have wA := pth_WB hh (Pok_10 hok hfl hb (v := gN ks i / 6) (by omega)) (hS _ (by omega))
 have wC := pth_WB hh (Pok_10 hok hfl hb (v := gN ks i % 6) hee.2) (hS _ hee.2)
 have hadj := pe_adj hi
 generalize hla : pth (fiS ks fl N).1 10 (gN ks i / 6) = la at *
 generalize hlb : pth (fiS ks fl N).1 10 (gN ks i % 6) = lb at *
 have hroot : (gI la (la.length - 1)).toNat = (gI lb (lb.length - 1)).toNat := Lst_uniq wA.e wC.e (wA.c _ (by have := wA.l1; omega)).symm (Cn.trans (wC.c _ (by have := wC.l1; omega)).symm (.step (.refl _) hadj.symm))
 have l1 := wA.l1
 have l2 := wC.l1
 have hroot' : gI la (la.length - 1) = gI lb (lb.length - 1) := by
  rw [(wA.n _ (show la.length - 1 < la.length by omega)).1, (wC.n _ (show lb.length - 1 < lb.length by omega)).1, hroot]
 obtain ⟨c1, c2⟩ := cutP_ok la.length la.length lb.length (Nat.le_refl _) l1 l2 hroot'
 obtain ⟨k1, k2, k3, k4⟩ := cutP_le (la := la) (lb := lb) la.length la.length lb.length
 have k3 := k3 l1
 have k4 := k4 l2
 have hr2 : ring2 la lb = jn la lb (cutP la lb la.length la.length lb.length).1 (cutP la lb la.length la.length lb.length).2 := rfl
 rw [hr2]
 generalize (cutP la lb la.length la.length lb.length).1 = na at *
 generalize (cutP la lb la.length la.length lb.length).2 = nb at *
 generalize hst : fiS ks fl N = st at *
 -- the ways
 have pf : ∀ k, k + 1 < na → (bfv st (gI la k).toNat = (gI la (k + 1)).toNat ∧ (gI la (k + 1)).toNat ≠ (gI la k).toNat) ∧ st.2.1.idxOf (gI la (k + 1)).toNat < st.2.1.idxOf (gI la k).toNat ∧ Tre ks fl (htv st (gI la (k + 1)).toNat) (htv st (gI la k).toNat) (gI la (k + 1)).toNat (gI la k).toNat := fun k hk => wA.p k (by omega)
 have pg : ∀ k, k + 1 < nb → (bfv st (gI lb k).toNat = (gI lb (k + 1)).toNat ∧ (gI lb (k + 1)).toNat ≠ (gI lb k).toNat) ∧ st.2.1.idxOf (gI lb (k + 1)).toNat < st.2.1.idxOf (gI lb k).toNat ∧ Tre ks fl (htv st (gI lb (k + 1)).toNat) (htv st (gI lb k).toNat) (gI lb (k + 1)).toNat (gI lb k).toNat := fun k hk => wC.p k (by omega)
 have nf : ∀ k, k < na → gI la k = ((gI la k).toNat : Int) := fun k hk => (wA.n k (by omega)).1
 have ng : ∀ k, k < nb → gI lb k = ((gI lb k).toNat : Int) := fun k hk => (wC.n k (by omega)).1
 let pr : Nat → Nat → Prop := fun a b => bfv st a = b ∧ st.2.1.idxOf b < st.2.1.idxOf a
 have hf : ∀ k, k + 1 < na → pr (gI la k).toNat (gI la (k + 1)).toNat := fun k hk => ⟨(pf k hk).1.1, (pf k hk).2.1⟩
 have hg : ∀ k, k + 1 < nb → pr (gI lb k).toNat (gI lb (k + 1)).toNat := fun k hk => ⟨(pg k hk).1.1, (pg k hk).2.1⟩
 have hu : ∀ a b c, pr a b → pr a c → b = c := fun a b c h1 h2 => by have e1 := h1.1; have e2 := h2.1; omega
 have hrk : ∀ a b, pr a b → st.2.1.idxOf b < st.2.1.idxOf a := fun a b h => h.2
 have hla0 : (gI la 0).toNat = gN ks i / 6 := by rw [wA.h, Int.toNat_natCast]
 have hlb0 : (gI lb 0).toNat = gN ks i % 6 := by rw [wC.h, Int.toNat_natCast]
 have meet : ∀ a b, a < na → b < nb → gI la a = gI lb b → a = na - 1 ∧ b = nb - 1 := fun a b ha hb' e =>
  way_meet (f := fun k => (gI la k).toNat) (g := fun k => (gI lb k).toNat) hf hg hu hrk (by show (gI la (na - 1)).toNat = (gI lb (nb - 1)).toNat; rw [c1]) (by
   rcases c2 with h | h | h
   ·exact .inl h
   ·exact .inr (.inl h)
   ·by_cases d1 : na = 1
    ·exact .inl d1
    ·by_cases d2 : nb = 1
     ·exact .inr (.inl d2)
     ·refine .inr (.inr fun e => h ?_)
      have := nf (na - 2) (by omega)
      have := ng (nb - 2) (by omega)
      have e' : (gI la (na - 2)).toNat = (gI lb (nb - 2)).toNat := e
      omega) ha hb' (by show (gI la a).toNat = (gI lb b).toNat; rw [e])
 have injf : ∀ a b, a < b → b < na → gI la a ≠ gI la b := fun a b h1 h2 e => way_inj (f := fun k => (gI la k).toNat) hf hrk h1 h2 (by show (gI la a).toNat = (gI la b).toNat; rw [e])
 have injg : ∀ a b, a < b → b < nb → gI lb a ≠ gI lb b := fun a b h1 h2 e => way_inj (f := fun k => (gI lb k).toNat) hg hrk h1 h2 (by show (gI lb a).toNat = (gI lb b).toNat; rw [e])
 -- at least three places
 have h3 : 3 ≤ na + (nb - 1) := by
  apply Classical.byContradiction
  intro hlt
  have h0 : gI la 0 ≠ gI lb 0 := by rw [wA.h, wC.h]; omega
  by_cases d1 : na = 1
  ·by_cases d2 : nb = 1
   ·rw [d1, d2] at c1
    exact h0 c1
   ·have d3 : nb = 2 := by omega
    rw [d1, d3] at c1
    obtain ⟨_, _, j, hj, h⟩ := pg 0 (by omega)
    have e1 : (gI lb (0 + 1)).toNat = gN ks i / 6 := by rw [← hla0]; exact congrArg Int.toNat c1.symm
    rw [e1, hlb0] at h
    rcases h with ⟨a, b, c⟩ | ⟨a, b, c⟩
    ·obtain rfl : j = i := gN_inj hok.es hj hi (by omega)
     omega
    ·have := hok.ee _ (gN_mem hj)
     omega
  ·have d2 : na = 2 := by omega
   have d3 : nb = 1 := by omega
   rw [d2, d3] at c1
   obtain ⟨_, _, j, hj, h⟩ := pf 0 (by omega)
   have e1 : (gI la (0 + 1)).toNat = gN ks i % 6 := by rw [← hlb0]; exact congrArg Int.toNat c1
   rw [e1, hla0] at h
   rcases h with ⟨a, b, c⟩ | ⟨a, b, c⟩
   ·have := hok.ee _ (gN_mem hj)
    omega
   ·obtain rfl : j = i := gN_inj hok.es hj hi (by omega)
    omega
 have hlen := jn_len (la := la) (lb := lb) (na := na) (nb := nb) k1 k2
 have hget := fun k => jn_get (la := la) (lb := lb) (na := na) (nb := nb) k1 k2 (k := k)
 generalize hrg : jn la lb na nb = rg at *
 -- no place twice
 have hinj : ∀ a b, a < b → b < rg.length → gI rg a ≠ gI rg b := by
  intro a b h1 h2 e
  rw [hlen] at h2
  rw [hget a (by omega), hget b h2] at e
  by_cases d1 : b < na
  ·rw [if_pos (by omega), if_pos d1] at e
   exact injf a b h1 d1 e
  ·rw [if_neg d1] at e
   by_cases d2 : a < na
   ·rw [if_pos d2] at e
    have := meet a (na + nb - 2 - b) d2 (by omega) e
    omega
   ·rw [if_neg d2] at e
    exact injg (na + nb - 2 - b) (na + nb - 2 - a) (by omega) (by omega) e.symm
 have hnat : ∀ k, k < rg.length → gI rg k = ((gI rg k).toNat : Int) ∧ (gI rg k).toNat < N := by
  intro k hk
  rw [hlen] at hk
  rw [hget k hk]
  split
  ·have := wA.n k (by omega)
   exact ⟨this.1, hs.b _ this.2⟩
  ·have := wC.n (na + nb - 2 - k) (by omega)
   exact ⟨this.1, hs.b _ this.2⟩
 have hN : rg.length ≤ N := by
  refine few_ints rg (nodup_of fun k hk => notmem_take hinj hk) fun x hx => ?_
  obtain ⟨k, hk, rfl⟩ := List.mem_iff_getElem.1 hx
  rw [← gI_eq hk]
  have := hnat k hk
  omega
 -- one step
 have hlast : gI rg (rg.length - 1) = gN ks i % 6 := by
  rw [hlen, hget _ (by omega)]
  by_cases d : na + (nb - 1) - 1 < na
  ·rw [if_pos d]
   have d3 : nb = 1 := by omega
   subst d3
   rw [show na + (1 - 1) - 1 = na - 1 from by omega, c1]
   simpa using wC.h
  ·rw [if_neg d, show na + nb - 2 - (na + (nb - 1) - 1) = 0 from by omega]
   simpa using wC.h
 have hfirst : gI rg 0 = gN ks i / 6 := by
  rw [hget 0 (by omega), if_pos (by omega)]
  simpa using wA.h
 have hlater : ∀ k, na ≤ k + 1 → k < na + (nb - 1) → gI rg k = gI lb (na + nb - 2 - k) := by
  intro k h1 h2
  rw [hget k h2]
  by_cases d : k < na
  ·obtain rfl : k = na - 1 := by omega
   rw [if_pos d, c1]
   congr 1
   omega
  ·rw [if_neg d]
 have hstep : ∀ k, k < rg.length → 0 ≤ pix (eC ks) (min (gI rg k) (gI rg ((k + 1) % rg.length))) (max (gI rg k) (gI rg ((k + 1) % rg.length))) ks.length 0 ∧ gI rg k ∉ rg.take k ∧
   (if gI rg k < gI rg ((k + 1) % rg.length) then gI fl (pix (eC ks) (min (gI rg k) (gI rg ((k + 1) % rg.length))) (max (gI rg k) (gI rg ((k + 1) % rg.length))) ks.length 0).toNat else - gI fl (pix (eC ks) (min (gI rg k) (gI rg ((k + 1) % rg.length))) (max (gI rg k) (gI rg ((k + 1) % rg.length))) ks.length 0).toNat) = if k + 1 = rg.length then - gI fl i else htv st (gI rg (k + 1)).toNat - htv st (gI rg k).toNat := by
  intro k hk
  have hnm := notmem_take hinj hk
  by_cases d : k + 1 = rg.length
  ·have e0 : (k + 1) % rg.length = 0 := by rw [d]; exact Nat.mod_self _
   have ek : k = rg.length - 1 := by omega
   rw [e0, if_pos d]
   have hk' : gI rg k = gN ks i % 6 := by rw [ek]; exact hlast
   rw [hk', hfirst]
   have hp : pix (eC ks) (min ((gN ks i : Int) % 6) ((gN ks i : Int) / 6)) (max ((gN ks i : Int) % 6) ((gN ks i : Int) / 6)) ks.length 0 = i := pix_at hok hi (by omega) (by omega)
   rw [hk'] at hnm
   refine ⟨by rw [hp]; omega, hnm, ?_⟩
   rw [if_neg (by omega), hp, Int.toNat_natCast]
  ·have e0 : (k + 1) % rg.length = k + 1 := Nat.mod_eq_of_lt (by omega)
   rw [e0, if_neg d]
   by_cases d1 : k + 1 < na
   ·have g1 : gI rg k = gI la k := by rw [hget k (by omega), if_pos (by omega)]
    have g2 : gI rg (k + 1) = gI la (k + 1) := by rw [hget (k + 1) (by omega), if_pos d1]
    obtain ⟨p1, _, p3⟩ := pf k d1
    have n1 := nf k (by omega)
    have n2 := nf (k + 1) d1
    obtain ⟨s1, s2⟩ := step_tre hok (a := gI rg k) (b := gI rg (k + 1)) p3 (.inr ⟨by rw [g1]; exact n1, by rw [g2]; exact n2⟩)
    refine ⟨s1, hnm, ?_⟩
    rw [s2, if_neg (by rw [g1]; omega), g1, g2]
   ·have g1 := hlater k (by omega) (by omega)
    have g2 := hlater (k + 1) (by omega) (by omega)
    have ej : na + nb - 2 - k = na + nb - 2 - (k + 1) + 1 := by omega
    rw [ej] at g1
    generalize na + nb - 2 - (k + 1) = j at *
    obtain ⟨p1, _, p3⟩ := pg j (by omega)
    have n1 := ng j (by omega)
    have n2 := ng (j + 1) (by omega)
    obtain ⟨s1, s2⟩ := step_tre hok (a := gI rg k) (b := gI rg (k + 1)) p3 (.inl ⟨by rw [g1]; exact n2, by rw [g2]; exact n1⟩)
    refine ⟨s1, hnm, ?_⟩
    rw [s2, if_pos (by rw [g1]; exact n2), g1, g2]
 have hsum := rgs_tel (H := fun k => htv st (gI rg k).toNat) rfl (by omega) hstep rg.length 0 0 (by omega) (by omega)
 refine ⟨by omega, hN, _, hsum, ?_⟩
 simp only [hlast, hfirst]
 have t1 : ((gN ks i : Int) % 6).toNat = gN ks i % 6 := by omega
 have t2 : ((gN ks i : Int) / 6).toNat = gN ks i / 6 := by omega
 rw [t1, t2]
 omega
end
end Go.Abs

namespace Go.Abs
structure LawIn (rows : List Row) (g lv : AV) (l : List Int) : Prop where
 g : ∃ (x : Int) (ev pv : AV) (fe fp : List Int) (m0 k0 : Nat), g = .agg [.int .i64 x, ev, pv] ∧ El rows 2 ev (nums .i64 fe) m0 ∧ m0 ≤ 9223372036854775807 ∧ El rows 3 pv (nums .i64 fp) k0 ∧ k0 ≤ 9223372036854775807
 l : IsL rows lv l
theorem newW_shape (rows : List Row) (l : List Int) : ∃ v K, newW rows 1 (nums .i64 l) l.length = (v, rows ++ K, none) ∧ IsL (rows ++ K) v l ∧ Cp 1 v ∧ K.all (Row.under 0) = true := by
 have h := acc_El (rows := rows) (H := []) (cs := nums .i64 l) (n := l.length) (sz := 1) (by simp [nums]) (by omega)
 exact ⟨_, _, rfl, h.1, h.2, acc_und rfl nums_und⟩
section
variable {rows : List Row}
theorem Und_one {X : List Row} {vs : List AV} (h : Und rows X) (hv : (Row.cells vs).under (rows.length + X.length + 1) = true) : Und rows (X ++ [.cells vs]) := Und_app h (fun y hy => by
 simp only [List.mem_singleton] at hy
 subst hy
 simpa using hv)
theorem agg_under {N : Int} {ev pv : AV} {b : Nat} (h1 : ev.under b = true) (h2 : pv.under b = true) : (Row.cells [.int .i64 N, ev, pv]).under b = true := by
 simp [Row.under, AV.under, AV.ids]
 exact ⟨by simpa [AV.under] using h1, by simpa [AV.under] using h2⟩
theorem under_mono {v : AV} {a b : Nat} (h : v.under a = true) (hab : a ≤ b) : v.under b = true := by
 have := und_mono (y := .cells [v]) (a := a) (b := b) (by simpa [Row.under] using h) hab
 simpa [Row.under] using this
theorem GRd_under {g : AV} {N : Nat} {ks ps : List Nat} (h : GRd rows g N ks ps) : ∃ ev pv, g = .agg [.int .i64 N, ev, pv] ∧ ev.under rows.length = true ∧ pv.under rows.length = true ∧ ev.one = true ∧ pv.one = true ∧ El rows 2 ev (nums .i64 (eC ks)) ks.length := by
 obtain ⟨ev, pv, e, h1, h2, h3⟩ := h.eq
 exact ⟨ev, pv, e, El_under h1, El_under h2, El_one h1, El_one h2, h1⟩
end
end Go.Abs

namespace Go.Abs
structure Beg (rows : List Row) (gv : AV) (N : Nat) (ks ps : List Nat) (B1 B3 B4 : List Row) (ev1 pv1 ev2 pv2 : AV) : Prop where
 gx : ∃ (x : Int) (ev pv : AV), gv = .agg [.int .i64 x, ev, pv] ∧ ev.one = true ∧ pv.one = true ∧ Ret F 15 [gv] (rows ++ [.cells [.int .i64 x, ev, pv]]) = some (.agg [.int .i64 N, ev1, pv1], B1, none) ∧ row? (rows ++ [.cells [.int .i64 x, ev, pv]]) rows.length = some [.int .i64 x, ev, pv]
 r17 : Ret F 17 [.agg [.int .i64 N, ev1, pv1]] (B1 ++ [.cells [.int .i64 N, ev1, pv1]]) = some (.agg [.int .i64 N, ev2, pv2], B3, none)
 o : ev1.one = true ∧ pv1.one = true ∧ ev2.one = true ∧ pv2.one = true
 l1 : rows.length ≤ B1.length
 l3 : rows.length ≤ B3.length
 r2 : row? (B1 ++ [.cells [.int .i64 N, ev1, pv1]]) B1.length = some [.int .i64 N, ev1, pv1]
 e4 : B3 ++ [.cells [.int .i64 N, ev2, pv2]] = B4
 rx : row? B4 B1.length = some [.int .i64 N, ev1, pv1]
 ry : row? B4 B3.length = some [.int .i64 N, ev2, pv2]
 gx4 : GRd B4 (.agg [.int .i64 N, ev1, pv1]) N ks ps
 gy4 : GRd B4 (.agg [.int .i64 N, ev2, pv2]) N ks ps
 un : ∃ Y, B4 = rows ++ Y ∧ Und rows Y
theorem law_beg {rows : List Row} {gv lv : AV} {l : List Int} (h : LawIn rows gv lv l) : ∃ N ks ps B1 B3 B4 ev1 pv1 ev2 pv2, Beg rows gv N ks ps B1 B3 B4 ev1 pv1 ev2 pv2 := by
 obtain ⟨x, ev, pv, fe, fp, m0, k0, rfl, he, hm, hp, hk0⟩ := h.g
 have ue := El_under he
 have up := El_under hp
 have o1 := El_one he
 have o2 := El_one hp
 -- tame
 obtain ⟨R1, hR1⟩ : ∃ R1, R1 = rows ++ [.cells [.int .i64 x, ev, pv]] := ⟨_, rfl⟩
 have hl1 : R1.length = rows.length + 1 := by simp [hR1]
 have row1 : row? R1 rows.length = some [.int .i64 x, ev, pv] := by rw [hR1]; exact row_end
 obtain ⟨N, ks, ps, g, X1, r15, u1, g1⟩ := tame_ret (rows := R1) (x := x) (hR1 ▸ El_app he _) hm (hR1 ▸ El_app hp _) hk0 (by
  rw [hl1]; exact ⟨under_mono ue (by omega), under_mono up (by omega)⟩)
 obtain ⟨ev1, pv1, rfl, ue1, up1, oe1, op1, _⟩ := GRd_under g1
 obtain ⟨B1, hB1⟩ : ∃ B1, B1 = R1 ++ X1 := ⟨_, rfl⟩
 rw [← hB1] at r15 g1 ue1 up1
 have U1 : Und rows ([.cells [.int .i64 x, ev, pv]] ++ X1) := Und_app (by
  have := Und_one (rows := rows) (X := []) (vs := [.int .i64 x, ev, pv]) Und_nil (agg_under (under_mono ue (by simp)) (under_mono up (by simp)))
  simpa using this) (by rw [← hR1]; exact u1)
 have B1e : B1 = rows ++ ([.cells [.int .i64 x, ev, pv]] ++ X1) := by rw [hB1, hR1]; simp
 obtain ⟨Y1, hY1⟩ : ∃ Y1, Y1 = [Row.cells [.int .i64 x, ev, pv]] ++ X1 := ⟨_, rfl⟩
 rw [← hY1] at U1 B1e
 obtain ⟨B2, hB2⟩ : ∃ B2, B2 = B1 ++ [.cells [.int .i64 N, ev1, pv1]] := ⟨_, rfl⟩
 have row2 : row? B2 B1.length = some [.int .i64 N, ev1, pv1] := by rw [hB2]; exact row_end
 have U2 : Und rows (Y1 ++ [.cells [.int .i64 N, ev1, pv1]]) := Und_one U1 (by
  have e : B1.length = rows.length + Y1.length := by rw [B1e]; simp
  rw [← e]
  exact agg_under (under_mono ue1 (by omega)) (under_mono up1 (by omega)))
 have B2e : B2 = rows ++ (Y1 ++ [.cells [.int .i64 N, ev1, pv1]]) := by rw [hB2, B1e]; simp
 have g2 : GRd B2 (.agg [.int .i64 N, ev1, pv1]) N ks ps := by rw [hB2]; exact g1.app _
 -- given
 obtain ⟨g', X2, r17, u2, g3⟩ := given_ret (rows := B2) g2
 obtain ⟨ev2, pv2, rfl, ue2, up2, oe2, op2, _⟩ := GRd_under g3
 obtain ⟨B3, hB3⟩ : ∃ B3, B3 = B2 ++ X2 := ⟨_, rfl⟩
 rw [← hB3] at r17 g3 ue2 up2
 obtain ⟨Y2, hY2⟩ : ∃ Y2, Y2 = (Y1 ++ [.cells [.int .i64 N, ev1, pv1]]) ++ X2 := ⟨_, rfl⟩
 have U3 : Und rows Y2 := by rw [hY2]; exact Und_app U2 (by rw [← B2e]; exact u2)
 have B3e : B3 = rows ++ Y2 := by rw [hB3, B2e, hY2]; simp
 obtain ⟨B4, hB4⟩ : ∃ B4, B4 = B3 ++ [.cells [.int .i64 N, ev2, pv2]] := ⟨_, rfl⟩
 obtain ⟨Y3, hY3⟩ : ∃ Y3, Y3 = Y2 ++ [.cells [.int .i64 N, ev2, pv2]] := ⟨_, rfl⟩
 have U4 : Und rows Y3 := by
  rw [hY3]
  refine Und_one U3 ?_
  have e : B3.length = rows.length + Y2.length := by rw [B3e]; simp
  rw [← e]
  exact agg_under (under_mono ue2 (by omega)) (under_mono up2 (by omega))
 have B4e : B4 = rows ++ Y3 := by rw [hB4, B3e, hY3]; simp
 have row4 : row? B4 B3.length = some [.int .i64 N, ev2, pv2] := by rw [hB4]; exact row_end
 have row2' : row? B4 B1.length = some [.int .i64 N, ev1, pv1] := by rw [hB4, hB3]; exact row?_old (row?_old row2 _) _
 have row1' : row? B4 B1.length = some [.int .i64 N, ev1, pv1] := by rw [hB4, hB3]; exact row?_old (row?_old row2 _) _
 have g4 : GRd B4 (.agg [.int .i64 N, ev2, pv2]) N ks ps := by rw [hB4]; exact g3.app _
 have g4' : GRd B4 (.agg [.int .i64 N, ev1, pv1]) N ks ps := by rw [hB4, hB3]; exact (g2.app _).app _
 have hlen1 : rows.length ≤ B1.length := by rw [B1e]; simp
 have hlen3 : rows.length ≤ B3.length := by rw [B3e]; simp
 refine ⟨N, ks, ps, B1, B3, B4, ev1, pv1, ev2, pv2, ⟨x, ev, pv, rfl, o1, o2, by rw [← hR1]; exact r15, by rw [← hR1]; exact row1⟩, by rw [← hB2]; exact r17, ⟨oe1, op1, oe2, op2⟩, hlen1, hlen3, by rw [← hB2]; exact row2, hB4.symm, row2', row4, g4', g4, Y3, B4e, U4⟩
end Go.Abs

set_option maxRecDepth 20000
set_option maxHeartbeats 4000000
namespace Go.Abs
variable {F : Nat → Option IFn} {cx : Ctx} {k : List Itm} {s : St} {l : List (Nat × AV)} {rows : List Row} {low : Nat} {r : AV × List Row × Nat → Prop}
def c9r0 : List Seg := [
 zo 133 (.call [] (.c (.func 19 [])) []),
 zm 4 133]
def c9k0 : ICode := .kill 134 [] (.ops c9r0)
@[simp] theorem uc9k0 : Ex F cx (.code c9k0 :: k) ⟨mk 134 l, rows, low⟩ r ↔ bnd (Ret F 19 [] rows) fun q0 => Ex F cx k ⟨mk 134 [(4, q0.1), (133, q0.1)], q0.2.1, (lowO low q0.2.2)⟩ r := rg [] c9r0 rfl (by kernel_rfl)
def c9s1 : ICode := (.seq c9k0 .ret)
@[simp] theorem uc9s1 : Ex F cx (.code c9s1 :: k) s r ↔ Ex F cx (.code (.seq c9k0 .ret) :: k) s r := Iff.rfl
def c9r3 : List Seg := [
 zm 32 8,
 zo 33 (.bin .add (.t 32) (.c (.int .i64 1))),
 zm 8 33]
def c9k3 : ICode := .kill 134 [1, 5, 6, 7, 8] (.ops c9r3)
@[simp] theorem uc9k3 : Ex F cx (.code c9k3 :: k) ⟨mk 134 l, rows, low⟩ r ↔ bnd (evP rows (.bin .add (.c (lk l 8)) (.c (.int .i64 1)))) fun v0 => Ex F cx k ⟨mk 134 [(8, v0), (33, v0), (32, lk l 8), (1, lk l 1), (5, lk l 5), (6, lk l 6), (7, lk l 7), (8, lk l 8)], rows, low⟩ r := rg [1, 5, 6, 7, 8] c9r3 rfl (by kernel_rfl)
def c9r4 : List Seg := [
 zo 130 (.loadN 3 (.t 5)),
 zm 131 19,
 zo 132 (.call [] (.c (.func 49 [])) [(.t 130), (.t 131)]),
 zm 7 132]
def c9k4 : ICode := .kill 134 [1, 5, 6, 8, 19] (.ops c9r4)
@[simp] theorem uc9k4 : Ex F cx (.code c9k4 :: k) ⟨mk 134 l, rows, low⟩ r ↔ bnd (evP rows (.loadN 3 (.c (lk l 5)))) fun v0 => bnd (Ret F 49 [v0, lk l 19] rows) fun q1 => Ex F cx k ⟨mk 134 [(7, q1.1), (132, q1.1), (131, lk l 19), (130, v0), (1, lk l 1), (5, lk l 5), (6, lk l 6), (8, lk l 8), (19, lk l 19)], q1.2.1, (lowO low q1.2.2)⟩ r := rg [1, 5, 6, 8, 19] c9r4 rfl (by kernel_rfl)
def c9r6 : List Seg := [
 zm 117 20,
 zo 118 (.bin .add (.t 117) (.c (.int .i64 1))),
 zm 20 118]
def c9k6 : ICode := .kill 134 [1, 5, 6, 8, 19, 20] (.ops c9r6)
@[simp] theorem uc9k6 : Ex F cx (.code c9k6 :: k) ⟨mk 134 l, rows, low⟩ r ↔ bnd (evP rows (.bin .add (.c (lk l 20)) (.c (.int .i64 1)))) fun v0 => Ex F cx k ⟨mk 134 [(20, v0), (118, v0), (117, lk l 20), (1, lk l 1), (5, lk l 5), (6, lk l 6), (8, lk l 8), (19, lk l 19), (20, lk l 20)], rows, low⟩ r := rg [1, 5, 6, 8, 19, 20] c9r6 rfl (by kernel_rfl)
def c9r7 : List Seg := [
 zm 119 19,
 zm 120 1,
 zo 121 (.fieldA 0 (.t 5)),
 zo 122 (.load1 (.t 121)),
 zo 123 (.call [] (.c (.func 20 [])) [(.t 120), (.t 122)]),
 zm 124 20,
 zo 125 (.idxS 1 (.t 123) (.t 124)),
 zo 126 (.load1 (.t 125)),
 zo 127 (.bin .quo (.t 126) (.c (.int .i64 2))),
 zo 128 (.mkslice 1 [.int .i64 0] [(0, 1, (.t 127))]),
 zo 129 (.app 1 8 (.t 119) (.t 128)),
 zm 19 129]
def c9k7 : ICode := .kill 134 [1, 5, 6, 8, 19, 20] (.ops c9r7)
@[simp] theorem uc9k7 : Ex F cx (.code c9k7 :: k) ⟨mk 134 l, rows, low⟩ r ↔ bnd (evP rows (.fieldA 0 (.c (lk l 5)))) fun v0 => bnd (evP rows (.load1 (.c v0))) fun v1 => bnd (Ret F 20 [lk l 1, v1] rows) fun q2 => bnd (evP q2.2.1 (.idxS 1 (.c q2.1) (.c (lk l 20)))) fun v3 => bnd (evP q2.2.1 (.load1 (.c v3))) fun v4 => bnd (evP q2.2.1 (.bin .quo (.c v4) (.c (.int .i64 2)))) fun v5 => bnd (evE q2.2.1 (lowO low q2.2.2) (.mkslice 1 [.int .i64 0] [(0, 1, (.c v5))])) fun q6 => bnd (evE q6.2.1 q6.2.2 (.app 1 8 (.c (lk l 19)) (.c q6.1))) fun q7 => Ex F cx k ⟨mk 134 [(19, q7.1), (129, q7.1), (128, q6.1), (127, v5), (126, v4), (125, v3), (124, lk l 20), (123, q2.1), (122, v1), (121, v0), (120, lk l 1), (119, lk l 19), (1, lk l 1), (5, lk l 5), (6, lk l 6), (8, lk l 8), (19, lk l 19), (20, lk l 20)], q7.2.1, q7.2.2⟩ r := rg [1, 5, 6, 8, 19, 20] c9r7 rfl (by kernel_rfl)
def c9s8 : ICode := (.seq (.block 3 c9k7) c9k6)
@[simp] theorem uc9s8 : Ex F cx (.code c9s8 :: k) s r ↔ Ex F cx (.code (.seq (.block 3 c9k7) c9k6) :: k) s r := Iff.rfl
def c9s9 : ICode := (.cond (.t 116) .skip (.exit 2))
@[simp] theorem uc9s9 : Ex F cx (.code c9s9 :: k) s r ↔ Ex F cx (.code (.cond (.t 116) .skip (.exit 2)) :: k) s r := Iff.rfl
def c9r10 : List Seg := [
 zm 113 20,
 zo 114 (.fieldA 0 (.t 5)),
 zo 115 (.load1 (.t 114)),
 zo 116 (.bin .lss (.t 113) (.t 115))]
def c9k10 : ICode := .kill 134 [1, 5, 6, 8, 19, 20] (.ops c9r10)
@[simp] theorem uc9k10 : Ex F cx (.code c9k10 :: k) ⟨mk 134 l, rows, low⟩ r ↔ bnd (evP rows (.fieldA 0 (.c (lk l 5)))) fun v0 => bnd (evP rows (.load1 (.c v0))) fun v1 => bnd (evP rows (.bin .lss (.c (lk l 20)) (.c v1))) fun v2 => Ex F cx k ⟨mk 134 [(116, v2), (115, v1), (114, v0), (113, lk l 20), (1, lk l 1), (5, lk l 5), (6, lk l 6), (8, lk l 8), (19, lk l 19), (20, lk l 20)], rows, low⟩ r := rg [1, 5, 6, 8, 19, 20] c9r10 rfl (by kernel_rfl)
def c9l5 : ICode := (.seq (.seq c9k10 c9s9) c9s8)
def c9s11 : ICode := (.block 2 (.loop c9l5))
@[simp] theorem uc9s11 : Ex F cx (.code c9s11 :: k) s r ↔ Ex F cx (.code (.block 2 (.loop c9l5)) :: k) s r := Iff.rfl
def c9r12 : List Seg := [
 zo 20 (.mv (.c (.int .i64 0)))]
def c9k12 : ICode := .kill 134 [1, 5, 6, 8, 19] (.ops c9r12)
@[simp] theorem uc9k12 : Ex F cx (.code c9k12 :: k) ⟨mk 134 l, rows, low⟩ r ↔ Ex F cx k ⟨mk 134 [(20, (.int .i64 0)), (1, lk l 1), (5, lk l 5), (6, lk l 6), (8, lk l 8), (19, lk l 19)], rows, low⟩ r := rg [1, 5, 6, 8, 19] c9r12 rfl (by kernel_rfl)
def c9s13 : ICode := (.seq (.seq c9k12 c9s11) c9k4)
@[simp] theorem uc9s13 : Ex F cx (.code c9s13 :: k) s r ↔ Ex F cx (.code (.seq (.seq c9k12 c9s11) c9k4) :: k) s r := Iff.rfl
def c9r14 : List Seg := [
 zo 19 (.mv (.c .nilslice))]
def c9k14 : ICode := .kill 134 [1, 5, 6, 8] (.ops c9r14)
@[simp] theorem uc9k14 : Ex F cx (.code c9k14 :: k) ⟨mk 134 l, rows, low⟩ r ↔ Ex F cx k ⟨mk 134 [(19, .nilslice), (1, lk l 1), (5, lk l 5), (6, lk l 6), (8, lk l 8)], rows, low⟩ r := rg [1, 5, 6, 8] c9r14 rfl (by kernel_rfl)
def c9s15 : ICode := (.seq c9k14 c9s13)
@[simp] theorem uc9s15 : Ex F cx (.code c9s15 :: k) s r ↔ Ex F cx (.code (.seq c9k14 c9s13) :: k) s r := Iff.rfl
def c9r16 : List Seg := [
 zo 4 (.mv (.c (.bool false)))]
def c9k16 : ICode := .kill 134 [] (.ops c9r16)
@[simp] theorem uc9k16 : Ex F cx (.code c9k16 :: k) ⟨mk 134 l, rows, low⟩ r ↔ Ex F cx k ⟨mk 134 [(4, (.bool false))], rows, low⟩ r := rg [] c9r16 rfl (by kernel_rfl)
def c9s17 : ICode := (.cond (.t 112) (.seq c9k16 .ret) .skip)
@[simp] theorem uc9s17 : Ex F cx (.code c9s17 :: k) s r ↔ Ex F cx (.code (.cond (.t 112) (.seq c9k16 .ret) .skip) :: k) s r := Iff.rfl
def c9r18 : List Seg := [
 zm 104 13,
 zm 105 104,
 .one ⟨some 106, .mv (.t 18), some (105, true)⟩,
 .one ⟨some 107, .un .not (.t 106), some (105, true)⟩,
 .one ⟨some 108, .mv (.t 107), some (105, true)⟩,
 .one ⟨some 109, .mv (.t 17), some (108, false)⟩,
 .one ⟨some 110, .bin .eql (.t 109) (.c (.int .i64 0)), some (108, false)⟩,
 .one ⟨some 111, .pick (.t 108) (.c (.bool true)) (.t 110), some (105, true)⟩,
 zo 112 (.pick (.t 105) (.t 111) (.c (.bool false)))]
def c9k18 : ICode := .kill 134 [1, 5, 6, 8, 13, 17, 18] (.ops c9r18)
@[simp] theorem uc9k18 : Ex F cx (.code c9k18 :: k) ⟨mk 134 l, rows, low⟩ r ↔ bnd (gv (lk l 13) true (evP rows (.mv (.c (lk l 18))))) fun v0 => bnd (gv (lk l 13) true (evP rows (.un .not (.c v0)))) fun v1 => bnd (gv (lk l 13) true (evP rows (.mv (.c v1)))) fun v2 => bnd (gv v2 false (evP rows (.mv (.c (lk l 17))))) fun v3 => bnd (gv v2 false (evP rows (.bin .eql (.c v3) (.c (.int .i64 0))))) fun v4 => bnd (gv (lk l 13) true (evP rows (.pick (.c v2) (.c (.bool true)) (.c v4)))) fun v5 => bnd (evP rows (.pick (.c (lk l 13)) (.c v5) (.c (.bool false)))) fun v6 => Ex F cx k ⟨mk 134 [(112, v6), (111, v5), (110, v4), (109, v3), (108, v2), (107, v1), (106, v0), (105, lk l 13), (104, lk l 13), (1, lk l 1), (5, lk l 5), (6, lk l 6), (8, lk l 8), (13, lk l 13), (17, lk l 17), (18, lk l 18)], rows, low⟩ r := rg [1, 5, 6, 8, 13, 17, 18] c9r18 rfl (by kernel_rfl)
def c9s19 : ICode := (.seq c9k18 c9s17)
@[simp] theorem uc9s19 : Ex F cx (.code c9s19 :: k) s r ↔ Ex F cx (.code (.seq c9k18 c9s17) :: k) s r := Iff.rfl
def c9r20 : List Seg := [
 zo 98 (.loadN 3 (.t 5)),
 zm 99 7,
 zm 100 12,
 zo 101 (.call [] (.c (.func 37 [])) [(.t 98), (.t 99), (.t 100)]),
 zm 97 101,
 zo 102 (.ext (.t 97) 0),
 zo 103 (.ext (.t 97) 1),
 zm 17 102,
 zm 18 103]
def c9k20 : ICode := .kill 134 [1, 5, 6, 7, 8, 12, 13] (.ops c9r20)
@[simp] theorem uc9k20 : Ex F cx (.code c9k20 :: k) ⟨mk 134 l, rows, low⟩ r ↔ bnd (evP rows (.loadN 3 (.c (lk l 5)))) fun v0 => bnd (Ret F 37 [v0, lk l 7, lk l 12] rows) fun q1 => bnd (evP q1.2.1 (.ext (.c q1.1) 0)) fun v2 => bnd (evP q1.2.1 (.ext (.c q1.1) 1)) fun v3 => Ex F cx k ⟨mk 134 [(18, v3), (17, v2), (103, v3), (102, v2), (97, q1.1), (101, q1.1), (100, lk l 12), (99, lk l 7), (98, v0), (1, lk l 1), (5, lk l 5), (6, lk l 6), (7, lk l 7), (8, lk l 8), (12, lk l 12), (13, lk l 13)], q1.2.1, (lowO low q1.2.2)⟩ r := rg [1, 5, 6, 7, 8, 12, 13] c9r20 rfl (by kernel_rfl)
def c9s21 : ICode := (.seq (.seq c9k20 c9s19) c9s15)
@[simp] theorem uc9s21 : Ex F cx (.code c9s21 :: k) s r ↔ Ex F cx (.code (.seq (.seq c9k20 c9s19) c9s15) :: k) s r := Iff.rfl
def c9r22 : List Seg := [
 zo 4 (.mv (.c (.bool false)))]
def c9k22 : ICode := .kill 134 [] (.ops c9r22)
@[simp] theorem uc9k22 : Ex F cx (.code c9k22 :: k) ⟨mk 134 l, rows, low⟩ r ↔ Ex F cx k ⟨mk 134 [(4, (.bool false))], rows, low⟩ r := rg [] c9r22 rfl (by kernel_rfl)
def c9s23 : ICode := (.cond (.t 96) (.seq c9k22 .ret) .skip)
@[simp] theorem uc9s23 : Ex F cx (.code c9s23 :: k) s r ↔ Ex F cx (.code (.cond (.t 96) (.seq c9k22 .ret) .skip) :: k) s r := Iff.rfl
def c9r24 : List Seg := [
 zm 54 11,
 zo 55 (.bin .neq (.t 54) (.c (.int .i64 0))),
 zm 56 55,
 .one ⟨some 57, .mv (.t 14), some (56, false)⟩,
 .one ⟨some 58, .bin .neq (.t 57) (.c (.int .i64 0)), some (56, false)⟩,
 zo 59 (.pick (.t 56) (.c (.bool true)) (.t 58)),
 zm 60 59,
 .one ⟨some 61, .mv (.t 10), some (60, false)⟩,
 .one ⟨some 62, .mv (.t 16), some (60, false)⟩,
 .one ⟨some 63, .eqv true .bool (.t 61) (.t 62), some (60, false)⟩,
 zo 64 (.pick (.t 60) (.c (.bool true)) (.t 63)),
 zm 65 64,
 .one ⟨some 66, .mv (.t 13), some (65, false)⟩,
 .one ⟨some 67, .mv (.t 16), some (65, false)⟩,
 .one ⟨some 68, .eqv false .bool (.t 66) (.t 67), some (65, false)⟩,
 zo 69 (.pick (.t 65) (.c (.bool true)) (.t 68)),
 zm 70 69,
 .one ⟨some 71, .mv (.t 10), some (70, false)⟩,
 .one ⟨some 72, .mv (.t 71), some (70, false)⟩,
 .one ⟨some 73, .mv (.t 9), some (72, true)⟩,
 .one ⟨some 74, .mv (.t 15), some (72, true)⟩,
 .one ⟨some 75, .call [] (.c (.func 27 [])) [(.t 73), (.t 74)], some (72, true)⟩,
 .one ⟨some 76, .un .not (.t 75), some (72, true)⟩,
 .one ⟨some 77, .pick (.t 72) (.t 76) (.c (.bool false)), some (70, false)⟩,
 zo 78 (.pick (.t 70) (.c (.bool true)) (.t 77)),
 zm 79 78,
 .one ⟨some 80, .mv (.t 10), some (79, false)⟩,
 .one ⟨some 81, .un .not (.t 80), some (79, false)⟩,
 .one ⟨some 82, .mv (.t 81), some (79, false)⟩,
 .one ⟨some 83, .mv (.t 9), some (82, true)⟩,
 .one ⟨some 84, .len 0 (.t 83), some (82, true)⟩,
 .one ⟨some 85, .bin .neq (.t 84) (.c (.int .i64 0)), some (82, true)⟩,
 .one ⟨some 86, .pick (.t 82) (.t 85) (.c (.bool false)), some (79, false)⟩,
 zo 87 (.pick (.t 79) (.c (.bool true)) (.t 86)),
 zm 88 87,
 .one ⟨some 89, .mv (.t 13), some (88, false)⟩,
 .one ⟨some 90, .un .not (.t 89), some (88, false)⟩,
 .one ⟨some 91, .mv (.t 90), some (88, false)⟩,
 .one ⟨some 92, .mv (.t 12), some (91, true)⟩,
 .one ⟨some 93, .len 0 (.t 92), some (91, true)⟩,
 .one ⟨some 94, .bin .neq (.t 93) (.c (.int .i64 0)), some (91, true)⟩,
 .one ⟨some 95, .pick (.t 91) (.t 94) (.c (.bool false)), some (88, false)⟩,
 zo 96 (.pick (.t 88) (.c (.bool true)) (.t 95))]
def c9k24 : ICode := .kill 134 [1, 5, 6, 7, 8, 9, 10, 11, 12, 13, 14, 15, 16] (.ops c9r24)
@[simp] theorem uc9k24 : Ex F cx (.code c9k24 :: k) ⟨mk 134 l, rows, low⟩ r ↔ bnd (evP rows (.bin .neq (.c (lk l 11)) (.c (.int .i64 0)))) fun v0 => bnd (gv v0 false (evP rows (.mv (.c (lk l 14))))) fun v1 => bnd (gv v0 false (evP rows (.bin .neq (.c v1) (.c (.int .i64 0))))) fun v2 => bnd (evP rows (.pick (.c v0) (.c (.bool true)) (.c v2))) fun v3 => bnd (gv v3 false (evP rows (.mv (.c (lk l 10))))) fun v4 => bnd (gv v3 false (evP rows (.mv (.c (lk l 16))))) fun v5 => bnd (gv v3 false (evP rows (.eqv true .bool (.c v4) (.c v5)))) fun v6 => bnd (evP rows (.pick (.c v3) (.c (.bool true)) (.c v6))) fun v7 => bnd (gv v7 false (evP rows (.mv (.c (lk l 13))))) fun v8 => bnd (gv v7 false (evP rows (.mv (.c (lk l 16))))) fun v9 => bnd (gv v7 false (evP rows (.eqv false .bool (.c v8) (.c v9)))) fun v10 => bnd (evP rows (.pick (.c v7) (.c (.bool true)) (.c v10))) fun v11 => bnd (gv v11 false (evP rows (.mv (.c (lk l 10))))) fun v12 => bnd (gv v11 false (evP rows (.mv (.c v12)))) fun v13 => bnd (gv v13 true (evP rows (.mv (.c (lk l 9))))) fun v14 => bnd (gv v13 true (evP rows (.mv (.c (lk l 15))))) fun v15 => gcall F v13 true rows low [v14, v15] [] (.func 27 []) fun v16 R16 L16 => bnd (gv v13 true (evP R16 (.un .not (.c v16)))) fun v17 => bnd (gv v11 false (evP R16 (.pick (.c v13) (.c v17) (.c (.bool false))))) fun v18 => bnd (evP R16 (.pick (.c v11) (.c (.bool true)) (.c v18))) fun v19 => bnd (gv v19 false (evP R16 (.mv (.c (lk l 10))))) fun v20 => bnd (gv v19 false (evP R16 (.un .not (.c v20)))) fun v21 => bnd (gv v19 false (evP R16 (.mv (.c v21)))) fun v22 => bnd (gv v22 true (evP R16 (.mv (.c (lk l 9))))) fun v23 => bnd (gv v22 true (evP R16 (.len 0 (.c v23)))) fun v24 => bnd (gv v22 true (evP R16 (.bin .neq (.c v24) (.c (.int .i64 0))))) fun v25 => bnd (gv v19 false (evP R16 (.pick (.c v22) (.c v25) (.c (.bool false))))) fun v26 => bnd (evP R16 (.pick (.c v19) (.c (.bool true)) (.c v26))) fun v27 => bnd (gv v27 false (evP R16 (.mv (.c (lk l 13))))) fun v28 => bnd (gv v27 false (evP R16 (.un .not (.c v28)))) fun v29 => bnd (gv v27 false (evP R16 (.mv (.c v29)))) fun v30 => bnd (gv v30 true (evP R16 (.mv (.c (lk l 12))))) fun v31 => bnd (gv v30 true (evP R16 (.len 0 (.c v31)))) fun v32 => bnd (gv v30 true (evP R16 (.bin .neq (.c v32) (.c (.int .i64 0))))) fun v33 => bnd (gv v27 false (evP R16 (.pick (.c v30) (.c v33) (.c (.bool false))))) fun v34 => bnd (evP R16 (.pick (.c v27) (.c (.bool true)) (.c v34))) fun v35 => Ex F cx k ⟨mk 134 [(96, v35), (95, v34), (94, v33), (93, v32), (92, v31), (91, v30), (90, v29), (89, v28), (88, v27), (87, v27), (86, v26), (85, v25), (84, v24), (83, v23), (82, v22), (81, v21), (80, v20), (79, v19), (78, v19), (77, v18), (76, v17), (75, v16), (74, v15), (73, v14), (72, v13), (71, v12), (70, v11), (69, v11), (68, v10), (67, v9), (66, v8), (65, v7), (64, v7), (63, v6), (62, v5), (61, v4), (60, v3), (59, v3), (58, v2), (57, v1), (56, v0), (55, v0), (54, lk l 11), (1, lk l 1), (5, lk l 5), (6, lk l 6), (7, lk l 7), (8, lk l 8), (9, lk l 9), (10, lk l 10), (11, lk l 11), (12, lk l 12), (13, lk l 13), (14, lk l 14), (15, lk l 15), (16, lk l 16)], R16, L16⟩ r := rg [1, 5, 6, 7, 8, 9, 10, 11, 12, 13, 14, 15, 16] c9r24 rfl (by kernel_rfl)
def c9s25 : ICode := (.seq (.seq c9k24 c9s23) c9s21)
@[simp] theorem uc9s25 : Ex F cx (.code c9s25 :: k) s r ↔ Ex F cx (.code (.seq (.seq c9k24 c9s23) c9s21) :: k) s r := Iff.rfl
def c9r26 : List Seg := [
 zo 49 (.loadN 3 (.t 5)),
 zm 50 7,
 zo 51 (.call [] (.c (.func 48 [])) [(.t 49), (.t 50)]),
 zm 48 51,
 zo 52 (.ext (.t 48) 0),
 zo 53 (.ext (.t 48) 1),
 zm 15 52,
 zm 16 53]
def c9k26 : ICode := .kill 134 [1, 5, 6, 7, 8, 9, 10, 11, 12, 13, 14] (.ops c9r26)
@[simp] theorem uc9k26 : Ex F cx (.code c9k26 :: k) ⟨mk 134 l, rows, low⟩ r ↔ bnd (evP rows (.loadN 3 (.c (lk l 5)))) fun v0 => bnd (Ret F 48 [v0, lk l 7] rows) fun q1 => bnd (evP q1.2.1 (.ext (.c q1.1) 0)) fun v2 => bnd (evP q1.2.1 (.ext (.c q1.1) 1)) fun v3 => Ex F cx k ⟨mk 134 [(16, v3), (15, v2), (53, v3), (52, v2), (48, q1.1), (51, q1.1), (50, lk l 7), (49, v0), (1, lk l 1), (5, lk l 5), (6, lk l 6), (7, lk l 7), (8, lk l 8), (9, lk l 9), (10, lk l 10), (11, lk l 11), (12, lk l 12), (13, lk l 13), (14, lk l 14)], q1.2.1, (lowO low q1.2.2)⟩ r := rg [1, 5, 6, 7, 8, 9, 10, 11, 12, 13, 14] c9r26 rfl (by kernel_rfl)
def c9s27 : ICode := (.seq c9k26 c9s25)
@[simp] theorem uc9s27 : Ex F cx (.code c9s27 :: k) s r ↔ Ex F cx (.code (.seq c9k26 c9s25) :: k) s r := Iff.rfl
def c9r28 : List Seg := [
 zo 42 (.loadN 3 (.t 6)),
 zm 43 7,
 zo 44 (.call [] (.c (.func 47 [])) [(.t 42), (.t 43)]),
 zm 41 44,
 zo 45 (.ext (.t 41) 0),
 zo 46 (.ext (.t 41) 1),
 zo 47 (.ext (.t 41) 2),
 zm 12 45,
 zm 13 46,
 zm 14 47]
def c9k28 : ICode := .kill 134 [1, 5, 6, 7, 8, 9, 10, 11] (.ops c9r28)
@[simp] theorem uc9k28 : Ex F cx (.code c9k28 :: k) ⟨mk 134 l, rows, low⟩ r ↔ bnd (evP rows (.loadN 3 (.c (lk l 6)))) fun v0 => bnd (Ret F 47 [v0, lk l 7] rows) fun q1 => bnd (evP q1.2.1 (.ext (.c q1.1) 0)) fun v2 => bnd (evP q1.2.1 (.ext (.c q1.1) 1)) fun v3 => bnd (evP q1.2.1 (.ext (.c q1.1) 2)) fun v4 => Ex F cx k ⟨mk 134 [(14, v4), (13, v3), (12, v2), (47, v4), (46, v3), (45, v2), (41, q1.1), (44, q1.1), (43, lk l 7), (42, v0), (1, lk l 1), (5, lk l 5), (6, lk l 6), (7, lk l 7), (8, lk l 8), (9, lk l 9), (10, lk l 10), (11, lk l 11)], q1.2.1, (lowO low q1.2.2)⟩ r := rg [1, 5, 6, 7, 8, 9, 10, 11] c9r28 rfl (by kernel_rfl)
def c9s29 : ICode := (.seq c9k28 c9s27)
@[simp] theorem uc9s29 : Ex F cx (.code c9s29 :: k) s r ↔ Ex F cx (.code (.seq c9k28 c9s27) :: k) s r := Iff.rfl
def c9r30 : List Seg := [
 zo 35 (.loadN 3 (.t 6)),
 zm 36 7,
 zo 37 (.call [] (.c (.func 41 [])) [(.t 35), (.t 36)]),
 zm 34 37,
 zo 38 (.ext (.t 34) 0),
 zo 39 (.ext (.t 34) 1),
 zo 40 (.ext (.t 34) 2),
 zm 9 38,
 zm 10 39,
 zm 11 40]
def c9k30 : ICode := .kill 134 [1, 5, 6, 7, 8] (.ops c9r30)
@[simp] theorem uc9k30 : Ex F cx (.code c9k30 :: k) ⟨mk 134 l, rows, low⟩ r ↔ bnd (evP rows (.loadN 3 (.c (lk l 6)))) fun v0 => bnd (Ret F 41 [v0, lk l 7] rows) fun q1 => bnd (evP q1.2.1 (.ext (.c q1.1) 0)) fun v2 => bnd (evP q1.2.1 (.ext (.c q1.1) 1)) fun v3 => bnd (evP q1.2.1 (.ext (.c q1.1) 2)) fun v4 => Ex F cx k ⟨mk 134 [(11, v4), (10, v3), (9, v2), (40, v4), (39, v3), (38, v2), (34, q1.1), (37, q1.1), (36, lk l 7), (35, v0), (1, lk l 1), (5, lk l 5), (6, lk l 6), (7, lk l 7), (8, lk l 8)], q1.2.1, (lowO low q1.2.2)⟩ r := rg [1, 5, 6, 7, 8] c9r30 rfl (by kernel_rfl)
def c9s31 : ICode := (.seq (.block 1 (.seq c9k30 c9s29)) c9k3)
@[simp] theorem uc9s31 : Ex F cx (.code c9s31 :: k) s r ↔ Ex F cx (.code (.seq (.block 1 (.seq c9k30 c9s29)) c9k3) :: k) s r := Iff.rfl
def c9s32 : ICode := (.cond (.t 31) .skip (.exit 0))
@[simp] theorem uc9s32 : Ex F cx (.code c9s32 :: k) s r ↔ Ex F cx (.code (.cond (.t 31) .skip (.exit 0)) :: k) s r := Iff.rfl
def c9r33 : List Seg := [
 zm 30 8,
 zo 31 (.bin .lss (.t 30) (.c (.int .i64 2)))]
def c9k33 : ICode := .kill 134 [1, 5, 6, 7, 8] (.ops c9r33)
@[simp] theorem uc9k33 : Ex F cx (.code c9k33 :: k) ⟨mk 134 l, rows, low⟩ r ↔ bnd (evP rows (.bin .lss (.c (lk l 8)) (.c (.int .i64 2)))) fun v0 => Ex F cx k ⟨mk 134 [(31, v0), (30, lk l 8), (1, lk l 1), (5, lk l 5), (6, lk l 6), (7, lk l 7), (8, lk l 8)], rows, low⟩ r := rg [1, 5, 6, 7, 8] c9r33 rfl (by kernel_rfl)
def c9l2 : ICode := (.seq (.seq c9k33 c9s32) c9s31)
def c9s34 : ICode := (.block 0 (.loop c9l2))
@[simp] theorem uc9s34 : Ex F cx (.code c9s34 :: k) s r ↔ Ex F cx (.code (.block 0 (.loop c9l2)) :: k) s r := Iff.rfl
def c9r35 : List Seg := [
 zo 8 (.mv (.c (.int .i64 0)))]
def c9k35 : ICode := .kill 134 [1, 5, 6, 7] (.ops c9r35)
@[simp] theorem uc9k35 : Ex F cx (.code c9k35 :: k) ⟨mk 134 l, rows, low⟩ r ↔ Ex F cx k ⟨mk 134 [(8, (.int .i64 0)), (1, lk l 1), (5, lk l 5), (6, lk l 6), (7, lk l 7)], rows, low⟩ r := rg [1, 5, 6, 7] c9r35 rfl (by kernel_rfl)
def c9s36 : ICode := (.seq (.seq c9k35 c9s34) c9s1)
@[simp] theorem uc9s36 : Ex F cx (.code c9s36 :: k) s r ↔ Ex F cx (.code (.seq (.seq c9k35 c9s34) c9s1) :: k) s r := Iff.rfl
def c9r37 : List Seg := [
 zm 25 1,
 zo 26 (.fieldA 1 (.t 5)),
 zo 27 (.load1 (.t 26)),
 zo 28 (.len 0 (.t 27)),
 zo 29 (.call [] (.c (.func 20 [])) [(.t 25), (.t 28)]),
 zm 7 29]
def c9k37 : ICode := .kill 134 [1, 5, 6] (.ops c9r37)
@[simp] theorem uc9k37 : Ex F cx (.code c9k37 :: k) ⟨mk 134 l, rows, low⟩ r ↔ bnd (evP rows (.fieldA 1 (.c (lk l 5)))) fun v0 => bnd (evP rows (.load1 (.c v0))) fun v1 => bnd (evP rows (.len 0 (.c v1))) fun v2 => bnd (Ret F 20 [lk l 1, v2] rows) fun q3 => Ex F cx k ⟨mk 134 [(7, q3.1), (29, q3.1), (28, v2), (27, v1), (26, v0), (25, lk l 1), (1, lk l 1), (5, lk l 5), (6, lk l 6)], q3.2.1, (lowO low q3.2.2)⟩ r := rg [1, 5, 6] c9r37 rfl (by kernel_rfl)
def c9s38 : ICode := (.seq c9k37 c9s36)
@[simp] theorem uc9s38 : Ex F cx (.code c9s38 :: k) s r ↔ Ex F cx (.code (.seq c9k37 c9s36) :: k) s r := Iff.rfl
def c9r39 : List Seg := [
 zo 23 (.loadN 3 (.t 5)),
 zo 24 (.call [] (.c (.func 17 [])) [(.t 23)]),
 zo 6 (.box (.c (.agg [.int .i64 0, .nilslice, .nilslice]))),
 .one ⟨none, .storeN 3 (.t 6) (.t 24), none⟩]
def c9k39 : ICode := .kill 134 [1, 5] (.ops c9r39)
@[simp] theorem uc9k39 : Ex F cx (.code c9k39 :: k) ⟨mk 134 l, rows, low⟩ r ↔ bnd (evP rows (.loadN 3 (.c (lk l 5)))) fun v0 => bnd (Ret F 17 [v0] rows) fun q1 => bnd (evE q1.2.1 (lowO low q1.2.2) (.box (.c (.agg [.int .i64 0, .nilslice, .nilslice])))) fun q2 => bnd (evE q2.2.1 q2.2.2 (.storeN 3 (.c q2.1) (.c q1.1))) fun q3 => Ex F cx k ⟨mk 134 [(6, q2.1), (24, q1.1), (23, v0), (1, lk l 1), (5, lk l 5)], q3.2.1, q3.2.2⟩ r := rg [1, 5] c9r39 rfl (by kernel_rfl)
def c9s40 : ICode := (.seq c9k39 c9s38)
@[simp] theorem uc9s40 : Ex F cx (.code c9s40 :: k) s r ↔ Ex F cx (.code (.seq c9k39 c9s38) :: k) s r := Iff.rfl
def c9r41 : List Seg := [
 zo 21 (.loadN 3 (.t 2)),
 zo 22 (.call [] (.c (.func 15 [])) [(.t 21)]),
 zo 5 (.box (.c (.agg [.int .i64 0, .nilslice, .nilslice]))),
 .one ⟨none, .storeN 3 (.t 5) (.t 22), none⟩]
def c9k41 : ICode := .kill 134 [1, 2] (.ops c9r41)
@[simp] theorem uc9k41 : Ex F cx (.code c9k41 :: k) ⟨mk 134 l, rows, low⟩ r ↔ bnd (evP rows (.loadN 3 (.c (lk l 2)))) fun v0 => bnd (Ret F 15 [v0] rows) fun q1 => bnd (evE q1.2.1 (lowO low q1.2.2) (.box (.c (.agg [.int .i64 0, .nilslice, .nilslice])))) fun q2 => bnd (evE q2.2.1 q2.2.2 (.storeN 3 (.c q2.1) (.c q1.1))) fun q3 => Ex F cx k ⟨mk 134 [(5, q2.1), (22, q1.1), (21, v0), (1, lk l 1), (2, lk l 2)], q3.2.1, q3.2.2⟩ r := rg [1, 2] c9r41 rfl (by kernel_rfl)
def c9s42 : ICode := (.seq c9k41 c9s40)
@[simp] theorem uc9s42 : Ex F cx (.code c9s42 :: k) s r ↔ Ex F cx (.code (.seq c9k41 c9s40) :: k) s r := Iff.rfl
def c9r43 : List Seg := [
 zo 2 (.box (.t 0)),
 zo 4 (.mv (.c (.bool false)))]
def c9k43 : ICode := .kill 134 [0, 1] (.ops c9r43)
@[simp] theorem uc9k43 : Ex F cx (.code c9k43 :: k) ⟨mk 134 l, rows, low⟩ r ↔ bnd (evE rows low (.box (.c (lk l 0)))) fun q0 => Ex F cx k ⟨mk 134 [(4, (.bool false)), (2, q0.1), (0, lk l 0), (1, lk l 1)], q0.2.1, q0.2.2⟩ r := rg [0, 1] c9r43 rfl (by kernel_rfl)
def Jc9s8 (F : Nat → Option IFn) (cx : Ctx) (x1 x5 x6 x8 x19 x20 : AV) (rows : List Row) (low : Nat) (r : AV × List Row × Nat → Prop) : Prop := Ex F cx (.code c9s8 :: .inLoop c9l5 :: .inBlock 2 :: .code c9k4 :: .inBlock 1 :: .code c9k3 :: .inLoop c9l2 :: .inBlock 0 :: .code c9s1 :: []) ⟨mk 134 [(1, x1), (5, x5), (6, x6), (8, x8), (19, x19), (20, x20)], rows, low⟩ r
def Lc9l5 (F : Nat → Option IFn) (cx : Ctx) (x1 x5 x6 x8 x19 x20 : AV) (rows : List Row) (low : Nat) (r : AV × List Row × Nat → Prop) : Prop := Ex F cx (.code c9l5 :: .inLoop c9l5 :: .inBlock 2 :: .code c9k4 :: .inBlock 1 :: .code c9k3 :: .inLoop c9l2 :: .inBlock 0 :: .code c9s1 :: []) ⟨mk 134 [(1, x1), (5, x5), (6, x6), (8, x8), (19, x19), (20, x20)], rows, low⟩ r
@[simp] theorem nc9l5 : Ex F cx (.inLoop c9l5 :: .inBlock 2 :: .code c9k4 :: .inBlock 1 :: .code c9k3 :: .inLoop c9l2 :: .inBlock 0 :: .code c9s1 :: []) ⟨mk 134 l, rows, low⟩ r ↔ Lc9l5 F cx (lk l 1) (lk l 5) (lk l 6) (lk l 8) (lk l 19) (lk l 20) rows low r := loopN (keep := [1, 5, 6, 8, 19, 20]) (by kernel_rfl)
@[simp] theorem ec9l5 : Ex F cx (.code (.loop c9l5) :: .inBlock 2 :: .code c9k4 :: .inBlock 1 :: .code c9k3 :: .inLoop c9l2 :: .inBlock 0 :: .code c9s1 :: []) ⟨mk 134 l, rows, low⟩ r ↔ Lc9l5 F cx (lk l 1) (lk l 5) (lk l 6) (lk l 8) (lk l 19) (lk l 20) rows low r := loopE (keep := [1, 5, 6, 8, 19, 20]) (by kernel_rfl)
@[simp] theorem uc9l5 : Ex F cx (.code c9l5 :: k) s r ↔ Ex F cx (.code (.seq (.seq c9k10 c9s9) c9s8) :: k) s r := Iff.rfl
def Jc9s15 (F : Nat → Option IFn) (cx : Ctx) (x1 x5 x6 x8 : AV) (rows : List Row) (low : Nat) (r : AV × List Row × Nat → Prop) : Prop := Ex F cx (.code c9s15 :: .inBlock 1 :: .code c9k3 :: .inLoop c9l2 :: .inBlock 0 :: .code c9s1 :: []) ⟨mk 134 [(1, x1), (5, x5), (6, x6), (8, x8)], rows, low⟩ r
theorem jc9s15 : Ex F cx (.code c9s15 :: .inBlock 1 :: .code c9k3 :: .inLoop c9l2 :: .inBlock 0 :: .code c9s1 :: []) ⟨mk 134 l, rows, low⟩ r ↔ Jc9s15 F cx (lk l 1) (lk l 5) (lk l 6) (lk l 8) rows low r := Ex_canon (keep := [1, 5, 6, 8]) (by kernel_rfl)
def Jc9s21 (F : Nat → Option IFn) (cx : Ctx) (x1 x5 x6 x7 x8 x12 x13 : AV) (rows : List Row) (low : Nat) (r : AV × List Row × Nat → Prop) : Prop := Ex F cx (.code c9s21 :: .inBlock 1 :: .code c9k3 :: .inLoop c9l2 :: .inBlock 0 :: .code c9s1 :: []) ⟨mk 134 [(1, x1), (5, x5), (6, x6), (7, x7), (8, x8), (12, x12), (13, x13)], rows, low⟩ r
def Jc9s31 (F : Nat → Option IFn) (cx : Ctx) (x1 x5 x6 x7 x8 : AV) (rows : List Row) (low : Nat) (r : AV × List Row × Nat → Prop) : Prop := Ex F cx (.code c9s31 :: .inLoop c9l2 :: .inBlock 0 :: .code c9s1 :: []) ⟨mk 134 [(1, x1), (5, x5), (6, x6), (7, x7), (8, x8)], rows, low⟩ r
def Lc9l2 (F : Nat → Option IFn) (cx : Ctx) (x1 x5 x6 x7 x8 : AV) (rows : List Row) (low : Nat) (r : AV × List Row × Nat → Prop) : Prop := Ex F cx (.code c9l2 :: .inLoop c9l2 :: .inBlock 0 :: .code c9s1 :: []) ⟨mk 134 [(1, x1), (5, x5), (6, x6), (7, x7), (8, x8)], rows, low⟩ r
@[simp] theorem nc9l2 : Ex F cx (.inLoop c9l2 :: .inBlock 0 :: .code c9s1 :: []) ⟨mk 134 l, rows, low⟩ r ↔ Lc9l2 F cx (lk l 1) (lk l 5) (lk l 6) (lk l 7) (lk l 8) rows low r := loopN (keep := [1, 5, 6, 7, 8]) (by kernel_rfl)
@[simp] theorem ec9l2 : Ex F cx (.code (.loop c9l2) :: .inBlock 0 :: .code c9s1 :: []) ⟨mk 134 l, rows, low⟩ r ↔ Lc9l2 F cx (lk l 1) (lk l 5) (lk l 6) (lk l 7) (lk l 8) rows low r := loopE (keep := [1, 5, 6, 7, 8]) (by kernel_rfl)
@[simp] theorem uc9l2 : Ex F cx (.code c9l2 :: k) s r ↔ Ex F cx (.code (.seq (.seq c9k33 c9s32) c9s31) :: k) s r := Iff.rfl
def c9b : ICode := (.seq c9k43 c9s42)
@[simp] theorem uc9b : Ex F cx (.code c9b :: k) s r ↔ Ex F cx (.code (.seq c9k43 c9s42) :: k) s r := Iff.rfl
def c9 : IFn := ⟨134, [.t 4], c9b⟩
def h9 : List (Nat × Nat × List Nat) := [(0, (134, [0, 1])), (1, (134, [1, 2])), (2, (134, [1, 5])), (3, (134, [1, 5, 6])), (4, (134, [1, 5, 6, 7])), (5, (134, [1, 5, 6, 7, 8])), (7, (134, [1, 5, 6, 7, 8])), (8, (134, [1, 5, 6, 7, 8, 9, 10, 11])), (9, (134, [1, 5, 6, 7, 8, 9, 10, 11, 12, 13, 14])), (10, (134, [1, 5, 6, 7, 8, 9, 10, 11, 12, 13, 14, 15, 16])), (11, (134, [])), (12, (134, [1, 5, 6, 7, 8, 12, 13])), (13, (134, [1, 5, 6, 8, 13, 17, 18])), (14, (134, [])), (15, (134, [1, 5, 6, 8])), (16, (134, [1, 5, 6, 8, 19])), (17, (134, [1, 5, 6, 8, 19, 20])), (19, (134, [1, 5, 6, 8, 19, 20])), (18, (134, [1, 5, 6, 8, 19, 20])), (20, (134, [1, 5, 6, 8, 19])), (6, (134, [1, 5, 6, 7, 8])), (21, (134, []))]
theorem i9 {x0 x1 : AV} (hF : F 9 = some c9) {q : AV × List Row × Option Nat} (h : Ex F (.fn [.t 4]) [.code c9b] ⟨mk 134 [(0, x0), (1, x1)], rows, rows.length⟩ fun r => fin rows r.1 r.2.1 r.2.2 = q) : Ret F 9 [x0, x1] rows = some q := Ret_mk hF h
end Go.Abs

namespace Go.Abs
theorem under_set {L : List Row} {k : Nat} (h : L.all (Row.under 0) = true) : (L.set k .dead).all (Row.under 0) = true := by
 rw [List.all_eq_true] at h ⊢
 intro y hy
 rcases List.mem_or_eq_of_mem_set hy with h1 | h1
 ·exact h y h1
 ·subst h1; rfl
section
variable {B L : List Row} {sz n : Nat} {v : AV} {cs : List AV}
theorem Acc_more3 {x : List AV} {low b : Nat} (h : Acc B L sz (.op sz) v cs n) (hx : x.length = sz) (hsz : 0 < sz) (hl : n < 1000000000) (hlow : low ≤ B.length) (hL : L.all (Row.under 0) = true) (hc : (Row.cells cs).under 0 = true) (hxu : (Row.cells x).under 0 = true) :
  ∃ v' L', evE (B ++ (L ++ [.cells x])) low (.app sz b (.c v) (.c (.slice (B.length + L.length) 0 1 (.at_ 1)))) = some (v', B ++ L', low) ∧ Acc B L' sz (.op sz) v' (cs ++ x) (n + 1) ∧ L'.all (Row.under 0) = true := by
 have hcx : (Row.cells (cs ++ x)).under 0 = true := by
  simp only [Row.under, List.all_append, Bool.and_eq_true] at hc hxu ⊢
  exact ⟨hc, hxu⟩
 obtain ⟨h1, h2⟩ := h
 have hr : row? (B ++ (L ++ [.cells x])) (B.length + L.length) = some x := by
  unfold row?; simp
 have htmp : El (B ++ (L ++ [.cells x])) sz (.slice (B.length + L.length) 0 1 (.at_ 1)) x 1 := by
  unfold El elems
  simp only [hr]
  unfold seg
  rw [if_pos (by omega)]
  simp only [List.drop_zero, Option.map_some, Nat.one_mul]
  rw [List.take_of_length_le (by omega)]
 have hlen : (cs ++ x).length = (n + 1) * sz := by rw [List.length_append, h1, hx, Nat.succ_mul]
 rcases h2 with ⟨rfl, rfl⟩ | ⟨k, rfl, hk⟩
 ·have h0 : n = 0 := by
   rcases Nat.mul_eq_zero.1 (show n * sz = 0 from h1.symm) with h | h
   ·exact h
   ·omega
  subst h0
  refine ⟨_, L ++ [.cells x, .cells x], ?_, ⟨hlen, .inr ⟨L.length + 1, rfl, by simp⟩⟩, by rw [List.all_append, hL]; simp [hxu]⟩
  rw [app_nil htmp (by omega) (by simp [lim])]
  simp [Nat.add_assoc]
 ·have hkl := (List.getElem?_eq_some_iff.1 hk).1
  have hcell : cells? (B ++ (L ++ [.cells x])) (B.length + k) = some cs := by
   unfold cells?
   rw [List.getElem?_append_right (by omega), Nat.add_sub_cancel_left, List.getElem?_append_left hkl, hk]
  refine ⟨_, L.set k .dead ++ [.cells x, .cells (cs ++ x)], ?_, ⟨hlen, .inr ⟨L.length + 1, rfl, by simp⟩⟩, by rw [List.all_append, under_set hL]; simp [hxu, hcx]⟩
  ·rw [app_op hcell (xs := cs) (by unfold seg; rw [if_pos (by omega), ← h1]; simp) htmp (by omega) (by simp [lim]; omega)]
   simp only [Option.some.injEq, Prod.mk.injEq]
   refine ⟨by simp [Nat.add_assoc], ?_, lower_ge' (by omega)⟩
   rw [List.set_append_right _ _ (by omega), Nat.add_sub_cancel_left, List.set_append_left _ _ hkl]
   simp
end
abbrev G9 : Nat → Option IFn := more F 9 c9
theorem toG9 {f : Nat} {vs : List AV} {rows : List Row} {q : AV × List Row × Option Nat} (h : Ret F f vs rows = some q) : Ret G9 f vs rows = some q := Ret_ext (more_ext (by kernel_rfl)) h
def hlf (l : List Int) (n : Nat) : List Int := (List.range n).map fun i => (nmbAt l i).tdiv 2
theorem hlf_len {l : List Int} {n : Nat} : (hlf l n).length = n := by simp [hlf]
theorem hlf_succ {l : List Int} {n : Nat} : hlf l (n + 1) = hlf l n ++ [(nmbAt l n).tdiv 2] := by simp [hlf, List.range_succ]
theorem tdiv2_bd {y : Int} (h : -100 ≤ y ∧ y ≤ 100) : -50 ≤ y.tdiv 2 ∧ y.tdiv 2 ≤ 50 := by
 by_cases c : 0 ≤ y
 ·rw [Int.tdiv_eq_ediv_of_nonneg c]
  omega
 ·have e : y.tdiv 2 = -((-y).tdiv 2) := by rw [Int.neg_tdiv]; omega
  rw [e, Int.tdiv_eq_ediv_of_nonneg (by omega)]
  omega
theorem hlf_ok {l : List Int} {n : Nat} : ∀ x ∈ hlf l n, -50 ≤ x ∧ x ≤ 50 := by
 intro x hx
 obtain ⟨i, _, rfl⟩ := List.mem_map.1 hx
 have := nmbs_ok (l := l) (n := i + 1) (nmbAt l i) (List.mem_map.2 ⟨i, List.mem_range.2 (by omega), rfl⟩)
 exact tdiv2_bd this
section
variable {C : List Row} {N a5 : Nat} {lv ev pv : AV} {l : List Int} {r : AV × List Row × Nat → Prop} {low : Nat}
set_option maxHeartbeats 8000000 in
theorem half_loop {x6 x8 : AV} (hN : N ≤ 6) (hl : IsL C lv l) (hx : row? C a5 = some [.int .i64 N, ev, pv]) (hlow : low ≤ C.length)
  (hk : ∀ (L : List Row) (x19 : AV) (sl : List (Nat × AV)), L.all (Row.under 0) = true → Acc C L 1 (.op 1) x19 (nums .i64 (hlf l N)) N → lk sl 1 = lv → lk sl 5 = .ptr a5 0 → lk sl 6 = x6 → lk sl 8 = x8 → lk sl 19 = x19 →
   Ex G9 (.fn [.t 4]) [.code c9k4, .inBlock 1, .code c9k3, .inLoop c9l2, .inBlock 0, .code c9s1] ⟨mk 134 sl, C ++ L, low⟩ r) :
  ∀ (d i : Nat) (L : List Row) (x19 : AV), N - i = d → i ≤ N → L.all (Row.under 0) = true → Acc C L 1 (.op 1) x19 (nums .i64 (hlf l i)) i →
  Lc9l5 G9 (.fn [.t 4]) lv (.ptr a5 0) x6 x8 x19 (.int .i64 i) (C ++ L) low r := by
 intro d
 induction d with
 |
  zero =>
  intro i L x19 hd hi hL hA
  have hi' : i = N := by omega
  subst hi'
  have hx' := row?_old hx L
  unfold Lc9l5
  simp [hx', -uc9k4]
  refine hk L x19 _ hL hA ?_ ?_ ?_ ?_ ?_ <;> simp
 |
  succ d ih =>
  intro i L x19 hd hi0 hL hA
  have hi : i < N := by omega
  have hw : IntKind.i64.wrap ((i : Int) + 1) = ((i + 1 : Nat) : Int) := by rw [wrap64 (by omega) (by omega)]; omega
  have hx' := row?_old hx L
  have hl' := IsL_app hl L
  obtain ⟨hv, K, a1, b1, _, d1⟩ := newW_shape (C ++ L) (nmbs l N)
  rw [nmbs_len] at a1
  have r20 := toG9 (numbers_ret hl' (m := N) (by omega))
  rw [a1] at r20
  have hget : gI (nmbs l N) i = nmbAt l i := by
   rw [gI_eq (by rw [nmbs_len]; exact hi)]
   simp [nmbs]
  have ix := idxW b1 (show i < (nmbs l N).length by rw [nmbs_len]; exact hi)
  have ld := ldW1 b1 (show i < (nmbs l N).length by rw [nmbs_len]; exact hi)
  rw [Nat.mul_one] at ix
  rw [hget] at ld
  have hbd := nmbs_ok (l := l) (n := i + 1) (nmbAt l i) (List.mem_map.2 ⟨i, List.mem_range.2 (by omega), rfl⟩)
  have hbd := tdiv2_bd hbd
  generalize hy : nmbAt l i = y at *
  have hwq : IntKind.i64.wrap (y.tdiv 2) = y.tdiv 2 := wrap64 (by omega) (by omega)
  obtain ⟨x', L', ev1, hA2, hL2⟩ := Acc_more3 (low := low) (b := 8) (x := [.int .i64 (y.tdiv 2)]) (Acc_app hA K) rfl (by omega) (by omega) hlow (by rw [List.all_append, hL, d1]; rfl) nums_und (by simp [Row.under, AV.under, AV.ids])
  rw [show nums .i64 (hlf l i) ++ [.int .i64 (y.tdiv 2)] = nums .i64 (hlf l (i + 1)) from by rw [hlf_succ, hy, ← nums_app]; rfl] at hA2
  have := ih (i + 1) L' x' (by omega) (by omega) hL2 hA2
  simp only [List.length_append, List.append_assoc] at ev1 ix ld r20
  unfold Lc9l5
  simp [hx', hi, r20, ix, ld, hwq, fillA, splice, ev1, hw, Nat.add_assoc]
  simpa using this
end
end Go.Abs

namespace Go.Abs
structure H9 (rows C : List Row) (a5 a6 N : Nat) (ks ps : List Nat) (ev1 pv1 ev2 pv2 lv : AV) (l : List Int) : Prop where
 rx : row? C a5 = some [.int .i64 N, ev1, pv1]
 ry : row? C a6 = some [.int .i64 N, ev2, pv2]
 gx : GRd C (.agg [.int .i64 N, ev1, pv1]) N ks ps
 gy : GRd C (.agg [.int .i64 N, ev2, pv2]) N ks ps
 l : IsL C lv l
 un : ∃ Y, C = rows ++ Y ∧ Und rows Y
theorem H9.app {rows C : List Row} {a5 a6 N : Nat} {ks ps : List Nat} {ev1 pv1 ev2 pv2 lv : AV} {l : List Int} (h : H9 rows C a5 a6 N ks ps ev1 pv1 ev2 pv2 lv l) {X : List Row} (hX : X.all (Row.under 0) = true) : H9 rows (C ++ X) a5 a6 N ks ps ev1 pv1 ev2 pv2 lv l := by
 obtain ⟨h1, h2, h3, h4, h5, Y, h8, h9⟩ := h
 exact ⟨row?_old h1 X, row?_old h2 X, h3.app X, h4.app X, IsL_app h5 X, Y ++ X, by rw [h8, List.append_assoc], Und_app h9 (Und_0 hX)⟩
section
variable {rows : List Row} {a5 a6 N : Nat} {ks ps : List Nat} {ev1 pv1 ev2 pv2 lv : AV} {l : List Int}
theorem gr_bd {hs : List Int} (hok : GOK N ks ps) (hl : hs.length = N) (hb : ∀ x ∈ hs, -50 ≤ x ∧ x ≤ 50) : ∀ x ∈ grad ks hs, -100 ≤ x ∧ x ≤ 100 := by
 intro x hx
 obtain ⟨j, hj, rfl⟩ := List.mem_iff_getElem.1 hx
 rw [← gI_eq hj]
 rw [grad_len] at hj
 have hee := hok.ee _ (gN_mem hj)
 rw [grad_get hj]
 have h1 := hb _ (gI_mem (l := hs) (i := gN ks j % 6) (by omega))
 have h2 := hb _ (gI_mem (l := hs) (i := gN ks j / 6) (by omega))
 omega
set_option maxHeartbeats 16000000 in
theorem heights_rounds (hA : ∀ H, Und rows H → Ret F 19 [] (rows ++ H) = some (.bool true, rows ++ H, none)) : ∀ (d k : Nat) (C : List Row) (fv : AV) (fl : List Int), 2 - k = d → k ≤ 2 → H9 rows C a5 a6 N ks ps ev1 pv1 ev2 pv2 lv l → IsL C fv fl → fl.length = ks.length → (∀ x ∈ fl, -100 ≤ x ∧ x ≤ 100) →
  Lc9l2 G9 (.fn [.t 4]) lv (.ptr a5 0) (.ptr a6 0) fv (.int .i64 k) C rows.length (fun r => fin rows r.1 r.2.1 r.2.2 = (.bool true, rows, none)) := by
 intro d
 induction d with
 |
  zero =>
  intro k C fv fl hd hk hC hf hfl hb
  have hk' : k = 2 := by omega
  subst hk'
  obtain ⟨Y, eY, uY⟩ := hC.un
  have r19 := toG9 (hA Y uY)
  rw [eY]
  unfold Lc9l2
  simp [r19]
 |
  succ d ih =>
  intro k C fv fl hd hk hC hf hfl hb
  have hk2 : k < 2 := by omega
  have hk2' : (k : Int) < 2 := by omega
  have hw : IntKind.i64.wrap ((k : Int) + 1) = ((k + 1 : Nat) : Int) := by rw [wrap64 (by omega) (by omega)]; omega
  have hok := hC.gx.ok
  have n1 := hok.n1
  have n6 := hok.n6
  have hek := hok.ek
  -- the next flow
  have cont : ∀ C', H9 rows C' a5 a6 N ks ps ev1 pv1 ev2 pv2 lv l → Jc9s15 G9 (.fn [.t 4]) lv (.ptr a5 0) (.ptr a6 0) (.int .i64 k) C' rows.length (fun r => fin rows r.1 r.2.1 r.2.2 = (.bool true, rows, none)) := by
   intro C' hC'
   have hlow : rows.length ≤ C'.length := by obtain ⟨Y, e, _⟩ := hC'.un; rw [e]; simp
   have hl := half_loop (r := fun r => fin rows r.1 r.2.1 r.2.2 = (.bool true, rows, none)) (x6 := .ptr a6 0) (x8 := .int .i64 k) n6 hC'.l hC'.rx hlow (fun L x19 sl hL hA2 s1 s5 s6 s8 s19 => by
    obtain ⟨hh, _⟩ := Acc_IsL hA2
    have hC2 := hC'.app hL
    obtain ⟨v, X, r49, hX, k1, _⟩ := RGradient_ret hC2.gx hh hlf_len (fun x hx => by have := hlf_ok x hx; omega)
    have := ih (k + 1) (C' ++ L ++ X) v (grad ks (hlf l N)) (by omega) (by omega) (hC2.app hX) k1 (grad_len) (gr_bd hok hlf_len hlf_ok)
    have rx2 := hC2.rx
    have r49' := toG9 r49
    simp [s1, s5, s6, s8, s19, rx2, seg, r49', hw]
    simpa using this) _ 0 [] .nilslice rfl (Nat.zero_le _) rfl Acc_nil
   rw [List.append_nil] at hl
   unfold Jc9s15
   simp
   simpa using hl
  have r41 := toG9 (Heights_ret hC.gy hf hfl hb)
  have ry0 := hC.ry
  unfold Lc9l2
  by_cases hr : Runs ks fl
  ·have hag := (agr_runs hok hfl hb).2 hr
   rw [if_pos hag] at r41
   have hX1 : [Row.cells (nums .i64 (hts N (fiS ks fl N).1))].all (Row.under 0) = true := by simp
   have hC1 := hC.app hX1
   have hf1 := IsL_app hf [.cells (nums .i64 (hts N (fiS ks fl N).1))]
   obtain ⟨C1, eC1⟩ : ∃ C1, C1 = C ++ [.cells (nums .i64 (hts N (fiS ks fl N).1))] := ⟨_, rfl⟩
   rw [← eC1] at r41 hC1 hf1
   have r47 : Ret G9 47 [.agg [.int .i64 N, ev2, pv2], fv] C1 = some (.tup [.nilslice, .bool false, .int .i64 0], C1, none) := by
    rcases Ring_ret hC1.gy hf1 hfl hb with ⟨_, h⟩ | ⟨i, v, X, hi, hm, _⟩
    ·exact toG9 h
    ·exact absurd ((agr_iff _ _ (by omega)).1 hag i (Nat.zero_le _) hi) hm
   have r48 := toG9 (RHeights_ret hC1.gx hf1 hfl hb)
   rw [if_pos ((grad_runs hok hfl hb).2 hr)] at r48
   have hRI := rhS_RI hok hfl hb N (Nat.le_refl _)
   have hD := (fiS_SI (fl := fl) hok N (Nat.le_refl _)).d
   have hsame : hts N (fiS ks fl N).1 = (rhS ks fl N N).1 := by
    obtain ⟨φ, hφ⟩ := hr
    have hl1 := hts_len (D := (fiS ks fl N).1) hD n6
    apply List.ext_getElem (by rw [hl1, hRI.l1])
    intro v h1 h2
    rw [hl1] at h1
    have := same_heights hok hfl hb hφ h1
    rw [← gI_eq (l := (rhS ks fl N N).1) h2, ← this]
    unfold htv
    rw [gI_eq (show 6 + v < (fiS ks fl N).1.length by omega)]
    simp [hts]
   rw [hsame] at eC1
   have hX2 : [Row.cells (nums .i64 (rhS ks fl N N).1)].all (Row.under 0) = true := by simp
   have hC2 := hC1.app hX2
   have hf2 := IsL_app hf1 [.cells (nums .i64 (rhS ks fl N N).1)]
   have hlN := hRI.l1
   have i1 : IsL (C1 ++ [.cells (nums .i64 (rhS ks fl N N).1)]) (.slice C.length 0 N (.op 1)) (rhS ks fl N N).1 := by
    refine IsL_app ?_ _
    have hr : row? C1 C.length = some (nums .i64 (rhS ks fl N N).1) := by rw [eC1]; simp [row?]
    have := IsL_mk (n := 0) (id := C.length) (off := 0) (c := .op 1) (l := (rhS ks fl N N).1) hr (by rw [nums_seg, if_pos (by omega)]; simp)
    rwa [hlN] at this
   have i2 : IsL (C1 ++ [.cells (nums .i64 (rhS ks fl N N).1)]) (.slice C1.length 0 N (.at_ N)) (rhS ks fl N N).1 := by
    have hr : row? (C1 ++ [.cells (nums .i64 (rhS ks fl N N).1)]) C1.length = some (nums .i64 (rhS ks fl N N).1) := by simp [row?]
    have := IsL_mk (n := 0) (id := C1.length) (off := 0) (c := .at_ N) (l := (rhS ks fl N N).1) hr (by rw [nums_seg, if_pos (by omega)]; simp)
    rwa [hlN] at this
   have rI := toG9 (ints_ret i1 i2 (by omega) (by omega))
   have r37 := toG9 (RRing_ret hC2.gx hf2 hfl hb (IsL_nil (rows := C1 ++ [.cells (nums .i64 (rhS ks fl N N).1)])) (by simp))
   rw [if_pos (.inl (by simp)), rgv] at r37
   have hcont := cont _ hC2
   have ry1 := hC1.ry
   have rx1 := hC1.rx
   have rx2 := hC2.rx
   generalize C1 ++ [.cells (nums .i64 (rhS ks fl N N).1)] = C2 at *
   simp [hk2', ry0, seg, r41, ry1, r47, rx1, r48, rI, rx2, r37, -uc9s15, jc9s15]
   simpa using hcont
  ·have hag : ¬ agr ks fl (fiS ks fl N).1 ks.length 0 = true := fun h => hr ((agr_runs hok hfl hb).1 h)
   rw [if_neg hag] at r41
   rcases Ring_ret hC.gy hf hfl hb with ⟨h, _⟩ | ⟨i, v, X, hi, hm, r47, hX, hv, _, n, c, hvs⟩
   ·exact absurd h hag
   ·obtain ⟨g1, g2, s, g3, g4⟩ := ring2_ok hok hfl hb hi hm
    generalize ring2 (pth (fiS ks fl N).1 10 (gN ks i / 6)) (pth (fiS ks fl N).1 10 (gN ks i % 6)) = rg at *
    have r47' := toG9 r47
    have hC1 := hC.app hX
    have hf1 := IsL_app hf X
    have r48 := toG9 (RHeights_ret hC1.gx hf1 hfl hb)
    rw [if_neg (fun h => hr ((grad_runs hok hfl hb).1 h))] at r48
    have r37 := toG9 (RRing_ret hC1.gx hf1 hfl hb hv (by omega))
    rw [if_neg (by omega), g3, rgv] at r37
    have hcont := cont _ hC1
    have ry1 := hC1.ry
    have rx1 := hC1.rx
    have lnv := lenW hv
    generalize C ++ X = C1 at *
    simp [hk2', ry0, seg, r41, r47', rx1, r48, r37, g4, -uc9s15, jc9s15]
    simpa using hcont
set_option maxRecDepth 10000 in
set_option maxHeartbeats 16000000 in
theorem heights_ret {rows : List Row} {gv lv : AV} {l : List Int} (h : LawIn rows gv lv l) (hA : ∀ H, Und rows H → Ret F 19 [] (rows ++ H) = some (.bool true, rows ++ H, none)) :
  Ret G9 9 [gv, lv] rows = some (.bool true, rows, none) := by
 obtain ⟨N, ks, ps, B1, B3, B4, ev1, pv1, ev2, pv2, hb⟩ := law_beg h
 obtain ⟨⟨x, ev, pv, rfl, o1, o2, r15, row1⟩, r17, ⟨oe1, op1, oe2, op2⟩, hl1, hl3, row2, eB4, rx, ry, gx, gy, Y, eY, uY⟩ := hb
 have hok := gx.ok
 have hek := hok.ek
 obtain ⟨_, _, eg, eE, eP, _⟩ := id gx.eq
 simp only [AV.agg.injEq, List.cons.injEq, and_true, true_and] at eg
 obtain ⟨rfl, rfl⟩ := eg
 have hL4 : IsL B4 lv l := by rw [eY]; exact IsL_app h.l _
 obtain ⟨fv, K1, a1, b1, _, d1⟩ := newW_shape B4 (nmbs l ks.length)
 rw [nmbs_len] at a1
 have r20 := toG9 (numbers_ret hL4 (m := ks.length) (by omega))
 rw [a1] at r20
 have h9 : H9 rows B4 B1.length B3.length N ks ps ev1 pv1 ev2 pv2 lv l := ⟨rx, ry, gx, gy, hL4, Y, eY, uY⟩
 have key := heights_rounds hA 2 0 (B4 ++ K1) fv (nmbs l ks.length) rfl (by omega) (h9.app d1) b1 nmbs_len (fun x hx => nmbs_ok x hx)
 have r15' := toG9 r15
 have r17' := toG9 r17
 have low1 : lower rows.length B1.length = rows.length := lower_ge' hl1
 have low3 : lower rows.length B3.length = rows.length := lower_ge' hl3
 have lnE := evP_lenE eE
 refine i9 rfl ?_
 simp [o1, o2, row1, seg, r15', low1, oe1, op1, oe2, op2, cell_end, splice, row2, r17', low3, eB4, rx, lnE, r20]
 simpa using key
end
end Go.Abs

