/- The texts that the row uses, part 6. -/
import Derived.Test.YtiejbjajbehcfaaDoorBJ5
import Derived.AtR
import Derived.Orders
import Derived.KernelRfl
import Derived.Laws.Cells
import Derived.Laws.CopyRow
import Derived.Laws.Append
import Derived.Laws.AppendOwn
import Derived.Laws.Entries
import Derived.ArgAppend
import Derived.ChangeKeysEq
import Derived.WideLaws
import Derived.Laws.Small
import Derived.Laws.StructEq
import Derived.Laws.Cover3
import Derived.Laws.Tables
import Derived.Laws.Rows
import Derived.Below
import Derived.Laws.IdiomCopy
import Derived.RangeFuncNested
import Derived.Test.YtiejbjajbehcfaaDoorProg
import Derived.Test.YtiejbjajbehcfaaDoorRows
import Derived.ProofKit
import Derived.LaidMore
import Derived.OpenShut
import Derived.Stop.Joined
import Derived.ChangeSlices
import Derived.SizedLaws
import Derived.SevenTiedAt
import Derived.WalkKit
import Derived.ShutString
import Derived.ChangeOld
import Derived.Carry
set_option linter.unusedVariables false
set_option linter.unusedSimpArgs false
namespace Go.Abs
open Rd (Cp IsL_one IsL_cells IsL_tail lowO_n)
theorem foldl_mx_ge : ∀ (l : List Int) (a : Int), a ≤ l.foldl max a ∧ ∀ x ∈ l, x ≤ l.foldl max a
  | [], a => ⟨Int.le_refl _, fun x hx => by simp at hx⟩
  | y :: l, a => by
    obtain ⟨h1, h2⟩ := foldl_mx_ge l (max a y)
    simp only [List.foldl_cons]
    refine ⟨by omega, fun x hx => ?_⟩
    rcases List.mem_cons.1 hx with rfl | hx
    · omega
    · exact h2 x hx
theorem foldl_mx_le {m : Int} : ∀ (l : List Int) (a : Int), a ≤ m → (∀ x ∈ l, x ≤ m) → l.foldl max a ≤ m
  | [], a, h, _ => h
  | y :: l, a, h, hx => by
    simp only [List.foldl_cons]
    have := hx y List.mem_cons_self
    exact foldl_mx_le l _ (by omega) fun x h => hx x (List.mem_cons_of_mem _ h)
theorem MK_worst {n : Nat} {nx : Nat → Nat} (hg : GOK nx) {ol : List Int} (hn : n ≤ 10) (hl : ol.length = n) (h : MK n nx ol (2 ^ n - 1)) : ol.foldl max 0 = (LL n nx (2 ^ n - 1) : Nat) := by
  have hp : 2 ^ n - 1 < 1024 := by
    have : ∀ n, n < 11 → 2 ^ n - 1 < 1024 := by decide
    exact this n (by omega)
  obtain ⟨r, r1, r2⟩ := MK_max h
  have hr : r < n := by rw [all_tb] at r1; simpa using r1
  have h1 := (foldl_mx_ge ol 0).2 (gI ol r) (List.mem_of_getElem? (gI_get (by omega)))
  have h2 := foldl_mx_le (m := (LL n nx (2 ^ n - 1) : Nat)) ol 0 (by omega) fun x hx => by
    obtain ⟨i, hi, rfl⟩ := List.mem_iff_getElem.1 hx
    have := MK_le hg h hp i (by rw [all_tb]; simpa using (by omega : i < n))
    rw [gI_eq hi] at this
    omega
  omega
section
variable {rows : List Row} {n : Nat} {es : List (Nat × Nat)} {up : Nat → Nat}
end
end Go.Abs

set_option linter.unusedVariables false
set_option linter.unusedSimpArgs false
namespace Go.Abs
/-- A set that hangs together. -/
def Conn (nx : Nat → Nat) (s : Nat) : Prop := ∀ v, s.testBit v = true → IsC nx s v s
section
variable {nx : Nat → Nat} {n : Nat}
theorem part_conn (hg : GOK nx) {t v p : Nat} (h : IsC nx t v p) (hv : t.testBit v = true) : Conn nx p := by
  intro w hw
  have hm := h.move hg hv hw
  refine ⟨hw, fun i j _ _ h3 => h3, fun D hD hcl => ?_⟩
  have := hm.least (sI D p) (by rw [tb_I, hD, hw]; rfl) fun i j h1 h2 h3 => by
    rw [tb_I, Bool.and_eq_true] at h1 ⊢
    have hj := h.cl i j h1.2 h2 h3
    exact ⟨hcl i j h1.1 h2 hj, hj⟩
  exact this.trans fun k hk => by rw [tb_I, Bool.and_eq_true] at hk; exact hk.1
theorem PT_conn (hg : GOK nx) {t : Nat} (ht : t < 1024) {p : Nat} (hp : p ∈ PT nx 10 t) : Conn nx p := by
  obtain ⟨v, hv, hc⟩ := (PT_comp hg 10 _ ht (cnt_10 _ ht) _).1 hp
  exact part_conn hg hc hv
theorem tb10 {s i : Nat} (hs : s < 1024) (hi : s.testBit i = true) : i < 10 := by
  rcases Nat.lt_or_ge i 10 with h | h
  · exact h
  · rw [tb_n (n := 10) hs h] at hi; cases hi
theorem conn_in (hg : GOK nx) {t q i : Nat} (ht : t < 1024) (hq : Conn nx q) (hqt : Sub q t) (hi : q.testBit i = true) : ∃ p ∈ PT nx 10 t, Sub q p := by
  have hti := hqt i hi
  have hc := (cmp_ok hg ht (tb10 ht hti)).1
  refine ⟨_, (PT_comp hg 10 _ ht (cnt_10 _ ht) _).2 ⟨i, hti, hc⟩, (hq i hi).least _ hc.at_ fun a b h1 h2 h3 => hc.cl a b h1 h2 (hqt b h3)⟩
theorem sub_D {s r : Nat} : Sub (sD s (sB r)) s := fun i hi => by rw [tb_D, Bool.and_eq_true] at hi; exact hi.1
theorem LL_le_WL (hg : GOK nx) {s r : Nat} (hs : s < 1024) (hr : s.testBit r = true) : LL n nx s ≤ WL n nx s r := by
  rw [LL_eq hg hs]
  split
  · exact Nat.zero_le _
  · exact foldl_min_le2 (WL n nx s) (mem s) n r ((mem_tb hs).2 hr)
/-- What lies in a set needs no more looks. -/
theorem LL_mono (hg : GOK nx) (hn0 : 1 ≤ n) : ∀ (k t s : Nat), t < 1024 → cnt t ≤ k → cnt t ≤ n → Conn nx s → Sub s t → 0 < s → LL n nx s ≤ LL n nx t := by
  intro k
  induction k with
  | zero =>
    intro t s ht hk hn hs hst h0
    have := cnt_le ht hst
    have := cnt_pos (hst.lt ht) h0
    omega
  | succ k ih =>
    intro t s ht hk hn hs hst h0
    have hs10 := hst.lt ht
    have hcs := cnt_le ht hst
    have hcp := cnt_pos hs10 h0
    obtain ⟨_, z2, _⟩ := tz_lt s hs10 h0
    have ht0 : 0 < t := ne0_of_tb (hst _ z2)
    by_cases hL : 0 < LL n nx t
    · obtain ⟨r, hr, hW⟩ := LL_root hg ht ht0 hn hL
      have hrt := (mem_tb ht).1 hr
      have hD := D_lt10 (b := sB r) ht
      have hcD := cnt_D ht hrt
      -- what hangs together without the root lies in a part
      have key : ∀ q, Conn nx q → Sub q (sD t (sB r)) → 0 < q → LL n nx q + 1 ≤ WL n nx t r := by
        intro q hq hqt hq0
        obtain ⟨_, y2, _⟩ := tz_lt q (hqt.lt hD) hq0
        obtain ⟨p, hp, hqp⟩ := conn_in hg hD hq hqt y2
        obtain ⟨p0, p1, p2⟩ := PT_mem hg 10 _ hD p hp
        have := cnt_le hD p2
        have h1 := ih p q p1 (by omega) (by omega) hq hqp hq0
        have h2 := Wd_ge (f := LL n nx) hp
        unfold WL
        omega
      by_cases hrs : s.testBit r = true
      · have h1 := LL_le_WL (n := n) hg hs10 hrs
        have hDs := D_lt10 (b := sB r) hs10
        have h2 : Wd (LL n nx) (PT nx 10 (sD s (sB r))) + 1 ≤ WL n nx t r := by
          have : Wd (LL n nx) (PT nx 10 (sD s (sB r))) ≤ WL n nx t r - 1 := Wd_le fun q hq => by
            obtain ⟨q0, q1, q2⟩ := PT_mem hg 10 _ hDs q hq
            have := key q (PT_conn hg hDs hq) (q2.trans fun i hi => by
              rw [tb_D, Bool.and_eq_true] at hi ⊢
              exact ⟨hst i hi.1, hi.2⟩) q0
            omega
          unfold WL at *
          omega
        have h3 : WL n nx s r = Wd (LL n nx) (PT nx 10 (sD s (sB r))) + 1 := rfl
        omega
      · have := key s hs (fun i hi => by
          rw [tb_D, tb_B, hst i hi]
          have : ¬ r = i := fun e => hrs (by rw [e]; exact hi)
          simp [this]) h0
        omega
    · have hz := LL_0 hg ht ht0 hn0 (by omega)
      have : cnt s = 1 := by omega
      have := (single s hs10 h0).1 this
      rw [LL_eq hg hs10, if_pos this]
      exact Nat.zero_le _
end
inductive Anc (up : Nat → Nat) (v : Nat) : Nat → Prop
  | refl : Anc up v v
  | step {w : Nat} : 1 ≤ w → Anc up v (up w) → Anc up v w
open Classical in
noncomputable def sT (P : Nat → Prop) : Nat → Nat
  | 0 => 0
  | k + 1 => if P k then sU (sT P k) (sB k) else sT P k
theorem sT_tb {P : Nat → Prop} {i : Nat} : ∀ k, (sT P k).testBit i = true ↔ i < k ∧ P i
  | 0 => by simp [sT]
  | k + 1 => by
    have ih := sT_tb (P := P) (i := i) k
    unfold sT
    by_cases h : P k
    · rw [if_pos h, tb_U, tb_B]
      by_cases e : k = i
      · subst e; simp [h]
      · simp only [e, decide_false, Bool.or_false]
        rw [ih]
        constructor
        · rintro ⟨h1, h2⟩; exact ⟨by omega, h2⟩
        · rintro ⟨h1, h2⟩; exact ⟨by omega, h2⟩
    · rw [if_neg h, ih]
      constructor
      · rintro ⟨h1, h2⟩; exact ⟨by omega, h2⟩
      · rintro ⟨h1, h2⟩
        refine ⟨?_, h2⟩
        by_cases e : k = i
        · subst e; exact absurd h2 h
        · omega
section
variable {n : Nat} {es : List (Nat × Nat)} {up : Nat → Nat}
theorem IsTree.nbr (hT : IsTree n es up) (i j : Nat) : (nxT es i).testBit j = true ↔ (i < j ∧ j < n ∧ up j = i) ∨ (j < i ∧ i < n ∧ up i = j) := by
  rw [nxT_tb hT.tv.1, hT.mem, hT.mem]
theorem Anc.le (hT : IsTree n es up) {v w : Nat} (h : Anc up v w) : w < n → v ≤ w := by
  induction h with
  | refl => intro _; exact Nat.le_refl _
  | step h1 _ ih =>
    intro hw
    have := hT.up _ h1 hw
    have := ih (by omega)
    omega
theorem Anc.zero (hT : IsTree n es up) : ∀ (k w : Nat), w ≤ k → w < n → Anc up 0 w
  | 0, w, h, _ => by rw [show w = 0 from by omega]; exact .refl
  | k + 1, w, h, hw => by
    by_cases e : w = 0
    · rw [e]; exact .refl
    · have := hT.up w (by omega) hw
      exact .step (by omega) (Anc.zero hT k (up w) (by omega) (by omega))
theorem Anc.child {v w : Nat} (h : Anc up v w) : w = v ∨ ∃ c, 1 ≤ c ∧ up c = v ∧ Anc up c w := by
  induction h with
  | refl => exact .inl rfl
  | @step w h1 h2 ih =>
    rcases ih with e | ⟨c, c1, c2, c3⟩
    · exact .inr ⟨w, h1, e, .refl⟩
    · exact .inr ⟨c, c1, c2, .step h1 c3⟩
/-- The offspring of a place whose parent is away is closed. -/
theorem des_clo (hT : IsTree n es up) {t c : Nat} (hc : t.testBit (up c) = false) {D : Nat} (hD : ∀ w, D.testBit w = true ↔ t.testBit w = true ∧ Anc up c w) : Clo (nxT es) t D := by
  intro i j hi hij hj
  rw [hD] at hi ⊢
  refine ⟨hj, ?_⟩
  rcases (hT.nbr i j).1 hij with ⟨h1, h2, h3⟩ | ⟨h1, h2, h3⟩
  · exact .step (by omega) (by rw [h3]; exact hi.2)
  · cases hi.2 with
    | refl => rw [h3, hj] at hc; cases hc
    | step _ h => rwa [h3] at h
theorem max_ex {P : Nat → Prop} {n : Nat} : ∀ (d v : Nat), n - v ≤ d → v < n → P v → ∃ u, u < n ∧ P u ∧ ∀ w, u < w → w < n → ¬ P w := by
  intro d
  induction d with
  | zero => intro v h1 h2; omega
  | succ d ih =>
    intro v h1 h2 hv
    by_cases h : ∃ w, v < w ∧ w < n ∧ P w
    · obtain ⟨w, w1, w2, w3⟩ := h
      exact ih w (by omega) w2 w3
    · exact ⟨v, h2, hv, fun w h3 h4 h5 => h ⟨w, h3, h4, h5⟩⟩
/-- Every set that hangs together has a middle. -/
theorem centroid (hT : IsTree n es up) {s : Nat} (hs : s < 2 ^ n) (h0 : 0 < s) (hc : Conn (nxT es) s) : ∃ r, r < n ∧ s.testBit r = true ∧ ∀ p ∈ PT (nxT es) 10 (sD s (sB r)), 2 * cnt p ≤ cnt s := by
  have hn := hT.n10
  have hg : GOK (nxT es) := nxI_ok hn hT.tv.1
  have hs10 := lt1024 hs hn
  have hcp := cnt_pos hs10 h0
  have sn : ∀ i, s.testBit i = true → i < n := fun i hi => by
    rcases Nat.lt_or_ge i n with h | h
    · exact h
    · rw [tb_n hs h] at hi; cases hi
  let D : Nat → Nat := fun v => sT (fun w => s.testBit w = true ∧ Anc up v w) 10
  have hDt : ∀ v w, (D v).testBit w = true ↔ s.testBit w = true ∧ Anc up v w := fun v w => by
    show (sT _ 10).testBit w = true ↔ _
    rw [sT_tb]
    exact ⟨fun h => h.2, fun h => ⟨tb10 hs10 h.1, h⟩⟩
  have hDs : ∀ v, Sub (D v) s := fun v w hw => ((hDt v w).1 hw).1
  have hD0 : D 0 = s := (hDs 0).anti fun w hw => (hDt 0 w).2 ⟨hw, Anc.zero hT w w (Nat.le_refl _) (sn w hw)⟩
  obtain ⟨v, hvn, hPv, hmax⟩ := max_ex (P := fun v => cnt s < 2 * cnt (D v)) (n := n) _ 0 (Nat.le_refl _) hT.n0 (by show cnt s < 2 * cnt (D 0); rw [hD0]; omega)
  have hDv10 := (hDs v).lt hs10
  have hDv0 : 0 < D v := by
    rcases Nat.eq_zero_or_pos (D v) with e | e
    · rw [e] at hPv
      have : cnt 0 = 0 := by decide
      omega
    · exact e
  have hvs : s.testBit v = true := by
    refine Classical.byContradiction fun hv => ?_
    obtain ⟨_, z2, _⟩ := tz_lt (D v) hDv10 hDv0
    generalize tz (D v) = w at z2
    obtain ⟨w1, w2⟩ := (hDt v w).1 z2
    rcases w2.child with e | ⟨c, c1, c2, c3⟩
    · rw [e] at w1; exact hv w1
    · have hcn : c < n := by have := c3.le hT (sn w w1); have := sn w w1; omega
      have hcl := des_clo (t := s) (c := c) hT (by rw [c2]; simpa using hv) (hDt c)
      have := (hc w w1).least (D c) ((hDt c w).2 ⟨w1, c3⟩) hcl
      have e := (hDs c).anti this
      have hlt := hT.up c c1 hcn
      refine hmax c (by omega) hcn ?_
      show cnt s < 2 * cnt (D c)
      rw [e]
      omega
  refine ⟨v, hvn, hvs, fun p hp => ?_⟩
  have hsv := D_lt10 (b := sB v) hs10
  obtain ⟨i, hi, hic⟩ := (PT_comp hg 10 _ hsv (cnt_10 _ hsv) _).1 hp
  have hvv : (sD s (sB v)).testBit v = false := by rw [tb_D, tb_B]; simp
  have hne : ∀ w, (sD s (sB v)).testBit w = true → s.testBit w = true ∧ w ≠ v := fun w hw => by
    refine ⟨sub_D w hw, fun e => ?_⟩
    rw [e, hvv] at hw; cases hw
  by_cases hA : Anc up v i
  · rcases hA.child with e | ⟨c, c1, c2, c3⟩
    · exact absurd e (hne i hi).2
    · have his := (hne i hi).1
      have hcn : c < n := by have := c3.le hT (sn i his); have := sn i his; omega
      let E := sT (fun w => (sD s (sB v)).testBit w = true ∧ Anc up c w) 10
      have hE : ∀ w, E.testBit w = true ↔ (sD s (sB v)).testBit w = true ∧ Anc up c w := fun w => by
        show (sT _ 10).testBit w = true ↔ _
        rw [sT_tb]
        exact ⟨fun h => h.2, fun h => ⟨tb10 hsv h.1, h⟩⟩
      have hcl := des_clo (t := sD s (sB v)) (c := c) hT (by rw [c2]; exact hvv) hE
      have h1 := hic.least E ((hE i).2 ⟨hi, c3⟩) hcl
      have h2 : Sub p (D c) := h1.trans fun w hw => (hDt c w).2 ⟨(hne w ((hE w).1 hw).1).1, ((hE w).1 hw).2⟩
      have h3 := cnt_le ((hDs c).lt hs10) h2
      have hlt := hT.up c c1 hcn
      have h4 := hmax c (by omega) hcn
      have h4 : ¬ cnt s < 2 * cnt (D c) := h4
      omega
  · let E := sT (fun w => (sD s (sB v)).testBit w = true ∧ ¬ Anc up v w) 10
    have hE : ∀ w, E.testBit w = true ↔ (sD s (sB v)).testBit w = true ∧ ¬ Anc up v w := fun w => by
      show (sT _ 10).testBit w = true ↔ _
      rw [sT_tb]
      exact ⟨fun h => h.2, fun h => ⟨tb10 hsv h.1, h⟩⟩
    have hcl : Clo (nxT es) (sD s (sB v)) E := by
      intro a b ha hab hb
      rw [hE] at ha ⊢
      refine ⟨hb, fun hvb => ha.2 ?_⟩
      rcases (hT.nbr a b).1 hab with ⟨h1, h2, h3⟩ | ⟨h1, h2, h3⟩
      · cases hvb with
        | refl => rw [hvv] at hb; cases hb
        | step _ h => rwa [h3] at h
      · exact .step (by omega) (by rw [h3]; exact hvb)
    have h1 := hic.least E ((hE i).2 ⟨hi, hA⟩) hcl
    have h2 : Sub p (sD s (D v)) := h1.trans fun w hw => by
      obtain ⟨w1, w2⟩ := (hE w).1 hw
      rw [tb_D, (hne w w1).1]
      have : (D v).testBit w = false := by
        cases h : (D v).testBit w with
        | false => rfl
        | true => exact absurd ((hDt v w).1 h).2 w2
      simp [this]
    have h3 := cnt_le (D_lt10 hs10) h2
    have h4 := cnt_split s (D v)
    have h5 : sI s (D v) = D v := nat_ext fun w => by
      rw [tb_I]
      cases h : (D v).testBit w with
      | false => simp
      | true => rw [hDs v w h]; rfl
    rw [h5] at h4
    have hPv : cnt s < 2 * cnt (D v) := hPv
    omega
theorem Wd_at {f : Nat → Nat} : ∀ (l : List Nat), Wd f l = 0 ∨ ∃ p ∈ l, Wd f l = f p := by
  have : ∀ (l : List Nat) (a : Nat), l.foldl (fun o p => max o (f p)) a = a ∨ ∃ p ∈ l, l.foldl (fun o p => max o (f p)) a = f p := by
    intro l
    induction l with
    | nil => intro a; exact .inl rfl
    | cons x l ih =>
      intro a
      simp only [List.foldl_cons]
      rcases ih (max a (f x)) with h | ⟨p, hp, h⟩
      · rw [h]
        rcases Nat.le_total a (f x) with h1 | h1
        · exact .inr ⟨x, List.mem_cons_self, Nat.max_eq_right h1⟩
        · exact .inl (Nat.max_eq_left h1)
      · exact .inr ⟨p, List.mem_cons_of_mem _ hp, h⟩
  exact fun l => this l 0
/-- The number of looks is at most the binary logarithm. -/
theorem LL_log (hT : IsTree n es up) {m : Nat} : ∀ (k s : Nat), s < 2 ^ n → 0 < s → cnt s ≤ k → Conn (nxT es) s → 2 ^ LL m (nxT es) s ≤ cnt s := by
  have hn := hT.n10
  have hg : GOK (nxT es) := nxI_ok hn hT.tv.1
  intro k
  induction k with
  | zero => intro s hs h0 hk; have := cnt_pos (lt1024 hs hn) h0; omega
  | succ k ih =>
    intro s hs h0 hk hc
    have hs10 := lt1024 hs hn
    have hcp := cnt_pos hs10 h0
    by_cases h1 : sI s (s - 1) = 0
    · rw [LL_eq hg hs10, if_pos h1]; omega
    · have hne : cnt s ≠ 1 := fun h => h1 ((single s hs10 h0).1 h)
      obtain ⟨r, hrn, hr, hp⟩ := centroid hT hs h0 hc
      have hW := LL_le_WL (n := m) hg hs10 hr
      have hD := D_lt10 (b := sB r) hs10
      have : 2 ^ (Wd (LL m (nxT es)) (PT (nxT es) 10 (sD s (sB r))) + 1) ≤ cnt s := by
        rcases Wd_at (f := LL m (nxT es)) (PT (nxT es) 10 (sD s (sB r))) with h | ⟨p, hpm, h⟩
        · rw [h]; omega
        · rw [h, Nat.pow_succ]
          obtain ⟨p0, p1, p2⟩ := PT_mem hg 10 _ hD p hpm
          have hcD := cnt_D hs10 hr
          have hcl := cnt_le hD p2
          have := ih p (lt_of_tb fun i hi => by
            have := sub_D i (p2 i hi)
            rcases Nat.lt_or_ge i n with h | h
            · exact h
            · rw [tb_n hs h] at this; cases this) p0 (by omega) (PT_conn hg hD hpm)
          have := hp p hpm
          omega
      refine Nat.le_trans (Nat.pow_le_pow_right (by omega) ?_) this
      unfold WL at hW
      exact hW
theorem cnt_all : ∀ n : Nat, n < 11 → cnt (2 ^ n - 1) = n := by decide +kernel
theorem all_lt : ∀ n : Nat, n < 11 → 1 ≤ n → 2 ^ n - 1 < 2 ^ n ∧ 0 < 2 ^ n - 1 ∧ 2 ^ n - 1 < 1024 := by decide
theorem IsTree.conn (hT : IsTree n es up) : Conn (nxT es) (2 ^ n - 1) := by
  have hn := hT.n10
  have hg : GOK (nxT es) := nxI_ok hn hT.tv.1
  obtain ⟨_, _, hp⟩ := all_lt n (by omega) hT.n0
  have h0 : (2 ^ n - 1).testBit 0 = true := by rw [all_tb]; have := hT.n0; simp; omega
  have := (cmp_ok hg hp (v := 0) (by omega)).1
  rw [show cmp (nxT es) (2 ^ n - 1) 0 = 2 ^ n - 1 from hT.tv.2] at this
  exact fun v hv => this.move hg h0 hv
theorem mdl_le {f : Nat → Nat} {n : Nat} : ∀ k, (mdl f n k).2 ≤ n ∧ ∀ v, v < k → (mdl f n k).2 ≤ f v
  | 0 => ⟨Nat.le_refl _, fun v hv => by omega⟩
  | k + 1 => by
    obtain ⟨h1, h2⟩ := mdl_le (f := f) (n := n) k
    unfold mdl
    split
    · rename_i h
      refine ⟨by show f k ≤ n; omega, fun v hv => ?_⟩
      show f k ≤ f v
      by_cases e : v = k
      · rw [e]; exact Nat.le_refl _
      · have := h2 v (by omega); omega
    · rename_i h
      refine ⟨h1, fun v hv => ?_⟩
      by_cases e : v = k
      · rw [e]; omega
      · exact h2 v (by omega)
theorem mdl_lt {f : Nat → Nat} {n : Nat} (hn : 1 ≤ n) : ∀ k, k ≤ n → (mdl f n k).1 < n
  | 0, _ => hn
  | k + 1, h => by
    unfold mdl
    split
    · show k < n; omega
    · exact mdl_lt hn k (by omega)
/-- The middle's greatest part has at most half the places. -/
theorem middle_half (hT : IsTree n es up) : 2 * (mdl (WM (nxT es) n) n n).2 ≤ n := by
  have hn := hT.n10
  obtain ⟨h1, h2, h3⟩ := all_lt n (by omega) hT.n0
  obtain ⟨r, hrn, hr, hp⟩ := centroid hT h1 h2 hT.conn
  rw [cnt_all n (by omega)] at hp
  have hle := (mdl_le (f := WM (nxT es) n) (n := n) n).2 r hrn
  have : WM (nxT es) n r ≤ n / 2 := Wd_le fun p hpm => by have := hp p hpm; omega
  omega
end
end Go.Abs

set_option linter.unusedVariables false
set_option linter.unusedSimpArgs false
namespace Go.Abs
theorem foldl_min_cap {f : Nat → Nat} {l : List Nat} {a b : Nat} (h : ∃ i ∈ l, f i ≤ a ∧ f i ≤ b) : l.foldl (fun o i => min o (f i)) a = l.foldl (fun o i => min o (f i)) b := by
  obtain ⟨i, hi, h1, h2⟩ := h
  have ga := foldl_min_le2 f l a
  have gb := foldl_min_le2 f l b
  have a1 := ga i hi
  have b1 := gb i hi
  rcases foldl_min_at f l a with ea | ⟨x, hx, ea⟩ <;> rcases foldl_min_at f l b with eb | ⟨y, hy, eb⟩
  · omega
  · have := ga y hy; omega
  · have := gb x hx; omega
  · have := ga y hy
    have := gb x hx
    omega
section
variable {nx nx' : Nat → Nat} {B : Nat}
theorem IsC.same (hB : ∀ i j, B.testBit i = true → B.testBit j = true → (nx i).testBit j = (nx' i).testBit j) (hS : ∀ i j, (nx i).testBit j = true → (nx' i).testBit j = true) {s v c : Nat} (hs : Sub s B) (hv : s.testBit v = true) (h : IsC nx s v c) : IsC nx' s v c := by
  have hcs := h.sub hv
  exact ⟨h.at_, fun i j h1 h2 h3 => h.cl i j h1 (by rw [hB i j (hs i (hcs i h1)) (hs j h3)]; exact h2) h3, fun D hD hcl => h.least D hD fun i j h1 h2 h3 => hcl i j h1 (hS i j h2) h3⟩
theorem PT_same (hg : GOK nx) (hg' : GOK nx') (hB : ∀ i j, B.testBit i = true → B.testBit j = true → (nx i).testBit j = (nx' i).testBit j) (hS : ∀ i j, (nx i).testBit j = true → (nx' i).testBit j = true) : ∀ (k s : Nat), s < 1024 → Sub s B → PT nx k s = PT nx' k s
  | 0, _, _, _ => rfl
  | k + 1, s, hs, hsB => by
    unfold PT
    by_cases h0 : s = 0
    · rw [if_pos h0, if_pos h0]
    · rw [if_neg h0, if_neg h0]
      obtain ⟨t1, t2, _⟩ := tz_lt s hs (by omega)
      have e := (((cmp_ok hg hs t1).1).same hB hS hsB t2).unique (cmp_ok hg' hs t1).1
      rw [e, PT_same hg hg' hB hS k _ (D_lt10 hs) fun i hi => hsB i (by rw [tb_D, Bool.and_eq_true] at hi; exact hi.1)]
theorem WL_cnt {n : Nat} (hg : GOK nx) {s i : Nat} (hs : s < 1024) (hi : s.testBit i = true) : WL n nx s i ≤ cnt s := by
  have hcD := cnt_D hs hi
  have : Wd (LL n nx) (PT nx 10 (sD s (sB i))) ≤ cnt s - 1 := Wd_le fun p hp => by
    obtain ⟨p1, p2, p3⟩ := PT_mem hg 10 _ (D_lt10 hs) p hp
    have := cnt_le (D_lt10 hs) p3
    have := LL_cnt (n := n) hg _ p p2 p1 (Nat.le_refl _)
    omega
  unfold WL
  omega
theorem LL_same {n m : Nat} (hg : GOK nx) (hg' : GOK nx') (hB : ∀ i j, B.testBit i = true → B.testBit j = true → (nx i).testBit j = (nx' i).testBit j) (hS : ∀ i j, (nx i).testBit j = true → (nx' i).testBit j = true) : ∀ (k s : Nat), s < 1024 → 0 < s → Sub s B → cnt s ≤ k → cnt s ≤ n → cnt s ≤ m → LL n nx s = LL m nx' s := by
  intro k
  induction k with
  | zero => intro s hs h0 _ hk; have := cnt_pos hs h0; omega
  | succ k ih =>
    intro s hs h0 hsB hk hn hm
    rw [LL_eq hg hs, LL_eq hg' hs]
    by_cases h1 : sI s (s - 1) = 0
    · rw [if_pos h1, if_pos h1]
    · rw [if_neg h1, if_neg h1]
      have hW : ∀ i ∈ mem s, WL n nx s i = WL m nx' s i := fun i hi => by
        have hb := (mem_tb hs).1 hi
        have hD := D_lt10 (b := sB i) hs
        have hcD := cnt_D hs hb
        have hsub : Sub (sD s (sB i)) B := fun j hj => hsB j (sub_D j hj)
        have hps : ∀ p ∈ PT nx 10 (sD s (sB i)), LL n nx p = LL m nx' p := fun p hp => by
          obtain ⟨p0, p1, p2⟩ := PT_mem hg 10 _ hD p hp
          have := cnt_le hD p2
          exact ih p p1 p0 (p2.trans hsub) (by omega) (by omega) (by omega)
        unfold WL
        rw [← PT_same hg hg' hB hS 10 _ hD hsub]
        generalize PT nx 10 (sD s (sB i)) = ps at hps
        unfold Wd
        rw [foldl_congr (l := ps) (f := fun o p => max o (LL n nx p)) (g := fun o p => max o (LL m nx' p)) fun p hp a => by rw [hps p hp]]
      obtain ⟨_, t2, _⟩ := tz_lt s hs h0
      have := WL_cnt (n := n) hg hs t2
      have ht := (mem_tb hs).2 t2
      generalize mem s = l at *
      generalize tz s = z at *
      rw [foldl_congr (l := l) (f := fun o i => min o (WL m nx' s i)) (g := fun o i => min o (WL n nx s i)) fun i hi a => by rw [hW i hi]]
      exact foldl_min_cap ⟨z, ht, by omega, by omega⟩
end
def upM (up : Nat → Nat) (n : Nat) : Nat → Nat := fun v => if v = n then n - 1 else up v
theorem rowE_congr {up up' : Nat → Nat} {a b : Nat} (h : ∀ x, x < b → up' x = up x) : rowE up' a b = rowE up a b := by
  unfold rowE
  congr 1
  apply List.filter_congr
  intro x hx
  rw [List.mem_range] at hx
  rw [h x hx]
theorem leaf_eT {up : Nat → Nat} {q : Nat} : eT (upM up (q + 1)) (q + 2) (q + 2) = eT up (q + 1) (q + 1) ++ [(q, q + 1)] := by
  have hM : ∀ x, x < q + 1 → upM up (q + 1) x = up x := fun x hx => by unfold upM; rw [if_neg (by omega)]
  have hl : upM up (q + 1) (q + 1) = q := by unfold upM; simp
  have h1 : ∀ a, a ≤ q → eT (upM up (q + 1)) (q + 2) a = eT up (q + 1) a := by
    intro a
    induction a with
    | zero => intro _; rfl
    | succ a ih =>
      intro ha
      rw [eT_succ, eT_succ, ih (by omega), rowE_succ (by omega), hl, if_neg (by omega), rowE_congr hM]
  rw [eT_succ, rowE_0, List.append_nil, eT_succ, h1 q (Nat.le_refl _), rowE_succ (by omega), hl, if_pos rfl, rowE_0, List.nil_append, eT_succ, rowE_0, List.append_nil]
theorem leaf_tree {up : Nat → Nat} {q : Nat} (hq : q + 2 ≤ 10) (h0 : up 0 = 0) (hup : ∀ v, 1 ≤ v → v < q + 1 → up v < v) : IsTree (q + 2) (eT up (q + 1) (q + 1) ++ [(q, q + 1)]) (upM up (q + 1)) := by
  rw [← leaf_eT]
  refine eT_tree (by omega) hq (by unfold upM; rw [if_neg (by omega)]; exact h0) fun v h1 h2 => ?_
  unfold upM
  split
  · omega
  · exact hup v h1 (by omega)
/-- With one leaf more at most one look more is needed. -/
theorem leaf_looks {up : Nat → Nat} {q : Nat} (hq : q + 2 ≤ 10) (h0 : up 0 = 0) (hup : ∀ v, 1 ≤ v → v < q + 1 → up v < v) :
    LL (q + 1) (nxT (eT up (q + 1) (q + 1))) (2 ^ (q + 1) - 1) ≤ LL (q + 2) (nxT (eT up (q + 1) (q + 1) ++ [(q, q + 1)])) (2 ^ (q + 2) - 1) ∧ LL (q + 2) (nxT (eT up (q + 1) (q + 1) ++ [(q, q + 1)])) (2 ^ (q + 2) - 1) ≤ LL (q + 1) (nxT (eT up (q + 1) (q + 1))) (2 ^ (q + 1) - 1) + 1 := by
  have hT := eT_tree (up := up) (n := q + 1) (by omega) (by omega) h0 hup
  have hT' := leaf_tree hq h0 hup
  generalize eT up (q + 1) (q + 1) = es at *
  have hg : GOK (nxT es) := nxI_ok hT.n10 hT.tv.1
  have hg' : GOK (nxT (es ++ [(q, q + 1)])) := nxI_ok hT'.n10 hT'.tv.1
  have hnb := nxT_tb (es := es) hT.tv.1
  have hnb' := nxT_tb (es := es ++ [(q, q + 1)]) hT'.tv.1
  have hconn := hT.conn
  generalize hnx : nxT es = nx at *
  generalize hnx' : nxT (es ++ [(q, q + 1)]) = nx' at *
  obtain ⟨a1, a2, a3⟩ := all_lt (q + 1) (by omega) (by omega)
  obtain ⟨b1, b2, b3⟩ := all_lt (q + 2) (by omega) (by omega)
  have ca := cnt_all (q + 1) (by omega)
  have cb := cnt_all (q + 2) (by omega)
  have hS : ∀ i j, (nx i).testBit j = true → (nx' i).testBit j = true := fun i j h => by
    rw [hnb] at h
    rw [hnb']
    rcases h with h | h
    · exact .inl (List.mem_append_left _ h)
    · exact .inr (List.mem_append_left _ h)
  have hB : ∀ i j, (2 ^ (q + 1) - 1).testBit i = true → (2 ^ (q + 1) - 1).testBit j = true → (nx i).testBit j = (nx' i).testBit j := fun i j hi hj => by
    rw [all_tb] at hi hj
    have hi : i < q + 1 := by simpa using hi
    have hj : j < q + 1 := by simpa using hj
    cases h : (nx i).testBit j with
    | true => exact (hS i j h).symm
    | false =>
      cases h' : (nx' i).testBit j with
      | false => rfl
      | true =>
        exfalso
        have : (nx i).testBit j = true := by
          rw [hnb]
          rcases (hnb' i j).1 h' with h2 | h2
          · rcases List.mem_append.1 h2 with h2 | h2
            · exact .inl h2
            · simp at h2; omega
          · rcases List.mem_append.1 h2 with h2 | h2
            · exact .inr h2
            · simp at h2; omega
        rw [h] at this; cases this
  have hsame := LL_same (n := q + 1) (m := q + 2) hg hg' hB hS _ _ a3 a2 Sub.refl (Nat.le_refl _) (by omega) (by omega)
  have hconn' : Conn nx' (2 ^ (q + 1) - 1) := fun v hv => (hconn v hv).same hB hS Sub.refl hv
  have hsub : Sub (2 ^ (q + 1) - 1) (2 ^ (q + 2) - 1) := fun i hi => by
    rw [all_tb] at hi ⊢
    simp at hi ⊢
    omega
  rw [hsame]
  refine ⟨LL_mono hg' (by omega) _ _ _ b3 (Nat.le_refl _) (by omega) hconn' hsub a2, ?_⟩
  have hb : (2 ^ (q + 2) - 1).testBit (q + 1) = true := by rw [all_tb]; simp
  have hW := LL_le_WL (n := q + 2) hg' b3 hb
  have hD : sD (2 ^ (q + 2) - 1) (sB (q + 1)) = 2 ^ (q + 1) - 1 := nat_ext fun i => by
    rw [tb_D, tb_B, all_tb, all_tb]
    by_cases e : q + 1 = i
    · subst e; simp
    · simp [e]; omega
  unfold WL at hW
  rw [hD] at hW
  have : Wd (LL (q + 2) nx') (PT nx' 10 (2 ^ (q + 1) - 1)) ≤ LL (q + 2) nx' (2 ^ (q + 1) - 1) := Wd_le fun p hp => by
    obtain ⟨v, hv, hc⟩ := (PT_comp hg' 10 _ a3 (cnt_10 _ a3) _).1 hp
    rw [hc.unique (hconn' v hv)]
    exact Nat.le_refl _
  omega
end Go.Abs

set_option linter.unusedVariables false
set_option maxRecDepth 20000
set_option maxHeartbeats 4000000
namespace Go.Abs
variable {F : Nat → Option IFn} {cx : Ctx} {k : List Itm} {s : St} {l : List (Nat × AV)} {rows : List Row} {low : Nat} {r : AV × List Row × Nat → Prop}
def c14r0 : List Seg := [
  .one ⟨some 155, .mv (.t 15), none⟩,
  .one ⟨some 156, .mv (.t 6), none⟩,
  .one ⟨some 157, .bin .eql (.t 155) (.t 156), none⟩,
  .one ⟨some 158, .mv (.t 157), none⟩,
  .one ⟨some 159, .call (.c (.func 22 [])) [], some (158, true)⟩,
  .one ⟨some 160, .pick (.t 158) (.t 159) (.c (.bool false)), none⟩,
  .one ⟨some 4, .mv (.t 160), none⟩]
def c14k0 : ICode := .kill (dead 161 [6, 15]) (.ops c14r0)
@[simp] theorem uc14k0 : Ex F cx (.code c14k0 :: k) ⟨mk 161 l, rows, low⟩ r ↔ bnd (evP rows (.bin .eql (.c (lk l 15)) (.c (lk l 6)))) fun v0 => gcall F v0 true rows low [] (.func 22 []) fun v1 R1 L1 => bnd (evP R1 (.pick (.c v0) (.c v1) (.c (.bool false)))) fun v2 => Ex F cx k ⟨mk 161 [(4, v2), (160, v2), (159, v1), (158, v0), (157, v0), (156, lk l 6), (155, lk l 15), (6, lk l 6), (15, lk l 15)], R1, L1⟩ r := reg (keep := [6, 15]) (ops := c14r0) rfl (by kernel_rfl) (by kernel_rfl)
def c14s1 : ICode := (.seq c14k0 .ret)
@[simp] theorem uc14s1 : Ex F cx (.code c14s1 :: k) s r ↔ Ex F cx (.code (.seq c14k0 .ret) :: k) s r := Iff.rfl
def c14r2 : List Seg := [
  .one ⟨some 4, .mv (.c (.bool false)), none⟩]
def c14k2 : ICode := .kill (dead 161 []) (.ops c14r2)
@[simp] theorem uc14k2 : Ex F cx (.code c14k2 :: k) ⟨mk 161 l, rows, low⟩ r ↔ Ex F cx k ⟨mk 161 [(4, (.bool false))], rows, low⟩ r := reg (keep := []) (ops := c14r2) rfl (by kernel_rfl) (by kernel_rfl)
def c14s3 : ICode := (.cond (.t 154) (.seq c14k2 .ret) .skip)
@[simp] theorem uc14s3 : Ex F cx (.code c14s3 :: k) s r ↔ Ex F cx (.code (.cond (.t 154) (.seq c14k2 .ret) .skip) :: k) s r := Iff.rfl
def c14r4 : List Seg := [
  .one ⟨some 142, .mv (.t 19), none⟩,
  .one ⟨some 143, .bin .neq (.t 142) (.c (.int .i64 0)), none⟩,
  .one ⟨some 144, .mv (.t 143), none⟩,
  .one ⟨some 145, .mv (.t 18), some (144, false)⟩,
  .one ⟨some 146, .mv (.t 6), some (144, false)⟩,
  .one ⟨some 147, .bin .lss (.t 145) (.t 146), some (144, false)⟩,
  .one ⟨some 148, .pick (.t 144) (.c (.bool true)) (.t 147), none⟩,
  .one ⟨some 149, .mv (.t 148), none⟩,
  .one ⟨some 150, .mv (.t 18), some (149, false)⟩,
  .one ⟨some 151, .mv (.t 6), some (149, false)⟩,
  .one ⟨some 152, .bin .add (.t 151) (.c (.int .i64 1)), some (149, false)⟩,
  .one ⟨some 153, .bin .gtr (.t 150) (.t 152), some (149, false)⟩,
  .one ⟨some 154, .pick (.t 149) (.c (.bool true)) (.t 153), none⟩]
def c14k4 : ICode := .kill (dead 161 [6, 15, 18, 19]) (.ops c14r4)
@[simp] theorem uc14k4 : Ex F cx (.code c14k4 :: k) ⟨mk 161 l, rows, low⟩ r ↔ bnd (evP rows (.bin .neq (.c (lk l 19)) (.c (.int .i64 0)))) fun v0 => bnd (gv v0 false (evP rows (.mv (.c (lk l 18))))) fun v1 => bnd (gv v0 false (evP rows (.mv (.c (lk l 6))))) fun v2 => bnd (gv v0 false (evP rows (.bin .lss (.c v1) (.c v2)))) fun v3 => bnd (evP rows (.pick (.c v0) (.c (.bool true)) (.c v3))) fun v4 => bnd (gv v4 false (evP rows (.mv (.c (lk l 18))))) fun v5 => bnd (gv v4 false (evP rows (.mv (.c (lk l 6))))) fun v6 => bnd (gv v4 false (evP rows (.bin .add (.c v6) (.c (.int .i64 1))))) fun v7 => bnd (gv v4 false (evP rows (.bin .gtr (.c v5) (.c v7)))) fun v8 => bnd (evP rows (.pick (.c v4) (.c (.bool true)) (.c v8))) fun v9 => Ex F cx k ⟨mk 161 [(154, v9), (153, v8), (152, v7), (151, v6), (150, v5), (149, v4), (148, v4), (147, v3), (146, v2), (145, v1), (144, v0), (143, v0), (142, lk l 19), (6, lk l 6), (15, lk l 15), (18, lk l 18), (19, lk l 19)], rows, low⟩ r := reg (keep := [6, 15, 18, 19]) (ops := c14r4) rfl (by kernel_rfl) (by kernel_rfl)
def c14s5 : ICode := (.seq c14k4 c14s3)
@[simp] theorem uc14s5 : Ex F cx (.code c14s5 :: k) s r ↔ Ex F cx (.code (.seq c14k4 c14s3) :: k) s r := Iff.rfl
def c14r6 : List Seg := [
  .one ⟨some 136, .mv (.t 0), none⟩,
  .one ⟨some 137, .bin .add (.t 136) (.c (.int .i64 1)), none⟩,
  .one ⟨some 138, .mv (.t 17), none⟩,
  .one ⟨some 139, .call (.c (.func 48 [])) [(.t 137), (.t 138)], none⟩,
  .one ⟨some 135, .mv (.t 139), none⟩,
  .one ⟨some 140, .ext (.t 135) 0, none⟩,
  .one ⟨some 141, .ext (.t 135) 1, none⟩,
  .one ⟨some 18, .mv (.t 140), none⟩,
  .one ⟨some 19, .mv (.t 141), none⟩]
def c14k6 : ICode := .kill (dead 161 [0, 6, 15, 17]) (.ops c14r6)
@[simp] theorem uc14k6 : Ex F cx (.code c14k6 :: k) ⟨mk 161 l, rows, low⟩ r ↔ bnd (evP rows (.bin .add (.c (lk l 0)) (.c (.int .i64 1)))) fun v0 => bnd (Ret F 48 [v0, lk l 17] rows) fun q1 => bnd (evP q1.2.1 (.ext (.c q1.1) 0)) fun v2 => bnd (evP q1.2.1 (.ext (.c q1.1) 1)) fun v3 => Ex F cx k ⟨mk 161 [(19, v3), (18, v2), (141, v3), (140, v2), (135, q1.1), (139, q1.1), (138, lk l 17), (137, v0), (136, lk l 0), (0, lk l 0), (6, lk l 6), (15, lk l 15), (17, lk l 17)], q1.2.1, (lowO low q1.2.2)⟩ r := reg (keep := [0, 6, 15, 17]) (ops := c14r6) rfl (by kernel_rfl) (by kernel_rfl)
def c14s7 : ICode := (.cond (.t 134) (.seq c14k6 c14s5) .skip)
@[simp] theorem uc14s7 : Ex F cx (.code c14s7 :: k) s r ↔ Ex F cx (.code (.cond (.t 134) (.seq c14k6 c14s5) .skip) :: k) s r := Iff.rfl
def c14r8 : List Seg := [
  .one ⟨some 133, .mv (.t 0), none⟩,
  .one ⟨some 134, .bin .lss (.t 133) (.c (.int .i64 10)), none⟩]
def c14k8 : ICode := .kill (dead 161 [0, 6, 15, 17]) (.ops c14r8)
@[simp] theorem uc14k8 : Ex F cx (.code c14k8 :: k) ⟨mk 161 l, rows, low⟩ r ↔ bnd (evP rows (.bin .lss (.c (lk l 0)) (.c (.int .i64 10)))) fun v0 => Ex F cx k ⟨mk 161 [(134, v0), (133, lk l 0), (0, lk l 0), (6, lk l 6), (15, lk l 15), (17, lk l 17)], rows, low⟩ r := reg (keep := [0, 6, 15, 17]) (ops := c14r8) rfl (by kernel_rfl) (by kernel_rfl)
def c14s9 : ICode := (.seq c14k8 c14s7)
@[simp] theorem uc14s9 : Ex F cx (.code c14s9 :: k) s r ↔ Ex F cx (.code (.seq c14k8 c14s7) :: k) s r := Iff.rfl
def c14r10 : List Seg := [
  .one ⟨some 126, .mv (.t 17), none⟩,
  .one ⟨some 127, .mv (.t 0), none⟩,
  .one ⟨some 128, .bin .sub (.t 127) (.c (.int .i64 1)), none⟩,
  .one ⟨some 129, .mv (.t 0), none⟩,
  .one ⟨some 130, .mkagg [.int .i64 0, .int .i64 0] [(0, 1, (.t 128)), (1, 1, (.t 129))], none⟩,
  .one ⟨some 131, .mkslice 1 [.int .i64 0, .int .i64 0] [(0, 2, (.t 130))], none⟩,
  .one ⟨some 132, .app 2 16 (.t 126) (.t 131), none⟩,
  .one ⟨some 17, .mv (.t 132), none⟩]
def c14k10 : ICode := .kill (dead 161 [0, 6, 15, 17]) (.ops c14r10)
@[simp] theorem uc14k10 : Ex F cx (.code c14k10 :: k) ⟨mk 161 l, rows, low⟩ r ↔ bnd (evP rows (.bin .sub (.c (lk l 0)) (.c (.int .i64 1)))) fun v0 => bnd (evP rows (.mkagg [.int .i64 0, .int .i64 0] [(0, 1, (.c v0)), (1, 1, (.c (lk l 0)))])) fun v1 => bnd (evE rows low (.mkslice 1 [.int .i64 0, .int .i64 0] [(0, 2, (.c v1))])) fun q2 => bnd (evE q2.2.1 q2.2.2 (.app 2 16 (.c (lk l 17)) (.c q2.1))) fun q3 => Ex F cx k ⟨mk 161 [(17, q3.1), (132, q3.1), (131, q2.1), (130, v1), (129, lk l 0), (128, v0), (127, lk l 0), (126, lk l 17), (0, lk l 0), (6, lk l 6), (15, lk l 15), (17, lk l 17)], q3.2.1, q3.2.2⟩ r := reg (keep := [0, 6, 15, 17]) (ops := c14r10) rfl (by kernel_rfl) (by kernel_rfl)
def c14s11 : ICode := (.seq c14k10 c14s9)
@[simp] theorem uc14s11 : Ex F cx (.code c14s11 :: k) s r ↔ Ex F cx (.code (.seq c14k10 c14s9) :: k) s r := Iff.rfl
def c14r12 : List Seg := [
  .one ⟨some 123, .mv (.t 17), none⟩,
  .one ⟨some 124, .mv (.t 5), none⟩,
  .one ⟨some 125, .app 2 16 (.t 123) (.t 124), none⟩,
  .one ⟨some 17, .mv (.t 125), none⟩]
def c14k12 : ICode := .kill (dead 161 [0, 5, 6, 15, 17]) (.ops c14r12)
@[simp] theorem uc14k12 : Ex F cx (.code c14k12 :: k) ⟨mk 161 l, rows, low⟩ r ↔ bnd (evE rows low (.app 2 16 (.c (lk l 17)) (.c (lk l 5)))) fun q0 => Ex F cx k ⟨mk 161 [(17, q0.1), (125, q0.1), (124, lk l 5), (123, lk l 17), (0, lk l 0), (5, lk l 5), (6, lk l 6), (15, lk l 15), (17, lk l 17)], q0.2.1, q0.2.2⟩ r := reg (keep := [0, 5, 6, 15, 17]) (ops := c14r12) rfl (by kernel_rfl) (by kernel_rfl)
def c14s13 : ICode := (.seq c14k12 c14s11)
@[simp] theorem uc14s13 : Ex F cx (.code c14s13 :: k) s r ↔ Ex F cx (.code (.seq c14k12 c14s11) :: k) s r := Iff.rfl
def c14r14 : List Seg := [
  .one ⟨some 17, .mv (.c .nilslice), none⟩]
def c14k14 : ICode := .kill (dead 161 [0, 5, 6, 15]) (.ops c14r14)
@[simp] theorem uc14k14 : Ex F cx (.code c14k14 :: k) ⟨mk 161 l, rows, low⟩ r ↔ Ex F cx k ⟨mk 161 [(17, .nilslice), (0, lk l 0), (5, lk l 5), (6, lk l 6), (15, lk l 15)], rows, low⟩ r := reg (keep := [0, 5, 6, 15]) (ops := c14r14) rfl (by kernel_rfl) (by kernel_rfl)
def c14s15 : ICode := (.cond (.t 122) (.seq c14k14 c14s13) .skip)
@[simp] theorem uc14s15 : Ex F cx (.code c14s15 :: k) s r ↔ Ex F cx (.code (.cond (.t 122) (.seq c14k14 c14s13) .skip) :: k) s r := Iff.rfl
def c14r16 : List Seg := [
  .one ⟨some 121, .mv (.t 0), none⟩,
  .one ⟨some 122, .bin .gtr (.t 121) (.c (.int .i64 1)), none⟩]
def c14k16 : ICode := .kill (dead 161 [0, 5, 6, 15]) (.ops c14r16)
@[simp] theorem uc14k16 : Ex F cx (.code c14k16 :: k) ⟨mk 161 l, rows, low⟩ r ↔ bnd (evP rows (.bin .gtr (.c (lk l 0)) (.c (.int .i64 1)))) fun v0 => Ex F cx k ⟨mk 161 [(122, v0), (121, lk l 0), (0, lk l 0), (5, lk l 5), (6, lk l 6), (15, lk l 15)], rows, low⟩ r := reg (keep := [0, 5, 6, 15]) (ops := c14r16) rfl (by kernel_rfl) (by kernel_rfl)
def c14s17 : ICode := (.seq (.seq c14k16 c14s15) c14s1)
@[simp] theorem uc14s17 : Ex F cx (.code c14s17 :: k) s r ↔ Ex F cx (.code (.seq (.seq c14k16 c14s15) c14s1) :: k) s r := Iff.rfl
def c14r19 : List Seg := [
  .one ⟨some 113, .mv (.t 16), none⟩,
  .one ⟨some 114, .bin .add (.t 113) (.c (.int .i64 1)), none⟩,
  .one ⟨some 16, .mv (.t 114), none⟩]
def c14k19 : ICode := .kill (dead 161 [0, 5, 6, 8, 15, 16]) (.ops c14r19)
@[simp] theorem uc14k19 : Ex F cx (.code c14k19 :: k) ⟨mk 161 l, rows, low⟩ r ↔ bnd (evP rows (.bin .add (.c (lk l 16)) (.c (.int .i64 1)))) fun v0 => Ex F cx k ⟨mk 161 [(16, v0), (114, v0), (113, lk l 16), (0, lk l 0), (5, lk l 5), (6, lk l 6), (8, lk l 8), (15, lk l 15), (16, lk l 16)], rows, low⟩ r := reg (keep := [0, 5, 6, 8, 15, 16]) (ops := c14r19) rfl (by kernel_rfl) (by kernel_rfl)
def c14r20 : List Seg := [
  .one ⟨some 115, .mv (.t 15), none⟩,
  .one ⟨some 116, .mv (.t 8), none⟩,
  .one ⟨some 117, .mv (.t 16), none⟩,
  .one ⟨some 118, .idxS 1 (.t 116) (.t 117), none⟩,
  .one ⟨some 119, .load1 (.t 118), none⟩,
  .one ⟨some 120, .mx [(.t 115), (.t 119)], none⟩,
  .one ⟨some 15, .mv (.t 120), none⟩]
def c14k20 : ICode := .kill (dead 161 [0, 5, 6, 8, 15, 16]) (.ops c14r20)
@[simp] theorem uc14k20 : Ex F cx (.code c14k20 :: k) ⟨mk 161 l, rows, low⟩ r ↔ bnd (evP rows (.idxS 1 (.c (lk l 8)) (.c (lk l 16)))) fun v0 => bnd (evP rows (.load1 (.c v0))) fun v1 => bnd (evP rows (.mx [(.c (lk l 15)), (.c v1)])) fun v2 => Ex F cx k ⟨mk 161 [(15, v2), (120, v2), (119, v1), (118, v0), (117, lk l 16), (116, lk l 8), (115, lk l 15), (0, lk l 0), (5, lk l 5), (6, lk l 6), (8, lk l 8), (15, lk l 15), (16, lk l 16)], rows, low⟩ r := reg (keep := [0, 5, 6, 8, 15, 16]) (ops := c14r20) rfl (by kernel_rfl) (by kernel_rfl)
def c14s21 : ICode := (.seq (.block 1 c14k20) c14k19)
@[simp] theorem uc14s21 : Ex F cx (.code c14s21 :: k) s r ↔ Ex F cx (.code (.seq (.block 1 c14k20) c14k19) :: k) s r := Iff.rfl
def c14s22 : ICode := (.cond (.t 112) .skip (.exit 0))
@[simp] theorem uc14s22 : Ex F cx (.code c14s22 :: k) s r ↔ Ex F cx (.code (.cond (.t 112) .skip (.exit 0)) :: k) s r := Iff.rfl
def c14r23 : List Seg := [
  .one ⟨some 110, .mv (.t 16), none⟩,
  .one ⟨some 111, .mv (.t 0), none⟩,
  .one ⟨some 112, .bin .lss (.t 110) (.t 111), none⟩]
def c14k23 : ICode := .kill (dead 161 [0, 5, 6, 8, 15, 16]) (.ops c14r23)
@[simp] theorem uc14k23 : Ex F cx (.code c14k23 :: k) ⟨mk 161 l, rows, low⟩ r ↔ bnd (evP rows (.bin .lss (.c (lk l 16)) (.c (lk l 0)))) fun v0 => Ex F cx k ⟨mk 161 [(112, v0), (111, lk l 0), (110, lk l 16), (0, lk l 0), (5, lk l 5), (6, lk l 6), (8, lk l 8), (15, lk l 15), (16, lk l 16)], rows, low⟩ r := reg (keep := [0, 5, 6, 8, 15, 16]) (ops := c14r23) rfl (by kernel_rfl) (by kernel_rfl)
def c14l18 : ICode := (.seq (.seq c14k23 c14s22) c14s21)
def c14s24 : ICode := (.block 0 (.loop c14l18))
@[simp] theorem uc14s24 : Ex F cx (.code c14s24 :: k) s r ↔ Ex F cx (.code (.block 0 (.loop c14l18)) :: k) s r := Iff.rfl
def c14r25 : List Seg := [
  .one ⟨some 16, .mv (.c (.int .i64 0)), none⟩]
def c14k25 : ICode := .kill (dead 161 [0, 5, 6, 8, 15]) (.ops c14r25)
@[simp] theorem uc14k25 : Ex F cx (.code c14k25 :: k) ⟨mk 161 l, rows, low⟩ r ↔ Ex F cx k ⟨mk 161 [(16, (.int .i64 0)), (0, lk l 0), (5, lk l 5), (6, lk l 6), (8, lk l 8), (15, lk l 15)], rows, low⟩ r := reg (keep := [0, 5, 6, 8, 15]) (ops := c14r25) rfl (by kernel_rfl) (by kernel_rfl)
def c14s26 : ICode := (.seq (.seq c14k25 c14s24) c14s17)
@[simp] theorem uc14s26 : Ex F cx (.code c14s26 :: k) s r ↔ Ex F cx (.code (.seq (.seq c14k25 c14s24) c14s17) :: k) s r := Iff.rfl
def c14r27 : List Seg := [
  .one ⟨some 15, .mv (.c (.int .i64 0)), none⟩]
def c14k27 : ICode := .kill (dead 161 [0, 5, 6, 8]) (.ops c14r27)
@[simp] theorem uc14k27 : Ex F cx (.code c14k27 :: k) ⟨mk 161 l, rows, low⟩ r ↔ Ex F cx k ⟨mk 161 [(15, (.int .i64 0)), (0, lk l 0), (5, lk l 5), (6, lk l 6), (8, lk l 8)], rows, low⟩ r := reg (keep := [0, 5, 6, 8]) (ops := c14r27) rfl (by kernel_rfl) (by kernel_rfl)
def c14s28 : ICode := (.seq c14k27 c14s26)
@[simp] theorem uc14s28 : Ex F cx (.code c14s28 :: k) s r ↔ Ex F cx (.code (.seq c14k27 c14s26) :: k) s r := Iff.rfl
def c14r29 : List Seg := [
  .one ⟨some 4, .mv (.c (.bool false)), none⟩]
def c14k29 : ICode := .kill (dead 161 []) (.ops c14r29)
@[simp] theorem uc14k29 : Ex F cx (.code c14k29 :: k) ⟨mk 161 l, rows, low⟩ r ↔ Ex F cx k ⟨mk 161 [(4, (.bool false))], rows, low⟩ r := reg (keep := []) (ops := c14r29) rfl (by kernel_rfl) (by kernel_rfl)
def c14s30 : ICode := (.cond (.t 109) (.seq c14k29 .ret) .skip)
@[simp] theorem uc14s30 : Ex F cx (.code c14s30 :: k) s r ↔ Ex F cx (.code (.cond (.t 109) (.seq c14k29 .ret) .skip) :: k) s r := Iff.rfl
def c14r31 : List Seg := [
  .one ⟨some 52, .mv (.t 7), none⟩,
  .one ⟨some 53, .bin .neq (.t 52) (.c (.int .i64 0)), none⟩,
  .one ⟨some 54, .mv (.t 53), none⟩,
  .one ⟨some 55, .mv (.t 9), some (54, false)⟩,
  .one ⟨some 56, .bin .neq (.t 55) (.c (.int .i64 0)), some (54, false)⟩,
  .one ⟨some 57, .pick (.t 54) (.c (.bool true)) (.t 56), none⟩,
  .one ⟨some 58, .mv (.t 57), none⟩,
  .one ⟨some 59, .mv (.t 11), some (58, false)⟩,
  .one ⟨some 60, .bin .neq (.t 59) (.c (.int .i64 0)), some (58, false)⟩,
  .one ⟨some 61, .pick (.t 58) (.c (.bool true)) (.t 60), none⟩,
  .one ⟨some 62, .mv (.t 61), none⟩,
  .one ⟨some 63, .mv (.t 14), some (62, false)⟩,
  .one ⟨some 64, .bin .neq (.t 63) (.c (.int .i64 0)), some (62, false)⟩,
  .one ⟨some 65, .pick (.t 62) (.c (.bool true)) (.t 64), none⟩,
  .one ⟨some 66, .mv (.t 65), none⟩,
  .one ⟨some 67, .mv (.t 10), some (66, false)⟩,
  .one ⟨some 68, .un .not (.t 67), some (66, false)⟩,
  .one ⟨some 69, .pick (.t 66) (.c (.bool true)) (.t 68), none⟩,
  .one ⟨some 70, .mv (.t 69), none⟩,
  .one ⟨some 71, .mv (.t 8), some (70, false)⟩,
  .one ⟨some 72, .len 0 (.t 71), some (70, false)⟩,
  .one ⟨some 73, .mv (.t 0), some (70, false)⟩,
  .one ⟨some 74, .bin .neq (.t 72) (.t 73), some (70, false)⟩,
  .one ⟨some 75, .pick (.t 70) (.c (.bool true)) (.t 74), none⟩,
  .one ⟨some 76, .mv (.t 75), none⟩,
  .one ⟨some 77, .mv (.t 6), some (76, false)⟩,
  .one ⟨some 78, .bin .lss (.t 77) (.c (.int .i64 0)), some (76, false)⟩,
  .one ⟨some 79, .pick (.t 76) (.c (.bool true)) (.t 78), none⟩,
  .one ⟨some 80, .mv (.t 79), none⟩,
  .one ⟨some 81, .mv (.t 6), some (80, false)⟩,
  .one ⟨some 82, .mv (.t 0), some (80, false)⟩,
  .one ⟨some 83, .bin .gtr (.t 81) (.t 82), some (80, false)⟩,
  .one ⟨some 84, .pick (.t 80) (.c (.bool true)) (.t 83), none⟩,
  .one ⟨some 85, .mv (.t 84), none⟩,
  .one ⟨some 86, .mv (.t 6), some (85, false)⟩,
  .one ⟨some 87, .bin .shl (.c (.int .i64 1)) (.t 86), some (85, false)⟩,
  .one ⟨some 88, .mv (.t 0), some (85, false)⟩,
  .one ⟨some 89, .bin .gtr (.t 87) (.t 88), some (85, false)⟩,
  .one ⟨some 90, .pick (.t 85) (.c (.bool true)) (.t 89), none⟩,
  .one ⟨some 91, .mv (.t 90), none⟩,
  .one ⟨some 92, .mv (.t 12), some (91, false)⟩,
  .one ⟨some 93, .bin .lss (.t 92) (.c (.int .i64 0)), some (91, false)⟩,
  .one ⟨some 94, .pick (.t 91) (.c (.bool true)) (.t 93), none⟩,
  .one ⟨some 95, .mv (.t 94), none⟩,
  .one ⟨some 96, .mv (.t 12), some (95, false)⟩,
  .one ⟨some 97, .mv (.t 0), some (95, false)⟩,
  .one ⟨some 98, .bin .geq (.t 96) (.t 97), some (95, false)⟩,
  .one ⟨some 99, .pick (.t 95) (.c (.bool true)) (.t 98), none⟩,
  .one ⟨some 100, .mv (.t 99), none⟩,
  .one ⟨some 101, .mv (.t 13), some (100, false)⟩,
  .one ⟨some 102, .bin .lss (.t 101) (.c (.int .i64 0)), some (100, false)⟩,
  .one ⟨some 103, .pick (.t 100) (.c (.bool true)) (.t 102), none⟩,
  .one ⟨some 104, .mv (.t 103), none⟩,
  .one ⟨some 105, .mv (.t 13), some (104, false)⟩,
  .one ⟨some 106, .bin .mul (.c (.int .i64 2)) (.t 105), some (104, false)⟩,
  .one ⟨some 107, .mv (.t 0), some (104, false)⟩,
  .one ⟨some 108, .bin .gtr (.t 106) (.t 107), some (104, false)⟩,
  .one ⟨some 109, .pick (.t 104) (.c (.bool true)) (.t 108), none⟩]
def c14k31 : ICode := .kill (dead 161 [0, 5, 6, 7, 8, 9, 10, 11, 12, 13, 14]) (.ops c14r31)
@[simp] theorem uc14k31 : Ex F cx (.code c14k31 :: k) ⟨mk 161 l, rows, low⟩ r ↔ bnd (evP rows (.bin .neq (.c (lk l 7)) (.c (.int .i64 0)))) fun v0 => bnd (gv v0 false (evP rows (.mv (.c (lk l 9))))) fun v1 => bnd (gv v0 false (evP rows (.bin .neq (.c v1) (.c (.int .i64 0))))) fun v2 => bnd (evP rows (.pick (.c v0) (.c (.bool true)) (.c v2))) fun v3 => bnd (gv v3 false (evP rows (.mv (.c (lk l 11))))) fun v4 => bnd (gv v3 false (evP rows (.bin .neq (.c v4) (.c (.int .i64 0))))) fun v5 => bnd (evP rows (.pick (.c v3) (.c (.bool true)) (.c v5))) fun v6 => bnd (gv v6 false (evP rows (.mv (.c (lk l 14))))) fun v7 => bnd (gv v6 false (evP rows (.bin .neq (.c v7) (.c (.int .i64 0))))) fun v8 => bnd (evP rows (.pick (.c v6) (.c (.bool true)) (.c v8))) fun v9 => bnd (gv v9 false (evP rows (.mv (.c (lk l 10))))) fun v10 => bnd (gv v9 false (evP rows (.un .not (.c v10)))) fun v11 => bnd (evP rows (.pick (.c v9) (.c (.bool true)) (.c v11))) fun v12 => bnd (gv v12 false (evP rows (.mv (.c (lk l 8))))) fun v13 => bnd (gv v12 false (evP rows (.len 0 (.c v13)))) fun v14 => bnd (gv v12 false (evP rows (.mv (.c (lk l 0))))) fun v15 => bnd (gv v12 false (evP rows (.bin .neq (.c v14) (.c v15)))) fun v16 => bnd (evP rows (.pick (.c v12) (.c (.bool true)) (.c v16))) fun v17 => bnd (gv v17 false (evP rows (.mv (.c (lk l 6))))) fun v18 => bnd (gv v17 false (evP rows (.bin .lss (.c v18) (.c (.int .i64 0))))) fun v19 => bnd (evP rows (.pick (.c v17) (.c (.bool true)) (.c v19))) fun v20 => bnd (gv v20 false (evP rows (.mv (.c (lk l 6))))) fun v21 => bnd (gv v20 false (evP rows (.mv (.c (lk l 0))))) fun v22 => bnd (gv v20 false (evP rows (.bin .gtr (.c v21) (.c v22)))) fun v23 => bnd (evP rows (.pick (.c v20) (.c (.bool true)) (.c v23))) fun v24 => bnd (gv v24 false (evP rows (.mv (.c (lk l 6))))) fun v25 => bnd (gv v24 false (evP rows (.bin .shl (.c (.int .i64 1)) (.c v25)))) fun v26 => bnd (gv v24 false (evP rows (.mv (.c (lk l 0))))) fun v27 => bnd (gv v24 false (evP rows (.bin .gtr (.c v26) (.c v27)))) fun v28 => bnd (evP rows (.pick (.c v24) (.c (.bool true)) (.c v28))) fun v29 => bnd (gv v29 false (evP rows (.mv (.c (lk l 12))))) fun v30 => bnd (gv v29 false (evP rows (.bin .lss (.c v30) (.c (.int .i64 0))))) fun v31 => bnd (evP rows (.pick (.c v29) (.c (.bool true)) (.c v31))) fun v32 => bnd (gv v32 false (evP rows (.mv (.c (lk l 12))))) fun v33 => bnd (gv v32 false (evP rows (.mv (.c (lk l 0))))) fun v34 => bnd (gv v32 false (evP rows (.bin .geq (.c v33) (.c v34)))) fun v35 => bnd (evP rows (.pick (.c v32) (.c (.bool true)) (.c v35))) fun v36 => bnd (gv v36 false (evP rows (.mv (.c (lk l 13))))) fun v37 => bnd (gv v36 false (evP rows (.bin .lss (.c v37) (.c (.int .i64 0))))) fun v38 => bnd (evP rows (.pick (.c v36) (.c (.bool true)) (.c v38))) fun v39 => bnd (gv v39 false (evP rows (.mv (.c (lk l 13))))) fun v40 => bnd (gv v39 false (evP rows (.bin .mul (.c (.int .i64 2)) (.c v40)))) fun v41 => bnd (gv v39 false (evP rows (.mv (.c (lk l 0))))) fun v42 => bnd (gv v39 false (evP rows (.bin .gtr (.c v41) (.c v42)))) fun v43 => bnd (evP rows (.pick (.c v39) (.c (.bool true)) (.c v43))) fun v44 => Ex F cx k ⟨mk 161 [(109, v44), (108, v43), (107, v42), (106, v41), (105, v40), (104, v39), (103, v39), (102, v38), (101, v37), (100, v36), (99, v36), (98, v35), (97, v34), (96, v33), (95, v32), (94, v32), (93, v31), (92, v30), (91, v29), (90, v29), (89, v28), (88, v27), (87, v26), (86, v25), (85, v24), (84, v24), (83, v23), (82, v22), (81, v21), (80, v20), (79, v20), (78, v19), (77, v18), (76, v17), (75, v17), (74, v16), (73, v15), (72, v14), (71, v13), (70, v12), (69, v12), (68, v11), (67, v10), (66, v9), (65, v9), (64, v8), (63, v7), (62, v6), (61, v6), (60, v5), (59, v4), (58, v3), (57, v3), (56, v2), (55, v1), (54, v0), (53, v0), (52, lk l 7), (0, lk l 0), (5, lk l 5), (6, lk l 6), (7, lk l 7), (8, lk l 8), (9, lk l 9), (10, lk l 10), (11, lk l 11), (12, lk l 12), (13, lk l 13), (14, lk l 14)], rows, low⟩ r := reg (keep := [0, 5, 6, 7, 8, 9, 10, 11, 12, 13, 14]) (ops := c14r31) rfl (by kernel_rfl) (by kernel_rfl)
def c14s32 : ICode := (.seq (.seq c14k31 c14s30) c14s28)
@[simp] theorem uc14s32 : Ex F cx (.code c14s32 :: k) s r ↔ Ex F cx (.code (.seq (.seq c14k31 c14s30) c14s28) :: k) s r := Iff.rfl
def c14r33 : List Seg := [
  .one ⟨some 46, .mv (.t 0), none⟩,
  .one ⟨some 47, .mv (.t 5), none⟩,
  .one ⟨some 48, .call (.c (.func 49 [])) [(.t 46), (.t 47)], none⟩,
  .one ⟨some 45, .mv (.t 48), none⟩,
  .one ⟨some 49, .ext (.t 45) 0, none⟩,
  .one ⟨some 50, .ext (.t 45) 1, none⟩,
  .one ⟨some 51, .ext (.t 45) 2, none⟩,
  .one ⟨some 12, .mv (.t 49), none⟩,
  .one ⟨some 13, .mv (.t 50), none⟩,
  .one ⟨some 14, .mv (.t 51), none⟩]
def c14k33 : ICode := .kill (dead 161 [0, 5, 6, 7, 8, 9, 10, 11]) (.ops c14r33)
@[simp] theorem uc14k33 : Ex F cx (.code c14k33 :: k) ⟨mk 161 l, rows, low⟩ r ↔ bnd (Ret F 49 [lk l 0, lk l 5] rows) fun q0 => bnd (evP q0.2.1 (.ext (.c q0.1) 0)) fun v1 => bnd (evP q0.2.1 (.ext (.c q0.1) 1)) fun v2 => bnd (evP q0.2.1 (.ext (.c q0.1) 2)) fun v3 => Ex F cx k ⟨mk 161 [(14, v3), (13, v2), (12, v1), (51, v3), (50, v2), (49, v1), (45, q0.1), (48, q0.1), (47, lk l 5), (46, lk l 0), (0, lk l 0), (5, lk l 5), (6, lk l 6), (7, lk l 7), (8, lk l 8), (9, lk l 9), (10, lk l 10), (11, lk l 11)], q0.2.1, (lowO low q0.2.2)⟩ r := reg (keep := [0, 5, 6, 7, 8, 9, 10, 11]) (ops := c14r33) rfl (by kernel_rfl) (by kernel_rfl)
def c14s34 : ICode := (.seq c14k33 c14s32)
@[simp] theorem uc14s34 : Ex F cx (.code c14s34 :: k) s r ↔ Ex F cx (.code (.seq c14k33 c14s32) :: k) s r := Iff.rfl
def c14r35 : List Seg := [
  .one ⟨some 39, .mv (.t 0), none⟩,
  .one ⟨some 40, .mv (.t 5), none⟩,
  .one ⟨some 41, .mv (.t 8), none⟩,
  .one ⟨some 42, .call (.c (.func 40 [])) [(.t 39), (.t 40), (.t 41)], none⟩,
  .one ⟨some 38, .mv (.t 42), none⟩,
  .one ⟨some 43, .ext (.t 38) 0, none⟩,
  .one ⟨some 44, .ext (.t 38) 1, none⟩,
  .one ⟨some 10, .mv (.t 43), none⟩,
  .one ⟨some 11, .mv (.t 44), none⟩]
def c14k35 : ICode := .kill (dead 161 [0, 5, 6, 7, 8, 9]) (.ops c14r35)
@[simp] theorem uc14k35 : Ex F cx (.code c14k35 :: k) ⟨mk 161 l, rows, low⟩ r ↔ bnd (Ret F 40 [lk l 0, lk l 5, lk l 8] rows) fun q0 => bnd (evP q0.2.1 (.ext (.c q0.1) 0)) fun v1 => bnd (evP q0.2.1 (.ext (.c q0.1) 1)) fun v2 => Ex F cx k ⟨mk 161 [(11, v2), (10, v1), (44, v2), (43, v1), (38, q0.1), (42, q0.1), (41, lk l 8), (40, lk l 5), (39, lk l 0), (0, lk l 0), (5, lk l 5), (6, lk l 6), (7, lk l 7), (8, lk l 8), (9, lk l 9)], q0.2.1, (lowO low q0.2.2)⟩ r := reg (keep := [0, 5, 6, 7, 8, 9]) (ops := c14r35) rfl (by kernel_rfl) (by kernel_rfl)
def c14s36 : ICode := (.seq c14k35 c14s34)
@[simp] theorem uc14s36 : Ex F cx (.code c14s36 :: k) s r ↔ Ex F cx (.code (.seq c14k35 c14s34) :: k) s r := Iff.rfl
def c14r37 : List Seg := [
  .one ⟨some 33, .mv (.t 0), none⟩,
  .one ⟨some 34, .mv (.t 5), none⟩,
  .one ⟨some 35, .call (.c (.func 42 [])) [(.t 33), (.t 34)], none⟩,
  .one ⟨some 32, .mv (.t 35), none⟩,
  .one ⟨some 36, .ext (.t 32) 0, none⟩,
  .one ⟨some 37, .ext (.t 32) 1, none⟩,
  .one ⟨some 8, .mv (.t 36), none⟩,
  .one ⟨some 9, .mv (.t 37), none⟩]
def c14k37 : ICode := .kill (dead 161 [0, 5, 6, 7]) (.ops c14r37)
@[simp] theorem uc14k37 : Ex F cx (.code c14k37 :: k) ⟨mk 161 l, rows, low⟩ r ↔ bnd (Ret F 42 [lk l 0, lk l 5] rows) fun q0 => bnd (evP q0.2.1 (.ext (.c q0.1) 0)) fun v1 => bnd (evP q0.2.1 (.ext (.c q0.1) 1)) fun v2 => Ex F cx k ⟨mk 161 [(9, v2), (8, v1), (37, v2), (36, v1), (32, q0.1), (35, q0.1), (34, lk l 5), (33, lk l 0), (0, lk l 0), (5, lk l 5), (6, lk l 6), (7, lk l 7)], q0.2.1, (lowO low q0.2.2)⟩ r := reg (keep := [0, 5, 6, 7]) (ops := c14r37) rfl (by kernel_rfl) (by kernel_rfl)
def c14s38 : ICode := (.seq c14k37 c14s36)
@[simp] theorem uc14s38 : Ex F cx (.code c14s38 :: k) s r ↔ Ex F cx (.code (.seq c14k37 c14s36) :: k) s r := Iff.rfl
def c14r39 : List Seg := [
  .one ⟨some 27, .mv (.t 0), none⟩,
  .one ⟨some 28, .mv (.t 5), none⟩,
  .one ⟨some 29, .call (.c (.func 48 [])) [(.t 27), (.t 28)], none⟩,
  .one ⟨some 26, .mv (.t 29), none⟩,
  .one ⟨some 30, .ext (.t 26) 0, none⟩,
  .one ⟨some 31, .ext (.t 26) 1, none⟩,
  .one ⟨some 6, .mv (.t 30), none⟩,
  .one ⟨some 7, .mv (.t 31), none⟩]
def c14k39 : ICode := .kill (dead 161 [0, 5]) (.ops c14r39)
@[simp] theorem uc14k39 : Ex F cx (.code c14k39 :: k) ⟨mk 161 l, rows, low⟩ r ↔ bnd (Ret F 48 [lk l 0, lk l 5] rows) fun q0 => bnd (evP q0.2.1 (.ext (.c q0.1) 0)) fun v1 => bnd (evP q0.2.1 (.ext (.c q0.1) 1)) fun v2 => Ex F cx k ⟨mk 161 [(7, v2), (6, v1), (31, v2), (30, v1), (26, q0.1), (29, q0.1), (28, lk l 5), (27, lk l 0), (0, lk l 0), (5, lk l 5)], q0.2.1, (lowO low q0.2.2)⟩ r := reg (keep := [0, 5]) (ops := c14r39) rfl (by kernel_rfl) (by kernel_rfl)
def c14s40 : ICode := (.seq c14k39 c14s38)
@[simp] theorem uc14s40 : Ex F cx (.code c14s40 :: k) s r ↔ Ex F cx (.code (.seq c14k39 c14s38) :: k) s r := Iff.rfl
def c14r41 : List Seg := [
  .one ⟨some 21, .mv (.t 0), none⟩,
  .one ⟨some 22, .mv (.t 1), none⟩,
  .one ⟨some 23, .call (.c (.func 39 [])) [(.t 21), (.t 22)], none⟩,
  .one ⟨some 20, .mv (.t 23), none⟩,
  .one ⟨some 24, .ext (.t 20) 0, none⟩,
  .one ⟨some 25, .ext (.t 20) 1, none⟩,
  .one ⟨some 0, .mv (.t 24), none⟩,
  .one ⟨some 5, .mv (.t 25), none⟩]
def c14k41 : ICode := .kill (dead 161 [0, 1]) (.ops c14r41)
@[simp] theorem uc14k41 : Ex F cx (.code c14k41 :: k) ⟨mk 161 l, rows, low⟩ r ↔ bnd (Ret F 39 [lk l 0, lk l 1] rows) fun q0 => bnd (evP q0.2.1 (.ext (.c q0.1) 0)) fun v1 => bnd (evP q0.2.1 (.ext (.c q0.1) 1)) fun v2 => Ex F cx k ⟨mk 161 [(5, v2), (0, v1), (25, v2), (24, v1), (20, q0.1), (23, q0.1), (22, lk l 1), (21, lk l 0), (0, lk l 0), (1, lk l 1)], q0.2.1, (lowO low q0.2.2)⟩ r := reg (keep := [0, 1]) (ops := c14r41) rfl (by kernel_rfl) (by kernel_rfl)
def c14s42 : ICode := (.seq c14k41 c14s40)
@[simp] theorem uc14s42 : Ex F cx (.code c14s42 :: k) s r ↔ Ex F cx (.code (.seq c14k41 c14s40) :: k) s r := Iff.rfl
def c14r43 : List Seg := [
  .one ⟨some 4, .mv (.c (.bool false)), none⟩]
def c14k43 : ICode := .kill (dead 161 [0, 1]) (.ops c14r43)
@[simp] theorem uc14k43 : Ex F cx (.code c14k43 :: k) ⟨mk 161 l, rows, low⟩ r ↔ Ex F cx k ⟨mk 161 [(4, (.bool false)), (0, lk l 0), (1, lk l 1)], rows, low⟩ r := reg (keep := [0, 1]) (ops := c14r43) rfl (by kernel_rfl) (by kernel_rfl)
def Jc14s1 (F : Nat → Option IFn) (cx : Ctx) (x6 x15 : AV) (rows : List Row) (low : Nat) (r : AV × List Row × Nat → Prop) : Prop := Ex F cx (.code c14s1 :: []) ⟨mk 161 [(6, x6), (15, x15)], rows, low⟩ r
theorem jc14s1 : Ex F cx (.code c14s1 :: []) ⟨mk 161 l, rows, low⟩ r ↔ Jc14s1 F cx (lk l 6) (lk l 15) rows low r := Ex_canon (keep := [6, 15]) (by kernel_rfl)
def Jc14s21 (F : Nat → Option IFn) (cx : Ctx) (x0 x5 x6 x8 x15 x16 : AV) (rows : List Row) (low : Nat) (r : AV × List Row × Nat → Prop) : Prop := Ex F cx (.code c14s21 :: .inLoop c14l18 :: .inBlock 0 :: .code c14s17 :: []) ⟨mk 161 [(0, x0), (5, x5), (6, x6), (8, x8), (15, x15), (16, x16)], rows, low⟩ r
theorem jc14s21 : Ex F cx (.code c14s21 :: .inLoop c14l18 :: .inBlock 0 :: .code c14s17 :: []) ⟨mk 161 l, rows, low⟩ r ↔ Jc14s21 F cx (lk l 0) (lk l 5) (lk l 6) (lk l 8) (lk l 15) (lk l 16) rows low r := Ex_canon (keep := [0, 5, 6, 8, 15, 16]) (by kernel_rfl)
def Lc14l18 (F : Nat → Option IFn) (cx : Ctx) (x0 x5 x6 x8 x15 x16 : AV) (rows : List Row) (low : Nat) (r : AV × List Row × Nat → Prop) : Prop := Ex F cx (.code c14l18 :: .inLoop c14l18 :: .inBlock 0 :: .code c14s17 :: []) ⟨mk 161 [(0, x0), (5, x5), (6, x6), (8, x8), (15, x15), (16, x16)], rows, low⟩ r
@[simp] theorem nc14l18 : Ex F cx (.inLoop c14l18 :: .inBlock 0 :: .code c14s17 :: []) ⟨mk 161 l, rows, low⟩ r ↔ Lc14l18 F cx (lk l 0) (lk l 5) (lk l 6) (lk l 8) (lk l 15) (lk l 16) rows low r := loopN (keep := [0, 5, 6, 8, 15, 16]) (by kernel_rfl)
@[simp] theorem ec14l18 : Ex F cx (.code (.loop c14l18) :: .inBlock 0 :: .code c14s17 :: []) ⟨mk 161 l, rows, low⟩ r ↔ Lc14l18 F cx (lk l 0) (lk l 5) (lk l 6) (lk l 8) (lk l 15) (lk l 16) rows low r := loopE (keep := [0, 5, 6, 8, 15, 16]) (by kernel_rfl)
@[simp] theorem uc14l18 : Ex F cx (.code c14l18 :: k) s r ↔ Ex F cx (.code (.seq (.seq c14k23 c14s22) c14s21) :: k) s r := Iff.rfl
def Jc14s28 (F : Nat → Option IFn) (cx : Ctx) (x0 x5 x6 x8 : AV) (rows : List Row) (low : Nat) (r : AV × List Row × Nat → Prop) : Prop := Ex F cx (.code c14s28 :: []) ⟨mk 161 [(0, x0), (5, x5), (6, x6), (8, x8)], rows, low⟩ r
theorem jc14s28 : Ex F cx (.code c14s28 :: []) ⟨mk 161 l, rows, low⟩ r ↔ Jc14s28 F cx (lk l 0) (lk l 5) (lk l 6) (lk l 8) rows low r := Ex_canon (keep := [0, 5, 6, 8]) (by kernel_rfl)
def c14b : ICode := (.seq c14k43 c14s42)
@[simp] theorem uc14b : Ex F cx (.code c14b :: k) s r ↔ Ex F cx (.code (.seq c14k43 c14s42) :: k) s r := Iff.rfl
def c14 : IFn := ⟨161, [.t 4], c14b⟩
def h14 : List (Nat × List Nat) := [(0, dead 161 [0, 1]), (1, dead 161 [0, 1]), (2, dead 161 [0, 5]), (3, dead 161 [0, 5, 6, 7]), (4, dead 161 [0, 5, 6, 7, 8, 9]), (5, dead 161 [0, 5, 6, 7, 8, 9, 10, 11]), (6, dead 161 [0, 5, 6, 7, 8, 9, 10, 11, 12, 13, 14]), (7, dead 161 []), (8, dead 161 [0, 5, 6, 8]), (9, dead 161 [0, 5, 6, 8, 15]), (10, dead 161 [0, 5, 6, 8, 15, 16]), (12, dead 161 [0, 5, 6, 8, 15, 16]), (11, dead 161 [0, 5, 6, 8, 15, 16]), (13, dead 161 [0, 5, 6, 15]), (14, dead 161 [0, 5, 6, 15]), (15, dead 161 [0, 5, 6, 15, 17]), (16, dead 161 [0, 6, 15, 17]), (17, dead 161 [0, 6, 15, 17]), (18, dead 161 [0, 6, 15, 17]), (19, dead 161 [6, 15, 18, 19]), (20, dead 161 []), (21, dead 161 [6, 15])]
theorem i14 {x0 x1 : AV} (hF : F 14 = some c14) {q : AV × List Row × Option Nat} (h : Ex F (.fn [.t 4]) [.code c14b] ⟨mk 161 [(0, x0), (1, x1)], rows, rows.length⟩ fun r => fin rows r.1 r.2.1 r.2.2 = q) : Ret F 14 [x0, x1] rows = some q := Ret_mk hF h
end Go.Abs

set_option linter.unusedVariables false
set_option linter.unusedSimpArgs false
namespace Go.Abs
open Rd (Cp IsL_one IsL_cells IsL_tail lowO_n)
abbrev G14 : Nat → Option IFn := more F 14 c14
theorem toG14 {f : Nat} {vs : List AV} {rows : List Row} {q : AV × List Row × Option Nat} (h : Ret F f vs rows = some q) : Ret G14 f vs rows = some q := Ret_ext (more_ext (by kernel_rfl)) h
theorem acc2_PH {rows H : List Row} {l : List (Nat × Nat)} : IsP (rows ++ accR2 H l) (accV2 rows H l) l := by
  cases l with
  | nil => rfl
  | cons y l =>
    unfold IsP El elems
    have : row? (rows ++ accR2 H (y :: l)) (rows.length + H.length) = some (nums .i64 (flat (y :: l))) := by
      rw [row?_at]
      simp [accR2, row?]
    simp only [accV2, this]
    rw [nums_all flat_len]; rfl
section
variable {rows : List Row} {n : Nat} {es : List (Nat × Nat)}
theorem jordan_end (hA : ∀ H, H.all (Row.under 0) = true → Ret F 22 [] (rows ++ H) = some (.bool true, rows ++ H, none)) {L : Nat} {H : List Row} (hH : H.all (Row.under 0) = true) : Jc14s1 G14 (.fn [.t 4]) (.int .i64 L) (.int .i64 L) (rows ++ H) rows.length (fun r => fin rows r.1 r.2.1 r.2.2 = (.bool true, rows, none)) := by
  have := toG14 (hA H hH)
  unfold Jc14s1
  simp [this]
theorem jordan_loop (hA : ∀ H, H.all (Row.under 0) = true → Ret F 22 [] (rows ++ H) = some (.bool true, rows ++ H, none)) (hgt : row? rows 1 = some (nums .u8 t64)) {x : Int} {l1 : List Int} (hn : n = nT x) (hes : es = esT x l1) {ev mv : AV} {ol : List Int} {H : List Row} (hH : H.all (Row.under 0) = true) (hP : IsP (rows ++ H) ev es) (hm : IsL (rows ++ H) mv ol) (hol : ol.length = n) (hW : ol.foldl max 0 = (LL n (nxT es) (2 ^ n - 1) : Nat)) : ∀ (d i : Nat), n - i = d → i ≤ n →
    Lc14l18 G14 (.fn [.t 4]) (.int .i64 n) ev (.int .i64 (LL n (nxT es) (2 ^ n - 1) : Nat)) mv (.int .i64 ((ol.take i).foldl max 0)) (.int .i64 i) (rows ++ H) rows.length (fun r => fin rows r.1 r.2.1 r.2.2 = (.bool true, rows, none)) := by
  have hT := esT_tree x l1
  rw [← hn, ← hes] at hT
  have hn0 := hT.n0
  have hn10 := hT.n10
  have hlen := hT.len
  intro d
  induction d with
  | zero =>
    intro i hd h1
    have hi : i = n := by omega
    rw [hi, List.take_of_length_le (by omega), hW]
    have hend := jordan_end hA (L := LL n (nxT es) (2 ^ n - 1)) (H := H) hH
    by_cases c1 : n = 1
    · generalize LL n (nxT es) (2 ^ n - 1) = L at *
      subst c1
      unfold Lc14l18
      simp [-uc14s1, jc14s1]
      exact hend
    · obtain ⟨q, hq⟩ : ∃ q, n = q + 1 := ⟨n - 1, by omega⟩
      have hne : 1 ≤ es.length := by omega
      have hflat : nums .i64 (flat es) = nums .i64 (flat es) := rfl
      have happ := app_nil (b := 16) (low := rows.length) (show El (rows ++ H) 2 ev (nums .i64 (flat es)) es.length from hP) (by omega) (by simp [lim]; omega)
      obtain ⟨H', k1, k2, X, k3⟩ := acc2_app (rows := rows) (H := H) (l := es) (a := q) (b := q + 1) (by omega)
      have hform : accV2 rows H es = .slice (rows.length + H.length) 0 es.length (.op 2) ∧ accR2 H es = H ++ [.cells (nums .i64 (flat es))] := by
        cases es with
        | nil => simp at hne
        | cons y l => exact ⟨rfl, rfl⟩
      rw [hform.1, hform.2] at k1
      have hP' := acc2_PH (rows := rows) (H := H') (l := es ++ [(q, q + 1)])
      have hu' : (accR2 H' (es ++ [(q, q + 1)])).all (Row.under 0) = true := by
        have h1 := k2 hH
        unfold accR2
        split
        · exact h1
        · simp only [List.all_append, h1]; simp [Row.under, AV.under, nums]
      have hend' := jordan_end hA (L := LL n (nxT es) (2 ^ n - 1)) (H := accR2 H' (es ++ [(q, q + 1)])) hu'
      have w1 : IntKind.i64.wrap ((n : Int) - 1) = (q : Int) := by rw [wrap64 (by omega) (by omega)]; omega
      simp only [← hq] at k1 hP' hu' hend'
      simp only [List.append_assoc, List.cons_append, List.nil_append, List.length_append, List.length_cons, List.length_nil, Nat.zero_add] at k1
      by_cases c2 : n < 10
      · have hup : ∀ v, 1 ≤ v → v < q + 1 → upT l1 v < v := fun v h3 h4 => upT_lt h3 (by omega)
        have hT' := leaf_tree (up := upT l1) (q := q) (by omega) (by simp [upT]) hup
        obtain ⟨m1, m2⟩ := leaf_looks (up := upT l1) (q := q) (by omega) (by simp [upT]) hup
        have hee : eT (upT l1) n n = es := by rw [hes, hn]; rfl
        simp only [← hq, hee] at hT' m1 m2
        have g1 := toG14 (Looks_ret (row?_old hgt _) hP' (by simp) hT'.n0 hT'.n10 hT'.len hT'.tv)
        have hLn := LL_le (n := q + 2) (nxI_ok hT'.n10 hT'.tv.1) (all_lt (q + 2) (by omega) (by omega)).2.2
        change LL (q + 2) (nxT (es ++ [(q, n)])) (2 ^ (q + 2) - 1) ≤ _ at hLn
        change Ret G14 48 [.int .i64 ((q + 2 : Nat) : Int), accV2 rows H' (es ++ [(q, n)])] (rows ++ accR2 H' (es ++ [(q, n)])) = some (.tup [.int .i64 (LL (q + 2) (nxT (es ++ [(q, n)])) (2 ^ (q + 2) - 1) : Nat), .int .i64 0], rows ++ accR2 H' (es ++ [(q, n)]), none) at g1
        obtain ⟨n1, hn1⟩ : ∃ n1, n1 = q + 2 := ⟨_, rfl⟩
        rw [← hn1] at g1 m1 m2 hLn
        generalize LL n1 (nxT (es ++ [(q, n)])) (2 ^ n1 - 1) = b at *
        generalize LL n (nxT es) (2 ^ n - 1) = L at *
        generalize accV2 rows H' (es ++ [(q, n)]) = av at *
        generalize accR2 H' (es ++ [(q, n)]) = aR at *
        have w2 : IntKind.i64.wrap ((n : Int) + 1) = (n1 : Int) := by rw [wrap64 (by omega) (by omega)]; omega
        have w3 : IntKind.i64.wrap ((L : Int) + 1) = (L : Int) + 1 := wrap64 (by omega) (by omega)
        unfold Lc14l18
        simp [show (1 : Int) < n by omega, show (n : Int) < 10 by omega, happ, w1, w2, w3, fillA, splice, k1, g1, show ¬ (b : Int) < L by omega, show ¬ (L : Int) + 1 < b by omega, show ¬ b < L by omega, -uc14s1, jc14s1]
        exact hend'
      · generalize LL n (nxT es) (2 ^ n - 1) = L at *
        generalize accV2 rows H' (es ++ [(q, n)]) = av at *
        generalize accR2 H' (es ++ [(q, n)]) = aR at *
        unfold Lc14l18
        simp [show (1 : Int) < n by omega, show ¬ (n : Int) < 10 by omega, happ, w1, fillA, splice, k1, -uc14s1, jc14s1]
        exact hend'
  | succ d ih =>
    intro i hd h1
    have hi : i < n := by omega
    have w1 : IntKind.i64.wrap ((i : Int) + 1) = i + 1 := wrap64 (by omega) (by omega)
    have i1 := idxL0 hm (k := .i64) (i := (i : Int)) (by omega) (by omega)
    have i2 := loadL0 hm (j := i) (by omega)
    simp only [Int.toNat_natCast] at i1
    have := ih (i + 1) (by omega) (by omega)
    rw [List.take_add_one, gI_get (by omega)] at this
    simp only [Option.toList_some, List.foldl_append, List.foldl_cons, List.foldl_nil] at this
    unfold Lc14l18
    simp [hi, i1, i2, w1]
    simpa using this
open Classical in
/-- SearchJordan, if 'awake' is true. -/
theorem jordan_ret (hA : ∀ H, H.all (Row.under 0) = true → Ret F 22 [] (rows ++ H) = some (.bool true, rows ++ H, none)) (hgt : row? rows 1 = some (nums .u8 t64)) {x : Int} {v1 : AV} {l1 : List Int} (h1 : IsL rows v1 l1) : Ret G14 14 [.int .i64 x, v1] rows = some (.bool true, rows, none) := by
  have g1 := toG14 (tree_ret (x := x) h1)
  have hT := esT_tree x l1
  have hlp := fun (ev mv : AV) (ol : List Int) (H : List Row) => jordan_loop (n := nT x) (es := esT x l1) (ev := ev) (mv := mv) (ol := ol) (H := H) hA hgt rfl rfl
  generalize nT x = n at *
  generalize esT x l1 = es at *
  have hn0 := hT.n0
  have hn := hT.n10
  have hg : GOK (nxT es) := nxI_ok hn hT.tv.1
  obtain ⟨p1, p2, p3⟩ := all_lt n (by omega) hn0
  have hP := acc2_P (rows := rows) (l := es)
  have hu2 : (accR2 [] es).all (Row.under 0) = true := by unfold accR2; split <;> simp [Row.under, AV.under, nums]
  generalize accV2 rows [] es = ev at *
  generalize accR2 [] es = E at *
  have hgE := row?_old hgt E
  have g2 := toG14 (Looks_ret hgE hP (by simp) hn0 hn hT.len hT.tv)
  obtain ⟨ol, g3, hol, hMK⟩ := Marks_ret hgE hP (by simp) hn0 hn hT.len hT.tv
  have g3 := toG14 g3
  have hP2 := IsP_app hP [.cells (nums .i64 ol)]
  have hgE2 := row?_old hgE [.cells (nums .i64 ol)]
  have hlol : IsL (rows ++ E ++ [Row.cells (nums .i64 ol)]) (.slice (rows ++ E).length 0 n (.at_ n)) ol := by
    have hrow : row? (rows ++ E ++ [Row.cells (nums .i64 ol)]) (rows ++ E).length = some (nums .i64 ol) := by rw [row?_at0]; rfl
    have := IsL_mk (n := 0) (off := 0) (c := .at_ n) (l := ol) hrow (by rw [nums_all rfl])
    rwa [hol] at this
  have g4 := toG14 (AreMarks_ret hgE2 hP2 (by simp) hn0 hn hT.len hT.tv hlol (by omega))
  have g5 := toG14 (Middle_ret hgE2 hP2 (by simp) hn0 hn hT.len hT.tv)
  have hAM : AM (nxI (flat es) es.length) ol n := MK_AM hg hn0 hn hol hMK
  have hW : ol.foldl max 0 = (LL n (nxT es) (2 ^ n - 1) : Nat) := MK_worst hg hn hol hMK
  have hdec : decide (AM (nxI (flat es) es.length) ol n) = true := by rw [decide_eq_true_iff]; exact hAM
  rw [hdec] at g4
  have hlog := LL_log hT (m := n) _ _ p1 p2 (Nat.le_refl _) hT.conn
  rw [cnt_all n (by omega)] at hlog
  have hhalf := middle_half hT
  have hm1 := mdl_lt (f := WM (nxT es) n) hn0 n (Nat.le_refl _)
  have hLle := LL_le (n := n) hg p3
  have hP2' := hP2
  rw [List.append_assoc] at hP2'
  have hlol' := hlol
  rw [List.append_assoc] at hlol'
  have hl := hlp ev (.slice (rows ++ E).length 0 n (.at_ n)) ol (E ++ [.cells (nums .i64 ol)]) (by
    rw [List.all_append, hu2]; simp [Row.under, AV.under, nums]) hP2' hlol' hol hW _ 0 rfl (Nat.zero_le _)
  have hlen := lenL0 hlol'
  change Ret G14 48 _ _ = some (.tup [.int .i64 (LL n (nxT es) (2 ^ n - 1) : Nat), .int .i64 0], _, none) at g2
  change Ret G14 49 _ _ = some (.tup [.int .i64 (mdl (WM (nxT es) n) n n).1, .int .i64 (mdl (WM (nxT es) n) n n).2, .int .i64 0], _, none) at g5
  generalize mdl (WM (nxT es) n) n n = md at *
  generalize LL n (nxT es) (2 ^ n - 1) = L at *
  have w2 := w_shl (i := L) (by omega)
  have w3 : sB L ≤ n := hlog
  have w5 : IntKind.i64.wrap (2 * (md.2 : Int)) = 2 * (md.2 : Int) := wrap64 (by omega) (by omega)
  simp only [List.append_assoc, List.length_append] at g1 g2 g3 g4 g5 hl hlen
  simp only [List.take_zero, List.foldl_nil] at hl
  refine Go.Abs.i14 more_at ?_
  simp [g1, g2, g3, g4, g5, hlen, hol, w2, w5, show ¬ (L : Int) < 0 by omega, show ¬ (n : Int) < L by omega, show ¬ n < L by omega, show ¬ (n : Int) < (sB L : Nat) by omega, show ¬ n < sB L by omega, show ¬ (n : Int) ≤ md.1 by omega, show ¬ n ≤ md.1 by omega, show ¬ (n : Int) < 2 * (md.2 : Int) by omega, show ¬ n < 2 * md.2 by omega]
  simpa using hl
end
end Go.Abs

