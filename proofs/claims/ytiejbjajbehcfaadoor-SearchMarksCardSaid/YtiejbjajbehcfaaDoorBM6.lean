/- The texts that the row uses, part 6. -/
import Derived.Test.YtiejbjajbehcfaaDoorBM5
import Derived.AtR
import Derived.Orders
import Derived.KernelRfl
import Derived.Laws.Cells
import Derived.Laws.CopyRow
import Derived.Laws.Append
import Derived.Laws.AppendOwn
import Derived.Laws.Entries
import Derived.ArgAppend
import Derived.ChangeKeysEq
import Derived.WideLaws
import Derived.Laws.Small
import Derived.Laws.StructEq
import Derived.Laws.Cover3
import Derived.Laws.Tables
import Derived.Laws.Rows
import Derived.Below
import Derived.Laws.IdiomCopy
import Derived.RangeFuncNested
import Derived.Test.YtiejbjajbehcfaaDoorProg
import Derived.Test.YtiejbjajbehcfaaDoorRows
import Derived.ProofKit
import Derived.LaidMore
import Derived.OpenShut
import Derived.Stop.Joined
import Derived.ChangeSlices
import Derived.SizedLaws
import Derived.SevenTiedAt
import Derived.WalkKit
import Derived.ShutString
import Derived.ChangeOld
import Derived.Carry
set_option linter.unusedVariables false
set_option linter.unusedSimpArgs false
namespace Go.Abs
open Rd (Cp IsL_one IsL_cells IsL_tail lowO_n)
theorem IsC.move {nx : Nat → Nat} {s v w c : Nat} (hg : GOK nx) (h : IsC nx s v c) (hv : s.testBit v = true) (hw : c.testBit w = true) : IsC nx s w c := by
  have hcs := h.sub hv
  refine ⟨hw, h.cl, fun D hD hcl => ?_⟩
  by_cases hDv : D.testBit v = true
  · exact h.least D hDv hcl
  · exfalso
    have := h.least (sD c D) (by rw [tb_D, h.at_]; simpa using hDv) (fun i j h1 h2 h3 => by
      rw [tb_D, Bool.and_eq_true] at h1 ⊢
      refine ⟨h.cl i j h1.1 h2 h3, ?_⟩
      cases hj : D.testBit j with
      | false => rfl
      | true =>
        have := hcl j i hj (by rw [hg.sym j i]; exact h2) (hcs i h1.1)
        rw [this] at h1
        exact absurd h1.2 (by simp)) w hw
    rw [tb_D, hD] at this
    simp at this
theorem IsC.sub_D {nx : Nat → Nat} {s c v d : Nat} (hg : GOK nx) (hc : Clo nx s c) (h : IsC nx (sD s c) v d) (hv : (sD s c).testBit v = true) : IsC nx s v d := by
  have hds := h.sub hv
  refine ⟨h.at_, fun i j h1 h2 h3 => ?_, fun D hD hcl => h.least D hD fun i j h1 h2 h3 => hcl i j h1 h2 (by rw [tb_D, Bool.and_eq_true] at h3; exact h3.1)⟩
  have hi := hds i h1
  rw [tb_D, Bool.and_eq_true] at hi
  refine h.cl i j h1 h2 ?_
  rw [tb_D, h3]
  cases hj : c.testBit j with
  | false => rfl
  | true =>
    have := hc j i hj (by rw [hg.sym j i]; exact h2) hi.1
    rw [this] at hi
    exact absurd hi.2 (by simp)
theorem PT_comp {nx : Nat → Nat} (hg : GOK nx) : ∀ (k s : Nat), s < 1024 → cnt s ≤ k → ∀ p, p ∈ PT nx k s ↔ ∃ v, s.testBit v = true ∧ IsC nx s v p
  | 0, s, hs, hk, p => by
    have h0 : s = 0 := by
      rcases Nat.eq_zero_or_pos s with e | e
      · exact e
      · have := cnt_pos hs e; omega
    subst h0
    simp [PT]
  | k + 1, s, hs, hk, p => by
    by_cases h0 : s = 0
    · subst h0; simp [PT]
    · obtain ⟨p1, p2, p3, p4⟩ := part_first hg hs (show 0 < s by omega)
      obtain ⟨t1, t2, _⟩ := tz_lt s hs (by omega)
      have ih := PT_comp hg k (sD s (cmp nx s (tz s))) (D_lt10 hs) (by omega) p
      unfold PT
      rw [if_neg h0, List.mem_cons, ih]
      generalize cmp nx s (tz s) = c at *
      constructor
      · rintro (rfl | ⟨v, h1, h2⟩)
        · exact ⟨tz s, t2, p1⟩
        · have h3 := h2.sub_D hg p1.cl h1
          rw [tb_D, Bool.and_eq_true] at h1
          exact ⟨v, h1.1, h3⟩
      · rintro ⟨v, h1, h2⟩
        by_cases hv : c.testBit v = true
        · left
          exact h2.unique (p1.move hg t2 hv)
        · right
          have hvD : (sD s c).testBit v = true := by rw [tb_D, h1]; simpa using hv
          have hv10 : v < 10 := by
            rcases Nat.lt_or_ge v 10 with h | h
            · exact h
            · rw [tb_n (n := 10) hs h] at h1; cases h1
          have h4 := (cmp_ok hg (D_lt10 (b := c) hs) hv10).1
          have h5 := h4.sub_D hg p1.cl hvD
          have := h2.unique h5
          rw [this]
          exact ⟨v, hvD, h4⟩
theorem cnt_le1 {x : Nat} (hx : x < 1024) : cnt x ≤ 1 ↔ ∀ i j, x.testBit i = true → x.testBit j = true → i = j := by
  constructor
  · intro h i j hi hj
    refine Classical.byContradiction fun hne => ?_
    have hi10 : i < 10 := by
      rcases Nat.lt_or_ge i 10 with h | h
      · exact h
      · rw [tb_n (n := 10) hx h] at hi; cases hi
    have h1 := cnt_lt (a := sB i) hx (B_sub hi) (fun e => by rw [← e, tb_B] at hj; exact hne (by simpa using hj))
    rw [cnt_B i hi10] at h1
    omega
  · intro h
    rcases Nat.eq_zero_or_pos x with e | e
    · subst e; decide
    · obtain ⟨t1, t2, _⟩ := tz_lt x hx e
      have : x = sB (tz x) := by
        apply nat_ext
        intro i
        rw [tb_B]
        cases hxi : x.testBit i with
        | true => rw [h (tz x) i t2 hxi]; simp
        | false =>
          by_cases e : tz x = i
          · rw [← e, t2] at hxi; cases hxi
          · simp [e]
      rw [this, cnt_B _ t1]
      exact Nat.le_refl _
/-- What R.Marks asks of a mark. -/
def RM1 (nx : Nat → Nat) (ml : List Int) (n : Nat) (m : Int) : Prop := ∀ p ∈ PT nx 10 (lowS ml m n), cnt (sI p (ownS ml m n)) ≤ 1
theorem RM_AM {nx : Nat → Nat} {ml : List Int} {n : Nat} (hg : GOK nx) (hn : n ≤ 10) (hl : ml.length = n) (hr : ∀ x ∈ ml, 0 ≤ x ∧ x ≤ 10) : (∀ m : Nat, m ≤ 10 → RM1 nx ml n m) ↔ ∀ i, i < n → AM1 nx ml n i := by
  have low10 := fun m => lt1024 (lowS_lt (ml := ml) (m := m) n) hn
  constructor
  · intro h i hi k hk hne he
    have hm : gI ml i ∈ ml := List.mem_of_getElem? (gI_get (by omega))
    have hr := hr _ hm
    have := h (gI ml i).toNat (by omega)
    rw [show (((gI ml i).toNat : Nat) : Int) = gI ml i from by omega] at this
    have hco := (cmp_ok hg (low10 (gI ml i)) (v := i) (by omega))
    have hbi : (lowS ml (gI ml i) n).testBit i = true := (lowS_tb n).2 ⟨hi, Int.le_refl _⟩
    have hp := (PT_comp hg 10 _ (low10 (gI ml i)) (cnt_10 _ (low10 (gI ml i))) _).2 ⟨i, hbi, hco.1⟩
    have h2 := (cnt_le1 (I_lt10 hco.2)).1 (this _ hp) k i (by
      rw [tb_I, hk, (ownS_tb n).2 ⟨((lowS_tb n).1 (hco.1.sub hbi k hk)).1, he⟩]; rfl) (by
      rw [tb_I, hco.1.at_, (ownS_tb n).2 ⟨hi, rfl⟩]; rfl)
    exact hne h2
  · intro h m hm p hp
    obtain ⟨v, hv, hc⟩ := (PT_comp hg 10 _ (low10 m) (cnt_10 _ (low10 m)) _).1 hp
    have hp10 : p < 1024 := (hc.sub hv).lt (low10 m)
    rw [cnt_le1 (I_lt10 hp10)]
    intro i j hi hj
    rw [tb_I, Bool.and_eq_true] at hi hj
    obtain ⟨hi1, hi2⟩ := (ownS_tb n).1 hi.2
    obtain ⟨hj1, hj2⟩ := (ownS_tb n).1 hj.2
    have hmv := hc.move hg hv hi.1
    have hco := (cmp_ok hg (low10 m) (v := i) (by omega)).1
    have e := hmv.unique hco
    refine Classical.byContradiction fun hne => ?_
    have := h i hi1 j (by rw [hi2, ← e]; exact hj.1) (fun x => hne x.symm)
    exact this (by rw [hi2, hj2])
section
variable {rows : List Row} {nx : Nat → Nat} {n : Nat} {ml : List Int} {mv ev : AV} {es : List (Nat × Nat)}
theorem rm_parts {R : List Row} {L mk own : Nat} {ps : List Nat} {pv : AV} {r : AV × List Row × Nat → Prop} (hpv : IsL R pv (castL ps)) (hps : ∀ p ∈ ps, p < 1024) (hpl : ps.length ≤ 100) (ho : own < 1024) (hmk : mk ≤ 10)
    (hbad : (∃ p ∈ ps, 1 < cnt (sI p own)) → r (.bool false, R, L))
    (hk : (∀ p ∈ ps, cnt (sI p own) ≤ 1) → Lc41l2 F (.fn [.t 6]) (.int .i64 n) ev mv (.int .i64 ((mk : Int) + 1)) R L r) : ∀ (d j : Nat), ps.length - j = d → j ≤ ps.length → (∀ p ∈ ps.take j, cnt (sI p own) ≤ 1) →
    Lc41l4 F (.fn [.t 6]) (.int .i64 n) ev mv (.int .i64 mk) (.int .i64 own) pv (.int .i64 j) R L r := by
  have w0 : IntKind.i64.wrap ((mk : Int) + 1) = mk + 1 := wrap64 (by omega) (by omega)
  have hll := lenL0 hpv
  rw [castL_len] at hll
  intro d
  induction d with
  | zero =>
    intro j hd h1 hp
    have e : ps.take j = ps := List.take_of_length_le (by omega)
    rw [e] at hp
    have := hk hp
    unfold Lc41l4
    simp [hll, show ¬ (j < ps.length) by omega, w0]
    exact this
  | succ d ih =>
    intro j hd h1 hp
    have hj : j < ps.length := by omega
    have a1 := idxC hpv hj
    have a2 := ldC hpv hj
    have hm := gN_mem hj
    have hget := gN_get hj
    generalize gN ps j = p at *
    have hp10 := hps p hm
    have w1 : IntKind.i64.wrap ((j : Int) + 1) = j + 1 := wrap64 (by omega) (by omega)
    have w2 := w_and (a := p) (b := own) (by omega) (by omega)
    have g1 := size_ret (rows := R) (s := sI p own) (I_lt10 hp10)
    unfold Lc41l4
    by_cases hc : 1 < cnt (sI p own)
    · have := hbad ⟨p, hm, hc⟩
      simp [hll, hj, a1, a2, w2, g1, show (1 : Int) < (cnt (sI p own) : Nat) by omega]
      exact this
    · have := ih (j + 1) (by omega) (by omega) (fun x hx => by
        rw [List.take_add_one, hget] at hx
        rcases List.mem_append.1 hx with hx | hx
        · exact hp x hx
        · have : x = p := by simpa using hx
          rw [this]; omega)
      simp [hll, hj, a1, a2, w2, g1, show ¬ (1 : Int) < (cnt (sI p own) : Nat) by omega, w1]
      simpa using this
theorem rm_low {R : List Row} {mk L : Nat} {r : AV × List Row × Nat → Prop} (hg : GOK nx) (hE : Edg nx es) (he : IsP R ev es) (hel : es.length ≤ 1000) (h : IsL R mv ml) (hn : n ≤ 10) (hl : ml.length = n) (hmk : mk ≤ 10)
    (hk : Lc41l4 F (.fn [.t 6]) (.int .i64 n) ev mv (.int .i64 mk) (.int .i64 (ownS ml mk n : Nat)) (nlV R.length (castL (PT nx 10 (lowS ml mk n)))) (.int .i64 0) (R ++ nlK (castL (PT nx 10 (lowS ml mk n)))) L r) : ∀ (d j : Nat), n - j = d → j ≤ n →
    Lc41l17 F (.fn [.t 6]) (.int .i64 n) ev mv (.int .i64 mk) (.int .i64 (lowS ml mk j : Nat)) (.int .i64 (ownS ml mk j : Nat)) (.int .i64 j) R L r := by
  have g1 := rparts_ret hg hE he hel hn (lowS_lt (ml := ml) (m := mk) n)
  rw [newL_V] at g1
  intro d
  induction d with
  | zero =>
    intro j hd h1
    have hj : j = n := by omega
    subst hj
    generalize PT nx 10 (lowS ml mk j) = ps at *
    unfold Lc41l17
    simp [g1]
    exact hk
  | succ d ih =>
    intro j hd h1
    have hj : j < n := by omega
    have w1 : IntKind.i64.wrap ((j : Int) + 1) = j + 1 := wrap64 (by omega) (by omega)
    have w2 := w_shl (i := j) (by omega)
    have hb := B_lt10 (show j < 10 by omega)
    have hlj := lt1024 (lowS_lt (ml := ml) (m := mk) j) (by omega)
    have hoj := lt1024 (ownS_lt (ml := ml) (m := mk) j) (by omega)
    have w3 := w_or (a := lowS ml mk j) (b := sB j) (by omega) (by omega)
    have w4 := w_or (a := ownS ml mk j) (b := sB j) (by omega) (by omega)
    have i1 := idxL0 h (k := .i64) (i := (j : Int)) (by omega) (by omega)
    have i2 := loadL0 h (j := j) (by omega)
    simp only [Int.toNat_natCast] at i1
    have := ih (j + 1) (by omega) (by omega)
    unfold lowS ownS at this
    unfold Lc41l17
    by_cases hc : gI ml j ≤ mk
    · rw [if_pos hc] at this
      by_cases ho : gI ml j = mk
      · rw [if_pos ho] at this
        simp [hj, i1, i2, hc, ho, w2, w3, w4, w1, show ¬ (j : Int) < 0 by omega]
        simpa using this
      · rw [if_neg ho] at this
        simp [hj, i1, i2, hc, ho, w2, w3, w4, w1, show ¬ (j : Int) < 0 by omega]
        simpa using this
    · have ho : ¬ gI ml j = mk := by omega
      rw [if_neg hc, if_neg ho] at this
      simp [hj, i1, i2, hc, ho, w1]
      simpa using this
theorem rm_loop (hg : GOK nx) (hE : Edg nx es) (he : IsP rows ev es) (hel : es.length ≤ 1000) (h : IsL rows mv ml) (hn : n ≤ 10) (hl : ml.length = n) {b : Bool} (hb : b = true ↔ ∀ m : Nat, m ≤ 10 → RM1 nx ml n m) : ∀ (d mk : Nat) (H : List Row), 11 - mk = d → mk ≤ 11 → (∀ m : Nat, m < mk → RM1 nx ml n m) →
    Lc41l2 F (.fn [.t 6]) (.int .i64 n) ev mv (.int .i64 mk) (rows ++ H) rows.length (fun r => fin rows r.1 r.2.1 r.2.2 = (.bool b, rows, none)) := by
  intro d
  induction d with
  | zero =>
    intro mk H hd h1 hp
    have : b = true := hb.2 fun m hm => hp m (by omega)
    subst this
    unfold Lc41l2
    simp [show ¬ (mk : Int) ≤ 10 by omega]
  | succ d ih =>
    intro mk H hd h1 hp
    have hmk : mk ≤ 10 := by omega
    have hlow := lt1024 (lowS_lt (ml := ml) (m := mk) n) hn
    have hown := lt1024 (ownS_lt (ml := ml) (m := mk) n) hn
    have hRM : RM1 nx ml n mk ↔ ∀ p ∈ PT nx 10 (lowS ml mk n), cnt (sI p (ownS ml mk n)) ≤ 1 := Iff.rfl
    have hpm := fun p hp => (PT_mem hg 10 _ hlow p hp).2.1
    have hpl := PT_len (nx := nx) 10 (lowS ml mk n)
    have := rm_low (mk := mk) (L := rows.length) (r := fun r => fin rows r.1 r.2.1 r.2.2 = (.bool b, rows, none)) hg hE (IsP_app he H) hel (IsL_app h H) hn hl hmk (by
      generalize PT nx 10 (lowS ml mk n) = ps at *
      refine rm_parts (by
        have := nlV_IsL (rows ++ H) (castL ps) []
        rwa [List.append_nil] at this) hpm (by omega) hown hmk (fun hx => ?_) (fun hok => ?_) _ 0 rfl (Nat.zero_le _) (fun x hx => by simp at hx)
      · have : b = false := by
          cases hbb : b with
          | false => rfl
          | true =>
            obtain ⟨p, p1, p2⟩ := hx
            have := hRM.1 (hb.1 hbb mk hmk) p p1
            omega
        subst this
        simp
      · have := ih (mk + 1) (H ++ nlK (castL ps)) (by omega) (by omega) (fun j hj => by
          by_cases e : j = mk
          · rw [e]; exact hRM.2 hok
          · exact hp j (by omega))
        simpa using this) _ 0 rfl (Nat.zero_le _)
    unfold Lc41l2
    simp [show (mk : Int) ≤ 10 by omega]
    simpa [lowS, ownS] using this
theorem rm_range (hn : n ≤ 10) (h : IsL rows mv ml) (hl : ml.length = n) {b : Bool} (hb : (∀ x ∈ ml, 0 ≤ x ∧ x ≤ 10) ∨ b = false) (hk : (∀ x ∈ ml, 0 ≤ x ∧ x ≤ 10) → Lc41l2 F (.fn [.t 6]) (.int .i64 n) ev mv (.int .i64 0) rows rows.length (fun r => fin rows r.1 r.2.1 r.2.2 = (.bool b, rows, none))) : ∀ (d j : Nat), n - j = d → j ≤ n → (∀ x ∈ ml.take j, 0 ≤ x ∧ x ≤ 10) →
    Lc41l39 F (.fn [.t 6]) (.int .i64 n) ev mv (.int .i64 j) rows rows.length (fun r => fin rows r.1 r.2.1 r.2.2 = (.bool b, rows, none)) := by
  intro d
  induction d with
  | zero =>
    intro j hd h1 hp
    have hj : j = n := by omega
    subst hj
    rw [List.take_of_length_le (by omega)] at hp
    unfold Lc41l39
    simp
    exact hk hp
  | succ d ih =>
    intro j hd h1 hp
    have hj : j < n := by omega
    have w1 : IntKind.i64.wrap ((j : Int) + 1) = j + 1 := wrap64 (by omega) (by omega)
    have i1 := idxL0 h (k := .i64) (i := (j : Int)) (by omega) (by omega)
    have i2 := loadL0 h (j := j) (by omega)
    have hget := gI_get (l := ml) (i := j) (by omega)
    have hmem : gI ml j ∈ ml := List.mem_of_getElem? hget
    simp only [Int.toNat_natCast] at i1
    generalize gI ml j = x at *
    have bad : ¬ (0 ≤ x ∧ x ≤ 10) → b = false := fun hx => by
      rcases hb with hb | hb
      · exact absurd (hb x hmem) hx
      · exact hb
    unfold Lc41l39
    by_cases c1 : x < 0
    · have := bad (by omega)
      subst this
      simp [hj, i1, i2, c1]
    · by_cases c2 : 10 < x
      · have := bad (by omega)
        subst this
        simp [hj, i1, i2, c1, c2]
      · have := ih (j + 1) (by omega) (by omega) (fun y hy => by
          rw [List.take_add_one, hget] at hy
          rcases List.mem_append.1 hy with hy | hy
          · exact hp y hy
          · have : y = x := by simpa using hy
            rw [this]; omega)
        simp [hj, i1, i2, c1, c2, w1]
        simpa using this
open Classical in
/-- R.Marks. -/
theorem rmarks_ret (hg : GOK nx) (hE : Edg nx es) (he : IsP rows ev es) (hel : es.length ≤ 1000) (hn : n ≤ 10) (h : IsL rows mv ml) : Ret F 41 [.int .i64 n, ev, mv] rows = some (.bool (decide (AM nx ml n)), rows, none) := by
  have hll := lenL0 h
  refine i41 F41 ?_
  by_cases c1 : ml.length = n
  · have := rm_range (ev := ev) (n := n) hn h c1 (b := decide (AM nx ml n)) (by
      by_cases c2 : ∀ x ∈ ml, 0 ≤ x ∧ x ≤ 10
      · exact .inl c2
      · right
        rw [decide_eq_false_iff_not]
        exact fun h => c2 h.2.1) (fun c2 => by
      have := rm_loop hg hE he hel h hn c1 (b := decide (AM nx ml n)) (by
        rw [decide_eq_true_iff, RM_AM hg hn c1 c2]
        exact ⟨fun h => h.2.2, fun h => ⟨c1, c2, h⟩⟩) _ 0 [] rfl (by omega) (fun m hm => by omega)
      simpa using this) _ 0 rfl (Nat.zero_le _) (fun x hx => by simp at hx)
    simp [hll, c1]
    simpa using this
  · have hAM : ¬ AM nx ml n := fun h => c1 h.1
    have c1' : ¬ (ml.length : Int) = n := by omega
    simp [hll, c1, c1', hAM]
end
end Go.Abs

set_option linter.unusedVariables false
set_option linter.unusedSimpArgs false
namespace Go.Abs
open Rd (Cp IsL_one IsL_cells IsL_tail lowO_n)
theorem foldl_min_at (f : Nat → Nat) : ∀ (l : List Nat) (a : Nat), l.foldl (fun o i => min o (f i)) a = a ∨ ∃ i ∈ l, l.foldl (fun o i => min o (f i)) a = f i
  | [], a => .inl rfl
  | x :: l, a => by
    simp only [List.foldl_cons]
    rcases foldl_min_at f l (min a (f x)) with h | ⟨i, hi, h⟩
    · rw [h]
      rcases Nat.le_total a (f x) with h1 | h1
      · exact .inl (Nat.min_eq_left h1)
      · exact .inr ⟨x, List.mem_cons_self, Nat.min_eq_right h1⟩
    · exact .inr ⟨i, List.mem_cons_of_mem _ hi, h⟩
theorem foldl_min_le2 (f : Nat → Nat) : ∀ (l : List Nat) (a : Nat), ∀ i ∈ l, l.foldl (fun o i => min o (f i)) a ≤ f i
  | x :: l, a, i, hi => by
    simp only [List.foldl_cons]
    rcases List.mem_cons.1 hi with rfl | hi
    · have := foldl_min_le f l (min a (f i))
      omega
    · exact foldl_min_le2 f l _ i hi
theorem Wd_ge {f : Nat → Nat} {p : Nat} {l : List Nat} (hp : p ∈ l) : f p ≤ Wd f l := by
  have : ∀ (l : List Nat) (a : Nat), (a ≤ l.foldl (fun o p => max o (f p)) a) ∧ ∀ p ∈ l, f p ≤ l.foldl (fun o p => max o (f p)) a := by
    intro l
    induction l with
    | nil => intro a; exact ⟨Nat.le_refl _, fun p hp => by simp at hp⟩
    | cons x l ih =>
      intro a
      simp only [List.foldl_cons]
      obtain ⟨h1, h2⟩ := ih (max a (f x))
      refine ⟨by omega, fun p hp => ?_⟩
      rcases List.mem_cons.1 hp with rfl | hp
      · omega
      · exact h2 p hp
  exact (this l 0).2 p hp
section
variable {nx : Nat → Nat} {n : Nat}
theorem LL_cnt (hg : GOK nx) : ∀ (k s : Nat), s < 1024 → 0 < s → cnt s ≤ k → LL n nx s + 1 ≤ cnt s
  | 0, s, hs, h0, hk => by have := cnt_pos hs h0; omega
  | k + 1, s, hs, h0, hk => by
    have hc := cnt_pos hs h0
    rw [LL_eq hg hs]
    by_cases h1 : sI s (s - 1) = 0
    · rw [if_pos h1]; omega
    · rw [if_neg h1]
      have hne : cnt s ≠ 1 := fun h => h1 ((single s hs h0).1 h)
      obtain ⟨t1, t2, _⟩ := tz_lt s hs h0
      have hle := foldl_min_le2 (WL n nx s) (mem s) n (tz s) ((mem_tb hs).2 t2)
      have hcD := cnt_D hs t2
      have hW : Wd (LL n nx) (PT nx 10 (sD s (sB (tz s)))) ≤ cnt s - 2 := Wd_le fun p hp => by
        obtain ⟨p1, p2, p3⟩ := PT_mem hg 10 _ (D_lt10 hs) p hp
        have := cnt_le (D_lt10 hs) p3
        have := LL_cnt hg k p p2 p1 (by omega)
        omega
      have : WL n nx s (tz s) ≤ cnt s - 1 := by unfold WL; omega
      omega
/-- A root is found. -/
theorem LL_root (hg : GOK nx) {s : Nat} (hs : s < 1024) (h0 : 0 < s) (hn : cnt s ≤ n) (hL : 0 < LL n nx s) : ∃ i ∈ mem s, WL n nx s i ≤ LL n nx s := by
  have h1 := LL_cnt (n := n) hg _ s hs h0 (Nat.le_refl _)
  have e := LL_eq (n := n) hg hs
  by_cases hne : sI s (s - 1) = 0
  · rw [if_pos hne] at e; omega
  · rw [if_neg hne] at e
    rcases foldl_min_at (WL n nx s) (mem s) n with h | ⟨i, hi, h⟩
    · omega
    · exact ⟨i, hi, by omega⟩
theorem LL_0 (hg : GOK nx) {s : Nat} (hs : s < 1024) (h0 : 0 < s) (hn : 1 ≤ n) (hL : LL n nx s = 0) : cnt s = 1 := by
  by_cases hne : sI s (s - 1) = 0
  · exact (single s hs h0).2 hne
  · exfalso
    have e := LL_eq (n := n) hg hs
    rw [if_neg hne] at e
    rcases foldl_min_at (WL n nx s) (mem s) n with h | ⟨i, hi, h⟩
    · omega
    · unfold WL at *; omega
/-- Marks that are what the program chooses. -/
inductive MK (n : Nat) (nx : Nat → Nat) (ol : List Int) : Nat → Prop
  | node {s r : Nat} : s.testBit r = true → gI ol r = (LL n nx s : Nat) → (∀ p ∈ PT nx 10 (sD s (sB r)), LL n nx p < LL n nx s) → (∀ p ∈ PT nx 10 (sD s (sB r)), MK n nx ol p) → MK n nx ol s
theorem MK_congr {ol ol' : List Int} {s : Nat} (hg : GOK nx) (h : MK n nx ol s) : s < 1024 → (∀ i, s.testBit i = true → gI ol' i = gI ol i) → MK n nx ol' s := by
  induction h with
  | @node s r h1 h2 h3 h4 ih =>
    intro hs he
    refine .node h1 (by rw [he r h1, h2]) h3 fun p hp => ?_
    obtain ⟨_, p2, p3⟩ := PT_mem hg 10 _ (D_lt10 hs) p hp
    exact ih p hp p2 fun i hi => he i (by have := p3 i hi; rw [tb_D, Bool.and_eq_true] at this; exact this.1)
end
end Go.Abs

set_option linter.unusedVariables false
set_option linter.unusedSimpArgs false
namespace Go.Abs
open Rd (Cp IsL_one IsL_cells IsL_tail lowO_n)
/-- A heap with other contents of the map and of the list that is made. -/
def ST (R : List Row) (mid oid : Nat) (es : List (AV × AV)) (ol : List Int) : List Row := (R.set mid (.mp es)).set oid (.cells (nums .i64 ol))
section
variable {R : List Row} {mid oid : Nat} {es es' : List (AV × AV)} {ol ol' : List Int}
@[simp] theorem ST_len : (ST R mid oid es ol).length = R.length := by simp [ST]
theorem ST_app {L : List Row} (hm : mid < R.length) (ho : oid < R.length) : ST (R ++ L) mid oid es ol = ST R mid oid es ol ++ L := by
  unfold ST
  rw [set_app hm, set_app (by simpa using ho)]
theorem ST_ST (h : mid < oid) : ST (ST R mid oid es ol) mid oid es' ol' = ST R mid oid es' ol' := by
  unfold ST
  rw [List.set_comm _ _ (show oid ≠ mid by omega), List.set_set, List.set_set]
theorem ST_mid (h : mid < oid) : (ST R mid oid es ol).set mid (.mp es') = ST R mid oid es' ol := by
  unfold ST
  rw [List.set_comm _ _ (show oid ≠ mid by omega), List.set_set]
theorem ST_oid : (ST R mid oid es ol).set oid (.cells (nums .i64 ol')) = ST R mid oid es ol' := by
  unfold ST
  rw [List.set_set]
end
/-- What Marks's closure rests on. -/
structure MS (n : Nat) (nx : Nat → Nat) (tid xid mid oid lc oc tc sc : Nat) (R : List Row) (es : List (AV × AV)) (ol : List Int) : Prop where
  le : LE n nx tid xid mid R es
  out : R[oid]? = some (.cells (nums .i64 ol))
  len : ol.length = n
  mo : mid < oid
  flc : row? R lc = some [.ptr xid 0]
  foc : row? R oc = some [.slice oid 0 n (.at_ n)]
  ftc : row? R tc = some [.ptr tid 0]
  fsc : row? R sc = some [.func 74 [.ptr lc 0, .ptr oc 0, .ptr tc 0, .ptr sc 0]]
  n1 : 1 ≠ oid
  n2 : tid ≠ oid
  n3 : xid ≠ oid
  n4 : lc ≠ oid
  n5 : oc ≠ oid
  n6 : tc ≠ oid
  n7 : sc ≠ oid
section
variable {n tid xid mid oid lc oc tc sc : Nat} {nx : Nat → Nat} {R : List Row} {es es' : List (AV × AV)} {ol ol' : List Int}
theorem MS.olt (h : MS n nx tid xid mid oid lc oc tc sc R es ol) : oid < R.length := rows_lt h.out
theorem MS.self (h : MS n nx tid xid mid oid lc oc tc sc R es ol) : ST R mid oid es ol = R := by
  unfold ST
  rw [set_same h.le.mm.mp, set_same h.out]
theorem MS.st (h : MS n nx tid xid mid oid lc oc tc sc R es ol) (h1 : MapOK n nx es') (h2 : ol'.length = n) : MS n nx tid xid mid oid lc oc tc sc (ST R mid oid es' ol') es' ol' := by
  have hm := h.le.mm
  have hl := h.le.set h1
  have hne := h.mo
  have e : ∀ {i : Nat} {vs : List AV}, row? R i = some vs → i ≠ oid → row? (ST R mid oid es' ol') i = some vs := by
    intro i vs h1 h2
    unfold ST
    rw [row?_ne h2]
    exact row?_mp hm h1 _
  refine ⟨⟨e h.le.gt h.n1, e h.le.tr h.n2, e h.le.st h.n3, ?_, h1, ?_⟩, ?_, h2, h.mo, e h.flc h.n4, e h.foc h.n5, e h.ftc h.n6, e h.fsc h.n7, h.n1, h.n2, h.n3, h.n4, h.n5, h.n6, h.n7⟩
  · unfold ST
    rw [List.getElem?_set_ne (by omega)]
    exact hl.mm.mp
  · intro y hy
    rw [ST_len]
    unfold ST at hy
    rw [List.drop_set, if_neg (by omega)] at hy
    rcases List.mem_or_eq_of_mem_set hy with hy | rfl
    · have := hl.mm.un y hy
      rwa [List.length_set] at this
    · simp [Row.under]
  · unfold ST
    rw [List.getElem?_set_self (by simpa using h.olt)]
theorem MS.app (h : MS n nx tid xid mid oid lc oc tc sc R es ol) {L : List Row} (hL : Und R L) : MS n nx tid xid mid oid lc oc tc sc (R ++ L) es ol :=
  ⟨h.le.app hL, rows_old h.out L, h.len, h.mo, row?_old h.flc L, row?_old h.foc L, row?_old h.ftc L, row?_old h.fsc L, h.n1, h.n2, h.n3, h.n4, h.n5, h.n6, h.n7⟩
theorem MS.fin_ok (h : MS n nx tid xid mid oid lc oc tc sc R es ol) (h1 : MapOK n nx es') (h2 : ol'.length = n) {low : Nat} (h3 : mid ≤ low) (h4 : low ≤ oid) {K : List Row} : fin R (.tup []) (ST R mid oid es' ol' ++ K) low = (.tup [], ST R mid oid es' ol', some low) := by
  have hlt := h.olt
  rw [fin_lt (by omega), gc_take (by simp) (by simp [AV.under])]
  intro y hy
  have := (h.st h1 h2).le.mm.un y (by
    rw [show low = mid + (low - mid) from by omega, ← List.drop_drop] at hy
    exact List.mem_of_mem_drop hy)
  rwa [ST_len] at this
theorem MS.store (h : MS n nx tid xid mid oid lc oc tc sc R es ol) {K : List Row} {low r : Nat} {x : Int} (hr : r < n) (hl : ol'.length = n) : evE (ST R mid oid es' ol' ++ K) low (.store1 (.c (.ptr oid r)) (.c (.int .i64 x))) = some (.tup [], ST R mid oid es' (ol'.set r x) ++ K, lower low oid) := by
  have hc : cells? (ST R mid oid es' ol' ++ K) oid = some (nums .i64 ol') := by
    refine cells?_old ?_ _
    unfold cells? ST
    rw [List.getElem?_set_self (by simpa using h.olt)]
  rw [evE_store1, hc]
  simp only [Option.bind_some]
  rw [if_pos ⟨by simp; omega, rfl⟩, nums_set, set_app (by simpa using h.olt), ST_oid]
/-- What the closure does for a set. -/
def MkP (n : Nat) (nx : Nat → Nat) (mid oid : Nat) (R : List Row) (ol : List Int) (s : Nat) : AV × List Row × Option Nat → Prop := fun q => ∃ es' ol' low, q = (.tup [], ST R mid oid es' ol', some low) ∧ MapOK n nx es' ∧ ol'.length = n ∧ (∀ i, s.testBit i = false → gI ol' i = gI ol i) ∧ MK n nx ol' s ∧ mid ≤ low ∧ low ≤ oid
def MkOK (n : Nat) (nx : Nat → Nat) (tid xid mid oid lc oc tc sc k : Nat) : Prop := ∀ (R : List Row) (es : List (AV × AV)) (ol : List Int) (s : Nat), MS n nx tid xid mid oid lc oc tc sc R es ol → 0 < s → s < 2 ^ n → cnt s ≤ k → ∃ q, Ret F 74 [.int .i64 s, .ptr lc 0, .ptr oc 0, .ptr tc 0, .ptr sc 0] R = some q ∧ MkP n nx mid oid R ol s q
theorem mk_parts {k s r : Nat} (hMk : MkOK n nx tid xid mid oid lc oc tc sc k) (hS : MS n nx tid xid mid oid lc oc tc sc R es ol) (hg : GOK nx) (hn : n ≤ 10) (hs : s < 2 ^ n) (hr : s.testBit r = true) (hk : cnt s ≤ k + 1) (hL : ∀ p ∈ PT nx 10 (sD s (sB r)), LL n nx p < LL n nx s) {K : List Row} (hK : K.all (Row.under 0) = true) {pv : AV} (hpv : ∀ e1 o1, IsL (ST R mid oid e1 o1 ++ K) pv (castL (PT nx 10 (sD s (sB r))))) :
    ∀ (d j low : Nat) (es1 : List (AV × AV)) (ol1 : List Int), (PT nx 10 (sD s (sB r))).length - j = d → j ≤ (PT nx 10 (sD s (sB r))).length → MapOK n nx es1 → ol1.length = n → (∀ i, s.testBit i = false → gI ol1 i = gI ol i) → gI ol1 r = (LL n nx s : Nat) → (∀ p ∈ (PT nx 10 (sD s (sB r))).take j, MK n nx ol1 p) → mid ≤ low → low ≤ oid →
    Lc74l3 F (.fn []) (.ptr sc 0) pv (.int .i64 (PT nx 10 (sD s (sB r))).length) (.int .i64 j) (ST R mid oid es1 ol1 ++ K) low (fun q => MkP n nx mid oid R ol s (fin R q.1 q.2.1 q.2.2)) := by
  have hlt := hS.le.mm.lt
  have hot := hS.olt
  have hs10 := lt1024 hs hn
  have hD := D_lt10 (b := sB r) hs10
  have hpl := PT_len (nx := nx) 10 (sD s (sB r))
  have hcD := cnt_D hs10 hr
  have hmem := PT_mem hg 10 _ hD
  have hcomp := PT_comp hg 10 _ hD (cnt_10 _ hD)
  have hnode : ∀ o, gI o r = (LL n nx s : Nat) → (∀ p ∈ PT nx 10 (sD s (sB r)), MK n nx o p) → MK n nx o s := fun o h1 h2 => .node hr h1 hL h2
  generalize PT nx 10 (sD s (sB r)) = ps at *
  intro d
  induction d with
  | zero =>
    intro j low es1 ol1 hd h1 hok hlen hold hroot hdone hl1 hl2
    have e : ps.take j = ps := List.take_of_length_le (by omega)
    rw [e] at hdone
    unfold Lc74l3
    simp [show ¬ (j < ps.length) by omega]
    exact ⟨es1, ol1, low, hS.fin_ok hok hlen hl1 hl2, hok, hlen, hold, hnode ol1 hroot hdone, hl1, hl2⟩
  | succ d ih =>
    intro j low es1 ol1 hd h1 hok hlen hold hroot hdone hl1 hl2
    have hj : j < ps.length := by omega
    have a1 := idxC (hpv es1 ol1) hj
    have a2 := ldC (hpv es1 ol1) hj
    have hm := gN_mem hj
    have hget := gN_get hj
    generalize gN ps j = p at *
    obtain ⟨p0, p1, p2⟩ := hmem p hm
    have hps : ∀ i, p.testBit i = true → s.testBit i = true ∧ i ≠ r := fun i hi => by
      have := p2 i hi
      rw [tb_D, tb_B, Bool.and_eq_true] at this
      exact ⟨this.1, fun e => by have := this.2; simp [e] at this⟩
    have hpn : p < 2 ^ n := lt_of_tb fun i hi => by
      rcases Nat.lt_or_ge i n with h | h
      · exact h
      · have := (hps i hi).1
        rw [tb_n hs h] at this; cases this
    have hS2 := (hS.st hok hlen).app (L := K) (Und_0 hK)
    have hcp := cnt_le hD p2
    obtain ⟨q, hq, es2, ol2, low2, rfl, hok2, hlen2, hold2, hMK2, hl3, hl4⟩ := hMk _ es1 ol1 p hS2 p0 hpn (by omega)
    rw [ST_app (by simpa using hlt) (by simpa using hot), ST_ST hS.mo] at hq
    have w1 : IntKind.i64.wrap ((j : Int) + 1) = j + 1 := wrap64 (by omega) (by omega)
    have hlow : mid ≤ lower low low2 ∧ lower low low2 ≤ oid := by unfold lower; split <;> omega
    have hpr : p.testBit r = false := by
      cases h : p.testBit r with
      | false => rfl
      | true => exact absurd rfl (hps r h).2
    have := ih (j + 1) (lower low low2) es2 ol2 (by omega) (by omega) hok2 hlen2 (fun i hi => by
      rw [hold2 i (by
        cases h : p.testBit i with
        | false => rfl
        | true => rw [(hps i h).1] at hi; cases hi), hold i hi]) (by rw [hold2 r hpr, hroot]) (fun q hq => by
      rw [List.take_add_one, hget] at hq
      rcases List.mem_append.1 hq with hq | hq
      · have hqm := List.mem_of_mem_take hq
        by_cases e : q = p
        · rw [e]; exact hMK2
        · obtain ⟨v, hv, hvc⟩ := (hcomp q).1 hqm
          obtain ⟨w, hw, hwc⟩ := (hcomp p).1 hm
          refine MK_congr hg (hdone q hq) (hmem q hqm).2.1 fun i hi => hold2 i ?_
          cases h : p.testBit i with
          | false => rfl
          | true => exact absurd ((hvc.move hg hv hi).unique (hwc.move hg hw h)) e
      · have : q = p := by simpa using hq
        rw [this]; exact hMK2) hlow.1 hlow.2
    have hsc := hS2.fsc
    unfold Lc74l3
    simp [hj, a1, a2, hsc, hq, w1, -lowO]
    simpa [lowO] using this
theorem mk_root {k s : Nat} (hMk : MkOK n nx tid xid mid oid lc oc tc sc k) (hS : MS n nx tid xid mid oid lc oc tc sc R es ol) (hg : GOK nx) (hn0 : 1 ≤ n) (hn : n ≤ 10) (h0 : 0 < s) (hs : s < 2 ^ n) (hk : cnt s ≤ k + 1) {lv : AV} (hlv : ∀ e1 o1, IsL (ST R mid oid e1 o1 ++ nlK (castL (mem s))) lv (castL (mem s))) :
    ∀ (d j low : Nat) (es1 : List (AV × AV)), (mem s).length - j = d → j ≤ (mem s).length → (∀ x ∈ (mem s).take j, 0 < LL n nx s ∧ LL n nx s < WL n nx s x) → MapOK n nx es1 → ((low = R.length ∧ es1 = es) ∨ low = mid) →
    Lc74l1 F (.fn []) (.int .i64 s) (.ptr lc 0) (.ptr oc 0) (.ptr tc 0) (.ptr sc 0) (.int .i64 (LL n nx s : Nat)) lv (.int .i64 (mem s).length) (.int .i64 j) (ST R mid oid es1 ol ++ nlK (castL (mem s))) low (fun q => MkP n nx mid oid R ol s (fin R q.1 q.2.1 q.2.2)) := by
  have hlt := hS.le.mm.lt
  have hot := hS.olt
  have hs10 := lt1024 hs hn
  have hml := mem_len s hs10
  have hcn := cnt_n s hs10 n (by omega) hs
  intro d
  induction d with
  | zero =>
    intro j low es1 hd h1 hp hok hlow
    exfalso
    have e : (mem s).take j = mem s := List.take_of_length_le (by omega)
    rw [e] at hp
    obtain ⟨t1, t2, _⟩ := tz_lt s hs10 h0
    have hL := (hp (tz s) ((mem_tb hs10).2 t2)).1
    obtain ⟨i, hi, hW⟩ := LL_root hg hs10 h0 hcn hL
    have := (hp i hi).2
    omega
  | succ d ih =>
    intro j low es1 hd h1 hp hok hlow
    have hj : j < (mem s).length := by omega
    have a1 := idxC (hlv es1 ol) hj
    have a2 := ldC (hlv es1 ol) hj
    have hm := gN_mem hj
    have hget := gN_get hj
    generalize gN (mem s) j = i at *
    have hb := (mem_tb hs10).1 hm
    have hi10 : i < 10 := by
      unfold mem at hm
      rw [List.mem_filter, List.mem_range] at hm
      exact hm.1
    have hin : i < n := by
      rcases Nat.lt_or_ge i n with h | h
      · exact h
      · rw [tb_n hs h] at hb; cases hb
    have w1 : IntKind.i64.wrap ((j : Int) + 1) = j + 1 := wrap64 (by omega) (by omega)
    have hUK : Und (ST R mid oid es1 ol) (nlK (castL (mem s))) := Und_0 (nlK_under _)
    have hS2 := (hS.st hok hS.len).app (L := nlK (castL (mem s))) hUK
    obtain ⟨es2, d2, hr, hok2, ha2⟩ := with_ret (of_ok hg hn 10) hS2.le hg hn hs10 hi10 hb (by have := cnt_10 s hs10; omega)
    rw [set_app (by simpa using hlt), ST_mid hS.mo] at hr
    have hlow2 := lowO_asked hlt hlow ha2
    -- the place is the root
    have root : ∀ es3 low3, MapOK n nx es3 → ((low3 = R.length ∧ es3 = es) ∨ low3 = mid) → (∀ p ∈ PT nx 10 (sD s (sB i)), LL n nx p < LL n nx s) → Jc74s14 F (.fn []) (.int .i64 s) (.ptr oc 0) (.ptr tc 0) (.ptr sc 0) (.int .i64 (LL n nx s : Nat)) (.int .i64 i) (ST R mid oid es3 ol ++ nlK (castL (mem s))) low3 (fun q => MkP n nx mid oid R ol s (fin R q.1 q.2.1 q.2.2)) := by
      intro es3 low3 hok3 hlow3 hL
      have hS3 := (hS.st hok3 hS.len).app (L := nlK (castL (mem s))) (Und_0 (nlK_under _))
      have hlen' : (ol.set i (LL n nx s : Nat)).length = n := by rw [List.length_set]; exact hS.len
      have hS4 := (hS.st hok3 hlen').app (L := nlK (castL (mem s))) (Und_0 (nlK_under _))
      have hst := hS.store (K := nlK (castL (mem s))) (es' := es3) (low := low3) (x := ((LL n nx s : Nat) : Int)) hin hS.len
      have g1 := parts_ret hS4.le.gt hg hS4.le.tr hs10 hi10
      rw [newL_V] at g1
      have hIL := fun e1 o1 => nlV_IsL (ST R mid oid e1 o1 ++ nlK (castL (mem s))) (castL (PT nx 10 (sD s (sB i)))) []
      simp only [List.append_nil, List.length_append, ST_len] at hIL
      simp only [List.length_append, ST_len] at g1
      have hlowx : mid ≤ lower low3 oid ∧ lower low3 oid ≤ oid := by
        have := hS.mo
        unfold lower
        rcases hlow3 with ⟨rfl, _⟩ | rfl
        · split <;> omega
        · split <;> omega
      have hgI : gI (ol.set i (LL n nx s : Nat)) i = (LL n nx s : Nat) := by
        rw [gI_eq (by rw [hlen']; exact hin)]
        simp
      have hgo : ∀ x, s.testBit x = false → gI (ol.set i (LL n nx s : Nat)) x = gI ol x := by
        intro x hx
        have : i ≠ x := fun e => by rw [← e, hb] at hx; cases hx
        simp [gI, List.getElem?_set_ne this]
      have hl := mk_parts (pv := nlV (R.length + (nlK (castL (mem s))).length) (castL (PT nx 10 (sD s (sB i))))) hMk hS hg hn hs hb hk hL (K := nlK (castL (mem s)) ++ nlK (castL (PT nx 10 (sD s (sB i))))) (by rw [List.all_append, nlK_under, nlK_under]; rfl) (fun e1 o1 => by have := hIL e1 o1; rwa [List.append_assoc] at this) _ 0 (lower low3 oid) es3 (ol.set i (LL n nx s : Nat)) rfl (Nat.zero_le _) hok3 hlen' hgo hgI (fun p hp => by simp at hp) hlowx.1 hlowx.2
      have hll := lenL0 (hIL es3 (ol.set i (LL n nx s : Nat)))
      rw [castL_len] at hll
      generalize PT nx 10 (sD s (sB i)) = ps at *
      unfold Jc74s14
      have hoc := hS3.foc
      have htc := hS4.ftc
      simp [hoc, hst, htc, g1, hin, hll, -evE_store1, -List.append_assoc]
      rw [List.append_assoc]
      simpa using hl
    have hlcr := hS2.flc
    unfold Lc74l1
    by_cases hL0 : 0 < LL n nx s
    · by_cases hW : LL n nx s < WL n nx s i
      · have := ih (j + 1) (lowO low d2) es2 (by omega) (by omega) (fun x hx => by
          rw [List.take_add_one, hget] at hx
          rcases List.mem_append.1 hx with hx | hx
          · exact hp x hx
          · have : x = i := by simpa using hx
            rw [this]; exact ⟨hL0, hW⟩) hok2 hlow2
        simp [hj, a1, a2, hL0, hlcr, hr, hW, w1, -lowO]
        simpa [-lowO] using this
      · have := root es2 (lowO low d2) hok2 hlow2 (fun p hp => by
          have := Wd_ge (f := LL n nx) hp
          unfold WL at hW
          omega)
        simp [hj, a1, a2, hL0, hlcr, hr, hW, -lowO, -uc74s14, jc74s14]
        exact this
    · have hz : LL n nx s = 0 := by omega
      have hc1 := LL_0 hg hs10 h0 hn0 hz
      have := root es1 low hok hlow (fun p hp => by
        exfalso
        obtain ⟨p0, p1, p2⟩ := PT_mem hg 10 _ (D_lt10 hs10) p hp
        have := cnt_D hs10 hb
        have := cnt_le (D_lt10 hs10) p2
        have := cnt_pos p1 p0
        omega)
      rw [hz] at this ⊢
      simp [hj, a1, a2, -uc74s14, jc74s14]
      simpa using this
theorem mk_ok (hg : GOK nx) (hn0 : 1 ≤ n) (hn : n ≤ 10) : ∀ k, MkOK n nx tid xid mid oid lc oc tc sc k := by
  intro k
  induction k with
  | zero =>
    intro R es ol s hS h0 hs hk
    have := cnt_pos (lt1024 hs hn) h0
    omega
  | succ k ih =>
    intro R es ol s hS h0 hs hk
    have hs10 := lt1024 hs hn
    have hlt := hS.le.mm.lt
    obtain ⟨es1, d1, hr, hok1, ha1⟩ := of_ret hg hn hS.le h0 hs10
    have hst1 : R.set mid (.mp es1) = ST R mid oid es1 ol := by
      conv => lhs; rw [← hS.self, ST_mid hS.mo]
    rw [hst1] at hr
    have hS1 := hS.st hok1 hS.len
    have hm := members_ret hS1.le.gt hs10
    rw [newL_V, meI_cast, ST_len] at hm
    have hlv : ∀ e1 o1, IsL (ST R mid oid e1 o1 ++ nlK (castL (mem s))) (nlV R.length (castL (mem s))) (castL (mem s)) := fun e1 o1 => by
      have := nlV_IsL (ST R mid oid e1 o1) (castL (mem s)) []
      rwa [List.append_nil, ST_len] at this
    have hll := lenL0 (hlv es1 ol)
    rw [castL_len] at hll
    have hlow := lowO_asked hlt (low := R.length) (es0 := es) (es1 := es) (.inl ⟨rfl, rfl⟩) ha1
    have hl := mk_root ih hS hg hn0 hn h0 hs hk hlv _ 0 (lowO R.length d1) es1 rfl (Nat.zero_le _) (fun x hx => by simp at hx) hok1 hlow
    have hlc := hS.flc
    refine Ret_mk' F74 (vs := [.int .i64 s, .ptr lc 0, .ptr oc 0, .ptr tc 0, .ptr sc 0]) (rows := R) (R := MkP n nx mid oid R ol s) (show Ex F (.fn []) [.code c74b] ⟨mk 49 [(0, .int .i64 s), (1, .ptr lc 0), (2, .ptr oc 0), (3, .ptr tc 0), (4, .ptr sc 0)], R, R.length⟩ _ from ?_)
    simp [hlc, hr, hm, hll, -lowO, lowO_n]
    simpa [-lowO] using hl
end
end Go.Abs

set_option linter.unusedVariables false
set_option linter.unusedSimpArgs false
namespace Go.Abs
open Rd (Cp IsL_one IsL_cells IsL_tail lowO_n)
section
variable {rows : List Row} {n m : Nat} {ev : AV} {fl : List Int}
/-- What Marks has made before it marks. -/
def MH (t n : Nat) (nx : Nat → Nat) (es : List (AV × AV)) (ol : List Int) : List Row := [.cells (nums .i64 (tL n nx)), .cells [.ptr t 0], .mp es, .cells [.ptr t 0, .map (t + 2)], .cells [.ptr (t + 3) 0], .cells (nums .i64 ol), .cells [.slice (t + 5) 0 n (.at_ n)], .cells [.func 74 [.ptr (t + 4) 0, .ptr (t + 6) 0, .ptr (t + 1) 0, .ptr (t + 7) 0]]]
theorem MH_ST {nx : Nat → Nat} {es es' : List (AV × AV)} {ol ol' : List Int} : ST (rows ++ MH rows.length n nx es ol) (rows.length + 2) (rows.length + 5) es' ol' = rows ++ MH rows.length n nx es' ol' := by
  unfold ST MH
  rw [rows_set, rows_set]
  rfl
theorem MH_MS {nx : Nat → Nat} {ol : List Int} (hgt : row? rows 1 = some (nums .u8 t64)) (hl : ol.length = n) : MS n nx rows.length (rows.length + 3) (rows.length + 2) (rows.length + 5) (rows.length + 4) (rows.length + 6) (rows.length + 1) (rows.length + 7) (rows ++ MH rows.length n nx [] ol) [] ol := by
  have h1 := row?_lt hgt
  have hr : ∀ {j : Nat} {vs : List AV}, row? (MH rows.length n nx [] ol) j = some vs → row? (rows ++ MH rows.length n nx [] ol) (rows.length + j) = some vs := fun h => by rw [row?_at]; exact h
  refine ⟨⟨row?_old hgt _, hr (j := 0) rfl, hr rfl, ?_, fun e he => by simp at he, ?_⟩, ?_, hl, by omega, hr rfl, hr rfl, hr rfl, hr rfl, by omega, by omega, by omega, by omega, by omega, by omega, by omega⟩
  · rw [rows_at]; rfl
  · intro y hy
    have e : (rows ++ MH rows.length n nx [] ol).drop (rows.length + 2) = (MH rows.length n nx [] ol).drop 2 := drop_app
    rw [e] at hy
    have hlen : (rows ++ MH rows.length n nx [] ol).length = rows.length + 8 := by simp [MH]
    rw [hlen]
    unfold MH at hy
    simp only [List.drop_succ_cons, List.drop_zero, List.mem_cons, List.not_mem_nil, or_false] at hy
    rcases hy with rfl | rfl | rfl | rfl | rfl | rfl
    · rfl
    · simp [Row.under, AV.under, AV.ids]
    · simp [Row.under, AV.under, AV.ids]
    · simp [Row.under]
    · simp [Row.under, AV.under, AV.ids]
    · simp [Row.under, AV.under, AV.ids]
  · rw [rows_at]; rfl
theorem Marks_ret (hgt : row? rows 1 = some (nums .u8 t64)) (he : El rows 2 ev (nums .i64 fl) m) (hfl : fl.length = m * 2) (hn0 : 1 ≤ n) (hn : n ≤ 10) (hm : m + 1 = n) (hT : TreeV fl m n) : ∃ ol, Ret F 42 [.int .i64 n, ev] rows = some (.tup [.slice rows.length 0 n (.at_ n), .int .i64 0], rows ++ [.cells (nums .i64 ol)], none) ∧ ol.length = n ∧ MK n (nxI fl m) ol (2 ^ n - 1) := by
  have g1 := (openTree_ok hgt he hfl hn0 hn hm).1 hT
  have hg := nxI_ok hn hT.1
  have hp : 2 ^ n - 1 < 2 ^ n ∧ 0 < 2 ^ n - 1 := by
    have : ∀ n, n < 11 → 1 ≤ n → 2 ^ n - 1 < 2 ^ n ∧ 0 < 2 ^ n - 1 := by decide
    exact this n (by omega) hn0
  generalize nxI fl m = nx at *
  have hS := MH_MS (nx := nx) (n := n) (ol := List.replicate n 0) hgt (by simp)
  obtain ⟨q, hq, es', ol', low, rfl, hok, hlen, _, hMK, hl1, hl2⟩ := mk_ok hg hn0 hn 10 _ _ _ _ hS hp.2 hp.1 (cnt_10 _ (lt1024 hp.1 hn))
  rw [MH_ST] at hq
  refine ⟨ol', ?_, hlen, hMK⟩
  have g2 := newLooks_ret (rows := rows ++ [.cells (nums .i64 (tL n nx)), .cells [.ptr rows.length 0]]) (tid := rows.length)
  have g3 := all_ret (n := n) (nx := nx) (tid := rows.length) hS.le.tr hn
  unfold MH at hq g3
  have hnum : List.replicate n (AV.int .i64 0) = nums .i64 (List.replicate n 0) := by simp [nums]
  have hlim : n ≤ lim := by simp [lim]; omega
  simp only [List.length_append, List.length_cons, List.length_nil, List.append_assoc, List.cons_append, List.nil_append] at g2 g3 hq
  refine i42 F42 ?_
  have hlow : lower rows.length low = rows.length := lower_ge (by omega)
  generalize 2 ^ n - 1 = q at *
  have hout : row? (rows ++ MH rows.length n nx es' ol') (rows.length + 6) = some [.slice (rows.length + 5) 0 n (.at_ n)] := by rw [row?_at]; rfl
  simp [g1, g2, hlim, hnum, Nat.add_assoc, g3, drop_mapp, hq, hlow, hout]
  have hne : ¬ rows.length + 5 < rows.length := by omega
  have hro : (rows ++ MH rows.length n nx es' ol')[rows.length + 5]? = some (.cells (nums .i64 ol')) := by rw [rows_at]; rfl
  simp [fin, hne, AV.plain1, AV.plain, AV.ren1, AV.ren, hro]
end
end Go.Abs

set_option linter.unusedVariables false
set_option linter.unusedSimpArgs false
namespace Go.Abs
open Rd (Cp IsL_one IsL_cells IsL_tail lowO_n)
def bls (l : List Bool) : List AV := l.map .bool
@[simp] theorem bls_len {l : List Bool} : (bls l).length = l.length := by simp [bls]
@[simp] theorem bls_set {l : List Bool} {i : Nat} {b : Bool} : (bls l).set i (.bool b) = bls (l.set i b) := by simp [bls, List.map_set]
def usedT (n : Nat) (s : List Int) : List Bool := (List.range n).map fun (j : Nat) => decide ((j : Int) ∈ s)
@[simp] theorem usedT_len {n : Nat} {s : List Int} : (usedT n s).length = n := by simp [usedT]
section
variable {R3 H1 : List Row} {low : Nat} {r : AV × List Row × Nat → Prop}
theorem newL_shape (rows : List Row) (l : List Int) : ∃ v K, newL rows l = (v, rows ++ K, none) ∧ IsL (rows ++ K) v l ∧ Cp 1 v ∧ K.all (Row.under 0) = true := by
  have h := newL_IsL (rows := rows) l
  cases l with
  | nil => exact ⟨.nilslice, [], by simp [newL], by simpa [newL] using h.1, h.2, rfl⟩
  | cons x l => exact ⟨_, [.cells (nums .i64 (x :: l))], rfl, h.1, h.2, by simp [Row.under, AV.under, nums]⟩
end
end Go.Abs

set_option linter.unusedVariables false
set_option maxRecDepth 20000
set_option maxHeartbeats 4000000
namespace Go.Abs
variable {F : Nat → Option IFn} {cx : Ctx} {k : List Itm} {s : St} {l : List (Nat × AV)} {rows : List Row} {low : Nat} {r : AV × List Row × Nat → Prop}
def c10r0 : List Seg := [
  .one ⟨some 99, .call (.c (.func 22 [])) [], none⟩,
  .one ⟨some 6, .mv (.t 99), none⟩]
def c10k0 : ICode := .kill (dead 100 []) (.ops c10r0)
@[simp] theorem uc10k0 : Ex F cx (.code c10k0 :: k) ⟨mk 100 l, rows, low⟩ r ↔ bnd (Ret F 22 [] rows) fun q0 => Ex F cx k ⟨mk 100 [(6, q0.1), (99, q0.1)], q0.2.1, (lowO low q0.2.2)⟩ r := reg (keep := []) (ops := c10r0) rfl (by kernel_rfl) (by kernel_rfl)
def c10s1 : ICode := (.seq c10k0 .ret)
@[simp] theorem uc10s1 : Ex F cx (.code c10s1 :: k) s r ↔ Ex F cx (.code (.seq c10k0 .ret) :: k) s r := Iff.rfl
def c10r3 : List Seg := [
  .one ⟨some 26, .mv (.t 9), none⟩,
  .one ⟨some 27, .bin .add (.t 26) (.c (.int .i64 1)), none⟩,
  .one ⟨some 9, .mv (.t 27), none⟩]
def c10k3 : ICode := .kill (dead 100 [0, 2, 7, 8, 9]) (.ops c10r3)
@[simp] theorem uc10k3 : Ex F cx (.code c10k3 :: k) ⟨mk 100 l, rows, low⟩ r ↔ bnd (evP rows (.bin .add (.c (lk l 9)) (.c (.int .i64 1)))) fun v0 => Ex F cx k ⟨mk 100 [(9, v0), (27, v0), (26, lk l 9), (0, lk l 0), (2, lk l 2), (7, lk l 7), (8, lk l 8), (9, lk l 9)], rows, low⟩ r := reg (keep := [0, 2, 7, 8, 9]) (ops := c10r3) rfl (by kernel_rfl) (by kernel_rfl)
def c10r5 : List Seg := [
  .one ⟨some 81, .mv (.t 14), none⟩,
  .one ⟨some 82, .bin .add (.t 81) (.c (.int .i64 1)), none⟩,
  .one ⟨some 14, .mv (.t 82), none⟩]
def c10k5 : ICode := .kill (dead 100 [0, 2, 7, 8, 9, 14]) (.ops c10r5)
@[simp] theorem uc10k5 : Ex F cx (.code c10k5 :: k) ⟨mk 100 l, rows, low⟩ r ↔ bnd (evP rows (.bin .add (.c (lk l 14)) (.c (.int .i64 1)))) fun v0 => Ex F cx k ⟨mk 100 [(14, v0), (82, v0), (81, lk l 14), (0, lk l 0), (2, lk l 2), (7, lk l 7), (8, lk l 8), (9, lk l 9), (14, lk l 14)], rows, low⟩ r := reg (keep := [0, 2, 7, 8, 9, 14]) (ops := c10r5) rfl (by kernel_rfl) (by kernel_rfl)
def c10r6 : List Seg := [
  .one ⟨some 95, .mv (.t 8), none⟩,
  .one ⟨some 96, .mv (.t 15), none⟩,
  .one ⟨some 97, .mkslice 1 [.int .i64 0] [(0, 1, (.t 96))], none⟩,
  .one ⟨some 98, .app 1 8 (.t 95) (.t 97), none⟩,
  .one ⟨some 8, .mv (.t 98), none⟩]
def c10k6 : ICode := .kill (dead 100 [0, 2, 7, 8, 9, 14, 15]) (.ops c10r6)
@[simp] theorem uc10k6 : Ex F cx (.code c10k6 :: k) ⟨mk 100 l, rows, low⟩ r ↔ bnd (evE rows low (.mkslice 1 [.int .i64 0] [(0, 1, (.c (lk l 15)))])) fun q0 => bnd (evE q0.2.1 q0.2.2 (.app 1 8 (.c (lk l 8)) (.c q0.1))) fun q1 => Ex F cx k ⟨mk 100 [(8, q1.1), (98, q1.1), (97, q0.1), (96, lk l 15), (95, lk l 8), (0, lk l 0), (2, lk l 2), (7, lk l 7), (8, lk l 8), (9, lk l 9), (14, lk l 14), (15, lk l 15)], q1.2.1, q1.2.2⟩ r := reg (keep := [0, 2, 7, 8, 9, 14, 15]) (ops := c10r6) rfl (by kernel_rfl) (by kernel_rfl)
def c10r7 : List Seg := [
  .one ⟨some 88, .mv (.t 2), none⟩,
  .one ⟨some 89, .mv (.t 14), none⟩,
  .one ⟨some 90, .idxS 1 (.t 88) (.t 89), none⟩,
  .one ⟨some 91, .load1 (.t 90), none⟩,
  .one ⟨some 92, .conv .u64 (.t 91), none⟩,
  .one ⟨some 93, .bin .rem (.t 92) (.c (.int .u64 4)), none⟩,
  .one ⟨some 94, .conv .i64 (.t 93), none⟩,
  .one ⟨some 15, .mv (.t 94), none⟩]
def c10k7 : ICode := .kill (dead 100 [0, 2, 7, 8, 9, 14]) (.ops c10r7)
@[simp] theorem uc10k7 : Ex F cx (.code c10k7 :: k) ⟨mk 100 l, rows, low⟩ r ↔ bnd (evP rows (.idxS 1 (.c (lk l 2)) (.c (lk l 14)))) fun v0 => bnd (evP rows (.load1 (.c v0))) fun v1 => bnd (evP rows (.conv .u64 (.c v1))) fun v2 => bnd (evP rows (.bin .rem (.c v2) (.c (.int .u64 4)))) fun v3 => bnd (evP rows (.conv .i64 (.c v3))) fun v4 => Ex F cx k ⟨mk 100 [(15, v4), (94, v4), (93, v3), (92, v2), (91, v1), (90, v0), (89, lk l 14), (88, lk l 2), (0, lk l 0), (2, lk l 2), (7, lk l 7), (8, lk l 8), (9, lk l 9), (14, lk l 14)], rows, low⟩ r := reg (keep := [0, 2, 7, 8, 9, 14]) (ops := c10r7) rfl (by kernel_rfl) (by kernel_rfl)
def c10s8 : ICode := (.cond (.t 87) c10k7 .skip)
@[simp] theorem uc10s8 : Ex F cx (.code c10s8 :: k) s r ↔ Ex F cx (.code (.cond (.t 87) c10k7 .skip) :: k) s r := Iff.rfl
def c10r9 : List Seg := [
  .one ⟨some 84, .mv (.t 14), none⟩,
  .one ⟨some 85, .mv (.t 2), none⟩,
  .one ⟨some 86, .len 0 (.t 85), none⟩,
  .one ⟨some 87, .bin .lss (.t 84) (.t 86), none⟩]
def c10k9 : ICode := .kill (dead 100 [0, 2, 7, 8, 9, 14, 15]) (.ops c10r9)
@[simp] theorem uc10k9 : Ex F cx (.code c10k9 :: k) ⟨mk 100 l, rows, low⟩ r ↔ bnd (evP rows (.len 0 (.c (lk l 2)))) fun v0 => bnd (evP rows (.bin .lss (.c (lk l 14)) (.c v0))) fun v1 => Ex F cx k ⟨mk 100 [(87, v1), (86, v0), (85, lk l 2), (84, lk l 14), (0, lk l 0), (2, lk l 2), (7, lk l 7), (8, lk l 8), (9, lk l 9), (14, lk l 14), (15, lk l 15)], rows, low⟩ r := reg (keep := [0, 2, 7, 8, 9, 14, 15]) (ops := c10r9) rfl (by kernel_rfl) (by kernel_rfl)
def c10s10 : ICode := (.seq (.seq c10k9 c10s8) c10k6)
@[simp] theorem uc10s10 : Ex F cx (.code c10s10 :: k) s r ↔ Ex F cx (.code (.seq (.seq c10k9 c10s8) c10k6) :: k) s r := Iff.rfl
def c10r11 : List Seg := [
  .one ⟨some 83, .mv (.t 14), none⟩,
  .one ⟨some 15, .mv (.t 83), none⟩]
def c10k11 : ICode := .kill (dead 100 [0, 2, 7, 8, 9, 14]) (.ops c10r11)
@[simp] theorem uc10k11 : Ex F cx (.code c10k11 :: k) ⟨mk 100 l, rows, low⟩ r ↔ Ex F cx k ⟨mk 100 [(15, lk l 14), (83, lk l 14), (0, lk l 0), (2, lk l 2), (7, lk l 7), (8, lk l 8), (9, lk l 9), (14, lk l 14)], rows, low⟩ r := reg (keep := [0, 2, 7, 8, 9, 14]) (ops := c10r11) rfl (by kernel_rfl) (by kernel_rfl)
def c10s12 : ICode := (.seq (.block 3 (.seq c10k11 c10s10)) c10k5)
@[simp] theorem uc10s12 : Ex F cx (.code c10s12 :: k) s r ↔ Ex F cx (.code (.seq (.block 3 (.seq c10k11 c10s10)) c10k5) :: k) s r := Iff.rfl
def c10s13 : ICode := (.cond (.t 80) .skip (.exit 2))
@[simp] theorem uc10s13 : Ex F cx (.code c10s13 :: k) s r ↔ Ex F cx (.code (.cond (.t 80) .skip (.exit 2)) :: k) s r := Iff.rfl
def c10r14 : List Seg := [
  .one ⟨some 78, .mv (.t 14), none⟩,
  .one ⟨some 79, .mv (.t 0), none⟩,
  .one ⟨some 80, .bin .lss (.t 78) (.t 79), none⟩]
def c10k14 : ICode := .kill (dead 100 [0, 2, 7, 8, 9, 14]) (.ops c10r14)
@[simp] theorem uc10k14 : Ex F cx (.code c10k14 :: k) ⟨mk 100 l, rows, low⟩ r ↔ bnd (evP rows (.bin .lss (.c (lk l 14)) (.c (lk l 0)))) fun v0 => Ex F cx k ⟨mk 100 [(80, v0), (79, lk l 0), (78, lk l 14), (0, lk l 0), (2, lk l 2), (7, lk l 7), (8, lk l 8), (9, lk l 9), (14, lk l 14)], rows, low⟩ r := reg (keep := [0, 2, 7, 8, 9, 14]) (ops := c10r14) rfl (by kernel_rfl) (by kernel_rfl)
def c10l4 : ICode := (.seq (.seq c10k14 c10s13) c10s12)
def c10s15 : ICode := (.block 2 (.loop c10l4))
@[simp] theorem uc10s15 : Ex F cx (.code c10s15 :: k) s r ↔ Ex F cx (.code (.block 2 (.loop c10l4)) :: k) s r := Iff.rfl
def c10r16 : List Seg := [
  .one ⟨some 14, .mv (.c (.int .i64 0)), none⟩]
def c10k16 : ICode := .kill (dead 100 [0, 2, 7, 8, 9]) (.ops c10r16)
@[simp] theorem uc10k16 : Ex F cx (.code c10k16 :: k) ⟨mk 100 l, rows, low⟩ r ↔ Ex F cx k ⟨mk 100 [(14, (.int .i64 0)), (0, lk l 0), (2, lk l 2), (7, lk l 7), (8, lk l 8), (9, lk l 9)], rows, low⟩ r := reg (keep := [0, 2, 7, 8, 9]) (ops := c10r16) rfl (by kernel_rfl) (by kernel_rfl)
def c10s17 : ICode := (.seq c10k16 c10s15)
@[simp] theorem uc10s17 : Ex F cx (.code c10s17 :: k) s r ↔ Ex F cx (.code (.seq c10k16 c10s15) :: k) s r := Iff.rfl
def c10r18 : List Seg := [
  .one ⟨some 8, .mv (.c .nilslice), none⟩]
def c10k18 : ICode := .kill (dead 100 [0, 2, 7, 9]) (.ops c10r18)
@[simp] theorem uc10k18 : Ex F cx (.code c10k18 :: k) ⟨mk 100 l, rows, low⟩ r ↔ Ex F cx k ⟨mk 100 [(8, .nilslice), (0, lk l 0), (2, lk l 2), (7, lk l 7), (9, lk l 9)], rows, low⟩ r := reg (keep := [0, 2, 7, 9]) (ops := c10r18) rfl (by kernel_rfl) (by kernel_rfl)
def c10s19 : ICode := (.seq c10k18 c10s17)
@[simp] theorem uc10s19 : Ex F cx (.code c10s19 :: k) s r ↔ Ex F cx (.code (.seq c10k18 c10s17) :: k) s r := Iff.rfl
def c10r20 : List Seg := [
  .one ⟨some 65, .mv (.t 8), none⟩,
  .one ⟨some 66, .mv (.t 2), none⟩,
  .one ⟨some 67, .idxS 1 (.t 66) (.c (.int .i64 0)), none⟩,
  .one ⟨some 68, .load1 (.t 67), none⟩,
  .one ⟨some 69, .conv .u64 (.t 68), none⟩,
  .one ⟨some 70, .mv (.t 0), none⟩,
  .one ⟨some 71, .conv .u64 (.t 70), none⟩,
  .one ⟨some 72, .bin .rem (.t 69) (.t 71), none⟩,
  .one ⟨some 73, .conv .i64 (.t 72), none⟩,
  .one ⟨some 74, .idxS 1 (.t 65) (.t 73), none⟩,
  .one ⟨some 75, .load1 (.t 74), none⟩,
  .one ⟨some 76, .bin .add (.t 75) (.c (.int .i64 1)), none⟩,
  .one ⟨some 77, .idxS 1 (.t 65) (.t 73), none⟩,
  .one ⟨none, .store1 (.t 77) (.t 76), none⟩]
def c10k20 : ICode := .kill (dead 100 [0, 2, 7, 8, 9]) (.ops c10r20)
@[simp] theorem uc10k20 : Ex F cx (.code c10k20 :: k) ⟨mk 100 l, rows, low⟩ r ↔ bnd (evP rows (.idxS 1 (.c (lk l 2)) (.c (.int .i64 0)))) fun v0 => bnd (evP rows (.load1 (.c v0))) fun v1 => bnd (evP rows (.conv .u64 (.c v1))) fun v2 => bnd (evP rows (.conv .u64 (.c (lk l 0)))) fun v3 => bnd (evP rows (.bin .rem (.c v2) (.c v3))) fun v4 => bnd (evP rows (.conv .i64 (.c v4))) fun v5 => bnd (evP rows (.idxS 1 (.c (lk l 8)) (.c v5))) fun v6 => bnd (evP rows (.load1 (.c v6))) fun v7 => bnd (evP rows (.bin .add (.c v7) (.c (.int .i64 1)))) fun v8 => bnd (evP rows (.idxS 1 (.c (lk l 8)) (.c v5))) fun v9 => bnd (evE rows low (.store1 (.c v9) (.c v8))) fun q10 => Ex F cx k ⟨mk 100 [(77, v9), (76, v8), (75, v7), (74, v6), (73, v5), (72, v4), (71, v3), (70, lk l 0), (69, v2), (68, v1), (67, v0), (66, lk l 2), (65, lk l 8), (0, lk l 0), (2, lk l 2), (7, lk l 7), (8, lk l 8), (9, lk l 9)], q10.2.1, q10.2.2⟩ r := reg (keep := [0, 2, 7, 8, 9]) (ops := c10r20) rfl (by kernel_rfl) (by kernel_rfl)
def c10s21 : ICode := (.cond (.t 64) c10k20 .skip)
@[simp] theorem uc10s21 : Ex F cx (.code c10s21 :: k) s r ↔ Ex F cx (.code (.cond (.t 64) c10k20 .skip) :: k) s r := Iff.rfl
def c10r22 : List Seg := [
  .one ⟨some 62, .mv (.t 2), none⟩,
  .one ⟨some 63, .len 0 (.t 62), none⟩,
  .one ⟨some 64, .bin .gtr (.t 63) (.c (.int .i64 0)), none⟩]
def c10k22 : ICode := .kill (dead 100 [0, 2, 7, 8, 9]) (.ops c10r22)
@[simp] theorem uc10k22 : Ex F cx (.code c10k22 :: k) ⟨mk 100 l, rows, low⟩ r ↔ bnd (evP rows (.len 0 (.c (lk l 2)))) fun v0 => bnd (evP rows (.bin .gtr (.c v0) (.c (.int .i64 0)))) fun v1 => Ex F cx k ⟨mk 100 [(64, v1), (63, v0), (62, lk l 2), (0, lk l 0), (2, lk l 2), (7, lk l 7), (8, lk l 8), (9, lk l 9)], rows, low⟩ r := reg (keep := [0, 2, 7, 8, 9]) (ops := c10r22) rfl (by kernel_rfl) (by kernel_rfl)
def c10s23 : ICode := (.seq (.seq c10k22 c10s21) (.exit 1))
@[simp] theorem uc10s23 : Ex F cx (.code c10s23 :: k) s r ↔ Ex F cx (.code (.seq (.seq c10k22 c10s21) (.exit 1)) :: k) s r := Iff.rfl
def c10r24 : List Seg := [
  .one ⟨some 61, .mv (.t 12), none⟩,
  .one ⟨some 8, .mv (.t 61), none⟩]
def c10k24 : ICode := .kill (dead 100 [0, 2, 7, 9, 12]) (.ops c10r24)
@[simp] theorem uc10k24 : Ex F cx (.code c10k24 :: k) ⟨mk 100 l, rows, low⟩ r ↔ Ex F cx k ⟨mk 100 [(8, lk l 12), (61, lk l 12), (0, lk l 0), (2, lk l 2), (7, lk l 7), (9, lk l 9), (12, lk l 12)], rows, low⟩ r := reg (keep := [0, 2, 7, 9, 12]) (ops := c10r24) rfl (by kernel_rfl) (by kernel_rfl)
def c10s25 : ICode := (.seq c10k24 c10s23)
@[simp] theorem uc10s25 : Ex F cx (.code c10s25 :: k) s r ↔ Ex F cx (.code (.seq c10k24 c10s23) :: k) s r := Iff.rfl
def c10r26 : List Seg := [
  .one ⟨some 6, .mv (.c (.bool false)), none⟩]
def c10k26 : ICode := .kill (dead 100 []) (.ops c10r26)
@[simp] theorem uc10k26 : Ex F cx (.code c10k26 :: k) ⟨mk 100 l, rows, low⟩ r ↔ Ex F cx k ⟨mk 100 [(6, (.bool false))], rows, low⟩ r := reg (keep := []) (ops := c10r26) rfl (by kernel_rfl) (by kernel_rfl)
def c10s27 : ICode := (.cond (.t 60) (.seq c10k26 .ret) .skip)
@[simp] theorem uc10s27 : Ex F cx (.code c10s27 :: k) s r ↔ Ex F cx (.code (.cond (.t 60) (.seq c10k26 .ret) .skip) :: k) s r := Iff.rfl
def c10r28 : List Seg := [
  .one ⟨some 53, .mv (.t 13), none⟩,
  .one ⟨some 54, .bin .neq (.t 53) (.c (.int .i64 0)), none⟩,
  .one ⟨some 55, .mv (.t 54), none⟩,
  .one ⟨some 56, .mv (.t 12), some (55, false)⟩,
  .one ⟨some 57, .len 0 (.t 56), some (55, false)⟩,
  .one ⟨some 58, .mv (.t 0), some (55, false)⟩,
  .one ⟨some 59, .bin .neq (.t 57) (.t 58), some (55, false)⟩,
  .one ⟨some 60, .pick (.t 55) (.c (.bool true)) (.t 59), none⟩]
def c10k28 : ICode := .kill (dead 100 [0, 2, 7, 9, 12, 13]) (.ops c10r28)
@[simp] theorem uc10k28 : Ex F cx (.code c10k28 :: k) ⟨mk 100 l, rows, low⟩ r ↔ bnd (evP rows (.bin .neq (.c (lk l 13)) (.c (.int .i64 0)))) fun v0 => bnd (gv v0 false (evP rows (.mv (.c (lk l 12))))) fun v1 => bnd (gv v0 false (evP rows (.len 0 (.c v1)))) fun v2 => bnd (gv v0 false (evP rows (.mv (.c (lk l 0))))) fun v3 => bnd (gv v0 false (evP rows (.bin .neq (.c v2) (.c v3)))) fun v4 => bnd (evP rows (.pick (.c v0) (.c (.bool true)) (.c v4))) fun v5 => Ex F cx k ⟨mk 100 [(60, v5), (59, v4), (58, v3), (57, v2), (56, v1), (55, v0), (54, v0), (53, lk l 13), (0, lk l 0), (2, lk l 2), (7, lk l 7), (9, lk l 9), (12, lk l 12), (13, lk l 13)], rows, low⟩ r := reg (keep := [0, 2, 7, 9, 12, 13]) (ops := c10r28) rfl (by kernel_rfl) (by kernel_rfl)
def c10s29 : ICode := (.seq (.seq c10k28 c10s27) c10s25)
@[simp] theorem uc10s29 : Ex F cx (.code c10s29 :: k) s r ↔ Ex F cx (.code (.seq (.seq c10k28 c10s27) c10s25) :: k) s r := Iff.rfl
def c10r30 : List Seg := [
  .one ⟨some 48, .mv (.t 0), none⟩,
  .one ⟨some 49, .mv (.t 7), none⟩,
  .one ⟨some 50, .call (.c (.func 42 [])) [(.t 48), (.t 49)], none⟩,
  .one ⟨some 47, .mv (.t 50), none⟩,
  .one ⟨some 51, .ext (.t 47) 0, none⟩,
  .one ⟨some 52, .ext (.t 47) 1, none⟩,
  .one ⟨some 12, .mv (.t 51), none⟩,
  .one ⟨some 13, .mv (.t 52), none⟩]
def c10k30 : ICode := .kill (dead 100 [0, 2, 7, 9]) (.ops c10r30)
@[simp] theorem uc10k30 : Ex F cx (.code c10k30 :: k) ⟨mk 100 l, rows, low⟩ r ↔ bnd (Ret F 42 [lk l 0, lk l 7] rows) fun q0 => bnd (evP q0.2.1 (.ext (.c q0.1) 0)) fun v1 => bnd (evP q0.2.1 (.ext (.c q0.1) 1)) fun v2 => Ex F cx k ⟨mk 100 [(13, v2), (12, v1), (52, v2), (51, v1), (47, q0.1), (50, q0.1), (49, lk l 7), (48, lk l 0), (0, lk l 0), (2, lk l 2), (7, lk l 7), (9, lk l 9)], q0.2.1, (lowO low q0.2.2)⟩ r := reg (keep := [0, 2, 7, 9]) (ops := c10r30) rfl (by kernel_rfl) (by kernel_rfl)
def c10s31 : ICode := (.cond (.t 46) (.seq c10k30 c10s29) .skip)
@[simp] theorem uc10s31 : Ex F cx (.code c10s31 :: k) s r ↔ Ex F cx (.code (.cond (.t 46) (.seq c10k30 c10s29) .skip) :: k) s r := Iff.rfl
def c10r32 : List Seg := [
  .one ⟨some 45, .mv (.t 9), none⟩,
  .one ⟨some 46, .bin .eql (.t 45) (.c (.int .i64 1)), none⟩]
def c10k32 : ICode := .kill (dead 100 [0, 2, 7, 9]) (.ops c10r32)
@[simp] theorem uc10k32 : Ex F cx (.code c10k32 :: k) ⟨mk 100 l, rows, low⟩ r ↔ bnd (evP rows (.bin .eql (.c (lk l 9)) (.c (.int .i64 1)))) fun v0 => Ex F cx k ⟨mk 100 [(46, v0), (45, lk l 9), (0, lk l 0), (2, lk l 2), (7, lk l 7), (9, lk l 9)], rows, low⟩ r := reg (keep := [0, 2, 7, 9]) (ops := c10r32) rfl (by kernel_rfl) (by kernel_rfl)
def c10s33 : ICode := (.seq (.seq c10k32 c10s31) c10s19)
@[simp] theorem uc10s33 : Ex F cx (.code c10s33 :: k) s r ↔ Ex F cx (.code (.seq (.seq c10k32 c10s31) c10s19) :: k) s r := Iff.rfl
def c10r34 : List Seg := [
  .one ⟨some 6, .mv (.c (.bool false)), none⟩]
def c10k34 : ICode := .kill (dead 100 []) (.ops c10r34)
@[simp] theorem uc10k34 : Ex F cx (.code c10k34 :: k) ⟨mk 100 l, rows, low⟩ r ↔ Ex F cx k ⟨mk 100 [(6, (.bool false))], rows, low⟩ r := reg (keep := []) (ops := c10r34) rfl (by kernel_rfl) (by kernel_rfl)
def c10s35 : ICode := (.cond (.t 44) (.seq c10k34 .ret) .skip)
@[simp] theorem uc10s35 : Ex F cx (.code c10s35 :: k) s r ↔ Ex F cx (.code (.cond (.t 44) (.seq c10k34 .ret) .skip) :: k) s r := Iff.rfl
def c10r36 : List Seg := [
  .one ⟨some 35, .mv (.t 11), none⟩,
  .one ⟨some 36, .bin .neq (.t 35) (.c (.int .i64 0)), none⟩,
  .one ⟨some 37, .mv (.t 36), none⟩,
  .one ⟨some 38, .mv (.t 10), some (37, false)⟩,
  .one ⟨some 39, .mv (.t 0), some (37, false)⟩,
  .one ⟨some 40, .mv (.t 7), some (37, false)⟩,
  .one ⟨some 41, .mv (.t 8), some (37, false)⟩,
  .one ⟨some 42, .call (.c (.func 41 [])) [(.t 39), (.t 40), (.t 41)], some (37, false)⟩,
  .one ⟨some 43, .eqv true .bool (.t 38) (.t 42), some (37, false)⟩,
  .one ⟨some 44, .pick (.t 37) (.c (.bool true)) (.t 43), none⟩]
def c10k36 : ICode := .kill (dead 100 [0, 2, 7, 8, 9, 10, 11]) (.ops c10r36)
@[simp] theorem uc10k36 : Ex F cx (.code c10k36 :: k) ⟨mk 100 l, rows, low⟩ r ↔ bnd (evP rows (.bin .neq (.c (lk l 11)) (.c (.int .i64 0)))) fun v0 => bnd (gv v0 false (evP rows (.mv (.c (lk l 10))))) fun v1 => bnd (gv v0 false (evP rows (.mv (.c (lk l 0))))) fun v2 => bnd (gv v0 false (evP rows (.mv (.c (lk l 7))))) fun v3 => bnd (gv v0 false (evP rows (.mv (.c (lk l 8))))) fun v4 => gcall F v0 false rows low [v2, v3, v4] (.func 41 []) fun v5 R5 L5 => bnd (gv v0 false (evP R5 (.eqv true .bool (.c v1) (.c v5)))) fun v6 => bnd (evP R5 (.pick (.c v0) (.c (.bool true)) (.c v6))) fun v7 => Ex F cx k ⟨mk 100 [(44, v7), (43, v6), (42, v5), (41, v4), (40, v3), (39, v2), (38, v1), (37, v0), (36, v0), (35, lk l 11), (0, lk l 0), (2, lk l 2), (7, lk l 7), (8, lk l 8), (9, lk l 9), (10, lk l 10), (11, lk l 11)], R5, L5⟩ r := reg (keep := [0, 2, 7, 8, 9, 10, 11]) (ops := c10r36) rfl (by kernel_rfl) (by kernel_rfl)
def c10s37 : ICode := (.seq (.seq c10k36 c10s35) c10s33)
@[simp] theorem uc10s37 : Ex F cx (.code c10s37 :: k) s r ↔ Ex F cx (.code (.seq (.seq c10k36 c10s35) c10s33) :: k) s r := Iff.rfl
def c10r38 : List Seg := [
  .one ⟨some 29, .mv (.t 0), none⟩,
  .one ⟨some 30, .mv (.t 7), none⟩,
  .one ⟨some 31, .mv (.t 8), none⟩,
  .one ⟨some 32, .call (.c (.func 40 [])) [(.t 29), (.t 30), (.t 31)], none⟩,
  .one ⟨some 28, .mv (.t 32), none⟩,
  .one ⟨some 33, .ext (.t 28) 0, none⟩,
  .one ⟨some 34, .ext (.t 28) 1, none⟩,
  .one ⟨some 10, .mv (.t 33), none⟩,
  .one ⟨some 11, .mv (.t 34), none⟩]
def c10k38 : ICode := .kill (dead 100 [0, 2, 7, 8, 9]) (.ops c10r38)
@[simp] theorem uc10k38 : Ex F cx (.code c10k38 :: k) ⟨mk 100 l, rows, low⟩ r ↔ bnd (Ret F 40 [lk l 0, lk l 7, lk l 8] rows) fun q0 => bnd (evP q0.2.1 (.ext (.c q0.1) 0)) fun v1 => bnd (evP q0.2.1 (.ext (.c q0.1) 1)) fun v2 => Ex F cx k ⟨mk 100 [(11, v2), (10, v1), (34, v2), (33, v1), (28, q0.1), (32, q0.1), (31, lk l 8), (30, lk l 7), (29, lk l 0), (0, lk l 0), (2, lk l 2), (7, lk l 7), (8, lk l 8), (9, lk l 9)], q0.2.1, (lowO low q0.2.2)⟩ r := reg (keep := [0, 2, 7, 8, 9]) (ops := c10r38) rfl (by kernel_rfl) (by kernel_rfl)
def c10s39 : ICode := (.seq (.block 1 (.seq c10k38 c10s37)) c10k3)
@[simp] theorem uc10s39 : Ex F cx (.code c10s39 :: k) s r ↔ Ex F cx (.code (.seq (.block 1 (.seq c10k38 c10s37)) c10k3) :: k) s r := Iff.rfl
def c10s40 : ICode := (.cond (.t 25) .skip (.exit 0))
@[simp] theorem uc10s40 : Ex F cx (.code c10s40 :: k) s r ↔ Ex F cx (.code (.cond (.t 25) .skip (.exit 0)) :: k) s r := Iff.rfl
def c10r41 : List Seg := [
  .one ⟨some 24, .mv (.t 9), none⟩,
  .one ⟨some 25, .bin .lss (.t 24) (.c (.int .i64 3)), none⟩]
def c10k41 : ICode := .kill (dead 100 [0, 2, 7, 8, 9]) (.ops c10r41)
@[simp] theorem uc10k41 : Ex F cx (.code c10k41 :: k) ⟨mk 100 l, rows, low⟩ r ↔ bnd (evP rows (.bin .lss (.c (lk l 9)) (.c (.int .i64 3)))) fun v0 => Ex F cx k ⟨mk 100 [(25, v0), (24, lk l 9), (0, lk l 0), (2, lk l 2), (7, lk l 7), (8, lk l 8), (9, lk l 9)], rows, low⟩ r := reg (keep := [0, 2, 7, 8, 9]) (ops := c10r41) rfl (by kernel_rfl) (by kernel_rfl)
def c10l2 : ICode := (.seq (.seq c10k41 c10s40) c10s39)
def c10s42 : ICode := (.block 0 (.loop c10l2))
@[simp] theorem uc10s42 : Ex F cx (.code c10s42 :: k) s r ↔ Ex F cx (.code (.block 0 (.loop c10l2)) :: k) s r := Iff.rfl
def c10r43 : List Seg := [
  .one ⟨some 9, .mv (.c (.int .i64 0)), none⟩]
def c10k43 : ICode := .kill (dead 100 [0, 2, 7, 8]) (.ops c10r43)
@[simp] theorem uc10k43 : Ex F cx (.code c10k43 :: k) ⟨mk 100 l, rows, low⟩ r ↔ Ex F cx k ⟨mk 100 [(9, (.int .i64 0)), (0, lk l 0), (2, lk l 2), (7, lk l 7), (8, lk l 8)], rows, low⟩ r := reg (keep := [0, 2, 7, 8]) (ops := c10r43) rfl (by kernel_rfl) (by kernel_rfl)
def c10s44 : ICode := (.seq (.seq c10k43 c10s42) c10s1)
@[simp] theorem uc10s44 : Ex F cx (.code c10s44 :: k) s r ↔ Ex F cx (.code (.seq (.seq c10k43 c10s42) c10s1) :: k) s r := Iff.rfl
def c10r45 : List Seg := [
  .one ⟨some 22, .mv (.t 2), none⟩,
  .one ⟨some 23, .call (.c (.func 26 [])) [(.t 22), (.c (.int .i64 11))], none⟩,
  .one ⟨some 8, .mv (.t 23), none⟩]
def c10k45 : ICode := .kill (dead 100 [0, 2, 7]) (.ops c10r45)
@[simp] theorem uc10k45 : Ex F cx (.code c10k45 :: k) ⟨mk 100 l, rows, low⟩ r ↔ bnd (Ret F 26 [lk l 2, (.int .i64 11)] rows) fun q0 => Ex F cx k ⟨mk 100 [(8, q0.1), (23, q0.1), (22, lk l 2), (0, lk l 0), (2, lk l 2), (7, lk l 7)], q0.2.1, (lowO low q0.2.2)⟩ r := reg (keep := [0, 2, 7]) (ops := c10r45) rfl (by kernel_rfl) (by kernel_rfl)
def c10s46 : ICode := (.seq c10k45 c10s44)
@[simp] theorem uc10s46 : Ex F cx (.code c10s46 :: k) s r ↔ Ex F cx (.code (.seq c10k45 c10s44) :: k) s r := Iff.rfl
def c10r47 : List Seg := [
  .one ⟨some 17, .mv (.t 0), none⟩,
  .one ⟨some 18, .mv (.t 1), none⟩,
  .one ⟨some 19, .call (.c (.func 39 [])) [(.t 17), (.t 18)], none⟩,
  .one ⟨some 16, .mv (.t 19), none⟩,
  .one ⟨some 20, .ext (.t 16) 0, none⟩,
  .one ⟨some 21, .ext (.t 16) 1, none⟩,
  .one ⟨some 0, .mv (.t 20), none⟩,
  .one ⟨some 7, .mv (.t 21), none⟩]
def c10k47 : ICode := .kill (dead 100 [0, 1, 2]) (.ops c10r47)
@[simp] theorem uc10k47 : Ex F cx (.code c10k47 :: k) ⟨mk 100 l, rows, low⟩ r ↔ bnd (Ret F 39 [lk l 0, lk l 1] rows) fun q0 => bnd (evP q0.2.1 (.ext (.c q0.1) 0)) fun v1 => bnd (evP q0.2.1 (.ext (.c q0.1) 1)) fun v2 => Ex F cx k ⟨mk 100 [(7, v2), (0, v1), (21, v2), (20, v1), (16, q0.1), (19, q0.1), (18, lk l 1), (17, lk l 0), (0, lk l 0), (1, lk l 1), (2, lk l 2)], q0.2.1, (lowO low q0.2.2)⟩ r := reg (keep := [0, 1, 2]) (ops := c10r47) rfl (by kernel_rfl) (by kernel_rfl)
def c10s48 : ICode := (.seq c10k47 c10s46)
@[simp] theorem uc10s48 : Ex F cx (.code c10s48 :: k) s r ↔ Ex F cx (.code (.seq c10k47 c10s46) :: k) s r := Iff.rfl
def c10r49 : List Seg := [
  .one ⟨some 6, .mv (.c (.bool false)), none⟩]
def c10k49 : ICode := .kill (dead 100 [0, 1, 2]) (.ops c10r49)
@[simp] theorem uc10k49 : Ex F cx (.code c10k49 :: k) ⟨mk 100 l, rows, low⟩ r ↔ Ex F cx k ⟨mk 100 [(6, (.bool false)), (0, lk l 0), (1, lk l 1), (2, lk l 2)], rows, low⟩ r := reg (keep := [0, 1, 2]) (ops := c10r49) rfl (by kernel_rfl) (by kernel_rfl)
def Jc10s12 (F : Nat → Option IFn) (cx : Ctx) (x0 x2 x7 x8 x9 x14 : AV) (rows : List Row) (low : Nat) (r : AV × List Row × Nat → Prop) : Prop := Ex F cx (.code c10s12 :: .inLoop c10l4 :: .inBlock 2 :: .inBlock 1 :: .code c10k3 :: .inLoop c10l2 :: .inBlock 0 :: .code c10s1 :: []) ⟨mk 100 [(0, x0), (2, x2), (7, x7), (8, x8), (9, x9), (14, x14)], rows, low⟩ r
theorem jc10s12 : Ex F cx (.code c10s12 :: .inLoop c10l4 :: .inBlock 2 :: .inBlock 1 :: .code c10k3 :: .inLoop c10l2 :: .inBlock 0 :: .code c10s1 :: []) ⟨mk 100 l, rows, low⟩ r ↔ Jc10s12 F cx (lk l 0) (lk l 2) (lk l 7) (lk l 8) (lk l 9) (lk l 14) rows low r := Ex_canon (keep := [0, 2, 7, 8, 9, 14]) (by kernel_rfl)
def Lc10l4 (F : Nat → Option IFn) (cx : Ctx) (x0 x2 x7 x8 x9 x14 : AV) (rows : List Row) (low : Nat) (r : AV × List Row × Nat → Prop) : Prop := Ex F cx (.code c10l4 :: .inLoop c10l4 :: .inBlock 2 :: .inBlock 1 :: .code c10k3 :: .inLoop c10l2 :: .inBlock 0 :: .code c10s1 :: []) ⟨mk 100 [(0, x0), (2, x2), (7, x7), (8, x8), (9, x9), (14, x14)], rows, low⟩ r
@[simp] theorem nc10l4 : Ex F cx (.inLoop c10l4 :: .inBlock 2 :: .inBlock 1 :: .code c10k3 :: .inLoop c10l2 :: .inBlock 0 :: .code c10s1 :: []) ⟨mk 100 l, rows, low⟩ r ↔ Lc10l4 F cx (lk l 0) (lk l 2) (lk l 7) (lk l 8) (lk l 9) (lk l 14) rows low r := loopN (keep := [0, 2, 7, 8, 9, 14]) (by kernel_rfl)
@[simp] theorem ec10l4 : Ex F cx (.code (.loop c10l4) :: .inBlock 2 :: .inBlock 1 :: .code c10k3 :: .inLoop c10l2 :: .inBlock 0 :: .code c10s1 :: []) ⟨mk 100 l, rows, low⟩ r ↔ Lc10l4 F cx (lk l 0) (lk l 2) (lk l 7) (lk l 8) (lk l 9) (lk l 14) rows low r := loopE (keep := [0, 2, 7, 8, 9, 14]) (by kernel_rfl)
@[simp] theorem uc10l4 : Ex F cx (.code c10l4 :: k) s r ↔ Ex F cx (.code (.seq (.seq c10k14 c10s13) c10s12) :: k) s r := Iff.rfl
def Jc10s19 (F : Nat → Option IFn) (cx : Ctx) (x0 x2 x7 x9 : AV) (rows : List Row) (low : Nat) (r : AV × List Row × Nat → Prop) : Prop := Ex F cx (.code c10s19 :: .inBlock 1 :: .code c10k3 :: .inLoop c10l2 :: .inBlock 0 :: .code c10s1 :: []) ⟨mk 100 [(0, x0), (2, x2), (7, x7), (9, x9)], rows, low⟩ r
theorem jc10s19 : Ex F cx (.code c10s19 :: .inBlock 1 :: .code c10k3 :: .inLoop c10l2 :: .inBlock 0 :: .code c10s1 :: []) ⟨mk 100 l, rows, low⟩ r ↔ Jc10s19 F cx (lk l 0) (lk l 2) (lk l 7) (lk l 9) rows low r := Ex_canon (keep := [0, 2, 7, 9]) (by kernel_rfl)
def Jc10s25 (F : Nat → Option IFn) (cx : Ctx) (x0 x2 x7 x9 x12 : AV) (rows : List Row) (low : Nat) (r : AV × List Row × Nat → Prop) : Prop := Ex F cx (.code c10s25 :: .code c10s19 :: .inBlock 1 :: .code c10k3 :: .inLoop c10l2 :: .inBlock 0 :: .code c10s1 :: []) ⟨mk 100 [(0, x0), (2, x2), (7, x7), (9, x9), (12, x12)], rows, low⟩ r
theorem jc10s25 : Ex F cx (.code c10s25 :: .code c10s19 :: .inBlock 1 :: .code c10k3 :: .inLoop c10l2 :: .inBlock 0 :: .code c10s1 :: []) ⟨mk 100 l, rows, low⟩ r ↔ Jc10s25 F cx (lk l 0) (lk l 2) (lk l 7) (lk l 9) (lk l 12) rows low r := Ex_canon (keep := [0, 2, 7, 9, 12]) (by kernel_rfl)
def Jc10s33 (F : Nat → Option IFn) (cx : Ctx) (x0 x2 x7 x9 : AV) (rows : List Row) (low : Nat) (r : AV × List Row × Nat → Prop) : Prop := Ex F cx (.code c10s33 :: .inBlock 1 :: .code c10k3 :: .inLoop c10l2 :: .inBlock 0 :: .code c10s1 :: []) ⟨mk 100 [(0, x0), (2, x2), (7, x7), (9, x9)], rows, low⟩ r
theorem jc10s33 : Ex F cx (.code c10s33 :: .inBlock 1 :: .code c10k3 :: .inLoop c10l2 :: .inBlock 0 :: .code c10s1 :: []) ⟨mk 100 l, rows, low⟩ r ↔ Jc10s33 F cx (lk l 0) (lk l 2) (lk l 7) (lk l 9) rows low r := Ex_canon (keep := [0, 2, 7, 9]) (by kernel_rfl)
def Jc10s39 (F : Nat → Option IFn) (cx : Ctx) (x0 x2 x7 x8 x9 : AV) (rows : List Row) (low : Nat) (r : AV × List Row × Nat → Prop) : Prop := Ex F cx (.code c10s39 :: .inLoop c10l2 :: .inBlock 0 :: .code c10s1 :: []) ⟨mk 100 [(0, x0), (2, x2), (7, x7), (8, x8), (9, x9)], rows, low⟩ r
theorem jc10s39 : Ex F cx (.code c10s39 :: .inLoop c10l2 :: .inBlock 0 :: .code c10s1 :: []) ⟨mk 100 l, rows, low⟩ r ↔ Jc10s39 F cx (lk l 0) (lk l 2) (lk l 7) (lk l 8) (lk l 9) rows low r := Ex_canon (keep := [0, 2, 7, 8, 9]) (by kernel_rfl)
def Lc10l2 (F : Nat → Option IFn) (cx : Ctx) (x0 x2 x7 x8 x9 : AV) (rows : List Row) (low : Nat) (r : AV × List Row × Nat → Prop) : Prop := Ex F cx (.code c10l2 :: .inLoop c10l2 :: .inBlock 0 :: .code c10s1 :: []) ⟨mk 100 [(0, x0), (2, x2), (7, x7), (8, x8), (9, x9)], rows, low⟩ r
@[simp] theorem nc10l2 : Ex F cx (.inLoop c10l2 :: .inBlock 0 :: .code c10s1 :: []) ⟨mk 100 l, rows, low⟩ r ↔ Lc10l2 F cx (lk l 0) (lk l 2) (lk l 7) (lk l 8) (lk l 9) rows low r := loopN (keep := [0, 2, 7, 8, 9]) (by kernel_rfl)
@[simp] theorem ec10l2 : Ex F cx (.code (.loop c10l2) :: .inBlock 0 :: .code c10s1 :: []) ⟨mk 100 l, rows, low⟩ r ↔ Lc10l2 F cx (lk l 0) (lk l 2) (lk l 7) (lk l 8) (lk l 9) rows low r := loopE (keep := [0, 2, 7, 8, 9]) (by kernel_rfl)
@[simp] theorem uc10l2 : Ex F cx (.code c10l2 :: k) s r ↔ Ex F cx (.code (.seq (.seq c10k41 c10s40) c10s39) :: k) s r := Iff.rfl
def c10b : ICode := (.seq c10k49 c10s48)
@[simp] theorem uc10b : Ex F cx (.code c10b :: k) s r ↔ Ex F cx (.code (.seq c10k49 c10s48) :: k) s r := Iff.rfl
def c10 : IFn := ⟨100, [.t 6], c10b⟩
def h10 : List (Nat × List Nat) := [(0, dead 100 [0, 1, 2]), (1, dead 100 [0, 1, 2]), (2, dead 100 [0, 2, 7]), (3, dead 100 [0, 2, 7, 8]), (4, dead 100 [0, 2, 7, 8, 9]), (6, dead 100 [0, 2, 7, 8, 9]), (7, dead 100 [0, 2, 7, 8, 9, 10, 11]), (8, dead 100 []), (9, dead 100 [0, 2, 7, 9]), (10, dead 100 [0, 2, 7, 9]), (11, dead 100 [0, 2, 7, 9, 12, 13]), (12, dead 100 []), (13, dead 100 [0, 2, 7, 9, 12]), (14, dead 100 [0, 2, 7, 8, 9]), (15, dead 100 [0, 2, 7, 8, 9]), (16, dead 100 [0, 2, 7, 9]), (17, dead 100 [0, 2, 7, 8, 9]), (18, dead 100 [0, 2, 7, 8, 9, 14]), (20, dead 100 [0, 2, 7, 8, 9, 14]), (21, dead 100 [0, 2, 7, 8, 9, 14, 15]), (22, dead 100 [0, 2, 7, 8, 9, 14]), (23, dead 100 [0, 2, 7, 8, 9, 14, 15]), (19, dead 100 [0, 2, 7, 8, 9, 14]), (5, dead 100 [0, 2, 7, 8, 9]), (24, dead 100 [])]
theorem i10 {x0 x1 x2 : AV} (hF : F 10 = some c10) {q : AV × List Row × Option Nat} (h : Ex F (.fn [.t 6]) [.code c10b] ⟨mk 100 [(0, x0), (1, x1), (2, x2)], rows, rows.length⟩ fun r => fin rows r.1 r.2.1 r.2.2 = q) : Ret F 10 [x0, x1, x2] rows = some q := Ret_mk hF h
end Go.Abs

set_option linter.unusedVariables false
set_option linter.unusedSimpArgs false
namespace Go.Abs
open Rd (Cp IsL_one IsL_cells IsL_tail lowO_n)
abbrev G10 : Nat → Option IFn := more F 10 c10
theorem toG10 {f : Nat} {vs : List AV} {rows : List Row} {q : AV × List Row × Option Nat} (h : Ret F f vs rows = some q) : Ret G10 f vs rows = some q := Ret_ext (more_ext (by kernel_rfl)) h
theorem acc_app3 {rows H : List Row} {l : List Int} {x : Int} (hl : l.length < 1000000) : ∃ X : List Row, X.all (Row.under 0) = true ∧ evE (rows ++ (accR H l ++ [.cells [.int .i64 x]])) rows.length (.app 1 8 (.c (accV rows H l)) (.c (.slice (rows.length + (accR H l).length) 0 1 (.at_ 1)))) = some (accV rows (H ++ X) (l ++ [x]), rows ++ accR (H ++ X) (l ++ [x]), rows.length) := by
  have htmp : El (rows ++ (accR H l ++ [.cells [.int .i64 x]])) 1 (.slice (rows.length + (accR H l).length) 0 1 (.at_ 1)) [.int .i64 x] 1 := by
    have : row? (rows ++ (accR H l ++ [Row.cells [.int .i64 x]])) (rows.length + (accR H l).length) = some [.int .i64 x] := by unfold row?; simp
    unfold El elems
    simp only [this]
    rfl
  cases l with
  | nil =>
    refine ⟨[.cells [.int .i64 x]], by simp [Row.under, AV.under], ?_⟩
    have := app_nil (b := 8) (low := rows.length) htmp (by omega) (by simp [lim])
    simp only [accR, accV, List.nil_append] at this ⊢
    rw [this]
    simp [nums]
  | cons y l =>
    have hc : cells? (rows ++ (accR H (y :: l) ++ [.cells [.int .i64 x]])) (rows.length + H.length) = some (nums .i64 (y :: l)) := by
      unfold cells?
      rw [rows_at]
      simp [accR]
    have hs : seg (nums .i64 (y :: l)) 0 ((y :: l).length * 1) = some (nums .i64 (y :: l)) := nums_all (by simp)
    have := app_op (b := 8) (low := rows.length) hc hs htmp (by omega) (by simp [lim] at *; omega)
    refine ⟨[.dead, .cells [.int .i64 x]], by simp [Row.under, AV.under], ?_⟩
    simp only [accV, accR] at this ⊢
    rw [this]
    rw [lower_ge (by omega), rows_set]
    simp [nums]
section
variable {rows : List Row} {v2 ev : AV} {l2 : List Int} {n : Nat} {es : List (Nat × Nat)} {up : Nat → Nat}
theorem mk4 {r : AV × List Row × Nat → Prop} {rd : Nat} {H0 : List Row} (h2 : IsL rows v2 l2) (hn : n ≤ 10) (hrd : rd ≤ 10)
    (hk : ∀ X acc, acc.length = n → X.all (Row.under 0) = true → Lc10l2 G10 (.fn [.t 6]) (.int .i64 n) v2 ev (accV rows (H0 ++ X) acc) (.int .i64 ((rd : Int) + 1)) (rows ++ accR (H0 ++ X) acc) rows.length r) : ∀ (d v : Nat) (X : List Row) (acc : List Int), n - v = d → v ≤ n → acc.length = v → X.all (Row.under 0) = true →
    Lc10l4 G10 (.fn [.t 6]) (.int .i64 n) v2 ev (accV rows (H0 ++ X) acc) (.int .i64 rd) (.int .i64 v) (rows ++ accR (H0 ++ X) acc) rows.length r := by
  have w0 : IntKind.i64.wrap ((rd : Int) + 1) = rd + 1 := wrap64 (by omega) (by omega)
  intro d
  induction d with
  | zero =>
    intro v X acc hd h1 hl hX
    have hv : v = n := by omega
    subst hv
    have := hk X acc hl hX
    unfold Lc10l4
    simp [w0]
    exact this
  | succ d ih =>
    intro v X acc hd h1 hl hX
    have hv : v < n := by omega
    have w1 : IntKind.i64.wrap ((v : Int) + 1) = v + 1 := wrap64 (by omega) (by omega)
    have hll := fun L => lenL0 (IsL_app h2 L)
    have step : ∀ x : Int, ∃ X2 : List Row, X2.all (Row.under 0) = true ∧ evE (rows ++ (accR (H0 ++ X) acc ++ [.cells [.int .i64 x]])) rows.length (.app 1 8 (.c (accV rows (H0 ++ X) acc)) (.c (.slice (rows.length + (accR (H0 ++ X) acc).length) 0 1 (.at_ 1)))) = some (accV rows (H0 ++ (X ++ X2)) (acc ++ [x]), rows ++ accR (H0 ++ (X ++ X2)) (acc ++ [x]), rows.length) := by
      intro x
      obtain ⟨X2, k1, k2⟩ := acc_app3 (rows := rows) (H := H0 ++ X) (l := acc) (x := x) (by omega)
      rw [List.append_assoc H0 X X2] at k2
      exact ⟨X2, k1, k2⟩
    have next : ∀ (x : Int) (X2 : List Row), X2.all (Row.under 0) = true → Lc10l4 G10 (.fn [.t 6]) (.int .i64 n) v2 ev (accV rows (H0 ++ (X ++ X2)) (acc ++ [x])) (.int .i64 rd) (.int .i64 ((v : Int) + 1)) (rows ++ accR (H0 ++ (X ++ X2)) (acc ++ [x])) rows.length r := by
      intro x X2 hX2
      have := ih (v + 1) (X ++ X2) (acc ++ [x]) (by omega) (by omega) (by simp [hl]) (by rw [List.all_append, hX, hX2]; rfl)
      simpa using this
    unfold Lc10l4
    by_cases hvl : v < l2.length
    · have i1 := fun L => idxL0 (IsL_app h2 L) (k := .i64) (i := (v : Int)) (by omega) (by omega)
      have i2 := fun L => loadL0 (IsL_app h2 L) (j := v) hvl
      simp only [Int.toNat_natCast] at i1
      obtain ⟨X2, k1, k2⟩ := step (IntKind.i64.wrap ((IntKind.u64.wrap (gI l2 v)).tmod 4))
      have := next (IntKind.i64.wrap ((IntKind.u64.wrap (gI l2 v)).tmod 4)) X2 k1
      generalize accV rows (H0 ++ X) acc = av at *
      generalize accR (H0 ++ X) acc = aR at *
      simp [hv, hll, hvl, i1, i2, fillA, splice, k2, w1]
      exact this
    · obtain ⟨X2, k1, k2⟩ := step v
      have := next (v : Int) X2 k1
      generalize accV rows (H0 ++ X) acc = av at *
      generalize accR (H0 ++ X) acc = aR at *
      simp [hv, hll, hvl, fillA, splice, k2, w1]
      exact this
open Classical in
theorem marks_same (hgt : row? rows 1 = some (nums .u8 t64)) (hT : IsTree n es up) {X : List Row} {x8 : AV} {ml : List Int} (hm : IsL (rows ++ (accR2 [] es ++ X)) x8 ml) (hl : ml.length ≤ 100) : ∃ b : Bool, Ret G10 40 [.int .i64 n, accV2 rows [] es, x8] (rows ++ (accR2 [] es ++ X)) = some (.tup [.bool b, .int .i64 0], rows ++ (accR2 [] es ++ X), none) ∧ Ret G10 41 [.int .i64 n, accV2 rows [] es, x8] (rows ++ (accR2 [] es ++ X)) = some (.bool b, rows ++ (accR2 [] es ++ X), none) := by
  have hP := IsP_app (acc2_P (rows := rows) (l := es)) X
  rw [List.append_assoc] at hP
  have hE := nxT_edg hT.n10 hT.tv.1
  have hg := nxI_ok hT.n10 hT.tv.1
  refine ⟨decide (AM (nxT es) ml n), toG10 (AreMarks_ret (row?_old hgt _) hP (by simp) hT.n0 hT.n10 hT.len hT.tv hm (by omega)), toG10 (rmarks_ret hg hE hP (by have := hT.len; have := hT.n10; omega) hT.n10 hm)⟩
theorem marks_end (hA : ∀ H, H.all (Row.under 0) = true → Ret F 22 [] (rows ++ H) = some (.bool true, rows ++ H, none)) {x8 : AV} {X : List Row} (hX : X.all (Row.under 0) = true) : Lc10l2 G10 (.fn [.t 6]) (.int .i64 n) v2 ev x8 (.int .i64 3) (rows ++ X) rows.length (fun r => fin rows r.1 r.2.1 r.2.2 = (.bool true, rows, none)) := by
  have := toG10 (hA X hX)
  unfold Lc10l2
  simp [this]
theorem accR2_under : (accR2 [] es).all (Row.under 0) = true := by
  unfold accR2
  split <;> simp [Row.under, AV.under, nums]
theorem marks_r2 (hA : ∀ H, H.all (Row.under 0) = true → Ret F 22 [] (rows ++ H) = some (.bool true, rows ++ H, none)) (hgt : row? rows 1 = some (nums .u8 t64)) (hT : IsTree n es up) (h2 : IsL rows v2 l2) {X : List Row} (hX : X.all (Row.under 0) = true) {x8 : AV} {ml : List Int} (hm : IsL (rows ++ (accR2 [] es ++ X)) x8 ml) (hl : ml.length ≤ 100) :
    Lc10l2 G10 (.fn [.t 6]) (.int .i64 n) v2 (accV2 rows [] es) x8 (.int .i64 2) (rows ++ (accR2 [] es ++ X)) rows.length (fun r => fin rows r.1 r.2.1 r.2.2 = (.bool true, rows, none)) := by
  obtain ⟨b, g1, g2⟩ := marks_same hgt hT hm hl
  have := mk4 (rows := rows) (ev := accV2 rows [] es) (n := n) (r := fun r => fin rows r.1 r.2.1 r.2.2 = (.bool true, rows, none)) (rd := 2) (H0 := accR2 [] es) h2 hT.n10 (by omega) (fun X acc hl hX => marks_end hA (accR_under (by rw [List.all_append, accR2_under, hX]; rfl))) _ 0 X [] rfl (Nat.zero_le _) rfl hX
  simp only [accV, accR] at this
  generalize accV2 rows [] es = ev at *
  generalize accR2 [] es = eR at *
  unfold Lc10l2
  cases b <;>
  · simp [g1, g2]
    simpa using this
theorem marks_r1 (hA : ∀ H, H.all (Row.under 0) = true → Ret F 22 [] (rows ++ H) = some (.bool true, rows ++ H, none)) (hgt : row? rows 1 = some (nums .u8 t64)) (hT : IsTree n es up) (h2 : IsL rows v2 l2) {X : List Row} (hX : X.all (Row.under 0) = true) {x8 : AV} {ml : List Int} (hm : IsL (rows ++ (accR2 [] es ++ X)) x8 ml) (hl : ml.length ≤ 100) :
    Lc10l2 G10 (.fn [.t 6]) (.int .i64 n) v2 (accV2 rows [] es) x8 (.int .i64 1) (rows ++ (accR2 [] es ++ X)) rows.length (fun r => fin rows r.1 r.2.1 r.2.2 = (.bool true, rows, none)) := by
  obtain ⟨b, g1, g2⟩ := marks_same hgt hT hm hl
  have hP := IsP_app (acc2_P (rows := rows) (l := es)) X
  rw [List.append_assoc] at hP
  obtain ⟨ol, k1, k2, _⟩ := Marks_ret (row?_old hgt _) hP (by simp) hT.n0 hT.n10 hT.len hT.tv
  have k1 := toG10 k1
  have hn0 := hT.n0
  have hn := hT.n10
  have r2 : ∀ ol' : List Int, ol'.length = n → Lc10l2 G10 (.fn [.t 6]) (.int .i64 n) v2 (accV2 rows [] es) (.slice (rows.length + ((accR2 [] es).length + X.length)) 0 n (.at_ n)) (.int .i64 2) (rows ++ (accR2 [] es ++ (X ++ [.cells (nums .i64 ol')]))) rows.length (fun r => fin rows r.1 r.2.1 r.2.2 = (.bool true, rows, none)) := by
    intro ol' hol
    refine marks_r2 hA hgt hT h2 (ml := ol') (by rw [List.all_append, hX]; simp [Row.under, AV.under, nums]) ?_ (by omega)
    have hrow : row? (rows ++ (accR2 [] es ++ (X ++ [Row.cells (nums .i64 ol')]))) (rows.length + ((accR2 [] es).length + X.length)) = some (nums .i64 ol') := by
      rw [row?_at, row?_at]
      simp
    have := IsL_mk (n := 0) (off := 0) (c := .at_ n) (l := ol') hrow (by rw [nums_all rfl])
    rwa [hol] at this
  have r2a := r2 ol k2
  have w2 : IntKind.i64.wrap 2 = 2 := wrap64 (by omega) (by omega)
  have hll := fun L => lenL0 (IsL_app h2 L)
  simp only [List.length_append] at k1
  by_cases h0 : 0 < l2.length
  · obtain ⟨u, hu, hu1⟩ := umodI (x := gI l2 0) (m := (n : Int)) (by omega) (by omega)
    have u1 : IntKind.u64.wrap (n : Int) = n := wrapU64 (by omega) (by omega)
    have r2b := r2 (ol.set u (IntKind.i64.wrap (gI ol u + 1))) (by simpa using k2)
    have i1 := fun L => idxL0 (IsL_app h2 L) (k := .i64) (i := 0) (by omega) (by omega)
    have i2 := fun L => loadL0 (IsL_app h2 L) (j := 0) h0
    have hun : u < n := by omega
    have o1 : ol[u]? = some (gI ol u) := gI_get (by omega)
    have o2 : ∀ h, ol[u]'h = gI ol u := fun h => Option.some.inj ((List.getElem?_eq_getElem h).symm.trans o1)
    generalize accV2 rows [] es = ev at *
    generalize accR2 [] es = eR at *
    unfold Lc10l2
    simp at i1 i2
    cases b <;>
    · simp [g1, g2, k1, hll, h0, i1, i2, u1, hu, hun, w2, o1, o2, k2, show ¬ n = 0 by omega]
      simpa using r2b
  · generalize accV2 rows [] es = ev at *
    generalize accR2 [] es = eR at *
    unfold Lc10l2
    cases b <;>
    · simp [g1, g2, k1, hll, h0, w2]
      simpa using r2a
theorem marks_r0 (hA : ∀ H, H.all (Row.under 0) = true → Ret F 22 [] (rows ++ H) = some (.bool true, rows ++ H, none)) (hgt : row? rows 1 = some (nums .u8 t64)) (hT : IsTree n es up) (h2 : IsL rows v2 l2) {X : List Row} (hX : X.all (Row.under 0) = true) {x8 : AV} {ml : List Int} (hm : IsL (rows ++ (accR2 [] es ++ X)) x8 ml) (hl : ml.length ≤ 100) :
    Lc10l2 G10 (.fn [.t 6]) (.int .i64 n) v2 (accV2 rows [] es) x8 (.int .i64 0) (rows ++ (accR2 [] es ++ X)) rows.length (fun r => fin rows r.1 r.2.1 r.2.2 = (.bool true, rows, none)) := by
  obtain ⟨b, g1, g2⟩ := marks_same hgt hT hm hl
  have hn := hT.n10
  have := mk4 (rows := rows) (ev := accV2 rows [] es) (n := n) (r := fun r => fin rows r.1 r.2.1 r.2.2 = (.bool true, rows, none)) (rd := 0) (H0 := accR2 [] es) h2 hT.n10 (by omega) (fun X acc hl hX => by
    have hI := (acc_IsL (rows := rows) (H := accR2 [] es ++ X) (l := acc)).1
    cases acc with
    | nil => exact marks_r1 hA hgt hT h2 hX (by simpa [accR] using hI) (by simp)
    | cons y acc =>
      have := marks_r1 hA hgt hT h2 (X := X ++ [.cells (nums .i64 (y :: acc))]) (x8 := accV rows (accR2 [] es ++ X) (y :: acc)) (ml := y :: acc) (by rw [List.all_append, hX]; simp [Row.under, AV.under, nums]) (by simpa [accR] using hI) (by omega)
      simpa [accR] using this) _ 0 X [] rfl (Nat.zero_le _) rfl hX
  simp only [accV, accR] at this
  generalize accV2 rows [] es = ev at *
  generalize accR2 [] es = eR at *
  unfold Lc10l2
  cases b <;>
  · simp [g1, g2]
    simpa using this
/-- SearchMarks, if 'awake' is true. -/
theorem marks_ret (hA : ∀ H, H.all (Row.under 0) = true → Ret F 22 [] (rows ++ H) = some (.bool true, rows ++ H, none)) (hgt : row? rows 1 = some (nums .u8 t64)) {x : Int} {v1 : AV} {l1 : List Int} (h1 : IsL rows v1 l1) (h2 : IsL rows v2 l2) (hc2 : Cp 1 v2) : Ret G10 10 [.int .i64 x, v1, v2] rows = some (.bool true, rows, none) := by
  have g1 := toG10 (tree_ret (x := x) h1)
  have hT := esT_tree x l1
  generalize nT x = n at *
  generalize esT x l1 = es at *
  have g2 := toG10 (few_ret (m := 11) (IsL_app h2 (accR2 [] es)) hc2 (by omega))
  obtain ⟨x8, K, e8, i8, _, u8⟩ := newL_shape (rows ++ accR2 [] es) (l2.take 11)
  rw [e8] at g2
  have g2 : Ret G10 26 [v2, .int .i64 11] (rows ++ accR2 [] es) = _ := g2
  have := marks_r0 hA hgt hT h2 u8 (ml := l2.take 11) (by rwa [List.append_assoc] at i8) (by simp; omega)
  refine Go.Abs.i10 more_at ?_
  generalize accV2 rows [] es = ev at *
  generalize accR2 [] es = eR at *
  simp [g1, g2]
  simpa using this
end
end Go.Abs

set_option linter.unusedVariables false
set_option linter.unusedSimpArgs false
namespace Go.Abs
theorem aCp {W : World} {a : Option ArgS} (hok : argOK W a) (i : Nat) : Rd.Cp 1 (argAV i a) := by
  cases a with
  | none => trivial
  | some a => exact hok.1
end Go.Abs

