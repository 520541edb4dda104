/- The texts that the row uses, part 5. -/
import Derived.Test.YtichbmhjgbjiiaaDoorBF4
import Derived.AtR
import Derived.Orders
import Derived.KernelRfl
import Derived.Laws.Cells
import Derived.Laws.CopyRow
import Derived.Laws.Append
import Derived.Laws.AppendOwn
import Derived.Laws.Entries
import Derived.ArgAppend
import Derived.ChangeKeysEq
import Derived.WideLaws
import Derived.Laws.Small
import Derived.Laws.StructEq
import Derived.Laws.Cover3
import Derived.Laws.Tables
import Derived.Laws.Rows
import Derived.Below
import Derived.Laws.IdiomCopy
import Derived.RangeFuncNested
import Derived.Test.YtichbmhjgbjiiaaDoorProg
import Derived.Test.YtichbmhjgbjiiaaDoorRows
import Derived.ProofKit
import Derived.LaidMore
import Derived.OpenShut
import Derived.Stop.Joined
import Derived.ChangeSlices
import Derived.SizedLaws
import Derived.SevenTiedAt
import Derived.WalkKit
import Derived.ShutString
import Derived.ChangeOld
import Derived.Carry
set_option linter.unusedVariables false
set_option linter.unusedSimpArgs false
namespace Go.Abs
section
variable {rows : List Row} {v : AV} {l : List Int}
def outB (x : Int) : Bool := decide (x < -100 ∨ 100 < x)
theorem out_ret {x : Int} : Ret F 94 [.int .i64 x] rows = some (.bool (outB x), rows, none) := by
  refine i94 F94 ?_
  unfold outB
  by_cases h : x < -100 <;> simp [h]
theorem IndexF_loop {fid : Nat} {cs : List AV} {p : Int → Bool} (h : IsL rows v l) (hl : l.length < 4611686018427387904) (hp : ∀ x ∈ l, Ret F fid (.int .i64 x :: cs) rows = some (.bool (p x), rows, none)) {q : AV × List Row × Option Nat} (hq : q = (.int .i64 (match l.findIdx? p with | some i => (i : Int) | none => -1), rows, none)) : ∀ (n i : Nat), l.length - i = n → i ≤ l.length → (∀ j, j < i → p (gI l j) = false) →
    Lc103l2 F (.fn [.t 4]) v (.func fid cs) (.int .i64 l.length) (.int .i64 i) rows rows.length (fun r => fin rows r.1 r.2.1 r.2.2 = q) := by
  intro n
  induction n with
  | zero =>
    intro i hn h1 hf
    have hi : i = l.length := by omega
    subst hi
    have hnone : l.findIdx? p = none := by
      rw [List.findIdx?_eq_none_iff]
      intro x hx
      obtain ⟨j, hj, rfl⟩ := List.mem_iff_getElem.1 hx
      have := hf j hj
      rwa [gI_eq hj] at this
    unfold Lc103l2
    simp [hq, hnone]
  | succ n ih =>
    intro i hn h1 hf
    have hi : i < l.length := by omega
    have hr := hp (gI l i) (gI_mem hi)
    unfold Lc103l2
    simp (disch := first | omega | (simp; done) | fail) [hi, idxL0 h, loadL0 h, hr]
    cases hpi : p (gI l i) with
    | true =>
      have hsome : l.findIdx? p = some i := by
        rw [List.findIdx?_eq_some_iff_getElem]
        refine ⟨hi, ?_, ?_⟩
        · rwa [gI_eq hi] at hpi
        · intro j hj
          have := hf j hj
          rw [gI_eq (by omega)] at this
          simpa using this
      simp [hq, hsome]
    | false =>
      simp (disch := first | omega | (simp; done) | fail) [wrap64]
      refine ih (i + 1) (by omega) (by omega) fun j hj => ?_
      by_cases e : j = i
      · subst e; exact hpi
      · exact hf j (by omega)
theorem ContainsF_ret {fid : Nat} {cs : List AV} {p : Int → Bool} (h : IsL rows v l) (hl : l.length < 4611686018427387904) (hp : ∀ x ∈ l, Ret F fid (.int .i64 x :: cs) rows = some (.bool (p x), rows, none)) : Ret F 83 [v, .func fid cs] rows = some (.bool (l.any p), rows, none) := by
  have h103 : Ret F 103 [v, .func fid cs] rows = some (.int .i64 (match l.findIdx? p with | some i => (i : Int) | none => -1), rows, none) := by
    refine i103 F103 ?_
    simp [lenL0 h]
    exact IndexF_loop h hl hp rfl _ 0 rfl (by omega) (fun j hj => absurd hj (by omega))
  refine i83 F83 ?_
  simp [h103]
  cases e : l.findIdx? p with
  | none =>
    simp only
    rw [List.findIdx?_eq_none_iff] at e
    simp
    exact e
  | some i =>
    have hi := (List.findIdx?_eq_some_iff_getElem.1 e)
    obtain ⟨h1, h2, _⟩ := hi
    simp
    exact ⟨_, List.getElem_mem h1, h2⟩
theorem edges_ret {N : AV} {ev pv : AV} {cs : List AV} {m : Nat} (he : El rows 2 ev cs m) (h1 : N.one = true) (h2 : pv.one = true) : Ret F 67 [.agg [N, ev, pv]] rows = some (.int .i64 m, rows, none) := by
  have one1 := El_one he
  have he' := El_app he [.cells [N, ev, pv]]
  refine i67 F67 ?_
  simp [AV.cells, one1, h1, h2, lenW he']
def opn (b : Bool) (n : Int) (l : List Int) : Int := if b = false then 30 else if (l.length : Int) = n ∧ l.any outB = false then 0 else 1
set_option maxHeartbeats 4000000 in
theorem open_ret {N n : Int} {ev pv g' : AV} {fe fp : List Int} {m k f : Nat} (he : El rows 2 ev (nums .i64 fe) m) (hm : m ≤ 1000000) (hp : El rows 3 pv (nums .i64 fp) k) (hk : k ≤ 1000000) (h : IsL rows v l) (hl : l.length ≤ 1000000)
    (hn : ∀ L, Ret F f [g'] (rows ++ L) = some (.int .i64 n, rows ++ L, none)) : Ret F 66 [.agg [.int .i64 N, ev, pv], v, .iface bd (.agg [.int .u64 f, g'])] rows = some (.int .i64 (opn (gndB N fe m fp k) n l), rows, none) := by
  have one1 := El_one he
  have one2 := El_one hp
  have hC := Check_ret (N := N) (El_app he [.cells [.int .i64 N, ev, pv]]) hm (El_app hp [.cells [.int .i64 N, ev, pv]]) hk
  have h' := IsL_app h [.cells [.int .i64 N, ev, pv]]
  have hF := ContainsF_ret h' (by omega) (fid := 94) (cs := []) (p := outB) (fun x _ => out_ret)
  have hn1 := hn [.cells [.int .i64 N, ev, pv]]
  refine i66 F66 ?_
  unfold opn
  cases hb : gndB N fe m fp k with
  | false =>
    rw [hb] at hC
    simp [AV.cells, one1, one2, hC, seg, splice]
  | true =>
    rw [hb] at hC
    by_cases c1 : (l.length : Int) = n
    · cases hF2 : l.any outB with
      | false =>
        rw [hF2] at hF
        simp [AV.cells, one1, one2, hC, seg, splice, lenL0 h', boundOf, hn1, c1, hF]
      | true =>
        rw [hF2] at hF
        simp [AV.cells, one1, one2, hC, seg, splice, lenL0 h', boundOf, hn1, c1, hF]
    · simp [AV.cells, one1, one2, hC, seg, splice, lenL0 h', boundOf, hn1, c1]
end
end Go.Abs

namespace Go.Abs
section
variable {rows : List Row} {fv rv : AV} {fw rg : List Int} {ev pv : AV} {fl : List Int} {m : Nat}
theorem bd_get {fw : List Int} (h : ∀ x ∈ fw, -100 ≤ x ∧ x ≤ 100) {i : Nat} (hi : i < fw.length) : -100 ≤ gI fw i ∧ gI fw i ≤ 100 := h _ (gI_mem hi)
end
end Go.Abs

namespace Go.Abs
section
variable {B L : List Row} {sz n : Nat} {c : Cap} {v : AV} {cs : List AV}
def Acc (B L : List Row) (sz : Nat) (c : Cap) (v : AV) (cs : List AV) (n : Nat) : Prop :=
  cs.length = n * sz ∧ ((v = .nilslice ∧ cs = []) ∨ ∃ k, v = .slice (B.length + k) 0 n c ∧ L[k]? = some (.cells cs))
theorem Acc_nil : Acc B L sz c .nilslice [] 0 := ⟨by simp, .inl ⟨rfl, rfl⟩⟩
theorem Acc_app (h : Acc B L sz c v cs n) (M : List Row) : Acc B (L ++ M) sz c v cs n := by
  obtain ⟨h1, h2⟩ := h
  refine ⟨h1, ?_⟩
  rcases h2 with h2 | ⟨k, hv, hk⟩
  · exact .inl h2
  · refine .inr ⟨k, hv, ?_⟩
    rw [List.getElem?_append_left (List.getElem?_eq_some_iff.1 hk).1]
    exact hk
theorem Acc_El (h : Acc B L sz c v cs n) (hsz : 0 < sz) : El (B ++ L) sz v cs n := by
  obtain ⟨h1, h2⟩ := h
  rcases h2 with ⟨rfl, rfl⟩ | ⟨k, rfl, hk⟩
  · have : n = 0 := by
      rcases Nat.mul_eq_zero.1 (show n * sz = 0 from h1.symm) with h | h
      · exact h
      · omega
    subst this
    exact El_nil
  · have hr : row? (B ++ L) (B.length + k) = some cs := by
      unfold row?
      rw [List.getElem?_append_right (by omega), Nat.add_sub_cancel_left, hk]
    show elems _ _ _ = _
    unfold elems
    simp only [hr]
    unfold seg
    rw [if_pos (by omega), ← h1]
    simp
theorem Acc_IsL {l : List Int} (h : Acc B L 1 c v (nums .i64 l) n) : IsL (B ++ L) v l ∧ l.length = n := by
  have h2 := Acc_El h (by omega)
  have h3 : l.length = n := by have := h.1; simpa [nums] using this
  exact ⟨by unfold IsL; rw [h3]; exact h2, h3⟩
theorem Acc_idx {i : Nat} {kd : IntKind} {l : List Int} (h : Acc B L 1 c v (nums kd l) n) (hi : i < n) : evP (B ++ L) (.idxS 1 (.c v) (.c (.int .i64 i))) = some (.ptr (sid v) (soff v + i)) := by
  have := idxW (Acc_El h (by omega)) hi
  rwa [Nat.mul_one] at this
theorem Acc_ld {i : Nat} {l : List Int} (h : Acc B L 1 c v (nums .i64 l) n) (hi : i < n) : evP (B ++ L) (.load1 (.c (.ptr (sid v) (soff v + i)))) = some (.int .i64 (gI l i)) := by
  have h1 := h.1
  exact ldW1 (Acc_El h (by omega)) (by simp [nums] at h1; omega)
theorem Acc_lt (h : Acc B L sz c v cs n) (hn : 0 < n) (hsz : 0 < sz) : B.length ≤ sid v ∧ sid v < B.length + L.length := by
  obtain ⟨h1, h2⟩ := h
  rcases h2 with ⟨rfl, rfl⟩ | ⟨k, rfl, hk⟩
  · have := Nat.mul_pos hn hsz
    simp at h1
    omega
  · have := (List.getElem?_eq_some_iff.1 hk).1
    simp only [sid_s]
    omega
theorem Acc_more2 {x : List AV} {low b : Nat} (h : Acc B L sz (.op sz) v cs n) (hx : x.length = sz) (hsz : 0 < sz) (hl : n < 1000000000) (hlow : low ≤ B.length) :
    ∃ v' L', evE (B ++ (L ++ [.cells x])) low (.app sz b (.c v) (.c (.slice (B.length + L.length) 0 1 (.at_ 1)))) = some (v', B ++ L', low) ∧ Acc B L' sz (.op sz) v' (cs ++ x) (n + 1) ∧
      (∀ id, id < B.length + L.length → (v = .nilslice ∨ id ≠ sid v) → (B ++ L')[id]? = (B ++ L)[id]?) ∧ B.length + L.length ≤ sid v' ∧ L.length ≤ L'.length := by
  obtain ⟨h1, h2⟩ := h
  have hr : row? (B ++ (L ++ [.cells x])) (B.length + L.length) = some x := by
    unfold row?; simp
  have htmp : El (B ++ (L ++ [.cells x])) sz (.slice (B.length + L.length) 0 1 (.at_ 1)) x 1 := by
    unfold El elems
    simp only [hr]
    unfold seg
    rw [if_pos (by omega)]
    simp only [List.drop_zero, Option.map_some, Nat.one_mul]
    rw [List.take_of_length_le (by omega)]
  have hlen : (cs ++ x).length = (n + 1) * sz := by rw [List.length_append, h1, hx, Nat.succ_mul]
  rcases h2 with ⟨rfl, rfl⟩ | ⟨k, rfl, hk⟩
  · have h0 : n = 0 := by
      rcases Nat.mul_eq_zero.1 (show n * sz = 0 from h1.symm) with h | h
      · exact h
      · omega
    subst h0
    refine ⟨_, L ++ [.cells x, .cells x], ?_, ⟨hlen, .inr ⟨L.length + 1, rfl, by simp⟩⟩, fun id h1 _ => by rw [← List.append_assoc, List.getElem?_append_left (by simp; omega)], by simp only [sid_s]; omega, by simp⟩
    rw [app_nil htmp (by omega) (by simp [lim])]
    simp [Nat.add_assoc]
  · have hkl := (List.getElem?_eq_some_iff.1 hk).1
    have hcell : cells? (B ++ (L ++ [.cells x])) (B.length + k) = some cs := by
      unfold cells?
      rw [List.getElem?_append_right (by omega), Nat.add_sub_cancel_left, List.getElem?_append_left hkl, hk]
    refine ⟨_, L.set k .dead ++ [.cells x, .cells (cs ++ x)], ?_, ⟨hlen, .inr ⟨L.length + 1, rfl, by simp⟩⟩, fun id h1 h2 => ?_, by simp only [sid_s]; omega, by simp⟩
    · rw [app_op hcell (xs := cs) (by unfold seg; rw [if_pos (by omega), ← h1]; simp) htmp (by omega) (by simp [lim]; omega)]
      simp only [Option.some.injEq, Prod.mk.injEq]
      refine ⟨by simp [Nat.add_assoc], ?_, lower_ge' (by omega)⟩
      rw [List.set_append_right _ _ (by omega), Nat.add_sub_cancel_left, List.set_append_left _ _ hkl]
      simp
    · have h3 : id ≠ B.length + k := by
        rcases h2 with h2 | h2
        · simp at h2
        · simpa using h2
      by_cases c : id < B.length
      · rw [List.getElem?_append_left c, List.getElem?_append_left c]
      · rw [List.getElem?_append_right (by omega), List.getElem?_append_left (by rw [List.length_set]; omega), List.getElem?_set_ne (by omega), List.getElem?_append_right (by omega)]
theorem Acc_more {x : List AV} {low b : Nat} (h : Acc B L sz (.op sz) v cs n) (hx : x.length = sz) (hsz : 0 < sz) (hl : n < 1000000000) (hlow : low ≤ B.length) :
    ∃ v' L', evE (B ++ (L ++ [.cells x])) low (.app sz b (.c v) (.c (.slice (B.length + L.length) 0 1 (.at_ 1)))) = some (v', B ++ L', low) ∧ Acc B L' sz (.op sz) v' (cs ++ x) (n + 1) := by
  obtain ⟨v', L', e, hA, _⟩ := Acc_more2 (low := low) (b := b) h hx hsz hl hlow
  exact ⟨v', L', e, hA⟩
theorem Acc_store {i : Nat} {l : List Int} {x : Int} {low : Nat} (h : Acc B L 1 c v (nums .i64 l) n) (hi : i < n) (hlow : low ≤ B.length) :
    ∃ L', evE (B ++ L) low (.store1 (.c (.ptr (sid v) (soff v + i))) (.c (.int .i64 x))) = some (.tup [], B ++ L', low) ∧ Acc B L' 1 c v (nums .i64 (l.set i x)) n ∧ L'.length = L.length ∧ ∀ (id : Nat) (vs : List AV), id ≠ sid v → row? (B ++ L) id = some vs → row? (B ++ L') id = some vs := by
  obtain ⟨h1, h2⟩ := h
  have hl : l.length = n := by simpa [nums] using h1
  rcases h2 with ⟨rfl, e⟩ | ⟨k, rfl, hk⟩
  · rw [e] at h1
    simp at h1
    omega
  · have hkl := (List.getElem?_eq_some_iff.1 hk).1
    have hcell : cells? (B ++ L) (B.length + k) = some (nums .i64 l) := by
      unfold cells?
      rw [List.getElem?_append_right (by omega), Nat.add_sub_cancel_left, hk]
    have hset : (nums .i64 l).set i (.int .i64 x) = nums .i64 (l.set i x) := by simp [nums, List.map_set]
    refine ⟨L.set k (.cells (nums .i64 (l.set i x))), ?_, ⟨by simp [nums, hl], .inr ⟨k, rfl, by simp [hkl]⟩⟩, by simp, ?_⟩
    · rw [evE_store1]
      simp only [sid_s, soff_s, Nat.zero_add, hcell, Option.bind_some]
      rw [if_pos ⟨by simp [nums]; omega, rfl⟩, hset, lower_ge' (by omega), List.set_append_right _ _ (by omega), Nat.add_sub_cancel_left]
    · intro id vs hid hr
      unfold row? at hr ⊢
      simp only [sid_s] at hid
      by_cases c : id < B.length
      · rw [List.getElem?_append_left c] at hr ⊢
        exact hr
      · rw [List.getElem?_append_right (by omega)] at hr ⊢
        rw [List.getElem?_set_ne (by omega)]
        exact hr
theorem Acc_fin {e : Int} {kd : IntKind} {l : List Int} (h : Acc B L 1 c v (nums .i64 l) n) (hcp : c = .op 1 ∨ ∃ m, c = .at_ m ∧ n ≤ m) :
    ∃ v' X, fin B (.tup [v, .int kd e]) (B ++ L) B.length = (.tup [v', .int kd e], B ++ X, none) ∧ X.all (Row.under 0) = true ∧ IsL (B ++ X) v' l ∧ l.length = n ∧ Cp 1 v' := by
  obtain ⟨h1, h2⟩ := h
  have hl : l.length = n := by simpa [nums] using h1
  rcases h2 with ⟨rfl, e⟩ | ⟨k, rfl, hk⟩
  · have h0 : n = 0 := by rw [e] at h1; simpa using h1.symm
    have : l = [] := List.eq_nil_of_length_eq_zero (by omega)
    subst this
    exact ⟨.nilslice, [], by simp, rfl, IsL_nil, hl, trivial⟩
  · have hu : (nums .i64 l).all (·.ids.isEmpty) = true := cells_ids nums_und
    refine ⟨_, [.cells (nums .i64 l)], fin_slice_int hk hu, by simp, ?_, hl, ?_⟩
    · have hr : row? (B ++ [.cells (nums .i64 l)]) B.length = some (nums .i64 l) := by simp [row?]
      rw [← hl]
      exact IsL_mk (n := 0) hr (by rw [nums_seg, if_pos (by omega)]; simp)
    · rcases hcp with rfl | ⟨m, rfl, hm⟩
      · rfl
      · exact hm
theorem Acc_fin1 {l : List Int} (h : Acc B L 1 c v (nums .i64 l) n) (hcp : c = .op 1 ∨ ∃ m, c = .at_ m ∧ n ≤ m) :
    ∃ v' X, fin B v (B ++ L) B.length = (v', B ++ X, none) ∧ X.all (Row.under 0) = true ∧ IsL (B ++ X) v' l ∧ l.length = n ∧ Cp 1 v' := by
  obtain ⟨h1, h2⟩ := h
  have hl : l.length = n := by simpa [nums] using h1
  rcases h2 with ⟨rfl, e⟩ | ⟨k, rfl, hk⟩
  · have h0 : n = 0 := by rw [e] at h1; simpa using h1.symm
    have : l = [] := List.eq_nil_of_length_eq_zero (by omega)
    subst this
    exact ⟨.nilslice, [], by simp, rfl, IsL_nil, hl, trivial⟩
  · have hu : (nums .i64 l).all (·.ids.isEmpty) = true := cells_ids nums_und
    refine ⟨_, [.cells (nums .i64 l)], fin_slice hk hu, by simp, ?_, hl, ?_⟩
    · have hr : row? (B ++ [.cells (nums .i64 l)]) B.length = some (nums .i64 l) := by simp [row?]
      rw [← hl]
      exact IsL_mk (n := 0) hr (by rw [nums_seg, if_pos (by omega)]; simp)
    · rcases hcp with rfl | ⟨m, rfl, hm⟩
      · rfl
      · exact hm
theorem Acc_make {m : Nat} : Acc B (L ++ [.cells (nums .i64 (List.replicate m 0))]) 1 (.at_ m) (.slice (B.length + L.length) 0 m (.at_ m)) (nums .i64 (List.replicate m 0)) m := ⟨by simp [nums], .inr ⟨L.length, rfl, by simp⟩⟩
end
end Go.Abs

set_option maxRecDepth 20000
set_option maxHeartbeats 4000000
namespace Go.Abs
variable {F : Nat → Option IFn} {cx : Ctx} {k : List Itm} {s : St} {l : List (Nat × AV)} {rows : List Row} {low : Nat} {r : AV × List Row × Nat → Prop}
@[simp] theorem uc22k0 : Ex F cx (.code c22k0 :: k) ⟨mk 53 l, rows, low⟩ r ↔ Ex F cx k ⟨mk 53 [(5, (.int .i64 0)), (4, lk l 7), (52, lk l 7), (7, lk l 7)], rows, low⟩ r := rg [7] c22r0 rfl (by kernel_rfl)
@[simp] theorem uc22s1 : Ex F cx (.code c22s1 :: k) s r ↔ Ex F cx (.code (.seq c22k0 .ret) :: k) s r := Iff.rfl
@[simp] theorem uc22k3 : Ex F cx (.code c22k3 :: k) ⟨mk 53 l, rows, low⟩ r ↔ bnd (evP rows (.bin .add (.c (lk l 24)) (.c (.int .i64 1)))) fun v0 => Ex F cx k ⟨mk 53 [(24, v0), (51, v0), (1, lk l 1), (7, lk l 7), (22, lk l 22), (23, lk l 23), (24, lk l 24)], rows, low⟩ r := rg [1, 7, 22, 23, 24] c22r3 rfl (by kernel_rfl)
@[simp] theorem uc22k4 : Ex F cx (.code c22k4 :: k) ⟨mk 53 l, rows, low⟩ r ↔ bnd (evP rows (.idxA 2 1 (.c (lk l 9)) (.c (.int .i64 1)))) fun v0 => bnd (evP rows (.load1 (.c v0))) fun v1 => bnd (evP rows (.idxS 1 (.c (lk l 7)) (.c v1))) fun v2 => bnd (evP rows (.load1 (.c v2))) fun v3 => bnd (evP rows (.idxS 1 (.c (lk l 1)) (.c (lk l 8)))) fun v4 => bnd (evP rows (.load1 (.c v4))) fun v5 => bnd (evP rows (.bin .add (.c v3) (.c v5))) fun v6 => bnd (evP rows (.idxS 1 (.c (lk l 7)) (.c v1))) fun v7 => bnd (evE rows low (.store1 (.c v7) (.c v6))) fun q8 => Ex F cx k ⟨mk 53 [(50, v7), (49, v6), (48, v5), (47, v4), (46, lk l 8), (45, lk l 1), (44, v3), (43, v2), (42, v1), (41, v0), (40, lk l 7), (1, lk l 1), (7, lk l 7), (8, lk l 8), (9, lk l 9), (22, lk l 22), (23, lk l 23), (24, lk l 24)], q8.2.1, q8.2.2⟩ r := rg [1, 7, 8, 9, 22, 23, 24] c22r4 rfl (by kernel_rfl)
@[simp] theorem uc22k5 : Ex F cx (.code c22k5 :: k) ⟨mk 53 l, rows, low⟩ r ↔ bnd (evP rows (.idxA 2 1 (.c (lk l 9)) (.c (.int .i64 0)))) fun v0 => bnd (evP rows (.load1 (.c v0))) fun v1 => bnd (evP rows (.idxS 1 (.c (lk l 7)) (.c v1))) fun v2 => bnd (evP rows (.load1 (.c v2))) fun v3 => bnd (evP rows (.idxS 1 (.c (lk l 1)) (.c (lk l 8)))) fun v4 => bnd (evP rows (.load1 (.c v4))) fun v5 => bnd (evP rows (.bin .sub (.c v3) (.c v5))) fun v6 => bnd (evP rows (.idxS 1 (.c (lk l 7)) (.c v1))) fun v7 => bnd (evE rows low (.store1 (.c v7) (.c v6))) fun q8 => Ex F cx k ⟨mk 53 [(39, v7), (38, v6), (37, v5), (36, v4), (35, lk l 8), (34, lk l 1), (33, v3), (32, v2), (31, v1), (30, v0), (29, lk l 7), (1, lk l 1), (7, lk l 7), (8, lk l 8), (9, lk l 9), (22, lk l 22), (23, lk l 23), (24, lk l 24)], q8.2.1, q8.2.2⟩ r := rg [1, 7, 8, 9, 22, 23, 24] c22r5 rfl (by kernel_rfl)
@[simp] theorem uc22s6 : Ex F cx (.code c22s6 :: k) s r ↔ Ex F cx (.code (.seq c22k5 c22k4) :: k) s r := Iff.rfl
@[simp] theorem uc22k7 : Ex F cx (.code c22k7 :: k) ⟨mk 53 l, rows, low⟩ r ↔ bnd (evP rows (.idxS 2 (.c (lk l 22)) (.c (lk l 24)))) fun v0 => bnd (evP rows (.loadN 2 (.c v0))) fun v1 => bnd (evE rows low (.box (.c (.agg [.int .i64 0, .int .i64 0])))) fun q2 => bnd (evE q2.2.1 q2.2.2 (.storeN 2 (.c q2.1) (.c v1))) fun q3 => Ex F cx k ⟨mk 53 [(8, lk l 24), (9, q2.1), (28, v1), (27, v0), (26, lk l 24), (1, lk l 1), (7, lk l 7), (22, lk l 22), (23, lk l 23), (24, lk l 24)], q3.2.1, q3.2.2⟩ r := rg [1, 7, 22, 23, 24] c22r7 rfl (by kernel_rfl)
@[simp] theorem uc22s8 : Ex F cx (.code c22s8 :: k) s r ↔ Ex F cx (.code (.seq (.block 1 (.seq c22k7 c22s6)) c22k3) :: k) s r := Iff.rfl
@[simp] theorem uc22s9 : Ex F cx (.code c22s9 :: k) s r ↔ Ex F cx (.code (.seq (.cond (.t 25) .skip (.exit 0)) c22s8) :: k) s r := Iff.rfl
@[simp] theorem uc22k10 : Ex F cx (.code c22k10 :: k) ⟨mk 53 l, rows, low⟩ r ↔ bnd (evP rows (.bin .lss (.c (lk l 24)) (.c (lk l 23)))) fun v0 => Ex F cx k ⟨mk 53 [(25, v0), (1, lk l 1), (7, lk l 7), (22, lk l 22), (23, lk l 23), (24, lk l 24)], rows, low⟩ r := rg [1, 7, 22, 23, 24] c22r10 rfl (by kernel_rfl)
@[simp] theorem uc22s11 : Ex F cx (.code c22s11 :: k) s r ↔ Ex F cx (.code (.block 0 (.loop c22l2)) :: k) s r := Iff.rfl
@[simp] theorem uc22k12 : Ex F cx (.code c22k12 :: k) ⟨mk 53 l, rows, low⟩ r ↔ bnd (evP rows (.fieldA 1 (.c (lk l 2)))) fun v0 => bnd (evP rows (.load1 (.c v0))) fun v1 => bnd (evP rows (.len 0 (.c v1))) fun v2 => Ex F cx k ⟨mk 53 [(24, (.int .i64 0)), (23, v2), (22, v1), (21, v0), (1, lk l 1), (2, lk l 2), (7, lk l 7)], rows, low⟩ r := rg [1, 2, 7] c22r12 rfl (by kernel_rfl)
@[simp] theorem uc22s13 : Ex F cx (.code c22s13 :: k) s r ↔ Ex F cx (.code (.seq (.seq c22k12 c22s11) c22s1) :: k) s r := Iff.rfl
@[simp] theorem uc22k14 : Ex F cx (.code c22k14 :: k) ⟨mk 53 l, rows, low⟩ r ↔ bnd (evP rows (.fieldA 0 (.c (lk l 2)))) fun v0 => bnd (evP rows (.load1 (.c v0))) fun v1 => bnd (evE rows low (.make [.int .i64 0] 8 (.c v1) (.c v1))) fun q2 => Ex F cx k ⟨mk 53 [(7, q2.1), (20, q2.1), (19, v1), (18, v0), (1, lk l 1), (2, lk l 2)], q2.2.1, q2.2.2⟩ r := rg [1, 2] c22r14 rfl (by kernel_rfl)
@[simp] theorem uc22s15 : Ex F cx (.code c22s15 :: k) s r ↔ Ex F cx (.code (.seq c22k14 c22s13) :: k) s r := Iff.rfl
@[simp] theorem uc22k16 : Ex F cx (.code c22k16 :: k) ⟨mk 53 l, rows, low⟩ r ↔ Ex F cx k ⟨mk 53 [(5, lk l 6), (4, .nilslice), (17, lk l 6), (6, lk l 6)], rows, low⟩ r := rg [6] c22r16 rfl (by kernel_rfl)
@[simp] theorem uc22s17 : Ex F cx (.code c22s17 :: k) s r ↔ Ex F cx (.code (.cond (.t 16) (.seq c22k16 .ret) .skip) :: k) s r := Iff.rfl
@[simp] theorem uc22k18 : Ex F cx (.code c22k18 :: k) ⟨mk 53 l, rows, low⟩ r ↔ bnd (evP rows (.bin .neq (.c (lk l 6)) (.c (.int .i64 0)))) fun v0 => Ex F cx k ⟨mk 53 [(16, v0), (15, lk l 6), (1, lk l 1), (2, lk l 2), (6, lk l 6)], rows, low⟩ r := rg [1, 2, 6] c22r18 rfl (by kernel_rfl)
@[simp] theorem uc22s19 : Ex F cx (.code c22s19 :: k) s r ↔ Ex F cx (.code (.seq c22k18 c22s17) :: k) s r := Iff.rfl
@[simp] theorem uc22k20 : Ex F cx (.code c22k20 :: k) ⟨mk 53 l, rows, low⟩ r ↔ bnd (evP rows (.loadN 3 (.c (lk l 2)))) fun v0 => bnd (evP rows (.loadN 3 (.c (lk l 2)))) fun v1 => bnd (evP rows (.bind 67 [(.c v1)])) fun v2 => bnd (Ret F 66 [v0, lk l 1, v2] rows) fun q3 => Ex F cx k ⟨mk 53 [(6, q3.1), (14, q3.1), (13, v2), (12, v1), (11, lk l 1), (10, v0), (1, lk l 1), (2, lk l 2)], q3.2.1, (lowO low q3.2.2)⟩ r := rg [1, 2] c22r20 rfl (by kernel_rfl)
@[simp] theorem uc22s21 : Ex F cx (.code c22s21 :: k) s r ↔ Ex F cx (.code (.seq (.seq c22k20 c22s19) c22s15) :: k) s r := Iff.rfl
@[simp] theorem uc22k22 : Ex F cx (.code c22k22 :: k) ⟨mk 53 l, rows, low⟩ r ↔ bnd (evE rows low (.box (.c (lk l 0)))) fun q0 => Ex F cx k ⟨mk 53 [(5, (.int .i64 0)), (4, .nilslice), (2, q0.1), (0, lk l 0), (1, lk l 1)], q0.2.1, q0.2.2⟩ r := rg [0, 1] c22r22 rfl (by kernel_rfl)
def Jc22s8 (F : Nat → Option IFn) (cx : Ctx) (x1 x7 x22 x23 x24 : AV) (rows : List Row) (low : Nat) (r : AV × List Row × Nat → Prop) : Prop := Ex F cx (.code c22s8 :: .inLoop c22l2 :: .inBlock 0 :: .code c22s1 :: []) ⟨mk 53 [(1, x1), (7, x7), (22, x22), (23, x23), (24, x24)], rows, low⟩ r
def Lc22l2 (F : Nat → Option IFn) (cx : Ctx) (x1 x7 x22 x23 x24 : AV) (rows : List Row) (low : Nat) (r : AV × List Row × Nat → Prop) : Prop := Ex F cx (.code c22l2 :: .inLoop c22l2 :: .inBlock 0 :: .code c22s1 :: []) ⟨mk 53 [(1, x1), (7, x7), (22, x22), (23, x23), (24, x24)], rows, low⟩ r
@[simp] theorem nc22l2 : Ex F cx (.inLoop c22l2 :: .inBlock 0 :: .code c22s1 :: []) ⟨mk 53 l, rows, low⟩ r ↔ Lc22l2 F cx (lk l 1) (lk l 7) (lk l 22) (lk l 23) (lk l 24) rows low r := loopN (keep := [1, 7, 22, 23, 24]) (by kernel_rfl)
@[simp] theorem ec22l2 : Ex F cx (.code (.loop c22l2) :: .inBlock 0 :: .code c22s1 :: []) ⟨mk 53 l, rows, low⟩ r ↔ Lc22l2 F cx (lk l 1) (lk l 7) (lk l 22) (lk l 23) (lk l 24) rows low r := loopE (keep := [1, 7, 22, 23, 24]) (by kernel_rfl)
@[simp] theorem uc22l2 : Ex F cx (.code c22l2 :: k) s r ↔ Ex F cx (.code (.seq c22k10 c22s9) :: k) s r := Iff.rfl
def Jc22s15 (F : Nat → Option IFn) (cx : Ctx) (x1 x2 : AV) (rows : List Row) (low : Nat) (r : AV × List Row × Nat → Prop) : Prop := Ex F cx (.code c22s15 :: []) ⟨mk 53 [(1, x1), (2, x2)], rows, low⟩ r
@[simp] theorem uc22b : Ex F cx (.code c22b :: k) s r ↔ Ex F cx (.code (.seq c22k22 c22s21) :: k) s r := Iff.rfl
theorem i22 {x0 x1 : AV} (hF : F 22 = some c22) {q : AV × List Row × Option Nat} (h : Ex F (.fn [.t 4, .t 5]) [.code c22b] ⟨mk 53 [(0, x0), (1, x1)], rows, rows.length⟩ fun r => fin rows r.1 r.2.1 r.2.2 = q) : Ret F 22 [x0, x1] rows = some q := Ret_mk hF h
@[simp] theorem uc29k0 : Ex F cx (.code c29k0 :: k) ⟨mk 56 l, rows, low⟩ r ↔ Ex F cx k ⟨mk 56 [(4, lk l 5), (55, lk l 5), (5, lk l 5)], rows, low⟩ r := rg [5] c29r0 rfl (by kernel_rfl)
@[simp] theorem uc29s1 : Ex F cx (.code c29s1 :: k) s r ↔ Ex F cx (.code (.seq c29k0 .ret) :: k) s r := Iff.rfl
@[simp] theorem uc29k3 : Ex F cx (.code c29k3 :: k) ⟨mk 56 l, rows, low⟩ r ↔ bnd (evP rows (.bin .add (.c (lk l 6)) (.c (.int .i64 1)))) fun v0 => Ex F cx k ⟨mk 56 [(6, v0), (18, v0), (17, lk l 6), (1, lk l 1), (2, lk l 2), (5, lk l 5), (6, lk l 6)], rows, low⟩ r := rg [1, 2, 5, 6] c29r3 rfl (by kernel_rfl)
@[simp] theorem uc29k4 : Ex F cx (.code c29k4 :: k) ⟨mk 56 l, rows, low⟩ r ↔ bnd (evP rows (.idxS 1 (.c (lk l 5)) (.c (lk l 8)))) fun v0 => bnd (evP rows (.load1 (.c v0))) fun v1 => bnd (evP rows (.idxS 1 (.c (lk l 1)) (.c (lk l 6)))) fun v2 => bnd (evP rows (.load1 (.c v2))) fun v3 => bnd (evP rows (.bin .add (.c v1) (.c v3))) fun v4 => bnd (evP rows (.idxS 1 (.c (lk l 5)) (.c (lk l 8)))) fun v5 => bnd (evE rows low (.store1 (.c v5) (.c v4))) fun q6 => Ex F cx k ⟨mk 56 [(54, v5), (53, v4), (52, v3), (51, v2), (50, lk l 6), (49, lk l 1), (48, v1), (47, v0), (46, lk l 8), (45, lk l 5), (44, lk l 8), (43, lk l 5), (1, lk l 1), (2, lk l 2), (5, lk l 5), (6, lk l 6), (8, lk l 8)], q6.2.1, q6.2.2⟩ r := rg [1, 2, 5, 6, 8] c29r4 rfl (by kernel_rfl)
@[simp] theorem uc29k5 : Ex F cx (.code c29k5 :: k) ⟨mk 56 l, rows, low⟩ r ↔ bnd (evP rows (.idxS 1 (.c (lk l 5)) (.c (lk l 7)))) fun v0 => bnd (evP rows (.load1 (.c v0))) fun v1 => bnd (evP rows (.idxS 1 (.c (lk l 1)) (.c (lk l 6)))) fun v2 => bnd (evP rows (.load1 (.c v2))) fun v3 => bnd (evP rows (.bin .sub (.c v1) (.c v3))) fun v4 => bnd (evP rows (.idxS 1 (.c (lk l 5)) (.c (lk l 7)))) fun v5 => bnd (evE rows low (.store1 (.c v5) (.c v4))) fun q6 => Ex F cx k ⟨mk 56 [(42, v5), (41, v4), (40, v3), (39, v2), (38, lk l 6), (37, lk l 1), (36, v1), (35, v0), (34, lk l 7), (33, lk l 5), (32, lk l 7), (31, lk l 5), (1, lk l 1), (2, lk l 2), (5, lk l 5), (6, lk l 6), (7, lk l 7), (8, lk l 8)], q6.2.1, q6.2.2⟩ r := rg [1, 2, 5, 6, 7, 8] c29r5 rfl (by kernel_rfl)
@[simp] theorem uc29s6 : Ex F cx (.code c29s6 :: k) s r ↔ Ex F cx (.code (.seq c29k5 c29k4) :: k) s r := Iff.rfl
@[simp] theorem uc29k7 : Ex F cx (.code c29k7 :: k) ⟨mk 56 l, rows, low⟩ r ↔ bnd (evP rows (.fieldA 1 (.c (lk l 2)))) fun v0 => bnd (evP rows (.load1 (.c v0))) fun v1 => bnd (evP rows (.idxS 2 (.c v1) (.c (lk l 6)))) fun v2 => bnd (evP rows (.idxA 2 1 (.c v2) (.c (.int .i64 0)))) fun v3 => bnd (evP rows (.load1 (.c v3))) fun v4 => bnd (evP rows (.fieldA 1 (.c (lk l 2)))) fun v5 => bnd (evP rows (.load1 (.c v5))) fun v6 => bnd (evP rows (.idxS 2 (.c v6) (.c (lk l 6)))) fun v7 => bnd (evP rows (.idxA 2 1 (.c v7) (.c (.int .i64 1)))) fun v8 => bnd (evP rows (.load1 (.c v8))) fun v9 => Ex F cx k ⟨mk 56 [(8, v9), (7, v4), (30, v9), (29, v8), (28, v7), (27, lk l 6), (26, v6), (25, v5), (24, v4), (23, v3), (22, v2), (21, lk l 6), (20, v1), (19, v0), (1, lk l 1), (2, lk l 2), (5, lk l 5), (6, lk l 6)], rows, low⟩ r := rg [1, 2, 5, 6] c29r7 rfl (by kernel_rfl)
@[simp] theorem uc29s8 : Ex F cx (.code c29s8 :: k) s r ↔ Ex F cx (.code (.seq (.block 1 (.seq c29k7 c29s6)) c29k3) :: k) s r := Iff.rfl
@[simp] theorem uc29s9 : Ex F cx (.code c29s9 :: k) s r ↔ Ex F cx (.code (.cond (.t 16) .skip (.exit 0)) :: k) s r := Iff.rfl
@[simp] theorem uc29k10 : Ex F cx (.code c29k10 :: k) ⟨mk 56 l, rows, low⟩ r ↔ bnd (evP rows (.fieldA 1 (.c (lk l 2)))) fun v0 => bnd (evP rows (.load1 (.c v0))) fun v1 => bnd (evP rows (.len 0 (.c v1))) fun v2 => bnd (evP rows (.bin .lss (.c (lk l 6)) (.c v2))) fun v3 => Ex F cx k ⟨mk 56 [(16, v3), (15, v2), (14, v1), (13, v0), (12, lk l 6), (1, lk l 1), (2, lk l 2), (5, lk l 5), (6, lk l 6)], rows, low⟩ r := rg [1, 2, 5, 6] c29r10 rfl (by kernel_rfl)
@[simp] theorem uc29s11 : Ex F cx (.code c29s11 :: k) s r ↔ Ex F cx (.code (.block 0 (.loop c29l2)) :: k) s r := Iff.rfl
@[simp] theorem uc29k12 : Ex F cx (.code c29k12 :: k) ⟨mk 56 l, rows, low⟩ r ↔ Ex F cx k ⟨mk 56 [(6, (.int .i64 0)), (1, lk l 1), (2, lk l 2), (5, lk l 5)], rows, low⟩ r := rg [1, 2, 5] c29r12 rfl (by kernel_rfl)
@[simp] theorem uc29s13 : Ex F cx (.code c29s13 :: k) s r ↔ Ex F cx (.code (.seq (.seq c29k12 c29s11) c29s1) :: k) s r := Iff.rfl
@[simp] theorem uc29k14 : Ex F cx (.code c29k14 :: k) ⟨mk 56 l, rows, low⟩ r ↔ bnd (evP rows (.fieldA 0 (.c (lk l 2)))) fun v0 => bnd (evP rows (.load1 (.c v0))) fun v1 => bnd (evE rows low (.make [.int .i64 0] 8 (.c v1) (.c v1))) fun q2 => Ex F cx k ⟨mk 56 [(5, q2.1), (11, q2.1), (10, v1), (9, v0), (1, lk l 1), (2, lk l 2)], q2.2.1, q2.2.2⟩ r := rg [1, 2] c29r14 rfl (by kernel_rfl)
@[simp] theorem uc29s15 : Ex F cx (.code c29s15 :: k) s r ↔ Ex F cx (.code (.seq c29k14 c29s13) :: k) s r := Iff.rfl
@[simp] theorem uc29k16 : Ex F cx (.code c29k16 :: k) ⟨mk 56 l, rows, low⟩ r ↔ bnd (evE rows low (.box (.c (lk l 0)))) fun q0 => Ex F cx k ⟨mk 56 [(4, .nilslice), (2, q0.1), (0, lk l 0), (1, lk l 1)], q0.2.1, q0.2.2⟩ r := rg [0, 1] c29r16 rfl (by kernel_rfl)
def Jc29s8 (F : Nat → Option IFn) (cx : Ctx) (x1 x2 x5 x6 : AV) (rows : List Row) (low : Nat) (r : AV × List Row × Nat → Prop) : Prop := Ex F cx (.code c29s8 :: .inLoop c29l2 :: .inBlock 0 :: .code c29s1 :: []) ⟨mk 56 [(1, x1), (2, x2), (5, x5), (6, x6)], rows, low⟩ r
def Lc29l2 (F : Nat → Option IFn) (cx : Ctx) (x1 x2 x5 x6 : AV) (rows : List Row) (low : Nat) (r : AV × List Row × Nat → Prop) : Prop := Ex F cx (.code c29l2 :: .inLoop c29l2 :: .inBlock 0 :: .code c29s1 :: []) ⟨mk 56 [(1, x1), (2, x2), (5, x5), (6, x6)], rows, low⟩ r
@[simp] theorem nc29l2 : Ex F cx (.inLoop c29l2 :: .inBlock 0 :: .code c29s1 :: []) ⟨mk 56 l, rows, low⟩ r ↔ Lc29l2 F cx (lk l 1) (lk l 2) (lk l 5) (lk l 6) rows low r := loopN (keep := [1, 2, 5, 6]) (by kernel_rfl)
@[simp] theorem ec29l2 : Ex F cx (.code (.loop c29l2) :: .inBlock 0 :: .code c29s1 :: []) ⟨mk 56 l, rows, low⟩ r ↔ Lc29l2 F cx (lk l 1) (lk l 2) (lk l 5) (lk l 6) rows low r := loopE (keep := [1, 2, 5, 6]) (by kernel_rfl)
@[simp] theorem uc29l2 : Ex F cx (.code c29l2 :: k) s r ↔ Ex F cx (.code (.seq (.seq c29k10 c29s9) c29s8) :: k) s r := Iff.rfl
@[simp] theorem uc29b : Ex F cx (.code c29b :: k) s r ↔ Ex F cx (.code (.seq c29k16 c29s15) :: k) s r := Iff.rfl
theorem i29 {x0 x1 : AV} (hF : F 29 = some c29) {q : AV × List Row × Option Nat} (h : Ex F (.fn [.t 4]) [.code c29b] ⟨mk 56 [(0, x0), (1, x1)], rows, rows.length⟩ fun r => fin rows r.1 r.2.1 r.2.2 = q) : Ret F 29 [x0, x1] rows = some q := Ret_mk hF h
@[simp] theorem uc33k0 : Ex F cx (.code c33k0 :: k) ⟨mk 41 l, rows, low⟩ r ↔ Ex F cx k ⟨mk 41 [(5, (.int .i64 0)), (4, lk l 7), (40, lk l 7), (7, lk l 7)], rows, low⟩ r := rg [7] c33r0 rfl (by kernel_rfl)
@[simp] theorem uc33s1 : Ex F cx (.code c33s1 :: k) s r ↔ Ex F cx (.code (.seq c33k0 .ret) :: k) s r := Iff.rfl
@[simp] theorem uc33k3 : Ex F cx (.code c33k3 :: k) ⟨mk 41 l, rows, low⟩ r ↔ bnd (evP rows (.bin .add (.c (lk l 21)) (.c (.int .i64 1)))) fun v0 => Ex F cx k ⟨mk 41 [(21, v0), (39, v0), (1, lk l 1), (7, lk l 7), (19, lk l 19), (20, lk l 20), (21, lk l 21)], rows, low⟩ r := rg [1, 7, 19, 20, 21] c33r3 rfl (by kernel_rfl)
@[simp] theorem uc33k4 : Ex F cx (.code c33k4 :: k) ⟨mk 41 l, rows, low⟩ r ↔ bnd (evP (rows ++ maskE 0 ([] : List (Nat × Row))) (.idxA 2 1 (.c (lk l 9)) (.c (.int .i64 1)))) fun v0 => bnd (evP (rows ++ maskE 4 ([] : List (Nat × Row))) (.load1 (.c v0))) fun v1 => bnd (evP (rows ++ maskE 14 ([] : List (Nat × Row))) (.idxS 1 (.c (lk l 1)) (.c v1))) fun v2 => bnd (evP (rows ++ maskE 30 ([] : List (Nat × Row))) (.load1 (.c v2))) fun v3 => bnd (evP (rows ++ maskE 0 ([] : List (Nat × Row))) (.idxA 2 1 (.c (lk l 9)) (.c (.int .i64 0)))) fun v4 => bnd (evP (rows ++ maskE 128 ([] : List (Nat × Row))) (.load1 (.c v4))) fun v5 => bnd (evP (rows ++ maskE 448 ([] : List (Nat × Row))) (.idxS 1 (.c (lk l 1)) (.c v5))) fun v6 => bnd (evP (rows ++ maskE 960 ([] : List (Nat × Row))) (.load1 (.c v6))) fun v7 => bnd (evP (rows ++ maskE 2046 ([] : List (Nat × Row))) (.bin .sub (.c v3) (.c v7))) fun v8 => bnd (evE (rows ++ maskE 4094 ([] : List (Nat × Row))) (rows.length + ([] : List (Nat × Row)).length) (.mkslice 1 [.int .i64 0] [(0, 1, (.c v8))])) fun q9 => q9.2.2 = rows.length + ([] : List (Nat × Row)).length ∧ bnd (some (([] : List (Nat × Row)) ++ List.map (fun (x : Row) => (12, x)) (q9.2.1.drop (rows.length + ([] : List (Nat × Row)).length)))) fun e9 => bnd (evE (rows ++ List.map (fun (x : Nat × Row) => x.2) e9) low (.app 1 8 (.c (lk l 7)) (.c q9.1))) fun q10 => Ex F cx k ⟨mk 41 [(7, q10.1), (38, q10.1), (37, q9.1), (36, v8), (35, v7), (34, v6), (33, v5), (32, v4), (31, lk l 1), (30, v3), (29, v2), (28, v1), (27, v0), (26, lk l 1), (25, lk l 7), (1, lk l 1), (7, lk l 7), (9, lk l 9), (19, lk l 19), (20, lk l 20), (21, lk l 21)], q10.2.1, q10.2.2⟩ r := rg [1, 7, 9, 19, 20, 21] c33r4 rfl (by kernel_rfl)
@[simp] theorem uc33k5 : Ex F cx (.code c33k5 :: k) ⟨mk 41 l, rows, low⟩ r ↔ bnd (evP rows (.idxS 2 (.c (lk l 19)) (.c (lk l 21)))) fun v0 => bnd (evP rows (.loadN 2 (.c v0))) fun v1 => bnd (evE rows low (.box (.c (.agg [.int .i64 0, .int .i64 0])))) fun q2 => bnd (evE q2.2.1 q2.2.2 (.storeN 2 (.c q2.1) (.c v1))) fun q3 => Ex F cx k ⟨mk 41 [(9, q2.1), (24, v1), (23, v0), (1, lk l 1), (7, lk l 7), (19, lk l 19), (20, lk l 20), (21, lk l 21)], q3.2.1, q3.2.2⟩ r := rg [1, 7, 19, 20, 21] c33r5 rfl (by kernel_rfl)
@[simp] theorem uc33s6 : Ex F cx (.code c33s6 :: k) s r ↔ Ex F cx (.code (.seq (.block 1 (.seq c33k5 c33k4)) c33k3) :: k) s r := Iff.rfl
@[simp] theorem uc33s7 : Ex F cx (.code c33s7 :: k) s r ↔ Ex F cx (.code (.seq (.cond (.t 22) .skip (.exit 0)) c33s6) :: k) s r := Iff.rfl
@[simp] theorem uc33k8 : Ex F cx (.code c33k8 :: k) ⟨mk 41 l, rows, low⟩ r ↔ bnd (evP rows (.bin .lss (.c (lk l 21)) (.c (lk l 20)))) fun v0 => Ex F cx k ⟨mk 41 [(22, v0), (1, lk l 1), (7, lk l 7), (19, lk l 19), (20, lk l 20), (21, lk l 21)], rows, low⟩ r := rg [1, 7, 19, 20, 21] c33r8 rfl (by kernel_rfl)
@[simp] theorem uc33s9 : Ex F cx (.code c33s9 :: k) s r ↔ Ex F cx (.code (.block 0 (.loop c33l2)) :: k) s r := Iff.rfl
@[simp] theorem uc33k10 : Ex F cx (.code c33k10 :: k) ⟨mk 41 l, rows, low⟩ r ↔ bnd (evP rows (.fieldA 1 (.c (lk l 2)))) fun v0 => bnd (evP rows (.load1 (.c v0))) fun v1 => bnd (evP rows (.len 0 (.c v1))) fun v2 => Ex F cx k ⟨mk 41 [(21, (.int .i64 0)), (20, v2), (19, v1), (18, v0), (1, lk l 1), (2, lk l 2), (7, lk l 7)], rows, low⟩ r := rg [1, 2, 7] c33r10 rfl (by kernel_rfl)
@[simp] theorem uc33s11 : Ex F cx (.code c33s11 :: k) s r ↔ Ex F cx (.code (.seq (.seq c33k10 c33s9) c33s1) :: k) s r := Iff.rfl
@[simp] theorem uc33k12 : Ex F cx (.code c33k12 :: k) ⟨mk 41 l, rows, low⟩ r ↔ Ex F cx k ⟨mk 41 [(7, .nilslice), (1, lk l 1), (2, lk l 2)], rows, low⟩ r := rg [1, 2] c33r12 rfl (by kernel_rfl)
@[simp] theorem uc33s13 : Ex F cx (.code c33s13 :: k) s r ↔ Ex F cx (.code (.seq c33k12 c33s11) :: k) s r := Iff.rfl
@[simp] theorem uc33k14 : Ex F cx (.code c33k14 :: k) ⟨mk 41 l, rows, low⟩ r ↔ Ex F cx k ⟨mk 41 [(5, lk l 6), (4, .nilslice), (17, lk l 6), (6, lk l 6)], rows, low⟩ r := rg [6] c33r14 rfl (by kernel_rfl)
@[simp] theorem uc33s15 : Ex F cx (.code c33s15 :: k) s r ↔ Ex F cx (.code (.cond (.t 16) (.seq c33k14 .ret) .skip) :: k) s r := Iff.rfl
@[simp] theorem uc33k16 : Ex F cx (.code c33k16 :: k) ⟨mk 41 l, rows, low⟩ r ↔ bnd (evP rows (.bin .neq (.c (lk l 6)) (.c (.int .i64 0)))) fun v0 => Ex F cx k ⟨mk 41 [(16, v0), (15, lk l 6), (1, lk l 1), (2, lk l 2), (6, lk l 6)], rows, low⟩ r := rg [1, 2, 6] c33r16 rfl (by kernel_rfl)
@[simp] theorem uc33s17 : Ex F cx (.code c33s17 :: k) s r ↔ Ex F cx (.code (.seq c33k16 c33s15) :: k) s r := Iff.rfl
@[simp] theorem uc33k18 : Ex F cx (.code c33k18 :: k) ⟨mk 41 l, rows, low⟩ r ↔ bnd (evP rows (.loadN 3 (.c (lk l 2)))) fun v0 => bnd (evP rows (.loadN 3 (.c (lk l 2)))) fun v1 => bnd (evP rows (.bind 74 [(.c v1)])) fun v2 => bnd (Ret F 66 [v0, lk l 1, v2] rows) fun q3 => Ex F cx k ⟨mk 41 [(6, q3.1), (14, q3.1), (13, v2), (12, v1), (11, lk l 1), (10, v0), (1, lk l 1), (2, lk l 2)], q3.2.1, (lowO low q3.2.2)⟩ r := rg [1, 2] c33r18 rfl (by kernel_rfl)
@[simp] theorem uc33s19 : Ex F cx (.code c33s19 :: k) s r ↔ Ex F cx (.code (.seq (.seq c33k18 c33s17) c33s13) :: k) s r := Iff.rfl
@[simp] theorem uc33k20 : Ex F cx (.code c33k20 :: k) ⟨mk 41 l, rows, low⟩ r ↔ bnd (evE rows low (.box (.c (lk l 0)))) fun q0 => Ex F cx k ⟨mk 41 [(5, (.int .i64 0)), (4, .nilslice), (2, q0.1), (0, lk l 0), (1, lk l 1)], q0.2.1, q0.2.2⟩ r := rg [0, 1] c33r20 rfl (by kernel_rfl)
def Jc33s6 (F : Nat → Option IFn) (cx : Ctx) (x1 x7 x19 x20 x21 : AV) (rows : List Row) (low : Nat) (r : AV × List Row × Nat → Prop) : Prop := Ex F cx (.code c33s6 :: .inLoop c33l2 :: .inBlock 0 :: .code c33s1 :: []) ⟨mk 41 [(1, x1), (7, x7), (19, x19), (20, x20), (21, x21)], rows, low⟩ r
def Lc33l2 (F : Nat → Option IFn) (cx : Ctx) (x1 x7 x19 x20 x21 : AV) (rows : List Row) (low : Nat) (r : AV × List Row × Nat → Prop) : Prop := Ex F cx (.code c33l2 :: .inLoop c33l2 :: .inBlock 0 :: .code c33s1 :: []) ⟨mk 41 [(1, x1), (7, x7), (19, x19), (20, x20), (21, x21)], rows, low⟩ r
@[simp] theorem nc33l2 : Ex F cx (.inLoop c33l2 :: .inBlock 0 :: .code c33s1 :: []) ⟨mk 41 l, rows, low⟩ r ↔ Lc33l2 F cx (lk l 1) (lk l 7) (lk l 19) (lk l 20) (lk l 21) rows low r := loopN (keep := [1, 7, 19, 20, 21]) (by kernel_rfl)
@[simp] theorem ec33l2 : Ex F cx (.code (.loop c33l2) :: .inBlock 0 :: .code c33s1 :: []) ⟨mk 41 l, rows, low⟩ r ↔ Lc33l2 F cx (lk l 1) (lk l 7) (lk l 19) (lk l 20) (lk l 21) rows low r := loopE (keep := [1, 7, 19, 20, 21]) (by kernel_rfl)
@[simp] theorem uc33l2 : Ex F cx (.code c33l2 :: k) s r ↔ Ex F cx (.code (.seq c33k8 c33s7) :: k) s r := Iff.rfl
def Jc33s13 (F : Nat → Option IFn) (cx : Ctx) (x1 x2 : AV) (rows : List Row) (low : Nat) (r : AV × List Row × Nat → Prop) : Prop := Ex F cx (.code c33s13 :: []) ⟨mk 41 [(1, x1), (2, x2)], rows, low⟩ r
@[simp] theorem uc33b : Ex F cx (.code c33b :: k) s r ↔ Ex F cx (.code (.seq c33k20 c33s19) :: k) s r := Iff.rfl
theorem i33 {x0 x1 : AV} (hF : F 33 = some c33) {q : AV × List Row × Option Nat} (h : Ex F (.fn [.t 4, .t 5]) [.code c33b] ⟨mk 41 [(0, x0), (1, x1)], rows, rows.length⟩ fun r => fin rows r.1 r.2.1 r.2.2 = q) : Ret F 33 [x0, x1] rows = some q := Ret_mk hF h
@[simp] theorem uc38k0 : Ex F cx (.code c38k0 :: k) ⟨mk 47 l, rows, low⟩ r ↔ bnd (evP rows (.load1 (.c (lk l 7)))) fun v0 => Ex F cx k ⟨mk 47 [(5, (.int .i64 0)), (4, v0), (46, v0), (7, lk l 7)], rows, low⟩ r := rg [7] c38r0 rfl (by kernel_rfl)
@[simp] theorem uc38s1 : Ex F cx (.code c38s1 :: k) s r ↔ Ex F cx (.code (.seq c38k0 .ret) :: k) s r := Iff.rfl
@[simp] theorem uc38k3 : Ex F cx (.code c38k3 :: k) ⟨mk 47 l, rows, low⟩ r ↔ bnd (evP rows (.bin .add (.c (lk l 26)) (.c (.int .i64 1)))) fun v0 => Ex F cx k ⟨mk 47 [(26, v0), (45, v0), (2, lk l 2), (4, lk l 4), (5, lk l 5), (7, lk l 7), (24, lk l 24), (25, lk l 25), (26, lk l 26)], rows, low⟩ r := rg [2, 4, 5, 7, 24, 25, 26] c38r3 rfl (by kernel_rfl)
@[simp] theorem uc38k5 : Ex F cx (.code c38k5 :: k) ⟨mk 47 l, rows, low⟩ r ↔ bnd (evP rows (.load1 (.c (lk l 7)))) fun v0 => bnd (evP rows (.idxS 1 (.c v0) (.c (lk l 10)))) fun v1 => bnd (evP rows (.load1 (.c v1))) fun v2 => bnd (evP rows (.load1 (.c (lk l 9)))) fun v3 => bnd (evP rows (.bin .mul (.c (lk l 11)) (.c v3))) fun v4 => bnd (evP rows (.bin .add (.c v2) (.c v4))) fun v5 => bnd (evP rows (.idxS 1 (.c v0) (.c (lk l 10)))) fun v6 => bnd (evE rows low (.store1 (.c v6) (.c v5))) fun q7 => Ex F cx k ⟨mk 47 [(44, v6), (43, v5), (42, v4), (41, v3), (40, lk l 11), (39, v2), (38, v1), (37, lk l 10), (36, v0), (7, lk l 7), (9, lk l 9), (10, lk l 10), (11, lk l 11)], q7.2.1, q7.2.2⟩ r := rg [7, 9, 10, 11] c38r5 rfl (by kernel_rfl)
@[simp] theorem uc38k6 : Ex F cx (.code c38k6 :: k) ⟨mk 47 l, rows, low⟩ r ↔ Ex F cx k ⟨mk 47 [(11, lk l 35), (7, lk l 7), (9, lk l 9), (10, lk l 10), (35, lk l 35)], rows, low⟩ r := rg [7, 9, 10, 35] c38r6 rfl (by kernel_rfl)
@[simp] theorem uc38k7 : Ex F cx (.code c38k7 :: k) ⟨mk 47 l, rows, low⟩ r ↔ Ex F cx k ⟨mk 47 [(10, lk l 34), (7, lk l 7), (9, lk l 9), (34, lk l 34), (35, lk l 35)], rows, low⟩ r := rg [7, 9, 34, 35] c38r7 rfl (by kernel_rfl)
@[simp] theorem uc38f4a : Ex F cx (.code c38f4a :: k) s r ↔ Ex F cx (.code (.seq c38k7 c38k6) :: k) s r := Iff.rfl
@[simp] theorem uc38f4b : Ex F cx (.code c38f4b :: k) s r ↔ Ex F cx (.code (.block 3 c38k5) :: k) s r := Iff.rfl
@[simp] theorem uc38s8 : Ex F cx (.code c38s8 :: k) s r ↔ Ex F cx (.code (.block 2 (.rf (.t 33) [34, 35] c38f4a c38f4b)) :: k) s r := Iff.rfl
@[simp] theorem uc38k9 : Ex F cx (.code c38k9 :: k) ⟨mk 47 l, rows, low⟩ r ↔ bnd (evP rows (.loadN 3 (.c (lk l 2)))) fun v0 => bnd (Ret F 62 [v0, lk l 8] rows) fun q1 => Ex F cx k ⟨mk 47 [(33, q1.1), (32, lk l 8), (31, v0), (2, lk l 2), (4, lk l 4), (5, lk l 5), (7, lk l 7), (8, lk l 8), (9, lk l 9), (24, lk l 24), (25, lk l 25), (26, lk l 26)], q1.2.1, (lowO low q1.2.2)⟩ r := rg [2, 4, 5, 7, 8, 9, 24, 25, 26] c38r9 rfl (by kernel_rfl)
@[simp] theorem uc38s10 : Ex F cx (.code c38s10 :: k) s r ↔ Ex F cx (.code (.seq c38k9 c38s8) :: k) s r := Iff.rfl
@[simp] theorem uc38k11 : Ex F cx (.code c38k11 :: k) ⟨mk 47 l, rows, low⟩ r ↔ bnd (evP rows (.idxS 1 (.c (lk l 24)) (.c (lk l 26)))) fun v0 => bnd (evP rows (.load1 (.c v0))) fun v1 => bnd (evE rows low (.box (.c (.int .i64 0)))) fun q2 => bnd (evE q2.2.1 q2.2.2 (.store1 (.c q2.1) (.c v1))) fun q3 => Ex F cx k ⟨mk 47 [(8, lk l 26), (9, q2.1), (30, v1), (29, v0), (28, lk l 26), (2, lk l 2), (4, lk l 4), (5, lk l 5), (7, lk l 7), (24, lk l 24), (25, lk l 25), (26, lk l 26)], q3.2.1, q3.2.2⟩ r := rg [2, 4, 5, 7, 24, 25, 26] c38r11 rfl (by kernel_rfl)
@[simp] theorem uc38s12 : Ex F cx (.code c38s12 :: k) s r ↔ Ex F cx (.code (.seq (.block 1 (.seq c38k11 c38s10)) c38k3) :: k) s r := Iff.rfl
@[simp] theorem uc38s13 : Ex F cx (.code c38s13 :: k) s r ↔ Ex F cx (.code (.seq (.cond (.t 27) .skip (.exit 0)) c38s12) :: k) s r := Iff.rfl
@[simp] theorem uc38k14 : Ex F cx (.code c38k14 :: k) ⟨mk 47 l, rows, low⟩ r ↔ bnd (evP rows (.bin .lss (.c (lk l 26)) (.c (lk l 25)))) fun v0 => Ex F cx k ⟨mk 47 [(27, v0), (2, lk l 2), (4, lk l 4), (5, lk l 5), (7, lk l 7), (24, lk l 24), (25, lk l 25), (26, lk l 26)], rows, low⟩ r := rg [2, 4, 5, 7, 24, 25, 26] c38r14 rfl (by kernel_rfl)
@[simp] theorem uc38s15 : Ex F cx (.code c38s15 :: k) s r ↔ Ex F cx (.code (.block 0 (.loop c38l2)) :: k) s r := Iff.rfl
@[simp] theorem uc38k16 : Ex F cx (.code c38k16 :: k) ⟨mk 47 l, rows, low⟩ r ↔ bnd (evP rows (.len 0 (.c (lk l 1)))) fun v0 => Ex F cx k ⟨mk 47 [(26, (.int .i64 0)), (25, v0), (24, lk l 1), (1, lk l 1), (2, lk l 2), (4, lk l 4), (5, lk l 5), (7, lk l 7)], rows, low⟩ r := rg [1, 2, 4, 5, 7] c38r16 rfl (by kernel_rfl)
@[simp] theorem uc38s17 : Ex F cx (.code c38s17 :: k) s r ↔ Ex F cx (.code (.seq (.seq c38k16 c38s15) c38s1) :: k) s r := Iff.rfl
@[simp] theorem uc38k18 : Ex F cx (.code c38k18 :: k) ⟨mk 47 l, rows, low⟩ r ↔ bnd (evP rows (.fieldA 1 (.c (lk l 2)))) fun v0 => bnd (evP rows (.load1 (.c v0))) fun v1 => bnd (evP rows (.len 0 (.c v1))) fun v2 => bnd (evE rows low (.make [.int .i64 0] 8 (.c v2) (.c v2))) fun q3 => bnd (evE q3.2.1 q3.2.2 (.box (.c .nilslice))) fun q4 => bnd (evE q4.2.1 q4.2.2 (.store1 (.c q4.1) (.c q3.1))) fun q5 => Ex F cx k ⟨mk 47 [(7, q4.1), (23, q3.1), (22, v2), (21, v1), (20, v0), (1, lk l 1), (2, lk l 2), (4, lk l 4), (5, lk l 5)], q5.2.1, q5.2.2⟩ r := rg [1, 2, 4, 5] c38r18 rfl (by kernel_rfl)
@[simp] theorem uc38s19 : Ex F cx (.code c38s19 :: k) s r ↔ Ex F cx (.code (.seq c38k18 c38s17) :: k) s r := Iff.rfl
@[simp] theorem uc38k20 : Ex F cx (.code c38k20 :: k) ⟨mk 47 l, rows, low⟩ r ↔ Ex F cx k ⟨mk 47 [(5, lk l 6), (4, .nilslice), (19, lk l 6), (6, lk l 6)], rows, low⟩ r := rg [6] c38r20 rfl (by kernel_rfl)
@[simp] theorem uc38s21 : Ex F cx (.code c38s21 :: k) s r ↔ Ex F cx (.code (.cond (.t 18) (.seq c38k20 .ret) .skip) :: k) s r := Iff.rfl
@[simp] theorem uc38k22 : Ex F cx (.code c38k22 :: k) ⟨mk 47 l, rows, low⟩ r ↔ bnd (evP rows (.bin .neq (.c (lk l 6)) (.c (.int .i64 0)))) fun v0 => Ex F cx k ⟨mk 47 [(18, v0), (17, lk l 6), (1, lk l 1), (2, lk l 2), (4, lk l 4), (5, lk l 5), (6, lk l 6)], rows, low⟩ r := rg [1, 2, 4, 5, 6] c38r22 rfl (by kernel_rfl)
@[simp] theorem uc38s23 : Ex F cx (.code c38s23 :: k) s r ↔ Ex F cx (.code (.seq c38k22 c38s21) :: k) s r := Iff.rfl
@[simp] theorem uc38k24 : Ex F cx (.code c38k24 :: k) ⟨mk 47 l, rows, low⟩ r ↔ bnd (evP rows (.loadN 3 (.c (lk l 2)))) fun v0 => bnd (evP rows (.loadN 3 (.c (lk l 2)))) fun v1 => bnd (evP rows (.bind 77 [(.c v1)])) fun v2 => bnd (Ret F 66 [v0, lk l 1, v2] rows) fun q3 => Ex F cx k ⟨mk 47 [(6, q3.1), (16, q3.1), (15, v2), (14, v1), (13, lk l 1), (12, v0), (1, lk l 1), (2, lk l 2), (4, lk l 4), (5, lk l 5)], q3.2.1, (lowO low q3.2.2)⟩ r := rg [1, 2, 4, 5] c38r24 rfl (by kernel_rfl)
@[simp] theorem uc38s25 : Ex F cx (.code c38s25 :: k) s r ↔ Ex F cx (.code (.seq (.seq c38k24 c38s23) c38s19) :: k) s r := Iff.rfl
@[simp] theorem uc38k26 : Ex F cx (.code c38k26 :: k) ⟨mk 47 l, rows, low⟩ r ↔ bnd (evE rows low (.box (.c (lk l 0)))) fun q0 => Ex F cx k ⟨mk 47 [(5, (.int .i64 0)), (4, .nilslice), (2, q0.1), (0, lk l 0), (1, lk l 1)], q0.2.1, q0.2.2⟩ r := rg [0, 1] c38r26 rfl (by kernel_rfl)
def Jc38s12 (F : Nat → Option IFn) (cx : Ctx) (x2 x4 x5 x7 x24 x25 x26 : AV) (rows : List Row) (low : Nat) (r : AV × List Row × Nat → Prop) : Prop := Ex F cx (.code c38s12 :: .inLoop c38l2 :: .inBlock 0 :: .code c38s1 :: []) ⟨mk 47 [(2, x2), (4, x4), (5, x5), (7, x7), (24, x24), (25, x25), (26, x26)], rows, low⟩ r
def Lc38l2 (F : Nat → Option IFn) (cx : Ctx) (x2 x4 x5 x7 x24 x25 x26 : AV) (rows : List Row) (low : Nat) (r : AV × List Row × Nat → Prop) : Prop := Ex F cx (.code c38l2 :: .inLoop c38l2 :: .inBlock 0 :: .code c38s1 :: []) ⟨mk 47 [(2, x2), (4, x4), (5, x5), (7, x7), (24, x24), (25, x25), (26, x26)], rows, low⟩ r
@[simp] theorem nc38l2 : Ex F cx (.inLoop c38l2 :: .inBlock 0 :: .code c38s1 :: []) ⟨mk 47 l, rows, low⟩ r ↔ Lc38l2 F cx (lk l 2) (lk l 4) (lk l 5) (lk l 7) (lk l 24) (lk l 25) (lk l 26) rows low r := loopN (keep := [2, 4, 5, 7, 24, 25, 26]) (by kernel_rfl)
@[simp] theorem ec38l2 : Ex F cx (.code (.loop c38l2) :: .inBlock 0 :: .code c38s1 :: []) ⟨mk 47 l, rows, low⟩ r ↔ Lc38l2 F cx (lk l 2) (lk l 4) (lk l 5) (lk l 7) (lk l 24) (lk l 25) (lk l 26) rows low r := loopE (keep := [2, 4, 5, 7, 24, 25, 26]) (by kernel_rfl)
@[simp] theorem uc38l2 : Ex F cx (.code c38l2 :: k) s r ↔ Ex F cx (.code (.seq c38k14 c38s13) :: k) s r := Iff.rfl
def Jc38s19 (F : Nat → Option IFn) (cx : Ctx) (x1 x2 x4 x5 : AV) (rows : List Row) (low : Nat) (r : AV × List Row × Nat → Prop) : Prop := Ex F cx (.code c38s19 :: []) ⟨mk 47 [(1, x1), (2, x2), (4, x4), (5, x5)], rows, low⟩ r
@[simp] theorem uc38b : Ex F cx (.code c38b :: k) s r ↔ Ex F cx (.code (.seq c38k26 c38s25) :: k) s r := Iff.rfl
theorem i38 {x0 x1 : AV} (hF : F 38 = some c38) {q : AV × List Row × Option Nat} (h : Ex F (.fn [.t 4, .t 5]) [.code c38b] ⟨mk 47 [(0, x0), (1, x1)], rows, rows.length⟩ fun r => fin rows r.1 r.2.1 r.2.2 = q) : Ret F 38 [x0, x1] rows = some q := Ret_mk hF h
@[simp] theorem uc40k0 : Ex F cx (.code c40k0 :: k) ⟨mk 45 l, rows, low⟩ r ↔ Ex F cx k ⟨mk 45 [(5, (.int .i64 0)), (4, lk l 7), (44, lk l 7), (7, lk l 7)], rows, low⟩ r := rg [7] c40r0 rfl (by kernel_rfl)
@[simp] theorem uc40s1 : Ex F cx (.code c40s1 :: k) s r ↔ Ex F cx (.code (.seq c40k0 .ret) :: k) s r := Iff.rfl
@[simp] theorem uc40k3 : Ex F cx (.code c40k3 :: k) ⟨mk 45 l, rows, low⟩ r ↔ bnd (evP rows (.bin .add (.c (lk l 23)) (.c (.int .i64 1)))) fun v0 => Ex F cx k ⟨mk 45 [(23, v0), (43, v0), (2, lk l 2), (3, lk l 3), (4, lk l 4), (5, lk l 5), (7, lk l 7), (22, lk l 22), (23, lk l 23)], rows, low⟩ r := rg [2, 3, 4, 5, 7, 22, 23] c40r3 rfl (by kernel_rfl)
@[simp] theorem uc40k4 : Ex F cx (.code c40k4 :: k) ⟨mk 45 l, rows, low⟩ r ↔ bnd (evP rows (.load1 (.c (lk l 9)))) fun v0 => bnd (evE rows low (.mkslice 1 [.int .i64 0] [(0, 1, (.c v0))])) fun q1 => bnd (evE q1.2.1 q1.2.2 (.app 1 8 (.c (lk l 7)) (.c q1.1))) fun q2 => Ex F cx k ⟨mk 45 [(7, q2.1), (42, q2.1), (41, q1.1), (40, v0), (39, lk l 7), (2, lk l 2), (3, lk l 3), (4, lk l 4), (5, lk l 5), (7, lk l 7), (9, lk l 9), (22, lk l 22), (23, lk l 23)], q2.2.1, q2.2.2⟩ r := rg [2, 3, 4, 5, 7, 9, 22, 23] c40r4 rfl (by kernel_rfl)
@[simp] theorem uc40k6 : Ex F cx (.code c40k6 :: k) ⟨mk 45 l, rows, low⟩ r ↔ bnd (evP rows (.load1 (.c (lk l 9)))) fun v0 => bnd (evP rows (.load1 (.c (lk l 3)))) fun v1 => bnd (evP rows (.idxS 1 (.c v1) (.c (lk l 10)))) fun v2 => bnd (evP rows (.load1 (.c v2))) fun v3 => bnd (evP rows (.bin .mul (.c (lk l 11)) (.c v3))) fun v4 => bnd (evP rows (.bin .add (.c v0) (.c v4))) fun v5 => bnd (evE rows low (.store1 (.c (lk l 9)) (.c v5))) fun q6 => Ex F cx k ⟨mk 45 [(38, v5), (37, v4), (36, v3), (35, v2), (34, lk l 10), (33, v1), (32, lk l 11), (31, v0), (3, lk l 3), (9, lk l 9), (10, lk l 10), (11, lk l 11)], q6.2.1, q6.2.2⟩ r := rg [3, 9, 10, 11] c40r6 rfl (by kernel_rfl)
@[simp] theorem uc40k7 : Ex F cx (.code c40k7 :: k) ⟨mk 45 l, rows, low⟩ r ↔ Ex F cx k ⟨mk 45 [(11, lk l 30), (3, lk l 3), (9, lk l 9), (10, lk l 10), (30, lk l 30)], rows, low⟩ r := rg [3, 9, 10, 30] c40r7 rfl (by kernel_rfl)
@[simp] theorem uc40k8 : Ex F cx (.code c40k8 :: k) ⟨mk 45 l, rows, low⟩ r ↔ Ex F cx k ⟨mk 45 [(10, lk l 29), (3, lk l 3), (9, lk l 9), (29, lk l 29), (30, lk l 30)], rows, low⟩ r := rg [3, 9, 29, 30] c40r8 rfl (by kernel_rfl)
@[simp] theorem uc40f5a : Ex F cx (.code c40f5a :: k) s r ↔ Ex F cx (.code (.seq c40k8 c40k7) :: k) s r := Iff.rfl
@[simp] theorem uc40f5b : Ex F cx (.code c40f5b :: k) s r ↔ Ex F cx (.code (.block 3 c40k6) :: k) s r := Iff.rfl
@[simp] theorem uc40s9 : Ex F cx (.code c40s9 :: k) s r ↔ Ex F cx (.code (.block 2 (.rf (.t 28) [29, 30] c40f5a c40f5b)) :: k) s r := Iff.rfl
@[simp] theorem uc40k10 : Ex F cx (.code c40k10 :: k) ⟨mk 45 l, rows, low⟩ r ↔ bnd (evP rows (.loadN 3 (.c (lk l 2)))) fun v0 => bnd (Ret F 62 [v0, lk l 8] rows) fun q1 => Ex F cx k ⟨mk 45 [(28, q1.1), (27, lk l 8), (26, v0), (2, lk l 2), (3, lk l 3), (4, lk l 4), (5, lk l 5), (7, lk l 7), (8, lk l 8), (9, lk l 9), (22, lk l 22), (23, lk l 23)], q1.2.1, (lowO low q1.2.2)⟩ r := rg [2, 3, 4, 5, 7, 8, 9, 22, 23] c40r10 rfl (by kernel_rfl)
@[simp] theorem uc40s11 : Ex F cx (.code c40s11 :: k) s r ↔ Ex F cx (.code (.seq (.seq c40k10 c40s9) c40k4) :: k) s r := Iff.rfl
@[simp] theorem uc40k12 : Ex F cx (.code c40k12 :: k) ⟨mk 45 l, rows, low⟩ r ↔ bnd (evE rows low (.box (.c (.int .i64 0)))) fun q0 => bnd (evE q0.2.1 q0.2.2 (.store1 (.c q0.1) (.c (.int .i64 0)))) fun q1 => Ex F cx k ⟨mk 45 [(9, q0.1), (2, lk l 2), (3, lk l 3), (4, lk l 4), (5, lk l 5), (7, lk l 7), (8, lk l 8), (22, lk l 22), (23, lk l 23)], q1.2.1, q1.2.2⟩ r := rg [2, 3, 4, 5, 7, 8, 22, 23] c40r12 rfl (by kernel_rfl)
@[simp] theorem uc40s13 : Ex F cx (.code c40s13 :: k) s r ↔ Ex F cx (.code (.seq c40k12 c40s11) :: k) s r := Iff.rfl
@[simp] theorem uc40k14 : Ex F cx (.code c40k14 :: k) ⟨mk 45 l, rows, low⟩ r ↔ Ex F cx k ⟨mk 45 [(8, lk l 23), (25, lk l 23), (2, lk l 2), (3, lk l 3), (4, lk l 4), (5, lk l 5), (7, lk l 7), (22, lk l 22), (23, lk l 23)], rows, low⟩ r := rg [2, 3, 4, 5, 7, 22, 23] c40r14 rfl (by kernel_rfl)
@[simp] theorem uc40s15 : Ex F cx (.code c40s15 :: k) s r ↔ Ex F cx (.code (.seq (.block 1 (.seq c40k14 c40s13)) c40k3) :: k) s r := Iff.rfl
@[simp] theorem uc40s16 : Ex F cx (.code c40s16 :: k) s r ↔ Ex F cx (.code (.seq (.cond (.t 24) .skip (.exit 0)) c40s15) :: k) s r := Iff.rfl
@[simp] theorem uc40k17 : Ex F cx (.code c40k17 :: k) ⟨mk 45 l, rows, low⟩ r ↔ bnd (evP rows (.bin .lss (.c (lk l 23)) (.c (lk l 22)))) fun v0 => Ex F cx k ⟨mk 45 [(24, v0), (2, lk l 2), (3, lk l 3), (4, lk l 4), (5, lk l 5), (7, lk l 7), (22, lk l 22), (23, lk l 23)], rows, low⟩ r := rg [2, 3, 4, 5, 7, 22, 23] c40r17 rfl (by kernel_rfl)
@[simp] theorem uc40s18 : Ex F cx (.code c40s18 :: k) s r ↔ Ex F cx (.code (.block 0 (.loop c40l2)) :: k) s r := Iff.rfl
@[simp] theorem uc40k19 : Ex F cx (.code c40k19 :: k) ⟨mk 45 l, rows, low⟩ r ↔ bnd (evP rows (.fieldA 2 (.c (lk l 2)))) fun v0 => bnd (evP rows (.load1 (.c v0))) fun v1 => bnd (evP rows (.len 0 (.c v1))) fun v2 => Ex F cx k ⟨mk 45 [(23, (.int .i64 0)), (22, v2), (21, v1), (20, v0), (2, lk l 2), (3, lk l 3), (4, lk l 4), (5, lk l 5), (7, lk l 7)], rows, low⟩ r := rg [2, 3, 4, 5, 7] c40r19 rfl (by kernel_rfl)
@[simp] theorem uc40s20 : Ex F cx (.code c40s20 :: k) s r ↔ Ex F cx (.code (.seq (.seq c40k19 c40s18) c40s1) :: k) s r := Iff.rfl
@[simp] theorem uc40k21 : Ex F cx (.code c40k21 :: k) ⟨mk 45 l, rows, low⟩ r ↔ Ex F cx k ⟨mk 45 [(7, .nilslice), (2, lk l 2), (3, lk l 3), (4, lk l 4), (5, lk l 5)], rows, low⟩ r := rg [2, 3, 4, 5] c40r21 rfl (by kernel_rfl)
@[simp] theorem uc40s22 : Ex F cx (.code c40s22 :: k) s r ↔ Ex F cx (.code (.seq c40k21 c40s20) :: k) s r := Iff.rfl
@[simp] theorem uc40k23 : Ex F cx (.code c40k23 :: k) ⟨mk 45 l, rows, low⟩ r ↔ Ex F cx k ⟨mk 45 [(5, lk l 6), (4, .nilslice), (19, lk l 6), (6, lk l 6)], rows, low⟩ r := rg [6] c40r23 rfl (by kernel_rfl)
@[simp] theorem uc40s24 : Ex F cx (.code c40s24 :: k) s r ↔ Ex F cx (.code (.cond (.t 18) (.seq c40k23 .ret) .skip) :: k) s r := Iff.rfl
@[simp] theorem uc40k25 : Ex F cx (.code c40k25 :: k) ⟨mk 45 l, rows, low⟩ r ↔ bnd (evP rows (.bin .neq (.c (lk l 6)) (.c (.int .i64 0)))) fun v0 => Ex F cx k ⟨mk 45 [(18, v0), (17, lk l 6), (2, lk l 2), (3, lk l 3), (4, lk l 4), (5, lk l 5), (6, lk l 6)], rows, low⟩ r := rg [2, 3, 4, 5, 6] c40r25 rfl (by kernel_rfl)
@[simp] theorem uc40s26 : Ex F cx (.code c40s26 :: k) s r ↔ Ex F cx (.code (.seq c40k25 c40s24) :: k) s r := Iff.rfl
@[simp] theorem uc40k27 : Ex F cx (.code c40k27 :: k) ⟨mk 45 l, rows, low⟩ r ↔ bnd (evP rows (.loadN 3 (.c (lk l 2)))) fun v0 => bnd (evP rows (.load1 (.c (lk l 3)))) fun v1 => bnd (evP rows (.loadN 3 (.c (lk l 2)))) fun v2 => bnd (evP rows (.bind 67 [(.c v2)])) fun v3 => bnd (Ret F 66 [v0, v1, v3] rows) fun q4 => Ex F cx k ⟨mk 45 [(6, q4.1), (16, q4.1), (15, v3), (14, v2), (13, v1), (12, v0), (2, lk l 2), (3, lk l 3), (4, lk l 4), (5, lk l 5)], q4.2.1, (lowO low q4.2.2)⟩ r := rg [2, 3, 4, 5] c40r27 rfl (by kernel_rfl)
@[simp] theorem uc40s28 : Ex F cx (.code c40s28 :: k) s r ↔ Ex F cx (.code (.seq (.seq c40k27 c40s26) c40s22) :: k) s r := Iff.rfl
@[simp] theorem uc40k29 : Ex F cx (.code c40k29 :: k) ⟨mk 45 l, rows, low⟩ r ↔ bnd (evE rows low (.box (.c (lk l 0)))) fun q0 => bnd (evE q0.2.1 q0.2.2 (.box (.c (lk l 1)))) fun q1 => Ex F cx k ⟨mk 45 [(5, (.int .i64 0)), (4, .nilslice), (3, q1.1), (2, q0.1), (0, lk l 0), (1, lk l 1)], q1.2.1, q1.2.2⟩ r := rg [0, 1] c40r29 rfl (by kernel_rfl)
def Jc40s15 (F : Nat → Option IFn) (cx : Ctx) (x2 x3 x4 x5 x7 x22 x23 : AV) (rows : List Row) (low : Nat) (r : AV × List Row × Nat → Prop) : Prop := Ex F cx (.code c40s15 :: .inLoop c40l2 :: .inBlock 0 :: .code c40s1 :: []) ⟨mk 45 [(2, x2), (3, x3), (4, x4), (5, x5), (7, x7), (22, x22), (23, x23)], rows, low⟩ r
def Lc40l2 (F : Nat → Option IFn) (cx : Ctx) (x2 x3 x4 x5 x7 x22 x23 : AV) (rows : List Row) (low : Nat) (r : AV × List Row × Nat → Prop) : Prop := Ex F cx (.code c40l2 :: .inLoop c40l2 :: .inBlock 0 :: .code c40s1 :: []) ⟨mk 45 [(2, x2), (3, x3), (4, x4), (5, x5), (7, x7), (22, x22), (23, x23)], rows, low⟩ r
@[simp] theorem nc40l2 : Ex F cx (.inLoop c40l2 :: .inBlock 0 :: .code c40s1 :: []) ⟨mk 45 l, rows, low⟩ r ↔ Lc40l2 F cx (lk l 2) (lk l 3) (lk l 4) (lk l 5) (lk l 7) (lk l 22) (lk l 23) rows low r := loopN (keep := [2, 3, 4, 5, 7, 22, 23]) (by kernel_rfl)
@[simp] theorem ec40l2 : Ex F cx (.code (.loop c40l2) :: .inBlock 0 :: .code c40s1 :: []) ⟨mk 45 l, rows, low⟩ r ↔ Lc40l2 F cx (lk l 2) (lk l 3) (lk l 4) (lk l 5) (lk l 7) (lk l 22) (lk l 23) rows low r := loopE (keep := [2, 3, 4, 5, 7, 22, 23]) (by kernel_rfl)
@[simp] theorem uc40l2 : Ex F cx (.code c40l2 :: k) s r ↔ Ex F cx (.code (.seq c40k17 c40s16) :: k) s r := Iff.rfl
def Jc40s22 (F : Nat → Option IFn) (cx : Ctx) (x2 x3 x4 x5 : AV) (rows : List Row) (low : Nat) (r : AV × List Row × Nat → Prop) : Prop := Ex F cx (.code c40s22 :: []) ⟨mk 45 [(2, x2), (3, x3), (4, x4), (5, x5)], rows, low⟩ r
@[simp] theorem uc40b : Ex F cx (.code c40b :: k) s r ↔ Ex F cx (.code (.seq c40k29 c40s28) :: k) s r := Iff.rfl
theorem i40 {x0 x1 : AV} (hF : F 40 = some c40) {q : AV × List Row × Option Nat} (h : Ex F (.fn [.t 4, .t 5]) [.code c40b] ⟨mk 45 [(0, x0), (1, x1)], rows, rows.length⟩ fun r => fin rows r.1 r.2.1 r.2.2 = q) : Ret F 40 [x0, x1] rows = some q := Ret_mk hF h
@[simp] theorem uc49k0 : Ex F cx (.code c49k0 :: k) ⟨mk 41 l, rows, low⟩ r ↔ Ex F cx k ⟨mk 41 [(4, lk l 5), (40, lk l 5), (5, lk l 5)], rows, low⟩ r := rg [5] c49r0 rfl (by kernel_rfl)
@[simp] theorem uc49s1 : Ex F cx (.code c49s1 :: k) s r ↔ Ex F cx (.code (.seq c49k0 .ret) :: k) s r := Iff.rfl
@[simp] theorem uc49k3 : Ex F cx (.code c49k3 :: k) ⟨mk 41 l, rows, low⟩ r ↔ bnd (evP rows (.bin .add (.c (lk l 6)) (.c (.int .i64 1)))) fun v0 => Ex F cx k ⟨mk 41 [(6, v0), (17, v0), (16, lk l 6), (1, lk l 1), (2, lk l 2), (5, lk l 5), (6, lk l 6)], rows, low⟩ r := rg [1, 2, 5, 6] c49r3 rfl (by kernel_rfl)
@[simp] theorem uc49k4 : Ex F cx (.code c49k4 :: k) ⟨mk 41 l, rows, low⟩ r ↔ bnd (evP rows (.fieldA 1 (.c (lk l 2)))) fun v0 => bnd (evP rows (.load1 (.c v0))) fun v1 => bnd (evP rows (.idxS 2 (.c v1) (.c (lk l 6)))) fun v2 => bnd (evP rows (.idxA 2 1 (.c v2) (.c (.int .i64 1)))) fun v3 => bnd (evP rows (.load1 (.c v3))) fun v4 => bnd (evP rows (.idxS 1 (.c (lk l 1)) (.c v4))) fun v5 => bnd (evP rows (.load1 (.c v5))) fun v6 => bnd (evP rows (.fieldA 1 (.c (lk l 2)))) fun v7 => bnd (evP rows (.load1 (.c v7))) fun v8 => bnd (evP rows (.idxS 2 (.c v8) (.c (lk l 6)))) fun v9 => bnd (evP rows (.idxA 2 1 (.c v9) (.c (.int .i64 0)))) fun v10 => bnd (evP rows (.load1 (.c v10))) fun v11 => bnd (evP rows (.idxS 1 (.c (lk l 1)) (.c v11))) fun v12 => bnd (evP rows (.load1 (.c v12))) fun v13 => bnd (evP rows (.bin .sub (.c v6) (.c v13))) fun v14 => bnd (evP rows (.idxS 1 (.c (lk l 5)) (.c (lk l 6)))) fun v15 => bnd (evE rows low (.store1 (.c v15) (.c v14))) fun q16 => Ex F cx k ⟨mk 41 [(39, v15), (38, v14), (37, v13), (36, v12), (35, v11), (34, v10), (33, v9), (32, lk l 6), (31, v8), (30, v7), (29, lk l 1), (28, v6), (27, v5), (26, v4), (25, v3), (24, v2), (23, lk l 6), (22, v1), (21, v0), (20, lk l 1), (19, lk l 6), (18, lk l 5), (1, lk l 1), (2, lk l 2), (5, lk l 5), (6, lk l 6)], q16.2.1, q16.2.2⟩ r := rg [1, 2, 5, 6] c49r4 rfl (by kernel_rfl)
@[simp] theorem uc49s5 : Ex F cx (.code c49s5 :: k) s r ↔ Ex F cx (.code (.seq (.block 1 c49k4) c49k3) :: k) s r := Iff.rfl
@[simp] theorem uc49s6 : Ex F cx (.code c49s6 :: k) s r ↔ Ex F cx (.code (.cond (.t 15) .skip (.exit 0)) :: k) s r := Iff.rfl
@[simp] theorem uc49k7 : Ex F cx (.code c49k7 :: k) ⟨mk 41 l, rows, low⟩ r ↔ bnd (evP rows (.fieldA 1 (.c (lk l 2)))) fun v0 => bnd (evP rows (.load1 (.c v0))) fun v1 => bnd (evP rows (.len 0 (.c v1))) fun v2 => bnd (evP rows (.bin .lss (.c (lk l 6)) (.c v2))) fun v3 => Ex F cx k ⟨mk 41 [(15, v3), (14, v2), (13, v1), (12, v0), (11, lk l 6), (1, lk l 1), (2, lk l 2), (5, lk l 5), (6, lk l 6)], rows, low⟩ r := rg [1, 2, 5, 6] c49r7 rfl (by kernel_rfl)
@[simp] theorem uc49s8 : Ex F cx (.code c49s8 :: k) s r ↔ Ex F cx (.code (.block 0 (.loop c49l2)) :: k) s r := Iff.rfl
@[simp] theorem uc49k9 : Ex F cx (.code c49k9 :: k) ⟨mk 41 l, rows, low⟩ r ↔ Ex F cx k ⟨mk 41 [(6, (.int .i64 0)), (1, lk l 1), (2, lk l 2), (5, lk l 5)], rows, low⟩ r := rg [1, 2, 5] c49r9 rfl (by kernel_rfl)
@[simp] theorem uc49s10 : Ex F cx (.code c49s10 :: k) s r ↔ Ex F cx (.code (.seq (.seq c49k9 c49s8) c49s1) :: k) s r := Iff.rfl
@[simp] theorem uc49k11 : Ex F cx (.code c49k11 :: k) ⟨mk 41 l, rows, low⟩ r ↔ bnd (evP rows (.fieldA 1 (.c (lk l 2)))) fun v0 => bnd (evP rows (.load1 (.c v0))) fun v1 => bnd (evP rows (.len 0 (.c v1))) fun v2 => bnd (evE rows low (.make [.int .i64 0] 8 (.c v2) (.c v2))) fun q3 => Ex F cx k ⟨mk 41 [(5, q3.1), (10, q3.1), (9, v2), (8, v1), (7, v0), (1, lk l 1), (2, lk l 2)], q3.2.1, q3.2.2⟩ r := rg [1, 2] c49r11 rfl (by kernel_rfl)
@[simp] theorem uc49s12 : Ex F cx (.code c49s12 :: k) s r ↔ Ex F cx (.code (.seq c49k11 c49s10) :: k) s r := Iff.rfl
@[simp] theorem uc49k13 : Ex F cx (.code c49k13 :: k) ⟨mk 41 l, rows, low⟩ r ↔ bnd (evE rows low (.box (.c (lk l 0)))) fun q0 => Ex F cx k ⟨mk 41 [(4, .nilslice), (2, q0.1), (0, lk l 0), (1, lk l 1)], q0.2.1, q0.2.2⟩ r := rg [0, 1] c49r13 rfl (by kernel_rfl)
def Jc49s5 (F : Nat → Option IFn) (cx : Ctx) (x1 x2 x5 x6 : AV) (rows : List Row) (low : Nat) (r : AV × List Row × Nat → Prop) : Prop := Ex F cx (.code c49s5 :: .inLoop c49l2 :: .inBlock 0 :: .code c49s1 :: []) ⟨mk 41 [(1, x1), (2, x2), (5, x5), (6, x6)], rows, low⟩ r
def Lc49l2 (F : Nat → Option IFn) (cx : Ctx) (x1 x2 x5 x6 : AV) (rows : List Row) (low : Nat) (r : AV × List Row × Nat → Prop) : Prop := Ex F cx (.code c49l2 :: .inLoop c49l2 :: .inBlock 0 :: .code c49s1 :: []) ⟨mk 41 [(1, x1), (2, x2), (5, x5), (6, x6)], rows, low⟩ r
@[simp] theorem nc49l2 : Ex F cx (.inLoop c49l2 :: .inBlock 0 :: .code c49s1 :: []) ⟨mk 41 l, rows, low⟩ r ↔ Lc49l2 F cx (lk l 1) (lk l 2) (lk l 5) (lk l 6) rows low r := loopN (keep := [1, 2, 5, 6]) (by kernel_rfl)
@[simp] theorem ec49l2 : Ex F cx (.code (.loop c49l2) :: .inBlock 0 :: .code c49s1 :: []) ⟨mk 41 l, rows, low⟩ r ↔ Lc49l2 F cx (lk l 1) (lk l 2) (lk l 5) (lk l 6) rows low r := loopE (keep := [1, 2, 5, 6]) (by kernel_rfl)
@[simp] theorem uc49l2 : Ex F cx (.code c49l2 :: k) s r ↔ Ex F cx (.code (.seq (.seq c49k7 c49s6) c49s5) :: k) s r := Iff.rfl
@[simp] theorem uc49b : Ex F cx (.code c49b :: k) s r ↔ Ex F cx (.code (.seq c49k13 c49s12) :: k) s r := Iff.rfl
theorem i49 {x0 x1 : AV} (hF : F 49 = some c49) {q : AV × List Row × Option Nat} (h : Ex F (.fn [.t 4]) [.code c49b] ⟨mk 41 [(0, x0), (1, x1)], rows, rows.length⟩ fun r => fin rows r.1 r.2.1 r.2.2 = q) : Ret F 49 [x0, x1] rows = some q := Ret_mk hF h
@[simp] theorem uc50k0 : Ex F cx (.code c50k0 :: k) ⟨mk 19 l, rows, low⟩ r ↔ bnd (evP (rows ++ maskE 0 ([] : List (Nat × Row))) (.loadN 3 (.c (lk l 1)))) fun v0 => bnd (evP (rows ++ maskE 0 ([] : List (Nat × Row))) (.fieldA 1 (.c (lk l 1)))) fun v1 => bnd (evP (rows ++ maskE 2 ([] : List (Nat × Row))) (.load1 (.c v1))) fun v2 => bnd (evP (rows ++ maskE 6 ([] : List (Nat × Row))) (.len 0 (.c v2))) fun v3 => bnd (evE (rows ++ maskE 14 ([] : List (Nat × Row))) (rows.length + ([] : List (Nat × Row)).length) (.make [.int .i64 0] 8 (.c v3) (.c v3))) fun q4 => q4.2.2 = rows.length + ([] : List (Nat × Row)).length ∧ bnd (some (([] : List (Nat × Row)) ++ List.map (fun (x : Row) => (4, x)) (q4.2.1.drop (rows.length + ([] : List (Nat × Row)).length)))) fun e4 => bnd (Ret F 78 [v0, q4.1] (rows ++ List.map (fun (x : Nat × Row) => x.2) e4)) fun q5 => bnd (evP q5.2.1 (.nilck (.c q5.1))) fun v6 => bnd (evP q5.2.1 (.fieldA 12 (.c v6))) fun v7 => bnd (evP q5.2.1 (.load1 (.c v7))) fun v8 => Ex F cx k ⟨mk 19 [(3, (.int .i64 0)), (2, v8), (18, v8), (17, v7), (16, v6), (15, q5.1), (14, q4.1), (13, v3), (12, v2), (11, v1), (10, v0), (1, lk l 1)], q5.2.1, (lowO low q5.2.2)⟩ r := rg [1] c50r0 rfl (by kernel_rfl)
@[simp] theorem uc50s1 : Ex F cx (.code c50s1 :: k) s r ↔ Ex F cx (.code (.seq c50k0 .ret) :: k) s r := Iff.rfl
@[simp] theorem uc50k2 : Ex F cx (.code c50k2 :: k) ⟨mk 19 l, rows, low⟩ r ↔ Ex F cx k ⟨mk 19 [(3, lk l 4), (2, (.int .i64 0)), (9, lk l 4), (4, lk l 4)], rows, low⟩ r := rg [4] c50r2 rfl (by kernel_rfl)
@[simp] theorem uc50s3 : Ex F cx (.code c50s3 :: k) s r ↔ Ex F cx (.code (.cond (.t 8) (.seq c50k2 .ret) .skip) :: k) s r := Iff.rfl
@[simp] theorem uc50k4 : Ex F cx (.code c50k4 :: k) ⟨mk 19 l, rows, low⟩ r ↔ bnd (evP rows (.bin .neq (.c (lk l 4)) (.c (.int .i64 0)))) fun v0 => Ex F cx k ⟨mk 19 [(8, v0), (7, lk l 4), (1, lk l 1), (4, lk l 4)], rows, low⟩ r := rg [1, 4] c50r4 rfl (by kernel_rfl)
@[simp] theorem uc50s5 : Ex F cx (.code c50s5 :: k) s r ↔ Ex F cx (.code (.seq c50k4 c50s3) :: k) s r := Iff.rfl
@[simp] theorem uc50k6 : Ex F cx (.code c50k6 :: k) ⟨mk 19 l, rows, low⟩ r ↔ bnd (evP rows (.loadN 3 (.c (lk l 1)))) fun v0 => bnd (Ret F 59 [v0] rows) fun q1 => Ex F cx k ⟨mk 19 [(4, q1.1), (6, q1.1), (5, v0), (1, lk l 1)], q1.2.1, (lowO low q1.2.2)⟩ r := rg [1] c50r6 rfl (by kernel_rfl)
@[simp] theorem uc50s7 : Ex F cx (.code c50s7 :: k) s r ↔ Ex F cx (.code (.seq (.seq c50k6 c50s5) c50s1) :: k) s r := Iff.rfl
@[simp] theorem uc50k8 : Ex F cx (.code c50k8 :: k) ⟨mk 19 l, rows, low⟩ r ↔ bnd (evE rows low (.box (.c (lk l 0)))) fun q0 => Ex F cx k ⟨mk 19 [(3, (.int .i64 0)), (2, (.int .i64 0)), (1, q0.1), (0, lk l 0)], q0.2.1, q0.2.2⟩ r := rg [0] c50r8 rfl (by kernel_rfl)
def Jc50s1 (F : Nat → Option IFn) (cx : Ctx) (x1 : AV) (rows : List Row) (low : Nat) (r : AV × List Row × Nat → Prop) : Prop := Ex F cx (.code c50s1 :: []) ⟨mk 19 [(1, x1)], rows, low⟩ r
@[simp] theorem uc50b : Ex F cx (.code c50b :: k) s r ↔ Ex F cx (.code (.seq c50k8 c50s7) :: k) s r := Iff.rfl
theorem i50 {x0 : AV} (hF : F 50 = some c50) {q : AV × List Row × Option Nat} (h : Ex F (.fn [.t 2, .t 3]) [.code c50b] ⟨mk 19 [(0, x0)], rows, rows.length⟩ fun r => fin rows r.1 r.2.1 r.2.2 = q) : Ret F 50 [x0] rows = some q := Ret_mk hF h
@[simp] theorem uc51k0 : Ex F cx (.code c51k0 :: k) ⟨mk 31 l, rows, low⟩ r ↔ bnd (evE rows low (.mkslice 2 [.nilslice, .nilslice] [(0, 1, (.c (lk l 6))), (1, 1, (.c (lk l 8)))])) fun q0 => bnd (Ret F 84 [q0.1] q0.2.1) fun q1 => bnd (Ret F 83 [q1.1, (.func 85 [])] q1.2.1) fun q2 => bnd (evP q2.2.1 (.un .not (.c q2.1))) fun v3 => Ex F cx k ⟨mk 31 [(5, lk l 7), (4, v3), (30, lk l 7), (29, v3), (28, q2.1), (27, q1.1), (26, q0.1), (25, lk l 8), (24, lk l 6), (6, lk l 6), (7, lk l 7), (8, lk l 8)], q2.2.1, (lowO (lowO q0.2.2 q1.2.2) q2.2.2)⟩ r := rg [6, 7, 8] c51r0 rfl (by kernel_rfl)
@[simp] theorem uc51s1 : Ex F cx (.code c51s1 :: k) s r ↔ Ex F cx (.code (.seq c51k0 .ret) :: k) s r := Iff.rfl
@[simp] theorem uc51k2 : Ex F cx (.code c51k2 :: k) ⟨mk 31 l, rows, low⟩ r ↔ bnd (evP rows (.loadN 3 (.c (lk l 2)))) fun v0 => bnd (Ret F 40 [v0, lk l 1] rows) fun q1 => bnd (evP q1.2.1 (.ext (.c q1.1) 0)) fun v2 => bnd (evP q1.2.1 (.ext (.c q1.1) 1)) fun v3 => Ex F cx k ⟨mk 31 [(7, v3), (8, v2), (23, v3), (22, v2), (18, q1.1), (21, q1.1), (20, lk l 1), (19, v0), (1, lk l 1), (2, lk l 2), (6, lk l 6)], q1.2.1, (lowO low q1.2.2)⟩ r := rg [1, 2, 6] c51r2 rfl (by kernel_rfl)
@[simp] theorem uc51s3 : Ex F cx (.code c51s3 :: k) s r ↔ Ex F cx (.code (.seq c51k2 c51s1) :: k) s r := Iff.rfl
@[simp] theorem uc51k4 : Ex F cx (.code c51k4 :: k) ⟨mk 31 l, rows, low⟩ r ↔ Ex F cx k ⟨mk 31 [(5, lk l 7), (4, (.bool false)), (17, lk l 7), (7, lk l 7)], rows, low⟩ r := rg [7] c51r4 rfl (by kernel_rfl)
@[simp] theorem uc51s5 : Ex F cx (.code c51s5 :: k) s r ↔ Ex F cx (.code (.cond (.t 16) (.seq c51k4 .ret) .skip) :: k) s r := Iff.rfl
@[simp] theorem uc51k6 : Ex F cx (.code c51k6 :: k) ⟨mk 31 l, rows, low⟩ r ↔ bnd (evP rows (.bin .neq (.c (lk l 7)) (.c (.int .i64 0)))) fun v0 => Ex F cx k ⟨mk 31 [(16, v0), (15, lk l 7), (1, lk l 1), (2, lk l 2), (6, lk l 6), (7, lk l 7)], rows, low⟩ r := rg [1, 2, 6, 7] c51r6 rfl (by kernel_rfl)
@[simp] theorem uc51s7 : Ex F cx (.code c51s7 :: k) s r ↔ Ex F cx (.code (.seq (.seq c51k6 c51s5) c51s3) :: k) s r := Iff.rfl
@[simp] theorem uc51k8 : Ex F cx (.code c51k8 :: k) ⟨mk 31 l, rows, low⟩ r ↔ bnd (evP rows (.loadN 3 (.c (lk l 2)))) fun v0 => bnd (Ret F 22 [v0, lk l 1] rows) fun q1 => bnd (evP q1.2.1 (.ext (.c q1.1) 0)) fun v2 => bnd (evP q1.2.1 (.ext (.c q1.1) 1)) fun v3 => Ex F cx k ⟨mk 31 [(7, v3), (6, v2), (14, v3), (13, v2), (9, q1.1), (12, q1.1), (11, lk l 1), (10, v0), (1, lk l 1), (2, lk l 2)], q1.2.1, (lowO low q1.2.2)⟩ r := rg [1, 2] c51r8 rfl (by kernel_rfl)
@[simp] theorem uc51s9 : Ex F cx (.code c51s9 :: k) s r ↔ Ex F cx (.code (.seq c51k8 c51s7) :: k) s r := Iff.rfl
@[simp] theorem uc51k10 : Ex F cx (.code c51k10 :: k) ⟨mk 31 l, rows, low⟩ r ↔ bnd (evE rows low (.box (.c (lk l 0)))) fun q0 => Ex F cx k ⟨mk 31 [(5, (.int .i64 0)), (4, (.bool false)), (2, q0.1), (0, lk l 0), (1, lk l 1)], q0.2.1, q0.2.2⟩ r := rg [0, 1] c51r10 rfl (by kernel_rfl)
def Jc51s3 (F : Nat → Option IFn) (cx : Ctx) (x1 x2 x6 : AV) (rows : List Row) (low : Nat) (r : AV × List Row × Nat → Prop) : Prop := Ex F cx (.code c51s3 :: []) ⟨mk 31 [(1, x1), (2, x2), (6, x6)], rows, low⟩ r
@[simp] theorem uc51b : Ex F cx (.code c51b :: k) s r ↔ Ex F cx (.code (.seq c51k10 c51s9) :: k) s r := Iff.rfl
theorem i51 {x0 x1 : AV} (hF : F 51 = some c51) {q : AV × List Row × Option Nat} (h : Ex F (.fn [.t 4, .t 5]) [.code c51b] ⟨mk 31 [(0, x0), (1, x1)], rows, rows.length⟩ fun r => fin rows r.1 r.2.1 r.2.2 = q) : Ret F 51 [x0, x1] rows = some q := Ret_mk hF h
@[simp] theorem uc54k0 : Ex F cx (.code c54k0 :: k) ⟨mk 65 l, rows, low⟩ r ↔ Ex F cx k ⟨mk 65 [(4, lk l 5), (64, lk l 5), (5, lk l 5)], rows, low⟩ r := rg [5] c54r0 rfl (by kernel_rfl)
@[simp] theorem uc54s1 : Ex F cx (.code c54s1 :: k) s r ↔ Ex F cx (.code (.seq c54k0 .ret) :: k) s r := Iff.rfl
@[simp] theorem uc54k3 : Ex F cx (.code c54k3 :: k) ⟨mk 65 l, rows, low⟩ r ↔ bnd (evP rows (.bin .add (.c (lk l 6)) (.c (.int .i64 1)))) fun v0 => Ex F cx k ⟨mk 65 [(6, v0), (18, v0), (17, lk l 6), (1, lk l 1), (2, lk l 2), (5, lk l 5), (6, lk l 6)], rows, low⟩ r := rg [1, 2, 5, 6] c54r3 rfl (by kernel_rfl)
@[simp] theorem uc54k4 : Ex F cx (.code c54k4 :: k) ⟨mk 65 l, rows, low⟩ r ↔ bnd (evP rows (.idxA 3 1 (.c (lk l 7)) (.c (.int .i64 2)))) fun v0 => bnd (evP rows (.load1 (.c v0))) fun v1 => bnd (evP rows (.idxA 3 1 (.c (lk l 7)) (.c (.int .i64 2)))) fun v2 => bnd (evP rows (.load1 (.c v2))) fun v3 => bnd (evP rows (.idxS 1 (.c (lk l 5)) (.c v3))) fun v4 => bnd (evP rows (.load1 (.c v4))) fun v5 => bnd (evP rows (.idxS 1 (.c (lk l 1)) (.c (lk l 6)))) fun v6 => bnd (evP rows (.load1 (.c v6))) fun v7 => bnd (evP rows (.bin .sub (.c v5) (.c v7))) fun v8 => bnd (evP rows (.idxS 1 (.c (lk l 5)) (.c v1))) fun v9 => bnd (evE rows low (.store1 (.c v9) (.c v8))) fun q10 => Ex F cx k ⟨mk 65 [(63, v9), (62, v8), (61, v7), (60, v6), (59, lk l 6), (58, lk l 1), (57, v5), (56, v4), (55, v3), (54, v2), (53, lk l 5), (52, v1), (51, v0), (50, lk l 5), (1, lk l 1), (2, lk l 2), (5, lk l 5), (6, lk l 6), (7, lk l 7)], q10.2.1, q10.2.2⟩ r := rg [1, 2, 5, 6, 7] c54r4 rfl (by kernel_rfl)
@[simp] theorem uc54k5 : Ex F cx (.code c54k5 :: k) ⟨mk 65 l, rows, low⟩ r ↔ bnd (evP rows (.idxA 3 1 (.c (lk l 7)) (.c (.int .i64 1)))) fun v0 => bnd (evP rows (.load1 (.c v0))) fun v1 => bnd (evP rows (.idxA 3 1 (.c (lk l 7)) (.c (.int .i64 1)))) fun v2 => bnd (evP rows (.load1 (.c v2))) fun v3 => bnd (evP rows (.idxS 1 (.c (lk l 5)) (.c v3))) fun v4 => bnd (evP rows (.load1 (.c v4))) fun v5 => bnd (evP rows (.idxS 1 (.c (lk l 1)) (.c (lk l 6)))) fun v6 => bnd (evP rows (.load1 (.c v6))) fun v7 => bnd (evP rows (.bin .add (.c v5) (.c v7))) fun v8 => bnd (evP rows (.idxS 1 (.c (lk l 5)) (.c v1))) fun v9 => bnd (evE rows low (.store1 (.c v9) (.c v8))) fun q10 => Ex F cx k ⟨mk 65 [(49, v9), (48, v8), (47, v7), (46, v6), (45, lk l 6), (44, lk l 1), (43, v5), (42, v4), (41, v3), (40, v2), (39, lk l 5), (38, v1), (37, v0), (36, lk l 5), (1, lk l 1), (2, lk l 2), (5, lk l 5), (6, lk l 6), (7, lk l 7)], q10.2.1, q10.2.2⟩ r := rg [1, 2, 5, 6, 7] c54r5 rfl (by kernel_rfl)
@[simp] theorem uc54s6 : Ex F cx (.code c54s6 :: k) s r ↔ Ex F cx (.code (.seq c54k5 c54k4) :: k) s r := Iff.rfl
@[simp] theorem uc54k7 : Ex F cx (.code c54k7 :: k) ⟨mk 65 l, rows, low⟩ r ↔ bnd (evP rows (.idxA 3 1 (.c (lk l 7)) (.c (.int .i64 0)))) fun v0 => bnd (evP rows (.load1 (.c v0))) fun v1 => bnd (evP rows (.idxA 3 1 (.c (lk l 7)) (.c (.int .i64 0)))) fun v2 => bnd (evP rows (.load1 (.c v2))) fun v3 => bnd (evP rows (.idxS 1 (.c (lk l 5)) (.c v3))) fun v4 => bnd (evP rows (.load1 (.c v4))) fun v5 => bnd (evP rows (.idxS 1 (.c (lk l 1)) (.c (lk l 6)))) fun v6 => bnd (evP rows (.load1 (.c v6))) fun v7 => bnd (evP rows (.bin .add (.c v5) (.c v7))) fun v8 => bnd (evP rows (.idxS 1 (.c (lk l 5)) (.c v1))) fun v9 => bnd (evE rows low (.store1 (.c v9) (.c v8))) fun q10 => Ex F cx k ⟨mk 65 [(35, v9), (34, v8), (33, v7), (32, v6), (31, lk l 6), (30, lk l 1), (29, v5), (28, v4), (27, v3), (26, v2), (25, lk l 5), (24, v1), (23, v0), (22, lk l 5), (1, lk l 1), (2, lk l 2), (5, lk l 5), (6, lk l 6), (7, lk l 7)], q10.2.1, q10.2.2⟩ r := rg [1, 2, 5, 6, 7] c54r7 rfl (by kernel_rfl)
@[simp] theorem uc54s8 : Ex F cx (.code c54s8 :: k) s r ↔ Ex F cx (.code (.seq c54k7 c54s6) :: k) s r := Iff.rfl
@[simp] theorem uc54k9 : Ex F cx (.code c54k9 :: k) ⟨mk 65 l, rows, low⟩ r ↔ bnd (evP rows (.loadN 3 (.c (lk l 2)))) fun v0 => bnd (Ret F 89 [v0, lk l 6] rows) fun q1 => bnd (evE q1.2.1 (lowO low q1.2.2) (.box (.c (.agg [.int .i64 0, .int .i64 0, .int .i64 0])))) fun q2 => bnd (evE q2.2.1 q2.2.2 (.storeN 3 (.c q2.1) (.c q1.1))) fun q3 => Ex F cx k ⟨mk 65 [(7, q2.1), (21, q1.1), (20, lk l 6), (19, v0), (1, lk l 1), (2, lk l 2), (5, lk l 5), (6, lk l 6)], q3.2.1, q3.2.2⟩ r := rg [1, 2, 5, 6] c54r9 rfl (by kernel_rfl)
@[simp] theorem uc54s10 : Ex F cx (.code c54s10 :: k) s r ↔ Ex F cx (.code (.seq (.block 1 (.seq c54k9 c54s8)) c54k3) :: k) s r := Iff.rfl
@[simp] theorem uc54s11 : Ex F cx (.code c54s11 :: k) s r ↔ Ex F cx (.code (.cond (.t 16) .skip (.exit 0)) :: k) s r := Iff.rfl
@[simp] theorem uc54k12 : Ex F cx (.code c54k12 :: k) ⟨mk 65 l, rows, low⟩ r ↔ bnd (evP rows (.fieldA 2 (.c (lk l 2)))) fun v0 => bnd (evP rows (.load1 (.c v0))) fun v1 => bnd (evP rows (.len 0 (.c v1))) fun v2 => bnd (evP rows (.bin .lss (.c (lk l 6)) (.c v2))) fun v3 => Ex F cx k ⟨mk 65 [(16, v3), (15, v2), (14, v1), (13, v0), (12, lk l 6), (1, lk l 1), (2, lk l 2), (5, lk l 5), (6, lk l 6)], rows, low⟩ r := rg [1, 2, 5, 6] c54r12 rfl (by kernel_rfl)
@[simp] theorem uc54s13 : Ex F cx (.code c54s13 :: k) s r ↔ Ex F cx (.code (.block 0 (.loop c54l2)) :: k) s r := Iff.rfl
@[simp] theorem uc54k14 : Ex F cx (.code c54k14 :: k) ⟨mk 65 l, rows, low⟩ r ↔ Ex F cx k ⟨mk 65 [(6, (.int .i64 0)), (1, lk l 1), (2, lk l 2), (5, lk l 5)], rows, low⟩ r := rg [1, 2, 5] c54r14 rfl (by kernel_rfl)
@[simp] theorem uc54s15 : Ex F cx (.code c54s15 :: k) s r ↔ Ex F cx (.code (.seq (.seq c54k14 c54s13) c54s1) :: k) s r := Iff.rfl
@[simp] theorem uc54k16 : Ex F cx (.code c54k16 :: k) ⟨mk 65 l, rows, low⟩ r ↔ bnd (evP rows (.fieldA 1 (.c (lk l 2)))) fun v0 => bnd (evP rows (.load1 (.c v0))) fun v1 => bnd (evP rows (.len 0 (.c v1))) fun v2 => bnd (evE rows low (.make [.int .i64 0] 8 (.c v2) (.c v2))) fun q3 => Ex F cx k ⟨mk 65 [(5, q3.1), (11, q3.1), (10, v2), (9, v1), (8, v0), (1, lk l 1), (2, lk l 2)], q3.2.1, q3.2.2⟩ r := rg [1, 2] c54r16 rfl (by kernel_rfl)
@[simp] theorem uc54s17 : Ex F cx (.code c54s17 :: k) s r ↔ Ex F cx (.code (.seq c54k16 c54s15) :: k) s r := Iff.rfl
@[simp] theorem uc54k18 : Ex F cx (.code c54k18 :: k) ⟨mk 65 l, rows, low⟩ r ↔ bnd (evE rows low (.box (.c (lk l 0)))) fun q0 => Ex F cx k ⟨mk 65 [(4, .nilslice), (2, q0.1), (0, lk l 0), (1, lk l 1)], q0.2.1, q0.2.2⟩ r := rg [0, 1] c54r18 rfl (by kernel_rfl)
def Jc54s10 (F : Nat → Option IFn) (cx : Ctx) (x1 x2 x5 x6 : AV) (rows : List Row) (low : Nat) (r : AV × List Row × Nat → Prop) : Prop := Ex F cx (.code c54s10 :: .inLoop c54l2 :: .inBlock 0 :: .code c54s1 :: []) ⟨mk 65 [(1, x1), (2, x2), (5, x5), (6, x6)], rows, low⟩ r
def Lc54l2 (F : Nat → Option IFn) (cx : Ctx) (x1 x2 x5 x6 : AV) (rows : List Row) (low : Nat) (r : AV × List Row × Nat → Prop) : Prop := Ex F cx (.code c54l2 :: .inLoop c54l2 :: .inBlock 0 :: .code c54s1 :: []) ⟨mk 65 [(1, x1), (2, x2), (5, x5), (6, x6)], rows, low⟩ r
@[simp] theorem nc54l2 : Ex F cx (.inLoop c54l2 :: .inBlock 0 :: .code c54s1 :: []) ⟨mk 65 l, rows, low⟩ r ↔ Lc54l2 F cx (lk l 1) (lk l 2) (lk l 5) (lk l 6) rows low r := loopN (keep := [1, 2, 5, 6]) (by kernel_rfl)
@[simp] theorem ec54l2 : Ex F cx (.code (.loop c54l2) :: .inBlock 0 :: .code c54s1 :: []) ⟨mk 65 l, rows, low⟩ r ↔ Lc54l2 F cx (lk l 1) (lk l 2) (lk l 5) (lk l 6) rows low r := loopE (keep := [1, 2, 5, 6]) (by kernel_rfl)
@[simp] theorem uc54l2 : Ex F cx (.code c54l2 :: k) s r ↔ Ex F cx (.code (.seq (.seq c54k12 c54s11) c54s10) :: k) s r := Iff.rfl
@[simp] theorem uc54b : Ex F cx (.code c54b :: k) s r ↔ Ex F cx (.code (.seq c54k18 c54s17) :: k) s r := Iff.rfl
theorem i54 {x0 x1 : AV} (hF : F 54 = some c54) {q : AV × List Row × Option Nat} (h : Ex F (.fn [.t 4]) [.code c54b] ⟨mk 65 [(0, x0), (1, x1)], rows, rows.length⟩ fun r => fin rows r.1 r.2.1 r.2.2 = q) : Ret F 54 [x0, x1] rows = some q := Ret_mk hF h
@[simp] theorem uc55k0 : Ex F cx (.code c55k0 :: k) ⟨mk 43 l, rows, low⟩ r ↔ Ex F cx k ⟨mk 43 [(4, lk l 5), (42, lk l 5), (5, lk l 5)], rows, low⟩ r := rg [5] c55r0 rfl (by kernel_rfl)
@[simp] theorem uc55s1 : Ex F cx (.code c55s1 :: k) s r ↔ Ex F cx (.code (.seq c55k0 .ret) :: k) s r := Iff.rfl
@[simp] theorem uc55k3 : Ex F cx (.code c55k3 :: k) ⟨mk 43 l, rows, low⟩ r ↔ bnd (evP rows (.bin .add (.c (lk l 6)) (.c (.int .i64 1)))) fun v0 => Ex F cx k ⟨mk 43 [(6, v0), (18, v0), (17, lk l 6), (1, lk l 1), (2, lk l 2), (5, lk l 5), (6, lk l 6)], rows, low⟩ r := rg [1, 2, 5, 6] c55r3 rfl (by kernel_rfl)
@[simp] theorem uc55k4 : Ex F cx (.code c55k4 :: k) ⟨mk 43 l, rows, low⟩ r ↔ bnd (evP rows (.idxA 3 1 (.c (lk l 7)) (.c (.int .i64 0)))) fun v0 => bnd (evP rows (.load1 (.c v0))) fun v1 => bnd (evP rows (.idxS 1 (.c (lk l 1)) (.c v1))) fun v2 => bnd (evP rows (.load1 (.c v2))) fun v3 => bnd (evP rows (.idxA 3 1 (.c (lk l 7)) (.c (.int .i64 1)))) fun v4 => bnd (evP rows (.load1 (.c v4))) fun v5 => bnd (evP rows (.idxS 1 (.c (lk l 1)) (.c v5))) fun v6 => bnd (evP rows (.load1 (.c v6))) fun v7 => bnd (evP rows (.bin .add (.c v3) (.c v7))) fun v8 => bnd (evP rows (.idxA 3 1 (.c (lk l 7)) (.c (.int .i64 2)))) fun v9 => bnd (evP rows (.load1 (.c v9))) fun v10 => bnd (evP rows (.idxS 1 (.c (lk l 1)) (.c v10))) fun v11 => bnd (evP rows (.load1 (.c v11))) fun v12 => bnd (evP rows (.bin .sub (.c v8) (.c v12))) fun v13 => bnd (evP rows (.idxS 1 (.c (lk l 5)) (.c (lk l 6)))) fun v14 => bnd (evE rows low (.store1 (.c v14) (.c v13))) fun q15 => Ex F cx k ⟨mk 43 [(41, v14), (40, v13), (39, v12), (38, v11), (37, v10), (36, v9), (35, lk l 1), (34, v8), (33, v7), (32, v6), (31, v5), (30, v4), (29, lk l 1), (28, v3), (27, v2), (26, v1), (25, v0), (24, lk l 1), (23, lk l 6), (22, lk l 5), (1, lk l 1), (2, lk l 2), (5, lk l 5), (6, lk l 6), (7, lk l 7)], q15.2.1, q15.2.2⟩ r := rg [1, 2, 5, 6, 7] c55r4 rfl (by kernel_rfl)
@[simp] theorem uc55k5 : Ex F cx (.code c55k5 :: k) ⟨mk 43 l, rows, low⟩ r ↔ bnd (evP rows (.loadN 3 (.c (lk l 2)))) fun v0 => bnd (Ret F 89 [v0, lk l 6] rows) fun q1 => bnd (evE q1.2.1 (lowO low q1.2.2) (.box (.c (.agg [.int .i64 0, .int .i64 0, .int .i64 0])))) fun q2 => bnd (evE q2.2.1 q2.2.2 (.storeN 3 (.c q2.1) (.c q1.1))) fun q3 => Ex F cx k ⟨mk 43 [(7, q2.1), (21, q1.1), (20, lk l 6), (19, v0), (1, lk l 1), (2, lk l 2), (5, lk l 5), (6, lk l 6)], q3.2.1, q3.2.2⟩ r := rg [1, 2, 5, 6] c55r5 rfl (by kernel_rfl)
@[simp] theorem uc55s6 : Ex F cx (.code c55s6 :: k) s r ↔ Ex F cx (.code (.seq (.block 1 (.seq c55k5 c55k4)) c55k3) :: k) s r := Iff.rfl
@[simp] theorem uc55s7 : Ex F cx (.code c55s7 :: k) s r ↔ Ex F cx (.code (.cond (.t 16) .skip (.exit 0)) :: k) s r := Iff.rfl
@[simp] theorem uc55k8 : Ex F cx (.code c55k8 :: k) ⟨mk 43 l, rows, low⟩ r ↔ bnd (evP rows (.fieldA 2 (.c (lk l 2)))) fun v0 => bnd (evP rows (.load1 (.c v0))) fun v1 => bnd (evP rows (.len 0 (.c v1))) fun v2 => bnd (evP rows (.bin .lss (.c (lk l 6)) (.c v2))) fun v3 => Ex F cx k ⟨mk 43 [(16, v3), (15, v2), (14, v1), (13, v0), (12, lk l 6), (1, lk l 1), (2, lk l 2), (5, lk l 5), (6, lk l 6)], rows, low⟩ r := rg [1, 2, 5, 6] c55r8 rfl (by kernel_rfl)
@[simp] theorem uc55s9 : Ex F cx (.code c55s9 :: k) s r ↔ Ex F cx (.code (.block 0 (.loop c55l2)) :: k) s r := Iff.rfl
@[simp] theorem uc55k10 : Ex F cx (.code c55k10 :: k) ⟨mk 43 l, rows, low⟩ r ↔ Ex F cx k ⟨mk 43 [(6, (.int .i64 0)), (1, lk l 1), (2, lk l 2), (5, lk l 5)], rows, low⟩ r := rg [1, 2, 5] c55r10 rfl (by kernel_rfl)
@[simp] theorem uc55s11 : Ex F cx (.code c55s11 :: k) s r ↔ Ex F cx (.code (.seq (.seq c55k10 c55s9) c55s1) :: k) s r := Iff.rfl
@[simp] theorem uc55k12 : Ex F cx (.code c55k12 :: k) ⟨mk 43 l, rows, low⟩ r ↔ bnd (evP rows (.fieldA 2 (.c (lk l 2)))) fun v0 => bnd (evP rows (.load1 (.c v0))) fun v1 => bnd (evP rows (.len 0 (.c v1))) fun v2 => bnd (evE rows low (.make [.int .i64 0] 8 (.c v2) (.c v2))) fun q3 => Ex F cx k ⟨mk 43 [(5, q3.1), (11, q3.1), (10, v2), (9, v1), (8, v0), (1, lk l 1), (2, lk l 2)], q3.2.1, q3.2.2⟩ r := rg [1, 2] c55r12 rfl (by kernel_rfl)
@[simp] theorem uc55s13 : Ex F cx (.code c55s13 :: k) s r ↔ Ex F cx (.code (.seq c55k12 c55s11) :: k) s r := Iff.rfl
@[simp] theorem uc55k14 : Ex F cx (.code c55k14 :: k) ⟨mk 43 l, rows, low⟩ r ↔ bnd (evE rows low (.box (.c (lk l 0)))) fun q0 => Ex F cx k ⟨mk 43 [(4, .nilslice), (2, q0.1), (0, lk l 0), (1, lk l 1)], q0.2.1, q0.2.2⟩ r := rg [0, 1] c55r14 rfl (by kernel_rfl)
def Jc55s6 (F : Nat → Option IFn) (cx : Ctx) (x1 x2 x5 x6 : AV) (rows : List Row) (low : Nat) (r : AV × List Row × Nat → Prop) : Prop := Ex F cx (.code c55s6 :: .inLoop c55l2 :: .inBlock 0 :: .code c55s1 :: []) ⟨mk 43 [(1, x1), (2, x2), (5, x5), (6, x6)], rows, low⟩ r
def Lc55l2 (F : Nat → Option IFn) (cx : Ctx) (x1 x2 x5 x6 : AV) (rows : List Row) (low : Nat) (r : AV × List Row × Nat → Prop) : Prop := Ex F cx (.code c55l2 :: .inLoop c55l2 :: .inBlock 0 :: .code c55s1 :: []) ⟨mk 43 [(1, x1), (2, x2), (5, x5), (6, x6)], rows, low⟩ r
@[simp] theorem nc55l2 : Ex F cx (.inLoop c55l2 :: .inBlock 0 :: .code c55s1 :: []) ⟨mk 43 l, rows, low⟩ r ↔ Lc55l2 F cx (lk l 1) (lk l 2) (lk l 5) (lk l 6) rows low r := loopN (keep := [1, 2, 5, 6]) (by kernel_rfl)
@[simp] theorem ec55l2 : Ex F cx (.code (.loop c55l2) :: .inBlock 0 :: .code c55s1 :: []) ⟨mk 43 l, rows, low⟩ r ↔ Lc55l2 F cx (lk l 1) (lk l 2) (lk l 5) (lk l 6) rows low r := loopE (keep := [1, 2, 5, 6]) (by kernel_rfl)
@[simp] theorem uc55l2 : Ex F cx (.code c55l2 :: k) s r ↔ Ex F cx (.code (.seq (.seq c55k8 c55s7) c55s6) :: k) s r := Iff.rfl
@[simp] theorem uc55b : Ex F cx (.code c55b :: k) s r ↔ Ex F cx (.code (.seq c55k14 c55s13) :: k) s r := Iff.rfl
theorem i55 {x0 x1 : AV} (hF : F 55 = some c55) {q : AV × List Row × Option Nat} (h : Ex F (.fn [.t 4]) [.code c55b] ⟨mk 43 [(0, x0), (1, x1)], rows, rows.length⟩ fun r => fin rows r.1 r.2.1 r.2.2 = q) : Ret F 55 [x0, x1] rows = some q := Ret_mk hF h
@[simp] theorem uc56k0 : Ex F cx (.code c56k0 :: k) ⟨mk 23 l, rows, low⟩ r ↔ Ex F cx k ⟨mk 23 [(2, lk l 3), (22, lk l 3), (3, lk l 3)], rows, low⟩ r := rg [3] c56r0 rfl (by kernel_rfl)
@[simp] theorem uc56s1 : Ex F cx (.code c56s1 :: k) s r ↔ Ex F cx (.code (.seq c56k0 .ret) :: k) s r := Iff.rfl
@[simp] theorem uc56k3 : Ex F cx (.code c56k3 :: k) ⟨mk 23 l, rows, low⟩ r ↔ bnd (evP rows (.bin .add (.c (lk l 5)) (.c (.int .i64 1)))) fun v0 => Ex F cx k ⟨mk 23 [(5, v0), (13, v0), (12, lk l 5), (1, lk l 1), (3, lk l 3), (4, lk l 4), (5, lk l 5)], rows, low⟩ r := rg [1, 3, 4, 5] c56r3 rfl (by kernel_rfl)
@[simp] theorem uc56k4 : Ex F cx (.code c56k4 :: k) ⟨mk 23 l, rows, low⟩ r ↔ bnd (evP rows (.bin .add (.c (lk l 3)) (.c (.int .i64 1)))) fun v0 => Ex F cx k ⟨mk 23 [(3, v0), (21, v0), (20, lk l 3), (1, lk l 1), (3, lk l 3), (4, lk l 4), (5, lk l 5)], rows, low⟩ r := rg [1, 3, 4, 5] c56r4 rfl (by kernel_rfl)
@[simp] theorem uc56s5 : Ex F cx (.code c56s5 :: k) s r ↔ Ex F cx (.code (.cond (.t 19) c56k4 .skip) :: k) s r := Iff.rfl
@[simp] theorem uc56k6 : Ex F cx (.code c56k6 :: k) ⟨mk 23 l, rows, low⟩ r ↔ bnd (evP rows (.idxS 1 (.c (lk l 4)) (.c (lk l 5)))) fun v0 => bnd (evP rows (.load1 (.c v0))) fun v1 => bnd (evP rows (.bin .eql (.c v1) (.c (lk l 5)))) fun v2 => Ex F cx k ⟨mk 23 [(19, v2), (18, lk l 5), (17, v1), (16, v0), (15, lk l 5), (14, lk l 4), (1, lk l 1), (3, lk l 3), (4, lk l 4), (5, lk l 5)], rows, low⟩ r := rg [1, 3, 4, 5] c56r6 rfl (by kernel_rfl)
@[simp] theorem uc56s7 : Ex F cx (.code c56s7 :: k) s r ↔ Ex F cx (.code (.seq (.block 1 (.seq c56k6 c56s5)) c56k3) :: k) s r := Iff.rfl
@[simp] theorem uc56s8 : Ex F cx (.code c56s8 :: k) s r ↔ Ex F cx (.code (.cond (.t 11) .skip (.exit 0)) :: k) s r := Iff.rfl
@[simp] theorem uc56k9 : Ex F cx (.code c56k9 :: k) ⟨mk 23 l, rows, low⟩ r ↔ bnd (evP rows (.fieldA 0 (.c (lk l 1)))) fun v0 => bnd (evP rows (.load1 (.c v0))) fun v1 => bnd (evP rows (.bin .lss (.c (lk l 5)) (.c v1))) fun v2 => Ex F cx k ⟨mk 23 [(11, v2), (10, v1), (9, v0), (8, lk l 5), (1, lk l 1), (3, lk l 3), (4, lk l 4), (5, lk l 5)], rows, low⟩ r := rg [1, 3, 4, 5] c56r9 rfl (by kernel_rfl)
@[simp] theorem uc56s10 : Ex F cx (.code c56s10 :: k) s r ↔ Ex F cx (.code (.block 0 (.loop c56l2)) :: k) s r := Iff.rfl
@[simp] theorem uc56k11 : Ex F cx (.code c56k11 :: k) ⟨mk 23 l, rows, low⟩ r ↔ Ex F cx k ⟨mk 23 [(5, (.int .i64 0)), (1, lk l 1), (3, lk l 3), (4, lk l 4)], rows, low⟩ r := rg [1, 3, 4] c56r11 rfl (by kernel_rfl)
@[simp] theorem uc56s12 : Ex F cx (.code c56s12 :: k) s r ↔ Ex F cx (.code (.seq (.seq c56k11 c56s10) c56s1) :: k) s r := Iff.rfl
@[simp] theorem uc56k13 : Ex F cx (.code c56k13 :: k) ⟨mk 23 l, rows, low⟩ r ↔ bnd (evP rows (.loadN 3 (.c (lk l 1)))) fun v0 => bnd (Ret F 31 [v0] rows) fun q1 => Ex F cx k ⟨mk 23 [(4, q1.1), (7, q1.1), (6, v0), (1, lk l 1), (3, lk l 3)], q1.2.1, (lowO low q1.2.2)⟩ r := rg [1, 3] c56r13 rfl (by kernel_rfl)
@[simp] theorem uc56s14 : Ex F cx (.code c56s14 :: k) s r ↔ Ex F cx (.code (.seq c56k13 c56s12) :: k) s r := Iff.rfl
@[simp] theorem uc56k15 : Ex F cx (.code c56k15 :: k) ⟨mk 23 l, rows, low⟩ r ↔ Ex F cx k ⟨mk 23 [(3, (.int .i64 0)), (1, lk l 1)], rows, low⟩ r := rg [1] c56r15 rfl (by kernel_rfl)
@[simp] theorem uc56s16 : Ex F cx (.code c56s16 :: k) s r ↔ Ex F cx (.code (.seq c56k15 c56s14) :: k) s r := Iff.rfl
@[simp] theorem uc56k17 : Ex F cx (.code c56k17 :: k) ⟨mk 23 l, rows, low⟩ r ↔ bnd (evE rows low (.box (.c (lk l 0)))) fun q0 => Ex F cx k ⟨mk 23 [(2, (.int .i64 0)), (1, q0.1), (0, lk l 0)], q0.2.1, q0.2.2⟩ r := rg [0] c56r17 rfl (by kernel_rfl)
def Jc56s7 (F : Nat → Option IFn) (cx : Ctx) (x1 x3 x4 x5 : AV) (rows : List Row) (low : Nat) (r : AV × List Row × Nat → Prop) : Prop := Ex F cx (.code c56s7 :: .inLoop c56l2 :: .inBlock 0 :: .code c56s1 :: []) ⟨mk 23 [(1, x1), (3, x3), (4, x4), (5, x5)], rows, low⟩ r
def Lc56l2 (F : Nat → Option IFn) (cx : Ctx) (x1 x3 x4 x5 : AV) (rows : List Row) (low : Nat) (r : AV × List Row × Nat → Prop) : Prop := Ex F cx (.code c56l2 :: .inLoop c56l2 :: .inBlock 0 :: .code c56s1 :: []) ⟨mk 23 [(1, x1), (3, x3), (4, x4), (5, x5)], rows, low⟩ r
@[simp] theorem nc56l2 : Ex F cx (.inLoop c56l2 :: .inBlock 0 :: .code c56s1 :: []) ⟨mk 23 l, rows, low⟩ r ↔ Lc56l2 F cx (lk l 1) (lk l 3) (lk l 4) (lk l 5) rows low r := loopN (keep := [1, 3, 4, 5]) (by kernel_rfl)
@[simp] theorem ec56l2 : Ex F cx (.code (.loop c56l2) :: .inBlock 0 :: .code c56s1 :: []) ⟨mk 23 l, rows, low⟩ r ↔ Lc56l2 F cx (lk l 1) (lk l 3) (lk l 4) (lk l 5) rows low r := loopE (keep := [1, 3, 4, 5]) (by kernel_rfl)
@[simp] theorem uc56l2 : Ex F cx (.code c56l2 :: k) s r ↔ Ex F cx (.code (.seq (.seq c56k9 c56s8) c56s7) :: k) s r := Iff.rfl
@[simp] theorem uc56b : Ex F cx (.code c56b :: k) s r ↔ Ex F cx (.code (.seq c56k17 c56s16) :: k) s r := Iff.rfl
theorem i56 {x0 : AV} (hF : F 56 = some c56) {q : AV × List Row × Option Nat} (h : Ex F (.fn [.t 2]) [.code c56b] ⟨mk 23 [(0, x0)], rows, rows.length⟩ fun r => fin rows r.1 r.2.1 r.2.2 = q) : Ret F 56 [x0] rows = some q := Ret_mk hF h
@[simp] theorem uc57k0 : Ex F cx (.code c57k0 :: k) ⟨mk 25 l, rows, low⟩ r ↔ Ex F cx k ⟨mk 25 [(4, (.bool true))], rows, low⟩ r := rg [] c57r0 rfl (by kernel_rfl)
@[simp] theorem uc57s1 : Ex F cx (.code c57s1 :: k) s r ↔ Ex F cx (.code (.seq c57k0 .ret) :: k) s r := Iff.rfl
@[simp] theorem uc57k3 : Ex F cx (.code c57k3 :: k) ⟨mk 25 l, rows, low⟩ r ↔ bnd (evP rows (.bin .add (.c (lk l 6)) (.c (.int .i64 1)))) fun v0 => Ex F cx k ⟨mk 25 [(6, v0), (19, v0), (18, lk l 6), (5, lk l 5), (6, lk l 6)], rows, low⟩ r := rg [5, 6] c57r3 rfl (by kernel_rfl)
@[simp] theorem uc57k4 : Ex F cx (.code c57k4 :: k) ⟨mk 25 l, rows, low⟩ r ↔ Ex F cx k ⟨mk 25 [(4, (.bool false))], rows, low⟩ r := rg [] c57r4 rfl (by kernel_rfl)
@[simp] theorem uc57s5 : Ex F cx (.code c57s5 :: k) s r ↔ Ex F cx (.code (.cond (.t 24) (.seq c57k4 .ret) .skip) :: k) s r := Iff.rfl
@[simp] theorem uc57k6 : Ex F cx (.code c57k6 :: k) ⟨mk 25 l, rows, low⟩ r ↔ bnd (evP rows (.idxS 1 (.c (lk l 5)) (.c (lk l 6)))) fun v0 => bnd (evP rows (.load1 (.c v0))) fun v1 => bnd (evP rows (.bin .neq (.c v1) (.c (.int .i64 0)))) fun v2 => Ex F cx k ⟨mk 25 [(24, v2), (23, v1), (22, v0), (21, lk l 6), (20, lk l 5), (5, lk l 5), (6, lk l 6)], rows, low⟩ r := rg [5, 6] c57r6 rfl (by kernel_rfl)
@[simp] theorem uc57s7 : Ex F cx (.code c57s7 :: k) s r ↔ Ex F cx (.code (.seq (.block 1 (.seq c57k6 c57s5)) c57k3) :: k) s r := Iff.rfl
@[simp] theorem uc57s8 : Ex F cx (.code c57s8 :: k) s r ↔ Ex F cx (.code (.cond (.t 17) .skip (.exit 0)) :: k) s r := Iff.rfl
@[simp] theorem uc57k9 : Ex F cx (.code c57k9 :: k) ⟨mk 25 l, rows, low⟩ r ↔ bnd (evP rows (.len 0 (.c (lk l 5)))) fun v0 => bnd (evP rows (.bin .lss (.c (lk l 6)) (.c v0))) fun v1 => Ex F cx k ⟨mk 25 [(17, v1), (16, v0), (15, lk l 5), (14, lk l 6), (5, lk l 5), (6, lk l 6)], rows, low⟩ r := rg [5, 6] c57r9 rfl (by kernel_rfl)
@[simp] theorem uc57s10 : Ex F cx (.code c57s10 :: k) s r ↔ Ex F cx (.code (.block 0 (.loop c57l2)) :: k) s r := Iff.rfl
@[simp] theorem uc57k11 : Ex F cx (.code c57k11 :: k) ⟨mk 25 l, rows, low⟩ r ↔ Ex F cx k ⟨mk 25 [(6, (.int .i64 0)), (5, lk l 5)], rows, low⟩ r := rg [5] c57r11 rfl (by kernel_rfl)
@[simp] theorem uc57s12 : Ex F cx (.code c57s12 :: k) s r ↔ Ex F cx (.code (.seq (.seq c57k11 c57s10) c57s1) :: k) s r := Iff.rfl
@[simp] theorem uc57k13 : Ex F cx (.code c57k13 :: k) ⟨mk 25 l, rows, low⟩ r ↔ bnd (evP (rows ++ maskE 0 ([] : List (Nat × Row))) (.loadN 3 (.c (lk l 2)))) fun v0 => bnd (opC F (rows ++ maskE 3 ([] : List (Nat × Row))) (rows.length + ([] : List (Nat × Row)).length) [v0, lk l 1] [] (.func 29 [])) fun q1 => q1.2.2 = rows.length + ([] : List (Nat × Row)).length ∧ bnd (some (([] : List (Nat × Row)) ++ List.map (fun (x : Row) => (2, x)) (q1.2.1.drop (rows.length + ([] : List (Nat × Row)).length)))) fun e1 => bnd (evP (rows ++ maskE 0 e1) (.loadN 3 (.c (lk l 2)))) fun v2 => bnd (Ret F 55 [v2, lk l 1] (rows ++ List.map (fun (x : Nat × Row) => x.2) e1)) fun q3 => bnd (evE q3.2.1 (lowO low q3.2.2) (.app 1 8 (.c q1.1) (.c q3.1))) fun q4 => Ex F cx k ⟨mk 25 [(5, q4.1), (13, q4.1), (12, q3.1), (11, lk l 1), (10, v2), (9, q1.1), (8, lk l 1), (7, v0), (1, lk l 1), (2, lk l 2)], q4.2.1, q4.2.2⟩ r := rg [1, 2] c57r13 rfl (by kernel_rfl)
@[simp] theorem uc57s14 : Ex F cx (.code c57s14 :: k) s r ↔ Ex F cx (.code (.seq c57k13 c57s12) :: k) s r := Iff.rfl
@[simp] theorem uc57k15 : Ex F cx (.code c57k15 :: k) ⟨mk 25 l, rows, low⟩ r ↔ bnd (evE rows low (.box (.c (lk l 0)))) fun q0 => Ex F cx k ⟨mk 25 [(4, (.bool false)), (2, q0.1), (0, lk l 0), (1, lk l 1)], q0.2.1, q0.2.2⟩ r := rg [0, 1] c57r15 rfl (by kernel_rfl)
def Jc57s7 (F : Nat → Option IFn) (cx : Ctx) (x5 x6 : AV) (rows : List Row) (low : Nat) (r : AV × List Row × Nat → Prop) : Prop := Ex F cx (.code c57s7 :: .inLoop c57l2 :: .inBlock 0 :: .code c57s1 :: []) ⟨mk 25 [(5, x5), (6, x6)], rows, low⟩ r
def Lc57l2 (F : Nat → Option IFn) (cx : Ctx) (x5 x6 : AV) (rows : List Row) (low : Nat) (r : AV × List Row × Nat → Prop) : Prop := Ex F cx (.code c57l2 :: .inLoop c57l2 :: .inBlock 0 :: .code c57s1 :: []) ⟨mk 25 [(5, x5), (6, x6)], rows, low⟩ r
@[simp] theorem nc57l2 : Ex F cx (.inLoop c57l2 :: .inBlock 0 :: .code c57s1 :: []) ⟨mk 25 l, rows, low⟩ r ↔ Lc57l2 F cx (lk l 5) (lk l 6) rows low r := loopN (keep := [5, 6]) (by kernel_rfl)
@[simp] theorem ec57l2 : Ex F cx (.code (.loop c57l2) :: .inBlock 0 :: .code c57s1 :: []) ⟨mk 25 l, rows, low⟩ r ↔ Lc57l2 F cx (lk l 5) (lk l 6) rows low r := loopE (keep := [5, 6]) (by kernel_rfl)
@[simp] theorem uc57l2 : Ex F cx (.code c57l2 :: k) s r ↔ Ex F cx (.code (.seq (.seq c57k9 c57s8) c57s7) :: k) s r := Iff.rfl
@[simp] theorem uc57b : Ex F cx (.code c57b :: k) s r ↔ Ex F cx (.code (.seq c57k15 c57s14) :: k) s r := Iff.rfl
theorem i57 {x0 x1 : AV} (hF : F 57 = some c57) {q : AV × List Row × Option Nat} (h : Ex F (.fn [.t 4]) [.code c57b] ⟨mk 25 [(0, x0), (1, x1)], rows, rows.length⟩ fun r => fin rows r.1 r.2.1 r.2.2 = q) : Ret F 57 [x0, x1] rows = some q := Ret_mk hF h
@[simp] theorem uc62k0 : Ex F cx (.code c62k0 :: k) ⟨mk 6 l, rows, low⟩ r ↔ bnd (evP rows (.mkfn 93 [(.c (lk l 2)), (.c (lk l 3))])) fun v0 => Ex F cx k ⟨mk 6 [(4, v0), (5, v0), (2, lk l 2), (3, lk l 3)], rows, low⟩ r := rg [2, 3] c62r0 rfl (by kernel_rfl)
@[simp] theorem uc62s1 : Ex F cx (.code c62s1 :: k) s r ↔ Ex F cx (.code (.seq c62k0 .ret) :: k) s r := Iff.rfl
@[simp] theorem uc62k2 : Ex F cx (.code c62k2 :: k) ⟨mk 6 l, rows, low⟩ r ↔ bnd (evE rows low (.box (.c (lk l 0)))) fun q0 => bnd (evE q0.2.1 q0.2.2 (.box (.c (lk l 1)))) fun q1 => Ex F cx k ⟨mk 6 [(4, .nilfunc), (3, q1.1), (2, q0.1), (0, lk l 0), (1, lk l 1)], q1.2.1, q1.2.2⟩ r := rg [0, 1] c62r2 rfl (by kernel_rfl)
@[simp] theorem uc62b : Ex F cx (.code c62b :: k) s r ↔ Ex F cx (.code (.seq c62k2 c62s1) :: k) s r := Iff.rfl
theorem i62 {x0 x1 : AV} (hF : F 62 = some c62) {q : AV × List Row × Option Nat} (h : Ex F (.fn [.t 4]) [.code c62b] ⟨mk 6 [(0, x0), (1, x1)], rows, rows.length⟩ fun r => fin rows r.1 r.2.1 r.2.2 = q) : Ret F 62 [x0, x1] rows = some q := Ret_mk hF h
@[simp] theorem uc78k0 : Ex F cx (.code c78k0 :: k) ⟨mk 116 l, rows, low⟩ r ↔ Ex F cx k ⟨mk 116 [(4, lk l 5), (115, lk l 5), (5, lk l 5)], rows, low⟩ r := rg [5] c78r0 rfl (by kernel_rfl)
@[simp] theorem uc78s1 : Ex F cx (.code c78s1 :: k) s r ↔ Ex F cx (.code (.seq c78k0 .ret) :: k) s r := Iff.rfl
@[simp] theorem uc78k3 : Ex F cx (.code c78k3 :: k) ⟨mk 116 l, rows, low⟩ r ↔ bnd (evP rows (.bin .add (.c (lk l 21)) (.c (.int .i64 1)))) fun v0 => Ex F cx k ⟨mk 116 [(21, v0), (114, v0), (1, lk l 1), (2, lk l 2), (5, lk l 5), (6, lk l 6), (20, lk l 20), (21, lk l 21)], rows, low⟩ r := rg [1, 2, 5, 6, 20, 21] c78r3 rfl (by kernel_rfl)
@[simp] theorem uc78k6 : Ex F cx (.code c78k6 :: k) ⟨mk 116 l, rows, low⟩ r ↔ bnd (evP rows (.bin .add (.c (lk l 55)) (.c (.int .i64 1)))) fun v0 => Ex F cx k ⟨mk 116 [(55, v0), (113, v0), (1, lk l 1), (2, lk l 2), (5, lk l 5), (6, lk l 6), (8, lk l 8), (9, lk l 9), (20, lk l 20), (21, lk l 21), (53, lk l 53), (54, lk l 54), (55, lk l 55)], rows, low⟩ r := rg [1, 2, 5, 6, 8, 9, 20, 21, 53, 54, 55] c78r6 rfl (by kernel_rfl)
@[simp] theorem uc78k8 : Ex F cx (.code c78k8 :: k) ⟨mk 116 l, rows, low⟩ r ↔ bnd (evP rows (.bin .add (.c (lk l 60)) (.c (.int .i64 1)))) fun v0 => Ex F cx k ⟨mk 116 [(60, v0), (112, v0), (1, lk l 1), (2, lk l 2), (5, lk l 5), (6, lk l 6), (8, lk l 8), (9, lk l 9), (10, lk l 10), (11, lk l 11), (20, lk l 20), (21, lk l 21), (53, lk l 53), (54, lk l 54), (55, lk l 55), (60, lk l 60)], rows, low⟩ r := rg [1, 2, 5, 6, 8, 9, 10, 11, 20, 21, 53, 54, 55, 60] c78r8 rfl (by kernel_rfl)
@[simp] theorem uc78k9 : Ex F cx (.code c78k9 :: k) ⟨mk 116 l, rows, low⟩ r ↔ bnd (evE rows low (.mkslice 1 [.int .i64 0] [(0, 1, (.c (lk l 14)))])) fun q0 => bnd (evE q0.2.1 q0.2.2 (.app 1 8 (.c (lk l 8)) (.c q0.1))) fun q1 => Ex F cx k ⟨mk 116 [(8, q1.1), (111, q1.1), (110, q0.1), (109, lk l 14), (108, lk l 8), (1, lk l 1), (2, lk l 2), (5, lk l 5), (6, lk l 6), (8, lk l 8), (9, lk l 9), (10, lk l 10), (11, lk l 11), (14, lk l 14), (20, lk l 20), (21, lk l 21), (53, lk l 53), (54, lk l 54), (55, lk l 55), (60, lk l 60)], q1.2.1, q1.2.2⟩ r := rg [1, 2, 5, 6, 8, 9, 10, 11, 14, 20, 21, 53, 54, 55, 60] c78r9 rfl (by kernel_rfl)
@[simp] theorem uc78k10 : Ex F cx (.code c78k10 :: k) s r ↔ Ex F cx (.code (.kill 116 [1, 2, 5, 6, 8, 9, 10, 11, 14, 15, 20, 21, 53, 54, 55, 60] (.ops c78r10)) :: k) s r := Iff.rfl
@[simp] theorem uc78r10 : Ex F cx (.ops c78r10 :: k) s r ↔ Ex F cx (.ops [
  .grpw (.t 104) (.t 93) none 59379 [(⟨some 89, .mv (.t 5), none⟩, 0), (⟨some 90, .mv (.t 14), none⟩, 0), (⟨some 91, .mv (.t 5), none⟩, 0), (⟨some 92, .mv (.t 14), none⟩, 0), (⟨some 93, .mv (.t 9), none⟩, 0), (⟨some 94, .mv (.t 5), none⟩, 0), (⟨some 95, .mv (.t 9), none⟩, 0), (⟨some 96, .nilck (.t 94), none⟩, 32), (⟨some 97, .fieldA 6 (.t 96), none⟩, 160), (⟨some 98, .idxA 6 1 (.t 97) (.t 95), none⟩, 480), (⟨some 99, .load1 (.t 98), none⟩, 992), (⟨some 100, .mv (.t 15), none⟩, 0), (⟨some 101, .bin .add (.t 99) (.t 100), none⟩, 4064), (⟨some 102, .nilck (.t 89), none⟩, 1), (⟨some 103, .fieldA 0 (.t 102), none⟩, 8193), (⟨some 104, .idxA 6 1 (.t 103) (.t 90), none⟩, 26611), (⟨none, .lenc 0, none⟩, 59379), (⟨some 105, .nilck (.t 91), none⟩, 4), (⟨some 106, .fieldA 6 (.t 105), none⟩, 131076)],
  .one ⟨some 107, .idxA 6 1 (.t 106) (.t 92), none⟩,
  .one ⟨none, .store1 (.t 107) (.t 101), none⟩] :: k) s r := Iff.rfl
@[simp] theorem uc78s11 : Ex F cx (.code c78s11 :: k) s r ↔ Ex F cx (.code (.seq c78k10 c78k9) :: k) s r := Iff.rfl
@[simp] theorem uc78k12 : Ex F cx (.code c78k12 :: k) ⟨mk 116 l, rows, low⟩ r ↔ bnd (evE rows low (.mset (.c (lk l 6)) (.c (lk l 14)) (.c (.bool true)))) fun q0 => Ex F cx k ⟨mk 116 [(88, lk l 14), (87, lk l 6), (1, lk l 1), (2, lk l 2), (5, lk l 5), (6, lk l 6), (8, lk l 8), (9, lk l 9), (10, lk l 10), (11, lk l 11), (14, lk l 14), (15, lk l 15), (20, lk l 20), (21, lk l 21), (53, lk l 53), (54, lk l 54), (55, lk l 55), (60, lk l 60)], q0.2.1, q0.2.2⟩ r := rg [1, 2, 5, 6, 8, 9, 10, 11, 14, 15, 20, 21, 53, 54, 55, 60] c78r12 rfl (by kernel_rfl)
@[simp] theorem uc78s13 : Ex F cx (.code c78s13 :: k) s r ↔ Ex F cx (.code (.cond (.t 86) (.seq c78k12 c78s11) .skip) :: k) s r := Iff.rfl
@[simp] theorem uc78k14 : Ex F cx (.code c78k14 :: k) ⟨mk 116 l, rows, low⟩ r ↔ bnd (evP rows (.bin .eql (.c (lk l 13)) (.c (lk l 9)))) fun v0 => bnd (gv v0 true (evP rows (.mv (.c (lk l 6))))) fun v1 => bnd (gv v0 true (evP rows (.mv (.c (lk l 14))))) fun v2 => bnd (gv v0 true (evP rows (.look (.bool false) false (.c v1) (.c v2)))) fun v3 => bnd (gv v0 true (evP rows (.un .not (.c v3)))) fun v4 => bnd (evP rows (.pick (.c v0) (.c v4) (.c (.bool false)))) fun v5 => Ex F cx k ⟨mk 116 [(86, v5), (85, v4), (84, v3), (83, v2), (82, v1), (81, v0), (80, v0), (79, lk l 9), (78, lk l 13), (1, lk l 1), (2, lk l 2), (5, lk l 5), (6, lk l 6), (8, lk l 8), (9, lk l 9), (10, lk l 10), (11, lk l 11), (13, lk l 13), (14, lk l 14), (15, lk l 15), (20, lk l 20), (21, lk l 21), (53, lk l 53), (54, lk l 54), (55, lk l 55), (60, lk l 60)], rows, low⟩ r := rg [1, 2, 5, 6, 8, 9, 10, 11, 13, 14, 15, 20, 21, 53, 54, 55, 60] c78r14 rfl (by kernel_rfl)
@[simp] theorem uc78s15 : Ex F cx (.code c78s15 :: k) s r ↔ Ex F cx (.code (.seq c78k14 c78s13) :: k) s r := Iff.rfl
@[simp] theorem uc78k16 : Ex F cx (.code c78k16 :: k) ⟨mk 116 l, rows, low⟩ r ↔ bnd (evP rows (.un .neg (.c (lk l 15)))) fun v0 => Ex F cx k ⟨mk 116 [(15, v0), (77, v0), (76, lk l 15), (1, lk l 1), (2, lk l 2), (5, lk l 5), (6, lk l 6), (8, lk l 8), (9, lk l 9), (10, lk l 10), (11, lk l 11), (13, lk l 13), (14, lk l 14), (15, lk l 15), (20, lk l 20), (21, lk l 21), (53, lk l 53), (54, lk l 54), (55, lk l 55), (60, lk l 60)], rows, low⟩ r := rg [1, 2, 5, 6, 8, 9, 10, 11, 13, 14, 15, 20, 21, 53, 54, 55, 60] c78r16 rfl (by kernel_rfl)
@[simp] theorem uc78s17 : Ex F cx (.code c78s17 :: k) s r ↔ Ex F cx (.code (.cond (.t 75) c78k16 .skip) :: k) s r := Iff.rfl
@[simp] theorem uc78k18 : Ex F cx (.code c78k18 :: k) ⟨mk 116 l, rows, low⟩ r ↔ bnd (evP rows (.bin .eql (.c (lk l 12)) (.c (.int .i64 1)))) fun v0 => Ex F cx k ⟨mk 116 [(75, v0), (74, lk l 12), (1, lk l 1), (2, lk l 2), (5, lk l 5), (6, lk l 6), (8, lk l 8), (9, lk l 9), (10, lk l 10), (11, lk l 11), (12, lk l 12), (13, lk l 13), (14, lk l 14), (15, lk l 15), (20, lk l 20), (21, lk l 21), (53, lk l 53), (54, lk l 54), (55, lk l 55), (60, lk l 60)], rows, low⟩ r := rg [1, 2, 5, 6, 8, 9, 10, 11, 12, 13, 14, 15, 20, 21, 53, 54, 55, 60] c78r18 rfl (by kernel_rfl)
@[simp] theorem uc78s19 : Ex F cx (.code c78s19 :: k) s r ↔ Ex F cx (.code (.seq (.seq c78k18 c78s17) c78s15) :: k) s r := Iff.rfl
@[simp] theorem uc78k20 : Ex F cx (.code c78k20 :: k) ⟨mk 116 l, rows, low⟩ r ↔ bnd (evP rows (.idxA 2 1 (.c (lk l 11)) (.c (lk l 12)))) fun v0 => bnd (evP rows (.load1 (.c v0))) fun v1 => bnd (evP rows (.bin .sub (.c (.int .i64 1)) (.c (lk l 12)))) fun v2 => bnd (evP rows (.idxA 2 1 (.c (lk l 11)) (.c v2))) fun v3 => bnd (evP rows (.load1 (.c v3))) fun v4 => bnd (evP rows (.idxS 1 (.c (lk l 1)) (.c (lk l 10)))) fun v5 => bnd (evP rows (.load1 (.c v5))) fun v6 => Ex F cx k ⟨mk 116 [(15, v6), (14, v4), (13, v1), (73, v6), (72, v5), (71, lk l 10), (70, lk l 1), (69, v4), (68, v3), (67, v2), (66, lk l 12), (65, v1), (64, v0), (63, lk l 12), (1, lk l 1), (2, lk l 2), (5, lk l 5), (6, lk l 6), (8, lk l 8), (9, lk l 9), (10, lk l 10), (11, lk l 11), (12, lk l 12), (20, lk l 20), (21, lk l 21), (53, lk l 53), (54, lk l 54), (55, lk l 55), (60, lk l 60)], rows, low⟩ r := rg [1, 2, 5, 6, 8, 9, 10, 11, 12, 20, 21, 53, 54, 55, 60] c78r20 rfl (by kernel_rfl)
@[simp] theorem uc78s21 : Ex F cx (.code c78s21 :: k) s r ↔ Ex F cx (.code (.seq c78k20 c78s19) :: k) s r := Iff.rfl
@[simp] theorem uc78k22 : Ex F cx (.code c78k22 :: k) ⟨mk 116 l, rows, low⟩ r ↔ Ex F cx k ⟨mk 116 [(12, lk l 60), (62, lk l 60), (1, lk l 1), (2, lk l 2), (5, lk l 5), (6, lk l 6), (8, lk l 8), (9, lk l 9), (10, lk l 10), (11, lk l 11), (20, lk l 20), (21, lk l 21), (53, lk l 53), (54, lk l 54), (55, lk l 55), (60, lk l 60)], rows, low⟩ r := rg [1, 2, 5, 6, 8, 9, 10, 11, 20, 21, 53, 54, 55, 60] c78r22 rfl (by kernel_rfl)
@[simp] theorem uc78s23 : Ex F cx (.code c78s23 :: k) s r ↔ Ex F cx (.code (.seq (.block 7 (.seq c78k22 c78s21)) c78k8) :: k) s r := Iff.rfl
@[simp] theorem uc78s24 : Ex F cx (.code c78s24 :: k) s r ↔ Ex F cx (.code (.seq (.cond (.t 61) .skip (.exit 6)) c78s23) :: k) s r := Iff.rfl
@[simp] theorem uc78k25 : Ex F cx (.code c78k25 :: k) ⟨mk 116 l, rows, low⟩ r ↔ bnd (evP rows (.bin .lss (.c (lk l 60)) (.c (.int .i64 2)))) fun v0 => Ex F cx k ⟨mk 116 [(61, v0), (1, lk l 1), (2, lk l 2), (5, lk l 5), (6, lk l 6), (8, lk l 8), (9, lk l 9), (10, lk l 10), (11, lk l 11), (20, lk l 20), (21, lk l 21), (53, lk l 53), (54, lk l 54), (55, lk l 55), (60, lk l 60)], rows, low⟩ r := rg [1, 2, 5, 6, 8, 9, 10, 11, 20, 21, 53, 54, 55, 60] c78r25 rfl (by kernel_rfl)
@[simp] theorem uc78s26 : Ex F cx (.code c78s26 :: k) s r ↔ Ex F cx (.code (.block 6 (.loop c78l7)) :: k) s r := Iff.rfl
@[simp] theorem uc78k27 : Ex F cx (.code c78k27 :: k) ⟨mk 116 l, rows, low⟩ r ↔ Ex F cx k ⟨mk 116 [(60, (.int .i64 0)), (1, lk l 1), (2, lk l 2), (5, lk l 5), (6, lk l 6), (8, lk l 8), (9, lk l 9), (10, lk l 10), (11, lk l 11), (20, lk l 20), (21, lk l 21), (53, lk l 53), (54, lk l 54), (55, lk l 55)], rows, low⟩ r := rg [1, 2, 5, 6, 8, 9, 10, 11, 20, 21, 53, 54, 55] c78r27 rfl (by kernel_rfl)
@[simp] theorem uc78s28 : Ex F cx (.code c78s28 :: k) s r ↔ Ex F cx (.code (.seq c78k27 c78s26) :: k) s r := Iff.rfl
@[simp] theorem uc78k29 : Ex F cx (.code c78k29 :: k) ⟨mk 116 l, rows, low⟩ r ↔ bnd (evP rows (.idxS 2 (.c (lk l 53)) (.c (lk l 55)))) fun v0 => bnd (evP rows (.loadN 2 (.c v0))) fun v1 => bnd (evE rows low (.box (.c (.agg [.int .i64 0, .int .i64 0])))) fun q2 => bnd (evE q2.2.1 q2.2.2 (.storeN 2 (.c q2.1) (.c v1))) fun q3 => Ex F cx k ⟨mk 116 [(10, lk l 55), (11, q2.1), (59, v1), (58, v0), (57, lk l 55), (1, lk l 1), (2, lk l 2), (5, lk l 5), (6, lk l 6), (8, lk l 8), (9, lk l 9), (20, lk l 20), (21, lk l 21), (53, lk l 53), (54, lk l 54), (55, lk l 55)], q3.2.1, q3.2.2⟩ r := rg [1, 2, 5, 6, 8, 9, 20, 21, 53, 54, 55] c78r29 rfl (by kernel_rfl)
@[simp] theorem uc78s30 : Ex F cx (.code c78s30 :: k) s r ↔ Ex F cx (.code (.seq (.block 5 (.seq c78k29 c78s28)) c78k6) :: k) s r := Iff.rfl
@[simp] theorem uc78s31 : Ex F cx (.code c78s31 :: k) s r ↔ Ex F cx (.code (.seq (.cond (.t 56) .skip (.exit 4)) c78s30) :: k) s r := Iff.rfl
@[simp] theorem uc78k32 : Ex F cx (.code c78k32 :: k) ⟨mk 116 l, rows, low⟩ r ↔ bnd (evP rows (.bin .lss (.c (lk l 55)) (.c (lk l 54)))) fun v0 => Ex F cx k ⟨mk 116 [(56, v0), (1, lk l 1), (2, lk l 2), (5, lk l 5), (6, lk l 6), (8, lk l 8), (9, lk l 9), (20, lk l 20), (21, lk l 21), (53, lk l 53), (54, lk l 54), (55, lk l 55)], rows, low⟩ r := rg [1, 2, 5, 6, 8, 9, 20, 21, 53, 54, 55] c78r32 rfl (by kernel_rfl)
@[simp] theorem uc78s33 : Ex F cx (.code c78s33 :: k) s r ↔ Ex F cx (.code (.block 4 (.loop c78l5)) :: k) s r := Iff.rfl
@[simp] theorem uc78k34 : Ex F cx (.code c78k34 :: k) ⟨mk 116 l, rows, low⟩ r ↔ bnd (evP rows (.fieldA 1 (.c (lk l 2)))) fun v0 => bnd (evP rows (.load1 (.c v0))) fun v1 => bnd (evP rows (.len 0 (.c v1))) fun v2 => Ex F cx k ⟨mk 116 [(55, (.int .i64 0)), (54, v2), (53, v1), (52, v0), (1, lk l 1), (2, lk l 2), (5, lk l 5), (6, lk l 6), (8, lk l 8), (9, lk l 9), (20, lk l 20), (21, lk l 21)], rows, low⟩ r := rg [1, 2, 5, 6, 8, 9, 20, 21] c78r34 rfl (by kernel_rfl)
@[simp] theorem uc78s35 : Ex F cx (.code c78s35 :: k) s r ↔ Ex F cx (.code (.seq c78k34 c78s33) :: k) s r := Iff.rfl
@[simp] theorem uc78k36 : Ex F cx (.code c78k36 :: k) ⟨mk 116 l, rows, low⟩ r ↔ bnd (evP rows (.sliceS 1 (.c (lk l 8)) (some (.c (.int .i64 1))) none none)) fun v0 => Ex F cx k ⟨mk 116 [(8, v0), (51, v0), (50, lk l 8), (1, lk l 1), (2, lk l 2), (5, lk l 5), (6, lk l 6), (8, lk l 8), (9, lk l 9), (20, lk l 20), (21, lk l 21)], rows, low⟩ r := rg [1, 2, 5, 6, 8, 9, 20, 21] c78r36 rfl (by kernel_rfl)
@[simp] theorem uc78s37 : Ex F cx (.code c78s37 :: k) s r ↔ Ex F cx (.code (.seq c78k36 c78s35) :: k) s r := Iff.rfl
@[simp] theorem uc78k38 : Ex F cx (.code c78k38 :: k) ⟨mk 116 l, rows, low⟩ r ↔ bnd (evP rows (.idxS 1 (.c (lk l 8)) (.c (.int .i64 0)))) fun v0 => bnd (evP rows (.load1 (.c v0))) fun v1 => Ex F cx k ⟨mk 116 [(9, v1), (49, v1), (48, v0), (47, lk l 8), (1, lk l 1), (2, lk l 2), (5, lk l 5), (6, lk l 6), (8, lk l 8), (20, lk l 20), (21, lk l 21)], rows, low⟩ r := rg [1, 2, 5, 6, 8, 20, 21] c78r38 rfl (by kernel_rfl)
@[simp] theorem uc78s39 : Ex F cx (.code c78s39 :: k) s r ↔ Ex F cx (.code (.block 3 (.seq c78k38 c78s37)) :: k) s r := Iff.rfl
@[simp] theorem uc78s40 : Ex F cx (.code c78s40 :: k) s r ↔ Ex F cx (.code (.cond (.t 46) .skip (.exit 2)) :: k) s r := Iff.rfl
@[simp] theorem uc78k41 : Ex F cx (.code c78k41 :: k) ⟨mk 116 l, rows, low⟩ r ↔ bnd (evP rows (.len 0 (.c (lk l 8)))) fun v0 => bnd (evP rows (.bin .gtr (.c v0) (.c (.int .i64 0)))) fun v1 => Ex F cx k ⟨mk 116 [(46, v1), (45, v0), (44, lk l 8), (1, lk l 1), (2, lk l 2), (5, lk l 5), (6, lk l 6), (8, lk l 8), (20, lk l 20), (21, lk l 21)], rows, low⟩ r := rg [1, 2, 5, 6, 8, 20, 21] c78r41 rfl (by kernel_rfl)
@[simp] theorem uc78s42 : Ex F cx (.code c78s42 :: k) s r ↔ Ex F cx (.code (.block 2 (.loop c78l4)) :: k) s r := Iff.rfl
@[simp] theorem uc78k43 : Ex F cx (.code c78k43 :: k) ⟨mk 116 l, rows, low⟩ r ↔ bnd (evE rows low (.mkslice 1 [.int .i64 0] [(0, 1, (.c (lk l 7)))])) fun q0 => Ex F cx k ⟨mk 116 [(8, q0.1), (43, q0.1), (42, lk l 7), (1, lk l 1), (2, lk l 2), (5, lk l 5), (6, lk l 6), (7, lk l 7), (20, lk l 20), (21, lk l 21)], q0.2.1, q0.2.2⟩ r := rg [1, 2, 5, 6, 7, 20, 21] c78r43 rfl (by kernel_rfl)
@[simp] theorem uc78s44 : Ex F cx (.code c78s44 :: k) s r ↔ Ex F cx (.code (.seq c78k43 c78s42) :: k) s r := Iff.rfl
@[simp] theorem uc78k45 : Ex F cx (.code c78k45 :: k) ⟨mk 116 l, rows, low⟩ r ↔ bnd (evP rows (.nilck (.c (lk l 5)))) fun v0 => bnd (evP rows (.fieldA 0 (.c v0))) fun v1 => bnd (evP rows (.idxA 6 1 (.c v1) (.c (lk l 7)))) fun v2 => bnd (evE rows low (.store1 (.c v2) (.c (lk l 7)))) fun q3 => Ex F cx k ⟨mk 116 [(41, v2), (40, v1), (39, v0), (38, lk l 7), (37, lk l 7), (36, lk l 5), (1, lk l 1), (2, lk l 2), (5, lk l 5), (6, lk l 6), (7, lk l 7), (20, lk l 20), (21, lk l 21)], q3.2.1, q3.2.2⟩ r := rg [1, 2, 5, 6, 7, 20, 21] c78r45 rfl (by kernel_rfl)
@[simp] theorem uc78s46 : Ex F cx (.code c78s46 :: k) s r ↔ Ex F cx (.code (.seq c78k45 c78s44) :: k) s r := Iff.rfl
@[simp] theorem uc78k47 : Ex F cx (.code c78k47 :: k) ⟨mk 116 l, rows, low⟩ r ↔ bnd (evE rows low (.mset (.c (lk l 6)) (.c (lk l 7)) (.c (.bool true)))) fun q0 => Ex F cx k ⟨mk 116 [(35, lk l 7), (34, lk l 6), (1, lk l 1), (2, lk l 2), (5, lk l 5), (6, lk l 6), (7, lk l 7), (20, lk l 20), (21, lk l 21)], q0.2.1, q0.2.2⟩ r := rg [1, 2, 5, 6, 7, 20, 21] c78r47 rfl (by kernel_rfl)
@[simp] theorem uc78s48 : Ex F cx (.code c78s48 :: k) s r ↔ Ex F cx (.code (.seq c78k47 c78s46) :: k) s r := Iff.rfl
@[simp] theorem uc78k49 : Ex F cx (.code c78k49 :: k) ⟨mk 116 l, rows, low⟩ r ↔ bnd (evP rows (.nilck (.c (lk l 5)))) fun v0 => bnd (evP rows (.fieldA 12 (.c v0))) fun v1 => bnd (evP rows (.load1 (.c v1))) fun v2 => bnd (evP rows (.bin .add (.c v2) (.c (.int .i64 1)))) fun v3 => bnd (evP rows (.nilck (.c (lk l 5)))) fun v4 => bnd (evP rows (.fieldA 12 (.c v4))) fun v5 => bnd (evE rows low (.store1 (.c v5) (.c v3))) fun q6 => Ex F cx k ⟨mk 116 [(33, v5), (32, v4), (31, v3), (30, v2), (29, v1), (28, v0), (27, lk l 5), (1, lk l 1), (2, lk l 2), (5, lk l 5), (6, lk l 6), (7, lk l 7), (20, lk l 20), (21, lk l 21)], q6.2.1, q6.2.2⟩ r := rg [1, 2, 5, 6, 7, 20, 21] c78r49 rfl (by kernel_rfl)
@[simp] theorem uc78s50 : Ex F cx (.code c78s50 :: k) s r ↔ Ex F cx (.code (.seq c78k49 c78s48) :: k) s r := Iff.rfl
@[simp] theorem uc78s51 : Ex F cx (.code c78s51 :: k) s r ↔ Ex F cx (.code (.cond (.t 26) (.exit 1) .skip) :: k) s r := Iff.rfl
@[simp] theorem uc78k52 : Ex F cx (.code c78k52 :: k) ⟨mk 116 l, rows, low⟩ r ↔ bnd (evP rows (.look (.bool false) false (.c (lk l 6)) (.c (lk l 7)))) fun v0 => Ex F cx k ⟨mk 116 [(26, v0), (25, lk l 7), (24, lk l 6), (1, lk l 1), (2, lk l 2), (5, lk l 5), (6, lk l 6), (7, lk l 7), (20, lk l 20), (21, lk l 21)], rows, low⟩ r := rg [1, 2, 5, 6, 7, 20, 21] c78r52 rfl (by kernel_rfl)
@[simp] theorem uc78s53 : Ex F cx (.code c78s53 :: k) s r ↔ Ex F cx (.code (.seq (.seq c78k52 c78s51) c78s50) :: k) s r := Iff.rfl
@[simp] theorem uc78k54 : Ex F cx (.code c78k54 :: k) ⟨mk 116 l, rows, low⟩ r ↔ Ex F cx k ⟨mk 116 [(7, lk l 21), (23, lk l 21), (1, lk l 1), (2, lk l 2), (5, lk l 5), (6, lk l 6), (20, lk l 20), (21, lk l 21)], rows, low⟩ r := rg [1, 2, 5, 6, 20, 21] c78r54 rfl (by kernel_rfl)
@[simp] theorem uc78s55 : Ex F cx (.code c78s55 :: k) s r ↔ Ex F cx (.code (.seq (.block 1 (.seq c78k54 c78s53)) c78k3) :: k) s r := Iff.rfl
@[simp] theorem uc78s56 : Ex F cx (.code c78s56 :: k) s r ↔ Ex F cx (.code (.seq (.cond (.t 22) .skip (.exit 0)) c78s55) :: k) s r := Iff.rfl
@[simp] theorem uc78k57 : Ex F cx (.code c78k57 :: k) ⟨mk 116 l, rows, low⟩ r ↔ bnd (evP rows (.bin .lss (.c (lk l 21)) (.c (lk l 20)))) fun v0 => Ex F cx k ⟨mk 116 [(22, v0), (1, lk l 1), (2, lk l 2), (5, lk l 5), (6, lk l 6), (20, lk l 20), (21, lk l 21)], rows, low⟩ r := rg [1, 2, 5, 6, 20, 21] c78r57 rfl (by kernel_rfl)
@[simp] theorem uc78s58 : Ex F cx (.code c78s58 :: k) s r ↔ Ex F cx (.code (.block 0 (.loop c78l2)) :: k) s r := Iff.rfl
@[simp] theorem uc78k59 : Ex F cx (.code c78k59 :: k) ⟨mk 116 l, rows, low⟩ r ↔ bnd (evP rows (.fieldA 0 (.c (lk l 2)))) fun v0 => bnd (evP rows (.load1 (.c v0))) fun v1 => Ex F cx k ⟨mk 116 [(21, (.int .i64 0)), (20, v1), (19, v0), (1, lk l 1), (2, lk l 2), (5, lk l 5), (6, lk l 6)], rows, low⟩ r := rg [1, 2, 5, 6] c78r59 rfl (by kernel_rfl)
@[simp] theorem uc78s60 : Ex F cx (.code c78s60 :: k) s r ↔ Ex F cx (.code (.seq (.seq c78k59 c78s58) c78s1) :: k) s r := Iff.rfl
@[simp] theorem uc78k61 : Ex F cx (.code c78k61 :: k) ⟨mk 116 l, rows, low⟩ r ↔ bnd (evE rows low (.mkmap)) fun q0 => Ex F cx k ⟨mk 116 [(6, q0.1), (18, q0.1), (1, lk l 1), (2, lk l 2), (5, lk l 5)], q0.2.1, q0.2.2⟩ r := rg [1, 2, 5] c78r61 rfl (by kernel_rfl)
@[simp] theorem uc78s62 : Ex F cx (.code c78s62 :: k) s r ↔ Ex F cx (.code (.seq c78k61 c78s60) :: k) s r := Iff.rfl
@[simp] theorem uc78k63 : Ex F cx (.code c78k63 :: k) ⟨mk 116 l, rows, low⟩ r ↔ bnd (evP rows (.mkagg (List.replicate 13 (.int .i64 0)) [])) fun v0 => bnd (evE rows low (.box (.c v0))) fun q1 => Ex F cx k ⟨mk 116 [(5, q1.1), (17, q1.1), (16, v0), (1, lk l 1), (2, lk l 2)], q1.2.1, q1.2.2⟩ r := rg [1, 2] c78r63 rfl (by kernel_rfl)
@[simp] theorem uc78s64 : Ex F cx (.code c78s64 :: k) s r ↔ Ex F cx (.code (.seq c78k63 c78s62) :: k) s r := Iff.rfl
@[simp] theorem uc78k65 : Ex F cx (.code c78k65 :: k) ⟨mk 116 l, rows, low⟩ r ↔ bnd (evE rows low (.box (.c (lk l 0)))) fun q0 => Ex F cx k ⟨mk 116 [(4, .nilptr), (2, q0.1), (0, lk l 0), (1, lk l 1)], q0.2.1, q0.2.2⟩ r := rg [0, 1] c78r65 rfl (by kernel_rfl)
def Jc78s15 (F : Nat → Option IFn) (cx : Ctx) (x1 x2 x5 x6 x8 x9 x10 x11 x13 x14 x15 x20 x21 x53 x54 x55 x60 : AV) (rows : List Row) (low : Nat) (r : AV × List Row × Nat → Prop) : Prop := Ex F cx (.code c78s15 :: .inBlock 7 :: .code c78k8 :: .inLoop c78l7 :: .inBlock 6 :: .inBlock 5 :: .code c78k6 :: .inLoop c78l5 :: .inBlock 4 :: .inBlock 3 :: .inLoop c78l4 :: .inBlock 2 :: .inBlock 1 :: .code c78k3 :: .inLoop c78l2 :: .inBlock 0 :: .code c78s1 :: []) ⟨mk 116 [(1, x1), (2, x2), (5, x5), (6, x6), (8, x8), (9, x9), (10, x10), (11, x11), (13, x13), (14, x14), (15, x15), (20, x20), (21, x21), (53, x53), (54, x54), (55, x55), (60, x60)], rows, low⟩ r
theorem jc78s15 : Ex F cx (.code c78s15 :: .inBlock 7 :: .code c78k8 :: .inLoop c78l7 :: .inBlock 6 :: .inBlock 5 :: .code c78k6 :: .inLoop c78l5 :: .inBlock 4 :: .inBlock 3 :: .inLoop c78l4 :: .inBlock 2 :: .inBlock 1 :: .code c78k3 :: .inLoop c78l2 :: .inBlock 0 :: .code c78s1 :: []) ⟨mk 116 l, rows, low⟩ r ↔ Jc78s15 F cx (lk l 1) (lk l 2) (lk l 5) (lk l 6) (lk l 8) (lk l 9) (lk l 10) (lk l 11) (lk l 13) (lk l 14) (lk l 15) (lk l 20) (lk l 21) (lk l 53) (lk l 54) (lk l 55) (lk l 60) rows low r := Ex_canon (keep := [1, 2, 5, 6, 8, 9, 10, 11, 13, 14, 15, 20, 21, 53, 54, 55, 60]) (by kernel_rfl)
def Jc78s23 (F : Nat → Option IFn) (cx : Ctx) (x1 x2 x5 x6 x8 x9 x10 x11 x20 x21 x53 x54 x55 x60 : AV) (rows : List Row) (low : Nat) (r : AV × List Row × Nat → Prop) : Prop := Ex F cx (.code c78s23 :: .inLoop c78l7 :: .inBlock 6 :: .inBlock 5 :: .code c78k6 :: .inLoop c78l5 :: .inBlock 4 :: .inBlock 3 :: .inLoop c78l4 :: .inBlock 2 :: .inBlock 1 :: .code c78k3 :: .inLoop c78l2 :: .inBlock 0 :: .code c78s1 :: []) ⟨mk 116 [(1, x1), (2, x2), (5, x5), (6, x6), (8, x8), (9, x9), (10, x10), (11, x11), (20, x20), (21, x21), (53, x53), (54, x54), (55, x55), (60, x60)], rows, low⟩ r
def Lc78l7 (F : Nat → Option IFn) (cx : Ctx) (x1 x2 x5 x6 x8 x9 x10 x11 x20 x21 x53 x54 x55 x60 : AV) (rows : List Row) (low : Nat) (r : AV × List Row × Nat → Prop) : Prop := Ex F cx (.code c78l7 :: .inLoop c78l7 :: .inBlock 6 :: .inBlock 5 :: .code c78k6 :: .inLoop c78l5 :: .inBlock 4 :: .inBlock 3 :: .inLoop c78l4 :: .inBlock 2 :: .inBlock 1 :: .code c78k3 :: .inLoop c78l2 :: .inBlock 0 :: .code c78s1 :: []) ⟨mk 116 [(1, x1), (2, x2), (5, x5), (6, x6), (8, x8), (9, x9), (10, x10), (11, x11), (20, x20), (21, x21), (53, x53), (54, x54), (55, x55), (60, x60)], rows, low⟩ r
@[simp] theorem nc78l7 : Ex F cx (.inLoop c78l7 :: .inBlock 6 :: .inBlock 5 :: .code c78k6 :: .inLoop c78l5 :: .inBlock 4 :: .inBlock 3 :: .inLoop c78l4 :: .inBlock 2 :: .inBlock 1 :: .code c78k3 :: .inLoop c78l2 :: .inBlock 0 :: .code c78s1 :: []) ⟨mk 116 l, rows, low⟩ r ↔ Lc78l7 F cx (lk l 1) (lk l 2) (lk l 5) (lk l 6) (lk l 8) (lk l 9) (lk l 10) (lk l 11) (lk l 20) (lk l 21) (lk l 53) (lk l 54) (lk l 55) (lk l 60) rows low r := loopN (keep := [1, 2, 5, 6, 8, 9, 10, 11, 20, 21, 53, 54, 55, 60]) (by kernel_rfl)
@[simp] theorem ec78l7 : Ex F cx (.code (.loop c78l7) :: .inBlock 6 :: .inBlock 5 :: .code c78k6 :: .inLoop c78l5 :: .inBlock 4 :: .inBlock 3 :: .inLoop c78l4 :: .inBlock 2 :: .inBlock 1 :: .code c78k3 :: .inLoop c78l2 :: .inBlock 0 :: .code c78s1 :: []) ⟨mk 116 l, rows, low⟩ r ↔ Lc78l7 F cx (lk l 1) (lk l 2) (lk l 5) (lk l 6) (lk l 8) (lk l 9) (lk l 10) (lk l 11) (lk l 20) (lk l 21) (lk l 53) (lk l 54) (lk l 55) (lk l 60) rows low r := loopE (keep := [1, 2, 5, 6, 8, 9, 10, 11, 20, 21, 53, 54, 55, 60]) (by kernel_rfl)
@[simp] theorem uc78l7 : Ex F cx (.code c78l7 :: k) s r ↔ Ex F cx (.code (.seq c78k25 c78s24) :: k) s r := Iff.rfl
def Jc78s30 (F : Nat → Option IFn) (cx : Ctx) (x1 x2 x5 x6 x8 x9 x20 x21 x53 x54 x55 : AV) (rows : List Row) (low : Nat) (r : AV × List Row × Nat → Prop) : Prop := Ex F cx (.code c78s30 :: .inLoop c78l5 :: .inBlock 4 :: .inBlock 3 :: .inLoop c78l4 :: .inBlock 2 :: .inBlock 1 :: .code c78k3 :: .inLoop c78l2 :: .inBlock 0 :: .code c78s1 :: []) ⟨mk 116 [(1, x1), (2, x2), (5, x5), (6, x6), (8, x8), (9, x9), (20, x20), (21, x21), (53, x53), (54, x54), (55, x55)], rows, low⟩ r
def Lc78l5 (F : Nat → Option IFn) (cx : Ctx) (x1 x2 x5 x6 x8 x9 x20 x21 x53 x54 x55 : AV) (rows : List Row) (low : Nat) (r : AV × List Row × Nat → Prop) : Prop := Ex F cx (.code c78l5 :: .inLoop c78l5 :: .inBlock 4 :: .inBlock 3 :: .inLoop c78l4 :: .inBlock 2 :: .inBlock 1 :: .code c78k3 :: .inLoop c78l2 :: .inBlock 0 :: .code c78s1 :: []) ⟨mk 116 [(1, x1), (2, x2), (5, x5), (6, x6), (8, x8), (9, x9), (20, x20), (21, x21), (53, x53), (54, x54), (55, x55)], rows, low⟩ r
@[simp] theorem nc78l5 : Ex F cx (.inLoop c78l5 :: .inBlock 4 :: .inBlock 3 :: .inLoop c78l4 :: .inBlock 2 :: .inBlock 1 :: .code c78k3 :: .inLoop c78l2 :: .inBlock 0 :: .code c78s1 :: []) ⟨mk 116 l, rows, low⟩ r ↔ Lc78l5 F cx (lk l 1) (lk l 2) (lk l 5) (lk l 6) (lk l 8) (lk l 9) (lk l 20) (lk l 21) (lk l 53) (lk l 54) (lk l 55) rows low r := loopN (keep := [1, 2, 5, 6, 8, 9, 20, 21, 53, 54, 55]) (by kernel_rfl)
@[simp] theorem ec78l5 : Ex F cx (.code (.loop c78l5) :: .inBlock 4 :: .inBlock 3 :: .inLoop c78l4 :: .inBlock 2 :: .inBlock 1 :: .code c78k3 :: .inLoop c78l2 :: .inBlock 0 :: .code c78s1 :: []) ⟨mk 116 l, rows, low⟩ r ↔ Lc78l5 F cx (lk l 1) (lk l 2) (lk l 5) (lk l 6) (lk l 8) (lk l 9) (lk l 20) (lk l 21) (lk l 53) (lk l 54) (lk l 55) rows low r := loopE (keep := [1, 2, 5, 6, 8, 9, 20, 21, 53, 54, 55]) (by kernel_rfl)
@[simp] theorem uc78l5 : Ex F cx (.code c78l5 :: k) s r ↔ Ex F cx (.code (.seq c78k32 c78s31) :: k) s r := Iff.rfl
def Jc78s39 (F : Nat → Option IFn) (cx : Ctx) (x1 x2 x5 x6 x8 x20 x21 : AV) (rows : List Row) (low : Nat) (r : AV × List Row × Nat → Prop) : Prop := Ex F cx (.code c78s39 :: .inLoop c78l4 :: .inBlock 2 :: .inBlock 1 :: .code c78k3 :: .inLoop c78l2 :: .inBlock 0 :: .code c78s1 :: []) ⟨mk 116 [(1, x1), (2, x2), (5, x5), (6, x6), (8, x8), (20, x20), (21, x21)], rows, low⟩ r
def Lc78l4 (F : Nat → Option IFn) (cx : Ctx) (x1 x2 x5 x6 x8 x20 x21 : AV) (rows : List Row) (low : Nat) (r : AV × List Row × Nat → Prop) : Prop := Ex F cx (.code c78l4 :: .inLoop c78l4 :: .inBlock 2 :: .inBlock 1 :: .code c78k3 :: .inLoop c78l2 :: .inBlock 0 :: .code c78s1 :: []) ⟨mk 116 [(1, x1), (2, x2), (5, x5), (6, x6), (8, x8), (20, x20), (21, x21)], rows, low⟩ r
@[simp] theorem nc78l4 : Ex F cx (.inLoop c78l4 :: .inBlock 2 :: .inBlock 1 :: .code c78k3 :: .inLoop c78l2 :: .inBlock 0 :: .code c78s1 :: []) ⟨mk 116 l, rows, low⟩ r ↔ Lc78l4 F cx (lk l 1) (lk l 2) (lk l 5) (lk l 6) (lk l 8) (lk l 20) (lk l 21) rows low r := loopN (keep := [1, 2, 5, 6, 8, 20, 21]) (by kernel_rfl)
@[simp] theorem ec78l4 : Ex F cx (.code (.loop c78l4) :: .inBlock 2 :: .inBlock 1 :: .code c78k3 :: .inLoop c78l2 :: .inBlock 0 :: .code c78s1 :: []) ⟨mk 116 l, rows, low⟩ r ↔ Lc78l4 F cx (lk l 1) (lk l 2) (lk l 5) (lk l 6) (lk l 8) (lk l 20) (lk l 21) rows low r := loopE (keep := [1, 2, 5, 6, 8, 20, 21]) (by kernel_rfl)
@[simp] theorem uc78l4 : Ex F cx (.code c78l4 :: k) s r ↔ Ex F cx (.code (.seq (.seq c78k41 c78s40) c78s39) :: k) s r := Iff.rfl
def Jc78s50 (F : Nat → Option IFn) (cx : Ctx) (x1 x2 x5 x6 x7 x20 x21 : AV) (rows : List Row) (low : Nat) (r : AV × List Row × Nat → Prop) : Prop := Ex F cx (.code c78s50 :: .inBlock 1 :: .code c78k3 :: .inLoop c78l2 :: .inBlock 0 :: .code c78s1 :: []) ⟨mk 116 [(1, x1), (2, x2), (5, x5), (6, x6), (7, x7), (20, x20), (21, x21)], rows, low⟩ r
def Jc78s55 (F : Nat → Option IFn) (cx : Ctx) (x1 x2 x5 x6 x20 x21 : AV) (rows : List Row) (low : Nat) (r : AV × List Row × Nat → Prop) : Prop := Ex F cx (.code c78s55 :: .inLoop c78l2 :: .inBlock 0 :: .code c78s1 :: []) ⟨mk 116 [(1, x1), (2, x2), (5, x5), (6, x6), (20, x20), (21, x21)], rows, low⟩ r
def Lc78l2 (F : Nat → Option IFn) (cx : Ctx) (x1 x2 x5 x6 x20 x21 : AV) (rows : List Row) (low : Nat) (r : AV × List Row × Nat → Prop) : Prop := Ex F cx (.code c78l2 :: .inLoop c78l2 :: .inBlock 0 :: .code c78s1 :: []) ⟨mk 116 [(1, x1), (2, x2), (5, x5), (6, x6), (20, x20), (21, x21)], rows, low⟩ r
@[simp] theorem nc78l2 : Ex F cx (.inLoop c78l2 :: .inBlock 0 :: .code c78s1 :: []) ⟨mk 116 l, rows, low⟩ r ↔ Lc78l2 F cx (lk l 1) (lk l 2) (lk l 5) (lk l 6) (lk l 20) (lk l 21) rows low r := loopN (keep := [1, 2, 5, 6, 20, 21]) (by kernel_rfl)
@[simp] theorem ec78l2 : Ex F cx (.code (.loop c78l2) :: .inBlock 0 :: .code c78s1 :: []) ⟨mk 116 l, rows, low⟩ r ↔ Lc78l2 F cx (lk l 1) (lk l 2) (lk l 5) (lk l 6) (lk l 20) (lk l 21) rows low r := loopE (keep := [1, 2, 5, 6, 20, 21]) (by kernel_rfl)
@[simp] theorem uc78l2 : Ex F cx (.code c78l2 :: k) s r ↔ Ex F cx (.code (.seq c78k57 c78s56) :: k) s r := Iff.rfl
@[simp] theorem uc78b : Ex F cx (.code c78b :: k) s r ↔ Ex F cx (.code (.seq c78k65 c78s64) :: k) s r := Iff.rfl
theorem i78 {x0 x1 : AV} (hF : F 78 = some c78) {q : AV × List Row × Option Nat} (h : Ex F (.fn [.t 4]) [.code c78b] ⟨mk 116 [(0, x0), (1, x1)], rows, rows.length⟩ fun r => fin rows r.1 r.2.1 r.2.2 = q) : Ret F 78 [x0, x1] rows = some q := Ret_mk hF h
@[simp] theorem uc84k0 : Ex F cx (.code c84k0 :: k) ⟨mk 36 l, rows, low⟩ r ↔ Ex F cx k ⟨mk 36 [(2, lk l 6), (35, lk l 6), (6, lk l 6)], rows, low⟩ r := rg [6] c84r0 rfl (by kernel_rfl)
@[simp] theorem uc84s1 : Ex F cx (.code c84s1 :: k) s r ↔ Ex F cx (.code (.seq c84k0 .ret) :: k) s r := Iff.rfl
@[simp] theorem uc84k3 : Ex F cx (.code c84k3 :: k) ⟨mk 36 l, rows, low⟩ r ↔ bnd (evP rows (.bin .add (.c (lk l 27)) (.c (.int .i64 1)))) fun v0 => Ex F cx k ⟨mk 36 [(27, v0), (34, v0), (6, lk l 6), (25, lk l 25), (26, lk l 26), (27, lk l 27)], rows, low⟩ r := rg [6, 25, 26, 27] c84r3 rfl (by kernel_rfl)
@[simp] theorem uc84k4 : Ex F cx (.code c84k4 :: k) ⟨mk 36 l, rows, low⟩ r ↔ bnd (evE rows low (.app 1 8 (.c (lk l 6)) (.c (lk l 8)))) fun q0 => Ex F cx k ⟨mk 36 [(6, q0.1), (33, q0.1), (32, lk l 8), (31, lk l 6), (6, lk l 6), (8, lk l 8), (25, lk l 25), (26, lk l 26), (27, lk l 27)], q0.2.1, q0.2.2⟩ r := rg [6, 8, 25, 26, 27] c84r4 rfl (by kernel_rfl)
@[simp] theorem uc84k5 : Ex F cx (.code c84k5 :: k) ⟨mk 36 l, rows, low⟩ r ↔ bnd (evP rows (.idxS 1 (.c (lk l 25)) (.c (lk l 27)))) fun v0 => bnd (evP rows (.load1 (.c v0))) fun v1 => Ex F cx k ⟨mk 36 [(8, v1), (30, v1), (29, v0), (6, lk l 6), (25, lk l 25), (26, lk l 26), (27, lk l 27)], rows, low⟩ r := rg [6, 25, 26, 27] c84r5 rfl (by kernel_rfl)
@[simp] theorem uc84s6 : Ex F cx (.code c84s6 :: k) s r ↔ Ex F cx (.code (.seq (.block 3 (.seq c84k5 c84k4)) c84k3) :: k) s r := Iff.rfl
@[simp] theorem uc84s7 : Ex F cx (.code c84s7 :: k) s r ↔ Ex F cx (.code (.seq (.cond (.t 28) .skip (.exit 2)) c84s6) :: k) s r := Iff.rfl
@[simp] theorem uc84k8 : Ex F cx (.code c84k8 :: k) ⟨mk 36 l, rows, low⟩ r ↔ bnd (evP rows (.bin .lss (.c (lk l 27)) (.c (lk l 26)))) fun v0 => Ex F cx k ⟨mk 36 [(28, v0), (6, lk l 6), (25, lk l 25), (26, lk l 26), (27, lk l 27)], rows, low⟩ r := rg [6, 25, 26, 27] c84r8 rfl (by kernel_rfl)
@[simp] theorem uc84s9 : Ex F cx (.code c84s9 :: k) s r ↔ Ex F cx (.code (.block 2 (.loop c84l2)) :: k) s r := Iff.rfl
@[simp] theorem uc84k10 : Ex F cx (.code c84k10 :: k) ⟨mk 36 l, rows, low⟩ r ↔ bnd (evP rows (.len 0 (.c (lk l 0)))) fun v0 => Ex F cx k ⟨mk 36 [(27, (.int .i64 0)), (26, v0), (25, lk l 0), (0, lk l 0), (6, lk l 6)], rows, low⟩ r := rg [0, 6] c84r10 rfl (by kernel_rfl)
@[simp] theorem uc84s11 : Ex F cx (.code c84s11 :: k) s r ↔ Ex F cx (.code (.seq (.seq c84k10 c84s9) c84s1) :: k) s r := Iff.rfl
@[simp] theorem uc84k12 : Ex F cx (.code c84k12 :: k) ⟨mk 36 l, rows, low⟩ r ↔ bnd (Ret F 104 [.nilslice, lk l 3] rows) fun q0 => Ex F cx k ⟨mk 36 [(6, q0.1), (24, q0.1), (23, lk l 3), (0, lk l 0), (3, lk l 3)], q0.2.1, (lowO low q0.2.2)⟩ r := rg [0, 3] c84r12 rfl (by kernel_rfl)
@[simp] theorem uc84s13 : Ex F cx (.code c84s13 :: k) s r ↔ Ex F cx (.code (.seq c84k12 c84s11) :: k) s r := Iff.rfl
@[simp] theorem uc84k15 : Ex F cx (.code c84k15 :: k) ⟨mk 36 l, rows, low⟩ r ↔ bnd (evP rows (.bin .add (.c (lk l 11)) (.c (.int .i64 1)))) fun v0 => Ex F cx k ⟨mk 36 [(11, v0), (22, v0), (0, lk l 0), (3, lk l 3), (9, lk l 9), (10, lk l 10), (11, lk l 11)], rows, low⟩ r := rg [0, 3, 9, 10, 11] c84r15 rfl (by kernel_rfl)
@[simp] theorem uc84s17 : Ex F cx (.code c84s17 :: k) s r ↔ Ex F cx (.code (.cond (.t 20) c84k16 .skip) :: k) s r := Iff.rfl
@[simp] theorem uc84k18 : Ex F cx (.code c84k18 :: k) ⟨mk 36 l, rows, low⟩ r ↔ bnd (evP rows (.bin .lss (.c (lk l 3)) (.c (.int .i64 0)))) fun v0 => Ex F cx k ⟨mk 36 [(20, v0), (19, lk l 3), (0, lk l 0), (3, lk l 3), (9, lk l 9), (10, lk l 10), (11, lk l 11)], rows, low⟩ r := rg [0, 3, 9, 10, 11] c84r18 rfl (by kernel_rfl)
@[simp] theorem uc84s19 : Ex F cx (.code c84s19 :: k) s r ↔ Ex F cx (.code (.seq c84k18 c84s17) :: k) s r := Iff.rfl
@[simp] theorem uc84k20 : Ex F cx (.code c84k20 :: k) ⟨mk 36 l, rows, low⟩ r ↔ bnd (evP rows (.len 0 (.c (lk l 5)))) fun v0 => bnd (evP rows (.bin .add (.c (lk l 3)) (.c v0))) fun v1 => Ex F cx k ⟨mk 36 [(3, v1), (18, v1), (17, v0), (16, lk l 5), (15, lk l 3), (0, lk l 0), (3, lk l 3), (5, lk l 5), (9, lk l 9), (10, lk l 10), (11, lk l 11)], rows, low⟩ r := rg [0, 3, 5, 9, 10, 11] c84r20 rfl (by kernel_rfl)
@[simp] theorem uc84s21 : Ex F cx (.code c84s21 :: k) s r ↔ Ex F cx (.code (.seq c84k20 c84s19) :: k) s r := Iff.rfl
@[simp] theorem uc84k22 : Ex F cx (.code c84k22 :: k) ⟨mk 36 l, rows, low⟩ r ↔ bnd (evP rows (.idxS 1 (.c (lk l 9)) (.c (lk l 11)))) fun v0 => bnd (evP rows (.load1 (.c v0))) fun v1 => Ex F cx k ⟨mk 36 [(5, v1), (14, v1), (13, v0), (0, lk l 0), (3, lk l 3), (9, lk l 9), (10, lk l 10), (11, lk l 11)], rows, low⟩ r := rg [0, 3, 9, 10, 11] c84r22 rfl (by kernel_rfl)
@[simp] theorem uc84s23 : Ex F cx (.code c84s23 :: k) s r ↔ Ex F cx (.code (.seq (.block 1 (.seq c84k22 c84s21)) c84k15) :: k) s r := Iff.rfl
@[simp] theorem uc84s24 : Ex F cx (.code c84s24 :: k) s r ↔ Ex F cx (.code (.seq (.cond (.t 12) .skip (.exit 0)) c84s23) :: k) s r := Iff.rfl
@[simp] theorem uc84k25 : Ex F cx (.code c84k25 :: k) ⟨mk 36 l, rows, low⟩ r ↔ bnd (evP rows (.bin .lss (.c (lk l 11)) (.c (lk l 10)))) fun v0 => Ex F cx k ⟨mk 36 [(12, v0), (0, lk l 0), (3, lk l 3), (9, lk l 9), (10, lk l 10), (11, lk l 11)], rows, low⟩ r := rg [0, 3, 9, 10, 11] c84r25 rfl (by kernel_rfl)
@[simp] theorem uc84s26 : Ex F cx (.code c84s26 :: k) s r ↔ Ex F cx (.code (.block 0 (.loop c84l14)) :: k) s r := Iff.rfl
@[simp] theorem uc84k27 : Ex F cx (.code c84k27 :: k) ⟨mk 36 l, rows, low⟩ r ↔ bnd (evP rows (.len 0 (.c (lk l 0)))) fun v0 => Ex F cx k ⟨mk 36 [(11, (.int .i64 0)), (10, v0), (9, lk l 0), (0, lk l 0), (3, lk l 3)], rows, low⟩ r := rg [0, 3] c84r27 rfl (by kernel_rfl)
@[simp] theorem uc84s28 : Ex F cx (.code c84s28 :: k) s r ↔ Ex F cx (.code (.seq (.seq c84k27 c84s26) c84s13) :: k) s r := Iff.rfl
@[simp] theorem uc84k29 : Ex F cx (.code c84k29 :: k) ⟨mk 36 l, rows, low⟩ r ↔ Ex F cx k ⟨mk 36 [(3, (.int .i64 0)), (0, lk l 0)], rows, low⟩ r := rg [0] c84r29 rfl (by kernel_rfl)
@[simp] theorem uc84s30 : Ex F cx (.code c84s30 :: k) s r ↔ Ex F cx (.code (.seq c84k29 c84s28) :: k) s r := Iff.rfl
@[simp] theorem uc84k31 : Ex F cx (.code c84k31 :: k) ⟨mk 36 l, rows, low⟩ r ↔ Ex F cx k ⟨mk 36 [(2, .nilslice), (0, lk l 0)], rows, low⟩ r := rg [0] c84r31 rfl (by kernel_rfl)
def Jc84s6 (F : Nat → Option IFn) (cx : Ctx) (x6 x25 x26 x27 : AV) (rows : List Row) (low : Nat) (r : AV × List Row × Nat → Prop) : Prop := Ex F cx (.code c84s6 :: .inLoop c84l2 :: .inBlock 2 :: .code c84s1 :: []) ⟨mk 36 [(6, x6), (25, x25), (26, x26), (27, x27)], rows, low⟩ r
def Lc84l2 (F : Nat → Option IFn) (cx : Ctx) (x6 x25 x26 x27 : AV) (rows : List Row) (low : Nat) (r : AV × List Row × Nat → Prop) : Prop := Ex F cx (.code c84l2 :: .inLoop c84l2 :: .inBlock 2 :: .code c84s1 :: []) ⟨mk 36 [(6, x6), (25, x25), (26, x26), (27, x27)], rows, low⟩ r
@[simp] theorem nc84l2 : Ex F cx (.inLoop c84l2 :: .inBlock 2 :: .code c84s1 :: []) ⟨mk 36 l, rows, low⟩ r ↔ Lc84l2 F cx (lk l 6) (lk l 25) (lk l 26) (lk l 27) rows low r := loopN (keep := [6, 25, 26, 27]) (by kernel_rfl)
@[simp] theorem ec84l2 : Ex F cx (.code (.loop c84l2) :: .inBlock 2 :: .code c84s1 :: []) ⟨mk 36 l, rows, low⟩ r ↔ Lc84l2 F cx (lk l 6) (lk l 25) (lk l 26) (lk l 27) rows low r := loopE (keep := [6, 25, 26, 27]) (by kernel_rfl)
@[simp] theorem uc84l2 : Ex F cx (.code c84l2 :: k) s r ↔ Ex F cx (.code (.seq c84k8 c84s7) :: k) s r := Iff.rfl
def Jc84s23 (F : Nat → Option IFn) (cx : Ctx) (x0 x3 x9 x10 x11 : AV) (rows : List Row) (low : Nat) (r : AV × List Row × Nat → Prop) : Prop := Ex F cx (.code c84s23 :: .inLoop c84l14 :: .inBlock 0 :: .code c84s13 :: []) ⟨mk 36 [(0, x0), (3, x3), (9, x9), (10, x10), (11, x11)], rows, low⟩ r
def Lc84l14 (F : Nat → Option IFn) (cx : Ctx) (x0 x3 x9 x10 x11 : AV) (rows : List Row) (low : Nat) (r : AV × List Row × Nat → Prop) : Prop := Ex F cx (.code c84l14 :: .inLoop c84l14 :: .inBlock 0 :: .code c84s13 :: []) ⟨mk 36 [(0, x0), (3, x3), (9, x9), (10, x10), (11, x11)], rows, low⟩ r
@[simp] theorem nc84l14 : Ex F cx (.inLoop c84l14 :: .inBlock 0 :: .code c84s13 :: []) ⟨mk 36 l, rows, low⟩ r ↔ Lc84l14 F cx (lk l 0) (lk l 3) (lk l 9) (lk l 10) (lk l 11) rows low r := loopN (keep := [0, 3, 9, 10, 11]) (by kernel_rfl)
@[simp] theorem ec84l14 : Ex F cx (.code (.loop c84l14) :: .inBlock 0 :: .code c84s13 :: []) ⟨mk 36 l, rows, low⟩ r ↔ Lc84l14 F cx (lk l 0) (lk l 3) (lk l 9) (lk l 10) (lk l 11) rows low r := loopE (keep := [0, 3, 9, 10, 11]) (by kernel_rfl)
@[simp] theorem uc84l14 : Ex F cx (.code c84l14 :: k) s r ↔ Ex F cx (.code (.seq c84k25 c84s24) :: k) s r := Iff.rfl
@[simp] theorem uc84b : Ex F cx (.code c84b :: k) s r ↔ Ex F cx (.code (.seq c84k31 c84s30) :: k) s r := Iff.rfl
theorem i84 {x0 : AV} (hF : F 84 = some c84) {q : AV × List Row × Option Nat} (h : Ex F (.fn [.t 2]) [.code c84b] ⟨mk 36 [(0, x0)], rows, rows.length⟩ fun r => fin rows r.1 r.2.1 r.2.2 = q) : Ret F 84 [x0] rows = some q := Ret_mk hF h
@[simp] theorem uc85k0 : Ex F cx (.code c85k0 :: k) ⟨mk 5 l, rows, low⟩ r ↔ bnd (evP rows (.bin .neq (.c (lk l 0)) (.c (.int .i64 0)))) fun v0 => Ex F cx k ⟨mk 5 [(2, v0), (4, v0), (3, lk l 0), (0, lk l 0)], rows, low⟩ r := rg [0] c85r0 rfl (by kernel_rfl)
@[simp] theorem uc85s1 : Ex F cx (.code c85s1 :: k) s r ↔ Ex F cx (.code (.seq c85k0 .ret) :: k) s r := Iff.rfl
@[simp] theorem uc85k2 : Ex F cx (.code c85k2 :: k) ⟨mk 5 l, rows, low⟩ r ↔ Ex F cx k ⟨mk 5 [(2, (.bool false)), (0, lk l 0)], rows, low⟩ r := rg [0] c85r2 rfl (by kernel_rfl)
@[simp] theorem uc85b : Ex F cx (.code c85b :: k) s r ↔ Ex F cx (.code (.seq c85k2 c85s1) :: k) s r := Iff.rfl
theorem i85 {x0 : AV} (hF : F 85 = some c85) {q : AV × List Row × Option Nat} (h : Ex F (.fn [.t 2]) [.code c85b] ⟨mk 5 [(0, x0)], rows, rows.length⟩ fun r => fin rows r.1 r.2.1 r.2.2 = q) : Ret F 85 [x0] rows = some q := Ret_mk hF h
@[simp] theorem uc89k0 : Ex F cx (.code c89k0 :: k) ⟨mk 30 l, rows, low⟩ r ↔ bnd (evP (rows ++ maskE 0 ([] : List (Nat × Row))) (.loadN 3 (.c (lk l 2)))) fun v0 => bnd (evP (rows ++ maskE 0 ([] : List (Nat × Row))) (.idxA 3 1 (.c (lk l 5)) (.c (.int .i64 0)))) fun v1 => bnd (evP (rows ++ maskE 2 ([] : List (Nat × Row))) (.load1 (.c v1))) fun v2 => bnd (evP (rows ++ maskE 0 ([] : List (Nat × Row))) (.idxA 3 1 (.c (lk l 5)) (.c (.int .i64 1)))) fun v3 => bnd (evP (rows ++ maskE 8 ([] : List (Nat × Row))) (.load1 (.c v3))) fun v4 => bnd (opC F (rows ++ maskE 31 ([] : List (Nat × Row))) (rows.length + ([] : List (Nat × Row)).length) [v0, v2, v4] [] (.func 60 [])) fun q5 => q5.2.2 = rows.length + ([] : List (Nat × Row)).length ∧ bnd (some (([] : List (Nat × Row)) ++ List.map (fun (x : Row) => (5, x)) (q5.2.1.drop (rows.length + ([] : List (Nat × Row)).length)))) fun e5 => bnd (evP (rows ++ maskE 0 e5) (.loadN 3 (.c (lk l 2)))) fun v6 => bnd (evP (rows ++ maskE 0 e5) (.idxA 3 1 (.c (lk l 5)) (.c (.int .i64 1)))) fun v7 => bnd (evP (rows ++ maskE 128 e5) (.load1 (.c v7))) fun v8 => bnd (evP (rows ++ maskE 0 e5) (.idxA 3 1 (.c (lk l 5)) (.c (.int .i64 2)))) fun v9 => bnd (evP (rows ++ maskE 512 e5) (.load1 (.c v9))) fun v10 => bnd (opC F (rows ++ maskE 2047 e5) (rows.length + e5.length) [v6, v8, v10] [] (.func 60 [])) fun q11 => q11.2.2 = rows.length + e5.length ∧ bnd (some (e5 ++ List.map (fun (x : Row) => (11, x)) (q11.2.1.drop (rows.length + e5.length)))) fun e11 => bnd (evP (rows ++ maskE 0 e11) (.loadN 3 (.c (lk l 2)))) fun v12 => bnd (evP (rows ++ maskE 0 e11) (.idxA 3 1 (.c (lk l 5)) (.c (.int .i64 0)))) fun v13 => bnd (evP (rows ++ maskE 8192 e11) (.load1 (.c v13))) fun v14 => bnd (evP (rows ++ maskE 0 e11) (.idxA 3 1 (.c (lk l 5)) (.c (.int .i64 2)))) fun v15 => bnd (evP (rows ++ maskE 32768 e11) (.load1 (.c v15))) fun v16 => bnd (Ret F 60 [v12, v14, v16] (rows ++ List.map (fun (x : Nat × Row) => x.2) e11)) fun q17 => bnd (evP q17.2.1 (.mkagg [.int .i64 0, .int .i64 0, .int .i64 0] [(0, 1, (.c q5.1)), (1, 1, (.c q11.1)), (2, 1, (.c q17.1))])) fun v18 => bnd (evE q17.2.1 (lowO low q17.2.2) (.storeN 3 (.c (lk l 4)) (.c v18))) fun q19 => Ex F cx k ⟨mk 30 [(29, v18), (28, q17.1), (27, v16), (26, v15), (25, v14), (24, v13), (23, v12), (22, q11.1), (21, v10), (20, v9), (19, v8), (18, v7), (17, v6), (16, q5.1), (15, v4), (14, v3), (13, v2), (12, v1), (11, v0), (2, lk l 2), (4, lk l 4), (5, lk l 5)], q19.2.1, q19.2.2⟩ r := rg [2, 4, 5] c89r0 rfl (by kernel_rfl)
@[simp] theorem uc89s1 : Ex F cx (.code c89s1 :: k) s r ↔ Ex F cx (.code (.seq c89k0 .ret) :: k) s r := Iff.rfl
@[simp] theorem uc89k2 : Ex F cx (.code c89k2 :: k) ⟨mk 30 l, rows, low⟩ r ↔ bnd (evP rows (.fieldA 2 (.c (lk l 2)))) fun v0 => bnd (evP rows (.load1 (.c v0))) fun v1 => bnd (evP rows (.idxS 3 (.c v1) (.c (lk l 1)))) fun v2 => bnd (evP rows (.loadN 3 (.c v2))) fun v3 => bnd (evE rows low (.box (.c (.agg [.int .i64 0, .int .i64 0, .int .i64 0])))) fun q4 => bnd (evE q4.2.1 q4.2.2 (.storeN 3 (.c q4.1) (.c v3))) fun q5 => Ex F cx k ⟨mk 30 [(5, q4.1), (10, v3), (9, v2), (8, lk l 1), (7, v1), (6, v0), (1, lk l 1), (2, lk l 2), (4, lk l 4)], q5.2.1, q5.2.2⟩ r := rg [1, 2, 4] c89r2 rfl (by kernel_rfl)
@[simp] theorem uc89s3 : Ex F cx (.code c89s3 :: k) s r ↔ Ex F cx (.code (.seq c89k2 c89s1) :: k) s r := Iff.rfl
@[simp] theorem uc89k4 : Ex F cx (.code c89k4 :: k) ⟨mk 30 l, rows, low⟩ r ↔ bnd (evE rows low (.box (.c (lk l 0)))) fun q0 => bnd (evE q0.2.1 q0.2.2 (.box (.c (.agg [.int .i64 0, .int .i64 0, .int .i64 0])))) fun q1 => Ex F cx k ⟨mk 30 [(4, q1.1), (2, q0.1), (0, lk l 0), (1, lk l 1)], q1.2.1, q1.2.2⟩ r := rg [0, 1] c89r4 rfl (by kernel_rfl)
@[simp] theorem uc89b : Ex F cx (.code c89b :: k) s r ↔ Ex F cx (.code (.seq c89k4 c89s3) :: k) s r := Iff.rfl
theorem i89 {x0 x1 : AV} (hF : F 89 = some c89) {q : AV × List Row × Option Nat} (h : Ex F (.fn [.cellN 4 3]) [.code c89b] ⟨mk 30 [(0, x0), (1, x1)], rows, rows.length⟩ fun r => fin rows r.1 r.2.1 r.2.2 = q) : Ret F 89 [x0, x1] rows = some q := Ret_mk hF h
@[simp] theorem uc93k1 : Ex F cx (.code c93k1 :: k) ⟨mk 52 l, rows, low⟩ r ↔ bnd (evP rows (.bin .add (.c (lk l 16)) (.c (.int .i64 1)))) fun v0 => Ex F cx k ⟨mk 52 [(16, v0), (51, v0), (0, lk l 0), (4, lk l 4), (14, lk l 14), (15, lk l 15), (16, lk l 16)], rows, low⟩ r := rg [0, 4, 14, 15, 16] c93r1 rfl (by kernel_rfl)
@[simp] theorem uc93s2 : Ex F cx (.code c93s2 :: k) s r ↔ Ex F cx (.code (.cond (.t 50) .ret .skip) :: k) s r := Iff.rfl
@[simp] theorem uc93k3 : Ex F cx (.code c93k3 :: k) ⟨mk 52 l, rows, low⟩ r ↔ bnd (evP rows (.bin .neq (.c (lk l 7)) (.c (.int .i64 0)))) fun v0 => bnd (gv v0 true (evP rows (.mv (.c (lk l 0))))) fun v1 => bnd (gv v0 true (evP rows (.mv (.c (lk l 5))))) fun v2 => bnd (gv v0 true (evP rows (.mv (.c (lk l 7))))) fun v3 => gcall F v0 true rows low [v2, v3] [] v1 fun v4 R4 L4 => bnd (gv v0 true (evP R4 (.un .not (.c v4)))) fun v5 => bnd (evP R4 (.pick (.c v0) (.c v5) (.c (.bool false)))) fun v6 => Ex F cx k ⟨mk 52 [(50, v6), (49, v5), (48, v4), (47, v3), (46, v2), (45, v1), (44, v0), (43, v0), (42, lk l 7), (0, lk l 0), (4, lk l 4), (5, lk l 5), (7, lk l 7), (14, lk l 14), (15, lk l 15), (16, lk l 16)], R4, L4⟩ r := rg [0, 4, 5, 7, 14, 15, 16] c93r3 rfl (by kernel_rfl)
@[simp] theorem uc93s4 : Ex F cx (.code c93s4 :: k) s r ↔ Ex F cx (.code (.seq c93k3 c93s2) :: k) s r := Iff.rfl
@[simp] theorem uc93k5 : Ex F cx (.code c93k5 :: k) ⟨mk 52 l, rows, low⟩ r ↔ Ex F cx k ⟨mk 52 [(7, (.int .i64 1)), (0, lk l 0), (4, lk l 4), (5, lk l 5), (14, lk l 14), (15, lk l 15), (16, lk l 16)], rows, low⟩ r := rg [0, 4, 5, 14, 15, 16] c93r5 rfl (by kernel_rfl)
@[simp] theorem uc93k6 : Ex F cx (.code c93k6 :: k) ⟨mk 52 l, rows, low⟩ r ↔ Ex F cx k ⟨mk 52 [(7, (.int .i64 (-1))), (0, lk l 0), (4, lk l 4), (5, lk l 5), (14, lk l 14), (15, lk l 15), (16, lk l 16)], rows, low⟩ r := rg [0, 4, 5, 14, 15, 16] c93r6 rfl (by kernel_rfl)
@[simp] theorem uc93s7 : Ex F cx (.code c93s7 :: k) s r ↔ Ex F cx (.code (.cond (.t 35) c93k6 .skip) :: k) s r := Iff.rfl
@[simp] theorem uc93k8 : Ex F cx (.code c93k8 :: k) ⟨mk 52 l, rows, low⟩ r ↔ bnd (evP rows (.idxA 3 1 (.c (lk l 4)) (.c (.int .i64 0)))) fun v0 => bnd (evP rows (.load1 (.c v0))) fun v1 => bnd (evP rows (.idxA 3 1 (.c (lk l 4)) (.c (.int .i64 2)))) fun v2 => bnd (evP rows (.load1 (.c v2))) fun v3 => bnd (evP rows (.mkagg [.int .i64 0, .int .i64 0] [(0, 1, (.c v1)), (1, 1, (.c v3))])) fun v4 => bnd (evP rows (.eqv false (.ints 2) (.c (lk l 21)) (.c v4))) fun v5 => Ex F cx k ⟨mk 52 [(35, v5), (41, v5), (40, v4), (39, v3), (38, v2), (37, v1), (36, v0), (0, lk l 0), (4, lk l 4), (5, lk l 5), (7, lk l 7), (14, lk l 14), (15, lk l 15), (16, lk l 16), (21, lk l 21)], rows, low⟩ r := rg [0, 4, 5, 7, 14, 15, 16, 21] c93r8 rfl (by kernel_rfl)
@[simp] theorem uc93s9 : Ex F cx (.code c93s9 :: k) s r ↔ Ex F cx (.code (.cond (.t 22) c93k5 (.seq c93k8 c93s7)) :: k) s r := Iff.rfl
@[simp] theorem uc93k10 : Ex F cx (.code c93k10 :: k) ⟨mk 52 l, rows, low⟩ r ↔ bnd (evP rows (.idxA 3 1 (.c (lk l 4)) (.c (.int .i64 1)))) fun v0 => bnd (evP rows (.load1 (.c v0))) fun v1 => bnd (evP rows (.idxA 3 1 (.c (lk l 4)) (.c (.int .i64 2)))) fun v2 => bnd (evP rows (.load1 (.c v2))) fun v3 => bnd (evP rows (.mkagg [.int .i64 0, .int .i64 0] [(0, 1, (.c v1)), (1, 1, (.c v3))])) fun v4 => bnd (evP rows (.eqv false (.ints 2) (.c (lk l 21)) (.c v4))) fun v5 => Ex F cx k ⟨mk 52 [(22, v5), (34, v5), (33, v4), (32, v3), (31, v2), (30, v1), (29, v0), (0, lk l 0), (4, lk l 4), (5, lk l 5), (7, lk l 7), (14, lk l 14), (15, lk l 15), (16, lk l 16), (21, lk l 21)], rows, low⟩ r := rg [0, 4, 5, 7, 14, 15, 16, 21] c93r10 rfl (by kernel_rfl)
@[simp] theorem uc93s11 : Ex F cx (.code c93s11 :: k) s r ↔ Ex F cx (.code (.cond (.t 22) .skip c93k10) :: k) s r := Iff.rfl
@[simp] theorem uc93k12 : Ex F cx (.code c93k12 :: k) ⟨mk 52 l, rows, low⟩ r ↔ bnd (evP rows (.idxA 3 1 (.c (lk l 4)) (.c (.int .i64 0)))) fun v0 => bnd (evP rows (.load1 (.c v0))) fun v1 => bnd (evP rows (.idxA 3 1 (.c (lk l 4)) (.c (.int .i64 1)))) fun v2 => bnd (evP rows (.load1 (.c v2))) fun v3 => bnd (evP rows (.mkagg [.int .i64 0, .int .i64 0] [(0, 1, (.c v1)), (1, 1, (.c v3))])) fun v4 => bnd (evP rows (.eqv false (.ints 2) (.c (lk l 21)) (.c v4))) fun v5 => Ex F cx k ⟨mk 52 [(22, v5), (28, v5), (27, v4), (26, v3), (25, v2), (24, v1), (23, v0), (0, lk l 0), (4, lk l 4), (5, lk l 5), (7, lk l 7), (14, lk l 14), (15, lk l 15), (16, lk l 16), (21, lk l 21)], rows, low⟩ r := rg [0, 4, 5, 7, 14, 15, 16, 21] c93r12 rfl (by kernel_rfl)
@[simp] theorem uc93s13 : Ex F cx (.code c93s13 :: k) s r ↔ Ex F cx (.code (.block 2 (.seq (.seq c93k12 c93s11) c93s9)) :: k) s r := Iff.rfl
@[simp] theorem uc93k14 : Ex F cx (.code c93k14 :: k) ⟨mk 52 l, rows, low⟩ r ↔ bnd (evP rows (.loadN 2 (.c (lk l 6)))) fun v0 => Ex F cx k ⟨mk 52 [(21, v0), (0, lk l 0), (4, lk l 4), (5, lk l 5), (6, lk l 6), (7, lk l 7), (14, lk l 14), (15, lk l 15), (16, lk l 16)], rows, low⟩ r := rg [0, 4, 5, 6, 7, 14, 15, 16] c93r14 rfl (by kernel_rfl)
@[simp] theorem uc93s15 : Ex F cx (.code c93s15 :: k) s r ↔ Ex F cx (.code (.seq (.seq c93k14 c93s13) c93s4) :: k) s r := Iff.rfl
@[simp] theorem uc93k16 : Ex F cx (.code c93k16 :: k) ⟨mk 52 l, rows, low⟩ r ↔ Ex F cx k ⟨mk 52 [(7, (.int .i64 0)), (0, lk l 0), (4, lk l 4), (5, lk l 5), (6, lk l 6), (14, lk l 14), (15, lk l 15), (16, lk l 16)], rows, low⟩ r := rg [0, 4, 5, 6, 14, 15, 16] c93r16 rfl (by kernel_rfl)
@[simp] theorem uc93s17 : Ex F cx (.code c93s17 :: k) s r ↔ Ex F cx (.code (.seq c93k16 c93s15) :: k) s r := Iff.rfl
@[simp] theorem uc93k18 : Ex F cx (.code c93k18 :: k) ⟨mk 52 l, rows, low⟩ r ↔ bnd (evP rows (.idxS 2 (.c (lk l 14)) (.c (lk l 16)))) fun v0 => bnd (evP rows (.loadN 2 (.c v0))) fun v1 => bnd (evE rows low (.box (.c (.agg [.int .i64 0, .int .i64 0])))) fun q2 => bnd (evE q2.2.1 q2.2.2 (.storeN 2 (.c q2.1) (.c v1))) fun q3 => Ex F cx k ⟨mk 52 [(5, lk l 16), (6, q2.1), (20, v1), (19, v0), (18, lk l 16), (0, lk l 0), (4, lk l 4), (14, lk l 14), (15, lk l 15), (16, lk l 16)], q3.2.1, q3.2.2⟩ r := rg [0, 4, 14, 15, 16] c93r18 rfl (by kernel_rfl)
@[simp] theorem uc93s19 : Ex F cx (.code c93s19 :: k) s r ↔ Ex F cx (.code (.seq (.block 1 (.seq c93k18 c93s17)) c93k1) :: k) s r := Iff.rfl
@[simp] theorem uc93s20 : Ex F cx (.code c93s20 :: k) s r ↔ Ex F cx (.code (.seq (.cond (.t 17) .skip (.exit 0)) c93s19) :: k) s r := Iff.rfl
@[simp] theorem uc93k21 : Ex F cx (.code c93k21 :: k) ⟨mk 52 l, rows, low⟩ r ↔ bnd (evP rows (.bin .lss (.c (lk l 16)) (.c (lk l 15)))) fun v0 => Ex F cx k ⟨mk 52 [(17, v0), (0, lk l 0), (4, lk l 4), (14, lk l 14), (15, lk l 15), (16, lk l 16)], rows, low⟩ r := rg [0, 4, 14, 15, 16] c93r21 rfl (by kernel_rfl)
@[simp] theorem uc93s22 : Ex F cx (.code c93s22 :: k) s r ↔ Ex F cx (.code (.block 0 (.loop c93l0)) :: k) s r := Iff.rfl
@[simp] theorem uc93k23 : Ex F cx (.code c93k23 :: k) ⟨mk 52 l, rows, low⟩ r ↔ bnd (evP rows (.fieldA 1 (.c (lk l 1)))) fun v0 => bnd (evP rows (.load1 (.c v0))) fun v1 => bnd (evP rows (.len 0 (.c v1))) fun v2 => Ex F cx k ⟨mk 52 [(16, (.int .i64 0)), (15, v2), (14, v1), (13, v0), (0, lk l 0), (1, lk l 1), (4, lk l 4)], rows, low⟩ r := rg [0, 1, 4] c93r23 rfl (by kernel_rfl)
@[simp] theorem uc93s24 : Ex F cx (.code c93s24 :: k) s r ↔ Ex F cx (.code (.seq c93k23 c93s22) :: k) s r := Iff.rfl
@[simp] theorem uc93k25 : Ex F cx (.code c93k25 :: k) ⟨mk 52 l, rows, low⟩ r ↔ bnd (evP rows (.fieldA 2 (.c (lk l 1)))) fun v0 => bnd (evP rows (.load1 (.c v0))) fun v1 => bnd (evP rows (.load1 (.c (lk l 2)))) fun v2 => bnd (evP rows (.idxS 3 (.c v1) (.c v2))) fun v3 => bnd (evP rows (.loadN 3 (.c v3))) fun v4 => bnd (evE rows low (.box (.c (.agg [.int .i64 0, .int .i64 0, .int .i64 0])))) fun q5 => bnd (evE q5.2.1 q5.2.2 (.storeN 3 (.c q5.1) (.c v4))) fun q6 => Ex F cx k ⟨mk 52 [(4, q5.1), (12, v4), (11, v3), (10, v2), (9, v1), (8, v0), (0, lk l 0), (1, lk l 1), (2, lk l 2)], q6.2.1, q6.2.2⟩ r := rg [0, 1, 2] c93r25 rfl (by kernel_rfl)
def Jc93s4 (F : Nat → Option IFn) (cx : Ctx) (x0 x4 x5 x7 x14 x15 x16 : AV) (rows : List Row) (low : Nat) (r : AV × List Row × Nat → Prop) : Prop := Ex F cx (.code c93s4 :: .inBlock 1 :: .code c93k1 :: .inLoop c93l0 :: .inBlock 0 :: []) ⟨mk 52 [(0, x0), (4, x4), (5, x5), (7, x7), (14, x14), (15, x15), (16, x16)], rows, low⟩ r
theorem jc93s4 : Ex F cx (.code c93s4 :: .inBlock 1 :: .code c93k1 :: .inLoop c93l0 :: .inBlock 0 :: []) ⟨mk 52 l, rows, low⟩ r ↔ Jc93s4 F cx (lk l 0) (lk l 4) (lk l 5) (lk l 7) (lk l 14) (lk l 15) (lk l 16) rows low r := Ex_canon (keep := [0, 4, 5, 7, 14, 15, 16]) (by kernel_rfl)
def Jc93s19 (F : Nat → Option IFn) (cx : Ctx) (x0 x4 x14 x15 x16 : AV) (rows : List Row) (low : Nat) (r : AV × List Row × Nat → Prop) : Prop := Ex F cx (.code c93s19 :: .inLoop c93l0 :: .inBlock 0 :: []) ⟨mk 52 [(0, x0), (4, x4), (14, x14), (15, x15), (16, x16)], rows, low⟩ r
def Lc93l0 (F : Nat → Option IFn) (cx : Ctx) (x0 x4 x14 x15 x16 : AV) (rows : List Row) (low : Nat) (r : AV × List Row × Nat → Prop) : Prop := Ex F cx (.code c93l0 :: .inLoop c93l0 :: .inBlock 0 :: []) ⟨mk 52 [(0, x0), (4, x4), (14, x14), (15, x15), (16, x16)], rows, low⟩ r
@[simp] theorem nc93l0 : Ex F cx (.inLoop c93l0 :: .inBlock 0 :: []) ⟨mk 52 l, rows, low⟩ r ↔ Lc93l0 F cx (lk l 0) (lk l 4) (lk l 14) (lk l 15) (lk l 16) rows low r := loopN (keep := [0, 4, 14, 15, 16]) (by kernel_rfl)
@[simp] theorem ec93l0 : Ex F cx (.code (.loop c93l0) :: .inBlock 0 :: []) ⟨mk 52 l, rows, low⟩ r ↔ Lc93l0 F cx (lk l 0) (lk l 4) (lk l 14) (lk l 15) (lk l 16) rows low r := loopE (keep := [0, 4, 14, 15, 16]) (by kernel_rfl)
@[simp] theorem uc93l0 : Ex F cx (.code c93l0 :: k) s r ↔ Ex F cx (.code (.seq c93k21 c93s20) :: k) s r := Iff.rfl
@[simp] theorem uc93b : Ex F cx (.code c93b :: k) s r ↔ Ex F cx (.code (.seq c93k25 c93s24) :: k) s r := Iff.rfl
@[simp] theorem uc104k0 : Ex F cx (.code c104k0 :: k) ⟨mk 27 l, rows, low⟩ r ↔ Ex F cx k ⟨mk 27 [(4, lk l 0), (26, lk l 0), (0, lk l 0)], rows, low⟩ r := rg [0] c104r0 rfl (by kernel_rfl)
@[simp] theorem uc104s1 : Ex F cx (.code c104s1 :: k) s r ↔ Ex F cx (.code (.seq c104k0 .ret) :: k) s r := Iff.rfl
@[simp] theorem uc104k2 : Ex F cx (.code c104k2 :: k) ⟨mk 27 l, rows, low⟩ r ↔ bnd (evP rows (.cap (.c (lk l 0)))) fun v0 => bnd (evP rows (.sliceS 1 (.c (lk l 0)) none (some (.c v0)) none)) fun v1 => bnd (evE rows low (.appz [.int .i64 0] (.c v1) (.c (lk l 1)))) fun q2 => bnd (evP q2.2.1 (.len 0 (.c (lk l 0)))) fun v3 => bnd (evP q2.2.1 (.sliceS 1 (.c q2.1) none (some (.c v3)) none)) fun v4 => Ex F cx k ⟨mk 27 [(0, v4), (25, v4), (24, v3), (23, lk l 0), (22, q2.1), (21, lk l 1), (20, v1), (19, v0), (18, lk l 0), (17, lk l 0), (0, lk l 0), (1, lk l 1)], q2.2.1, q2.2.2⟩ r := rg [0, 1] c104r2 rfl (by kernel_rfl)
@[simp] theorem uc104s3 : Ex F cx (.code c104s3 :: k) s r ↔ Ex F cx (.code (.cond (.t 16) c104k2 .skip) :: k) s r := Iff.rfl
@[simp] theorem uc104k4 : Ex F cx (.code c104k4 :: k) ⟨mk 27 l, rows, low⟩ r ↔ bnd (evP rows (.bin .gtr (.c (lk l 1)) (.c (.int .i64 0)))) fun v0 => Ex F cx k ⟨mk 27 [(16, v0), (15, lk l 1), (0, lk l 0), (1, lk l 1)], rows, low⟩ r := rg [0, 1] c104r4 rfl (by kernel_rfl)
@[simp] theorem uc104s5 : Ex F cx (.code c104s5 :: k) s r ↔ Ex F cx (.code (.seq c104k4 c104s3) :: k) s r := Iff.rfl
@[simp] theorem uc104k6 : Ex F cx (.code c104k6 :: k) ⟨mk 27 l, rows, low⟩ r ↔ bnd (evP rows (.cap (.c (lk l 0)))) fun v0 => bnd (evP rows (.len 0 (.c (lk l 0)))) fun v1 => bnd (evP rows (.bin .sub (.c v0) (.c v1))) fun v2 => bnd (evP rows (.bin .sub (.c (lk l 1)) (.c v2))) fun v3 => Ex F cx k ⟨mk 27 [(1, v3), (14, v3), (13, v2), (12, v1), (11, lk l 0), (10, v0), (9, lk l 0), (8, lk l 1), (0, lk l 0), (1, lk l 1)], rows, low⟩ r := rg [0, 1] c104r6 rfl (by kernel_rfl)
@[simp] theorem uc104s7 : Ex F cx (.code c104s7 :: k) s r ↔ Ex F cx (.code (.seq (.seq c104k6 c104s5) c104s1) :: k) s r := Iff.rfl
@[simp] theorem uc104s9 : Ex F cx (.code c104s9 :: k) s r ↔ Ex F cx (.code (.cond (.t 6) c104k8 .skip) :: k) s r := Iff.rfl
@[simp] theorem uc104k10 : Ex F cx (.code c104k10 :: k) ⟨mk 27 l, rows, low⟩ r ↔ bnd (evP rows (.bin .lss (.c (lk l 1)) (.c (.int .i64 0)))) fun v0 => Ex F cx k ⟨mk 27 [(6, v0), (5, lk l 1), (0, lk l 0), (1, lk l 1)], rows, low⟩ r := rg [0, 1] c104r10 rfl (by kernel_rfl)
@[simp] theorem uc104s11 : Ex F cx (.code c104s11 :: k) s r ↔ Ex F cx (.code (.seq (.seq c104k10 c104s9) c104s7) :: k) s r := Iff.rfl
@[simp] theorem uc104k12 : Ex F cx (.code c104k12 :: k) ⟨mk 27 l, rows, low⟩ r ↔ Ex F cx k ⟨mk 27 [(4, .nilslice), (0, lk l 0), (1, lk l 1)], rows, low⟩ r := rg [0, 1] c104r12 rfl (by kernel_rfl)
def Jc104s1 (F : Nat → Option IFn) (cx : Ctx) (x0 : AV) (rows : List Row) (low : Nat) (r : AV × List Row × Nat → Prop) : Prop := Ex F cx (.code c104s1 :: []) ⟨mk 27 [(0, x0)], rows, low⟩ r
def Jc104s7 (F : Nat → Option IFn) (cx : Ctx) (x0 x1 : AV) (rows : List Row) (low : Nat) (r : AV × List Row × Nat → Prop) : Prop := Ex F cx (.code c104s7 :: []) ⟨mk 27 [(0, x0), (1, x1)], rows, low⟩ r
@[simp] theorem uc104b : Ex F cx (.code c104b :: k) s r ↔ Ex F cx (.code (.seq c104k12 c104s11) :: k) s r := Iff.rfl
theorem i104 {x0 x1 : AV} (hF : F 104 = some c104) {q : AV × List Row × Option Nat} (h : Ex F (.fn [.t 4]) [.code c104b] ⟨mk 27 [(0, x0), (1, x1)], rows, rows.length⟩ fun r => fin rows r.1 r.2.1 r.2.2 = q) : Ret F 104 [x0, x1] rows = some q := Ret_mk hF h
end Go.Abs

namespace Go.Abs
section
variable {rows : List Row} {N : Nat} {ks ps : List Nat} {g v : AV} {l : List Int}
theorem places_ret {N : Int} {ev pv : AV} (h1 : ev.one = true) (h2 : pv.one = true) : Ret F 74 [.agg [.int .i64 N, ev, pv]] rows = some (.int .i64 N, rows, none) := by
  refine i74 F74 ?_
  simp [AV.cells, h1, h2]
theorem plates_ret {N : AV} {ev pv : AV} {cs : List AV} {m : Nat} (he : El rows 3 pv cs m) (h1 : N.one = true) (h2 : ev.one = true) : Ret F 77 [.agg [N, ev, pv]] rows = some (.int .i64 m, rows, none) := by
  have one1 := El_one he
  have he' := El_app he [.cells [N, ev, pv]]
  refine i77 F77 ?_
  simp [AV.cells, one1, h1, h2, lenW he']
theorem open_ok {ev pv : AV} (hg : GRd rows (.agg [.int .i64 N, ev, pv]) N ks ps) (h : IsL rows v l) (hb : ∀ x ∈ l, -100 ≤ x ∧ x ≤ 100) {f n : Nat} (hl : l.length = n) (hn1 : n ≤ 100) {g' : AV} (hn : ∀ L, Ret F f [g'] (rows ++ L) = some (.int .i64 n, rows ++ L, none)) :
    Ret F 66 [.agg [.int .i64 N, ev, pv], v, .iface bd (.agg [.int .u64 f, g'])] rows = some (.int .i64 0, rows, none) := by
  obtain ⟨_, _, e, he, hp, _⟩ := hg.eq
  simp only [AV.agg.injEq, List.cons.injEq, and_true, true_and] at e
  obtain ⟨rfl, rfl⟩ := e
  have hok := hg.ok
  have h1 := hok.ek
  have h2 := hok.pk
  have := open_ret (N := N) (n := n) he (by omega) hp (by omega) h (by omega) hn
  rw [this, gndB_ok hok]
  have hany : l.any outB = false := by
    rw [List.any_eq_false]
    intro x hx
    have := hb x hx
    simp [outB]
    omega
  simp [opn, hany, hl]
def grad (ks : List Nat) (l : List Int) : List Int := ks.map fun k => gI l (k % 6) - gI l (k / 6)
theorem grad_take {ks : List Nat} {i : Nat} (h : i < ks.length) : (grad ks l).take (i + 1) = (grad ks l).take i ++ [gI l (gN ks i % 6) - gI l (gN ks i / 6)] := by
  rw [List.take_add_one, List.getElem?_eq_getElem (by simpa [grad] using h)]
  simp [grad, gN_eq h]
theorem grad_len : (grad ks l).length = ks.length := by simp [grad]
set_option maxHeartbeats 8000000 in
theorem Gradient_loop {B : List Row} {ev : AV} (hok : GOK N ks ps) (he : El B 2 ev (nums .i64 (eC ks)) ks.length) (h : IsL B v l) (hl : l.length = N) (hb : ∀ x ∈ l, -100 ≤ x ∧ x ≤ 100) {low : Nat} (hlow : low ≤ B.length) {r : AV × List Row × Nat → Prop}
    (hk : ∀ (L : List Row) (x7 : AV), Acc B L 1 (.op 1) x7 (nums .i64 (grad ks l)) ks.length → r (.tup [x7, .int .i64 0], B ++ L, low)) :
    ∀ (d i : Nat) (L : List Row) (x7 : AV), ks.length - i = d → i ≤ ks.length → Acc B L 1 (.op 1) x7 (nums .i64 ((grad ks l).take i)) i →
    Lc33l2 F (.fn [.t 4, .t 5]) v x7 ev (.int .i64 ks.length) (.int .i64 i) (B ++ L) low r := by
  intro d
  induction d with
  | zero =>
    intro i L x7 hd h1 hA
    have hi : i = ks.length := by omega
    subst hi
    rw [List.take_of_length_le (by rw [grad_len]; omega)] at hA
    have := hk L x7 hA
    unfold Lc33l2
    simp
    exact this
  | succ d ih =>
    intro i L x7 hd h1 hA
    have hi : i < ks.length := by omega
    have hek := hok.ek
    have hw : IntKind.i64.wrap ((i : Int) + 1) = ((i + 1 : Nat) : Int) := by rw [wrap64 (by omega) (by omega)]; omega
    obtain ⟨e1, e2⟩ := eC_a hi
    have hee := hok.ee _ (gN_mem hi)
    have n6 := hok.n6
    have hgt := grad_take (l := l) hi
    have b1 := bd_get hb (i := gN ks i / 6) (by omega)
    have b2 := bd_get hb (i := gN ks i % 6) (by omega)
    have b3 : gN ks i / 6 < l.length := by omega
    have b4 : gN ks i % 6 < l.length := by omega
    generalize gN ks i / 6 = A at *
    generalize gN ks i % 6 = C at *
    obtain ⟨X, hX⟩ : ∃ X, X = gI l C - gI l A := ⟨_, rfl⟩
    have hws : IntKind.i64.wrap (gI l C - gI l A) = X := by rw [hX]; exact wrap64 (by omega) (by omega)
    rw [← hX] at hgt
    have hA' := Acc_app hA [.cells [.int .i64 A, .int .i64 C]]
    obtain ⟨x7', L', ev1, hA2⟩ := Acc_more (low := low) (b := 8) (x := [.int .i64 X]) hA' rfl (by omega) (by omega) hlow
    rw [show nums .i64 ((grad ks l).take i) ++ [.int .i64 X] = nums .i64 ((grad ks l).take (i + 1)) from by rw [hgt, ← nums_app]; rfl] at hA2
    rw [List.length_append, List.append_assoc] at ev1
    have ev2 : evE (B ++ (L ++ [.cells [.int .i64 A, .int .i64 C], .cells [.int .i64 X]])) low (.app 1 8 (.c x7) (.c (.slice (B.length + (L.length + 1)) 0 1 (.at_ 1)))) = some (x7', B ++ L', low) := ev1
    have := ih (i + 1) L' x7' (by omega) (by omega) hA2
    have he' := El_app he L
    have h' := IsL_app h (L ++ [.cells [.int .i64 A, .int .i64 C]])
    have hlw : lower low (B.length + L.length) = low := lower_ge' (by omega)
    have i01 : idx? 0 2 = some 0 := rfl
    have i11 : idx? 1 2 = some 1 := rfl
    unfold Lc33l2
    simp (disch := first | omega | (simp; done) | fail) [hi, idxW he', ldW2 he', e1, e2, AV.cells, splice, hlw, i01, i11, maskE, idxL0 h', loadL0 h', hws, fillA, drop_mapL, ev2, hw, Nat.add_assoc]
    simpa using this
def LRet (f : Nat) (vs : List AV) (rows : List Row) (l : List Int) : Prop := ∃ v X, Ret F f vs rows = some (.tup [v, .int .i64 0], rows ++ X, none) ∧ X.all (Row.under 0) = true ∧ IsL (rows ++ X) v l ∧ Cp 1 v
def LRet1 (f : Nat) (vs : List AV) (rows : List Row) (l : List Int) : Prop := ∃ v X, Ret F f vs rows = some (v, rows ++ X, none) ∧ X.all (Row.under 0) = true ∧ IsL (rows ++ X) v l ∧ Cp 1 v
set_option maxHeartbeats 4000000 in
theorem Gradient_ret (hg : GRd rows g N ks ps) (h : IsL rows v l) (hl : l.length = N) (hb : ∀ x ∈ l, -100 ≤ x ∧ x ≤ 100) : LRet 33 [g, v] rows (grad ks l) := by
  obtain ⟨ev, pv, rfl, he, hp, _⟩ := hg.eq
  have hok := hg.ok
  have o1 := El_one he
  have o2 := El_one hp
  have n6 := hok.n6
  have ho := open_ok (hg.app [.cells [.int .i64 N, ev, pv]]) (IsL_app h [.cells [.int .i64 N, ev, pv]]) hb (f := 74) (n := N) hl (by omega) (g' := .agg [.int .i64 N, ev, pv]) (fun L => places_ret o1 o2)
  rw [show ((74 : Nat) : Int) = 74 from rfl] at ho
  let Q : AV × List Row × Nat → Prop := fun r => ∃ v X, fin rows r.1 r.2.1 r.2.2 = (.tup [v, .int .i64 0], rows ++ X, none) ∧ X.all (Row.under 0) = true ∧ IsL (rows ++ X) v (grad ks l) ∧ Cp 1 v
  have main : Ex F (.fn [.t 4, .t 5]) [.code c33b] ⟨mk 41 [(0, .agg [.int .i64 N, ev, pv]), (1, v)], rows, rows.length⟩ Q := by
    have hloop := Gradient_loop (B := rows) (low := rows.length) (r := Q) hok he h hl hb (Nat.le_refl _) (fun L x7 hA => by
      obtain ⟨v', X, e, h1, h2, h3, h4⟩ := Acc_fin (e := 0) (kd := .i64) hA (.inl rfl)
      exact ⟨v', X, e, h1, h2, h4⟩) _ 0 [.cells [.int .i64 N, ev, pv]] .nilslice rfl (Nat.zero_le _) Acc_nil
    have ln := evP_lenE (El_app he [.cells [.int .i64 N, ev, pv]])
    simp [AV.cells, o1, o2, seg, ho, ln, boundOf]
    simpa using hloop
  obtain ⟨n1, q, e, v', X, h1, h2⟩ := main
  exact ⟨v', X, i33 F33 ⟨n1, q, e, h1⟩, h2⟩
end
end Go.Abs

namespace Go.Abs
section
variable {rows : List Row} {N : Nat} {ks ps : List Nat} {g v : AV} {l : List Int}
theorem set_fill {a : List Int} {x : Int} {d i : Nat} (h : a.length = i) : (a ++ List.replicate (d + 1) 0).set i x = (a ++ [x]) ++ List.replicate d 0 := by
  rw [List.set_append_right _ _ (by omega), h, Nat.sub_self, List.replicate_succ]
  simp
set_option maxHeartbeats 8000000 in
theorem RGradient_loop {B : List Row} {ev pv n0 : AV} (hok : GOK N ks ps) (he : El B 2 ev (nums .i64 (eC ks)) ks.length) (h : IsL B v l) (hl : l.length = N) (hb : ∀ x ∈ l, -100 ≤ x ∧ x ≤ 100) {low : Nat} (hlow : low ≤ B.length) {r : AV × List Row × Nat → Prop} {x5 : AV} {c : Cap} (hne : B.length ≠ sid x5)
    (hk : ∀ (L : List Row), Acc B L 1 c x5 (nums .i64 (grad ks l)) ks.length → r (x5, B ++ L, low)) :
    ∀ (d i : Nat) (L : List Row), ks.length - i = d → i ≤ ks.length → row? (B ++ L) B.length = some [n0, ev, pv] → Acc B L 1 c x5 (nums .i64 ((grad ks l).take i ++ List.replicate d 0)) ks.length →
    Lc49l2 F (.fn [.t 4]) v (.ptr B.length 0) x5 (.int .i64 i) (B ++ L) low r := by
  intro d
  induction d with
  | zero =>
    intro i L hd h1 hG hA
    have hi : i = ks.length := by omega
    subst hi
    rw [List.take_of_length_le (by rw [grad_len]; omega), List.replicate_zero, List.append_nil] at hA
    have := hk L hA
    have he' := El_app he L
    unfold Lc49l2
    simp [hG, lenW he']
    exact this
  | succ d ih =>
    intro i L hd h1 hG hA
    have hi : i < ks.length := by omega
    have hek := hok.ek
    have hw : IntKind.i64.wrap ((i : Int) + 1) = ((i + 1 : Nat) : Int) := by rw [wrap64 (by omega) (by omega)]; omega
    obtain ⟨e1, e2⟩ := eC_a hi
    have hee := hok.ee _ (gN_mem hi)
    have n6 := hok.n6
    have hgt := grad_take (l := l) hi
    have b1 := bd_get hb (i := gN ks i / 6) (by omega)
    have b2 := bd_get hb (i := gN ks i % 6) (by omega)
    have b3 : gN ks i / 6 < l.length := by omega
    have b4 : gN ks i % 6 < l.length := by omega
    generalize gN ks i / 6 = A at *
    generalize gN ks i % 6 = C at *
    obtain ⟨X, hX⟩ : ∃ X, X = gI l C - gI l A := ⟨_, rfl⟩
    have hws : IntKind.i64.wrap (gI l C - gI l A) = X := by rw [hX]; exact wrap64 (by omega) (by omega)
    rw [← hX] at hgt
    obtain ⟨L', ev1, hA2, hL2, hL3⟩ := Acc_store (x := X) hA hi hlow
    rw [set_fill (by simp [grad_len]; omega), ← hgt] at hA2
    have := ih (i + 1) L' (by omega) (by omega) (hL3 _ _ hne hG) hA2
    have he' := El_app he L
    have h' := IsL_app h L
    have ix := Acc_idx hA hi
    have i01 : idx? 0 2 = some 0 := rfl
    have i11 : idx? 1 2 = some 1 := rfl
    have w1 := ldW1 he' (j := i * 2) (by rw [eC_len]; omega)
    have w2 := ldW1 he' (j := i * 2 + 1) (by rw [eC_len]; omega)
    rw [← Nat.add_assoc] at w2
    unfold Lc49l2
    simp (disch := first | omega | (simp; done) | fail) [hG, lenW he', hi, idxW he', i01, i11, w1, w2, e1, e2, idxL0 h', loadL0 h', hws, ix, ev1, hw, -evE_store1]
    simpa using this
set_option maxHeartbeats 4000000 in
theorem RGradient_ret (hg : GRd rows g N ks ps) (h : IsL rows v l) (hl : l.length = N) (hb : ∀ x ∈ l, -100 ≤ x ∧ x ≤ 100) : LRet1 49 [g, v] rows (grad ks l) := by
  obtain ⟨ev, pv, rfl, he, hp, _⟩ := hg.eq
  have hok := hg.ok
  have o1 := El_one he
  have o2 := El_one hp
  have hek := hok.ek
  let Q : AV × List Row × Nat → Prop := fun r => ∃ v X, fin rows r.1 r.2.1 r.2.2 = (v, rows ++ X, none) ∧ X.all (Row.under 0) = true ∧ IsL (rows ++ X) v (grad ks l) ∧ Cp 1 v
  have main : Ex F (.fn [.t 4]) [.code c49b] ⟨mk 41 [(0, .agg [.int .i64 N, ev, pv]), (1, v)], rows, rows.length⟩ Q := by
    have hA0 := Acc_make (B := rows) (L := [.cells [.int .i64 N, ev, pv]]) (m := ks.length)
    have hloop := RGradient_loop (B := rows) (n0 := .int .i64 N) (pv := pv) (low := rows.length) (r := Q) (x5 := .slice (rows.length + 1) 0 ks.length (.at_ ks.length)) (c := .at_ ks.length) hok he h hl hb (Nat.le_refl _) (by simp) (fun L hA => by
      obtain ⟨v', X, e, h1, h2, h3, h4⟩ := Acc_fin1 hA (.inr ⟨_, rfl, Nat.le_refl _⟩)
      exact ⟨v', X, e, h1, h2, h4⟩) _ 0 ([.cells [.int .i64 N, ev, pv]] ++ [.cells (nums .i64 (List.replicate ks.length 0))]) rfl (Nat.zero_le _) (by simp [row?]) (by simpa using hA0)
    have ln := evP_lenE (El_app he [.cells [.int .i64 N, ev, pv]])
    have hlim : (ks.length : Int) ≤ lim := by simp [lim]; omega
    simp [AV.cells, o1, o2, seg, ln, hlim]
    simpa [nums] using hloop
  obtain ⟨n1, q, e, v', X, h1, h2⟩ := main
  exact ⟨v', X, i49 F49 ⟨n1, q, e, h1⟩, h2⟩
end
end Go.Abs

namespace Go.Abs
def gnS (N : Nat) (ks : List Nat) (f : List Int) : Nat → List Int
  | 0 => List.replicate N 0
  | i + 1 =>
    let s := gnS N ks f i
    let s1 := s.set (gN ks i / 6) (IntKind.i64.wrap (gI s (gN ks i / 6) - gI f i))
    s1.set (gN ks i % 6) (IntKind.i64.wrap (gI s1 (gN ks i % 6) + gI f i))
theorem gnS_len {N : Nat} {ks : List Nat} {f : List Int} : ∀ i, (gnS N ks f i).length = N
  | 0 => by simp [gnS]
  | i + 1 => by simp [gnS, gnS_len i]
theorem rep_nums {m : Nat} : List.replicate m (AV.int .i64 0) = nums .i64 (List.replicate m 0) := by simp [nums]
section
variable {rows : List Row} {N : Nat} {ks ps : List Nat} {g v : AV} {l : List Int}
set_option maxHeartbeats 8000000 in
theorem Gains_loop {B : List Row} {ev : AV} (hok : GOK N ks ps) (he : El B 2 ev (nums .i64 (eC ks)) ks.length) (h : IsL B v l) (hl : l.length = ks.length) {low : Nat} (hlow : low ≤ B.length) {r : AV × List Row × Nat → Prop} {x7 : AV} {c : Cap}
    (hk : ∀ (L : List Row), Acc B L 1 c x7 (nums .i64 (gnS N ks l ks.length)) N → r (.tup [x7, .int .i64 0], B ++ L, low)) :
    ∀ (d i : Nat) (L : List Row), ks.length - i = d → i ≤ ks.length → Acc B L 1 c x7 (nums .i64 (gnS N ks l i)) N →
    Lc22l2 F (.fn [.t 4, .t 5]) v x7 ev (.int .i64 ks.length) (.int .i64 i) (B ++ L) low r := by
  intro d
  induction d with
  | zero =>
    intro i L hd h1 hA
    have hi : i = ks.length := by omega
    subst hi
    have := hk L hA
    unfold Lc22l2
    simp
    exact this
  | succ d ih =>
    intro i L hd h1 hA
    have hi : i < ks.length := by omega
    have hek := hok.ek
    have hw : IntKind.i64.wrap ((i : Int) + 1) = ((i + 1 : Nat) : Int) := by rw [wrap64 (by omega) (by omega)]; omega
    obtain ⟨e1, e2⟩ := eC_a hi
    have hee := hok.ee _ (gN_mem hi)
    have hs : gnS N ks l (i + 1) = ((gnS N ks l i).set (gN ks i / 6) (IntKind.i64.wrap (gI (gnS N ks l i) (gN ks i / 6) - gI l i))).set (gN ks i % 6) (IntKind.i64.wrap (gI ((gnS N ks l i).set (gN ks i / 6) (IntKind.i64.wrap (gI (gnS N ks l i) (gN ks i / 6) - gI l i))) (gN ks i % 6) + gI l i)) := rfl
    generalize gN ks i / 6 = A at *
    generalize gN ks i % 6 = C at *
    have hAN : A < N := by omega
    have hCN : C < N := by omega
    have hA1 := Acc_app hA [.cells [.int .i64 A, .int .i64 C]]
    obtain ⟨L1, ev1, hA2, hL1, hR1⟩ := Acc_store (i := A) (x := IntKind.i64.wrap (gI (gnS N ks l i) A - gI l i)) hA1 hAN hlow
    have ixA := Acc_idx hA1 hAN
    have ldA := Acc_ld hA1 hAN
    have hlt := Acc_lt hA (by omega) (by omega)
    have hrow := hR1 (B.length + L.length) [.int .i64 A, .int .i64 C] (by omega) (by unfold row?; simp)
    generalize hs1 : (gnS N ks l i).set A (IntKind.i64.wrap (gI (gnS N ks l i) A - gI l i)) = s1 at *
    obtain ⟨L2, ev2, hA3, hL2, hR2⟩ := Acc_store (i := C) (x := IntKind.i64.wrap (gI s1 C + gI l i)) hA2 hCN hlow
    have ixC := Acc_idx hA2 hCN
    have ldC := Acc_ld hA2 hCN
    rw [← hs] at hA3
    have := ih (i + 1) L2 (by omega) (by omega) hA3
    have he' := El_app he L
    have h' := IsL_app h (L ++ [.cells [.int .i64 A, .int .i64 C]])
    have h1' := IsL_app h L1
    have hlw : lower low (B.length + L.length) = low := lower_ge' (by omega)
    have i01 : idx? 0 2 = some 0 := rfl
    have i11 : idx? 1 2 = some 1 := rfl
    unfold Lc22l2
    simp (disch := first | omega | (simp; done) | fail) [hi, idxW he', ldW2 he', e1, e2, AV.cells, splice, hlw, i01, i11, idxL0 h', loadL0 h', idxL0 h1', loadL0 h1', ixA, ldA, ixC, ldC, ev1, ev2, hrow, hw, -evE_store1]
    simpa using this
set_option maxHeartbeats 4000000 in
theorem Gains_ret (hg : GRd rows g N ks ps) (h : IsL rows v l) (hl : l.length = ks.length) (hb : ∀ x ∈ l, -100 ≤ x ∧ x ≤ 100) : LRet 22 [g, v] rows (gnS N ks l ks.length) := by
  obtain ⟨ev, pv, rfl, he, hp, _⟩ := hg.eq
  have hok := hg.ok
  have o1 := El_one he
  have o2 := El_one hp
  have n6 := hok.n6
  have hek := hok.ek
  have ho := open_ok (hg.app [.cells [.int .i64 N, ev, pv]]) (IsL_app h [.cells [.int .i64 N, ev, pv]]) hb (f := 67) (n := ks.length) hl (by omega) (g' := .agg [.int .i64 N, ev, pv]) (fun L => edges_ret (El_app (El_app he _) L) rfl o2)
  rw [show ((67 : Nat) : Int) = 67 from rfl] at ho
  let Q : AV × List Row × Nat → Prop := fun r => ∃ v X, fin rows r.1 r.2.1 r.2.2 = (.tup [v, .int .i64 0], rows ++ X, none) ∧ X.all (Row.under 0) = true ∧ IsL (rows ++ X) v (gnS N ks l ks.length) ∧ Cp 1 v
  have main : Ex F (.fn [.t 4, .t 5]) [.code c22b] ⟨mk 53 [(0, .agg [.int .i64 N, ev, pv]), (1, v)], rows, rows.length⟩ Q := by
    have hA0 := Acc_make (B := rows) (L := [.cells [.int .i64 N, ev, pv]]) (m := N)
    have hloop := Gains_loop (B := rows) (low := rows.length) (r := Q) (x7 := .slice (rows.length + 1) 0 N (.at_ N)) (c := .at_ N) hok he h hl (Nat.le_refl _) (fun L hA => by
      obtain ⟨v', X, e, h1, h2, h3, h4⟩ := Acc_fin (e := 0) (kd := .i64) hA (.inr ⟨_, rfl, Nat.le_refl _⟩)
      exact ⟨v', X, e, h1, h2, h4⟩) _ 0 ([.cells [.int .i64 N, ev, pv]] ++ [.cells (nums .i64 (List.replicate N 0))]) rfl (Nat.zero_le _) hA0
    have ln := evP_lenE (El_app he [.cells [.int .i64 N, ev, pv], .cells (nums .i64 (List.replicate N 0))])
    have hlim : (N : Int) ≤ lim := by simp [lim]; omega
    simp [AV.cells, o1, o2, seg, ho, boundOf, hlim, rep_nums, ln]
    simpa using hloop
  obtain ⟨n1, q, e, v', X, h1, h2⟩ := main
  exact ⟨v', X, i22 F22 ⟨n1, q, e, h1⟩, h2⟩
set_option maxHeartbeats 8000000 in
theorem RGains_loop {B : List Row} {ev pv n0 : AV} (hok : GOK N ks ps) (he : El B 2 ev (nums .i64 (eC ks)) ks.length) (h : IsL B v l) (hl : l.length = ks.length) {low : Nat} (hlow : low ≤ B.length) {r : AV × List Row × Nat → Prop} {x5 : AV} {c : Cap} (hne : B.length ≠ sid x5)
    (hk : ∀ (L : List Row), Acc B L 1 c x5 (nums .i64 (gnS N ks l ks.length)) N → r (x5, B ++ L, low)) :
    ∀ (d i : Nat) (L : List Row), ks.length - i = d → i ≤ ks.length → row? (B ++ L) B.length = some [n0, ev, pv] → Acc B L 1 c x5 (nums .i64 (gnS N ks l i)) N →
    Lc29l2 F (.fn [.t 4]) v (.ptr B.length 0) x5 (.int .i64 i) (B ++ L) low r := by
  intro d
  induction d with
  | zero =>
    intro i L hd h1 hG hA
    have hi : i = ks.length := by omega
    subst hi
    have := hk L hA
    have he' := El_app he L
    unfold Lc29l2
    simp [hG, lenW he']
    exact this
  | succ d ih =>
    intro i L hd h1 hG hA
    have hi : i < ks.length := by omega
    have hek := hok.ek
    have hw : IntKind.i64.wrap ((i : Int) + 1) = ((i + 1 : Nat) : Int) := by rw [wrap64 (by omega) (by omega)]; omega
    obtain ⟨e1, e2⟩ := eC_a hi
    have hee := hok.ee _ (gN_mem hi)
    have hs : gnS N ks l (i + 1) = ((gnS N ks l i).set (gN ks i / 6) (IntKind.i64.wrap (gI (gnS N ks l i) (gN ks i / 6) - gI l i))).set (gN ks i % 6) (IntKind.i64.wrap (gI ((gnS N ks l i).set (gN ks i / 6) (IntKind.i64.wrap (gI (gnS N ks l i) (gN ks i / 6) - gI l i))) (gN ks i % 6) + gI l i)) := rfl
    generalize gN ks i / 6 = A at *
    generalize gN ks i % 6 = C at *
    have hAN : A < N := by omega
    have hCN : C < N := by omega
    obtain ⟨L1, ev1, hA2, hL1, hR1⟩ := Acc_store (i := A) (x := IntKind.i64.wrap (gI (gnS N ks l i) A - gI l i)) hA hAN hlow
    have ixA := Acc_idx hA hAN
    have ldA := Acc_ld hA hAN
    have hG1 := hR1 _ _ hne hG
    generalize hs1 : (gnS N ks l i).set A (IntKind.i64.wrap (gI (gnS N ks l i) A - gI l i)) = s1 at *
    obtain ⟨L2, ev2, hA3, hL2, hR2⟩ := Acc_store (i := C) (x := IntKind.i64.wrap (gI s1 C + gI l i)) hA2 hCN hlow
    have ixC := Acc_idx hA2 hCN
    have ldC := Acc_ld hA2 hCN
    rw [← hs] at hA3
    have := ih (i + 1) L2 (by omega) (by omega) (hR2 _ _ hne hG1) hA3
    have he' := El_app he L
    have h' := IsL_app h L
    have h1' := IsL_app h L1
    have i01 : idx? 0 2 = some 0 := rfl
    have i11 : idx? 1 2 = some 1 := rfl
    have w1 := ldW1 he' (j := i * 2) (by rw [eC_len]; omega)
    have w2 := ldW1 he' (j := i * 2 + 1) (by rw [eC_len]; omega)
    rw [← Nat.add_assoc] at w2
    unfold Lc29l2
    simp (disch := first | omega | (simp; done) | fail) [hG, lenW he', hi, idxW he', i01, i11, w1, w2, e1, e2, idxL0 h', loadL0 h', idxL0 h1', loadL0 h1', ixA, ldA, ixC, ldC, ev1, ev2, hw, -evE_store1]
    simpa using this
set_option maxHeartbeats 4000000 in
theorem RGains_ret (hg : GRd rows g N ks ps) (h : IsL rows v l) (hl : l.length = ks.length) : LRet1 29 [g, v] rows (gnS N ks l ks.length) := by
  obtain ⟨ev, pv, rfl, he, hp, _⟩ := hg.eq
  have hok := hg.ok
  have o1 := El_one he
  have o2 := El_one hp
  have n6 := hok.n6
  have hek := hok.ek
  let Q : AV × List Row × Nat → Prop := fun r => ∃ v X, fin rows r.1 r.2.1 r.2.2 = (v, rows ++ X, none) ∧ X.all (Row.under 0) = true ∧ IsL (rows ++ X) v (gnS N ks l ks.length) ∧ Cp 1 v
  have main : Ex F (.fn [.t 4]) [.code c29b] ⟨mk 56 [(0, .agg [.int .i64 N, ev, pv]), (1, v)], rows, rows.length⟩ Q := by
    have hA0 := Acc_make (B := rows) (L := [.cells [.int .i64 N, ev, pv]]) (m := N)
    have hloop := RGains_loop (B := rows) (n0 := .int .i64 N) (pv := pv) (low := rows.length) (r := Q) (x5 := .slice (rows.length + 1) 0 N (.at_ N)) (c := .at_ N) hok he h hl (Nat.le_refl _) (by simp) (fun L hA => by
      obtain ⟨v', X, e, h1, h2, h3, h4⟩ := Acc_fin1 hA (.inr ⟨_, rfl, Nat.le_refl _⟩)
      exact ⟨v', X, e, h1, h2, h4⟩) _ 0 ([.cells [.int .i64 N, ev, pv]] ++ [.cells (nums .i64 (List.replicate N 0))]) rfl (Nat.zero_le _) (by simp [row?]) hA0
    have hlim : (N : Int) ≤ lim := by simp [lim]; omega
    simp [AV.cells, o1, o2, seg, hlim, rep_nums]
    simpa using hloop
  obtain ⟨n1, q, e, v', X, h1, h2⟩ := main
  exact ⟨v', X, i29 F29 ⟨n1, q, e, h1⟩, h2⟩
end
end Go.Abs

namespace Go.Abs
def Sm (b o : Nat) (R R' : List Row) : Prop := b ≤ R'.length ∧ ∀ id, id < b → id ≠ o → R'[id]? = R[id]?
section
variable {b o : Nat} {R R' R'' : List Row}
theorem Sm_refl (h : b ≤ R.length) : Sm b o R R := ⟨h, fun _ _ _ => rfl⟩
theorem Sm_app (h : Sm b o R R') (X : List Row) : Sm b o R (R' ++ X) := ⟨by rw [List.length_append]; exact Nat.le_trans h.1 (Nat.le_add_right _ _), fun id h1 h2 => by
  rw [List.getElem?_append_left (Nat.lt_of_lt_of_le h1 h.1)]; exact h.2 id h1 h2⟩
theorem Sm_set (h : Sm b o R R') {i : Nat} {x : Row} (hi : i = o ∨ b ≤ i) : Sm b o R (R'.set i x) := ⟨by rw [List.length_set]; exact h.1, fun id h1 h2 => by
  rw [List.getElem?_set_ne (by omega)]; exact h.2 id h1 h2⟩
theorem Sm_take (h : Sm b o R R') {n : Nat} (hn : b ≤ n) : Sm b o R (R'.take n) := ⟨by rw [List.length_take]; have := h.1; omega, fun id h1 h2 => by
  rw [List.getElem?_take_of_lt (by omega)]; exact h.2 id h1 h2⟩
theorem Sm_trans (h : Sm b o R R') {b' : Nat} (h2 : Sm b' o R' R'') (hb : b ≤ b') : Sm b o R R'' := ⟨Nat.le_trans hb h2.1, fun id k1 k2 => (h2.2 id (by omega) k2).trans (h.2 id k1 k2)⟩
theorem Sm_row (h : Sm b o R R') {id : Nat} {vs : List AV} (hr : row? R id = some vs) (h1 : id < b) (h2 : id ≠ o) : row? R' id = some vs := by
  unfold row? at *
  rw [h.2 id h1 h2]
  exact hr
theorem Sm_El (h : Sm b o R R') {sz n : Nat} {v : AV} {cs : List AV} (he : El R sz v cs n) (h1 : v = .nilslice ∨ (sid v < b ∧ sid v ≠ o)) : El R' sz v cs n := by
  rcases El_cases he with ⟨rfl, rfl, rfl⟩ | ⟨id, off, c, vs, rfl, hr, hs⟩
  · exact El_nil
  · rcases h1 with h1 | ⟨h1, h2⟩
    · simp at h1
    · have := Sm_row h hr h1 h2
      unfold El elems
      simp only [this, hs]
      rfl
end
theorem El_lt {R : List Row} {sz n : Nat} {v : AV} {cs : List AV} (he : El R sz v cs n) : v = .nilslice ∨ sid v < R.length := by
  rcases El_cases he with ⟨rfl, _⟩ | ⟨id, off, c, vs, rfl, hr, _⟩
  · exact .inl rfl
  · exact .inr (row?_lt hr)
theorem row_end {B : List Row} {vs : List AV} : row? (B ++ [.cells vs]) B.length = some vs := by simp [row?]
theorem cell_end {B : List Row} {vs : List AV} : cells? (B ++ [.cells vs]) B.length = some vs := by simp [cells?]
theorem round_end {F : Nat → Option IFn} {M low : Nat} {R : List Row} {sl SL : List AV} {ds : List Nat} {asg body : ICode} {r : AV × List Row × Nat → Prop} (hM : R[M]? = some (.loop .busy none SL ds asg body)) :
    Ex F (.round M) [] ⟨sl, R, low⟩ r ↔ r (.bool true, R.set M (.loop .ready none SL ds asg body), lower low M) := by
  rw [Ex_nil]
  have e : leaveV (.round M) none ⟨sl, R, low⟩ = some (.bool true, R.set M (.loop .ready none SL ds asg body), lower low M) := by
    unfold leaveV; simp only [hM]; rfl
  constructor
  · rintro ⟨x, hx, h⟩
    rw [e] at hx
    injection hx with hx
    subst hx
    exact h
  · intro h
    exact ⟨_, e, h⟩
theorem round_put {R : List Row} {M o : Nat} {l y x : Row} (hM : R[M]? = some l) (ho : o < M) :
    (((R.set M y).set o x).set M l).length = R.length ∧ (∀ id, id ≠ o → (((R.set M y).set o x).set M l)[id]? = R[id]?) ∧ (((R.set M y).set o x).set M l)[o]? = some x := by
  have hMl := (List.getElem?_eq_some_iff.1 hM).1
  refine ⟨by simp, ?_, ?_⟩
  · intro id h
    by_cases c : id = M
    · subst c
      rw [List.getElem?_set_self (by simp; exact hMl), hM]
    · rw [List.getElem?_set_ne (by omega), List.getElem?_set_ne (by omega), List.getElem?_set_ne (by omega)]
  · rw [List.getElem?_set_ne (by omega), List.getElem?_set_self (by simp; omega)]
theorem Acc_Sm {B L L' : List Row} {sz n b o : Nat} {c : Cap} {v : AV} {cs : List AV} (h : Acc B L sz c v cs n) (hS : Sm b o (B ++ L) (B ++ L')) (h1 : B.length + L.length ≤ b) (h2 : B.length + L.length ≤ o ∨ o < B.length) : Acc B L' sz c v cs n := by
  obtain ⟨a1, a2⟩ := h
  refine ⟨a1, ?_⟩
  rcases a2 with a2 | ⟨k, hv, hk⟩
  · exact .inl a2
  · refine .inr ⟨k, hv, ?_⟩
    have hkl := (List.getElem?_eq_some_iff.1 hk).1
    have := hS.2 (B.length + k) (by omega) (by omega)
    rw [List.getElem?_append_right (by omega), List.getElem?_append_right (by omega), Nat.add_sub_cancel_left] at this
    rw [this, hk]
end Go.Abs

namespace Go.Abs
def sgn (q k : Nat) : Int := if (k / 6 = q / 36 ∧ k % 6 = q / 6 % 6) ∨ (k / 6 = q / 6 % 6 ∧ k % 6 = q % 6) then 1 else if k / 6 = q / 36 ∧ k % 6 = q % 6 then -1 else 0
def sdS (q : Nat) (ks : List Nat) (upd : Nat → Int → List Int → List Int) (c : List Int) : Nat → List Int
  | 0 => c
  | i + 1 => if sgn q (gN ks i) = 0 then sdS q ks upd c i else upd i (sgn q (gN ks i)) (sdS q ks upd c i)
section
variable {rows : List Row} {N : Nat} {ks ps : List Nat}
theorem sides_ret {n0 ev pv : AV} {i : Int} (h0 : n0.one = true) (h1 : ev.one = true) (h2 : pv.one = true) : Ret F 62 [.agg [n0, ev, pv], .int .i64 i] rows = some (.func 93 [.ptr rows.length 0, .ptr (rows.length + 1) 0], rows ++ [.cells [n0, ev, pv], .cells [.int .i64 i]], none) := by
  refine i62 F62 ?_
  simp [AV.cells, h0, h1, h2, fin]
theorem eq2 {k : IntKind} {a b c d : Nat} : eqInts [.int k a, .int k b] [.int k c, .int k d] = some (decide (a = c ∧ b = d)) := by
  simp [eqInts]
  by_cases h1 : a = c <;> by_cases h2 : b = d <;> simp [h1, h2, Int.natCast_inj]
set_option maxHeartbeats 8000000 in
theorem sides_head {y ev : AV} {P low m i A C qa qb qc : Nat} {R : List Row} {fl : List Int} {S : Int} {r : AV × List Row × Nat → Prop} (hi : i < m) (he' : El R 2 ev (nums .i64 fl) m) (hlw : lower low R.length = low) (e1 : gI fl (i * 2) = A) (e2 : gI fl (i * 2 + 1) = C)
    (hP' : row? (R ++ [.cells [.int .i64 A, .int .i64 C]]) P = some [.int .i64 qa, .int .i64 qb, .int .i64 qc])
    (hsgn : S = if (A = qa ∧ C = qb) ∨ (A = qb ∧ C = qc) then 1 else if A = qa ∧ C = qc then -1 else 0) :
    Lc93l0 F (.fn []) y (.ptr P 0) ev (.int .i64 m) (.int .i64 i) R low r ↔ Jc93s4 F (.fn []) y (.ptr P 0) (.int .i64 i) (.int .i64 S) ev (.int .i64 m) (.int .i64 i) (R ++ [.cells [.int .i64 A, .int .i64 C]]) low r := by
  have q1 := eq2 (k := .i64) (a := A) (b := C) (c := qa) (d := qb)
  have q2 := eq2 (k := .i64) (a := A) (b := C) (c := qb) (d := qc)
  have q3 := eq2 (k := .i64) (a := A) (b := C) (c := qa) (d := qc)
  have i02 : idx? 2 3 = some 2 := rfl
  have i03 : idx? 0 3 = some 0 := rfl
  have i13 : idx? 1 3 = some 1 := rfl
  have ix := idxW he' hi
  have ld := ldW2 he' hi
  rw [e1, e2] at ld
  unfold Lc93l0
  by_cases c1 : A = qa ∧ C = qb
  · rw [decide_eq_true c1] at q1
    rw [if_pos (.inl c1)] at hsgn
    subst hsgn
    simp [hi, ix, ld, AV.cells, splice, hlw, i02, i03, i13, seg, fillA, q1, hP', -uc93s4, jc93s4]
  · rw [decide_eq_false c1] at q1
    by_cases c2 : A = qb ∧ C = qc
    · rw [decide_eq_true c2] at q2
      rw [if_pos (.inr c2)] at hsgn
      subst hsgn
      simp [hi, ix, ld, AV.cells, splice, hlw, i02, i03, i13, seg, fillA, q1, q2, hP', -uc93s4, jc93s4]
    · rw [decide_eq_false c2] at q2
      rw [if_neg (by intro h; rcases h with h | h; exact c1 h; exact c2 h)] at hsgn
      by_cases c3 : A = qa ∧ C = qc
      · rw [decide_eq_true c3] at q3
        rw [if_pos c3] at hsgn
        subst hsgn
        simp [hi, ix, ld, AV.cells, splice, hlw, i02, i03, i13, seg, fillA, q1, q2, q3, hP', -uc93s4, jc93s4]
      · rw [decide_eq_false c3] at q3
        rw [if_neg c3] at hsgn
        subst hsgn
        simp [hi, ix, ld, AV.cells, splice, hlw, i02, i03, i13, seg, fillA, q1, q2, q3, hP', -uc93s4, jc93s4]
set_option maxHeartbeats 8000000 in
theorem sides_loop {M b o : Nat} {sl : List AV} {asg body : ICode} {d1 d2 q P : Nat} {ev : AV} {R0 : List Row} {upd : Nat → Int → List Int → List Int} {c0 : List Int} (hks : ks.length ≤ 10) (hb : b = R0.length) (hMb : M < b) (hMo : M ≠ o) (hob : o < b)
    (he : El R0 2 ev (nums .i64 (eC ks)) ks.length) (heo : sid ev ≠ o) (hL : R0[M]? = some (.loop .ready none sl [d1, d2] asg body)) (hP : row? R0 P = some [.int .i64 (q / 36 : Nat), .int .i64 (q / 6 % 6 : Nat), .int .i64 (q % 6 : Nat)]) (hPo : P ≠ o)
    (hbody : ∀ (R : List Row) (i : Nat), Sm b o R0 R → R[o]? = some (.cells (nums .i64 (sdS q ks upd c0 i))) → i < ks.length → sgn q (gN ks i) ≠ 0 → Ex F (.round M) [.code asg, .rfBegin, .code body] ⟨putL sl [d1, d2] [.int .i64 i, .int .i64 (sgn q (gN ks i))], R, R.length⟩ fun x =>
      x.1 = .bool true ∧ x.2.1.length = R.length ∧ (∀ id, id ≠ o → x.2.1[id]? = R[id]?) ∧ x.2.1[o]? = some (.cells (nums .i64 (upd i (sgn q (gN ks i)) (sdS q ks upd c0 i)))) ∧ x.2.2 = min M o)
    {r : AV × List Row × Nat → Prop} {lw0 : Nat} (hlw0 : lw0 ≤ b) (hend : ∀ R low, Sm b o R0 R → R[o]? = some (.cells (nums .i64 (sdS q ks upd c0 ks.length))) → (low = lw0 ∧ sdS q ks upd c0 ks.length = c0 ∨ low = min lw0 (min M o)) → r (.tup [], R, low)) :
    ∀ (n i : Nat) (R : List Row) (low : Nat), ks.length - i = n → i ≤ ks.length → Sm b o R0 R → R[o]? = some (.cells (nums .i64 (sdS q ks upd c0 i))) → (low = lw0 ∧ sdS q ks upd c0 i = c0 ∨ low = min lw0 (min M o)) →
    Lc93l0 F (.fn []) (.yield M) (.ptr P 0) ev (.int .i64 ks.length) (.int .i64 i) R low r := by
  intro n
  induction n with
  | zero =>
    intro i R low hn h1 hS hC hlow
    have : i = ks.length := by omega
    subst this
    have := hend R low hS hC hlow
    unfold Lc93l0
    simp
    exact this
  | succ n ih =>
    intro i R low hn h1 hS hC hlow
    have hi : i < ks.length := by omega
    have hPb : P < b := hb ▸ row?_lt hP
    have hw : IntKind.i64.wrap ((i : Int) + 1) = ((i + 1 : Nat) : Int) := by rw [wrap64 (by omega) (by omega)]; omega
    have he' : El R 2 ev (nums .i64 (eC ks)) ks.length := Sm_El hS he (by rcases El_lt he with h | h; exact .inl h; exact .inr ⟨by omega, heo⟩)
    have hP' := row?_old (Sm_row hS hP hPb hPo) [.cells [.int .i64 (gN ks i / 6 : Nat), .int .i64 (gN ks i % 6 : Nat)]]
    obtain ⟨e1, e2⟩ := eC_a hi
    have hRb := hS.1
    have hlw : lower low R.length = low := lower_ge' (by omega)
    have hS1 := Sm_app hS [.cells [.int .i64 (gN ks i / 6 : Nat), .int .i64 (gN ks i % 6 : Nat)]]
    have hC1 : (R ++ [Row.cells [.int .i64 (gN ks i / 6 : Nat), .int .i64 (gN ks i % 6 : Nat)]])[o]? = some (.cells (nums .i64 (sdS q ks upd c0 i))) := by
      rw [List.getElem?_append_left (by omega)]; exact hC
    have hL1 : (R ++ [Row.cells [.int .i64 (gN ks i / 6 : Nat), .int .i64 (gN ks i % 6 : Nat)]])[M]? = some (.loop .ready none sl [d1, d2] asg body) := (hS1.2 M hMb hMo).trans hL
    have hskip := ih (i + 1) _ low (by omega) (by omega) hS1
    have hround := hbody _ i hS1 hC1 hi
    have hsgn : sgn q (gN ks i) = if (gN ks i / 6 = q / 36 ∧ gN ks i % 6 = q / 6 % 6) ∨ (gN ks i / 6 = q / 6 % 6 ∧ gN ks i % 6 = q % 6) then 1 else if gN ks i / 6 = q / 36 ∧ gN ks i % 6 = q % 6 then -1 else 0 := rfl
    have hsd : sdS q ks upd c0 (i + 1) = if sgn q (gN ks i) = 0 then sdS q ks upd c0 i else upd i (sgn q (gN ks i)) (sdS q ks upd c0 i) := rfl
    rw [hsd] at hskip
    have hstep : sgn q (gN ks i) ≠ 0 → Ex F (.round M) [.code asg, .rfBegin, .code body] ⟨putL sl [d1, d2] [.int .i64 i, .int .i64 (sgn q (gN ks i))], R ++ [.cells [.int .i64 (gN ks i / 6 : Nat), .int .i64 (gN ks i % 6 : Nat)]], (R ++ [Row.cells [.int .i64 (gN ks i / 6 : Nat), .int .i64 (gN ks i % 6 : Nat)]]).length⟩ fun x =>
        x.1 = .bool true ∧ Lc93l0 F (.fn []) (.yield M) (.ptr P 0) ev (.int .i64 ks.length) (.int .i64 ((i + 1 : Nat) : Int)) (gc (R ++ [Row.cells [.int .i64 (gN ks i / 6 : Nat), .int .i64 (gN ks i % 6 : Nat)]]).length (lower low x.2.2) x.1 x.2.1) (lower low x.2.2) r := by
      intro hs
      obtain ⟨m, x, e, k1, k2, k3, k4, k5⟩ := hround hs
      refine ⟨m, x, e, k1, ?_⟩
      have hgc : gc (R ++ [Row.cells [.int .i64 (gN ks i / 6 : Nat), .int .i64 (gN ks i % 6 : Nat)]]).length (lower low x.2.2) x.1 x.2.1 = x.2.1 := by
        rcases gc_cases (R ++ [Row.cells [.int .i64 (gN ks i / 6 : Nat), .int .i64 (gN ks i % 6 : Nat)]]).length (lower low x.2.2) x.1 x.2.1 with h | ⟨h, _⟩
        · exact h
        · rw [h]; exact List.take_of_length_le (by omega)
      rw [hgc]
      refine ih (i + 1) _ _ (by omega) (by omega) ⟨by rw [k2]; exact hS1.1, fun id a1 a2 => (k3 id a2).trans (hS1.2 id a1 a2)⟩ ?_ ?_
      · rw [hsd, if_neg hs]; exact k4
      · right
        rw [k5]
        rcases hlow with ⟨h, _⟩ | h <;> rw [h] <;> unfold lower <;> split <;> omega
    have i02 : idx? 2 3 = some 2 := rfl
    have i03 : idx? 0 3 = some 0 := rfl
    have i13 : idx? 1 3 = some 1 := rfl
    generalize sgn q (gN ks i) = S at *
    generalize gN ks i / 6 = A at *
    generalize gN ks i % 6 = C at *
    generalize q / 36 = qa at *
    generalize q / 6 % 6 = qb at *
    generalize q % 6 = qc at *
    have q1 := eq2 (k := .i64) (a := A) (b := C) (c := qa) (d := qb)
    have q2 := eq2 (k := .i64) (a := A) (b := C) (c := qb) (d := qc)
    have q3 := eq2 (k := .i64) (a := A) (b := C) (c := qa) (d := qc)
    have no : S = 0 → Lc93l0 F (.fn []) (.yield M) (.ptr P 0) ev (.int .i64 ks.length) (.int .i64 ((i + 1 : Nat) : Int)) (R ++ [.cells [.int .i64 A, .int .i64 C]]) low r := fun h => by
      rw [if_pos h] at hskip
      exact hskip hC1 (by rcases hlow with ⟨h1, h2⟩ | h1; exact .inl ⟨h1, h2⟩; exact .inr h1)
    have nope : S = 0 → Jc93s4 F (.fn []) (.yield M) (.ptr P 0) (.int .i64 i) (.int .i64 0) ev (.int .i64 ks.length) (.int .i64 i) (R ++ [.cells [.int .i64 A, .int .i64 C]]) low r := fun h => by
      have := no h
      unfold Jc93s4
      simp [hw]
      simpa using this
    have yes : S ≠ 0 → Jc93s4 F (.fn []) (.yield M) (.ptr P 0) (.int .i64 i) (.int .i64 S) ev (.int .i64 ks.length) (.int .i64 i) (R ++ [.cells [.int .i64 A, .int .i64 C]]) low r := fun h => by
      obtain ⟨m, x, e, hx1, hx2⟩ := hstep h
      unfold Jc93s4
      simp [h]
      rw [callK_y hL1 rfl]
      refine ⟨m, x, e, ?_⟩
      rw [hx1] at hx2
      simp only [hx1]
      simp [hw]
      simpa using hx2
    rw [sides_head (S := S) hi he' hlw e1 e2 hP' hsgn]
    by_cases c : S = 0
    · have := nope c
      rw [← c] at this
      exact this
    · exact yes c
end
end Go.Abs

namespace Go.Abs
section
variable {rows : List Row} {N : Nat} {ks ps : List Nat}
set_option maxHeartbeats 8000000 in
theorem sides_rf {res : List RV} {f : Opd} {k : List Itm} {sl : List AV} {asg body : ICode} {d1 d2 p ga pa o low : Nat} {n0 ev pv : AV} {Rb : List Row} {upd : Nat → Int → List Int → List Int} {c0 : List Int} {r : AV × List Row × Nat → Prop} (hks : ks.length ≤ 10) (hp : p < ps.length)
    (hf : getO sl f = .func 93 [.ptr ga 0, .ptr pa 0]) (hga : row? Rb ga = some [n0, ev, pv]) (hpa : row? Rb pa = some [.int .i64 p]) (he : El Rb 2 ev (nums .i64 (eC ks)) ks.length) (hpv : El Rb 3 pv (nums .i64 (pC ps)) ps.length)
    (hlo : low ≤ o) (ho : o < Rb.length) (heo : sid ev ≠ o) (hc0 : Rb[o]? = some (.cells (nums .i64 c0)))
    (hbody : ∀ (R : List Row) (i : Nat), Sm Rb.length o Rb R → R[Rb.length]? = some (.loop .ready none sl [d1, d2] asg body) → R[o]? = some (.cells (nums .i64 (sdS (gN ps p) ks upd c0 i))) → i < ks.length → sgn (gN ps p) (gN ks i) ≠ 0 → Ex F (.round Rb.length) [.code asg, .rfBegin, .code body] ⟨putL sl [d1, d2] [.int .i64 i, .int .i64 (sgn (gN ps p) (gN ks i))], R, R.length⟩ fun x =>
      x.1 = .bool true ∧ x.2.1.length = R.length ∧ (∀ id, id ≠ o → x.2.1[id]? = R[id]?) ∧ x.2.1[o]? = some (.cells (nums .i64 (upd i (sgn (gN ps p) (gN ks i)) (sdS (gN ps p) ks upd c0 i)))) ∧ x.2.2 = min Rb.length o)
    (hend : ∀ R, Sm Rb.length o Rb R → R[o]? = some (.cells (nums .i64 (sdS (gN ps p) ks upd c0 ks.length))) → Ex F (.fn res) k ⟨sl, R, low⟩ r) :
    Ex F (.fn res) (.code (.rf f [d1, d2] asg body) :: k) ⟨sl, Rb, low⟩ r := by
  rw [Ex_rf]
  refine ⟨rfl, (93, [.yield Rb.length, .ptr ga 0, .ptr pa 0]), by rw [hf]; rfl, ?_⟩
  obtain ⟨R0c, hR0⟩ : ∃ R0c, R0c = Rb ++ [Row.loop .ready none sl [d1, d2] asg body] := ⟨_, rfl⟩
  rw [← hR0]
  have hlen : R0c.length = Rb.length + 1 := by rw [hR0]; simp
  have hS0 : Sm Rb.length o Rb R0c := by rw [hR0]; exact Sm_app (Sm_refl (Nat.le_refl _)) _
  have hL0 : R0c[Rb.length]? = some (.loop .ready none sl [d1, d2] asg body) := by rw [hR0]; simp
  have hga' : row? R0c ga = some [n0, ev, pv] := by rw [hR0]; exact row?_old hga _
  have hpa' : row? R0c pa = some [.int .i64 p] := by rw [hR0]; exact row?_old hpa _
  have he' : El R0c 2 ev (nums .i64 (eC ks)) ks.length := by rw [hR0]; exact El_app he _
  have hpv' : El R0c 3 pv (nums .i64 (pC ps)) ps.length := by rw [hR0]; exact El_app hpv _
  obtain ⟨P0, hP0⟩ : ∃ P0 : Row, P0 = .cells [.int .i64 (gN ps p / 36 : Nat), .int .i64 (gN ps p / 6 % 6 : Nat), .int .i64 (gN ps p % 6 : Nat)] := ⟨_, rfl⟩
  let after : AV × List Row × Option Nat → Prop := fun q => ∃ z, afterLoop Rb.length low q.2.1 q.2.2 = some z ∧ Ex F (.fn res) (z.1 ++ k) ⟨sl, z.2.1, z.2.2⟩ r
  -- what is left, seen from outside
  have hafter : ∀ (R : List Row) (d : Option Nat), lowO low d = low → R[Rb.length]? = some (.loop .ready none sl [d1, d2] asg body) → Sm Rb.length o Rb R → R[o]? = some (.cells (nums .i64 (sdS (gN ps p) ks upd c0 ks.length))) → after (.tup [], R, d) := by
    intro R d hd hM hS hC
    have hal : afterLoop Rb.length low R d = some ([], gc Rb.length low (.tup []) (R.set Rb.length .dead), low) := by
      unfold afterLoop
      simp only [hM]
      rw [if_neg (by decide), hd]
      rfl
    refine ⟨_, hal, ?_⟩
    have hS1 := Sm_set hS (i := Rb.length) (x := .dead) (.inr (Nat.le_refl _))
    have hC1 : (R.set Rb.length .dead)[o]? = some (.cells (nums .i64 (sdS (gN ps p) ks upd c0 ks.length))) := by rw [List.getElem?_set_ne (by omega)]; exact hC
    show Ex F (.fn res) ([] ++ k) ⟨sl, gc Rb.length low (.tup []) (R.set Rb.length .dead), low⟩ r
    rcases gc_cases Rb.length low (.tup []) (R.set Rb.length .dead) with h | ⟨h, _⟩
    · rw [h]; exact hend _ hS1 hC1
    · rw [h]
      refine hend _ (Sm_take hS1 (Nat.le_refl _)) ?_
      rw [List.getElem?_take_of_lt ho]; exact hC1
  refine Ret_mk' F93 (R := after) (show Ex F (.fn []) [.code c93b] ⟨mk 52 [(0, .yield Rb.length), (1, .ptr ga 0), (2, .ptr pa 0)], R0c, R0c.length⟩ _ from ?_)
  have hl := sides_loop (M := Rb.length) (b := R0c.length + 1) (o := o) (sl := sl) (asg := asg) (body := body) (d1 := d1) (d2 := d2) (q := gN ps p) (P := R0c.length) (ev := ev) (R0 := R0c ++ [P0]) (upd := upd) (c0 := c0) (ks := ks) hks (by simp) (by omega) (by omega) (by omega) (El_app he' _) heo
    (by rw [List.getElem?_append_left (by omega)]; exact hL0) (by rw [hP0]; exact row_end) (by omega)
    (fun R i hS hC hi hs => hbody R i (Sm_trans hS0 (Sm_trans (Sm_app (Sm_refl (Nat.le_refl R0c.length)) [P0]) hS (Nat.le_succ _)) (by omega)) (by
      rw [hS.2 _ (by omega) (by omega), List.getElem?_append_left (by omega)]; exact hL0) hC hi hs)
    (r := fun x => after (fin R0c x.1 x.2.1 x.2.2)) (lw0 := R0c.length) (by omega) (fun R lw hS hC hlw => by
      have hSb : Sm Rb.length o Rb R := Sm_trans hS0 (Sm_trans (Sm_app (Sm_refl (Nat.le_refl R0c.length)) [P0]) hS (Nat.le_succ _)) (by omega)
      have hLR : R[Rb.length]? = some (.loop .ready none sl [d1, d2] asg body) := by
        rw [hS.2 _ (by omega) (by omega), List.getElem?_append_left (by omega)]; exact hL0
      by_cases c : lw = R0c.length
      · have hfin : fin R0c (.tup []) R lw = (.tup [], R0c, none) := by
          unfold fin
          rw [if_pos c]
          rfl
        rw [hfin]
        have hcc : sdS (gN ps p) ks upd c0 ks.length = c0 := by
          rcases hlw with ⟨_, h⟩ | h
          · exact h
          · omega
        refine hafter _ none rfl hL0 hS0 ?_
        rw [hcc, hR0, List.getElem?_append_left ho]; exact hc0
      · have hlo2 : lw = o := by
          rcases hlw with ⟨h, _⟩ | h
          · exact absurd h c
          · omega
        have hfin : fin R0c (.tup []) R lw = (.tup [], gc R0c.length lw (.tup []) R, some lw) := by
          unfold fin
          rw [if_neg c]
        rw [hfin]
        have hlowO : lowO low (some lw) = low := by
          show lower low lw = low
          exact lower_ge' (by omega)
        rcases gc_cases R0c.length lw (.tup []) R with h | ⟨h, _⟩
        · rw [h]; exact hafter _ _ hlowO hLR hSb hC
        · rw [h]
          refine hafter _ _ hlowO ?_ (Sm_take hSb (by omega)) ?_
          · rw [List.getElem?_take_of_lt (by omega)]; exact hLR
          · rw [List.getElem?_take_of_lt (by omega)]; exact hC) _ 0 (R0c ++ [P0]) R0c.length rfl (Nat.zero_le _) (Sm_refl (by simp)) (by
      rw [List.getElem?_append_left (by omega), hR0, List.getElem?_append_left ho]; exact hc0) (.inl ⟨rfl, rfl⟩)
  rw [hP0] at hl
  obtain ⟨e1, e2, e3⟩ := pC_a hp
  have ix := idxW hpv' hp
  have ld := ldW3 hpv' hp
  rw [e1, e2, e3] at ld
  have hga2 := row?_old hga' [.cells [.int .i64 (gN ps p / 36 : Nat), .int .i64 (gN ps p / 6 % 6 : Nat), .int .i64 (gN ps p % 6 : Nat)]]
  have ln := evP_lenE (El_app he' [.cells [.int .i64 (gN ps p / 36 : Nat), .int .i64 (gN ps p / 6 % 6 : Nat), .int .i64 (gN ps p % 6 : Nat)]])
  have hlw : lower R0c.length R0c.length = R0c.length := lower_ge' (Nat.le_refl _)
  generalize gN ps p / 36 = qa at *
  generalize gN ps p / 6 % 6 = qb at *
  generalize gN ps p % 6 = qc at *
  clear hafter hend hbody
  simp [hga', hpa', ix, ld, AV.cells, splice, hlw, hga2, ln]
  simpa using hl
end
end Go.Abs

namespace Go.Abs
def updS (t : Int) (i : Nat) (s : Int) (c : List Int) : List Int := c.set i (IntKind.i64.wrap (gI c i + IntKind.i64.wrap (s * t)))
def swS (ks ps : List Nat) (l : List Int) : Nat → List Int
  | 0 => List.replicate ks.length 0
  | p + 1 => sdS (gN ps p) ks (updS (gI l p)) (swS ks ps l p) ks.length
theorem sdS_len {q : Nat} {ks : List Nat} {upd : Nat → Int → List Int → List Int} {c : List Int} {m : Nat} (hc : c.length = m) (hu : ∀ i s c, c.length = m → (upd i s c).length = m) : ∀ i, (sdS q ks upd c i).length = m
  | 0 => hc
  | i + 1 => by
    rw [sdS]
    split
    · exact sdS_len hc hu i
    · exact hu _ _ _ (sdS_len hc hu i)
theorem swS_len {ks ps : List Nat} {l : List Int} : ∀ p, (swS ks ps l p).length = ks.length
  | 0 => by simp [swS]
  | p + 1 => sdS_len (swS_len p) (fun i s c h => by simp [updS, h]) _
section
variable {rows : List Row} {N : Nat} {ks ps : List Nat} {v : AV} {l : List Int}
set_option maxHeartbeats 16000000 in
theorem Swirl_loop {ev pv n0 : AV} (hok : GOK N ks ps) (he : El rows 2 ev (nums .i64 (eC ks)) ks.length) (hp : El rows 3 pv (nums .i64 (pC ps)) ps.length) (h : IsL rows v l) (hl : l.length = ps.length) {r : AV × List Row × Nat → Prop} {R1 : List Row} (o0 : n0.one = true)
    (hR1 : ∃ y, R1 = rows ++ [.cells [n0, ev, pv], y, .cells [.slice (rows.length + 1) 0 ks.length (.at_ ks.length)]])
    (hk : ∀ R, Sm (rows.length + 3) (rows.length + 1) R1 R → R[rows.length + 1]? = some (.cells (nums .i64 (swS ks ps l ps.length))) → r (.tup [.slice (rows.length + 1) 0 ks.length (.at_ ks.length), .int .i64 0], R, rows.length)) :
    ∀ (d p : Nat) (R : List Row), ps.length - p = d → p ≤ ps.length → Sm (rows.length + 3) (rows.length + 1) R1 R → R[rows.length + 1]? = some (.cells (nums .i64 (swS ks ps l p))) →
    Lc38l2 F (.fn [.t 4, .t 5]) (.ptr rows.length 0) .nilslice (.int .i64 0) (.ptr (rows.length + 2) 0) v (.int .i64 ps.length) (.int .i64 p) R rows.length r := by
  have hek := hok.ek
  have hpk := hok.pk
  obtain ⟨y, hR1⟩ := hR1
  have hS0 : Sm rows.length (rows.length + 1) rows R1 := by rw [hR1]; exact Sm_app (Sm_refl (Nat.le_refl _)) _
  have b0 : row? R1 rows.length = some [n0, ev, pv] := by rw [hR1]; simp [row?]
  have b2 : row? R1 (rows.length + 2) = some [.slice (rows.length + 1) 0 ks.length (.at_ ks.length)] := by rw [hR1]; simp [row?]
  have hev : ev = .nilslice ∨ sid ev < rows.length := El_lt he
  have heo : sid ev ≠ rows.length + 1 := by
    rcases hev with e | e
    · subst e
      show 0 ≠ _
      omega
    · omega
  intro d
  induction d with
  | zero =>
    intro p R hd h1 hS hC
    have hi : p = ps.length := by omega
    subst hi
    have hb2 := Sm_row hS b2 (by omega) (by omega)
    have := hk R hS hC
    unfold Lc38l2
    simp [hb2]
    exact this
  | succ d ih =>
    intro p R hd h1 hS hC
    have hi : p < ps.length := by omega
    have hw : IntKind.i64.wrap ((p : Int) + 1) = ((p + 1 : Nat) : Int) := by rw [wrap64 (by omega) (by omega)]; omega
    have hRl := hS.1
    have hSr : Sm rows.length (rows.length + 1) rows R := Sm_trans hS0 hS (by omega)
    have he' : El R 2 ev (nums .i64 (eC ks)) ks.length := Sm_El hSr he (by rcases hev with e | e; exact .inl e; exact .inr ⟨e, by omega⟩)
    have hp' : El R 3 pv (nums .i64 (pC ps)) ps.length := Sm_El hSr hp (by rcases El_lt hp with e | e; exact .inl e; exact .inr ⟨e, by omega⟩)
    have h' : IsL R v l := Sm_El hSr h (by rcases El_lt h with e | e; exact .inl e; exact .inr ⟨e, by omega⟩)
    have hb0 := Sm_row hS b0 (by omega) (by omega)
    have hb2 := Sm_row hS b2 (by omega) (by omega)
    have one1 := El_one he
    have one2 := El_one hp
    obtain ⟨T, hT⟩ : ∃ T, T = gI l p := ⟨_, rfl⟩
    -- the rows at the range
    obtain ⟨Rb, hRb⟩ : ∃ Rb, Rb = R ++ [.cells [.int .i64 T], .cells [n0, ev, pv], .cells [.int .i64 p]] := ⟨_, rfl⟩
    have hRbl : Rb.length = R.length + 3 := by rw [hRb]; simp
    have hSb : Sm (rows.length + 3) (rows.length + 1) R1 Rb := by rw [hRb]; exact Sm_app hS _
    have hlT : row? Rb R.length = some [.int .i64 T] := by rw [hRb]; simp [row?]
    have hrf : ∀ (sl : List (Nat × AV)), lk sl 33 = .func 93 [.ptr (R.length + 1) 0, .ptr (R.length + 2) 0] → lk sl 7 = .ptr (rows.length + 2) 0 → lk sl 9 = .ptr R.length 0 →
        lk sl 2 = .ptr rows.length 0 → lk sl 4 = .nilslice → lk sl 5 = .int .i64 0 → lk sl 24 = v → lk sl 25 = .int .i64 ps.length → lk sl 26 = .int .i64 p →
        Ex F (.fn [.t 4, .t 5]) (.code (.rf (.t 33) [34, 35] c38f4a c38f4b) :: .inBlock 2 :: .inBlock 1 :: .code c38k3 :: .inLoop c38l2 :: .inBlock 0 :: .code c38s1 :: []) ⟨mk 47 sl, Rb, rows.length⟩ r := by
      intro sl s33 s7 s9 s2 s4 s5 s24 s25 s26
      refine sides_rf (ks := ks) (ps := ps) (p := p) (ga := R.length + 1) (pa := R.length + 2) (o := rows.length + 1) (n0 := n0) (ev := ev) (pv := pv) (upd := updS T) (c0 := swS ks ps l p) hek hi (by rw [mk_getO _ _ _ (by omega)]; exact s33)
        (by rw [hRb]; simp [row?]) (by rw [hRb]; simp [row?]) (by rw [hRb]; exact El_app he' _) (by rw [hRb]; exact El_app hp' _) (by omega) (by omega) heo (by rw [hRb, List.getElem?_append_left (by omega)]; exact hC) ?_ ?_
      · intro Q i hSQ hM hCQ hi2 hsg
        have hQl := hSQ.1
        have hML := (List.getElem?_eq_some_iff.1 hM).1
        have hlen := sdS_len (q := gN ps p) (ks := ks) (upd := updS T) (swS_len (ks := ks) (ps := ps) (l := l) p) (fun i s c h => by simp [updS, h]) i
        generalize hc : sdS (gN ps p) ks (updS T) (swS ks ps l p) i = c at *
        generalize sgn (gN ps p) (gN ks i) = s at *
        rw [mk_putL2, uc38f4a]
        simp only [Ex_seq, uc38k7, uc38k6]
        rw [Ex_rfBegin]
        refine ⟨none, mk 47 sl, [34, 35], c38f4a, c38f4b, hM, ?_⟩
        have hlwM : lower Q.length Rb.length = Rb.length := by unfold lower; split <;> omega
        have hlwo : lower Rb.length (rows.length + 1) = rows.length + 1 := by unfold lower; split <;> omega
        have hlwe : lower (rows.length + 1) Rb.length = rows.length + 1 := by unfold lower; split <;> omega
        rw [hlwM]
        obtain ⟨Q1, hQ1⟩ : ∃ Q1, Q1 = Q.set Rb.length (.loop .busy none (mk 47 sl) [34, 35] c38f4a c38f4b) := ⟨_, rfl⟩
        rw [← hQ1]
        have hS1 : Sm Rb.length (rows.length + 1) Rb Q1 := by rw [hQ1]; exact Sm_set hSQ (.inr (Nat.le_refl _))
        have hS2 := Sm_trans hSb hS1 (by omega)
        have a2 := Sm_row hS2 b2 (by omega) (by omega)
        have a9 := Sm_row hS1 hlT (by omega) (by omega)
        have hCo : Q1[rows.length + 1]? = some (.cells (nums .i64 c)) := by rw [hQ1, List.getElem?_set_ne (by omega)]; exact hCQ
        have hrow : row? Q1 (rows.length + 1) = some (nums .i64 c) := by unfold row?; rw [hCo]
        have hcel : cells? Q1 (rows.length + 1) = some (nums .i64 c) := by unfold cells?; rw [hCo]
        have hil : i < c.length := by omega
        have hu : c.set i (IntKind.i64.wrap (c[i] + IntKind.i64.wrap (s * T))) = updS T i s c := by simp [updS, gI_eq hil]
        have hnl : (nums .i64 c).length = ks.length := by simp [nums, hlen]
        have hM1 : (Q1.set (rows.length + 1) (.cells (nums .i64 (updS T i s c))))[Rb.length]? = some (.loop .busy none (mk 47 sl) [34, 35] c38f4a c38f4b) := by
          rw [List.getElem?_set_ne (by omega), hQ1, List.getElem?_set_self hML]
        have hput := round_put (R := Q) (M := Rb.length) (o := rows.length + 1) (x := .cells (nums .i64 (updS T i s c))) (y := .loop .busy none (mk 47 sl) [34, 35] c38f4a c38f4b) hM (by omega)
        rw [← hQ1] at hput
        simp [s7, s9, a2, a9, hrow, hil, hi2, hcel, hnl, hu, hlwo]
        rw [round_end hM1, hlwe]
        refine ⟨rfl, hput.1, hput.2.1, hput.2.2, ?_⟩
        show rows.length + 1 = min Rb.length (rows.length + 1)
        omega
      · intro Q hSQ hCQ
        have hS2 := Sm_trans hSb hSQ (by omega)
        have := ih (p + 1) Q (by omega) (by omega) hS2 (by rw [swS, ← hT]; exact hCQ)
        simp [s2, s4, s5, s7, s24, s25, s26, hw]
        simpa using this
    have ix := idxW h' (show p < l.length by omega)
    have ld := ldW1 h' (show p < l.length by omega)
    rw [Nat.mul_one] at ix
    rw [← hT] at ld
    have hb0' := row?_old hb0 [.cells [.int .i64 T]]
    have hsd := sides_ret (rows := R ++ [.cells [.int .i64 T]]) (n0 := n0) (ev := ev) (pv := pv) (i := p) o0 one1 one2
    have hlw : lower rows.length R.length = rows.length := lower_ge' (by omega)
    have e1 : R ++ [Row.cells [.int .i64 T]] ++ [.cells [n0, ev, pv], .cells [.int .i64 p]] = Rb := by rw [hRb]; simp
    rw [e1] at hsd
    unfold Lc38l2
    simp [hi, ix, ld, AV.cells, hlw, hb0', seg, hsd]
    refine hrf _ ?_ ?_ ?_ ?_ ?_ ?_ ?_ ?_ ?_ <;> simp
end
end Go.Abs

namespace Go.Abs
theorem Sm_split {B R : List Row} {o : Nat} (h : Sm B.length o B R) (ho : B.length ≤ o) : ∃ L, R = B ++ L := by
  refine ⟨R.drop B.length, ?_⟩
  apply List.ext_getElem?
  intro i
  by_cases c : i < B.length
  · rw [List.getElem?_append_left c]
    exact h.2 i c (by omega)
  · rw [List.getElem?_append_right (by omega), List.getElem?_drop]
    congr 1
    omega
section
variable {rows : List Row} {N : Nat} {ks ps : List Nat} {v g : AV} {l : List Int}
set_option maxHeartbeats 4000000 in
theorem Swirl_ret (hg : GRd rows g N ks ps) (h : IsL rows v l) (hl : l.length = ps.length) (hb : ∀ x ∈ l, -100 ≤ x ∧ x ≤ 100) : LRet 38 [g, v] rows (swS ks ps l ps.length) := by
  obtain ⟨ev, pv, rfl, he, hp, _⟩ := hg.eq
  have hok := hg.ok
  have o1 := El_one he
  have o2 := El_one hp
  have hek := hok.ek
  have hpk := hok.pk
  have ho := open_ok (hg.app [.cells [.int .i64 N, ev, pv]]) (IsL_app h [.cells [.int .i64 N, ev, pv]]) hb (f := 77) (n := ps.length) hl (by omega) (g' := .agg [.int .i64 N, ev, pv]) (fun L => plates_ret (El_app (El_app hp _) L) rfl o1)
  rw [show ((77 : Nat) : Int) = 77 from rfl] at ho
  let Q : AV × List Row × Nat → Prop := fun r => ∃ v X, fin rows r.1 r.2.1 r.2.2 = (.tup [v, .int .i64 0], rows ++ X, none) ∧ X.all (Row.under 0) = true ∧ IsL (rows ++ X) v (swS ks ps l ps.length) ∧ Cp 1 v
  have main : Ex F (.fn [.t 4, .t 5]) [.code c38b] ⟨mk 47 [(0, .agg [.int .i64 N, ev, pv]), (1, v)], rows, rows.length⟩ Q := by
    have hloop := Swirl_loop (rows := rows) (n0 := .int .i64 N) (r := Q) (R1 := rows ++ [.cells [.int .i64 N, ev, pv], .cells (nums .i64 (List.replicate ks.length 0)), .cells [.slice (rows.length + 1) 0 ks.length (.at_ ks.length)]]) hok he hp h hl rfl ⟨_, rfl⟩ (fun R hS hC => by
      have hS1 : Sm rows.length (rows.length + 1) rows R := Sm_trans (Sm_app (Sm_refl (Nat.le_refl _)) _) hS (by omega)
      obtain ⟨L, rfl⟩ := Sm_split hS1 (by omega)
      have hL : L[1]? = some (.cells (nums .i64 (swS ks ps l ps.length))) := by
        rw [List.getElem?_append_right (by omega), Nat.add_sub_cancel_left] at hC; exact hC
      have hA : Acc rows L 1 (.at_ ks.length) (.slice (rows.length + 1) 0 ks.length (.at_ ks.length)) (nums .i64 (swS ks ps l ps.length)) ks.length := ⟨by simp [nums, swS_len], .inr ⟨1, rfl, hL⟩⟩
      obtain ⟨v', X, e, h1, h2, h3, h4⟩ := Acc_fin (e := 0) (kd := .i64) hA (.inr ⟨_, rfl, Nat.le_refl _⟩)
      exact ⟨v', X, e, h1, h2, h4⟩) _ 0 (rows ++ [.cells [.int .i64 N, ev, pv], .cells (nums .i64 (List.replicate ks.length 0)), .cells [.slice (rows.length + 1) 0 ks.length (.at_ ks.length)]]) rfl (Nat.zero_le _) (Sm_refl (by simp)) (by simp [swS])
    have ln := evP_lenE (El_app he [.cells [.int .i64 N, ev, pv]])
    have hlim : (ks.length : Int) ≤ lim := by simp [lim]; omega
    have ll := fun L => lenL0 (IsL_app h L)
    rw [hl] at ll
    have hlw : lower rows.length (rows.length + 2) = rows.length := lower_ge' (by omega)
    simp [AV.cells, o1, o2, seg, ho, boundOf, hlim, rep_nums, ln, ll, hlw]
    simpa using hloop
  obtain ⟨n1, q, e, v', X, h1, h2⟩ := main
  exact ⟨v', X, i38 F38 ⟨n1, q, e, h1⟩, h2⟩
end
end Go.Abs

namespace Go.Abs
def updT (f : List Int) (i : Nat) (s : Int) (c : List Int) : List Int := [IntKind.i64.wrap (gI c 0 + IntKind.i64.wrap (s * gI f i))]
def tuS (ks : List Nat) (f : List Int) (q : Nat) : Int := gI (sdS q ks (updT f) [0] ks.length) 0
theorem tu_sd {ks : List Nat} {f : List Int} {q i : Nat} : ∃ x, sdS q ks (updT f) [0] i = [x] := by
  have h := sdS_len (q := q) (ks := ks) (upd := updT f) (c := [0]) (m := 1) rfl (fun _ _ _ _ => rfl) i
  generalize sdS q ks (updT f) [0] i = c at h
  match c, h with
  | [x], _ => exact ⟨x, rfl⟩
section
variable {rows : List Row} {N : Nat} {ks ps : List Nat} {v g : AV} {l : List Int}
theorem turns_take {i : Nat} (h : i < ps.length) : (ps.map (tuS ks l)).take (i + 1) = (ps.map (tuS ks l)).take i ++ [tuS ks l (gN ps i)] := by
  rw [List.take_add_one, List.getElem?_eq_getElem (by simpa using h)]
  simp [gN_eq h]
set_option maxHeartbeats 16000000 in
theorem Turns_loop {ev pv n0 : AV} (hok : GOK N ks ps) (he : El rows 2 ev (nums .i64 (eC ks)) ks.length) (hp : El rows 3 pv (nums .i64 (pC ps)) ps.length) (h : IsL rows v l) (hl : l.length = ks.length) {r : AV × List Row × Nat → Prop} {R1 : List Row} (o0 : n0.one = true)
    (hR1 : R1 = rows ++ [.cells [n0, ev, pv], .cells [v]])
    (hk : ∀ L x7, Acc rows L 1 (.op 1) x7 (nums .i64 (ps.map (tuS ks l))) ps.length → r (.tup [x7, .int .i64 0], rows ++ L, rows.length)) :
    ∀ (d p : Nat) (L : List Row) (x7 : AV), ps.length - p = d → p ≤ ps.length → Sm (rows.length + 2) rows.length.succ.succ R1 (rows ++ L) → (x7 = .nilslice ∨ rows.length + 2 ≤ sid x7) → Acc rows L 1 (.op 1) x7 (nums .i64 ((ps.map (tuS ks l)).take p)) p →
    Lc40l2 F (.fn [.t 4, .t 5]) (.ptr rows.length 0) (.ptr (rows.length + 1) 0) .nilslice (.int .i64 0) x7 (.int .i64 ps.length) (.int .i64 p) (rows ++ L) rows.length r := by
  have hek := hok.ek
  have hpk := hok.pk
  have b0 : row? R1 rows.length = some [n0, ev, pv] := by rw [hR1]; simp [row?]
  have b1 : row? R1 (rows.length + 1) = some [v] := by rw [hR1]; simp [row?]
  have hev : ev = .nilslice ∨ sid ev < rows.length := El_lt he
  intro d
  induction d with
  | zero =>
    intro p L x7 hd h1 hS hx7 hA
    have hi : p = ps.length := by omega
    subst hi
    rw [List.take_of_length_le (by simp)] at hA
    have := hk L x7 hA
    unfold Lc40l2
    simp
    exact this
  | succ d ih =>
    intro p L x7 hd h1 hS hx7 hA
    have hi : p < ps.length := by omega
    have hw : IntKind.i64.wrap ((p : Int) + 1) = ((p + 1 : Nat) : Int) := by rw [wrap64 (by omega) (by omega)]; omega
    have hRl := hS.1
    have he' := El_app he L
    have hp' := El_app hp L
    have hb0 := Sm_row hS b0 (by omega) (by omega)
    have one1 := El_one he
    have one2 := El_one hp
    have htt := turns_take (ks := ks) (l := l) hi
    obtain ⟨R, hR⟩ : ∃ R, R = rows ++ L := ⟨_, rfl⟩
    rw [← hR] at hS hRl he' hp' hb0
    have hRR : R.length = rows.length + L.length := by rw [hR]; simp
    -- the rows at the range
    obtain ⟨Rb, hRb⟩ : ∃ Rb, Rb = R ++ [.cells [.int .i64 0], .cells [n0, ev, pv], .cells [.int .i64 p]] := ⟨_, rfl⟩
    have hRbl : Rb.length = R.length + 3 := by rw [hRb]; simp
    have hSb : Sm (rows.length + 2) rows.length.succ.succ R1 Rb := by rw [hRb]; exact Sm_app hS _
    have hC0 : Rb[R.length]? = some (.cells (nums .i64 [0])) := by rw [hRb]; simp [nums]
    have hLb : Rb = rows ++ (L ++ [.cells [.int .i64 0], .cells [n0, ev, pv], .cells [.int .i64 p]]) := by rw [hRb, hR]; simp
    have hrf : ∀ (sl : List (Nat × AV)), lk sl 28 = .func 93 [.ptr (R.length + 1) 0, .ptr (R.length + 2) 0] → lk sl 7 = x7 → lk sl 9 = .ptr R.length 0 →
        lk sl 2 = .ptr rows.length 0 → lk sl 3 = .ptr (rows.length + 1) 0 → lk sl 4 = .nilslice → lk sl 5 = .int .i64 0 → lk sl 22 = .int .i64 ps.length → lk sl 23 = .int .i64 p →
        Ex F (.fn [.t 4, .t 5]) (.code (.rf (.t 28) [29, 30] c40f5a c40f5b) :: .inBlock 2 :: .code c40k4 :: .inBlock 1 :: .code c40k3 :: .inLoop c40l2 :: .inBlock 0 :: .code c40s1 :: []) ⟨mk 45 sl, Rb, rows.length⟩ r := by
      intro sl s28 s7 s9 s2 s3 s4 s5 s22 s23
      refine sides_rf (ks := ks) (ps := ps) (p := p) (ga := R.length + 1) (pa := R.length + 2) (o := R.length) (n0 := n0) (ev := ev) (pv := pv) (upd := updT l) (c0 := [0]) hek hi (by rw [mk_getO _ _ _ (by omega)]; exact s28)
        (by rw [hRb]; simp [row?]) (by rw [hRb]; simp [row?]) (by rw [hRb]; exact El_app he' _) (by rw [hRb]; exact El_app hp' _) (by omega) (by omega) (by
          rcases hev with e | e
          · subst e
            show 0 ≠ _
            omega
          · omega) hC0 ?_ ?_
      · intro Q i hSQ hM hCQ hi2 hsg
        have hQl := hSQ.1
        have hML := (List.getElem?_eq_some_iff.1 hM).1
        obtain ⟨c, hc⟩ := tu_sd (ks := ks) (f := l) (q := gN ps p) (i := i)
        rw [hc] at hCQ ⊢
        generalize sgn (gN ps p) (gN ks i) = s at *
        rw [mk_putL2, uc40f5a]
        simp only [Ex_seq, uc40k8, uc40k7]
        rw [Ex_rfBegin]
        refine ⟨none, mk 45 sl, [29, 30], c40f5a, c40f5b, hM, ?_⟩
        have hlwM : lower Q.length Rb.length = Rb.length := by unfold lower; split <;> omega
        have hlwo : lower Rb.length R.length = R.length := by unfold lower; split <;> omega
        have hlwe : lower R.length Rb.length = R.length := by unfold lower; split <;> omega
        rw [hlwM]
        obtain ⟨Q1, hQ1⟩ : ∃ Q1, Q1 = Q.set Rb.length (.loop .busy none (mk 45 sl) [29, 30] c40f5a c40f5b) := ⟨_, rfl⟩
        rw [← hQ1]
        have hS1 : Sm Rb.length R.length Rb Q1 := by rw [hQ1]; exact Sm_set hSQ (.inr (Nat.le_refl _))
        have a3 : row? Q1 (rows.length + 1) = some [v] := Sm_row hS1 (Sm_row hSb b1 (by omega) (by omega)) (by omega) (by omega)
        have hQr : Sm rows.length R.length rows Q1 := Sm_trans (by rw [hLb]; exact Sm_app (Sm_refl (Nat.le_refl _)) _) hS1 (by omega)
        have h' : IsL Q1 v l := Sm_El hQr h (by rcases El_lt h with e | e; exact .inl e; exact .inr ⟨e, by omega⟩)
        have hCo : Q1[R.length]? = some (.cells (nums .i64 [c])) := by rw [hQ1, List.getElem?_set_ne (by omega)]; exact hCQ
        have hrow : row? Q1 R.length = some [.int .i64 c] := by unfold row?; rw [hCo]; rfl
        have hcel : cells? Q1 R.length = some [.int .i64 c] := by unfold cells?; rw [hCo]; rfl
        have ix := idxW h' (show i < l.length by omega)
        have ld := ldW1 h' (show i < l.length by omega)
        rw [Nat.mul_one] at ix
        have hnu : ∀ x, Row.cells [AV.int .i64 x] = .cells (nums .i64 [x]) := fun x => rfl
        have hM1 : (Q1.set R.length (.cells [.int .i64 (IntKind.i64.wrap (c + IntKind.i64.wrap (s * gI l i)))]))[Rb.length]? = some (.loop .busy none (mk 45 sl) [29, 30] c40f5a c40f5b) := by
          rw [List.getElem?_set_ne (by omega), hQ1, List.getElem?_set_self hML]
        have hput := round_put (R := Q) (M := Rb.length) (o := R.length) (x := .cells [.int .i64 (IntKind.i64.wrap (c + IntKind.i64.wrap (s * gI l i)))]) (y := .loop .busy none (mk 45 sl) [29, 30] c40f5a c40f5b) hM (by omega)
        rw [← hQ1] at hput
        simp [s3, s9, a3, hrow, ix, ld, hcel, hlwo]
        rw [round_end hM1, hlwe]
        refine ⟨rfl, hput.1, hput.2.1, hput.2.2, ?_⟩
        show R.length = min Rb.length R.length
        omega
      · intro Q hSQ hCQ
        have hSQr : Sm rows.length R.length rows Q := Sm_trans (by rw [hLb]; exact Sm_app (Sm_refl (Nat.le_refl _)) _) hSQ (by omega)
        obtain ⟨L', rfl⟩ := Sm_split hSQr (by omega)
        obtain ⟨c, hc⟩ := tu_sd (ks := ks) (f := l) (q := gN ps p) (i := ks.length)
        rw [hc] at hCQ
        have htu : tuS ks l (gN ps p) = c := by unfold tuS; rw [hc]; rfl
        rw [htu] at htt
        have hrow : row? (rows ++ L') R.length = some [.int .i64 c] := by unfold row?; rw [hCQ]; rfl
        have hSR : Sm R.length R.length (rows ++ L) (rows ++ L') := Sm_trans (by rw [← hR, hRb]; exact Sm_app (Sm_refl (Nat.le_refl _)) _) hSQ (by omega)
        have hA0 := Acc_Sm hA hSR (by omega) (by omega)
        have hSQ1 : Sm (rows.length + 2) rows.length.succ.succ R1 (rows ++ L') := ⟨by have := hSR.1; omega, fun id a1 a2 => (hSR.2 id (by omega) (by omega)).trans (by rw [← hR]; exact hS.2 id a1 a2)⟩
        obtain ⟨x7', L2, ev2, hA2, hid, hsid, hLl⟩ := Acc_more2 (low := rows.length) (b := 8) (x := [.int .i64 c]) hA0 rfl (by omega) (by omega) (Nat.le_refl _)
        rw [show nums .i64 ((ps.map (tuS ks l)).take p) ++ [.int .i64 c] = nums .i64 ((ps.map (tuS ks l)).take (p + 1)) from by rw [htt, ← nums_app]; rfl] at hA2
        have := ih (p + 1) L2 x7' (by omega) (by omega) ⟨by have := hSQ1.1; simp at this ⊢; omega, fun id a1 a2 => (hid id (by have := hSQ1.1; simp at this; omega) (by rcases hx7 with e | e; exact .inl e; exact .inr (by omega))).trans (hSQ1.2 id a1 a2)⟩ (.inr (by have := hSQ1.1; simp at this; omega)) hA2
        simp [s2, s3, s4, s5, s7, s9, s22, s23, hw, hrow, fillA, splice, ev2]
        simpa using this
    have hb0' := row?_old hb0 [.cells [.int .i64 0]]
    have hsd := sides_ret (rows := R ++ [.cells [.int .i64 0]]) (n0 := n0) (ev := ev) (pv := pv) (i := p) o0 one1 one2
    have hlw : lower rows.length R.length = rows.length := lower_ge' (by omega)
    have e1 : R ++ [Row.cells [.int .i64 0]] ++ [.cells [n0, ev, pv], .cells [.int .i64 p]] = Rb := by rw [hRb]; simp
    rw [e1] at hsd
    unfold Lc40l2
    rw [← hR]
    simp [hi, AV.cells, hlw, hb0', seg, hsd]
    refine hrf _ ?_ ?_ ?_ ?_ ?_ ?_ ?_ ?_ ?_ <;> simp
set_option maxHeartbeats 4000000 in
theorem Turns_ret (hg : GRd rows g N ks ps) (h : IsL rows v l) (hl : l.length = ks.length) (hb : ∀ x ∈ l, -100 ≤ x ∧ x ≤ 100) : LRet 40 [g, v] rows (ps.map (tuS ks l)) := by
  obtain ⟨ev, pv, rfl, he, hp, _⟩ := hg.eq
  have hok := hg.ok
  have o1 := El_one he
  have o2 := El_one hp
  have o3 := El_one h
  have hek := hok.ek
  have hpk := hok.pk
  have ho := open_ok (hg.app [.cells [.int .i64 N, ev, pv], .cells [v]]) (IsL_app h [.cells [.int .i64 N, ev, pv], .cells [v]]) hb (f := 67) (n := ks.length) hl (by omega) (g' := .agg [.int .i64 N, ev, pv]) (fun L => edges_ret (El_app (El_app he _) L) rfl o2)
  rw [show ((67 : Nat) : Int) = 67 from rfl] at ho
  let Q : AV × List Row × Nat → Prop := fun r => ∃ v X, fin rows r.1 r.2.1 r.2.2 = (.tup [v, .int .i64 0], rows ++ X, none) ∧ X.all (Row.under 0) = true ∧ IsL (rows ++ X) v (ps.map (tuS ks l)) ∧ Cp 1 v
  have main : Ex F (.fn [.t 4, .t 5]) [.code c40b] ⟨mk 45 [(0, .agg [.int .i64 N, ev, pv]), (1, v)], rows, rows.length⟩ Q := by
    have hloop := Turns_loop (rows := rows) (n0 := .int .i64 N) (r := Q) hok he hp h hl rfl rfl (fun L x7 hA => by
      obtain ⟨v', X, e, h1, h2, h3, h4⟩ := Acc_fin (e := 0) (kd := .i64) hA (.inl rfl)
      exact ⟨v', X, e, h1, h2, h4⟩) _ 0 [.cells [.int .i64 N, ev, pv], .cells [v]] .nilslice rfl (Nat.zero_le _) (Sm_refl (by simp)) (.inl rfl) Acc_nil
    have ln := evP_lenE (El_app hp [.cells [.int .i64 N, ev, pv], .cells [v]])
    have hvc : v.cells = [v] := by
      rcases El_cases h with ⟨rfl, _⟩ | ⟨id, off, c, vs, rfl, _⟩ <;> rfl
    simp [o1, o2, o3, hvc, seg, ho, boundOf, ln]
    simpa using hloop
  obtain ⟨n1, q, e, v', X, h1, h2⟩ := main
  exact ⟨v', X, i40 F40 ⟨n1, q, e, h1⟩, h2⟩
end
end Go.Abs

namespace Go.Abs
theorem edge_at {ks : List Nat} {a b : Nat} (hb : b < 6) (h : a * 6 + b ∈ ks) : ∃ i, i < ks.length ∧ pix (eC ks) a b ks.length 0 = i ∧ gN ks i = a * 6 + b := by
  have h0 := (pix_in (ks := ks) (a := a) hb).2 h
  obtain ⟨k, h1, _, h2, h3, h4⟩ := pix_hit ks.length 0 h0
  have hk : k < ks.length := by omega
  obtain ⟨e1, e2⟩ := eC_a hk
  rw [e1] at h3
  rw [e2] at h4
  exact ⟨k, hk, h1, by omega⟩
theorem gN_inj {l : List Nat} (h : l.Pairwise (· < ·)) {i j : Nat} (hi : i < l.length) (hj : j < l.length) (e : gN l i = gN l j) : i = j := by
  rcases Nat.lt_trichotomy i j with c | c | c
  · have := gN_lt h c hj; omega
  · exact c
  · have := gN_lt h c hi; omega
theorem gN_lt' {l : List Nat} (h : l.Pairwise (· < ·)) {i j : Nat} (hi : i < l.length) (hj : j < l.length) (e : gN l i < gN l j) : i < j := by
  rcases Nat.lt_trichotomy i j with c | c | c
  · exact c
  · subst c; omega
  · have := gN_lt h c hi; omega
structure Sides (ks : List Nat) (q i1 i2 i3 : Nat) : Prop where
  l13 : i1 < i3
  l32 : i3 < i2
  l2 : i2 < ks.length
  p1 : pix (eC ks) ((q / 36 : Nat) : Int) ((q / 6 % 6 : Nat) : Int) ks.length 0 = i1
  p2 : pix (eC ks) ((q / 6 % 6 : Nat) : Int) ((q % 6 : Nat) : Int) ks.length 0 = i2
  p3 : pix (eC ks) ((q / 36 : Nat) : Int) ((q % 6 : Nat) : Int) ks.length 0 = i3
  s : ∀ i, i < ks.length → sgn q (gN ks i) = if i = i1 ∨ i = i2 then 1 else if i = i3 then -1 else 0
theorem sides_at {N : Nat} {ks ps : List Nat} (hok : GOK N ks ps) {q : Nat} (hq : q ∈ ps) : ∃ i1 i2 i3, Sides ks q i1 i2 i3 := by
  obtain ⟨h1, h2, h3, k1, k2, k3⟩ := hok.pe q hq
  have hm1 : q / 6 % 6 < 6 := Nat.mod_lt _ (by omega)
  have hm2 : q % 6 < 6 := Nat.mod_lt _ (by omega)
  obtain ⟨i1, a1, a2, a3⟩ := edge_at hm1 k1
  obtain ⟨i3, c1, c2, c3⟩ := edge_at hm2 k2
  obtain ⟨i2, b1, b2, b3⟩ := edge_at hm2 k3
  refine ⟨i1, i2, i3, gN_lt' hok.es a1 c1 (by omega), gN_lt' hok.es c1 b1 (by omega), b1, a2, b2, c2, fun i hi => ?_⟩
  have e1 : i = i1 ↔ gN ks i = q / 36 * 6 + q / 6 % 6 := ⟨fun e => by rw [e, a3], fun e => gN_inj hok.es hi a1 (by omega)⟩
  have e2 : i = i2 ↔ gN ks i = q / 6 % 6 * 6 + q % 6 := ⟨fun e => by rw [e, b3], fun e => gN_inj hok.es hi b1 (by omega)⟩
  have e3 : i = i3 ↔ gN ks i = q / 36 * 6 + q % 6 := ⟨fun e => by rw [e, c3], fun e => gN_inj hok.es hi c1 (by omega)⟩
  unfold sgn
  have d1 : (gN ks i / 6 = q / 36 ∧ gN ks i % 6 = q / 6 % 6) ↔ i = i1 := by rw [e1]; omega
  have d2 : (gN ks i / 6 = q / 6 % 6 ∧ gN ks i % 6 = q % 6) ↔ i = i2 := by rw [e2]; omega
  have d3 : (gN ks i / 6 = q / 36 ∧ gN ks i % 6 = q % 6) ↔ i = i3 := by rw [e3]; omega
  simp only [d1, d2, d3]
theorem sd_skip {q : Nat} {ks : List Nat} {upd : Nat → Int → List Int → List Int} {c : List Int} {i : Nat} : ∀ d, (∀ j, i ≤ j → j < i + d → sgn q (gN ks j) = 0) → sdS q ks upd c (i + d) = sdS q ks upd c i
  | 0, _ => rfl
  | d + 1, h => by
    rw [← Nat.add_assoc, sdS, if_pos (h (i + d) (by omega) (by omega))]
    exact sd_skip d fun j h1 h2 => h j h1 (by omega)
theorem sd_step {q : Nat} {ks : List Nat} {upd : Nat → Int → List Int → List Int} {c : List Int} {i j : Nat} (hij : i ≤ j) (h : ∀ k, i ≤ k → k < j → sgn q (gN ks k) = 0) (hj : sgn q (gN ks j) ≠ 0) : sdS q ks upd c (j + 1) = upd j (sgn q (gN ks j)) (sdS q ks upd c i) := by
  rw [sdS, if_neg hj]
  have := sd_skip (q := q) (ks := ks) (upd := upd) (c := c) (i := i) (j - i) fun k h1 h2 => h k h1 (by omega)
  rw [show i + (j - i) = j from by omega] at this
  rw [this]
theorem sd_three {ks : List Nat} {q i1 i2 i3 : Nat} (h : Sides ks q i1 i2 i3) (upd : Nat → Int → List Int → List Int) (c : List Int) : sdS q ks upd c ks.length = upd i2 1 (upd i3 (-1) (upd i1 1 c)) := by
  obtain ⟨l13, l32, l2, _, _, _, s⟩ := h
  have z : ∀ j, j < ks.length → j ≠ i1 → j ≠ i2 → j ≠ i3 → sgn q (gN ks j) = 0 := fun j hj n1 n2 n3 => by
    rw [s j hj, if_neg (by omega), if_neg n3]
  have s1 : sgn q (gN ks i1) = 1 := by rw [s i1 (by omega), if_pos (.inl rfl)]
  have s2 : sgn q (gN ks i2) = 1 := by rw [s i2 (by omega), if_pos (.inr rfl)]
  have s3 : sgn q (gN ks i3) = -1 := by rw [s i3 (by omega), if_neg (by omega), if_pos rfl]
  have t1 := sd_step (q := q) (ks := ks) (upd := upd) (c := c) (i := 0) (j := i1) (Nat.zero_le _) (fun k h1 h2 => z k (by omega) (by omega) (by omega) (by omega)) (by omega)
  have t3 := sd_step (q := q) (ks := ks) (upd := upd) (c := c) (i := i1 + 1) (j := i3) (by omega) (fun k h1 h2 => z k (by omega) (by omega) (by omega) (by omega)) (by omega)
  have t2 := sd_step (q := q) (ks := ks) (upd := upd) (c := c) (i := i3 + 1) (j := i2) (by omega) (fun k h1 h2 => z k (by omega) (by omega) (by omega) (by omega)) (by omega)
  have t4 := sd_skip (q := q) (ks := ks) (upd := upd) (c := c) (i := i2 + 1) (ks.length - (i2 + 1)) fun k h1 h2 => z k (by omega) (by omega) (by omega) (by omega)
  rw [show i2 + 1 + (ks.length - (i2 + 1)) = ks.length from by omega] at t4
  rw [t4, t2, t3, t1, s1, s2, s3]
  rfl
section
variable {rows : List Row} {N : Nat} {ks ps : List Nat} {v g : AV} {l : List Int}
set_option maxHeartbeats 4000000 in
theorem RSides_ret (hg : GRd rows g N ks ps) {p i1 i2 i3 : Nat} (hp : p < ps.length) (hs : Sides ks (gN ps p) i1 i2 i3) : Ret F 89 [g, .int .i64 p] rows = some (.agg [.int .i64 i1, .int .i64 i2, .int .i64 i3], rows, none) := by
  obtain ⟨ev, pv, rfl, he, hpv, _⟩ := hg.eq
  have hok := hg.ok
  have o1 := El_one he
  have o2 := El_one hpv
  have hek := hok.ek
  obtain ⟨b1, b2, b3, _⟩ := hok.pe _ (gN_mem hp)
  obtain ⟨e1, e2, e3⟩ := pC_a hp
  have p1 := hs.p1
  have p2 := hs.p2
  have p3 := hs.p3
  generalize hqa : gN ps p / 36 = qa at *
  generalize hqb : gN ps p / 6 % 6 = qb at *
  generalize hqc : gN ps p % 6 = qc at *
  have hR : ∀ a b : Nat, a < b → Ret F 60 [.agg [.int .i64 N, ev, pv], .int .i64 a, .int .i64 b] (rows ++ [.cells [.int .i64 N, ev, pv], .cells [.int .i64 0, .int .i64 0, .int .i64 0], .cells [.int .i64 qa, .int .i64 qb, .int .i64 qc]]) = some (.int .i64 (pix (eC ks) a b ks.length 0), rows ++ [.cells [.int .i64 N, ev, pv], .cells [.int .i64 0, .int .i64 0, .int .i64 0], .cells [.int .i64 qa, .int .i64 qb, .int .i64 qc]], none) := fun a b hab => by
    have := Edge_ret (n0 := .int .i64 N) (El_app he [.cells [.int .i64 N, ev, pv], .cells [.int .i64 0, .int .i64 0, .int .i64 0], .cells [.int .i64 qa, .int .i64 qb, .int .i64 qc]]) (by omega) ⟨rfl, o1, o2⟩ (a := a) (b := b)
    rw [this, show min (a : Int) b = a by omega, show max (a : Int) b = b by omega]
  have r1 := hR qa qb b1
  have r2 := hR qb qc b2
  have r3 := hR qa qc (by omega)
  rw [p1] at r1
  rw [p2] at r2
  rw [p3] at r3
  have ix := fun L => idxW (El_app hpv L) hp
  have ld := fun L => ldW3 (El_app hpv L) hp
  rw [e1, e2, e3] at ld
  have i02 : idx? 2 3 = some 2 := rfl
  have i03 : idx? 0 3 = some 0 := rfl
  have i13 : idx? 1 3 = some 1 := rfl
  have hlw1 : lower rows.length (rows.length + 1) = rows.length := lower_ge' (by omega)
  have hlw2 : lower rows.length (rows.length + 2) = rows.length := lower_ge' (by omega)
  refine i89 F89 ?_
  simp [o1, o2, ix, ld, splice, hlw1, hlw2, i02, i03, i13, seg, fillA, r1, r2, r3, Nat.add_assoc, drop_mapL, maskE]
end
end Go.Abs

namespace Go.Abs
theorem gI_set_ne {c : List Int} {i j : Nat} {x : Int} (h : i ≠ j) : gI (c.set i x) j = gI c j := by
  simp only [gI, List.getD_eq_getElem?_getD]
  rw [List.getElem?_set_ne h]
theorem sw_three {c : List Int} {i1 i2 i3 : Nat} {t : Int} (ht : -100 ≤ t ∧ t ≤ 100) (h1 : i1 ≠ i2) (h2 : i1 ≠ i3) (h3 : i2 ≠ i3) :
    ((c.set i1 (IntKind.i64.wrap (gI c i1 + t))).set i2 (IntKind.i64.wrap (gI (c.set i1 (IntKind.i64.wrap (gI c i1 + t))) i2 + t))).set i3 (IntKind.i64.wrap (gI ((c.set i1 (IntKind.i64.wrap (gI c i1 + t))).set i2 (IntKind.i64.wrap (gI (c.set i1 (IntKind.i64.wrap (gI c i1 + t))) i2 + t))) i3 - t)) = updS t i2 1 (updS t i3 (-1) (updS t i1 1 c)) := by
  have w1 : IntKind.i64.wrap (1 * t) = t := by rw [Int.one_mul]; exact wrap64 (by omega) (by omega)
  have w2 : IntKind.i64.wrap (-1 * t) = -t := by rw [wrap64 (by omega) (by omega)]; omega
  unfold updS
  rw [w1, w2]
  generalize c.set i1 (IntKind.i64.wrap (gI c i1 + t)) = c1
  rw [gI_set_ne h3, gI_set_ne (fun e => h3 e.symm), List.set_comm _ _ h3]
  rfl
section
variable {rows : List Row} {N : Nat} {ks ps : List Nat} {v g : AV} {l : List Int}
set_option maxHeartbeats 8000000 in
theorem RSwirl_loop {B : List Row} {ev pv : AV} (hg : GRd B (.agg [.int .i64 N, ev, pv]) N ks ps) (h : IsL B v l) (hl : l.length = ps.length) (hb : ∀ x ∈ l, -100 ≤ x ∧ x ≤ 100) {low : Nat} (hlow : low ≤ B.length) {r : AV × List Row × Nat → Prop} {x5 : AV} {c : Cap} (hne : B.length ≠ sid x5)
    (hk : ∀ (L : List Row), Acc B L 1 c x5 (nums .i64 (swS ks ps l ps.length)) ks.length → r (x5, B ++ L, low)) :
    ∀ (d p : Nat) (L : List Row), ps.length - p = d → p ≤ ps.length → row? (B ++ L) B.length = some [.int .i64 N, ev, pv] → Acc B L 1 c x5 (nums .i64 (swS ks ps l p)) ks.length →
    Lc54l2 F (.fn [.t 4]) v (.ptr B.length 0) x5 (.int .i64 p) (B ++ L) low r := by
  obtain ⟨_, _, e, he, hp, _⟩ := hg.eq
  simp only [AV.agg.injEq, List.cons.injEq, and_true, true_and] at e
  obtain ⟨rfl, rfl⟩ := e
  have hok := hg.ok
  have hek := hok.ek
  have hpk := hok.pk
  intro d
  induction d with
  | zero =>
    intro p L hd h1 hG hA
    have hi : p = ps.length := by omega
    subst hi
    have := hk L hA
    have hp' := El_app hp L
    unfold Lc54l2
    simp [hG, lenW hp']
    exact this
  | succ d ih =>
    intro p L hd h1 hG hA
    have hi : p < ps.length := by omega
    have hw : IntKind.i64.wrap ((p : Int) + 1) = ((p + 1 : Nat) : Int) := by rw [wrap64 (by omega) (by omega)]; omega
    obtain ⟨i1, i2, i3, hs⟩ := sides_at hok (gN_mem hi)
    have hsd := RSides_ret (rows := B ++ L) (hg.app L) hi hs
    have hs2 := hs
    obtain ⟨l13, l32, l2, _⟩ := hs
    have hbt := bd_get hb (i := p) (by omega)
    have hst : swS ks ps l (p + 1) = updS (gI l p) i2 1 (updS (gI l p) i3 (-1) (updS (gI l p) i1 1 (swS ks ps l p))) := by
      rw [swS, sd_three hs2]
    rw [← sw_three hbt (by omega) (by omega) (by omega)] at hst
    have hlt := Acc_lt hA (by omega) (by omega)
    have hA1 := Acc_app hA [.cells [.int .i64 i1, .int .i64 i2, .int .i64 i3]]
    have hE : row? (B ++ (L ++ [.cells [.int .i64 i1, .int .i64 i2, .int .i64 i3]])) (B.length + L.length) = some [.int .i64 i1, .int .i64 i2, .int .i64 i3] := by simp [row?]
    have hG' : row? (B ++ (L ++ [.cells [.int .i64 i1, .int .i64 i2, .int .i64 i3]])) B.length = some [.int .i64 N, ev, pv] := by
      rw [← List.append_assoc]; exact row?_old hG _
    obtain ⟨L1, ev1, hA2, hL1, hR1⟩ := Acc_store (i := i1) (x := IntKind.i64.wrap (gI (swS ks ps l p) i1 + gI l p)) hA1 (by omega) hlow
    have ix1 := Acc_idx hA1 (show i1 < ks.length by omega)
    have ld1 := Acc_ld hA1 (show i1 < ks.length by omega)
    have hE1 := hR1 _ _ (by omega) hE
    have hG1 := hR1 _ _ hne hG'
    generalize hc1 : (swS ks ps l p).set i1 (IntKind.i64.wrap (gI (swS ks ps l p) i1 + gI l p)) = c1 at *
    obtain ⟨L2, ev2, hA3, hL2, hR2⟩ := Acc_store (i := i2) (x := IntKind.i64.wrap (gI c1 i2 + gI l p)) hA2 (by omega) hlow
    have ix2 := Acc_idx hA2 (show i2 < ks.length by omega)
    have ld2 := Acc_ld hA2 (show i2 < ks.length by omega)
    have hE2 := hR2 _ _ (by omega) hE1
    have hG2 := hR2 _ _ hne hG1
    generalize hc2 : c1.set i2 (IntKind.i64.wrap (gI c1 i2 + gI l p)) = c2 at *
    obtain ⟨L3, ev3, hA4, hL3, hR3⟩ := Acc_store (i := i3) (x := IntKind.i64.wrap (gI c2 i3 - gI l p)) hA3 (by omega) hlow
    have ix3 := Acc_idx hA3 (show i3 < ks.length by omega)
    have ld3 := Acc_ld hA3 (show i3 < ks.length by omega)
    have hG3 := hR3 _ _ hne hG2
    rw [← hst] at hA4
    have := ih (p + 1) L3 (by omega) (by omega) hG3 hA4
    have hp' := El_app hp L
    have h1' := IsL_app h (L ++ [.cells [.int .i64 i1, .int .i64 i2, .int .i64 i3]])
    have h2' := IsL_app h L1
    have h3' := IsL_app h L2
    have i02 : idx? 2 3 = some 2 := rfl
    have i03 : idx? 0 3 = some 0 := rfl
    have i13 : idx? 1 3 = some 1 := rfl
    have hlw : lower low (B.length + L.length) = low := lower_ge' (by omega)
    have hpl : p < l.length := by omega
    unfold Lc54l2
    simp (disch := first | omega | (simp; done) | fail) [hG, lenW hp', hi, hsd, seg, splice, hlw, hE, hE1, hE2, i02, i03, i13, idxL0 h1', loadL0 h1', idxL0 h2', loadL0 h2', idxL0 h3', loadL0 h3', ix1, ld1, ev1, ix2, ld2, ev2, ix3, ld3, ev3, hw, -evE_store1]
    simpa using this
set_option maxHeartbeats 4000000 in
theorem RSwirl_ret (hg : GRd rows g N ks ps) (h : IsL rows v l) (hl : l.length = ps.length) (hb : ∀ x ∈ l, -100 ≤ x ∧ x ≤ 100) : LRet1 54 [g, v] rows (swS ks ps l ps.length) := by
  obtain ⟨ev, pv, rfl, he, hp, _⟩ := hg.eq
  have hok := hg.ok
  have o1 := El_one he
  have o2 := El_one hp
  have hek := hok.ek
  let Q : AV × List Row × Nat → Prop := fun r => ∃ v X, fin rows r.1 r.2.1 r.2.2 = (v, rows ++ X, none) ∧ X.all (Row.under 0) = true ∧ IsL (rows ++ X) v (swS ks ps l ps.length) ∧ Cp 1 v
  have main : Ex F (.fn [.t 4]) [.code c54b] ⟨mk 65 [(0, .agg [.int .i64 N, ev, pv]), (1, v)], rows, rows.length⟩ Q := by
    have hA0 := Acc_make (B := rows) (L := [.cells [.int .i64 N, ev, pv]]) (m := ks.length)
    have hloop := RSwirl_loop (B := rows) (low := rows.length) (r := Q) (x5 := .slice (rows.length + 1) 0 ks.length (.at_ ks.length)) (c := .at_ ks.length) hg h hl hb (Nat.le_refl _) (by simp) (fun L hA => by
      obtain ⟨v', X, e, h1, h2, h3, h4⟩ := Acc_fin1 hA (.inr ⟨_, rfl, Nat.le_refl _⟩)
      exact ⟨v', X, e, h1, h2, h4⟩) _ 0 ([.cells [.int .i64 N, ev, pv]] ++ [.cells (nums .i64 (List.replicate ks.length 0))]) rfl (Nat.zero_le _) (by simp [row?]) hA0
    have hlim : (ks.length : Int) ≤ lim := by simp [lim]; omega
    have ln := evP_lenE (El_app he [.cells [.int .i64 N, ev, pv]])
    simp [o1, o2, seg, hlim, ln, rep_nums]
    simpa using hloop
  obtain ⟨n1, q, e, v', X, h1, h2⟩ := main
  exact ⟨v', X, i54 F54 ⟨n1, q, e, h1⟩, h2⟩
theorem tu_val {q i1 i2 i3 : Nat} (hs : Sides ks q i1 i2 i3) (hl : l.length = ks.length) (hb : ∀ x ∈ l, -100 ≤ x ∧ x ≤ 100) : IntKind.i64.wrap (IntKind.i64.wrap (gI l i1 + gI l i2) - gI l i3) = tuS ks l q := by
  unfold tuS
  rw [sd_three hs]
  obtain ⟨l13, l32, l2, _⟩ := hs
  have b1 := bd_get hb (i := i1) (by omega)
  have b2 := bd_get hb (i := i2) (by omega)
  have b3 := bd_get hb (i := i3) (by omega)
  unfold updT
  generalize gI l i1 = a at *
  generalize gI l i2 = b at *
  generalize gI l i3 = c at *
  have g0 : ∀ x : Int, gI [x] 0 = x := fun x => rfl
  simp only [g0]
  rw [wrap64 (n := 1 * a) (by omega) (by omega), wrap64 (n := -1 * c) (by omega) (by omega), wrap64 (n := 1 * b) (by omega) (by omega), wrap64 (n := a + b) (by omega) (by omega), wrap64 (n := a + b - c) (by omega) (by omega),
    wrap64 (n := 0 + 1 * a) (by omega) (by omega), wrap64 (n := 0 + 1 * a + -1 * c) (by omega) (by omega), wrap64 (n := 0 + 1 * a + -1 * c + 1 * b) (by omega) (by omega)]
  omega
set_option maxHeartbeats 8000000 in
theorem RTurns_loop {B : List Row} {ev pv : AV} (hg : GRd B (.agg [.int .i64 N, ev, pv]) N ks ps) (h : IsL B v l) (hl : l.length = ks.length) (hb : ∀ x ∈ l, -100 ≤ x ∧ x ≤ 100) {low : Nat} (hlow : low ≤ B.length) {r : AV × List Row × Nat → Prop} {x5 : AV} {c : Cap} (hne : B.length ≠ sid x5)
    (hk : ∀ (L : List Row), Acc B L 1 c x5 (nums .i64 (ps.map (tuS ks l))) ps.length → r (x5, B ++ L, low)) :
    ∀ (d p : Nat) (L : List Row), ps.length - p = d → p ≤ ps.length → row? (B ++ L) B.length = some [.int .i64 N, ev, pv] → Acc B L 1 c x5 (nums .i64 ((ps.map (tuS ks l)).take p ++ List.replicate d 0)) ps.length →
    Lc55l2 F (.fn [.t 4]) v (.ptr B.length 0) x5 (.int .i64 p) (B ++ L) low r := by
  obtain ⟨_, _, e, he, hp, _⟩ := hg.eq
  simp only [AV.agg.injEq, List.cons.injEq, and_true, true_and] at e
  obtain ⟨rfl, rfl⟩ := e
  have hok := hg.ok
  have hek := hok.ek
  have hpk := hok.pk
  intro d
  induction d with
  | zero =>
    intro p L hd h1 hG hA
    have hi : p = ps.length := by omega
    subst hi
    rw [List.take_of_length_le (by simp), List.replicate_zero, List.append_nil] at hA
    have := hk L hA
    have hp' := El_app hp L
    unfold Lc55l2
    simp [hG, lenW hp']
    exact this
  | succ d ih =>
    intro p L hd h1 hG hA
    have hi : p < ps.length := by omega
    have hw : IntKind.i64.wrap ((p : Int) + 1) = ((p + 1 : Nat) : Int) := by rw [wrap64 (by omega) (by omega)]; omega
    obtain ⟨i1, i2, i3, hs⟩ := sides_at hok (gN_mem hi)
    have hsd := RSides_ret (rows := B ++ L) (hg.app L) hi hs
    have htv := tu_val hs hl hb
    obtain ⟨l13, l32, l2, _⟩ := hs
    have htt := turns_take (ks := ks) (l := l) hi
    generalize hX : tuS ks l (gN ps p) = X at *
    have hlt := Acc_lt hA (by omega) (by omega)
    have hA1 := Acc_app hA [.cells [.int .i64 i1, .int .i64 i2, .int .i64 i3]]
    have hE : row? (B ++ (L ++ [.cells [.int .i64 i1, .int .i64 i2, .int .i64 i3]])) (B.length + L.length) = some [.int .i64 i1, .int .i64 i2, .int .i64 i3] := by simp [row?]
    have hG' : row? (B ++ (L ++ [.cells [.int .i64 i1, .int .i64 i2, .int .i64 i3]])) B.length = some [.int .i64 N, ev, pv] := by
      rw [← List.append_assoc]; exact row?_old hG _
    obtain ⟨L1, ev1, hA2, hL1, hR1⟩ := Acc_store (i := p) (x := X) hA1 hi hlow
    have ix := Acc_idx hA1 hi
    have hG1 := hR1 _ _ hne hG'
    rw [set_fill (by simp; omega), ← htt] at hA2
    have := ih (p + 1) L1 (by omega) (by omega) hG1 hA2
    have hp' := El_app hp L
    have h1' := IsL_app h (L ++ [.cells [.int .i64 i1, .int .i64 i2, .int .i64 i3]])
    have i02 : idx? 2 3 = some 2 := rfl
    have i03 : idx? 0 3 = some 0 := rfl
    have i13 : idx? 1 3 = some 1 := rfl
    have hlw : lower low (B.length + L.length) = low := lower_ge' (by omega)
    unfold Lc55l2
    simp (disch := first | omega | (simp; done) | fail) [hG, lenW hp', hi, hsd, seg, splice, hlw, hE, i02, i03, i13, idxL0 h1', loadL0 h1', htv, ix, ev1, hw, -evE_store1]
    simpa using this
set_option maxHeartbeats 4000000 in
theorem RTurns_ret (hg : GRd rows g N ks ps) (h : IsL rows v l) (hl : l.length = ks.length) (hb : ∀ x ∈ l, -100 ≤ x ∧ x ≤ 100) : LRet1 55 [g, v] rows (ps.map (tuS ks l)) := by
  obtain ⟨ev, pv, rfl, he, hp, _⟩ := hg.eq
  have hok := hg.ok
  have o1 := El_one he
  have o2 := El_one hp
  have hpk := hok.pk
  let Q : AV × List Row × Nat → Prop := fun r => ∃ v X, fin rows r.1 r.2.1 r.2.2 = (v, rows ++ X, none) ∧ X.all (Row.under 0) = true ∧ IsL (rows ++ X) v (ps.map (tuS ks l)) ∧ Cp 1 v
  have main : Ex F (.fn [.t 4]) [.code c55b] ⟨mk 43 [(0, .agg [.int .i64 N, ev, pv]), (1, v)], rows, rows.length⟩ Q := by
    have hA0 := Acc_make (B := rows) (L := [.cells [.int .i64 N, ev, pv]]) (m := ps.length)
    have hloop := RTurns_loop (B := rows) (low := rows.length) (r := Q) (x5 := .slice (rows.length + 1) 0 ps.length (.at_ ps.length)) (c := .at_ ps.length) hg h hl hb (Nat.le_refl _) (by simp) (fun L hA => by
      obtain ⟨v', X, e, h1, h2, h3, h4⟩ := Acc_fin1 hA (.inr ⟨_, rfl, Nat.le_refl _⟩)
      exact ⟨v', X, e, h1, h2, h4⟩) _ 0 ([.cells [.int .i64 N, ev, pv]] ++ [.cells (nums .i64 (List.replicate ps.length 0))]) rfl (Nat.zero_le _) (by simp [row?]) (by simpa using hA0)
    have hlim : (ps.length : Int) ≤ lim := by simp [lim]; omega
    have ln := evP_lenE (El_app hp [.cells [.int .i64 N, ev, pv]])
    simp [o1, o2, seg, hlim, ln, rep_nums]
    simpa using hloop
  obtain ⟨n1, q, e, v', X, h1, h2⟩ := main
  exact ⟨v', X, i55 F55 ⟨n1, q, e, h1⟩, h2⟩
end
end Go.Abs

namespace Go.Abs
theorem lowO_n {n : Nat} : lowO n none = n := rfl
def gA (vs : List AV) (i : Nat) : AV := vs.getD i .any
def gLL (ls : List (List Int)) (i : Nat) : List Int := ls.getD i []
theorem gA_get {vs : List AV} {i : Nat} (h : i < vs.length) : vs[i]? = some (gA vs i) := by
  simp [gA, h]
theorem gLL_get {vs : List (List Int)} {i : Nat} (h : i < vs.length) : vs[i]? = some (gLL vs i) := by
  simp [gLL, h]
def IsLL (rows : List Row) (v : AV) (ls : List (List Int)) : Prop := ∃ vs, El rows 1 v vs ls.length ∧ ∀ i, i < ls.length → IsL rows (gA vs i) (gLL ls i)
theorem lenLL {rows : List Row} {v : AV} {ls : List (List Int)} (h : IsLL rows v ls) (L : List Row) : evP (rows ++ L) (.len 0 (.c v)) = some (.int .i64 ls.length) := by
  obtain ⟨vs, h1, _⟩ := h
  exact evP_lenE (El_app h1 L)
def newL (rows : List Row) (l : List Int) : AV × List Row × Option Nat :=
  match l with
  | [] => (.nilslice, rows, none)
  | x :: l => (.slice rows.length 0 (l.length + 1) (.op 1), rows ++ [.cells (nums .i64 (x :: l))], none)
section
variable {rows : List Row}
theorem ints_loop {a b : AV} {l p : List Int} (ha : IsL rows a l) (hb : IsL rows b p) (hlen : l.length = p.length) (hL : l.length < 4611686018427387904) : ∀ (n i : Nat), l.length - i = n → i ≤ l.length → l.take i = p.take i →
    Lc27l2 F (.fn [.t 4]) a b (.int .i64 i) rows rows.length (fun r => fin rows r.1 r.2.1 r.2.2 = (.bool (decide (l = p)), rows, none)) := by
  intro n
  induction n with
  | zero =>
    intro i hn h1 h2
    have hi : i = l.length := by omega
    have e : l = p := by
      have h3 := h2
      rw [hi, List.take_of_length_le (Nat.le_refl _), List.take_of_length_le (by omega)] at h3
      exact h3
    unfold Lc27l2
    simp [lenL0 ha, hi, e]
  | succ n ih =>
    intro i hn h1 h2
    have hi : i < l.length := by omega
    have hi2 : i < p.length := by omega
    have w : IntKind.i64.wrap ((i : Int) + 1) = i + 1 := wrap64 (by omega) (by omega)
    unfold Lc27l2
    by_cases hne : gI l i = gI p i
    · simp (disch := first | omega | (simp; done) | fail) [lenL0 ha, idxL0 ha, loadL0 ha, idxL0 hb, loadL0 hb, hi, hi2, w, hne]
      have e : l.take (i + 1) = p.take (i + 1) := by
        rw [List.take_add_one, List.take_add_one, h2, gI_get hi, gI_get hi2, hne]
      have := ih (i + 1) (by omega) (by omega) e
      simpa using this
    · have e : l ≠ p := fun e => hne (by rw [e])
      simp (disch := first | omega | (simp; done) | fail) [lenL0 ha, idxL0 ha, loadL0 ha, idxL0 hb, loadL0 hb, hi, hi2, w, hne, e]
theorem ints_ret {a b : AV} {l p : List Int} (ha : IsL rows a l) (hb : IsL rows b p) (hL : l.length < 4611686018427387904) (hP : p.length < 4611686018427387904) : Ret F 27 [a, b] rows = some (.bool (decide (l = p)), rows, none) := by
  refine i27 F27 ?_
  by_cases hlen : l.length = p.length
  · have := ints_loop ha hb hlen hL _ 0 rfl (by omega) rfl
    simp [lenL0 ha, lenL0 hb, hlen]
    simpa using this
  · have e : l ≠ p := fun e => hlen (by rw [e])
    simp [lenL0 ha, lenL0 hb, hlen, e, show ¬ ((l.length : Int) = p.length) from by omega]
end
section
variable {rows : List Row}
theorem seg_nums0 (l : List Int) : seg (nums .i64 l) 0 l.length = some (nums .i64 l) := by
  unfold seg; simp [nums, List.take_of_length_le]
theorem grow_ret {n : Nat} (h0 : 0 < n) (hn : n ≤ 1000000) : Ret F 104 [.nilslice, .int .i64 n] rows = some (.slice rows.length 0 0 (.op 1), rows ++ [.cells (nums .i64 (List.replicate n 0))], none) := by
  have e : nums .i64 (List.replicate n 0) = List.replicate n (AV.int .i64 0) := by
    simp [nums]
  have w0 : IntKind.i64.wrap 0 = 0 := by decide
  have hid : (List.replicate n (AV.int .i64 0)).all (fun v => v.ids.isEmpty) = true := by simp
  have hs : sliceV 1 (.slice rows.length 0 n (.op 1)) none (some (.int .i64 0)) none = some (.slice rows.length 0 0 (.op 1)) := by
    simp [sliceV, bound?]
  have hs0 : sliceV 1 .nilslice none (some (.int .i64 0)) none = some .nilslice := by
    simp [sliceV, bound?]
  have w : IntKind.i64.wrap (n : Int) = n := wrap64 (by omega) (by omega)
  have hcap : evP rows (.cap (.c .nilslice)) = some (.int .i64 0) := rfl
  refine i104 F104 ?_
  have h3 : ¬ ((n : Int) < 0) := by omega
  simp (disch := first | omega | (simp; done) | fail) [w, w0, h0, e, hs, hs0, hcap, show n ≤ lim from by simp [lim]; omega, h3]
  have := fin_slice (rows := rows) (L := [.cells (List.replicate n (AV.int .i64 0))]) (k := 0) (o := 0) (n := 0) (c := .op 1) rfl hid
  simpa using this
theorem concat_sizes {sv : AV} {ls : List (List Int)} (hl : IsLL rows sv ls) (hls : ls.length ≤ 1000) (hne : ls.flatten ≠ []) (htot : ls.flatten.length ≤ 1000000) {r : AV × List Row × Nat → Prop}
    (hn : Lc84l2 F (.fn [.t 2]) (.slice rows.length 0 0 (.op 1)) sv (.int .i64 ls.length) (.int .i64 0) (rows ++ [.cells (nums .i64 (List.replicate ls.flatten.length 0))]) rows.length r) : ∀ (n i : Nat), ls.length - i = n → i ≤ ls.length →
    Lc84l14 F (.fn [.t 2]) sv (.int .i64 (ls.take i).flatten.length) sv (.int .i64 ls.length) (.int .i64 i) rows rows.length r := by
  obtain ⟨vs, hv, hv2⟩ := hl
  have hvl : vs.length = ls.length := by simpa using El_len hv
  have hpos : 0 < ls.flatten.length := List.length_pos_iff.2 hne
  intro n
  induction n with
  | zero =>
    intro i hn0 hi
    have hi : i = ls.length := by omega
    have e : ls.take i = ls := List.take_of_length_le (by omega)
    have hlen := evP_lenE (El_app hv [.cells (nums .i64 (List.replicate ls.flatten.length 0))])
    rw [e]
    unfold Lc84l14
    have hg := grow_ret (rows := rows) hpos htot
    simp only [List.length_flatten] at hg hn hlen ⊢
    simp [hi, hg, lowO_n, hlen, -lowO]
    simpa using hn
  | succ n ih =>
    intro i hn0 hi
    have hi : i < ls.length := by omega
    have hvi := hv2 i hi
    have e1 : evP rows (.idxS 1 (.c sv) (.c (.int .i64 i))) = some (.ptr (sid sv) (soff sv + i)) := by
      simpa using evP_idxE hv (k := .i64) (i := i) (by omega) (by omega)
    have e2 : evP rows (.load1 (.c (.ptr (sid sv) (soff sv + i)))) = some (gA vs i) := by
      rw [evP_loadE hv (by omega), gA_get (by omega)]
    have hb : (ls.take (i + 1)).flatten.length ≤ ls.flatten.length := by
      have h := List.take_append_drop (i + 1) ls
      have : ls.flatten.length = (ls.take (i + 1) ++ ls.drop (i + 1)).flatten.length := by rw [h]
      rw [this, List.flatten_append, List.length_append]
      omega
    have e3 : (ls.take (i + 1)).flatten.length = (ls.take i).flatten.length + (gLL ls i).length := by
      rw [List.take_add_one, gLL_get hi]
      simp only [Option.toList_some, List.flatten_append, List.length_append, List.flatten_cons, List.flatten_nil, List.append_nil]
    have w : IntKind.i64.wrap ((i : Int) + 1) = i + 1 := wrap64 (by omega) (by omega)
    have w2 : IntKind.i64.wrap (((ls.take i).flatten.length : Int) + (gLL ls i).length) = (ls.take (i + 1)).flatten.length := by
      rw [e3]; push_cast; exact wrap64 (by omega) (by omega)
    have h3 : ¬ (((ls.take (i + 1)).flatten.length : Int) < 0) := by omega
    have := ih (i + 1) (by omega) (by omega)
    generalize hA : (ls.take i).flatten.length = A at *
    generalize hB : (ls.take (i + 1)).flatten.length = B at *
    unfold Lc84l14
    simp (disch := first | omega | (simp; done) | fail) [hi, e1, e2, lenL0 hvi, w, w2, h3]
    simpa using this
def Cur (T : List Row) (nv : AV) (rows : List Row) (acc : List Int) : Prop := ∃ j vs, nv = .slice (rows.length + j) 0 acc.length (.op 1) ∧ T[j]? = some (.cells vs) ∧ vs.all (·.ids.isEmpty) = true ∧ seg vs 0 acc.length = some (nums .i64 acc) ∧ (acc ≠ [] → vs = nums .i64 acc)
theorem concat_loop {sv : AV} {ls : List (List Int)} (hl : IsLL rows sv ls) (hls : ls.length ≤ 1000) (hne : ls.flatten ≠ []) (htot : ls.flatten.length ≤ 1000000) : ∀ (n i : Nat) (T : List Row) (nv : AV), ls.length - i = n → i ≤ ls.length → Cur T nv rows (ls.take i).flatten →
    Lc84l2 F (.fn [.t 2]) nv sv (.int .i64 ls.length) (.int .i64 i) (rows ++ T) rows.length (fun r => fin rows r.1 r.2.1 r.2.2 = newL rows ls.flatten) := by
  obtain ⟨vs, hv, hv2⟩ := hl
  have hvl : vs.length = ls.length := by simpa using El_len hv
  intro n
  induction n with
  | zero =>
    intro i T nv hn0 hi hcur
    have hi : i = ls.length := by omega
    have e : ls.take i = ls := List.take_of_length_le (by omega)
    rw [e] at hcur
    obtain ⟨j, us, rfl, hT, hid, hsg, hfull⟩ := hcur
    have hus := hfull hne
    subst hus
    have hf := fin_slice (rows := rows) (L := T) (k := j) (o := 0) (n := ls.flatten.length) (c := .op 1) hT hid
    unfold Lc84l2
    generalize hq : ls.flatten = q at *
    cases q with
    | nil => exact absurd rfl hne
    | cons x q =>
      simp only [List.length_cons] at hf
      simp [hi]
      simpa [newL] using hf
  | succ n ih =>
    intro i T nv hn0 hi hcur
    have hi : i < ls.length := by omega
    have hvi := hv2 i hi
    have e1 : ∀ L, evP (rows ++ L) (.idxS 1 (.c sv) (.c (.int .i64 i))) = some (.ptr (sid sv) (soff sv + i)) := fun L => by
      simpa using evP_idxE (El_app hv L) (k := .i64) (i := i) (by omega) (by omega)
    have e2 : ∀ L, evP (rows ++ L) (.load1 (.c (.ptr (sid sv) (soff sv + i)))) = some (gA vs i) := fun L => by
      rw [evP_loadE (El_app hv L) (by omega), gA_get (by omega)]
    have hb : (ls.take (i + 1)).flatten.length ≤ ls.flatten.length := by
      have h := List.take_append_drop (i + 1) ls
      have : ls.flatten.length = (ls.take (i + 1) ++ ls.drop (i + 1)).flatten.length := by rw [h]
      rw [this, List.flatten_append, List.length_append]
      omega
    have e3 : (ls.take (i + 1)).flatten = (ls.take i).flatten ++ gLL ls i := by
      rw [List.take_add_one, gLL_get hi]
      simp only [Option.toList_some, List.flatten_append, List.flatten_cons, List.flatten_nil, List.append_nil]
    have w : IntKind.i64.wrap ((i : Int) + 1) = i + 1 := wrap64 (by omega) (by omega)
    unfold Lc84l2
    simp (disch := first | omega | (simp; done) | fail) [hi, e1, e2, w]
    by_cases hz : gLL ls i = []
    · have hx : El (rows ++ T) 1 (gA vs i) (nums .i64 []) 0 := by
        have := IsL_app hvi T
        rw [hz] at this
        exact this
      obtain ⟨j, us, hnv, _⟩ := id hcur
      rw [app_0 hx (.inr ⟨_, _, _, _, hnv⟩)]
      simp only [bnd_some]
      have := ih (i + 1) T nv (by omega) (by omega) (by rw [e3, hz, List.append_nil]; exact hcur)
      simpa [w] using this
    · obtain ⟨j, us, rfl, hT, hid, hsg, _⟩ := hcur
      have hx : El (rows ++ T) 1 (gA vs i) (nums .i64 (gLL ls i)) (gLL ls i).length := IsL_app hvi T
      have hc : cells? (rows ++ T) (rows.length + j) = some us := by
        unfold cells?
        rw [List.getElem?_append_right (by omega), Nat.add_sub_cancel_left, hT]
      have hl1 : (ls.take (i + 1)).flatten.length = (ls.take i).flatten.length + (gLL ls i).length := by rw [e3, List.length_append]
      rw [app_op (low := rows.length) (b := 8) hc (by simpa using hsg) hx (List.length_pos_iff.2 hz) (by simp only [lim]; omega)]
      simp only [bnd_some]
      have hj : j < T.length := (List.getElem?_eq_some_iff.1 hT).1
      have e4 : (rows ++ T).set (rows.length + j) .dead ++ [.cells (nums .i64 (ls.take i).flatten ++ nums .i64 (gLL ls i))] = rows ++ (T.set j .dead ++ [.cells (nums .i64 (ls.take (i + 1)).flatten)]) := by
        rw [List.set_append_right _ _ (by omega), Nat.add_sub_cancel_left, List.append_assoc, e3]
        simp [nums]
      rw [e4]
      have := ih (i + 1) (T.set j .dead ++ [.cells (nums .i64 (ls.take (i + 1)).flatten)]) (.slice (rows.length + T.length) 0 (ls.take (i + 1)).flatten.length (.op 1)) (by omega) (by omega)
        ⟨T.length, nums .i64 (ls.take (i + 1)).flatten, rfl, by simp, nums_ids, seg_nums0 _, fun _ => rfl⟩
      simp only [lower_add]
      rw [hl1] at this
      simpa [w] using this
theorem concat_ret {sv : AV} {ls : List (List Int)} (hl : IsLL rows sv ls) (hls : ls.length ≤ 1000) (hne : ls.flatten ≠ []) (htot : ls.flatten.length ≤ 1000000) : Ret F 84 [sv] rows = some (newL rows ls.flatten) := by
  have h2 := concat_loop hl hls hne htot _ 0 [.cells (nums .i64 (List.replicate ls.flatten.length 0))] (.slice rows.length 0 0 (.op 1)) rfl (by omega) ⟨0, _, rfl, rfl, nums_ids, by simp [seg, nums], fun h => absurd rfl h⟩
  have h1 := concat_sizes hl hls hne htot (by simpa using h2) _ 0 rfl (by omega)
  have h0 := lenLL hl []
  rw [List.append_nil] at h0
  refine i84 F84 ?_
  simp [h0]
  simpa using h1
end
end Go.Abs

namespace Go.Abs
def nzB (x : Int) : Bool := decide (x ≠ 0)
def calmB (N : Nat) (ks ps : List Nat) (l : List Int) : Bool := !(gnS N ks l ks.length ++ ps.map (tuS ks l)).any nzB
section
variable {rows : List Row} {N : Nat} {ks ps : List Nat} {v g : AV} {l : List Int}
theorem nz_ret {x : Int} : Ret F 85 [.int .i64 x] rows = some (.bool (nzB x), rows, none) := by
  refine i85 F85 ?_
  unfold nzB
  by_cases h : x = 0 <;> simp [h]
theorem newL_eq {m : List Int} (h : m ≠ []) : newL rows m = (.slice rows.length 0 m.length (.op 1), rows ++ [.cells (nums .i64 m)], none) := by
  cases m with
  | nil => exact absurd rfl h
  | cons x m => rfl
theorem El_cells1 {sz n : Nat} {v : AV} {cs : List AV} (h : El rows sz v cs n) : v.cells = [v] := by
  rcases El_cases h with ⟨rfl, _⟩ | ⟨id, off, c, vs, rfl, _⟩ <;> rfl
set_option maxHeartbeats 4000000 in
theorem IsCalm_ret (hg : GRd rows g N ks ps) (h : IsL rows v l) (hl : l.length = ks.length) (hb : ∀ x ∈ l, -100 ≤ x ∧ x ≤ 100) : Ret F 51 [g, v] rows = some (.tup [.bool (calmB N ks ps l), .int .i64 0], rows, none) := by
  obtain ⟨ev, pv, rfl, he, hp, _⟩ := id hg.eq
  have hok := hg.ok
  have o1 := El_one he
  have o2 := El_one hp
  have hek := hok.ek
  have hpk := hok.pk
  have n1 := hok.n1
  have n6 := hok.n6
  have hglen := gnS_len (N := N) (ks := ks) (f := l) ks.length
  have hne : gnS N ks l ks.length ≠ [] := fun e => by rw [e] at hglen; simp at hglen; omega
  have g1 := hg.app [.cells [.int .i64 N, ev, pv]]
  have h1 := IsL_app h [.cells [.int .i64 N, ev, pv]]
  have hrow : row? (rows ++ [.cells [.int .i64 N, ev, pv]]) rows.length = some [.int .i64 N, ev, pv] := row_end
  have hRl : rows.length < (rows ++ [Row.cells [.int .i64 N, ev, pv]]).length := by simp
  obtain ⟨R1, hR1⟩ : ∃ R1, R1 = rows ++ [.cells [.int .i64 N, ev, pv]] := ⟨_, rfl⟩
  rw [← hR1] at g1 h1 hrow hRl
  obtain ⟨v1, X1, r22, _, k1, _⟩ := Gains_ret g1 h1 hl hb
  have hrow2 := row?_old hrow X1
  obtain ⟨v2, X2, r40, _, k2, _⟩ := Turns_ret (g1.app X1) (IsL_app h1 X1) hl hb
  have hlen1 : (R1 ++ X1 ++ X2).length = R1.length + (X1.length + X2.length) := by simp [Nat.add_assoc]
  obtain ⟨R3, hR3⟩ : ∃ R3, R3 = R1 ++ X1 ++ X2 := ⟨_, rfl⟩
  rw [← hR3] at r40 k2 hlen1
  have k1' : IsL R3 v1 (gnS N ks l ks.length) := by rw [hR3]; exact IsL_app k1 X2
  have hLL : IsLL (R3 ++ [.cells [v1, v2]]) (.slice R3.length 0 2 (.at_ 2)) [gnS N ks l ks.length, ps.map (tuS ks l)] := by
    refine ⟨[v1, v2], ?_, ?_⟩
    · unfold El elems
      simp [row_end, seg]
    · intro i hi
      match i, hi with
      | 0, _ => exact IsL_app k1' _
      | 1, _ => exact IsL_app k2 _
  have hfl : ([gnS N ks l ks.length, ps.map (tuS ks l)] : List (List Int)).flatten = gnS N ks l ks.length ++ ps.map (tuS ks l) := by simp
  have hfn : gnS N ks l ks.length ++ ps.map (tuS ks l) ≠ [] := by
    intro e
    exact hne (List.append_eq_nil_iff.1 e).1
  have r84 := concat_ret hLL (by simp) (by rw [hfl]; exact hfn) (by rw [hfl]; simp [hglen]; omega)
  rw [hfl, newL_eq hfn] at r84
  have hfin : IsL (R3 ++ [.cells [v1, v2]] ++ [.cells (nums .i64 (gnS N ks l ks.length ++ ps.map (tuS ks l)))]) (.slice (R3 ++ [Row.cells [v1, v2]]).length 0 (gnS N ks l ks.length ++ ps.map (tuS ks l)).length (.op 1)) (gnS N ks l ks.length ++ ps.map (tuS ks l)) :=
    IsL_mk (n := 0) row_end (by rw [nums_seg, if_pos (by omega), List.drop_zero, List.take_of_length_le (Nat.le_refl _)])
  have hfl2 : (gnS N ks l ks.length ++ ps.map (tuS ks l)).length ≤ 100 := by simp [hglen]; omega
  have r83 := ContainsF_ret hfin (by omega) (fid := 85) (cs := []) (p := nzB) (fun x _ => nz_ret)
  have one1 := El_one k1'
  have one2 := El_one k2
  unfold calmB
  generalize gnS N ks l ks.length ++ ps.map (tuS ks l) = A at *
  obtain ⟨R4, hR4⟩ : ∃ R4, R4 = R3 ++ [.cells [v1, v2]] ++ [.cells (nums .i64 A)] := ⟨_, rfl⟩
  rw [← hR4] at r83 r84
  refine i51 F51 ?_
  have vc1 := El_cells1 k1'
  have vc2 := El_cells1 k2
  simp only [List.length_append, List.length_cons, List.length_nil, Nat.zero_add] at r83 r84
  simp [o1, o2, ← hR1, hrow, seg, r22, hrow2, r40, fillA, splice, vc1, vc2, one1, one2, r84, r83]
end
end Go.Abs

namespace Go.Abs
section
variable {rows : List Row} {N : Nat} {ks ps : List Nat} {v g : AV} {l : List Int}
set_option maxHeartbeats 4000000 in
theorem RGains_ret2 (hg : GRd rows g N ks ps) (h : IsL rows v l) (hl : l.length = ks.length) : Ret F 29 [g, v] rows = some (.slice rows.length 0 N (.at_ N), rows ++ [.cells (nums .i64 (gnS N ks l ks.length))], none) := by
  obtain ⟨ev, pv, rfl, he, hp, _⟩ := hg.eq
  have hok := hg.ok
  have o1 := El_one he
  have o2 := El_one hp
  have n6 := hok.n6
  have n1 := hok.n1
  have hek := hok.ek
  have hA0 := Acc_make (B := rows) (L := [.cells [.int .i64 N, ev, pv]]) (m := N)
  have hloop := RGains_loop (B := rows) (n0 := .int .i64 N) (pv := pv) (low := rows.length) (r := fun r => fin rows r.1 r.2.1 r.2.2 = (.slice rows.length 0 N (.at_ N), rows ++ [.cells (nums .i64 (gnS N ks l ks.length))], none)) (x5 := .slice (rows.length + 1) 0 N (.at_ N)) (c := .at_ N) hok he h hl (Nat.le_refl _) (by simp) (fun L hA => by
    obtain ⟨a1, a2⟩ := hA
    rcases a2 with ⟨a2, _⟩ | ⟨k, a2, hk⟩
    · simp at a2
    · have : k = 1 := by simp at a2; omega
      subst this
      exact fin_slice hk nums_ids) _ 0 ([.cells [.int .i64 N, ev, pv]] ++ [.cells (nums .i64 (List.replicate N 0))]) rfl (Nat.zero_le _) (by simp [row?]) hA0
  have hlim : (N : Int) ≤ lim := by simp [lim]; omega
  refine i29 F29 ?_
  simp [o1, o2, seg, hlim, rep_nums]
  simpa using hloop
theorem calm_loop {R : List Row} {w : AV} {m : List Int} (h : IsL R w m) (hm : m.length ≤ 100) {low : Nat} {r : AV × List Row × Nat → Prop} (hr : r (.bool (!m.any nzB), R, low)) : ∀ (d i : Nat), m.length - i = d → i ≤ m.length → (∀ j, j < i → gI m j = 0) →
    Lc57l2 F (.fn [.t 4]) w (.int .i64 i) R low r := by
  intro d
  induction d with
  | zero =>
    intro i hd h1 hz
    have hi : i = m.length := by omega
    have hany : m.any nzB = false := by
      rw [List.any_eq_false]
      intro x hx
      obtain ⟨j, hj, rfl⟩ := List.mem_iff_getElem.1 hx
      have := hz j (by omega)
      rw [gI_eq hj] at this
      simp [nzB, this]
    rw [hany] at hr
    subst hi
    unfold Lc57l2
    simp [lenL0 h]
    exact hr
  | succ d ih =>
    intro i hd h1 hz
    have hi : i < m.length := by omega
    have hw : IntKind.i64.wrap ((i : Int) + 1) = ((i + 1 : Nat) : Int) := by rw [wrap64 (by omega) (by omega)]; omega
    unfold Lc57l2
    by_cases c : gI m i = 0
    · have := ih (i + 1) (by omega) (by omega) (fun j hj => by
        by_cases e : j = i
        · subst e; exact c
        · exact hz j (by omega))
      simp (disch := first | omega | (simp; done) | fail) [lenL0 h, hi, idxL0 h, loadL0 h, c, hw]
      simpa using this
    · have hany : m.any nzB = true := by
        rw [List.any_eq_true]
        exact ⟨gI m i, gI_mem hi, by simp [nzB, c]⟩
      rw [hany] at hr
      simp (disch := first | omega | (simp; done) | fail) [lenL0 h, hi, idxL0 h, loadL0 h, c, hw]
      exact hr
set_option maxHeartbeats 4000000 in
theorem RCalm_ret (hg : GRd rows g N ks ps) (h : IsL rows v l) (hl : l.length = ks.length) (hb : ∀ x ∈ l, -100 ≤ x ∧ x ≤ 100) : Ret F 57 [g, v] rows = some (.bool (calmB N ks ps l), rows, none) := by
  obtain ⟨ev, pv, rfl, he, hp, _⟩ := id hg.eq
  have hok := hg.ok
  have o1 := El_one he
  have o2 := El_one hp
  have hek := hok.ek
  have hpk := hok.pk
  have n1 := hok.n1
  have n6 := hok.n6
  have hglen := gnS_len (N := N) (ks := ks) (f := l) ks.length
  obtain ⟨R1, hR1⟩ : ∃ R1, R1 = rows ++ [.cells [.int .i64 N, ev, pv]] := ⟨_, rfl⟩
  have g1 : GRd R1 (.agg [.int .i64 N, ev, pv]) N ks ps := by rw [hR1]; exact hg.app _
  have h1 : IsL R1 v l := by rw [hR1]; exact IsL_app h _
  have hrow : row? R1 rows.length = some [.int .i64 N, ev, pv] := by rw [hR1]; exact row_end
  have r29 := RGains_ret2 g1 h1 hl
  obtain ⟨v2, X2, r55, _, k2, _⟩ := RTurns_ret (g1.app [.cells (nums .i64 (gnS N ks l ks.length))]) (IsL_app h1 [.cells (nums .i64 (gnS N ks l ks.length))]) hl hb
  have hrow2 := row?_old hrow [.cells (nums .i64 (gnS N ks l ks.length))]
  have hRl : rows.length ≤ R1.length := by rw [hR1]; simp
  -- the two lists in one
  have happ : ∃ v' Y, evE (R1 ++ [.cells (nums .i64 (gnS N ks l ks.length))] ++ X2) rows.length (.app 1 8 (.c (.slice R1.length 0 N (.at_ N))) (.c v2)) = some (v', R1 ++ [.cells (nums .i64 (gnS N ks l ks.length))] ++ X2 ++ Y, rows.length) ∧ IsL (R1 ++ [.cells (nums .i64 (gnS N ks l ks.length))] ++ X2 ++ Y) v' (gnS N ks l ks.length ++ ps.map (tuS ks l)) := by
    have k1 : IsL (R1 ++ [.cells (nums .i64 (gnS N ks l ks.length))] ++ X2) (.slice R1.length 0 N (.at_ N)) (gnS N ks l ks.length) := by
      refine IsL_app ?_ X2
      have := IsL_mk (n := 0) (off := 0) (c := .at_ N) (l := gnS N ks l ks.length) (row_end (B := R1) (vs := nums .i64 (gnS N ks l ks.length))) (by rw [nums_seg, if_pos (by omega), List.drop_zero, List.take_of_length_le (Nat.le_refl _)])
      rw [hglen] at this
      exact this
    by_cases c : ps = []
    · have e : ps.map (tuS ks l) = [] := by rw [c]; rfl
      rw [e] at k2 ⊢
      refine ⟨_, [], ?_, by rw [List.append_nil, List.append_nil]; exact k1⟩
      rw [List.append_nil]
      exact app_0 k2 (.inr ⟨_, _, _, _, rfl⟩)
    · have hpos : 0 < ps.length := List.length_pos_iff.2 c
      have hrw : row? (R1 ++ [.cells (nums .i64 (gnS N ks l ks.length))] ++ X2) R1.length = some (nums .i64 (gnS N ks l ks.length)) := row?_old row_end X2
      refine ⟨_, _, app_at hrw (n := N) (sz := 1) (xs := nums .i64 (gnS N ks l ks.length)) (by rw [nums_seg, if_pos (by omega), List.drop_zero, List.take_of_length_le (by omega)]) k2 (by simp; omega) (by simp [lim]; omega) (by simp; omega), ?_⟩
      have := IsL_mk (n := 0) (off := 0) (c := .op 1) (l := gnS N ks l ks.length ++ ps.map (tuS ks l)) (row_end (B := R1 ++ [.cells (nums .i64 (gnS N ks l ks.length))] ++ X2) (vs := nums .i64 (gnS N ks l ks.length ++ ps.map (tuS ks l)))) (by rw [nums_seg, if_pos (by omega), List.drop_zero, List.take_of_length_le (Nat.le_refl _)])
      have hll : (gnS N ks l ks.length ++ ps.map (tuS ks l)).length = N + (ps.map (tuS ks l)).length := by rw [List.length_append, hglen]
      rw [hll] at this
      rw [nums_app]
      exact this
  obtain ⟨v', Y, eapp, k3⟩ := happ
  have hfl2 : (gnS N ks l ks.length ++ ps.map (tuS ks l)).length ≤ 100 := by simp [hglen]; omega
  have hloop := calm_loop k3 hfl2 (low := rows.length) (r := fun r => fin rows r.1 r.2.1 r.2.2 = (.bool (calmB N ks ps l), rows, none)) (by simp [calmB]) _ 0 rfl (Nat.zero_le _) (fun j hj => absurd hj (by omega))
  simp only [List.append_assoc, List.cons_append, List.nil_append] at eapp r55 hloop
  generalize gnS N ks l ks.length = gn at *
  have hrow3 := row?_old hrow [.dead]
  refine i57 F57 ?_
  simp [o1, o2, ← hR1, hrow, seg, r29, hrow2, hrow3, r55, eapp, maskE]
  simpa using hloop
end
end Go.Abs

set_option maxRecDepth 20000
set_option maxHeartbeats 4000000
namespace Go.Abs
variable {F : Nat → Option IFn} {cx : Ctx} {k : List Itm} {s : St} {l : List (Nat × AV)} {rows : List Row} {low : Nat} {r : AV × List Row × Nat → Prop}
@[simp] theorem uc31k0 : Ex F cx (.code c31k0 :: k) ⟨mk 63 l, rows, low⟩ r ↔ Ex F cx k ⟨mk 63 [(2, lk l 3), (62, lk l 3), (3, lk l 3)], rows, low⟩ r := rg [3] c31r0 rfl (by kernel_rfl)
@[simp] theorem uc31s1 : Ex F cx (.code c31s1 :: k) s r ↔ Ex F cx (.code (.seq c31k0 .ret) :: k) s r := Iff.rfl
@[simp] theorem uc31k3 : Ex F cx (.code c31k3 :: k) ⟨mk 63 l, rows, low⟩ r ↔ bnd (evP rows (.bin .add (.c (lk l 5)) (.c (.int .i64 1)))) fun v0 => Ex F cx k ⟨mk 63 [(5, v0), (25, v0), (24, lk l 5), (1, lk l 1), (3, lk l 3), (5, lk l 5)], rows, low⟩ r := rg [1, 3, 5] c31r3 rfl (by kernel_rfl)
@[simp] theorem uc31k5 : Ex F cx (.code c31k5 :: k) ⟨mk 63 l, rows, low⟩ r ↔ bnd (evP rows (.bin .add (.c (lk l 6)) (.c (.int .i64 1)))) fun v0 => Ex F cx k ⟨mk 63 [(6, v0), (32, v0), (31, lk l 6), (1, lk l 1), (3, lk l 3), (5, lk l 5), (6, lk l 6)], rows, low⟩ r := rg [1, 3, 5, 6] c31r5 rfl (by kernel_rfl)
@[simp] theorem uc31k6 : Ex F cx (.code c31k6 :: k) ⟨mk 63 l, rows, low⟩ r ↔ bnd (evP rows (.idxS 1 (.c (lk l 3)) (.c (lk l 8)))) fun v0 => bnd (evE rows low (.store1 (.c v0) (.c (lk l 9)))) fun q1 => Ex F cx k ⟨mk 63 [(61, v0), (60, lk l 9), (59, lk l 8), (58, lk l 3), (1, lk l 1), (3, lk l 3), (5, lk l 5), (6, lk l 6), (8, lk l 8), (9, lk l 9)], q1.2.1, q1.2.2⟩ r := rg [1, 3, 5, 6, 8, 9] c31r6 rfl (by kernel_rfl)
@[simp] theorem uc31k7 : Ex F cx (.code c31k7 :: k) ⟨mk 63 l, rows, low⟩ r ↔ bnd (evP rows (.idxS 1 (.c (lk l 3)) (.c (lk l 7)))) fun v0 => bnd (evE rows low (.store1 (.c v0) (.c (lk l 9)))) fun q1 => Ex F cx k ⟨mk 63 [(57, v0), (56, lk l 9), (55, lk l 7), (54, lk l 3), (1, lk l 1), (3, lk l 3), (5, lk l 5), (6, lk l 6), (7, lk l 7), (8, lk l 8), (9, lk l 9)], q1.2.1, q1.2.2⟩ r := rg [1, 3, 5, 6, 7, 8, 9] c31r7 rfl (by kernel_rfl)
@[simp] theorem uc31s8 : Ex F cx (.code c31s8 :: k) s r ↔ Ex F cx (.code (.seq c31k7 c31k6) :: k) s r := Iff.rfl
@[simp] theorem uc31k9 : Ex F cx (.code c31k9 :: k) ⟨mk 63 l, rows, low⟩ r ↔ bnd (evP rows (.idxS 1 (.c (lk l 3)) (.c (lk l 7)))) fun v0 => bnd (evP rows (.load1 (.c v0))) fun v1 => bnd (evP rows (.idxS 1 (.c (lk l 3)) (.c (lk l 8)))) fun v2 => bnd (evP rows (.load1 (.c v2))) fun v3 => bnd (evP rows (.mn [(.c v1), (.c v3)])) fun v4 => Ex F cx k ⟨mk 63 [(9, v4), (53, v4), (52, v3), (51, v2), (50, lk l 8), (49, lk l 3), (48, v1), (47, v0), (46, lk l 7), (45, lk l 3), (1, lk l 1), (3, lk l 3), (5, lk l 5), (6, lk l 6), (7, lk l 7), (8, lk l 8)], rows, low⟩ r := rg [1, 3, 5, 6, 7, 8] c31r9 rfl (by kernel_rfl)
@[simp] theorem uc31s10 : Ex F cx (.code c31s10 :: k) s r ↔ Ex F cx (.code (.seq c31k9 c31s8) :: k) s r := Iff.rfl
@[simp] theorem uc31k11 : Ex F cx (.code c31k11 :: k) ⟨mk 63 l, rows, low⟩ r ↔ bnd (evP rows (.fieldA 1 (.c (lk l 1)))) fun v0 => bnd (evP rows (.load1 (.c v0))) fun v1 => bnd (evP rows (.idxS 2 (.c v1) (.c (lk l 6)))) fun v2 => bnd (evP rows (.idxA 2 1 (.c v2) (.c (.int .i64 0)))) fun v3 => bnd (evP rows (.load1 (.c v3))) fun v4 => bnd (evP rows (.fieldA 1 (.c (lk l 1)))) fun v5 => bnd (evP rows (.load1 (.c v5))) fun v6 => bnd (evP rows (.idxS 2 (.c v6) (.c (lk l 6)))) fun v7 => bnd (evP rows (.idxA 2 1 (.c v7) (.c (.int .i64 1)))) fun v8 => bnd (evP rows (.load1 (.c v8))) fun v9 => Ex F cx k ⟨mk 63 [(8, v9), (7, v4), (44, v9), (43, v8), (42, v7), (41, lk l 6), (40, v6), (39, v5), (38, v4), (37, v3), (36, v2), (35, lk l 6), (34, v1), (33, v0), (1, lk l 1), (3, lk l 3), (5, lk l 5), (6, lk l 6)], rows, low⟩ r := rg [1, 3, 5, 6] c31r11 rfl (by kernel_rfl)
@[simp] theorem uc31s12 : Ex F cx (.code c31s12 :: k) s r ↔ Ex F cx (.code (.seq (.block 5 (.seq c31k11 c31s10)) c31k5) :: k) s r := Iff.rfl
@[simp] theorem uc31s13 : Ex F cx (.code c31s13 :: k) s r ↔ Ex F cx (.code (.cond (.t 30) .skip (.exit 4)) :: k) s r := Iff.rfl
@[simp] theorem uc31k14 : Ex F cx (.code c31k14 :: k) ⟨mk 63 l, rows, low⟩ r ↔ bnd (evP rows (.fieldA 1 (.c (lk l 1)))) fun v0 => bnd (evP rows (.load1 (.c v0))) fun v1 => bnd (evP rows (.len 0 (.c v1))) fun v2 => bnd (evP rows (.bin .lss (.c (lk l 6)) (.c v2))) fun v3 => Ex F cx k ⟨mk 63 [(30, v3), (29, v2), (28, v1), (27, v0), (26, lk l 6), (1, lk l 1), (3, lk l 3), (5, lk l 5), (6, lk l 6)], rows, low⟩ r := rg [1, 3, 5, 6] c31r14 rfl (by kernel_rfl)
@[simp] theorem uc31s15 : Ex F cx (.code c31s15 :: k) s r ↔ Ex F cx (.code (.block 4 (.loop c31l4)) :: k) s r := Iff.rfl
@[simp] theorem uc31k16 : Ex F cx (.code c31k16 :: k) ⟨mk 63 l, rows, low⟩ r ↔ Ex F cx k ⟨mk 63 [(6, (.int .i64 0)), (1, lk l 1), (3, lk l 3), (5, lk l 5)], rows, low⟩ r := rg [1, 3, 5] c31r16 rfl (by kernel_rfl)
@[simp] theorem uc31s17 : Ex F cx (.code c31s17 :: k) s r ↔ Ex F cx (.code (.seq (.block 3 (.seq c31k16 c31s15)) c31k3) :: k) s r := Iff.rfl
@[simp] theorem uc31s18 : Ex F cx (.code c31s18 :: k) s r ↔ Ex F cx (.code (.cond (.t 23) .skip (.exit 2)) :: k) s r := Iff.rfl
@[simp] theorem uc31k19 : Ex F cx (.code c31k19 :: k) ⟨mk 63 l, rows, low⟩ r ↔ bnd (evP rows (.fieldA 0 (.c (lk l 1)))) fun v0 => bnd (evP rows (.load1 (.c v0))) fun v1 => bnd (evP rows (.bin .lss (.c (lk l 5)) (.c v1))) fun v2 => Ex F cx k ⟨mk 63 [(23, v2), (22, v1), (21, v0), (20, lk l 5), (1, lk l 1), (3, lk l 3), (5, lk l 5)], rows, low⟩ r := rg [1, 3, 5] c31r19 rfl (by kernel_rfl)
@[simp] theorem uc31s20 : Ex F cx (.code c31s20 :: k) s r ↔ Ex F cx (.code (.block 2 (.loop c31l2)) :: k) s r := Iff.rfl
@[simp] theorem uc31k21 : Ex F cx (.code c31k21 :: k) ⟨mk 63 l, rows, low⟩ r ↔ Ex F cx k ⟨mk 63 [(5, (.int .i64 0)), (1, lk l 1), (3, lk l 3)], rows, low⟩ r := rg [1, 3] c31r21 rfl (by kernel_rfl)
@[simp] theorem uc31s22 : Ex F cx (.code c31s22 :: k) s r ↔ Ex F cx (.code (.seq (.seq c31k21 c31s20) c31s1) :: k) s r := Iff.rfl
@[simp] theorem uc31k24 : Ex F cx (.code c31k24 :: k) ⟨mk 63 l, rows, low⟩ r ↔ bnd (evP rows (.bin .add (.c (lk l 4)) (.c (.int .i64 1)))) fun v0 => Ex F cx k ⟨mk 63 [(4, v0), (15, v0), (14, lk l 4), (1, lk l 1), (3, lk l 3), (4, lk l 4)], rows, low⟩ r := rg [1, 3, 4] c31r24 rfl (by kernel_rfl)
@[simp] theorem uc31k25 : Ex F cx (.code c31k25 :: k) ⟨mk 63 l, rows, low⟩ r ↔ bnd (evE rows low (.mkslice 1 [.int .i64 0] [(0, 1, (.c (lk l 4)))])) fun q0 => bnd (evE q0.2.1 q0.2.2 (.app 1 8 (.c (lk l 3)) (.c q0.1))) fun q1 => Ex F cx k ⟨mk 63 [(3, q1.1), (19, q1.1), (18, q0.1), (17, lk l 4), (16, lk l 3), (1, lk l 1), (3, lk l 3), (4, lk l 4)], q1.2.1, q1.2.2⟩ r := rg [1, 3, 4] c31r25 rfl (by kernel_rfl)
@[simp] theorem uc31s26 : Ex F cx (.code c31s26 :: k) s r ↔ Ex F cx (.code (.seq (.block 1 c31k25) c31k24) :: k) s r := Iff.rfl
@[simp] theorem uc31s27 : Ex F cx (.code c31s27 :: k) s r ↔ Ex F cx (.code (.cond (.t 13) .skip (.exit 0)) :: k) s r := Iff.rfl
@[simp] theorem uc31k28 : Ex F cx (.code c31k28 :: k) ⟨mk 63 l, rows, low⟩ r ↔ bnd (evP rows (.fieldA 0 (.c (lk l 1)))) fun v0 => bnd (evP rows (.load1 (.c v0))) fun v1 => bnd (evP rows (.bin .lss (.c (lk l 4)) (.c v1))) fun v2 => Ex F cx k ⟨mk 63 [(13, v2), (12, v1), (11, v0), (10, lk l 4), (1, lk l 1), (3, lk l 3), (4, lk l 4)], rows, low⟩ r := rg [1, 3, 4] c31r28 rfl (by kernel_rfl)
@[simp] theorem uc31s29 : Ex F cx (.code c31s29 :: k) s r ↔ Ex F cx (.code (.block 0 (.loop c31l23)) :: k) s r := Iff.rfl
@[simp] theorem uc31k30 : Ex F cx (.code c31k30 :: k) ⟨mk 63 l, rows, low⟩ r ↔ Ex F cx k ⟨mk 63 [(4, (.int .i64 0)), (1, lk l 1), (3, lk l 3)], rows, low⟩ r := rg [1, 3] c31r30 rfl (by kernel_rfl)
@[simp] theorem uc31s31 : Ex F cx (.code c31s31 :: k) s r ↔ Ex F cx (.code (.seq (.seq c31k30 c31s29) c31s22) :: k) s r := Iff.rfl
@[simp] theorem uc31k32 : Ex F cx (.code c31k32 :: k) ⟨mk 63 l, rows, low⟩ r ↔ Ex F cx k ⟨mk 63 [(3, .nilslice), (1, lk l 1)], rows, low⟩ r := rg [1] c31r32 rfl (by kernel_rfl)
@[simp] theorem uc31s33 : Ex F cx (.code c31s33 :: k) s r ↔ Ex F cx (.code (.seq c31k32 c31s31) :: k) s r := Iff.rfl
@[simp] theorem uc31k34 : Ex F cx (.code c31k34 :: k) ⟨mk 63 l, rows, low⟩ r ↔ bnd (evE rows low (.box (.c (lk l 0)))) fun q0 => Ex F cx k ⟨mk 63 [(2, .nilslice), (1, q0.1), (0, lk l 0)], q0.2.1, q0.2.2⟩ r := rg [0] c31r34 rfl (by kernel_rfl)
def Jc31s12 (F : Nat → Option IFn) (cx : Ctx) (x1 x3 x5 x6 : AV) (rows : List Row) (low : Nat) (r : AV × List Row × Nat → Prop) : Prop := Ex F cx (.code c31s12 :: .inLoop c31l4 :: .inBlock 4 :: .inBlock 3 :: .code c31k3 :: .inLoop c31l2 :: .inBlock 2 :: .code c31s1 :: []) ⟨mk 63 [(1, x1), (3, x3), (5, x5), (6, x6)], rows, low⟩ r
def Lc31l4 (F : Nat → Option IFn) (cx : Ctx) (x1 x3 x5 x6 : AV) (rows : List Row) (low : Nat) (r : AV × List Row × Nat → Prop) : Prop := Ex F cx (.code c31l4 :: .inLoop c31l4 :: .inBlock 4 :: .inBlock 3 :: .code c31k3 :: .inLoop c31l2 :: .inBlock 2 :: .code c31s1 :: []) ⟨mk 63 [(1, x1), (3, x3), (5, x5), (6, x6)], rows, low⟩ r
@[simp] theorem nc31l4 : Ex F cx (.inLoop c31l4 :: .inBlock 4 :: .inBlock 3 :: .code c31k3 :: .inLoop c31l2 :: .inBlock 2 :: .code c31s1 :: []) ⟨mk 63 l, rows, low⟩ r ↔ Lc31l4 F cx (lk l 1) (lk l 3) (lk l 5) (lk l 6) rows low r := loopN (keep := [1, 3, 5, 6]) (by kernel_rfl)
@[simp] theorem ec31l4 : Ex F cx (.code (.loop c31l4) :: .inBlock 4 :: .inBlock 3 :: .code c31k3 :: .inLoop c31l2 :: .inBlock 2 :: .code c31s1 :: []) ⟨mk 63 l, rows, low⟩ r ↔ Lc31l4 F cx (lk l 1) (lk l 3) (lk l 5) (lk l 6) rows low r := loopE (keep := [1, 3, 5, 6]) (by kernel_rfl)
@[simp] theorem uc31l4 : Ex F cx (.code c31l4 :: k) s r ↔ Ex F cx (.code (.seq (.seq c31k14 c31s13) c31s12) :: k) s r := Iff.rfl
def Jc31s17 (F : Nat → Option IFn) (cx : Ctx) (x1 x3 x5 : AV) (rows : List Row) (low : Nat) (r : AV × List Row × Nat → Prop) : Prop := Ex F cx (.code c31s17 :: .inLoop c31l2 :: .inBlock 2 :: .code c31s1 :: []) ⟨mk 63 [(1, x1), (3, x3), (5, x5)], rows, low⟩ r
def Lc31l2 (F : Nat → Option IFn) (cx : Ctx) (x1 x3 x5 : AV) (rows : List Row) (low : Nat) (r : AV × List Row × Nat → Prop) : Prop := Ex F cx (.code c31l2 :: .inLoop c31l2 :: .inBlock 2 :: .code c31s1 :: []) ⟨mk 63 [(1, x1), (3, x3), (5, x5)], rows, low⟩ r
@[simp] theorem nc31l2 : Ex F cx (.inLoop c31l2 :: .inBlock 2 :: .code c31s1 :: []) ⟨mk 63 l, rows, low⟩ r ↔ Lc31l2 F cx (lk l 1) (lk l 3) (lk l 5) rows low r := loopN (keep := [1, 3, 5]) (by kernel_rfl)
@[simp] theorem ec31l2 : Ex F cx (.code (.loop c31l2) :: .inBlock 2 :: .code c31s1 :: []) ⟨mk 63 l, rows, low⟩ r ↔ Lc31l2 F cx (lk l 1) (lk l 3) (lk l 5) rows low r := loopE (keep := [1, 3, 5]) (by kernel_rfl)
@[simp] theorem uc31l2 : Ex F cx (.code c31l2 :: k) s r ↔ Ex F cx (.code (.seq (.seq c31k19 c31s18) c31s17) :: k) s r := Iff.rfl
def Jc31s26 (F : Nat → Option IFn) (cx : Ctx) (x1 x3 x4 : AV) (rows : List Row) (low : Nat) (r : AV × List Row × Nat → Prop) : Prop := Ex F cx (.code c31s26 :: .inLoop c31l23 :: .inBlock 0 :: .code c31s22 :: []) ⟨mk 63 [(1, x1), (3, x3), (4, x4)], rows, low⟩ r
def Lc31l23 (F : Nat → Option IFn) (cx : Ctx) (x1 x3 x4 : AV) (rows : List Row) (low : Nat) (r : AV × List Row × Nat → Prop) : Prop := Ex F cx (.code c31l23 :: .inLoop c31l23 :: .inBlock 0 :: .code c31s22 :: []) ⟨mk 63 [(1, x1), (3, x3), (4, x4)], rows, low⟩ r
@[simp] theorem nc31l23 : Ex F cx (.inLoop c31l23 :: .inBlock 0 :: .code c31s22 :: []) ⟨mk 63 l, rows, low⟩ r ↔ Lc31l23 F cx (lk l 1) (lk l 3) (lk l 4) rows low r := loopN (keep := [1, 3, 4]) (by kernel_rfl)
@[simp] theorem ec31l23 : Ex F cx (.code (.loop c31l23) :: .inBlock 0 :: .code c31s22 :: []) ⟨mk 63 l, rows, low⟩ r ↔ Lc31l23 F cx (lk l 1) (lk l 3) (lk l 4) rows low r := loopE (keep := [1, 3, 4]) (by kernel_rfl)
@[simp] theorem uc31l23 : Ex F cx (.code c31l23 :: k) s r ↔ Ex F cx (.code (.seq (.seq c31k28 c31s27) c31s26) :: k) s r := Iff.rfl
@[simp] theorem uc31b : Ex F cx (.code c31b :: k) s r ↔ Ex F cx (.code (.seq c31k34 c31s33) :: k) s r := Iff.rfl
theorem i31 {x0 : AV} (hF : F 31 = some c31) {q : AV × List Row × Option Nat} (h : Ex F (.fn [.t 2]) [.code c31b] ⟨mk 63 [(0, x0)], rows, rows.length⟩ fun r => fin rows r.1 r.2.1 r.2.2 = q) : Ret F 31 [x0] rows = some q := Ret_mk hF h
end Go.Abs

namespace Go.Abs
def peS (ks : List Nat) (p : List Int) : Nat → List Int
  | 0 => p
  | i + 1 =>
    let s := peS ks p i
    let m := min (gI s (gN ks i / 6)) (gI s (gN ks i % 6))
    (s.set (gN ks i / 6) m).set (gN ks i % 6) m
def pcS (ks : List Nat) (N : Nat) : Nat → List Int
  | 0 => (List.range N).map fun (v : Nat) => (v : Int)
  | r + 1 => peS ks (pcS ks N r) ks.length
theorem peS_len {ks : List Nat} {p : List Int} : ∀ i, (peS ks p i).length = p.length
  | 0 => rfl
  | i + 1 => by simp [peS, peS_len i]
theorem pcS_len {ks : List Nat} {N : Nat} : ∀ r, (pcS ks N r).length = N
  | 0 => by simp [pcS]
  | r + 1 => by rw [pcS, peS_len, pcS_len r]
section
variable {rows : List Row} {N : Nat} {ks ps : List Nat} {v g : AV} {l : List Int}
set_option maxHeartbeats 8000000 in
theorem RPieces_edges {B : List Row} {ev pv n0 : AV} {c : Cap} (hok : GOK N ks ps) (he : El B 2 ev (nums .i64 (eC ks)) ks.length) {low : Nat} (hlow : low ≤ B.length) {r : AV × List Row × Nat → Prop} {x3 x5 : AV} (hne : B.length ≠ sid x3) {p : List Int} (hp : p.length = N)
    (hk : ∀ (L : List Row) (sl : List (Nat × AV)), row? (B ++ L) B.length = some [n0, ev, pv] → Acc B L 1 c x3 (nums .i64 (peS ks p ks.length)) N → lk sl 1 = .ptr B.length 0 → lk sl 3 = x3 → lk sl 5 = x5 → Ex F (.fn [.t 2]) [.code c31k3, .inLoop c31l2, .inBlock 2, .code c31s1] ⟨mk 63 sl, B ++ L, low⟩ r) :
    ∀ (d i : Nat) (L : List Row), ks.length - i = d → i ≤ ks.length → row? (B ++ L) B.length = some [n0, ev, pv] → Acc B L 1 c x3 (nums .i64 (peS ks p i)) N →
    Lc31l4 F (.fn [.t 2]) (.ptr B.length 0) x3 x5 (.int .i64 i) (B ++ L) low r := by
  have hek := hok.ek
  intro d
  induction d with
  | zero =>
    intro i L hd h1 hG hA
    have hi : i = ks.length := by omega
    subst hi
    have he' := El_app he L
    unfold Lc31l4
    simp [hG, lenW he', -uc31k3]
    refine hk L _ hG hA ?_ ?_ ?_ <;> simp
  | succ d ih =>
    intro i L hd h1 hG hA
    have hi : i < ks.length := by omega
    have hw : IntKind.i64.wrap ((i : Int) + 1) = ((i + 1 : Nat) : Int) := by rw [wrap64 (by omega) (by omega)]; omega
    obtain ⟨e1, e2⟩ := eC_a hi
    have hee := hok.ee _ (gN_mem hi)
    have n6 := hok.n6
    have hs : peS ks p (i + 1) = ((peS ks p i).set (gN ks i / 6) (min (gI (peS ks p i) (gN ks i / 6)) (gI (peS ks p i) (gN ks i % 6)))).set (gN ks i % 6) (min (gI (peS ks p i) (gN ks i / 6)) (gI (peS ks p i) (gN ks i % 6))) := rfl
    generalize gN ks i / 6 = A at *
    generalize gN ks i % 6 = C at *
    have hAN : A < N := by omega
    have hCN : C < N := by omega
    generalize hm : min (gI (peS ks p i) A) (gI (peS ks p i) C) = m at *
    have ixA := Acc_idx hA hAN
    have ldA := Acc_ld hA hAN
    have ixC := Acc_idx hA hCN
    have ldC := Acc_ld hA hCN
    obtain ⟨L1, ev1, hA2, hL1, hR1⟩ := Acc_store (i := A) (x := m) hA hAN hlow
    have ixC1 := Acc_idx hA2 hCN
    have hG1 := hR1 _ _ hne hG
    obtain ⟨L2, ev2, hA3, hL2, hR2⟩ := Acc_store (i := C) (x := m) hA2 hCN hlow
    rw [← hs] at hA3
    have := ih (i + 1) L2 (by omega) (by omega) (hR2 _ _ hne hG1) hA3
    have he' := El_app he L
    have i01 : idx? 0 2 = some 0 := rfl
    have i11 : idx? 1 2 = some 1 := rfl
    have w1 := ldW1 he' (j := i * 2) (by rw [eC_len]; omega)
    have w2 := ldW1 he' (j := i * 2 + 1) (by rw [eC_len]; omega)
    rw [← Nat.add_assoc] at w2
    unfold Lc31l4
    simp (disch := first | omega | (simp; done) | fail) [hG, lenW he', hi, idxW he', i01, i11, w1, w2, e1, e2, ixA, ldA, ixC, ldC, hm, ev1, ixC1, ev2, hw, -evE_store1]
    simpa using this
set_option maxHeartbeats 8000000 in
theorem RPieces_rounds {B : List Row} {ev pv : AV} {c : Cap} (hok : GOK N ks ps) (he : El B 2 ev (nums .i64 (eC ks)) ks.length) {low : Nat} (hlow : low ≤ B.length) {r : AV × List Row × Nat → Prop} {x3 : AV} (hne : B.length ≠ sid x3)
    (hk : ∀ (L : List Row), Acc B L 1 c x3 (nums .i64 (pcS ks N N)) N → r (x3, B ++ L, low)) :
    ∀ (d i : Nat) (L : List Row), N - i = d → i ≤ N → row? (B ++ L) B.length = some [.int .i64 N, ev, pv] → Acc B L 1 c x3 (nums .i64 (pcS ks N i)) N →
    Lc31l2 F (.fn [.t 2]) (.ptr B.length 0) x3 (.int .i64 i) (B ++ L) low r := by
  have n6 := hok.n6
  intro d
  induction d with
  | zero =>
    intro i L hd h1 hG hA
    have hi : i = N := by omega
    subst hi
    have := hk L hA
    unfold Lc31l2
    simp [hG]
    exact this
  | succ d ih =>
    intro i L hd h1 hG hA
    have hi : i < N := by omega
    have hw : IntKind.i64.wrap ((i : Int) + 1) = ((i + 1 : Nat) : Int) := by rw [wrap64 (by omega) (by omega)]; omega
    have := RPieces_edges (c := c) (pv := pv) (n0 := .int .i64 N) (x5 := .int .i64 i) (r := r) hok he hlow hne (pcS_len (ks := ks) i) (fun L' sl hG' hA' s1 s3 s5 => by
      have := ih (i + 1) L' (by omega) (by omega) hG' hA'
      simp [s1, s3, s5, hw]
      simpa using this) _ 0 L rfl (Nat.zero_le _) hG hA
    unfold Lc31l2
    simp [hG, hi]
    simpa using this
set_option maxHeartbeats 8000000 in
theorem RPieces_fill {B : List Row} {ev pv : AV} (hok : GOK N ks ps) (he : El B 2 ev (nums .i64 (eC ks)) ks.length) {low : Nat} (hlow : low ≤ B.length) {r : AV × List Row × Nat → Prop}
    (hk : ∀ (L : List Row) (x3 : AV), Acc B L 1 (.op 1) x3 (nums .i64 (pcS ks N N)) N → r (x3, B ++ L, low)) :
    ∀ (d i : Nat) (L : List Row) (x3 : AV), N - i = d → i ≤ N → row? (B ++ L) B.length = some [.int .i64 N, ev, pv] → (x3 = .nilslice ∧ i = 0 ∨ B.length < sid x3) → Acc B L 1 (.op 1) x3 (nums .i64 ((List.range i).map fun (v : Nat) => (v : Int))) i →
    Lc31l23 F (.fn [.t 2]) (.ptr B.length 0) x3 (.int .i64 i) (B ++ L) low r := by
  have n6 := hok.n6
  have n1 := hok.n1
  intro d
  induction d with
  | zero =>
    intro i L x3 hd h1 hG hx hA
    have hi : i = N := by omega
    subst hi
    have hne : B.length ≠ sid x3 := by
      rcases hx with ⟨_, h⟩ | h
      · omega
      · omega
    have := RPieces_rounds (c := .op 1) (r := r) (x3 := x3) (pv := pv) hok he hlow hne (fun L hA => hk L x3 hA) _ 0 L rfl (Nat.zero_le _) hG hA
    unfold Lc31l23
    simp [hG]
    simpa using this
  | succ d ih =>
    intro i L x3 hd h1 hG hx hA
    have hi : i < N := by omega
    have hw : IntKind.i64.wrap ((i : Int) + 1) = ((i + 1 : Nat) : Int) := by rw [wrap64 (by omega) (by omega)]; omega
    obtain ⟨x3', L2, ev2, hA2, hid, hsid, hLl⟩ := Acc_more2 (low := low) (b := 8) (x := [.int .i64 i]) hA rfl (by omega) (by omega) hlow
    rw [show nums .i64 ((List.range i).map fun (v : Nat) => (v : Int)) ++ [.int .i64 i] = nums .i64 ((List.range (i + 1)).map fun (v : Nat) => (v : Int)) from by rw [List.range_succ, List.map_append, ← nums_app]; rfl] at hA2
    have hGl : B.length < B.length + L.length := by have := row?_lt hG; simpa using this
    have hG2 : row? (B ++ L2) B.length = some [.int .i64 N, ev, pv] := by
      unfold row? at hG ⊢
      rw [hid B.length hGl (by
        rcases hx with ⟨h, _⟩ | h
        · exact .inl h
        · exact .inr (by omega))]
      exact hG
    have := ih (i + 1) L2 x3' (by omega) (by omega) hG2 (.inr (by omega)) hA2
    unfold Lc31l23
    simp [hG, hi, fillA, splice, ev2, hw]
    simpa using this
set_option maxHeartbeats 4000000 in
theorem RPieces_ret (hg : GRd rows g N ks ps) : LRet1 31 [g] rows (pcS ks N N) := by
  obtain ⟨ev, pv, rfl, he, hp, _⟩ := hg.eq
  have hok := hg.ok
  have o1 := El_one he
  have o2 := El_one hp
  let Q : AV × List Row × Nat → Prop := fun r => ∃ v X, fin rows r.1 r.2.1 r.2.2 = (v, rows ++ X, none) ∧ X.all (Row.under 0) = true ∧ IsL (rows ++ X) v (pcS ks N N) ∧ Cp 1 v
  have main : Ex F (.fn [.t 2]) [.code c31b] ⟨mk 63 [(0, .agg [.int .i64 N, ev, pv])], rows, rows.length⟩ Q := by
    have hloop := RPieces_fill (B := rows) (pv := pv) (low := rows.length) (r := Q) hok he (Nat.le_refl _) (fun L x3 hA => by
      obtain ⟨v', X, e, h1, h2, h3, h4⟩ := Acc_fin1 hA (.inl rfl)
      exact ⟨v', X, e, h1, h2, h4⟩) _ 0 [.cells [.int .i64 N, ev, pv]] .nilslice rfl (Nat.zero_le _) row_end (.inl ⟨rfl, rfl⟩) Acc_nil
    simp [o1, o2]
    simpa using hloop
  obtain ⟨n1, q, e, v', X, h1, h2⟩ := main
  exact ⟨v', X, i31 F31 ⟨n1, q, e, h1⟩, h2⟩
def cntS (p : List Int) : Nat → Nat
  | 0 => 0
  | i + 1 => cntS p i + if gI p i = (i : Int) then 1 else 0
theorem cntS_le {p : List Int} : ∀ i, cntS p i ≤ i
  | 0 => Nat.le_refl _
  | i + 1 => by
    have := cntS_le (p := p) i
    rw [cntS]
    split <;> omega
set_option maxHeartbeats 4000000 in
theorem Count_loop {R : List Row} {w n1 n2 : AV} {a : Nat} {p : List Int} (h : IsL R w p) (hp : p.length = N) (hN : N ≤ 6) (ha : row? R a = some [.int .i64 N, n1, n2]) {low : Nat} {r : AV × List Row × Nat → Prop} (hr : r (.int .i64 (cntS p N), R, low)) : ∀ (d i : Nat), N - i = d → i ≤ N →
    Lc56l2 F (.fn [.t 2]) (.ptr a 0) (.int .i64 (cntS p i)) w (.int .i64 i) R low r := by
  intro d
  induction d with
  | zero =>
    intro i hd h1
    have hi : i = N := by omega
    subst hi
    unfold Lc56l2
    simp [ha]
    exact hr
  | succ d ih =>
    intro i hd h1
    have hi : i < N := by omega
    have hw : IntKind.i64.wrap ((i : Int) + 1) = ((i + 1 : Nat) : Int) := by rw [wrap64 (by omega) (by omega)]; omega
    have hc := cntS_le (p := p) i
    have hw2 : IntKind.i64.wrap ((cntS p i : Int) + 1) = ((cntS p i + 1 : Nat) : Int) := by rw [wrap64 (by omega) (by omega)]; omega
    have := ih (i + 1) (by omega) (by omega)
    rw [cntS] at this
    unfold Lc56l2
    by_cases c : gI p i = (i : Int)
    · rw [if_pos c] at this
      simp (disch := first | omega | (simp; done) | fail) [ha, hi, idxL0 h, loadL0 h, c, hw, hw2]
      simpa using this
    · rw [if_neg c] at this
      simp (disch := first | omega | (simp; done) | fail) [ha, hi, idxL0 h, loadL0 h, c, hw]
      simpa using this
set_option maxHeartbeats 4000000 in
theorem Count_ret (hg : GRd rows g N ks ps) : Ret F 56 [g] rows = some (.int .i64 (cntS (pcS ks N N) N), rows, none) := by
  obtain ⟨ev, pv, rfl, he, hp, _⟩ := id hg.eq
  have hok := hg.ok
  have o1 := El_one he
  have o2 := El_one hp
  obtain ⟨v', X, r31, _, k, _⟩ := RPieces_ret (hg.app [.cells [.int .i64 N, ev, pv]])
  have hrow : row? (rows ++ [.cells [.int .i64 N, ev, pv]] ++ X) rows.length = some [.int .i64 N, ev, pv] := row?_old row_end X
  have hloop := Count_loop (r := fun r => fin rows r.1 r.2.1 r.2.2 = (.int .i64 (cntS (pcS ks N N) N), rows, none)) k (pcS_len N) hok.n6 hrow (low := rows.length) (by simp) _ 0 rfl (Nat.zero_le _)
  refine i56 F56 ?_
  simp [o1, o2, seg, r31]
  simpa [cntS] using hloop
end
end Go.Abs

