/- Slices as lists. -/
import Derived.Test.YtiejbjajbehcfaaDoorA28
set_option linter.unusedVariables false
set_option linter.unusedSimpArgs false
namespace Go.Abs
/-- A list's number at a place. -/
def gI (l : List Int) (i : Nat) : Int := l.getD i 0
theorem gI_get {l : List Int} {i : Nat} (h : i < l.length) : l[i]? = some (gI l i) := get_at h
theorem gI_eq {l : List Int} {i : Nat} (h : i < l.length) : gI l i = l[i] := by simp [gI, h]
theorem gI_mem {l : List Int} {i : Nat} (h : i < l.length) : gI l i ∈ l := by rw [gI_eq h]; exact List.getElem_mem h
def sid : AV → Nat
  | .slice id _ _ _ => id
  | _ => 0
def soff : AV → Nat
  | .slice _ off _ _ => off
  | _ => 0
@[simp] theorem sid_s {i o n : Nat} {c : Cap} : sid (.slice i o n c) = i := rfl
@[simp] theorem soff_s {i o n : Nat} {c : Cap} : soff (.slice i o n c) = o := rfl
/-- A slice's cells: 'cs' of 'n' elements. -/
def El (rows : List Row) (sz : Nat) (v : AV) (cs : List AV) (n : Nat) : Prop := elems rows sz v = some (cs, n)
/-- A slice of whole numbers. -/
def IsL (rows : List Row) (v : AV) (l : List Int) : Prop := El rows 1 v (nums .i64 l) l.length

section
variable {rows : List Row} {sz : Nat} {v : AV} {cs : List AV} {n : Nat}
theorem El_cases (h : El rows sz v cs n) : (v = .nilslice ∧ cs = [] ∧ n = 0) ∨ ∃ id off c vs, v = .slice id off n c ∧ row? rows id = some vs ∧ seg vs off (n * sz) = some cs := by
  unfold El elems at h
  split at h
  · simp only [Option.some.injEq, Prod.mk.injEq] at h
    exact Or.inl ⟨rfl, h.1.symm, h.2.symm⟩
  · split at h
    · rename_i hr
      rw [Option.map_eq_some_iff] at h
      obtain ⟨l, e, h⟩ := h
      simp only [Prod.mk.injEq] at h
      obtain ⟨rfl, rfl⟩ := h
      exact Or.inr ⟨_, _, _, _, rfl, hr, e⟩
    · simp at h
  · simp at h
theorem seg_len {vs l : List AV} {o n : Nat} (h : seg vs o n = some l) : l.length = n ∧ o + n ≤ vs.length := by
  unfold seg at h
  split at h
  · injection h with h
    subst h
    simp only [List.length_take, List.length_drop]
    omega
  · simp at h
theorem seg_get {vs l : List AV} {o n j : Nat} (h : seg vs o n = some l) (hj : j < n) : vs[o + j]? = l[j]? := by
  unfold seg at h
  split at h
  · injection h with h
    subst h
    rw [List.getElem?_take, if_pos hj, List.getElem?_drop]
  · simp at h
theorem seg_seg {vs l : List AV} {o n j m : Nat} (h : seg vs o n = some l) (hj : j + m ≤ n) : seg vs (o + j) m = seg l j m := by
  have hl := seg_len h
  unfold seg at h ⊢
  rw [if_pos (by omega)] at h
  injection h with h
  rw [if_pos (by omega), if_pos (by omega), ← h, List.drop_take, List.take_take, List.drop_drop]
  congr 2
  omega
theorem El_len (h : El rows sz v cs n) : cs.length = n * sz := by
  rcases El_cases h with ⟨_, rfl, rfl⟩ | ⟨id, off, c, vs, rfl, hr, hs⟩
  · simp
  · exact (seg_len hs).1
theorem evP_lenE (h : El rows sz v cs n) : evP rows (.len 0 (.c v)) = some (.int .i64 n) := by
  rcases El_cases h with ⟨rfl, rfl, rfl⟩ | ⟨id, off, c, vs, rfl, hr, hs⟩ <;> rfl
theorem evP_idxE (h : El rows sz v cs n) {k : IntKind} {i : Int} (h0 : 0 ≤ i) (h1 : i < n) : evP rows (.idxS sz (.c v) (.c (.int k i))) = some (.ptr (sid v) (soff v + i.toNat * sz)) := by
  rcases El_cases h with ⟨rfl, rfl, rfl⟩ | ⟨id, off, c, vs, rfl, hr, hs⟩
  · omega
  · rw [evP_idxS, idx?_ok h0 h1]; rfl
theorem evP_loadE (h : El rows sz v cs n) {j : Nat} (hj : j < cs.length) : evP rows (.load1 (.c (.ptr (sid v) (soff v + j)))) = cs[j]? := by
  have hl := El_len h
  rcases El_cases h with ⟨rfl, rfl, rfl⟩ | ⟨id, off, c, vs, rfl, hr, hs⟩
  · simp at hj
  · rw [evP_load1]
    simp only [sid, soff, hr, Option.bind_some]
    rw [seg_get hs (by omega)]
theorem evP_loadNE (h : El rows sz v cs n) {j m : Nat} (hj : j + m ≤ cs.length) (hm : 0 < m) : evP rows (.loadN m (.c (.ptr (sid v) (soff v + j)))) = (seg cs j m).map AV.agg := by
  have hl := El_len h
  rcases El_cases h with ⟨rfl, rfl, rfl⟩ | ⟨id, off, c, vs, rfl, hr, hs⟩
  · simp at hj; omega
  · rw [evP_loadN]
    simp only [sid, soff, hr, Option.bind_some]
    rw [seg_seg hs (by omega)]
theorem El_app (h : El rows sz v cs n) (L : List Row) : El (rows ++ L) sz v cs n := by
  rcases El_cases h with ⟨rfl, rfl, rfl⟩ | ⟨id, off, c, vs, rfl, hr, hs⟩
  · rfl
  · unfold El elems
    simp only [row?_old hr, hs, Option.map_some]
theorem El_nil : El rows sz .nilslice [] 0 := rfl

variable {l : List Int}
theorem lenL (h : IsL rows v l) (L : List Row) : evP (rows ++ L) (.len 0 (.c v)) = some (.int .i64 l.length) := evP_lenE (El_app h L)
theorem idxL (h : IsL rows v l) (L : List Row) {k : IntKind} {i : Int} (h0 : 0 ≤ i) (h1 : i < l.length) : evP (rows ++ L) (.idxS 1 (.c v) (.c (.int k i))) = some (.ptr (sid v) (soff v + i.toNat)) := by
  rw [evP_idxE (El_app h L) h0 h1, Nat.mul_one]
theorem loadL (h : IsL rows v l) (L : List Row) {j : Nat} (hj : j < l.length) : evP (rows ++ L) (.load1 (.c (.ptr (sid v) (soff v + j)))) = some (.int .i64 (gI l j)) := by
  rw [evP_loadE (El_app h L) (by simpa using hj), nums_get, get_at hj]; rfl
theorem lenL0 (h : IsL rows v l) : evP rows (.len 0 (.c v)) = some (.int .i64 l.length) := evP_lenE h
theorem idxL0 (h : IsL rows v l) {k : IntKind} {i : Int} (h0 : 0 ≤ i) (h1 : i < l.length) : evP rows (.idxS 1 (.c v) (.c (.int k i))) = some (.ptr (sid v) (soff v + i.toNat)) := by
  rw [evP_idxE h h0 h1, Nat.mul_one]
theorem loadL0 (h : IsL rows v l) {j : Nat} (hj : j < l.length) : evP rows (.load1 (.c (.ptr (sid v) (soff v + j)))) = some (.int .i64 (gI l j)) := by
  rw [evP_loadE h (by simpa using hj), nums_get, get_at hj]; rfl
theorem IsL_app (h : IsL rows v l) (L : List Row) : IsL (rows ++ L) v l := El_app h L
theorem IsL_nil : IsL rows .nilslice [] := rfl
theorem IsL_mk {id off n : Nat} {c : Cap} {vs : List AV} (hr : row? rows id = some vs) (hs : seg vs off l.length = some (nums .i64 l)) : IsL rows (.slice id off l.length c) l := by
  unfold IsL El elems
  simp only [hr, Nat.mul_one, hs, Option.map_some]
theorem IsL_new {L : List Row} {c : Cap} {n : Nat} (hn : n = l.length) : IsL (rows ++ .cells (nums .i64 l) :: L) (.slice rows.length 0 n c) l := by
  subst hn
  exact IsL_mk (n := 0) (vs := nums .i64 l) (by simp) (by rw [nums_all rfl])
end
end Go.Abs
