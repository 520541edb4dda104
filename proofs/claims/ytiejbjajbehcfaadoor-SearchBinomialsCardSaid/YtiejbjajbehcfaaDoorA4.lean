/- The soundness of the operations that write nothing, second part. -/
import Derived.Test.YtiejbjajbehcfaaDoorA3
import Derived.Laws.Small
import Derived.Laws.StructEq
import Derived.Laws.Cover3
set_option linter.unusedVariables false
set_option linter.unusedSimpArgs false
namespace Go.Abs
variable {κ : KRel}
section ops
variable {P : Program} {gl : List Nat} {θ : Th} {rows : List Row} {w : World} {sl : List AV} {a : Act}

/-! ### Equality -/
theorem run_part_int {t : TypeId} {k : IntKind} (hu : P.underlying t = some (.int k)) (xs : Array Value) (off : Nat) (x : Value) (hx : xs[off]? = some x) (w : World) : (part t xs off).run P w = .ok x w := by
  simp [part, isAgg, run_underlying hu, hx]
theorem run_equalIn_ints (d : Nat) {t : TypeId} {k : IntKind} (hu : P.underlying t = some (.int k)) (j : IntKind) (m n : Int) (w : World) :
    (Op.equalIn (d + 1) t (.int j m) (.int j n)).run P w = .ok (m == n) w := by
  simp [Op.equalIn, run_underlying hu]

theorem eqInts_cons {x y : AV} {xs ys : List AV} {r : Bool} (h : eqInts (x :: xs) (y :: ys) = some r) : ∃ k m n r', x = .int k m ∧ y = .int k n ∧ eqInts xs ys = some r' ∧ r = (m == n && r') := by
  cases x <;> cases y <;> simp only [eqInts, reduceCtorEq] at h
  rename_i k m k' n
  split at h
  · rename_i hk
    subst hk
    cases h' : eqInts xs ys with
    | none => rw [h'] at h; simp at h
    | some r' =>
      rw [h'] at h
      simp only [Option.map_some, Option.some.injEq] at h
      exact ⟨k, m, n, r', rfl, rfl, rfl, h.symm⟩
  · simp at h
theorem VL.ints {θ : Th} : ∀ {xs ys : List AV} {r : Bool} {xs' ys' : List Value}, eqInts xs ys = some r → VL θ xs xs' → VL θ ys ys' → xs' = xs'.map id ∧
    (∀ i, i < xs'.length → ∃ j m n, xs'[i]? = some (.int j m) ∧ ys'[i]? = some (.int j n)) ∧ xs'.length = ys'.length
  | [], [], r, xs', ys', h, hx, hy => by
    have e1 : xs' = [] := List.length_eq_zero_iff.1 hx.1.symm
    have e2 : ys' = [] := List.length_eq_zero_iff.1 hy.1.symm
    subst e1; subst e2
    exact ⟨rfl, fun i hi => by simp at hi, rfl⟩
  | x :: xs, y :: ys, r, xs', ys', h, hx, hy => by
    obtain ⟨x', u, rfl, hx1, hx2⟩ := hx.of_cons
    obtain ⟨y', v, rfl, hy1, hy2⟩ := hy.of_cons
    obtain ⟨k, m, n, r', rfl, rfl, h', _⟩ := eqInts_cons h
    cases hx1; cases hy1
    obtain ⟨_, q, q'⟩ := VL.ints h' hx2 hy2
    refine ⟨by simp, fun i hi => ?_, by simp [q']⟩
    cases i with
    | zero => exact ⟨_, _, _, rfl, rfl⟩
    | succ i => exact q i (by simpa using hi)
  | [], y :: ys, r, xs', ys', h, _, _ => by simp [eqInts] at h
  | x :: xs, [], r, xs', ys', h, _, _ => by simp [eqInts] at h

/-- 'eqInts' from a place on. -/
theorem eqInts_from {θ : Th} : ∀ {xs ys : List AV} {r : Bool}, eqInts xs ys = some r → ∀ {xs' ys' : List Value}, VL θ xs xs' → VL θ ys ys' →
    ∀ (d : Nat) (e : TypeId) (k : IntKind), P.underlying e = some (.int k) → ∀ (X Y : Array Value) (s : Nat), (∀ j u, xs'[j]? = some u → X[s + j]? = some u) → (∀ j u, ys'[j]? = some u → Y[s + j]? = some u) →
    ∀ w, (Op.eqItems (d + 1) e 1 X Y (List.range' s xs.length)).run P w = .ok r w
  | [], [], r, h, xs', ys', hx, hy, d, e, k, hu, X, Y, s, hX, hY, w => by
    simp [eqInts] at h; subst h; simp [Op.eqItems]
  | x :: xs, y :: ys, r, h, xs', ys', hx, hy, d, e, k, hu, X, Y, s, hX, hY, w => by
    obtain ⟨x', u, rfl, hx1, hx2⟩ := hx.of_cons
    obtain ⟨y', v, rfl, hy1, hy2⟩ := hy.of_cons
    obtain ⟨k1, m, n, r', rfl, rfl, h', e'⟩ := eqInts_cons h
    cases hx1; cases hy1
    have ih := eqInts_from h' hx2 hy2 d e k hu X Y (s + 1) (fun j u hj => by have := hX (j + 1) u (by simpa using hj); rwa [show s + (j + 1) = s + 1 + j from by omega] at this)
      (fun j u hj => by have := hY (j + 1) u (by simpa using hj); rwa [show s + (j + 1) = s + 1 + j from by omega] at this) w
    have p1 := run_part_int hu X s (.int k1 m) (by simpa using hX 0 _ rfl) w
    have p2 := run_part_int hu Y s (.int k1 n) (by simpa using hY 0 _ rfl) w
    simp only [List.length_cons, List.range'_succ, Op.eqItems, Nat.mul_one, Sem.run_bind, p1, p2, Result.andThen_ok, run_equalIn_ints d hu]
    cases hmn : (m == n)
    · rw [hmn] at e'
      rw [e']
      simp
    · rw [hmn] at e'
      rw [e']
      simpa using ih
  | [], y :: ys, r, h, _, _, _, _, _, _, _, _, _, _, _, _, _, _ => by simp [eqInts] at h
  | x :: xs, [], r, h, _, _, _, _, _, _, _, _, _, _, _, _, _, _ => by simp [eqInts] at h

theorem eqFields_from {θ : Th} : ∀ {xs ys : List AV} {r : Bool}, eqInts xs ys = some r → ∀ {xs' ys' : List Value}, VL θ xs xs' → VL θ ys ys' →
    ∀ (d : Nat) (fs : List Field) (s : Nat), fs.length = xs.length → (∀ j f, fs[j]? = some f → f.name ≠ "_" ∧ f.offset = s + j ∧ ∃ k, P.underlying f.type = some (.int k)) →
    ∀ (X Y : Array Value), (∀ j u, xs'[j]? = some u → X[s + j]? = some u) → (∀ j u, ys'[j]? = some u → Y[s + j]? = some u) →
    ∀ w, (Op.eqFields (d + 1) X Y fs).run P w = .ok r w
  | [], [], r, h, xs', ys', hx, hy, d, fs, s, hl, hf, X, Y, hX, hY, w => by
    have : fs = [] := List.length_eq_zero_iff.1 hl
    subst this
    simp [eqInts] at h; subst h; simp [Op.eqFields]
  | x :: xs, y :: ys, r, h, xs', ys', hx, hy, d, [], s, hl, hf, X, Y, hX, hY, w => by simp at hl
  | x :: xs, y :: ys, r, h, xs', ys', hx, hy, d, f :: fs, s, hl, hf, X, Y, hX, hY, w => by
    obtain ⟨x', u, rfl, hx1, hx2⟩ := hx.of_cons
    obtain ⟨y', v, rfl, hy1, hy2⟩ := hy.of_cons
    obtain ⟨k1, m, n, r', rfl, rfl, h', e'⟩ := eqInts_cons h
    cases hx1; cases hy1
    obtain ⟨hn, ho, k, hu⟩ := hf 0 f rfl
    have ih := eqFields_from h' hx2 hy2 d fs (s + 1) (by simpa using hl) (fun j g hg => by obtain ⟨p, q, r⟩ := hf (j + 1) g (by simpa using hg); exact ⟨p, by omega, r⟩) X Y
      (fun j u hj => by have := hX (j + 1) u (by simpa using hj); rwa [show s + (j + 1) = s + 1 + j from by omega] at this)
      (fun j u hj => by have := hY (j + 1) u (by simpa using hj); rwa [show s + (j + 1) = s + 1 + j from by omega] at this) w
    have p1 := run_part_int hu X f.offset (.int k1 m) (by rw [ho]; simpa using hX 0 _ rfl) w
    have p2 := run_part_int hu Y f.offset (.int k1 n) (by rw [ho]; simpa using hY 0 _ rfl) w
    simp only [Op.eqFields, ne_eq, hn, not_false_eq_true, if_true, Sem.run_bind, p1, p2, Result.andThen_ok, run_equalIn_ints d hu]
    cases hmn : (m == n)
    · rw [hmn] at e'
      rw [e']
      simp
    · rw [hmn] at e'
      rw [e']
      simpa using ih
  | [], y :: ys, r, h, _, _, _, _, _, _, _, _, _, _, _, _, _, _ => by simp [eqInts] at h
  | x :: xs, [], r, h, _, _, _, _, _, _, _, _, _, _, _, _, _, _ => by simp [eqInts] at h

theorem equal_ints {t : TypeId} {n : Nat} (h : intsT P t = some n) {xs ys : List AV} {r : Bool} (he : eqInts xs ys = some r) (hlx : xs.length = n) {xs' ys' : List Value} (hx : VL θ xs xs') (hy : VL θ ys ys') (w : World) :
    (Op.equal t (.agg xs'.toArray) (.agg ys'.toArray)).run P w = .ok r w := by
  unfold intsT at h
  split at h
  · rename_i m e hu
    split at h
    · rename_i k hk
      split at h
      · rename_i hs
        injection h with h
        subst h
        obtain ⟨i, hi, hsz⟩ := szT_info hs
        unfold Op.equal Op.maxDepth
        rw [run_equalIn_array w 9999 _ _ hu hi, show P.cellsOf e = 1 from by simp [Program.cellsOf, hi, hsz], List.range_eq_range', ← hlx]
        exact eqInts_from he hx hy 9998 e k hk _ _ 0 (fun j u hj => by simpa using hj) (fun j u hj => by simpa using hj) w
      · simp at h
    · simp at h
  · rename_i fs hu
    split at h
    · rename_i hc
      injection h with h
      simp only [Bool.and_eq_true, Bool.not_eq_true', List.all_eq_true] at hc
      obtain ⟨hp, hf⟩ := hc
      have hfs : P.fieldsOf t = fs := by simp [Program.fieldsOf, hu]
      unfold Op.equal Op.maxDepth
      rw [run_equalIn_struct w 9999 t _ _ (by rw [hfs]; exact hu) hp, hfs]
      refine eqFields_from he hx hy 9998 fs.toList 0 (by simp [h, hlx]) (fun j f hj => ?_) _ _ (fun j u hj => by simpa using hj) (fun j u hj => by simpa using hj) w
      have hz : (f, j) ∈ fs.toList.zipIdx := by
        rw [List.mem_zipIdx_iff_getElem?]
        exact hj
      have := hf _ hz
      simp only [Bool.and_eq_true, bne_iff_ne, ne_eq, beq_iff_eq] at this
      obtain ⟨⟨h1, h2⟩, h3⟩ := this
      refine ⟨h1, by omega, ?_⟩
      split at h3
      · rename_i k hk; exact ⟨k, hk⟩
      · simp at h3
    · simp at h
  · simp at h

theorem eqI_slice_nil (d : Nat) {t e : TypeId} (hu : P.underlying t = some (.slice e)) (p : Option Addr) (l c : Nat) (w : World) : (Op.equalIn (d + 1) t (.slice p l c) (.slice none 0 0)).run P w = .ok p.isNone w := by
  cases p <;> simp [Op.equalIn, run_underlying hu]
theorem eqI_nil_slice (d : Nat) {t e : TypeId} (hu : P.underlying t = some (.slice e)) (p : Option Addr) (l c : Nat) (w : World) : (Op.equalIn (d + 1) t (.slice none 0 0) (.slice p l c)).run P w = .ok p.isNone w := by
  simp [Op.equalIn, run_underlying hu]
theorem eqI_ptr_nil (d : Nat) {t e : TypeId} (hu : P.underlying t = some (.pointer e)) (p : Option Addr) (w : World) : (Op.equalIn (d + 1) t (.pointer p) (.pointer none)).run P w = .ok p.isNone w := by
  cases p <;> simp [Op.equalIn, run_underlying hu]
theorem eqI_func_nil (d : Nat) {t : TypeId} {p r : Array TypeId} {v : Bool} (hu : P.underlying t = some (.func p r v)) (fn : Fn) (x y : Array Value) (w : World) : (Op.equalIn (d + 1) t (.func fn x y) .nilFunc).run P w = .ok false w := by
  simp [Op.equalIn, run_underlying hu]
theorem eqI_nil_func (d : Nat) {t : TypeId} {p r : Array TypeId} {v : Bool} (hu : P.underlying t = some (.func p r v)) (w : World) : (Op.equalIn (d + 1) t .nilFunc .nilFunc).run P w = .ok true w := by
  simp [Op.equalIn, run_underlying hu]

/-- The type that a kind of comparison is of. -/
def kdOk (P : Program) (t : TypeId) : EqK → Prop
  | .bool => P.underlying t = some .bool
  | .slice => ∃ e, P.underlying t = some (.slice e)
  | .func => ∃ p r v, P.underlying t = some (.func p r v)
  | .ptr => ∃ e, P.underlying t = some (.pointer e)
  | .ints n => intsT P t = some n ∧ P.eqGuardType P.depth t = false

theorem eqA_sound {t : TypeId} {kd : EqK} (hk : kdOk P t kd) {x y : AV} {r : Bool} (he : eqA kd x y = some r) {x' y' : Value} (hx : V θ x x') (hy : V θ y y') (ox oy : Operand) (op : BinOp) (hop : op = .eql ∨ op = .neq) (w : World) :
    (do eqGuard op t ox oy x' y'; binOp op t x' y' : Sem Value).run P w = .ok (.bool (if op = .neq then !r else r)) w := by
  have key : (eqGuard op t ox oy x' y').run P w = .ok () w ∧ (Op.equal t x' y').run P w = .ok r w ∧ (binOp .eql t x' y' = do pure (.bool (← Op.equal t x' y'))) ∧ (binOp .neq t x' y' = do pure (.bool (!(← Op.equal t x' y')))) := by
    unfold eqA at he
    split at he <;> first
      | (simp at he; done)
      | skip
    · cases hx; cases hy
      injection he with he; subst he
      refine ⟨by rcases hop with rfl | rfl <;> simp [eqGuard], run_equal_bool w t _ _ hk, rfl, rfl⟩
    · split at he
      · rename_i hl
        cases hx with
        | agg hx1 hx2 =>
          cases hy with
          | agg hy1 hy2 =>
            refine ⟨?_, equal_ints hk.1 he hl.1 ⟨hx1, hx2⟩ ⟨hy1, hy2⟩ w, rfl, rfl⟩
            rcases hop with rfl | rfl <;> simp [eqGuard, hk.2]
      · simp at he
    all_goals (injection he with he; subst he; cases hx <;> cases hy)
    · obtain ⟨e, hu⟩ := hk
      exact ⟨by rcases hop with rfl | rfl <;> simp [eqGuard], eqI_slice_nil 9999 hu _ _ _ w, rfl, rfl⟩
    · obtain ⟨e, hu⟩ := hk
      exact ⟨by rcases hop with rfl | rfl <;> simp [eqGuard], eqI_slice_nil 9999 hu _ _ _ w, rfl, rfl⟩
    · obtain ⟨e, hu⟩ := hk
      exact ⟨by rcases hop with rfl | rfl <;> simp [eqGuard], eqI_slice_nil 9999 hu _ _ _ w, rfl, rfl⟩
    · obtain ⟨e, hu⟩ := hk
      exact ⟨by rcases hop with rfl | rfl <;> simp [eqGuard], eqI_nil_slice 9999 hu _ _ _ w, rfl, rfl⟩
    · obtain ⟨e, hu⟩ := hk
      exact ⟨by rcases hop with rfl | rfl <;> simp [eqGuard], eqI_nil_slice 9999 hu _ _ _ w, rfl, rfl⟩
    · obtain ⟨p, r, v, hu⟩ := hk
      exact ⟨by rcases hop with rfl | rfl <;> simp [eqGuard], eqI_nil_func 9999 hu w, rfl, rfl⟩
    · obtain ⟨p, r, v, hu⟩ := hk
      exact ⟨by rcases hop with rfl | rfl <;> simp [eqGuard], eqI_func_nil 9999 hu _ _ _ w, rfl, rfl⟩
    · obtain ⟨e, hu⟩ := hk
      exact ⟨by rcases hop with rfl | rfl <;> simp [eqGuard], eqI_ptr_nil 9999 hu _ w, rfl, rfl⟩
    · obtain ⟨e, hu⟩ := hk
      exact ⟨by rcases hop with rfl | rfl <;> simp [eqGuard], eqI_ptr_nil 9999 hu _ w, rfl, rfl⟩
  obtain ⟨h1, h2, h3, h4⟩ := key
  rw [run_bind_ok h1]
  rcases hop with rfl | rfl
  · rw [h3, run_bind_ok h2]; rfl
  · rw [h4, run_bind_ok h2]; rfl
end ops
end Go.Abs
