/- The soundness of the operations that write nothing. -/
import Derived.Test.YtiejbjajbehcfaaDoorA2
set_option linter.unusedVariables false
set_option linter.unusedSimpArgs false
namespace Go.Abs
variable {κ : KRel}
section ops
variable {P : Program} {gl : List Nat} {θ : Th} {rows : List Row} {w : World} {sl : List AV} {a : Act}

/-- What an operation that writes nothing comes to. -/
def Yld (P : Program) (θ : Th) (w : World) (a : Act) (o : Oper) (v : AV) : Prop := ∃ v', (execOp a.eval o).run P w = .ok (.value v') w ∧ V θ v v'

theorem addr_add (b d n : Nat) : (⟨b, d, none⟩ : Addr).add n = ⟨b, d + n, none⟩ := by unfold Addr.add; split <;> simp_all

theorem snd_load1 (hr : HRel κ θ rows w) {t : TypeId} {x : AV} {x' : Value} (hx : V θ x x') (hag : aggT P t = some false) {id off : Nat} (he : x = .ptr id off) {vs : List AV} (hrow : row? rows id = some vs) {v : AV} (hv : vs[off]? = some v) :
    ∃ v', (Instr.loadAt t x').run P w = .ok v' w ∧ V θ v v' := by
  subst he
  cases hx with
  | ptr hL =>
    obtain ⟨v', hc, hV, _⟩ := hr.read hrow hL hv
    exact ⟨v', by simp [Instr.loadAt, Instr.sureAddr, loadVar, run_aggT hag, hc], hV⟩
theorem snd_loadN (hr : HRel κ θ rows w) {t : TypeId} {x : AV} {x' : Value} (hx : V θ x x') (hag : aggT P t = some true) {n : Nat} (hn : szT P t = some n) {id off : Nat} (he : x = .ptr id off) {vs : List AV} (hrow : row? rows id = some vs) {l : List AV} (hl : seg vs off n = some l) :
    ∃ v', (Instr.loadAt t x').run P w = .ok v' w ∧ V θ (.agg l) v' := by
  subst he
  cases hx with
  | ptr hL =>
    obtain ⟨l', hV, hlen, hc, _⟩ := hr.readSeg hrow hL hl
    have := run_loadCells_list (P := P) w _ l' hc
    rw [hlen] at this
    exact ⟨.agg l'.toArray, by simp [Instr.loadAt, Instr.sureAddr, loadVar, run_aggT hag, run_szT hn, this], .agg hV.1 hV.2⟩

theorem idx?_some {i : Int} {len j : Nat} (h : idx? i len = some j) : 0 ≤ i ∧ i < len ∧ i.toNat = j := by
  unfold idx? at h
  split at h
  · rename_i hh
    injection h with h
    exact ⟨hh.1, hh.2, h⟩
  · simp at h

theorem binI_sound {op : BinOp} {k : IntKind} {m n : Int} {v : AV} (h : binI op k m n = some v) (hsh : isShift op = false) {t : TypeId} (w : World) :
    ∃ v', (binOp op t (.int k m) (.int k n)).run P w = .ok v' w ∧ V θ v v' := by
  cases op <;> simp only [binI, reduceCtorEq] at h
  case quo | rem =>
    split at h
    · simp at h
    · rename_i h0
      injection h with h; subst h
      exact ⟨_, by simp only [binOp, ne_eq, not_true_eq_false, ↓reduceIte, Op.intDiv, if_neg h0]; rfl, .int _ _⟩
  case eql | neq | lss | leq | gtr | geq => injection h with h; subst h; exact ⟨_, by simp only [binOp, ne_eq, not_true_eq_false, ↓reduceIte]; rfl, .bool _⟩
  all_goals (injection h with h; subst h; exact ⟨_, by simp only [binOp, ne_eq, not_true_eq_false, ↓reduceIte]; rfl, .int _ _⟩)

theorem shiftI_sound {op : BinOp} {k k' : IntKind} {m n : Int} {v : AV} (h : shiftI op k m n = some v) {t : TypeId} (w : World) :
    ∃ v', (binOp op t (.int k m) (.int k' n)).run P w = .ok v' w ∧ V θ v v' := by
  unfold shiftI at h
  split at h
  · simp at h
  · rename_i h0
    cases op <;> simp at h
    · subst h; refine ⟨_, by simp [binOp, Op.shift, h0]; rfl, ?_⟩; exact .int _ _
    · subst h; refine ⟨_, by simp [binOp, Op.shift, h0]; rfl, ?_⟩; exact .int _ _

theorem binA_sound {op : BinOp} {x y v : AV} (h : binA op x y = some v) {x' y' : Value} (hx : V θ x x') (hy : V θ y y') {t : TypeId} (w : World) :
    ∃ v', (binOp op t x' y').run P w = .ok v' w ∧ V θ v v' := by
  unfold binA at h
  split at h
  · rename_i k m k' n
    cases hx; cases hy
    split at h
    · exact shiftI_sound h w
    · rename_i hsh
      split at h
      · rename_i hk
        subst hk
        exact binI_sound h (by simpa using hsh) w
      · simp at h
  · simp at h

theorem eqGuard_ints (op : BinOp) (t : TypeId) (x y : Operand) (k k' : IntKind) (m n : Int) (w : World) : (eqGuard op t x y (.int k m) (.int k' n)).run P w = .ok () w := by
  cases op <;> simp [eqGuard]

theorem snd_bin {op : BinOp} {t ty : TypeId} {x y : Operand} (hg : GRel θ gl) (hs : SRel θ sl a.tmps) {v : AV} (he : binA op (getO sl (co gl x)) (getO sl (co gl y)) = some v) :
    ∃ v', (do eqGuard op t x y (a.eval x) (a.eval y); binOp op t (a.eval x) (a.eval y) : Sem Value).run P w = .ok v' w ∧ V θ v v' := by
  have hx := opd_V hg hs x
  have hy := opd_V hg hs y
  obtain ⟨v', hv, hV⟩ := binA_sound (P := P) (t := t) he hx hy w
  refine ⟨v', ?_, hV⟩
  unfold binA at he
  split at he
  · rename_i k m k' n e1 e2
    rw [e1] at hx
    rw [e2] at hy
    generalize a.eval x = x' at *
    generalize a.eval y = y' at *
    cases hx; cases hy
    simp [eqGuard_ints, hv]
  · simp at he

theorem run_bind_ok {α β : Type} {s : Sem α} {f : α → Sem β} {w w' : World} {x : α} (h : s.run P w = .ok x w') : (s >>= f).run P w = (f x).run P w' := by
  rw [Sem.run_bind, h]; rfl

theorem unA_sound {op : UnOp} {x v : AV} (h : unA op x = some v) {x' : Value} (hx : V θ x x') (w : World) :
    ∃ v', (Op.unary op x').run P w = .ok v' w ∧ V θ v v' := by
  unfold unA at h
  split at h
  · cases hx
    cases op <;> simp only [reduceCtorEq] at h
    injection h with h; subst h; exact ⟨_, rfl, .bool _⟩
  · cases hx
    cases op <;> simp only [reduceCtorEq] at h
    injection h with h; subst h; exact ⟨_, rfl, .int _ _⟩
  · simp at h

theorem foldMx_sound : ∀ (xs : List AV) (x : AV) (v : AV) (xs' : List Value) (x' : Value), foldA mxA x xs = some v → VL θ xs xs' → V θ x x' →
    ∃ v', (xs'.foldlM Builtin.max2 x').run P w = .ok v' w ∧ V θ v v'
  | [], x, v, xs', x', h, hl, hx => by
    have : xs' = [] := by have := hl.1; simp at this; exact List.length_eq_zero_iff.1 this.symm
    subst this
    simp [foldA] at h; subst h
    exact ⟨x', rfl, hx⟩
  | y :: ys, x, v, xs', x', h, hl, hx => by
    obtain ⟨y', r', rfl, hy, hr⟩ := hl.of_cons
    simp only [foldA] at h
    split at h
    · rename_i b hb
      unfold mxA at hb
      split at hb
      · split at hb
        · rename_i hk
          subst hk
          cases hx; cases hy
          injection hb with hb; subst hb
          obtain ⟨v', hv, hV⟩ := foldMx_sound ys _ v r' _ h hr (.int _ _)
          exact ⟨v', by rw [List.foldlM_cons]; simpa [Builtin.max2] using hv, hV⟩
        · simp at hb
      · simp at hb
    · simp at h
theorem foldMn_sound : ∀ (xs : List AV) (x : AV) (v : AV) (xs' : List Value) (x' : Value), foldA mnA x xs = some v → VL θ xs xs' → V θ x x' →
    ∃ v', (xs'.foldlM Builtin.min2 x').run P w = .ok v' w ∧ V θ v v'
  | [], x, v, xs', x', h, hl, hx => by
    have : xs' = [] := by have := hl.1; simp at this; exact List.length_eq_zero_iff.1 this.symm
    subst this
    simp [foldA] at h; subst h
    exact ⟨x', rfl, hx⟩
  | y :: ys, x, v, xs', x', h, hl, hx => by
    obtain ⟨y', r', rfl, hy, hr⟩ := hl.of_cons
    simp only [foldA] at h
    split at h
    · rename_i b hb
      unfold mnA at hb
      split at hb
      · split at hb
        · rename_i hk
          subst hk
          cases hx; cases hy
          injection hb with hb; subst hb
          obtain ⟨v', hv, hV⟩ := foldMn_sound ys _ v r' _ h hr (.int _ _)
          exact ⟨v', by rw [List.foldlM_cons]; simpa [Builtin.min2] using hv, hV⟩
        · simp at hb
      · simp at hb
    · simp at h
end ops
end Go.Abs
