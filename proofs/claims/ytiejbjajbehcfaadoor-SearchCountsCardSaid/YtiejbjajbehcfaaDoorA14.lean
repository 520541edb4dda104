/- A region whose order is drawn: the operations look at their own slots alone. -/
import Derived.Test.YtiejbjajbehcfaaDoorA13
set_option linter.unusedVariables false
set_option linter.unusedSimpArgs false
namespace Go.Abs

theorem getO_congr {sl sl' : List AV} {x : Opd} (h : ∀ t ∈ x.tmps, sl.getD t .any = sl'.getD t .any) : getO sl x = getO sl' x := by
  cases x with
  | t n => exact h n (by simp [Opd.tmps])
  | c v => rfl

theorem fillA_congr {g g' : Opd → AV} : ∀ (ps : List (Nat × Nat × Opd)) (cs : List AV), (∀ p ∈ ps, g p.2.2 = g' p.2.2) → fillA g ps cs = fillA g' ps cs
  | [], _, _ => rfl
  | (off, size, x) :: ps, cs, h => by
    have h0 : g x = g' x := h (off, size, x) (by simp)
    simp only [fillA, h0]
    split
    · exact fillA_congr ps _ (fun p hp => h p (by simp [hp]))
    · rfl

theorem optmap_congr {g g' : Opd → AV} {o : Option Opd} (h : ∀ x ∈ o.toList, g x = g' x) : o.map g = o.map g' := by
  cases o with
  | none => rfl
  | some x => simp [h x (by simp)]

theorem evalE_congr {g g' : Opd → AV} (rows : List Row) (low : Nat) (io : IOp) (h : ∀ x ∈ io.opds, g x = g' x) : evalE g rows low io = evalE g' rows low io := by
  cases io
  case mkagg z ps => simp only [evalE, evalP, fillA_congr ps z (fun p hp => h p.2.2 (List.mem_map.2 ⟨p, hp, rfl⟩))]
  case mkslice n z ps => simp only [evalE, fillA_congr ps z (fun p hp => h p.2.2 (List.mem_map.2 ⟨p, hp, rfl⟩))]
  case mkfn f cs =>
    have : cs.map g = cs.map g' := List.map_congr_left fun x hx => h x hx
    simp only [evalE, evalP, this]
  case mx cs =>
    have : cs.map g = cs.map g' := List.map_congr_left fun x hx => h x hx
    simp only [evalE, evalP, this]
  case mn cs =>
    have : cs.map g = cs.map g' := List.map_congr_left fun x hx => h x hx
    simp only [evalE, evalP, this]
  case sliceS sz x lo hi m =>
    have h0 : g x = g' x := h x (by simp [IOp.opds])
    have h1 : lo.map g = lo.map g' := optmap_congr fun y hy => h y (by simp only [IOp.opds, List.mem_cons, List.mem_append]; exact .inr (.inl (.inl hy)))
    have h2 : hi.map g = hi.map g' := optmap_congr fun y hy => h y (by simp only [IOp.opds, List.mem_cons, List.mem_append]; exact .inr (.inl (.inr hy)))
    have h3 : m.map g = m.map g' := optmap_congr fun y hy => h y (by simp only [IOp.opds, List.mem_cons, List.mem_append]; exact .inr (.inr hy))
    simp only [evalE, evalP, h0, h1, h2, h3]
  case sliceA n sz x lo hi m =>
    have h0 : g x = g' x := h x (by simp [IOp.opds])
    have h1 : lo.map g = lo.map g' := optmap_congr fun y hy => h y (by simp only [IOp.opds, List.mem_cons, List.mem_append]; exact .inr (.inl (.inl hy)))
    have h2 : hi.map g = hi.map g' := optmap_congr fun y hy => h y (by simp only [IOp.opds, List.mem_cons, List.mem_append]; exact .inr (.inl (.inr hy)))
    have h3 : m.map g = m.map g' := optmap_congr fun y hy => h y (by simp only [IOp.opds, List.mem_cons, List.mem_append]; exact .inr (.inr hy))
    simp only [evalE, evalP, h0, h1, h2, h3]
  all_goals
    simp only [IOp.opds, List.mem_cons, List.not_mem_nil, or_false, forall_eq_or_imp, forall_eq] at h
    first
      | rfl
      | (simp only [evalE, evalP, h]; done)
      | (obtain ⟨h1, h2⟩ := h; simp only [evalE, evalP, h1, h2]; done)
      | (obtain ⟨h1, h2, h3⟩ := h; simp only [evalE, evalP, h1, h2, h3]; done)

theorem want_congr {sl sl' : List AV} {g : Option (Nat × Bool)} (h : ∀ t b, g = some (t, b) → sl.getD t .any = sl'.getD t .any) : want sl g = want sl' g := by
  cases g with
  | none => rfl
  | some p => obtain ⟨t, b⟩ := p; simp only [want, h t b rfl]

theorem opd_looks {o : IOpx} {x : Opd} (hx : x ∈ o.op.opds) {t : Nat} (ht : t ∈ x.tmps) : t ∈ o.looks := by
  unfold IOpx.looks
  exact List.mem_append.2 (.inl (List.mem_flatMap.2 ⟨x, hx, ht⟩))
theorem guard_looks {o : IOpx} {t : Nat} {b : Bool} (h : o.g = some (t, b)) : t ∈ o.looks := by
  unfold IOpx.looks
  rw [h]
  simp

theorem apartI_spec {x y : IOpx} (h : apartI x y = true) : (∀ d, x.dst = some d → d ∉ y.looks) ∧ (∀ d, x.dst = some d → y.dst ≠ some d) ∧ (∀ d, y.dst = some d → d ∉ x.looks) := by
  refine ⟨fun d hd => ?_, fun d hd => ?_, fun d hd => ?_⟩ <;> simp [apartI, hd] at h
  · exact h.1.1
  · exact h.1.2
  · exact h.2

/-! ### What an operation surely follows -/
theorem before_bit_aux (l : List Oper) : ∀ (acc : Array Nat) (j i : Nat),
    let fold := fun (acc : Array Nat) (o : Oper) => acc.push (o.after.foldl (fun s e => if Region.binds .any e then s ||| 2 ^ e.on ||| acc.getD e.on 0 else s) 0)
    (∀ k, k < acc.size → (l.foldl fold acc).getD k 0 = acc.getD k 0) ∧ (l.foldl fold acc).size = acc.size + l.length := by
  induction l with
  | nil => intro acc j i; simp
  | cons o l ih =>
    intro acc j i
    have := ih (acc.push (o.after.foldl (fun s e => if Region.binds .any e then s ||| 2 ^ e.on ||| acc.getD e.on 0 else s) 0)) j i
    refine ⟨fun k hk => ?_, ?_⟩
    · have h1 := this.1 k (by simp; omega)
      rw [List.foldl_cons, h1]
      simp [Array.getD, hk, show k < acc.size + 1 from by omega, Array.getElem_push, hk]
    · rw [List.foldl_cons, this.2]; simp; omega

theorem foldl_bits (acc : Array Nat) (i : Nat) : ∀ (es : List Edge) (s : Nat), (es.foldl (fun s e => if Region.binds .any e then s ||| 2 ^ e.on ||| acc.getD e.on 0 else s) s).testBit i = true →
    s.testBit i = true ∨ ∃ e ∈ es, Region.binds .any e = true ∧ (e.on = i ∨ (acc.getD e.on 0).testBit i = true)
  | [], s, h => .inl h
  | e :: es, s, h => by
    rw [List.foldl_cons] at h
    rcases foldl_bits acc i es _ h with h | ⟨e', h1, h2⟩
    · split at h
      · rename_i hb
        simp only [Nat.testBit_or, Bool.or_eq_true, Nat.testBit_two_pow, decide_eq_true_eq] at h
        rcases h with (h | h) | h
        · exact .inl h
        · exact .inr ⟨e, by simp, hb, .inl h⟩
        · exact .inr ⟨e, by simp, hb, .inr h⟩
      · exact .inl h
    · exact .inr ⟨e', by simp [h1], h2⟩

/-- The bits of an operation: an edge's own, or those of what it waits for. -/
theorem before_bit (ops : Array Oper) (hlt : ∀ j o, ops[j]? = some o → ∀ e ∈ o.after, Region.binds .any e = true → e.on < j) {j i : Nat} (h : ((Region.before ops).getD j 0).testBit i = true) :
    ∃ o, ops[j]? = some o ∧ ∃ e ∈ o.after, Region.binds .any e = true ∧ (e.on = i ∨ ((Region.before ops).getD e.on 0).testBit i = true) := by
  have key : ∀ (l : List Oper) (acc : Array Nat), (∀ k o, l[k]? = some o → ∀ e ∈ o.after, Region.binds .any e = true → e.on < acc.size + k) → ∀ j, acc.size ≤ j →
      ((l.foldl (fun (acc : Array Nat) (o : Oper) => acc.push (o.after.foldl (fun s e => if Region.binds .any e then s ||| 2 ^ e.on ||| acc.getD e.on 0 else s) 0)) acc).getD j 0).testBit i = true →
      ∃ o, l[j - acc.size]? = some o ∧ ∃ e ∈ o.after, Region.binds .any e = true ∧ (e.on = i ∨ ((l.foldl (fun (acc : Array Nat) (o : Oper) => acc.push (o.after.foldl (fun s e => if Region.binds .any e then s ||| 2 ^ e.on ||| acc.getD e.on 0 else s) 0)) acc).getD e.on 0).testBit i = true) := by
    intro l
    induction l with
    | nil =>
      intro acc _ j hj h
      simp [Array.getD, show ¬ j < acc.size from by omega] at h
    | cons o l ih =>
      intro acc he j hj h
      rw [List.foldl_cons] at h ⊢
      have hst := before_bit_aux l (acc.push (o.after.foldl (fun s e => if Region.binds .any e then s ||| 2 ^ e.on ||| acc.getD e.on 0 else s) 0)) j i
      rcases Nat.eq_or_lt_of_le hj with hj | hj
      · subst hj
        refine ⟨o, by simp, ?_⟩
        rw [hst.1 _ (by simp)] at h
        simp only [Array.getD, Array.size_push, Nat.lt_add_one, dif_pos, Array.getInternal_eq_getElem, Array.getElem_push_eq] at h
        rw [← Array.foldl_toList] at h
        rcases foldl_bits acc i _ _ h with h | ⟨e, h1, h2, h3⟩
        · simp at h
        · refine ⟨e, by simpa using h1, h2, ?_⟩
          rcases h3 with h3 | h3
          · exact .inl h3
          · refine .inr ?_
            have hlt : e.on < acc.size := by have := he 0 o rfl e (by simpa using h1) h2; omega
            rw [hst.1 _ (by simp; omega)]
            simp only [Array.getD, Array.size_push, show e.on < acc.size + 1 from by omega, dif_pos, Array.getInternal_eq_getElem, Array.getElem_push_lt hlt]
            simpa [Array.getD, hlt] using h3
      · obtain ⟨o', h1, h2⟩ := ih _ (fun k o' hk e he' hb => by
          have := he (k + 1) o' (by simpa using hk) e he' hb
          simp; omega) j (by simp; omega) h
        refine ⟨o', ?_, h2⟩
        rw [Array.size_push] at h1
        rw [show j - acc.size = (j - (acc.size + 1)) + 1 from by omega]
        simpa using h1
  have := key ops.toList #[] (fun k o hk e he hb => by simpa using hlt k o (by simpa using hk) e he hb) j (by simp) (by
    unfold Region.before at h
    rw [← Array.foldl_toList] at h
    exact h)
  obtain ⟨o, h1, e, h2, h3, h4⟩ := this
  refine ⟨o, by simpa using h1, e, h2, h3, ?_⟩
  rcases h4 with h4 | h4
  · exact .inl h4
  · refine .inr ?_
    unfold Region.before
    rw [← Array.foldl_toList]
    exact h4
end Go.Abs
