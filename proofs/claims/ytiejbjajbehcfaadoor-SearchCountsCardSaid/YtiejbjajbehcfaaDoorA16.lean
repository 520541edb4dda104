/- A region whose order is drawn: what the group comes to, whatever the order. -/
import Derived.Test.YtiejbjajbehcfaaDoorA15
set_option linter.unusedVariables false
set_option linter.unusedSimpArgs false
namespace Go.Abs
variable {κ : KRel}

/-! ### The run in the text's order -/
structure Tr (call : Nat → List AV → List Row → Option (AV × List Row × Option Nat)) (rows : List Row) (L : Nat → IOpx × Nat) (i m : Nat) (SL : Nat → List AV) (EX : Nat → List (Nat × Row)) (v : Nat → AV) (rw_ : Nat → List Row) : Prop where
  op : ∀ p, i ≤ p → p < m → opR call (SL p) (rows ++ maskE (L p).2 (EX p)) (rows.length + (EX p).length) (L p).1 = some (v p, rw_ p, rows.length + (EX p).length)
  sl : ∀ p, i ≤ p → p < m → SL (p + 1) = putO (SL p) (L p).1.dst (v p)
  ex : ∀ p, i ≤ p → p < m → EX (p + 1) = EX p ++ ((rw_ p).drop (rows.length + (EX p).length)).map fun x => (p, x)

theorem evalG_trace {call : Nat → List AV → List Row → Option (AV × List Row × Option Nat)} {rows : List Row} : ∀ (l : List (IOpx × Nat)) (i : Nat) (sl : List AV) (ext : List (Nat × Row)) (slm : List AV) (extm : List (Nat × Row)) (L : Nat → IOpx × Nat), (∀ p q, l[p]? = some q → L (i + p) = q) →
    evalG call rows i l sl ext = some (slm, extm) → ∃ SL EX v rw_, SL i = sl ∧ EX i = ext ∧ SL (i + l.length) = slm ∧ EX (i + l.length) = extm ∧ Tr call rows L i (i + l.length) SL EX v rw_
  | [], i, sl, ext, slm, extm, L, hL, h => by
    simp only [evalG, Option.some.injEq, Prod.mk.injEq] at h
    obtain ⟨rfl, rfl⟩ := h
    exact ⟨fun _ => sl, fun _ => ext, fun _ => .any, fun _ => [], rfl, rfl, rfl, rfl, ⟨fun p a b => by simp at b; omega, fun p a b => by simp at b; omega, fun p a b => by simp at b; omega⟩⟩
  | (o, b) :: l, i, sl, ext, slm, extm, L, hL, h => by
    simp only [evalG] at h
    split at h
    case h_2 => simp at h
    rename_i v0 rows' low' hop
    split at h
    case isFalse => simp at h
    rename_i hlow
    subst hlow
    obtain ⟨SL, EX, v, rw_, h1, h2, h3, h4, h5⟩ := evalG_trace l (i + 1) _ _ slm extm L (fun p q hp => by
      have := hL (p + 1) q (by simpa using hp)
      rwa [show i + (p + 1) = i + 1 + p from by omega] at this) h
    have hLi : L i = (o, b) := by have := hL 0 (o, b) rfl; simpa using this
    refine ⟨fun q => if q = i then sl else SL q, fun q => if q = i then ext else EX q, fun q => if q = i then v0 else v q, fun q => if q = i then rows' else rw_ q, by simp, by simp, ?_, ?_, ⟨?_, ?_, ?_⟩⟩
    · simp only [List.length_cons]
      rw [if_neg (by omega), ← h3]
      congr 1; omega
    · simp only [List.length_cons]
      rw [if_neg (by omega), ← h4]
      congr 1; omega
    · intro p hp hm
      simp only [List.length_cons] at hm
      by_cases e : p = i
      · subst e
        simp only [if_true, hLi]
        exact hop
      · simp only [if_neg e]
        exact h5.op p (by omega) (by omega)
    · intro p hp hm
      simp only [List.length_cons] at hm
      by_cases e : p = i
      · subst e
        simp only [if_true, hLi]
        rw [if_neg (by omega), h1]
      · simp only [if_neg e]
        rw [if_neg (by omega)]
        exact h5.sl p (by omega) (by omega)
    · intro p hp hm
      simp only [List.length_cons] at hm
      by_cases e : p = i
      · subst e
        simp only [if_true]
        rw [if_neg (by omega), h2]
      · simp only [if_neg e]
        rw [if_neg (by omega)]
        exact h5.ex p (by omega) (by omega)

/-- The value of a slot, and the rows that it may lead to, when some of the operations have been done. -/
def slotAt (sl0 : List AV) (n0 : Nat) (L : Nat → IOpx × Nat) (v : Nat → AV) (n : Nat → Nat) (S : Nat → Bool) : Nat → Nat → AV × Nat
  | 0, t => (sl0.getD t .any, n0)
  | j + 1, t => if S j = true ∧ (L j).1.dst = some t then (v j, n (j + 1)) else slotAt sl0 n0 L v n S j t

section
variable {sl0 : List AV} {n0 : Nat} {L : Nat → IOpx × Nat} {v : Nat → AV} {n : Nat → Nat}

theorem slotAt_congr {S S' : Nat → Bool} {t : Nat} : ∀ (m : Nat), (∀ j, j < m → (L j).1.dst = some t → S j = S' j) → slotAt sl0 n0 L v n S m t = slotAt sl0 n0 L v n S' m t
  | 0, _ => rfl
  | m + 1, h => by
    simp only [slotAt]
    by_cases hd : (L m).1.dst = some t
    · rw [h m (by omega) hd, slotAt_congr m (fun j hj => h j (by omega))]
    · rw [if_neg (fun e => hd e.2), if_neg (fun e => hd e.2), slotAt_congr m (fun j hj => h j (by omega))]
theorem slotAt_skip {S : Nat → Bool} {t i : Nat} : ∀ (m : Nat), i ≤ m → (∀ j, i ≤ j → j < m → (L j).1.dst = some t → S j = false) → slotAt sl0 n0 L v n S m t = slotAt sl0 n0 L v n S i t
  | 0, hi, _ => by have : i = 0 := by omega
                   subst this; rfl
  | m + 1, hi, h => by
    rcases Nat.eq_or_lt_of_le hi with e | e
    · rw [e]
    · simp only [slotAt]
      rw [if_neg (fun q => by have := h m (by omega) (by omega) q.2; rw [this] at q; simp at q), slotAt_skip m (by omega) (fun j a b => h j a (by omega))]
theorem slotAt_bound {S : Nat → Bool} {t B : Nat} : ∀ (m : Nat), n0 ≤ B → (∀ j, j < m → (L j).1.dst = some t → S j = true → n (j + 1) ≤ B) → (slotAt sl0 n0 L v n S m t).2 ≤ B
  | 0, h, _ => h
  | m + 1, h, k => by
    simp only [slotAt]
    split
    · rename_i q; exact k m (by omega) q.2 q.1
    · exact slotAt_bound m h (fun j hj => k j (by omega))
/-- In the text's order. -/
theorem slotAt_text {call : Nat → List AV → List Row → Option (AV × List Row × Option Nat)} {rows : List Row} {m : Nat} {SL : Nat → List AV} {EX : Nat → List (Nat × Row)} {rw_ : Nat → List Row} (h : Tr call rows L 0 m SL EX v rw_) (h0 : SL 0 = sl0) {t : Nat} (ht : t < sl0.length) :
    ∀ (i : Nat), i ≤ m → (slotAt sl0 n0 L v n (fun _ => true) i t).1 = (SL i).getD t .any ∧ (SL i).length = sl0.length
  | 0, _ => by rw [h0]; exact ⟨rfl, rfl⟩
  | i + 1, hi => by
    obtain ⟨ih1, ih2⟩ := slotAt_text h h0 ht i (by omega)
    rw [h.sl i (by omega) (by omega)]
    cases hd : (L i).1.dst with
    | none =>
      simp only [slotAt, hd, putO]
      rw [if_neg (by simp)]
      exact ⟨ih1, ih2⟩
    | some d =>
      simp only [slotAt, hd, putO, Option.some.injEq, true_and, List.length_set]
      refine ⟨?_, ih2⟩
      split
      · rename_i e
        subst e
        simp only [List.getD, List.getElem?_set, if_true]
        rw [if_pos (by omega)]
        rfl
      · rename_i e
        rw [ih1]
        simp only [List.getD, List.getElem?_set, if_neg e]
end

theorem opR_congr {call : Nat → List AV → List Row → Option (AV × List Row × Option Nat)} {sl sl' : List AV} (rows : List Row) (low : Nat) {o : IOpx} (h : ∀ t ∈ o.looks, sl.getD t .any = sl'.getD t .any) : opR call sl rows low o = opR call sl' rows low o := by
  have hO : ∀ x ∈ o.op.opds, getO sl x = getO sl' x := fun x hx => getO_congr fun t ht => h t (opd_looks hx ht)
  have hw : want sl o.g = want sl' o.g := want_congr fun t b e => h t (guard_looks e)
  have hE := evalE_congr rows low o.op hO
  unfold opR
  rw [hw]
  split <;> first | rfl | skip
  split
  · rename_i f args e
    have h1 : getO sl f = getO sl' f := hO f (by rw [e]; simp [IOp.opds])
    have h2 : args.map (getO sl) = args.map (getO sl') := List.map_congr_left fun x hx => hO x (by rw [e]; simp [IOp.opds, hx])
    rw [h1, h2]
  · exact hE

/-- A theta up to a row. -/
def Th.upto (θ : Th) (n : Nat) : Th := fun id => if id < n then θ id else none
theorem Th.upto_some {θ : Th} {n id : Nat} {L : Loc} : (θ.upto n) id = some L ↔ id < n ∧ θ id = some L := by
  unfold Th.upto
  split
  · rename_i h; simp [h]
  · rename_i h; simp [h]
theorem Th.upto_ext (θ : Th) (n : Nat) : Ext (θ.upto n) θ := fun id L h => (Th.upto_some.1 h).2
theorem Th.upto_mono {θ θ' : Th} {n n' : Nat} (h : Ext θ θ') (hn : n ≤ n') : Ext (θ.upto n) (θ'.upto n') := fun id L e => by
  obtain ⟨a, b⟩ := Th.upto_some.1 e
  exact Th.upto_some.2 ⟨by omega, h _ _ b⟩

/-- What holds when some of the operations have been done. -/
structure Inv (κ : KRel) (X : Nat → Prop) (θ0 : Th) (rows : List Row) (sl0 : List AV) (m : Nat) (L : Nat → IOpx × Nat) (v : Nat → AV) (EX : Nat → List (Nat × Row)) (w0 : World) (S : Nat → Bool) (θ : Th) (tmps : Array Value) (w : World) : Prop where
  size : tmps.size = sl0.length
  slots : ∀ t x', tmps[t]? = some x' → V (θ.upto (slotAt sl0 rows.length L v (fun j => rows.length + (EX j).length) S m t).2) (slotAt sl0 rows.length L v (fun j => rows.length + (EX j).length) S m t).1 x'
  rows_ : ∀ p q r, (EX m)[p]? = some (q, r) → S q = true → RowRel κ (θ.upto (rows.length + (EX (q + 1)).length)) (rows.length + p) w r
  base : HRel κ θ0 rows w
  ext : Ext θ0 θ
  dom : ∀ id K, θ id = some K → θ0 id = some K ∨ (w0.heap.size ≤ K.b ∧ ∃ p q r, id = rows.length + p ∧ (EX m)[p]? = some (q, r) ∧ S q = true)
  inj : ∀ p p' q q' r r' K K', p ≠ p' → (EX m)[p]? = some (q, r) → S q = true → r.owned = true → (EX m)[p']? = some (q', r') → S q' = true → r'.live = true → θ (rows.length + p) = some K → θ (rows.length + p') = some K' → K.b ≠ K'.b
  blk : ∀ id K, θ id = some K → K.b < w.heap.size
  os : w.os = w0.os
  tape : w.tape = w0.tape
  output : w.output = w0.output
  wsize : w0.heap.size ≤ w.heap.size
  heap : ∀ b, b < w0.heap.size → ¬ X b → w.heap[b]? = w0.heap[b]?
  base0 : ∀ id K, θ0 id = some K → K.b < w0.heap.size
end Go.Abs
