/- A region whose order is drawn: one operation more. -/
import Derived.Test.YtiejbjajbehcfaaDoorA16
set_option linter.unusedVariables false
set_option linter.unusedSimpArgs false
namespace Go.Abs
section
variable {P : Program} {gl : List Nat} {call : Nat → List AV → List Row → Option (AV × List Row × Option Nat)} {rows : List Row} {sl0 : List AV} {m : Nat} {L : Nat → IOpx × Nat} {v : Nat → AV} {EX : Nat → List (Nat × Row)} {SL : Nat → List AV} {rw_ : Nat → List Row} {θ0 : Th} {w0 : World} {X : Nat → Prop}

theorem HRel.later {θ : Th} {rows : List Row} {w w' : World} (h : HRel (KP P gl) θ rows w) (hsz : w.heap.size ≤ w'.heap.size) (hb : ∀ b, b < w.heap.size → w'.heap[b]? = w.heap[b]?) : HRel (KP P gl) θ rows w' :=
  ⟨h.dom, fun id K e => Nat.lt_of_lt_of_le (h.blk id K e) hsz, fun id r e => (h.row id r e).mono (Ext.refl _) (fun K hK => hb _ (h.blk id K hK)), h.inj⟩

theorem Tr.ex_len (h : Tr call rows L 0 m SL EX v rw_) {i j : Nat} (hij : i ≤ j) (hj : j ≤ m) : (EX i).length ≤ (EX j).length := by
  induction j with
  | zero => have : i = 0 := by omega
            subst this; exact Nat.le_refl _
  | succ j ih =>
    rcases Nat.eq_or_lt_of_le hij with e | e
    · rw [e]; exact Nat.le_refl _
    · have := ih (by omega) (by omega)
      rw [h.ex j (by omega) (by omega)]
      simp; omega
theorem Tr.ex_prefix (h : Tr call rows L 0 m SL EX v rw_) {i j : Nat} (hij : i ≤ j) (hj : j ≤ m) {p : Nat} (hp : p < (EX i).length) : (EX j)[p]? = (EX i)[p]? := by
  induction j with
  | zero => have : i = 0 := by omega
            subst this; rfl
  | succ j ih =>
    rcases Nat.eq_or_lt_of_le hij with e | e
    · rw [e]
    · have h1 := h.ex_len (i := i) (j := j) (by omega) (by omega)
      rw [h.ex j (by omega) (by omega), List.getElem?_append_left (by omega)]
      exact ih (by omega) (by omega)
theorem Tr.sl_len (h : Tr call rows L 0 m SL EX v rw_) (h0 : SL 0 = sl0) : ∀ (i : Nat), i ≤ m → (SL i).length = sl0.length
  | 0, _ => by rw [h0]
  | i + 1, hi => by
    rw [h.sl i (by omega) (by omega)]
    cases (L i).1.dst <;> simp [putO, Tr.sl_len h h0 i (by omega)]
/-- Whose a row is. -/
theorem Tr.owner (h : Tr call rows L 0 m SL EX v rw_) (h0 : EX 0 = []) {p q : Nat} {r : Row} : ∀ {i : Nat}, i ≤ m → (EX i)[p]? = some (q, r) → q < i ∧ (EX q).length ≤ p ∧ p < (EX (q + 1)).length ∧ (rw_ q)[rows.length + p]? = some r
  | 0, _, e => by rw [h0] at e; simp at e
  | i + 1, hi, e => by
    have hx := h.ex i (by omega) (by omega)
    rw [hx] at e
    by_cases hp : p < (EX i).length
    · rw [List.getElem?_append_left hp] at e
      obtain ⟨a, b⟩ := Tr.owner h h0 (by omega) e
      exact ⟨by omega, b⟩
    · rw [List.getElem?_append_right (by omega)] at e
      simp only [List.getElem?_map, Option.map_eq_some_iff, Prod.mk.injEq] at e
      obtain ⟨x, e1, e2, e3⟩ := e
      subst e2; subst e3
      rw [List.getElem?_drop] at e1
      have hlt := (List.getElem?_eq_some_iff.1 e1).1
      refine ⟨by omega, by omega, ?_, ?_⟩
      · rw [hx]; simp; omega
      · rw [← e1]; congr 1; omega

theorem Inv.start (h0 : EX 0 = []) {a : Act} (hr : HRel (KP P gl) θ0 rows w0) (hs : SRel θ0 sl0 a.tmps) : Inv (KP P gl) X θ0 rows sl0 m L v EX w0 (fun _ => false) θ0 a.tmps w0 where
  size := hs.size.symm
  slots := fun t x' hx => by
    have e := slotAt_skip (sl0 := sl0) (n0 := rows.length) (L := L) (v := v) (n := fun j => rows.length + (EX j).length) (S := fun _ => false) (t := t) (i := 0) m (Nat.zero_le _) (fun j _ _ _ => rfl)
    rw [e]
    simp only [slotAt]
    have hV : V θ0 (sl0.getD t .any) x' := by
      have := hs.get t
      simpa [Array.getD_eq_getD_getElem?, hx] using this
    exact hV.to fun id _ K hK => Th.upto_some.2 ⟨hr.dom id K hK, hK⟩
  rows_ := fun p q r _ hS => by simp at hS
  base := hr.later (Nat.le_refl _) (fun _ _ => rfl)
  ext := Ext.refl _
  dom := fun id K h => .inl h
  inj := fun p p' q q' r r' K K' _ _ hS => by simp at hS
  blk := hr.blk
  os := rfl
  tape := rfl
  output := rfl
  wsize := Nat.le_refl _
  heap := fun _ _ _ => rfl
  base0 := hr.blk

theorem maskE_get (b : Nat) (ext : List (Nat × Row)) (p : Nat) : (maskE b ext)[p]? = (ext[p]?).map fun e => if b.testBit e.1 then e.2 else .dead := by
  simp [maskE]

/-- The rows as an operation knows them. -/
theorem Inv.masked (htr : Tr call rows L 0 m SL EX v rw_) (h0 : EX 0 = []) {S : Nat → Bool} {θ : Th} {tmps : Array Value} {w : World} (hI : Inv (KP P gl) X θ0 rows sl0 m L v EX w0 S θ tmps w) {i : Nat} (hi : i < m) {bits : Nat} (hready : ∀ q, bits.testBit q = true → S q = true) :
    HRel (KP P gl) (θ.upto (rows.length + (EX i).length)) (rows ++ maskE bits (EX i)) w := by
  have hlen : (maskE bits (EX i)).length = (EX i).length := by simp [maskE]
  have hbase : ∀ id K, id < rows.length → θ id = some K → θ0 id = some K := fun id K hid hK => by
    rcases hI.dom id K hK with h | ⟨_, p, q, r, e, _⟩
    · exact h
    · omega
  have hE0 : Ext θ0 (θ.upto (rows.length + (EX i).length)) := fun id K hK => Th.upto_some.2 ⟨by have := hI.base.dom id K hK; omega, hI.ext _ _ hK⟩
  -- a row of the masked rows is an old one, or a new one that may be known
  have hget : ∀ id r, (rows ++ maskE bits (EX i))[id]? = some r → r.live = true → (id < rows.length ∧ rows[id]? = some r) ∨ ∃ p q, id = rows.length + p ∧ p < (EX i).length ∧ (EX m)[p]? = some (q, r) ∧ S q = true ∧ q < i := fun id r e hl => by
    rcases Nat.lt_or_ge id rows.length with h | h
    · rw [List.getElem?_append_left h] at e
      exact .inl ⟨h, e⟩
    · rw [List.getElem?_append_right h, maskE_get] at e
      simp only [Option.map_eq_some_iff] at e
      obtain ⟨⟨q, r0⟩, e1, e2⟩ := e
      simp only at e2
      split at e2
      · rename_i hb
        subst e2
        have hp : id - rows.length < (EX i).length := (List.getElem?_eq_some_iff.1 e1).1
        obtain ⟨o1, _⟩ := Tr.owner htr h0 (i := i) (by omega) e1
        exact .inr ⟨id - rows.length, q, by omega, hp, by rw [htr.ex_prefix (i := i) (j := m) (by omega) (Nat.le_refl _) hp]; exact e1, hready q hb, o1⟩
      · subst e2; simp [Row.live] at hl
  refine ⟨fun id K e => ?_, fun id K e => hI.blk id K (Th.upto_some.1 e).2, fun id r e => ?_, fun p p' r s K K' hne hp hpo hq hql hK hK' => ?_⟩
  · have := (Th.upto_some.1 e).1
    simp [hlen]; omega
  · by_cases hl : r.live = true
    · rcases hget id r e hl with ⟨a, b⟩ | ⟨p, q, rfl, c1, c2, c3, c4⟩
      · exact (hI.base.row id r b).mono hE0 (fun _ _ => rfl)
      · refine (hI.rows_ p q r c2 c3).mono (Th.upto_mono (Ext.refl _) ?_) (fun _ _ => rfl)
        have := htr.ex_len (i := q + 1) (j := i) (by omega) (by omega)
        omega
    · cases r <;> first | (simp [Row.live] at hl; done) | trivial
  · have hK := (Th.upto_some.1 hK).2
    have hK' := (Th.upto_some.1 hK').2
    rcases hget p r hp (Row.live_of_owned hpo) with ⟨a, b⟩ | ⟨x, q, rfl, c1, c2, c3, c4⟩
    · rcases hget p' s hq hql with ⟨a', b'⟩ | ⟨x', q', rfl, d1, d2, d3, d4⟩
      · exact hI.base.inj p p' r s K K' hne b hpo b' hql (hbase p K a hK) (hbase p' K' a' hK')
      · have h1 := hI.base0 p K (hbase p K a hK)
        rcases hI.dom _ K' hK' with h | ⟨h2, _⟩
        · have := hI.base.dom _ K' h; omega
        · omega
    · rcases hget p' s hq hql with ⟨a', b'⟩ | ⟨x', q', rfl, d1, d2, d3, d4⟩
      · have h1 := hI.base0 p' K' (hbase p' K' a' hK')
        rcases hI.dom _ K hK with h | ⟨h2, _⟩
        · have := hI.base.dom _ K h; omega
        · omega
      · exact hI.inj x x' q q' r s K K' (fun e => hne (by omega)) c2 c3 hpo d2 d3 hql hK hK'

theorem Inv.step (hcall : CallOK P gl call) (htr : Tr call rows L 0 m SL EX v rw_) (hS0 : SL 0 = sl0) (h0 : EX 0 = []) (hg : GRel θ0 gl) {S : Nat → Bool} {θ : Th} {a : Act} {w : World} (hI : Inv (KP P gl) X θ0 rows sl0 m L v EX w0 S θ a.tmps w) {i : Nat} (hi : i < m) (hSi : S i = false)
    (hap : ∀ j, j < m → ∀ k, k < j → (L j).2.testBit k = true ∨ apartI (L k).1 (L j).1 = true) (hclosed : ∀ j, S j = true → j < m → ∀ q, (L j).2.testBit q = true → S q = true) (hready : ∀ q, (L i).2.testBit q = true → S q = true)
    {ops : Array Oper} {o : Oper} {ii : Nat} (ho : ops[ii]? = some o) (hLo : (L i).1 = copx P gl ops o) (b : Frame) (rest : List Nat) (k : List Item) (cs : List Frame) :
    ∃ θ' w' v', Steps P (lone (b.atR a (.inRegion ops (ii :: rest) :: k)) cs w) (lone (b.atR (a.put o.dst v') (.inRegion ops rest :: k)) cs w') ∧ Inv (KP P gl) X θ0 rows sl0 m L v EX w0 (fun j => S j || j == i) θ' (a.put o.dst v').tmps w' ∧ Ext θ θ' ∧ ∀ b, b < w.heap.size → w'.heap[b]? = w.heap[b]? := by
  have hrel := hI.masked htr h0 hi (bits := (L i).2) hready
  have hlen : (rows ++ maskE (L i).2 (EX i)).length = rows.length + (EX i).length := by simp [maskE]
  -- the slots that it looks at
  have hlook : ∀ t ∈ (L i).1.looks, slotAt sl0 rows.length L v (fun j => rows.length + (EX j).length) S m t = slotAt sl0 rows.length L v (fun j => rows.length + (EX j).length) S i t ∧
      slotAt sl0 rows.length L v (fun j => rows.length + (EX j).length) S i t = slotAt sl0 rows.length L v (fun j => rows.length + (EX j).length) (fun _ => true) i t := fun t ht => by
    refine ⟨slotAt_skip m (by omega) (fun j hj hjm hd => ?_), slotAt_congr i (fun j hj hd => ?_)⟩
    · rcases Nat.eq_or_lt_of_le hj with e | e
      · rw [← e]; exact hSi
      · cases hSj : S j with
        | false => rfl
        | true =>
          rcases hap j hjm i e with h | h
          · have := hclosed j hSj hjm i h
            rw [hSi] at this; simp at this
          · exact absurd ht ((apartI_spec h).2.2 t hd)
    · rcases hap i hi j hj with h | h
      · rw [hready j h]
      · exact absurd ht ((apartI_spec h).1 t hd)
  let X : List AV := (List.range sl0.length).map fun t => if t ∈ (L i).1.looks then (SL i).getD t .any else .any
  have hX : SRel (θ.upto (rows.length + (EX i).length)) X a.tmps := by
    refine ⟨by simp [X, hI.size], fun t x x' hx hx' => ?_⟩
    have htl : t < sl0.length := by have := (List.getElem?_eq_some_iff.1 hx).1; simpa [X] using this
    simp only [X, List.getElem?_map, List.getElem?_range htl, Option.map_some, Option.some.injEq] at hx
    subst hx
    split
    · rename_i ht
      obtain ⟨e1, e2⟩ := hlook t ht
      have hV := hI.slots t x' hx'
      rw [e1] at hV
      have hB := slotAt_bound (sl0 := sl0) (n0 := rows.length) (L := L) (v := v) (n := fun j => rows.length + (EX j).length) (S := S) (t := t) (B := rows.length + (EX i).length) i (by omega) (fun j hj _ _ => by
        have := htr.ex_len (i := j + 1) (j := i) (by omega) (by omega)
        omega)
      rw [e2, (slotAt_text (sl0 := sl0) htr hS0 htl i (by omega)).1, ← e2] at hV
      exact hV.mono (Th.upto_mono (Ext.refl _) hB)
    · exact .any _
  have hop := htr.op i (by omega) hi
  have hcg : opR call X (rows ++ maskE (L i).2 (EX i)) (rows.length + (EX i).length) (L i).1 = some (v i, rw_ i, rows.length + (EX i).length) := by
    rw [opR_congr (sl' := SL i) _ _ (fun t ht => ?_)]
    · exact hop
    · rcases Nat.lt_or_ge t sl0.length with htl | htl
      · simp only [X, List.getD, List.getElem?_map, List.getElem?_range htl, Option.map_some, Option.getD_some, if_pos ht]
      · have hL' := htr.sl_len hS0 i (by omega)
        rw [List.getD, List.getD, List.getElem?_eq_none (l := X) (by simp only [X, List.length_map, List.length_range]; exact htl), List.getElem?_eq_none (l := SL i) (by omega)]
  rw [hLo] at hcg
  have hgθ : GRel (θ.upto (rows.length + (EX i).length)) gl := fun x g e => by
    obtain ⟨K, a1, a2⟩ := hg x g e
    exact ⟨K, Th.upto_some.2 ⟨by have := hI.base.dom x K a1; omega, hI.ext _ _ a1⟩, a2⟩
  obtain ⟨θi, w', v', st, hv', hF⟩ := op_step hcall ho hcg hrel hgθ hX (by omega) b rest k cs
  have hF2 : Fr (KP P gl) (θ.upto (rows.length + (EX i).length)) θi (rows ++ maskE (L i).2 (EX i)) (rw_ i) (rows ++ maskE (L i).2 (EX i)).length (rows ++ maskE (L i).2 (EX i)).length w w' := by rw [hlen]; exact hF
  have hclean := fun b hb => Fr.clean hrel hF2 b hb
  have hlenR : rows.length + (EX i).length ≤ (rw_ i).length := by have := hF.len; omega
  have hex := htr.ex i (by omega) hi
  have hn1 : rows.length + (EX (i + 1)).length = (rw_ i).length := by rw [hex]; simp; omega
  let θ' : Th := fun id => if rows.length + (EX i).length ≤ id ∧ id < (rw_ i).length then θi id else θ id
  have hnone : ∀ id, rows.length + (EX i).length ≤ id → id < (rw_ i).length → θ id = none := fun id h1 h2 => by
    cases e : θ id with
    | none => rfl
    | some K =>
      rcases hI.dom id K e with h | ⟨_, p, q, r, e1, e2, e3⟩
      · have := hI.base.dom id K h; omega
      · obtain ⟨o1, o2, o3, _⟩ := Tr.owner htr h0 (i := m) (Nat.le_refl _) e2
        have hq : q = i := by
          rcases Nat.lt_trichotomy q i with h | h | h
          · have := htr.ex_len (i := q + 1) (j := i) (by omega) (by omega); omega
          · exact h
          · have := htr.ex_len (i := i + 1) (j := q) (by omega) (by omega); omega
        rw [hq, hSi] at e3
        simp at e3
  have hEx : Ext θ θ' := fun id K e => by
    simp only [θ']
    rw [if_neg]
    · exact e
    · rintro ⟨h1, h2⟩
      rw [hnone id h1 h2] at e
      simp at e
  have hEi : Ext θi (θ'.upto (rw_ i).length) := fun id K e => by
    have hlt := hF.rel.dom id K e
    refine Th.upto_some.2 ⟨hlt, ?_⟩
    simp only [θ']
    split
    · exact e
    · rename_i hh
      have hid : id < (rows ++ maskE (L i).2 (EX i)).length := by omega
      exact (Th.upto_some.1 (ext_back hrel hF hid e)).2
  have hnew : ∀ id K, rows.length + (EX i).length ≤ id → θi id = some K → w.heap.size ≤ K.b := fun id K h1 e => by
    have hn : (θ.upto (rows.length + (EX i).length)) id = none := by unfold Th.upto; rw [if_neg (by omega)]
    rcases (hF.fresh id K e hn).2 with h | ⟨j, r, L', a1, _, a2, _⟩
    · exact h
    · have := (List.getElem?_eq_some_iff.1 a1).1
      omega
  have hown : ∀ p q r, (EX m)[p]? = some (q, r) → (q = i ↔ (rows.length + (EX i).length ≤ rows.length + p ∧ rows.length + p < (rw_ i).length)) := fun p q r e2 => by
    obtain ⟨o1, o2, o3, _⟩ := Tr.owner htr h0 (i := m) (Nat.le_refl _) e2
    constructor
    · rintro rfl; omega
    · rintro ⟨h1, h2⟩
      rcases Nat.lt_trichotomy q i with h | h | h
      · have := htr.ex_len (i := q + 1) (j := i) (by omega) (by omega); omega
      · exact h
      · have := htr.ex_len (i := i + 1) (j := q) (by omega) (by omega); omega
  refine ⟨θ', w', v', st, ?_, hEx, hclean⟩
  have hos : w'.os = w.os := hF.os
  refine ⟨?_, ?_, ?_, hI.base.later hF.size hclean, hI.ext.trans hEx, ?_, ?_, ?_, hF.os.trans hI.os, hF.tape.trans hI.tape, hF.output.trans hI.output, Nat.le_trans hI.wsize hF.size, ?_, hI.base0⟩
  · cases o.dst <;> simp [Act.put, hI.size]
  · intro t x' hx'
    have htl : t < sl0.length := by
      have := (Array.getElem?_eq_some_iff.1 hx').1
      have h2 : (a.put o.dst v').tmps.size = sl0.length := by cases o.dst <;> simp [Act.put, hI.size]
      omega
    have hdst : (L i).1.dst = o.dst := by rw [hLo]; exact copx_dst
    by_cases hd : o.dst = some t
    · have e1 : slotAt sl0 rows.length L v (fun j => rows.length + (EX j).length) (fun j => S j || j == i) m t = (v i, rows.length + (EX (i + 1)).length) := by
        rw [slotAt_skip (i := i + 1) m (by omega) (fun j hj hjm hdj => ?_)]
        · simp only [slotAt]
          rw [if_pos ⟨by simp, by rw [hdst]; exact hd⟩]
        · have hne : (j == i) = false := by simp; omega
          simp only [hne, Bool.or_false]
          cases hSj : S j with
          | false => rfl
          | true =>
            rcases hap j hjm i (by omega) with h | h
            · have := hclosed j hSj hjm i h
              rw [hSi] at this; simp at this
            · exact absurd hdj ((apartI_spec h).2.1 t (by rw [hdst]; exact hd))
      rw [e1]
      simp only
      have hx : x' = v' := by
        rw [hd] at hx'
        simp only [Act.put] at hx'
        rw [Array.getElem?_setIfInBounds_self] at hx'
        split at hx'
        · injection hx' with hx'; exact hx'.symm
        · simp at hx'
      rw [hx, hn1]
      exact hv'.mono hEi
    · have e1 : slotAt sl0 rows.length L v (fun j => rows.length + (EX j).length) (fun j => S j || j == i) m t = slotAt sl0 rows.length L v (fun j => rows.length + (EX j).length) S m t :=
        slotAt_congr m (fun j hj hdj => by
          by_cases hji : j = i
          · subst hji; rw [hdst] at hdj; exact absurd hdj hd
          · have : (j == i) = false := by simpa using hji
            simp [this])
      rw [e1]
      have hx2 : a.tmps[t]? = some x' := by
        cases hod : o.dst with
        | none => rw [hod] at hx'; exact hx'
        | some d =>
          rw [hod] at hx'
          simp only [Act.put] at hx'
          rw [Array.getElem?_setIfInBounds_ne (by rintro rfl; exact hd hod)] at hx'
          exact hx'
      exact (hI.slots t x' hx2).mono (Th.upto_mono hEx (Nat.le_refl _))
  · intro p q r e hS'
    by_cases hq : q = i
    · subst hq
      obtain ⟨o1, o2, o3, o4⟩ := Tr.owner htr h0 (i := m) (Nat.le_refl _) e
      rw [hn1]
      exact (hF.rel.row _ r o4).mono hEi (fun _ _ => rfl)
    · have hSq : S q = true := by
        have : (q == i) = false := by simpa using hq
        simpa [this] using hS'
      exact (hI.rows_ p q r e hSq).mono (Th.upto_mono hEx (Nat.le_refl _)) (fun K hK => hclean _ (hI.blk _ K (Th.upto_some.1 hK).2))
  · intro id K e
    simp only [θ'] at e
    split at e
    · rename_i hh
      refine .inr ⟨Nat.le_trans hI.wsize (hnew id K hh.1 e), ?_⟩
      have hpl : id - rows.length < (EX (i + 1)).length := by omega
      have hge : (EX i).length ≤ id - rows.length := by omega
      have hg2 := htr.ex_prefix (i := i + 1) (j := m) (by omega) (Nat.le_refl _) hpl
      rw [hex, List.getElem?_append_right hge] at hg2
      have hlt2 : id - rows.length - (EX i).length < (((rw_ i).drop (rows.length + (EX i).length)).map fun x => (i, x)).length := by simp; omega
      rw [List.getElem?_eq_getElem hlt2] at hg2
      exact ⟨id - rows.length, i, ((rw_ i).drop (rows.length + (EX i).length))[id - rows.length - (EX i).length]'(by simpa using hlt2), by omega, by rw [hg2]; simp, by simp⟩
    · rcases hI.dom id K e with h | ⟨h1, p, q, r, h2, h3, h4⟩
      · exact .inl h
      · exact .inr ⟨h1, p, q, r, h2, h3, by simp [h4]⟩
  · intro p p' q q' r r' K K' hne e hS1 ho1 e' hS2 hl2 hK hK'
    simp only [θ'] at hK hK'
    by_cases hq : q = i
    · subst hq
      rw [if_pos ((hown p q r e).1 rfl)] at hK
      obtain ⟨_, b2, _, b4⟩ := Tr.owner htr h0 (i := m) (Nat.le_refl _) e
      by_cases hq' : q' = q
      · subst hq'
        rw [if_pos ((hown p' q' r' e').1 rfl)] at hK'
        obtain ⟨_, _, _, b4'⟩ := Tr.owner htr h0 (i := m) (Nat.le_refl _) e'
        exact hF.rel.inj _ _ r r' K K' (by omega) b4 ho1 b4' hl2 hK hK'
      · rw [if_neg (fun h => hq' ((hown p' q' r' e').2 h))] at hK'
        have h1 := hnew _ K (by omega) hK
        have h2 := hI.blk _ K' hK'
        omega
    · rw [if_neg (fun h => hq ((hown p q r e).2 h))] at hK
      by_cases hq' : q' = i
      · subst hq'
        rw [if_pos ((hown p' q' r' e').1 rfl)] at hK'
        obtain ⟨_, b2, _, b4⟩ := Tr.owner htr h0 (i := m) (Nat.le_refl _) e'
        have h1 := hnew _ K' (by omega) hK'
        have h2 := hI.blk _ K hK
        omega
      · rw [if_neg (fun h => hq' ((hown p' q' r' e').2 h))] at hK'
        have c1 : S q = true := by have : (q == i) = false := by simpa using hq
                                   simpa [this] using hS1
        have c2 : S q' = true := by have : (q' == i) = false := by simpa using hq'
                                    simpa [this] using hS2
        exact hI.inj p p' q q' r r' K K' hne e c1 ho1 e' c2 hl2 hK hK'
  · intro id K e
    simp only [θ'] at e
    split at e
    · exact hF.rel.blk id K e
    · exact Nat.lt_of_lt_of_le (hI.blk id K e) hF.size
  · intro b hb hx
    rw [hclean b (Nat.lt_of_lt_of_le hb hI.wsize)]
    exact hI.heap b hb hx
end
end Go.Abs
