/- Frames: what a step of the evaluator leaves alone. -/
import Derived.Test.YtiejbjajbehcfaaDoorA8
import Derived.Laws.Rows
import Derived.Below
set_option linter.unusedVariables false
set_option linter.unusedSimpArgs false
namespace Go.Abs
variable {κ : KRel}

def Th.add (θ : Th) (id : Nat) (L : Loc) : Th := fun i => if i = id then some L else θ i
theorem Th.add_self (θ : Th) (id : Nat) (L : Loc) : (θ.add id L) id = some L := by simp [Th.add]
theorem Th.add_ne (θ : Th) {id i : Nat} (L : Loc) (h : i ≠ id) : (θ.add id L) i = θ i := by simp [Th.add, h]
theorem Th.ext_add {θ : Th} {id : Nat} (h : θ id = none) (L : Loc) : Ext θ (θ.add id L) := fun i K e => by
  rw [Th.add_ne]; exact e
  rintro rfl
  rw [h] at e; simp at e

theorem CellsRel.mono {θ θ' : Th} (h : Ext θ θ') {L : Loc} {vs : List AV} {c : Array Value} (hc : CellsRel θ L vs c) : CellsRel θ' L vs c :=
  ⟨hc.1, hc.2.1, fun j x hx => let ⟨x', a, b, o⟩ := hc.2.2 j x hx; ⟨x', a, b.mono h, o⟩⟩

theorem RowRel.mono {θ θ' : Th} {id : Nat} {w w' : World} {r : Row} (hr : RowRel κ θ id w r) (hE : Ext θ θ') (hb : ∀ L, θ id = some L → w'.heap[L.b]? = w.heap[L.b]?) : RowRel κ θ' id w' r := by
  cases r with
  | cells vs =>
    obtain ⟨L, c, T, h1, h2, h3⟩ := hr
    exact ⟨L, c, T, hE _ _ h1, by rw [hb L h1]; exact h2, h3.mono hE⟩
  | ro vs =>
    obtain ⟨L, h1, h2⟩ := hr
    refine ⟨L, hE _ _ h1, fun j x hx => ?_⟩
    obtain ⟨x', a, b, o⟩ := h2 j x hx
    refine ⟨x', ?_, b.mono hE, o⟩
    have := hb L h1
    simp only [World.cell?] at a ⊢
    rw [this]; exact a
  | mp es =>
    obtain ⟨L, es', cl, h1, h2, h3, h4⟩ := hr
    refine ⟨L, es', cl, hE _ _ h1, by rw [hb L h1]; exact h2, h3, fun i e he => ?_⟩
    obtain ⟨e', a, b, c⟩ := h4 i e he
    exact ⟨e', a, b.mono hE, c.mono hE⟩
  | loop st pend sl ps asg body =>
    obtain ⟨L, r, h1, h2, h3, h4, h5, h6, h7, h8⟩ := hr
    exact ⟨L, r, hE _ _ h1, by rw [hb L h1]; exact h2, h3, h4, h5.mono hE, h6, h7, h8⟩
  | mark => exact hr
  | dead => trivial

theorem RowRel.loc {θ : Th} {id : Nat} {w : World} {r : Row} (hr : RowRel κ θ id w r) (hl : r.live = true) : ∃ L, θ id = some L := by
  cases r with
  | cells vs => obtain ⟨L, c, T, h1, _⟩ := hr; exact ⟨L, h1⟩
  | ro vs => obtain ⟨L, h1, _⟩ := hr; exact ⟨L, h1⟩
  | mp es => obtain ⟨L, _, _, h1, _⟩ := hr; exact ⟨L, h1⟩
  | loop => obtain ⟨L, _, h1, _⟩ := hr; exact ⟨L, h1⟩
  | mark => exact hr.elim
  | dead => simp [Row.live] at hl
theorem Row.live_of_owned {r : Row} (h : r.owned = true) : r.live = true := by cases r <;> simp_all [Row.owned, Row.live]

structure Fr (κ : KRel) (θ θ' : Th) (rows rows' : List Row) (low low' : Nat) (w w' : World) : Prop where
  ext : Ext θ θ'
  rel : HRel κ θ' rows' w'
  len : rows.length ≤ rows'.length
  low : low' ≤ low
  os : w'.os = w.os
  tape : w'.tape = w.tape
  output : w'.output = w.output
  size : w.heap.size ≤ w'.heap.size
  keepA : ∀ id, id < low' → rows'[id]? = rows[id]?
  keepB : ∀ b, b < w.heap.size → (∀ id r L, rows[id]? = some r → r.owned = true → low' ≤ id → θ id = some L → L.b ≠ b) → w'.heap[b]? = w.heap[b]?
  own : ∀ id r, rows'[id]? = some r → r.owned = true → id < rows.length → ∃ r0, rows[id]? = some r0 ∧ r0.owned = true
  alive : ∀ id r, rows'[id]? = some r → r.live = true → id < rows.length → ∃ r0, rows[id]? = some r0 ∧ r0.live = true
  fresh : ∀ id L, θ' id = some L → θ id = none → rows.length ≤ id ∧ (w.heap.size ≤ L.b ∨ ∃ j r L', rows[j]? = some r ∧ r.owned = true ∧ low' ≤ j ∧ θ j = some L' ∧ L'.b = L.b)

theorem Fr.refl {θ : Th} {rows : List Row} {w : World} (h : HRel κ θ rows w) (low : Nat) : Fr κ θ θ rows rows low low w w :=
  ⟨Ext.refl _, h, Nat.le_refl _, Nat.le_refl _, rfl, rfl, rfl, Nat.le_refl _, fun _ _ => rfl, fun _ _ _ => rfl, fun id r a b _ => ⟨r, a, b⟩, fun id r a b _ => ⟨r, a, b⟩, fun id L a b => by rw [a] at b; simp at b⟩

theorem Fr.trans {θ θ1 θ2 : Th} {rows rows1 rows2 : List Row} {low low1 low2 : Nat} {w w1 w2 : World} (hr : HRel κ θ rows w) (h : Fr κ θ θ1 rows rows1 low low1 w w1) (k : Fr κ θ1 θ2 rows1 rows2 low1 low2 w1 w2) :
    Fr κ θ θ2 rows rows2 low low2 w w2 where
  ext := h.ext.trans k.ext
  rel := k.rel
  len := Nat.le_trans h.len k.len
  low := Nat.le_trans k.low h.low
  os := k.os.trans h.os
  tape := k.tape.trans h.tape
  output := k.output.trans h.output
  size := Nat.le_trans h.size k.size
  keepA := fun id hi => (k.keepA id hi).trans (h.keepA id (Nat.lt_of_lt_of_le hi k.low))
  keepB := fun b hb hn => by
    have h1 := h.keepB b hb (fun id r L a o c d => hn id r L a o (Nat.le_trans k.low c) d)
    rw [← h1]
    refine k.keepB b (Nat.lt_of_lt_of_le hb h.size) (fun id r L a o c d => ?_)
    cases e : θ id with
    | some L0 =>
      have : L0 = L := by have := h.ext id L0 e; rw [this] at d; injection d
      subst this
      obtain ⟨r0, p, q⟩ := h.own id r a o (hr.dom id L0 e)
      exact hn id r0 L0 p q c e
    | none =>
      rcases (h.fresh id L d e).2 with f | ⟨j, r', L', p, q, s, t, u⟩
      · omega
      · rw [← u]; exact hn j r' L' p q (Nat.le_trans k.low s) t
  own := fun id r a o hi => by
    obtain ⟨r1, p, q⟩ := k.own id r a o (Nat.lt_of_lt_of_le hi h.len)
    exact h.own id r1 p q hi
  alive := fun id r a o hi => by
    obtain ⟨r1, p, q⟩ := k.alive id r a o (Nat.lt_of_lt_of_le hi h.len)
    exact h.alive id r1 p q hi
  fresh := fun id L a e => by
    cases d : θ1 id with
    | some L1 =>
      have : L1 = L := by have := k.ext id L1 d; rw [this] at a; injection a
      subst this
      obtain ⟨p, q⟩ := h.fresh id L1 d e
      refine ⟨p, q.imp (fun x => x) (fun ⟨j, r, L', a, b, c, d⟩ => ⟨j, r, L', a, b, Nat.le_trans k.low c, d⟩)⟩
    | none =>
      obtain ⟨p, q⟩ := k.fresh id L a d
      refine ⟨Nat.le_trans h.len p, ?_⟩
      rcases q with q | ⟨j, r, L', q1, q2, q3, q4, q5⟩
      · exact .inl (Nat.le_trans h.size q)
      · cases f : θ j with
        | some L0 =>
          have : L0 = L' := by have := h.ext j L0 f; rw [this] at q4; injection q4
          subst this
          obtain ⟨r0, s, t⟩ := h.own j r q1 q2 (hr.dom j L0 f)
          exact .inr ⟨j, r0, L0, s, t, q3, f, q5⟩
        | none =>
          rcases (h.fresh j L' q4 f).2 with g | ⟨j', r', L'', a1, a2, a3, a4, a5⟩
          · exact .inl (by omega)
          · exact .inr ⟨j', r', L'', a1, a2, Nat.le_trans k.low a3, a4, a5.trans q5⟩

theorem HRel.none_len {θ : Th} {rows : List Row} {w : World} (h : HRel κ θ rows w) : θ rows.length = none := by
  cases e : θ rows.length with
  | none => rfl
  | some L => exact absurd (h.dom _ _ e) (Nat.lt_irrefl _)

theorem getElem?_snoc {α : Type} (l : List α) (x : α) (i : Nat) : (l ++ [x])[i]? = if i = l.length then some x else l[i]? := by
  split
  · rename_i h; subst h; simp
  · rename_i h
    rcases Nat.lt_or_ge i l.length with hl | hl
    · rw [List.getElem?_append_left hl]
    · rw [List.getElem?_append_right hl, List.getElem?_eq_none (by simp; omega), List.getElem?_eq_none hl]

/-- A new row. -/
theorem Fr.push {θ : Th} {rows : List Row} {w w' : World} (h : HRel κ θ rows w) (low : Nat) (hlow : low ≤ rows.length) (o : Obj) (hheap : w'.heap = w.heap.push o) (hos : w'.os = w.os) (htape : w'.tape = w.tape) (hout : w'.output = w.output)
    (d top : Nat) (r : Row) (hr : RowRel κ (θ.add rows.length ⟨w.heap.size, d, top⟩) rows.length w' r) (hro : r.owned = true) :
    Fr κ θ (θ.add rows.length ⟨w.heap.size, d, top⟩) rows (rows ++ [r]) low low w w' := by
  have hE := Th.ext_add h.none_len ⟨w.heap.size, d, top⟩
  have hold : ∀ b, b < w.heap.size → w'.heap[b]? = w.heap[b]? := fun b hb => by
    rw [hheap, Array.getElem?_push_lt hb, Array.getElem?_eq_getElem hb]
  refine ⟨hE, ⟨?_, ?_, ?_, ?_⟩, by simp, Nat.le_refl _, hos, htape, hout, by rw [hheap]; simp, ?_, fun b hb _ => hold b hb, ?_, ?_, ?_⟩
  · intro id L e
    by_cases hi : id = rows.length
    · subst hi; simp
    · rw [Th.add_ne _ _ hi] at e
      have := h.dom id L e
      simp; omega
  · intro id L e
    by_cases hi : id = rows.length
    · subst hi; rw [Th.add_self] at e; injection e with e; subst e; rw [hheap]; simp
    · rw [Th.add_ne _ _ hi] at e
      have := h.blk id L e
      rw [hheap]; simp; omega
  · intro id s e
    rw [getElem?_snoc] at e
    split at e
    · rename_i hi; subst hi; injection e with e; subst e; exact hr
    · exact (h.row id s e).mono hE (fun L hL => hold _ (h.blk id L hL))
  · intro i j r1 s L L' hne hi ho hj hl hL hL'
    rw [getElem?_snoc] at hi hj
    by_cases e1 : i = rows.length
    · subst e1
      rw [Th.add_self] at hL; injection hL with hL; subst hL
      have e2 : j ≠ rows.length := fun e => hne e.symm
      rw [Th.add_ne _ _ e2] at hL'
      have := h.blk j L' hL'
      simp only; omega
    · rw [Th.add_ne _ _ e1] at hL
      rw [if_neg e1] at hi
      by_cases e2 : j = rows.length
      · subst e2
        rw [Th.add_self] at hL'; injection hL' with hL'; subst hL'
        have := h.blk i L hL
        simp only; omega
      · rw [Th.add_ne _ _ e2] at hL'
        rw [if_neg e2] at hj
        exact h.inj i j r1 s L L' hne hi ho hj hl hL hL'
  · intro id hi
    rw [getElem?_snoc, if_neg (by omega)]
  · intro id s e o hi
    rw [getElem?_snoc, if_neg (by omega)] at e
    exact ⟨s, e, o⟩
  · intro id s e o hi
    rw [getElem?_snoc, if_neg (by omega)] at e
    exact ⟨s, e, o⟩
  · intro id L e hn
    by_cases hi : id = rows.length
    · subst hi; rw [Th.add_self] at e; injection e with e; subst e; exact ⟨Nat.le_refl _, .inl (Nat.le_refl _)⟩
    · rw [Th.add_ne _ _ hi, hn] at e; simp at e

theorem lower_le (low id : Nat) : lower low id ≤ low := by unfold lower; split <;> omega
theorem lower_le_id (low id : Nat) : lower low id ≤ id := by unfold lower; split <;> omega

/-- A row is written. -/
theorem Fr.setrow {θ : Th} {rows : List Row} {w w' : World} (h : HRel κ θ rows w) (low : Nat) {id : Nat} {r : Row} (hid : rows[id]? = some r) (ho : r.owned = true) {L : Loc} (hL : θ id = some L)
    (hsz : w'.heap.size = w.heap.size) (hoth : ∀ k, k ≠ L.b → w'.heap[k]? = w.heap[k]?) (hos : w'.os = w.os) (htape : w'.tape = w.tape) (hout : w'.output = w.output)
    (r' : Row) (hr' : RowRel κ θ id w' r') (ho' : r'.owned = true) : Fr κ θ θ rows (rows.set id r') low (lower low id) w w' := by
  have hlt : id < rows.length := (List.getElem?_eq_some_iff.1 hid).1
  have hget : ∀ i s, (rows.set id r')[i]? = some s → (i = id ∧ s = r') ∨ (i ≠ id ∧ rows[i]? = some s) := fun i s e => by
    rw [List.getElem?_set] at e
    split at e
    · rename_i q; subst q; injection e with e; exact .inl ⟨rfl, e.symm⟩
    · rename_i q; exact .inr ⟨fun k => q k.symm, e⟩
  refine ⟨Ext.refl _, ⟨fun i K e => by simpa using h.dom i K e, fun i K e => by rw [hsz]; exact h.blk i K e, ?_, ?_⟩, by simp, lower_le _ _, hos, htape, hout, by omega, ?_, ?_, ?_, ?_, ?_⟩
  · intro i s e
    rcases hget i s e with ⟨rfl, rfl⟩ | ⟨hne, e⟩
    · exact hr'
    · by_cases hd : s.live = true
      · exact (h.row i s e).mono (Ext.refl _) (fun K hK => hoth _ (fun hb => h.inj id i r s L K (fun q => hne q.symm) hid ho e hd hL hK hb.symm))
      · cases s <;> first | (simp [Row.live] at hd; done) | trivial
  · intro i j s t K K' hne hi hio hj hjl hK hK'
    have hi' : ∃ s0, rows[i]? = some s0 ∧ s0.owned = true := by
      rcases hget i s hi with ⟨rfl, rfl⟩ | ⟨_, e⟩
      · exact ⟨r, hid, ho⟩
      · exact ⟨s, e, hio⟩
    have hj' : ∃ t0, rows[j]? = some t0 ∧ t0.live = true := by
      rcases hget j t hj with ⟨rfl, rfl⟩ | ⟨_, e⟩
      · exact ⟨r, hid, Row.live_of_owned ho⟩
      · exact ⟨t, e, hjl⟩
    obtain ⟨s0, a1, a2⟩ := hi'
    obtain ⟨t0, b1, b2⟩ := hj'
    exact h.inj i j s0 t0 K K' hne a1 a2 b1 b2 hK hK'
  · intro i hi
    rw [List.getElem?_set_ne]
    have := lower_le_id low id
    omega
  · intro b hb hn
    exact hoth b (fun e => hn id r L hid ho (lower_le_id _ _) hL e.symm)
  · intro i s e hs hi
    rcases hget i s e with ⟨rfl, rfl⟩ | ⟨_, e⟩
    · exact ⟨r, hid, ho⟩
    · exact ⟨s, e, hs⟩
  · intro i s e hs hi
    rcases hget i s e with ⟨rfl, rfl⟩ | ⟨_, e⟩
    · exact ⟨r, hid, Row.live_of_owned ho⟩
    · exact ⟨s, e, hs⟩
  · intro i K a b; rw [a] at b; simp at b

/-- A row is let go. -/
theorem Fr.kill {θ : Th} {rows : List Row} {w : World} (h : HRel κ θ rows w) (low : Nat) (id : Nat) : Fr κ θ θ rows (rows.set id .dead) low (lower low id) w w := by
  have hget : ∀ i s, (rows.set id .dead)[i]? = some s → (i = id ∧ s = .dead) ∨ (i ≠ id ∧ rows[i]? = some s) := fun i s e => by
    rw [List.getElem?_set] at e
    split at e
    · rename_i q; subst q; split at e
      · injection e with e; exact .inl ⟨rfl, e.symm⟩
      · simp at e
    · rename_i q; exact .inr ⟨fun k => q k.symm, e⟩
  refine ⟨Ext.refl _, ⟨fun i K e => by simpa using h.dom i K e, h.blk, ?_, ?_⟩, by simp, lower_le _ _, rfl, rfl, rfl, Nat.le_refl _, ?_, fun _ _ _ => rfl, ?_, ?_, ?_⟩
  · intro i s e
    rcases hget i s e with ⟨rfl, rfl⟩ | ⟨hne, e⟩
    · trivial
    · exact h.row i s e
  · intro i j s t K K' hne hi hio hj hjl hK hK'
    rcases hget i s hi with ⟨rfl, rfl⟩ | ⟨_, a⟩
    · simp [Row.owned] at hio
    rcases hget j t hj with ⟨rfl, rfl⟩ | ⟨_, b⟩
    · simp [Row.live] at hjl
    exact h.inj i j s t K K' hne a hio b hjl hK hK'
  · intro i hi
    rw [List.getElem?_set_ne]
    have := lower_le_id low id
    omega
  · intro i s e hs hi
    rcases hget i s e with ⟨rfl, rfl⟩ | ⟨_, e⟩
    · simp [Row.owned] at hs
    · exact ⟨s, e, hs⟩
  · intro i s e hs hi
    rcases hget i s e with ⟨rfl, rfl⟩ | ⟨_, e⟩
    · simp [Row.live] at hs
    · exact ⟨s, e, hs⟩
  · intro i K a b; rw [a] at b; simp at b

/-- A row is let go, and its block goes on as another row. -/
theorem Fr.turn {θ : Th} {rows : List Row} {w w' : World} (h : HRel κ θ rows w) (low : Nat) (hlow : low ≤ rows.length) {id : Nat} {r : Row} (hid : rows[id]? = some r) (ho : r.owned = true) {L : Loc} (hL : θ id = some L)
    (hsz : w'.heap.size = w.heap.size) (hoth : ∀ k, k ≠ L.b → w'.heap[k]? = w.heap[k]?) (hos : w'.os = w.os) (htape : w'.tape = w.tape) (hout : w'.output = w.output)
    (d top : Nat) (r' : Row) (hr' : RowRel κ (θ.add rows.length ⟨L.b, d, top⟩) rows.length w' r') (ho' : r'.owned = true) :
    Fr κ θ (θ.add rows.length ⟨L.b, d, top⟩) rows (rows.set id .dead ++ [r']) low (lower low id) w w' := by
  have hlt : id < rows.length := (List.getElem?_eq_some_iff.1 hid).1
  have hE := Th.ext_add h.none_len ⟨L.b, d, top⟩
  have hget : ∀ i s, (rows.set id .dead ++ [r'])[i]? = some s → (i = rows.length ∧ s = r') ∨ (i = id ∧ s = .dead) ∨ (i ≠ id ∧ i ≠ rows.length ∧ rows[i]? = some s) := fun i s e => by
    rw [getElem?_snoc, List.length_set] at e
    split at e
    · rename_i q; injection e with e; exact .inl ⟨q, e.symm⟩
    · rename_i q1
      rw [List.getElem?_set] at e
      split at e
      · rename_i q; subst q; injection e with e; exact .inr (.inl ⟨rfl, e.symm⟩)
      · rename_i q; exact .inr (.inr ⟨fun k => q k.symm, q1, e⟩)
  refine ⟨hE, ⟨?_, ?_, ?_, ?_⟩, by simp, lower_le _ _, hos, htape, hout, by omega, ?_, ?_, ?_, ?_, ?_⟩
  · intro i K e
    by_cases hi : i = rows.length
    · subst hi; simp
    · rw [Th.add_ne _ _ hi] at e
      have := h.dom i K e
      simp; omega
  · intro i K e
    rw [hsz]
    by_cases hi : i = rows.length
    · subst hi; rw [Th.add_self] at e; injection e with e; subst e; exact h.blk id L hL
    · rw [Th.add_ne _ _ hi] at e; exact h.blk i K e
  · intro i s e
    rcases hget i s e with ⟨rfl, rfl⟩ | ⟨rfl, rfl⟩ | ⟨hne, hne2, e⟩
    · exact hr'
    · trivial
    · by_cases hd : s.live = true
      · exact (h.row i s e).mono hE (fun K hK => hoth _ (fun hb => h.inj id i r s L K (fun q => hne q.symm) hid ho e hd hL hK hb.symm))
      · cases s <;> first | (simp [Row.live] at hd; done) | trivial
  · intro i j s t K K' hne hi hio hj hjl hK hK'
    rcases hget i s hi with ⟨rfl, rfl⟩ | ⟨rfl, rfl⟩ | ⟨i1, i2, e⟩
    · rw [Th.add_self] at hK; injection hK with hK; subst hK
      rcases hget j t hj with ⟨rfl, rfl⟩ | ⟨rfl, rfl⟩ | ⟨j1, j2, f⟩
      · exact absurd rfl hne
      · simp [Row.live] at hjl
      · rw [Th.add_ne _ _ j2] at hK'
        exact h.inj id j r t L K' (fun q => j1 q.symm) hid ho f hjl hL hK'
    · simp [Row.owned] at hio
    · rw [Th.add_ne _ _ i2] at hK
      rcases hget j t hj with ⟨rfl, rfl⟩ | ⟨rfl, rfl⟩ | ⟨j1, j2, f⟩
      · rw [Th.add_self] at hK'; injection hK' with hK'; subst hK'
        exact h.inj i id s r K L i1 e hio hid (Row.live_of_owned ho) hK hL
      · simp [Row.live] at hjl
      · rw [Th.add_ne _ _ j2] at hK'
        exact h.inj i j s t K K' hne e hio f hjl hK hK'
  · intro i hi
    have := lower_le_id low id
    rw [getElem?_snoc, List.length_set, if_neg (by omega), List.getElem?_set_ne (by omega)]
  · intro b hb hn
    exact hoth b (fun e => hn id r L hid ho (lower_le_id _ _) hL e.symm)
  · intro i s e hs hi
    rcases hget i s e with ⟨rfl, rfl⟩ | ⟨rfl, rfl⟩ | ⟨_, _, e⟩
    · omega
    · simp [Row.owned] at hs
    · exact ⟨s, e, hs⟩
  · intro i s e hs hi
    rcases hget i s e with ⟨rfl, rfl⟩ | ⟨rfl, rfl⟩ | ⟨_, _, e⟩
    · omega
    · simp [Row.live] at hs
    · exact ⟨s, e, hs⟩
  · intro i K e hn
    by_cases hi : i = rows.length
    · subst hi; rw [Th.add_self] at e; injection e with e; subst e; exact ⟨Nat.le_refl _, .inr ⟨id, r, L, hid, ho, lower_le_id _ _, hL, rfl⟩⟩
    · rw [Th.add_ne _ _ hi, hn] at e; simp at e
end Go.Abs
