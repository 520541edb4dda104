/- The evaluator is sound. -/
import Derived.Test.YtiejbjajbehcfaaDoorM2
import Derived.RangeFuncNested
set_option linter.unusedVariables false
set_option linter.unusedSimpArgs false
/- A region whose order is drawn: the whole. -/
namespace Go.Abs
section
variable {P : Program} {gl : List Nat} {call : Nat → List AV → List Row → Option (AV × List Row × Option Nat)} {rows : List Row} {sl0 : List AV} {m : Nat} {L : Nat → IOpx × Nat} {v : Nat → AV} {EX : Nat → List (Nat × Row)} {SL : Nat → List AV} {rw_ : Nat → List Row} {θ0 : Th} {w0 : World} {X : Nat → Prop}

/-- What a row, old or new, is. -/
theorem Inv.rel (htr : Tr call rows L 0 m SL EX v rw_) (hS0 : SL 0 = sl0) (h0 : EX 0 = []) {S : Nat → Bool} {θ : Th} {a : Act} {w : World} (hI : Inv (KP P gl) X θ0 rows sl0 m L v EX w0 S θ a.tmps w) (hS : ∀ j, j < m → S j = true) :
    SRel θ (SL m) a.tmps ∧ HRel (KP P gl) θ (rows ++ (EX m).map (·.2)) w := by
  have hbase : ∀ id K, id < rows.length → θ id = some K → θ0 id = some K := fun id K hid hK => by
    rcases hI.dom id K hK with h | ⟨_, p, q, r, e, _⟩
    · exact h
    · omega
  have hget : ∀ id r, (rows ++ (EX m).map (·.2))[id]? = some r → (id < rows.length ∧ rows[id]? = some r) ∨ ∃ p q, id = rows.length + p ∧ (EX m)[p]? = some (q, r) ∧ S q = true := fun id r e => by
    rcases Nat.lt_or_ge id rows.length with h | h
    · rw [List.getElem?_append_left h] at e
      exact .inl ⟨h, e⟩
    · rw [List.getElem?_append_right h] at e
      simp only [List.getElem?_map, Option.map_eq_some_iff] at e
      obtain ⟨⟨q, r0⟩, e1, e2⟩ := e
      simp only at e2
      subst e2
      obtain ⟨o1, _⟩ := Tr.owner htr h0 (i := m) (Nat.le_refl _) e1
      exact .inr ⟨id - rows.length, q, by omega, e1, hS q o1⟩
  refine ⟨⟨by rw [htr.sl_len hS0 m (Nat.le_refl _), hI.size], fun t x x' hx hx' => ?_⟩, ⟨fun id K e => ?_, hI.blk, fun id r e => ?_, fun p p' r s K K' hne hp hpo hq hql hK hK' => ?_⟩⟩
  · have htl : t < sl0.length := by
      have := (List.getElem?_eq_some_iff.1 hx).1
      rw [htr.sl_len hS0 m (Nat.le_refl _)] at this
      exact this
    have hV := hI.slots t x' hx'
    have e1 : slotAt sl0 rows.length L v (fun j => rows.length + (EX j).length) S m t = slotAt sl0 rows.length L v (fun j => rows.length + (EX j).length) (fun _ => true) m t := slotAt_congr m (fun j hj _ => hS j hj)
    rw [e1, (slotAt_text (sl0 := sl0) htr hS0 htl m (Nat.le_refl _)).1] at hV
    have : (SL m).getD t .any = x := by simp [List.getD, hx]
    rw [this] at hV
    exact hV.mono (Th.upto_ext _ _)
  · rcases hI.dom id K e with h | ⟨_, p, q, r, h2, h3, _⟩
    · have := hI.base.dom id K h
      simp; omega
    · have := (List.getElem?_eq_some_iff.1 h3).1
      simp; omega
  · rcases hget id r e with ⟨a, b⟩ | ⟨p, q, rfl, c1, c2⟩
    · exact (hI.base.row id r b).mono hI.ext (fun _ _ => rfl)
    · exact (hI.rows_ p q r c1 c2).mono (Th.upto_ext _ _) (fun _ _ => rfl)
  · rcases hget p r hp with ⟨a, b⟩ | ⟨x, q, rfl, c1, c2⟩
    · rcases hget p' s hq with ⟨a', b'⟩ | ⟨x', q', rfl, d1, d2⟩
      · exact hI.base.inj p p' r s K K' hne b hpo b' hql (hbase p K a hK) (hbase p' K' a' hK')
      · have h1 := hI.base0 p K (hbase p K a hK)
        rcases hI.dom _ K' hK' with h | ⟨h2, _⟩
        · have := hI.base.dom _ K' h; omega
        · omega
    · rcases hget p' s hq with ⟨a', b'⟩ | ⟨x', q', rfl, d1, d2⟩
      · have h1 := hI.base0 p' K' (hbase p' K' a' hK')
        rcases hI.dom _ K hK with h | ⟨h2, _⟩
        · have := hI.base.dom _ K h; omega
        · omega
      · exact hI.inj x x' q q' r s K K' (fun e => hne (by omega)) c1 c2 hpo d1 d2 hql hK hK'

theorem Inv.done (htr : Tr call rows L 0 m SL EX v rw_) (hS0 : SL 0 = sl0) (h0 : EX 0 = []) {S : Nat → Bool} {θ : Th} {a : Act} {w : World} (hI : Inv (KP P gl) (fun _ => False) θ0 rows sl0 m L v EX w0 S θ a.tmps w) (hS : ∀ j, j < m → S j = true) (low : Nat) (hlow : low ≤ rows.length) :
    SRel θ (SL m) a.tmps ∧ Fr (KP P gl) θ0 θ rows (rows ++ (EX m).map (·.2)) low low w0 w := by
  obtain ⟨r1, r2⟩ := hI.rel htr hS0 h0 hS
  refine ⟨r1, hI.ext, r2, by simp, Nat.le_refl _, hI.os, hI.tape, hI.output, hI.wsize, fun id hid => ?_, fun b hb _ => hI.heap b hb (fun h => h), fun id r e o hid => ?_, fun id r e o hid => ?_, fun id K e hn => ?_⟩
  · rw [List.getElem?_append_left (by omega)]
  · rw [List.getElem?_append_left hid] at e
    exact ⟨r, e, o⟩
  · rw [List.getElem?_append_left hid] at e
    exact ⟨r, e, o⟩
  · rcases hI.dom id K e with h | ⟨h1, p, q, r, h2, h3, _⟩
    · rw [h] at hn; simp at hn
    · exact ⟨by omega, .inl h1⟩

/-- With one row written. -/
theorem Inv.doneW {R : Nat} {r0 r' : Row} {LR : Loc} (htr : Tr call (rows.set R .dead) L 0 m SL EX v rw_) (hS0 : SL 0 = sl0) (h0 : EX 0 = []) {S : Nat → Bool} {θ : Th} {a : Act} {w : World} (hI : Inv (KP P gl) (fun b => b = LR.b) θ0 (rows.set R .dead) sl0 m L v EX w0 S θ a.tmps w) (hS : ∀ j, j < m → S j = true)
    (hr : HRel (KP P gl) θ0 rows w0) (hR : rows[R]? = some r0) (ho : r0.owned = true) (hLR : θ0 R = some LR) (hrow : RowRel (KP P gl) θ R w r') (ho' : r'.owned = true) (low : Nat) (hlow : low ≤ rows.length) :
    SRel θ (SL m) a.tmps ∧ Fr (KP P gl) θ0 θ rows (rows.set R r' ++ (EX m).map (·.2)) low (lower low R) w0 w := by
  obtain ⟨r1, r2⟩ := hI.rel htr hS0 h0 hS
  have hRl : R < rows.length := (List.getElem?_eq_some_iff.1 hR).1
  have hget : ∀ id r, (rows.set R r' ++ (EX m).map (·.2))[id]? = some r → (id = R ∧ r = r') ∨ (id ≠ R ∧ (rows.set R .dead ++ (EX m).map (·.2))[id]? = some r) := fun id r e => by
    by_cases hid : id = R
    · subst hid
      rw [List.getElem?_append_left (by simpa using hRl), List.getElem?_set_self (by simpa using hRl)] at e
      injection e with e
      exact .inl ⟨rfl, e.symm⟩
    · refine .inr ⟨hid, ?_⟩
      rcases Nat.lt_or_ge id rows.length with h | h
      · rw [List.getElem?_append_left (by simpa using h), List.getElem?_set_ne (Ne.symm hid)] at e ⊢
        exact e
      · rw [List.getElem?_append_right (by simpa using h)] at e ⊢
        simpa using e
  -- no other live row has the written row's block
  have hsole : ∀ id r K, id ≠ R → (rows.set R .dead ++ (EX m).map (·.2))[id]? = some r → r.live = true → θ id = some K → LR.b ≠ K.b := fun id r K hne e hl hK => by
    rcases hI.dom id K hK with h | ⟨h1, p, q, s, h2, h3, _⟩
    · have hid := hr.dom id K h
      rw [List.getElem?_append_left (by simpa using hid), List.getElem?_set_ne (Ne.symm hne)] at e
      exact hr.inj R id r0 r LR K (Ne.symm hne) hR ho e hl hLR h
    · have := hI.base0 R LR hLR
      omega
  have hθR : θ R = some LR := hI.ext _ _ hLR
  refine ⟨r1, hI.ext, ⟨fun id K e => ?_, r2.blk, fun id r e => ?_, fun p p' r s K K' hne hp hpo hq hql hK hK' => ?_⟩, by simp, lower_le _ _, hI.os, hI.tape, hI.output, hI.wsize, fun id hid => ?_, fun b hb hn => ?_, fun id r e o hid => ?_, fun id r e o hid => ?_, fun id K e hn => ?_⟩
  · have := r2.dom id K e
    simpa using this
  · rcases hget id r e with ⟨rfl, rfl⟩ | ⟨hne, e2⟩
    · exact hrow
    · exact r2.row id r e2
  · rcases hget p r hp with ⟨rfl, rfl⟩ | ⟨n1, e1⟩
    · rcases hget p' s hq with ⟨rfl, rfl⟩ | ⟨n2, e2⟩
      · exact absurd rfl hne
      · rw [hθR] at hK; injection hK with hK; subst hK
        exact hsole p' s K' n2 e2 hql hK'
    · rcases hget p' s hq with ⟨rfl, rfl⟩ | ⟨n2, e2⟩
      · rw [hθR] at hK'; injection hK' with hK'; subst hK'
        exact fun h => hsole p r K n1 e1 (Row.live_of_owned hpo) hK h.symm
      · exact r2.inj p p' r s K K' hne e1 hpo e2 hql hK hK'
  · have := lower_le_id low R
    have := lower_le low R
    rw [List.getElem?_append_left (by simp; omega), List.getElem?_set_ne (by omega)]
  · exact hI.heap b hb (fun h => hn R r0 LR hR ho (lower_le_id _ _) hLR h.symm)
  · rcases hget id r e with ⟨rfl, rfl⟩ | ⟨hne, e2⟩
    · exact ⟨r0, hR, ho⟩
    · rw [List.getElem?_append_left (by simpa using hid), List.getElem?_set_ne (Ne.symm hne)] at e2
      exact ⟨r, e2, o⟩
  · rcases hget id r e with ⟨rfl, rfl⟩ | ⟨hne, e2⟩
    · exact ⟨r0, hR, Row.live_of_owned ho⟩
    · rw [List.getElem?_append_left (by simpa using hid), List.getElem?_set_ne (Ne.symm hne)] at e2
      exact ⟨r, e2, o⟩
  · rcases hI.dom id K e with h | ⟨h1, p, q, r, h2, h3, _⟩
    · rw [h] at hn; simp at hn
    · have : (rows.set R Row.dead).length = rows.length := by simp
      exact ⟨by omega, .inl h1⟩

/-! ### The order -/
/-- All operations before c are done, and no other. -/
structure DrawSt (ops : Array Oper) (c fuel : Nat) (listed : Array Bool) : Prop where
  size : listed.size = ops.size
  at_ : ∀ j, listed.getD j false = decide (j < c)
  closed : ∀ j, listed.getD j false = true → ∀ q, ((Region.before ops).getD j 0).testBit q = true → listed.getD q false = true
  fuel : listed.toList.countP (fun x => !x) ≤ fuel

def EdgesOK (ops : Array Oper) : Prop := ∀ j o, ops[j]? = some o → ∀ e ∈ o.after, Region.binds .any e = true → e.on < j

theorem listed_get {ops : Array Oper} {listed : Array Bool} (hsz : listed.size = ops.size) {i : Nat} (hi : i < ops.size) (b : Bool) : listed.getD i false = b ↔ listed[i]? = some b := by
  have : i < listed.size := by omega
  simp [Array.getD, this, Array.getElem?_eq_getElem this]

theorem go_done {ops : Array Oper} {fuel : Nat} {listed : Array Bool} (h : DrawSt ops ops.size fuel listed) (t : Nat) : Region.linearise.go .any ops fuel t listed [] = [] := by
  cases fuel with
  | zero => rfl
  | succ fuel =>
    have hready : Region.ready .any ops listed = [] := by
      match hq : Region.ready .any ops listed with
      | [] => rfl
      | x :: r =>
        have hx : x ∈ Region.ready .any ops listed := by rw [hq]; simp
        obtain ⟨h1, o, ho, h2⟩ := mem_ready.1 hx
        have hj : x < ops.size := (Array.getElem?_eq_some_iff.1 ho).1
        have h3 := h.at_ x
        simp only [hj, decide_true] at h3
        simp only [Array.getD, h.size, hj, dif_pos] at h1 h3
        exact absurd (h3.symm.trans h1) (by simp)
    simp only [Region.linearise.go]
    change (match (Region.ready .any ops listed)[t % (Region.ready .any ops listed).length]? with
      | some i => Region.linearise.go .any ops fuel (t / (Region.ready .any ops listed).length) (listed.setIfInBounds i true) [i]
      | none => [].reverse) = _
    rw [hready]
    rfl

theorem count_set {ops : Array Oper} {listed : Array Bool} (hsz : listed.size = ops.size) {i : Nat} (hi : i < ops.size) (hu : listed.getD i false = false) {fuel : Nat} (h : listed.toList.countP (fun x => !x) ≤ fuel + 1) : (listed.setIfInBounds i true).toList.countP (fun x => !x) ≤ fuel := by
  have hlt2 : i < listed.toList.length := by simp; omega
  rw [Array.toList_setIfInBounds, List.countP_set hlt2]
  have hfi : listed.toList[i] = false := by
    simp only [Array.getD, hsz, hi, dif_pos] at hu
    simpa using hu
  rw [hfi]
  simp only [Bool.not_false, Bool.not_true, if_true, Bool.false_eq_true, if_false]
  omega

/-- The next operation is the only one that can come. -/
theorem go_one {ops : Array Oper} (hed : EdgesOK ops) {c fuel : Nat} {listed : Array Bool} (h : DrawSt ops c fuel listed) (hc : c < ops.size) (hend : ∀ j, c + 1 ≤ j → j < ops.size → ∀ q, q < c + 1 → ((Region.before ops).getD j 0).testBit q = true) (t : Nat) :
    ∃ fuel' t' listed', Region.linearise.go .any ops fuel t listed [] = c :: Region.linearise.go .any ops fuel' t' listed' [] ∧ DrawSt ops (c + 1) fuel' listed' := by
  have hun : listed.getD c false = false := by rw [h.at_]; simp
  have hpos : 0 < fuel := by
    refine Nat.lt_of_lt_of_le ?_ h.fuel
    rw [List.countP_pos_iff]
    have : c < listed.toList.length := by have := h.size; simp; omega
    refine ⟨false, ?_, rfl⟩
    rw [listed_get h.size hc] at hun
    have := List.mem_iff_getElem?.2 ⟨c, by rw [Array.getElem?_toList]; exact hun⟩
    exact this
  obtain ⟨fuel, rfl⟩ : ∃ n, fuel = n + 1 := ⟨fuel - 1, by omega⟩
  have hmem : ∀ j, j ∈ Region.ready .any ops listed ↔ j = c := by
    intro j
    rw [mem_ready]
    constructor
    · rintro ⟨h1, o, ho, h2⟩
      have hj : j < ops.size := (Array.getElem?_eq_some_iff.1 ho).1
      have h1' : listed.getD j false = false := by
        simp only [Array.getD, h.size, hj, dif_pos] at h1 ⊢
        exact h1
      have hjc : c ≤ j := by
        rw [h.at_ j] at h1'
        simpa using h1'
      rcases Nat.eq_or_lt_of_le hjc with e | e
      · exact e.symm
      · exfalso
        have hb := hend j (by omega) hj c (by omega)
        obtain ⟨o', ho', e', he1, he2, he3⟩ := before_bit ops hed hb
        rw [ho] at ho'; injection ho' with ho'; subst ho'
        have hle := h2 e' he1 he2
        rcases he3 with he3 | he3
        · rw [he3, h.at_ c] at hle; simp at hle
        · have := h.closed _ hle c he3
          rw [h.at_ c] at this; simp at this
    · rintro rfl
      refine ⟨?_, ops[j], Array.getElem?_eq_getElem hc, fun e he hb => ?_⟩
      · simp only [Array.getD, h.size, hc, dif_pos] at hun ⊢
        exact hun
      · have := hed j _ (Array.getElem?_eq_getElem hc) e he hb
        rw [h.at_]; simpa using this
  have hready : Region.ready .any ops listed = [c] := by
    have hnd : (Region.ready .any ops listed).Nodup := by unfold Region.ready; exact List.Pairwise.filter _ List.nodup_range
    have h1 : c ∈ Region.ready .any ops listed := (hmem c).2 rfl
    match hq : Region.ready .any ops listed with
    | [] => rw [hq] at h1; simp at h1
    | [x] => rw [hq] at h1; simp at h1; rw [h1]
    | x :: y :: r =>
      rw [hq] at hnd
      have hx := (hmem x).1 (by rw [hq]; simp)
      have hy := (hmem y).1 (by rw [hq]; simp)
      rw [hx, hy] at hnd
      simp at hnd
  refine ⟨fuel, t / 1, listed.setIfInBounds c true, ?_, by simp [h.size], fun j => ?_, fun j hj q hq => ?_, count_set h.size hc hun h.fuel⟩
  · simp only [Region.linearise.go]
    change (match (Region.ready .any ops listed)[t % (Region.ready .any ops listed).length]? with
      | some i => Region.linearise.go .any ops fuel (t / (Region.ready .any ops listed).length) (listed.setIfInBounds i true) [i]
      | none => [].reverse) = _
    rw [hready]
    simp only [List.length_singleton, Nat.mod_one, List.getElem?_cons_zero]
    rw [linearise_go_acc]
    rfl
  · by_cases e : c = j
    · subst e
      simp [h.size, hc]
    · rw [getD_set_ne false e, h.at_ j]
      congr 1
      exact propext ⟨fun h => by omega, fun h => by omega⟩
  · by_cases e : c = j
    · subst e
      refine getD_set_true ?_
      obtain ⟨o', ho', e', he1, he2, he3⟩ := before_bit ops hed hq
      have hon := hed _ _ ho' e' he1 he2
      have hlon : listed.getD e'.on false = true := by rw [h.at_]; simpa using hon
      rcases he3 with he3 | he3
      · rw [← he3]; exact hlon
      · exact h.closed _ hlon q he3
    · rw [getD_set_ne false e] at hj
      exact getD_set_true (h.closed j hj q hq)

theorem draw_loop (J : (Nat → Bool) → Th → Array Value → World → Prop) {ops : Array Oper} {c : Nat} (hm : c + m ≤ ops.size) (b : Frame) (k : List Item) (cs : List Frame)
    (hstep : ∀ (S : Nat → Bool) (θ : Th) (a : Act) (w : World) (i : Nat) (o : Oper) (rest : List Nat), J S θ a.tmps w → i < m → S i = false → (∀ j, S j = true → j < m → ∀ q, ((Region.before ops).getD (c + j) 0).testBit (c + q) = true → S q = true) → (∀ q, ((Region.before ops).getD (c + i) 0).testBit (c + q) = true → S q = true) → ops[c + i]? = some o →
      ∃ θ' w' v', Steps P (lone (b.atR a (.inRegion ops ((c + i) :: rest) :: k)) cs w) (lone (b.atR (a.put o.dst v') (.inRegion ops rest :: k)) cs w') ∧ J (fun j => S j || j == i) θ' (a.put o.dst v').tmps w')
    (hed : EdgesOK ops) (hend : ∀ j, c + m ≤ j → j < ops.size → ∀ q, q < c + m → ((Region.before ops).getD j 0).testBit q = true) :
    ∀ (fuel t : Nat) (listed : Array Bool) (θ : Th) (a : Act) (w : World), listed.size = ops.size → (∀ j, j < c → listed.getD j false = true) → J (fun j => listed.getD (c + j) false) θ a.tmps w → (∀ j, c + m ≤ j → listed.getD j false = false) →
      (∀ j, listed.getD j false = true → ∀ q, ((Region.before ops).getD j 0).testBit q = true → listed.getD q false = true) → listed.toList.countP (fun x => !x) ≤ fuel →
      ∃ θ' w' a' fuel' t' listed', Steps P (lone (b.atR a (.inRegion ops (Region.linearise.go .any ops fuel t listed []) :: k)) cs w) (lone (b.atR a' (.inRegion ops (Region.linearise.go .any ops fuel' t' listed' []) :: k)) cs w') ∧ a'.defers = a.defers ∧ DrawSt ops (c + m) fuel' listed' ∧
        ∃ S, (∀ j, j < m → S j = true) ∧ J S θ' a'.tmps w' := by
  intro fuel
  induction fuel with
  | zero =>
    intro t listed θ a w hsz hlo hI hun hcl hcnt
    have hall : ∀ j, j < ops.size → listed.getD j false = true := fun j hj => by
      have h0' : listed.toList.countP (fun x => !x) = 0 := by omega
      rw [List.countP_eq_zero] at h0'
      have := h0' (listed[j]'(by omega)) (by simp)
      simp only [Array.getD, hsz, hj, dif_pos]
      simpa using this
    have hmn : c + m = ops.size := by
      rcases Nat.eq_or_lt_of_le hm with e | e
      · exact e
      · have h1 := hun (c + m) (Nat.le_refl _)
        rw [hall (c + m) e] at h1; simp at h1
    refine ⟨θ, w, a, 0, t, listed, Steps.refl _ _, rfl, ⟨hsz, fun j => ?_, hcl, hcnt⟩, _, fun j hj => hall (c + j) (by omega), hI⟩
    by_cases hj : j < c + m
    · rw [hall j (by omega)]; simp [hj]
    · rw [hun j (by omega)]; simp [hj]
  | succ fuel ih =>
    intro t listed θ a w hsz hlo hI hun hcl hcnt
    by_cases hdone : ∀ j, j < c + m → listed.getD j false = true
    · refine ⟨θ, w, a, fuel + 1, t, listed, Steps.refl _ _, rfl, ⟨hsz, fun j => ?_, hcl, hcnt⟩, _, fun j hj => hdone (c + j) (by omega), hI⟩
      by_cases hj : j < c + m
      · rw [hdone j hj]; simp [hj]
      · rw [hun j (by omega)]; simp [hj]
    · -- some operation of the group is still to come
      have hne : ∃ j, j < c + m ∧ listed.getD j false = false := by
        refine Classical.byContradiction fun h => hdone fun j hj => ?_
        cases e : listed.getD j false with
        | true => rfl
        | false => exact absurd ⟨j, hj, e⟩ h
      have hrdy : Region.ready .any ops listed ≠ [] := by
        obtain ⟨j0, hj0, hu0⟩ := hne
        have : ∃ j, listed.getD j false = false ∧ ∀ j', j' < j → listed.getD j' false = true := by
          have key : ∀ n, (∃ j, j < n ∧ listed.getD j false = false) → ∃ j, listed.getD j false = false ∧ ∀ j', j' < j → listed.getD j' false = true := by
            intro n
            induction n with
            | zero => rintro ⟨j, hj, _⟩; omega
            | succ n ihn =>
              rintro ⟨j, hj, hu⟩
              by_cases hex : ∃ j, j < n ∧ listed.getD j false = false
              · exact ihn hex
              · have hjn : j = n := by
                  rcases Nat.lt_or_ge j n with h | h
                  · exact absurd ⟨j, h, hu⟩ hex
                  · omega
                subst hjn
                refine ⟨j, hu, fun j' hj' => ?_⟩
                cases e : listed.getD j' false with
                | true => rfl
                | false => exact absurd ⟨j', hj', e⟩ hex
          exact key (c + m) ⟨j0, hj0, hu0⟩
        obtain ⟨j, hu, hmin⟩ := this
        have hjs : j < ops.size := by
          rcases Nat.lt_or_ge j ops.size with h | h
          · exact h
          · have := hmin j0 (by omega)
            rw [hu0] at this; simp at this
        intro hnil
        have hin : j ∈ Region.ready .any ops listed := by
          rw [mem_ready]
          refine ⟨?_, ops[j], Array.getElem?_eq_getElem hjs, fun e he hb => hmin _ (hed j _ (Array.getElem?_eq_getElem hjs) e he hb)⟩
          simp only [Array.getD, hsz, hjs, dif_pos] at hu ⊢
          exact hu
        rw [hnil] at hin
        simp at hin
      simp only [Region.linearise.go]
      change ∃ θ' w' a' fuel' t' listed', Steps P (lone (b.atR a (.inRegion ops (match (Region.ready .any ops listed)[t % (Region.ready .any ops listed).length]? with
        | some i => Region.linearise.go .any ops fuel (t / (Region.ready .any ops listed).length) (listed.setIfInBounds i true) [i]
        | none => [].reverse) :: k)) cs w) _ ∧ _
      have hlt : t % (Region.ready .any ops listed).length < (Region.ready .any ops listed).length := Nat.mod_lt _ (List.length_pos_iff.2 hrdy)
      rw [List.getElem?_eq_getElem hlt]
      simp only
      generalize hi : (Region.ready .any ops listed)[t % (Region.ready .any ops listed).length] = ii
      have hmem : ii ∈ Region.ready .any ops listed := by rw [← hi]; exact List.getElem_mem hlt
      obtain ⟨h1, o, ho, h2⟩ := mem_ready.1 hmem
      have his : ii < ops.size := (Array.getElem?_eq_some_iff.1 ho).1
      have hui : listed.getD ii false = false := by
        simp only [Array.getD, hsz, his, dif_pos] at h1 ⊢
        exact h1
      have hbits : ∀ q, ((Region.before ops).getD ii 0).testBit q = true → listed.getD q false = true := fun q hq => by
        obtain ⟨o', ho', e', he1, he2, he3⟩ := before_bit ops hed hq
        rw [ho] at ho'; injection ho' with ho'; subst ho'
        have hle := h2 e' he1 he2
        rcases he3 with he3 | he3
        · rw [← he3]; exact hle
        · exact hcl _ hle q he3
      have him : ii < c + m := by
        rcases Nat.lt_or_ge ii (c + m) with h | h
        · exact h
        · obtain ⟨j0, hj0, hu0⟩ := hne
          have := hbits j0 (hend ii h his j0 hj0)
          rw [hu0] at this; simp at this
      have hic : c ≤ ii := by
        rcases Nat.lt_or_ge ii c with h | h
        · rw [hlo ii h] at hui; simp at hui
        · exact h
      obtain ⟨i, rfl⟩ : ∃ i, ii = c + i := ⟨ii - c, by omega⟩
      rw [linearise_go_acc, List.reverse_singleton, List.singleton_append]
      obtain ⟨θ1, w1, v1, st, hI1⟩ := hstep _ θ a w i o (Region.linearise.go .any ops fuel (t / (Region.ready .any ops listed).length) (listed.setIfInBounds (c + i) true) []) hI (by omega) hui (fun j hj _ q hq => hcl _ hj _ hq) (fun q hq => hbits _ hq) ho
      have hSeq : (fun j => (listed.getD (c + j) false) || j == i) = fun j => (listed.setIfInBounds (c + i) true).getD (c + j) false := by
        funext j
        by_cases e : i = j
        · subst e
          simp [hsz, his]
        · rw [getD_set_ne false (by omega)]
          have : (j == i) = false := by simpa using fun h => e h.symm
          simp [this]
      rw [hSeq] at hI1
      obtain ⟨θ', w', a', fuel', t', listed', st2, hdef, hst, S, hS, hI2⟩ := ih (t / (Region.ready .any ops listed).length) (listed.setIfInBounds (c + i) true) θ1 (a.put o.dst v1) w1 (by simp [hsz]) (fun j hj => by rw [getD_set_ne false (by omega)]; exact hlo j hj) hI1 (fun j hj => by rw [getD_set_ne false (by omega)]; exact hun j hj)
        (fun j hj q hq => by
          by_cases e : c + i = j
          · subst e; exact getD_set_true (hbits q hq)
          · rw [getD_set_ne false e] at hj
            exact getD_set_true (hcl j hj q hq)) (count_set hsz his hui hcnt)
      refine ⟨θ', w', a', fuel', t', listed', st.trans st2, ?_, hst, S, hS, hI2⟩
      rw [hdef]
      cases o.dst <;> rfl

theorem DrawSt.start (ops : Array Oper) : DrawSt ops 0 ops.size (Array.replicate ops.size false) :=
  ⟨by simp, fun j => by simp [Array.getD], fun j hj => by simp [Array.getD] at hj, by
    have := List.countP_le_length (l := (Array.replicate ops.size false).toList) (p := fun x => !x)
    simpa using this⟩
end
end Go.Abs
/- The evaluator is sound: what it comes to, the machine comes to. -/
namespace Go.Abs
section
variable {P : Program} {gl : List Nat}

theorem pairsOk_spec : ∀ (l : List (IOpx × Nat)) (i : Nat), pairsOk l i = true → ∀ (j k : Nat) (p q : IOpx × Nat), k < j → l[k]? = some p → l[j]? = some q → q.2.testBit (i + k) = true ∨ apartI p.1 q.1 = true
  | [], i, _, j, k, p, q, _, h, _ => by simp at h
  | (o, bb) :: r, i, h, j, k, p, q, hjk, hk, hj => by
    simp only [pairsOk, Bool.and_eq_true, List.all_eq_true, Bool.or_eq_true] at h
    cases j with
    | zero => omega
    | succ j =>
      have hj' : r[j]? = some q := by simpa using hj
      cases k with
      | zero =>
        simp at hk
        subst hk
        simpa using h.1 q (List.mem_of_getElem? hj')
      | succ k =>
        have := pairsOk_spec r (i + 1) h.2 j k p q (by omega) (by simpa using hk) hj'
        rw [show i + (k + 1) = i + 1 + k from by omega]
        exact this

theorem isBound_spec {ops : Array Oper} {b : Nat} (h : isBound (Region.before ops).toList b = true) : ∀ j, b ≤ j → j < ops.size → ∀ q, q < b → ((Region.before ops).getD j 0).testBit q = true := by
  intro j hj hjs q hq
  have hbs : (Region.before ops).size = ops.size := by
    have := (before_bit_aux ops.toList #[] 0 0).2
    unfold Region.before
    rw [← Array.foldl_toList]
    simpa using this
  unfold isBound at h
  rw [List.all_eq_true] at h
  have hmem : (Region.before ops).getD j 0 ∈ (Region.before ops).toList.drop b := by
    refine List.mem_iff_getElem?.2 ⟨j - b, ?_⟩
    rw [List.getElem?_drop, show b + (j - b) = j from by omega, Array.getElem?_toList, Array.getD_eq_getD_getElem?, Array.getElem?_eq_getElem (by omega)]
    rfl
  have := h _ hmem
  simp only [beq_iff_eq] at this
  have h2 := congrArg (fun x => Nat.testBit x q) this
  simp only [Nat.testBit_and, Nat.testBit_two_pow_sub_one, hq, decide_true, Bool.and_true] at h2
  exact h2

theorem edgesOk_spec {ops : Array Oper} (h : edgesOk ops = true) : EdgesOK ops := fun j o ho e he hb => by
  have hj : j < ops.size := (Array.getElem?_eq_some_iff.1 ho).1
  simp only [edgesOk, List.all_eq_true, List.mem_range, Array.all_eq_true_iff_forall_mem, Bool.or_eq_true, Bool.not_eq_true', decide_eq_true_eq] at h
  have := h j hj e (by rw [Array.getD_eq_getD_getElem?, ho]; exact he)
  rcases this with h | h
  · rw [hb] at h; simp at h
  · exact h

/-- An operation of a group, as the evaluator knows it. -/
def Lat (P : Program) (gl : List Nat) (ops : Array Oper) (c j : Nat) : IOpx × Nat := ((ops.map (copx P gl ops)).getD (c + j) default, (Region.before ops).getD (c + j) 0 >>> c)
theorem Lat_op {ops : Array Oper} {c j : Nat} {o : Oper} (ho : ops[c + j]? = some o) : (Lat P gl ops c j).1 = copx P gl ops o := by
  simp only [Lat]
  rw [Array.getD_eq_getD_getElem?, Array.getElem?_map, ho]
  rfl
theorem Lat_bit {ops : Array Oper} {c j q : Nat} : (Lat P gl ops c j).2.testBit q = ((Region.before ops).getD (c + j) 0).testBit (c + q) := by
  simp only [Lat, Nat.testBit_shiftRight]
theorem before_size (ops : Array Oper) : (Region.before ops).size = ops.size := by
  have := (before_bit_aux ops.toList #[] 0 0).2
  unfold Region.before
  rw [← Array.foldl_toList]
  simpa using this
theorem lbits_get {ops : Array Oper} {j : Nat} (hj : j < ops.size) : (lbits P gl ops)[j]? = some ((ops.map (copx P gl ops)).getD j default, (Region.before ops).getD j 0) := by
  have hb := before_size ops
  unfold lbits
  rw [List.getElem?_zip_eq_some]
  constructor
  · simp [Array.getD, hj]
  · simp [Array.getD, hj, hb]
theorem lbits_len {ops : Array Oper} : (lbits P gl ops).length = ops.size := by
  have hb := before_size ops
  simp [lbits, hb]
theorem piece_get {ops : Array Oper} {c m p : Nat} (hm : c + m ≤ ops.size) (hp : p < m) : (piece (lbits P gl ops) c (c + m))[p]? = some (Lat P gl ops c p) := by
  unfold piece
  rw [List.getElem?_map, List.getElem?_take_of_lt (by omega), List.getElem?_drop, lbits_get (by omega)]
  rfl
theorem piece_len {ops : Array Oper} {c m : Nat} (hm : c + m ≤ ops.size) : (piece (lbits P gl ops) c (c + m)).length = m := by
  simp [piece, lbits_len]; omega
theorem piece_L {ops : Array Oper} {c m : Nat} (hm : c + m ≤ ops.size) {p : Nat} {q : IOpx × Nat} (h : (piece (lbits P gl ops) c (c + m))[p]? = some q) : Lat P gl ops c p = q := by
  have hp : p < m := by have := (List.getElem?_eq_some_iff.1 h).1; rw [piece_len hm] at this; exact this
  rw [piece_get hm hp] at h
  injection h

theorem Fr.drawn {θ : Th} {rows : List Row} {w : World} (h : HRel (KP P gl) θ rows w) (low n : Nat) : Fr (KP P gl) θ θ rows rows low low w { w with drawn := n } :=
  ⟨Ext.refl _, ⟨h.dom, h.blk, fun id r e => (h.row id r e).mono (Ext.refl _) (fun _ _ => rfl), h.inj⟩, Nat.le_refl _, Nat.le_refl _, rfl, rfl, rfl, Nat.le_refl _, fun _ _ => rfl, fun _ _ _ => rfl, fun id r a b _ => ⟨r, a, b⟩, fun id r a b _ => ⟨r, a, b⟩, fun id L a b => by rw [a] at b; simp at b⟩

theorem grp_sound {call : Nat → List AV → List Row → Option (AV × List Row × Option Nat)} (hcall : CallOK P gl call) {ops : Array Oper} (hed : EdgesOK ops) {c m : Nat} (hm : c + m ≤ ops.size) (hend : ∀ j, c + m ≤ j → j < ops.size → ∀ q, q < c + m → ((Region.before ops).getD j 0).testBit q = true)
    (hpairs : pairsOk (piece (lbits P gl ops) c (c + m)) 0 = true) {rows : List Row} {sl sl' : List AV} {ext : List (Nat × Row)}
    (hev : evalG call rows 0 (piece (lbits P gl ops) c (c + m)) sl [] = some (sl', ext)) {fuel : Nat} {listed : Array Bool} (hst : DrawSt ops c fuel listed) (t : Nat) {θ : Th} {w : World} {a : Act} (hr : HRel (KP P gl) θ rows w) (hg : GRel θ gl) (hs : SRel θ sl a.tmps) (low : Nat) (hlow : low ≤ rows.length) (b : Frame) (k : List Item) (cs : List Frame) :
    ∃ θ' w' a' fuel' t' listed', Steps P (lone (b.atR a (.inRegion ops (Region.linearise.go .any ops fuel t listed []) :: k)) cs w) (lone (b.atR a' (.inRegion ops (Region.linearise.go .any ops fuel' t' listed' []) :: k)) cs w') ∧ a'.defers = a.defers ∧ DrawSt ops (c + m) fuel' listed' ∧ SRel θ' sl' a'.tmps ∧ Fr (KP P gl) θ θ' rows (rows ++ ext.map (·.2)) low low w w' := by
  obtain ⟨SL, EX, v, rw_, h1, h2, h3, h4, htr⟩ := evalG_trace _ 0 sl [] sl' ext (Lat P gl ops c) (fun p q hp => by rw [Nat.zero_add]; exact piece_L hm hp) hev
  rw [piece_len hm, Nat.zero_add] at h3 h4 htr
  have hI := Inv.start (X := fun _ => False) (m := m) (L := Lat P gl ops c) (v := v) (EX := EX) (rows := rows) (sl0 := sl) (w0 := w) h2 hr hs
  have hSf : (fun _ : Nat => false) = fun j => listed.getD (c + j) false := by
    funext j
    rw [hst.at_]; simp
  rw [hSf] at hI
  have hap : ∀ j, j < m → ∀ k, k < j → (Lat P gl ops c j).2.testBit k = true ∨ apartI (Lat P gl ops c k).1 (Lat P gl ops c j).1 = true := fun j hj k hk => by
    have := pairsOk_spec _ 0 hpairs j k _ _ hk (piece_get hm (by omega)) (piece_get hm hj)
    simpa using this
  obtain ⟨θ', w', a', fuel', t', listed', st, hdef, hst', S, hS, hI2⟩ := draw_loop (P := P) (fun S θ' tmps w' => Inv (KP P gl) (fun _ => False) θ rows sl m (Lat P gl ops c) v EX w S θ' tmps w') hm b k cs
    (fun S θ1 a1 w1 i o rest hJ him hui hcl hbits ho => by
      obtain ⟨θ2, w2, v2, q1, q2, _⟩ := Inv.step hcall htr h1 h2 hg hJ him hui hap (fun j hj hjm q hq => by rw [Lat_bit] at hq; exact hcl j hj hjm q hq) (fun q hq => by rw [Lat_bit] at hq; exact hbits q hq) ho (Lat_op ho) b rest k cs
      exact ⟨θ2, w2, v2, q1, q2⟩) hed hend fuel t listed θ a w hst.size (fun j hj => by rw [hst.at_]; simpa using hj) hI (fun j hj => by rw [hst.at_]; simp; omega) hst.closed hst.fuel
  obtain ⟨r1, r2⟩ := hI2.done htr h1 h2 hS low hlow
  rw [h3] at r1
  rw [h4] at r2
  exact ⟨θ', w', a', fuel', t', listed', st, hdef, hst', r1, r2⟩

/-! ### The stack -/
inductive IR (P : Program) (gl : List Nat) : Itm → Item → Prop
  | code (hint : Nat → List Nat) (c : Code) : IR P gl (.code (cc P gl hint c)) (.code c)
  | inBlock (id : Nat) : IR P gl (.inBlock id) (.inBlock id)
  | inLoop (hint : Nat → List Nat) (c : Code) : IR P gl (.inLoop (cc P gl hint c)) (.inLoop c)
  | inScope (hint : Nat → List Nat) (c : Code) : IR P gl (.inScope (cc P gl hint c)) (.inScope c)
  | rfBegin : IR P gl .rfBegin .beginRound
  | ops (ops : Array Oper) (i : Nat) : IR P gl (.ops ((ops.toList.map fun o => Seg.one (copx P gl ops o)).drop i)) (.inRegion ops (List.range' i (ops.size - i)))
  | draws (ops : Array Oper) (c : Nat) (bs : List Nat) (fuel t : Nat) (listed : Array Bool) : EdgesOK ops → chkB (lbits P gl ops) (Region.before ops).toList c bs = true → DrawSt ops c fuel listed → IR P gl (.ops (csegs (lbits P gl ops) c bs)) (.inRegion ops (Region.linearise.go .any ops fuel t listed []))
inductive KR (P : Program) (gl : List Nat) : List Itm → List Item → Prop
  | nil : KR P gl [] []
  | cons {x : Itm} {y : Item} {k : List Itm} {t : List Item} : IR P gl x y → KR P gl k t → KR P gl (x :: k) (y :: t)

theorem popTo_sound (id : Nat) : ∀ {k : List Itm} {t : List Item}, KR P gl k t → ∀ {k' : List Itm}, popTo id k = some k' → ∃ t', exitTo id t = some t' ∧ KR P gl k' t'
  | _, _, .nil, k', h => by simp [popTo] at h
  | _, _, .cons hx hk, k', h => by
    cases hx with
    | inBlock id' =>
      simp only [popTo] at h
      split at h
      · rename_i e
        injection h with h
        subst h
        exact ⟨_, by simp [exitTo, e], hk⟩
      · rename_i e
        obtain ⟨t', h1, h2⟩ := popTo_sound id hk h
        exact ⟨t', by have : (id' == id) = false := by simpa using e
                      simp [exitTo, this, h1], h2⟩
    | _ =>
      simp only [popTo] at h
      obtain ⟨t', h1, h2⟩ := popTo_sound id hk h
      exact ⟨t', h1, h2⟩

theorem popTo_none (id : Nat) : ∀ {k : List Itm} {t : List Item}, KR P gl k t → popTo id k = none → exitTo id t = none
  | _, _, .nil, h => rfl
  | _, _, .cons hx hk, h => by
    cases hx with
    | inBlock id' =>
      simp only [popTo] at h
      split at h
      · simp at h
      · rename_i e
        have : (id' == id) = false := by simpa using e
        simp [exitTo, this, popTo_none id hk h]
    | _ =>
      simp only [popTo] at h
      simp [exitTo, popTo_none id hk h]

theorem SRel.kill {θ : Th} {t : Array Value} : ∀ (l : List Nat) {sl : List AV}, SRel θ sl t → SRel θ (killS sl l) t
  | [], _, h => h
  | d :: ds, sl, h => by
    refine SRel.kill ds ⟨by simp [h.size], fun i x x' hx hx' => ?_⟩
    rw [List.getElem?_set] at hx
    split at hx
    · split at hx
      · injection hx with hx; subst hx; exact .any _
      · simp at hx
    · exact h.at_ i x x' hx hx'

/-! ### The results -/
def getR (tmps : Array Value) : ResultVar → Sem Value
  | .tmp t => pure (tmps.getD t undef)
  | .cell a t => do loadVar t (← asAddr (tmps.getD a undef))
theorem results_eq (func : Func) (tmps : Array Value) : Go.results func tmps = (do let vs ← func.results.mapM (getR tmps); pure (if h : vs.size = 1 then vs[0] else .tuple vs)) := by
  have h : (fun (r : ResultVar) => (match r with | .tmp t => pure (tmps.getD t undef) | .cell a t => do loadVar t (← asAddr (tmps.getD a undef)) : Sem Value)) = getR tmps := by
    funext r; cases r <;> rfl
  rw [← h]
  rfl
theorem resV_sound {θ : Th} {rows : List Row} {w : World} {sl : List AV} {tmps : Array Value} (hr : HRel (KP P gl) θ rows w) (hs : SRel θ sl tmps) : ∀ {rs : List ResultVar} {res : List RV} {vs : List AV}, cres P rs = some res → resVs rows sl res = some vs →
    ∃ vs' : List Value, (rs.mapM (getR tmps)).run P w = .ok vs' w ∧ VL θ vs vs'
  | [], res, vs, h, k => by
    simp only [cres, Option.some.injEq] at h
    subst h
    simp only [resVs, Option.some.injEq] at k
    subst k
    exact ⟨[], by simp, VL.nil θ⟩
  | .tmp t :: rs, res, vs, h, k => by
    simp only [cres, Option.map_eq_some_iff] at h
    obtain ⟨res', h, rfl⟩ := h
    simp only [resVs] at k
    split at k
    · rename_i v vs1 e1 e2
      injection k with k
      subst k
      simp only [resV, Option.some.injEq] at e1
      subst e1
      obtain ⟨vs', r1, r2⟩ := resV_sound hr hs h e2
      exact ⟨_, by rw [List.mapM_cons]; simp only [getR, Sem.run_bind, Sem.run_pure, Result.andThen_ok, r1], VL.cons (hs.get t) r2⟩
    · simp at k
  | .cell c t :: rs, res, vs, h, k => by
    simp only [cres] at h
    split at h
    · rename_i n l hag hn hl
      injection h with h
      subst h
      simp only [resVs] at k
      split at k
      · rename_i v vs1 e1 e2
        injection k with k
        subst k
        obtain ⟨vs', r1, r2⟩ := resV_sound hr hs hl e2
        simp only [resV, evalP, getO] at e1
        split at e1
        · rename_i id off e
          split at e1
          · rename_i xs hrow
            simp only [Option.map_eq_some_iff] at e1
            obtain ⟨l0, hl0, rfl⟩ := e1
            have hV := hs.get c
            rw [e] at hV
            obtain ⟨v', q1, q2⟩ := snd_loadN (P := P) hr hV hag hn rfl hrow hl0
            refine ⟨_, ?_, VL.cons q2 r2⟩
            rw [List.mapM_cons]
            have hq : (getR tmps (.cell c t)).run P w = .ok v' w := by
              have hq2 : ∀ z : Value, V θ (.ptr id off) z → (Instr.loadAt t z).run P w = .ok v' w → (do loadVar t (← asAddr z) : Sem Value).run P w = .ok v' w := fun z hz hz1 => by
                cases hz
                simpa [Instr.loadAt, Instr.sureAddr, asAddr] using hz1
              exact hq2 _ hV q1
            simp only [Sem.run_bind, Result.andThen_ok]
            rw [hq]
            simp only [Result.andThen_ok, r1]
            rfl
          · simp at e1
        · simp at e1
      · simp at k
    · rename_i n l hag hn hl
      injection h with h
      subst h
      simp only [resVs] at k
      split at k
      · rename_i v vs1 e1 e2
        injection k with k
        subst k
        obtain ⟨vs', r1, r2⟩ := resV_sound hr hs hl e2
        simp only [resV, evalP, getO] at e1
        split at e1
        · rename_i id off e
          split at e1
          · rename_i xs hrow
            have hV := hs.get c
            rw [e] at hV
            obtain ⟨v', q1, q2⟩ := snd_load1 (P := P) hr hV hag rfl hrow e1
            refine ⟨_, ?_, VL.cons q2 r2⟩
            rw [List.mapM_cons]
            have hq : (getR tmps (.cell c t)).run P w = .ok v' w := by
              have hq2 : ∀ z : Value, V θ (.ptr id off) z → (Instr.loadAt t z).run P w = .ok v' w → (do loadVar t (← asAddr z) : Sem Value).run P w = .ok v' w := fun z hz hz1 => by
                cases hz
                simpa [Instr.loadAt, Instr.sureAddr, asAddr] using hz1
              exact hq2 _ hV q1
            simp only [Sem.run_bind, Result.andThen_ok]
            rw [hq]
            simp only [Result.andThen_ok, r1]
            rfl
          · simp at e1
        · simp at e1
      · simp at k
    · simp at h

theorem results_sound {θ : Th} {rows : List Row} {w : World} {sl : List AV} {tmps : Array Value} (hr : HRel (KP P gl) θ rows w) (hs : SRel θ sl tmps) {func : Func} {res : List RV} (hres : cres P func.results.toList = some res) {v : AV} (h : Abs.results rows sl res = some v) :
    ∃ v', (Go.results func tmps).run P w = .ok v' w ∧ V θ v v' := by
  unfold Abs.results at h
  have key := fun vs e => resV_sound (P := P) hr hs (vs := vs) hres e
  have run : ∀ vs', (func.results.toList.mapM (getR tmps)).run P w = .ok vs' w → (Go.results func tmps).run P w = .ok (if h : vs'.toArray.size = 1 then vs'.toArray[0] else .tuple vs'.toArray) w := fun vs' h => by
    rw [results_eq, Array.mapM_eq_mapM_toList]
    simp only [Sem.run_bind, Sem.run_map]
    rw [h]
    rfl
  split at h
  · rename_i x e
    injection h with h
    subst h
    obtain ⟨vs', r1, r2⟩ := key _ e
    obtain ⟨x', r', rfl, h1, h2⟩ := r2.of_cons
    have : r' = [] := List.length_eq_zero_iff.1 h2.1.symm
    subst this
    exact ⟨x', by rw [run _ r1]; simp, h1⟩
  · rename_i vs hne e
    injection h with h
    subst h
    obtain ⟨vs', r1, r2⟩ := key _ e
    refine ⟨.tuple vs'.toArray, ?_, .tup r2.1 r2.2⟩
    rw [run _ r1, dif_neg]
    intro h1
    simp at h1
    have hl := r2.1
    rw [h1] at hl
    match vs, hl with
    | [x], _ => exact hne x rfl
  · simp at h
end
end Go.Abs
/- A region whose order is drawn, with one store in its group. -/
namespace Go.Abs
section
variable {P : Program} {gl : List Nat}

theorem cop_store {o : Oper} {io : IOp} (h : cop P gl o = some io) {a x : Opd} {n : Option Nat} (hs : isStore io = some (a, x, n)) :
    ∃ t y z, o.op = .store t y z ∧ a = co gl y ∧ x = co gl z ∧ ((n = none ∧ szT P t = some 1) ∨ ∃ k, n = some k ∧ szT P t = some k) := by
  obtain ⟨dst, op, ty, pos, aft, gd⟩ := o
  cases op <;> simp only [cop, reduceCtorEq] at h
  case store t y z =>
    split at h
    · rename_i k hag hn
      injection h with h
      subst h
      simp only [isStore, Option.some.injEq, Prod.mk.injEq] at hs
      obtain ⟨rfl, rfl, rfl⟩ := hs
      exact ⟨t, y, z, rfl, rfl, rfl, .inr ⟨k, rfl, hn⟩⟩
    · rename_i k hag hn
      split at h
      · rename_i hk
        subst hk
        injection h with h
        subst h
        simp only [isStore, Option.some.injEq, Prod.mk.injEq] at hs
        obtain ⟨rfl, rfl, rfl⟩ := hs
        exact ⟨t, y, z, rfl, rfl, rfl, .inl ⟨rfl, hn⟩⟩
      · simp at h
    · simp at h
  case call c =>
    obtain ⟨callee, cargs, ats⟩ := c
    cases callee with
    | value ff => simp only [Option.some.injEq] at h; subst h; simp [isStore] at hs
    | invoke r m => simp at h
    | builtin bb =>
      cases bb <;> simp only [reduceCtorEq] at h
      all_goals
        repeat' split at h
        all_goals first
          | (simp at h; done)
          | (injection h with h; subst h; simp [isStore] at hs; done)
          | (simp only [Option.map_eq_some_iff] at h; obtain ⟨_, _, rfl⟩ := h; simp [isStore] at hs; done)
  case makeFunc fn fi cs =>
    cases fn <;> simp only [reduceCtorEq] at h
    split at h
    · injection h with h; subst h; simp [isStore] at hs
    · simp at h
  all_goals
    repeat' split at h
    all_goals first
      | (simp at h; done)
      | (injection h with h; subst h; simp [isStore] at hs; done)
      | (simp only [Option.map_eq_some_iff] at h; obtain ⟨_, _, rfl⟩ := h; simp [isStore] at hs; done)
      | contradiction

theorem stored_spec {sl : List AV} {rows : List Row} {R : Nat} {a x : Opd} {n : Option Nat} {r' : Row} (h : stored sl rows R a x n = some r') :
    ∃ off vs, getO sl a = .ptr R off ∧ rows[R]? = some (.cells vs) ∧ ((n = none ∧ off < vs.length ∧ (getO sl x).one = true ∧ r' = .cells (vs.set off (getO sl x))) ∨
      ∃ l, n = some l.length ∧ getO sl x = .agg l ∧ off + l.length ≤ vs.length ∧ l.all AV.one = true ∧ r' = .cells (splice vs off l)) := by
  unfold stored at h
  split at h
  case h_2 => simp at h
  rename_i id off ha
  split at h
  case isFalse => simp at h
  rename_i hid
  subst hid
  split at h
  case h_2 => simp at h
  rename_i vs hvs
  split at h
  · split at h
    · rename_i hc
      injection h with h
      exact ⟨off, vs, ha, hvs, .inl ⟨rfl, hc.1, hc.2, h.symm⟩⟩
    · simp at h
  · rename_i k
    split at h
    · rename_i l hl
      split at h
      · rename_i hc
        injection h with h
        obtain ⟨c1, c2, c3⟩ := hc
        subst c1
        exact ⟨off, vs, ha, hvs, .inr ⟨l, rfl, hl, c2, c3, h.symm⟩⟩
      · simp at h
    · simp at h

theorem noop_opR (call : Nat → List AV → List Row → Option (AV × List Row × Option Nat)) (sl : List AV) (rows : List Row) (low : Nat) : opR call sl rows low noop = some (.int .i64 0, rows, low) := rfl

theorem grpW_sound {call : Nat → List AV → List Row → Option (AV × List Row × Option Nat)} (hcall : CallOK P gl call) {ops : Array Oper} (hed : EdgesOK ops) {c m : Nat} (hm : c + m ≤ ops.size) (hend : ∀ j, c + m ≤ j → j < ops.size → ∀ q, q < c + m → ((Region.before ops).getD j 0).testBit q = true)
    (hpairs : pairsOk (piece (lbits P gl ops) c (c + m)) 0 = true) {rows : List Row} {sl sl' : List AV} {ext : List (Nat × Row)} {i : Nat} {oi : IOpx × Nat} {a0 x0 : Opd} {n0 : Option Nat} {R : Nat} {r' : Row}
    (hi : (piece (lbits P gl ops) c (c + m))[i]? = some oi) (hst : isStore oi.1.op = some (a0, x0, n0)) (hdst : oi.1.dst = none) (hgn : oi.1.g = none)
    (hbits : ∀ q ∈ piece (lbits P gl ops) c (c + m), q.2.testBit i = false)
    (hev : evalG call (rows.set R .dead) 0 ((piece (lbits P gl ops) c (c + m)).set i (noop, oi.2)) sl [] = some (sl', ext)) (hsto : stored sl' rows R a0 x0 n0 = some r')
    {fuel : Nat} {listed : Array Bool} (hdst0 : DrawSt ops c fuel listed) (t : Nat) {θ : Th} {w : World} {a : Act} (hr : HRel (KP P gl) θ rows w) (hg : GRel θ gl) (hs : SRel θ sl a.tmps) (low : Nat) (hlow : low ≤ rows.length) (b : Frame) (k : List Item) (cs : List Frame) :
    ∃ θ' w' a' fuel' t' listed', Steps P (lone (b.atR a (.inRegion ops (Region.linearise.go .any ops fuel t listed []) :: k)) cs w) (lone (b.atR a' (.inRegion ops (Region.linearise.go .any ops fuel' t' listed' []) :: k)) cs w') ∧ a'.defers = a.defers ∧ DrawSt ops (c + m) fuel' listed' ∧ SRel θ' sl' a'.tmps ∧ Fr (KP P gl) θ θ' rows (rows.set R r' ++ ext.map (·.2)) low (lower low R) w w' := by
  let L : Nat → IOpx × Nat := Lat P gl ops c
  have hlen0 : (piece (lbits P gl ops) c (c + m)).length = m := piece_len hm
  have hget : ∀ p q, (piece (lbits P gl ops) c (c + m))[p]? = some q → L p = q := fun p q hp => piece_L hm hp
  have hap : ∀ j, j < m → ∀ k, k < j → (L j).2.testBit k = true ∨ apartI (L k).1 (L j).1 = true := fun j hj k hk => by
    have := pairsOk_spec _ 0 hpairs j k _ _ hk (piece_get hm (by omega)) (piece_get hm hj)
    simpa using this
  have him : i < m := by have := (List.getElem?_eq_some_iff.1 hi).1; omega
  have hLi : L i = oi := hget i oi hi
  have hbit : ∀ j, j < m → (L j).2.testBit i = false := fun j hj => hbits _ (List.mem_of_getElem? (piece_get hm hj))
  let L' : Nat → IOpx × Nat := fun j => if j = i then (noop, oi.2) else L j
  have hL'2 : ∀ j, (L' j).2 = (L j).2 := fun j => by
    simp only [L']
    split
    · rename_i e; subst e; rw [hLi]
    · rfl
  have hL'n : ∀ j, j ≠ i → L' j = L j := fun j hj => by simp only [L']; rw [if_neg hj]
  have hL'i : L' i = (noop, oi.2) := by simp only [L']; rw [if_pos trivial]
  obtain ⟨SL, EX, v, rw_, h1, h2, h3, h4, htr⟩ := evalG_trace _ 0 sl [] sl' ext L' (fun p q hp => by
    rw [Nat.zero_add]
    rw [List.getElem?_set] at hp
    split at hp
    · rename_i e
      subst e
      split at hp
      · injection hp with hp; rw [hL'i]; exact hp
      · simp at hp
    · rename_i e
      rw [hL'n p (fun h => e h.symm)]
      exact hget p q hp) hev
  rw [List.length_set, hlen0, Nat.zero_add] at h3 h4 htr
  -- the row
  obtain ⟨off, vs, hpa, hR, hcase⟩ := stored_spec hsto
  obtain ⟨LR, hLR⟩ := (hr.row R _ hR).loc rfl
  have hRb := hr.blk R LR hLR
  have hRl : R < rows.length := (List.getElem?_eq_some_iff.1 hR).1
  have hrD : HRel (KP P gl) θ (rows.set R .dead) w := (Fr.kill hr low R).rel
  have hI := Inv.start (X := fun b => b = LR.b) (m := m) (L := L') (v := v) (EX := EX) (rows := rows.set R .dead) (sl0 := sl) (w0 := w) h2 hrD hs
  have hSf : (fun _ : Nat => false) = fun j => listed.getD (c + j) false := by
    funext j
    rw [hdst0.at_]; simp
  rw [hSf] at hI
  have hap' : ∀ j, j < m → ∀ k, k < j → (L' j).2.testBit k = true ∨ apartI (L' k).1 (L' j).1 = true := fun j hj k hk => by
    rw [hL'2]
    by_cases e1 : j = i
    · subst e1; right; rw [hL'i]; simp [apartI, noop, IOpx.looks, IOp.opds]
      cases (L' k).1.dst <;> simp
    · by_cases e2 : k = i
      · subst e2; right; rw [hL'i]; simp [apartI, noop, IOpx.looks, IOp.opds]
        cases (L' j).1.dst <;> simp
      · rw [hL'n j e1, hL'n k e2]
        exact hap j hj k hk
  obtain ⟨θ', w', a', fuel', t', listed', st, hdef, hst', S, hS, hI2, hrow2⟩ := draw_loop (P := P) (fun S θ' tmps w' => Inv (KP P gl) (fun b => b = LR.b) θ (rows.set R .dead) sl m L' v EX w S θ' tmps w' ∧ RowRel (KP P gl) θ' R w' (if S i then r' else .cells vs)) hm b k cs
    (fun S θ1 a1 w1 j o rest hJ hjm huj hcl hbj ho => by
      obtain ⟨hJ, hJR⟩ := hJ
      have hLo1 : (L j).1 = copx P gl ops o := Lat_op ho
      have hθR : θ1 R = some LR := hJ.ext _ _ hLR
      by_cases hji : j = i
      · -- the store
        subst hji
        rw [huj] at hJR
        simp only [Bool.false_eq_true, if_false] at hJR
        rw [hLi] at hLo1
        have hbad : (copx P gl ops o).op ≠ .bad := by
          rw [← hLo1]; intro h; rw [h] at hst; simp [isStore] at hst
        obtain ⟨g, c1, c2, c3, c4⟩ := copx_bad hbad
        rw [← hLo1] at c2 c3 c4
        rw [hgn] at c3
        subst c3
        have hwr := want_sound (sl := List.replicate a1.tmps.size .any) (a := a1) (θ := θ1) (c := true) ⟨by simp, fun i x x' hx _ => by
          rw [List.getElem?_replicate] at hx
          split at hx
          · injection hx with hx; subst hx; exact .any _
          · simp at hx⟩ c1 rfl
        obtain ⟨t, y, z, d1, rfl, rfl, d4⟩ := cop_store c2 hst
        rw [hdst] at c4
        -- the slots that it looks at
        have hX : ∀ u, Opd.tmps (co gl u) ⊆ oi.1.looks → V θ1 (getO sl' (co gl u)) (a1.eval u) := fun u hu => by
          have hgθ : GRel θ1 gl := hg.mono hJ.ext
          let Y : List AV := (List.range sl.length).map fun t => if t ∈ oi.1.looks then (SL m).getD t .any else .any
          have hY : SRel θ1 Y a1.tmps := by
            refine ⟨by simp [Y, hJ.size], fun t x x' hx hx' => ?_⟩
            have htl : t < sl.length := by have := (List.getElem?_eq_some_iff.1 hx).1; simpa [Y] using this
            simp only [Y, List.getElem?_map, List.getElem?_range htl, Option.map_some, Option.some.injEq] at hx
            subst hx
            split
            · rename_i ht
              have hV := hJ.slots t x' hx'
              have e1 : slotAt sl (rows.set R Row.dead).length L' v (fun j => (rows.set R Row.dead).length + (EX j).length) S m t = slotAt sl (rows.set R Row.dead).length L' v (fun j => (rows.set R Row.dead).length + (EX j).length) (fun _ => true) m t :=
                slotAt_congr m (fun q hq hd => by
                  by_cases e : q = j
                  · subst e; rw [hL'i] at hd; simp [noop] at hd
                  · rw [hL'n q e] at hd
                    rcases Nat.lt_or_ge q j with h | h
                    · rcases hap j hjm q h with hh | hh
                      · exact hbj q (by rw [← Lat_bit (P := P) (gl := gl)]; exact hh)
                      · have := (apartI_spec hh).1 t hd
                        rw [hLi] at this
                        exact absurd ht this
                    · rcases hap q hq j (by omega) with hh | hh
                      · have := hbit q hq
                        rw [hh] at this
                        simp at this
                      · have := (apartI_spec hh).2.2 t hd
                        rw [hLi] at this
                        exact absurd ht this)
              rw [e1, (slotAt_text (sl0 := sl) htr h1 htl m (Nat.le_refl _)).1] at hV
              exact hV.mono (Th.upto_ext _ _)
            · exact .any _
          have hV := opd_V (a := a1) hgθ hY u
          have : getO Y (co gl u) = getO sl' (co gl u) := getO_congr fun t ht => by
            rcases Nat.lt_or_ge t sl.length with htl | htl
            · simp only [Y, List.getD, List.getElem?_map, List.getElem?_range htl, Option.map_some, Option.getD_some, if_pos (hu ht)]
              rw [h3]
            · have hL' := htr.sl_len h1 m (Nat.le_refl _)
              rw [h3] at hL'
              rw [List.getD, List.getD, List.getElem?_eq_none (l := Y) (by simp only [Y, List.length_map, List.length_range]; exact htl), List.getElem?_eq_none (l := sl') (by omega)]
          rw [← this]; exact hV
        have hVa : V θ1 (.ptr R off) (a1.eval y) := by
          rw [← hpa]
          refine hX y fun t ht => opd_looks (x := co gl y) ?_ ht
          rcases oi with ⟨⟨dd, op, gg⟩, bb⟩
          cases op <;> simp [isStore] at hst <;> simp [IOp.opds, hst]
        have hVx : V θ1 (getO sl' (co gl z)) (a1.eval z) := by
          refine hX z fun t ht => opd_looks (x := co gl z) ?_ ht
          rcases oi with ⟨⟨dd, op, gg⟩, bb⟩
          cases op <;> simp [isStore] at hst <;> simp [IOp.opds, hst]
        have hstore : ∃ w2, (Instr.storeAt t (a1.eval y) (a1.eval z)).run P w1 = .ok () w2 ∧ RowRel (KP P gl) θ1 R w2 r' ∧ w2.heap.size = w1.heap.size ∧ (∀ k, k ≠ LR.b → w2.heap[k]? = w1.heap[k]?) ∧ w2.os = w1.os ∧ w2.tape = w1.tape ∧ w2.output = w1.output := by
          rcases hcase with ⟨e0, e1, e2, rfl⟩ | ⟨l, e0, e1, e2, e3, rfl⟩
          · have hsz : szT P t = some 1 := by
              rcases d4 with ⟨_, d4⟩ | ⟨k, d4, _⟩
              · exact d4
              · rw [e0] at d4; simp at d4
            obtain ⟨o1, o2⟩ := V.oneCell hVx e2
            have hl : VL θ1 [getO sl' (co gl z)] [a1.eval z] := VL.cons hVx (VL.nil θ1)
            have := snd_storeR (P := P) hVa hl (x' := a1.eval z) (by rw [o2]) hsz hθR hJR (by simp; omega) (by simpa using o1)
            rw [splice_one _ _ _ e1] at this
            exact this
          · have hsz : szT P t = some l.length := by
              rcases d4 with ⟨d4, _⟩ | ⟨k, d4, d5⟩
              · rw [e0] at d4; simp at d4
              · rw [e0] at d4; injection d4 with d4; rw [d4]; exact d5
            rw [e1] at hVx
            generalize a1.eval z = z' at hVx ⊢
            cases hVx with
            | agg p q =>
            rename_i l'
            have hl : VL θ1 l l' := ⟨p, q⟩
            exact snd_storeR (P := P) hVa hl (x' := .agg l'.toArray) (by simp [Value.cells]) hsz hθR hJR e2 (ones_of hl e3)
        obtain ⟨w2, s1, s2, s3, s4, s5, s6, s7⟩ := hstore
        have hrun : (execOp a1.eval o).run P w1 = .ok .skip w2 := by
          have : execOp a1.eval o = (do Instr.storeAt t (a1.eval y) (a1.eval z); pure .skip) := by
            obtain ⟨dst, op, ty, pos, aft, gd⟩ := o
            simp only at d1
            subst d1
            rfl
          rw [this, Sem.run_bind, s1]; rfl
        have hod : o.dst = none := c4.symm
        have hstep := step_value (P := P) (b := b) (a := a1) (k := k) (cs := cs) (rest := rest) ho hwr (by rw [d1]; intro c h; cases h) hrun (.inr ⟨rfl, rfl⟩)
        refine ⟨θ1, w2, undef, .one hstep, ?_, by simpa using s2⟩
        have htm : (a1.put o.dst undef).tmps = a1.tmps := by rw [hod]; rfl
        rw [htm]
        -- no row of the operation's own
        have hnew : (EX (j + 1)).length = (EX j).length := by
          have e1 := htr.op j (Nat.zero_le _) hjm
          rw [hL'i] at e1
          simp only [noop_opR, Option.some.injEq, Prod.mk.injEq] at e1
          have e2 := htr.ex j (Nat.zero_le _) hjm
          rw [← e1.2.1] at e2
          have : (((rows.set R Row.dead) ++ maskE (oi.2) (EX j)).drop ((rows.set R Row.dead).length + (EX j).length)) = [] := List.drop_eq_nil_of_le (by simp [maskE])
          rw [this] at e2
          rw [e2]; simp
        have hblk : ∀ id K, id ≠ R → θ1 id = some K → (∃ r, (rows.set R .dead)[id]? = some r ∧ r.live = true) ∨ rows.length ≤ id → K.b ≠ LR.b := fun id K hne hK hcase => by
          rcases hJ.dom id K hK with h | ⟨q1, p, q, s, q2, q3, q4⟩
          · rcases hcase with ⟨r, c1, c2⟩ | h2
            · rw [List.getElem?_set_ne (Ne.symm hne)] at c1
              exact fun e => hr.inj R id _ r LR K (Ne.symm hne) hR rfl c1 c2 hLR h e.symm
            · have := hr.dom id K h; omega
          · omega
        refine ⟨hJ.size, fun t x' hx => ?_, fun p q r e hS' => ?_, ⟨hJ.base.dom, fun id K e => by rw [s3]; exact hJ.base.blk id K e, fun id r e => ?_, hJ.base.inj⟩, hJ.ext, fun id K e => ?_, fun p p' q q' r s K K' hne e hS1 ho1 e' hS2 hl2 hK hK' => ?_, fun id K e => by rw [s3]; exact hJ.blk id K e, s5.trans hJ.os, s6.trans hJ.tape, s7.trans hJ.output, by rw [s3]; exact hJ.wsize, fun b' hb' hx => ?_, hJ.base0⟩
        · have e1 : slotAt sl (rows.set R Row.dead).length L' v (fun j => (rows.set R Row.dead).length + (EX j).length) (fun q => S q || q == j) m t = slotAt sl (rows.set R Row.dead).length L' v (fun j => (rows.set R Row.dead).length + (EX j).length) S m t :=
            slotAt_congr m (fun q hq hd => by
              by_cases e : q = j
              · subst e; rw [hL'i] at hd; simp [noop] at hd
              · have : (q == j) = false := by simpa using e
                simp [this])
          rw [e1]
          exact hJ.slots t x' hx
        · have hq : q ≠ j := by
            rintro rfl
            obtain ⟨o1, o2, o3, _⟩ := Tr.owner htr h2 (i := m) (Nat.le_refl _) e
            omega
          have hSq : S q = true := by
            have : (q == j) = false := by simpa using hq
            simpa [this] using hS'
          refine (hJ.rows_ p q r e hSq).mono (Ext.refl _) (fun K hK => s4 _ ?_)
          refine hblk _ K ?_ (Th.upto_some.1 hK).2 (.inr ?_)
          · simp; omega
          · simp
        · by_cases hl : r.live = true
          · have hid : id ≠ R := by
              rintro rfl
              rw [List.getElem?_set_self (by simpa using hRl)] at e
              injection e with e
              subst e
              simp [Row.live] at hl
            exact (hJ.base.row id r e).mono (Ext.refl _) (fun K hK => s4 _ (hblk id K hid (hJ.ext _ _ hK) (.inl ⟨r, e, hl⟩)))
          · cases r <;> first | (simp [Row.live] at hl; done) | trivial
        · rcases hJ.dom id K e with h | ⟨q1, p, q, r, q2, q3, q4⟩
          · exact .inl h
          · exact .inr ⟨q1, p, q, r, q2, q3, by simp [q4]⟩
        · have hown : ∀ p q r, (EX m)[p]? = some (q, r) → q ≠ j := fun p q r e => by
            rintro rfl
            obtain ⟨o1, o2, o3, _⟩ := Tr.owner htr h2 (i := m) (Nat.le_refl _) e
            omega
          have d1 : S q = true := by have : (q == j) = false := by simpa using hown p q r e
                                     simpa [this] using hS1
          have d2 : S q' = true := by have : (q' == j) = false := by simpa using hown p' q' s e'
                                      simpa [this] using hS2
          exact hJ.inj p p' q q' r s K K' hne e d1 ho1 e' d2 hl2 hK hK'
        · rw [s4 b' hx]
          exact hJ.heap b' hb' hx
      · obtain ⟨θ2, w2, v2, q1, q2, q3, q4⟩ := Inv.step hcall htr h1 h2 hg hJ hjm huj hap' (fun j' hj hjm q hq => by
          rw [hL'2, Lat_bit] at hq
          exact hcl j' hj hjm q hq) (fun q hq => by rw [hL'2, Lat_bit] at hq; exact hbj q hq) ho (by rw [hL'n j hji]; exact hLo1) b rest k cs
        refine ⟨θ2, w2, v2, q1, q2, ?_⟩
        have : (i == j) = false := by simpa using fun h => hji h.symm
        simp only [this, Bool.or_false]
        exact hJR.mono q3 (fun K hK => by
          rw [hθR] at hK; injection hK with hK; subst hK
          exact q4 _ (hJ.blk R LR hθR))) hed hend fuel t listed θ a w hdst0.size (fun j hj => by rw [hdst0.at_]; simpa using hj) ⟨hI, by
        have : listed.getD (c + i) false = false := by rw [hdst0.at_]; simp
        simp only [this, Bool.false_eq_true, if_false]
        exact hr.row R _ hR⟩ (fun j hj => by rw [hdst0.at_]; simp; omega) hdst0.closed hdst0.fuel
  rw [hS i him] at hrow2
  obtain ⟨r1, r2⟩ := hI2.doneW htr h1 h2 hS hr hR rfl hLR hrow2 (by rcases hcase with ⟨_, _, _, rfl⟩ | ⟨_, _, _, _, _, rfl⟩ <;> rfl) low hlow
  rw [h3] at r1
  rw [h4] at r2
  exact ⟨θ', w', a', fuel', t', listed', st, hdef, hst', r1, r2⟩
end
end Go.Abs
/- Loops over functions: the record, the marks, a round. -/
namespace Go.Abs
variable {κ : KRel}
section
variable {θ : Th} {rows : List Row} {w w' : World}

/-- A block that nobody knows is laid. -/
theorem Fr.garbage (h : HRel κ θ rows w) (low : Nat) (o : Obj) : Fr κ θ θ rows rows low low w (w.alloc o) := by
  have hold : ∀ b, b < w.heap.size → (w.alloc o).heap[b]? = w.heap[b]? := fun b hb => by
    show (w.heap.push o)[b]? = w.heap[b]?
    rw [Array.getElem?_push_lt hb, Array.getElem?_eq_getElem hb]
  exact ⟨Ext.refl _, ⟨h.dom, fun id L e => by have := h.blk id L e; show L.b < (w.heap.push o).size; simp; omega, fun id r e => (h.row id r e).mono (Ext.refl _) (fun L hL => hold _ (h.blk id L hL)), h.inj⟩,
    Nat.le_refl _, Nat.le_refl _, rfl, rfl, rfl, by show _ ≤ (w.heap.push o).size; simp, fun _ _ => rfl, fun b hb _ => hold b hb, fun id r a b _ => ⟨r, a, b⟩, fun id r a b _ => ⟨r, a, b⟩, fun id L a b => by rw [a] at b; simp at b⟩

/-- A block that nobody knows, and that is younger than the frame, is turned. -/
theorem Fr.other {θ0 : Th} {rows0 : List Row} {low0 low : Nat} {w0 : World} (h : Fr κ θ0 θ rows0 rows low0 low w0 w) (r : Nat) (o : Obj) (hr : w0.heap.size ≤ r) (hn : ∀ id L, θ id = some L → L.b ≠ r) :
    Fr κ θ0 θ rows0 rows low0 low w0 (w.putObj r o) := by
  have hold : ∀ b, b ≠ r → (w.putObj r o).heap[b]? = w.heap[b]? := fun b hb => World.putObj_heap_other hb
  exact ⟨h.ext, ⟨h.rel.dom, fun id L e => by rw [World.putObj_size]; exact h.rel.blk id L e, fun id s e => (h.rel.row id s e).mono (Ext.refl _) (fun L hL => hold _ (hn id L hL)), h.rel.inj⟩,
    h.len, h.low, h.os, h.tape, h.output, by rw [World.putObj_size]; exact h.size, h.keepA, fun b hb q => by rw [hold b (by omega)]; exact h.keepB b hb q, h.own, h.alive, h.fresh⟩

/-- The marks among a frame's deferred calls: blocks that nobody knows, made in the frame's own time. -/
structure Marks (n0 : Nat) (θ : Th) (w : World) (ds : List Deferred) : Prop where
  all : ∀ d ∈ ds, ∃ r, d.target = .collected r ∧ n0 ≤ r ∧ r < w.heap.size ∧ w.heap[r]? = some (.deferred (some [])) ∧ ∀ id L, θ id = some L → L.b ≠ r
  nodup : (ds.map (·.target)).Nodup

theorem Marks.nil (n0 : Nat) (θ : Th) (w : World) : Marks n0 θ w [] := ⟨fun d h => by simp at h, List.nodup_nil⟩

theorem Marks.frame {n0 : Nat} {θ' : Th} {rows' : List Row} {low low' : Nat} {ds : List Deferred} (hr : HRel κ θ rows w) (h : Marks n0 θ w ds) (hF : Fr κ θ θ' rows rows' low low' w w') : Marks n0 θ' w' ds := by
  refine ⟨fun d hd => ?_, h.nodup⟩
  obtain ⟨r, h1, h2, h3, h4, h5⟩ := h.all d hd
  refine ⟨r, h1, h2, Nat.lt_of_lt_of_le h3 hF.size, ?_, fun id L hL => ?_⟩
  · rw [hF.keepB r h3 (fun id s L _ _ _ e => h5 id L e)]; exact h4
  · cases e : θ id with
    | some L0 =>
      have := hF.ext id L0 e
      rw [hL] at this; injection this with this; subst this
      exact h5 id L e
    | none =>
      rcases (hF.fresh id L hL e).2 with f | ⟨j, s, L', _, _, _, q, u⟩
      · omega
      · rw [← u]; exact h5 j L' q

theorem Marks.cons {n0 : Nat} {ds : List Deferred} (h : Marks n0 θ w ds) (hn : n0 ≤ w.heap.size) (hb : ∀ id L, θ id = some L → L.b < w.heap.size) :
    Marks n0 θ (w.alloc (.deferred (some []))) ({ target := .collected w.heap.size, args := #[] } :: ds) := by
  have hsz : (w.alloc (.deferred (some []))).heap.size = w.heap.size + 1 := by show (w.heap.push _).size = _; simp
  refine ⟨fun d hd => ?_, ?_⟩
  · rw [List.mem_cons] at hd
    rcases hd with rfl | hd
    · exact ⟨w.heap.size, rfl, hn, by omega, World.alloc_heap_new w _, fun id L e => by have := hb id L e; omega⟩
    · obtain ⟨r, h1, h2, h3, h4, h5⟩ := h.all d hd
      refine ⟨r, h1, h2, by omega, ?_, h5⟩
      show (w.heap.push _)[r]? = _
      rw [Array.getElem?_push_lt h3, ← h4, Array.getElem?_eq_getElem h3]
  · rw [List.map_cons, List.nodup_cons]
    refine ⟨fun hm => ?_, h.nodup⟩
    obtain ⟨d, hd, e⟩ := List.mem_map.1 hm
    obtain ⟨r, h1, _, h3, _⟩ := h.all d hd
    rw [h1] at e
    injection e with e
    omega

/-- A frame on its way out comes to its marks. -/
theorem unwind_marks {P : Program} {θ0 : Th} {rows0 : List Row} {low0 low : Nat} {w0 : World} (cs : List Frame) : ∀ (ds : List Deferred) (w : World) (fr : Frame), fr.mode = .returning → fr.defers = ds → Marks w0.heap.size θ w ds → Fr κ θ0 θ rows0 rows low0 low w0 w →
    ∃ w', Steps P (lone fr cs w) (lone { fr with defers := [] } cs w') ∧ Fr κ θ0 θ rows0 rows low0 low w0 w'
  | [], w, fr, hm, hd, _, hF => ⟨w, by rw [← hd]; exact Steps.refl _ _, hF⟩
  | d :: ds, w, fr, hm, hd, hM, hF => by
    obtain ⟨r, h1, h2, h3, h4, h5⟩ := hM.all d (by simp)
    have hst := step_collected (P := P) (cs := cs) (fr := fr) (by rw [hm]; simp) hd h1 (run_takeDeferred h4)
    have hnd := hM.nodup
    rw [List.map_cons, List.nodup_cons] at hnd
    have hM' : Marks w0.heap.size θ (w.putObj r (.deferred none)) ds := by
      refine ⟨fun e he => ?_, hnd.2⟩
      obtain ⟨q, q1, q2, q3, q4, q5⟩ := hM.all e (by simp [he])
      refine ⟨q, q1, q2, by rw [World.putObj_size]; exact q3, ?_, q5⟩
      rw [World.putObj_heap_other]
      · exact q4
      · rintro rfl
        exact hnd.1 (by rw [h1, ← q1]; exact List.mem_map_of_mem he)
    obtain ⟨w', s1, s2⟩ := unwind_marks (P := P) cs ds (w.putObj r (.deferred none)) { fr with defers := ds } hm rfl hM' (hF.other r _ h2 h5)
    exact ⟨w', .head (by simpa using hst) s1, s2⟩
end

section
variable {P : Program} {gl : List Nat}

/-- A call of a loop's yield: the round's frame. -/
theorem step_yield {b : Frame} {a : Act} {k : List Item} {cs : List Frame} {w : World} {ops : Array Oper} {i : Nat} {rest : List Nat} {o : Oper} (ho : ops[i]? = some o) (hw : Region.wanted o (yielded ops a.tmps) = true) {c : Call} (hc : o.op = .call c) {f : Operand} (hf : c.callee = .value f) {l : Nat}
    (hv : a.eval f = .func (.yield l) #[] #[]) {r : Loop} (hr : w.heap[l]? = some (.loop r)) (hs : c.args.size = r.params.size) :
    step P (lone (b.atR a (.inRegion ops (i :: rest) :: k)) cs w) =
      .next (lone (Frame.round l r.fn ((r.params.zip (c.args.map a.eval)).foldl (fun tmps (t, x) => tmps.setIfInBounds t x) r.tmps) r.assign r.body .normal) (b.atR a (.inRegion ops (i :: rest) :: k) :: cs) w) := by
  have hg := stepGR_op (P := P) (b := b) (a := a) (k := k) (cs := cs) (w := w) (rest := rest) ho hw
  rw [semAt_of (by rw [hc]; intro c h; cases h)] at hg
  refine step_lone_go ?_
  rw [hg]
  obtain ⟨callee, args, ats⟩ := c
  simp only at hf
  subst hf
  obtain ⟨dst, op, ty, pos, aft, gd⟩ := o
  simp only at hc
  subst hc
  have hrun : (execOp a.eval { dst := dst, op := .call { callee := .value f, args := args, argTypes := ats }, type := ty, pos := pos, after := aft, guard := gd }).run P w =
      .ok (.round l r.fn ((r.params.zip (args.map a.eval)).foldl (fun tmps (t, x) => tmps.setIfInBounds t x) r.tmps) r.assign r.body) w := by
    simp only [execOp, resolve, hv, Deferred.ofValue, Sem.run_bind, Sem.run_pure, Result.andThen_ok, invoke]
    rw [Array.empty_append]
    exact run_yield (args := args.map a.eval) hr (by simpa using hs)
  simp [stepG.apply, hrun, Sem.runT_eq, Frame.atR]

theorem SRel.putL {θ : Th} : ∀ (ps : List Nat) {vs : List AV} {xs : List Value} {sl : List AV} {t : Array Value}, SRel θ sl t → VL θ vs xs → SRel θ (Abs.putL sl ps vs) ((ps.zip xs).foldl (fun tmps p => tmps.setIfInBounds p.1 p.2) t)
  | [], vs, xs, sl, t, h, _ => by simpa [Abs.putL] using h
  | p :: ps, vs, xs, sl, t, h, hv => by
    cases vs with
    | nil =>
      have : xs = [] := List.length_eq_zero_iff.1 hv.1.symm
      subst this
      simpa [Abs.putL] using h
    | cons v vs =>
      obtain ⟨x, xs', rfl, h1, h2⟩ := hv.of_cons
      have := SRel.putL ps (vs := vs) (xs := xs') (h.put (a := { tmps := t, defers := [] }) (some p) h1) h2
      simpa [Abs.putL, putO, Act.put] using this

theorem rows_under {θ : Th} {rows : List Row} {w : World} {id : Nat} {st : LoopState} {pend : Option Jump} {sl : List AV} {ps : List Nat} {asg body : ICode} (hr : HRel κ θ rows w) (h : rows[id]? = some (.loop st pend sl ps asg body)) {L : Loc} (hL : θ id = some L) :
    ∃ r, w.heap[L.b]? = some (.loop r) ∧ r.state = st ∧ r.pending = pend.map Jump.code ∧ VL θ sl r.tmps.toList ∧ r.params.toList = ps ∧ κ asg r.assign ∧ κ body r.body := by
  obtain ⟨L', r, h1, h2⟩ := hr.row id _ h
  rw [hL] at h1
  injection h1 with h1
  subst h1
  exact ⟨r, h2⟩

theorem SRel.of_VL {θ : Th} {sl : List AV} {t : Array Value} (h : VL θ sl t.toList) : SRel θ sl t := ⟨by have := h.1; simpa using this, fun i x x' a b => h.2 i x x' a (by simpa using b)⟩
theorem SRel.VL {θ : Th} {sl : List AV} {t : Array Value} (h : SRel θ sl t) : VL θ sl t.toList := ⟨by have := h.size; simpa using this, fun i x x' a b => h.at_ i x x' a (by simpa using b)⟩
theorem cop_call {o : Oper} {f : Opd} {args : List Opd} (h2 : cop P gl o = some (.call f args)) : ∃ c ff, o.op = .call c ∧ c.callee = .value ff ∧ f = co gl ff ∧ args = c.args.toList.map (co gl) := by
  obtain ⟨dst, op, ty, pos, aft, gd⟩ := o
  cases op <;> simp only [cop, reduceCtorEq] at h2
  case call c =>
    obtain ⟨callee, cargs, ats⟩ := c
    cases callee with
    | value ff =>
      simp only [Option.some.injEq, IOp.call.injEq] at h2
      exact ⟨_, ff, rfl, rfl, h2.1.symm, h2.2.symm⟩
    | invoke r m => simp at h2
    | builtin bb =>
      cases bb <;> simp only [reduceCtorEq] at h2
      all_goals
        repeat' split at h2
        all_goals first
          | (simp at h2; done)
          | (simp only [Option.map_eq_some_iff] at h2; obtain ⟨_, _, h2⟩ := h2; simp at h2; done)
  case makeFunc fn fi cs =>
    cases fn <;> simp only [reduceCtorEq] at h2
    split at h2 <;> simp at h2
  all_goals
    repeat' split at h2
    all_goals first
      | (simp at h2; done)
      | (simp only [Option.map_eq_some_iff] at h2; obtain ⟨_, _, h2⟩ := h2; simp at h2; done)
      | contradiction

/-- What a context asks of the frame. -/
def CxOK (P : Program) (θ : Th) (b : Frame) : Ctx → Prop
  | .fn res => b.roundOf = none ∧ ∃ func, P.funcs[b.fn]? = some func ∧ cres P func.results.toList = some res
  | .round id => ∃ L, θ id = some L ∧ b.roundOf = some L.b
theorem CxOK.mono {θ θ' : Th} (h : Ext θ θ') {b : Frame} : ∀ {cx : Ctx}, CxOK P θ b cx → CxOK P θ' b cx
  | .fn _, k => k
  | .round _, ⟨L, a, c⟩ => ⟨L, h _ _ a, c⟩

/-- What is asked of its deferred calls. -/
def DefsOK (cx : Ctx) (n0 : Nat) (θ : Th) (w : World) (ds : List Deferred) : Prop :=
  match cx with
  | .fn _ => Marks n0 θ w ds
  | .round _ => ds = []
theorem DefsOK.frame {cx : Ctx} {n0 : Nat} {θ θ' : Th} {rows rows' : List Row} {low low' : Nat} {w w' : World} {ds : List Deferred} (hr : HRel κ θ rows w) (h : DefsOK cx n0 θ w ds) (hF : Fr κ θ θ' rows rows' low low' w w') : DefsOK cx n0 θ' w' ds := by
  cases cx with
  | fn res => exact Marks.frame hr h hF
  | round id => exact h

/-- How a frame ends. -/
def Ends (P : Program) (cx : Ctx) (b : Frame) (m : Machine) (cs : List Frame) (w' : World) (v' : Value) : Prop :=
  match cx with
  | .fn _ => ∃ fr, Steps P m (lone fr cs w') ∧ fr.fn = b.fn ∧ fr.leaving P w' (.returned v')
  | .round _ => ∀ c cs', cs = c :: cs' → Steps P m (lone (c.finish v') cs' w')
theorem Ends.head {cx : Ctx} {b : Frame} {m m1 : Machine} {cs : List Frame} {w' : World} {v' : Value} (h : Steps P m m1) (k : Ends P cx b m1 cs w' v') : Ends P cx b m cs w' v' := by
  cases cx with
  | fn res => obtain ⟨fr, a, c⟩ := k; exact ⟨fr, h.trans a, c⟩
  | round id => exact fun c cs' e => h.trans (k c cs' e)

theorem rf_enter {cx : Ctx} {θ : Th} {rows : List Row} {w : World} {b : Frame} {a : Act} {n0 : Nat} (hcx : CxOK P θ b cx) (hok : rfOk cx rows = true) (hr : HRel κ θ rows w) (low : Nat) (hD : DefsOK cx n0 θ w a.defers) (hn : n0 ≤ w.heap.size) (ps : Array Tmp) (x y : Code) :
    ∃ wm mark dn, Fr κ θ θ rows rows low low w wm ∧ DefsOK cx n0 θ wm (mark ++ a.defers) ∧
      (Instr.enterLoop b.fn a.tmps ps x y b.roundOf).run P w = .ok (wm.heap.size, mark) (wm.alloc (.loop { state := .ready, pending := none, fn := b.fn, tmps := a.tmps, params := ps, assign := x, body := y, defers := dn })) := by
  cases cx with
  | fn res =>
    refine ⟨w.alloc (.deferred (some [])), [{ target := .collected w.heap.size, args := #[] }], w.heap.size, Fr.garbage hr low _, Marks.cons hD hn hr.blk, ?_⟩
    rw [hcx.1, run_enterLoop_outer, World.size_alloc]
  | round id =>
    obtain ⟨L, h1, h2⟩ := hcx
    simp only [rfOk] at hok
    split at hok
    · rename_i st pend sl ps' asg body e
      obtain ⟨r, r1, _⟩ := rows_under hr e h1
      refine ⟨w, [], r.defers, Fr.refl hr low, hD, ?_⟩
      rw [h2, run_enterLoop_inner r1]
    · simp at hok
end
end Go.Abs
/- The evaluator is sound: the theorem. -/
namespace Go.Abs
section
variable {P : Program} {gl : List Nat} {F : Nat → Option IFn}

/-- The functions are those of the program. -/
def FnOK (P : Program) (gl : List Nat) (F : Nat → Option IFn) : Prop :=
  ∀ (f : Nat) (fn : IFn), F f = some fn → ∃ func hint, P.funcs[f]? = some func ∧ cfn P gl hint func = some fn ∧ (func.name == "runtime.NumGoroutine") = false

/-- The call, as the evaluator makes it with so many rounds left. -/
abbrev callN (F : Nat → Option IFn) (n : Nat) : CallF := callBy F (exec F n)

/-- What the theorem says of so many rounds. -/
def Sim (P : Program) (gl : List Nat) (F : Nat → Option IFn) (n : Nat) : Prop :=
  ∀ (cx : Ctx) (k : List Itm) (s : St) (r : AV × List Row × Nat), exec F n cx k s = some r → ∀ (θ : Th) (w : World) (a : Act) (b : Frame) (todo : List Item) (cs : List Frame) (θ0 : Th) (rows0 : List Row) (low0 : Nat) (w0 : World),
    HRel (KP P gl) θ s.rows w → GRel θ gl → SRel θ s.sl a.tmps → s.low ≤ s.rows.length → KR P gl k todo → CxOK P θ b cx → b.kind = .normal → DefsOK cx w0.heap.size θ w a.defers → HRel (KP P gl) θ0 rows0 w0 → Fr (KP P gl) θ0 θ rows0 s.rows low0 s.low w0 w →
    ∃ θ' w' v', Ends P cx b (lone (b.atR a todo) cs w) cs w' v' ∧ V θ' r.1 v' ∧ Fr (KP P gl) θ0 θ' rows0 r.2.1 low0 r.2.2 w0 w'

theorem init_SRel {θ : Th} {vs : List AV} {args : Array Value} (h : VL θ vs args.toList) {fn : IFn} {ntmps : Nat} (hn : fn.ns = ntmps) (rows : List Row) :
    SRel θ (init fn vs rows).sl (args ++ Array.replicate (ntmps - args.size) undef) := by
  have hl : vs.length = args.size := by have := h.1; simpa using this
  refine ⟨by simp [init, hl, hn], fun i x x' hx hx' => ?_⟩
  simp only [init] at hx
  by_cases hi : i < vs.length
  · rw [List.getElem?_append_left hi] at hx
    rw [Array.getElem?_append_left (by omega)] at hx'
    exact h.2 i x x' hx (by simpa using hx')
  · rw [List.getElem?_append_right (by omega)] at hx
    rw [List.getElem?_replicate] at hx
    split at hx
    · injection hx with hx; subst hx; exact .any _
    · simp at hx

theorem call_sim (hF : FnOK P gl F) {n : Nat} (h : Sim P gl F n) (f : Nat) (vs : List AV) (rows : List Row) (v : AV) (rows' : List Row) (d : Option Nat) (hc : callN F n f vs rows = some (v, rows', d)) (θ : Th) (w : World) (args : Array Value) (cs : List Frame) (low : Nat)
    (hr : HRel (KP P gl) θ rows w) (hg : GRel θ gl) (hv : VL θ vs args.toList) (hlow : low ≤ rows.length) :
    (∃ func, P.funcs[f]? = some func ∧ func.body.isNone = false ∧ (func.name == "runtime.NumGoroutine") = false) ∧
    ∃ θ' w' fr v', Steps P (lone (Frame.enter P f args .normal) cs w) (lone fr cs w') ∧ (fr.fn = f ∧ fr.leaving P w' (.returned v')) ∧ V θ' v v' ∧ Fr (KP P gl) θ θ' rows rows' low (lowO low d) w w' := by
  unfold callN callBy at hc
  split at hc
  case h_2 => simp at hc
  rename_i fn hfn
  obtain ⟨func, hint, h1, h2, h3⟩ := hF f fn hfn
  unfold cfn at h2
  split at h2
  case h_2 => simp at h2
  rename_i c res hb hres
  injection h2 with h2
  subst h2
  refine ⟨⟨func, h1, by rw [hb]; rfl, h3⟩, ?_⟩
  unfold callR at hc
  split at hc
  case h_2 => simp at hc
  rename_i v0 rows0 low0 hex
  injection hc with hc
  let b : Frame := { fn := f, tmps := #[], todo := [], defers := [], mode := .run, kind := .normal }
  have henter : Frame.enter P f args .normal = b.atR { tmps := args ++ Array.replicate (func.ntmps - args.size) undef, defers := [] } [.code c] := by
    simp [Frame.enter, Frame.atR, h1, hb, b]
  obtain ⟨θ', w', v', ⟨fr, s1, s2⟩, s3, s4⟩ := h (.fn res) _ _ _ hex θ w { tmps := args ++ Array.replicate (func.ntmps - args.size) undef, defers := [] } b [.code c] cs θ rows rows.length w hr hg (init_SRel hv rfl rows) (Nat.le_refl _) (.cons (.code hint c) .nil) ⟨rfl, func, h1, hres⟩ rfl (Marks.nil _ _ _) hr (Fr.refl hr _)
  obtain ⟨θ2, f1, f2⟩ := fin_sound hr hlow s4 s3
  simp only at f1 f2
  rw [hc] at f1 f2
  exact ⟨θ2, w', fr, v', by rw [henter]; exact s1, s2, f1, f2⟩

theorem callOK_of_sim (hF : FnOK P gl F) {n : Nat} (h : Sim P gl F n) : CallOK P gl (callN F n) := by
  intro f vs rows v rows' d hc θ w args cs low hr hg hv hlow
  obtain ⟨p, θ', w', fr, v', s1, s2, s3⟩ := call_sim hF h f vs rows v rows' d hc θ w args cs low hr hg hv hlow
  exact ⟨p, θ', w', fr, v', s1, s2.2, s3⟩

theorem sim (hF : FnOK P gl F) : ∀ n, Sim P gl F n := by
  intro n
  induction n with
  | zero => intro cx k s r h; simp [exec] at h
  | succ n ih =>
    have hcall := callOK_of_sim hF ih
    intro cx k s r h θ w a b todo cs θ0 rows0 low0 w0 hr hg hs hlow hk hcx hkd hD hr0 hF0
    -- the frame is left
    have leaveFn : ∀ (res : List RV) (j : Option Jump) (todo' : List Item), cx = .fn res → leaveV cx j s = some r → Steps P (lone (b.atR a todo) cs w) (lone { b.atR a todo' with mode := .returning } cs w) →
        ∃ θ' w' v', Ends P cx b (lone (b.atR a todo) cs w) cs w' v' ∧ V θ' r.1 v' ∧ Fr (KP P gl) θ0 θ' rows0 r.2.1 low0 r.2.2 w0 w' := by
      intro res j todo' hcx' hl st
      subst hcx'
      have hl2 : (results s.rows s.sl res).map (fun v => (v, s.rows, s.low)) = some r := by
        unfold leaveV at hl
        simp only at hl
        split at hl
        · simp at hl
        · exact hl
      simp only [Option.map_eq_some_iff] at hl2
      obtain ⟨v, hv, rfl⟩ := hl2
      obtain ⟨hb, func, hfu, hres⟩ := hcx
      obtain ⟨w', s1, s2⟩ := unwind_marks (P := P) cs a.defers w { b.atR a todo' with mode := .returning } rfl rfl hD hF0
      obtain ⟨v', q1, q2⟩ := results_sound (P := P) s2.rel hs hres hv
      exact ⟨θ, w', v', ⟨_, st.trans s1, rfl, rfl, rfl, hkd, func, hfu, q1⟩, q2, s2⟩
    have leaveRound : ∀ (id : Nat) (j : Option Jump), cx = .round id → leaveV cx j s = some r → (∀ (L : Nat) (w' : World) (v : Value) (c : Frame) (cs' : List Frame), b.roundOf = some L → (Instr.endRound L (j.map Jump.code)).run P w = .ok v w' → step P (lone (b.atR a todo) (c :: cs') w) = .next (lone (c.finish v) cs' w')) →
        ∃ θ' w' v', Ends P cx b (lone (b.atR a todo) cs w) cs w' v' ∧ V θ' r.1 v' ∧ Fr (KP P gl) θ0 θ' rows0 r.2.1 low0 r.2.2 w0 w' := by
      intro id j hcx' hl st
      subst hcx'
      obtain ⟨L, hL, hb⟩ := hcx
      simp only [leaveV] at hl
      split at hl
      case h_2 => simp at hl
      rename_i pend sl ps asg body e
      injection hl with hl
      subst hl
      obtain ⟨q, q1, q2, q3, q4, q5, q6, q7⟩ := rows_under hr e hL
      have hrun := run_endRound (P := P) (j.map Jump.code) q1
      have hlt : L.b < w.heap.size := hr.blk id L hL
      have hjn : (j.map Jump.code).isNone = j.isNone := by cases j <;> rfl
      rw [hjn] at hrun
      refine ⟨θ, _, .bool j.isNone, fun c cs' e => ?_, .bool _, hF0.trans hr0 (Fr.setrow (w' := w.putObj L.b (.loop { q with state := if j.isNone then .ready else .done, pending := j.map Jump.code })) hr s.low e rfl hL World.putObj_size (fun k hk => World.putObj_heap_other hk) rfl rfl rfl _ ?_ rfl)⟩
      · subst e
        exact .one (st L.b _ _ c cs' hb hrun)
      · exact ⟨L, _, hL, World.putObj_heap_same hlt, rfl, rfl, q4, q5, q6, q7⟩
    -- one step of the machine that leaves all but the stack
    have go : ∀ (k' : List Itm) (todo' : List Item) (s' : St), s'.rows = s.rows → s'.low = s.low → SRel θ s'.sl a.tmps → exec F n cx k' s' = some r → KR P gl k' todo' → Steps P (lone (b.atR a todo) cs w) (lone (b.atR a todo') cs w) →
        ∃ θ' w' v', Ends P cx b (lone (b.atR a todo) cs w) cs w' v' ∧ V θ' r.1 v' ∧ Fr (KP P gl) θ0 θ' rows0 r.2.1 low0 r.2.2 w0 w' := by
      intro k' todo' s' e1 e2 e3 hex hk' st
      obtain ⟨θ', w', v', s1, s2, s3⟩ := ih cx k' s' r hex θ w a b todo' cs θ0 rows0 low0 w0 (by rw [e1]; exact hr) hg e3 (by rw [e1, e2]; exact hlow) hk' hcx hkd hD hr0 (by rw [e1, e2]; exact hF0)
      exact ⟨θ', w', v', s1.head st, s2, s3⟩
    cases hk with
    | nil =>
      simp only [exec] at h
      cases hcx' : cx with
      | fn res => subst hcx'; exact leaveFn res none [] rfl h (.one (stepR_end hcx.1))
      | round id => subst hcx'; exact leaveRound id none rfl h (fun L w' v c cs' hb hrun => stepR_round_end hb hkd hrun)
    | @cons x y k t hx hkt =>
    -- one operation
    have oneStep : ∀ (ops : Array Oper) (i : Nat) (o : Oper) (rest : List Nat) (rs : List Seg), ops[i]? = some o → exec F (n + 1) cx (.ops (.one (copx P gl ops o) :: rs) :: k) s = some r → KR P gl (.ops rs :: k) (.inRegion ops rest :: t) →
        (DefsOK cx w0.heap.size θ w a.defers) → ∃ θ' w' v', Ends P cx b (lone (b.atR a (.inRegion ops (i :: rest) :: t)) cs w) cs w' v' ∧ V θ' r.1 v' ∧ Fr (KP P gl) θ0 θ' rows0 r.2.1 low0 r.2.2 w0 w' := by
      intro ops i o rest rs hget h hkr hD
      simp only [exec] at h
      have cont : ∀ (θ1 : Th) (w1 : World) (v : AV) (v1 : Value) (rows' : List Row) (low' : Nat), exec F n cx (.ops rs :: k) ⟨putO s.sl (copx P gl ops o).dst v, rows', low'⟩ = some r → V θ1 v v1 → Fr (KP P gl) θ θ1 s.rows rows' s.low low' w w1 →
          Steps P (lone (b.atR a (.inRegion ops (i :: rest) :: t)) cs w) (lone (b.atR (a.put (o).dst v1) (.inRegion ops (rest) :: t)) cs w1) →
          ∃ θ' w' v', Ends P cx b (lone (b.atR a (.inRegion ops (i :: rest) :: t)) cs w) cs w' v' ∧ V θ' r.1 v' ∧ Fr (KP P gl) θ0 θ' rows0 r.2.1 low0 r.2.2 w0 w' := by
        intro θ1 w1 v v1 rows' low' h hv1 hF1 st
        have hs1 : SRel θ1 (putO s.sl (copx P gl ops o).dst v) (a.put (o).dst v1).tmps := by
          rw [copx_dst]; exact (hs.mono hF1.ext).put _ hv1
        have hdf : (a.put (o).dst v1).defers = a.defers := by cases (o).dst <;> rfl
        obtain ⟨θ', w', v', s1, s2, s3⟩ := ih cx _ _ r h θ1 w1 (a.put (o).dst v1) b (.inRegion ops (rest) :: t) cs θ0 rows0 low0 w0 hF1.rel (hg.mono hF1.ext) hs1 (Nat.le_trans hF1.low (Nat.le_trans hlow hF1.len)) hkr (hcx.mono hF1.ext) hkd (by
          rw [hdf]; exact hD.frame hr hF1) hr0 (hF0.trans hr0 hF1)
        exact ⟨θ', w', v', s1.head st, s2, s3⟩
      split at h
      · -- a yield
        rename_i id vs hy
        split at h
        case h_2 => simp at h
        rename_i st0 pend0 sl ps asg body e
        split at h
        case isFalse => simp at h
        rename_i hlen
        split at h
        case h_2 => simp at h
        rename_i v rows' low' hex
        unfold yieldOf at hy
        split at hy
        case h_2 => simp at hy
        rename_i f args hop
        split at hy
        case h_2 => simp at hy
        rename_i id' hf hw
        simp only [Option.some.injEq, Prod.mk.injEq] at hy
        obtain ⟨rfl, rfl⟩ := hy
        obtain ⟨g, h1, h2, h3, h4⟩ := copx_bad (P := P) (gl := gl) (ops := ops) (o := o) (by rw [hop]; simp)
        rw [h3] at hw
        have hwr := want_sound hs h1 hw
        rw [hop] at h2
        obtain ⟨c, ff, o1, o2, rfl, rfl⟩ := cop_call h2
        have hV := opd_V (a := a) hg hs ff
        rw [hf] at hV
        obtain ⟨L, hL, hfv⟩ : ∃ L, θ id' = some L ∧ a.eval ff = .func (.yield L.b) #[] #[] := by
          generalize a.eval ff = z at hV
          cases hV with
          | yield hL => exact ⟨_, hL, rfl⟩
        obtain ⟨q, q1, q2, q3, q4, q5, ⟨hint1, q6⟩, ⟨hint2, q7⟩⟩ := rows_under hr e hL
        have hargs := opds_V (a := a) hg hs c.args.toList
        have hsz : c.args.size = q.params.size := by
          have e1 : ps.length = q.params.size := by rw [← q5]; simp
          rw [← e1, hlen]; simp
        have hst := step_yield (P := P) (b := b) (k := t) (cs := cs) (rest := rest) hget hwr o1 o2 hfv q1 hsz
        let br : Frame := { fn := q.fn, tmps := #[], todo := [], defers := [], mode := .run, kind := .normal, roundOf := some L.b }
        have hround : Frame.round L.b q.fn ((q.params.zip (c.args.map a.eval)).foldl (fun tmps (t, x) => tmps.setIfInBounds t x) q.tmps) q.assign q.body .normal =
            br.atR { tmps := (ps.zip (c.args.toList.map a.eval)).foldl (fun tmps p => tmps.setIfInBounds p.1 p.2) q.tmps, defers := [] } [.code q.assign, .beginRound, .code q.body] := by
          have e1 : (q.params.zip (c.args.map a.eval)).foldl (fun tmps (x : Tmp × Value) => tmps.setIfInBounds x.1 x.2) q.tmps = (ps.zip (c.args.toList.map a.eval)).foldl (fun tmps p => tmps.setIfInBounds p.1 p.2) q.tmps := by
            rw [← Array.foldl_toList, Array.toList_zip, q5]
            simp
          rw [← e1]
          simp [Frame.round, Frame.atR, br]
        rw [hround] at hst
        subst q6 q7
        obtain ⟨θ1, w1, v1, s1, s2, s3⟩ := ih (.round id') _ _ _ hex θ w { tmps := (ps.zip (c.args.toList.map a.eval)).foldl (fun tmps p => tmps.setIfInBounds p.1 p.2) q.tmps, defers := [] } br [.code q.assign, .beginRound, .code q.body] (b.atR a (.inRegion ops (i :: rest) :: t) :: cs) θ s.rows s.rows.length w hr hg (SRel.putL ps (SRel.of_VL q4) hargs) (Nat.le_refl _) (.cons (.code hint1 _) (.cons .rfBegin (.cons (.code hint2 _) .nil))) ⟨L, hL, rfl⟩ rfl rfl hr (Fr.refl hr _)
        simp only at s2 s3
        have hF1 := s3.weaken (low2 := s.low) (lower_le_id _ _) (lower_le s.low low')
        obtain ⟨θ2, g1, g2⟩ := gc_sound hr hF1 s2
        have hfin : (b.atR a (.inRegion ops (i :: rest) :: t)).finish v1 = b.atR (a.put (o).dst v1) (.inRegion ops (rest) :: t) := by
          rw [Frame.finish_atR, hget]; rfl
        refine cont θ2 w1 v v1 _ _ h g1 g2 (.head hst ?_)
        rw [← hfin]
        exact s1 _ cs rfl
      · rename_i hny
        split at h
        case h_2 => simp at h
        rename_i v rows' low' hop
        obtain ⟨θ1, w1, v1, st, hv1, hF1⟩ := op_step hcall hget (show opR (callN F n) s.sl s.rows s.low _ = some (v, rows', low') from hop) hr hg hs hlow b (rest) t cs
        exact cont θ1 w1 v v1 rows' low' h hv1 hF1 st
    cases hx with
    | inBlock id =>
      simp only [exec] at h
      exact go k t s rfl rfl hs h hkt (.one stepR_inBlock)
    | inLoop hint c =>
      simp only [exec, St.force_eq] at h
      exact go _ (.code c :: .inLoop c :: t) s rfl rfl hs h (.cons (.code hint c) (.cons (.inLoop hint c) hkt)) (.one stepR_inLoop)
    | inScope hint c =>
      simp only [exec] at h
      exact go k t s rfl rfl hs h hkt (.one (step_lone_go (by simp [stepG, stepG.exec, Frame.atR])))
    | rfBegin =>
      simp only [exec] at h
      cases cx with
      | fn res => simp at h
      | round id =>
        simp only at h
        split at h
        case h_2 => simp at h
        rename_i pend sl ps asg body e
        obtain ⟨L, hL, hb⟩ := hcx
        obtain ⟨q, q1, q2, q3, q4, q5, q6, q7⟩ := rows_under hr e hL
        have hlt : L.b < w.heap.size := hr.blk id L hL
        have hF1 : Fr (KP P gl) θ θ s.rows (s.rows.set id (.loop .busy pend sl ps asg body)) s.low (lower s.low id) w (w.putObj L.b (.loop { q with state := .busy })) :=
          Fr.setrow hr s.low e rfl hL World.putObj_size (fun k hk => World.putObj_heap_other hk) rfl rfl rfl _ ⟨L, _, hL, World.putObj_heap_same hlt, rfl, q3, q4, q5, q6, q7⟩ rfl
        obtain ⟨θ', w', v', s1, s2, s3⟩ := ih (.round id) k _ r h θ _ a b t cs θ0 rows0 low0 w0 hF1.rel hg hs (Nat.le_trans (lower_le _ _) (by simpa using hlow)) hkt ⟨L, hL, hb⟩ hkd hD hr0 (hF0.trans hr0 hF1)
        exact ⟨θ', w', v', s1.head (.one (stepR_beginRound hb (run_beginRound q1 q2))), s2, s3⟩
    | ops ops i =>
      rcases Nat.lt_or_ge i ops.size with hi | hi
      · have hdrop : (ops.toList.map fun o => Seg.one (copx P gl ops o)).drop i = .one (copx P gl ops ops[i]) :: (ops.toList.map fun o => Seg.one (copx P gl ops o)).drop (i + 1) := by
          rw [List.drop_eq_getElem_cons (by simpa using hi)]
          simp
        have hrange : List.range' i (ops.size - i) = i :: List.range' (i + 1) (ops.size - (i + 1)) := by
          rw [show ops.size - i = (ops.size - (i + 1)) + 1 from by omega, List.range'_succ]
        rw [hdrop] at h
        rw [hrange]
        exact oneStep ops i ops[i] _ _ (Array.getElem?_eq_getElem hi) h (.cons (.ops ops (i + 1)) hkt) hD
      · have hdrop : (ops.toList.map fun o => Seg.one (copx P gl ops o)).drop i = [] := List.drop_eq_nil_of_le (by simpa using hi)
        have hrange : List.range' i (ops.size - i) = [] := by rw [show ops.size - i = 0 from by omega]; rfl
        rw [hdrop] at h
        simp only [exec] at h
        rw [hrange] at go ⊢
        exact go k t s rfl rfl hs h hkt (.one stepR_region_end)
    | draws ops c bs fuel t0 listed hed hchk hst =>
      cases bs with
      | nil =>
        simp only [csegs, exec] at h
        simp only [chkB, lbits_len, beq_iff_eq] at hchk
        subst hchk
        rw [go_done hst] at go ⊢
        exact go k t s rfl rfl hs h hkt (.one stepR_region_end)
      | cons b0 bs =>
        simp only [chkB, Bool.and_eq_true, decide_eq_true_eq, lbits_len] at hchk
        obtain ⟨⟨⟨⟨hc1, hc2⟩, hc3⟩, hc4⟩, hc5⟩ := hchk
        have hend := isBound_spec hc3
        simp only [csegs] at h
        by_cases hb1 : b0 = c + 1
        · subst hb1
          rw [if_pos rfl] at h
          obtain ⟨fuel', t', listed', e1, e2⟩ := go_one hed hst (by omega) hend t0
          rw [e1]
          have hget : ops[c]? = some (ops[c]'(by omega)) := Array.getElem?_eq_getElem (by omega)
          have hop : ((lbits P gl ops).getD c (noop, 0)).1 = copx P gl ops (ops[c]'(by omega)) := by
            rw [List.getD, lbits_get (by omega)]
            simp [Array.getD, show c < ops.size from by omega]
          rw [hop] at h
          exact oneStep ops c _ _ _ hget h (.cons (.draws ops (c + 1) bs fuel' t' listed' hed hc5 e2) hkt) hD
        · rw [if_neg hb1] at h
          obtain ⟨m, rfl⟩ : ∃ m, b0 = c + m := ⟨b0 - c, by omega⟩
          generalize hcd : cgrp _ = sg at h
          unfold cgrp at hcd
          have fin : ∀ (sl' : List AV) (rows' : List Row) (low' : Nat) (θ1 : Th) (w1 : World) (a1 : Act) (fuel' t' : Nat) (listed' : Array Bool), exec F n cx (.ops (csegs (lbits P gl ops) (c + m) bs) :: k) ⟨sl', rows', low'⟩ = some r →
              Steps P (lone (b.atR a (.inRegion ops (Region.linearise.go .any ops fuel t0 listed []) :: t)) cs w) (lone (b.atR a1 (.inRegion ops (Region.linearise.go .any ops fuel' t' listed' []) :: t)) cs w1) → a1.defers = a.defers → DrawSt ops (c + m) fuel' listed' → SRel θ1 sl' a1.tmps → Fr (KP P gl) θ θ1 s.rows rows' s.low low' w w1 →
              ∃ θ' w' v', Ends P cx b (lone (b.atR a (.inRegion ops (Region.linearise.go .any ops fuel t0 listed []) :: t)) cs w) cs w' v' ∧ V θ' r.1 v' ∧ Fr (KP P gl) θ0 θ' rows0 r.2.1 low0 r.2.2 w0 w' := by
            intro sl' rows' low' θ1 w1 a1 fuel' t' listed' h st hd1 hst' hs1 hF1
            obtain ⟨θ', w', v', s1, s2, s3⟩ := ih cx _ _ r h θ1 w1 a1 b _ cs θ0 rows0 low0 w0 hF1.rel (hg.mono hF1.ext) hs1 (Nat.le_trans hF1.low (Nat.le_trans hlow hF1.len)) (.cons (.draws ops (c + m) bs fuel' t' listed' hed hc5 hst') hkt) (hcx.mono hF1.ext) hkd (by rw [hd1]; exact hD.frame hr hF1) hr0 (hF0.trans hr0 hF1)
            exact ⟨θ', w', v', s1.head st, s2, s3⟩
          split at hcd
          · rename_i hidx
            subst hcd
            simp only [exec] at h
            split at h
            case h_2 => simp at h
            rename_i sl' ext hev
            obtain ⟨θ1, w1, a1, fuel', t', listed', st, hd1, hst', hs1, hF1⟩ := grp_sound hcall hed hc2 hend hc4 (show evalG (callN F n) _ _ _ _ _ = some (sl', ext) from hev) hst t0 hr hg hs s.low hlow b t cs
            exact fin _ _ _ θ1 w1 a1 fuel' t' listed' h st hd1 hst' hs1 hF1
          · rename_i i hidx
            obtain ⟨hil, _⟩ := List.findIdx?_eq_some_iff_getElem.1 hidx
            have higet := List.getElem?_eq_getElem hil
            have hgd : (piece (lbits P gl ops) c (c + m)).getD i (noop, 0) = (piece (lbits P gl ops) c (c + m))[i] := by simp [List.getD, higet]
            rw [hgd] at hcd
            split at hcd
            · subst hcd; simp [exec] at h
            rename_i a0 x0 n0 hsto0
            split at hcd
            case isFalse => subst hcd; simp [exec] at h
            rename_i hcond
            obtain ⟨hq1, hq2, hq3⟩ := hcond
            subst hcd
            simp only [exec] at h
            split at h
            case h_2 => simp at h
            rename_i sl' ext hev
            split at h
            case h_2 => simp at h
            rename_i r' hsto
            obtain ⟨θ1, w1, a1, fuel', t', listed', st, hd1, hst', hs1, hF1⟩ := grpW_sound hcall hed hc2 hend hc4 higet hsto0 hq1 hq2 (fun q hq => by simpa using List.all_eq_true.1 hq3 q hq) (show evalG (callN F n) _ _ _ _ _ = some (sl', ext) from hev) hsto hst t0 hr hg hs s.low hlow b t cs
            exact fin _ _ _ θ1 w1 a1 fuel' t' listed' h st hd1 hst' hs1 hF1
    | code hint c =>
      simp only [exec, St.forceS_eq] at h
      cases c with
      | skip => simp only [cc] at h; exact go k t s rfl rfl hs h hkt (.one stepR_skip)
      | label l => simp only [cc] at h; exact go k t s rfl rfl hs h hkt (.one stepR_label)
      | ret =>
        simp only [cc] at h
        cases hcx' : cx with
        | fn res => subst hcx'; exact leaveFn res (some .ret) _ rfl h (.one (stepR_ret hcx.1))
        | round id => subst hcx'; exact leaveRound id (some .ret) rfl h (fun L w' v c cs' hb hrun => stepR_round_ret hb hkd hrun)
      | exit id =>
        simp only [cc] at h
        split at h
        · rename_i k' hp
          obtain ⟨t', e1, e2⟩ := popTo_sound id hkt hp
          exact go k' t' s rfl rfl hs h e2 (.one (stepR_exit e1))
        · rename_i hp
          cases hcx' : cx with
          | fn res => subst hcx'; simp [leaveV] at h
          | round rid => subst hcx'; exact leaveRound rid (some (.exit id)) rfl h (fun L w' v c cs' hb hrun => stepR_round_exit hb hkd (popTo_none id hkt hp) hrun)
      | seq x y => simp only [cc] at h; exact go _ _ s rfl rfl hs h (.cons (.code hint x) (.cons (.code hint y) hkt)) (.one stepR_seq)
      | cond c x y =>
        simp only [cc] at h
        split at h
        · rename_i tt e
          have hV := opd_V (a := a) hg hs c
          rw [e] at hV
          have hc : a.eval c = .bool tt := by generalize a.eval c = z at *; cases hV; rfl
          cases tt
          · exact go _ _ s rfl rfl hs h (.cons (.code hint y) hkt) (.one (stepR_cond hc))
          · exact go _ _ s rfl rfl hs h (.cons (.code hint x) hkt) (.one (stepR_cond hc))
        · simp at h
      | block id c => simp only [cc] at h; exact go _ _ s rfl rfl hs h (.cons (.code hint c) (.cons (.inBlock id) hkt)) (.one stepR_block)
      | loop c => simp only [cc] at h; exact go _ _ s rfl rfl hs h (.cons (.code hint c) (.cons (.inLoop hint c) hkt)) (.one stepR_loop)
      | scope c => simp only [cc] at h; exact go _ _ s rfl rfl hs h (.cons (.code hint c) (.cons (.inScope hint c) hkt)) (.one (step_lone_go (by simp [stepG, stepG.exec, Frame.atR])))
      | goto l => simp [cc] at h
      | refuse why => simp [cc] at h
      | rangeFunc g ps x y =>
        simp only [cc] at h
        split at h
        case isFalse => simp at h
        rename_i hok
        split at h
        case h_2 => simp at h
        rename_i fid vs ht
        split at h
        case h_2 => simp at h
        rename_i vv rows' d hex
        split at h
        case h_2 => simp at h
        rename_i k0 rows2 low2 hal
        obtain ⟨wm, mark, dn, hFm, hDm, hent⟩ := rf_enter (P := P) hcx hok hr s.low hD hF0.size ps x y
        have hrm := hFm.rel
        -- the record
        have hrow : RowRel (KP P gl) (θ.add s.rows.length ⟨wm.heap.size, 0, 0⟩) s.rows.length (wm.alloc (.loop { state := .ready, pending := none, fn := b.fn, tmps := a.tmps, params := ps, assign := x, body := y, defers := dn })) (.loop .ready none s.sl ps.toList (cc P gl hint x) (cc P gl hint y)) :=
          ⟨⟨wm.heap.size, 0, 0⟩, _, Th.add_self _ _ _, World.alloc_heap_new _ _, rfl, rfl, (hs.mono (Th.ext_add hr.none_len _)).VL, rfl, ⟨hint, rfl⟩, ⟨hint, rfl⟩⟩
        have hF1 : Fr (KP P gl) θ (θ.add s.rows.length ⟨wm.heap.size, 0, 0⟩) s.rows (s.rows ++ [.loop .ready none s.sl ps.toList (cc P gl hint x) (cc P gl hint y)]) s.low s.low wm (wm.alloc (.loop { state := .ready, pending := none, fn := b.fn, tmps := a.tmps, params := ps, assign := x, body := y, defers := dn })) :=
          Fr.push (w' := wm.alloc (.loop { state := .ready, pending := none, fn := b.fn, tmps := a.tmps, params := ps, assign := x, body := y, defers := dn })) hrm s.low hlow _ rfl rfl rfl rfl 0 0 _ hrow rfl
        -- the call
        unfold target at ht
        split at ht
        case h_2 => simp at ht
        rename_i f' caps eg
        simp only [Option.some.injEq, Prod.mk.injEq] at ht
        obtain ⟨rfl, rfl⟩ := ht
        have hV := opd_V (a := a) hg hs g
        rw [eg] at hV
        obtain ⟨l', hgv, hcaps⟩ : ∃ l' : List Value, a.eval g = .func (.func f') #[] l'.toArray ∧ VL θ caps l' := by
          generalize a.eval g = z at hV
          cases hV with
          | @func f l l' p q => exact ⟨l', rfl, p, q⟩
        have hvl : VL (θ.add s.rows.length ⟨wm.heap.size, 0, 0⟩) ([AV.yield s.rows.length] ++ caps) (#[Value.func (.yield wm.heap.size) #[] #[]] ++ l'.toArray).toList := by
          have : (#[Value.func (.yield wm.heap.size) #[] #[]] ++ l'.toArray).toList = Value.func (.yield wm.heap.size) #[] #[] :: l' := by simp
          rw [this]
          exact VL.cons (V.yield (L := ⟨wm.heap.size, 0, 0⟩) (Th.add_self _ _ _)) (hcaps.mono hF1.ext)
        obtain ⟨⟨func, f1, f2, f3⟩, θ2, w2, fr, v2, c1, c2, c3, c4⟩ := call_sim hF ih f' _ _ vv rows' d hex _ _ (#[Value.func (.yield wm.heap.size) #[] #[]] ++ l'.toArray) (b.atR { a with defers := mark ++ a.defers } (.inRangeFunc wm.heap.size :: t) :: cs) s.low hF1.rel (hg.mono hF1.ext) hvl (by simp; omega)
        have hinv : ∀ w3 : World, ∃ dd, (resolve a.eval (rangeCall g wm.heap.size) 0).run P w3 = .ok dd w3 ∧ (invoke dd.target dd.args).run P w3 = .ok (.enter f' (#[Value.func (.yield wm.heap.size) #[] #[]] ++ l'.toArray)) w3 := by
          intro w3
          refine ⟨{ target := .fn (.func f') l'.toArray, args := #[Value.func (.yield wm.heap.size) #[] #[]] }, ?_, ?_⟩
          · have hconst : ∀ v, a.eval (.const v) = v := fun v => rfl
            simp [resolve, rangeCall, hgv, hconst, Deferred.ofValue]
          · simp [invoke, callFunc, f1]
            rw [if_neg (by simpa using f3), if_neg (by intro h; rw [h] at f2; simp at f2)]
        obtain ⟨dd, i1, i2⟩ := hinv (wm.alloc (.loop { state := .ready, pending := none, fn := b.fn, tmps := a.tmps, params := ps, assign := x, body := y, defers := dn }))
        have st1 := stepR_rangeFunc (P := P) (b := b) (k := t) (cs := cs) hent i1 i2
        -- the loop's end
        unfold afterLoop at hal
        split at hal
        case h_2 => simp at hal
        rename_i st2 pend2 sl2 ps2 asg2 body2 e2
        split at hal
        · simp at hal
        rename_i hbusy
        simp only [Option.some.injEq, Prod.mk.injEq] at hal
        obtain ⟨rfl, rfl, rfl⟩ := hal
        have hL2 : θ2 s.rows.length = some ⟨wm.heap.size, 0, 0⟩ := c4.ext _ _ (Th.add_self _ _ _)
        obtain ⟨q, q1, q2, q3, q4, q5, q6, q7⟩ := rows_under c4.rel e2 hL2
        have hlt : wm.heap.size < w2.heap.size := c4.rel.blk _ _ hL2
        have hend := run_endLoop (P := P) q1 (by rw [q2]; simpa using hbusy)
        have hF3 : Fr (KP P gl) θ2 θ2 rows' (rows'.set s.rows.length (.loop .exhausted pend2 sl2 ps2 asg2 body2)) (lowO s.low d) (lower (lowO s.low d) s.rows.length) w2 (w2.putObj wm.heap.size (.loop { q with state := .exhausted })) :=
          Fr.setrow c4.rel (lowO s.low d) e2 rfl hL2 World.putObj_size (fun k hk => World.putObj_heap_other hk) rfl rfl rfl _ ⟨_, _, hL2, World.putObj_heap_same hlt, rfl, q3, q4, q5, q6, q7⟩ rfl
        have hlo : lower (lowO s.low d) s.rows.length = lowO s.low d := by
          have := lowO_le s.low d
          unfold lower; split <;> omega
        have hF4 := Fr.kill hF3.rel (lower (lowO s.low d) s.rows.length) s.rows.length
        rw [List.set_set] at hF4
        rw [hlo] at hF3 hF4
        rw [hlo] at hF4
        have hall := (hF1.trans hrm c4).trans hrm (hF3.trans c4.rel hF4)
        obtain ⟨θ3, _, g2⟩ := gc_sound hrm hall (v := .tup []) (v' := .tuple [].toArray) (.tup (l' := []) rfl (fun i x x' h => by simp at h))
        have hcode : KR P gl (jumpI pend2 ++ k) ((q.pending.map Item.code).toList ++ t) := by
          rw [q3]
          cases pend2 with
          | none => exact hkt
          | some j => cases j with
            | ret => exact .cons (.code hint .ret) hkt
            | exit id => exact .cons (.code hint (.exit id)) hkt
        obtain ⟨θ', w', v', s1, s2, s3⟩ := ih cx _ _ r h θ3 _ { a with defers := mark ++ a.defers } b _ cs θ0 rows0 low0 w0 g2.rel (hg.mono g2.ext) (hs.mono g2.ext) (Nat.le_trans g2.low (Nat.le_trans hlow g2.len)) hcode (hcx.mono g2.ext) hkd (hDm.frame hrm g2) hr0 (hF0.trans hr0 (hFm.trans hr g2))
        refine ⟨θ', w', v', s1.head (.head st1 (c1.trans (.head ?_ (.one (stepR_endRangeFunc hend))))), s2, s3⟩
        rw [← finish_atR_inRangeFunc wm.heap.size v2]
        exact step_leave_returned c2.2
      | region id ops draw =>
        cases draw with
        | false =>
          simp only [cc] at h
          cases hh : hint id with
          | nil =>
            rw [hh] at h
            have h0 : KR P gl (.ops ((ops.toList.map fun o => Seg.one (copx P gl ops o)).drop 0) :: k) (.inRegion ops (List.range' 0 (ops.size - 0)) :: t) := .cons (.ops ops 0) hkt
            simp only [List.drop_zero, Nat.sub_zero] at h0
            rw [← List.range_eq_range'] at h0
            exact go _ _ s rfl rfl hs h h0 (.one stepR_region)
          | cons x xs =>
            rw [hh] at h
            exact go _ _ { s with sl := killS s.sl (x :: xs) } rfl rfl (hs.kill _) h (.cons (.code (fun _ => []) (.region id ops false)) hkt) (Steps.refl _ _)
        | true =>
          simp only [cc] at h
          by_cases hok0 : (chkB (lbits P gl ops) (Region.before ops).toList 0 (bounds (Region.before ops).toList) && edgesOk ops && P.follows .mixedOrders) = true
          case neg => rw [if_neg hok0] at h; simp at h
          rw [if_pos hok0] at h
          have hok := hok0
          simp only [Bool.and_eq_true] at hok
          obtain ⟨⟨hok1, hok2⟩, hmix⟩ := hok
          cases hh : hint id with
          | nil =>
            rw [hh] at h
            simp only at h
            have hF1 := Fr.drawn (P := P) (gl := gl) hr s.low (w.drawn + 1)
            obtain ⟨θ', w', v', s1, s2, s3⟩ := ih cx _ _ r h θ { w with drawn := w.drawn + 1 } a b _ cs θ0 rows0 low0 w0 hF1.rel hg hs hlow (.cons (.draws ops 0 (bounds (Region.before ops).toList) ops.size (w.tape w.drawn (.order b.fn id)) (Array.replicate ops.size false) (edgesOk_spec hok2) hok1 (DrawSt.start ops)) hkt) hcx hkd (hD.frame hr hF1) hr0 (hF0.trans hr0 hF1)
            have hst := stepR_region_draw (P := P) (b := b) (a := a) (k := t) (cs := cs) (w := w) (ops := ops) (id := id)
            simp only [Region.schedule, hmix, Bool.true_or, if_true] at hst
            exact ⟨θ', w', v', s1.head (.one hst), s2, s3⟩
          | cons x xs =>
            rw [hh] at h
            refine go _ _ { s with sl := killS s.sl (x :: xs) } rfl rfl (hs.kill _) h ?_ (Steps.refl _ _)
            have := KR.cons (IR.code (P := P) (gl := gl) (fun _ => []) (.region id ops true)) hkt
            simp only [cc, hok0, if_true] at this
            exact this

/-- What the evaluator says of a call, the model's calls do. -/
theorem call_sound (hF : FnOK P gl F) {n f : Nat} {vs : List AV} {rows rows' : List Row} {v : AV} {d : Option Nat} (hc : call F n f vs rows = some (v, rows', d)) {θ : Th} {w : World} {args : Array Value} (hr : HRel (KP P gl) θ rows w) (hg : GRel θ gl) (hv : VL θ vs args.toList) :
    Calls P f args w fun e w' => ∃ θ' v', e = .returned v' ∧ V θ' v v' ∧ Fr (KP P gl) θ θ' rows rows' rows.length (lowO rows.length d) w w' := by
  intro cs
  obtain ⟨_, θ', w', fr, v', s1, s2, s3, s4⟩ := call_sim hF (sim hF n) f vs rows v rows' d hc θ w args cs rows.length hr hg hv (Nat.le_refl _)
  exact ⟨.returned v', w', fr, ⟨θ', v', rfl, s3, s4⟩, s1, s2.1, s2.2⟩
end
end Go.Abs
