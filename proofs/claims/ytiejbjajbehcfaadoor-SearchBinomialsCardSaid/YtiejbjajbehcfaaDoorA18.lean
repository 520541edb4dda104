/- A region whose order is drawn: the whole. -/
import Derived.Test.YtiejbjajbehcfaaDoorA17
set_option linter.unusedVariables false
set_option linter.unusedSimpArgs false
namespace Go.Abs
section
variable {P : Program} {gl : List Nat} {call : Nat → List AV → List Row → Option (AV × List Row × Option Nat)} {rows : List Row} {sl0 : List AV} {m : Nat} {L : Nat → IOpx × Nat} {v : Nat → AV} {EX : Nat → List (Nat × Row)} {SL : Nat → List AV} {rw_ : Nat → List Row} {θ0 : Th} {w0 : World} {X : Nat → Prop}

/-- What a row, old or new, is. -/
theorem Inv.rel (htr : Tr call rows L 0 m SL EX v rw_) (hS0 : SL 0 = sl0) (h0 : EX 0 = []) {S : Nat → Bool} {θ : Th} {a : Act} {w : World} (hI : Inv (KP P gl) X θ0 rows sl0 m L v EX w0 S θ a.tmps w) (hS : ∀ j, j < m → S j = true) :
    SRel θ (SL m) a.tmps ∧ HRel (KP P gl) θ (rows ++ (EX m).map (·.2)) w := by
  have hbase : ∀ id K, id < rows.length → θ id = some K → θ0 id = some K := fun id K hid hK => by
    rcases hI.dom id K hK with h | ⟨_, p, q, r, e, _⟩
    · exact h
    · omega
  have hget : ∀ id r, (rows ++ (EX m).map (·.2))[id]? = some r → (id < rows.length ∧ rows[id]? = some r) ∨ ∃ p q, id = rows.length + p ∧ (EX m)[p]? = some (q, r) ∧ S q = true := fun id r e => by
    rcases Nat.lt_or_ge id rows.length with h | h
    · rw [List.getElem?_append_left h] at e
      exact .inl ⟨h, e⟩
    · rw [List.getElem?_append_right h] at e
      simp only [List.getElem?_map, Option.map_eq_some_iff] at e
      obtain ⟨⟨q, r0⟩, e1, e2⟩ := e
      simp only at e2
      subst e2
      obtain ⟨o1, _⟩ := Tr.owner htr h0 (i := m) (Nat.le_refl _) e1
      exact .inr ⟨id - rows.length, q, by omega, e1, hS q o1⟩
  refine ⟨⟨by rw [htr.sl_len hS0 m (Nat.le_refl _), hI.size], fun t x x' hx hx' => ?_⟩, ⟨fun id K e => ?_, hI.blk, fun id r e => ?_, fun p p' r s K K' hne hp hpo hq hql hK hK' => ?_⟩⟩
  · have htl : t < sl0.length := by
      have := (List.getElem?_eq_some_iff.1 hx).1
      rw [htr.sl_len hS0 m (Nat.le_refl _)] at this
      exact this
    have hV := hI.slots t x' hx'
    have e1 : slotAt sl0 rows.length L v (fun j => rows.length + (EX j).length) S m t = slotAt sl0 rows.length L v (fun j => rows.length + (EX j).length) (fun _ => true) m t := slotAt_congr m (fun j hj _ => hS j hj)
    rw [e1, (slotAt_text (sl0 := sl0) htr hS0 htl m (Nat.le_refl _)).1] at hV
    have : (SL m).getD t .any = x := by simp [List.getD, hx]
    rw [this] at hV
    exact hV.mono (Th.upto_ext _ _)
  · rcases hI.dom id K e with h | ⟨_, p, q, r, h2, h3, _⟩
    · have := hI.base.dom id K h
      simp; omega
    · have := (List.getElem?_eq_some_iff.1 h3).1
      simp; omega
  · rcases hget id r e with ⟨a, b⟩ | ⟨p, q, rfl, c1, c2⟩
    · exact (hI.base.row id r b).mono hI.ext (fun _ _ => rfl)
    · exact (hI.rows_ p q r c1 c2).mono (Th.upto_ext _ _) (fun _ _ => rfl)
  · rcases hget p r hp with ⟨a, b⟩ | ⟨x, q, rfl, c1, c2⟩
    · rcases hget p' s hq with ⟨a', b'⟩ | ⟨x', q', rfl, d1, d2⟩
      · exact hI.base.inj p p' r s K K' hne b hpo b' hql (hbase p K a hK) (hbase p' K' a' hK')
      · have h1 := hI.base0 p K (hbase p K a hK)
        rcases hI.dom _ K' hK' with h | ⟨h2, _⟩
        · have := hI.base.dom _ K' h; omega
        · omega
    · rcases hget p' s hq with ⟨a', b'⟩ | ⟨x', q', rfl, d1, d2⟩
      · have h1 := hI.base0 p' K' (hbase p' K' a' hK')
        rcases hI.dom _ K hK with h | ⟨h2, _⟩
        · have := hI.base.dom _ K h; omega
        · omega
      · exact hI.inj x x' q q' r s K K' (fun e => hne (by omega)) c1 c2 hpo d1 d2 hql hK hK'

theorem Inv.done (htr : Tr call rows L 0 m SL EX v rw_) (hS0 : SL 0 = sl0) (h0 : EX 0 = []) {S : Nat → Bool} {θ : Th} {a : Act} {w : World} (hI : Inv (KP P gl) (fun _ => False) θ0 rows sl0 m L v EX w0 S θ a.tmps w) (hS : ∀ j, j < m → S j = true) (low : Nat) (hlow : low ≤ rows.length) :
    SRel θ (SL m) a.tmps ∧ Fr (KP P gl) θ0 θ rows (rows ++ (EX m).map (·.2)) low low w0 w := by
  obtain ⟨r1, r2⟩ := hI.rel htr hS0 h0 hS
  refine ⟨r1, hI.ext, r2, by simp, Nat.le_refl _, hI.os, hI.tape, hI.output, hI.wsize, fun id hid => ?_, fun b hb _ => hI.heap b hb (fun h => h), fun id r e o hid => ?_, fun id r e o hid => ?_, fun id K e hn => ?_⟩
  · rw [List.getElem?_append_left (by omega)]
  · rw [List.getElem?_append_left hid] at e
    exact ⟨r, e, o⟩
  · rw [List.getElem?_append_left hid] at e
    exact ⟨r, e, o⟩
  · rcases hI.dom id K e with h | ⟨h1, p, q, r, h2, h3, _⟩
    · rw [h] at hn; simp at hn
    · exact ⟨by omega, .inl h1⟩

/-- With one row written. -/
theorem Inv.doneW {R : Nat} {r0 r' : Row} {LR : Loc} (htr : Tr call (rows.set R .dead) L 0 m SL EX v rw_) (hS0 : SL 0 = sl0) (h0 : EX 0 = []) {S : Nat → Bool} {θ : Th} {a : Act} {w : World} (hI : Inv (KP P gl) (fun b => b = LR.b) θ0 (rows.set R .dead) sl0 m L v EX w0 S θ a.tmps w) (hS : ∀ j, j < m → S j = true)
    (hr : HRel (KP P gl) θ0 rows w0) (hR : rows[R]? = some r0) (ho : r0.owned = true) (hLR : θ0 R = some LR) (hrow : RowRel (KP P gl) θ R w r') (ho' : r'.owned = true) (low : Nat) (hlow : low ≤ rows.length) :
    SRel θ (SL m) a.tmps ∧ Fr (KP P gl) θ0 θ rows (rows.set R r' ++ (EX m).map (·.2)) low (lower low R) w0 w := by
  obtain ⟨r1, r2⟩ := hI.rel htr hS0 h0 hS
  have hRl : R < rows.length := (List.getElem?_eq_some_iff.1 hR).1
  have hget : ∀ id r, (rows.set R r' ++ (EX m).map (·.2))[id]? = some r → (id = R ∧ r = r') ∨ (id ≠ R ∧ (rows.set R .dead ++ (EX m).map (·.2))[id]? = some r) := fun id r e => by
    by_cases hid : id = R
    · subst hid
      rw [List.getElem?_append_left (by simpa using hRl), List.getElem?_set_self (by simpa using hRl)] at e
      injection e with e
      exact .inl ⟨rfl, e.symm⟩
    · refine .inr ⟨hid, ?_⟩
      rcases Nat.lt_or_ge id rows.length with h | h
      · rw [List.getElem?_append_left (by simpa using h), List.getElem?_set_ne (Ne.symm hid)] at e ⊢
        exact e
      · rw [List.getElem?_append_right (by simpa using h)] at e ⊢
        simpa using e
  -- no other live row has the written row's block
  have hsole : ∀ id r K, id ≠ R → (rows.set R .dead ++ (EX m).map (·.2))[id]? = some r → r.live = true → θ id = some K → LR.b ≠ K.b := fun id r K hne e hl hK => by
    rcases hI.dom id K hK with h | ⟨h1, p, q, s, h2, h3, _⟩
    · have hid := hr.dom id K h
      rw [List.getElem?_append_left (by simpa using hid), List.getElem?_set_ne (Ne.symm hne)] at e
      exact hr.inj R id r0 r LR K (Ne.symm hne) hR ho e hl hLR h
    · have := hI.base0 R LR hLR
      omega
  have hθR : θ R = some LR := hI.ext _ _ hLR
  refine ⟨r1, hI.ext, ⟨fun id K e => ?_, r2.blk, fun id r e => ?_, fun p p' r s K K' hne hp hpo hq hql hK hK' => ?_⟩, by simp, lower_le _ _, hI.os, hI.tape, hI.output, hI.wsize, fun id hid => ?_, fun b hb hn => ?_, fun id r e o hid => ?_, fun id r e o hid => ?_, fun id K e hn => ?_⟩
  · have := r2.dom id K e
    simpa using this
  · rcases hget id r e with ⟨rfl, rfl⟩ | ⟨hne, e2⟩
    · exact hrow
    · exact r2.row id r e2
  · rcases hget p r hp with ⟨rfl, rfl⟩ | ⟨n1, e1⟩
    · rcases hget p' s hq with ⟨rfl, rfl⟩ | ⟨n2, e2⟩
      · exact absurd rfl hne
      · rw [hθR] at hK; injection hK with hK; subst hK
        exact hsole p' s K' n2 e2 hql hK'
    · rcases hget p' s hq with ⟨rfl, rfl⟩ | ⟨n2, e2⟩
      · rw [hθR] at hK'; injection hK' with hK'; subst hK'
        exact fun h => hsole p r K n1 e1 (Row.live_of_owned hpo) hK h.symm
      · exact r2.inj p p' r s K K' hne e1 hpo e2 hql hK hK'
  · have := lower_le_id low R
    have := lower_le low R
    rw [List.getElem?_append_left (by simp; omega), List.getElem?_set_ne (by omega)]
  · exact hI.heap b hb (fun h => hn R r0 LR hR ho (lower_le_id _ _) hLR h.symm)
  · rcases hget id r e with ⟨rfl, rfl⟩ | ⟨hne, e2⟩
    · exact ⟨r0, hR, ho⟩
    · rw [List.getElem?_append_left (by simpa using hid), List.getElem?_set_ne (Ne.symm hne)] at e2
      exact ⟨r, e2, o⟩
  · rcases hget id r e with ⟨rfl, rfl⟩ | ⟨hne, e2⟩
    · exact ⟨r0, hR, Row.live_of_owned ho⟩
    · rw [List.getElem?_append_left (by simpa using hid), List.getElem?_set_ne (Ne.symm hne)] at e2
      exact ⟨r, e2, o⟩
  · rcases hI.dom id K e with h | ⟨h1, p, q, r, h2, h3, _⟩
    · rw [h] at hn; simp at hn
    · have : (rows.set R Row.dead).length = rows.length := by simp
      exact ⟨by omega, .inl h1⟩

/-! ### The order -/
/-- All operations before c are done, and no other. -/
structure DrawSt (ops : Array Oper) (c fuel : Nat) (listed : Array Bool) : Prop where
  size : listed.size = ops.size
  at_ : ∀ j, listed.getD j false = decide (j < c)
  closed : ∀ j, listed.getD j false = true → ∀ q, ((Region.before ops).getD j 0).testBit q = true → listed.getD q false = true
  fuel : listed.toList.countP (fun x => !x) ≤ fuel

def EdgesOK (ops : Array Oper) : Prop := ∀ j o, ops[j]? = some o → ∀ e ∈ o.after, Region.binds .any e = true → e.on < j

theorem listed_get {ops : Array Oper} {listed : Array Bool} (hsz : listed.size = ops.size) {i : Nat} (hi : i < ops.size) (b : Bool) : listed.getD i false = b ↔ listed[i]? = some b := by
  have : i < listed.size := by omega
  simp [Array.getD, this, Array.getElem?_eq_getElem this]

theorem go_done {ops : Array Oper} {fuel : Nat} {listed : Array Bool} (h : DrawSt ops ops.size fuel listed) (t : Nat) : Region.linearise.go .any ops fuel t listed [] = [] := by
  cases fuel with
  | zero => rfl
  | succ fuel =>
    have hready : Region.ready .any ops listed = [] := by
      match hq : Region.ready .any ops listed with
      | [] => rfl
      | x :: r =>
        have hx : x ∈ Region.ready .any ops listed := by rw [hq]; simp
        obtain ⟨h1, o, ho, h2⟩ := mem_ready.1 hx
        have hj : x < ops.size := (Array.getElem?_eq_some_iff.1 ho).1
        have h3 := h.at_ x
        simp only [hj, decide_true] at h3
        simp only [Array.getD, h.size, hj, dif_pos] at h1 h3
        exact absurd (h3.symm.trans h1) (by simp)
    simp only [Region.linearise.go]
    change (match (Region.ready .any ops listed)[t % (Region.ready .any ops listed).length]? with
      | some i => Region.linearise.go .any ops fuel (t / (Region.ready .any ops listed).length) (listed.setIfInBounds i true) [i]
      | none => [].reverse) = _
    rw [hready]
    rfl

theorem count_set {ops : Array Oper} {listed : Array Bool} (hsz : listed.size = ops.size) {i : Nat} (hi : i < ops.size) (hu : listed.getD i false = false) {fuel : Nat} (h : listed.toList.countP (fun x => !x) ≤ fuel + 1) : (listed.setIfInBounds i true).toList.countP (fun x => !x) ≤ fuel := by
  have hlt2 : i < listed.toList.length := by simp; omega
  rw [Array.toList_setIfInBounds, List.countP_set hlt2]
  have hfi : listed.toList[i] = false := by
    simp only [Array.getD, hsz, hi, dif_pos] at hu
    simpa using hu
  rw [hfi]
  simp only [Bool.not_false, Bool.not_true, if_true, Bool.false_eq_true, if_false]
  omega

/-- The next operation is the only one that can come. -/
theorem go_one {ops : Array Oper} (hed : EdgesOK ops) {c fuel : Nat} {listed : Array Bool} (h : DrawSt ops c fuel listed) (hc : c < ops.size) (hend : ∀ j, c + 1 ≤ j → j < ops.size → ∀ q, q < c + 1 → ((Region.before ops).getD j 0).testBit q = true) (t : Nat) :
    ∃ fuel' t' listed', Region.linearise.go .any ops fuel t listed [] = c :: Region.linearise.go .any ops fuel' t' listed' [] ∧ DrawSt ops (c + 1) fuel' listed' := by
  have hun : listed.getD c false = false := by rw [h.at_]; simp
  have hpos : 0 < fuel := by
    refine Nat.lt_of_lt_of_le ?_ h.fuel
    rw [List.countP_pos_iff]
    have : c < listed.toList.length := by have := h.size; simp; omega
    refine ⟨false, ?_, rfl⟩
    rw [listed_get h.size hc] at hun
    have := List.mem_iff_getElem?.2 ⟨c, by rw [Array.getElem?_toList]; exact hun⟩
    exact this
  obtain ⟨fuel, rfl⟩ : ∃ n, fuel = n + 1 := ⟨fuel - 1, by omega⟩
  have hmem : ∀ j, j ∈ Region.ready .any ops listed ↔ j = c := by
    intro j
    rw [mem_ready]
    constructor
    · rintro ⟨h1, o, ho, h2⟩
      have hj : j < ops.size := (Array.getElem?_eq_some_iff.1 ho).1
      have h1' : listed.getD j false = false := by
        simp only [Array.getD, h.size, hj, dif_pos] at h1 ⊢
        exact h1
      have hjc : c ≤ j := by
        rw [h.at_ j] at h1'
        simpa using h1'
      rcases Nat.eq_or_lt_of_le hjc with e | e
      · exact e.symm
      · exfalso
        have hb := hend j (by omega) hj c (by omega)
        obtain ⟨o', ho', e', he1, he2, he3⟩ := before_bit ops hed hb
        rw [ho] at ho'; injection ho' with ho'; subst ho'
        have hle := h2 e' he1 he2
        rcases he3 with he3 | he3
        · rw [he3, h.at_ c] at hle; simp at hle
        · have := h.closed _ hle c he3
          rw [h.at_ c] at this; simp at this
    · rintro rfl
      refine ⟨?_, ops[j], Array.getElem?_eq_getElem hc, fun e he hb => ?_⟩
      · simp only [Array.getD, h.size, hc, dif_pos] at hun ⊢
        exact hun
      · have := hed j _ (Array.getElem?_eq_getElem hc) e he hb
        rw [h.at_]; simpa using this
  have hready : Region.ready .any ops listed = [c] := by
    have hnd : (Region.ready .any ops listed).Nodup := by unfold Region.ready; exact List.Pairwise.filter _ List.nodup_range
    have h1 : c ∈ Region.ready .any ops listed := (hmem c).2 rfl
    match hq : Region.ready .any ops listed with
    | [] => rw [hq] at h1; simp at h1
    | [x] => rw [hq] at h1; simp at h1; rw [h1]
    | x :: y :: r =>
      rw [hq] at hnd
      have hx := (hmem x).1 (by rw [hq]; simp)
      have hy := (hmem y).1 (by rw [hq]; simp)
      rw [hx, hy] at hnd
      simp at hnd
  refine ⟨fuel, t / 1, listed.setIfInBounds c true, ?_, by simp [h.size], fun j => ?_, fun j hj q hq => ?_, count_set h.size hc hun h.fuel⟩
  · simp only [Region.linearise.go]
    change (match (Region.ready .any ops listed)[t % (Region.ready .any ops listed).length]? with
      | some i => Region.linearise.go .any ops fuel (t / (Region.ready .any ops listed).length) (listed.setIfInBounds i true) [i]
      | none => [].reverse) = _
    rw [hready]
    simp only [List.length_singleton, Nat.mod_one, List.getElem?_cons_zero]
    rw [linearise_go_acc]
    rfl
  · by_cases e : c = j
    · subst e
      simp [h.size, hc]
    · rw [getD_set_ne false e, h.at_ j]
      congr 1
      exact propext ⟨fun h => by omega, fun h => by omega⟩
  · by_cases e : c = j
    · subst e
      refine getD_set_true ?_
      obtain ⟨o', ho', e', he1, he2, he3⟩ := before_bit ops hed hq
      have hon := hed _ _ ho' e' he1 he2
      have hlon : listed.getD e'.on false = true := by rw [h.at_]; simpa using hon
      rcases he3 with he3 | he3
      · rw [← he3]; exact hlon
      · exact h.closed _ hlon q he3
    · rw [getD_set_ne false e] at hj
      exact getD_set_true (h.closed j hj q hq)

theorem draw_loop (J : (Nat → Bool) → Th → Array Value → World → Prop) {ops : Array Oper} {c : Nat} (hm : c + m ≤ ops.size) (b : Frame) (k : List Item) (cs : List Frame)
    (hstep : ∀ (S : Nat → Bool) (θ : Th) (a : Act) (w : World) (i : Nat) (o : Oper) (rest : List Nat), J S θ a.tmps w → i < m → S i = false → (∀ j, S j = true → j < m → ∀ q, ((Region.before ops).getD (c + j) 0).testBit (c + q) = true → S q = true) → (∀ q, ((Region.before ops).getD (c + i) 0).testBit (c + q) = true → S q = true) → ops[c + i]? = some o →
      ∃ θ' w' v', Steps P (lone (b.atR a (.inRegion ops ((c + i) :: rest) :: k)) cs w) (lone (b.atR (a.put o.dst v') (.inRegion ops rest :: k)) cs w') ∧ J (fun j => S j || j == i) θ' (a.put o.dst v').tmps w')
    (hed : EdgesOK ops) (hend : ∀ j, c + m ≤ j → j < ops.size → ∀ q, q < c + m → ((Region.before ops).getD j 0).testBit q = true) :
    ∀ (fuel t : Nat) (listed : Array Bool) (θ : Th) (a : Act) (w : World), listed.size = ops.size → (∀ j, j < c → listed.getD j false = true) → J (fun j => listed.getD (c + j) false) θ a.tmps w → (∀ j, c + m ≤ j → listed.getD j false = false) →
      (∀ j, listed.getD j false = true → ∀ q, ((Region.before ops).getD j 0).testBit q = true → listed.getD q false = true) → listed.toList.countP (fun x => !x) ≤ fuel →
      ∃ θ' w' a' fuel' t' listed', Steps P (lone (b.atR a (.inRegion ops (Region.linearise.go .any ops fuel t listed []) :: k)) cs w) (lone (b.atR a' (.inRegion ops (Region.linearise.go .any ops fuel' t' listed' []) :: k)) cs w') ∧ a'.defers = a.defers ∧ DrawSt ops (c + m) fuel' listed' ∧
        ∃ S, (∀ j, j < m → S j = true) ∧ J S θ' a'.tmps w' := by
  intro fuel
  induction fuel with
  | zero =>
    intro t listed θ a w hsz hlo hI hun hcl hcnt
    have hall : ∀ j, j < ops.size → listed.getD j false = true := fun j hj => by
      have h0' : listed.toList.countP (fun x => !x) = 0 := by omega
      rw [List.countP_eq_zero] at h0'
      have := h0' (listed[j]'(by omega)) (by simp)
      simp only [Array.getD, hsz, hj, dif_pos]
      simpa using this
    have hmn : c + m = ops.size := by
      rcases Nat.eq_or_lt_of_le hm with e | e
      · exact e
      · have h1 := hun (c + m) (Nat.le_refl _)
        rw [hall (c + m) e] at h1; simp at h1
    refine ⟨θ, w, a, 0, t, listed, Steps.refl _ _, rfl, ⟨hsz, fun j => ?_, hcl, hcnt⟩, _, fun j hj => hall (c + j) (by omega), hI⟩
    by_cases hj : j < c + m
    · rw [hall j (by omega)]; simp [hj]
    · rw [hun j (by omega)]; simp [hj]
  | succ fuel ih =>
    intro t listed θ a w hsz hlo hI hun hcl hcnt
    by_cases hdone : ∀ j, j < c + m → listed.getD j false = true
    · refine ⟨θ, w, a, fuel + 1, t, listed, Steps.refl _ _, rfl, ⟨hsz, fun j => ?_, hcl, hcnt⟩, _, fun j hj => hdone (c + j) (by omega), hI⟩
      by_cases hj : j < c + m
      · rw [hdone j hj]; simp [hj]
      · rw [hun j (by omega)]; simp [hj]
    · -- some operation of the group is still to come
      have hne : ∃ j, j < c + m ∧ listed.getD j false = false := by
        refine Classical.byContradiction fun h => hdone fun j hj => ?_
        cases e : listed.getD j false with
        | true => rfl
        | false => exact absurd ⟨j, hj, e⟩ h
      have hrdy : Region.ready .any ops listed ≠ [] := by
        obtain ⟨j0, hj0, hu0⟩ := hne
        have : ∃ j, listed.getD j false = false ∧ ∀ j', j' < j → listed.getD j' false = true := by
          have key : ∀ n, (∃ j, j < n ∧ listed.getD j false = false) → ∃ j, listed.getD j false = false ∧ ∀ j', j' < j → listed.getD j' false = true := by
            intro n
            induction n with
            | zero => rintro ⟨j, hj, _⟩; omega
            | succ n ihn =>
              rintro ⟨j, hj, hu⟩
              by_cases hex : ∃ j, j < n ∧ listed.getD j false = false
              · exact ihn hex
              · have hjn : j = n := by
                  rcases Nat.lt_or_ge j n with h | h
                  · exact absurd ⟨j, h, hu⟩ hex
                  · omega
                subst hjn
                refine ⟨j, hu, fun j' hj' => ?_⟩
                cases e : listed.getD j' false with
                | true => rfl
                | false => exact absurd ⟨j', hj', e⟩ hex
          exact key (c + m) ⟨j0, hj0, hu0⟩
        obtain ⟨j, hu, hmin⟩ := this
        have hjs : j < ops.size := by
          rcases Nat.lt_or_ge j ops.size with h | h
          · exact h
          · have := hmin j0 (by omega)
            rw [hu0] at this; simp at this
        intro hnil
        have hin : j ∈ Region.ready .any ops listed := by
          rw [mem_ready]
          refine ⟨?_, ops[j], Array.getElem?_eq_getElem hjs, fun e he hb => hmin _ (hed j _ (Array.getElem?_eq_getElem hjs) e he hb)⟩
          simp only [Array.getD, hsz, hjs, dif_pos] at hu ⊢
          exact hu
        rw [hnil] at hin
        simp at hin
      simp only [Region.linearise.go]
      change ∃ θ' w' a' fuel' t' listed', Steps P (lone (b.atR a (.inRegion ops (match (Region.ready .any ops listed)[t % (Region.ready .any ops listed).length]? with
        | some i => Region.linearise.go .any ops fuel (t / (Region.ready .any ops listed).length) (listed.setIfInBounds i true) [i]
        | none => [].reverse) :: k)) cs w) _ ∧ _
      have hlt : t % (Region.ready .any ops listed).length < (Region.ready .any ops listed).length := Nat.mod_lt _ (List.length_pos_iff.2 hrdy)
      rw [List.getElem?_eq_getElem hlt]
      simp only
      generalize hi : (Region.ready .any ops listed)[t % (Region.ready .any ops listed).length] = ii
      have hmem : ii ∈ Region.ready .any ops listed := by rw [← hi]; exact List.getElem_mem hlt
      obtain ⟨h1, o, ho, h2⟩ := mem_ready.1 hmem
      have his : ii < ops.size := (Array.getElem?_eq_some_iff.1 ho).1
      have hui : listed.getD ii false = false := by
        simp only [Array.getD, hsz, his, dif_pos] at h1 ⊢
        exact h1
      have hbits : ∀ q, ((Region.before ops).getD ii 0).testBit q = true → listed.getD q false = true := fun q hq => by
        obtain ⟨o', ho', e', he1, he2, he3⟩ := before_bit ops hed hq
        rw [ho] at ho'; injection ho' with ho'; subst ho'
        have hle := h2 e' he1 he2
        rcases he3 with he3 | he3
        · rw [← he3]; exact hle
        · exact hcl _ hle q he3
      have him : ii < c + m := by
        rcases Nat.lt_or_ge ii (c + m) with h | h
        · exact h
        · obtain ⟨j0, hj0, hu0⟩ := hne
          have := hbits j0 (hend ii h his j0 hj0)
          rw [hu0] at this; simp at this
      have hic : c ≤ ii := by
        rcases Nat.lt_or_ge ii c with h | h
        · rw [hlo ii h] at hui; simp at hui
        · exact h
      obtain ⟨i, rfl⟩ : ∃ i, ii = c + i := ⟨ii - c, by omega⟩
      rw [linearise_go_acc, List.reverse_singleton, List.singleton_append]
      obtain ⟨θ1, w1, v1, st, hI1⟩ := hstep _ θ a w i o (Region.linearise.go .any ops fuel (t / (Region.ready .any ops listed).length) (listed.setIfInBounds (c + i) true) []) hI (by omega) hui (fun j hj _ q hq => hcl _ hj _ hq) (fun q hq => hbits _ hq) ho
      have hSeq : (fun j => (listed.getD (c + j) false) || j == i) = fun j => (listed.setIfInBounds (c + i) true).getD (c + j) false := by
        funext j
        by_cases e : i = j
        · subst e
          simp [hsz, his]
        · rw [getD_set_ne false (by omega)]
          have : (j == i) = false := by simpa using fun h => e h.symm
          simp [this]
      rw [hSeq] at hI1
      obtain ⟨θ', w', a', fuel', t', listed', st2, hdef, hst, S, hS, hI2⟩ := ih (t / (Region.ready .any ops listed).length) (listed.setIfInBounds (c + i) true) θ1 (a.put o.dst v1) w1 (by simp [hsz]) (fun j hj => by rw [getD_set_ne false (by omega)]; exact hlo j hj) hI1 (fun j hj => by rw [getD_set_ne false (by omega)]; exact hun j hj)
        (fun j hj q hq => by
          by_cases e : c + i = j
          · subst e; exact getD_set_true (hbits q hq)
          · rw [getD_set_ne false e] at hj
            exact getD_set_true (hcl j hj q hq)) (count_set hsz his hui hcnt)
      refine ⟨θ', w', a', fuel', t', listed', st.trans st2, ?_, hst, S, hS, hI2⟩
      rw [hdef]
      cases o.dst <;> rfl

theorem DrawSt.start (ops : Array Oper) : DrawSt ops 0 ops.size (Array.replicate ops.size false) :=
  ⟨by simp, fun j => by simp [Array.getD], fun j hj => by simp [Array.getD] at hj, by
    have := List.countP_le_length (l := (Array.replicate ops.size false).toList) (p := fun x => !x)
    simpa using this⟩
end
end Go.Abs
