/- What is left behind a call. -/
import Derived.Test.YtiejbjajbehcfaaDoorA12
set_option linter.unusedVariables false
set_option linter.unusedSimpArgs false
namespace Go.Abs
variable {κ : KRel}

theorem idsL_mem {l : List AV} {i : Nat} {x : AV} (h : l[i]? = some x) {j : Nat} (hj : j ∈ x.ids) : j ∈ AV.ids.idsL l := by
  induction l generalizing i with
  | nil => simp at h
  | cons y l ih =>
    simp only [AV.ids.idsL, List.mem_append]
    cases i with
    | zero => simp at h; subst h; exact .inl hj
    | succ i => exact .inr (ih (by simpa using h))

theorem V.to {θ θ' : Th} {v : AV} {v' : Value} (h : V θ v v') : (∀ id ∈ v.ids, ∀ L, θ id = some L → θ' id = some L) → V θ' v v' := by
  induction h with
  | bool b => intro _; exact .bool b
  | int k n => intro _; exact .int k n
  | str s => intro _; exact .str s
  | ptr e => intro h; exact .ptr (h _ (by simp [AV.ids]) _ e)
  | nilptr => intro _; exact .nilptr
  | sliceAt e a b => intro h; exact .sliceAt (h _ (by simp [AV.ids]) _ e) a b
  | sliceOp e a b c => intro h; exact .sliceOp (h _ (by simp [AV.ids]) _ e) a b c
  | nilslice => intro _; exact .nilslice
  | map e => intro h; exact .map (h _ (by simp [AV.ids]) _ e)
  | nilmap => intro _; exact .nilmap
  | func a _ ih => intro h; exact .func a (fun i x x' p q => ih i x x' p q (fun id hid => h id (by simp only [AV.ids]; exact idsL_mem p hid)))
  | yield e => intro h; exact .yield (h _ (by simp [AV.ids]) _ e)
  | nilfunc => intro _; exact .nilfunc
  | niliface => intro _; exact .niliface
  | iface _ ih => intro h; exact .iface (ih h)
  | agg a _ ih => intro h; exact .agg a (fun i x x' p q => ih i x x' p q (fun id hid => h id (by simp only [AV.ids]; exact idsL_mem p hid)))
  | tup a _ ih => intro h; exact .tup a (fun i x x' p q => ih i x x' p q (fun id hid => h id (by simp only [AV.ids]; exact idsL_mem p hid)))
  | any v' => intro _; exact .any v'

theorem Fr.weaken {θ θ' : Th} {rows rows' : List Row} {low low' low2 low2' : Nat} {w w' : World} (h : Fr κ θ θ' rows rows' low low' w w') (h1 : low2' ≤ low') (h2 : low2' ≤ low2) : Fr κ θ θ' rows rows' low2 low2' w w' where
  ext := h.ext
  rel := h.rel
  len := h.len
  low := h2
  os := h.os
  tape := h.tape
  output := h.output
  size := h.size
  keepA := fun id hi => h.keepA id (Nat.lt_of_lt_of_le hi h1)
  keepB := fun b hb hn => h.keepB b hb (fun id r L a o c d => hn id r L a o (Nat.le_trans h1 c) d)
  own := h.own
  alive := h.alive
  fresh := fun id L a e => let ⟨p, q⟩ := h.fresh id L a e
    ⟨p, q.imp (fun x => x) (fun ⟨j, r, L', a, b, c, d⟩ => ⟨j, r, L', a, b, Nat.le_trans h1 c, d⟩)⟩

section
variable {θ θ' : Th} {rows rows' : List Row} {w w' : World}

/-- Nothing old was touched: all old blocks are as they were. -/
theorem Fr.clean (hr : HRel κ θ rows w) (h : Fr κ θ θ' rows rows' rows.length rows.length w w') (b : Nat) (hb : b < w.heap.size) : w'.heap[b]? = w.heap[b]? :=
  h.keepB b hb (fun id r L a o c d => by
    have := (List.getElem?_eq_some_iff.1 a).1
    omega)

theorem Fr.drop (hr : HRel κ θ rows w) (h : Fr κ θ θ' rows rows' rows.length rows.length w w') (low : Nat) : Fr κ θ θ rows rows low low w w' where
  ext := Ext.refl _
  rel := ⟨hr.dom, fun id L e => Nat.lt_of_lt_of_le (hr.blk id L e) h.size, fun id r e => (hr.row id r e).mono (Ext.refl _) (fun L hL => Fr.clean hr h _ (hr.blk id L hL)), hr.inj⟩
  len := Nat.le_refl _
  low := Nat.le_refl _
  os := h.os
  tape := h.tape
  output := h.output
  size := h.size
  keepA := fun _ _ => rfl
  keepB := fun b hb _ => Fr.clean hr h b hb
  own := fun id r a b _ => ⟨r, a, b⟩
  alive := fun id r a b _ => ⟨r, a, b⟩
  fresh := fun id L a b => by rw [a] at b; simp at b

theorem ext_back (hr : HRel κ θ rows w) {low low' : Nat} (h : Fr κ θ θ' rows rows' low low' w w') {id : Nat} (hid : id < rows.length) {L : Loc} (hL : θ' id = some L) : θ id = some L := by
  cases e : θ id with
  | some L0 =>
    have := h.ext id L0 e
    rw [hL] at this
    exact this.symm
  | none =>
    have := (h.fresh id L hL e).1
    omega

theorem V.ren_top {θ θ2 : Th} {i j : Nat} (hθ : ∀ L, θ i = some L → θ2 j = some L) {v : AV} {v' : Value} (hv : V θ v v') (hp : v.plain = true) (hin : ∀ id ∈ v.ids, id = i) : V θ2 (v.ren i j) v' := by
  cases hv with
  | @ptr id off L e =>
    have := hin id (by simp [AV.ids])
    subst this
    simp only [AV.ren, if_true]
    exact .ptr (hθ _ e)
  | @sliceAt id off len c o L e a b =>
    have := hin id (by simp [AV.ids])
    subst this
    simp only [AV.ren, if_true]
    exact .sliceAt (hθ _ e) a b
  | @sliceOp id off len sz c o L e a b c' =>
    have := hin id (by simp [AV.ids])
    subst this
    simp only [AV.ren, if_true]
    exact .sliceOp (hθ _ e) a b c'
  | bool b => exact .bool b
  | int k n => exact .int k n
  | str s => exact .str s
  | nilptr => exact .nilptr
  | nilslice => exact .nilslice
  | map e => simp [AV.plain, AV.ids] at hp
  | nilmap => exact .nilmap
  | yield e => simp [AV.plain, AV.ids] at hp
  | nilfunc => exact .nilfunc
  | niliface => exact .niliface
  | any v' => exact .any v'
  | @func f l l' a b =>
    have h0 : AV.ids.idsL l = [] := by simpa [AV.plain, AV.ids] using hp
    exact V.to (.func a b) (fun id hid2 => by have hid3 : id ∈ AV.ids.idsL l := hid2; rw [h0] at hid3; simp at hid3)
  | @iface t v v' a =>
    have h0 : AV.ids v = [] := by simpa [AV.plain, AV.ids] using hp
    exact V.to (.iface a) (fun id hid2 => by have hid3 : id ∈ v.ids := hid2; rw [h0] at hid3; simp at hid3)
  | @agg l l' a b =>
    have h0 : AV.ids.idsL l = [] := by simpa [AV.plain, AV.ids] using hp
    exact V.to (.agg a b) (fun id hid2 => by have hid3 : id ∈ AV.ids.idsL l := hid2; rw [h0] at hid3; simp at hid3)
  | @tup l l' a b =>
    have h0 : AV.ids.idsL l = [] := by simpa [AV.plain, AV.ids] using hp
    exact V.to (.tup a b) (fun id hid2 => by have hid3 : id ∈ AV.ids.idsL l := hid2; rw [h0] at hid3; simp at hid3)

theorem V.ren1_top {θ θ2 : Th} {i j : Nat} (hθ : ∀ L, θ i = some L → θ2 j = some L) {v : AV} {v' : Value} (hv : V θ v v') (hp : v.plain1 = true) (hin : ∀ id ∈ v.ids, id = i) : V θ2 (v.ren1 i j) v' := by
  cases v with
  | tup l =>
    cases hv with
    | tup a b =>
    rename_i l'
    refine .tup (by simpa using a) (fun k x x' p q => ?_)
    simp only [List.getElem?_map, Option.map_eq_some_iff] at p
    obtain ⟨y, p, rfl⟩ := p
    refine V.ren_top hθ (b k y x' p q) ?_ (fun id h => hin id (by simp only [AV.ids]; exact idsL_mem p h))
    simp only [AV.plain1, List.all_eq_true] at hp
    exact hp y (List.mem_of_getElem? p)
  | _ => exact V.ren_top hθ hv hp hin

theorem V.back {b : Nat} (hθ : ∀ id, id < b → ∀ L, θ' id = some L → θ id = some L) {v : AV} {v' : Value} (hv : V θ' v v') (hu : v.under b = true) : V θ v v' :=
  hv.to fun id hid L hL => hθ id (by simpa using List.all_eq_true.1 hu id hid) L hL
theorem VL.back {b : Nat} (hθ : ∀ id, id < b → ∀ L, θ' id = some L → θ id = some L) {l : List AV} {l' : List Value} (hv : VL θ' l l') (hu : l.all (AV.under b) = true) : VL θ l l' :=
  ⟨hv.1, fun i x x' a c => (hv.2 i x x' a c).back hθ (List.all_eq_true.1 hu x (List.mem_of_getElem? a))⟩
theorem RowRel.back {b : Nat} (hθ : ∀ id, id < b → ∀ L, θ' id = some L → θ id = some L) {id : Nat} {r : Row} (h : RowRel κ θ' id w r) (hu : r.under b = true) (hid : id < b) : RowRel κ θ id w r := by
  cases r with
  | cells vs =>
    obtain ⟨L, c, T, h1, h2, h3⟩ := h
    refine ⟨L, c, T, hθ _ hid _ h1, h2, h3.1, h3.2.1, fun j x hx => ?_⟩
    obtain ⟨x', p1, p2, p3⟩ := h3.2.2 j x hx
    exact ⟨x', p1, p2.back hθ (List.all_eq_true.1 hu x (List.mem_of_getElem? hx)), p3⟩
  | ro vs =>
    obtain ⟨L, h1, h2⟩ := h
    refine ⟨L, hθ _ hid _ h1, fun j x hx => ?_⟩
    obtain ⟨x', p1, p2, p3⟩ := h2 j x hx
    exact ⟨x', p1, p2.back hθ (List.all_eq_true.1 hu x (List.mem_of_getElem? hx)), p3⟩
  | mp es =>
    obtain ⟨L, es', cl, h1, h2, h3, h4⟩ := h
    refine ⟨L, es', cl, hθ _ hid _ h1, h2, h3, fun i e he => ?_⟩
    obtain ⟨e', p1, p2, p3⟩ := h4 i e he
    have := List.all_eq_true.1 hu e (List.mem_of_getElem? he)
    simp only [Bool.and_eq_true] at this
    exact ⟨e', p1, p2.back hθ this.1, p3.back hθ this.2⟩
  | loop st pend sl ps asg body =>
    obtain ⟨L, r, h1, h2, h3, h4, h5, h6, h7, h8⟩ := h
    exact ⟨L, r, hθ _ hid _ h1, h2, h3, h4, h5.back hθ hu, h6, h7, h8⟩
  | mark => exact h
  | dead => trivial

/-- The rows behind the first ones are dropped. -/
theorem gc_sound (hr : HRel κ θ rows w) {low low' : Nat} (h : Fr κ θ θ' rows rows' low low' w w') {v : AV} {v' : Value} (hv : V θ' v v') :
    ∃ θ2, V θ2 v v' ∧ Fr κ θ θ2 rows (gc rows.length low' v rows') low low' w w' := by
  unfold gc
  split
  case isFalse => exact ⟨θ', hv, h⟩
  rename_i hc
  simp only [Bool.and_eq_true] at hc
  obtain ⟨hc1, hc2⟩ := hc
  have hθ : ∀ id, id < rows.length → ∀ L, θ' id = some L → θ id = some L := fun id hid L hL => ext_back hr h hid hL
  have hget : ∀ id r, (rows'.take rows.length)[id]? = some r → id < rows.length ∧ rows'[id]? = some r := fun id r e => by
    rw [List.getElem?_take] at e
    split at e
    · exact ⟨by assumption, e⟩
    · simp at e
  refine ⟨θ, hv.back hθ hc1, Ext.refl _, ⟨fun id L e => ?_, fun id L e => Nat.lt_of_lt_of_le (hr.blk id L e) h.size, fun id r e => ?_, fun i j r s L L' hne hi ho hj hl hL hL' => ?_⟩, ?_, h.low, h.os, h.tape, h.output, h.size, fun id hid => ?_, h.keepB, fun id r a o hi => h.own id r (hget id r a).2 o hi, fun id r a o hi => h.alive id r (hget id r a).2 o hi, fun id L a b => by rw [a] at b; simp at b⟩
  · have := hr.dom id L e
    have := h.len
    simp; omega
  · obtain ⟨h1, h2⟩ := hget id r e
    rcases Nat.lt_or_ge id low' with hlt | hge
    · have hold : rows[id]? = some r := by rw [← h.keepA id hlt]; exact h2
      by_cases hd : r.live = true
      · exact (hr.row id r hold).mono (Ext.refl _) (fun L hL => h.keepB _ (hr.blk id L hL) (fun j s K a o c d hb => hr.inj j id s r K L (by omega) a o hold hd d hL hb))
      · have hdead : r = .dead := by cases r <;> simp_all [Row.live]
        subst hdead
        trivial
    · refine (h.rel.row id r h2).back hθ ?_ h1
      refine List.all_eq_true.1 hc2 r ?_
      refine List.mem_iff_getElem?.2 ⟨id - low', ?_⟩
      rw [List.getElem?_drop, show low' + (id - low') = id from by omega]
      exact e
  · exact h.rel.inj i j r s L L' hne (hget i r hi).2 ho (hget j s hj).2 hl (h.ext _ _ hL) (h.ext _ _ hL')
  · have := h.len; simp; omega
  · rw [← h.keepA id hid, List.getElem?_take]
    split
    · rfl
    · rename_i hge
      have := h.len
      have h0 : rows[id]? = none := List.getElem?_eq_none (by omega)
      rw [h.keepA id hid, h0]

theorem fin_sound (hr : HRel κ θ rows w) {low low' : Nat} (hlow : low ≤ rows.length) (h : Fr κ θ θ' rows rows' rows.length low' w w') {v : AV} {v' : Value} (hv : V θ' v v') :
    ∃ θ2, V θ2 (fin rows v rows' low').1 v' ∧ Fr κ θ θ2 rows (fin rows v rows' low').2.1 low (lowO low (fin rows v rows' low').2.2) w w' := by
  unfold fin
  split
  · rename_i hl
    subst hl
    have keep : ∃ θ2, V θ2 v v' ∧ Fr κ θ θ2 rows rows' low low w w' := ⟨θ', hv, h.weaken hlow (Nat.le_refl _)⟩
    split
    · rename_i hall
      refine ⟨θ, hv.to (fun id hid L hL => ext_back hr h ?_ hL), Fr.drop hr h low⟩
      simpa using List.all_eq_true.1 hall id hid
    · rename_i hall
      split
      · rename_i i hi
        split
        · rename_i vs hvs
          split
          · rename_i hc
            simp only [Bool.and_eq_true] at hc
            obtain ⟨hc1, hc2⟩ := hc
            have hge : rows.length ≤ i := by
              rw [hi] at hall
              simpa using hall
            obtain ⟨L, c, T, hL, hb, hcr⟩ := h.rel.row i _ hvs
            have hnone : θ i = none := by
              cases e : θ i with
              | none => rfl
              | some K => have := hr.dom i K e; omega
            have hnew : w.heap.size ≤ L.b := by
              rcases (h.fresh i L hL hnone).2 with f | ⟨j, r, L', a, _, b, _⟩
              · exact f
              · have := (List.getElem?_eq_some_iff.1 a).1
                omega
            have hE : Ext θ (θ.add rows.length L) := Th.ext_add hr.none_len L
            refine ⟨θ.add rows.length L, ?_, ?_⟩
            · refine V.ren1_top (θ := θ') (fun K hK => ?_) hv hc2 (fun id hid => by rw [hi] at hid; simpa using hid)
              rw [hL] at hK; injection hK with hK; subst hK; exact Th.add_self _ _ _
            · have hold : ∀ b, b < w.heap.size → w'.heap[b]? = w.heap[b]? := fun b hb => Fr.clean hr h b hb
              refine ⟨hE, ⟨?_, ?_, ?_, ?_⟩, by simp, Nat.le_refl _, h.os, h.tape, h.output, h.size, ?_, fun b hb _ => hold b hb, ?_, ?_, ?_⟩
              · intro id K e
                by_cases hi2 : id = rows.length
                · subst hi2; simp
                · rw [Th.add_ne _ _ hi2] at e
                  have := hr.dom id K e
                  simp; omega
              · intro id K e
                by_cases hi2 : id = rows.length
                · subst hi2; rw [Th.add_self] at e; injection e with e; subst e; exact h.rel.blk i L hL
                · rw [Th.add_ne _ _ hi2] at e
                  exact Nat.lt_of_lt_of_le (hr.blk id K e) h.size
              · intro id r e
                rw [getElem?_snoc] at e
                split at e
                · rename_i hi2
                  subst hi2
                  injection e with e
                  subst e
                  refine ⟨L, c, T, Th.add_self _ _ _, hb, hcr.1, hcr.2.1, fun j x hx => ?_⟩
                  obtain ⟨x', p1, p2, p3⟩ := hcr.2.2 j x hx
                  refine ⟨x', p1, p2.to (fun id hid => ?_), p3⟩
                  have hx0 : x.ids = [] := by
                    have := List.all_eq_true.1 hc1 x (List.mem_of_getElem? hx)
                    simpa using this
                  rw [hx0] at hid
                  simp at hid
                · exact (hr.row id r e).mono hE (fun K hK => hold _ (hr.blk id K hK))
              · intro p q r s K K' hne hp hpo hq hql hK hK'
                rw [getElem?_snoc] at hp hq
                by_cases e1 : p = rows.length
                · subst e1
                  rw [Th.add_self] at hK; injection hK with hK; subst hK
                  have e2 : q ≠ rows.length := fun e => hne e.symm
                  rw [Th.add_ne _ _ e2] at hK'
                  have := hr.blk q K' hK'
                  omega
                · rw [Th.add_ne _ _ e1] at hK
                  rw [if_neg e1] at hp
                  by_cases e2 : q = rows.length
                  · subst e2
                    rw [Th.add_self] at hK'; injection hK' with hK'; subst hK'
                    have := hr.blk p K hK
                    omega
                  · rw [Th.add_ne _ _ e2] at hK'
                    rw [if_neg e2] at hq
                    exact hr.inj p q r s K K' hne hp hpo hq hql hK hK'
              · intro id hid
                have : id < low := hid
                rw [getElem?_snoc, if_neg (by omega)]
              · intro id s e o hid
                rw [getElem?_snoc, if_neg (by omega)] at e
                exact ⟨s, e, o⟩
              · intro id s e o hid
                rw [getElem?_snoc, if_neg (by omega)] at e
                exact ⟨s, e, o⟩
              · intro id K e hn
                by_cases hi2 : id = rows.length
                · subst hi2; rw [Th.add_self] at e; injection e with e; subst e; exact ⟨Nat.le_refl _, .inl hnew⟩
                · rw [Th.add_ne _ _ hi2, hn] at e; simp at e
          · exact keep
        · exact keep
      · exact keep
  · rename_i hl
    obtain ⟨θ2, p, q⟩ := gc_sound hr h hv
    exact ⟨θ2, p, q.weaken (lower_le_id _ _) (lower_le _ _)⟩
end
end Go.Abs
