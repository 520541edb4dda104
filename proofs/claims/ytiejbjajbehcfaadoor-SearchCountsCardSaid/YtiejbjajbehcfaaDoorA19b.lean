/- A region whose order is drawn, with one store in its group. -/
import Derived.Test.YtiejbjajbehcfaaDoorA19
set_option linter.unusedVariables false
set_option linter.unusedSimpArgs false
namespace Go.Abs
section
variable {P : Program} {gl : List Nat}

theorem cop_store {o : Oper} {io : IOp} (h : cop P gl o = some io) {a x : Opd} {n : Option Nat} (hs : isStore io = some (a, x, n)) :
    ∃ t y z, o.op = .store t y z ∧ a = co gl y ∧ x = co gl z ∧ ((n = none ∧ szT P t = some 1) ∨ ∃ k, n = some k ∧ szT P t = some k) := by
  obtain ⟨dst, op, ty, pos, aft, gd⟩ := o
  cases op <;> simp only [cop, reduceCtorEq] at h
  case store t y z =>
    split at h
    · rename_i k hag hn
      injection h with h
      subst h
      simp only [isStore, Option.some.injEq, Prod.mk.injEq] at hs
      obtain ⟨rfl, rfl, rfl⟩ := hs
      exact ⟨t, y, z, rfl, rfl, rfl, .inr ⟨k, rfl, hn⟩⟩
    · rename_i k hag hn
      split at h
      · rename_i hk
        subst hk
        injection h with h
        subst h
        simp only [isStore, Option.some.injEq, Prod.mk.injEq] at hs
        obtain ⟨rfl, rfl, rfl⟩ := hs
        exact ⟨t, y, z, rfl, rfl, rfl, .inl ⟨rfl, hn⟩⟩
      · simp at h
    · simp at h
  case call c =>
    obtain ⟨callee, cargs, ats⟩ := c
    cases callee with
    | value ff => simp only [Option.some.injEq] at h; subst h; simp [isStore] at hs
    | invoke r m => simp at h
    | builtin bb =>
      cases bb <;> simp only [reduceCtorEq] at h
      all_goals
        repeat' split at h
        all_goals first
          | (simp at h; done)
          | (injection h with h; subst h; simp [isStore] at hs; done)
          | (simp only [Option.map_eq_some_iff] at h; obtain ⟨_, _, rfl⟩ := h; simp [isStore] at hs; done)
  case makeFunc fn fi cs =>
    cases fn <;> simp only [reduceCtorEq] at h
    split at h
    · injection h with h; subst h; simp [isStore] at hs
    · simp at h
  all_goals
    repeat' split at h
    all_goals first
      | (simp at h; done)
      | (injection h with h; subst h; simp [isStore] at hs; done)
      | (simp only [Option.map_eq_some_iff] at h; obtain ⟨_, _, rfl⟩ := h; simp [isStore] at hs; done)
      | contradiction

theorem stored_spec {sl : List AV} {rows : List Row} {R : Nat} {a x : Opd} {n : Option Nat} {r' : Row} (h : stored sl rows R a x n = some r') :
    ∃ off vs, getO sl a = .ptr R off ∧ rows[R]? = some (.cells vs) ∧ ((n = none ∧ off < vs.length ∧ (getO sl x).one = true ∧ r' = .cells (vs.set off (getO sl x))) ∨
      ∃ l, n = some l.length ∧ getO sl x = .agg l ∧ off + l.length ≤ vs.length ∧ l.all AV.one = true ∧ r' = .cells (splice vs off l)) := by
  unfold stored at h
  split at h
  case h_2 => simp at h
  rename_i id off ha
  split at h
  case isFalse => simp at h
  rename_i hid
  subst hid
  split at h
  case h_2 => simp at h
  rename_i vs hvs
  split at h
  · split at h
    · rename_i hc
      injection h with h
      exact ⟨off, vs, ha, hvs, .inl ⟨rfl, hc.1, hc.2, h.symm⟩⟩
    · simp at h
  · rename_i k
    split at h
    · rename_i l hl
      split at h
      · rename_i hc
        injection h with h
        obtain ⟨c1, c2, c3⟩ := hc
        subst c1
        exact ⟨off, vs, ha, hvs, .inr ⟨l, rfl, hl, c2, c3, h.symm⟩⟩
      · simp at h
    · simp at h

theorem noop_opR (call : Nat → List AV → List Row → Option (AV × List Row × Option Nat)) (sl : List AV) (rows : List Row) (low : Nat) : opR call sl rows low noop = some (.int .i64 0, rows, low) := rfl

theorem grpW_sound {call : Nat → List AV → List Row → Option (AV × List Row × Option Nat)} (hcall : CallOK P gl call) {ops : Array Oper} (hed : EdgesOK ops) {c m : Nat} (hm : c + m ≤ ops.size) (hend : ∀ j, c + m ≤ j → j < ops.size → ∀ q, q < c + m → ((Region.before ops).getD j 0).testBit q = true)
    (hpairs : pairsOk (piece (lbits P gl ops) c (c + m)) 0 = true) {rows : List Row} {sl sl' : List AV} {ext : List (Nat × Row)} {i : Nat} {oi : IOpx × Nat} {a0 x0 : Opd} {n0 : Option Nat} {R : Nat} {r' : Row}
    (hi : (piece (lbits P gl ops) c (c + m))[i]? = some oi) (hst : isStore oi.1.op = some (a0, x0, n0)) (hdst : oi.1.dst = none) (hgn : oi.1.g = none)
    (hbits : ∀ q ∈ piece (lbits P gl ops) c (c + m), q.2.testBit i = false)
    (hev : evalG call (rows.set R .dead) 0 ((piece (lbits P gl ops) c (c + m)).set i (noop, oi.2)) sl [] = some (sl', ext)) (hsto : stored sl' rows R a0 x0 n0 = some r')
    {fuel : Nat} {listed : Array Bool} (hdst0 : DrawSt ops c fuel listed) (t : Nat) {θ : Th} {w : World} {a : Act} (hr : HRel (KP P gl) θ rows w) (hg : GRel θ gl) (hs : SRel θ sl a.tmps) (low : Nat) (hlow : low ≤ rows.length) (b : Frame) (k : List Item) (cs : List Frame) :
    ∃ θ' w' a' fuel' t' listed', Steps P (lone (b.atR a (.inRegion ops (Region.linearise.go .any ops fuel t listed []) :: k)) cs w) (lone (b.atR a' (.inRegion ops (Region.linearise.go .any ops fuel' t' listed' []) :: k)) cs w') ∧ a'.defers = a.defers ∧ DrawSt ops (c + m) fuel' listed' ∧ SRel θ' sl' a'.tmps ∧ Fr (KP P gl) θ θ' rows (rows.set R r' ++ ext.map (·.2)) low (lower low R) w w' := by
  let L : Nat → IOpx × Nat := Lat P gl ops c
  have hlen0 : (piece (lbits P gl ops) c (c + m)).length = m := piece_len hm
  have hget : ∀ p q, (piece (lbits P gl ops) c (c + m))[p]? = some q → L p = q := fun p q hp => piece_L hm hp
  have hap : ∀ j, j < m → ∀ k, k < j → (L j).2.testBit k = true ∨ apartI (L k).1 (L j).1 = true := fun j hj k hk => by
    have := pairsOk_spec _ 0 hpairs j k _ _ hk (piece_get hm (by omega)) (piece_get hm hj)
    simpa using this
  have him : i < m := by have := (List.getElem?_eq_some_iff.1 hi).1; omega
  have hLi : L i = oi := hget i oi hi
  have hbit : ∀ j, j < m → (L j).2.testBit i = false := fun j hj => hbits _ (List.mem_of_getElem? (piece_get hm hj))
  let L' : Nat → IOpx × Nat := fun j => if j = i then (noop, oi.2) else L j
  have hL'2 : ∀ j, (L' j).2 = (L j).2 := fun j => by
    simp only [L']
    split
    · rename_i e; subst e; rw [hLi]
    · rfl
  have hL'n : ∀ j, j ≠ i → L' j = L j := fun j hj => by simp only [L']; rw [if_neg hj]
  have hL'i : L' i = (noop, oi.2) := by simp only [L']; rw [if_pos trivial]
  obtain ⟨SL, EX, v, rw_, h1, h2, h3, h4, htr⟩ := evalG_trace _ 0 sl [] sl' ext L' (fun p q hp => by
    rw [Nat.zero_add]
    rw [List.getElem?_set] at hp
    split at hp
    · rename_i e
      subst e
      split at hp
      · injection hp with hp; rw [hL'i]; exact hp
      · simp at hp
    · rename_i e
      rw [hL'n p (fun h => e h.symm)]
      exact hget p q hp) hev
  rw [List.length_set, hlen0, Nat.zero_add] at h3 h4 htr
  -- the row
  obtain ⟨off, vs, hpa, hR, hcase⟩ := stored_spec hsto
  obtain ⟨LR, hLR⟩ := (hr.row R _ hR).loc rfl
  have hRb := hr.blk R LR hLR
  have hRl : R < rows.length := (List.getElem?_eq_some_iff.1 hR).1
  have hrD : HRel (KP P gl) θ (rows.set R .dead) w := (Fr.kill hr low R).rel
  have hI := Inv.start (X := fun b => b = LR.b) (m := m) (L := L') (v := v) (EX := EX) (rows := rows.set R .dead) (sl0 := sl) (w0 := w) h2 hrD hs
  have hSf : (fun _ : Nat => false) = fun j => listed.getD (c + j) false := by
    funext j
    rw [hdst0.at_]; simp
  rw [hSf] at hI
  have hap' : ∀ j, j < m → ∀ k, k < j → (L' j).2.testBit k = true ∨ apartI (L' k).1 (L' j).1 = true := fun j hj k hk => by
    rw [hL'2]
    by_cases e1 : j = i
    · subst e1; right; rw [hL'i]; simp [apartI, noop, IOpx.looks, IOp.opds]
      cases (L' k).1.dst <;> simp
    · by_cases e2 : k = i
      · subst e2; right; rw [hL'i]; simp [apartI, noop, IOpx.looks, IOp.opds]
        cases (L' j).1.dst <;> simp
      · rw [hL'n j e1, hL'n k e2]
        exact hap j hj k hk
  obtain ⟨θ', w', a', fuel', t', listed', st, hdef, hst', S, hS, hI2, hrow2⟩ := draw_loop (P := P) (fun S θ' tmps w' => Inv (KP P gl) (fun b => b = LR.b) θ (rows.set R .dead) sl m L' v EX w S θ' tmps w' ∧ RowRel (KP P gl) θ' R w' (if S i then r' else .cells vs)) hm b k cs
    (fun S θ1 a1 w1 j o rest hJ hjm huj hcl hbj ho => by
      obtain ⟨hJ, hJR⟩ := hJ
      have hLo1 : (L j).1 = copx P gl ops o := Lat_op ho
      have hθR : θ1 R = some LR := hJ.ext _ _ hLR
      by_cases hji : j = i
      · -- the store
        subst hji
        rw [huj] at hJR
        simp only [Bool.false_eq_true, if_false] at hJR
        rw [hLi] at hLo1
        have hbad : (copx P gl ops o).op ≠ .bad := by
          rw [← hLo1]; intro h; rw [h] at hst; simp [isStore] at hst
        obtain ⟨g, c1, c2, c3, c4⟩ := copx_bad hbad
        rw [← hLo1] at c2 c3 c4
        rw [hgn] at c3
        subst c3
        have hwr := want_sound (sl := List.replicate a1.tmps.size .any) (a := a1) (θ := θ1) (c := true) ⟨by simp, fun i x x' hx _ => by
          rw [List.getElem?_replicate] at hx
          split at hx
          · injection hx with hx; subst hx; exact .any _
          · simp at hx⟩ c1 rfl
        obtain ⟨t, y, z, d1, rfl, rfl, d4⟩ := cop_store c2 hst
        rw [hdst] at c4
        -- the slots that it looks at
        have hX : ∀ u, Opd.tmps (co gl u) ⊆ oi.1.looks → V θ1 (getO sl' (co gl u)) (a1.eval u) := fun u hu => by
          have hgθ : GRel θ1 gl := hg.mono hJ.ext
          let Y : List AV := (List.range sl.length).map fun t => if t ∈ oi.1.looks then (SL m).getD t .any else .any
          have hY : SRel θ1 Y a1.tmps := by
            refine ⟨by simp [Y, hJ.size], fun t x x' hx hx' => ?_⟩
            have htl : t < sl.length := by have := (List.getElem?_eq_some_iff.1 hx).1; simpa [Y] using this
            simp only [Y, List.getElem?_map, List.getElem?_range htl, Option.map_some, Option.some.injEq] at hx
            subst hx
            split
            · rename_i ht
              have hV := hJ.slots t x' hx'
              have e1 : slotAt sl (rows.set R Row.dead).length L' v (fun j => (rows.set R Row.dead).length + (EX j).length) S m t = slotAt sl (rows.set R Row.dead).length L' v (fun j => (rows.set R Row.dead).length + (EX j).length) (fun _ => true) m t :=
                slotAt_congr m (fun q hq hd => by
                  by_cases e : q = j
                  · subst e; rw [hL'i] at hd; simp [noop] at hd
                  · rw [hL'n q e] at hd
                    rcases Nat.lt_or_ge q j with h | h
                    · rcases hap j hjm q h with hh | hh
                      · exact hbj q (by rw [← Lat_bit (P := P) (gl := gl)]; exact hh)
                      · have := (apartI_spec hh).1 t hd
                        rw [hLi] at this
                        exact absurd ht this
                    · rcases hap q hq j (by omega) with hh | hh
                      · have := hbit q hq
                        rw [hh] at this
                        simp at this
                      · have := (apartI_spec hh).2.2 t hd
                        rw [hLi] at this
                        exact absurd ht this)
              rw [e1, (slotAt_text (sl0 := sl) htr h1 htl m (Nat.le_refl _)).1] at hV
              exact hV.mono (Th.upto_ext _ _)
            · exact .any _
          have hV := opd_V (a := a1) hgθ hY u
          have : getO Y (co gl u) = getO sl' (co gl u) := getO_congr fun t ht => by
            rcases Nat.lt_or_ge t sl.length with htl | htl
            · simp only [Y, List.getD, List.getElem?_map, List.getElem?_range htl, Option.map_some, Option.getD_some, if_pos (hu ht)]
              rw [h3]
            · have hL' := htr.sl_len h1 m (Nat.le_refl _)
              rw [h3] at hL'
              rw [List.getD, List.getD, List.getElem?_eq_none (l := Y) (by simp only [Y, List.length_map, List.length_range]; exact htl), List.getElem?_eq_none (l := sl') (by omega)]
          rw [← this]; exact hV
        have hVa : V θ1 (.ptr R off) (a1.eval y) := by
          rw [← hpa]
          refine hX y fun t ht => opd_looks (x := co gl y) ?_ ht
          rcases oi with ⟨⟨dd, op, gg⟩, bb⟩
          cases op <;> simp [isStore] at hst <;> simp [IOp.opds, hst]
        have hVx : V θ1 (getO sl' (co gl z)) (a1.eval z) := by
          refine hX z fun t ht => opd_looks (x := co gl z) ?_ ht
          rcases oi with ⟨⟨dd, op, gg⟩, bb⟩
          cases op <;> simp [isStore] at hst <;> simp [IOp.opds, hst]
        have hstore : ∃ w2, (Instr.storeAt t (a1.eval y) (a1.eval z)).run P w1 = .ok () w2 ∧ RowRel (KP P gl) θ1 R w2 r' ∧ w2.heap.size = w1.heap.size ∧ (∀ k, k ≠ LR.b → w2.heap[k]? = w1.heap[k]?) ∧ w2.os = w1.os ∧ w2.tape = w1.tape ∧ w2.output = w1.output := by
          rcases hcase with ⟨e0, e1, e2, rfl⟩ | ⟨l, e0, e1, e2, e3, rfl⟩
          · have hsz : szT P t = some 1 := by
              rcases d4 with ⟨_, d4⟩ | ⟨k, d4, _⟩
              · exact d4
              · rw [e0] at d4; simp at d4
            obtain ⟨o1, o2⟩ := V.oneCell hVx e2
            have hl : VL θ1 [getO sl' (co gl z)] [a1.eval z] := VL.cons hVx (VL.nil θ1)
            have := snd_storeR (P := P) hVa hl (x' := a1.eval z) (by rw [o2]) hsz hθR hJR (by simp; omega) (by simpa using o1)
            rw [splice_one _ _ _ e1] at this
            exact this
          · have hsz : szT P t = some l.length := by
              rcases d4 with ⟨d4, _⟩ | ⟨k, d4, d5⟩
              · rw [e0] at d4; simp at d4
              · rw [e0] at d4; injection d4 with d4; rw [d4]; exact d5
            rw [e1] at hVx
            generalize a1.eval z = z' at hVx ⊢
            cases hVx with
            | agg p q =>
            rename_i l'
            have hl : VL θ1 l l' := ⟨p, q⟩
            exact snd_storeR (P := P) hVa hl (x' := .agg l'.toArray) (by simp [Value.cells]) hsz hθR hJR e2 (ones_of hl e3)
        obtain ⟨w2, s1, s2, s3, s4, s5, s6, s7⟩ := hstore
        have hrun : (execOp a1.eval o).run P w1 = .ok .skip w2 := by
          have : execOp a1.eval o = (do Instr.storeAt t (a1.eval y) (a1.eval z); pure .skip) := by
            obtain ⟨dst, op, ty, pos, aft, gd⟩ := o
            simp only at d1
            subst d1
            rfl
          rw [this, Sem.run_bind, s1]; rfl
        have hod : o.dst = none := c4.symm
        have hstep := step_value (P := P) (b := b) (a := a1) (k := k) (cs := cs) (rest := rest) ho hwr (by rw [d1]; intro c h; cases h) hrun (.inr ⟨rfl, rfl⟩)
        refine ⟨θ1, w2, undef, .one hstep, ?_, by simpa using s2⟩
        have htm : (a1.put o.dst undef).tmps = a1.tmps := by rw [hod]; rfl
        rw [htm]
        -- no row of the operation's own
        have hnew : (EX (j + 1)).length = (EX j).length := by
          have e1 := htr.op j (Nat.zero_le _) hjm
          rw [hL'i] at e1
          simp only [noop_opR, Option.some.injEq, Prod.mk.injEq] at e1
          have e2 := htr.ex j (Nat.zero_le _) hjm
          rw [← e1.2.1] at e2
          have : (((rows.set R Row.dead) ++ maskE (oi.2) (EX j)).drop ((rows.set R Row.dead).length + (EX j).length)) = [] := List.drop_eq_nil_of_le (by simp [maskE])
          rw [this] at e2
          rw [e2]; simp
        have hblk : ∀ id K, id ≠ R → θ1 id = some K → (∃ r, (rows.set R .dead)[id]? = some r ∧ r.live = true) ∨ rows.length ≤ id → K.b ≠ LR.b := fun id K hne hK hcase => by
          rcases hJ.dom id K hK with h | ⟨q1, p, q, s, q2, q3, q4⟩
          · rcases hcase with ⟨r, c1, c2⟩ | h2
            · rw [List.getElem?_set_ne (Ne.symm hne)] at c1
              exact fun e => hr.inj R id _ r LR K (Ne.symm hne) hR rfl c1 c2 hLR h e.symm
            · have := hr.dom id K h; omega
          · omega
        refine ⟨hJ.size, fun t x' hx => ?_, fun p q r e hS' => ?_, ⟨hJ.base.dom, fun id K e => by rw [s3]; exact hJ.base.blk id K e, fun id r e => ?_, hJ.base.inj⟩, hJ.ext, fun id K e => ?_, fun p p' q q' r s K K' hne e hS1 ho1 e' hS2 hl2 hK hK' => ?_, fun id K e => by rw [s3]; exact hJ.blk id K e, s5.trans hJ.os, s6.trans hJ.tape, s7.trans hJ.output, by rw [s3]; exact hJ.wsize, fun b' hb' hx => ?_, hJ.base0⟩
        · have e1 : slotAt sl (rows.set R Row.dead).length L' v (fun j => (rows.set R Row.dead).length + (EX j).length) (fun q => S q || q == j) m t = slotAt sl (rows.set R Row.dead).length L' v (fun j => (rows.set R Row.dead).length + (EX j).length) S m t :=
            slotAt_congr m (fun q hq hd => by
              by_cases e : q = j
              · subst e; rw [hL'i] at hd; simp [noop] at hd
              · have : (q == j) = false := by simpa using e
                simp [this])
          rw [e1]
          exact hJ.slots t x' hx
        · have hq : q ≠ j := by
            rintro rfl
            obtain ⟨o1, o2, o3, _⟩ := Tr.owner htr h2 (i := m) (Nat.le_refl _) e
            omega
          have hSq : S q = true := by
            have : (q == j) = false := by simpa using hq
            simpa [this] using hS'
          refine (hJ.rows_ p q r e hSq).mono (Ext.refl _) (fun K hK => s4 _ ?_)
          refine hblk _ K ?_ (Th.upto_some.1 hK).2 (.inr ?_)
          · simp; omega
          · simp
        · by_cases hl : r.live = true
          · have hid : id ≠ R := by
              rintro rfl
              rw [List.getElem?_set_self (by simpa using hRl)] at e
              injection e with e
              subst e
              simp [Row.live] at hl
            exact (hJ.base.row id r e).mono (Ext.refl _) (fun K hK => s4 _ (hblk id K hid (hJ.ext _ _ hK) (.inl ⟨r, e, hl⟩)))
          · cases r <;> first | (simp [Row.live] at hl; done) | trivial
        · rcases hJ.dom id K e with h | ⟨q1, p, q, r, q2, q3, q4⟩
          · exact .inl h
          · exact .inr ⟨q1, p, q, r, q2, q3, by simp [q4]⟩
        · have hown : ∀ p q r, (EX m)[p]? = some (q, r) → q ≠ j := fun p q r e => by
            rintro rfl
            obtain ⟨o1, o2, o3, _⟩ := Tr.owner htr h2 (i := m) (Nat.le_refl _) e
            omega
          have d1 : S q = true := by have : (q == j) = false := by simpa using hown p q r e
                                     simpa [this] using hS1
          have d2 : S q' = true := by have : (q' == j) = false := by simpa using hown p' q' s e'
                                      simpa [this] using hS2
          exact hJ.inj p p' q q' r s K K' hne e d1 ho1 e' d2 hl2 hK hK'
        · rw [s4 b' hx]
          exact hJ.heap b' hb' hx
      · obtain ⟨θ2, w2, v2, q1, q2, q3, q4⟩ := Inv.step hcall htr h1 h2 hg hJ hjm huj hap' (fun j' hj hjm q hq => by
          rw [hL'2, Lat_bit] at hq
          exact hcl j' hj hjm q hq) (fun q hq => by rw [hL'2, Lat_bit] at hq; exact hbj q hq) ho (by rw [hL'n j hji]; exact hLo1) b rest k cs
        refine ⟨θ2, w2, v2, q1, q2, ?_⟩
        have : (i == j) = false := by simpa using fun h => hji h.symm
        simp only [this, Bool.or_false]
        exact hJR.mono q3 (fun K hK => by
          rw [hθR] at hK; injection hK with hK; subst hK
          exact q4 _ (hJ.blk R LR hθR))) hed hend fuel t listed θ a w hdst0.size (fun j hj => by rw [hdst0.at_]; simpa using hj) ⟨hI, by
        have : listed.getD (c + i) false = false := by rw [hdst0.at_]; simp
        simp only [this, Bool.false_eq_true, if_false]
        exact hr.row R _ hR⟩ (fun j hj => by rw [hdst0.at_]; simp; omega) hdst0.closed hdst0.fuel
  rw [hS i him] at hrow2
  obtain ⟨r1, r2⟩ := hI2.doneW htr h1 h2 hS hr hR rfl hLR hrow2 (by rcases hcase with ⟨_, _, _, rfl⟩ | ⟨_, _, _, _, _, rfl⟩ <;> rfl) low hlow
  rw [h3] at r1
  rw [h4] at r2
  exact ⟨θ', w', a', fuel', t', listed', st, hdef, hst', r1, r2⟩
end
end Go.Abs
