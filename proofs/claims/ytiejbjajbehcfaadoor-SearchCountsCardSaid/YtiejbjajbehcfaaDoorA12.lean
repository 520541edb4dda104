/- The soundness of the operations that make or write memory: the theorem. -/
import Derived.Test.YtiejbjajbehcfaaDoorA11
set_option linter.unusedVariables false
set_option linter.unusedSimpArgs false
namespace Go.Abs
variable {κ : KRel}
section ops
variable {P : Program} {gl : List Nat} {θ : Th} {rows : List Row} {w : World} {sl : List AV} {a : Act} {low : Nat}

theorem splice_one (vs : List AV) (off : Nat) (x : AV) (h : off < vs.length) : splice vs off [x] = vs.set off x := by
  unfold splice
  rw [List.set_eq_take_append_cons_drop, if_pos h]
  simp

theorem sameBits_self (k : IntKind) (n : Int) : Instr.sameBits 10000 (.int k n) (.int k n) = true := by simp [Instr.sameBits]

theorem snd_mset (hr : HRel κ θ rows w) {t kt e : TypeId} {ik : IntKind} (hu : P.underlying t = some (.map kt e)) (hk : P.underlying kt = some (.int ik)) {m k x : AV} {m' k' x' : Value} (hm : V θ m m') (hkV : V θ k k') (hx : V θ x x')
    {id : Nat} (em : m = .map id) {es : List (AV × AV)} (hid : rows[id]? = some (.mp es)) {r : Option (Nat × AV)} (hf : findK k es 0 = some r) (hself : r = none → (keyEq k k).isSome = true) :
    ∃ w', (Instr.mapUpdate t m' k' x').run P w = .ok () w' ∧ Fr κ θ θ rows (rows.set id (.mp (match r with | some (i, _) => es.set i (k, x) | none => es ++ [(k, x)]))) low (lower low id) w w' := by
  subst em
  cases hm with
  | map hL =>
  rename_i L
  obtain ⟨L', es', clock, hL', hb, hsz, hes⟩ := hr.row id _ hid
  rw [hL] at hL'; injection hL' with hL'; subst hL'
  have key := findK_sound (θ := θ) (kt := .int ik) rfl hkV es es'.toList 0 r (by simpa using hsz) (fun j e h => by simpa using hes j e h) hf
  have hchk : (Instr.checkKey false 10000 kt k').run P w = .ok () w := by
    have : ∀ d, (Instr.checkKey false (d + 1) kt k').run P w = .ok () w := fun d => by simp [Instr.checkKey, run_underlying hk]
    exact this 9999
  have hlt : L.b < w.heap.size := hr.blk id L hL
  have fr : ∀ (es2 : Array MapEntry) (cl2 : Nat) (l2 : List (AV × AV)), es2.size = l2.length → (∀ (i : Nat) (e : AV × AV), l2[i]? = some e → ∃ e', es2[i]? = some e' ∧ V θ e.1 e'.key ∧ V θ e.2 e'.val) →
      Fr κ θ θ rows (rows.set id (.mp l2)) low (lower low id) w { w with heap := w.heap.setIfInBounds L.b (.map es2 cl2) } := fun es2 cl2 l2 h1 h2 =>
    Fr.setrow (w' := { w with heap := w.heap.setIfInBounds L.b (.map es2 cl2) }) hr low hid rfl hL (by simp) (fun k hk => by simp only; rw [Array.getElem?_setIfInBounds, if_neg (fun h => hk h.symm)]) rfl rfl rfl (.mp l2)
      ⟨L, es2, cl2, hL, by simp [Array.getElem?_setIfInBounds, hlt], h1, h2⟩ rfl
  cases r with
  | some p =>
    obtain ⟨j, v1⟩ := p
    obtain ⟨v', f1, f2, _, f3, ⟨ik2, n, hk2⟩, e', f4, f5⟩ := key
    simp only [Nat.sub_zero] at f4
    have f4' : es'[j]? = some e' := by simpa using f4
    refine ⟨_, ?_, fr (es'.modify j fun e => { e with key := k', val := x' }) clock (es.set j (k, x)) (by simp [hsz]) ?_⟩
    · subst hk2
      simp [Instr.mapUpdate, run_underlying hu, getObj, setObj, Sem.run, hb, hchk, Instr.findKey, run_underlying hk, f1, f4', f5, Instr.keyThatStays, sameBits_self]
    · intro i e he
      rw [List.getElem?_set] at he
      rw [Array.getElem?_modify]
      split at he
      · rename_i q
        subst q
        split at he
        · injection he with he
          subst he
          exact ⟨_, by simp [f4']; rfl, hkV, hx⟩
        · simp at he
      · rename_i q
        obtain ⟨e2, g1, g2, g3⟩ := hes i e he
        exact ⟨e2, by simp [q, g1], g2, g3⟩
  | none =>
    obtain ⟨b, hb2⟩ := Option.isSome_iff_exists.1 (hself rfl)
    refine ⟨_, ?_, fr (es'.push { key := k', val := x', born := clock }) (clock + 1) (es ++ [(k, x)]) (by simp [hsz]) ?_⟩
    · simp only [] at key
      simp [Instr.mapUpdate, run_underlying hu, getObj, setObj, Sem.run, hb, hchk, Instr.findKey, run_underlying hk, key]
    · intro i e he
      rw [getElem?_snoc] at he
      rw [Array.getElem?_push, hsz]
      split at he
      · rename_i q
        injection he with he
        subst he
        exact ⟨_, by simp [q]; rfl, hkV, hx⟩
      · rename_i q
        obtain ⟨e2, g1, g2, g3⟩ := hes i e he
        exact ⟨e2, by rw [if_neg q]; exact g1, g2, g3⟩

theorem eff_value {s : Sem Value} {o : Oper} (he : execOp a.eval o = (do pure (Next.value (← s)))) {θ' : Th} {w' : World} {v' : Value} {v : AV} {rows' : List Row} {low' : Nat} (h : s.run P w = .ok v' w') (hv : V θ' v v') (hf : Fr κ θ θ' rows rows' low low' w w') : Eff κ P θ rows low w a o v rows' low' :=
  ⟨θ', w', .value v', v', by rw [he, Sem.run_bind, h]; rfl, .inl rfl, hv, hf⟩
theorem eff_unit {s : Sem Unit} {o : Oper} (he : execOp a.eval o = (do s; pure Next.skip)) {w' : World} {rows' : List Row} {low' : Nat} (h : s.run P w = .ok () w') (hf : Fr κ θ θ rows rows' low low' w w') : Eff κ P θ rows low w a o (.tup []) rows' low' :=
  ⟨θ, w', .skip, undef, by rw [he, Sem.run_bind, h]; rfl, .inr ⟨rfl, rfl⟩, V_undef θ, hf⟩

theorem evalE_sound {o : Oper} {io : IOp} (hc : cop P gl o = some io) (hne : ∀ f args, io ≠ .call f args) {v : AV} {rows' : List Row} {low' : Nat} (he : evalE (getO sl) rows low io = some (v, rows', low')) (hr : HRel κ θ rows w) (hg : GRel θ gl) (hs : SRel θ sl a.tmps)
    (hlow : low ≤ rows.length) : Eff κ P θ rows low w a o v rows' low' := by
  have pure_case : evalE (getO sl) rows low io = (evalP rows (getO sl) io).map (fun v => (v, rows, low)) → Eff κ P θ rows low w a o v rows' low' := by
    intro h
    rw [h] at he
    simp only [Option.map_eq_some_iff, Prod.mk.injEq] at he
    obtain ⟨v0, h0, rfl, rfl, rfl⟩ := he
    obtain ⟨v', h1, h2⟩ := evalP_sound hc h0 hr hg hs
    exact ⟨θ, w, _, v', h1, .inl rfl, h2, Fr.refl hr low⟩
  obtain ⟨dst, op, ty, pos, aft, gd⟩ := o
  cases op <;> simp only [cop, reduceCtorEq] at hc
  case alloc t =>
    simp only [Option.map_eq_some_iff] at hc
    obtain ⟨z, hz, rfl⟩ := hc
    simp only [evalE] at he
    split at he
    case isFalse => simp at he
    rename_i h1
    simp only [Option.some.injEq, Prod.mk.injEq] at he
    obtain ⟨rfl, rfl, rfl⟩ := he
    obtain ⟨i, z', hi, hzz, rfl⟩ := zeroT_info hz
    simp only [getO] at h1
    obtain ⟨θ', w', r1, r2, r3⟩ := snd_box (P := P) hr hlow (cv_V θ z') h1 t
    refine eff_value (s := Instr.alloc t true (.tuple #[])) rfl ?_ r2 r3
    simpa [Instr.alloc, Instr.box, zeroValue, typeInfo, hi, hzz] using r1
  case box t x =>
    injection hc with hc; subst hc
    simp only [evalE] at he
    split at he
    case isFalse => simp at he
    rename_i h1
    simp only [Option.some.injEq, Prod.mk.injEq] at he
    obtain ⟨rfl, rfl, rfl⟩ := he
    obtain ⟨θ', w', r1, r2, r3⟩ := snd_box (P := P) hr hlow (opd_V hg hs x) h1 t
    exact eff_value (s := Instr.box t (a.eval x)) rfl r1 r2 r3
  case buildSlice t len ps =>
    split at hc
    · rename_i e hu
      split at hc
      · rename_i n z hn hz
        split at hc
        · rename_i hcond
          obtain ⟨c1, c2, c3, c4⟩ := hcond
          injection hc with hc; subst hc
          simp only [evalE] at he
          split at he
          case h_2 => simp at he
          rename_i cs hcs
          simp only [Option.some.injEq, Prod.mk.injEq] at he
          obtain ⟨rfl, rfl, rfl⟩ := he
          obtain ⟨i, z', hi, hzz, rfl⟩ := zeroT_info hz
          have hzV := cv_cells (θ := θ) z' c4
          have hzl : z'.cells.size = n := by have := hzV.1; simp at this; omega
          have hz0 := zeros_V hzV len (by omega)
          obtain ⟨cs', f1, f2⟩ := fillA_sound hg hs _ _ ps.toList _ cs _ (PL_eplaces (gl := gl) n ps.toList) hcs hz0
          have hone : ∀ u ∈ cs'.toList, u.oneCell' = true := by
            have hall : cs.all AV.one = true := by
              have gen : ∀ (l : List (Nat × Nat × Opd)) (z0 c0 : List AV), z0.all AV.one = true → fillA (getO sl) l z0 = some c0 → c0.all AV.one = true := by
                intro l
                induction l with
                | nil => intro z0 c0 h0 h1; simp only [fillA, Option.some.injEq] at h1; subst h1; exact h0
                | cons p l ih =>
                  intro z0 c0 h0 h1
                  obtain ⟨off, size, x⟩ := p
                  simp only [fillA] at h1
                  split at h1
                  · rename_i hq
                    refine ih _ _ ?_ h1
                    unfold splice
                    simp only [List.all_append, Bool.and_eq_true]
                    refine ⟨⟨?_, hq.2.2⟩, ?_⟩
                    · exact List.all_eq_true.2 fun x hx => List.all_eq_true.1 h0 x (List.mem_of_mem_take hx)
                    · exact List.all_eq_true.2 fun x hx => List.all_eq_true.1 h0 x (List.mem_of_mem_drop hx)
                  · simp at h1
              refine gen _ _ _ ?_ hcs
              refine List.all_eq_true.2 fun x hx => ?_
              obtain ⟨l, hl, hx⟩ := List.mem_flatten.1 hx
              rw [(List.mem_replicate.1 hl).2] at hx
              exact List.all_eq_true.1 c4 x hx
            exact ones_of f2 hall
          refine eff_value (θ' := θ.add rows.length ⟨w.heap.size, 0, cs'.size⟩) (w' := { w with heap := w.heap.push (.cells cs' e) }) (s := Instr.buildSlice t len (ps.map fun (i, x) => (i, a.eval x))) rfl (v' := .slice (some ⟨w.heap.size, 0, none⟩) len len) ?_ ?_ (eff_alloc hr hlow f2 hone e)
          · have hsz : ¬ (16777216 < len * n) := by omega
            rw [c2] at f1
            by_cases h0 : len * n = 0
            · have hl0 : len = 0 := by
                rcases Nat.mul_eq_zero.1 h0 with h | h
                · exact h
                · omega
              subst hl0
              have hr0 : Array.range 0 = #[] := rfl
              simp [hr0] at f1
              simp [Instr.buildSlice, run_underlying hu, run_szT hn, newRow, newObj, Sem.run, hr0, f1]
            · simp at f1
              simp [Instr.buildSlice, run_underlying hu, run_szT hn, hsz, h0, zeroValue, typeInfo, hi, hzz, newRow, newObj, Sem.run, f1]
          · have := V.sliceAt (id := rows.length) (off := 0) (len := len) (c := len) (o := 0) (Th.add_self θ rows.length ⟨w.heap.size, 0, cs'.size⟩) (fun _ => rfl) (Nat.le_refl _)
            simpa using this
        · simp at hc
      · simp at hc
    · simp at hc
  case store t x y =>
    split at hc
    · rename_i n hag hn
      injection hc with hc; subst hc
      simp only [evalE] at he
      split at he
      case h_2 => simp at he
      rename_i id off l ex ey
      split at he
      case h_2 => simp at he
      rename_i vs hid
      split at he
      case isFalse => simp at he
      rename_i hcond
      obtain ⟨c1, c2, c3⟩ := hcond
      simp only [Option.some.injEq, Prod.mk.injEq] at he
      obtain ⟨rfl, rfl, rfl⟩ := he
      have hx := opd_V hg hs x
      have hy := opd_V hg hs y
      rw [ey] at hy
      generalize hq : a.eval y = y' at *
      cases hy with
      | agg p q =>
      rename_i l'
      have hl : VL θ l l' := ⟨p, q⟩
      obtain ⟨w', r1, r2⟩ := snd_storeN (P := P) (low := low) hr hx ex hl (x' := .agg l'.toArray) (by simp [Value.cells]) (by rw [c1]; exact hn) hid (by omega) (ones_of hl c3)
      exact eff_unit (s := Instr.storeAt t (a.eval x) (a.eval y)) rfl (by rw [hq]; exact r1) r2
    · rename_i n hag hn
      split at hc
      · rename_i hn1
        subst hn1
        injection hc with hc; subst hc
        simp only [evalE] at he
        split at he
        case h_2 => simp at he
        rename_i id off ex
        split at he
        case h_2 => simp at he
        rename_i vs hid
        split at he
        case isFalse => simp at he
        rename_i hcond
        obtain ⟨c1, c2⟩ := hcond
        simp only [Option.some.injEq, Prod.mk.injEq] at he
        obtain ⟨rfl, rfl, rfl⟩ := he
        have hx := opd_V hg hs x
        have hy := opd_V hg hs y
        obtain ⟨o1, o2⟩ := V.oneCell hy c2
        have hl : VL θ [getO sl (co gl y)] [a.eval y] := VL.cons hy (VL.nil θ)
        obtain ⟨w', r1, r2⟩ := snd_storeN (P := P) (low := low) hr hx ex hl (by rw [o2]) hn hid (by simp; omega) (by simpa using o1)
        rw [splice_one _ _ _ c1] at r2
        exact eff_unit (s := Instr.storeAt t (a.eval x) (a.eval y)) rfl r1 r2
      · simp at hc
    · simp at hc
  case makeMap t r =>
    cases r with
    | some r => simp at hc
    | none =>
      injection hc with hc; subst hc
      simp only [evalE, Option.some.injEq, Prod.mk.injEq] at he
      obtain ⟨rfl, rfl, rfl⟩ := he
      have hf := Fr.push (w' := { w with heap := w.heap.push (.map #[] 0) }) hr low hlow (.map #[] 0) rfl rfl rfl rfl 0 0 (.mp []) ⟨_, #[], 0, Th.add_self _ _ _, by simp, rfl, fun i e h => by simp at h⟩ rfl
      refine eff_value (s := Instr.makeMap t none) rfl (v' := .map (some w.heap.size)) ?_ ?_ hf
      · simp [Instr.makeMap, newObj, Sem.run]
      · exact V.map (Th.add_self θ rows.length ⟨w.heap.size, 0, 0⟩)
  case makeSlice t l c =>
    split at hc
    · rename_i e hu
      split at hc
      · rename_i n z b hn hz hb
        split at hc
        · rename_i hcond
          obtain ⟨c1, c2, c3, c4⟩ := hcond
          injection hc with hc; subst hc
          simp only [evalE] at he
          split at he
          case h_2 => simp at he
          rename_i k1 m1 k2 m2 e1 e2
          split at he
          case isFalse => simp at he
          rename_i hcc
          obtain ⟨d1, d2, d3⟩ := hcc
          simp only [Option.some.injEq, Prod.mk.injEq] at he
          obtain ⟨rfl, rfl, rfl⟩ := he
          have hl := opd_V hg hs l
          have hcV := opd_V hg hs c
          rw [e1] at hl; rw [e2] at hcV
          obtain ⟨i, z', hi, hzz, rfl⟩ := zeroT_info hz
          have hzV := cv_cells (θ := θ) z' c3
          have hz0 := zeros_V hzV m2.toNat (by omega)
          have hsz : i.size = n := by obtain ⟨j, hj, hjs⟩ := szT_info hn; rw [hi] at hj; injection hj with hj; rw [hj]; exact hjs
          have hby : i.bytes = b := by
            unfold bytesT at hb
            simp [hi] at hb
            exact hb
          have hall : ((List.replicate m2.toNat (cv z').cells).flatten).all AV.one = true := by
            refine List.all_eq_true.2 fun x hx => ?_
            obtain ⟨l, hl, hx⟩ := List.mem_flatten.1 hx
            rw [(List.mem_replicate.1 hl).2] at hx
            exact List.all_eq_true.1 c3 x hx
          refine eff_value (s := Instr.makeSlice t (a.eval l) (a.eval c)) rfl (v' := .slice (some ⟨w.heap.size, 0, none⟩) m1.toNat m2.toNat) ?_ ?_ (eff_alloc hr hlow hz0 (ones_of hz0 hall) e)
          · generalize hq1 : a.eval l = l' at *
            generalize hq2 : a.eval c = c' at *
            cases hl; cases hcV
            have hm2 : m2 ≤ 1073741824 := by unfold lim at d3; omega
            have w1 : IntKind.i64.wrap m1 = m1 := by simp [IntKind.wrap, IntKind.min, IntKind.max, IntKind.signed, IntKind.bits]; omega
            have w2 : IntKind.i64.wrap m2 = m2 := by simp [IntKind.wrap, IntKind.min, IntKind.max, IntKind.signed, IntKind.bits]; omega
            have hb2 : (i.bytes : Int) * m2 ≤ 281474976710656 := by
              have h1 : (i.bytes : Int) * m2 ≤ 1024 * m2 := Int.mul_le_mul_of_nonneg_right (by omega) (by omega)
              omega
            have hb1 : (i.bytes : Int) * m1 ≤ 281474976710656 := by
              have h1 : (i.bytes : Int) * m1 ≤ 1024 * m1 := Int.mul_le_mul_of_nonneg_right (by omega) (by omega)
              omega
            have hroom : ¬ (roomBytes < m2.toNat * i.bytes) := by
              have : m2.toNat * i.bytes ≤ 1073741824 * 1024 := Nat.mul_le_mul (by omega) (by omega)
              unfold roomBytes
              omega
            have hn1 : i.size = 1 := by omega
            by_cases hm0 : m2.toNat = 0
            · have e0 : m2 = 0 := by omega
              subst e0
              have e0 : m1 = 0 := by omega
              subst e0
              simp [Instr.makeSlice, run_underlying hu, asInt, asIntOf, typeInfo, hi, w1, askRoom, roomBytes, sizeOf, newRow, newObj, Sem.run, show Array.range 0 = #[] from rfl]
            · have hz1 : z'.cells.size = 1 := by have := hzV.1; simp at this; omega
              simp [Instr.makeSlice, run_underlying hu, asInt, asIntOf, typeInfo, hi, w1, w2, d1, d2, hb1, hb2, askRoom, hroom, sizeOf, hn1, hm0, zeroValue, hzz, newRow, newObj, Sem.run, c1, c2]
              omega
          · have := V.sliceAt (id := rows.length) (off := 0) (len := m1.toNat) (c := m2.toNat) (o := 0) (Th.add_self θ rows.length ⟨w.heap.size, 0, ((Array.range (m2.toNat * (cv z').cells.length)).map (z'.cells[· % z'.cells.size]!)).size⟩) (fun _ => rfl) (by omega)
            simpa using this
        · simp at hc
      · simp at hc
    · simp at hc
  case mapUpdate t m k x =>
    split at hc
    · rename_i kt e hu
      split at hc
      · rename_i ik hk
        injection hc with hc; subst hc
        simp only [evalE] at he
        split at he
        case h_2 => simp at he
        rename_i id em
        split at he
        case h_2 => simp at he
        rename_i es hid
        have hm := opd_V hg hs m
        have hkV := opd_V hg hs k
        have hx := opd_V hg hs x
        split at he
        · rename_i i v1 hf
          simp only [Option.some.injEq, Prod.mk.injEq] at he
          obtain ⟨rfl, rfl, rfl⟩ := he
          obtain ⟨w', r1, r2⟩ := snd_mset (P := P) (low := low) hr hu hk hm hkV hx em hid hf (fun h => by simp at h)
          exact eff_unit (s := Instr.mapUpdate t (a.eval m) (a.eval k) (a.eval x)) rfl r1 r2
        · rename_i hf
          split at he
          case isFalse => simp at he
          rename_i hself
          simp only [Option.some.injEq, Prod.mk.injEq] at he
          obtain ⟨rfl, rfl, rfl⟩ := he
          obtain ⟨w', r1, r2⟩ := snd_mset (P := P) (low := low) hr hu hk hm hkV hx em hid hf (fun _ => hself)
          exact eff_unit (s := Instr.mapUpdate t (a.eval m) (a.eval k) (a.eval x)) rfl r1 r2
        · simp at he
      · simp at hc
    · simp at hc
  case call c =>
    obtain ⟨callee, args, ats⟩ := c
    cases callee with
    | value f => simp only [Option.some.injEq] at hc; subst hc; exact absurd rfl (hne _ _)
    | invoke r m => simp at hc
    | builtin b =>
      cases b <;> simp only [reduceCtorEq] at hc
      case append =>
        split at hc
        · rename_i t u s x ht hu0 hs0 hx0
          split at hc
          · rename_i e e2 hu hu2
            split at hc
            · simp at hc
            rename_i htu
            have htu : t = u := by simpa using htu
            subst htu
            split at hc
            · rename_i n b z hn hb hz
              split at hc
              · rename_i hcond
                obtain ⟨c1, c2, c3, c4⟩ := hcond
                injection hc with hc; subst hc
                obtain ⟨i, z', hi, hzz, rfl⟩ := zeroT_info hz
                have hsz : i.size = n := by obtain ⟨j, hj, hjs⟩ := szT_info hn; rw [hi] at hj; injection hj with hj; rw [hj]; exact hjs
                have hby : i.bytes = b := by
                  unfold bytesT at hb
                  simp [hi] at hb
                  exact hb
                have hzV := cv_cells (θ := θ) z' c4
                have hzs : z'.cells.size = i.size := by have := hzV.1; simp at this; omega
                subst hsz
                obtain ⟨θ', w', v', r1, r2, r3⟩ := snd_app (P := P) (ty := ty) hr hlow hu hi hzz hzs c2 (by omega) (opd_V hg hs s) (opd_V hg hs x) he
                refine eff_value (s := Builtin.append_ ats ty (args.map a.eval)) (by simp [execOp, resolve, invoke, builtin]) ?_ r2 r3
                have e1 : (args.map a.eval)[0]? = some (a.eval s) := by simp [hs0]
                have e2 : (args.map a.eval)[1]? = some (a.eval x) := by simp [hx0]
                rw [← r1]
                unfold Builtin.append_
                rw [ht, hu0, e1, e2]
                rfl
              · simp at hc
            · simp at hc
          · rename_i e k2 hu hu2
            split at hc
            · rename_i n b z hn hb hz
              split at hc
              · rename_i hcond
                obtain ⟨c1, c2, c3, c4⟩ := hcond
                injection hc with hc; subst hc
                obtain ⟨i, z', hi, hzz, rfl⟩ := zeroT_info hz
                have hsz : i.size = n := by obtain ⟨j, hj, hjs⟩ := szT_info hn; rw [hi] at hj; injection hj with hj; rw [hj]; exact hjs
                have hby : i.bytes = b := by
                  unfold bytesT at hb
                  simp [hi] at hb
                  exact hb
                obtain ⟨θ', w', v', r1, r2, r3⟩ := snd_appz (P := P) (ty := ty) hr hlow hu hu2 hi hzz c3 c4 (by omega) (by omega) (opd_V hg hs s) (opd_V hg hs x) he
                refine eff_value (s := Builtin.append_ ats ty (args.map a.eval)) (by simp [execOp, resolve, invoke, builtin]) ?_ r2 r3
                have e1 : (args.map a.eval)[0]? = some (a.eval s) := by simp [hs0]
                have e2 : (args.map a.eval)[1]? = some (a.eval x) := by simp [hx0]
                rw [← r1]
                unfold Builtin.append_
                rw [ht, hu0, e1, e2]
                rfl
              · simp at hc
            · simp at hc
          · simp at hc
        · simp at hc
      all_goals
        refine pure_case ?_
        repeat' split at hc
        all_goals first
          | (simp at hc; done)
          | (injection hc with hc; subst hc; rfl)
          | (simp only [Option.map_eq_some_iff] at hc; obtain ⟨_, _, rfl⟩ := hc; rfl)
  case makeFunc fn fi cs =>
    cases fn <;> simp only [reduceCtorEq] at hc
    split at hc
    · injection hc with hc; subst hc; exact pure_case rfl
    · simp at hc
  all_goals
    refine pure_case ?_
    repeat' split at hc
    all_goals first
      | (simp at hc; done)
      | (injection hc with hc; subst hc; rfl)
      | (simp only [Option.map_eq_some_iff] at hc; obtain ⟨_, _, rfl⟩ := hc; rfl)
end ops
end Go.Abs
