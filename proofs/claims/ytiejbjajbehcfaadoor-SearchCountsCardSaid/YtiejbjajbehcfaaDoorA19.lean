/- The evaluator is sound: what it comes to, the machine comes to. -/
import Derived.Test.YtiejbjajbehcfaaDoorA18
set_option linter.unusedVariables false
set_option linter.unusedSimpArgs false
namespace Go.Abs
section
variable {P : Program} {gl : List Nat}

theorem pairsOk_spec : ∀ (l : List (IOpx × Nat)) (i : Nat), pairsOk l i = true → ∀ (j k : Nat) (p q : IOpx × Nat), k < j → l[k]? = some p → l[j]? = some q → q.2.testBit (i + k) = true ∨ apartI p.1 q.1 = true
  | [], i, _, j, k, p, q, _, h, _ => by simp at h
  | (o, bb) :: r, i, h, j, k, p, q, hjk, hk, hj => by
    simp only [pairsOk, Bool.and_eq_true, List.all_eq_true, Bool.or_eq_true] at h
    cases j with
    | zero => omega
    | succ j =>
      have hj' : r[j]? = some q := by simpa using hj
      cases k with
      | zero =>
        simp at hk
        subst hk
        simpa using h.1 q (List.mem_of_getElem? hj')
      | succ k =>
        have := pairsOk_spec r (i + 1) h.2 j k p q (by omega) (by simpa using hk) hj'
        rw [show i + (k + 1) = i + 1 + k from by omega]
        exact this

theorem isBound_spec {ops : Array Oper} {b : Nat} (h : isBound (Region.before ops).toList b = true) : ∀ j, b ≤ j → j < ops.size → ∀ q, q < b → ((Region.before ops).getD j 0).testBit q = true := by
  intro j hj hjs q hq
  have hbs : (Region.before ops).size = ops.size := by
    have := (before_bit_aux ops.toList #[] 0 0).2
    unfold Region.before
    rw [← Array.foldl_toList]
    simpa using this
  unfold isBound at h
  rw [List.all_eq_true] at h
  have hmem : (Region.before ops).getD j 0 ∈ (Region.before ops).toList.drop b := by
    refine List.mem_iff_getElem?.2 ⟨j - b, ?_⟩
    rw [List.getElem?_drop, show b + (j - b) = j from by omega, Array.getElem?_toList, Array.getD_eq_getD_getElem?, Array.getElem?_eq_getElem (by omega)]
    rfl
  have := h _ hmem
  simp only [beq_iff_eq] at this
  have h2 := congrArg (fun x => Nat.testBit x q) this
  simp only [Nat.testBit_and, Nat.testBit_two_pow_sub_one, hq, decide_true, Bool.and_true] at h2
  exact h2

theorem edgesOk_spec {ops : Array Oper} (h : edgesOk ops = true) : EdgesOK ops := fun j o ho e he hb => by
  have hj : j < ops.size := (Array.getElem?_eq_some_iff.1 ho).1
  simp only [edgesOk, List.all_eq_true, List.mem_range, Array.all_eq_true_iff_forall_mem, Bool.or_eq_true, Bool.not_eq_true', decide_eq_true_eq] at h
  have := h j hj e (by rw [Array.getD_eq_getD_getElem?, ho]; exact he)
  rcases this with h | h
  · rw [hb] at h; simp at h
  · exact h

/-- An operation of a group, as the evaluator knows it. -/
def Lat (P : Program) (gl : List Nat) (ops : Array Oper) (c j : Nat) : IOpx × Nat := ((ops.map (copx P gl ops)).getD (c + j) default, (Region.before ops).getD (c + j) 0 >>> c)
theorem Lat_op {ops : Array Oper} {c j : Nat} {o : Oper} (ho : ops[c + j]? = some o) : (Lat P gl ops c j).1 = copx P gl ops o := by
  simp only [Lat]
  rw [Array.getD_eq_getD_getElem?, Array.getElem?_map, ho]
  rfl
theorem Lat_bit {ops : Array Oper} {c j q : Nat} : (Lat P gl ops c j).2.testBit q = ((Region.before ops).getD (c + j) 0).testBit (c + q) := by
  simp only [Lat, Nat.testBit_shiftRight]
theorem before_size (ops : Array Oper) : (Region.before ops).size = ops.size := by
  have := (before_bit_aux ops.toList #[] 0 0).2
  unfold Region.before
  rw [← Array.foldl_toList]
  simpa using this
theorem lbits_get {ops : Array Oper} {j : Nat} (hj : j < ops.size) : (lbits P gl ops)[j]? = some ((ops.map (copx P gl ops)).getD j default, (Region.before ops).getD j 0) := by
  have hb := before_size ops
  unfold lbits
  rw [List.getElem?_zip_eq_some]
  constructor
  · simp [Array.getD, hj]
  · simp [Array.getD, hj, hb]
theorem lbits_len {ops : Array Oper} : (lbits P gl ops).length = ops.size := by
  have hb := before_size ops
  simp [lbits, hb]
theorem piece_get {ops : Array Oper} {c m p : Nat} (hm : c + m ≤ ops.size) (hp : p < m) : (piece (lbits P gl ops) c (c + m))[p]? = some (Lat P gl ops c p) := by
  unfold piece
  rw [List.getElem?_map, List.getElem?_take_of_lt (by omega), List.getElem?_drop, lbits_get (by omega)]
  rfl
theorem piece_len {ops : Array Oper} {c m : Nat} (hm : c + m ≤ ops.size) : (piece (lbits P gl ops) c (c + m)).length = m := by
  simp [piece, lbits_len]; omega
theorem piece_L {ops : Array Oper} {c m : Nat} (hm : c + m ≤ ops.size) {p : Nat} {q : IOpx × Nat} (h : (piece (lbits P gl ops) c (c + m))[p]? = some q) : Lat P gl ops c p = q := by
  have hp : p < m := by have := (List.getElem?_eq_some_iff.1 h).1; rw [piece_len hm] at this; exact this
  rw [piece_get hm hp] at h
  injection h

theorem Fr.drawn {θ : Th} {rows : List Row} {w : World} (h : HRel (KP P gl) θ rows w) (low n : Nat) : Fr (KP P gl) θ θ rows rows low low w { w with drawn := n } :=
  ⟨Ext.refl _, ⟨h.dom, h.blk, fun id r e => (h.row id r e).mono (Ext.refl _) (fun _ _ => rfl), h.inj⟩, Nat.le_refl _, Nat.le_refl _, rfl, rfl, rfl, Nat.le_refl _, fun _ _ => rfl, fun _ _ _ => rfl, fun id r a b _ => ⟨r, a, b⟩, fun id r a b _ => ⟨r, a, b⟩, fun id L a b => by rw [a] at b; simp at b⟩

theorem grp_sound {call : Nat → List AV → List Row → Option (AV × List Row × Option Nat)} (hcall : CallOK P gl call) {ops : Array Oper} (hed : EdgesOK ops) {c m : Nat} (hm : c + m ≤ ops.size) (hend : ∀ j, c + m ≤ j → j < ops.size → ∀ q, q < c + m → ((Region.before ops).getD j 0).testBit q = true)
    (hpairs : pairsOk (piece (lbits P gl ops) c (c + m)) 0 = true) {rows : List Row} {sl sl' : List AV} {ext : List (Nat × Row)}
    (hev : evalG call rows 0 (piece (lbits P gl ops) c (c + m)) sl [] = some (sl', ext)) {fuel : Nat} {listed : Array Bool} (hst : DrawSt ops c fuel listed) (t : Nat) {θ : Th} {w : World} {a : Act} (hr : HRel (KP P gl) θ rows w) (hg : GRel θ gl) (hs : SRel θ sl a.tmps) (low : Nat) (hlow : low ≤ rows.length) (b : Frame) (k : List Item) (cs : List Frame) :
    ∃ θ' w' a' fuel' t' listed', Steps P (lone (b.atR a (.inRegion ops (Region.linearise.go .any ops fuel t listed []) :: k)) cs w) (lone (b.atR a' (.inRegion ops (Region.linearise.go .any ops fuel' t' listed' []) :: k)) cs w') ∧ a'.defers = a.defers ∧ DrawSt ops (c + m) fuel' listed' ∧ SRel θ' sl' a'.tmps ∧ Fr (KP P gl) θ θ' rows (rows ++ ext.map (·.2)) low low w w' := by
  obtain ⟨SL, EX, v, rw_, h1, h2, h3, h4, htr⟩ := evalG_trace _ 0 sl [] sl' ext (Lat P gl ops c) (fun p q hp => by rw [Nat.zero_add]; exact piece_L hm hp) hev
  rw [piece_len hm, Nat.zero_add] at h3 h4 htr
  have hI := Inv.start (X := fun _ => False) (m := m) (L := Lat P gl ops c) (v := v) (EX := EX) (rows := rows) (sl0 := sl) (w0 := w) h2 hr hs
  have hSf : (fun _ : Nat => false) = fun j => listed.getD (c + j) false := by
    funext j
    rw [hst.at_]; simp
  rw [hSf] at hI
  have hap : ∀ j, j < m → ∀ k, k < j → (Lat P gl ops c j).2.testBit k = true ∨ apartI (Lat P gl ops c k).1 (Lat P gl ops c j).1 = true := fun j hj k hk => by
    have := pairsOk_spec _ 0 hpairs j k _ _ hk (piece_get hm (by omega)) (piece_get hm hj)
    simpa using this
  obtain ⟨θ', w', a', fuel', t', listed', st, hdef, hst', S, hS, hI2⟩ := draw_loop (P := P) (fun S θ' tmps w' => Inv (KP P gl) (fun _ => False) θ rows sl m (Lat P gl ops c) v EX w S θ' tmps w') hm b k cs
    (fun S θ1 a1 w1 i o rest hJ him hui hcl hbits ho => by
      obtain ⟨θ2, w2, v2, q1, q2, _⟩ := Inv.step hcall htr h1 h2 hg hJ him hui hap (fun j hj hjm q hq => by rw [Lat_bit] at hq; exact hcl j hj hjm q hq) (fun q hq => by rw [Lat_bit] at hq; exact hbits q hq) ho (Lat_op ho) b rest k cs
      exact ⟨θ2, w2, v2, q1, q2⟩) hed hend fuel t listed θ a w hst.size (fun j hj => by rw [hst.at_]; simpa using hj) hI (fun j hj => by rw [hst.at_]; simp; omega) hst.closed hst.fuel
  obtain ⟨r1, r2⟩ := hI2.done htr h1 h2 hS low hlow
  rw [h3] at r1
  rw [h4] at r2
  exact ⟨θ', w', a', fuel', t', listed', st, hdef, hst', r1, r2⟩

/-! ### The stack -/
inductive IR (P : Program) (gl : List Nat) : Itm → Item → Prop
  | code (hint : Nat → List Nat) (c : Code) : IR P gl (.code (cc P gl hint c)) (.code c)
  | inBlock (id : Nat) : IR P gl (.inBlock id) (.inBlock id)
  | inLoop (hint : Nat → List Nat) (c : Code) : IR P gl (.inLoop (cc P gl hint c)) (.inLoop c)
  | inScope (hint : Nat → List Nat) (c : Code) : IR P gl (.inScope (cc P gl hint c)) (.inScope c)
  | rfBegin : IR P gl .rfBegin .beginRound
  | ops (ops : Array Oper) (i : Nat) : IR P gl (.ops ((ops.toList.map fun o => Seg.one (copx P gl ops o)).drop i)) (.inRegion ops (List.range' i (ops.size - i)))
  | draws (ops : Array Oper) (c : Nat) (bs : List Nat) (fuel t : Nat) (listed : Array Bool) : EdgesOK ops → chkB (lbits P gl ops) (Region.before ops).toList c bs = true → DrawSt ops c fuel listed → IR P gl (.ops (csegs (lbits P gl ops) c bs)) (.inRegion ops (Region.linearise.go .any ops fuel t listed []))
inductive KR (P : Program) (gl : List Nat) : List Itm → List Item → Prop
  | nil : KR P gl [] []
  | cons {x : Itm} {y : Item} {k : List Itm} {t : List Item} : IR P gl x y → KR P gl k t → KR P gl (x :: k) (y :: t)

theorem popTo_sound (id : Nat) : ∀ {k : List Itm} {t : List Item}, KR P gl k t → ∀ {k' : List Itm}, popTo id k = some k' → ∃ t', exitTo id t = some t' ∧ KR P gl k' t'
  | _, _, .nil, k', h => by simp [popTo] at h
  | _, _, .cons hx hk, k', h => by
    cases hx with
    | inBlock id' =>
      simp only [popTo] at h
      split at h
      · rename_i e
        injection h with h
        subst h
        exact ⟨_, by simp [exitTo, e], hk⟩
      · rename_i e
        obtain ⟨t', h1, h2⟩ := popTo_sound id hk h
        exact ⟨t', by have : (id' == id) = false := by simpa using e
                      simp [exitTo, this, h1], h2⟩
    | _ =>
      simp only [popTo] at h
      obtain ⟨t', h1, h2⟩ := popTo_sound id hk h
      exact ⟨t', h1, h2⟩

theorem popTo_none (id : Nat) : ∀ {k : List Itm} {t : List Item}, KR P gl k t → popTo id k = none → exitTo id t = none
  | _, _, .nil, h => rfl
  | _, _, .cons hx hk, h => by
    cases hx with
    | inBlock id' =>
      simp only [popTo] at h
      split at h
      · simp at h
      · rename_i e
        have : (id' == id) = false := by simpa using e
        simp [exitTo, this, popTo_none id hk h]
    | _ =>
      simp only [popTo] at h
      simp [exitTo, popTo_none id hk h]

theorem SRel.kill {θ : Th} {t : Array Value} : ∀ (l : List Nat) {sl : List AV}, SRel θ sl t → SRel θ (killS sl l) t
  | [], _, h => h
  | d :: ds, sl, h => by
    refine SRel.kill ds ⟨by simp [h.size], fun i x x' hx hx' => ?_⟩
    rw [List.getElem?_set] at hx
    split at hx
    · split at hx
      · injection hx with hx; subst hx; exact .any _
      · simp at hx
    · exact h.at_ i x x' hx hx'

/-! ### The results -/
def getR (tmps : Array Value) : ResultVar → Sem Value
  | .tmp t => pure (tmps.getD t undef)
  | .cell a t => do loadVar t (← asAddr (tmps.getD a undef))
theorem results_eq (func : Func) (tmps : Array Value) : Go.results func tmps = (do let vs ← func.results.mapM (getR tmps); pure (if h : vs.size = 1 then vs[0] else .tuple vs)) := by
  have h : (fun (r : ResultVar) => (match r with | .tmp t => pure (tmps.getD t undef) | .cell a t => do loadVar t (← asAddr (tmps.getD a undef)) : Sem Value)) = getR tmps := by
    funext r; cases r <;> rfl
  rw [← h]
  rfl
theorem resV_sound {θ : Th} {rows : List Row} {w : World} {sl : List AV} {tmps : Array Value} (hr : HRel (KP P gl) θ rows w) (hs : SRel θ sl tmps) : ∀ {rs : List ResultVar} {res : List RV} {vs : List AV}, cres P rs = some res → resVs rows sl res = some vs →
    ∃ vs' : List Value, (rs.mapM (getR tmps)).run P w = .ok vs' w ∧ VL θ vs vs'
  | [], res, vs, h, k => by
    simp only [cres, Option.some.injEq] at h
    subst h
    simp only [resVs, Option.some.injEq] at k
    subst k
    exact ⟨[], by simp, VL.nil θ⟩
  | .tmp t :: rs, res, vs, h, k => by
    simp only [cres, Option.map_eq_some_iff] at h
    obtain ⟨res', h, rfl⟩ := h
    simp only [resVs] at k
    split at k
    · rename_i v vs1 e1 e2
      injection k with k
      subst k
      simp only [resV, Option.some.injEq] at e1
      subst e1
      obtain ⟨vs', r1, r2⟩ := resV_sound hr hs h e2
      exact ⟨_, by rw [List.mapM_cons]; simp only [getR, Sem.run_bind, Sem.run_pure, Result.andThen_ok, r1], VL.cons (hs.get t) r2⟩
    · simp at k
  | .cell c t :: rs, res, vs, h, k => by
    simp only [cres] at h
    split at h
    · rename_i n l hag hn hl
      injection h with h
      subst h
      simp only [resVs] at k
      split at k
      · rename_i v vs1 e1 e2
        injection k with k
        subst k
        obtain ⟨vs', r1, r2⟩ := resV_sound hr hs hl e2
        simp only [resV, evalP, getO] at e1
        split at e1
        · rename_i id off e
          split at e1
          · rename_i xs hrow
            simp only [Option.map_eq_some_iff] at e1
            obtain ⟨l0, hl0, rfl⟩ := e1
            have hV := hs.get c
            rw [e] at hV
            obtain ⟨v', q1, q2⟩ := snd_loadN (P := P) hr hV hag hn rfl hrow hl0
            refine ⟨_, ?_, VL.cons q2 r2⟩
            rw [List.mapM_cons]
            have hq : (getR tmps (.cell c t)).run P w = .ok v' w := by
              have hq2 : ∀ z : Value, V θ (.ptr id off) z → (Instr.loadAt t z).run P w = .ok v' w → (do loadVar t (← asAddr z) : Sem Value).run P w = .ok v' w := fun z hz hz1 => by
                cases hz
                simpa [Instr.loadAt, Instr.sureAddr, asAddr] using hz1
              exact hq2 _ hV q1
            simp only [Sem.run_bind, Result.andThen_ok]
            rw [hq]
            simp only [Result.andThen_ok, r1]
            rfl
          · simp at e1
        · simp at e1
      · simp at k
    · rename_i n l hag hn hl
      injection h with h
      subst h
      simp only [resVs] at k
      split at k
      · rename_i v vs1 e1 e2
        injection k with k
        subst k
        obtain ⟨vs', r1, r2⟩ := resV_sound hr hs hl e2
        simp only [resV, evalP, getO] at e1
        split at e1
        · rename_i id off e
          split at e1
          · rename_i xs hrow
            have hV := hs.get c
            rw [e] at hV
            obtain ⟨v', q1, q2⟩ := snd_load1 (P := P) hr hV hag rfl hrow e1
            refine ⟨_, ?_, VL.cons q2 r2⟩
            rw [List.mapM_cons]
            have hq : (getR tmps (.cell c t)).run P w = .ok v' w := by
              have hq2 : ∀ z : Value, V θ (.ptr id off) z → (Instr.loadAt t z).run P w = .ok v' w → (do loadVar t (← asAddr z) : Sem Value).run P w = .ok v' w := fun z hz hz1 => by
                cases hz
                simpa [Instr.loadAt, Instr.sureAddr, asAddr] using hz1
              exact hq2 _ hV q1
            simp only [Sem.run_bind, Result.andThen_ok]
            rw [hq]
            simp only [Result.andThen_ok, r1]
            rfl
          · simp at e1
        · simp at e1
      · simp at k
    · simp at h

theorem results_sound {θ : Th} {rows : List Row} {w : World} {sl : List AV} {tmps : Array Value} (hr : HRel (KP P gl) θ rows w) (hs : SRel θ sl tmps) {func : Func} {res : List RV} (hres : cres P func.results.toList = some res) {v : AV} (h : Abs.results rows sl res = some v) :
    ∃ v', (Go.results func tmps).run P w = .ok v' w ∧ V θ v v' := by
  unfold Abs.results at h
  have key := fun vs e => resV_sound (P := P) hr hs (vs := vs) hres e
  have run : ∀ vs', (func.results.toList.mapM (getR tmps)).run P w = .ok vs' w → (Go.results func tmps).run P w = .ok (if h : vs'.toArray.size = 1 then vs'.toArray[0] else .tuple vs'.toArray) w := fun vs' h => by
    rw [results_eq, Array.mapM_eq_mapM_toList]
    simp only [Sem.run_bind, Sem.run_map]
    rw [h]
    rfl
  split at h
  · rename_i x e
    injection h with h
    subst h
    obtain ⟨vs', r1, r2⟩ := key _ e
    obtain ⟨x', r', rfl, h1, h2⟩ := r2.of_cons
    have : r' = [] := List.length_eq_zero_iff.1 h2.1.symm
    subst this
    exact ⟨x', by rw [run _ r1]; simp, h1⟩
  · rename_i vs hne e
    injection h with h
    subst h
    obtain ⟨vs', r1, r2⟩ := key _ e
    refine ⟨.tuple vs'.toArray, ?_, .tup r2.1 r2.2⟩
    rw [run _ r1, dif_neg]
    intro h1
    simp at h1
    have hl := r2.1
    rw [h1] at hl
    match vs, hl with
    | [x], _ => exact hne x rfl
  · simp at h
end
end Go.Abs
