/- The evaluator is sound: the theorem. -/
import Derived.Test.YtiejbjajbehcfaaDoorA20
set_option linter.unusedVariables false
set_option linter.unusedSimpArgs false
namespace Go.Abs
section
variable {P : Program} {gl : List Nat} {F : Nat → Option IFn}

/-- The functions are those of the program. -/
def FnOK (P : Program) (gl : List Nat) (F : Nat → Option IFn) : Prop :=
  ∀ (f : Nat) (fn : IFn), F f = some fn → ∃ func hint, P.funcs[f]? = some func ∧ cfn P gl hint func = some fn ∧ (func.name == "runtime.NumGoroutine") = false

/-- The call, as the evaluator makes it with so many rounds left. -/
abbrev callN (F : Nat → Option IFn) (n : Nat) : CallF := callBy F (exec F n)

/-- What the theorem says of so many rounds. -/
def Sim (P : Program) (gl : List Nat) (F : Nat → Option IFn) (n : Nat) : Prop :=
  ∀ (cx : Ctx) (k : List Itm) (s : St) (r : AV × List Row × Nat), exec F n cx k s = some r → ∀ (θ : Th) (w : World) (a : Act) (b : Frame) (todo : List Item) (cs : List Frame) (θ0 : Th) (rows0 : List Row) (low0 : Nat) (w0 : World),
    HRel (KP P gl) θ s.rows w → GRel θ gl → SRel θ s.sl a.tmps → s.low ≤ s.rows.length → KR P gl k todo → CxOK P θ b cx → b.kind = .normal → DefsOK cx w0.heap.size θ w a.defers → HRel (KP P gl) θ0 rows0 w0 → Fr (KP P gl) θ0 θ rows0 s.rows low0 s.low w0 w →
    ∃ θ' w' v', Ends P cx b (lone (b.atR a todo) cs w) cs w' v' ∧ V θ' r.1 v' ∧ Fr (KP P gl) θ0 θ' rows0 r.2.1 low0 r.2.2 w0 w'

theorem init_SRel {θ : Th} {vs : List AV} {args : Array Value} (h : VL θ vs args.toList) {fn : IFn} {ntmps : Nat} (hn : fn.ns = ntmps) (rows : List Row) :
    SRel θ (init fn vs rows).sl (args ++ Array.replicate (ntmps - args.size) undef) := by
  have hl : vs.length = args.size := by have := h.1; simpa using this
  refine ⟨by simp [init, hl, hn], fun i x x' hx hx' => ?_⟩
  simp only [init] at hx
  by_cases hi : i < vs.length
  · rw [List.getElem?_append_left hi] at hx
    rw [Array.getElem?_append_left (by omega)] at hx'
    exact h.2 i x x' hx (by simpa using hx')
  · rw [List.getElem?_append_right (by omega)] at hx
    rw [List.getElem?_replicate] at hx
    split at hx
    · injection hx with hx; subst hx; exact .any _
    · simp at hx

theorem call_sim (hF : FnOK P gl F) {n : Nat} (h : Sim P gl F n) (f : Nat) (vs : List AV) (rows : List Row) (v : AV) (rows' : List Row) (d : Option Nat) (hc : callN F n f vs rows = some (v, rows', d)) (θ : Th) (w : World) (args : Array Value) (cs : List Frame) (low : Nat)
    (hr : HRel (KP P gl) θ rows w) (hg : GRel θ gl) (hv : VL θ vs args.toList) (hlow : low ≤ rows.length) :
    (∃ func, P.funcs[f]? = some func ∧ func.body.isNone = false ∧ (func.name == "runtime.NumGoroutine") = false) ∧
    ∃ θ' w' fr v', Steps P (lone (Frame.enter P f args .normal) cs w) (lone fr cs w') ∧ (fr.fn = f ∧ fr.leaving P w' (.returned v')) ∧ V θ' v v' ∧ Fr (KP P gl) θ θ' rows rows' low (lowO low d) w w' := by
  unfold callN callBy at hc
  split at hc
  case h_2 => simp at hc
  rename_i fn hfn
  obtain ⟨func, hint, h1, h2, h3⟩ := hF f fn hfn
  unfold cfn at h2
  split at h2
  case h_2 => simp at h2
  rename_i c res hb hres
  injection h2 with h2
  subst h2
  refine ⟨⟨func, h1, by rw [hb]; rfl, h3⟩, ?_⟩
  unfold callR at hc
  split at hc
  case h_2 => simp at hc
  rename_i v0 rows0 low0 hex
  injection hc with hc
  let b : Frame := { fn := f, tmps := #[], todo := [], defers := [], mode := .run, kind := .normal }
  have henter : Frame.enter P f args .normal = b.atR { tmps := args ++ Array.replicate (func.ntmps - args.size) undef, defers := [] } [.code c] := by
    simp [Frame.enter, Frame.atR, h1, hb, b]
  obtain ⟨θ', w', v', ⟨fr, s1, s2⟩, s3, s4⟩ := h (.fn res) _ _ _ hex θ w { tmps := args ++ Array.replicate (func.ntmps - args.size) undef, defers := [] } b [.code c] cs θ rows rows.length w hr hg (init_SRel hv rfl rows) (Nat.le_refl _) (.cons (.code hint c) .nil) ⟨rfl, func, h1, hres⟩ rfl (Marks.nil _ _ _) hr (Fr.refl hr _)
  obtain ⟨θ2, f1, f2⟩ := fin_sound hr hlow s4 s3
  simp only at f1 f2
  rw [hc] at f1 f2
  exact ⟨θ2, w', fr, v', by rw [henter]; exact s1, s2, f1, f2⟩

theorem callOK_of_sim (hF : FnOK P gl F) {n : Nat} (h : Sim P gl F n) : CallOK P gl (callN F n) := by
  intro f vs rows v rows' d hc θ w args cs low hr hg hv hlow
  obtain ⟨p, θ', w', fr, v', s1, s2, s3⟩ := call_sim hF h f vs rows v rows' d hc θ w args cs low hr hg hv hlow
  exact ⟨p, θ', w', fr, v', s1, s2.2, s3⟩

theorem sim (hF : FnOK P gl F) : ∀ n, Sim P gl F n := by
  intro n
  induction n with
  | zero => intro cx k s r h; simp [exec] at h
  | succ n ih =>
    have hcall := callOK_of_sim hF ih
    intro cx k s r h θ w a b todo cs θ0 rows0 low0 w0 hr hg hs hlow hk hcx hkd hD hr0 hF0
    -- the frame is left
    have leaveFn : ∀ (res : List RV) (j : Option Jump) (todo' : List Item), cx = .fn res → leaveV cx j s = some r → Steps P (lone (b.atR a todo) cs w) (lone { b.atR a todo' with mode := .returning } cs w) →
        ∃ θ' w' v', Ends P cx b (lone (b.atR a todo) cs w) cs w' v' ∧ V θ' r.1 v' ∧ Fr (KP P gl) θ0 θ' rows0 r.2.1 low0 r.2.2 w0 w' := by
      intro res j todo' hcx' hl st
      subst hcx'
      have hl2 : (results s.rows s.sl res).map (fun v => (v, s.rows, s.low)) = some r := by
        unfold leaveV at hl
        simp only at hl
        split at hl
        · simp at hl
        · exact hl
      simp only [Option.map_eq_some_iff] at hl2
      obtain ⟨v, hv, rfl⟩ := hl2
      obtain ⟨hb, func, hfu, hres⟩ := hcx
      obtain ⟨w', s1, s2⟩ := unwind_marks (P := P) cs a.defers w { b.atR a todo' with mode := .returning } rfl rfl hD hF0
      obtain ⟨v', q1, q2⟩ := results_sound (P := P) s2.rel hs hres hv
      exact ⟨θ, w', v', ⟨_, st.trans s1, rfl, rfl, rfl, hkd, func, hfu, q1⟩, q2, s2⟩
    have leaveRound : ∀ (id : Nat) (j : Option Jump), cx = .round id → leaveV cx j s = some r → (∀ (L : Nat) (w' : World) (v : Value) (c : Frame) (cs' : List Frame), b.roundOf = some L → (Instr.endRound L (j.map Jump.code)).run P w = .ok v w' → step P (lone (b.atR a todo) (c :: cs') w) = .next (lone (c.finish v) cs' w')) →
        ∃ θ' w' v', Ends P cx b (lone (b.atR a todo) cs w) cs w' v' ∧ V θ' r.1 v' ∧ Fr (KP P gl) θ0 θ' rows0 r.2.1 low0 r.2.2 w0 w' := by
      intro id j hcx' hl st
      subst hcx'
      obtain ⟨L, hL, hb⟩ := hcx
      simp only [leaveV] at hl
      split at hl
      case h_2 => simp at hl
      rename_i pend sl ps asg body e
      injection hl with hl
      subst hl
      obtain ⟨q, q1, q2, q3, q4, q5, q6, q7⟩ := rows_under hr e hL
      have hrun := run_endRound (P := P) (j.map Jump.code) q1
      have hlt : L.b < w.heap.size := hr.blk id L hL
      have hjn : (j.map Jump.code).isNone = j.isNone := by cases j <;> rfl
      rw [hjn] at hrun
      refine ⟨θ, _, .bool j.isNone, fun c cs' e => ?_, .bool _, hF0.trans hr0 (Fr.setrow (w' := w.putObj L.b (.loop { q with state := if j.isNone then .ready else .done, pending := j.map Jump.code })) hr s.low e rfl hL World.putObj_size (fun k hk => World.putObj_heap_other hk) rfl rfl rfl _ ?_ rfl)⟩
      · subst e
        exact .one (st L.b _ _ c cs' hb hrun)
      · exact ⟨L, _, hL, World.putObj_heap_same hlt, rfl, rfl, q4, q5, q6, q7⟩
    -- one step of the machine that leaves all but the stack
    have go : ∀ (k' : List Itm) (todo' : List Item) (s' : St), s'.rows = s.rows → s'.low = s.low → SRel θ s'.sl a.tmps → exec F n cx k' s' = some r → KR P gl k' todo' → Steps P (lone (b.atR a todo) cs w) (lone (b.atR a todo') cs w) →
        ∃ θ' w' v', Ends P cx b (lone (b.atR a todo) cs w) cs w' v' ∧ V θ' r.1 v' ∧ Fr (KP P gl) θ0 θ' rows0 r.2.1 low0 r.2.2 w0 w' := by
      intro k' todo' s' e1 e2 e3 hex hk' st
      obtain ⟨θ', w', v', s1, s2, s3⟩ := ih cx k' s' r hex θ w a b todo' cs θ0 rows0 low0 w0 (by rw [e1]; exact hr) hg e3 (by rw [e1, e2]; exact hlow) hk' hcx hkd hD hr0 (by rw [e1, e2]; exact hF0)
      exact ⟨θ', w', v', s1.head st, s2, s3⟩
    cases hk with
    | nil =>
      simp only [exec] at h
      cases hcx' : cx with
      | fn res => subst hcx'; exact leaveFn res none [] rfl h (.one (stepR_end hcx.1))
      | round id => subst hcx'; exact leaveRound id none rfl h (fun L w' v c cs' hb hrun => stepR_round_end hb hkd hrun)
    | @cons x y k t hx hkt =>
    -- one operation
    have oneStep : ∀ (ops : Array Oper) (i : Nat) (o : Oper) (rest : List Nat) (rs : List Seg), ops[i]? = some o → exec F (n + 1) cx (.ops (.one (copx P gl ops o) :: rs) :: k) s = some r → KR P gl (.ops rs :: k) (.inRegion ops rest :: t) →
        (DefsOK cx w0.heap.size θ w a.defers) → ∃ θ' w' v', Ends P cx b (lone (b.atR a (.inRegion ops (i :: rest) :: t)) cs w) cs w' v' ∧ V θ' r.1 v' ∧ Fr (KP P gl) θ0 θ' rows0 r.2.1 low0 r.2.2 w0 w' := by
      intro ops i o rest rs hget h hkr hD
      simp only [exec] at h
      have cont : ∀ (θ1 : Th) (w1 : World) (v : AV) (v1 : Value) (rows' : List Row) (low' : Nat), exec F n cx (.ops rs :: k) ⟨putO s.sl (copx P gl ops o).dst v, rows', low'⟩ = some r → V θ1 v v1 → Fr (KP P gl) θ θ1 s.rows rows' s.low low' w w1 →
          Steps P (lone (b.atR a (.inRegion ops (i :: rest) :: t)) cs w) (lone (b.atR (a.put (o).dst v1) (.inRegion ops (rest) :: t)) cs w1) →
          ∃ θ' w' v', Ends P cx b (lone (b.atR a (.inRegion ops (i :: rest) :: t)) cs w) cs w' v' ∧ V θ' r.1 v' ∧ Fr (KP P gl) θ0 θ' rows0 r.2.1 low0 r.2.2 w0 w' := by
        intro θ1 w1 v v1 rows' low' h hv1 hF1 st
        have hs1 : SRel θ1 (putO s.sl (copx P gl ops o).dst v) (a.put (o).dst v1).tmps := by
          rw [copx_dst]; exact (hs.mono hF1.ext).put _ hv1
        have hdf : (a.put (o).dst v1).defers = a.defers := by cases (o).dst <;> rfl
        obtain ⟨θ', w', v', s1, s2, s3⟩ := ih cx _ _ r h θ1 w1 (a.put (o).dst v1) b (.inRegion ops (rest) :: t) cs θ0 rows0 low0 w0 hF1.rel (hg.mono hF1.ext) hs1 (Nat.le_trans hF1.low (Nat.le_trans hlow hF1.len)) hkr (hcx.mono hF1.ext) hkd (by
          rw [hdf]; exact hD.frame hr hF1) hr0 (hF0.trans hr0 hF1)
        exact ⟨θ', w', v', s1.head st, s2, s3⟩
      split at h
      · -- a yield
        rename_i id vs hy
        split at h
        case h_2 => simp at h
        rename_i st0 pend0 sl ps asg body e
        split at h
        case isFalse => simp at h
        rename_i hlen
        split at h
        case h_2 => simp at h
        rename_i v rows' low' hex
        unfold yieldOf at hy
        split at hy
        case h_2 => simp at hy
        rename_i f args hop
        split at hy
        case h_2 => simp at hy
        rename_i id' hf hw
        simp only [Option.some.injEq, Prod.mk.injEq] at hy
        obtain ⟨rfl, rfl⟩ := hy
        obtain ⟨g, h1, h2, h3, h4⟩ := copx_bad (P := P) (gl := gl) (ops := ops) (o := o) (by rw [hop]; simp)
        rw [h3] at hw
        have hwr := want_sound hs h1 hw
        rw [hop] at h2
        obtain ⟨c, ff, o1, o2, rfl, rfl⟩ := cop_call h2
        have hV := opd_V (a := a) hg hs ff
        rw [hf] at hV
        obtain ⟨L, hL, hfv⟩ : ∃ L, θ id' = some L ∧ a.eval ff = .func (.yield L.b) #[] #[] := by
          generalize a.eval ff = z at hV
          cases hV with
          | yield hL => exact ⟨_, hL, rfl⟩
        obtain ⟨q, q1, q2, q3, q4, q5, ⟨hint1, q6⟩, ⟨hint2, q7⟩⟩ := rows_under hr e hL
        have hargs := opds_V (a := a) hg hs c.args.toList
        have hsz : c.args.size = q.params.size := by
          have e1 : ps.length = q.params.size := by rw [← q5]; simp
          rw [← e1, hlen]; simp
        have hst := step_yield (P := P) (b := b) (k := t) (cs := cs) (rest := rest) hget hwr o1 o2 hfv q1 hsz
        let br : Frame := { fn := q.fn, tmps := #[], todo := [], defers := [], mode := .run, kind := .normal, roundOf := some L.b }
        have hround : Frame.round L.b q.fn ((q.params.zip (c.args.map a.eval)).foldl (fun tmps (t, x) => tmps.setIfInBounds t x) q.tmps) q.assign q.body .normal =
            br.atR { tmps := (ps.zip (c.args.toList.map a.eval)).foldl (fun tmps p => tmps.setIfInBounds p.1 p.2) q.tmps, defers := [] } [.code q.assign, .beginRound, .code q.body] := by
          have e1 : (q.params.zip (c.args.map a.eval)).foldl (fun tmps (x : Tmp × Value) => tmps.setIfInBounds x.1 x.2) q.tmps = (ps.zip (c.args.toList.map a.eval)).foldl (fun tmps p => tmps.setIfInBounds p.1 p.2) q.tmps := by
            rw [← Array.foldl_toList, Array.toList_zip, q5]
            simp
          rw [← e1]
          simp [Frame.round, Frame.atR, br]
        rw [hround] at hst
        subst q6 q7
        obtain ⟨θ1, w1, v1, s1, s2, s3⟩ := ih (.round id') _ _ _ hex θ w { tmps := (ps.zip (c.args.toList.map a.eval)).foldl (fun tmps p => tmps.setIfInBounds p.1 p.2) q.tmps, defers := [] } br [.code q.assign, .beginRound, .code q.body] (b.atR a (.inRegion ops (i :: rest) :: t) :: cs) θ s.rows s.rows.length w hr hg (SRel.putL ps (SRel.of_VL q4) hargs) (Nat.le_refl _) (.cons (.code hint1 _) (.cons .rfBegin (.cons (.code hint2 _) .nil))) ⟨L, hL, rfl⟩ rfl rfl hr (Fr.refl hr _)
        simp only at s2 s3
        have hF1 := s3.weaken (low2 := s.low) (lower_le_id _ _) (lower_le s.low low')
        obtain ⟨θ2, g1, g2⟩ := gc_sound hr hF1 s2
        have hfin : (b.atR a (.inRegion ops (i :: rest) :: t)).finish v1 = b.atR (a.put (o).dst v1) (.inRegion ops (rest) :: t) := by
          rw [Frame.finish_atR, hget]; rfl
        refine cont θ2 w1 v v1 _ _ h g1 g2 (.head hst ?_)
        rw [← hfin]
        exact s1 _ cs rfl
      · rename_i hny
        split at h
        case h_2 => simp at h
        rename_i v rows' low' hop
        obtain ⟨θ1, w1, v1, st, hv1, hF1⟩ := op_step hcall hget (show opR (callN F n) s.sl s.rows s.low _ = some (v, rows', low') from hop) hr hg hs hlow b (rest) t cs
        exact cont θ1 w1 v v1 rows' low' h hv1 hF1 st
    cases hx with
    | inBlock id =>
      simp only [exec] at h
      exact go k t s rfl rfl hs h hkt (.one stepR_inBlock)
    | inLoop hint c =>
      simp only [exec, St.force_eq] at h
      exact go _ (.code c :: .inLoop c :: t) s rfl rfl hs h (.cons (.code hint c) (.cons (.inLoop hint c) hkt)) (.one stepR_inLoop)
    | inScope hint c =>
      simp only [exec] at h
      exact go k t s rfl rfl hs h hkt (.one (step_lone_go (by simp [stepG, stepG.exec, Frame.atR])))
    | rfBegin =>
      simp only [exec] at h
      cases cx with
      | fn res => simp at h
      | round id =>
        simp only at h
        split at h
        case h_2 => simp at h
        rename_i pend sl ps asg body e
        obtain ⟨L, hL, hb⟩ := hcx
        obtain ⟨q, q1, q2, q3, q4, q5, q6, q7⟩ := rows_under hr e hL
        have hlt : L.b < w.heap.size := hr.blk id L hL
        have hF1 : Fr (KP P gl) θ θ s.rows (s.rows.set id (.loop .busy pend sl ps asg body)) s.low (lower s.low id) w (w.putObj L.b (.loop { q with state := .busy })) :=
          Fr.setrow hr s.low e rfl hL World.putObj_size (fun k hk => World.putObj_heap_other hk) rfl rfl rfl _ ⟨L, _, hL, World.putObj_heap_same hlt, rfl, q3, q4, q5, q6, q7⟩ rfl
        obtain ⟨θ', w', v', s1, s2, s3⟩ := ih (.round id) k _ r h θ _ a b t cs θ0 rows0 low0 w0 hF1.rel hg hs (Nat.le_trans (lower_le _ _) (by simpa using hlow)) hkt ⟨L, hL, hb⟩ hkd hD hr0 (hF0.trans hr0 hF1)
        exact ⟨θ', w', v', s1.head (.one (stepR_beginRound hb (run_beginRound q1 q2))), s2, s3⟩
    | ops ops i =>
      rcases Nat.lt_or_ge i ops.size with hi | hi
      · have hdrop : (ops.toList.map fun o => Seg.one (copx P gl ops o)).drop i = .one (copx P gl ops ops[i]) :: (ops.toList.map fun o => Seg.one (copx P gl ops o)).drop (i + 1) := by
          rw [List.drop_eq_getElem_cons (by simpa using hi)]
          simp
        have hrange : List.range' i (ops.size - i) = i :: List.range' (i + 1) (ops.size - (i + 1)) := by
          rw [show ops.size - i = (ops.size - (i + 1)) + 1 from by omega, List.range'_succ]
        rw [hdrop] at h
        rw [hrange]
        exact oneStep ops i ops[i] _ _ (Array.getElem?_eq_getElem hi) h (.cons (.ops ops (i + 1)) hkt) hD
      · have hdrop : (ops.toList.map fun o => Seg.one (copx P gl ops o)).drop i = [] := List.drop_eq_nil_of_le (by simpa using hi)
        have hrange : List.range' i (ops.size - i) = [] := by rw [show ops.size - i = 0 from by omega]; rfl
        rw [hdrop] at h
        simp only [exec] at h
        rw [hrange] at go ⊢
        exact go k t s rfl rfl hs h hkt (.one stepR_region_end)
    | draws ops c bs fuel t0 listed hed hchk hst =>
      cases bs with
      | nil =>
        simp only [csegs, exec] at h
        simp only [chkB, lbits_len, beq_iff_eq] at hchk
        subst hchk
        rw [go_done hst] at go ⊢
        exact go k t s rfl rfl hs h hkt (.one stepR_region_end)
      | cons b0 bs =>
        simp only [chkB, Bool.and_eq_true, decide_eq_true_eq, lbits_len] at hchk
        obtain ⟨⟨⟨⟨hc1, hc2⟩, hc3⟩, hc4⟩, hc5⟩ := hchk
        have hend := isBound_spec hc3
        simp only [csegs] at h
        by_cases hb1 : b0 = c + 1
        · subst hb1
          rw [if_pos rfl] at h
          obtain ⟨fuel', t', listed', e1, e2⟩ := go_one hed hst (by omega) hend t0
          rw [e1]
          have hget : ops[c]? = some (ops[c]'(by omega)) := Array.getElem?_eq_getElem (by omega)
          have hop : ((lbits P gl ops).getD c (noop, 0)).1 = copx P gl ops (ops[c]'(by omega)) := by
            rw [List.getD, lbits_get (by omega)]
            simp [Array.getD, show c < ops.size from by omega]
          rw [hop] at h
          exact oneStep ops c _ _ _ hget h (.cons (.draws ops (c + 1) bs fuel' t' listed' hed hc5 e2) hkt) hD
        · rw [if_neg hb1] at h
          obtain ⟨m, rfl⟩ : ∃ m, b0 = c + m := ⟨b0 - c, by omega⟩
          generalize hcd : cgrp _ = sg at h
          unfold cgrp at hcd
          have fin : ∀ (sl' : List AV) (rows' : List Row) (low' : Nat) (θ1 : Th) (w1 : World) (a1 : Act) (fuel' t' : Nat) (listed' : Array Bool), exec F n cx (.ops (csegs (lbits P gl ops) (c + m) bs) :: k) ⟨sl', rows', low'⟩ = some r →
              Steps P (lone (b.atR a (.inRegion ops (Region.linearise.go .any ops fuel t0 listed []) :: t)) cs w) (lone (b.atR a1 (.inRegion ops (Region.linearise.go .any ops fuel' t' listed' []) :: t)) cs w1) → a1.defers = a.defers → DrawSt ops (c + m) fuel' listed' → SRel θ1 sl' a1.tmps → Fr (KP P gl) θ θ1 s.rows rows' s.low low' w w1 →
              ∃ θ' w' v', Ends P cx b (lone (b.atR a (.inRegion ops (Region.linearise.go .any ops fuel t0 listed []) :: t)) cs w) cs w' v' ∧ V θ' r.1 v' ∧ Fr (KP P gl) θ0 θ' rows0 r.2.1 low0 r.2.2 w0 w' := by
            intro sl' rows' low' θ1 w1 a1 fuel' t' listed' h st hd1 hst' hs1 hF1
            obtain ⟨θ', w', v', s1, s2, s3⟩ := ih cx _ _ r h θ1 w1 a1 b _ cs θ0 rows0 low0 w0 hF1.rel (hg.mono hF1.ext) hs1 (Nat.le_trans hF1.low (Nat.le_trans hlow hF1.len)) (.cons (.draws ops (c + m) bs fuel' t' listed' hed hc5 hst') hkt) (hcx.mono hF1.ext) hkd (by rw [hd1]; exact hD.frame hr hF1) hr0 (hF0.trans hr0 hF1)
            exact ⟨θ', w', v', s1.head st, s2, s3⟩
          split at hcd
          · rename_i hidx
            subst hcd
            simp only [exec] at h
            split at h
            case h_2 => simp at h
            rename_i sl' ext hev
            obtain ⟨θ1, w1, a1, fuel', t', listed', st, hd1, hst', hs1, hF1⟩ := grp_sound hcall hed hc2 hend hc4 (show evalG (callN F n) _ _ _ _ _ = some (sl', ext) from hev) hst t0 hr hg hs s.low hlow b t cs
            exact fin _ _ _ θ1 w1 a1 fuel' t' listed' h st hd1 hst' hs1 hF1
          · rename_i i hidx
            obtain ⟨hil, _⟩ := List.findIdx?_eq_some_iff_getElem.1 hidx
            have higet := List.getElem?_eq_getElem hil
            have hgd : (piece (lbits P gl ops) c (c + m)).getD i (noop, 0) = (piece (lbits P gl ops) c (c + m))[i] := by simp [List.getD, higet]
            rw [hgd] at hcd
            split at hcd
            · subst hcd; simp [exec] at h
            rename_i a0 x0 n0 hsto0
            split at hcd
            case isFalse => subst hcd; simp [exec] at h
            rename_i hcond
            obtain ⟨hq1, hq2, hq3⟩ := hcond
            subst hcd
            simp only [exec] at h
            split at h
            case h_2 => simp at h
            rename_i sl' ext hev
            split at h
            case h_2 => simp at h
            rename_i r' hsto
            obtain ⟨θ1, w1, a1, fuel', t', listed', st, hd1, hst', hs1, hF1⟩ := grpW_sound hcall hed hc2 hend hc4 higet hsto0 hq1 hq2 (fun q hq => by simpa using List.all_eq_true.1 hq3 q hq) (show evalG (callN F n) _ _ _ _ _ = some (sl', ext) from hev) hsto hst t0 hr hg hs s.low hlow b t cs
            exact fin _ _ _ θ1 w1 a1 fuel' t' listed' h st hd1 hst' hs1 hF1
    | code hint c =>
      simp only [exec, St.forceS_eq] at h
      cases c with
      | skip => simp only [cc] at h; exact go k t s rfl rfl hs h hkt (.one stepR_skip)
      | label l => simp only [cc] at h; exact go k t s rfl rfl hs h hkt (.one stepR_label)
      | ret =>
        simp only [cc] at h
        cases hcx' : cx with
        | fn res => subst hcx'; exact leaveFn res (some .ret) _ rfl h (.one (stepR_ret hcx.1))
        | round id => subst hcx'; exact leaveRound id (some .ret) rfl h (fun L w' v c cs' hb hrun => stepR_round_ret hb hkd hrun)
      | exit id =>
        simp only [cc] at h
        split at h
        · rename_i k' hp
          obtain ⟨t', e1, e2⟩ := popTo_sound id hkt hp
          exact go k' t' s rfl rfl hs h e2 (.one (stepR_exit e1))
        · rename_i hp
          cases hcx' : cx with
          | fn res => subst hcx'; simp [leaveV] at h
          | round rid => subst hcx'; exact leaveRound rid (some (.exit id)) rfl h (fun L w' v c cs' hb hrun => stepR_round_exit hb hkd (popTo_none id hkt hp) hrun)
      | seq x y => simp only [cc] at h; exact go _ _ s rfl rfl hs h (.cons (.code hint x) (.cons (.code hint y) hkt)) (.one stepR_seq)
      | cond c x y =>
        simp only [cc] at h
        split at h
        · rename_i tt e
          have hV := opd_V (a := a) hg hs c
          rw [e] at hV
          have hc : a.eval c = .bool tt := by generalize a.eval c = z at *; cases hV; rfl
          cases tt
          · exact go _ _ s rfl rfl hs h (.cons (.code hint y) hkt) (.one (stepR_cond hc))
          · exact go _ _ s rfl rfl hs h (.cons (.code hint x) hkt) (.one (stepR_cond hc))
        · simp at h
      | block id c => simp only [cc] at h; exact go _ _ s rfl rfl hs h (.cons (.code hint c) (.cons (.inBlock id) hkt)) (.one stepR_block)
      | loop c => simp only [cc] at h; exact go _ _ s rfl rfl hs h (.cons (.code hint c) (.cons (.inLoop hint c) hkt)) (.one stepR_loop)
      | scope c => simp only [cc] at h; exact go _ _ s rfl rfl hs h (.cons (.code hint c) (.cons (.inScope hint c) hkt)) (.one (step_lone_go (by simp [stepG, stepG.exec, Frame.atR])))
      | goto l => simp [cc] at h
      | refuse why => simp [cc] at h
      | rangeFunc g ps x y =>
        simp only [cc] at h
        split at h
        case isFalse => simp at h
        rename_i hok
        split at h
        case h_2 => simp at h
        rename_i fid vs ht
        split at h
        case h_2 => simp at h
        rename_i vv rows' d hex
        split at h
        case h_2 => simp at h
        rename_i k0 rows2 low2 hal
        obtain ⟨wm, mark, dn, hFm, hDm, hent⟩ := rf_enter (P := P) hcx hok hr s.low hD hF0.size ps x y
        have hrm := hFm.rel
        -- the record
        have hrow : RowRel (KP P gl) (θ.add s.rows.length ⟨wm.heap.size, 0, 0⟩) s.rows.length (wm.alloc (.loop { state := .ready, pending := none, fn := b.fn, tmps := a.tmps, params := ps, assign := x, body := y, defers := dn })) (.loop .ready none s.sl ps.toList (cc P gl hint x) (cc P gl hint y)) :=
          ⟨⟨wm.heap.size, 0, 0⟩, _, Th.add_self _ _ _, World.alloc_heap_new _ _, rfl, rfl, (hs.mono (Th.ext_add hr.none_len _)).VL, rfl, ⟨hint, rfl⟩, ⟨hint, rfl⟩⟩
        have hF1 : Fr (KP P gl) θ (θ.add s.rows.length ⟨wm.heap.size, 0, 0⟩) s.rows (s.rows ++ [.loop .ready none s.sl ps.toList (cc P gl hint x) (cc P gl hint y)]) s.low s.low wm (wm.alloc (.loop { state := .ready, pending := none, fn := b.fn, tmps := a.tmps, params := ps, assign := x, body := y, defers := dn })) :=
          Fr.push (w' := wm.alloc (.loop { state := .ready, pending := none, fn := b.fn, tmps := a.tmps, params := ps, assign := x, body := y, defers := dn })) hrm s.low hlow _ rfl rfl rfl rfl 0 0 _ hrow rfl
        -- the call
        unfold target at ht
        split at ht
        case h_2 => simp at ht
        rename_i f' caps eg
        simp only [Option.some.injEq, Prod.mk.injEq] at ht
        obtain ⟨rfl, rfl⟩ := ht
        have hV := opd_V (a := a) hg hs g
        rw [eg] at hV
        obtain ⟨l', hgv, hcaps⟩ : ∃ l' : List Value, a.eval g = .func (.func f') #[] l'.toArray ∧ VL θ caps l' := by
          generalize a.eval g = z at hV
          cases hV with
          | @func f l l' p q => exact ⟨l', rfl, p, q⟩
        have hvl : VL (θ.add s.rows.length ⟨wm.heap.size, 0, 0⟩) ([AV.yield s.rows.length] ++ caps) (#[Value.func (.yield wm.heap.size) #[] #[]] ++ l'.toArray).toList := by
          have : (#[Value.func (.yield wm.heap.size) #[] #[]] ++ l'.toArray).toList = Value.func (.yield wm.heap.size) #[] #[] :: l' := by simp
          rw [this]
          exact VL.cons (V.yield (L := ⟨wm.heap.size, 0, 0⟩) (Th.add_self _ _ _)) (hcaps.mono hF1.ext)
        obtain ⟨⟨func, f1, f2, f3⟩, θ2, w2, fr, v2, c1, c2, c3, c4⟩ := call_sim hF ih f' _ _ vv rows' d hex _ _ (#[Value.func (.yield wm.heap.size) #[] #[]] ++ l'.toArray) (b.atR { a with defers := mark ++ a.defers } (.inRangeFunc wm.heap.size :: t) :: cs) s.low hF1.rel (hg.mono hF1.ext) hvl (by simp; omega)
        have hinv : ∀ w3 : World, ∃ dd, (resolve a.eval (rangeCall g wm.heap.size) 0).run P w3 = .ok dd w3 ∧ (invoke dd.target dd.args).run P w3 = .ok (.enter f' (#[Value.func (.yield wm.heap.size) #[] #[]] ++ l'.toArray)) w3 := by
          intro w3
          refine ⟨{ target := .fn (.func f') l'.toArray, args := #[Value.func (.yield wm.heap.size) #[] #[]] }, ?_, ?_⟩
          · have hconst : ∀ v, a.eval (.const v) = v := fun v => rfl
            simp [resolve, rangeCall, hgv, hconst, Deferred.ofValue]
          · simp [invoke, callFunc, f1]
            rw [if_neg (by simpa using f3), if_neg (by intro h; rw [h] at f2; simp at f2)]
        obtain ⟨dd, i1, i2⟩ := hinv (wm.alloc (.loop { state := .ready, pending := none, fn := b.fn, tmps := a.tmps, params := ps, assign := x, body := y, defers := dn }))
        have st1 := stepR_rangeFunc (P := P) (b := b) (k := t) (cs := cs) hent i1 i2
        -- the loop's end
        unfold afterLoop at hal
        split at hal
        case h_2 => simp at hal
        rename_i st2 pend2 sl2 ps2 asg2 body2 e2
        split at hal
        · simp at hal
        rename_i hbusy
        simp only [Option.some.injEq, Prod.mk.injEq] at hal
        obtain ⟨rfl, rfl, rfl⟩ := hal
        have hL2 : θ2 s.rows.length = some ⟨wm.heap.size, 0, 0⟩ := c4.ext _ _ (Th.add_self _ _ _)
        obtain ⟨q, q1, q2, q3, q4, q5, q6, q7⟩ := rows_under c4.rel e2 hL2
        have hlt : wm.heap.size < w2.heap.size := c4.rel.blk _ _ hL2
        have hend := run_endLoop (P := P) q1 (by rw [q2]; simpa using hbusy)
        have hF3 : Fr (KP P gl) θ2 θ2 rows' (rows'.set s.rows.length (.loop .exhausted pend2 sl2 ps2 asg2 body2)) (lowO s.low d) (lower (lowO s.low d) s.rows.length) w2 (w2.putObj wm.heap.size (.loop { q with state := .exhausted })) :=
          Fr.setrow c4.rel (lowO s.low d) e2 rfl hL2 World.putObj_size (fun k hk => World.putObj_heap_other hk) rfl rfl rfl _ ⟨_, _, hL2, World.putObj_heap_same hlt, rfl, q3, q4, q5, q6, q7⟩ rfl
        have hlo : lower (lowO s.low d) s.rows.length = lowO s.low d := by
          have := lowO_le s.low d
          unfold lower; split <;> omega
        have hF4 := Fr.kill hF3.rel (lower (lowO s.low d) s.rows.length) s.rows.length
        rw [List.set_set] at hF4
        rw [hlo] at hF3 hF4
        rw [hlo] at hF4
        have hall := (hF1.trans hrm c4).trans hrm (hF3.trans c4.rel hF4)
        obtain ⟨θ3, _, g2⟩ := gc_sound hrm hall (v := .tup []) (v' := .tuple [].toArray) (.tup (l' := []) rfl (fun i x x' h => by simp at h))
        have hcode : KR P gl (jumpI pend2 ++ k) ((q.pending.map Item.code).toList ++ t) := by
          rw [q3]
          cases pend2 with
          | none => exact hkt
          | some j => cases j with
            | ret => exact .cons (.code hint .ret) hkt
            | exit id => exact .cons (.code hint (.exit id)) hkt
        obtain ⟨θ', w', v', s1, s2, s3⟩ := ih cx _ _ r h θ3 _ { a with defers := mark ++ a.defers } b _ cs θ0 rows0 low0 w0 g2.rel (hg.mono g2.ext) (hs.mono g2.ext) (Nat.le_trans g2.low (Nat.le_trans hlow g2.len)) hcode (hcx.mono g2.ext) hkd (hDm.frame hrm g2) hr0 (hF0.trans hr0 (hFm.trans hr g2))
        refine ⟨θ', w', v', s1.head (.head st1 (c1.trans (.head ?_ (.one (stepR_endRangeFunc hend))))), s2, s3⟩
        rw [← finish_atR_inRangeFunc wm.heap.size v2]
        exact step_leave_returned c2.2
      | region id ops draw =>
        cases draw with
        | false =>
          simp only [cc] at h
          cases hh : hint id with
          | nil =>
            rw [hh] at h
            have h0 : KR P gl (.ops ((ops.toList.map fun o => Seg.one (copx P gl ops o)).drop 0) :: k) (.inRegion ops (List.range' 0 (ops.size - 0)) :: t) := .cons (.ops ops 0) hkt
            simp only [List.drop_zero, Nat.sub_zero] at h0
            rw [← List.range_eq_range'] at h0
            exact go _ _ s rfl rfl hs h h0 (.one stepR_region)
          | cons x xs =>
            rw [hh] at h
            exact go _ _ { s with sl := killS s.sl (x :: xs) } rfl rfl (hs.kill _) h (.cons (.code (fun _ => []) (.region id ops false)) hkt) (Steps.refl _ _)
        | true =>
          simp only [cc] at h
          by_cases hok0 : (chkB (lbits P gl ops) (Region.before ops).toList 0 (bounds (Region.before ops).toList) && edgesOk ops && P.follows .mixedOrders) = true
          case neg => rw [if_neg hok0] at h; simp at h
          rw [if_pos hok0] at h
          have hok := hok0
          simp only [Bool.and_eq_true] at hok
          obtain ⟨⟨hok1, hok2⟩, hmix⟩ := hok
          cases hh : hint id with
          | nil =>
            rw [hh] at h
            simp only at h
            have hF1 := Fr.drawn (P := P) (gl := gl) hr s.low (w.drawn + 1)
            obtain ⟨θ', w', v', s1, s2, s3⟩ := ih cx _ _ r h θ { w with drawn := w.drawn + 1 } a b _ cs θ0 rows0 low0 w0 hF1.rel hg hs hlow (.cons (.draws ops 0 (bounds (Region.before ops).toList) ops.size (w.tape w.drawn (.order b.fn id)) (Array.replicate ops.size false) (edgesOk_spec hok2) hok1 (DrawSt.start ops)) hkt) hcx hkd (hD.frame hr hF1) hr0 (hF0.trans hr0 hF1)
            have hst := stepR_region_draw (P := P) (b := b) (a := a) (k := t) (cs := cs) (w := w) (ops := ops) (id := id)
            simp only [Region.schedule, hmix, Bool.true_or, if_true] at hst
            exact ⟨θ', w', v', s1.head (.one hst), s2, s3⟩
          | cons x xs =>
            rw [hh] at h
            refine go _ _ { s with sl := killS s.sl (x :: xs) } rfl rfl (hs.kill _) h ?_ (Steps.refl _ _)
            have := KR.cons (IR.code (P := P) (gl := gl) (fun _ => []) (.region id ops true)) hkt
            simp only [cc, hok0, if_true] at this
            exact this

/-- What the evaluator says of a call, the model's calls do. -/
theorem call_sound (hF : FnOK P gl F) {n f : Nat} {vs : List AV} {rows rows' : List Row} {v : AV} {d : Option Nat} (hc : call F n f vs rows = some (v, rows', d)) {θ : Th} {w : World} {args : Array Value} (hr : HRel (KP P gl) θ rows w) (hg : GRel θ gl) (hv : VL θ vs args.toList) :
    Calls P f args w fun e w' => ∃ θ' v', e = .returned v' ∧ V θ' v v' ∧ Fr (KP P gl) θ θ' rows rows' rows.length (lowO rows.length d) w w' := by
  intro cs
  obtain ⟨_, θ', w', fr, v', s1, s2, s3, s4⟩ := call_sim hF (sim hF n) f vs rows v rows' d hc θ w args cs rows.length hr hg hv (Nat.le_refl _)
  exact ⟨.returned v', w', fr, ⟨θ', v', rfl, s3, s4⟩, s1, s2.1, s2.2⟩
end
end Go.Abs
