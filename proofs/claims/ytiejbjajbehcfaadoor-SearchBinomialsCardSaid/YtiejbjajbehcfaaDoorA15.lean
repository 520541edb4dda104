/- One operation of the machine against one of the evaluator; a region whose order is drawn. -/
import Derived.Test.YtiejbjajbehcfaaDoorA14
set_option linter.unusedVariables false
set_option linter.unusedSimpArgs false
namespace Go.Abs
section
variable {P : Program} {gl : List Nat}

/-- The calls that the evaluator makes are those of the machine. -/
def CallOK (P : Program) (gl : List Nat) (call : Nat → List AV → List Row → Option (AV × List Row × Option Nat)) : Prop :=
  ∀ (f : Nat) (vs : List AV) (rows : List Row) (v : AV) (rows' : List Row) (d : Option Nat), call f vs rows = some (v, rows', d) → ∀ (θ : Th) (w : World) (args : Array Value) (cs : List Frame) (low : Nat),
    HRel (KP P gl) θ rows w → GRel θ gl → VL θ vs args.toList → low ≤ rows.length →
    (∃ func, P.funcs[f]? = some func ∧ func.body.isNone = false ∧ (func.name == "runtime.NumGoroutine") = false) ∧
    ∃ θ' w' fr v', Steps P (lone (Frame.enter P f args .normal) cs w) (lone fr cs w') ∧ fr.leaving P w' (.returned v') ∧ V θ' v v' ∧ Fr (KP P gl) θ θ' rows rows' low (lowO low d) w w'

theorem lowO_le (low : Nat) (d : Option Nat) : lowO low d ≤ low := by cases d <;> simp [lowO, lower_le]

theorem SRel.lt {θ : Th} {sl : List AV} {t : Array Value} (hs : SRel θ sl t) {i : Nat} (h : sl.getD i .any ≠ .any) : i < t.size := by
  rw [← hs.size]
  rcases Nat.lt_or_ge i sl.length with hi | hi
  · exact hi
  · exact absurd (by simp [List.getD, List.getElem?_eq_none hi]) h

theorem want_sound {θ : Th} {sl : List AV} {a : Act} (hs : SRel θ sl a.tmps) {ops : Array Oper} {o : Oper} {g : Option (Nat × Bool)} (hg : cguard ops o.guard = some g) {c : Bool} (hw : want sl g = some c) :
    Region.wanted o (yielded ops a.tmps) = c := by
  unfold cguard at hg
  split at hg
  · rename_i e
    injection hg with hg
    subst hg
    simp only [want, Option.some.injEq] at hw
    subst hw
    simp [Region.wanted, e]
  · rename_i j b e
    split at hg
    case h_2 => simp at hg
    rename_i t ht
    injection hg with hg
    subst hg
    have hV := hs.get t
    simp only [want] at hw
    split at hw
    · rename_i c' e'
      injection hw with hw
      subst hw
      have hlt := hs.lt (i := t) (by rw [e']; simp)
      rw [e'] at hV
      have : a.tmps[t]? = some (.bool c') := by
        rw [Array.getElem?_eq_getElem hlt]
        simp only [Array.getD, hlt, dif_pos, Array.getInternal_eq_getElem] at hV
        generalize a.tmps[t] = z at *
        cases hV; rfl
      simp [Region.wanted, e, yielded, ht, this]
    · rename_i e'
      injection hw with hw
      subst hw
      have hlt := hs.lt (i := t) (by rw [e']; simp)
      rw [e'] at hV
      have : a.tmps[t]? = some (.tuple #[]) := by
        rw [Array.getElem?_eq_getElem hlt]
        simp only [Array.getD, hlt, dif_pos, Array.getInternal_eq_getElem] at hV
        generalize a.tmps[t] = z at *
        cases hV with
        | @tup l l' p q =>
          have : l' = [] := List.length_eq_zero_iff.1 p.symm
          subst this
          rfl
      simp [Region.wanted, e, yielded, ht, this]
    · simp at hw

theorem semAt_of {o : Oper} {r : Option Nat} {ρ : Operand → Value} (h : ∀ c, o.op ≠ .defer c) : o.semAt r ρ = execOp ρ o := by
  unfold Oper.semAt
  cases r with
  | none => rfl
  | some l => cases ho : o.op <;> first | rfl | exact absurd ho (h _)

theorem cop_no_defer {o : Oper} {io : IOp} (h : cop P gl o = some io) : ∀ c, o.op ≠ .defer c := by
  intro c e
  obtain ⟨dst, op, ty, pos, aft, gd⟩ := o
  simp only at e
  subst e
  simp [cop] at h

theorem step_value {b : Frame} {a : Act} {k : List Item} {cs : List Frame} {w w' : World} {ops : Array Oper} {i : Nat} {rest : List Nat} {o : Oper} (ho : ops[i]? = some o) (hw : Region.wanted o (yielded ops a.tmps) = true)
    (hd : ∀ c, o.op ≠ .defer c) {nv : Next} {v' : Value} (hrun : (execOp a.eval o).run P w = .ok nv w') (hnv : nv = .value v' ∨ (nv = .skip ∧ v' = undef)) :
    step P (lone (b.atR a (.inRegion ops (i :: rest) :: k)) cs w) = .next (lone (b.atR (a.put o.dst v') (.inRegion ops rest :: k)) cs w') := by
  have hg := stepGR_op (P := P) (b := b) (a := a) (k := k) (cs := cs) (w := w) (rest := rest) ho hw
  rw [semAt_of hd] at hg
  have hfin : ∀ v, (b.atR a (.inRegion ops (i :: rest) :: k)).finish v = b.atR (a.put o.dst v) (.inRegion ops rest :: k) := by
    intro v; rw [Frame.finish_atR, ho]; rfl
  refine step_lone_go ?_
  rw [hg, ← hfin]
  rcases hnv with rfl | ⟨rfl, rfl⟩
  · simp [stepG.apply, hrun, Sem.runT_eq]
  · simp [stepG.apply, hrun, Sem.runT_eq]

theorem step_enter {b : Frame} {a : Act} {k : List Item} {cs : List Frame} {w w' : World} {ops : Array Oper} {i : Nat} {rest : List Nat} {o : Oper} (ho : ops[i]? = some o) (hw : Region.wanted o (yielded ops a.tmps) = true)
    (hd : ∀ c, o.op ≠ .defer c) {f : FuncId} {args : Array Value} (hrun : (execOp a.eval o).run P w = .ok (.enter f args) w') :
    step P (lone (b.atR a (.inRegion ops (i :: rest) :: k)) cs w) = .next (lone (Frame.enter P f args .normal) (b.atR a (.inRegion ops (i :: rest) :: k) :: cs) w') := by
  have hg := stepGR_op (P := P) (b := b) (a := a) (k := k) (cs := cs) (w := w) (rest := rest) ho hw
  rw [semAt_of hd] at hg
  refine step_lone_go ?_
  rw [hg]
  simp [stepG.apply, hrun, Sem.runT_eq, Frame.atR]

theorem copx_bad {ops : Array Oper} {o : Oper} (h : (copx P gl ops o).op ≠ .bad) : ∃ g, cguard ops o.guard = some g ∧ cop P gl o = some (copx P gl ops o).op ∧ (copx P gl ops o).g = g ∧ (copx P gl ops o).dst = o.dst := by
  unfold copx at h ⊢
  split at h
  · rename_i g i e1 e2
    exact ⟨g, e1, e2, rfl, rfl⟩
  · exact absurd rfl h
  · exact absurd rfl h
theorem copx_dst {ops : Array Oper} {o : Oper} : (copx P gl ops o).dst = o.dst := by
  unfold copx; split <;> rfl

theorem target_run {θ : Th} {sl : List AV} {a : Act} {w : World} (hg : GRel θ gl) (hs : SRel θ sl a.tmps) {o : Oper} {c : Call} (ho : o.op = .call c) {f : Operand} (hf : c.callee = .value f) {fid : Nat} {vs : List AV}
    (ht : target (getO sl (co gl f)) ((c.args.toList.map (co gl)).map (getO sl)) = some (fid, vs)) {func : Func} (hfu : P.funcs[fid]? = some func) (hb : func.body.isNone = false) (hn : (func.name == "runtime.NumGoroutine") = false) :
    ∃ args : Array Value, (execOp a.eval o).run P w = .ok (.enter fid args) w ∧ VL θ vs args.toList := by
  unfold target at ht
  split at ht
  case h_2 => simp at ht
  rename_i f' caps e
  simp only [Option.some.injEq, Prod.mk.injEq] at ht
  obtain ⟨rfl, rfl⟩ := ht
  have hV := opd_V hg hs f
  rw [e] at hV
  generalize hq : a.eval f = z at *
  cases hV with
  | @func f l l' p q =>
  have hargs := opds_V' (a := a) hg hs c.args
  refine ⟨c.args.map a.eval ++ l'.toArray, ?_, by simpa using hargs.append ⟨p, q⟩⟩
  obtain ⟨callee, args, ats⟩ := c
  simp only at hf
  subst hf
  obtain ⟨dst, op, ty, pos, aft, gd⟩ := o
  simp only at ho
  subst ho
  simp [execOp, resolve, hq, Deferred.ofValue, invoke, callFunc, hfu]
  rw [if_neg (by simpa using hn), if_neg (by intro h; rw [h] at hb; simp at hb)]

/-- One operation. -/
theorem op_step {call : Nat → List AV → List Row → Option (AV × List Row × Option Nat)} (hcall : CallOK P gl call) {ops : Array Oper} {i : Nat} {o : Oper} (ho : ops[i]? = some o) {θ : Th} {sl : List AV} {rows : List Row} {low : Nat} {w : World} {a : Act} {v : AV} {rows' : List Row} {low' : Nat}
    (hop : opR call sl rows low (copx P gl ops o) = some (v, rows', low')) (hr : HRel (KP P gl) θ rows w) (hg : GRel θ gl) (hs : SRel θ sl a.tmps) (hlow : low ≤ rows.length) (b : Frame) (rest : List Nat) (k : List Item) (cs : List Frame) :
    ∃ θ' w' v', Steps P (lone (b.atR a (.inRegion ops (i :: rest) :: k)) cs w) (lone (b.atR (a.put o.dst v') (.inRegion ops rest :: k)) cs w') ∧ V θ' v v' ∧ Fr (KP P gl) θ θ' rows rows' low low' w w' := by
  unfold opR at hop
  split at hop
  · simp at hop
  · rename_i hw
    simp only [Option.some.injEq, Prod.mk.injEq] at hop
    obtain ⟨rfl, rfl, rfl⟩ := hop
    have hwr : Region.wanted o (yielded ops a.tmps) = false := by
      unfold copx at hw
      split at hw
      · rename_i g i' e1 e2; exact want_sound hs e1 hw
      · rename_i g e1 e2; exact want_sound hs e1 hw
      · simp [want] at hw
    have hst := stepR_op_skip (P := P) (b := b) (a := a) (k := k) (cs := cs) (w := w) (ops := ops) (i := i) (rest := rest) (by simp [ho, hwr])
    simp only [ho, Option.bind_some] at hst
    exact ⟨θ, w, undef, .one hst, V_undef θ, Fr.refl hr low⟩
  · rename_i hw
    have hbad : (copx P gl ops o).op ≠ .bad := by
      intro e
      rw [e] at hop
      simp [evalE, evalP] at hop
    obtain ⟨g, h1, h2, h3, h4⟩ := copx_bad hbad
    rw [h3] at hw
    have hwr := want_sound hs h1 hw
    have hd := cop_no_defer h2
    split at hop
    · rename_i f args e
      rw [e] at h2
      split at hop
      · rename_i fid vs ht
        split at hop
        · rename_i v0 rows0 d hc
          simp only [Option.some.injEq, Prod.mk.injEq] at hop
          obtain ⟨rfl, rfl, rfl⟩ := hop
          have hoc : ∃ c ff, o.op = .call c ∧ c.callee = .value ff ∧ f = co gl ff ∧ args = c.args.toList.map (co gl) := by
            obtain ⟨dst, op, ty, pos, aft, gd⟩ := o
            cases op <;> simp only [cop, reduceCtorEq] at h2
            case call c =>
              obtain ⟨callee, cargs, ats⟩ := c
              cases callee with
              | value ff =>
                simp only [Option.some.injEq, IOp.call.injEq] at h2
                exact ⟨_, ff, rfl, rfl, h2.1.symm, h2.2.symm⟩
              | invoke r m => simp at h2
              | builtin bb =>
                cases bb <;> simp only [reduceCtorEq] at h2
                all_goals
                  repeat' split at h2
                  all_goals first
                    | (simp at h2; done)
                    | (simp only [Option.map_eq_some_iff] at h2; obtain ⟨_, _, h2⟩ := h2; simp at h2; done)
            case makeFunc fn fi cs =>
              cases fn <;> simp only [reduceCtorEq] at h2
              split at h2 <;> simp at h2
            all_goals
              repeat' split at h2
              all_goals first
                | (simp at h2; done)
                | (simp only [Option.map_eq_some_iff] at h2; obtain ⟨_, _, h2⟩ := h2; simp at h2; done)
                | contradiction
          obtain ⟨c, ff, o1, o2, rfl, rfl⟩ := hoc
          have pre := fun args hv => hcall fid vs rows v0 rows0 d hc θ w args (b.atR a (.inRegion ops (i :: rest) :: k) :: cs) low hr hg hv hlow
          -- the function is there, whatever it is called with
          have hex : ∃ func, P.funcs[fid]? = some func ∧ func.body.isNone = false ∧ (func.name == "runtime.NumGoroutine") = false := by
            have hv0 : ∃ args : Array Value, VL θ vs args.toList := by
              unfold target at ht
              split at ht
              case h_2 => simp at ht
              rename_i f' caps e
              simp only [Option.some.injEq, Prod.mk.injEq] at ht
              obtain ⟨rfl, rfl⟩ := ht
              have hV := opd_V hg hs ff
              rw [e] at hV
              generalize hq : a.eval ff = z at *
              cases hV with
              | @func f l l' p q => exact ⟨c.args.map a.eval ++ l'.toArray, by simpa using (opds_V' (a := a) hg hs c.args).append ⟨p, q⟩⟩
            obtain ⟨args, hv⟩ := hv0
            exact (pre args hv).1
          obtain ⟨func, f1, f2, f3⟩ := hex
          obtain ⟨args, hrun, hv⟩ := target_run (P := P) (w := w) hg hs o1 o2 ht f1 f2 f3
          obtain ⟨_, θ', w', fr, v', s1, s2, s3, s4⟩ := pre args hv
          have henter := step_enter (P := P) (b := b) (k := k) (cs := cs) (rest := rest) ho hwr hd hrun
          have hfin : (b.atR a (.inRegion ops (i :: rest) :: k)).finish v' = b.atR (a.put o.dst v') (.inRegion ops rest :: k) := by
            rw [Frame.finish_atR, ho]; rfl
          refine ⟨θ', w', v', .head henter (s1.trans (.one ?_)), s3, s4⟩
          rw [← hfin]; exact step_leave_returned s2
        · simp at hop
      · simp at hop
    · rename_i hne
      obtain ⟨θ', w', nv, v', r1, r2, r3, r4⟩ := evalE_sound h2 (fun f args e => hne f args e) hop hr hg hs hlow
      exact ⟨θ', w', v', .one (step_value ho hwr hd r1 r2), r3, r4⟩
end
end Go.Abs
