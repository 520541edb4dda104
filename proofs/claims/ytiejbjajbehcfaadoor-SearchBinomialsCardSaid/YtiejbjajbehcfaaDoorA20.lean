/- Loops over functions: the record, the marks, a round. -/
import Derived.Test.YtiejbjajbehcfaaDoorA19b
import Derived.RangeFuncNested
set_option linter.unusedVariables false
set_option linter.unusedSimpArgs false
namespace Go.Abs
variable {κ : KRel}
section
variable {θ : Th} {rows : List Row} {w w' : World}

/-- A block that nobody knows is laid. -/
theorem Fr.garbage (h : HRel κ θ rows w) (low : Nat) (o : Obj) : Fr κ θ θ rows rows low low w (w.alloc o) := by
  have hold : ∀ b, b < w.heap.size → (w.alloc o).heap[b]? = w.heap[b]? := fun b hb => by
    show (w.heap.push o)[b]? = w.heap[b]?
    rw [Array.getElem?_push_lt hb, Array.getElem?_eq_getElem hb]
  exact ⟨Ext.refl _, ⟨h.dom, fun id L e => by have := h.blk id L e; show L.b < (w.heap.push o).size; simp; omega, fun id r e => (h.row id r e).mono (Ext.refl _) (fun L hL => hold _ (h.blk id L hL)), h.inj⟩,
    Nat.le_refl _, Nat.le_refl _, rfl, rfl, rfl, by show _ ≤ (w.heap.push o).size; simp, fun _ _ => rfl, fun b hb _ => hold b hb, fun id r a b _ => ⟨r, a, b⟩, fun id r a b _ => ⟨r, a, b⟩, fun id L a b => by rw [a] at b; simp at b⟩

/-- A block that nobody knows, and that is younger than the frame, is turned. -/
theorem Fr.other {θ0 : Th} {rows0 : List Row} {low0 low : Nat} {w0 : World} (h : Fr κ θ0 θ rows0 rows low0 low w0 w) (r : Nat) (o : Obj) (hr : w0.heap.size ≤ r) (hn : ∀ id L, θ id = some L → L.b ≠ r) :
    Fr κ θ0 θ rows0 rows low0 low w0 (w.putObj r o) := by
  have hold : ∀ b, b ≠ r → (w.putObj r o).heap[b]? = w.heap[b]? := fun b hb => World.putObj_heap_other hb
  exact ⟨h.ext, ⟨h.rel.dom, fun id L e => by rw [World.putObj_size]; exact h.rel.blk id L e, fun id s e => (h.rel.row id s e).mono (Ext.refl _) (fun L hL => hold _ (hn id L hL)), h.rel.inj⟩,
    h.len, h.low, h.os, h.tape, h.output, by rw [World.putObj_size]; exact h.size, h.keepA, fun b hb q => by rw [hold b (by omega)]; exact h.keepB b hb q, h.own, h.alive, h.fresh⟩

/-- The marks among a frame's deferred calls: blocks that nobody knows, made in the frame's own time. -/
structure Marks (n0 : Nat) (θ : Th) (w : World) (ds : List Deferred) : Prop where
  all : ∀ d ∈ ds, ∃ r, d.target = .collected r ∧ n0 ≤ r ∧ r < w.heap.size ∧ w.heap[r]? = some (.deferred (some [])) ∧ ∀ id L, θ id = some L → L.b ≠ r
  nodup : (ds.map (·.target)).Nodup

theorem Marks.nil (n0 : Nat) (θ : Th) (w : World) : Marks n0 θ w [] := ⟨fun d h => by simp at h, List.nodup_nil⟩

theorem Marks.frame {n0 : Nat} {θ' : Th} {rows' : List Row} {low low' : Nat} {ds : List Deferred} (hr : HRel κ θ rows w) (h : Marks n0 θ w ds) (hF : Fr κ θ θ' rows rows' low low' w w') : Marks n0 θ' w' ds := by
  refine ⟨fun d hd => ?_, h.nodup⟩
  obtain ⟨r, h1, h2, h3, h4, h5⟩ := h.all d hd
  refine ⟨r, h1, h2, Nat.lt_of_lt_of_le h3 hF.size, ?_, fun id L hL => ?_⟩
  · rw [hF.keepB r h3 (fun id s L _ _ _ e => h5 id L e)]; exact h4
  · cases e : θ id with
    | some L0 =>
      have := hF.ext id L0 e
      rw [hL] at this; injection this with this; subst this
      exact h5 id L e
    | none =>
      rcases (hF.fresh id L hL e).2 with f | ⟨j, s, L', _, _, _, q, u⟩
      · omega
      · rw [← u]; exact h5 j L' q

theorem Marks.cons {n0 : Nat} {ds : List Deferred} (h : Marks n0 θ w ds) (hn : n0 ≤ w.heap.size) (hb : ∀ id L, θ id = some L → L.b < w.heap.size) :
    Marks n0 θ (w.alloc (.deferred (some []))) ({ target := .collected w.heap.size, args := #[] } :: ds) := by
  have hsz : (w.alloc (.deferred (some []))).heap.size = w.heap.size + 1 := by show (w.heap.push _).size = _; simp
  refine ⟨fun d hd => ?_, ?_⟩
  · rw [List.mem_cons] at hd
    rcases hd with rfl | hd
    · exact ⟨w.heap.size, rfl, hn, by omega, World.alloc_heap_new w _, fun id L e => by have := hb id L e; omega⟩
    · obtain ⟨r, h1, h2, h3, h4, h5⟩ := h.all d hd
      refine ⟨r, h1, h2, by omega, ?_, h5⟩
      show (w.heap.push _)[r]? = _
      rw [Array.getElem?_push_lt h3, ← h4, Array.getElem?_eq_getElem h3]
  · rw [List.map_cons, List.nodup_cons]
    refine ⟨fun hm => ?_, h.nodup⟩
    obtain ⟨d, hd, e⟩ := List.mem_map.1 hm
    obtain ⟨r, h1, _, h3, _⟩ := h.all d hd
    rw [h1] at e
    injection e with e
    omega

/-- A frame on its way out comes to its marks. -/
theorem unwind_marks {P : Program} {θ0 : Th} {rows0 : List Row} {low0 low : Nat} {w0 : World} (cs : List Frame) : ∀ (ds : List Deferred) (w : World) (fr : Frame), fr.mode = .returning → fr.defers = ds → Marks w0.heap.size θ w ds → Fr κ θ0 θ rows0 rows low0 low w0 w →
    ∃ w', Steps P (lone fr cs w) (lone { fr with defers := [] } cs w') ∧ Fr κ θ0 θ rows0 rows low0 low w0 w'
  | [], w, fr, hm, hd, _, hF => ⟨w, by rw [← hd]; exact Steps.refl _ _, hF⟩
  | d :: ds, w, fr, hm, hd, hM, hF => by
    obtain ⟨r, h1, h2, h3, h4, h5⟩ := hM.all d (by simp)
    have hst := step_collected (P := P) (cs := cs) (fr := fr) (by rw [hm]; simp) hd h1 (run_takeDeferred h4)
    have hnd := hM.nodup
    rw [List.map_cons, List.nodup_cons] at hnd
    have hM' : Marks w0.heap.size θ (w.putObj r (.deferred none)) ds := by
      refine ⟨fun e he => ?_, hnd.2⟩
      obtain ⟨q, q1, q2, q3, q4, q5⟩ := hM.all e (by simp [he])
      refine ⟨q, q1, q2, by rw [World.putObj_size]; exact q3, ?_, q5⟩
      rw [World.putObj_heap_other]
      · exact q4
      · rintro rfl
        exact hnd.1 (by rw [h1, ← q1]; exact List.mem_map_of_mem he)
    obtain ⟨w', s1, s2⟩ := unwind_marks (P := P) cs ds (w.putObj r (.deferred none)) { fr with defers := ds } hm rfl hM' (hF.other r _ h2 h5)
    exact ⟨w', .head (by simpa using hst) s1, s2⟩
end

section
variable {P : Program} {gl : List Nat}

/-- A call of a loop's yield: the round's frame. -/
theorem step_yield {b : Frame} {a : Act} {k : List Item} {cs : List Frame} {w : World} {ops : Array Oper} {i : Nat} {rest : List Nat} {o : Oper} (ho : ops[i]? = some o) (hw : Region.wanted o (yielded ops a.tmps) = true) {c : Call} (hc : o.op = .call c) {f : Operand} (hf : c.callee = .value f) {l : Nat}
    (hv : a.eval f = .func (.yield l) #[] #[]) {r : Loop} (hr : w.heap[l]? = some (.loop r)) (hs : c.args.size = r.params.size) :
    step P (lone (b.atR a (.inRegion ops (i :: rest) :: k)) cs w) =
      .next (lone (Frame.round l r.fn ((r.params.zip (c.args.map a.eval)).foldl (fun tmps (t, x) => tmps.setIfInBounds t x) r.tmps) r.assign r.body .normal) (b.atR a (.inRegion ops (i :: rest) :: k) :: cs) w) := by
  have hg := stepGR_op (P := P) (b := b) (a := a) (k := k) (cs := cs) (w := w) (rest := rest) ho hw
  rw [semAt_of (by rw [hc]; intro c h; cases h)] at hg
  refine step_lone_go ?_
  rw [hg]
  obtain ⟨callee, args, ats⟩ := c
  simp only at hf
  subst hf
  obtain ⟨dst, op, ty, pos, aft, gd⟩ := o
  simp only at hc
  subst hc
  have hrun : (execOp a.eval { dst := dst, op := .call { callee := .value f, args := args, argTypes := ats }, type := ty, pos := pos, after := aft, guard := gd }).run P w =
      .ok (.round l r.fn ((r.params.zip (args.map a.eval)).foldl (fun tmps (t, x) => tmps.setIfInBounds t x) r.tmps) r.assign r.body) w := by
    simp only [execOp, resolve, hv, Deferred.ofValue, Sem.run_bind, Sem.run_pure, Result.andThen_ok, invoke]
    rw [Array.empty_append]
    exact run_yield (args := args.map a.eval) hr (by simpa using hs)
  simp [stepG.apply, hrun, Sem.runT_eq, Frame.atR]

theorem SRel.putL {θ : Th} : ∀ (ps : List Nat) {vs : List AV} {xs : List Value} {sl : List AV} {t : Array Value}, SRel θ sl t → VL θ vs xs → SRel θ (Abs.putL sl ps vs) ((ps.zip xs).foldl (fun tmps p => tmps.setIfInBounds p.1 p.2) t)
  | [], vs, xs, sl, t, h, _ => by simpa [Abs.putL] using h
  | p :: ps, vs, xs, sl, t, h, hv => by
    cases vs with
    | nil =>
      have : xs = [] := List.length_eq_zero_iff.1 hv.1.symm
      subst this
      simpa [Abs.putL] using h
    | cons v vs =>
      obtain ⟨x, xs', rfl, h1, h2⟩ := hv.of_cons
      have := SRel.putL ps (vs := vs) (xs := xs') (h.put (a := { tmps := t, defers := [] }) (some p) h1) h2
      simpa [Abs.putL, putO, Act.put] using this

theorem rows_under {θ : Th} {rows : List Row} {w : World} {id : Nat} {st : LoopState} {pend : Option Jump} {sl : List AV} {ps : List Nat} {asg body : ICode} (hr : HRel κ θ rows w) (h : rows[id]? = some (.loop st pend sl ps asg body)) {L : Loc} (hL : θ id = some L) :
    ∃ r, w.heap[L.b]? = some (.loop r) ∧ r.state = st ∧ r.pending = pend.map Jump.code ∧ VL θ sl r.tmps.toList ∧ r.params.toList = ps ∧ κ asg r.assign ∧ κ body r.body := by
  obtain ⟨L', r, h1, h2⟩ := hr.row id _ h
  rw [hL] at h1
  injection h1 with h1
  subst h1
  exact ⟨r, h2⟩

theorem SRel.of_VL {θ : Th} {sl : List AV} {t : Array Value} (h : VL θ sl t.toList) : SRel θ sl t := ⟨by have := h.1; simpa using this, fun i x x' a b => h.2 i x x' a (by simpa using b)⟩
theorem SRel.VL {θ : Th} {sl : List AV} {t : Array Value} (h : SRel θ sl t) : VL θ sl t.toList := ⟨by have := h.size; simpa using this, fun i x x' a b => h.at_ i x x' a (by simpa using b)⟩
theorem cop_call {o : Oper} {f : Opd} {args : List Opd} (h2 : cop P gl o = some (.call f args)) : ∃ c ff, o.op = .call c ∧ c.callee = .value ff ∧ f = co gl ff ∧ args = c.args.toList.map (co gl) := by
  obtain ⟨dst, op, ty, pos, aft, gd⟩ := o
  cases op <;> simp only [cop, reduceCtorEq] at h2
  case call c =>
    obtain ⟨callee, cargs, ats⟩ := c
    cases callee with
    | value ff =>
      simp only [Option.some.injEq, IOp.call.injEq] at h2
      exact ⟨_, ff, rfl, rfl, h2.1.symm, h2.2.symm⟩
    | invoke r m => simp at h2
    | builtin bb =>
      cases bb <;> simp only [reduceCtorEq] at h2
      all_goals
        repeat' split at h2
        all_goals first
          | (simp at h2; done)
          | (simp only [Option.map_eq_some_iff] at h2; obtain ⟨_, _, h2⟩ := h2; simp at h2; done)
  case makeFunc fn fi cs =>
    cases fn <;> simp only [reduceCtorEq] at h2
    split at h2 <;> simp at h2
  all_goals
    repeat' split at h2
    all_goals first
      | (simp at h2; done)
      | (simp only [Option.map_eq_some_iff] at h2; obtain ⟨_, _, h2⟩ := h2; simp at h2; done)
      | contradiction

/-- What a context asks of the frame. -/
def CxOK (P : Program) (θ : Th) (b : Frame) : Ctx → Prop
  | .fn res => b.roundOf = none ∧ ∃ func, P.funcs[b.fn]? = some func ∧ cres P func.results.toList = some res
  | .round id => ∃ L, θ id = some L ∧ b.roundOf = some L.b
theorem CxOK.mono {θ θ' : Th} (h : Ext θ θ') {b : Frame} : ∀ {cx : Ctx}, CxOK P θ b cx → CxOK P θ' b cx
  | .fn _, k => k
  | .round _, ⟨L, a, c⟩ => ⟨L, h _ _ a, c⟩

/-- What is asked of its deferred calls. -/
def DefsOK (cx : Ctx) (n0 : Nat) (θ : Th) (w : World) (ds : List Deferred) : Prop :=
  match cx with
  | .fn _ => Marks n0 θ w ds
  | .round _ => ds = []
theorem DefsOK.frame {cx : Ctx} {n0 : Nat} {θ θ' : Th} {rows rows' : List Row} {low low' : Nat} {w w' : World} {ds : List Deferred} (hr : HRel κ θ rows w) (h : DefsOK cx n0 θ w ds) (hF : Fr κ θ θ' rows rows' low low' w w') : DefsOK cx n0 θ' w' ds := by
  cases cx with
  | fn res => exact Marks.frame hr h hF
  | round id => exact h

/-- How a frame ends. -/
def Ends (P : Program) (cx : Ctx) (b : Frame) (m : Machine) (cs : List Frame) (w' : World) (v' : Value) : Prop :=
  match cx with
  | .fn _ => ∃ fr, Steps P m (lone fr cs w') ∧ fr.fn = b.fn ∧ fr.leaving P w' (.returned v')
  | .round _ => ∀ c cs', cs = c :: cs' → Steps P m (lone (c.finish v') cs' w')
theorem Ends.head {cx : Ctx} {b : Frame} {m m1 : Machine} {cs : List Frame} {w' : World} {v' : Value} (h : Steps P m m1) (k : Ends P cx b m1 cs w' v') : Ends P cx b m cs w' v' := by
  cases cx with
  | fn res => obtain ⟨fr, a, c⟩ := k; exact ⟨fr, h.trans a, c⟩
  | round id => exact fun c cs' e => h.trans (k c cs' e)

theorem rf_enter {cx : Ctx} {θ : Th} {rows : List Row} {w : World} {b : Frame} {a : Act} {n0 : Nat} (hcx : CxOK P θ b cx) (hok : rfOk cx rows = true) (hr : HRel κ θ rows w) (low : Nat) (hD : DefsOK cx n0 θ w a.defers) (hn : n0 ≤ w.heap.size) (ps : Array Tmp) (x y : Code) :
    ∃ wm mark dn, Fr κ θ θ rows rows low low w wm ∧ DefsOK cx n0 θ wm (mark ++ a.defers) ∧
      (Instr.enterLoop b.fn a.tmps ps x y b.roundOf).run P w = .ok (wm.heap.size, mark) (wm.alloc (.loop { state := .ready, pending := none, fn := b.fn, tmps := a.tmps, params := ps, assign := x, body := y, defers := dn })) := by
  cases cx with
  | fn res =>
    refine ⟨w.alloc (.deferred (some [])), [{ target := .collected w.heap.size, args := #[] }], w.heap.size, Fr.garbage hr low _, Marks.cons hD hn hr.blk, ?_⟩
    rw [hcx.1, run_enterLoop_outer, World.size_alloc]
  | round id =>
    obtain ⟨L, h1, h2⟩ := hcx
    simp only [rfOk] at hok
    split at hok
    · rename_i st pend sl ps' asg body e
      obtain ⟨r, r1, _⟩ := rows_under hr e h1
      refine ⟨w, [], r.defers, Fr.refl hr low, hD, ?_⟩
      rw [h2, run_enterLoop_inner r1]
    · simp at hok
end
end Go.Abs
