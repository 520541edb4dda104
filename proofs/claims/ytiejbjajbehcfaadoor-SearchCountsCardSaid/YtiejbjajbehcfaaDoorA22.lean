/- The evaluator without its number of rounds. -/
import Derived.Test.YtiejbjajbehcfaaDoorA21
set_option linter.unusedVariables false
set_option linter.unusedSimpArgs false
namespace Go.Abs

/-! ### More rounds do no harm -/
def LeC (c c' : CallF) : Prop := ∀ f vs rows r, c f vs rows = some r → c' f vs rows = some r

theorem opR_mono {c c' : CallF} (h : LeC c c') {sl : List AV} {rows : List Row} {low : Nat} {o : IOpx} {r : AV × List Row × Nat} (e : opR c sl rows low o = some r) : opR c' sl rows low o = some r := by
  unfold opR at e ⊢
  split at e
  · simp at e
  · exact e
  · split at e
    · split at e
      · split at e
        · rename_i hc
          rw [h _ _ _ _ hc]
          exact e
        · simp at e
      · simp at e
    · exact e

theorem evalG_mono {c c' : CallF} (h : LeC c c') {rows : List Row} : ∀ (l : List (IOpx × Nat)) (i : Nat) (sl : List AV) (ext : List (Nat × Row)) (r : List AV × List (Nat × Row)), evalG c rows i l sl ext = some r → evalG c' rows i l sl ext = some r
  | [], i, sl, ext, r, e => e
  | (o, b) :: l, i, sl, ext, r, e => by
    simp only [evalG] at e ⊢
    split at e
    · rename_i hop
      rw [opR_mono h hop]
      simp only
      split at e
      · rename_i hl
        rw [if_pos hl]
        exact evalG_mono h l _ _ _ _ e
      · simp at e
    · simp at e

section
variable {F : Nat → Option IFn}

/-- The calls with so many rounds. -/
abbrev cF (F : Nat → Option IFn) (n : Nat) : CallF := callBy F (exec F n)

theorem cF_mono {n n' : Nat} (h : ∀ cx k s r, exec F n cx k s = some r → exec F n' cx k s = some r) : LeC (cF F n) (cF F n') := by
  intro f vs rows r e
  unfold cF callBy at e ⊢
  split at e
  · rename_i fn hfn
    unfold callR at e
    split at e
    · rename_i hx
      simp only [h _ _ _ _ hx, callR]
      exact e
    · simp at e
  · simp at e

theorem exec_succ : ∀ (n : Nat) (cx : Ctx) (k : List Itm) (s : St) (r : AV × List Row × Nat), exec F n cx k s = some r → exec F (n + 1) cx k s = some r := by
  intro n
  induction n with
  | zero => intro cx k s r h; simp [exec] at h
  | succ n ih =>
    intro cx k s r h
    have hc : LeC (cF F n) (cF F (n + 1)) := cF_mono ih
    cases k with
    | nil => simp only [exec] at h ⊢; exact h
    | cons x k =>
      cases x with
      | inBlock id => simp only [exec] at h ⊢; exact ih _ _ _ _ h
      | inScope c => simp only [exec] at h ⊢; exact ih _ _ _ _ h
      | inLoop c => simp only [exec, St.force_eq] at h; rw [exec, St.force_eq]; exact ih _ _ _ _ h
      | rfBegin =>
        simp only [exec] at h ⊢
        split at h
        · split at h
          · exact ih _ _ _ _ h
          · simp at h
        · simp at h
      | ops l =>
        cases l with
        | nil => simp only [exec] at h ⊢; exact ih _ _ _ _ h
        | cons sg l =>
          cases sg with
          | one o =>
            rw [exec] at h ⊢
            split at h
            · rename_i id vs hy
              split at h
              · split at h
                · rename_i hl
                  split at h
                  · rename_i hx
                    simp only [if_pos hl, ih _ _ _ _ hx]
                    exact ih _ _ _ _ h
                  · simp at h
                · simp at h
              · simp at h
            · split at h
              · rename_i hop
                rw [show opR (callBy F (exec F (n + 1))) s.sl s.rows s.low o = _ from opR_mono hc hop]
                exact ih _ _ _ _ h
              · simp at h
          | grp g =>
            rw [exec] at h ⊢
            split at h
            · rename_i hop
              rw [show evalG (callBy F (exec F (n + 1))) s.rows 0 g s.sl [] = _ from evalG_mono hc _ _ _ _ _ hop]
              exact ih _ _ _ _ h
            · simp at h
          | grpw a x z g =>
            rw [exec] at h ⊢
            split at h
            · rename_i hop
              rw [show evalG (callBy F (exec F (n + 1))) (s.rows.set (rowOf s.rows s.sl g a) .dead) 0 g s.sl [] = _ from evalG_mono hc _ _ _ _ _ hop]
              simp only
              split at h
              · exact ih _ _ _ _ h
              · simp at h
            · simp at h
          | stop => simp [exec] at h
      | code c =>
        cases c with
        | skip => simp only [exec] at h ⊢; exact ih _ _ _ _ h
        | ret => simp only [exec] at h ⊢; exact h
        | exit id =>
          simp only [exec] at h ⊢
          split at h
          · exact ih _ _ _ _ h
          · exact h
        | seq a b => rw [exec] at h ⊢; exact ih _ _ _ _ h
        | cond c a b =>
          rw [exec] at h ⊢
          split at h
          · exact ih _ _ _ _ h
          · simp at h
        | block id c => rw [exec] at h ⊢; exact ih _ _ _ _ h
        | loop c => rw [exec] at h ⊢; exact ih _ _ _ _ h
        | scope c => rw [exec] at h ⊢; exact ih _ _ _ _ h
        | ops l => simp only [exec, St.forceS_eq] at h ⊢; exact ih _ _ _ _ h
        | rf f ps a b =>
          rw [exec] at h ⊢
          split at h
          · rename_i hok
            rw [if_pos hok]
            split at h
            · split at h
              · rename_i hop
                rw [show callBy F (exec F (n + 1)) _ _ _ = _ from hc _ _ _ _ hop]
                simp only
                split at h
                · exact ih _ _ _ _ h
                · simp at h
              · simp at h
            · simp at h
          · simp at h
        | kill l c => rw [exec] at h ⊢; exact ih _ _ _ _ h
        | stop => simp [exec] at h

theorem exec_le {n n' : Nat} (hn : n ≤ n') {cx : Ctx} {k : List Itm} {s : St} {r : AV × List Row × Nat} (h : exec F n cx k s = some r) : exec F n' cx k s = some r := by
  induction hn with
  | refl => exact h
  | step _ ih => exact exec_succ _ _ _ _ _ ih

/-- What the code comes to. -/
def Ex (F : Nat → Option IFn) (cx : Ctx) (k : List Itm) (s : St) (R : AV × List Row × Nat → Prop) : Prop := ∃ n r, exec F n cx k s = some r ∧ R r
/-- What a call comes to. -/
def Cl (F : Nat → Option IFn) (f : Nat) (vs : List AV) (rows : List Row) (R : AV × List Row × Option Nat → Prop) : Prop := ∃ n r, cF F n f vs rows = some r ∧ R r

theorem Cl.mk {f : Nat} {fn : IFn} {vs : List AV} {rows : List Row} {R : AV × List Row × Option Nat → Prop} (hf : F f = some fn) (h : Ex F (.fn fn.res) [.code fn.body] (init fn vs rows) fun r => R (fin rows r.1 r.2.1 r.2.2)) : Cl F f vs rows R := by
  obtain ⟨n, r, h, hr⟩ := h
  refine ⟨n, _, ?_, hr⟩
  unfold cF callBy
  rw [hf]
  simp only [h, callR]

theorem Cl.imp {f : Nat} {vs : List AV} {rows : List Row} {R R' : AV × List Row × Option Nat → Prop} (h : Cl F f vs rows R) (k : ∀ r, R r → R' r) : Cl F f vs rows R' := by
  obtain ⟨n, r, a, b⟩ := h
  exact ⟨n, r, a, k r b⟩

variable {cx : Ctx} {k : List Itm} {s : St} {r : AV × List Row × Nat → Prop} {sl : List AV} {rows : List Row} {low : Nat}

theorem Ex.imp {r' : AV × List Row × Nat → Prop} (h : Ex F cx k s r) (hk : ∀ x, r x → r' x) : Ex F cx k s r' := by
  obtain ⟨n, x, a, b⟩ := h
  exact ⟨n, x, a, hk x b⟩

theorem Ex.step {k' : List Itm} {s' : St} (e : ∀ n, exec F (n + 1) cx k s = exec F n cx k' s') : Ex F cx k s r ↔ Ex F cx k' s' r := by
  constructor
  · rintro ⟨n, x, h, hx⟩
    cases n with
    | zero => simp [exec] at h
    | succ n => exact ⟨n, x, by rw [← e n]; exact h, hx⟩
  · rintro ⟨n, x, h, hx⟩
    exact ⟨n + 1, x, by rw [e n]; exact h, hx⟩
theorem Ex.leave {j : Option Jump} (e : ∀ n, exec F (n + 1) cx k s = leaveV cx j s) : Ex F cx k s r ↔ ∃ x, leaveV cx j s = some x ∧ r x := by
  constructor
  · rintro ⟨n, x, h, hx⟩
    cases n with
    | zero => simp [exec] at h
    | succ n => exact ⟨x, by rw [← e n]; exact h, hx⟩
  · rintro ⟨x, h, hx⟩
    exact ⟨1, x, by rw [e 0]; exact h, hx⟩
theorem Ex.no (e : ∀ n, exec F (n + 1) cx k s = none) : ¬ Ex F cx k s r := by
  rintro ⟨n, x, h, hx⟩
  cases n with
  | zero => simp [exec] at h
  | succ n => rw [e n] at h; simp at h

theorem Ex_nil : Ex F cx [] s r ↔ ∃ x, leaveV cx none s = some x ∧ r x := Ex.leave fun n => by rw [exec]
theorem Ex_ret : Ex F cx (.code .ret :: k) s r ↔ ∃ x, leaveV cx (some .ret) s = some x ∧ r x := Ex.leave fun n => by rw [exec]
theorem Ex_inBlock {id : Nat} : Ex F cx (.inBlock id :: k) s r ↔ Ex F cx k s r := Ex.step fun n => by rw [exec]
theorem Ex_inScope {c : ICode} : Ex F cx (.inScope c :: k) s r ↔ Ex F cx k s r := Ex.step fun n => by rw [exec]
theorem Ex_inLoop {c : ICode} : Ex F cx (.inLoop c :: k) s r ↔ Ex F cx (.code c :: .inLoop c :: k) s r := Ex.step fun n => by rw [exec, St.force_eq]
theorem Ex_skip : Ex F cx (.code .skip :: k) s r ↔ Ex F cx k s r := Ex.step fun n => by rw [exec]
theorem Ex_seq {a b : ICode} : Ex F cx (.code (.seq a b) :: k) s r ↔ Ex F cx (.code a :: .code b :: k) s r := Ex.step fun n => by rw [exec]
theorem Ex_block {id : Nat} {c : ICode} : Ex F cx (.code (.block id c) :: k) s r ↔ Ex F cx (.code c :: .inBlock id :: k) s r := Ex.step fun n => by rw [exec]
theorem Ex_loop {c : ICode} : Ex F cx (.code (.loop c) :: k) s r ↔ Ex F cx (.code c :: .inLoop c :: k) s r := Ex.step fun n => by rw [exec]
theorem Ex_scope {c : ICode} : Ex F cx (.code (.scope c) :: k) s r ↔ Ex F cx (.code c :: .inScope c :: k) s r := Ex.step fun n => by rw [exec]
theorem Ex_ops {l : List Seg} : Ex F cx (.code (.ops l) :: k) s r ↔ Ex F cx (.ops l :: k) s r := Ex.step fun n => by simp only [exec, St.forceS_eq]
theorem Ex_kill {l : List Nat} {c : ICode} : Ex F cx (.code (.kill l c) :: k) ⟨sl, rows, low⟩ r ↔ Ex F cx (.code c :: k) ⟨killS sl l, rows, low⟩ r := Ex.step fun n => by rw [exec]
theorem Ex_opsNil : Ex F cx (.ops [] :: k) s r ↔ Ex F cx k s r := Ex.step fun n => by rw [exec]
theorem Ex_cond {c : Opd} {a b : ICode} : Ex F cx (.code (.cond c a b) :: k) ⟨sl, rows, low⟩ r ↔ ∃ t, getO sl c = .bool t ∧ Ex F cx (.code (if t then a else b) :: k) ⟨sl, rows, low⟩ r := by
  cases h : getO sl c with
  | bool t =>
    rw [Ex.step (k' := .code (if t then a else b) :: k) (s' := ⟨sl, rows, low⟩) (fun n => by rw [exec]; simp only [h])]
    simp
  | _ =>
    constructor
    · intro e
      exact absurd e (Ex.no fun n => by rw [exec]; simp only [h])
    · rintro ⟨t, e, _⟩; simp at e
theorem Ex_exit {id : Nat} : Ex F cx (.code (.exit id) :: k) s r ↔ match popTo id k with | some k' => Ex F cx k' s r | none => ∃ x, leaveV cx (some (.exit id)) s = some x ∧ r x := by
  split
  · rename_i k' h
    exact Ex.step fun n => by rw [exec]; simp only [h]
  · rename_i h
    exact Ex.leave fun n => by rw [exec]; simp only [h]

/-- An operation that is no call. -/
def IOp.plain : IOp → Bool
  | .call .. => false
  | _ => true
theorem Ex_op {o : IOpx} {l : List Seg} (ho : o.op.plain = true) : Ex F cx (.ops (.one o :: l) :: k) ⟨sl, rows, low⟩ r ↔ ∃ c, want sl o.g = some c ∧
    (if c then ∃ v rows' low', evalE (getO sl) rows low o.op = some (v, rows', low') ∧ Ex F cx (.ops l :: k) ⟨putO sl o.dst v, rows', low'⟩ r else Ex F cx (.ops l :: k) ⟨putO sl o.dst (.tup []), rows, low⟩ r) := by
  have hy : yieldOf sl o = none := by
    unfold yieldOf
    split
    · rename_i e; rw [e] at ho; simp [IOp.plain] at ho
    · rfl
  have hop : ∀ call : CallF, opR call sl rows low o = match want sl o.g with | none => none | some false => some (.tup [], rows, low) | some true => evalE (getO sl) rows low o.op := fun call => by
    unfold opR
    split
    · simp [*]
    · simp [*]
    · rename_i hw
      rw [hw]
      simp only
      split
      · rename_i e; rw [e] at ho; simp [IOp.plain] at ho
      · rfl
  cases hw : want sl o.g with
  | none =>
    constructor
    · intro e
      exact absurd e (Ex.no fun n => by rw [exec]; simp [hy, hop, hw])
    · rintro ⟨c, e, _⟩; simp at e
  | some c =>
    cases c with
    | false =>
      rw [Ex.step (k' := .ops l :: k) (s' := ⟨putO sl o.dst (.tup []), rows, low⟩) (fun n => by rw [exec]; simp only [hy, hop, hw])]
      simp
    | true =>
      cases he : evalE (getO sl) rows low o.op with
      | none =>
        constructor
        · intro e
          exact absurd e (Ex.no fun n => by rw [exec]; simp [hy, hop, hw, he])
        · rintro ⟨c, e, h⟩
          injection e with e; subst e
          simp at h
      | some q =>
        obtain ⟨v, rows', low'⟩ := q
        rw [Ex.step (k' := .ops l :: k) (s' := ⟨putO sl o.dst v, rows', low'⟩) (fun n => by rw [exec]; simp only [hy, hop, hw, he])]
        constructor
        · intro h; exact ⟨true, rfl, by rw [if_pos rfl]; exact ⟨v, rows', low', rfl, h⟩⟩
        · rintro ⟨c, e, h⟩
          injection e with e; subst e
          rw [if_pos rfl] at h
          obtain ⟨v1, r1, l1, e1, h⟩ := h
          simp only [Option.some.injEq, Prod.mk.injEq] at e1
          obtain ⟨rfl, rfl, rfl⟩ := e1
          exact h

theorem yieldOf_target {d : Option Nat} {f : Opd} {args : List Opd} {g : Option (Nat × Bool)} {fid : Nat} {vs : List AV} (ht : target (getO sl f) (args.map (getO sl)) = some (fid, vs)) : yieldOf sl ⟨d, .call f args, g⟩ = none := by
  unfold yieldOf target at *
  simp only
  split at ht
  · rename_i e
    split
    · rename_i e2 _; rw [e] at e2; simp at e2
    · rfl
  · simp at ht

/-- A call. -/
theorem Ex_call {d : Option Nat} {f : Opd} {args : List Opd} {g : Option (Nat × Bool)} {l : List Seg} {fid : Nat} {vs : List AV} (hw : want sl g = some true) (ht : target (getO sl f) (args.map (getO sl)) = some (fid, vs))
    (hc : Cl F fid vs rows fun q => Ex F cx (.ops l :: k) ⟨putO sl d q.1, q.2.1, lowO low q.2.2⟩ r) : Ex F cx (.ops (.one ⟨d, .call f args, g⟩ :: l) :: k) ⟨sl, rows, low⟩ r := by
  obtain ⟨n, ⟨v, rows', dd⟩, hc, m, x, h, hx⟩ := hc
  have hy := yieldOf_target (sl := sl) (d := d) (g := g) ht
  refine ⟨max n m + 1, x, ?_, hx⟩
  rw [exec]
  simp only [hy]
  have h1 : opR (cF F (max n m)) sl rows low ⟨d, .call f args, g⟩ = some (v, rows', lowO low dd) := by
    unfold opR
    simp only [hw, ht]
    rw [cF_mono (F := F) (n := n) (n' := max n m) (fun cx k s r h => exec_le (Nat.le_max_left _ _) h) _ _ _ _ hc]
  rw [show opR (callBy F (exec F (max n m))) sl rows low ⟨d, .call f args, g⟩ = _ from h1]
  exact exec_le (Nat.le_max_right _ _) h
/-- A call that is not wanted. -/
theorem Ex_callNot {d : Option Nat} {f : Opd} {args : List Opd} {g : Option (Nat × Bool)} {l : List Seg} (hw : want sl g = some false) (h : Ex F cx (.ops l :: k) ⟨putO sl d (.tup []), rows, low⟩ r) : Ex F cx (.ops (.one ⟨d, .call f args, g⟩ :: l) :: k) ⟨sl, rows, low⟩ r := by
  obtain ⟨m, x, h, hx⟩ := h
  have hy : yieldOf sl ⟨d, .call f args, g⟩ = none := by
    unfold yieldOf
    simp only
    split
    · rename_i e2 hw2; rw [hw] at hw2; simp at hw2
    · rfl
  refine ⟨m + 1, x, ?_, hx⟩
  rw [exec]
  simp only [hy, opR, hw]
  exact h
end
end Go.Abs
