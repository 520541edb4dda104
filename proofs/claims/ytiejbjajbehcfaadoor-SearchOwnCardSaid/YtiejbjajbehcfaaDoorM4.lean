/- Calls as equations: the rules with which a function's code is stepped through. -/
import Derived.Test.YtiejbjajbehcfaaDoorM3
set_option linter.unusedVariables false
set_option linter.unusedSimpArgs false
/- The evaluator without its number of rounds. -/
namespace Go.Abs

/-! ### More rounds do no harm -/
def LeC (c c' : CallF) : Prop := ∀ f vs rows r, c f vs rows = some r → c' f vs rows = some r

theorem opR_mono {c c' : CallF} (h : LeC c c') {sl : List AV} {rows : List Row} {low : Nat} {o : IOpx} {r : AV × List Row × Nat} (e : opR c sl rows low o = some r) : opR c' sl rows low o = some r := by
  unfold opR at e ⊢
  split at e
  · simp at e
  · exact e
  · split at e
    · split at e
      · split at e
        · rename_i hc
          rw [h _ _ _ _ hc]
          exact e
        · simp at e
      · simp at e
    · exact e

theorem evalG_mono {c c' : CallF} (h : LeC c c') {rows : List Row} : ∀ (l : List (IOpx × Nat)) (i : Nat) (sl : List AV) (ext : List (Nat × Row)) (r : List AV × List (Nat × Row)), evalG c rows i l sl ext = some r → evalG c' rows i l sl ext = some r
  | [], i, sl, ext, r, e => e
  | (o, b) :: l, i, sl, ext, r, e => by
    simp only [evalG] at e ⊢
    split at e
    · rename_i hop
      rw [opR_mono h hop]
      simp only
      split at e
      · rename_i hl
        rw [if_pos hl]
        exact evalG_mono h l _ _ _ _ e
      · simp at e
    · simp at e

section
variable {F : Nat → Option IFn}

/-- The calls with so many rounds. -/
abbrev cF (F : Nat → Option IFn) (n : Nat) : CallF := callBy F (exec F n)

theorem cF_mono {n n' : Nat} (h : ∀ cx k s r, exec F n cx k s = some r → exec F n' cx k s = some r) : LeC (cF F n) (cF F n') := by
  intro f vs rows r e
  unfold cF callBy at e ⊢
  split at e
  · rename_i fn hfn
    unfold callR at e
    split at e
    · rename_i hx
      simp only [h _ _ _ _ hx, callR]
      exact e
    · simp at e
  · simp at e

theorem exec_succ : ∀ (n : Nat) (cx : Ctx) (k : List Itm) (s : St) (r : AV × List Row × Nat), exec F n cx k s = some r → exec F (n + 1) cx k s = some r := by
  intro n
  induction n with
  | zero => intro cx k s r h; simp [exec] at h
  | succ n ih =>
    intro cx k s r h
    have hc : LeC (cF F n) (cF F (n + 1)) := cF_mono ih
    cases k with
    | nil => simp only [exec] at h ⊢; exact h
    | cons x k =>
      cases x with
      | inBlock id => simp only [exec] at h ⊢; exact ih _ _ _ _ h
      | inScope c => simp only [exec] at h ⊢; exact ih _ _ _ _ h
      | inLoop c => simp only [exec, St.force_eq] at h; rw [exec, St.force_eq]; exact ih _ _ _ _ h
      | rfBegin =>
        simp only [exec] at h ⊢
        split at h
        · split at h
          · exact ih _ _ _ _ h
          · simp at h
        · simp at h
      | ops l =>
        cases l with
        | nil => simp only [exec] at h ⊢; exact ih _ _ _ _ h
        | cons sg l =>
          cases sg with
          | one o =>
            rw [exec] at h ⊢
            split at h
            · rename_i id vs hy
              split at h
              · split at h
                · rename_i hl
                  split at h
                  · rename_i hx
                    simp only [if_pos hl, ih _ _ _ _ hx]
                    exact ih _ _ _ _ h
                  · simp at h
                · simp at h
              · simp at h
            · split at h
              · rename_i hop
                rw [show opR (callBy F (exec F (n + 1))) s.sl s.rows s.low o = _ from opR_mono hc hop]
                exact ih _ _ _ _ h
              · simp at h
          | grp g =>
            rw [exec] at h ⊢
            split at h
            · rename_i hop
              rw [show evalG (callBy F (exec F (n + 1))) s.rows 0 g s.sl [] = _ from evalG_mono hc _ _ _ _ _ hop]
              exact ih _ _ _ _ h
            · simp at h
          | grpw a x z g =>
            rw [exec] at h ⊢
            split at h
            · rename_i hop
              rw [show evalG (callBy F (exec F (n + 1))) (s.rows.set (rowOf s.rows s.sl g a) .dead) 0 g s.sl [] = _ from evalG_mono hc _ _ _ _ _ hop]
              simp only
              split at h
              · exact ih _ _ _ _ h
              · simp at h
            · simp at h
          | stop => simp [exec] at h
      | code c =>
        cases c with
        | skip => simp only [exec] at h ⊢; exact ih _ _ _ _ h
        | ret => simp only [exec] at h ⊢; exact h
        | exit id =>
          simp only [exec] at h ⊢
          split at h
          · exact ih _ _ _ _ h
          · exact h
        | seq a b => rw [exec] at h ⊢; exact ih _ _ _ _ h
        | cond c a b =>
          rw [exec] at h ⊢
          split at h
          · exact ih _ _ _ _ h
          · simp at h
        | block id c => rw [exec] at h ⊢; exact ih _ _ _ _ h
        | loop c => rw [exec] at h ⊢; exact ih _ _ _ _ h
        | scope c => rw [exec] at h ⊢; exact ih _ _ _ _ h
        | ops l => simp only [exec, St.forceS_eq] at h ⊢; exact ih _ _ _ _ h
        | rf f ps a b =>
          rw [exec] at h ⊢
          split at h
          · rename_i hok
            rw [if_pos hok]
            split at h
            · split at h
              · rename_i hop
                rw [show callBy F (exec F (n + 1)) _ _ _ = _ from hc _ _ _ _ hop]
                simp only
                split at h
                · exact ih _ _ _ _ h
                · simp at h
              · simp at h
            · simp at h
          · simp at h
        | kill l c => rw [exec] at h ⊢; exact ih _ _ _ _ h
        | stop => simp [exec] at h

theorem exec_le {n n' : Nat} (hn : n ≤ n') {cx : Ctx} {k : List Itm} {s : St} {r : AV × List Row × Nat} (h : exec F n cx k s = some r) : exec F n' cx k s = some r := by
  induction hn with
  | refl => exact h
  | step _ ih => exact exec_succ _ _ _ _ _ ih

/-- What the code comes to. -/
def Ex (F : Nat → Option IFn) (cx : Ctx) (k : List Itm) (s : St) (R : AV × List Row × Nat → Prop) : Prop := ∃ n r, exec F n cx k s = some r ∧ R r
/-- What a call comes to. -/
def Cl (F : Nat → Option IFn) (f : Nat) (vs : List AV) (rows : List Row) (R : AV × List Row × Option Nat → Prop) : Prop := ∃ n r, cF F n f vs rows = some r ∧ R r

theorem Cl.mk {f : Nat} {fn : IFn} {vs : List AV} {rows : List Row} {R : AV × List Row × Option Nat → Prop} (hf : F f = some fn) (h : Ex F (.fn fn.res) [.code fn.body] (init fn vs rows) fun r => R (fin rows r.1 r.2.1 r.2.2)) : Cl F f vs rows R := by
  obtain ⟨n, r, h, hr⟩ := h
  refine ⟨n, _, ?_, hr⟩
  unfold cF callBy
  rw [hf]
  simp only [h, callR]

theorem Cl.imp {f : Nat} {vs : List AV} {rows : List Row} {R R' : AV × List Row × Option Nat → Prop} (h : Cl F f vs rows R) (k : ∀ r, R r → R' r) : Cl F f vs rows R' := by
  obtain ⟨n, r, a, b⟩ := h
  exact ⟨n, r, a, k r b⟩

variable {cx : Ctx} {k : List Itm} {s : St} {r : AV × List Row × Nat → Prop} {sl : List AV} {rows : List Row} {low : Nat}

theorem Ex.imp {r' : AV × List Row × Nat → Prop} (h : Ex F cx k s r) (hk : ∀ x, r x → r' x) : Ex F cx k s r' := by
  obtain ⟨n, x, a, b⟩ := h
  exact ⟨n, x, a, hk x b⟩

theorem Ex.step {k' : List Itm} {s' : St} (e : ∀ n, exec F (n + 1) cx k s = exec F n cx k' s') : Ex F cx k s r ↔ Ex F cx k' s' r := by
  constructor
  · rintro ⟨n, x, h, hx⟩
    cases n with
    | zero => simp [exec] at h
    | succ n => exact ⟨n, x, by rw [← e n]; exact h, hx⟩
  · rintro ⟨n, x, h, hx⟩
    exact ⟨n + 1, x, by rw [e n]; exact h, hx⟩
theorem Ex.leave {j : Option Jump} (e : ∀ n, exec F (n + 1) cx k s = leaveV cx j s) : Ex F cx k s r ↔ ∃ x, leaveV cx j s = some x ∧ r x := by
  constructor
  · rintro ⟨n, x, h, hx⟩
    cases n with
    | zero => simp [exec] at h
    | succ n => exact ⟨x, by rw [← e n]; exact h, hx⟩
  · rintro ⟨x, h, hx⟩
    exact ⟨1, x, by rw [e 0]; exact h, hx⟩
theorem Ex.no (e : ∀ n, exec F (n + 1) cx k s = none) : ¬ Ex F cx k s r := by
  rintro ⟨n, x, h, hx⟩
  cases n with
  | zero => simp [exec] at h
  | succ n => rw [e n] at h; simp at h

theorem Ex_nil : Ex F cx [] s r ↔ ∃ x, leaveV cx none s = some x ∧ r x := Ex.leave fun n => by rw [exec]
theorem Ex_ret : Ex F cx (.code .ret :: k) s r ↔ ∃ x, leaveV cx (some .ret) s = some x ∧ r x := Ex.leave fun n => by rw [exec]
theorem Ex_inBlock {id : Nat} : Ex F cx (.inBlock id :: k) s r ↔ Ex F cx k s r := Ex.step fun n => by rw [exec]
theorem Ex_inScope {c : ICode} : Ex F cx (.inScope c :: k) s r ↔ Ex F cx k s r := Ex.step fun n => by rw [exec]
theorem Ex_inLoop {c : ICode} : Ex F cx (.inLoop c :: k) s r ↔ Ex F cx (.code c :: .inLoop c :: k) s r := Ex.step fun n => by rw [exec, St.force_eq]
theorem Ex_skip : Ex F cx (.code .skip :: k) s r ↔ Ex F cx k s r := Ex.step fun n => by rw [exec]
theorem Ex_seq {a b : ICode} : Ex F cx (.code (.seq a b) :: k) s r ↔ Ex F cx (.code a :: .code b :: k) s r := Ex.step fun n => by rw [exec]
theorem Ex_block {id : Nat} {c : ICode} : Ex F cx (.code (.block id c) :: k) s r ↔ Ex F cx (.code c :: .inBlock id :: k) s r := Ex.step fun n => by rw [exec]
theorem Ex_loop {c : ICode} : Ex F cx (.code (.loop c) :: k) s r ↔ Ex F cx (.code c :: .inLoop c :: k) s r := Ex.step fun n => by rw [exec]
theorem Ex_scope {c : ICode} : Ex F cx (.code (.scope c) :: k) s r ↔ Ex F cx (.code c :: .inScope c :: k) s r := Ex.step fun n => by rw [exec]
theorem Ex_ops {l : List Seg} : Ex F cx (.code (.ops l) :: k) s r ↔ Ex F cx (.ops l :: k) s r := Ex.step fun n => by simp only [exec, St.forceS_eq]
theorem Ex_kill {l : List Nat} {c : ICode} : Ex F cx (.code (.kill l c) :: k) ⟨sl, rows, low⟩ r ↔ Ex F cx (.code c :: k) ⟨killS sl l, rows, low⟩ r := Ex.step fun n => by rw [exec]
theorem Ex_opsNil : Ex F cx (.ops [] :: k) s r ↔ Ex F cx k s r := Ex.step fun n => by rw [exec]
theorem Ex_cond {c : Opd} {a b : ICode} : Ex F cx (.code (.cond c a b) :: k) ⟨sl, rows, low⟩ r ↔ ∃ t, getO sl c = .bool t ∧ Ex F cx (.code (if t then a else b) :: k) ⟨sl, rows, low⟩ r := by
  cases h : getO sl c with
  | bool t =>
    rw [Ex.step (k' := .code (if t then a else b) :: k) (s' := ⟨sl, rows, low⟩) (fun n => by rw [exec]; simp only [h])]
    simp
  | _ =>
    constructor
    · intro e
      exact absurd e (Ex.no fun n => by rw [exec]; simp only [h])
    · rintro ⟨t, e, _⟩; simp at e
theorem Ex_exit {id : Nat} : Ex F cx (.code (.exit id) :: k) s r ↔ match popTo id k with | some k' => Ex F cx k' s r | none => ∃ x, leaveV cx (some (.exit id)) s = some x ∧ r x := by
  split
  · rename_i k' h
    exact Ex.step fun n => by rw [exec]; simp only [h]
  · rename_i h
    exact Ex.leave fun n => by rw [exec]; simp only [h]

/-- An operation that is no call. -/
def IOp.plain : IOp → Bool
  | .call .. => false
  | _ => true
theorem Ex_op {o : IOpx} {l : List Seg} (ho : o.op.plain = true) : Ex F cx (.ops (.one o :: l) :: k) ⟨sl, rows, low⟩ r ↔ ∃ c, want sl o.g = some c ∧
    (if c then ∃ v rows' low', evalE (getO sl) rows low o.op = some (v, rows', low') ∧ Ex F cx (.ops l :: k) ⟨putO sl o.dst v, rows', low'⟩ r else Ex F cx (.ops l :: k) ⟨putO sl o.dst (.tup []), rows, low⟩ r) := by
  have hy : yieldOf sl o = none := by
    unfold yieldOf
    split
    · rename_i e; rw [e] at ho; simp [IOp.plain] at ho
    · rfl
  have hop : ∀ call : CallF, opR call sl rows low o = match want sl o.g with | none => none | some false => some (.tup [], rows, low) | some true => evalE (getO sl) rows low o.op := fun call => by
    unfold opR
    split
    · simp [*]
    · simp [*]
    · rename_i hw
      rw [hw]
      simp only
      split
      · rename_i e; rw [e] at ho; simp [IOp.plain] at ho
      · rfl
  cases hw : want sl o.g with
  | none =>
    constructor
    · intro e
      exact absurd e (Ex.no fun n => by rw [exec]; simp [hy, hop, hw])
    · rintro ⟨c, e, _⟩; simp at e
  | some c =>
    cases c with
    | false =>
      rw [Ex.step (k' := .ops l :: k) (s' := ⟨putO sl o.dst (.tup []), rows, low⟩) (fun n => by rw [exec]; simp only [hy, hop, hw])]
      simp
    | true =>
      cases he : evalE (getO sl) rows low o.op with
      | none =>
        constructor
        · intro e
          exact absurd e (Ex.no fun n => by rw [exec]; simp [hy, hop, hw, he])
        · rintro ⟨c, e, h⟩
          injection e with e; subst e
          simp at h
      | some q =>
        obtain ⟨v, rows', low'⟩ := q
        rw [Ex.step (k' := .ops l :: k) (s' := ⟨putO sl o.dst v, rows', low'⟩) (fun n => by rw [exec]; simp only [hy, hop, hw, he])]
        constructor
        · intro h; exact ⟨true, rfl, by rw [if_pos rfl]; exact ⟨v, rows', low', rfl, h⟩⟩
        · rintro ⟨c, e, h⟩
          injection e with e; subst e
          rw [if_pos rfl] at h
          obtain ⟨v1, r1, l1, e1, h⟩ := h
          simp only [Option.some.injEq, Prod.mk.injEq] at e1
          obtain ⟨rfl, rfl, rfl⟩ := e1
          exact h

theorem yieldOf_target {d : Option Nat} {f : Opd} {args : List Opd} {g : Option (Nat × Bool)} {fid : Nat} {vs : List AV} (ht : target (getO sl f) (args.map (getO sl)) = some (fid, vs)) : yieldOf sl ⟨d, .call f args, g⟩ = none := by
  unfold yieldOf target at *
  simp only
  split at ht
  · rename_i e
    split
    · rename_i e2 _; rw [e] at e2; simp at e2
    · rfl
  · simp at ht

/-- A call. -/
theorem Ex_call {d : Option Nat} {f : Opd} {args : List Opd} {g : Option (Nat × Bool)} {l : List Seg} {fid : Nat} {vs : List AV} (hw : want sl g = some true) (ht : target (getO sl f) (args.map (getO sl)) = some (fid, vs))
    (hc : Cl F fid vs rows fun q => Ex F cx (.ops l :: k) ⟨putO sl d q.1, q.2.1, lowO low q.2.2⟩ r) : Ex F cx (.ops (.one ⟨d, .call f args, g⟩ :: l) :: k) ⟨sl, rows, low⟩ r := by
  obtain ⟨n, ⟨v, rows', dd⟩, hc, m, x, h, hx⟩ := hc
  have hy := yieldOf_target (sl := sl) (d := d) (g := g) ht
  refine ⟨max n m + 1, x, ?_, hx⟩
  rw [exec]
  simp only [hy]
  have h1 : opR (cF F (max n m)) sl rows low ⟨d, .call f args, g⟩ = some (v, rows', lowO low dd) := by
    unfold opR
    simp only [hw, ht]
    rw [cF_mono (F := F) (n := n) (n' := max n m) (fun cx k s r h => exec_le (Nat.le_max_left _ _) h) _ _ _ _ hc]
  rw [show opR (callBy F (exec F (max n m))) sl rows low ⟨d, .call f args, g⟩ = _ from h1]
  exact exec_le (Nat.le_max_right _ _) h
/-- A call that is not wanted. -/
theorem Ex_callNot {d : Option Nat} {f : Opd} {args : List Opd} {g : Option (Nat × Bool)} {l : List Seg} (hw : want sl g = some false) (h : Ex F cx (.ops l :: k) ⟨putO sl d (.tup []), rows, low⟩ r) : Ex F cx (.ops (.one ⟨d, .call f args, g⟩ :: l) :: k) ⟨sl, rows, low⟩ r := by
  obtain ⟨m, x, h, hx⟩ := h
  have hy : yieldOf sl ⟨d, .call f args, g⟩ = none := by
    unfold yieldOf
    simp only
    split
    · rename_i e2 hw2; rw [hw] at hw2; simp at hw2
    · rfl
  refine ⟨m + 1, x, ?_, hx⟩
  rw [exec]
  simp only [hy, opR, hw]
  exact h
end
end Go.Abs
/- Calls without a number of rounds, as a function: rules as equivalences. -/
namespace Go.Abs
section
variable {F : Nat → Option IFn}
open Classical in
/-- What a call comes to, if it comes to anything. -/
noncomputable def Ret (F : Nat → Option IFn) : CallF := fun f vs rows => if h : ∃ q, ∃ n, cF F n f vs rows = some q then some h.choose else none

theorem cF_le {n m : Nat} (h : n ≤ m) : LeC (cF F n) (cF F m) := cF_mono fun cx k s r e => exec_le h e

theorem Ret_of {n f : Nat} {vs : List AV} {rows : List Row} {q : AV × List Row × Option Nat} (h : cF F n f vs rows = some q) : Ret F f vs rows = some q := by
  have hx : ∃ q, ∃ n, cF F n f vs rows = some q := ⟨q, n, h⟩
  unfold Ret
  rw [dif_pos hx]
  obtain ⟨m, hm⟩ := hx.choose_spec
  have h1 := cF_le (F := F) (Nat.le_max_left n m) _ _ _ _ h
  have h2 := cF_le (F := F) (Nat.le_max_right n m) _ _ _ _ hm
  rw [h1] at h2
  exact h2.symm

theorem Ret_iff {f : Nat} {vs : List AV} {rows : List Row} {q : AV × List Row × Option Nat} : Ret F f vs rows = some q ↔ ∃ n, cF F n f vs rows = some q := by
  constructor
  · intro h
    unfold Ret at h
    split at h
    · rename_i hx
      injection h with h
      subst h
      exact hx.choose_spec
    · simp at h
  · rintro ⟨n, h⟩; exact Ret_of h

theorem LeC_Ret (n : Nat) : LeC (cF F n) (Ret F) := fun _ _ _ _ h => Ret_of h

theorem opR_Ret {sl : List AV} {rows : List Row} {low : Nat} {o : IOpx} {q : AV × List Row × Nat} : opR (Ret F) sl rows low o = some q ↔ ∃ n, opR (cF F n) sl rows low o = some q := by
  constructor
  · intro h
    unfold opR at h
    split at h
    · simp at h
    · rename_i hw
      exact ⟨0, by unfold opR; rw [hw]; exact h⟩
    · rename_i hw
      split at h
      · rename_i f args ho
        split at h
        · rename_i fid vs ht
          split at h
          · rename_i v rows' d hc
            obtain ⟨n, hn⟩ := Ret_iff.1 hc
            refine ⟨n, ?_⟩
            unfold opR
            rw [hw]
            simp only [ho, ht, hn]
            exact h
          · simp at h
        · simp at h
      · rename_i op hne
        refine ⟨0, ?_⟩
        unfold opR
        rw [hw]
        simp only
        exact h
  · rintro ⟨n, h⟩; exact opR_mono (LeC_Ret n) h

theorem evalG_Ret {rows : List Row} : ∀ {l : List (IOpx × Nat)} {i : Nat} {sl : List AV} {ext : List (Nat × Row)} {q : List AV × List (Nat × Row)}, evalG (Ret F) rows i l sl ext = some q ↔ ∃ n, evalG (cF F n) rows i l sl ext = some q
  | [], i, sl, ext, q => by simp [evalG]
  | (o, b) :: l, i, sl, ext, q => by
    constructor
    · intro h
      simp only [evalG] at h
      split at h
      · rename_i v rows' low' hop
        split at h
        · rename_i hl
          obtain ⟨n, hn⟩ := opR_Ret.1 hop
          obtain ⟨m, hm⟩ := evalG_Ret.1 h
          refine ⟨max n m, ?_⟩
          simp only [evalG]
          rw [opR_mono (cF_le (Nat.le_max_left n m)) hn]
          simp only
          rw [if_pos hl]
          exact evalG_mono (cF_le (Nat.le_max_right n m)) _ _ _ _ _ hm
        · simp at h
      · simp at h
    · rintro ⟨n, h⟩; exact evalG_mono (LeC_Ret n) _ _ _ _ _ h

variable {cx : Ctx} {k : List Itm} {s : St} {r : AV × List Row × Nat → Prop} {sl : List AV} {rows : List Row} {low : Nat} {l : List Seg}

theorem Ex_det {r' : AV × List Row × Nat → Prop} (h : Ex F cx k s r) (h' : Ex F cx k s r') : Ex F cx k s fun q => r q ∧ r' q := by
  obtain ⟨n, q, e, hq⟩ := h
  obtain ⟨m, p, e', hp⟩ := h'
  have e1 := exec_le (F := F) (Nat.le_max_left n m) e
  have e2 := exec_le (F := F) (Nat.le_max_right n m) e'
  rw [e1] at e2
  injection e2 with e2
  subst e2
  exact ⟨_, _, e1, hq, hp⟩

/-- One operation, no call of a yield. -/
theorem Ex_one {o : IOpx} (hy : yieldOf sl o = none) : Ex F cx (.ops (.one o :: l) :: k) ⟨sl, rows, low⟩ r ↔ ∃ q, opR (Ret F) sl rows low o = some q ∧ Ex F cx (.ops l :: k) ⟨putO sl o.dst q.1, q.2.1, q.2.2⟩ r := by
  constructor
  · rintro ⟨n, x, e, hx⟩
    cases n with
    | zero => simp [exec] at e
    | succ n =>
      rw [exec] at e
      simp only [hy] at e
      split at e
      · rename_i v rows' low' hop
        exact ⟨_, opR_mono (LeC_Ret n) hop, n, x, e, hx⟩
      · simp at e
  · rintro ⟨⟨v, rows', low'⟩, ho, m, x, e, hx⟩
    obtain ⟨n, hn⟩ := opR_Ret.1 ho
    refine ⟨max n m + 1, x, ?_, hx⟩
    rw [exec]
    simp only [hy]
    rw [show opR (callBy F (exec F (max n m))) sl rows low o = _ from opR_mono (cF_le (Nat.le_max_left n m)) hn]
    exact exec_le (Nat.le_max_right n m) e

/-- A call of a loop's yield. -/
theorem Ex_yield {o : IOpx} {id : Nat} {vs : List AV} (hy : yieldOf sl o = some (id, vs)) : Ex F cx (.ops (.one o :: l) :: k) ⟨sl, rows, low⟩ r ↔ ∃ st pd sl1 ps asg body, rows[id]? = some (.loop st pd sl1 ps asg body) ∧ ps.length = vs.length ∧
    Ex F (.round id) [.code asg, .rfBegin, .code body] ⟨putL sl1 ps vs, rows, rows.length⟩ fun q => Ex F cx (.ops l :: k) ⟨putO sl o.dst q.1, gc rows.length (lower low q.2.2) q.1 q.2.1, lower low q.2.2⟩ r := by
  constructor
  · rintro ⟨n, x, e, hx⟩
    cases n with
    | zero => simp [exec] at e
    | succ n =>
      rw [exec] at e
      simp only [hy] at e
      split at e
      · rename_i st pd sl1 ps asg body hr
        split at e
        · rename_i hl
          split at e
          · rename_i v rows' low' hop
            exact ⟨_, _, _, _, _, _, hr, hl, n, _, hop, n, x, e, hx⟩
          · simp at e
        · simp at e
      · simp at e
  · rintro ⟨st, pd, sl1, ps, asg, body, hr, hl, n, ⟨v, rows', low'⟩, e1, m, x, e2, hx⟩
    refine ⟨max n m + 1, x, ?_, hx⟩
    rw [exec]
    simp only [hy, hr, if_pos hl, exec_le (F := F) (Nat.le_max_left n m) e1]
    exact exec_le (Nat.le_max_right n m) e2

/-- A group. -/
theorem Ex_grpR {g : List (IOpx × Nat)} : Ex F cx (.ops (.grp g :: l) :: k) ⟨sl, rows, low⟩ r ↔ ∃ q, evalG (Ret F) rows 0 g sl [] = some q ∧ Ex F cx (.ops l :: k) ⟨q.1, rows ++ q.2.map (·.2), low⟩ r := by
  constructor
  · rintro ⟨n, x, e, hx⟩
    cases n with
    | zero => simp [exec] at e
    | succ n =>
      rw [exec] at e
      split at e
      · rename_i sl' ext hop
        exact ⟨_, evalG_mono (LeC_Ret n) _ _ _ _ _ hop, n, x, e, hx⟩
      · simp at e
  · rintro ⟨⟨sl', ext⟩, ho, m, x, e, hx⟩
    obtain ⟨n, hn⟩ := evalG_Ret.1 ho
    refine ⟨max n m + 1, x, ?_, hx⟩
    rw [exec]
    simp only
    rw [show evalG (callBy F (exec F (max n m))) rows 0 g sl [] = _ from evalG_mono (cF_le (Nat.le_max_left n m)) _ _ _ _ _ hn]
    exact exec_le (Nat.le_max_right n m) e

/-- A group with one store. -/
theorem Ex_grpwR {a y : Opd} {sz : Option Nat} {g : List (IOpx × Nat)} : Ex F cx (.ops (.grpw a y sz g :: l) :: k) ⟨sl, rows, low⟩ r ↔ ∃ q, evalG (Ret F) (rows.set (rowOf rows sl g a) .dead) 0 g sl [] = some q ∧ ∃ r', stored q.1 rows (rowOf rows sl g a) a y sz = some r' ∧ Ex F cx (.ops l :: k) ⟨q.1, rows.set (rowOf rows sl g a) r' ++ q.2.map (·.2), lower low (rowOf rows sl g a)⟩ r := by
  constructor
  · rintro ⟨n, x, e, hx⟩
    cases n with
    | zero => simp [exec] at e
    | succ n =>
      rw [exec] at e
      split at e
      · rename_i sl' ext hop
        split at e
        · rename_i r' hr
          exact ⟨_, evalG_mono (LeC_Ret n) _ _ _ _ _ hop, r', hr, n, x, e, hx⟩
        · simp at e
      · simp at e
  · rintro ⟨⟨sl', ext⟩, ho, r', hr, m, x, e, hx⟩
    obtain ⟨n, hn⟩ := evalG_Ret.1 ho
    refine ⟨max n m + 1, x, ?_, hx⟩
    rw [exec]
    simp only
    rw [show evalG (callBy F (exec F (max n m))) (rows.set (rowOf rows sl g a) .dead) 0 g sl [] = _ from evalG_mono (cF_le (Nat.le_max_left n m)) _ _ _ _ _ hn]
    simp only [hr]
    exact exec_le (Nat.le_max_right n m) e

/-- A range over a function. -/
theorem Ex_rf {f : Opd} {ps : List Nat} {asg body : ICode} : Ex F cx (.code (.rf f ps asg body) :: k) ⟨sl, rows, low⟩ r ↔ rfOk cx rows = true ∧ ∃ t, target (getO sl f) [.yield rows.length] = some t ∧ ∃ q, Ret F t.1 t.2 (rows ++ [.loop .ready none sl ps asg body]) = some q ∧
    ∃ a, afterLoop rows.length low q.2.1 q.2.2 = some a ∧ Ex F cx (a.1 ++ k) ⟨sl, a.2.1, a.2.2⟩ r := by
  constructor
  · rintro ⟨n, x, e, hx⟩
    cases n with
    | zero => simp [exec] at e
    | succ n =>
      rw [exec] at e
      simp only at e
      split at e
      · rename_i hok
        split at e
        · rename_i fid vs ht
          split at e
          · rename_i v rows' d hc
            split at e
            · rename_i k0 rows2 low2 ha
              exact ⟨hok, _, ht, _, Ret_of hc, _, ha, n, x, e, hx⟩
            · simp at e
          · simp at e
        · simp at e
      · simp at e
  · rintro ⟨hok, ⟨fid, vs⟩, ht, ⟨v, rows', d⟩, hq, ⟨k0, rows2, low2⟩, ha, m, x, e, hx⟩
    obtain ⟨n, hn⟩ := Ret_iff.1 hq
    refine ⟨max n m + 1, x, ?_, hx⟩
    rw [exec]
    simp only
    rw [if_pos hok]
    simp only [ht]
    rw [show callBy F (exec F (max n m)) fid vs _ = _ from cF_le (Nat.le_max_left n m) _ _ _ _ hn]
    simp only [ha]
    exact exec_le (Nat.le_max_right n m) e

theorem Ex_rfBegin {id : Nat} : Ex F (.round id) (.rfBegin :: k) ⟨sl, rows, low⟩ r ↔ ∃ pd sl1 ps asg body, rows[id]? = some (.loop .ready pd sl1 ps asg body) ∧ Ex F (.round id) k ⟨sl, rows.set id (.loop .busy pd sl1 ps asg body), lower low id⟩ r := by
  constructor
  · rintro ⟨n, x, e, hx⟩
    cases n with
    | zero => simp [exec] at e
    | succ n =>
      rw [exec] at e
      simp only at e
      split at e
      · rename_i hr
        exact ⟨_, _, _, _, _, hr, n, x, e, hx⟩
      · simp at e
  · rintro ⟨pd, sl1, ps, asg, body, hr, n, x, e, hx⟩
    refine ⟨n + 1, x, ?_, hx⟩
    rw [exec]
    simp only [hr]
    exact e

/-- A call of a function that is known. -/
theorem Ex_callS {d : Option Nat} {f : Nat} {args : List Opd} : Ex F cx (.ops (.one ⟨d, .call (.c (.func f [])) args, none⟩ :: l) :: k) ⟨sl, rows, low⟩ r ↔ ∃ q, Ret F f (args.map (getO sl)) rows = some q ∧ Ex F cx (.ops l :: k) ⟨putO sl d q.1, q.2.1, lowO low q.2.2⟩ r := by
  rw [Ex_one (by simp [yieldOf, getO])]
  simp only [opR, want, target, getO, List.append_nil]
  constructor
  · rintro ⟨q, e, h⟩
    split at e
    · rename_i v rows' dd hc
      injection e with e
      subst e
      exact ⟨_, hc, h⟩
    · simp at e
  · rintro ⟨⟨v, rows', dd⟩, e, h⟩
    exact ⟨(v, rows', lowO low dd), by rw [e], h⟩

/-- A call of a value. -/
def callD (F : Nat → Option IFn) (cx : Ctx) (d : Option Nat) (l : List Seg) (k : List Itm) (sl : List AV) (rows : List Row) (low : Nat) (r : AV × List Row × Nat → Prop) (args : List AV) : AV → Prop
  | .func f cs => ∃ q, Ret F f (args ++ cs) rows = some q ∧ Ex F cx (.ops l :: k) ⟨putO sl d q.1, q.2.1, lowO low q.2.2⟩ r
  | .yield id => ∃ st pd sl1 ps asg body, rows[id]? = some (.loop st pd sl1 ps asg body) ∧ ps.length = args.length ∧
    Ex F (.round id) [.code asg, .rfBegin, .code body] ⟨putL sl1 ps args, rows, rows.length⟩ fun q => Ex F cx (.ops l :: k) ⟨putO sl d q.1, gc rows.length (lower low q.2.2) q.1 q.2.1, lower low q.2.2⟩ r
  | _ => False
theorem Ex_callD {d : Option Nat} {f : Opd} {args : List Opd} : Ex F cx (.ops (.one ⟨d, .call f args, none⟩ :: l) :: k) ⟨sl, rows, low⟩ r ↔ callD F cx d l k sl rows low r (args.map (getO sl)) (getO sl f) := by
  cases hf : getO sl f with
  | yield id =>
    rw [Ex_yield (id := id) (vs := args.map (getO sl)) (by simp [yieldOf, hf, want])]
    simp only [callD]
  | func g cs =>
    rw [Ex_one (by simp [yieldOf, hf])]
    simp only [opR, want, target, hf, callD]
    constructor
    · rintro ⟨q, e, h⟩
      split at e
      · rename_i v rows' dd hc
        injection e with e
        subst e
        exact ⟨_, hc, h⟩
      · simp at e
    · rintro ⟨⟨v, rows', dd⟩, e, h⟩
      exact ⟨(v, rows', lowO low dd), by rw [e], h⟩
  | _ =>
    rw [Ex_one (by simp [yieldOf, hf])]
    simp [opR, want, target, hf, callD]

/-- A guarded operation. -/
theorem Ex_guard {d : Option Nat} {op : IOp} {t : Nat} {b : Bool} : Ex F cx (.ops (.one ⟨d, op, some (t, b)⟩ :: l) :: k) ⟨sl, rows, low⟩ r ↔ ∃ c, want sl (some (t, b)) = some c ∧ if c = true then Ex F cx (.ops (.one ⟨d, op, none⟩ :: l) :: k) ⟨sl, rows, low⟩ r else Ex F cx (.ops l :: k) ⟨putO sl d (.tup []), rows, low⟩ r := by
  cases hw : want sl (some (t, b)) with
  | none =>
    have hy : yieldOf sl ⟨d, op, some (t, b)⟩ = none := by
      unfold yieldOf
      split
      · split
        · rename_i e2 hw2; rw [hw] at hw2; simp at hw2
        · rfl
      · rfl
    rw [Ex_one hy]
    simp [opR, hw]
  | some c =>
    cases c with
    | false =>
      have hy : yieldOf sl ⟨d, op, some (t, b)⟩ = none := by
        unfold yieldOf
        split
        · split
          · rename_i e2 hw2; rw [hw] at hw2; simp at hw2
          · rfl
        · rfl
      rw [Ex_one hy]
      simp only [opR, hw, Option.some.injEq]
      constructor
      · rintro ⟨q, rfl, h⟩; exact ⟨false, rfl, by simpa using h⟩
      · rintro ⟨c, rfl, h⟩; exact ⟨_, rfl, by simpa using h⟩
    | true =>
      have e1 : ∀ (q : AV × List Row × Nat), opR (Ret F) sl rows low ⟨d, op, some (t, b)⟩ = some q ↔ opR (Ret F) sl rows low ⟨d, op, none⟩ = some q := fun q => by
        have hn : want sl none = some true := rfl
        unfold opR
        simp only [hw, hn]
      have hyy : yieldOf sl ⟨d, op, some (t, b)⟩ = yieldOf sl ⟨d, op, none⟩ := by
        have hn : want sl none = some true := rfl
        unfold yieldOf
        simp only [hw, hn]
      cases hy : yieldOf sl ⟨d, op, none⟩ with
      | none =>
        rw [Ex_one (hyy.trans hy), Ex_one hy]
        simp only [e1, Option.some.injEq]
        constructor
        · rintro ⟨q, e, h⟩; exact ⟨true, rfl, by rw [if_pos rfl]; exact ⟨q, e, h⟩⟩
        · rintro ⟨c, rfl, h⟩; rw [if_pos rfl] at h; exact h
      | some p =>
        obtain ⟨id, vs⟩ := p
        rw [Ex_yield (hyy.trans hy), Ex_yield hy]
        simp only [Option.some.injEq]
        constructor
        · intro h; exact ⟨true, rfl, by rw [if_pos rfl]; exact h⟩
        · rintro ⟨c, rfl, h⟩; rw [if_pos rfl] at h; exact h

/-- A function's call, out of its body. -/
theorem Ret_mk {f : Nat} {fn : IFn} {vs : List AV} {q : AV × List Row × Option Nat} (hf : F f = some fn) (h : Ex F (.fn fn.res) [.code fn.body] (init fn vs rows) fun r => fin rows r.1 r.2.1 r.2.2 = q) : Ret F f vs rows = some q := by
  obtain ⟨n, r, h, hr⟩ := h
  refine Ret_of (n := n) ?_
  unfold cF callBy
  rw [hf]
  simp only [h, callR, hr]
theorem Ret_mk' {f : Nat} {fn : IFn} {vs : List AV} (hf : F f = some fn) {R : AV × List Row × Option Nat → Prop} (h : Ex F (.fn fn.res) [.code fn.body] (init fn vs rows) fun r => R (fin rows r.1 r.2.1 r.2.2)) : ∃ q, Ret F f vs rows = some q ∧ R q := by
  obtain ⟨n, r, h, hr⟩ := h
  refine ⟨_, Ret_of (n := n) ?_, hr⟩
  unfold cF callBy
  rw [hf]
  simp only [h, callR]
end
end Go.Abs
/- A region as one step: what its operations come to, one after the other, with the slots resolved. -/
namespace Go.Abs
/-! ### Operands resolved -/
def subO (g : Opd → AV) (x : Opd) : Opd := .c (g x)
def subI (g : Opd → AV) : IOp → IOp
  | .mv x => .mv (subO g x)
  | .pick c a b => .pick (subO g c) (subO g a) (subO g b)
  | .box x => .box (subO g x)
  | .load1 a => .load1 (subO g a)
  | .loadN n a => .loadN n (subO g a)
  | .store1 a x => .store1 (subO g a) (subO g x)
  | .storeN n a x => .storeN n (subO g a) (subO g x)
  | .nilck x => .nilck (subO g x)
  | .bin op x y => .bin op (subO g x) (subO g y)
  | .eqv neg kd x y => .eqv neg kd (subO g x) (subO g y)
  | .un op x => .un op (subO g x)
  | .conv k x => .conv k (subO g x)
  | .part1 off x => .part1 off (subO g x)
  | .partN off n x => .partN off n (subO g x)
  | .idxV n sz ag x i => .idxV n sz ag (subO g x) (subO g i)
  | .fieldA off x => .fieldA off (subO g x)
  | .idxA n sz x i => .idxA n sz (subO g x) (subO g i)
  | .idxS sz x i => .idxS sz (subO g x) (subO g i)
  | .mkagg zero ps => .mkagg zero (ps.map fun p => (p.1, p.2.1, subO g p.2.2))
  | .mkslice n zero ps => .mkslice n zero (ps.map fun p => (p.1, p.2.1, subO g p.2.2))
  | .make zero b l c => .make zero b (subO g l) (subO g c)
  | .sliceS sz x lo hi mx => .sliceS sz (subO g x) (lo.map (subO g)) (hi.map (subO g)) (mx.map (subO g))
  | .sliceA n sz x lo hi mx => .sliceA n sz (subO g x) (lo.map (subO g)) (hi.map (subO g)) (mx.map (subO g))
  | .mkfn f cs => .mkfn f (cs.map (subO g))
  | .mkmap => .mkmap
  | .look z ok m k => .look z ok (subO g m) (subO g k)
  | .mset m k v => .mset (subO g m) (subO g k) (subO g v)
  | .lenc n => .lenc n
  | .len kd x => .len kd (subO g x)
  | .cap x => .cap (subO g x)
  | .mx xs => .mx (xs.map (subO g))
  | .mn xs => .mn (xs.map (subO g))
  | .app sz b s x => .app sz b (subO g s) (subO g x)
  | .appz z s x => .appz z (subO g s) (subO g x)
  | .ext x i => .ext (subO g x) i
  | .mkif t x => .mkif t (subO g x)
  | .call f args => .call (subO g f) (args.map (subO g))
  | .bad => .bad

/-- An operation that touches nothing, or reads alone. -/
def evP (rows : List Row) (o : IOp) : Option AV := evalP rows (getO []) o
/-- An operation that makes or writes. -/
def evE (rows : List Row) (low : Nat) (o : IOp) : Option (AV × List Row × Nat) := evalE (getO []) rows low o

theorem get_sub (g : Opd → AV) (x : Opd) : getO [] (subO g x) = g x := rfl
theorem fillA_sub (g : Opd → AV) : ∀ (ps : List (Nat × Nat × Opd)) (cs : List AV), fillA (getO []) (ps.map fun p => (p.1, p.2.1, subO g p.2.2)) cs = fillA g ps cs
  | [], cs => rfl
  | p :: ps, cs => by
    simp only [List.map_cons, fillA, get_sub, fillA_sub g ps]
theorem map_sub (g : Opd → AV) (l : List Opd) : (l.map (subO g)).map (getO []) = l.map g := by simp [get_sub, Function.comp_def]
theorem mapo_sub (g : Opd → AV) (l : Option Opd) : (l.map (subO g)).map (getO []) = l.map g := by cases l <;> rfl

theorem evalP_sub (rows : List Row) (g : Opd → AV) (o : IOp) : evalP rows g o = evP rows (subI g o) := by
  cases o <;> simp only [evP, subI, evalP, get_sub, fillA_sub, map_sub, mapo_sub]
theorem evalE_sub (rows : List Row) (low : Nat) (g : Opd → AV) (o : IOp) : evalE g rows low o = evE rows low (subI g o) := by
  cases o <;> first | rfl | simp only [evE, subI, evalE, get_sub, fillA_sub, map_sub, mapo_sub, evalP]

/-- An operation that writes nothing. -/
def IOp.pure : IOp → Bool
  | .mv _ | .pick .. | .load1 _ | .loadN .. | .nilck _ | .bin .. | .eqv .. | .un .. | .conv .. | .part1 .. | .partN .. | .idxV .. | .fieldA .. | .idxA .. | .idxS .. | .mkagg .. | .sliceS .. | .sliceA .. | .mkfn .. | .look .. | .lenc _ | .len .. | .cap _ | .mx _ | .mn _ | .ext .. | .mkif .. => true
  | _ => false
theorem pure_plain {o : IOp} (h : o.pure = true) : o.plain = true := by cases o <;> first | rfl | simp [IOp.pure] at h
theorem evalE_pure {o : IOp} (h : o.pure = true) (g : Opd → AV) (rows : List Row) (low : Nat) : evalE g rows low o = (evalP rows g o).map fun v => (v, rows, low) := by
  cases o <;> first | rfl | simp [IOp.pure] at h

/-- 'o' comes to something of which 'K' holds. -/
def bnd {α : Type} (o : Option α) (K : α → Prop) : Prop := ∃ a, o = some a ∧ K a
@[simp] theorem bnd_some {α : Type} (a : α) (K : α → Prop) : bnd (some a) K ↔ K a := by simp [bnd]
@[simp] theorem bnd_none {α : Type} (K : α → Prop) : bnd none K ↔ False := by simp [bnd]
@[congr] theorem bnd_congr {α : Type} {o o' : Option α} {K : α → Prop} (h : o = o') : bnd o K = bnd o' K := by rw [h]
theorem bnd_map {α β : Type} (o : Option α) (f : α → β) (K : β → Prop) : bnd (o.map f) K ↔ bnd o fun a => K (f a) := by cases o <;> simp

/-- A guarded value. -/
def gv (g : AV) (b : Bool) (e : Option AV) : Option AV :=
  match g with
  | .bool c => if c == b then e else some (.tup [])
  | .tup [] => some (.tup [])
  | _ => none
/-- A guarded step. -/
def gw (g : AV) (b : Bool) (K : Prop) (K' : Prop) : Prop :=
  match g with
  | .bool c => if c == b then K else K'
  | .tup [] => K'
  | _ => False

section
variable (F : Nat → Option IFn)
/-- A call of a value. -/
def callK (rows : List Row) (low : Nat) (args : List AV) (K : AV → List Row → Nat → Prop) : AV → Prop
  | .func f cs => bnd (Ret F f (args ++ cs) rows) fun q => K q.1 q.2.1 (lowO low q.2.2)
  | .yield id => ∃ st pd sl1 ps asg body, rows[id]? = some (.loop st pd sl1 ps asg body) ∧ ps.length = args.length ∧
    Ex F (.round id) [.code asg, .rfBegin, .code body] ⟨putL sl1 ps args, rows, rows.length⟩ fun q => K q.1 (gc rows.length (lower low q.2.2) q.1 q.2.1) (lower low q.2.2)
  | _ => False

/-- A guarded call. -/
def gcall (g : AV) (b : Bool) (rows : List Row) (low : Nat) (args : List AV) (f : AV) (K : AV → List Row → Nat → Prop) : Prop := gw g b (callK F rows low args K f) (K (.tup []) rows low)
/-- A guarded operation that makes or writes. -/
def geff (g : AV) (b : Bool) (rows : List Row) (low : Nat) (o : IOp) (K : AV → List Row → Nat → Prop) : Prop := gw g b (bnd (evE rows low o) fun q => K q.1 q.2.1 q.2.2) (K (.tup []) rows low)
/-- A call within a group. -/
noncomputable def opC (rows : List Row) (low : Nat) (args : List AV) (f : AV) : Option (AV × List Row × Nat) :=
  match target f args with
  | some (fid, vs) => (Ret F fid vs rows).map fun q => (q.1, q.2.1, lowO low q.2.2)
  | none => none
/-- A guarded step within a group. -/
def go (g : AV) (b : Bool) (rows : List Row) (low : Nat) (e : Option (AV × List Row × Nat)) : Option (AV × List Row × Nat) :=
  match g with
  | .bool c => if c == b then e else some (.tup [], rows, low)
  | .tup [] => some (.tup [], rows, low)
  | _ => none
variable {σ : Type} (get : σ → Opd → AV) (put : σ → Option Nat → AV → σ)
/-- One operation of a group that makes something. -/
noncomputable def opG (sl : σ) (rows : List Row) (low : Nat) (o : IOpx) : Option (AV × List Row × Nat) :=
  match o with
  | ⟨_, .call f args, none⟩ => opC F rows low (args.map (get sl)) (get sl f)
  | ⟨_, .call f args, some (t, b)⟩ => go (get sl (.t t)) b rows low (opC F rows low (args.map (get sl)) (get sl f))
  | ⟨_, op, none⟩ => evE rows low (subI (get sl) op)
  | ⟨_, op, some (t, b)⟩ => go (get sl (.t t)) b rows low (evE rows low (subI (get sl) op))

/-- One operation of a region. -/
def runO (o : IOpx) (sl : σ) (rows : List Row) (low : Nat) (K : σ → List Row → Nat → Prop) : Prop :=
  match o with
  | ⟨d, .mv x, none⟩ => K (put sl d (get sl x)) rows low
  | ⟨d, .call (.c (.func f [])) args, none⟩ => bnd (Ret F f (args.map (get sl)) rows) fun q => K (put sl d q.1) q.2.1 (lowO low q.2.2)
  | ⟨d, .call f args, none⟩ => callK F rows low (args.map (get sl)) (fun v rows low => K (put sl d v) rows low) (get sl f)
  | ⟨d, .call f args, some (t, b)⟩ => gcall F (get sl (.t t)) b rows low (args.map (get sl)) (get sl f) (fun v rows low => K (put sl d v) rows low)
  | ⟨d, op, none⟩ => if op.pure then bnd (evP rows (subI (get sl) op)) fun v => K (put sl d v) rows low else bnd (evE rows low (subI (get sl) op)) fun q => K (put sl d q.1) q.2.1 q.2.2
  | ⟨d, op, some (t, b)⟩ => if op.pure then bnd (gv (get sl (.t t)) b (evP rows (subI (get sl) op))) fun v => K (put sl d v) rows low else geff (get sl (.t t)) b rows low (subI (get sl) op) fun v rows low => K (put sl d v) rows low

/-- The operations of a group that writes nothing. -/
def runL (rows : List Row) (low : Nat) (K : σ → Prop) : List (IOpx × Nat) → σ → Prop
  | [], sl => K sl
  | (o, _) :: r, sl => runO F get put o sl rows low fun sl _ _ => runL rows low K r sl
def purePs : List (IOpx × Nat) → Bool
  | [] => true
  | (o, _) :: r => o.op.pure && purePs r

/-- A group's operations, one after the other: 'ext' is what they have made. -/
def runG (rows : List Row) (K : σ → List Row → Prop) : Nat → List (IOpx × Nat) → σ → List (Nat × Row) → Prop
  | _, [], sl, ext => K sl (rows ++ ext.map (·.2))
  | i, (o, b) :: r, sl, ext =>
    if o.op.pure then
      (match o with
      | ⟨d, .mv x, none⟩ => runG rows K (i + 1) r (put sl d (get sl x)) ext
      | ⟨d, op, none⟩ => bnd (evP (rows ++ maskE b ext) (subI (get sl) op)) fun v => runG rows K (i + 1) r (put sl d v) ext
      | ⟨d, op, some (t, c)⟩ => bnd (gv (get sl (.t t)) c (evP (rows ++ maskE b ext) (subI (get sl) op))) fun v => runG rows K (i + 1) r (put sl d v) ext)
    else bnd (opG F get sl (rows ++ maskE b ext) (rows.length + ext.length) o) fun q => q.2.2 = rows.length + ext.length ∧
      bnd (some (ext ++ (q.2.1.drop (rows.length + ext.length)).map fun x => (i, x))) fun e => runG rows K (i + 1) r (put sl o.dst q.1) e

/-- A region. -/
def runP (E : σ → List Row → Nat → Prop) : List Seg → σ → List Row → Nat → Prop
  | [], sl, rows, low => E sl rows low
  | .one o :: l, sl, rows, low => runO F get put o sl rows low fun sl rows low => runP E l sl rows low
  | .grp g :: l, sl, rows, low => if purePs g then runL F get put rows low (fun sl => runP E l sl rows low) g sl else runG F get put rows (fun sl rows => runP E l sl rows low) 0 g sl []
  | .grpw .. :: _, _, _, _ => False
  | .stop :: _, _, _, _ => False
def noW : List Seg → Bool
  | [] => true
  | .grpw .. :: _ => false
  | _ :: l => noW l
end

section
variable {F : Nat → Option IFn} {cx : Ctx} {k : List Itm} {r : AV × List Row × Nat → Prop} {l : List Seg}

theorem callD_callK {d : Option Nat} {sl : List AV} {rows : List Row} {low : Nat} {args : List AV} {v : AV} {P : List AV → List Row → Nat → Prop} (hP : ∀ sl rows low, Ex F cx (.ops l :: k) ⟨sl, rows, low⟩ r ↔ P sl rows low) :
    callD F cx d l k sl rows low r args v ↔ callK F rows low args (fun v rows low => P (putO sl d v) rows low) v := by
  cases v <;> simp only [callD, callK, hP, bnd]

theorem runO_ok {o : IOpx} {sl : List AV} {rows : List Row} {low : Nat} {P : List AV → List Row → Nat → Prop} (hP : ∀ sl rows low, Ex F cx (.ops l :: k) ⟨sl, rows, low⟩ r ↔ P sl rows low) :
    Ex F cx (.ops (.one o :: l) :: k) ⟨sl, rows, low⟩ r ↔ runO F getO putO o sl rows low P := by
  have plainN : ∀ (d : Option Nat) (op : IOp), op.plain = true → (Ex F cx (.ops (.one ⟨d, op, none⟩ :: l) :: k) ⟨sl, rows, low⟩ r ↔ bnd (evE rows low (subI (getO sl) op)) fun q => P (putO sl d q.1) q.2.1 q.2.2) := by
    intro d op ho
    rw [Ex_op ho]
    simp only [want, Option.some.injEq, exists_eq_left', if_true, hP, bnd, evalE_sub]
    constructor
    · rintro ⟨v, a, b, e, h⟩; exact ⟨_, e, h⟩
    · rintro ⟨⟨v, a, b⟩, e, h⟩; exact ⟨_, _, _, e, h⟩
  have pureN : ∀ (d : Option Nat) (op : IOp), op.pure = true → (Ex F cx (.ops (.one ⟨d, op, none⟩ :: l) :: k) ⟨sl, rows, low⟩ r ↔ bnd (evP rows (subI (getO sl) op)) fun v => P (putO sl d v) rows low) := by
    intro d op ho
    rw [plainN d op (pure_plain ho), ← evalE_sub, evalE_pure ho, bnd_map, evalP_sub]
  have want2 : ∀ (t : Nat) (b : Bool) (K K' : Prop), (∃ c, want sl (some (t, b)) = some c ∧ if c = true then K else K') ↔ gw (sl.getD t .any) b K K' := by
    intro t b K K'
    unfold want gw
    simp only
    generalize sl.getD t AV.any = gg
    split <;> simp
  have pureG : ∀ (d : Option Nat) (op : IOp) (t : Nat) (b : Bool), op.pure = true → (Ex F cx (.ops (.one ⟨d, op, some (t, b)⟩ :: l) :: k) ⟨sl, rows, low⟩ r ↔ bnd (gv (sl.getD t .any) b (evP rows (subI (getO sl) op))) fun v => P (putO sl d v) rows low) := by
    intro d op t b ho
    rw [Ex_guard, want2, pureN d op ho, hP]
    unfold gw gv
    generalize sl.getD t AV.any = gg
    split
    · split <;> simp
    · simp
    · simp
  have effG : ∀ (d : Option Nat) (op : IOp) (t : Nat) (b : Bool), op.plain = true → (Ex F cx (.ops (.one ⟨d, op, some (t, b)⟩ :: l) :: k) ⟨sl, rows, low⟩ r ↔ gw (sl.getD t .any) b (bnd (evE rows low (subI (getO sl) op)) fun q => P (putO sl d q.1) q.2.1 q.2.2) (P (putO sl d (.tup [])) rows low)) := by
    intro d op t b ho
    rw [Ex_guard, want2, plainN d op ho, hP]
  obtain ⟨d, op, g⟩ := o
  cases g with
  | none =>
    cases op with
    | mv x =>
      rw [pureN d _ rfl]
      simp only [subI, evP, evalP, get_sub, bnd_some, runO]
    | call f args =>
      have hd := Ex_callD (F := F) (cx := cx) (k := k) (r := r) (l := l) (sl := sl) (rows := rows) (low := low) (d := d) (f := f) (args := args)
      rw [hd, callD_callK hP]
      cases f with
      | t n => rfl
      | c v =>
        cases v with
        | func fid cs =>
          cases cs with
          | nil => simp only [runO, getO, callK, List.append_nil]
          | cons a b => rfl
        | _ => rfl
    | box x => rw [plainN d _ rfl]; rfl
    | store1 a x => rw [plainN d _ rfl]; rfl
    | storeN n a x => rw [plainN d _ rfl]; rfl
    | mkslice a b c => rw [plainN d _ rfl]; rfl
    | make a b x y => rw [plainN d _ rfl]; rfl
    | mkmap => rw [plainN d _ rfl]; rfl
    | mset m k v => rw [plainN d _ rfl]; rfl
    | app a b x y => rw [plainN d _ rfl]; rfl
    | appz a b x => rw [plainN d _ rfl]; rfl
    | bad => rw [plainN d _ rfl]; rfl
    | _ => rw [pureN d _ rfl]; rfl
  | some p =>
    obtain ⟨t, b⟩ := p
    cases op with
    | mv x => rw [pureG d _ t b rfl]; rfl
    | call f args =>
      rw [Ex_guard, want2, Ex_callD, callD_callK hP, hP]
      cases f with
      | t n => rfl
      | c v =>
        cases v with
        | func fid cs => cases cs <;> rfl
        | _ => rfl
    | box x => rw [effG d _ t b rfl]; rfl
    | store1 a x => rw [effG d _ t b rfl]; rfl
    | storeN n a x => rw [effG d _ t b rfl]; rfl
    | mkslice a b' c => rw [effG d _ t b rfl]; rfl
    | make a b' x y => rw [effG d _ t b rfl]; rfl
    | mkmap => rw [effG d _ t b rfl]; rfl
    | mset m k v => rw [effG d _ t b rfl]; rfl
    | app a b' x y => rw [effG d _ t b rfl]; rfl
    | appz a b' x => rw [effG d _ t b rfl]; rfl
    | bad => rw [effG d _ t b rfl]; rfl
    | _ => rw [pureG d _ t b rfl]; rfl

theorem opG_ok {o : IOpx} {sl : List AV} {rows : List Row} {low : Nat} : opR (Ret F) sl rows low o = opG F getO sl rows low o := by
  have hC : ∀ (f : Opd) (args : List Opd), (match target (getO sl f) (args.map (getO sl)) with
      | some (fid, vs) => match Ret F fid vs rows with
        | some (v, rows', d) => some (v, rows', lowO low d)
        | none => none
      | none => none) = opC F rows low (args.map (getO sl)) (getO sl f) := by
    intro f args
    unfold opC
    split
    · rename_i h
      cases Ret F _ _ rows <;> simp [*]
    · rename_i h
      rfl
  obtain ⟨d, op, g⟩ := o
  have hgo : ∀ (t : Nat) (b : Bool) (e : Option (AV × List Row × Nat)), (match want sl (some (t, b)) with | none => none | some false => some (.tup [], rows, low) | some true => e) = go (getO sl (.t t)) b rows low e := by
    intro t b e
    show (match want sl (some (t, b)) with | none => none | some false => some (.tup [], rows, low) | some true => e) = go (sl.getD t .any) b rows low e
    unfold want go
    simp only
    generalize sl.getD t AV.any = gg
    cases gg with
    | bool c => cases c <;> cases b <;> rfl
    | tup l => cases l <;> rfl
    | _ => rfl
  cases g with
  | none =>
    have hn : want sl none = some true := rfl
    cases op <;> first
      | (unfold opR opG; simp only [hn]; exact hC _ _)
      | (unfold opR opG; simp only [hn]; exact evalE_sub rows low (getO sl) _)
  | some p =>
    obtain ⟨t, b⟩ := p
    cases op <;> first
      | (unfold opG; simp only; rw [← hgo, ← hC]; rfl)
      | (unfold opG; simp only; rw [← hgo, ← evalE_sub]; rfl)

theorem runL_ok {rows : List Row} {low : Nat} {K : List AV → List Row → Prop} : ∀ (g : List (IOpx × Nat)) (i : Nat) (sl : List AV), purePs g = true → (runG F getO putO rows K i g sl [] ↔ runL F getO putO rows low (fun sl => K sl rows) g sl)
  | [], i, sl, _ => by simp [runG, runL]
  | (o, b) :: g, i, sl, h => by
    simp only [purePs, Bool.and_eq_true] at h
    obtain ⟨d, op, gd⟩ := o
    have ih := fun sl => runL_ok (K := K) (low := low) (rows := rows) g (i + 1) sl h.2
    cases gd with
    | none =>
      cases op <;> first
        | (have := h.1; simp [IOp.pure] at this; done)
        | (simp only [runG, runL, runO, IOp.pure, if_true, maskE, List.map_nil, List.append_nil, ih]; done)
    | some p =>
      obtain ⟨t, c⟩ := p
      cases op <;> first
        | (have := h.1; simp [IOp.pure] at this; done)
        | (simp only [runG, runL, runO, IOp.pure, if_true, maskE, List.map_nil, List.append_nil, ih]; done)

theorem runG_ok {rows : List Row} {K : List AV → List Row → Prop} : ∀ (g : List (IOpx × Nat)) (i : Nat) (sl : List AV) (ext : List (Nat × Row)), (bnd (evalG (Ret F) rows i g sl ext) fun q => K q.1 (rows ++ q.2.map (·.2))) ↔ runG F getO putO rows K i g sl ext
  | [], i, sl, ext => by simp [evalG, runG]
  | (o, b) :: g, i, sl, ext => by
    have step : (bnd (evalG (Ret F) rows i ((o, b) :: g) sl ext) fun q => K q.1 (rows ++ q.2.map (·.2))) ↔ bnd (opG F getO sl (rows ++ maskE b ext) (rows.length + ext.length) o) fun q => q.2.2 = rows.length + ext.length ∧
      runG F getO putO rows K (i + 1) g (putO sl o.dst q.1) (ext ++ (q.2.1.drop (rows.length + ext.length)).map fun x => (i, x)) := by
      simp only [evalG, ← opG_ok]
      cases hop : opR (Ret F) sl (rows ++ maskE b ext) (rows.length + ext.length) o with
      | none => simp
      | some q =>
        obtain ⟨v, rows', low'⟩ := q
        simp only [bnd_some]
        rw [← runG_ok g]
        by_cases hl : low' = rows.length + ext.length
        · simp [hl]
        · simp [hl]
    rw [step]
    conv => rhs; unfold runG
    split
    · rename_i hp
      have hlen : (rows ++ maskE b ext).length = rows.length + ext.length := by simp [maskE]
      have hpure : ∀ (d : Option Nat) (op : IOp) (gd : Option (Nat × Bool)), op.pure = true → opR (Ret F) sl (rows ++ maskE b ext) (rows.length + ext.length) ⟨d, op, gd⟩ = match want sl gd with | none => none | some false => some (.tup [], rows ++ maskE b ext, rows.length + ext.length) | some true => (evP (rows ++ maskE b ext) (subI (getO sl) op)).map fun v => (v, rows ++ maskE b ext, rows.length + ext.length) := by
        intro d op gd ho
        cases hw : want sl gd with
        | none => unfold opR; simp [hw]
        | some c =>
          unfold opR
          simp only [hw]
          cases c with
          | false => rfl
          | true =>
            simp only
            split
            · simp [IOp.pure] at ho
            · rw [evalE_pure ho, evalP_sub]
      have hdrop : ((rows ++ maskE b ext).drop (rows.length + ext.length)).map (fun x => (i, x)) = [] := by
        rw [List.drop_of_length_le (by omega)]; rfl
      rw [← opG_ok]
      split
      · rw [hpure _ _ _ rfl]
        simp only [want, subI, evP, evalP, get_sub, Option.map_some, bnd_some, hdrop, true_and, List.append_nil]
      · rename_i d op h
        rw [hpure _ _ _ hp]
        simp only [want, bnd_map, hdrop, true_and, List.append_nil]
      · rename_i d op t c
        rw [hpure _ _ _ hp]
        have hget : getO sl (.t t) = sl.getD t .any := rfl
        unfold want gv
        simp only [hget]
        generalize sl.getD t AV.any = gg
        cases gg with
        | bool c' =>
          cases e : c' == c
          · simp only [e, Bool.false_eq_true, if_false, bnd_some, hdrop, true_and, List.append_nil]
          · simp only [e, if_true, bnd_map, hdrop, true_and, List.append_nil]
        | tup l => cases l <;> simp only [bnd_some, bnd_none, hdrop, true_and, List.append_nil]
        | _ => simp only [bnd_none]
    · simp only [bnd_some]

theorem Ex_runP : ∀ (l : List Seg) (sl : List AV) (rows : List Row) (low : Nat), noW l = true → (Ex F cx (.ops l :: k) ⟨sl, rows, low⟩ r ↔ runP F getO putO (fun sl rows low => Ex F cx k ⟨sl, rows, low⟩ r) l sl rows low)
  | [], sl, rows, low, _ => by rw [Ex_opsNil]; rfl
  | .one o :: l, sl, rows, low, h => by
    rw [runO_ok (P := fun sl rows low => runP F getO putO (fun sl rows low => Ex F cx k ⟨sl, rows, low⟩ r) l sl rows low) (fun sl rows low => Ex_runP l sl rows low h)]
    rfl
  | .grp g :: l, sl, rows, low, h => by
    rw [Ex_grpR]
    simp only [runP]
    have h1 : (∃ q, evalG (Ret F) rows 0 g sl [] = some q ∧ Ex F cx (.ops l :: k) ⟨q.1, rows ++ q.2.map (·.2), low⟩ r) ↔ runG F getO putO rows (fun sl rows => runP F getO putO (fun sl rows low => Ex F cx k ⟨sl, rows, low⟩ r) l sl rows low) 0 g sl [] := by
      rw [← runG_ok]
      simp only [bnd, Ex_runP l _ _ _ h]
    rw [h1]
    split
    · rename_i hp
      rw [runL_ok (low := low) g 0 sl hp]
    · rfl
  | .grpw .. :: l, sl, rows, low, h => by simp [noW] at h
  | .stop :: l, sl, rows, low, h => by
    constructor
    · rintro ⟨n, x, e, _⟩
      cases n with
      | zero => simp [exec] at e
      | succ n => simp [exec] at e
    · intro h; exact h.elim

/-! ### Another form of the slots -/
section
variable {σ τ : Type} {get : σ → Opd → AV} {put : σ → Option Nat → AV → σ} {get' : τ → Opd → AV} {put' : τ → Option Nat → AV → τ} {f : τ → σ}
theorem runO_tr (hg : ∀ t, get (f t) = get' t) (hp : ∀ t d v, put (f t) d v = f (put' t d v)) {o : IOpx} {t : τ} {rows : List Row} {low : Nat} {K : σ → List Row → Nat → Prop} {K' : τ → List Row → Nat → Prop} (hK : ∀ t rows low, K (f t) rows low ↔ K' t rows low) :
    runO F get put o (f t) rows low K ↔ runO F get' put' o t rows low K' := by
  have hK' : (fun t rows low => K (f t) rows low) = K' := by funext t rows low; exact propext (hK t rows low)
  subst hK'
  obtain ⟨d, op, g⟩ := o
  cases g with
  | none =>
    cases op with
    | call f args =>
      cases f with
      | t n => simp only [runO, hg, hp]
      | c v =>
        cases v with
        | func fid cs => cases cs <;> simp only [runO, hg, hp]
        | _ => simp only [runO, hg, hp]
    | _ => simp only [runO, hg, hp]
  | some p => cases op <;> simp only [runO, hg, hp]
theorem runL_tr (hg : ∀ t, get (f t) = get' t) (hp : ∀ t d v, put (f t) d v = f (put' t d v)) {rows : List Row} {low : Nat} {K : σ → Prop} {K' : τ → Prop} (hK : ∀ t, K (f t) ↔ K' t) : ∀ (g : List (IOpx × Nat)) (t : τ), runL F get put rows low K g (f t) ↔ runL F get' put' rows low K' g t
  | [], t => hK t
  | (o, b) :: g, t => by
    simp only [runL]
    exact runO_tr hg hp fun t _ _ => runL_tr hg hp hK g t
theorem opG_tr (hg : ∀ t, get (f t) = get' t) {o : IOpx} {t : τ} {rows : List Row} {low : Nat} : opG F get (f t) rows low o = opG F get' t rows low o := by
  obtain ⟨d, op, g⟩ := o
  cases g <;> cases op <;> simp only [opG, hg]
theorem runG_tr (hg : ∀ t, get (f t) = get' t) (hp : ∀ t d v, put (f t) d v = f (put' t d v)) {rows : List Row} {K : σ → List Row → Prop} {K' : τ → List Row → Prop} (hK : ∀ t rows, K (f t) rows ↔ K' t rows) : ∀ (g : List (IOpx × Nat)) (i : Nat) (t : τ) (ext : List (Nat × Row)), runG F get put rows K i g (f t) ext ↔ runG F get' put' rows K' i g t ext
  | [], i, t, ext => hK t _
  | (o, b) :: g, i, t, ext => by
    have ih := runG_tr (rows := rows) hg hp hK g (i + 1)
    obtain ⟨d, op, gd⟩ := o
    cases gd with
    | none => cases op <;> simp only [runG, IOp.pure, opG_tr hg, hg, hp, ih, if_true, if_false, Bool.false_eq_true, bnd_some]
    | some p => cases op <;> simp only [runG, IOp.pure, opG_tr hg, hg, hp, ih, if_true, if_false, Bool.false_eq_true, bnd_some]
theorem runP_tr (hg : ∀ t, get (f t) = get' t) (hp : ∀ t d v, put (f t) d v = f (put' t d v)) {E : σ → List Row → Nat → Prop} {E' : τ → List Row → Nat → Prop} (hE : ∀ t rows low, E (f t) rows low ↔ E' t rows low) : ∀ (l : List Seg) (t : τ) (rows : List Row) (low : Nat), runP F get put E l (f t) rows low ↔ runP F get' put' E' l t rows low
  | [], t, rows, low => hE t rows low
  | .one o :: l, t, rows, low => by
    simp only [runP]
    exact runO_tr hg hp fun t rows low => runP_tr hg hp hE l t rows low
  | .grp g :: l, t, rows, low => by
    simp only [runP]
    split
    · exact runL_tr hg hp (fun t => runP_tr hg hp hE l t rows low) g t
    · exact runG_tr hg hp (fun t rows => runP_tr hg hp hE l t rows low) g 0 t []
  | .grpw .. :: _, t, rows, low => by simp only [runP]
  | .stop :: _, t, rows, low => by simp only [runP]
end
end
end Go.Abs
/- Loop heads as states. -/
namespace Go.Abs
/-- What a piece of code forgets first of all. -/
def fk : ICode → Option (List Nat)
  | .kill l _ => some l
  | .seq a b => match a with
    | .skip => fk b
    | a => fk a
  | .block _ c => fk c
  | .scope c => fk c
  | _ => none

theorem killS_len : ∀ (l : List Nat) (sl : List AV), (killS sl l).length = sl.length
  | [], sl => rfl
  | d :: ds, sl => by rw [killS, killS_len ds]; simp
theorem killS_get : ∀ (l : List Nat) (sl : List AV) (i : Nat), (killS sl l)[i]? = if i ∈ l ∧ i < sl.length then some .any else sl[i]?
  | [], sl, i => by simp [killS]
  | d :: ds, sl, i => by
    rw [killS, killS_get ds, List.getElem?_set, List.length_set]
    by_cases h1 : i ∈ ds <;> by_cases h2 : i < sl.length <;> by_cases h3 : d = i <;> simp_all
    all_goals
      have h4 : i ≠ d := fun e => h3 e.symm
      simp [h4]
theorem killS_twice (l : List Nat) (sl : List AV) : killS (killS sl l) l = killS sl l := by
  apply List.ext_getElem?
  intro i
  rw [killS_get, killS_len, killS_get]
  split <;> rfl

section
variable {F : Nat → Option IFn} {cx : Ctx} {r : AV × List Row × Nat → Prop} {rows : List Row} {low : Nat}
theorem Ex_fk {l : List Nat} {sl : List AV} : ∀ {c : ICode} {k : List Itm}, fk c = some l → (Ex F cx (.code c :: k) ⟨killS sl l, rows, low⟩ r ↔ Ex F cx (.code c :: k) ⟨sl, rows, low⟩ r)
  | .kill l' c, k, h => by
    simp only [fk, Option.some.injEq] at h
    subst h
    rw [Ex_kill, Ex_kill, killS_twice]
  | .seq a b, k, h => by
    rw [Ex_seq, Ex_seq]
    by_cases e : a = .skip
    · subst e
      rw [Ex_skip, Ex_skip]
      exact Ex_fk (c := b) h
    · have h' : fk a = some l := by
        cases a <;> first | exact h | exact absurd rfl e
      exact Ex_fk (c := a) h'
  | .block id c, k, h => by
    rw [Ex_block, Ex_block]
    exact Ex_fk (c := c) h
  | .scope c, k, h => by
    rw [Ex_scope, Ex_scope]
    exact Ex_fk (c := c) h
  | .skip, _, h => by simp [fk] at h
  | .ret, _, h => by simp [fk] at h
  | .exit _, _, h => by simp [fk] at h
  | .cond .., _, h => by simp [fk] at h
  | .loop _, _, h => by simp [fk] at h
  | .ops _, _, h => by simp [fk] at h
  | .rf .., _, h => by simp [fk] at h
  | .stop, _, h => by simp [fk] at h

end

/-! ### Slots by a short list -/
def lk : List (Nat × AV) → Nat → AV
  | [], _ => .any
  | (i, v) :: l, j => match Nat.beq i j with
    | true => v
    | false => lk l j
def mk (n : Nat) (l : List (Nat × AV)) : List AV := (List.range n).map (lk l)
/-- All slots but some. -/
def dead (n : Nat) (keep : List Nat) : List Nat := (List.range n).filter fun i => !keep.contains i
def only (l : List (Nat × AV)) : List Nat → List (Nat × AV)
  | [] => []
  | i :: is => (i, lk l i) :: only l is

@[simp] theorem lk_nil (j : Nat) : lk [] j = .any := rfl
@[simp] theorem lk_cons (i j : Nat) (v : AV) (l : List (Nat × AV)) : lk ((i, v) :: l) j = if i = j then v else lk l j := by
  rw [lk]
  by_cases h : i = j
  · subst h; simp
  · rw [if_neg h, show Nat.beq i j = false from by
      cases e : Nat.beq i j
      · rfl
      · exact absurd (Nat.eq_of_beq_eq_true e) h]
@[simp] theorem mk_len (n : Nat) (l : List (Nat × AV)) : (mk n l).length = n := by simp [mk]
theorem mk_get (n : Nat) (l : List (Nat × AV)) (i : Nat) : (mk n l)[i]? = if i < n then some (lk l i) else none := by
  unfold mk
  by_cases h : i < n <;> simp [h]
@[simp] theorem mk_getD (n : Nat) (l : List (Nat × AV)) (i : Nat) (h : i < n) : (mk n l).getD i .any = lk l i := by
  rw [List.getD_eq_getElem?_getD, mk_get, if_pos h]; rfl
@[simp] theorem mk_getO (n : Nat) (l : List (Nat × AV)) (i : Nat) (h : i < n) : getO (mk n l) (.t i) = lk l i := mk_getD n l i h
@[simp] theorem mk_getC (n : Nat) (l : List (Nat × AV)) (v : AV) : getO (mk n l) (.c v) = v := rfl
theorem mk_set (n : Nat) (l : List (Nat × AV)) (i : Nat) (v : AV) : (mk n l).set i v = mk n ((i, v) :: l) := by
  apply List.ext_getElem?
  intro j
  rw [List.getElem?_set, mk_len, mk_get, mk_get]
  by_cases h : i = j
  · subst h; simp
  · simp [h]
@[simp] theorem mk_putL0 (n : Nat) (l : List (Nat × AV)) : putL (mk n l) [] [] = mk n l := rfl
@[simp] theorem mk_putL1 (n : Nat) (l : List (Nat × AV)) (i : Nat) (v : AV) : putL (mk n l) [i] [v] = mk n ((i, v) :: l) := mk_set n l i v
@[simp] theorem mk_putL2 (n : Nat) (l : List (Nat × AV)) (i j : Nat) (v w : AV) : putL (mk n l) [i, j] [v, w] = mk n ((j, w) :: (i, v) :: l) := by
  simp [putL, mk_set]
theorem lk_only (l : List (Nat × AV)) : ∀ (ks : List Nat) (j : Nat), lk (only l ks) j = if j ∈ ks then lk l j else .any
  | [], j => by simp [only]
  | i :: is, j => by
    simp only [only, lk_cons, lk_only l is, List.mem_cons]
    by_cases h : i = j
    · subst h; simp
    · have h' : ¬ j = i := fun e => h e.symm
      simp [h, h']
theorem kill_dead (n : Nat) (l : List (Nat × AV)) (keep : List Nat) : killS (mk n l) (dead n keep) = mk n (only l keep) := by
  apply List.ext_getElem?
  intro j
  rw [killS_get, mk_len, mk_get, mk_get, lk_only]
  unfold dead
  by_cases h : j < n <;> by_cases h2 : j ∈ keep <;> simp [h, h2]
theorem mk_only (n : Nat) (l : List (Nat × AV)) (keep : List Nat) (h : dead n keep = []) : mk n l = mk n (only l keep) := by
  rw [← kill_dead, h]; rfl

/-- A slot of a short list. -/
def gO (n : Nat) (l : List (Nat × AV)) : Opd → AV
  | .t i => match Nat.ble (i + 1) n with
    | true => lk l i
    | false => .any
  | .c v => v
def pO (l : List (Nat × AV)) (d : Option Nat) (v : AV) : List (Nat × AV) :=
  match d with
  | some d => (d, v) :: l
  | none => l
theorem gO_ok (n : Nat) (l : List (Nat × AV)) : getO (mk n l) = gO n l := by
  funext x
  cases x with
  | t i =>
    by_cases h : i < n
    · rw [mk_getO n l i h, gO, show Nat.ble (i + 1) n = true from Nat.ble_eq_true_of_le h]
    · show (mk n l).getD i .any = _
      rw [List.getD_eq_getElem?_getD, mk_get, if_neg h, gO, show Nat.ble (i + 1) n = false from by
        cases e : Nat.ble (i + 1) n
        · rfl
        · exact absurd (Nat.le_of_ble_eq_true e) h]
      rfl
  | c v => rfl
theorem pO_ok (n : Nat) (l : List (Nat × AV)) (d : Option Nat) (v : AV) : putO (mk n l) d v = mk n (pO l d v) := by
  cases d with
  | none => rfl
  | some d => exact mk_set n l d v

section
variable {F : Nat → Option IFn} {cx : Ctx} {k : List Itm} {r : AV × List Row × Nat → Prop} {rows : List Row} {low : Nat}
/-- What a region comes to, over a short list. -/
abbrev runQ (F : Nat → Option IFn) (cx : Ctx) (k : List Itm) (r : AV × List Row × Nat → Prop) (n : Nat) (ops : List Seg) (l : List (Nat × AV)) (rows : List Row) (low : Nat) : Prop :=
  runP F (gO n) pO (fun l rows low => Ex F cx k ⟨mk n l, rows, low⟩ r) ops l rows low
theorem Ex_runQ {n : Nat} {ops : List Seg} {l : List (Nat × AV)} (h : noW ops = true) : Ex F cx (.ops ops :: k) ⟨mk n l, rows, low⟩ r ↔ runQ F cx k r n ops l rows low := by
  rw [Ex_runP _ _ _ _ h]
  exact runP_tr (f := mk n) (gO_ok n) (pO_ok n) (fun _ _ _ => Iff.rfl) ops l rows low
/-- A region, out of its closed form. -/
theorem reg {c : ICode} {n : Nat} {keep : List Nat} {ops : List Seg} {l : List (Nat × AV)} {Q : Prop} (hc : c = .kill (dead n keep) (.ops ops)) (hw : noW ops = true) (hq : runQ F cx k r n ops (only l keep) rows low = Q) : Ex F cx (.code c :: k) ⟨mk n l, rows, low⟩ r ↔ Q := by
  rw [hc, Ex_kill, Ex_ops, kill_dead, Ex_runQ hw, hq]
theorem reg0 {c : ICode} {n : Nat} {keep : List Nat} {ops : List Seg} {l : List (Nat × AV)} {Q : Prop} (hd : dead n keep = []) (hc : c = .ops ops) (hw : noW ops = true) (hq : runQ F cx k r n ops (only l keep) rows low = Q) : Ex F cx (.code c :: k) ⟨mk n l, rows, low⟩ r ↔ Q := by
  rw [hc, Ex_ops, mk_only n l keep hd, Ex_runQ hw, hq]
/-- A place where ways meet. -/
theorem Ex_canon {n : Nat} {keep : List Nat} {c : ICode} {l : List (Nat × AV)} (h : fk c = some (dead n keep)) : Ex F cx (.code c :: k) ⟨mk n l, rows, low⟩ r ↔ Ex F cx (.code c :: k) ⟨mk n (only l keep), rows, low⟩ r := by
  rw [← kill_dead, Ex_fk h]
/-- A loop's next round, and its first one. -/
theorem loopN {n : Nat} {keep : List Nat} {c : ICode} {l : List (Nat × AV)} (h : fk c = some (dead n keep)) : Ex F cx (.inLoop c :: k) ⟨mk n l, rows, low⟩ r ↔ Ex F cx (.code c :: .inLoop c :: k) ⟨mk n (only l keep), rows, low⟩ r := by
  rw [Ex_inLoop, ← kill_dead, Ex_fk h]
theorem loopE {n : Nat} {keep : List Nat} {c : ICode} {l : List (Nat × AV)} (h : fk c = some (dead n keep)) : Ex F cx (.code (.loop c) :: k) ⟨mk n l, rows, low⟩ r ↔ Ex F cx (.code c :: .inLoop c :: k) ⟨mk n (only l keep), rows, low⟩ r := by
  rw [Ex_loop, ← kill_dead, Ex_fk h]
end
end Go.Abs
/- Rules for the simplifier: control, operations, rows, whole numbers. -/
namespace Go.Abs
section
variable {F : Nat → Option IFn} {cx : Ctx} {k : List Itm} {r : AV × List Row × Nat → Prop} {sl : List AV} {rows : List Row} {low : Nat}
attribute [simp] Ex_inBlock Ex_inScope Ex_skip Ex_seq Ex_block Ex_scope Ex_ops Ex_kill kill_dead only popTo lowO pO
@[simp] theorem Ex_condT {n i : Nat} {l : List (Nat × AV)} {a b : ICode} (h : i < n) : Ex F cx (.code (.cond (.t i) a b) :: k) ⟨mk n l, rows, low⟩ r ↔ ∃ t, lk l i = .bool t ∧ Ex F cx (.code (if t then a else b) :: k) ⟨mk n l, rows, low⟩ r := by
  rw [Ex_cond, mk_getO n l i h]
@[simp] theorem Ex_condC {b : Bool} {c d : ICode} : Ex F cx (.code (.cond (.c (.bool b)) c d) :: k) ⟨sl, rows, low⟩ r ↔ Ex F cx (.code (if b then c else d) :: k) ⟨sl, rows, low⟩ r := by
  rw [Ex_cond]
  simp [getO]
/-- Both ways of a branch. -/
theorem Ex_ite {p : Prop} [Decidable p] {a b : ICode} {s : St} : Ex F cx (.code (if p then a else b) :: k) s r ↔ if p then Ex F cx (.code a :: k) s r else Ex F cx (.code b :: k) s r := by
  split <;> rfl
@[simp] theorem Ex_exit1 {id : Nat} {s : St} : Ex F cx (.code (.exit id) :: .inBlock id :: k) s r ↔ Ex F cx k s r := by rw [Ex_exit]; simp [popTo]
@[simp] theorem Ex_exitL {id : Nat} {c : ICode} {s : St} : Ex F cx (.code (.exit id) :: .inLoop c :: k) s r ↔ Ex F cx (.code (.exit id) :: k) s r := by rw [Ex_exit, Ex_exit]; simp only [popTo]
@[simp] theorem Ex_exitC {id : Nat} {c : ICode} {s : St} : Ex F cx (.code (.exit id) :: .code c :: k) s r ↔ Ex F cx (.code (.exit id) :: k) s r := by rw [Ex_exit, Ex_exit]; simp only [popTo]
@[simp] theorem Ex_exitS {id : Nat} {c : ICode} {s : St} : Ex F cx (.code (.exit id) :: .inScope c :: k) s r ↔ Ex F cx (.code (.exit id) :: k) s r := by rw [Ex_exit, Ex_exit]; simp only [popTo]
@[simp] theorem Ex_exitB {id id' : Nat} {s : St} (h : id' ≠ id) : Ex F cx (.code (.exit id) :: .inBlock id' :: k) s r ↔ Ex F cx (.code (.exit id) :: k) s r := by rw [Ex_exit, Ex_exit]; simp only [popTo, if_neg h]
@[simp] theorem Ex_retF {res : List RV} {s : St} : Ex F (.fn res) (.code .ret :: k) s r ↔ bnd (results s.rows s.sl res) fun v => r (v, s.rows, s.low) := by
  rw [Ex_ret]
  simp only [leaveV, bnd]
  constructor
  · rintro ⟨x, e, h⟩
    rw [Option.map_eq_some_iff] at e
    obtain ⟨v, hv, rfl⟩ := e
    exact ⟨v, hv, h⟩
  · rintro ⟨v, e, h⟩
    exact ⟨_, by rw [e]; rfl, h⟩
@[simp] theorem Ex_nilF {res : List RV} {s : St} : Ex F (.fn res) [] s r ↔ bnd (results s.rows s.sl res) fun v => r (v, s.rows, s.low) := by
  rw [Ex_nil]
  simp only [leaveV, bnd]
  constructor
  · rintro ⟨x, e, h⟩
    rw [Option.map_eq_some_iff] at e
    obtain ⟨v, hv, rfl⟩ := e
    exact ⟨v, hv, h⟩
  · rintro ⟨v, e, h⟩
    exact ⟨_, by rw [e]; rfl, h⟩
@[simp] theorem Ex_bad {b : Bool} {e : Option (AV × List Row × Nat)} : evE rows low .bad = none := rfl

/-! ### Results -/
section
variable {n : Nat} {l : List (Nat × AV)}
@[simp] theorem resV_t {i : Nat} (h : i < n) : resV rows (mk n l) (.t i) = some (lk l i) := by simp only [resV, mk_getD n l i h]
@[simp] theorem resV_c1 {i : Nat} (h : i < n) : resV rows (mk n l) (.cell1 i) = evP rows (.load1 (.c (lk l i))) := by
  rw [resV, evalP_sub]; simp only [subI, subO, mk_getO n l i h]
@[simp] theorem resV_cN {i m : Nat} (h : i < n) : resV rows (mk n l) (.cellN i m) = evP rows (.loadN m (.c (lk l i))) := by
  rw [resV, evalP_sub]; simp only [subI, subO, mk_getO n l i h]
@[simp] theorem results_0 : results rows sl [] = some (.tup []) := rfl
@[simp] theorem results_1 {a : RV} : results rows sl [a] = resV rows sl a := by
  unfold results
  simp only [resVs]
  cases resV rows sl a <;> rfl
@[simp] theorem results_2 {a b : RV} : results rows sl [a, b] = (resV rows sl a).bind fun x => (resV rows sl b).map fun y => .tup [x, y] := by
  unfold results
  simp only [resVs]
  cases resV rows sl a <;> cases resV rows sl b <;> rfl
@[simp] theorem results_3 {a b c : RV} : results rows sl [a, b, c] = (resV rows sl a).bind fun x => (resV rows sl b).bind fun y => (resV rows sl c).map fun z => .tup [x, y, z] := by
  unfold results
  simp only [resVs]
  cases resV rows sl a <;> cases resV rows sl b <;> cases resV rows sl c <;> rfl
@[simp] theorem results_4 {a b c d : RV} : results rows sl [a, b, c, d] = (resV rows sl a).bind fun x => (resV rows sl b).bind fun y => (resV rows sl c).bind fun z => (resV rows sl d).map fun u => .tup [x, y, z, u] := by
  unfold results
  simp only [resVs]
  cases resV rows sl a <;> cases resV rows sl b <;> cases resV rows sl c <;> cases resV rows sl d <;> rfl
end

/-! ### Values -/
@[simp] theorem one_int {kd : IntKind} {n : Int} : (AV.int kd n).one = true := rfl
@[simp] theorem one_bool {b : Bool} : (AV.bool b).one = true := rfl
@[simp] theorem one_ptr {i o : Nat} : (AV.ptr i o).one = true := rfl
@[simp] theorem one_nilptr : AV.nilptr.one = true := rfl
@[simp] theorem one_slice {i o n : Nat} {c : Cap} : (AV.slice i o n c).one = true := rfl
@[simp] theorem one_nilslice : AV.nilslice.one = true := rfl
@[simp] theorem one_func {f : Nat} {l : List AV} : (AV.func f l).one = true := rfl
@[simp] theorem one_yield {f : Nat} : (AV.yield f).one = true := rfl
@[simp] theorem one_nilfunc : AV.nilfunc.one = true := rfl
@[simp] theorem one_map {f : Nat} : (AV.map f).one = true := rfl
@[simp] theorem cells_int {kd : IntKind} {n : Int} : (AV.int kd n).cells = [.int kd n] := rfl
@[simp] theorem cells_bool {b : Bool} : (AV.bool b).cells = [.bool b] := rfl
@[simp] theorem cells_ptr {i o : Nat} : (AV.ptr i o).cells = [.ptr i o] := rfl
@[simp] theorem cells_nilptr : AV.nilptr.cells = [.nilptr] := rfl
@[simp] theorem cells_slice {i o n : Nat} {c : Cap} : (AV.slice i o n c).cells = [.slice i o n c] := rfl
@[simp] theorem cells_nilslice : AV.nilslice.cells = [.nilslice] := rfl
@[simp] theorem cells_func {f : Nat} {l : List AV} : (AV.func f l).cells = [.func f l] := rfl
@[simp] theorem cells_nilfunc : AV.nilfunc.cells = [.nilfunc] := rfl
@[simp] theorem cells_yield {f : Nat} : (AV.yield f).cells = [.yield f] := rfl
@[simp] theorem cells_map {f : Nat} : (AV.map f).cells = [.map f] := rfl
@[simp] theorem cells_agg {l : List AV} : (AV.agg l).cells = l := rfl
@[simp] theorem ids_int {kd : IntKind} {n : Int} : (AV.int kd n).ids = [] := by simp [AV.ids]
@[simp] theorem ids_bool {b : Bool} : (AV.bool b).ids = [] := by simp [AV.ids]
@[simp] theorem ids_ptr {i o : Nat} : (AV.ptr i o).ids = [i] := by simp [AV.ids]
@[simp] theorem ids_slice {i o n : Nat} {c : Cap} : (AV.slice i o n c).ids = [i] := by simp [AV.ids]
@[simp] theorem ids_nilslice : AV.nilslice.ids = [] := by simp [AV.ids]
@[simp] theorem ids_nilptr : AV.nilptr.ids = [] := by simp [AV.ids]
@[simp] theorem ids_nilfunc : AV.nilfunc.ids = [] := by simp [AV.ids]
@[simp] theorem ids_map {f : Nat} : (AV.map f).ids = [f] := by simp [AV.ids]
@[simp] theorem ids_yield {f : Nat} : (AV.yield f).ids = [f] := by simp [AV.ids]
@[simp] theorem idsL_nil : AV.ids.idsL [] = [] := by simp [AV.ids.idsL]
@[simp] theorem idsL_cons {v : AV} {l : List AV} : AV.ids.idsL (v :: l) = v.ids ++ AV.ids.idsL l := by simp [AV.ids.idsL]
@[simp] theorem ids_tup {l : List AV} : (AV.tup l).ids = AV.ids.idsL l := by simp [AV.ids]
@[simp] theorem ids_agg {l : List AV} : (AV.agg l).ids = AV.ids.idsL l := by simp [AV.ids]
@[simp] theorem ids_func {f : Nat} {l : List AV} : (AV.func f l).ids = AV.ids.idsL l := by simp [AV.ids]

/-! ### Operations -/
@[simp] theorem evP_mv {v : AV} : evP rows (.mv (.c v)) = some v := rfl
@[simp] theorem evP_pick {t : Bool} {a b : AV} : evP rows (.pick (.c (.bool t)) (.c a) (.c b)) = some (if t then a else b) := rfl
@[simp] theorem evP_load1 {i o : Nat} : evP rows (.load1 (.c (.ptr i o))) = (row? rows i).bind fun vs => vs[o]? := by
  show (match row? rows i with | some vs => vs[o]? | none => none) = _
  cases row? rows i <;> rfl
@[simp] theorem evP_loadN {n i o : Nat} : evP rows (.loadN n (.c (.ptr i o))) = (row? rows i).bind fun vs => (seg vs o n).map AV.agg := by
  show (match row? rows i with | some vs => (seg vs o n).map AV.agg | none => none) = _
  cases row? rows i <;> rfl
@[simp] theorem evP_nilck {i o : Nat} : evP rows (.nilck (.c (.ptr i o))) = some (.ptr i o) := rfl
@[simp] theorem evP_nilckF {f : Nat} {cs : List AV} : evP rows (.nilck (.c (.func f cs))) = some (.func f cs) := rfl
@[simp] theorem evP_nilckY {f : Nat} : evP rows (.nilck (.c (.yield f))) = some (.yield f) := rfl
@[simp] theorem evP_bin {op : BinOp} {x y : AV} : evP rows (.bin op (.c x) (.c y)) = binA op x y := rfl
@[simp] theorem evP_eqv {neg : Bool} {kd : EqK} {x y : AV} : evP rows (.eqv neg kd (.c x) (.c y)) = (eqA kd x y).map fun b => .bool (if neg then !b else b) := rfl
@[simp] theorem evP_not {b : Bool} : evP rows (.un .not (.c (.bool b))) = some (.bool !b) := rfl
@[simp] theorem evP_neg {kd : IntKind} {n : Int} : evP rows (.un .neg (.c (.int kd n))) = some (.int kd (kd.wrap (0 - n))) := rfl
@[simp] theorem evP_conv {kd kd' : IntKind} {n : Int} : evP rows (.conv kd (.c (.int kd' n))) = some (.int kd (kd.wrap n)) := rfl
@[simp] theorem evP_part1 {o : Nat} {l : List AV} : evP rows (.part1 o (.c (.agg l))) = l[o]? := rfl
@[simp] theorem evP_partN {o n : Nat} {l : List AV} : evP rows (.partN o n (.c (.agg l))) = (seg l o n).map AV.agg := rfl
@[simp] theorem evP_idxV {len sz : Nat} {ag : Bool} {l : List AV} {kd : IntKind} {n : Int} : evP rows (.idxV len sz ag (.c (.agg l)) (.c (.int kd n))) = (idx? n len).bind fun j => if ag then (seg l (j * sz) sz).map AV.agg else l[j * sz]? := by
  show (match idx? n len with | some j => if ag then (seg l (j * sz) sz).map AV.agg else l[j * sz]? | none => none) = _
  cases idx? n len <;> rfl
@[simp] theorem evP_fieldA {d i o : Nat} : evP rows (.fieldA d (.c (.ptr i o))) = some (.ptr i (o + d)) := rfl
@[simp] theorem evP_idxA {len sz i o : Nat} {kd : IntKind} {n : Int} : evP rows (.idxA len sz (.c (.ptr i o)) (.c (.int kd n))) = (idx? n len).map fun j => .ptr i (o + j * sz) := by
  show (match idx? n len with | some j => some (AV.ptr i (o + j * sz)) | none => none) = _
  cases idx? n len <;> rfl
@[simp] theorem evP_idxS {sz i o len : Nat} {c : Cap} {kd : IntKind} {n : Int} : evP rows (.idxS sz (.c (.slice i o len c)) (.c (.int kd n))) = (idx? n len).map fun j => .ptr i (o + j * sz) := by
  show (match idx? n len with | some j => some (AV.ptr i (o + j * sz)) | none => none) = _
  cases idx? n len <;> rfl
@[simp] theorem evP_mkagg {z : List AV} {ps : List (Nat × Nat × Opd)} : evP rows (.mkagg z ps) = (fillA (getO []) ps z).map .agg := rfl
@[simp] theorem evP_sliceS {sz : Nat} {x : AV} {lo hi mx : Option Opd} : evP rows (.sliceS sz (.c x) lo hi mx) = sliceV sz x (lo.map (getO [])) (hi.map (getO [])) (mx.map (getO [])) := rfl
@[simp] theorem evP_sliceA {n sz : Nat} {x : AV} {lo hi mx : Option Opd} : evP rows (.sliceA n sz (.c x) lo hi mx) = sliceAV n sz x (lo.map (getO [])) (hi.map (getO [])) (mx.map (getO [])) := rfl
@[simp] theorem evP_mkfn {f : Nat} {cs : List Opd} : evP rows (.mkfn f cs) = some (.func f (cs.map (getO []))) := rfl
@[simp] theorem evP_lenc {n : Nat} : evP rows (.lenc n) = some (.int .i64 n) := rfl
@[simp] theorem evP_len {i o n : Nat} {c : Cap} : evP rows (.len 0 (.c (.slice i o n c))) = some (.int .i64 n) := rfl
@[simp] theorem evP_len0 : evP rows (.len 0 (.c .nilslice)) = some (.int .i64 0) := rfl
@[simp] theorem evP_mx2 {kd : IntKind} {x y : Int} : evP rows (.mx [.c (.int kd x), .c (.int kd y)]) = some (.int kd (max x y)) := by
  simp only [evP, evalP, List.map_cons, List.map_nil, getO, foldA, mxA, if_true, Option.some.injEq, AV.int.injEq, true_and]
  omega
@[simp] theorem evP_mn2 {kd : IntKind} {x y : Int} : evP rows (.mn [.c (.int kd x), .c (.int kd y)]) = some (.int kd (min x y)) := by
  simp only [evP, evalP, List.map_cons, List.map_nil, getO, foldA, mnA, if_true, Option.some.injEq, AV.int.injEq, true_and]
  omega
@[simp] theorem evP_ext {l : List AV} {i : Nat} : evP rows (.ext (.c (.tup l)) i) = l[i]? := rfl
@[simp] theorem evP_mkif {t : Nat} {v : AV} : evP rows (.mkif t (.c v)) = some (.iface t v) := rfl
@[simp] theorem getOn_c {v : AV} : getO sl (.c v) = v := rfl
@[simp] theorem opt_map_c {v : AV} : (some (Opd.c v)).map (getO []) = some v := rfl

@[simp] theorem gv_F {c : Bool} {e : Option AV} : gv (.bool c) false e = if c = true then some (.tup []) else e := by
  unfold gv
  cases c <;> rfl
@[simp] theorem gv_T {c : Bool} {e : Option AV} : gv (.bool c) true e = if c = true then e else some (.tup []) := by
  unfold gv
  cases c <;> rfl
@[simp] theorem gv_0 {b : Bool} {e : Option AV} : gv (.tup []) b e = some (.tup []) := rfl
@[simp] theorem gw_T {c b : Bool} {K K' : Prop} : gw (.bool c) b K K' ↔ if c = b then K else K' := by
  unfold gw
  cases c <;> cases b <;> rfl
@[simp] theorem gw_0 {b : Bool} {K K' : Prop} : gw (.tup []) b K K' ↔ K' := Iff.rfl
theorem gcall_T {c b : Bool} {args : List AV} {K : AV → List Row → Nat → Prop} {v : AV} : gcall F (.bool c) b rows low args v K ↔ if c = b then callK F rows low args K v else K (.tup []) rows low := gw_T
@[simp] theorem gcall_0 {b : Bool} {args : List AV} {K : AV → List Row → Nat → Prop} {v : AV} : gcall F (.tup []) b rows low args v K ↔ K (.tup []) rows low := Iff.rfl
@[simp] theorem gcall_TT {args : List AV} {K : AV → List Row → Nat → Prop} {v : AV} : gcall F (.bool true) true rows low args v K ↔ callK F rows low args K v := Iff.rfl
@[simp] theorem gcall_FF {args : List AV} {K : AV → List Row → Nat → Prop} {v : AV} : gcall F (.bool false) false rows low args v K ↔ callK F rows low args K v := Iff.rfl
@[simp] theorem gcall_TF {args : List AV} {K : AV → List Row → Nat → Prop} {v : AV} : gcall F (.bool true) false rows low args v K ↔ K (.tup []) rows low := Iff.rfl
@[simp] theorem gcall_FT {args : List AV} {K : AV → List Row → Nat → Prop} {v : AV} : gcall F (.bool false) true rows low args v K ↔ K (.tup []) rows low := Iff.rfl
theorem geff_T {c b : Bool} {o : IOp} {K : AV → List Row → Nat → Prop} : geff (.bool c) b rows low o K ↔ if c = b then bnd (evE rows low o) fun q => K q.1 q.2.1 q.2.2 else K (.tup []) rows low := gw_T
@[simp] theorem geff_0 {b : Bool} {o : IOp} {K : AV → List Row → Nat → Prop} : geff (.tup []) b rows low o K ↔ K (.tup []) rows low := Iff.rfl
@[simp] theorem geff_TT {o : IOp} {K : AV → List Row → Nat → Prop} : geff (.bool true) true rows low o K ↔ bnd (evE rows low o) fun q => K q.1 q.2.1 q.2.2 := Iff.rfl
@[simp] theorem geff_FF {o : IOp} {K : AV → List Row → Nat → Prop} : geff (.bool false) false rows low o K ↔ bnd (evE rows low o) fun q => K q.1 q.2.1 q.2.2 := Iff.rfl
@[simp] theorem geff_TF {o : IOp} {K : AV → List Row → Nat → Prop} : geff (.bool true) false rows low o K ↔ K (.tup []) rows low := Iff.rfl
@[simp] theorem geff_FT {o : IOp} {K : AV → List Row → Nat → Prop} : geff (.bool false) true rows low o K ↔ K (.tup []) rows low := Iff.rfl

@[simp] theorem callK_f {args : List AV} {K : AV → List Row → Nat → Prop} {f : Nat} {cs : List AV} : callK F rows low args K (.func f cs) ↔ bnd (Ret F f (args ++ cs) rows) fun q => K q.1 q.2.1 (lowO low q.2.2) := Iff.rfl
@[congr] theorem callK_congr {rows' : List Row} {low' : Nat} {args args' : List AV} {K : AV → List Row → Nat → Prop} {v v' : AV} (h1 : rows = rows') (h2 : low = low') (h3 : args = args') (h4 : v = v') : callK F rows low args K v = callK F rows' low' args' K v' := by rw [h1, h2, h3, h4]
@[congr] theorem gcall_congr {g g' : AV} {b : Bool} {rows' : List Row} {low' : Nat} {args args' : List AV} {K : AV → List Row → Nat → Prop} {v v' : AV} (h0 : g = g') (h1 : rows = rows') (h2 : low = low') (h3 : args = args') (h4 : v = v') : gcall F g b rows low args v K = gcall F g' b rows' low' args' v' K := by rw [h0, h1, h2, h3, h4]
@[congr] theorem geff_congr {g g' : AV} {b : Bool} {rows' : List Row} {low' : Nat} {o o' : IOp} {K : AV → List Row → Nat → Prop} (h0 : g = g') (h1 : rows = rows') (h2 : low = low') (h3 : o = o') : geff g b rows low o K = geff g' b rows' low' o' K := by rw [h0, h1, h2, h3]
theorem callK_y {args : List AV} {K : AV → List Row → Nat → Prop} {id : Nat} {st : LoopState} {pd : Option Jump} {sl1 : List AV} {ps : List Nat} {asg body : ICode} (h : rows[id]? = some (.loop st pd sl1 ps asg body)) (hl : ps.length = args.length) : callK F rows low args K (.yield id) ↔
    Ex F (.round id) [.code asg, .rfBegin, .code body] ⟨putL sl1 ps args, rows, rows.length⟩ fun q => K q.1 (gc rows.length (lower low q.2.2) q.1 q.2.1) (lower low q.2.2) := by
  simp only [callK, h]
  constructor
  · rintro ⟨_, _, _, _, _, _, e, _, h⟩
    simp only [Option.some.injEq, Row.loop.injEq] at e
    obtain ⟨rfl, rfl, rfl, rfl, rfl, rfl⟩ := e
    exact h
  · intro h
    exact ⟨_, _, _, _, _, _, rfl, hl, h⟩

@[simp] theorem binA_add {kd : IntKind} {a b : Int} : binA .add (.int kd a) (.int kd b) = some (.int kd (kd.wrap (a + b))) := by simp [binA, isShift, binI]
@[simp] theorem binA_sub {kd : IntKind} {a b : Int} : binA .sub (.int kd a) (.int kd b) = some (.int kd (kd.wrap (a - b))) := by simp [binA, isShift, binI]
@[simp] theorem binA_mul {kd : IntKind} {a b : Int} : binA .mul (.int kd a) (.int kd b) = some (.int kd (kd.wrap (a * b))) := by simp [binA, isShift, binI]
@[simp] theorem binA_quo {kd : IntKind} {a b : Int} : binA .quo (.int kd a) (.int kd b) = if b = 0 then none else some (.int kd (kd.wrap (a.tdiv b))) := by simp [binA, isShift, binI]
@[simp] theorem binA_rem {kd : IntKind} {a b : Int} : binA .rem (.int kd a) (.int kd b) = if b = 0 then none else some (.int kd (a.tmod b)) := by simp [binA, isShift, binI]
@[simp] theorem binA_and {kd : IntKind} {a b : Int} : binA .and (.int kd a) (.int kd b) = some (.int kd (kd.wrap (bvop .and kd.bits a b))) := by simp [binA, isShift, binI]
@[simp] theorem binA_or {kd : IntKind} {a b : Int} : binA .or (.int kd a) (.int kd b) = some (.int kd (kd.wrap (bvop .or kd.bits a b))) := by simp [binA, isShift, binI]
@[simp] theorem binA_xor {kd : IntKind} {a b : Int} : binA .xor (.int kd a) (.int kd b) = some (.int kd (kd.wrap (bvop .xor kd.bits a b))) := by simp [binA, isShift, binI]
@[simp] theorem binA_andNot {kd : IntKind} {a b : Int} : binA .andNot (.int kd a) (.int kd b) = some (.int kd (kd.wrap (bvop .andNot kd.bits a b))) := by simp [binA, isShift, binI]
@[simp] theorem binA_eql {kd : IntKind} {a b : Int} : binA .eql (.int kd a) (.int kd b) = some (.bool (decide (a = b))) := by
  simp only [binA, isShift, binI, if_true, Bool.false_eq_true, if_false, Option.some.injEq, AV.bool.injEq]
  by_cases h : a = b <;> simp [h]
@[simp] theorem binA_neq {kd : IntKind} {a b : Int} : binA .neq (.int kd a) (.int kd b) = some (.bool (decide (a ≠ b))) := by
  simp only [binA, isShift, binI, if_true, Bool.false_eq_true, if_false, Option.some.injEq, AV.bool.injEq]
  by_cases h : a = b <;> simp [h]
@[simp] theorem binA_lss {kd : IntKind} {a b : Int} : binA .lss (.int kd a) (.int kd b) = some (.bool (decide (a < b))) := by simp [binA, isShift, binI]
@[simp] theorem binA_leq {kd : IntKind} {a b : Int} : binA .leq (.int kd a) (.int kd b) = some (.bool (decide (a ≤ b))) := by simp [binA, isShift, binI]
@[simp] theorem binA_gtr {kd : IntKind} {a b : Int} : binA .gtr (.int kd a) (.int kd b) = some (.bool (decide (b < a))) := by simp [binA, isShift, binI]
@[simp] theorem binA_geq {kd : IntKind} {a b : Int} : binA .geq (.int kd a) (.int kd b) = some (.bool (decide (b ≤ a))) := by simp [binA, isShift, binI]
@[simp] theorem binA_shl {kd kd' : IntKind} {a b : Int} : binA .shl (.int kd a) (.int kd' b) = if b < 0 then none else some (.int kd (kd.wrap (a * 2 ^ (min b.toNat kd.bits)))) := by simp [binA, isShift, shiftI]
@[simp] theorem binA_shr {kd kd' : IntKind} {a b : Int} : binA .shr (.int kd a) (.int kd' b) = if b < 0 then none else some (.int kd (a.fdiv (2 ^ (min b.toNat kd.bits)))) := by simp [binA, isShift, shiftI]
@[simp] theorem eqA_b {a b : Bool} : eqA .bool (.bool a) (.bool b) = some (a == b) := rfl
@[simp] theorem eqA_s0 : eqA .slice .nilslice .nilslice = some true := rfl
@[simp] theorem eqA_s1 {i o n : Nat} {c : Cap} : eqA .slice (.slice i o n c) .nilslice = some false := rfl
@[simp] theorem eqA_p1 {i o : Nat} : eqA .ptr (.ptr i o) .nilptr = some false := rfl
@[simp] theorem eqA_p0 : eqA .ptr .nilptr .nilptr = some true := rfl
@[simp] theorem eqA_ints {n : Nat} {xs ys : List AV} : eqA (.ints n) (.agg xs) (.agg ys) = if xs.length = n ∧ ys.length = n then eqInts xs ys else none := rfl

/-- The cells of a row that may be written. -/
def cells? (rows : List Row) (i : Nat) : Option (List AV) :=
  match rows[i]? with
  | some (.cells vs) => some vs
  | _ => none
@[simp] theorem evE_box {v : AV} : evE rows low (.box (.c v)) = if v.cells.all AV.one = true then some (.ptr rows.length 0, rows ++ [.cells v.cells], low) else none := rfl
@[simp] theorem evE_store1 {i o : Nat} {x : AV} : evE rows low (.store1 (.c (.ptr i o)) (.c x)) = (cells? rows i).bind fun vs => if o < vs.length ∧ x.one = true then some (AV.tup [], rows.set i (.cells (vs.set o x)), lower low i) else none := by
  show (match rows[i]? with | some (.cells vs) => if o < vs.length ∧ x.one = true then some (AV.tup [], rows.set i (.cells (vs.set o x)), lower low i) else none | _ => none) = _
  unfold cells?
  cases rows[i]? with
  | none => rfl
  | some y => cases y <;> rfl
@[simp] theorem evE_storeN {n i o : Nat} {l : List AV} : evE rows low (.storeN n (.c (.ptr i o)) (.c (.agg l))) = (cells? rows i).bind fun vs => if l.length = n ∧ o + n ≤ vs.length ∧ l.all AV.one = true then some (AV.tup [], rows.set i (.cells (splice vs o l)), lower low i) else none := by
  show (match rows[i]? with | some (.cells vs) => if l.length = n ∧ o + n ≤ vs.length ∧ l.all AV.one = true then some (AV.tup [], rows.set i (.cells (splice vs o l)), lower low i) else none | _ => none) = _
  unfold cells?
  cases rows[i]? with
  | none => rfl
  | some y => cases y <;> rfl
@[simp] theorem evE_mkslice {n : Nat} {z : List AV} {ps : List (Nat × Nat × Opd)} : evE rows low (.mkslice n z ps) = (fillA (getO []) ps z).map fun cs => (AV.slice rows.length 0 n (.at_ n), rows ++ [.cells cs], low) := by
  show (match fillA (getO []) ps z with | some cs => some (AV.slice rows.length 0 n (.at_ n), rows ++ [Row.cells cs], low) | none => none) = _
  cases fillA (getO []) ps z <;> rfl
@[simp] theorem evE_make {z : List AV} {b : Nat} {kd kd' : IntKind} {x y : Int} : evE rows low (.make z b (.c (.int kd x)) (.c (.int kd' y))) = if 0 ≤ x ∧ x ≤ y ∧ y ≤ lim then some (.slice rows.length 0 x.toNat (.at_ y.toNat), rows ++ [.cells ((List.replicate y.toNat z).flatten)], low) else none := rfl
@[simp] theorem evE_appz {z : List AV} {kd : IntKind} {n : Int} {b : AV} : evE rows low (.appz z (.c .nilslice) (.c (.int kd n))) = if 0 < n ∧ n ≤ lim then some (.slice rows.length 0 n.toNat (.op 1), rows ++ [.cells ((List.replicate n.toNat z).flatten)], low) else none := rfl
@[simp] theorem evE_mkmap : evE rows low .mkmap = some (.map rows.length, rows ++ [.mp []], low) := rfl

/-! ### Rows -/
theorem lower_ge {low id : Nat} (h : low ≤ id) : lower low id = low := by unfold lower; rw [if_neg (by omega)]
theorem lower_lt {low id : Nat} (h : id < low) : lower low id = id := by unfold lower; rw [if_pos h]
@[simp] theorem lower_self {n : Nat} : lower n n = n := lower_ge (Nat.le_refl _)
@[simp] theorem lower_add {n m : Nat} : lower n (n + m) = n := lower_ge (by omega)
@[simp] theorem rows_at {L : List Row} {i : Nat} : (rows ++ L)[rows.length + i]? = L[i]? := by
  rw [List.getElem?_append_right (by omega)]; congr 1; omega
@[simp] theorem rows_at0 {L : List Row} : (rows ++ L)[rows.length]? = L[0]? := by
  rw [List.getElem?_append_right (by omega)]; simp
@[simp] theorem rows_set {L : List Row} {i : Nat} {x : Row} : (rows ++ L).set (rows.length + i) x = rows ++ L.set i x := by
  rw [List.set_append_right _ _ (by omega)]; congr 2; omega
@[simp] theorem rows_set0 {L : List Row} {x : Row} : (rows ++ L).set rows.length x = rows ++ L.set 0 x := by
  rw [List.set_append_right _ _ (by omega)]; simp
theorem rows_old {i : Nat} {x : Row} (h : rows[i]? = some x) (l : List Row) : (rows ++ l)[i]? = some x := by
  rw [List.getElem?_append_left (List.getElem?_eq_some_iff.1 h).1]; exact h
theorem rows_lt {i : Nat} {x : Row} (h : rows[i]? = some x) : i < rows.length := (List.getElem?_eq_some_iff.1 h).1
@[simp] theorem row?_at {L : List Row} {i : Nat} : row? (rows ++ L) (rows.length + i) = row? L i := by simp [row?]
@[simp] theorem row?_at0 {L : List Row} : row? (rows ++ L) rows.length = row? L 0 := by simp [row?]
@[simp] theorem cells?_at {L : List Row} {i : Nat} : cells? (rows ++ L) (rows.length + i) = cells? L i := by simp [cells?]
@[simp] theorem cells?_at0 {L : List Row} : cells? (rows ++ L) rows.length = cells? L 0 := by simp [cells?]
@[simp] theorem row?_0 {vs : List AV} {L : List Row} : row? (.cells vs :: L) 0 = some vs := rfl
@[simp] theorem row?_s {x : Row} {L : List Row} {i : Nat} : row? (x :: L) (i + 1) = row? L i := by simp [row?]
@[simp] theorem cells?_0 {vs : List AV} {L : List Row} : cells? (.cells vs :: L) 0 = some vs := rfl
@[simp] theorem cells?_s {x : Row} {L : List Row} {i : Nat} : cells? (x :: L) (i + 1) = cells? L i := by simp [cells?]
theorem row?_old {i : Nat} {vs : List AV} (h : row? rows i = some vs) (L : List Row) : row? (rows ++ L) i = some vs := by
  unfold row? at h ⊢
  have hl : i < rows.length := by
    by_cases e : i < rows.length
    · exact e
    · rw [List.getElem?_eq_none (by omega)] at h; simp at h
  rw [List.getElem?_append_left hl]; exact h
theorem row?_lt {i : Nat} {vs : List AV} (h : row? rows i = some vs) : i < rows.length := by
  unfold row? at h
  by_cases e : i < rows.length
  · exact e
  · rw [List.getElem?_eq_none (by omega)] at h; simp at h
theorem cells?_row {i : Nat} {vs : List AV} (h : cells? rows i = some vs) : row? rows i = some vs := by
  unfold cells? at h; unfold row?
  split at h
  · rename_i e; rw [e]; exact h
  · simp at h
theorem cells?_old {i : Nat} {vs : List AV} (h : cells? rows i = some vs) (L : List Row) : cells? (rows ++ L) i = some vs := by
  have hl := row?_lt (cells?_row h)
  unfold cells? at h ⊢
  rw [List.getElem?_append_left hl]; exact h

/-! ### What a call leaves -/
@[simp] theorem fin_val {v : AV} {rows' : List Row} (h : v.ids = []) : fin rows v rows' rows.length = (v, rows, none) := by simp [fin, h]
theorem fin_old {v : AV} {rows' : List Row} (h : v.ids.all (· < rows.length) = true) : fin rows v rows' rows.length = (v, rows, none) := by simp only [fin, h, if_true]

/-! ### Whole numbers -/
theorem wrap64 {n : Int} (h1 : -9223372036854775808 ≤ n) (h2 : n ≤ 9223372036854775807) : IntKind.i64.wrap n = n := by
  simp [IntKind.wrap, IntKind.min, IntKind.max, IntKind.signed, IntKind.bits]; omega
theorem wrapU64 {n : Int} (h1 : 0 ≤ n) (h2 : n ≤ 18446744073709551615) : IntKind.u64.wrap n = n := by
  simp [IntKind.wrap, IntKind.min, IntKind.max, IntKind.signed, IntKind.bits]; omega
theorem idx?_ok {n : Int} {len : Nat} (h1 : 0 ≤ n) (h2 : n < len) : idx? n len = some n.toNat := by unfold idx?; rw [if_pos ⟨h1, h2⟩]
@[simp] theorem idx?_nat {n len : Nat} : idx? (n : Int) len = if n < len then some n else none := by
  unfold idx?
  by_cases h : n < len
  · rw [if_pos ⟨by omega, by omega⟩, if_pos h]; simp
  · rw [if_neg (by omega), if_neg h]

/-! ### Lists of whole numbers -/
def nums (k : IntKind) (l : List Int) : List AV := l.map (.int k)
section
variable {kd : IntKind} {l : List Int}
@[simp] theorem nums_len : (nums kd l).length = l.length := by simp [nums]
@[simp] theorem nums_get {i : Nat} : (nums kd l)[i]? = (l[i]?).map (.int kd) := by simp [nums]
@[simp] theorem nums_getE {i : Nat} (h : i < (nums kd l).length) : (nums kd l)[i] = .int kd (l[i]'(by simpa using h)) := by simp [nums]
@[simp] theorem nums_set {i : Nat} {v : Int} : (nums kd l).set i (.int kd v) = nums kd (l.set i v) := by simp [nums, List.map_set]
@[simp] theorem nums_one : (nums kd l).all AV.one = true := by simp [nums, AV.one]
@[simp] theorem nums_one2 : (∀ x ∈ nums kd l, x.one = true) ↔ True := by simp [nums]
@[simp] theorem nums_under {b : Nat} : (nums kd l).all (AV.under b) = true := by simp [nums, AV.under, AV.ids]
@[simp] theorem nums_ids : (nums kd l).all (·.ids.isEmpty) = true := by simp [nums, AV.ids]
@[simp] theorem nums_app {m : List Int} : nums kd l ++ nums kd m = nums kd (l ++ m) := by simp [nums]
theorem nums_rep {n : Nat} {v : Int} : List.replicate n (.int kd v) = nums kd (List.replicate n v) := by simp [nums]
theorem nums_repF {n : Nat} {v : Int} : (List.replicate n [AV.int kd v]).flatten = nums kd (List.replicate n v) := by
  induction n with
  | zero => rfl
  | succ n ih => simp [List.replicate_succ, ih, nums]
theorem nums_seg {i n : Nat} : seg (nums kd l) i n = if i + n ≤ l.length then some (nums kd ((l.drop i).take n)) else none := by
  unfold seg; simp [nums]
theorem nums_all {n : Nat} (h : l.length = n) : seg (nums kd l) 0 n = some (nums kd l) := by
  rw [nums_seg, if_pos (by omega)]; simp [← h]
theorem splice_all {vs w : List AV} (h : vs.length = w.length) : splice vs 0 w = w := by
  unfold splice; simp [← h]
theorem get_at {l : List Int} {i : Nat} (h : i < l.length) : l[i]? = some (l.getD i 0) := by
  rw [List.getD_eq_getElem?_getD, List.getElem?_eq_getElem h]; rfl
end
@[simp] theorem nums_fin {kd : IntKind} {o n : Nat} {c : Cap} {l : List Int} {L : List Row} : fin rows (.slice rows.length o n c) (rows ++ .cells (nums kd l) :: L) rows.length = (.slice rows.length o n c, rows ++ [.cells (nums kd l)], none) := by
  simp [fin, AV.plain1, AV.plain, AV.ren1, AV.ren]
end
end Go.Abs
/- Slices as lists. -/
namespace Go.Abs
/-- A list's number at a place. -/
def gI (l : List Int) (i : Nat) : Int := l.getD i 0
theorem gI_get {l : List Int} {i : Nat} (h : i < l.length) : l[i]? = some (gI l i) := get_at h
theorem gI_eq {l : List Int} {i : Nat} (h : i < l.length) : gI l i = l[i] := by simp [gI, h]
theorem gI_mem {l : List Int} {i : Nat} (h : i < l.length) : gI l i ∈ l := by rw [gI_eq h]; exact List.getElem_mem h
def sid : AV → Nat
  | .slice id _ _ _ => id
  | _ => 0
def soff : AV → Nat
  | .slice _ off _ _ => off
  | _ => 0
@[simp] theorem sid_s {i o n : Nat} {c : Cap} : sid (.slice i o n c) = i := rfl
@[simp] theorem soff_s {i o n : Nat} {c : Cap} : soff (.slice i o n c) = o := rfl
/-- A slice's cells: 'cs' of 'n' elements. -/
def El (rows : List Row) (sz : Nat) (v : AV) (cs : List AV) (n : Nat) : Prop := elems rows sz v = some (cs, n)
/-- A slice of whole numbers. -/
def IsL (rows : List Row) (v : AV) (l : List Int) : Prop := El rows 1 v (nums .i64 l) l.length

section
variable {rows : List Row} {sz : Nat} {v : AV} {cs : List AV} {n : Nat}
theorem El_cases (h : El rows sz v cs n) : (v = .nilslice ∧ cs = [] ∧ n = 0) ∨ ∃ id off c vs, v = .slice id off n c ∧ row? rows id = some vs ∧ seg vs off (n * sz) = some cs := by
  unfold El elems at h
  split at h
  · simp only [Option.some.injEq, Prod.mk.injEq] at h
    exact Or.inl ⟨rfl, h.1.symm, h.2.symm⟩
  · split at h
    · rename_i hr
      rw [Option.map_eq_some_iff] at h
      obtain ⟨l, e, h⟩ := h
      simp only [Prod.mk.injEq] at h
      obtain ⟨rfl, rfl⟩ := h
      exact Or.inr ⟨_, _, _, _, rfl, hr, e⟩
    · simp at h
  · simp at h
theorem seg_len {vs l : List AV} {o n : Nat} (h : seg vs o n = some l) : l.length = n ∧ o + n ≤ vs.length := by
  unfold seg at h
  split at h
  · injection h with h
    subst h
    simp only [List.length_take, List.length_drop]
    omega
  · simp at h
theorem seg_get {vs l : List AV} {o n j : Nat} (h : seg vs o n = some l) (hj : j < n) : vs[o + j]? = l[j]? := by
  unfold seg at h
  split at h
  · injection h with h
    subst h
    rw [List.getElem?_take, if_pos hj, List.getElem?_drop]
  · simp at h
theorem seg_seg {vs l : List AV} {o n j m : Nat} (h : seg vs o n = some l) (hj : j + m ≤ n) : seg vs (o + j) m = seg l j m := by
  have hl := seg_len h
  unfold seg at h ⊢
  rw [if_pos (by omega)] at h
  injection h with h
  rw [if_pos (by omega), if_pos (by omega), ← h, List.drop_take, List.take_take, List.drop_drop]
  congr 2
  omega
theorem El_len (h : El rows sz v cs n) : cs.length = n * sz := by
  rcases El_cases h with ⟨_, rfl, rfl⟩ | ⟨id, off, c, vs, rfl, hr, hs⟩
  · simp
  · exact (seg_len hs).1
theorem evP_lenE (h : El rows sz v cs n) : evP rows (.len 0 (.c v)) = some (.int .i64 n) := by
  rcases El_cases h with ⟨rfl, rfl, rfl⟩ | ⟨id, off, c, vs, rfl, hr, hs⟩ <;> rfl
theorem evP_idxE (h : El rows sz v cs n) {k : IntKind} {i : Int} (h0 : 0 ≤ i) (h1 : i < n) : evP rows (.idxS sz (.c v) (.c (.int k i))) = some (.ptr (sid v) (soff v + i.toNat * sz)) := by
  rcases El_cases h with ⟨rfl, rfl, rfl⟩ | ⟨id, off, c, vs, rfl, hr, hs⟩
  · omega
  · rw [evP_idxS, idx?_ok h0 h1]; rfl
theorem evP_loadE (h : El rows sz v cs n) {j : Nat} (hj : j < cs.length) : evP rows (.load1 (.c (.ptr (sid v) (soff v + j)))) = cs[j]? := by
  have hl := El_len h
  rcases El_cases h with ⟨rfl, rfl, rfl⟩ | ⟨id, off, c, vs, rfl, hr, hs⟩
  · simp at hj
  · rw [evP_load1]
    simp only [sid, soff, hr, Option.bind_some]
    rw [seg_get hs (by omega)]
theorem evP_loadNE (h : El rows sz v cs n) {j m : Nat} (hj : j + m ≤ cs.length) (hm : 0 < m) : evP rows (.loadN m (.c (.ptr (sid v) (soff v + j)))) = (seg cs j m).map AV.agg := by
  have hl := El_len h
  rcases El_cases h with ⟨rfl, rfl, rfl⟩ | ⟨id, off, c, vs, rfl, hr, hs⟩
  · simp at hj; omega
  · rw [evP_loadN]
    simp only [sid, soff, hr, Option.bind_some]
    rw [seg_seg hs (by omega)]
theorem El_app (h : El rows sz v cs n) (L : List Row) : El (rows ++ L) sz v cs n := by
  rcases El_cases h with ⟨rfl, rfl, rfl⟩ | ⟨id, off, c, vs, rfl, hr, hs⟩
  · rfl
  · unfold El elems
    simp only [row?_old hr, hs, Option.map_some]
theorem El_nil : El rows sz .nilslice [] 0 := rfl

variable {l : List Int}
theorem lenL (h : IsL rows v l) (L : List Row) : evP (rows ++ L) (.len 0 (.c v)) = some (.int .i64 l.length) := evP_lenE (El_app h L)
theorem idxL (h : IsL rows v l) (L : List Row) {k : IntKind} {i : Int} (h0 : 0 ≤ i) (h1 : i < l.length) : evP (rows ++ L) (.idxS 1 (.c v) (.c (.int k i))) = some (.ptr (sid v) (soff v + i.toNat)) := by
  rw [evP_idxE (El_app h L) h0 h1, Nat.mul_one]
theorem loadL (h : IsL rows v l) (L : List Row) {j : Nat} (hj : j < l.length) : evP (rows ++ L) (.load1 (.c (.ptr (sid v) (soff v + j)))) = some (.int .i64 (gI l j)) := by
  rw [evP_loadE (El_app h L) (by simpa using hj), nums_get, get_at hj]; rfl
theorem lenL0 (h : IsL rows v l) : evP rows (.len 0 (.c v)) = some (.int .i64 l.length) := evP_lenE h
theorem idxL0 (h : IsL rows v l) {k : IntKind} {i : Int} (h0 : 0 ≤ i) (h1 : i < l.length) : evP rows (.idxS 1 (.c v) (.c (.int k i))) = some (.ptr (sid v) (soff v + i.toNat)) := by
  rw [evP_idxE h h0 h1, Nat.mul_one]
theorem loadL0 (h : IsL rows v l) {j : Nat} (hj : j < l.length) : evP rows (.load1 (.c (.ptr (sid v) (soff v + j)))) = some (.int .i64 (gI l j)) := by
  rw [evP_loadE h (by simpa using hj), nums_get, get_at hj]; rfl
theorem IsL_app (h : IsL rows v l) (L : List Row) : IsL (rows ++ L) v l := El_app h L
theorem IsL_nil : IsL rows .nilslice [] := rfl
theorem IsL_mk {id off n : Nat} {c : Cap} {vs : List AV} (hr : row? rows id = some vs) (hs : seg vs off l.length = some (nums .i64 l)) : IsL rows (.slice id off l.length c) l := by
  unfold IsL El elems
  simp only [hr, Nat.mul_one, hs, Option.map_some]
theorem IsL_new {L : List Row} {c : Cap} {n : Nat} (hn : n = l.length) : IsL (rows ++ .cells (nums .i64 l) :: L) (.slice rows.length 0 n c) l := by
  subst hn
  exact IsL_mk (n := 0) (vs := nums .i64 l) (by simp) (by rw [nums_all rfl])
end
end Go.Abs
/- More functions do no harm. -/
namespace Go.Abs
section
variable {F F' : Nat → Option IFn} (hF : ∀ n c, F n = some c → F' n = some c)
include hF in
theorem cF_ext {n : Nat} (h : ∀ cx k s r, exec F n cx k s = some r → exec F' n cx k s = some r) : LeC (cF F n) (cF F' n) := by
  intro f vs rows r e
  unfold cF callBy at e ⊢
  split at e
  · rename_i fn hfn
    rw [hF _ _ hfn]
    unfold callR at e
    split at e
    · rename_i hx
      simp only [h _ _ _ _ hx, callR]
      exact e
    · simp at e
  · simp at e

include hF in
theorem exec_ext : ∀ (n : Nat) (cx : Ctx) (k : List Itm) (s : St) (r : AV × List Row × Nat), exec F n cx k s = some r → exec F' n cx k s = some r := by
  intro n
  induction n with
  | zero => intro cx k s r h; simp [exec] at h
  | succ n ih =>
    intro cx k s r h
    have hc : LeC (cF F n) (cF F' n) := cF_ext hF ih
    cases k with
    | nil => simp only [exec] at h ⊢; exact h
    | cons x k =>
      cases x with
      | inBlock id => simp only [exec] at h ⊢; exact ih _ _ _ _ h
      | inScope c => simp only [exec] at h ⊢; exact ih _ _ _ _ h
      | inLoop c => simp only [exec, St.force_eq] at h; rw [exec, St.force_eq]; exact ih _ _ _ _ h
      | rfBegin =>
        simp only [exec] at h ⊢
        split at h
        · split at h
          · exact ih _ _ _ _ h
          · simp at h
        · simp at h
      | ops l =>
        cases l with
        | nil => simp only [exec] at h ⊢; exact ih _ _ _ _ h
        | cons sg l =>
          cases sg with
          | one o =>
            rw [exec] at h ⊢
            split at h
            · rename_i id vs hy
              split at h
              · split at h
                · rename_i hl
                  split at h
                  · rename_i hx
                    simp only [if_pos hl, ih _ _ _ _ hx]
                    exact ih _ _ _ _ h
                  · simp at h
                · simp at h
              · simp at h
            · split at h
              · rename_i hop
                rw [show opR (callBy F' (exec F' n)) s.sl s.rows s.low o = _ from opR_mono hc hop]
                exact ih _ _ _ _ h
              · simp at h
          | grp g =>
            rw [exec] at h ⊢
            split at h
            · rename_i hop
              rw [show evalG (callBy F' (exec F' n)) s.rows 0 g s.sl [] = _ from evalG_mono hc _ _ _ _ _ hop]
              exact ih _ _ _ _ h
            · simp at h
          | grpw a x z g =>
            rw [exec] at h ⊢
            split at h
            · rename_i hop
              rw [show evalG (callBy F' (exec F' n)) (s.rows.set (rowOf s.rows s.sl g a) .dead) 0 g s.sl [] = _ from evalG_mono hc _ _ _ _ _ hop]
              simp only
              split at h
              · exact ih _ _ _ _ h
              · simp at h
            · simp at h
          | stop => simp [exec] at h
      | code c =>
        cases c with
        | skip => simp only [exec] at h ⊢; exact ih _ _ _ _ h
        | ret => simp only [exec] at h ⊢; exact h
        | exit id =>
          simp only [exec] at h ⊢
          split at h
          · exact ih _ _ _ _ h
          · exact h
        | seq a b => rw [exec] at h ⊢; exact ih _ _ _ _ h
        | cond c a b =>
          rw [exec] at h ⊢
          split at h
          · exact ih _ _ _ _ h
          · simp at h
        | block id c => rw [exec] at h ⊢; exact ih _ _ _ _ h
        | loop c => rw [exec] at h ⊢; exact ih _ _ _ _ h
        | scope c => rw [exec] at h ⊢; exact ih _ _ _ _ h
        | ops l => simp only [exec, St.forceS_eq] at h ⊢; exact ih _ _ _ _ h
        | rf f ps a b =>
          rw [exec] at h ⊢
          split at h
          · rename_i hok
            rw [if_pos hok]
            split at h
            · split at h
              · rename_i hop
                rw [show callBy F' (exec F' n) _ _ _ = _ from hc _ _ _ _ hop]
                simp only
                split at h
                · exact ih _ _ _ _ h
                · simp at h
              · simp at h
            · simp at h
          · simp at h
        | kill l c => rw [exec] at h ⊢; exact ih _ _ _ _ h
        | stop => simp [exec] at h


include hF in
theorem Ret_ext {f : Nat} {vs : List AV} {rows : List Row} {q : AV × List Row × Option Nat} (h : Ret F f vs rows = some q) : Ret F' f vs rows = some q := by
  obtain ⟨n, h⟩ := Ret_iff.1 h
  exact Ret_of (cF_ext hF (exec_ext hF n) _ _ _ _ h)
end
/-- A table with one function more. -/
def more (F : Nat → Option IFn) (i : Nat) (c : IFn) (n : Nat) : Option IFn := if n = i then some c else F n
theorem more_ext {F : Nat → Option IFn} {i : Nat} {c : IFn} (h : F i = none) : ∀ n d, F n = some d → more F i c n = some d := by
  intro n d e
  unfold more
  rw [if_neg (fun e2 => by rw [e2, h] at e; simp at e)]
  exact e
theorem more_at {F : Nat → Option IFn} {i : Nat} {c : IFn} : more F i c i = some c := by simp [more]
end Go.Abs
/- More rules for the simplifier: groups, rows at a known place, what a call leaves. -/
namespace Go.Abs
section
variable {F : Nat → Option IFn} {rows : List Row} {low : Nat}
@[simp] theorem maskE_nil {b : Nat} : maskE b [] = [] := rfl
@[simp] theorem opC_f {args : List AV} {f : Nat} {cs : List AV} : opC F rows low args (.func f cs) = (Ret F f (args ++ cs) rows).map fun q => (q.1, q.2.1, lowO low q.2.2) := rfl
@[simp] theorem go_TT {e : Option (AV × List Row × Nat)} : go (.bool true) true rows low e = e := rfl
@[simp] theorem go_FF {e : Option (AV × List Row × Nat)} : go (.bool false) false rows low e = e := rfl
@[simp] theorem go_TF {e : Option (AV × List Row × Nat)} : go (.bool true) false rows low e = some (.tup [], rows, low) := rfl
@[simp] theorem go_FT {e : Option (AV × List Row × Nat)} : go (.bool false) true rows low e = some (.tup [], rows, low) := rfl
@[simp] theorem go_0 {b : Bool} {e : Option (AV × List Row × Nat)} : go (.tup []) b rows low e = some (.tup [], rows, low) := rfl

/-! ### Rows behind a piece whose length is known -/
variable {R L : List Row} {A k : Nat}
theorem rowA (h : R.length = A) : row? (R ++ L) (A + k) = row? L k := by subst h; exact row?_at
theorem rowA0 (h : R.length = A) : row? (R ++ L) A = row? L 0 := by subst h; exact row?_at0
theorem cellsA (h : R.length = A) : cells? (R ++ L) (A + k) = cells? L k := by subst h; exact cells?_at
theorem cellsA0 (h : R.length = A) : cells? (R ++ L) A = cells? L 0 := by subst h; exact cells?_at0
theorem setA (h : R.length = A) {x : Row} : (R ++ L).set (A + k) x = R ++ L.set k x := by subst h; exact rows_set
theorem setA0 (h : R.length = A) {x : Row} : (R ++ L).set A x = R ++ L.set 0 x := by subst h; exact rows_set0

theorem loadL00 {rows : List Row} {v : AV} {l : List Int} (h : IsL rows v l) (hj : 0 < l.length) : evP rows (.load1 (.c (.ptr (sid v) (soff v)))) = some (.int .i64 (gI l 0)) := loadL0 h hj
/-! ### What a call leaves, where it wrote old rows -/
theorem gc_cases (b low : Nat) (v : AV) (rows : List Row) : gc b low v rows = rows ∨ (gc b low v rows = rows.take b ∧ ((rows.take b).drop low).all (Row.under b) = true) := by
  unfold gc
  split
  · rename_i h
    rw [Bool.and_eq_true] at h
    exact .inr ⟨rfl, h.2⟩
  · exact .inl rfl
theorem fin_lt {v : AV} {rows' : List Row} (h : low ≠ rows.length) : fin rows v rows' low = (v, gc rows.length low v rows', some low) := by
  unfold fin; rw [if_neg h]
theorem fin_slice {L : List Row} {k o n : Nat} {c : Cap} {vs : List AV} (h : L[k]? = some (.cells vs)) (hv : vs.all (·.ids.isEmpty) = true) : fin rows (.slice (rows.length + k) o n c) (rows ++ L) rows.length = (.slice rows.length o n c, rows ++ [.cells vs], none) := by
  have e : ¬ rows.length + k < rows.length := by omega
  unfold fin
  rw [if_pos rfl]
  simp only [ids_slice, List.all_cons, List.all_nil, Bool.and_true, decide_eq_true_eq]
  rw [if_neg e, rows_at, h]
  simp only [hv, Bool.true_and, AV.plain1, AV.plain, if_true, AV.ren1, AV.ren]
theorem fin_slice_int {L : List Row} {k o n : Nat} {c : Cap} {vs : List AV} {kd : IntKind} {e : Int} (h : L[k]? = some (.cells vs)) (hv : vs.all (·.ids.isEmpty) = true) : fin rows (.tup [.slice (rows.length + k) o n c, .int kd e]) (rows ++ L) rows.length = (.tup [.slice rows.length o n c, .int kd e], rows ++ [.cells vs], none) := by
  have e : ¬ rows.length + k < rows.length := by omega
  unfold fin
  rw [if_pos rfl]
  simp only [ids_tup, idsL_cons, idsL_nil, ids_slice, ids_int, List.append_nil, List.all_cons, List.all_nil, Bool.and_true, decide_eq_true_eq]
  rw [if_neg e, rows_at, h]
  simp only [hv, Bool.true_and, AV.plain1, AV.plain, List.all_cons, List.all_nil, ids_int, List.isEmpty_nil, Bool.and_self, if_true, AV.ren1, AV.ren, List.map_cons, List.map_nil]
theorem cells?_get {id : Nat} {vs : List AV} (h : cells? rows id = some vs) : rows[id]? = some (.cells vs) := by
  unfold cells? at h
  split at h
  · rename_i e; injection h with h; rw [e, h]
  · simp at h
/-- An append to nothing. -/
theorem app_nil {sz b m : Nat} {x : AV} {ys : List AV} (hx : El rows sz x ys m) (h0 : 0 < m) (h1 : m ≤ lim) : evE rows low (.app sz b (.c .nilslice) (.c x)) = some (.slice rows.length 0 m (.op sz), rows ++ [.cells ys], low) := by
  simp only [evE, evalE, getO, show elems rows sz x = some (ys, m) from hx]
  rw [if_neg (by omega), if_neg (by omega)]
/-- An append of nothing. -/
theorem app_0 {sz b : Nat} {s x : AV} {ys : List AV} (hx : El rows sz x ys 0) (hs : s = .nilslice ∨ ∃ id off n c, s = .slice id off n c) : evE rows low (.app sz b (.c s) (.c x)) = some (s, rows, low) := by
  simp only [evE, evalE, getO, show elems rows sz x = some (ys, 0) from hx]
  rw [if_pos trivial]
  rcases hs with rfl | ⟨id, off, n, c, rfl⟩ <;> rfl
/-- An append to what an append has made. -/
theorem app_op {sz b id off n m : Nat} {x : AV} {vs xs ys : List AV} (hc : cells? rows id = some vs) (hs : seg vs off (n * sz) = some xs) (hx : El rows sz x ys m) (h0 : 0 < m) (h1 : n + m ≤ lim) : evE rows low (.app sz b (.c (.slice id off n (.op sz))) (.c x)) = some (.slice rows.length 0 (n + m) (.op sz), rows.set id .dead ++ [.cells (xs ++ ys)], lower low id) := by
  simp only [evE, evalE, getO, show elems rows sz x = some (ys, m) from hx]
  rw [if_neg (by omega), if_neg (by omega), if_neg (by simp; omega)]
  simp only [cells?_get hc, hs]
/-- An append that has no room. -/
theorem app_at {sz b id off n m c : Nat} {x : AV} {vs xs ys : List AV} (hc : row? rows id = some vs) (hs : seg vs off (n * sz) = some xs) (hx : El rows sz x ys m) (h0 : 0 < m) (h1 : n + m ≤ lim) (h2 : c < n + m) : evE rows low (.app sz b (.c (.slice id off n (.at_ c))) (.c x)) = some (.slice rows.length 0 (n + m) (.op sz), rows ++ [.cells (xs ++ ys)], low) := by
  simp only [evE, evalE, getO, show elems rows sz x = some (ys, m) from hx]
  rw [if_neg (by omega), if_neg (by omega), if_neg (by omega), if_neg (by omega)]
  simp only [hc, hs]
end
end Go.Abs
