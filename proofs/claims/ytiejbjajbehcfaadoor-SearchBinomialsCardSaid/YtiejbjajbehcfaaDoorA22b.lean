/- Calls without a number of rounds, as a function: rules as equivalences. -/
import Derived.Test.YtiejbjajbehcfaaDoorA22
set_option linter.unusedVariables false
set_option linter.unusedSimpArgs false
namespace Go.Abs
section
variable {F : Nat → Option IFn}
open Classical in
/-- What a call comes to, if it comes to anything. -/
noncomputable def Ret (F : Nat → Option IFn) : CallF := fun f vs rows => if h : ∃ q, ∃ n, cF F n f vs rows = some q then some h.choose else none

theorem cF_le {n m : Nat} (h : n ≤ m) : LeC (cF F n) (cF F m) := cF_mono fun cx k s r e => exec_le h e

theorem Ret_of {n f : Nat} {vs : List AV} {rows : List Row} {q : AV × List Row × Option Nat} (h : cF F n f vs rows = some q) : Ret F f vs rows = some q := by
  have hx : ∃ q, ∃ n, cF F n f vs rows = some q := ⟨q, n, h⟩
  unfold Ret
  rw [dif_pos hx]
  obtain ⟨m, hm⟩ := hx.choose_spec
  have h1 := cF_le (F := F) (Nat.le_max_left n m) _ _ _ _ h
  have h2 := cF_le (F := F) (Nat.le_max_right n m) _ _ _ _ hm
  rw [h1] at h2
  exact h2.symm

theorem Ret_iff {f : Nat} {vs : List AV} {rows : List Row} {q : AV × List Row × Option Nat} : Ret F f vs rows = some q ↔ ∃ n, cF F n f vs rows = some q := by
  constructor
  · intro h
    unfold Ret at h
    split at h
    · rename_i hx
      injection h with h
      subst h
      exact hx.choose_spec
    · simp at h
  · rintro ⟨n, h⟩; exact Ret_of h

theorem LeC_Ret (n : Nat) : LeC (cF F n) (Ret F) := fun _ _ _ _ h => Ret_of h

theorem opR_Ret {sl : List AV} {rows : List Row} {low : Nat} {o : IOpx} {q : AV × List Row × Nat} : opR (Ret F) sl rows low o = some q ↔ ∃ n, opR (cF F n) sl rows low o = some q := by
  constructor
  · intro h
    unfold opR at h
    split at h
    · simp at h
    · rename_i hw
      exact ⟨0, by unfold opR; rw [hw]; exact h⟩
    · rename_i hw
      split at h
      · rename_i f args ho
        split at h
        · rename_i fid vs ht
          split at h
          · rename_i v rows' d hc
            obtain ⟨n, hn⟩ := Ret_iff.1 hc
            refine ⟨n, ?_⟩
            unfold opR
            rw [hw]
            simp only [ho, ht, hn]
            exact h
          · simp at h
        · simp at h
      · rename_i op hne
        refine ⟨0, ?_⟩
        unfold opR
        rw [hw]
        simp only
        exact h
  · rintro ⟨n, h⟩; exact opR_mono (LeC_Ret n) h

theorem evalG_Ret {rows : List Row} : ∀ {l : List (IOpx × Nat)} {i : Nat} {sl : List AV} {ext : List (Nat × Row)} {q : List AV × List (Nat × Row)}, evalG (Ret F) rows i l sl ext = some q ↔ ∃ n, evalG (cF F n) rows i l sl ext = some q
  | [], i, sl, ext, q => by simp [evalG]
  | (o, b) :: l, i, sl, ext, q => by
    constructor
    · intro h
      simp only [evalG] at h
      split at h
      · rename_i v rows' low' hop
        split at h
        · rename_i hl
          obtain ⟨n, hn⟩ := opR_Ret.1 hop
          obtain ⟨m, hm⟩ := evalG_Ret.1 h
          refine ⟨max n m, ?_⟩
          simp only [evalG]
          rw [opR_mono (cF_le (Nat.le_max_left n m)) hn]
          simp only
          rw [if_pos hl]
          exact evalG_mono (cF_le (Nat.le_max_right n m)) _ _ _ _ _ hm
        · simp at h
      · simp at h
    · rintro ⟨n, h⟩; exact evalG_mono (LeC_Ret n) _ _ _ _ _ h

variable {cx : Ctx} {k : List Itm} {s : St} {r : AV × List Row × Nat → Prop} {sl : List AV} {rows : List Row} {low : Nat} {l : List Seg}

theorem Ex_det {r' : AV × List Row × Nat → Prop} (h : Ex F cx k s r) (h' : Ex F cx k s r') : Ex F cx k s fun q => r q ∧ r' q := by
  obtain ⟨n, q, e, hq⟩ := h
  obtain ⟨m, p, e', hp⟩ := h'
  have e1 := exec_le (F := F) (Nat.le_max_left n m) e
  have e2 := exec_le (F := F) (Nat.le_max_right n m) e'
  rw [e1] at e2
  injection e2 with e2
  subst e2
  exact ⟨_, _, e1, hq, hp⟩

/-- One operation, no call of a yield. -/
theorem Ex_one {o : IOpx} (hy : yieldOf sl o = none) : Ex F cx (.ops (.one o :: l) :: k) ⟨sl, rows, low⟩ r ↔ ∃ q, opR (Ret F) sl rows low o = some q ∧ Ex F cx (.ops l :: k) ⟨putO sl o.dst q.1, q.2.1, q.2.2⟩ r := by
  constructor
  · rintro ⟨n, x, e, hx⟩
    cases n with
    | zero => simp [exec] at e
    | succ n =>
      rw [exec] at e
      simp only [hy] at e
      split at e
      · rename_i v rows' low' hop
        exact ⟨_, opR_mono (LeC_Ret n) hop, n, x, e, hx⟩
      · simp at e
  · rintro ⟨⟨v, rows', low'⟩, ho, m, x, e, hx⟩
    obtain ⟨n, hn⟩ := opR_Ret.1 ho
    refine ⟨max n m + 1, x, ?_, hx⟩
    rw [exec]
    simp only [hy]
    rw [show opR (callBy F (exec F (max n m))) sl rows low o = _ from opR_mono (cF_le (Nat.le_max_left n m)) hn]
    exact exec_le (Nat.le_max_right n m) e

/-- A call of a loop's yield. -/
theorem Ex_yield {o : IOpx} {id : Nat} {vs : List AV} (hy : yieldOf sl o = some (id, vs)) : Ex F cx (.ops (.one o :: l) :: k) ⟨sl, rows, low⟩ r ↔ ∃ st pd sl1 ps asg body, rows[id]? = some (.loop st pd sl1 ps asg body) ∧ ps.length = vs.length ∧
    Ex F (.round id) [.code asg, .rfBegin, .code body] ⟨putL sl1 ps vs, rows, rows.length⟩ fun q => Ex F cx (.ops l :: k) ⟨putO sl o.dst q.1, gc rows.length (lower low q.2.2) q.1 q.2.1, lower low q.2.2⟩ r := by
  constructor
  · rintro ⟨n, x, e, hx⟩
    cases n with
    | zero => simp [exec] at e
    | succ n =>
      rw [exec] at e
      simp only [hy] at e
      split at e
      · rename_i st pd sl1 ps asg body hr
        split at e
        · rename_i hl
          split at e
          · rename_i v rows' low' hop
            exact ⟨_, _, _, _, _, _, hr, hl, n, _, hop, n, x, e, hx⟩
          · simp at e
        · simp at e
      · simp at e
  · rintro ⟨st, pd, sl1, ps, asg, body, hr, hl, n, ⟨v, rows', low'⟩, e1, m, x, e2, hx⟩
    refine ⟨max n m + 1, x, ?_, hx⟩
    rw [exec]
    simp only [hy, hr, if_pos hl, exec_le (F := F) (Nat.le_max_left n m) e1]
    exact exec_le (Nat.le_max_right n m) e2

/-- A group. -/
theorem Ex_grpR {g : List (IOpx × Nat)} : Ex F cx (.ops (.grp g :: l) :: k) ⟨sl, rows, low⟩ r ↔ ∃ q, evalG (Ret F) rows 0 g sl [] = some q ∧ Ex F cx (.ops l :: k) ⟨q.1, rows ++ q.2.map (·.2), low⟩ r := by
  constructor
  · rintro ⟨n, x, e, hx⟩
    cases n with
    | zero => simp [exec] at e
    | succ n =>
      rw [exec] at e
      split at e
      · rename_i sl' ext hop
        exact ⟨_, evalG_mono (LeC_Ret n) _ _ _ _ _ hop, n, x, e, hx⟩
      · simp at e
  · rintro ⟨⟨sl', ext⟩, ho, m, x, e, hx⟩
    obtain ⟨n, hn⟩ := evalG_Ret.1 ho
    refine ⟨max n m + 1, x, ?_, hx⟩
    rw [exec]
    simp only
    rw [show evalG (callBy F (exec F (max n m))) rows 0 g sl [] = _ from evalG_mono (cF_le (Nat.le_max_left n m)) _ _ _ _ _ hn]
    exact exec_le (Nat.le_max_right n m) e

/-- A group with one store. -/
theorem Ex_grpwR {a y : Opd} {sz : Option Nat} {g : List (IOpx × Nat)} : Ex F cx (.ops (.grpw a y sz g :: l) :: k) ⟨sl, rows, low⟩ r ↔ ∃ q, evalG (Ret F) (rows.set (rowOf rows sl g a) .dead) 0 g sl [] = some q ∧ ∃ r', stored q.1 rows (rowOf rows sl g a) a y sz = some r' ∧ Ex F cx (.ops l :: k) ⟨q.1, rows.set (rowOf rows sl g a) r' ++ q.2.map (·.2), lower low (rowOf rows sl g a)⟩ r := by
  constructor
  · rintro ⟨n, x, e, hx⟩
    cases n with
    | zero => simp [exec] at e
    | succ n =>
      rw [exec] at e
      split at e
      · rename_i sl' ext hop
        split at e
        · rename_i r' hr
          exact ⟨_, evalG_mono (LeC_Ret n) _ _ _ _ _ hop, r', hr, n, x, e, hx⟩
        · simp at e
      · simp at e
  · rintro ⟨⟨sl', ext⟩, ho, r', hr, m, x, e, hx⟩
    obtain ⟨n, hn⟩ := evalG_Ret.1 ho
    refine ⟨max n m + 1, x, ?_, hx⟩
    rw [exec]
    simp only
    rw [show evalG (callBy F (exec F (max n m))) (rows.set (rowOf rows sl g a) .dead) 0 g sl [] = _ from evalG_mono (cF_le (Nat.le_max_left n m)) _ _ _ _ _ hn]
    simp only [hr]
    exact exec_le (Nat.le_max_right n m) e

/-- A range over a function. -/
theorem Ex_rf {f : Opd} {ps : List Nat} {asg body : ICode} : Ex F cx (.code (.rf f ps asg body) :: k) ⟨sl, rows, low⟩ r ↔ rfOk cx rows = true ∧ ∃ t, target (getO sl f) [.yield rows.length] = some t ∧ ∃ q, Ret F t.1 t.2 (rows ++ [.loop .ready none sl ps asg body]) = some q ∧
    ∃ a, afterLoop rows.length low q.2.1 q.2.2 = some a ∧ Ex F cx (a.1 ++ k) ⟨sl, a.2.1, a.2.2⟩ r := by
  constructor
  · rintro ⟨n, x, e, hx⟩
    cases n with
    | zero => simp [exec] at e
    | succ n =>
      rw [exec] at e
      simp only at e
      split at e
      · rename_i hok
        split at e
        · rename_i fid vs ht
          split at e
          · rename_i v rows' d hc
            split at e
            · rename_i k0 rows2 low2 ha
              exact ⟨hok, _, ht, _, Ret_of hc, _, ha, n, x, e, hx⟩
            · simp at e
          · simp at e
        · simp at e
      · simp at e
  · rintro ⟨hok, ⟨fid, vs⟩, ht, ⟨v, rows', d⟩, hq, ⟨k0, rows2, low2⟩, ha, m, x, e, hx⟩
    obtain ⟨n, hn⟩ := Ret_iff.1 hq
    refine ⟨max n m + 1, x, ?_, hx⟩
    rw [exec]
    simp only
    rw [if_pos hok]
    simp only [ht]
    rw [show callBy F (exec F (max n m)) fid vs _ = _ from cF_le (Nat.le_max_left n m) _ _ _ _ hn]
    simp only [ha]
    exact exec_le (Nat.le_max_right n m) e

theorem Ex_rfBegin {id : Nat} : Ex F (.round id) (.rfBegin :: k) ⟨sl, rows, low⟩ r ↔ ∃ pd sl1 ps asg body, rows[id]? = some (.loop .ready pd sl1 ps asg body) ∧ Ex F (.round id) k ⟨sl, rows.set id (.loop .busy pd sl1 ps asg body), lower low id⟩ r := by
  constructor
  · rintro ⟨n, x, e, hx⟩
    cases n with
    | zero => simp [exec] at e
    | succ n =>
      rw [exec] at e
      simp only at e
      split at e
      · rename_i hr
        exact ⟨_, _, _, _, _, hr, n, x, e, hx⟩
      · simp at e
  · rintro ⟨pd, sl1, ps, asg, body, hr, n, x, e, hx⟩
    refine ⟨n + 1, x, ?_, hx⟩
    rw [exec]
    simp only [hr]
    exact e

/-- A call of a function that is known. -/
theorem Ex_callS {d : Option Nat} {f : Nat} {args : List Opd} : Ex F cx (.ops (.one ⟨d, .call (.c (.func f [])) args, none⟩ :: l) :: k) ⟨sl, rows, low⟩ r ↔ ∃ q, Ret F f (args.map (getO sl)) rows = some q ∧ Ex F cx (.ops l :: k) ⟨putO sl d q.1, q.2.1, lowO low q.2.2⟩ r := by
  rw [Ex_one (by simp [yieldOf, getO])]
  simp only [opR, want, target, getO, List.append_nil]
  constructor
  · rintro ⟨q, e, h⟩
    split at e
    · rename_i v rows' dd hc
      injection e with e
      subst e
      exact ⟨_, hc, h⟩
    · simp at e
  · rintro ⟨⟨v, rows', dd⟩, e, h⟩
    exact ⟨(v, rows', lowO low dd), by rw [e], h⟩

/-- A call of a value. -/
def callD (F : Nat → Option IFn) (cx : Ctx) (d : Option Nat) (l : List Seg) (k : List Itm) (sl : List AV) (rows : List Row) (low : Nat) (r : AV × List Row × Nat → Prop) (args : List AV) : AV → Prop
  | .func f cs => ∃ q, Ret F f (args ++ cs) rows = some q ∧ Ex F cx (.ops l :: k) ⟨putO sl d q.1, q.2.1, lowO low q.2.2⟩ r
  | .yield id => ∃ st pd sl1 ps asg body, rows[id]? = some (.loop st pd sl1 ps asg body) ∧ ps.length = args.length ∧
    Ex F (.round id) [.code asg, .rfBegin, .code body] ⟨putL sl1 ps args, rows, rows.length⟩ fun q => Ex F cx (.ops l :: k) ⟨putO sl d q.1, gc rows.length (lower low q.2.2) q.1 q.2.1, lower low q.2.2⟩ r
  | _ => False
theorem Ex_callD {d : Option Nat} {f : Opd} {args : List Opd} : Ex F cx (.ops (.one ⟨d, .call f args, none⟩ :: l) :: k) ⟨sl, rows, low⟩ r ↔ callD F cx d l k sl rows low r (args.map (getO sl)) (getO sl f) := by
  cases hf : getO sl f with
  | yield id =>
    rw [Ex_yield (id := id) (vs := args.map (getO sl)) (by simp [yieldOf, hf, want])]
    simp only [callD]
  | func g cs =>
    rw [Ex_one (by simp [yieldOf, hf])]
    simp only [opR, want, target, hf, callD]
    constructor
    · rintro ⟨q, e, h⟩
      split at e
      · rename_i v rows' dd hc
        injection e with e
        subst e
        exact ⟨_, hc, h⟩
      · simp at e
    · rintro ⟨⟨v, rows', dd⟩, e, h⟩
      exact ⟨(v, rows', lowO low dd), by rw [e], h⟩
  | _ =>
    rw [Ex_one (by simp [yieldOf, hf])]
    simp [opR, want, target, hf, callD]

/-- A guarded operation. -/
theorem Ex_guard {d : Option Nat} {op : IOp} {t : Nat} {b : Bool} : Ex F cx (.ops (.one ⟨d, op, some (t, b)⟩ :: l) :: k) ⟨sl, rows, low⟩ r ↔ ∃ c, want sl (some (t, b)) = some c ∧ if c = true then Ex F cx (.ops (.one ⟨d, op, none⟩ :: l) :: k) ⟨sl, rows, low⟩ r else Ex F cx (.ops l :: k) ⟨putO sl d (.tup []), rows, low⟩ r := by
  cases hw : want sl (some (t, b)) with
  | none =>
    have hy : yieldOf sl ⟨d, op, some (t, b)⟩ = none := by
      unfold yieldOf
      split
      · split
        · rename_i e2 hw2; rw [hw] at hw2; simp at hw2
        · rfl
      · rfl
    rw [Ex_one hy]
    simp [opR, hw]
  | some c =>
    cases c with
    | false =>
      have hy : yieldOf sl ⟨d, op, some (t, b)⟩ = none := by
        unfold yieldOf
        split
        · split
          · rename_i e2 hw2; rw [hw] at hw2; simp at hw2
          · rfl
        · rfl
      rw [Ex_one hy]
      simp only [opR, hw, Option.some.injEq]
      constructor
      · rintro ⟨q, rfl, h⟩; exact ⟨false, rfl, by simpa using h⟩
      · rintro ⟨c, rfl, h⟩; exact ⟨_, rfl, by simpa using h⟩
    | true =>
      have e1 : ∀ (q : AV × List Row × Nat), opR (Ret F) sl rows low ⟨d, op, some (t, b)⟩ = some q ↔ opR (Ret F) sl rows low ⟨d, op, none⟩ = some q := fun q => by
        have hn : want sl none = some true := rfl
        unfold opR
        simp only [hw, hn]
      have hyy : yieldOf sl ⟨d, op, some (t, b)⟩ = yieldOf sl ⟨d, op, none⟩ := by
        have hn : want sl none = some true := rfl
        unfold yieldOf
        simp only [hw, hn]
      cases hy : yieldOf sl ⟨d, op, none⟩ with
      | none =>
        rw [Ex_one (hyy.trans hy), Ex_one hy]
        simp only [e1, Option.some.injEq]
        constructor
        · rintro ⟨q, e, h⟩; exact ⟨true, rfl, by rw [if_pos rfl]; exact ⟨q, e, h⟩⟩
        · rintro ⟨c, rfl, h⟩; rw [if_pos rfl] at h; exact h
      | some p =>
        obtain ⟨id, vs⟩ := p
        rw [Ex_yield (hyy.trans hy), Ex_yield hy]
        simp only [Option.some.injEq]
        constructor
        · intro h; exact ⟨true, rfl, by rw [if_pos rfl]; exact h⟩
        · rintro ⟨c, rfl, h⟩; rw [if_pos rfl] at h; exact h

/-- A function's call, out of its body. -/
theorem Ret_mk {f : Nat} {fn : IFn} {vs : List AV} {q : AV × List Row × Option Nat} (hf : F f = some fn) (h : Ex F (.fn fn.res) [.code fn.body] (init fn vs rows) fun r => fin rows r.1 r.2.1 r.2.2 = q) : Ret F f vs rows = some q := by
  obtain ⟨n, r, h, hr⟩ := h
  refine Ret_of (n := n) ?_
  unfold cF callBy
  rw [hf]
  simp only [h, callR, hr]
theorem Ret_mk' {f : Nat} {fn : IFn} {vs : List AV} (hf : F f = some fn) {R : AV × List Row × Option Nat → Prop} (h : Ex F (.fn fn.res) [.code fn.body] (init fn vs rows) fun r => R (fin rows r.1 r.2.1 r.2.2)) : ∃ q, Ret F f vs rows = some q ∧ R q := by
  obtain ⟨n, r, h, hr⟩ := h
  refine ⟨_, Ret_of (n := n) ?_, hr⟩
  unfold cF callBy
  rw [hf]
  simp only [h, callR]
end
end Go.Abs
