/- Loop heads as states. -/
import Derived.Test.YtiejbjajbehcfaaDoorA26
set_option linter.unusedVariables false
set_option linter.unusedSimpArgs false
namespace Go.Abs
/-- What a piece of code forgets first of all. -/
def fk : ICode → Option (List Nat)
  | .kill l _ => some l
  | .seq a b => match a with
    | .skip => fk b
    | a => fk a
  | .block _ c => fk c
  | .scope c => fk c
  | _ => none

theorem killS_len : ∀ (l : List Nat) (sl : List AV), (killS sl l).length = sl.length
  | [], sl => rfl
  | d :: ds, sl => by rw [killS, killS_len ds]; simp
theorem killS_get : ∀ (l : List Nat) (sl : List AV) (i : Nat), (killS sl l)[i]? = if i ∈ l ∧ i < sl.length then some .any else sl[i]?
  | [], sl, i => by simp [killS]
  | d :: ds, sl, i => by
    rw [killS, killS_get ds, List.getElem?_set, List.length_set]
    by_cases h1 : i ∈ ds <;> by_cases h2 : i < sl.length <;> by_cases h3 : d = i <;> simp_all
    all_goals
      have h4 : i ≠ d := fun e => h3 e.symm
      simp [h4]
theorem killS_twice (l : List Nat) (sl : List AV) : killS (killS sl l) l = killS sl l := by
  apply List.ext_getElem?
  intro i
  rw [killS_get, killS_len, killS_get]
  split <;> rfl

section
variable {F : Nat → Option IFn} {cx : Ctx} {r : AV × List Row × Nat → Prop} {rows : List Row} {low : Nat}
theorem Ex_fk {l : List Nat} {sl : List AV} : ∀ {c : ICode} {k : List Itm}, fk c = some l → (Ex F cx (.code c :: k) ⟨killS sl l, rows, low⟩ r ↔ Ex F cx (.code c :: k) ⟨sl, rows, low⟩ r)
  | .kill l' c, k, h => by
    simp only [fk, Option.some.injEq] at h
    subst h
    rw [Ex_kill, Ex_kill, killS_twice]
  | .seq a b, k, h => by
    rw [Ex_seq, Ex_seq]
    by_cases e : a = .skip
    · subst e
      rw [Ex_skip, Ex_skip]
      exact Ex_fk (c := b) h
    · have h' : fk a = some l := by
        cases a <;> first | exact h | exact absurd rfl e
      exact Ex_fk (c := a) h'
  | .block id c, k, h => by
    rw [Ex_block, Ex_block]
    exact Ex_fk (c := c) h
  | .scope c, k, h => by
    rw [Ex_scope, Ex_scope]
    exact Ex_fk (c := c) h
  | .skip, _, h => by simp [fk] at h
  | .ret, _, h => by simp [fk] at h
  | .exit _, _, h => by simp [fk] at h
  | .cond .., _, h => by simp [fk] at h
  | .loop _, _, h => by simp [fk] at h
  | .ops _, _, h => by simp [fk] at h
  | .rf .., _, h => by simp [fk] at h
  | .stop, _, h => by simp [fk] at h

end

/-! ### Slots by a short list -/
def lk : List (Nat × AV) → Nat → AV
  | [], _ => .any
  | (i, v) :: l, j => match Nat.beq i j with
    | true => v
    | false => lk l j
def mk (n : Nat) (l : List (Nat × AV)) : List AV := (List.range n).map (lk l)
/-- All slots but some. -/
def dead (n : Nat) (keep : List Nat) : List Nat := (List.range n).filter fun i => !keep.contains i
def only (l : List (Nat × AV)) : List Nat → List (Nat × AV)
  | [] => []
  | i :: is => (i, lk l i) :: only l is

@[simp] theorem lk_nil (j : Nat) : lk [] j = .any := rfl
@[simp] theorem lk_cons (i j : Nat) (v : AV) (l : List (Nat × AV)) : lk ((i, v) :: l) j = if i = j then v else lk l j := by
  rw [lk]
  by_cases h : i = j
  · subst h; simp
  · rw [if_neg h, show Nat.beq i j = false from by
      cases e : Nat.beq i j
      · rfl
      · exact absurd (Nat.eq_of_beq_eq_true e) h]
@[simp] theorem mk_len (n : Nat) (l : List (Nat × AV)) : (mk n l).length = n := by simp [mk]
theorem mk_get (n : Nat) (l : List (Nat × AV)) (i : Nat) : (mk n l)[i]? = if i < n then some (lk l i) else none := by
  unfold mk
  by_cases h : i < n <;> simp [h]
@[simp] theorem mk_getD (n : Nat) (l : List (Nat × AV)) (i : Nat) (h : i < n) : (mk n l).getD i .any = lk l i := by
  rw [List.getD_eq_getElem?_getD, mk_get, if_pos h]; rfl
@[simp] theorem mk_getO (n : Nat) (l : List (Nat × AV)) (i : Nat) (h : i < n) : getO (mk n l) (.t i) = lk l i := mk_getD n l i h
@[simp] theorem mk_getC (n : Nat) (l : List (Nat × AV)) (v : AV) : getO (mk n l) (.c v) = v := rfl
theorem mk_set (n : Nat) (l : List (Nat × AV)) (i : Nat) (v : AV) : (mk n l).set i v = mk n ((i, v) :: l) := by
  apply List.ext_getElem?
  intro j
  rw [List.getElem?_set, mk_len, mk_get, mk_get]
  by_cases h : i = j
  · subst h; simp
  · simp [h]
@[simp] theorem mk_putL0 (n : Nat) (l : List (Nat × AV)) : putL (mk n l) [] [] = mk n l := rfl
@[simp] theorem mk_putL1 (n : Nat) (l : List (Nat × AV)) (i : Nat) (v : AV) : putL (mk n l) [i] [v] = mk n ((i, v) :: l) := mk_set n l i v
@[simp] theorem mk_putL2 (n : Nat) (l : List (Nat × AV)) (i j : Nat) (v w : AV) : putL (mk n l) [i, j] [v, w] = mk n ((j, w) :: (i, v) :: l) := by
  simp [putL, mk_set]
theorem lk_only (l : List (Nat × AV)) : ∀ (ks : List Nat) (j : Nat), lk (only l ks) j = if j ∈ ks then lk l j else .any
  | [], j => by simp [only]
  | i :: is, j => by
    simp only [only, lk_cons, lk_only l is, List.mem_cons]
    by_cases h : i = j
    · subst h; simp
    · have h' : ¬ j = i := fun e => h e.symm
      simp [h, h']
theorem kill_dead (n : Nat) (l : List (Nat × AV)) (keep : List Nat) : killS (mk n l) (dead n keep) = mk n (only l keep) := by
  apply List.ext_getElem?
  intro j
  rw [killS_get, mk_len, mk_get, mk_get, lk_only]
  unfold dead
  by_cases h : j < n <;> by_cases h2 : j ∈ keep <;> simp [h, h2]
theorem mk_only (n : Nat) (l : List (Nat × AV)) (keep : List Nat) (h : dead n keep = []) : mk n l = mk n (only l keep) := by
  rw [← kill_dead, h]; rfl

/-- A slot of a short list. -/
def gO (n : Nat) (l : List (Nat × AV)) : Opd → AV
  | .t i => match Nat.ble (i + 1) n with
    | true => lk l i
    | false => .any
  | .c v => v
def pO (l : List (Nat × AV)) (d : Option Nat) (v : AV) : List (Nat × AV) :=
  match d with
  | some d => (d, v) :: l
  | none => l
theorem gO_ok (n : Nat) (l : List (Nat × AV)) : getO (mk n l) = gO n l := by
  funext x
  cases x with
  | t i =>
    by_cases h : i < n
    · rw [mk_getO n l i h, gO, show Nat.ble (i + 1) n = true from Nat.ble_eq_true_of_le h]
    · show (mk n l).getD i .any = _
      rw [List.getD_eq_getElem?_getD, mk_get, if_neg h, gO, show Nat.ble (i + 1) n = false from by
        cases e : Nat.ble (i + 1) n
        · rfl
        · exact absurd (Nat.le_of_ble_eq_true e) h]
      rfl
  | c v => rfl
theorem pO_ok (n : Nat) (l : List (Nat × AV)) (d : Option Nat) (v : AV) : putO (mk n l) d v = mk n (pO l d v) := by
  cases d with
  | none => rfl
  | some d => exact mk_set n l d v

section
variable {F : Nat → Option IFn} {cx : Ctx} {k : List Itm} {r : AV × List Row × Nat → Prop} {rows : List Row} {low : Nat}
/-- What a region comes to, over a short list. -/
abbrev runQ (F : Nat → Option IFn) (cx : Ctx) (k : List Itm) (r : AV × List Row × Nat → Prop) (n : Nat) (ops : List Seg) (l : List (Nat × AV)) (rows : List Row) (low : Nat) : Prop :=
  runP F (gO n) pO (fun l rows low => Ex F cx k ⟨mk n l, rows, low⟩ r) ops l rows low
theorem Ex_runQ {n : Nat} {ops : List Seg} {l : List (Nat × AV)} (h : noW ops = true) : Ex F cx (.ops ops :: k) ⟨mk n l, rows, low⟩ r ↔ runQ F cx k r n ops l rows low := by
  rw [Ex_runP _ _ _ _ h]
  exact runP_tr (f := mk n) (gO_ok n) (pO_ok n) (fun _ _ _ => Iff.rfl) ops l rows low
/-- A region, out of its closed form. -/
theorem reg {c : ICode} {n : Nat} {keep : List Nat} {ops : List Seg} {l : List (Nat × AV)} {Q : Prop} (hc : c = .kill (dead n keep) (.ops ops)) (hw : noW ops = true) (hq : runQ F cx k r n ops (only l keep) rows low = Q) : Ex F cx (.code c :: k) ⟨mk n l, rows, low⟩ r ↔ Q := by
  rw [hc, Ex_kill, Ex_ops, kill_dead, Ex_runQ hw, hq]
theorem reg0 {c : ICode} {n : Nat} {keep : List Nat} {ops : List Seg} {l : List (Nat × AV)} {Q : Prop} (hd : dead n keep = []) (hc : c = .ops ops) (hw : noW ops = true) (hq : runQ F cx k r n ops (only l keep) rows low = Q) : Ex F cx (.code c :: k) ⟨mk n l, rows, low⟩ r ↔ Q := by
  rw [hc, Ex_ops, mk_only n l keep hd, Ex_runQ hw, hq]
/-- A place where ways meet. -/
theorem Ex_canon {n : Nat} {keep : List Nat} {c : ICode} {l : List (Nat × AV)} (h : fk c = some (dead n keep)) : Ex F cx (.code c :: k) ⟨mk n l, rows, low⟩ r ↔ Ex F cx (.code c :: k) ⟨mk n (only l keep), rows, low⟩ r := by
  rw [← kill_dead, Ex_fk h]
/-- A loop's next round, and its first one. -/
theorem loopN {n : Nat} {keep : List Nat} {c : ICode} {l : List (Nat × AV)} (h : fk c = some (dead n keep)) : Ex F cx (.inLoop c :: k) ⟨mk n l, rows, low⟩ r ↔ Ex F cx (.code c :: .inLoop c :: k) ⟨mk n (only l keep), rows, low⟩ r := by
  rw [Ex_inLoop, ← kill_dead, Ex_fk h]
theorem loopE {n : Nat} {keep : List Nat} {c : ICode} {l : List (Nat × AV)} (h : fk c = some (dead n keep)) : Ex F cx (.code (.loop c) :: k) ⟨mk n l, rows, low⟩ r ↔ Ex F cx (.code c :: .inLoop c :: k) ⟨mk n (only l keep), rows, low⟩ r := by
  rw [Ex_loop, ← kill_dead, Ex_fk h]
end
end Go.Abs
