/- The texts that the row uses, part 4. -/
import Derived.Test.YtichbmhjgbjiiaaDoorBK3
import Derived.AtR
import Derived.Orders
import Derived.KernelRfl
import Derived.Laws.Cells
import Derived.Laws.CopyRow
import Derived.Laws.Append
import Derived.Laws.AppendOwn
import Derived.Laws.Entries
import Derived.ArgAppend
import Derived.ChangeKeysEq
import Derived.WideLaws
import Derived.Laws.Small
import Derived.Laws.StructEq
import Derived.Laws.Cover3
import Derived.Laws.Tables
import Derived.Laws.Rows
import Derived.Below
import Derived.Laws.IdiomCopy
import Derived.RangeFuncNested
import Derived.Test.YtichbmhjgbjiiaaDoorProg
import Derived.Test.YtichbmhjgbjiiaaDoorRows
import Derived.ProofKit
import Derived.LaidMore
import Derived.OpenShut
import Derived.Stop.Joined
import Derived.ChangeSlices
import Derived.SizedLaws
import Derived.SevenTiedAt
import Derived.WalkKit
import Derived.ShutString
import Derived.ChangeOld
import Derived.Carry
set_option linter.unusedVariables false
set_option linter.unusedSimpArgs false
namespace Go.Abs
section
variable {β : Type}
def frcC (c : Cap) (k : Cap → β) : β := match c with
 | .at_ n => forceN n fun n => k (.at_ n)
 | .op n => forceN n fun n => k (.op n)
def frcV (v : AV) (k : AV → β) : β := match v with
 | .bool b => forceB b fun b => k (.bool b)
 | .int kd n => forceI n fun n => k (.int kd n)
 | .ptr i o => forceN i fun i => forceN o fun o => k (.ptr i o)
 | .slice i o l c => forceN i fun i => forceN o fun o => forceN l fun l => frcC c fun c => k (.slice i o l c)
 | .map i => forceN i fun i => k (.map i)
 | .yield i => forceN i fun i => k (.yield i)
 | v => k v
def frcL (l : List AV) (k : List AV → β) : β := match l with
 | [] => k []
 | v :: l => frcV v fun v => frcL l fun l => k (v :: l)
def frcW (v : AV) (k : AV → β) : β := match v with
 | .agg l => frcL l fun l => k (.agg l)
 | .tup l => frcL l fun l => k (.tup l)
 | .func f l => frcL l fun l => k (.func f l)
 |
  .iface t v => frcV v fun v => match v with
  | .agg l => frcL l fun l => k (.iface t (.agg l))
  | v => k (.iface t v)
 | v => frcV v k
def frcWs (l : List AV) (k : List AV → β) : β := match l with
 | [] => k []
 | v :: l => frcW v fun v => frcWs l fun l => k (v :: l)
def frcE (l : List (AV × AV)) (k : List (AV × AV) → β) : β := match l with
 | [] => k []
 |
  p :: l => match p with
  | (a, b) => frcV a fun a => frcW b fun b => frcE l fun l => k ((a, b) :: l)
def frcR (r : Row) (k : Row → β) : β := match r with
 | .cells vs => frcL vs fun vs => k (.cells vs)
 | .mp es => frcE es fun es => k (.mp es)
 | .loop st pd sl ps a b => frcWs sl fun sl => k (.loop st pd sl ps a b)
 | r => k r
theorem frcC_eq (c : Cap) (k : Cap → β) : frcC c k = k c := by cases c <;> simp [frcC, forceN_eq]
theorem frcV_eq (v : AV) (k : AV → β) : frcV v k = k v := by cases v <;> simp [frcV, forceN_eq, forceI_eq, forceB_eq, frcC_eq]
theorem frcL_eq : ∀ (l : List AV) (k : List AV → β), frcL l k = k l
 | [], k => rfl
 | v :: l, k => by simp [frcL, frcV_eq, frcL_eq l]
theorem frcW_eq (v : AV) (k : AV → β) : frcW v k = k v := by
 cases v <;> simp [frcW, frcL_eq, frcV_eq]
 rename_i t v
 cases v <;> simp [frcL_eq]
theorem frcWs_eq : ∀ (l : List AV) (k : List AV → β), frcWs l k = k l
 | [], k => rfl
 | v :: l, k => by simp [frcWs, frcW_eq, frcWs_eq l]
theorem frcE_eq : ∀ (l : List (AV × AV)) (k : List (AV × AV) → β), frcE l k = k l
 | [], k => rfl
 | (a, b) :: l, k => by simp [frcE, frcV_eq, frcW_eq, frcE_eq l]
theorem frcR_eq (r : Row) (k : Row → β) : frcR r k = k r := by cases r <;> simp [frcR, frcL_eq, frcE_eq, frcWs_eq]
def setK (rows : List Row) (i : Nat) (r : Row) (k : List Row → β) : β := match rows with
 | [] => k []
 |
  x :: xs => match i with
  | 0 => k (r :: xs)
  | i + 1 => setK xs i r fun ys => k (x :: ys)
def pushK (rows : List Row) (r : Row) (k : List Row → β) : β := match rows with
 | [] => k [r]
 | x :: xs => pushK xs r fun ys => k (x :: ys)
def spK (rows : List Row) (k : List Row → β) : β := match rows with
 | [] => k []
 | x :: xs => spK xs fun ys => k (x :: ys)
theorem setK_eq : ∀ (rows : List Row) (i : Nat) (r : Row) (k : List Row → β), setK rows i r k = k (rows.set i r)
 | [], _, _, _ => by simp [setK]
 | x :: xs, 0, r, k => by simp [setK]
 | x :: xs, i + 1, r, k => by simp [setK, setK_eq xs i r]
theorem pushK_eq : ∀ (rows : List Row) (r : Row) (k : List Row → β), pushK rows r k = k (rows ++ [r])
 | [], _, _ => by simp [pushK]
 | x :: xs, r, k => by simp [pushK, pushK_eq xs r]
theorem spK_eq : ∀ (rows : List Row) (k : List Row → β), spK rows k = k rows
 | [], _ => by simp [spK]
 | x :: xs, k => by simp [spK, spK_eq xs]
end

inductive Dl where
 | keep
 | set (id : Nat) (r : Row)
 | push (r : Row)
 | kp (id : Nat) (r : Row)
def Dl.app (rows : List Row) : Dl → List Row
 | .keep => rows
 | .set id r => rows.set id r
 | .push r => rows ++ [r]
 | .kp id r => rows.set id .dead ++ [r]
def Dl.run {β : Type} (rows : List Row) (d : Dl) (k : List Row → β) : β := match d with
 | .keep => k rows
 | .set id r => forceN id fun id => frcR r fun r => setK rows id r k
 | .push r => frcR r fun r => pushK rows r k
 | .kp id r => forceN id fun id => frcR r fun r => setK rows id .dead fun rows => pushK rows r k
theorem Dl.run_eq {β : Type} (rows : List Row) (d : Dl) (k : List Row → β) : d.run rows k = k (d.app rows) := by
 cases d <;> simp [Dl.run, Dl.app, forceN_eq, frcR_eq, setK_eq, pushK_eq]

def evalD (g : Opd → AV) (rows : List Row) (low : Nat) : IOp → Option (AV × Dl × Nat)
 | .box x => if (g x).cells.all AV.one then some (.ptr rows.length 0, .push (.cells (g x).cells), low) else none
 |
  .store1 a x => match g a with
  |
   .ptr id off => match rows[id]? with
   | some (.cells vs) => if off < vs.length ∧ (g x).one then some (.tup [], .set id (.cells (vs.set off (g x))), lower low id) else none
   | _ => none
  | _ => none
 |
  .storeN n a x => match g a, g x with
  |
   .ptr id off, .agg l => match rows[id]? with
   | some (.cells vs) => if l.length = n ∧ off + n ≤ vs.length ∧ l.all AV.one then some (.tup [], .set id (.cells (splice vs off l)), lower low id) else none
   | _ => none
  | _, _ => none
 |
  .mkslice len zero ps => match fillA g ps zero with
  | some cs => some (.slice rows.length 0 len (.at_ len), .push (.cells cs), low)
  | none => none
 |
  .make zero _ len cap => match g len, g cap with
  | .int _ l, .int _ c => if 0 ≤ l ∧ l ≤ c ∧ c ≤ lim then
    some (.slice rows.length 0 l.toNat (.at_ c.toNat), .push (.cells ((List.replicate c.toNat zero).flatten)), low) else none
  | _, _ => none
 |
  .appz zero s x => match g s, g x with
  | .nilslice, .int _ n => if 0 < n ∧ n ≤ lim then some (.slice rows.length 0 n.toNat (.op 1), .push (.cells ((List.replicate n.toNat zero).flatten)), low) else none
  | _, _ => none
 | .mkmap => some (.map rows.length, .push (.mp []), low)
 |
  .mset m k v => match g m with
  |
   .map id => match rows[id]? with
   |
    some (.mp es) => match findK (g k) es 0 with
    | some (some (i, _)) => some (.tup [], .set id (.mp (es.set i (g k, g v))), lower low id)
    | some none => if (keyEq (g k) (g k)).isSome then some (.tup [], .set id (.mp (es ++ [(g k, g v)])), lower low id) else none
    | none => none
   | _ => none
  | _ => none
 |
  .app sz _ s x => match elems rows sz (g x) with
  | none => none
  |
   some (ys, m) =>
   if m = 0 then (match g s with
    | .nilslice => some (.nilslice, .keep, low)
    | .slice id off n c => some (.slice id off n c, .keep, low)
    | _ => none)
   else if lim < m then none
   else match g s with
    | .nilslice => some (.slice rows.length 0 m (.op sz), .push (.cells ys), low)
    |
     .slice id off n (.at_ c) =>
     if lim < n + m then none
     else if n + m ≤ c then match rows[id]? with
      | some (.cells vs) => if off + n * sz + ys.length ≤ vs.length then some (.slice id off (n + m) (.at_ c), .set id (.cells (splice vs (off + n * sz) ys)), lower low id) else none
      | _ => none
     else match row? rows id with
      |
       some vs => match seg vs off (n * sz) with
       | some xs => some (.slice rows.length 0 (n + m) (.op sz), .push (.cells (xs ++ ys)), low)
       | none => none
      | none => none
    |
     .slice id off n (.op sz') =>
     if lim < n + m ∨ sz' ≠ sz then none
     else match rows[id]? with
      |
       some (.cells vs) => match seg vs off (n * sz) with
       | some xs => some (.slice rows.length 0 (n + m) (.op sz), .kp id (.cells (xs ++ ys)), lower low id)
       | none => none
      | _ => none
    | _ => none
 | o => (evalP rows g o).map fun v => (v, .keep, low)

theorem evalD_ok (g : Opd → AV) (rows : List Row) (low : Nat) (o : IOp) {v : AV} {d : Dl} {lw : Nat} (h : evalD g rows low o = some (v, d, lw)) : evalE g rows low o = some (v, d.app rows, lw) := by
 cases o <;> simp only [evalD, evalE] at h ⊢
 case app =>
  split at h
  ·simp at h
  ·rename_i e
   rw [e]
   simp only
   split at h
   ·rename_i hm
    rw [if_pos hm]
    split at h <;> first | (simp at h; done) | (injection h with h; simp only [Prod.mk.injEq] at h; obtain ⟨rfl, rfl, rfl⟩ := h; simp_all [Dl.app])
   ·rename_i hm
    rw [if_neg hm]
    split at h
    ·simp at h
    ·rename_i hl
     rw [if_neg hl]
     split at h
     ·rename_i e2
      injection h with h; simp only [Prod.mk.injEq] at h; obtain ⟨rfl, rfl, rfl⟩ := h; simp [e2, Dl.app]
     ·rename_i e2
      rw [e2]
      simp only
      split at h
      ·simp at h
      rename_i h1
      rw [if_neg h1]
      split at h
      ·rename_i h2
       rw [if_pos h2]
       split at h <;> try (simp at h; done)
       rename_i e3
       split at h
       ·rename_i h3
        injection h with h; simp only [Prod.mk.injEq] at h; obtain ⟨rfl, rfl, rfl⟩ := h; simp only [e3, if_pos h3, Dl.app]
       ·simp at h
      ·rename_i h2
       rw [if_neg h2]
       split at h <;> try (simp at h; done)
       rename_i e3
       rw [e3]
       simp only
       split at h <;> try (simp at h; done)
       rename_i e4
       rw [e4]
       injection h with h; simp only [Prod.mk.injEq] at h; obtain ⟨rfl, rfl, rfl⟩ := h; rfl
     ·rename_i e2
      rw [e2]
      simp only
      split at h
      ·simp at h
      rename_i h1
      rw [if_neg h1]
      split at h <;> try (simp at h; done)
      rename_i e3
      rw [e3]
      simp only
      split at h <;> try (simp at h; done)
      rename_i e4
      rw [e4]
      injection h with h; simp only [Prod.mk.injEq] at h; obtain ⟨rfl, rfl, rfl⟩ := h; rfl
     ·simp at h
 all_goals first
  | (
    repeat' split at h
    all_goals first
     | (simp at h; done)
     | (injection h with h; simp only [Prod.mk.injEq] at h; obtain ⟨rfl, rfl, rfl⟩ := h; simp_all [Dl.app]; done))
  | (injection h with h; simp only [Prod.mk.injEq] at h; obtain ⟨rfl, rfl, rfl⟩ := h; simp_all [Dl.app]; done)
  | (
    simp only [Option.map_eq_some_iff, Prod.mk.injEq] at h ⊢
    obtain ⟨v0, e, rfl, rfl, rfl⟩ := h
    exact ⟨_, e, rfl, rfl, rfl⟩)

def wantG (g : Opd → AV) : Option (Nat × Bool) → Option Bool
 | none => some true
 |
  some (t, b) => match g (.t t) with
  | .bool c => some (c == b)
  | .tup [] => some false
  | _ => none
theorem wantG_ok (sl : List AV) (gd : Option (Nat × Bool)) : want sl gd = wantG (getO sl) gd := by
 cases gd <;> rfl
def opD (call : CallF) (g : Opd → AV) (rows : List Row) (low : Nat) (o : IOpx) : Option (AV × List Row × Nat) :=
 match wantG g o.g with
 | none => none
 | some false => some (.tup [], rows, low)
 |
  some true =>
  match o.op with
  |
   .call tab f args => match targetC tab (g f) (args.map g) with
   |
    some (fid, vs) => match frcWs vs fun vs => call fid vs rows with
    | some (v, rows', d) => some (v, rows', lowO low d)
    | none => none
   | none => none
  |
   op => match evalD g rows low op with
   | some (v, d, lw) => d.run rows fun rows => some (v, rows, lw)
   | none => none
theorem opD_ok {call call' : CallF} (hc : LeC call call') {sl : List AV} {rows : List Row} {low : Nat} {o : IOpx} {q : AV × List Row × Nat} (h : opD call (getO sl) rows low o = some q) : opR call' sl rows low o = some q := by
 unfold opD at h
 unfold opR
 rw [wantG_ok]
 split at h
 ·simp at h
 ·rename_i hw; rw [hw]; exact h
 ·rename_i hw
  rw [hw]
  simp only
  split at h
  ·rename_i tab f args e
   rw [e]
   simp only
   split at h
   ·rename_i fid vs ht
    rw [ht]
    simp only
    split at h
    ·rename_i v rows' d hcall
     rw [frcWs_eq] at hcall
     rw [hc _ _ _ _ hcall]
     exact h
    ·simp at h
   ·simp at h
  ·rename_i op hne
   split at h
   ·rename_i v d lw he
    rw [Dl.run_eq] at h
    injection h with h
    subst h
    have := evalD_ok _ _ _ _ he
    split
    ·rename_i e; exact absurd e (hne _ _ _)
    ·exact this
   ·simp at h

def frcX {β : Type} (l : List (Nat × Row)) (k : List (Nat × Row) → β) : β := match l with
 | [] => k []
 |
  p :: l => match p with
  | (a, b) => forceN a fun a => frcR b fun b => frcX l fun l => k ((a, b) :: l)
theorem frcX_eq {β : Type} : ∀ (l : List (Nat × Row)) (k : List (Nat × Row) → β), frcX l k = k l
 | [], k => rfl
 | (a, b) :: l, k => by simp [frcX, forceN_eq, frcR_eq, frcX_eq l]
def baseX (rows : List Row) (b : Nat) (ext : List (Nat × Row)) : List Row := match ext with
 | [] => rows
 | _ => rows ++ maskE b ext
theorem baseX_eq (rows : List Row) (b : Nat) (ext : List (Nat × Row)) : baseX rows b ext = rows ++ maskE b ext := by
 cases ext with
 | nil => simp [baseX, maskE]
 | cons => rfl
def iniK {β : Type} (vs : List AV) (i : Nat) (k : List (Nat × AV) → β) : β := match vs with
 | [] => k []
 | v :: vs => forceN i fun i => iniK vs (i + 1) fun l => k ((i, v) :: l)
def ini : Nat → List AV → List (Nat × AV)
 | _, [] => []
 | i, v :: vs => (i, v) :: ini (i + 1) vs
theorem iniK_eq {β : Type} : ∀ (vs : List AV) (i : Nat) (k : List (Nat × AV) → β), iniK vs i k = k (ini i vs)
 | [], i, k => rfl
 | v :: vs, i, k => by simp [iniK, forceN_eq, iniK_eq vs, ini]
theorem lk_ini : ∀ (vs : List AV) (i j : Nat), lk (ini i vs) j = if i ≤ j then (vs[j - i]?).getD .any else .any
 | [], i, j => by simp [ini]
 |
  v :: vs, i, j => by
  rw [ini, lk_cons, lk_ini vs]
  rcases Nat.lt_trichotomy i j with h | h | h
  ·rw [if_neg (by omega), if_pos (by omega), if_pos (by omega), show j - i = (j - (i + 1)) + 1 from by omega]
   rfl
  ·subst h; simp
  ·rw [if_neg (by omega), if_neg (by omega), if_neg (by omega)]
theorem mk_ini {n : Nat} {vs : List AV} (h : vs.length ≤ n) : mk n (ini 0 vs) = vs ++ List.replicate (n - vs.length) .any := by
 apply List.ext_getElem?
 intro j
 rw [mk_get, lk_ini, if_pos (Nat.zero_le _), Nat.sub_zero]
 by_cases hj : j < vs.length
 ·rw [List.getElem?_append_left hj, if_pos (by omega), List.getElem?_eq_getElem hj]; rfl
 ·rw [List.getElem?_append_right (by omega), List.getElem?_eq_none (l := vs) (by omega), List.getElem?_replicate]
  by_cases hn : j < n
  ·rw [if_pos hn, if_pos (by omega)]; rfl
  ·rw [if_neg hn, if_neg (by omega)]
def AV.isAny : AV → Bool
 | .any => true
 | _ => false
def ofL : Nat → List AV → List (Nat × AV)
 | _, [] => []
 | i, v :: vs => if v.isAny then ofL (i + 1) vs else (i, v) :: ofL (i + 1) vs
def ofK {β : Type} (vs : List AV) (i : Nat) (k : List (Nat × AV) → β) : β := match vs with
 | [] => k []
 |
  v :: vs => forceN i fun i => match v.isAny with
  | true => ofK vs (i + 1) k
  | false => ofK vs (i + 1) fun l => k ((i, v) :: l)
theorem ofK_eq {β : Type} : ∀ (vs : List AV) (i : Nat) (k : List (Nat × AV) → β), ofK vs i k = k (ofL i vs)
 | [], i, k => rfl
 |
  v :: vs, i, k => by
  rw [ofK, forceN_eq, ofL]
  cases v.isAny <;> simp [ofK_eq vs]
theorem lk_ofL : ∀ (vs : List AV) (i j : Nat), lk (ofL i vs) j = if i ≤ j then (vs[j - i]?).getD .any else .any
 | [], i, j => by simp [ofL]
 |
  v :: vs, i, j => by
  rw [ofL]
  have step : (if i ≤ j then ((v :: vs)[j - i]?).getD AV.any else .any) = if i = j then v else if i + 1 ≤ j then (vs[j - (i + 1)]?).getD .any else .any := by
   rcases Nat.lt_trichotomy i j with h | h | h
   ·rw [if_pos (by omega), if_neg (by omega), if_pos (by omega), show j - i = (j - (i + 1)) + 1 from by omega]
    rfl
   ·subst h; simp
   ·rw [if_neg (by omega), if_neg (by omega), if_neg (by omega)]
  rw [step]
  split
  ·rename_i ha
   have hv : v = .any := by cases v <;> first | rfl | simp [AV.isAny] at ha
   rw [lk_ofL vs, hv]
   by_cases e : i = j
   ·rw [if_pos e, if_neg (by omega)]
   ·rw [if_neg e]
  ·rw [lk_cons, lk_ofL vs]
theorem mk_ofL (vs : List AV) : mk vs.length (ofL 0 vs) = vs := by
 apply List.ext_getElem?
 intro j
 rw [mk_get, lk_ofL, if_pos (Nat.zero_le _), Nat.sub_zero]
 by_cases hj : j < vs.length
 ·rw [if_pos hj, List.getElem?_eq_getElem hj]; rfl
 ·rw [if_neg hj, List.getElem?_eq_none (by omega)]

def resVG (rows : List Row) (g : Opd → AV) : RV → Option AV
 | .t n => some (g (.t n))
 | .cell1 n => evalP rows g (.load1 (.t n))
 | .cellN n sz => evalP rows g (.loadN sz (.t n))
def resVsG (rows : List Row) (g : Opd → AV) : List RV → Option (List AV)
 | [] => some []
 |
  r :: rs => match resVG rows g r, resVsG rows g rs with
  | some v, some vs => some (v :: vs)
  | _, _ => none
def resultsG (rows : List Row) (g : Opd → AV) (res : List RV) : Option AV :=
 match resVsG rows g res with
 | some [v] => some v
 | some vs => some (.tup vs)
 | none => none
theorem resVsG_ok (rows : List Row) (sl : List AV) : ∀ res : List RV, resVs rows sl res = resVsG rows (getO sl) res
 | [] => rfl
 |
  r :: rs => by
  have : resV rows sl r = resVG rows (getO sl) r := by cases r <;> rfl
  rw [resVs, resVsG, this, resVsG_ok rows sl rs]
  rfl
theorem resultsG_ok (rows : List Row) (sl : List AV) (res : List RV) : results rows sl res = resultsG rows (getO sl) res := by
 unfold results resultsG
 rw [resVsG_ok]
 rfl
def leaveD (ns : Nat) (cx : Ctx) (j : Option Jump) (l : List (Nat × AV)) (rows : List Row) (low : Nat) : Option (AV × List Row × Nat) :=
 match cx with
 |
  .fn res => match j with
  | some (.exit _) => none
  | _ => (resultsG rows (gO ns l) res).map fun v => (v, rows, low)
 |
  .round id => match rows[id]? with
  | some (.loop .busy _ sl ps asg body) => some (.bool j.isNone, rows.set id (.loop (if j.isNone then .ready else .done) j sl ps asg body), lower low id)
  | _ => none
theorem leaveD_ok (ns : Nat) (cx : Ctx) (j : Option Jump) (l : List (Nat × AV)) (rows : List Row) (low : Nat) : leaveV cx j ⟨mk ns l, rows, low⟩ = leaveD ns cx j l rows low := by
 unfold leaveV leaveD
 cases cx <;> simp only [resultsG_ok, gO_ok] <;> rfl
def callD2 (rows : List Row) : Option (AV × List Row × Nat) → Option (AV × List Row × Option Nat)
 |
  some (v, rows', low') => match fin rows v rows' low' with
  | (v, rows2, d) => frcW v fun v => spK rows2 fun rows2 => some (v, rows2, d)
 | none => none
theorem callD2_ok (rows : List Row) (o : Option (AV × List Row × Nat)) : callD2 rows o = callR rows o := by
 cases o with
 | none => rfl
 |
  some q =>
  obtain ⟨v, rows', low'⟩ := q
  simp only [callD2, callR, frcW_eq, spK_eq]
noncomputable def bq {β : Type} (b : Bool) (x y : β) : β := Bool.rec (motive := fun _ => β) y x b
@[simp] theorem bq_true {β : Type} (x y : β) : bq true x y = x := rfl
@[simp] theorem bq_false {β : Type} (x y : β) : bq false x y = y := rfl
section
variable {β : Type}
noncomputable def qN (n : Nat) (k : Nat → β) : β := Nat.rec (motive := fun _ => β) (k Nat.zero) (fun m _ => k (Nat.succ m)) n
theorem qN_eq (n : Nat) (k : Nat → β) : qN n k = k n := by cases n <;> rfl
noncomputable def qI (n : Int) (k : Int → β) : β := Int.rec (motive := fun _ => β) (fun m => qN m fun m => k (.ofNat m)) (fun m => qN m fun m => k (.negSucc m)) n
theorem qI_eq (n : Int) (k : Int → β) : qI n k = k n := by cases n <;> simp [qI, qN_eq]
noncomputable def qB (b : Bool) (k : Bool → β) : β := Bool.rec (motive := fun _ => β) (k false) (k true) b
theorem qB_eq (b : Bool) (k : Bool → β) : qB b k = k b := by cases b <;> rfl
noncomputable def lkK (l : List (Nat × AV)) (j : Nat) (k : AV → β) : β := List.rec (motive := fun _ => β) (k .any) (fun p _ ih => Bool.rec (motive := fun _ => β) ih (k p.2) (Nat.beq p.1 j)) l
theorem lkK_eq : ∀ (l : List (Nat × AV)) (j : Nat) (k : AV → β), lkK l j k = k (lk l j)
 | [], j, k => rfl
 |
  (i, v) :: l, j, k => by
  show Bool.rec (motive := fun _ => β) (lkK l j k) (k v) (Nat.beq i j) = k (lk ((i, v) :: l) j)
  rw [lkK_eq l, lk]
  cases Nat.beq i j <;> rfl
noncomputable def gK (ns : Nat) (l : List (Nat × AV)) (x : Opd) (k : AV → β) : β := Opd.rec (motive := fun _ => β) (fun i => Bool.rec (motive := fun _ => β) (k .any) (lkK l i k) (Nat.ble (Nat.succ i) ns)) (fun v => k v) x
theorem gK_eq (ns : Nat) (l : List (Nat × AV)) (x : Opd) (k : AV → β) : gK ns l x k = k (gO ns l x) := by
 cases x with
 |
  t i =>
  show Bool.rec (motive := fun _ => β) (k .any) (lkK l i k) (Nat.ble (i + 1) ns) = _
  rw [lkK_eq]
  simp only [gO]
  cases Nat.ble (i + 1) ns <;> rfl
 | c v => rfl
noncomputable def gsK (ns : Nat) (l : List (Nat × AV)) (xs : List Opd) (k : List AV → β) : β := List.rec (motive := fun _ => (List AV → β) → β) (fun k => k []) (fun x _ ih k => gK ns l x fun v => ih fun vs => k (v :: vs)) xs k
theorem gsK_eq (ns : Nat) (l : List (Nat × AV)) : ∀ (xs : List Opd) (k : List AV → β), gsK ns l xs k = k (xs.map (gO ns l))
 | [], k => rfl
 |
  x :: xs, k => by
  show gK ns l x (fun v => gsK ns l xs fun vs => k (v :: vs)) = _
  rw [gK_eq, gsK_eq ns l xs]
  rfl
noncomputable def onlyQ (l : List (Nat × AV)) (ks : List Nat) (k : List (Nat × AV) → β) : β := List.rec (motive := fun _ => (List (Nat × AV) → β) → β) (fun k => k []) (fun i _ ih k => lkK l i fun v => ih fun r => k ((i, v) :: r)) ks k
theorem onlyQ_eq (l : List (Nat × AV)) : ∀ (ks : List Nat) (k : List (Nat × AV) → β), onlyQ l ks k = k (only l ks)
 | [], k => rfl
 |
  i :: is, k => by
  show lkK l i (fun v => onlyQ l is fun r => k ((i, v) :: r)) = _
  rw [lkK_eq, onlyQ_eq l is]
  rfl
noncomputable def rowK (rows : List Row) (i : Nat) (k : Row → Option β) : Option β := List.rec (motive := fun _ => Nat → Option β) (fun _ => none) (fun r _ ih i => Nat.rec (motive := fun _ => Option β) (k r) (fun m _ => ih m) i) rows i
theorem rowK_eq : ∀ (rows : List Row) (i : Nat) (k : Row → Option β), rowK rows i k = (rows[i]?).bind k
 | [], i, k => by simp [rowK]
 | r :: rows, 0, k => rfl
 |
  r :: rows, i + 1, k => by
  show rowK rows i k = _
  rw [rowK_eq rows i]
  simp
noncomputable def celK (vs : List AV) (i : Nat) (k : AV → Option β) : Option β := List.rec (motive := fun _ => Nat → Option β) (fun _ => none) (fun v _ ih i => Nat.rec (motive := fun _ => Option β) (k v) (fun m _ => ih m) i) vs i
theorem celK_eq : ∀ (vs : List AV) (i : Nat) (k : AV → Option β), celK vs i k = (vs[i]?).bind k
 | [], i, k => by simp [celK]
 | r :: rows, 0, k => rfl
 |
  r :: rows, i + 1, k => by
  show celK rows i k = _
  rw [celK_eq rows i]
  simp
noncomputable def takK (vs : List AV) (n : Nat) (k : List AV → Option β) : Option β := List.rec (motive := fun _ => Nat → (List AV → Option β) → Option β) (fun n k => Nat.rec (motive := fun _ => Option β) (k []) (fun _ _ => none) n) (fun v _ ih n k => Nat.rec (motive := fun _ => Option β) (k []) (fun m _ => ih m fun l => k (v :: l)) n) vs n k
theorem takK_eq : ∀ (vs : List AV) (n : Nat) (k : List AV → Option β), takK vs n k = if n ≤ vs.length then k (vs.take n) else none
 | [], 0, k => rfl
 | [], n + 1, k => rfl
 |
  v :: vs, 0, k => by
  show k [] = _
  rw [if_pos (Nat.zero_le _)]; rfl
 |
  v :: vs, n + 1, k => by
  show takK vs n (fun l => k (v :: l)) = _
  rw [takK_eq vs n]
  simp
noncomputable def drpK (vs : List AV) (n : Nat) (k : List AV → Option β) : Option β := List.rec (motive := fun _ => Nat → Option β) (fun n => Nat.rec (motive := fun _ => Option β) (k []) (fun _ _ => none) n) (fun v vs ih n => Nat.rec (motive := fun _ => Option β) (k (v :: vs)) (fun m _ => ih m) n) vs n
theorem drpK_eq : ∀ (vs : List AV) (n : Nat) (k : List AV → Option β), drpK vs n k = if n ≤ vs.length then k (vs.drop n) else none
 | [], 0, k => rfl
 | [], n + 1, k => rfl
 |
  v :: vs, 0, k => by
  show k (v :: vs) = _
  rw [if_pos (Nat.zero_le _)]; rfl
 |
  v :: vs, n + 1, k => by
  show drpK vs n k = _
  rw [drpK_eq vs n]
  simp
noncomputable def segK (vs : List AV) (off n : Nat) (k : List AV → Option β) : Option β := drpK vs off fun vs => takK vs n k
theorem segK_eq (vs : List AV) (off n : Nat) (k : List AV → Option β) : segK vs off n k = (seg vs off n).bind k := by
 unfold segK seg
 rw [drpK_eq]
 split
 ·rw [takK_eq]
  simp only [List.length_drop]
  by_cases h : off + n ≤ vs.length
  ·rw [if_pos (by omega), if_pos h]; rfl
  ·rw [if_neg (by omega), if_neg h]; rfl
 ·rw [if_neg (by omega)]; rfl
noncomputable def setQ (rows : List Row) (i : Nat) (r : Row) (k : List Row → β) : β := List.rec (motive := fun _ => Nat → (List Row → β) → β) (fun _ k => k []) (fun x xs ih i k => Nat.rec (motive := fun _ => β) (k (r :: xs)) (fun m _ => ih m fun ys => k (x :: ys)) i) rows i k
theorem setQ_eq (r : Row) : ∀ (rows : List Row) (i : Nat) (k : List Row → β), setQ rows i r k = k (rows.set i r)
 | [], i, k => by simp [setQ]
 | x :: xs, 0, k => rfl
 |
  x :: xs, i + 1, k => by
  show setQ xs i r (fun ys => k (x :: ys)) = _
  rw [setQ_eq r xs]
  simp
noncomputable def setCQ (vs : List AV) (i : Nat) (v : AV) (k : List AV → Option β) : Option β := List.rec (motive := fun _ => Nat → (List AV → Option β) → Option β) (fun _ _ => none) (fun x xs ih i k => Nat.rec (motive := fun _ => Option β) (k (v :: xs)) (fun m _ => ih m fun ys => k (x :: ys)) i) vs i k
theorem setCQ_eq (v : AV) : ∀ (vs : List AV) (i : Nat) (k : List AV → Option β), setCQ vs i v k = if i < vs.length then k (vs.set i v) else none
 | [], i, k => by simp [setCQ]
 |
  x :: xs, 0, k => by
  show k (v :: xs) = _
  rw [if_pos (by simp)]; rfl
 |
  x :: xs, i + 1, k => by
  show setCQ xs i v (fun ys => k (x :: ys)) = _
  rw [setCQ_eq v xs]
  simp
noncomputable def ovrK (l : List AV) (vs : List AV) (k : List AV → Option β) : Option β := List.rec (motive := fun _ => List AV → (List AV → Option β) → Option β) (fun vs k => k vs) (fun y _ ih vs k => List.rec (motive := fun _ => Option β) none (fun _ vs _ => ih vs fun r => k (y :: r)) vs) l vs k
theorem ovrK_eq : ∀ (l vs : List AV) (k : List AV → Option β), ovrK l vs k = if l.length ≤ vs.length then k (l ++ vs.drop l.length) else none
 | [], vs, k => by simp [ovrK]
 | y :: l, [], k => by simp [ovrK]
 |
  y :: l, v :: vs, k => by
  show ovrK l vs (fun r => k (y :: r)) = _
  rw [ovrK_eq l vs]
  simp
noncomputable def splK (vs : List AV) (off : Nat) (l : List AV) (k : List AV → Option β) : Option β := List.rec (motive := fun _ => Nat → (List AV → Option β) → Option β) (fun n k => Nat.rec (motive := fun _ => Option β) (ovrK l [] k) (fun _ _ => none) n) (fun x xs ih i k => Nat.rec (motive := fun _ => Option β) (ovrK l (x :: xs) k) (fun m _ => ih m fun ys => k (x :: ys)) i) vs off k
theorem splK_eq (l : List AV) : ∀ (vs : List AV) (off : Nat) (k : List AV → Option β), splK vs off l k = if off + l.length ≤ vs.length then k (splice vs off l) else none
 |
  [], 0, k => by
  show ovrK l [] k = _
  rw [ovrK_eq]; simp [splice]
 |
  [], n + 1, k => by
  show none = _
  rw [if_neg (by simp only [List.length_nil]; omega)]
 |
  x :: xs, 0, k => by
  show ovrK l (x :: xs) k = _
  rw [ovrK_eq]; simp [splice]
 |
  x :: xs, i + 1, k => by
  show splK xs i l (fun ys => k (x :: ys)) = _
  rw [splK_eq l xs]
  have : i + 1 + l.length = i + l.length + 1 := by omega
  by_cases h : i + l.length ≤ xs.length
  ·rw [if_pos h, if_pos (by simp; omega)]
   simp [splice, this]
  ·rw [if_neg h, if_neg (by simp; omega)]
noncomputable def pushQ (rows : List Row) (r : Row) (k : List Row → β) : β := List.rec (motive := fun _ => (List Row → β) → β) (fun k => k [r]) (fun x _ ih k => ih fun ys => k (x :: ys)) rows k
theorem pushQ_eq (r : Row) : ∀ (rows : List Row) (k : List Row → β), pushQ rows r k = k (rows ++ [r])
 | [], k => rfl
 |
  x :: xs, k => by
  show pushQ xs r (fun ys => k (x :: ys)) = _
  rw [pushQ_eq r xs]; rfl
noncomputable def spQ (rows : List Row) (k : List Row → β) : β := List.rec (motive := fun _ => (List Row → β) → β) (fun k => k []) (fun x _ ih k => ih fun ys => k (x :: ys)) rows k
theorem spQ_eq : ∀ (rows : List Row) (k : List Row → β), spQ rows k = k rows
 | [], k => rfl
 |
  x :: xs, k => by
  show spQ xs (fun ys => k (x :: ys)) = _
  rw [spQ_eq xs]
noncomputable def pQ (l : List (Nat × AV)) (d : Option Nat) (v : AV) (k : List (Nat × AV) → β) : β := Option.rec (motive := fun _ => β) (k l) (fun d => k ((d, v) :: l)) d
theorem pQ_eq (l : List (Nat × AV)) (d : Option Nat) (v : AV) (k : List (Nat × AV) → β) : pQ l d v k = k (pO l d v) := by cases d <;> rfl
end

def wrapQ (k : IntKind) (n : Int) : Int := match k, n with
 | .i64, .ofNat m => cond (Nat.ble m 9223372036854775807) (.ofNat m) (IntKind.wrap .i64 (.ofNat m))
 | .i64, .negSucc m => cond (Nat.ble m 9223372036854775807) (.negSucc m) (IntKind.wrap .i64 (.negSucc m))
 | .u64, .ofNat m => cond (Nat.ble m 18446744073709551615) (.ofNat m) (IntKind.wrap .u64 (.ofNat m))
 | k, n => k.wrap n
theorem cond_ble {m n : Nat} {x y : Int} (h : m ≤ n → y = x) : cond (Nat.ble m n) x y = y := by
 cases e : Nat.ble m n with
 | false => rfl
 | true => rw [cond_true, h (Nat.le_of_ble_eq_true e)]
theorem wrapQ_eq (k : IntKind) (n : Int) : wrapQ k n = k.wrap n := by
 unfold wrapQ
 split
 ·rename_i m
  refine cond_ble fun h => wrap64 ?_ ?_ <;> (show _ ≤ _; simp only [Int.ofNat_eq_natCast]; omega)
 ·rename_i m
  refine cond_ble fun h => wrap64 ?_ ?_ <;> (simp only [Int.negSucc_eq]; omega)
 ·rename_i m
  refine cond_ble fun h => wrapU64 ?_ ?_ <;> (simp only [Int.ofNat_eq_natCast]; omega)
 ·rfl
def binQ (op : BinOp) (x y : AV) : Option AV := match x, y with
 |
  .int k a, .int k' b => match op with
  | .add => if k = k' then some (.int k (wrapQ k (a + b))) else none
  | .sub => if k = k' then some (.int k (wrapQ k (a - b))) else none
  | .mul => if k = k' then some (.int k (wrapQ k (a * b))) else none
  | .quo => if k = k' then (if b = 0 then none else some (.int k (wrapQ k (a.tdiv b)))) else none
  | op => binA op (.int k a) (.int k' b)
 | x, y => binA op x y
theorem binQ_eq (op : BinOp) (x y : AV) : binQ op x y = binA op x y := by
 unfold binQ
 split
 ·split <;> simp only [wrapQ_eq] <;> rfl
 ·rfl
section
variable {β : Type}
noncomputable def qV (v : AV) (k : AV → β) : β := match v with
 | .int kd n => qI n fun n => k (.int kd n)
 | .bool b => qB b fun b => k (.bool b)
 | .ptr i o => qN i fun i => qN o fun o => k (.ptr i o)
 | v => frcW v k
theorem qV_eq (v : AV) (k : AV → β) : qV v k = k v := by
 unfold qV
 split <;> simp [qI_eq, qB_eq, qN_eq, frcW_eq]
end

section
variable {β : Type}
noncomputable def ldQ (rows : List Row) (a : AV) (k : List AV → Nat → Option β) : Option β := match a with
 |
  .ptr id off => rowK rows id fun r => match r with
  | .cells vs => k vs off
  | .ro vs => k vs off
  | _ => none
 | _ => none
theorem ldQ_eq (rows : List Row) (a : AV) (k : List AV → Nat → Option β) : ldQ rows a k = match a with | .ptr id off => (row? rows id).bind fun vs => k vs off | _ => none := by
 unfold ldQ
 split
 ·rename_i id off
  rw [rowK_eq]
  unfold row?
  cases rows[id]? with
  | none => rfl
  | some r => cases r <;> rfl
 ·rfl
noncomputable def someK (o : Option AV) (k : AV → Option β) : Option β := match o with
 | some v => qV v k
 | none => none
theorem someK_eq (o : Option AV) (k : AV → Option β) : someK o k = o.bind k := by
 cases o <;> simp [someK, qV_eq]
noncomputable def idxSQ (sz : Nat) (x i : AV) (k : AV → Option β) : Option β := match x with
 |
  .slice id off len _ => match i with
  |
   .int _ n => match n with
   | .ofNat j => bq (Nat.ble (Nat.succ j) len) (qN (Nat.add off (Nat.mul j sz)) fun o => k (.ptr id o)) none
   | .negSucc _ => none
  | _ => none
 | _ => none
noncomputable def idxAQ (len sz : Nat) (x i : AV) (k : AV → Option β) : Option β := match x with
 |
  .ptr id off => match i with
  |
   .int _ n => match n with
   | .ofNat j => bq (Nat.ble (Nat.succ j) len) (qN (Nat.add off (Nat.mul j sz)) fun o => k (.ptr id o)) none
   | .negSucc _ => none
  | _ => none
 | _ => none
noncomputable def fieldQ (d : Nat) (x : AV) (k : AV → Option β) : Option β := match x with
 | .ptr id off => qN (Nat.add off d) fun o => k (.ptr id o)
 | _ => none
noncomputable def lenQ (x : AV) (k : AV → Option β) : Option β := match x with
 | .slice _ _ n _ => k (.int .i64 (.ofNat n))
 | .nilslice => k (.int .i64 (.ofNat Nat.zero))
 | _ => none
noncomputable def pureQ (ns : Nat) (op : IOp) (l : List (Nat × AV)) (rows : List Row) (k : AV → Option β) : Option β := match op with
 | .mv x => gK ns l x k
 | .load1 a => gK ns l a fun a => ldQ rows a fun vs off => celK vs off k
 | .loadN n a => gK ns l a fun a => ldQ rows a fun vs off => segK vs off n fun m => k (.agg m)
 | .bin op x y => gK ns l x fun x => gK ns l y fun y => someK (binQ op x y) k
 | .idxS sz x i => gK ns l x fun x => gK ns l i fun i => idxSQ sz x i k
 | .idxA len sz x i => gK ns l x fun x => gK ns l i fun i => idxAQ len sz x i k
 | .fieldA d x => gK ns l x fun x => fieldQ d x k
 | .len 0 x => gK ns l x fun x => lenQ x k
 | op => someK (evalP rows (gO ns l) op) k
theorem pureQ_eq (ns : Nat) (op : IOp) (l : List (Nat × AV)) (rows : List Row) (k : AV → Option β) : pureQ ns op l rows k = (evalP rows (gO ns l) op).bind k := by
 have hidx : ∀ (j len : Nat) (K K' : Option β), bq (Nat.ble (Nat.succ j) len) K K' = if j < len then K else K' := fun j len K K' => by
  cases e : Nat.ble (Nat.succ j) len with
  | true => have := Nat.le_of_ble_eq_true e; rw [if_pos (by omega)]; rfl
  | false => rw [if_neg (fun h => by rw [Nat.ble_eq_true_of_le (by omega)] at e; simp at e)]; rfl
 unfold pureQ
 split
 ·rw [gK_eq]; rfl
 ·rename_i a
  rw [gK_eq, ldQ_eq]
  simp only [evalP]
  cases gO ns l a <;> try rfl
  simp only
  cases row? rows _ <;> simp [celK_eq]
 ·rename_i n a
  rw [gK_eq, ldQ_eq]
  simp only [evalP]
  cases gO ns l a <;> try rfl
  simp only
  cases row? rows _ with
  | none => rfl
  | some vs => simp only [Option.bind_some, segK_eq]; cases seg vs _ _ <;> rfl
 ·rw [gK_eq, gK_eq, someK_eq, binQ_eq]; rfl
 ·rename_i sz x i
  rw [gK_eq, gK_eq]
  simp only [evalP, idxSQ]
  cases gO ns l x <;> try rfl
  cases gO ns l i <;> try rfl
  rename_i id off len c kd n
  cases n with
  |
   ofNat j =>
   simp only [hidx, qN_eq, idx?]
   by_cases h : j < len
   ·rw [if_pos h, if_pos (by simp only [Int.ofNat_eq_natCast]; omega)]; rfl
   ·rw [if_neg h, if_neg (by simp only [Int.ofNat_eq_natCast]; omega)]; rfl
  | negSucc j => rfl
 ·rename_i len sz x i
  rw [gK_eq, gK_eq]
  simp only [evalP, idxAQ]
  cases gO ns l x <;> try rfl
  cases gO ns l i <;> try rfl
  rename_i id off kd n
  cases n with
  |
   ofNat j =>
   simp only [hidx, qN_eq, idx?]
   by_cases h : j < len
   ·rw [if_pos h, if_pos (by simp only [Int.ofNat_eq_natCast]; omega)]; rfl
   ·rw [if_neg h, if_neg (by simp only [Int.ofNat_eq_natCast]; omega)]; rfl
  | negSucc j => rfl
 ·rename_i d x
  rw [gK_eq]
  simp only [evalP, fieldQ]
  cases gO ns l x <;> try rfl
  simp only [qN_eq]; rfl
 ·rename_i x
  rw [gK_eq]
  simp only [evalP, lenQ]
  cases gO ns l x <;> rfl
 ·rw [someK_eq]
end

abbrev RR := Option (AV × List Row × Nat)
abbrev KK := List (Nat × AV) → List Row → Nat → RR
abbrev EX := Nat → Ctx → List Itm → List (Nat × AV) → List Row → Nat → RR
section
variable (F : Nat → Option IFn) (ex : EX) (ns : Nat)
noncomputable def store1Q (d : Option Nat) (a x : AV) (K : KK) (l : List (Nat × AV)) (rows : List Row) (low : Nat) : RR := match a with
 |
  .ptr id off => bq x.one (rowK rows id fun r => match r with
  | .cells vs => setCQ vs off x fun vs => setQ rows id (.cells vs) fun rows => qN (lower low id) fun low => pQ l d (.tup []) fun l => K l rows low
  | _ => none) none
 | _ => none
noncomputable def storeNQ (d : Option Nat) (n : Nat) (a x : AV) (K : KK) (l : List (Nat × AV)) (rows : List Row) (low : Nat) : RR := match a with
 |
  .ptr id off => match x with
  |
   .agg m => bq (Nat.beq m.length n && m.all AV.one) (rowK rows id fun r => match r with
   | .cells vs => splK vs off m fun vs => setQ rows id (.cells vs) fun rows => qN (lower low id) fun low => pQ l d (.tup []) fun l => K l rows low
   | _ => none) none
  | _ => none
 | _ => none
noncomputable def boxQ (d : Option Nat) (x : AV) (K : KK) (l : List (Nat × AV)) (rows : List Row) (low : Nat) : RR := bq (x.cells.all AV.one) (frcR (.cells x.cells) fun r => qN rows.length fun n => pushQ rows r fun rows => pQ l d (.ptr n 0) fun l => K l rows low) none
noncomputable def restQ (d : Option Nat) (o : Option (AV × Dl × Nat)) (K : KK) (l : List (Nat × AV)) (rows : List Row) (low : Nat) : RR := match o with
 | some (v, dl, lw) => qV v fun v => dl.run rows fun rows => qN lw fun low => pQ l d v fun l => K l rows low
 | none => none
noncomputable def enterQ (fid : Nat) (vs : List AV) (rows : List Row) (low : Nat) (K : AV → List Row → Nat → RR) : RR := match F fid with
 |
  some fn => bq (Nat.ble vs.length fn.ns) (match iniK vs 0 fun l => ex fn.ns (.fn fn.res) [.code fn.body] l rows rows.length with
  |
   some (v, rows', low') => match fin rows v rows' low' with
   | (v, rows2, dd) => frcW v fun v => spQ rows2 fun rows2 => qN (lowO low dd) fun low => K v rows2 low
  | none => none) none
 | none => none
noncomputable def roundQ (id : Nat) (vs : List AV) (rows : List Row) (low : Nat) (K : AV → List Row → Nat → RR) : RR := rowK rows id fun r => match r with
 |
  .loop _ _ sl ps asg body => bq (Nat.beq ps.length vs.length) (match frcWs (putL sl ps vs) fun sl => ofK sl 0 fun l1 => ex sl.length (.round id) [.code asg, .rfBegin, .code body] l1 rows rows.length with
  | some (v, rows', low') => qN (lower low low') fun lw => spQ (gc rows.length lw v rows') fun rows2 => qV v fun v => K v rows2 lw
  | none => none) none
 | _ => none
noncomputable def callQ (d : Option Nat) (tab : List (Nat × Nat)) (f : AV) (vs : List AV) (K : KK) (l : List (Nat × AV)) (rows : List Row) (low : Nat) : RR := match tab with
 |
  [] => match f with
  | .func fid [] => enterQ F ex fid vs rows low fun v rows low => pQ l d v fun l => K l rows low
  | .func fid cs => frcWs (vs ++ cs) fun vs => enterQ F ex fid vs rows low fun v rows low => pQ l d v fun l => K l rows low
  |
   .iface t v => match boundOf t v with
   | some p => frcWs (p.2 ++ vs) fun vs => enterQ F ex p.1 vs rows low fun v rows low => pQ l d v fun l => K l rows low
   | none => none
  | .yield id => roundQ ex id vs rows low fun v rows low => pQ l d v fun l => K l rows low
  | _ => none
 |
  p :: tab => match f with
  |
   .iface t v => bq (Nat.beq t bd) none (match (p :: tab).lookup t with
   | some fid => enterQ F ex fid (v :: vs) rows low fun v rows low => pQ l d v fun l => K l rows low
   | none => none)
  | _ => none
noncomputable def runD (d : Option Nat) (op : IOp) (K : KK) (l : List (Nat × AV)) (rows : List Row) (low : Nat) : RR := match op with
 | .call tab f args => gK ns l f fun f => gsK ns l args fun vs => callQ F ex d tab f vs K l rows low
 | .store1 a x => gK ns l a fun a => gK ns l x fun x => store1Q d a x K l rows low
 | .storeN n a x => gK ns l a fun a => gK ns l x fun x => storeNQ d n a x K l rows low
 | .box x => gK ns l x fun x => boxQ d x K l rows low
 | op => bq op.pure (pureQ ns op l rows fun v => pQ l d v fun l => K l rows low) (restQ d (evalD (gO ns l) rows low op) K l rows low)
noncomputable def beqB (a b : Bool) : Bool := Bool.rec (motive := fun _ => Bool) (Bool.rec (motive := fun _ => Bool) true false b) b a
theorem beqB_eq (a b : Bool) : beqB a b = (a == b) := by cases a <;> cases b <;> rfl
noncomputable def oneQ (o : IOpx) (K : KK) (l : List (Nat × AV)) (rows : List Row) (low : Nat) : RR := match o with
 |
  ⟨d, op, gd⟩ => match gd with
  | none => runD F ex ns d op K l rows low
  |
   some p => gK ns l (.t p.1) fun g => match g with
   | .bool c => bq (beqB c p.2) (runD F ex ns d op K l rows low) (pQ l d (.tup []) fun l => K l rows low)
   | .tup [] => pQ l d (.tup []) fun l => K l rows low
   | _ => none
noncomputable def callF : CallF := fun f vs rows => match F f with
 | some fn => if vs.length ≤ fn.ns then callD2 rows (iniK vs 0 fun l => ex fn.ns (.fn fn.res) [.code fn.body] l rows rows.length) else none
 | none => none
noncomputable def addX {β : Type} (ext : List (Nat × Row)) (i : Nat) (rs : List Row) (k : List (Nat × Row) → β) : β := match rs with
 | [] => k ext
 | r :: rs => frcX (ext ++ (r :: rs).map fun x => (i, x)) k
theorem addX_eq {β : Type} (ext : List (Nat × Row)) (i : Nat) (rs : List Row) (k : List (Nat × Row) → β) : addX ext i rs k = k (ext ++ rs.map fun x => (i, x)) := by
 cases rs with
 | nil => simp [addX]
 | cons r rs => simp only [addX, frcX_eq]
noncomputable def gop1Q (B : Nat → List Row) (b : Nat) (d : Option Nat) (op : IOp) (i : Nat) (l : List (Nat × AV)) (ext : List (Nat × Row)) (K : List (Nat × AV) → List (Nat × Row) → RR) : RR :=
 bq op.pure (pureQ ns op l (baseX (B i) b ext) fun v => pQ l d v fun l => K l ext) (match opD (callF F ex) (gO ns l) (baseX (B i) b ext) ((B i).length + ext.length) ⟨d, op, none⟩ with
  | some (v, rows', low') => bq (Nat.beq low' ((B i).length + ext.length)) (frcW v fun v => addX ext i (rows'.drop ((B i).length + ext.length)) fun ext => pQ l d v fun l => K l ext) none
  | none => none)
noncomputable def gopQ (B : Nat → List Row) (p : IOpx × Nat) (i : Nat) (l : List (Nat × AV)) (ext : List (Nat × Row)) (K : List (Nat × AV) → List (Nat × Row) → RR) : RR := match p with
 |
  (o, b) => match o with
  |
   ⟨d, op, gd⟩ => match gd with
   | none => gop1Q F ex ns B b d op i l ext K
   |
    some q => gK ns l (.t q.1) fun g => match g with
    | .bool c => bq (beqB c q.2) (gop1Q F ex ns B b d op i l ext K) (pQ l d (.tup []) fun l => K l ext)
    | .tup [] => pQ l d (.tup []) fun l => K l ext
    | _ => none
noncomputable def grpR (B : Nat → List Row) (g : List (IOpx × Nat)) : Nat → List (Nat × AV) → List (Nat × Row) → (List (Nat × AV) → List (Nat × Row) → RR) → RR :=
 List.rec (motive := fun _ => Nat → List (Nat × AV) → List (Nat × Row) → (List (Nat × AV) → List (Nat × Row) → RR) → RR) (fun _ l ext K => K l ext) (fun p _ ih i l ext K => gopQ F ex ns B p i l ext fun l ext => ih (Nat.succ i) l ext K) g
noncomputable def putX (rows : List Row) (ext : List (Nat × Row)) (k : List Row → RR) : RR := match ext with
 | [] => k rows
 | e :: ext => spQ (rows ++ (e :: ext).map (·.2)) k
theorem putX_eq (rows : List Row) (ext : List (Nat × Row)) (k : List Row → RR) : putX rows ext k = k (rows ++ ext.map (·.2)) := by
 cases ext with
 | nil => simp [putX]
 | cons e ext => simp only [putX, spQ_eq]
noncomputable def grpQ (g : List (IOpx × Nat)) (K : KK) (l : List (Nat × AV)) (rows : List Row) (low : Nat) : RR := grpR F ex ns (fun _ => rows) g Nat.zero l [] fun l ext => putX rows ext fun rows => K l rows low
noncomputable def grpwQ (a y : Opd) (sz : Option Nat) (b : Nat) (g : List (IOpx × Nat)) (K : KK) (l : List (Nat × AV)) (rows : List Row) (low : Nat) : RR :=
 grpR F ex ns (fun _ => rows) g Nat.zero l [] fun l0 _ => gK ns l0 a fun a0 => match a0 with
  |
   .ptr R off => spQ (maskR rows R off (sz.getD 1)) fun rm => grpR F ex ns (baseW rows rm b) g Nat.zero l [] fun l' ext => match stored (mk ns l') rows R off a y sz with
   | some r' => frcR r' fun r' => setQ rows R r' fun rows => putX rows ext fun rows => qN (lower low R) fun low => K l' rows low
   | none => none
  | _ => none
noncomputable def segQ (sg : Seg) (K : KK) (l : List (Nat × AV)) (rows : List Row) (low : Nat) : RR := match sg with
 | .one o => oneQ F ex ns o K l rows low
 | .grp g => grpQ F ex ns g K l rows low
 | .grpw a y sz b g => grpwQ F ex ns a y sz b g K l rows low
 | .stop => none
noncomputable def segsQ (K : KK) (s : List Seg) : KK := List.rec (motive := fun _ => KK) K (fun sg _ ih => segQ F ex ns sg ih) s
noncomputable def rfQ (cx : Ctx) (f : Opd) (ps : List Nat) (asg body : ICode) (k : List Itm) (l : List (Nat × AV)) (rows : List Row) (low : Nat) : RR :=
 bq (rfOk cx rows) (match target (gO ns l f) [.yield rows.length] with
  |
   some (fid, vs) => match frcR (.loop .ready none (mk ns l) ps asg body) fun r => pushQ rows r fun rows1 => frcWs vs fun vs => callF F ex fid vs rows1 with
   |
    some (_, rows', d) => match afterLoop rows.length low rows' d with
    | some (k0, rows2, low2) => spQ rows2 fun rows2 => qN low2 fun low2 => ex ns cx (k0 ++ k) l rows2 low2
    | none => none
   | none => none
  | none => none) none
noncomputable def begQ (cx : Ctx) (k : List Itm) (l : List (Nat × AV)) (rows : List Row) (low : Nat) : RR := match cx with
 |
  .round id => rowK rows id fun r => match r with
  | .loop .ready pend sl ps asg body => setQ rows id (.loop .busy pend sl ps asg body) fun rows => qN (lower low id) fun low => ex ns cx k l rows low
  | _ => none
 | _ => none
noncomputable def exitQ (cx : Ctx) (id : Nat) (k : List Itm) (l : List (Nat × AV)) (rows : List Row) (low : Nat) : RR := match popTo id k with
 | some k' => ex ns cx k' l rows low
 | none => leaveD ns cx (some (.exit id)) l rows low
noncomputable def condQ (cx : Ctx) (c : Opd) (a b : ICode) (k : List Itm) (l : List (Nat × AV)) (rows : List Row) (low : Nat) : RR := gK ns l c fun c => match c with
 | .bool t => Bool.rec (motive := fun _ => RR) (ex ns cx (.code b :: k) l rows low) (ex ns cx (.code a :: k) l rows low) t
 | _ => none
noncomputable def codeQ (cx : Ctx) (c : ICode) (k : List Itm) (l : List (Nat × AV)) (rows : List Row) (low : Nat) : RR := ICode.casesOn (motive := fun _ => RR) c
 (ex ns cx k l rows low)
 (leaveD ns cx (some .ret) l rows low)
 (fun id => exitQ ex ns cx id k l rows low)
 (fun a b => ex ns cx (.code a :: .code b :: k) l rows low)
 (fun c a b => condQ ex ns cx c a b k l rows low)
 (fun id c => ex ns cx (.code c :: .inBlock id :: k) l rows low)
 (fun c => ex ns cx (.code c :: .inLoop c :: k) l rows low)
 (fun c => ex ns cx (.code c :: .inScope c :: k) l rows low)
 (fun s => segsQ F ex ns (fun l rows low => ex ns cx k l rows low) s l rows low)
 (fun f ps asg body => rfQ F ex ns cx f ps asg body k l rows low)
 (fun m ks c => bq (Nat.beq m ns) (onlyQ l ks fun l => ex ns cx (.code c :: k) l rows low) none)
 none
noncomputable def itmQ (cx : Ctx) (x : Itm) (k : List Itm) (l : List (Nat × AV)) (rows : List Row) (low : Nat) : RR := Itm.rec (motive := fun _ => RR)
 (fun c => codeQ F ex ns cx c k l rows low)
 (fun _ => ex ns cx k l rows low)
 (fun c => ex ns cx (.code c :: .inLoop c :: k) l rows low)
 (fun _ => ex ns cx k l rows low)
 (fun s => segsQ F ex ns (fun l rows low => ex ns cx k l rows low) s l rows low)
 (begQ ex ns cx k l rows low) x
noncomputable def stepQ : EX := fun ns cx k l rows low => List.rec (motive := fun _ => RR) (leaveD ns cx none l rows low) (fun x k _ => itmQ F ex ns cx x k l rows low) k
end
noncomputable def execQ (F : Nat → Option IFn) (n : Nat) : EX := Nat.rec (motive := fun _ => EX) (fun _ _ _ _ _ _ => none) (fun _ ih => stepQ F ih) n
noncomputable def cQ (F : Nat → Option IFn) (n : Nat) : CallF := callF F (execQ F n)

def SD (F : Nat → Option IFn) (ex : EX) : Prop := ∀ (ns : Nat) (cx : Ctx) (k : List Itm) (l : List (Nat × AV)) (rows : List Row) (low : Nat) (r : AV × List Row × Nat), ex ns cx k l rows low = some r → Ex F cx k ⟨mk ns l, rows, low⟩ fun q => q = r
section
variable {F : Nat → Option IFn} {ex : EX} (hS : SD F ex) {ns : Nat} {cx : Ctx} {k : List Itm}
include hS
theorem entered {fid : Nat} {fn : IFn} (hF : F fid = some fn) {vs : List AV} (hl : vs.length ≤ fn.ns) {rows : List Row} {q : AV × List Row × Nat} (h : ex fn.ns (.fn fn.res) [.code fn.body] (ini 0 vs) rows rows.length = some q) : Ret F fid vs rows = some (fin rows q.1 q.2.1 q.2.2) := by
 obtain ⟨n, x, e, rfl⟩ := hS _ _ _ _ _ _ _ h
 refine Ret_of (n := n) ?_
 unfold cF callBy
 simp only [hF]
 rw [mk_ini hl] at e
 rw [show exec F n (.fn fn.res) [.code fn.body] (init fn vs rows) = _ from e]
 rfl
theorem callF_ok : LeC (callF F ex) (Ret F) := by
 intro f vs rows q h
 unfold callF at h
 split at h
 ·rename_i fn hfn
  split at h
  ·rename_i hlen
   rw [callD2_ok, iniK_eq] at h
   unfold callR at h
   split at h
   ·rename_i v rows' low' he
    rw [entered hS hfn hlen he]
    exact h
   ·simp at h
  ·simp at h
 ·simp at h
theorem enterQ_ok {fid : Nat} {vs : List AV} {rows : List Row} {low : Nat} {K : AV → List Row → Nat → RR} {r : AV × List Row × Nat} (h : enterQ F ex fid vs rows low K = some r) : ∃ q, Ret F fid vs rows = some q ∧ K q.1 q.2.1 (lowO low q.2.2) = some r := by
 unfold enterQ at h
 split at h
 ·rename_i fn hfn
  cases hb : Nat.ble vs.length fn.ns with
  | false => rw [hb] at h; simp at h
  |
   true =>
   rw [hb, bq_true, iniK_eq] at h
   split at h
   ·rename_i v rows' low' he
    simp only [frcW_eq, spQ_eq, qN_eq] at h
    exact ⟨_, entered hS hfn (Nat.le_of_ble_eq_true hb) he, h⟩
   ·simp at h
 ·simp at h
theorem roundQ_ok {id : Nat} {vs : List AV} {rows : List Row} {low : Nat} {K : AV → List Row → Nat → RR} {r : AV × List Row × Nat} (h : roundQ ex id vs rows low K = some r) : ∃ st pd sl ps asg body, rows[id]? = some (.loop st pd sl ps asg body) ∧ ps.length = vs.length ∧
  Ex F (.round id) [.code asg, .rfBegin, .code body] ⟨putL sl ps vs, rows, rows.length⟩ fun q => K q.1 (gc rows.length (lower low q.2.2) q.1 q.2.1) (lower low q.2.2) = some r := by
 unfold roundQ at h
 rw [rowK_eq] at h
 cases hr : rows[id]? with
 | none => rw [hr] at h; simp at h
 |
  some w =>
  rw [hr] at h
  simp only [Option.bind_some] at h
  split at h
  ·rename_i st pd sl ps asg body
   cases hb : Nat.beq ps.length vs.length with
   | false => rw [hb] at h; simp at h
   |
    true =>
    rw [hb, bq_true, frcWs_eq, ofK_eq] at h
    split at h
    ·rename_i v rows' low' he
     simp only [qN_eq, spQ_eq, qV_eq] at h
     refine ⟨st, pd, sl, ps, asg, body, rfl, Nat.eq_of_beq_eq_true hb, ?_⟩
     have := hS _ _ _ _ _ _ _ he
     rw [mk_ofL] at this
     exact this.imp fun q hq => by subst hq; exact h
    ·simp at h
  ·simp at h
theorem callQ_ok {d : Option Nat} {tab : List (Nat × Nat)} {f : AV} {vs : List AV} {K : KK} {l : List (Nat × AV)} {rows : List Row} {low : Nat} {s : List Seg} {r : AV × List Row × Nat} (hK : ∀ l rows low, K l rows low = some r → Ex F cx (.ops s :: k) ⟨mk ns l, rows, low⟩ fun q => q = r)
  (h : callQ F ex d tab f vs K l rows low = some r) : callD F cx d s k (mk ns l) rows low (fun q => q = r) vs tab f := by
 unfold callQ at h
 split at h
 ·split at h
  ·obtain ⟨q, e, h⟩ := enterQ_ok hS h
   rw [pQ_eq] at h
   refine ⟨q, by simpa using e, ?_⟩
   rw [pO_ok]; exact hK _ _ _ h
  ·rw [frcWs_eq] at h
   obtain ⟨q, e, h⟩ := enterQ_ok hS h
   rw [pQ_eq] at h
   refine ⟨q, e, ?_⟩
   rw [pO_ok]; exact hK _ _ _ h
  ·split at h
   ·rename_i p hp
    rw [frcWs_eq] at h
    obtain ⟨q, e, h⟩ := enterQ_ok hS h
    rw [pQ_eq] at h
    refine ⟨p, hp, q, e, ?_⟩
    rw [pO_ok]; exact hK _ _ _ h
   ·simp at h
  ·obtain ⟨st, pd, sl, ps, asg, body, h1, h2, h3⟩ := roundQ_ok hS h
   refine ⟨st, pd, sl, ps, asg, body, h1, h2, h3.imp fun q hq => ?_⟩
   rw [pQ_eq] at hq
   rw [pO_ok]; exact hK _ _ _ hq
  ·simp at h
 ·split at h
  ·rename_i p tab t v
   cases hb : Nat.beq t bd with
   | true => rw [hb] at h; simp at h
   |
    false =>
    rw [hb, bq_false] at h
    split at h
    ·rename_i fid hl
     obtain ⟨q, e, h⟩ := enterQ_ok hS h
     rw [pQ_eq] at h
     refine ⟨fun e => ?_, fid, hl, q, e, ?_⟩
     ·subst e
      rw [Nat.beq_refl] at hb
      simp at hb
     ·rw [pO_ok]; exact hK _ _ _ h
    ·simp at h
  ·simp at h
theorem runD_ok {d : Option Nat} {op : IOp} {K : KK} {l : List (Nat × AV)} {rows : List Row} {low : Nat} {s : List Seg} {r : AV × List Row × Nat} (hK : ∀ l rows low, K l rows low = some r → Ex F cx (.ops s :: k) ⟨mk ns l, rows, low⟩ fun q => q = r)
  (h : runD F ex ns d op K l rows low = some r) : Ex F cx (.ops (.one ⟨d, op, none⟩ :: s) :: k) ⟨mk ns l, rows, low⟩ fun q => q = r := by
 -- an operation that is no call
 have plainOp : ∀ (o : IOp), o.plain = true → (∃ v rows' low', evalE (gO ns l) rows low o = some (v, rows', low') ∧ K (pO l d v) rows' low' = some r) → Ex F cx (.ops (.one ⟨d, o, none⟩ :: s) :: k) ⟨mk ns l, rows, low⟩ fun q => q = r := by
  rintro o ho ⟨v, rows', low', e, hk⟩
  rw [Ex_op ho]
  refine ⟨true, rfl, ?_⟩
  rw [if_pos rfl]
  refine ⟨v, rows', low', ?_, ?_⟩
  ·rw [gO_ok]; exact e
  ·rw [pO_ok]; exact hK _ _ _ hk
 unfold runD at h
 split at h
 ·rename_i tab f args
  rw [gK_eq, gsK_eq] at h
  rw [Ex_callD]
  rw [gO_ok]
  exact callQ_ok hS hK h
 ·rename_i a x
  rw [gK_eq, gK_eq] at h
  refine plainOp _ rfl ?_
  unfold store1Q at h
  simp only [evalE]
  split at h
  ·rename_i id off e
   rw [e]
   cases hx : (gO ns l x).one with
   | false => rw [hx] at h; simp at h
   |
    true =>
    rw [hx, bq_true, rowK_eq] at h
    simp only
    cases hr : rows[id]? with
    | none => rw [hr] at h; simp at h
    |
     some w =>
     rw [hr] at h
     simp only [Option.bind_some] at h
     split at h
     ·rename_i vs
      rw [setCQ_eq] at h
      split at h
      ·rename_i ho
       simp only [setQ_eq, qN_eq, pQ_eq] at h
       simp only [ho, true_and, and_self, if_true]
       exact ⟨_, _, _, rfl, h⟩
      ·simp at h
     ·simp at h
  ·simp at h
 ·rename_i n a x
  rw [gK_eq, gK_eq] at h
  refine plainOp _ rfl ?_
  unfold storeNQ at h
  simp only [evalE]
  split at h
  ·rename_i id off e
   rw [e]
   split at h
   ·rename_i m em
    rw [em]
    cases hx : (Nat.beq m.length n && m.all AV.one) with
    | false => rw [hx] at h; simp at h
    |
     true =>
     rw [hx, bq_true, rowK_eq] at h
     simp only [Bool.and_eq_true] at hx
     have hn := Nat.eq_of_beq_eq_true hx.1
     simp only
     cases hr : rows[id]? with
     | none => rw [hr] at h; simp at h
     |
      some w =>
      rw [hr] at h
      simp only [Option.bind_some] at h
      split at h
      ·rename_i vs
       rw [splK_eq] at h
       split at h
       ·rename_i ho
        simp only [setQ_eq, qN_eq, pQ_eq] at h
        rw [hn] at ho
        simp only [hn, ho, hx.2, true_and, and_self, if_true]
        exact ⟨_, _, _, rfl, h⟩
       ·simp at h
      ·simp at h
   ·simp at h
  ·simp at h
 ·rename_i x
  rw [gK_eq] at h
  refine plainOp _ rfl ?_
  unfold boxQ at h
  simp only [evalE]
  cases hx : (gO ns l x).cells.all AV.one with
  | false => rw [hx] at h; simp at h
  |
   true =>
   rw [hx, bq_true] at h
   simp only [frcR_eq, qN_eq, pushQ_eq, pQ_eq] at h
   simp only [if_true]
   exact ⟨_, _, _, rfl, h⟩
 ·rename_i h1 h2 h3 h4
  have hpl : op.plain = true := by
   cases op <;> first | rfl | exact absurd rfl (h1 _ _ _)
  refine plainOp _ hpl ?_
  cases hp : op.pure with
  |
   true =>
   rw [hp, bq_true, pureQ_eq] at h
   rw [evalE_pure hp]
   cases he : evalP rows (gO ns l) op with
   | none => rw [he] at h; simp at h
   |
    some v =>
    rw [he] at h
    simp only [Option.bind_some, pQ_eq] at h
    exact ⟨v, rows, low, rfl, h⟩
  |
   false =>
   rw [hp, bq_false] at h
   unfold restQ at h
   split at h
   ·rename_i v dl lw he
    rw [qV_eq, Dl.run_eq, qN_eq, pQ_eq] at h
    exact ⟨v, _, _, evalD_ok _ _ _ _ he, h⟩
   ·simp at h
theorem oneQ_ok {o : IOpx} {K : KK} {l : List (Nat × AV)} {rows : List Row} {low : Nat} {s : List Seg} {r : AV × List Row × Nat} (hK : ∀ l rows low, K l rows low = some r → Ex F cx (.ops s :: k) ⟨mk ns l, rows, low⟩ fun q => q = r)
  (h : oneQ F ex ns o K l rows low = some r) : Ex F cx (.ops (.one o :: s) :: k) ⟨mk ns l, rows, low⟩ fun q => q = r := by
 obtain ⟨d, op, gd⟩ := o
 unfold oneQ at h
 simp only at h
 cases gd with
 | none => exact runD_ok hS hK h
 |
  some p =>
  obtain ⟨t, b⟩ := p
  simp only [gK_eq] at h
  rw [Ex_guard]
  have hw : want (mk ns l) (some (t, b)) = wantG (gO ns l) (some (t, b)) := by rw [wantG_ok, gO_ok]
  rw [hw]
  simp only [wantG]
  split at h
  ·rename_i c e
   first | rw [e] | skip
   try simp only
   rw [beqB_eq] at h
   refine ⟨_, rfl, ?_⟩
   cases hcb : (c == b) with
   |
    true =>
    rw [hcb, bq_true] at h
    rw [if_pos rfl]
    exact runD_ok hS hK h
   |
    false =>
    rw [hcb, bq_false, pQ_eq] at h
    rw [if_neg (by simp), pO_ok]
    exact hK _ _ _ h
  ·rename_i e
   first | rw [e] | skip
   try simp only
   refine ⟨_, rfl, ?_⟩
   rw [pQ_eq] at h
   rw [if_neg (by simp), pO_ok]
   exact hK _ _ _ h
  ·simp at h
theorem gop_ok {B : Nat → List Row} {o : IOpx} {b i : Nat} {l : List (Nat × AV)} {ext : List (Nat × Row)} {K : List (Nat × AV) → List (Nat × Row) → RR} {r : AV × List Row × Nat} (h : gopQ F ex ns B (o, b) i l ext K = some r) :
  ∃ v rows', opR (Ret F) (mk ns l) (B i ++ maskE b ext) ((B i).length + ext.length) o = some (v, rows', (B i).length + ext.length) ∧ K (pO l o.dst v) (ext ++ (rows'.drop ((B i).length + ext.length)).map fun x => (i, x)) = some r := by
 obtain ⟨d, op, gd⟩ := o
 have hdrop : ((B i ++ maskE b ext).drop ((B i).length + ext.length)).map (fun x => (i, x)) = [] := by
  rw [List.drop_of_length_le (by simp [maskE])]; rfl
 have one : ∀ gd : Option (Nat × Bool), want (mk ns l) gd = some true → gop1Q F ex ns B b d op i l ext K = some r →
   ∃ v rows', opR (Ret F) (mk ns l) (B i ++ maskE b ext) ((B i).length + ext.length) ⟨d, op, gd⟩ = some (v, rows', (B i).length + ext.length) ∧ K (pO l d v) (ext ++ (rows'.drop ((B i).length + ext.length)).map fun x => (i, x)) = some r := by
  intro gd hw h
  unfold gop1Q at h
  rw [baseX_eq] at h
  cases hp : op.pure with
  |
   true =>
   rw [hp, bq_true, pureQ_eq] at h
   cases he : evalP (B i ++ maskE b ext) (gO ns l) op with
   | none => rw [he] at h; simp at h
   |
    some v =>
    rw [he] at h
    simp only [Option.bind_some, pQ_eq] at h
    refine ⟨v, B i ++ maskE b ext, ?_, by rw [hdrop, List.append_nil]; exact h⟩
    unfold opR
    rw [hw]
    simp only
    split
    ·simp [IOp.pure] at hp
    ·rw [gO_ok, evalE_pure hp, he]; rfl
  |
   false =>
   rw [hp, bq_false] at h
   split at h
   ·rename_i v rows' low' ho
    cases hb : Nat.beq low' ((B i).length + ext.length) with
    | false => rw [hb] at h; simp at h
    |
     true =>
     rw [hb, bq_true] at h
     have hl := Nat.eq_of_beq_eq_true hb
     subst hl
     rw [frcW_eq, addX_eq, pQ_eq] at h
     refine ⟨v, rows', ?_, h⟩
     rw [← gO_ok] at ho
     have := opD_ok (callF_ok hS) ho
     unfold opR at this ⊢
     rw [hw]
     exact this
   ·simp at h
 unfold gopQ at h
 simp only at h
 cases gd with
 | none => exact one none rfl h
 |
  some p =>
  obtain ⟨t, b'⟩ := p
  simp only [gK_eq] at h
  have hw : want (mk ns l) (some (t, b')) = wantG (gO ns l) (some (t, b')) := by rw [wantG_ok, gO_ok]
  have no : want (mk ns l) (some (t, b')) = some false → pQ l d (.tup []) (fun l => K l ext) = some r →
    ∃ v rows', opR (Ret F) (mk ns l) (B i ++ maskE b ext) ((B i).length + ext.length) ⟨d, op, some (t, b')⟩ = some (v, rows', (B i).length + ext.length) ∧ K (pO l d v) (ext ++ (rows'.drop ((B i).length + ext.length)).map fun x => (i, x)) = some r := by
   intro hw h
   rw [pQ_eq] at h
   refine ⟨.tup [], B i ++ maskE b ext, ?_, by rw [hdrop, List.append_nil]; exact h⟩
   unfold opR
   rw [hw]
  split at h
  ·rename_i c e
   rw [beqB_eq] at h
   have hw2 : want (mk ns l) (some (t, b')) = some (c == b') := by rw [hw]; simp only [wantG, e]
   cases hcb : (c == b') with
   |
    true =>
    rw [hcb, bq_true] at h
    rw [hcb] at hw2
    exact one _ hw2 h
   |
    false =>
    rw [hcb, bq_false] at h
    rw [hcb] at hw2
    exact no hw2 h
  ·rename_i e
   have hw2 : want (mk ns l) (some (t, b')) = some false := by rw [hw]; simp only [wantG, e]
   exact no hw2 h
  ·simp at h
theorem grpR_ok {B : Nat → List Row} : ∀ (g : List (IOpx × Nat)) (i : Nat) (l : List (Nat × AV)) (ext : List (Nat × Row)) {K : List (Nat × AV) → List (Nat × Row) → RR} {r : AV × List Row × Nat}, grpR F ex ns B g i l ext K = some r →
  ∃ l' ext', evalG (Ret F) B i g (mk ns l) ext = some (mk ns l', ext') ∧ K l' ext' = some r
 | [], i, l, ext, K, r, h => ⟨l, ext, rfl, h⟩
 |
  (o, b) :: g, i, l, ext, K, r, h => by
  obtain ⟨v, rows', e1, e2⟩ := gop_ok hS h
  obtain ⟨l', ext', e3, e4⟩ := grpR_ok g (i + 1) _ _ e2
  refine ⟨l', ext', ?_, e4⟩
  simp only [evalG, e1, if_true, pO_ok]
  exact e3
theorem segQ_ok {sg : Seg} {K : KK} {l : List (Nat × AV)} {rows : List Row} {low : Nat} {s : List Seg} {r : AV × List Row × Nat} (hK : ∀ l rows low, K l rows low = some r → Ex F cx (.ops s :: k) ⟨mk ns l, rows, low⟩ fun q => q = r)
  (h : segQ F ex ns sg K l rows low = some r) : Ex F cx (.ops (sg :: s) :: k) ⟨mk ns l, rows, low⟩ fun q => q = r := by
 unfold segQ at h
 split at h
 ·exact oneQ_ok hS hK h
 ·rename_i g
  unfold grpQ at h
  obtain ⟨l', ext, e1, e2⟩ := grpR_ok hS g 0 l [] h
  rw [putX_eq] at e2
  rw [Ex_grpR]
  exact ⟨_, e1, hK _ _ _ e2⟩
 ·rename_i a y sz b g
  unfold grpwQ at h
  obtain ⟨l0, ext0, e1, e2⟩ := grpR_ok hS g 0 l [] h
  rw [gK_eq] at e2
  rw [Ex_grpwR]
  split at e2
  ·rename_i R off eR
   rw [spQ_eq] at e2
   obtain ⟨l', ext, e3, e4⟩ := grpR_ok hS g 0 l [] e2
   refine ⟨_, e1, R, off, by rw [gO_ok]; exact eR, _, e3, ?_⟩
   split at e4
   ·rename_i r' hr
    simp only [frcR_eq, setQ_eq, putX_eq, qN_eq] at e4
    exact ⟨r', hr, hK _ _ _ e4⟩
   ·simp at e4
  ·simp at e2
 ·simp at h
theorem segsQ_ok {K : KK} {r : AV × List Row × Nat} (hK : ∀ l rows low, K l rows low = some r → Ex F cx k ⟨mk ns l, rows, low⟩ fun q => q = r) : ∀ (s : List Seg) (l : List (Nat × AV)) (rows : List Row) (low : Nat), segsQ F ex ns K s l rows low = some r → Ex F cx (.ops s :: k) ⟨mk ns l, rows, low⟩ fun q => q = r
 | [], l, rows, low, h => by rw [Ex_opsNil]; exact hK _ _ _ h
 | sg :: s, l, rows, low, h => segQ_ok hS (fun l rows low h => segsQ_ok hK s l rows low h) h
omit hS in
theorem leave_ok' {j : Option Jump} {l : List (Nat × AV)} {rows : List Row} {low : Nat} {r : AV × List Row × Nat} (h : leaveD ns cx j l rows low = some r) : leaveV cx j ⟨mk ns l, rows, low⟩ = some r := by rw [leaveD_ok]; exact h
theorem codeQ_ok {c : ICode} {l : List (Nat × AV)} {rows : List Row} {low : Nat} {r : AV × List Row × Nat} (h : codeQ F ex ns cx c k l rows low = some r) : Ex F cx (.code c :: k) ⟨mk ns l, rows, low⟩ fun q => q = r := by
 cases c with
 | skip => rw [Ex_skip]; exact hS _ _ _ _ _ _ _ h
 | ret => rw [Ex_ret]; exact ⟨r, leave_ok' h, rfl⟩
 |
  exit id =>
  rw [Ex_exit]
  have h : exitQ ex ns cx id k l rows low = some r := h
  unfold exitQ at h
  split at h
  ·rename_i k' e; rw [e]; exact hS _ _ _ _ _ _ _ h
  ·rename_i e; rw [e]; exact ⟨r, leave_ok' h, rfl⟩
 | seq a b => rw [Ex_seq]; exact hS _ _ _ _ _ _ _ h
 |
  cond c a b =>
  rw [Ex_cond]
  have h : condQ ex ns cx c a b k l rows low = some r := h
  unfold condQ at h
  rw [gK_eq] at h
  split at h
  ·rename_i t e
   refine ⟨t, by rw [gO_ok]; exact e, ?_⟩
   cases t
   ·exact hS _ _ _ _ _ _ _ h
   ·exact hS _ _ _ _ _ _ _ h
  ·simp at h
 | block id c => rw [Ex_block]; exact hS _ _ _ _ _ _ _ h
 | loop c => rw [Ex_loop]; exact hS _ _ _ _ _ _ _ h
 | scope c => rw [Ex_scope]; exact hS _ _ _ _ _ _ _ h
 | ops s => rw [Ex_ops]; exact segsQ_ok hS (fun l rows low h => hS _ _ _ _ _ _ _ h) s l rows low h
 |
  rf f ps asg body =>
  have h : rfQ F ex ns cx f ps asg body k l rows low = some r := h
  unfold rfQ at h
  rw [Ex_rf]
  cases hb : rfOk cx rows with
  | false => rw [hb] at h; simp at h
  |
   true =>
   rw [hb, bq_true] at h
   refine ⟨rfl, ?_⟩
   split at h
   ·rename_i fid vs ht
    refine ⟨(fid, vs), by rw [gO_ok]; exact ht, ?_⟩
    simp only [frcR_eq, pushQ_eq, frcWs_eq] at h
    split at h
    ·rename_i v rows' d hx
     refine ⟨_, callF_ok hS _ _ _ _ hx, ?_⟩
     split at h
     ·rename_i k0 rows2 low2 ha
      simp only [spQ_eq, qN_eq] at h
      exact ⟨_, ha, hS _ _ _ _ _ _ _ h⟩
     ·simp at h
    ·simp at h
   ·simp at h
 |
  kill m ks c =>
  have h : bq (Nat.beq m ns) (onlyQ l ks fun l => ex ns cx (.code c :: k) l rows low) none = some r := h
  rw [Ex_kill]
  cases hb : Nat.beq m ns with
  | false => rw [hb] at h; simp at h
  |
   true =>
   rw [hb, bq_true, onlyQ_eq] at h
   have hm := Nat.eq_of_beq_eq_true hb
   subst hm
   rw [kill_dead]
   exact hS _ _ _ _ _ _ _ h
 | stop => have h : (none : RR) = some r := h; simp at h
theorem stepQ_ok : SD F (stepQ F ex) := by
 intro ns cx k l rows low r h
 cases k with
 | nil => rw [Ex_nil]; exact ⟨r, leave_ok' h, rfl⟩
 |
  cons x k =>
  cases x with
  | code c => exact codeQ_ok hS h
  | inBlock id => rw [Ex_inBlock]; exact hS _ _ _ _ _ _ _ h
  | inLoop c => rw [Ex_inLoop]; exact hS _ _ _ _ _ _ _ h
  | inScope c => rw [Ex_inScope]; exact hS _ _ _ _ _ _ _ h
  | ops s => exact segsQ_ok hS (fun l rows low h => hS _ _ _ _ _ _ _ h) s l rows low h
  |
   rfBegin =>
   have h2 : begQ ex ns cx k l rows low = some r := h
   clear h
   unfold begQ at h2
   split at h2
   ·rename_i id
    rw [rowK_eq] at h2
    cases hr : rows[id]? with
    | none => rw [hr] at h2; simp at h2
    |
     some w =>
     rw [hr] at h2
     simp only [Option.bind_some] at h2
     split at h2
     ·rename_i pd sl ps asg body
      simp only [setQ_eq, qN_eq] at h2
      rw [Ex_rfBegin]
      exact ⟨_, _, _, _, _, hr, hS _ _ _ _ _ _ _ h2⟩
     ·simp at h2
   ·simp at h2
end
theorem execQ_ok (F : Nat → Option IFn) : ∀ n, SD F (execQ F n)
 |
  0 => fun ns cx k l rows low r h => by
  have h : (none : RR) = some r := h
  simp at h
 | n + 1 => stepQ_ok (execQ_ok F n)
theorem Ret_Q {F : Nat → Option IFn} {n f : Nat} {vs : List AV} {rows : List Row} {q : AV × List Row × Option Nat} (h : cQ F n f vs rows = some q) : Ret F f vs rows = some q := callF_ok (execQ_ok F n) _ _ _ _ h
def okQ : Option (AV × List Row × Option Nat) → Bool
 | some (.bool true, _, none) => true
 | _ => false
theorem fin_true {rows rows' R : List Row} {v : AV} {low : Nat} (h : fin rows v rows' low = (.bool true, R, none)) : R = rows := by
 unfold fin at h
 split at h
 ·split at h
  ·simp only [Prod.mk.injEq] at h
   exact h.2.1.symm
  ·rename_i hn
   split at h
   ·split at h
    ·split at h
     ·simp only [Prod.mk.injEq] at h
      cases v <;> simp_all [AV.ids, AV.ids.idsL, AV.ren1, AV.ren]
     ·simp only [Prod.mk.injEq] at h
      obtain ⟨rfl, _⟩ := h
      simp [AV.ids] at hn
    ·simp only [Prod.mk.injEq] at h
     obtain ⟨rfl, _⟩ := h
     simp [AV.ids] at hn
   ·simp only [Prod.mk.injEq] at h
    obtain ⟨rfl, _⟩ := h
    simp [AV.ids] at hn
 ·simp at h
theorem Ret_okQ {F : Nat → Option IFn} {n f : Nat} {vs : List AV} {rows : List Row} (h : okQ (cQ F n f vs rows) = true) : Ret F f vs rows = some (.bool true, rows, none) := by
 unfold okQ at h
 split at h
 ·rename_i R e
  have e2 := Ret_Q e
  obtain ⟨m, hm⟩ := Ret_iff.1 e2
  unfold cF callBy at hm
  split at hm
  ·unfold callR at hm
   split at hm
   ·injection hm with hm
    rw [fin_true hm] at e2
    exact e2
   ·simp at hm
  ·simp at hm
 ·simp at h
end Go.Abs

set_option maxRecDepth 100000
namespace Go.Abs
theorem awT : okQ (cQ F 20000 19 [] gRows) = true := by kernel_rfl
theorem awake_g : Ret F 19 [] gRows = some (.bool true, gRows, none) := Ret_okQ awT
end Go.Abs

namespace Go.Abs
structure Sh where
 g : Nat
 X : List Row
namespace Sh
variable (S : Sh)
def n (i : Nat) : Nat := if i < S.g then i else i + S.X.length
def v : AV → AV
 | .ptr id off => .ptr (S.n id) off
 | .slice id off len c => .slice (S.n id) off len c
 | .map id => .map (S.n id)
 | .yield id => .yield (S.n id)
 | .func f cs => .func f (vL cs)
 | .iface t x => .iface t (v x)
 | .agg l => .agg (vL l)
 | .tup l => .tup (vL l)
 | x => x
where vL : List AV → List AV
 | [] => []
 | x :: l => v x :: vL l
theorem vL_map : ∀ l : List AV, v.vL S l = l.map S.v
 | [] => rfl
 | x :: l => by simp [v.vL, vL_map l]
theorem v_func (f : Nat) (cs : List AV) : S.v (.func f cs) = .func f (cs.map S.v) := by simp [v, vL_map]
theorem v_agg (l : List AV) : S.v (.agg l) = .agg (l.map S.v) := by simp [v, vL_map]
theorem v_tup (l : List AV) : S.v (.tup l) = .tup (l.map S.v) := by simp [v, vL_map]
theorem n_lt {i j : Nat} : S.n i < S.n j ↔ i < j := by unfold n; split <;> split <;> omega
theorem n_inj {i j : Nat} : S.n i = S.n j ↔ i = j := by unfold n; split <;> split <;> omega
theorem n_ge {i : Nat} (h : S.g ≤ i) : S.n i = i + S.X.length := by unfold n; rw [if_neg (by omega)]
theorem n_lo {i : Nat} (h : i < S.g) : S.n i = i := by unfold n; rw [if_pos h]
mutual
theorem ids : ∀ x : AV, (S.v x).ids = x.ids.map S.n
 | .ptr .. => by simp [v, AV.ids]
 | .slice .. => by simp [v, AV.ids]
 | .map .. => by simp [v, AV.ids]
 | .yield .. => by simp [v, AV.ids]
 | .func f cs => by simp only [v, AV.ids]; exact idsL cs
 | .iface t x => by simp only [v, AV.ids]; exact ids x
 | .agg l => by simp only [v, AV.ids]; exact idsL l
 | .tup l => by simp only [v, AV.ids]; exact idsL l
 | .bool _ => by simp [v, AV.ids]
 | .int .. => by simp [v, AV.ids]
 | .str _ => by simp [v, AV.ids]
 | .nilptr => by simp [v, AV.ids]
 | .nilslice => by simp [v, AV.ids]
 | .nilmap => by simp [v, AV.ids]
 | .nilfunc => by simp [v, AV.ids]
 | .niliface => by simp [v, AV.ids]
 | .any => by simp [v, AV.ids]
theorem idsL : ∀ l : List AV, AV.ids.idsL (v.vL S l) = (AV.ids.idsL l).map S.n
 | [] => by simp [v.vL, AV.ids.idsL]
 | x :: l => by simp only [v.vL, AV.ids.idsL, List.map_append, ids x, idsL l]
end
@[simp] theorem one (x : AV) : (S.v x).one = x.one := by cases x <;> simp [v, AV.one]
@[simp] theorem cells (x : AV) : (S.v x).cells = x.cells.map S.v := by cases x <;> simp [v, AV.cells, vL_map]
theorem all_one (l : List AV) : (l.map S.v).all AV.one = l.all AV.one := by simp [List.all_map, Function.comp_def]

def o : Opd → Opd
 | .t i => .t i
 | .c x => .c (S.v x)
def oo (x : Option Opd) : Option Opd := x.map S.o
def ps (l : List (Nat × Nat × Opd)) : List (Nat × Nat × Opd) := l.map fun p => (p.1, p.2.1, S.o p.2.2)
def i : IOp → IOp
 | .mv x => .mv (S.o x)
 | .pick c a b => .pick (S.o c) (S.o a) (S.o b)
 | .box x => .box (S.o x)
 | .load1 a => .load1 (S.o a)
 | .loadN k a => .loadN k (S.o a)
 | .store1 a x => .store1 (S.o a) (S.o x)
 | .storeN k a x => .storeN k (S.o a) (S.o x)
 | .nilck x => .nilck (S.o x)
 | .bin op x y => .bin op (S.o x) (S.o y)
 | .eqv neg kd x y => .eqv neg kd (S.o x) (S.o y)
 | .un op x => .un op (S.o x)
 | .conv k x => .conv k (S.o x)
 | .part1 off x => .part1 off (S.o x)
 | .partN off k x => .partN off k (S.o x)
 | .idxV len sz ag x j => .idxV len sz ag (S.o x) (S.o j)
 | .fieldA off x => .fieldA off (S.o x)
 | .idxA len sz x j => .idxA len sz (S.o x) (S.o j)
 | .idxS sz x j => .idxS sz (S.o x) (S.o j)
 | .mkagg zero l => .mkagg (zero.map S.v) (S.ps l)
 | .mkslice len zero l => .mkslice len (zero.map S.v) (S.ps l)
 | .make zero b l c => .make (zero.map S.v) b (S.o l) (S.o c)
 | .sliceS sz x lo hi mx => .sliceS sz (S.o x) (S.oo lo) (S.oo hi) (S.oo mx)
 | .sliceA k sz x lo hi mx => .sliceA k sz (S.o x) (S.oo lo) (S.oo hi) (S.oo mx)
 | .mkfn f cs => .mkfn f (cs.map S.o)
 | .bind f cs => .bind f (cs.map S.o)
 | .mkmap => .mkmap
 | .look z ok m k => .look (S.v z) ok (S.o m) (S.o k)
 | .mset m k x => .mset (S.o m) (S.o k) (S.o x)
 | .lenc k => .lenc k
 | .len kd x => .len kd (S.o x)
 | .cap x => .cap (S.o x)
 | .mx xs => .mx (xs.map S.o)
 | .mn xs => .mn (xs.map S.o)
 | .app sz b s x => .app sz b (S.o s) (S.o x)
 | .appz z s x => .appz (z.map S.v) (S.o s) (S.o x)
 | .ext x j => .ext (S.o x) j
 | .mkif t x => .mkif t (S.o x)
 | .call tab f args => .call tab (S.o f) (args.map S.o)
 | .bad => .bad
def x (a : IOpx) : IOpx := ⟨a.dst, S.i a.op, a.g⟩
def gl (l : List (IOpx × Nat)) : List (IOpx × Nat) := l.map fun p => (S.x p.1, p.2)
def s : Seg → Seg
 | .one a => .one (S.x a)
 | .grp l => .grp (S.gl l)
 | .grpw a y k b l => .grpw (S.o a) (S.o y) k b (S.gl l)
 | .stop => .stop
def c : ICode → ICode
 | .skip => .skip
 | .ret => .ret
 | .exit id => .exit id
 | .seq a b => .seq (c a) (c b)
 | .cond y a b => .cond (S.o y) (c a) (c b)
 | .block id a => .block id (c a)
 | .loop a => .loop (c a)
 | .scope a => .scope (c a)
 | .ops l => .ops (l.map S.s)
 | .rf f pl a b => .rf (S.o f) pl (c a) (c b)
 | .kill m l a => .kill m l (c a)
 | .stop => .stop
def t : Itm → Itm
 | .code a => .code (S.c a)
 | .inBlock id => .inBlock id
 | .inLoop a => .inLoop (S.c a)
 | .inScope a => .inScope (S.c a)
 | .ops l => .ops (l.map S.s)
 | .rfBegin => .rfBegin
def e (p : AV × AV) : AV × AV := (S.v p.1, S.v p.2)
def r : Row → Row
 | .cells vs => .cells (vs.map S.v)
 | .ro vs => .ro (vs.map S.v)
 | .mp es => .mp (es.map S.e)
 | .loop st pend sl pl asg body => .loop st pend (sl.map S.v) pl (S.c asg) (S.c body)
 | .mark => .mark
 | .dead => .dead
def h (rows : List Row) : List Row := (rows.take S.g).map S.r ++ S.X ++ (rows.drop S.g).map S.r
def x3 (q : AV × List Row × Nat) : AV × List Row × Nat := (S.v q.1, S.h q.2.1, S.n q.2.2)
def x3o (q : AV × List Row × Option Nat) : AV × List Row × Option Nat := (S.v q.1, S.h q.2.1, q.2.2.map S.n)

variable {S}
theorem h_len {rows : List Row} (hg : S.g ≤ rows.length) : (S.h rows).length = S.n rows.length := by
 rw [S.n_ge hg]
 simp [h]
 omega
theorem h_get {rows : List Row} (hg : S.g ≤ rows.length) (id : Nat) : (S.h rows)[S.n id]? = (rows[id]?).map S.r := by
 unfold h
 have hl : ((rows.take S.g).map S.r).length = S.g := by simp; omega
 by_cases hid : id < S.g
 ·rw [S.n_lo hid, List.append_assoc, List.getElem?_append_left (by omega), List.getElem?_map, List.getElem?_take, if_pos hid]
 ·rw [S.n_ge (by omega), List.getElem?_append_right (by simp; omega), List.getElem?_map, List.getElem?_drop]
  simp only [List.length_append, hl]
  congr 2
  omega
theorem h_set {rows : List Row} (hg : S.g ≤ rows.length) (id : Nat) (x : Row) : (S.h rows).set (S.n id) (S.r x) = S.h (rows.set id x) := by
 unfold h
 have hl : ((rows.take S.g).map S.r).length = S.g := by simp; omega
 by_cases hid : id < S.g
 ·rw [S.n_lo hid, List.append_assoc, List.set_append_left _ _ (by omega), ← List.map_set, List.take_set, List.drop_set_of_lt hid, List.append_assoc]
 ·rw [S.n_ge (by omega), List.set_append_right _ _ (by simp; omega), ← List.map_set]
  simp only [List.length_append, hl]
  rw [List.take_set_of_le (by omega), List.drop_set, if_neg (by omega)]
  congr 3
  omega
theorem h_app {rows L : List Row} (hg : S.g ≤ rows.length) : S.h (rows ++ L) = S.h rows ++ L.map S.r := by
 unfold h
 rw [List.take_append_of_le_length hg, List.drop_append_of_le_length hg, List.map_append]
 simp only [List.append_assoc]
theorem h_row? {rows : List Row} (hg : S.g ≤ rows.length) (id : Nat) : row? (S.h rows) (S.n id) = (row? rows id).map (·.map S.v) := by
 unfold row?
 rw [h_get hg]
 cases rows[id]? with
 | none => rfl
 | some y => cases y <;> rfl

variable (S)
theorem getO_ok (sl : List AV) (x : Opd) : getO (sl.map S.v) (S.o x) = S.v (getO sl x) := by
 cases x with
 |
  t i =>
  simp only [o, getO, List.getD_eq_getElem?_getD, List.getElem?_map]
  cases sl[i]? <;> simp [v]
 | c y => rfl
theorem seg_ok (l : List AV) (a b : Nat) : seg (l.map S.v) a b = (seg l a b).map (·.map S.v) := by
 unfold seg
 rw [List.length_map]
 split <;> simp
theorem splice_ok (l m : List AV) (a : Nat) : splice (l.map S.v) a (m.map S.v) = (splice l a m).map S.v := by simp [splice]
theorem fill_ok {gg gg' : Opd → AV} (hgg : ∀ x, gg' (S.o x) = S.v (gg x)) : ∀ (l : List (Nat × Nat × Opd)) (cs : List AV), fillA gg' (S.ps l) (cs.map S.v) = (fillA gg l cs).map (·.map S.v)
 | [], cs => rfl
 |
  (a, b, x) :: l, cs => by
  simp only [ps, List.map_cons, fillA, hgg, cells, List.length_map, all_one]
  split
  ·rw [splice_ok]
   exact fill_ok hgg l _
  ·rfl
theorem bin_ok (op : BinOp) (a b : AV) : binA op (S.v a) (S.v b) = (binA op a b).map S.v := by
 cases a <;> first
  | (simp only [v, binA]; rfl)
  | (cases b <;> first
    | (simp only [v, binA]; rfl)
    | (
      simp only [v, binA]
      split
      ·cases op <;> simp [shiftI] <;> split <;> simp [v]
      ·split
       ·cases op <;> simp only [binI] <;> first | rfl | (split <;> rfl)
       ·rfl))
theorem eqInts_ok : ∀ xs ys : List AV, eqInts (xs.map S.v) (ys.map S.v) = eqInts xs ys
 | [], [] => rfl
 | [], _ :: _ => by simp [eqInts]
 | _ :: _, [] => by simp [eqInts]
 |
  a :: xs, b :: ys => by
  cases a <;> cases b <;> simp only [List.map_cons, v, eqInts]
  rw [eqInts_ok xs ys]
theorem eqIfc_ok (t n t1 t2 : Nat) (a b : AV) : eqIfc t n t1 t2 (S.v a) (S.v b) = eqIfc t n t1 t2 a b := by
 cases a <;> cases b <;> first | rfl | simp only [v, eqIfc]
 simp only [vL_map, List.length_map, eqInts_ok]
theorem eq_ok (kd : EqK) (a b : AV) : eqA kd (S.v a) (S.v b) = eqA kd a b := by
 cases kd <;> cases a <;> cases b <;> first | rfl | simp only [v, eqA]
 ·simp only [vL_map, List.length_map, eqInts_ok]
 ·exact eqIfc_ok S _ _ _ _ _ _
theorem un_ok (op : UnOp) (a : AV) : unA op (S.v a) = (unA op a).map S.v := by
 cases a <;> cases op <;> simp only [v, unA] <;> rfl
theorem fold_ok {f : AV → AV → Option AV} (hf : ∀ a b, f (S.v a) (S.v b) = (f a b).map S.v) : ∀ (l : List AV) (a : AV), foldA f (S.v a) (l.map S.v) = (foldA f a l).map S.v
 | [], a => rfl
 |
  x :: l, a => by
  simp only [List.map_cons, foldA, hf]
  cases f a x with
  | none => rfl
  | some b => exact fold_ok hf l b
theorem mx_ok (a b : AV) : mxA (S.v a) (S.v b) = (mxA a b).map S.v := by
 cases a <;> cases b <;> first | rfl | (simp only [v, mxA]; split <;> rfl)
theorem mn_ok (a b : AV) : mnA (S.v a) (S.v b) = (mnA a b).map S.v := by
 cases a <;> cases b <;> first | rfl | (simp only [v, mnA]; split <;> rfl)
theorem bound_ok (y : Option AV) (d k : Nat) : bound? (y.map S.v) d k = bound? y d k := by
 cases y with
 | none => rfl
 | some a => cases a <;> rfl
theorem slice_ok (sz : Nat) (a : AV) (lo hi mx : Option AV) : sliceV sz (S.v a) (lo.map S.v) (hi.map S.v) (mx.map S.v) = (sliceV sz a lo hi mx).map S.v := by
 have e1 : ∀ y : Option AV, (y.map S.v).isSome = y.isSome := fun y => by cases y <;> rfl
 have e2 : ∀ y : Option AV, (y.map S.v).isNone = y.isNone := fun y => by cases y <;> rfl
 cases a <;> try rfl
 case slice id off len cp =>
  cases cp with
  |
   at_ k =>
   simp only [v, sliceV, bound_ok, e1, e2]
   cases bound? mx k k with
   | none => rfl
   |
    some q =>
    simp only
    cases bound? hi len q with
    | none => rfl
    |
     some w =>
     simp only
     cases bound? lo 0 w with
     | none => rfl
     | some u => simp only; split <;> rfl
  |
   op k =>
   cases mx with
   |
    none =>
    simp only [v, sliceV, bound_ok, e1, e2, Option.map_none]
    cases bound? hi len len with
    | none => rfl
    |
     some w =>
     simp only
     cases bound? lo 0 w with
     | none => rfl
     | some u => simp only; split <;> rfl
   |
    some y =>
    have e3 := bound_ok S (some y) len len
    simp only [Option.map_some] at e3
    simp only [v, sliceV, bound_ok, e1, e2, Option.map_some, e3]
    cases bound? (some y) len len with
    | none => rfl
    |
     some q =>
     simp only
     cases bound? hi len q with
     | none => rfl
     |
      some w =>
      simp only
      cases bound? lo 0 w with
      | none => rfl
      |
       some u =>
       simp only
       by_cases z1 : hi.isNone = true
       ·simp [z1]
       ·by_cases z2 : k = sz <;> simp [z1, z2, v]
 case nilslice =>
  simp only [v, sliceV, bound_ok, e1, e2]
  cases bound? mx 0 0 <;> cases bound? hi 0 0 <;> cases bound? lo 0 0 <;> simp only <;> first | rfl | (split <;> rfl)
theorem key_ok (a b : AV) : keyEq (S.v a) (S.v b) = keyEq a b := by cases a <;> cases b <;> rfl
theorem find_ok (k : AV) : ∀ (es : List (AV × AV)) (j : Nat), findK (S.v k) (es.map S.e) j = (findK k es j).map fun q => q.map fun p => (p.1, S.v p.2)
 | [], j => rfl
 |
  p :: es, j => by
  simp only [List.map_cons, findK, e, key_ok]
  cases keyEq k p.1 with
  | none => rfl
  |
   some b =>
   cases b
   ·exact find_ok k es (j + 1)
   ·rfl
end Sh
end Go.Abs
namespace Go.Abs
namespace Sh
variable (S : Sh)
theorem map_ok {gg gg' : Opd → AV} (hgg : ∀ y, gg' (S.o y) = S.v (gg y)) (l : List Opd) : (l.map S.o).map gg' = (l.map gg).map S.v := by
 simp [hgg, Function.comp_def]
theorem mapo_ok {gg gg' : Opd → AV} (hgg : ∀ y, gg' (S.o y) = S.v (gg y)) (l : Option Opd) : (S.oo l).map gg' = (l.map gg).map S.v := by
 cases l <;> simp [oo, hgg]
theorem evalP_ok {gg gg' : Opd → AV} (hgg : ∀ y, gg' (S.o y) = S.v (gg y)) {rows : List Row} (hg : S.g ≤ rows.length) (op : IOp) : evalP (S.h rows) gg' (S.i op) = (evalP rows gg op).map S.v := by
 cases op with
 | mv y => simp only [i, evalP, hgg, Option.map_some]
 |
  pick y a b =>
  simp only [i, evalP, hgg]
  cases gg y <;> try rfl
  simp only [v, Option.map_some]; split <;> rfl
 |
  load1 a =>
  simp only [i, evalP, hgg]
  cases gg a <;> try rfl
  simp only [v, h_row? hg]
  cases row? rows _ with
  | none => rfl
  | some vs => simp
 |
  loadN k a =>
  simp only [i, evalP, hgg]
  cases gg a <;> try rfl
  simp only [v, h_row? hg]
  cases row? rows _ with
  | none => rfl
  |
   some vs =>
   simp only [Option.map_some, seg_ok]
   cases seg vs _ _ <;> simp [v_agg]
 |
  nilck y =>
  simp only [i, evalP, hgg]
  cases gg y <;> rfl
 | bin op a b => simp only [i, evalP, hgg, bin_ok]
 |
  eqv neg kd a b =>
  simp only [i, evalP, hgg, eq_ok]
  cases eqA kd (gg a) (gg b) <;> rfl
 | un op a => simp only [i, evalP, hgg, un_ok]
 |
  conv k a =>
  simp only [i, evalP, hgg]
  cases gg a <;> rfl
 |
  part1 off a =>
  simp only [i, evalP, hgg]
  cases gg a <;> try rfl
  simp [v_agg]
 |
  partN off k a =>
  simp only [i, evalP, hgg]
  cases gg a <;> try rfl
  simp only [v_agg, seg_ok]
  cases seg _ off k <;> simp [v_agg]
 |
  idxV len sz ag a j =>
  simp only [i, evalP, hgg]
  cases gg a <;> try rfl
  cases gg j <;> try rfl
  simp only [v_agg, v, vL_map]
  cases idx? _ len with
  | none => rfl
  |
   some q =>
   simp only
   split
   ·rw [seg_ok]; cases seg _ _ _ <;> simp [v_agg]
   ·simp
 |
  fieldA off a =>
  simp only [i, evalP, hgg]
  cases gg a <;> rfl
 |
  idxA len sz a j =>
  simp only [i, evalP, hgg]
  cases gg a <;> try rfl
  cases gg j <;> try rfl
  simp only [v]
  cases idx? _ len <;> rfl
 |
  idxS sz a j =>
  simp only [i, evalP, hgg]
  cases gg a <;> try rfl
  cases gg j <;> try rfl
  simp only [v]
  cases idx? _ _ <;> rfl
 |
  mkagg z l =>
  simp only [i, evalP, fill_ok S hgg]
  cases fillA gg l z <;> simp [v_agg]
 | sliceS sz a lo hi mx => simp only [i, evalP, hgg, mapo_ok S hgg, slice_ok]
 |
  sliceA k sz a lo hi mx =>
  simp only [i, evalP, hgg, mapo_ok S hgg]
  cases gg a <;> try rfl
  rename_i id off
  exact slice_ok S sz (.slice id off k (.at_ k)) (lo.map gg) (hi.map gg) (mx.map gg)
 | mkfn f cs => simp only [i, evalP, map_ok S hgg, Option.map_some, v_func]
 | bind f cs => simp only [i, evalP, map_ok S hgg, Option.map_some, v, vL_map, List.map_cons]
 |
  look z ok a b =>
  simp only [i, evalP, hgg]
  cases gg a <;> try rfl
  ·rename_i id
   simp only [v, h_get hg]
   cases rows[id]? with
   | none => rfl
   |
    some y =>
    cases y <;> try rfl
    simp only [Option.map_some, r, find_ok]
    cases findK (gg b) _ 0 with
    | none => rfl
    |
     some q =>
     cases q with
     | none => simp only [Option.map_some, Option.map_none]; cases ok <;> simp [v_tup, v]
     | some p => simp only [Option.map_some]; cases ok <;> simp [v_tup, v]
  ·simp only [v, key_ok]
   cases keyEq (gg b) (gg b) with
   | none => rfl
   | some q => simp only; cases ok <;> simp [v, vL_map]
 | lenc k => rfl
 |
  len kd a =>
  simp only [i, evalP, hgg]
  cases gg a <;> (try (rcases kd with _ | _ | _ | kd <;> rfl))
  rcases kd with _ | _ | _ | kd <;> try rfl
  rename_i id
  simp only [v, h_get hg]
  cases rows[id]? with
  | none => rfl
  | some y => cases y <;> simp [r, v]
 |
  cap a =>
  simp only [i, evalP, hgg]
  cases gg a <;> try rfl
  rename_i c
  cases c <;> rfl
 |
  mx xs =>
  simp only [i, evalP, map_ok S hgg]
  cases xs.map gg with
  | nil => rfl
  | cons a l => exact fold_ok S (mx_ok S) l a
 |
  mn xs =>
  simp only [i, evalP, map_ok S hgg]
  cases xs.map gg with
  | nil => rfl
  | cons a l => exact fold_ok S (mn_ok S) l a
 |
  ext a j =>
  simp only [i, evalP, hgg]
  cases gg a <;> try rfl
  simp [v_tup]
 | mkif ty a => simp [i, evalP, hgg, v]
 | _ => rfl

theorem lower_ok (low id : Nat) : lower (S.n low) (S.n id) = S.n (lower low id) := by
 unfold lower
 by_cases h : id < low
 ·rw [if_pos h, if_pos (S.n_lt.2 h)]
 ·rw [if_neg h, if_neg (fun e => h (S.n_lt.1 e))]
theorem elems_ok {rows : List Row} (hg : S.g ≤ rows.length) (sz : Nat) (a : AV) : elems (S.h rows) sz (S.v a) = (elems rows sz a).map fun p => (p.1.map S.v, p.2) := by
 cases a <;> try rfl
 simp only [v, elems, h_row? hg]
 cases row? rows _ with
 | none => rfl
 |
  some vs =>
  simp only [Option.map_some, seg_ok]
  cases seg vs _ _ <;> simp
theorem rep_ok (k : Nat) (z : List AV) : (List.replicate k (z.map S.v)).flatten = ((List.replicate k z).flatten).map S.v := by
 induction k with
 | zero => rfl
 | succ k ih => rw [List.replicate_succ, List.replicate_succ, List.flatten_cons, List.flatten_cons, ih, List.map_append]
theorem cells_ok (l : List AV) : S.r (.cells l) = .cells (l.map S.v) := rfl
theorem tup0 : S.v (.tup []) = .tup [] := by rw [v_tup]; rfl

theorem evalE_ok {gg gg' : Opd → AV} (hgg : ∀ y, gg' (S.o y) = S.v (gg y)) {rows : List Row} (hg : S.g ≤ rows.length) (low : Nat) (op : IOp) : evalE gg' (S.h rows) (S.n low) (S.i op) = (evalE gg rows low op).map S.x3 ∧ ∀ q, evalE gg rows low op = some q → rows.length ≤ q.2.1.length := by
 have hP : ∀ op : IOp, (evalP (S.h rows) gg' (S.i op)).map (fun w => (w, S.h rows, S.n low)) = ((evalP rows gg op).map fun w => (w, rows, low)).map S.x3 := by
  intro op
  rw [evalP_ok S hgg hg]
  cases evalP rows gg op <;> rfl
 have hP2 : ∀ op : IOp, ∀ q, ((evalP rows gg op).map fun w => (w, rows, low)) = some q → rows.length ≤ q.2.1.length := by
  intro op q e
  rw [Option.map_eq_some_iff] at e
  obtain ⟨w, _, rfl⟩ := e
  exact Nat.le_refl _
 have hlen : (S.h rows).length = S.n rows.length := h_len hg
 cases op with
 |
  box y =>
  simp only [i, evalE, hgg, cells, all_one]
  by_cases h1 : (gg y).cells.all AV.one = true
  ·rw [if_pos h1, if_pos h1]
   refine ⟨?_, fun q e => ?_⟩
   ·simp only [Option.map_some, x3, v, hlen, h_app hg, List.map_cons, List.map_nil, cells_ok, List.map_append]
   ·injection e with e; subst e; simp
  ·rw [if_neg h1, if_neg h1]
   exact ⟨rfl, fun q e => by simp at e⟩
 |
  store1 a y =>
  simp only [i, evalE, hgg]
  cases gg a <;> try exact ⟨rfl, fun q e => by simp at e⟩
  rename_i id off
  simp only [v, h_get hg]
  cases hr : rows[id]? with
  | none => exact ⟨rfl, fun q e => by simp at e⟩
  |
   some w =>
   cases w <;> try exact ⟨rfl, fun q e => by simp at e⟩
   rename_i vs
   simp only [Option.map_some, r, List.length_map, one]
   by_cases h1 : off < vs.length ∧ (gg y).one = true
   ·rw [if_pos h1, if_pos h1]
    refine ⟨?_, fun q e => ?_⟩
    ·simp only [Option.map_some, x3, tup0, lower_ok, ← h_set hg, cells_ok, List.map_set]
    ·injection e with e; subst e; simp
   ·rw [if_neg h1, if_neg h1]
    exact ⟨rfl, fun q e => by simp at e⟩
 |
  storeN k a y =>
  simp only [i, evalE, hgg]
  cases gg a <;> try exact ⟨rfl, fun q e => by simp at e⟩
  rename_i id off
  cases gg y <;> try exact ⟨rfl, fun q e => by simp at e⟩
  rename_i l
  simp only [v, vL_map, h_get hg]
  cases hr : rows[id]? with
  | none => exact ⟨rfl, fun q e => by simp at e⟩
  |
   some w =>
   cases w <;> try exact ⟨rfl, fun q e => by simp at e⟩
   rename_i vs
   simp only [Option.map_some, r, List.length_map, all_one]
   by_cases h1 : l.length = k ∧ off + k ≤ vs.length ∧ l.all AV.one = true
   ·rw [if_pos h1, if_pos h1]
    refine ⟨?_, fun q e => ?_⟩
    ·simp only [Option.map_some, x3, tup0, lower_ok, ← h_set hg, cells_ok, splice_ok]
    ·injection e with e; subst e; simp
   ·rw [if_neg h1, if_neg h1]
    exact ⟨rfl, fun q e => by simp at e⟩
 |
  mkslice k z l =>
  simp only [i, evalE, fill_ok S hgg]
  cases fillA gg l z with
  | none => exact ⟨rfl, fun q e => by simp at e⟩
  |
   some cs =>
   refine ⟨?_, fun q e => ?_⟩
   ·simp only [Option.map_some, x3, v, hlen, h_app hg, List.map_cons, List.map_nil, cells_ok, List.map_append]
   ·simp only [Option.some.injEq] at e; subst e; simp
 |
  make z b l cp =>
  simp only [i, evalE, hgg]
  cases gg l <;> try exact ⟨rfl, fun q e => by simp at e⟩
  cases gg cp <;> try exact ⟨rfl, fun q e => by simp at e⟩
  simp only [v]
  split
  ·refine ⟨?_, fun q e => ?_⟩
   ·simp only [Option.map_some, x3, v, hlen, h_app hg, List.map_cons, List.map_nil, cells_ok, rep_ok]
   ·injection e with e; subst e; simp
  ·exact ⟨rfl, fun q e => by simp at e⟩
 |
  appz z a y =>
  simp only [i, evalE, hgg]
  cases gg a <;> try exact ⟨rfl, fun q e => by simp at e⟩
  cases gg y <;> try exact ⟨rfl, fun q e => by simp at e⟩
  simp only [v]
  split
  ·refine ⟨?_, fun q e => ?_⟩
   ·simp only [Option.map_some, x3, v, hlen, h_app hg, List.map_cons, List.map_nil, cells_ok, rep_ok]
   ·injection e with e; subst e; simp
  ·exact ⟨rfl, fun q e => by simp at e⟩
 |
  mkmap =>
  refine ⟨?_, fun q e => ?_⟩
  ·simp [i, evalE, x3, v, hlen, h_app hg, r]
  ·simp only [evalE, Option.some.injEq] at e; subst e; simp
 |
  mset a k y =>
  simp only [i, evalE, hgg]
  cases gg a <;> try exact ⟨rfl, fun q e => by simp at e⟩
  rename_i id
  simp only [v, h_get hg]
  cases hr : rows[id]? with
  | none => exact ⟨rfl, fun q e => by simp at e⟩
  |
   some w =>
   cases w <;> try exact ⟨rfl, fun q e => by simp at e⟩
   rename_i es
   simp only [Option.map_some, r, find_ok]
   cases findK (gg k) es 0 with
   | none => exact ⟨rfl, fun q e => by simp at e⟩
   |
    some q =>
    cases q with
    |
     none =>
     simp only [Option.map_some, Option.map_none, key_ok]
     split
     ·refine ⟨?_, fun q e => ?_⟩
      ·simp only [Option.map_some, x3, tup0, lower_ok, ← h_set hg, r, List.map_append, List.map_cons, List.map_nil, Sh.e]
      ·injection e with e; subst e; simp
     ·exact ⟨rfl, fun q e => by simp at e⟩
    |
     some p =>
     obtain ⟨j, w⟩ := p
     simp only [Option.map_some]
     refine ⟨?_, fun q e => ?_⟩
     ·simp only [x3, tup0, lower_ok, ← h_set hg, r, List.map_set, Sh.e]
     ·injection e with e; subst e; simp
 |
  app sz b a y =>
  simp only [i, evalE, hgg, elems_ok S hg]
  cases elems rows sz (gg y) with
  | none => exact ⟨rfl, fun q e => by simp at e⟩
  |
   some p =>
   obtain ⟨ys, m⟩ := p
   simp only [Option.map_some]
   by_cases hm : m = 0
   ·rw [if_pos hm, if_pos hm]
    cases hga : gg a with
    | nilslice => exact ⟨rfl, fun q e => by injection e with e; subst e; exact Nat.le_refl _⟩
    | slice => exact ⟨rfl, fun q e => by injection e with e; subst e; exact Nat.le_refl _⟩
    | _ => exact ⟨rfl, fun q e => by simp at e⟩
   ·rw [if_neg hm, if_neg hm]
    by_cases hm2 : lim < m
    ·rw [if_pos hm2, if_pos hm2]; exact ⟨rfl, fun q e => by simp at e⟩
    ·rw [if_neg hm2, if_neg hm2]
     cases gg a <;> try exact ⟨rfl, fun q e => by simp at e⟩
     ·rename_i id off k cp
      cases cp with
      |
       at_ c =>
       simp only [v]
       by_cases h1 : lim < k + m
       ·rw [if_pos h1, if_pos h1]; exact ⟨rfl, fun q e => by simp at e⟩
       ·rw [if_neg h1, if_neg h1]
        by_cases h2 : k + m ≤ c
        ·rw [if_pos h2, if_pos h2, h_get hg]
         cases hr : rows[id]? with
         | none => exact ⟨rfl, fun q e => by simp at e⟩
         |
          some w =>
          cases w <;> try exact ⟨rfl, fun q e => by simp at e⟩
          rename_i vs
          simp only [Option.map_some, r, List.length_map]
          split
          ·refine ⟨?_, fun q e => ?_⟩
           ·simp only [Option.map_some, x3, lower_ok, ← h_set hg, cells_ok, splice_ok, v]
           ·injection e with e; subst e; simp
          ·exact ⟨rfl, fun q e => by simp at e⟩
        ·rw [if_neg h2, if_neg h2, h_row? hg]
         cases row? rows id with
         | none => exact ⟨rfl, fun q e => by simp at e⟩
         |
          some vs =>
          simp only [Option.map_some, seg_ok]
          cases seg vs off (k * sz) with
          | none => exact ⟨rfl, fun q e => by simp at e⟩
          |
           some xs =>
           refine ⟨?_, fun q e => ?_⟩
           ·simp only [Option.map_some, x3, v, hlen, h_app hg, List.map_cons, List.map_nil, cells_ok, List.map_append]
           ·injection e with e; subst e; simp
      |
       op sz' =>
       simp only [v]
       by_cases h1 : lim < k + m ∨ sz' ≠ sz
       ·rw [if_pos h1, if_pos h1]; exact ⟨rfl, fun q e => by simp at e⟩
       ·rw [if_neg h1, if_neg h1, h_get hg]
        cases hr : rows[id]? with
        | none => exact ⟨rfl, fun q e => by simp at e⟩
        |
         some w =>
         cases w <;> try exact ⟨rfl, fun q e => by simp at e⟩
         rename_i vs
         simp only [Option.map_some, r, seg_ok]
         cases seg vs off (k * sz) with
         | none => exact ⟨rfl, fun q e => by simp at e⟩
         |
          some xs =>
          refine ⟨?_, fun q e => ?_⟩
          ·have hg' : S.g ≤ (rows.set id .dead).length := by simpa using hg
           have e1 : (S.h rows).set (S.n id) .dead = S.h (rows.set id .dead) := h_set (S := S) hg id .dead
           simp only [Option.map_some, x3, lower_ok, e1, v, hlen, h_app hg', List.map_cons, List.map_nil, cells_ok, List.map_append]
          ·injection e with e; subst e; simp
     ·refine ⟨?_, fun q e => ?_⟩
      ·simp only [Option.map_some, x3, v, hlen, h_app hg, List.map_cons, List.map_nil, cells_ok, List.map_append]
      ·injection e with e; subst e; simp
 | call f args => exact ⟨rfl, fun q e => by simp [evalE, evalP] at e⟩
 | bad => exact ⟨rfl, fun q e => by simp [evalE, evalP] at e⟩
 | mv y => exact ⟨hP (.mv y), hP2 (.mv y)⟩
 | mkfn f cs => exact ⟨hP (.mkfn f cs), hP2 (.mkfn f cs)⟩
 | bind f cs => exact ⟨hP (.bind f cs), hP2 (.bind f cs)⟩
 | lenc k => exact ⟨hP (.lenc k), hP2 (.lenc k)⟩
 | mkif ty y => exact ⟨hP (.mkif ty y), hP2 (.mkif ty y)⟩
 | _ => exact ⟨hP _, hP2 _⟩
end Sh
end Go.Abs
namespace Go.Abs
namespace Sh
variable (S : Sh)
theorem any_ok : S.v .any = .any := by simp [v]
theorem getT (sl : List AV) (t : Nat) : (sl.map S.v).getD t .any = S.v (sl.getD t .any) := getO_ok S sl (.t t)
theorem h_take {rows : List Row} {b : Nat} (h1 : S.g ≤ b) (h2 : b ≤ rows.length) : (S.h rows).take (S.n b) = S.h (rows.take b) := by
 have hg : S.g ≤ rows.length := by omega
 have e := h_app (S := S) (rows := rows.take b) (L := rows.drop b) (by simp; omega)
 rw [List.take_append_drop] at e
 have hl : (S.h (rows.take b)).length = S.n b := by
  rw [h_len (by simp; omega)]; congr 1; simp; omega
 rw [e, List.take_append_of_le_length (by omega), List.take_of_length_le (by omega)]
theorem h_drop {rows : List Row} {b : Nat} (h1 : S.g ≤ b) (h2 : b ≤ rows.length) : (S.h rows).drop (S.n b) = (rows.drop b).map S.r := by
 have e := h_app (S := S) (rows := rows.take b) (L := rows.drop b) (by simp; omega)
 rw [List.take_append_drop] at e
 have hl : (S.h (rows.take b)).length = S.n b := by
  rw [h_len (by simp; omega)]; congr 1; simp; omega
 rw [e, List.drop_append_of_le_length (by omega), List.drop_of_length_le (by omega), List.nil_append]
theorem lt_ok (b : Nat) (l : List Nat) : (l.map S.n).all (fun i => decide (i < S.n b)) = l.all fun i => decide (i < b) := by
 simp only [List.all_map, Function.comp_def, S.n_lt]
theorem under_ok (b : Nat) (a : AV) : (S.v a).under (S.n b) = a.under b := by
 unfold AV.under
 rw [ids]
 exact lt_ok S b a.ids
theorem underL_ok (b : Nat) (l : List AV) : (l.map S.v).all (AV.under (S.n b)) = l.all (AV.under b) := by
 simp only [List.all_map, Function.comp_def, under_ok]
theorem runder_ok (b : Nat) (y : Row) : (S.r y).under (S.n b) = y.under b := by
 cases y <;> simp only [r, Row.under, underL_ok]
 rename_i es
 simp only [List.all_map, Function.comp_def, Sh.e, under_ok]
theorem runders_ok (b : Nat) (l : List Row) : (l.map S.r).all (Row.under (S.n b)) = l.all (Row.under b) := by
 simp only [List.all_map, Function.comp_def, runder_ok]
theorem under_mono {b b' : Nat} (h : b ≤ b') {a : AV} (ha : a.under b = true) : a.under b' = true := by
 unfold AV.under at *
 rw [List.all_eq_true] at *
 intro x hx
 have := ha x hx
 simp at *
 omega
theorem runder_mono {b b' : Nat} (h : b ≤ b') {y : Row} (hy : y.under b = true) : y.under b' = true := by
 have hL : ∀ l : List AV, l.all (AV.under b) = true → l.all (AV.under b') = true := by
  intro l hl
  rw [List.all_eq_true] at *
  exact fun x hx => under_mono h (hl x hx)
 cases y <;> simp only [Row.under] at * <;> try exact hL _ hy
 rw [List.all_eq_true] at *
 intro x hx
 have := hy x hx
 rw [Bool.and_eq_true] at *
 exact ⟨under_mono h this.1, under_mono h this.2⟩

variable (hX : ∀ y ∈ S.X, y.under (S.g + S.X.length) = true)
include hX in
theorem gc_ok {b low : Nat} {a : AV} {rows : List Row} (h1 : S.g ≤ b) (h2 : b ≤ rows.length) : gc (S.n b) (S.n low) (S.v a) (S.h rows) = S.h (gc b low a rows) ∧ b ≤ (gc b low a rows).length := by
 have hall : (((S.h rows).take (S.n b)).drop (S.n low)).all (Row.under (S.n b)) = ((rows.take b).drop low).all (Row.under b) := by
  rw [h_take S h1 h2]
  have hl : S.g ≤ (rows.take b).length := by simp; omega
  generalize rows.take b = R at hl ⊢
  by_cases hlow : S.g ≤ low
  ·by_cases hlR : low ≤ R.length
   ·rw [h_drop S hlow hlR, runders_ok]
   ·rw [List.drop_of_length_le (by rw [h_len hl, S.n_ge hl, S.n_ge hlow]; omega), List.drop_of_length_le (by omega)]
    rfl
  ·rw [S.n_lo (by omega)]
   unfold h
   rw [List.append_assoc, List.drop_append_of_le_length (by simp; omega), ← List.map_drop, List.all_append, List.all_append, runders_ok, runders_ok]
   have hx : S.X.all (Row.under (S.n b)) = true := by
    rw [List.all_eq_true]
    exact fun y hy => runder_mono (by rw [S.n_ge h1]; omega) (hX y hy)
   rw [hx, Bool.true_and, ← List.all_append]
   congr 1
   rw [← List.drop_append_of_le_length (by simp; omega), List.take_append_drop]
 unfold gc
 rw [under_ok, hall]
 split
 ·rw [h_take S h1 h2]
  exact ⟨rfl, by simp; omega⟩
 ·exact ⟨rfl, h2⟩
theorem plain_ok (a : AV) : (S.v a).plain = a.plain := by
 cases a <;> simp only [v, AV.plain] <;> first
  | rfl
  | (rename_i x; have := ids S (.func _ x); simp only [v] at this; simp [this])
  | skip
 all_goals
  first
  | (rename_i f cs; have e := ids S (.func f cs); simp only [v] at e; rw [e]; simp)
  | (rename_i f cs; have e := ids S (.iface f cs); simp only [v] at e; rw [e]; simp)
  | (rename_i f; have e := ids S (.map f); simp only [v] at e; rw [e]; simp)
  | (rename_i f; have e := ids S (.yield f); simp only [v] at e; rw [e]; simp)
  | (rename_i f; have e := ids S (.agg f); simp only [v] at e; rw [e]; simp)
  | (rename_i f; have e := ids S (.tup f); simp only [v] at e; rw [e]; simp)
theorem ntup {a : AV} (h : ∀ l, a ≠ .tup l) : ∀ l, S.v a ≠ .tup l := by
 intro l
 cases a <;> simp [v]
 exact absurd rfl (h _)
theorem plain1_eq {a : AV} (h : ∀ l, a ≠ .tup l) : a.plain1 = a.plain := by
 cases a <;> first | rfl | exact absurd rfl (h _)
theorem ren1_eq {a : AV} (p q : Nat) (h : ∀ l, a ≠ .tup l) : a.ren1 p q = a.ren p q := by
 cases a <;> first | rfl | exact absurd rfl (h _)
theorem plain1_ok (a : AV) : (S.v a).plain1 = a.plain1 := by
 by_cases ht : ∃ l, a = .tup l
 ·obtain ⟨l, rfl⟩ := ht
  rw [v_tup]; simp only [AV.plain1, List.all_map, Function.comp_def, plain_ok]
 ·have h1 : ∀ l, a ≠ .tup l := fun l e => ht ⟨l, e⟩
  rw [plain1_eq h1, plain1_eq (ntup S h1), plain_ok]
theorem ren_ok (p q : Nat) (a : AV) : (S.v a).ren (S.n p) (S.n q) = S.v (a.ren p q) := by
 cases a <;> simp only [v, AV.ren, S.n_inj] <;> first | rfl | (split <;> rfl)
theorem ren1_ok (p q : Nat) (a : AV) : (S.v a).ren1 (S.n p) (S.n q) = S.v (a.ren1 p q) := by
 by_cases ht : ∃ l, a = .tup l
 ·obtain ⟨l, rfl⟩ := ht
  rw [v_tup]
  simp only [AV.ren1, v_tup, List.map_map]
  congr 1
  apply List.map_congr_left
  intro x _
  exact ren_ok S p q x
 ·have h1 : ∀ l, a ≠ .tup l := fun l e => ht ⟨l, e⟩
  rw [ren1_eq _ _ h1, ren1_eq _ _ (ntup S h1), ren_ok]
include hX in
theorem fin_ok {rows rows' : List Row} {low : Nat} {a : AV} (h1 : S.g ≤ rows.length) (h2 : rows.length ≤ rows'.length) : fin (S.h rows) (S.v a) (S.h rows') (S.n low) = S.x3o (fin rows a rows' low) ∧ rows.length ≤ (fin rows a rows' low).2.1.length := by
 have hlen : (S.h rows).length = S.n rows.length := h_len h1
 unfold fin
 rw [hlen]
 simp only [S.n_inj]
 by_cases hl : low = rows.length
 ·rw [if_pos hl, if_pos hl, ids, lt_ok]
  by_cases ha : (a.ids.all fun x => decide (x < rows.length)) = true
  ·rw [if_pos ha, if_pos ha]
   exact ⟨rfl, Nat.le_refl _⟩
  ·rw [if_neg ha, if_neg ha]
   cases hi : a.ids with
   | nil => exact ⟨rfl, h2⟩
   |
    cons p l =>
    cases l with
    | cons _ _ => exact ⟨rfl, h2⟩
    |
     nil =>
     simp only [List.map_cons, List.map_nil, h_get (Nat.le_trans h1 h2)]
     cases rows'[p]? with
     | none => exact ⟨rfl, h2⟩
     |
      some y =>
      cases y <;> try exact ⟨rfl, h2⟩
      rename_i vs
      simp only [Option.map_some, r, plain1_ok]
      have e : (vs.map S.v).all (fun x => x.ids.isEmpty) = vs.all fun x => x.ids.isEmpty := by
       simp only [List.all_map, Function.comp_def, ids, List.isEmpty_map]
      rw [e]
      split
      ·refine ⟨?_, by simp⟩
       simp only [x3o, ren1_ok, h_app h1, List.map_cons, List.map_nil, cells_ok, Option.map_none]
      ·exact ⟨rfl, h2⟩
 ·rw [if_neg hl, if_neg hl]
  have := gc_ok S hX (low := low) (a := a) h1 h2
  refine ⟨?_, this.2⟩
  simp only [x3o, this.1, Option.map_some]

theorem resV_ok {rows : List Row} (hg : S.g ≤ rows.length) (sl : List AV) (y : RV) : resV (S.h rows) (sl.map S.v) y = (resV rows sl y).map S.v := by
 cases y with
 | t k => simp only [resV, getT, Option.map_some]
 | cell1 k => exact evalP_ok S (getO_ok S sl) hg (.load1 (.t k))
 | cellN k sz => exact evalP_ok S (getO_ok S sl) hg (.loadN sz (.t k))
theorem resVs_ok {rows : List Row} (hg : S.g ≤ rows.length) (sl : List AV) : ∀ l : List RV, resVs (S.h rows) (sl.map S.v) l = (resVs rows sl l).map (·.map S.v)
 | [] => rfl
 |
  y :: l => by
  simp only [resVs, resV_ok S hg, resVs_ok hg sl l]
  cases resV rows sl y <;> cases resVs rows sl l <;> simp
theorem results_ok {rows : List Row} (hg : S.g ≤ rows.length) (sl : List AV) (l : List RV) : results (S.h rows) (sl.map S.v) l = (results rows sl l).map S.v := by
 unfold results
 rw [resVs_ok S hg]
 cases resVs rows sl l with
 | none => rfl
 |
  some q =>
  match q with
  | [] => simp [tup0]
  | [a] => rfl
  | a :: b :: l => simp [v_tup]

def cx : Ctx → Ctx
 | .fn res => .fn res
 | .round id => .round (S.n id)
theorem leave_ok {cx : Ctx} {j : Option Jump} {sl : List AV} {rows : List Row} {low : Nat} (hg : S.g ≤ rows.length) {q : AV × List Row × Nat} (h : leaveV cx j ⟨sl, rows, low⟩ = some q) : leaveV (S.cx cx) j ⟨sl.map S.v, S.h rows, S.n low⟩ = some (S.x3 q) ∧ rows.length ≤ q.2.1.length := by
 cases cx with
 |
  fn res =>
  simp only [leaveV, Sh.cx] at h ⊢
  split at h
  ·simp at h
  ·rename_i hj
   rw [Option.map_eq_some_iff] at h
   obtain ⟨w, hw, rfl⟩ := h
   rw [results_ok S hg, hw]
   exact ⟨rfl, Nat.le_refl _⟩
 |
  round id =>
  simp only [leaveV, Sh.cx] at h ⊢
  rw [h_get hg]
  split at h
  ·rename_i hr
   rw [hr]
   injection h with h
   subst h
   simp only [Option.map_some, r]
   refine ⟨?_, by simp⟩
   simp only [x3, v, lower_ok, ← h_set hg, r]
  ·simp at h

theorem want_ok (sl : List AV) (gd : Option (Nat × Bool)) : want (sl.map S.v) gd = want sl gd := by
 cases gd with
 | none => rfl
 |
  some p =>
  obtain ⟨t, b⟩ := p
  simp only [want, getT]
  generalize sl.getD t AV.any = y
  cases y <;> simp only [v]
  rename_i l
  cases l <;> simp [v.vL]

def CallSh (call call' : CallF) : Prop := ∀ f vs rows q, call f vs rows = some q → S.g ≤ rows.length → call' f (vs.map S.v) (S.h rows) = some (S.x3o q) ∧ rows.length ≤ q.2.1.length

theorem target_ok (a : AV) (args : List AV) : target (S.v a) (args.map S.v) = (target a args).map fun p => (p.1, p.2.map S.v) := by
 cases a <;> simp only [v, target] <;> try rfl
 simp [vL_map]
theorem boundOf_ok (t : Nat) (a : AV) : boundOf t (S.v a) = (boundOf t a).map fun p => (p.1, p.2.map S.v) := by
 cases a with
 |
  agg l =>
  cases l with
  | nil => simp [v, v.vL, boundOf]
  |
   cons x l =>
   cases x with
   |
    int k f =>
    cases k <;> simp only [v, v.vL, boundOf, Option.map_none]
    by_cases h : t = bd
    ·simp [h, vL_map]
    ·simp [h]
   | _ => simp [v, v.vL, boundOf]
 | _ => simp [v, boundOf]
theorem targetC_ok (tab : List (Nat × Nat)) (a : AV) (args : List AV) : targetC tab (S.v a) (args.map S.v) = (targetC tab a args).map fun p => (p.1, p.2.map S.v) := by
 cases tab with
 |
  nil =>
  cases a <;> simp only [v, targetC] <;> try rfl
  ·simp [vL_map]
  ·rw [boundOf_ok]
   cases boundOf _ _ <;> simp
 |
  cons p tab =>
  cases a <;> simp only [v, targetC] <;> try rfl
  split
  ·rfl
  ·cases (p :: tab).lookup _ <;> simp
theorem lowO_ok (low : Nat) (d : Option Nat) : lowO (S.n low) (d.map S.n) = S.n (lowO low d) := by
 cases d with
 | none => rfl
 | some k => exact lower_ok S low k
theorem put_ok (sl : List AV) (d : Option Nat) (a : AV) : putO (sl.map S.v) d (S.v a) = (putO sl d a).map S.v := by
 cases d <;> simp [putO]

theorem opR_ok {call call' : CallF} (hc : S.CallSh call call') {sl : List AV} {rows : List Row} {low : Nat} {o : IOpx} (hg : S.g ≤ rows.length) {q : AV × List Row × Nat} (h : opR call sl rows low o = some q) : opR call' (sl.map S.v) (S.h rows) (S.n low) (S.x o) = some (S.x3 q) ∧ rows.length ≤ q.2.1.length := by
 unfold opR at h ⊢
 simp only [Sh.x, want_ok]
 split at h
 ·simp at h
 ·injection h with h
  subst h
  exact ⟨by simp only [x3, tup0], Nat.le_refl _⟩
 ·split at h
  ·rename_i tab f args ho
   rw [ho]
   simp only [i, getO_ok, map_ok S (getO_ok S sl), targetC_ok]
   split at h
   ·rename_i fid vs ht
    rw [ht]
    simp only [Option.map_some]
    split at h
    ·rename_i a rows' d hcall
     injection h with h
     subst h
     obtain ⟨e1, e2⟩ := hc _ _ _ _ hcall hg
     simp only [e1, x3o, x3, lowO_ok]
     exact ⟨trivial, e2⟩
    ·simp at h
   ·simp at h
  ·rename_i op hne
   have e := evalE_ok S (getO_ok S sl) hg low o.op
   have e2 := e.2 q h
   have e1 := e.1
   rw [h] at e1
   refine ⟨?_, e2⟩
   cases hop : o.op <;> first
    | (rw [hop] at e1; exact e1)
    | (exact absurd hop (hne _ _ _))

def ge (ext : List (Nat × Row)) : List (Nat × Row) := ext.map fun p => (p.1, S.r p.2)
theorem mask_ok (b : Nat) (ext : List (Nat × Row)) : maskE b (S.ge ext) = (maskE b ext).map S.r := by
 simp only [maskE, ge, List.map_map]
 apply List.map_congr_left
 intro p _
 simp only [Function.comp_def]
 split <;> rfl
theorem evalG_ok {call call' : CallF} (hc : S.CallSh call call') {B : Nat → List Row} (hg : ∀ p, S.g ≤ (B p).length) : ∀ (l : List (IOpx × Nat)) (j : Nat) (sl : List AV) (ext : List (Nat × Row)) (q : List AV × List (Nat × Row)), evalG call B j l sl ext = some q → evalG call' (fun p => S.h (B p)) j (S.gl l) (sl.map S.v) (S.ge ext) = some (q.1.map S.v, S.ge q.2)
 |
  [], j, sl, ext, q, h => by
  simp only [evalG, Option.some.injEq] at h
  subst h
  rfl
 |
  (o, b) :: l, j, sl, ext, q, h => by
  simp only [evalG] at h
  simp only [gl, List.map_cons, evalG, mask_ok]
  have hgl : (S.ge ext).length = ext.length := by simp [ge]
  have hlen : ((B j) ++ maskE b ext).length = (B j).length + ext.length := by simp [maskE]
  have e0 : S.h (B j) ++ (maskE b ext).map S.r = S.h ((B j) ++ maskE b ext) := (h_app (hg j)).symm
  have e1 : (S.h (B j)).length + (S.ge ext).length = S.n ((B j).length + ext.length) := by
   rw [h_len (hg j), hgl, S.n_ge (hg j), S.n_ge (by have := hg j; omega)]; omega
  rw [e0, e1]
  split at h
  ·rename_i a rows' low' hop
   obtain ⟨r1, r2⟩ := opR_ok S hc (by have := hg j; omega) hop
   rw [r1]
   simp only [x3, S.n_inj]
   split at h
   ·rename_i hl
    rw [if_pos hl]
    have e2 : (S.h rows').drop (S.n ((B j).length + ext.length)) = (rows'.drop ((B j).length + ext.length)).map S.r := h_drop S (by have := hg j; omega) (by simp only at r2; omega)
    rw [e2]
    have := evalG_ok hc hg l (j + 1) _ _ q h
    simp only [gl, put_ok, ge, List.map_append, List.map_map, Function.comp_def] at this ⊢
    simpa [Sh.x, put_ok, Function.comp_def] using this
   ·simp at h
  ·simp at h

theorem maskR_ok {rows : List Row} (hg : S.g ≤ rows.length) (R off k : Nat) : maskR (S.h rows) (S.n R) off k = S.h (maskR rows R off k) := by
 unfold maskR
 rw [h_get hg]
 cases rows[R]? with
 | none => rfl
 |
  some w =>
  cases w <;> try rfl
  rename_i vs
  simp only [Option.map_some, r]
  rw [← h_set hg]
  have : List.replicate k AV.any = (List.replicate k AV.any).map S.v := by simp [v]
  rw [this, splice_ok, ← this]
  rfl
theorem maskR_len (rows : List Row) (R off n : Nat) : (maskR rows R off n).length = rows.length := Abs.maskR_len rows R off n
theorem stored_ok {rows : List Row} (hg : S.g ≤ rows.length) (sl : List AV) (R off : Nat) (a y : Opd) (k : Option Nat) : stored (sl.map S.v) (S.h rows) (S.n R) off (S.o a) (S.o y) k = (stored sl rows R off a y k).map S.r := by
 unfold stored
 rw [getO_ok]
 cases getO sl a <;> try rfl
 rename_i id off
 simp only [v, S.n_inj, h_get hg]
 split
 ·cases rows[id]? with
  | none => rfl
  |
   some w =>
   cases w <;> try rfl
   rename_i vs
   simp only [Option.map_some, r]
   cases k with
   |
    none =>
    simp only [getO_ok, one, List.length_map]
    split
    ·simp [r]
    ·rfl
   |
    some m =>
    simp only [getO_ok]
    cases getO sl y <;> try rfl
    rename_i ll
    simp only [v, vL_map, List.length_map, all_one]
    split
    ·simp [r, splice_ok]
    ·rfl
 ·rfl
end Sh
end Go.Abs
namespace Go.Abs
namespace Sh
variable (S : Sh) {F : Nat → Option IFn}
def f (fn : IFn) : IFn := ⟨fn.ns, fn.res, S.c fn.body⟩
def F' (F : Nat → Option IFn) : Nat → Option IFn := fun k => (F k).map S.f
theorem pop_ok (id : Nat) : ∀ k : List Itm, popTo id (k.map S.t) = (popTo id k).map (·.map S.t)
 | [] => rfl
 |
  .inBlock j :: k => by
  simp only [List.map_cons, t, popTo]
  split
  ·rfl
  ·exact pop_ok id k
 | .code _ :: k => by simp only [List.map_cons, t, popTo]; exact pop_ok id k
 | .inLoop _ :: k => by simp only [List.map_cons, t, popTo]; exact pop_ok id k
 | .inScope _ :: k => by simp only [List.map_cons, t, popTo]; exact pop_ok id k
 | .ops _ :: k => by simp only [List.map_cons, t, popTo]; exact pop_ok id k
 | .rfBegin :: k => by simp only [List.map_cons, t, popTo]; exact pop_ok id k
theorem yield_ok (sl : List AV) (o : IOpx) : yieldOf (sl.map S.v) (S.x o) = (yieldOf sl o).map fun p => (S.n p.1, p.2.map S.v) := by
 obtain ⟨d, op, gd⟩ := o
 cases op <;> try rfl
 rename_i tab fo args
 cases tab with
 | cons p tab => rfl
 | nil =>
 simp only [yieldOf, Sh.x, i, getO_ok, want_ok, map_ok S (getO_ok S sl)]
 cases getO sl fo <;> simp only [v] <;> first
  | (
    cases want sl gd with
    | none => rfl
    | some b => cases b <;> rfl)
theorem putL_ok (ps : List Nat) : ∀ (sl vs : List AV), putL (sl.map S.v) ps (vs.map S.v) = (putL sl ps vs).map S.v := by
 unfold putL
 induction ps with
 | nil => intro sl vs; simp
 |
  cons p ps ih =>
  intro sl vs
  cases vs with
  | nil => simp
  |
   cons a vs =>
   simp only [List.map_cons, List.zip_cons_cons, List.foldl_cons]
   rw [← List.map_set]
   exact ih _ _
theorem rfOk_ok {rows : List Row} (hg : S.g ≤ rows.length) (cx : Ctx) : rfOk (S.cx cx) (S.h rows) = rfOk cx rows := by
 cases cx with
 | fn res => rfl
 |
  round id =>
  simp only [rfOk, Sh.cx, h_get hg]
  cases rows[id]? with
  | none => rfl
  | some y => cases y <;> rfl
theorem kill_ok : ∀ (l : List Nat) (sl : List AV), killS (sl.map S.v) l = (killS sl l).map S.v
 | [], sl => rfl
 |
  d :: l, sl => by
  simp only [killS]
  rw [← kill_ok l, List.map_set, any_ok]
theorem init_ok (fn : IFn) (vs : List AV) {rows : List Row} (hg : S.g ≤ rows.length) : init (S.f fn) (vs.map S.v) (S.h rows) = ⟨(init fn vs rows).sl.map S.v, S.h rows, S.n rows.length⟩ := by
 simp [init, f, any_ok, h_len hg]
theorem jump_ok (j : Option Jump) : (jumpI j).map S.t = jumpI j := by
 cases j with
 | none => rfl
 | some j => cases j <;> rfl
variable (hX : ∀ y ∈ S.X, y.under (S.g + S.X.length) = true)
include hX in
theorem after_ok {b low : Nat} {rows : List Row} {d : Option Nat} (h1 : S.g ≤ b) (h2 : b ≤ rows.length) {q : List Itm × List Row × Nat} (h : afterLoop b low rows d = some q) : afterLoop (S.n b) (S.n low) (S.h rows) (d.map S.n) = some (q.1.map S.t, S.h q.2.1, S.n q.2.2) ∧ b ≤ q.2.1.length := by
 unfold afterLoop at h ⊢
 rw [h_get (by omega)]
 split at h
 ·rename_i hr
  rw [hr]
  simp only [Option.map_some, r]
  split at h
  ·simp at h
  ·rename_i hb
   rw [if_neg hb]
   injection h with h
   subst h
   have e : (S.h rows).set (S.n b) .dead = S.h (rows.set b .dead) := h_set (S := S) (by omega) b .dead
   have := gc_ok S hX (b := b) (low := lowO low d) (a := .tup []) (rows := rows.set b .dead) h1 (by simpa using h2)
   rw [tup0] at this
   rw [e, lowO_ok, this.1]
   exact ⟨by simp only [jump_ok], this.2⟩
 ·simp at h
include hX in
theorem call_ok {n : Nat} (ih : ∀ (cx : Ctx) (k : List Itm) (s : St) (q : AV × List Row × Nat), exec F n cx k s = some q → S.g ≤ s.rows.length → exec (S.F' F) n (S.cx cx) (k.map S.t) ⟨s.sl.map S.v, S.h s.rows, S.n s.low⟩ = some (S.x3 q) ∧ s.rows.length ≤ q.2.1.length) : S.CallSh (callBy F (exec F n)) (callBy (S.F' F) (exec (S.F' F) n)) := by
 intro fid vs rows q h hg
 unfold callBy at h ⊢
 unfold Sh.F'
 split at h
 ·rename_i fn hfn
  rw [hfn]
  simp only [Option.map_some]
  unfold callR at h
  split at h
  ·rename_i a rows' low' hx
   obtain ⟨e1, e2⟩ := ih _ _ _ _ hx (by simpa [init] using hg)
   injection h with h
   subst h
   have e3 := fin_ok S hX (low := low') (a := a) hg (by simpa [init] using e2)
   refine ⟨?_, e3.2⟩
   rw [init_ok S fn vs hg]
   have e4 : exec (S.F' F) n (.fn (S.f fn).res) [.code (S.f fn).body] ⟨(init fn vs rows).sl.map S.v, S.h rows, S.n rows.length⟩ = some (S.x3 (a, rows', low')) := e1
   unfold Sh.F' at e4
   rw [e4]
   simp only [callR, x3, e3.1]
  ·simp at h
 ·simp at h

include hX in
theorem exec_ok : ∀ (n : Nat) (cx : Ctx) (k : List Itm) (s : St) (q : AV × List Row × Nat), exec F n cx k s = some q → S.g ≤ s.rows.length → exec (S.F' F) n (S.cx cx) (k.map S.t) ⟨s.sl.map S.v, S.h s.rows, S.n s.low⟩ = some (S.x3 q) ∧ s.rows.length ≤ q.2.1.length := by
 intro n
 induction n with
 | zero => intro cx k s q h; simp [exec] at h
 |
  succ n ih =>
  intro cx k s q h hg
  have hc := call_ok S hX ih
  obtain ⟨sl, rows, low⟩ := s
  replace hg : S.g ≤ rows.length := hg
  cases k with
  |
   nil =>
   rw [exec] at h
   rw [List.map_nil, exec]
   exact leave_ok S hg h
  |
   cons y k =>
   rw [List.map_cons]
   cases y with
   | inBlock id => rw [exec] at h; rw [t, exec]; exact ih _ _ _ _ h hg
   | inScope c => rw [exec] at h; rw [t, exec]; exact ih _ _ _ _ h hg
   | inLoop c => rw [exec, St.force_eq] at h; rw [t, exec, St.force_eq]; exact ih _ _ _ _ h hg
   |
    rfBegin =>
    cases cx with
    | fn res => simp [exec] at h
    |
     round id =>
     rw [exec] at h
     rw [t, Sh.cx, exec]
     simp only [h_get hg] at h ⊢
     cases hr : rows[id]? with
     | none => simp [hr] at h
     |
      some w =>
      simp only [hr] at h
      cases w <;> try (simp at h; done)
      rename_i st pend sl1 ps asg body
      cases st <;> try (simp at h; done)
      simp only at h
      obtain ⟨e1, e2⟩ := ih _ _ _ _ h (by simpa using hg)
      refine ⟨?_, by simpa using e2⟩
      simp only [Option.map_some, r, lower_ok]
      rw [← h_set hg] at e1
      exact e1
   |
    ops l =>
    cases l with
    | nil => rw [exec] at h; rw [t, List.map_nil, exec]; exact ih _ _ _ _ h hg
    |
     cons sg l =>
     cases sg with
     |
      one o =>
      rw [exec] at h
      rw [t, List.map_cons, s, exec]
      simp only [yield_ok] at h ⊢
      cases hy : yieldOf sl o with
      |
       some p =>
       obtain ⟨id, vs⟩ := p
       rw [hy] at h
       simp only [Option.map_some, h_get hg] at h ⊢
       cases hr : rows[id]? with
       | none => rw [hr] at h; simp at h
       |
        some w =>
        rw [hr] at h
        cases w <;> try (simp at h; done)
        rename_i st pend sl1 ps asg body
        simp only [Option.map_some, r, List.length_map] at h ⊢
        split at h
        ·rename_i hl
         rw [if_pos hl]
         split at h
         ·rename_i a rows' low' hx
          obtain ⟨e1, e2⟩ := ih _ _ _ _ hx hg
          simp only at e2
          have e3 := gc_ok S hX (b := rows.length) (low := lower low low') (a := a) (rows := rows') hg e2
          obtain ⟨e4, e5⟩ := ih _ _ _ _ h (by simp only; omega)
          simp only at e4 e5
          refine ⟨?_, by omega⟩
          have e6 : exec (S.F' F) n (.round (S.n id)) [.code (S.c asg), .rfBegin, .code (S.c body)] ⟨putL (sl1.map S.v) ps (vs.map S.v), S.h rows, (S.h rows).length⟩ = some (S.x3 (a, rows', low')) := by
           rw [putL_ok, h_len hg]
           exact e1
          rw [e6]
          simp only [x3, h_len hg, lower_ok, e3.1, put_ok]
          exact e4
         ·simp at h
        ·simp at h
      |
       none =>
       rw [hy] at h
       simp only [Option.map_none] at h ⊢
       split at h
       ·rename_i a rows' low' hop
        obtain ⟨e1, e2⟩ := opR_ok S hc hg hop
        rw [e1]
        simp only [x3] at e2 ⊢
        obtain ⟨e4, e5⟩ := ih _ _ _ _ h (by simp only; omega)
        simp only at e4 e5
        refine ⟨?_, by omega⟩
        rw [show (S.x o).dst = o.dst from rfl, put_ok]
        exact e4
       ·simp at h
     |
      grp g =>
      rw [exec] at h
      rw [t, List.map_cons, s, exec]
      simp only at h ⊢
      split at h
      ·rename_i sl' ext hop
       have e1 := evalG_ok S hc (fun _ => hg) _ _ _ _ _ hop
       rw [show S.ge [] = [] from rfl] at e1
       rw [e1]
       obtain ⟨e4, e5⟩ := ih _ _ _ _ h (by simp; omega)
       simp only at e4 e5
       refine ⟨?_, by simp at e5; omega⟩
       rw [h_app hg, List.map_map] at e4
       simp only [ge, List.map_map]
       exact e4
      ·simp at h
     |
      grpw a w z bb g =>
      rw [exec] at h
      rw [t, List.map_cons, s, exec]
      simp only at h ⊢
      split at h
      ·rename_i sl0 ext0 hop0
       have e0 := evalG_ok S hc (fun _ => hg) _ _ _ _ _ hop0
       rw [show S.ge [] = [] from rfl] at e0
       rw [e0]
       simp only [getO_ok]
       split at h
       ·rename_i R off hR
        rw [hR]
        simp only [v, forceRs_eq] at h ⊢
        split at h
        ·rename_i sl' ext hop
         have e1 := evalG_ok S hc (B := baseW rows (maskR rows R off (z.getD 1)) bb) (fun p => by unfold baseW; split; exact hg; rw [maskR_len]; exact hg) _ _ _ _ _ hop
         rw [show S.ge [] = [] from rfl] at e1
         have eB : baseW (S.h rows) (maskR (S.h rows) (S.n R) off (z.getD 1)) bb = fun p => S.h (baseW rows (maskR rows R off (z.getD 1)) bb p) := by
          funext p
          unfold baseW
          rw [maskR_ok S hg]
          split <;> rfl
         rw [eB, e1]
         simp only [stored_ok S hg]
         split at h
         ·rename_i r' hr
          rw [hr]
          simp only [Option.map_some]
          obtain ⟨e4, e5⟩ := ih _ _ _ _ h (by simp; omega)
          simp only at e4 e5
          refine ⟨?_, by simp at e5; omega⟩
          rw [h_app (by simpa using hg), ← h_set hg, List.map_map] at e4
          simp only [ge, List.map_map, lower_ok]
          exact e4
         ·simp at h
        ·simp at h
       ·simp at h
      ·simp at h
     | stop => simp [exec] at h
   |
    code cc =>
    rw [t]
    cases cc with
    | skip => rw [exec] at h; rw [c, exec]; exact ih _ _ _ _ h hg
    | ret => rw [exec] at h; rw [c, exec]; exact leave_ok S hg h
    |
     exit id =>
     rw [exec] at h
     rw [c, exec]
     simp only [pop_ok] at h ⊢
     cases hp : popTo id k with
     | some k' => rw [hp] at h; simp only [Option.map_some] at h ⊢; exact ih _ _ _ _ h hg
     | none => rw [hp] at h; simp only [Option.map_none] at h ⊢; exact leave_ok S hg h
    | seq a b => rw [exec] at h; rw [c, exec]; exact ih _ _ _ _ h hg
    |
     cond y a b =>
     rw [exec] at h
     rw [c, exec]
     simp only [getO_ok] at h ⊢
     cases hy : getO sl y <;> rw [hy] at h <;> try (simp at h; done)
     rename_i tt
     simp only [v] at h ⊢
     have e := ih _ _ _ _ h hg
     cases tt <;> exact e
    | block id a => rw [exec] at h; rw [c, exec]; exact ih _ _ _ _ h hg
    | loop a => rw [exec] at h; rw [c, exec]; exact ih _ _ _ _ h hg
    | scope a => rw [exec] at h; rw [c, exec]; exact ih _ _ _ _ h hg
    | ops l => simp only [exec, St.forceS_eq] at h; simp only [c, exec, St.forceS_eq]; exact ih _ _ _ _ h hg
    |
     rf fo ps a b =>
     rw [exec] at h
     rw [c, exec]
     simp only [rfOk_ok S hg] at h ⊢
     split at h
     ·rename_i hok
      rw [if_pos hok]
      split at h
      ·rename_i fid vs ht
       have e0 : target (getO (sl.map S.v) (S.o fo)) [.yield (S.h rows).length] = some (fid, vs.map S.v) := by
        have := target_ok S (getO sl fo) [.yield rows.length]
        rw [ht] at this
        rw [getO_ok, h_len hg]
        exact this
       rw [e0]
       simp only
       split at h
       ·rename_i a' rows' d hop
        obtain ⟨e1, e2⟩ := hc _ _ _ _ hop (by simp; omega)
        rw [h_app hg] at e1
        have e1' : callBy (S.F' F) (exec (S.F' F) n) fid (vs.map S.v) (S.h rows ++ [.loop .ready none (sl.map S.v) ps (c S a) (c S b)]) = some (S.x3o (a', rows', d)) := e1
        rw [e1']
        simp only [x3o]
        split at h
        ·rename_i k0 rows2 low2 ha
         simp at e2
         obtain ⟨e3, e4⟩ := after_ok S hX hg (by omega) ha
         rw [h_len hg, e3]
         simp only
         obtain ⟨e5, e6⟩ := ih _ _ _ _ h (by simp only at e4 ⊢; omega)
         simp only at e4 e5 e6
         refine ⟨?_, by omega⟩
         rw [List.map_append] at e5
         exact e5
        ·simp at h
       ·simp at h
      ·simp at h
     ·simp at h
    |
     kill m l a =>
     rw [exec] at h
     rw [c, exec]
     obtain ⟨e1, e2⟩ := ih _ _ _ _ h hg
     refine ⟨?_, e2⟩
     simp only [kill_ok]
     exact e1
    | stop => simp [exec] at h

include hX in
theorem ret_ok (hF : S.F' F = F) {fid : Nat} {vs : List AV} {rows : List Row} {q : AV × List Row × Option Nat} (hg : S.g ≤ rows.length) (h : Ret F fid vs rows = some q) : Ret F fid (vs.map S.v) (S.h rows) = some (S.x3o q) := by
 obtain ⟨n, hn⟩ := Ret_iff.1 h
 obtain ⟨e1, _⟩ := call_ok S hX (exec_ok S hX n) _ _ _ _ hn hg
 rw [hF] at e1
 exact Ret_of (n := n) e1
end Sh
end Go.Abs

namespace Go.Abs
def shX (X : List Row) : Sh := ⟨1, X⟩
set_option maxRecDepth 100000 in
theorem tab_sh (X : List Row) : tabF.map (fun p => (p.1, (shX X).f p.2)) = tabF := by kernel_rfl
theorem lookup_map {α : Type} (g : α → α) (k : Nat) : ∀ l : List (Nat × α), (l.map fun p => (p.1, g p.2)).lookup k = (l.lookup k).map g
 | [] => rfl
 |
  (a, b) :: l => by
  simp only [List.map_cons, List.lookup_cons]
  split
  ·rfl
  ·exact lookup_map g k l
theorem F_sh (X : List Row) : (shX X).F' F = F := by
 funext k
 unfold Sh.F' F
 rw [← lookup_map, tab_sh]
theorem awake_any {X : List Row} (hX : X.all (Row.under (1 + X.length)) = true) : Ret F 19 [] (gRows ++ X) = some (.bool true, gRows ++ X, none) := by
 have h := Sh.ret_ok (shX X) (fun y hy => List.all_eq_true.1 hX y hy) (F_sh X) (rows := gRows) (Nat.le_refl 1) awake_g
 have e1 : (shX X).h gRows = gRows ++ X := by
  have e : ∀ l : List Int, (nums .i64 l).map (shX X).v = nums .i64 l := fun l => by simp [nums, Sh.v, Function.comp_def]
  simp [Sh.h, shX, gRows]
  simp [Sh.r]
  exact e _
 rw [e1] at h
 simpa [Sh.x3o, e1, Sh.v] using h
end Go.Abs

namespace Go.Abs
def Cp (sz : Nat) : AV → Prop
 | .slice _ _ n (.at_ c) => n ≤ c
 | .slice _ _ _ (.op s) => s = sz
 | _ => True
theorem lower_ge' {low id : Nat} (h : low ≤ id) : lower low id = low := by unfold lower; split <;> omega

def Und (B H : List Row) : Prop := ∀ y ∈ H, y.under (B.length + H.length) = true
theorem und_mono {y : Row} {a b : Nat} (h : y.under a = true) (hab : a ≤ b) : y.under b = true := Sh.runder_mono hab h
theorem Und_app {rows X H : List Row} (h1 : Und rows X) (h2 : Und (rows ++ X) H) : Und rows (X ++ H) := by
 intro y hy
 rcases List.mem_append.1 hy with hy | hy
 ·exact und_mono (h1 y hy) (by simp <;> omega)
 ·exact und_mono (h2 y hy) (by simp <;> omega)
theorem Und_nil {rows : List Row} : Und rows [] := fun y hy => by simp at hy
theorem Und_0 {rows H : List Row} (h : H.all (Row.under 0) = true) : Und rows H := fun y hy => und_mono (List.all_eq_true.1 h y hy) (Nat.zero_le _)
@[simp] theorem nums_und {k : IntKind} {l : List Int} {b : Nat} : (Row.cells (nums k l)).under b = true := by simp [Row.under, AV.under, nums]

section
variable {rows : List Row} {sz n : Nat} {v : AV} {cs : List AV} {fl : List Int}
theorem El_num_len (h : El rows sz v (nums .i64 fl) n) : fl.length = n * sz := by have := El_len h; simpa [nums] using this
theorem lenW (h : El rows sz v cs n) : evP rows (.len 0 (.c v)) = some (.int .i64 n) := evP_lenE h
theorem idxW (h : El rows sz v cs n) {i : Nat} (hi : i < n) : evP rows (.idxS sz (.c v) (.c (.int .i64 i))) = some (.ptr (sid v) (soff v + i * sz)) := by
 rw [evP_idxE h (by omega) (by omega), Int.toNat_natCast]
theorem ldW1 (h : El rows sz v (nums .i64 fl) n) {j : Nat} (hj : j < fl.length) : evP rows (.load1 (.c (.ptr (sid v) (soff v + j)))) = some (.int .i64 (gI fl j)) := by
 rw [evP_loadE h (by simpa [nums] using hj), nums_get, get_at hj]; rfl
theorem seg_nums {l : List Int} {j m : Nat} (h : j + m ≤ l.length) : seg (nums .i64 l) j m = some (nums .i64 ((l.drop j).take m)) := by
 unfold seg
 rw [if_pos (by simpa [nums] using h)]
 simp [nums, List.map_drop, List.map_take]
theorem ldWN (h : El rows sz v (nums .i64 fl) n) {j m : Nat} (hj : j + m ≤ fl.length) (hm : 0 < m) : evP rows (.loadN m (.c (.ptr (sid v) (soff v + j)))) = some (.agg (nums .i64 ((fl.drop j).take m))) := by
 rw [evP_loadNE h (by simpa [nums] using hj) hm, seg_nums hj]; rfl
theorem take2 {l : List Int} {j : Nat} (h : j + 2 ≤ l.length) : (l.drop j).take 2 = [gI l j, gI l (j + 1)] := by
 rw [List.drop_eq_getElem_cons (by omega), List.drop_eq_getElem_cons (by omega), gI_eq (by omega), gI_eq (by omega)]
 rfl
theorem take3 {l : List Int} {j : Nat} (h : j + 3 ≤ l.length) : (l.drop j).take 3 = [gI l j, gI l (j + 1), gI l (j + 2)] := by
 rw [List.drop_eq_getElem_cons (by omega), List.drop_eq_getElem_cons (by omega), List.drop_eq_getElem_cons (by omega), gI_eq (by omega), gI_eq (by omega), gI_eq (by omega)]
 rfl
theorem ldW2 (h : El rows 2 v (nums .i64 fl) n) {i : Nat} (hi : i < n) : evP rows (.loadN 2 (.c (.ptr (sid v) (soff v + i * 2)))) = some (.agg [.int .i64 (gI fl (i * 2)), .int .i64 (gI fl (i * 2 + 1))]) := by
 have hl := El_num_len h
 rw [ldWN h (by omega) (by omega), take2 (by omega)]; rfl
theorem ldW3 (h : El rows 3 v (nums .i64 fl) n) {i : Nat} (hi : i < n) : evP rows (.loadN 3 (.c (.ptr (sid v) (soff v + i * 3)))) = some (.agg [.int .i64 (gI fl (i * 3)), .int .i64 (gI fl (i * 3 + 1)), .int .i64 (gI fl (i * 3 + 2))]) := by
 have hl := El_num_len h
 rw [ldWN h (by omega) (by omega), take3 (by omega)]; rfl
theorem IsL_W (h : El rows sz v (nums .i64 fl) n) {i : Nat} (hi : i < n) {c : Cap} : IsL rows (.slice (sid v) (soff v + i * sz) sz c) ((fl.drop (i * sz)).take sz) := by
 have hl := El_num_len h
 have hle : i * sz + sz ≤ n * sz := by
  have := Nat.mul_le_mul_right sz (show i + 1 ≤ n from hi)
  rw [Nat.add_mul, Nat.one_mul] at this
  exact this
 have hlen : ((fl.drop (i * sz)).take sz).length = sz := by simp; omega
 rcases El_cases h with ⟨rfl, h1, h0⟩ | ⟨id, off, c', vs, rfl, hr, hs⟩
 ·omega
 ·have h2 := seg_seg (j := i * sz) (m := sz) hs (by omega)
  rw [seg_nums (by omega)] at h2
  have := IsL_mk (n := 0) (c := c) (l := (fl.drop (i * sz)).take sz) (off := off + i * sz) hr (by rw [hlen]; exact h2)
  rw [hlen] at this
  exact this
theorem El_take (h : El rows sz v cs n) (hc : Cp sz v) {k : Nat} (hk : k ≤ n) : ∃ v', sliceV sz v none (some (.int .i64 k)) none = some v' ∧ El rows sz v' (cs.take (k * sz)) k ∧ Cp sz v' ∧ sid v' = sid v ∧ (v' = .nilslice ∨ ∃ id off c, v' = .slice id off k c) := by
 have hl := El_len h
 rcases El_cases h with ⟨rfl, rfl, h0⟩ | ⟨id, off, c, vs, rfl, hr, hs⟩
 ·have : k = 0 := by omega
  subst this
  refine ⟨.nilslice, by simp [sliceV, bound?], ?_, trivial, rfl, .inl rfl⟩
  simpa using El_nil
 ·have hle : k * sz ≤ n * sz := Nat.mul_le_mul_right sz hk
  have hs' : seg vs off (k * sz) = some (cs.take (k * sz)) := by
   have := seg_seg (j := 0) (m := k * sz) hs (by omega)
   rw [Nat.add_zero] at this
   rw [this]
   unfold seg
   rw [if_pos (by omega)]
   simp
  cases c with
  |
   at_ m =>
   simp only [Cp] at hc
   refine ⟨.slice id off k (.at_ m), ?_, ?_, by simp only [Cp]; omega, rfl, .inr ⟨_, _, _, rfl⟩⟩
   ·simp only [sliceV, bound?]
    rw [if_pos (by omega)]
    simp
   ·unfold El elems
    simp only [hr, hs', Option.map_some]
  |
   op s =>
   simp only [Cp] at hc
   subst hc
   refine ⟨.slice id off k (.op s), ?_, ?_, rfl, rfl, .inr ⟨_, _, _, rfl⟩⟩
   ·simp only [sliceV, bound?]
    rw [if_pos (by omega)]
    simp
   ·unfold El elems
    simp only [hr, hs', Option.map_some]

def accV (rows H : List Row) (sz : Nat) (cs : List AV) (n : Nat) : AV := match cs with
 | [] => .nilslice
 | _ => .slice (rows.length + H.length) 0 n (.op sz)
def accR (H : List Row) (cs : List AV) : List Row := match cs with
 | [] => H
 | _ => H ++ [.cells cs]
def newW (rows : List Row) (sz : Nat) (cs : List AV) (n : Nat) : AV × List Row × Option Nat := (accV rows [] sz cs n, rows ++ accR [] cs, none)
@[simp] theorem accV_nil {H : List Row} : accV rows H sz [] n = .nilslice := rfl
@[simp] theorem accR_nil {H : List Row} : accR H [] = H := rfl
@[simp] theorem accV_cons {H : List Row} {x : AV} : accV rows H sz (x :: cs) n = .slice (rows.length + H.length) 0 n (.op sz) := rfl
@[simp] theorem accR_cons {H : List Row} {x : AV} : accR H (x :: cs) = H ++ [.cells (x :: cs)] := rfl
theorem acc_El {H : List Row} (hn : cs.length = n * sz) (hsz : 0 < sz) : El (rows ++ accR H cs) sz (accV rows H sz cs n) cs n ∧ Cp sz (accV rows H sz cs n) := by
 cases cs with
 |
  nil =>
  have : n = 0 := by
   rcases Nat.mul_eq_zero.1 (show n * sz = 0 from hn.symm) with h | h
   ·exact h
   ·omega
  subst this
  exact ⟨El_nil, trivial⟩
 |
  cons x cs =>
  refine ⟨?_, rfl⟩
  have hr : row? (rows ++ accR H (x :: cs)) (rows.length + H.length) = some (x :: cs) := by
   unfold accR row?; simp
  show elems _ _ _ = _
  unfold accV elems
  simp only [hr]
  unfold seg
  rw [if_pos (by omega), ← hn]
  simp
theorem acc_und {H : List Row} (hH : H.all (Row.under 0) = true) (hc : (Row.cells cs).under 0 = true) : (accR H cs).all (Row.under 0) = true := by
 cases cs with
 | nil => exact hH
 | cons x cs => simp only [accR_cons, List.all_append, hH, List.all_cons, hc]; rfl
theorem cells_ids (hc : (Row.cells cs).under 0 = true) : cs.all (·.ids.isEmpty) = true := by
 simp only [Row.under, List.all_eq_true] at hc ⊢
 intro x hx
 have := hc x hx
 cases h : x.ids with
 | nil => rfl
 | cons i is => simp [AV.under, h] at this
theorem acc_fin {H : List Row} (hc : (Row.cells cs).under 0 = true) : fin rows (accV rows H sz cs n) (rows ++ accR H cs) rows.length = newW rows sz cs n := by
 cases cs with
 | nil => simp [newW]
 |
  cons y cs =>
  simp only [accV_cons, accR_cons, newW]
  have := fin_slice (rows := rows) (L := H ++ [.cells (y :: cs)]) (k := H.length) (o := 0) (n := n) (c := .op sz) (vs := y :: cs) (by simp) (cells_ids hc)
  simpa using this
theorem app_copy {x : AV} {low b : Nat} (h : El rows sz x cs n) (hsz : 0 < sz) (hn : n ≤ 1000000000) : evE rows low (.app sz b (.c .nilslice) (.c x)) = some (accV rows [] sz cs n, rows ++ accR [] cs, low) := by
 have hl := El_len h
 cases n with
 |
  zero =>
  have : cs = [] := by simpa using hl
  subst this
  rw [app_0 h (.inl rfl)]
  simp
 |
  succ n =>
  rw [app_nil h (by omega) (by simp [lim]; omega)]
  cases cs with
  |
   nil =>
   have := Nat.mul_pos (show 0 < n + 1 by omega) hsz
   rw [← hl] at this
   simp at this
  | cons y cs => simp
end
end Go.Abs

set_option maxRecDepth 10000
namespace Go.Abs
open Go.Proofs Go.RowKit Go.ChangeShapes Go.WideShapes Go.ChangeAt Go.WideElems
structure ArgS where
 b : Nat
 o : Nat
 len : Nat
 cap : Nat
 zs : List Int
def argCl (W : World) : Option ArgS → Prop
 | none => True
 | some a => (∀ (i : Nat) (x : Int), a.zs[i]? = some x → W.cell? ⟨a.b, a.o + i, none⟩ = some (.int .i64 x)) ∧ a.b < W.heap.size
def argW (w : Nat) : Option ArgS → Prop
 | none => True
 | some a => a.len ≤ a.cap ∧ a.cap ≤ maxLen ∧ a.zs.length = a.cap * w
def argRow : Option ArgS → Row
 | none => .dead
 | some a => .ro (nums .i64 a.zs)
def argAV (k : Nat) : Option ArgS → AV
 | none => .nilslice
 | some a => .slice k 0 a.len (.at_ a.cap)
def argVal : Option ArgS → Value
 | none => .slice none 0 0
 | some a => .slice (some ⟨a.b, a.o, none⟩) a.len a.cap
def argLen : Option ArgS → Nat
 | none => 0
 | some a => a.len
def argList (w : Nat) : Option ArgS → List Int
 | none => []
 | some a => a.zs.take (a.len * w)
def argLoc : Option ArgS → Option Loc
 | none => none
 | some a => some ⟨a.b, a.o, 0⟩
def aRows (l : List (Option ArgS)) : List Row := gRows ++ l.map argRow
def aTh (l : List (Option ArgS)) : Th := fun id => if id < 1 then gTh id else (l[id - 1]?).bind argLoc
theorem aHRel {κ : KRel} {W : World} {l : List (Option ArgS)} (h : laidMetH Tryd.prog laidL W) (hl : ∀ a ∈ l, argCl W a) : HRel κ (aTh l) (aRows l) W := by
 have hg := gHRel (κ := κ) h
 have hge : ∀ id L, 1 ≤ id → aTh l id = some L → ∃ a, l[id - 1]? = some (some a) ∧ L = ⟨a.b, a.o, 0⟩ := by
  intro id L h2 e
  unfold aTh at e
  rw [if_neg (by omega)] at e
  cases hx : l[id - 1]? with
  | none => rw [hx] at e; simp at e
  |
   some y =>
   rw [hx] at e
   cases y with
   | none => simp [argLoc] at e
   | some a => simp [argLoc] at e; exact ⟨a, rfl, e.symm⟩
 refine ⟨?_, ?_, ?_, ?_⟩
 ·intro id L e
  simp only [aRows, gRows, List.length_append, List.length_cons, List.length_nil, List.length_map]
  by_cases h2 : id < 1
  ·omega
  ·obtain ⟨a, ha, _⟩ := hge id L (by omega) e
   have := (List.getElem?_eq_some_iff.1 ha).1
   omega
 ·intro id L e
  by_cases h2 : id < 1
  ·unfold aTh at e
   rw [if_pos h2] at e
   exact hg.blk id L e
  ·obtain ⟨a, ha, rfl⟩ := hge id L (by omega) e
   exact (hl _ (List.mem_of_getElem? ha)).2
 ·intro id r e
  by_cases h2 : id < 1
  ·have e2 : gRows[id]? = some r := by
    unfold aRows at e
    rwa [List.getElem?_append_left (by simp [gRows]; omega)] at e
   have := hg.row id r e2
   have ht : aTh l id = gTh id := by unfold aTh; rw [if_pos h2]
   match id, h2 with
   |
    0, _ =>
    injection e2 with e2; subst e2
    obtain ⟨L, hL, hc⟩ := this
    refine ⟨L, ht.trans hL, fun j x hx => ?_⟩
    rw [nums_get] at hx
    obtain ⟨n, hn, rfl⟩ := Option.map_eq_some_iff.1 hx
    obtain ⟨x', h1, h3, h4⟩ := hc j (.int .i64 n) (by rw [nums_get, hn]; rfl)
    cases h3
    exact ⟨_, h1, .int _ _, h4⟩
  ·unfold aRows at e
   rw [List.getElem?_append_right (by simp [gRows]; omega), show gRows.length = 1 from rfl, List.getElem?_map] at e
   obtain ⟨y, hy, rfl⟩ := Option.map_eq_some_iff.1 e
   cases y with
   | none => trivial
   |
    some a =>
    refine ⟨⟨a.b, a.o, 0⟩, ?_, fun j x hx => ?_⟩
    ·unfold aTh
     rw [if_neg (by omega), hy]
     rfl
    ·rw [nums_get] at hx
     obtain ⟨n, hn, rfl⟩ := Option.map_eq_some_iff.1 hx
     exact ⟨_, (hl _ (List.mem_of_getElem? hy)).1 j n hn, .int _ _, rfl⟩
 ·intro i j r s L L' hij hr ho
  exfalso
  have hm := List.mem_of_getElem? hr
  unfold aRows at hm
  rw [List.mem_append] at hm
  rcases hm with hm | hm
  ·simp [gRows] at hm
   rcases hm with rfl | rfl <;> simp [Row.owned] at ho
  ·obtain ⟨y, _, rfl⟩ := List.mem_map.1 hm
   cases y <;> simp [argRow, Row.owned] at ho
theorem aGRel {l : List (Option ArgS)} : GRel (aTh l) [0] := by
 intro i g e
 match i, e with
 | 0, e => injection e with e; subst e; exact ⟨⟨0, 0, 0⟩, rfl, rfl, rfl⟩
 | n + 1, e => simp at e
theorem aV {l : List (Option ArgS)} {w k : Nat} {a : Option ArgS} (ha : l[k]? = some a) (hok : argW w a) : V (aTh l) (argAV (1 + k) a) (argVal a) := by
 cases a with
 | none => exact .nilslice
 |
  some a =>
  have e : aTh l (1 + k) = some ⟨a.b, a.o, 0⟩ := by
   unfold aTh
   rw [if_neg (by omega), show 1 + k - 1 = k from by omega, ha]
   rfl
  exact .sliceAt e (fun _ => rfl) hok.1
theorem aCp {w : Nat} {a : Option ArgS} (hok : argW w a) (i : Nat) : Cp w (argAV i a) := by
 cases a with
 | none => trivial
 | some a => exact hok.1
theorem argList_len {w : Nat} {a : Option ArgS} (hok : argW w a) : (argList w a).length = argLen a * w := by
 cases a with
 | none => simp [argList, argLen]
 |
  some a =>
  obtain ⟨h1, h2, h3⟩ := hok
  have := Nat.mul_le_mul_right w h1
  simp only [argList, argLen, List.length_take]
  omega
theorem aEl {l : List (Option ArgS)} {w k : Nat} {a : Option ArgS} (ha : l[k]? = some a) (hok : argW w a) : El (aRows l) w (argAV (1 + k) a) (nums .i64 (argList w a)) (argLen a) := by
 have hlen := argList_len hok
 cases a with
 | none => exact rfl
 |
  some a =>
  obtain ⟨h1, h2, h3⟩ := hok
  have := Nat.mul_le_mul_right w h1
  have hr : row? (aRows l) (1 + k) = some (nums .i64 a.zs) := by
   unfold row? aRows
   rw [List.getElem?_append_right (by simp [gRows]), show 1 + k - gRows.length = k from by simp [gRows], List.getElem?_map, ha]
   rfl
  unfold El elems argAV
  simp only [hr, argList, argLen]
  have : seg (nums .i64 a.zs) 0 (a.len * w) = some (nums .i64 (a.zs.take (a.len * w))) := by
   rw [nums_seg, if_pos (by omega)]
   simp
  rw [this]
  rfl
theorem aIsL {l : List (Option ArgS)} {k : Nat} {a : Option ArgS} (ha : l[k]? = some a) (hok : argW 1 a) : IsL (aRows l) (argAV (1 + k) a) (argList 1 a) := by
 have := aEl ha hok
 unfold IsL
 rw [argList_len hok, Nat.mul_one]
 exact this
theorem awake_u (l : List (Option ArgS)) : ∀ H, Und (aRows l) H → Ret F 19 [] (aRows l ++ H) = some (.bool true, aRows l ++ H, none) := by
 intro H hH
 have := awake_any (X := l.map argRow ++ H) (by
  rw [List.all_eq_true]
  intro y hy
  rw [List.mem_append] at hy
  rcases hy with hy | hy
  ·refine Sh.runder_mono (Nat.zero_le _) ?_
   obtain ⟨a, _, rfl⟩ := List.mem_map.1 hy
   cases a <;> simp [argRow, Row.under, AV.under, nums]
  ·refine Sh.runder_mono ?_ (hH y hy)
   simp [aRows, gRows]
   omega)
 simpa [aRows] using this
theorem slice_cells {P : Program} {W : World} {H : Type} {enc : TypeId × Value → H} {spare held : _} {fuel w : Nat} {t e : TypeId} {v : Value} {x : _} (ht : P.underlying t = some (.slice e)) (hc : P.cellsOf e = w) (hw : 0 < w)
  (hel0 : ∀ n cs z, DataW.trod enc P W 0 spare held n e cs = some z → ∀ i, i < w → ∃ p : Int, cs[i]? = some (.int .i64 p))
  (hspt : ∀ y l c, v = .slice (some y) l c → y.spot = none ∧ y.block < W.heap.size)
  (hs : ∀ b, spare b = true) (h : DataW.trod enc P W 0 spare held fuel t [v] = some x) : ∃ a : Option ArgS, v = argVal a ∧ argCl W a ∧ argW w a := by
 rcases DataW.trod_slice ht h with ⟨h0, _⟩ | ⟨y, l, c, elems, rest, n, _, hcs, rfl, _, hl, hm, hlen, hel, hsp, _⟩
 ·simp at h0
  exact ⟨none, h0, trivial, trivial⟩
 ·simp at hcs
  subst hcs
  obtain ⟨hrl, hr⟩ := hsp (hs _)
  obtain ⟨hspt, hb⟩ := hspt _ _ _ rfl
  obtain ⟨b, o, sp⟩ := y
  subst hspt
  have ad : ∀ (b o i : Nat), (⟨b, o, none⟩ : Addr).add i = (⟨b, o + i, none⟩ : Addr) := by
   intro b o i
   unfold Addr.add
   split
   ·rename_i h0; subst h0; rfl
   ·rfl
  have each : ∀ j, j < c → ∀ i, i < w → ∃ p : Int, W.cell? ⟨b, o + j * w + i, none⟩ = some (.int .i64 p) := by
   intro j hj i hi
   have hb : ∃ z, (W.cells? 0 ((⟨b, o, none⟩ : Addr).add (j * w)) w).bind (DataW.trod enc P W 0 spare held n e) = some z := by
    by_cases h1 : j < l
    ·have := hel j h1
     rw [hc] at this
     rw [this]
     exact ⟨_, List.getElem?_eq_getElem (by omega)⟩
    ·have := hr (j - l) (by omega)
     rw [hc, show l + (j - l) = j by omega] at this
     rw [this]
     exact ⟨_, List.getElem?_eq_getElem (by omega)⟩
   obtain ⟨z, hz⟩ := hb
   rw [Option.bind_eq_some_iff] at hz
   obtain ⟨cs, hcs, hz⟩ := hz
   obtain ⟨p, hp⟩ := hel0 _ _ _ hz i hi
   have := (World.cells?_some hcs).2.2 i hi
   rw [hp, ad, ad] at this
   exact ⟨p, this⟩
  have hcell : ∀ i, i < c * w → ∃ p : Int, W.cell? ⟨b, o + i, none⟩ = some (.int .i64 p) := by
   intro i hi
   obtain ⟨p, h1⟩ := each (i / w) ((Nat.div_lt_iff_lt_mul hw).2 hi) (i % w) (Nat.mod_lt _ hw)
   rw [Nat.add_assoc, show i / w * w + i % w = i from by rw [Nat.mul_comm]; exact Nat.div_add_mod _ _] at h1
   exact ⟨p, h1⟩
  let f : Nat → Int := fun i => match W.cell? ⟨b, o + i, none⟩ with
   | some (.int .i64 p) => p
   | _ => 0
  refine ⟨some ⟨b, o, l, c, (List.range (c * w)).map f⟩, rfl, ⟨?_, hb⟩, hl, hm, by simp⟩
  intro i x hx
  have hi : i < c * w := by have := (List.getElem?_eq_some_iff.1 hx).1; simpa using this
  obtain ⟨p, hp⟩ := hcell i hi
  have : x = p := by
   have h2 : f i = p := by show (match W.cell? ⟨b, o + i, none⟩ with | some (.int .i64 p) => p | _ => 0) = p; rw [hp]
   simp [hi] at hx
   rw [← hx, h2]
  rw [this]
  exact hp
theorem el_int {P : Program} {W : World} {H : Type} {enc : TypeId × Value → H} {spare held : _} {e : TypeId} (he : P.underlying e = some (.int .i64)) :
  ∀ n cs z, DataW.trod enc P W 0 spare held n e cs = some z → ∀ i, i < 1 → ∃ p : Int, cs[i]? = some (.int .i64 p) := by
 intro n cs z h i hi
 obtain ⟨p, hp, _⟩ := DataW.trod_int he h
 subst hp
 obtain rfl : i = 0 := by omega
 exact ⟨p, rfl⟩
theorem el_arr {P : Program} {W : World} {H : Type} {enc : TypeId × Value → H} {spare held : _} {e i : TypeId} {w : Nat} (he : P.underlying e = some (.array w i)) (hi : P.underlying i = some (.int .i64)) (hc1 : P.cellsOf i = 1) (hcw : P.cellsOf e = w) :
  ∀ n cs z, DataW.trod enc P W 0 spare held n e cs = some z → ∀ k, k < w → ∃ p : Int, cs[k]? = some (.int .i64 p) := by
 intro n cs z h k hk
 obtain ⟨xs, m, _, _, hcl, hxl, hx⟩ := DataW.trod_array he h
 have h0 := hx k hk
 rw [hc1, List.getElem?_eq_getElem (by omega)] at h0
 obtain ⟨p, hp, _⟩ := DataW.trod_int hi h0
 refine ⟨p, ?_⟩
 have h1 : ((cs.drop (k * 1)).take 1)[0]? = some (.int .i64 p) := by rw [hp]; rfl
 rw [List.getElem?_take_of_lt (by omega), List.getElem?_drop] at h1
 simpa using h1
theorem spot_cell {P : Program} {W : World} {t e : TypeId} {b0 : Nat} {v : Value} (ht : P.underlying t = some (.slice e)) (hv : Cell.okWide P W .any b0 t v) : ∀ y l c, v = .slice (some y) l c → y.spot = none ∧ y.block < W.heap.size := by
 intro y l c e
 subst e
 simp only [ht, Cell.okWide, Cell.ok] at hv
 obtain ⟨_, _, _, hsp, row, cells, hsh, _⟩ := hv
 refine ⟨hsp, ?_⟩
 unfold World.shape? at hsh
 by_cases hlt : y.block < W.heap.size
 ·exact hlt
 ·rw [show W.heap[y.block]? = none from Array.getElem?_eq_none (by omega)] at hsh
  simp at hsh
theorem slice_argI {P : Program} {W : World} {H : Type} {enc : TypeId × Value → H} {spare held : _} {fuel : Nat} {t e : TypeId} {v : Value} {x : _} {b0 : Nat} (ht : P.underlying t = some (.slice e)) (he : P.underlying e = some (.int .i64)) (hc : P.cellsOf e = 1) (hv : Value.okWide P W .any b0 t v)
  (hs : ∀ b, spare b = true) (h : DataW.trod enc P W 0 spare held fuel t [v] = some x) : ∃ a : Option ArgS, v = argVal a ∧ argCl W a ∧ argW 1 a := by
 have hv' : Cell.okWide P W .any b0 t v := by
  unfold Value.okWide at hv
  rw [ht] at hv
  exact hv
 exact slice_cells ht hc (by omega) (el_int he) (spot_cell ht hv') hs h
theorem ground_arg {P : Program} {W : World} {H : Type} {enc : TypeId × Value → H} {spare held : _} {fuel : Nat} {t ti t2 t3 e2 e3 : TypeId} {fs : Array Field} {f0 f1 f2 : Field} {cs : Array Value} {x : _} {b0 : Nat} (ht : P.underlying t = some (.struct fs)) (hf0 : fs[0]? = some f0) (hf1 : fs[1]? = some f1) (hf2 : fs[2]? = some f2)
  (h0 : f0.type = ti ∧ f0.offset = 0) (h1 : f1.type = t2 ∧ f1.offset = 1) (h2 : f2.type = t3 ∧ f2.offset = 2)
  (hi : P.underlying ti = some (.int .i64)) (hci : P.cellsOf ti = 1) (ht2 : P.underlying t2 = some (.slice e2)) (hct2 : P.cellsOf t2 = 1) (ht3 : P.underlying t3 = some (.slice e3)) (hct3 : P.cellsOf t3 = 1)
  (he2 : P.underlying e2 = some (.array 2 ti)) (hc2 : P.cellsOf e2 = 2) (he3 : P.underlying e3 = some (.array 3 ti)) (hc3 : P.cellsOf e3 = 3) (hct : P.cellsOf t = 3)
  (hcts : P.cellTypes P.depth t = some [ti, t2, t3])
  (hv : Value.okWide P W .any b0 t (.agg cs)) (hs : ∀ b, spare b = true) (h : DataW.trod enc P W 0 spare held fuel t cs.toList = some x) :
  ∃ (n : Int) (a b : Option ArgS), cs = #[.int .i64 n, argVal a, argVal b] ∧ argCl W a ∧ argCl W b ∧ argW 2 a ∧ argW 3 b := by
 unfold Value.okWide at hv
 rw [ht] at hv
 obtain ⟨cs', e, hsz, ts, hts, _, hcell⟩ := hv
 simp only [Value.agg.injEq] at e
 subst e
 rw [hcts] at hts
 injection hts with hts
 subst hts
 rw [hct] at hsz
 obtain ⟨xs, m, _, _, hcl, hxl, hx⟩ := DataW.trod_struct ht h
 have hx0 := hx 0 f0 hf0
 have hx1 := hx 1 f1 hf1
 have hx2 := hx 2 f2 hf2
 rw [h0.1, h0.2, hci] at hx0
 rw [h1.1, h1.2, hct2] at hx1
 rw [h2.1, h2.2, hct3] at hx2
 obtain ⟨l⟩ := cs
 match l, hsz with
 |
  [u0, u1, u2], _ =>
  simp only [List.drop_zero, List.drop_succ_cons, List.take_succ_cons, List.take_zero] at hx0 hx1 hx2
  have c1 : Cell.okWide P W .any b0 t2 u1 := by
   obtain ⟨u, hu, hok⟩ := hcell 1 u1 rfl
   injection hu with hu
   subst hu
   exact hok
  have c2 : Cell.okWide P W .any b0 t3 u2 := by
   obtain ⟨u, hu, hok⟩ := hcell 2 u2 rfl
   injection hu with hu
   subst hu
   exact hok
  have hxl3 : 2 < xs.length := by
   have := (Array.getElem?_eq_some_iff.1 hf2).1
   omega
  rw [List.getElem?_eq_getElem (by omega)] at hx0 hx1 hx2
  obtain ⟨n, hn, _⟩ := DataW.trod_int hi hx0
  simp only [List.cons.injEq, and_true] at hn
  subst hn
  obtain ⟨a, rfl, ha1, ha2⟩ := slice_cells ht2 hc2 (by omega) (el_arr he2 hi hci hc2) (spot_cell ht2 c1) hs hx1
  obtain ⟨b, rfl, hb1, hb2⟩ := slice_cells ht3 hc3 (by omega) (el_arr he3 hi hci hc3) (spot_cell ht3 c2) hs hx2
  exact ⟨n, a, b, rfl, ha1, hb1, ha2, hb2⟩
end Go.Abs

set_option maxRecDepth 20000
set_option maxHeartbeats 4000000
namespace Go.Abs
variable {F : Nat → Option IFn} {cx : Ctx} {k : List Itm} {s : St} {l : List (Nat × AV)} {rows : List Row} {low : Nat} {r : AV × List Row × Nat → Prop}
@[simp] theorem uc17k0 : Ex F cx (.code c17k0 :: k) ⟨mk 16 l, rows, low⟩ r ↔ bnd (evP (rows ++ maskE 0 ([] : List (Nat × Row))) (.fieldA 0 (.c (lk l 1)))) fun v0 => bnd (evP (rows ++ maskE 1 ([] : List (Nat × Row))) (.load1 (.c v0))) fun v1 => bnd (evP (rows ++ maskE 0 ([] : List (Nat × Row))) (.fieldA 1 (.c (lk l 1)))) fun v2 => bnd (evP (rows ++ maskE 8 ([] : List (Nat × Row))) (.load1 (.c v2))) fun v3 => bnd (evE (rows ++ maskE 28 ([] : List (Nat × Row))) (rows.length + ([] : List (Nat × Row)).length) (.app 2 16 (.c (lk l 3)) (.c v3))) fun q4 => q4.2.2 = rows.length + ([] : List (Nat × Row)).length ∧ bnd (some (([] : List (Nat × Row)) ++ List.map (fun (x : Row) => (5, x)) (q4.2.1.drop (rows.length + ([] : List (Nat × Row)).length)))) fun e4 => bnd (evP (rows ++ maskE 0 e4) (.fieldA 2 (.c (lk l 1)))) fun v5 => bnd (evP (rows ++ maskE 128 e4) (.load1 (.c v5))) fun v6 => bnd (evE (rows ++ maskE 508 e4) (rows.length + e4.length) (.app 3 24 (.c (lk l 4)) (.c v6))) fun q7 => q7.2.2 = rows.length + e4.length ∧ bnd (some (e4 ++ List.map (fun (x : Row) => (9, x)) (q7.2.1.drop (rows.length + e4.length)))) fun e7 => bnd (evP (rows ++ List.map (fun (x : Nat × Row) => x.2) e7) (.mkagg [.int .i64 0, .nilslice, .nilslice] [(0, 1, (.c v1)), (1, 1, (.c q4.1)), (2, 1, (.c q7.1))])) fun v8 => bnd (evE (rows ++ List.map (fun (x : Nat × Row) => x.2) e7) low (.storeN 3 (.c (lk l 2)) (.c v8))) fun q9 => Ex F cx k ⟨mk 16 [(15, v8), (14, q7.1), (13, v6), (12, v5), (11, lk l 4), (10, q4.1), (9, v3), (8, v2), (7, lk l 3), (6, v1), (5, v0), (1, lk l 1), (2, lk l 2), (3, lk l 3), (4, lk l 4)], q9.2.1, q9.2.2⟩ r := rg [1, 2, 3, 4] c17r0 rfl (by kernel_rfl)
@[simp] theorem uc17s1 : Ex F cx (.code c17s1 :: k) s r ↔ Ex F cx (.code (.seq c17k0 .ret) :: k) s r := Iff.rfl
@[simp] theorem uc17k2 : Ex F cx (.code c17k2 :: k) ⟨mk 16 l, rows, low⟩ r ↔ Ex F cx k ⟨mk 16 [(4, .nilslice), (1, lk l 1), (2, lk l 2), (3, lk l 3)], rows, low⟩ r := rg [1, 2, 3] c17r2 rfl (by kernel_rfl)
@[simp] theorem uc17s3 : Ex F cx (.code c17s3 :: k) s r ↔ Ex F cx (.code (.seq c17k2 c17s1) :: k) s r := Iff.rfl
@[simp] theorem uc17k4 : Ex F cx (.code c17k4 :: k) ⟨mk 16 l, rows, low⟩ r ↔ Ex F cx k ⟨mk 16 [(3, .nilslice), (1, lk l 1), (2, lk l 2)], rows, low⟩ r := rg [1, 2] c17r4 rfl (by kernel_rfl)
@[simp] theorem uc17s5 : Ex F cx (.code c17s5 :: k) s r ↔ Ex F cx (.code (.seq c17k4 c17s3) :: k) s r := Iff.rfl
@[simp] theorem uc17k6 : Ex F cx (.code c17k6 :: k) ⟨mk 16 l, rows, low⟩ r ↔ bnd (evE rows low (.box (.c (lk l 0)))) fun q0 => bnd (evE q0.2.1 q0.2.2 (.box (.c (.agg [.int .i64 0, .nilslice, .nilslice])))) fun q1 => Ex F cx k ⟨mk 16 [(2, q1.1), (1, q0.1), (0, lk l 0)], q1.2.1, q1.2.2⟩ r := rg [0] c17r6 rfl (by kernel_rfl)
@[simp] theorem uc17b : Ex F cx (.code c17b :: k) s r ↔ Ex F cx (.code (.seq c17k6 c17s5) :: k) s r := Iff.rfl
theorem i17 {x0 : AV} (hF : F 17 = some c17) {q : AV × List Row × Option Nat} (h : Ex F (.fn [.cellN 2 3]) [.code c17b] ⟨mk 16 [(0, x0)], rows, rows.length⟩ fun r => fin rows r.1 r.2.1 r.2.2 = q) : Ret F 17 [x0] rows = some q := Ret_mk hF h
@[simp] theorem uc21k0 : Ex F cx (.code c21k0 :: k) ⟨mk 14 l, rows, low⟩ r ↔ bnd (evP rows (.len 0 (.c (lk l 0)))) fun v0 => bnd (evP rows (.mn [(.c v0), (.c (lk l 1))])) fun v1 => bnd (evP rows (.sliceS 1 (.c (lk l 0)) none (some (.c v1)) none)) fun v2 => bnd (evE rows low (.app 1 8 (.c (lk l 5)) (.c v2))) fun q3 => Ex F cx k ⟨mk 14 [(4, q3.1), (13, q3.1), (12, v2), (11, v1), (10, lk l 1), (9, v0), (8, lk l 0), (7, lk l 0), (6, lk l 5), (0, lk l 0), (1, lk l 1), (5, lk l 5)], q3.2.1, q3.2.2⟩ r := rg [0, 1, 5] c21r0 rfl (by kernel_rfl)
@[simp] theorem uc21s1 : Ex F cx (.code c21s1 :: k) s r ↔ Ex F cx (.code (.seq c21k0 .ret) :: k) s r := Iff.rfl
@[simp] theorem uc21k2 : Ex F cx (.code c21k2 :: k) ⟨mk 14 l, rows, low⟩ r ↔ Ex F cx k ⟨mk 14 [(5, .nilslice), (0, lk l 0), (1, lk l 1)], rows, low⟩ r := rg [0, 1] c21r2 rfl (by kernel_rfl)
@[simp] theorem uc21s3 : Ex F cx (.code c21s3 :: k) s r ↔ Ex F cx (.code (.seq c21k2 c21s1) :: k) s r := Iff.rfl
@[simp] theorem uc21k4 : Ex F cx (.code c21k4 :: k) ⟨mk 14 l, rows, low⟩ r ↔ Ex F cx k ⟨mk 14 [(4, .nilslice), (0, lk l 0), (1, lk l 1)], rows, low⟩ r := rg [0, 1] c21r4 rfl (by kernel_rfl)
@[simp] theorem uc21b : Ex F cx (.code c21b :: k) s r ↔ Ex F cx (.code (.seq c21k4 c21s3) :: k) s r := Iff.rfl
theorem i21 {x0 x1 : AV} (hF : F 21 = some c21) {q : AV × List Row × Option Nat} (h : Ex F (.fn [.t 4]) [.code c21b] ⟨mk 14 [(0, x0), (1, x1)], rows, rows.length⟩ fun r => fin rows r.1 r.2.1 r.2.2 = q) : Ret F 21 [x0, x1] rows = some q := Ret_mk hF h
@[simp] theorem uc26k0 : Ex F cx (.code c26k0 :: k) ⟨mk 26 l, rows, low⟩ r ↔ bnd (evP (rows ++ maskE 0 ([] : List (Nat × Row))) (.fieldA 0 (.c (lk l 1)))) fun v0 => bnd (evP (rows ++ maskE 1 ([] : List (Nat × Row))) (.load1 (.c v0))) fun v1 => bnd (evP (rows ++ maskE 0 ([] : List (Nat × Row))) (.fieldA 1 (.c (lk l 1)))) fun v2 => bnd (evP (rows ++ maskE 8 ([] : List (Nat × Row))) (.load1 (.c v2))) fun v3 => bnd (evP (rows ++ maskE 0 ([] : List (Nat × Row))) (.fieldA 1 (.c (lk l 1)))) fun v4 => bnd (evP (rows ++ maskE 32 ([] : List (Nat × Row))) (.load1 (.c v4))) fun v5 => bnd (evP (rows ++ maskE 96 ([] : List (Nat × Row))) (.len 0 (.c v5))) fun v6 => bnd (evP (rows ++ maskE 224 ([] : List (Nat × Row))) (.mn [(.c v6), (.c (.int .i64 11))])) fun v7 => bnd (evP (rows ++ maskE 504 ([] : List (Nat × Row))) (.sliceS 2 (.c v3) none (some (.c v7)) none)) fun v8 => bnd (evE (rows ++ maskE 1020 ([] : List (Nat × Row))) (rows.length + ([] : List (Nat × Row)).length) (.app 2 16 (.c (lk l 3)) (.c v8))) fun q9 => q9.2.2 = rows.length + ([] : List (Nat × Row)).length ∧ bnd (some (([] : List (Nat × Row)) ++ List.map (fun (x : Row) => (10, x)) (q9.2.1.drop (rows.length + ([] : List (Nat × Row)).length)))) fun e9 => bnd (evP (rows ++ maskE 0 e9) (.fieldA 2 (.c (lk l 1)))) fun v10 => bnd (evP (rows ++ maskE 4096 e9) (.load1 (.c v10))) fun v11 => bnd (evP (rows ++ maskE 0 e9) (.fieldA 2 (.c (lk l 1)))) fun v12 => bnd (evP (rows ++ maskE 16384 e9) (.load1 (.c v12))) fun v13 => bnd (evP (rows ++ maskE 49152 e9) (.len 0 (.c v13))) fun v14 => bnd (evP (rows ++ maskE 114688 e9) (.mn [(.c v14), (.c (.int .i64 7))])) fun v15 => bnd (evP (rows ++ maskE 258048 e9) (.sliceS 3 (.c v11) none (some (.c v15)) none)) fun v16 => bnd (evE (rows ++ maskE 524284 e9) (rows.length + e9.length) (.app 3 24 (.c (lk l 4)) (.c v16))) fun q17 => q17.2.2 = rows.length + e9.length ∧ bnd (some (e9 ++ List.map (fun (x : Row) => (19, x)) (q17.2.1.drop (rows.length + e9.length)))) fun e17 => bnd (evP (rows ++ List.map (fun (x : Nat × Row) => x.2) e17) (.mkagg [.int .i64 0, .nilslice, .nilslice] [(0, 1, (.c v1)), (1, 1, (.c q9.1)), (2, 1, (.c q17.1))])) fun v18 => bnd (evE (rows ++ List.map (fun (x : Nat × Row) => x.2) e17) low (.storeN 3 (.c (lk l 2)) (.c v18))) fun q19 => Ex F cx k ⟨mk 26 [(25, v18), (24, q17.1), (23, v16), (22, v15), (21, v14), (20, v13), (19, v12), (18, v11), (17, v10), (16, lk l 4), (15, q9.1), (14, v8), (13, v7), (12, v6), (11, v5), (10, v4), (9, v3), (8, v2), (7, lk l 3), (6, v1), (5, v0), (1, lk l 1), (2, lk l 2), (3, lk l 3), (4, lk l 4)], q19.2.1, q19.2.2⟩ r := rg [1, 2, 3, 4] c26r0 rfl (by kernel_rfl)
@[simp] theorem uc26s1 : Ex F cx (.code c26s1 :: k) s r ↔ Ex F cx (.code (.seq c26k0 .ret) :: k) s r := Iff.rfl
@[simp] theorem uc26k2 : Ex F cx (.code c26k2 :: k) ⟨mk 26 l, rows, low⟩ r ↔ Ex F cx k ⟨mk 26 [(4, .nilslice), (1, lk l 1), (2, lk l 2), (3, lk l 3)], rows, low⟩ r := rg [1, 2, 3] c26r2 rfl (by kernel_rfl)
@[simp] theorem uc26s3 : Ex F cx (.code c26s3 :: k) s r ↔ Ex F cx (.code (.seq c26k2 c26s1) :: k) s r := Iff.rfl
@[simp] theorem uc26k4 : Ex F cx (.code c26k4 :: k) ⟨mk 26 l, rows, low⟩ r ↔ Ex F cx k ⟨mk 26 [(3, .nilslice), (1, lk l 1), (2, lk l 2)], rows, low⟩ r := rg [1, 2] c26r4 rfl (by kernel_rfl)
@[simp] theorem uc26s5 : Ex F cx (.code c26s5 :: k) s r ↔ Ex F cx (.code (.seq c26k4 c26s3) :: k) s r := Iff.rfl
@[simp] theorem uc26k6 : Ex F cx (.code c26k6 :: k) ⟨mk 26 l, rows, low⟩ r ↔ bnd (evE rows low (.box (.c (lk l 0)))) fun q0 => bnd (evE q0.2.1 q0.2.2 (.box (.c (.agg [.int .i64 0, .nilslice, .nilslice])))) fun q1 => Ex F cx k ⟨mk 26 [(2, q1.1), (1, q0.1), (0, lk l 0)], q1.2.1, q1.2.2⟩ r := rg [0] c26r6 rfl (by kernel_rfl)
@[simp] theorem uc26b : Ex F cx (.code c26b :: k) s r ↔ Ex F cx (.code (.seq c26k6 c26s5) :: k) s r := Iff.rfl
theorem i26 {x0 : AV} (hF : F 26 = some c26) {q : AV × List Row × Option Nat} (h : Ex F (.fn [.cellN 2 3]) [.code c26b] ⟨mk 26 [(0, x0)], rows, rows.length⟩ fun r => fin rows r.1 r.2.1 r.2.2 = q) : Ret F 26 [x0] rows = some q := Ret_mk hF h
@[simp] theorem uc36s1 : Ex F cx (.code c36s1 :: k) s r ↔ Ex F cx (.code (.seq c36k0 .ret) :: k) s r := Iff.rfl
@[simp] theorem uc36s6 : Ex F cx (.code c36s6 :: k) s r ↔ Ex F cx (.code (.cond (.t 62) c36k4 c36k5) :: k) s r := Iff.rfl
@[simp] theorem uc36s8 : Ex F cx (.code c36s8 :: k) s r ↔ Ex F cx (.code (.seq c36k7 c36s6) :: k) s r := Iff.rfl
@[simp] theorem uc36s10 : Ex F cx (.code c36s10 :: k) s r ↔ Ex F cx (.code (.cond (.t 59) (.seq c36k9 .ret) .skip) :: k) s r := Iff.rfl
@[simp] theorem uc36s12 : Ex F cx (.code c36s12 :: k) s r ↔ Ex F cx (.code (.seq (.seq c36k11 c36s10) c36s8) :: k) s r := Iff.rfl
@[simp] theorem uc36s14 : Ex F cx (.code c36s14 :: k) s r ↔ Ex F cx (.code (.seq c36k13 c36s12) :: k) s r := Iff.rfl
@[simp] theorem uc36s16 : Ex F cx (.code c36s16 :: k) s r ↔ Ex F cx (.code (.seq c36k15 c36s14) :: k) s r := Iff.rfl
@[simp] theorem uc36s18 : Ex F cx (.code c36s18 :: k) s r ↔ Ex F cx (.code (.seq (.block 1 (.seq c36k17 c36s16)) c36k3) :: k) s r := Iff.rfl
@[simp] theorem uc36s19 : Ex F cx (.code c36s19 :: k) s r ↔ Ex F cx (.code (.seq (.cond (.t 29) .skip (.exit 0)) c36s18) :: k) s r := Iff.rfl
@[simp] theorem uc36s21 : Ex F cx (.code c36s21 :: k) s r ↔ Ex F cx (.code (.block 0 (.loop c36l2)) :: k) s r := Iff.rfl
@[simp] theorem uc36k22 : Ex F cx (.code c36k22 :: k) ⟨mk 77 l, rows, low⟩ r ↔ bnd (evP rows (.len 0 (.c (lk l 2)))) fun v0 => Ex F cx k ⟨mk 77 [(28, (.int .i64 0)), (27, v0), (26, lk l 2), (1, lk l 1), (2, lk l 2), (3, lk l 3), (10, lk l 10)], rows, low⟩ r := rg [1, 2, 3, 10] c36r22 rfl (by kernel_rfl)
@[simp] theorem uc36s23 : Ex F cx (.code c36s23 :: k) s r ↔ Ex F cx (.code (.seq (.seq c36k22 c36s21) c36s1) :: k) s r := Iff.rfl
@[simp] theorem uc36k24 : Ex F cx (.code c36k24 :: k) ⟨mk 77 l, rows, low⟩ r ↔ Ex F cx k ⟨mk 77 [(10, (.int .i64 0)), (1, lk l 1), (2, lk l 2), (3, lk l 3)], rows, low⟩ r := rg [1, 2, 3] c36r24 rfl (by kernel_rfl)
@[simp] theorem uc36s25 : Ex F cx (.code c36s25 :: k) s r ↔ Ex F cx (.code (.seq c36k24 c36s23) :: k) s r := Iff.rfl
@[simp] theorem uc36k26 : Ex F cx (.code c36k26 :: k) ⟨mk 77 l, rows, low⟩ r ↔ Ex F cx k ⟨mk 77 [(8, (.int .i64 0)), (7, (.bool false)), (6, (.int .i64 0))], rows, low⟩ r := rg [] c36r26 rfl (by kernel_rfl)
@[simp] theorem uc36s27 : Ex F cx (.code c36s27 :: k) s r ↔ Ex F cx (.code (.cond (.t 25) (.seq c36k26 .ret) .skip) :: k) s r := Iff.rfl
@[simp] theorem uc36k28 : Ex F cx (.code c36k28 :: k) ⟨mk 77 l, rows, low⟩ r ↔ bnd (evP rows (.len 0 (.c (lk l 2)))) fun v0 => bnd (evP rows (.bin .lss (.c v0) (.c (.int .i64 3)))) fun v1 => Ex F cx k ⟨mk 77 [(25, v1), (24, v0), (23, lk l 2), (1, lk l 1), (2, lk l 2), (3, lk l 3)], rows, low⟩ r := rg [1, 2, 3] c36r28 rfl (by kernel_rfl)
@[simp] theorem uc36s29 : Ex F cx (.code c36s29 :: k) s r ↔ Ex F cx (.code (.seq (.seq c36k28 c36s27) c36s25) :: k) s r := Iff.rfl
@[simp] theorem uc36k30 : Ex F cx (.code c36k30 :: k) ⟨mk 77 l, rows, low⟩ r ↔ Ex F cx k ⟨mk 77 [(8, lk l 9), (7, (.bool false)), (6, (.int .i64 0)), (22, lk l 9), (9, lk l 9)], rows, low⟩ r := rg [9] c36r30 rfl (by kernel_rfl)
@[simp] theorem uc36s31 : Ex F cx (.code c36s31 :: k) s r ↔ Ex F cx (.code (.cond (.t 21) (.seq c36k30 .ret) .skip) :: k) s r := Iff.rfl
@[simp] theorem uc36k32 : Ex F cx (.code c36k32 :: k) ⟨mk 77 l, rows, low⟩ r ↔ bnd (evP rows (.bin .neq (.c (lk l 9)) (.c (.int .i64 0)))) fun v0 => Ex F cx k ⟨mk 77 [(21, v0), (20, lk l 9), (1, lk l 1), (2, lk l 2), (3, lk l 3), (9, lk l 9)], rows, low⟩ r := rg [1, 2, 3, 9] c36r32 rfl (by kernel_rfl)
@[simp] theorem uc36s33 : Ex F cx (.code c36s33 :: k) s r ↔ Ex F cx (.code (.seq c36k32 c36s31) :: k) s r := Iff.rfl
@[simp] theorem uc36k34 : Ex F cx (.code c36k34 :: k) ⟨mk 77 l, rows, low⟩ r ↔ bnd (evP rows (.loadN 3 (.c (lk l 3)))) fun v0 => bnd (evP rows (.loadN 3 (.c (lk l 3)))) fun v1 => bnd (evP rows (.bind 67 [(.c v1)])) fun v2 => bnd (Ret F 66 [v0, lk l 1, v2] rows) fun q3 => Ex F cx k ⟨mk 77 [(9, q3.1), (19, q3.1), (18, v2), (17, v1), (16, lk l 1), (15, v0), (1, lk l 1), (2, lk l 2), (3, lk l 3)], q3.2.1, (lowO low q3.2.2)⟩ r := rg [1, 2, 3] c36r34 rfl (by kernel_rfl)
@[simp] theorem uc36s35 : Ex F cx (.code c36s35 :: k) s r ↔ Ex F cx (.code (.seq (.seq c36k34 c36s33) c36s29) :: k) s r := Iff.rfl
@[simp] theorem uc36k36 : Ex F cx (.code c36k36 :: k) ⟨mk 77 l, rows, low⟩ r ↔ bnd (evE rows low (.box (.c (lk l 0)))) fun q0 => Ex F cx k ⟨mk 77 [(8, (.int .i64 0)), (7, (.bool false)), (6, (.int .i64 0)), (3, q0.1), (0, lk l 0), (1, lk l 1), (2, lk l 2)], q0.2.1, q0.2.2⟩ r := rg [0, 1, 2] c36r36 rfl (by kernel_rfl)
def Jc36s8 (F : Nat → Option IFn) (cx : Ctx) (x1 x2 x3 x10 x12 x13 x14 x26 x27 x28 : AV) (rows : List Row) (low : Nat) (r : AV × List Row × Nat → Prop) : Prop := Ex F cx (.code c36s8 :: .inBlock 1 :: .code c36k3 :: .inLoop c36l2 :: .inBlock 0 :: .code c36s1 :: []) ⟨mk 77 [(1, x1), (2, x2), (3, x3), (10, x10), (12, x12), (13, x13), (14, x14), (26, x26), (27, x27), (28, x28)], rows, low⟩ r
def Jc36s18 (F : Nat → Option IFn) (cx : Ctx) (x1 x2 x3 x10 x26 x27 x28 : AV) (rows : List Row) (low : Nat) (r : AV × List Row × Nat → Prop) : Prop := Ex F cx (.code c36s18 :: .inLoop c36l2 :: .inBlock 0 :: .code c36s1 :: []) ⟨mk 77 [(1, x1), (2, x2), (3, x3), (10, x10), (26, x26), (27, x27), (28, x28)], rows, low⟩ r
def Lc36l2 (F : Nat → Option IFn) (cx : Ctx) (x1 x2 x3 x10 x26 x27 x28 : AV) (rows : List Row) (low : Nat) (r : AV × List Row × Nat → Prop) : Prop := Ex F cx (.code c36l2 :: .inLoop c36l2 :: .inBlock 0 :: .code c36s1 :: []) ⟨mk 77 [(1, x1), (2, x2), (3, x3), (10, x10), (26, x26), (27, x27), (28, x28)], rows, low⟩ r
@[simp] theorem ec36l2 : Ex F cx (.code (.loop c36l2) :: .inBlock 0 :: .code c36s1 :: []) ⟨mk 77 l, rows, low⟩ r ↔ Lc36l2 F cx (lk l 1) (lk l 2) (lk l 3) (lk l 10) (lk l 26) (lk l 27) (lk l 28) rows low r := loopE (keep := [1, 2, 3, 10, 26, 27, 28]) (by kernel_rfl)
@[simp] theorem uc36l2 : Ex F cx (.code c36l2 :: k) s r ↔ Ex F cx (.code (.seq c36k20 c36s19) :: k) s r := Iff.rfl
def Jc36s25 (F : Nat → Option IFn) (cx : Ctx) (x1 x2 x3 : AV) (rows : List Row) (low : Nat) (r : AV × List Row × Nat → Prop) : Prop := Ex F cx (.code c36s25 :: []) ⟨mk 77 [(1, x1), (2, x2), (3, x3)], rows, low⟩ r
def Jc36s29 (F : Nat → Option IFn) (cx : Ctx) (x1 x2 x3 : AV) (rows : List Row) (low : Nat) (r : AV × List Row × Nat → Prop) : Prop := Ex F cx (.code c36s29 :: []) ⟨mk 77 [(1, x1), (2, x2), (3, x3)], rows, low⟩ r
@[simp] theorem uc36b : Ex F cx (.code c36b :: k) s r ↔ Ex F cx (.code (.seq c36k36 c36s35) :: k) s r := Iff.rfl
theorem i36 {x0 x1 x2 : AV} (hF : F 36 = some c36) {q : AV × List Row × Option Nat} (h : Ex F (.fn [.t 6, .t 7, .t 8]) [.code c36b] ⟨mk 77 [(0, x0), (1, x1), (2, x2)], rows, rows.length⟩ fun r => fin rows r.1 r.2.1 r.2.2 = q) : Ret F 36 [x0, x1, x2] rows = some q := Ret_mk hF h
@[simp] theorem uc59k0 : Ex F cx (.code c59k0 :: k) ⟨mk 133 l, rows, low⟩ r ↔ Ex F cx k ⟨mk 133 [(2, (.int .i64 0))], rows, low⟩ r := rg [] c59r0 rfl (by kernel_rfl)
@[simp] theorem uc59s1 : Ex F cx (.code c59s1 :: k) s r ↔ Ex F cx (.code (.seq c59k0 .ret) :: k) s r := Iff.rfl
@[simp] theorem uc59k3 : Ex F cx (.code c59k3 :: k) ⟨mk 133 l, rows, low⟩ r ↔ bnd (evP rows (.bin .add (.c (lk l 73)) (.c (.int .i64 1)))) fun v0 => Ex F cx k ⟨mk 133 [(73, v0), (132, v0), (1, lk l 1), (71, lk l 71), (72, lk l 72), (73, lk l 73)], rows, low⟩ r := rg [1, 71, 72, 73] c59r3 rfl (by kernel_rfl)
@[simp] theorem uc59k5 : Ex F cx (.code c59k5 :: k) ⟨mk 133 l, rows, low⟩ r ↔ bnd (evP rows (.bin .add (.c (lk l 122)) (.c (.int .i64 1)))) fun v0 => Ex F cx k ⟨mk 133 [(122, v0), (131, v0), (1, lk l 1), (71, lk l 71), (72, lk l 72), (73, lk l 73), (120, lk l 120), (121, lk l 121), (122, lk l 122)], rows, low⟩ r := rg [1, 71, 72, 73, 120, 121, 122] c59r5 rfl (by kernel_rfl)
@[simp] theorem uc59k6 : Ex F cx (.code c59k6 :: k) ⟨mk 133 l, rows, low⟩ r ↔ Ex F cx k ⟨mk 133 [(2, (.int .i64 30))], rows, low⟩ r := rg [] c59r6 rfl (by kernel_rfl)
@[simp] theorem uc59s7 : Ex F cx (.code c59s7 :: k) s r ↔ Ex F cx (.code (.cond (.t 130) (.seq c59k6 .ret) .skip) :: k) s r := Iff.rfl
@[simp] theorem uc59k8 : Ex F cx (.code c59k8 :: k) ⟨mk 133 l, rows, low⟩ r ↔ bnd (evP rows (.fieldA 1 (.c (lk l 1)))) fun v0 => bnd (evP rows (.load1 (.c v0))) fun v1 => bnd (evP rows (.loadN 2 (.c (lk l 8)))) fun v2 => bnd (Ret F 92 [v1, v2] rows) fun q3 => bnd (evP q3.2.1 (.un .not (.c q3.1))) fun v4 => Ex F cx k ⟨mk 133 [(130, v4), (129, q3.1), (128, v2), (127, v1), (126, v0), (1, lk l 1), (8, lk l 8), (71, lk l 71), (72, lk l 72), (73, lk l 73), (120, lk l 120), (121, lk l 121), (122, lk l 122)], q3.2.1, (lowO low q3.2.2)⟩ r := rg [1, 8, 71, 72, 73, 120, 121, 122] c59r8 rfl (by kernel_rfl)
@[simp] theorem uc59s9 : Ex F cx (.code c59s9 :: k) s r ↔ Ex F cx (.code (.seq c59k8 c59s7) :: k) s r := Iff.rfl
@[simp] theorem uc59k10 : Ex F cx (.code c59k10 :: k) ⟨mk 133 l, rows, low⟩ r ↔ bnd (evP rows (.idxS 2 (.c (lk l 120)) (.c (lk l 122)))) fun v0 => bnd (evP rows (.loadN 2 (.c v0))) fun v1 => bnd (evE rows low (.box (.c (.agg [.int .i64 0, .int .i64 0])))) fun q2 => bnd (evE q2.2.1 q2.2.2 (.storeN 2 (.c q2.1) (.c v1))) fun q3 => Ex F cx k ⟨mk 133 [(8, q2.1), (125, v1), (124, v0), (1, lk l 1), (71, lk l 71), (72, lk l 72), (73, lk l 73), (120, lk l 120), (121, lk l 121), (122, lk l 122)], q3.2.1, q3.2.2⟩ r := rg [1, 71, 72, 73, 120, 121, 122] c59r10 rfl (by kernel_rfl)
@[simp] theorem uc59s11 : Ex F cx (.code c59s11 :: k) s r ↔ Ex F cx (.code (.seq (.block 5 (.seq c59k10 c59s9)) c59k5) :: k) s r := Iff.rfl
@[simp] theorem uc59s12 : Ex F cx (.code c59s12 :: k) s r ↔ Ex F cx (.code (.seq (.cond (.t 123) .skip (.exit 4)) c59s11) :: k) s r := Iff.rfl
@[simp] theorem uc59k13 : Ex F cx (.code c59k13 :: k) ⟨mk 133 l, rows, low⟩ r ↔ bnd (evP rows (.bin .lss (.c (lk l 122)) (.c (lk l 121)))) fun v0 => Ex F cx k ⟨mk 133 [(123, v0), (1, lk l 1), (71, lk l 71), (72, lk l 72), (73, lk l 73), (120, lk l 120), (121, lk l 121), (122, lk l 122)], rows, low⟩ r := rg [1, 71, 72, 73, 120, 121, 122] c59r13 rfl (by kernel_rfl)
@[simp] theorem uc59s14 : Ex F cx (.code c59s14 :: k) s r ↔ Ex F cx (.code (.block 4 (.loop c59l4)) :: k) s r := Iff.rfl
@[simp] theorem uc59k15 : Ex F cx (.code c59k15 :: k) ⟨mk 133 l, rows, low⟩ r ↔ bnd (evP rows (.idxA 3 1 (.c (lk l 6)) (.c (.int .i64 0)))) fun v0 => bnd (evP rows (.load1 (.c v0))) fun v1 => bnd (evP rows (.idxA 3 1 (.c (lk l 6)) (.c (.int .i64 1)))) fun v2 => bnd (evP rows (.load1 (.c v2))) fun v3 => bnd (evP rows (.mkagg [.int .i64 0, .int .i64 0] [(0, 1, (.c v1)), (1, 1, (.c v3))])) fun v4 => bnd (evP rows (.idxA 3 1 (.c (lk l 6)) (.c (.int .i64 0)))) fun v5 => bnd (evP rows (.load1 (.c v5))) fun v6 => bnd (evP rows (.idxA 3 1 (.c (lk l 6)) (.c (.int .i64 2)))) fun v7 => bnd (evP rows (.load1 (.c v7))) fun v8 => bnd (evP rows (.mkagg [.int .i64 0, .int .i64 0] [(0, 1, (.c v6)), (1, 1, (.c v8))])) fun v9 => bnd (evP rows (.idxA 3 1 (.c (lk l 6)) (.c (.int .i64 1)))) fun v10 => bnd (evP rows (.load1 (.c v10))) fun v11 => bnd (evP rows (.idxA 3 1 (.c (lk l 6)) (.c (.int .i64 2)))) fun v12 => bnd (evP rows (.load1 (.c v12))) fun v13 => bnd (evP rows (.mkagg [.int .i64 0, .int .i64 0] [(0, 1, (.c v11)), (1, 1, (.c v13))])) fun v14 => bnd (evE rows low (.mkslice 3 [.int .i64 0, .int .i64 0, .int .i64 0, .int .i64 0, .int .i64 0, .int .i64 0] [(0, 2, (.c v4)), (2, 2, (.c v9)), (4, 2, (.c v14))])) fun q15 => bnd (evP q15.2.1 (.len 0 (.c q15.1))) fun v16 => Ex F cx k ⟨mk 133 [(122, (.int .i64 0)), (121, v16), (120, q15.1), (119, v14), (118, v13), (117, v12), (116, v11), (115, v10), (114, v9), (113, v8), (112, v7), (111, v6), (110, v5), (109, v4), (108, v3), (107, v2), (106, v1), (105, v0), (1, lk l 1), (6, lk l 6), (71, lk l 71), (72, lk l 72), (73, lk l 73)], q15.2.1, q15.2.2⟩ r := rg [1, 6, 71, 72, 73] c59r15 rfl (by kernel_rfl)
@[simp] theorem uc59s16 : Ex F cx (.code c59s16 :: k) s r ↔ Ex F cx (.code (.seq c59k15 c59s14) :: k) s r := Iff.rfl
@[simp] theorem uc59k17 : Ex F cx (.code c59k17 :: k) ⟨mk 133 l, rows, low⟩ r ↔ Ex F cx k ⟨mk 133 [(2, (.int .i64 30))], rows, low⟩ r := rg [] c59r17 rfl (by kernel_rfl)
@[simp] theorem uc59s18 : Ex F cx (.code c59s18 :: k) s r ↔ Ex F cx (.code (.cond (.t 104) (.seq c59k17 .ret) .skip) :: k) s r := Iff.rfl
@[simp] theorem uc59k19 : Ex F cx (.code c59k19 :: k) ⟨mk 133 l, rows, low⟩ r ↔ bnd (evP rows (.idxA 3 1 (.c (lk l 6)) (.c (.int .i64 0)))) fun v0 => bnd (evP rows (.load1 (.c v0))) fun v1 => bnd (evP rows (.idxA 3 1 (.c (lk l 6)) (.c (.int .i64 1)))) fun v2 => bnd (evP rows (.load1 (.c v2))) fun v3 => bnd (evP rows (.bin .geq (.c v1) (.c v3))) fun v4 => bnd (gv v4 false (evP rows (.idxA 3 1 (.c (lk l 6)) (.c (.int .i64 1))))) fun v5 => bnd (gv v4 false (evP rows (.load1 (.c v5)))) fun v6 => bnd (gv v4 false (evP rows (.idxA 3 1 (.c (lk l 6)) (.c (.int .i64 2))))) fun v7 => bnd (gv v4 false (evP rows (.load1 (.c v7)))) fun v8 => bnd (gv v4 false (evP rows (.bin .geq (.c v6) (.c v8)))) fun v9 => bnd (evP rows (.pick (.c v4) (.c (.bool true)) (.c v9))) fun v10 => bnd (gv v10 false (evP rows (.mv (.c (lk l 5))))) fun v11 => bnd (gv v10 false (evP rows (.bin .gtr (.c v11) (.c (.int .i64 0))))) fun v12 => bnd (gv v10 false (evP rows (.mv (.c v12)))) fun v13 => bnd (gv v13 true (evP rows (.fieldA 2 (.c (lk l 1))))) fun v14 => bnd (gv v13 true (evP rows (.load1 (.c v14)))) fun v15 => bnd (gv v13 true (evP rows (.mv (.c (lk l 5))))) fun v16 => bnd (gv v13 true (evP rows (.bin .sub (.c v16) (.c (.int .i64 1))))) fun v17 => bnd (gv v13 true (evP rows (.idxS 3 (.c v15) (.c v17)))) fun v18 => bnd (gv v13 true (evP rows (.sliceA 3 1 (.c v18) none none none))) fun v19 => bnd (gv v13 true (evP rows (.sliceA 3 1 (.c (lk l 6)) none none none))) fun v20 => gcall F v13 true rows low [v19, v20] [] (.func 91 []) fun v21 R21 L21 => bnd (gv v13 true (evP R21 (.bin .geq (.c v21) (.c (.int .i64 0))))) fun v22 => bnd (gv v10 false (evP R21 (.pick (.c v13) (.c v22) (.c (.bool false))))) fun v23 => bnd (evP R21 (.pick (.c v10) (.c (.bool true)) (.c v23))) fun v24 => Ex F cx k ⟨mk 133 [(104, v24), (103, v23), (102, v22), (101, v21), (100, v20), (99, v19), (98, v18), (97, v17), (96, v16), (95, v15), (94, v14), (93, v13), (92, v12), (91, v11), (90, v10), (89, v10), (88, v9), (87, v8), (86, v7), (85, v6), (84, v5), (83, v4), (82, v4), (81, v3), (80, v2), (79, v1), (78, v0), (1, lk l 1), (5, lk l 5), (6, lk l 6), (71, lk l 71), (72, lk l 72), (73, lk l 73)], R21, L21⟩ r := rg [1, 5, 6, 71, 72, 73] c59r19 rfl (by kernel_rfl)
@[simp] theorem uc59s20 : Ex F cx (.code c59s20 :: k) s r ↔ Ex F cx (.code (.seq (.seq c59k19 c59s18) c59s16) :: k) s r := Iff.rfl
@[simp] theorem uc59k21 : Ex F cx (.code c59k21 :: k) ⟨mk 133 l, rows, low⟩ r ↔ bnd (evP rows (.idxS 3 (.c (lk l 71)) (.c (lk l 73)))) fun v0 => bnd (evP rows (.loadN 3 (.c v0))) fun v1 => bnd (evE rows low (.box (.c (.agg [.int .i64 0, .int .i64 0, .int .i64 0])))) fun q2 => bnd (evE q2.2.1 q2.2.2 (.storeN 3 (.c q2.1) (.c v1))) fun q3 => Ex F cx k ⟨mk 133 [(5, lk l 73), (6, q2.1), (77, v1), (76, v0), (75, lk l 73), (1, lk l 1), (71, lk l 71), (72, lk l 72), (73, lk l 73)], q3.2.1, q3.2.2⟩ r := rg [1, 71, 72, 73] c59r21 rfl (by kernel_rfl)
@[simp] theorem uc59s22 : Ex F cx (.code c59s22 :: k) s r ↔ Ex F cx (.code (.seq (.block 3 (.seq c59k21 c59s20)) c59k3) :: k) s r := Iff.rfl
@[simp] theorem uc59s23 : Ex F cx (.code c59s23 :: k) s r ↔ Ex F cx (.code (.seq (.cond (.t 74) .skip (.exit 2)) c59s22) :: k) s r := Iff.rfl
@[simp] theorem uc59k24 : Ex F cx (.code c59k24 :: k) ⟨mk 133 l, rows, low⟩ r ↔ bnd (evP rows (.bin .lss (.c (lk l 73)) (.c (lk l 72)))) fun v0 => Ex F cx k ⟨mk 133 [(74, v0), (1, lk l 1), (71, lk l 71), (72, lk l 72), (73, lk l 73)], rows, low⟩ r := rg [1, 71, 72, 73] c59r24 rfl (by kernel_rfl)
@[simp] theorem uc59s25 : Ex F cx (.code c59s25 :: k) s r ↔ Ex F cx (.code (.block 2 (.loop c59l2)) :: k) s r := Iff.rfl
@[simp] theorem uc59k26 : Ex F cx (.code c59k26 :: k) ⟨mk 133 l, rows, low⟩ r ↔ bnd (evP rows (.fieldA 2 (.c (lk l 1)))) fun v0 => bnd (evP rows (.load1 (.c v0))) fun v1 => bnd (evP rows (.len 0 (.c v1))) fun v2 => Ex F cx k ⟨mk 133 [(73, (.int .i64 0)), (72, v2), (71, v1), (70, v0), (1, lk l 1)], rows, low⟩ r := rg [1] c59r26 rfl (by kernel_rfl)
@[simp] theorem uc59s27 : Ex F cx (.code c59s27 :: k) s r ↔ Ex F cx (.code (.seq (.seq c59k26 c59s25) c59s1) :: k) s r := Iff.rfl
@[simp] theorem uc59k29 : Ex F cx (.code c59k29 :: k) ⟨mk 133 l, rows, low⟩ r ↔ bnd (evP rows (.bin .add (.c (lk l 32)) (.c (.int .i64 1)))) fun v0 => Ex F cx k ⟨mk 133 [(32, v0), (69, v0), (1, lk l 1), (30, lk l 30), (31, lk l 31), (32, lk l 32)], rows, low⟩ r := rg [1, 30, 31, 32] c59r29 rfl (by kernel_rfl)
@[simp] theorem uc59k30 : Ex F cx (.code c59k30 :: k) ⟨mk 133 l, rows, low⟩ r ↔ Ex F cx k ⟨mk 133 [(2, (.int .i64 30))], rows, low⟩ r := rg [] c59r30 rfl (by kernel_rfl)
@[simp] theorem uc59s31 : Ex F cx (.code c59s31 :: k) s r ↔ Ex F cx (.code (.cond (.t 68) (.seq c59k30 .ret) .skip) :: k) s r := Iff.rfl
@[simp] theorem uc59k32 : Ex F cx (.code c59k32 :: k) ⟨mk 133 l, rows, low⟩ r ↔ bnd (evP rows (.idxA 2 1 (.c (lk l 4)) (.c (.int .i64 0)))) fun v0 => bnd (evP rows (.load1 (.c v0))) fun v1 => bnd (evP rows (.bin .lss (.c v1) (.c (.int .i64 0)))) fun v2 => bnd (gv v2 false (evP rows (.idxA 2 1 (.c (lk l 4)) (.c (.int .i64 0))))) fun v3 => bnd (gv v2 false (evP rows (.load1 (.c v3)))) fun v4 => bnd (gv v2 false (evP rows (.idxA 2 1 (.c (lk l 4)) (.c (.int .i64 1))))) fun v5 => bnd (gv v2 false (evP rows (.load1 (.c v5)))) fun v6 => bnd (gv v2 false (evP rows (.bin .geq (.c v4) (.c v6)))) fun v7 => bnd (evP rows (.pick (.c v2) (.c (.bool true)) (.c v7))) fun v8 => bnd (gv v8 false (evP rows (.idxA 2 1 (.c (lk l 4)) (.c (.int .i64 1))))) fun v9 => bnd (gv v8 false (evP rows (.load1 (.c v9)))) fun v10 => bnd (gv v8 false (evP rows (.fieldA 0 (.c (lk l 1))))) fun v11 => bnd (gv v8 false (evP rows (.load1 (.c v11)))) fun v12 => bnd (gv v8 false (evP rows (.bin .geq (.c v10) (.c v12)))) fun v13 => bnd (evP rows (.pick (.c v8) (.c (.bool true)) (.c v13))) fun v14 => bnd (gv v14 false (evP rows (.mv (.c (lk l 3))))) fun v15 => bnd (gv v14 false (evP rows (.bin .gtr (.c v15) (.c (.int .i64 0))))) fun v16 => bnd (gv v14 false (evP rows (.mv (.c v16)))) fun v17 => bnd (gv v17 true (evP rows (.fieldA 1 (.c (lk l 1))))) fun v18 => bnd (gv v17 true (evP rows (.load1 (.c v18)))) fun v19 => bnd (gv v17 true (evP rows (.mv (.c (lk l 3))))) fun v20 => bnd (gv v17 true (evP rows (.bin .sub (.c v20) (.c (.int .i64 1))))) fun v21 => bnd (gv v17 true (evP rows (.idxS 2 (.c v19) (.c v21)))) fun v22 => bnd (gv v17 true (evP rows (.sliceA 2 1 (.c v22) none none none))) fun v23 => bnd (gv v17 true (evP rows (.sliceA 2 1 (.c (lk l 4)) none none none))) fun v24 => gcall F v17 true rows low [v23, v24] [] (.func 91 []) fun v25 R25 L25 => bnd (gv v17 true (evP R25 (.bin .geq (.c v25) (.c (.int .i64 0))))) fun v26 => bnd (gv v14 false (evP R25 (.pick (.c v17) (.c v26) (.c (.bool false))))) fun v27 => bnd (evP R25 (.pick (.c v14) (.c (.bool true)) (.c v27))) fun v28 => Ex F cx k ⟨mk 133 [(68, v28), (67, v27), (66, v26), (65, v25), (64, v24), (63, v23), (62, v22), (61, v21), (60, v20), (59, v19), (58, v18), (57, v17), (56, v16), (55, v15), (54, v14), (53, v14), (52, v13), (51, v12), (50, v11), (49, v10), (48, v9), (47, v8), (46, v8), (45, v7), (44, v6), (43, v5), (42, v4), (41, v3), (40, v2), (39, v2), (38, v1), (37, v0), (1, lk l 1), (3, lk l 3), (4, lk l 4), (30, lk l 30), (31, lk l 31), (32, lk l 32)], R25, L25⟩ r := rg [1, 3, 4, 30, 31, 32] c59r32 rfl (by kernel_rfl)
@[simp] theorem uc59s33 : Ex F cx (.code c59s33 :: k) s r ↔ Ex F cx (.code (.seq c59k32 c59s31) :: k) s r := Iff.rfl
@[simp] theorem uc59k34 : Ex F cx (.code c59k34 :: k) ⟨mk 133 l, rows, low⟩ r ↔ bnd (evP rows (.idxS 2 (.c (lk l 30)) (.c (lk l 32)))) fun v0 => bnd (evP rows (.loadN 2 (.c v0))) fun v1 => bnd (evE rows low (.box (.c (.agg [.int .i64 0, .int .i64 0])))) fun q2 => bnd (evE q2.2.1 q2.2.2 (.storeN 2 (.c q2.1) (.c v1))) fun q3 => Ex F cx k ⟨mk 133 [(3, lk l 32), (4, q2.1), (36, v1), (35, v0), (34, lk l 32), (1, lk l 1), (30, lk l 30), (31, lk l 31), (32, lk l 32)], q3.2.1, q3.2.2⟩ r := rg [1, 30, 31, 32] c59r34 rfl (by kernel_rfl)
@[simp] theorem uc59s35 : Ex F cx (.code c59s35 :: k) s r ↔ Ex F cx (.code (.seq (.block 1 (.seq c59k34 c59s33)) c59k29) :: k) s r := Iff.rfl
@[simp] theorem uc59s36 : Ex F cx (.code c59s36 :: k) s r ↔ Ex F cx (.code (.seq (.cond (.t 33) .skip (.exit 0)) c59s35) :: k) s r := Iff.rfl
@[simp] theorem uc59k37 : Ex F cx (.code c59k37 :: k) ⟨mk 133 l, rows, low⟩ r ↔ bnd (evP rows (.bin .lss (.c (lk l 32)) (.c (lk l 31)))) fun v0 => Ex F cx k ⟨mk 133 [(33, v0), (1, lk l 1), (30, lk l 30), (31, lk l 31), (32, lk l 32)], rows, low⟩ r := rg [1, 30, 31, 32] c59r37 rfl (by kernel_rfl)
@[simp] theorem uc59s38 : Ex F cx (.code c59s38 :: k) s r ↔ Ex F cx (.code (.block 0 (.loop c59l28)) :: k) s r := Iff.rfl
@[simp] theorem uc59k39 : Ex F cx (.code c59k39 :: k) ⟨mk 133 l, rows, low⟩ r ↔ bnd (evP rows (.fieldA 1 (.c (lk l 1)))) fun v0 => bnd (evP rows (.load1 (.c v0))) fun v1 => bnd (evP rows (.len 0 (.c v1))) fun v2 => Ex F cx k ⟨mk 133 [(32, (.int .i64 0)), (31, v2), (30, v1), (29, v0), (1, lk l 1)], rows, low⟩ r := rg [1] c59r39 rfl (by kernel_rfl)
@[simp] theorem uc59s40 : Ex F cx (.code c59s40 :: k) s r ↔ Ex F cx (.code (.seq (.seq c59k39 c59s38) c59s27) :: k) s r := Iff.rfl
@[simp] theorem uc59k41 : Ex F cx (.code c59k41 :: k) ⟨mk 133 l, rows, low⟩ r ↔ Ex F cx k ⟨mk 133 [(2, (.int .i64 30))], rows, low⟩ r := rg [] c59r41 rfl (by kernel_rfl)
@[simp] theorem uc59s42 : Ex F cx (.code c59s42 :: k) s r ↔ Ex F cx (.code (.cond (.t 28) (.seq c59k41 .ret) .skip) :: k) s r := Iff.rfl
@[simp] theorem uc59k43 : Ex F cx (.code c59k43 :: k) ⟨mk 133 l, rows, low⟩ r ↔ bnd (evP rows (.fieldA 0 (.c (lk l 1)))) fun v0 => bnd (evP rows (.load1 (.c v0))) fun v1 => bnd (evP rows (.bin .lss (.c v1) (.c (.int .i64 1)))) fun v2 => bnd (gv v2 false (evP rows (.fieldA 0 (.c (lk l 1))))) fun v3 => bnd (gv v2 false (evP rows (.load1 (.c v3)))) fun v4 => bnd (gv v2 false (evP rows (.bin .gtr (.c v4) (.c (.int .i64 6))))) fun v5 => bnd (evP rows (.pick (.c v2) (.c (.bool true)) (.c v5))) fun v6 => bnd (gv v6 false (evP rows (.fieldA 1 (.c (lk l 1))))) fun v7 => bnd (gv v6 false (evP rows (.load1 (.c v7)))) fun v8 => bnd (gv v6 false (evP rows (.len 0 (.c v8)))) fun v9 => bnd (gv v6 false (evP rows (.bin .gtr (.c v9) (.c (.int .i64 10))))) fun v10 => bnd (evP rows (.pick (.c v6) (.c (.bool true)) (.c v10))) fun v11 => bnd (gv v11 false (evP rows (.fieldA 2 (.c (lk l 1))))) fun v12 => bnd (gv v11 false (evP rows (.load1 (.c v12)))) fun v13 => bnd (gv v11 false (evP rows (.len 0 (.c v13)))) fun v14 => bnd (gv v11 false (evP rows (.bin .gtr (.c v14) (.c (.int .i64 6))))) fun v15 => bnd (evP rows (.pick (.c v11) (.c (.bool true)) (.c v15))) fun v16 => Ex F cx k ⟨mk 133 [(28, v16), (27, v15), (26, v14), (25, v13), (24, v12), (23, v11), (22, v11), (21, v10), (20, v9), (19, v8), (18, v7), (17, v6), (16, v6), (15, v5), (14, v4), (13, v3), (12, v2), (11, v2), (10, v1), (9, v0), (1, lk l 1)], rows, low⟩ r := rg [1] c59r43 rfl (by kernel_rfl)
@[simp] theorem uc59s44 : Ex F cx (.code c59s44 :: k) s r ↔ Ex F cx (.code (.seq (.seq c59k43 c59s42) c59s40) :: k) s r := Iff.rfl
@[simp] theorem uc59k45 : Ex F cx (.code c59k45 :: k) ⟨mk 133 l, rows, low⟩ r ↔ bnd (evE rows low (.box (.c (lk l 0)))) fun q0 => Ex F cx k ⟨mk 133 [(2, (.int .i64 0)), (1, q0.1), (0, lk l 0)], q0.2.1, q0.2.2⟩ r := rg [0] c59r45 rfl (by kernel_rfl)
def Jc59s11 (F : Nat → Option IFn) (cx : Ctx) (x1 x71 x72 x73 x120 x121 x122 : AV) (rows : List Row) (low : Nat) (r : AV × List Row × Nat → Prop) : Prop := Ex F cx (.code c59s11 :: .inLoop c59l4 :: .inBlock 4 :: .inBlock 3 :: .code c59k3 :: .inLoop c59l2 :: .inBlock 2 :: .code c59s1 :: []) ⟨mk 133 [(1, x1), (71, x71), (72, x72), (73, x73), (120, x120), (121, x121), (122, x122)], rows, low⟩ r
def Lc59l4 (F : Nat → Option IFn) (cx : Ctx) (x1 x71 x72 x73 x120 x121 x122 : AV) (rows : List Row) (low : Nat) (r : AV × List Row × Nat → Prop) : Prop := Ex F cx (.code c59l4 :: .inLoop c59l4 :: .inBlock 4 :: .inBlock 3 :: .code c59k3 :: .inLoop c59l2 :: .inBlock 2 :: .code c59s1 :: []) ⟨mk 133 [(1, x1), (71, x71), (72, x72), (73, x73), (120, x120), (121, x121), (122, x122)], rows, low⟩ r
@[simp] theorem nc59l4 : Ex F cx (.inLoop c59l4 :: .inBlock 4 :: .inBlock 3 :: .code c59k3 :: .inLoop c59l2 :: .inBlock 2 :: .code c59s1 :: []) ⟨mk 133 l, rows, low⟩ r ↔ Lc59l4 F cx (lk l 1) (lk l 71) (lk l 72) (lk l 73) (lk l 120) (lk l 121) (lk l 122) rows low r := loopN (keep := [1, 71, 72, 73, 120, 121, 122]) (by kernel_rfl)
@[simp] theorem ec59l4 : Ex F cx (.code (.loop c59l4) :: .inBlock 4 :: .inBlock 3 :: .code c59k3 :: .inLoop c59l2 :: .inBlock 2 :: .code c59s1 :: []) ⟨mk 133 l, rows, low⟩ r ↔ Lc59l4 F cx (lk l 1) (lk l 71) (lk l 72) (lk l 73) (lk l 120) (lk l 121) (lk l 122) rows low r := loopE (keep := [1, 71, 72, 73, 120, 121, 122]) (by kernel_rfl)
@[simp] theorem uc59l4 : Ex F cx (.code c59l4 :: k) s r ↔ Ex F cx (.code (.seq c59k13 c59s12) :: k) s r := Iff.rfl
def Jc59s16 (F : Nat → Option IFn) (cx : Ctx) (x1 x6 x71 x72 x73 : AV) (rows : List Row) (low : Nat) (r : AV × List Row × Nat → Prop) : Prop := Ex F cx (.code c59s16 :: .inBlock 3 :: .code c59k3 :: .inLoop c59l2 :: .inBlock 2 :: .code c59s1 :: []) ⟨mk 133 [(1, x1), (6, x6), (71, x71), (72, x72), (73, x73)], rows, low⟩ r
theorem jc59s16 : Ex F cx (.code c59s16 :: .inBlock 3 :: .code c59k3 :: .inLoop c59l2 :: .inBlock 2 :: .code c59s1 :: []) ⟨mk 133 l, rows, low⟩ r ↔ Jc59s16 F cx (lk l 1) (lk l 6) (lk l 71) (lk l 72) (lk l 73) rows low r := Ex_canon (keep := [1, 6, 71, 72, 73]) (by kernel_rfl)
def Jc59s22 (F : Nat → Option IFn) (cx : Ctx) (x1 x71 x72 x73 : AV) (rows : List Row) (low : Nat) (r : AV × List Row × Nat → Prop) : Prop := Ex F cx (.code c59s22 :: .inLoop c59l2 :: .inBlock 2 :: .code c59s1 :: []) ⟨mk 133 [(1, x1), (71, x71), (72, x72), (73, x73)], rows, low⟩ r
def Lc59l2 (F : Nat → Option IFn) (cx : Ctx) (x1 x71 x72 x73 : AV) (rows : List Row) (low : Nat) (r : AV × List Row × Nat → Prop) : Prop := Ex F cx (.code c59l2 :: .inLoop c59l2 :: .inBlock 2 :: .code c59s1 :: []) ⟨mk 133 [(1, x1), (71, x71), (72, x72), (73, x73)], rows, low⟩ r
@[simp] theorem nc59l2 : Ex F cx (.inLoop c59l2 :: .inBlock 2 :: .code c59s1 :: []) ⟨mk 133 l, rows, low⟩ r ↔ Lc59l2 F cx (lk l 1) (lk l 71) (lk l 72) (lk l 73) rows low r := loopN (keep := [1, 71, 72, 73]) (by kernel_rfl)
@[simp] theorem ec59l2 : Ex F cx (.code (.loop c59l2) :: .inBlock 2 :: .code c59s1 :: []) ⟨mk 133 l, rows, low⟩ r ↔ Lc59l2 F cx (lk l 1) (lk l 71) (lk l 72) (lk l 73) rows low r := loopE (keep := [1, 71, 72, 73]) (by kernel_rfl)
@[simp] theorem uc59l2 : Ex F cx (.code c59l2 :: k) s r ↔ Ex F cx (.code (.seq c59k24 c59s23) :: k) s r := Iff.rfl
def Jc59s35 (F : Nat → Option IFn) (cx : Ctx) (x1 x30 x31 x32 : AV) (rows : List Row) (low : Nat) (r : AV × List Row × Nat → Prop) : Prop := Ex F cx (.code c59s35 :: .inLoop c59l28 :: .inBlock 0 :: .code c59s27 :: []) ⟨mk 133 [(1, x1), (30, x30), (31, x31), (32, x32)], rows, low⟩ r
def Lc59l28 (F : Nat → Option IFn) (cx : Ctx) (x1 x30 x31 x32 : AV) (rows : List Row) (low : Nat) (r : AV × List Row × Nat → Prop) : Prop := Ex F cx (.code c59l28 :: .inLoop c59l28 :: .inBlock 0 :: .code c59s27 :: []) ⟨mk 133 [(1, x1), (30, x30), (31, x31), (32, x32)], rows, low⟩ r
@[simp] theorem nc59l28 : Ex F cx (.inLoop c59l28 :: .inBlock 0 :: .code c59s27 :: []) ⟨mk 133 l, rows, low⟩ r ↔ Lc59l28 F cx (lk l 1) (lk l 30) (lk l 31) (lk l 32) rows low r := loopN (keep := [1, 30, 31, 32]) (by kernel_rfl)
@[simp] theorem ec59l28 : Ex F cx (.code (.loop c59l28) :: .inBlock 0 :: .code c59s27 :: []) ⟨mk 133 l, rows, low⟩ r ↔ Lc59l28 F cx (lk l 1) (lk l 30) (lk l 31) (lk l 32) rows low r := loopE (keep := [1, 30, 31, 32]) (by kernel_rfl)
@[simp] theorem uc59l28 : Ex F cx (.code c59l28 :: k) s r ↔ Ex F cx (.code (.seq c59k37 c59s36) :: k) s r := Iff.rfl
def Jc59s40 (F : Nat → Option IFn) (cx : Ctx) (x1 : AV) (rows : List Row) (low : Nat) (r : AV × List Row × Nat → Prop) : Prop := Ex F cx (.code c59s40 :: []) ⟨mk 133 [(1, x1)], rows, low⟩ r
@[simp] theorem uc59b : Ex F cx (.code c59b :: k) s r ↔ Ex F cx (.code (.seq c59k45 c59s44) :: k) s r := Iff.rfl
theorem i59 {x0 : AV} (hF : F 59 = some c59) {q : AV × List Row × Option Nat} (h : Ex F (.fn [.t 2]) [.code c59b] ⟨mk 133 [(0, x0)], rows, rows.length⟩ fun r => fin rows r.1 r.2.1 r.2.2 = q) : Ret F 59 [x0] rows = some q := Ret_mk hF h
@[simp] theorem uc60k0 : Ex F cx (.code c60k0 :: k) ⟨mk 29 l, rows, low⟩ r ↔ Ex F cx k ⟨mk 29 [(6, (.int .i64 (-1)))], rows, low⟩ r := rg [] c60r0 rfl (by kernel_rfl)
@[simp] theorem uc60s1 : Ex F cx (.code c60s1 :: k) s r ↔ Ex F cx (.code (.seq c60k0 .ret) :: k) s r := Iff.rfl
@[simp] theorem uc60k3 : Ex F cx (.code c60k3 :: k) ⟨mk 29 l, rows, low⟩ r ↔ bnd (evP rows (.bin .add (.c (lk l 7)) (.c (.int .i64 1)))) fun v0 => Ex F cx k ⟨mk 29 [(7, v0), (14, v0), (13, lk l 7), (1, lk l 1), (2, lk l 2), (3, lk l 3), (7, lk l 7)], rows, low⟩ r := rg [1, 2, 3, 7] c60r3 rfl (by kernel_rfl)
@[simp] theorem uc60k4 : Ex F cx (.code c60k4 :: k) ⟨mk 29 l, rows, low⟩ r ↔ Ex F cx k ⟨mk 29 [(6, lk l 7), (28, lk l 7), (7, lk l 7)], rows, low⟩ r := rg [7] c60r4 rfl (by kernel_rfl)
@[simp] theorem uc60s5 : Ex F cx (.code c60s5 :: k) s r ↔ Ex F cx (.code (.cond (.t 27) (.seq c60k4 .ret) .skip) :: k) s r := Iff.rfl
@[simp] theorem uc60k6 : Ex F cx (.code c60k6 :: k) ⟨mk 29 l, rows, low⟩ r ↔ bnd (evP rows (.fieldA 1 (.c (lk l 3)))) fun v0 => bnd (evP rows (.load1 (.c v0))) fun v1 => bnd (evP rows (.idxS 2 (.c v1) (.c (lk l 7)))) fun v2 => bnd (evP rows (.loadN 2 (.c v2))) fun v3 => bnd (evP rows (.mn [(.c (lk l 1)), (.c (lk l 2))])) fun v4 => bnd (evP rows (.mx [(.c (lk l 1)), (.c (lk l 2))])) fun v5 => bnd (evP rows (.mkagg [.int .i64 0, .int .i64 0] [(0, 1, (.c v4)), (1, 1, (.c v5))])) fun v6 => bnd (evP rows (.eqv false (.ints 2) (.c v3) (.c v6))) fun v7 => Ex F cx k ⟨mk 29 [(27, v7), (26, v6), (25, v5), (24, lk l 2), (23, lk l 1), (22, v4), (21, lk l 2), (20, lk l 1), (19, v3), (18, v2), (17, lk l 7), (16, v1), (15, v0), (1, lk l 1), (2, lk l 2), (3, lk l 3), (7, lk l 7)], rows, low⟩ r := rg [1, 2, 3, 7] c60r6 rfl (by kernel_rfl)
@[simp] theorem uc60s7 : Ex F cx (.code c60s7 :: k) s r ↔ Ex F cx (.code (.seq (.block 1 (.seq c60k6 c60s5)) c60k3) :: k) s r := Iff.rfl
@[simp] theorem uc60s8 : Ex F cx (.code c60s8 :: k) s r ↔ Ex F cx (.code (.cond (.t 12) .skip (.exit 0)) :: k) s r := Iff.rfl
@[simp] theorem uc60k9 : Ex F cx (.code c60k9 :: k) ⟨mk 29 l, rows, low⟩ r ↔ bnd (evP rows (.fieldA 1 (.c (lk l 3)))) fun v0 => bnd (evP rows (.load1 (.c v0))) fun v1 => bnd (evP rows (.len 0 (.c v1))) fun v2 => bnd (evP rows (.bin .lss (.c (lk l 7)) (.c v2))) fun v3 => Ex F cx k ⟨mk 29 [(12, v3), (11, v2), (10, v1), (9, v0), (8, lk l 7), (1, lk l 1), (2, lk l 2), (3, lk l 3), (7, lk l 7)], rows, low⟩ r := rg [1, 2, 3, 7] c60r9 rfl (by kernel_rfl)
@[simp] theorem uc60s10 : Ex F cx (.code c60s10 :: k) s r ↔ Ex F cx (.code (.block 0 (.loop c60l2)) :: k) s r := Iff.rfl
@[simp] theorem uc60k11 : Ex F cx (.code c60k11 :: k) ⟨mk 29 l, rows, low⟩ r ↔ Ex F cx k ⟨mk 29 [(7, (.int .i64 0)), (1, lk l 1), (2, lk l 2), (3, lk l 3)], rows, low⟩ r := rg [1, 2, 3] c60r11 rfl (by kernel_rfl)
@[simp] theorem uc60s12 : Ex F cx (.code c60s12 :: k) s r ↔ Ex F cx (.code (.seq (.seq c60k11 c60s10) c60s1) :: k) s r := Iff.rfl
@[simp] theorem uc60k13 : Ex F cx (.code c60k13 :: k) ⟨mk 29 l, rows, low⟩ r ↔ bnd (evE rows low (.box (.c (lk l 0)))) fun q0 => Ex F cx k ⟨mk 29 [(6, (.int .i64 0)), (3, q0.1), (0, lk l 0), (1, lk l 1), (2, lk l 2)], q0.2.1, q0.2.2⟩ r := rg [0, 1, 2] c60r13 rfl (by kernel_rfl)
def Jc60s7 (F : Nat → Option IFn) (cx : Ctx) (x1 x2 x3 x7 : AV) (rows : List Row) (low : Nat) (r : AV × List Row × Nat → Prop) : Prop := Ex F cx (.code c60s7 :: .inLoop c60l2 :: .inBlock 0 :: .code c60s1 :: []) ⟨mk 29 [(1, x1), (2, x2), (3, x3), (7, x7)], rows, low⟩ r
def Lc60l2 (F : Nat → Option IFn) (cx : Ctx) (x1 x2 x3 x7 : AV) (rows : List Row) (low : Nat) (r : AV × List Row × Nat → Prop) : Prop := Ex F cx (.code c60l2 :: .inLoop c60l2 :: .inBlock 0 :: .code c60s1 :: []) ⟨mk 29 [(1, x1), (2, x2), (3, x3), (7, x7)], rows, low⟩ r
@[simp] theorem nc60l2 : Ex F cx (.inLoop c60l2 :: .inBlock 0 :: .code c60s1 :: []) ⟨mk 29 l, rows, low⟩ r ↔ Lc60l2 F cx (lk l 1) (lk l 2) (lk l 3) (lk l 7) rows low r := loopN (keep := [1, 2, 3, 7]) (by kernel_rfl)
@[simp] theorem ec60l2 : Ex F cx (.code (.loop c60l2) :: .inBlock 0 :: .code c60s1 :: []) ⟨mk 29 l, rows, low⟩ r ↔ Lc60l2 F cx (lk l 1) (lk l 2) (lk l 3) (lk l 7) rows low r := loopE (keep := [1, 2, 3, 7]) (by kernel_rfl)
@[simp] theorem uc60l2 : Ex F cx (.code c60l2 :: k) s r ↔ Ex F cx (.code (.seq (.seq c60k9 c60s8) c60s7) :: k) s r := Iff.rfl
@[simp] theorem uc60b : Ex F cx (.code c60b :: k) s r ↔ Ex F cx (.code (.seq c60k13 c60s12) :: k) s r := Iff.rfl
theorem i60 {x0 x1 x2 : AV} (hF : F 60 = some c60) {q : AV × List Row × Option Nat} (h : Ex F (.fn [.t 6]) [.code c60b] ⟨mk 29 [(0, x0), (1, x1), (2, x2)], rows, rows.length⟩ fun r => fin rows r.1 r.2.1 r.2.2 = q) : Ret F 60 [x0, x1, x2] rows = some q := Ret_mk hF h
@[simp] theorem uc66k0 : Ex F cx (.code c66k0 :: k) ⟨mk 22 l, rows, low⟩ r ↔ Ex F cx k ⟨mk 22 [(6, (.int .i64 0))], rows, low⟩ r := rg [] c66r0 rfl (by kernel_rfl)
@[simp] theorem uc66s1 : Ex F cx (.code c66s1 :: k) s r ↔ Ex F cx (.code (.seq c66k0 .ret) :: k) s r := Iff.rfl
@[simp] theorem uc66k2 : Ex F cx (.code c66k2 :: k) ⟨mk 22 l, rows, low⟩ r ↔ Ex F cx k ⟨mk 22 [(6, (.int .i64 1))], rows, low⟩ r := rg [] c66r2 rfl (by kernel_rfl)
@[simp] theorem uc66s3 : Ex F cx (.code c66s3 :: k) s r ↔ Ex F cx (.code (.cond (.t 21) (.seq c66k2 .ret) .skip) :: k) s r := Iff.rfl
@[simp] theorem uc66k4 : Ex F cx (.code c66k4 :: k) ⟨mk 22 l, rows, low⟩ r ↔ bnd (evP rows (.len 0 (.c (lk l 1)))) fun v0 => callK F rows low [] (fun v1 R1 L1 => bnd (evP R1 (.bin .neq (.c v0) (.c v1))) fun v2 => bnd (gv v2 false (evP R1 (.mv (.c (lk l 1))))) fun v3 => gcall F v2 false R1 L1 [v3, (.func 94 [])] [] (.func 83 []) fun v4 R4 L4 => bnd (evP R4 (.pick (.c v2) (.c (.bool true)) (.c v4))) fun v5 => Ex F cx k ⟨mk 22 [(21, v5), (20, v4), (19, v3), (18, v2), (17, v2), (16, v1), (15, lk l 2), (14, v0), (13, lk l 1), (1, lk l 1), (2, lk l 2)], R4, L4⟩ r) [] (lk l 2) := rg [1, 2] c66r4 rfl (by kernel_rfl)
@[simp] theorem uc66s5 : Ex F cx (.code c66s5 :: k) s r ↔ Ex F cx (.code (.seq (.seq c66k4 c66s3) c66s1) :: k) s r := Iff.rfl
@[simp] theorem uc66k6 : Ex F cx (.code c66k6 :: k) ⟨mk 22 l, rows, low⟩ r ↔ Ex F cx k ⟨mk 22 [(6, lk l 7), (12, lk l 7), (7, lk l 7)], rows, low⟩ r := rg [7] c66r6 rfl (by kernel_rfl)
@[simp] theorem uc66s7 : Ex F cx (.code c66s7 :: k) s r ↔ Ex F cx (.code (.cond (.t 11) (.seq c66k6 .ret) .skip) :: k) s r := Iff.rfl
@[simp] theorem uc66k8 : Ex F cx (.code c66k8 :: k) ⟨mk 22 l, rows, low⟩ r ↔ bnd (evP rows (.bin .neq (.c (lk l 7)) (.c (.int .i64 0)))) fun v0 => Ex F cx k ⟨mk 22 [(11, v0), (10, lk l 7), (1, lk l 1), (2, lk l 2), (7, lk l 7)], rows, low⟩ r := rg [1, 2, 7] c66r8 rfl (by kernel_rfl)
@[simp] theorem uc66s9 : Ex F cx (.code c66s9 :: k) s r ↔ Ex F cx (.code (.seq c66k8 c66s7) :: k) s r := Iff.rfl
@[simp] theorem uc66k10 : Ex F cx (.code c66k10 :: k) ⟨mk 22 l, rows, low⟩ r ↔ bnd (evP rows (.loadN 3 (.c (lk l 3)))) fun v0 => bnd (Ret F 59 [v0] rows) fun q1 => Ex F cx k ⟨mk 22 [(7, q1.1), (9, q1.1), (8, v0), (1, lk l 1), (2, lk l 2), (3, lk l 3)], q1.2.1, (lowO low q1.2.2)⟩ r := rg [1, 2, 3] c66r10 rfl (by kernel_rfl)
@[simp] theorem uc66s11 : Ex F cx (.code c66s11 :: k) s r ↔ Ex F cx (.code (.seq (.seq c66k10 c66s9) c66s5) :: k) s r := Iff.rfl
@[simp] theorem uc66k12 : Ex F cx (.code c66k12 :: k) ⟨mk 22 l, rows, low⟩ r ↔ bnd (evE rows low (.box (.c (lk l 0)))) fun q0 => Ex F cx k ⟨mk 22 [(6, (.int .i64 0)), (3, q0.1), (0, lk l 0), (1, lk l 1), (2, lk l 2)], q0.2.1, q0.2.2⟩ r := rg [0, 1, 2] c66r12 rfl (by kernel_rfl)
def Jc66s1 (F : Nat → Option IFn) (cx : Ctx) (rows : List Row) (low : Nat) (r : AV × List Row × Nat → Prop) : Prop := Ex F cx (.code c66s1 :: []) ⟨mk 22 [], rows, low⟩ r
def Jc66s5 (F : Nat → Option IFn) (cx : Ctx) (x1 x2 : AV) (rows : List Row) (low : Nat) (r : AV × List Row × Nat → Prop) : Prop := Ex F cx (.code c66s5 :: []) ⟨mk 22 [(1, x1), (2, x2)], rows, low⟩ r
@[simp] theorem uc66b : Ex F cx (.code c66b :: k) s r ↔ Ex F cx (.code (.seq c66k12 c66s11) :: k) s r := Iff.rfl
theorem i66 {x0 x1 x2 : AV} (hF : F 66 = some c66) {q : AV × List Row × Option Nat} (h : Ex F (.fn [.t 6]) [.code c66b] ⟨mk 22 [(0, x0), (1, x1), (2, x2)], rows, rows.length⟩ fun r => fin rows r.1 r.2.1 r.2.2 = q) : Ret F 66 [x0, x1, x2] rows = some q := Ret_mk hF h
@[simp] theorem uc67k0 : Ex F cx (.code c67k0 :: k) ⟨mk 6 l, rows, low⟩ r ↔ bnd (evP rows (.fieldA 1 (.c (lk l 1)))) fun v0 => bnd (evP rows (.load1 (.c v0))) fun v1 => bnd (evP rows (.len 0 (.c v1))) fun v2 => Ex F cx k ⟨mk 6 [(2, v2), (5, v2), (4, v1), (3, v0), (1, lk l 1)], rows, low⟩ r := rg [1] c67r0 rfl (by kernel_rfl)
@[simp] theorem uc67s1 : Ex F cx (.code c67s1 :: k) s r ↔ Ex F cx (.code (.seq c67k0 .ret) :: k) s r := Iff.rfl
@[simp] theorem uc67k2 : Ex F cx (.code c67k2 :: k) ⟨mk 6 l, rows, low⟩ r ↔ bnd (evE rows low (.box (.c (lk l 0)))) fun q0 => Ex F cx k ⟨mk 6 [(2, (.int .i64 0)), (1, q0.1), (0, lk l 0)], q0.2.1, q0.2.2⟩ r := rg [0] c67r2 rfl (by kernel_rfl)
@[simp] theorem uc67b : Ex F cx (.code c67b :: k) s r ↔ Ex F cx (.code (.seq c67k2 c67s1) :: k) s r := Iff.rfl
theorem i67 {x0 : AV} (hF : F 67 = some c67) {q : AV × List Row × Option Nat} (h : Ex F (.fn [.t 2]) [.code c67b] ⟨mk 6 [(0, x0)], rows, rows.length⟩ fun r => fin rows r.1 r.2.1 r.2.2 = q) : Ret F 67 [x0] rows = some q := Ret_mk hF h
@[simp] theorem uc74k0 : Ex F cx (.code c74k0 :: k) ⟨mk 5 l, rows, low⟩ r ↔ bnd (evP rows (.fieldA 0 (.c (lk l 1)))) fun v0 => bnd (evP rows (.load1 (.c v0))) fun v1 => Ex F cx k ⟨mk 5 [(2, v1), (4, v1), (3, v0), (1, lk l 1)], rows, low⟩ r := rg [1] c74r0 rfl (by kernel_rfl)
@[simp] theorem uc74s1 : Ex F cx (.code c74s1 :: k) s r ↔ Ex F cx (.code (.seq c74k0 .ret) :: k) s r := Iff.rfl
@[simp] theorem uc74k2 : Ex F cx (.code c74k2 :: k) ⟨mk 5 l, rows, low⟩ r ↔ bnd (evE rows low (.box (.c (lk l 0)))) fun q0 => Ex F cx k ⟨mk 5 [(2, (.int .i64 0)), (1, q0.1), (0, lk l 0)], q0.2.1, q0.2.2⟩ r := rg [0] c74r2 rfl (by kernel_rfl)
@[simp] theorem uc74b : Ex F cx (.code c74b :: k) s r ↔ Ex F cx (.code (.seq c74k2 c74s1) :: k) s r := Iff.rfl
theorem i74 {x0 : AV} (hF : F 74 = some c74) {q : AV × List Row × Option Nat} (h : Ex F (.fn [.t 2]) [.code c74b] ⟨mk 5 [(0, x0)], rows, rows.length⟩ fun r => fin rows r.1 r.2.1 r.2.2 = q) : Ret F 74 [x0] rows = some q := Ret_mk hF h
@[simp] theorem uc75k0 : Ex F cx (.code c75k0 :: k) ⟨mk 19 l, rows, low⟩ r ↔ Ex F cx k ⟨mk 19 [(4, (.int .i64 (-1)))], rows, low⟩ r := rg [] c75r0 rfl (by kernel_rfl)
@[simp] theorem uc75s1 : Ex F cx (.code c75s1 :: k) s r ↔ Ex F cx (.code (.seq c75k0 .ret) :: k) s r := Iff.rfl
@[simp] theorem uc75k3 : Ex F cx (.code c75k3 :: k) ⟨mk 19 l, rows, low⟩ r ↔ bnd (evP rows (.bin .add (.c (lk l 8)) (.c (.int .i64 1)))) fun v0 => Ex F cx k ⟨mk 19 [(8, v0), (18, v0), (0, lk l 0), (3, lk l 3), (7, lk l 7), (8, lk l 8)], rows, low⟩ r := rg [0, 3, 7, 8] c75r3 rfl (by kernel_rfl)
@[simp] theorem uc75k4 : Ex F cx (.code c75k4 :: k) ⟨mk 19 l, rows, low⟩ r ↔ Ex F cx k ⟨mk 19 [(4, lk l 5), (17, lk l 5), (5, lk l 5)], rows, low⟩ r := rg [5] c75r4 rfl (by kernel_rfl)
@[simp] theorem uc75s5 : Ex F cx (.code c75s5 :: k) s r ↔ Ex F cx (.code (.cond (.t 16) (.seq c75k4 .ret) .skip) :: k) s r := Iff.rfl
@[simp] theorem uc75k6 : Ex F cx (.code c75k6 :: k) ⟨mk 19 l, rows, low⟩ r ↔ bnd (evP rows (.loadN 2 (.c (lk l 3)))) fun v0 => bnd (evP rows (.idxS 2 (.c (lk l 0)) (.c (lk l 5)))) fun v1 => bnd (evP rows (.loadN 2 (.c v1))) fun v2 => bnd (evP rows (.eqv false (.ints 2) (.c v0) (.c v2))) fun v3 => Ex F cx k ⟨mk 19 [(16, v3), (15, v2), (14, v1), (13, lk l 5), (12, lk l 0), (11, v0), (0, lk l 0), (3, lk l 3), (5, lk l 5), (7, lk l 7), (8, lk l 8)], rows, low⟩ r := rg [0, 3, 5, 7, 8] c75r6 rfl (by kernel_rfl)
@[simp] theorem uc75s7 : Ex F cx (.code c75s7 :: k) s r ↔ Ex F cx (.code (.seq c75k6 c75s5) :: k) s r := Iff.rfl
@[simp] theorem uc75k8 : Ex F cx (.code c75k8 :: k) ⟨mk 19 l, rows, low⟩ r ↔ Ex F cx k ⟨mk 19 [(5, lk l 8), (10, lk l 8), (0, lk l 0), (3, lk l 3), (7, lk l 7), (8, lk l 8)], rows, low⟩ r := rg [0, 3, 7, 8] c75r8 rfl (by kernel_rfl)
@[simp] theorem uc75s9 : Ex F cx (.code c75s9 :: k) s r ↔ Ex F cx (.code (.seq (.block 1 (.seq c75k8 c75s7)) c75k3) :: k) s r := Iff.rfl
@[simp] theorem uc75s10 : Ex F cx (.code c75s10 :: k) s r ↔ Ex F cx (.code (.seq (.cond (.t 9) .skip (.exit 0)) c75s9) :: k) s r := Iff.rfl
@[simp] theorem uc75k11 : Ex F cx (.code c75k11 :: k) ⟨mk 19 l, rows, low⟩ r ↔ bnd (evP rows (.bin .lss (.c (lk l 8)) (.c (lk l 7)))) fun v0 => Ex F cx k ⟨mk 19 [(9, v0), (0, lk l 0), (3, lk l 3), (7, lk l 7), (8, lk l 8)], rows, low⟩ r := rg [0, 3, 7, 8] c75r11 rfl (by kernel_rfl)
@[simp] theorem uc75s12 : Ex F cx (.code c75s12 :: k) s r ↔ Ex F cx (.code (.block 0 (.loop c75l2)) :: k) s r := Iff.rfl
@[simp] theorem uc75k13 : Ex F cx (.code c75k13 :: k) ⟨mk 19 l, rows, low⟩ r ↔ bnd (evP rows (.len 0 (.c (lk l 0)))) fun v0 => Ex F cx k ⟨mk 19 [(8, (.int .i64 0)), (7, v0), (6, lk l 0), (0, lk l 0), (3, lk l 3)], rows, low⟩ r := rg [0, 3] c75r13 rfl (by kernel_rfl)
@[simp] theorem uc75s14 : Ex F cx (.code c75s14 :: k) s r ↔ Ex F cx (.code (.seq (.seq c75k13 c75s12) c75s1) :: k) s r := Iff.rfl
@[simp] theorem uc75k15 : Ex F cx (.code c75k15 :: k) ⟨mk 19 l, rows, low⟩ r ↔ bnd (evE rows low (.box (.c (lk l 1)))) fun q0 => Ex F cx k ⟨mk 19 [(4, (.int .i64 0)), (3, q0.1), (0, lk l 0), (1, lk l 1)], q0.2.1, q0.2.2⟩ r := rg [0, 1] c75r15 rfl (by kernel_rfl)
def Jc75s9 (F : Nat → Option IFn) (cx : Ctx) (x0 x3 x7 x8 : AV) (rows : List Row) (low : Nat) (r : AV × List Row × Nat → Prop) : Prop := Ex F cx (.code c75s9 :: .inLoop c75l2 :: .inBlock 0 :: .code c75s1 :: []) ⟨mk 19 [(0, x0), (3, x3), (7, x7), (8, x8)], rows, low⟩ r
def Lc75l2 (F : Nat → Option IFn) (cx : Ctx) (x0 x3 x7 x8 : AV) (rows : List Row) (low : Nat) (r : AV × List Row × Nat → Prop) : Prop := Ex F cx (.code c75l2 :: .inLoop c75l2 :: .inBlock 0 :: .code c75s1 :: []) ⟨mk 19 [(0, x0), (3, x3), (7, x7), (8, x8)], rows, low⟩ r
@[simp] theorem nc75l2 : Ex F cx (.inLoop c75l2 :: .inBlock 0 :: .code c75s1 :: []) ⟨mk 19 l, rows, low⟩ r ↔ Lc75l2 F cx (lk l 0) (lk l 3) (lk l 7) (lk l 8) rows low r := loopN (keep := [0, 3, 7, 8]) (by kernel_rfl)
@[simp] theorem ec75l2 : Ex F cx (.code (.loop c75l2) :: .inBlock 0 :: .code c75s1 :: []) ⟨mk 19 l, rows, low⟩ r ↔ Lc75l2 F cx (lk l 0) (lk l 3) (lk l 7) (lk l 8) rows low r := loopE (keep := [0, 3, 7, 8]) (by kernel_rfl)
@[simp] theorem uc75l2 : Ex F cx (.code c75l2 :: k) s r ↔ Ex F cx (.code (.seq c75k11 c75s10) :: k) s r := Iff.rfl
@[simp] theorem uc75b : Ex F cx (.code c75b :: k) s r ↔ Ex F cx (.code (.seq c75k15 c75s14) :: k) s r := Iff.rfl
theorem i75 {x0 x1 : AV} (hF : F 75 = some c75) {q : AV × List Row × Option Nat} (h : Ex F (.fn [.t 4]) [.code c75b] ⟨mk 19 [(0, x0), (1, x1)], rows, rows.length⟩ fun r => fin rows r.1 r.2.1 r.2.2 = q) : Ret F 75 [x0, x1] rows = some q := Ret_mk hF h
@[simp] theorem uc77k0 : Ex F cx (.code c77k0 :: k) ⟨mk 6 l, rows, low⟩ r ↔ bnd (evP rows (.fieldA 2 (.c (lk l 1)))) fun v0 => bnd (evP rows (.load1 (.c v0))) fun v1 => bnd (evP rows (.len 0 (.c v1))) fun v2 => Ex F cx k ⟨mk 6 [(2, v2), (5, v2), (4, v1), (3, v0), (1, lk l 1)], rows, low⟩ r := rg [1] c77r0 rfl (by kernel_rfl)
@[simp] theorem uc77s1 : Ex F cx (.code c77s1 :: k) s r ↔ Ex F cx (.code (.seq c77k0 .ret) :: k) s r := Iff.rfl
@[simp] theorem uc77k2 : Ex F cx (.code c77k2 :: k) ⟨mk 6 l, rows, low⟩ r ↔ bnd (evE rows low (.box (.c (lk l 0)))) fun q0 => Ex F cx k ⟨mk 6 [(2, (.int .i64 0)), (1, q0.1), (0, lk l 0)], q0.2.1, q0.2.2⟩ r := rg [0] c77r2 rfl (by kernel_rfl)
@[simp] theorem uc77b : Ex F cx (.code c77b :: k) s r ↔ Ex F cx (.code (.seq c77k2 c77s1) :: k) s r := Iff.rfl
theorem i77 {x0 : AV} (hF : F 77 = some c77) {q : AV × List Row × Option Nat} (h : Ex F (.fn [.t 2]) [.code c77b] ⟨mk 6 [(0, x0)], rows, rows.length⟩ fun r => fin rows r.1 r.2.1 r.2.2 = q) : Ret F 77 [x0] rows = some q := Ret_mk hF h
@[simp] theorem uc83k0 : Ex F cx (.code c83k0 :: k) ⟨mk 9 l, rows, low⟩ r ↔ bnd (Ret F 103 [lk l 0, lk l 1] rows) fun q0 => bnd (evP q0.2.1 (.bin .geq (.c q0.1) (.c (.int .i64 0)))) fun v1 => Ex F cx k ⟨mk 9 [(4, v1), (8, v1), (7, q0.1), (6, lk l 1), (5, lk l 0), (0, lk l 0), (1, lk l 1)], q0.2.1, (lowO low q0.2.2)⟩ r := rg [0, 1] c83r0 rfl (by kernel_rfl)
@[simp] theorem uc83s1 : Ex F cx (.code c83s1 :: k) s r ↔ Ex F cx (.code (.seq c83k0 .ret) :: k) s r := Iff.rfl
@[simp] theorem uc83k2 : Ex F cx (.code c83k2 :: k) ⟨mk 9 l, rows, low⟩ r ↔ Ex F cx k ⟨mk 9 [(4, (.bool false)), (0, lk l 0), (1, lk l 1)], rows, low⟩ r := rg [0, 1] c83r2 rfl (by kernel_rfl)
@[simp] theorem uc83b : Ex F cx (.code c83b :: k) s r ↔ Ex F cx (.code (.seq c83k2 c83s1) :: k) s r := Iff.rfl
theorem i83 {x0 x1 : AV} (hF : F 83 = some c83) {q : AV × List Row × Option Nat} (h : Ex F (.fn [.t 4]) [.code c83b] ⟨mk 9 [(0, x0), (1, x1)], rows, rows.length⟩ fun r => fin rows r.1 r.2.1 r.2.2 = q) : Ret F 83 [x0, x1] rows = some q := Ret_mk hF h
@[simp] theorem uc91k0 : Ex F cx (.code c91k0 :: k) ⟨mk 36 l, rows, low⟩ r ↔ Ex F cx k ⟨mk 36 [(4, (.int .i64 0))], rows, low⟩ r := rg [] c91r0 rfl (by kernel_rfl)
@[simp] theorem uc91s1 : Ex F cx (.code c91s1 :: k) s r ↔ Ex F cx (.code (.seq c91k0 .ret) :: k) s r := Iff.rfl
@[simp] theorem uc91k2 : Ex F cx (.code c91k2 :: k) ⟨mk 36 l, rows, low⟩ r ↔ Ex F cx k ⟨mk 36 [(4, (.int .i64 (-1)))], rows, low⟩ r := rg [] c91r2 rfl (by kernel_rfl)
@[simp] theorem uc91s3 : Ex F cx (.code c91s3 :: k) s r ↔ Ex F cx (.code (.cond (.t 35) (.seq c91k2 .ret) .skip) :: k) s r := Iff.rfl
@[simp] theorem uc91k4 : Ex F cx (.code c91k4 :: k) ⟨mk 36 l, rows, low⟩ r ↔ bnd (evP rows (.len 0 (.c (lk l 0)))) fun v0 => bnd (evP rows (.len 0 (.c (lk l 1)))) fun v1 => bnd (evP rows (.bin .lss (.c v0) (.c v1))) fun v2 => Ex F cx k ⟨mk 36 [(35, v2), (34, v1), (33, lk l 1), (32, v0), (31, lk l 0), (0, lk l 0), (1, lk l 1)], rows, low⟩ r := rg [0, 1] c91r4 rfl (by kernel_rfl)
@[simp] theorem uc91s5 : Ex F cx (.code c91s5 :: k) s r ↔ Ex F cx (.code (.seq (.seq c91k4 c91s3) c91s1) :: k) s r := Iff.rfl
@[simp] theorem uc91k7 : Ex F cx (.code c91k7 :: k) ⟨mk 36 l, rows, low⟩ r ↔ bnd (evP rows (.bin .add (.c (lk l 11)) (.c (.int .i64 1)))) fun v0 => Ex F cx k ⟨mk 36 [(11, v0), (30, v0), (0, lk l 0), (1, lk l 1), (9, lk l 9), (10, lk l 10), (11, lk l 11)], rows, low⟩ r := rg [0, 1, 9, 10, 11] c91r7 rfl (by kernel_rfl)
@[simp] theorem uc91k8 : Ex F cx (.code c91k8 :: k) ⟨mk 36 l, rows, low⟩ r ↔ Ex F cx k ⟨mk 36 [(4, lk l 8), (29, lk l 8), (8, lk l 8)], rows, low⟩ r := rg [8] c91r8 rfl (by kernel_rfl)
@[simp] theorem uc91s9 : Ex F cx (.code c91s9 :: k) s r ↔ Ex F cx (.code (.cond (.t 28) (.seq c91k8 .ret) .skip) :: k) s r := Iff.rfl
@[simp] theorem uc91k10 : Ex F cx (.code c91k10 :: k) ⟨mk 36 l, rows, low⟩ r ↔ bnd (evP rows (.bin .neq (.c (lk l 8)) (.c (.int .i64 0)))) fun v0 => Ex F cx k ⟨mk 36 [(28, v0), (27, lk l 8), (0, lk l 0), (1, lk l 1), (8, lk l 8), (9, lk l 9), (10, lk l 10), (11, lk l 11)], rows, low⟩ r := rg [0, 1, 8, 9, 10, 11] c91r10 rfl (by kernel_rfl)
@[simp] theorem uc91s11 : Ex F cx (.code c91s11 :: k) s r ↔ Ex F cx (.code (.seq c91k10 c91s9) :: k) s r := Iff.rfl
@[simp] theorem uc91k12 : Ex F cx (.code c91k12 :: k) ⟨mk 36 l, rows, low⟩ r ↔ bnd (Ret F 105 [lk l 6, lk l 7] rows) fun q0 => Ex F cx k ⟨mk 36 [(8, q0.1), (26, q0.1), (25, lk l 7), (24, lk l 6), (0, lk l 0), (1, lk l 1), (6, lk l 6), (7, lk l 7), (9, lk l 9), (10, lk l 10), (11, lk l 11)], q0.2.1, (lowO low q0.2.2)⟩ r := rg [0, 1, 6, 7, 9, 10, 11] c91r12 rfl (by kernel_rfl)
@[simp] theorem uc91s13 : Ex F cx (.code c91s13 :: k) s r ↔ Ex F cx (.code (.seq c91k12 c91s11) :: k) s r := Iff.rfl
@[simp] theorem uc91k14 : Ex F cx (.code c91k14 :: k) ⟨mk 36 l, rows, low⟩ r ↔ bnd (evP rows (.idxS 1 (.c (lk l 1)) (.c (lk l 5)))) fun v0 => bnd (evP rows (.load1 (.c v0))) fun v1 => Ex F cx k ⟨mk 36 [(7, v1), (23, v1), (22, v0), (21, lk l 5), (20, lk l 1), (0, lk l 0), (1, lk l 1), (5, lk l 5), (6, lk l 6), (9, lk l 9), (10, lk l 10), (11, lk l 11)], rows, low⟩ r := rg [0, 1, 5, 6, 9, 10, 11] c91r14 rfl (by kernel_rfl)
@[simp] theorem uc91s15 : Ex F cx (.code c91s15 :: k) s r ↔ Ex F cx (.code (.seq c91k14 c91s13) :: k) s r := Iff.rfl
@[simp] theorem uc91k16 : Ex F cx (.code c91k16 :: k) ⟨mk 36 l, rows, low⟩ r ↔ Ex F cx k ⟨mk 36 [(4, (.int .i64 1))], rows, low⟩ r := rg [] c91r16 rfl (by kernel_rfl)
@[simp] theorem uc91s17 : Ex F cx (.code c91s17 :: k) s r ↔ Ex F cx (.code (.cond (.t 19) (.seq c91k16 .ret) .skip) :: k) s r := Iff.rfl
@[simp] theorem uc91k18 : Ex F cx (.code c91k18 :: k) ⟨mk 36 l, rows, low⟩ r ↔ bnd (evP rows (.len 0 (.c (lk l 1)))) fun v0 => bnd (evP rows (.bin .geq (.c (lk l 5)) (.c v0))) fun v1 => Ex F cx k ⟨mk 36 [(19, v1), (18, v0), (17, lk l 1), (16, lk l 5), (0, lk l 0), (1, lk l 1), (5, lk l 5), (6, lk l 6), (9, lk l 9), (10, lk l 10), (11, lk l 11)], rows, low⟩ r := rg [0, 1, 5, 6, 9, 10, 11] c91r18 rfl (by kernel_rfl)
@[simp] theorem uc91s19 : Ex F cx (.code c91s19 :: k) s r ↔ Ex F cx (.code (.seq (.seq c91k18 c91s17) c91s15) :: k) s r := Iff.rfl
@[simp] theorem uc91k20 : Ex F cx (.code c91k20 :: k) ⟨mk 36 l, rows, low⟩ r ↔ bnd (evP rows (.idxS 1 (.c (lk l 9)) (.c (lk l 11)))) fun v0 => bnd (evP rows (.load1 (.c v0))) fun v1 => Ex F cx k ⟨mk 36 [(6, v1), (5, lk l 11), (15, v1), (14, v0), (13, lk l 11), (0, lk l 0), (1, lk l 1), (9, lk l 9), (10, lk l 10), (11, lk l 11)], rows, low⟩ r := rg [0, 1, 9, 10, 11] c91r20 rfl (by kernel_rfl)
@[simp] theorem uc91s21 : Ex F cx (.code c91s21 :: k) s r ↔ Ex F cx (.code (.seq (.block 1 (.seq c91k20 c91s19)) c91k7) :: k) s r := Iff.rfl
@[simp] theorem uc91s22 : Ex F cx (.code c91s22 :: k) s r ↔ Ex F cx (.code (.seq (.cond (.t 12) .skip (.exit 0)) c91s21) :: k) s r := Iff.rfl
@[simp] theorem uc91k23 : Ex F cx (.code c91k23 :: k) ⟨mk 36 l, rows, low⟩ r ↔ bnd (evP rows (.bin .lss (.c (lk l 11)) (.c (lk l 10)))) fun v0 => Ex F cx k ⟨mk 36 [(12, v0), (0, lk l 0), (1, lk l 1), (9, lk l 9), (10, lk l 10), (11, lk l 11)], rows, low⟩ r := rg [0, 1, 9, 10, 11] c91r23 rfl (by kernel_rfl)
@[simp] theorem uc91s24 : Ex F cx (.code c91s24 :: k) s r ↔ Ex F cx (.code (.block 0 (.loop c91l6)) :: k) s r := Iff.rfl
@[simp] theorem uc91k25 : Ex F cx (.code c91k25 :: k) ⟨mk 36 l, rows, low⟩ r ↔ bnd (evP rows (.len 0 (.c (lk l 0)))) fun v0 => Ex F cx k ⟨mk 36 [(11, (.int .i64 0)), (10, v0), (9, lk l 0), (0, lk l 0), (1, lk l 1)], rows, low⟩ r := rg [0, 1] c91r25 rfl (by kernel_rfl)
@[simp] theorem uc91s26 : Ex F cx (.code c91s26 :: k) s r ↔ Ex F cx (.code (.seq (.seq c91k25 c91s24) c91s5) :: k) s r := Iff.rfl
@[simp] theorem uc91k27 : Ex F cx (.code c91k27 :: k) ⟨mk 36 l, rows, low⟩ r ↔ Ex F cx k ⟨mk 36 [(4, (.int .i64 0)), (0, lk l 0), (1, lk l 1)], rows, low⟩ r := rg [0, 1] c91r27 rfl (by kernel_rfl)
def Jc91s1 (F : Nat → Option IFn) (cx : Ctx) (rows : List Row) (low : Nat) (r : AV × List Row × Nat → Prop) : Prop := Ex F cx (.code c91s1 :: []) ⟨mk 36 [], rows, low⟩ r
def Jc91s15 (F : Nat → Option IFn) (cx : Ctx) (x0 x1 x5 x6 x9 x10 x11 : AV) (rows : List Row) (low : Nat) (r : AV × List Row × Nat → Prop) : Prop := Ex F cx (.code c91s15 :: .inBlock 1 :: .code c91k7 :: .inLoop c91l6 :: .inBlock 0 :: .code c91s5 :: []) ⟨mk 36 [(0, x0), (1, x1), (5, x5), (6, x6), (9, x9), (10, x10), (11, x11)], rows, low⟩ r
def Jc91s21 (F : Nat → Option IFn) (cx : Ctx) (x0 x1 x9 x10 x11 : AV) (rows : List Row) (low : Nat) (r : AV × List Row × Nat → Prop) : Prop := Ex F cx (.code c91s21 :: .inLoop c91l6 :: .inBlock 0 :: .code c91s5 :: []) ⟨mk 36 [(0, x0), (1, x1), (9, x9), (10, x10), (11, x11)], rows, low⟩ r
def Lc91l6 (F : Nat → Option IFn) (cx : Ctx) (x0 x1 x9 x10 x11 : AV) (rows : List Row) (low : Nat) (r : AV × List Row × Nat → Prop) : Prop := Ex F cx (.code c91l6 :: .inLoop c91l6 :: .inBlock 0 :: .code c91s5 :: []) ⟨mk 36 [(0, x0), (1, x1), (9, x9), (10, x10), (11, x11)], rows, low⟩ r
@[simp] theorem nc91l6 : Ex F cx (.inLoop c91l6 :: .inBlock 0 :: .code c91s5 :: []) ⟨mk 36 l, rows, low⟩ r ↔ Lc91l6 F cx (lk l 0) (lk l 1) (lk l 9) (lk l 10) (lk l 11) rows low r := loopN (keep := [0, 1, 9, 10, 11]) (by kernel_rfl)
@[simp] theorem ec91l6 : Ex F cx (.code (.loop c91l6) :: .inBlock 0 :: .code c91s5 :: []) ⟨mk 36 l, rows, low⟩ r ↔ Lc91l6 F cx (lk l 0) (lk l 1) (lk l 9) (lk l 10) (lk l 11) rows low r := loopE (keep := [0, 1, 9, 10, 11]) (by kernel_rfl)
@[simp] theorem uc91l6 : Ex F cx (.code c91l6 :: k) s r ↔ Ex F cx (.code (.seq c91k23 c91s22) :: k) s r := Iff.rfl
@[simp] theorem uc91b : Ex F cx (.code c91b :: k) s r ↔ Ex F cx (.code (.seq c91k27 c91s26) :: k) s r := Iff.rfl
theorem i91 {x0 x1 : AV} (hF : F 91 = some c91) {q : AV × List Row × Option Nat} (h : Ex F (.fn [.t 4]) [.code c91b] ⟨mk 36 [(0, x0), (1, x1)], rows, rows.length⟩ fun r => fin rows r.1 r.2.1 r.2.2 = q) : Ret F 91 [x0, x1] rows = some q := Ret_mk hF h
@[simp] theorem uc92k0 : Ex F cx (.code c92k0 :: k) ⟨mk 9 l, rows, low⟩ r ↔ bnd (evP rows (.loadN 2 (.c (lk l 3)))) fun v0 => bnd (Ret F 75 [lk l 0, v0] rows) fun q1 => bnd (evP q1.2.1 (.bin .geq (.c q1.1) (.c (.int .i64 0)))) fun v2 => Ex F cx k ⟨mk 9 [(4, v2), (8, v2), (7, q1.1), (6, v0), (5, lk l 0), (0, lk l 0), (3, lk l 3)], q1.2.1, (lowO low q1.2.2)⟩ r := rg [0, 3] c92r0 rfl (by kernel_rfl)
@[simp] theorem uc92s1 : Ex F cx (.code c92s1 :: k) s r ↔ Ex F cx (.code (.seq c92k0 .ret) :: k) s r := Iff.rfl
@[simp] theorem uc92k2 : Ex F cx (.code c92k2 :: k) ⟨mk 9 l, rows, low⟩ r ↔ bnd (evE rows low (.box (.c (lk l 1)))) fun q0 => Ex F cx k ⟨mk 9 [(4, (.bool false)), (3, q0.1), (0, lk l 0), (1, lk l 1)], q0.2.1, q0.2.2⟩ r := rg [0, 1] c92r2 rfl (by kernel_rfl)
@[simp] theorem uc92b : Ex F cx (.code c92b :: k) s r ↔ Ex F cx (.code (.seq c92k2 c92s1) :: k) s r := Iff.rfl
theorem i92 {x0 x1 : AV} (hF : F 92 = some c92) {q : AV × List Row × Option Nat} (h : Ex F (.fn [.t 4]) [.code c92b] ⟨mk 9 [(0, x0), (1, x1)], rows, rows.length⟩ fun r => fin rows r.1 r.2.1 r.2.2 = q) : Ret F 92 [x0, x1] rows = some q := Ret_mk hF h
@[simp] theorem uc94k0 : Ex F cx (.code c94k0 :: k) ⟨mk 9 l, rows, low⟩ r ↔ bnd (evP rows (.bin .lss (.c (lk l 0)) (.c (.int .i64 (-100))))) fun v0 => bnd (gv v0 false (evP rows (.mv (.c (lk l 0))))) fun v1 => bnd (gv v0 false (evP rows (.bin .gtr (.c v1) (.c (.int .i64 100))))) fun v2 => bnd (evP rows (.pick (.c v0) (.c (.bool true)) (.c v2))) fun v3 => Ex F cx k ⟨mk 9 [(2, v3), (8, v3), (7, v2), (6, v1), (5, v0), (4, v0), (3, lk l 0), (0, lk l 0)], rows, low⟩ r := rg [0] c94r0 rfl (by kernel_rfl)
@[simp] theorem uc94s1 : Ex F cx (.code c94s1 :: k) s r ↔ Ex F cx (.code (.seq c94k0 .ret) :: k) s r := Iff.rfl
@[simp] theorem uc94k2 : Ex F cx (.code c94k2 :: k) ⟨mk 9 l, rows, low⟩ r ↔ Ex F cx k ⟨mk 9 [(2, (.bool false)), (0, lk l 0)], rows, low⟩ r := rg [0] c94r2 rfl (by kernel_rfl)
@[simp] theorem uc94b : Ex F cx (.code c94b :: k) s r ↔ Ex F cx (.code (.seq c94k2 c94s1) :: k) s r := Iff.rfl
theorem i94 {x0 : AV} (hF : F 94 = some c94) {q : AV × List Row × Option Nat} (h : Ex F (.fn [.t 2]) [.code c94b] ⟨mk 9 [(0, x0)], rows, rows.length⟩ fun r => fin rows r.1 r.2.1 r.2.2 = q) : Ret F 94 [x0] rows = some q := Ret_mk hF h
@[simp] theorem uc103k0 : Ex F cx (.code c103k0 :: k) ⟨mk 19 l, rows, low⟩ r ↔ Ex F cx k ⟨mk 19 [(4, (.int .i64 (-1)))], rows, low⟩ r := rg [] c103r0 rfl (by kernel_rfl)
@[simp] theorem uc103s1 : Ex F cx (.code c103s1 :: k) s r ↔ Ex F cx (.code (.seq c103k0 .ret) :: k) s r := Iff.rfl
@[simp] theorem uc103k3 : Ex F cx (.code c103k3 :: k) ⟨mk 19 l, rows, low⟩ r ↔ bnd (evP rows (.bin .add (.c (lk l 8)) (.c (.int .i64 1)))) fun v0 => Ex F cx k ⟨mk 19 [(8, v0), (18, v0), (0, lk l 0), (1, lk l 1), (7, lk l 7), (8, lk l 8)], rows, low⟩ r := rg [0, 1, 7, 8] c103r3 rfl (by kernel_rfl)
@[simp] theorem uc103k4 : Ex F cx (.code c103k4 :: k) ⟨mk 19 l, rows, low⟩ r ↔ Ex F cx k ⟨mk 19 [(4, lk l 5), (17, lk l 5), (5, lk l 5)], rows, low⟩ r := rg [5] c103r4 rfl (by kernel_rfl)
@[simp] theorem uc103s5 : Ex F cx (.code c103s5 :: k) s r ↔ Ex F cx (.code (.cond (.t 16) (.seq c103k4 .ret) .skip) :: k) s r := Iff.rfl
@[simp] theorem uc103k6 : Ex F cx (.code c103k6 :: k) ⟨mk 19 l, rows, low⟩ r ↔ bnd (evP rows (.idxS 1 (.c (lk l 0)) (.c (lk l 5)))) fun v0 => bnd (evP rows (.load1 (.c v0))) fun v1 => callK F rows low [v1] (fun v2 R2 L2 => Ex F cx k ⟨mk 19 [(16, v2), (15, v1), (14, v0), (13, lk l 5), (12, lk l 0), (11, lk l 1), (0, lk l 0), (1, lk l 1), (5, lk l 5), (7, lk l 7), (8, lk l 8)], R2, L2⟩ r) [] (lk l 1) := rg [0, 1, 5, 7, 8] c103r6 rfl (by kernel_rfl)
@[simp] theorem uc103s7 : Ex F cx (.code c103s7 :: k) s r ↔ Ex F cx (.code (.seq c103k6 c103s5) :: k) s r := Iff.rfl
@[simp] theorem uc103k8 : Ex F cx (.code c103k8 :: k) ⟨mk 19 l, rows, low⟩ r ↔ Ex F cx k ⟨mk 19 [(5, lk l 8), (10, lk l 8), (0, lk l 0), (1, lk l 1), (7, lk l 7), (8, lk l 8)], rows, low⟩ r := rg [0, 1, 7, 8] c103r8 rfl (by kernel_rfl)
@[simp] theorem uc103s9 : Ex F cx (.code c103s9 :: k) s r ↔ Ex F cx (.code (.seq (.block 1 (.seq c103k8 c103s7)) c103k3) :: k) s r := Iff.rfl
@[simp] theorem uc103s10 : Ex F cx (.code c103s10 :: k) s r ↔ Ex F cx (.code (.seq (.cond (.t 9) .skip (.exit 0)) c103s9) :: k) s r := Iff.rfl
@[simp] theorem uc103k11 : Ex F cx (.code c103k11 :: k) ⟨mk 19 l, rows, low⟩ r ↔ bnd (evP rows (.bin .lss (.c (lk l 8)) (.c (lk l 7)))) fun v0 => Ex F cx k ⟨mk 19 [(9, v0), (0, lk l 0), (1, lk l 1), (7, lk l 7), (8, lk l 8)], rows, low⟩ r := rg [0, 1, 7, 8] c103r11 rfl (by kernel_rfl)
@[simp] theorem uc103s12 : Ex F cx (.code c103s12 :: k) s r ↔ Ex F cx (.code (.block 0 (.loop c103l2)) :: k) s r := Iff.rfl
@[simp] theorem uc103k13 : Ex F cx (.code c103k13 :: k) ⟨mk 19 l, rows, low⟩ r ↔ bnd (evP rows (.len 0 (.c (lk l 0)))) fun v0 => Ex F cx k ⟨mk 19 [(8, (.int .i64 0)), (7, v0), (6, lk l 0), (0, lk l 0), (1, lk l 1)], rows, low⟩ r := rg [0, 1] c103r13 rfl (by kernel_rfl)
@[simp] theorem uc103s14 : Ex F cx (.code c103s14 :: k) s r ↔ Ex F cx (.code (.seq (.seq c103k13 c103s12) c103s1) :: k) s r := Iff.rfl
@[simp] theorem uc103k15 : Ex F cx (.code c103k15 :: k) ⟨mk 19 l, rows, low⟩ r ↔ Ex F cx k ⟨mk 19 [(4, (.int .i64 0)), (0, lk l 0), (1, lk l 1)], rows, low⟩ r := rg [0, 1] c103r15 rfl (by kernel_rfl)
def Jc103s9 (F : Nat → Option IFn) (cx : Ctx) (x0 x1 x7 x8 : AV) (rows : List Row) (low : Nat) (r : AV × List Row × Nat → Prop) : Prop := Ex F cx (.code c103s9 :: .inLoop c103l2 :: .inBlock 0 :: .code c103s1 :: []) ⟨mk 19 [(0, x0), (1, x1), (7, x7), (8, x8)], rows, low⟩ r
def Lc103l2 (F : Nat → Option IFn) (cx : Ctx) (x0 x1 x7 x8 : AV) (rows : List Row) (low : Nat) (r : AV × List Row × Nat → Prop) : Prop := Ex F cx (.code c103l2 :: .inLoop c103l2 :: .inBlock 0 :: .code c103s1 :: []) ⟨mk 19 [(0, x0), (1, x1), (7, x7), (8, x8)], rows, low⟩ r
@[simp] theorem nc103l2 : Ex F cx (.inLoop c103l2 :: .inBlock 0 :: .code c103s1 :: []) ⟨mk 19 l, rows, low⟩ r ↔ Lc103l2 F cx (lk l 0) (lk l 1) (lk l 7) (lk l 8) rows low r := loopN (keep := [0, 1, 7, 8]) (by kernel_rfl)
@[simp] theorem ec103l2 : Ex F cx (.code (.loop c103l2) :: .inBlock 0 :: .code c103s1 :: []) ⟨mk 19 l, rows, low⟩ r ↔ Lc103l2 F cx (lk l 0) (lk l 1) (lk l 7) (lk l 8) rows low r := loopE (keep := [0, 1, 7, 8]) (by kernel_rfl)
@[simp] theorem uc103l2 : Ex F cx (.code c103l2 :: k) s r ↔ Ex F cx (.code (.seq c103k11 c103s10) :: k) s r := Iff.rfl
@[simp] theorem uc103b : Ex F cx (.code c103b :: k) s r ↔ Ex F cx (.code (.seq c103k15 c103s14) :: k) s r := Iff.rfl
theorem i103 {x0 x1 : AV} (hF : F 103 = some c103) {q : AV × List Row × Option Nat} (h : Ex F (.fn [.t 4]) [.code c103b] ⟨mk 19 [(0, x0), (1, x1)], rows, rows.length⟩ fun r => fin rows r.1 r.2.1 r.2.2 = q) : Ret F 103 [x0, x1] rows = some q := Ret_mk hF h
@[simp] theorem uc105k0 : Ex F cx (.code c105k0 :: k) ⟨mk 20 l, rows, low⟩ r ↔ Ex F cx k ⟨mk 20 [(4, (.int .i64 0))], rows, low⟩ r := rg [] c105r0 rfl (by kernel_rfl)
@[simp] theorem uc105s1 : Ex F cx (.code c105s1 :: k) s r ↔ Ex F cx (.code (.seq c105k0 .ret) :: k) s r := Iff.rfl
@[simp] theorem uc105k2 : Ex F cx (.code c105k2 :: k) ⟨mk 20 l, rows, low⟩ r ↔ Ex F cx k ⟨mk 20 [(4, (.int .i64 1))], rows, low⟩ r := rg [] c105r2 rfl (by kernel_rfl)
@[simp] theorem uc105s3 : Ex F cx (.code c105s3 :: k) s r ↔ Ex F cx (.code (.cond (.t 19) (.seq c105k2 .ret) .skip) :: k) s r := Iff.rfl
@[simp] theorem uc105k4 : Ex F cx (.code c105k4 :: k) ⟨mk 20 l, rows, low⟩ r ↔ bnd (evP rows (.bin .gtr (.c (lk l 0)) (.c (lk l 1)))) fun v0 => Ex F cx k ⟨mk 20 [(19, v0), (18, lk l 1), (17, lk l 0), (0, lk l 0), (1, lk l 1)], rows, low⟩ r := rg [0, 1] c105r4 rfl (by kernel_rfl)
@[simp] theorem uc105s5 : Ex F cx (.code c105s5 :: k) s r ↔ Ex F cx (.code (.seq (.seq c105k4 c105s3) c105s1) :: k) s r := Iff.rfl
@[simp] theorem uc105k6 : Ex F cx (.code c105k6 :: k) ⟨mk 20 l, rows, low⟩ r ↔ Ex F cx k ⟨mk 20 [(4, (.int .i64 (-1)))], rows, low⟩ r := rg [] c105r6 rfl (by kernel_rfl)
@[simp] theorem uc105s7 : Ex F cx (.code c105s7 :: k) s r ↔ Ex F cx (.code (.cond (.t 16) (.seq c105k6 .ret) .skip) :: k) s r := Iff.rfl
@[simp] theorem uc105k8 : Ex F cx (.code c105k8 :: k) ⟨mk 20 l, rows, low⟩ r ↔ bnd (evP rows (.bin .lss (.c (lk l 0)) (.c (lk l 1)))) fun v0 => Ex F cx k ⟨mk 20 [(16, v0), (15, lk l 1), (14, lk l 0), (0, lk l 0), (1, lk l 1)], rows, low⟩ r := rg [0, 1] c105r8 rfl (by kernel_rfl)
@[simp] theorem uc105s9 : Ex F cx (.code c105s9 :: k) s r ↔ Ex F cx (.code (.seq (.seq c105k8 c105s7) c105s5) :: k) s r := Iff.rfl
@[simp] theorem uc105s11 : Ex F cx (.code c105s11 :: k) s r ↔ Ex F cx (.code (.cond (.t 13) (.seq c105k10 .ret) .skip) :: k) s r := Iff.rfl
@[simp] theorem uc105k12 : Ex F cx (.code c105k12 :: k) ⟨mk 20 l, rows, low⟩ r ↔ Ex F cx k ⟨mk 20 [(13, lk l 6), (0, lk l 0), (1, lk l 1), (6, lk l 6)], rows, low⟩ r := rg [0, 1, 6] c105r12 rfl (by kernel_rfl)
@[simp] theorem uc105s13 : Ex F cx (.code c105s13 :: k) s r ↔ Ex F cx (.code (.seq (.seq c105k12 c105s11) c105s9) :: k) s r := Iff.rfl
@[simp] theorem uc105s15 : Ex F cx (.code c105s15 :: k) s r ↔ Ex F cx (.code (.seq c105k14 .ret) :: k) s r := Iff.rfl
@[simp] theorem uc105s17 : Ex F cx (.code c105s17 :: k) s r ↔ Ex F cx (.code (.cond (.t 12) (.seq c105k16 .ret) .skip) :: k) s r := Iff.rfl
@[simp] theorem uc105s19 : Ex F cx (.code c105s19 :: k) s r ↔ Ex F cx (.code (.cond (.t 11) (.seq (.seq c105k18 c105s17) c105s15) .skip) :: k) s r := Iff.rfl
@[simp] theorem uc105k20 : Ex F cx (.code c105k20 :: k) ⟨mk 20 l, rows, low⟩ r ↔ Ex F cx k ⟨mk 20 [(11, lk l 5), (0, lk l 0), (1, lk l 1), (5, lk l 5), (6, lk l 6)], rows, low⟩ r := rg [0, 1, 5, 6] c105r20 rfl (by kernel_rfl)
@[simp] theorem uc105s21 : Ex F cx (.code c105s21 :: k) s r ↔ Ex F cx (.code (.seq (.seq c105k20 c105s19) c105s13) :: k) s r := Iff.rfl
@[simp] theorem uc105k22 : Ex F cx (.code c105k22 :: k) ⟨mk 20 l, rows, low⟩ r ↔ bnd (Ret F 107 [lk l 1] rows) fun q0 => Ex F cx k ⟨mk 20 [(6, q0.1), (10, q0.1), (9, lk l 1), (0, lk l 0), (1, lk l 1), (5, lk l 5)], q0.2.1, (lowO low q0.2.2)⟩ r := rg [0, 1, 5] c105r22 rfl (by kernel_rfl)
@[simp] theorem uc105s23 : Ex F cx (.code c105s23 :: k) s r ↔ Ex F cx (.code (.seq c105k22 c105s21) :: k) s r := Iff.rfl
@[simp] theorem uc105k24 : Ex F cx (.code c105k24 :: k) ⟨mk 20 l, rows, low⟩ r ↔ bnd (Ret F 107 [lk l 0] rows) fun q0 => Ex F cx k ⟨mk 20 [(5, q0.1), (8, q0.1), (7, lk l 0), (0, lk l 0), (1, lk l 1)], q0.2.1, (lowO low q0.2.2)⟩ r := rg [0, 1] c105r24 rfl (by kernel_rfl)
@[simp] theorem uc105s25 : Ex F cx (.code c105s25 :: k) s r ↔ Ex F cx (.code (.seq c105k24 c105s23) :: k) s r := Iff.rfl
@[simp] theorem uc105k26 : Ex F cx (.code c105k26 :: k) ⟨mk 20 l, rows, low⟩ r ↔ Ex F cx k ⟨mk 20 [(4, (.int .i64 0)), (0, lk l 0), (1, lk l 1)], rows, low⟩ r := rg [0, 1] c105r26 rfl (by kernel_rfl)
def Jc105s1 (F : Nat → Option IFn) (cx : Ctx) (rows : List Row) (low : Nat) (r : AV × List Row × Nat → Prop) : Prop := Ex F cx (.code c105s1 :: []) ⟨mk 20 [], rows, low⟩ r
def Jc105s5 (F : Nat → Option IFn) (cx : Ctx) (x0 x1 : AV) (rows : List Row) (low : Nat) (r : AV × List Row × Nat → Prop) : Prop := Ex F cx (.code c105s5 :: []) ⟨mk 20 [(0, x0), (1, x1)], rows, low⟩ r
def Jc105s9 (F : Nat → Option IFn) (cx : Ctx) (x0 x1 : AV) (rows : List Row) (low : Nat) (r : AV × List Row × Nat → Prop) : Prop := Ex F cx (.code c105s9 :: []) ⟨mk 20 [(0, x0), (1, x1)], rows, low⟩ r
def Jc105s13 (F : Nat → Option IFn) (cx : Ctx) (x0 x1 x6 : AV) (rows : List Row) (low : Nat) (r : AV × List Row × Nat → Prop) : Prop := Ex F cx (.code c105s13 :: []) ⟨mk 20 [(0, x0), (1, x1), (6, x6)], rows, low⟩ r
def Jc105s15 (F : Nat → Option IFn) (cx : Ctx) (rows : List Row) (low : Nat) (r : AV × List Row × Nat → Prop) : Prop := Ex F cx (.code c105s15 :: .code c105s13 :: []) ⟨mk 20 [], rows, low⟩ r
@[simp] theorem uc105b : Ex F cx (.code c105b :: k) s r ↔ Ex F cx (.code (.seq c105k26 c105s25) :: k) s r := Iff.rfl
theorem i105 {x0 x1 : AV} (hF : F 105 = some c105) {q : AV × List Row × Option Nat} (h : Ex F (.fn [.t 4]) [.code c105b] ⟨mk 20 [(0, x0), (1, x1)], rows, rows.length⟩ fun r => fin rows r.1 r.2.1 r.2.2 = q) : Ret F 105 [x0, x1] rows = some q := Ret_mk hF h
@[simp] theorem uc107k0 : Ex F cx (.code c107k0 :: k) ⟨mk 6 l, rows, low⟩ r ↔ bnd (evP rows (.bin .neq (.c (lk l 0)) (.c (lk l 0)))) fun v0 => Ex F cx k ⟨mk 6 [(2, v0), (5, v0), (4, lk l 0), (3, lk l 0), (0, lk l 0)], rows, low⟩ r := rg [0] c107r0 rfl (by kernel_rfl)
@[simp] theorem uc107s1 : Ex F cx (.code c107s1 :: k) s r ↔ Ex F cx (.code (.seq c107k0 .ret) :: k) s r := Iff.rfl
@[simp] theorem uc107k2 : Ex F cx (.code c107k2 :: k) ⟨mk 6 l, rows, low⟩ r ↔ Ex F cx k ⟨mk 6 [(2, (.bool false)), (0, lk l 0)], rows, low⟩ r := rg [0] c107r2 rfl (by kernel_rfl)
@[simp] theorem uc107b : Ex F cx (.code c107b :: k) s r ↔ Ex F cx (.code (.seq c107k2 c107s1) :: k) s r := Iff.rfl
theorem i107 {x0 : AV} (hF : F 107 = some c107) {q : AV × List Row × Option Nat} (h : Ex F (.fn [.t 2]) [.code c107b] ⟨mk 6 [(0, x0)], rows, rows.length⟩ fun r => fin rows r.1 r.2.1 r.2.2 = q) : Ret F 107 [x0] rows = some q := Ret_mk hF h
end Go.Abs

namespace Go.Abs
section
variable {rows : List Row}
def nmb (x : Int) : Int := IntKind.i64.wrap ((IntKind.u64.wrap x).tmod 201) - 100
def nmbAt (l : List Int) (i : Nat) : Int := if i < l.length then nmb (gI l i) else 0
def nmbs (l : List Int) (n : Nat) : List Int := (List.range n).map (nmbAt l)
theorem nums_len' {k : IntKind} {a : List Int} : (nums k a).length = a.length := by simp [nums]
theorem few_ret {v : AV} {l : List Int} {m : Nat} (h : IsL rows v l) (hc : Cp 1 v) (hm : m ≤ 1000000) : Ret F 21 [v, .int .i64 m] rows = some (newW rows 1 (nums .i64 (l.take m)) (min l.length m)) := by
 obtain ⟨v', e1, h', _, _, hv'⟩ := El_take h hc (k := min l.length m) (by omega)
 have e2 : (nums .i64 l).take (min l.length m * 1) = nums .i64 (l.take m) := by
  rw [Nat.mul_one]
  simp only [nums, ← List.map_take]
  congr 1
  by_cases hx : l.length ≤ m
  ·rw [Nat.min_eq_left hx, List.take_of_length_le (Nat.le_refl _), List.take_of_length_le hx]
  ·rw [Nat.min_eq_right (by omega)]
 rw [e2] at h'
 have e3 : sliceV 1 v none (some (.int .i64 (min (l.length : Int) m))) none = some v' := by
  rw [show min (l.length : Int) m = ((min l.length m : Nat) : Int) by omega]
  exact e1
 refine i21 F21 ?_
 have hcopy := app_copy (rows := rows) (low := rows.length) (b := 8) h' (by omega) (by omega)
 simp [lenL0 h, e3, hcopy]
 have := acc_fin (rows := rows) (sz := 1) (n := min l.length m) (H := []) (cs := nums .i64 (l.take m)) nums_und
 simpa using this
end
end Go.Abs

namespace Go.Abs
section
variable {rows : List Row}
theorem isNaN_ret {k : IntKind} {n : Int} : Ret F 107 [.int k n] rows = some (.bool false, rows, none) := by
 refine i107 F107 ?_
 simp
theorem cmp_ret {a b : Int} : Ret F 105 [.int .i64 a, .int .i64 b] rows = some (.int .i64 (if a < b then -1 else if b < a then 1 else 0), rows, none) := by
 refine i105 F105 ?_
 by_cases h1 : a < b
 ·simp [isNaN_ret, h1]
 ·by_cases h2 : b < a <;> simp [isNaN_ret, h1, h2]
def cmpL : List Int → List Int → Int
 | [], [] => 0
 | [], _ :: _ => -1
 | _ :: _, [] => 1
 | a :: l, b :: m => if a < b then -1 else if b < a then 1 else cmpL l m
set_option maxHeartbeats 4000000 in
theorem Compare_loop {v w : AV} {l m : List Int} (h : IsL rows v l) (h2 : IsL rows w m) (hl : l.length ≤ 1000) (hm : m.length ≤ 1000) {q : AV × List Row × Option Nat} (hq : (.int .i64 (cmpL l m), rows, none) = q) : ∀ (d i : Nat), l.length - i = d → i ≤ l.length → i ≤ m.length → cmpL (l.drop i) (m.drop i) = cmpL l m →
  Lc91l6 F (.fn [.t 4]) v w v (.int .i64 l.length) (.int .i64 i) rows rows.length (fun r => fin rows r.1 r.2.1 r.2.2 = q) := by
 intro d
 induction d with
 |
  zero =>
  intro i hd h1 h3 he
  have hi : i = l.length := by omega
  subst hi
  rw [List.drop_of_length_le (Nat.le_refl _)] at he
  unfold Lc91l6
  by_cases hlt : l.length < m.length
  ·have e : cmpL l m = -1 := by
    rw [← he, List.drop_eq_getElem_cons hlt]; rfl
   simp [lenL0 h, lenL0 h2, hlt]
   rw [← hq, e]
  ·have e : cmpL l m = 0 := by
    rw [← he, List.drop_of_length_le (by omega)]; rfl
   simp [lenL0 h, lenL0 h2, hlt]
   rw [← hq, e]
 |
  succ d ih =>
  intro i hd h1 h3 he
  have hi : i < l.length := by omega
  have hw : IntKind.i64.wrap ((i : Int) + 1) = ((i + 1 : Nat) : Int) := by rw [wrap64 (by omega) (by omega)]; omega
  rw [List.drop_eq_getElem_cons hi] at he
  unfold Lc91l6
  by_cases hlt : i < m.length
  ·rw [List.drop_eq_getElem_cons hlt] at he
   simp only [cmpL] at he
   have g1 := gI_eq hi
   have g2 := gI_eq hlt
   rw [← g1, ← g2] at he
   by_cases c1 : gI l i < gI m i
   ·rw [if_pos c1] at he
    simp (disch := first | omega | (simp; done) | fail) [hi, idxL0 h, loadL0 h, lenL0 h2, hlt, idxL0 h2, loadL0 h2, cmp_ret, c1, show ¬ ((m.length : Int) ≤ i) by omega]
    rw [← hq, ← he]
   ·rw [if_neg c1] at he
    by_cases c2 : gI m i < gI l i
    ·rw [if_pos c2] at he
     simp (disch := first | omega | (simp; done) | fail) [hi, idxL0 h, loadL0 h, lenL0 h2, hlt, idxL0 h2, loadL0 h2, cmp_ret, c1, c2, show ¬ ((m.length : Int) ≤ i) by omega]
     rw [← hq, ← he]
    ·rw [if_neg c2] at he
     simp (disch := first | omega | (simp; done) | fail) [hi, idxL0 h, loadL0 h, lenL0 h2, hlt, idxL0 h2, loadL0 h2, cmp_ret, c1, c2, hw, show ¬ ((m.length : Int) ≤ i) by omega]
     exact ih (i + 1) (by omega) (by omega) (by omega) he
  ·have e : cmpL l m = 1 := by
    rw [← he, show m.drop i = [] from List.drop_of_length_le (by omega)]; rfl
   simp (disch := first | omega | (simp; done) | fail) [hi, idxL0 h, loadL0 h, lenL0 h2, hlt, show ((m.length : Int) ≤ i) by omega]
   rw [← hq, e]
theorem Compare_ret {v w : AV} {l m : List Int} (h : IsL rows v l) (h2 : IsL rows w m) (hl : l.length ≤ 1000) (hm : m.length ≤ 1000) : Ret F 91 [v, w] rows = some (.int .i64 (cmpL l m), rows, none) := by
 refine i91 F91 ?_
 simp [lenL0 h]
 exact Compare_loop h h2 hl hm rfl _ 0 rfl (by omega) (by omega) rfl

def pix (fl : List Int) (a b : Int) : Nat → Nat → Int
 | 0, _ => -1
 | d + 1, i => if gI fl (i * 2) = a ∧ gI fl (i * 2 + 1) = b then i else pix fl a b d (i + 1)
theorem pix_s {fl : List Int} {a b : Int} {d i : Nat} : pix fl a b (d + 1) i = if gI fl (i * 2) = a ∧ gI fl (i * 2 + 1) = b then (i : Int) else pix fl a b d (i + 1) := rfl
theorem Index2_loop {v : AV} {fl : List Int} {n : Nat} (h : El rows 2 v (nums .i64 fl) n) (hn : n ≤ 1000000) {a b : Int} {q : AV × List Row × Option Nat} (hq : (.int .i64 (pix fl a b n 0), rows, none) = q) : ∀ (d i : Nat), n - i = d → i ≤ n → pix fl a b d i = pix fl a b n 0 →
  Lc75l2 F (.fn [.t 4]) v (.ptr rows.length 0) (.int .i64 n) (.int .i64 i) (rows ++ [.cells [.int .i64 a, .int .i64 b]]) rows.length (fun r => fin rows r.1 r.2.1 r.2.2 = q) := by
 have h' := El_app h [.cells [.int .i64 a, .int .i64 b]]
 intro d
 induction d with
 |
  zero =>
  intro i hd h1 he
  have hi : i = n := by omega
  subst hi
  unfold Lc75l2
  simp
  rw [← hq, ← he]; rfl
 |
  succ d ih =>
  intro i hd h1 he
  have hi : i < n := by omega
  have hw : IntKind.i64.wrap ((i : Int) + 1) = ((i + 1 : Nat) : Int) := by rw [wrap64 (by omega) (by omega)]; omega
  rw [pix_s] at he
  unfold Lc75l2
  by_cases hc : gI fl (i * 2) = a ∧ gI fl (i * 2 + 1) = b
  ·rw [if_pos hc] at he
   obtain ⟨c1, c2⟩ := hc
   simp (disch := first | omega | (simp; done) | fail) [hi, idxW h', ldW2 h', seg, eqA, eqInts, c1, c2]
   rw [← hq, ← he]
  ·rw [if_neg hc] at he
   have hne : (a == gI fl (i * 2) && b == gI fl (i * 2 + 1)) = false := by
    cases e : (a == gI fl (i * 2) && b == gI fl (i * 2 + 1)) with
    | false => rfl
    | true => simp at e; exact absurd ⟨e.1.symm, e.2.symm⟩ hc
   simp (disch := first | omega | (simp; done) | fail) [hi, idxW h', ldW2 h', seg, eqA, eqInts, hne, hw, -Bool.and_eq_true]
   exact ih (i + 1) (by omega) (by omega) he
theorem Index2_ret {v : AV} {fl : List Int} {n : Nat} (h : El rows 2 v (nums .i64 fl) n) (hn : n ≤ 1000000) {a b : Int} : Ret F 75 [v, .agg [.int .i64 a, .int .i64 b]] rows = some (.int .i64 (pix fl a b n 0), rows, none) := by
 refine i75 F75 ?_
 have h' := El_app h [.cells [.int .i64 a, .int .i64 b]]
 simp [lenW h']
 exact Index2_loop h hn rfl _ 0 rfl (by omega) rfl
theorem Contains2_ret {v : AV} {fl : List Int} {n : Nat} (h : El rows 2 v (nums .i64 fl) n) (hn : n ≤ 1000000) {a b : Int} : Ret F 92 [v, .agg [.int .i64 a, .int .i64 b]] rows = some (.bool (decide (0 ≤ pix fl a b n 0)), rows, none) := by
 refine i92 F92 ?_
 have h' := El_app h [.cells [.int .i64 a, .int .i64 b]]
 simp [seg, Index2_ret h' hn]

end
end Go.Abs

namespace Go.Abs
def eC (ks : List Nat) : List Int := ks.flatMap fun k => [((k / 6 : Nat) : Int), ((k % 6 : Nat) : Int)]
def pC (ps : List Nat) : List Int := ps.flatMap fun p => [((p / 36 : Nat) : Int), ((p / 6 % 6 : Nat) : Int), ((p % 6 : Nat) : Int)]
def gN (l : List Nat) (i : Nat) : Nat := l.getD i 0
theorem gN_eq {l : List Nat} {i : Nat} (h : i < l.length) : gN l i = l[i] := by simp [gN, h]
theorem gN_mem {l : List Nat} {i : Nat} (h : i < l.length) : gN l i ∈ l := by rw [gN_eq h]; exact List.getElem_mem h
theorem eC_len : ∀ ks : List Nat, (eC ks).length = ks.length * 2
 | [] => rfl
 |
  k :: ks => by
  have := eC_len ks
  simp only [eC, List.flatMap_cons, List.length_append, List.length_cons, List.length_nil] at *
  omega
theorem pC_len : ∀ ps : List Nat, (pC ps).length = ps.length * 3
 | [] => rfl
 |
  k :: ks => by
  have := pC_len ks
  simp only [pC, List.flatMap_cons, List.length_append, List.length_cons, List.length_nil] at *
  omega
theorem gI_cons_succ {x : Int} {l : List Int} {i : Nat} : gI (x :: l) (i + 1) = gI l i := by simp [gI]
theorem eC_a : ∀ {ks : List Nat} {i : Nat}, i < ks.length → gI (eC ks) (i * 2) = (gN ks i / 6 : Nat) ∧ gI (eC ks) (i * 2 + 1) = (gN ks i % 6 : Nat)
 | [], i, h => by simp at h
 |
  k :: ks, 0, h => by
  constructor <;> rfl
 |
  k :: ks, i + 1, h => by
  have ih := eC_a (ks := ks) (i := i) (by simpa using h)
  have e : gN (k :: ks) (i + 1) = gN ks i := by simp [gN]
  rw [e]
  have e2 : eC (k :: ks) = ((k / 6 : Nat) : Int) :: ((k % 6 : Nat) : Int) :: eC ks := rfl
  rw [e2, show (i + 1) * 2 = i * 2 + 1 + 1 from by omega, gI_cons_succ, gI_cons_succ, show i * 2 + 1 + 1 + 1 = (i * 2 + 1) + 1 + 1 from rfl, gI_cons_succ, gI_cons_succ]
  exact ih
theorem pC_a : ∀ {ps : List Nat} {i : Nat}, i < ps.length → gI (pC ps) (i * 3) = (gN ps i / 36 : Nat) ∧ gI (pC ps) (i * 3 + 1) = (gN ps i / 6 % 6 : Nat) ∧ gI (pC ps) (i * 3 + 2) = (gN ps i % 6 : Nat)
 | [], i, h => by simp at h
 | k :: ks, 0, h => ⟨rfl, rfl, rfl⟩
 |
  k :: ks, i + 1, h => by
  have ih := pC_a (ps := ks) (i := i) (by simpa using h)
  have e : gN (k :: ks) (i + 1) = gN ks i := by simp [gN]
  rw [e]
  have e2 : pC (k :: ks) = ((k / 36 : Nat) : Int) :: ((k / 6 % 6 : Nat) : Int) :: ((k % 6 : Nat) : Int) :: pC ks := rfl
  rw [e2, show (i + 1) * 3 = i * 3 + 1 + 1 + 1 from by omega, gI_cons_succ, gI_cons_succ, gI_cons_succ, show i * 3 + 1 + 1 + 1 + 1 = (i * 3 + 1) + 1 + 1 + 1 from rfl, gI_cons_succ, gI_cons_succ, gI_cons_succ,
   show i * 3 + 1 + 1 + 1 + 2 = (i * 3 + 2) + 1 + 1 + 1 from rfl, gI_cons_succ, gI_cons_succ, gI_cons_succ]
  exact ih
theorem pix_eC {ks : List Nat} {a b : Nat} (hb : b < 6) : ∀ d i, i + d = ks.length → (0 ≤ pix (eC ks) a b d i ↔ a * 6 + b ∈ ks.drop i)
 |
  0, i, h => by
  rw [List.drop_of_length_le (by omega)]
  simp [pix]
 |
  d + 1, i, h => by
  have hi : i < ks.length := by omega
  have ih := pix_eC (ks := ks) (a := a) hb d (i + 1) (by omega)
  obtain ⟨e1, e2⟩ := eC_a hi
  rw [List.drop_eq_getElem_cons hi, List.mem_cons, ← ih, ← gN_eq hi, pix_s, e1, e2]
  split
  ·rename_i e
   constructor
   ·intro _; left; omega
   ·intro _; omega
  ·rename_i e
   constructor
   ·intro h; exact .inr h
   ·rintro (h | h)
    ·exfalso; apply e; constructor <;> omega
    ·exact h
theorem pix_in {ks : List Nat} {a b : Nat} (hb : b < 6) : 0 ≤ pix (eC ks) a b ks.length 0 ↔ a * 6 + b ∈ ks := by
 have := pix_eC (ks := ks) (a := a) hb ks.length 0 (by omega)
 rwa [List.drop_zero] at this
theorem pix_hit {fl : List Int} {a b : Int} : ∀ d i, 0 ≤ pix fl a b d i → ∃ k : Nat, pix fl a b d i = k ∧ i ≤ k ∧ k < i + d ∧ gI fl (k * 2) = a ∧ gI fl (k * 2 + 1) = b
 | 0, i, h => by simp [pix] at h
 |
  d + 1, i, h => by
  rw [pix_s] at h ⊢
  split
  ·rename_i e
   exact ⟨i, rfl, Nat.le_refl _, by omega, e.1, e.2⟩
  ·rename_i e
   rw [if_neg e] at h
   obtain ⟨k, h1, h2, h3, h4⟩ := pix_hit d (i + 1) h
   exact ⟨k, h1, by omega, by omega, h4⟩
structure GOK (N : Nat) (ks ps : List Nat) : Prop where
 n1 : 1 ≤ N
 n6 : N ≤ 6
 ek : ks.length ≤ 10
 es : ks.Pairwise (· < ·)
 ee : ∀ k ∈ ks, k / 6 < k % 6 ∧ k % 6 < N
 pk : ps.length ≤ 6
 psd : ps.Pairwise (· < ·)
 pe : ∀ p ∈ ps, p / 36 < p / 6 % 6 ∧ p / 6 % 6 < p % 6 ∧ p < 216 ∧ p / 36 * 6 + p / 6 % 6 ∈ ks ∧ p / 36 * 6 + p % 6 ∈ ks ∧ p / 6 % 6 * 6 + p % 6 ∈ ks
structure GRd (rows : List Row) (g : AV) (N : Nat) (ks ps : List Nat) : Prop where
 ok : GOK N ks ps
 eq : ∃ ev pv, g = .agg [.int .i64 N, ev, pv] ∧ El rows 2 ev (nums .i64 (eC ks)) ks.length ∧ El rows 3 pv (nums .i64 (pC ps)) ps.length ∧ Cp 2 ev ∧ Cp 3 pv
theorem GRd.app {rows : List Row} {g : AV} {N : Nat} {ks ps : List Nat} (h : GRd rows g N ks ps) (L : List Row) : GRd (rows ++ L) g N ks ps := by
 obtain ⟨ev, pv, e, h1, h2, h3⟩ := h.eq
 exact ⟨h.ok, ev, pv, e, El_app h1 L, El_app h2 L, h3⟩
section
variable {rows : List Row}
theorem Edge_loop {n0 : AV} {ev pv : AV} {fl : List Int} {m : Nat} (h : El rows 2 ev (nums .i64 fl) m) (hm : m ≤ 1000000) {a b : Int} {q : AV × List Row × Option Nat} (hq : (.int .i64 (pix fl (min a b) (max a b) m 0), rows, none) = q) : ∀ (d i : Nat), m - i = d → i ≤ m → pix fl (min a b) (max a b) d i = pix fl (min a b) (max a b) m 0 →
  Lc60l2 F (.fn [.t 6]) (.int .i64 a) (.int .i64 b) (.ptr rows.length 0) (.int .i64 i) (rows ++ [.cells [n0, ev, pv]]) rows.length (fun r => fin rows r.1 r.2.1 r.2.2 = q) := by
 have h' := El_app h [.cells [n0, ev, pv]]
 intro d
 induction d with
 |
  zero =>
  intro i hd h1 he
  have hi : i = m := by omega
  subst hi
  unfold Lc60l2
  simp [lenW h']
  rw [← hq, ← he]; rfl
 |
  succ d ih =>
  intro i hd h1 he
  have hi : i < m := by omega
  have hw : IntKind.i64.wrap ((i : Int) + 1) = ((i + 1 : Nat) : Int) := by rw [wrap64 (by omega) (by omega)]; omega
  rw [pix_s] at he
  unfold Lc60l2
  by_cases hc : gI fl (i * 2) = min a b ∧ gI fl (i * 2 + 1) = max a b
  ·rw [if_pos hc] at he
   obtain ⟨c1, c2⟩ := hc
   simp (disch := first | omega | (simp; done) | fail) [hi, lenW h', idxW h', ldW2 h', seg, eqA, eqInts, c1, c2, fillA, splice]
   rw [← hq, ← he]
  ·rw [if_neg hc] at he
   have hne : (gI fl (i * 2) == min a b && gI fl (i * 2 + 1) == max a b) = false := by
    cases e : (gI fl (i * 2) == min a b && gI fl (i * 2 + 1) == max a b) with
    | false => rfl
    | true => simp at e; exact absurd e hc
   simp (disch := first | omega | (simp; done) | fail) [hi, lenW h', idxW h', ldW2 h', seg, eqA, eqInts, hne, hw, fillA, splice, -Bool.and_eq_true]
   exact ih (i + 1) (by omega) (by omega) he
theorem Edge_ret {n0 : AV} {ev pv : AV} {fl : List Int} {m : Nat} (h : El rows 2 ev (nums .i64 fl) m) (hm : m ≤ 1000000) (hone : n0.one = true ∧ ev.one = true ∧ pv.one = true) {a b : Int} : Ret F 60 [.agg [n0, ev, pv], .int .i64 a, .int .i64 b] rows = some (.int .i64 (pix fl (min a b) (max a b) m 0), rows, none) := by
 refine i60 F60 ?_
 have h' := El_app h [.cells [n0, ev, pv]]
 simp [AV.cells, hone.1, hone.2.1, hone.2.2]
 exact Edge_loop h hm rfl _ 0 rfl (by omega) rfl
theorem El_one {sz n : Nat} {v : AV} {cs : List AV} (h : El rows sz v cs n) : v.one = true := by
 rcases El_cases h with ⟨rfl, _⟩ | ⟨_, _, _, _, rfl, _⟩ <;> rfl
end
end Go.Abs

namespace Go.Abs
def bl (f : Nat → Bool) : List AV := (List.range 36).map fun k => .bool (f k)
section
variable {rows : List Row} {gn ev pv : AV} {fe fp : List Int} {m0 k0 N : Nat} {Z : Row} {r : AV × List Row × Nat → Prop}
end
end Go.Abs

namespace Go.Abs
structure PInv (N : Nat) (ks ps : List Nat) (c : Nat) : Prop where
 s : ps.Pairwise (· < ·)
 k : ps.length ≤ 6
 e : ∀ p ∈ ps, p < c ∧ p / 36 < p / 6 % 6 ∧ p / 6 % 6 < p % 6 ∧ p < 216 ∧ p / 36 * 6 + p / 6 % 6 ∈ ks ∧ p / 36 * 6 + p % 6 ∈ ks ∧ p / 6 % 6 * 6 + p % 6 ∈ ks
theorem PInv.mono {N : Nat} {ks ps : List Nat} {c c' : Nat} (h : PInv N ks ps c) (hc : c ≤ c') : PInv N ks ps c' :=
 ⟨h.s, h.k, fun p hp => by have := h.e p hp; exact ⟨by omega, this.2⟩⟩
theorem PInv.add {N i j k : Nat} {ks ps : List Nat} (h : PInv N ks ps (i * 36 + j * 6 + k)) (hij : i < j) (hjk : j < k) (hk : k < 6) (hl : ps.length < 6) (h1 : i * 6 + j ∈ ks) (h2 : i * 6 + k ∈ ks) (h3 : j * 6 + k ∈ ks) : PInv N ks (ps ++ [i * 36 + j * 6 + k]) (i * 36 + j * 6 + k + 1) := by
 have e1 : (i * 36 + j * 6 + k) / 36 = i := by omega
 have e2 : (i * 36 + j * 6 + k) / 6 % 6 = j := by omega
 have e3 : (i * 36 + j * 6 + k) % 6 = k := by omega
 refine ⟨?_, by simp; omega, fun p hp => ?_⟩
 ·rw [List.pairwise_append]
  refine ⟨h.s, by simp, fun a ha b hb => ?_⟩
  have : b = i * 36 + j * 6 + k := by simpa using hb
  subst this
  exact (h.e a ha).1
 ·rcases List.mem_append.1 hp with hp | hp
  ·have := h.e p hp
   exact ⟨by omega, this.2⟩
  ·have : p = i * 36 + j * 6 + k := by simpa using hp
   subst this
   rw [e1, e2, e3]
   exact ⟨by omega, hij, hjk, by omega, h1, h2, h3⟩
section
variable {rows : List Row} {gn ev pv : AV} {fe fp : List Int} {m0 k0 N : Nat} {Z : Row} {r : AV × List Row × Nat → Prop}
variable {ks : List Nat} {f : Nat → Bool} {E : AV} {T : List Row}
end
end Go.Abs

namespace Go.Abs
section
variable {rows : List Row} {gn ev pv : AV} {fe fp : List Int} {m0 k0 N : Nat} {Z : Row} {r : AV × List Row × Nat → Prop}
variable {ks : List Nat} {f : Nat → Bool} {E : AV} {T : List Row}
theorem fin_agg {l : List AV} {X : List Row} : fin rows (.agg l) (rows ++ X) rows.length = (.agg l, rows ++ X, none) ∨ (fin rows (.agg l) (rows ++ X) rows.length = (.agg l, rows, none) ∧ (AV.agg l).ids.all (· < rows.length) = true) := by
 unfold fin
 rw [if_pos rfl]
 split
 ·rename_i h; exact .inr ⟨rfl, h⟩
 ·rename_i hn
  left
  split
  ·rename_i i e
   split
   ·rw [if_neg]
    intro h
    simp only [Bool.and_eq_true] at h
    have h2 : (AV.agg l).plain = true := h.2
    have h3 : (AV.agg l).ids.isEmpty = true := h2
    rw [e] at h3
    simp at h3
   ·rfl
  ·rfl
@[simp] theorem one_nil : AV.nilslice.one = true := rfl
end
end Go.Abs

namespace Go.Abs
section
variable {rows : List Row} {N : Nat} {ks ps : List Nat}
theorem nil_or {l : List AV} : l = [] ∨ ∃ x m, l = x :: m := by cases l <;> simp
theorem El_under {sz n : Nat} {v : AV} {cs : List AV} (h : El rows sz v cs n) : v.under rows.length = true := by
 rcases El_cases h with ⟨rfl, _⟩ | ⟨id, off, c, vs, rfl, hr, _⟩
 ·rfl
 ·have := row?_lt hr
  simpa [AV.under, AV.ids] using this
theorem tb5 : Nat.testBit 508 5 = true := by decide
theorem drop_mapL {β : Type} {f : Row → β} {M : List β} {k : Nat} : List.drop (rows.length + k) (rows.map f ++ M) = M.drop k := by
 have := List.drop_length_add_append (l₁ := rows.map f) (l₂ := M) (i := k)
 simpa using this
end
end Go.Abs

namespace Go.Abs
def eok (N : Int) (fl : List Int) (i : Nat) : Bool := decide (0 ≤ gI fl (i * 2) ∧ gI fl (i * 2) < gI fl (i * 2 + 1) ∧ gI fl (i * 2 + 1) < N ∧ (0 < i → cmpL [gI fl ((i - 1) * 2), gI fl ((i - 1) * 2 + 1)] [gI fl (i * 2), gI fl (i * 2 + 1)] < 0))
def eAll (N : Int) (fl : List Int) : Nat → Nat → Bool
 | 0, _ => true
 | d + 1, i => eok N fl i && eAll N fl d (i + 1)
def pok (fe fl : List Int) (m i : Nat) : Bool := decide (gI fl (i * 3) < gI fl (i * 3 + 1) ∧ gI fl (i * 3 + 1) < gI fl (i * 3 + 2) ∧ (0 < i → cmpL [gI fl ((i - 1) * 3), gI fl ((i - 1) * 3 + 1), gI fl ((i - 1) * 3 + 2)] [gI fl (i * 3), gI fl (i * 3 + 1), gI fl (i * 3 + 2)] < 0) ∧
 0 ≤ pix fe (gI fl (i * 3)) (gI fl (i * 3 + 1)) m 0 ∧ 0 ≤ pix fe (gI fl (i * 3)) (gI fl (i * 3 + 2)) m 0 ∧ 0 ≤ pix fe (gI fl (i * 3 + 1)) (gI fl (i * 3 + 2)) m 0)
def pAll (fe fl : List Int) (m : Nat) : Nat → Nat → Bool
 | 0, _ => true
 | d + 1, i => pok fe fl m i && pAll fe fl m d (i + 1)
def gndB (N : Int) (fe : List Int) (m : Nat) (fp : List Int) (k : Nat) : Bool := decide (1 ≤ N ∧ N ≤ 6 ∧ m ≤ 10 ∧ k ≤ 6) && (eAll N fe m 0 && pAll fe fp m k 0)
section
variable {rows : List Row} {N : Int} {ev pv : AV} {fe fp : List Int} {m k : Nat} {r : AV × List Row × Nat → Prop}
abbrev cR (rows : List Row) (N : Int) (ev pv : AV) (H : List Row) : List Row := rows ++ .cells [.int .i64 N, ev, pv] :: H
abbrev cQ0 (rows : List Row) (b : Bool) : AV × List Row × Nat → Prop := fun r => fin rows r.1 r.2.1 r.2.2 = (.int .i64 (if b then 0 else 30), rows, none)
@[simp] theorem cQ0_t {R : List Row} : cQ0 rows true (.int .i64 0, R, rows.length) ↔ True := by simp [cQ0]
@[simp] theorem cQ0_f {R : List Row} : cQ0 rows false (.int .i64 30, R, rows.length) ↔ True := by simp [cQ0]
set_option maxHeartbeats 16000000 in
theorem three_loop (he : El rows 2 ev (nums .i64 fe) m) (hm : m ≤ 1000000) {a0 a1 a2 : Int} {H : List Row} {n : Nat} {B : Bool}
  (hbad : ¬ (0 ≤ pix fe a0 a1 m 0 ∧ 0 ≤ pix fe a0 a2 m 0 ∧ 0 ≤ pix fe a1 a2 m 0) → B = false)
  {pt : Nat} (ht : row? (cR rows N ev pv H) pt = some (nums .i64 [a0, a1, a0, a2, a1, a2]))
  (hk : (0 ≤ pix fe a0 a1 m 0 ∧ 0 ≤ pix fe a0 a2 m 0 ∧ 0 ≤ pix fe a1 a2 m 0) → ∀ H', Lc59l2 F (.fn [.t 2]) (.ptr rows.length 0) pv (.int .i64 k) (.int .i64 ((n + 1 : Nat) : Int)) (cR rows N ev pv H') rows.length (cQ0 rows B)) (hn : n ≤ 1000000) :
  Lc59l4 F (.fn [.t 2]) (.ptr rows.length 0) pv (.int .i64 k) (.int .i64 n) (.slice pt 0 3 (.at_ 3)) (.int .i64 3) (.int .i64 0) (cR rows N ev pv H) rows.length (cQ0 rows B) := by
 have hw : IntKind.i64.wrap ((n : Int) + 1) = ((n + 1 : Nat) : Int) := by rw [wrap64 (by omega) (by omega)]; omega
 have hT : ∀ L, row? (cR rows N ev pv (H ++ L)) pt = some (nums .i64 [a0, a1, a0, a2, a1, a2]) := fun L => by
  have := row?_old (L := L) ht
  simpa using this
 -- one of the three
 have one : ∀ (i : Nat) (x y : Int), i < 3 → gI [a0, a1, a0, a2, a1, a2] (i * 2) = x → gI [a0, a1, a0, a2, a1, a2] (i * 2 + 1) = y → ∀ L : List Row,
   (0 ≤ pix fe x y m 0 → Lc59l4 F (.fn [.t 2]) (.ptr rows.length 0) pv (.int .i64 k) (.int .i64 n) (.slice pt 0 3 (.at_ 3)) (.int .i64 3) (.int .i64 ((i + 1 : Nat) : Int)) (cR rows N ev pv (H ++ (L ++ [.cells [.int .i64 x, .int .i64 y]]))) rows.length (cQ0 rows B)) → (¬ 0 ≤ pix fe x y m 0 → B = false) →
   Lc59l4 F (.fn [.t 2]) (.ptr rows.length 0) pv (.int .i64 k) (.int .i64 n) (.slice pt 0 3 (.at_ 3)) (.int .i64 3) (.int .i64 i) (cR rows N ev pv (H ++ L)) rows.length (cQ0 rows B) := by
  intro i x y hi hx hy L h1 h2
  have hTL := hT L
  have htk : List.take 2 (List.drop (i * 2) (nums .i64 [a0, a1, a0, a2, a1, a2])) = [.int .i64 x, .int .i64 y] := by
   rw [← hx, ← hy]
   match i, hi with
   | 0, _ => rfl
   | 1, _ => rfl
   | 2, _ => rfl
  have hTn : (nums .i64 [a0, a1, a0, a2, a1, a2]).length = 6 := rfl
  generalize nums .i64 [a0, a1, a0, a2, a1, a2] = TT at hTL htk hTn
  have hE := Contains2_ret (El_app he (.cells [.int .i64 N, ev, pv] :: (H ++ (L ++ [.cells [.int .i64 x, .int .i64 y]])))) hm (a := x) (b := y)
  have hwi : IntKind.i64.wrap ((i : Int) + 1) = ((i + 1 : Nat) : Int) := by rw [wrap64 (by omega) (by omega)]; omega
  have hb : i * 2 + 2 ≤ 6 := by omega
  by_cases hc : 0 ≤ pix fe x y m 0
  ·have h1 := h1 hc
   unfold Lc59l4
   simp [hi, show ((i : Int) < 3) by omega, hTL, htk, hTn, hb, seg, splice, hE, hc, hwi, lower_ge']
   simpa using h1
  ·have h2 := h2 hc
   unfold Lc59l4
   simp [hi, show ((i : Int) < 3) by omega, hTL, htk, hTn, hb, seg, splice, hE, hc, hwi, lower_ge', h2]
 have fin3 : (0 ≤ pix fe a0 a1 m 0 ∧ 0 ≤ pix fe a0 a2 m 0 ∧ 0 ≤ pix fe a1 a2 m 0) → ∀ L : List Row, Lc59l4 F (.fn [.t 2]) (.ptr rows.length 0) pv (.int .i64 k) (.int .i64 n) (.slice pt 0 3 (.at_ 3)) (.int .i64 3) (.int .i64 ((2 + 1 : Nat) : Int)) (cR rows N ev pv (H ++ L)) rows.length (cQ0 rows B) := by
  intro h L
  have := hk h (H ++ L)
  unfold Lc59l4
  simp [hw]
  simpa using this
 have := one 0 a0 a1 (by omega) rfl rfl [] (fun c1 => one 1 a0 a2 (by omega) rfl rfl _ (fun c2 => one 2 a1 a2 (by omega) rfl rfl _ (fun c3 => fin3 ⟨c1, c2, c3⟩ _) (fun h => hbad fun hh => h hh.2.2)) (fun h => hbad fun hh => h hh.2.1)) (fun h => hbad fun hh => h hh.1)
 simpa using this

set_option maxHeartbeats 16000000 in
theorem plate_loop (he : El rows 2 ev (nums .i64 fe) m) (hm : m ≤ 1000000) (hp : El rows 3 pv (nums .i64 fp) k) (hk : k ≤ 1000000) : ∀ (d i : Nat) (H : List Row), k - i = d → i ≤ k →
  Lc59l2 F (.fn [.t 2]) (.ptr rows.length 0) pv (.int .i64 k) (.int .i64 i) (cR rows N ev pv H) rows.length (cQ0 rows (pAll fe fp m d i)) := by
 intro d
 induction d with
 |
  zero =>
  intro i H hd h1
  have hi : i = k := by omega
  subst hi
  unfold Lc59l2
  simp [pAll]
 |
  succ d ih =>
  intro i H hd h1
  have hi : i < k := by omega
  have hw : IntKind.i64.wrap ((i : Int) + 1) = ((i + 1 : Nat) : Int) := by rw [wrap64 (by omega) (by omega)]; omega
  have hl := El_num_len hp
  have hp' := El_app hp (.cells [.int .i64 N, ev, pv] :: H)
  have e1 := idxW hp' hi
  have e2 := ldW3 hp' hi
  simp only [pAll]
  -- the three edges
  have three : ∀ (x6 : AV) (H2 : List Row), row? (cR rows N ev pv (H ++ H2)) (rows.length + (H.length + 1)) = some [.int .i64 (gI fp (i * 3)), .int .i64 (gI fp (i * 3 + 1)), .int .i64 (gI fp (i * 3 + 2))] →
    ∀ (B : Bool), (¬ (0 ≤ pix fe (gI fp (i * 3)) (gI fp (i * 3 + 1)) m 0 ∧ 0 ≤ pix fe (gI fp (i * 3)) (gI fp (i * 3 + 2)) m 0 ∧ 0 ≤ pix fe (gI fp (i * 3 + 1)) (gI fp (i * 3 + 2)) m 0) → B = false) →
    ((0 ≤ pix fe (gI fp (i * 3)) (gI fp (i * 3 + 1)) m 0 ∧ 0 ≤ pix fe (gI fp (i * 3)) (gI fp (i * 3 + 2)) m 0 ∧ 0 ≤ pix fe (gI fp (i * 3 + 1)) (gI fp (i * 3 + 2)) m 0) → B = pAll fe fp m d (i + 1)) →
    Jc59s16 F (.fn [.t 2]) (.ptr rows.length 0) (.ptr (rows.length + (H.length + 1)) 0) pv (.int .i64 k) (.int .i64 i) (cR rows N ev pv (H ++ H2)) rows.length (cQ0 rows B) := by
   intro x6 H2 hr B hB1 hB2
   have hlr := row?_lt hr
   have t3 := three_loop (rows := rows) (N := N) (ev := ev) (pv := pv) (fe := fe) (m := m) (k := k) he hm (a0 := gI fp (i * 3)) (a1 := gI fp (i * 3 + 1)) (a2 := gI fp (i * 3 + 2)) (H := H ++ (H2 ++ [.cells (nums .i64 [gI fp (i * 3), gI fp (i * 3 + 1), gI fp (i * 3), gI fp (i * 3 + 2), gI fp (i * 3 + 1), gI fp (i * 3 + 2)])])) (n := i) (B := B) hB1 (pt := (cR rows N ev pv (H ++ H2)).length) (by
    have : cR rows N ev pv (H ++ (H2 ++ [.cells (nums .i64 [gI fp (i * 3), gI fp (i * 3 + 1), gI fp (i * 3), gI fp (i * 3 + 2), gI fp (i * 3 + 1), gI fp (i * 3 + 2)])])) = cR rows N ev pv (H ++ H2) ++ [.cells (nums .i64 [gI fp (i * 3), gI fp (i * 3 + 1), gI fp (i * 3), gI fp (i * 3 + 2), gI fp (i * 3 + 1), gI fp (i * 3 + 2)])] := by simp
    rw [this]
    unfold row?
    simp) (fun h H' => by
    rw [hB2 h]
    exact ih (i + 1) H' (by omega) (by omega)) (by omega)
   have x0 : idx? 0 3 = some 0 := rfl
   have x1 : idx? 1 3 = some 1 := rfl
   have x2 : idx? 2 3 = some 2 := rfl
   unfold Jc59s16
   simp [x0, x1, x2, hr, fillA, splice]
   simpa [nums] using t3
  have x0 : idx? 0 3 = some 0 := rfl
  have x1 : idx? 1 3 = some 1 := rfl
  have x2 : idx? 2 3 = some 2 := rfl
  by_cases c1 : gI fp (i * 3) < gI fp (i * 3 + 1)
  ·by_cases c2 : gI fp (i * 3 + 1) < gI fp (i * 3 + 2)
   ·by_cases c3 : 0 < i
    ·have hwm : IntKind.i64.wrap ((i : Int) - 1) = ((i - 1 : Nat) : Int) := by rw [wrap64 (by omega) (by omega)]; omega
     have hR : row? (cR rows N ev pv (H ++ [.cells [.int .i64 (gI fp (i * 3)), .int .i64 (gI fp (i * 3 + 1)), .int .i64 (gI fp (i * 3 + 2))]])) (rows.length + (H.length + 1)) = some [.int .i64 (gI fp (i * 3)), .int .i64 (gI fp (i * 3 + 1)), .int .i64 (gI fp (i * 3 + 2))] := by
      unfold row?; simp
     have hp2 := El_app hp (.cells [.int .i64 N, ev, pv] :: (H ++ [.cells [.int .i64 (gI fp (i * 3)), .int .i64 (gI fp (i * 3 + 1)), .int .i64 (gI fp (i * 3 + 2))]]))
     have e3 := idxW hp2 (i := i - 1) (by omega)
     have hA := IsL_W hp2 (i := i - 1) (by omega) (c := .at_ 3)
     rw [take3 (by omega)] at hA
     have hB : IsL (cR rows N ev pv (H ++ [.cells [.int .i64 (gI fp (i * 3)), .int .i64 (gI fp (i * 3 + 1)), .int .i64 (gI fp (i * 3 + 2))]])) (.slice (rows.length + (H.length + 1)) 0 3 (.at_ 3)) [gI fp (i * 3), gI fp (i * 3 + 1), gI fp (i * 3 + 2)] := IsL_mk (n := 0) (off := 0) (c := .at_ 3) (l := [gI fp (i * 3), gI fp (i * 3 + 1), gI fp (i * 3 + 2)]) hR rfl
     have hC := Compare_ret hA hB (by simp) (by simp)
     generalize hcm : cmpL [gI fp ((i - 1) * 3), gI fp ((i - 1) * 3 + 1), gI fp ((i - 1) * 3 + 2)] [gI fp (i * 3), gI fp (i * 3 + 1), gI fp (i * 3 + 2)] = cm at hC
     by_cases c4 : cm < 0
     ·have h3 := three .any [.cells [.int .i64 (gI fp (i * 3)), .int .i64 (gI fp (i * 3 + 1)), .int .i64 (gI fp (i * 3 + 2))]] hR (pok fe fp m i && pAll fe fp m d (i + 1)) (fun h => by
       have : pok fe fp m i = false := decide_eq_false (fun hh => h hh.2.2.2)
       rw [this]; rfl) (fun h => by
       have : pok fe fp m i = true := decide_eq_true ⟨c1, c2, fun _ => by rw [hcm]; exact c4, h⟩
       rw [this]; rfl)
      unfold Lc59l2
      simp [hi, e1, e2, e3, seg, splice, lower_ge', x0, x1, x2, c1, c2, c3, hwm, sliceAV, sliceV, bound?, hC, c4, show ¬ (gI fp (i * 3 + 1) ≤ gI fp (i * 3)) by omega, show ¬ (gI fp (i * 3 + 2) ≤ gI fp (i * 3 + 1)) by omega, show ¬ (0 ≤ cm) by omega, -uc59s16, jc59s16]
      simpa using h3
     ·have hpk : pok fe fp m i = false := decide_eq_false (fun hh => by have := hh.2.2.1 c3; rw [hcm] at this; omega)
      unfold Lc59l2
      simp [hi, e1, e2, e3, seg, splice, lower_ge', x0, x1, x2, c1, c2, c3, hwm, sliceAV, sliceV, bound?, hC, hpk, show ¬ (gI fp (i * 3 + 1) ≤ gI fp (i * 3)) by omega, show ¬ (gI fp (i * 3 + 2) ≤ gI fp (i * 3 + 1)) by omega, show (0 ≤ cm) by omega]
    ·have i0 : i = 0 := by omega
     have hR : row? (cR rows N ev pv (H ++ [.cells [.int .i64 (gI fp (i * 3)), .int .i64 (gI fp (i * 3 + 1)), .int .i64 (gI fp (i * 3 + 2))]])) (rows.length + (H.length + 1)) = some [.int .i64 (gI fp (i * 3)), .int .i64 (gI fp (i * 3 + 1)), .int .i64 (gI fp (i * 3 + 2))] := by
      unfold row?; simp
     have h3 := three .any [.cells [.int .i64 (gI fp (i * 3)), .int .i64 (gI fp (i * 3 + 1)), .int .i64 (gI fp (i * 3 + 2))]] hR (pok fe fp m i && pAll fe fp m d (i + 1)) (fun h => by
       have : pok fe fp m i = false := decide_eq_false (fun hh => h hh.2.2.2)
       rw [this]; rfl) (fun h => by
       have : pok fe fp m i = true := decide_eq_true ⟨c1, c2, fun h0 => absurd h0 c3, h⟩
       rw [this]; rfl)
     unfold Lc59l2
     simp [hi, e1, e2, seg, splice, lower_ge', x0, x1, x2, c1, c2, c3, show ¬ (gI fp (i * 3 + 1) ≤ gI fp (i * 3)) by omega, show ¬ (gI fp (i * 3 + 2) ≤ gI fp (i * 3 + 1)) by omega, -uc59s16, jc59s16]
     simpa using h3
   ·have hpk : pok fe fp m i = false := decide_eq_false (fun hh => c2 hh.2.1)
    unfold Lc59l2
    simp [hi, e1, e2, seg, splice, lower_ge', x0, x1, x2, c1, hpk, show ¬ (gI fp (i * 3 + 1) ≤ gI fp (i * 3)) by omega, show (gI fp (i * 3 + 2) ≤ gI fp (i * 3 + 1)) by omega]
  ·have hpk : pok fe fp m i = false := decide_eq_false (fun hh => c1 hh.1)
   unfold Lc59l2
   simp [hi, e1, e2, seg, splice, lower_ge', x0, x1, x2, hpk, show (gI fp (i * 3 + 1) ≤ gI fp (i * 3)) by omega]

set_option maxHeartbeats 16000000 in
theorem edges_loop (he : El rows 2 ev (nums .i64 fe) m) (hm : m ≤ 1000000) (hp : El rows 3 pv (nums .i64 fp) k) (hk : k ≤ 1000000) : ∀ (d i : Nat) (H : List Row), m - i = d → i ≤ m →
  Lc59l28 F (.fn [.t 2]) (.ptr rows.length 0) ev (.int .i64 m) (.int .i64 i) (cR rows N ev pv H) rows.length (cQ0 rows (eAll N fe d i && pAll fe fp m k 0)) := by
 intro d
 induction d with
 |
  zero =>
  intro i H hd h1
  have hi : i = m := by omega
  subst hi
  have := plate_loop (rows := rows) (N := N) he hm hp hk k 0 H (by omega) (by omega)
  have hp' := El_app hp (.cells [.int .i64 N, ev, pv] :: H)
  unfold Lc59l28
  simp [eAll, lenW hp']
  simpa using this
 |
  succ d ih =>
  intro i H hd h1
  have hi : i < m := by omega
  have hw : IntKind.i64.wrap ((i : Int) + 1) = ((i + 1 : Nat) : Int) := by rw [wrap64 (by omega) (by omega)]; omega
  have hl := El_num_len he
  have he' := El_app he (.cells [.int .i64 N, ev, pv] :: H)
  have e1 := idxW he' hi
  have e2 := ldW2 he' hi
  simp only [eAll]
  have x0 : idx? 0 2 = some 0 := rfl
  have x1 : idx? 1 2 = some 1 := rfl
  have next := ih (i + 1) (H ++ [.cells [.int .i64 (gI fe (i * 2)), .int .i64 (gI fe (i * 2 + 1))]]) (by omega) (by omega)
  by_cases c0 : 0 ≤ gI fe (i * 2)
  ·by_cases c1 : gI fe (i * 2) < gI fe (i * 2 + 1)
   ·by_cases c2 : gI fe (i * 2 + 1) < N
    ·by_cases c3 : 0 < i
     ·have hwm : IntKind.i64.wrap ((i : Int) - 1) = ((i - 1 : Nat) : Int) := by rw [wrap64 (by omega) (by omega)]; omega
      have hR : row? (cR rows N ev pv (H ++ [.cells [.int .i64 (gI fe (i * 2)), .int .i64 (gI fe (i * 2 + 1))]])) (rows.length + (H.length + 1)) = some [.int .i64 (gI fe (i * 2)), .int .i64 (gI fe (i * 2 + 1))] := by
       unfold row?; simp
      have he2 := El_app he (.cells [.int .i64 N, ev, pv] :: (H ++ [.cells [.int .i64 (gI fe (i * 2)), .int .i64 (gI fe (i * 2 + 1))]]))
      have e3 := idxW he2 (i := i - 1) (by omega)
      have hA := IsL_W he2 (i := i - 1) (by omega) (c := .at_ 2)
      rw [take2 (by omega)] at hA
      have hB : IsL (cR rows N ev pv (H ++ [.cells [.int .i64 (gI fe (i * 2)), .int .i64 (gI fe (i * 2 + 1))]])) (.slice (rows.length + (H.length + 1)) 0 2 (.at_ 2)) [gI fe (i * 2), gI fe (i * 2 + 1)] := IsL_mk (n := 0) (off := 0) (c := .at_ 2) (l := [gI fe (i * 2), gI fe (i * 2 + 1)]) hR rfl
      have hC := Compare_ret hA hB (by simp) (by simp)
      generalize hcm : cmpL [gI fe ((i - 1) * 2), gI fe ((i - 1) * 2 + 1)] [gI fe (i * 2), gI fe (i * 2 + 1)] = cm at hC
      by_cases c4 : cm < 0
      ·have hek : eok N fe i = true := decide_eq_true ⟨c0, c1, c2, fun _ => by rw [hcm]; exact c4⟩
       unfold Lc59l28
       simp [hi, e1, e2, e3, seg, splice, lower_ge', x0, x1, c0, c1, c2, c3, hwm, sliceAV, sliceV, bound?, hC, c4, hek, hw, show ¬ (gI fe (i * 2) < 0) by omega, show ¬ (gI fe (i * 2 + 1) ≤ gI fe (i * 2)) by omega, show ¬ (N ≤ gI fe (i * 2 + 1)) by omega, show ¬ (0 ≤ cm) by omega]
       simpa using next
      ·have hek : eok N fe i = false := decide_eq_false (fun hh => by have := hh.2.2.2 c3; rw [hcm] at this; omega)
       unfold Lc59l28
       simp [hi, e1, e2, e3, seg, splice, lower_ge', x0, x1, c0, c1, c2, c3, hwm, sliceAV, sliceV, bound?, hC, hek, show ¬ (gI fe (i * 2) < 0) by omega, show ¬ (gI fe (i * 2 + 1) ≤ gI fe (i * 2)) by omega, show ¬ (N ≤ gI fe (i * 2 + 1)) by omega, show (0 ≤ cm) by omega]
     ·have hek : eok N fe i = true := decide_eq_true ⟨c0, c1, c2, fun h => absurd h c3⟩
      unfold Lc59l28
      simp [hi, e1, e2, seg, splice, lower_ge', x0, x1, c0, c1, c2, c3, hek, hw, show ¬ (gI fe (i * 2) < 0) by omega, show ¬ (gI fe (i * 2 + 1) ≤ gI fe (i * 2)) by omega, show ¬ (N ≤ gI fe (i * 2 + 1)) by omega]
      simpa using next
    ·have hek : eok N fe i = false := decide_eq_false (fun hh => c2 hh.2.2.1)
     unfold Lc59l28
     simp [hi, e1, e2, seg, splice, lower_ge', x0, x1, hek, show ¬ (gI fe (i * 2) < 0) by omega, show ¬ (gI fe (i * 2 + 1) ≤ gI fe (i * 2)) by omega, show (N ≤ gI fe (i * 2 + 1)) by omega]
   ·have hek : eok N fe i = false := decide_eq_false (fun hh => c1 hh.2.1)
    unfold Lc59l28
    simp [hi, e1, e2, seg, splice, lower_ge', x0, x1, hek, show ¬ (gI fe (i * 2) < 0) by omega, show (gI fe (i * 2 + 1) ≤ gI fe (i * 2)) by omega]
  ·have hek : eok N fe i = false := decide_eq_false (fun hh => c0 hh.1)
   unfold Lc59l28
   simp [hi, e1, e2, seg, splice, lower_ge', x0, x1, hek, show (gI fe (i * 2) < 0) by omega]
set_option maxHeartbeats 16000000 in
theorem Check_ret (he : El rows 2 ev (nums .i64 fe) m) (hm : m ≤ 1000000) (hp : El rows 3 pv (nums .i64 fp) k) (hk : k ≤ 1000000) : Ret F 59 [.agg [.int .i64 N, ev, pv]] rows = some (.int .i64 (if gndB N fe m fp k then 0 else 30), rows, none) := by
 have one1 := El_one he
 have one2 := El_one hp
 have he' := El_app he [.cells [.int .i64 N, ev, pv]]
 have hp' := El_app hp [.cells [.int .i64 N, ev, pv]]
 have hmain := edges_loop (rows := rows) (N := N) he hm hp hk m 0 [] (by omega) (by omega)
 refine i59 F59 ?_
 by_cases c1 : N < 1
 ·have : gndB N fe m fp k = false := by unfold gndB; rw [decide_eq_false (by omega)]; rfl
  simp [AV.cells, one1, one2, c1, this]
 ·by_cases c2 : 6 < N
  ·have : gndB N fe m fp k = false := by unfold gndB; rw [decide_eq_false (by omega)]; rfl
   simp [AV.cells, one1, one2, c1, c2, this]
  ·by_cases c3 : 10 < m
   ·have : gndB N fe m fp k = false := by unfold gndB; rw [decide_eq_false (by omega)]; rfl
    simp [AV.cells, one1, one2, c1, c2, lenW he', show ((10 : Int) < m) by omega, this]
   ·by_cases c4 : 6 < k
    ·have : gndB N fe m fp k = false := by unfold gndB; rw [decide_eq_false (by omega)]; rfl
     simp [AV.cells, one1, one2, c1, c2, lenW he', lenW hp', show ¬ ((10 : Int) < m) by omega, show ((6 : Int) < k) by omega, this]
    ·have : gndB N fe m fp k = (eAll N fe m 0 && pAll fe fp m k 0) := by unfold gndB; rw [decide_eq_true (by omega)]; rfl
     rw [this]
     generalize (eAll N fe m 0 && pAll fe fp m k 0) = bb at hmain ⊢
     simp [AV.cells, one1, one2, c1, c2, lenW he', lenW hp', show ¬ ((10 : Int) < m) by omega, show ¬ ((6 : Int) < k) by omega]
     exact hmain
end
theorem cmpL2_lt {a b c d : Int} (h : a < c ∨ (a = c ∧ b < d)) : cmpL [a, b] [c, d] < 0 := by
 simp only [cmpL]
 rcases h with h | ⟨rfl, h⟩
 ·rw [if_pos h]; omega
 ·rw [if_neg (by omega), if_neg (by omega), if_pos h]; omega
theorem cmpL3_lt {a b c d e f : Int} (h : a < d ∨ (a = d ∧ (b < e ∨ (b = e ∧ c < f)))) : cmpL [a, b, c] [d, e, f] < 0 := by
 simp only [cmpL]
 rcases h with h | ⟨rfl, h | ⟨rfl, h⟩⟩
 ·rw [if_pos h]; omega
 ·rw [if_neg (by omega), if_neg (by omega), if_pos h]; omega
 ·rw [if_neg (by omega), if_neg (by omega), if_neg (by omega), if_neg (by omega), if_pos h]; omega
theorem gN_lt {l : List Nat} (h : l.Pairwise (· < ·)) {i j : Nat} (hij : i < j) (hj : j < l.length) : gN l i < gN l j := by
 rw [gN_eq (by omega), gN_eq hj]
 exact List.pairwise_iff_getElem.1 h i j (by omega) hj hij
theorem eAll_ok {N : Nat} {ks ps : List Nat} (h : GOK N ks ps) : ∀ d i, i + d = ks.length → eAll N (eC ks) d i = true
 | 0, _, _ => rfl
 |
  d + 1, i, hd => by
  have hi : i < ks.length := by omega
  obtain ⟨e1, e2⟩ := eC_a hi
  have hm := h.ee _ (gN_mem hi)
  have : eok N (eC ks) i = true := by
   refine decide_eq_true ⟨by omega, by omega, by omega, fun h0 => ?_⟩
   obtain ⟨e3, e4⟩ := eC_a (ks := ks) (i := i - 1) (by omega)
   have hlt := gN_lt h.es (i := i - 1) (j := i) (by omega) hi
   have hm' := h.ee _ (gN_mem (l := ks) (i := i - 1) (by omega))
   rw [e1, e2, e3, e4]
   apply cmpL2_lt
   omega
  rw [eAll, this, eAll_ok h d (i + 1) (by omega)]
  rfl
theorem pAll_ok {N : Nat} {ks ps : List Nat} (h : GOK N ks ps) : ∀ d i, i + d = ps.length → pAll (eC ks) (pC ps) ks.length d i = true
 | 0, _, _ => rfl
 |
  d + 1, i, hd => by
  have hi : i < ps.length := by omega
  obtain ⟨e1, e2, e3⟩ := pC_a hi
  have hm := h.pe _ (gN_mem hi)
  have : pok (eC ks) (pC ps) ks.length i = true := by
   refine decide_eq_true ⟨by omega, by omega, fun h0 => ?_, ?_, ?_, ?_⟩
   ·obtain ⟨e4, e5, e6⟩ := pC_a (ps := ps) (i := i - 1) (by omega)
    have hlt := gN_lt h.psd (i := i - 1) (j := i) (by omega) hi
    have hm' := h.pe _ (gN_mem (l := ps) (i := i - 1) (by omega))
    rw [e1, e2, e3, e4, e5, e6]
    apply cmpL3_lt
    omega
   ·rw [e1, e2]
    exact (pix_in (by omega)).2 hm.2.2.2.1
   ·rw [e1, e3]
    exact (pix_in (by omega)).2 hm.2.2.2.2.1
   ·rw [e2, e3]
    exact (pix_in (by omega)).2 hm.2.2.2.2.2
  rw [pAll, this, pAll_ok h d (i + 1) (by omega)]
  rfl
theorem gndB_ok {N : Nat} {ks ps : List Nat} (h : GOK N ks ps) : gndB N (eC ks) ks.length (pC ps) ps.length = true := by
 have h1 := h.n1
 have h2 := h.n6
 have h3 := h.ek
 have h4 := h.pk
 unfold gndB
 rw [decide_eq_true (by omega), eAll_ok h _ 0 (by omega), pAll_ok h _ 0 (by omega)]
 rfl
end Go.Abs

namespace Go.Abs
section
variable {rows : List Row} {v : AV} {l : List Int}
def outB (x : Int) : Bool := decide (x < -100 ∨ 100 < x)
theorem out_ret {x : Int} : Ret F 94 [.int .i64 x] rows = some (.bool (outB x), rows, none) := by
 refine i94 F94 ?_
 unfold outB
 by_cases h : x < -100 <;> simp [h]
theorem IndexF_loop {fid : Nat} {cs : List AV} {p : Int → Bool} (h : IsL rows v l) (hl : l.length < 4611686018427387904) (hp : ∀ x ∈ l, Ret F fid (.int .i64 x :: cs) rows = some (.bool (p x), rows, none)) {q : AV × List Row × Option Nat} (hq : q = (.int .i64 (match l.findIdx? p with | some i => (i : Int) | none => -1), rows, none)) : ∀ (n i : Nat), l.length - i = n → i ≤ l.length → (∀ j, j < i → p (gI l j) = false) →
  Lc103l2 F (.fn [.t 4]) v (.func fid cs) (.int .i64 l.length) (.int .i64 i) rows rows.length (fun r => fin rows r.1 r.2.1 r.2.2 = q) := by
 intro n
 induction n with
 |
  zero =>
  intro i hn h1 hf
  have hi : i = l.length := by omega
  subst hi
  have hnone : l.findIdx? p = none := by
   rw [List.findIdx?_eq_none_iff]
   intro x hx
   obtain ⟨j, hj, rfl⟩ := List.mem_iff_getElem.1 hx
   have := hf j hj
   rwa [gI_eq hj] at this
  unfold Lc103l2
  simp [hq, hnone]
 |
  succ n ih =>
  intro i hn h1 hf
  have hi : i < l.length := by omega
  have hr := hp (gI l i) (gI_mem hi)
  unfold Lc103l2
  simp (disch := first | omega | (simp; done) | fail) [hi, idxL0 h, loadL0 h, hr]
  cases hpi : p (gI l i) with
  |
   true =>
   have hsome : l.findIdx? p = some i := by
    rw [List.findIdx?_eq_some_iff_getElem]
    refine ⟨hi, ?_, ?_⟩
    ·rwa [gI_eq hi] at hpi
    ·intro j hj
     have := hf j hj
     rw [gI_eq (by omega)] at this
     simpa using this
   simp [hq, hsome]
  |
   false =>
   simp (disch := first | omega | (simp; done) | fail) [wrap64]
   refine ih (i + 1) (by omega) (by omega) fun j hj => ?_
   by_cases e : j = i
   ·subst e; exact hpi
   ·exact hf j (by omega)
theorem ContainsF_ret {fid : Nat} {cs : List AV} {p : Int → Bool} (h : IsL rows v l) (hl : l.length < 4611686018427387904) (hp : ∀ x ∈ l, Ret F fid (.int .i64 x :: cs) rows = some (.bool (p x), rows, none)) : Ret F 83 [v, .func fid cs] rows = some (.bool (l.any p), rows, none) := by
 have h103 : Ret F 103 [v, .func fid cs] rows = some (.int .i64 (match l.findIdx? p with | some i => (i : Int) | none => -1), rows, none) := by
  refine i103 F103 ?_
  simp [lenL0 h]
  exact IndexF_loop h hl hp rfl _ 0 rfl (by omega) (fun j hj => absurd hj (by omega))
 refine i83 F83 ?_
 simp [h103]
 cases e : l.findIdx? p with
 |
  none =>
  simp only
  rw [List.findIdx?_eq_none_iff] at e
  simp
  exact e
 |
  some i =>
  have hi := (List.findIdx?_eq_some_iff_getElem.1 e)
  obtain ⟨h1, h2, _⟩ := hi
  simp
  exact ⟨_, List.getElem_mem h1, h2⟩
theorem edges_ret {N : AV} {ev pv : AV} {cs : List AV} {m : Nat} (he : El rows 2 ev cs m) (h1 : N.one = true) (h2 : pv.one = true) : Ret F 67 [.agg [N, ev, pv]] rows = some (.int .i64 m, rows, none) := by
 have one1 := El_one he
 have he' := El_app he [.cells [N, ev, pv]]
 refine i67 F67 ?_
 simp [AV.cells, one1, h1, h2, lenW he']
def opn (b : Bool) (n : Int) (l : List Int) : Int := if b = false then 30 else if (l.length : Int) = n ∧ l.any outB = false then 0 else 1
set_option maxHeartbeats 4000000 in
theorem open_ret {N n : Int} {ev pv g' : AV} {fe fp : List Int} {m k f : Nat} (he : El rows 2 ev (nums .i64 fe) m) (hm : m ≤ 1000000) (hp : El rows 3 pv (nums .i64 fp) k) (hk : k ≤ 1000000) (h : IsL rows v l) (hl : l.length ≤ 1000000)
  (hn : ∀ L, Ret F f [g'] (rows ++ L) = some (.int .i64 n, rows ++ L, none)) : Ret F 66 [.agg [.int .i64 N, ev, pv], v, .iface bd (.agg [.int .u64 f, g'])] rows = some (.int .i64 (opn (gndB N fe m fp k) n l), rows, none) := by
 have one1 := El_one he
 have one2 := El_one hp
 have hC := Check_ret (N := N) (El_app he [.cells [.int .i64 N, ev, pv]]) hm (El_app hp [.cells [.int .i64 N, ev, pv]]) hk
 have h' := IsL_app h [.cells [.int .i64 N, ev, pv]]
 have hF := ContainsF_ret h' (by omega) (fid := 94) (cs := []) (p := outB) (fun x _ => out_ret)
 have hn1 := hn [.cells [.int .i64 N, ev, pv]]
 refine i66 F66 ?_
 unfold opn
 cases hb : gndB N fe m fp k with
 |
  false =>
  rw [hb] at hC
  simp [AV.cells, one1, one2, hC, seg, splice]
 |
  true =>
  rw [hb] at hC
  by_cases c1 : (l.length : Int) = n
  ·cases hF2 : l.any outB with
   |
    false =>
    rw [hF2] at hF
    simp [AV.cells, one1, one2, hC, seg, splice, lenL0 h', boundOf, hn1, c1, hF]
   |
    true =>
    rw [hF2] at hF
    simp [AV.cells, one1, one2, hC, seg, splice, lenL0 h', boundOf, hn1, c1, hF]
  ·simp [AV.cells, one1, one2, hC, seg, splice, lenL0 h', boundOf, hn1, c1]
end
end Go.Abs

namespace Go.Abs
section
variable {rows : List Row} {fv rv : AV} {fw rg : List Int} {ev pv : AV} {fl : List Int} {m : Nat}
theorem bd_get {fw : List Int} (h : ∀ x ∈ fw, -100 ≤ x ∧ x ≤ 100) {i : Nat} (hi : i < fw.length) : -100 ≤ gI fw i ∧ gI fw i ≤ 100 := h _ (gI_mem hi)
end
end Go.Abs

namespace Go.Abs
section
variable {B L : List Row} {sz n : Nat} {c : Cap} {v : AV} {cs : List AV}
def Acc (B L : List Row) (sz : Nat) (c : Cap) (v : AV) (cs : List AV) (n : Nat) : Prop :=
 cs.length = n * sz ∧ ((v = .nilslice ∧ cs = []) ∨ ∃ k, v = .slice (B.length + k) 0 n c ∧ L[k]? = some (.cells cs))
theorem Acc_nil : Acc B L sz c .nilslice [] 0 := ⟨by simp, .inl ⟨rfl, rfl⟩⟩
theorem Acc_app (h : Acc B L sz c v cs n) (M : List Row) : Acc B (L ++ M) sz c v cs n := by
 obtain ⟨h1, h2⟩ := h
 refine ⟨h1, ?_⟩
 rcases h2 with h2 | ⟨k, hv, hk⟩
 ·exact .inl h2
 ·refine .inr ⟨k, hv, ?_⟩
  rw [List.getElem?_append_left (List.getElem?_eq_some_iff.1 hk).1]
  exact hk
theorem Acc_more2 {x : List AV} {low b : Nat} (h : Acc B L sz (.op sz) v cs n) (hx : x.length = sz) (hsz : 0 < sz) (hl : n < 1000000000) (hlow : low ≤ B.length) :
  ∃ v' L', evE (B ++ (L ++ [.cells x])) low (.app sz b (.c v) (.c (.slice (B.length + L.length) 0 1 (.at_ 1)))) = some (v', B ++ L', low) ∧ Acc B L' sz (.op sz) v' (cs ++ x) (n + 1) ∧
   (∀ id, id < B.length + L.length → (v = .nilslice ∨ id ≠ sid v) → (B ++ L')[id]? = (B ++ L)[id]?) ∧ B.length + L.length ≤ sid v' ∧ L.length ≤ L'.length := by
 obtain ⟨h1, h2⟩ := h
 have hr : row? (B ++ (L ++ [.cells x])) (B.length + L.length) = some x := by
  unfold row?; simp
 have htmp : El (B ++ (L ++ [.cells x])) sz (.slice (B.length + L.length) 0 1 (.at_ 1)) x 1 := by
  unfold El elems
  simp only [hr]
  unfold seg
  rw [if_pos (by omega)]
  simp only [List.drop_zero, Option.map_some, Nat.one_mul]
  rw [List.take_of_length_le (by omega)]
 have hlen : (cs ++ x).length = (n + 1) * sz := by rw [List.length_append, h1, hx, Nat.succ_mul]
 rcases h2 with ⟨rfl, rfl⟩ | ⟨k, rfl, hk⟩
 ·have h0 : n = 0 := by
   rcases Nat.mul_eq_zero.1 (show n * sz = 0 from h1.symm) with h | h
   ·exact h
   ·omega
  subst h0
  refine ⟨_, L ++ [.cells x, .cells x], ?_, ⟨hlen, .inr ⟨L.length + 1, rfl, by simp⟩⟩, fun id h1 _ => by rw [← List.append_assoc, List.getElem?_append_left (by simp; omega)], by simp only [sid_s]; omega, by simp⟩
  rw [app_nil htmp (by omega) (by simp [lim])]
  simp [Nat.add_assoc]
 ·have hkl := (List.getElem?_eq_some_iff.1 hk).1
  have hcell : cells? (B ++ (L ++ [.cells x])) (B.length + k) = some cs := by
   unfold cells?
   rw [List.getElem?_append_right (by omega), Nat.add_sub_cancel_left, List.getElem?_append_left hkl, hk]
  refine ⟨_, L.set k .dead ++ [.cells x, .cells (cs ++ x)], ?_, ⟨hlen, .inr ⟨L.length + 1, rfl, by simp⟩⟩, fun id h1 h2 => ?_, by simp only [sid_s]; omega, by simp⟩
  ·rw [app_op hcell (xs := cs) (by unfold seg; rw [if_pos (by omega), ← h1]; simp) htmp (by omega) (by simp [lim]; omega)]
   simp only [Option.some.injEq, Prod.mk.injEq]
   refine ⟨by simp [Nat.add_assoc], ?_, lower_ge' (by omega)⟩
   rw [List.set_append_right _ _ (by omega), Nat.add_sub_cancel_left, List.set_append_left _ _ hkl]
   simp
  ·have h3 : id ≠ B.length + k := by
    rcases h2 with h2 | h2
    ·simp at h2
    ·simpa using h2
   by_cases c : id < B.length
   ·rw [List.getElem?_append_left c, List.getElem?_append_left c]
   ·rw [List.getElem?_append_right (by omega), List.getElem?_append_left (by rw [List.length_set]; omega), List.getElem?_set_ne (by omega), List.getElem?_append_right (by omega)]
theorem Acc_more {x : List AV} {low b : Nat} (h : Acc B L sz (.op sz) v cs n) (hx : x.length = sz) (hsz : 0 < sz) (hl : n < 1000000000) (hlow : low ≤ B.length) :
  ∃ v' L', evE (B ++ (L ++ [.cells x])) low (.app sz b (.c v) (.c (.slice (B.length + L.length) 0 1 (.at_ 1)))) = some (v', B ++ L', low) ∧ Acc B L' sz (.op sz) v' (cs ++ x) (n + 1) := by
 obtain ⟨v', L', e, hA, _⟩ := Acc_more2 (low := low) (b := b) h hx hsz hl hlow
 exact ⟨v', L', e, hA⟩
theorem Acc_fin {e : Int} {kd : IntKind} {l : List Int} (h : Acc B L 1 c v (nums .i64 l) n) (hcp : c = .op 1 ∨ ∃ m, c = .at_ m ∧ n ≤ m) :
  ∃ v' X, fin B (.tup [v, .int kd e]) (B ++ L) B.length = (.tup [v', .int kd e], B ++ X, none) ∧ X.all (Row.under 0) = true ∧ IsL (B ++ X) v' l ∧ l.length = n ∧ Cp 1 v' := by
 obtain ⟨h1, h2⟩ := h
 have hl : l.length = n := by simpa [nums] using h1
 rcases h2 with ⟨rfl, e⟩ | ⟨k, rfl, hk⟩
 ·have h0 : n = 0 := by rw [e] at h1; simpa using h1.symm
  have : l = [] := List.eq_nil_of_length_eq_zero (by omega)
  subst this
  exact ⟨.nilslice, [], by simp, rfl, IsL_nil, hl, trivial⟩
 ·have hu : (nums .i64 l).all (·.ids.isEmpty) = true := cells_ids nums_und
  refine ⟨_, [.cells (nums .i64 l)], fin_slice_int hk hu, by simp, ?_, hl, ?_⟩
  ·have hr : row? (B ++ [.cells (nums .i64 l)]) B.length = some (nums .i64 l) := by simp [row?]
   rw [← hl]
   exact IsL_mk (n := 0) hr (by rw [nums_seg, if_pos (by omega)]; simp)
  ·rcases hcp with rfl | ⟨m, rfl, hm⟩
   ·rfl
   ·exact hm
end
end Go.Abs

