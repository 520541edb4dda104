/- A region as one step: what its operations come to, one after the other, with the slots resolved. -/
import Derived.Test.YtiejbjajbehcfaaDoorA22b
set_option linter.unusedVariables false
set_option linter.unusedSimpArgs false
namespace Go.Abs
/-! ### Operands resolved -/
def subO (g : Opd → AV) (x : Opd) : Opd := .c (g x)
def subI (g : Opd → AV) : IOp → IOp
  | .mv x => .mv (subO g x)
  | .pick c a b => .pick (subO g c) (subO g a) (subO g b)
  | .box x => .box (subO g x)
  | .load1 a => .load1 (subO g a)
  | .loadN n a => .loadN n (subO g a)
  | .store1 a x => .store1 (subO g a) (subO g x)
  | .storeN n a x => .storeN n (subO g a) (subO g x)
  | .nilck x => .nilck (subO g x)
  | .bin op x y => .bin op (subO g x) (subO g y)
  | .eqv neg kd x y => .eqv neg kd (subO g x) (subO g y)
  | .un op x => .un op (subO g x)
  | .conv k x => .conv k (subO g x)
  | .part1 off x => .part1 off (subO g x)
  | .partN off n x => .partN off n (subO g x)
  | .idxV n sz ag x i => .idxV n sz ag (subO g x) (subO g i)
  | .fieldA off x => .fieldA off (subO g x)
  | .idxA n sz x i => .idxA n sz (subO g x) (subO g i)
  | .idxS sz x i => .idxS sz (subO g x) (subO g i)
  | .mkagg zero ps => .mkagg zero (ps.map fun p => (p.1, p.2.1, subO g p.2.2))
  | .mkslice n zero ps => .mkslice n zero (ps.map fun p => (p.1, p.2.1, subO g p.2.2))
  | .make zero b l c => .make zero b (subO g l) (subO g c)
  | .sliceS sz x lo hi mx => .sliceS sz (subO g x) (lo.map (subO g)) (hi.map (subO g)) (mx.map (subO g))
  | .sliceA n sz x lo hi mx => .sliceA n sz (subO g x) (lo.map (subO g)) (hi.map (subO g)) (mx.map (subO g))
  | .mkfn f cs => .mkfn f (cs.map (subO g))
  | .mkmap => .mkmap
  | .look z ok m k => .look z ok (subO g m) (subO g k)
  | .mset m k v => .mset (subO g m) (subO g k) (subO g v)
  | .lenc n => .lenc n
  | .len kd x => .len kd (subO g x)
  | .cap x => .cap (subO g x)
  | .mx xs => .mx (xs.map (subO g))
  | .mn xs => .mn (xs.map (subO g))
  | .app sz b s x => .app sz b (subO g s) (subO g x)
  | .appz z s x => .appz z (subO g s) (subO g x)
  | .ext x i => .ext (subO g x) i
  | .mkif t x => .mkif t (subO g x)
  | .call f args => .call (subO g f) (args.map (subO g))
  | .bad => .bad

/-- An operation that touches nothing, or reads alone. -/
def evP (rows : List Row) (o : IOp) : Option AV := evalP rows (getO []) o
/-- An operation that makes or writes. -/
def evE (rows : List Row) (low : Nat) (o : IOp) : Option (AV × List Row × Nat) := evalE (getO []) rows low o

theorem get_sub (g : Opd → AV) (x : Opd) : getO [] (subO g x) = g x := rfl
theorem fillA_sub (g : Opd → AV) : ∀ (ps : List (Nat × Nat × Opd)) (cs : List AV), fillA (getO []) (ps.map fun p => (p.1, p.2.1, subO g p.2.2)) cs = fillA g ps cs
  | [], cs => rfl
  | p :: ps, cs => by
    simp only [List.map_cons, fillA, get_sub, fillA_sub g ps]
theorem map_sub (g : Opd → AV) (l : List Opd) : (l.map (subO g)).map (getO []) = l.map g := by simp [get_sub, Function.comp_def]
theorem mapo_sub (g : Opd → AV) (l : Option Opd) : (l.map (subO g)).map (getO []) = l.map g := by cases l <;> rfl

theorem evalP_sub (rows : List Row) (g : Opd → AV) (o : IOp) : evalP rows g o = evP rows (subI g o) := by
  cases o <;> simp only [evP, subI, evalP, get_sub, fillA_sub, map_sub, mapo_sub]
theorem evalE_sub (rows : List Row) (low : Nat) (g : Opd → AV) (o : IOp) : evalE g rows low o = evE rows low (subI g o) := by
  cases o <;> first | rfl | simp only [evE, subI, evalE, get_sub, fillA_sub, map_sub, mapo_sub, evalP]

/-- An operation that writes nothing. -/
def IOp.pure : IOp → Bool
  | .mv _ | .pick .. | .load1 _ | .loadN .. | .nilck _ | .bin .. | .eqv .. | .un .. | .conv .. | .part1 .. | .partN .. | .idxV .. | .fieldA .. | .idxA .. | .idxS .. | .mkagg .. | .sliceS .. | .sliceA .. | .mkfn .. | .look .. | .lenc _ | .len .. | .cap _ | .mx _ | .mn _ | .ext .. | .mkif .. => true
  | _ => false
theorem pure_plain {o : IOp} (h : o.pure = true) : o.plain = true := by cases o <;> first | rfl | simp [IOp.pure] at h
theorem evalE_pure {o : IOp} (h : o.pure = true) (g : Opd → AV) (rows : List Row) (low : Nat) : evalE g rows low o = (evalP rows g o).map fun v => (v, rows, low) := by
  cases o <;> first | rfl | simp [IOp.pure] at h

/-- 'o' comes to something of which 'K' holds. -/
def bnd {α : Type} (o : Option α) (K : α → Prop) : Prop := ∃ a, o = some a ∧ K a
@[simp] theorem bnd_some {α : Type} (a : α) (K : α → Prop) : bnd (some a) K ↔ K a := by simp [bnd]
@[simp] theorem bnd_none {α : Type} (K : α → Prop) : bnd none K ↔ False := by simp [bnd]
@[congr] theorem bnd_congr {α : Type} {o o' : Option α} {K : α → Prop} (h : o = o') : bnd o K = bnd o' K := by rw [h]
theorem bnd_map {α β : Type} (o : Option α) (f : α → β) (K : β → Prop) : bnd (o.map f) K ↔ bnd o fun a => K (f a) := by cases o <;> simp

/-- A guarded value. -/
def gv (g : AV) (b : Bool) (e : Option AV) : Option AV :=
  match g with
  | .bool c => if c == b then e else some (.tup [])
  | .tup [] => some (.tup [])
  | _ => none
/-- A guarded step. -/
def gw (g : AV) (b : Bool) (K : Prop) (K' : Prop) : Prop :=
  match g with
  | .bool c => if c == b then K else K'
  | .tup [] => K'
  | _ => False

section
variable (F : Nat → Option IFn)
/-- A call of a value. -/
def callK (rows : List Row) (low : Nat) (args : List AV) (K : AV → List Row → Nat → Prop) : AV → Prop
  | .func f cs => bnd (Ret F f (args ++ cs) rows) fun q => K q.1 q.2.1 (lowO low q.2.2)
  | .yield id => ∃ st pd sl1 ps asg body, rows[id]? = some (.loop st pd sl1 ps asg body) ∧ ps.length = args.length ∧
    Ex F (.round id) [.code asg, .rfBegin, .code body] ⟨putL sl1 ps args, rows, rows.length⟩ fun q => K q.1 (gc rows.length (lower low q.2.2) q.1 q.2.1) (lower low q.2.2)
  | _ => False

/-- A guarded call. -/
def gcall (g : AV) (b : Bool) (rows : List Row) (low : Nat) (args : List AV) (f : AV) (K : AV → List Row → Nat → Prop) : Prop := gw g b (callK F rows low args K f) (K (.tup []) rows low)
/-- A guarded operation that makes or writes. -/
def geff (g : AV) (b : Bool) (rows : List Row) (low : Nat) (o : IOp) (K : AV → List Row → Nat → Prop) : Prop := gw g b (bnd (evE rows low o) fun q => K q.1 q.2.1 q.2.2) (K (.tup []) rows low)
/-- A call within a group. -/
noncomputable def opC (rows : List Row) (low : Nat) (args : List AV) (f : AV) : Option (AV × List Row × Nat) :=
  match target f args with
  | some (fid, vs) => (Ret F fid vs rows).map fun q => (q.1, q.2.1, lowO low q.2.2)
  | none => none
/-- A guarded step within a group. -/
def go (g : AV) (b : Bool) (rows : List Row) (low : Nat) (e : Option (AV × List Row × Nat)) : Option (AV × List Row × Nat) :=
  match g with
  | .bool c => if c == b then e else some (.tup [], rows, low)
  | .tup [] => some (.tup [], rows, low)
  | _ => none
variable {σ : Type} (get : σ → Opd → AV) (put : σ → Option Nat → AV → σ)
/-- One operation of a group that makes something. -/
noncomputable def opG (sl : σ) (rows : List Row) (low : Nat) (o : IOpx) : Option (AV × List Row × Nat) :=
  match o with
  | ⟨_, .call f args, none⟩ => opC F rows low (args.map (get sl)) (get sl f)
  | ⟨_, .call f args, some (t, b)⟩ => go (get sl (.t t)) b rows low (opC F rows low (args.map (get sl)) (get sl f))
  | ⟨_, op, none⟩ => evE rows low (subI (get sl) op)
  | ⟨_, op, some (t, b)⟩ => go (get sl (.t t)) b rows low (evE rows low (subI (get sl) op))

/-- One operation of a region. -/
def runO (o : IOpx) (sl : σ) (rows : List Row) (low : Nat) (K : σ → List Row → Nat → Prop) : Prop :=
  match o with
  | ⟨d, .mv x, none⟩ => K (put sl d (get sl x)) rows low
  | ⟨d, .call (.c (.func f [])) args, none⟩ => bnd (Ret F f (args.map (get sl)) rows) fun q => K (put sl d q.1) q.2.1 (lowO low q.2.2)
  | ⟨d, .call f args, none⟩ => callK F rows low (args.map (get sl)) (fun v rows low => K (put sl d v) rows low) (get sl f)
  | ⟨d, .call f args, some (t, b)⟩ => gcall F (get sl (.t t)) b rows low (args.map (get sl)) (get sl f) (fun v rows low => K (put sl d v) rows low)
  | ⟨d, op, none⟩ => if op.pure then bnd (evP rows (subI (get sl) op)) fun v => K (put sl d v) rows low else bnd (evE rows low (subI (get sl) op)) fun q => K (put sl d q.1) q.2.1 q.2.2
  | ⟨d, op, some (t, b)⟩ => if op.pure then bnd (gv (get sl (.t t)) b (evP rows (subI (get sl) op))) fun v => K (put sl d v) rows low else geff (get sl (.t t)) b rows low (subI (get sl) op) fun v rows low => K (put sl d v) rows low

/-- The operations of a group that writes nothing. -/
def runL (rows : List Row) (low : Nat) (K : σ → Prop) : List (IOpx × Nat) → σ → Prop
  | [], sl => K sl
  | (o, _) :: r, sl => runO F get put o sl rows low fun sl _ _ => runL rows low K r sl
def purePs : List (IOpx × Nat) → Bool
  | [] => true
  | (o, _) :: r => o.op.pure && purePs r

/-- A group's operations, one after the other: 'ext' is what they have made. -/
def runG (rows : List Row) (K : σ → List Row → Prop) : Nat → List (IOpx × Nat) → σ → List (Nat × Row) → Prop
  | _, [], sl, ext => K sl (rows ++ ext.map (·.2))
  | i, (o, b) :: r, sl, ext =>
    if o.op.pure then
      (match o with
      | ⟨d, .mv x, none⟩ => runG rows K (i + 1) r (put sl d (get sl x)) ext
      | ⟨d, op, none⟩ => bnd (evP (rows ++ maskE b ext) (subI (get sl) op)) fun v => runG rows K (i + 1) r (put sl d v) ext
      | ⟨d, op, some (t, c)⟩ => bnd (gv (get sl (.t t)) c (evP (rows ++ maskE b ext) (subI (get sl) op))) fun v => runG rows K (i + 1) r (put sl d v) ext)
    else bnd (opG F get sl (rows ++ maskE b ext) (rows.length + ext.length) o) fun q => q.2.2 = rows.length + ext.length ∧
      bnd (some (ext ++ (q.2.1.drop (rows.length + ext.length)).map fun x => (i, x))) fun e => runG rows K (i + 1) r (put sl o.dst q.1) e

/-- A region. -/
def runP (E : σ → List Row → Nat → Prop) : List Seg → σ → List Row → Nat → Prop
  | [], sl, rows, low => E sl rows low
  | .one o :: l, sl, rows, low => runO F get put o sl rows low fun sl rows low => runP E l sl rows low
  | .grp g :: l, sl, rows, low => if purePs g then runL F get put rows low (fun sl => runP E l sl rows low) g sl else runG F get put rows (fun sl rows => runP E l sl rows low) 0 g sl []
  | .grpw .. :: _, _, _, _ => False
  | .stop :: _, _, _, _ => False
def noW : List Seg → Bool
  | [] => true
  | .grpw .. :: _ => false
  | _ :: l => noW l
end

section
variable {F : Nat → Option IFn} {cx : Ctx} {k : List Itm} {r : AV × List Row × Nat → Prop} {l : List Seg}

theorem callD_callK {d : Option Nat} {sl : List AV} {rows : List Row} {low : Nat} {args : List AV} {v : AV} {P : List AV → List Row → Nat → Prop} (hP : ∀ sl rows low, Ex F cx (.ops l :: k) ⟨sl, rows, low⟩ r ↔ P sl rows low) :
    callD F cx d l k sl rows low r args v ↔ callK F rows low args (fun v rows low => P (putO sl d v) rows low) v := by
  cases v <;> simp only [callD, callK, hP, bnd]

theorem runO_ok {o : IOpx} {sl : List AV} {rows : List Row} {low : Nat} {P : List AV → List Row → Nat → Prop} (hP : ∀ sl rows low, Ex F cx (.ops l :: k) ⟨sl, rows, low⟩ r ↔ P sl rows low) :
    Ex F cx (.ops (.one o :: l) :: k) ⟨sl, rows, low⟩ r ↔ runO F getO putO o sl rows low P := by
  have plainN : ∀ (d : Option Nat) (op : IOp), op.plain = true → (Ex F cx (.ops (.one ⟨d, op, none⟩ :: l) :: k) ⟨sl, rows, low⟩ r ↔ bnd (evE rows low (subI (getO sl) op)) fun q => P (putO sl d q.1) q.2.1 q.2.2) := by
    intro d op ho
    rw [Ex_op ho]
    simp only [want, Option.some.injEq, exists_eq_left', if_true, hP, bnd, evalE_sub]
    constructor
    · rintro ⟨v, a, b, e, h⟩; exact ⟨_, e, h⟩
    · rintro ⟨⟨v, a, b⟩, e, h⟩; exact ⟨_, _, _, e, h⟩
  have pureN : ∀ (d : Option Nat) (op : IOp), op.pure = true → (Ex F cx (.ops (.one ⟨d, op, none⟩ :: l) :: k) ⟨sl, rows, low⟩ r ↔ bnd (evP rows (subI (getO sl) op)) fun v => P (putO sl d v) rows low) := by
    intro d op ho
    rw [plainN d op (pure_plain ho), ← evalE_sub, evalE_pure ho, bnd_map, evalP_sub]
  have want2 : ∀ (t : Nat) (b : Bool) (K K' : Prop), (∃ c, want sl (some (t, b)) = some c ∧ if c = true then K else K') ↔ gw (sl.getD t .any) b K K' := by
    intro t b K K'
    unfold want gw
    simp only
    generalize sl.getD t AV.any = gg
    split <;> simp
  have pureG : ∀ (d : Option Nat) (op : IOp) (t : Nat) (b : Bool), op.pure = true → (Ex F cx (.ops (.one ⟨d, op, some (t, b)⟩ :: l) :: k) ⟨sl, rows, low⟩ r ↔ bnd (gv (sl.getD t .any) b (evP rows (subI (getO sl) op))) fun v => P (putO sl d v) rows low) := by
    intro d op t b ho
    rw [Ex_guard, want2, pureN d op ho, hP]
    unfold gw gv
    generalize sl.getD t AV.any = gg
    split
    · split <;> simp
    · simp
    · simp
  have effG : ∀ (d : Option Nat) (op : IOp) (t : Nat) (b : Bool), op.plain = true → (Ex F cx (.ops (.one ⟨d, op, some (t, b)⟩ :: l) :: k) ⟨sl, rows, low⟩ r ↔ gw (sl.getD t .any) b (bnd (evE rows low (subI (getO sl) op)) fun q => P (putO sl d q.1) q.2.1 q.2.2) (P (putO sl d (.tup [])) rows low)) := by
    intro d op t b ho
    rw [Ex_guard, want2, plainN d op ho, hP]
  obtain ⟨d, op, g⟩ := o
  cases g with
  | none =>
    cases op with
    | mv x =>
      rw [pureN d _ rfl]
      simp only [subI, evP, evalP, get_sub, bnd_some, runO]
    | call f args =>
      have hd := Ex_callD (F := F) (cx := cx) (k := k) (r := r) (l := l) (sl := sl) (rows := rows) (low := low) (d := d) (f := f) (args := args)
      rw [hd, callD_callK hP]
      cases f with
      | t n => rfl
      | c v =>
        cases v with
        | func fid cs =>
          cases cs with
          | nil => simp only [runO, getO, callK, List.append_nil]
          | cons a b => rfl
        | _ => rfl
    | box x => rw [plainN d _ rfl]; rfl
    | store1 a x => rw [plainN d _ rfl]; rfl
    | storeN n a x => rw [plainN d _ rfl]; rfl
    | mkslice a b c => rw [plainN d _ rfl]; rfl
    | make a b x y => rw [plainN d _ rfl]; rfl
    | mkmap => rw [plainN d _ rfl]; rfl
    | mset m k v => rw [plainN d _ rfl]; rfl
    | app a b x y => rw [plainN d _ rfl]; rfl
    | appz a b x => rw [plainN d _ rfl]; rfl
    | bad => rw [plainN d _ rfl]; rfl
    | _ => rw [pureN d _ rfl]; rfl
  | some p =>
    obtain ⟨t, b⟩ := p
    cases op with
    | mv x => rw [pureG d _ t b rfl]; rfl
    | call f args =>
      rw [Ex_guard, want2, Ex_callD, callD_callK hP, hP]
      cases f with
      | t n => rfl
      | c v =>
        cases v with
        | func fid cs => cases cs <;> rfl
        | _ => rfl
    | box x => rw [effG d _ t b rfl]; rfl
    | store1 a x => rw [effG d _ t b rfl]; rfl
    | storeN n a x => rw [effG d _ t b rfl]; rfl
    | mkslice a b' c => rw [effG d _ t b rfl]; rfl
    | make a b' x y => rw [effG d _ t b rfl]; rfl
    | mkmap => rw [effG d _ t b rfl]; rfl
    | mset m k v => rw [effG d _ t b rfl]; rfl
    | app a b' x y => rw [effG d _ t b rfl]; rfl
    | appz a b' x => rw [effG d _ t b rfl]; rfl
    | bad => rw [effG d _ t b rfl]; rfl
    | _ => rw [pureG d _ t b rfl]; rfl

theorem opG_ok {o : IOpx} {sl : List AV} {rows : List Row} {low : Nat} : opR (Ret F) sl rows low o = opG F getO sl rows low o := by
  have hC : ∀ (f : Opd) (args : List Opd), (match target (getO sl f) (args.map (getO sl)) with
      | some (fid, vs) => match Ret F fid vs rows with
        | some (v, rows', d) => some (v, rows', lowO low d)
        | none => none
      | none => none) = opC F rows low (args.map (getO sl)) (getO sl f) := by
    intro f args
    unfold opC
    split
    · rename_i h
      cases Ret F _ _ rows <;> simp [*]
    · rename_i h
      rfl
  obtain ⟨d, op, g⟩ := o
  have hgo : ∀ (t : Nat) (b : Bool) (e : Option (AV × List Row × Nat)), (match want sl (some (t, b)) with | none => none | some false => some (.tup [], rows, low) | some true => e) = go (getO sl (.t t)) b rows low e := by
    intro t b e
    show (match want sl (some (t, b)) with | none => none | some false => some (.tup [], rows, low) | some true => e) = go (sl.getD t .any) b rows low e
    unfold want go
    simp only
    generalize sl.getD t AV.any = gg
    cases gg with
    | bool c => cases c <;> cases b <;> rfl
    | tup l => cases l <;> rfl
    | _ => rfl
  cases g with
  | none =>
    have hn : want sl none = some true := rfl
    cases op <;> first
      | (unfold opR opG; simp only [hn]; exact hC _ _)
      | (unfold opR opG; simp only [hn]; exact evalE_sub rows low (getO sl) _)
  | some p =>
    obtain ⟨t, b⟩ := p
    cases op <;> first
      | (unfold opG; simp only; rw [← hgo, ← hC]; rfl)
      | (unfold opG; simp only; rw [← hgo, ← evalE_sub]; rfl)

theorem runL_ok {rows : List Row} {low : Nat} {K : List AV → List Row → Prop} : ∀ (g : List (IOpx × Nat)) (i : Nat) (sl : List AV), purePs g = true → (runG F getO putO rows K i g sl [] ↔ runL F getO putO rows low (fun sl => K sl rows) g sl)
  | [], i, sl, _ => by simp [runG, runL]
  | (o, b) :: g, i, sl, h => by
    simp only [purePs, Bool.and_eq_true] at h
    obtain ⟨d, op, gd⟩ := o
    have ih := fun sl => runL_ok (K := K) (low := low) (rows := rows) g (i + 1) sl h.2
    cases gd with
    | none =>
      cases op <;> first
        | (have := h.1; simp [IOp.pure] at this; done)
        | (simp only [runG, runL, runO, IOp.pure, if_true, maskE, List.map_nil, List.append_nil, ih]; done)
    | some p =>
      obtain ⟨t, c⟩ := p
      cases op <;> first
        | (have := h.1; simp [IOp.pure] at this; done)
        | (simp only [runG, runL, runO, IOp.pure, if_true, maskE, List.map_nil, List.append_nil, ih]; done)

theorem runG_ok {rows : List Row} {K : List AV → List Row → Prop} : ∀ (g : List (IOpx × Nat)) (i : Nat) (sl : List AV) (ext : List (Nat × Row)), (bnd (evalG (Ret F) rows i g sl ext) fun q => K q.1 (rows ++ q.2.map (·.2))) ↔ runG F getO putO rows K i g sl ext
  | [], i, sl, ext => by simp [evalG, runG]
  | (o, b) :: g, i, sl, ext => by
    have step : (bnd (evalG (Ret F) rows i ((o, b) :: g) sl ext) fun q => K q.1 (rows ++ q.2.map (·.2))) ↔ bnd (opG F getO sl (rows ++ maskE b ext) (rows.length + ext.length) o) fun q => q.2.2 = rows.length + ext.length ∧
      runG F getO putO rows K (i + 1) g (putO sl o.dst q.1) (ext ++ (q.2.1.drop (rows.length + ext.length)).map fun x => (i, x)) := by
      simp only [evalG, ← opG_ok]
      cases hop : opR (Ret F) sl (rows ++ maskE b ext) (rows.length + ext.length) o with
      | none => simp
      | some q =>
        obtain ⟨v, rows', low'⟩ := q
        simp only [bnd_some]
        rw [← runG_ok g]
        by_cases hl : low' = rows.length + ext.length
        · simp [hl]
        · simp [hl]
    rw [step]
    conv => rhs; unfold runG
    split
    · rename_i hp
      have hlen : (rows ++ maskE b ext).length = rows.length + ext.length := by simp [maskE]
      have hpure : ∀ (d : Option Nat) (op : IOp) (gd : Option (Nat × Bool)), op.pure = true → opR (Ret F) sl (rows ++ maskE b ext) (rows.length + ext.length) ⟨d, op, gd⟩ = match want sl gd with | none => none | some false => some (.tup [], rows ++ maskE b ext, rows.length + ext.length) | some true => (evP (rows ++ maskE b ext) (subI (getO sl) op)).map fun v => (v, rows ++ maskE b ext, rows.length + ext.length) := by
        intro d op gd ho
        cases hw : want sl gd with
        | none => unfold opR; simp [hw]
        | some c =>
          unfold opR
          simp only [hw]
          cases c with
          | false => rfl
          | true =>
            simp only
            split
            · simp [IOp.pure] at ho
            · rw [evalE_pure ho, evalP_sub]
      have hdrop : ((rows ++ maskE b ext).drop (rows.length + ext.length)).map (fun x => (i, x)) = [] := by
        rw [List.drop_of_length_le (by omega)]; rfl
      rw [← opG_ok]
      split
      · rw [hpure _ _ _ rfl]
        simp only [want, subI, evP, evalP, get_sub, Option.map_some, bnd_some, hdrop, true_and, List.append_nil]
      · rename_i d op h
        rw [hpure _ _ _ hp]
        simp only [want, bnd_map, hdrop, true_and, List.append_nil]
      · rename_i d op t c
        rw [hpure _ _ _ hp]
        have hget : getO sl (.t t) = sl.getD t .any := rfl
        unfold want gv
        simp only [hget]
        generalize sl.getD t AV.any = gg
        cases gg with
        | bool c' =>
          cases e : c' == c
          · simp only [e, Bool.false_eq_true, if_false, bnd_some, hdrop, true_and, List.append_nil]
          · simp only [e, if_true, bnd_map, hdrop, true_and, List.append_nil]
        | tup l => cases l <;> simp only [bnd_some, bnd_none, hdrop, true_and, List.append_nil]
        | _ => simp only [bnd_none]
    · simp only [bnd_some]

theorem Ex_runP : ∀ (l : List Seg) (sl : List AV) (rows : List Row) (low : Nat), noW l = true → (Ex F cx (.ops l :: k) ⟨sl, rows, low⟩ r ↔ runP F getO putO (fun sl rows low => Ex F cx k ⟨sl, rows, low⟩ r) l sl rows low)
  | [], sl, rows, low, _ => by rw [Ex_opsNil]; rfl
  | .one o :: l, sl, rows, low, h => by
    rw [runO_ok (P := fun sl rows low => runP F getO putO (fun sl rows low => Ex F cx k ⟨sl, rows, low⟩ r) l sl rows low) (fun sl rows low => Ex_runP l sl rows low h)]
    rfl
  | .grp g :: l, sl, rows, low, h => by
    rw [Ex_grpR]
    simp only [runP]
    have h1 : (∃ q, evalG (Ret F) rows 0 g sl [] = some q ∧ Ex F cx (.ops l :: k) ⟨q.1, rows ++ q.2.map (·.2), low⟩ r) ↔ runG F getO putO rows (fun sl rows => runP F getO putO (fun sl rows low => Ex F cx k ⟨sl, rows, low⟩ r) l sl rows low) 0 g sl [] := by
      rw [← runG_ok]
      simp only [bnd, Ex_runP l _ _ _ h]
    rw [h1]
    split
    · rename_i hp
      rw [runL_ok (low := low) g 0 sl hp]
    · rfl
  | .grpw .. :: l, sl, rows, low, h => by simp [noW] at h
  | .stop :: l, sl, rows, low, h => by
    constructor
    · rintro ⟨n, x, e, _⟩
      cases n with
      | zero => simp [exec] at e
      | succ n => simp [exec] at e
    · intro h; exact h.elim

/-! ### Another form of the slots -/
section
variable {σ τ : Type} {get : σ → Opd → AV} {put : σ → Option Nat → AV → σ} {get' : τ → Opd → AV} {put' : τ → Option Nat → AV → τ} {f : τ → σ}
theorem runO_tr (hg : ∀ t, get (f t) = get' t) (hp : ∀ t d v, put (f t) d v = f (put' t d v)) {o : IOpx} {t : τ} {rows : List Row} {low : Nat} {K : σ → List Row → Nat → Prop} {K' : τ → List Row → Nat → Prop} (hK : ∀ t rows low, K (f t) rows low ↔ K' t rows low) :
    runO F get put o (f t) rows low K ↔ runO F get' put' o t rows low K' := by
  have hK' : (fun t rows low => K (f t) rows low) = K' := by funext t rows low; exact propext (hK t rows low)
  subst hK'
  obtain ⟨d, op, g⟩ := o
  cases g with
  | none =>
    cases op with
    | call f args =>
      cases f with
      | t n => simp only [runO, hg, hp]
      | c v =>
        cases v with
        | func fid cs => cases cs <;> simp only [runO, hg, hp]
        | _ => simp only [runO, hg, hp]
    | _ => simp only [runO, hg, hp]
  | some p => cases op <;> simp only [runO, hg, hp]
theorem runL_tr (hg : ∀ t, get (f t) = get' t) (hp : ∀ t d v, put (f t) d v = f (put' t d v)) {rows : List Row} {low : Nat} {K : σ → Prop} {K' : τ → Prop} (hK : ∀ t, K (f t) ↔ K' t) : ∀ (g : List (IOpx × Nat)) (t : τ), runL F get put rows low K g (f t) ↔ runL F get' put' rows low K' g t
  | [], t => hK t
  | (o, b) :: g, t => by
    simp only [runL]
    exact runO_tr hg hp fun t _ _ => runL_tr hg hp hK g t
theorem opG_tr (hg : ∀ t, get (f t) = get' t) {o : IOpx} {t : τ} {rows : List Row} {low : Nat} : opG F get (f t) rows low o = opG F get' t rows low o := by
  obtain ⟨d, op, g⟩ := o
  cases g <;> cases op <;> simp only [opG, hg]
theorem runG_tr (hg : ∀ t, get (f t) = get' t) (hp : ∀ t d v, put (f t) d v = f (put' t d v)) {rows : List Row} {K : σ → List Row → Prop} {K' : τ → List Row → Prop} (hK : ∀ t rows, K (f t) rows ↔ K' t rows) : ∀ (g : List (IOpx × Nat)) (i : Nat) (t : τ) (ext : List (Nat × Row)), runG F get put rows K i g (f t) ext ↔ runG F get' put' rows K' i g t ext
  | [], i, t, ext => hK t _
  | (o, b) :: g, i, t, ext => by
    have ih := runG_tr (rows := rows) hg hp hK g (i + 1)
    obtain ⟨d, op, gd⟩ := o
    cases gd with
    | none => cases op <;> simp only [runG, IOp.pure, opG_tr hg, hg, hp, ih, if_true, if_false, Bool.false_eq_true, bnd_some]
    | some p => cases op <;> simp only [runG, IOp.pure, opG_tr hg, hg, hp, ih, if_true, if_false, Bool.false_eq_true, bnd_some]
theorem runP_tr (hg : ∀ t, get (f t) = get' t) (hp : ∀ t d v, put (f t) d v = f (put' t d v)) {E : σ → List Row → Nat → Prop} {E' : τ → List Row → Nat → Prop} (hE : ∀ t rows low, E (f t) rows low ↔ E' t rows low) : ∀ (l : List Seg) (t : τ) (rows : List Row) (low : Nat), runP F get put E l (f t) rows low ↔ runP F get' put' E' l t rows low
  | [], t, rows, low => hE t rows low
  | .one o :: l, t, rows, low => by
    simp only [runP]
    exact runO_tr hg hp fun t rows low => runP_tr hg hp hE l t rows low
  | .grp g :: l, t, rows, low => by
    simp only [runP]
    split
    · exact runL_tr hg hp (fun t => runP_tr hg hp hE l t rows low) g t
    · exact runG_tr hg hp (fun t rows => runP_tr hg hp hE l t rows low) g 0 t []
  | .grpw .. :: _, t, rows, low => by simp only [runP]
  | .stop :: _, t, rows, low => by simp only [runP]
end
end
end Go.Abs
