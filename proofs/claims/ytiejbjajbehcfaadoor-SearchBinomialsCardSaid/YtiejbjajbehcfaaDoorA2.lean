/- The relation between the abstract values and rows and the model's, and the soundness of the operations that write nothing. -/
import Derived.Test.YtiejbjajbehcfaaDoorA1
import Derived.Laws.Cells
import Derived.Laws.CopyRow
import Derived.Laws.Append
import Derived.Laws.AppendOwn
import Derived.Laws.Entries
import Derived.ArgAppend
import Derived.ChangeKeysEq
import Derived.WideLaws
set_option linter.unusedVariables false
set_option linter.unusedSimpArgs false
namespace Go.Abs

structure Loc where
  b : Nat
  d : Nat
  top : Nat

abbrev Th := Nat → Option Loc

/-- The code of the evaluator and that of the model. -/
abbrev KRel := ICode → Code → Prop
def KP (P : Program) (gl : List Nat) : KRel := fun ic c => ∃ hint, ic = cc P gl hint c

variable {κ : KRel}
def Jump.code : Jump → Code
  | .ret => .ret
  | .exit id => .exit id

inductive V (θ : Th) : AV → Value → Prop
  | bool (b : Bool) : V θ (.bool b) (.bool b)
  | int (k : IntKind) (n : Int) : V θ (.int k n) (.int k n)
  | str (s : ByteArray) : V θ (.str s) (.string s)
  | ptr {id off : Nat} {L : Loc} : θ id = some L → V θ (.ptr id off) (.pointer (some ⟨L.b, L.d + off, none⟩))
  | nilptr : V θ .nilptr (.pointer none)
  | sliceAt {id off len c o : Nat} {L : Loc} : θ id = some L → (0 < c → o = L.d + off) → len ≤ c → V θ (.slice id off len (.at_ c)) (.slice (some ⟨L.b, o, none⟩) len c)
  | sliceOp {id off len sz c o : Nat} {L : Loc} : θ id = some L → (0 < len → o = L.d + off) → o + c * sz ≤ L.top → len ≤ c →
      V θ (.slice id off len (.op sz)) (.slice (some ⟨L.b, o, none⟩) len c)
  | nilslice : V θ .nilslice (.slice none 0 0)
  | map {id : Nat} {L : Loc} : θ id = some L → V θ (.map id) (.map (some L.b))
  | nilmap : V θ .nilmap (.map none)
  | func {f : Nat} {l : List AV} {l' : List Value} : l.length = l'.length → (∀ (i : Nat) (x : AV) (x' : Value), l[i]? = some x → l'[i]? = some x' → V θ x x') → V θ (.func f l) (.func (.func f) #[] l'.toArray)
  | yield {id : Nat} {L : Loc} : θ id = some L → V θ (.yield id) (.func (.yield L.b) #[] #[])
  | nilfunc : V θ .nilfunc .nilFunc
  | niliface : V θ .niliface .nilIface
  | iface {t : Nat} {v : AV} {v' : Value} : V θ v v' → V θ (.iface t v) (.iface t v')
  | agg {l : List AV} {l' : List Value} : l.length = l'.length → (∀ (i : Nat) (x : AV) (x' : Value), l[i]? = some x → l'[i]? = some x' → V θ x x') → V θ (.agg l) (.agg l'.toArray)
  | tup {l : List AV} {l' : List Value} : l.length = l'.length → (∀ (i : Nat) (x : AV) (x' : Value), l[i]? = some x → l'[i]? = some x' → V θ x x') → V θ (.tup l) (.tuple l'.toArray)
  | any (v' : Value) : V θ .any v'

def VL (θ : Th) (l : List AV) (l' : List Value) : Prop := l.length = l'.length ∧ ∀ (i : Nat) (x : AV) (x' : Value), l[i]? = some x → l'[i]? = some x' → V θ x x'

def Ext (θ θ' : Th) : Prop := ∀ id L, θ id = some L → θ' id = some L
theorem Ext.refl (θ : Th) : Ext θ θ := fun _ _ h => h
theorem Ext.trans {a b c : Th} (h : Ext a b) (k : Ext b c) : Ext a c := fun id L e => k id L (h id L e)

theorem V.mono {θ θ' : Th} (h : Ext θ θ') {v : AV} {v' : Value} (hv : V θ v v') : V θ' v v' := by
  induction hv with
  | bool b => exact .bool b
  | int k n => exact .int k n
  | str s => exact .str s
  | ptr e => exact .ptr (h _ _ e)
  | nilptr => exact .nilptr
  | sliceAt e a b => exact .sliceAt (h _ _ e) a b
  | sliceOp e a b c => exact .sliceOp (h _ _ e) a b c
  | nilslice => exact .nilslice
  | map e => exact .map (h _ _ e)
  | nilmap => exact .nilmap
  | func a _ ih => exact .func a ih
  | yield e => exact .yield (h _ _ e)
  | nilfunc => exact .nilfunc
  | niliface => exact .niliface
  | iface _ ih => exact .iface ih
  | agg a _ ih => exact .agg a ih
  | tup a _ ih => exact .tup a ih
  | any v' => exact .any v'
theorem VL.mono {θ θ' : Th} (h : Ext θ θ') {l : List AV} {l' : List Value} (hv : VL θ l l') : VL θ' l l' := ⟨hv.1, fun i x x' a b => (hv.2 i x x' a b).mono h⟩

theorem VL.nil (θ : Th) : VL θ [] [] := ⟨rfl, fun i x x' h => by simp at h⟩
theorem VL.cons {θ : Th} {x : AV} {x' : Value} {l : List AV} {l' : List Value} (h : V θ x x') (hl : VL θ l l') : VL θ (x :: l) (x' :: l') :=
  ⟨by simp [hl.1], fun i y y' a b => by
    cases i with
    | zero => simp at a b; subst a; subst b; exact h
    | succ i => exact hl.2 i y y' (by simpa using a) (by simpa using b)⟩
theorem VL.get {θ : Th} {l : List AV} {l' : List Value} (h : VL θ l l') {i : Nat} {x : AV} (hx : l[i]? = some x) : ∃ x', l'[i]? = some x' ∧ V θ x x' := by
  have hi : i < l.length := (List.getElem?_eq_some_iff.1 hx).1
  have hi' : i < l'.length := h.1 ▸ hi
  exact ⟨l'[i], List.getElem?_eq_getElem hi', h.2 i x _ hx (List.getElem?_eq_getElem hi')⟩
theorem VL.of_cons {θ : Th} {x : AV} {l : List AV} {l' : List Value} (h : VL θ (x :: l) l') : ∃ x' r', l' = x' :: r' ∧ V θ x x' ∧ VL θ l r' := by
  cases l' with
  | nil => have := h.1; simp at this
  | cons x' r' =>
    refine ⟨x', r', rfl, h.2 0 _ _ rfl rfl, by have := h.1; simpa using this, fun i y y' a b => h.2 (i + 1) y y' (by simpa using a) (by simpa using b)⟩
theorem VL.append {θ : Th} {l m : List AV} {l' m' : List Value} (h : VL θ l l') (k : VL θ m m') : VL θ (l ++ m) (l' ++ m') := by
  refine ⟨by simp [h.1, k.1], fun i x x' a b => ?_⟩
  by_cases hi : i < l.length
  · rw [List.getElem?_append_left hi] at a
    rw [List.getElem?_append_left (h.1 ▸ hi)] at b
    exact h.2 i x x' a b
  · rw [List.getElem?_append_right (by omega)] at a
    rw [List.getElem?_append_right (by have := h.1; omega), ← h.1] at b
    exact k.2 _ x x' a b
theorem VL.drop {θ : Th} {l : List AV} {l' : List Value} (h : VL θ l l') (n : Nat) : VL θ (l.drop n) (l'.drop n) :=
  ⟨by simp [h.1], fun i x x' a b => h.2 (n + i) x x' (by simpa using a) (by simpa using b)⟩
theorem VL.take {θ : Th} {l : List AV} {l' : List Value} (h : VL θ l l') (n : Nat) : VL θ (l.take n) (l'.take n) :=
  ⟨by simp [h.1], fun i x x' a b => by
    rw [List.getElem?_take] at a b
    split at a
    · exact h.2 i x x' a (by simpa [*] using b)
    · simp at a⟩
theorem VL.set {θ : Th} {l : List AV} {l' : List Value} (h : VL θ l l') (n : Nat) {x : AV} {x' : Value} (hx : V θ x x') : VL θ (l.set n x) (l'.set n x') :=
  ⟨by simp [h.1], fun i y y' a b => by
    rw [List.getElem?_set] at a b
    split at a
    · rename_i hn
      subst hn
      simp only [if_true] at b
      split at a
      · rw [if_pos (by rw [← h.1]; assumption)] at b
        injection a with a; injection b with b; subst a; subst b; exact hx
      · simp at a
    · rename_i hn
      rw [if_neg hn] at b
      exact h.2 i y y' a b⟩

/-- The slots. -/
structure SRel (θ : Th) (sl : List AV) (tmps : Array Value) : Prop where
  size : sl.length = tmps.size
  at_ : ∀ (i : Nat) (x : AV) (x' : Value), sl[i]? = some x → tmps[i]? = some x' → V θ x x'
theorem SRel.mono {θ θ' : Th} (h : Ext θ θ') {sl : List AV} {t : Array Value} (hs : SRel θ sl t) : SRel θ' sl t := ⟨hs.size, fun i x x' a b => (hs.at_ i x x' a b).mono h⟩
theorem SRel.get {θ : Th} {sl : List AV} {t : Array Value} (hs : SRel θ sl t) (i : Nat) : V θ (sl.getD i .any) (t.getD i undef) := by
  by_cases hi : i < sl.length
  · have hi' : i < t.size := hs.size ▸ hi
    have := hs.at_ i sl[i] t[i] (List.getElem?_eq_getElem hi) (Array.getElem?_eq_getElem hi')
    simpa [List.getD, List.getElem?_eq_getElem hi, Array.getD, hi'] using this
  · simp only [List.getD, List.getElem?_eq_none (Nat.le_of_not_lt hi), Option.getD_none]
    exact .any _
theorem SRel.put {θ : Th} {sl : List AV} {a : Act} (hs : SRel θ sl a.tmps) (d : Option Nat) {v : AV} {v' : Value} (hv : V θ v v') : SRel θ (putO sl d v) (a.put d v').tmps := by
  cases d with
  | none => exact hs
  | some d =>
    refine ⟨by simp [putO, Act.put, hs.size], fun i x x' p q => ?_⟩
    simp only [putO, Act.put] at p q
    rw [List.getElem?_set] at p
    rw [Array.getElem?_setIfInBounds] at q
    split at p
    · rename_i hn
      subst hn
      simp only [if_true] at q
      split at p
      · rw [if_pos (by rw [← hs.size]; assumption)] at q
        injection p with p; injection q with q; subst p; subst q; exact hv
      · simp at p
    · rename_i hn
      rw [if_neg hn] at q
      exact hs.at_ i x x' p q

/-- The globals that the program's text names: the first rows. -/
def GRel (θ : Th) (gl : List Nat) : Prop := ∀ (i g : Nat), gl[i]? = some g → ∃ L, θ i = some L ∧ L.b = g ∧ L.d = 0
theorem GRel.mono {θ θ' : Th} (h : Ext θ θ') {gl : List Nat} (hg : GRel θ gl) : GRel θ' gl := fun i g e => let ⟨L, a, b⟩ := hg i g e; ⟨L, h _ _ a, b⟩

/-! ### The rows -/
def Row.owned : Row → Bool
  | .cells _ | .mp _ | .loop .. | .mark => true
  | _ => false
def Row.live : Row → Bool
  | .dead => false
  | _ => true

def CellsRel (θ : Th) (L : Loc) (vs : List AV) (c : Array Value) : Prop :=
  L.d + vs.length ≤ c.size ∧ L.top = c.size ∧ ∀ (j : Nat) (x : AV), vs[j]? = some x → ∃ x', c[L.d + j]? = some x' ∧ V θ x x' ∧ x'.oneCell' = true

def RowRel (κ : KRel) (θ : Th) (id : Nat) (w : World) : Row → Prop
  | .cells vs => ∃ L c T, θ id = some L ∧ w.heap[L.b]? = some (.cells c T (0, 0)) ∧ CellsRel θ L vs c
  | .ro vs => ∃ L, θ id = some L ∧ ∀ (j : Nat) (x : AV), vs[j]? = some x → ∃ x', w.cell? ⟨L.b, L.d + j, none⟩ = some x' ∧ V θ x x' ∧ x'.oneCell' = true
  | .mp es => ∃ L es' clock, θ id = some L ∧ w.heap[L.b]? = some (.map es' clock) ∧ es'.size = es.length ∧ ∀ (i : Nat) (e : AV × AV), es[i]? = some e → ∃ e', es'[i]? = some e' ∧ V θ e.1 e'.key ∧ V θ e.2 e'.val
  | .loop st pend sl ps asg body => ∃ L r, θ id = some L ∧ w.heap[L.b]? = some (.loop r) ∧ r.state = st ∧ r.pending = pend.map Jump.code ∧ VL θ sl r.tmps.toList ∧ r.params.toList = ps ∧ κ asg r.assign ∧ κ body r.body
  | .mark => False
  | .dead => True

structure HRel (κ : KRel) (θ : Th) (rows : List Row) (w : World) : Prop where
  dom : ∀ id L, θ id = some L → id < rows.length
  blk : ∀ id L, θ id = some L → L.b < w.heap.size
  row : ∀ id r, rows[id]? = some r → RowRel κ θ id w r
  inj : ∀ i j r s L L', i ≠ j → rows[i]? = some r → r.owned = true → rows[j]? = some s → s.live = true → θ i = some L → θ j = some L' → L.b ≠ L'.b

theorem HRel.read {θ : Th} {rows : List Row} {w : World} (h : HRel κ θ rows w) {id : Nat} {vs : List AV} (hr : row? rows id = some vs) {L : Loc} (hL : θ id = some L) {j : Nat} {x : AV} (hx : vs[j]? = some x) :
    ∃ x', w.cell? ⟨L.b, L.d + j, none⟩ = some x' ∧ V θ x x' ∧ x'.oneCell' = true := by
  unfold row? at hr
  split at hr
  · rename_i vs' e
    injection hr with hr; subst hr
    obtain ⟨L', c, T, hL', hb, hc⟩ := h.row id _ e
    rw [hL] at hL'; injection hL' with hL'; subst hL'
    obtain ⟨x', hx', hv⟩ := hc.2.2 j x hx
    exact ⟨x', by simp [World.cell?, hb, hx'], hv⟩
  · rename_i vs' e
    injection hr with hr; subst hr
    obtain ⟨L', hL', hc⟩ := h.row id _ e
    rw [hL] at hL'; injection hL' with hL'; subst hL'
    exact hc j x hx
  · simp at hr

/-- A segment of a row, as the model's cells. -/
theorem HRel.readSeg {θ : Th} {rows : List Row} {w : World} (h : HRel κ θ rows w) {id : Nat} {vs : List AV} (hr : row? rows id = some vs) {L : Loc} (hL : θ id = some L) {off n : Nat} {l : List AV} (hl : seg vs off n = some l) :
    ∃ l', VL θ l l' ∧ l'.length = n ∧ (∀ j v, l'[j]? = some v → w.cell? ((⟨L.b, L.d + off, none⟩ : Addr).add j) = some v) ∧ ∀ v ∈ l', v.oneCell' = true := by
  unfold seg at hl
  split at hl
  case isFalse => simp at hl
  rename_i hle
  injection hl with hl; subst hl
  have key : ∀ j, j < n → ∃ x', w.cell? ⟨L.b, L.d + (off + j), none⟩ = some x' ∧ V θ (vs.getD (off + j) .any) x' ∧ x'.oneCell' = true := fun j hj => by
    have : off + j < vs.length := by omega
    obtain ⟨x', a, b, o⟩ := h.read hr hL (List.getElem?_eq_getElem this)
    exact ⟨x', a, by simpa [List.getD, List.getElem?_eq_getElem this] using b, o⟩
  refine ⟨(List.range n).map fun j => (w.cell? ⟨L.b, L.d + (off + j), none⟩).getD undef, ⟨by simp; omega, fun i x x' a b => ?_⟩, by simp, fun j v hv => ?_, fun v hv => ?_⟩
  · have hi : i < n := by
      have := (List.getElem?_eq_some_iff.1 b).1; simpa using this
    obtain ⟨y, p, q, _⟩ := key i hi
    simp [List.getElem?_map, List.getElem?_range hi, p] at b
    subst b
    rw [List.getElem?_take_of_lt hi, List.getElem?_drop] at a
    simpa [List.getD, a] using q
  · have hi : j < n := by
      have := (List.getElem?_eq_some_iff.1 hv).1; simpa using this
    obtain ⟨y, p, q, _⟩ := key j hi
    simp [List.getElem?_map, List.getElem?_range hi, p] at hv
    subst hv
    rw [show ((⟨L.b, L.d + off, none⟩ : Addr).add j) = ⟨L.b, L.d + (off + j), none⟩ from by unfold Addr.add; split <;> simp_all; omega]
    exact p
  · obtain ⟨j, hj, e⟩ := List.mem_map.1 hv
    obtain ⟨y, p, q, o⟩ := key j (by simpa using hj)
    rw [p] at e
    simp at e
    rw [← e]; exact o

/-! ### The operands -/
theorem cv1_V (θ : Th) (v : Value) : V θ (cv1 v) v := by
  unfold cv1
  split <;> first
    | constructor
    | skip
  · split
    · rename_i f fi cs h
      obtain ⟨h1, h2⟩ := h
      have e1 : fi = #[] := by simpa using h1
      have e2 : cs = #[] := by simpa using h2
      subst e1; subst e2
      exact V.func (l' := []) rfl (fun i x x' h => by simp at h)
    · exact .any _
theorem cv_V (θ : Th) (v : Value) : V θ (cv v) v := by
  unfold cv
  split
  · rename_i cs
    have := V.agg (θ := θ) (l := cs.toList.map cv1) (l' := cs.toList) (by simp) (fun i x x' a b => by
      simp only [List.getElem?_map] at a
      rw [b] at a
      simp at a
      subst a
      exact cv1_V θ _)
    simpa using this
  · split
    · rename_i vs h
      have e : vs = #[] := by simpa using h
      subst e
      exact V.tup (l' := []) rfl (fun i x x' h => by simp at h)
    · exact .any _
  · exact cv1_V θ v

section ops
variable {P : Program} {gl : List Nat} {θ : Th} {rows : List Row} {w : World} {sl : List AV} {a : Act}

theorem opd_V (hg : GRel θ gl) (hs : SRel θ sl a.tmps) (x : Operand) : V θ (getO sl (co gl x)) (a.eval x) := by
  cases x with
  | tmp t => exact hs.get t
  | const v => exact cv_V θ v
  | func f => exact V.func (l' := []) rfl (fun i x x' h => by simp at h)
  | global g =>
    simp only [co]
    cases h : gl.idxOf? g with
    | none => exact .any _
    | some i =>
      have hi : gl[i]? = some g := by
        have := List.idxOf?_eq_some_iff.1 h
        obtain ⟨hlt, e, _⟩ := this
        rw [List.getElem?_eq_getElem hlt, e]
      obtain ⟨L, hL, e1, e2⟩ := hg i g hi
      have := V.ptr (off := 0) hL
      rw [e1, e2] at this
      exact this
theorem opds_V (hg : GRel θ gl) (hs : SRel θ sl a.tmps) (xs : List Operand) : VL θ ((xs.map (co gl)).map (getO sl)) (xs.map a.eval) := by
  induction xs with
  | nil => exact VL.nil _
  | cons x xs ih => exact VL.cons (opd_V hg hs x) ih

theorem run_aggT {t : TypeId} {b : Bool} (h : aggT P t = some b) (w : World) : (isAgg t).run P w = .ok b w := by
  unfold aggT at h
  cases hu : P.underlying t with
  | none => simp [hu] at h
  | some d =>
    rw [hu] at h
    cases d <;> simp at h <;> subst h <;> simp [isAgg, run_underlying hu]
theorem run_szT {t : TypeId} {n : Nat} (h : szT P t = some n) (w : World) : (sizeOf t).run P w = .ok n w := by
  unfold szT at h
  cases hi : P.info? t with
  | none => simp [hi] at h
  | some i => simp [hi] at h; subst h; simp [sizeOf, typeInfo, hi]
theorem szT_info {t : TypeId} {n : Nat} (h : szT P t = some n) : ∃ i, P.info? t = some i ∧ i.size = n := by
  unfold szT at h
  cases hi : P.info? t with
  | none => simp [hi] at h
  | some i => simp [hi] at h; exact ⟨i, rfl, h⟩
theorem zeroT_info {t : TypeId} {z : AV} (h : zeroT P t = some z) : ∃ i v, P.info? t = some i ∧ i.zero = some v ∧ z = cv v := by
  unfold zeroT at h
  cases hi : P.info? t with
  | none => simp [hi] at h
  | some i =>
    simp [hi] at h
    obtain ⟨v, hv, e⟩ := h
    exact ⟨i, v, rfl, hv, e.symm⟩
theorem run_zeroT {t : TypeId} {z : AV} (h : zeroT P t = some z) (w : World) : ∃ v, (zeroValue t).run P w = .ok v w ∧ V θ z v := by
  obtain ⟨i, v, hi, hv, rfl⟩ := zeroT_info h
  exact ⟨v, by simp [zeroValue, typeInfo, hi, hv], cv_V θ v⟩

theorem V.cells {v : AV} {v' : Value} (h : V θ v v') (hne : v.cells.all AV.one = true) : VL θ v.cells v'.cells.toList := by
  have single : ∀ {x : AV} {x' : Value}, V θ x x' → VL θ [x] [x'] := fun h => VL.cons h (VL.nil _)
  cases h <;> first
    | exact single (by constructor <;> assumption)
    | exact single (by constructor)
    | (simp [AV.cells, AV.one] at hne; done)
    | (refine ⟨?_, ?_⟩ <;> simpa [AV.cells, Value.cells] using by assumption)
theorem V.oneCell {v : AV} {v' : Value} (h : V θ v v') (h1 : v.one = true) : v'.oneCell' = true ∧ v'.cells = #[v'] := by
  cases h <;> first | (simp [AV.one] at h1; done) | exact ⟨rfl, rfl⟩
end ops
end Go.Abs
