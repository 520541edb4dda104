/- Rules for the simplifier: control, operations, rows, whole numbers. -/
import Derived.Test.YtiejbjajbehcfaaDoorA27
set_option linter.unusedVariables false
set_option linter.unusedSimpArgs false
namespace Go.Abs
section
variable {F : Nat → Option IFn} {cx : Ctx} {k : List Itm} {r : AV × List Row × Nat → Prop} {sl : List AV} {rows : List Row} {low : Nat}
attribute [simp] Ex_inBlock Ex_inScope Ex_skip Ex_seq Ex_block Ex_scope Ex_ops Ex_kill kill_dead only popTo lowO pO
@[simp] theorem Ex_condT {n i : Nat} {l : List (Nat × AV)} {a b : ICode} (h : i < n) : Ex F cx (.code (.cond (.t i) a b) :: k) ⟨mk n l, rows, low⟩ r ↔ ∃ t, lk l i = .bool t ∧ Ex F cx (.code (if t then a else b) :: k) ⟨mk n l, rows, low⟩ r := by
  rw [Ex_cond, mk_getO n l i h]
@[simp] theorem Ex_condC {b : Bool} {c d : ICode} : Ex F cx (.code (.cond (.c (.bool b)) c d) :: k) ⟨sl, rows, low⟩ r ↔ Ex F cx (.code (if b then c else d) :: k) ⟨sl, rows, low⟩ r := by
  rw [Ex_cond]
  simp [getO]
/-- Both ways of a branch. -/
theorem Ex_ite {p : Prop} [Decidable p] {a b : ICode} {s : St} : Ex F cx (.code (if p then a else b) :: k) s r ↔ if p then Ex F cx (.code a :: k) s r else Ex F cx (.code b :: k) s r := by
  split <;> rfl
@[simp] theorem Ex_exit1 {id : Nat} {s : St} : Ex F cx (.code (.exit id) :: .inBlock id :: k) s r ↔ Ex F cx k s r := by rw [Ex_exit]; simp [popTo]
@[simp] theorem Ex_exitL {id : Nat} {c : ICode} {s : St} : Ex F cx (.code (.exit id) :: .inLoop c :: k) s r ↔ Ex F cx (.code (.exit id) :: k) s r := by rw [Ex_exit, Ex_exit]; simp only [popTo]
@[simp] theorem Ex_exitC {id : Nat} {c : ICode} {s : St} : Ex F cx (.code (.exit id) :: .code c :: k) s r ↔ Ex F cx (.code (.exit id) :: k) s r := by rw [Ex_exit, Ex_exit]; simp only [popTo]
@[simp] theorem Ex_exitS {id : Nat} {c : ICode} {s : St} : Ex F cx (.code (.exit id) :: .inScope c :: k) s r ↔ Ex F cx (.code (.exit id) :: k) s r := by rw [Ex_exit, Ex_exit]; simp only [popTo]
@[simp] theorem Ex_exitB {id id' : Nat} {s : St} (h : id' ≠ id) : Ex F cx (.code (.exit id) :: .inBlock id' :: k) s r ↔ Ex F cx (.code (.exit id) :: k) s r := by rw [Ex_exit, Ex_exit]; simp only [popTo, if_neg h]
@[simp] theorem Ex_retF {res : List RV} {s : St} : Ex F (.fn res) (.code .ret :: k) s r ↔ bnd (results s.rows s.sl res) fun v => r (v, s.rows, s.low) := by
  rw [Ex_ret]
  simp only [leaveV, bnd]
  constructor
  · rintro ⟨x, e, h⟩
    rw [Option.map_eq_some_iff] at e
    obtain ⟨v, hv, rfl⟩ := e
    exact ⟨v, hv, h⟩
  · rintro ⟨v, e, h⟩
    exact ⟨_, by rw [e]; rfl, h⟩
@[simp] theorem Ex_nilF {res : List RV} {s : St} : Ex F (.fn res) [] s r ↔ bnd (results s.rows s.sl res) fun v => r (v, s.rows, s.low) := by
  rw [Ex_nil]
  simp only [leaveV, bnd]
  constructor
  · rintro ⟨x, e, h⟩
    rw [Option.map_eq_some_iff] at e
    obtain ⟨v, hv, rfl⟩ := e
    exact ⟨v, hv, h⟩
  · rintro ⟨v, e, h⟩
    exact ⟨_, by rw [e]; rfl, h⟩
@[simp] theorem Ex_bad {b : Bool} {e : Option (AV × List Row × Nat)} : evE rows low .bad = none := rfl

/-! ### Results -/
section
variable {n : Nat} {l : List (Nat × AV)}
@[simp] theorem resV_t {i : Nat} (h : i < n) : resV rows (mk n l) (.t i) = some (lk l i) := by simp only [resV, mk_getD n l i h]
@[simp] theorem resV_c1 {i : Nat} (h : i < n) : resV rows (mk n l) (.cell1 i) = evP rows (.load1 (.c (lk l i))) := by
  rw [resV, evalP_sub]; simp only [subI, subO, mk_getO n l i h]
@[simp] theorem resV_cN {i m : Nat} (h : i < n) : resV rows (mk n l) (.cellN i m) = evP rows (.loadN m (.c (lk l i))) := by
  rw [resV, evalP_sub]; simp only [subI, subO, mk_getO n l i h]
@[simp] theorem results_0 : results rows sl [] = some (.tup []) := rfl
@[simp] theorem results_1 {a : RV} : results rows sl [a] = resV rows sl a := by
  unfold results
  simp only [resVs]
  cases resV rows sl a <;> rfl
@[simp] theorem results_2 {a b : RV} : results rows sl [a, b] = (resV rows sl a).bind fun x => (resV rows sl b).map fun y => .tup [x, y] := by
  unfold results
  simp only [resVs]
  cases resV rows sl a <;> cases resV rows sl b <;> rfl
@[simp] theorem results_3 {a b c : RV} : results rows sl [a, b, c] = (resV rows sl a).bind fun x => (resV rows sl b).bind fun y => (resV rows sl c).map fun z => .tup [x, y, z] := by
  unfold results
  simp only [resVs]
  cases resV rows sl a <;> cases resV rows sl b <;> cases resV rows sl c <;> rfl
@[simp] theorem results_4 {a b c d : RV} : results rows sl [a, b, c, d] = (resV rows sl a).bind fun x => (resV rows sl b).bind fun y => (resV rows sl c).bind fun z => (resV rows sl d).map fun u => .tup [x, y, z, u] := by
  unfold results
  simp only [resVs]
  cases resV rows sl a <;> cases resV rows sl b <;> cases resV rows sl c <;> cases resV rows sl d <;> rfl
end

/-! ### Values -/
@[simp] theorem one_int {kd : IntKind} {n : Int} : (AV.int kd n).one = true := rfl
@[simp] theorem one_bool {b : Bool} : (AV.bool b).one = true := rfl
@[simp] theorem one_ptr {i o : Nat} : (AV.ptr i o).one = true := rfl
@[simp] theorem one_nilptr : AV.nilptr.one = true := rfl
@[simp] theorem one_slice {i o n : Nat} {c : Cap} : (AV.slice i o n c).one = true := rfl
@[simp] theorem one_nilslice : AV.nilslice.one = true := rfl
@[simp] theorem one_func {f : Nat} {l : List AV} : (AV.func f l).one = true := rfl
@[simp] theorem one_yield {f : Nat} : (AV.yield f).one = true := rfl
@[simp] theorem one_nilfunc : AV.nilfunc.one = true := rfl
@[simp] theorem one_map {f : Nat} : (AV.map f).one = true := rfl
@[simp] theorem cells_int {kd : IntKind} {n : Int} : (AV.int kd n).cells = [.int kd n] := rfl
@[simp] theorem cells_bool {b : Bool} : (AV.bool b).cells = [.bool b] := rfl
@[simp] theorem cells_ptr {i o : Nat} : (AV.ptr i o).cells = [.ptr i o] := rfl
@[simp] theorem cells_nilptr : AV.nilptr.cells = [.nilptr] := rfl
@[simp] theorem cells_slice {i o n : Nat} {c : Cap} : (AV.slice i o n c).cells = [.slice i o n c] := rfl
@[simp] theorem cells_nilslice : AV.nilslice.cells = [.nilslice] := rfl
@[simp] theorem cells_func {f : Nat} {l : List AV} : (AV.func f l).cells = [.func f l] := rfl
@[simp] theorem cells_nilfunc : AV.nilfunc.cells = [.nilfunc] := rfl
@[simp] theorem cells_yield {f : Nat} : (AV.yield f).cells = [.yield f] := rfl
@[simp] theorem cells_map {f : Nat} : (AV.map f).cells = [.map f] := rfl
@[simp] theorem cells_agg {l : List AV} : (AV.agg l).cells = l := rfl
@[simp] theorem ids_int {kd : IntKind} {n : Int} : (AV.int kd n).ids = [] := by simp [AV.ids]
@[simp] theorem ids_bool {b : Bool} : (AV.bool b).ids = [] := by simp [AV.ids]
@[simp] theorem ids_ptr {i o : Nat} : (AV.ptr i o).ids = [i] := by simp [AV.ids]
@[simp] theorem ids_slice {i o n : Nat} {c : Cap} : (AV.slice i o n c).ids = [i] := by simp [AV.ids]
@[simp] theorem ids_nilslice : AV.nilslice.ids = [] := by simp [AV.ids]
@[simp] theorem ids_nilptr : AV.nilptr.ids = [] := by simp [AV.ids]
@[simp] theorem ids_nilfunc : AV.nilfunc.ids = [] := by simp [AV.ids]
@[simp] theorem ids_map {f : Nat} : (AV.map f).ids = [f] := by simp [AV.ids]
@[simp] theorem ids_yield {f : Nat} : (AV.yield f).ids = [f] := by simp [AV.ids]
@[simp] theorem idsL_nil : AV.ids.idsL [] = [] := by simp [AV.ids.idsL]
@[simp] theorem idsL_cons {v : AV} {l : List AV} : AV.ids.idsL (v :: l) = v.ids ++ AV.ids.idsL l := by simp [AV.ids.idsL]
@[simp] theorem ids_tup {l : List AV} : (AV.tup l).ids = AV.ids.idsL l := by simp [AV.ids]
@[simp] theorem ids_agg {l : List AV} : (AV.agg l).ids = AV.ids.idsL l := by simp [AV.ids]
@[simp] theorem ids_func {f : Nat} {l : List AV} : (AV.func f l).ids = AV.ids.idsL l := by simp [AV.ids]

/-! ### Operations -/
@[simp] theorem evP_mv {v : AV} : evP rows (.mv (.c v)) = some v := rfl
@[simp] theorem evP_pick {t : Bool} {a b : AV} : evP rows (.pick (.c (.bool t)) (.c a) (.c b)) = some (if t then a else b) := rfl
@[simp] theorem evP_load1 {i o : Nat} : evP rows (.load1 (.c (.ptr i o))) = (row? rows i).bind fun vs => vs[o]? := by
  show (match row? rows i with | some vs => vs[o]? | none => none) = _
  cases row? rows i <;> rfl
@[simp] theorem evP_loadN {n i o : Nat} : evP rows (.loadN n (.c (.ptr i o))) = (row? rows i).bind fun vs => (seg vs o n).map AV.agg := by
  show (match row? rows i with | some vs => (seg vs o n).map AV.agg | none => none) = _
  cases row? rows i <;> rfl
@[simp] theorem evP_nilck {i o : Nat} : evP rows (.nilck (.c (.ptr i o))) = some (.ptr i o) := rfl
@[simp] theorem evP_nilckF {f : Nat} {cs : List AV} : evP rows (.nilck (.c (.func f cs))) = some (.func f cs) := rfl
@[simp] theorem evP_nilckY {f : Nat} : evP rows (.nilck (.c (.yield f))) = some (.yield f) := rfl
@[simp] theorem evP_bin {op : BinOp} {x y : AV} : evP rows (.bin op (.c x) (.c y)) = binA op x y := rfl
@[simp] theorem evP_eqv {neg : Bool} {kd : EqK} {x y : AV} : evP rows (.eqv neg kd (.c x) (.c y)) = (eqA kd x y).map fun b => .bool (if neg then !b else b) := rfl
@[simp] theorem evP_not {b : Bool} : evP rows (.un .not (.c (.bool b))) = some (.bool !b) := rfl
@[simp] theorem evP_neg {kd : IntKind} {n : Int} : evP rows (.un .neg (.c (.int kd n))) = some (.int kd (kd.wrap (0 - n))) := rfl
@[simp] theorem evP_conv {kd kd' : IntKind} {n : Int} : evP rows (.conv kd (.c (.int kd' n))) = some (.int kd (kd.wrap n)) := rfl
@[simp] theorem evP_part1 {o : Nat} {l : List AV} : evP rows (.part1 o (.c (.agg l))) = l[o]? := rfl
@[simp] theorem evP_partN {o n : Nat} {l : List AV} : evP rows (.partN o n (.c (.agg l))) = (seg l o n).map AV.agg := rfl
@[simp] theorem evP_idxV {len sz : Nat} {ag : Bool} {l : List AV} {kd : IntKind} {n : Int} : evP rows (.idxV len sz ag (.c (.agg l)) (.c (.int kd n))) = (idx? n len).bind fun j => if ag then (seg l (j * sz) sz).map AV.agg else l[j * sz]? := by
  show (match idx? n len with | some j => if ag then (seg l (j * sz) sz).map AV.agg else l[j * sz]? | none => none) = _
  cases idx? n len <;> rfl
@[simp] theorem evP_fieldA {d i o : Nat} : evP rows (.fieldA d (.c (.ptr i o))) = some (.ptr i (o + d)) := rfl
@[simp] theorem evP_idxA {len sz i o : Nat} {kd : IntKind} {n : Int} : evP rows (.idxA len sz (.c (.ptr i o)) (.c (.int kd n))) = (idx? n len).map fun j => .ptr i (o + j * sz) := by
  show (match idx? n len with | some j => some (AV.ptr i (o + j * sz)) | none => none) = _
  cases idx? n len <;> rfl
@[simp] theorem evP_idxS {sz i o len : Nat} {c : Cap} {kd : IntKind} {n : Int} : evP rows (.idxS sz (.c (.slice i o len c)) (.c (.int kd n))) = (idx? n len).map fun j => .ptr i (o + j * sz) := by
  show (match idx? n len with | some j => some (AV.ptr i (o + j * sz)) | none => none) = _
  cases idx? n len <;> rfl
@[simp] theorem evP_mkagg {z : List AV} {ps : List (Nat × Nat × Opd)} : evP rows (.mkagg z ps) = (fillA (getO []) ps z).map .agg := rfl
@[simp] theorem evP_sliceS {sz : Nat} {x : AV} {lo hi mx : Option Opd} : evP rows (.sliceS sz (.c x) lo hi mx) = sliceV sz x (lo.map (getO [])) (hi.map (getO [])) (mx.map (getO [])) := rfl
@[simp] theorem evP_sliceA {n sz : Nat} {x : AV} {lo hi mx : Option Opd} : evP rows (.sliceA n sz (.c x) lo hi mx) = sliceAV n sz x (lo.map (getO [])) (hi.map (getO [])) (mx.map (getO [])) := rfl
@[simp] theorem evP_mkfn {f : Nat} {cs : List Opd} : evP rows (.mkfn f cs) = some (.func f (cs.map (getO []))) := rfl
@[simp] theorem evP_lenc {n : Nat} : evP rows (.lenc n) = some (.int .i64 n) := rfl
@[simp] theorem evP_len {i o n : Nat} {c : Cap} : evP rows (.len 0 (.c (.slice i o n c))) = some (.int .i64 n) := rfl
@[simp] theorem evP_len0 : evP rows (.len 0 (.c .nilslice)) = some (.int .i64 0) := rfl
@[simp] theorem evP_mx2 {kd : IntKind} {x y : Int} : evP rows (.mx [.c (.int kd x), .c (.int kd y)]) = some (.int kd (max x y)) := by
  simp only [evP, evalP, List.map_cons, List.map_nil, getO, foldA, mxA, if_true, Option.some.injEq, AV.int.injEq, true_and]
  omega
@[simp] theorem evP_mn2 {kd : IntKind} {x y : Int} : evP rows (.mn [.c (.int kd x), .c (.int kd y)]) = some (.int kd (min x y)) := by
  simp only [evP, evalP, List.map_cons, List.map_nil, getO, foldA, mnA, if_true, Option.some.injEq, AV.int.injEq, true_and]
  omega
@[simp] theorem evP_ext {l : List AV} {i : Nat} : evP rows (.ext (.c (.tup l)) i) = l[i]? := rfl
@[simp] theorem evP_mkif {t : Nat} {v : AV} : evP rows (.mkif t (.c v)) = some (.iface t v) := rfl
@[simp] theorem getOn_c {v : AV} : getO sl (.c v) = v := rfl
@[simp] theorem opt_map_c {v : AV} : (some (Opd.c v)).map (getO []) = some v := rfl

@[simp] theorem gv_F {c : Bool} {e : Option AV} : gv (.bool c) false e = if c = true then some (.tup []) else e := by
  unfold gv
  cases c <;> rfl
@[simp] theorem gv_T {c : Bool} {e : Option AV} : gv (.bool c) true e = if c = true then e else some (.tup []) := by
  unfold gv
  cases c <;> rfl
@[simp] theorem gv_0 {b : Bool} {e : Option AV} : gv (.tup []) b e = some (.tup []) := rfl
@[simp] theorem gw_T {c b : Bool} {K K' : Prop} : gw (.bool c) b K K' ↔ if c = b then K else K' := by
  unfold gw
  cases c <;> cases b <;> rfl
@[simp] theorem gw_0 {b : Bool} {K K' : Prop} : gw (.tup []) b K K' ↔ K' := Iff.rfl
theorem gcall_T {c b : Bool} {args : List AV} {K : AV → List Row → Nat → Prop} {v : AV} : gcall F (.bool c) b rows low args v K ↔ if c = b then callK F rows low args K v else K (.tup []) rows low := gw_T
@[simp] theorem gcall_0 {b : Bool} {args : List AV} {K : AV → List Row → Nat → Prop} {v : AV} : gcall F (.tup []) b rows low args v K ↔ K (.tup []) rows low := Iff.rfl
@[simp] theorem gcall_TT {args : List AV} {K : AV → List Row → Nat → Prop} {v : AV} : gcall F (.bool true) true rows low args v K ↔ callK F rows low args K v := Iff.rfl
@[simp] theorem gcall_FF {args : List AV} {K : AV → List Row → Nat → Prop} {v : AV} : gcall F (.bool false) false rows low args v K ↔ callK F rows low args K v := Iff.rfl
@[simp] theorem gcall_TF {args : List AV} {K : AV → List Row → Nat → Prop} {v : AV} : gcall F (.bool true) false rows low args v K ↔ K (.tup []) rows low := Iff.rfl
@[simp] theorem gcall_FT {args : List AV} {K : AV → List Row → Nat → Prop} {v : AV} : gcall F (.bool false) true rows low args v K ↔ K (.tup []) rows low := Iff.rfl
theorem geff_T {c b : Bool} {o : IOp} {K : AV → List Row → Nat → Prop} : geff (.bool c) b rows low o K ↔ if c = b then bnd (evE rows low o) fun q => K q.1 q.2.1 q.2.2 else K (.tup []) rows low := gw_T
@[simp] theorem geff_0 {b : Bool} {o : IOp} {K : AV → List Row → Nat → Prop} : geff (.tup []) b rows low o K ↔ K (.tup []) rows low := Iff.rfl
@[simp] theorem geff_TT {o : IOp} {K : AV → List Row → Nat → Prop} : geff (.bool true) true rows low o K ↔ bnd (evE rows low o) fun q => K q.1 q.2.1 q.2.2 := Iff.rfl
@[simp] theorem geff_FF {o : IOp} {K : AV → List Row → Nat → Prop} : geff (.bool false) false rows low o K ↔ bnd (evE rows low o) fun q => K q.1 q.2.1 q.2.2 := Iff.rfl
@[simp] theorem geff_TF {o : IOp} {K : AV → List Row → Nat → Prop} : geff (.bool true) false rows low o K ↔ K (.tup []) rows low := Iff.rfl
@[simp] theorem geff_FT {o : IOp} {K : AV → List Row → Nat → Prop} : geff (.bool false) true rows low o K ↔ K (.tup []) rows low := Iff.rfl

@[simp] theorem callK_f {args : List AV} {K : AV → List Row → Nat → Prop} {f : Nat} {cs : List AV} : callK F rows low args K (.func f cs) ↔ bnd (Ret F f (args ++ cs) rows) fun q => K q.1 q.2.1 (lowO low q.2.2) := Iff.rfl
@[congr] theorem callK_congr {rows' : List Row} {low' : Nat} {args args' : List AV} {K : AV → List Row → Nat → Prop} {v v' : AV} (h1 : rows = rows') (h2 : low = low') (h3 : args = args') (h4 : v = v') : callK F rows low args K v = callK F rows' low' args' K v' := by rw [h1, h2, h3, h4]
@[congr] theorem gcall_congr {g g' : AV} {b : Bool} {rows' : List Row} {low' : Nat} {args args' : List AV} {K : AV → List Row → Nat → Prop} {v v' : AV} (h0 : g = g') (h1 : rows = rows') (h2 : low = low') (h3 : args = args') (h4 : v = v') : gcall F g b rows low args v K = gcall F g' b rows' low' args' v' K := by rw [h0, h1, h2, h3, h4]
@[congr] theorem geff_congr {g g' : AV} {b : Bool} {rows' : List Row} {low' : Nat} {o o' : IOp} {K : AV → List Row → Nat → Prop} (h0 : g = g') (h1 : rows = rows') (h2 : low = low') (h3 : o = o') : geff g b rows low o K = geff g' b rows' low' o' K := by rw [h0, h1, h2, h3]
theorem callK_y {args : List AV} {K : AV → List Row → Nat → Prop} {id : Nat} {st : LoopState} {pd : Option Jump} {sl1 : List AV} {ps : List Nat} {asg body : ICode} (h : rows[id]? = some (.loop st pd sl1 ps asg body)) (hl : ps.length = args.length) : callK F rows low args K (.yield id) ↔
    Ex F (.round id) [.code asg, .rfBegin, .code body] ⟨putL sl1 ps args, rows, rows.length⟩ fun q => K q.1 (gc rows.length (lower low q.2.2) q.1 q.2.1) (lower low q.2.2) := by
  simp only [callK, h]
  constructor
  · rintro ⟨_, _, _, _, _, _, e, _, h⟩
    simp only [Option.some.injEq, Row.loop.injEq] at e
    obtain ⟨rfl, rfl, rfl, rfl, rfl, rfl⟩ := e
    exact h
  · intro h
    exact ⟨_, _, _, _, _, _, rfl, hl, h⟩

@[simp] theorem binA_add {kd : IntKind} {a b : Int} : binA .add (.int kd a) (.int kd b) = some (.int kd (kd.wrap (a + b))) := by simp [binA, isShift, binI]
@[simp] theorem binA_sub {kd : IntKind} {a b : Int} : binA .sub (.int kd a) (.int kd b) = some (.int kd (kd.wrap (a - b))) := by simp [binA, isShift, binI]
@[simp] theorem binA_mul {kd : IntKind} {a b : Int} : binA .mul (.int kd a) (.int kd b) = some (.int kd (kd.wrap (a * b))) := by simp [binA, isShift, binI]
@[simp] theorem binA_quo {kd : IntKind} {a b : Int} : binA .quo (.int kd a) (.int kd b) = if b = 0 then none else some (.int kd (kd.wrap (a.tdiv b))) := by simp [binA, isShift, binI]
@[simp] theorem binA_rem {kd : IntKind} {a b : Int} : binA .rem (.int kd a) (.int kd b) = if b = 0 then none else some (.int kd (a.tmod b)) := by simp [binA, isShift, binI]
@[simp] theorem binA_and {kd : IntKind} {a b : Int} : binA .and (.int kd a) (.int kd b) = some (.int kd (kd.wrap (bvop .and kd.bits a b))) := by simp [binA, isShift, binI]
@[simp] theorem binA_or {kd : IntKind} {a b : Int} : binA .or (.int kd a) (.int kd b) = some (.int kd (kd.wrap (bvop .or kd.bits a b))) := by simp [binA, isShift, binI]
@[simp] theorem binA_xor {kd : IntKind} {a b : Int} : binA .xor (.int kd a) (.int kd b) = some (.int kd (kd.wrap (bvop .xor kd.bits a b))) := by simp [binA, isShift, binI]
@[simp] theorem binA_andNot {kd : IntKind} {a b : Int} : binA .andNot (.int kd a) (.int kd b) = some (.int kd (kd.wrap (bvop .andNot kd.bits a b))) := by simp [binA, isShift, binI]
@[simp] theorem binA_eql {kd : IntKind} {a b : Int} : binA .eql (.int kd a) (.int kd b) = some (.bool (decide (a = b))) := by
  simp only [binA, isShift, binI, if_true, Bool.false_eq_true, if_false, Option.some.injEq, AV.bool.injEq]
  by_cases h : a = b <;> simp [h]
@[simp] theorem binA_neq {kd : IntKind} {a b : Int} : binA .neq (.int kd a) (.int kd b) = some (.bool (decide (a ≠ b))) := by
  simp only [binA, isShift, binI, if_true, Bool.false_eq_true, if_false, Option.some.injEq, AV.bool.injEq]
  by_cases h : a = b <;> simp [h]
@[simp] theorem binA_lss {kd : IntKind} {a b : Int} : binA .lss (.int kd a) (.int kd b) = some (.bool (decide (a < b))) := by simp [binA, isShift, binI]
@[simp] theorem binA_leq {kd : IntKind} {a b : Int} : binA .leq (.int kd a) (.int kd b) = some (.bool (decide (a ≤ b))) := by simp [binA, isShift, binI]
@[simp] theorem binA_gtr {kd : IntKind} {a b : Int} : binA .gtr (.int kd a) (.int kd b) = some (.bool (decide (b < a))) := by simp [binA, isShift, binI]
@[simp] theorem binA_geq {kd : IntKind} {a b : Int} : binA .geq (.int kd a) (.int kd b) = some (.bool (decide (b ≤ a))) := by simp [binA, isShift, binI]
@[simp] theorem binA_shl {kd kd' : IntKind} {a b : Int} : binA .shl (.int kd a) (.int kd' b) = if b < 0 then none else some (.int kd (kd.wrap (a * 2 ^ (min b.toNat kd.bits)))) := by simp [binA, isShift, shiftI]
@[simp] theorem binA_shr {kd kd' : IntKind} {a b : Int} : binA .shr (.int kd a) (.int kd' b) = if b < 0 then none else some (.int kd (a.fdiv (2 ^ (min b.toNat kd.bits)))) := by simp [binA, isShift, shiftI]
@[simp] theorem eqA_b {a b : Bool} : eqA .bool (.bool a) (.bool b) = some (a == b) := rfl
@[simp] theorem eqA_s0 : eqA .slice .nilslice .nilslice = some true := rfl
@[simp] theorem eqA_s1 {i o n : Nat} {c : Cap} : eqA .slice (.slice i o n c) .nilslice = some false := rfl
@[simp] theorem eqA_p1 {i o : Nat} : eqA .ptr (.ptr i o) .nilptr = some false := rfl
@[simp] theorem eqA_p0 : eqA .ptr .nilptr .nilptr = some true := rfl
@[simp] theorem eqA_ints {n : Nat} {xs ys : List AV} : eqA (.ints n) (.agg xs) (.agg ys) = if xs.length = n ∧ ys.length = n then eqInts xs ys else none := rfl

/-- The cells of a row that may be written. -/
def cells? (rows : List Row) (i : Nat) : Option (List AV) :=
  match rows[i]? with
  | some (.cells vs) => some vs
  | _ => none
@[simp] theorem evE_box {v : AV} : evE rows low (.box (.c v)) = if v.cells.all AV.one = true then some (.ptr rows.length 0, rows ++ [.cells v.cells], low) else none := rfl
@[simp] theorem evE_store1 {i o : Nat} {x : AV} : evE rows low (.store1 (.c (.ptr i o)) (.c x)) = (cells? rows i).bind fun vs => if o < vs.length ∧ x.one = true then some (AV.tup [], rows.set i (.cells (vs.set o x)), lower low i) else none := by
  show (match rows[i]? with | some (.cells vs) => if o < vs.length ∧ x.one = true then some (AV.tup [], rows.set i (.cells (vs.set o x)), lower low i) else none | _ => none) = _
  unfold cells?
  cases rows[i]? with
  | none => rfl
  | some y => cases y <;> rfl
@[simp] theorem evE_storeN {n i o : Nat} {l : List AV} : evE rows low (.storeN n (.c (.ptr i o)) (.c (.agg l))) = (cells? rows i).bind fun vs => if l.length = n ∧ o + n ≤ vs.length ∧ l.all AV.one = true then some (AV.tup [], rows.set i (.cells (splice vs o l)), lower low i) else none := by
  show (match rows[i]? with | some (.cells vs) => if l.length = n ∧ o + n ≤ vs.length ∧ l.all AV.one = true then some (AV.tup [], rows.set i (.cells (splice vs o l)), lower low i) else none | _ => none) = _
  unfold cells?
  cases rows[i]? with
  | none => rfl
  | some y => cases y <;> rfl
@[simp] theorem evE_mkslice {n : Nat} {z : List AV} {ps : List (Nat × Nat × Opd)} : evE rows low (.mkslice n z ps) = (fillA (getO []) ps z).map fun cs => (AV.slice rows.length 0 n (.at_ n), rows ++ [.cells cs], low) := by
  show (match fillA (getO []) ps z with | some cs => some (AV.slice rows.length 0 n (.at_ n), rows ++ [Row.cells cs], low) | none => none) = _
  cases fillA (getO []) ps z <;> rfl
@[simp] theorem evE_make {z : List AV} {b : Nat} {kd kd' : IntKind} {x y : Int} : evE rows low (.make z b (.c (.int kd x)) (.c (.int kd' y))) = if 0 ≤ x ∧ x ≤ y ∧ y ≤ lim then some (.slice rows.length 0 x.toNat (.at_ y.toNat), rows ++ [.cells ((List.replicate y.toNat z).flatten)], low) else none := rfl
@[simp] theorem evE_appz {z : List AV} {kd : IntKind} {n : Int} {b : AV} : evE rows low (.appz z (.c .nilslice) (.c (.int kd n))) = if 0 < n ∧ n ≤ lim then some (.slice rows.length 0 n.toNat (.op 1), rows ++ [.cells ((List.replicate n.toNat z).flatten)], low) else none := rfl
@[simp] theorem evE_mkmap : evE rows low .mkmap = some (.map rows.length, rows ++ [.mp []], low) := rfl

/-! ### Rows -/
theorem lower_ge {low id : Nat} (h : low ≤ id) : lower low id = low := by unfold lower; rw [if_neg (by omega)]
theorem lower_lt {low id : Nat} (h : id < low) : lower low id = id := by unfold lower; rw [if_pos h]
@[simp] theorem lower_self {n : Nat} : lower n n = n := lower_ge (Nat.le_refl _)
@[simp] theorem lower_add {n m : Nat} : lower n (n + m) = n := lower_ge (by omega)
@[simp] theorem rows_at {L : List Row} {i : Nat} : (rows ++ L)[rows.length + i]? = L[i]? := by
  rw [List.getElem?_append_right (by omega)]; congr 1; omega
@[simp] theorem rows_at0 {L : List Row} : (rows ++ L)[rows.length]? = L[0]? := by
  rw [List.getElem?_append_right (by omega)]; simp
@[simp] theorem rows_set {L : List Row} {i : Nat} {x : Row} : (rows ++ L).set (rows.length + i) x = rows ++ L.set i x := by
  rw [List.set_append_right _ _ (by omega)]; congr 2; omega
@[simp] theorem rows_set0 {L : List Row} {x : Row} : (rows ++ L).set rows.length x = rows ++ L.set 0 x := by
  rw [List.set_append_right _ _ (by omega)]; simp
theorem rows_old {i : Nat} {x : Row} (h : rows[i]? = some x) (l : List Row) : (rows ++ l)[i]? = some x := by
  rw [List.getElem?_append_left (List.getElem?_eq_some_iff.1 h).1]; exact h
theorem rows_lt {i : Nat} {x : Row} (h : rows[i]? = some x) : i < rows.length := (List.getElem?_eq_some_iff.1 h).1
@[simp] theorem row?_at {L : List Row} {i : Nat} : row? (rows ++ L) (rows.length + i) = row? L i := by simp [row?]
@[simp] theorem row?_at0 {L : List Row} : row? (rows ++ L) rows.length = row? L 0 := by simp [row?]
@[simp] theorem cells?_at {L : List Row} {i : Nat} : cells? (rows ++ L) (rows.length + i) = cells? L i := by simp [cells?]
@[simp] theorem cells?_at0 {L : List Row} : cells? (rows ++ L) rows.length = cells? L 0 := by simp [cells?]
@[simp] theorem row?_0 {vs : List AV} {L : List Row} : row? (.cells vs :: L) 0 = some vs := rfl
@[simp] theorem row?_s {x : Row} {L : List Row} {i : Nat} : row? (x :: L) (i + 1) = row? L i := by simp [row?]
@[simp] theorem cells?_0 {vs : List AV} {L : List Row} : cells? (.cells vs :: L) 0 = some vs := rfl
@[simp] theorem cells?_s {x : Row} {L : List Row} {i : Nat} : cells? (x :: L) (i + 1) = cells? L i := by simp [cells?]
theorem row?_old {i : Nat} {vs : List AV} (h : row? rows i = some vs) (L : List Row) : row? (rows ++ L) i = some vs := by
  unfold row? at h ⊢
  have hl : i < rows.length := by
    by_cases e : i < rows.length
    · exact e
    · rw [List.getElem?_eq_none (by omega)] at h; simp at h
  rw [List.getElem?_append_left hl]; exact h
theorem row?_lt {i : Nat} {vs : List AV} (h : row? rows i = some vs) : i < rows.length := by
  unfold row? at h
  by_cases e : i < rows.length
  · exact e
  · rw [List.getElem?_eq_none (by omega)] at h; simp at h
theorem cells?_row {i : Nat} {vs : List AV} (h : cells? rows i = some vs) : row? rows i = some vs := by
  unfold cells? at h; unfold row?
  split at h
  · rename_i e; rw [e]; exact h
  · simp at h
theorem cells?_old {i : Nat} {vs : List AV} (h : cells? rows i = some vs) (L : List Row) : cells? (rows ++ L) i = some vs := by
  have hl := row?_lt (cells?_row h)
  unfold cells? at h ⊢
  rw [List.getElem?_append_left hl]; exact h

/-! ### What a call leaves -/
@[simp] theorem fin_val {v : AV} {rows' : List Row} (h : v.ids = []) : fin rows v rows' rows.length = (v, rows, none) := by simp [fin, h]
theorem fin_old {v : AV} {rows' : List Row} (h : v.ids.all (· < rows.length) = true) : fin rows v rows' rows.length = (v, rows, none) := by simp only [fin, h, if_true]

/-! ### Whole numbers -/
theorem wrap64 {n : Int} (h1 : -9223372036854775808 ≤ n) (h2 : n ≤ 9223372036854775807) : IntKind.i64.wrap n = n := by
  simp [IntKind.wrap, IntKind.min, IntKind.max, IntKind.signed, IntKind.bits]; omega
theorem wrapU64 {n : Int} (h1 : 0 ≤ n) (h2 : n ≤ 18446744073709551615) : IntKind.u64.wrap n = n := by
  simp [IntKind.wrap, IntKind.min, IntKind.max, IntKind.signed, IntKind.bits]; omega
theorem idx?_ok {n : Int} {len : Nat} (h1 : 0 ≤ n) (h2 : n < len) : idx? n len = some n.toNat := by unfold idx?; rw [if_pos ⟨h1, h2⟩]
@[simp] theorem idx?_nat {n len : Nat} : idx? (n : Int) len = if n < len then some n else none := by
  unfold idx?
  by_cases h : n < len
  · rw [if_pos ⟨by omega, by omega⟩, if_pos h]; simp
  · rw [if_neg (by omega), if_neg h]

/-! ### Lists of whole numbers -/
def nums (k : IntKind) (l : List Int) : List AV := l.map (.int k)
section
variable {kd : IntKind} {l : List Int}
@[simp] theorem nums_len : (nums kd l).length = l.length := by simp [nums]
@[simp] theorem nums_get {i : Nat} : (nums kd l)[i]? = (l[i]?).map (.int kd) := by simp [nums]
@[simp] theorem nums_getE {i : Nat} (h : i < (nums kd l).length) : (nums kd l)[i] = .int kd (l[i]'(by simpa using h)) := by simp [nums]
@[simp] theorem nums_set {i : Nat} {v : Int} : (nums kd l).set i (.int kd v) = nums kd (l.set i v) := by simp [nums, List.map_set]
@[simp] theorem nums_one : (nums kd l).all AV.one = true := by simp [nums, AV.one]
@[simp] theorem nums_one2 : (∀ x ∈ nums kd l, x.one = true) ↔ True := by simp [nums]
@[simp] theorem nums_under {b : Nat} : (nums kd l).all (AV.under b) = true := by simp [nums, AV.under, AV.ids]
@[simp] theorem nums_ids : (nums kd l).all (·.ids.isEmpty) = true := by simp [nums, AV.ids]
@[simp] theorem nums_app {m : List Int} : nums kd l ++ nums kd m = nums kd (l ++ m) := by simp [nums]
theorem nums_rep {n : Nat} {v : Int} : List.replicate n (.int kd v) = nums kd (List.replicate n v) := by simp [nums]
theorem nums_repF {n : Nat} {v : Int} : (List.replicate n [AV.int kd v]).flatten = nums kd (List.replicate n v) := by
  induction n with
  | zero => rfl
  | succ n ih => simp [List.replicate_succ, ih, nums]
theorem nums_seg {i n : Nat} : seg (nums kd l) i n = if i + n ≤ l.length then some (nums kd ((l.drop i).take n)) else none := by
  unfold seg; simp [nums]
theorem nums_all {n : Nat} (h : l.length = n) : seg (nums kd l) 0 n = some (nums kd l) := by
  rw [nums_seg, if_pos (by omega)]; simp [← h]
theorem splice_all {vs w : List AV} (h : vs.length = w.length) : splice vs 0 w = w := by
  unfold splice; simp [← h]
theorem get_at {l : List Int} {i : Nat} (h : i < l.length) : l[i]? = some (l.getD i 0) := by
  rw [List.getD_eq_getElem?_getD, List.getElem?_eq_getElem h]; rfl
end
@[simp] theorem nums_fin {kd : IntKind} {o n : Nat} {c : Cap} {l : List Int} {L : List Row} : fin rows (.slice rows.length o n c) (rows ++ .cells (nums kd l) :: L) rows.length = (.slice rows.length o n c, rows ++ [.cells (nums kd l)], none) := by
  simp [fin, AV.plain1, AV.plain, AV.ren1, AV.ren]
end
end Go.Abs
