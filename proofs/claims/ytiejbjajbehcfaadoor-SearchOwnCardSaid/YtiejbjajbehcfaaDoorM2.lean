/- The evaluator: operations and calls, their law. -/
import Derived.Test.YtiejbjajbehcfaaDoorM1
import Derived.Laws.IdiomCopy
set_option linter.unusedVariables false
set_option linter.unusedSimpArgs false
/- The soundness of the operations that make or write memory. -/
namespace Go.Abs
variable {κ : KRel}
section ops
variable {P : Program} {gl : List Nat} {θ : Th} {rows : List Row} {w : World} {sl : List AV} {a : Act} {low : Nat}

/-- What an operation comes to. -/
def Eff (κ : KRel) (P : Program) (θ : Th) (rows : List Row) (low : Nat) (w : World) (a : Act) (o : Oper) (v : AV) (rows' : List Row) (low' : Nat) : Prop :=
  ∃ θ' w' nv v', (execOp a.eval o).run P w = .ok nv w' ∧ (nv = .value v' ∨ (nv = .skip ∧ v' = undef)) ∧ V θ' v v' ∧ Fr κ θ θ' rows rows' low low' w w'

theorem V_undef (θ : Th) : V θ (.tup []) undef := V.tup (l' := []) rfl (fun i x x' h => by simp at h)

theorem CellsRel.of_VL {θ : Th} {vs : List AV} {c : Array Value} {b : Nat} (h : VL θ vs c.toList) (h1 : ∀ v ∈ c.toList, v.oneCell' = true) : CellsRel θ ⟨b, 0, c.size⟩ vs c :=
  ⟨by have := h.1; simp at this; simp; omega, rfl, fun j x hx => by
    obtain ⟨x', a, b⟩ := h.get hx
    exact ⟨x', by simpa using a, b, h1 _ (List.mem_of_getElem? a)⟩⟩

/-- A new row of cells. -/
theorem eff_alloc (hr : HRel κ θ rows w) (hlow : low ≤ rows.length) {vs : List AV} {c : Array Value} (hv : VL θ vs c.toList) (h1 : ∀ v ∈ c.toList, v.oneCell' = true) (T : TypeId) :
    Fr κ θ (θ.add rows.length ⟨w.heap.size, 0, c.size⟩) rows (rows ++ [.cells vs]) low low w { w with heap := w.heap.push (.cells c T) } :=
  Fr.push (w' := { w with heap := w.heap.push (.cells c T) }) hr low hlow (.cells c T) rfl rfl rfl rfl 0 c.size (.cells vs)
    ⟨_, c, T, Th.add_self _ _ _, by simp, CellsRel.of_VL (hv.mono (Th.ext_add hr.none_len _)) h1⟩ rfl

theorem replicate_flatten_size (n : Nat) (z : List AV) : ((List.replicate n z).flatten).length = n * z.length := by
  induction n with
  | zero => simp
  | succ n ih => simp [List.replicate_succ, ih, Nat.succ_mul]; omega

theorem flatten_get {α : Type} (z : List α) (n i : Nat) (h : i < n * z.length) : ((List.replicate n z).flatten)[i]? = z[i % z.length]? := by
  induction n generalizing i with
  | zero => simp at h
  | succ n ih =>
    rw [List.replicate_succ, List.flatten_cons]
    rcases Nat.lt_or_ge i z.length with hi | hi
    · rw [List.getElem?_append_left hi, Nat.mod_eq_of_lt hi]
    · rw [List.getElem?_append_right hi, ih (i - z.length) (by rw [Nat.succ_mul] at h; omega)]
      congr 1
      exact (Nat.mod_eq_sub_mod hi).symm

/-- The zero cells of so many elements. -/
theorem zeros_V {z : AV} {zv : Value} (hz : VL θ z.cells zv.cells.toList) (n : Nat) (hpos : 0 < z.cells.length) :
    VL θ ((List.replicate n z.cells).flatten) (((Array.range (n * z.cells.length)).map (zv.cells[· % zv.cells.size]!)).toList) := by
  have hsz : zv.cells.size = z.cells.length := by have := hz.1; simp at this; exact this.symm
  refine ⟨by simp [replicate_flatten_size], fun i x x' a b => ?_⟩
  have hi : i < n * z.cells.length := by
    have := (List.getElem?_eq_some_iff.1 a).1
    rwa [replicate_flatten_size] at this
  rw [flatten_get _ _ _ hi] at a
  obtain ⟨y, p, q⟩ := hz.get a
  have : x' = y := by
    simp only [Array.toList_map, Array.toList_range, List.getElem?_map, List.getElem?_range hi, Option.map_some, Option.some.injEq] at b
    rw [← b, hsz]
    have hlt : i % z.cells.length < zv.cells.size := by rw [hsz]; exact Nat.mod_lt _ hpos
    rw [getElem!_pos zv.cells _ hlt]
    have := p
    simp at this
    rw [Array.getElem?_eq_getElem hlt] at this
    injection this
  rw [this]; exact q

theorem ones_of {l : List AV} {l' : List Value} (h : VL θ l l') (h1 : l.all AV.one = true) : ∀ v ∈ l', v.oneCell' = true := fun v hv => by
  obtain ⟨i, hi⟩ := List.mem_iff_getElem?.1 hv
  have hlt : i < l.length := by have := (List.getElem?_eq_some_iff.1 hi).1; have := h.1; omega
  have hV := h.2 i _ v (List.getElem?_eq_getElem hlt) hi
  exact (V.oneCell hV (List.all_eq_true.1 h1 _ (List.getElem_mem hlt))).1

theorem snd_box (hr : HRel κ θ rows w) (hlow : low ≤ rows.length) {x : AV} {x' : Value} (hx : V θ x x') (h1 : x.cells.all AV.one = true) (t : TypeId) :
    ∃ θ' w', (Instr.box t x').run P w = .ok (.pointer (some ⟨w.heap.size, 0, none⟩)) w' ∧ V θ' (.ptr rows.length 0) (.pointer (some ⟨w.heap.size, 0, none⟩)) ∧ Fr κ θ θ' rows (rows ++ [.cells x.cells]) low low w w' := by
  refine ⟨_, _, ?_, ?_, eff_alloc hr hlow (V.cells hx h1) (ones_of (V.cells hx h1) h1) t⟩
  · simp [Instr.box, newVar, newRow, newObj, Sem.run]
  · have := V.ptr (off := 0) (Th.add_self θ rows.length ⟨w.heap.size, 0, x'.cells.size⟩)
    simpa using this

theorem setRow_Fr (hr : HRel κ θ rows w) {id : Nat} {vs : List AV} (hid : rows[id]? = some (.cells vs)) {L : Loc} (hL : θ id = some L) {c c' : Array Value} {T : TypeId} (hb : w.heap[L.b]? = some (.cells c T (0, 0)))
    {vs' : List AV} (hc : CellsRel θ L vs' c') : Fr κ θ θ rows (rows.set id (.cells vs')) low (lower low id) w (w.setRow L.b c') :=
  Fr.setrow hr low hid rfl hL (by simp) (fun k hk => setRow_other w L.b k c' hk) rfl rfl rfl (.cells vs') ⟨L, c', T, hL, setRow_heap w L.b c c' T (0, 0) hb, hc⟩ rfl

theorem CellsRel.splice {L : Loc} {vs l : List AV} {l' : List Value} {c : Array Value} (hc : CellsRel θ L vs c) (hl : VL θ l l') (hone : ∀ v ∈ l', v.oneCell' = true) {off : Nat} (hle : off + l.length ≤ vs.length) :
    CellsRel θ L (Abs.splice vs off l) (c.toList.take (L.d + off) ++ (l' ++ c.toList.drop (L.d + off + l'.length))).toArray := by
  have hlen : l'.length = l.length := hl.1.symm
  have h2 := hc.1
  have h1 := hc.2.1
  refine ⟨by simp [Abs.splice]; omega, by simp; omega, ?_⟩
  intro j x hx
  unfold Abs.splice at hx
  have e1 : (List.take (L.d + off) c.toList).length = L.d + off := by simp; omega
  have e0 : (List.take off vs).length = off := by simp; omega
  rw [List.append_assoc] at hx
  rw [List.getElem?_toArray]
  rcases Nat.lt_or_ge j off with h | h
  · rw [List.getElem?_append_left (by omega), List.getElem?_take_of_lt h] at hx
    obtain ⟨x', p, q, o⟩ := hc.2.2 j x hx
    refine ⟨x', ?_, q, o⟩
    rw [List.getElem?_append_left (by omega), List.getElem?_take_of_lt (by omega)]
    simpa using p
  · rw [List.getElem?_append_right (by omega), e0] at hx
    rw [List.getElem?_append_right (by omega), e1, show L.d + j - (L.d + off) = j - off from by omega]
    rcases Nat.lt_or_ge j (off + l.length) with h' | h'
    · rw [List.getElem?_append_left (by omega)] at hx
      obtain ⟨x', p, q⟩ := hl.get hx
      exact ⟨x', by rw [List.getElem?_append_left (by omega)]; exact p, q, hone _ (List.mem_of_getElem? p)⟩
    · rw [List.getElem?_append_right (by omega), List.getElem?_drop, show off + l.length + (j - off - l.length) = j from by omega] at hx
      obtain ⟨x', p, q, o⟩ := hc.2.2 j x hx
      refine ⟨x', ?_, q, o⟩
      rw [List.getElem?_append_right (by omega), List.getElem?_drop, show L.d + off + l'.length + (j - off - l'.length) = L.d + j from by omega]
      simpa using p

theorem snd_storeN (hr : HRel κ θ rows w) {t : TypeId} {p : AV} {p' x' : Value} (hp : V θ p p') {id off : Nat} (ep : p = .ptr id off) {l : List AV} {l' : List Value} (hl : VL θ l l') (hcells : x'.cells.toList = l') (hsz : szT P t = some l.length)
    {vs : List AV} (hid : rows[id]? = some (.cells vs)) (hle : off + l.length ≤ vs.length) (hone : ∀ v ∈ l', v.oneCell' = true) :
    ∃ w', (Instr.storeAt t p' x').run P w = .ok () w' ∧ Fr κ θ θ rows (rows.set id (.cells (splice vs off l))) low (lower low id) w w' := by
  subst ep
  cases hp with
  | ptr hL =>
  rename_i L
  obtain ⟨L', c, T, hL', hb, hc⟩ := hr.row id _ hid
  rw [hL] at hL'; injection hL' with hL'; subst hL'
  have hlen : l'.length = l.length := hl.1.symm
  have hcs : x'.cells.size = l.length := by rw [← hlen, ← hcells]; simp
  have hst := run_storeCells_at (P := P) L.b (L.d + off) T l' 0 c w hb (by have := hc.1; omega) hone
  simp only [Nat.add_zero, List.append_assoc] at hst
  refine ⟨_, ?_, setRow_Fr hr hid hL hb (hc.splice hl hone hle)⟩
  simp only [Instr.storeAt, Instr.sureAddr, storeVar, Sem.run_bind, Sem.run_pure, Result.andThen_ok, run_szT hsz, hcs, hcells]
  simp [hst]

/-- The same, of one row alone. -/
theorem snd_storeR {t : TypeId} {p' x' : Value} {id off : Nat} (hp : V θ (.ptr id off) p') {l : List AV} {l' : List Value} (hl : VL θ l l') (hcells : x'.cells.toList = l') (hsz : szT P t = some l.length)
    {vs : List AV} {L : Loc} (hL : θ id = some L) (hrow : RowRel κ θ id w (.cells vs)) (hle : off + l.length ≤ vs.length) (hone : ∀ v ∈ l', v.oneCell' = true) :
    ∃ w', (Instr.storeAt t p' x').run P w = .ok () w' ∧ RowRel κ θ id w' (.cells (splice vs off l)) ∧ w'.heap.size = w.heap.size ∧ (∀ k, k ≠ L.b → w'.heap[k]? = w.heap[k]?) ∧ w'.os = w.os ∧ w'.tape = w.tape ∧ w'.output = w.output := by
  cases hp with
  | ptr hL1 =>
  rename_i L1
  rw [hL] at hL1; injection hL1 with hL1; subst hL1
  obtain ⟨L', c, T, hL', hb, hc⟩ := hrow
  rw [hL] at hL'; injection hL' with hL'; subst hL'
  have hlen : l'.length = l.length := hl.1.symm
  have hcs : x'.cells.size = l.length := by rw [← hlen, ← hcells]; simp
  have hst := run_storeCells_at (P := P) L.b (L.d + off) T l' 0 c w hb (by have := hc.1; omega) hone
  simp only [Nat.add_zero, List.append_assoc] at hst
  refine ⟨_, ?_, ⟨L, _, T, hL, setRow_heap w L.b c _ T (0, 0) hb, hc.splice hl hone hle⟩, by simp, fun k hk => setRow_other w L.b k _ hk, rfl, rfl, rfl⟩
  simp only [Instr.storeAt, Instr.sureAddr, storeVar, Sem.run_bind, Sem.run_pure, Result.andThen_ok, run_szT hsz, hcs, hcells]
  simp [hst]
end ops
end Go.Abs
/- The soundness of append and of maps that are written. -/
namespace Go.Abs
variable {κ : KRel}
section ops
variable {P : Program} {gl : List Nat} {θ : Th} {rows : List Row} {w : World} {sl : List AV} {a : Act} {low : Nat}

theorem run_app_room {t ty e : TypeId} {i : TypeInfo} (ht : P.underlying t = some (.slice e)) (hi : P.info? e = some i)
    (b off sLen sCap : Nat) (p : Addr) (m c : Nat) (news : List Value) (hl : news.length = m * i.size) (hnews : ∀ j u, news[j]? = some u → w.cell? (p.add j) = some u) (h1 : ∀ u ∈ news, u.oneCell' = true)
    (hroom : sLen + m ≤ sCap) {cur : Array Value} {T : TypeId} (hb : w.heap[b]? = some (.cells cur T (0, 0))) (hfit : off + sLen * i.size + news.length ≤ cur.size) :
    (Builtin.append_ #[t, t] ty #[.slice (some ⟨b, off, none⟩) sLen sCap, .slice (some p) m c]).run P w =
      .ok (.slice (some ⟨b, off, none⟩) (sLen + m) sCap) (w.setRow b (cur.toList.take (off + sLen * i.size) ++ (news ++ cur.toList.drop (off + sLen * i.size + news.length))).toArray) := by
  have hfc := run_firstCells_some (P := P) w i.size m p m c news hl hnews
  have hst := run_storeCells_at (P := P) b (off + sLen * i.size) T news 0 cur w hb (by omega) h1
  simp only [Nat.add_zero, List.append_assoc] at hst
  simp [Builtin.append_, run_underlying ht, sizeOf, typeInfo, hi, Builtin.lenOf, hroom, hfc, addr_add, hst]

theorem run_app_none {t ty e : TypeId} {i : TypeInfo} (ht : P.underlying t = some (.slice e)) (hi : P.info? e = some i) (p q : Option Addr) (n cap c : Nat) (hn : n ≤ cap) :
    (Builtin.append_ #[t, t] ty #[.slice p n cap, .slice q 0 c]).run P w = .ok (.slice p n cap) w := by
  cases p <;> cases q <;> simp [Builtin.append_, run_underlying ht, sizeOf, typeInfo, hi, Builtin.lenOf, hn, Builtin.firstCells, loadCells, loadCellsFrom, storeCells]

theorem elems_sound (hr : HRel κ θ rows w) {x : AV} {x' : Value} (hx : V θ x x') {sz : Nat} {ys : List AV} {m : Nat} (he : elems rows sz x = some (ys, m)) :
    (m = 0 ∧ ∃ q c, x' = .slice q 0 c) ∨ (0 < m ∧ ∃ p c ys', x' = .slice (some p) m c ∧ VL θ ys ys' ∧ ys'.length = m * sz ∧ (∀ j u, ys'[j]? = some u → w.cell? (p.add j) = some u) ∧ ∀ u ∈ ys', u.oneCell' = true) := by
  unfold elems at he
  split at he
  · injection he with he
    simp only [Prod.mk.injEq] at he
    cases hx
    exact .inl ⟨he.2.symm, _, _, rfl⟩
  · rename_i id off n cap
    split at he
    case h_2 => simp at he
    rename_i vs hrow
    simp only [Option.map_eq_some_iff, Prod.mk.injEq] at he
    obtain ⟨l, hl, rfl, rfl⟩ := he
    rcases Nat.eq_zero_or_pos n with h0 | h0
    · subst h0
      cases hx <;> exact .inl ⟨rfl, _, _, rfl⟩
    · refine .inr ⟨h0, ?_⟩
      cases hx with
      | sliceAt hL ho hlc =>
        rename_i o L
        have := ho (by omega); subst this
        obtain ⟨l', h1, h2, h3, h4⟩ := hr.readSeg hrow hL hl
        exact ⟨_, _, l', rfl, h1, h2, h3, h4⟩
      | sliceOp hL ho hto hlc =>
        rename_i cc o L
        have := ho (by omega); subst this
        obtain ⟨l', h1, h2, h3, h4⟩ := hr.readSeg hrow hL hl
        exact ⟨_, _, l', rfl, h1, h2, h3, h4⟩
  · simp at he

/-- The new row of an append that grows. -/
theorem grown_Fr (hr : HRel κ θ rows w) (hlow : low ≤ rows.length) {vs : List AV} {vs' : List Value} (hv : VL θ vs vs') (hone : ∀ u ∈ vs', u.oneCell' = true) (rest : Array Value) (T : TypeId) (c : Array Value) (hc : c.toList = vs' ++ rest.toList) :
    Fr κ θ (θ.add rows.length ⟨w.heap.size, 0, c.size⟩) rows (rows ++ [.cells vs]) low low w (w.drew.alloc (.cells c T)) := by
  refine Fr.push (w' := w.drew.alloc (.cells c T)) hr low hlow (.cells c T) rfl rfl rfl rfl 0 c.size (.cells vs) ⟨_, c, T, Th.add_self _ _ _, heap_alloc_new w.drew _, ⟨?_, rfl, ?_⟩⟩ rfl
  · have : c.size = vs'.length + rest.size := by rw [← Array.length_toList, hc]; simp
    have := hv.1
    simp only [Nat.zero_add]; omega
  · intro j x hx
    obtain ⟨x', p, q⟩ := hv.get hx
    refine ⟨x', ?_, q.mono (Th.ext_add hr.none_len _), hone _ (List.mem_of_getElem? p)⟩
    have hj : j < vs'.length := (List.getElem?_eq_some_iff.1 p).1
    rw [Nat.zero_add, ← Array.getElem?_toList, hc, List.getElem?_append_left hj]
    exact p

theorem grown_V {n m sz c : Nat} {θ : Th} {rows : List Row} {B top : Nat} (hcap : n + m ≤ c) (hsz : c * sz ≤ top) :
    V (θ.add rows.length ⟨B, 0, top⟩) (.slice rows.length 0 (n + m) (.op sz)) (.slice (some ⟨B, 0, none⟩) (n + m) c) :=
  .sliceOp (L := ⟨B, 0, top⟩) (Th.add_self _ _ _) (fun _ => rfl) (by simpa using hsz) hcap

theorem size_grown {z : Value} {sz : Nat} (hz : z.cells.size = sz) {need cap : Nat} (h : need ≤ cap) {l : List Value} (hl : l.length = need * sz) {A : Array Value} (hA : A.toList = l ++ (Builtin.zeroCells z.cells (cap - need)).toList) : A.size = cap * sz := by
  have := congrArg List.length hA
  rw [Array.length_toList (xs := A), List.length_append, Array.length_toList (xs := Builtin.zeroCells z.cells (cap - need)), size_zeroCells, hz, hl, ← Nat.add_mul] at this
  rw [this]
  congr 1; omega

theorem lim_ok {n b : Nat} (h : ¬ lim < n) (hb : b ≤ 1024) : (n : Int) ≤ 9223372036854775807 ∧ n * b ≤ 140737488355328 := by
  unfold lim at h
  refine ⟨by omega, ?_⟩
  have : n * b ≤ 1073741824 * 1024 := Nat.mul_le_mul (by omega) hb
  omega

theorem snd_app (hr : HRel κ θ rows w) (hlow : low ≤ rows.length) {t ty e : TypeId} (hu : P.underlying t = some (.slice e)) {i : TypeInfo} (hi : P.info? e = some i) {z : Value} (hz : i.zero = some z) (hzs : z.cells.size = i.size) (hpos : 0 < i.size) (hby : i.bytes ≤ 1024)
    {s x : Opd} {g : Opd → AV} {s' x' : Value} (hs : V θ (g s) s') (hx : V θ (g x) x') {v : AV} {rows' : List Row} {low' : Nat} {by_ : Nat} (he : evalE g rows low (.app i.size by_ s x) = some (v, rows', low')) :
    ∃ θ' w' v', (Builtin.append_ #[t, t] ty #[s', x']).run P w = .ok v' w' ∧ V θ' v v' ∧ Fr κ θ θ' rows rows' low low' w w' := by
  simp only [evalE] at he
  split at he
  · simp at he
  rename_i ys m hel
  have hE := elems_sound hr hx hel
  split at he
  · rename_i hm
    rcases hE with ⟨_, q, c, rfl⟩ | ⟨h, _⟩
    case inr => omega
    split at he <;> first | (simp at he; done) | skip
    · rename_i e1
      rw [e1] at hs
      simp only [Option.some.injEq, Prod.mk.injEq] at he
      obtain ⟨rfl, rfl, rfl⟩ := he
      cases hs
      exact ⟨θ, w, _, run_app_none hu hi _ _ _ _ _ (Nat.le_refl _), .nilslice, Fr.refl hr low⟩
    · rename_i id off n cap e1
      rw [e1] at hs
      simp only [Option.some.injEq, Prod.mk.injEq] at he
      obtain ⟨rfl, rfl, rfl⟩ := he
      have hs0 := hs
      cases hs with
      | sliceAt hL ho hlc => exact ⟨θ, w, _, run_app_none hu hi _ _ _ _ _ hlc, hs0, Fr.refl hr low⟩
      | sliceOp hL ho hto hlc => exact ⟨θ, w, _, run_app_none hu hi _ _ _ _ _ hlc, hs0, Fr.refl hr low⟩
  · rename_i hm
    rcases hE with ⟨h, _⟩ | ⟨hm0, p, c, ys', rfl, hy, hyl, hyc, hy1⟩
    · omega
    split at he
    · simp at he
    rename_i hlim
    split at he
    · -- a nil slice
      rename_i e1
      rw [e1] at hs
      simp only [Option.some.injEq, Prod.mk.injEq] at he
      obtain ⟨rfl, rfl, rfl⟩ := he
      cases hs
      obtain ⟨l1, l2⟩ := lim_ok hlim hby
      have hrun := run_append_nil (P := P) w t ty e i z hu hi hz p m c ys' hyl hyc hm0 l1 (by omega)
      have hge := grownCap_ge w m 0 e
      refine ⟨_, _, _, hrun, ?_, grown_Fr hr hlow hy hy1 (Builtin.zeroCells z.cells (grownCap w m 0 e - m)) e _ (by simp)⟩
      have hsz := size_grown (z := z) hzs hge hyl (A := ys'.toArray ++ Builtin.zeroCells z.cells (grownCap w m 0 e - m)) (by rw [Array.toList_append])
      have := grown_V (θ := θ) (rows := rows) (B := w.heap.size) (n := 0) (m := m) (sz := i.size) (c := grownCap w m 0 e) (top := (ys'.toArray ++ Builtin.zeroCells z.cells (grownCap w m 0 e - m)).size) (by omega) (by omega)
      simpa using this
    · -- a capacity that is known
      rename_i id off n cap e1
      rw [e1] at hs
      cases hs with
      | sliceAt hL ho hlc =>
      rename_i o L
      split at he
      · simp at he
      rename_i hlim2
      split at he
      · rename_i hroom
        split at he
        case h_2 => simp at he
        rename_i vs hid
        split at he
        case isFalse => simp at he
        rename_i hfit
        simp only [Option.some.injEq, Prod.mk.injEq] at he
        obtain ⟨rfl, rfl, rfl⟩ := he
        have := ho (by omega); subst this
        obtain ⟨L', c0, T, hL', hb, hc⟩ := hr.row id _ hid
        rw [hL] at hL'; injection hL' with hL'; subst hL'
        have hyy : ys.length = ys'.length := hy.1
        have h2 := hc.1
        have hrun := run_app_room (P := P) (w := w) (ty := ty) hu hi L.b (L.d + off) n cap p m c ys' hyl hyc hy1 hroom hb (by omega)
        refine ⟨θ, _, _, hrun, .sliceAt hL (fun _ => rfl) hroom, setRow_Fr hr hid hL hb ?_⟩
        have := hc.splice hy hy1 (off := off + n * i.size) (by omega)
        rw [← Nat.add_assoc] at this
        exact this
      · rename_i hroom
        split at he
        case h_2 => simp at he
        rename_i vs hrow
        split at he
        case h_2 => simp at he
        rename_i xs hxs
        simp only [Option.some.injEq, Prod.mk.injEq] at he
        obtain ⟨rfl, rfl, rfl⟩ := he
        obtain ⟨l1, l2⟩ := lim_ok hlim2 hby
        obtain ⟨xs', hxV, hxl, hxc, hx1⟩ := hr.readSeg hrow hL hxs
        have hxc' : ∀ j u, xs'[j]? = some u → w.cell? ((⟨L.b, o, none⟩ : Addr).add j) = some u := fun j u hj => by
          have hjl : j < xs'.length := (List.getElem?_eq_some_iff.1 hj).1
          have hn0 : 0 < n := by
            rcases Nat.eq_zero_or_pos n with h | h
            · subst h; simp at hxl; subst hxl; simp at hjl
            · exact h
          have := ho (by omega); subst this
          exact hxc j u hj
        have hrun := run_append_grow (P := P) w t ty e i z hu hi hz ⟨L.b, o, none⟩ n cap xs' hxl hxc' p m c ys' hyl hyc (by omega) (by omega) (growslice_fits (by omega) l2)
        have hge := grownCap_ge w (n + m) cap e
        have hlist : (xs'.toArray ++ ys'.toArray ++ Builtin.zeroCells z.cells (grownCap w (n + m) cap e - (n + m))).toList = (xs' ++ ys') ++ (Builtin.zeroCells z.cells (grownCap w (n + m) cap e - (n + m))).toList := by rw [Array.toList_append, Array.toList_append]
        refine ⟨_, _, _, hrun, ?_, grown_Fr hr hlow (hxV.append hy) (fun u hu => by rcases List.mem_append.1 hu with h | h; exact hx1 u h; exact hy1 u h) _ e _ hlist⟩
        have hsz := size_grown (z := z) hzs hge (l := xs' ++ ys') (by rw [List.length_append, hxl, hyl, Nat.add_mul]) hlist
        exact grown_V hge (Nat.le_of_eq hsz.symm)
    · -- a capacity that is not known
      rename_i id off n sz' e1
      rw [e1] at hs
      cases hs with
      | sliceOp hL ho hto hlc =>
      rename_i cc o L
      split at he
      · simp at he
      rename_i hlim2
      have hsz' : sz' = i.size := by
        rcases Nat.decEq sz' i.size with h | h
        · exact absurd (.inr h) hlim2
        · exact h
      subst hsz'
      have hlim3 : ¬ lim < n + m := fun h => hlim2 (.inl h)
      split at he
      case h_2 => simp at he
      rename_i vs hid
      split at he
      case h_2 => simp at he
      rename_i xs hxs
      simp only [Option.some.injEq, Prod.mk.injEq] at he
      obtain ⟨rfl, rfl, rfl⟩ := he
      obtain ⟨l1, l2⟩ := lim_ok hlim3 hby
      have hrow : row? rows id = some vs := by simp [row?, hid]
      obtain ⟨xs', hxV, hxl, hxc, hx1⟩ := hr.readSeg hrow hL hxs
      obtain ⟨L', c0, T, hL', hb, hc⟩ := hr.row id _ hid
      rw [hL] at hL'; injection hL' with hL'; subst hL'
      have hxc' : ∀ j u, xs'[j]? = some u → w.cell? ((⟨L.b, o, none⟩ : Addr).add j) = some u := fun j u hj => by
        have hjl : j < xs'.length := (List.getElem?_eq_some_iff.1 hj).1
        have hn0 : 0 < n := by
          rcases Nat.eq_zero_or_pos n with h | h
          · subst h; simp at hxl; subst hxl; simp at hjl
          · exact h
        have := ho (by omega); subst this
        exact hxc j u hj
      have hone : ∀ u ∈ xs' ++ ys', u.oneCell' = true := fun u hu => by rcases List.mem_append.1 hu with h | h; exact hx1 u h; exact hy1 u h
      by_cases hroom : n + m ≤ cc
      · have htop := hc.2.1
        have hfit : o + n * i.size + ys'.length ≤ c0.size := by
          have : (n + m) * i.size ≤ cc * i.size := Nat.mul_le_mul_right _ hroom
          rw [Nat.add_mul] at this
          omega
        have hrun := run_app_room (P := P) (w := w) (ty := ty) hu hi L.b o n cc p m c ys' hyl hyc hy1 hroom hb hfit
        refine ⟨θ.add rows.length ⟨L.b, o, L.top⟩, _, _, hrun, ?_, Fr.turn hr low hlow hid rfl hL (by simp) (fun k hk => setRow_other w L.b k _ hk) rfl rfl rfl o L.top (.cells (xs ++ ys)) ⟨⟨L.b, o, L.top⟩, _, T, Th.add_self _ _ _, setRow_heap w L.b c0 _ T (0, 0) hb, ⟨?_, ?_, ?_⟩⟩ rfl⟩
        · exact .sliceOp (L := ⟨L.b, o, L.top⟩) (Th.add_self _ _ _) (fun _ => rfl) hto hroom
        · have := hxV.1; have := hy.1
          simp; omega
        · simp; omega
        · intro j x hx
          have e1 : (List.take (o + n * i.size) c0.toList).length = o + n * i.size := by simp; omega
          rw [List.getElem?_toArray]
          simp only
          rcases Nat.lt_or_ge j xs.length with h | h
          · rw [List.getElem?_append_left h] at hx
            obtain ⟨x', q1, q2⟩ := hxV.get hx
            have := hxV.1
            refine ⟨x', ?_, q2.mono (Th.ext_add hr.none_len _), hx1 _ (List.mem_of_getElem? q1)⟩
            rw [List.getElem?_append_left (by omega), List.getElem?_take_of_lt (by omega)]
            have := hxc' j x' q1
            rw [addr_add] at this
            simpa [World.cell?, hb] using this
          · rw [List.getElem?_append_right h] at hx
            obtain ⟨x', q1, q2⟩ := hy.get hx
            have := hxV.1
            have hjl := (List.getElem?_eq_some_iff.1 q1).1
            refine ⟨x', ?_, q2.mono (Th.ext_add hr.none_len _), hy1 _ (List.mem_of_getElem? q1)⟩
            rw [List.getElem?_append_right (by omega), e1, List.getElem?_append_left (by omega), show o + j - (o + n * i.size) = j - xs.length from by omega]
            exact q1
      · have hrun := run_append_grow (P := P) w t ty e i z hu hi hz ⟨L.b, o, none⟩ n cc xs' hxl hxc' p m c ys' hyl hyc (by omega) (by omega) (growslice_fits (by omega) l2)
        have hge := grownCap_ge w (n + m) cc e
        have hlist : (xs'.toArray ++ ys'.toArray ++ Builtin.zeroCells z.cells (grownCap w (n + m) cc e - (n + m))).toList = (xs' ++ ys') ++ (Builtin.zeroCells z.cells (grownCap w (n + m) cc e - (n + m))).toList := by rw [Array.toList_append, Array.toList_append]
        have hk := Fr.kill hr low id
        have hg := grown_Fr (low := lower low id) hk.rel (by simp; exact Nat.le_trans (lower_le _ _) hlow) (hxV.append hy) hone _ e _ hlist
        simp only [List.length_set] at hg
        refine ⟨_, _, _, hrun, ?_, Fr.trans hr hk hg⟩
        have hsz := size_grown (z := z) hzs hge (l := xs' ++ ys') (by rw [List.length_append, hxl, hyl, Nat.add_mul]) hlist
        exact grown_V hge (Nat.le_of_eq hsz.symm)
    · simp at he

/-- append(nil, make(..)...) -/
theorem snd_appz (hr : HRel κ θ rows w) (hlow : low ≤ rows.length) {t u ty e : TypeId} (hu : P.underlying t = some (.slice e)) {k : IntKind} (hu2 : P.underlying u = some (.int k)) {i : TypeInfo} (hi : P.info? e = some i) {z : Value} (hz : i.zero = some z) (hzs : (cv z).cells.length = 1) (hz1 : (cv z).cells.all AV.one = true) (hsz : i.size = 1) (hby : i.bytes ≤ 1024)
    {s x : Opd} {g : Opd → AV} {s' x' : Value} (hs : V θ (g s) s') (hx : V θ (g x) x') {v : AV} {rows' : List Row} {low' : Nat} (he : evalE g rows low (.appz (cv z).cells s x) = some (v, rows', low')) :
    ∃ θ' w' v', (Builtin.append_ #[t, u] ty #[s', x']).run P w = .ok v' w' ∧ V θ' v v' ∧ Fr κ θ θ' rows rows' low low' w w' := by
  simp only [evalE] at he
  split at he
  case h_2 => simp at he
  rename_i k' n e1 e2
  split at he
  case isFalse => simp at he
  rename_i hc
  obtain ⟨h0, h1⟩ := hc
  simp only [Option.some.injEq, Prod.mk.injEq] at he
  obtain ⟨rfl, rfl, rfl⟩ := he
  rw [e1] at hs
  rw [e2] at hx
  cases hs
  cases hx
  have hzV := cv_cells (θ := θ) z hz1
  have hzl : z.cells.size = 1 := by have := hzV.1; simp at this; omega
  have hn1 : n ≤ 1073741824 := by unfold lim at h1; omega
  have w1 : IntKind.i64.wrap n = n := by simp [IntKind.wrap, IntKind.min, IntKind.max, IntKind.signed, IntKind.bits]; omega
  obtain ⟨m, rfl⟩ : ∃ m : Nat, n = m := ⟨n.toNat, by omega⟩
  have hm0 : m ≠ 0 := by omega
  have hm : 0 < m := by omega
  have hge := grownCap_ge w m 0 e
  have hb : m * i.bytes ≤ 1073741824 * 1024 := Nat.mul_le_mul (by omega) hby
  have hb2 : ¬ (281474976710656 < (m : Int) * (i.bytes : Int)) := by
    have : (m : Int) * (i.bytes : Int) = ((m * i.bytes : Nat) : Int) := by simp
    omega
  have h48 : ¬ (281474976710656 < Builtin.nextslicecap m 0 * i.bytes) := by rw [nextslicecap_zero hm]; omega
  have h63 : ¬ (9223372036854775807 < (m : Int)) := by omega
  have hrun : (Builtin.append_ #[t, u] ty #[.slice none 0 0, .int k' m]).run P w =
      .ok (.slice (some ⟨w.heap.size, 0, none⟩) m (grownCap w m 0 e)) (w.drew.alloc (.cells (Builtin.zeroCells z.cells m ++ Builtin.zeroCells z.cells (grownCap w m 0 e - m)) e)) := by
    simp [Builtin.append_, run_underlying hu, run_underlying hu2, sizeOf, typeInfo, zeroValue, hi, hz, hsz, asInt, asIntOf, w1, hm0, hb2, h48, h63, Question.forced, run_firstCells_none, newRow, grownCap]
    intro h; omega
  have hzc : Builtin.zeroCells z.cells m = (Array.range (m * (cv z).cells.length)).map (z.cells[· % z.cells.size]!) := by
    unfold Builtin.zeroCells
    rw [hzl, hzs]
  have hvl := zeros_V hzV m (by omega)
  rw [← hzc] at hvl
  have hall : ((List.replicate m (cv z).cells).flatten).all AV.one = true := by
    refine List.all_eq_true.2 fun x hx => ?_
    obtain ⟨l, hl, hx⟩ := List.mem_flatten.1 hx
    rw [(List.mem_replicate.1 hl).2] at hx
    exact List.all_eq_true.1 hz1 x hx
  refine ⟨_, _, _, hrun, ?_, grown_Fr hr hlow hvl (ones_of hvl hall) (Builtin.zeroCells z.cells (grownCap w m 0 e - m)) e _ (by simp)⟩
  have hsz2 : (Builtin.zeroCells z.cells m ++ Builtin.zeroCells z.cells (grownCap w m 0 e - m)).size = grownCap w m 0 e * 1 := by
    rw [Array.size_append, size_zeroCells, size_zeroCells, hzl]; omega
  have := grown_V (θ := θ) (rows := rows) (B := w.heap.size) (n := 0) (m := m) (sz := 1) (c := grownCap w m 0 e) (top := (Builtin.zeroCells z.cells m ++ Builtin.zeroCells z.cells (grownCap w m 0 e - m)).size) (by omega) (by omega)
  simpa using this
end ops
end Go.Abs
/- The soundness of the operations that make or write memory: the theorem. -/
namespace Go.Abs
variable {κ : KRel}
section ops
variable {P : Program} {gl : List Nat} {θ : Th} {rows : List Row} {w : World} {sl : List AV} {a : Act} {low : Nat}

theorem splice_one (vs : List AV) (off : Nat) (x : AV) (h : off < vs.length) : splice vs off [x] = vs.set off x := by
  unfold splice
  rw [List.set_eq_take_append_cons_drop, if_pos h]
  simp

theorem sameBits_self (k : IntKind) (n : Int) : Instr.sameBits 10000 (.int k n) (.int k n) = true := by simp [Instr.sameBits]

theorem snd_mset (hr : HRel κ θ rows w) {t kt e : TypeId} {ik : IntKind} (hu : P.underlying t = some (.map kt e)) (hk : P.underlying kt = some (.int ik)) {m k x : AV} {m' k' x' : Value} (hm : V θ m m') (hkV : V θ k k') (hx : V θ x x')
    {id : Nat} (em : m = .map id) {es : List (AV × AV)} (hid : rows[id]? = some (.mp es)) {r : Option (Nat × AV)} (hf : findK k es 0 = some r) (hself : r = none → (keyEq k k).isSome = true) :
    ∃ w', (Instr.mapUpdate t m' k' x').run P w = .ok () w' ∧ Fr κ θ θ rows (rows.set id (.mp (match r with | some (i, _) => es.set i (k, x) | none => es ++ [(k, x)]))) low (lower low id) w w' := by
  subst em
  cases hm with
  | map hL =>
  rename_i L
  obtain ⟨L', es', clock, hL', hb, hsz, hes⟩ := hr.row id _ hid
  rw [hL] at hL'; injection hL' with hL'; subst hL'
  have key := findK_sound (θ := θ) (kt := .int ik) rfl hkV es es'.toList 0 r (by simpa using hsz) (fun j e h => by simpa using hes j e h) hf
  have hchk : (Instr.checkKey false 10000 kt k').run P w = .ok () w := by
    have : ∀ d, (Instr.checkKey false (d + 1) kt k').run P w = .ok () w := fun d => by simp [Instr.checkKey, run_underlying hk]
    exact this 9999
  have hlt : L.b < w.heap.size := hr.blk id L hL
  have fr : ∀ (es2 : Array MapEntry) (cl2 : Nat) (l2 : List (AV × AV)), es2.size = l2.length → (∀ (i : Nat) (e : AV × AV), l2[i]? = some e → ∃ e', es2[i]? = some e' ∧ V θ e.1 e'.key ∧ V θ e.2 e'.val) →
      Fr κ θ θ rows (rows.set id (.mp l2)) low (lower low id) w { w with heap := w.heap.setIfInBounds L.b (.map es2 cl2) } := fun es2 cl2 l2 h1 h2 =>
    Fr.setrow (w' := { w with heap := w.heap.setIfInBounds L.b (.map es2 cl2) }) hr low hid rfl hL (by simp) (fun k hk => by simp only; rw [Array.getElem?_setIfInBounds, if_neg (fun h => hk h.symm)]) rfl rfl rfl (.mp l2)
      ⟨L, es2, cl2, hL, by simp [Array.getElem?_setIfInBounds, hlt], h1, h2⟩ rfl
  cases r with
  | some p =>
    obtain ⟨j, v1⟩ := p
    obtain ⟨v', f1, f2, _, f3, ⟨ik2, n, hk2⟩, e', f4, f5⟩ := key
    simp only [Nat.sub_zero] at f4
    have f4' : es'[j]? = some e' := by simpa using f4
    refine ⟨_, ?_, fr (es'.modify j fun e => { e with key := k', val := x' }) clock (es.set j (k, x)) (by simp [hsz]) ?_⟩
    · subst hk2
      simp [Instr.mapUpdate, run_underlying hu, getObj, setObj, Sem.run, hb, hchk, Instr.findKey, run_underlying hk, f1, f4', f5, Instr.keyThatStays, sameBits_self]
    · intro i e he
      rw [List.getElem?_set] at he
      rw [Array.getElem?_modify]
      split at he
      · rename_i q
        subst q
        split at he
        · injection he with he
          subst he
          exact ⟨_, by simp [f4']; rfl, hkV, hx⟩
        · simp at he
      · rename_i q
        obtain ⟨e2, g1, g2, g3⟩ := hes i e he
        exact ⟨e2, by simp [q, g1], g2, g3⟩
  | none =>
    obtain ⟨b, hb2⟩ := Option.isSome_iff_exists.1 (hself rfl)
    refine ⟨_, ?_, fr (es'.push { key := k', val := x', born := clock }) (clock + 1) (es ++ [(k, x)]) (by simp [hsz]) ?_⟩
    · simp only [] at key
      simp [Instr.mapUpdate, run_underlying hu, getObj, setObj, Sem.run, hb, hchk, Instr.findKey, run_underlying hk, key]
    · intro i e he
      rw [getElem?_snoc] at he
      rw [Array.getElem?_push, hsz]
      split at he
      · rename_i q
        injection he with he
        subst he
        exact ⟨_, by simp [q]; rfl, hkV, hx⟩
      · rename_i q
        obtain ⟨e2, g1, g2, g3⟩ := hes i e he
        exact ⟨e2, by rw [if_neg q]; exact g1, g2, g3⟩

theorem eff_value {s : Sem Value} {o : Oper} (he : execOp a.eval o = (do pure (Next.value (← s)))) {θ' : Th} {w' : World} {v' : Value} {v : AV} {rows' : List Row} {low' : Nat} (h : s.run P w = .ok v' w') (hv : V θ' v v') (hf : Fr κ θ θ' rows rows' low low' w w') : Eff κ P θ rows low w a o v rows' low' :=
  ⟨θ', w', .value v', v', by rw [he, Sem.run_bind, h]; rfl, .inl rfl, hv, hf⟩
theorem eff_unit {s : Sem Unit} {o : Oper} (he : execOp a.eval o = (do s; pure Next.skip)) {w' : World} {rows' : List Row} {low' : Nat} (h : s.run P w = .ok () w') (hf : Fr κ θ θ rows rows' low low' w w') : Eff κ P θ rows low w a o (.tup []) rows' low' :=
  ⟨θ, w', .skip, undef, by rw [he, Sem.run_bind, h]; rfl, .inr ⟨rfl, rfl⟩, V_undef θ, hf⟩

theorem evalE_sound {o : Oper} {io : IOp} (hc : cop P gl o = some io) (hne : ∀ f args, io ≠ .call f args) {v : AV} {rows' : List Row} {low' : Nat} (he : evalE (getO sl) rows low io = some (v, rows', low')) (hr : HRel κ θ rows w) (hg : GRel θ gl) (hs : SRel θ sl a.tmps)
    (hlow : low ≤ rows.length) : Eff κ P θ rows low w a o v rows' low' := by
  have pure_case : evalE (getO sl) rows low io = (evalP rows (getO sl) io).map (fun v => (v, rows, low)) → Eff κ P θ rows low w a o v rows' low' := by
    intro h
    rw [h] at he
    simp only [Option.map_eq_some_iff, Prod.mk.injEq] at he
    obtain ⟨v0, h0, rfl, rfl, rfl⟩ := he
    obtain ⟨v', h1, h2⟩ := evalP_sound hc h0 hr hg hs
    exact ⟨θ, w, _, v', h1, .inl rfl, h2, Fr.refl hr low⟩
  obtain ⟨dst, op, ty, pos, aft, gd⟩ := o
  cases op <;> simp only [cop, reduceCtorEq] at hc
  case alloc t =>
    simp only [Option.map_eq_some_iff] at hc
    obtain ⟨z, hz, rfl⟩ := hc
    simp only [evalE] at he
    split at he
    case isFalse => simp at he
    rename_i h1
    simp only [Option.some.injEq, Prod.mk.injEq] at he
    obtain ⟨rfl, rfl, rfl⟩ := he
    obtain ⟨i, z', hi, hzz, rfl⟩ := zeroT_info hz
    simp only [getO] at h1
    obtain ⟨θ', w', r1, r2, r3⟩ := snd_box (P := P) hr hlow (cv_V θ z') h1 t
    refine eff_value (s := Instr.alloc t true (.tuple #[])) rfl ?_ r2 r3
    simpa [Instr.alloc, Instr.box, zeroValue, typeInfo, hi, hzz] using r1
  case box t x =>
    injection hc with hc; subst hc
    simp only [evalE] at he
    split at he
    case isFalse => simp at he
    rename_i h1
    simp only [Option.some.injEq, Prod.mk.injEq] at he
    obtain ⟨rfl, rfl, rfl⟩ := he
    obtain ⟨θ', w', r1, r2, r3⟩ := snd_box (P := P) hr hlow (opd_V hg hs x) h1 t
    exact eff_value (s := Instr.box t (a.eval x)) rfl r1 r2 r3
  case buildSlice t len ps =>
    split at hc
    · rename_i e hu
      split at hc
      · rename_i n z hn hz
        split at hc
        · rename_i hcond
          obtain ⟨c1, c2, c3, c4⟩ := hcond
          injection hc with hc; subst hc
          simp only [evalE] at he
          split at he
          case h_2 => simp at he
          rename_i cs hcs
          simp only [Option.some.injEq, Prod.mk.injEq] at he
          obtain ⟨rfl, rfl, rfl⟩ := he
          obtain ⟨i, z', hi, hzz, rfl⟩ := zeroT_info hz
          have hzV := cv_cells (θ := θ) z' c4
          have hzl : z'.cells.size = n := by have := hzV.1; simp at this; omega
          have hz0 := zeros_V hzV len (by omega)
          obtain ⟨cs', f1, f2⟩ := fillA_sound hg hs _ _ ps.toList _ cs _ (PL_eplaces (gl := gl) n ps.toList) hcs hz0
          have hone : ∀ u ∈ cs'.toList, u.oneCell' = true := by
            have hall : cs.all AV.one = true := by
              have gen : ∀ (l : List (Nat × Nat × Opd)) (z0 c0 : List AV), z0.all AV.one = true → fillA (getO sl) l z0 = some c0 → c0.all AV.one = true := by
                intro l
                induction l with
                | nil => intro z0 c0 h0 h1; simp only [fillA, Option.some.injEq] at h1; subst h1; exact h0
                | cons p l ih =>
                  intro z0 c0 h0 h1
                  obtain ⟨off, size, x⟩ := p
                  simp only [fillA] at h1
                  split at h1
                  · rename_i hq
                    refine ih _ _ ?_ h1
                    unfold splice
                    simp only [List.all_append, Bool.and_eq_true]
                    refine ⟨⟨?_, hq.2.2⟩, ?_⟩
                    · exact List.all_eq_true.2 fun x hx => List.all_eq_true.1 h0 x (List.mem_of_mem_take hx)
                    · exact List.all_eq_true.2 fun x hx => List.all_eq_true.1 h0 x (List.mem_of_mem_drop hx)
                  · simp at h1
              refine gen _ _ _ ?_ hcs
              refine List.all_eq_true.2 fun x hx => ?_
              obtain ⟨l, hl, hx⟩ := List.mem_flatten.1 hx
              rw [(List.mem_replicate.1 hl).2] at hx
              exact List.all_eq_true.1 c4 x hx
            exact ones_of f2 hall
          refine eff_value (θ' := θ.add rows.length ⟨w.heap.size, 0, cs'.size⟩) (w' := { w with heap := w.heap.push (.cells cs' e) }) (s := Instr.buildSlice t len (ps.map fun (i, x) => (i, a.eval x))) rfl (v' := .slice (some ⟨w.heap.size, 0, none⟩) len len) ?_ ?_ (eff_alloc hr hlow f2 hone e)
          · have hsz : ¬ (16777216 < len * n) := by omega
            rw [c2] at f1
            by_cases h0 : len * n = 0
            · have hl0 : len = 0 := by
                rcases Nat.mul_eq_zero.1 h0 with h | h
                · exact h
                · omega
              subst hl0
              have hr0 : Array.range 0 = #[] := rfl
              simp [hr0] at f1
              simp [Instr.buildSlice, run_underlying hu, run_szT hn, newRow, newObj, Sem.run, hr0, f1]
            · simp at f1
              simp [Instr.buildSlice, run_underlying hu, run_szT hn, hsz, h0, zeroValue, typeInfo, hi, hzz, newRow, newObj, Sem.run, f1]
          · have := V.sliceAt (id := rows.length) (off := 0) (len := len) (c := len) (o := 0) (Th.add_self θ rows.length ⟨w.heap.size, 0, cs'.size⟩) (fun _ => rfl) (Nat.le_refl _)
            simpa using this
        · simp at hc
      · simp at hc
    · simp at hc
  case store t x y =>
    split at hc
    · rename_i n hag hn
      injection hc with hc; subst hc
      simp only [evalE] at he
      split at he
      case h_2 => simp at he
      rename_i id off l ex ey
      split at he
      case h_2 => simp at he
      rename_i vs hid
      split at he
      case isFalse => simp at he
      rename_i hcond
      obtain ⟨c1, c2, c3⟩ := hcond
      simp only [Option.some.injEq, Prod.mk.injEq] at he
      obtain ⟨rfl, rfl, rfl⟩ := he
      have hx := opd_V hg hs x
      have hy := opd_V hg hs y
      rw [ey] at hy
      generalize hq : a.eval y = y' at *
      cases hy with
      | agg p q =>
      rename_i l'
      have hl : VL θ l l' := ⟨p, q⟩
      obtain ⟨w', r1, r2⟩ := snd_storeN (P := P) (low := low) hr hx ex hl (x' := .agg l'.toArray) (by simp [Value.cells]) (by rw [c1]; exact hn) hid (by omega) (ones_of hl c3)
      exact eff_unit (s := Instr.storeAt t (a.eval x) (a.eval y)) rfl (by rw [hq]; exact r1) r2
    · rename_i n hag hn
      split at hc
      · rename_i hn1
        subst hn1
        injection hc with hc; subst hc
        simp only [evalE] at he
        split at he
        case h_2 => simp at he
        rename_i id off ex
        split at he
        case h_2 => simp at he
        rename_i vs hid
        split at he
        case isFalse => simp at he
        rename_i hcond
        obtain ⟨c1, c2⟩ := hcond
        simp only [Option.some.injEq, Prod.mk.injEq] at he
        obtain ⟨rfl, rfl, rfl⟩ := he
        have hx := opd_V hg hs x
        have hy := opd_V hg hs y
        obtain ⟨o1, o2⟩ := V.oneCell hy c2
        have hl : VL θ [getO sl (co gl y)] [a.eval y] := VL.cons hy (VL.nil θ)
        obtain ⟨w', r1, r2⟩ := snd_storeN (P := P) (low := low) hr hx ex hl (by rw [o2]) hn hid (by simp; omega) (by simpa using o1)
        rw [splice_one _ _ _ c1] at r2
        exact eff_unit (s := Instr.storeAt t (a.eval x) (a.eval y)) rfl r1 r2
      · simp at hc
    · simp at hc
  case makeMap t r =>
    cases r with
    | some r => simp at hc
    | none =>
      injection hc with hc; subst hc
      simp only [evalE, Option.some.injEq, Prod.mk.injEq] at he
      obtain ⟨rfl, rfl, rfl⟩ := he
      have hf := Fr.push (w' := { w with heap := w.heap.push (.map #[] 0) }) hr low hlow (.map #[] 0) rfl rfl rfl rfl 0 0 (.mp []) ⟨_, #[], 0, Th.add_self _ _ _, by simp, rfl, fun i e h => by simp at h⟩ rfl
      refine eff_value (s := Instr.makeMap t none) rfl (v' := .map (some w.heap.size)) ?_ ?_ hf
      · simp [Instr.makeMap, newObj, Sem.run]
      · exact V.map (Th.add_self θ rows.length ⟨w.heap.size, 0, 0⟩)
  case makeSlice t l c =>
    split at hc
    · rename_i e hu
      split at hc
      · rename_i n z b hn hz hb
        split at hc
        · rename_i hcond
          obtain ⟨c1, c2, c3, c4⟩ := hcond
          injection hc with hc; subst hc
          simp only [evalE] at he
          split at he
          case h_2 => simp at he
          rename_i k1 m1 k2 m2 e1 e2
          split at he
          case isFalse => simp at he
          rename_i hcc
          obtain ⟨d1, d2, d3⟩ := hcc
          simp only [Option.some.injEq, Prod.mk.injEq] at he
          obtain ⟨rfl, rfl, rfl⟩ := he
          have hl := opd_V hg hs l
          have hcV := opd_V hg hs c
          rw [e1] at hl; rw [e2] at hcV
          obtain ⟨i, z', hi, hzz, rfl⟩ := zeroT_info hz
          have hzV := cv_cells (θ := θ) z' c3
          have hz0 := zeros_V hzV m2.toNat (by omega)
          have hsz : i.size = n := by obtain ⟨j, hj, hjs⟩ := szT_info hn; rw [hi] at hj; injection hj with hj; rw [hj]; exact hjs
          have hby : i.bytes = b := by
            unfold bytesT at hb
            simp [hi] at hb
            exact hb
          have hall : ((List.replicate m2.toNat (cv z').cells).flatten).all AV.one = true := by
            refine List.all_eq_true.2 fun x hx => ?_
            obtain ⟨l, hl, hx⟩ := List.mem_flatten.1 hx
            rw [(List.mem_replicate.1 hl).2] at hx
            exact List.all_eq_true.1 c3 x hx
          refine eff_value (s := Instr.makeSlice t (a.eval l) (a.eval c)) rfl (v' := .slice (some ⟨w.heap.size, 0, none⟩) m1.toNat m2.toNat) ?_ ?_ (eff_alloc hr hlow hz0 (ones_of hz0 hall) e)
          · generalize hq1 : a.eval l = l' at *
            generalize hq2 : a.eval c = c' at *
            cases hl; cases hcV
            have hm2 : m2 ≤ 1073741824 := by unfold lim at d3; omega
            have w1 : IntKind.i64.wrap m1 = m1 := by simp [IntKind.wrap, IntKind.min, IntKind.max, IntKind.signed, IntKind.bits]; omega
            have w2 : IntKind.i64.wrap m2 = m2 := by simp [IntKind.wrap, IntKind.min, IntKind.max, IntKind.signed, IntKind.bits]; omega
            have hb2 : (i.bytes : Int) * m2 ≤ 281474976710656 := by
              have h1 : (i.bytes : Int) * m2 ≤ 1024 * m2 := Int.mul_le_mul_of_nonneg_right (by omega) (by omega)
              omega
            have hb1 : (i.bytes : Int) * m1 ≤ 281474976710656 := by
              have h1 : (i.bytes : Int) * m1 ≤ 1024 * m1 := Int.mul_le_mul_of_nonneg_right (by omega) (by omega)
              omega
            have hroom : ¬ (roomBytes < m2.toNat * i.bytes) := by
              have : m2.toNat * i.bytes ≤ 1073741824 * 1024 := Nat.mul_le_mul (by omega) (by omega)
              unfold roomBytes
              omega
            have hn1 : i.size = 1 := by omega
            by_cases hm0 : m2.toNat = 0
            · have e0 : m2 = 0 := by omega
              subst e0
              have e0 : m1 = 0 := by omega
              subst e0
              simp [Instr.makeSlice, run_underlying hu, asInt, asIntOf, typeInfo, hi, w1, askRoom, roomBytes, sizeOf, newRow, newObj, Sem.run, show Array.range 0 = #[] from rfl]
            · have hz1 : z'.cells.size = 1 := by have := hzV.1; simp at this; omega
              simp [Instr.makeSlice, run_underlying hu, asInt, asIntOf, typeInfo, hi, w1, w2, d1, d2, hb1, hb2, askRoom, hroom, sizeOf, hn1, hm0, zeroValue, hzz, newRow, newObj, Sem.run, c1, c2]
              omega
          · have := V.sliceAt (id := rows.length) (off := 0) (len := m1.toNat) (c := m2.toNat) (o := 0) (Th.add_self θ rows.length ⟨w.heap.size, 0, ((Array.range (m2.toNat * (cv z').cells.length)).map (z'.cells[· % z'.cells.size]!)).size⟩) (fun _ => rfl) (by omega)
            simpa using this
        · simp at hc
      · simp at hc
    · simp at hc
  case mapUpdate t m k x =>
    split at hc
    · rename_i kt e hu
      split at hc
      · rename_i ik hk
        injection hc with hc; subst hc
        simp only [evalE] at he
        split at he
        case h_2 => simp at he
        rename_i id em
        split at he
        case h_2 => simp at he
        rename_i es hid
        have hm := opd_V hg hs m
        have hkV := opd_V hg hs k
        have hx := opd_V hg hs x
        split at he
        · rename_i i v1 hf
          simp only [Option.some.injEq, Prod.mk.injEq] at he
          obtain ⟨rfl, rfl, rfl⟩ := he
          obtain ⟨w', r1, r2⟩ := snd_mset (P := P) (low := low) hr hu hk hm hkV hx em hid hf (fun h => by simp at h)
          exact eff_unit (s := Instr.mapUpdate t (a.eval m) (a.eval k) (a.eval x)) rfl r1 r2
        · rename_i hf
          split at he
          case isFalse => simp at he
          rename_i hself
          simp only [Option.some.injEq, Prod.mk.injEq] at he
          obtain ⟨rfl, rfl, rfl⟩ := he
          obtain ⟨w', r1, r2⟩ := snd_mset (P := P) (low := low) hr hu hk hm hkV hx em hid hf (fun _ => hself)
          exact eff_unit (s := Instr.mapUpdate t (a.eval m) (a.eval k) (a.eval x)) rfl r1 r2
        · simp at he
      · simp at hc
    · simp at hc
  case call c =>
    obtain ⟨callee, args, ats⟩ := c
    cases callee with
    | value f => simp only [Option.some.injEq] at hc; subst hc; exact absurd rfl (hne _ _)
    | invoke r m => simp at hc
    | builtin b =>
      cases b <;> simp only [reduceCtorEq] at hc
      case append =>
        split at hc
        · rename_i t u s x ht hu0 hs0 hx0
          split at hc
          · rename_i e e2 hu hu2
            split at hc
            · simp at hc
            rename_i htu
            have htu : t = u := by simpa using htu
            subst htu
            split at hc
            · rename_i n b z hn hb hz
              split at hc
              · rename_i hcond
                obtain ⟨c1, c2, c3, c4⟩ := hcond
                injection hc with hc; subst hc
                obtain ⟨i, z', hi, hzz, rfl⟩ := zeroT_info hz
                have hsz : i.size = n := by obtain ⟨j, hj, hjs⟩ := szT_info hn; rw [hi] at hj; injection hj with hj; rw [hj]; exact hjs
                have hby : i.bytes = b := by
                  unfold bytesT at hb
                  simp [hi] at hb
                  exact hb
                have hzV := cv_cells (θ := θ) z' c4
                have hzs : z'.cells.size = i.size := by have := hzV.1; simp at this; omega
                subst hsz
                obtain ⟨θ', w', v', r1, r2, r3⟩ := snd_app (P := P) (ty := ty) hr hlow hu hi hzz hzs c2 (by omega) (opd_V hg hs s) (opd_V hg hs x) he
                refine eff_value (s := Builtin.append_ ats ty (args.map a.eval)) (by simp [execOp, resolve, invoke, builtin]) ?_ r2 r3
                have e1 : (args.map a.eval)[0]? = some (a.eval s) := by simp [hs0]
                have e2 : (args.map a.eval)[1]? = some (a.eval x) := by simp [hx0]
                rw [← r1]
                unfold Builtin.append_
                rw [ht, hu0, e1, e2]
                rfl
              · simp at hc
            · simp at hc
          · rename_i e k2 hu hu2
            split at hc
            · rename_i n b z hn hb hz
              split at hc
              · rename_i hcond
                obtain ⟨c1, c2, c3, c4⟩ := hcond
                injection hc with hc; subst hc
                obtain ⟨i, z', hi, hzz, rfl⟩ := zeroT_info hz
                have hsz : i.size = n := by obtain ⟨j, hj, hjs⟩ := szT_info hn; rw [hi] at hj; injection hj with hj; rw [hj]; exact hjs
                have hby : i.bytes = b := by
                  unfold bytesT at hb
                  simp [hi] at hb
                  exact hb
                obtain ⟨θ', w', v', r1, r2, r3⟩ := snd_appz (P := P) (ty := ty) hr hlow hu hu2 hi hzz c3 c4 (by omega) (by omega) (opd_V hg hs s) (opd_V hg hs x) he
                refine eff_value (s := Builtin.append_ ats ty (args.map a.eval)) (by simp [execOp, resolve, invoke, builtin]) ?_ r2 r3
                have e1 : (args.map a.eval)[0]? = some (a.eval s) := by simp [hs0]
                have e2 : (args.map a.eval)[1]? = some (a.eval x) := by simp [hx0]
                rw [← r1]
                unfold Builtin.append_
                rw [ht, hu0, e1, e2]
                rfl
              · simp at hc
            · simp at hc
          · simp at hc
        · simp at hc
      all_goals
        refine pure_case ?_
        repeat' split at hc
        all_goals first
          | (simp at hc; done)
          | (injection hc with hc; subst hc; rfl)
          | (simp only [Option.map_eq_some_iff] at hc; obtain ⟨_, _, rfl⟩ := hc; rfl)
  case makeFunc fn fi cs =>
    cases fn <;> simp only [reduceCtorEq] at hc
    split at hc
    · injection hc with hc; subst hc; exact pure_case rfl
    · simp at hc
  all_goals
    refine pure_case ?_
    repeat' split at hc
    all_goals first
      | (simp at hc; done)
      | (injection hc with hc; subst hc; rfl)
      | (simp only [Option.map_eq_some_iff] at hc; obtain ⟨_, _, rfl⟩ := hc; rfl)
end ops
end Go.Abs
/- What is left behind a call. -/
namespace Go.Abs
variable {κ : KRel}

theorem idsL_mem {l : List AV} {i : Nat} {x : AV} (h : l[i]? = some x) {j : Nat} (hj : j ∈ x.ids) : j ∈ AV.ids.idsL l := by
  induction l generalizing i with
  | nil => simp at h
  | cons y l ih =>
    simp only [AV.ids.idsL, List.mem_append]
    cases i with
    | zero => simp at h; subst h; exact .inl hj
    | succ i => exact .inr (ih (by simpa using h))

theorem V.to {θ θ' : Th} {v : AV} {v' : Value} (h : V θ v v') : (∀ id ∈ v.ids, ∀ L, θ id = some L → θ' id = some L) → V θ' v v' := by
  induction h with
  | bool b => intro _; exact .bool b
  | int k n => intro _; exact .int k n
  | str s => intro _; exact .str s
  | ptr e => intro h; exact .ptr (h _ (by simp [AV.ids]) _ e)
  | nilptr => intro _; exact .nilptr
  | sliceAt e a b => intro h; exact .sliceAt (h _ (by simp [AV.ids]) _ e) a b
  | sliceOp e a b c => intro h; exact .sliceOp (h _ (by simp [AV.ids]) _ e) a b c
  | nilslice => intro _; exact .nilslice
  | map e => intro h; exact .map (h _ (by simp [AV.ids]) _ e)
  | nilmap => intro _; exact .nilmap
  | func a _ ih => intro h; exact .func a (fun i x x' p q => ih i x x' p q (fun id hid => h id (by simp only [AV.ids]; exact idsL_mem p hid)))
  | yield e => intro h; exact .yield (h _ (by simp [AV.ids]) _ e)
  | nilfunc => intro _; exact .nilfunc
  | niliface => intro _; exact .niliface
  | iface _ ih => intro h; exact .iface (ih h)
  | agg a _ ih => intro h; exact .agg a (fun i x x' p q => ih i x x' p q (fun id hid => h id (by simp only [AV.ids]; exact idsL_mem p hid)))
  | tup a _ ih => intro h; exact .tup a (fun i x x' p q => ih i x x' p q (fun id hid => h id (by simp only [AV.ids]; exact idsL_mem p hid)))
  | any v' => intro _; exact .any v'

theorem Fr.weaken {θ θ' : Th} {rows rows' : List Row} {low low' low2 low2' : Nat} {w w' : World} (h : Fr κ θ θ' rows rows' low low' w w') (h1 : low2' ≤ low') (h2 : low2' ≤ low2) : Fr κ θ θ' rows rows' low2 low2' w w' where
  ext := h.ext
  rel := h.rel
  len := h.len
  low := h2
  os := h.os
  tape := h.tape
  output := h.output
  size := h.size
  keepA := fun id hi => h.keepA id (Nat.lt_of_lt_of_le hi h1)
  keepB := fun b hb hn => h.keepB b hb (fun id r L a o c d => hn id r L a o (Nat.le_trans h1 c) d)
  own := h.own
  alive := h.alive
  fresh := fun id L a e => let ⟨p, q⟩ := h.fresh id L a e
    ⟨p, q.imp (fun x => x) (fun ⟨j, r, L', a, b, c, d⟩ => ⟨j, r, L', a, b, Nat.le_trans h1 c, d⟩)⟩

section
variable {θ θ' : Th} {rows rows' : List Row} {w w' : World}

/-- Nothing old was touched: all old blocks are as they were. -/
theorem Fr.clean (hr : HRel κ θ rows w) (h : Fr κ θ θ' rows rows' rows.length rows.length w w') (b : Nat) (hb : b < w.heap.size) : w'.heap[b]? = w.heap[b]? :=
  h.keepB b hb (fun id r L a o c d => by
    have := (List.getElem?_eq_some_iff.1 a).1
    omega)

theorem Fr.drop (hr : HRel κ θ rows w) (h : Fr κ θ θ' rows rows' rows.length rows.length w w') (low : Nat) : Fr κ θ θ rows rows low low w w' where
  ext := Ext.refl _
  rel := ⟨hr.dom, fun id L e => Nat.lt_of_lt_of_le (hr.blk id L e) h.size, fun id r e => (hr.row id r e).mono (Ext.refl _) (fun L hL => Fr.clean hr h _ (hr.blk id L hL)), hr.inj⟩
  len := Nat.le_refl _
  low := Nat.le_refl _
  os := h.os
  tape := h.tape
  output := h.output
  size := h.size
  keepA := fun _ _ => rfl
  keepB := fun b hb _ => Fr.clean hr h b hb
  own := fun id r a b _ => ⟨r, a, b⟩
  alive := fun id r a b _ => ⟨r, a, b⟩
  fresh := fun id L a b => by rw [a] at b; simp at b

theorem ext_back (hr : HRel κ θ rows w) {low low' : Nat} (h : Fr κ θ θ' rows rows' low low' w w') {id : Nat} (hid : id < rows.length) {L : Loc} (hL : θ' id = some L) : θ id = some L := by
  cases e : θ id with
  | some L0 =>
    have := h.ext id L0 e
    rw [hL] at this
    exact this.symm
  | none =>
    have := (h.fresh id L hL e).1
    omega

theorem V.ren_top {θ θ2 : Th} {i j : Nat} (hθ : ∀ L, θ i = some L → θ2 j = some L) {v : AV} {v' : Value} (hv : V θ v v') (hp : v.plain = true) (hin : ∀ id ∈ v.ids, id = i) : V θ2 (v.ren i j) v' := by
  cases hv with
  | @ptr id off L e =>
    have := hin id (by simp [AV.ids])
    subst this
    simp only [AV.ren, if_true]
    exact .ptr (hθ _ e)
  | @sliceAt id off len c o L e a b =>
    have := hin id (by simp [AV.ids])
    subst this
    simp only [AV.ren, if_true]
    exact .sliceAt (hθ _ e) a b
  | @sliceOp id off len sz c o L e a b c' =>
    have := hin id (by simp [AV.ids])
    subst this
    simp only [AV.ren, if_true]
    exact .sliceOp (hθ _ e) a b c'
  | bool b => exact .bool b
  | int k n => exact .int k n
  | str s => exact .str s
  | nilptr => exact .nilptr
  | nilslice => exact .nilslice
  | map e => simp [AV.plain, AV.ids] at hp
  | nilmap => exact .nilmap
  | yield e => simp [AV.plain, AV.ids] at hp
  | nilfunc => exact .nilfunc
  | niliface => exact .niliface
  | any v' => exact .any v'
  | @func f l l' a b =>
    have h0 : AV.ids.idsL l = [] := by simpa [AV.plain, AV.ids] using hp
    exact V.to (.func a b) (fun id hid2 => by have hid3 : id ∈ AV.ids.idsL l := hid2; rw [h0] at hid3; simp at hid3)
  | @iface t v v' a =>
    have h0 : AV.ids v = [] := by simpa [AV.plain, AV.ids] using hp
    exact V.to (.iface a) (fun id hid2 => by have hid3 : id ∈ v.ids := hid2; rw [h0] at hid3; simp at hid3)
  | @agg l l' a b =>
    have h0 : AV.ids.idsL l = [] := by simpa [AV.plain, AV.ids] using hp
    exact V.to (.agg a b) (fun id hid2 => by have hid3 : id ∈ AV.ids.idsL l := hid2; rw [h0] at hid3; simp at hid3)
  | @tup l l' a b =>
    have h0 : AV.ids.idsL l = [] := by simpa [AV.plain, AV.ids] using hp
    exact V.to (.tup a b) (fun id hid2 => by have hid3 : id ∈ AV.ids.idsL l := hid2; rw [h0] at hid3; simp at hid3)

theorem V.ren1_top {θ θ2 : Th} {i j : Nat} (hθ : ∀ L, θ i = some L → θ2 j = some L) {v : AV} {v' : Value} (hv : V θ v v') (hp : v.plain1 = true) (hin : ∀ id ∈ v.ids, id = i) : V θ2 (v.ren1 i j) v' := by
  cases v with
  | tup l =>
    cases hv with
    | tup a b =>
    rename_i l'
    refine .tup (by simpa using a) (fun k x x' p q => ?_)
    simp only [List.getElem?_map, Option.map_eq_some_iff] at p
    obtain ⟨y, p, rfl⟩ := p
    refine V.ren_top hθ (b k y x' p q) ?_ (fun id h => hin id (by simp only [AV.ids]; exact idsL_mem p h))
    simp only [AV.plain1, List.all_eq_true] at hp
    exact hp y (List.mem_of_getElem? p)
  | _ => exact V.ren_top hθ hv hp hin

theorem V.back {b : Nat} (hθ : ∀ id, id < b → ∀ L, θ' id = some L → θ id = some L) {v : AV} {v' : Value} (hv : V θ' v v') (hu : v.under b = true) : V θ v v' :=
  hv.to fun id hid L hL => hθ id (by simpa using List.all_eq_true.1 hu id hid) L hL
theorem VL.back {b : Nat} (hθ : ∀ id, id < b → ∀ L, θ' id = some L → θ id = some L) {l : List AV} {l' : List Value} (hv : VL θ' l l') (hu : l.all (AV.under b) = true) : VL θ l l' :=
  ⟨hv.1, fun i x x' a c => (hv.2 i x x' a c).back hθ (List.all_eq_true.1 hu x (List.mem_of_getElem? a))⟩
theorem RowRel.back {b : Nat} (hθ : ∀ id, id < b → ∀ L, θ' id = some L → θ id = some L) {id : Nat} {r : Row} (h : RowRel κ θ' id w r) (hu : r.under b = true) (hid : id < b) : RowRel κ θ id w r := by
  cases r with
  | cells vs =>
    obtain ⟨L, c, T, h1, h2, h3⟩ := h
    refine ⟨L, c, T, hθ _ hid _ h1, h2, h3.1, h3.2.1, fun j x hx => ?_⟩
    obtain ⟨x', p1, p2, p3⟩ := h3.2.2 j x hx
    exact ⟨x', p1, p2.back hθ (List.all_eq_true.1 hu x (List.mem_of_getElem? hx)), p3⟩
  | ro vs =>
    obtain ⟨L, h1, h2⟩ := h
    refine ⟨L, hθ _ hid _ h1, fun j x hx => ?_⟩
    obtain ⟨x', p1, p2, p3⟩ := h2 j x hx
    exact ⟨x', p1, p2.back hθ (List.all_eq_true.1 hu x (List.mem_of_getElem? hx)), p3⟩
  | mp es =>
    obtain ⟨L, es', cl, h1, h2, h3, h4⟩ := h
    refine ⟨L, es', cl, hθ _ hid _ h1, h2, h3, fun i e he => ?_⟩
    obtain ⟨e', p1, p2, p3⟩ := h4 i e he
    have := List.all_eq_true.1 hu e (List.mem_of_getElem? he)
    simp only [Bool.and_eq_true] at this
    exact ⟨e', p1, p2.back hθ this.1, p3.back hθ this.2⟩
  | loop st pend sl ps asg body =>
    obtain ⟨L, r, h1, h2, h3, h4, h5, h6, h7, h8⟩ := h
    exact ⟨L, r, hθ _ hid _ h1, h2, h3, h4, h5.back hθ hu, h6, h7, h8⟩
  | mark => exact h
  | dead => trivial

/-- The rows behind the first ones are dropped. -/
theorem gc_sound (hr : HRel κ θ rows w) {low low' : Nat} (h : Fr κ θ θ' rows rows' low low' w w') {v : AV} {v' : Value} (hv : V θ' v v') :
    ∃ θ2, V θ2 v v' ∧ Fr κ θ θ2 rows (gc rows.length low' v rows') low low' w w' := by
  unfold gc
  split
  case isFalse => exact ⟨θ', hv, h⟩
  rename_i hc
  simp only [Bool.and_eq_true] at hc
  obtain ⟨hc1, hc2⟩ := hc
  have hθ : ∀ id, id < rows.length → ∀ L, θ' id = some L → θ id = some L := fun id hid L hL => ext_back hr h hid hL
  have hget : ∀ id r, (rows'.take rows.length)[id]? = some r → id < rows.length ∧ rows'[id]? = some r := fun id r e => by
    rw [List.getElem?_take] at e
    split at e
    · exact ⟨by assumption, e⟩
    · simp at e
  refine ⟨θ, hv.back hθ hc1, Ext.refl _, ⟨fun id L e => ?_, fun id L e => Nat.lt_of_lt_of_le (hr.blk id L e) h.size, fun id r e => ?_, fun i j r s L L' hne hi ho hj hl hL hL' => ?_⟩, ?_, h.low, h.os, h.tape, h.output, h.size, fun id hid => ?_, h.keepB, fun id r a o hi => h.own id r (hget id r a).2 o hi, fun id r a o hi => h.alive id r (hget id r a).2 o hi, fun id L a b => by rw [a] at b; simp at b⟩
  · have := hr.dom id L e
    have := h.len
    simp; omega
  · obtain ⟨h1, h2⟩ := hget id r e
    rcases Nat.lt_or_ge id low' with hlt | hge
    · have hold : rows[id]? = some r := by rw [← h.keepA id hlt]; exact h2
      by_cases hd : r.live = true
      · exact (hr.row id r hold).mono (Ext.refl _) (fun L hL => h.keepB _ (hr.blk id L hL) (fun j s K a o c d hb => hr.inj j id s r K L (by omega) a o hold hd d hL hb))
      · have hdead : r = .dead := by cases r <;> simp_all [Row.live]
        subst hdead
        trivial
    · refine (h.rel.row id r h2).back hθ ?_ h1
      refine List.all_eq_true.1 hc2 r ?_
      refine List.mem_iff_getElem?.2 ⟨id - low', ?_⟩
      rw [List.getElem?_drop, show low' + (id - low') = id from by omega]
      exact e
  · exact h.rel.inj i j r s L L' hne (hget i r hi).2 ho (hget j s hj).2 hl (h.ext _ _ hL) (h.ext _ _ hL')
  · have := h.len; simp; omega
  · rw [← h.keepA id hid, List.getElem?_take]
    split
    · rfl
    · rename_i hge
      have := h.len
      have h0 : rows[id]? = none := List.getElem?_eq_none (by omega)
      rw [h.keepA id hid, h0]

theorem fin_sound (hr : HRel κ θ rows w) {low low' : Nat} (hlow : low ≤ rows.length) (h : Fr κ θ θ' rows rows' rows.length low' w w') {v : AV} {v' : Value} (hv : V θ' v v') :
    ∃ θ2, V θ2 (fin rows v rows' low').1 v' ∧ Fr κ θ θ2 rows (fin rows v rows' low').2.1 low (lowO low (fin rows v rows' low').2.2) w w' := by
  unfold fin
  split
  · rename_i hl
    subst hl
    have keep : ∃ θ2, V θ2 v v' ∧ Fr κ θ θ2 rows rows' low low w w' := ⟨θ', hv, h.weaken hlow (Nat.le_refl _)⟩
    split
    · rename_i hall
      refine ⟨θ, hv.to (fun id hid L hL => ext_back hr h ?_ hL), Fr.drop hr h low⟩
      simpa using List.all_eq_true.1 hall id hid
    · rename_i hall
      split
      · rename_i i hi
        split
        · rename_i vs hvs
          split
          · rename_i hc
            simp only [Bool.and_eq_true] at hc
            obtain ⟨hc1, hc2⟩ := hc
            have hge : rows.length ≤ i := by
              rw [hi] at hall
              simpa using hall
            obtain ⟨L, c, T, hL, hb, hcr⟩ := h.rel.row i _ hvs
            have hnone : θ i = none := by
              cases e : θ i with
              | none => rfl
              | some K => have := hr.dom i K e; omega
            have hnew : w.heap.size ≤ L.b := by
              rcases (h.fresh i L hL hnone).2 with f | ⟨j, r, L', a, _, b, _⟩
              · exact f
              · have := (List.getElem?_eq_some_iff.1 a).1
                omega
            have hE : Ext θ (θ.add rows.length L) := Th.ext_add hr.none_len L
            refine ⟨θ.add rows.length L, ?_, ?_⟩
            · refine V.ren1_top (θ := θ') (fun K hK => ?_) hv hc2 (fun id hid => by rw [hi] at hid; simpa using hid)
              rw [hL] at hK; injection hK with hK; subst hK; exact Th.add_self _ _ _
            · have hold : ∀ b, b < w.heap.size → w'.heap[b]? = w.heap[b]? := fun b hb => Fr.clean hr h b hb
              refine ⟨hE, ⟨?_, ?_, ?_, ?_⟩, by simp, Nat.le_refl _, h.os, h.tape, h.output, h.size, ?_, fun b hb _ => hold b hb, ?_, ?_, ?_⟩
              · intro id K e
                by_cases hi2 : id = rows.length
                · subst hi2; simp
                · rw [Th.add_ne _ _ hi2] at e
                  have := hr.dom id K e
                  simp; omega
              · intro id K e
                by_cases hi2 : id = rows.length
                · subst hi2; rw [Th.add_self] at e; injection e with e; subst e; exact h.rel.blk i L hL
                · rw [Th.add_ne _ _ hi2] at e
                  exact Nat.lt_of_lt_of_le (hr.blk id K e) h.size
              · intro id r e
                rw [getElem?_snoc] at e
                split at e
                · rename_i hi2
                  subst hi2
                  injection e with e
                  subst e
                  refine ⟨L, c, T, Th.add_self _ _ _, hb, hcr.1, hcr.2.1, fun j x hx => ?_⟩
                  obtain ⟨x', p1, p2, p3⟩ := hcr.2.2 j x hx
                  refine ⟨x', p1, p2.to (fun id hid => ?_), p3⟩
                  have hx0 : x.ids = [] := by
                    have := List.all_eq_true.1 hc1 x (List.mem_of_getElem? hx)
                    simpa using this
                  rw [hx0] at hid
                  simp at hid
                · exact (hr.row id r e).mono hE (fun K hK => hold _ (hr.blk id K hK))
              · intro p q r s K K' hne hp hpo hq hql hK hK'
                rw [getElem?_snoc] at hp hq
                by_cases e1 : p = rows.length
                · subst e1
                  rw [Th.add_self] at hK; injection hK with hK; subst hK
                  have e2 : q ≠ rows.length := fun e => hne e.symm
                  rw [Th.add_ne _ _ e2] at hK'
                  have := hr.blk q K' hK'
                  omega
                · rw [Th.add_ne _ _ e1] at hK
                  rw [if_neg e1] at hp
                  by_cases e2 : q = rows.length
                  · subst e2
                    rw [Th.add_self] at hK'; injection hK' with hK'; subst hK'
                    have := hr.blk p K hK
                    omega
                  · rw [Th.add_ne _ _ e2] at hK'
                    rw [if_neg e2] at hq
                    exact hr.inj p q r s K K' hne hp hpo hq hql hK hK'
              · intro id hid
                have : id < low := hid
                rw [getElem?_snoc, if_neg (by omega)]
              · intro id s e o hid
                rw [getElem?_snoc, if_neg (by omega)] at e
                exact ⟨s, e, o⟩
              · intro id s e o hid
                rw [getElem?_snoc, if_neg (by omega)] at e
                exact ⟨s, e, o⟩
              · intro id K e hn
                by_cases hi2 : id = rows.length
                · subst hi2; rw [Th.add_self] at e; injection e with e; subst e; exact ⟨Nat.le_refl _, .inl hnew⟩
                · rw [Th.add_ne _ _ hi2, hn] at e; simp at e
          · exact keep
        · exact keep
      · exact keep
  · rename_i hl
    obtain ⟨θ2, p, q⟩ := gc_sound hr h hv
    exact ⟨θ2, p, q.weaken (lower_le_id _ _) (lower_le _ _)⟩
end
end Go.Abs
/- A region whose order is drawn: the operations look at their own slots alone. -/
namespace Go.Abs

theorem getO_congr {sl sl' : List AV} {x : Opd} (h : ∀ t ∈ x.tmps, sl.getD t .any = sl'.getD t .any) : getO sl x = getO sl' x := by
  cases x with
  | t n => exact h n (by simp [Opd.tmps])
  | c v => rfl

theorem fillA_congr {g g' : Opd → AV} : ∀ (ps : List (Nat × Nat × Opd)) (cs : List AV), (∀ p ∈ ps, g p.2.2 = g' p.2.2) → fillA g ps cs = fillA g' ps cs
  | [], _, _ => rfl
  | (off, size, x) :: ps, cs, h => by
    have h0 : g x = g' x := h (off, size, x) (by simp)
    simp only [fillA, h0]
    split
    · exact fillA_congr ps _ (fun p hp => h p (by simp [hp]))
    · rfl

theorem optmap_congr {g g' : Opd → AV} {o : Option Opd} (h : ∀ x ∈ o.toList, g x = g' x) : o.map g = o.map g' := by
  cases o with
  | none => rfl
  | some x => simp [h x (by simp)]

theorem evalE_congr {g g' : Opd → AV} (rows : List Row) (low : Nat) (io : IOp) (h : ∀ x ∈ io.opds, g x = g' x) : evalE g rows low io = evalE g' rows low io := by
  cases io
  case mkagg z ps => simp only [evalE, evalP, fillA_congr ps z (fun p hp => h p.2.2 (List.mem_map.2 ⟨p, hp, rfl⟩))]
  case mkslice n z ps => simp only [evalE, fillA_congr ps z (fun p hp => h p.2.2 (List.mem_map.2 ⟨p, hp, rfl⟩))]
  case mkfn f cs =>
    have : cs.map g = cs.map g' := List.map_congr_left fun x hx => h x hx
    simp only [evalE, evalP, this]
  case mx cs =>
    have : cs.map g = cs.map g' := List.map_congr_left fun x hx => h x hx
    simp only [evalE, evalP, this]
  case mn cs =>
    have : cs.map g = cs.map g' := List.map_congr_left fun x hx => h x hx
    simp only [evalE, evalP, this]
  case sliceS sz x lo hi m =>
    have h0 : g x = g' x := h x (by simp [IOp.opds])
    have h1 : lo.map g = lo.map g' := optmap_congr fun y hy => h y (by simp only [IOp.opds, List.mem_cons, List.mem_append]; exact .inr (.inl (.inl hy)))
    have h2 : hi.map g = hi.map g' := optmap_congr fun y hy => h y (by simp only [IOp.opds, List.mem_cons, List.mem_append]; exact .inr (.inl (.inr hy)))
    have h3 : m.map g = m.map g' := optmap_congr fun y hy => h y (by simp only [IOp.opds, List.mem_cons, List.mem_append]; exact .inr (.inr hy))
    simp only [evalE, evalP, h0, h1, h2, h3]
  case sliceA n sz x lo hi m =>
    have h0 : g x = g' x := h x (by simp [IOp.opds])
    have h1 : lo.map g = lo.map g' := optmap_congr fun y hy => h y (by simp only [IOp.opds, List.mem_cons, List.mem_append]; exact .inr (.inl (.inl hy)))
    have h2 : hi.map g = hi.map g' := optmap_congr fun y hy => h y (by simp only [IOp.opds, List.mem_cons, List.mem_append]; exact .inr (.inl (.inr hy)))
    have h3 : m.map g = m.map g' := optmap_congr fun y hy => h y (by simp only [IOp.opds, List.mem_cons, List.mem_append]; exact .inr (.inr hy))
    simp only [evalE, evalP, h0, h1, h2, h3]
  all_goals
    simp only [IOp.opds, List.mem_cons, List.not_mem_nil, or_false, forall_eq_or_imp, forall_eq] at h
    first
      | rfl
      | (simp only [evalE, evalP, h]; done)
      | (obtain ⟨h1, h2⟩ := h; simp only [evalE, evalP, h1, h2]; done)
      | (obtain ⟨h1, h2, h3⟩ := h; simp only [evalE, evalP, h1, h2, h3]; done)

theorem want_congr {sl sl' : List AV} {g : Option (Nat × Bool)} (h : ∀ t b, g = some (t, b) → sl.getD t .any = sl'.getD t .any) : want sl g = want sl' g := by
  cases g with
  | none => rfl
  | some p => obtain ⟨t, b⟩ := p; simp only [want, h t b rfl]

theorem opd_looks {o : IOpx} {x : Opd} (hx : x ∈ o.op.opds) {t : Nat} (ht : t ∈ x.tmps) : t ∈ o.looks := by
  unfold IOpx.looks
  exact List.mem_append.2 (.inl (List.mem_flatMap.2 ⟨x, hx, ht⟩))
theorem guard_looks {o : IOpx} {t : Nat} {b : Bool} (h : o.g = some (t, b)) : t ∈ o.looks := by
  unfold IOpx.looks
  rw [h]
  simp

theorem apartI_spec {x y : IOpx} (h : apartI x y = true) : (∀ d, x.dst = some d → d ∉ y.looks) ∧ (∀ d, x.dst = some d → y.dst ≠ some d) ∧ (∀ d, y.dst = some d → d ∉ x.looks) := by
  refine ⟨fun d hd => ?_, fun d hd => ?_, fun d hd => ?_⟩ <;> simp [apartI, hd] at h
  · exact h.1.1
  · exact h.1.2
  · exact h.2

/-! ### What an operation surely follows -/
theorem before_bit_aux (l : List Oper) : ∀ (acc : Array Nat) (j i : Nat),
    let fold := fun (acc : Array Nat) (o : Oper) => acc.push (o.after.foldl (fun s e => if Region.binds .any e then s ||| 2 ^ e.on ||| acc.getD e.on 0 else s) 0)
    (∀ k, k < acc.size → (l.foldl fold acc).getD k 0 = acc.getD k 0) ∧ (l.foldl fold acc).size = acc.size + l.length := by
  induction l with
  | nil => intro acc j i; simp
  | cons o l ih =>
    intro acc j i
    have := ih (acc.push (o.after.foldl (fun s e => if Region.binds .any e then s ||| 2 ^ e.on ||| acc.getD e.on 0 else s) 0)) j i
    refine ⟨fun k hk => ?_, ?_⟩
    · have h1 := this.1 k (by simp; omega)
      rw [List.foldl_cons, h1]
      simp [Array.getD, hk, show k < acc.size + 1 from by omega, Array.getElem_push, hk]
    · rw [List.foldl_cons, this.2]; simp; omega

theorem foldl_bits (acc : Array Nat) (i : Nat) : ∀ (es : List Edge) (s : Nat), (es.foldl (fun s e => if Region.binds .any e then s ||| 2 ^ e.on ||| acc.getD e.on 0 else s) s).testBit i = true →
    s.testBit i = true ∨ ∃ e ∈ es, Region.binds .any e = true ∧ (e.on = i ∨ (acc.getD e.on 0).testBit i = true)
  | [], s, h => .inl h
  | e :: es, s, h => by
    rw [List.foldl_cons] at h
    rcases foldl_bits acc i es _ h with h | ⟨e', h1, h2⟩
    · split at h
      · rename_i hb
        simp only [Nat.testBit_or, Bool.or_eq_true, Nat.testBit_two_pow, decide_eq_true_eq] at h
        rcases h with (h | h) | h
        · exact .inl h
        · exact .inr ⟨e, by simp, hb, .inl h⟩
        · exact .inr ⟨e, by simp, hb, .inr h⟩
      · exact .inl h
    · exact .inr ⟨e', by simp [h1], h2⟩

/-- The bits of an operation: an edge's own, or those of what it waits for. -/
theorem before_bit (ops : Array Oper) (hlt : ∀ j o, ops[j]? = some o → ∀ e ∈ o.after, Region.binds .any e = true → e.on < j) {j i : Nat} (h : ((Region.before ops).getD j 0).testBit i = true) :
    ∃ o, ops[j]? = some o ∧ ∃ e ∈ o.after, Region.binds .any e = true ∧ (e.on = i ∨ ((Region.before ops).getD e.on 0).testBit i = true) := by
  have key : ∀ (l : List Oper) (acc : Array Nat), (∀ k o, l[k]? = some o → ∀ e ∈ o.after, Region.binds .any e = true → e.on < acc.size + k) → ∀ j, acc.size ≤ j →
      ((l.foldl (fun (acc : Array Nat) (o : Oper) => acc.push (o.after.foldl (fun s e => if Region.binds .any e then s ||| 2 ^ e.on ||| acc.getD e.on 0 else s) 0)) acc).getD j 0).testBit i = true →
      ∃ o, l[j - acc.size]? = some o ∧ ∃ e ∈ o.after, Region.binds .any e = true ∧ (e.on = i ∨ ((l.foldl (fun (acc : Array Nat) (o : Oper) => acc.push (o.after.foldl (fun s e => if Region.binds .any e then s ||| 2 ^ e.on ||| acc.getD e.on 0 else s) 0)) acc).getD e.on 0).testBit i = true) := by
    intro l
    induction l with
    | nil =>
      intro acc _ j hj h
      simp [Array.getD, show ¬ j < acc.size from by omega] at h
    | cons o l ih =>
      intro acc he j hj h
      rw [List.foldl_cons] at h ⊢
      have hst := before_bit_aux l (acc.push (o.after.foldl (fun s e => if Region.binds .any e then s ||| 2 ^ e.on ||| acc.getD e.on 0 else s) 0)) j i
      rcases Nat.eq_or_lt_of_le hj with hj | hj
      · subst hj
        refine ⟨o, by simp, ?_⟩
        rw [hst.1 _ (by simp)] at h
        simp only [Array.getD, Array.size_push, Nat.lt_add_one, dif_pos, Array.getInternal_eq_getElem, Array.getElem_push_eq] at h
        rw [← Array.foldl_toList] at h
        rcases foldl_bits acc i _ _ h with h | ⟨e, h1, h2, h3⟩
        · simp at h
        · refine ⟨e, by simpa using h1, h2, ?_⟩
          rcases h3 with h3 | h3
          · exact .inl h3
          · refine .inr ?_
            have hlt : e.on < acc.size := by have := he 0 o rfl e (by simpa using h1) h2; omega
            rw [hst.1 _ (by simp; omega)]
            simp only [Array.getD, Array.size_push, show e.on < acc.size + 1 from by omega, dif_pos, Array.getInternal_eq_getElem, Array.getElem_push_lt hlt]
            simpa [Array.getD, hlt] using h3
      · obtain ⟨o', h1, h2⟩ := ih _ (fun k o' hk e he' hb => by
          have := he (k + 1) o' (by simpa using hk) e he' hb
          simp; omega) j (by simp; omega) h
        refine ⟨o', ?_, h2⟩
        rw [Array.size_push] at h1
        rw [show j - acc.size = (j - (acc.size + 1)) + 1 from by omega]
        simpa using h1
  have := key ops.toList #[] (fun k o hk e he hb => by simpa using hlt k o (by simpa using hk) e he hb) j (by simp) (by
    unfold Region.before at h
    rw [← Array.foldl_toList] at h
    exact h)
  obtain ⟨o, h1, e, h2, h3, h4⟩ := this
  refine ⟨o, by simpa using h1, e, h2, h3, ?_⟩
  rcases h4 with h4 | h4
  · exact .inl h4
  · refine .inr ?_
    unfold Region.before
    rw [← Array.foldl_toList]
    exact h4
end Go.Abs
/- One operation of the machine against one of the evaluator; a region whose order is drawn. -/
namespace Go.Abs
section
variable {P : Program} {gl : List Nat}

/-- The calls that the evaluator makes are those of the machine. -/
def CallOK (P : Program) (gl : List Nat) (call : Nat → List AV → List Row → Option (AV × List Row × Option Nat)) : Prop :=
  ∀ (f : Nat) (vs : List AV) (rows : List Row) (v : AV) (rows' : List Row) (d : Option Nat), call f vs rows = some (v, rows', d) → ∀ (θ : Th) (w : World) (args : Array Value) (cs : List Frame) (low : Nat),
    HRel (KP P gl) θ rows w → GRel θ gl → VL θ vs args.toList → low ≤ rows.length →
    (∃ func, P.funcs[f]? = some func ∧ func.body.isNone = false ∧ (func.name == "runtime.NumGoroutine") = false) ∧
    ∃ θ' w' fr v', Steps P (lone (Frame.enter P f args .normal) cs w) (lone fr cs w') ∧ fr.leaving P w' (.returned v') ∧ V θ' v v' ∧ Fr (KP P gl) θ θ' rows rows' low (lowO low d) w w'

theorem lowO_le (low : Nat) (d : Option Nat) : lowO low d ≤ low := by cases d <;> simp [lowO, lower_le]

theorem SRel.lt {θ : Th} {sl : List AV} {t : Array Value} (hs : SRel θ sl t) {i : Nat} (h : sl.getD i .any ≠ .any) : i < t.size := by
  rw [← hs.size]
  rcases Nat.lt_or_ge i sl.length with hi | hi
  · exact hi
  · exact absurd (by simp [List.getD, List.getElem?_eq_none hi]) h

theorem want_sound {θ : Th} {sl : List AV} {a : Act} (hs : SRel θ sl a.tmps) {ops : Array Oper} {o : Oper} {g : Option (Nat × Bool)} (hg : cguard ops o.guard = some g) {c : Bool} (hw : want sl g = some c) :
    Region.wanted o (yielded ops a.tmps) = c := by
  unfold cguard at hg
  split at hg
  · rename_i e
    injection hg with hg
    subst hg
    simp only [want, Option.some.injEq] at hw
    subst hw
    simp [Region.wanted, e]
  · rename_i j b e
    split at hg
    case h_2 => simp at hg
    rename_i t ht
    injection hg with hg
    subst hg
    have hV := hs.get t
    simp only [want] at hw
    split at hw
    · rename_i c' e'
      injection hw with hw
      subst hw
      have hlt := hs.lt (i := t) (by rw [e']; simp)
      rw [e'] at hV
      have : a.tmps[t]? = some (.bool c') := by
        rw [Array.getElem?_eq_getElem hlt]
        simp only [Array.getD, hlt, dif_pos, Array.getInternal_eq_getElem] at hV
        generalize a.tmps[t] = z at *
        cases hV; rfl
      simp [Region.wanted, e, yielded, ht, this]
    · rename_i e'
      injection hw with hw
      subst hw
      have hlt := hs.lt (i := t) (by rw [e']; simp)
      rw [e'] at hV
      have : a.tmps[t]? = some (.tuple #[]) := by
        rw [Array.getElem?_eq_getElem hlt]
        simp only [Array.getD, hlt, dif_pos, Array.getInternal_eq_getElem] at hV
        generalize a.tmps[t] = z at *
        cases hV with
        | @tup l l' p q =>
          have : l' = [] := List.length_eq_zero_iff.1 p.symm
          subst this
          rfl
      simp [Region.wanted, e, yielded, ht, this]
    · simp at hw

theorem semAt_of {o : Oper} {r : Option Nat} {ρ : Operand → Value} (h : ∀ c, o.op ≠ .defer c) : o.semAt r ρ = execOp ρ o := by
  unfold Oper.semAt
  cases r with
  | none => rfl
  | some l => cases ho : o.op <;> first | rfl | exact absurd ho (h _)

theorem cop_no_defer {o : Oper} {io : IOp} (h : cop P gl o = some io) : ∀ c, o.op ≠ .defer c := by
  intro c e
  obtain ⟨dst, op, ty, pos, aft, gd⟩ := o
  simp only at e
  subst e
  simp [cop] at h

theorem step_value {b : Frame} {a : Act} {k : List Item} {cs : List Frame} {w w' : World} {ops : Array Oper} {i : Nat} {rest : List Nat} {o : Oper} (ho : ops[i]? = some o) (hw : Region.wanted o (yielded ops a.tmps) = true)
    (hd : ∀ c, o.op ≠ .defer c) {nv : Next} {v' : Value} (hrun : (execOp a.eval o).run P w = .ok nv w') (hnv : nv = .value v' ∨ (nv = .skip ∧ v' = undef)) :
    step P (lone (b.atR a (.inRegion ops (i :: rest) :: k)) cs w) = .next (lone (b.atR (a.put o.dst v') (.inRegion ops rest :: k)) cs w') := by
  have hg := stepGR_op (P := P) (b := b) (a := a) (k := k) (cs := cs) (w := w) (rest := rest) ho hw
  rw [semAt_of hd] at hg
  have hfin : ∀ v, (b.atR a (.inRegion ops (i :: rest) :: k)).finish v = b.atR (a.put o.dst v) (.inRegion ops rest :: k) := by
    intro v; rw [Frame.finish_atR, ho]; rfl
  refine step_lone_go ?_
  rw [hg, ← hfin]
  rcases hnv with rfl | ⟨rfl, rfl⟩
  · simp [stepG.apply, hrun, Sem.runT_eq]
  · simp [stepG.apply, hrun, Sem.runT_eq]

theorem step_enter {b : Frame} {a : Act} {k : List Item} {cs : List Frame} {w w' : World} {ops : Array Oper} {i : Nat} {rest : List Nat} {o : Oper} (ho : ops[i]? = some o) (hw : Region.wanted o (yielded ops a.tmps) = true)
    (hd : ∀ c, o.op ≠ .defer c) {f : FuncId} {args : Array Value} (hrun : (execOp a.eval o).run P w = .ok (.enter f args) w') :
    step P (lone (b.atR a (.inRegion ops (i :: rest) :: k)) cs w) = .next (lone (Frame.enter P f args .normal) (b.atR a (.inRegion ops (i :: rest) :: k) :: cs) w') := by
  have hg := stepGR_op (P := P) (b := b) (a := a) (k := k) (cs := cs) (w := w) (rest := rest) ho hw
  rw [semAt_of hd] at hg
  refine step_lone_go ?_
  rw [hg]
  simp [stepG.apply, hrun, Sem.runT_eq, Frame.atR]

theorem copx_bad {ops : Array Oper} {o : Oper} (h : (copx P gl ops o).op ≠ .bad) : ∃ g, cguard ops o.guard = some g ∧ cop P gl o = some (copx P gl ops o).op ∧ (copx P gl ops o).g = g ∧ (copx P gl ops o).dst = o.dst := by
  unfold copx at h ⊢
  split at h
  · rename_i g i e1 e2
    exact ⟨g, e1, e2, rfl, rfl⟩
  · exact absurd rfl h
  · exact absurd rfl h
theorem copx_dst {ops : Array Oper} {o : Oper} : (copx P gl ops o).dst = o.dst := by
  unfold copx; split <;> rfl

theorem target_run {θ : Th} {sl : List AV} {a : Act} {w : World} (hg : GRel θ gl) (hs : SRel θ sl a.tmps) {o : Oper} {c : Call} (ho : o.op = .call c) {f : Operand} (hf : c.callee = .value f) {fid : Nat} {vs : List AV}
    (ht : target (getO sl (co gl f)) ((c.args.toList.map (co gl)).map (getO sl)) = some (fid, vs)) {func : Func} (hfu : P.funcs[fid]? = some func) (hb : func.body.isNone = false) (hn : (func.name == "runtime.NumGoroutine") = false) :
    ∃ args : Array Value, (execOp a.eval o).run P w = .ok (.enter fid args) w ∧ VL θ vs args.toList := by
  unfold target at ht
  split at ht
  case h_2 => simp at ht
  rename_i f' caps e
  simp only [Option.some.injEq, Prod.mk.injEq] at ht
  obtain ⟨rfl, rfl⟩ := ht
  have hV := opd_V hg hs f
  rw [e] at hV
  generalize hq : a.eval f = z at *
  cases hV with
  | @func f l l' p q =>
  have hargs := opds_V' (a := a) hg hs c.args
  refine ⟨c.args.map a.eval ++ l'.toArray, ?_, by simpa using hargs.append ⟨p, q⟩⟩
  obtain ⟨callee, args, ats⟩ := c
  simp only at hf
  subst hf
  obtain ⟨dst, op, ty, pos, aft, gd⟩ := o
  simp only at ho
  subst ho
  simp [execOp, resolve, hq, Deferred.ofValue, invoke, callFunc, hfu]
  rw [if_neg (by simpa using hn), if_neg (by intro h; rw [h] at hb; simp at hb)]

/-- One operation. -/
theorem op_step {call : Nat → List AV → List Row → Option (AV × List Row × Option Nat)} (hcall : CallOK P gl call) {ops : Array Oper} {i : Nat} {o : Oper} (ho : ops[i]? = some o) {θ : Th} {sl : List AV} {rows : List Row} {low : Nat} {w : World} {a : Act} {v : AV} {rows' : List Row} {low' : Nat}
    (hop : opR call sl rows low (copx P gl ops o) = some (v, rows', low')) (hr : HRel (KP P gl) θ rows w) (hg : GRel θ gl) (hs : SRel θ sl a.tmps) (hlow : low ≤ rows.length) (b : Frame) (rest : List Nat) (k : List Item) (cs : List Frame) :
    ∃ θ' w' v', Steps P (lone (b.atR a (.inRegion ops (i :: rest) :: k)) cs w) (lone (b.atR (a.put o.dst v') (.inRegion ops rest :: k)) cs w') ∧ V θ' v v' ∧ Fr (KP P gl) θ θ' rows rows' low low' w w' := by
  unfold opR at hop
  split at hop
  · simp at hop
  · rename_i hw
    simp only [Option.some.injEq, Prod.mk.injEq] at hop
    obtain ⟨rfl, rfl, rfl⟩ := hop
    have hwr : Region.wanted o (yielded ops a.tmps) = false := by
      unfold copx at hw
      split at hw
      · rename_i g i' e1 e2; exact want_sound hs e1 hw
      · rename_i g e1 e2; exact want_sound hs e1 hw
      · simp [want] at hw
    have hst := stepR_op_skip (P := P) (b := b) (a := a) (k := k) (cs := cs) (w := w) (ops := ops) (i := i) (rest := rest) (by simp [ho, hwr])
    simp only [ho, Option.bind_some] at hst
    exact ⟨θ, w, undef, .one hst, V_undef θ, Fr.refl hr low⟩
  · rename_i hw
    have hbad : (copx P gl ops o).op ≠ .bad := by
      intro e
      rw [e] at hop
      simp [evalE, evalP] at hop
    obtain ⟨g, h1, h2, h3, h4⟩ := copx_bad hbad
    rw [h3] at hw
    have hwr := want_sound hs h1 hw
    have hd := cop_no_defer h2
    split at hop
    · rename_i f args e
      rw [e] at h2
      split at hop
      · rename_i fid vs ht
        split at hop
        · rename_i v0 rows0 d hc
          simp only [Option.some.injEq, Prod.mk.injEq] at hop
          obtain ⟨rfl, rfl, rfl⟩ := hop
          have hoc : ∃ c ff, o.op = .call c ∧ c.callee = .value ff ∧ f = co gl ff ∧ args = c.args.toList.map (co gl) := by
            obtain ⟨dst, op, ty, pos, aft, gd⟩ := o
            cases op <;> simp only [cop, reduceCtorEq] at h2
            case call c =>
              obtain ⟨callee, cargs, ats⟩ := c
              cases callee with
              | value ff =>
                simp only [Option.some.injEq, IOp.call.injEq] at h2
                exact ⟨_, ff, rfl, rfl, h2.1.symm, h2.2.symm⟩
              | invoke r m => simp at h2
              | builtin bb =>
                cases bb <;> simp only [reduceCtorEq] at h2
                all_goals
                  repeat' split at h2
                  all_goals first
                    | (simp at h2; done)
                    | (simp only [Option.map_eq_some_iff] at h2; obtain ⟨_, _, h2⟩ := h2; simp at h2; done)
            case makeFunc fn fi cs =>
              cases fn <;> simp only [reduceCtorEq] at h2
              split at h2 <;> simp at h2
            all_goals
              repeat' split at h2
              all_goals first
                | (simp at h2; done)
                | (simp only [Option.map_eq_some_iff] at h2; obtain ⟨_, _, h2⟩ := h2; simp at h2; done)
                | contradiction
          obtain ⟨c, ff, o1, o2, rfl, rfl⟩ := hoc
          have pre := fun args hv => hcall fid vs rows v0 rows0 d hc θ w args (b.atR a (.inRegion ops (i :: rest) :: k) :: cs) low hr hg hv hlow
          -- the function is there, whatever it is called with
          have hex : ∃ func, P.funcs[fid]? = some func ∧ func.body.isNone = false ∧ (func.name == "runtime.NumGoroutine") = false := by
            have hv0 : ∃ args : Array Value, VL θ vs args.toList := by
              unfold target at ht
              split at ht
              case h_2 => simp at ht
              rename_i f' caps e
              simp only [Option.some.injEq, Prod.mk.injEq] at ht
              obtain ⟨rfl, rfl⟩ := ht
              have hV := opd_V hg hs ff
              rw [e] at hV
              generalize hq : a.eval ff = z at *
              cases hV with
              | @func f l l' p q => exact ⟨c.args.map a.eval ++ l'.toArray, by simpa using (opds_V' (a := a) hg hs c.args).append ⟨p, q⟩⟩
            obtain ⟨args, hv⟩ := hv0
            exact (pre args hv).1
          obtain ⟨func, f1, f2, f3⟩ := hex
          obtain ⟨args, hrun, hv⟩ := target_run (P := P) (w := w) hg hs o1 o2 ht f1 f2 f3
          obtain ⟨_, θ', w', fr, v', s1, s2, s3, s4⟩ := pre args hv
          have henter := step_enter (P := P) (b := b) (k := k) (cs := cs) (rest := rest) ho hwr hd hrun
          have hfin : (b.atR a (.inRegion ops (i :: rest) :: k)).finish v' = b.atR (a.put o.dst v') (.inRegion ops rest :: k) := by
            rw [Frame.finish_atR, ho]; rfl
          refine ⟨θ', w', v', .head henter (s1.trans (.one ?_)), s3, s4⟩
          rw [← hfin]; exact step_leave_returned s2
        · simp at hop
      · simp at hop
    · rename_i hne
      obtain ⟨θ', w', nv, v', r1, r2, r3, r4⟩ := evalE_sound h2 (fun f args e => hne f args e) hop hr hg hs hlow
      exact ⟨θ', w', v', .one (step_value ho hwr hd r1 r2), r3, r4⟩
end
end Go.Abs
/- A region whose order is drawn: what the group comes to, whatever the order. -/
namespace Go.Abs
variable {κ : KRel}

/-! ### The run in the text's order -/
structure Tr (call : Nat → List AV → List Row → Option (AV × List Row × Option Nat)) (rows : List Row) (L : Nat → IOpx × Nat) (i m : Nat) (SL : Nat → List AV) (EX : Nat → List (Nat × Row)) (v : Nat → AV) (rw_ : Nat → List Row) : Prop where
  op : ∀ p, i ≤ p → p < m → opR call (SL p) (rows ++ maskE (L p).2 (EX p)) (rows.length + (EX p).length) (L p).1 = some (v p, rw_ p, rows.length + (EX p).length)
  sl : ∀ p, i ≤ p → p < m → SL (p + 1) = putO (SL p) (L p).1.dst (v p)
  ex : ∀ p, i ≤ p → p < m → EX (p + 1) = EX p ++ ((rw_ p).drop (rows.length + (EX p).length)).map fun x => (p, x)

theorem evalG_trace {call : Nat → List AV → List Row → Option (AV × List Row × Option Nat)} {rows : List Row} : ∀ (l : List (IOpx × Nat)) (i : Nat) (sl : List AV) (ext : List (Nat × Row)) (slm : List AV) (extm : List (Nat × Row)) (L : Nat → IOpx × Nat), (∀ p q, l[p]? = some q → L (i + p) = q) →
    evalG call rows i l sl ext = some (slm, extm) → ∃ SL EX v rw_, SL i = sl ∧ EX i = ext ∧ SL (i + l.length) = slm ∧ EX (i + l.length) = extm ∧ Tr call rows L i (i + l.length) SL EX v rw_
  | [], i, sl, ext, slm, extm, L, hL, h => by
    simp only [evalG, Option.some.injEq, Prod.mk.injEq] at h
    obtain ⟨rfl, rfl⟩ := h
    exact ⟨fun _ => sl, fun _ => ext, fun _ => .any, fun _ => [], rfl, rfl, rfl, rfl, ⟨fun p a b => by simp at b; omega, fun p a b => by simp at b; omega, fun p a b => by simp at b; omega⟩⟩
  | (o, b) :: l, i, sl, ext, slm, extm, L, hL, h => by
    simp only [evalG] at h
    split at h
    case h_2 => simp at h
    rename_i v0 rows' low' hop
    split at h
    case isFalse => simp at h
    rename_i hlow
    subst hlow
    obtain ⟨SL, EX, v, rw_, h1, h2, h3, h4, h5⟩ := evalG_trace l (i + 1) _ _ slm extm L (fun p q hp => by
      have := hL (p + 1) q (by simpa using hp)
      rwa [show i + (p + 1) = i + 1 + p from by omega] at this) h
    have hLi : L i = (o, b) := by have := hL 0 (o, b) rfl; simpa using this
    refine ⟨fun q => if q = i then sl else SL q, fun q => if q = i then ext else EX q, fun q => if q = i then v0 else v q, fun q => if q = i then rows' else rw_ q, by simp, by simp, ?_, ?_, ⟨?_, ?_, ?_⟩⟩
    · simp only [List.length_cons]
      rw [if_neg (by omega), ← h3]
      congr 1; omega
    · simp only [List.length_cons]
      rw [if_neg (by omega), ← h4]
      congr 1; omega
    · intro p hp hm
      simp only [List.length_cons] at hm
      by_cases e : p = i
      · subst e
        simp only [if_true, hLi]
        exact hop
      · simp only [if_neg e]
        exact h5.op p (by omega) (by omega)
    · intro p hp hm
      simp only [List.length_cons] at hm
      by_cases e : p = i
      · subst e
        simp only [if_true, hLi]
        rw [if_neg (by omega), h1]
      · simp only [if_neg e]
        rw [if_neg (by omega)]
        exact h5.sl p (by omega) (by omega)
    · intro p hp hm
      simp only [List.length_cons] at hm
      by_cases e : p = i
      · subst e
        simp only [if_true]
        rw [if_neg (by omega), h2]
      · simp only [if_neg e]
        rw [if_neg (by omega)]
        exact h5.ex p (by omega) (by omega)

/-- The value of a slot, and the rows that it may lead to, when some of the operations have been done. -/
def slotAt (sl0 : List AV) (n0 : Nat) (L : Nat → IOpx × Nat) (v : Nat → AV) (n : Nat → Nat) (S : Nat → Bool) : Nat → Nat → AV × Nat
  | 0, t => (sl0.getD t .any, n0)
  | j + 1, t => if S j = true ∧ (L j).1.dst = some t then (v j, n (j + 1)) else slotAt sl0 n0 L v n S j t

section
variable {sl0 : List AV} {n0 : Nat} {L : Nat → IOpx × Nat} {v : Nat → AV} {n : Nat → Nat}

theorem slotAt_congr {S S' : Nat → Bool} {t : Nat} : ∀ (m : Nat), (∀ j, j < m → (L j).1.dst = some t → S j = S' j) → slotAt sl0 n0 L v n S m t = slotAt sl0 n0 L v n S' m t
  | 0, _ => rfl
  | m + 1, h => by
    simp only [slotAt]
    by_cases hd : (L m).1.dst = some t
    · rw [h m (by omega) hd, slotAt_congr m (fun j hj => h j (by omega))]
    · rw [if_neg (fun e => hd e.2), if_neg (fun e => hd e.2), slotAt_congr m (fun j hj => h j (by omega))]
theorem slotAt_skip {S : Nat → Bool} {t i : Nat} : ∀ (m : Nat), i ≤ m → (∀ j, i ≤ j → j < m → (L j).1.dst = some t → S j = false) → slotAt sl0 n0 L v n S m t = slotAt sl0 n0 L v n S i t
  | 0, hi, _ => by have : i = 0 := by omega
                   subst this; rfl
  | m + 1, hi, h => by
    rcases Nat.eq_or_lt_of_le hi with e | e
    · rw [e]
    · simp only [slotAt]
      rw [if_neg (fun q => by have := h m (by omega) (by omega) q.2; rw [this] at q; simp at q), slotAt_skip m (by omega) (fun j a b => h j a (by omega))]
theorem slotAt_bound {S : Nat → Bool} {t B : Nat} : ∀ (m : Nat), n0 ≤ B → (∀ j, j < m → (L j).1.dst = some t → S j = true → n (j + 1) ≤ B) → (slotAt sl0 n0 L v n S m t).2 ≤ B
  | 0, h, _ => h
  | m + 1, h, k => by
    simp only [slotAt]
    split
    · rename_i q; exact k m (by omega) q.2 q.1
    · exact slotAt_bound m h (fun j hj => k j (by omega))
/-- In the text's order. -/
theorem slotAt_text {call : Nat → List AV → List Row → Option (AV × List Row × Option Nat)} {rows : List Row} {m : Nat} {SL : Nat → List AV} {EX : Nat → List (Nat × Row)} {rw_ : Nat → List Row} (h : Tr call rows L 0 m SL EX v rw_) (h0 : SL 0 = sl0) {t : Nat} (ht : t < sl0.length) :
    ∀ (i : Nat), i ≤ m → (slotAt sl0 n0 L v n (fun _ => true) i t).1 = (SL i).getD t .any ∧ (SL i).length = sl0.length
  | 0, _ => by rw [h0]; exact ⟨rfl, rfl⟩
  | i + 1, hi => by
    obtain ⟨ih1, ih2⟩ := slotAt_text h h0 ht i (by omega)
    rw [h.sl i (by omega) (by omega)]
    cases hd : (L i).1.dst with
    | none =>
      simp only [slotAt, hd, putO]
      rw [if_neg (by simp)]
      exact ⟨ih1, ih2⟩
    | some d =>
      simp only [slotAt, hd, putO, Option.some.injEq, true_and, List.length_set]
      refine ⟨?_, ih2⟩
      split
      · rename_i e
        subst e
        simp only [List.getD, List.getElem?_set, if_true]
        rw [if_pos (by omega)]
        rfl
      · rename_i e
        rw [ih1]
        simp only [List.getD, List.getElem?_set, if_neg e]
end

theorem opR_congr {call : Nat → List AV → List Row → Option (AV × List Row × Option Nat)} {sl sl' : List AV} (rows : List Row) (low : Nat) {o : IOpx} (h : ∀ t ∈ o.looks, sl.getD t .any = sl'.getD t .any) : opR call sl rows low o = opR call sl' rows low o := by
  have hO : ∀ x ∈ o.op.opds, getO sl x = getO sl' x := fun x hx => getO_congr fun t ht => h t (opd_looks hx ht)
  have hw : want sl o.g = want sl' o.g := want_congr fun t b e => h t (guard_looks e)
  have hE := evalE_congr rows low o.op hO
  unfold opR
  rw [hw]
  split <;> first | rfl | skip
  split
  · rename_i f args e
    have h1 : getO sl f = getO sl' f := hO f (by rw [e]; simp [IOp.opds])
    have h2 : args.map (getO sl) = args.map (getO sl') := List.map_congr_left fun x hx => hO x (by rw [e]; simp [IOp.opds, hx])
    rw [h1, h2]
  · exact hE

/-- A theta up to a row. -/
def Th.upto (θ : Th) (n : Nat) : Th := fun id => if id < n then θ id else none
theorem Th.upto_some {θ : Th} {n id : Nat} {L : Loc} : (θ.upto n) id = some L ↔ id < n ∧ θ id = some L := by
  unfold Th.upto
  split
  · rename_i h; simp [h]
  · rename_i h; simp [h]
theorem Th.upto_ext (θ : Th) (n : Nat) : Ext (θ.upto n) θ := fun id L h => (Th.upto_some.1 h).2
theorem Th.upto_mono {θ θ' : Th} {n n' : Nat} (h : Ext θ θ') (hn : n ≤ n') : Ext (θ.upto n) (θ'.upto n') := fun id L e => by
  obtain ⟨a, b⟩ := Th.upto_some.1 e
  exact Th.upto_some.2 ⟨by omega, h _ _ b⟩

/-- What holds when some of the operations have been done. -/
structure Inv (κ : KRel) (X : Nat → Prop) (θ0 : Th) (rows : List Row) (sl0 : List AV) (m : Nat) (L : Nat → IOpx × Nat) (v : Nat → AV) (EX : Nat → List (Nat × Row)) (w0 : World) (S : Nat → Bool) (θ : Th) (tmps : Array Value) (w : World) : Prop where
  size : tmps.size = sl0.length
  slots : ∀ t x', tmps[t]? = some x' → V (θ.upto (slotAt sl0 rows.length L v (fun j => rows.length + (EX j).length) S m t).2) (slotAt sl0 rows.length L v (fun j => rows.length + (EX j).length) S m t).1 x'
  rows_ : ∀ p q r, (EX m)[p]? = some (q, r) → S q = true → RowRel κ (θ.upto (rows.length + (EX (q + 1)).length)) (rows.length + p) w r
  base : HRel κ θ0 rows w
  ext : Ext θ0 θ
  dom : ∀ id K, θ id = some K → θ0 id = some K ∨ (w0.heap.size ≤ K.b ∧ ∃ p q r, id = rows.length + p ∧ (EX m)[p]? = some (q, r) ∧ S q = true)
  inj : ∀ p p' q q' r r' K K', p ≠ p' → (EX m)[p]? = some (q, r) → S q = true → r.owned = true → (EX m)[p']? = some (q', r') → S q' = true → r'.live = true → θ (rows.length + p) = some K → θ (rows.length + p') = some K' → K.b ≠ K'.b
  blk : ∀ id K, θ id = some K → K.b < w.heap.size
  os : w.os = w0.os
  tape : w.tape = w0.tape
  output : w.output = w0.output
  wsize : w0.heap.size ≤ w.heap.size
  heap : ∀ b, b < w0.heap.size → ¬ X b → w.heap[b]? = w0.heap[b]?
  base0 : ∀ id K, θ0 id = some K → K.b < w0.heap.size
end Go.Abs
/- A region whose order is drawn: one operation more. -/
namespace Go.Abs
section
variable {P : Program} {gl : List Nat} {call : Nat → List AV → List Row → Option (AV × List Row × Option Nat)} {rows : List Row} {sl0 : List AV} {m : Nat} {L : Nat → IOpx × Nat} {v : Nat → AV} {EX : Nat → List (Nat × Row)} {SL : Nat → List AV} {rw_ : Nat → List Row} {θ0 : Th} {w0 : World} {X : Nat → Prop}

theorem HRel.later {θ : Th} {rows : List Row} {w w' : World} (h : HRel (KP P gl) θ rows w) (hsz : w.heap.size ≤ w'.heap.size) (hb : ∀ b, b < w.heap.size → w'.heap[b]? = w.heap[b]?) : HRel (KP P gl) θ rows w' :=
  ⟨h.dom, fun id K e => Nat.lt_of_lt_of_le (h.blk id K e) hsz, fun id r e => (h.row id r e).mono (Ext.refl _) (fun K hK => hb _ (h.blk id K hK)), h.inj⟩

theorem Tr.ex_len (h : Tr call rows L 0 m SL EX v rw_) {i j : Nat} (hij : i ≤ j) (hj : j ≤ m) : (EX i).length ≤ (EX j).length := by
  induction j with
  | zero => have : i = 0 := by omega
            subst this; exact Nat.le_refl _
  | succ j ih =>
    rcases Nat.eq_or_lt_of_le hij with e | e
    · rw [e]; exact Nat.le_refl _
    · have := ih (by omega) (by omega)
      rw [h.ex j (by omega) (by omega)]
      simp; omega
theorem Tr.ex_prefix (h : Tr call rows L 0 m SL EX v rw_) {i j : Nat} (hij : i ≤ j) (hj : j ≤ m) {p : Nat} (hp : p < (EX i).length) : (EX j)[p]? = (EX i)[p]? := by
  induction j with
  | zero => have : i = 0 := by omega
            subst this; rfl
  | succ j ih =>
    rcases Nat.eq_or_lt_of_le hij with e | e
    · rw [e]
    · have h1 := h.ex_len (i := i) (j := j) (by omega) (by omega)
      rw [h.ex j (by omega) (by omega), List.getElem?_append_left (by omega)]
      exact ih (by omega) (by omega)
theorem Tr.sl_len (h : Tr call rows L 0 m SL EX v rw_) (h0 : SL 0 = sl0) : ∀ (i : Nat), i ≤ m → (SL i).length = sl0.length
  | 0, _ => by rw [h0]
  | i + 1, hi => by
    rw [h.sl i (by omega) (by omega)]
    cases (L i).1.dst <;> simp [putO, Tr.sl_len h h0 i (by omega)]
/-- Whose a row is. -/
theorem Tr.owner (h : Tr call rows L 0 m SL EX v rw_) (h0 : EX 0 = []) {p q : Nat} {r : Row} : ∀ {i : Nat}, i ≤ m → (EX i)[p]? = some (q, r) → q < i ∧ (EX q).length ≤ p ∧ p < (EX (q + 1)).length ∧ (rw_ q)[rows.length + p]? = some r
  | 0, _, e => by rw [h0] at e; simp at e
  | i + 1, hi, e => by
    have hx := h.ex i (by omega) (by omega)
    rw [hx] at e
    by_cases hp : p < (EX i).length
    · rw [List.getElem?_append_left hp] at e
      obtain ⟨a, b⟩ := Tr.owner h h0 (by omega) e
      exact ⟨by omega, b⟩
    · rw [List.getElem?_append_right (by omega)] at e
      simp only [List.getElem?_map, Option.map_eq_some_iff, Prod.mk.injEq] at e
      obtain ⟨x, e1, e2, e3⟩ := e
      subst e2; subst e3
      rw [List.getElem?_drop] at e1
      have hlt := (List.getElem?_eq_some_iff.1 e1).1
      refine ⟨by omega, by omega, ?_, ?_⟩
      · rw [hx]; simp; omega
      · rw [← e1]; congr 1; omega

theorem Inv.start (h0 : EX 0 = []) {a : Act} (hr : HRel (KP P gl) θ0 rows w0) (hs : SRel θ0 sl0 a.tmps) : Inv (KP P gl) X θ0 rows sl0 m L v EX w0 (fun _ => false) θ0 a.tmps w0 where
  size := hs.size.symm
  slots := fun t x' hx => by
    have e := slotAt_skip (sl0 := sl0) (n0 := rows.length) (L := L) (v := v) (n := fun j => rows.length + (EX j).length) (S := fun _ => false) (t := t) (i := 0) m (Nat.zero_le _) (fun j _ _ _ => rfl)
    rw [e]
    simp only [slotAt]
    have hV : V θ0 (sl0.getD t .any) x' := by
      have := hs.get t
      simpa [Array.getD_eq_getD_getElem?, hx] using this
    exact hV.to fun id _ K hK => Th.upto_some.2 ⟨hr.dom id K hK, hK⟩
  rows_ := fun p q r _ hS => by simp at hS
  base := hr.later (Nat.le_refl _) (fun _ _ => rfl)
  ext := Ext.refl _
  dom := fun id K h => .inl h
  inj := fun p p' q q' r r' K K' _ _ hS => by simp at hS
  blk := hr.blk
  os := rfl
  tape := rfl
  output := rfl
  wsize := Nat.le_refl _
  heap := fun _ _ _ => rfl
  base0 := hr.blk

theorem maskE_get (b : Nat) (ext : List (Nat × Row)) (p : Nat) : (maskE b ext)[p]? = (ext[p]?).map fun e => if b.testBit e.1 then e.2 else .dead := by
  simp [maskE]

/-- The rows as an operation knows them. -/
theorem Inv.masked (htr : Tr call rows L 0 m SL EX v rw_) (h0 : EX 0 = []) {S : Nat → Bool} {θ : Th} {tmps : Array Value} {w : World} (hI : Inv (KP P gl) X θ0 rows sl0 m L v EX w0 S θ tmps w) {i : Nat} (hi : i < m) {bits : Nat} (hready : ∀ q, bits.testBit q = true → S q = true) :
    HRel (KP P gl) (θ.upto (rows.length + (EX i).length)) (rows ++ maskE bits (EX i)) w := by
  have hlen : (maskE bits (EX i)).length = (EX i).length := by simp [maskE]
  have hbase : ∀ id K, id < rows.length → θ id = some K → θ0 id = some K := fun id K hid hK => by
    rcases hI.dom id K hK with h | ⟨_, p, q, r, e, _⟩
    · exact h
    · omega
  have hE0 : Ext θ0 (θ.upto (rows.length + (EX i).length)) := fun id K hK => Th.upto_some.2 ⟨by have := hI.base.dom id K hK; omega, hI.ext _ _ hK⟩
  -- a row of the masked rows is an old one, or a new one that may be known
  have hget : ∀ id r, (rows ++ maskE bits (EX i))[id]? = some r → r.live = true → (id < rows.length ∧ rows[id]? = some r) ∨ ∃ p q, id = rows.length + p ∧ p < (EX i).length ∧ (EX m)[p]? = some (q, r) ∧ S q = true ∧ q < i := fun id r e hl => by
    rcases Nat.lt_or_ge id rows.length with h | h
    · rw [List.getElem?_append_left h] at e
      exact .inl ⟨h, e⟩
    · rw [List.getElem?_append_right h, maskE_get] at e
      simp only [Option.map_eq_some_iff] at e
      obtain ⟨⟨q, r0⟩, e1, e2⟩ := e
      simp only at e2
      split at e2
      · rename_i hb
        subst e2
        have hp : id - rows.length < (EX i).length := (List.getElem?_eq_some_iff.1 e1).1
        obtain ⟨o1, _⟩ := Tr.owner htr h0 (i := i) (by omega) e1
        exact .inr ⟨id - rows.length, q, by omega, hp, by rw [htr.ex_prefix (i := i) (j := m) (by omega) (Nat.le_refl _) hp]; exact e1, hready q hb, o1⟩
      · subst e2; simp [Row.live] at hl
  refine ⟨fun id K e => ?_, fun id K e => hI.blk id K (Th.upto_some.1 e).2, fun id r e => ?_, fun p p' r s K K' hne hp hpo hq hql hK hK' => ?_⟩
  · have := (Th.upto_some.1 e).1
    simp [hlen]; omega
  · by_cases hl : r.live = true
    · rcases hget id r e hl with ⟨a, b⟩ | ⟨p, q, rfl, c1, c2, c3, c4⟩
      · exact (hI.base.row id r b).mono hE0 (fun _ _ => rfl)
      · refine (hI.rows_ p q r c2 c3).mono (Th.upto_mono (Ext.refl _) ?_) (fun _ _ => rfl)
        have := htr.ex_len (i := q + 1) (j := i) (by omega) (by omega)
        omega
    · cases r <;> first | (simp [Row.live] at hl; done) | trivial
  · have hK := (Th.upto_some.1 hK).2
    have hK' := (Th.upto_some.1 hK').2
    rcases hget p r hp (Row.live_of_owned hpo) with ⟨a, b⟩ | ⟨x, q, rfl, c1, c2, c3, c4⟩
    · rcases hget p' s hq hql with ⟨a', b'⟩ | ⟨x', q', rfl, d1, d2, d3, d4⟩
      · exact hI.base.inj p p' r s K K' hne b hpo b' hql (hbase p K a hK) (hbase p' K' a' hK')
      · have h1 := hI.base0 p K (hbase p K a hK)
        rcases hI.dom _ K' hK' with h | ⟨h2, _⟩
        · have := hI.base.dom _ K' h; omega
        · omega
    · rcases hget p' s hq hql with ⟨a', b'⟩ | ⟨x', q', rfl, d1, d2, d3, d4⟩
      · have h1 := hI.base0 p' K' (hbase p' K' a' hK')
        rcases hI.dom _ K hK with h | ⟨h2, _⟩
        · have := hI.base.dom _ K h; omega
        · omega
      · exact hI.inj x x' q q' r s K K' (fun e => hne (by omega)) c2 c3 hpo d2 d3 hql hK hK'

theorem Inv.step (hcall : CallOK P gl call) (htr : Tr call rows L 0 m SL EX v rw_) (hS0 : SL 0 = sl0) (h0 : EX 0 = []) (hg : GRel θ0 gl) {S : Nat → Bool} {θ : Th} {a : Act} {w : World} (hI : Inv (KP P gl) X θ0 rows sl0 m L v EX w0 S θ a.tmps w) {i : Nat} (hi : i < m) (hSi : S i = false)
    (hap : ∀ j, j < m → ∀ k, k < j → (L j).2.testBit k = true ∨ apartI (L k).1 (L j).1 = true) (hclosed : ∀ j, S j = true → j < m → ∀ q, (L j).2.testBit q = true → S q = true) (hready : ∀ q, (L i).2.testBit q = true → S q = true)
    {ops : Array Oper} {o : Oper} {ii : Nat} (ho : ops[ii]? = some o) (hLo : (L i).1 = copx P gl ops o) (b : Frame) (rest : List Nat) (k : List Item) (cs : List Frame) :
    ∃ θ' w' v', Steps P (lone (b.atR a (.inRegion ops (ii :: rest) :: k)) cs w) (lone (b.atR (a.put o.dst v') (.inRegion ops rest :: k)) cs w') ∧ Inv (KP P gl) X θ0 rows sl0 m L v EX w0 (fun j => S j || j == i) θ' (a.put o.dst v').tmps w' ∧ Ext θ θ' ∧ ∀ b, b < w.heap.size → w'.heap[b]? = w.heap[b]? := by
  have hrel := hI.masked htr h0 hi (bits := (L i).2) hready
  have hlen : (rows ++ maskE (L i).2 (EX i)).length = rows.length + (EX i).length := by simp [maskE]
  -- the slots that it looks at
  have hlook : ∀ t ∈ (L i).1.looks, slotAt sl0 rows.length L v (fun j => rows.length + (EX j).length) S m t = slotAt sl0 rows.length L v (fun j => rows.length + (EX j).length) S i t ∧
      slotAt sl0 rows.length L v (fun j => rows.length + (EX j).length) S i t = slotAt sl0 rows.length L v (fun j => rows.length + (EX j).length) (fun _ => true) i t := fun t ht => by
    refine ⟨slotAt_skip m (by omega) (fun j hj hjm hd => ?_), slotAt_congr i (fun j hj hd => ?_)⟩
    · rcases Nat.eq_or_lt_of_le hj with e | e
      · rw [← e]; exact hSi
      · cases hSj : S j with
        | false => rfl
        | true =>
          rcases hap j hjm i e with h | h
          · have := hclosed j hSj hjm i h
            rw [hSi] at this; simp at this
          · exact absurd ht ((apartI_spec h).2.2 t hd)
    · rcases hap i hi j hj with h | h
      · rw [hready j h]
      · exact absurd ht ((apartI_spec h).1 t hd)
  let X : List AV := (List.range sl0.length).map fun t => if t ∈ (L i).1.looks then (SL i).getD t .any else .any
  have hX : SRel (θ.upto (rows.length + (EX i).length)) X a.tmps := by
    refine ⟨by simp [X, hI.size], fun t x x' hx hx' => ?_⟩
    have htl : t < sl0.length := by have := (List.getElem?_eq_some_iff.1 hx).1; simpa [X] using this
    simp only [X, List.getElem?_map, List.getElem?_range htl, Option.map_some, Option.some.injEq] at hx
    subst hx
    split
    · rename_i ht
      obtain ⟨e1, e2⟩ := hlook t ht
      have hV := hI.slots t x' hx'
      rw [e1] at hV
      have hB := slotAt_bound (sl0 := sl0) (n0 := rows.length) (L := L) (v := v) (n := fun j => rows.length + (EX j).length) (S := S) (t := t) (B := rows.length + (EX i).length) i (by omega) (fun j hj _ _ => by
        have := htr.ex_len (i := j + 1) (j := i) (by omega) (by omega)
        omega)
      rw [e2, (slotAt_text (sl0 := sl0) htr hS0 htl i (by omega)).1, ← e2] at hV
      exact hV.mono (Th.upto_mono (Ext.refl _) hB)
    · exact .any _
  have hop := htr.op i (by omega) hi
  have hcg : opR call X (rows ++ maskE (L i).2 (EX i)) (rows.length + (EX i).length) (L i).1 = some (v i, rw_ i, rows.length + (EX i).length) := by
    rw [opR_congr (sl' := SL i) _ _ (fun t ht => ?_)]
    · exact hop
    · rcases Nat.lt_or_ge t sl0.length with htl | htl
      · simp only [X, List.getD, List.getElem?_map, List.getElem?_range htl, Option.map_some, Option.getD_some, if_pos ht]
      · have hL' := htr.sl_len hS0 i (by omega)
        rw [List.getD, List.getD, List.getElem?_eq_none (l := X) (by simp only [X, List.length_map, List.length_range]; exact htl), List.getElem?_eq_none (l := SL i) (by omega)]
  rw [hLo] at hcg
  have hgθ : GRel (θ.upto (rows.length + (EX i).length)) gl := fun x g e => by
    obtain ⟨K, a1, a2⟩ := hg x g e
    exact ⟨K, Th.upto_some.2 ⟨by have := hI.base.dom x K a1; omega, hI.ext _ _ a1⟩, a2⟩
  obtain ⟨θi, w', v', st, hv', hF⟩ := op_step hcall ho hcg hrel hgθ hX (by omega) b rest k cs
  have hF2 : Fr (KP P gl) (θ.upto (rows.length + (EX i).length)) θi (rows ++ maskE (L i).2 (EX i)) (rw_ i) (rows ++ maskE (L i).2 (EX i)).length (rows ++ maskE (L i).2 (EX i)).length w w' := by rw [hlen]; exact hF
  have hclean := fun b hb => Fr.clean hrel hF2 b hb
  have hlenR : rows.length + (EX i).length ≤ (rw_ i).length := by have := hF.len; omega
  have hex := htr.ex i (by omega) hi
  have hn1 : rows.length + (EX (i + 1)).length = (rw_ i).length := by rw [hex]; simp; omega
  let θ' : Th := fun id => if rows.length + (EX i).length ≤ id ∧ id < (rw_ i).length then θi id else θ id
  have hnone : ∀ id, rows.length + (EX i).length ≤ id → id < (rw_ i).length → θ id = none := fun id h1 h2 => by
    cases e : θ id with
    | none => rfl
    | some K =>
      rcases hI.dom id K e with h | ⟨_, p, q, r, e1, e2, e3⟩
      · have := hI.base.dom id K h; omega
      · obtain ⟨o1, o2, o3, _⟩ := Tr.owner htr h0 (i := m) (Nat.le_refl _) e2
        have hq : q = i := by
          rcases Nat.lt_trichotomy q i with h | h | h
          · have := htr.ex_len (i := q + 1) (j := i) (by omega) (by omega); omega
          · exact h
          · have := htr.ex_len (i := i + 1) (j := q) (by omega) (by omega); omega
        rw [hq, hSi] at e3
        simp at e3
  have hEx : Ext θ θ' := fun id K e => by
    simp only [θ']
    rw [if_neg]
    · exact e
    · rintro ⟨h1, h2⟩
      rw [hnone id h1 h2] at e
      simp at e
  have hEi : Ext θi (θ'.upto (rw_ i).length) := fun id K e => by
    have hlt := hF.rel.dom id K e
    refine Th.upto_some.2 ⟨hlt, ?_⟩
    simp only [θ']
    split
    · exact e
    · rename_i hh
      have hid : id < (rows ++ maskE (L i).2 (EX i)).length := by omega
      exact (Th.upto_some.1 (ext_back hrel hF hid e)).2
  have hnew : ∀ id K, rows.length + (EX i).length ≤ id → θi id = some K → w.heap.size ≤ K.b := fun id K h1 e => by
    have hn : (θ.upto (rows.length + (EX i).length)) id = none := by unfold Th.upto; rw [if_neg (by omega)]
    rcases (hF.fresh id K e hn).2 with h | ⟨j, r, L', a1, _, a2, _⟩
    · exact h
    · have := (List.getElem?_eq_some_iff.1 a1).1
      omega
  have hown : ∀ p q r, (EX m)[p]? = some (q, r) → (q = i ↔ (rows.length + (EX i).length ≤ rows.length + p ∧ rows.length + p < (rw_ i).length)) := fun p q r e2 => by
    obtain ⟨o1, o2, o3, _⟩ := Tr.owner htr h0 (i := m) (Nat.le_refl _) e2
    constructor
    · rintro rfl; omega
    · rintro ⟨h1, h2⟩
      rcases Nat.lt_trichotomy q i with h | h | h
      · have := htr.ex_len (i := q + 1) (j := i) (by omega) (by omega); omega
      · exact h
      · have := htr.ex_len (i := i + 1) (j := q) (by omega) (by omega); omega
  refine ⟨θ', w', v', st, ?_, hEx, hclean⟩
  have hos : w'.os = w.os := hF.os
  refine ⟨?_, ?_, ?_, hI.base.later hF.size hclean, hI.ext.trans hEx, ?_, ?_, ?_, hF.os.trans hI.os, hF.tape.trans hI.tape, hF.output.trans hI.output, Nat.le_trans hI.wsize hF.size, ?_, hI.base0⟩
  · cases o.dst <;> simp [Act.put, hI.size]
  · intro t x' hx'
    have htl : t < sl0.length := by
      have := (Array.getElem?_eq_some_iff.1 hx').1
      have h2 : (a.put o.dst v').tmps.size = sl0.length := by cases o.dst <;> simp [Act.put, hI.size]
      omega
    have hdst : (L i).1.dst = o.dst := by rw [hLo]; exact copx_dst
    by_cases hd : o.dst = some t
    · have e1 : slotAt sl0 rows.length L v (fun j => rows.length + (EX j).length) (fun j => S j || j == i) m t = (v i, rows.length + (EX (i + 1)).length) := by
        rw [slotAt_skip (i := i + 1) m (by omega) (fun j hj hjm hdj => ?_)]
        · simp only [slotAt]
          rw [if_pos ⟨by simp, by rw [hdst]; exact hd⟩]
        · have hne : (j == i) = false := by simp; omega
          simp only [hne, Bool.or_false]
          cases hSj : S j with
          | false => rfl
          | true =>
            rcases hap j hjm i (by omega) with h | h
            · have := hclosed j hSj hjm i h
              rw [hSi] at this; simp at this
            · exact absurd hdj ((apartI_spec h).2.1 t (by rw [hdst]; exact hd))
      rw [e1]
      simp only
      have hx : x' = v' := by
        rw [hd] at hx'
        simp only [Act.put] at hx'
        rw [Array.getElem?_setIfInBounds_self] at hx'
        split at hx'
        · injection hx' with hx'; exact hx'.symm
        · simp at hx'
      rw [hx, hn1]
      exact hv'.mono hEi
    · have e1 : slotAt sl0 rows.length L v (fun j => rows.length + (EX j).length) (fun j => S j || j == i) m t = slotAt sl0 rows.length L v (fun j => rows.length + (EX j).length) S m t :=
        slotAt_congr m (fun j hj hdj => by
          by_cases hji : j = i
          · subst hji; rw [hdst] at hdj; exact absurd hdj hd
          · have : (j == i) = false := by simpa using hji
            simp [this])
      rw [e1]
      have hx2 : a.tmps[t]? = some x' := by
        cases hod : o.dst with
        | none => rw [hod] at hx'; exact hx'
        | some d =>
          rw [hod] at hx'
          simp only [Act.put] at hx'
          rw [Array.getElem?_setIfInBounds_ne (by rintro rfl; exact hd hod)] at hx'
          exact hx'
      exact (hI.slots t x' hx2).mono (Th.upto_mono hEx (Nat.le_refl _))
  · intro p q r e hS'
    by_cases hq : q = i
    · subst hq
      obtain ⟨o1, o2, o3, o4⟩ := Tr.owner htr h0 (i := m) (Nat.le_refl _) e
      rw [hn1]
      exact (hF.rel.row _ r o4).mono hEi (fun _ _ => rfl)
    · have hSq : S q = true := by
        have : (q == i) = false := by simpa using hq
        simpa [this] using hS'
      exact (hI.rows_ p q r e hSq).mono (Th.upto_mono hEx (Nat.le_refl _)) (fun K hK => hclean _ (hI.blk _ K (Th.upto_some.1 hK).2))
  · intro id K e
    simp only [θ'] at e
    split at e
    · rename_i hh
      refine .inr ⟨Nat.le_trans hI.wsize (hnew id K hh.1 e), ?_⟩
      have hpl : id - rows.length < (EX (i + 1)).length := by omega
      have hge : (EX i).length ≤ id - rows.length := by omega
      have hg2 := htr.ex_prefix (i := i + 1) (j := m) (by omega) (Nat.le_refl _) hpl
      rw [hex, List.getElem?_append_right hge] at hg2
      have hlt2 : id - rows.length - (EX i).length < (((rw_ i).drop (rows.length + (EX i).length)).map fun x => (i, x)).length := by simp; omega
      rw [List.getElem?_eq_getElem hlt2] at hg2
      exact ⟨id - rows.length, i, ((rw_ i).drop (rows.length + (EX i).length))[id - rows.length - (EX i).length]'(by simpa using hlt2), by omega, by rw [hg2]; simp, by simp⟩
    · rcases hI.dom id K e with h | ⟨h1, p, q, r, h2, h3, h4⟩
      · exact .inl h
      · exact .inr ⟨h1, p, q, r, h2, h3, by simp [h4]⟩
  · intro p p' q q' r r' K K' hne e hS1 ho1 e' hS2 hl2 hK hK'
    simp only [θ'] at hK hK'
    by_cases hq : q = i
    · subst hq
      rw [if_pos ((hown p q r e).1 rfl)] at hK
      obtain ⟨_, b2, _, b4⟩ := Tr.owner htr h0 (i := m) (Nat.le_refl _) e
      by_cases hq' : q' = q
      · subst hq'
        rw [if_pos ((hown p' q' r' e').1 rfl)] at hK'
        obtain ⟨_, _, _, b4'⟩ := Tr.owner htr h0 (i := m) (Nat.le_refl _) e'
        exact hF.rel.inj _ _ r r' K K' (by omega) b4 ho1 b4' hl2 hK hK'
      · rw [if_neg (fun h => hq' ((hown p' q' r' e').2 h))] at hK'
        have h1 := hnew _ K (by omega) hK
        have h2 := hI.blk _ K' hK'
        omega
    · rw [if_neg (fun h => hq ((hown p q r e).2 h))] at hK
      by_cases hq' : q' = i
      · subst hq'
        rw [if_pos ((hown p' q' r' e').1 rfl)] at hK'
        obtain ⟨_, b2, _, b4⟩ := Tr.owner htr h0 (i := m) (Nat.le_refl _) e'
        have h1 := hnew _ K' (by omega) hK'
        have h2 := hI.blk _ K hK
        omega
      · rw [if_neg (fun h => hq' ((hown p' q' r' e').2 h))] at hK'
        have c1 : S q = true := by have : (q == i) = false := by simpa using hq
                                   simpa [this] using hS1
        have c2 : S q' = true := by have : (q' == i) = false := by simpa using hq'
                                    simpa [this] using hS2
        exact hI.inj p p' q q' r r' K K' hne e c1 ho1 e' c2 hl2 hK hK'
  · intro id K e
    simp only [θ'] at e
    split at e
    · exact hF.rel.blk id K e
    · exact Nat.lt_of_lt_of_le (hI.blk id K e) hF.size
  · intro b hb hx
    rw [hclean b (Nat.lt_of_lt_of_le hb hI.wsize)]
    exact hI.heap b hb hx
end
end Go.Abs
