/- The soundness of the operations that make or write memory. -/
import Derived.Test.YtiejbjajbehcfaaDoorA9
import Derived.Laws.IdiomCopy
set_option linter.unusedVariables false
set_option linter.unusedSimpArgs false
namespace Go.Abs
variable {κ : KRel}
section ops
variable {P : Program} {gl : List Nat} {θ : Th} {rows : List Row} {w : World} {sl : List AV} {a : Act} {low : Nat}

/-- What an operation comes to. -/
def Eff (κ : KRel) (P : Program) (θ : Th) (rows : List Row) (low : Nat) (w : World) (a : Act) (o : Oper) (v : AV) (rows' : List Row) (low' : Nat) : Prop :=
  ∃ θ' w' nv v', (execOp a.eval o).run P w = .ok nv w' ∧ (nv = .value v' ∨ (nv = .skip ∧ v' = undef)) ∧ V θ' v v' ∧ Fr κ θ θ' rows rows' low low' w w'

theorem V_undef (θ : Th) : V θ (.tup []) undef := V.tup (l' := []) rfl (fun i x x' h => by simp at h)

theorem CellsRel.of_VL {θ : Th} {vs : List AV} {c : Array Value} {b : Nat} (h : VL θ vs c.toList) (h1 : ∀ v ∈ c.toList, v.oneCell' = true) : CellsRel θ ⟨b, 0, c.size⟩ vs c :=
  ⟨by have := h.1; simp at this; simp; omega, rfl, fun j x hx => by
    obtain ⟨x', a, b⟩ := h.get hx
    exact ⟨x', by simpa using a, b, h1 _ (List.mem_of_getElem? a)⟩⟩

/-- A new row of cells. -/
theorem eff_alloc (hr : HRel κ θ rows w) (hlow : low ≤ rows.length) {vs : List AV} {c : Array Value} (hv : VL θ vs c.toList) (h1 : ∀ v ∈ c.toList, v.oneCell' = true) (T : TypeId) :
    Fr κ θ (θ.add rows.length ⟨w.heap.size, 0, c.size⟩) rows (rows ++ [.cells vs]) low low w { w with heap := w.heap.push (.cells c T) } :=
  Fr.push (w' := { w with heap := w.heap.push (.cells c T) }) hr low hlow (.cells c T) rfl rfl rfl rfl 0 c.size (.cells vs)
    ⟨_, c, T, Th.add_self _ _ _, by simp, CellsRel.of_VL (hv.mono (Th.ext_add hr.none_len _)) h1⟩ rfl

theorem replicate_flatten_size (n : Nat) (z : List AV) : ((List.replicate n z).flatten).length = n * z.length := by
  induction n with
  | zero => simp
  | succ n ih => simp [List.replicate_succ, ih, Nat.succ_mul]; omega

theorem flatten_get {α : Type} (z : List α) (n i : Nat) (h : i < n * z.length) : ((List.replicate n z).flatten)[i]? = z[i % z.length]? := by
  induction n generalizing i with
  | zero => simp at h
  | succ n ih =>
    rw [List.replicate_succ, List.flatten_cons]
    rcases Nat.lt_or_ge i z.length with hi | hi
    · rw [List.getElem?_append_left hi, Nat.mod_eq_of_lt hi]
    · rw [List.getElem?_append_right hi, ih (i - z.length) (by rw [Nat.succ_mul] at h; omega)]
      congr 1
      exact (Nat.mod_eq_sub_mod hi).symm

/-- The zero cells of so many elements. -/
theorem zeros_V {z : AV} {zv : Value} (hz : VL θ z.cells zv.cells.toList) (n : Nat) (hpos : 0 < z.cells.length) :
    VL θ ((List.replicate n z.cells).flatten) (((Array.range (n * z.cells.length)).map (zv.cells[· % zv.cells.size]!)).toList) := by
  have hsz : zv.cells.size = z.cells.length := by have := hz.1; simp at this; exact this.symm
  refine ⟨by simp [replicate_flatten_size], fun i x x' a b => ?_⟩
  have hi : i < n * z.cells.length := by
    have := (List.getElem?_eq_some_iff.1 a).1
    rwa [replicate_flatten_size] at this
  rw [flatten_get _ _ _ hi] at a
  obtain ⟨y, p, q⟩ := hz.get a
  have : x' = y := by
    simp only [Array.toList_map, Array.toList_range, List.getElem?_map, List.getElem?_range hi, Option.map_some, Option.some.injEq] at b
    rw [← b, hsz]
    have hlt : i % z.cells.length < zv.cells.size := by rw [hsz]; exact Nat.mod_lt _ hpos
    rw [getElem!_pos zv.cells _ hlt]
    have := p
    simp at this
    rw [Array.getElem?_eq_getElem hlt] at this
    injection this
  rw [this]; exact q

theorem ones_of {l : List AV} {l' : List Value} (h : VL θ l l') (h1 : l.all AV.one = true) : ∀ v ∈ l', v.oneCell' = true := fun v hv => by
  obtain ⟨i, hi⟩ := List.mem_iff_getElem?.1 hv
  have hlt : i < l.length := by have := (List.getElem?_eq_some_iff.1 hi).1; have := h.1; omega
  have hV := h.2 i _ v (List.getElem?_eq_getElem hlt) hi
  exact (V.oneCell hV (List.all_eq_true.1 h1 _ (List.getElem_mem hlt))).1

theorem snd_box (hr : HRel κ θ rows w) (hlow : low ≤ rows.length) {x : AV} {x' : Value} (hx : V θ x x') (h1 : x.cells.all AV.one = true) (t : TypeId) :
    ∃ θ' w', (Instr.box t x').run P w = .ok (.pointer (some ⟨w.heap.size, 0, none⟩)) w' ∧ V θ' (.ptr rows.length 0) (.pointer (some ⟨w.heap.size, 0, none⟩)) ∧ Fr κ θ θ' rows (rows ++ [.cells x.cells]) low low w w' := by
  refine ⟨_, _, ?_, ?_, eff_alloc hr hlow (V.cells hx h1) (ones_of (V.cells hx h1) h1) t⟩
  · simp [Instr.box, newVar, newRow, newObj, Sem.run]
  · have := V.ptr (off := 0) (Th.add_self θ rows.length ⟨w.heap.size, 0, x'.cells.size⟩)
    simpa using this

theorem setRow_Fr (hr : HRel κ θ rows w) {id : Nat} {vs : List AV} (hid : rows[id]? = some (.cells vs)) {L : Loc} (hL : θ id = some L) {c c' : Array Value} {T : TypeId} (hb : w.heap[L.b]? = some (.cells c T (0, 0)))
    {vs' : List AV} (hc : CellsRel θ L vs' c') : Fr κ θ θ rows (rows.set id (.cells vs')) low (lower low id) w (w.setRow L.b c') :=
  Fr.setrow hr low hid rfl hL (by simp) (fun k hk => setRow_other w L.b k c' hk) rfl rfl rfl (.cells vs') ⟨L, c', T, hL, setRow_heap w L.b c c' T (0, 0) hb, hc⟩ rfl

theorem CellsRel.splice {L : Loc} {vs l : List AV} {l' : List Value} {c : Array Value} (hc : CellsRel θ L vs c) (hl : VL θ l l') (hone : ∀ v ∈ l', v.oneCell' = true) {off : Nat} (hle : off + l.length ≤ vs.length) :
    CellsRel θ L (Abs.splice vs off l) (c.toList.take (L.d + off) ++ (l' ++ c.toList.drop (L.d + off + l'.length))).toArray := by
  have hlen : l'.length = l.length := hl.1.symm
  have h2 := hc.1
  have h1 := hc.2.1
  refine ⟨by simp [Abs.splice]; omega, by simp; omega, ?_⟩
  intro j x hx
  unfold Abs.splice at hx
  have e1 : (List.take (L.d + off) c.toList).length = L.d + off := by simp; omega
  have e0 : (List.take off vs).length = off := by simp; omega
  rw [List.append_assoc] at hx
  rw [List.getElem?_toArray]
  rcases Nat.lt_or_ge j off with h | h
  · rw [List.getElem?_append_left (by omega), List.getElem?_take_of_lt h] at hx
    obtain ⟨x', p, q, o⟩ := hc.2.2 j x hx
    refine ⟨x', ?_, q, o⟩
    rw [List.getElem?_append_left (by omega), List.getElem?_take_of_lt (by omega)]
    simpa using p
  · rw [List.getElem?_append_right (by omega), e0] at hx
    rw [List.getElem?_append_right (by omega), e1, show L.d + j - (L.d + off) = j - off from by omega]
    rcases Nat.lt_or_ge j (off + l.length) with h' | h'
    · rw [List.getElem?_append_left (by omega)] at hx
      obtain ⟨x', p, q⟩ := hl.get hx
      exact ⟨x', by rw [List.getElem?_append_left (by omega)]; exact p, q, hone _ (List.mem_of_getElem? p)⟩
    · rw [List.getElem?_append_right (by omega), List.getElem?_drop, show off + l.length + (j - off - l.length) = j from by omega] at hx
      obtain ⟨x', p, q, o⟩ := hc.2.2 j x hx
      refine ⟨x', ?_, q, o⟩
      rw [List.getElem?_append_right (by omega), List.getElem?_drop, show L.d + off + l'.length + (j - off - l'.length) = L.d + j from by omega]
      simpa using p

theorem snd_storeN (hr : HRel κ θ rows w) {t : TypeId} {p : AV} {p' x' : Value} (hp : V θ p p') {id off : Nat} (ep : p = .ptr id off) {l : List AV} {l' : List Value} (hl : VL θ l l') (hcells : x'.cells.toList = l') (hsz : szT P t = some l.length)
    {vs : List AV} (hid : rows[id]? = some (.cells vs)) (hle : off + l.length ≤ vs.length) (hone : ∀ v ∈ l', v.oneCell' = true) :
    ∃ w', (Instr.storeAt t p' x').run P w = .ok () w' ∧ Fr κ θ θ rows (rows.set id (.cells (splice vs off l))) low (lower low id) w w' := by
  subst ep
  cases hp with
  | ptr hL =>
  rename_i L
  obtain ⟨L', c, T, hL', hb, hc⟩ := hr.row id _ hid
  rw [hL] at hL'; injection hL' with hL'; subst hL'
  have hlen : l'.length = l.length := hl.1.symm
  have hcs : x'.cells.size = l.length := by rw [← hlen, ← hcells]; simp
  have hst := run_storeCells_at (P := P) L.b (L.d + off) T l' 0 c w hb (by have := hc.1; omega) hone
  simp only [Nat.add_zero, List.append_assoc] at hst
  refine ⟨_, ?_, setRow_Fr hr hid hL hb (hc.splice hl hone hle)⟩
  simp only [Instr.storeAt, Instr.sureAddr, storeVar, Sem.run_bind, Sem.run_pure, Result.andThen_ok, run_szT hsz, hcs, hcells]
  simp [hst]

/-- The same, of one row alone. -/
theorem snd_storeR {t : TypeId} {p' x' : Value} {id off : Nat} (hp : V θ (.ptr id off) p') {l : List AV} {l' : List Value} (hl : VL θ l l') (hcells : x'.cells.toList = l') (hsz : szT P t = some l.length)
    {vs : List AV} {L : Loc} (hL : θ id = some L) (hrow : RowRel κ θ id w (.cells vs)) (hle : off + l.length ≤ vs.length) (hone : ∀ v ∈ l', v.oneCell' = true) :
    ∃ w', (Instr.storeAt t p' x').run P w = .ok () w' ∧ RowRel κ θ id w' (.cells (splice vs off l)) ∧ w'.heap.size = w.heap.size ∧ (∀ k, k ≠ L.b → w'.heap[k]? = w.heap[k]?) ∧ w'.os = w.os ∧ w'.tape = w.tape ∧ w'.output = w.output := by
  cases hp with
  | ptr hL1 =>
  rename_i L1
  rw [hL] at hL1; injection hL1 with hL1; subst hL1
  obtain ⟨L', c, T, hL', hb, hc⟩ := hrow
  rw [hL] at hL'; injection hL' with hL'; subst hL'
  have hlen : l'.length = l.length := hl.1.symm
  have hcs : x'.cells.size = l.length := by rw [← hlen, ← hcells]; simp
  have hst := run_storeCells_at (P := P) L.b (L.d + off) T l' 0 c w hb (by have := hc.1; omega) hone
  simp only [Nat.add_zero, List.append_assoc] at hst
  refine ⟨_, ?_, ⟨L, _, T, hL, setRow_heap w L.b c _ T (0, 0) hb, hc.splice hl hone hle⟩, by simp, fun k hk => setRow_other w L.b k _ hk, rfl, rfl, rfl⟩
  simp only [Instr.storeAt, Instr.sureAddr, storeVar, Sem.run_bind, Sem.run_pure, Result.andThen_ok, run_szT hsz, hcs, hcells]
  simp [hst]
end ops
end Go.Abs
