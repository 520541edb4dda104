/- The heap at a law's start, with slices of whole numbers among the arguments. -/
import Derived.Test.YtiejbjajbehcfaaDoorG2
import Derived.Test.YtiejbjajbehcfaaDoorW5
import Derived.ChangeSlices
import Derived.SizedLaws
set_option linter.unusedVariables false
set_option linter.unusedSimpArgs false
set_option maxRecDepth 10000
namespace Go.Abs
open Go.Proofs Go.RowKit Go.ChangeShapes Go.WideShapes Go.ChangeAt Go.WideElems
/-- A slice that was handed in: where it lies, its length and capacity, its numbers. -/
structure ArgS where
  b : Nat
  o : Nat
  len : Nat
  cap : Nat
  zs : List Int
def ArgS.ok (W : World) (a : ArgS) : Prop := a.len ≤ a.cap ∧ a.cap ≤ maxLen ∧ a.zs.length = a.cap ∧ (∀ (i : Nat) (x : Int), a.zs[i]? = some x → W.cell? ⟨a.b, a.o + i, none⟩ = some (.int .i64 x)) ∧ a.b < W.heap.size
def argOK (W : World) : Option ArgS → Prop
  | none => True
  | some a => a.ok W
def argRow : Option ArgS → Row
  | none => .dead
  | some a => .ro (nums .i64 a.zs)
def argAV (k : Nat) : Option ArgS → AV
  | none => .nilslice
  | some a => .slice k 0 a.len (.at_ a.cap)
def argVal : Option ArgS → Value
  | none => .slice none 0 0
  | some a => .slice (some ⟨a.b, a.o, none⟩) a.len a.cap
def argList : Option ArgS → List Int
  | none => []
  | some a => a.zs.take a.len
def argLoc : Option ArgS → Option Loc
  | none => none
  | some a => some ⟨a.b, a.o, 0⟩
def aRows (l : List (Option ArgS)) : List Row := gRows ++ l.map argRow
def aTh (l : List (Option ArgS)) : Th := fun id => if id < 2 then gTh id else (l[id - 2]?).bind argLoc

/-- The numbers that are read, as a datum. -/
def argD {H : Type} (d : DataW H) : Option ArgS → Prop
  | none => True
  | some a => ∃ es sp, d = .slice es sp ∧ es.length + sp.length = a.zs.length
def argSmall : Option ArgS → Prop
  | none => True
  | some a => a.zs.length ≤ 17592186044416
theorem slice_arg {P : Program} {W : World} {H : Type} {enc : TypeId × Value → H} {base : Nat} {spare held : _} {fuel : Nat} {t e : TypeId} {v : Value} {x : _} {b0 : Nat} (ht : P.underlying t = some (.slice e)) (he : P.underlying e = some (.int .i64)) (hc : P.cellsOf e = 1) (hv : Value.okWide P W .any b0 t v)
    (hs : ∀ b, spare b = true) (h : DataW.trod enc P W base spare held fuel t [v] = some x) : ∃ a : Option ArgS, v = argVal a ∧ argOK W a ∧ argD x.1 a := by
  obtain ⟨ad, len, cap, rfl⟩ := okWide_slice ht hv
  rcases open_ints ht he hc h with ⟨hcs, _⟩ | ⟨y, l, c, zs, hcs, _, hl, hm, hz, hxx, hcell, _⟩
  · simp at hcs
    obtain ⟨rfl, rfl, rfl⟩ := hcs
    exact ⟨none, rfl, trivial, trivial⟩
  · simp at hcs
    obtain ⟨rfl, rfl, rfl⟩ := hcs
    rw [hs, if_pos rfl] at hz
    have hsp : y.spot = none ∧ y.block < W.heap.size := by
      simp only [Value.okWide, ht, Cell.okWide, Cell.ok] at hv
      obtain ⟨_, _, _, hsp, row, cells, hsh, _⟩ := hv
      refine ⟨hsp, ?_⟩
      unfold World.shape? at hsh
      by_cases hlt : y.block < W.heap.size
      · exact hlt
      · rw [show W.heap[y.block]? = none from Array.getElem?_eq_none (by omega)] at hsh
        simp at hsh
    obtain ⟨b, o, sp⟩ := y
    obtain ⟨rfl, hb⟩ := hsp
    refine ⟨some ⟨b, o, len, cap, zs⟩, rfl, ⟨hl, hm, hz, ?_, hb⟩, ⟨_, _, by rw [hxx], by simp [lits]; omega⟩⟩
    intro i n hn
    have hi : i < zs.length := (List.getElem?_eq_some_iff.1 hn).1
    have := hcell i hi
    have e1 : (⟨b, o, none⟩ : Addr).add i = ⟨b, o + i, none⟩ := by
      unfold Addr.add
      split
      · rename_i h0; subst h0; rfl
      · rfl
    rw [e1] at this
    rw [this, List.getD_eq_getElem?_getD, hn]
    rfl

theorem aHRel {κ : KRel} {W : World} {l : List (Option ArgS)} (h : laidMetH Tryd.prog laidL W) (hl : ∀ a ∈ l, argOK W a) : HRel κ (aTh l) (aRows l) W := by
  have hg := gHRel (κ := κ) h
  have hge : ∀ id L, 2 ≤ id → aTh l id = some L → ∃ a, l[id - 2]? = some (some a) ∧ L = ⟨a.b, a.o, 0⟩ := by
    intro id L h2 e
    unfold aTh at e
    rw [if_neg (by omega)] at e
    cases hx : l[id - 2]? with
    | none => rw [hx] at e; simp at e
    | some y =>
      rw [hx] at e
      cases y with
      | none => simp [argLoc] at e
      | some a => simp [argLoc] at e; exact ⟨a, rfl, e.symm⟩
  refine ⟨?_, ?_, ?_, ?_⟩
  · intro id L e
    simp only [aRows, gRows, List.length_append, List.length_cons, List.length_nil, List.length_map]
    by_cases h2 : id < 2
    · omega
    · obtain ⟨a, ha, _⟩ := hge id L (by omega) e
      have := (List.getElem?_eq_some_iff.1 ha).1
      omega
  · intro id L e
    by_cases h2 : id < 2
    · unfold aTh at e
      rw [if_pos h2] at e
      exact hg.blk id L e
    · obtain ⟨a, ha, rfl⟩ := hge id L (by omega) e
      exact (hl _ (List.mem_of_getElem? ha)).2.2.2.2
  · intro id r e
    by_cases h2 : id < 2
    · have e2 : gRows[id]? = some r := by
        unfold aRows at e
        rwa [List.getElem?_append_left (by simp [gRows]; omega)] at e
      have := hg.row id r e2
      have ht : aTh l id = gTh id := by unfold aTh; rw [if_pos h2]
      match id, h2 with
      | 0, _ =>
        injection e2 with e2; subst e2
        obtain ⟨L, hL, hc⟩ := this
        refine ⟨L, ht.trans hL, fun j x hx => ?_⟩
        rw [nums_get] at hx
        obtain ⟨n, hn, rfl⟩ := Option.map_eq_some_iff.1 hx
        obtain ⟨x', h1, h3, h4⟩ := hc j (.int .u8 n) (by rw [nums_get, hn]; rfl)
        cases h3
        exact ⟨_, h1, .int _ _, h4⟩
      | 1, _ =>
        injection e2 with e2; subst e2
        obtain ⟨L, hL, hc⟩ := this
        refine ⟨L, ht.trans hL, fun j x hx => ?_⟩
        rw [nums_get] at hx
        obtain ⟨n, hn, rfl⟩ := Option.map_eq_some_iff.1 hx
        obtain ⟨x', h1, h3, h4⟩ := hc j (.int .u8 n) (by rw [nums_get, hn]; rfl)
        cases h3
        exact ⟨_, h1, .int _ _, h4⟩
    · unfold aRows at e
      rw [List.getElem?_append_right (by simp [gRows]; omega), show gRows.length = 2 from rfl, List.getElem?_map] at e
      obtain ⟨y, hy, rfl⟩ := Option.map_eq_some_iff.1 e
      cases y with
      | none => trivial
      | some a =>
        refine ⟨⟨a.b, a.o, 0⟩, ?_, fun j x hx => ?_⟩
        · unfold aTh
          rw [if_neg (by omega), hy]
          rfl
        · rw [nums_get] at hx
          obtain ⟨n, hn, rfl⟩ := Option.map_eq_some_iff.1 hx
          exact ⟨_, (hl _ (List.mem_of_getElem? hy)).2.2.2.1 j n hn, .int _ _, rfl⟩
  · intro i j r s L L' hij hr ho
    exfalso
    have hm := List.mem_of_getElem? hr
    unfold aRows at hm
    rw [List.mem_append] at hm
    rcases hm with hm | hm
    · simp [gRows] at hm
      rcases hm with rfl | rfl <;> simp [Row.owned] at ho
    · obtain ⟨y, _, rfl⟩ := List.mem_map.1 hm
      cases y <;> simp [argRow, Row.owned] at ho
theorem aGRel {l : List (Option ArgS)} : GRel (aTh l) [0, 1] := by
  intro i g e
  match i, e with
  | 0, e => injection e with e; subst e; exact ⟨⟨0, 0, 0⟩, rfl, rfl, rfl⟩
  | 1, e => injection e with e; subst e; exact ⟨⟨1, 0, 0⟩, rfl, rfl, rfl⟩
  | n + 2, e => simp at e
theorem aV {l : List (Option ArgS)} {W : World} {k : Nat} {a : Option ArgS} (ha : l[k]? = some a) (hok : argOK W a) : V (aTh l) (argAV (2 + k) a) (argVal a) := by
  cases a with
  | none => exact .nilslice
  | some a =>
    have e : aTh l (2 + k) = some ⟨a.b, a.o, 0⟩ := by
      unfold aTh
      rw [if_neg (by omega), show 2 + k - 2 = k from by omega, ha]
      rfl
    exact .sliceAt e (fun _ => rfl) hok.1
theorem aIsL {l : List (Option ArgS)} {W : World} {k : Nat} {a : Option ArgS} (ha : l[k]? = some a) (hok : argOK W a) (hsm : argSmall a) : IsL (aRows l) (argAV (2 + k) a) (argList a) ∧ (argList a).length < 4611686018427387904 := by
  cases a with
  | none => exact ⟨IsL_nil, by simp [argList]⟩
  | some a =>
    obtain ⟨h1, h2, h3, _⟩ := hok
    have hr : row? (aRows l) (2 + k) = some (nums .i64 a.zs) := by
      unfold row? aRows
      rw [List.getElem?_append_right (by simp [gRows]), show 2 + k - gRows.length = k from by simp [gRows], List.getElem?_map, ha]
      rfl
    have hlen : (a.zs.take a.len).length = a.len := by simp; omega
    refine ⟨?_, ?_⟩
    · have := IsL_mk (n := 0) (id := 2 + k) (off := 0) (c := .at_ a.cap) (l := a.zs.take a.len) hr (by
        rw [hlen, nums_seg, if_pos (by omega)]
        simp)
      rw [hlen] at this
      exact this
    · simp only [argList]
      rw [hlen]
      have : a.zs.length ≤ 17592186044416 := hsm
      omega
/-- awake, at a law's heap. -/
theorem awake_a (l : List (Option ArgS)) : ∀ H, H.all (Row.under 0) = true → Ret F 22 [] (aRows l ++ H) = some (.bool true, aRows l ++ H, none) := by
  intro H hH
  have := awake_any (X := l.map argRow ++ H) (by
    rw [List.all_eq_true]
    intro y hy
    refine Sh.runder_mono (Nat.zero_le _) ?_
    rw [List.mem_append] at hy
    rcases hy with hy | hy
    · obtain ⟨a, _, rfl⟩ := List.mem_map.1 hy
      cases a <;> simp [argRow, Row.under, AV.under, nums]
    · exact List.all_eq_true.1 hH y hy)
  simpa [aRows] using this
theorem small_arg {P : Program} {H : Type} {ts : List TypeId} {ds : List (DataW H)} (h : (DataW.weightsEach P ts ds).all (· ≤ reachBytes) = true) {j : Nat} {t e : TypeId} {d : DataW H} (ht : ts[j]? = some t) (hd : ds[j]? = some d) (hu : P.underlying t = some (.slice e)) (hb : P.bytesOf e = 8) {a : Option ArgS} (ha : argD d a) : argSmall a := by
  cases a with
  | none => trivial
  | some a =>
    obtain ⟨es, sp, rfl, hl⟩ := ha
    have := sized_slice h ht hd hu
    rw [hb, hl] at this
    have h2 : reachBytes = 140737488351232 - 4096 + 0 ∨ reachBytes ≤ 140737488355328 := by right; decide
    show a.zs.length ≤ 17592186044416
    rcases h2 with h2 | h2 <;> omega
end Go.Abs
