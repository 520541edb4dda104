/- The heap at a law's start: the tables of math/bits, and the arguments. -/
import Derived.Test.YtiejbjajbehcfaaDoorG1
import Derived.Test.YtiejbjajbehcfaaDoorRows
import Derived.ProofKit
import Derived.LaidMore
import Derived.OpenShut
import Derived.Stop.Joined
set_option linter.unusedVariables false
set_option linter.unusedSimpArgs false
set_option maxRecDepth 10000
namespace Go.Abs
open Go.Proofs Go.RowKit Go.ChangeShapes Go.WideShapes Go.ChangeAt Go.WideElems
open Go.Proofs.YtiejbjajbehcfaaDoor (Rows.laid_math_bits_deBruijn32tab Rows.laid_math_bits_deBruijn64tab)

def t32 : List Int := [0, 1, 28, 2, 29, 14, 24, 3, 30, 22, 20, 15, 25, 17, 4, 8, 31, 27, 13, 23, 21, 19, 16, 7, 26, 12, 18, 6, 11, 5, 10, 9]
def t64 : List Int := [0, 1, 56, 2, 57, 49, 28, 3, 61, 58, 42, 50, 38, 29, 17, 4, 62, 47, 59, 36, 45, 43, 51, 22, 53, 39, 33, 30, 24, 18, 12, 5, 63, 55, 48, 27, 60, 41, 37, 16, 46, 35, 44, 21, 52, 32, 23, 11, 54, 26, 40, 15, 34, 20, 31, 10, 25, 14, 19, 9, 13, 8, 7, 6]
def laidL : List (String × DataW Unit) := [("math/bits.deBruijn32tab", Rows.laid_math_bits_deBruijn32tab), ("math/bits.deBruijn64tab", Rows.laid_math_bits_deBruijn64tab)]
/-- The tables' rows. -/
def gRows : List Row := [.ro (nums .u8 t32), .ro (nums .u8 t64)]

theorem g0 : Tryd.prog.globalNamed "math/bits.deBruijn32tab" = some 0 := by kernel_rfl
theorem g1 : Tryd.prog.globalNamed "math/bits.deBruijn64tab" = some 1 := by kernel_rfl
theorem ty0 : (Tryd.prog.globals[0]?).map (·.type) = some 134 := by kernel_rfl
theorem ty1 : (Tryd.prog.globals[1]?).map (·.type) = some 135 := by kernel_rfl

/-- The cells of a table. -/
theorem table_cells {P : Program} {W : World} {H : Type} {enc : TypeId × Value → H} {base : Nat} {spare held : _} {fuel t e n : Nat} {cs : List Value} {l : List Int} {q : _} (ht : P.underlying t = some (.array n e)) (he : P.underlying e = some (.int .u8)) (hc : P.cellsOf e = 1)
    (h : DataW.trod enc P W base spare held fuel t cs = some (.agg (l.map fun n => .lit (.int .u8 n)), q)) {i : Nat} (hi : i < n) {x : Int} (hx : l[i]? = some x) : cs[i]? = some (.int .u8 x) := by
  obtain ⟨xs, m, rfl, hx1, hlen, hn, hel⟩ := DataW.trod_array ht h
  have h0 := hel i hi
  rw [hc, Nat.mul_one] at h0
  simp only [Prod.mk.injEq, DataW.agg.injEq] at hx1
  have hxi : i < xs.length := by omega
  rw [List.getElem?_eq_getElem hxi] at h0
  obtain ⟨k, e1, e2, _⟩ := DataW.trod_int he h0
  have e3 : (xs.map (·.1))[i]? = (l.map fun n => DataW.lit (.int .u8 n))[i]? := by rw [← hx1.1]
  rw [List.getElem?_map, List.getElem?_map, List.getElem?_eq_getElem hxi, e2, hx] at e3
  simp only [Option.map_some, Option.some.injEq, DataW.lit.injEq, Lit.int.injEq, true_and] at e3
  subst e3
  have e4 : (cs.drop i)[0]? = some (.int .u8 k) := by
    cases hd : cs.drop i with
    | nil => rw [hd] at e1; simp at e1
    | cons a b => rw [hd] at e1; simp at e1; simp [e1]
  rw [List.getElem?_drop] at e4
  simpa using e4

/-- What the laid variables give. -/
theorem of_laid {W : World} (h : laidMetH Tryd.prog laidL W) : (∀ (i : Nat) (x : Int), t32[i]? = some x → W.cell? ⟨0, i, none⟩ = some (.int .u8 x)) ∧ (∀ (i : Nat) (x : Int), t64[i]? = some x → W.cell? ⟨1, i, none⟩ = some (.int .u8 x)) ∧ 1 < W.heap.size := by
  rw [MakeChecks.laidMetH_plain _ _ _ (by kernel_rfl)] at h
  obtain ⟨ps, ⟨b0, u0, cs0, f0, p0, q0, hg0, ht0, hv0, hd0, ⟨b1, u1, cs1, f1, p1, q1, hg1, ht1, hv1, hd1, _, _⟩, _⟩, _, _⟩ := h
  obtain rfl := Option.some.inj (g0.symm.trans hg0)
  obtain rfl := Option.some.inj (g1.symm.trans hg1)
  obtain rfl := Option.some.inj (ty0.symm.trans ht0)
  obtain rfl := Option.some.inj (ty1.symm.trans ht1)
  have r1 : ∀ (i : Nat) (x : Int), t64[i]? = some x → W.cell? ⟨1, i, none⟩ = some (.int .u8 x) := by
    intro i x hx
    have hi : i < 64 := (List.getElem?_eq_some_iff.1 hx).1
    have := table_cells (l := t64) Tryd.underlying135 Tryd.underlying6 (by kernel_rfl) hd1 hi hx
    rw [World.var?_cell hg1 hv1 i]
    simpa using this
  refine ⟨?_, r1, ?_⟩
  · intro i x hx
    have hi : i < 32 := (List.getElem?_eq_some_iff.1 hx).1
    have := table_cells (l := t32) Tryd.underlying134 Tryd.underlying6 (by kernel_rfl) hd0 hi hx
    rw [World.var?_cell hg0 hv0 i]
    simpa using this
  · have h0 := r1 0 0 rfl
    unfold World.cell? at h0
    by_cases h : 1 < W.heap.size
    · exact h
    · rw [show W.heap[1]? = none from Array.getElem?_eq_none (by omega)] at h0
      simp at h0

/-- Where the tables lie. -/
def gTh : Th := fun id => if id = 0 then some ⟨0, 0, 0⟩ else if id = 1 then some ⟨1, 0, 0⟩ else none
theorem gHRel {κ : KRel} {W : World} (h : laidMetH Tryd.prog laidL W) : HRel κ gTh gRows W := by
  obtain ⟨h0, h1, hs⟩ := of_laid h
  refine ⟨?_, ?_, ?_, ?_⟩
  · intro id L e
    unfold gTh at e
    simp only [gRows, List.length_cons, List.length_nil]
    split at e
    · omega
    · split at e
      · omega
      · simp at e
  · intro id L e
    unfold gTh at e
    split at e
    · injection e with e; subst e; show 0 < _; omega
    · split at e
      · injection e with e; subst e; exact hs
      · simp at e
  · intro id r e
    match id, e with
    | 0, e =>
      injection e with e; subst e
      refine ⟨⟨0, 0, 0⟩, rfl, fun j x hx => ?_⟩
      rw [nums_get] at hx
      obtain ⟨n, hn, rfl⟩ := Option.map_eq_some_iff.1 hx
      exact ⟨_, by rw [Nat.zero_add]; exact h0 j n hn, .int _ _, rfl⟩
    | 1, e =>
      injection e with e; subst e
      refine ⟨⟨1, 0, 0⟩, rfl, fun j x hx => ?_⟩
      rw [nums_get] at hx
      obtain ⟨n, hn, rfl⟩ := Option.map_eq_some_iff.1 hx
      exact ⟨_, by rw [Nat.zero_add]; exact h1 j n hn, .int _ _, rfl⟩
    | n + 2, e => simp [gRows] at e
  · intro i j r s L L' hij hr ho
    match i, hr with
    | 0, hr => injection hr with hr; subst hr; simp [Row.owned] at ho
    | 1, hr => injection hr with hr; subst hr; simp [Row.owned] at ho
    | n + 2, hr => simp [gRows] at hr
theorem gGRel : GRel gTh [0, 1] := by
  intro i g e
  match i, e with
  | 0, e => injection e with e; subst e; exact ⟨⟨0, 0, 0⟩, rfl, rfl, rfl⟩
  | 1, e => injection e with e; subst e; exact ⟨⟨1, 0, 0⟩, rfl, rfl, rfl⟩
  | n + 2, e => simp at e

/-- The door's own heap meets the condition. -/
theorem door_met (os : Os) (args : Array Value) : laidMetH Tryd.prog laidL ((World.doorLaid Tryd.prog 400 os).forCall (fun _ _ => 0) ⟨#[], args, []⟩).memory :=
  laidMetH_of_parts3 (fuel := 8) (laidMet_of_run' 8 (by kernel_rfl) (by kernel_rfl)) (by kernel_rfl) (by kernel_rfl)
end Go.Abs
