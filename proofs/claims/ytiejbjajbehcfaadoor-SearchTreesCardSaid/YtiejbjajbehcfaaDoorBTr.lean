/- WHATEVER THE INPUT: true; the input reads as it did. Conditions: none but the row's own. -/
import Derived.Test.YtiejbjajbehcfaaDoorBT5
import Derived.Test.YtiejbjajbehcfaaDoorCards
import Derived.Test.YtiejbjajbehcfaaDoorTie
import Derived.SevenTiedAt
import Derived.WalkKit
import Derived.ShutString
import Derived.ChangeOld
import Derived.SizedLaws
import Derived.Laws.StructEq
import Derived.Carry
namespace Go.Proofs.YtiejbjajbehcfaaDoor.searchTrees
open Go.ChangeShapes Go.WideShapes Go.ChangeAt Go.RowKit Go.Abs
set_option linter.unusedVariables false
theorem own : ownKnob Tryd.prog.godebug = none := by kernel_rfl
theorem laidOut : laidOutB Tryd.prog = true := by kernel_rfl
theorem okp : OKp (15, c15) := ⟨_, _, Tryd.func15, (by kernel_rfl : cfn Tryd.prog [0, 1] (hintOf h15) Tryd.f15 = some c15), by kernel_rfl⟩
set_option maxRecDepth 100000 in
theorem lifted (os : Os) (started : os.Started) (H : Type) (enc : TypeId × Value → H) :
    ReturnsInHanded {} Tryd.checked os 15 .any (fun w args => (Rows.searchTreesSpec.pre enc Tryd.prog Tryd.f15 [] false w args ∧ laidMetH Tryd.prog laidL w) ∧ sizedMet enc Tryd.prog Tryd.f15 (OpenSpec.ofChange Rows.searchTreesSpec) false w args)
      (Rows.searchTreesSpec.post enc Tryd.prog Tryd.f15 false true false false) := by
  refine returnsInHanded_of_change_and (C := Tryd.checked) (X := fun w _ => laidMetH Tryd.prog laidL w) (fun _ _ _ hh h => h.of_heap hh) own started (by kernel_rfl) Tryd.func15
    (ChangeSpec.witness_shaped (enc := enc) (C := Tryd.checked) (os := os) (X := fun w _ => laidMetH Tryd.prog laidL w) false (World.doorLaid Tryd.prog 400 os) #[.int .i64 0, .slice none 0 0] 8 rfl (World.shaped_of_RefB (by kernel_rfl) (by kernel_rfl)) (by kernel_rfl) (by kernel_rfl) (by kernel_rfl) (door_met os _)) ?_
  intro W base args ds gs before hval0 hW _ hsz0 hL _
  have hsz : (DataW.weightsEach Tryd.prog (Tryd.f15.params.toList ++ Rows.searchTreesSpec.plain.varTypes Tryd.prog) (ds ++ gs)).all (· ≤ reachBytes) = true := hsz0
  have hval : ∀ (j : Nat) t v, Tryd.f15.params[j]? = some t → args[j]? = some v → Value.okWide Tryd.prog W .any base t v := hval0
  have hW' := hW
  obtain ⟨p, q, hA0, hV, rfl, hfz, hnd⟩ := hW
  have hA : DataW.TrodAll enc Tryd.prog W 0 (fun _ => true) true Tryd.f15.params.toList args.toList ds p := hA0
  rw [Tryd.params15] at hA hval hsz
  obtain ⟨v0, vs0, d0, ds0, p0, q0, hargs, rfl, rfl, h0, r0⟩ := trodAll_cons hA
  obtain ⟨v1, vs1, d1, ds1, p1, q1, rfl, rfl, rfl, h1, r1⟩ := trodAll_cons r0
  obtain ⟨rfl, rfl, rfl⟩ := trodAll_nil r1
  obtain rfl : args = #[v0, v1] := by cases args; simp_all
  obtain ⟨rfl, rfl⟩ := trodVars_none hV
  obtain ⟨a0, rfl, rfl, rfl, w0⟩ := open_int Tryd.underlying3 (hval 0 3 v0 rfl rfl) h0
  have k1 := h1
  have lt1 : ∀ x ∈ p1, x.block < W.heap.size := by obtain ⟨m, hm⟩ := k1; exact DataW.trod_lt m _ _ _ hm
  obtain ⟨a1, ev1, ok1⟩ : ∃ a, v1 = argVal a ∧ argOK2 W a := by
    obtain ⟨fuel, hf⟩ := h1
    have e1 := okWide_slice Tryd.underlying58 (hval 1 58 v1 rfl rfl)
    obtain ⟨x, l, c, rfl⟩ := e1
    exact slice_arg2 Tryd.underlying58 Tryd.underlying78 Tryd.underlying3 (by kernel_rfl) (by kernel_rfl) (hval 1 58 _ rfl rfl) (fun _ => rfl) hf
  subst ev1
  clear hA0 hval0 hsz0 hsz
  have hv : VL (aTh [a1]) [.int .i64 a0, argAV 2 a1] [.int .i64 a0, argVal a1] := ⟨rfl, fun i x x' hx hx' => by
    match i, hx, hx' with
    | 0, hx, hx' => injection hx with hx; injection hx' with hx'; subst hx hx'; exact .int _ _
    | 1, hx, hx' => injection hx with hx; injection hx' with hx'; subst hx hx'; exact aV2 ok1
    | n + 2, hx, _ => simp at hx⟩
  have hret := trees_ret (N := a0) (awake_a [a1]) rfl (aEl2 ok1) (aCp2 ok1 2)
  refine (calls_below (fnOK_more okp) hret (aHRel2 hL ok1) aGRel hv).mono fun e W' ⟨he, bel⟩ => ?_
  subst he
  exact ⟨_, rfl, _, _, _, [], _, [], hW', trodAll_mk1 (shut_bool Tryd.underlying4 _), (trodAll_cons_mk (shut_int Tryd.underlying3 w0) (trodAll_cons_mk (Below.trod laidOut (by kernel_rfl) (of_decide_eq_true (by kernel_rfl)) k1 bel lt1) trodAll_mk0)), rfl, bel.frame _, fun h => by cases h⟩
theorem over : Rows.SearchTreesSaid :=
  OpenClaim.holds_of_wide 15 Tryd.f15 rfl rfl rfl rfl rfl rfl rfl ⟨rfl, rfl, rfl, rfl, rfl⟩ rfl rfl rfl rfl rfl (by kernel_rfl) Tryd.func15 (by kernel_rfl)
    (of_decide_eq_true (by kernel_rfl)) (by unfold Func.isWrapper; first | (rw [if_pos (by decide +kernel)]; kernel_rfl) | (rw [if_neg (by decide +kernel)]; exact ⟨rfl, rfl⟩))
    (fun os started H enc _ => lifted os started H enc)
end Go.Proofs.YtiejbjajbehcfaaDoor.searchTrees
namespace Go.Proofs.YtiejbjajbehcfaaDoor
open Go
theorem searchTrees_holds : Rows.SearchTreesCardSaid :=
  Claim7.holds_tied_plain_at .later [] [.data, .data] true (true, "7a4a4fd7c6f66c46a97d2a57efdd8182b6fd61c6e84eb9f592267c1a1dbd008a") false
    searchTrees.over (fun _ h => by cases h) (by kernel_rfl) (fun _ h => by cases h) searchTrees_row_tie rfl ⟨rfl, rfl⟩ (by kernel_rfl) rfl
    (fun f fn hf hfn => by
      obtain rfl : f = 15 := Option.some.inj ((show Tryd.prog.funcNamed "tosher/tosherlaw08.SearchTrees" = some 15 by kernel_rfl).symm.trans hf) |>.symm
      obtain rfl : fn = Tryd.f15 := (Option.some.inj (Tryd.func15.symm.trans hfn)).symm
      exact ⟨by kernel_rfl, fun j t ht => by
        rw [Tryd.params15] at ht
        have hm : t ∈ [3, 58] := by simpa using Array.mem_of_getElem? ht
        have hall : ([3, 58].all fun u => !Tryd.prog.wantsStandIn u) = true := by kernel_rfl
        exact (show Tryd.prog.wantsStandIn t = false by simpa using List.all_eq_true.1 hall t hm)⟩)
    (by kernel_rfl)
#print axioms searchTrees_holds
end Go.Proofs.YtiejbjajbehcfaaDoor
