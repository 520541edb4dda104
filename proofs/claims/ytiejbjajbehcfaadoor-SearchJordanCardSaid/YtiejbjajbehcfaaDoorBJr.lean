/- SearchJordan: Looks is the least height of marks, 2 to the power of it at most n; the part that Middle returns has at most n / 2 nodes. Conditions: none but the row's own. -/
import Derived.Test.YtiejbjajbehcfaaDoorBJ6
import Derived.Test.YtiejbjajbehcfaaDoorCards
import Derived.Test.YtiejbjajbehcfaaDoorTie
import Derived.SevenTiedAt
import Derived.WalkKit
import Derived.ShutString
import Derived.ChangeOld
import Derived.SizedLaws
import Derived.Laws.StructEq
import Derived.Carry
namespace Go.Proofs.YtiejbjajbehcfaaDoor.searchJordan
open Go.ChangeShapes Go.WideShapes Go.ChangeAt Go.RowKit Go.Abs
set_option linter.unusedVariables false
theorem own : ownKnob Tryd.prog.godebug = none := by kernel_rfl
theorem laidOut : laidOutB Tryd.prog = true := by kernel_rfl
theorem okp : OKp (14, c14) := ⟨_, _, Tryd.func14, (by kernel_rfl : cfn Tryd.prog [0, 1] (hintOf h14) Tryd.f14 = some c14), by kernel_rfl⟩
set_option maxRecDepth 100000 in
theorem lifted (os : Os) (started : os.Started) (H : Type) (enc : TypeId × Value → H) :
    ReturnsInHanded {} Tryd.checked os 14 .any (fun w args => (Rows.searchJordanSpec.pre enc Tryd.prog Tryd.f14 [] false w args ∧ laidMetH Tryd.prog laidL w) ∧ sizedMet enc Tryd.prog Tryd.f14 (OpenSpec.ofChange Rows.searchJordanSpec) false w args)
      (Rows.searchJordanSpec.post enc Tryd.prog Tryd.f14 false true false false) := by
  refine returnsInHanded_of_change_and (C := Tryd.checked) (X := fun w _ => laidMetH Tryd.prog laidL w) (fun _ _ _ hh h => h.of_heap hh) own started (by kernel_rfl) Tryd.func14
    (ChangeSpec.witness_shaped (enc := enc) (C := Tryd.checked) (os := os) (X := fun w _ => laidMetH Tryd.prog laidL w) false (World.doorLaid Tryd.prog 400 os) #[.int .i64 0, .slice none 0 0] 8 rfl (World.shaped_of_RefB (by kernel_rfl) (by kernel_rfl)) (by kernel_rfl) (by kernel_rfl) (by kernel_rfl) (door_met os _)) ?_
  intro W base args ds gs before hval0 hW _ hsz0 hL _
  have hsz : (DataW.weightsEach Tryd.prog (Tryd.f14.params.toList ++ Rows.searchJordanSpec.plain.varTypes Tryd.prog) (ds ++ gs)).all (· ≤ reachBytes) = true := hsz0
  have hval : ∀ (j : Nat) t v, Tryd.f14.params[j]? = some t → args[j]? = some v → Value.okWide Tryd.prog W .any base t v := hval0
  have hW' := hW
  obtain ⟨p, q, hA0, hV, rfl, hfz, hnd⟩ := hW
  have hA : DataW.TrodAll enc Tryd.prog W 0 (fun _ => true) true Tryd.f14.params.toList args.toList ds p := hA0
  rw [Tryd.params14] at hA hval hsz
  obtain ⟨v0, vs0, d0, ds0, p0, q0, hargs, rfl, rfl, h0, r0⟩ := trodAll_cons hA
  obtain ⟨v1, vs1, d1, ds1, p1, q1, rfl, rfl, rfl, h1, r1⟩ := trodAll_cons r0
  obtain ⟨rfl, rfl, rfl⟩ := trodAll_nil r1
  obtain rfl : args = #[v0, v1] := by cases args; simp_all
  obtain ⟨rfl, rfl⟩ := trodVars_none hV
  obtain ⟨a0, rfl, rfl, rfl, w0⟩ := open_int Tryd.underlying3 (hval 0 3 v0 rfl rfl) h0
  have k1 := h1
  have lt1 : ∀ x ∈ p1, x.block < W.heap.size := by obtain ⟨m, hm⟩ := k1; exact DataW.trod_lt m _ _ _ hm
  obtain ⟨a1, ev1, ok1, ad1⟩ : ∃ a, v1 = argVal a ∧ argOK W a ∧ argD d1 a := by
    obtain ⟨fuel, hf⟩ := h1
    have e1 := okWide_slice Tryd.underlying38 (hval 1 38 v1 rfl rfl)
    obtain ⟨x, l, c, rfl⟩ := e1
    obtain ⟨a, h1, h2, h3⟩ := slice_arg Tryd.underlying38 Tryd.underlying3 (by kernel_rfl) (hval 1 38 _ rfl rfl) (fun _ => rfl) hf
    exact ⟨a, h1, h2, h3⟩
  subst ev1
  have sm1 := small_arg hsz (j := 1) (t := 38) rfl rfl Tryd.underlying38 (by kernel_rfl) ad1
  clear hA0 hval0 hsz0 hsz
  have hv : VL (aTh [a1]) [.int .i64 a0, argAV (2 + 0) a1] [.int .i64 a0, argVal a1] := ⟨rfl, fun i x x' hx hx' => by
    match i, hx, hx' with
    | 0, hx, hx' => injection hx with hx; injection hx' with hx'; subst hx hx'; exact .int _ _
    | 1, hx, hx' => injection hx with hx; injection hx' with hx'; subst hx hx'; exact aV (l := [a1]) (k := 0) rfl ok1
    | n + 2, hx, _ => simp at hx⟩
  have hok : ∀ a ∈ [a1], argOK W a := by
    intro a ha
    simp only [List.mem_cons, List.not_mem_nil, or_false] at ha
    subst ha
    exact ok1
  have hret := jordan_ret (awake_a [a1]) rfl (x := a0) (aIsL (l := [a1]) (k := 0) rfl ok1 sm1).1
  refine (calls_below (fnOK_more okp) hret (aHRel hL hok) aGRel hv).mono fun e W' ⟨he, bel⟩ => ?_
  subst he
  exact ⟨_, rfl, _, _, _, [], _, [], hW', trodAll_mk1 (shut_bool Tryd.underlying4 _), (trodAll_cons_mk (shut_int Tryd.underlying3 w0) (trodAll_cons_mk (Below.trod laidOut (by kernel_rfl) (of_decide_eq_true (by kernel_rfl)) k1 bel lt1) trodAll_mk0)), rfl, bel.frame _, fun h => by cases h⟩
theorem over : Rows.SearchJordanSaid :=
  OpenClaim.holds_of_wide 14 Tryd.f14 rfl rfl rfl rfl rfl rfl rfl ⟨rfl, rfl, rfl, rfl, rfl⟩ rfl rfl rfl rfl rfl (by kernel_rfl) Tryd.func14 (by kernel_rfl)
    (of_decide_eq_true (by kernel_rfl)) (by unfold Func.isWrapper; first | (rw [if_pos (by decide +kernel)]; kernel_rfl) | (rw [if_neg (by decide +kernel)]; exact ⟨rfl, rfl⟩))
    (fun os started H enc _ => lifted os started H enc)
end Go.Proofs.YtiejbjajbehcfaaDoor.searchJordan
namespace Go.Proofs.YtiejbjajbehcfaaDoor
open Go
theorem searchJordan_holds : Rows.SearchJordanCardSaid :=
  Claim7.holds_tied_plain_at .later [] [.data, .data] true (true, "7a4a4fd7c6f66c46a97d2a57efdd8182b6fd61c6e84eb9f592267c1a1dbd008a") false
    searchJordan.over (fun _ h => by cases h) (by kernel_rfl) (fun _ h => by cases h) searchJordan_row_tie rfl ⟨rfl, rfl⟩ (by kernel_rfl) rfl
    (fun f fn hf hfn => by
      obtain rfl : f = 14 := Option.some.inj ((show Tryd.prog.funcNamed "tosher/tosherlaw08.SearchJordan" = some 14 by kernel_rfl).symm.trans hf) |>.symm
      obtain rfl : fn = Tryd.f14 := (Option.some.inj (Tryd.func14.symm.trans hfn)).symm
      exact ⟨by kernel_rfl, fun j t ht => by
        rw [Tryd.params14] at ht
        have hm : t ∈ [3, 38] := by simpa using Array.mem_of_getElem? ht
        have hall : ([3, 38].all fun u => !Tryd.prog.wantsStandIn u) = true := by kernel_rfl
        exact (show Tryd.prog.wantsStandIn t = false by simpa using List.all_eq_true.1 hall t hm)⟩)
    (by kernel_rfl)
#print axioms searchJordan_holds
end Go.Proofs.YtiejbjajbehcfaaDoor
