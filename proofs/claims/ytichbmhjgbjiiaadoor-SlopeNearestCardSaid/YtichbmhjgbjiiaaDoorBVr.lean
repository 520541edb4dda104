/- WHATEVER THE INPUT: true; the input reads as it did. Conditions: none but the row's own. -/
import Derived.Test.YtichbmhjgbjiiaaDoorBV6
import Derived.Test.YtichbmhjgbjiiaaDoorCards
import Derived.Test.YtichbmhjgbjiiaaDoorTie
import Derived.SevenTiedAt
import Derived.WalkKit
import Derived.ShutString
import Derived.ChangeOld
import Derived.SizedLaws
import Derived.Laws.StructEq
import Derived.Carry
namespace Go.Proofs.YtichbmhjgbjiiaaDoor.slopeNearest
open Go.ChangeShapes Go.WideShapes Go.ChangeAt Go.RowKit Go.Abs
set_option linter.unusedVariables false
theorem own : ownKnob Tryd.prog.godebug = none := by kernel_rfl
theorem laidOut : laidOutB Tryd.prog = true := by kernel_rfl
theorem okp : OKp (5, c5) := ⟨_, _, Tryd.func5, (by kernel_rfl : cfn Tryd.prog [0] (Ao h5) Tryd.f5 = some c5), by kernel_rfl⟩
set_option maxRecDepth 100000 in
theorem lifted (os : Os) (started : os.Started) (H : Type) (enc : TypeId × Value → H) :
    ReturnsInHanded {} Tryd.checked os 5 .any (fun w args => (Rows.slopeNearestSpec.pre enc Tryd.prog Tryd.f5 [] false w args ∧ laidMetH Tryd.prog Ke w) ∧ sizedMet enc Tryd.prog Tryd.f5 (OpenSpec.ofChange Rows.slopeNearestSpec) false w args)
      (Rows.slopeNearestSpec.post enc Tryd.prog Tryd.f5 false true false false) := by
  refine returnsInHanded_of_change_and (C := Tryd.checked) (X := fun w _ => laidMetH Tryd.prog Ke w) (fun _ _ _ hh h => h.of_heap hh) own started (by kernel_rfl) Tryd.func5
    (ChangeSpec.witness_shaped (enc := enc) (C := Tryd.checked) (os := os) (X := fun w _ => laidMetH Tryd.prog Ke w) false (World.doorLaid Tryd.prog 400 os) #[.agg #[.int .i64 0, .slice none 0 0, .slice none 0 0], .slice none 0 0, .slice none 0 0] 8 rfl (World.shaped_of_RefB (by kernel_rfl) (by kernel_rfl)) (by kernel_rfl) (by kernel_rfl) (by kernel_rfl) (QW os _)) ?_
  intro W base args ds gs before hval0 hW _ hsz0 hL _
  have hval : ∀ (j : Nat) t v, Tryd.f5.params[j]? = some t → args[j]? = some v → Value.okWide Tryd.prog W .any base t v := hval0
  have hW' := hW
  obtain ⟨p, q, hA0, hV, rfl, hfz, hnd⟩ := hW
  have hA : DataW.TrodAll enc Tryd.prog W 0 (fun _ => true) true Tryd.f5.params.toList args.toList ds p := hA0
  rw [Tryd.params5] at hA hval
  obtain ⟨v0, vs0, d0, ds0, p0, q0, hargs, rfl, rfl, h0, r0⟩ := trodAll_cons hA
  obtain ⟨v1, vs1, d1, ds1, p1, q1, rfl, rfl, rfl, h1, r1⟩ := trodAll_cons r0
  obtain ⟨v2, vs2, d2, ds2, p2, q2, rfl, rfl, rfl, h2, r2⟩ := trodAll_cons r1
  obtain ⟨rfl, rfl, rfl⟩ := trodAll_nil r2
  obtain rfl : args = #[v0, v1, v2] := by cases args; simp_all
  obtain ⟨rfl, rfl⟩ := trodVars_none hV
  have k0 := h0
  have lt0 : ∀ x ∈ p0, x.block < W.heap.size := by obtain ⟨m, hm⟩ := k0; exact DataW.trod_lt m _ _ _ hm
  have o0 := hval 0 25 v0 rfl rfl
  obtain ⟨cs0, rfl⟩ : ∃ cs, v0 = .agg cs := by
    unfold Value.okWide at o0
    rw [Tryd.underlying25] at o0
    obtain ⟨cs, e, _⟩ := o0
    exact ⟨cs, e⟩
  obtain ⟨x, ea, pa, rfl, ec, pc, ew, pw⟩ : ∃ (n : Int) (a b : Option ArgS), cs0 = #[.int .i64 n, Bv a, Bv b] ∧ Gg W a ∧ Gg W b ∧ MD 2 a ∧ MD 3 b := by
    obtain ⟨fuel, hf⟩ := h0
    exact M0 Tryd.underlying25 rfl rfl rfl ⟨rfl, rfl⟩ ⟨rfl, rfl⟩ ⟨rfl, rfl⟩ Tryd.underlying3 (by kernel_rfl) Tryd.underlying22 (by kernel_rfl) Tryd.underlying23 (by kernel_rfl) Tryd.underlying50 (by kernel_rfl) Tryd.underlying82 (by kernel_rfl) (by kernel_rfl) (by kernel_rfl) o0 (fun _ => rfl) hf
  have k1 := h1
  have lt1 : ∀ x ∈ p1, x.block < W.heap.size := by obtain ⟨m, hm⟩ := k1; exact DataW.trod_lt m _ _ _ hm
  obtain ⟨a1, rfl, cl1, ok1⟩ : ∃ a, v1 = Bv a ∧ Gg W a ∧ MD 1 a := by
    obtain ⟨fuel, hf⟩ := h1
    have e1 := okWide_slice Tryd.underlying35 (hval 1 35 v1 rfl rfl)
    obtain ⟨x, l, c, rfl⟩ := e1
    exact G0 Tryd.underlying35 Tryd.underlying3 (by kernel_rfl) (hval 1 35 _ rfl rfl) (fun _ => rfl) hf
  have k2 := h2
  have lt2 : ∀ x ∈ p2, x.block < W.heap.size := by obtain ⟨m, hm⟩ := k2; exact DataW.trod_lt m _ _ _ hm
  obtain ⟨a2, rfl, cl2, ok2⟩ : ∃ a, v2 = Bv a ∧ Gg W a ∧ MD 1 a := by
    obtain ⟨fuel, hf⟩ := h2
    have e2 := okWide_slice Tryd.underlying35 (hval 2 35 v2 rfl rfl)
    obtain ⟨x, l, c, rfl⟩ := e2
    exact G0 Tryd.underlying35 Tryd.underlying3 (by kernel_rfl) (hval 2 35 _ rfl rfl) (fun _ => rfl) hf
  clear hA0 hval0 hsz0
  have hv0 : V (aTh [ea, pa, a1, a2]) (.agg [.int .i64 x, Ed (1 + 0) ea, Ed (1 + 1) pa]) (.agg #[.int .i64 x, Bv ea, Bv pa]) := .agg (l' := [.int .i64 x, Bv ea, Bv pa]) rfl fun i x x' hx hx' => by
    match i, hx, hx' with
    | 0, hx, hx' => injection hx with hx; injection hx' with hx'; subst hx hx'; exact .int _ _
    | 1, hx, hx' => injection hx with hx; injection hx' with hx'; subst hx hx'; exact aV (l := [ea, pa, a1, a2]) (k := 0) rfl ew
    | 2, hx, hx' => injection hx with hx; injection hx' with hx'; subst hx hx'; exact aV (l := [ea, pa, a1, a2]) (k := 1) rfl pw
    | n + 3, hx, _ => simp at hx
  have hv : VL (aTh [ea, pa, a1, a2]) [.agg [.int .i64 x, Ed (1 + 0) ea, Ed (1 + 1) pa], Ed (1 + 2) a1, Ed (1 + 3) a2] [.agg #[.int .i64 x, Bv ea, Bv pa], Bv a1, Bv a2] := ⟨rfl, fun i x x' hx hx' => by
    match i, hx, hx' with
    | 0, hx, hx' => injection hx with hx; injection hx' with hx'; subst hx hx'; exact hv0
    | 1, hx, hx' => injection hx with hx; injection hx' with hx'; subst hx hx'; exact aV (l := [ea, pa, a1, a2]) (k := 2) rfl ok1
    | 2, hx, hx' => injection hx with hx; injection hx' with hx'; subst hx hx'; exact aV (l := [ea, pa, a1, a2]) (k := 3) rfl ok2
    | n + 3, hx, _ => simp at hx⟩
  have hok : ∀ a ∈ [ea, pa, a1, a2], Gg W a := by
    intro a ha
    simp only [List.mem_cons, List.not_mem_nil, or_false] at ha
    rcases ha with rfl | rfl | rfl | rfl
    · exact ec
    · exact pc
    · exact cl1
    · exact cl2
  have hin : LawIn (D0 [ea, pa, a1, a2]) (.agg [.int .i64 x, Ed (1 + 0) ea, Ed (1 + 1) pa]) (Ed (1 + 2) a1) (Co 1 a1) := ⟨⟨x, _, _, Co 2 ea, Co 3 pa, EI ea, EI pa, rfl, aEl (l := [ea, pa, a1, a2]) (k := 0) rfl ew, Iy ew, aEl (l := [ea, pa, a1, a2]) (k := 1) rfl pw, Iy pw⟩, AbQ (l := [ea, pa, a1, a2]) (k := 2) rfl ok1⟩
  have hret := JV hin (AbQ (l := [ea, pa, a1, a2]) (k := 3) rfl ok2) rfl (UV [ea, pa, a1, a2])
  refine (JS (Nm okp) hret (AbB hL hok) Abv hv).mono fun e W' ⟨he, bel⟩ => ?_
  subst he
  exact ⟨_, rfl, _, _, _, [], _, [], hW', trodAll_mk1 (shut_bool Tryd.underlying4 _), (trodAll_cons_mk (Below.trod laidOut (by kernel_rfl) (of_decide_eq_true (by kernel_rfl)) k0 bel lt0) (trodAll_cons_mk (Below.trod laidOut (by kernel_rfl) (of_decide_eq_true (by kernel_rfl)) k1 bel lt1) (trodAll_cons_mk (Below.trod laidOut (by kernel_rfl) (of_decide_eq_true (by kernel_rfl)) k2 bel lt2) trodAll_mk0))), rfl, bel.frame _, fun h => by cases h⟩
theorem over : Rows.SlopeNearestSaid :=
  OpenClaim.holds_of_wide 5 Tryd.f5 rfl rfl rfl rfl rfl rfl rfl ⟨rfl, rfl, rfl, rfl, rfl⟩ rfl rfl rfl rfl rfl (by kernel_rfl) Tryd.func5 (by kernel_rfl)
    (of_decide_eq_true (by kernel_rfl)) (by unfold Func.isWrapper; first | (rw [if_pos (by decide +kernel)]; kernel_rfl) | (rw [if_neg (by decide +kernel)]; exact ⟨rfl, rfl⟩))
    (fun os started H enc _ => lifted os started H enc)
end Go.Proofs.YtichbmhjgbjiiaaDoor.slopeNearest
namespace Go.Proofs.YtichbmhjgbjiiaaDoor
open Go
theorem slopeNearest_holds : Rows.SlopeNearestCardSaid :=
  Claim7.holds_tied_plain_at .later [] [.data] true (true, "66f8b49d11f8ed68ebf79632284059023f2683b06062f63100d20bb71b9c2f83") false
    slopeNearest.over (fun _ h => by cases h) (by kernel_rfl) (fun _ h => by cases h) slopeNearest_row_tie rfl ⟨rfl, rfl⟩ (by kernel_rfl) rfl
    (fun f fn hf hfn => by
      obtain rfl : f = 5 := Option.some.inj ((show Tryd.prog.funcNamed "tosher/tosherlaw03.SlopeNearest" = some 5 by kernel_rfl).symm.trans hf) |>.symm
      obtain rfl : fn = Tryd.f5 := (Option.some.inj (Tryd.func5.symm.trans hfn)).symm
      exact ⟨by kernel_rfl, fun j t ht => by
        rw [Tryd.params5] at ht
        have hm : t ∈ [25, 35, 35] := by simpa using Array.mem_of_getElem? ht
        have hall : ([25, 35, 35].all fun u => !Tryd.prog.wantsStandIn u) = true := by kernel_rfl
        exact (show Tryd.prog.wantsStandIn t = false by simpa using List.all_eq_true.1 hall t hm)⟩)
    (by kernel_rfl)
#print axioms slopeNearest_holds
end Go.Proofs.YtichbmhjgbjiiaaDoor
