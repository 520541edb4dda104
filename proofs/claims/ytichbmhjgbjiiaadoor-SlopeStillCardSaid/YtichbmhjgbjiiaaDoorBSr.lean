/- WHATEVER THE INPUT: true; the input reads as it did. Conditions: none but the row's own. -/
import Derived.Test.YtichbmhjgbjiiaaDoorBS6
import Derived.Test.YtichbmhjgbjiiaaDoorCards
import Derived.Test.YtichbmhjgbjiiaaDoorTie
import Derived.SevenTiedAt
import Derived.WalkKit
import Derived.ShutString
import Derived.ChangeOld
import Derived.SizedLaws
import Derived.Laws.StructEq
import Derived.Carry
namespace Go.Proofs.YtichbmhjgbjiiaaDoor.slopeStill
open Go.ChangeShapes Go.WideShapes Go.ChangeAt Go.RowKit Go.Abs
set_option linter.unusedVariables false
theorem own : ownKnob Tryd.prog.godebug = none := by kernel_rfl
theorem laidOut : laidOutB Tryd.prog = true := by kernel_rfl
theorem okp : OKp (7, c7) := ⟨_, _, Tryd.func7, (by kernel_rfl : cfn Tryd.prog [0] (Ao h7) Tryd.f7 = some c7), by kernel_rfl⟩
set_option maxRecDepth 100000 in
theorem lifted (os : Os) (started : os.Started) (H : Type) (enc : TypeId × Value → H) :
    ReturnsInHanded {} Tryd.checked os 7 .any (fun w args => (Rows.slopeStillSpec.pre enc Tryd.prog Tryd.f7 [] false w args ∧ laidMetH Tryd.prog JD w) ∧ sizedMet enc Tryd.prog Tryd.f7 (OpenSpec.ofChange Rows.slopeStillSpec) false w args)
      (Rows.slopeStillSpec.post enc Tryd.prog Tryd.f7 false true false false) := by
  refine returnsInHanded_of_change_and (C := Tryd.checked) (X := fun w _ => laidMetH Tryd.prog JD w) (fun _ _ _ hh h => h.of_heap hh) own started (by kernel_rfl) Tryd.func7
    (ChangeSpec.witness_shaped (enc := enc) (C := Tryd.checked) (os := os) (X := fun w _ => laidMetH Tryd.prog JD w) false (World.doorLaid Tryd.prog 400 os) #[.agg #[.int .i64 0, .slice none 0 0, .slice none 0 0], .slice none 0 0] 8 rfl (World.shaped_of_RefB (by kernel_rfl) (by kernel_rfl)) (by kernel_rfl) (by kernel_rfl) (by kernel_rfl) (Qd os _)) ?_
  intro W base args ds gs before hval0 hW _ hsz0 hL _
  have hval : ∀ (j : Nat) t v, Tryd.f7.params[j]? = some t → args[j]? = some v → Value.okWide Tryd.prog W .any base t v := hval0
  have hW' := hW
  obtain ⟨p, q, hA0, hV, rfl, hfz, hnd⟩ := hW
  have hA : DataW.TrodAll enc Tryd.prog W 0 (fun _ => true) true Tryd.f7.params.toList args.toList ds p := hA0
  rw [Tryd.params7] at hA hval
  obtain ⟨v0, vs0, d0, ds0, p0, q0, hargs, rfl, rfl, h0, r0⟩ := trodAll_cons hA
  obtain ⟨v1, vs1, d1, ds1, p1, q1, rfl, rfl, rfl, h1, r1⟩ := trodAll_cons r0
  obtain ⟨rfl, rfl, rfl⟩ := trodAll_nil r1
  obtain rfl : args = #[v0, v1] := by cases args; simp_all
  obtain ⟨rfl, rfl⟩ := trodVars_none hV
  have k0 := h0
  have lt0 : ∀ x ∈ p0, x.block < W.heap.size := by obtain ⟨m, hm⟩ := k0; exact DataW.trod_lt m _ _ _ hm
  have o0 := hval 0 25 v0 rfl rfl
  obtain ⟨cs0, rfl⟩ : ∃ cs, v0 = .agg cs := by
    unfold Value.okWide at o0
    rw [Tryd.underlying25] at o0
    obtain ⟨cs, e, _⟩ := o0
    exact ⟨cs, e⟩
  obtain ⟨x, ea, pa, rfl, ec, pc, ew, pw⟩ : ∃ (n : Int) (a b : Option ArgS), cs0 = #[.int .i64 n, BM a, BM b] ∧ HR W a ∧ HR W b ∧ MN 2 a ∧ MN 3 b := by
    obtain ⟨fuel, hf⟩ := h0
    exact Mp Tryd.underlying25 rfl rfl rfl ⟨rfl, rfl⟩ ⟨rfl, rfl⟩ ⟨rfl, rfl⟩ Tryd.underlying3 (by kernel_rfl) Tryd.underlying22 (by kernel_rfl) Tryd.underlying23 (by kernel_rfl) Tryd.underlying50 (by kernel_rfl) Tryd.underlying82 (by kernel_rfl) (by kernel_rfl) (by kernel_rfl) o0 (fun _ => rfl) hf
  have k1 := h1
  have lt1 : ∀ x ∈ p1, x.block < W.heap.size := by obtain ⟨m, hm⟩ := k1; exact DataW.trod_lt m _ _ _ hm
  obtain ⟨a1, rfl, cl1, ok1⟩ : ∃ a, v1 = BM a ∧ HR W a ∧ MN 1 a := by
    obtain ⟨fuel, hf⟩ := h1
    have e1 := okWide_slice Tryd.underlying35 (hval 1 35 v1 rfl rfl)
    obtain ⟨x, l, c, rfl⟩ := e1
    exact MI Tryd.underlying35 Tryd.underlying3 (by kernel_rfl) (hval 1 35 _ rfl rfl) (fun _ => rfl) hf
  clear hA0 hval0 hsz0
  have hv0 : V (aTh [ea, pa, a1]) (.agg [.int .i64 x, EJ (1 + 0) ea, EJ (1 + 1) pa]) (.agg #[.int .i64 x, BM ea, BM pa]) := .agg (l' := [.int .i64 x, BM ea, BM pa]) rfl fun i x x' hx hx' => by
    match i, hx, hx' with
    | 0, hx, hx' => injection hx with hx; injection hx' with hx'; subst hx hx'; exact .int _ _
    | 1, hx, hx' => injection hx with hx; injection hx' with hx'; subst hx hx'; exact aV (l := [ea, pa, a1]) (k := 0) rfl ew
    | 2, hx, hx' => injection hx with hx; injection hx' with hx'; subst hx hx'; exact aV (l := [ea, pa, a1]) (k := 1) rfl pw
    | n + 3, hx, _ => simp at hx
  have hv : VL (aTh [ea, pa, a1]) [.agg [.int .i64 x, EJ (1 + 0) ea, EJ (1 + 1) pa], EJ (1 + 2) a1] [.agg #[.int .i64 x, BM ea, BM pa], BM a1] := ⟨rfl, fun i x x' hx hx' => by
    match i, hx, hx' with
    | 0, hx, hx' => injection hx with hx; injection hx' with hx'; subst hx hx'; exact hv0
    | 1, hx, hx' => injection hx with hx; injection hx' with hx'; subst hx hx'; exact aV (l := [ea, pa, a1]) (k := 2) rfl ok1
    | n + 2, hx, _ => simp at hx⟩
  have hok : ∀ a ∈ [ea, pa, a1], HR W a := by
    intro a ha
    simp only [List.mem_cons, List.not_mem_nil, or_false] at ha
    rcases ha with rfl | rfl | rfl
    · exact ec
    · exact pc
    · exact cl1
  have hin : LawIn (Eb [ea, pa, a1]) (.agg [.int .i64 x, EJ (1 + 0) ea, EJ (1 + 1) pa]) (EJ (1 + 2) a1) (Cq 1 a1) := ⟨⟨x, _, _, Cq 2 ea, Cq 3 pa, Ez ea, Ez pa, rfl, aEl (l := [ea, pa, a1]) (k := 0) rfl ew, Jh ew, aEl (l := [ea, pa, a1]) (k := 1) rfl pw, Jh pw⟩, AbH (l := [ea, pa, a1]) (k := 2) rfl ok1⟩
  have hret := N4 hin rfl (Vm [ea, pa, a1])
  refine (Kh (OA okp) hret (ZI hL hok) Aao hv).mono fun e W' ⟨he, bel⟩ => ?_
  subst he
  exact ⟨_, rfl, _, _, _, [], _, [], hW', trodAll_mk1 (shut_bool Tryd.underlying4 _), (trodAll_cons_mk (Below.trod laidOut (by kernel_rfl) (of_decide_eq_true (by kernel_rfl)) k0 bel lt0) (trodAll_cons_mk (Below.trod laidOut (by kernel_rfl) (of_decide_eq_true (by kernel_rfl)) k1 bel lt1) trodAll_mk0)), rfl, bel.frame _, fun h => by cases h⟩
theorem over : Rows.SlopeStillSaid :=
  OpenClaim.holds_of_wide 7 Tryd.f7 rfl rfl rfl rfl rfl rfl rfl ⟨rfl, rfl, rfl, rfl, rfl⟩ rfl rfl rfl rfl rfl (by kernel_rfl) Tryd.func7 (by kernel_rfl)
    (of_decide_eq_true (by kernel_rfl)) (by unfold Func.isWrapper; first | (rw [if_pos (by decide +kernel)]; kernel_rfl) | (rw [if_neg (by decide +kernel)]; exact ⟨rfl, rfl⟩))
    (fun os started H enc _ => lifted os started H enc)
end Go.Proofs.YtichbmhjgbjiiaaDoor.slopeStill
namespace Go.Proofs.YtichbmhjgbjiiaaDoor
open Go
theorem slopeStill_holds : Rows.SlopeStillCardSaid :=
  Claim7.holds_tied_plain_at .later [] [.data] true (true, "66f8b49d11f8ed68ebf79632284059023f2683b06062f63100d20bb71b9c2f83") false
    slopeStill.over (fun _ h => by cases h) (by kernel_rfl) (fun _ h => by cases h) slopeStill_row_tie rfl ⟨rfl, rfl⟩ (by kernel_rfl) rfl
    (fun f fn hf hfn => by
      obtain rfl : f = 7 := Option.some.inj ((show Tryd.prog.funcNamed "tosher/tosherlaw03.SlopeStill" = some 7 by kernel_rfl).symm.trans hf) |>.symm
      obtain rfl : fn = Tryd.f7 := (Option.some.inj (Tryd.func7.symm.trans hfn)).symm
      exact ⟨by kernel_rfl, fun j t ht => by
        rw [Tryd.params7] at ht
        have hm : t ∈ [25, 35] := by simpa using Array.mem_of_getElem? ht
        have hall : ([25, 35].all fun u => !Tryd.prog.wantsStandIn u) = true := by kernel_rfl
        exact (show Tryd.prog.wantsStandIn t = false by simpa using List.all_eq_true.1 hall t hm)⟩)
    (by kernel_rfl)
#print axioms slopeStill_holds
end Go.Proofs.YtichbmhjgbjiiaaDoor
