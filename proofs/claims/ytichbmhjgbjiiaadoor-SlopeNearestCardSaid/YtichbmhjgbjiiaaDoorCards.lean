/-
  DERIVED. GIVEN WITH THE SEED: THE CARDS: each row of YtichbmhjgbjiiaaDoorRows.lean that lists a variable, with what it lists TIED to the program's text (the seventh form; the later family's looks); each row that meets fmt, with fmt's text TOLD by the authors' own Lean function (tested against real Go, not proved from fmt's source: count such statements apart). THE CARD IS WHAT COUNTS. Prove the row's statement (the work); the ties are given (YtichbmhjgbjiiaaDoorTie.lean); close each card by the builder's one call (the guide's Derived/Test/ToyasCard.lean, 'card_holds'). Laid BY PROGRAM, IN A SANDBOX (cutbox-door.mjs). By AI agents, Wed Nov 11 2026. No macro, syntax, notation, axiom, sorry.
-/
import Derived.Test.YtichbmhjgbjiiaaDoorRows
import GoSem.ClaimSeven
namespace Go.Proofs.YtichbmhjgbjiiaaDoor
namespace Rows

/-- THE TIED CARD OF 'tosherlaw03.SlopeGauges'. -/
def slopeGaugesCard : Claim7 := { stood := { row := slopeGaugesRow, standIns := [], harness := (true, "66f8b49d11f8ed68ebf79632284059023f2683b06062f63100d20bb71b9c2f83"), looks := false }, kinds := [], alts := [], laidByText := true, laidKinds := [.data], laidTests := true, laidLooks := .later }
def SlopeGaugesCardSaid : Prop := Claim7.holds Tryd.pinned (.plain (OpenSpec.ofChange slopeGaugesSpec)) slopeGaugesCard

/-- THE TIED CARD OF 'tosherlaw03.SlopeOwn'. -/
def slopeOwnCard : Claim7 := { stood := { row := slopeOwnRow, standIns := [], harness := (true, "66f8b49d11f8ed68ebf79632284059023f2683b06062f63100d20bb71b9c2f83"), looks := false }, kinds := [], alts := [], laidByText := true, laidKinds := [.data], laidTests := true, laidLooks := .later }
def SlopeOwnCardSaid : Prop := Claim7.holds Tryd.pinned (.plain (OpenSpec.ofChange slopeOwnSpec)) slopeOwnCard

/-- THE TIED CARD OF 'tosherlaw03.SlopeNearest'. -/
def slopeNearestCard : Claim7 := { stood := { row := slopeNearestRow, standIns := [], harness := (true, "66f8b49d11f8ed68ebf79632284059023f2683b06062f63100d20bb71b9c2f83"), looks := false }, kinds := [], alts := [], laidByText := true, laidKinds := [.data], laidTests := true, laidLooks := .later }
def SlopeNearestCardSaid : Prop := Claim7.holds Tryd.pinned (.plain (OpenSpec.ofChange slopeNearestSpec)) slopeNearestCard

/-- THE TIED CARD OF 'tosherlaw03.SlopeRings'. -/
def slopeRingsCard : Claim7 := { stood := { row := slopeRingsRow, standIns := [], harness := (true, "66f8b49d11f8ed68ebf79632284059023f2683b06062f63100d20bb71b9c2f83"), looks := false }, kinds := [], alts := [], laidByText := true, laidKinds := [.data], laidTests := true, laidLooks := .later }
def SlopeRingsCardSaid : Prop := Claim7.holds Tryd.pinned (.plain (OpenSpec.ofChange slopeRingsSpec)) slopeRingsCard

/-- THE TIED CARD OF 'tosherlaw03.SlopeStill'. -/
def slopeStillCard : Claim7 := { stood := { row := slopeStillRow, standIns := [], harness := (true, "66f8b49d11f8ed68ebf79632284059023f2683b06062f63100d20bb71b9c2f83"), looks := false }, kinds := [], alts := [], laidByText := true, laidKinds := [.data], laidTests := true, laidLooks := .later }
def SlopeStillCardSaid : Prop := Claim7.holds Tryd.pinned (.plain (OpenSpec.ofChange slopeStillSpec)) slopeStillCard

/-- THE TIED CARD OF 'tosherlaw03.SlopeHodge'. -/
def slopeHodgeCard : Claim7 := { stood := { row := slopeHodgeRow, standIns := [], harness := (true, "66f8b49d11f8ed68ebf79632284059023f2683b06062f63100d20bb71b9c2f83"), looks := false }, kinds := [], alts := [], laidByText := true, laidKinds := [.data], laidTests := true, laidLooks := .later }
def SlopeHodgeCardSaid : Prop := Claim7.holds Tryd.pinned (.plain (OpenSpec.ofChange slopeHodgeSpec)) slopeHodgeCard

/-- THE TIED CARD OF 'tosherlaw03.SlopeHeights'. -/
def slopeHeightsCard : Claim7 := { stood := { row := slopeHeightsRow, standIns := [], harness := (true, "66f8b49d11f8ed68ebf79632284059023f2683b06062f63100d20bb71b9c2f83"), looks := false }, kinds := [], alts := [], laidByText := true, laidKinds := [.data], laidTests := true, laidLooks := .later }
def SlopeHeightsCardSaid : Prop := Claim7.holds Tryd.pinned (.plain (OpenSpec.ofChange slopeHeightsSpec)) slopeHeightsCard

/-- THE TIED CARD OF 'tosherlaw03.SlopeEuler'. -/
def slopeEulerCard : Claim7 := { stood := { row := slopeEulerRow, standIns := [], harness := (true, "66f8b49d11f8ed68ebf79632284059023f2683b06062f63100d20bb71b9c2f83"), looks := false }, kinds := [], alts := [], laidByText := true, laidKinds := [.data], laidTests := true, laidLooks := .later }
def SlopeEulerCardSaid : Prop := Claim7.holds Tryd.pinned (.plain (OpenSpec.ofChange slopeEulerSpec)) slopeEulerCard

/-- THE TIED CARD OF 'tosherlaw03.SlopeParts'. -/
def slopePartsCard : Claim7 := { stood := { row := slopePartsRow, standIns := [], harness := (true, "66f8b49d11f8ed68ebf79632284059023f2683b06062f63100d20bb71b9c2f83"), looks := false }, kinds := [], alts := [], laidByText := true, laidKinds := [.data], laidTests := true, laidLooks := .later }
def SlopePartsCardSaid : Prop := Claim7.holds Tryd.pinned (.plain (OpenSpec.ofChange slopePartsSpec)) slopePartsCard

/-- THE TIED CARD OF 'tosherlaw03.SlopeNegated'. -/
def slopeNegatedCard : Claim7 := { stood := { row := slopeNegatedRow, standIns := [], harness := (true, "66f8b49d11f8ed68ebf79632284059023f2683b06062f63100d20bb71b9c2f83"), looks := false }, kinds := [], alts := [], laidByText := true, laidKinds := [.data], laidTests := true, laidLooks := .later }
def SlopeNegatedCardSaid : Prop := Claim7.holds Tryd.pinned (.plain (OpenSpec.ofChange slopeNegatedSpec)) slopeNegatedCard

/-- THE TIED CARD OF 'tosherlaw03.SlopeFlows'. -/
def slopeFlowsCard : Claim7 := { stood := { row := slopeFlowsRow, standIns := [], harness := (true, "66f8b49d11f8ed68ebf79632284059023f2683b06062f63100d20bb71b9c2f83"), looks := false }, kinds := [], alts := [], laidByText := true, laidKinds := [.data], laidTests := true, laidLooks := .later }
def SlopeFlowsCardSaid : Prop := Claim7.holds Tryd.pinned (.plain (OpenSpec.ofChange slopeFlowsSpec)) slopeFlowsCard

/-- THE TIED CARD OF 'tosherlaw03.SlopeChecks'. -/
def slopeChecksCard : Claim7 := { stood := { row := slopeChecksRow, standIns := [], harness := (true, "66f8b49d11f8ed68ebf79632284059023f2683b06062f63100d20bb71b9c2f83"), looks := false }, kinds := [], alts := [], laidByText := true, laidKinds := [.data], laidTests := true, laidLooks := .later }
def SlopeChecksCardSaid : Prop := Claim7.holds Tryd.pinned (.plain (OpenSpec.ofChange slopeChecksSpec)) slopeChecksCard

/-- THE SECOND FORM's CARD OF 'tosherlaw03.SlopeGauges'. -/
def slopeGaugesUptoCard : Claim7 := { stood := { row := slopeGaugesUptoRow, standIns := [], harness := (true, "66f8b49d11f8ed68ebf79632284059023f2683b06062f63100d20bb71b9c2f83"), looks := false }, kinds := [], alts := [], laidByText := true, laidKinds := [.data], laidTests := true, laidLooks := .later }
def SlopeGaugesUptoCardSaid : Prop := Claim7.holds Tryd.pinned (.plain (OpenSpec.upto slopeGaugesSpec)) slopeGaugesUptoCard

/-- THE SECOND FORM's CARD OF 'tosherlaw03.SlopeOwn'. -/
def slopeOwnUptoCard : Claim7 := { stood := { row := slopeOwnUptoRow, standIns := [], harness := (true, "66f8b49d11f8ed68ebf79632284059023f2683b06062f63100d20bb71b9c2f83"), looks := false }, kinds := [], alts := [], laidByText := true, laidKinds := [.data], laidTests := true, laidLooks := .later }
def SlopeOwnUptoCardSaid : Prop := Claim7.holds Tryd.pinned (.plain (OpenSpec.upto slopeOwnSpec)) slopeOwnUptoCard

/-- THE SECOND FORM's CARD OF 'tosherlaw03.SlopeNearest'. -/
def slopeNearestUptoCard : Claim7 := { stood := { row := slopeNearestUptoRow, standIns := [], harness := (true, "66f8b49d11f8ed68ebf79632284059023f2683b06062f63100d20bb71b9c2f83"), looks := false }, kinds := [], alts := [], laidByText := true, laidKinds := [.data], laidTests := true, laidLooks := .later }
def SlopeNearestUptoCardSaid : Prop := Claim7.holds Tryd.pinned (.plain (OpenSpec.upto slopeNearestSpec)) slopeNearestUptoCard

/-- THE SECOND FORM's CARD OF 'tosherlaw03.SlopeRings'. -/
def slopeRingsUptoCard : Claim7 := { stood := { row := slopeRingsUptoRow, standIns := [], harness := (true, "66f8b49d11f8ed68ebf79632284059023f2683b06062f63100d20bb71b9c2f83"), looks := false }, kinds := [], alts := [], laidByText := true, laidKinds := [.data], laidTests := true, laidLooks := .later }
def SlopeRingsUptoCardSaid : Prop := Claim7.holds Tryd.pinned (.plain (OpenSpec.upto slopeRingsSpec)) slopeRingsUptoCard

/-- THE SECOND FORM's CARD OF 'tosherlaw03.SlopeStill'. -/
def slopeStillUptoCard : Claim7 := { stood := { row := slopeStillUptoRow, standIns := [], harness := (true, "66f8b49d11f8ed68ebf79632284059023f2683b06062f63100d20bb71b9c2f83"), looks := false }, kinds := [], alts := [], laidByText := true, laidKinds := [.data], laidTests := true, laidLooks := .later }
def SlopeStillUptoCardSaid : Prop := Claim7.holds Tryd.pinned (.plain (OpenSpec.upto slopeStillSpec)) slopeStillUptoCard

/-- THE SECOND FORM's CARD OF 'tosherlaw03.SlopeHodge'. -/
def slopeHodgeUptoCard : Claim7 := { stood := { row := slopeHodgeUptoRow, standIns := [], harness := (true, "66f8b49d11f8ed68ebf79632284059023f2683b06062f63100d20bb71b9c2f83"), looks := false }, kinds := [], alts := [], laidByText := true, laidKinds := [.data], laidTests := true, laidLooks := .later }
def SlopeHodgeUptoCardSaid : Prop := Claim7.holds Tryd.pinned (.plain (OpenSpec.upto slopeHodgeSpec)) slopeHodgeUptoCard

/-- THE SECOND FORM's CARD OF 'tosherlaw03.SlopeHeights'. -/
def slopeHeightsUptoCard : Claim7 := { stood := { row := slopeHeightsUptoRow, standIns := [], harness := (true, "66f8b49d11f8ed68ebf79632284059023f2683b06062f63100d20bb71b9c2f83"), looks := false }, kinds := [], alts := [], laidByText := true, laidKinds := [.data], laidTests := true, laidLooks := .later }
def SlopeHeightsUptoCardSaid : Prop := Claim7.holds Tryd.pinned (.plain (OpenSpec.upto slopeHeightsSpec)) slopeHeightsUptoCard

/-- THE SECOND FORM's CARD OF 'tosherlaw03.SlopeEuler'. -/
def slopeEulerUptoCard : Claim7 := { stood := { row := slopeEulerUptoRow, standIns := [], harness := (true, "66f8b49d11f8ed68ebf79632284059023f2683b06062f63100d20bb71b9c2f83"), looks := false }, kinds := [], alts := [], laidByText := true, laidKinds := [.data], laidTests := true, laidLooks := .later }
def SlopeEulerUptoCardSaid : Prop := Claim7.holds Tryd.pinned (.plain (OpenSpec.upto slopeEulerSpec)) slopeEulerUptoCard

/-- THE SECOND FORM's CARD OF 'tosherlaw03.SlopeParts'. -/
def slopePartsUptoCard : Claim7 := { stood := { row := slopePartsUptoRow, standIns := [], harness := (true, "66f8b49d11f8ed68ebf79632284059023f2683b06062f63100d20bb71b9c2f83"), looks := false }, kinds := [], alts := [], laidByText := true, laidKinds := [.data], laidTests := true, laidLooks := .later }
def SlopePartsUptoCardSaid : Prop := Claim7.holds Tryd.pinned (.plain (OpenSpec.upto slopePartsSpec)) slopePartsUptoCard

/-- THE SECOND FORM's CARD OF 'tosherlaw03.SlopeNegated'. -/
def slopeNegatedUptoCard : Claim7 := { stood := { row := slopeNegatedUptoRow, standIns := [], harness := (true, "66f8b49d11f8ed68ebf79632284059023f2683b06062f63100d20bb71b9c2f83"), looks := false }, kinds := [], alts := [], laidByText := true, laidKinds := [.data], laidTests := true, laidLooks := .later }
def SlopeNegatedUptoCardSaid : Prop := Claim7.holds Tryd.pinned (.plain (OpenSpec.upto slopeNegatedSpec)) slopeNegatedUptoCard

/-- THE SECOND FORM's CARD OF 'tosherlaw03.SlopeFlows'. -/
def slopeFlowsUptoCard : Claim7 := { stood := { row := slopeFlowsUptoRow, standIns := [], harness := (true, "66f8b49d11f8ed68ebf79632284059023f2683b06062f63100d20bb71b9c2f83"), looks := false }, kinds := [], alts := [], laidByText := true, laidKinds := [.data], laidTests := true, laidLooks := .later }
def SlopeFlowsUptoCardSaid : Prop := Claim7.holds Tryd.pinned (.plain (OpenSpec.upto slopeFlowsSpec)) slopeFlowsUptoCard

/-- THE SECOND FORM's CARD OF 'tosherlaw03.SlopeChecks'. -/
def slopeChecksUptoCard : Claim7 := { stood := { row := slopeChecksUptoRow, standIns := [], harness := (true, "66f8b49d11f8ed68ebf79632284059023f2683b06062f63100d20bb71b9c2f83"), looks := false }, kinds := [], alts := [], laidByText := true, laidKinds := [.data], laidTests := true, laidLooks := .later }
def SlopeChecksUptoCardSaid : Prop := Claim7.holds Tryd.pinned (.plain (OpenSpec.upto slopeChecksSpec)) slopeChecksUptoCard
end Rows
end Go.Proofs.YtichbmhjgbjiiaaDoor
