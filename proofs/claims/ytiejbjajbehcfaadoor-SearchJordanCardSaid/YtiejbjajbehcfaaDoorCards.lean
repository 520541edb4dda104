/-
  DERIVED. GIVEN WITH THE SEED: THE CARDS: each row of YtiejbjajbehcfaaDoorRows.lean that lists a variable, with what it lists TIED to the program's text (the seventh form; the later family's looks); each row that meets fmt, with fmt's text TOLD by the authors' own Lean function (tested against real Go, not proved from fmt's source: count such statements apart). THE CARD IS WHAT COUNTS. Prove the row's statement (the work); the ties are given (YtiejbjajbehcfaaDoorTie.lean); close each card by the builder's one call (the guide's Derived/Test/ToyasCard.lean, 'card_holds'). Laid BY PROGRAM, IN A SANDBOX (cutbox-door.mjs). By AI agents, Wed Nov 11 2026. No macro, syntax, notation, axiom, sorry.
-/
import Derived.Test.YtiejbjajbehcfaaDoorRows
import GoSem.ClaimSeven
namespace Go.Proofs.YtiejbjajbehcfaaDoor
namespace Rows

/-- THE TIED CARD OF 'tosherlaw08.SearchLamps'. -/
def searchLampsCard : Claim7 := { stood := { row := searchLampsRow, standIns := [], harness := (true, "7a4a4fd7c6f66c46a97d2a57efdd8182b6fd61c6e84eb9f592267c1a1dbd008a"), looks := false }, kinds := [], alts := [], laidByText := true, laidKinds := [.data, .data], laidTests := true, laidLooks := .later }
def SearchLampsCardSaid : Prop := Claim7.holds Tryd.pinned (.plain (OpenSpec.ofChange searchLampsSpec)) searchLampsCard

/-- THE TIED CARD OF 'tosherlaw08.SearchBinomials'. -/
def searchBinomialsCard : Claim7 := { stood := { row := searchBinomialsRow, standIns := [], harness := (true, "7a4a4fd7c6f66c46a97d2a57efdd8182b6fd61c6e84eb9f592267c1a1dbd008a"), looks := false }, kinds := [], alts := [], laidByText := true, laidKinds := [.data, .data], laidTests := true, laidLooks := .later }
def SearchBinomialsCardSaid : Prop := Claim7.holds Tryd.pinned (.plain (OpenSpec.ofChange searchBinomialsSpec)) searchBinomialsCard

/-- THE TIED CARD OF 'tosherlaw08.SearchCounts'. -/
def searchCountsCard : Claim7 := { stood := { row := searchCountsRow, standIns := [], harness := (true, "7a4a4fd7c6f66c46a97d2a57efdd8182b6fd61c6e84eb9f592267c1a1dbd008a"), looks := false }, kinds := [], alts := [], laidByText := true, laidKinds := [.data, .data], laidTests := true, laidLooks := .later }
def SearchCountsCardSaid : Prop := Claim7.holds Tryd.pinned (.plain (OpenSpec.ofChange searchCountsSpec)) searchCountsCard

/-- THE TIED CARD OF 'tosherlaw08.SearchOwn'. -/
def searchOwnCard : Claim7 := { stood := { row := searchOwnRow, standIns := [], harness := (true, "7a4a4fd7c6f66c46a97d2a57efdd8182b6fd61c6e84eb9f592267c1a1dbd008a"), looks := false }, kinds := [], alts := [], laidByText := true, laidKinds := [.data, .data], laidTests := true, laidLooks := .later }
def SearchOwnCardSaid : Prop := Claim7.holds Tryd.pinned (.plain (OpenSpec.ofChange searchOwnSpec)) searchOwnCard

/-- THE TIED CARD OF 'tosherlaw08.SearchSums'. -/
def searchSumsCard : Claim7 := { stood := { row := searchSumsRow, standIns := [], harness := (true, "7a4a4fd7c6f66c46a97d2a57efdd8182b6fd61c6e84eb9f592267c1a1dbd008a"), looks := false }, kinds := [], alts := [], laidByText := true, laidKinds := [.data, .data], laidTests := true, laidLooks := .later }
def SearchSumsCardSaid : Prop := Claim7.holds Tryd.pinned (.plain (OpenSpec.ofChange searchSumsSpec)) searchSumsCard

/-- THE TIED CARD OF 'tosherlaw08.SearchBests'. -/
def searchBestsCard : Claim7 := { stood := { row := searchBestsRow, standIns := [], harness := (true, "7a4a4fd7c6f66c46a97d2a57efdd8182b6fd61c6e84eb9f592267c1a1dbd008a"), looks := false }, kinds := [], alts := [], laidByText := true, laidKinds := [.data, .data], laidTests := true, laidLooks := .later }
def SearchBestsCardSaid : Prop := Claim7.holds Tryd.pinned (.plain (OpenSpec.ofChange searchBestsSpec)) searchBestsCard

/-- THE TIED CARD OF 'tosherlaw08.SearchKnuth'. -/
def searchKnuthCard : Claim7 := { stood := { row := searchKnuthRow, standIns := [], harness := (true, "7a4a4fd7c6f66c46a97d2a57efdd8182b6fd61c6e84eb9f592267c1a1dbd008a"), looks := false }, kinds := [], alts := [], laidByText := true, laidKinds := [.data, .data], laidTests := true, laidLooks := .later }
def SearchKnuthCardSaid : Prop := Claim7.holds Tryd.pinned (.plain (OpenSpec.ofChange searchKnuthSpec)) searchKnuthCard

/-- THE TIED CARD OF 'tosherlaw08.SearchMarks'. -/
def searchMarksCard : Claim7 := { stood := { row := searchMarksRow, standIns := [], harness := (true, "7a4a4fd7c6f66c46a97d2a57efdd8182b6fd61c6e84eb9f592267c1a1dbd008a"), looks := false }, kinds := [], alts := [], laidByText := true, laidKinds := [.data, .data], laidTests := true, laidLooks := .later }
def SearchMarksCardSaid : Prop := Claim7.holds Tryd.pinned (.plain (OpenSpec.ofChange searchMarksSpec)) searchMarksCard

/-- THE TIED CARD OF 'tosherlaw08.SearchPlans'. -/
def searchPlansCard : Claim7 := { stood := { row := searchPlansRow, standIns := [], harness := (true, "7a4a4fd7c6f66c46a97d2a57efdd8182b6fd61c6e84eb9f592267c1a1dbd008a"), looks := false }, kinds := [], alts := [], laidByText := true, laidKinds := [.data, .data], laidTests := true, laidLooks := .later }
def SearchPlansCardSaid : Prop := Claim7.holds Tryd.pinned (.plain (OpenSpec.ofChange searchPlansSpec)) searchPlansCard

/-- THE TIED CARD OF 'tosherlaw08.SearchChecks'. -/
def searchChecksCard : Claim7 := { stood := { row := searchChecksRow, standIns := [], harness := (true, "7a4a4fd7c6f66c46a97d2a57efdd8182b6fd61c6e84eb9f592267c1a1dbd008a"), looks := false }, kinds := [], alts := [], laidByText := true, laidKinds := [.data, .data], laidTests := true, laidLooks := .later }
def SearchChecksCardSaid : Prop := Claim7.holds Tryd.pinned (.plain (OpenSpec.ofChange searchChecksSpec)) searchChecksCard

/-- THE TIED CARD OF 'tosherlaw08.SearchLooks'. -/
def searchLooksCard : Claim7 := { stood := { row := searchLooksRow, standIns := [], harness := (true, "7a4a4fd7c6f66c46a97d2a57efdd8182b6fd61c6e84eb9f592267c1a1dbd008a"), looks := false }, kinds := [], alts := [], laidByText := true, laidKinds := [.data, .data], laidTests := true, laidLooks := .later }
def SearchLooksCardSaid : Prop := Claim7.holds Tryd.pinned (.plain (OpenSpec.ofChange searchLooksSpec)) searchLooksCard

/-- THE TIED CARD OF 'tosherlaw08.SearchJordan'. -/
def searchJordanCard : Claim7 := { stood := { row := searchJordanRow, standIns := [], harness := (true, "7a4a4fd7c6f66c46a97d2a57efdd8182b6fd61c6e84eb9f592267c1a1dbd008a"), looks := false }, kinds := [], alts := [], laidByText := true, laidKinds := [.data, .data], laidTests := true, laidLooks := .later }
def SearchJordanCardSaid : Prop := Claim7.holds Tryd.pinned (.plain (OpenSpec.ofChange searchJordanSpec)) searchJordanCard

/-- THE TIED CARD OF 'tosherlaw08.SearchTrees'. -/
def searchTreesCard : Claim7 := { stood := { row := searchTreesRow, standIns := [], harness := (true, "7a4a4fd7c6f66c46a97d2a57efdd8182b6fd61c6e84eb9f592267c1a1dbd008a"), looks := false }, kinds := [], alts := [], laidByText := true, laidKinds := [.data, .data], laidTests := true, laidLooks := .later }
def SearchTreesCardSaid : Prop := Claim7.holds Tryd.pinned (.plain (OpenSpec.ofChange searchTreesSpec)) searchTreesCard

/-- THE SECOND FORM's CARD OF 'tosherlaw08.SearchLamps'. -/
def searchLampsUptoCard : Claim7 := { stood := { row := searchLampsUptoRow, standIns := [], harness := (true, "7a4a4fd7c6f66c46a97d2a57efdd8182b6fd61c6e84eb9f592267c1a1dbd008a"), looks := false }, kinds := [], alts := [], laidByText := true, laidKinds := [.data, .data], laidTests := true, laidLooks := .later }
def SearchLampsUptoCardSaid : Prop := Claim7.holds Tryd.pinned (.plain (OpenSpec.upto searchLampsSpec)) searchLampsUptoCard

/-- THE SECOND FORM's CARD OF 'tosherlaw08.SearchBinomials'. -/
def searchBinomialsUptoCard : Claim7 := { stood := { row := searchBinomialsUptoRow, standIns := [], harness := (true, "7a4a4fd7c6f66c46a97d2a57efdd8182b6fd61c6e84eb9f592267c1a1dbd008a"), looks := false }, kinds := [], alts := [], laidByText := true, laidKinds := [.data, .data], laidTests := true, laidLooks := .later }
def SearchBinomialsUptoCardSaid : Prop := Claim7.holds Tryd.pinned (.plain (OpenSpec.upto searchBinomialsSpec)) searchBinomialsUptoCard

/-- THE SECOND FORM's CARD OF 'tosherlaw08.SearchCounts'. -/
def searchCountsUptoCard : Claim7 := { stood := { row := searchCountsUptoRow, standIns := [], harness := (true, "7a4a4fd7c6f66c46a97d2a57efdd8182b6fd61c6e84eb9f592267c1a1dbd008a"), looks := false }, kinds := [], alts := [], laidByText := true, laidKinds := [.data, .data], laidTests := true, laidLooks := .later }
def SearchCountsUptoCardSaid : Prop := Claim7.holds Tryd.pinned (.plain (OpenSpec.upto searchCountsSpec)) searchCountsUptoCard

/-- THE SECOND FORM's CARD OF 'tosherlaw08.SearchOwn'. -/
def searchOwnUptoCard : Claim7 := { stood := { row := searchOwnUptoRow, standIns := [], harness := (true, "7a4a4fd7c6f66c46a97d2a57efdd8182b6fd61c6e84eb9f592267c1a1dbd008a"), looks := false }, kinds := [], alts := [], laidByText := true, laidKinds := [.data, .data], laidTests := true, laidLooks := .later }
def SearchOwnUptoCardSaid : Prop := Claim7.holds Tryd.pinned (.plain (OpenSpec.upto searchOwnSpec)) searchOwnUptoCard

/-- THE SECOND FORM's CARD OF 'tosherlaw08.SearchSums'. -/
def searchSumsUptoCard : Claim7 := { stood := { row := searchSumsUptoRow, standIns := [], harness := (true, "7a4a4fd7c6f66c46a97d2a57efdd8182b6fd61c6e84eb9f592267c1a1dbd008a"), looks := false }, kinds := [], alts := [], laidByText := true, laidKinds := [.data, .data], laidTests := true, laidLooks := .later }
def SearchSumsUptoCardSaid : Prop := Claim7.holds Tryd.pinned (.plain (OpenSpec.upto searchSumsSpec)) searchSumsUptoCard

/-- THE SECOND FORM's CARD OF 'tosherlaw08.SearchBests'. -/
def searchBestsUptoCard : Claim7 := { stood := { row := searchBestsUptoRow, standIns := [], harness := (true, "7a4a4fd7c6f66c46a97d2a57efdd8182b6fd61c6e84eb9f592267c1a1dbd008a"), looks := false }, kinds := [], alts := [], laidByText := true, laidKinds := [.data, .data], laidTests := true, laidLooks := .later }
def SearchBestsUptoCardSaid : Prop := Claim7.holds Tryd.pinned (.plain (OpenSpec.upto searchBestsSpec)) searchBestsUptoCard

/-- THE SECOND FORM's CARD OF 'tosherlaw08.SearchKnuth'. -/
def searchKnuthUptoCard : Claim7 := { stood := { row := searchKnuthUptoRow, standIns := [], harness := (true, "7a4a4fd7c6f66c46a97d2a57efdd8182b6fd61c6e84eb9f592267c1a1dbd008a"), looks := false }, kinds := [], alts := [], laidByText := true, laidKinds := [.data, .data], laidTests := true, laidLooks := .later }
def SearchKnuthUptoCardSaid : Prop := Claim7.holds Tryd.pinned (.plain (OpenSpec.upto searchKnuthSpec)) searchKnuthUptoCard

/-- THE SECOND FORM's CARD OF 'tosherlaw08.SearchMarks'. -/
def searchMarksUptoCard : Claim7 := { stood := { row := searchMarksUptoRow, standIns := [], harness := (true, "7a4a4fd7c6f66c46a97d2a57efdd8182b6fd61c6e84eb9f592267c1a1dbd008a"), looks := false }, kinds := [], alts := [], laidByText := true, laidKinds := [.data, .data], laidTests := true, laidLooks := .later }
def SearchMarksUptoCardSaid : Prop := Claim7.holds Tryd.pinned (.plain (OpenSpec.upto searchMarksSpec)) searchMarksUptoCard

/-- THE SECOND FORM's CARD OF 'tosherlaw08.SearchPlans'. -/
def searchPlansUptoCard : Claim7 := { stood := { row := searchPlansUptoRow, standIns := [], harness := (true, "7a4a4fd7c6f66c46a97d2a57efdd8182b6fd61c6e84eb9f592267c1a1dbd008a"), looks := false }, kinds := [], alts := [], laidByText := true, laidKinds := [.data, .data], laidTests := true, laidLooks := .later }
def SearchPlansUptoCardSaid : Prop := Claim7.holds Tryd.pinned (.plain (OpenSpec.upto searchPlansSpec)) searchPlansUptoCard

/-- THE SECOND FORM's CARD OF 'tosherlaw08.SearchChecks'. -/
def searchChecksUptoCard : Claim7 := { stood := { row := searchChecksUptoRow, standIns := [], harness := (true, "7a4a4fd7c6f66c46a97d2a57efdd8182b6fd61c6e84eb9f592267c1a1dbd008a"), looks := false }, kinds := [], alts := [], laidByText := true, laidKinds := [.data, .data], laidTests := true, laidLooks := .later }
def SearchChecksUptoCardSaid : Prop := Claim7.holds Tryd.pinned (.plain (OpenSpec.upto searchChecksSpec)) searchChecksUptoCard

/-- THE SECOND FORM's CARD OF 'tosherlaw08.SearchLooks'. -/
def searchLooksUptoCard : Claim7 := { stood := { row := searchLooksUptoRow, standIns := [], harness := (true, "7a4a4fd7c6f66c46a97d2a57efdd8182b6fd61c6e84eb9f592267c1a1dbd008a"), looks := false }, kinds := [], alts := [], laidByText := true, laidKinds := [.data, .data], laidTests := true, laidLooks := .later }
def SearchLooksUptoCardSaid : Prop := Claim7.holds Tryd.pinned (.plain (OpenSpec.upto searchLooksSpec)) searchLooksUptoCard

/-- THE SECOND FORM's CARD OF 'tosherlaw08.SearchJordan'. -/
def searchJordanUptoCard : Claim7 := { stood := { row := searchJordanUptoRow, standIns := [], harness := (true, "7a4a4fd7c6f66c46a97d2a57efdd8182b6fd61c6e84eb9f592267c1a1dbd008a"), looks := false }, kinds := [], alts := [], laidByText := true, laidKinds := [.data, .data], laidTests := true, laidLooks := .later }
def SearchJordanUptoCardSaid : Prop := Claim7.holds Tryd.pinned (.plain (OpenSpec.upto searchJordanSpec)) searchJordanUptoCard

/-- THE SECOND FORM's CARD OF 'tosherlaw08.SearchTrees'. -/
def searchTreesUptoCard : Claim7 := { stood := { row := searchTreesUptoRow, standIns := [], harness := (true, "7a4a4fd7c6f66c46a97d2a57efdd8182b6fd61c6e84eb9f592267c1a1dbd008a"), looks := false }, kinds := [], alts := [], laidByText := true, laidKinds := [.data, .data], laidTests := true, laidLooks := .later }
def SearchTreesUptoCardSaid : Prop := Claim7.holds Tryd.pinned (.plain (OpenSpec.upto searchTreesSpec)) searchTreesUptoCard
end Rows
end Go.Proofs.YtiejbjajbehcfaaDoor
