/-
  NARROWER THAN 'FOR EVERY INPUT', by the rows' own cells (each row's printed sentence says how): SearchLamps: laid · SearchBinomials: laid · SearchCounts: laid · SearchOwn: laid · SearchSums: laid · SearchBests: laid · SearchKnuth: laid · SearchMarks: laid · SearchPlans: laid · SearchChecks: laid · SearchLooks: laid · SearchJordan: laid · SearchTrees: laid.
  DERIVED. THE GIVEN ROWS OF THIS SEAT. 13 by the template 'for every input the law returns true; each argument reads behind the call as it read before'; 0 by the template 'total and deterministic' (their statements: YtiejbjajbehcfaaDoorTotals.lean).
  GIVEN WITH THE SEED: the statements are not yours to turn. If you find one false, say at which input.
  Laid BY PROGRAM, IN A SANDBOX (cutbox-rows.mjs): the forced cells as the released guide's own fill.sh prints them over the translation 0fa143d3643b6e1c… (all of the seat's roots in one cut). By AI agents, Wed Nov 11 2026. No macro, syntax, notation, axiom, sorry.
-/
import Derived.Test.YtiejbjajbehcfaaDoorChecked
import GoSem.Claim
import GoSem.ClaimJoined
import GoSem.ClaimMapViews
import Derived.JoinedTies
import Derived.KernelRfl
namespace Go.Proofs.YtiejbjajbehcfaaDoor
/- THE CELL 'sum', in the pinned program and in every row, IS THE sha256 OF THE DUMP (.gsa) THAT YtiejbjajbehcfaaDoorProg.lean LOADS. Nothing in Lean hashes anything: it is a label: what it is worth is what the hold of that sum in a sandbox is worth. -/
noncomputable def Tryd.pinned : Pinned := { name := "ytiejbjajbehcfaadoor", sum := "0fa143d3643b6e1c399221216cbf1aef30d1e324f7235e72e348cb28781860c3", checked := Tryd.checked }
namespace Rows
def none {H : Type} : Left H := { results := [], args := [] }

/- WHAT THE LISTED PACKAGE-LEVEL VARIABLES READ AS WHEN THE CALL BEGINS. Each datum BY PROGRAM (the guide's laid-datum.mjs) off the statement by which the dump's own 'gosem.cut.vars' lays the variable. In a bare row this is a premise. The card (YtiejbjajbehcfaaDoorCards.lean) ties it to the program's text. -/
def laid_math_bits_deBruijn32tab {H : Type} : DataW H := .agg [.lit (.int .u8 0), .lit (.int .u8 1), .lit (.int .u8 28), .lit (.int .u8 2), .lit (.int .u8 29), .lit (.int .u8 14), .lit (.int .u8 24), .lit (.int .u8 3), .lit (.int .u8 30), .lit (.int .u8 22), .lit (.int .u8 20), .lit (.int .u8 15), .lit (.int .u8 25), .lit (.int .u8 17), .lit (.int .u8 4), .lit (.int .u8 8), .lit (.int .u8 31), .lit (.int .u8 27), .lit (.int .u8 13), .lit (.int .u8 23), .lit (.int .u8 21), .lit (.int .u8 19), .lit (.int .u8 16), .lit (.int .u8 7), .lit (.int .u8 26), .lit (.int .u8 12), .lit (.int .u8 18), .lit (.int .u8 6), .lit (.int .u8 11), .lit (.int .u8 5), .lit (.int .u8 10), .lit (.int .u8 9)]
def laid_math_bits_deBruijn64tab {H : Type} : DataW H := .agg [.lit (.int .u8 0), .lit (.int .u8 1), .lit (.int .u8 56), .lit (.int .u8 2), .lit (.int .u8 57), .lit (.int .u8 49), .lit (.int .u8 28), .lit (.int .u8 3), .lit (.int .u8 61), .lit (.int .u8 58), .lit (.int .u8 42), .lit (.int .u8 50), .lit (.int .u8 38), .lit (.int .u8 29), .lit (.int .u8 17), .lit (.int .u8 4), .lit (.int .u8 62), .lit (.int .u8 47), .lit (.int .u8 59), .lit (.int .u8 36), .lit (.int .u8 45), .lit (.int .u8 43), .lit (.int .u8 51), .lit (.int .u8 22), .lit (.int .u8 53), .lit (.int .u8 39), .lit (.int .u8 33), .lit (.int .u8 30), .lit (.int .u8 24), .lit (.int .u8 18), .lit (.int .u8 12), .lit (.int .u8 5), .lit (.int .u8 63), .lit (.int .u8 55), .lit (.int .u8 48), .lit (.int .u8 27), .lit (.int .u8 60), .lit (.int .u8 41), .lit (.int .u8 37), .lit (.int .u8 16), .lit (.int .u8 46), .lit (.int .u8 35), .lit (.int .u8 44), .lit (.int .u8 21), .lit (.int .u8 52), .lit (.int .u8 32), .lit (.int .u8 23), .lit (.int .u8 11), .lit (.int .u8 54), .lit (.int .u8 26), .lit (.int .u8 40), .lit (.int .u8 15), .lit (.int .u8 34), .lit (.int .u8 20), .lit (.int .u8 31), .lit (.int .u8 10), .lit (.int .u8 25), .lit (.int .u8 14), .lit (.int .u8 19), .lit (.int .u8 9), .lit (.int .u8 13), .lit (.int .u8 8), .lit (.int .u8 7), .lit (.int .u8 6)]

/-- 'tosherlaw08.SearchLamps': WHATEVER THE INPUT: true; the input reads as it did. -/
def searchLampsSpec : ChangeSpec := { name := "searchLamps", fn := fun _ => fun
  | [d1, d2, d3] => { results := [.lit (.bool true)], args := [d1, d2, d3] }
  | _ => none }
def searchLampsRow : OpenClaim := { program := "ytiejbjajbehcfaadoor", sum := "0fa143d3643b6e1c399221216cbf1aef30d1e324f7235e72e348cb28781860c3", func := "tosher/tosherlaw08.SearchLamps", spec := "searchLamps", unfollowed := true, recurses := true, named := ["math/bits.deBruijn32tab", "math/bits.deBruijn64tab"], apart := false, laid := [("math/bits.deBruijn32tab", laid_math_bits_deBruijn32tab), ("math/bits.deBruijn64tab", laid_math_bits_deBruijn64tab)] }
def SearchLampsSaid : Prop := searchLampsRow.holds Tryd.pinned (OpenSpec.ofChange searchLampsSpec)

/-- ITS FALSE NEIGHBOUR: 'it returns false'. Refute it at one input. -/
def searchLampsWrong : ChangeSpec := { name := "searchLamps", fn := fun _ => fun
  | [d1, d2, d3] => { results := [.lit (.bool false)], args := [d1, d2, d3] }
  | _ => none }
def SearchLampsWrongFalsely : Prop := searchLampsRow.holds Tryd.pinned (OpenSpec.ofChange searchLampsWrong)

/-- 'tosherlaw08.SearchBinomials': WHATEVER THE INPUT: true; the input reads as it did. -/
def searchBinomialsSpec : ChangeSpec := { name := "searchBinomials", fn := fun _ => fun
  | [d1, d2, d3] => { results := [.lit (.bool true)], args := [d1, d2, d3] }
  | _ => none }
def searchBinomialsRow : OpenClaim := { program := "ytiejbjajbehcfaadoor", sum := "0fa143d3643b6e1c399221216cbf1aef30d1e324f7235e72e348cb28781860c3", func := "tosher/tosherlaw08.SearchBinomials", spec := "searchBinomials", unfollowed := true, recurses := true, named := ["math/bits.deBruijn32tab", "math/bits.deBruijn64tab"], apart := false, laid := [("math/bits.deBruijn32tab", laid_math_bits_deBruijn32tab), ("math/bits.deBruijn64tab", laid_math_bits_deBruijn64tab)] }
def SearchBinomialsSaid : Prop := searchBinomialsRow.holds Tryd.pinned (OpenSpec.ofChange searchBinomialsSpec)

/-- ITS FALSE NEIGHBOUR: 'it returns false'. Refute it at one input. -/
def searchBinomialsWrong : ChangeSpec := { name := "searchBinomials", fn := fun _ => fun
  | [d1, d2, d3] => { results := [.lit (.bool false)], args := [d1, d2, d3] }
  | _ => none }
def SearchBinomialsWrongFalsely : Prop := searchBinomialsRow.holds Tryd.pinned (OpenSpec.ofChange searchBinomialsWrong)

/-- 'tosherlaw08.SearchCounts': WHATEVER THE INPUT: true; the input reads as it did. -/
def searchCountsSpec : ChangeSpec := { name := "searchCounts", fn := fun _ => fun
  | [d] => { results := [.lit (.bool true)], args := [d] }
  | _ => none }
def searchCountsRow : OpenClaim := { program := "ytiejbjajbehcfaadoor", sum := "0fa143d3643b6e1c399221216cbf1aef30d1e324f7235e72e348cb28781860c3", func := "tosher/tosherlaw08.SearchCounts", spec := "searchCounts", unfollowed := true, recurses := true, named := ["math/bits.deBruijn32tab", "math/bits.deBruijn64tab"], apart := false, laid := [("math/bits.deBruijn32tab", laid_math_bits_deBruijn32tab), ("math/bits.deBruijn64tab", laid_math_bits_deBruijn64tab)] }
def SearchCountsSaid : Prop := searchCountsRow.holds Tryd.pinned (OpenSpec.ofChange searchCountsSpec)

/-- ITS FALSE NEIGHBOUR: 'it returns false'. Refute it at one input. -/
def searchCountsWrong : ChangeSpec := { name := "searchCounts", fn := fun _ => fun
  | [d] => { results := [.lit (.bool false)], args := [d] }
  | _ => none }
def SearchCountsWrongFalsely : Prop := searchCountsRow.holds Tryd.pinned (OpenSpec.ofChange searchCountsWrong)

/-- 'tosherlaw08.SearchOwn': WHATEVER THE INPUT: true; the input reads as it did. -/
def searchOwnSpec : ChangeSpec := { name := "searchOwn", fn := fun _ => fun
  | [d1, d2] => { results := [.lit (.bool true)], args := [d1, d2] }
  | _ => none }
def searchOwnRow : OpenClaim := { program := "ytiejbjajbehcfaadoor", sum := "0fa143d3643b6e1c399221216cbf1aef30d1e324f7235e72e348cb28781860c3", func := "tosher/tosherlaw08.SearchOwn", spec := "searchOwn", unfollowed := true, recurses := true, named := ["math/bits.deBruijn32tab", "math/bits.deBruijn64tab"], apart := false, laid := [("math/bits.deBruijn32tab", laid_math_bits_deBruijn32tab), ("math/bits.deBruijn64tab", laid_math_bits_deBruijn64tab)] }
def SearchOwnSaid : Prop := searchOwnRow.holds Tryd.pinned (OpenSpec.ofChange searchOwnSpec)

/-- ITS FALSE NEIGHBOUR: 'it returns false'. Refute it at one input. -/
def searchOwnWrong : ChangeSpec := { name := "searchOwn", fn := fun _ => fun
  | [d1, d2] => { results := [.lit (.bool false)], args := [d1, d2] }
  | _ => none }
def SearchOwnWrongFalsely : Prop := searchOwnRow.holds Tryd.pinned (OpenSpec.ofChange searchOwnWrong)

/-- 'tosherlaw08.SearchSums': WHATEVER THE INPUT: true; the input reads as it did. -/
def searchSumsSpec : ChangeSpec := { name := "searchSums", fn := fun _ => fun
  | [d1, d2] => { results := [.lit (.bool true)], args := [d1, d2] }
  | _ => none }
def searchSumsRow : OpenClaim := { program := "ytiejbjajbehcfaadoor", sum := "0fa143d3643b6e1c399221216cbf1aef30d1e324f7235e72e348cb28781860c3", func := "tosher/tosherlaw08.SearchSums", spec := "searchSums", unfollowed := true, recurses := true, named := ["math/bits.deBruijn32tab", "math/bits.deBruijn64tab"], apart := false, laid := [("math/bits.deBruijn32tab", laid_math_bits_deBruijn32tab), ("math/bits.deBruijn64tab", laid_math_bits_deBruijn64tab)] }
def SearchSumsSaid : Prop := searchSumsRow.holds Tryd.pinned (OpenSpec.ofChange searchSumsSpec)

/-- ITS FALSE NEIGHBOUR: 'it returns false'. Refute it at one input. -/
def searchSumsWrong : ChangeSpec := { name := "searchSums", fn := fun _ => fun
  | [d1, d2] => { results := [.lit (.bool false)], args := [d1, d2] }
  | _ => none }
def SearchSumsWrongFalsely : Prop := searchSumsRow.holds Tryd.pinned (OpenSpec.ofChange searchSumsWrong)

/-- 'tosherlaw08.SearchBests': WHATEVER THE INPUT: true; the input reads as it did. -/
def searchBestsSpec : ChangeSpec := { name := "searchBests", fn := fun _ => fun
  | [d1, d2] => { results := [.lit (.bool true)], args := [d1, d2] }
  | _ => none }
def searchBestsRow : OpenClaim := { program := "ytiejbjajbehcfaadoor", sum := "0fa143d3643b6e1c399221216cbf1aef30d1e324f7235e72e348cb28781860c3", func := "tosher/tosherlaw08.SearchBests", spec := "searchBests", unfollowed := true, recurses := true, named := ["math/bits.deBruijn32tab", "math/bits.deBruijn64tab"], apart := false, laid := [("math/bits.deBruijn32tab", laid_math_bits_deBruijn32tab), ("math/bits.deBruijn64tab", laid_math_bits_deBruijn64tab)] }
def SearchBestsSaid : Prop := searchBestsRow.holds Tryd.pinned (OpenSpec.ofChange searchBestsSpec)

/-- ITS FALSE NEIGHBOUR: 'it returns false'. Refute it at one input. -/
def searchBestsWrong : ChangeSpec := { name := "searchBests", fn := fun _ => fun
  | [d1, d2] => { results := [.lit (.bool false)], args := [d1, d2] }
  | _ => none }
def SearchBestsWrongFalsely : Prop := searchBestsRow.holds Tryd.pinned (OpenSpec.ofChange searchBestsWrong)

/-- 'tosherlaw08.SearchKnuth': WHATEVER THE INPUT: true; the input reads as it did. -/
def searchKnuthSpec : ChangeSpec := { name := "searchKnuth", fn := fun _ => fun
  | [d1, d2, d3] => { results := [.lit (.bool true)], args := [d1, d2, d3] }
  | _ => none }
def searchKnuthRow : OpenClaim := { program := "ytiejbjajbehcfaadoor", sum := "0fa143d3643b6e1c399221216cbf1aef30d1e324f7235e72e348cb28781860c3", func := "tosher/tosherlaw08.SearchKnuth", spec := "searchKnuth", unfollowed := true, recurses := true, named := ["math/bits.deBruijn32tab", "math/bits.deBruijn64tab"], apart := false, laid := [("math/bits.deBruijn32tab", laid_math_bits_deBruijn32tab), ("math/bits.deBruijn64tab", laid_math_bits_deBruijn64tab)] }
def SearchKnuthSaid : Prop := searchKnuthRow.holds Tryd.pinned (OpenSpec.ofChange searchKnuthSpec)

/-- ITS FALSE NEIGHBOUR: 'it returns false'. Refute it at one input. -/
def searchKnuthWrong : ChangeSpec := { name := "searchKnuth", fn := fun _ => fun
  | [d1, d2, d3] => { results := [.lit (.bool false)], args := [d1, d2, d3] }
  | _ => none }
def SearchKnuthWrongFalsely : Prop := searchKnuthRow.holds Tryd.pinned (OpenSpec.ofChange searchKnuthWrong)

/-- 'tosherlaw08.SearchMarks': WHATEVER THE INPUT: true; the input reads as it did. -/
def searchMarksSpec : ChangeSpec := { name := "searchMarks", fn := fun _ => fun
  | [d1, d2, d3] => { results := [.lit (.bool true)], args := [d1, d2, d3] }
  | _ => none }
def searchMarksRow : OpenClaim := { program := "ytiejbjajbehcfaadoor", sum := "0fa143d3643b6e1c399221216cbf1aef30d1e324f7235e72e348cb28781860c3", func := "tosher/tosherlaw08.SearchMarks", spec := "searchMarks", unfollowed := true, recurses := true, named := ["math/bits.deBruijn32tab", "math/bits.deBruijn64tab"], apart := false, laid := [("math/bits.deBruijn32tab", laid_math_bits_deBruijn32tab), ("math/bits.deBruijn64tab", laid_math_bits_deBruijn64tab)] }
def SearchMarksSaid : Prop := searchMarksRow.holds Tryd.pinned (OpenSpec.ofChange searchMarksSpec)

/-- ITS FALSE NEIGHBOUR: 'it returns false'. Refute it at one input. -/
def searchMarksWrong : ChangeSpec := { name := "searchMarks", fn := fun _ => fun
  | [d1, d2, d3] => { results := [.lit (.bool false)], args := [d1, d2, d3] }
  | _ => none }
def SearchMarksWrongFalsely : Prop := searchMarksRow.holds Tryd.pinned (OpenSpec.ofChange searchMarksWrong)

/-- 'tosherlaw08.SearchPlans': WHATEVER THE INPUT: true; the input reads as it did. -/
def searchPlansSpec : ChangeSpec := { name := "searchPlans", fn := fun _ => fun
  | [d1, d2, d3] => { results := [.lit (.bool true)], args := [d1, d2, d3] }
  | _ => none }
def searchPlansRow : OpenClaim := { program := "ytiejbjajbehcfaadoor", sum := "0fa143d3643b6e1c399221216cbf1aef30d1e324f7235e72e348cb28781860c3", func := "tosher/tosherlaw08.SearchPlans", spec := "searchPlans", unfollowed := true, recurses := true, named := ["math/bits.deBruijn32tab", "math/bits.deBruijn64tab"], apart := false, laid := [("math/bits.deBruijn32tab", laid_math_bits_deBruijn32tab), ("math/bits.deBruijn64tab", laid_math_bits_deBruijn64tab)] }
def SearchPlansSaid : Prop := searchPlansRow.holds Tryd.pinned (OpenSpec.ofChange searchPlansSpec)

/-- ITS FALSE NEIGHBOUR: 'it returns false'. Refute it at one input. -/
def searchPlansWrong : ChangeSpec := { name := "searchPlans", fn := fun _ => fun
  | [d1, d2, d3] => { results := [.lit (.bool false)], args := [d1, d2, d3] }
  | _ => none }
def SearchPlansWrongFalsely : Prop := searchPlansRow.holds Tryd.pinned (OpenSpec.ofChange searchPlansWrong)

/-- 'tosherlaw08.SearchChecks': WHATEVER THE INPUT: true; the input reads as it did. -/
def searchChecksSpec : ChangeSpec := { name := "searchChecks", fn := fun _ => fun
  | [d1, d2, d3] => { results := [.lit (.bool true)], args := [d1, d2, d3] }
  | _ => none }
def searchChecksRow : OpenClaim := { program := "ytiejbjajbehcfaadoor", sum := "0fa143d3643b6e1c399221216cbf1aef30d1e324f7235e72e348cb28781860c3", func := "tosher/tosherlaw08.SearchChecks", spec := "searchChecks", unfollowed := true, recurses := true, named := ["math/bits.deBruijn32tab", "math/bits.deBruijn64tab"], apart := false, laid := [("math/bits.deBruijn32tab", laid_math_bits_deBruijn32tab), ("math/bits.deBruijn64tab", laid_math_bits_deBruijn64tab)] }
def SearchChecksSaid : Prop := searchChecksRow.holds Tryd.pinned (OpenSpec.ofChange searchChecksSpec)

/-- ITS FALSE NEIGHBOUR: 'it returns false'. Refute it at one input. -/
def searchChecksWrong : ChangeSpec := { name := "searchChecks", fn := fun _ => fun
  | [d1, d2, d3] => { results := [.lit (.bool false)], args := [d1, d2, d3] }
  | _ => none }
def SearchChecksWrongFalsely : Prop := searchChecksRow.holds Tryd.pinned (OpenSpec.ofChange searchChecksWrong)

/-- 'tosherlaw08.SearchLooks': WHATEVER THE INPUT: true; the input reads as it did. -/
def searchLooksSpec : ChangeSpec := { name := "searchLooks", fn := fun _ => fun
  | [d1, d2] => { results := [.lit (.bool true)], args := [d1, d2] }
  | _ => none }
def searchLooksRow : OpenClaim := { program := "ytiejbjajbehcfaadoor", sum := "0fa143d3643b6e1c399221216cbf1aef30d1e324f7235e72e348cb28781860c3", func := "tosher/tosherlaw08.SearchLooks", spec := "searchLooks", unfollowed := true, recurses := true, named := ["math/bits.deBruijn32tab", "math/bits.deBruijn64tab"], apart := false, laid := [("math/bits.deBruijn32tab", laid_math_bits_deBruijn32tab), ("math/bits.deBruijn64tab", laid_math_bits_deBruijn64tab)] }
def SearchLooksSaid : Prop := searchLooksRow.holds Tryd.pinned (OpenSpec.ofChange searchLooksSpec)

/-- ITS FALSE NEIGHBOUR: 'it returns false'. Refute it at one input. -/
def searchLooksWrong : ChangeSpec := { name := "searchLooks", fn := fun _ => fun
  | [d1, d2] => { results := [.lit (.bool false)], args := [d1, d2] }
  | _ => none }
def SearchLooksWrongFalsely : Prop := searchLooksRow.holds Tryd.pinned (OpenSpec.ofChange searchLooksWrong)

/-- 'tosherlaw08.SearchJordan': WHATEVER THE INPUT: true; the input reads as it did. -/
def searchJordanSpec : ChangeSpec := { name := "searchJordan", fn := fun _ => fun
  | [d1, d2] => { results := [.lit (.bool true)], args := [d1, d2] }
  | _ => none }
def searchJordanRow : OpenClaim := { program := "ytiejbjajbehcfaadoor", sum := "0fa143d3643b6e1c399221216cbf1aef30d1e324f7235e72e348cb28781860c3", func := "tosher/tosherlaw08.SearchJordan", spec := "searchJordan", unfollowed := true, recurses := true, named := ["math/bits.deBruijn32tab", "math/bits.deBruijn64tab"], apart := false, laid := [("math/bits.deBruijn32tab", laid_math_bits_deBruijn32tab), ("math/bits.deBruijn64tab", laid_math_bits_deBruijn64tab)] }
def SearchJordanSaid : Prop := searchJordanRow.holds Tryd.pinned (OpenSpec.ofChange searchJordanSpec)

/-- ITS FALSE NEIGHBOUR: 'it returns false'. Refute it at one input. -/
def searchJordanWrong : ChangeSpec := { name := "searchJordan", fn := fun _ => fun
  | [d1, d2] => { results := [.lit (.bool false)], args := [d1, d2] }
  | _ => none }
def SearchJordanWrongFalsely : Prop := searchJordanRow.holds Tryd.pinned (OpenSpec.ofChange searchJordanWrong)

/-- 'tosherlaw08.SearchTrees': WHATEVER THE INPUT: true; the input reads as it did. -/
def searchTreesSpec : ChangeSpec := { name := "searchTrees", fn := fun _ => fun
  | [d1, d2] => { results := [.lit (.bool true)], args := [d1, d2] }
  | _ => none }
def searchTreesRow : OpenClaim := { program := "ytiejbjajbehcfaadoor", sum := "0fa143d3643b6e1c399221216cbf1aef30d1e324f7235e72e348cb28781860c3", func := "tosher/tosherlaw08.SearchTrees", spec := "searchTrees", unfollowed := true, recurses := true, named := ["math/bits.deBruijn32tab", "math/bits.deBruijn64tab"], apart := false, laid := [("math/bits.deBruijn32tab", laid_math_bits_deBruijn32tab), ("math/bits.deBruijn64tab", laid_math_bits_deBruijn64tab)] }
def SearchTreesSaid : Prop := searchTreesRow.holds Tryd.pinned (OpenSpec.ofChange searchTreesSpec)

/-- ITS FALSE NEIGHBOUR: 'it returns false'. Refute it at one input. -/
def searchTreesWrong : ChangeSpec := { name := "searchTrees", fn := fun _ => fun
  | [d1, d2] => { results := [.lit (.bool false)], args := [d1, d2] }
  | _ => none }
def SearchTreesWrongFalsely : Prop := searchTreesRow.holds Tryd.pinned (OpenSpec.ofChange searchTreesWrong)

/- THE SECOND FORM. 'bulk': how many values and letters a reading holds, each counted each time it is reached (what is shared counts as often as it is met; a slice's spare places count too). A statement '..UptoSaid' is the law's where the arguments, and the package variables that the reading takes, are together of bulk at most 1048576: NARROWER than '..Said'. Prove '..Said' where nothing that the law and all that it calls make is longer than what came in: it says more and counts as full. Else prove '..UptoSaid'. A law counts once. -/
mutual
def uptoBulk {H : Type} : DataW H → Nat
  | .lit (.string bytes) => bytes.length + 1
  | .lit _ => 1
  | .nil => 1
  | .ptr d => uptoBulk d + 1
  | .slice elems spare => uptoBulkAll elems + uptoBulkAll spare + 1
  | .agg parts => uptoBulkAll parts + 1
  | .iface _ d => uptoBulk d + 1
  | .map entries => uptoBulkEntries entries + 1
  | .held _ => 1
def uptoBulkAll {H : Type} : List (DataW H) → Nat
  | [] => 0
  | d :: r => uptoBulk d + uptoBulkAll r
def uptoBulkEntries {H : Type} : List (Lit × DataW H) → Nat
  | [] => 0
  | x :: r => uptoBulkEntry x + uptoBulkEntries r
def uptoBulkEntry {H : Type} : Lit × DataW H → Nat
  | (.string bytes, d) => bytes.length + uptoBulk d + 1
  | (_, d) => uptoBulk d + 1
 end
def uptoSmall : (H : Type) → List (DataW H) → Bool := fun _ ds => decide (uptoBulkAll ds ≤ 1048576)
def OpenSpec.upto (s : _root_.Go.ChangeSpec) : _root_.Go.OpenSpec := { _root_.Go.OpenSpec.ofChange s with cond := some uptoSmall }

/-- 'tosherlaw08.SearchLamps', WHERE WHAT IT READS IS OF BULK AT MOST 1048576: true; the input reads as it did. -/
def searchLampsUptoRow : OpenClaim := { program := "ytiejbjajbehcfaadoor", sum := "0fa143d3643b6e1c399221216cbf1aef30d1e324f7235e72e348cb28781860c3", func := "tosher/tosherlaw08.SearchLamps", spec := "searchLamps", unfollowed := true, recurses := true, named := ["math/bits.deBruijn32tab", "math/bits.deBruijn64tab"], apart := false, laid := [("math/bits.deBruijn32tab", laid_math_bits_deBruijn32tab), ("math/bits.deBruijn64tab", laid_math_bits_deBruijn64tab)], narrowed := true }
def SearchLampsUptoSaid : Prop := searchLampsUptoRow.holds Tryd.pinned (OpenSpec.upto searchLampsSpec)

/-- 'tosherlaw08.SearchBinomials', WHERE WHAT IT READS IS OF BULK AT MOST 1048576: true; the input reads as it did. -/
def searchBinomialsUptoRow : OpenClaim := { program := "ytiejbjajbehcfaadoor", sum := "0fa143d3643b6e1c399221216cbf1aef30d1e324f7235e72e348cb28781860c3", func := "tosher/tosherlaw08.SearchBinomials", spec := "searchBinomials", unfollowed := true, recurses := true, named := ["math/bits.deBruijn32tab", "math/bits.deBruijn64tab"], apart := false, laid := [("math/bits.deBruijn32tab", laid_math_bits_deBruijn32tab), ("math/bits.deBruijn64tab", laid_math_bits_deBruijn64tab)], narrowed := true }
def SearchBinomialsUptoSaid : Prop := searchBinomialsUptoRow.holds Tryd.pinned (OpenSpec.upto searchBinomialsSpec)

/-- 'tosherlaw08.SearchCounts', WHERE WHAT IT READS IS OF BULK AT MOST 1048576: true; the input reads as it did. -/
def searchCountsUptoRow : OpenClaim := { program := "ytiejbjajbehcfaadoor", sum := "0fa143d3643b6e1c399221216cbf1aef30d1e324f7235e72e348cb28781860c3", func := "tosher/tosherlaw08.SearchCounts", spec := "searchCounts", unfollowed := true, recurses := true, named := ["math/bits.deBruijn32tab", "math/bits.deBruijn64tab"], apart := false, laid := [("math/bits.deBruijn32tab", laid_math_bits_deBruijn32tab), ("math/bits.deBruijn64tab", laid_math_bits_deBruijn64tab)], narrowed := true }
def SearchCountsUptoSaid : Prop := searchCountsUptoRow.holds Tryd.pinned (OpenSpec.upto searchCountsSpec)

/-- 'tosherlaw08.SearchOwn', WHERE WHAT IT READS IS OF BULK AT MOST 1048576: true; the input reads as it did. -/
def searchOwnUptoRow : OpenClaim := { program := "ytiejbjajbehcfaadoor", sum := "0fa143d3643b6e1c399221216cbf1aef30d1e324f7235e72e348cb28781860c3", func := "tosher/tosherlaw08.SearchOwn", spec := "searchOwn", unfollowed := true, recurses := true, named := ["math/bits.deBruijn32tab", "math/bits.deBruijn64tab"], apart := false, laid := [("math/bits.deBruijn32tab", laid_math_bits_deBruijn32tab), ("math/bits.deBruijn64tab", laid_math_bits_deBruijn64tab)], narrowed := true }
def SearchOwnUptoSaid : Prop := searchOwnUptoRow.holds Tryd.pinned (OpenSpec.upto searchOwnSpec)

/-- 'tosherlaw08.SearchSums', WHERE WHAT IT READS IS OF BULK AT MOST 1048576: true; the input reads as it did. -/
def searchSumsUptoRow : OpenClaim := { program := "ytiejbjajbehcfaadoor", sum := "0fa143d3643b6e1c399221216cbf1aef30d1e324f7235e72e348cb28781860c3", func := "tosher/tosherlaw08.SearchSums", spec := "searchSums", unfollowed := true, recurses := true, named := ["math/bits.deBruijn32tab", "math/bits.deBruijn64tab"], apart := false, laid := [("math/bits.deBruijn32tab", laid_math_bits_deBruijn32tab), ("math/bits.deBruijn64tab", laid_math_bits_deBruijn64tab)], narrowed := true }
def SearchSumsUptoSaid : Prop := searchSumsUptoRow.holds Tryd.pinned (OpenSpec.upto searchSumsSpec)

/-- 'tosherlaw08.SearchBests', WHERE WHAT IT READS IS OF BULK AT MOST 1048576: true; the input reads as it did. -/
def searchBestsUptoRow : OpenClaim := { program := "ytiejbjajbehcfaadoor", sum := "0fa143d3643b6e1c399221216cbf1aef30d1e324f7235e72e348cb28781860c3", func := "tosher/tosherlaw08.SearchBests", spec := "searchBests", unfollowed := true, recurses := true, named := ["math/bits.deBruijn32tab", "math/bits.deBruijn64tab"], apart := false, laid := [("math/bits.deBruijn32tab", laid_math_bits_deBruijn32tab), ("math/bits.deBruijn64tab", laid_math_bits_deBruijn64tab)], narrowed := true }
def SearchBestsUptoSaid : Prop := searchBestsUptoRow.holds Tryd.pinned (OpenSpec.upto searchBestsSpec)

/-- 'tosherlaw08.SearchKnuth', WHERE WHAT IT READS IS OF BULK AT MOST 1048576: true; the input reads as it did. -/
def searchKnuthUptoRow : OpenClaim := { program := "ytiejbjajbehcfaadoor", sum := "0fa143d3643b6e1c399221216cbf1aef30d1e324f7235e72e348cb28781860c3", func := "tosher/tosherlaw08.SearchKnuth", spec := "searchKnuth", unfollowed := true, recurses := true, named := ["math/bits.deBruijn32tab", "math/bits.deBruijn64tab"], apart := false, laid := [("math/bits.deBruijn32tab", laid_math_bits_deBruijn32tab), ("math/bits.deBruijn64tab", laid_math_bits_deBruijn64tab)], narrowed := true }
def SearchKnuthUptoSaid : Prop := searchKnuthUptoRow.holds Tryd.pinned (OpenSpec.upto searchKnuthSpec)

/-- 'tosherlaw08.SearchMarks', WHERE WHAT IT READS IS OF BULK AT MOST 1048576: true; the input reads as it did. -/
def searchMarksUptoRow : OpenClaim := { program := "ytiejbjajbehcfaadoor", sum := "0fa143d3643b6e1c399221216cbf1aef30d1e324f7235e72e348cb28781860c3", func := "tosher/tosherlaw08.SearchMarks", spec := "searchMarks", unfollowed := true, recurses := true, named := ["math/bits.deBruijn32tab", "math/bits.deBruijn64tab"], apart := false, laid := [("math/bits.deBruijn32tab", laid_math_bits_deBruijn32tab), ("math/bits.deBruijn64tab", laid_math_bits_deBruijn64tab)], narrowed := true }
def SearchMarksUptoSaid : Prop := searchMarksUptoRow.holds Tryd.pinned (OpenSpec.upto searchMarksSpec)

/-- 'tosherlaw08.SearchPlans', WHERE WHAT IT READS IS OF BULK AT MOST 1048576: true; the input reads as it did. -/
def searchPlansUptoRow : OpenClaim := { program := "ytiejbjajbehcfaadoor", sum := "0fa143d3643b6e1c399221216cbf1aef30d1e324f7235e72e348cb28781860c3", func := "tosher/tosherlaw08.SearchPlans", spec := "searchPlans", unfollowed := true, recurses := true, named := ["math/bits.deBruijn32tab", "math/bits.deBruijn64tab"], apart := false, laid := [("math/bits.deBruijn32tab", laid_math_bits_deBruijn32tab), ("math/bits.deBruijn64tab", laid_math_bits_deBruijn64tab)], narrowed := true }
def SearchPlansUptoSaid : Prop := searchPlansUptoRow.holds Tryd.pinned (OpenSpec.upto searchPlansSpec)

/-- 'tosherlaw08.SearchChecks', WHERE WHAT IT READS IS OF BULK AT MOST 1048576: true; the input reads as it did. -/
def searchChecksUptoRow : OpenClaim := { program := "ytiejbjajbehcfaadoor", sum := "0fa143d3643b6e1c399221216cbf1aef30d1e324f7235e72e348cb28781860c3", func := "tosher/tosherlaw08.SearchChecks", spec := "searchChecks", unfollowed := true, recurses := true, named := ["math/bits.deBruijn32tab", "math/bits.deBruijn64tab"], apart := false, laid := [("math/bits.deBruijn32tab", laid_math_bits_deBruijn32tab), ("math/bits.deBruijn64tab", laid_math_bits_deBruijn64tab)], narrowed := true }
def SearchChecksUptoSaid : Prop := searchChecksUptoRow.holds Tryd.pinned (OpenSpec.upto searchChecksSpec)

/-- 'tosherlaw08.SearchLooks', WHERE WHAT IT READS IS OF BULK AT MOST 1048576: true; the input reads as it did. -/
def searchLooksUptoRow : OpenClaim := { program := "ytiejbjajbehcfaadoor", sum := "0fa143d3643b6e1c399221216cbf1aef30d1e324f7235e72e348cb28781860c3", func := "tosher/tosherlaw08.SearchLooks", spec := "searchLooks", unfollowed := true, recurses := true, named := ["math/bits.deBruijn32tab", "math/bits.deBruijn64tab"], apart := false, laid := [("math/bits.deBruijn32tab", laid_math_bits_deBruijn32tab), ("math/bits.deBruijn64tab", laid_math_bits_deBruijn64tab)], narrowed := true }
def SearchLooksUptoSaid : Prop := searchLooksUptoRow.holds Tryd.pinned (OpenSpec.upto searchLooksSpec)

/-- 'tosherlaw08.SearchJordan', WHERE WHAT IT READS IS OF BULK AT MOST 1048576: true; the input reads as it did. -/
def searchJordanUptoRow : OpenClaim := { program := "ytiejbjajbehcfaadoor", sum := "0fa143d3643b6e1c399221216cbf1aef30d1e324f7235e72e348cb28781860c3", func := "tosher/tosherlaw08.SearchJordan", spec := "searchJordan", unfollowed := true, recurses := true, named := ["math/bits.deBruijn32tab", "math/bits.deBruijn64tab"], apart := false, laid := [("math/bits.deBruijn32tab", laid_math_bits_deBruijn32tab), ("math/bits.deBruijn64tab", laid_math_bits_deBruijn64tab)], narrowed := true }
def SearchJordanUptoSaid : Prop := searchJordanUptoRow.holds Tryd.pinned (OpenSpec.upto searchJordanSpec)

/-- 'tosherlaw08.SearchTrees', WHERE WHAT IT READS IS OF BULK AT MOST 1048576: true; the input reads as it did. -/
def searchTreesUptoRow : OpenClaim := { program := "ytiejbjajbehcfaadoor", sum := "0fa143d3643b6e1c399221216cbf1aef30d1e324f7235e72e348cb28781860c3", func := "tosher/tosherlaw08.SearchTrees", spec := "searchTrees", unfollowed := true, recurses := true, named := ["math/bits.deBruijn32tab", "math/bits.deBruijn64tab"], apart := false, laid := [("math/bits.deBruijn32tab", laid_math_bits_deBruijn32tab), ("math/bits.deBruijn64tab", laid_math_bits_deBruijn64tab)], narrowed := true }
def SearchTreesUptoSaid : Prop := searchTreesUptoRow.holds Tryd.pinned (OpenSpec.upto searchTreesSpec)

end Rows
end Go.Proofs.YtiejbjajbehcfaaDoor
