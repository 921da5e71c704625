/-
  NARROWER THAN 'FOR EVERY INPUT', by the rows' own cells (each row's printed sentence says how): HeardVisits: laid · HeardWays: laid · HeardTruth: laid · HeardBlames: laid · HeardTruths: laid · HeardTwice: laid · HeardLeast: laid · HeardRight: laid · HeardSums: laid.
  DERIVED. THE GIVEN ROWS OF THIS SEAT. 9 by the template 'for every input the law returns true; each argument reads behind the call as it read before'; 0 by the template 'total and deterministic' (their statements: YtpfpjbglpibdoaaGreatDoorTotals.lean).
  GIVEN WITH THE SEED: the statements are not yours to turn. If you find one false, say at which input.
  Laid BY PROGRAM, IN A SANDBOX (cutbox-rows.mjs): the forced cells as the released guide's own fill.sh prints them over the translation b2aa193860d39cbb… (all of the seat's roots in one cut). By AI agents, Wed Nov 11 2026. No macro, syntax, notation, axiom, sorry.
-/
import Derived.Test.YtpfpjbglpibdoaaGreatDoorChecked
import GoSem.Claim
import GoSem.ClaimJoined
import GoSem.ClaimMapViews
import Derived.JoinedTies
import Derived.KernelRfl
namespace Go.Proofs.YtpfpjbglpibdoaaGreatDoor
/- THE CELL 'sum', in the pinned program and in every row, IS THE sha256 OF THE DUMP (.gsa) THAT YtpfpjbglpibdoaaGreatDoorProg.lean LOADS. Nothing in Lean hashes anything: it is a label: what it is worth is what the hold of that sum in a sandbox is worth. -/
noncomputable def Tryz.pinned : Pinned := { name := "ytpfpjbglpibdoaagreatdoor", sum := "b2aa193860d39cbb5396555ab3ba12923a7b455d1b09d12bc024a6806e19684d", checked := Tryz.checked }
namespace Rows
def none {H : Type} : Left H := { results := [], args := [] }

/- WHAT THE LISTED PACKAGE-LEVEL VARIABLES READ AS WHEN THE CALL BEGINS. Each datum BY PROGRAM (the guide's laid-datum.mjs) off the statement by which the dump's own 'gosem.cut.vars' lays the variable. In a bare row this is a premise. The card (YtpfpjbglpibdoaaGreatDoorCards.lean) ties it to the program's text. -/
def laid_math_bits_deBruijn32tab {H : Type} : DataW H := .agg [.lit (.int .u8 0), .lit (.int .u8 1), .lit (.int .u8 28), .lit (.int .u8 2), .lit (.int .u8 29), .lit (.int .u8 14), .lit (.int .u8 24), .lit (.int .u8 3), .lit (.int .u8 30), .lit (.int .u8 22), .lit (.int .u8 20), .lit (.int .u8 15), .lit (.int .u8 25), .lit (.int .u8 17), .lit (.int .u8 4), .lit (.int .u8 8), .lit (.int .u8 31), .lit (.int .u8 27), .lit (.int .u8 13), .lit (.int .u8 23), .lit (.int .u8 21), .lit (.int .u8 19), .lit (.int .u8 16), .lit (.int .u8 7), .lit (.int .u8 26), .lit (.int .u8 12), .lit (.int .u8 18), .lit (.int .u8 6), .lit (.int .u8 11), .lit (.int .u8 5), .lit (.int .u8 10), .lit (.int .u8 9)]
def laid_math_bits_deBruijn64tab {H : Type} : DataW H := .agg [.lit (.int .u8 0), .lit (.int .u8 1), .lit (.int .u8 56), .lit (.int .u8 2), .lit (.int .u8 57), .lit (.int .u8 49), .lit (.int .u8 28), .lit (.int .u8 3), .lit (.int .u8 61), .lit (.int .u8 58), .lit (.int .u8 42), .lit (.int .u8 50), .lit (.int .u8 38), .lit (.int .u8 29), .lit (.int .u8 17), .lit (.int .u8 4), .lit (.int .u8 62), .lit (.int .u8 47), .lit (.int .u8 59), .lit (.int .u8 36), .lit (.int .u8 45), .lit (.int .u8 43), .lit (.int .u8 51), .lit (.int .u8 22), .lit (.int .u8 53), .lit (.int .u8 39), .lit (.int .u8 33), .lit (.int .u8 30), .lit (.int .u8 24), .lit (.int .u8 18), .lit (.int .u8 12), .lit (.int .u8 5), .lit (.int .u8 63), .lit (.int .u8 55), .lit (.int .u8 48), .lit (.int .u8 27), .lit (.int .u8 60), .lit (.int .u8 41), .lit (.int .u8 37), .lit (.int .u8 16), .lit (.int .u8 46), .lit (.int .u8 35), .lit (.int .u8 44), .lit (.int .u8 21), .lit (.int .u8 52), .lit (.int .u8 32), .lit (.int .u8 23), .lit (.int .u8 11), .lit (.int .u8 54), .lit (.int .u8 26), .lit (.int .u8 40), .lit (.int .u8 15), .lit (.int .u8 34), .lit (.int .u8 20), .lit (.int .u8 31), .lit (.int .u8 10), .lit (.int .u8 25), .lit (.int .u8 14), .lit (.int .u8 19), .lit (.int .u8 9), .lit (.int .u8 13), .lit (.int .u8 8), .lit (.int .u8 7), .lit (.int .u8 6)]

/-- 'ochelaw05.HeardVisits': WHATEVER THE INPUT: true; the input reads as it did. -/
def heardVisitsSpec : ChangeSpec := { name := "heardVisits", fn := fun _ => fun
  | [d1, d2] => { results := [.lit (.bool true)], args := [d1, d2] }
  | _ => none }
def heardVisitsRow : OpenClaim := { program := "ytpfpjbglpibdoaagreatdoor", sum := "b2aa193860d39cbb5396555ab3ba12923a7b455d1b09d12bc024a6806e19684d", func := "oche/ochelaw05.HeardVisits", spec := "heardVisits", unfollowed := true, recurses := true, named := ["math/bits.deBruijn32tab", "math/bits.deBruijn64tab"], plainKeys := false, apart := false, laid := [("math/bits.deBruijn32tab", laid_math_bits_deBruijn32tab), ("math/bits.deBruijn64tab", laid_math_bits_deBruijn64tab)] }
def HeardVisitsSaid : Prop := heardVisitsRow.holds Tryz.pinned (OpenSpec.ofChange heardVisitsSpec)

/-- ITS FALSE NEIGHBOUR: 'it returns false'. Refute it at one input. -/
def heardVisitsWrong : ChangeSpec := { name := "heardVisits", fn := fun _ => fun
  | [d1, d2] => { results := [.lit (.bool false)], args := [d1, d2] }
  | _ => none }
def HeardVisitsWrongFalsely : Prop := heardVisitsRow.holds Tryz.pinned (OpenSpec.ofChange heardVisitsWrong)

/-- 'ochelaw05.HeardWays': WHATEVER THE INPUT: true; the input reads as it did. -/
def heardWaysSpec : ChangeSpec := { name := "heardWays", fn := fun _ => fun
  | [d1, d2, d3] => { results := [.lit (.bool true)], args := [d1, d2, d3] }
  | _ => none }
def heardWaysRow : OpenClaim := { program := "ytpfpjbglpibdoaagreatdoor", sum := "b2aa193860d39cbb5396555ab3ba12923a7b455d1b09d12bc024a6806e19684d", func := "oche/ochelaw05.HeardWays", spec := "heardWays", unfollowed := true, recurses := true, named := ["math/bits.deBruijn32tab", "math/bits.deBruijn64tab"], plainKeys := false, apart := false, laid := [("math/bits.deBruijn32tab", laid_math_bits_deBruijn32tab), ("math/bits.deBruijn64tab", laid_math_bits_deBruijn64tab)] }
def HeardWaysSaid : Prop := heardWaysRow.holds Tryz.pinned (OpenSpec.ofChange heardWaysSpec)

/-- ITS FALSE NEIGHBOUR: 'it returns false'. Refute it at one input. -/
def heardWaysWrong : ChangeSpec := { name := "heardWays", fn := fun _ => fun
  | [d1, d2, d3] => { results := [.lit (.bool false)], args := [d1, d2, d3] }
  | _ => none }
def HeardWaysWrongFalsely : Prop := heardWaysRow.holds Tryz.pinned (OpenSpec.ofChange heardWaysWrong)

/-- 'ochelaw05.HeardTruth': WHATEVER THE INPUT: true; the input reads as it did. -/
def heardTruthSpec : ChangeSpec := { name := "heardTruth", fn := fun _ => fun
  | [d1, d2] => { results := [.lit (.bool true)], args := [d1, d2] }
  | _ => none }
def heardTruthRow : OpenClaim := { program := "ytpfpjbglpibdoaagreatdoor", sum := "b2aa193860d39cbb5396555ab3ba12923a7b455d1b09d12bc024a6806e19684d", func := "oche/ochelaw05.HeardTruth", spec := "heardTruth", unfollowed := true, recurses := true, named := ["math/bits.deBruijn32tab", "math/bits.deBruijn64tab"], plainKeys := false, apart := false, laid := [("math/bits.deBruijn32tab", laid_math_bits_deBruijn32tab), ("math/bits.deBruijn64tab", laid_math_bits_deBruijn64tab)] }
def HeardTruthSaid : Prop := heardTruthRow.holds Tryz.pinned (OpenSpec.ofChange heardTruthSpec)

/-- ITS FALSE NEIGHBOUR: 'it returns false'. Refute it at one input. -/
def heardTruthWrong : ChangeSpec := { name := "heardTruth", fn := fun _ => fun
  | [d1, d2] => { results := [.lit (.bool false)], args := [d1, d2] }
  | _ => none }
def HeardTruthWrongFalsely : Prop := heardTruthRow.holds Tryz.pinned (OpenSpec.ofChange heardTruthWrong)

/-- 'ochelaw05.HeardBlames': WHATEVER THE INPUT: true; the input reads as it did. -/
def heardBlamesSpec : ChangeSpec := { name := "heardBlames", fn := fun _ => fun
  | [d1, d2] => { results := [.lit (.bool true)], args := [d1, d2] }
  | _ => none }
def heardBlamesRow : OpenClaim := { program := "ytpfpjbglpibdoaagreatdoor", sum := "b2aa193860d39cbb5396555ab3ba12923a7b455d1b09d12bc024a6806e19684d", func := "oche/ochelaw05.HeardBlames", spec := "heardBlames", unfollowed := true, recurses := true, named := ["math/bits.deBruijn32tab", "math/bits.deBruijn64tab"], plainKeys := false, apart := false, laid := [("math/bits.deBruijn32tab", laid_math_bits_deBruijn32tab), ("math/bits.deBruijn64tab", laid_math_bits_deBruijn64tab)] }
def HeardBlamesSaid : Prop := heardBlamesRow.holds Tryz.pinned (OpenSpec.ofChange heardBlamesSpec)

/-- ITS FALSE NEIGHBOUR: 'it returns false'. Refute it at one input. -/
def heardBlamesWrong : ChangeSpec := { name := "heardBlames", fn := fun _ => fun
  | [d1, d2] => { results := [.lit (.bool false)], args := [d1, d2] }
  | _ => none }
def HeardBlamesWrongFalsely : Prop := heardBlamesRow.holds Tryz.pinned (OpenSpec.ofChange heardBlamesWrong)

/-- 'ochelaw05.HeardTruths': WHATEVER THE INPUT: true; the input reads as it did. -/
def heardTruthsSpec : ChangeSpec := { name := "heardTruths", fn := fun _ => fun
  | [d] => { results := [.lit (.bool true)], args := [d] }
  | _ => none }
def heardTruthsRow : OpenClaim := { program := "ytpfpjbglpibdoaagreatdoor", sum := "b2aa193860d39cbb5396555ab3ba12923a7b455d1b09d12bc024a6806e19684d", func := "oche/ochelaw05.HeardTruths", spec := "heardTruths", unfollowed := true, recurses := true, named := ["math/bits.deBruijn32tab", "math/bits.deBruijn64tab"], plainKeys := false, apart := false, laid := [("math/bits.deBruijn32tab", laid_math_bits_deBruijn32tab), ("math/bits.deBruijn64tab", laid_math_bits_deBruijn64tab)] }
def HeardTruthsSaid : Prop := heardTruthsRow.holds Tryz.pinned (OpenSpec.ofChange heardTruthsSpec)

/-- ITS FALSE NEIGHBOUR: 'it returns false'. Refute it at one input. -/
def heardTruthsWrong : ChangeSpec := { name := "heardTruths", fn := fun _ => fun
  | [d] => { results := [.lit (.bool false)], args := [d] }
  | _ => none }
def HeardTruthsWrongFalsely : Prop := heardTruthsRow.holds Tryz.pinned (OpenSpec.ofChange heardTruthsWrong)

/-- 'ochelaw05.HeardTwice': WHATEVER THE INPUT: true; the input reads as it did. -/
def heardTwiceSpec : ChangeSpec := { name := "heardTwice", fn := fun _ => fun
  | [d1, d2, d3] => { results := [.lit (.bool true)], args := [d1, d2, d3] }
  | _ => none }
def heardTwiceRow : OpenClaim := { program := "ytpfpjbglpibdoaagreatdoor", sum := "b2aa193860d39cbb5396555ab3ba12923a7b455d1b09d12bc024a6806e19684d", func := "oche/ochelaw05.HeardTwice", spec := "heardTwice", unfollowed := true, recurses := true, named := ["math/bits.deBruijn32tab", "math/bits.deBruijn64tab"], plainKeys := false, apart := false, laid := [("math/bits.deBruijn32tab", laid_math_bits_deBruijn32tab), ("math/bits.deBruijn64tab", laid_math_bits_deBruijn64tab)] }
def HeardTwiceSaid : Prop := heardTwiceRow.holds Tryz.pinned (OpenSpec.ofChange heardTwiceSpec)

/-- ITS FALSE NEIGHBOUR: 'it returns false'. Refute it at one input. -/
def heardTwiceWrong : ChangeSpec := { name := "heardTwice", fn := fun _ => fun
  | [d1, d2, d3] => { results := [.lit (.bool false)], args := [d1, d2, d3] }
  | _ => none }
def HeardTwiceWrongFalsely : Prop := heardTwiceRow.holds Tryz.pinned (OpenSpec.ofChange heardTwiceWrong)

/-- 'ochelaw05.HeardLeast': WHATEVER THE INPUT: true; the input reads as it did. -/
def heardLeastSpec : ChangeSpec := { name := "heardLeast", fn := fun _ => fun
  | [d1, d2, d3] => { results := [.lit (.bool true)], args := [d1, d2, d3] }
  | _ => none }
def heardLeastRow : OpenClaim := { program := "ytpfpjbglpibdoaagreatdoor", sum := "b2aa193860d39cbb5396555ab3ba12923a7b455d1b09d12bc024a6806e19684d", func := "oche/ochelaw05.HeardLeast", spec := "heardLeast", unfollowed := true, recurses := true, named := ["math/bits.deBruijn32tab", "math/bits.deBruijn64tab"], plainKeys := false, apart := false, laid := [("math/bits.deBruijn32tab", laid_math_bits_deBruijn32tab), ("math/bits.deBruijn64tab", laid_math_bits_deBruijn64tab)] }
def HeardLeastSaid : Prop := heardLeastRow.holds Tryz.pinned (OpenSpec.ofChange heardLeastSpec)

/-- ITS FALSE NEIGHBOUR: 'it returns false'. Refute it at one input. -/
def heardLeastWrong : ChangeSpec := { name := "heardLeast", fn := fun _ => fun
  | [d1, d2, d3] => { results := [.lit (.bool false)], args := [d1, d2, d3] }
  | _ => none }
def HeardLeastWrongFalsely : Prop := heardLeastRow.holds Tryz.pinned (OpenSpec.ofChange heardLeastWrong)

/-- 'ochelaw05.HeardRight': WHATEVER THE INPUT: true; the input reads as it did. -/
def heardRightSpec : ChangeSpec := { name := "heardRight", fn := fun _ => fun
  | [d1, d2, d3] => { results := [.lit (.bool true)], args := [d1, d2, d3] }
  | _ => none }
def heardRightRow : OpenClaim := { program := "ytpfpjbglpibdoaagreatdoor", sum := "b2aa193860d39cbb5396555ab3ba12923a7b455d1b09d12bc024a6806e19684d", func := "oche/ochelaw05.HeardRight", spec := "heardRight", unfollowed := true, recurses := true, named := ["math/bits.deBruijn32tab", "math/bits.deBruijn64tab"], plainKeys := false, apart := false, laid := [("math/bits.deBruijn32tab", laid_math_bits_deBruijn32tab), ("math/bits.deBruijn64tab", laid_math_bits_deBruijn64tab)] }
def HeardRightSaid : Prop := heardRightRow.holds Tryz.pinned (OpenSpec.ofChange heardRightSpec)

/-- ITS FALSE NEIGHBOUR: 'it returns false'. Refute it at one input. -/
def heardRightWrong : ChangeSpec := { name := "heardRight", fn := fun _ => fun
  | [d1, d2, d3] => { results := [.lit (.bool false)], args := [d1, d2, d3] }
  | _ => none }
def HeardRightWrongFalsely : Prop := heardRightRow.holds Tryz.pinned (OpenSpec.ofChange heardRightWrong)

/-- 'ochelaw05.HeardSums': WHATEVER THE INPUT: true; the input reads as it did. -/
def heardSumsSpec : ChangeSpec := { name := "heardSums", fn := fun _ => fun
  | [d1, d2] => { results := [.lit (.bool true)], args := [d1, d2] }
  | _ => none }
def heardSumsRow : OpenClaim := { program := "ytpfpjbglpibdoaagreatdoor", sum := "b2aa193860d39cbb5396555ab3ba12923a7b455d1b09d12bc024a6806e19684d", func := "oche/ochelaw05.HeardSums", spec := "heardSums", unfollowed := true, recurses := true, named := ["math/bits.deBruijn32tab", "math/bits.deBruijn64tab"], plainKeys := false, apart := false, laid := [("math/bits.deBruijn32tab", laid_math_bits_deBruijn32tab), ("math/bits.deBruijn64tab", laid_math_bits_deBruijn64tab)] }
def HeardSumsSaid : Prop := heardSumsRow.holds Tryz.pinned (OpenSpec.ofChange heardSumsSpec)

/-- ITS FALSE NEIGHBOUR: 'it returns false'. Refute it at one input. -/
def heardSumsWrong : ChangeSpec := { name := "heardSums", fn := fun _ => fun
  | [d1, d2] => { results := [.lit (.bool false)], args := [d1, d2] }
  | _ => none }
def HeardSumsWrongFalsely : Prop := heardSumsRow.holds Tryz.pinned (OpenSpec.ofChange heardSumsWrong)

/- THE SECOND FORM. 'bulk': how many values and letters a reading holds, each counted each time it is reached (what is shared counts as often as it is met; a slice's spare places count too). A statement '..UptoSaid' is the law's where the arguments, and the package variables that the reading takes, are together of bulk at most 1048576: NARROWER than '..Said'. Prove '..Said' where nothing that the law and all that it calls make is longer than what came in: it says more and counts as full. Else prove '..UptoSaid'. A law counts once. -/
mutual
def uptoBulk {H : Type} : DataW H → Nat
  | .lit (.string bytes) => bytes.length + 1
  | .lit _ => 1
  | .nil => 1
  | .ptr d => uptoBulk d + 1
  | .slice elems spare => uptoBulkAll elems + uptoBulkAll spare + 1
  | .agg parts => uptoBulkAll parts + 1
  | .iface _ d => uptoBulk d + 1
  | .map entries => uptoBulkEntries entries + 1
  | .held _ => 1
def uptoBulkAll {H : Type} : List (DataW H) → Nat
  | [] => 0
  | d :: r => uptoBulk d + uptoBulkAll r
def uptoBulkEntries {H : Type} : List (Lit × DataW H) → Nat
  | [] => 0
  | x :: r => uptoBulkEntry x + uptoBulkEntries r
def uptoBulkEntry {H : Type} : Lit × DataW H → Nat
  | (.string bytes, d) => bytes.length + uptoBulk d + 1
  | (_, d) => uptoBulk d + 1
 end
def uptoSmall : (H : Type) → List (DataW H) → Bool := fun _ ds => decide (uptoBulkAll ds ≤ 1048576)
def OpenSpec.upto (s : _root_.Go.ChangeSpec) : _root_.Go.OpenSpec := { _root_.Go.OpenSpec.ofChange s with cond := some uptoSmall }

/-- 'ochelaw05.HeardVisits', WHERE WHAT IT READS IS OF BULK AT MOST 1048576: true; the input reads as it did. -/
def heardVisitsUptoRow : OpenClaim := { program := "ytpfpjbglpibdoaagreatdoor", sum := "b2aa193860d39cbb5396555ab3ba12923a7b455d1b09d12bc024a6806e19684d", func := "oche/ochelaw05.HeardVisits", spec := "heardVisits", unfollowed := true, recurses := true, named := ["math/bits.deBruijn32tab", "math/bits.deBruijn64tab"], plainKeys := false, apart := false, laid := [("math/bits.deBruijn32tab", laid_math_bits_deBruijn32tab), ("math/bits.deBruijn64tab", laid_math_bits_deBruijn64tab)], narrowed := true }
def HeardVisitsUptoSaid : Prop := heardVisitsUptoRow.holds Tryz.pinned (OpenSpec.upto heardVisitsSpec)

/-- 'ochelaw05.HeardWays', WHERE WHAT IT READS IS OF BULK AT MOST 1048576: true; the input reads as it did. -/
def heardWaysUptoRow : OpenClaim := { program := "ytpfpjbglpibdoaagreatdoor", sum := "b2aa193860d39cbb5396555ab3ba12923a7b455d1b09d12bc024a6806e19684d", func := "oche/ochelaw05.HeardWays", spec := "heardWays", unfollowed := true, recurses := true, named := ["math/bits.deBruijn32tab", "math/bits.deBruijn64tab"], plainKeys := false, apart := false, laid := [("math/bits.deBruijn32tab", laid_math_bits_deBruijn32tab), ("math/bits.deBruijn64tab", laid_math_bits_deBruijn64tab)], narrowed := true }
def HeardWaysUptoSaid : Prop := heardWaysUptoRow.holds Tryz.pinned (OpenSpec.upto heardWaysSpec)

/-- 'ochelaw05.HeardTruth', WHERE WHAT IT READS IS OF BULK AT MOST 1048576: true; the input reads as it did. -/
def heardTruthUptoRow : OpenClaim := { program := "ytpfpjbglpibdoaagreatdoor", sum := "b2aa193860d39cbb5396555ab3ba12923a7b455d1b09d12bc024a6806e19684d", func := "oche/ochelaw05.HeardTruth", spec := "heardTruth", unfollowed := true, recurses := true, named := ["math/bits.deBruijn32tab", "math/bits.deBruijn64tab"], plainKeys := false, apart := false, laid := [("math/bits.deBruijn32tab", laid_math_bits_deBruijn32tab), ("math/bits.deBruijn64tab", laid_math_bits_deBruijn64tab)], narrowed := true }
def HeardTruthUptoSaid : Prop := heardTruthUptoRow.holds Tryz.pinned (OpenSpec.upto heardTruthSpec)

/-- 'ochelaw05.HeardBlames', WHERE WHAT IT READS IS OF BULK AT MOST 1048576: true; the input reads as it did. -/
def heardBlamesUptoRow : OpenClaim := { program := "ytpfpjbglpibdoaagreatdoor", sum := "b2aa193860d39cbb5396555ab3ba12923a7b455d1b09d12bc024a6806e19684d", func := "oche/ochelaw05.HeardBlames", spec := "heardBlames", unfollowed := true, recurses := true, named := ["math/bits.deBruijn32tab", "math/bits.deBruijn64tab"], plainKeys := false, apart := false, laid := [("math/bits.deBruijn32tab", laid_math_bits_deBruijn32tab), ("math/bits.deBruijn64tab", laid_math_bits_deBruijn64tab)], narrowed := true }
def HeardBlamesUptoSaid : Prop := heardBlamesUptoRow.holds Tryz.pinned (OpenSpec.upto heardBlamesSpec)

/-- 'ochelaw05.HeardTruths', WHERE WHAT IT READS IS OF BULK AT MOST 1048576: true; the input reads as it did. -/
def heardTruthsUptoRow : OpenClaim := { program := "ytpfpjbglpibdoaagreatdoor", sum := "b2aa193860d39cbb5396555ab3ba12923a7b455d1b09d12bc024a6806e19684d", func := "oche/ochelaw05.HeardTruths", spec := "heardTruths", unfollowed := true, recurses := true, named := ["math/bits.deBruijn32tab", "math/bits.deBruijn64tab"], plainKeys := false, apart := false, laid := [("math/bits.deBruijn32tab", laid_math_bits_deBruijn32tab), ("math/bits.deBruijn64tab", laid_math_bits_deBruijn64tab)], narrowed := true }
def HeardTruthsUptoSaid : Prop := heardTruthsUptoRow.holds Tryz.pinned (OpenSpec.upto heardTruthsSpec)

/-- 'ochelaw05.HeardTwice', WHERE WHAT IT READS IS OF BULK AT MOST 1048576: true; the input reads as it did. -/
def heardTwiceUptoRow : OpenClaim := { program := "ytpfpjbglpibdoaagreatdoor", sum := "b2aa193860d39cbb5396555ab3ba12923a7b455d1b09d12bc024a6806e19684d", func := "oche/ochelaw05.HeardTwice", spec := "heardTwice", unfollowed := true, recurses := true, named := ["math/bits.deBruijn32tab", "math/bits.deBruijn64tab"], plainKeys := false, apart := false, laid := [("math/bits.deBruijn32tab", laid_math_bits_deBruijn32tab), ("math/bits.deBruijn64tab", laid_math_bits_deBruijn64tab)], narrowed := true }
def HeardTwiceUptoSaid : Prop := heardTwiceUptoRow.holds Tryz.pinned (OpenSpec.upto heardTwiceSpec)

/-- 'ochelaw05.HeardLeast', WHERE WHAT IT READS IS OF BULK AT MOST 1048576: true; the input reads as it did. -/
def heardLeastUptoRow : OpenClaim := { program := "ytpfpjbglpibdoaagreatdoor", sum := "b2aa193860d39cbb5396555ab3ba12923a7b455d1b09d12bc024a6806e19684d", func := "oche/ochelaw05.HeardLeast", spec := "heardLeast", unfollowed := true, recurses := true, named := ["math/bits.deBruijn32tab", "math/bits.deBruijn64tab"], plainKeys := false, apart := false, laid := [("math/bits.deBruijn32tab", laid_math_bits_deBruijn32tab), ("math/bits.deBruijn64tab", laid_math_bits_deBruijn64tab)], narrowed := true }
def HeardLeastUptoSaid : Prop := heardLeastUptoRow.holds Tryz.pinned (OpenSpec.upto heardLeastSpec)

/-- 'ochelaw05.HeardRight', WHERE WHAT IT READS IS OF BULK AT MOST 1048576: true; the input reads as it did. -/
def heardRightUptoRow : OpenClaim := { program := "ytpfpjbglpibdoaagreatdoor", sum := "b2aa193860d39cbb5396555ab3ba12923a7b455d1b09d12bc024a6806e19684d", func := "oche/ochelaw05.HeardRight", spec := "heardRight", unfollowed := true, recurses := true, named := ["math/bits.deBruijn32tab", "math/bits.deBruijn64tab"], plainKeys := false, apart := false, laid := [("math/bits.deBruijn32tab", laid_math_bits_deBruijn32tab), ("math/bits.deBruijn64tab", laid_math_bits_deBruijn64tab)], narrowed := true }
def HeardRightUptoSaid : Prop := heardRightUptoRow.holds Tryz.pinned (OpenSpec.upto heardRightSpec)

/-- 'ochelaw05.HeardSums', WHERE WHAT IT READS IS OF BULK AT MOST 1048576: true; the input reads as it did. -/
def heardSumsUptoRow : OpenClaim := { program := "ytpfpjbglpibdoaagreatdoor", sum := "b2aa193860d39cbb5396555ab3ba12923a7b455d1b09d12bc024a6806e19684d", func := "oche/ochelaw05.HeardSums", spec := "heardSums", unfollowed := true, recurses := true, named := ["math/bits.deBruijn32tab", "math/bits.deBruijn64tab"], plainKeys := false, apart := false, laid := [("math/bits.deBruijn32tab", laid_math_bits_deBruijn32tab), ("math/bits.deBruijn64tab", laid_math_bits_deBruijn64tab)], narrowed := true }
def HeardSumsUptoSaid : Prop := heardSumsUptoRow.holds Tryz.pinned (OpenSpec.upto heardSumsSpec)

end Rows
end Go.Proofs.YtpfpjbglpibdoaaGreatDoor
