/-
  No cell of these rows narrows 'for every input' (looked for: loops, veiled, ifaces, maps, wideKeys, modest, calm, conditions, laid).
  DERIVED. THE GIVEN ROWS OF THIS SEAT. 9 by the template 'for every input the law returns true; each argument reads behind the call as it read before'; 0 by the template 'total and deterministic' (their statements: YtcnofoopdghjiaaTotals.lean).
  GIVEN WITH THE SEED: the statements are not yours to turn. If you find one false, say at which input.
  Laid BY PROGRAM, IN A SANDBOX (cutbox-rows.mjs): the forced cells as the released guide's own fill.sh prints them over the translation 53a153f5100d1bd3… (all of the seat's roots in one cut). By AI agents, Wed Nov 11 2026. No macro, syntax, notation, axiom, sorry.
-/
import Derived.Test.YtcnofoopdghjiaaChecked
import GoSem.Claim
import GoSem.ClaimJoined
import GoSem.ClaimMapViews
import Derived.JoinedTies
import Derived.KernelRfl
namespace Go.Proofs.Ytcnofoopdghjiaa
/- THE CELL 'sum', in the pinned program and in every row, IS THE sha256 OF THE DUMP (.gsa) THAT YtcnofoopdghjiaaProg.lean LOADS. Nothing in Lean hashes anything: it is a label: what it is worth is what the hold of that sum in a sandbox is worth. -/
noncomputable def Try.pinned : Pinned := { name := "ytcnofoopdghjiaa", sum := "53a153f5100d1bd32ee1317188a046f667154b3f678f32f8dec058aa3da2e815", checked := Try.checked }
namespace Rows
def none {H : Type} : Left H := { results := [], args := [] }

/-- 'ochelaw02.OutWays': WHATEVER THE INPUT: true; the input reads as it did. -/
def outWaysSpec : ChangeSpec := { name := "outWays", fn := fun _ => fun
  | [d1, d2] => { results := [.lit (.bool true)], args := [d1, d2] }
  | _ => none }
def outWaysRow : OpenClaim := { program := "ytcnofoopdghjiaa", sum := "53a153f5100d1bd32ee1317188a046f667154b3f678f32f8dec058aa3da2e815", func := "oche/ochelaw02.OutWays", spec := "outWays", unfollowed := true, recurses := true, apart := false }
def OutWaysSaid : Prop := outWaysRow.holds Try.pinned (OpenSpec.ofChange outWaysSpec)

/-- ITS FALSE NEIGHBOUR: 'it returns false'. Refute it at one input. -/
def outWaysWrong : ChangeSpec := { name := "outWays", fn := fun _ => fun
  | [d1, d2] => { results := [.lit (.bool false)], args := [d1, d2] }
  | _ => none }
def OutWaysWrongFalsely : Prop := outWaysRow.holds Try.pinned (OpenSpec.ofChange outWaysWrong)

/-- 'ochelaw02.OutNumbers': WHATEVER THE INPUT: true; the input reads as it did. -/
def outNumbersSpec : ChangeSpec := { name := "outNumbers", fn := fun _ => fun
  | [d1, d2] => { results := [.lit (.bool true)], args := [d1, d2] }
  | _ => none }
def outNumbersRow : OpenClaim := { program := "ytcnofoopdghjiaa", sum := "53a153f5100d1bd32ee1317188a046f667154b3f678f32f8dec058aa3da2e815", func := "oche/ochelaw02.OutNumbers", spec := "outNumbers", unfollowed := true, recurses := true, apart := false }
def OutNumbersSaid : Prop := outNumbersRow.holds Try.pinned (OpenSpec.ofChange outNumbersSpec)

/-- ITS FALSE NEIGHBOUR: 'it returns false'. Refute it at one input. -/
def outNumbersWrong : ChangeSpec := { name := "outNumbers", fn := fun _ => fun
  | [d1, d2] => { results := [.lit (.bool false)], args := [d1, d2] }
  | _ => none }
def OutNumbersWrongFalsely : Prop := outNumbersRow.holds Try.pinned (OpenSpec.ofChange outNumbersWrong)

/-- 'ochelaw02.OutScores': WHATEVER THE INPUT: true; the input reads as it did. -/
def outScoresSpec : ChangeSpec := { name := "outScores", fn := fun _ => fun
  | [d1, d2, d3] => { results := [.lit (.bool true)], args := [d1, d2, d3] }
  | _ => none }
def outScoresRow : OpenClaim := { program := "ytcnofoopdghjiaa", sum := "53a153f5100d1bd32ee1317188a046f667154b3f678f32f8dec058aa3da2e815", func := "oche/ochelaw02.OutScores", spec := "outScores", unfollowed := true, recurses := true, apart := false }
def OutScoresSaid : Prop := outScoresRow.holds Try.pinned (OpenSpec.ofChange outScoresSpec)

/-- ITS FALSE NEIGHBOUR: 'it returns false'. Refute it at one input. -/
def outScoresWrong : ChangeSpec := { name := "outScores", fn := fun _ => fun
  | [d1, d2, d3] => { results := [.lit (.bool false)], args := [d1, d2, d3] }
  | _ => none }
def OutScoresWrongFalsely : Prop := outScoresRow.holds Try.pinned (OpenSpec.ofChange outScoresWrong)

/-- 'ochelaw02.OutLegs': WHATEVER THE INPUT: true; the input reads as it did. -/
def outLegsSpec : ChangeSpec := { name := "outLegs", fn := fun _ => fun
  | [d1, d2, d3] => { results := [.lit (.bool true)], args := [d1, d2, d3] }
  | _ => none }
def outLegsRow : OpenClaim := { program := "ytcnofoopdghjiaa", sum := "53a153f5100d1bd32ee1317188a046f667154b3f678f32f8dec058aa3da2e815", func := "oche/ochelaw02.OutLegs", spec := "outLegs", unfollowed := true, recurses := true, apart := false }
def OutLegsSaid : Prop := outLegsRow.holds Try.pinned (OpenSpec.ofChange outLegsSpec)

/-- ITS FALSE NEIGHBOUR: 'it returns false'. Refute it at one input. -/
def outLegsWrong : ChangeSpec := { name := "outLegs", fn := fun _ => fun
  | [d1, d2, d3] => { results := [.lit (.bool false)], args := [d1, d2, d3] }
  | _ => none }
def OutLegsWrongFalsely : Prop := outLegsRow.holds Try.pinned (OpenSpec.ofChange outLegsWrong)

/-- 'ochelaw02.OutEnds': WHATEVER THE INPUT: true; the input reads as it did. -/
def outEndsSpec : ChangeSpec := { name := "outEnds", fn := fun _ => fun
  | [d1, d2] => { results := [.lit (.bool true)], args := [d1, d2] }
  | _ => none }
def outEndsRow : OpenClaim := { program := "ytcnofoopdghjiaa", sum := "53a153f5100d1bd32ee1317188a046f667154b3f678f32f8dec058aa3da2e815", func := "oche/ochelaw02.OutEnds", spec := "outEnds", unfollowed := true, recurses := true, apart := false }
def OutEndsSaid : Prop := outEndsRow.holds Try.pinned (OpenSpec.ofChange outEndsSpec)

/-- ITS FALSE NEIGHBOUR: 'it returns false'. Refute it at one input. -/
def outEndsWrong : ChangeSpec := { name := "outEnds", fn := fun _ => fun
  | [d1, d2] => { results := [.lit (.bool false)], args := [d1, d2] }
  | _ => none }
def OutEndsWrongFalsely : Prop := outEndsRow.holds Try.pinned (OpenSpec.ofChange outEndsWrong)

/-- 'ochelaw02.OutFound': WHATEVER THE INPUT: true; the input reads as it did. -/
def outFoundSpec : ChangeSpec := { name := "outFound", fn := fun _ => fun
  | [d1, d2] => { results := [.lit (.bool true)], args := [d1, d2] }
  | _ => none }
def outFoundRow : OpenClaim := { program := "ytcnofoopdghjiaa", sum := "53a153f5100d1bd32ee1317188a046f667154b3f678f32f8dec058aa3da2e815", func := "oche/ochelaw02.OutFound", spec := "outFound", unfollowed := true, recurses := true, apart := false }
def OutFoundSaid : Prop := outFoundRow.holds Try.pinned (OpenSpec.ofChange outFoundSpec)

/-- ITS FALSE NEIGHBOUR: 'it returns false'. Refute it at one input. -/
def outFoundWrong : ChangeSpec := { name := "outFound", fn := fun _ => fun
  | [d1, d2] => { results := [.lit (.bool false)], args := [d1, d2] }
  | _ => none }
def OutFoundWrongFalsely : Prop := outFoundRow.holds Try.pinned (OpenSpec.ofChange outFoundWrong)

/-- 'ochelaw02.OutNever': WHATEVER THE INPUT: true; the input reads as it did. -/
def outNeverSpec : ChangeSpec := { name := "outNever", fn := fun _ => fun
  | [d1, d2, d3] => { results := [.lit (.bool true)], args := [d1, d2, d3] }
  | _ => none }
def outNeverRow : OpenClaim := { program := "ytcnofoopdghjiaa", sum := "53a153f5100d1bd32ee1317188a046f667154b3f678f32f8dec058aa3da2e815", func := "oche/ochelaw02.OutNever", spec := "outNever", unfollowed := true, recurses := true, apart := false }
def OutNeverSaid : Prop := outNeverRow.holds Try.pinned (OpenSpec.ofChange outNeverSpec)

/-- ITS FALSE NEIGHBOUR: 'it returns false'. Refute it at one input. -/
def outNeverWrong : ChangeSpec := { name := "outNever", fn := fun _ => fun
  | [d1, d2, d3] => { results := [.lit (.bool false)], args := [d1, d2, d3] }
  | _ => none }
def OutNeverWrongFalsely : Prop := outNeverRow.holds Try.pinned (OpenSpec.ofChange outNeverWrong)

/-- 'ochelaw02.OutMore': WHATEVER THE INPUT: true; the input reads as it did. -/
def outMoreSpec : ChangeSpec := { name := "outMore", fn := fun _ => fun
  | [d1, d2, d3] => { results := [.lit (.bool true)], args := [d1, d2, d3] }
  | _ => none }
def outMoreRow : OpenClaim := { program := "ytcnofoopdghjiaa", sum := "53a153f5100d1bd32ee1317188a046f667154b3f678f32f8dec058aa3da2e815", func := "oche/ochelaw02.OutMore", spec := "outMore", unfollowed := true, recurses := true, apart := false }
def OutMoreSaid : Prop := outMoreRow.holds Try.pinned (OpenSpec.ofChange outMoreSpec)

/-- ITS FALSE NEIGHBOUR: 'it returns false'. Refute it at one input. -/
def outMoreWrong : ChangeSpec := { name := "outMore", fn := fun _ => fun
  | [d1, d2, d3] => { results := [.lit (.bool false)], args := [d1, d2, d3] }
  | _ => none }
def OutMoreWrongFalsely : Prop := outMoreRow.holds Try.pinned (OpenSpec.ofChange outMoreWrong)

/-- 'ochelaw02.OutSplit': WHATEVER THE INPUT: true; the input reads as it did. -/
def outSplitSpec : ChangeSpec := { name := "outSplit", fn := fun _ => fun
  | [d1, d2] => { results := [.lit (.bool true)], args := [d1, d2] }
  | _ => none }
def outSplitRow : OpenClaim := { program := "ytcnofoopdghjiaa", sum := "53a153f5100d1bd32ee1317188a046f667154b3f678f32f8dec058aa3da2e815", func := "oche/ochelaw02.OutSplit", spec := "outSplit", unfollowed := true, recurses := true, apart := false }
def OutSplitSaid : Prop := outSplitRow.holds Try.pinned (OpenSpec.ofChange outSplitSpec)

/-- ITS FALSE NEIGHBOUR: 'it returns false'. Refute it at one input. -/
def outSplitWrong : ChangeSpec := { name := "outSplit", fn := fun _ => fun
  | [d1, d2] => { results := [.lit (.bool false)], args := [d1, d2] }
  | _ => none }
def OutSplitWrongFalsely : Prop := outSplitRow.holds Try.pinned (OpenSpec.ofChange outSplitWrong)

/- THE SECOND FORM. 'bulk': how many values and letters a reading holds, each counted each time it is reached (what is shared counts as often as it is met; a slice's spare places count too). A statement '..UptoSaid' is the law's where the arguments, and the package variables that the reading takes, are together of bulk at most 1048576: NARROWER than '..Said'. Prove '..Said' where nothing that the law and all that it calls make is longer than what came in: it says more and counts as full. Else prove '..UptoSaid'. A law counts once. -/
mutual
def uptoBulk {H : Type} : DataW H → Nat
  | .lit (.string bytes) => bytes.length + 1
  | .lit _ => 1
  | .nil => 1
  | .ptr d => uptoBulk d + 1
  | .slice elems spare => uptoBulkAll elems + uptoBulkAll spare + 1
  | .agg parts => uptoBulkAll parts + 1
  | .iface _ d => uptoBulk d + 1
  | .map entries => uptoBulkEntries entries + 1
  | .held _ => 1
def uptoBulkAll {H : Type} : List (DataW H) → Nat
  | [] => 0
  | d :: r => uptoBulk d + uptoBulkAll r
def uptoBulkEntries {H : Type} : List (Lit × DataW H) → Nat
  | [] => 0
  | x :: r => uptoBulkEntry x + uptoBulkEntries r
def uptoBulkEntry {H : Type} : Lit × DataW H → Nat
  | (.string bytes, d) => bytes.length + uptoBulk d + 1
  | (_, d) => uptoBulk d + 1
 end
def uptoSmall : (H : Type) → List (DataW H) → Bool := fun _ ds => decide (uptoBulkAll ds ≤ 1048576)
def OpenSpec.upto (s : _root_.Go.ChangeSpec) : _root_.Go.OpenSpec := { _root_.Go.OpenSpec.ofChange s with cond := some uptoSmall }

/-- 'ochelaw02.OutWays', WHERE WHAT IT READS IS OF BULK AT MOST 1048576: true; the input reads as it did. -/
def outWaysUptoRow : OpenClaim := { program := "ytcnofoopdghjiaa", sum := "53a153f5100d1bd32ee1317188a046f667154b3f678f32f8dec058aa3da2e815", func := "oche/ochelaw02.OutWays", spec := "outWays", unfollowed := true, recurses := true, apart := false, narrowed := true }
def OutWaysUptoSaid : Prop := outWaysUptoRow.holds Try.pinned (OpenSpec.upto outWaysSpec)

/-- 'ochelaw02.OutNumbers', WHERE WHAT IT READS IS OF BULK AT MOST 1048576: true; the input reads as it did. -/
def outNumbersUptoRow : OpenClaim := { program := "ytcnofoopdghjiaa", sum := "53a153f5100d1bd32ee1317188a046f667154b3f678f32f8dec058aa3da2e815", func := "oche/ochelaw02.OutNumbers", spec := "outNumbers", unfollowed := true, recurses := true, apart := false, narrowed := true }
def OutNumbersUptoSaid : Prop := outNumbersUptoRow.holds Try.pinned (OpenSpec.upto outNumbersSpec)

/-- 'ochelaw02.OutScores', WHERE WHAT IT READS IS OF BULK AT MOST 1048576: true; the input reads as it did. -/
def outScoresUptoRow : OpenClaim := { program := "ytcnofoopdghjiaa", sum := "53a153f5100d1bd32ee1317188a046f667154b3f678f32f8dec058aa3da2e815", func := "oche/ochelaw02.OutScores", spec := "outScores", unfollowed := true, recurses := true, apart := false, narrowed := true }
def OutScoresUptoSaid : Prop := outScoresUptoRow.holds Try.pinned (OpenSpec.upto outScoresSpec)

/-- 'ochelaw02.OutLegs', WHERE WHAT IT READS IS OF BULK AT MOST 1048576: true; the input reads as it did. -/
def outLegsUptoRow : OpenClaim := { program := "ytcnofoopdghjiaa", sum := "53a153f5100d1bd32ee1317188a046f667154b3f678f32f8dec058aa3da2e815", func := "oche/ochelaw02.OutLegs", spec := "outLegs", unfollowed := true, recurses := true, apart := false, narrowed := true }
def OutLegsUptoSaid : Prop := outLegsUptoRow.holds Try.pinned (OpenSpec.upto outLegsSpec)

/-- 'ochelaw02.OutEnds', WHERE WHAT IT READS IS OF BULK AT MOST 1048576: true; the input reads as it did. -/
def outEndsUptoRow : OpenClaim := { program := "ytcnofoopdghjiaa", sum := "53a153f5100d1bd32ee1317188a046f667154b3f678f32f8dec058aa3da2e815", func := "oche/ochelaw02.OutEnds", spec := "outEnds", unfollowed := true, recurses := true, apart := false, narrowed := true }
def OutEndsUptoSaid : Prop := outEndsUptoRow.holds Try.pinned (OpenSpec.upto outEndsSpec)

/-- 'ochelaw02.OutFound', WHERE WHAT IT READS IS OF BULK AT MOST 1048576: true; the input reads as it did. -/
def outFoundUptoRow : OpenClaim := { program := "ytcnofoopdghjiaa", sum := "53a153f5100d1bd32ee1317188a046f667154b3f678f32f8dec058aa3da2e815", func := "oche/ochelaw02.OutFound", spec := "outFound", unfollowed := true, recurses := true, apart := false, narrowed := true }
def OutFoundUptoSaid : Prop := outFoundUptoRow.holds Try.pinned (OpenSpec.upto outFoundSpec)

/-- 'ochelaw02.OutNever', WHERE WHAT IT READS IS OF BULK AT MOST 1048576: true; the input reads as it did. -/
def outNeverUptoRow : OpenClaim := { program := "ytcnofoopdghjiaa", sum := "53a153f5100d1bd32ee1317188a046f667154b3f678f32f8dec058aa3da2e815", func := "oche/ochelaw02.OutNever", spec := "outNever", unfollowed := true, recurses := true, apart := false, narrowed := true }
def OutNeverUptoSaid : Prop := outNeverUptoRow.holds Try.pinned (OpenSpec.upto outNeverSpec)

/-- 'ochelaw02.OutMore', WHERE WHAT IT READS IS OF BULK AT MOST 1048576: true; the input reads as it did. -/
def outMoreUptoRow : OpenClaim := { program := "ytcnofoopdghjiaa", sum := "53a153f5100d1bd32ee1317188a046f667154b3f678f32f8dec058aa3da2e815", func := "oche/ochelaw02.OutMore", spec := "outMore", unfollowed := true, recurses := true, apart := false, narrowed := true }
def OutMoreUptoSaid : Prop := outMoreUptoRow.holds Try.pinned (OpenSpec.upto outMoreSpec)

/-- 'ochelaw02.OutSplit', WHERE WHAT IT READS IS OF BULK AT MOST 1048576: true; the input reads as it did. -/
def outSplitUptoRow : OpenClaim := { program := "ytcnofoopdghjiaa", sum := "53a153f5100d1bd32ee1317188a046f667154b3f678f32f8dec058aa3da2e815", func := "oche/ochelaw02.OutSplit", spec := "outSplit", unfollowed := true, recurses := true, apart := false, narrowed := true }
def OutSplitUptoSaid : Prop := outSplitUptoRow.holds Try.pinned (OpenSpec.upto outSplitSpec)

end Rows
end Go.Proofs.Ytcnofoopdghjiaa
