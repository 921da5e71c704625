/-
  No cell of these rows narrows 'for every input' (looked for: loops, veiled, ifaces, maps, wideKeys, modest, calm, conditions, laid).
  DERIVED. THE GIVEN ROWS OF THIS SEAT. 6 by the template 'for every input the law returns true; each argument reads behind the call as it read before'; 0 by the template 'total and deterministic' (their statements: YtnhggfnnolfcdaaTotals.lean).
  GIVEN WITH THE SEED: the statements are not yours to turn. If you find one false, say at which input.
  Laid BY PROGRAM, IN A SANDBOX (cutbox-rows.mjs): the forced cells as the released guide's own fill.sh prints them over the translation 615eff5584e687f0… (all of the seat's roots in one cut). By AI agents, Wed Nov 11 2026. No macro, syntax, notation, axiom, sorry.
-/
import Derived.Test.YtnhggfnnolfcdaaChecked
import GoSem.Claim
import GoSem.ClaimJoined
import GoSem.ClaimMapViews
import Derived.JoinedTies
import Derived.KernelRfl
namespace Go.Proofs.Ytnhggfnnolfcdaa
/- THE CELL 'sum', in the pinned program and in every row, IS THE sha256 OF THE DUMP (.gsa) THAT YtnhggfnnolfcdaaProg.lean LOADS. Nothing in Lean hashes anything: it is a label: what it is worth is what the hold of that sum in a sandbox is worth. -/
noncomputable def Try.pinned : Pinned := { name := "ytnhggfnnolfcdaa", sum := "615eff5584e687f031127f31749607e3fc7344a0663f2cd035c18c78463b077f", checked := Try.checked }
namespace Rows
def none {H : Type} : Left H := { results := [], args := [] }

/-- 'ochelaw04.GamePlays': WHATEVER THE INPUT: true; the input reads as it did. -/
def gamePlaysSpec : ChangeSpec := { name := "gamePlays", fn := fun _ => fun
  | [d1, d2] => { results := [.lit (.bool true)], args := [d1, d2] }
  | _ => none }
def gamePlaysRow : OpenClaim := { program := "ytnhggfnnolfcdaa", sum := "615eff5584e687f031127f31749607e3fc7344a0663f2cd035c18c78463b077f", func := "oche/ochelaw04.GamePlays", spec := "gamePlays", unfollowed := true, recurses := true, apart := false }
def GamePlaysSaid : Prop := gamePlaysRow.holds Try.pinned (OpenSpec.ofChange gamePlaysSpec)

/-- ITS FALSE NEIGHBOUR: 'it returns false'. Refute it at one input. -/
def gamePlaysWrong : ChangeSpec := { name := "gamePlays", fn := fun _ => fun
  | [d1, d2] => { results := [.lit (.bool false)], args := [d1, d2] }
  | _ => none }
def GamePlaysWrongFalsely : Prop := gamePlaysRow.holds Try.pinned (OpenSpec.ofChange gamePlaysWrong)

/-- 'ochelaw04.GameUses': WHATEVER THE INPUT: true; the input reads as it did. -/
def gameUsesSpec : ChangeSpec := { name := "gameUses", fn := fun _ => fun
  | [d1, d2] => { results := [.lit (.bool true)], args := [d1, d2] }
  | _ => none }
def gameUsesRow : OpenClaim := { program := "ytnhggfnnolfcdaa", sum := "615eff5584e687f031127f31749607e3fc7344a0663f2cd035c18c78463b077f", func := "oche/ochelaw04.GameUses", spec := "gameUses", unfollowed := true, recurses := true, apart := false }
def GameUsesSaid : Prop := gameUsesRow.holds Try.pinned (OpenSpec.ofChange gameUsesSpec)

/-- ITS FALSE NEIGHBOUR: 'it returns false'. Refute it at one input. -/
def gameUsesWrong : ChangeSpec := { name := "gameUses", fn := fun _ => fun
  | [d1, d2] => { results := [.lit (.bool false)], args := [d1, d2] }
  | _ => none }
def GameUsesWrongFalsely : Prop := gameUsesRow.holds Try.pinned (OpenSpec.ofChange gameUsesWrong)

/-- 'ochelaw04.GameSteps': WHATEVER THE INPUT: true; the input reads as it did. -/
def gameStepsSpec : ChangeSpec := { name := "gameSteps", fn := fun _ => fun
  | [d1, d2] => { results := [.lit (.bool true)], args := [d1, d2] }
  | _ => none }
def gameStepsRow : OpenClaim := { program := "ytnhggfnnolfcdaa", sum := "615eff5584e687f031127f31749607e3fc7344a0663f2cd035c18c78463b077f", func := "oche/ochelaw04.GameSteps", spec := "gameSteps", unfollowed := true, recurses := true, apart := false }
def GameStepsSaid : Prop := gameStepsRow.holds Try.pinned (OpenSpec.ofChange gameStepsSpec)

/-- ITS FALSE NEIGHBOUR: 'it returns false'. Refute it at one input. -/
def gameStepsWrong : ChangeSpec := { name := "gameSteps", fn := fun _ => fun
  | [d1, d2] => { results := [.lit (.bool false)], args := [d1, d2] }
  | _ => none }
def GameStepsWrongFalsely : Prop := gameStepsRow.holds Try.pinned (OpenSpec.ofChange gameStepsWrong)

/-- 'ochelaw04.GameTurns': WHATEVER THE INPUT: true; the input reads as it did. -/
def gameTurnsSpec : ChangeSpec := { name := "gameTurns", fn := fun _ => fun
  | [d1, d2] => { results := [.lit (.bool true)], args := [d1, d2] }
  | _ => none }
def gameTurnsRow : OpenClaim := { program := "ytnhggfnnolfcdaa", sum := "615eff5584e687f031127f31749607e3fc7344a0663f2cd035c18c78463b077f", func := "oche/ochelaw04.GameTurns", spec := "gameTurns", unfollowed := true, recurses := true, apart := false }
def GameTurnsSaid : Prop := gameTurnsRow.holds Try.pinned (OpenSpec.ofChange gameTurnsSpec)

/-- ITS FALSE NEIGHBOUR: 'it returns false'. Refute it at one input. -/
def gameTurnsWrong : ChangeSpec := { name := "gameTurns", fn := fun _ => fun
  | [d1, d2] => { results := [.lit (.bool false)], args := [d1, d2] }
  | _ => none }
def GameTurnsWrongFalsely : Prop := gameTurnsRow.holds Try.pinned (OpenSpec.ofChange gameTurnsWrong)

/-- 'ochelaw04.GameWins': WHATEVER THE INPUT: true; the input reads as it did. -/
def gameWinsSpec : ChangeSpec := { name := "gameWins", fn := fun _ => fun
  | [d1, d2] => { results := [.lit (.bool true)], args := [d1, d2] }
  | _ => none }
def gameWinsRow : OpenClaim := { program := "ytnhggfnnolfcdaa", sum := "615eff5584e687f031127f31749607e3fc7344a0663f2cd035c18c78463b077f", func := "oche/ochelaw04.GameWins", spec := "gameWins", unfollowed := true, recurses := true, apart := false }
def GameWinsSaid : Prop := gameWinsRow.holds Try.pinned (OpenSpec.ofChange gameWinsSpec)

/-- ITS FALSE NEIGHBOUR: 'it returns false'. Refute it at one input. -/
def gameWinsWrong : ChangeSpec := { name := "gameWins", fn := fun _ => fun
  | [d1, d2] => { results := [.lit (.bool false)], args := [d1, d2] }
  | _ => none }
def GameWinsWrongFalsely : Prop := gameWinsRow.holds Try.pinned (OpenSpec.ofChange gameWinsWrong)

/-- 'ochelaw04.GameHelps': WHATEVER THE INPUT: true; the input reads as it did. -/
def gameHelpsSpec : ChangeSpec := { name := "gameHelps", fn := fun _ => fun
  | [d1, d2, d3] => { results := [.lit (.bool true)], args := [d1, d2, d3] }
  | _ => none }
def gameHelpsRow : OpenClaim := { program := "ytnhggfnnolfcdaa", sum := "615eff5584e687f031127f31749607e3fc7344a0663f2cd035c18c78463b077f", func := "oche/ochelaw04.GameHelps", spec := "gameHelps", unfollowed := true, recurses := true, apart := false }
def GameHelpsSaid : Prop := gameHelpsRow.holds Try.pinned (OpenSpec.ofChange gameHelpsSpec)

/-- ITS FALSE NEIGHBOUR: 'it returns false'. Refute it at one input. -/
def gameHelpsWrong : ChangeSpec := { name := "gameHelps", fn := fun _ => fun
  | [d1, d2, d3] => { results := [.lit (.bool false)], args := [d1, d2, d3] }
  | _ => none }
def GameHelpsWrongFalsely : Prop := gameHelpsRow.holds Try.pinned (OpenSpec.ofChange gameHelpsWrong)

/- THE SECOND FORM. 'bulk': how many values and letters a reading holds, each counted each time it is reached (what is shared counts as often as it is met; a slice's spare places count too). A statement '..UptoSaid' is the law's where the arguments, and the package variables that the reading takes, are together of bulk at most 1048576: NARROWER than '..Said'. Prove '..Said' where nothing that the law and all that it calls make is longer than what came in: it says more and counts as full. Else prove '..UptoSaid'. A law counts once. -/
mutual
def uptoBulk {H : Type} : DataW H → Nat
  | .lit (.string bytes) => bytes.length + 1
  | .lit _ => 1
  | .nil => 1
  | .ptr d => uptoBulk d + 1
  | .slice elems spare => uptoBulkAll elems + uptoBulkAll spare + 1
  | .agg parts => uptoBulkAll parts + 1
  | .iface _ d => uptoBulk d + 1
  | .map entries => uptoBulkEntries entries + 1
  | .held _ => 1
def uptoBulkAll {H : Type} : List (DataW H) → Nat
  | [] => 0
  | d :: r => uptoBulk d + uptoBulkAll r
def uptoBulkEntries {H : Type} : List (Lit × DataW H) → Nat
  | [] => 0
  | x :: r => uptoBulkEntry x + uptoBulkEntries r
def uptoBulkEntry {H : Type} : Lit × DataW H → Nat
  | (.string bytes, d) => bytes.length + uptoBulk d + 1
  | (_, d) => uptoBulk d + 1
 end
def uptoSmall : (H : Type) → List (DataW H) → Bool := fun _ ds => decide (uptoBulkAll ds ≤ 1048576)
def OpenSpec.upto (s : _root_.Go.ChangeSpec) : _root_.Go.OpenSpec := { _root_.Go.OpenSpec.ofChange s with cond := some uptoSmall }

/-- 'ochelaw04.GamePlays', WHERE WHAT IT READS IS OF BULK AT MOST 1048576: true; the input reads as it did. -/
def gamePlaysUptoRow : OpenClaim := { program := "ytnhggfnnolfcdaa", sum := "615eff5584e687f031127f31749607e3fc7344a0663f2cd035c18c78463b077f", func := "oche/ochelaw04.GamePlays", spec := "gamePlays", unfollowed := true, recurses := true, apart := false, narrowed := true }
def GamePlaysUptoSaid : Prop := gamePlaysUptoRow.holds Try.pinned (OpenSpec.upto gamePlaysSpec)

/-- 'ochelaw04.GameUses', WHERE WHAT IT READS IS OF BULK AT MOST 1048576: true; the input reads as it did. -/
def gameUsesUptoRow : OpenClaim := { program := "ytnhggfnnolfcdaa", sum := "615eff5584e687f031127f31749607e3fc7344a0663f2cd035c18c78463b077f", func := "oche/ochelaw04.GameUses", spec := "gameUses", unfollowed := true, recurses := true, apart := false, narrowed := true }
def GameUsesUptoSaid : Prop := gameUsesUptoRow.holds Try.pinned (OpenSpec.upto gameUsesSpec)

/-- 'ochelaw04.GameSteps', WHERE WHAT IT READS IS OF BULK AT MOST 1048576: true; the input reads as it did. -/
def gameStepsUptoRow : OpenClaim := { program := "ytnhggfnnolfcdaa", sum := "615eff5584e687f031127f31749607e3fc7344a0663f2cd035c18c78463b077f", func := "oche/ochelaw04.GameSteps", spec := "gameSteps", unfollowed := true, recurses := true, apart := false, narrowed := true }
def GameStepsUptoSaid : Prop := gameStepsUptoRow.holds Try.pinned (OpenSpec.upto gameStepsSpec)

/-- 'ochelaw04.GameTurns', WHERE WHAT IT READS IS OF BULK AT MOST 1048576: true; the input reads as it did. -/
def gameTurnsUptoRow : OpenClaim := { program := "ytnhggfnnolfcdaa", sum := "615eff5584e687f031127f31749607e3fc7344a0663f2cd035c18c78463b077f", func := "oche/ochelaw04.GameTurns", spec := "gameTurns", unfollowed := true, recurses := true, apart := false, narrowed := true }
def GameTurnsUptoSaid : Prop := gameTurnsUptoRow.holds Try.pinned (OpenSpec.upto gameTurnsSpec)

/-- 'ochelaw04.GameWins', WHERE WHAT IT READS IS OF BULK AT MOST 1048576: true; the input reads as it did. -/
def gameWinsUptoRow : OpenClaim := { program := "ytnhggfnnolfcdaa", sum := "615eff5584e687f031127f31749607e3fc7344a0663f2cd035c18c78463b077f", func := "oche/ochelaw04.GameWins", spec := "gameWins", unfollowed := true, recurses := true, apart := false, narrowed := true }
def GameWinsUptoSaid : Prop := gameWinsUptoRow.holds Try.pinned (OpenSpec.upto gameWinsSpec)

/-- 'ochelaw04.GameHelps', WHERE WHAT IT READS IS OF BULK AT MOST 1048576: true; the input reads as it did. -/
def gameHelpsUptoRow : OpenClaim := { program := "ytnhggfnnolfcdaa", sum := "615eff5584e687f031127f31749607e3fc7344a0663f2cd035c18c78463b077f", func := "oche/ochelaw04.GameHelps", spec := "gameHelps", unfollowed := true, recurses := true, apart := false, narrowed := true }
def GameHelpsUptoSaid : Prop := gameHelpsUptoRow.holds Try.pinned (OpenSpec.upto gameHelpsSpec)

end Rows
end Go.Proofs.Ytnhggfnnolfcdaa
