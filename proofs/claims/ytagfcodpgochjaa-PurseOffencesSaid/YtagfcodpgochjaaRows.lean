/-
  No cell of these rows narrows 'for every input' (looked for: loops, veiled, ifaces, maps, wideKeys, modest, calm, conditions, laid).
  DERIVED. THE GIVEN ROWS OF THIS SEAT. 9 by the template 'for every input the law returns true; each argument reads behind the call as it read before'; 0 by the template 'total and deterministic' (their statements: YtagfcodpgochjaaTotals.lean).
  GIVEN WITH THE SEED: the statements are not yours to turn. If you find one false, say at which input.
  Laid BY PROGRAM, IN A SANDBOX (cutbox-rows.mjs): the forced cells as the released guide's own fill.sh prints them over the translation 6f9c8819c1fbd380… (all of the seat's roots in one cut). By AI agents, Wed Nov 11 2026. No macro, syntax, notation, axiom, sorry.
-/
import Derived.Test.YtagfcodpgochjaaChecked
import GoSem.Claim
import GoSem.ClaimJoined
import GoSem.ClaimMapViews
import Derived.JoinedTies
import Derived.KernelRfl
namespace Go.Proofs.Ytagfcodpgochjaa
/- THE CELL 'sum', in the pinned program and in every row, IS THE sha256 OF THE DUMP (.gsa) THAT YtagfcodpgochjaaProg.lean LOADS. Nothing in Lean hashes anything: it is a label: what it is worth is what the hold of that sum in a sandbox is worth. -/
noncomputable def Try.pinned : Pinned := { name := "ytagfcodpgochjaa", sum := "6f9c8819c1fbd3806652462b0fc95ba2f15e3c447afaf5e2159cf4b04339c67d", checked := Try.checked }
namespace Rows
def none {H : Type} : Left H := { results := [], args := [] }

/-- 'ochelaw12.PurseShares': WHATEVER THE INPUT: true; the input reads as it did. -/
def purseSharesSpec : ChangeSpec := { name := "purseShares", fn := fun _ => fun
  | [d1, d2] => { results := [.lit (.bool true)], args := [d1, d2] }
  | _ => none }
def purseSharesRow : OpenClaim := { program := "ytagfcodpgochjaa", sum := "6f9c8819c1fbd3806652462b0fc95ba2f15e3c447afaf5e2159cf4b04339c67d", func := "oche/ochelaw12.PurseShares", spec := "purseShares", unfollowed := true, recurses := true, plainKeys := false, apart := false }
def PurseSharesSaid : Prop := purseSharesRow.holds Try.pinned (OpenSpec.ofChange purseSharesSpec)

/-- ITS FALSE NEIGHBOUR: 'it returns false'. Refute it at one input. -/
def purseSharesWrong : ChangeSpec := { name := "purseShares", fn := fun _ => fun
  | [d1, d2] => { results := [.lit (.bool false)], args := [d1, d2] }
  | _ => none }
def PurseSharesWrongFalsely : Prop := purseSharesRow.holds Try.pinned (OpenSpec.ofChange purseSharesWrong)

/-- 'ochelaw12.PursePrizes': WHATEVER THE INPUT: true; the input reads as it did. -/
def pursePrizesSpec : ChangeSpec := { name := "pursePrizes", fn := fun _ => fun
  | [d1, d2] => { results := [.lit (.bool true)], args := [d1, d2] }
  | _ => none }
def pursePrizesRow : OpenClaim := { program := "ytagfcodpgochjaa", sum := "6f9c8819c1fbd3806652462b0fc95ba2f15e3c447afaf5e2159cf4b04339c67d", func := "oche/ochelaw12.PursePrizes", spec := "pursePrizes", unfollowed := true, recurses := true, plainKeys := false, apart := false }
def PursePrizesSaid : Prop := pursePrizesRow.holds Try.pinned (OpenSpec.ofChange pursePrizesSpec)

/-- ITS FALSE NEIGHBOUR: 'it returns false'. Refute it at one input. -/
def pursePrizesWrong : ChangeSpec := { name := "pursePrizes", fn := fun _ => fun
  | [d1, d2] => { results := [.lit (.bool false)], args := [d1, d2] }
  | _ => none }
def PursePrizesWrongFalsely : Prop := pursePrizesRow.holds Try.pinned (OpenSpec.ofChange pursePrizesWrong)

/-- 'ochelaw12.PurseFines': WHATEVER THE INPUT: true; the input reads as it did. -/
def purseFinesSpec : ChangeSpec := { name := "purseFines", fn := fun _ => fun
  | [d1, d2, d3] => { results := [.lit (.bool true)], args := [d1, d2, d3] }
  | _ => none }
def purseFinesRow : OpenClaim := { program := "ytagfcodpgochjaa", sum := "6f9c8819c1fbd3806652462b0fc95ba2f15e3c447afaf5e2159cf4b04339c67d", func := "oche/ochelaw12.PurseFines", spec := "purseFines", unfollowed := true, recurses := true, plainKeys := false, apart := false }
def PurseFinesSaid : Prop := purseFinesRow.holds Try.pinned (OpenSpec.ofChange purseFinesSpec)

/-- ITS FALSE NEIGHBOUR: 'it returns false'. Refute it at one input. -/
def purseFinesWrong : ChangeSpec := { name := "purseFines", fn := fun _ => fun
  | [d1, d2, d3] => { results := [.lit (.bool false)], args := [d1, d2, d3] }
  | _ => none }
def PurseFinesWrongFalsely : Prop := purseFinesRow.holds Try.pinned (OpenSpec.ofChange purseFinesWrong)

/-- 'ochelaw12.PurseSettles': WHATEVER THE INPUT: true; the input reads as it did. -/
def purseSettlesSpec : ChangeSpec := { name := "purseSettles", fn := fun _ => fun
  | [d] => { results := [.lit (.bool true)], args := [d] }
  | _ => none }
def purseSettlesRow : OpenClaim := { program := "ytagfcodpgochjaa", sum := "6f9c8819c1fbd3806652462b0fc95ba2f15e3c447afaf5e2159cf4b04339c67d", func := "oche/ochelaw12.PurseSettles", spec := "purseSettles", unfollowed := true, recurses := true, plainKeys := false, apart := false }
def PurseSettlesSaid : Prop := purseSettlesRow.holds Try.pinned (OpenSpec.ofChange purseSettlesSpec)

/-- ITS FALSE NEIGHBOUR: 'it returns false'. Refute it at one input. -/
def purseSettlesWrong : ChangeSpec := { name := "purseSettles", fn := fun _ => fun
  | [d] => { results := [.lit (.bool false)], args := [d] }
  | _ => none }
def PurseSettlesWrongFalsely : Prop := purseSettlesRow.holds Try.pinned (OpenSpec.ofChange purseSettlesWrong)

/-- 'ochelaw12.PurseWhole': WHATEVER THE INPUT: true; the input reads as it did. -/
def purseWholeSpec : ChangeSpec := { name := "purseWhole", fn := fun _ => fun
  | [d1, d2, d3] => { results := [.lit (.bool true)], args := [d1, d2, d3] }
  | _ => none }
def purseWholeRow : OpenClaim := { program := "ytagfcodpgochjaa", sum := "6f9c8819c1fbd3806652462b0fc95ba2f15e3c447afaf5e2159cf4b04339c67d", func := "oche/ochelaw12.PurseWhole", spec := "purseWhole", unfollowed := true, recurses := true, plainKeys := false, apart := false }
def PurseWholeSaid : Prop := purseWholeRow.holds Try.pinned (OpenSpec.ofChange purseWholeSpec)

/-- ITS FALSE NEIGHBOUR: 'it returns false'. Refute it at one input. -/
def purseWholeWrong : ChangeSpec := { name := "purseWhole", fn := fun _ => fun
  | [d1, d2, d3] => { results := [.lit (.bool false)], args := [d1, d2, d3] }
  | _ => none }
def PurseWholeWrongFalsely : Prop := purseWholeRow.holds Try.pinned (OpenSpec.ofChange purseWholeWrong)

/-- 'ochelaw12.PurseAnyOrder': WHATEVER THE INPUT: true; the input reads as it did. -/
def purseAnyOrderSpec : ChangeSpec := { name := "purseAnyOrder", fn := fun _ => fun
  | [d1, d2] => { results := [.lit (.bool true)], args := [d1, d2] }
  | _ => none }
def purseAnyOrderRow : OpenClaim := { program := "ytagfcodpgochjaa", sum := "6f9c8819c1fbd3806652462b0fc95ba2f15e3c447afaf5e2159cf4b04339c67d", func := "oche/ochelaw12.PurseAnyOrder", spec := "purseAnyOrder", unfollowed := true, recurses := true, plainKeys := false, apart := false }
def PurseAnyOrderSaid : Prop := purseAnyOrderRow.holds Try.pinned (OpenSpec.ofChange purseAnyOrderSpec)

/-- ITS FALSE NEIGHBOUR: 'it returns false'. Refute it at one input. -/
def purseAnyOrderWrong : ChangeSpec := { name := "purseAnyOrder", fn := fun _ => fun
  | [d1, d2] => { results := [.lit (.bool false)], args := [d1, d2] }
  | _ => none }
def PurseAnyOrderWrongFalsely : Prop := purseAnyOrderRow.holds Try.pinned (OpenSpec.ofChange purseAnyOrderWrong)

/-- 'ochelaw12.PurseSettled': WHATEVER THE INPUT: true; the input reads as it did. -/
def purseSettledSpec : ChangeSpec := { name := "purseSettled", fn := fun _ => fun
  | [d] => { results := [.lit (.bool true)], args := [d] }
  | _ => none }
def purseSettledRow : OpenClaim := { program := "ytagfcodpgochjaa", sum := "6f9c8819c1fbd3806652462b0fc95ba2f15e3c447afaf5e2159cf4b04339c67d", func := "oche/ochelaw12.PurseSettled", spec := "purseSettled", unfollowed := true, recurses := true, plainKeys := false, apart := false }
def PurseSettledSaid : Prop := purseSettledRow.holds Try.pinned (OpenSpec.ofChange purseSettledSpec)

/-- ITS FALSE NEIGHBOUR: 'it returns false'. Refute it at one input. -/
def purseSettledWrong : ChangeSpec := { name := "purseSettled", fn := fun _ => fun
  | [d] => { results := [.lit (.bool false)], args := [d] }
  | _ => none }
def PurseSettledWrongFalsely : Prop := purseSettledRow.holds Try.pinned (OpenSpec.ofChange purseSettledWrong)

/-- 'ochelaw12.PurseFewest': WHATEVER THE INPUT: true; the input reads as it did. -/
def purseFewestSpec : ChangeSpec := { name := "purseFewest", fn := fun _ => fun
  | [d1, d2] => { results := [.lit (.bool true)], args := [d1, d2] }
  | _ => none }
def purseFewestRow : OpenClaim := { program := "ytagfcodpgochjaa", sum := "6f9c8819c1fbd3806652462b0fc95ba2f15e3c447afaf5e2159cf4b04339c67d", func := "oche/ochelaw12.PurseFewest", spec := "purseFewest", unfollowed := true, recurses := true, plainKeys := false, apart := false }
def PurseFewestSaid : Prop := purseFewestRow.holds Try.pinned (OpenSpec.ofChange purseFewestSpec)

/-- ITS FALSE NEIGHBOUR: 'it returns false'. Refute it at one input. -/
def purseFewestWrong : ChangeSpec := { name := "purseFewest", fn := fun _ => fun
  | [d1, d2] => { results := [.lit (.bool false)], args := [d1, d2] }
  | _ => none }
def PurseFewestWrongFalsely : Prop := purseFewestRow.holds Try.pinned (OpenSpec.ofChange purseFewestWrong)

/-- 'ochelaw12.PurseOffences': WHATEVER THE INPUT: true; the input reads as it did. -/
def purseOffencesSpec : ChangeSpec := { name := "purseOffences", fn := fun _ => fun
  | [d1, d2, d3] => { results := [.lit (.bool true)], args := [d1, d2, d3] }
  | _ => none }
def purseOffencesRow : OpenClaim := { program := "ytagfcodpgochjaa", sum := "6f9c8819c1fbd3806652462b0fc95ba2f15e3c447afaf5e2159cf4b04339c67d", func := "oche/ochelaw12.PurseOffences", spec := "purseOffences", unfollowed := true, recurses := true, plainKeys := false, apart := false }
def PurseOffencesSaid : Prop := purseOffencesRow.holds Try.pinned (OpenSpec.ofChange purseOffencesSpec)

/-- ITS FALSE NEIGHBOUR: 'it returns false'. Refute it at one input. -/
def purseOffencesWrong : ChangeSpec := { name := "purseOffences", fn := fun _ => fun
  | [d1, d2, d3] => { results := [.lit (.bool false)], args := [d1, d2, d3] }
  | _ => none }
def PurseOffencesWrongFalsely : Prop := purseOffencesRow.holds Try.pinned (OpenSpec.ofChange purseOffencesWrong)

/- THE SECOND FORM. 'bulk': how many values and letters a reading holds, each counted each time it is reached (what is shared counts as often as it is met; a slice's spare places count too). A statement '..UptoSaid' is the law's where the arguments, and the package variables that the reading takes, are together of bulk at most 1048576: NARROWER than '..Said'. Prove '..Said' where nothing that the law and all that it calls make is longer than what came in: it says more and counts as full. Else prove '..UptoSaid'. A law counts once. -/
mutual
def uptoBulk {H : Type} : DataW H → Nat
  | .lit (.string bytes) => bytes.length + 1
  | .lit _ => 1
  | .nil => 1
  | .ptr d => uptoBulk d + 1
  | .slice elems spare => uptoBulkAll elems + uptoBulkAll spare + 1
  | .agg parts => uptoBulkAll parts + 1
  | .iface _ d => uptoBulk d + 1
  | .map entries => uptoBulkEntries entries + 1
  | .held _ => 1
def uptoBulkAll {H : Type} : List (DataW H) → Nat
  | [] => 0
  | d :: r => uptoBulk d + uptoBulkAll r
def uptoBulkEntries {H : Type} : List (Lit × DataW H) → Nat
  | [] => 0
  | x :: r => uptoBulkEntry x + uptoBulkEntries r
def uptoBulkEntry {H : Type} : Lit × DataW H → Nat
  | (.string bytes, d) => bytes.length + uptoBulk d + 1
  | (_, d) => uptoBulk d + 1
 end
def uptoSmall : (H : Type) → List (DataW H) → Bool := fun _ ds => decide (uptoBulkAll ds ≤ 1048576)
def OpenSpec.upto (s : _root_.Go.ChangeSpec) : _root_.Go.OpenSpec := { _root_.Go.OpenSpec.ofChange s with cond := some uptoSmall }

/-- 'ochelaw12.PurseShares', WHERE WHAT IT READS IS OF BULK AT MOST 1048576: true; the input reads as it did. -/
def purseSharesUptoRow : OpenClaim := { program := "ytagfcodpgochjaa", sum := "6f9c8819c1fbd3806652462b0fc95ba2f15e3c447afaf5e2159cf4b04339c67d", func := "oche/ochelaw12.PurseShares", spec := "purseShares", unfollowed := true, recurses := true, plainKeys := false, apart := false, narrowed := true }
def PurseSharesUptoSaid : Prop := purseSharesUptoRow.holds Try.pinned (OpenSpec.upto purseSharesSpec)

/-- 'ochelaw12.PursePrizes', WHERE WHAT IT READS IS OF BULK AT MOST 1048576: true; the input reads as it did. -/
def pursePrizesUptoRow : OpenClaim := { program := "ytagfcodpgochjaa", sum := "6f9c8819c1fbd3806652462b0fc95ba2f15e3c447afaf5e2159cf4b04339c67d", func := "oche/ochelaw12.PursePrizes", spec := "pursePrizes", unfollowed := true, recurses := true, plainKeys := false, apart := false, narrowed := true }
def PursePrizesUptoSaid : Prop := pursePrizesUptoRow.holds Try.pinned (OpenSpec.upto pursePrizesSpec)

/-- 'ochelaw12.PurseFines', WHERE WHAT IT READS IS OF BULK AT MOST 1048576: true; the input reads as it did. -/
def purseFinesUptoRow : OpenClaim := { program := "ytagfcodpgochjaa", sum := "6f9c8819c1fbd3806652462b0fc95ba2f15e3c447afaf5e2159cf4b04339c67d", func := "oche/ochelaw12.PurseFines", spec := "purseFines", unfollowed := true, recurses := true, plainKeys := false, apart := false, narrowed := true }
def PurseFinesUptoSaid : Prop := purseFinesUptoRow.holds Try.pinned (OpenSpec.upto purseFinesSpec)

/-- 'ochelaw12.PurseSettles', WHERE WHAT IT READS IS OF BULK AT MOST 1048576: true; the input reads as it did. -/
def purseSettlesUptoRow : OpenClaim := { program := "ytagfcodpgochjaa", sum := "6f9c8819c1fbd3806652462b0fc95ba2f15e3c447afaf5e2159cf4b04339c67d", func := "oche/ochelaw12.PurseSettles", spec := "purseSettles", unfollowed := true, recurses := true, plainKeys := false, apart := false, narrowed := true }
def PurseSettlesUptoSaid : Prop := purseSettlesUptoRow.holds Try.pinned (OpenSpec.upto purseSettlesSpec)

/-- 'ochelaw12.PurseWhole', WHERE WHAT IT READS IS OF BULK AT MOST 1048576: true; the input reads as it did. -/
def purseWholeUptoRow : OpenClaim := { program := "ytagfcodpgochjaa", sum := "6f9c8819c1fbd3806652462b0fc95ba2f15e3c447afaf5e2159cf4b04339c67d", func := "oche/ochelaw12.PurseWhole", spec := "purseWhole", unfollowed := true, recurses := true, plainKeys := false, apart := false, narrowed := true }
def PurseWholeUptoSaid : Prop := purseWholeUptoRow.holds Try.pinned (OpenSpec.upto purseWholeSpec)

/-- 'ochelaw12.PurseAnyOrder', WHERE WHAT IT READS IS OF BULK AT MOST 1048576: true; the input reads as it did. -/
def purseAnyOrderUptoRow : OpenClaim := { program := "ytagfcodpgochjaa", sum := "6f9c8819c1fbd3806652462b0fc95ba2f15e3c447afaf5e2159cf4b04339c67d", func := "oche/ochelaw12.PurseAnyOrder", spec := "purseAnyOrder", unfollowed := true, recurses := true, plainKeys := false, apart := false, narrowed := true }
def PurseAnyOrderUptoSaid : Prop := purseAnyOrderUptoRow.holds Try.pinned (OpenSpec.upto purseAnyOrderSpec)

/-- 'ochelaw12.PurseSettled', WHERE WHAT IT READS IS OF BULK AT MOST 1048576: true; the input reads as it did. -/
def purseSettledUptoRow : OpenClaim := { program := "ytagfcodpgochjaa", sum := "6f9c8819c1fbd3806652462b0fc95ba2f15e3c447afaf5e2159cf4b04339c67d", func := "oche/ochelaw12.PurseSettled", spec := "purseSettled", unfollowed := true, recurses := true, plainKeys := false, apart := false, narrowed := true }
def PurseSettledUptoSaid : Prop := purseSettledUptoRow.holds Try.pinned (OpenSpec.upto purseSettledSpec)

/-- 'ochelaw12.PurseFewest', WHERE WHAT IT READS IS OF BULK AT MOST 1048576: true; the input reads as it did. -/
def purseFewestUptoRow : OpenClaim := { program := "ytagfcodpgochjaa", sum := "6f9c8819c1fbd3806652462b0fc95ba2f15e3c447afaf5e2159cf4b04339c67d", func := "oche/ochelaw12.PurseFewest", spec := "purseFewest", unfollowed := true, recurses := true, plainKeys := false, apart := false, narrowed := true }
def PurseFewestUptoSaid : Prop := purseFewestUptoRow.holds Try.pinned (OpenSpec.upto purseFewestSpec)

/-- 'ochelaw12.PurseOffences', WHERE WHAT IT READS IS OF BULK AT MOST 1048576: true; the input reads as it did. -/
def purseOffencesUptoRow : OpenClaim := { program := "ytagfcodpgochjaa", sum := "6f9c8819c1fbd3806652462b0fc95ba2f15e3c447afaf5e2159cf4b04339c67d", func := "oche/ochelaw12.PurseOffences", spec := "purseOffences", unfollowed := true, recurses := true, plainKeys := false, apart := false, narrowed := true }
def PurseOffencesUptoSaid : Prop := purseOffencesUptoRow.holds Try.pinned (OpenSpec.upto purseOffencesSpec)

end Rows
end Go.Proofs.Ytagfcodpgochjaa
