/-
  DERIVED. GIVEN WITH THE SEED: THE CARDS: each row of YtpfpjbglpibdoaaGreatDoorRows.lean that lists a variable, with what it lists TIED to the program's text (the seventh form; the later family's looks); each row that meets fmt, with fmt's text TOLD by the authors' own Lean function (tested against real Go, not proved from fmt's source: count such statements apart). THE CARD IS WHAT COUNTS. Prove the row's statement (the work); the ties are given (YtpfpjbglpibdoaaGreatDoorTie.lean); close each card by the builder's one call (the guide's Derived/Test/ToyasCard.lean, 'card_holds'). Laid BY PROGRAM, IN A SANDBOX (cutbox-door.mjs). By AI agents, Wed Nov 11 2026. No macro, syntax, notation, axiom, sorry.
-/
import Derived.Test.YtpfpjbglpibdoaaGreatDoorRows
import GoSem.ClaimSeven
namespace Go.Proofs.YtpfpjbglpibdoaaGreatDoor
namespace Rows

/-- THE TIED CARD OF 'ochelaw05.HeardVisits'. -/
def heardVisitsCard : Claim7 := { stood := { row := heardVisitsRow, standIns := [], harness := (true, "30d6b526a50201b551a8a08acdd1211c0bc2f365b283f3dc2f36ec6dc5f1df6d"), looks := false }, kinds := [], alts := [], laidByText := true, laidKinds := [.data, .data], laidTests := true, laidLooks := .later }
def HeardVisitsCardSaid : Prop := Claim7.holds Tryz.pinned (.plain (OpenSpec.ofChange heardVisitsSpec)) heardVisitsCard

/-- THE TIED CARD OF 'ochelaw05.HeardWays'. -/
def heardWaysCard : Claim7 := { stood := { row := heardWaysRow, standIns := [], harness := (true, "30d6b526a50201b551a8a08acdd1211c0bc2f365b283f3dc2f36ec6dc5f1df6d"), looks := false }, kinds := [], alts := [], laidByText := true, laidKinds := [.data, .data], laidTests := true, laidLooks := .later }
def HeardWaysCardSaid : Prop := Claim7.holds Tryz.pinned (.plain (OpenSpec.ofChange heardWaysSpec)) heardWaysCard

/-- THE TIED CARD OF 'ochelaw05.HeardTruth'. -/
def heardTruthCard : Claim7 := { stood := { row := heardTruthRow, standIns := [], harness := (true, "30d6b526a50201b551a8a08acdd1211c0bc2f365b283f3dc2f36ec6dc5f1df6d"), looks := false }, kinds := [], alts := [], laidByText := true, laidKinds := [.data, .data], laidTests := true, laidLooks := .later }
def HeardTruthCardSaid : Prop := Claim7.holds Tryz.pinned (.plain (OpenSpec.ofChange heardTruthSpec)) heardTruthCard

/-- THE TIED CARD OF 'ochelaw05.HeardBlames'. -/
def heardBlamesCard : Claim7 := { stood := { row := heardBlamesRow, standIns := [], harness := (true, "30d6b526a50201b551a8a08acdd1211c0bc2f365b283f3dc2f36ec6dc5f1df6d"), looks := false }, kinds := [], alts := [], laidByText := true, laidKinds := [.data, .data], laidTests := true, laidLooks := .later }
def HeardBlamesCardSaid : Prop := Claim7.holds Tryz.pinned (.plain (OpenSpec.ofChange heardBlamesSpec)) heardBlamesCard

/-- THE TIED CARD OF 'ochelaw05.HeardTruths'. -/
def heardTruthsCard : Claim7 := { stood := { row := heardTruthsRow, standIns := [], harness := (true, "30d6b526a50201b551a8a08acdd1211c0bc2f365b283f3dc2f36ec6dc5f1df6d"), looks := false }, kinds := [], alts := [], laidByText := true, laidKinds := [.data, .data], laidTests := true, laidLooks := .later }
def HeardTruthsCardSaid : Prop := Claim7.holds Tryz.pinned (.plain (OpenSpec.ofChange heardTruthsSpec)) heardTruthsCard

/-- THE TIED CARD OF 'ochelaw05.HeardTwice'. -/
def heardTwiceCard : Claim7 := { stood := { row := heardTwiceRow, standIns := [], harness := (true, "30d6b526a50201b551a8a08acdd1211c0bc2f365b283f3dc2f36ec6dc5f1df6d"), looks := false }, kinds := [], alts := [], laidByText := true, laidKinds := [.data, .data], laidTests := true, laidLooks := .later }
def HeardTwiceCardSaid : Prop := Claim7.holds Tryz.pinned (.plain (OpenSpec.ofChange heardTwiceSpec)) heardTwiceCard

/-- THE TIED CARD OF 'ochelaw05.HeardLeast'. -/
def heardLeastCard : Claim7 := { stood := { row := heardLeastRow, standIns := [], harness := (true, "30d6b526a50201b551a8a08acdd1211c0bc2f365b283f3dc2f36ec6dc5f1df6d"), looks := false }, kinds := [], alts := [], laidByText := true, laidKinds := [.data, .data], laidTests := true, laidLooks := .later }
def HeardLeastCardSaid : Prop := Claim7.holds Tryz.pinned (.plain (OpenSpec.ofChange heardLeastSpec)) heardLeastCard

/-- THE TIED CARD OF 'ochelaw05.HeardRight'. -/
def heardRightCard : Claim7 := { stood := { row := heardRightRow, standIns := [], harness := (true, "30d6b526a50201b551a8a08acdd1211c0bc2f365b283f3dc2f36ec6dc5f1df6d"), looks := false }, kinds := [], alts := [], laidByText := true, laidKinds := [.data, .data], laidTests := true, laidLooks := .later }
def HeardRightCardSaid : Prop := Claim7.holds Tryz.pinned (.plain (OpenSpec.ofChange heardRightSpec)) heardRightCard

/-- THE TIED CARD OF 'ochelaw05.HeardSums'. -/
def heardSumsCard : Claim7 := { stood := { row := heardSumsRow, standIns := [], harness := (true, "30d6b526a50201b551a8a08acdd1211c0bc2f365b283f3dc2f36ec6dc5f1df6d"), looks := false }, kinds := [], alts := [], laidByText := true, laidKinds := [.data, .data], laidTests := true, laidLooks := .later }
def HeardSumsCardSaid : Prop := Claim7.holds Tryz.pinned (.plain (OpenSpec.ofChange heardSumsSpec)) heardSumsCard

/-- THE SECOND FORM's CARD OF 'ochelaw05.HeardVisits'. -/
def heardVisitsUptoCard : Claim7 := { stood := { row := heardVisitsUptoRow, standIns := [], harness := (true, "30d6b526a50201b551a8a08acdd1211c0bc2f365b283f3dc2f36ec6dc5f1df6d"), looks := false }, kinds := [], alts := [], laidByText := true, laidKinds := [.data, .data], laidTests := true, laidLooks := .later }
def HeardVisitsUptoCardSaid : Prop := Claim7.holds Tryz.pinned (.plain (OpenSpec.upto heardVisitsSpec)) heardVisitsUptoCard

/-- THE SECOND FORM's CARD OF 'ochelaw05.HeardWays'. -/
def heardWaysUptoCard : Claim7 := { stood := { row := heardWaysUptoRow, standIns := [], harness := (true, "30d6b526a50201b551a8a08acdd1211c0bc2f365b283f3dc2f36ec6dc5f1df6d"), looks := false }, kinds := [], alts := [], laidByText := true, laidKinds := [.data, .data], laidTests := true, laidLooks := .later }
def HeardWaysUptoCardSaid : Prop := Claim7.holds Tryz.pinned (.plain (OpenSpec.upto heardWaysSpec)) heardWaysUptoCard

/-- THE SECOND FORM's CARD OF 'ochelaw05.HeardTruth'. -/
def heardTruthUptoCard : Claim7 := { stood := { row := heardTruthUptoRow, standIns := [], harness := (true, "30d6b526a50201b551a8a08acdd1211c0bc2f365b283f3dc2f36ec6dc5f1df6d"), looks := false }, kinds := [], alts := [], laidByText := true, laidKinds := [.data, .data], laidTests := true, laidLooks := .later }
def HeardTruthUptoCardSaid : Prop := Claim7.holds Tryz.pinned (.plain (OpenSpec.upto heardTruthSpec)) heardTruthUptoCard

/-- THE SECOND FORM's CARD OF 'ochelaw05.HeardBlames'. -/
def heardBlamesUptoCard : Claim7 := { stood := { row := heardBlamesUptoRow, standIns := [], harness := (true, "30d6b526a50201b551a8a08acdd1211c0bc2f365b283f3dc2f36ec6dc5f1df6d"), looks := false }, kinds := [], alts := [], laidByText := true, laidKinds := [.data, .data], laidTests := true, laidLooks := .later }
def HeardBlamesUptoCardSaid : Prop := Claim7.holds Tryz.pinned (.plain (OpenSpec.upto heardBlamesSpec)) heardBlamesUptoCard

/-- THE SECOND FORM's CARD OF 'ochelaw05.HeardTruths'. -/
def heardTruthsUptoCard : Claim7 := { stood := { row := heardTruthsUptoRow, standIns := [], harness := (true, "30d6b526a50201b551a8a08acdd1211c0bc2f365b283f3dc2f36ec6dc5f1df6d"), looks := false }, kinds := [], alts := [], laidByText := true, laidKinds := [.data, .data], laidTests := true, laidLooks := .later }
def HeardTruthsUptoCardSaid : Prop := Claim7.holds Tryz.pinned (.plain (OpenSpec.upto heardTruthsSpec)) heardTruthsUptoCard

/-- THE SECOND FORM's CARD OF 'ochelaw05.HeardTwice'. -/
def heardTwiceUptoCard : Claim7 := { stood := { row := heardTwiceUptoRow, standIns := [], harness := (true, "30d6b526a50201b551a8a08acdd1211c0bc2f365b283f3dc2f36ec6dc5f1df6d"), looks := false }, kinds := [], alts := [], laidByText := true, laidKinds := [.data, .data], laidTests := true, laidLooks := .later }
def HeardTwiceUptoCardSaid : Prop := Claim7.holds Tryz.pinned (.plain (OpenSpec.upto heardTwiceSpec)) heardTwiceUptoCard

/-- THE SECOND FORM's CARD OF 'ochelaw05.HeardLeast'. -/
def heardLeastUptoCard : Claim7 := { stood := { row := heardLeastUptoRow, standIns := [], harness := (true, "30d6b526a50201b551a8a08acdd1211c0bc2f365b283f3dc2f36ec6dc5f1df6d"), looks := false }, kinds := [], alts := [], laidByText := true, laidKinds := [.data, .data], laidTests := true, laidLooks := .later }
def HeardLeastUptoCardSaid : Prop := Claim7.holds Tryz.pinned (.plain (OpenSpec.upto heardLeastSpec)) heardLeastUptoCard

/-- THE SECOND FORM's CARD OF 'ochelaw05.HeardRight'. -/
def heardRightUptoCard : Claim7 := { stood := { row := heardRightUptoRow, standIns := [], harness := (true, "30d6b526a50201b551a8a08acdd1211c0bc2f365b283f3dc2f36ec6dc5f1df6d"), looks := false }, kinds := [], alts := [], laidByText := true, laidKinds := [.data, .data], laidTests := true, laidLooks := .later }
def HeardRightUptoCardSaid : Prop := Claim7.holds Tryz.pinned (.plain (OpenSpec.upto heardRightSpec)) heardRightUptoCard

/-- THE SECOND FORM's CARD OF 'ochelaw05.HeardSums'. -/
def heardSumsUptoCard : Claim7 := { stood := { row := heardSumsUptoRow, standIns := [], harness := (true, "30d6b526a50201b551a8a08acdd1211c0bc2f365b283f3dc2f36ec6dc5f1df6d"), looks := false }, kinds := [], alts := [], laidByText := true, laidKinds := [.data, .data], laidTests := true, laidLooks := .later }
def HeardSumsUptoCardSaid : Prop := Claim7.holds Tryz.pinned (.plain (OpenSpec.upto heardSumsSpec)) heardSumsUptoCard
end Rows
end Go.Proofs.YtpfpjbglpibdoaaGreatDoor
