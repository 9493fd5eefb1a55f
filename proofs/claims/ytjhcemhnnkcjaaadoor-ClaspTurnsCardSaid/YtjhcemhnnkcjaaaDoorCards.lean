/-
  DERIVED. GIVEN WITH THE SEED: THE CARDS: each row of YtjhcemhnnkcjaaaDoorRows.lean that lists a variable, with what it lists TIED to the program's text (the seventh form; the later family's looks); each row that meets fmt, with fmt's text TOLD by the authors' own Lean function (tested against real Go, not proved from fmt's source: count such statements apart). THE CARD IS WHAT COUNTS. Prove the row's statement (the work); the ties are given (YtjhcemhnnkcjaaaDoorTie.lean); close each card by the builder's one call (the guide's Derived/Test/ToyasCard.lean, 'card_holds'). Laid BY PROGRAM, IN A SANDBOX (cutbox-door.mjs). By AI agents, Wed Nov 11 2026. No macro, syntax, notation, axiom, sorry.
-/
import Derived.Test.YtjhcemhnnkcjaaaDoorRows
import GoSem.ClaimSeven
namespace Go.Proofs.YtjhcemhnnkcjaaaDoor
namespace Rows

/-- THE TIED CARD OF 'aigrettelaw03.ClaspNumbers'. -/
def claspNumbersCard : Claim7 := { stood := { row := claspNumbersRow, standIns := [], harness := (true, "d251f2b5331d9e44d0ec5e611634e66b47b4fd1b826f5028f7a55f45531a6e64"), looks := false }, kinds := [], alts := [], laidByText := true, laidKinds := [.data, .data], laidTests := true, laidLooks := .later }
def ClaspNumbersCardSaid : Prop := Claim7.holds Tryd.pinned (.plain (OpenSpec.ofChange claspNumbersSpec)) claspNumbersCard

/-- THE TIED CARD OF 'aigrettelaw03.ClaspWays'. -/
def claspWaysCard : Claim7 := { stood := { row := claspWaysRow, standIns := [], harness := (true, "d251f2b5331d9e44d0ec5e611634e66b47b4fd1b826f5028f7a55f45531a6e64"), looks := false }, kinds := [], alts := [], laidByText := true, laidKinds := [.data, .data], laidTests := true, laidLooks := .later }
def ClaspWaysCardSaid : Prop := Claim7.holds Tryd.pinned (.plain (OpenSpec.ofChange claspWaysSpec)) claspWaysCard

/-- THE TIED CARD OF 'aigrettelaw03.ClaspTimes'. -/
def claspTimesCard : Claim7 := { stood := { row := claspTimesRow, standIns := [], harness := (true, "d251f2b5331d9e44d0ec5e611634e66b47b4fd1b826f5028f7a55f45531a6e64"), looks := false }, kinds := [], alts := [], laidByText := true, laidKinds := [.data, .data], laidTests := true, laidLooks := .later }
def ClaspTimesCardSaid : Prop := Claim7.holds Tryd.pinned (.plain (OpenSpec.ofChange claspTimesSpec)) claspTimesCard

/-- THE TIED CARD OF 'aigrettelaw03.ClaspPairs'. -/
def claspPairsCard : Claim7 := { stood := { row := claspPairsRow, standIns := [], harness := (true, "d251f2b5331d9e44d0ec5e611634e66b47b4fd1b826f5028f7a55f45531a6e64"), looks := false }, kinds := [], alts := [], laidByText := true, laidKinds := [.data, .data], laidTests := true, laidLooks := .later }
def ClaspPairsCardSaid : Prop := Claim7.holds Tryd.pinned (.plain (OpenSpec.ofChange claspPairsSpec)) claspPairsCard

/-- THE TIED CARD OF 'aigrettelaw03.ClaspLine'. -/
def claspLineCard : Claim7 := { stood := { row := claspLineRow, standIns := [], harness := (true, "d251f2b5331d9e44d0ec5e611634e66b47b4fd1b826f5028f7a55f45531a6e64"), looks := false }, kinds := [], alts := [], laidByText := true, laidKinds := [.data, .data], laidTests := true, laidLooks := .later }
def ClaspLineCardSaid : Prop := Claim7.holds Tryd.pinned (.plain (OpenSpec.ofChange claspLineSpec)) claspLineCard

/-- THE TIED CARD OF 'aigrettelaw03.ClaspOpened'. -/
def claspOpenedCard : Claim7 := { stood := { row := claspOpenedRow, standIns := [], harness := (true, "d251f2b5331d9e44d0ec5e611634e66b47b4fd1b826f5028f7a55f45531a6e64"), looks := false }, kinds := [], alts := [], laidByText := true, laidKinds := [.data, .data], laidTests := true, laidLooks := .later }
def ClaspOpenedCardSaid : Prop := Claim7.holds Tryd.pinned (.plain (OpenSpec.ofChange claspOpenedSpec)) claspOpenedCard

/-- THE TIED CARD OF 'aigrettelaw03.ClaspWalked'. -/
def claspWalkedCard : Claim7 := { stood := { row := claspWalkedRow, standIns := [], harness := (true, "d251f2b5331d9e44d0ec5e611634e66b47b4fd1b826f5028f7a55f45531a6e64"), looks := false }, kinds := [], alts := [], laidByText := true, laidKinds := [.data, .data], laidTests := true, laidLooks := .later }
def ClaspWalkedCardSaid : Prop := Claim7.holds Tryd.pinned (.plain (OpenSpec.ofChange claspWalkedSpec)) claspWalkedCard

/-- THE TIED CARD OF 'aigrettelaw03.ClaspLeads'. -/
def claspLeadsCard : Claim7 := { stood := { row := claspLeadsRow, standIns := [], harness := (true, "d251f2b5331d9e44d0ec5e611634e66b47b4fd1b826f5028f7a55f45531a6e64"), looks := false }, kinds := [], alts := [], laidByText := true, laidKinds := [.data, .data], laidTests := true, laidLooks := .later }
def ClaspLeadsCardSaid : Prop := Claim7.holds Tryd.pinned (.plain (OpenSpec.ofChange claspLeadsSpec)) claspLeadsCard

/-- THE TIED CARD OF 'aigrettelaw03.ClaspTurns'. -/
def claspTurnsCard : Claim7 := { stood := { row := claspTurnsRow, standIns := [], harness := (true, "d251f2b5331d9e44d0ec5e611634e66b47b4fd1b826f5028f7a55f45531a6e64"), looks := false }, kinds := [], alts := [], laidByText := true, laidKinds := [.data, .data], laidTests := true, laidLooks := .later }
def ClaspTurnsCardSaid : Prop := Claim7.holds Tryd.pinned (.plain (OpenSpec.ofChange claspTurnsSpec)) claspTurnsCard

/-- THE TIED CARD OF 'aigrettelaw03.ClaspMoves'. -/
def claspMovesCard : Claim7 := { stood := { row := claspMovesRow, standIns := [], harness := (true, "d251f2b5331d9e44d0ec5e611634e66b47b4fd1b826f5028f7a55f45531a6e64"), looks := false }, kinds := [], alts := [], laidByText := true, laidKinds := [.data, .data], laidTests := true, laidLooks := .later }
def ClaspMovesCardSaid : Prop := Claim7.holds Tryd.pinned (.plain (OpenSpec.ofChange claspMovesSpec)) claspMovesCard

/-- THE TIED CARD OF 'aigrettelaw03.ClaspKnown'. -/
def claspKnownCard : Claim7 := { stood := { row := claspKnownRow, standIns := [], harness := (true, "d251f2b5331d9e44d0ec5e611634e66b47b4fd1b826f5028f7a55f45531a6e64"), looks := false }, kinds := [], alts := [], laidByText := true, laidKinds := [.data, .data], laidTests := true, laidLooks := .later }
def ClaspKnownCardSaid : Prop := Claim7.holds Tryd.pinned (.plain (OpenSpec.ofChange claspKnownSpec)) claspKnownCard

/-- THE SECOND FORM's CARD OF 'aigrettelaw03.ClaspNumbers'. -/
def claspNumbersUptoCard : Claim7 := { stood := { row := claspNumbersUptoRow, standIns := [], harness := (true, "d251f2b5331d9e44d0ec5e611634e66b47b4fd1b826f5028f7a55f45531a6e64"), looks := false }, kinds := [], alts := [], laidByText := true, laidKinds := [.data, .data], laidTests := true, laidLooks := .later }
def ClaspNumbersUptoCardSaid : Prop := Claim7.holds Tryd.pinned (.plain (OpenSpec.upto claspNumbersSpec)) claspNumbersUptoCard

/-- THE SECOND FORM's CARD OF 'aigrettelaw03.ClaspWays'. -/
def claspWaysUptoCard : Claim7 := { stood := { row := claspWaysUptoRow, standIns := [], harness := (true, "d251f2b5331d9e44d0ec5e611634e66b47b4fd1b826f5028f7a55f45531a6e64"), looks := false }, kinds := [], alts := [], laidByText := true, laidKinds := [.data, .data], laidTests := true, laidLooks := .later }
def ClaspWaysUptoCardSaid : Prop := Claim7.holds Tryd.pinned (.plain (OpenSpec.upto claspWaysSpec)) claspWaysUptoCard

/-- THE SECOND FORM's CARD OF 'aigrettelaw03.ClaspTimes'. -/
def claspTimesUptoCard : Claim7 := { stood := { row := claspTimesUptoRow, standIns := [], harness := (true, "d251f2b5331d9e44d0ec5e611634e66b47b4fd1b826f5028f7a55f45531a6e64"), looks := false }, kinds := [], alts := [], laidByText := true, laidKinds := [.data, .data], laidTests := true, laidLooks := .later }
def ClaspTimesUptoCardSaid : Prop := Claim7.holds Tryd.pinned (.plain (OpenSpec.upto claspTimesSpec)) claspTimesUptoCard

/-- THE SECOND FORM's CARD OF 'aigrettelaw03.ClaspPairs'. -/
def claspPairsUptoCard : Claim7 := { stood := { row := claspPairsUptoRow, standIns := [], harness := (true, "d251f2b5331d9e44d0ec5e611634e66b47b4fd1b826f5028f7a55f45531a6e64"), looks := false }, kinds := [], alts := [], laidByText := true, laidKinds := [.data, .data], laidTests := true, laidLooks := .later }
def ClaspPairsUptoCardSaid : Prop := Claim7.holds Tryd.pinned (.plain (OpenSpec.upto claspPairsSpec)) claspPairsUptoCard

/-- THE SECOND FORM's CARD OF 'aigrettelaw03.ClaspLine'. -/
def claspLineUptoCard : Claim7 := { stood := { row := claspLineUptoRow, standIns := [], harness := (true, "d251f2b5331d9e44d0ec5e611634e66b47b4fd1b826f5028f7a55f45531a6e64"), looks := false }, kinds := [], alts := [], laidByText := true, laidKinds := [.data, .data], laidTests := true, laidLooks := .later }
def ClaspLineUptoCardSaid : Prop := Claim7.holds Tryd.pinned (.plain (OpenSpec.upto claspLineSpec)) claspLineUptoCard

/-- THE SECOND FORM's CARD OF 'aigrettelaw03.ClaspOpened'. -/
def claspOpenedUptoCard : Claim7 := { stood := { row := claspOpenedUptoRow, standIns := [], harness := (true, "d251f2b5331d9e44d0ec5e611634e66b47b4fd1b826f5028f7a55f45531a6e64"), looks := false }, kinds := [], alts := [], laidByText := true, laidKinds := [.data, .data], laidTests := true, laidLooks := .later }
def ClaspOpenedUptoCardSaid : Prop := Claim7.holds Tryd.pinned (.plain (OpenSpec.upto claspOpenedSpec)) claspOpenedUptoCard

/-- THE SECOND FORM's CARD OF 'aigrettelaw03.ClaspWalked'. -/
def claspWalkedUptoCard : Claim7 := { stood := { row := claspWalkedUptoRow, standIns := [], harness := (true, "d251f2b5331d9e44d0ec5e611634e66b47b4fd1b826f5028f7a55f45531a6e64"), looks := false }, kinds := [], alts := [], laidByText := true, laidKinds := [.data, .data], laidTests := true, laidLooks := .later }
def ClaspWalkedUptoCardSaid : Prop := Claim7.holds Tryd.pinned (.plain (OpenSpec.upto claspWalkedSpec)) claspWalkedUptoCard

/-- THE SECOND FORM's CARD OF 'aigrettelaw03.ClaspLeads'. -/
def claspLeadsUptoCard : Claim7 := { stood := { row := claspLeadsUptoRow, standIns := [], harness := (true, "d251f2b5331d9e44d0ec5e611634e66b47b4fd1b826f5028f7a55f45531a6e64"), looks := false }, kinds := [], alts := [], laidByText := true, laidKinds := [.data, .data], laidTests := true, laidLooks := .later }
def ClaspLeadsUptoCardSaid : Prop := Claim7.holds Tryd.pinned (.plain (OpenSpec.upto claspLeadsSpec)) claspLeadsUptoCard

/-- THE SECOND FORM's CARD OF 'aigrettelaw03.ClaspTurns'. -/
def claspTurnsUptoCard : Claim7 := { stood := { row := claspTurnsUptoRow, standIns := [], harness := (true, "d251f2b5331d9e44d0ec5e611634e66b47b4fd1b826f5028f7a55f45531a6e64"), looks := false }, kinds := [], alts := [], laidByText := true, laidKinds := [.data, .data], laidTests := true, laidLooks := .later }
def ClaspTurnsUptoCardSaid : Prop := Claim7.holds Tryd.pinned (.plain (OpenSpec.upto claspTurnsSpec)) claspTurnsUptoCard

/-- THE SECOND FORM's CARD OF 'aigrettelaw03.ClaspMoves'. -/
def claspMovesUptoCard : Claim7 := { stood := { row := claspMovesUptoRow, standIns := [], harness := (true, "d251f2b5331d9e44d0ec5e611634e66b47b4fd1b826f5028f7a55f45531a6e64"), looks := false }, kinds := [], alts := [], laidByText := true, laidKinds := [.data, .data], laidTests := true, laidLooks := .later }
def ClaspMovesUptoCardSaid : Prop := Claim7.holds Tryd.pinned (.plain (OpenSpec.upto claspMovesSpec)) claspMovesUptoCard

/-- THE SECOND FORM's CARD OF 'aigrettelaw03.ClaspKnown'. -/
def claspKnownUptoCard : Claim7 := { stood := { row := claspKnownUptoRow, standIns := [], harness := (true, "d251f2b5331d9e44d0ec5e611634e66b47b4fd1b826f5028f7a55f45531a6e64"), looks := false }, kinds := [], alts := [], laidByText := true, laidKinds := [.data, .data], laidTests := true, laidLooks := .later }
def ClaspKnownUptoCardSaid : Prop := Claim7.holds Tryd.pinned (.plain (OpenSpec.upto claspKnownSpec)) claspKnownUptoCard
end Rows
end Go.Proofs.YtjhcemhnnkcjaaaDoor
