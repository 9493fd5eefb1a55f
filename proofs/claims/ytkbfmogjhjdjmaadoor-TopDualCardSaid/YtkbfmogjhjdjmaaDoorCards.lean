/-
  DERIVED. GIVEN WITH THE SEED: THE CARDS: each row of YtkbfmogjhjdjmaaDoorRows.lean that lists a variable, with what it lists TIED to the program's text (the seventh form; the later family's looks); each row that meets fmt, with fmt's text TOLD by the authors' own Lean function (tested against real Go, not proved from fmt's source: count such statements apart). THE CARD IS WHAT COUNTS. Prove the row's statement (the work); the ties are given (YtkbfmogjhjdjmaaDoorTie.lean); close each card by the builder's one call (the guide's Derived/Test/ToyasCard.lean, 'card_holds'). Laid BY PROGRAM, IN A SANDBOX (cutbox-door.mjs). By AI agents, Wed Nov 11 2026. No macro, syntax, notation, axiom, sorry.
-/
import Derived.Test.YtkbfmogjhjdjmaaDoorRows
import GoSem.ClaimSeven
namespace Go.Proofs.YtkbfmogjhjdjmaaDoor
namespace Rows

/-- THE TIED CARD OF 'aigrettetop.TopDual'. -/
def topDualCard : Claim7 := { stood := { row := topDualRow, standIns := [], harness := (true, "ad5506b7c982b69884d7d268d7edca24aaf3846a4516fc119295ed12d56f744f"), looks := true }, kinds := [], alts := [], laidByText := true, laidKinds := [.data, .data], laidTests := true, laidLooks := .later }
def TopDualCardSaid : Prop := Claim7.holds Tryd.pinned (.plain (OpenSpec.ofChange topDualSpec)) topDualCard

/-- THE SECOND FORM's CARD OF 'aigrettetop.TopDual'. -/
def topDualUptoCard : Claim7 := { stood := { row := topDualUptoRow, standIns := [], harness := (true, "ad5506b7c982b69884d7d268d7edca24aaf3846a4516fc119295ed12d56f744f"), looks := true }, kinds := [], alts := [], laidByText := true, laidKinds := [.data, .data], laidTests := true, laidLooks := .later }
def TopDualUptoCardSaid : Prop := Claim7.holds Tryd.pinned (.plain (OpenSpec.upto topDualSpec)) topDualUptoCard
end Rows
end Go.Proofs.YtkbfmogjhjdjmaaDoor
