/-
  DERIVED. GIVEN WITH THE SEED: THE CARDS: each row of YthbkfhhnhiplkaaGreatDoorRows.lean that lists a variable, with what it lists TIED to the program's text (the seventh form; the later family's looks); each row that meets fmt, with fmt's text TOLD by the authors' own Lean function (tested against real Go, not proved from fmt's source: count such statements apart). THE CARD IS WHAT COUNTS. Prove the row's statement (the work); the ties are given (YthbkfhhnhiplkaaGreatDoorTie.lean); close each card by the builder's one call (the guide's Derived/Test/ToyasCard.lean, 'card_holds'). Laid BY PROGRAM, IN A SANDBOX (cutbox-door.mjs). By AI agents, Wed Nov 11 2026. No macro, syntax, notation, axiom, sorry.
-/
import Derived.Test.YthbkfhhnhiplkaaGreatDoorRows
import GoSem.ClaimSeven
namespace Go.Proofs.YthbkfhhnhiplkaaGreatDoor
namespace Rows

/-- THE TIED CARD OF 'aigrettetop.TopNested'. -/
def topNestedCard : Claim7 := { stood := { row := topNestedRow, standIns := [], harness := (true, "d64fecb7b98975441696653a9eb0504256fa8cb6666240a713156e98c916886a"), looks := true }, kinds := [], alts := [], laidByText := true, laidKinds := [.data, .data, .data, .pinned], laidTests := true, laidLooks := .later }
def TopNestedCardSaid : Prop := Claim7.holds Tryz.pinned (.plain (OpenSpec.ofChange topNestedSpec)) topNestedCard

/-- THE TIED CARD OF 'aigrettetop.TopEvened'. -/
def topEvenedCard : Claim7 := { stood := { row := topEvenedRow, standIns := [], harness := (true, "d64fecb7b98975441696653a9eb0504256fa8cb6666240a713156e98c916886a"), looks := true }, kinds := [], alts := [], laidByText := true, laidKinds := [.data, .data, .data, .pinned], laidTests := true, laidLooks := .later }
def TopEvenedCardSaid : Prop := Claim7.holds Tryz.pinned (.plain (OpenSpec.ofChange topEvenedSpec)) topEvenedCard

/-- THE SECOND FORM's CARD OF 'aigrettetop.TopNested'. -/
def topNestedUptoCard : Claim7 := { stood := { row := topNestedUptoRow, standIns := [], harness := (true, "d64fecb7b98975441696653a9eb0504256fa8cb6666240a713156e98c916886a"), looks := true }, kinds := [], alts := [], laidByText := true, laidKinds := [.data, .data, .data, .pinned], laidTests := true, laidLooks := .later }
def TopNestedUptoCardSaid : Prop := Claim7.holds Tryz.pinned (.plain (OpenSpec.upto topNestedSpec)) topNestedUptoCard

/-- THE SECOND FORM's CARD OF 'aigrettetop.TopEvened'. -/
def topEvenedUptoCard : Claim7 := { stood := { row := topEvenedUptoRow, standIns := [], harness := (true, "d64fecb7b98975441696653a9eb0504256fa8cb6666240a713156e98c916886a"), looks := true }, kinds := [], alts := [], laidByText := true, laidKinds := [.data, .data, .data, .pinned], laidTests := true, laidLooks := .later }
def TopEvenedUptoCardSaid : Prop := Claim7.holds Tryz.pinned (.plain (OpenSpec.upto topEvenedSpec)) topEvenedUptoCard
end Rows
end Go.Proofs.YthbkfhhnhiplkaaGreatDoor
