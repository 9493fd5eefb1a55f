/-
  DERIVED. GIVEN WITH THE SEED: THE CARDS: each row of YthbkfhhnhiplkaaDoorRows.lean that lists a variable, with what it lists TIED to the program's text (the seventh form; the later family's looks); each row that meets fmt, with fmt's text TOLD by the authors' own Lean function (tested against real Go, not proved from fmt's source: count such statements apart). THE CARD IS WHAT COUNTS. Prove the row's statement (the work); the ties are given (YthbkfhhnhiplkaaDoorTie.lean); close each card by the builder's one call (the guide's Derived/Test/ToyasCard.lean, 'card_holds'). Laid BY PROGRAM, IN A SANDBOX (cutbox-door.mjs). By AI agents, Wed Nov 11 2026. No macro, syntax, notation, axiom, sorry.
-/
import Derived.Test.YthbkfhhnhiplkaaDoorRows
import GoSem.ClaimSeven
namespace Go.Proofs.YthbkfhhnhiplkaaDoor
namespace Rows

/-- THE TIED CARD OF 'aigrettetop.TopDegreed'. -/
def topDegreedCard : Claim7 := { stood := { row := topDegreedRow, standIns := [], harness := (true, "1882c0649806de5a3ba05dc2ae93d6a99ce4e3079d6f7300582e33922c2fde00"), looks := true }, kinds := [], alts := [], laidByText := true, laidKinds := [.data, .data], laidTests := true, laidLooks := .later }
def TopDegreedCardSaid : Prop := Claim7.holds Tryd.pinned (.plain (OpenSpec.ofChange topDegreedSpec)) topDegreedCard

/-- THE TIED CARD OF 'aigrettetop.TopBoxed'. -/
def topBoxedCard : Claim7 := { stood := { row := topBoxedRow, standIns := [], harness := (true, "1882c0649806de5a3ba05dc2ae93d6a99ce4e3079d6f7300582e33922c2fde00"), looks := true }, kinds := [], alts := [], laidByText := true, laidKinds := [.data, .data, .data, .pinned], laidTests := true, laidLooks := .later }
def TopBoxedCardSaid : Prop := Claim7.holds Tryd.pinned (.plain (OpenSpec.ofChange topBoxedSpec)) topBoxedCard

/-- THE SECOND FORM's CARD OF 'aigrettetop.TopDegreed'. -/
def topDegreedUptoCard : Claim7 := { stood := { row := topDegreedUptoRow, standIns := [], harness := (true, "1882c0649806de5a3ba05dc2ae93d6a99ce4e3079d6f7300582e33922c2fde00"), looks := true }, kinds := [], alts := [], laidByText := true, laidKinds := [.data, .data], laidTests := true, laidLooks := .later }
def TopDegreedUptoCardSaid : Prop := Claim7.holds Tryd.pinned (.plain (OpenSpec.upto topDegreedSpec)) topDegreedUptoCard

/-- THE SECOND FORM's CARD OF 'aigrettetop.TopBoxed'. -/
def topBoxedUptoCard : Claim7 := { stood := { row := topBoxedUptoRow, standIns := [], harness := (true, "1882c0649806de5a3ba05dc2ae93d6a99ce4e3079d6f7300582e33922c2fde00"), looks := true }, kinds := [], alts := [], laidByText := true, laidKinds := [.data, .data, .data, .pinned], laidTests := true, laidLooks := .later }
def TopBoxedUptoCardSaid : Prop := Claim7.holds Tryd.pinned (.plain (OpenSpec.upto topBoxedSpec)) topBoxedUptoCard
end Rows
end Go.Proofs.YthbkfhhnhiplkaaDoor
