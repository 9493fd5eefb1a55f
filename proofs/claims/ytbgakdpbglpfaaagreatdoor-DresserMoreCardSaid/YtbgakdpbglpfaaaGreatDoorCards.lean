/-
  DERIVED. GIVEN WITH THE SEED: THE CARDS: each row of YtbgakdpbglpfaaaGreatDoorRows.lean that lists a variable, with what it lists TIED to the program's text (the seventh form; the later family's looks); each row that meets fmt, with fmt's text TOLD by the authors' own Lean function (tested against real Go, not proved from fmt's source: count such statements apart). THE CARD IS WHAT COUNTS. Prove the row's statement (the work); the ties are given (YtbgakdpbglpfaaaGreatDoorTie.lean); close each card by the builder's one call (the guide's Derived/Test/ToyasCard.lean, 'card_holds'). Laid BY PROGRAM, IN A SANDBOX (cutbox-door.mjs). By AI agents, Wed Nov 11 2026. No macro, syntax, notation, axiom, sorry.
-/
import Derived.Test.YtbgakdpbglpfaaaGreatDoorRows
import GoSem.ClaimSeven
namespace Go.Proofs.YtbgakdpbglpfaaaGreatDoor
namespace Rows

/-- THE TIED CARD OF 'aigrettelaw14.DresserLines'. -/
def dresserLinesCard : Claim7 := { stood := { row := dresserLinesRow, standIns := [], harness := (true, "8b83a18fc251b4b0b3388f42e968bad480b2bc7e80f3eff4f9a978becd8613b8"), looks := true }, kinds := [], alts := [], laidByText := true, laidKinds := [.data, .data, .data, .data, .pinned], laidTests := true, laidLooks := .later }
def DresserLinesCardSaid : Prop := Claim7.holds Tryz.pinned (.plain (OpenSpec.ofChange dresserLinesSpec)) dresserLinesCard

/-- THE TIED CARD OF 'aigrettelaw14.DresserAsked'. -/
def dresserAskedCard : Claim7 := { stood := { row := dresserAskedRow, standIns := [], harness := (true, "8b83a18fc251b4b0b3388f42e968bad480b2bc7e80f3eff4f9a978becd8613b8"), looks := true }, kinds := [], alts := [], laidByText := true, laidKinds := [.data, .data, .data, .data, .pinned], laidTests := true, laidLooks := .later }
def DresserAskedCardSaid : Prop := Claim7.holds Tryz.pinned (.plain (OpenSpec.ofChange dresserAskedSpec)) dresserAskedCard

/-- THE TIED CARD OF 'aigrettelaw14.DresserNone'. -/
def dresserNoneCard : Claim7 := { stood := { row := dresserNoneRow, standIns := [], harness := (true, "8b83a18fc251b4b0b3388f42e968bad480b2bc7e80f3eff4f9a978becd8613b8"), looks := true }, kinds := [], alts := [], laidByText := true, laidKinds := [.data, .data, .data, .data, .pinned], laidTests := true, laidLooks := .later }
def DresserNoneCardSaid : Prop := Claim7.holds Tryz.pinned (.plain (OpenSpec.ofChange dresserNoneSpec)) dresserNoneCard

/-- THE TIED CARD OF 'aigrettelaw14.DresserUndone'. -/
def dresserUndoneCard : Claim7 := { stood := { row := dresserUndoneRow, standIns := [], harness := (true, "8b83a18fc251b4b0b3388f42e968bad480b2bc7e80f3eff4f9a978becd8613b8"), looks := true }, kinds := [], alts := [], laidByText := true, laidKinds := [.data, .data, .data, .data, .pinned], laidTests := true, laidLooks := .later }
def DresserUndoneCardSaid : Prop := Claim7.holds Tryz.pinned (.plain (OpenSpec.ofChange dresserUndoneSpec)) dresserUndoneCard

/-- THE TIED CARD OF 'aigrettelaw14.DresserFilled'. -/
def dresserFilledCard : Claim7 := { stood := { row := dresserFilledRow, standIns := [], harness := (true, "8b83a18fc251b4b0b3388f42e968bad480b2bc7e80f3eff4f9a978becd8613b8"), looks := true }, kinds := [], alts := [], laidByText := true, laidKinds := [.data, .data, .data, .data, .pinned], laidTests := true, laidLooks := .later }
def DresserFilledCardSaid : Prop := Claim7.holds Tryz.pinned (.plain (OpenSpec.ofChange dresserFilledSpec)) dresserFilledCard

/-- THE TIED CARD OF 'aigrettelaw14.DresserFiles'. -/
def dresserFilesCard : Claim7 := { stood := { row := dresserFilesRow, standIns := [], harness := (true, "8b83a18fc251b4b0b3388f42e968bad480b2bc7e80f3eff4f9a978becd8613b8"), looks := true }, kinds := [], alts := [], laidByText := true, laidKinds := [.data, .data, .data, .data, .pinned], laidTests := true, laidLooks := .later }
def DresserFilesCardSaid : Prop := Claim7.holds Tryz.pinned (.plain (OpenSpec.ofChange dresserFilesSpec)) dresserFilesCard

/-- THE TIED CARD OF 'aigrettelaw14.DresserRead'. -/
def dresserReadCard : Claim7 := { stood := { row := dresserReadRow, standIns := [], harness := (true, "8b83a18fc251b4b0b3388f42e968bad480b2bc7e80f3eff4f9a978becd8613b8"), looks := true }, kinds := [], alts := [], laidByText := true, laidKinds := [.data, .data, .data, .data, .pinned], laidTests := true, laidLooks := .later }
def DresserReadCardSaid : Prop := Claim7.holds Tryz.pinned (.plain (OpenSpec.ofChange dresserReadSpec)) dresserReadCard

/-- THE TIED CARD OF 'aigrettelaw14.DresserKnown'. -/
def dresserKnownCard : Claim7 := { stood := { row := dresserKnownRow, standIns := [], harness := (true, "8b83a18fc251b4b0b3388f42e968bad480b2bc7e80f3eff4f9a978becd8613b8"), looks := true }, kinds := [], alts := [], laidByText := true, laidKinds := [.data, .data, .data, .data, .pinned], laidTests := true, laidLooks := .later }
def DresserKnownCardSaid : Prop := Claim7.holds Tryz.pinned (.plain (OpenSpec.ofChange dresserKnownSpec)) dresserKnownCard

/-- THE TIED CARD OF 'aigrettelaw14.DresserNames'. -/
def dresserNamesCard : Claim7 := { stood := { row := dresserNamesRow, standIns := [], harness := (true, "8b83a18fc251b4b0b3388f42e968bad480b2bc7e80f3eff4f9a978becd8613b8"), looks := true }, kinds := [], alts := [], laidByText := true, laidKinds := [.data, .data, .data, .data, .pinned], laidTests := true, laidLooks := .later }
def DresserNamesCardSaid : Prop := Claim7.holds Tryz.pinned (.plain (OpenSpec.ofChange dresserNamesSpec)) dresserNamesCard

/-- THE TIED CARD OF 'aigrettelaw14.DresserAccounts'. -/
def dresserAccountsCard : Claim7 := { stood := { row := dresserAccountsRow, standIns := [], harness := (true, "8b83a18fc251b4b0b3388f42e968bad480b2bc7e80f3eff4f9a978becd8613b8"), looks := true }, kinds := [], alts := [], laidByText := true, laidKinds := [.data, .data, .data, .data, .sentinel, .sentinel, .pinned], laidTests := true, laidLooks := .later }
def DresserAccountsCardSaid : Prop := Claim7.holds Tryz.pinned (.plain (OpenSpec.ofChange dresserAccountsSpec)) dresserAccountsCard

/-- THE TIED CARD OF 'aigrettelaw14.DresserMore'. -/
def dresserMoreCard : Claim7 := { stood := { row := dresserMoreRow, standIns := [], harness := (true, "8b83a18fc251b4b0b3388f42e968bad480b2bc7e80f3eff4f9a978becd8613b8"), looks := true }, kinds := [], alts := [], laidByText := true, laidKinds := [.data, .data, .data, .data, .sentinel, .sentinel, .pinned], laidTests := true, laidLooks := .later }
def DresserMoreCardSaid : Prop := Claim7.holds Tryz.pinned (.plain (OpenSpec.ofChange dresserMoreSpec)) dresserMoreCard

/-- THE SECOND FORM's CARD OF 'aigrettelaw14.DresserLines'. -/
def dresserLinesUptoCard : Claim7 := { stood := { row := dresserLinesUptoRow, standIns := [], harness := (true, "8b83a18fc251b4b0b3388f42e968bad480b2bc7e80f3eff4f9a978becd8613b8"), looks := true }, kinds := [], alts := [], laidByText := true, laidKinds := [.data, .data, .data, .data, .pinned], laidTests := true, laidLooks := .later }
def DresserLinesUptoCardSaid : Prop := Claim7.holds Tryz.pinned (.plain (OpenSpec.upto dresserLinesSpec)) dresserLinesUptoCard

/-- THE SECOND FORM's CARD OF 'aigrettelaw14.DresserAsked'. -/
def dresserAskedUptoCard : Claim7 := { stood := { row := dresserAskedUptoRow, standIns := [], harness := (true, "8b83a18fc251b4b0b3388f42e968bad480b2bc7e80f3eff4f9a978becd8613b8"), looks := true }, kinds := [], alts := [], laidByText := true, laidKinds := [.data, .data, .data, .data, .pinned], laidTests := true, laidLooks := .later }
def DresserAskedUptoCardSaid : Prop := Claim7.holds Tryz.pinned (.plain (OpenSpec.upto dresserAskedSpec)) dresserAskedUptoCard

/-- THE SECOND FORM's CARD OF 'aigrettelaw14.DresserNone'. -/
def dresserNoneUptoCard : Claim7 := { stood := { row := dresserNoneUptoRow, standIns := [], harness := (true, "8b83a18fc251b4b0b3388f42e968bad480b2bc7e80f3eff4f9a978becd8613b8"), looks := true }, kinds := [], alts := [], laidByText := true, laidKinds := [.data, .data, .data, .data, .pinned], laidTests := true, laidLooks := .later }
def DresserNoneUptoCardSaid : Prop := Claim7.holds Tryz.pinned (.plain (OpenSpec.upto dresserNoneSpec)) dresserNoneUptoCard

/-- THE SECOND FORM's CARD OF 'aigrettelaw14.DresserUndone'. -/
def dresserUndoneUptoCard : Claim7 := { stood := { row := dresserUndoneUptoRow, standIns := [], harness := (true, "8b83a18fc251b4b0b3388f42e968bad480b2bc7e80f3eff4f9a978becd8613b8"), looks := true }, kinds := [], alts := [], laidByText := true, laidKinds := [.data, .data, .data, .data, .pinned], laidTests := true, laidLooks := .later }
def DresserUndoneUptoCardSaid : Prop := Claim7.holds Tryz.pinned (.plain (OpenSpec.upto dresserUndoneSpec)) dresserUndoneUptoCard

/-- THE SECOND FORM's CARD OF 'aigrettelaw14.DresserFilled'. -/
def dresserFilledUptoCard : Claim7 := { stood := { row := dresserFilledUptoRow, standIns := [], harness := (true, "8b83a18fc251b4b0b3388f42e968bad480b2bc7e80f3eff4f9a978becd8613b8"), looks := true }, kinds := [], alts := [], laidByText := true, laidKinds := [.data, .data, .data, .data, .pinned], laidTests := true, laidLooks := .later }
def DresserFilledUptoCardSaid : Prop := Claim7.holds Tryz.pinned (.plain (OpenSpec.upto dresserFilledSpec)) dresserFilledUptoCard

/-- THE SECOND FORM's CARD OF 'aigrettelaw14.DresserFiles'. -/
def dresserFilesUptoCard : Claim7 := { stood := { row := dresserFilesUptoRow, standIns := [], harness := (true, "8b83a18fc251b4b0b3388f42e968bad480b2bc7e80f3eff4f9a978becd8613b8"), looks := true }, kinds := [], alts := [], laidByText := true, laidKinds := [.data, .data, .data, .data, .pinned], laidTests := true, laidLooks := .later }
def DresserFilesUptoCardSaid : Prop := Claim7.holds Tryz.pinned (.plain (OpenSpec.upto dresserFilesSpec)) dresserFilesUptoCard

/-- THE SECOND FORM's CARD OF 'aigrettelaw14.DresserRead'. -/
def dresserReadUptoCard : Claim7 := { stood := { row := dresserReadUptoRow, standIns := [], harness := (true, "8b83a18fc251b4b0b3388f42e968bad480b2bc7e80f3eff4f9a978becd8613b8"), looks := true }, kinds := [], alts := [], laidByText := true, laidKinds := [.data, .data, .data, .data, .pinned], laidTests := true, laidLooks := .later }
def DresserReadUptoCardSaid : Prop := Claim7.holds Tryz.pinned (.plain (OpenSpec.upto dresserReadSpec)) dresserReadUptoCard

/-- THE SECOND FORM's CARD OF 'aigrettelaw14.DresserKnown'. -/
def dresserKnownUptoCard : Claim7 := { stood := { row := dresserKnownUptoRow, standIns := [], harness := (true, "8b83a18fc251b4b0b3388f42e968bad480b2bc7e80f3eff4f9a978becd8613b8"), looks := true }, kinds := [], alts := [], laidByText := true, laidKinds := [.data, .data, .data, .data, .pinned], laidTests := true, laidLooks := .later }
def DresserKnownUptoCardSaid : Prop := Claim7.holds Tryz.pinned (.plain (OpenSpec.upto dresserKnownSpec)) dresserKnownUptoCard

/-- THE SECOND FORM's CARD OF 'aigrettelaw14.DresserNames'. -/
def dresserNamesUptoCard : Claim7 := { stood := { row := dresserNamesUptoRow, standIns := [], harness := (true, "8b83a18fc251b4b0b3388f42e968bad480b2bc7e80f3eff4f9a978becd8613b8"), looks := true }, kinds := [], alts := [], laidByText := true, laidKinds := [.data, .data, .data, .data, .pinned], laidTests := true, laidLooks := .later }
def DresserNamesUptoCardSaid : Prop := Claim7.holds Tryz.pinned (.plain (OpenSpec.upto dresserNamesSpec)) dresserNamesUptoCard

/-- THE SECOND FORM's CARD OF 'aigrettelaw14.DresserAccounts'. -/
def dresserAccountsUptoCard : Claim7 := { stood := { row := dresserAccountsUptoRow, standIns := [], harness := (true, "8b83a18fc251b4b0b3388f42e968bad480b2bc7e80f3eff4f9a978becd8613b8"), looks := true }, kinds := [], alts := [], laidByText := true, laidKinds := [.data, .data, .data, .data, .sentinel, .sentinel, .pinned], laidTests := true, laidLooks := .later }
def DresserAccountsUptoCardSaid : Prop := Claim7.holds Tryz.pinned (.plain (OpenSpec.upto dresserAccountsSpec)) dresserAccountsUptoCard

/-- THE SECOND FORM's CARD OF 'aigrettelaw14.DresserMore'. -/
def dresserMoreUptoCard : Claim7 := { stood := { row := dresserMoreUptoRow, standIns := [], harness := (true, "8b83a18fc251b4b0b3388f42e968bad480b2bc7e80f3eff4f9a978becd8613b8"), looks := true }, kinds := [], alts := [], laidByText := true, laidKinds := [.data, .data, .data, .data, .sentinel, .sentinel, .pinned], laidTests := true, laidLooks := .later }
def DresserMoreUptoCardSaid : Prop := Claim7.holds Tryz.pinned (.plain (OpenSpec.upto dresserMoreSpec)) dresserMoreUptoCard
end Rows
end Go.Proofs.YtbgakdpbglpfaaaGreatDoor
