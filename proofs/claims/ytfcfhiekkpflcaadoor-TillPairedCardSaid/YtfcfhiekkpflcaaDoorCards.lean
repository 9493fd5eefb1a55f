/-
  DERIVED. GIVEN WITH THE SEED: THE CARDS: each row of YtfcfhiekkpflcaaDoorRows.lean that lists a variable, with what it lists TIED to the program's text (the seventh form; the later family's looks); each row that meets fmt, with fmt's text TOLD by the authors' own Lean function (tested against real Go, not proved from fmt's source: count such statements apart). THE CARD IS WHAT COUNTS. Prove the row's statement (the work); the ties are given (YtfcfhiekkpflcaaDoorTie.lean); close each card by the builder's one call (the guide's Derived/Test/ToyasCard.lean, 'card_holds'). Laid BY PROGRAM, IN A SANDBOX (cutbox-door.mjs). By AI agents, Wed Nov 11 2026. No macro, syntax, notation, axiom, sorry.
-/
import Derived.Test.YtfcfhiekkpflcaaDoorRows
import GoSem.ClaimSeven
namespace Go.Proofs.YtfcfhiekkpflcaaDoor
namespace Rows

/-- THE TIED CARD OF 'aigrettelaw05.TillLacks'. -/
def tillLacksCard : Claim7 := { stood := { row := tillLacksRow, standIns := [], harness := (true, "7680241ea90a69bba43568c74cae93066cb126428be225f4676fe4c6e0d1dc66"), looks := false }, kinds := [], alts := [], laidByText := true, laidKinds := [.data, .pinned], laidTests := true, laidLooks := .later }
def TillLacksCardSaid : Prop := Claim7.holds Tryd.pinned (.plain (OpenSpec.ofChange tillLacksSpec)) tillLacksCard

/-- THE TIED CARD OF 'aigrettelaw05.TillCounts'. -/
def tillCountsCard : Claim7 := { stood := { row := tillCountsRow, standIns := [], harness := (true, "7680241ea90a69bba43568c74cae93066cb126428be225f4676fe4c6e0d1dc66"), looks := false }, kinds := [], alts := [], laidByText := true, laidKinds := [.data, .pinned], laidTests := true, laidLooks := .later }
def TillCountsCardSaid : Prop := Claim7.holds Tryd.pinned (.plain (OpenSpec.ofChange tillCountsSpec)) tillCountsCard

/-- THE TIED CARD OF 'aigrettelaw05.TillTurns'. -/
def tillTurnsCard : Claim7 := { stood := { row := tillTurnsRow, standIns := [], harness := (true, "7680241ea90a69bba43568c74cae93066cb126428be225f4676fe4c6e0d1dc66"), looks := false }, kinds := [], alts := [], laidByText := true, laidKinds := [.data, .pinned], laidTests := true, laidLooks := .later }
def TillTurnsCardSaid : Prop := Claim7.holds Tryd.pinned (.plain (OpenSpec.ofChange tillTurnsSpec)) tillTurnsCard

/-- THE TIED CARD OF 'aigrettelaw05.TillServes'. -/
def tillServesCard : Claim7 := { stood := { row := tillServesRow, standIns := [], harness := (true, "7680241ea90a69bba43568c74cae93066cb126428be225f4676fe4c6e0d1dc66"), looks := false }, kinds := [], alts := [], laidByText := true, laidKinds := [.data, .pinned], laidTests := true, laidLooks := .later }
def TillServesCardSaid : Prop := Claim7.holds Tryd.pinned (.plain (OpenSpec.ofChange tillServesSpec)) tillServesCard

/-- THE TIED CARD OF 'aigrettelaw05.TillCycles'. -/
def tillCyclesCard : Claim7 := { stood := { row := tillCyclesRow, standIns := [], harness := (true, "7680241ea90a69bba43568c74cae93066cb126428be225f4676fe4c6e0d1dc66"), looks := false }, kinds := [], alts := [], laidByText := true, laidKinds := [.data, .pinned], laidTests := true, laidLooks := .later }
def TillCyclesCardSaid : Prop := Claim7.holds Tryd.pinned (.plain (OpenSpec.ofChange tillCyclesSpec)) tillCyclesCard

/-- THE TIED CARD OF 'aigrettelaw05.TillNeeded'. -/
def tillNeededCard : Claim7 := { stood := { row := tillNeededRow, standIns := [], harness := (true, "7680241ea90a69bba43568c74cae93066cb126428be225f4676fe4c6e0d1dc66"), looks := false }, kinds := [], alts := [], laidByText := true, laidKinds := [.data, .pinned], laidTests := true, laidLooks := .later }
def TillNeededCardSaid : Prop := Claim7.holds Tryd.pinned (.plain (OpenSpec.ofChange tillNeededSpec)) tillNeededCard

/-- THE TIED CARD OF 'aigrettelaw05.TillPaired'. -/
def tillPairedCard : Claim7 := { stood := { row := tillPairedRow, standIns := [], harness := (true, "7680241ea90a69bba43568c74cae93066cb126428be225f4676fe4c6e0d1dc66"), looks := false }, kinds := [], alts := [], laidByText := true, laidKinds := [.data, .pinned], laidTests := true, laidLooks := .later }
def TillPairedCardSaid : Prop := Claim7.holds Tryd.pinned (.plain (OpenSpec.ofChange tillPairedSpec)) tillPairedCard

/-- THE TIED CARD OF 'aigrettelaw05.TillKnown'. -/
def tillKnownCard : Claim7 := { stood := { row := tillKnownRow, standIns := [], harness := (true, "7680241ea90a69bba43568c74cae93066cb126428be225f4676fe4c6e0d1dc66"), looks := false }, kinds := [], alts := [], laidByText := true, laidKinds := [.data, .pinned], laidTests := true, laidLooks := .later }
def TillKnownCardSaid : Prop := Claim7.holds Tryd.pinned (.plain (OpenSpec.ofChange tillKnownSpec)) tillKnownCard

/-- THE TIED CARD OF 'aigrettelaw05.TillBallots'. -/
def tillBallotsCard : Claim7 := { stood := { row := tillBallotsRow, standIns := [], harness := (true, "7680241ea90a69bba43568c74cae93066cb126428be225f4676fe4c6e0d1dc66"), looks := false }, kinds := [], alts := [], laidByText := true, laidKinds := [.data, .pinned], laidTests := true, laidLooks := .later }
def TillBallotsCardSaid : Prop := Claim7.holds Tryd.pinned (.plain (OpenSpec.ofChange tillBallotsSpec)) tillBallotsCard

/-- THE TIED CARD OF 'aigrettelaw05.TillExchanged'. -/
def tillExchangedCard : Claim7 := { stood := { row := tillExchangedRow, standIns := [], harness := (true, "7680241ea90a69bba43568c74cae93066cb126428be225f4676fe4c6e0d1dc66"), looks := false }, kinds := [], alts := [], laidByText := true, laidKinds := [.data, .pinned], laidTests := true, laidLooks := .later }
def TillExchangedCardSaid : Prop := Claim7.holds Tryd.pinned (.plain (OpenSpec.ofChange tillExchangedSpec)) tillExchangedCard

/-- THE SECOND FORM's CARD OF 'aigrettelaw05.TillLacks'. -/
def tillLacksUptoCard : Claim7 := { stood := { row := tillLacksUptoRow, standIns := [], harness := (true, "7680241ea90a69bba43568c74cae93066cb126428be225f4676fe4c6e0d1dc66"), looks := false }, kinds := [], alts := [], laidByText := true, laidKinds := [.data, .pinned], laidTests := true, laidLooks := .later }
def TillLacksUptoCardSaid : Prop := Claim7.holds Tryd.pinned (.plain (OpenSpec.upto tillLacksSpec)) tillLacksUptoCard

/-- THE SECOND FORM's CARD OF 'aigrettelaw05.TillCounts'. -/
def tillCountsUptoCard : Claim7 := { stood := { row := tillCountsUptoRow, standIns := [], harness := (true, "7680241ea90a69bba43568c74cae93066cb126428be225f4676fe4c6e0d1dc66"), looks := false }, kinds := [], alts := [], laidByText := true, laidKinds := [.data, .pinned], laidTests := true, laidLooks := .later }
def TillCountsUptoCardSaid : Prop := Claim7.holds Tryd.pinned (.plain (OpenSpec.upto tillCountsSpec)) tillCountsUptoCard

/-- THE SECOND FORM's CARD OF 'aigrettelaw05.TillTurns'. -/
def tillTurnsUptoCard : Claim7 := { stood := { row := tillTurnsUptoRow, standIns := [], harness := (true, "7680241ea90a69bba43568c74cae93066cb126428be225f4676fe4c6e0d1dc66"), looks := false }, kinds := [], alts := [], laidByText := true, laidKinds := [.data, .pinned], laidTests := true, laidLooks := .later }
def TillTurnsUptoCardSaid : Prop := Claim7.holds Tryd.pinned (.plain (OpenSpec.upto tillTurnsSpec)) tillTurnsUptoCard

/-- THE SECOND FORM's CARD OF 'aigrettelaw05.TillServes'. -/
def tillServesUptoCard : Claim7 := { stood := { row := tillServesUptoRow, standIns := [], harness := (true, "7680241ea90a69bba43568c74cae93066cb126428be225f4676fe4c6e0d1dc66"), looks := false }, kinds := [], alts := [], laidByText := true, laidKinds := [.data, .pinned], laidTests := true, laidLooks := .later }
def TillServesUptoCardSaid : Prop := Claim7.holds Tryd.pinned (.plain (OpenSpec.upto tillServesSpec)) tillServesUptoCard

/-- THE SECOND FORM's CARD OF 'aigrettelaw05.TillCycles'. -/
def tillCyclesUptoCard : Claim7 := { stood := { row := tillCyclesUptoRow, standIns := [], harness := (true, "7680241ea90a69bba43568c74cae93066cb126428be225f4676fe4c6e0d1dc66"), looks := false }, kinds := [], alts := [], laidByText := true, laidKinds := [.data, .pinned], laidTests := true, laidLooks := .later }
def TillCyclesUptoCardSaid : Prop := Claim7.holds Tryd.pinned (.plain (OpenSpec.upto tillCyclesSpec)) tillCyclesUptoCard

/-- THE SECOND FORM's CARD OF 'aigrettelaw05.TillNeeded'. -/
def tillNeededUptoCard : Claim7 := { stood := { row := tillNeededUptoRow, standIns := [], harness := (true, "7680241ea90a69bba43568c74cae93066cb126428be225f4676fe4c6e0d1dc66"), looks := false }, kinds := [], alts := [], laidByText := true, laidKinds := [.data, .pinned], laidTests := true, laidLooks := .later }
def TillNeededUptoCardSaid : Prop := Claim7.holds Tryd.pinned (.plain (OpenSpec.upto tillNeededSpec)) tillNeededUptoCard

/-- THE SECOND FORM's CARD OF 'aigrettelaw05.TillPaired'. -/
def tillPairedUptoCard : Claim7 := { stood := { row := tillPairedUptoRow, standIns := [], harness := (true, "7680241ea90a69bba43568c74cae93066cb126428be225f4676fe4c6e0d1dc66"), looks := false }, kinds := [], alts := [], laidByText := true, laidKinds := [.data, .pinned], laidTests := true, laidLooks := .later }
def TillPairedUptoCardSaid : Prop := Claim7.holds Tryd.pinned (.plain (OpenSpec.upto tillPairedSpec)) tillPairedUptoCard

/-- THE SECOND FORM's CARD OF 'aigrettelaw05.TillKnown'. -/
def tillKnownUptoCard : Claim7 := { stood := { row := tillKnownUptoRow, standIns := [], harness := (true, "7680241ea90a69bba43568c74cae93066cb126428be225f4676fe4c6e0d1dc66"), looks := false }, kinds := [], alts := [], laidByText := true, laidKinds := [.data, .pinned], laidTests := true, laidLooks := .later }
def TillKnownUptoCardSaid : Prop := Claim7.holds Tryd.pinned (.plain (OpenSpec.upto tillKnownSpec)) tillKnownUptoCard

/-- THE SECOND FORM's CARD OF 'aigrettelaw05.TillBallots'. -/
def tillBallotsUptoCard : Claim7 := { stood := { row := tillBallotsUptoRow, standIns := [], harness := (true, "7680241ea90a69bba43568c74cae93066cb126428be225f4676fe4c6e0d1dc66"), looks := false }, kinds := [], alts := [], laidByText := true, laidKinds := [.data, .pinned], laidTests := true, laidLooks := .later }
def TillBallotsUptoCardSaid : Prop := Claim7.holds Tryd.pinned (.plain (OpenSpec.upto tillBallotsSpec)) tillBallotsUptoCard

/-- THE SECOND FORM's CARD OF 'aigrettelaw05.TillExchanged'. -/
def tillExchangedUptoCard : Claim7 := { stood := { row := tillExchangedUptoRow, standIns := [], harness := (true, "7680241ea90a69bba43568c74cae93066cb126428be225f4676fe4c6e0d1dc66"), looks := false }, kinds := [], alts := [], laidByText := true, laidKinds := [.data, .pinned], laidTests := true, laidLooks := .later }
def TillExchangedUptoCardSaid : Prop := Claim7.holds Tryd.pinned (.plain (OpenSpec.upto tillExchangedSpec)) tillExchangedUptoCard
end Rows
end Go.Proofs.YtfcfhiekkpflcaaDoor
