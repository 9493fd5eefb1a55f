/-
  NARROWER THAN 'FOR EVERY INPUT', by the rows' own cells (each row's printed sentence says how): TillLacks: laid · TillCounts: laid · TillTurns: laid · TillServes: laid · TillCycles: laid · TillNeeded: laid · TillPaired: laid · TillKnown: laid · TillBallots: laid · TillExchanged: laid.
  DERIVED. THE GIVEN ROWS OF THIS SEAT. 10 by the template 'for every input the law returns true; each argument reads behind the call as it read before'; 0 by the template 'total and deterministic' (their statements: YtfcfhiekkpflcaaDoorTotals.lean).
  GIVEN WITH THE SEED: the statements are not yours to turn. If you find one false, say at which input.
  Laid BY PROGRAM, IN A SANDBOX (cutbox-rows.mjs): the forced cells as the released guide's own fill.sh prints them over the translation 88ac286153577223… (all of the seat's roots in one cut). By AI agents, Wed Nov 11 2026. No macro, syntax, notation, axiom, sorry.
-/
import Derived.Test.YtfcfhiekkpflcaaDoorChecked
import GoSem.PinnedTables
import GoSem.Claim
import GoSem.ClaimJoined
import GoSem.ClaimMapViews
import Derived.JoinedTies
import Derived.KernelRfl
namespace Go.Proofs.YtfcfhiekkpflcaaDoor
/- THE CELL 'sum', in the pinned program and in every row, IS THE sha256 OF THE DUMP (.gsa) THAT YtfcfhiekkpflcaaDoorProg.lean LOADS. Nothing in Lean hashes anything: it is a label: what it is worth is what the hold of that sum in a sandbox is worth. -/
noncomputable def Tryd.pinned : Pinned := { name := "ytfcfhiekkpflcaadoor", sum := "88ac286153577223190f713c5a1797283393c1c0b6d6c54fdc509ce462314d3e", checked := Tryd.checked }
namespace Rows
def none {H : Type} : Left H := { results := [], args := [] }

/- WHAT THE LISTED PACKAGE-LEVEL VARIABLES READ AS WHEN THE CALL BEGINS. Each datum BY PROGRAM (the guide's laid-datum.mjs) off the statement by which the dump's own 'gosem.cut.vars' lays the variable. In a bare row this is a premise. The card (YtfcfhiekkpflcaaDoorCards.lean) ties it to the program's text. -/
def laid_unicode_utf8_acceptRanges {H : Type} : DataW H := .agg [.agg [.lit (.int .u8 128), .lit (.int .u8 191)], .agg [.lit (.int .u8 160), .lit (.int .u8 191)], .agg [.lit (.int .u8 128), .lit (.int .u8 159)], .agg [.lit (.int .u8 144), .lit (.int .u8 191)], .agg [.lit (.int .u8 128), .lit (.int .u8 143)], .agg [.lit (.int .u8 0), .lit (.int .u8 0)], .agg [.lit (.int .u8 0), .lit (.int .u8 0)], .agg [.lit (.int .u8 0), .lit (.int .u8 0)], .agg [.lit (.int .u8 0), .lit (.int .u8 0)], .agg [.lit (.int .u8 0), .lit (.int .u8 0)], .agg [.lit (.int .u8 0), .lit (.int .u8 0)], .agg [.lit (.int .u8 0), .lit (.int .u8 0)], .agg [.lit (.int .u8 0), .lit (.int .u8 0)], .agg [.lit (.int .u8 0), .lit (.int .u8 0)], .agg [.lit (.int .u8 0), .lit (.int .u8 0)], .agg [.lit (.int .u8 0), .lit (.int .u8 0)]]
/-- One of Go's own tables, pinned by name: the form's constant. -/
def laid_unicode_utf8_first : DataW Unit := Go.Pinned.utf8First

/-- 'aigrettelaw05.TillLacks': WHATEVER THE INPUT: true; the input reads as it did. -/
def tillLacksSpec : ChangeSpec := { name := "tillLacks", fn := fun _ => fun
  | [d1, d2] => { results := [.lit (.bool true)], args := [d1, d2] }
  | _ => none }
def tillLacksRow : OpenClaim := { program := "ytfcfhiekkpflcaadoor", sum := "88ac286153577223190f713c5a1797283393c1c0b6d6c54fdc509ce462314d3e", func := "aigrette/aigrettelaw05.TillLacks", spec := "tillLacks", inPlace := ["internal/bytealg.IndexByteString", "internal/bytealg.IndexString", "internal/abi.NoEscape", "internal/bytealg.MakeNoZero", "internal/bytealg.CountString"], unfollowed := true, recurses := true, named := ["unicode/utf8.first", "unicode/utf8.acceptRanges", "internal/bytealg.MaxLen"], apart := false, laid := [("unicode/utf8.acceptRanges", laid_unicode_utf8_acceptRanges), ("unicode/utf8.first", laid_unicode_utf8_first)] }
def TillLacksSaid : Prop := tillLacksRow.holds Tryd.pinned (OpenSpec.ofChange tillLacksSpec)

/-- ITS FALSE NEIGHBOUR: 'it returns false'. Refute it at one input. -/
def tillLacksWrong : ChangeSpec := { name := "tillLacks", fn := fun _ => fun
  | [d1, d2] => { results := [.lit (.bool false)], args := [d1, d2] }
  | _ => none }
def TillLacksWrongFalsely : Prop := tillLacksRow.holds Tryd.pinned (OpenSpec.ofChange tillLacksWrong)

/-- 'aigrettelaw05.TillCounts': WHATEVER THE INPUT: true; the input reads as it did. -/
def tillCountsSpec : ChangeSpec := { name := "tillCounts", fn := fun _ => fun
  | [d1, d2, d3, d4] => { results := [.lit (.bool true)], args := [d1, d2, d3, d4] }
  | _ => none }
def tillCountsRow : OpenClaim := { program := "ytfcfhiekkpflcaadoor", sum := "88ac286153577223190f713c5a1797283393c1c0b6d6c54fdc509ce462314d3e", func := "aigrette/aigrettelaw05.TillCounts", spec := "tillCounts", inPlace := ["internal/abi.NoEscape", "internal/bytealg.MakeNoZero", "internal/bytealg.IndexByteString", "internal/bytealg.IndexString", "internal/bytealg.CountString"], unfollowed := true, recurses := true, named := ["unicode/utf8.first", "unicode/utf8.acceptRanges", "internal/bytealg.MaxLen"], apart := false, laid := [("unicode/utf8.acceptRanges", laid_unicode_utf8_acceptRanges), ("unicode/utf8.first", laid_unicode_utf8_first)] }
def TillCountsSaid : Prop := tillCountsRow.holds Tryd.pinned (OpenSpec.ofChange tillCountsSpec)

/-- ITS FALSE NEIGHBOUR: 'it returns false'. Refute it at one input. -/
def tillCountsWrong : ChangeSpec := { name := "tillCounts", fn := fun _ => fun
  | [d1, d2, d3, d4] => { results := [.lit (.bool false)], args := [d1, d2, d3, d4] }
  | _ => none }
def TillCountsWrongFalsely : Prop := tillCountsRow.holds Tryd.pinned (OpenSpec.ofChange tillCountsWrong)

/-- 'aigrettelaw05.TillTurns': WHATEVER THE INPUT: true; the input reads as it did. -/
def tillTurnsSpec : ChangeSpec := { name := "tillTurns", fn := fun _ => fun
  | [d1, d2] => { results := [.lit (.bool true)], args := [d1, d2] }
  | _ => none }
def tillTurnsRow : OpenClaim := { program := "ytfcfhiekkpflcaadoor", sum := "88ac286153577223190f713c5a1797283393c1c0b6d6c54fdc509ce462314d3e", func := "aigrette/aigrettelaw05.TillTurns", spec := "tillTurns", inPlace := ["internal/bytealg.IndexByteString", "internal/bytealg.IndexString", "internal/abi.NoEscape", "internal/bytealg.MakeNoZero", "internal/bytealg.CountString"], unfollowed := true, recurses := true, named := ["unicode/utf8.first", "unicode/utf8.acceptRanges", "internal/bytealg.MaxLen"], apart := false, laid := [("unicode/utf8.acceptRanges", laid_unicode_utf8_acceptRanges), ("unicode/utf8.first", laid_unicode_utf8_first)] }
def TillTurnsSaid : Prop := tillTurnsRow.holds Tryd.pinned (OpenSpec.ofChange tillTurnsSpec)

/-- ITS FALSE NEIGHBOUR: 'it returns false'. Refute it at one input. -/
def tillTurnsWrong : ChangeSpec := { name := "tillTurns", fn := fun _ => fun
  | [d1, d2] => { results := [.lit (.bool false)], args := [d1, d2] }
  | _ => none }
def TillTurnsWrongFalsely : Prop := tillTurnsRow.holds Tryd.pinned (OpenSpec.ofChange tillTurnsWrong)

/-- 'aigrettelaw05.TillServes': WHATEVER THE INPUT: true; the input reads as it did. -/
def tillServesSpec : ChangeSpec := { name := "tillServes", fn := fun _ => fun
  | [d1, d2] => { results := [.lit (.bool true)], args := [d1, d2] }
  | _ => none }
def tillServesRow : OpenClaim := { program := "ytfcfhiekkpflcaadoor", sum := "88ac286153577223190f713c5a1797283393c1c0b6d6c54fdc509ce462314d3e", func := "aigrette/aigrettelaw05.TillServes", spec := "tillServes", inPlace := ["internal/bytealg.IndexByteString", "internal/bytealg.IndexString", "internal/abi.NoEscape", "internal/bytealg.MakeNoZero", "internal/bytealg.CountString"], unfollowed := true, recurses := true, named := ["unicode/utf8.first", "unicode/utf8.acceptRanges", "internal/bytealg.MaxLen"], apart := false, laid := [("unicode/utf8.acceptRanges", laid_unicode_utf8_acceptRanges), ("unicode/utf8.first", laid_unicode_utf8_first)] }
def TillServesSaid : Prop := tillServesRow.holds Tryd.pinned (OpenSpec.ofChange tillServesSpec)

/-- ITS FALSE NEIGHBOUR: 'it returns false'. Refute it at one input. -/
def tillServesWrong : ChangeSpec := { name := "tillServes", fn := fun _ => fun
  | [d1, d2] => { results := [.lit (.bool false)], args := [d1, d2] }
  | _ => none }
def TillServesWrongFalsely : Prop := tillServesRow.holds Tryd.pinned (OpenSpec.ofChange tillServesWrong)

/-- 'aigrettelaw05.TillCycles': WHATEVER THE INPUT: true; the input reads as it did. -/
def tillCyclesSpec : ChangeSpec := { name := "tillCycles", fn := fun _ => fun
  | [d1, d2] => { results := [.lit (.bool true)], args := [d1, d2] }
  | _ => none }
def tillCyclesRow : OpenClaim := { program := "ytfcfhiekkpflcaadoor", sum := "88ac286153577223190f713c5a1797283393c1c0b6d6c54fdc509ce462314d3e", func := "aigrette/aigrettelaw05.TillCycles", spec := "tillCycles", inPlace := ["internal/bytealg.IndexByteString", "internal/bytealg.IndexString", "internal/abi.NoEscape", "internal/bytealg.MakeNoZero", "internal/bytealg.CountString"], unfollowed := true, recurses := true, named := ["unicode/utf8.first", "unicode/utf8.acceptRanges", "internal/bytealg.MaxLen"], apart := false, laid := [("unicode/utf8.acceptRanges", laid_unicode_utf8_acceptRanges), ("unicode/utf8.first", laid_unicode_utf8_first)] }
def TillCyclesSaid : Prop := tillCyclesRow.holds Tryd.pinned (OpenSpec.ofChange tillCyclesSpec)

/-- ITS FALSE NEIGHBOUR: 'it returns false'. Refute it at one input. -/
def tillCyclesWrong : ChangeSpec := { name := "tillCycles", fn := fun _ => fun
  | [d1, d2] => { results := [.lit (.bool false)], args := [d1, d2] }
  | _ => none }
def TillCyclesWrongFalsely : Prop := tillCyclesRow.holds Tryd.pinned (OpenSpec.ofChange tillCyclesWrong)

/-- 'aigrettelaw05.TillNeeded': WHATEVER THE INPUT: true; the input reads as it did. -/
def tillNeededSpec : ChangeSpec := { name := "tillNeeded", fn := fun _ => fun
  | [d] => { results := [.lit (.bool true)], args := [d] }
  | _ => none }
def tillNeededRow : OpenClaim := { program := "ytfcfhiekkpflcaadoor", sum := "88ac286153577223190f713c5a1797283393c1c0b6d6c54fdc509ce462314d3e", func := "aigrette/aigrettelaw05.TillNeeded", spec := "tillNeeded", inPlace := ["internal/bytealg.IndexByteString", "internal/bytealg.IndexString", "internal/abi.NoEscape", "internal/bytealg.MakeNoZero", "internal/bytealg.CountString"], unfollowed := true, recurses := true, named := ["unicode/utf8.first", "unicode/utf8.acceptRanges", "internal/bytealg.MaxLen"], apart := false, laid := [("unicode/utf8.acceptRanges", laid_unicode_utf8_acceptRanges), ("unicode/utf8.first", laid_unicode_utf8_first)] }
def TillNeededSaid : Prop := tillNeededRow.holds Tryd.pinned (OpenSpec.ofChange tillNeededSpec)

/-- ITS FALSE NEIGHBOUR: 'it returns false'. Refute it at one input. -/
def tillNeededWrong : ChangeSpec := { name := "tillNeeded", fn := fun _ => fun
  | [d] => { results := [.lit (.bool false)], args := [d] }
  | _ => none }
def TillNeededWrongFalsely : Prop := tillNeededRow.holds Tryd.pinned (OpenSpec.ofChange tillNeededWrong)

/-- 'aigrettelaw05.TillPaired': WHATEVER THE INPUT: true; the input reads as it did. -/
def tillPairedSpec : ChangeSpec := { name := "tillPaired", fn := fun _ => fun
  | [d1, d2] => { results := [.lit (.bool true)], args := [d1, d2] }
  | _ => none }
def tillPairedRow : OpenClaim := { program := "ytfcfhiekkpflcaadoor", sum := "88ac286153577223190f713c5a1797283393c1c0b6d6c54fdc509ce462314d3e", func := "aigrette/aigrettelaw05.TillPaired", spec := "tillPaired", inPlace := ["internal/bytealg.IndexByteString", "internal/bytealg.IndexString", "internal/abi.NoEscape", "internal/bytealg.MakeNoZero", "internal/bytealg.CountString"], unfollowed := true, recurses := true, named := ["unicode/utf8.first", "unicode/utf8.acceptRanges", "internal/bytealg.MaxLen"], apart := false, laid := [("unicode/utf8.acceptRanges", laid_unicode_utf8_acceptRanges), ("unicode/utf8.first", laid_unicode_utf8_first)] }
def TillPairedSaid : Prop := tillPairedRow.holds Tryd.pinned (OpenSpec.ofChange tillPairedSpec)

/-- ITS FALSE NEIGHBOUR: 'it returns false'. Refute it at one input. -/
def tillPairedWrong : ChangeSpec := { name := "tillPaired", fn := fun _ => fun
  | [d1, d2] => { results := [.lit (.bool false)], args := [d1, d2] }
  | _ => none }
def TillPairedWrongFalsely : Prop := tillPairedRow.holds Tryd.pinned (OpenSpec.ofChange tillPairedWrong)

/-- 'aigrettelaw05.TillKnown': WHATEVER THE INPUT: true; the input reads as it did. -/
def tillKnownSpec : ChangeSpec := { name := "tillKnown", fn := fun _ => fun
  | [] => { results := [.lit (.bool true)], args := [] }
  | _ => none }
def tillKnownRow : OpenClaim := { program := "ytfcfhiekkpflcaadoor", sum := "88ac286153577223190f713c5a1797283393c1c0b6d6c54fdc509ce462314d3e", func := "aigrette/aigrettelaw05.TillKnown", spec := "tillKnown", inPlace := ["internal/bytealg.IndexByteString", "internal/bytealg.IndexString", "internal/abi.NoEscape", "internal/bytealg.MakeNoZero", "internal/bytealg.CountString"], unfollowed := true, recurses := true, named := ["unicode/utf8.first", "unicode/utf8.acceptRanges", "internal/bytealg.MaxLen"], apart := false, laid := [("unicode/utf8.acceptRanges", laid_unicode_utf8_acceptRanges), ("unicode/utf8.first", laid_unicode_utf8_first)] }
def TillKnownSaid : Prop := tillKnownRow.holds Tryd.pinned (OpenSpec.ofChange tillKnownSpec)

/-- ITS FALSE NEIGHBOUR: 'it returns false'. Refute it at one input. -/
def tillKnownWrong : ChangeSpec := { name := "tillKnown", fn := fun _ => fun
  | [] => { results := [.lit (.bool false)], args := [] }
  | _ => none }
def TillKnownWrongFalsely : Prop := tillKnownRow.holds Tryd.pinned (OpenSpec.ofChange tillKnownWrong)

/-- 'aigrettelaw05.TillBallots': WHATEVER THE INPUT: true; the input reads as it did. -/
def tillBallotsSpec : ChangeSpec := { name := "tillBallots", fn := fun _ => fun
  | [d1, d2, d3] => { results := [.lit (.bool true)], args := [d1, d2, d3] }
  | _ => none }
def tillBallotsRow : OpenClaim := { program := "ytfcfhiekkpflcaadoor", sum := "88ac286153577223190f713c5a1797283393c1c0b6d6c54fdc509ce462314d3e", func := "aigrette/aigrettelaw05.TillBallots", spec := "tillBallots", inPlace := ["internal/bytealg.IndexByteString", "internal/bytealg.IndexString", "internal/bytealg.CountString", "internal/abi.NoEscape", "internal/bytealg.MakeNoZero"], unfollowed := true, recurses := true, named := ["unicode/utf8.first", "unicode/utf8.acceptRanges", "internal/bytealg.MaxLen"], apart := false, laid := [("unicode/utf8.acceptRanges", laid_unicode_utf8_acceptRanges), ("unicode/utf8.first", laid_unicode_utf8_first)] }
def TillBallotsSaid : Prop := tillBallotsRow.holds Tryd.pinned (OpenSpec.ofChange tillBallotsSpec)

/-- ITS FALSE NEIGHBOUR: 'it returns false'. Refute it at one input. -/
def tillBallotsWrong : ChangeSpec := { name := "tillBallots", fn := fun _ => fun
  | [d1, d2, d3] => { results := [.lit (.bool false)], args := [d1, d2, d3] }
  | _ => none }
def TillBallotsWrongFalsely : Prop := tillBallotsRow.holds Tryd.pinned (OpenSpec.ofChange tillBallotsWrong)

/-- 'aigrettelaw05.TillExchanged': WHATEVER THE INPUT: true; the input reads as it did. -/
def tillExchangedSpec : ChangeSpec := { name := "tillExchanged", fn := fun _ => fun
  | [d1, d2, d3] => { results := [.lit (.bool true)], args := [d1, d2, d3] }
  | _ => none }
def tillExchangedRow : OpenClaim := { program := "ytfcfhiekkpflcaadoor", sum := "88ac286153577223190f713c5a1797283393c1c0b6d6c54fdc509ce462314d3e", func := "aigrette/aigrettelaw05.TillExchanged", spec := "tillExchanged", inPlace := ["internal/bytealg.IndexByteString", "internal/bytealg.IndexString", "internal/abi.NoEscape", "internal/bytealg.MakeNoZero", "internal/bytealg.CountString"], unfollowed := true, recurses := true, named := ["unicode/utf8.first", "unicode/utf8.acceptRanges", "internal/bytealg.MaxLen"], apart := false, laid := [("unicode/utf8.acceptRanges", laid_unicode_utf8_acceptRanges), ("unicode/utf8.first", laid_unicode_utf8_first)] }
def TillExchangedSaid : Prop := tillExchangedRow.holds Tryd.pinned (OpenSpec.ofChange tillExchangedSpec)

/-- ITS FALSE NEIGHBOUR: 'it returns false'. Refute it at one input. -/
def tillExchangedWrong : ChangeSpec := { name := "tillExchanged", fn := fun _ => fun
  | [d1, d2, d3] => { results := [.lit (.bool false)], args := [d1, d2, d3] }
  | _ => none }
def TillExchangedWrongFalsely : Prop := tillExchangedRow.holds Tryd.pinned (OpenSpec.ofChange tillExchangedWrong)

/- THE SECOND FORM. 'bulk': how many values and letters a reading holds, each counted each time it is reached (what is shared counts as often as it is met; a slice's spare places count too). A statement '..UptoSaid' is the law's where the arguments, and the package variables that the reading takes, are together of bulk at most 1048576: NARROWER than '..Said'. Prove '..Said' where nothing that the law and all that it calls make is longer than what came in: it says more and counts as full. Else prove '..UptoSaid'. A law counts once. -/
mutual
def uptoBulk {H : Type} : DataW H → Nat
  | .lit (.string bytes) => bytes.length + 1
  | .lit _ => 1
  | .nil => 1
  | .ptr d => uptoBulk d + 1
  | .slice elems spare => uptoBulkAll elems + uptoBulkAll spare + 1
  | .agg parts => uptoBulkAll parts + 1
  | .iface _ d => uptoBulk d + 1
  | .map entries => uptoBulkEntries entries + 1
  | .held _ => 1
def uptoBulkAll {H : Type} : List (DataW H) → Nat
  | [] => 0
  | d :: r => uptoBulk d + uptoBulkAll r
def uptoBulkEntries {H : Type} : List (Lit × DataW H) → Nat
  | [] => 0
  | x :: r => uptoBulkEntry x + uptoBulkEntries r
def uptoBulkEntry {H : Type} : Lit × DataW H → Nat
  | (.string bytes, d) => bytes.length + uptoBulk d + 1
  | (_, d) => uptoBulk d + 1
 end
def uptoSmall : (H : Type) → List (DataW H) → Bool := fun _ ds => decide (uptoBulkAll ds ≤ 1048576)
def OpenSpec.upto (s : _root_.Go.ChangeSpec) : _root_.Go.OpenSpec := { _root_.Go.OpenSpec.ofChange s with cond := some uptoSmall }

/-- 'aigrettelaw05.TillLacks', WHERE WHAT IT READS IS OF BULK AT MOST 1048576: true; the input reads as it did. -/
def tillLacksUptoRow : OpenClaim := { program := "ytfcfhiekkpflcaadoor", sum := "88ac286153577223190f713c5a1797283393c1c0b6d6c54fdc509ce462314d3e", func := "aigrette/aigrettelaw05.TillLacks", spec := "tillLacks", inPlace := ["internal/bytealg.IndexByteString", "internal/bytealg.IndexString", "internal/abi.NoEscape", "internal/bytealg.MakeNoZero", "internal/bytealg.CountString"], unfollowed := true, recurses := true, named := ["unicode/utf8.first", "unicode/utf8.acceptRanges", "internal/bytealg.MaxLen"], apart := false, laid := [("unicode/utf8.acceptRanges", laid_unicode_utf8_acceptRanges), ("unicode/utf8.first", laid_unicode_utf8_first)], narrowed := true }
def TillLacksUptoSaid : Prop := tillLacksUptoRow.holds Tryd.pinned (OpenSpec.upto tillLacksSpec)

/-- 'aigrettelaw05.TillCounts', WHERE WHAT IT READS IS OF BULK AT MOST 1048576: true; the input reads as it did. -/
def tillCountsUptoRow : OpenClaim := { program := "ytfcfhiekkpflcaadoor", sum := "88ac286153577223190f713c5a1797283393c1c0b6d6c54fdc509ce462314d3e", func := "aigrette/aigrettelaw05.TillCounts", spec := "tillCounts", inPlace := ["internal/abi.NoEscape", "internal/bytealg.MakeNoZero", "internal/bytealg.IndexByteString", "internal/bytealg.IndexString", "internal/bytealg.CountString"], unfollowed := true, recurses := true, named := ["unicode/utf8.first", "unicode/utf8.acceptRanges", "internal/bytealg.MaxLen"], apart := false, laid := [("unicode/utf8.acceptRanges", laid_unicode_utf8_acceptRanges), ("unicode/utf8.first", laid_unicode_utf8_first)], narrowed := true }
def TillCountsUptoSaid : Prop := tillCountsUptoRow.holds Tryd.pinned (OpenSpec.upto tillCountsSpec)

/-- 'aigrettelaw05.TillTurns', WHERE WHAT IT READS IS OF BULK AT MOST 1048576: true; the input reads as it did. -/
def tillTurnsUptoRow : OpenClaim := { program := "ytfcfhiekkpflcaadoor", sum := "88ac286153577223190f713c5a1797283393c1c0b6d6c54fdc509ce462314d3e", func := "aigrette/aigrettelaw05.TillTurns", spec := "tillTurns", inPlace := ["internal/bytealg.IndexByteString", "internal/bytealg.IndexString", "internal/abi.NoEscape", "internal/bytealg.MakeNoZero", "internal/bytealg.CountString"], unfollowed := true, recurses := true, named := ["unicode/utf8.first", "unicode/utf8.acceptRanges", "internal/bytealg.MaxLen"], apart := false, laid := [("unicode/utf8.acceptRanges", laid_unicode_utf8_acceptRanges), ("unicode/utf8.first", laid_unicode_utf8_first)], narrowed := true }
def TillTurnsUptoSaid : Prop := tillTurnsUptoRow.holds Tryd.pinned (OpenSpec.upto tillTurnsSpec)

/-- 'aigrettelaw05.TillServes', WHERE WHAT IT READS IS OF BULK AT MOST 1048576: true; the input reads as it did. -/
def tillServesUptoRow : OpenClaim := { program := "ytfcfhiekkpflcaadoor", sum := "88ac286153577223190f713c5a1797283393c1c0b6d6c54fdc509ce462314d3e", func := "aigrette/aigrettelaw05.TillServes", spec := "tillServes", inPlace := ["internal/bytealg.IndexByteString", "internal/bytealg.IndexString", "internal/abi.NoEscape", "internal/bytealg.MakeNoZero", "internal/bytealg.CountString"], unfollowed := true, recurses := true, named := ["unicode/utf8.first", "unicode/utf8.acceptRanges", "internal/bytealg.MaxLen"], apart := false, laid := [("unicode/utf8.acceptRanges", laid_unicode_utf8_acceptRanges), ("unicode/utf8.first", laid_unicode_utf8_first)], narrowed := true }
def TillServesUptoSaid : Prop := tillServesUptoRow.holds Tryd.pinned (OpenSpec.upto tillServesSpec)

/-- 'aigrettelaw05.TillCycles', WHERE WHAT IT READS IS OF BULK AT MOST 1048576: true; the input reads as it did. -/
def tillCyclesUptoRow : OpenClaim := { program := "ytfcfhiekkpflcaadoor", sum := "88ac286153577223190f713c5a1797283393c1c0b6d6c54fdc509ce462314d3e", func := "aigrette/aigrettelaw05.TillCycles", spec := "tillCycles", inPlace := ["internal/bytealg.IndexByteString", "internal/bytealg.IndexString", "internal/abi.NoEscape", "internal/bytealg.MakeNoZero", "internal/bytealg.CountString"], unfollowed := true, recurses := true, named := ["unicode/utf8.first", "unicode/utf8.acceptRanges", "internal/bytealg.MaxLen"], apart := false, laid := [("unicode/utf8.acceptRanges", laid_unicode_utf8_acceptRanges), ("unicode/utf8.first", laid_unicode_utf8_first)], narrowed := true }
def TillCyclesUptoSaid : Prop := tillCyclesUptoRow.holds Tryd.pinned (OpenSpec.upto tillCyclesSpec)

/-- 'aigrettelaw05.TillNeeded', WHERE WHAT IT READS IS OF BULK AT MOST 1048576: true; the input reads as it did. -/
def tillNeededUptoRow : OpenClaim := { program := "ytfcfhiekkpflcaadoor", sum := "88ac286153577223190f713c5a1797283393c1c0b6d6c54fdc509ce462314d3e", func := "aigrette/aigrettelaw05.TillNeeded", spec := "tillNeeded", inPlace := ["internal/bytealg.IndexByteString", "internal/bytealg.IndexString", "internal/abi.NoEscape", "internal/bytealg.MakeNoZero", "internal/bytealg.CountString"], unfollowed := true, recurses := true, named := ["unicode/utf8.first", "unicode/utf8.acceptRanges", "internal/bytealg.MaxLen"], apart := false, laid := [("unicode/utf8.acceptRanges", laid_unicode_utf8_acceptRanges), ("unicode/utf8.first", laid_unicode_utf8_first)], narrowed := true }
def TillNeededUptoSaid : Prop := tillNeededUptoRow.holds Tryd.pinned (OpenSpec.upto tillNeededSpec)

/-- 'aigrettelaw05.TillPaired', WHERE WHAT IT READS IS OF BULK AT MOST 1048576: true; the input reads as it did. -/
def tillPairedUptoRow : OpenClaim := { program := "ytfcfhiekkpflcaadoor", sum := "88ac286153577223190f713c5a1797283393c1c0b6d6c54fdc509ce462314d3e", func := "aigrette/aigrettelaw05.TillPaired", spec := "tillPaired", inPlace := ["internal/bytealg.IndexByteString", "internal/bytealg.IndexString", "internal/abi.NoEscape", "internal/bytealg.MakeNoZero", "internal/bytealg.CountString"], unfollowed := true, recurses := true, named := ["unicode/utf8.first", "unicode/utf8.acceptRanges", "internal/bytealg.MaxLen"], apart := false, laid := [("unicode/utf8.acceptRanges", laid_unicode_utf8_acceptRanges), ("unicode/utf8.first", laid_unicode_utf8_first)], narrowed := true }
def TillPairedUptoSaid : Prop := tillPairedUptoRow.holds Tryd.pinned (OpenSpec.upto tillPairedSpec)

/-- 'aigrettelaw05.TillKnown', WHERE WHAT IT READS IS OF BULK AT MOST 1048576: true; the input reads as it did. -/
def tillKnownUptoRow : OpenClaim := { program := "ytfcfhiekkpflcaadoor", sum := "88ac286153577223190f713c5a1797283393c1c0b6d6c54fdc509ce462314d3e", func := "aigrette/aigrettelaw05.TillKnown", spec := "tillKnown", inPlace := ["internal/bytealg.IndexByteString", "internal/bytealg.IndexString", "internal/abi.NoEscape", "internal/bytealg.MakeNoZero", "internal/bytealg.CountString"], unfollowed := true, recurses := true, named := ["unicode/utf8.first", "unicode/utf8.acceptRanges", "internal/bytealg.MaxLen"], apart := false, laid := [("unicode/utf8.acceptRanges", laid_unicode_utf8_acceptRanges), ("unicode/utf8.first", laid_unicode_utf8_first)], narrowed := true }
def TillKnownUptoSaid : Prop := tillKnownUptoRow.holds Tryd.pinned (OpenSpec.upto tillKnownSpec)

/-- 'aigrettelaw05.TillBallots', WHERE WHAT IT READS IS OF BULK AT MOST 1048576: true; the input reads as it did. -/
def tillBallotsUptoRow : OpenClaim := { program := "ytfcfhiekkpflcaadoor", sum := "88ac286153577223190f713c5a1797283393c1c0b6d6c54fdc509ce462314d3e", func := "aigrette/aigrettelaw05.TillBallots", spec := "tillBallots", inPlace := ["internal/bytealg.IndexByteString", "internal/bytealg.IndexString", "internal/bytealg.CountString", "internal/abi.NoEscape", "internal/bytealg.MakeNoZero"], unfollowed := true, recurses := true, named := ["unicode/utf8.first", "unicode/utf8.acceptRanges", "internal/bytealg.MaxLen"], apart := false, laid := [("unicode/utf8.acceptRanges", laid_unicode_utf8_acceptRanges), ("unicode/utf8.first", laid_unicode_utf8_first)], narrowed := true }
def TillBallotsUptoSaid : Prop := tillBallotsUptoRow.holds Tryd.pinned (OpenSpec.upto tillBallotsSpec)

/-- 'aigrettelaw05.TillExchanged', WHERE WHAT IT READS IS OF BULK AT MOST 1048576: true; the input reads as it did. -/
def tillExchangedUptoRow : OpenClaim := { program := "ytfcfhiekkpflcaadoor", sum := "88ac286153577223190f713c5a1797283393c1c0b6d6c54fdc509ce462314d3e", func := "aigrette/aigrettelaw05.TillExchanged", spec := "tillExchanged", inPlace := ["internal/bytealg.IndexByteString", "internal/bytealg.IndexString", "internal/abi.NoEscape", "internal/bytealg.MakeNoZero", "internal/bytealg.CountString"], unfollowed := true, recurses := true, named := ["unicode/utf8.first", "unicode/utf8.acceptRanges", "internal/bytealg.MaxLen"], apart := false, laid := [("unicode/utf8.acceptRanges", laid_unicode_utf8_acceptRanges), ("unicode/utf8.first", laid_unicode_utf8_first)], narrowed := true }
def TillExchangedUptoSaid : Prop := tillExchangedUptoRow.holds Tryd.pinned (OpenSpec.upto tillExchangedSpec)

end Rows
end Go.Proofs.YtfcfhiekkpflcaaDoor
