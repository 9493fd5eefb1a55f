/-
  NARROWER THAN 'FOR EVERY INPUT', by the rows' own cells (each row's printed sentence says how): ClaspNumbers: laid · ClaspWays: laid · ClaspTimes: laid · ClaspPairs: laid · ClaspLine: laid · ClaspOpened: laid · ClaspWalked: laid · ClaspLeads: laid · ClaspTurns: laid · ClaspMoves: laid · ClaspKnown: laid.
  DERIVED. THE GIVEN ROWS OF THIS SEAT. 11 by the template 'for every input the law returns true; each argument reads behind the call as it read before'; 0 by the template 'total and deterministic' (their statements: YtjhcemhnnkcjaaaDoorTotals.lean).
  GIVEN WITH THE SEED: the statements are not yours to turn. If you find one false, say at which input.
  Laid BY PROGRAM, IN A SANDBOX (cutbox-rows.mjs): the forced cells as the released guide's own fill.sh prints them over the translation 7ba717b0b51a9ef9… (all of the seat's roots in one cut). By AI agents, Wed Nov 11 2026. No macro, syntax, notation, axiom, sorry.
-/
import Derived.Test.YtjhcemhnnkcjaaaDoorChecked
import GoSem.Claim
import GoSem.ClaimJoined
import GoSem.ClaimMapViews
import Derived.JoinedTies
import Derived.KernelRfl
namespace Go.Proofs.YtjhcemhnnkcjaaaDoor
/- THE CELL 'sum', in the pinned program and in every row, IS THE sha256 OF THE DUMP (.gsa) THAT YtjhcemhnnkcjaaaDoorProg.lean LOADS. Nothing in Lean hashes anything: it is a label: what it is worth is what the hold of that sum in a sandbox is worth. -/
noncomputable def Tryd.pinned : Pinned := { name := "ytjhcemhnnkcjaaadoor", sum := "7ba717b0b51a9ef98281d36707b2b749c6f816b492bff5f5873751fe72aba6eb", checked := Tryd.checked }
namespace Rows
def none {H : Type} : Left H := { results := [], args := [] }

/- WHAT THE LISTED PACKAGE-LEVEL VARIABLES READ AS WHEN THE CALL BEGINS. Each datum BY PROGRAM (the guide's laid-datum.mjs) off the statement by which the dump's own 'gosem.cut.vars' lays the variable. In a bare row this is a premise. The card (YtjhcemhnnkcjaaaDoorCards.lean) ties it to the program's text. -/
def laid_math_bits_deBruijn32tab {H : Type} : DataW H := .agg [.lit (.int .u8 0), .lit (.int .u8 1), .lit (.int .u8 28), .lit (.int .u8 2), .lit (.int .u8 29), .lit (.int .u8 14), .lit (.int .u8 24), .lit (.int .u8 3), .lit (.int .u8 30), .lit (.int .u8 22), .lit (.int .u8 20), .lit (.int .u8 15), .lit (.int .u8 25), .lit (.int .u8 17), .lit (.int .u8 4), .lit (.int .u8 8), .lit (.int .u8 31), .lit (.int .u8 27), .lit (.int .u8 13), .lit (.int .u8 23), .lit (.int .u8 21), .lit (.int .u8 19), .lit (.int .u8 16), .lit (.int .u8 7), .lit (.int .u8 26), .lit (.int .u8 12), .lit (.int .u8 18), .lit (.int .u8 6), .lit (.int .u8 11), .lit (.int .u8 5), .lit (.int .u8 10), .lit (.int .u8 9)]
def laid_math_bits_deBruijn64tab {H : Type} : DataW H := .agg [.lit (.int .u8 0), .lit (.int .u8 1), .lit (.int .u8 56), .lit (.int .u8 2), .lit (.int .u8 57), .lit (.int .u8 49), .lit (.int .u8 28), .lit (.int .u8 3), .lit (.int .u8 61), .lit (.int .u8 58), .lit (.int .u8 42), .lit (.int .u8 50), .lit (.int .u8 38), .lit (.int .u8 29), .lit (.int .u8 17), .lit (.int .u8 4), .lit (.int .u8 62), .lit (.int .u8 47), .lit (.int .u8 59), .lit (.int .u8 36), .lit (.int .u8 45), .lit (.int .u8 43), .lit (.int .u8 51), .lit (.int .u8 22), .lit (.int .u8 53), .lit (.int .u8 39), .lit (.int .u8 33), .lit (.int .u8 30), .lit (.int .u8 24), .lit (.int .u8 18), .lit (.int .u8 12), .lit (.int .u8 5), .lit (.int .u8 63), .lit (.int .u8 55), .lit (.int .u8 48), .lit (.int .u8 27), .lit (.int .u8 60), .lit (.int .u8 41), .lit (.int .u8 37), .lit (.int .u8 16), .lit (.int .u8 46), .lit (.int .u8 35), .lit (.int .u8 44), .lit (.int .u8 21), .lit (.int .u8 52), .lit (.int .u8 32), .lit (.int .u8 23), .lit (.int .u8 11), .lit (.int .u8 54), .lit (.int .u8 26), .lit (.int .u8 40), .lit (.int .u8 15), .lit (.int .u8 34), .lit (.int .u8 20), .lit (.int .u8 31), .lit (.int .u8 10), .lit (.int .u8 25), .lit (.int .u8 14), .lit (.int .u8 19), .lit (.int .u8 9), .lit (.int .u8 13), .lit (.int .u8 8), .lit (.int .u8 7), .lit (.int .u8 6)]

/-- 'aigrettelaw03.ClaspNumbers': WHATEVER THE INPUT: true; the input reads as it did. -/
def claspNumbersSpec : ChangeSpec := { name := "claspNumbers", fn := fun _ => fun
  | [d1, d2, d3] => { results := [.lit (.bool true)], args := [d1, d2, d3] }
  | _ => none }
def claspNumbersRow : OpenClaim := { program := "ytjhcemhnnkcjaaadoor", sum := "7ba717b0b51a9ef98281d36707b2b749c6f816b492bff5f5873751fe72aba6eb", func := "aigrette/aigrettelaw03.ClaspNumbers", spec := "claspNumbers", named := ["math/bits.deBruijn32tab", "math/bits.deBruijn64tab"], plainKeys := false, apart := false, laid := [("math/bits.deBruijn32tab", laid_math_bits_deBruijn32tab), ("math/bits.deBruijn64tab", laid_math_bits_deBruijn64tab)] }
def ClaspNumbersSaid : Prop := claspNumbersRow.holds Tryd.pinned (OpenSpec.ofChange claspNumbersSpec)

/-- ITS FALSE NEIGHBOUR: 'it returns false'. Refute it at one input. -/
def claspNumbersWrong : ChangeSpec := { name := "claspNumbers", fn := fun _ => fun
  | [d1, d2, d3] => { results := [.lit (.bool false)], args := [d1, d2, d3] }
  | _ => none }
def ClaspNumbersWrongFalsely : Prop := claspNumbersRow.holds Tryd.pinned (OpenSpec.ofChange claspNumbersWrong)

/-- 'aigrettelaw03.ClaspWays': WHATEVER THE INPUT: true; the input reads as it did. -/
def claspWaysSpec : ChangeSpec := { name := "claspWays", fn := fun _ => fun
  | [d1, d2, d3] => { results := [.lit (.bool true)], args := [d1, d2, d3] }
  | _ => none }
def claspWaysRow : OpenClaim := { program := "ytjhcemhnnkcjaaadoor", sum := "7ba717b0b51a9ef98281d36707b2b749c6f816b492bff5f5873751fe72aba6eb", func := "aigrette/aigrettelaw03.ClaspWays", spec := "claspWays", named := ["math/bits.deBruijn32tab", "math/bits.deBruijn64tab"], plainKeys := false, apart := false, laid := [("math/bits.deBruijn32tab", laid_math_bits_deBruijn32tab), ("math/bits.deBruijn64tab", laid_math_bits_deBruijn64tab)] }
def ClaspWaysSaid : Prop := claspWaysRow.holds Tryd.pinned (OpenSpec.ofChange claspWaysSpec)

/-- ITS FALSE NEIGHBOUR: 'it returns false'. Refute it at one input. -/
def claspWaysWrong : ChangeSpec := { name := "claspWays", fn := fun _ => fun
  | [d1, d2, d3] => { results := [.lit (.bool false)], args := [d1, d2, d3] }
  | _ => none }
def ClaspWaysWrongFalsely : Prop := claspWaysRow.holds Tryd.pinned (OpenSpec.ofChange claspWaysWrong)

/-- 'aigrettelaw03.ClaspTimes': WHATEVER THE INPUT: true; the input reads as it did. -/
def claspTimesSpec : ChangeSpec := { name := "claspTimes", fn := fun _ => fun
  | [d1, d2, d3] => { results := [.lit (.bool true)], args := [d1, d2, d3] }
  | _ => none }
def claspTimesRow : OpenClaim := { program := "ytjhcemhnnkcjaaadoor", sum := "7ba717b0b51a9ef98281d36707b2b749c6f816b492bff5f5873751fe72aba6eb", func := "aigrette/aigrettelaw03.ClaspTimes", spec := "claspTimes", named := ["math/bits.deBruijn32tab", "math/bits.deBruijn64tab"], plainKeys := false, apart := false, laid := [("math/bits.deBruijn32tab", laid_math_bits_deBruijn32tab), ("math/bits.deBruijn64tab", laid_math_bits_deBruijn64tab)] }
def ClaspTimesSaid : Prop := claspTimesRow.holds Tryd.pinned (OpenSpec.ofChange claspTimesSpec)

/-- ITS FALSE NEIGHBOUR: 'it returns false'. Refute it at one input. -/
def claspTimesWrong : ChangeSpec := { name := "claspTimes", fn := fun _ => fun
  | [d1, d2, d3] => { results := [.lit (.bool false)], args := [d1, d2, d3] }
  | _ => none }
def ClaspTimesWrongFalsely : Prop := claspTimesRow.holds Tryd.pinned (OpenSpec.ofChange claspTimesWrong)

/-- 'aigrettelaw03.ClaspPairs': WHATEVER THE INPUT: true; the input reads as it did. -/
def claspPairsSpec : ChangeSpec := { name := "claspPairs", fn := fun _ => fun
  | [d] => { results := [.lit (.bool true)], args := [d] }
  | _ => none }
def claspPairsRow : OpenClaim := { program := "ytjhcemhnnkcjaaadoor", sum := "7ba717b0b51a9ef98281d36707b2b749c6f816b492bff5f5873751fe72aba6eb", func := "aigrette/aigrettelaw03.ClaspPairs", spec := "claspPairs", named := ["math/bits.deBruijn32tab", "math/bits.deBruijn64tab"], plainKeys := false, apart := false, laid := [("math/bits.deBruijn32tab", laid_math_bits_deBruijn32tab), ("math/bits.deBruijn64tab", laid_math_bits_deBruijn64tab)] }
def ClaspPairsSaid : Prop := claspPairsRow.holds Tryd.pinned (OpenSpec.ofChange claspPairsSpec)

/-- ITS FALSE NEIGHBOUR: 'it returns false'. Refute it at one input. -/
def claspPairsWrong : ChangeSpec := { name := "claspPairs", fn := fun _ => fun
  | [d] => { results := [.lit (.bool false)], args := [d] }
  | _ => none }
def ClaspPairsWrongFalsely : Prop := claspPairsRow.holds Tryd.pinned (OpenSpec.ofChange claspPairsWrong)

/-- 'aigrettelaw03.ClaspLine': WHATEVER THE INPUT: true; the input reads as it did. -/
def claspLineSpec : ChangeSpec := { name := "claspLine", fn := fun _ => fun
  | [d1, d2, d3] => { results := [.lit (.bool true)], args := [d1, d2, d3] }
  | _ => none }
def claspLineRow : OpenClaim := { program := "ytjhcemhnnkcjaaadoor", sum := "7ba717b0b51a9ef98281d36707b2b749c6f816b492bff5f5873751fe72aba6eb", func := "aigrette/aigrettelaw03.ClaspLine", spec := "claspLine", named := ["math/bits.deBruijn32tab", "math/bits.deBruijn64tab"], plainKeys := false, apart := false, laid := [("math/bits.deBruijn32tab", laid_math_bits_deBruijn32tab), ("math/bits.deBruijn64tab", laid_math_bits_deBruijn64tab)] }
def ClaspLineSaid : Prop := claspLineRow.holds Tryd.pinned (OpenSpec.ofChange claspLineSpec)

/-- ITS FALSE NEIGHBOUR: 'it returns false'. Refute it at one input. -/
def claspLineWrong : ChangeSpec := { name := "claspLine", fn := fun _ => fun
  | [d1, d2, d3] => { results := [.lit (.bool false)], args := [d1, d2, d3] }
  | _ => none }
def ClaspLineWrongFalsely : Prop := claspLineRow.holds Tryd.pinned (OpenSpec.ofChange claspLineWrong)

/-- 'aigrettelaw03.ClaspOpened': WHATEVER THE INPUT: true; the input reads as it did. -/
def claspOpenedSpec : ChangeSpec := { name := "claspOpened", fn := fun _ => fun
  | [d] => { results := [.lit (.bool true)], args := [d] }
  | _ => none }
def claspOpenedRow : OpenClaim := { program := "ytjhcemhnnkcjaaadoor", sum := "7ba717b0b51a9ef98281d36707b2b749c6f816b492bff5f5873751fe72aba6eb", func := "aigrette/aigrettelaw03.ClaspOpened", spec := "claspOpened", named := ["math/bits.deBruijn32tab", "math/bits.deBruijn64tab"], plainKeys := false, apart := false, laid := [("math/bits.deBruijn32tab", laid_math_bits_deBruijn32tab), ("math/bits.deBruijn64tab", laid_math_bits_deBruijn64tab)] }
def ClaspOpenedSaid : Prop := claspOpenedRow.holds Tryd.pinned (OpenSpec.ofChange claspOpenedSpec)

/-- ITS FALSE NEIGHBOUR: 'it returns false'. Refute it at one input. -/
def claspOpenedWrong : ChangeSpec := { name := "claspOpened", fn := fun _ => fun
  | [d] => { results := [.lit (.bool false)], args := [d] }
  | _ => none }
def ClaspOpenedWrongFalsely : Prop := claspOpenedRow.holds Tryd.pinned (OpenSpec.ofChange claspOpenedWrong)

/-- 'aigrettelaw03.ClaspWalked': WHATEVER THE INPUT: true; the input reads as it did. -/
def claspWalkedSpec : ChangeSpec := { name := "claspWalked", fn := fun _ => fun
  | [d1, d2, d3] => { results := [.lit (.bool true)], args := [d1, d2, d3] }
  | _ => none }
def claspWalkedRow : OpenClaim := { program := "ytjhcemhnnkcjaaadoor", sum := "7ba717b0b51a9ef98281d36707b2b749c6f816b492bff5f5873751fe72aba6eb", func := "aigrette/aigrettelaw03.ClaspWalked", spec := "claspWalked", named := ["math/bits.deBruijn32tab", "math/bits.deBruijn64tab"], plainKeys := false, apart := false, laid := [("math/bits.deBruijn32tab", laid_math_bits_deBruijn32tab), ("math/bits.deBruijn64tab", laid_math_bits_deBruijn64tab)] }
def ClaspWalkedSaid : Prop := claspWalkedRow.holds Tryd.pinned (OpenSpec.ofChange claspWalkedSpec)

/-- ITS FALSE NEIGHBOUR: 'it returns false'. Refute it at one input. -/
def claspWalkedWrong : ChangeSpec := { name := "claspWalked", fn := fun _ => fun
  | [d1, d2, d3] => { results := [.lit (.bool false)], args := [d1, d2, d3] }
  | _ => none }
def ClaspWalkedWrongFalsely : Prop := claspWalkedRow.holds Tryd.pinned (OpenSpec.ofChange claspWalkedWrong)

/-- 'aigrettelaw03.ClaspLeads': WHATEVER THE INPUT: true; the input reads as it did. -/
def claspLeadsSpec : ChangeSpec := { name := "claspLeads", fn := fun _ => fun
  | [d1, d2, d3, d4] => { results := [.lit (.bool true)], args := [d1, d2, d3, d4] }
  | _ => none }
def claspLeadsRow : OpenClaim := { program := "ytjhcemhnnkcjaaadoor", sum := "7ba717b0b51a9ef98281d36707b2b749c6f816b492bff5f5873751fe72aba6eb", func := "aigrette/aigrettelaw03.ClaspLeads", spec := "claspLeads", named := ["math/bits.deBruijn32tab", "math/bits.deBruijn64tab"], plainKeys := false, apart := false, laid := [("math/bits.deBruijn32tab", laid_math_bits_deBruijn32tab), ("math/bits.deBruijn64tab", laid_math_bits_deBruijn64tab)] }
def ClaspLeadsSaid : Prop := claspLeadsRow.holds Tryd.pinned (OpenSpec.ofChange claspLeadsSpec)

/-- ITS FALSE NEIGHBOUR: 'it returns false'. Refute it at one input. -/
def claspLeadsWrong : ChangeSpec := { name := "claspLeads", fn := fun _ => fun
  | [d1, d2, d3, d4] => { results := [.lit (.bool false)], args := [d1, d2, d3, d4] }
  | _ => none }
def ClaspLeadsWrongFalsely : Prop := claspLeadsRow.holds Tryd.pinned (OpenSpec.ofChange claspLeadsWrong)

/-- 'aigrettelaw03.ClaspTurns': WHATEVER THE INPUT: true; the input reads as it did. -/
def claspTurnsSpec : ChangeSpec := { name := "claspTurns", fn := fun _ => fun
  | [d1, d2, d3] => { results := [.lit (.bool true)], args := [d1, d2, d3] }
  | _ => none }
def claspTurnsRow : OpenClaim := { program := "ytjhcemhnnkcjaaadoor", sum := "7ba717b0b51a9ef98281d36707b2b749c6f816b492bff5f5873751fe72aba6eb", func := "aigrette/aigrettelaw03.ClaspTurns", spec := "claspTurns", named := ["math/bits.deBruijn32tab", "math/bits.deBruijn64tab"], plainKeys := false, apart := false, laid := [("math/bits.deBruijn32tab", laid_math_bits_deBruijn32tab), ("math/bits.deBruijn64tab", laid_math_bits_deBruijn64tab)] }
def ClaspTurnsSaid : Prop := claspTurnsRow.holds Tryd.pinned (OpenSpec.ofChange claspTurnsSpec)

/-- ITS FALSE NEIGHBOUR: 'it returns false'. Refute it at one input. -/
def claspTurnsWrong : ChangeSpec := { name := "claspTurns", fn := fun _ => fun
  | [d1, d2, d3] => { results := [.lit (.bool false)], args := [d1, d2, d3] }
  | _ => none }
def ClaspTurnsWrongFalsely : Prop := claspTurnsRow.holds Tryd.pinned (OpenSpec.ofChange claspTurnsWrong)

/-- 'aigrettelaw03.ClaspMoves': WHATEVER THE INPUT: true; the input reads as it did. -/
def claspMovesSpec : ChangeSpec := { name := "claspMoves", fn := fun _ => fun
  | [d1, d2] => { results := [.lit (.bool true)], args := [d1, d2] }
  | _ => none }
def claspMovesRow : OpenClaim := { program := "ytjhcemhnnkcjaaadoor", sum := "7ba717b0b51a9ef98281d36707b2b749c6f816b492bff5f5873751fe72aba6eb", func := "aigrette/aigrettelaw03.ClaspMoves", spec := "claspMoves", named := ["math/bits.deBruijn32tab", "math/bits.deBruijn64tab"], plainKeys := false, apart := false, laid := [("math/bits.deBruijn32tab", laid_math_bits_deBruijn32tab), ("math/bits.deBruijn64tab", laid_math_bits_deBruijn64tab)] }
def ClaspMovesSaid : Prop := claspMovesRow.holds Tryd.pinned (OpenSpec.ofChange claspMovesSpec)

/-- ITS FALSE NEIGHBOUR: 'it returns false'. Refute it at one input. -/
def claspMovesWrong : ChangeSpec := { name := "claspMoves", fn := fun _ => fun
  | [d1, d2] => { results := [.lit (.bool false)], args := [d1, d2] }
  | _ => none }
def ClaspMovesWrongFalsely : Prop := claspMovesRow.holds Tryd.pinned (OpenSpec.ofChange claspMovesWrong)

/-- 'aigrettelaw03.ClaspKnown': WHATEVER THE INPUT: true; the input reads as it did. -/
def claspKnownSpec : ChangeSpec := { name := "claspKnown", fn := fun _ => fun
  | [] => { results := [.lit (.bool true)], args := [] }
  | _ => none }
def claspKnownRow : OpenClaim := { program := "ytjhcemhnnkcjaaadoor", sum := "7ba717b0b51a9ef98281d36707b2b749c6f816b492bff5f5873751fe72aba6eb", func := "aigrette/aigrettelaw03.ClaspKnown", spec := "claspKnown", named := ["math/bits.deBruijn32tab", "math/bits.deBruijn64tab"], plainKeys := false, apart := false, laid := [("math/bits.deBruijn32tab", laid_math_bits_deBruijn32tab), ("math/bits.deBruijn64tab", laid_math_bits_deBruijn64tab)] }
def ClaspKnownSaid : Prop := claspKnownRow.holds Tryd.pinned (OpenSpec.ofChange claspKnownSpec)

/-- ITS FALSE NEIGHBOUR: 'it returns false'. Refute it at one input. -/
def claspKnownWrong : ChangeSpec := { name := "claspKnown", fn := fun _ => fun
  | [] => { results := [.lit (.bool false)], args := [] }
  | _ => none }
def ClaspKnownWrongFalsely : Prop := claspKnownRow.holds Tryd.pinned (OpenSpec.ofChange claspKnownWrong)

/- THE SECOND FORM. 'bulk': how many values and letters a reading holds, each counted each time it is reached (what is shared counts as often as it is met; a slice's spare places count too). A statement '..UptoSaid' is the law's where the arguments, and the package variables that the reading takes, are together of bulk at most 1048576: NARROWER than '..Said'. Prove '..Said' where nothing that the law and all that it calls make is longer than what came in: it says more and counts as full. Else prove '..UptoSaid'. A law counts once. -/
mutual
def uptoBulk {H : Type} : DataW H → Nat
  | .lit (.string bytes) => bytes.length + 1
  | .lit _ => 1
  | .nil => 1
  | .ptr d => uptoBulk d + 1
  | .slice elems spare => uptoBulkAll elems + uptoBulkAll spare + 1
  | .agg parts => uptoBulkAll parts + 1
  | .iface _ d => uptoBulk d + 1
  | .map entries => uptoBulkEntries entries + 1
  | .held _ => 1
def uptoBulkAll {H : Type} : List (DataW H) → Nat
  | [] => 0
  | d :: r => uptoBulk d + uptoBulkAll r
def uptoBulkEntries {H : Type} : List (Lit × DataW H) → Nat
  | [] => 0
  | x :: r => uptoBulkEntry x + uptoBulkEntries r
def uptoBulkEntry {H : Type} : Lit × DataW H → Nat
  | (.string bytes, d) => bytes.length + uptoBulk d + 1
  | (_, d) => uptoBulk d + 1
 end
def uptoSmall : (H : Type) → List (DataW H) → Bool := fun _ ds => decide (uptoBulkAll ds ≤ 1048576)
def OpenSpec.upto (s : _root_.Go.ChangeSpec) : _root_.Go.OpenSpec := { _root_.Go.OpenSpec.ofChange s with cond := some uptoSmall }

/-- 'aigrettelaw03.ClaspNumbers', WHERE WHAT IT READS IS OF BULK AT MOST 1048576: true; the input reads as it did. -/
def claspNumbersUptoRow : OpenClaim := { program := "ytjhcemhnnkcjaaadoor", sum := "7ba717b0b51a9ef98281d36707b2b749c6f816b492bff5f5873751fe72aba6eb", func := "aigrette/aigrettelaw03.ClaspNumbers", spec := "claspNumbers", named := ["math/bits.deBruijn32tab", "math/bits.deBruijn64tab"], plainKeys := false, apart := false, laid := [("math/bits.deBruijn32tab", laid_math_bits_deBruijn32tab), ("math/bits.deBruijn64tab", laid_math_bits_deBruijn64tab)], narrowed := true }
def ClaspNumbersUptoSaid : Prop := claspNumbersUptoRow.holds Tryd.pinned (OpenSpec.upto claspNumbersSpec)

/-- 'aigrettelaw03.ClaspWays', WHERE WHAT IT READS IS OF BULK AT MOST 1048576: true; the input reads as it did. -/
def claspWaysUptoRow : OpenClaim := { program := "ytjhcemhnnkcjaaadoor", sum := "7ba717b0b51a9ef98281d36707b2b749c6f816b492bff5f5873751fe72aba6eb", func := "aigrette/aigrettelaw03.ClaspWays", spec := "claspWays", named := ["math/bits.deBruijn32tab", "math/bits.deBruijn64tab"], plainKeys := false, apart := false, laid := [("math/bits.deBruijn32tab", laid_math_bits_deBruijn32tab), ("math/bits.deBruijn64tab", laid_math_bits_deBruijn64tab)], narrowed := true }
def ClaspWaysUptoSaid : Prop := claspWaysUptoRow.holds Tryd.pinned (OpenSpec.upto claspWaysSpec)

/-- 'aigrettelaw03.ClaspTimes', WHERE WHAT IT READS IS OF BULK AT MOST 1048576: true; the input reads as it did. -/
def claspTimesUptoRow : OpenClaim := { program := "ytjhcemhnnkcjaaadoor", sum := "7ba717b0b51a9ef98281d36707b2b749c6f816b492bff5f5873751fe72aba6eb", func := "aigrette/aigrettelaw03.ClaspTimes", spec := "claspTimes", named := ["math/bits.deBruijn32tab", "math/bits.deBruijn64tab"], plainKeys := false, apart := false, laid := [("math/bits.deBruijn32tab", laid_math_bits_deBruijn32tab), ("math/bits.deBruijn64tab", laid_math_bits_deBruijn64tab)], narrowed := true }
def ClaspTimesUptoSaid : Prop := claspTimesUptoRow.holds Tryd.pinned (OpenSpec.upto claspTimesSpec)

/-- 'aigrettelaw03.ClaspPairs', WHERE WHAT IT READS IS OF BULK AT MOST 1048576: true; the input reads as it did. -/
def claspPairsUptoRow : OpenClaim := { program := "ytjhcemhnnkcjaaadoor", sum := "7ba717b0b51a9ef98281d36707b2b749c6f816b492bff5f5873751fe72aba6eb", func := "aigrette/aigrettelaw03.ClaspPairs", spec := "claspPairs", named := ["math/bits.deBruijn32tab", "math/bits.deBruijn64tab"], plainKeys := false, apart := false, laid := [("math/bits.deBruijn32tab", laid_math_bits_deBruijn32tab), ("math/bits.deBruijn64tab", laid_math_bits_deBruijn64tab)], narrowed := true }
def ClaspPairsUptoSaid : Prop := claspPairsUptoRow.holds Tryd.pinned (OpenSpec.upto claspPairsSpec)

/-- 'aigrettelaw03.ClaspLine', WHERE WHAT IT READS IS OF BULK AT MOST 1048576: true; the input reads as it did. -/
def claspLineUptoRow : OpenClaim := { program := "ytjhcemhnnkcjaaadoor", sum := "7ba717b0b51a9ef98281d36707b2b749c6f816b492bff5f5873751fe72aba6eb", func := "aigrette/aigrettelaw03.ClaspLine", spec := "claspLine", named := ["math/bits.deBruijn32tab", "math/bits.deBruijn64tab"], plainKeys := false, apart := false, laid := [("math/bits.deBruijn32tab", laid_math_bits_deBruijn32tab), ("math/bits.deBruijn64tab", laid_math_bits_deBruijn64tab)], narrowed := true }
def ClaspLineUptoSaid : Prop := claspLineUptoRow.holds Tryd.pinned (OpenSpec.upto claspLineSpec)

/-- 'aigrettelaw03.ClaspOpened', WHERE WHAT IT READS IS OF BULK AT MOST 1048576: true; the input reads as it did. -/
def claspOpenedUptoRow : OpenClaim := { program := "ytjhcemhnnkcjaaadoor", sum := "7ba717b0b51a9ef98281d36707b2b749c6f816b492bff5f5873751fe72aba6eb", func := "aigrette/aigrettelaw03.ClaspOpened", spec := "claspOpened", named := ["math/bits.deBruijn32tab", "math/bits.deBruijn64tab"], plainKeys := false, apart := false, laid := [("math/bits.deBruijn32tab", laid_math_bits_deBruijn32tab), ("math/bits.deBruijn64tab", laid_math_bits_deBruijn64tab)], narrowed := true }
def ClaspOpenedUptoSaid : Prop := claspOpenedUptoRow.holds Tryd.pinned (OpenSpec.upto claspOpenedSpec)

/-- 'aigrettelaw03.ClaspWalked', WHERE WHAT IT READS IS OF BULK AT MOST 1048576: true; the input reads as it did. -/
def claspWalkedUptoRow : OpenClaim := { program := "ytjhcemhnnkcjaaadoor", sum := "7ba717b0b51a9ef98281d36707b2b749c6f816b492bff5f5873751fe72aba6eb", func := "aigrette/aigrettelaw03.ClaspWalked", spec := "claspWalked", named := ["math/bits.deBruijn32tab", "math/bits.deBruijn64tab"], plainKeys := false, apart := false, laid := [("math/bits.deBruijn32tab", laid_math_bits_deBruijn32tab), ("math/bits.deBruijn64tab", laid_math_bits_deBruijn64tab)], narrowed := true }
def ClaspWalkedUptoSaid : Prop := claspWalkedUptoRow.holds Tryd.pinned (OpenSpec.upto claspWalkedSpec)

/-- 'aigrettelaw03.ClaspLeads', WHERE WHAT IT READS IS OF BULK AT MOST 1048576: true; the input reads as it did. -/
def claspLeadsUptoRow : OpenClaim := { program := "ytjhcemhnnkcjaaadoor", sum := "7ba717b0b51a9ef98281d36707b2b749c6f816b492bff5f5873751fe72aba6eb", func := "aigrette/aigrettelaw03.ClaspLeads", spec := "claspLeads", named := ["math/bits.deBruijn32tab", "math/bits.deBruijn64tab"], plainKeys := false, apart := false, laid := [("math/bits.deBruijn32tab", laid_math_bits_deBruijn32tab), ("math/bits.deBruijn64tab", laid_math_bits_deBruijn64tab)], narrowed := true }
def ClaspLeadsUptoSaid : Prop := claspLeadsUptoRow.holds Tryd.pinned (OpenSpec.upto claspLeadsSpec)

/-- 'aigrettelaw03.ClaspTurns', WHERE WHAT IT READS IS OF BULK AT MOST 1048576: true; the input reads as it did. -/
def claspTurnsUptoRow : OpenClaim := { program := "ytjhcemhnnkcjaaadoor", sum := "7ba717b0b51a9ef98281d36707b2b749c6f816b492bff5f5873751fe72aba6eb", func := "aigrette/aigrettelaw03.ClaspTurns", spec := "claspTurns", named := ["math/bits.deBruijn32tab", "math/bits.deBruijn64tab"], plainKeys := false, apart := false, laid := [("math/bits.deBruijn32tab", laid_math_bits_deBruijn32tab), ("math/bits.deBruijn64tab", laid_math_bits_deBruijn64tab)], narrowed := true }
def ClaspTurnsUptoSaid : Prop := claspTurnsUptoRow.holds Tryd.pinned (OpenSpec.upto claspTurnsSpec)

/-- 'aigrettelaw03.ClaspMoves', WHERE WHAT IT READS IS OF BULK AT MOST 1048576: true; the input reads as it did. -/
def claspMovesUptoRow : OpenClaim := { program := "ytjhcemhnnkcjaaadoor", sum := "7ba717b0b51a9ef98281d36707b2b749c6f816b492bff5f5873751fe72aba6eb", func := "aigrette/aigrettelaw03.ClaspMoves", spec := "claspMoves", named := ["math/bits.deBruijn32tab", "math/bits.deBruijn64tab"], plainKeys := false, apart := false, laid := [("math/bits.deBruijn32tab", laid_math_bits_deBruijn32tab), ("math/bits.deBruijn64tab", laid_math_bits_deBruijn64tab)], narrowed := true }
def ClaspMovesUptoSaid : Prop := claspMovesUptoRow.holds Tryd.pinned (OpenSpec.upto claspMovesSpec)

/-- 'aigrettelaw03.ClaspKnown', WHERE WHAT IT READS IS OF BULK AT MOST 1048576: true; the input reads as it did. -/
def claspKnownUptoRow : OpenClaim := { program := "ytjhcemhnnkcjaaadoor", sum := "7ba717b0b51a9ef98281d36707b2b749c6f816b492bff5f5873751fe72aba6eb", func := "aigrette/aigrettelaw03.ClaspKnown", spec := "claspKnown", named := ["math/bits.deBruijn32tab", "math/bits.deBruijn64tab"], plainKeys := false, apart := false, laid := [("math/bits.deBruijn32tab", laid_math_bits_deBruijn32tab), ("math/bits.deBruijn64tab", laid_math_bits_deBruijn64tab)], narrowed := true }
def ClaspKnownUptoSaid : Prop := claspKnownUptoRow.holds Tryd.pinned (OpenSpec.upto claspKnownSpec)

end Rows
end Go.Proofs.YtjhcemhnnkcjaaaDoor
