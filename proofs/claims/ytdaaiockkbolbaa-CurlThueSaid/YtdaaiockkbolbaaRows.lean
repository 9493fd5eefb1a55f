/-
  No cell of these rows narrows 'for every input' (looked for: loops, veiled, ifaces, maps, wideKeys, modest, calm, conditions, laid).
  DERIVED. THE GIVEN ROWS OF THIS SEAT. 9 by the template 'for every input the law returns true; each argument reads behind the call as it read before'; 0 by the template 'total and deterministic' (their statements: YtdaaiockkbolbaaTotals.lean).
  GIVEN WITH THE SEED: the statements are not yours to turn. If you find one false, say at which input.
  Laid BY PROGRAM, IN A SANDBOX (cutbox-rows.mjs): the forced cells as the released guide's own fill.sh prints them over the translation 03395bbfea1624a2… (all of the seat's roots in one cut). By AI agents, Wed Nov 11 2026. No macro, syntax, notation, axiom, sorry.
-/
import Derived.Test.YtdaaiockkbolbaaChecked
import GoSem.Claim
import GoSem.ClaimJoined
import GoSem.ClaimMapViews
import Derived.JoinedTies
import Derived.KernelRfl
namespace Go.Proofs.Ytdaaiockkbolbaa
/- THE CELL 'sum', in the pinned program and in every row, IS THE sha256 OF THE DUMP (.gsa) THAT YtdaaiockkbolbaaProg.lean LOADS. Nothing in Lean hashes anything: it is a label: what it is worth is what the hold of that sum in a sandbox is worth. -/
noncomputable def Try.pinned : Pinned := { name := "ytdaaiockkbolbaa", sum := "03395bbfea1624a263bb8f688039ac55d1aecbf9ce9fe266155683e2c69b9fe2", checked := Try.checked }
namespace Rows
def none {H : Type} : Left H := { results := [], args := [] }

/-- 'aigrettelaw07.CurlRepeats': WHATEVER THE INPUT: true; the input reads as it did. -/
def curlRepeatsSpec : ChangeSpec := { name := "curlRepeats", fn := fun _ => fun
  | [d] => { results := [.lit (.bool true)], args := [d] }
  | _ => none }
def curlRepeatsRow : OpenClaim := { program := "ytdaaiockkbolbaa", sum := "03395bbfea1624a263bb8f688039ac55d1aecbf9ce9fe266155683e2c69b9fe2", func := "aigrette/aigrettelaw07.CurlRepeats", spec := "curlRepeats", inPlace := ["internal/bytealg.IndexByteString", "internal/bytealg.IndexString", "internal/abi.NoEscape"], unfollowed := true, recurses := true, named := ["internal/bytealg.MaxLen"], apart := false }
def CurlRepeatsSaid : Prop := curlRepeatsRow.holds Try.pinned (OpenSpec.ofChange curlRepeatsSpec)

/-- ITS FALSE NEIGHBOUR: 'it returns false'. Refute it at one input. -/
def curlRepeatsWrong : ChangeSpec := { name := "curlRepeats", fn := fun _ => fun
  | [d] => { results := [.lit (.bool false)], args := [d] }
  | _ => none }
def CurlRepeatsWrongFalsely : Prop := curlRepeatsRow.holds Try.pinned (OpenSpec.ofChange curlRepeatsWrong)

/-- 'aigrettelaw07.CurlLonger': WHATEVER THE INPUT: true; the input reads as it did. -/
def curlLongerSpec : ChangeSpec := { name := "curlLonger", fn := fun _ => fun
  | [d1, d2, d3] => { results := [.lit (.bool true)], args := [d1, d2, d3] }
  | _ => none }
def curlLongerRow : OpenClaim := { program := "ytdaaiockkbolbaa", sum := "03395bbfea1624a263bb8f688039ac55d1aecbf9ce9fe266155683e2c69b9fe2", func := "aigrette/aigrettelaw07.CurlLonger", spec := "curlLonger", inPlace := ["internal/bytealg.IndexByteString", "internal/bytealg.IndexString", "internal/abi.NoEscape"], unfollowed := true, recurses := true, named := ["internal/bytealg.MaxLen"], apart := false }
def CurlLongerSaid : Prop := curlLongerRow.holds Try.pinned (OpenSpec.ofChange curlLongerSpec)

/-- ITS FALSE NEIGHBOUR: 'it returns false'. Refute it at one input. -/
def curlLongerWrong : ChangeSpec := { name := "curlLonger", fn := fun _ => fun
  | [d1, d2, d3] => { results := [.lit (.bool false)], args := [d1, d2, d3] }
  | _ => none }
def CurlLongerWrongFalsely : Prop := curlLongerRow.holds Try.pinned (OpenSpec.ofChange curlLongerWrong)

/-- 'aigrettelaw07.CurlRules': WHATEVER THE INPUT: true; the input reads as it did. -/
def curlRulesSpec : ChangeSpec := { name := "curlRules", fn := fun _ => fun
  | [d1, d2] => { results := [.lit (.bool true)], args := [d1, d2] }
  | _ => none }
def curlRulesRow : OpenClaim := { program := "ytdaaiockkbolbaa", sum := "03395bbfea1624a263bb8f688039ac55d1aecbf9ce9fe266155683e2c69b9fe2", func := "aigrette/aigrettelaw07.CurlRules", spec := "curlRules", inPlace := ["internal/bytealg.IndexByteString", "internal/bytealg.IndexString", "internal/abi.NoEscape"], unfollowed := true, recurses := true, named := ["internal/bytealg.MaxLen"], apart := false }
def CurlRulesSaid : Prop := curlRulesRow.holds Try.pinned (OpenSpec.ofChange curlRulesSpec)

/-- ITS FALSE NEIGHBOUR: 'it returns false'. Refute it at one input. -/
def curlRulesWrong : ChangeSpec := { name := "curlRules", fn := fun _ => fun
  | [d1, d2] => { results := [.lit (.bool false)], args := [d1, d2] }
  | _ => none }
def CurlRulesWrongFalsely : Prop := curlRulesRow.holds Try.pinned (OpenSpec.ofChange curlRulesWrong)

/-- 'aigrettelaw07.CurlGrows': WHATEVER THE INPUT: true; the input reads as it did. -/
def curlGrowsSpec : ChangeSpec := { name := "curlGrows", fn := fun _ => fun
  | [d1, d2, d3] => { results := [.lit (.bool true)], args := [d1, d2, d3] }
  | _ => none }
def curlGrowsRow : OpenClaim := { program := "ytdaaiockkbolbaa", sum := "03395bbfea1624a263bb8f688039ac55d1aecbf9ce9fe266155683e2c69b9fe2", func := "aigrette/aigrettelaw07.CurlGrows", spec := "curlGrows", inPlace := ["internal/bytealg.IndexByteString", "internal/bytealg.IndexString", "internal/abi.NoEscape"], unfollowed := true, recurses := true, named := ["internal/bytealg.MaxLen"], apart := false }
def CurlGrowsSaid : Prop := curlGrowsRow.holds Try.pinned (OpenSpec.ofChange curlGrowsSpec)

/-- ITS FALSE NEIGHBOUR: 'it returns false'. Refute it at one input. -/
def curlGrowsWrong : ChangeSpec := { name := "curlGrows", fn := fun _ => fun
  | [d1, d2, d3] => { results := [.lit (.bool false)], args := [d1, d2, d3] }
  | _ => none }
def CurlGrowsWrongFalsely : Prop := curlGrowsRow.holds Try.pinned (OpenSpec.ofChange curlGrowsWrong)

/-- 'aigrettelaw07.CurlFound': WHATEVER THE INPUT: true; the input reads as it did. -/
def curlFoundSpec : ChangeSpec := { name := "curlFound", fn := fun _ => fun
  | [d1, d2] => { results := [.lit (.bool true)], args := [d1, d2] }
  | _ => none }
def curlFoundRow : OpenClaim := { program := "ytdaaiockkbolbaa", sum := "03395bbfea1624a263bb8f688039ac55d1aecbf9ce9fe266155683e2c69b9fe2", func := "aigrette/aigrettelaw07.CurlFound", spec := "curlFound", inPlace := ["internal/bytealg.IndexByteString", "internal/bytealg.IndexString", "internal/abi.NoEscape"], unfollowed := true, recurses := true, named := ["internal/bytealg.MaxLen"], apart := false }
def CurlFoundSaid : Prop := curlFoundRow.holds Try.pinned (OpenSpec.ofChange curlFoundSpec)

/-- ITS FALSE NEIGHBOUR: 'it returns false'. Refute it at one input. -/
def curlFoundWrong : ChangeSpec := { name := "curlFound", fn := fun _ => fun
  | [d1, d2] => { results := [.lit (.bool false)], args := [d1, d2] }
  | _ => none }
def CurlFoundWrongFalsely : Prop := curlFoundRow.holds Try.pinned (OpenSpec.ofChange curlFoundWrong)

/-- 'aigrettelaw07.CurlContinued': WHATEVER THE INPUT: true; the input reads as it did. -/
def curlContinuedSpec : ChangeSpec := { name := "curlContinued", fn := fun _ => fun
  | [d1, d2, d3] => { results := [.lit (.bool true)], args := [d1, d2, d3] }
  | _ => none }
def curlContinuedRow : OpenClaim := { program := "ytdaaiockkbolbaa", sum := "03395bbfea1624a263bb8f688039ac55d1aecbf9ce9fe266155683e2c69b9fe2", func := "aigrette/aigrettelaw07.CurlContinued", spec := "curlContinued", inPlace := ["internal/bytealg.IndexByteString", "internal/bytealg.IndexString", "internal/abi.NoEscape"], unfollowed := true, recurses := true, named := ["internal/bytealg.MaxLen"], apart := false }
def CurlContinuedSaid : Prop := curlContinuedRow.holds Try.pinned (OpenSpec.ofChange curlContinuedSpec)

/-- ITS FALSE NEIGHBOUR: 'it returns false'. Refute it at one input. -/
def curlContinuedWrong : ChangeSpec := { name := "curlContinued", fn := fun _ => fun
  | [d1, d2, d3] => { results := [.lit (.bool false)], args := [d1, d2, d3] }
  | _ => none }
def CurlContinuedWrongFalsely : Prop := curlContinuedRow.holds Try.pinned (OpenSpec.ofChange curlContinuedWrong)

/-- 'aigrettelaw07.CurlCounted': WHATEVER THE INPUT: true; the input reads as it did. -/
def curlCountedSpec : ChangeSpec := { name := "curlCounted", fn := fun _ => fun
  | [d1, d2] => { results := [.lit (.bool true)], args := [d1, d2] }
  | _ => none }
def curlCountedRow : OpenClaim := { program := "ytdaaiockkbolbaa", sum := "03395bbfea1624a263bb8f688039ac55d1aecbf9ce9fe266155683e2c69b9fe2", func := "aigrette/aigrettelaw07.CurlCounted", spec := "curlCounted", inPlace := ["internal/bytealg.IndexByteString", "internal/bytealg.IndexString", "internal/abi.NoEscape"], unfollowed := true, recurses := true, named := ["internal/bytealg.MaxLen"], apart := false }
def CurlCountedSaid : Prop := curlCountedRow.holds Try.pinned (OpenSpec.ofChange curlCountedSpec)

/-- ITS FALSE NEIGHBOUR: 'it returns false'. Refute it at one input. -/
def curlCountedWrong : ChangeSpec := { name := "curlCounted", fn := fun _ => fun
  | [d1, d2] => { results := [.lit (.bool false)], args := [d1, d2] }
  | _ => none }
def CurlCountedWrongFalsely : Prop := curlCountedRow.holds Try.pinned (OpenSpec.ofChange curlCountedWrong)

/-- 'aigrettelaw07.CurlKnown': WHATEVER THE INPUT: true; the input reads as it did. -/
def curlKnownSpec : ChangeSpec := { name := "curlKnown", fn := fun _ => fun
  | [] => { results := [.lit (.bool true)], args := [] }
  | _ => none }
def curlKnownRow : OpenClaim := { program := "ytdaaiockkbolbaa", sum := "03395bbfea1624a263bb8f688039ac55d1aecbf9ce9fe266155683e2c69b9fe2", func := "aigrette/aigrettelaw07.CurlKnown", spec := "curlKnown", inPlace := ["internal/bytealg.IndexByteString", "internal/bytealg.IndexString", "internal/abi.NoEscape"], unfollowed := true, recurses := true, named := ["internal/bytealg.MaxLen"], apart := false }
def CurlKnownSaid : Prop := curlKnownRow.holds Try.pinned (OpenSpec.ofChange curlKnownSpec)

/-- ITS FALSE NEIGHBOUR: 'it returns false'. Refute it at one input. -/
def curlKnownWrong : ChangeSpec := { name := "curlKnown", fn := fun _ => fun
  | [] => { results := [.lit (.bool false)], args := [] }
  | _ => none }
def CurlKnownWrongFalsely : Prop := curlKnownRow.holds Try.pinned (OpenSpec.ofChange curlKnownWrong)

/-- 'aigrettelaw07.CurlThue': WHATEVER THE INPUT: true; the input reads as it did. -/
def curlThueSpec : ChangeSpec := { name := "curlThue", fn := fun _ => fun
  | [d] => { results := [.lit (.bool true)], args := [d] }
  | _ => none }
def curlThueRow : OpenClaim := { program := "ytdaaiockkbolbaa", sum := "03395bbfea1624a263bb8f688039ac55d1aecbf9ce9fe266155683e2c69b9fe2", func := "aigrette/aigrettelaw07.CurlThue", spec := "curlThue", inPlace := ["internal/abi.NoEscape", "internal/bytealg.MakeNoZero", "internal/bytealg.IndexByteString", "internal/bytealg.IndexString"], unfollowed := true, recurses := true, named := ["internal/bytealg.MaxLen"], apart := false }
def CurlThueSaid : Prop := curlThueRow.holds Try.pinned (OpenSpec.ofChange curlThueSpec)

/-- ITS FALSE NEIGHBOUR: 'it returns false'. Refute it at one input. -/
def curlThueWrong : ChangeSpec := { name := "curlThue", fn := fun _ => fun
  | [d] => { results := [.lit (.bool false)], args := [d] }
  | _ => none }
def CurlThueWrongFalsely : Prop := curlThueRow.holds Try.pinned (OpenSpec.ofChange curlThueWrong)

/- THE SECOND FORM. 'bulk': how many values and letters a reading holds, each counted each time it is reached (what is shared counts as often as it is met; a slice's spare places count too). A statement '..UptoSaid' is the law's where the arguments, and the package variables that the reading takes, are together of bulk at most 1048576: NARROWER than '..Said'. Prove '..Said' where nothing that the law and all that it calls make is longer than what came in: it says more and counts as full. Else prove '..UptoSaid'. A law counts once. -/
mutual
def uptoBulk {H : Type} : DataW H → Nat
  | .lit (.string bytes) => bytes.length + 1
  | .lit _ => 1
  | .nil => 1
  | .ptr d => uptoBulk d + 1
  | .slice elems spare => uptoBulkAll elems + uptoBulkAll spare + 1
  | .agg parts => uptoBulkAll parts + 1
  | .iface _ d => uptoBulk d + 1
  | .map entries => uptoBulkEntries entries + 1
  | .held _ => 1
def uptoBulkAll {H : Type} : List (DataW H) → Nat
  | [] => 0
  | d :: r => uptoBulk d + uptoBulkAll r
def uptoBulkEntries {H : Type} : List (Lit × DataW H) → Nat
  | [] => 0
  | x :: r => uptoBulkEntry x + uptoBulkEntries r
def uptoBulkEntry {H : Type} : Lit × DataW H → Nat
  | (.string bytes, d) => bytes.length + uptoBulk d + 1
  | (_, d) => uptoBulk d + 1
 end
def uptoSmall : (H : Type) → List (DataW H) → Bool := fun _ ds => decide (uptoBulkAll ds ≤ 1048576)
def OpenSpec.upto (s : _root_.Go.ChangeSpec) : _root_.Go.OpenSpec := { _root_.Go.OpenSpec.ofChange s with cond := some uptoSmall }

/-- 'aigrettelaw07.CurlRepeats', WHERE WHAT IT READS IS OF BULK AT MOST 1048576: true; the input reads as it did. -/
def curlRepeatsUptoRow : OpenClaim := { program := "ytdaaiockkbolbaa", sum := "03395bbfea1624a263bb8f688039ac55d1aecbf9ce9fe266155683e2c69b9fe2", func := "aigrette/aigrettelaw07.CurlRepeats", spec := "curlRepeats", inPlace := ["internal/bytealg.IndexByteString", "internal/bytealg.IndexString", "internal/abi.NoEscape"], unfollowed := true, recurses := true, named := ["internal/bytealg.MaxLen"], apart := false, narrowed := true }
def CurlRepeatsUptoSaid : Prop := curlRepeatsUptoRow.holds Try.pinned (OpenSpec.upto curlRepeatsSpec)

/-- 'aigrettelaw07.CurlLonger', WHERE WHAT IT READS IS OF BULK AT MOST 1048576: true; the input reads as it did. -/
def curlLongerUptoRow : OpenClaim := { program := "ytdaaiockkbolbaa", sum := "03395bbfea1624a263bb8f688039ac55d1aecbf9ce9fe266155683e2c69b9fe2", func := "aigrette/aigrettelaw07.CurlLonger", spec := "curlLonger", inPlace := ["internal/bytealg.IndexByteString", "internal/bytealg.IndexString", "internal/abi.NoEscape"], unfollowed := true, recurses := true, named := ["internal/bytealg.MaxLen"], apart := false, narrowed := true }
def CurlLongerUptoSaid : Prop := curlLongerUptoRow.holds Try.pinned (OpenSpec.upto curlLongerSpec)

/-- 'aigrettelaw07.CurlRules', WHERE WHAT IT READS IS OF BULK AT MOST 1048576: true; the input reads as it did. -/
def curlRulesUptoRow : OpenClaim := { program := "ytdaaiockkbolbaa", sum := "03395bbfea1624a263bb8f688039ac55d1aecbf9ce9fe266155683e2c69b9fe2", func := "aigrette/aigrettelaw07.CurlRules", spec := "curlRules", inPlace := ["internal/bytealg.IndexByteString", "internal/bytealg.IndexString", "internal/abi.NoEscape"], unfollowed := true, recurses := true, named := ["internal/bytealg.MaxLen"], apart := false, narrowed := true }
def CurlRulesUptoSaid : Prop := curlRulesUptoRow.holds Try.pinned (OpenSpec.upto curlRulesSpec)

/-- 'aigrettelaw07.CurlGrows', WHERE WHAT IT READS IS OF BULK AT MOST 1048576: true; the input reads as it did. -/
def curlGrowsUptoRow : OpenClaim := { program := "ytdaaiockkbolbaa", sum := "03395bbfea1624a263bb8f688039ac55d1aecbf9ce9fe266155683e2c69b9fe2", func := "aigrette/aigrettelaw07.CurlGrows", spec := "curlGrows", inPlace := ["internal/bytealg.IndexByteString", "internal/bytealg.IndexString", "internal/abi.NoEscape"], unfollowed := true, recurses := true, named := ["internal/bytealg.MaxLen"], apart := false, narrowed := true }
def CurlGrowsUptoSaid : Prop := curlGrowsUptoRow.holds Try.pinned (OpenSpec.upto curlGrowsSpec)

/-- 'aigrettelaw07.CurlFound', WHERE WHAT IT READS IS OF BULK AT MOST 1048576: true; the input reads as it did. -/
def curlFoundUptoRow : OpenClaim := { program := "ytdaaiockkbolbaa", sum := "03395bbfea1624a263bb8f688039ac55d1aecbf9ce9fe266155683e2c69b9fe2", func := "aigrette/aigrettelaw07.CurlFound", spec := "curlFound", inPlace := ["internal/bytealg.IndexByteString", "internal/bytealg.IndexString", "internal/abi.NoEscape"], unfollowed := true, recurses := true, named := ["internal/bytealg.MaxLen"], apart := false, narrowed := true }
def CurlFoundUptoSaid : Prop := curlFoundUptoRow.holds Try.pinned (OpenSpec.upto curlFoundSpec)

/-- 'aigrettelaw07.CurlContinued', WHERE WHAT IT READS IS OF BULK AT MOST 1048576: true; the input reads as it did. -/
def curlContinuedUptoRow : OpenClaim := { program := "ytdaaiockkbolbaa", sum := "03395bbfea1624a263bb8f688039ac55d1aecbf9ce9fe266155683e2c69b9fe2", func := "aigrette/aigrettelaw07.CurlContinued", spec := "curlContinued", inPlace := ["internal/bytealg.IndexByteString", "internal/bytealg.IndexString", "internal/abi.NoEscape"], unfollowed := true, recurses := true, named := ["internal/bytealg.MaxLen"], apart := false, narrowed := true }
def CurlContinuedUptoSaid : Prop := curlContinuedUptoRow.holds Try.pinned (OpenSpec.upto curlContinuedSpec)

/-- 'aigrettelaw07.CurlCounted', WHERE WHAT IT READS IS OF BULK AT MOST 1048576: true; the input reads as it did. -/
def curlCountedUptoRow : OpenClaim := { program := "ytdaaiockkbolbaa", sum := "03395bbfea1624a263bb8f688039ac55d1aecbf9ce9fe266155683e2c69b9fe2", func := "aigrette/aigrettelaw07.CurlCounted", spec := "curlCounted", inPlace := ["internal/bytealg.IndexByteString", "internal/bytealg.IndexString", "internal/abi.NoEscape"], unfollowed := true, recurses := true, named := ["internal/bytealg.MaxLen"], apart := false, narrowed := true }
def CurlCountedUptoSaid : Prop := curlCountedUptoRow.holds Try.pinned (OpenSpec.upto curlCountedSpec)

/-- 'aigrettelaw07.CurlKnown', WHERE WHAT IT READS IS OF BULK AT MOST 1048576: true; the input reads as it did. -/
def curlKnownUptoRow : OpenClaim := { program := "ytdaaiockkbolbaa", sum := "03395bbfea1624a263bb8f688039ac55d1aecbf9ce9fe266155683e2c69b9fe2", func := "aigrette/aigrettelaw07.CurlKnown", spec := "curlKnown", inPlace := ["internal/bytealg.IndexByteString", "internal/bytealg.IndexString", "internal/abi.NoEscape"], unfollowed := true, recurses := true, named := ["internal/bytealg.MaxLen"], apart := false, narrowed := true }
def CurlKnownUptoSaid : Prop := curlKnownUptoRow.holds Try.pinned (OpenSpec.upto curlKnownSpec)

/-- 'aigrettelaw07.CurlThue', WHERE WHAT IT READS IS OF BULK AT MOST 1048576: true; the input reads as it did. -/
def curlThueUptoRow : OpenClaim := { program := "ytdaaiockkbolbaa", sum := "03395bbfea1624a263bb8f688039ac55d1aecbf9ce9fe266155683e2c69b9fe2", func := "aigrette/aigrettelaw07.CurlThue", spec := "curlThue", inPlace := ["internal/abi.NoEscape", "internal/bytealg.MakeNoZero", "internal/bytealg.IndexByteString", "internal/bytealg.IndexString"], unfollowed := true, recurses := true, named := ["internal/bytealg.MaxLen"], apart := false, narrowed := true }
def CurlThueUptoSaid : Prop := curlThueUptoRow.holds Try.pinned (OpenSpec.upto curlThueSpec)

end Rows
end Go.Proofs.Ytdaaiockkbolbaa
