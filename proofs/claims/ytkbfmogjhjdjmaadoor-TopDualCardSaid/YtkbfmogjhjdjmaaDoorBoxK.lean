/- Pairs of ints as keys of a map that the call makes. -/
import Derived.Test.YtkbfmogjhjdjmaaDoorProg
import Derived.Test.YtkbfmogjhjdjmaaDoorMapB
import Derived.DeepKeys4
import Derived.WideKeyPair
namespace Go.Proofs.YtkbfmogjhjdjmaaDoor
open Go.RowKit Go.Maps Go.WideMaps
theorem laidOut : laidOutB Tryd.prog = true := by kernel_rfl
theorem arr2 : ArrKey Tryd.prog 37 3 2 := ⟨Tryd.underlying37, by kernel_rfl, by kernel_rfl, by kernel_rfl⟩
theorem row2 : (37 : TypeId) < Tryd.prog.types.size := of_decide_eq_true (by kernel_rfl)
theorem wide2 : (match Tryd.prog.underlying 37 with | some (.array _ _) | some (.struct _) => true | _ => false) = true := by rw [Tryd.underlying37]
theorem kt2 : Tryd.prog.keyTypeAt 2 37 = true := by kernel_rfl
set_option maxRecDepth 100000 in
theorem keyPair : Keyed Tryd.prog 37 := Keyed.of_law (deep_law_laid laidOut (m := 2) (by decide) row2 kt2 wide2)
theorem succ_of {n k : Nat} (h : k < n) : ∃ m, n = m + 1 := ⟨n - 1, by omega⟩
theorem rows_some : ∃ m, Tryd.prog.types.size = m + 1 := succ_of row2
/-- a pair of numbers as a key -/
def litB (a b : Nat) : Lit := .string (keyBytes [.int .i64 (a : Int), .int .i64 (b : Int)])
theorem lit_wf {a : Nat} (h : a ≤ 1000000) : (Lit.int .i64 (a : Int)).wf = true := by
  simp [Lit.wf, IntKind.min, IntKind.max, IntKind.signed, IntKind.bits]
  omega
theorem key_lit {a b : Nat} (ha : a ≤ 1000000) (hb : b ≤ 1000000) : keyOf Tryd.prog 37 (.agg #[.int .i64 (a : Int), .int .i64 (b : Int)]) = some (litB a b) :=
  keyOf_pair arr2 Tryd.underlying3 rows_some (lit_wf ha) (lit_wf hb)
theorem lit_inj {a b c d : Nat} (ha : a ≤ 1000000) (hb : b ≤ 1000000) (hc : c ≤ 1000000) (hd : d ≤ 1000000) (h : litB a b = litB c d) : a = c ∧ b = d := by
  have h1 := key_lit ha hb
  rw [h] at h1
  have h2 := keyPair.inj h1 (key_lit hc hd)
  simp at h2
  omega
end Go.Proofs.YtkbfmogjhjdjmaaDoor
